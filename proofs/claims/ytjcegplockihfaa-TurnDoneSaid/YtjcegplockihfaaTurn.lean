/- Contracts of package turn: checkJobs. -/
import Derived.Test.YtjcegplockihfaaTurnPlain
import Derived.Deep.QuietTactic
import Derived.BigQuiet
import Derived.IntWalk
namespace Go.Proofs.Ytjcegplockihfaa
open Go.RowKit
set_option linter.unusedVariables false
set_option maxHeartbeats 400000 in
theorem ixJ_any (I : World → Prop) (A : Option Addr) (b off n c f : Nat) (cp : Array Value) (g0 g1 : Nat → Value) (p : Nat → Bool) (w : World) (hn : n ≤ 9223372036854775807)
    (hA : 0 < n → A = some ⟨b, off, none⟩) (he : Enters Try.prog f)
    (hc : ∀ W, I W → ∀ k, k < n → W.cell? ⟨b, off + k * 2, none⟩ = some (g0 k) ∧ W.cell? ⟨b, off + k * 2 + 1, none⟩ = some (g1 k))
    (hf : ∀ W, I W → ∀ k, k < n → Calls Try.prog f (#[.agg #[g0 k, g1 k]] ++ cp) W fun e W' => e = .returned (.bool (p k)) ∧ I W') (hw : I w) :
    Calls Try.prog 27 #[.slice A n c, .func (.func f) #[] cp] w fun e w' => e = .returned (.int .i64 (ixOf p n)) ∧ I w' := by
  have HC := Lib.hid hc
  have HF := Lib.hid hf
  have HA := Lib.hid hA
  have HE := Lib.hid he
  clear hc hf hA he
  go_enter Try.func27, Try.ntmps27
  go_wp2_with fail
  go_loopw [5, 4, 8] (fun _ _ i wr => ∃ k : Nat, k ≤ n ∧ i = .int .i64 k ∧ (∀ j, j < k → p j = false) ∧ I wr) (fun _ _ i _ => n - (intOf i).toNat)
  case atStart => exact ⟨0, Nat.zero_le _, rfl, fun j hj => by omega, hw⟩
  case round =>
    obtain ⟨k, hk, rfl, hlow, hI⟩ := hrel
    have HL := Lib.hid hlow
    clear hlow
    by_cases hlt : k < n
    · obtain rfl := HA.out (by omega)
      obtain ⟨hc0, hc1⟩ := HC.out wr hI k hlt
      have hen := HE.out (#[.agg #[g0 k, g1 k]] ++ cp) wr
      go_wp2_with fail
      refine (HF.out wr hI k hlt).mono ?_
      rintro e W' ⟨rfl, hI'⟩
      by_cases hp : p k = true
      · clear hc0 hc1 hen
        go_wp2_with fail
        go_ret
        exact ⟨ret_int (ixOf_found hlt hp HL.out).symm, hI'⟩
      · have hp' : p k = false := by simpa using hp
        clear hc0 hc1 hen hp
        go_wp2_with fail
        go_roundw
        case rel =>
          refine ⟨k + 1, by omega, by go_num, fun j hj => ?_, hI'⟩
          by_cases e : j = k
          · rw [e]; exact hp'
          · exact HL.out j (by omega)
        case measure => simp [intOf]; omega
    · go_wp2_with fail
      go_ret
      exact ⟨ret_int (ixOf_none fun j hj => HL.out j (by omega)).symm, hI⟩

theorem ixJ_rd (A : Option Addr) (n c f : Nat) (cp : Array Value) (g0 g1 : Nat → Value) (p : Nat → Bool) (w : World) (hn : n ≤ 9223372036854775807)
    (hR : Rd w 2 (fun k => [g0 k, g1 k]) A n) (he : Enters Try.prog f)
    (hf : ∀ W, Below w.heap.size w W → ∀ k, k < n → Calls Try.prog f (#[.agg #[g0 k, g1 k]] ++ cp) W fun e W' => e = .returned (.bool (p k)) ∧ Below w.heap.size w W') :
    Calls Try.prog 27 #[.slice A n c, .func (.func f) #[] cp] w fun e w' => e = .returned (.int .i64 (ixOf p n)) ∧ Below w.heap.size w w' := by
  by_cases h0 : 0 < n
  · obtain ⟨b, off, hA, hb, hc⟩ := hR h0
    refine ixJ_any (fun W => Below w.heap.size w W) A b off n c f cp g0 g1 p w hn (fun _ => hA) he (fun W hW k hk => ?_) hf (Below.refl _ _)
    have hcell : ∀ o, W.cell? ⟨b, o, none⟩ = w.cell? ⟨b, o, none⟩ := fun o => hW.cell (p := ⟨b, o, none⟩) hb
    simp only [hcell]
    exact ⟨by simpa using hc k hk 0 _ rfl, by simpa using hc k hk 1 _ rfl⟩
  · exact ixJ_any (fun W => Below w.heap.size w W) A 0 0 n c f cp g0 g1 p w hn (fun h => absurd h h0) he (fun W hW k hk => by omega) hf (Below.refl _ _)

set_option maxHeartbeats 400000 in
theorem cfJ_any (I : World → Prop) (A : Option Addr) (b off n c f : Nat) (cp : Array Value) (g0 g1 : Nat → Value) (p : Nat → Bool) (w : World) (hn : n ≤ 9223372036854775807)
    (hA : 0 < n → A = some ⟨b, off, none⟩) (he : Enters Try.prog f)
    (hc : ∀ W, I W → ∀ k, k < n → W.cell? ⟨b, off + k * 2, none⟩ = some (g0 k) ∧ W.cell? ⟨b, off + k * 2 + 1, none⟩ = some (g1 k))
    (hf : ∀ W, I W → ∀ k, k < n → Calls Try.prog f (#[.agg #[g0 k, g1 k]] ++ cp) W fun e W' => e = .returned (.bool (p k)) ∧ I W') (hw : I w) :
    Calls Try.prog 64 #[.slice A n c, .func (.func f) #[] cp] w fun e w' => e = .returned (.bool (anyOf p n)) ∧ I w' := by
  have H := Lib.hid (ixJ_any I A b off n c f cp g0 g1 p w hn hA he hc hf hw)
  clear hc hf hA he hw
  go_enter Try.func64, Try.ntmps64
  go_wp2_with fail
  refine H.out.mono ?_
  rintro e W' ⟨rfl, hI'⟩
  go_wp2_with fail
  go_ret
  exact ⟨rfl, hI'⟩

theorem cfJ_rd (A : Option Addr) (n c f : Nat) (cp : Array Value) (g0 g1 : Nat → Value) (p : Nat → Bool) (w : World) (hn : n ≤ 9223372036854775807)
    (hR : Rd w 2 (fun k => [g0 k, g1 k]) A n) (he : Enters Try.prog f)
    (hf : ∀ W, Below w.heap.size w W → ∀ k, k < n → Calls Try.prog f (#[.agg #[g0 k, g1 k]] ++ cp) W fun e W' => e = .returned (.bool (p k)) ∧ Below w.heap.size w W') :
    Calls Try.prog 64 #[.slice A n c, .func (.func f) #[] cp] w fun e w' => e = .returned (.bool (anyOf p n)) ∧ Below w.heap.size w w' := by
  by_cases h0 : 0 < n
  · obtain ⟨b, off, hA, hb, hc⟩ := hR h0
    refine cfJ_any (fun W => Below w.heap.size w W) A b off n c f cp g0 g1 p w hn (fun _ => hA) he (fun W hW k hk => ?_) hf (Below.refl _ _)
    have hcell : ∀ o, W.cell? ⟨b, o, none⟩ = w.cell? ⟨b, o, none⟩ := fun o => hW.cell (p := ⟨b, o, none⟩) hb
    simp only [hcell]
    exact ⟨by simpa using hc k hk 0 _ rfl, by simpa using hc k hk 1 _ rfl⟩
  · exact cfJ_any (fun W => Below w.heap.size w W) A 0 0 n c f cp g0 g1 p w hn (fun h => absurd h h0) he (fun W hW k hk => by omega) hf (Below.refl _ _)

theorem info_cloneJb : (Try.prog.info? 47).map (fun i => (i.zero, i.size, i.bytes)) = some (some (.agg #[.int .i64 0, .int .i64 0]), 2, 16) := by kernel_rfl
set_option maxRecDepth 100000 in
set_option maxHeartbeats 400000 in
theorem cloneJb (A : Option Addr) (n c : Nat) (g : Nat → List Value) (w : World) (hR : Rd w 2 g A n) (hl : ∀ k, (g k).length = 2) (h1 : ∀ k u, u ∈ g k → u.oneCell' = true)
    (hA : A = none → n = 0) (hn : n * 16 ≤ 140737488355328) :
    Calls Try.prog 51 #[.slice A n c] w (ClonePost 47 2 n (flatC g n) w) := by
  obtain ⟨i0, hi, hz0, hz1, hz2⟩ := info_parts info_cloneJb
  have hnil := fun (w : World) => Lib.run_eql_slice_nil (P := Try.prog) w
  cases A with
  | none =>
    obtain rfl := hA rfl
    clear hR hl h1 hA hi hz0 hz1 hz2 hn
    go_enter Try.func51, Try.ntmps51
    go_wp2_with fail
    go_ret
    exact ⟨_, rfl, World.ownsRow_nil _ _ _ _, Below.refl _ _⟩
  | some a =>
    have hn0 : ∀ (o : Obj) j u, (flatC g n)[j]? = some u → (w.alloc o).cell? (a.add j) = some u := fun o j u hu => by
      obtain ⟨q1, q2, q3⟩ := flatC_at hl (by omega) hu
      obtain ⟨b, off, hab, hb, hc⟩ := hR (by omega)
      injection hab with hab
      subst hab
      have e : (⟨b, off, none⟩ : Addr).add j = ⟨b, off + j / 2 * 2 + j % 2, none⟩ := by
        have := Nat.div_add_mod' j 2
        unfold Addr.add
        split
        · rename_i h; subst h; simp
        · simp; omega
      rw [e, World.cell?_alloc_lt _ _ _ hb]
      exact hc _ q1 _ _ q3
    have HN := Lib.hid hn0
    have H1 := Lib.hid h1
    have HL := Lib.hid (flatC_length hl n)
    clear hR hl h1 hA hn0
    go_enter Try.func51, Try.ntmps51
    go_wp2_with (at_builtin; refine wpList_append_own _ rfl _ _ 42 rfl w.heap.size 47 i0 _ 2 16 Try.underlying42 hi hz0 hz1 hz2 rfl (by omega) (.slice (some ⟨w.heap.size, 0, none⟩) 0 0) 0 [] rfl (World.ownsRow_lit w #[] 0 (Nat.le_refl _) (by simp [maxLen]) rfl) a n c (flatC g n) rfl HL.out (HN.out _) (fun u hu => by obtain ⟨k, _, hk⟩ := flatC_mem hu; exact H1.out k u hk) (by unfold maxLen; omega) (by omega) (by simp) ?_; intro v1 w1 hown hgrow _; simp only [Nat.zero_add, List.nil_append] at hown)
    go_ret
    exact ⟨v1, rfl, hown, ((Below.refl _ _).alloc (Nat.le_refl _) _).grown hgrow (by simp) (by simp [Value.ownBlock])⟩

def jbC (R : Nat → Jb) : Nat → List Value := fun k => [.int .i64 (R k).id, .int .i64 (R k).st]
theorem jbC_len (R : Nat → Jb) : ∀ k, (jbC R k).length = 2 := fun _ => rfl
theorem jbC_one (R : Nat → Jb) : ∀ k u, u ∈ jbC R k → u.oneCell' = true := fun k u h => by
  simp [jbC] at h
  rcases h with rfl | rfl <;> rfl
def idJ (R : Nat → Jb) (id : Int) : Nat → Bool := fun k => (R k).id == id
/-- a closure that compares a job's id with that of a captured one -/
def EqJ (fn : Nat) : Prop := ∀ (r : Jb) (id : Int) (b : Nat) (w : World), b < w.heap.size → w.cell? ⟨b, 0, none⟩ = some (.int .i64 id) →
  Calls Try.prog fn #[.agg #[.int .i64 r.id, .int .i64 r.st], .pointer (some ⟨b, 0, none⟩)] w fun e w' => e = .returned (.bool (r.id == id)) ∧ Below w.heap.size w w'
set_option maxHeartbeats 400000 in
theorem cj1_any : EqJ 65 := by
  intro r id b w hb hc
  go_enter Try.func65, Try.ntmps65
  go_wp2_with fail
  go_ret
  exact ⟨rfl, (Below.refl _ _).alloc (Nat.le_refl _) _⟩
theorem cj1_enters : Enters Try.prog 65 := fun _ _ => by kernel_rfl
set_option maxHeartbeats 400000 in
theorem lag1_any : EqJ 28 := by
  intro r id b w hb hc
  go_enter Try.func28, Try.ntmps28
  go_wp2_with fail
  go_ret
  exact ⟨rfl, (Below.refl _ _).alloc (Nat.le_refl _) _⟩
theorem lag1_enters : Enters Try.prog 28 := fun _ _ => by kernel_rfl
theorem ixJ_eq (fn : Nat) (hen : Enters Try.prog fn) (hf : EqJ fn) (A : Option Addr) (n c : Nat) (R : Nat → Jb) (id : Int) (b : Nat) (w : World) (hn : n ≤ 9223372036854775807) (hR : Rd w 2 (jbC R) A n) (hb : b < w.heap.size) (hc : w.cell? ⟨b, 0, none⟩ = some (.int .i64 id)) :
    Calls Try.prog 27 #[.slice A n c, .func (.func fn) #[] #[.pointer (some ⟨b, 0, none⟩)]] w fun e w' => e = .returned (.int .i64 (ixOf (idJ R id) n)) ∧ Below w.heap.size w w' :=
  ixJ_rd A n c fn #[.pointer (some ⟨b, 0, none⟩)] _ _ (idJ R id) w hn hR hen
    fun W hW k _ => (hf (R k) id b W (by have := hW.size; omega) ((hW.cell (p := ⟨_, _, none⟩) hb).trans hc)).mono fun e W' ⟨he, hb'⟩ => ⟨he, hW.trans (hb'.mono hW.size)⟩
theorem cfJ_eq (fn : Nat) (hen : Enters Try.prog fn) (hf : EqJ fn) (A : Option Addr) (n c : Nat) (R : Nat → Jb) (id : Int) (b : Nat) (w : World) (hn : n ≤ 9223372036854775807) (hR : Rd w 2 (jbC R) A n) (hb : b < w.heap.size) (hc : w.cell? ⟨b, 0, none⟩ = some (.int .i64 id)) :
    Calls Try.prog 64 #[.slice A n c, .func (.func fn) #[] #[.pointer (some ⟨b, 0, none⟩)]] w fun e w' => e = .returned (.bool (anyOf (idJ R id) n)) ∧ Below w.heap.size w w' :=
  cfJ_rd A n c fn #[.pointer (some ⟨b, 0, none⟩)] _ _ (idJ R id) w hn hR hen
    fun W hW k _ => (hf (R k) id b W (by have := hW.size; omega) ((hW.cell (p := ⟨_, _, none⟩) hb).trans hc)).mono fun e W' ⟨he, hb'⟩ => ⟨he, hW.trans (hb'.mono hW.size)⟩
def FineJ (R : Nat → Jb) (k : Nat) : Prop := 1 ≤ (R k).st ∧ (R k).st ≤ 10000 ∧ ∀ j, j < k → (R j).id ≠ (R k).id
def OkJ (R : Nat → Jb) (n : Nat) (f : Int) : Prop := n ≤ 100 ∧ 1 ≤ f ∧ f ≤ 10000 ∧ ∀ k, k < n → FineJ R k
def ChkJ (Ok : Prop) (w : World) (e : Ending) (w' : World) : Prop := ∃ x : Int, e = .returned (.int .i64 x) ∧ (x = 0 ↔ Ok) ∧ Below w.heap.size w w'
set_option maxRecDepth 100000 in
set_option maxHeartbeats 2000000 in
theorem checkJobs_any (A : Option Addr) (n c : Nat) (R : Nat → Jb) (f : Int) (w : World) (hn : n ≤ c) (hc : c ≤ 9223372036854775807) (hR : Rd w 2 (jbC R) A n) :
    Calls Try.prog 50 #[.slice A n c, .int .i64 f] w (ChkJ (OkJ R n f) w) := by
  have HR := Lib.hid hR
  clear hR
  by_cases h100 : 100 < n
  · have e0 : decide ((100 : Int) < (n : Int)) = true := by simp; omega
    go_enter Try.func50, Try.ntmps50
    go_wp2_with fail
    go_ret
    exact ⟨2, rfl, ⟨fun h => by omega, fun h => by have := h.1; omega⟩, Below.refl _ _⟩
  have e0 : decide ((100 : Int) < (n : Int)) = false := by simp; omega
  by_cases f1 : f < 1
  · have e1 : decide (f < 1) = true := by simpa using f1
    go_enter Try.func50, Try.ntmps50
    go_wp2_with fail
    go_ret
    exact ⟨1, rfl, ⟨fun h => by omega, fun h => by have := h.2.1; omega⟩, Below.refl _ _⟩
  have e1 : decide (f < 1) = false := by simpa using f1
  by_cases f2 : 10000 < f
  · have e2 : decide (10000 < f) = true := by simpa using f2
    go_enter Try.func50, Try.ntmps50
    go_wp2_with fail
    go_ret
    exact ⟨1, rfl, ⟨fun h => by omega, fun h => by have := h.2.2.1; omega⟩, Below.refl _ _⟩
  have e2 : decide (10000 < f) = false := by simpa using f2
  go_enter Try.func50, Try.ntmps50
  go_wp2_with fail
  go_loopw [5, 6, 20, 25, 34] (fun _ _ i _ _ wr => ∃ k : Nat, k ≤ n ∧ i = .int .i64 k ∧ (∀ j, j < k → FineJ R j) ∧ Below w.heap.size w wr) (fun _ _ i _ _ _ => n - (intOf i).toNat)
  case atStart => exact ⟨0, Nat.zero_le _, rfl, fun j hj => by omega, Below.refl _ _⟩
  case round =>
    obtain ⟨k, hk, rfl, hlow, hB⟩ := hrel
    have HL := Lib.hid hlow
    clear hlow
    by_cases hlt : k < n
    · obtain ⟨b, off, rfl, hb, hcell⟩ := HR.out (by omega)
      have c0 : wr.cell? ⟨b, off + k * 2, none⟩ = some (.int .i64 (R k).id) := (hB.cell (p := ⟨b, _, none⟩) hb).trans (hcell k hlt 0 _ rfl)
      have c1 : wr.cell? ⟨b, off + k * 2 + 1, none⟩ = some (.int .i64 (R k).st) := (hB.cell (p := ⟨b, _, none⟩) hb).trans (hcell k hlt 1 _ rfl)
      obtain ⟨r, hr⟩ : ∃ r, R k = r := ⟨_, rfl⟩
      rw [hr] at c0 c1
      have HK := Lib.hid hr
      have hBs := hB.size
      clear hr hcell
      obtain ⟨id, st⟩ := r
      dsimp only at c0 c1
      by_cases q1 : st < 1
      · have d1 : decide (st < 1) = true := by simpa using q1
        go_wp2_with fail
        go_ret
        exact ⟨1, rfl, ⟨fun h => by omega, fun h => by
          have h1 := (h.2.2.2 k hlt).1
          rw [HK.out] at h1
          dsimp only at h1
          omega⟩, hB.alloc hBs _⟩
      have d1 : decide (st < 1) = false := by simpa using q1
      by_cases q2 : 10000 < st
      · have d2 : decide (10000 < st) = true := by simpa using q2
        go_wp2_with fail
        go_ret
        exact ⟨1, rfl, ⟨fun h => by omega, fun h => by
          have h1 := (h.2.2.2 k hlt).2.1
          rw [HK.out] at h1
          dsimp only at h1
          omega⟩, hB.alloc hBs _⟩
      have d2 : decide (10000 < st) = false := by simpa using q2
      have i1 : (0 : Int) ≤ (k : Int) := by omega
      have i2 : (k : Int) ≤ (c : Int) := by omega
      have i3 : (k : Int) ≤ (n : Int) := by omega
      have HB := Lib.hid hB
      clear hB
      go_wp2_with fail
      refine (cfJ_eq 65 cj1_enters cj1_any _ k c R id wr.heap.size _ (by omega) (by exact (HR.out.take (by omega)).below (HB.out.alloc hBs _)) (by simp) (by simp [go_sem])).mono ?_
      rintro e w1 ⟨rfl, hb1⟩
      have HB1 := Lib.hid ((HB.out.alloc hBs _).trans (hb1.mono (by simp; omega)))
      clear hb1 c0 c1
      cases hany : anyOf (idJ R id) k with
      | true =>
        have HN := Lib.hid (anyOf_true.1 hany)
        clear hany
        go_wp2_with fail
        go_ret
        exact ⟨5, rfl, ⟨fun h => by omega, fun h => by
          obtain ⟨j, hj, hp⟩ := HN.out
          have h1 := (h.2.2.2 k hlt).2.2 j hj
          rw [HK.out] at h1
          simp [idJ] at hp
          exact absurd hp h1⟩, HB1.out⟩
      | false =>
        have HN := Lib.hid (anyOf_false.1 hany)
        clear hany
        go_wp2_with fail
        go_roundw
        case rel =>
          refine ⟨k + 1, by omega, by go_num, fun j hj => ?_, HB1.out⟩
          by_cases e : j = k
          · subst e
            unfold FineJ
            rw [HK.out]
            refine ⟨by dsimp only; omega, by dsimp only; omega, fun i hi => ?_⟩
            have := HN.out i hi
            simpa [idJ] using this
          · exact HL.out j (by omega)
        case measure => simp [intOf]; omega
    · go_wp2_with fail
      go_ret
      exact ⟨0, rfl, ⟨fun _ => ⟨by omega, by omega, by omega, fun j hj => HL.out j (by omega)⟩, fun _ => rfl⟩, hB⟩
end Go.Proofs.Ytjcegplockihfaa
