/- Contracts of package limit: begin, Clone, Take. -/
import Derived.Test.YtjcegplockihfaaLimit
namespace Go.Proofs.Ytjcegplockihfaa
open Go.RowKit
set_option linter.unusedVariables false
theorem info_cloneL : (Try.prog.info? 28).map (fun i => (i.zero, i.size, i.bytes)) = some (some (.agg #[.int .i64 0, .int .i64 0, .int .i64 0, .int .i64 0, .int .i64 0]), 5, 40) := by kernel_rfl
set_option maxRecDepth 100000 in
set_option maxHeartbeats 400000 in
theorem cloneL (A : Option Addr) (n c : Nat) (g : Nat → List Value) (w : World) (hR : Rd w 5 g A n) (hl : ∀ k, (g k).length = 5) (h1 : ∀ k u, u ∈ g k → u.oneCell' = true)
    (hA : A = none → n = 0) (hn : n * 40 ≤ 140737488355328) :
    Calls Try.prog 46 #[.slice A n c] w (ClonePost 28 5 n (flatC g n) w) := by
  obtain ⟨i0, hi, hz0, hz1, hz2⟩ := info_parts info_cloneL
  have hnil := fun (w : World) => Lib.run_eql_slice_nil (P := Try.prog) w
  cases A with
  | none =>
    obtain rfl := hA rfl
    clear hR hl h1 hA hi hz0 hz1 hz2 hn
    go_enter Try.func46, Try.ntmps46
    go_wp2_with fail
    go_ret
    exact ⟨_, rfl, World.ownsRow_nil _ _ _ _, Below.refl _ _⟩
  | some a =>
    have hn0 : ∀ (o : Obj) j u, (flatC g n)[j]? = some u → (w.alloc o).cell? (a.add j) = some u := fun o j u hu => by
      obtain ⟨q1, q2, q3⟩ := flatC_at hl (by omega) hu
      obtain ⟨b, off, hab, hb, hc⟩ := hR (by omega)
      injection hab with hab
      subst hab
      have e : (⟨b, off, none⟩ : Addr).add j = ⟨b, off + j / 5 * 5 + j % 5, none⟩ := by
        have := Nat.div_add_mod' j 5
        unfold Addr.add
        split
        · rename_i h; subst h; simp
        · simp; omega
      rw [e, World.cell?_alloc_lt _ _ _ hb]
      exact hc _ q1 _ _ q3
    have HN := Lib.hid hn0
    have H1 := Lib.hid h1
    have HL := Lib.hid (flatC_length hl n)
    clear hR hl h1 hA hn0
    go_enter Try.func46, Try.ntmps46
    go_wp2_with (at_builtin; refine wpList_append_own _ rfl _ _ 22 rfl w.heap.size 28 i0 _ 5 40 Try.underlying22 hi hz0 hz1 hz2 rfl (by omega) (.slice (some ⟨w.heap.size, 0, none⟩) 0 0) 0 [] rfl (World.ownsRow_lit w #[] 0 (Nat.le_refl _) (by simp [maxLen]) rfl) a n c (flatC g n) rfl HL.out (HN.out _) (fun u hu => by obtain ⟨k, _, hk⟩ := flatC_mem hu; exact H1.out k u hk) (by unfold maxLen; omega) (by omega) (by simp) ?_; intro v1 w1 hown hgrow _; simp only [Nat.zero_add, List.nil_append] at hown)
    go_ret
    exact ⟨v1, rfl, hown, ((Below.refl _ _).alloc (Nat.le_refl _) _).grown hgrow (by simp) (by simp [Value.ownBlock])⟩

theorem check_ok (A : Option Addr) (n c : Nat) (R : Nat → LRow) (w : World) (hn : n ≤ c) (hc : c ≤ 9223372036854775807) (hR : Rd w 5 (rowC R) A n) (ok : OkL R n) :
    Calls Try.prog 19 #[.slice A n c] w fun e w' => e = .returned (.int .i64 0) ∧ Below w.heap.size w w' :=
  (check_any A n c R w hn hc hR).mono fun _ _ ⟨_, he, hx, hb⟩ => ⟨by rw [he, hx.2 ok], hb⟩
def ErrPost (w : World) (e : Ending) (w' : World) : Prop := ∃ x : Int, e = .returned (.int .i64 x) ∧ x ≠ 0 ∧ Below w.heap.size w w'
theorem check_bad (A : Option Addr) (n c : Nat) (R : Nat → LRow) (w : World) (hn : n ≤ c) (hc : c ≤ 9223372036854775807) (hR : Rd w 5 (rowC R) A n) (ok : ¬ OkL R n) :
    Calls Try.prog 19 #[.slice A n c] w (ErrPost w) :=
  (check_any A n c R w hn hc hR).mono fun _ _ ⟨x, he, hx, hb⟩ => ⟨x, he, fun h => ok (hx.1 h), hb⟩
def BeginErr (w : World) (e : Ending) (w' : World) : Prop := ∃ x : Int, e = .returned (.tuple #[.int .i64 0, .int .i64 x]) ∧ x ≠ 0 ∧ Below w.heap.size w w'
set_option maxHeartbeats 400000 in
theorem begin_err (A : Option Addr) (n c : Nat) (R : Nat → LRow) (ref : Int) (w : World) (hn : n ≤ c) (hc : c ≤ 9223372036854775807) (hR : Rd w 5 (rowC R) A n) (h : ¬ OkL R n ∨ ixOf (refB R ref) n = -1) :
    Calls Try.prog 44 #[.slice A n c, .int .i64 ref] w (BeginErr w) := by
  by_cases ok : OkL R n
  · have hf : ixOf (refB R ref) n = -1 := by rcases h with h | h; exact absurd ok h; exact h
    have H := Lib.hid (check_ok A n c R w hn hc hR ok)
    have HF := Lib.hid hf
    have HR := Lib.hid hR
    clear hR ok h hf
    go_enter Try.func44, Try.ntmps44
    go_wp2_with fail
    refine H.out.mono ?_
    rintro e w1 ⟨rfl, hb⟩
    go_wp2_with fail
    refine (find_any A n c R ref _ (by omega) (HR.out.below hb)).mono ?_
    rintro e w2 ⟨rfl, hb2⟩
    rw [HF.out]
    go_wp2_with fail
    go_ret2
    exact ⟨4, rfl, by omega, hb.trans (hb2.mono hb.size)⟩
  · have H := Lib.hid (check_bad A n c R w hn hc hR ok)
    clear hR ok h
    go_enter Try.func44, Try.ntmps44
    go_wp2_with fail
    refine H.out.mono ?_
    rintro e w1 ⟨x, rfl, hx, hb⟩
    have hx1 : (x != 0) = true := by simpa using hx
    have hx2 : (x == 0) = false := by simpa using hx
    have HX := Lib.hid hx
    clear hx
    go_wp2_with fail
    go_ret2
    exact ⟨x, rfl, HX.out, hb⟩
set_option maxHeartbeats 400000 in
theorem begin_ok (A : Option Addr) (n c : Nat) (R : Nat → LRow) (ref : Int) (k : Nat) (w : World) (hn : n ≤ c) (hc : c ≤ 9223372036854775807) (hR : Rd w 5 (rowC R) A n) (ok : OkL R n) (hf : ixOf (refB R ref) n = k) :
    Calls Try.prog 44 #[.slice A n c, .int .i64 ref] w fun e w' => e = .returned (.tuple #[.int .i64 k, .int .i64 0]) ∧ Below w.heap.size w w' := by
  have H := Lib.hid (check_ok A n c R w hn hc hR ok)
  have HF := Lib.hid hf
  have HR := Lib.hid hR
  clear hR ok hf
  go_enter Try.func44, Try.ntmps44
  go_wp2_with fail
  refine H.out.mono ?_
  rintro e w1 ⟨rfl, hb⟩
  go_wp2_with fail
  refine (find_any A n c R ref _ (by omega) (HR.out.below hb)).mono ?_
  rintro e w2 ⟨rfl, hb2⟩
  rw [HF.out]
  go_wp2_with fail
  go_ret2
  exact ⟨rfl, hb.trans (hb2.mono hb.size)⟩

def updF {α : Type} (f : Nat → α) (k : Nat) (x : α) : Nat → α := fun i => if i = k then x else f i
theorem own_row_set {w : World} {base g cap n k j : Nat} {R : Nat → LRow} (h : w.ownsRow base 28 5 (.slice (some ⟨g, 0, none⟩) n cap) n (flatC (rowC R) n)) (hk : k < n) (hj : j < 5) (r : LRow) (u : Value) (hu : (rowC R k).set j u = rowC (fun _ => r) k) :
    w.frozen? ⟨g, k * 5 + j, none⟩ = false ∧ (w.setCell ⟨g, k * 5 + j, none⟩ u).ownsRow base 28 5 (.slice (some ⟨g, 0, none⟩) n cap) n (flatC (rowC (updF R k r)) n) := by
  refine ⟨h.frozenAt _, ?_⟩
  have h1 := (h.stored (k * 5 + j) u).1
  rw [flatC_set (rowC_len R) hj] at h1
  rw [hu] at h1
  have e : flatC (updC (rowC R) k (rowC (fun _ => r) k)) n = flatC (rowC (updF R k r)) n := flatC_congr fun i _ => by
    unfold updC updF rowC
    by_cases e : i = k <;> simp [e]
  rw [e] at h1
  exact h1
theorem own_row_cell {w : World} {base g cap n k : Nat} {R : Nat → LRow} (h : w.ownsRow base 28 5 (.slice (some ⟨g, 0, none⟩) n cap) n (flatC (rowC R) n)) (hk : k < n) (j : Nat) (hj : j < 5) : w.cell? ⟨g, k * 5 + j, none⟩ = (rowC R k)[j]? := by
  have h2 : (k + 1) * 5 ≤ n * 5 := Nat.mul_le_mul_right _ (by omega)
  rw [h.cellAt _ (by omega), flatC_get (rowC_len R) hk hj]
def RowsErr (w : World) (e : Ending) (w' : World) : Prop := ∃ x : Int, e = .returned (.tuple #[.slice none 0 0, .int .i64 x]) ∧ x ≠ 0 ∧ Below w.heap.size w w'
def RowsPost (n : Nat) (R : Nat → LRow) (w : World) (e : Ending) (w' : World) : Prop := ∃ v, e = .returned (.tuple #[v, .int .i64 0]) ∧ w'.ownsRow w.heap.size 28 5 v n (flatC (rowC R) n) ∧ Below w.heap.size w w'
def OkT (r : LRow) (l c : Int) : Prop := (0 ≤ l ∧ l ≤ 1073741824) ∧ (0 ≤ c ∧ c ≤ 1073741824) ∧ r.letters + l ≤ r.maxL ∧ r.cells + c ≤ r.maxC
def taken (r : LRow) (l c : Int) : LRow := ⟨r.ref, r.letters + l, r.cells + c, r.maxL, r.maxC⟩
set_option maxRecDepth 100000 in
set_option maxHeartbeats 1000000 in
theorem take_err0 (A : Option Addr) (n c : Nat) (R : Nat → LRow) (ref l d : Int) (w : World) (hn : n ≤ c) (hc : c ≤ 9223372036854775807) (hR : Rd w 5 (rowC R) A n) (h : ¬ OkL R n ∨ ixOf (refB R ref) n = -1) :
    Calls Try.prog 15 #[.slice A n c, .int .i64 ref, .int .i64 l, .int .i64 d] w (RowsErr w) := by
  have H := Lib.hid (begin_err A n c R ref w hn hc hR h)
  clear hR h
  go_enter Try.func15, Try.ntmps15
  go_wp2_with fail
  refine H.out.mono ?_
  rintro e w1 ⟨x, rfl, hx, hb⟩
  have hx1 : (x != 0) = true := by simpa using hx
  have hx2 : (x == 0) = false := by simpa using hx
  have HX := Lib.hid hx
  clear hx
  go_wp2_with fail
  go_ret2
  exact ⟨x, rfl, HX.out, hb⟩
set_option maxRecDepth 100000 in
set_option maxHeartbeats 2000000 in
theorem take_err1 (A : Option Addr) (n c : Nat) (R : Nat → LRow) (ref l d : Int) (k : Nat) (w : World) (hn : n ≤ c) (hc : c ≤ 9223372036854775807) (hR : Rd w 5 (rowC R) A n) (ok : OkL R n) (hf : ixOf (refB R ref) n = k) (hk : k < n) (h : ¬ OkT (R k) l d) :
    Calls Try.prog 15 #[.slice A n c, .int .i64 ref, .int .i64 l, .int .i64 d] w (RowsErr w) := by
  have H := Lib.hid (begin_ok A n c R ref k w hn hc hR ok hf)
  obtain ⟨b, off, hA, hb0, hcell⟩ := hR (by omega)
  subst hA
  have c0 : w.cell? ⟨b, off + k * 5, none⟩ = some (.int .i64 (R k).ref) := hcell k hk 0 _ rfl
  have c1 : w.cell? ⟨b, off + k * 5 + 1, none⟩ = some (.int .i64 (R k).letters) := hcell k hk 1 _ rfl
  have c2 : w.cell? ⟨b, off + k * 5 + 2, none⟩ = some (.int .i64 (R k).cells) := hcell k hk 2 _ rfl
  have c3 : w.cell? ⟨b, off + k * 5 + 3, none⟩ = some (.int .i64 (R k).maxL) := hcell k hk 3 _ rfl
  have c4 : w.cell? ⟨b, off + k * 5 + 4, none⟩ = some (.int .i64 (R k).maxC) := hcell k hk 4 _ rfl
  have hfine := (ok.2 k hk).1
  have h100 := ok.1
  generalize R k = r at *
  obtain ⟨rr, rl, rc, rml, rmc⟩ := r
  unfold FineL at hfine
  unfold OkT at h
  dsimp only at c0 c1 c2 c3 c4 hfine h
  obtain ⟨f1, f2, f3, f4, f5, f6⟩ := hfine
  have HH := Lib.hid h
  clear hR ok hf hcell h
  by_cases q1 : amtB l = true
  · have q1' : 0 ≤ l ∧ l ≤ 1073741824 := by simpa [amtB] using q1
    by_cases q2 : amtB d = true
    · have q2' : 0 ≤ d ∧ d ≤ 1073741824 := by simpa [amtB] using q2
      by_cases q3 : rml < rl + l
      · go_enter Try.func15, Try.ntmps15
        go_wp2_with fail
        refine H.out.mono ?_
        rintro e w1 ⟨rfl, hb⟩
        have hz := hb.size
        have hw1 : ∀ o, w1.cell? ⟨b, o, none⟩ = w.cell? ⟨b, o, none⟩ := fun o => hb.cell (p := ⟨b, o, none⟩) hb0
        rw [← hw1] at c0 c1 c2 c3 c4
        clear hw1
        go_wp2_with (go_at_call 45; refine (amount_any _ _).mono ?_; rintro e w' ⟨rfl, rfl⟩)
        go_ret2
        exact ⟨6, rfl, by omega, hb.alloc hz _⟩
      · have q4 : rmc < rc + d := by have := HH.out; omega
        go_enter Try.func15, Try.ntmps15
        go_wp2_with fail
        refine H.out.mono ?_
        rintro e w1 ⟨rfl, hb⟩
        have hz := hb.size
        have hw1 : ∀ o, w1.cell? ⟨b, o, none⟩ = w.cell? ⟨b, o, none⟩ := fun o => hb.cell (p := ⟨b, o, none⟩) hb0
        rw [← hw1] at c0 c1 c2 c3 c4
        clear hw1
        go_wp2_with (go_at_call 45; refine (amount_any _ _).mono ?_; rintro e w' ⟨rfl, rfl⟩)
        go_ret2
        exact ⟨2, rfl, by omega, hb.alloc hz _⟩
    · have q2' : amtB d = false := by simpa using q2
      clear q2
      go_enter Try.func15, Try.ntmps15
      go_wp2_with fail
      refine H.out.mono ?_
      rintro e w1 ⟨rfl, hb⟩
      have hz := hb.size
      have hw1 : ∀ o, w1.cell? ⟨b, o, none⟩ = w.cell? ⟨b, o, none⟩ := fun o => hb.cell (p := ⟨b, o, none⟩) hb0
      rw [← hw1] at c0 c1 c2 c3 c4
      clear hw1
      go_wp2_with (go_at_call 45; refine (amount_any _ _).mono ?_; rintro e w' ⟨rfl, rfl⟩)
      go_ret2
      exact ⟨1, rfl, by omega, hb.alloc hz _⟩
  · have q1' : amtB l = false := by simpa using q1
    clear q1
    go_enter Try.func15, Try.ntmps15
    go_wp2_with fail
    refine H.out.mono ?_
    rintro e w1 ⟨rfl, hb⟩
    have hz := hb.size
    have hw1 : ∀ o, w1.cell? ⟨b, o, none⟩ = w.cell? ⟨b, o, none⟩ := fun o => hb.cell (p := ⟨b, o, none⟩) hb0
    rw [← hw1] at c0 c1 c2 c3 c4
    clear hw1
    go_wp2_with (go_at_call 45; refine (amount_any _ _).mono ?_; rintro e w' ⟨rfl, rfl⟩)
    go_ret2
    exact ⟨1, rfl, by omega, hb.alloc hz _⟩
end Go.Proofs.Ytjcegplockihfaa
