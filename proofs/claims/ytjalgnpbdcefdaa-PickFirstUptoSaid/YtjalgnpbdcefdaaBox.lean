/- Contracts of package box: fits, Check. -/
import Derived.Test.YtjalgnpbdcefdaaLetter
namespace Go.Proofs.Ytjalgnpbdcefdaa
open Go.RowKit
set_option linter.unusedVariables false
set_option maxHeartbeats 400000 in
theorem ixLt_any (I : World → Prop) (A : Option Addr) (b off n c f : Nat) (cp : Array Value) (g0 g1 g2 g3 g4 g5 g6 g7 g8 : Nat → Value) (p : Nat → Bool) (w : World) (hn : n ≤ 9223372036854775807)
    (hA : 0 < n → A = some ⟨b, off, none⟩) (he : Enters Try.prog f)
    (hc : ∀ W, I W → ∀ k, k < n → W.cell? ⟨b, off + k * 9, none⟩ = some (g0 k) ∧ W.cell? ⟨b, off + k * 9 + 1, none⟩ = some (g1 k) ∧ W.cell? ⟨b, off + k * 9 + 2, none⟩ = some (g2 k) ∧ W.cell? ⟨b, off + k * 9 + 3, none⟩ = some (g3 k) ∧ W.cell? ⟨b, off + k * 9 + 4, none⟩ = some (g4 k) ∧ W.cell? ⟨b, off + k * 9 + 5, none⟩ = some (g5 k) ∧ W.cell? ⟨b, off + k * 9 + 6, none⟩ = some (g6 k) ∧ W.cell? ⟨b, off + k * 9 + 7, none⟩ = some (g7 k) ∧ W.cell? ⟨b, off + k * 9 + 8, none⟩ = some (g8 k))
    (hf : ∀ W, I W → ∀ k, k < n → Calls Try.prog f (#[.agg #[g0 k, g1 k, g2 k, g3 k, g4 k, g5 k, g6 k, g7 k, g8 k]] ++ cp) W fun e W' => e = .returned (.bool (p k)) ∧ I W') (hw : I w) :
    Calls Try.prog 38 #[.slice A n c, .func (.func f) #[] cp] w fun e w' => e = .returned (.int .i64 (ixOf p n)) ∧ I w' := by
  have HC := Lib.hid hc
  have HF := Lib.hid hf
  have HA := Lib.hid hA
  have HE := Lib.hid he
  clear hc hf hA he
  go_enter Try.func38, Try.ntmps38
  go_wp2_with fail
  go_loopw [5, 4, 8] (fun _ _ i wr => ∃ k : Nat, k ≤ n ∧ i = .int .i64 k ∧ (∀ j, j < k → p j = false) ∧ I wr) (fun _ _ i _ => n - (intOf i).toNat)
  case atStart => exact ⟨0, Nat.zero_le _, rfl, fun j hj => by omega, hw⟩
  case round =>
    obtain ⟨k, hk, rfl, hlow, hI⟩ := hrel
    have HL := Lib.hid hlow
    clear hlow
    by_cases hlt : k < n
    · obtain rfl := HA.out (by omega)
      obtain ⟨hc0, hc1, hc2, hc3, hc4, hc5, hc6, hc7, hc8⟩ := HC.out wr hI k hlt
      have hen := HE.out (#[.agg #[g0 k, g1 k, g2 k, g3 k, g4 k, g5 k, g6 k, g7 k, g8 k]] ++ cp) wr
      go_wp2_with fail
      refine (HF.out wr hI k hlt).mono ?_
      rintro e W' ⟨rfl, hI'⟩
      by_cases hp : p k = true
      · clear hc0 hc1 hc2 hc3 hc4 hc5 hc6 hc7 hc8 hen
        go_wp2_with fail
        go_ret
        exact ⟨ret_int (ixOf_found hlt hp HL.out).symm, hI'⟩
      · have hp' : p k = false := by simpa using hp
        clear hc0 hc1 hc2 hc3 hc4 hc5 hc6 hc7 hc8 hen hp
        go_wp2_with fail
        go_roundw
        case rel =>
          refine ⟨k + 1, by omega, by go_num, fun j hj => ?_, hI'⟩
          by_cases e : j = k
          · rw [e]; exact hp'
          · exact HL.out j (by omega)
        case measure => simp [intOf]; omega
    · go_wp2_with fail
      go_ret
      exact ⟨ret_int (ixOf_none fun j hj => HL.out j (by omega)).symm, hI⟩

set_option maxHeartbeats 400000 in
theorem cfL_any (I : World → Prop) (A : Option Addr) (b off n c f : Nat) (cp : Array Value) (g0 g1 g2 g3 g4 g5 g6 g7 g8 : Nat → Value) (p : Nat → Bool) (w : World) (hn : n ≤ 9223372036854775807)
    (hA : 0 < n → A = some ⟨b, off, none⟩) (he : Enters Try.prog f)
    (hc : ∀ W, I W → ∀ k, k < n → W.cell? ⟨b, off + k * 9, none⟩ = some (g0 k) ∧ W.cell? ⟨b, off + k * 9 + 1, none⟩ = some (g1 k) ∧ W.cell? ⟨b, off + k * 9 + 2, none⟩ = some (g2 k) ∧ W.cell? ⟨b, off + k * 9 + 3, none⟩ = some (g3 k) ∧ W.cell? ⟨b, off + k * 9 + 4, none⟩ = some (g4 k) ∧ W.cell? ⟨b, off + k * 9 + 5, none⟩ = some (g5 k) ∧ W.cell? ⟨b, off + k * 9 + 6, none⟩ = some (g6 k) ∧ W.cell? ⟨b, off + k * 9 + 7, none⟩ = some (g7 k) ∧ W.cell? ⟨b, off + k * 9 + 8, none⟩ = some (g8 k))
    (hf : ∀ W, I W → ∀ k, k < n → Calls Try.prog f (#[.agg #[g0 k, g1 k, g2 k, g3 k, g4 k, g5 k, g6 k, g7 k, g8 k]] ++ cp) W fun e W' => e = .returned (.bool (p k)) ∧ I W') (hw : I w) :
    Calls Try.prog 13 #[.slice A n c, .func (.func f) #[] cp] w fun e w' => e = .returned (.bool (anyOf p n)) ∧ I w' := by
  have H := Lib.hid (ixLt_any I A b off n c f cp g0 g1 g2 g3 g4 g5 g6 g7 g8 p w hn hA he hc hf hw)
  clear hc hf hA he hw
  go_enter Try.func13, Try.ntmps13
  go_wp2_with fail
  refine H.out.mono ?_
  rintro e W' ⟨rfl, hI'⟩
  go_wp2_with fail
  go_ret
  exact ⟨rfl, hI'⟩

def fitsB (k : Int) : Bool := k == 1 || k == 2
set_option maxHeartbeats 400000 in
theorem fits_any (k f t num : Int) (s : ByteArray) (k2 m2 : Int) (s2 : ByteArray) (A2 : Option Addr) (n2 c2 : Nat) (w : World) :
    Calls Try.prog 37 #[.agg #[.int .i64 k, .int .i64 f, .int .i64 t, .int .i64 num, .string s, .int .i64 k2, .int .i64 m2, .string s2, .slice A2 n2 c2]] w fun e w' => e = .returned (.bool (fitsB k)) ∧ Below w.heap.size w w' := by
  by_cases h1 : k = 1
  · subst h1
    go_enter Try.func37, Try.ntmps37
    go_wp2_with fail
    go_ret
    exact ⟨rfl, (Below.refl _ _).alloc (Nat.le_refl _) _⟩
  · have e1 : (k == 1) = false := by simpa using h1
    clear h1
    go_enter Try.func37, Try.ntmps37
    go_wp2_with fail
    go_ret
    exact ⟨ret_bool (by simp [fitsB, e1]), (Below.refl _ _).alloc (Nat.le_refl _) _⟩
set_option maxHeartbeats 400000 in
theorem check1_any (k f t num : Int) (s : ByteArray) (k2 m2 : Int) (s2 : ByteArray) (A2 : Option Addr) (n2 c2 : Nat) (w : World) :
    Calls Try.prog 36 #[.agg #[.int .i64 k, .int .i64 f, .int .i64 t, .int .i64 num, .string s, .int .i64 k2, .int .i64 m2, .string s2, .slice A2 n2 c2]] w fun e w' => e = .returned (.bool (!fitsB k)) ∧ Below w.heap.size w w' := by
  go_enter Try.func36, Try.ntmps36
  go_wp2_with fail
  refine (fits_any _ _ _ _ _ _ _ _ _ _ _ _).mono ?_
  rintro e w1 ⟨rfl, hb1⟩
  go_wp2_with fail
  go_ret
  exact ⟨rfl, ((Below.refl _ _).alloc (Nat.le_refl _) _).trans (hb1.mono (by simp))⟩
theorem check1_enters : Enters Try.prog 36 := fun _ _ => by kernel_rfl
theorem isL_ex {w : World} {S : Nat → Prop} {l : LT} {cs : List Value} (h : l.isL w S cs) : ∃ q : (Int × Int × ByteArray) × (Option Addr × Nat × Nat), cs = [.int .i64 l.kind, .int .i64 l.frm, .int .i64 l.to, .int .i64 l.num, .string l.text, .int .i64 q.1.1, .int .i64 q.1.2.1, .string q.1.2.2, .slice q.2.1 q.2.2.1 q.2.2.2] := by
  obtain ⟨k2, m2, s2, A2, n2, c2, h, _⟩ := h
  exact ⟨((k2, m2, s2), (A2, n2, c2)), h⟩
/-- a function of a letter asked of each, by ContainsFunc -/
theorem cfL_rd (fn n c : Nat) (cp : Array Value) (A : Option Addr) (arg : Nat → LT) (S : Nat → Prop) (p : Nat → Bool) (w : World) (hn : n ≤ 9223372036854775807) (hR : RdL w S A n arg) (he : Enters Try.prog fn)
    (hf : ∀ W, Below w.heap.size w W → ∀ i cs, i < n → (arg i).isL W S cs → Calls Try.prog fn (#[.agg cs.toArray] ++ cp) W fun e W' => e = .returned (.bool (p i)) ∧ Below w.heap.size w W') :
    Calls Try.prog 13 #[.slice A n c, .func (.func fn) #[] cp] w fun e w' => e = .returned (.bool (anyOf p n)) ∧ Below w.heap.size w w' := by
  by_cases h0 : 0 < n
  · obtain ⟨b, off, hA, hb, hSb, C, hC⟩ := hR h0
    have hq : ∀ i, ∃ q : (Int × Int × ByteArray) × (Option Addr × Nat × Nat), i < n → C i = [.int .i64 (arg i).kind, .int .i64 (arg i).frm, .int .i64 (arg i).to, .int .i64 (arg i).num, .string (arg i).text, .int .i64 q.1.1, .int .i64 q.1.2.1, .string q.1.2.2, .slice q.2.1 q.2.2.1 q.2.2.2] := fun i => by
      by_cases hi : i < n
      · obtain ⟨q, hq⟩ := isL_ex (hC i hi).1
        exact ⟨q, fun _ => hq⟩
      · exact ⟨((0, 0, ⟨#[]⟩), (none, 0, 0)), fun h => absurd h hi⟩
    obtain ⟨Q, hQ⟩ := Classical.axiomOfChoice hq
    refine cfL_any (fun W => Below w.heap.size w W) A b off n c fn cp (fun i => .int .i64 (arg i).kind) (fun i => .int .i64 (arg i).frm) (fun i => .int .i64 (arg i).to) (fun i => .int .i64 (arg i).num) (fun i => .string (arg i).text) (fun i => .int .i64 (Q i).1.1) (fun i => .int .i64 (Q i).1.2.1) (fun i => .string (Q i).1.2.2) (fun i => .slice (Q i).2.1 (Q i).2.2.1 (Q i).2.2.2) p w hn (fun _ => hA) he (fun W hW k hk => ?_) (fun W hW k hk => ?_) (Below.refl _ _)
    · have hcell : ∀ o, W.cell? ⟨b, o, none⟩ = w.cell? ⟨b, o, none⟩ := fun o => hW.cell (p := ⟨b, o, none⟩) hb
      simp only [hcell]
      have hk' := (hC k hk).2
      rw [hQ k hk] at hk'
      exact ⟨hk' 0 _ rfl, hk' 1 _ rfl, hk' 2 _ rfl, hk' 3 _ rfl, hk' 4 _ rfl, hk' 5 _ rfl, hk' 6 _ rfl, hk' 7 _ rfl, hk' 8 _ rfl⟩
    · have h1 := isL_frame (w' := W) (S' := S) hW.size (fun b hs hlt => ⟨hs, hW.block b hlt⟩) (hC k hk).1
      rw [hQ k hk] at h1
      exact hf W hW k _ hk h1
  · refine cfL_any (fun W => Below w.heap.size w W) A 0 0 n c fn cp (fun _ => undef) (fun _ => undef) (fun _ => undef) (fun _ => undef) (fun _ => undef) (fun _ => undef) (fun _ => undef) (fun _ => undef) (fun _ => undef) p w hn (fun h => absurd h h0) he (fun W hW k hk => by omega) (fun W hW k hk => by omega) (Below.refl _ _)
theorem notFits_any (n c : Nat) (A : Option Addr) (arg : Nat → LT) (S : Nat → Prop) (w : World) (hn : n ≤ 9223372036854775807) (hR : RdL w S A n arg) :
    Calls Try.prog 13 #[.slice A n c, .func (.func 36) #[] #[]] w fun e w' => e = .returned (.bool (anyOf (fun i => !fitsB (arg i).kind) n)) ∧ Below w.heap.size w w' :=
  cfL_rd 36 n c #[] A arg S _ w hn hR check1_enters fun W hW i cs hi h => by
    obtain ⟨k2, m2, s2, A2, n2, c2, rfl, _⟩ := h
    exact (check1_any _ _ _ _ _ _ _ _ _ _ _ W).mono fun e W' ⟨he, hb⟩ => ⟨he, hW.trans (hb.mono hW.size)⟩
def OkBox (n : Nat) (at_ : Int) (arg : Nat → LT) : Prop := n ≤ 60 ∧ 0 ≤ at_ ∧ at_ ≤ n ∧ ∀ i, i < n → fitsB (arg i).kind = true
def ChkPost (Ok : Prop) (w : World) (e : Ending) (w' : World) : Prop := ∃ x : Int, e = .returned (.int .i64 x) ∧ (x = 0 ↔ Ok) ∧ Below w.heap.size w w'
set_option maxRecDepth 100000 in
set_option maxHeartbeats 1000000 in
theorem boxCheck_any (n c : Nat) (A : Option Addr) (at_ : Int) (arg : Nat → LT) (S : Nat → Prop) (w : World) (hn : n ≤ 9223372036854775807) (hR : RdL w S A n arg) :
    Calls Try.prog 12 #[.agg #[.slice A n c, .int .i64 at_]] w (ChkPost (OkBox n at_ arg) w) := by
  have hR0 : ∀ o : Obj, Calls Try.prog 13 #[.slice A n c, .func (.func 36) #[] #[]] (w.alloc o) fun e w' => e = .returned (.bool (anyOf (fun i => !fitsB (arg i).kind) n)) ∧ Below (w.alloc o).heap.size (w.alloc o) w' := fun o =>
    notFits_any n c A arg S _ hn (hR.below ((Below.refl _ _).alloc (Nat.le_refl _) _))
  have HR := Lib.hid hR0
  clear hR hR0
  by_cases h60 : 60 < n
  · go_enter Try.func12, Try.ntmps12
    go_wp2_with fail
    go_ret
    exact ⟨2, rfl, ⟨fun h => by omega, fun h => by have := h.1; omega⟩, (Below.refl _ _).alloc (Nat.le_refl _) _⟩
  by_cases h0 : at_ < 0
  · have d0 : decide (at_ < 0) = true := by simpa using h0
    go_enter Try.func12, Try.ntmps12
    go_wp2_with fail
    go_ret
    exact ⟨1, rfl, ⟨fun h => by omega, fun h => by have := h.2.1; omega⟩, (Below.refl _ _).alloc (Nat.le_refl _) _⟩
  by_cases h1 : (n : Int) < at_
  · have d0 : decide (at_ < 0) = false := by simpa using h0
    go_enter Try.func12, Try.ntmps12
    go_wp2_with fail
    go_ret
    exact ⟨1, rfl, ⟨fun h => by omega, fun h => by have := h.2.2.1; omega⟩, (Below.refl _ _).alloc (Nat.le_refl _) _⟩
  have d0 : decide (at_ < 0) = false := by simpa using h0
  have d1 : decide ((n : Int) < at_) = false := by simpa using h1
  by_cases ha : anyOf (fun i => !fitsB (arg i).kind) n = true
  · have HA := Lib.hid ha
    clear ha
    go_enter Try.func12, Try.ntmps12
    go_wp2_with fail
    refine (HR.out _).mono ?_
    rintro e w1 ⟨rfl, hb1⟩
    rw [HA.out]
    go_wp2_with fail
    go_ret
    refine ⟨3, rfl, ⟨fun h => by omega, fun h => ?_⟩, ((Below.refl _ _).alloc (Nat.le_refl _) _).trans (hb1.mono (by simp))⟩
    obtain ⟨i, hi, hp⟩ := anyOf_true.1 HA.out
    rw [h.2.2.2 i hi] at hp
    cases hp
  · have HA := Lib.hid (show anyOf (fun i => !fitsB (arg i).kind) n = false by simpa using ha)
    clear ha
    go_enter Try.func12, Try.ntmps12
    go_wp2_with fail
    refine (HR.out _).mono ?_
    rintro e w1 ⟨rfl, hb1⟩
    rw [HA.out]
    go_wp2_with fail
    go_ret
    exact ⟨0, rfl, ⟨fun _ => ⟨by omega, by omega, by omega, fun i hi => by simpa using anyOf_false.1 HA.out i hi⟩, fun _ => rfl⟩, ((Below.refl _ _).alloc (Nat.le_refl _) _).trans (hb1.mono (by simp))⟩
end Go.Proofs.Ytjalgnpbdcefdaa
