/- The walk of the law TermValue. -/
import Derived.Test.YtelpommocgmdjaaTermOf
namespace Go.Proofs.Ytelpommocgmdjaa
open Go.ChangeShapes Go.WideShapes Go.ChangeAt Go.RowKit

theorem of_facts {k n : Int} {s : ByteArray} {l : Nat} (h : ofB k n s l = true) : okR (ofW k n s l) = true ∧ U64 (ofW k n s l) ∧ tagOf (ofW k n s l) ≤ 3 ∧ kindT (tagOf (ofW k n s l)) = k ∧ numOf (ofW k n s l) = n := by
  have e : ofW k n s l = wordV (tagK k) n := by simp [ofW, h]
  have h' := h
  unfold ofB at h'
  simp only [Bool.and_eq_true, decide_eq_true_eq] at h'
  obtain ⟨⟨⟨h1, _⟩, _⟩, h4⟩ := h'
  obtain ⟨g1, g2, g3, g4⟩ := okR_word h4
  rw [e]
  refine ⟨g1, g4, by rw [g2]; exact (tagK_range k).2, ?_, g3⟩
  rw [g2]
  have hk : k = 1 ∨ k = 2 ∨ k = 3 ∨ k = 6 := by
    unfold tagK at h1
    repeat' split at h1
    all_goals omega
  rcases hk with rfl | rfl | rfl | rfl <;> rfl
theorem of_back {x : Int} (hx : U64 x) (h : okR x = true) (h3 : tagOf x ≤ 3) : ofB (kindT (tagOf x)) (numOf x) ⟨#[]⟩ 0 = true ∧ ofW (kindT (tagOf x)) (numOf x) ⟨#[]⟩ 0 = x := by
  obtain ⟨g1, g2⟩ := okW_read hx h
  have ht := tag_lo x
  have e : tagK (kindT (tagOf x)) = tagOf x := by
    unfold kindT tagK
    repeat' split
    all_goals omega
  have hb : ofB (kindT (tagOf x)) (numOf x) ⟨#[]⟩ 0 = true := by
    simp only [ofB, e, g1]
    simp [ht.1]
  exact ⟨hb, by simp [ofW, hb, e, g2]⟩
theorem zero_facts : okR 0 = true ∧ U64 0 ∧ tagOf 0 ≤ 3 := by
  refine ⟨by decide +kernel, by unfold U64; omega, by decide +kernel⟩
theorem of_small {n : Int} {s : ByteArray} {l : Nat} (hs : s.toList.isEmpty = true) (hl : l = 0) : ofB 2 n s l = validB 1 n := by
  simp only [ofB, hs, hl]
  simp [tagK, okW]
theorem bcell {W w1 : World} (hb : Below W.heap.size W w1) : (∀ b o, b < W.heap.size → w1.cell? ⟨b, o, none⟩ = W.cell? ⟨b, o, none⟩) ∧ (∀ b o, b < W.heap.size → w1.frozen? ⟨b, o, none⟩ = W.frozen? ⟨b, o, none⟩) :=
  ⟨fun b o h => hb.cell (p := ⟨b, o, none⟩) h, fun b o h => hb.frozen (p := ⟨b, o, none⟩) h⟩

set_option maxHeartbeats 1600000 in
theorem termValue_A1 (n x : Int) (s : ByteArray) (a : Option Addr) (l c : Nat) (w : World) (hx : U64 x) (hB : ofB 2 n s l = true) (hs : s.toList.isEmpty = true) (hl : l = 0) :
    Calls Try.prog 5 #[.agg #[.int .i64 2, .int .i64 n, .string s, .slice a l c], .int .u64 x] w fun e w' => e = .returned (.bool true) ∧ Below w.heap.size w w' := by
  have hv : validB 1 n = true := (of_small hs hl).symm.trans hB
  have hs1 : s.toList = [] := by simpa using hs
  subst hl
  obtain ⟨g1, g2, g3, g4, g5⟩ := of_facts hB
  have G4 := Lib.hid g4
  have G5 := Lib.hid g5
  clear g4 g5
  go_enter Try.func5, Try.ntmps5
  go_wp2_with fail
  refine (of_any _ _ _ _ _ _ _).mono ?_
  rintro e w' ⟨rfl, rfl⟩
  go_wp2_with fail
  refine (value_yes _ _ g2 g1 g3).mono ?_
  rintro e w1 ⟨rfl, hb1⟩
  rw [G4.out, G5.out]
  have c0 : w1.cell? ⟨w.heap.size, 0, none⟩ = some (.int .i64 2) := by rw [(bcell hb1).1 _ _ (by simp; omega)]; simp
  have c1 : w1.cell? ⟨w.heap.size, 1, none⟩ = some (.int .i64 n) := by rw [(bcell hb1).1 _ _ (by simp; omega)]; simp
  have c2 : w1.cell? ⟨w.heap.size, 2, none⟩ = some (.string s) := by rw [(bcell hb1).1 _ _ (by simp; omega)]; simp
  have c3 : w1.cell? ⟨w.heap.size, 3, none⟩ = some (.slice a 0 c) := by rw [(bcell hb1).1 _ _ (by simp; omega)]; simp
  have hz : w.heap.size < w1.heap.size := by have := hb1.size; simp at this; omega
  have hB1 : Below w.heap.size w w1 := (((Below.refl _ _).alloc (Nat.le_refl _) _).alloc (by simp) _).trans (hb1.mono (by simp; omega))
  clear hb1 g1 g2 g3
  go_wp2_with fail
  refine (small_any _ _).mono ?_
  rintro e w' ⟨rfl, rfl⟩
  go_wp2_with fail
  clear c0 c1 c2 c3
  by_cases hR : okR x = true ∧ tagOf x ≤ 3
  · obtain ⟨r1, r2⟩ := hR
    obtain ⟨q1, q2⟩ := of_back hx r1 r2
    have Q1 := Lib.hid q1
    have Q2 := Lib.hid q2
    clear q1 q2
    refine (value_yes _ _ hx r1 r2).mono ?_
    rintro e w2 ⟨rfl, hb2⟩
    have hz2 : w.heap.size < w2.heap.size := by have := hb2.size; simp at this; omega
    have hB2 : Below w.heap.size w w2 := (hB1.alloc (by omega) _).trans (hb2.mono (by simp; omega))
    clear hb2 hB1 r1 r2
    go_wp2_with fail
    refine (of_any _ _ _ _ _ _ _).mono ?_
    rintro e w' ⟨rfl, rfl⟩
    rw [Q1.out, Q2.out]
    go_wp2_with fail
    refine (terms_any _).mono ?_
    rintro e w' ⟨rfl, rfl⟩
    go_wp2_with fail
    go_ret
    exact ⟨rfl, (hB2.alloc (by omega) _).alloc (by simp; omega) _⟩
  · refine (value_no _ _ hx (by by_cases h : okR x = true; exact .inr (fun h3 => hR ⟨h, h3⟩); exact .inl (by simpa using h))).mono ?_
    rintro e w2 ⟨rfl, hb2⟩
    have hz2 : w.heap.size < w2.heap.size := by have := hb2.size; simp at this; omega
    have hB2 : Below w.heap.size w w2 := (hB1.alloc (by omega) _).trans (hb2.mono (by simp; omega))
    clear hb2 hB1 hR
    go_wp2_with fail
    refine (terms_any _).mono ?_
    rintro e w' ⟨rfl, rfl⟩
    go_wp2_with fail
    go_ret
    exact ⟨rfl, hB2.alloc (by omega) _⟩
set_option maxHeartbeats 1600000 in
theorem termValue_A2 (k n x : Int) (s : ByteArray) (a : Option Addr) (l c : Nat) (w : World) (hx : U64 x) (hB : ofB k n s l = true) (hk : (k == 2) = false) :
    Calls Try.prog 5 #[.agg #[.int .i64 k, .int .i64 n, .string s, .slice a l c], .int .u64 x] w fun e w' => e = .returned (.bool true) ∧ Below w.heap.size w w' := by
  obtain ⟨g1, g2, g3, g4, g5⟩ := of_facts hB
  have G4 := Lib.hid g4
  have G5 := Lib.hid g5
  clear g4 g5
  go_enter Try.func5, Try.ntmps5
  go_wp2_with fail
  refine (of_any _ _ _ _ _ _ _).mono ?_
  rintro e w' ⟨rfl, rfl⟩
  go_wp2_with fail
  refine (value_yes _ _ g2 g1 g3).mono ?_
  rintro e w1 ⟨rfl, hb1⟩
  rw [G4.out, G5.out]
  have c0 : w1.cell? ⟨w.heap.size, 0, none⟩ = some (.int .i64 k) := by rw [(bcell hb1).1 _ _ (by simp; omega)]; simp
  have c1 : w1.cell? ⟨w.heap.size, 1, none⟩ = some (.int .i64 n) := by rw [(bcell hb1).1 _ _ (by simp; omega)]; simp
  have c2 : w1.cell? ⟨w.heap.size, 2, none⟩ = some (.string s) := by rw [(bcell hb1).1 _ _ (by simp; omega)]; simp
  have c3 : w1.cell? ⟨w.heap.size, 3, none⟩ = some (.slice a l c) := by rw [(bcell hb1).1 _ _ (by simp; omega)]; simp
  have hz : w.heap.size < w1.heap.size := by have := hb1.size; simp at this; omega
  have hB1 : Below w.heap.size w w1 := (((Below.refl _ _).alloc (Nat.le_refl _) _).alloc (by simp) _).trans (hb1.mono (by simp; omega))
  clear hb1 g1 g2 g3
  go_wp2_with fail
  clear c0 c1 c2 c3
  by_cases hR : okR x = true ∧ tagOf x ≤ 3
  · obtain ⟨r1, r2⟩ := hR
    obtain ⟨q1, q2⟩ := of_back hx r1 r2
    have Q1 := Lib.hid q1
    have Q2 := Lib.hid q2
    clear q1 q2
    refine (value_yes _ _ hx r1 r2).mono ?_
    rintro e w2 ⟨rfl, hb2⟩
    have hz2 : w.heap.size < w2.heap.size := by have := hb2.size; simp at this; omega
    have hB2 : Below w.heap.size w w2 := (hB1.alloc (by omega) _).trans (hb2.mono (by simp; omega))
    clear hb2 hB1 r1 r2
    go_wp2_with fail
    refine (of_any _ _ _ _ _ _ _).mono ?_
    rintro e w' ⟨rfl, rfl⟩
    rw [Q1.out, Q2.out]
    go_wp2_with fail
    refine (terms_any _).mono ?_
    rintro e w' ⟨rfl, rfl⟩
    go_wp2_with fail
    go_ret
    exact ⟨rfl, (hB2.alloc (by omega) _).alloc (by simp; omega) _⟩
  · refine (value_no _ _ hx (by by_cases h : okR x = true; exact .inr (fun h3 => hR ⟨h, h3⟩); exact .inl (by simpa using h))).mono ?_
    rintro e w2 ⟨rfl, hb2⟩
    have hz2 : w.heap.size < w2.heap.size := by have := hb2.size; simp at this; omega
    have hB2 : Below w.heap.size w w2 := (hB1.alloc (by omega) _).trans (hb2.mono (by simp; omega))
    clear hb2 hB1 hR
    go_wp2_with fail
    refine (terms_any _).mono ?_
    rintro e w' ⟨rfl, rfl⟩
    go_wp2_with fail
    go_ret
    exact ⟨rfl, hB2.alloc (by omega) _⟩
set_option maxHeartbeats 1600000 in
theorem termValue_B1 (n x : Int) (s : ByteArray) (a : Option Addr) (l c : Nat) (w : World) (hx : U64 x) (hB : ofB 2 n s l = false) (hs : s.toList.isEmpty = true) (hl : l = 0) :
    Calls Try.prog 5 #[.agg #[.int .i64 2, .int .i64 n, .string s, .slice a l c], .int .u64 x] w fun e w' => e = .returned (.bool true) ∧ Below w.heap.size w w' := by
  have hv : validB 1 n = false := (of_small hs hl).symm.trans hB
  have hs1 : s.toList = [] := by simpa using hs
  subst hl
  have G4 := Lib.hid (show ofW 2 n s 0 = 0 by simp [ofW, hB])
  obtain ⟨g1, g2, g3⟩ := zero_facts
  go_enter Try.func5, Try.ntmps5
  go_wp2_with fail
  refine (of_any _ _ _ _ _ _ _).mono ?_
  rintro e w' ⟨rfl, rfl⟩
  rw [G4.out]
  go_wp2_with fail
  refine (value_yes _ _ g2 g1 g3).mono ?_
  rintro e w1 ⟨rfl, hb1⟩
  have c0 : w1.cell? ⟨w.heap.size, 0, none⟩ = some (.int .i64 2) := by rw [(bcell hb1).1 _ _ (by simp; omega)]; simp
  have c1 : w1.cell? ⟨w.heap.size, 1, none⟩ = some (.int .i64 n) := by rw [(bcell hb1).1 _ _ (by simp; omega)]; simp
  have c2 : w1.cell? ⟨w.heap.size, 2, none⟩ = some (.string s) := by rw [(bcell hb1).1 _ _ (by simp; omega)]; simp
  have c3 : w1.cell? ⟨w.heap.size, 3, none⟩ = some (.slice a 0 c) := by rw [(bcell hb1).1 _ _ (by simp; omega)]; simp
  have hz : w.heap.size < w1.heap.size := by have := hb1.size; simp at this; omega
  have hB1 : Below w.heap.size w w1 := (((Below.refl _ _).alloc (Nat.le_refl _) _).alloc (by simp) _).trans (hb1.mono (by simp; omega))
  clear hb1 g1 g2 g3
  go_wp2_with fail
  refine (small_any _ _).mono ?_
  rintro e w' ⟨rfl, rfl⟩
  go_wp2_with fail
  clear c0 c1 c2 c3
  by_cases hR : okR x = true ∧ tagOf x ≤ 3
  · obtain ⟨r1, r2⟩ := hR
    obtain ⟨q1, q2⟩ := of_back hx r1 r2
    have Q1 := Lib.hid q1
    have Q2 := Lib.hid q2
    clear q1 q2
    refine (value_yes _ _ hx r1 r2).mono ?_
    rintro e w2 ⟨rfl, hb2⟩
    have hz2 : w.heap.size < w2.heap.size := by have := hb2.size; simp at this; omega
    have hB2 : Below w.heap.size w w2 := (hB1.alloc (by omega) _).trans (hb2.mono (by simp; omega))
    clear hb2 hB1 r1 r2
    go_wp2_with fail
    refine (of_any _ _ _ _ _ _ _).mono ?_
    rintro e w' ⟨rfl, rfl⟩
    rw [Q1.out, Q2.out]
    go_wp2_with fail
    refine (terms_any _).mono ?_
    rintro e w' ⟨rfl, rfl⟩
    go_wp2_with fail
    go_ret
    exact ⟨rfl, (hB2.alloc (by omega) _).alloc (by simp; omega) _⟩
  · refine (value_no _ _ hx (by by_cases h : okR x = true; exact .inr (fun h3 => hR ⟨h, h3⟩); exact .inl (by simpa using h))).mono ?_
    rintro e w2 ⟨rfl, hb2⟩
    have hz2 : w.heap.size < w2.heap.size := by have := hb2.size; simp at this; omega
    have hB2 : Below w.heap.size w w2 := (hB1.alloc (by omega) _).trans (hb2.mono (by simp; omega))
    clear hb2 hB1 hR
    go_wp2_with fail
    refine (terms_any _).mono ?_
    rintro e w' ⟨rfl, rfl⟩
    go_wp2_with fail
    go_ret
    exact ⟨rfl, hB2.alloc (by omega) _⟩
set_option maxHeartbeats 1600000 in
theorem termValue_B2 (k n x : Int) (s : ByteArray) (a : Option Addr) (l c : Nat) (w : World) (hx : U64 x) (hB : ofB k n s l = false) (hk : (k == 2) = false) :
    Calls Try.prog 5 #[.agg #[.int .i64 k, .int .i64 n, .string s, .slice a l c], .int .u64 x] w fun e w' => e = .returned (.bool true) ∧ Below w.heap.size w w' := by
  have G4 := Lib.hid (show ofW k n s l = 0 by simp [ofW, hB])
  obtain ⟨g1, g2, g3⟩ := zero_facts
  go_enter Try.func5, Try.ntmps5
  go_wp2_with fail
  refine (of_any _ _ _ _ _ _ _).mono ?_
  rintro e w' ⟨rfl, rfl⟩
  rw [G4.out]
  go_wp2_with fail
  refine (value_yes _ _ g2 g1 g3).mono ?_
  rintro e w1 ⟨rfl, hb1⟩
  have c0 : w1.cell? ⟨w.heap.size, 0, none⟩ = some (.int .i64 k) := by rw [(bcell hb1).1 _ _ (by simp; omega)]; simp
  have c1 : w1.cell? ⟨w.heap.size, 1, none⟩ = some (.int .i64 n) := by rw [(bcell hb1).1 _ _ (by simp; omega)]; simp
  have c2 : w1.cell? ⟨w.heap.size, 2, none⟩ = some (.string s) := by rw [(bcell hb1).1 _ _ (by simp; omega)]; simp
  have c3 : w1.cell? ⟨w.heap.size, 3, none⟩ = some (.slice a l c) := by rw [(bcell hb1).1 _ _ (by simp; omega)]; simp
  have hz : w.heap.size < w1.heap.size := by have := hb1.size; simp at this; omega
  have hB1 : Below w.heap.size w w1 := (((Below.refl _ _).alloc (Nat.le_refl _) _).alloc (by simp) _).trans (hb1.mono (by simp; omega))
  clear hb1 g1 g2 g3
  go_wp2_with fail
  clear c0 c1 c2 c3
  by_cases hR : okR x = true ∧ tagOf x ≤ 3
  · obtain ⟨r1, r2⟩ := hR
    obtain ⟨q1, q2⟩ := of_back hx r1 r2
    have Q1 := Lib.hid q1
    have Q2 := Lib.hid q2
    clear q1 q2
    refine (value_yes _ _ hx r1 r2).mono ?_
    rintro e w2 ⟨rfl, hb2⟩
    have hz2 : w.heap.size < w2.heap.size := by have := hb2.size; simp at this; omega
    have hB2 : Below w.heap.size w w2 := (hB1.alloc (by omega) _).trans (hb2.mono (by simp; omega))
    clear hb2 hB1 r1 r2
    go_wp2_with fail
    refine (of_any _ _ _ _ _ _ _).mono ?_
    rintro e w' ⟨rfl, rfl⟩
    rw [Q1.out, Q2.out]
    go_wp2_with fail
    refine (terms_any _).mono ?_
    rintro e w' ⟨rfl, rfl⟩
    go_wp2_with fail
    go_ret
    exact ⟨rfl, (hB2.alloc (by omega) _).alloc (by simp; omega) _⟩
  · refine (value_no _ _ hx (by by_cases h : okR x = true; exact .inr (fun h3 => hR ⟨h, h3⟩); exact .inl (by simpa using h))).mono ?_
    rintro e w2 ⟨rfl, hb2⟩
    have hz2 : w.heap.size < w2.heap.size := by have := hb2.size; simp at this; omega
    have hB2 : Below w.heap.size w w2 := (hB1.alloc (by omega) _).trans (hb2.mono (by simp; omega))
    clear hb2 hB1 hR
    go_wp2_with fail
    refine (terms_any _).mono ?_
    rintro e w' ⟨rfl, rfl⟩
    go_wp2_with fail
    go_ret
    exact ⟨rfl, hB2.alloc (by omega) _⟩
set_option maxHeartbeats 1600000 in
theorem termValue_B3 (n x : Int) (s : ByteArray) (a : Option Addr) (l c : Nat) (w : World) (hx : U64 x) (hB : ofB 2 n s l = false) (hs : s.toList.isEmpty = false) :
    Calls Try.prog 5 #[.agg #[.int .i64 2, .int .i64 n, .string s, .slice a l c], .int .u64 x] w fun e w' => e = .returned (.bool true) ∧ Below w.heap.size w w' := by
  have hs1 : ¬ s.toList = [] := by intro e; rw [e] at hs; cases hs
  have G4 := Lib.hid (show ofW 2 n s l = 0 by simp [ofW, hB])
  obtain ⟨g1, g2, g3⟩ := zero_facts
  go_enter Try.func5, Try.ntmps5
  go_wp2_with fail
  refine (of_any _ _ _ _ _ _ _).mono ?_
  rintro e w' ⟨rfl, rfl⟩
  rw [G4.out]
  go_wp2_with fail
  refine (value_yes _ _ g2 g1 g3).mono ?_
  rintro e w1 ⟨rfl, hb1⟩
  have c0 : w1.cell? ⟨w.heap.size, 0, none⟩ = some (.int .i64 2) := by rw [(bcell hb1).1 _ _ (by simp; omega)]; simp
  have c1 : w1.cell? ⟨w.heap.size, 1, none⟩ = some (.int .i64 n) := by rw [(bcell hb1).1 _ _ (by simp; omega)]; simp
  have c2 : w1.cell? ⟨w.heap.size, 2, none⟩ = some (.string s) := by rw [(bcell hb1).1 _ _ (by simp; omega)]; simp
  have c3 : w1.cell? ⟨w.heap.size, 3, none⟩ = some (.slice a l c) := by rw [(bcell hb1).1 _ _ (by simp; omega)]; simp
  have hz : w.heap.size < w1.heap.size := by have := hb1.size; simp at this; omega
  have hB1 : Below w.heap.size w w1 := (((Below.refl _ _).alloc (Nat.le_refl _) _).alloc (by simp) _).trans (hb1.mono (by simp; omega))
  clear hb1 g1 g2 g3
  go_wp2_with fail
  clear c0 c1 c2 c3
  by_cases hR : okR x = true ∧ tagOf x ≤ 3
  · obtain ⟨r1, r2⟩ := hR
    obtain ⟨q1, q2⟩ := of_back hx r1 r2
    have Q1 := Lib.hid q1
    have Q2 := Lib.hid q2
    clear q1 q2
    refine (value_yes _ _ hx r1 r2).mono ?_
    rintro e w2 ⟨rfl, hb2⟩
    have hz2 : w.heap.size < w2.heap.size := by have := hb2.size; simp at this; omega
    have hB2 : Below w.heap.size w w2 := (hB1.alloc (by omega) _).trans (hb2.mono (by simp; omega))
    clear hb2 hB1 r1 r2
    go_wp2_with fail
    refine (of_any _ _ _ _ _ _ _).mono ?_
    rintro e w' ⟨rfl, rfl⟩
    rw [Q1.out, Q2.out]
    go_wp2_with fail
    refine (terms_any _).mono ?_
    rintro e w' ⟨rfl, rfl⟩
    go_wp2_with fail
    go_ret
    exact ⟨rfl, (hB2.alloc (by omega) _).alloc (by simp; omega) _⟩
  · refine (value_no _ _ hx (by by_cases h : okR x = true; exact .inr (fun h3 => hR ⟨h, h3⟩); exact .inl (by simpa using h))).mono ?_
    rintro e w2 ⟨rfl, hb2⟩
    have hz2 : w.heap.size < w2.heap.size := by have := hb2.size; simp at this; omega
    have hB2 : Below w.heap.size w w2 := (hB1.alloc (by omega) _).trans (hb2.mono (by simp; omega))
    clear hb2 hB1 hR
    go_wp2_with fail
    refine (terms_any _).mono ?_
    rintro e w' ⟨rfl, rfl⟩
    go_wp2_with fail
    go_ret
    exact ⟨rfl, hB2.alloc (by omega) _⟩
set_option maxHeartbeats 1600000 in
theorem termValue_B4 (n x : Int) (s : ByteArray) (a : Option Addr) (l c : Nat) (w : World) (hx : U64 x) (hB : ofB 2 n s l = false) (hs : s.toList.isEmpty = true) (hl : 0 < l) :
    Calls Try.prog 5 #[.agg #[.int .i64 2, .int .i64 n, .string s, .slice a l c], .int .u64 x] w fun e w' => e = .returned (.bool true) ∧ Below w.heap.size w w' := by
  have hs1 : s.toList = [] := by simpa using hs
  have G4 := Lib.hid (show ofW 2 n s l = 0 by simp [ofW, hB])
  obtain ⟨g1, g2, g3⟩ := zero_facts
  go_enter Try.func5, Try.ntmps5
  go_wp2_with fail
  refine (of_any _ _ _ _ _ _ _).mono ?_
  rintro e w' ⟨rfl, rfl⟩
  rw [G4.out]
  go_wp2_with fail
  refine (value_yes _ _ g2 g1 g3).mono ?_
  rintro e w1 ⟨rfl, hb1⟩
  have c0 : w1.cell? ⟨w.heap.size, 0, none⟩ = some (.int .i64 2) := by rw [(bcell hb1).1 _ _ (by simp; omega)]; simp
  have c1 : w1.cell? ⟨w.heap.size, 1, none⟩ = some (.int .i64 n) := by rw [(bcell hb1).1 _ _ (by simp; omega)]; simp
  have c2 : w1.cell? ⟨w.heap.size, 2, none⟩ = some (.string s) := by rw [(bcell hb1).1 _ _ (by simp; omega)]; simp
  have c3 : w1.cell? ⟨w.heap.size, 3, none⟩ = some (.slice a l c) := by rw [(bcell hb1).1 _ _ (by simp; omega)]; simp
  have hz : w.heap.size < w1.heap.size := by have := hb1.size; simp at this; omega
  have hB1 : Below w.heap.size w w1 := (((Below.refl _ _).alloc (Nat.le_refl _) _).alloc (by simp) _).trans (hb1.mono (by simp; omega))
  clear hb1 g1 g2 g3
  go_wp2_with fail
  clear c0 c1 c2 c3
  by_cases hR : okR x = true ∧ tagOf x ≤ 3
  · obtain ⟨r1, r2⟩ := hR
    obtain ⟨q1, q2⟩ := of_back hx r1 r2
    have Q1 := Lib.hid q1
    have Q2 := Lib.hid q2
    clear q1 q2
    refine (value_yes _ _ hx r1 r2).mono ?_
    rintro e w2 ⟨rfl, hb2⟩
    have hz2 : w.heap.size < w2.heap.size := by have := hb2.size; simp at this; omega
    have hB2 : Below w.heap.size w w2 := (hB1.alloc (by omega) _).trans (hb2.mono (by simp; omega))
    clear hb2 hB1 r1 r2
    go_wp2_with fail
    refine (of_any _ _ _ _ _ _ _).mono ?_
    rintro e w' ⟨rfl, rfl⟩
    rw [Q1.out, Q2.out]
    go_wp2_with fail
    refine (terms_any _).mono ?_
    rintro e w' ⟨rfl, rfl⟩
    go_wp2_with fail
    go_ret
    exact ⟨rfl, (hB2.alloc (by omega) _).alloc (by simp; omega) _⟩
  · refine (value_no _ _ hx (by by_cases h : okR x = true; exact .inr (fun h3 => hR ⟨h, h3⟩); exact .inl (by simpa using h))).mono ?_
    rintro e w2 ⟨rfl, hb2⟩
    have hz2 : w.heap.size < w2.heap.size := by have := hb2.size; simp at this; omega
    have hB2 : Below w.heap.size w w2 := (hB1.alloc (by omega) _).trans (hb2.mono (by simp; omega))
    clear hb2 hB1 hR
    go_wp2_with fail
    refine (terms_any _).mono ?_
    rintro e w' ⟨rfl, rfl⟩
    go_wp2_with fail
    go_ret
    exact ⟨rfl, hB2.alloc (by omega) _⟩

theorem termValue_go (k n x : Int) (s : ByteArray) (a : Option Addr) (l c : Nat) (w : World) (hx : U64 x) :
    Calls Try.prog 5 #[.agg #[.int .i64 k, .int .i64 n, .string s, .slice a l c], .int .u64 x] w fun e w' => e = .returned (.bool true) ∧ Below w.heap.size w w' := by
  by_cases hB : ofB k n s l = true
  · by_cases hk : k = 2
    · subst hk
      have h' := hB
      unfold ofB at h'
      simp only [Bool.and_eq_true, decide_eq_true_eq] at h'
      exact termValue_A1 n x s a l c w hx hB h'.1.1.2 h'.1.2
    · exact termValue_A2 k n x s a l c w hx hB (by simpa using hk)
  · have hB' : ofB k n s l = false := by simpa using hB
    by_cases hk : k = 2
    · subst hk
      by_cases hs : s.toList.isEmpty = true
      · by_cases hl : l = 0
        · exact termValue_B1 n x s a l c w hx hB' hs hl
        · exact termValue_B4 n x s a l c w hx hB' hs (by omega)
      · exact termValue_B3 n x s a l c w hx hB' (by simpa using hs)
    · exact termValue_B2 k n x s a l c w hx hB' (by simpa using hk)
theorem Try.cells34 : Try.prog.cellsOf 34 = 4 := by kernel_rfl
set_option maxRecDepth 100000 in
theorem termValue_walk {H : Type} {enc : TypeId × Value → H} (W : World) (base : Nat) (v0 v1 : Value) {d0 d1 : DataW H} {p0 p1 : List MemPlace}
    (k0 : Value.okWide Try.prog W .any base 34 v0) (k1 : Value.okWide Try.prog W .any base 22 v1)
    (h0 : DataW.Trod enc Try.prog W 0 (fun _ => true) true 34 v0 d0 p0) (h1 : DataW.Trod enc Try.prog W 0 (fun _ => true) true 22 v1 d1 p1) :
    Calls Try.prog 5 #[v0, v1] W fun e W' => e = .returned (.bool true) ∧ Below W.heap.size W W' := by
  obtain ⟨a1, rfl, _, _, w1⟩ := open_int Try.underlying22 k1 h1
  obtain ⟨c0, c1, c2, c3, y0, y1, y2, y3, m, rfl, rfl, rfl, g0, g1, g2, g3⟩ := Joins.open_agg4 Try.underlying34 (by kernel_rfl) Try.cells34 k0 h0
  obtain ⟨k, e0, _, _⟩ := DataW.trod_int Try.underlying3 g0
  obtain ⟨n, e1, _, _⟩ := DataW.trod_int Try.underlying3 g1
  obtain ⟨s, e2, _, _⟩ := DataW.trod_string Try.underlying9 g2
  obtain ⟨a, l, c, e3⟩ := Joins.slice_form Try.underlying32 g3
  simp at e0 e1 e2 e3
  subst e0 e1 e2 e3
  exact termValue_go k n a1 s a l c W (by unfold U64; simp [Lit.wf, IntKind.min, IntKind.max, IntKind.signed, IntKind.bits] at w1; omega)
end Go.Proofs.Ytelpommocgmdjaa
