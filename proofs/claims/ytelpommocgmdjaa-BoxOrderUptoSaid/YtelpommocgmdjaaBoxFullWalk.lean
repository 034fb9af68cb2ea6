/- The walk of the law BoxFull. -/
import Derived.Test.YtelpommocgmdjaaBoxOpen
namespace Go.Proofs.Ytelpommocgmdjaa
open Go.RowKit Go.ChangeShapes Go.WideShapes
set_option linter.unusedVariables false
set_option maxRecDepth 100000 in
set_option maxHeartbeats 2000000 in
theorem boxFull_flat (n c : Nat) (A : Option Addr) (at_ : Int) (arg : Nat → LT) (S : Nat → Prop) (x : LT) (cs : List Value) (Sx : Nat → Prop) (w : World) (hnc : n ≤ c) (hcm : c ≤ 9223372036854775807) (hR : RdL w S A n arg) (hx : x.isL w Sx cs) (hma : ∀ i, i < n → (arg i).val.many ≤ 4194304) (hmx : x.val.many ≤ 4194304) (hfl : flatB x.val = false) : Calls Try.prog 6 #[.agg #[.slice A n c, .int .i64 at_], .agg cs.toArray] w fun e w' => e = .returned (.bool true) ∧ Below w.heap.size w w' := by
  have HFL := Lib.hid hfl
  clear hfl
  obtain ⟨k2, m2, s2, A2, n2, c2, rfl, hv⟩ := hx
  have HXL := Lib.hid (show x.isL w Sx _ from ⟨k2, m2, s2, A2, n2, c2, rfl, hv⟩)
  obtain ⟨k, f, t, num, s, val⟩ := x
  dsimp only at hv hmx HFL HXL ⊢
  have HR := Lib.hid hR
  have HV := Lib.hid hv
  have HMA := Lib.hid hma
  clear hR hv hma
  go_enter Try.func6, Try.ntmps6
  go_wp2_with fail
  refine (boxes_any _).mono ?_
  rintro e w1 ⟨rfl, hb1⟩
  have hz1 : w.heap.size + 2 ≤ w1.heap.size := by have := hb1.size; simp at this; omega
  have pa0 : w1.cell? ⟨w.heap.size, 0, none⟩ = some (.slice A n c) := ((bcell hb1).1 _ _ (by simp; omega)).trans (by simp [go_sem])
  have pa1 : w1.cell? ⟨w.heap.size, 1, none⟩ = some (.int .i64 at_) := ((bcell hb1).1 _ _ (by simp; omega)).trans (by simp [go_sem])
  have pb0 : w1.cell? ⟨w.heap.size + 1, 0, none⟩ = some (.int .i64 k) := ((bcell hb1).1 _ _ (by simp)).trans (by simp [go_sem])
  have pb1 : w1.cell? ⟨w.heap.size + 1, 1, none⟩ = some (.int .i64 f) := ((bcell hb1).1 _ _ (by simp)).trans (by simp [go_sem])
  have pb2 : w1.cell? ⟨w.heap.size + 1, 2, none⟩ = some (.int .i64 t) := ((bcell hb1).1 _ _ (by simp)).trans (by simp [go_sem])
  have pb3 : w1.cell? ⟨w.heap.size + 1, 3, none⟩ = some (.int .i64 num) := ((bcell hb1).1 _ _ (by simp)).trans (by simp [go_sem])
  have pb4 : w1.cell? ⟨w.heap.size + 1, 4, none⟩ = some (.string s) := ((bcell hb1).1 _ _ (by simp)).trans (by simp [go_sem])
  have pb5 : w1.cell? ⟨w.heap.size + 1, 5, none⟩ = some (.int .i64 k2) := ((bcell hb1).1 _ _ (by simp)).trans (by simp [go_sem])
  have pb6 : w1.cell? ⟨w.heap.size + 1, 6, none⟩ = some (.int .i64 m2) := ((bcell hb1).1 _ _ (by simp)).trans (by simp [go_sem])
  have pb7 : w1.cell? ⟨w.heap.size + 1, 7, none⟩ = some (.string s2) := ((bcell hb1).1 _ _ (by simp)).trans (by simp [go_sem])
  have pb8 : w1.cell? ⟨w.heap.size + 1, 8, none⟩ = some (.slice A2 n2 c2) := ((bcell hb1).1 _ _ (by simp)).trans (by simp [go_sem])
  have HB1 := Lib.hid ((((Below.refl w.heap.size w).alloc (Nat.le_refl _) _).alloc (by simp) _).trans (hb1.mono (by simp; omega)))
  clear hb1
  go_wp2_with fail
  refine (flat_any val _ Sx _ (isV_below HV.out HB1.out) hmx).mono ?_
  rintro e w2 ⟨rfl, hb2⟩
  rw [HFL.out]
  have hz2 : w.heap.size + 2 ≤ w2.heap.size := by have := hb2.size; omega
  have qa0 : w2.cell? ⟨w.heap.size, 0, none⟩ = some (.slice A n c) := ((bcell hb2).1 _ _ (by omega)).trans pa0
  have qa1 : w2.cell? ⟨w.heap.size, 1, none⟩ = some (.int .i64 at_) := ((bcell hb2).1 _ _ (by omega)).trans pa1
  have qb0 : w2.cell? ⟨w.heap.size + 1, 0, none⟩ = some (.int .i64 k) := ((bcell hb2).1 _ _ (by omega)).trans pb0
  have qb1 : w2.cell? ⟨w.heap.size + 1, 1, none⟩ = some (.int .i64 f) := ((bcell hb2).1 _ _ (by omega)).trans pb1
  have qb2 : w2.cell? ⟨w.heap.size + 1, 2, none⟩ = some (.int .i64 t) := ((bcell hb2).1 _ _ (by omega)).trans pb2
  have qb3 : w2.cell? ⟨w.heap.size + 1, 3, none⟩ = some (.int .i64 num) := ((bcell hb2).1 _ _ (by omega)).trans pb3
  have qb4 : w2.cell? ⟨w.heap.size + 1, 4, none⟩ = some (.string s) := ((bcell hb2).1 _ _ (by omega)).trans pb4
  have qb5 : w2.cell? ⟨w.heap.size + 1, 5, none⟩ = some (.int .i64 k2) := ((bcell hb2).1 _ _ (by omega)).trans pb5
  have qb6 : w2.cell? ⟨w.heap.size + 1, 6, none⟩ = some (.int .i64 m2) := ((bcell hb2).1 _ _ (by omega)).trans pb6
  have qb7 : w2.cell? ⟨w.heap.size + 1, 7, none⟩ = some (.string s2) := ((bcell hb2).1 _ _ (by omega)).trans pb7
  have qb8 : w2.cell? ⟨w.heap.size + 1, 8, none⟩ = some (.slice A2 n2 c2) := ((bcell hb2).1 _ _ (by omega)).trans pb8
  have HB2 := Lib.hid (HB1.out.trans (hb2.mono (by omega)))
  clear hb2 pa0 pa1 pb0 pb1 pb2 pb3 pb4 pb5 pb6 pb7 pb8
  go_wp2_with fail
  refine (boxes_any _).mono ?_
  rintro e w9 ⟨rfl, hb9⟩
  go_wp2_with fail
  go_ret
  exact ⟨rfl, HB2.out.trans (hb9.mono (by omega))⟩
set_option maxRecDepth 100000 in
set_option maxHeartbeats 2000000 in
theorem boxFull_bad (n c : Nat) (A : Option Addr) (at_ : Int) (arg : Nat → LT) (S : Nat → Prop) (x : LT) (cs : List Value) (Sx : Nat → Prop) (w : World) (hnc : n ≤ c) (hcm : c ≤ 9223372036854775807) (hR : RdL w S A n arg) (hx : x.isL w Sx cs) (hma : ∀ i, i < n → (arg i).val.many ≤ 4194304) (hmx : x.val.many ≤ 4194304) (hfl : flatB x.val = true) (ok : ¬ OkBox n at_ arg) : Calls Try.prog 6 #[.agg #[.slice A n c, .int .i64 at_], .agg cs.toArray] w fun e w' => e = .returned (.bool true) ∧ Below w.heap.size w w' := by
  have HFL := Lib.hid hfl
  have OK := Lib.hid ok
  clear hfl ok
  obtain ⟨k2, m2, s2, A2, n2, c2, rfl, hv⟩ := hx
  have HXL := Lib.hid (show x.isL w Sx _ from ⟨k2, m2, s2, A2, n2, c2, rfl, hv⟩)
  obtain ⟨k, f, t, num, s, val⟩ := x
  dsimp only at hv hmx HFL HXL ⊢
  have HR := Lib.hid hR
  have HV := Lib.hid hv
  have HMA := Lib.hid hma
  clear hR hv hma
  go_enter Try.func6, Try.ntmps6
  go_wp2_with fail
  refine (boxes_any _).mono ?_
  rintro e w1 ⟨rfl, hb1⟩
  have hz1 : w.heap.size + 2 ≤ w1.heap.size := by have := hb1.size; simp at this; omega
  have pa0 : w1.cell? ⟨w.heap.size, 0, none⟩ = some (.slice A n c) := ((bcell hb1).1 _ _ (by simp; omega)).trans (by simp [go_sem])
  have pa1 : w1.cell? ⟨w.heap.size, 1, none⟩ = some (.int .i64 at_) := ((bcell hb1).1 _ _ (by simp; omega)).trans (by simp [go_sem])
  have pb0 : w1.cell? ⟨w.heap.size + 1, 0, none⟩ = some (.int .i64 k) := ((bcell hb1).1 _ _ (by simp)).trans (by simp [go_sem])
  have pb1 : w1.cell? ⟨w.heap.size + 1, 1, none⟩ = some (.int .i64 f) := ((bcell hb1).1 _ _ (by simp)).trans (by simp [go_sem])
  have pb2 : w1.cell? ⟨w.heap.size + 1, 2, none⟩ = some (.int .i64 t) := ((bcell hb1).1 _ _ (by simp)).trans (by simp [go_sem])
  have pb3 : w1.cell? ⟨w.heap.size + 1, 3, none⟩ = some (.int .i64 num) := ((bcell hb1).1 _ _ (by simp)).trans (by simp [go_sem])
  have pb4 : w1.cell? ⟨w.heap.size + 1, 4, none⟩ = some (.string s) := ((bcell hb1).1 _ _ (by simp)).trans (by simp [go_sem])
  have pb5 : w1.cell? ⟨w.heap.size + 1, 5, none⟩ = some (.int .i64 k2) := ((bcell hb1).1 _ _ (by simp)).trans (by simp [go_sem])
  have pb6 : w1.cell? ⟨w.heap.size + 1, 6, none⟩ = some (.int .i64 m2) := ((bcell hb1).1 _ _ (by simp)).trans (by simp [go_sem])
  have pb7 : w1.cell? ⟨w.heap.size + 1, 7, none⟩ = some (.string s2) := ((bcell hb1).1 _ _ (by simp)).trans (by simp [go_sem])
  have pb8 : w1.cell? ⟨w.heap.size + 1, 8, none⟩ = some (.slice A2 n2 c2) := ((bcell hb1).1 _ _ (by simp)).trans (by simp [go_sem])
  have HB1 := Lib.hid ((((Below.refl w.heap.size w).alloc (Nat.le_refl _) _).alloc (by simp) _).trans (hb1.mono (by simp; omega)))
  clear hb1
  go_wp2_with fail
  refine (flat_any val _ Sx _ (isV_below HV.out HB1.out) hmx).mono ?_
  rintro e w2 ⟨rfl, hb2⟩
  rw [HFL.out]
  have hz2 : w.heap.size + 2 ≤ w2.heap.size := by have := hb2.size; omega
  have qa0 : w2.cell? ⟨w.heap.size, 0, none⟩ = some (.slice A n c) := ((bcell hb2).1 _ _ (by omega)).trans pa0
  have qa1 : w2.cell? ⟨w.heap.size, 1, none⟩ = some (.int .i64 at_) := ((bcell hb2).1 _ _ (by omega)).trans pa1
  have qb0 : w2.cell? ⟨w.heap.size + 1, 0, none⟩ = some (.int .i64 k) := ((bcell hb2).1 _ _ (by omega)).trans pb0
  have qb1 : w2.cell? ⟨w.heap.size + 1, 1, none⟩ = some (.int .i64 f) := ((bcell hb2).1 _ _ (by omega)).trans pb1
  have qb2 : w2.cell? ⟨w.heap.size + 1, 2, none⟩ = some (.int .i64 t) := ((bcell hb2).1 _ _ (by omega)).trans pb2
  have qb3 : w2.cell? ⟨w.heap.size + 1, 3, none⟩ = some (.int .i64 num) := ((bcell hb2).1 _ _ (by omega)).trans pb3
  have qb4 : w2.cell? ⟨w.heap.size + 1, 4, none⟩ = some (.string s) := ((bcell hb2).1 _ _ (by omega)).trans pb4
  have qb5 : w2.cell? ⟨w.heap.size + 1, 5, none⟩ = some (.int .i64 k2) := ((bcell hb2).1 _ _ (by omega)).trans pb5
  have qb6 : w2.cell? ⟨w.heap.size + 1, 6, none⟩ = some (.int .i64 m2) := ((bcell hb2).1 _ _ (by omega)).trans pb6
  have qb7 : w2.cell? ⟨w.heap.size + 1, 7, none⟩ = some (.string s2) := ((bcell hb2).1 _ _ (by omega)).trans pb7
  have qb8 : w2.cell? ⟨w.heap.size + 1, 8, none⟩ = some (.slice A2 n2 c2) := ((bcell hb2).1 _ _ (by omega)).trans pb8
  have HB2 := Lib.hid (HB1.out.trans (hb2.mono (by omega)))
  clear hb2 pa0 pa1 pb0 pb1 pb2 pb3 pb4 pb5 pb6 pb7 pb8
  go_wp2_with fail
  refine (boxCheck_bad n c A at_ arg S _ (by omega) (HR.out.below HB2.out) OK.out).mono ?_
  rintro e w3 ⟨y, rfl, hy, hb3⟩
  have hy1 : (y != 0) = true := by simpa using hy
  have hy2 : (y == 0) = false := by simpa using hy
  have hz3 : w.heap.size + 2 ≤ w3.heap.size := by have := hb3.size; omega
  have HB3 := Lib.hid (HB2.out.trans (hb3.mono (by omega)))
  clear hy hb3
  go_wp2_with fail
  refine (boxes_any _).mono ?_
  rintro e w9 ⟨rfl, hb9⟩
  go_wp2_with fail
  go_ret
  exact ⟨rfl, HB3.out.trans (hb9.mono (by omega))⟩
set_option maxRecDepth 100000 in
set_option maxHeartbeats 2000000 in
theorem boxFull_form (n c : Nat) (A : Option Addr) (at_ : Int) (arg : Nat → LT) (S : Nat → Prop) (x : LT) (cs : List Value) (Sx : Nat → Prop) (w : World) (hnc : n ≤ c) (hcm : c ≤ 9223372036854775807) (hR : RdL w S A n arg) (hx : x.isL w Sx cs) (hma : ∀ i, i < n → (arg i).val.many ≤ 4194304) (hmx : x.val.many ≤ 4194304) (hfl : flatB x.val = true) (ok : OkBox n at_ arg) (hf : fitsB x.kind = false) : Calls Try.prog 6 #[.agg #[.slice A n c, .int .i64 at_], .agg cs.toArray] w fun e w' => e = .returned (.bool true) ∧ Below w.heap.size w w' := by
  have HFL := Lib.hid hfl
  have OK := Lib.hid ok
  have h60 := ok.1
  clear hfl ok
  obtain ⟨k2, m2, s2, A2, n2, c2, rfl, hv⟩ := hx
  have HXL := Lib.hid (show x.isL w Sx _ from ⟨k2, m2, s2, A2, n2, c2, rfl, hv⟩)
  obtain ⟨k, f, t, num, s, val⟩ := x
  dsimp only at hv hmx HFL HXL hf ⊢
  have g1 : (k == 1) = false := by simp only [fitsB, Bool.or_eq_false_iff] at hf; exact hf.1
  have g2 : (k == 2) = false := by simp only [fitsB, Bool.or_eq_false_iff] at hf; exact hf.2
  have HR := Lib.hid hR
  have HV := Lib.hid hv
  have HMA := Lib.hid hma
  clear hR hv hma
  go_enter Try.func6, Try.ntmps6
  go_wp2_with fail
  refine (boxes_any _).mono ?_
  rintro e w1 ⟨rfl, hb1⟩
  have hz1 : w.heap.size + 2 ≤ w1.heap.size := by have := hb1.size; simp at this; omega
  have pa0 : w1.cell? ⟨w.heap.size, 0, none⟩ = some (.slice A n c) := ((bcell hb1).1 _ _ (by simp; omega)).trans (by simp [go_sem])
  have pa1 : w1.cell? ⟨w.heap.size, 1, none⟩ = some (.int .i64 at_) := ((bcell hb1).1 _ _ (by simp; omega)).trans (by simp [go_sem])
  have pb0 : w1.cell? ⟨w.heap.size + 1, 0, none⟩ = some (.int .i64 k) := ((bcell hb1).1 _ _ (by simp)).trans (by simp [go_sem])
  have pb1 : w1.cell? ⟨w.heap.size + 1, 1, none⟩ = some (.int .i64 f) := ((bcell hb1).1 _ _ (by simp)).trans (by simp [go_sem])
  have pb2 : w1.cell? ⟨w.heap.size + 1, 2, none⟩ = some (.int .i64 t) := ((bcell hb1).1 _ _ (by simp)).trans (by simp [go_sem])
  have pb3 : w1.cell? ⟨w.heap.size + 1, 3, none⟩ = some (.int .i64 num) := ((bcell hb1).1 _ _ (by simp)).trans (by simp [go_sem])
  have pb4 : w1.cell? ⟨w.heap.size + 1, 4, none⟩ = some (.string s) := ((bcell hb1).1 _ _ (by simp)).trans (by simp [go_sem])
  have pb5 : w1.cell? ⟨w.heap.size + 1, 5, none⟩ = some (.int .i64 k2) := ((bcell hb1).1 _ _ (by simp)).trans (by simp [go_sem])
  have pb6 : w1.cell? ⟨w.heap.size + 1, 6, none⟩ = some (.int .i64 m2) := ((bcell hb1).1 _ _ (by simp)).trans (by simp [go_sem])
  have pb7 : w1.cell? ⟨w.heap.size + 1, 7, none⟩ = some (.string s2) := ((bcell hb1).1 _ _ (by simp)).trans (by simp [go_sem])
  have pb8 : w1.cell? ⟨w.heap.size + 1, 8, none⟩ = some (.slice A2 n2 c2) := ((bcell hb1).1 _ _ (by simp)).trans (by simp [go_sem])
  have HB1 := Lib.hid ((((Below.refl w.heap.size w).alloc (Nat.le_refl _) _).alloc (by simp) _).trans (hb1.mono (by simp; omega)))
  clear hb1
  go_wp2_with fail
  refine (flat_any val _ Sx _ (isV_below HV.out HB1.out) hmx).mono ?_
  rintro e w2 ⟨rfl, hb2⟩
  rw [HFL.out]
  have hz2 : w.heap.size + 2 ≤ w2.heap.size := by have := hb2.size; omega
  have qa0 : w2.cell? ⟨w.heap.size, 0, none⟩ = some (.slice A n c) := ((bcell hb2).1 _ _ (by omega)).trans pa0
  have qa1 : w2.cell? ⟨w.heap.size, 1, none⟩ = some (.int .i64 at_) := ((bcell hb2).1 _ _ (by omega)).trans pa1
  have qb0 : w2.cell? ⟨w.heap.size + 1, 0, none⟩ = some (.int .i64 k) := ((bcell hb2).1 _ _ (by omega)).trans pb0
  have qb1 : w2.cell? ⟨w.heap.size + 1, 1, none⟩ = some (.int .i64 f) := ((bcell hb2).1 _ _ (by omega)).trans pb1
  have qb2 : w2.cell? ⟨w.heap.size + 1, 2, none⟩ = some (.int .i64 t) := ((bcell hb2).1 _ _ (by omega)).trans pb2
  have qb3 : w2.cell? ⟨w.heap.size + 1, 3, none⟩ = some (.int .i64 num) := ((bcell hb2).1 _ _ (by omega)).trans pb3
  have qb4 : w2.cell? ⟨w.heap.size + 1, 4, none⟩ = some (.string s) := ((bcell hb2).1 _ _ (by omega)).trans pb4
  have qb5 : w2.cell? ⟨w.heap.size + 1, 5, none⟩ = some (.int .i64 k2) := ((bcell hb2).1 _ _ (by omega)).trans pb5
  have qb6 : w2.cell? ⟨w.heap.size + 1, 6, none⟩ = some (.int .i64 m2) := ((bcell hb2).1 _ _ (by omega)).trans pb6
  have qb7 : w2.cell? ⟨w.heap.size + 1, 7, none⟩ = some (.string s2) := ((bcell hb2).1 _ _ (by omega)).trans pb7
  have qb8 : w2.cell? ⟨w.heap.size + 1, 8, none⟩ = some (.slice A2 n2 c2) := ((bcell hb2).1 _ _ (by omega)).trans pb8
  have HB2 := Lib.hid (HB1.out.trans (hb2.mono (by omega)))
  clear hb2 pa0 pa1 pb0 pb1 pb2 pb3 pb4 pb5 pb6 pb7 pb8
  go_wp2_with fail
  refine (boxCheck_ok n c A at_ arg S _ (by omega) (HR.out.below HB2.out) OK.out).mono ?_
  rintro e w3 ⟨rfl, hb3⟩
  have hz3 : w.heap.size + 2 ≤ w3.heap.size := by have := hb3.size; omega
  have ra0 : w3.cell? ⟨w.heap.size, 0, none⟩ = some (.slice A n c) := ((bcell hb3).1 _ _ (by omega)).trans qa0
  have ra1 : w3.cell? ⟨w.heap.size, 1, none⟩ = some (.int .i64 at_) := ((bcell hb3).1 _ _ (by omega)).trans qa1
  have rb0 : w3.cell? ⟨w.heap.size + 1, 0, none⟩ = some (.int .i64 k) := ((bcell hb3).1 _ _ (by omega)).trans qb0
  have rb1 : w3.cell? ⟨w.heap.size + 1, 1, none⟩ = some (.int .i64 f) := ((bcell hb3).1 _ _ (by omega)).trans qb1
  have rb2 : w3.cell? ⟨w.heap.size + 1, 2, none⟩ = some (.int .i64 t) := ((bcell hb3).1 _ _ (by omega)).trans qb2
  have rb3 : w3.cell? ⟨w.heap.size + 1, 3, none⟩ = some (.int .i64 num) := ((bcell hb3).1 _ _ (by omega)).trans qb3
  have rb4 : w3.cell? ⟨w.heap.size + 1, 4, none⟩ = some (.string s) := ((bcell hb3).1 _ _ (by omega)).trans qb4
  have rb5 : w3.cell? ⟨w.heap.size + 1, 5, none⟩ = some (.int .i64 k2) := ((bcell hb3).1 _ _ (by omega)).trans qb5
  have rb6 : w3.cell? ⟨w.heap.size + 1, 6, none⟩ = some (.int .i64 m2) := ((bcell hb3).1 _ _ (by omega)).trans qb6
  have rb7 : w3.cell? ⟨w.heap.size + 1, 7, none⟩ = some (.string s2) := ((bcell hb3).1 _ _ (by omega)).trans qb7
  have rb8 : w3.cell? ⟨w.heap.size + 1, 8, none⟩ = some (.slice A2 n2 c2) := ((bcell hb3).1 _ _ (by omega)).trans qb8
  have HB3 := Lib.hid (HB2.out.trans (hb3.mono (by omega)))
  clear hb3 qa0 qa1 qb0 qb1 qb2 qb3 qb4 qb5 qb6 qb7 qb8
  go_wp2_with fail
  refine (put_form n c A at_ arg S _ _ Sx _ hnc hcm (HR.out.below HB3.out) (isL_below HXL.out HB3.out) OK.out hf).mono ?_
  rintro e w4 ⟨y, rfl, hy, hb4⟩
  obtain rfl : y = 3 := hy
  have ua0 : w4.cell? ⟨w.heap.size, 0, none⟩ = some (.slice A n c) := ((bcell hb4).1 _ _ (by omega)).trans ra0
  have ua1 : w4.cell? ⟨w.heap.size, 1, none⟩ = some (.int .i64 at_) := ((bcell hb4).1 _ _ (by omega)).trans ra1
  have ub0 : w4.cell? ⟨w.heap.size + 1, 0, none⟩ = some (.int .i64 k) := ((bcell hb4).1 _ _ (by omega)).trans rb0
  have ub1 : w4.cell? ⟨w.heap.size + 1, 1, none⟩ = some (.int .i64 f) := ((bcell hb4).1 _ _ (by omega)).trans rb1
  have ub2 : w4.cell? ⟨w.heap.size + 1, 2, none⟩ = some (.int .i64 t) := ((bcell hb4).1 _ _ (by omega)).trans rb2
  have ub3 : w4.cell? ⟨w.heap.size + 1, 3, none⟩ = some (.int .i64 num) := ((bcell hb4).1 _ _ (by omega)).trans rb3
  have ub4 : w4.cell? ⟨w.heap.size + 1, 4, none⟩ = some (.string s) := ((bcell hb4).1 _ _ (by omega)).trans rb4
  have ub5 : w4.cell? ⟨w.heap.size + 1, 5, none⟩ = some (.int .i64 k2) := ((bcell hb4).1 _ _ (by omega)).trans rb5
  have ub6 : w4.cell? ⟨w.heap.size + 1, 6, none⟩ = some (.int .i64 m2) := ((bcell hb4).1 _ _ (by omega)).trans rb6
  have ub7 : w4.cell? ⟨w.heap.size + 1, 7, none⟩ = some (.string s2) := ((bcell hb4).1 _ _ (by omega)).trans rb7
  have ub8 : w4.cell? ⟨w.heap.size + 1, 8, none⟩ = some (.slice A2 n2 c2) := ((bcell hb4).1 _ _ (by omega)).trans rb8
  have hz4 : w.heap.size + 2 ≤ w4.heap.size := by have := hb4.size; omega
  have hz4a : w.heap.size < w4.heap.size := by omega
  have hz4b : w.heap.size + 1 < w4.heap.size := by omega
  have HB4 := Lib.hid (HB3.out.trans (hb4.mono (by omega)))
  clear hb4 ra0 ra1 rb0 rb1 rb2 rb3 rb4 rb5 rb6 rb7 rb8
  go_wp2_with fail
  go_ret
  exact ⟨rfl, HB4.out.alloc (by omega) _⟩
set_option maxRecDepth 100000 in
set_option maxHeartbeats 2000000 in
theorem boxFull_onef (n c : Nat) (A : Option Addr) (at_ : Int) (arg : Nat → LT) (S : Nat → Prop) (x : LT) (cs : List Value) (Sx : Nat → Prop) (w : World) (hnc : n ≤ c) (hcm : c ≤ 9223372036854775807) (hR : RdL w S A n arg) (hx : x.isL w Sx cs) (hma : ∀ i, i < n → (arg i).val.many ≤ 4194304) (hmx : x.val.many ≤ 4194304) (hfl : flatB x.val = true) (ok : OkBox n at_ arg) (hf : x.kind = 1) (h6 : n = 60) : Calls Try.prog 6 #[.agg #[.slice A n c, .int .i64 at_], .agg cs.toArray] w fun e w' => e = .returned (.bool true) ∧ Below w.heap.size w w' := by
  have HFL := Lib.hid hfl
  have OK := Lib.hid ok
  have h60 := ok.1
  clear hfl ok
  have d6 : decide ((n : Int) < 60) = false := by simp; omega
  have H6 := Lib.hid h6
  clear h6
  obtain ⟨k2, m2, s2, A2, n2, c2, rfl, hv⟩ := hx
  have HXL := Lib.hid (show x.isL w Sx _ from ⟨k2, m2, s2, A2, n2, c2, rfl, hv⟩)
  obtain ⟨k, f, t, num, s, val⟩ := x
  dsimp only at hv hmx HFL HXL hf ⊢
  have hk : k = 1 := hf
  subst hk
  have hfk : fitsB 1 = true := rfl
  have HR := Lib.hid hR
  have HV := Lib.hid hv
  have HMA := Lib.hid hma
  clear hR hv hma
  go_enter Try.func6, Try.ntmps6
  go_wp2_with fail
  refine (boxes_any _).mono ?_
  rintro e w1 ⟨rfl, hb1⟩
  have hz1 : w.heap.size + 2 ≤ w1.heap.size := by have := hb1.size; simp at this; omega
  have pa0 : w1.cell? ⟨w.heap.size, 0, none⟩ = some (.slice A n c) := ((bcell hb1).1 _ _ (by simp; omega)).trans (by simp [go_sem])
  have pa1 : w1.cell? ⟨w.heap.size, 1, none⟩ = some (.int .i64 at_) := ((bcell hb1).1 _ _ (by simp; omega)).trans (by simp [go_sem])
  have pb0 : w1.cell? ⟨w.heap.size + 1, 0, none⟩ = some (.int .i64 1) := ((bcell hb1).1 _ _ (by simp)).trans (by simp [go_sem])
  have pb1 : w1.cell? ⟨w.heap.size + 1, 1, none⟩ = some (.int .i64 f) := ((bcell hb1).1 _ _ (by simp)).trans (by simp [go_sem])
  have pb2 : w1.cell? ⟨w.heap.size + 1, 2, none⟩ = some (.int .i64 t) := ((bcell hb1).1 _ _ (by simp)).trans (by simp [go_sem])
  have pb3 : w1.cell? ⟨w.heap.size + 1, 3, none⟩ = some (.int .i64 num) := ((bcell hb1).1 _ _ (by simp)).trans (by simp [go_sem])
  have pb4 : w1.cell? ⟨w.heap.size + 1, 4, none⟩ = some (.string s) := ((bcell hb1).1 _ _ (by simp)).trans (by simp [go_sem])
  have pb5 : w1.cell? ⟨w.heap.size + 1, 5, none⟩ = some (.int .i64 k2) := ((bcell hb1).1 _ _ (by simp)).trans (by simp [go_sem])
  have pb6 : w1.cell? ⟨w.heap.size + 1, 6, none⟩ = some (.int .i64 m2) := ((bcell hb1).1 _ _ (by simp)).trans (by simp [go_sem])
  have pb7 : w1.cell? ⟨w.heap.size + 1, 7, none⟩ = some (.string s2) := ((bcell hb1).1 _ _ (by simp)).trans (by simp [go_sem])
  have pb8 : w1.cell? ⟨w.heap.size + 1, 8, none⟩ = some (.slice A2 n2 c2) := ((bcell hb1).1 _ _ (by simp)).trans (by simp [go_sem])
  have HB1 := Lib.hid ((((Below.refl w.heap.size w).alloc (Nat.le_refl _) _).alloc (by simp) _).trans (hb1.mono (by simp; omega)))
  clear hb1
  go_wp2_with fail
  refine (flat_any val _ Sx _ (isV_below HV.out HB1.out) hmx).mono ?_
  rintro e w2 ⟨rfl, hb2⟩
  rw [HFL.out]
  have hz2 : w.heap.size + 2 ≤ w2.heap.size := by have := hb2.size; omega
  have qa0 : w2.cell? ⟨w.heap.size, 0, none⟩ = some (.slice A n c) := ((bcell hb2).1 _ _ (by omega)).trans pa0
  have qa1 : w2.cell? ⟨w.heap.size, 1, none⟩ = some (.int .i64 at_) := ((bcell hb2).1 _ _ (by omega)).trans pa1
  have qb0 : w2.cell? ⟨w.heap.size + 1, 0, none⟩ = some (.int .i64 1) := ((bcell hb2).1 _ _ (by omega)).trans pb0
  have qb1 : w2.cell? ⟨w.heap.size + 1, 1, none⟩ = some (.int .i64 f) := ((bcell hb2).1 _ _ (by omega)).trans pb1
  have qb2 : w2.cell? ⟨w.heap.size + 1, 2, none⟩ = some (.int .i64 t) := ((bcell hb2).1 _ _ (by omega)).trans pb2
  have qb3 : w2.cell? ⟨w.heap.size + 1, 3, none⟩ = some (.int .i64 num) := ((bcell hb2).1 _ _ (by omega)).trans pb3
  have qb4 : w2.cell? ⟨w.heap.size + 1, 4, none⟩ = some (.string s) := ((bcell hb2).1 _ _ (by omega)).trans pb4
  have qb5 : w2.cell? ⟨w.heap.size + 1, 5, none⟩ = some (.int .i64 k2) := ((bcell hb2).1 _ _ (by omega)).trans pb5
  have qb6 : w2.cell? ⟨w.heap.size + 1, 6, none⟩ = some (.int .i64 m2) := ((bcell hb2).1 _ _ (by omega)).trans pb6
  have qb7 : w2.cell? ⟨w.heap.size + 1, 7, none⟩ = some (.string s2) := ((bcell hb2).1 _ _ (by omega)).trans pb7
  have qb8 : w2.cell? ⟨w.heap.size + 1, 8, none⟩ = some (.slice A2 n2 c2) := ((bcell hb2).1 _ _ (by omega)).trans pb8
  have HB2 := Lib.hid (HB1.out.trans (hb2.mono (by omega)))
  clear hb2 pa0 pa1 pb0 pb1 pb2 pb3 pb4 pb5 pb6 pb7 pb8
  go_wp2_with fail
  refine (boxCheck_ok n c A at_ arg S _ (by omega) (HR.out.below HB2.out) OK.out).mono ?_
  rintro e w3 ⟨rfl, hb3⟩
  have hz3 : w.heap.size + 2 ≤ w3.heap.size := by have := hb3.size; omega
  have ra0 : w3.cell? ⟨w.heap.size, 0, none⟩ = some (.slice A n c) := ((bcell hb3).1 _ _ (by omega)).trans qa0
  have ra1 : w3.cell? ⟨w.heap.size, 1, none⟩ = some (.int .i64 at_) := ((bcell hb3).1 _ _ (by omega)).trans qa1
  have rb0 : w3.cell? ⟨w.heap.size + 1, 0, none⟩ = some (.int .i64 1) := ((bcell hb3).1 _ _ (by omega)).trans qb0
  have rb1 : w3.cell? ⟨w.heap.size + 1, 1, none⟩ = some (.int .i64 f) := ((bcell hb3).1 _ _ (by omega)).trans qb1
  have rb2 : w3.cell? ⟨w.heap.size + 1, 2, none⟩ = some (.int .i64 t) := ((bcell hb3).1 _ _ (by omega)).trans qb2
  have rb3 : w3.cell? ⟨w.heap.size + 1, 3, none⟩ = some (.int .i64 num) := ((bcell hb3).1 _ _ (by omega)).trans qb3
  have rb4 : w3.cell? ⟨w.heap.size + 1, 4, none⟩ = some (.string s) := ((bcell hb3).1 _ _ (by omega)).trans qb4
  have rb5 : w3.cell? ⟨w.heap.size + 1, 5, none⟩ = some (.int .i64 k2) := ((bcell hb3).1 _ _ (by omega)).trans qb5
  have rb6 : w3.cell? ⟨w.heap.size + 1, 6, none⟩ = some (.int .i64 m2) := ((bcell hb3).1 _ _ (by omega)).trans qb6
  have rb7 : w3.cell? ⟨w.heap.size + 1, 7, none⟩ = some (.string s2) := ((bcell hb3).1 _ _ (by omega)).trans qb7
  have rb8 : w3.cell? ⟨w.heap.size + 1, 8, none⟩ = some (.slice A2 n2 c2) := ((bcell hb3).1 _ _ (by omega)).trans qb8
  have HB3 := Lib.hid (HB2.out.trans (hb3.mono (by omega)))
  clear hb3 qa0 qa1 qb0 qb1 qb2 qb3 qb4 qb5 qb6 qb7 qb8
  go_wp2_with fail
  refine (put_full n c A at_ arg S _ _ Sx _ hnc hcm (HR.out.below HB3.out) (isL_below HXL.out HB3.out) OK.out hfk H6.out).mono ?_
  rintro e w4 ⟨y, rfl, hy, hb4⟩
  obtain rfl : y = 6 := hy
  have ua0 : w4.cell? ⟨w.heap.size, 0, none⟩ = some (.slice A n c) := ((bcell hb4).1 _ _ (by omega)).trans ra0
  have ua1 : w4.cell? ⟨w.heap.size, 1, none⟩ = some (.int .i64 at_) := ((bcell hb4).1 _ _ (by omega)).trans ra1
  have ub0 : w4.cell? ⟨w.heap.size + 1, 0, none⟩ = some (.int .i64 1) := ((bcell hb4).1 _ _ (by omega)).trans rb0
  have ub1 : w4.cell? ⟨w.heap.size + 1, 1, none⟩ = some (.int .i64 f) := ((bcell hb4).1 _ _ (by omega)).trans rb1
  have ub2 : w4.cell? ⟨w.heap.size + 1, 2, none⟩ = some (.int .i64 t) := ((bcell hb4).1 _ _ (by omega)).trans rb2
  have ub3 : w4.cell? ⟨w.heap.size + 1, 3, none⟩ = some (.int .i64 num) := ((bcell hb4).1 _ _ (by omega)).trans rb3
  have ub4 : w4.cell? ⟨w.heap.size + 1, 4, none⟩ = some (.string s) := ((bcell hb4).1 _ _ (by omega)).trans rb4
  have ub5 : w4.cell? ⟨w.heap.size + 1, 5, none⟩ = some (.int .i64 k2) := ((bcell hb4).1 _ _ (by omega)).trans rb5
  have ub6 : w4.cell? ⟨w.heap.size + 1, 6, none⟩ = some (.int .i64 m2) := ((bcell hb4).1 _ _ (by omega)).trans rb6
  have ub7 : w4.cell? ⟨w.heap.size + 1, 7, none⟩ = some (.string s2) := ((bcell hb4).1 _ _ (by omega)).trans rb7
  have ub8 : w4.cell? ⟨w.heap.size + 1, 8, none⟩ = some (.slice A2 n2 c2) := ((bcell hb4).1 _ _ (by omega)).trans rb8
  have hz4 : w.heap.size + 2 ≤ w4.heap.size := by have := hb4.size; omega
  have hz4a : w.heap.size < w4.heap.size := by omega
  have hz4b : w.heap.size + 1 < w4.heap.size := by omega
  have HB4 := Lib.hid (HB3.out.trans (hb4.mono (by omega)))
  clear hb4 ra0 ra1 rb0 rb1 rb2 rb3 rb4 rb5 rb6 rb7 rb8
  go_wp2_with fail
  go_ret
  exact ⟨rfl, HB4.out.alloc (by omega) _⟩
set_option maxRecDepth 100000 in
set_option maxHeartbeats 2000000 in
theorem boxFull_oneo (n c : Nat) (A : Option Addr) (at_ : Int) (arg : Nat → LT) (S : Nat → Prop) (x : LT) (cs : List Value) (Sx : Nat → Prop) (w : World) (hnc : n ≤ c) (hcm : c ≤ 9223372036854775807) (hR : RdL w S A n arg) (hx : x.isL w Sx cs) (hma : ∀ i, i < n → (arg i).val.many ≤ 4194304) (hmx : x.val.many ≤ 4194304) (hfl : flatB x.val = true) (ok : OkBox n at_ arg) (hf : x.kind = 1) (h6 : n < 60) : Calls Try.prog 6 #[.agg #[.slice A n c, .int .i64 at_], .agg cs.toArray] w fun e w' => e = .returned (.bool true) ∧ Below w.heap.size w w' := by
  have HFL := Lib.hid hfl
  have OK := Lib.hid ok
  have h60 := ok.1
  clear hfl ok
  have d6 : decide ((n : Int) < 60) = true := by simp; omega
  obtain ⟨k2, m2, s2, A2, n2, c2, rfl, hv⟩ := hx
  have HXL := Lib.hid (show x.isL w Sx _ from ⟨k2, m2, s2, A2, n2, c2, rfl, hv⟩)
  obtain ⟨k, f, t, num, s, val⟩ := x
  dsimp only at hv hmx HFL HXL hf ⊢
  have hk : k = 1 := hf
  subst hk
  have hfk : fitsB 1 = true := rfl
  have HR := Lib.hid hR
  have HV := Lib.hid hv
  have HMA := Lib.hid hma
  clear hR hv hma
  go_enter Try.func6, Try.ntmps6
  go_wp2_with fail
  refine (boxes_any _).mono ?_
  rintro e w1 ⟨rfl, hb1⟩
  have hz1 : w.heap.size + 2 ≤ w1.heap.size := by have := hb1.size; simp at this; omega
  have pa0 : w1.cell? ⟨w.heap.size, 0, none⟩ = some (.slice A n c) := ((bcell hb1).1 _ _ (by simp; omega)).trans (by simp [go_sem])
  have pa1 : w1.cell? ⟨w.heap.size, 1, none⟩ = some (.int .i64 at_) := ((bcell hb1).1 _ _ (by simp; omega)).trans (by simp [go_sem])
  have pb0 : w1.cell? ⟨w.heap.size + 1, 0, none⟩ = some (.int .i64 1) := ((bcell hb1).1 _ _ (by simp)).trans (by simp [go_sem])
  have pb1 : w1.cell? ⟨w.heap.size + 1, 1, none⟩ = some (.int .i64 f) := ((bcell hb1).1 _ _ (by simp)).trans (by simp [go_sem])
  have pb2 : w1.cell? ⟨w.heap.size + 1, 2, none⟩ = some (.int .i64 t) := ((bcell hb1).1 _ _ (by simp)).trans (by simp [go_sem])
  have pb3 : w1.cell? ⟨w.heap.size + 1, 3, none⟩ = some (.int .i64 num) := ((bcell hb1).1 _ _ (by simp)).trans (by simp [go_sem])
  have pb4 : w1.cell? ⟨w.heap.size + 1, 4, none⟩ = some (.string s) := ((bcell hb1).1 _ _ (by simp)).trans (by simp [go_sem])
  have pb5 : w1.cell? ⟨w.heap.size + 1, 5, none⟩ = some (.int .i64 k2) := ((bcell hb1).1 _ _ (by simp)).trans (by simp [go_sem])
  have pb6 : w1.cell? ⟨w.heap.size + 1, 6, none⟩ = some (.int .i64 m2) := ((bcell hb1).1 _ _ (by simp)).trans (by simp [go_sem])
  have pb7 : w1.cell? ⟨w.heap.size + 1, 7, none⟩ = some (.string s2) := ((bcell hb1).1 _ _ (by simp)).trans (by simp [go_sem])
  have pb8 : w1.cell? ⟨w.heap.size + 1, 8, none⟩ = some (.slice A2 n2 c2) := ((bcell hb1).1 _ _ (by simp)).trans (by simp [go_sem])
  have HB1 := Lib.hid ((((Below.refl w.heap.size w).alloc (Nat.le_refl _) _).alloc (by simp) _).trans (hb1.mono (by simp; omega)))
  clear hb1
  go_wp2_with fail
  refine (flat_any val _ Sx _ (isV_below HV.out HB1.out) hmx).mono ?_
  rintro e w2 ⟨rfl, hb2⟩
  rw [HFL.out]
  have hz2 : w.heap.size + 2 ≤ w2.heap.size := by have := hb2.size; omega
  have qa0 : w2.cell? ⟨w.heap.size, 0, none⟩ = some (.slice A n c) := ((bcell hb2).1 _ _ (by omega)).trans pa0
  have qa1 : w2.cell? ⟨w.heap.size, 1, none⟩ = some (.int .i64 at_) := ((bcell hb2).1 _ _ (by omega)).trans pa1
  have qb0 : w2.cell? ⟨w.heap.size + 1, 0, none⟩ = some (.int .i64 1) := ((bcell hb2).1 _ _ (by omega)).trans pb0
  have qb1 : w2.cell? ⟨w.heap.size + 1, 1, none⟩ = some (.int .i64 f) := ((bcell hb2).1 _ _ (by omega)).trans pb1
  have qb2 : w2.cell? ⟨w.heap.size + 1, 2, none⟩ = some (.int .i64 t) := ((bcell hb2).1 _ _ (by omega)).trans pb2
  have qb3 : w2.cell? ⟨w.heap.size + 1, 3, none⟩ = some (.int .i64 num) := ((bcell hb2).1 _ _ (by omega)).trans pb3
  have qb4 : w2.cell? ⟨w.heap.size + 1, 4, none⟩ = some (.string s) := ((bcell hb2).1 _ _ (by omega)).trans pb4
  have qb5 : w2.cell? ⟨w.heap.size + 1, 5, none⟩ = some (.int .i64 k2) := ((bcell hb2).1 _ _ (by omega)).trans pb5
  have qb6 : w2.cell? ⟨w.heap.size + 1, 6, none⟩ = some (.int .i64 m2) := ((bcell hb2).1 _ _ (by omega)).trans pb6
  have qb7 : w2.cell? ⟨w.heap.size + 1, 7, none⟩ = some (.string s2) := ((bcell hb2).1 _ _ (by omega)).trans pb7
  have qb8 : w2.cell? ⟨w.heap.size + 1, 8, none⟩ = some (.slice A2 n2 c2) := ((bcell hb2).1 _ _ (by omega)).trans pb8
  have HB2 := Lib.hid (HB1.out.trans (hb2.mono (by omega)))
  clear hb2 pa0 pa1 pb0 pb1 pb2 pb3 pb4 pb5 pb6 pb7 pb8
  go_wp2_with fail
  refine (boxCheck_ok n c A at_ arg S _ (by omega) (HR.out.below HB2.out) OK.out).mono ?_
  rintro e w3 ⟨rfl, hb3⟩
  have hz3 : w.heap.size + 2 ≤ w3.heap.size := by have := hb3.size; omega
  have ra0 : w3.cell? ⟨w.heap.size, 0, none⟩ = some (.slice A n c) := ((bcell hb3).1 _ _ (by omega)).trans qa0
  have ra1 : w3.cell? ⟨w.heap.size, 1, none⟩ = some (.int .i64 at_) := ((bcell hb3).1 _ _ (by omega)).trans qa1
  have rb0 : w3.cell? ⟨w.heap.size + 1, 0, none⟩ = some (.int .i64 1) := ((bcell hb3).1 _ _ (by omega)).trans qb0
  have rb1 : w3.cell? ⟨w.heap.size + 1, 1, none⟩ = some (.int .i64 f) := ((bcell hb3).1 _ _ (by omega)).trans qb1
  have rb2 : w3.cell? ⟨w.heap.size + 1, 2, none⟩ = some (.int .i64 t) := ((bcell hb3).1 _ _ (by omega)).trans qb2
  have rb3 : w3.cell? ⟨w.heap.size + 1, 3, none⟩ = some (.int .i64 num) := ((bcell hb3).1 _ _ (by omega)).trans qb3
  have rb4 : w3.cell? ⟨w.heap.size + 1, 4, none⟩ = some (.string s) := ((bcell hb3).1 _ _ (by omega)).trans qb4
  have rb5 : w3.cell? ⟨w.heap.size + 1, 5, none⟩ = some (.int .i64 k2) := ((bcell hb3).1 _ _ (by omega)).trans qb5
  have rb6 : w3.cell? ⟨w.heap.size + 1, 6, none⟩ = some (.int .i64 m2) := ((bcell hb3).1 _ _ (by omega)).trans qb6
  have rb7 : w3.cell? ⟨w.heap.size + 1, 7, none⟩ = some (.string s2) := ((bcell hb3).1 _ _ (by omega)).trans qb7
  have rb8 : w3.cell? ⟨w.heap.size + 1, 8, none⟩ = some (.slice A2 n2 c2) := ((bcell hb3).1 _ _ (by omega)).trans qb8
  have HB3 := Lib.hid (HB2.out.trans (hb3.mono (by omega)))
  clear hb3 qa0 qa1 qb0 qb1 qb2 qb3 qb4 qb5 qb6 qb7 qb8
  go_wp2_with fail
  refine (put_ok n c A at_ arg S _ _ Sx _ hnc hcm (HR.out.below HB3.out) (isL_below HXL.out HB3.out) OK.out hfk h6 HMA.out hmx).mono ?_
  rintro e w4 ⟨A4, c4, rfl, _, _, _, hb4⟩
  have ua0 : w4.cell? ⟨w.heap.size, 0, none⟩ = some (.slice A n c) := ((bcell hb4).1 _ _ (by omega)).trans ra0
  have ua1 : w4.cell? ⟨w.heap.size, 1, none⟩ = some (.int .i64 at_) := ((bcell hb4).1 _ _ (by omega)).trans ra1
  have ub0 : w4.cell? ⟨w.heap.size + 1, 0, none⟩ = some (.int .i64 1) := ((bcell hb4).1 _ _ (by omega)).trans rb0
  have ub1 : w4.cell? ⟨w.heap.size + 1, 1, none⟩ = some (.int .i64 f) := ((bcell hb4).1 _ _ (by omega)).trans rb1
  have ub2 : w4.cell? ⟨w.heap.size + 1, 2, none⟩ = some (.int .i64 t) := ((bcell hb4).1 _ _ (by omega)).trans rb2
  have ub3 : w4.cell? ⟨w.heap.size + 1, 3, none⟩ = some (.int .i64 num) := ((bcell hb4).1 _ _ (by omega)).trans rb3
  have ub4 : w4.cell? ⟨w.heap.size + 1, 4, none⟩ = some (.string s) := ((bcell hb4).1 _ _ (by omega)).trans rb4
  have ub5 : w4.cell? ⟨w.heap.size + 1, 5, none⟩ = some (.int .i64 k2) := ((bcell hb4).1 _ _ (by omega)).trans rb5
  have ub6 : w4.cell? ⟨w.heap.size + 1, 6, none⟩ = some (.int .i64 m2) := ((bcell hb4).1 _ _ (by omega)).trans rb6
  have ub7 : w4.cell? ⟨w.heap.size + 1, 7, none⟩ = some (.string s2) := ((bcell hb4).1 _ _ (by omega)).trans rb7
  have ub8 : w4.cell? ⟨w.heap.size + 1, 8, none⟩ = some (.slice A2 n2 c2) := ((bcell hb4).1 _ _ (by omega)).trans rb8
  have hz4 : w.heap.size + 2 ≤ w4.heap.size := by have := hb4.size; omega
  have hz4a : w.heap.size < w4.heap.size := by omega
  have hz4b : w.heap.size + 1 < w4.heap.size := by omega
  have HB4 := Lib.hid (HB3.out.trans (hb4.mono (by omega)))
  clear hb4 ra0 ra1 rb0 rb1 rb2 rb3 rb4 rb5 rb6 rb7 rb8
  go_wp2_with fail
  go_ret
  exact ⟨rfl, HB4.out.alloc (by omega) _⟩
set_option maxRecDepth 100000 in
set_option maxHeartbeats 2000000 in
theorem boxFull_twof (n c : Nat) (A : Option Addr) (at_ : Int) (arg : Nat → LT) (S : Nat → Prop) (x : LT) (cs : List Value) (Sx : Nat → Prop) (w : World) (hnc : n ≤ c) (hcm : c ≤ 9223372036854775807) (hR : RdL w S A n arg) (hx : x.isL w Sx cs) (hma : ∀ i, i < n → (arg i).val.many ≤ 4194304) (hmx : x.val.many ≤ 4194304) (hfl : flatB x.val = true) (ok : OkBox n at_ arg) (hf : x.kind = 2) (h6 : n = 60) : Calls Try.prog 6 #[.agg #[.slice A n c, .int .i64 at_], .agg cs.toArray] w fun e w' => e = .returned (.bool true) ∧ Below w.heap.size w w' := by
  have HFL := Lib.hid hfl
  have OK := Lib.hid ok
  have h60 := ok.1
  clear hfl ok
  have d6 : decide ((n : Int) < 60) = false := by simp; omega
  have H6 := Lib.hid h6
  clear h6
  obtain ⟨k2, m2, s2, A2, n2, c2, rfl, hv⟩ := hx
  have HXL := Lib.hid (show x.isL w Sx _ from ⟨k2, m2, s2, A2, n2, c2, rfl, hv⟩)
  obtain ⟨k, f, t, num, s, val⟩ := x
  dsimp only at hv hmx HFL HXL hf ⊢
  have hk : k = 2 := hf
  subst hk
  have hfk : fitsB 2 = true := rfl
  have HR := Lib.hid hR
  have HV := Lib.hid hv
  have HMA := Lib.hid hma
  clear hR hv hma
  go_enter Try.func6, Try.ntmps6
  go_wp2_with fail
  refine (boxes_any _).mono ?_
  rintro e w1 ⟨rfl, hb1⟩
  have hz1 : w.heap.size + 2 ≤ w1.heap.size := by have := hb1.size; simp at this; omega
  have pa0 : w1.cell? ⟨w.heap.size, 0, none⟩ = some (.slice A n c) := ((bcell hb1).1 _ _ (by simp; omega)).trans (by simp [go_sem])
  have pa1 : w1.cell? ⟨w.heap.size, 1, none⟩ = some (.int .i64 at_) := ((bcell hb1).1 _ _ (by simp; omega)).trans (by simp [go_sem])
  have pb0 : w1.cell? ⟨w.heap.size + 1, 0, none⟩ = some (.int .i64 2) := ((bcell hb1).1 _ _ (by simp)).trans (by simp [go_sem])
  have pb1 : w1.cell? ⟨w.heap.size + 1, 1, none⟩ = some (.int .i64 f) := ((bcell hb1).1 _ _ (by simp)).trans (by simp [go_sem])
  have pb2 : w1.cell? ⟨w.heap.size + 1, 2, none⟩ = some (.int .i64 t) := ((bcell hb1).1 _ _ (by simp)).trans (by simp [go_sem])
  have pb3 : w1.cell? ⟨w.heap.size + 1, 3, none⟩ = some (.int .i64 num) := ((bcell hb1).1 _ _ (by simp)).trans (by simp [go_sem])
  have pb4 : w1.cell? ⟨w.heap.size + 1, 4, none⟩ = some (.string s) := ((bcell hb1).1 _ _ (by simp)).trans (by simp [go_sem])
  have pb5 : w1.cell? ⟨w.heap.size + 1, 5, none⟩ = some (.int .i64 k2) := ((bcell hb1).1 _ _ (by simp)).trans (by simp [go_sem])
  have pb6 : w1.cell? ⟨w.heap.size + 1, 6, none⟩ = some (.int .i64 m2) := ((bcell hb1).1 _ _ (by simp)).trans (by simp [go_sem])
  have pb7 : w1.cell? ⟨w.heap.size + 1, 7, none⟩ = some (.string s2) := ((bcell hb1).1 _ _ (by simp)).trans (by simp [go_sem])
  have pb8 : w1.cell? ⟨w.heap.size + 1, 8, none⟩ = some (.slice A2 n2 c2) := ((bcell hb1).1 _ _ (by simp)).trans (by simp [go_sem])
  have HB1 := Lib.hid ((((Below.refl w.heap.size w).alloc (Nat.le_refl _) _).alloc (by simp) _).trans (hb1.mono (by simp; omega)))
  clear hb1
  go_wp2_with fail
  refine (flat_any val _ Sx _ (isV_below HV.out HB1.out) hmx).mono ?_
  rintro e w2 ⟨rfl, hb2⟩
  rw [HFL.out]
  have hz2 : w.heap.size + 2 ≤ w2.heap.size := by have := hb2.size; omega
  have qa0 : w2.cell? ⟨w.heap.size, 0, none⟩ = some (.slice A n c) := ((bcell hb2).1 _ _ (by omega)).trans pa0
  have qa1 : w2.cell? ⟨w.heap.size, 1, none⟩ = some (.int .i64 at_) := ((bcell hb2).1 _ _ (by omega)).trans pa1
  have qb0 : w2.cell? ⟨w.heap.size + 1, 0, none⟩ = some (.int .i64 2) := ((bcell hb2).1 _ _ (by omega)).trans pb0
  have qb1 : w2.cell? ⟨w.heap.size + 1, 1, none⟩ = some (.int .i64 f) := ((bcell hb2).1 _ _ (by omega)).trans pb1
  have qb2 : w2.cell? ⟨w.heap.size + 1, 2, none⟩ = some (.int .i64 t) := ((bcell hb2).1 _ _ (by omega)).trans pb2
  have qb3 : w2.cell? ⟨w.heap.size + 1, 3, none⟩ = some (.int .i64 num) := ((bcell hb2).1 _ _ (by omega)).trans pb3
  have qb4 : w2.cell? ⟨w.heap.size + 1, 4, none⟩ = some (.string s) := ((bcell hb2).1 _ _ (by omega)).trans pb4
  have qb5 : w2.cell? ⟨w.heap.size + 1, 5, none⟩ = some (.int .i64 k2) := ((bcell hb2).1 _ _ (by omega)).trans pb5
  have qb6 : w2.cell? ⟨w.heap.size + 1, 6, none⟩ = some (.int .i64 m2) := ((bcell hb2).1 _ _ (by omega)).trans pb6
  have qb7 : w2.cell? ⟨w.heap.size + 1, 7, none⟩ = some (.string s2) := ((bcell hb2).1 _ _ (by omega)).trans pb7
  have qb8 : w2.cell? ⟨w.heap.size + 1, 8, none⟩ = some (.slice A2 n2 c2) := ((bcell hb2).1 _ _ (by omega)).trans pb8
  have HB2 := Lib.hid (HB1.out.trans (hb2.mono (by omega)))
  clear hb2 pa0 pa1 pb0 pb1 pb2 pb3 pb4 pb5 pb6 pb7 pb8
  go_wp2_with fail
  refine (boxCheck_ok n c A at_ arg S _ (by omega) (HR.out.below HB2.out) OK.out).mono ?_
  rintro e w3 ⟨rfl, hb3⟩
  have hz3 : w.heap.size + 2 ≤ w3.heap.size := by have := hb3.size; omega
  have ra0 : w3.cell? ⟨w.heap.size, 0, none⟩ = some (.slice A n c) := ((bcell hb3).1 _ _ (by omega)).trans qa0
  have ra1 : w3.cell? ⟨w.heap.size, 1, none⟩ = some (.int .i64 at_) := ((bcell hb3).1 _ _ (by omega)).trans qa1
  have rb0 : w3.cell? ⟨w.heap.size + 1, 0, none⟩ = some (.int .i64 2) := ((bcell hb3).1 _ _ (by omega)).trans qb0
  have rb1 : w3.cell? ⟨w.heap.size + 1, 1, none⟩ = some (.int .i64 f) := ((bcell hb3).1 _ _ (by omega)).trans qb1
  have rb2 : w3.cell? ⟨w.heap.size + 1, 2, none⟩ = some (.int .i64 t) := ((bcell hb3).1 _ _ (by omega)).trans qb2
  have rb3 : w3.cell? ⟨w.heap.size + 1, 3, none⟩ = some (.int .i64 num) := ((bcell hb3).1 _ _ (by omega)).trans qb3
  have rb4 : w3.cell? ⟨w.heap.size + 1, 4, none⟩ = some (.string s) := ((bcell hb3).1 _ _ (by omega)).trans qb4
  have rb5 : w3.cell? ⟨w.heap.size + 1, 5, none⟩ = some (.int .i64 k2) := ((bcell hb3).1 _ _ (by omega)).trans qb5
  have rb6 : w3.cell? ⟨w.heap.size + 1, 6, none⟩ = some (.int .i64 m2) := ((bcell hb3).1 _ _ (by omega)).trans qb6
  have rb7 : w3.cell? ⟨w.heap.size + 1, 7, none⟩ = some (.string s2) := ((bcell hb3).1 _ _ (by omega)).trans qb7
  have rb8 : w3.cell? ⟨w.heap.size + 1, 8, none⟩ = some (.slice A2 n2 c2) := ((bcell hb3).1 _ _ (by omega)).trans qb8
  have HB3 := Lib.hid (HB2.out.trans (hb3.mono (by omega)))
  clear hb3 qa0 qa1 qb0 qb1 qb2 qb3 qb4 qb5 qb6 qb7 qb8
  go_wp2_with fail
  refine (put_full n c A at_ arg S _ _ Sx _ hnc hcm (HR.out.below HB3.out) (isL_below HXL.out HB3.out) OK.out hfk H6.out).mono ?_
  rintro e w4 ⟨y, rfl, hy, hb4⟩
  obtain rfl : y = 6 := hy
  have ua0 : w4.cell? ⟨w.heap.size, 0, none⟩ = some (.slice A n c) := ((bcell hb4).1 _ _ (by omega)).trans ra0
  have ua1 : w4.cell? ⟨w.heap.size, 1, none⟩ = some (.int .i64 at_) := ((bcell hb4).1 _ _ (by omega)).trans ra1
  have ub0 : w4.cell? ⟨w.heap.size + 1, 0, none⟩ = some (.int .i64 2) := ((bcell hb4).1 _ _ (by omega)).trans rb0
  have ub1 : w4.cell? ⟨w.heap.size + 1, 1, none⟩ = some (.int .i64 f) := ((bcell hb4).1 _ _ (by omega)).trans rb1
  have ub2 : w4.cell? ⟨w.heap.size + 1, 2, none⟩ = some (.int .i64 t) := ((bcell hb4).1 _ _ (by omega)).trans rb2
  have ub3 : w4.cell? ⟨w.heap.size + 1, 3, none⟩ = some (.int .i64 num) := ((bcell hb4).1 _ _ (by omega)).trans rb3
  have ub4 : w4.cell? ⟨w.heap.size + 1, 4, none⟩ = some (.string s) := ((bcell hb4).1 _ _ (by omega)).trans rb4
  have ub5 : w4.cell? ⟨w.heap.size + 1, 5, none⟩ = some (.int .i64 k2) := ((bcell hb4).1 _ _ (by omega)).trans rb5
  have ub6 : w4.cell? ⟨w.heap.size + 1, 6, none⟩ = some (.int .i64 m2) := ((bcell hb4).1 _ _ (by omega)).trans rb6
  have ub7 : w4.cell? ⟨w.heap.size + 1, 7, none⟩ = some (.string s2) := ((bcell hb4).1 _ _ (by omega)).trans rb7
  have ub8 : w4.cell? ⟨w.heap.size + 1, 8, none⟩ = some (.slice A2 n2 c2) := ((bcell hb4).1 _ _ (by omega)).trans rb8
  have hz4 : w.heap.size + 2 ≤ w4.heap.size := by have := hb4.size; omega
  have hz4a : w.heap.size < w4.heap.size := by omega
  have hz4b : w.heap.size + 1 < w4.heap.size := by omega
  have HB4 := Lib.hid (HB3.out.trans (hb4.mono (by omega)))
  clear hb4 ra0 ra1 rb0 rb1 rb2 rb3 rb4 rb5 rb6 rb7 rb8
  go_wp2_with fail
  go_ret
  exact ⟨rfl, HB4.out.alloc (by omega) _⟩
set_option maxRecDepth 100000 in
set_option maxHeartbeats 2000000 in
theorem boxFull_twoo (n c : Nat) (A : Option Addr) (at_ : Int) (arg : Nat → LT) (S : Nat → Prop) (x : LT) (cs : List Value) (Sx : Nat → Prop) (w : World) (hnc : n ≤ c) (hcm : c ≤ 9223372036854775807) (hR : RdL w S A n arg) (hx : x.isL w Sx cs) (hma : ∀ i, i < n → (arg i).val.many ≤ 4194304) (hmx : x.val.many ≤ 4194304) (hfl : flatB x.val = true) (ok : OkBox n at_ arg) (hf : x.kind = 2) (h6 : n < 60) : Calls Try.prog 6 #[.agg #[.slice A n c, .int .i64 at_], .agg cs.toArray] w fun e w' => e = .returned (.bool true) ∧ Below w.heap.size w w' := by
  have HFL := Lib.hid hfl
  have OK := Lib.hid ok
  have h60 := ok.1
  clear hfl ok
  have d6 : decide ((n : Int) < 60) = true := by simp; omega
  obtain ⟨k2, m2, s2, A2, n2, c2, rfl, hv⟩ := hx
  have HXL := Lib.hid (show x.isL w Sx _ from ⟨k2, m2, s2, A2, n2, c2, rfl, hv⟩)
  obtain ⟨k, f, t, num, s, val⟩ := x
  dsimp only at hv hmx HFL HXL hf ⊢
  have hk : k = 2 := hf
  subst hk
  have hfk : fitsB 2 = true := rfl
  have HR := Lib.hid hR
  have HV := Lib.hid hv
  have HMA := Lib.hid hma
  clear hR hv hma
  go_enter Try.func6, Try.ntmps6
  go_wp2_with fail
  refine (boxes_any _).mono ?_
  rintro e w1 ⟨rfl, hb1⟩
  have hz1 : w.heap.size + 2 ≤ w1.heap.size := by have := hb1.size; simp at this; omega
  have pa0 : w1.cell? ⟨w.heap.size, 0, none⟩ = some (.slice A n c) := ((bcell hb1).1 _ _ (by simp; omega)).trans (by simp [go_sem])
  have pa1 : w1.cell? ⟨w.heap.size, 1, none⟩ = some (.int .i64 at_) := ((bcell hb1).1 _ _ (by simp; omega)).trans (by simp [go_sem])
  have pb0 : w1.cell? ⟨w.heap.size + 1, 0, none⟩ = some (.int .i64 2) := ((bcell hb1).1 _ _ (by simp)).trans (by simp [go_sem])
  have pb1 : w1.cell? ⟨w.heap.size + 1, 1, none⟩ = some (.int .i64 f) := ((bcell hb1).1 _ _ (by simp)).trans (by simp [go_sem])
  have pb2 : w1.cell? ⟨w.heap.size + 1, 2, none⟩ = some (.int .i64 t) := ((bcell hb1).1 _ _ (by simp)).trans (by simp [go_sem])
  have pb3 : w1.cell? ⟨w.heap.size + 1, 3, none⟩ = some (.int .i64 num) := ((bcell hb1).1 _ _ (by simp)).trans (by simp [go_sem])
  have pb4 : w1.cell? ⟨w.heap.size + 1, 4, none⟩ = some (.string s) := ((bcell hb1).1 _ _ (by simp)).trans (by simp [go_sem])
  have pb5 : w1.cell? ⟨w.heap.size + 1, 5, none⟩ = some (.int .i64 k2) := ((bcell hb1).1 _ _ (by simp)).trans (by simp [go_sem])
  have pb6 : w1.cell? ⟨w.heap.size + 1, 6, none⟩ = some (.int .i64 m2) := ((bcell hb1).1 _ _ (by simp)).trans (by simp [go_sem])
  have pb7 : w1.cell? ⟨w.heap.size + 1, 7, none⟩ = some (.string s2) := ((bcell hb1).1 _ _ (by simp)).trans (by simp [go_sem])
  have pb8 : w1.cell? ⟨w.heap.size + 1, 8, none⟩ = some (.slice A2 n2 c2) := ((bcell hb1).1 _ _ (by simp)).trans (by simp [go_sem])
  have HB1 := Lib.hid ((((Below.refl w.heap.size w).alloc (Nat.le_refl _) _).alloc (by simp) _).trans (hb1.mono (by simp; omega)))
  clear hb1
  go_wp2_with fail
  refine (flat_any val _ Sx _ (isV_below HV.out HB1.out) hmx).mono ?_
  rintro e w2 ⟨rfl, hb2⟩
  rw [HFL.out]
  have hz2 : w.heap.size + 2 ≤ w2.heap.size := by have := hb2.size; omega
  have qa0 : w2.cell? ⟨w.heap.size, 0, none⟩ = some (.slice A n c) := ((bcell hb2).1 _ _ (by omega)).trans pa0
  have qa1 : w2.cell? ⟨w.heap.size, 1, none⟩ = some (.int .i64 at_) := ((bcell hb2).1 _ _ (by omega)).trans pa1
  have qb0 : w2.cell? ⟨w.heap.size + 1, 0, none⟩ = some (.int .i64 2) := ((bcell hb2).1 _ _ (by omega)).trans pb0
  have qb1 : w2.cell? ⟨w.heap.size + 1, 1, none⟩ = some (.int .i64 f) := ((bcell hb2).1 _ _ (by omega)).trans pb1
  have qb2 : w2.cell? ⟨w.heap.size + 1, 2, none⟩ = some (.int .i64 t) := ((bcell hb2).1 _ _ (by omega)).trans pb2
  have qb3 : w2.cell? ⟨w.heap.size + 1, 3, none⟩ = some (.int .i64 num) := ((bcell hb2).1 _ _ (by omega)).trans pb3
  have qb4 : w2.cell? ⟨w.heap.size + 1, 4, none⟩ = some (.string s) := ((bcell hb2).1 _ _ (by omega)).trans pb4
  have qb5 : w2.cell? ⟨w.heap.size + 1, 5, none⟩ = some (.int .i64 k2) := ((bcell hb2).1 _ _ (by omega)).trans pb5
  have qb6 : w2.cell? ⟨w.heap.size + 1, 6, none⟩ = some (.int .i64 m2) := ((bcell hb2).1 _ _ (by omega)).trans pb6
  have qb7 : w2.cell? ⟨w.heap.size + 1, 7, none⟩ = some (.string s2) := ((bcell hb2).1 _ _ (by omega)).trans pb7
  have qb8 : w2.cell? ⟨w.heap.size + 1, 8, none⟩ = some (.slice A2 n2 c2) := ((bcell hb2).1 _ _ (by omega)).trans pb8
  have HB2 := Lib.hid (HB1.out.trans (hb2.mono (by omega)))
  clear hb2 pa0 pa1 pb0 pb1 pb2 pb3 pb4 pb5 pb6 pb7 pb8
  go_wp2_with fail
  refine (boxCheck_ok n c A at_ arg S _ (by omega) (HR.out.below HB2.out) OK.out).mono ?_
  rintro e w3 ⟨rfl, hb3⟩
  have hz3 : w.heap.size + 2 ≤ w3.heap.size := by have := hb3.size; omega
  have ra0 : w3.cell? ⟨w.heap.size, 0, none⟩ = some (.slice A n c) := ((bcell hb3).1 _ _ (by omega)).trans qa0
  have ra1 : w3.cell? ⟨w.heap.size, 1, none⟩ = some (.int .i64 at_) := ((bcell hb3).1 _ _ (by omega)).trans qa1
  have rb0 : w3.cell? ⟨w.heap.size + 1, 0, none⟩ = some (.int .i64 2) := ((bcell hb3).1 _ _ (by omega)).trans qb0
  have rb1 : w3.cell? ⟨w.heap.size + 1, 1, none⟩ = some (.int .i64 f) := ((bcell hb3).1 _ _ (by omega)).trans qb1
  have rb2 : w3.cell? ⟨w.heap.size + 1, 2, none⟩ = some (.int .i64 t) := ((bcell hb3).1 _ _ (by omega)).trans qb2
  have rb3 : w3.cell? ⟨w.heap.size + 1, 3, none⟩ = some (.int .i64 num) := ((bcell hb3).1 _ _ (by omega)).trans qb3
  have rb4 : w3.cell? ⟨w.heap.size + 1, 4, none⟩ = some (.string s) := ((bcell hb3).1 _ _ (by omega)).trans qb4
  have rb5 : w3.cell? ⟨w.heap.size + 1, 5, none⟩ = some (.int .i64 k2) := ((bcell hb3).1 _ _ (by omega)).trans qb5
  have rb6 : w3.cell? ⟨w.heap.size + 1, 6, none⟩ = some (.int .i64 m2) := ((bcell hb3).1 _ _ (by omega)).trans qb6
  have rb7 : w3.cell? ⟨w.heap.size + 1, 7, none⟩ = some (.string s2) := ((bcell hb3).1 _ _ (by omega)).trans qb7
  have rb8 : w3.cell? ⟨w.heap.size + 1, 8, none⟩ = some (.slice A2 n2 c2) := ((bcell hb3).1 _ _ (by omega)).trans qb8
  have HB3 := Lib.hid (HB2.out.trans (hb3.mono (by omega)))
  clear hb3 qa0 qa1 qb0 qb1 qb2 qb3 qb4 qb5 qb6 qb7 qb8
  go_wp2_with fail
  refine (put_ok n c A at_ arg S _ _ Sx _ hnc hcm (HR.out.below HB3.out) (isL_below HXL.out HB3.out) OK.out hfk h6 HMA.out hmx).mono ?_
  rintro e w4 ⟨A4, c4, rfl, _, _, _, hb4⟩
  have ua0 : w4.cell? ⟨w.heap.size, 0, none⟩ = some (.slice A n c) := ((bcell hb4).1 _ _ (by omega)).trans ra0
  have ua1 : w4.cell? ⟨w.heap.size, 1, none⟩ = some (.int .i64 at_) := ((bcell hb4).1 _ _ (by omega)).trans ra1
  have ub0 : w4.cell? ⟨w.heap.size + 1, 0, none⟩ = some (.int .i64 2) := ((bcell hb4).1 _ _ (by omega)).trans rb0
  have ub1 : w4.cell? ⟨w.heap.size + 1, 1, none⟩ = some (.int .i64 f) := ((bcell hb4).1 _ _ (by omega)).trans rb1
  have ub2 : w4.cell? ⟨w.heap.size + 1, 2, none⟩ = some (.int .i64 t) := ((bcell hb4).1 _ _ (by omega)).trans rb2
  have ub3 : w4.cell? ⟨w.heap.size + 1, 3, none⟩ = some (.int .i64 num) := ((bcell hb4).1 _ _ (by omega)).trans rb3
  have ub4 : w4.cell? ⟨w.heap.size + 1, 4, none⟩ = some (.string s) := ((bcell hb4).1 _ _ (by omega)).trans rb4
  have ub5 : w4.cell? ⟨w.heap.size + 1, 5, none⟩ = some (.int .i64 k2) := ((bcell hb4).1 _ _ (by omega)).trans rb5
  have ub6 : w4.cell? ⟨w.heap.size + 1, 6, none⟩ = some (.int .i64 m2) := ((bcell hb4).1 _ _ (by omega)).trans rb6
  have ub7 : w4.cell? ⟨w.heap.size + 1, 7, none⟩ = some (.string s2) := ((bcell hb4).1 _ _ (by omega)).trans rb7
  have ub8 : w4.cell? ⟨w.heap.size + 1, 8, none⟩ = some (.slice A2 n2 c2) := ((bcell hb4).1 _ _ (by omega)).trans rb8
  have hz4 : w.heap.size + 2 ≤ w4.heap.size := by have := hb4.size; omega
  have hz4a : w.heap.size < w4.heap.size := by omega
  have hz4b : w.heap.size + 1 < w4.heap.size := by omega
  have HB4 := Lib.hid (HB3.out.trans (hb4.mono (by omega)))
  clear hb4 ra0 ra1 rb0 rb1 rb2 rb3 rb4 rb5 rb6 rb7 rb8
  go_wp2_with fail
  go_ret
  exact ⟨rfl, HB4.out.alloc (by omega) _⟩
theorem boxFull_go (n c : Nat) (A : Option Addr) (at_ : Int) (arg : Nat → LT) (S : Nat → Prop) (x : LT) (cs : List Value) (Sx : Nat → Prop) (w : World) (hnc : n ≤ c) (hcm : c ≤ 9223372036854775807) (hR : RdL w S A n arg) (hx : x.isL w Sx cs) (hma : ∀ i, i < n → (arg i).val.many ≤ 4194304) (hmx : x.val.many ≤ 4194304) : Calls Try.prog 6 #[.agg #[.slice A n c, .int .i64 at_], .agg cs.toArray] w fun e w' => e = .returned (.bool true) ∧ Below w.heap.size w w' := by
  by_cases hfl : flatB x.val = true
  · by_cases ok : OkBox n at_ arg
    · by_cases h1 : x.kind = 1
      · by_cases h6 : n = 60
        · exact boxFull_onef n c A at_ arg S x cs Sx w hnc hcm hR hx hma hmx hfl ok h1 h6
        · exact boxFull_oneo n c A at_ arg S x cs Sx w hnc hcm hR hx hma hmx hfl ok h1 (by have := ok.1; omega)
      by_cases h2 : x.kind = 2
      · by_cases h6 : n = 60
        · exact boxFull_twof n c A at_ arg S x cs Sx w hnc hcm hR hx hma hmx hfl ok h2 h6
        · exact boxFull_twoo n c A at_ arg S x cs Sx w hnc hcm hR hx hma hmx hfl ok h2 (by have := ok.1; omega)
      exact boxFull_form n c A at_ arg S x cs Sx w hnc hcm hR hx hma hmx hfl ok (by simp [fitsB, h1, h2])
    · exact boxFull_bad n c A at_ arg S x cs Sx w hnc hcm hR hx hma hmx hfl ok
  · exact boxFull_flat n c A at_ arg S x cs Sx w hnc hcm hR hx hma hmx (by simpa using hfl)
theorem Try.cells43 : Try.prog.cellsOf 43 = 2 := by kernel_rfl
set_option maxRecDepth 100000 in
theorem open_box {H : Type} {enc : TypeId × Value → H} {W : World} {base : Nat} {v : Value} {d : DataW H} {p : List MemPlace} (k0 : Value.okWide Try.prog W .any base 43 v) (h0 : DataW.Trod enc Try.prog W 0 (fun _ => true) true 43 v d p) :
    ∃ A n c at_ arg, v = .agg #[.slice A n c, .int .i64 at_] ∧ n ≤ c ∧ c ≤ 9223372036854775807 ∧ (A = none → n = 0) ∧ RdL W (fun _ => True) A n arg ∧ (∀ i, i < n → (arg i).val.many ≤ Rows.uptoBulk d) := by
  obtain ⟨c0, c1, y0, y1, m, rfl, rfl, rfl, g0, g1⟩ := Joins.open_agg2 Try.underlying43 (by kernel_rfl) Try.cells43 k0 h0
  obtain ⟨A, n, c, arg, e0, hnc, hcm, hA, hR, hm⟩ := open_letters g0
  obtain ⟨z, e1, _, _⟩ := DataW.trod_int Try.underlying3 g1
  simp at e0 e1
  subst e0 e1
  refine ⟨A, n, c, z, arg, rfl, hnc, hcm, hA, hR, fun i hi => ?_⟩
  have := hm i hi
  simp only [Rows.uptoBulk, Rows.uptoBulkAll]
  omega
set_option maxRecDepth 100000 in
theorem open_letter1 {H : Type} {enc : TypeId × Value → H} {W : World} {base : Nat} {v : Value} {d : DataW H} {p : List MemPlace} (k0 : Value.okWide Try.prog W .any base 45 v) (h0 : DataW.Trod enc Try.prog W 0 (fun _ => true) true 45 v d p) :
    ∃ (l : LT) (cs : List Value), v = .agg cs.toArray ∧ l.isL W (fun _ => True) cs ∧ l.val.many ≤ Rows.uptoBulk d := by
  obtain ⟨⟨cs⟩, rfl, _⟩ := okWide_struct Try.underlying45 k0
  obtain ⟨fuel, hf⟩ := h0
  obtain ⟨l, hl, hm⟩ := open_letter hf
  exact ⟨l, cs, rfl, hl, hm⟩
theorem bulk_two {H : Type} {d0 d1 : DataW H} (hk : Rows.uptoSmall H [d0, d1] = true) : Rows.uptoBulk d0 ≤ 1048576 ∧ Rows.uptoBulk d1 ≤ 1048576 := by
  have h := of_decide_eq_true hk
  simp only [Rows.uptoBulkAll] at h
  omega
set_option maxRecDepth 100000 in
theorem boxFull_walk {H : Type} {enc : TypeId × Value → H} (W : World) (base : Nat) (v0 v1 : Value) {d0 d1 : DataW H} {p0 p1 : List MemPlace}
    (k0 : Value.okWide Try.prog W .any base 43 v0) (k1 : Value.okWide Try.prog W .any base 45 v1)
    (h0 : DataW.Trod enc Try.prog W 0 (fun _ => true) true 43 v0 d0 p0) (h1 : DataW.Trod enc Try.prog W 0 (fun _ => true) true 45 v1 d1 p1) (hk : Rows.uptoSmall H [d0, d1] = true) :
    Calls Try.prog 6 #[v0, v1] W fun e W' => e = .returned (.bool true) ∧ Below W.heap.size W W' := by
  obtain ⟨b0, b1⟩ := bulk_two hk
  obtain ⟨A, n, c, at_, arg, rfl, hnc, hcm, hA, hR, hm⟩ := open_box k0 h0
  obtain ⟨l, cs, rfl, hl, hml⟩ := open_letter1 k1 h1
  exact boxFull_go n c A at_ arg _ l cs _ W hnc hcm hR hl (fun i hi => by have := hm i hi; omega) (by omega)
end Go.Proofs.Ytelpommocgmdjaa
