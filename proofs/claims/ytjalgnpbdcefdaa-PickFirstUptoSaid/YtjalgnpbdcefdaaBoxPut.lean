/- Contracts of package box: Put. -/
import Derived.Test.YtjalgnpbdcefdaaBox
import Derived.Deep.RegionHeld3
import Derived.Deep.AppendLies
namespace Go.Proofs.Ytjalgnpbdcefdaa
open Go.RowKit
set_option linter.unusedVariables false
theorem boxCheck_ok (n c : Nat) (A : Option Addr) (at_ : Int) (arg : Nat → LT) (S : Nat → Prop) (w : World) (hn : n ≤ 9223372036854775807) (hR : RdL w S A n arg) (ok : OkBox n at_ arg) :
    Calls Try.prog 12 #[.agg #[.slice A n c, .int .i64 at_]] w fun e w' => e = .returned (.int .i64 0) ∧ Below w.heap.size w w' :=
  (boxCheck_any n c A at_ arg S w hn hR).mono fun _ _ ⟨_, he, hx, hb⟩ => ⟨by rw [he, hx.2 ok], hb⟩
def ErrPost (w : World) (e : Ending) (w' : World) : Prop := ∃ x : Int, e = .returned (.int .i64 x) ∧ x ≠ 0 ∧ Below w.heap.size w w'
theorem boxCheck_bad (n c : Nat) (A : Option Addr) (at_ : Int) (arg : Nat → LT) (S : Nat → Prop) (w : World) (hn : n ≤ 9223372036854775807) (hR : RdL w S A n arg) (ok : ¬ OkBox n at_ arg) :
    Calls Try.prog 12 #[.agg #[.slice A n c, .int .i64 at_]] w (ErrPost w) :=
  (boxCheck_any n c A at_ arg S w hn hR).mono fun _ _ ⟨x, he, hx, hb⟩ => ⟨x, he, fun h => ok (hx.1 h), hb⟩
theorem keep_far {w : World} {b b' o o1 o2 : Nat} {u1 u2 v : Value} (h : b ≠ b') (hc : w.cell? ⟨b, o, none⟩ = some v) : ((w.setCell ⟨b', o1, none⟩ u1).setCell ⟨b', o2, none⟩ u2).cell? ⟨b, o, none⟩ = some v := by
  rw [World.cell?_of_block (a := ⟨b, o, none⟩) (Below.heap_setCell _ _ _ _ h), World.cell?_of_block (a := ⟨b, o, none⟩) (Below.heap_setCell _ _ _ _ h)]
  exact hc
def PutErr (P : Int → Prop) (w : World) (e : Ending) (w' : World) : Prop := ∃ x : Int, e = .returned (.tuple #[.agg #[.slice none 0 0, .int .i64 0], .int .i64 x]) ∧ P x ∧ Below w.heap.size w w'
set_option maxRecDepth 100000 in
set_option maxHeartbeats 4000000 in
theorem put_bad (n c : Nat) (A : Option Addr) (at_ : Int) (arg : Nat → LT) (S : Nat → Prop) (x : LT) (cs : List Value) (Sx : Nat → Prop) (w : World) (hnc : n ≤ c) (hcm : c ≤ 9223372036854775807) (hR : RdL w S A n arg) (hx : x.isL w Sx cs) (ok : ¬ OkBox n at_ arg) : Calls Try.prog 25 #[.agg #[.slice A n c, .int .i64 at_], .agg cs.toArray] w (PutErr (· ≠ 0) w) := by
  obtain ⟨k2, m2, s2, A2, n2, c2, rfl, hv⟩ := hx
  obtain ⟨k, f, t, num, s, val⟩ := x
  dsimp only at hv ⊢
  have HR := Lib.hid hR
  have OK := Lib.hid ok
  clear hR ok hv
  go_enter Try.func25, Try.ntmps25
  go_wp2_with fail
  refine (boxCheck_bad n c A at_ arg S _ (by omega) (HR.out.below ((((Below.refl w.heap.size w).alloc (Nat.le_refl _) _).alloc (by simp) _).alloc (by simp; omega) _)) OK.out).mono ?_
  rintro e w1 ⟨x, rfl, hx, hb1⟩
  have hx1 : (x != 0) = true := by simpa using hx
  have hx2 : (x == 0) = false := by simpa using hx
  have HX := Lib.hid hx
  have hz : w.heap.size + 3 ≤ w1.heap.size := by have := hb1.size; simp at this; omega
  have y0 : w1.cell? ⟨w.heap.size + 1 + 1, 0, none⟩ = some (.slice none 0 0) := (hb1.cell (p := ⟨_, _, none⟩) (by simp)).trans (by simp [go_sem])
  have y1 : w1.cell? ⟨w.heap.size + 1 + 1, 1, none⟩ = some (.int .i64 0) := (hb1.cell (p := ⟨_, _, none⟩) (by simp)).trans (by simp [go_sem])
  have fy : ∀ o, w1.frozen? ⟨w.heap.size + 1 + 1, o, none⟩ = false := fun o => (hb1.frozen (p := ⟨_, _, none⟩) (by simp)).trans (by simp [go_sem])
  have HB := Lib.hid (((((Below.refl w.heap.size w).alloc (Nat.le_refl _) _).alloc (by simp) _).alloc (by simp; omega) _).trans (hb1.mono (by simp; omega)))
  clear hx hb1
  go_wp2_with fail
  refine bodyPost_ret (v := .tuple #[.agg #[.slice none 0 0, .int .i64 0], .int .i64 x]) (by simp [results, Try.results25, go_sem, y0, y1]) rfl ⟨x, rfl, HX.out, ?_⟩
  exact (HB.out.setCell (p := ⟨w.heap.size + 1 + 1, 0, none⟩) (by show w.heap.size ≤ w.heap.size + 1 + 1; omega) _).setCell (p := ⟨w.heap.size + 1 + 1, 1, none⟩) (by show w.heap.size ≤ w.heap.size + 1 + 1; omega) _
set_option maxRecDepth 100000 in
set_option maxHeartbeats 4000000 in
theorem put_form (n c : Nat) (A : Option Addr) (at_ : Int) (arg : Nat → LT) (S : Nat → Prop) (x : LT) (cs : List Value) (Sx : Nat → Prop) (w : World) (hnc : n ≤ c) (hcm : c ≤ 9223372036854775807) (hR : RdL w S A n arg) (hx : x.isL w Sx cs) (ok : OkBox n at_ arg) (hf : fitsB x.kind = false) : Calls Try.prog 25 #[.agg #[.slice A n c, .int .i64 at_], .agg cs.toArray] w (PutErr (· = 3) w) := by
  obtain ⟨k2, m2, s2, A2, n2, c2, rfl, hv⟩ := hx
  obtain ⟨k, f, t, num, s, val⟩ := x
  dsimp only at hv hf ⊢
  have HR := Lib.hid hR
  have OK := Lib.hid ok
  have HVx := Lib.hid hv
  have h60 := ok.1
  clear hR ok hv
  go_enter Try.func25, Try.ntmps25
  go_wp2_with fail
  refine (boxCheck_ok n c A at_ arg S _ (by omega) (HR.out.below ((((Below.refl w.heap.size w).alloc (Nat.le_refl _) _).alloc (by simp) _).alloc (by simp; omega) _)) OK.out).mono ?_
  rintro e w1 ⟨rfl, hb1⟩
  have hz : w.heap.size + 3 ≤ w1.heap.size := by have := hb1.size; simp at this; omega
  have pa0 : w1.cell? ⟨w.heap.size, 0, none⟩ = some (.slice A n c) := (hb1.cell (p := ⟨_, _, none⟩) (by simp; omega)).trans (by simp [go_sem])
  have pa1 : w1.cell? ⟨w.heap.size, 1, none⟩ = some (.int .i64 at_) := (hb1.cell (p := ⟨_, _, none⟩) (by simp; omega)).trans (by simp [go_sem])
  have pb0 : w1.cell? ⟨w.heap.size + 1, 0, none⟩ = some (.int .i64 k) := (hb1.cell (p := ⟨_, _, none⟩) (by simp)).trans (by simp [go_sem])
  have pb1 : w1.cell? ⟨w.heap.size + 1, 1, none⟩ = some (.int .i64 f) := (hb1.cell (p := ⟨_, _, none⟩) (by simp)).trans (by simp [go_sem])
  have pb2 : w1.cell? ⟨w.heap.size + 1, 2, none⟩ = some (.int .i64 t) := (hb1.cell (p := ⟨_, _, none⟩) (by simp)).trans (by simp [go_sem])
  have pb3 : w1.cell? ⟨w.heap.size + 1, 3, none⟩ = some (.int .i64 num) := (hb1.cell (p := ⟨_, _, none⟩) (by simp)).trans (by simp [go_sem])
  have pb4 : w1.cell? ⟨w.heap.size + 1, 4, none⟩ = some (.string s) := (hb1.cell (p := ⟨_, _, none⟩) (by simp)).trans (by simp [go_sem])
  have pb5 : w1.cell? ⟨w.heap.size + 1, 5, none⟩ = some (.int .i64 k2) := (hb1.cell (p := ⟨_, _, none⟩) (by simp)).trans (by simp [go_sem])
  have pb6 : w1.cell? ⟨w.heap.size + 1, 6, none⟩ = some (.int .i64 m2) := (hb1.cell (p := ⟨_, _, none⟩) (by simp)).trans (by simp [go_sem])
  have pb7 : w1.cell? ⟨w.heap.size + 1, 7, none⟩ = some (.string s2) := (hb1.cell (p := ⟨_, _, none⟩) (by simp)).trans (by simp [go_sem])
  have pb8 : w1.cell? ⟨w.heap.size + 1, 8, none⟩ = some (.slice A2 n2 c2) := (hb1.cell (p := ⟨_, _, none⟩) (by simp)).trans (by simp [go_sem])
  have HB1 := Lib.hid (((((Below.refl w.heap.size w).alloc (Nat.le_refl _) _).alloc (by simp) _).alloc (by simp; omega) _).trans (hb1.mono (by simp; omega)))
  have py0 : w1.cell? ⟨w.heap.size + 1 + 1, 0, none⟩ = some (.slice none 0 0) := (hb1.cell (p := ⟨_, _, none⟩) (by simp)).trans (by simp [go_sem])
  have py1 : w1.cell? ⟨w.heap.size + 1 + 1, 1, none⟩ = some (.int .i64 0) := (hb1.cell (p := ⟨_, _, none⟩) (by simp)).trans (by simp [go_sem])
  have pf : ∀ o, w1.frozen? ⟨w.heap.size + 1 + 1, o, none⟩ = false := fun o => (hb1.frozen (p := ⟨_, _, none⟩) (by simp)).trans (by simp [go_sem])
  clear hb1
  go_wp2_with fail
  refine (fits_any _ _ _ _ _ _ _ _ _ _ _ _).mono ?_
  rintro e w2 ⟨rfl, hb2⟩
  have hz2 : w.heap.size + 3 ≤ w2.heap.size := by have := hb2.size; omega
  have qa0 : w2.cell? ⟨w.heap.size, 0, none⟩ = some (.slice A n c) := ((bcell hb2).1 _ _ (by omega)).trans pa0
  have qa1 : w2.cell? ⟨w.heap.size, 1, none⟩ = some (.int .i64 at_) := ((bcell hb2).1 _ _ (by omega)).trans pa1
  have qb0 : w2.cell? ⟨w.heap.size + 1, 0, none⟩ = some (.int .i64 k) := ((bcell hb2).1 _ _ (by omega)).trans pb0
  have qb1 : w2.cell? ⟨w.heap.size + 1, 1, none⟩ = some (.int .i64 f) := ((bcell hb2).1 _ _ (by omega)).trans pb1
  have qb2 : w2.cell? ⟨w.heap.size + 1, 2, none⟩ = some (.int .i64 t) := ((bcell hb2).1 _ _ (by omega)).trans pb2
  have qb3 : w2.cell? ⟨w.heap.size + 1, 3, none⟩ = some (.int .i64 num) := ((bcell hb2).1 _ _ (by omega)).trans pb3
  have qb4 : w2.cell? ⟨w.heap.size + 1, 4, none⟩ = some (.string s) := ((bcell hb2).1 _ _ (by omega)).trans pb4
  have qb5 : w2.cell? ⟨w.heap.size + 1, 5, none⟩ = some (.int .i64 k2) := ((bcell hb2).1 _ _ (by omega)).trans pb5
  have qb6 : w2.cell? ⟨w.heap.size + 1, 6, none⟩ = some (.int .i64 m2) := ((bcell hb2).1 _ _ (by omega)).trans pb6
  have qb7 : w2.cell? ⟨w.heap.size + 1, 7, none⟩ = some (.string s2) := ((bcell hb2).1 _ _ (by omega)).trans pb7
  have qb8 : w2.cell? ⟨w.heap.size + 1, 8, none⟩ = some (.slice A2 n2 c2) := ((bcell hb2).1 _ _ (by omega)).trans pb8
  have qy0 : w2.cell? ⟨w.heap.size + 1 + 1, 0, none⟩ = some (.slice none 0 0) := ((bcell hb2).1 _ _ (by omega)).trans py0
  have qy1 : w2.cell? ⟨w.heap.size + 1 + 1, 1, none⟩ = some (.int .i64 0) := ((bcell hb2).1 _ _ (by omega)).trans py1
  have qf : ∀ o, w2.frozen? ⟨w.heap.size + 1 + 1, o, none⟩ = false := fun o => ((bcell hb2).2 _ _ (by omega)).trans (pf o)
  have HB2 := Lib.hid (HB1.out.trans (hb2.mono (by omega)))
  clear hb2 pa0 pa1 pb0 pb1 pb2 pb3 pb4 pb5 pb6 pb7 pb8 py0 py1 pf
  go_wp2_with fail
  refine bodyPost_ret (v := .tuple #[.agg #[.slice none 0 0, .int .i64 0], .int .i64 3]) (by simp [results, Try.results25, go_sem, qy0, qy1]) rfl ⟨3, rfl, rfl, ?_⟩
  exact (HB2.out.setCell (p := ⟨w.heap.size + 1 + 1, 0, none⟩) (by show w.heap.size ≤ w.heap.size + 1 + 1; omega) _).setCell (p := ⟨w.heap.size + 1 + 1, 1, none⟩) (by show w.heap.size ≤ w.heap.size + 1 + 1; omega) _
set_option maxRecDepth 100000 in
set_option maxHeartbeats 4000000 in
theorem put_full (n c : Nat) (A : Option Addr) (at_ : Int) (arg : Nat → LT) (S : Nat → Prop) (x : LT) (cs : List Value) (Sx : Nat → Prop) (w : World) (hnc : n ≤ c) (hcm : c ≤ 9223372036854775807) (hR : RdL w S A n arg) (hx : x.isL w Sx cs) (ok : OkBox n at_ arg) (hf : fitsB x.kind = true) (h6 : n = 60) : Calls Try.prog 25 #[.agg #[.slice A n c, .int .i64 at_], .agg cs.toArray] w (PutErr (· = 6) w) := by
  obtain ⟨k2, m2, s2, A2, n2, c2, rfl, hv⟩ := hx
  obtain ⟨k, f, t, num, s, val⟩ := x
  dsimp only at hv hf ⊢
  have n6 : ((n : Int) == 60) = true := by simp; omega
  clear h6
  have HR := Lib.hid hR
  have OK := Lib.hid ok
  have HVx := Lib.hid hv
  have h60 := ok.1
  clear hR ok hv
  go_enter Try.func25, Try.ntmps25
  go_wp2_with fail
  refine (boxCheck_ok n c A at_ arg S _ (by omega) (HR.out.below ((((Below.refl w.heap.size w).alloc (Nat.le_refl _) _).alloc (by simp) _).alloc (by simp; omega) _)) OK.out).mono ?_
  rintro e w1 ⟨rfl, hb1⟩
  have hz : w.heap.size + 3 ≤ w1.heap.size := by have := hb1.size; simp at this; omega
  have pa0 : w1.cell? ⟨w.heap.size, 0, none⟩ = some (.slice A n c) := (hb1.cell (p := ⟨_, _, none⟩) (by simp; omega)).trans (by simp [go_sem])
  have pa1 : w1.cell? ⟨w.heap.size, 1, none⟩ = some (.int .i64 at_) := (hb1.cell (p := ⟨_, _, none⟩) (by simp; omega)).trans (by simp [go_sem])
  have pb0 : w1.cell? ⟨w.heap.size + 1, 0, none⟩ = some (.int .i64 k) := (hb1.cell (p := ⟨_, _, none⟩) (by simp)).trans (by simp [go_sem])
  have pb1 : w1.cell? ⟨w.heap.size + 1, 1, none⟩ = some (.int .i64 f) := (hb1.cell (p := ⟨_, _, none⟩) (by simp)).trans (by simp [go_sem])
  have pb2 : w1.cell? ⟨w.heap.size + 1, 2, none⟩ = some (.int .i64 t) := (hb1.cell (p := ⟨_, _, none⟩) (by simp)).trans (by simp [go_sem])
  have pb3 : w1.cell? ⟨w.heap.size + 1, 3, none⟩ = some (.int .i64 num) := (hb1.cell (p := ⟨_, _, none⟩) (by simp)).trans (by simp [go_sem])
  have pb4 : w1.cell? ⟨w.heap.size + 1, 4, none⟩ = some (.string s) := (hb1.cell (p := ⟨_, _, none⟩) (by simp)).trans (by simp [go_sem])
  have pb5 : w1.cell? ⟨w.heap.size + 1, 5, none⟩ = some (.int .i64 k2) := (hb1.cell (p := ⟨_, _, none⟩) (by simp)).trans (by simp [go_sem])
  have pb6 : w1.cell? ⟨w.heap.size + 1, 6, none⟩ = some (.int .i64 m2) := (hb1.cell (p := ⟨_, _, none⟩) (by simp)).trans (by simp [go_sem])
  have pb7 : w1.cell? ⟨w.heap.size + 1, 7, none⟩ = some (.string s2) := (hb1.cell (p := ⟨_, _, none⟩) (by simp)).trans (by simp [go_sem])
  have pb8 : w1.cell? ⟨w.heap.size + 1, 8, none⟩ = some (.slice A2 n2 c2) := (hb1.cell (p := ⟨_, _, none⟩) (by simp)).trans (by simp [go_sem])
  have HB1 := Lib.hid (((((Below.refl w.heap.size w).alloc (Nat.le_refl _) _).alloc (by simp) _).alloc (by simp; omega) _).trans (hb1.mono (by simp; omega)))
  have py0 : w1.cell? ⟨w.heap.size + 1 + 1, 0, none⟩ = some (.slice none 0 0) := (hb1.cell (p := ⟨_, _, none⟩) (by simp)).trans (by simp [go_sem])
  have py1 : w1.cell? ⟨w.heap.size + 1 + 1, 1, none⟩ = some (.int .i64 0) := (hb1.cell (p := ⟨_, _, none⟩) (by simp)).trans (by simp [go_sem])
  have pf : ∀ o, w1.frozen? ⟨w.heap.size + 1 + 1, o, none⟩ = false := fun o => (hb1.frozen (p := ⟨_, _, none⟩) (by simp)).trans (by simp [go_sem])
  clear hb1
  go_wp2_with fail
  refine (fits_any _ _ _ _ _ _ _ _ _ _ _ _).mono ?_
  rintro e w2 ⟨rfl, hb2⟩
  have hz2 : w.heap.size + 3 ≤ w2.heap.size := by have := hb2.size; omega
  have qa0 : w2.cell? ⟨w.heap.size, 0, none⟩ = some (.slice A n c) := ((bcell hb2).1 _ _ (by omega)).trans pa0
  have qa1 : w2.cell? ⟨w.heap.size, 1, none⟩ = some (.int .i64 at_) := ((bcell hb2).1 _ _ (by omega)).trans pa1
  have qb0 : w2.cell? ⟨w.heap.size + 1, 0, none⟩ = some (.int .i64 k) := ((bcell hb2).1 _ _ (by omega)).trans pb0
  have qb1 : w2.cell? ⟨w.heap.size + 1, 1, none⟩ = some (.int .i64 f) := ((bcell hb2).1 _ _ (by omega)).trans pb1
  have qb2 : w2.cell? ⟨w.heap.size + 1, 2, none⟩ = some (.int .i64 t) := ((bcell hb2).1 _ _ (by omega)).trans pb2
  have qb3 : w2.cell? ⟨w.heap.size + 1, 3, none⟩ = some (.int .i64 num) := ((bcell hb2).1 _ _ (by omega)).trans pb3
  have qb4 : w2.cell? ⟨w.heap.size + 1, 4, none⟩ = some (.string s) := ((bcell hb2).1 _ _ (by omega)).trans pb4
  have qb5 : w2.cell? ⟨w.heap.size + 1, 5, none⟩ = some (.int .i64 k2) := ((bcell hb2).1 _ _ (by omega)).trans pb5
  have qb6 : w2.cell? ⟨w.heap.size + 1, 6, none⟩ = some (.int .i64 m2) := ((bcell hb2).1 _ _ (by omega)).trans pb6
  have qb7 : w2.cell? ⟨w.heap.size + 1, 7, none⟩ = some (.string s2) := ((bcell hb2).1 _ _ (by omega)).trans pb7
  have qb8 : w2.cell? ⟨w.heap.size + 1, 8, none⟩ = some (.slice A2 n2 c2) := ((bcell hb2).1 _ _ (by omega)).trans pb8
  have qy0 : w2.cell? ⟨w.heap.size + 1 + 1, 0, none⟩ = some (.slice none 0 0) := ((bcell hb2).1 _ _ (by omega)).trans py0
  have qy1 : w2.cell? ⟨w.heap.size + 1 + 1, 1, none⟩ = some (.int .i64 0) := ((bcell hb2).1 _ _ (by omega)).trans py1
  have qf : ∀ o, w2.frozen? ⟨w.heap.size + 1 + 1, o, none⟩ = false := fun o => ((bcell hb2).2 _ _ (by omega)).trans (pf o)
  have HB2 := Lib.hid (HB1.out.trans (hb2.mono (by omega)))
  clear hb2 pa0 pa1 pb0 pb1 pb2 pb3 pb4 pb5 pb6 pb7 pb8 py0 py1 pf
  go_wp2_with fail
  refine bodyPost_ret (v := .tuple #[.agg #[.slice none 0 0, .int .i64 0], .int .i64 6]) (by simp [results, Try.results25, go_sem, qy0, qy1]) rfl ⟨6, rfl, rfl, ?_⟩
  exact (HB2.out.setCell (p := ⟨w.heap.size + 1 + 1, 0, none⟩) (by show w.heap.size ≤ w.heap.size + 1 + 1; omega) _).setCell (p := ⟨w.heap.size + 1 + 1, 1, none⟩) (by show w.heap.size ≤ w.heap.size + 1 + 1; omega) _
def PutPost (n : Nat) (at_ : Int) (arg : Nat → LT) (x : LT) (w : World) (e : Ending) (w' : World) : Prop :=
  ∃ A' c', e = .returned (.tuple #[.agg #[.slice A' (n + 1) c', .int .i64 at_], .int .i64 0]) ∧ n + 1 ≤ c' ∧ c' ≤ 9223372036854775807 ∧ RdL w' (fun b => w.heap.size ≤ b) A' (n + 1) (fun i => if i = n then x else arg i) ∧ Below w.heap.size w w'
theorem put_final {w w2 w3 w4 w5 : World} {n g cap : Nat} {at_ : Int} {arg : Nat → LT} {x : LT} {v3 : Value} {C3 : Nat → List Value} {cs : List Value} {o : Obj}
    (ho : w5.ownsRow w2.heap.size 44 9 (.slice (some ⟨g, 0, none⟩) (n + 1) cap) (n + 1) (flatC (updC C3 n cs) (n + 1))) (hl : ∀ i, (C3 i).length = 9)
    (hv : ∀ i, i < n → (arg i).isL w3 (fun b => w2.heap.size ≤ b ∧ some b ≠ v3.ownBlock) (C3 i)) (hb4 : Below w3.heap.size w3 w4) (hx : x.isL w4 (fun b => w3.heap.size ≤ b) cs)
    (hg : (w4.alloc o).grownBy w5 v3.ownBlock) (ha : v3.ownBlock = some g ∨ g = w4.heap.size + 1) (hown : ∀ k, v3.ownBlock = some k → w2.heap.size ≤ k ∧ k < w3.heap.size) (hz2 : w.heap.size + 3 ≤ w2.heap.size) (hz3 : w2.heap.size ≤ w3.heap.size) (hB : Below w.heap.size w w5) :
    PutPost n at_ arg x w (.returned (.tuple #[.agg #[.slice (some ⟨g, 0, none⟩) (n + 1) cap, .int .i64 at_], .int .i64 0])) ((w5.setCell ⟨w.heap.size + 1 + 1, 0, none⟩ (.slice (some ⟨g, 0, none⟩) (n + 1) cap)).setCell ⟨w.heap.size + 1 + 1, 1, none⟩ (.int .i64 at_)) := by
  obtain ⟨g', cap', hv', hbg, hlg, hnc, hcm⟩ := own_form ho (by omega)
  injection hv' with e1 e2 e3
  simp at e1
  subst e1 e3
  have hsz4 := hb4.size
  have hsz5 := hg.size
  simp at hsz5
  have hset : ∀ b, b ≠ w.heap.size + 1 + 1 → ((w5.setCell ⟨w.heap.size + 1 + 1, 0, none⟩ (.slice (some ⟨g, 0, none⟩) (n + 1) cap)).setCell ⟨w.heap.size + 1 + 1, 1, none⟩ (.int .i64 at_)).heap[b]? = w5.heap[b]? := fun b hb => by
    rw [Below.heap_setCell _ _ _ _ hb, Below.heap_setCell _ _ _ _ hb]
  refine ⟨some ⟨g, 0, none⟩, cap, rfl, hnc, hcm, fun _ => ⟨g, 0, rfl, by simpa using hlg, by omega, updC C3 n cs, fun i hi => ⟨?_, fun j u hu => ?_⟩⟩, (hB.setCell (p := ⟨w.heap.size + 1 + 1, 0, none⟩) (by show w.heap.size ≤ w.heap.size + 1 + 1; omega) _).setCell (p := ⟨w.heap.size + 1 + 1, 1, none⟩) (by show w.heap.size ≤ w.heap.size + 1 + 1; omega) _⟩
  · by_cases e : i = n
    · simp only [e, updC, if_true]
      refine isL_frame (by simp; omega) (fun b hs hlt => ?_) hx
      have hne : some b ≠ v3.ownBlock := fun hh => by have := hown b hh.symm; omega
      exact ⟨by omega, by rw [hset b (by omega), hg.block b (by simp; omega) hne, Below.heap_alloc w4 o b hlt]⟩
    · simp only [e, updC, if_false]
      refine isL_frame (by simp; omega) (fun b hs hlt => ?_) (hv i (by omega))
      exact ⟨by omega, by rw [hset b (by omega), hg.block b (by simp; omega) hs.2, Below.heap_alloc w4 o b (by omega), hb4.block b hlt]⟩
  · have hl' : ∀ i, (updC C3 n cs i).length = 9 := fun i => by
      unfold updC
      split
      · exact isL_len hx
      · exact hl i
    have hj : j < 9 := by
      rcases Nat.lt_or_ge j 9 with h | h
      · exact h
      · rw [List.getElem?_eq_none (by rw [hl']; exact h)] at hu; cases hu
    have h2 : (i + 1) * 9 ≤ (n + 1) * 9 := Nat.mul_le_mul_right _ (by omega)
    rw [Nat.zero_add, World.cell?_of_block (a := ⟨g, _, none⟩) (hset g (by omega)), ho.cellAt _ (by omega), flatC_get hl' hi hj]
    exact hu
set_option maxRecDepth 100000 in
set_option maxHeartbeats 4000000 in
theorem put_ok (n c : Nat) (A : Option Addr) (at_ : Int) (arg : Nat → LT) (S : Nat → Prop) (x : LT) (cs : List Value) (Sx : Nat → Prop) (w : World) (hnc : n ≤ c) (hcm : c ≤ 9223372036854775807) (hR : RdL w S A n arg) (hx : x.isL w Sx cs) (ok : OkBox n at_ arg) (hf : fitsB x.kind = true) (h6 : n < 60) (hma : ∀ i, i < n → (arg i).val.many ≤ 4194304) (hmx : x.val.many ≤ 4194304) : Calls Try.prog 25 #[.agg #[.slice A n c, .int .i64 at_], .agg cs.toArray] w (PutPost n at_ arg x w) := by
  obtain ⟨k2, m2, s2, A2, n2, c2, rfl, hv⟩ := hx
  obtain ⟨k, f, t, num, s, val⟩ := x
  dsimp only at hv hf hmx ⊢
  obtain ⟨i0, hi, jz0, jz1, jz2⟩ := info_parts infoL
  have HMA := Lib.hid hma
  have n6 : ((n : Int) == 60) = false := by simp; omega
  clear hma
  have HR := Lib.hid hR
  have OK := Lib.hid ok
  have HVx := Lib.hid hv
  have h60 := ok.1
  clear hR ok hv
  go_enter Try.func25, Try.ntmps25
  go_wp2_with fail
  refine (boxCheck_ok n c A at_ arg S _ (by omega) (HR.out.below ((((Below.refl w.heap.size w).alloc (Nat.le_refl _) _).alloc (by simp) _).alloc (by simp; omega) _)) OK.out).mono ?_
  rintro e w1 ⟨rfl, hb1⟩
  have hz : w.heap.size + 3 ≤ w1.heap.size := by have := hb1.size; simp at this; omega
  have pa0 : w1.cell? ⟨w.heap.size, 0, none⟩ = some (.slice A n c) := (hb1.cell (p := ⟨_, _, none⟩) (by simp; omega)).trans (by simp [go_sem])
  have pa1 : w1.cell? ⟨w.heap.size, 1, none⟩ = some (.int .i64 at_) := (hb1.cell (p := ⟨_, _, none⟩) (by simp; omega)).trans (by simp [go_sem])
  have pb0 : w1.cell? ⟨w.heap.size + 1, 0, none⟩ = some (.int .i64 k) := (hb1.cell (p := ⟨_, _, none⟩) (by simp)).trans (by simp [go_sem])
  have pb1 : w1.cell? ⟨w.heap.size + 1, 1, none⟩ = some (.int .i64 f) := (hb1.cell (p := ⟨_, _, none⟩) (by simp)).trans (by simp [go_sem])
  have pb2 : w1.cell? ⟨w.heap.size + 1, 2, none⟩ = some (.int .i64 t) := (hb1.cell (p := ⟨_, _, none⟩) (by simp)).trans (by simp [go_sem])
  have pb3 : w1.cell? ⟨w.heap.size + 1, 3, none⟩ = some (.int .i64 num) := (hb1.cell (p := ⟨_, _, none⟩) (by simp)).trans (by simp [go_sem])
  have pb4 : w1.cell? ⟨w.heap.size + 1, 4, none⟩ = some (.string s) := (hb1.cell (p := ⟨_, _, none⟩) (by simp)).trans (by simp [go_sem])
  have pb5 : w1.cell? ⟨w.heap.size + 1, 5, none⟩ = some (.int .i64 k2) := (hb1.cell (p := ⟨_, _, none⟩) (by simp)).trans (by simp [go_sem])
  have pb6 : w1.cell? ⟨w.heap.size + 1, 6, none⟩ = some (.int .i64 m2) := (hb1.cell (p := ⟨_, _, none⟩) (by simp)).trans (by simp [go_sem])
  have pb7 : w1.cell? ⟨w.heap.size + 1, 7, none⟩ = some (.string s2) := (hb1.cell (p := ⟨_, _, none⟩) (by simp)).trans (by simp [go_sem])
  have pb8 : w1.cell? ⟨w.heap.size + 1, 8, none⟩ = some (.slice A2 n2 c2) := (hb1.cell (p := ⟨_, _, none⟩) (by simp)).trans (by simp [go_sem])
  have HB1 := Lib.hid (((((Below.refl w.heap.size w).alloc (Nat.le_refl _) _).alloc (by simp) _).alloc (by simp; omega) _).trans (hb1.mono (by simp; omega)))
  have py0 : w1.cell? ⟨w.heap.size + 1 + 1, 0, none⟩ = some (.slice none 0 0) := (hb1.cell (p := ⟨_, _, none⟩) (by simp)).trans (by simp [go_sem])
  have py1 : w1.cell? ⟨w.heap.size + 1 + 1, 1, none⟩ = some (.int .i64 0) := (hb1.cell (p := ⟨_, _, none⟩) (by simp)).trans (by simp [go_sem])
  have pf : ∀ o, w1.frozen? ⟨w.heap.size + 1 + 1, o, none⟩ = false := fun o => (hb1.frozen (p := ⟨_, _, none⟩) (by simp)).trans (by simp [go_sem])
  clear hb1
  go_wp2_with fail
  refine (fits_any _ _ _ _ _ _ _ _ _ _ _ _).mono ?_
  rintro e w2 ⟨rfl, hb2⟩
  have hz2 : w.heap.size + 3 ≤ w2.heap.size := by have := hb2.size; omega
  have qa0 : w2.cell? ⟨w.heap.size, 0, none⟩ = some (.slice A n c) := ((bcell hb2).1 _ _ (by omega)).trans pa0
  have qa1 : w2.cell? ⟨w.heap.size, 1, none⟩ = some (.int .i64 at_) := ((bcell hb2).1 _ _ (by omega)).trans pa1
  have qb0 : w2.cell? ⟨w.heap.size + 1, 0, none⟩ = some (.int .i64 k) := ((bcell hb2).1 _ _ (by omega)).trans pb0
  have qb1 : w2.cell? ⟨w.heap.size + 1, 1, none⟩ = some (.int .i64 f) := ((bcell hb2).1 _ _ (by omega)).trans pb1
  have qb2 : w2.cell? ⟨w.heap.size + 1, 2, none⟩ = some (.int .i64 t) := ((bcell hb2).1 _ _ (by omega)).trans pb2
  have qb3 : w2.cell? ⟨w.heap.size + 1, 3, none⟩ = some (.int .i64 num) := ((bcell hb2).1 _ _ (by omega)).trans pb3
  have qb4 : w2.cell? ⟨w.heap.size + 1, 4, none⟩ = some (.string s) := ((bcell hb2).1 _ _ (by omega)).trans pb4
  have qb5 : w2.cell? ⟨w.heap.size + 1, 5, none⟩ = some (.int .i64 k2) := ((bcell hb2).1 _ _ (by omega)).trans pb5
  have qb6 : w2.cell? ⟨w.heap.size + 1, 6, none⟩ = some (.int .i64 m2) := ((bcell hb2).1 _ _ (by omega)).trans pb6
  have qb7 : w2.cell? ⟨w.heap.size + 1, 7, none⟩ = some (.string s2) := ((bcell hb2).1 _ _ (by omega)).trans pb7
  have qb8 : w2.cell? ⟨w.heap.size + 1, 8, none⟩ = some (.slice A2 n2 c2) := ((bcell hb2).1 _ _ (by omega)).trans pb8
  have qy0 : w2.cell? ⟨w.heap.size + 1 + 1, 0, none⟩ = some (.slice none 0 0) := ((bcell hb2).1 _ _ (by omega)).trans py0
  have qy1 : w2.cell? ⟨w.heap.size + 1 + 1, 1, none⟩ = some (.int .i64 0) := ((bcell hb2).1 _ _ (by omega)).trans py1
  have qf : ∀ o, w2.frozen? ⟨w.heap.size + 1 + 1, o, none⟩ = false := fun o => ((bcell hb2).2 _ _ (by omega)).trans (pf o)
  have HB2 := Lib.hid (HB1.out.trans (hb2.mono (by omega)))
  clear hb2 pa0 pa1 pb0 pb1 pb2 pb3 pb4 pb5 pb6 pb7 pb8 py0 py1 pf
  go_wp2_with fail
  go_region_held3 (fun w' => w'.cell? ⟨w.heap.size, 0, none⟩ = some (.slice A n c) ∧ w'.cell? ⟨w.heap.size, 1, none⟩ = some (.int .i64 at_) ∧ w'.cell? ⟨w.heap.size + 1, 0, none⟩ = some (.int .i64 k) ∧ w'.cell? ⟨w.heap.size + 1, 1, none⟩ = some (.int .i64 f) ∧ w'.cell? ⟨w.heap.size + 1, 2, none⟩ = some (.int .i64 t) ∧ w'.cell? ⟨w.heap.size + 1, 3, none⟩ = some (.int .i64 num) ∧ w'.cell? ⟨w.heap.size + 1, 4, none⟩ = some (.string s) ∧ w'.cell? ⟨w.heap.size + 1, 5, none⟩ = some (.int .i64 k2) ∧ w'.cell? ⟨w.heap.size + 1, 6, none⟩ = some (.int .i64 m2) ∧ w'.cell? ⟨w.heap.size + 1, 7, none⟩ = some (.string s2) ∧ w'.cell? ⟨w.heap.size + 1, 8, none⟩ = some (.slice A2 n2 c2))
    (first | exact ⟨qa0, qa1, qb0, qb1, qb2, qb3, qb4, qb5, qb6, qb7, qb8⟩ | exact ⟨ua0, ua1, ub0, ub1, ub2, ub3, ub4, ub5, ub6, ub7, ub8⟩ | exact ⟨va0, va1, vb0, vb1, vb2, vb3, vb4, vb5, vb6, vb7, vb8⟩ | exact ⟨xa0, xa1, xb0, xb1, xb2, xb3, xb4, xb5, xb6, xb7, xb8⟩ | exact ⟨keep_far (by omega) xa0, keep_far (by omega) xa1, keep_far (by omega) xb0, keep_far (by omega) xb1, keep_far (by omega) xb2, keep_far (by omega) xb3, keep_far (by omega) xb4, keep_far (by omega) xb5, keep_far (by omega) xb6, keep_far (by omega) xb7, keep_far (by omega) xb8⟩ | go_keep)
    (first
      | (go_at_call 40; refine (leach_any n c A arg S _ (by omega) (HR.out.below (HB2.out.drew)) HMA.out).mono ?_; rintro e w3 ⟨v3, C3, rfl, hown3, hCl3, hCv3, hb3⟩; have FC3 := Lib.hid (fun b o (h : b < w2.heap.size) => (bcell hb3).1 b o h); have FF3 := Lib.hid (fun b o (h : b < w2.heap.size) => (bcell hb3).2 b o h); have HB3 := Lib.hid (HB2.out.drew.trans (hb3.mono (show w.heap.size ≤ w2.heap.size by omega))); have hz3 : w2.heap.size ≤ w3.heap.size := hb3.size; have HO3 := Lib.hid hown3; have HCL3 := Lib.hid hCl3; have HCV3 := Lib.hid hCv3; have ua0 : w3.cell? ⟨w.heap.size, 0, none⟩ = some (.slice A n c) := (FC3.out _ _ (by omega)).trans qa0; have ua1 : w3.cell? ⟨w.heap.size, 1, none⟩ = some (.int .i64 at_) := (FC3.out _ _ (by omega)).trans qa1; have ub0 : w3.cell? ⟨w.heap.size + 1, 0, none⟩ = some (.int .i64 k) := (FC3.out _ _ (by omega)).trans qb0; have ub1 : w3.cell? ⟨w.heap.size + 1, 1, none⟩ = some (.int .i64 f) := (FC3.out _ _ (by omega)).trans qb1; have ub2 : w3.cell? ⟨w.heap.size + 1, 2, none⟩ = some (.int .i64 t) := (FC3.out _ _ (by omega)).trans qb2; have ub3 : w3.cell? ⟨w.heap.size + 1, 3, none⟩ = some (.int .i64 num) := (FC3.out _ _ (by omega)).trans qb3; have ub4 : w3.cell? ⟨w.heap.size + 1, 4, none⟩ = some (.string s) := (FC3.out _ _ (by omega)).trans qb4; have ub5 : w3.cell? ⟨w.heap.size + 1, 5, none⟩ = some (.int .i64 k2) := (FC3.out _ _ (by omega)).trans qb5; have ub6 : w3.cell? ⟨w.heap.size + 1, 6, none⟩ = some (.int .i64 m2) := (FC3.out _ _ (by omega)).trans qb6; have ub7 : w3.cell? ⟨w.heap.size + 1, 7, none⟩ = some (.string s2) := (FC3.out _ _ (by omega)).trans qb7; have ub8 : w3.cell? ⟨w.heap.size + 1, 8, none⟩ = some (.slice A2 n2 c2) := (FC3.out _ _ (by omega)).trans qb8; have uy0 : w3.cell? ⟨w.heap.size + 1 + 1, 0, none⟩ = some (.slice none 0 0) := (FC3.out _ _ (by omega)).trans qy0; have uy1 : w3.cell? ⟨w.heap.size + 1 + 1, 1, none⟩ = some (.int .i64 0) := (FC3.out _ _ (by omega)).trans qy1; have uf : ∀ o, w3.frozen? ⟨w.heap.size + 1 + 1, o, none⟩ = false := fun o => (FF3.out _ _ (by omega)).trans (qf o); clear hown3 hCl3 hCv3 hb3)
      | (go_at_call 41; refine (lcopy_any ⟨k, f, t, num, s, val⟩ _ Sx _ ⟨k2, m2, s2, A2, n2, c2, rfl, isV_below HVx.out HB3.out⟩ hmx).mono ?_; rintro e w4 ⟨cs4, rfl, hL4, hb4⟩; have hL4' := hL4; obtain ⟨k3, m3, s3, A3, n3, c3, rfl, _⟩ := hL4'; dsimp only at hL4 ⊢; have FC4 := Lib.hid (fun b o (h : b < w2.heap.size) => ((bcell hb4).1 b o (by omega)).trans (FC3.out b o h)); have FF4 := Lib.hid (fun b o (h : b < w2.heap.size) => ((bcell hb4).2 b o (by omega)).trans (FF3.out b o h)); have HB4 := Lib.hid (HB3.out.trans (hb4.mono (show w.heap.size ≤ w3.heap.size by omega))); have hz4 : w3.heap.size ≤ w4.heap.size := hb4.size; have HO4 := Lib.hid (own_below HO3.out hb4); have HL4 := Lib.hid hL4; have HB34 := Lib.hid hb4; have va0 : w4.cell? ⟨w.heap.size, 0, none⟩ = some (.slice A n c) := (FC4.out _ _ (by omega)).trans qa0; have va1 : w4.cell? ⟨w.heap.size, 1, none⟩ = some (.int .i64 at_) := (FC4.out _ _ (by omega)).trans qa1; have vb0 : w4.cell? ⟨w.heap.size + 1, 0, none⟩ = some (.int .i64 k) := (FC4.out _ _ (by omega)).trans qb0; have vb1 : w4.cell? ⟨w.heap.size + 1, 1, none⟩ = some (.int .i64 f) := (FC4.out _ _ (by omega)).trans qb1; have vb2 : w4.cell? ⟨w.heap.size + 1, 2, none⟩ = some (.int .i64 t) := (FC4.out _ _ (by omega)).trans qb2; have vb3 : w4.cell? ⟨w.heap.size + 1, 3, none⟩ = some (.int .i64 num) := (FC4.out _ _ (by omega)).trans qb3; have vb4 : w4.cell? ⟨w.heap.size + 1, 4, none⟩ = some (.string s) := (FC4.out _ _ (by omega)).trans qb4; have vb5 : w4.cell? ⟨w.heap.size + 1, 5, none⟩ = some (.int .i64 k2) := (FC4.out _ _ (by omega)).trans qb5; have vb6 : w4.cell? ⟨w.heap.size + 1, 6, none⟩ = some (.int .i64 m2) := (FC4.out _ _ (by omega)).trans qb6; have vb7 : w4.cell? ⟨w.heap.size + 1, 7, none⟩ = some (.string s2) := (FC4.out _ _ (by omega)).trans qb7; have vb8 : w4.cell? ⟨w.heap.size + 1, 8, none⟩ = some (.slice A2 n2 c2) := (FC4.out _ _ (by omega)).trans qb8; have vy0 : w4.cell? ⟨w.heap.size + 1 + 1, 0, none⟩ = some (.slice none 0 0) := (FC4.out _ _ (by omega)).trans qy0; have vy1 : w4.cell? ⟨w.heap.size + 1 + 1, 1, none⟩ = some (.int .i64 0) := (FC4.out _ _ (by omega)).trans qy1; have vf : ∀ o, w4.frozen? ⟨w.heap.size + 1 + 1, o, none⟩ = false := fun o => (FF4.out _ _ (by omega)).trans (qf o); clear hL4 hb4)
      | (refine step_append_lies _ (by rfl) _ _ _ (by rfl) w2.heap.size 44 i0 _ 9 104 Try.underlying36 hi jz0 jz1 jz2 rfl (by omega) v3 n (flatC C3 n) (by rfl) (HO4.out.alloc _) ⟨w4.heap.size, 0, none⟩ 1 1 [.int .i64 k, .int .i64 f, .int .i64 t, .int .i64 num, .string s, .int .i64 k3, .int .i64 m3, .string s3, .slice A3 n3 c3] (by rfl) (by rfl) (cell_nine_new _ _ _ _ _ _ _ _ _ _ _) (isL_one HL4.out) (by omega) (by unfold maxLen; omega) (by omega) (by simp; omega) (w4.heap.size + 1) (by simp) ?_; intro g cap w5 hown5 hgrow5 hat5 hlt5; have hne5 : ∀ b, b < w2.heap.size → some b ≠ v3.ownBlock := (fun b hb hh => by have := (HO4.out.lt b hh.symm).1; have e : w2.drew.heap.size = w2.heap.size := rfl; omega); have FC5 := Lib.hid (fun b o (h : b < w2.heap.size) => ((hgrow5.cell_far ⟨b, o, none⟩ (by simp; omega) (hne5 b h)).trans (World.cell?_alloc_lt _ _ _ (by show b < w4.heap.size; omega))).trans (FC4.out b o h)); have FF5 := Lib.hid (fun b o (h : b < w2.heap.size) => ((hgrow5.frozen_far ⟨b, o, none⟩ (by simp; omega) (hne5 b h)).trans (World.frozen?_alloc_old _ _ _ (by show b ≠ w4.heap.size; omega))).trans (FF4.out b o h)); rw [flatC_snoc] at hown5; have HO5 := Lib.hid hown5; have HG5 := Lib.hid hgrow5; have HA5 := Lib.hid hat5; have xa0 : w5.cell? ⟨w.heap.size, 0, none⟩ = some (.slice A n c) := (FC5.out _ _ (by omega)).trans qa0; have xa1 : w5.cell? ⟨w.heap.size, 1, none⟩ = some (.int .i64 at_) := (FC5.out _ _ (by omega)).trans qa1; have xb0 : w5.cell? ⟨w.heap.size + 1, 0, none⟩ = some (.int .i64 k) := (FC5.out _ _ (by omega)).trans qb0; have xb1 : w5.cell? ⟨w.heap.size + 1, 1, none⟩ = some (.int .i64 f) := (FC5.out _ _ (by omega)).trans qb1; have xb2 : w5.cell? ⟨w.heap.size + 1, 2, none⟩ = some (.int .i64 t) := (FC5.out _ _ (by omega)).trans qb2; have xb3 : w5.cell? ⟨w.heap.size + 1, 3, none⟩ = some (.int .i64 num) := (FC5.out _ _ (by omega)).trans qb3; have xb4 : w5.cell? ⟨w.heap.size + 1, 4, none⟩ = some (.string s) := (FC5.out _ _ (by omega)).trans qb4; have xb5 : w5.cell? ⟨w.heap.size + 1, 5, none⟩ = some (.int .i64 k2) := (FC5.out _ _ (by omega)).trans qb5; have xb6 : w5.cell? ⟨w.heap.size + 1, 6, none⟩ = some (.int .i64 m2) := (FC5.out _ _ (by omega)).trans qb6; have xb7 : w5.cell? ⟨w.heap.size + 1, 7, none⟩ = some (.string s2) := (FC5.out _ _ (by omega)).trans qb7; have xb8 : w5.cell? ⟨w.heap.size + 1, 8, none⟩ = some (.slice A2 n2 c2) := (FC5.out _ _ (by omega)).trans qb8; have xy0 : w5.cell? ⟨w.heap.size + 1 + 1, 0, none⟩ = some (.slice none 0 0) := (FC5.out _ _ (by omega)).trans qy0; have xy1 : w5.cell? ⟨w.heap.size + 1 + 1, 1, none⟩ = some (.int .i64 0) := (FC5.out _ _ (by omega)).trans qy1; have xf : ∀ o, w5.frozen? ⟨w.heap.size + 1 + 1, o, none⟩ = false := fun o => (FF5.out _ _ (by omega)).trans (qf o); clear hown5 hgrow5 hat5 hne5))
  go_wp2_with fail
  refine bodyPost_ret (v := .tuple #[.agg #[.slice (some ⟨g, 0, none⟩) (n + 1) cap, .int .i64 at_], .int .i64 0]) (by simp [results, Try.results25, go_sem, xy0, xy1]) rfl ?_
  exact put_final (w2 := w2.drew) HO5.out HCL3.out HCV3.out HB34.out HL4.out HG5.out HA5.out (fun k hk => ⟨(HO4.out.lt k hk).1, (HO3.out.lt k hk).2⟩) (show w.heap.size + 3 ≤ w2.heap.size by omega) hz3 ((HB4.out.alloc (by omega) _).grown HG5.out (by simp; omega) (fun k hk => by have := (HO4.out.lt k hk).1; have e : w2.drew.heap.size = w2.heap.size := rfl; omega))
end Go.Proofs.Ytjalgnpbdcefdaa
