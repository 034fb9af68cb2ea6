/- Contracts of package box: Put. A range over a map of numbers: what was visited. slices.Sort over a row of ints of the call's own. Contracts of package turn: Check, after, Next; the closed fact of the laws. -/
import Derived.Test.YthgbcgphkddmgaaGreatZAF
import Derived.Deep.RegionHeld3
import Derived.Deep.AppendLies
import Derived.Test.YthgbcgphkddmgaaGreatZAC
import Derived.Test.YthgbcgphkddmgaaGreatZAD
import Derived.Test.YthgbcgphkddmgaaGreatSort
import Derived.Sort.OwnSortedInts
import Derived.IntWalk
namespace Go.Proofs.YthgbcgphkddmgaaGreat
open Go.RowKit
set_option linter.unusedVariables false
theorem boxCheck_ok (n c : Nat) (A : Option Addr) (at_ : Int) (arg : Nat → LT) (S : Nat → Prop) (w : World) (hn : n ≤ 9223372036854775807) (hR : RdL w S A n arg) (ok : OkBox n at_ arg) :
    Calls Tryz.prog 193 #[.agg #[.slice A n c, .int .i64 at_]] w fun e w' => e = .returned (.int .i64 0) ∧ Below w.heap.size w w' :=
  (boxCheck_any n c A at_ arg S w hn hR).mono fun _ _ ⟨_, he, hx, hb⟩ => ⟨by rw [he, hx.2 ok], hb⟩
def ErrPost (w : World) (e : Ending) (w' : World) : Prop := ∃ x : Int, e = .returned (.int .i64 x) ∧ x ≠ 0 ∧ Below w.heap.size w w'
theorem keep_far {w : World} {b b' o o1 o2 : Nat} {u1 u2 v : Value} (h : b ≠ b') (hc : w.cell? ⟨b, o, none⟩ = some v) : ((w.setCell ⟨b', o1, none⟩ u1).setCell ⟨b', o2, none⟩ u2).cell? ⟨b, o, none⟩ = some v := by
  rw [World.cell?_of_block (a := ⟨b, o, none⟩) (Below.heap_setCell _ _ _ _ h), World.cell?_of_block (a := ⟨b, o, none⟩) (Below.heap_setCell _ _ _ _ h)]
  exact hc
def PutErr (P : Int → Prop) (w : World) (e : Ending) (w' : World) : Prop := ∃ x : Int, e = .returned (.tuple #[.agg #[.slice none 0 0, .int .i64 0], .int .i64 x]) ∧ P x ∧ Below w.heap.size w w'
set_option maxRecDepth 100000 in
set_option maxHeartbeats 4000000 in
theorem put_full (n c : Nat) (A : Option Addr) (at_ : Int) (arg : Nat → LT) (S : Nat → Prop) (x : LT) (cs : List Value) (Sx : Nat → Prop) (w : World) (hnc : n ≤ c) (hcm : c ≤ 9223372036854775807) (hR : RdL w S A n arg) (hx : x.isL w Sx cs) (ok : OkBox n at_ arg) (hf : fitsB x.kind = true) (h6 : n = 60) : Calls Tryz.prog 187 #[.agg #[.slice A n c, .int .i64 at_], .agg cs.toArray] w (PutErr (· = 6) w) := by
  obtain ⟨k2, m2, s2, A2, n2, c2, rfl, hv⟩ := hx
  obtain ⟨k, f, t, num, s, val⟩ := x
  dsimp only at hv hf ⊢
  have n6 : ((n : Int) == 60) = true := by simp; omega
  clear h6
  have HR := Lib.hid hR
  have OK := Lib.hid ok
  have HVx := Lib.hid hv
  have h60 := ok.1
  clear hR ok hv
  go_enter Tryz.func187, Tryz.ntmps187
  go_wp2_with fail
  refine (boxCheck_ok n c A at_ arg S _ (by omega) (HR.out.below ((((Below.refl w.heap.size w).alloc (Nat.le_refl _) _).alloc (by simp) _).alloc (by simp; omega) _)) OK.out).mono ?_
  rintro e w1 ⟨rfl, hb1⟩
  have hz : w.heap.size + 3 ≤ w1.heap.size := by have := hb1.size; simp at this; omega
  have pa0 : w1.cell? ⟨w.heap.size, 0, none⟩ = some (.slice A n c) := (hb1.cell (p := ⟨_, _, none⟩) (by simp; omega)).trans (by simp [go_sem])
  have pa1 : w1.cell? ⟨w.heap.size, 1, none⟩ = some (.int .i64 at_) := (hb1.cell (p := ⟨_, _, none⟩) (by simp; omega)).trans (by simp [go_sem])
  have pb0 : w1.cell? ⟨w.heap.size + 1, 0, none⟩ = some (.int .i64 k) := (hb1.cell (p := ⟨_, _, none⟩) (by simp)).trans (by simp [go_sem])
  have pb1 : w1.cell? ⟨w.heap.size + 1, 1, none⟩ = some (.int .i64 f) := (hb1.cell (p := ⟨_, _, none⟩) (by simp)).trans (by simp [go_sem])
  have pb2 : w1.cell? ⟨w.heap.size + 1, 2, none⟩ = some (.int .i64 t) := (hb1.cell (p := ⟨_, _, none⟩) (by simp)).trans (by simp [go_sem])
  have pb3 : w1.cell? ⟨w.heap.size + 1, 3, none⟩ = some (.int .i64 num) := (hb1.cell (p := ⟨_, _, none⟩) (by simp)).trans (by simp [go_sem])
  have pb4 : w1.cell? ⟨w.heap.size + 1, 4, none⟩ = some (.string s) := (hb1.cell (p := ⟨_, _, none⟩) (by simp)).trans (by simp [go_sem])
  have pb5 : w1.cell? ⟨w.heap.size + 1, 5, none⟩ = some (.int .i64 k2) := (hb1.cell (p := ⟨_, _, none⟩) (by simp)).trans (by simp [go_sem])
  have pb6 : w1.cell? ⟨w.heap.size + 1, 6, none⟩ = some (.int .i64 m2) := (hb1.cell (p := ⟨_, _, none⟩) (by simp)).trans (by simp [go_sem])
  have pb7 : w1.cell? ⟨w.heap.size + 1, 7, none⟩ = some (.string s2) := (hb1.cell (p := ⟨_, _, none⟩) (by simp)).trans (by simp [go_sem])
  have pb8 : w1.cell? ⟨w.heap.size + 1, 8, none⟩ = some (.slice A2 n2 c2) := (hb1.cell (p := ⟨_, _, none⟩) (by simp)).trans (by simp [go_sem])
  have HB1 := Lib.hid (((((Below.refl w.heap.size w).alloc (Nat.le_refl _) _).alloc (by simp) _).alloc (by simp; omega) _).trans (hb1.mono (by simp; omega)))
  have py0 : w1.cell? ⟨w.heap.size + 1 + 1, 0, none⟩ = some (.slice none 0 0) := (hb1.cell (p := ⟨_, _, none⟩) (by simp)).trans (by simp [go_sem])
  have py1 : w1.cell? ⟨w.heap.size + 1 + 1, 1, none⟩ = some (.int .i64 0) := (hb1.cell (p := ⟨_, _, none⟩) (by simp)).trans (by simp [go_sem])
  have pf : ∀ o, w1.frozen? ⟨w.heap.size + 1 + 1, o, none⟩ = false := fun o => (hb1.frozen (p := ⟨_, _, none⟩) (by simp)).trans (by simp [go_sem])
  clear hb1
  go_wp2_with fail
  refine (fits_any _ _ _ _ _ _ _ _ _ _ _ _).mono ?_
  rintro e w2 ⟨rfl, hb2⟩
  have hz2 : w.heap.size + 3 ≤ w2.heap.size := by have := hb2.size; omega
  have qa0 : w2.cell? ⟨w.heap.size, 0, none⟩ = some (.slice A n c) := ((bcell hb2).1 _ _ (by omega)).trans pa0
  have qa1 : w2.cell? ⟨w.heap.size, 1, none⟩ = some (.int .i64 at_) := ((bcell hb2).1 _ _ (by omega)).trans pa1
  have qb0 : w2.cell? ⟨w.heap.size + 1, 0, none⟩ = some (.int .i64 k) := ((bcell hb2).1 _ _ (by omega)).trans pb0
  have qb1 : w2.cell? ⟨w.heap.size + 1, 1, none⟩ = some (.int .i64 f) := ((bcell hb2).1 _ _ (by omega)).trans pb1
  have qb2 : w2.cell? ⟨w.heap.size + 1, 2, none⟩ = some (.int .i64 t) := ((bcell hb2).1 _ _ (by omega)).trans pb2
  have qb3 : w2.cell? ⟨w.heap.size + 1, 3, none⟩ = some (.int .i64 num) := ((bcell hb2).1 _ _ (by omega)).trans pb3
  have qb4 : w2.cell? ⟨w.heap.size + 1, 4, none⟩ = some (.string s) := ((bcell hb2).1 _ _ (by omega)).trans pb4
  have qb5 : w2.cell? ⟨w.heap.size + 1, 5, none⟩ = some (.int .i64 k2) := ((bcell hb2).1 _ _ (by omega)).trans pb5
  have qb6 : w2.cell? ⟨w.heap.size + 1, 6, none⟩ = some (.int .i64 m2) := ((bcell hb2).1 _ _ (by omega)).trans pb6
  have qb7 : w2.cell? ⟨w.heap.size + 1, 7, none⟩ = some (.string s2) := ((bcell hb2).1 _ _ (by omega)).trans pb7
  have qb8 : w2.cell? ⟨w.heap.size + 1, 8, none⟩ = some (.slice A2 n2 c2) := ((bcell hb2).1 _ _ (by omega)).trans pb8
  have qy0 : w2.cell? ⟨w.heap.size + 1 + 1, 0, none⟩ = some (.slice none 0 0) := ((bcell hb2).1 _ _ (by omega)).trans py0
  have qy1 : w2.cell? ⟨w.heap.size + 1 + 1, 1, none⟩ = some (.int .i64 0) := ((bcell hb2).1 _ _ (by omega)).trans py1
  have qf : ∀ o, w2.frozen? ⟨w.heap.size + 1 + 1, o, none⟩ = false := fun o => ((bcell hb2).2 _ _ (by omega)).trans (pf o)
  have HB2 := Lib.hid (HB1.out.trans (hb2.mono (by omega)))
  clear hb2 pa0 pa1 pb0 pb1 pb2 pb3 pb4 pb5 pb6 pb7 pb8 py0 py1 pf
  go_wp2_with fail
  refine bodyPost_ret (v := .tuple #[.agg #[.slice none 0 0, .int .i64 0], .int .i64 6]) (by simp [results, Tryz.results187, go_sem, qy0, qy1]) rfl ⟨6, rfl, rfl, ?_⟩
  exact (HB2.out.setCell (p := ⟨w.heap.size + 1 + 1, 0, none⟩) (by show w.heap.size ≤ w.heap.size + 1 + 1; omega) _).setCell (p := ⟨w.heap.size + 1 + 1, 1, none⟩) (by show w.heap.size ≤ w.heap.size + 1 + 1; omega) _
def PutPost (n : Nat) (at_ : Int) (arg : Nat → LT) (x : LT) (w : World) (e : Ending) (w' : World) : Prop :=
  ∃ A' c', e = .returned (.tuple #[.agg #[.slice A' (n + 1) c', .int .i64 at_], .int .i64 0]) ∧ n + 1 ≤ c' ∧ c' ≤ 9223372036854775807 ∧ RdL w' (fun b => w.heap.size ≤ b) A' (n + 1) (fun i => if i = n then x else arg i) ∧ Below w.heap.size w w'
theorem put_final {w w2 w3 w4 w5 : World} {n g cap : Nat} {at_ : Int} {arg : Nat → LT} {x : LT} {v3 : Value} {C3 : Nat → List Value} {cs : List Value} {o : Obj}
    (ho : w5.ownsRow w2.heap.size 154 9 (.slice (some ⟨g, 0, none⟩) (n + 1) cap) (n + 1) (flatC (updC C3 n cs) (n + 1))) (hl : ∀ i, (C3 i).length = 9)
    (hv : ∀ i, i < n → (arg i).isL w3 (fun b => w2.heap.size ≤ b ∧ some b ≠ v3.ownBlock) (C3 i)) (hb4 : Below w3.heap.size w3 w4) (hx : x.isL w4 (fun b => w3.heap.size ≤ b) cs)
    (hg : (w4.alloc o).grownBy w5 v3.ownBlock) (ha : v3.ownBlock = some g ∨ g = w4.heap.size + 1) (hown : ∀ k, v3.ownBlock = some k → w2.heap.size ≤ k ∧ k < w3.heap.size) (hz2 : w.heap.size + 3 ≤ w2.heap.size) (hz3 : w2.heap.size ≤ w3.heap.size) (hB : Below w.heap.size w w5) :
    PutPost n at_ arg x w (.returned (.tuple #[.agg #[.slice (some ⟨g, 0, none⟩) (n + 1) cap, .int .i64 at_], .int .i64 0])) ((w5.setCell ⟨w.heap.size + 1 + 1, 0, none⟩ (.slice (some ⟨g, 0, none⟩) (n + 1) cap)).setCell ⟨w.heap.size + 1 + 1, 1, none⟩ (.int .i64 at_)) := by
  obtain ⟨g', cap', hv', hbg, hlg, hnc, hcm⟩ := own_form ho (by omega)
  injection hv' with e1 e2 e3
  simp at e1
  subst e1 e3
  have hsz4 := hb4.size
  have hsz5 := hg.size
  simp at hsz5
  have hset : ∀ b, b ≠ w.heap.size + 1 + 1 → ((w5.setCell ⟨w.heap.size + 1 + 1, 0, none⟩ (.slice (some ⟨g, 0, none⟩) (n + 1) cap)).setCell ⟨w.heap.size + 1 + 1, 1, none⟩ (.int .i64 at_)).heap[b]? = w5.heap[b]? := fun b hb => by
    rw [Below.heap_setCell _ _ _ _ hb, Below.heap_setCell _ _ _ _ hb]
  refine ⟨some ⟨g, 0, none⟩, cap, rfl, hnc, hcm, fun _ => ⟨g, 0, rfl, by simpa using hlg, by omega, updC C3 n cs, fun i hi => ⟨?_, fun j u hu => ?_⟩⟩, (hB.setCell (p := ⟨w.heap.size + 1 + 1, 0, none⟩) (by show w.heap.size ≤ w.heap.size + 1 + 1; omega) _).setCell (p := ⟨w.heap.size + 1 + 1, 1, none⟩) (by show w.heap.size ≤ w.heap.size + 1 + 1; omega) _⟩
  · by_cases e : i = n
    · simp only [e, updC, if_true]
      refine isL_frame (by simp; omega) (fun b hs hlt => ?_) hx
      have hne : some b ≠ v3.ownBlock := fun hh => by have := hown b hh.symm; omega
      exact ⟨by omega, by rw [hset b (by omega), hg.block b (by simp; omega) hne, Below.heap_alloc w4 o b hlt]⟩
    · simp only [e, updC, if_false]
      refine isL_frame (by simp; omega) (fun b hs hlt => ?_) (hv i (by omega))
      exact ⟨by omega, by rw [hset b (by omega), hg.block b (by simp; omega) hs.2, Below.heap_alloc w4 o b (by omega), hb4.block b hlt]⟩
  · have hl' : ∀ i, (updC C3 n cs i).length = 9 := fun i => by
      unfold updC
      split
      · exact isL_len hx
      · exact hl i
    have hj : j < 9 := by
      rcases Nat.lt_or_ge j 9 with h | h
      · exact h
      · rw [List.getElem?_eq_none (by rw [hl']; exact h)] at hu; cases hu
    have h2 : (i + 1) * 9 ≤ (n + 1) * 9 := Nat.mul_le_mul_right _ (by omega)
    rw [Nat.zero_add, World.cell?_of_block (a := ⟨g, _, none⟩) (hset g (by omega)), ho.cellAt _ (by omega), flatC_get hl' hi hj]
    exact hu
set_option maxRecDepth 100000 in
set_option maxHeartbeats 4000000 in
theorem put_ok (n c : Nat) (A : Option Addr) (at_ : Int) (arg : Nat → LT) (S : Nat → Prop) (x : LT) (cs : List Value) (Sx : Nat → Prop) (w : World) (hnc : n ≤ c) (hcm : c ≤ 9223372036854775807) (hR : RdL w S A n arg) (hx : x.isL w Sx cs) (ok : OkBox n at_ arg) (hf : fitsB x.kind = true) (h6 : n < 60) (hma : ∀ i, i < n → (arg i).val.many ≤ 4194304) (hmx : x.val.many ≤ 4194304) : Calls Tryz.prog 187 #[.agg #[.slice A n c, .int .i64 at_], .agg cs.toArray] w (PutPost n at_ arg x w) := by
  obtain ⟨k2, m2, s2, A2, n2, c2, rfl, hv⟩ := hx
  obtain ⟨k, f, t, num, s, val⟩ := x
  dsimp only at hv hf hmx ⊢
  obtain ⟨i0, hi, jz0, jz1, jz2⟩ := info_parts infoL
  have HMA := Lib.hid hma
  have n6 : ((n : Int) == 60) = false := by simp; omega
  clear hma
  have HR := Lib.hid hR
  have OK := Lib.hid ok
  have HVx := Lib.hid hv
  have h60 := ok.1
  clear hR ok hv
  go_enter Tryz.func187, Tryz.ntmps187
  go_wp2_with fail
  refine (boxCheck_ok n c A at_ arg S _ (by omega) (HR.out.below ((((Below.refl w.heap.size w).alloc (Nat.le_refl _) _).alloc (by simp) _).alloc (by simp; omega) _)) OK.out).mono ?_
  rintro e w1 ⟨rfl, hb1⟩
  have hz : w.heap.size + 3 ≤ w1.heap.size := by have := hb1.size; simp at this; omega
  have pa0 : w1.cell? ⟨w.heap.size, 0, none⟩ = some (.slice A n c) := (hb1.cell (p := ⟨_, _, none⟩) (by simp; omega)).trans (by simp [go_sem])
  have pa1 : w1.cell? ⟨w.heap.size, 1, none⟩ = some (.int .i64 at_) := (hb1.cell (p := ⟨_, _, none⟩) (by simp; omega)).trans (by simp [go_sem])
  have pb0 : w1.cell? ⟨w.heap.size + 1, 0, none⟩ = some (.int .i64 k) := (hb1.cell (p := ⟨_, _, none⟩) (by simp)).trans (by simp [go_sem])
  have pb1 : w1.cell? ⟨w.heap.size + 1, 1, none⟩ = some (.int .i64 f) := (hb1.cell (p := ⟨_, _, none⟩) (by simp)).trans (by simp [go_sem])
  have pb2 : w1.cell? ⟨w.heap.size + 1, 2, none⟩ = some (.int .i64 t) := (hb1.cell (p := ⟨_, _, none⟩) (by simp)).trans (by simp [go_sem])
  have pb3 : w1.cell? ⟨w.heap.size + 1, 3, none⟩ = some (.int .i64 num) := (hb1.cell (p := ⟨_, _, none⟩) (by simp)).trans (by simp [go_sem])
  have pb4 : w1.cell? ⟨w.heap.size + 1, 4, none⟩ = some (.string s) := (hb1.cell (p := ⟨_, _, none⟩) (by simp)).trans (by simp [go_sem])
  have pb5 : w1.cell? ⟨w.heap.size + 1, 5, none⟩ = some (.int .i64 k2) := (hb1.cell (p := ⟨_, _, none⟩) (by simp)).trans (by simp [go_sem])
  have pb6 : w1.cell? ⟨w.heap.size + 1, 6, none⟩ = some (.int .i64 m2) := (hb1.cell (p := ⟨_, _, none⟩) (by simp)).trans (by simp [go_sem])
  have pb7 : w1.cell? ⟨w.heap.size + 1, 7, none⟩ = some (.string s2) := (hb1.cell (p := ⟨_, _, none⟩) (by simp)).trans (by simp [go_sem])
  have pb8 : w1.cell? ⟨w.heap.size + 1, 8, none⟩ = some (.slice A2 n2 c2) := (hb1.cell (p := ⟨_, _, none⟩) (by simp)).trans (by simp [go_sem])
  have HB1 := Lib.hid (((((Below.refl w.heap.size w).alloc (Nat.le_refl _) _).alloc (by simp) _).alloc (by simp; omega) _).trans (hb1.mono (by simp; omega)))
  have py0 : w1.cell? ⟨w.heap.size + 1 + 1, 0, none⟩ = some (.slice none 0 0) := (hb1.cell (p := ⟨_, _, none⟩) (by simp)).trans (by simp [go_sem])
  have py1 : w1.cell? ⟨w.heap.size + 1 + 1, 1, none⟩ = some (.int .i64 0) := (hb1.cell (p := ⟨_, _, none⟩) (by simp)).trans (by simp [go_sem])
  have pf : ∀ o, w1.frozen? ⟨w.heap.size + 1 + 1, o, none⟩ = false := fun o => (hb1.frozen (p := ⟨_, _, none⟩) (by simp)).trans (by simp [go_sem])
  clear hb1
  go_wp2_with fail
  refine (fits_any _ _ _ _ _ _ _ _ _ _ _ _).mono ?_
  rintro e w2 ⟨rfl, hb2⟩
  have hz2 : w.heap.size + 3 ≤ w2.heap.size := by have := hb2.size; omega
  have qa0 : w2.cell? ⟨w.heap.size, 0, none⟩ = some (.slice A n c) := ((bcell hb2).1 _ _ (by omega)).trans pa0
  have qa1 : w2.cell? ⟨w.heap.size, 1, none⟩ = some (.int .i64 at_) := ((bcell hb2).1 _ _ (by omega)).trans pa1
  have qb0 : w2.cell? ⟨w.heap.size + 1, 0, none⟩ = some (.int .i64 k) := ((bcell hb2).1 _ _ (by omega)).trans pb0
  have qb1 : w2.cell? ⟨w.heap.size + 1, 1, none⟩ = some (.int .i64 f) := ((bcell hb2).1 _ _ (by omega)).trans pb1
  have qb2 : w2.cell? ⟨w.heap.size + 1, 2, none⟩ = some (.int .i64 t) := ((bcell hb2).1 _ _ (by omega)).trans pb2
  have qb3 : w2.cell? ⟨w.heap.size + 1, 3, none⟩ = some (.int .i64 num) := ((bcell hb2).1 _ _ (by omega)).trans pb3
  have qb4 : w2.cell? ⟨w.heap.size + 1, 4, none⟩ = some (.string s) := ((bcell hb2).1 _ _ (by omega)).trans pb4
  have qb5 : w2.cell? ⟨w.heap.size + 1, 5, none⟩ = some (.int .i64 k2) := ((bcell hb2).1 _ _ (by omega)).trans pb5
  have qb6 : w2.cell? ⟨w.heap.size + 1, 6, none⟩ = some (.int .i64 m2) := ((bcell hb2).1 _ _ (by omega)).trans pb6
  have qb7 : w2.cell? ⟨w.heap.size + 1, 7, none⟩ = some (.string s2) := ((bcell hb2).1 _ _ (by omega)).trans pb7
  have qb8 : w2.cell? ⟨w.heap.size + 1, 8, none⟩ = some (.slice A2 n2 c2) := ((bcell hb2).1 _ _ (by omega)).trans pb8
  have qy0 : w2.cell? ⟨w.heap.size + 1 + 1, 0, none⟩ = some (.slice none 0 0) := ((bcell hb2).1 _ _ (by omega)).trans py0
  have qy1 : w2.cell? ⟨w.heap.size + 1 + 1, 1, none⟩ = some (.int .i64 0) := ((bcell hb2).1 _ _ (by omega)).trans py1
  have qf : ∀ o, w2.frozen? ⟨w.heap.size + 1 + 1, o, none⟩ = false := fun o => ((bcell hb2).2 _ _ (by omega)).trans (pf o)
  have HB2 := Lib.hid (HB1.out.trans (hb2.mono (by omega)))
  clear hb2 pa0 pa1 pb0 pb1 pb2 pb3 pb4 pb5 pb6 pb7 pb8 py0 py1 pf
  go_wp2_with fail
  go_region_held3 (fun w' => w'.cell? ⟨w.heap.size, 0, none⟩ = some (.slice A n c) ∧ w'.cell? ⟨w.heap.size, 1, none⟩ = some (.int .i64 at_) ∧ w'.cell? ⟨w.heap.size + 1, 0, none⟩ = some (.int .i64 k) ∧ w'.cell? ⟨w.heap.size + 1, 1, none⟩ = some (.int .i64 f) ∧ w'.cell? ⟨w.heap.size + 1, 2, none⟩ = some (.int .i64 t) ∧ w'.cell? ⟨w.heap.size + 1, 3, none⟩ = some (.int .i64 num) ∧ w'.cell? ⟨w.heap.size + 1, 4, none⟩ = some (.string s) ∧ w'.cell? ⟨w.heap.size + 1, 5, none⟩ = some (.int .i64 k2) ∧ w'.cell? ⟨w.heap.size + 1, 6, none⟩ = some (.int .i64 m2) ∧ w'.cell? ⟨w.heap.size + 1, 7, none⟩ = some (.string s2) ∧ w'.cell? ⟨w.heap.size + 1, 8, none⟩ = some (.slice A2 n2 c2))
    (first | exact ⟨qa0, qa1, qb0, qb1, qb2, qb3, qb4, qb5, qb6, qb7, qb8⟩ | exact ⟨ua0, ua1, ub0, ub1, ub2, ub3, ub4, ub5, ub6, ub7, ub8⟩ | exact ⟨va0, va1, vb0, vb1, vb2, vb3, vb4, vb5, vb6, vb7, vb8⟩ | exact ⟨xa0, xa1, xb0, xb1, xb2, xb3, xb4, xb5, xb6, xb7, xb8⟩ | exact ⟨keep_far (by omega) xa0, keep_far (by omega) xa1, keep_far (by omega) xb0, keep_far (by omega) xb1, keep_far (by omega) xb2, keep_far (by omega) xb3, keep_far (by omega) xb4, keep_far (by omega) xb5, keep_far (by omega) xb6, keep_far (by omega) xb7, keep_far (by omega) xb8⟩ | go_keep)
    (first
      | (go_at_call 194; refine (leach_any n c A arg S _ (by omega) (HR.out.below (HB2.out.drew)) HMA.out).mono ?_; rintro e w3 ⟨v3, C3, rfl, hown3, hCl3, hCv3, hb3⟩; have FC3 := Lib.hid (fun b o (h : b < w2.heap.size) => (bcell hb3).1 b o h); have FF3 := Lib.hid (fun b o (h : b < w2.heap.size) => (bcell hb3).2 b o h); have HB3 := Lib.hid (HB2.out.drew.trans (hb3.mono (show w.heap.size ≤ w2.heap.size by omega))); have hz3 : w2.heap.size ≤ w3.heap.size := hb3.size; have HO3 := Lib.hid hown3; have HCL3 := Lib.hid hCl3; have HCV3 := Lib.hid hCv3; have ua0 : w3.cell? ⟨w.heap.size, 0, none⟩ = some (.slice A n c) := (FC3.out _ _ (by omega)).trans qa0; have ua1 : w3.cell? ⟨w.heap.size, 1, none⟩ = some (.int .i64 at_) := (FC3.out _ _ (by omega)).trans qa1; have ub0 : w3.cell? ⟨w.heap.size + 1, 0, none⟩ = some (.int .i64 k) := (FC3.out _ _ (by omega)).trans qb0; have ub1 : w3.cell? ⟨w.heap.size + 1, 1, none⟩ = some (.int .i64 f) := (FC3.out _ _ (by omega)).trans qb1; have ub2 : w3.cell? ⟨w.heap.size + 1, 2, none⟩ = some (.int .i64 t) := (FC3.out _ _ (by omega)).trans qb2; have ub3 : w3.cell? ⟨w.heap.size + 1, 3, none⟩ = some (.int .i64 num) := (FC3.out _ _ (by omega)).trans qb3; have ub4 : w3.cell? ⟨w.heap.size + 1, 4, none⟩ = some (.string s) := (FC3.out _ _ (by omega)).trans qb4; have ub5 : w3.cell? ⟨w.heap.size + 1, 5, none⟩ = some (.int .i64 k2) := (FC3.out _ _ (by omega)).trans qb5; have ub6 : w3.cell? ⟨w.heap.size + 1, 6, none⟩ = some (.int .i64 m2) := (FC3.out _ _ (by omega)).trans qb6; have ub7 : w3.cell? ⟨w.heap.size + 1, 7, none⟩ = some (.string s2) := (FC3.out _ _ (by omega)).trans qb7; have ub8 : w3.cell? ⟨w.heap.size + 1, 8, none⟩ = some (.slice A2 n2 c2) := (FC3.out _ _ (by omega)).trans qb8; have uy0 : w3.cell? ⟨w.heap.size + 1 + 1, 0, none⟩ = some (.slice none 0 0) := (FC3.out _ _ (by omega)).trans qy0; have uy1 : w3.cell? ⟨w.heap.size + 1 + 1, 1, none⟩ = some (.int .i64 0) := (FC3.out _ _ (by omega)).trans qy1; have uf : ∀ o, w3.frozen? ⟨w.heap.size + 1 + 1, o, none⟩ = false := fun o => (FF3.out _ _ (by omega)).trans (qf o); clear hown3 hCl3 hCv3 hb3)
      | (go_at_call 162; refine (lcopy_any ⟨k, f, t, num, s, val⟩ _ Sx _ ⟨k2, m2, s2, A2, n2, c2, rfl, isV_below HVx.out HB3.out⟩ hmx).mono ?_; rintro e w4 ⟨cs4, rfl, hL4, hb4⟩; have hL4' := hL4; obtain ⟨k3, m3, s3, A3, n3, c3, rfl, _⟩ := hL4'; dsimp only at hL4 ⊢; have FC4 := Lib.hid (fun b o (h : b < w2.heap.size) => ((bcell hb4).1 b o (by omega)).trans (FC3.out b o h)); have FF4 := Lib.hid (fun b o (h : b < w2.heap.size) => ((bcell hb4).2 b o (by omega)).trans (FF3.out b o h)); have HB4 := Lib.hid (HB3.out.trans (hb4.mono (show w.heap.size ≤ w3.heap.size by omega))); have hz4 : w3.heap.size ≤ w4.heap.size := hb4.size; have HO4 := Lib.hid (own_below HO3.out hb4); have HL4 := Lib.hid hL4; have HB34 := Lib.hid hb4; have va0 : w4.cell? ⟨w.heap.size, 0, none⟩ = some (.slice A n c) := (FC4.out _ _ (by omega)).trans qa0; have va1 : w4.cell? ⟨w.heap.size, 1, none⟩ = some (.int .i64 at_) := (FC4.out _ _ (by omega)).trans qa1; have vb0 : w4.cell? ⟨w.heap.size + 1, 0, none⟩ = some (.int .i64 k) := (FC4.out _ _ (by omega)).trans qb0; have vb1 : w4.cell? ⟨w.heap.size + 1, 1, none⟩ = some (.int .i64 f) := (FC4.out _ _ (by omega)).trans qb1; have vb2 : w4.cell? ⟨w.heap.size + 1, 2, none⟩ = some (.int .i64 t) := (FC4.out _ _ (by omega)).trans qb2; have vb3 : w4.cell? ⟨w.heap.size + 1, 3, none⟩ = some (.int .i64 num) := (FC4.out _ _ (by omega)).trans qb3; have vb4 : w4.cell? ⟨w.heap.size + 1, 4, none⟩ = some (.string s) := (FC4.out _ _ (by omega)).trans qb4; have vb5 : w4.cell? ⟨w.heap.size + 1, 5, none⟩ = some (.int .i64 k2) := (FC4.out _ _ (by omega)).trans qb5; have vb6 : w4.cell? ⟨w.heap.size + 1, 6, none⟩ = some (.int .i64 m2) := (FC4.out _ _ (by omega)).trans qb6; have vb7 : w4.cell? ⟨w.heap.size + 1, 7, none⟩ = some (.string s2) := (FC4.out _ _ (by omega)).trans qb7; have vb8 : w4.cell? ⟨w.heap.size + 1, 8, none⟩ = some (.slice A2 n2 c2) := (FC4.out _ _ (by omega)).trans qb8; have vy0 : w4.cell? ⟨w.heap.size + 1 + 1, 0, none⟩ = some (.slice none 0 0) := (FC4.out _ _ (by omega)).trans qy0; have vy1 : w4.cell? ⟨w.heap.size + 1 + 1, 1, none⟩ = some (.int .i64 0) := (FC4.out _ _ (by omega)).trans qy1; have vf : ∀ o, w4.frozen? ⟨w.heap.size + 1 + 1, o, none⟩ = false := fun o => (FF4.out _ _ (by omega)).trans (qf o); clear hL4 hb4)
      | (refine step_append_lies _ (by rfl) _ _ _ (by rfl) w2.heap.size 154 i0 _ 9 104 Tryz.underlying115 hi jz0 jz1 jz2 rfl (by omega) v3 n (flatC C3 n) (by rfl) (HO4.out.alloc _) ⟨w4.heap.size, 0, none⟩ 1 1 [.int .i64 k, .int .i64 f, .int .i64 t, .int .i64 num, .string s, .int .i64 k3, .int .i64 m3, .string s3, .slice A3 n3 c3] (by rfl) (by rfl) (cell_nine_new _ _ _ _ _ _ _ _ _ _ _) (isL_one HL4.out) (by omega) (by unfold maxLen; omega) (by omega) (by simp; omega) (w4.heap.size + 1) (by simp) ?_; intro g cap w5 hown5 hgrow5 hat5 hlt5; have hne5 : ∀ b, b < w2.heap.size → some b ≠ v3.ownBlock := (fun b hb hh => by have := (HO4.out.lt b hh.symm).1; have e : w2.drew.heap.size = w2.heap.size := rfl; omega); have FC5 := Lib.hid (fun b o (h : b < w2.heap.size) => ((hgrow5.cell_far ⟨b, o, none⟩ (by simp; omega) (hne5 b h)).trans (World.cell?_alloc_lt _ _ _ (by show b < w4.heap.size; omega))).trans (FC4.out b o h)); have FF5 := Lib.hid (fun b o (h : b < w2.heap.size) => ((hgrow5.frozen_far ⟨b, o, none⟩ (by simp; omega) (hne5 b h)).trans (World.frozen?_alloc_old _ _ _ (by show b ≠ w4.heap.size; omega))).trans (FF4.out b o h)); rw [flatC_snoc] at hown5; have HO5 := Lib.hid hown5; have HG5 := Lib.hid hgrow5; have HA5 := Lib.hid hat5; have xa0 : w5.cell? ⟨w.heap.size, 0, none⟩ = some (.slice A n c) := (FC5.out _ _ (by omega)).trans qa0; have xa1 : w5.cell? ⟨w.heap.size, 1, none⟩ = some (.int .i64 at_) := (FC5.out _ _ (by omega)).trans qa1; have xb0 : w5.cell? ⟨w.heap.size + 1, 0, none⟩ = some (.int .i64 k) := (FC5.out _ _ (by omega)).trans qb0; have xb1 : w5.cell? ⟨w.heap.size + 1, 1, none⟩ = some (.int .i64 f) := (FC5.out _ _ (by omega)).trans qb1; have xb2 : w5.cell? ⟨w.heap.size + 1, 2, none⟩ = some (.int .i64 t) := (FC5.out _ _ (by omega)).trans qb2; have xb3 : w5.cell? ⟨w.heap.size + 1, 3, none⟩ = some (.int .i64 num) := (FC5.out _ _ (by omega)).trans qb3; have xb4 : w5.cell? ⟨w.heap.size + 1, 4, none⟩ = some (.string s) := (FC5.out _ _ (by omega)).trans qb4; have xb5 : w5.cell? ⟨w.heap.size + 1, 5, none⟩ = some (.int .i64 k2) := (FC5.out _ _ (by omega)).trans qb5; have xb6 : w5.cell? ⟨w.heap.size + 1, 6, none⟩ = some (.int .i64 m2) := (FC5.out _ _ (by omega)).trans qb6; have xb7 : w5.cell? ⟨w.heap.size + 1, 7, none⟩ = some (.string s2) := (FC5.out _ _ (by omega)).trans qb7; have xb8 : w5.cell? ⟨w.heap.size + 1, 8, none⟩ = some (.slice A2 n2 c2) := (FC5.out _ _ (by omega)).trans qb8; have xy0 : w5.cell? ⟨w.heap.size + 1 + 1, 0, none⟩ = some (.slice none 0 0) := (FC5.out _ _ (by omega)).trans qy0; have xy1 : w5.cell? ⟨w.heap.size + 1 + 1, 1, none⟩ = some (.int .i64 0) := (FC5.out _ _ (by omega)).trans qy1; have xf : ∀ o, w5.frozen? ⟨w.heap.size + 1 + 1, o, none⟩ = false := fun o => (FF5.out _ _ (by omega)).trans (qf o); clear hown5 hgrow5 hat5 hne5))
  go_wp2_with fail
  refine bodyPost_ret (v := .tuple #[.agg #[.slice (some ⟨g, 0, none⟩) (n + 1) cap, .int .i64 at_], .int .i64 0]) (by simp [results, Tryz.results187, go_sem, xy0, xy1]) rfl ?_
  exact put_final (w2 := w2.drew) HO5.out HCL3.out HCV3.out HB34.out HL4.out HG5.out HA5.out (fun k hk => ⟨(HO4.out.lt k hk).1, (HO3.out.lt k hk).2⟩) (show w.heap.size + 3 ≤ w2.heap.size by omega) hz3 ((HB4.out.alloc (by omega) _).grown HG5.out (by simp; omega) (fun k hk => by have := (HO4.out.lt k hk).1; have e : w2.drew.heap.size = w2.heap.size := rfl; omega))
end Go.Proofs.YthgbcgphkddmgaaGreat
namespace Go.Proofs.YthgbcgphkddmgaaGreat
open Go.RowKit Go.Maps
set_option linter.unusedVariables false
set_option linter.unusedSimpArgs false
/-- block b holds the map g; the iterator at r has given L -/
def RngM (w : World) (b r : Nat) (g : Int → Option Value) (L : List Int) : Prop :=
  ∃ n D left cnt, w.ranges Tryz.prog 3 anyElem b r n D left cnt ∧ (∀ x, Wf x → Maps.has D (.int .i64 x) = (g x).isSome ∧ ∀ z, D.atKey (.int .i64 x) (.held z) = .held ((g x).getD z)) ∧ L.Nodup ∧ (∀ x, x ∈ L → Wf x ∧ (g x).isSome = true) ∧ (∀ x, Wf x → left (.int .i64 x) = ((g x).isSome && !decide (x ∈ L)))
theorem RngM.fr {S : Nat → Prop} {w w' : World} {b r : Nat} {g : Int → Option Value} {L : List Int} (h : RngM w b r g L) (hf : Fr S w w') (hb : ¬ S b) (hr : ¬ S r) : RngM w' b r g L ∧ w'.rangeLeft b r = w.rangeLeft b r := by
  obtain ⟨n, D, left, cnt, ⟨es, clock, since, seen, c0, h1, h2, h3, h4, h5, h6⟩, k⟩ := h
  have e1 : w'.heap[b]? = w.heap[b]? := hf.block b (Array.getElem?_eq_some_iff.1 h1).1 hb
  have e2 : w'.heap[r]? = w.heap[r]? := hf.block r (Array.getElem?_eq_some_iff.1 h5).1 hr
  refine ⟨⟨n, D, left, cnt, ⟨es, clock, since, seen, c0, e1.trans h1, h2, h3, h4, e2.trans h5, h6⟩, k⟩, ?_⟩
  unfold World.rangeLeft
  rw [e1, e2]
theorem RngM.lt {w : World} {b r : Nat} {g : Int → Option Value} {L : List Int} (h : RngM w b r g L) : b < w.heap.size ∧ r < w.heap.size ∧ r ≠ b := by
  obtain ⟨n, D, left, cnt, h, _⟩ := h
  have hne := h.ne
  obtain ⟨es, clock, since, seen, c0, h1, h2, h3, h4, h5, h6⟩ := h
  exact ⟨(Array.getElem?_eq_some_iff.1 h1).1, (Array.getElem?_eq_some_iff.1 h5).1, hne⟩
set_option maxRecDepth 100000 in
theorem wp_range_M {o : Oper} {ops : Array Oper} {Q : Exit → Act → World → Prop} {rest : List Oper} {a : Act} {w : World} (hg : o.guard = none) (m : Operand) (t e : TypeId) (hop : o.op = Op.range t m) (ht : Tryz.prog.underlying t = some (.map 3 e)) (b n : Nat) (g : Int → Option Value)
    (hm : a.eval m = .map (some b)) (hown : OwnM w b n g)
    (hK : ∀ w', RngM w' b w.heap.size g [] → Fr (fun _ => False) w w' → w'.heap.size = w.heap.size + 1 → wpList Tryz.prog ops Q rest (a.put o.dst (.pointer (some ⟨w.heap.size, 0, none⟩))) w') :
    wpList Tryz.prog ops Q (o :: rest) a w := by
  obtain ⟨D, h1, hs, h2⟩ := hown
  refine wpList_range_own w hg m t hop 3 e lawI ht anyElem b n D hm h1 fun w' r1 r2 r3 => hK w' ⟨n, D, _, _, r1, h2, List.nodup_nil, (fun x hx => by simp at hx), fun x hx => ?_⟩ (Fr.of_grown r2 (fun k hk => by cases hk)) r3
  rw [(h2 x hx).1]
  simp
set_option maxRecDepth 100000 in
theorem wp_next_M {o : Oper} {ops : Array Oper} {Q : Exit → Act → World → Prop} {rest : List Oper} {a : Act} {w : World} (hg : o.guard = none) (it : Operand) (hop : o.op = Op.next it false) (b r : Nat) (g : Int → Option Value) (L : List Int)
    (hit : a.eval it = .pointer (some ⟨r, 0, none⟩)) (h : RngM w b r g L)
    (hDone : (∀ x, Wf x → (g x).isSome = true → x ∈ L) → wpList Tryz.prog ops Q rest (a.put o.dst (.tuple #[.bool false])) w)
    (hMore : ∀ (x : Int) (v : Value) (w' : World), Wf x → g x = some v → x ∉ L → RngM w' b r g (L ++ [x]) → w'.rangeLeft b r < w.rangeLeft b r → Fr (fun k => k = r) w w' → w'.heap.size = w.heap.size → (Instr.entry (.pointer (some ⟨r, 0, none⟩))).run Tryz.prog w' = .ok (.tuple #[.int .i64 x, v]) w' → wpList Tryz.prog ops Q rest (a.put o.dst (.tuple #[.bool true, .int .i64 x, v])) w') :
    wpList Tryz.prog ops Q (o :: rest) a w := by
  obtain ⟨n, D, left, cnt, hr, h2, h3, h4, h5⟩ := h
  refine wpList_next_ranges w hg it hop 3 lawI anyElem (Value.int .i64) (fun v : Value => v) (fun key kl hkey => by obtain ⟨x, rfl, _⟩ := Maps.keyOf_int_inv Tryz.underlying3 hkey; exact ⟨x, rfl⟩) (fun v y _ => ⟨v, rfl⟩) b r n D left cnt hit hr (fun hc hl => hDone fun x hx hs => ?_) (fun x v kl y w' cnt' hkey hlk hv hat hrg hlt hgr hsz hen => ?_)
  · have := h5 x hx
    rw [hl, hs] at this
    simpa using this.symm
  · obtain ⟨x', ex, rfl, hwx⟩ := Maps.keyOf_int_inv Tryz.underlying3 hkey
    injection ex with _ ex
    subst ex
    have hl := h5 x hwx
    rw [hlk] at hl
    have hl' : (g x).isSome = true ∧ x ∉ L := by simpa using hl.symm
    obtain ⟨v0, hv0⟩ := Option.isSome_iff_exists.1 hl'.1
    have hv1 : y.1 = .held v := by
      obtain ⟨y1, y2⟩ := y
      exact anyElem_inv hv
    have hv2 : v = v0 := by
      have := hat (.held v)
      rw [hv1, (h2 x hwx).2 v, hv0] at this
      injection this with this
      exact this.symm
    subst hv2
    refine hMore x v w' hwx hv0 hl'.2 ⟨n, D, _, cnt', hrg, h2, ?_, fun z hz => ?_, fun z hz => ?_⟩ ?_ (Fr.of_grown hgr (fun k hk => .inl (by injection hk with hk; exact hk.symm))) hsz hen
    · rw [List.nodup_append]
      refine ⟨h3, by simp, fun c hc d hd => ?_⟩
      rw [List.mem_singleton] at hd
      exact fun e => hl'.2 (hd ▸ e ▸ hc)
    · rcases List.mem_append.1 hz with hz | hz
      · exact h4 z hz
      · rw [List.mem_singleton] at hz
        subst hz
        exact ⟨hwx, hl'.1⟩
    · rw [h5 z hz]
      by_cases e : z = x
      · subst e
        simp [Lit.sameKey]
      · simp [Lit.sameKey, e]
    · rw [hrg.left_eq, hr.left_eq]
      exact hlt
end Go.Proofs.YthgbcgphkddmgaaGreat
namespace Go.Proofs.YthgbcgphkddmgaaGreat
open Go.RowKit
set_option linter.unusedVariables false
/-- the numbers in order -/
def srt (l : List Int) : List Int := l.mergeSort fun x y => decide (x ≤ y)
theorem srt_perm (l : List Int) : (srt l).Perm l := List.mergeSort_perm _ _
theorem srt_len (l : List Int) : (srt l).length = l.length := (srt_perm l).length_eq
theorem srt_pairwise (l : List Int) : (srt l).Pairwise (· ≤ ·) := by
  have h := List.pairwise_mergeSort (le := fun x y : Int => decide (x ≤ y)) (by intro a b c h1 h2; simp at *; omega) (by intro a b; simp; omega) l
  exact h.imp (by intro a b h; simpa using h)
theorem srt_eq {l m : List Int} (h : l.Perm m) : srt l = srt m := by
  refine List.Perm.eq_of_pairwise (le := fun a b : Int => a ≤ b) (fun a b _ _ h1 h2 => by omega) (srt_pairwise l) (srt_pairwise m) ?_
  exact (srt_perm l).trans (h.trans (srt_perm m).symm)
def SortPost (base : Nat) (v : Value) (l : List Int) (w : World) (e : Ending) (w' : World) : Prop := e = .returned (.tuple #[]) ∧ OwnI w' base v (srt l) ∧ w.grownBy w' v.ownBlock
theorem sortI_own (base : Nat) (v : Value) (l : List Int) (w : World) (h : OwnI w base v l) (hl : l.length < 4611686018427387904) : Calls Tryz.prog 15 #[v] w (SortPost base v l w) := by
  rcases h.2 with ⟨rfl, h0⟩ | ⟨g, cap, cur, rfl, hb, hg, hnc, hcm, hcs, htake⟩
  · obtain rfl : l = [] := List.eq_nil_of_length_eq_zero h0
    refine (Tryz.sort_int_none _ _ _).mono ?_
    rintro e w' ⟨rfl, rfl⟩
    exact ⟨rfl, by simpa [srt] using h, grown_self _ _⟩
  · have hH := holds_of_blockI (ss := l) hg (by simpa [encI] using htake)
    have hlt := (Array.getElem?_eq_some_iff.1 hg).1
    refine (Tryz.sort_int g 0 cap l w hH hlt hl).mono ?_
    rintro e w' ⟨rfl, n, os, rfl⟩
    refine ⟨rfl, ?_, grownBy_sortedI _⟩
    have := ownsRow_sortedI (w := w) (base := base) (n := n) (os := os) (ss := l) (ts := srt l) (srt_len l) hb hg hnc hcm hcs
    unfold OwnI
    rw [srt_len]
    exact this
end Go.Proofs.YthgbcgphkddmgaaGreat
namespace Go.Proofs.YthgbcgphkddmgaaGreat.Tu
open Go.RowKit
set_option linter.unusedVariables false
def OkR (T : Nat → Int) (n : Nat) : Prop := n ≤ 100 ∧ ∀ k, k + 1 < n → T k < T (k + 1)
def ChkR (Ok : Prop) (w : World) (e : Ending) (w' : World) : Prop := ∃ x : Int, e = .returned (.int .i64 x) ∧ (x = 0 ↔ Ok) ∧ ∃ q, w' = w.drewN q
set_option maxRecDepth 100000 in
set_option maxHeartbeats 1000000 in
theorem checkR_any (A : Option Addr) (n c : Nat) (T : Nat → Int) (w : World) (hn : n ≤ c) (hc : c ≤ 9223372036854775807) (hT : Rd w 1 (tmC T) A n) :
    Calls Tryz.prog 114 #[.slice A n c] w (ChkR (OkR T n) w) := by
  have HT := Lib.hid hT
  clear hT
  by_cases h100 : 100 < n
  · have e0 : decide ((100 : Int) < (n : Int)) = true := by simp; omega
    go_enter Tryz.func114, Tryz.ntmps114
    go_wp2_with fail
    go_ret
    exact ⟨2, rfl, ⟨fun h => by omega, fun h => by have := h.1; omega⟩, 0, rfl⟩
  have e0 : decide ((100 : Int) < (n : Int)) = false := by simp; omega
  go_enter Tryz.func114, Tryz.ntmps114
  go_wp2_with fail
  go_loopw [3] (fun i wr => ∃ k q : Nat, i = .int .i64 ((k : Int) + 1) ∧ k ≤ n ∧ (∀ j, j < k → j + 1 < n → T j < T (j + 1)) ∧ wr = w.drewN q) (fun i _ => n + 1 - (intOf i).toNat)
  case atStart => exact ⟨0, 0, rfl, by omega, fun j hj => by omega, rfl⟩
  case round =>
    obtain ⟨k, q, rfl, hk, hlow, rfl⟩ := hrel
    have HL := Lib.hid hlow
    clear hlow
    by_cases hlt : k + 1 < n
    · obtain ⟨b, off, rfl, hb, hcell⟩ := HT.out (by omega)
      have c0 : (w.drewN q).cell? ⟨b, off + k, none⟩ = some (.int .i64 (T k)) := by simpa using hcell k (by omega) 0 _ rfl
      have c1 : (w.drewN q).cell? ⟨b, off + (k + 1), none⟩ = some (.int .i64 (T (k + 1))) := by simpa using hcell (k + 1) (by omega) 0 _ rfl
      have i1 : (0 : Int) ≤ (k : Int) + 1 := by omega
      have i2 : (k : Int) + 1 < (n : Int) := by omega
      have i3 : ((k : Int) + 1).toNat = k + 1 := by omega
      have i4 : IntKind.i64.wrap ((k : Int) + 1 - 1) = (k : Int) := by rw [IntWalk.i64_in _ (by omega)]; omega
      have i5 : (0 : Int) ≤ (k : Int) := by omega
      have i6 : (k : Int) < (n : Int) := by omega
      clear hcell
      generalize hW : w.drewN q = wx at *
      have HW := Lib.hid hW
      clear hW
      by_cases hp : T (k + 1) ≤ T k
      · have HP := Lib.hid hp
        go_wp2_with fail
        go_quiet (fail)
        go_wp2_with fail
        go_ret
        exact ⟨21, rfl, ⟨fun h => by omega, fun h => by have := h.2 k hlt; omega⟩, q + nq, by rw [← HW.out, drewN_drewN]⟩
      · have hp' : T k < T (k + 1) := by omega
        go_wp2_with fail
        go_quiet (fail)
        clear i1 i2 i3 i4 i5 i6 c0 c1
        go_wp2_with fail
        go_roundw
        case rel =>
          refine ⟨k + 1, q + nq, by go_num, by omega, fun j hj hj1 => ?_, by rw [← HW.out, drewN_drewN]⟩
          by_cases e : j = k
          · subst e; exact hp'
          · exact HL.out j (by omega) hj1
        case measure => simp [intOf]; omega
    · have hge : ¬ ((k : Int) + 1 < (n : Int)) := by omega
      go_wp2_with fail
      go_ret
      exact ⟨0, rfl, ⟨fun _ => ⟨by omega, fun j hj => HL.out j (by omega) hj⟩, fun _ => rfl⟩, q, rfl⟩
/-- the first task behind one, or the first of all -/
def aftOf (T : Nat → Int) (n : Nat) (last : Int) : Int := if 0 ≤ ixOf (fun k => decide (last < T k)) n then T (ixOf (fun k => decide (last < T k)) n).toNat else T 0
set_option maxHeartbeats 400000 in
theorem after_any (A : Option Addr) (n c : Nat) (T : Nat → Int) (last : Int) (w : World) (h0 : 0 < n) (hn : n ≤ 9223372036854775807) (hT : Rd w 1 (tmC T) A n) :
    Calls Tryz.prog 115 #[.slice A n c, .int .i64 last] w fun e w' => e = .returned (.int .i64 (aftOf T n last)) ∧ w = w' := by
  obtain ⟨b, off, rfl, hb, hcell⟩ := hT h0
  have HC := Lib.hid hcell
  clear hT hcell
  go_enter Tryz.func115, Tryz.ntmps115
  go_wp2_with fail
  go_loop [6, 9] (fun _ i => ∃ k : Nat, k ≤ n ∧ i = .int .i64 k ∧ (∀ j, j < k → decide (last < T j) = false)) (fun _ i => n - (intOf i).toNat)
  case atStart => exact ⟨0, Nat.zero_le _, rfl, fun j hj => by omega⟩
  case round =>
    obtain ⟨k, hk, rfl, hlow⟩ := hrel
    have HL := Lib.hid hlow
    clear hlow
    by_cases hlt : k < n
    · have c0 : w.cell? ⟨b, off + k, none⟩ = some (.int .i64 (T k)) := by simpa using HC.out k hlt 0 _ rfl
      by_cases hp : last < T k
      · have hp1 : decide (last < T k) = true := by simpa using hp
        have HE := Lib.hid (ixOf_found hlt (p := fun k => decide (last < T k)) hp1 HL.out)
        go_wp2_with fail
        go_ret
        refine ⟨ret_int ?_, rfl⟩
        unfold aftOf
        rw [HE.out, if_pos (by omega)]
        rfl
      · have hp1 : decide (last < T k) = false := by simpa using hp
        go_wp2_with fail
        go_round
        case rel =>
          refine ⟨k + 1, by omega, by go_num, fun j hj => ?_⟩
          by_cases e : j = k
          · rw [e]; exact hp1
          · exact HL.out j (by omega)
        case measure => simp [intOf]; omega
    · have c0 : w.cell? ⟨b, off, none⟩ = some (.int .i64 (T 0)) := by simpa using HC.out 0 h0 0 _ rfl
      have HE := Lib.hid (ixOf_none (p := fun k => decide (last < T k)) (n := n) (fun j hj => HL.out j (by omega)))
      go_wp2_with fail
      go_ret
      refine ⟨ret_int ?_, rfl⟩
      unfold aftOf
      rw [HE.out, if_neg (by omega)]
def NextPost (T : Nat → Int) (n : Nat) (last : Int) (w : World) (e : Ending) (w' : World) : Prop :=
  (OkR T n ∧ 0 < n ∧ e = .returned (.tuple #[.int .i64 (aftOf T n last), .int .i64 0]) ∨ ¬ (OkR T n ∧ 0 < n) ∧ ∃ x : Int, x ≠ 0 ∧ e = .returned (.tuple #[.int .i64 0, .int .i64 x])) ∧ ∃ q, w' = w.drewN q
set_option maxHeartbeats 400000 in
theorem next_any (A : Option Addr) (n c : Nat) (T : Nat → Int) (last : Int) (w : World) (hn : n ≤ c) (hc : c ≤ 9223372036854775807) (hT : Rd w 1 (tmC T) A n) :
    Calls Tryz.prog 67 #[.slice A n c, .int .i64 last] w (NextPost T n last w) := by
  have H := Lib.hid (checkR_any A n c T w hn hc hT)
  have HT := Lib.hid hT
  clear hT
  by_cases ok : OkR T n
  · have HK := Lib.hid ok
    clear ok
    by_cases h0 : 0 < n
    · have e0 : ((n : Int) == 0) = false := by simp; omega
      go_enter Tryz.func67, Tryz.ntmps67
      go_wp2_with fail
      refine H.out.mono ?_
      rintro e w1 ⟨x, rfl, hx, q, rfl⟩
      obtain rfl : x = 0 := hx.2 HK.out
      clear hx
      go_wp2_with fail
      refine (after_any A n c T last _ h0 (by omega) (by exact HT.out)).mono ?_
      rintro e w2 ⟨rfl, rfl⟩
      go_wp2_with fail
      go_ret2
      exact ⟨.inl ⟨HK.out, h0, rfl⟩, q, rfl⟩
    · have e0 : ((n : Int) == 0) = true := by simp; omega
      go_enter Tryz.func67, Tryz.ntmps67
      go_wp2_with fail
      refine H.out.mono ?_
      rintro e w1 ⟨x, rfl, hx, q, rfl⟩
      obtain rfl : x = 0 := hx.2 HK.out
      clear hx
      go_wp2_with fail
      go_ret2
      exact ⟨.inr ⟨fun h => h0 h.2, 4, by omega, rfl⟩, q, rfl⟩
  · have HK := Lib.hid ok
    clear ok
    go_enter Tryz.func67, Tryz.ntmps67
    go_wp2_with fail
    refine H.out.mono ?_
    rintro e w1 ⟨x, rfl, hx, q, rfl⟩
    have hx' : x ≠ 0 := fun h => HK.out (hx.1 h)
    have hx0 : (x != 0) = true := by simpa using hx'
    clear hx
    go_wp2_with fail
    go_ret2
    exact ⟨.inr ⟨fun h => HK.out h.1, x, hx', rfl⟩, q, rfl⟩
def T25 : Nat → Int := fun k => if k = 0 then 2 else 5
end Go.Proofs.YthgbcgphkddmgaaGreat.Tu
