/- limit.Give, whatever is asked. -/
import Derived.Test.YtjcegplockihfaaLimitPlain
namespace Go.Proofs.Ytjcegplockihfaa
open Go.RowKit
set_option linter.unusedVariables false
theorem ix_ref {R : Nat → LRow} {n k : Nat} {ref : Int} (ok : OkL R n) (hk : k < n) (h : (R k).ref = ref) : ixOf (refB R ref) n = k := by
  refine ixOf_found hk (by simp [refB, h]) fun j hj => ?_
  simp only [refB, beq_eq_false_iff_ne]
  intro e
  have := okL_inj ok (by omega) hk (e.trans h.symm)
  omega
theorem no_ref {R : Nat → LRow} {n : Nat} {ref : Int} (h : ixOf (refB R ref) n = -1) : ∀ j, j < n → (R j).ref ≠ ref := by
  rcases ixOf_cases (refB R ref) n with ⟨_, hno⟩ | ⟨k, e, _⟩
  · intro j hj e
    have := hno j hj
    simp [refB, e] at this
  · rw [h] at e; omega
def GvOk (R : Nat → LRow) (n : Nat) (ref l d : Int) (k : Nat) : Prop := OkL R n ∧ k < n ∧ (R k).ref = ref ∧ OkG (R k) l d
def GiveRes (R : Nat → LRow) (n : Nat) (ref l d : Int) (w : World) (e : Ending) (w' : World) : Prop :=
  (RowsErr w e w' ∧ ¬ ∃ k, GvOk R n ref l d k) ∨ ∃ k, GvOk R n ref l d k ∧ RowsPost n (updF R k (given (R k) l d)) w e w'
set_option maxRecDepth 100000 in
set_option maxHeartbeats 4000000 in
theorem give_any (A : Option Addr) (n c : Nat) (R : Nat → LRow) (ref l d : Int) (w : World) (hn : n ≤ c) (hc : c ≤ 9223372036854775807) (hR : Rd w 5 (rowC R) A n) :
    Calls Try.prog 23 #[.slice A n c, .int .i64 ref, .int .i64 l, .int .i64 d] w (GiveRes R n ref l d w) := by
  by_cases ok : OkL R n
  rotate_left
  · have HBAD : ¬ OkL R n ∨ ixOf (refB R ref) n = -1 := .inl ok
    have HNO : ¬ ∃ k, GvOk R n ref l d k := fun ⟨k, h⟩ => ok h.1
    have H := Lib.hid (begin_err A n c R ref w hn hc hR HBAD)
    clear hR
    go_enter Try.func23, Try.ntmps23
    go_wp2_with fail
    refine H.out.mono ?_
    rintro e w1 ⟨x, rfl, hx, hb⟩
    have hx1 : (x != 0) = true := by simpa using hx
    have hx2 : (x == 0) = false := by simpa using hx
    have HX := Lib.hid hx
    clear hx
    go_wp2_with fail
    go_ret2
    exact .inl ⟨⟨x, rfl, HX.out, hb⟩, HNO⟩
  rcases ixOf_cases (refB R ref) n with ⟨ei, hno⟩ | ⟨k, ei, hk, hp, _⟩
  · have HBAD : ¬ OkL R n ∨ ixOf (refB R ref) n = -1 := .inr ei
    have HNO : ¬ ∃ k, GvOk R n ref l d k := fun ⟨k, h⟩ => no_ref ei k h.2.1 h.2.2.1
    have H := Lib.hid (begin_err A n c R ref w hn hc hR HBAD)
    clear hR
    go_enter Try.func23, Try.ntmps23
    go_wp2_with fail
    refine H.out.mono ?_
    rintro e w1 ⟨x, rfl, hx, hb⟩
    have hx1 : (x != 0) = true := by simpa using hx
    have hx2 : (x == 0) = false := by simpa using hx
    have HX := Lib.hid hx
    clear hx
    go_wp2_with fail
    go_ret2
    exact .inl ⟨⟨x, rfl, HX.out, hb⟩, HNO⟩
  have hrf : (R k).ref = ref := by simpa [refB] using hp
  have H := Lib.hid (begin_ok A n c R ref k w hn hc hR ok ei)
  have HR := Lib.hid hR
  have HOKL := Lib.hid ok
  have HUN := Lib.hid (show ∀ j, GvOk R n ref l d j → OkG (R k) l d from fun j h => by rw [← okL_inj ok h.2.1 hk (h.2.2.1.trans hrf.symm)]; exact h.2.2.2)
  obtain ⟨b, off, hA, hb0, hcell⟩ := hR (by omega)
  subst hA
  have c0 : w.cell? ⟨b, off + k * 5, none⟩ = some (.int .i64 (R k).ref) := hcell k hk 0 _ rfl
  have c1 : w.cell? ⟨b, off + k * 5 + 1, none⟩ = some (.int .i64 (R k).letters) := hcell k hk 1 _ rfl
  have c2 : w.cell? ⟨b, off + k * 5 + 2, none⟩ = some (.int .i64 (R k).cells) := hcell k hk 2 _ rfl
  have c3 : w.cell? ⟨b, off + k * 5 + 3, none⟩ = some (.int .i64 (R k).maxL) := hcell k hk 3 _ rfl
  have c4 : w.cell? ⟨b, off + k * 5 + 4, none⟩ = some (.int .i64 (R k).maxC) := hcell k hk 4 _ rfl
  have hfine := (ok.2 k hk).1
  have h100 := ok.1
  obtain ⟨r, hr⟩ : ∃ r, R k = r := ⟨_, rfl⟩
  have HK := Lib.hid hr
  rw [hr] at c0 c1 c2 c3 c4 hfine
  obtain ⟨rr, rl, rc, rml, rmc⟩ := r
  unfold FineL at hfine
  dsimp only at c0 c1 c2 c3 c4 hfine
  obtain ⟨f1, f2, f3, f4, f5, f6⟩ := hfine
  rw [hr] at hrf HUN
  unfold OkG at HUN
  dsimp only at hrf HUN
  subst hrf
  clear hR ok ei hcell hr hp
  go_enter Try.func23, Try.ntmps23
  go_wp2_with fail
  refine H.out.mono ?_
  rintro e w1 ⟨rfl, hb⟩
  have hz := hb.size
  have hw1 : ∀ o, w1.cell? ⟨b, o, none⟩ = w.cell? ⟨b, o, none⟩ := fun o => hb.cell (p := ⟨b, o, none⟩) hb0
  rw [← hw1] at c0 c1 c2 c3 c4
  have HB := Lib.hid hb
  clear hw1 hb H
  by_cases q1 : amtB l = true
  rotate_left
  · have q1' : amtB l = false := by simpa using q1
    clear q1
    go_wp2_with (go_at_call 45; refine (amount_any _ _).mono ?_; rintro e w' ⟨rfl, rfl⟩)
    go_ret2
    exact .inl ⟨⟨1, rfl, by omega, HB.out⟩, fun ⟨j, h⟩ => by have := HUN.out j h; simp [amtB] at q1'; omega⟩
  have l1 : 0 ≤ l ∧ l ≤ 1073741824 := by simpa [amtB] using q1
  by_cases q2 : amtB d = true
  rotate_left
  · have q2' : amtB d = false := by simpa using q2
    clear q2
    go_wp2_with (go_at_call 45; refine (amount_any _ _).mono ?_; rintro e w' ⟨rfl, rfl⟩)
    go_ret2
    exact .inl ⟨⟨1, rfl, by omega, HB.out⟩, fun ⟨j, h⟩ => by have := HUN.out j h; simp [amtB] at q2'; omega⟩
  have l2 : 0 ≤ d ∧ d ≤ 1073741824 := by simpa [amtB] using q2
  by_cases q3 : rl < l
  · have d3 : decide (rl < l) = true := by simpa using q3
    go_wp2_with (go_at_call 45; refine (amount_any _ _).mono ?_; rintro e w' ⟨rfl, rfl⟩)
    go_ret2
    exact .inl ⟨⟨1, rfl, by omega, HB.out⟩, fun ⟨j, h⟩ => by have := HUN.out j h; omega⟩
  have d3 : decide (rl < l) = false := by simpa using q3
  by_cases q4 : rc < d
  · have d4 : decide (rc < d) = true := by simpa using q4
    go_wp2_with (go_at_call 45; refine (amount_any _ _).mono ?_; rintro e w' ⟨rfl, rfl⟩)
    go_ret2
    exact .inl ⟨⟨1, rfl, by omega, HB.out⟩, fun ⟨j, h⟩ => by have := HUN.out j h; omega⟩
  have d4 : decide (rc < d) = false := by simpa using q4
  go_wp2_with (go_at_call 45; refine (amount_any _ _).mono ?_; rintro e w' ⟨rfl, rfl⟩)
  refine (cloneL _ n c (rowC R) _ (HR.out.below HB.out) (rowC_len R) (rowC_one R) (fun h => by cases h) (by omega)).mono ?_
  rintro e w3 ⟨v, rfl, hown, hb3⟩
  have hB3 : Below w.heap.size w w3 := HB.out.trans (hb3.mono hz)
  obtain ⟨g, cap, rfl, hbase, hlt, hnc, hcm⟩ := own_form hown (by omega)
  have hbase' : w.heap.size ≤ g := by omega
  have hown1 := own_mono (base' := w.heap.size) hown hz
  obtain ⟨s1, t1⟩ := own_row_set hown1 hk (j := 1) (by omega) ⟨rr, rl - l, rc, rml, rmc⟩ (.int .i64 (rl - l)) (by simp [rowC, HK.out])
  have e1 : w3.cell? ⟨g, k * 5 + 1, none⟩ = some (.int .i64 rl) := by rw [own_row_cell hown1 hk 1 (by omega)]; simp [rowC, HK.out]
  obtain ⟨s2, t2⟩ := own_row_set t1 hk (j := 2) (by omega) ⟨rr, rl - l, rc - d, rml, rmc⟩ (.int .i64 (rc - d)) (by rw [rowC_const]; simp [rowC])
  have e2 : (w3.setCell ⟨g, k * 5 + 1, none⟩ (.int .i64 (rl - l))).cell? ⟨g, k * 5 + 2, none⟩ = some (.int .i64 rc) := by rw [own_row_cell t1 hk 2 (by omega), rowC_const]; simp [rowC]
  rw [updF_updF] at t2
  have HO := Lib.hid t2
  have HBB := Lib.hid ((hB3.setCell (p := ⟨g, k * 5 + 1, none⟩) hbase' (.int .i64 (rl - l))).setCell (p := ⟨g, k * 5 + 2, none⟩) hbase' (.int .i64 (rc - d)))
  clear hown hown1 t1 t2 hb3 hB3 hbase hbase' hz c0 c1 c2 c3 c4 HR HUN
  go_wp2_with fail
  go_ret2
  refine .inr ⟨k, ⟨HOKL.out, hk, by rw [HK.out], by rw [HK.out]; exact ⟨l1, l2, by simpa using q3, by simpa using q4⟩⟩, _, rfl, ?_, HBB.out⟩
  rw [HK.out]
  exact HO.out
end Go.Proofs.Ytjcegplockihfaa
