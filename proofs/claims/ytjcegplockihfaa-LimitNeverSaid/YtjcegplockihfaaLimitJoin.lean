/- limit.Join, whatever is asked. -/
import Derived.Test.YtjcegplockihfaaLimitFork
import Derived.Deep.RegionHeld3
namespace Go.Proofs.Ytjcegplockihfaa
open Go.RowKit
set_option linter.unusedVariables false
def JoinRes (R : Nat → LRow) (n : Nat) (ref to : Int) (w : World) (e : Ending) (w' : World) : Prop :=
  (RowsErr w e w' ∧ ¬ ∃ i k, JnOk R n ref to i k) ∨ ∃ i k, JnOk R n ref to i k ∧ RowsPost (n - 1) (jnR R k i) w e w'
set_option maxRecDepth 100000 in
set_option maxHeartbeats 8000000 in
theorem join_any (A : Option Addr) (n c : Nat) (R : Nat → LRow) (ref to : Int) (w : World) (hn : n ≤ c) (hc : c ≤ 9223372036854775807) (hR : Rd w 5 (rowC R) A n) :
    Calls Try.prog 21 #[.slice A n c, .int .i64 ref, .int .i64 to] w (JoinRes R n ref to w) := by
  by_cases ok : OkL R n
  rotate_left
  · have HBAD : ¬ OkL R n ∨ ixOf (refB R ref) n = -1 := .inl ok
    have HNO : ¬ ∃ i k, JnOk R n ref to i k := fun ⟨i, k, h⟩ => ok h.1
    have H := Lib.hid (begin_err A n c R ref w hn hc hR HBAD)
    clear hR
    go_enter Try.func21, Try.ntmps21
    go_wp2_with fail
    refine H.out.mono ?_
    rintro e w1 ⟨x, rfl, hx, hb⟩
    have hx1 : (x != 0) = true := by simpa using hx
    have hx2 : (x == 0) = false := by simpa using hx
    have HX := Lib.hid hx
    clear hx
    go_wp2_with fail
    go_ret2
    exact .inl ⟨⟨x, rfl, HX.out, hb⟩, HNO⟩
  rcases ixOf_cases (refB R ref) n with ⟨ei, hno⟩ | ⟨k, ei, hk, hp, _⟩
  · have HBAD : ¬ OkL R n ∨ ixOf (refB R ref) n = -1 := .inr ei
    have HNO : ¬ ∃ i k, JnOk R n ref to i k := fun ⟨i, k, h⟩ => no_ref ei i h.2.1 h.2.2.2.1
    have H := Lib.hid (begin_err A n c R ref w hn hc hR HBAD)
    clear hR
    go_enter Try.func21, Try.ntmps21
    go_wp2_with fail
    refine H.out.mono ?_
    rintro e w1 ⟨x, rfl, hx, hb⟩
    have hx1 : (x != 0) = true := by simpa using hx
    have hx2 : (x == 0) = false := by simpa using hx
    have HX := Lib.hid hx
    clear hx
    go_wp2_with fail
    go_ret2
    exact .inl ⟨⟨x, rfl, HX.out, hb⟩, HNO⟩
  have hrf : (R k).ref = ref := by simpa [refB] using hp
  have H := Lib.hid (begin_ok A n c R ref k w hn hc hR ok ei)
  have HR := Lib.hid hR
  have HOKL := Lib.hid ok
  have HUN := Lib.hid (show ∀ i, i < n → (R i).ref = ref → i = k from fun i hi h => okL_inj ok hi hk (h.trans hrf.symm))
  have HIN := Lib.hid (show ∀ i j, i < n → j < n → (R i).ref = (R j).ref → i = j from fun i j hi hj h => okL_inj ok hi hj h)
  obtain ⟨b, off, hA, hb0, hcell⟩ := hR (by omega)
  subst hA
  have c0 : w.cell? ⟨b, off + k * 5, none⟩ = some (.int .i64 (R k).ref) := hcell k hk 0 _ rfl
  have c1 : w.cell? ⟨b, off + k * 5 + 1, none⟩ = some (.int .i64 (R k).letters) := hcell k hk 1 _ rfl
  have c2 : w.cell? ⟨b, off + k * 5 + 2, none⟩ = some (.int .i64 (R k).cells) := hcell k hk 2 _ rfl
  have c3 : w.cell? ⟨b, off + k * 5 + 3, none⟩ = some (.int .i64 (R k).maxL) := hcell k hk 3 _ rfl
  have c4 : w.cell? ⟨b, off + k * 5 + 4, none⟩ = some (.int .i64 (R k).maxC) := hcell k hk 4 _ rfl
  have hfine := (ok.2 k hk).1
  have h100 := ok.1
  obtain ⟨r, hr⟩ : ∃ r, R k = r := ⟨_, rfl⟩
  have HK := Lib.hid hr
  rw [hr] at c0 c1 c2 c3 c4 hfine
  obtain ⟨rr, rl, rc, rml, rmc⟩ := r
  unfold FineL at hfine
  dsimp only at c0 c1 c2 c3 c4 hfine
  obtain ⟨f1, f2, f3, f4, f5, f6⟩ := hfine
  rw [hr] at hrf
  dsimp only at hrf
  subst hrf
  have HC := Lib.hid hcell
  clear hR ei hcell hr hp
  go_enter Try.func21, Try.ntmps21
  go_wp2_with fail
  refine H.out.mono ?_
  rintro e w1 ⟨rfl, hb⟩
  have hz := hb.size
  have HB := Lib.hid hb
  clear hb H
  go_wp2_with fail
  refine (find_any _ n c R to _ (by omega) (by exact HR.out.below HB.out)).mono ?_
  rintro e w2 ⟨rfl, hb2⟩
  have HB2 := Lib.hid (HB.out.trans (hb2.mono hz))
  have hz2 := HB2.out.size
  clear hb2 hz HB
  rcases ixOf_cases (refB R to) n with ⟨et, hno⟩ | ⟨kt, et, hkt, hpt, _⟩
  · rw [et]
    have HNE := Lib.hid (no_ref et)
    clear et hno
    go_wp2_with fail
    go_ret2
    exact .inl ⟨⟨4, rfl, by omega, HB2.out⟩, fun ⟨i, k, h⟩ => HNE.out k h.2.2.1 h.2.2.2.2.1⟩
  rw [et]
  have hrt : (R kt).ref = to := by simpa [refB] using hpt
  have HUT := Lib.hid (show ∀ i, i < n → (R i).ref = to → i = kt from fun i hi h => HIN.out i kt hi hkt (h.trans hrt.symm))
  have HRT := Lib.hid hrt
  have kt0 : ¬ ((kt : Int) < 0) := by omega
  clear et hpt hrt
  by_cases qe : kt = k
  · have d0 : ((kt : Int) == (k : Int)) = true := by simp [qe]
    have HQ := Lib.hid qe
    clear qe
    go_wp2_with fail
    go_ret2
    exact .inl ⟨⟨18, rfl, by omega, HB2.out⟩, fun ⟨i, j, h⟩ => h.2.2.2.2.2.1 (by
      rw [HUT.out j h.2.2.1 h.2.2.2.2.1, HQ.out, HUN.out i h.2.1 h.2.2.2.1])⟩
  have d0 : ((kt : Int) == (k : Int)) = false := by simp; omega
  have hfit := (ok.2 kt hkt).1
  obtain ⟨rt, hrt⟩ : ∃ rt, R kt = rt := ⟨_, rfl⟩
  have HKT := Lib.hid hrt
  have hw2 : ∀ o, w2.cell? ⟨b, o, none⟩ = w.cell? ⟨b, o, none⟩ := fun o => HB2.out.cell (p := ⟨b, o, none⟩) hb0
  have a3 := (hw2 _).trans (HC.out kt hkt 3 _ rfl)
  have a4 := (hw2 _).trans (HC.out kt hkt 4 _ rfl)
  rw [← hw2] at c0 c1 c2 c3 c4
  rw [hrt] at a3 a4 hfit
  obtain ⟨tr, tl, tc, tml, tmc⟩ := rt
  unfold FineL at hfit
  dsimp only at a3 a4 hfit
  obtain ⟨g1, g2, g3, g4, g5, g6⟩ := hfit
  have hbw : b < w2.heap.size := by omega
  clear hw2 ok hrt
  have i1 : (0 : Int) ≤ (kt : Int) := by omega
  have i2 : (kt : Int) < (n : Int) := by omega
  have i3 : (0 : Int) ≤ (k : Int) := by omega
  have i4 : (k : Int) < (n : Int) := by omega
  by_cases q1 : 1073741824 < tml + rml
  · have d1 : decide (1073741824 < tml + rml) = true := by simpa using q1
    go_wp2_with fail
    go_quiet (fail)
    go_wp2_with fail
    go_ret2
    exact .inl ⟨⟨2, rfl, by omega, below_drewN HB2.out _⟩, fun ⟨i, j, h⟩ => by
      have h1 := h.2.2.2.2.2.2.1
      rw [HUN.out i h.2.1 h.2.2.2.1, HUT.out j h.2.2.1 h.2.2.2.2.1, HK.out, HKT.out] at h1
      dsimp only at h1
      omega⟩
  have d1 : decide (1073741824 < tml + rml) = false := by simpa using q1
  by_cases q2 : 1073741824 < tmc + rmc
  · have d2 : decide (1073741824 < tmc + rmc) = true := by simpa using q2
    go_wp2_with fail
    go_quiet (fail)
    go_wp2_with fail
    go_ret2
    exact .inl ⟨⟨2, rfl, by omega, below_drewN HB2.out _⟩, fun ⟨i, j, h⟩ => by
      have h1 := h.2.2.2.2.2.2.2
      rw [HUN.out i h.2.1 h.2.2.2.1, HUT.out j h.2.2.1 h.2.2.2.2.1, HK.out, HKT.out] at h1
      dsimp only at h1
      omega⟩
  have d2 : decide (1073741824 < tmc + rmc) = false := by simpa using q2
  go_wp2_with fail
  go_quiet (fail)
  go_wp2_with fail
  refine (cloneL _ n c (rowC R) _ (by exact HR.out.below (below_drewN HB2.out _)) (rowC_len R) (rowC_one R) (fun h => by cases h) (by omega)).mono ?_
  rintro e w3 ⟨v, rfl, hown, hb3⟩
  have hB3 : Below w.heap.size w w3 := (below_drewN HB2.out _).trans (hb3.mono hz2)
  obtain ⟨g, cap, rfl, hbase, hlt, hnc, hcm⟩ := own_form hown (by omega)
  have hbase2 : w2.heap.size ≤ g := hbase
  have hbase' : w.heap.size ≤ g := by omega
  have hown1 := own_mono (base' := w.heap.size) hown hz2
  obtain ⟨s1, t1⟩ := own_row_set hown1 hkt (j := 3) (by omega) ⟨tr, tl, tc, tml + rml, tmc⟩ (.int .i64 (tml + rml)) (by simp [rowC, HKT.out])
  have u1 : w3.cell? ⟨g, kt * 5 + 3, none⟩ = some (.int .i64 tml) := by rw [own_row_cell hown1 hkt 3 (by omega)]; simp [rowC, HKT.out]
  obtain ⟨s2, t2⟩ := own_row_set t1 hkt (j := 4) (by omega) ⟨tr, tl, tc, tml + rml, tmc + rmc⟩ (.int .i64 (tmc + rmc)) (by rw [rowC_const]; simp [rowC])
  have u2 : (w3.setCell ⟨g, kt * 5 + 3, none⟩ (.int .i64 (tml + rml))).cell? ⟨g, kt * 5 + 4, none⟩ = some (.int .i64 tmc) := by rw [own_row_cell t1 hkt 4 (by omega), rowC_const]; simp [rowC]
  rw [updF_updF] at t2
  have hB4 := (hB3.setCell (p := ⟨g, kt * 5 + 3, none⟩) hbase' (.int .i64 (tml + rml))).setCell (p := ⟨g, kt * 5 + 4, none⟩) hbase' (.int .i64 (tmc + rmc))
  have b3 : w3.cell? ⟨b, off + k * 5 + 3, none⟩ = some (.int .i64 rml) := (hb3.cell (p := ⟨b, _, none⟩) hbw).trans c3
  have hbg : b ≠ g := by omega
  have b4 : (w3.setCell ⟨g, kt * 5 + 3, none⟩ (.int .i64 (tml + rml))).cell? ⟨b, off + k * 5 + 4, none⟩ = some (.int .i64 rmc) := by
    rw [World.cell?_setCell_other _ _ _ _ (by simp)]
    exact (hb3.cell (p := ⟨b, _, none⟩) hbw).trans c4
  have HBB := Lib.hid hB4
  obtain ⟨R', hR'⟩ : ∃ R', R' = updF R kt ⟨tr, tl, tc, tml + rml, tmc + rmc⟩ := ⟨_, rfl⟩
  rw [← hR'] at t2
  have HRE := Lib.hid (show R' = updF R kt (joined (R kt) (R k)) by rw [hR', HKT.out, HK.out]; rfl)
  have HO := Lib.hid t2
  have hg3 : g < w3.heap.size := hlt
  clear hown hown1 t1 t2 hb3 hB3 hbase c0 c1 c2 c3 c4 a3 a4 HR hR' hB4
  go_wp2_with fail
  go_region
  go_wp2_with fail
  go_region
  go_wp2_with fail
  refine (del_one w.heap.size g cap n k (flatC (rowC R') n) _ hk (by exact HO.out) (fun u hu => by obtain ⟨q, _, hq⟩ := flatC_mem hu; exact rowC_one _ q u hq)).mono ?_
  rintro e w5 ⟨rfl, hown5, hg5⟩
  have HO5 := Lib.hid hown5
  have HB5 := Lib.hid (below_grown HBB.out HBB.out.size (grown_drew (grown_drew hg5)) (fun q hq => by injection hq with hq; omega))
  clear hown5 hg5
  go_wp2_with fail
  go_ret2
  refine .inr ⟨k, kt, ⟨HOKL.out, hk, hkt, by rw [HK.out], HRT.out, qe, ?_, ?_⟩, _, rfl, ?_, HB5.out⟩
  · rw [HK.out, HKT.out]; simpa using q1
  · rw [HK.out, HKT.out]; simpa using q2
  · have e := HO5.out
    rw [del_flatG (rowC_len R') hk, ← rowC_del] at e
    unfold jnR
    rw [← HRE.out]
    exact e
end Go.Proofs.Ytjcegplockihfaa
