/- The walk of the law LinkOwn . The law LinkOwn over its arguments. -/
import Derived.Test.YtcedogmhmpcfmaaLOY
import Derived.Test.YtcedogmhmpcfmaaLoStep
import Derived.Test.YtcedogmhmpcfmaaLoBox
import Derived.Deep.RegionLaw
import Derived.Test.YtcedogmhmpcfmaaLI
import Derived.Test.YtcedogmhmpcfmaaTI
import Derived.Test.YtcedogmhmpcfmaaST
import Derived.Test.YtcedogmhmpcfmaaLM
import Derived.Test.YtcedogmhmpcfmaaWardFree
import Derived.Deep.DeepCutAuto
namespace Go.Proofs.Ytcedogmhmpcfmaa
open Go.RowKit Go.Deep
set_option linter.unusedVariables false
/-- how LinkOwn's arguments lie -/
structure ArgL (w : World) (X : InL) (lA tA sA mA kA hA : Option Addr) (lc tc sc mc kc hc : Nat) (vw vl : Nat → Value) (S : Nat → Prop) : Prop where
  l : Li.RdL w lA X.n X.R vw vl
  t : Ti.Sd w (.slice tA X.du.length tc) X.du
  s : St.RdLs w S sA X.q X.Q
  m : Rd w 5 (Lm.rowC X.L) mA X.m
  k : Rd w 3 (Wa.chC X.C) kA X.k
  h : Rd w 1 (tmC (lst X.ts)) hA X.ts.length
structure FitL (X : InL) (lA mA kA hA sA : Option Addr) (lc tc sc mc kc hc : Nat) : Prop where
  l1 : X.n ≤ lc
  l2 : lc ≤ 9223372036854775807
  l3 : X.n ≤ 1048576
  l4 : ∀ k, k < X.n → (X.R k).ws.length ≤ 1048576 ∧ (X.R k).ls.length ≤ 1048576
  t3 : X.du.length ≤ 1000000
  s1 : X.q ≤ sc
  s2 : sc ≤ 9223372036854775807
  s3 : X.q ≤ 1048576
  s4 : ∀ i, i < X.q → (X.Q i).length ≤ 1048576 ∧ ∀ x ∈ X.Q i, Wf x
  s5 : sA = none → X.q = 0
  m1 : X.m ≤ mc
  m2 : mc ≤ 9223372036854775807
  m3 : X.m ≤ 1048576
  m4 : mA = none → X.m = 0
  k1 : X.k ≤ kc
  k2 : kc ≤ 9223372036854775807
  k3 : X.k ≤ 1048576
  k4 : kA = none → X.k = 0
  h1 : X.ts.length ≤ hc
  h2 : hc ≤ 9223372036854775807
  h3 : X.ts.length ≤ 1048576
  h4 : hA = none → X.ts.length = 0
set_option maxHeartbeats 8000000 in
set_option maxRecDepth 100000 in
theorem linkOwn_go (X : InL) (ref other now now0 how most win : Int) (lA tA sA mA kA hA : Option Addr) (lc tc sc mc kc hc : Nat) (vw vl : Nat → Value) (S : Nat → Prop) (w : World) (hA0 : ArgL w X lA tA sA mA kA hA lc tc sc mc kc hc vw vl S) (hF0 : FitL X lA mA kA hA sA lc tc sc mc kc hc) :
    Calls Try.prog 3 #[.slice lA X.n lc, .int .i64 ref, .int .i64 other, .agg #[.int .i64 now0, .slice tA X.du.length tc], .slice sA X.q sc, .slice mA X.m mc, .agg #[.int .i64 how, .int .i64 most, .int .i64 win, .slice kA X.k kc, .slice hA X.ts.length hc], .int .i64 now] w fun e w' => e = .returned (.bool true) ∧ Below w.heap.size w w' := by
  have HA := Lib.hid hA0
  have HF := Lib.hid hF0
  obtain ⟨W1, hW1⟩ : ∃ W1, W1 = ((((w.alloc (.cells #[.slice lA X.n lc] 22)).alloc (.cells #[.int .i64 now0, .slice tA X.du.length tc] 25)).alloc (.cells #[.slice sA X.q sc] 27)).alloc (.cells #[.slice mA X.m mc] 28)).alloc (.cells #[.int .i64 how, .int .i64 most, .int .i64 win, .slice kA X.k kc, .slice hA X.ts.length hc] 32) := ⟨_, rfl⟩
  have HB1 := Lib.hid (show Below w.heap.size w W1 by rw [hW1]; exact (((((Below.refl _ _).alloc (Nat.le_refl _) _).alloc (by simp) _).alloc (by simp; omega) _).alloc (by simp; omega) _).alloc (by simp; omega) _)
  have HZ1 := Lib.hid (show W1.heap.size = w.heap.size + 5 by rw [hW1]; simp)
  have HC1 := Lib.hid (show W1.cell? ⟨w.heap.size, 0, none⟩ = some (.slice lA X.n lc) ∧ W1.cell? ⟨w.heap.size + 1, 0, none⟩ = some (.int .i64 now0) ∧ W1.cell? ⟨w.heap.size + 1, 1, none⟩ = some (.slice tA X.du.length tc) ∧ W1.cell? ⟨w.heap.size + 1 + 1, 0, none⟩ = some (.slice sA X.q sc) ∧ W1.cell? ⟨w.heap.size + 1 + 1 + 1, 0, none⟩ = some (.slice mA X.m mc) ∧ W1.cell? ⟨w.heap.size + 1 + 1 + 1 + 1, 0, none⟩ = some (.int .i64 how) ∧ W1.cell? ⟨w.heap.size + 1 + 1 + 1 + 1, 1, none⟩ = some (.int .i64 most) ∧ W1.cell? ⟨w.heap.size + 1 + 1 + 1 + 1, 2, none⟩ = some (.int .i64 win) ∧ W1.cell? ⟨w.heap.size + 1 + 1 + 1 + 1, 3, none⟩ = some (.slice kA X.k kc) ∧ W1.cell? ⟨w.heap.size + 1 + 1 + 1 + 1, 4, none⟩ = some (.slice hA X.ts.length hc) by
    rw [hW1]
    refine ⟨?_, ?_, ?_, ?_, ?_, ?_, ?_, ?_, ?_, ?_⟩ <;> simp [go_sem])
  clear hA0 hF0
  go_enter Try.func3, Try.ntmps3
  go_wp2_with fail
  rw [← hW1]
  clear hW1
  refine (Li.links_any _).mono ?_
  rintro e w1 ⟨rfl, hb1⟩
  have HB2 := Lib.hid (HB1.out.trans (hb1.mono HB1.out.size))
  have HB12 := Lib.hid hb1
  clear hb1
  go_wp2_with fail
  have HCW := Lib.hid (show ∀ wx, Below w1.heap.size w1 wx → wx.cell? ⟨w.heap.size, 0, none⟩ = some (.slice lA X.n lc) ∧ wx.cell? ⟨w.heap.size + 1, 0, none⟩ = some (.int .i64 now0) ∧ wx.cell? ⟨w.heap.size + 1, 1, none⟩ = some (.slice tA X.du.length tc) ∧ wx.cell? ⟨w.heap.size + 1 + 1, 0, none⟩ = some (.slice sA X.q sc) ∧ wx.cell? ⟨w.heap.size + 1 + 1 + 1, 0, none⟩ = some (.slice mA X.m mc) ∧ wx.cell? ⟨w.heap.size + 1 + 1 + 1 + 1, 0, none⟩ = some (.int .i64 how) ∧ wx.cell? ⟨w.heap.size + 1 + 1 + 1 + 1, 1, none⟩ = some (.int .i64 most) ∧ wx.cell? ⟨w.heap.size + 1 + 1 + 1 + 1, 2, none⟩ = some (.int .i64 win) ∧ wx.cell? ⟨w.heap.size + 1 + 1 + 1 + 1, 3, none⟩ = some (.slice kA X.k kc) ∧ wx.cell? ⟨w.heap.size + 1 + 1 + 1 + 1, 4, none⟩ = some (.slice hA X.ts.length hc) from fun wx hb => by
    have hz := HZ1.out
    have hbb := HB12.out.trans (hb.mono HB12.out.size)
    obtain ⟨q1, q2, q3, q4, q5, q6, q7, q8, q9, q10⟩ := HC1.out
    have k : ∀ {b o : Nat} {u : Value}, W1.cell? ⟨b, o, none⟩ = some u → wx.cell? ⟨b, o, none⟩ = some u := fun {b o u} h => (hbb.cell (p := ⟨b, o, none⟩) (World.block_lt_of_cell? W1 _ h)).trans h
    exact ⟨k q1, k q2, k q3, k q4, k q5, k q6, k q7, k q8, k q9, k q10⟩)
  have HFM := Lib.hid (rowL_fam w1 X)
  go_cut [17, 18, 19, 20, 21] (fun x17 x18 x19 x20 x21 wx => ∃ V Pt, x17 = Pt 0 ∧ x18 = Pt 1 ∧ x19 = Pt 2 ∧ x20 = Pt 3 ∧ x21 = Pt 4 ∧ CI w1 5 (RowL w1 X) zS (fun _ => true) (fun _ => true) (fun _ => true) V Pt wx)
  case first =>
    as_aux_lemma =>
      refine region_inv (n := 23) (by kernel_rfl) (by kernel_rfl) (by kernel_rfl) (fun L ax wx => ∃ V Pt Y : Nat → Value, ax = ⟨#[.slice lA X.n lc, .int .i64 ref, .int .i64 other, .agg #[.int .i64 now0, .slice tA X.du.length tc], .slice sA X.q sc, .slice mA X.m mc, .agg #[.int .i64 how, .int .i64 most, .int .i64 win, .slice kA X.k kc, .slice hA X.ts.length hc], .int .i64 now, .pointer (some ⟨w.heap.size, 0, none⟩), undef, undef, .pointer (some ⟨w.heap.size + 1, 0, none⟩), .pointer (some ⟨w.heap.size + 1 + 1, 0, none⟩), .pointer (some ⟨w.heap.size + 1 + 1 + 1, 0, none⟩), .pointer (some ⟨w.heap.size + 1 + 1 + 1 + 1, 0, none⟩), undef, .bool false, Pt 0, Pt 1, Pt 2, Pt 3, Pt 4, undef, undef, undef, undef, undef, undef, undef, undef, undef, undef, undef, undef, undef, undef, undef, undef, undef, undef, undef, undef, undef, undef, undef, undef, undef, undef, undef, undef, undef, undef, undef, undef, undef, undef, undef, undef, undef, undef, undef, undef, undef, undef, undef, undef, undef, undef, undef, undef, undef, undef, undef, .bool true, .bool false, Y 0, V 0, Y 1, Y 2, V 1, Y 3, V 2, Y 4, Y 5, V 3, Y 6, Y 7, V 4, undef, undef, undef, undef, undef, undef, undef, undef, undef, undef, undef, undef, undef, undef, undef, undef, undef, undef, undef, undef, undef, undef, undef, undef, undef, undef, undef, undef, undef, undef, undef, undef, undef, undef, undef, undef, undef, undef, undef, undef, undef, undef, undef, undef, undef, undef, undef, undef, undef, undef, undef, undef, undef, undef, undef, undef, undef, undef, undef, undef, undef, undef, undef, undef, undef, undef, undef, undef, undef, undef, undef, undef, undef, undef, undef, undef, undef, undef, undef, undef, undef, undef, undef, undef, undef, undef, undef, undef, undef, undef, undef, undef, undef, undef, undef, undef, undef, undef, undef, undef, undef, undef, undef, undef, undef, undef, undef, undef, undef, undef, undef, undef, undef, undef, undef, undef, undef, undef, undef, undef, undef, undef, undef, undef, undef, undef, undef, undef, undef, undef, undef, undef, undef, undef, undef, undef, undef, undef, undef, undef, undef, undef, undef, undef, undef, undef, undef, undef, undef, undef, undef, undef, undef, undef, undef, undef, undef, undef, undef, undef, undef, undef, undef, undef, undef, undef, undef, undef, undef, undef, undef, undef, undef, undef, undef, undef, undef, undef, undef, undef, undef, undef, undef, undef, undef, undef, undef, undef, undef, undef, undef, undef, undef, undef, undef, undef, undef, undef, undef, undef, undef, undef, undef, undef, undef, undef, undef, undef, undef, undef, undef, undef, undef, undef, undef, undef, undef, undef, undef, undef, undef, undef, undef, undef, undef, undef, undef, undef, undef, undef, undef, undef, undef, undef, undef, undef, undef, undef, undef, undef, undef, undef, undef, undef, undef, undef, undef, undef, undef, undef, undef, undef, undef, undef, undef, undef, undef, undef, undef, undef, undef, undef, undef, undef, undef, undef, undef, undef], []⟩ ∧ (∀ j, j < 8 → L (yI j) = true → Y j = vyL X lA tA mA kA hA lc tc mc kc hc w.heap.size j) ∧ CI w1 5 (RowL w1 X) zS (fun k => L (cI k)) (fun k => L (13 + k)) (fun k => L (18 + k)) V Pt wx) ?_ ?_ ?_
      · exact ⟨fun _ => undef, fun _ => undef, fun _ => undef, rfl, (fun j _ h => by cases h), CI.zero _ _ _ _ _ _ ((Below.refl _ _).drew)⟩
      · rintro L ax wx ⟨V, Pt, Y, rfl, hY, hCI⟩ i oi hoi hLi hdep
        have hbx := hCI.bel
        have HB2x := Lib.hid (HB2.out.trans (hbx.mono HB2.out.size))
        match i, hoi, hLi, hdep with
        | 0, hoi, hLi, hdep =>
          injection hoi with hoi
          subst hoi
          (try simp [Region.binds] at hdep)
          obtain ⟨k1, k2, k3, k4, k5, k6, k7, k8, k9, k10⟩ := HCW.out wx hbx
          refine wpOp_step rfl (fun K hK => ?_)
          go_simp
          try simp only [Act.put, List.setIfInBounds_toArray, List.set_cons_zero, List.set_cons_succ]
          exact hK _ _ ⟨V, Pt, updV Y 0 ((vyL X lA tA mA kA hA lc tc mc kc hc w.heap.size) 0), rfl, y_load (k := 0) (by omega) hY, ci_load (k := 0) (by omega) hCI⟩
        | 1, hoi, hLi, hdep =>
          injection hoi with hoi
          subst hoi
          simp [Region.binds] at hdep
          have hy : Y 0 = Value.slice lA X.n lc := hY 0 (by omega) hdep
          refine wpOp_step rfl (fun K hK => ?_)
          rw [hy]
          go_simp
          refine (Li.ownC_any lA X.n lc X.R vw vl wx HF.out.l1 HF.out.l2 HF.out.l3 (HA.out.l.below HB2x.out) HF.out.l4).mono ?_
          rintro e w5 ⟨v5, vw5, vl5, rfl, hO5, hb5⟩
          obtain ⟨A5, c5, rfl, -, -, -⟩ := own_any hO5.row
          exact hK _ _ ⟨updV V 0 (.slice A5 X.n c5), Pt, updV Y 0 ((vyL X lA tA mA kA hA lc tc mc kc hc w.heap.size) 0), rfl, y_upd 0 (fun j hj => (yI_c j hj 0 (by omega)).1) hY, ci_call (k := 0) (by omega) (CI.call (k := 0) HFM.out hCI (by omega) hLi hb5 (LinkRow.of hO5 hbx.size) (fun b hb => by rw [blk_slice] at hb; exact (hO5.row.lt b hb).1))⟩
        | 2, hoi, hLi, hdep =>
          injection hoi with hoi
          subst hoi
          (try simp [Region.binds] at hdep)
          obtain ⟨k1, k2, k3, k4, k5, k6, k7, k8, k9, k10⟩ := HCW.out wx hbx
          refine wpOp_step rfl (fun K hK => ?_)
          go_simp
          try simp only [Act.put, List.setIfInBounds_toArray, List.set_cons_zero, List.set_cons_succ]
          exact hK _ _ ⟨V, Pt, updV Y 1 ((vyL X lA tA mA kA hA lc tc mc kc hc w.heap.size) 1), rfl, y_load (k := 1) (by omega) hY, ci_load (k := 1) (by omega) hCI⟩
        | 3, hoi, hLi, hdep =>
          injection hoi with hoi
          subst hoi
          (try simp [Region.binds] at hdep)
          obtain ⟨k1, k2, k3, k4, k5, k6, k7, k8, k9, k10⟩ := HCW.out wx hbx
          have hy := hY 1 (by omega) hdep
          have hy' : Y 1 = .pointer (some ⟨w.heap.size + 1, 1, none⟩) := hy
          refine wpOp_step rfl (fun K hK => ?_)
          rw [hy']
          go_simp
          try simp only [Act.put, List.setIfInBounds_toArray, List.set_cons_zero, List.set_cons_succ]
          exact hK _ _ ⟨V, Pt, updV (updV Y 1 ((vyL X lA tA mA kA hA lc tc mc kc hc w.heap.size) 1)) 2 ((vyL X lA tA mA kA hA lc tc mc kc hc w.heap.size) 2), rfl, by rw [updV_same (hY 1 (by omega) hdep)]; exact y_load (k := 2) (by omega) hY, ci_load (k := 2) (by omega) hCI⟩
        | 4, hoi, hLi, hdep =>
          injection hoi with hoi
          subst hoi
          simp [Region.binds] at hdep
          have hy : Y 2 = Value.slice tA X.du.length tc := hY 2 (by omega) hdep.1
          refine wpOp_step rfl (fun K hK => ?_)
          rw [hy]
          go_simp
          refine (Ti.cloneD_any tA tc X.du wx (HA.out.t.below HB2x.out) HF.out.t3).mono ?_
          rintro e w5 ⟨A5, c5, rfl, hO5, hb5⟩
          exact hK _ _ ⟨updV V 1 (.slice A5 X.du.length c5), Pt, updV Y 2 ((vyL X lA tA mA kA hA lc tc mc kc hc w.heap.size) 2), rfl, y_upd 2 (fun j hj => (yI_c j hj 1 (by omega)).1) hY, ci_call (k := 1) (by omega) (CI.call (k := 1) HFM.out hCI (by omega) hLi hb5 ⟨A5, c5, rfl, hO5.mono hbx.size⟩ (fun b hb => by rw [blk_slice] at hb; exact (hO5.blk b hb).1))⟩
        | 5, hoi, hLi, hdep =>
          injection hoi with hoi
          subst hoi
          (try simp [Region.binds] at hdep)
          obtain ⟨k1, k2, k3, k4, k5, k6, k7, k8, k9, k10⟩ := HCW.out wx hbx
          refine wpOp_step rfl (fun K hK => ?_)
          go_simp
          try simp only [Act.put, List.setIfInBounds_toArray, List.set_cons_zero, List.set_cons_succ]
          exact hK _ _ ⟨V, Pt, updV Y 3 ((vyL X lA tA mA kA hA lc tc mc kc hc w.heap.size) 3), rfl, y_load (k := 3) (by omega) hY, ci_load (k := 3) (by omega) hCI⟩
        | 6, hoi, hLi, hdep =>
          injection hoi with hoi
          subst hoi
          simp [Region.binds] at hdep
          have hy : Y 3 = Value.slice mA X.m mc := hY 3 (by omega) hdep.1
          refine wpOp_step rfl (fun K hK => ?_)
          rw [hy]
          go_simp
          refine (Lm.cloneL mA X.m mc (Lm.rowC X.L) wx (HA.out.m.below HB2x.out) (fun k => rfl) (fun k u hu => by simp [Lm.rowC] at hu; rcases hu with rfl | rfl | rfl | rfl | rfl <;> rfl) HF.out.m4 (by have := HF.out.m3; omega)).mono ?_
          rintro e w5 ⟨v5, rfl, hO5, hb5⟩
          obtain ⟨A5, c5, rfl, -, -, -⟩ := own_any hO5
          exact hK _ _ ⟨updV V 2 (.slice A5 X.m c5), Pt, updV Y 3 ((vyL X lA tA mA kA hA lc tc mc kc hc w.heap.size) 3), rfl, y_upd 3 (fun j hj => (yI_c j hj 2 (by omega)).1) hY, ci_call (k := 2) (by omega) (CI.call (k := 2) HFM.out hCI (by omega) hLi hb5 ⟨A5, c5, rfl, own_mono hO5 hbx.size⟩ (fun b hb => by rw [blk_slice] at hb; exact (hO5.lt b hb).1))⟩
        | 7, hoi, hLi, hdep =>
          injection hoi with hoi
          subst hoi
          (try simp [Region.binds] at hdep)
          obtain ⟨k1, k2, k3, k4, k5, k6, k7, k8, k9, k10⟩ := HCW.out wx hbx
          refine wpOp_step rfl (fun K hK => ?_)
          go_simp
          try simp only [Act.put, List.setIfInBounds_toArray, List.set_cons_zero, List.set_cons_succ]
          exact hK _ _ ⟨V, Pt, updV Y 4 ((vyL X lA tA mA kA hA lc tc mc kc hc w.heap.size) 4), rfl, y_load (k := 4) (by omega) hY, ci_load (k := 4) (by omega) hCI⟩
        | 8, hoi, hLi, hdep =>
          injection hoi with hoi
          subst hoi
          (try simp [Region.binds] at hdep)
          obtain ⟨k1, k2, k3, k4, k5, k6, k7, k8, k9, k10⟩ := HCW.out wx hbx
          have hy := hY 4 (by omega) hdep
          have hy' : Y 4 = .pointer (some ⟨w.heap.size + 1 + 1 + 1 + 1, 3, none⟩) := hy
          refine wpOp_step rfl (fun K hK => ?_)
          rw [hy']
          go_simp
          try simp only [Act.put, List.setIfInBounds_toArray, List.set_cons_zero, List.set_cons_succ]
          exact hK _ _ ⟨V, Pt, updV (updV Y 4 ((vyL X lA tA mA kA hA lc tc mc kc hc w.heap.size) 4)) 5 ((vyL X lA tA mA kA hA lc tc mc kc hc w.heap.size) 5), rfl, by rw [updV_same (hY 4 (by omega) hdep)]; exact y_load (k := 5) (by omega) hY, ci_load (k := 5) (by omega) hCI⟩
        | 9, hoi, hLi, hdep =>
          injection hoi with hoi
          subst hoi
          simp [Region.binds] at hdep
          have hy : Y 5 = Value.slice kA X.k kc := hY 5 (by omega) hdep.1
          refine wpOp_step rfl (fun K hK => ?_)
          rw [hy]
          go_simp
          refine (Wa.cloneCh kA X.k kc (Wa.chC X.C) wx (HA.out.k.below HB2x.out) (fun k => rfl) (fun k u hu => by simp [Wa.chC] at hu; rcases hu with rfl | rfl | rfl <;> rfl) HF.out.k4 (by have := HF.out.k3; omega)).mono ?_
          rintro e w5 ⟨v5, rfl, hO5, hb5⟩
          obtain ⟨A5, c5, rfl, -, -, -⟩ := own_any hO5
          exact hK _ _ ⟨updV V 3 (.slice A5 X.k c5), Pt, updV Y 5 ((vyL X lA tA mA kA hA lc tc mc kc hc w.heap.size) 5), rfl, y_upd 5 (fun j hj => (yI_c j hj 3 (by omega)).1) hY, ci_call (k := 3) (by omega) (CI.call (k := 3) HFM.out hCI (by omega) hLi hb5 ⟨A5, c5, rfl, own_mono hO5 hbx.size⟩ (fun b hb => by rw [blk_slice] at hb; exact (hO5.lt b hb).1))⟩
        | 10, hoi, hLi, hdep =>
          injection hoi with hoi
          subst hoi
          (try simp [Region.binds] at hdep)
          obtain ⟨k1, k2, k3, k4, k5, k6, k7, k8, k9, k10⟩ := HCW.out wx hbx
          refine wpOp_step rfl (fun K hK => ?_)
          go_simp
          try simp only [Act.put, List.setIfInBounds_toArray, List.set_cons_zero, List.set_cons_succ]
          exact hK _ _ ⟨V, Pt, updV Y 6 ((vyL X lA tA mA kA hA lc tc mc kc hc w.heap.size) 6), rfl, y_load (k := 6) (by omega) hY, ci_load (k := 6) (by omega) hCI⟩
        | 11, hoi, hLi, hdep =>
          injection hoi with hoi
          subst hoi
          (try simp [Region.binds] at hdep)
          obtain ⟨k1, k2, k3, k4, k5, k6, k7, k8, k9, k10⟩ := HCW.out wx hbx
          have hy := hY 6 (by omega) hdep
          have hy' : Y 6 = .pointer (some ⟨w.heap.size + 1 + 1 + 1 + 1, 4, none⟩) := hy
          refine wpOp_step rfl (fun K hK => ?_)
          rw [hy']
          go_simp
          try simp only [Act.put, List.setIfInBounds_toArray, List.set_cons_zero, List.set_cons_succ]
          exact hK _ _ ⟨V, Pt, updV (updV Y 6 ((vyL X lA tA mA kA hA lc tc mc kc hc w.heap.size) 6)) 7 ((vyL X lA tA mA kA hA lc tc mc kc hc w.heap.size) 7), rfl, by rw [updV_same (hY 6 (by omega) hdep)]; exact y_load (k := 7) (by omega) hY, ci_load (k := 7) (by omega) hCI⟩
        | 12, hoi, hLi, hdep =>
          injection hoi with hoi
          subst hoi
          simp [Region.binds] at hdep
          have hy : Y 7 = Value.slice hA X.ts.length hc := hY 7 (by omega) hdep.1
          refine wpOp_step rfl (fun K hK => ?_)
          rw [hy]
          go_simp
          refine (cloneInt hA X.ts.length hc (tmC (lst X.ts)) wx (HA.out.h.below HB2x.out) (fun k => rfl) (tmC_one _) HF.out.h4 (by have := HF.out.h3; omega)).mono ?_
          rintro e w5 ⟨v5, rfl, hO5, hb5⟩
          rw [flatC_lst] at hO5
          obtain ⟨A5, c5, rfl, -, -, -⟩ := own_any hO5
          exact hK _ _ ⟨updV V 4 (.slice A5 X.ts.length c5), Pt, updV Y 7 ((vyL X lA tA mA kA hA lc tc mc kc hc w.heap.size) 7), rfl, y_upd 7 (fun j hj => (yI_c j hj 4 (by omega)).1) hY, ci_call (k := 4) (by omega) (CI.call (k := 4) HFM.out hCI (by omega) hLi hb5 ⟨A5, c5, rfl, own_mono hO5 hbx.size⟩ (fun b hb => by rw [blk_slice] at hb; exact (hO5.lt b hb).1))⟩
        | 13, hoi, hLi, hdep =>
          injection hoi with hoi
          subst hoi
          refine wpOp_step rfl (fun K hK => ?_)
          go_simp
          try simp only [Act.put, List.setIfInBounds_toArray, List.set_cons_zero, List.set_cons_succ]
          exact hK _ _ ⟨V, updV Pt 0 (.pointer (some ⟨wx.heap.size, 0, none⟩)), Y, rfl, y_other (fun j hj => (yI_c j hj 0 (by omega)).2.1) hY, ci_alloc (k := 0) (by omega) (CI.alloc (k := 0) HFM.out hCI (by omega) hLi 22)⟩
        | 14, hoi, hLi, hdep =>
          injection hoi with hoi
          subst hoi
          refine wpOp_step rfl (fun K hK => ?_)
          go_simp
          try simp only [Act.put, List.setIfInBounds_toArray, List.set_cons_zero, List.set_cons_succ]
          exact hK _ _ ⟨V, updV Pt 1 (.pointer (some ⟨wx.heap.size, 0, none⟩)), Y, rfl, y_other (fun j hj => (yI_c j hj 1 (by omega)).2.1) hY, ci_alloc (k := 1) (by omega) (CI.alloc (k := 1) HFM.out hCI (by omega) hLi 23)⟩
        | 15, hoi, hLi, hdep =>
          injection hoi with hoi
          subst hoi
          refine wpOp_step rfl (fun K hK => ?_)
          go_simp
          try simp only [Act.put, List.setIfInBounds_toArray, List.set_cons_zero, List.set_cons_succ]
          exact hK _ _ ⟨V, updV Pt 2 (.pointer (some ⟨wx.heap.size, 0, none⟩)), Y, rfl, y_other (fun j hj => (yI_c j hj 2 (by omega)).2.1) hY, ci_alloc (k := 2) (by omega) (CI.alloc (k := 2) HFM.out hCI (by omega) hLi 28)⟩
        | 16, hoi, hLi, hdep =>
          injection hoi with hoi
          subst hoi
          refine wpOp_step rfl (fun K hK => ?_)
          go_simp
          try simp only [Act.put, List.setIfInBounds_toArray, List.set_cons_zero, List.set_cons_succ]
          exact hK _ _ ⟨V, updV Pt 3 (.pointer (some ⟨wx.heap.size, 0, none⟩)), Y, rfl, y_other (fun j hj => (yI_c j hj 3 (by omega)).2.1) hY, ci_alloc (k := 3) (by omega) (CI.alloc (k := 3) HFM.out hCI (by omega) hLi 29)⟩
        | 17, hoi, hLi, hdep =>
          injection hoi with hoi
          subst hoi
          refine wpOp_step rfl (fun K hK => ?_)
          go_simp
          try simp only [Act.put, List.setIfInBounds_toArray, List.set_cons_zero, List.set_cons_succ]
          exact hK _ _ ⟨V, updV Pt 4 (.pointer (some ⟨wx.heap.size, 0, none⟩)), Y, rfl, y_other (fun j hj => (yI_c j hj 4 (by omega)).2.1) hY, ci_alloc (k := 4) (by omega) (CI.alloc (k := 4) HFM.out hCI (by omega) hLi 30)⟩
        | 18, hoi, hLi, hdep =>
          injection hoi with hoi
          subst hoi
          simp [Region.binds] at hdep
          have hca : L 1 = true ∧ L 13 = true := ⟨hdep.2.1, hdep.1⟩
          have hrk := hCI.row 0 (by omega) hca.1
          obtain ⟨Ak, ck, hvk⟩ : ∃ A c, V 0 = .slice A X.n c := by
            obtain ⟨A, c, _, _, e, _⟩ := hrk
            exact ⟨A, c, e⟩
          obtain ⟨bk, hpk, -, hltk, hck, hfk⟩ := hCI.box 0 (by omega) hca.2
          have hsl : ∃ A n c, (if L (18) = true then V 0 else zS 0) = Value.slice A n c := by
            split
            · exact ⟨_, _, _, hvk⟩
            · exact ⟨_, _, _, rfl⟩
          refine wpOp_step rfl (fun K hK => ?_)
          rw [hpk, hvk]
          go_simp
          try simp only [Act.put, List.setIfInBounds_toArray, List.set_cons_zero, List.set_cons_succ]
          refine hK _ _ ⟨updV V 0 (.slice Ak X.n ck), updV Pt 0 (.pointer (some ⟨bk, 0, none⟩)), Y, rfl, y_other (fun j hj => (yI_c j hj 0 (by omega)).2.2) hY, ?_⟩
          rw [updV_same hvk, updV_same hpk, ← hvk]
          exact ci_store (k := 0) (by omega) (CI.store (k := 0) HFM.out hCI (by omega) hca.1 hca.2 hpk hsl)
        | 19, hoi, hLi, hdep =>
          injection hoi with hoi
          subst hoi
          simp [Region.binds] at hdep
          have hca : L 4 = true ∧ L 14 = true := ⟨hdep.2.1, hdep.1⟩
          have hrk := hCI.row 1 (by omega) hca.1
          obtain ⟨Ak, ck, hvk⟩ : ∃ A c, V 1 = .slice A X.du.length c := by
            obtain ⟨A, c, e, _⟩ := hrk
            exact ⟨A, c, e⟩
          obtain ⟨bk, hpk, -, hltk, hck, hfk⟩ := hCI.box 1 (by omega) hca.2
          have hsl : ∃ A n c, (if L (19) = true then V 1 else zS 1) = Value.slice A n c := by
            split
            · exact ⟨_, _, _, hvk⟩
            · exact ⟨_, _, _, rfl⟩
          refine wpOp_step rfl (fun K hK => ?_)
          rw [hpk, hvk]
          go_simp
          try simp only [Act.put, List.setIfInBounds_toArray, List.set_cons_zero, List.set_cons_succ]
          refine hK _ _ ⟨updV V 1 (.slice Ak X.du.length ck), updV Pt 1 (.pointer (some ⟨bk, 0, none⟩)), Y, rfl, y_other (fun j hj => (yI_c j hj 1 (by omega)).2.2) hY, ?_⟩
          rw [updV_same hvk, updV_same hpk, ← hvk]
          exact ci_store (k := 1) (by omega) (CI.store (k := 1) HFM.out hCI (by omega) hca.1 hca.2 hpk hsl)
        | 20, hoi, hLi, hdep =>
          injection hoi with hoi
          subst hoi
          simp [Region.binds] at hdep
          have hca : L 6 = true ∧ L 15 = true := ⟨hdep.2.1, hdep.1⟩
          have hrk := hCI.row 2 (by omega) hca.1
          obtain ⟨Ak, ck, hvk⟩ : ∃ A c, V 2 = .slice A X.m c := by
            obtain ⟨A, c, e, _⟩ := hrk
            exact ⟨A, c, e⟩
          obtain ⟨bk, hpk, -, hltk, hck, hfk⟩ := hCI.box 2 (by omega) hca.2
          have hsl : ∃ A n c, (if L (20) = true then V 2 else zS 2) = Value.slice A n c := by
            split
            · exact ⟨_, _, _, hvk⟩
            · exact ⟨_, _, _, rfl⟩
          refine wpOp_step rfl (fun K hK => ?_)
          rw [hpk, hvk]
          go_simp
          try simp only [Act.put, List.setIfInBounds_toArray, List.set_cons_zero, List.set_cons_succ]
          refine hK _ _ ⟨updV V 2 (.slice Ak X.m ck), updV Pt 2 (.pointer (some ⟨bk, 0, none⟩)), Y, rfl, y_other (fun j hj => (yI_c j hj 2 (by omega)).2.2) hY, ?_⟩
          rw [updV_same hvk, updV_same hpk, ← hvk]
          exact ci_store (k := 2) (by omega) (CI.store (k := 2) HFM.out hCI (by omega) hca.1 hca.2 hpk hsl)
        | 21, hoi, hLi, hdep =>
          injection hoi with hoi
          subst hoi
          simp [Region.binds] at hdep
          have hca : L 9 = true ∧ L 16 = true := ⟨hdep.2.1, hdep.1⟩
          have hrk := hCI.row 3 (by omega) hca.1
          obtain ⟨Ak, ck, hvk⟩ : ∃ A c, V 3 = .slice A X.k c := by
            obtain ⟨A, c, e, _⟩ := hrk
            exact ⟨A, c, e⟩
          obtain ⟨bk, hpk, -, hltk, hck, hfk⟩ := hCI.box 3 (by omega) hca.2
          have hsl : ∃ A n c, (if L (21) = true then V 3 else zS 3) = Value.slice A n c := by
            split
            · exact ⟨_, _, _, hvk⟩
            · exact ⟨_, _, _, rfl⟩
          refine wpOp_step rfl (fun K hK => ?_)
          rw [hpk, hvk]
          go_simp
          try simp only [Act.put, List.setIfInBounds_toArray, List.set_cons_zero, List.set_cons_succ]
          refine hK _ _ ⟨updV V 3 (.slice Ak X.k ck), updV Pt 3 (.pointer (some ⟨bk, 0, none⟩)), Y, rfl, y_other (fun j hj => (yI_c j hj 3 (by omega)).2.2) hY, ?_⟩
          rw [updV_same hvk, updV_same hpk, ← hvk]
          exact ci_store (k := 3) (by omega) (CI.store (k := 3) HFM.out hCI (by omega) hca.1 hca.2 hpk hsl)
        | 22, hoi, hLi, hdep =>
          injection hoi with hoi
          subst hoi
          simp [Region.binds] at hdep
          have hca : L 12 = true ∧ L 17 = true := ⟨hdep.2.1, hdep.1⟩
          have hrk := hCI.row 4 (by omega) hca.1
          obtain ⟨Ak, ck, hvk⟩ : ∃ A c, V 4 = .slice A X.ts.length c := by
            obtain ⟨A, c, e, _⟩ := hrk
            exact ⟨A, c, e⟩
          obtain ⟨bk, hpk, -, hltk, hck, hfk⟩ := hCI.box 4 (by omega) hca.2
          have hsl : ∃ A n c, (if L (22) = true then V 4 else zS 4) = Value.slice A n c := by
            split
            · exact ⟨_, _, _, hvk⟩
            · exact ⟨_, _, _, rfl⟩
          refine wpOp_step rfl (fun K hK => ?_)
          rw [hpk, hvk]
          go_simp
          try simp only [Act.put, List.setIfInBounds_toArray, List.set_cons_zero, List.set_cons_succ]
          refine hK _ _ ⟨updV V 4 (.slice Ak X.ts.length ck), updV Pt 4 (.pointer (some ⟨bk, 0, none⟩)), Y, rfl, y_other (fun j hj => (yI_c j hj 4 (by omega)).2.2) hY, ?_⟩
          rw [updV_same hvk, updV_same hpk, ← hvk]
          exact ci_store (k := 4) (by omega) (CI.store (k := 4) HFM.out hCI (by omega) hca.1 hca.2 hpk hsl)
        | k + 23, hoi, hLi, hdep => cases hoi
      · rintro L ax wx ⟨V, Pt, Y, rfl, hY, hCI⟩ hall
        go_wp2_with fail
        go_meet
        exact ⟨V, Pt, rfl, rfl, rfl, rfl, rfl, hCI.congr (fun j hj => by rw [hall]; revert j; decide) (fun j hj => by rw [hall]; omega) (fun j hj => by rw [hall]; omega)⟩
  case rest =>
  obtain ⟨V, Pt, rfl, rfl, rfl, rfl, rfl, hCI⟩ := hcut
  have hbc := hCI.bel
  have HB2C := Lib.hid (HB2.out.trans (hbc.mono HB2.out.size))
  have HBC := Lib.hid hbc
  obtain ⟨b17, e17, -, -, x17, -⟩ := hCI.box 0 (by omega) rfl
  obtain ⟨b18, e18, -, -, x18, -⟩ := hCI.box 1 (by omega) rfl
  obtain ⟨b19, e19, -, -, x19, -⟩ := hCI.box 2 (by omega) rfl
  obtain ⟨b20, e20, -, -, x20, -⟩ := hCI.box 3 (by omega) rfl
  obtain ⟨b21, e21, -, -, x21, -⟩ := hCI.box 4 (by omega) rfl
  rw [if_pos rfl] at x17 x18 x19 x20 x21
  have HX := Lib.hid (And.intro x17 (And.intro x18 (And.intro x19 (And.intro x20 x21))))
  have HRW := Lib.hid (show LinksAt wc X (V 0) ∧ DuesAt wc X (V 1) ∧ CapsAt wc X (V 2) ∧ KidsAt wc X (V 3) ∧ TimesAt wc X (V 4) from by
    refine ⟨LinkRow.at (hCI.row 0 (by omega) rfl), ?_, ?_, ?_, ?_⟩
    · obtain ⟨A, c, e, hO⟩ := hCI.row 1 (by omega) rfl
      rw [e] at hO ⊢
      exact ⟨A, c, rfl, Ti.Sd.of_own hO⟩
    · obtain ⟨A, c, e, hO⟩ := hCI.row 2 (by omega) rfl
      rw [e] at hO ⊢
      obtain ⟨A', c', e', h1, h2, _⟩ := own_any hO
      injection e' with e1 _ e3
      subst e1 e3
      exact ⟨_, _, rfl, h1, h2, Rd.of_own (fun k => rfl) hO⟩
    · obtain ⟨A, c, e, hO⟩ := hCI.row 3 (by omega) rfl
      rw [e] at hO ⊢
      obtain ⟨A', c', e', h1, h2, _⟩ := own_any hO
      injection e' with e1 _ e3
      subst e1 e3
      exact ⟨_, _, rfl, h1, h2, Rd.of_own (fun k => rfl) hO⟩
    · obtain ⟨A, c, e, hO⟩ := hCI.row 4 (by omega) rfl
      rw [e] at hO ⊢
      exact ⟨A, c, rfl, hO.rd⟩)
  obtain ⟨-, -, -, k4, -, -, -, -, -, -⟩ := HCW.out wc hbc
  have k4l := World.block_lt_of_cell? wc _ k4
  rw [e17, e18, e19, e20, e21]
  clear hCI hbc x17 x18 x19 x20 x21 e17 e18 e19 e20 e21
  go_wp2_with fail
  clear k4 k4l
  obtain ⟨i0, hi, hz0, hz1, hz2⟩ := info_parts St.infoS
  go_loopw [24, 90] (fun _ x wr => ∃ (i : Nat) (v : Value) (vs : Nat → Value), i ≤ X.q ∧ x = .int .i64 i ∧ wr.cell? ⟨wc.heap.size, 0, none⟩ = some v ∧ wr.frozen? ⟨wc.heap.size, 0, none⟩ = false ∧ St.OwnLs wr (wc.heap.size + 1) v vs i X.Q ∧ Below wc.heap.size wc wr ∧ wc.heap.size < wr.heap.size) (fun _ x _ => X.q - (intOf x).toNat)
  case atStart =>
    exact ⟨0, _, _, Nat.zero_le _, rfl, by simp, by simp [go_sem], St.OwnLs.nil _ _ _, (Below.refl _ _).alloc (Nat.le_refl _) _, by simp⟩
  case round =>
    obtain ⟨i, v, vs, hin, rfl, hcv, hfv, hO, hB, hzr⟩ := hrel
    have HO := Lib.hid hO
    have HB := Lib.hid hB
    have HFV := Lib.hid hfv
    obtain ⟨Ao, co, rfl, hnco, hcmo, _⟩ := own_any hO.row
    by_cases hlt : i < X.q
    · have hq0 : 0 < X.q := by omega
      obtain ⟨b, off, hsA, hb, hSb, hcell⟩ := (HA.out.s.below (HB2C.out.trans (hB.mono HB2C.out.size))) hq0
      obtain ⟨qA, qc, h1, h2, h3, h4, h5⟩ := hcell i hlt
      have HQ := Lib.hid ((h5.below ((Below.refl _ _).drew)).rd)
      have H4 := Lib.hid h4
      have hql := (HF.out.s4 i hlt).1
      have hs3 := HF.out.s3
      have q0 : wr.drew.cell? ⟨wc.heap.size, 0, none⟩ = some (.slice Ao i co) := hcv
      have HSA := Lib.hid hsA
      rw [hsA]
      clear hO hB hcell h5 h4 hfv hsA
      go_wp2_with fail
      go_region_law
        (first
          | (refine step_call1 (by rfl) 9 (fun _ _ => by kernel_rfl) _ _ (by rfl) (.slice qA (X.Q i).length qc) (by simp [Act.eval, Act.put]) (cloneInt qA (X.Q i).length qc (tmC (lst (X.Q i))) _ HQ.out (tmC_len _) (tmC_one _) H4.out (by omega)) ?_; rintro e w1 ⟨v1, rfl, hown1, hb1⟩; refine ⟨_, rfl, ?_⟩; rw [flatC_lst] at hown1; have HO1 := Lib.hid (show OwnI w1 wr.heap.size v1 (X.Q i) from hown1); have HB1 := Lib.hid (show Below wr.heap.size wr w1 from ((Below.refl _ _).drew).trans hb1); obtain ⟨A1, c1, rfl, _, _, _⟩ := own_any hown1; have hz1' := HB1.out.size; have uz : wc.heap.size < w1.heap.size := (by omega); have u0 := (HB1.out.cell (p := ⟨wc.heap.size, 0, none⟩) hzr).trans hcv; have HR1 := Lib.hid (own_keep HO.out.row HB1.out); clear hown1 hb1)
          | (refine step_append_lies _ (by rfl) _ _ _ (by rfl) (wc.heap.size + 1) 30 i0 _ 1 24 Try.underlying27 hi hz0 hz1 hz2 rfl (by omega) (.slice Ao i co) i (flatC (St.vsC vs) i) (by rfl) (HR1.out.alloc _) ⟨w1.heap.size, 0, none⟩ 1 1 [.slice A1 (X.Q i).length c1] (by rfl) (by rfl) (cell_one_new _ _ _) (St.one_slice _ _ _) (by omega) (by unfold maxLen; omega) (by omega) (by simp; omega) (w1.heap.size + 1) (by simp) ?_; intro g cap w5 hown5 hgrow5 hat5 hlt5; have HO5 := Lib.hid hown5; have HG5 := Lib.hid hgrow5; have HA5 := Lib.hid hat5; have hzz : wc.heap.size < (w1.alloc (.cells #[.slice A1 (X.Q i).length c1] 30)).heap.size := (by simp; omega); have hneb : some wc.heap.size ≠ (Value.slice Ao i co).ownBlock := (fun e => by have := (HO.out.row.lt _ e.symm).1; omega); have x0 := (grown_cell (b := wc.heap.size) (o := 0) hgrow5 hzz hneb).trans ((World.cell?_alloc_lt _ _ ⟨wc.heap.size, 0, none⟩ (by show wc.heap.size < w1.heap.size; omega)).trans u0); have f0 : w5.frozen? ⟨wc.heap.size, 0, none⟩ = false := (grown_frozen (b := wc.heap.size) (o := 0) hgrow5 hzz hneb).trans ((grown_frozen (b := wc.heap.size) (o := 0) (World.grownBy_alloc w1 _ none) (by omega) (by simp)).trans ((grown_frozen (b := wc.heap.size) (o := 0) (grown_below (g := none) HB1.out) hzr (by simp)).trans HFV.out)); have hz5 : wc.heap.size < w5.heap.size := Nat.lt_of_lt_of_le hzz hgrow5.size; clear hown5 hgrow5 hat5 hzz))
      all_goals
        try simp only [Act.put, List.getElem_toArray, List.getElem_cons_zero, List.getElem_cons_succ, List.setIfInBounds_toArray, List.set_cons_zero, List.set_cons_succ]
        go_wp2_with fail
        have hsn := HO.out.snoc (by omega) HB1.out HO1.out HG5.out (by
          rcases HA5.out with h | h
          · exact .inl h.symm
          · exact .inr (by rw [h]; show some (w1.heap.size + 1) = _; simp)) HO5.out
        have hgs : w5.grownBy (w5.setCell ⟨wc.heap.size, 0, none⟩ (.slice (some ⟨g, 0, none⟩) (i + 1) cap)) (some wc.heap.size) := grown_set (grown_self _ _) _
        refine ⟨⟨i + 1, _, _, by omega, by go_num, by simp [go_sem, x0], by simpa [go_sem] using f0, hsn.grown hgs (fun k hk e => by injection e with e; have := (hsn.row.lt k hk).1; omega) (fun j hj k hk e => by injection e with e; have := ((hsn.each j hj).blk k hk).1; omega), ?_, by simpa [go_sem] using hz5⟩, by simp [intOf]; omega⟩
        exact below_set (below_grown ((HB.out.trans (HB1.out.mono (by omega))).alloc (by have := HB1.out.size; omega) _) (by simp; omega) HG5.out (fun k hk => by have := (HO.out.row.lt k hk).1; omega)) (by omega)
    · obtain rfl : i = X.q := by omega
      have hCV := hcv
      have HBW := Lib.hid (HBC.out.trans (hB.mono HBC.out.size))
      have HB2R := Lib.hid (HB2.out.trans (HBW.out.mono HB2.out.size))
      have HAR := Lib.hid (show ∀ W, Below wr.heap.size wr W → Below w.heap.size w W from fun W h => HB2R.out.trans (h.mono HB2R.out.size))
      have HLO := Lib.hid (show LoW wr X w.heap.size b17 (w.heap.size + 1) b18 (w.heap.size + 1 + 1 + 1) b19 (w.heap.size + 1 + 1 + 1 + 1) b20 b21 (w.heap.size + 1 + 1) wc.heap.size (.slice lA X.n lc) (V 0) (.slice tA X.du.length tc) (V 1) (.slice mA X.m mc) (V 2) (.slice kA X.k kc) (V 3) (.slice hA X.ts.length hc) (V 4) (.slice sA X.q sc) (.slice Ao X.q co) from by
        obtain ⟨q1, q2, q3, q4, q5, q6, q7, q8, q9, q10⟩ := HCW.out wr HBW.out
        obtain ⟨p17, p18, p19, p20, p21⟩ := HX.out
        obtain ⟨r0, r1, r2, r3, r4⟩ := HRW.out
        have k : ∀ {b o : Nat} {u : Value}, wc.cell? ⟨b, o, none⟩ = some u → wr.cell? ⟨b, o, none⟩ = some u := fun {b o u} h => (hB.cell (p := ⟨b, o, none⟩) (World.block_lt_of_cell? wc _ h)).trans h
        exact ⟨q1, k p17, q3, k p18, q5, k p19, q9, q10, k p20, k p21, q4, hCV, ⟨⟨_, _, _, _, rfl, HA.out.l.below HB2R.out⟩, r0.below hB⟩, ⟨⟨_, _, rfl, HA.out.t.below HB2R.out⟩, r1.below hB⟩, ⟨⟨_, _, rfl, HF.out.m1, HF.out.m2, HA.out.m.below HB2R.out⟩, r2.below hB⟩, ⟨⟨_, _, rfl, HF.out.k1, HF.out.k2, HA.out.k.below HB2R.out⟩, r3.below hB⟩, ⟨⟨_, _, rfl, HA.out.h.below HB2R.out⟩, r4.below hB⟩, ⟨_, _, _, rfl, HA.out.s.below HB2R.out⟩, ⟨_, _, _, rfl, hO.rd⟩⟩)
      have HSAME := Lib.hid (fun (W : World) (hb : Below wr.heap.size wr W) => same_any W X _ _ _ _ _ _ _ _ _ _ _ _ _ _ _ _ _ _ _ _ _ _ _ (HLO.out.below hb) (by have := HF.out.l3; omega) (by have := HF.out.h3; omega) (by have := HF.out.s3; omega))
      have HCR := Lib.hid (fun (W : World) (hb : Below wr.heap.size wr W) => HCW.out W (HBW.out.trans (hb.mono HBW.out.size)))
      obtain ⟨k1, -, -, -, -, -, -, -, -, -⟩ := HCR.out wr (Below.refl _ _)
      have k1l := World.block_lt_of_cell? wr _ k1
      clear hO hB hcv hfv hCV HB1 HC1 HB12 hzr
      clear hnco hcmo hi hz0 hz1 hz2 hin hlt
      go_wp2_with fail
      have HWQ := Lib.hid (show St.WfQ X.Q X.q from fun i hi => ⟨by have := (HF.out.s4 i hi).1; omega, (HF.out.s4 i hi).2⟩)
      refine (Li.watch_free lA X.n lc X.R vw vl other ref wr HF.out.l1 HF.out.l2 (HA.out.l.below HB2R.out)).mono ?_
      rintro e w_a ⟨va, xa, rfl, hR, hb⟩
      have HB_a := Lib.hid hb
      have HR_aa := Lib.hid (hR)
      clear k1 k1l hb hR
      obtain ⟨k1, -, -, -, -, -, -, -, -, -⟩ := HCR.out w_a HB_a.out
      have k1l := World.block_lt_of_cell? w_a _ k1
      go_wp2_with fail
      refine (Li.link_free lA X.n lc X.R vw vl ref other w_a HF.out.l1 HF.out.l2 (HA.out.l.below (HAR.out _ HB_a.out))).mono ?_
      rintro e w_b ⟨vb, xb, rfl, hR, hb⟩
      have HB_b := Lib.hid (HB_a.out.trans (hb.mono HB_a.out.size))
      have HR_ab := Lib.hid (HR_aa.out.below hb)
      have HR_bb := Lib.hid (hR.mono HB_a.out.size)
      clear HR_aa
      clear k1 k1l hb hR
      obtain ⟨k1, -, -, -, -, -, -, -, -, -⟩ := HCR.out w_b HB_b.out
      have k1l := World.block_lt_of_cell? w_b _ k1
      go_wp2_with fail
      refine (Li.gone_free lA X.n lc X.R vw vl ref true _ w_b HF.out.l1 HF.out.l2 (HA.out.l.below (HAR.out _ HB_b.out))).mono ?_
      rintro e w_c ⟨vc, uc, xc, rfl, hR, hb⟩
      have HB_c := Lib.hid (HB_b.out.trans (hb.mono HB_b.out.size))
      have HR_ac := Lib.hid (HR_ab.out.below hb)
      have HR_bc := Lib.hid (HR_bb.out.below hb)
      have HR_cc := Lib.hid (hR.mono HB_b.out.size)
      clear HR_ab HR_bb
      clear k1 k1l hb hR
      obtain ⟨-, k1, k2, -, -, -, -, -, -, -⟩ := HCR.out w_c HB_c.out
      have k1l := World.block_lt_of_cell? w_c _ k1
      go_wp2_with fail
      refine (Ti.set_free now0 tA tc X.du ref 1 w_c (HA.out.t.below (HAR.out _ HB_c.out))).mono ?_
      rintro e w_d ⟨td, vd, xd, rfl, hR, hb⟩
      have HB_d := Lib.hid (HB_c.out.trans (hb.mono HB_c.out.size))
      have HR_ad := Lib.hid (HR_ac.out.below hb)
      have HR_bd := Lib.hid (HR_bc.out.below hb)
      have HR_cd := Lib.hid (HR_cc.out.below hb)
      have hR0 := hR
      obtain ⟨Ad, nd, dd, rfl, -⟩ := hR0
      have HR_dd := Lib.hid (hR.mono HB_c.out.size)
      clear HR_ac HR_bc HR_cc
      clear k1 k2 k1l hb hR
      obtain ⟨W_d, hW⟩ : ∃ W_d, W_d = w_d.alloc (.cells #[.int .i64 td, .slice Ad nd dd] 25) := ⟨_, rfl⟩
      have HS_d := Lib.hid (show Below w_d.heap.size w_d W_d by rw [hW]; exact (Below.refl _ _).alloc (Nat.le_refl _) _)
      have HR_dxdX := Lib.hid (show TimB W_d w_d.heap.size Ad nd dd by rw [hW]; exact ⟨⟨td, by simp [go_sem], by simp [go_sem]⟩, by simp [go_sem]⟩)
      have HE_d := Lib.hid hW
      clear hW
      have HB_dX := Lib.hid (HB_d.out.trans (HS_d.out.mono HB_d.out.size))
      have HR_adX := Lib.hid (HR_ad.out.below HS_d.out)
      have HR_bdX := Lib.hid (HR_bd.out.below HS_d.out)
      have HR_cdX := Lib.hid (HR_cd.out.below HS_d.out)
      have HR_ddX := Lib.hid (HR_dd.out.below HS_d.out)
      clear HR_ad HR_bd HR_cd HR_dd
      obtain ⟨-, k1, k2, -, -, -, -, -, -, -⟩ := HCR.out w_d HB_d.out
      have k1l := World.block_lt_of_cell? w_d _ k1
      have k1m := Nat.lt_succ_of_lt k1l
      dsimp only [Nat.succ_eq_add_one] at k1m
      go_wp2_with fail
      clear k1m
      rw [← HE_d.out]
      clear HE_d
      refine (Ti.go_free now0 tA tc X.du 1 W_d (HA.out.t.below (HAR.out _ HB_dX.out))).mono ?_
      rintro e w_e ⟨te, ve, ue, xe, rfl, hR, hb⟩
      have HB_e := Lib.hid (HB_dX.out.trans (hb.mono HB_dX.out.size))
      have HR_ae := Lib.hid (HR_adX.out.below hb)
      have HR_be := Lib.hid (HR_bdX.out.below hb)
      have HR_ce := Lib.hid (HR_cdX.out.below hb)
      have HR_de := Lib.hid (HR_ddX.out.below hb)
      have HR_dxe := Lib.hid (HR_dxdX.out.below hb)
      have hR0 := hR
      obtain ⟨Ae, ne, de, rfl, -⟩ := hR0
      have HR_ee := Lib.hid (hR.mono HB_dX.out.size)
      clear HR_adX HR_bdX HR_cdX HR_ddX HR_dxdX
      clear k1 k2 k1l hb hR
      obtain ⟨W_e, hW⟩ : ∃ W_e, W_e = w_e.alloc (.cells #[.int .i64 te, .slice Ae ne de] 25) := ⟨_, rfl⟩
      have HS_e := Lib.hid (show Below w_e.heap.size w_e W_e by rw [hW]; exact (Below.refl _ _).alloc (Nat.le_refl _) _)
      have HR_exeX := Lib.hid (show TimB W_e w_e.heap.size Ae ne de by rw [hW]; exact ⟨⟨te, by simp [go_sem], by simp [go_sem]⟩, by simp [go_sem]⟩)
      have HE_e := Lib.hid hW
      clear hW
      have HB_eX := Lib.hid (HB_e.out.trans (HS_e.out.mono HB_e.out.size))
      have HR_aeX := Lib.hid (HR_ae.out.below HS_e.out)
      have HR_beX := Lib.hid (HR_be.out.below HS_e.out)
      have HR_ceX := Lib.hid (HR_ce.out.below HS_e.out)
      have HR_deX := Lib.hid (HR_de.out.below HS_e.out)
      have HR_dxeX := Lib.hid (HR_dxe.out.below HS_e.out)
      have HR_eeX := Lib.hid (HR_ee.out.below HS_e.out)
      clear HR_ae HR_be HR_ce HR_de HR_dxe HR_ee
      obtain ⟨-, -, -, k1, -, -, -, -, -, -⟩ := HCR.out w_e HB_e.out
      have k1l := World.block_lt_of_cell? w_e _ k1
      have k1m := Nat.lt_succ_of_lt k1l
      dsimp only [Nat.succ_eq_add_one] at k1m
      go_wp2_with fail
      clear k1m
      rw [← HE_e.out]
      clear HE_e
      refine (St.push_free sA X.q sc X.Q S other ref W_e HF.out.s1 HF.out.s2 (HA.out.s.below (HAR.out _ HB_eX.out)) HWQ.out).mono ?_
      rintro e w_f ⟨vf, xf, rfl, hR, hb⟩
      have HB_f := Lib.hid (HB_eX.out.trans (hb.mono HB_eX.out.size))
      have HR_af := Lib.hid (HR_aeX.out.below hb)
      have HR_bf := Lib.hid (HR_beX.out.below hb)
      have HR_cf := Lib.hid (HR_ceX.out.below hb)
      have HR_df := Lib.hid (HR_deX.out.below hb)
      have HR_dxf := Lib.hid (HR_dxeX.out.below hb)
      have HR_ef := Lib.hid (HR_eeX.out.below hb)
      have HR_exf := Lib.hid (HR_exeX.out.below hb)
      have HR_ff := Lib.hid (hR.mono HB_eX.out.size)
      clear HR_aeX HR_beX HR_ceX HR_deX HR_dxeX HR_eeX HR_exeX
      clear k1 k1l hb hR
      obtain ⟨-, -, -, k1, -, -, -, -, -, -⟩ := HCR.out w_f HB_f.out
      have k1l := World.block_lt_of_cell? w_f _ k1
      go_wp2_with fail
      refine (St.pop_free sA X.q sc X.Q S other w_f HF.out.s1 HF.out.s2 (HA.out.s.below (HAR.out _ HB_f.out)) HWQ.out).mono ?_
      rintro e w_g ⟨vg, yg, xg, rfl, hR, hb⟩
      have HB_g := Lib.hid (HB_f.out.trans (hb.mono HB_f.out.size))
      have HR_ag := Lib.hid (HR_af.out.below hb)
      have HR_bg := Lib.hid (HR_bf.out.below hb)
      have HR_cg := Lib.hid (HR_cf.out.below hb)
      have HR_dg := Lib.hid (HR_df.out.below hb)
      have HR_dxg := Lib.hid (HR_dxf.out.below hb)
      have HR_eg := Lib.hid (HR_ef.out.below hb)
      have HR_exg := Lib.hid (HR_exf.out.below hb)
      have HR_fg := Lib.hid (HR_ff.out.below hb)
      have HR_gg := Lib.hid (hR.mono HB_f.out.size)
      clear HR_af HR_bf HR_cf HR_df HR_dxf HR_ef HR_exf HR_ff
      clear k1 k1l hb hR
      obtain ⟨-, -, -, -, k1, -, -, -, -, -⟩ := HCR.out w_g HB_g.out
      have k1l := World.block_lt_of_cell? w_g _ k1
      go_wp2_with fail
      refine (Lm.take_free mA X.m mc X.L ref 1 1 w_g HF.out.m1 HF.out.m2 (HA.out.m.below (HAR.out _ HB_g.out))).mono ?_
      rintro e w_h ⟨vh, xh, rfl, hR, hb⟩
      have HB_h := Lib.hid (HB_g.out.trans (hb.mono HB_g.out.size))
      have HR_ah := Lib.hid (HR_ag.out.below hb)
      have HR_bh := Lib.hid (HR_bg.out.below hb)
      have HR_ch := Lib.hid (HR_cg.out.below hb)
      have HR_dh := Lib.hid (HR_dg.out.below hb)
      have HR_dxh := Lib.hid (HR_dxg.out.below hb)
      have HR_eh := Lib.hid (HR_eg.out.below hb)
      have HR_exh := Lib.hid (HR_exg.out.below hb)
      have HR_fh := Lib.hid (HR_fg.out.below hb)
      have HR_gh := Lib.hid (HR_gg.out.below hb)
      have HR_hh := Lib.hid (hR.mono HB_g.out.size)
      clear HR_ag HR_bg HR_cg HR_dg HR_dxg HR_eg HR_exg HR_fg HR_gg
      clear k1 k1l hb hR
      obtain ⟨-, -, -, -, k1, -, -, -, -, -⟩ := HCR.out w_h HB_h.out
      have k1l := World.block_lt_of_cell? w_h _ k1
      go_wp2_with fail
      refine (Lm.join_free mA X.m mc X.L ref other w_h HF.out.m1 HF.out.m2 (HA.out.m.below (HAR.out _ HB_h.out))).mono ?_
      rintro e w_i ⟨vi, xi, rfl, hR, hb⟩
      have HB_i := Lib.hid (HB_h.out.trans (hb.mono HB_h.out.size))
      have HR_ai := Lib.hid (HR_ah.out.below hb)
      have HR_bi := Lib.hid (HR_bh.out.below hb)
      have HR_ci := Lib.hid (HR_ch.out.below hb)
      have HR_di := Lib.hid (HR_dh.out.below hb)
      have HR_dxi := Lib.hid (HR_dxh.out.below hb)
      have HR_ei := Lib.hid (HR_eh.out.below hb)
      have HR_exi := Lib.hid (HR_exh.out.below hb)
      have HR_fi := Lib.hid (HR_fh.out.below hb)
      have HR_gi := Lib.hid (HR_gh.out.below hb)
      have HR_hi := Lib.hid (HR_hh.out.below hb)
      have HR_ii := Lib.hid (hR.mono HB_h.out.size)
      clear HR_ah HR_bh HR_ch HR_dh HR_dxh HR_eh HR_exh HR_fh HR_gh HR_hh
      clear k1 k1l hb hR
      obtain ⟨-, -, -, -, -, k1, k2, k3, k4, k5⟩ := HCR.out w_i HB_i.out
      have k1l := World.block_lt_of_cell? w_i _ k1
      go_wp2_with fail
      refine (Wa.down_free (⟨how, most, win, X.C, X.k, lst X.ts, X.ts.length⟩ : Wa.Wd) kA hA kc hc ref true now w_i (show Wa.ArgOk (⟨how, most, win, X.C, X.k, lst X.ts, X.ts.length⟩ : Wa.Wd) kA hA kc hc _ from ⟨HF.out.k1, HF.out.k2, HF.out.h1, HF.out.h2, HF.out.k4, HF.out.h4, HA.out.k.below (HAR.out _ HB_i.out), HA.out.h.below (HAR.out _ HB_i.out)⟩)).mono ?_
      rintro e w_j ⟨uj, Ap, np, dp, Aq, nq, dq, gj, xj, rfl, ⟨aj, bj, cj, vj, tj, rfl, hR, hT⟩, hb⟩
      have HB_j := Lib.hid (HB_i.out.trans (hb.mono HB_i.out.size))
      have HR_aj := Lib.hid (HR_ai.out.below hb)
      have HR_bj := Lib.hid (HR_bi.out.below hb)
      have HR_cj := Lib.hid (HR_ci.out.below hb)
      have HR_dj := Lib.hid (HR_di.out.below hb)
      have HR_dxj := Lib.hid (HR_dxi.out.below hb)
      have HR_ej := Lib.hid (HR_ei.out.below hb)
      have HR_exj := Lib.hid (HR_exi.out.below hb)
      have HR_fj := Lib.hid (HR_fi.out.below hb)
      have HR_gj := Lib.hid (HR_gi.out.below hb)
      have HR_hj := Lib.hid (HR_hi.out.below hb)
      have HR_ij := Lib.hid (HR_ii.out.below hb)
      have hR0 := hR
      obtain ⟨Aj, nj, dj, rfl, -⟩ := hR0
      have hT0 := hT
      obtain ⟨Bj, mj, fj, rfl, -⟩ := hT0
      have HR_jj := Lib.hid (hR.mono HB_i.out.size)
      have HR_jtj := Lib.hid (hT.mono HB_i.out.size)
      clear HR_ai HR_bi HR_ci HR_di HR_dxi HR_ei HR_exi HR_fi HR_gi HR_hi HR_ii
      clear k1 k2 k3 k4 k5 k1l hb hR hT
      obtain ⟨W_j, hW⟩ : ∃ W_j, W_j = (w_j.alloc (.cells #[.int .i64 aj, .int .i64 bj, .int .i64 cj, .slice Aj nj dj, .slice Bj mj fj] 32)).alloc (.cells #[.slice Ap np dp, .slice Aq nq dq, .bool gj] 69) := ⟨_, rfl⟩
      have HS_j := Lib.hid (show Below w_j.heap.size w_j W_j by rw [hW]; exact ((Below.refl _ _).alloc (Nat.le_refl _) _).alloc (by simp) _)
      have HR_jxjX := Lib.hid (show WardB W_j w_j.heap.size Aj nj dj Bj mj fj by rw [hW]; exact ⟨⟨aj, by simp [go_sem], by simp [go_sem]⟩, ⟨bj, by simp [go_sem], by simp [go_sem]⟩, ⟨cj, by simp [go_sem], by simp [go_sem]⟩, by simp [go_sem], by simp [go_sem]⟩)
      have HE_j := Lib.hid hW
      clear hW
      have HB_jX := Lib.hid (HB_j.out.trans (HS_j.out.mono HB_j.out.size))
      have HR_ajX := Lib.hid (HR_aj.out.below HS_j.out)
      have HR_bjX := Lib.hid (HR_bj.out.below HS_j.out)
      have HR_cjX := Lib.hid (HR_cj.out.below HS_j.out)
      have HR_djX := Lib.hid (HR_dj.out.below HS_j.out)
      have HR_dxjX := Lib.hid (HR_dxj.out.below HS_j.out)
      have HR_ejX := Lib.hid (HR_ej.out.below HS_j.out)
      have HR_exjX := Lib.hid (HR_exj.out.below HS_j.out)
      have HR_fjX := Lib.hid (HR_fj.out.below HS_j.out)
      have HR_gjX := Lib.hid (HR_gj.out.below HS_j.out)
      have HR_hjX := Lib.hid (HR_hj.out.below HS_j.out)
      have HR_ijX := Lib.hid (HR_ij.out.below HS_j.out)
      have HR_jjX := Lib.hid (HR_jj.out.below HS_j.out)
      have HR_jtjX := Lib.hid (HR_jtj.out.below HS_j.out)
      clear HR_aj HR_bj HR_cj HR_dj HR_dxj HR_ej HR_exj HR_fj HR_gj HR_hj HR_ij HR_jj HR_jtj
      obtain ⟨-, -, -, -, -, k1, k2, k3, k4, k5⟩ := HCR.out w_j HB_j.out
      have k1l := World.block_lt_of_cell? w_j _ k1
      have k1m := Nat.lt_succ_of_lt k1l
      dsimp only [Nat.succ_eq_add_one] at k1m
      go_wp2_with fail
      clear k1m
      rw [← HE_j.out]
      clear HE_j
      refine (Wa.begin_free (⟨how, most, win, X.C, X.k, lst X.ts, X.ts.length⟩ : Wa.Wd) kA hA kc hc W_j (show Wa.ArgOk (⟨how, most, win, X.C, X.k, lst X.ts, X.ts.length⟩ : Wa.Wd) kA hA kc hc _ from ⟨HF.out.k1, HF.out.k2, HF.out.h1, HF.out.h2, HF.out.k4, HF.out.h4, HA.out.k.below (HAR.out _ HB_jX.out), HA.out.h.below (HAR.out _ HB_jX.out)⟩)).mono ?_
      rintro e w_k ⟨uk, pk, xk, rfl, ⟨ak, bk, ck, vk, tk, rfl, hR, hT⟩, hb⟩
      have HB_k := Lib.hid (HB_jX.out.trans (hb.mono HB_jX.out.size))
      have HR_ak := Lib.hid (HR_ajX.out.below hb)
      have HR_bk := Lib.hid (HR_bjX.out.below hb)
      have HR_ck := Lib.hid (HR_cjX.out.below hb)
      have HR_dk := Lib.hid (HR_djX.out.below hb)
      have HR_dxk := Lib.hid (HR_dxjX.out.below hb)
      have HR_ek := Lib.hid (HR_ejX.out.below hb)
      have HR_exk := Lib.hid (HR_exjX.out.below hb)
      have HR_fk := Lib.hid (HR_fjX.out.below hb)
      have HR_gk := Lib.hid (HR_gjX.out.below hb)
      have HR_hk := Lib.hid (HR_hjX.out.below hb)
      have HR_ik := Lib.hid (HR_ijX.out.below hb)
      have HR_jk := Lib.hid (HR_jjX.out.below hb)
      have HR_jtk := Lib.hid (HR_jtjX.out.below hb)
      have HR_jxk := Lib.hid (HR_jxjX.out.below hb)
      have hR0 := hR
      obtain ⟨Ak, nk, dk, rfl, -⟩ := hR0
      have hT0 := hT
      obtain ⟨Bk, mk, fk, rfl, -⟩ := hT0
      have HR_kk := Lib.hid (hR.mono HB_jX.out.size)
      have HR_ktk := Lib.hid (hT.mono HB_jX.out.size)
      clear HR_ajX HR_bjX HR_cjX HR_djX HR_dxjX HR_ejX HR_exjX HR_fjX HR_gjX HR_hjX HR_ijX HR_jjX HR_jtjX HR_jxjX
      clear k1 k2 k3 k4 k5 k1l hb hR hT
      obtain ⟨W_k, hW⟩ : ∃ W_k, W_k = w_k.alloc (.cells #[.int .i64 ak, .int .i64 bk, .int .i64 ck, .slice Ak nk dk, .slice Bk mk fk] 32) := ⟨_, rfl⟩
      have HS_k := Lib.hid (show Below w_k.heap.size w_k W_k by rw [hW]; exact (Below.refl _ _).alloc (Nat.le_refl _) _)
      have HR_kxkX := Lib.hid (show WardB W_k w_k.heap.size Ak nk dk Bk mk fk by rw [hW]; exact ⟨⟨ak, by simp [go_sem], by simp [go_sem]⟩, ⟨bk, by simp [go_sem], by simp [go_sem]⟩, ⟨ck, by simp [go_sem], by simp [go_sem]⟩, by simp [go_sem], by simp [go_sem]⟩)
      have HE_k := Lib.hid hW
      clear hW
      have HB_kX := Lib.hid (HB_k.out.trans (HS_k.out.mono HB_k.out.size))
      have HR_akX := Lib.hid (HR_ak.out.below HS_k.out)
      have HR_bkX := Lib.hid (HR_bk.out.below HS_k.out)
      have HR_ckX := Lib.hid (HR_ck.out.below HS_k.out)
      have HR_dkX := Lib.hid (HR_dk.out.below HS_k.out)
      have HR_dxkX := Lib.hid (HR_dxk.out.below HS_k.out)
      have HR_ekX := Lib.hid (HR_ek.out.below HS_k.out)
      have HR_exkX := Lib.hid (HR_exk.out.below HS_k.out)
      have HR_fkX := Lib.hid (HR_fk.out.below HS_k.out)
      have HR_gkX := Lib.hid (HR_gk.out.below HS_k.out)
      have HR_hkX := Lib.hid (HR_hk.out.below HS_k.out)
      have HR_ikX := Lib.hid (HR_ik.out.below HS_k.out)
      have HR_jkX := Lib.hid (HR_jk.out.below HS_k.out)
      have HR_jtkX := Lib.hid (HR_jtk.out.below HS_k.out)
      have HR_jxkX := Lib.hid (HR_jxk.out.below HS_k.out)
      have HR_kkX := Lib.hid (HR_kk.out.below HS_k.out)
      have HR_ktkX := Lib.hid (HR_ktk.out.below HS_k.out)
      clear HR_ak HR_bk HR_ck HR_dk HR_dxk HR_ek HR_exk HR_fk HR_gk HR_hk HR_ik HR_jk HR_jtk HR_jxk HR_kk HR_ktk
      obtain ⟨k1, -, -, -, -, -, -, -, -, -⟩ := HCR.out w_k HB_k.out
      have k1l := World.block_lt_of_cell? w_k _ k1
      have k1m := Nat.lt_succ_of_lt k1l
      dsimp only [Nat.succ_eq_add_one] at k1m
      go_wp2_with fail
      clear k1m
      rw [← HE_k.out]
      clear HE_k
      clear k1 k1l
      refine (HSAME.out W_k HB_kX.out).mono ?_
      rintro e wC ⟨rfl, hb⟩
      have HBC2 := Lib.hid (HB_kX.out.trans (hb.mono HB_kX.out.size))
      have F_a := Lib.hid (HR_akX.out.below hb)
      have F_b := Lib.hid (HR_bkX.out.below hb)
      have F_c := Lib.hid (HR_ckX.out.below hb)
      have F_d := Lib.hid (HR_dkX.out.below hb)
      have F_dx := Lib.hid (HR_dxkX.out.below hb)
      have F_e := Lib.hid (HR_ekX.out.below hb)
      have F_ex := Lib.hid (HR_exkX.out.below hb)
      have F_f := Lib.hid (HR_fkX.out.below hb)
      have F_g := Lib.hid (HR_gkX.out.below hb)
      have F_h := Lib.hid (HR_hkX.out.below hb)
      have F_i := Lib.hid (HR_ikX.out.below hb)
      have F_j := Lib.hid (HR_jkX.out.below hb)
      have F_jt := Lib.hid (HR_jtkX.out.below hb)
      have F_jx := Lib.hid (HR_jxkX.out.below hb)
      have F_k := Lib.hid (HR_kkX.out.below hb)
      have F_kt := Lib.hid (HR_ktkX.out.below hb)
      have F_kx := Lib.hid (HR_kxkX.out.below hb)
      clear HR_akX HR_bkX HR_ckX HR_dkX HR_dxkX HR_ekX HR_exkX HR_fkX HR_gkX HR_hkX HR_ikX HR_jkX HR_jtkX HR_jxkX HR_kkX HR_ktkX HR_kxkX hb
      have HBw := Lib.hid HBC2.out.size
      have hs := F_a.out
      obtain ⟨Aa, na, da, rfl, -⟩ := hs
      have hs := F_b.out
      obtain ⟨Ab, nb, db, rfl, -⟩ := hs
      have hs := F_c.out
      obtain ⟨Ac, nc, dc, rfl, -⟩ := hs
      have hs := F_f.out
      obtain ⟨Af, nf, df, rfl, -⟩ := hs
      have hs := F_g.out
      obtain ⟨Ag, ng, dg, rfl, -⟩ := hs
      have hs := F_h.out
      obtain ⟨Ah, nh, dh, rfl, -⟩ := hs
      have hs := F_i.out
      obtain ⟨Ai, ni, di, rfl, -⟩ := hs
      obtain ⟨sv, hsv⟩ : ∃ sv : Nat → Value, sv = fun k => [Value.slice Aa na da, .slice Ab nb db, .slice Ac nc dc].getD k undef := ⟨_, rfl⟩
      have HIX := Lib.hid (show ∀ (k : Nat), k < 3 → ∀ W : World, (Instr.index 74 (.agg #[.slice Aa na da, .slice Ab nb db, .slice Ac nc dc]) (.int .i64 (k : Int))).run Try.prog W = .ok (sv k) W from fun k hk => idxR _ _ _ _ _ _ _ _ _ sv (by rw [hsv]; rfl) (by rw [hsv]; rfl) (by rw [hsv]; rfl) hk)
      have HSR := Lib.hid (show ∀ k, k < 3 → RowsF wC wr.heap.size (sv k) from fun k hk => by
        rw [hsv]
        match k, hk with
        | 0, _ => exact F_a.out
        | 1, _ => exact F_b.out
        | 2, _ => exact F_c.out)
      clear hsv F_a F_b F_c
      go_wp2_with fail
      go_loopw [181] (fun x w1 => ∃ k : Nat, k ≤ 3 ∧ x = .int .i64 (k : Int) ∧ Ge wr.heap.size wC w1) (fun x _ => 3 - (intOf x).toNat)
      case atStart => exact ⟨0, by omega, rfl, Ge.refl _ _⟩
      case round =>
        rename World => w1
        obtain ⟨q, hq3, rfl, hG⟩ := hrel
        have HG := Lib.hid hG
        clear hG
        by_cases hq : q < 3
        · as_aux_lemma =>
            have hix := HIX.out q hq
            obtain ⟨A, n, c, hv, hn, -⟩ := (HSR.out q hq).ge HG.out
            rw [hv] at hix
            have HV := Lib.hid hv
            have hd2 : decide ((q : Int) < 3) = true := decide_eq_true (by omega)
            clear hv
            go_wp2_with fail
            go_loopw [186] (fun x w2 => ∃ j : Nat, j ≤ n ∧ x = .int .i64 (j : Int) ∧ Ge wr.heap.size wC w2) (fun x _ => n - (intOf x).toNat)
            case atStart => exact ⟨0, by omega, rfl, HG.out⟩
            case round =>
              rename World => w2
              obtain ⟨j, hjn, rfl, hG2⟩ := hrel
              have HG2 := Lib.hid hG2
              clear hG2
              by_cases hj : j < n
              · as_aux_lemma =>
                  obtain ⟨A2, n2, c2, hv2, -, hc2⟩ := (HSR.out q hq).ge HG2.out
                  have e0 := HV.out.symm.trans hv2
                  injection e0 with e1 e2 e3
                  subst e1 e2 e3
                  obtain ⟨b, off, rfl, hbb, hcell⟩ := hc2 (by omega)
                  obtain ⟨hi, ⟨u, hu, hiu⟩, t, ht, hjt⟩ := hcell j hj
                  have HI := Lib.hid hi
                  have HIU := Lib.hid hiu
                  have HIT := Lib.hid hjt
                  have HBB := Lib.hid hbb
                  obtain ⟨Au, nu, cu, rfl, hnu, -⟩ := hiu
                  obtain ⟨At, nt, ct, rfl, hnt, -⟩ := hjt
                  have HU := Lib.hid hu
                  have HT := Lib.hid ht
                  obtain ⟨z, hz, hf⟩ := hi
                  have j0 : (0 : Int) ≤ (j : Int) := by omega
                  have j1 : (j : Int) < (n : Int) := by omega
                  have hdj : decide ((j : Int) < n) = true := decide_eq_true (by omega)
                  clear hc2 hcell hbb ht hv2
                  go_wp2_with fail
                  go_loopw [203] (fun x w3 => ∃ r : Nat, r ≤ nu ∧ x = .int .i64 (r : Int) ∧ Ge wr.heap.size w2 w3) (fun x _ => nu - (intOf x).toNat)
                  case atStart => exact ⟨0, by omega, rfl, (Ge.refl _ _).store HBB.out HI.out _⟩
                  case round =>
                    rename World => w3
                    obtain ⟨r, hrn, rfl, hG⟩ := hrel
                    have HGr := Lib.hid hG
                    clear hG
                    by_cases hr : r < nu
                    · as_aux_lemma =>
                        have hU := HGr.out.rest _ _ _ HU.out (fun z e => by cases e)
                        obtain ⟨A7, n7, c7, e7, -, hc7⟩ := HIU.out.ge HGr.out
                        injection e7 with e1 e2 e3
                        subst e1 e2 e3
                        obtain ⟨b7, off7, rfl, hb7, hx7⟩ := hc7 (by omega)
                        obtain ⟨z7, hz7, hf7⟩ := hx7 r hr
                        have HI7 := Lib.hid (hx7 r hr)
                        have HB7 := Lib.hid hb7
                        have j0 : (0 : Int) ≤ (r : Int) := by omega
                        have j1 : (r : Int) < (nu : Int) := by omega
                        have hd7 : decide ((r : Int) < nu) = true := decide_eq_true (by omega)
                        clear hc7 hx7 hb7
                        go_wp2_with fail
                        exact ⟨⟨r + 1, by omega, by go_num, HGr.out.store HB7.out HI7.out _⟩, by simp [intOf]; omega⟩
                    · have hd7 : decide ((r : Int) < nu) = false := decide_eq_false (by omega)
                      have hT := HGr.out.rest _ _ _ HT.out (fun z e => by cases e)
                      go_wp2_with fail
                      go_loopw [223] (fun x w4 => ∃ s : Nat, s ≤ nt ∧ x = .int .i64 (s : Int) ∧ Ge wr.heap.size w2 w4) (fun x _ => nt - (intOf x).toNat)
                      case atStart => exact ⟨0, by omega, rfl, HGr.out⟩
                      case round =>
                        rename World => w4
                        obtain ⟨s, hsn, rfl, hG⟩ := hrel
                        have HGs := Lib.hid hG
                        clear hG
                        by_cases hs : s < nt
                        · as_aux_lemma =>
                            have hT := HGs.out.rest _ _ _ HT.out (fun z e => by cases e)
                            obtain ⟨A7, n7, c7, e7, -, hc7⟩ := HIT.out.ge HGs.out
                            injection e7 with e1 e2 e3
                            subst e1 e2 e3
                            obtain ⟨b7, off7, rfl, hb7, hx7⟩ := hc7 (by omega)
                            obtain ⟨z7, hz7, hf7⟩ := hx7 s hs
                            have HI7 := Lib.hid (hx7 s hs)
                            have HB7 := Lib.hid hb7
                            have j0 : (0 : Int) ≤ (s : Int) := by omega
                            have j1 : (s : Int) < (nt : Int) := by omega
                            have hd7 : decide ((s : Int) < nt) = true := decide_eq_true (by omega)
                            clear hc7 hx7 hb7
                            go_wp2_with fail
                            exact ⟨⟨s + 1, by omega, by go_num, HGs.out.store HB7.out HI7.out _⟩, by simp [intOf]; omega⟩
                        · have hd7 : decide ((s : Int) < nt) = false := decide_eq_false (by omega)
                          go_wp2_with fail
                          exact ⟨⟨j + 1, by omega, by go_num, HG2.out.trans HGs.out⟩, by simp [intOf]; omega⟩
              · have hdj : decide ((j : Int) < n) = false := decide_eq_false (by omega)
                go_wp2_with fail
                exact ⟨⟨q + 1, by omega, by go_num, HG2.out⟩, by simp [intOf]; omega⟩
        · have hd2 : decide ((q : Int) < 3) = false := decide_eq_false (by omega)
          clear HIX HSR
          obtain ⟨⟨zd, hzd, -⟩, hcd⟩ := F_dx.out.ge HG.out
          obtain ⟨⟨ze, hze, -⟩, hce⟩ := F_ex.out.ge HG.out
          have HIX2 := Lib.hid (show ∀ (k : Nat), k < 2 → ∃ (zz : Int) (A : Option Addr) (n c : Nat), ColF wC wr.heap.size 2 1 (.slice A n c) ∧ ∀ W : World, (Instr.index 77 (.agg #[.int .i64 zd, .slice Ad nd dd, .int .i64 ze, .slice Ae ne de]) (.int .i64 (k : Int))).run Try.prog W = .ok (.agg #[.int .i64 zz, .slice A n c]) W from fun k hk => by
            match k, hk with
            | 0, _ => exact ⟨zd, Ad, nd, dd, F_d.out, fun W => by kernel_rfl⟩
            | 1, _ => exact ⟨ze, Ae, ne, de, F_e.out, fun W => by kernel_rfl⟩)
          have HGo := Lib.hid HG.out
          clear F_d F_e F_dx F_ex HG
          go_wp2_with fail
          go_loopw [242] (fun x w5 => ∃ k : Nat, k ≤ 2 ∧ x = .int .i64 (k : Int) ∧ Ge wr.heap.size wC w5) (fun x _ => 2 - (intOf x).toNat)
          case atStart => exact ⟨0, by omega, rfl, HGo.out⟩
          case round =>
            rename World => w5
            obtain ⟨q, hq2, rfl, hG⟩ := hrel
            have HG := Lib.hid hG
            clear hG
            by_cases hq : q < 2
            · as_aux_lemma =>
                obtain ⟨zz, A, n, c, hcf, hix⟩ := HIX2.out q hq
                have HCF := Lib.hid hcf
                obtain ⟨_, _, _, e9, hn, -⟩ := hcf
                have hn9 : n ≤ 9223372036854775807 := by injection e9 with _ e9 _; omega
                clear hn e9
                have hd2 : decide ((q : Int) < 2) = true := decide_eq_true (by omega)
                obtain ⟨W5, hW⟩ : ∃ W5, W5 = w5.alloc (.cells #[.int .i64 zz, .slice A n c] 25) := ⟨_, rfl⟩
                have HS := Lib.hid (show Ge wr.heap.size w5 W5 by rw [hW]; exact (Ge.refl _ _).alloc (by have := HBw.out; have := HG.out.bel.size; omega) _)
                have HU := Lib.hid (show W5.cell? ⟨w5.heap.size, 1, none⟩ = some (.slice A n c) by rw [hW]; simp [go_sem])
                have HE := Lib.hid hW
                clear hW
                go_wp2_with fail
                rw [← HE.out]
                clear HE
                go_loopw [248] (fun x w6 => ∃ y : Nat, y ≤ n ∧ x = .int .i64 (y : Int) ∧ Ge wr.heap.size W5 w6) (fun x _ => n - (intOf x).toNat)
                case atStart => exact ⟨0, by omega, rfl, Ge.refl _ _⟩
                case round =>
                  rename World => w6
                  obtain ⟨y, hyn, rfl, hG⟩ := hrel
                  have HGy := Lib.hid hG
                  clear hG
                  have hU := HGy.out.rest _ _ _ HU.out (fun z e => by cases e)
                  by_cases hy : y < n
                  · as_aux_lemma =>
                      skip
                      obtain ⟨A7, n7, c7, e7, -, hc7⟩ := HCF.out.ge (HG.out.trans (HS.out.trans HGy.out))
                      injection e7 with e1 e2 e3
                      subst e1 e2 e3
                      obtain ⟨b7, off7, rfl, hb7, hx7⟩ := hc7 (by omega)
                      have hx := hx7 y hy
                      have HI7 := Lib.hid hx
                      obtain ⟨z7, hz7, hf7⟩ := hx
                      have HB7 := Lib.hid hb7
                      have j0 : (0 : Int) ≤ (y : Int) := by omega
                      have j1 : (y : Int) < (n : Int) := by omega
                      have hd7 : decide ((y : Int) < n) = true := decide_eq_true (by omega)
                      clear hc7 hx7 hb7
                      go_wp2_with fail
                      exact ⟨⟨y + 1, by omega, by go_num, HGy.out.store HB7.out HI7.out _⟩, by simp [intOf]; omega⟩
                  · have hd7 : decide ((y : Int) < n) = false := decide_eq_false (by omega)
                    go_wp2_with fail
                    exact ⟨⟨q + 1, by omega, by go_num, HG.out.trans (HS.out.trans HGy.out)⟩, by simp [intOf]; omega⟩
            · have hd2 : decide ((q : Int) < 2) = false := decide_eq_false (by omega)
              have HIX3 := Lib.hid (show ∀ (k : Nat), k < 2 → ∃ (A : Option Addr) (n c : Nat), LinesF wC wr.heap.size (.slice A n c) ∧ ∀ W : World, (Instr.index 78 (.agg #[.slice Af nf df, .slice Ag ng dg]) (.int .i64 (k : Int))).run Try.prog W = .ok (.slice A n c) W from fun k hk => by
                match k, hk with
                | 0, _ => exact ⟨Af, nf, df, F_f.out, fun W => by kernel_rfl⟩
                | 1, _ => exact ⟨Ag, ng, dg, F_g.out, fun W => by kernel_rfl⟩)
              have HGo := Lib.hid HG.out
              clear F_f F_g HG HIX2
              go_wp2_with fail
              go_loopw [265] (fun x w7 => ∃ k : Nat, k ≤ 2 ∧ x = .int .i64 (k : Int) ∧ Ge wr.heap.size wC w7) (fun x _ => 2 - (intOf x).toNat)
              case atStart => exact ⟨0, by omega, rfl, HGo.out⟩
              case round =>
                rename World => w7
                obtain ⟨q, hq2, rfl, hG⟩ := hrel
                have HG := Lib.hid hG
                clear hG
                by_cases hq : q < 2
                · as_aux_lemma =>
                    obtain ⟨A, n, c, hcf, hix⟩ := HIX3.out q hq
                    have HCF := Lib.hid hcf
                    obtain ⟨_, _, _, e9, hn, -⟩ := hcf
                    have hn9 : n ≤ 9223372036854775807 := by injection e9 with _ e9 _; omega
                    clear hn e9
                    have hd2 : decide ((q : Int) < 2) = true := decide_eq_true (by omega)
                    go_wp2_with fail
                    go_loopw [270] (fun x w8 => ∃ j : Nat, j ≤ n ∧ x = .int .i64 (j : Int) ∧ Ge wr.heap.size w7 w8) (fun x _ => n - (intOf x).toNat)
                    case atStart => exact ⟨0, by omega, rfl, Ge.refl _ _⟩
                    case round =>
                      rename World => w8
                      obtain ⟨j, hjn, rfl, hG⟩ := hrel
                      have HGy := Lib.hid hG
                      clear hG
                      by_cases hj : j < n
                      · as_aux_lemma =>
                          obtain ⟨A2, n2, c2, hv2, -, hc2⟩ := HCF.out.ge (HG.out.trans HGy.out)
                          injection hv2 with e1 e2 e3
                          subst e1 e2 e3
                          obtain ⟨b, off, rfl, hcell⟩ := hc2 (by omega)
                          obtain ⟨u, hu, hiu⟩ := hcell j hj
                          have HIU := Lib.hid hiu
                          obtain ⟨Au, nu, cu, rfl, hnu, -⟩ := hiu
                          have HU := Lib.hid hu
                          have j0 : (0 : Int) ≤ (j : Int) := by omega
                          have j1 : (j : Int) < (n : Int) := by omega
                          have hdj : decide ((j : Int) < n) = true := decide_eq_true (by omega)
                          clear hc2 hcell
                          go_wp2_with fail
                          go_loopw [278] (fun x w9 => ∃ r : Nat, r ≤ nu ∧ x = .int .i64 (r : Int) ∧ Ge wr.heap.size w8 w9) (fun x _ => nu - (intOf x).toNat)
                          case atStart => exact ⟨0, by omega, rfl, Ge.refl _ _⟩
                          case round =>
                            rename World => w9
                            obtain ⟨r, hrn, rfl, hG⟩ := hrel
                            have HGr := Lib.hid hG
                            clear hG
                            by_cases hr : r < nu
                            · as_aux_lemma =>
                                have hU := HGr.out.rest _ _ _ HU.out (fun z e => by cases e)
                                obtain ⟨A7, n7, c7, e7, -, hc7⟩ := HIU.out.ge HGr.out
                                injection e7 with e1 e2 e3
                                subst e1 e2 e3
                                obtain ⟨b7, off7, rfl, hb7, hx7⟩ := hc7 (by omega)
                                obtain ⟨z7, hz7, hf7⟩ := hx7 r hr
                                have HI7 := Lib.hid (hx7 r hr)
                                have HB7 := Lib.hid hb7
                                have j0 : (0 : Int) ≤ (r : Int) := by omega
                                have j1 : (r : Int) < (nu : Int) := by omega
                                have hd7 : decide ((r : Int) < nu) = true := decide_eq_true (by omega)
                                clear hc7 hx7 hb7
                                go_wp2_with fail
                                exact ⟨⟨r + 1, by omega, by go_num, HGr.out.store HB7.out HI7.out _⟩, by simp [intOf]; omega⟩
                            · have hd7 : decide ((r : Int) < nu) = false := decide_eq_false (by omega)
                              go_wp2_with fail
                              exact ⟨⟨j + 1, by omega, by go_num, HGy.out.trans HGr.out⟩, by simp [intOf]; omega⟩
                      · have hdj : decide ((j : Int) < n) = false := decide_eq_false (by omega)
                        go_wp2_with fail
                        exact ⟨⟨q + 1, by omega, by go_num, HG.out.trans HGy.out⟩, by simp [intOf]; omega⟩
                · have hd2 : decide ((q : Int) < 2) = false := decide_eq_false (by omega)
                  have HIX4 := Lib.hid (show ∀ (k : Nat), k < 2 → ∃ (A : Option Addr) (n c : Nat), ColF wC wr.heap.size 5 0 (.slice A n c) ∧ ∀ W : World, (Instr.index 79 (.agg #[.slice Ah nh dh, .slice Ai ni di]) (.int .i64 (k : Int))).run Try.prog W = .ok (.slice A n c) W from fun k hk => by
                    match k, hk with
                    | 0, _ => exact ⟨Ah, nh, dh, F_h.out, fun W => by kernel_rfl⟩
                    | 1, _ => exact ⟨Ai, ni, di, F_i.out, fun W => by kernel_rfl⟩)
                  have HGo := Lib.hid HG.out
                  clear F_h F_i HG HIX3
                  go_wp2_with fail
                  go_loopw [296] (fun x w10 => ∃ k : Nat, k ≤ 2 ∧ x = .int .i64 (k : Int) ∧ Ge wr.heap.size wC w10) (fun x _ => 2 - (intOf x).toNat)
                  case atStart => exact ⟨0, by omega, rfl, HGo.out⟩
                  case round =>
                    rename World => w10
                    obtain ⟨q, hq2, rfl, hG⟩ := hrel
                    have HG := Lib.hid hG
                    clear hG
                    by_cases hq : q < 2
                    · as_aux_lemma =>
                        obtain ⟨A, n, c, hcf, hix⟩ := HIX4.out q hq
                        have HCF := Lib.hid hcf
                        obtain ⟨_, _, _, e9, hn, -⟩ := hcf
                        have hn9 : n ≤ 9223372036854775807 := by injection e9 with _ e9 _; omega
                        clear hn e9
                        have hd2 : decide ((q : Int) < 2) = true := decide_eq_true (by omega)
                        go_wp2_with fail
                        go_loopw [301] (fun x w6 => ∃ y : Nat, y ≤ n ∧ x = .int .i64 (y : Int) ∧ Ge wr.heap.size w10 w6) (fun x _ => n - (intOf x).toNat)
                        case atStart => exact ⟨0, by omega, rfl, Ge.refl _ _⟩
                        case round =>
                          rename World => w6
                          obtain ⟨y, hyn, rfl, hG⟩ := hrel
                          have HGy := Lib.hid hG
                          clear hG
                          by_cases hy : y < n
                          · as_aux_lemma =>
                              skip
                              obtain ⟨A7, n7, c7, e7, -, hc7⟩ := HCF.out.ge (HG.out.trans HGy.out)
                              injection e7 with e1 e2 e3
                              subst e1 e2 e3
                              obtain ⟨b7, off7, rfl, hb7, hx7⟩ := hc7 (by omega)
                              have hx := hx7 y hy
                              simp only [Nat.add_zero] at hx
                              have HI7 := Lib.hid hx
                              obtain ⟨z7, hz7, hf7⟩ := hx
                              have HB7 := Lib.hid hb7
                              have j0 : (0 : Int) ≤ (y : Int) := by omega
                              have j1 : (y : Int) < (n : Int) := by omega
                              have hd7 : decide ((y : Int) < n) = true := decide_eq_true (by omega)
                              clear hc7 hx7 hb7
                              go_wp2_with fail
                              exact ⟨⟨y + 1, by omega, by go_num, HGy.out.store HB7.out HI7.out _⟩, by simp [intOf]; omega⟩
                          · have hd7 : decide ((y : Int) < n) = false := decide_eq_false (by omega)
                            go_wp2_with fail
                            exact ⟨⟨q + 1, by omega, by go_num, HG.out.trans HGy.out⟩, by simp [intOf]; omega⟩
                    · have hd2 : decide ((q : Int) < 2) = false := decide_eq_false (by omega)
                      obtain ⟨⟨aj, haj, -⟩, ⟨bj, hbj, -⟩, ⟨cj, hcj, -⟩, huj, htj⟩ := F_jx.out.ge HG.out
                      obtain ⟨⟨ak, hak, -⟩, ⟨bk, hbk, -⟩, ⟨ck, hck, -⟩, huk, htk⟩ := F_kx.out.ge HG.out
                      have HIX5 := Lib.hid (show ∀ (k : Nat), k < 2 → ∃ (x0 y0 z0 : Int) (A : Option Addr) (n c : Nat) (B2 : Option Addr) (m d : Nat), (ColF wC wr.heap.size 3 0 (.slice A n c) ∧ IntsF wC wr.heap.size (.slice B2 m d)) ∧ ∀ W : World, (Instr.index 80 (.agg #[.int .i64 aj, .int .i64 bj, .int .i64 cj, .slice Aj nj dj, .slice Bj mj fj, .int .i64 ak, .int .i64 bk, .int .i64 ck, .slice Ak nk dk, .slice Bk mk fk]) (.int .i64 (k : Int))).run Try.prog W = .ok (.agg #[.int .i64 x0, .int .i64 y0, .int .i64 z0, .slice A n c, .slice B2 m d]) W from fun k hk => by
                        match k, hk with
                        | 0, _ => exact ⟨aj, bj, cj, Aj, nj, dj, Bj, mj, fj, ⟨F_j.out, F_jt.out⟩, fun W => by kernel_rfl⟩
                        | 1, _ => exact ⟨ak, bk, ck, Ak, nk, dk, Bk, mk, fk, ⟨F_k.out, F_kt.out⟩, fun W => by kernel_rfl⟩)
                      have HGo := Lib.hid HG.out
                      clear F_j F_k F_jt F_kt F_jx F_kx HG HIX4
                      go_wp2_with fail
                      go_loopw [317] (fun x w11 => ∃ k : Nat, k ≤ 2 ∧ x = .int .i64 (k : Int) ∧ Ge wr.heap.size wC w11) (fun x _ => 2 - (intOf x).toNat)
                      case atStart => exact ⟨0, by omega, rfl, HGo.out⟩
                      case round =>
                        rename World => w11
                        obtain ⟨q, hq2, rfl, hG⟩ := hrel
                        have HG := Lib.hid hG
                        clear hG
                        by_cases hq : q < 2
                        · as_aux_lemma =>
                            obtain ⟨x0, y0, z0, A, n, c, B2, m, d, ⟨hcf, hti⟩, hix⟩ := HIX5.out q hq
                            have HCF := Lib.hid hcf
                            obtain ⟨_, _, _, e9, hn, -⟩ := hcf
                            have hn9 : n ≤ 9223372036854775807 := by injection e9 with _ e9 _; omega
                            clear hn e9
                            have hd2 : decide ((q : Int) < 2) = true := decide_eq_true (by omega)
                            have HIT := Lib.hid (hti.ge (HG.out.trans (show Ge wr.heap.size w11 _ from (Ge.refl _ _).alloc (by have := HBw.out; have := HG.out.bel.size; omega) (.cells #[.int .i64 x0, .int .i64 y0, .int .i64 z0, .slice A n c, .slice B2 m d] 32))))
                            obtain ⟨_, _, _, e8, hm, -⟩ := hti
                            have hm9 : m ≤ 9223372036854775807 := by injection e8 with _ e8 _; omega
                            clear hm e8
                            obtain ⟨W11, hW⟩ : ∃ W11, W11 = w11.alloc (.cells #[.int .i64 x0, .int .i64 y0, .int .i64 z0, .slice A n c, .slice B2 m d] 32) := ⟨_, rfl⟩
                            rw [← hW] at HIT
                            have HS := Lib.hid (show Ge wr.heap.size w11 W11 by rw [hW]; exact (Ge.refl _ _).alloc (by have := HBw.out; have := HG.out.bel.size; omega) _)
                            have HU := Lib.hid (show W11.cell? ⟨w11.heap.size, 3, none⟩ = some (.slice A n c) by rw [hW]; simp [go_sem])
                            have HT := Lib.hid (show W11.cell? ⟨w11.heap.size, 4, none⟩ = some (.slice B2 m d) by rw [hW]; simp [go_sem])
                            have HE := Lib.hid hW
                            clear hW
                            go_wp2_with fail
                            rw [← HE.out]
                            clear HE
                            go_loopw [323] (fun x w12 => ∃ y : Nat, y ≤ n ∧ x = .int .i64 (y : Int) ∧ Ge wr.heap.size W11 w12) (fun x _ => n - (intOf x).toNat)
                            case atStart => exact ⟨0, by omega, rfl, Ge.refl _ _⟩
                            case round =>
                              rename World => w12
                              obtain ⟨y, hyn, rfl, hG⟩ := hrel
                              have HGy := Lib.hid hG
                              clear hG
                              have hU := HGy.out.rest _ _ _ HU.out (fun z e => by cases e)
                              have hT := HGy.out.rest _ _ _ HT.out (fun z e => by cases e)
                              by_cases hy : y < n
                              · as_aux_lemma =>
                                  skip
                                  obtain ⟨A7, n7, c7, e7, -, hc7⟩ := HCF.out.ge (HG.out.trans (HS.out.trans HGy.out))
                                  injection e7 with e1 e2 e3
                                  subst e1 e2 e3
                                  obtain ⟨b7, off7, rfl, hb7, hx7⟩ := hc7 (by omega)
                                  have hx := hx7 y hy
                                  simp only [Nat.add_zero] at hx
                                  have HI7 := Lib.hid hx
                                  obtain ⟨z7, hz7, hf7⟩ := hx
                                  have HB7 := Lib.hid hb7
                                  have j0 : (0 : Int) ≤ (y : Int) := by omega
                                  have j1 : (y : Int) < (n : Int) := by omega
                                  have hd7 : decide ((y : Int) < n) = true := decide_eq_true (by omega)
                                  clear hc7 hx7 hb7
                                  go_wp2_with fail
                                  exact ⟨⟨y + 1, by omega, by go_num, HGy.out.store HB7.out HI7.out _⟩, by simp [intOf]; omega⟩
                              · have hd7 : decide ((y : Int) < n) = false := decide_eq_false (by omega)
                                go_wp2_with fail
                                go_loopw [339] (fun x w13 => ∃ s : Nat, s ≤ m ∧ x = .int .i64 (s : Int) ∧ Ge wr.heap.size W11 w13) (fun x _ => m - (intOf x).toNat)
                                case atStart => exact ⟨0, by omega, rfl, HGy.out⟩
                                case round =>
                                  rename World => w13
                                  obtain ⟨s, hsn, rfl, hG⟩ := hrel
                                  have HGs := Lib.hid hG
                                  clear hG
                                  by_cases hs : s < m
                                  · as_aux_lemma =>
                                      have hT := HGs.out.rest _ _ _ HT.out (fun z e => by cases e)
                                      obtain ⟨A7, n7, c7, e7, -, hc7⟩ := HIT.out.ge HGs.out
                                      injection e7 with e1 e2 e3
                                      subst e1 e2 e3
                                      obtain ⟨b7, off7, rfl, hb7, hx7⟩ := hc7 (by omega)
                                      obtain ⟨z7, hz7, hf7⟩ := hx7 s hs
                                      have HI7 := Lib.hid (hx7 s hs)
                                      have HB7 := Lib.hid hb7
                                      have j0 : (0 : Int) ≤ (s : Int) := by omega
                                      have j1 : (s : Int) < (m : Int) := by omega
                                      have hd7 : decide ((s : Int) < m) = true := decide_eq_true (by omega)
                                      clear hc7 hx7 hb7
                                      go_wp2_with fail
                                      exact ⟨⟨s + 1, by omega, by go_num, HGs.out.store HB7.out HI7.out _⟩, by simp [intOf]; omega⟩
                                  · have hd7 : decide ((s : Int) < m) = false := decide_eq_false (by omega)
                                    have hT := HGs.out.rest _ _ _ HT.out (fun z e => by cases e)
                                    go_wp2_with fail
                                    exact ⟨⟨q + 1, by omega, by go_num, HG.out.trans (HS.out.trans HGs.out)⟩, by simp [intOf]; omega⟩
                        · have hd2 : decide ((q : Int) < 2) = false := decide_eq_false (by omega)
                          go_wp2_with fail
                          refine (HSAME.out w11 (HBC2.out.trans HG.out.bel)).mono ?_
                          rintro e wF ⟨rfl, hbF⟩
                          have HBF := Lib.hid ((HBC2.out.trans HG.out.bel).trans (hbF.mono (HBC2.out.trans HG.out.bel).size))
                          clear hbF
                          go_wp2_with fail
                          go_ret
                          exact ⟨rfl, HB2R.out.trans (HBF.out.mono HB2R.out.size)⟩
end Go.Proofs.Ytcedogmhmpcfmaa
namespace Go.Proofs.Ytcedogmhmpcfmaa
open Go.RowKit Go.ChangeShapes Go.WideShapes Go.Deep
set_option linter.unusedVariables false
set_option maxRecDepth 100000 in
theorem linkOwn_walk {H : Type} {enc : TypeId × Value → H} (W : World) (base : Nat) (v0 v1 v2 v3 v4 v5 v6 v7 : Value) {d0 d1 d2 d3 d4 d5 d6 d7 : DataW H} {p0 p1 p2 p3 p4 p5 p6 p7 : List MemPlace}
    (k0 : Value.okWide Try.prog W .any base 22 v0) (k1 : Value.okWide Try.prog W .any base 3 v1) (k2 : Value.okWide Try.prog W .any base 3 v2) (k3 : Value.okWide Try.prog W .any base 25 v3) (k4 : Value.okWide Try.prog W .any base 27 v4) (k5 : Value.okWide Try.prog W .any base 28 v5) (k6 : Value.okWide Try.prog W .any base 32 v6) (k7 : Value.okWide Try.prog W .any base 3 v7)
    (h0 : DataW.Trod enc Try.prog W 0 (fun _ => true) true 22 v0 d0 p0) (h1 : DataW.Trod enc Try.prog W 0 (fun _ => true) true 3 v1 d1 p1) (h2 : DataW.Trod enc Try.prog W 0 (fun _ => true) true 3 v2 d2 p2) (h3 : DataW.Trod enc Try.prog W 0 (fun _ => true) true 25 v3 d3 p3) (h4 : DataW.Trod enc Try.prog W 0 (fun _ => true) true 27 v4 d4 p4) (h5 : DataW.Trod enc Try.prog W 0 (fun _ => true) true 28 v5 d5 p5) (h6 : DataW.Trod enc Try.prog W 0 (fun _ => true) true 32 v6 d6 p6) (h7 : DataW.Trod enc Try.prog W 0 (fun _ => true) true 3 v7 d7 p7) (hk : Rows.uptoSmall H [d0, d1, d2, d3, d4, d5, d6, d7] = true) :
    Calls Try.prog 3 #[v0, v1, v2, v3, v4, v5, v6, v7] W fun e W' => e = .returned (.bool true) ∧ Below W.heap.size W W' := by
  obtain ⟨b0, b3, b4, b5, b6⟩ := bulk_eight hk
  obtain ⟨lA, n, lc, R, vw, vl, rfl, l1, l2, l3, l4, l5⟩ := open_linkU k0 h0
  obtain ⟨ref, rfl, _, _, _⟩ := open_int Try.underlying3 k1 h1
  obtain ⟨other, rfl, _, _, _⟩ := open_int Try.underlying3 k2 h2
  obtain ⟨now0, tA, tc, du, rfl, t1, t2⟩ := open_timersU k3 h3
  obtain ⟨sA, q, sc, Q, rfl, s1, s2, s3, s4, s5, s6⟩ := open_linesU k4 h4
  obtain ⟨mA, m, mc, L, rfl, m1, m2, m3, m4, m5⟩ := open_capsU k5 h5
  obtain ⟨how, most, win, kA, k, kc, C, hA, ts, hc, rfl, w1, w2, w3, w4, w5, w6, w7, w8, w9, w10⟩ := open_wardU k6 h6
  obtain ⟨now, rfl, _, _, _⟩ := open_int Try.underlying3 k7 h7
  exact linkOwn_go ⟨n, R, du, m, L, k, C, ts, q, Q⟩ ref other now now0 how most win lA tA sA mA kA hA lc tc sc mc kc hc vw vl (fun _ => True) W ⟨l3, t1, s4, m4, w4, w9⟩
    ⟨l1, l2, by show n ≤ _; omega, fun k hk => ⟨Nat.le_trans (l5 k hk).1 b0, Nat.le_trans (l5 k hk).2 b0⟩, by show du.length ≤ _; omega, s1, s2, by show q ≤ _; omega, fun i hi => ⟨Nat.le_trans (s6 i hi).1 b4, (s6 i hi).2⟩, s3, m1, m2, by show m ≤ _; omega, m3, w1, w2, by show k ≤ _; omega, w3, w6, w7, by show ts.length ≤ _; omega, w8⟩
end Go.Proofs.Ytcedogmhmpcfmaa
