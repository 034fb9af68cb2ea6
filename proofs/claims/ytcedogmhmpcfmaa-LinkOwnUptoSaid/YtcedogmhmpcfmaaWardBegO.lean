/- Contract of ward.Begin. -/
import Derived.Test.YtcedogmhmpcfmaaWardDn
namespace Go.Proofs.Ytcedogmhmpcfmaa.Wa
open Go.RowKit
set_option linter.unusedVariables false
/-- the two boxes of a call of Begin -/
structure Fr2 (w wx : World) (v0 v1 v2 v3 v4 : Value) : Prop where
  a0 : wx.cell? ⟨w.heap.size, 0, none⟩ = some v0
  a1 : wx.cell? ⟨w.heap.size, 1, none⟩ = some v1
  a2 : wx.cell? ⟨w.heap.size, 2, none⟩ = some v2
  a3 : wx.cell? ⟨w.heap.size, 3, none⟩ = some v3
  a4 : wx.cell? ⟨w.heap.size, 4, none⟩ = some v4
  r0 : wx.cell? ⟨w.heap.size + 1, 0, none⟩ = some (.int .i64 0)
  r1 : wx.cell? ⟨w.heap.size + 1, 1, none⟩ = some (.int .i64 0)
  r2 : wx.cell? ⟨w.heap.size + 1, 2, none⟩ = some (.int .i64 0)
  r3 : wx.cell? ⟨w.heap.size + 1, 3, none⟩ = some (.slice none 0 0)
  r4 : wx.cell? ⟨w.heap.size + 1, 4, none⟩ = some (.slice none 0 0)
  fa : ∀ o, wx.frozen? ⟨w.heap.size, o, none⟩ = false
  fr : ∀ o, wx.frozen? ⟨w.heap.size + 1, o, none⟩ = false
  hz : w.heap.size + 1 < wx.heap.size
  hB : Below w.heap.size w wx
theorem Fr2.grow {w wx wy : World} {v0 v1 v2 v3 v4 : Value} {row : Option Nat} (h : Fr2 w wx v0 v1 v2 v3 v4) (hg : wx.grownBy wy row) (hne : ∀ k, row = some k → w.heap.size + 1 < k) : Fr2 w wy v0 v1 v2 v3 v4 :=
  ⟨(grown_cell hg (by have := h.hz; omega) (fun e => by have := hne _ e.symm; omega)).trans h.a0, (grown_cell hg (by have := h.hz; omega) (fun e => by have := hne _ e.symm; omega)).trans h.a1, (grown_cell hg (by have := h.hz; omega) (fun e => by have := hne _ e.symm; omega)).trans h.a2, (grown_cell hg (by have := h.hz; omega) (fun e => by have := hne _ e.symm; omega)).trans h.a3, (grown_cell hg (by have := h.hz; omega) (fun e => by have := hne _ e.symm; omega)).trans h.a4, (grown_cell hg (by have := h.hz; omega) (fun e => by have := hne _ e.symm; omega)).trans h.r0, (grown_cell hg (by have := h.hz; omega) (fun e => by have := hne _ e.symm; omega)).trans h.r1, (grown_cell hg (by have := h.hz; omega) (fun e => by have := hne _ e.symm; omega)).trans h.r2, (grown_cell hg (by have := h.hz; omega) (fun e => by have := hne _ e.symm; omega)).trans h.r3, (grown_cell hg (by have := h.hz; omega) (fun e => by have := hne _ e.symm; omega)).trans h.r4, fun o => (grown_frozen hg (by have := h.hz; omega) (fun e => by have := hne _ e.symm; omega)).trans (h.fa o), fun o => (grown_frozen hg (by have := h.hz; omega) (fun e => by have := hne _ e.symm; omega)).trans (h.fr o), Nat.lt_of_lt_of_le h.hz hg.size, below_grown h.hB (by have := h.hz; omega) hg (fun k hk => by have := hne k hk; omega)⟩
theorem Fr2.grown {w wx wy : World} {v0 v1 v2 v3 v4 : Value} {g : Nat} (h : Fr2 w wx v0 v1 v2 v3 v4) (hg : wx.grownBy wy (some g)) (hne : w.heap.size + 1 < g) : Fr2 w wy v0 v1 v2 v3 v4 := h.grow hg (fun k hk => by injection hk with hk; omega)
theorem Fr2.below {w wx wy : World} {v0 v1 v2 v3 v4 : Value} (h : Fr2 w wx v0 v1 v2 v3 v4) (hb : Below wx.heap.size wx wy) : Fr2 w wy v0 v1 v2 v3 v4 := h.grow (grown_below (g := none) hb) (fun k hk => by cases hk)
theorem Fr2.start (w : World) (v0 v1 v2 v3 v4 : Value) : Fr2 w ((w.alloc (.cells #[v0, v1, v2, v3, v4] 32)).alloc (.cells #[.int .i64 0, .int .i64 0, .int .i64 0, .slice none 0 0, .slice none 0 0] 32)) v0 v1 v2 v3 v4 :=
  ⟨by simp [go_sem], by simp [go_sem], by simp [go_sem], by simp [go_sem], by simp [go_sem], by simp [go_sem], by simp [go_sem], by simp [go_sem], by simp [go_sem], by simp [go_sem], fun o => by simp [go_sem], fun o => by simp [go_sem], by simp, ((Below.refl _ _).alloc (Nat.le_refl _) _).alloc (by simp) _⟩
theorem Fr2.set0 {w wx : World} {v0 v1 v2 v3 v4 : Value} (h : Fr2 w wx v0 v1 v2 v3 v4) (u : Value) : Fr2 w (wx.setCell ⟨w.heap.size, 0, none⟩ u) u v1 v2 v3 v4 :=
  ⟨World.cell?_setCell_same _ _ _ h.a0, (World.cell?_setCell_other _ _ _ _ (by simp)).trans h.a1, (World.cell?_setCell_other _ _ _ _ (by simp)).trans h.a2, (World.cell?_setCell_other _ _ _ _ (by simp)).trans h.a3, (World.cell?_setCell_other _ _ _ _ (by simp)).trans h.a4, (World.cell?_setCell_far _ _ _ _ (show w.heap.size ≠ _ by simp)).trans h.r0, (World.cell?_setCell_far _ _ _ _ (show w.heap.size ≠ _ by simp)).trans h.r1, (World.cell?_setCell_far _ _ _ _ (show w.heap.size ≠ _ by simp)).trans h.r2, (World.cell?_setCell_far _ _ _ _ (show w.heap.size ≠ _ by simp)).trans h.r3, (World.cell?_setCell_far _ _ _ _ (show w.heap.size ≠ _ by simp)).trans h.r4, fun o => by simpa using h.fa o, fun o => by simpa using h.fr o, by simpa using h.hz, h.hB.setCell (Nat.le_refl _) _⟩
theorem Fr2.set1 {w wx : World} {v0 v1 v2 v3 v4 : Value} (h : Fr2 w wx v0 v1 v2 v3 v4) (u : Value) : Fr2 w (wx.setCell ⟨w.heap.size, 1, none⟩ u) v0 u v2 v3 v4 :=
  ⟨(World.cell?_setCell_other _ _ _ _ (by simp)).trans h.a0, World.cell?_setCell_same _ _ _ h.a1, (World.cell?_setCell_other _ _ _ _ (by simp)).trans h.a2, (World.cell?_setCell_other _ _ _ _ (by simp)).trans h.a3, (World.cell?_setCell_other _ _ _ _ (by simp)).trans h.a4, (World.cell?_setCell_far _ _ _ _ (show w.heap.size ≠ _ by simp)).trans h.r0, (World.cell?_setCell_far _ _ _ _ (show w.heap.size ≠ _ by simp)).trans h.r1, (World.cell?_setCell_far _ _ _ _ (show w.heap.size ≠ _ by simp)).trans h.r2, (World.cell?_setCell_far _ _ _ _ (show w.heap.size ≠ _ by simp)).trans h.r3, (World.cell?_setCell_far _ _ _ _ (show w.heap.size ≠ _ by simp)).trans h.r4, fun o => by simpa using h.fa o, fun o => by simpa using h.fr o, by simpa using h.hz, h.hB.setCell (Nat.le_refl _) _⟩
theorem Fr2.set2 {w wx : World} {v0 v1 v2 v3 v4 : Value} (h : Fr2 w wx v0 v1 v2 v3 v4) (u : Value) : Fr2 w (wx.setCell ⟨w.heap.size, 2, none⟩ u) v0 v1 u v3 v4 :=
  ⟨(World.cell?_setCell_other _ _ _ _ (by simp)).trans h.a0, (World.cell?_setCell_other _ _ _ _ (by simp)).trans h.a1, World.cell?_setCell_same _ _ _ h.a2, (World.cell?_setCell_other _ _ _ _ (by simp)).trans h.a3, (World.cell?_setCell_other _ _ _ _ (by simp)).trans h.a4, (World.cell?_setCell_far _ _ _ _ (show w.heap.size ≠ _ by simp)).trans h.r0, (World.cell?_setCell_far _ _ _ _ (show w.heap.size ≠ _ by simp)).trans h.r1, (World.cell?_setCell_far _ _ _ _ (show w.heap.size ≠ _ by simp)).trans h.r2, (World.cell?_setCell_far _ _ _ _ (show w.heap.size ≠ _ by simp)).trans h.r3, (World.cell?_setCell_far _ _ _ _ (show w.heap.size ≠ _ by simp)).trans h.r4, fun o => by simpa using h.fa o, fun o => by simpa using h.fr o, by simpa using h.hz, h.hB.setCell (Nat.le_refl _) _⟩
theorem Fr2.set3 {w wx : World} {v0 v1 v2 v3 v4 : Value} (h : Fr2 w wx v0 v1 v2 v3 v4) (u : Value) : Fr2 w (wx.setCell ⟨w.heap.size, 3, none⟩ u) v0 v1 v2 u v4 :=
  ⟨(World.cell?_setCell_other _ _ _ _ (by simp)).trans h.a0, (World.cell?_setCell_other _ _ _ _ (by simp)).trans h.a1, (World.cell?_setCell_other _ _ _ _ (by simp)).trans h.a2, World.cell?_setCell_same _ _ _ h.a3, (World.cell?_setCell_other _ _ _ _ (by simp)).trans h.a4, (World.cell?_setCell_far _ _ _ _ (show w.heap.size ≠ _ by simp)).trans h.r0, (World.cell?_setCell_far _ _ _ _ (show w.heap.size ≠ _ by simp)).trans h.r1, (World.cell?_setCell_far _ _ _ _ (show w.heap.size ≠ _ by simp)).trans h.r2, (World.cell?_setCell_far _ _ _ _ (show w.heap.size ≠ _ by simp)).trans h.r3, (World.cell?_setCell_far _ _ _ _ (show w.heap.size ≠ _ by simp)).trans h.r4, fun o => by simpa using h.fa o, fun o => by simpa using h.fr o, by simpa using h.hz, h.hB.setCell (Nat.le_refl _) _⟩
theorem Fr2.set4 {w wx : World} {v0 v1 v2 v3 v4 : Value} (h : Fr2 w wx v0 v1 v2 v3 v4) (u : Value) : Fr2 w (wx.setCell ⟨w.heap.size, 4, none⟩ u) v0 v1 v2 v3 u :=
  ⟨(World.cell?_setCell_other _ _ _ _ (by simp)).trans h.a0, (World.cell?_setCell_other _ _ _ _ (by simp)).trans h.a1, (World.cell?_setCell_other _ _ _ _ (by simp)).trans h.a2, (World.cell?_setCell_other _ _ _ _ (by simp)).trans h.a3, World.cell?_setCell_same _ _ _ h.a4, (World.cell?_setCell_far _ _ _ _ (show w.heap.size ≠ _ by simp)).trans h.r0, (World.cell?_setCell_far _ _ _ _ (show w.heap.size ≠ _ by simp)).trans h.r1, (World.cell?_setCell_far _ _ _ _ (show w.heap.size ≠ _ by simp)).trans h.r2, (World.cell?_setCell_far _ _ _ _ (show w.heap.size ≠ _ by simp)).trans h.r3, (World.cell?_setCell_far _ _ _ _ (show w.heap.size ≠ _ by simp)).trans h.r4, fun o => by simpa using h.fa o, fun o => by simpa using h.fr o, by simpa using h.hz, h.hB.setCell (Nat.le_refl _) _⟩
/-- children of which the first ones live -/
def onTo (R : Nat → Ch) (k : Nat) : Nat → Ch := fun j => if j < k then ⟨(R j).id, (R j).when, true⟩ else R j
def deadIds (R : Nat → Ch) (k : Nat) : List Int := idsOf R (ksUp (fun j => !(R j).lives) 0 k)
theorem deadIds_step (R : Nat → Ch) (k : Nat) : deadIds R (k + 1) = deadIds R k ++ (if (R k).lives then [] else [(R k).id]) := by
  unfold deadIds idsOf
  rw [ksUp_last _ (Nat.zero_le _)]
  cases (R k).lives <;> simp
theorem deadIds_len (R : Nat → Ch) (k : Nat) : (deadIds R k).length ≤ k := by
  unfold deadIds idsOf
  have := ksUp_len (fun j => !(R j).lives) 0 k
  simpa using this
theorem onTo_step (R : Nat → Ch) {k n : Nat} : ∀ i, i < n → chC (onTo R (k + 1)) i = if i = k then (chC (onTo R k) k).set 2 (.bool true) else chC (onTo R k) i := by
  intro i _
  unfold chC onTo
  by_cases e : i = k
  · subst e
    rw [if_pos rfl, if_pos (by omega), if_neg (by omega)]
    rfl
  · rw [if_neg e]
    by_cases h1 : i < k
    · simp only [if_pos h1, if_pos (show i < k + 1 by omega)]
    · simp only [if_neg h1, if_neg (show ¬ i < k + 1 by omega)]
theorem onTo_same (R : Nat → Ch) {k : Nat} (h : (R k).lives = true) : onTo R (k + 1) = onTo R k := by
  funext i
  unfold onTo
  by_cases e : i = k
  · subst e
    rw [if_pos (by omega), if_neg (by omega), ← h]
  · by_cases h1 : i < k
    · rw [if_pos h1, if_pos (by omega)]
    · rw [if_neg h1, if_neg (by omega)]
def BeginPost (W : Wd) (w : World) (e : Ending) (w' : World) : Prop :=
  ∃ A c B d C f, e = .returned (.tuple #[.agg #[.int .i64 W.how, .int .i64 W.most, .int .i64 W.window, .slice A W.n c, .slice B W.m d], .slice C (deadIds W.R W.n).length f, .int .i64 0]) ∧
    w'.ownsRow w.heap.size 43 3 (.slice A W.n c) W.n (flatC (chC (onTo W.R W.n)) W.n) ∧ w'.ownsRow w.heap.size 3 1 (.slice B W.m d) W.m (flatC (tmC W.T) W.m) ∧ OwnI w' w.heap.size (.slice C (deadIds W.R W.n).length f) (deadIds W.R W.n) ∧ Below w.heap.size w w'
set_option maxRecDepth 100000 in
set_option maxHeartbeats 2000000 in
theorem begin_ok (W : Wd) (A B : Option Addr) (c d : Nat) (w : World) (ha : ArgOk W A B c d w) (ok : OkW W) :
    Calls Try.prog 27 #[.agg #[.int .i64 W.how, .int .i64 W.most, .int .i64 W.window, .slice A W.n c, .slice B W.m d]] w (BeginPost W w) := by
  have HK := Lib.hid ok
  have ha1 := ok.2.1
  have ha2 := ok.2.2.1
  clear ok
  have HA := Lib.hid ha
  have HF0 := Lib.hid (Fr2.start w (.int .i64 W.how) (.int .i64 W.most) (.int .i64 W.window) (.slice A W.n c) (.slice B W.m d))
  clear ha
  go_enter Try.func27, Try.ntmps27
  go_wp2_with fail
  have ha := HA.out.below HF0.out.hB
  refine (check_ok W A B c d _ ha.hn ha.hc ha.hm ha.hd ha.hR ha.hT HK.out).mono ?_
  rintro e w3 ⟨rfl, hb⟩
  have hF := HF0.out.below hb
  have ha3 := HA.out.below hF.hB
  have HF3 := Lib.hid hF
  clear ha hb
  obtain ⟨a0, a1, a2, a3, a4, r0, r1, r2, r3, r4, fa, fr, hz, hB⟩ := hF
  go_wp2_with fail
  refine (copyOf_any W _ _ c d _ (by omega) (by omega) ha3.hA ha3.hB ha3.hR ha3.hT).mono ?_
  rintro e w4 ⟨A1, c1, B1, d1, rfl, hown, htimes, hord, hb⟩
  clear a0 a1 a2 a3 a4 r0 r1 r2 r3 r4 fa fr hz hB
  have hz3 := HF3.out.hz
  have hF4 := HF3.out.below hb
  have HF4 := Lib.hid hF4
  have HF5 := Lib.hid (((((HF4.out.set0 (.int .i64 W.how)).set1 (.int .i64 W.most)).set2 (.int .i64 W.window)).set3 (.slice A1 W.n c1)).set4 (.slice B1 W.m d1))
  have HG5 := Lib.hid (show w4.grownBy (((((w4.setCell ⟨w.heap.size, 0, none⟩ (.int .i64 W.how)).setCell ⟨w.heap.size, 1, none⟩ (.int .i64 W.most)).setCell ⟨w.heap.size, 2, none⟩ (.int .i64 W.window)).setCell ⟨w.heap.size, 3, none⟩ (.slice A1 W.n c1)).setCell ⟨w.heap.size, 4, none⟩ (.slice B1 W.m d1)) (some w.heap.size) from grown_set (grown_set (grown_set (grown_set (grown_set (grown_self _ _) _) _) _) _) _)
  have hgA : ∀ k, (Value.slice A1 W.n c1).ownBlock = some k → w3.heap.size ≤ k := fun k hk => (hown.lt k hk).1
  have hgB : ∀ k, (Value.slice B1 W.m d1).ownBlock = some k → w3.heap.size ≤ k := fun k hk => (htimes.lt k hk).1
  have HO5 := Lib.hid (own_grown hown HG5.out (fun k hk e => by have := hgA k hk; injection e with e; omega))
  have HT5 := Lib.hid (own_grown htimes HG5.out (fun k hk e => by have := hgB k hk; injection e with e; omega))
  have HORD := Lib.hid hord
  clear hown htimes hord hb hgA hgB ha3
  obtain ⟨a0, a1, a2, a3, a4, r0, r1, r2, r3, r4, fa, fr, hz, hB⟩ := hF4
  go_wp2_with fail
  clear a0 a1 a2 a3 a4 r0 r1 r2 r3 r4 fa fr hz hB
  generalize (((((w4.setCell ⟨w.heap.size, 0, none⟩ (.int .i64 W.how)).setCell ⟨w.heap.size, 1, none⟩ (.int .i64 W.most)).setCell ⟨w.heap.size, 2, none⟩ (.int .i64 W.window)).setCell ⟨w.heap.size, 3, none⟩ (.slice A1 W.n c1)).setCell ⟨w.heap.size, 4, none⟩ (.slice B1 W.m d1)) = w5 at *
  go_loopw [6, 7, 8, 20] (fun o _ _ x wr => ∃ (k : Nat) (v : Value), k ≤ W.n ∧ x = .int .i64 k ∧ v = o ∧ Fr2 w wr (.int .i64 W.how) (.int .i64 W.most) (.int .i64 W.window) (.slice A1 W.n c1) (.slice B1 W.m d1) ∧ wr.ownsRow w3.heap.size 43 3 (.slice A1 W.n c1) W.n (flatC (chC (onTo W.R k)) W.n) ∧ wr.ownsRow w3.heap.size 3 1 (.slice B1 W.m d1) W.m (flatC (tmC W.T) W.m) ∧ OwnI wr w5.heap.size v (deadIds W.R k) ∧ w5.heap.size ≤ wr.heap.size) (fun _ _ _ x _ => W.n - (intOf x).toNat)
  case atStart =>
    refine ⟨0, _, Nat.zero_le _, rfl, rfl, HF5.out, ?_, HT5.out, OwnI.nil _ _, Nat.le_refl _⟩
    have e : flatC (chC (onTo W.R 0)) W.n = flatC (chC W.R) W.n := flatC_congr fun k _ => by unfold chC onTo; simp
    rw [e]; exact HO5.out
  case round =>
    obtain ⟨k, v, hk, rfl, rfl, hF, hrow, htm, hout, hsz⟩ := hrel
    have HF6 := Lib.hid hF
    have HO6 := Lib.hid hrow
    have HT6 := Lib.hid htm
    have HU6 := Lib.hid hout
    obtain ⟨C, f, rfl, hcf, hcm, _⟩ := own_any hout
    by_cases hlt : k < W.n
    · obtain ⟨g, cc, hv, hbase, hglt, hnc, hcmm⟩ := own_form hrow (by omega)
      injection hv with hv1 _ hv2
      subst hv1 hv2
      have c0 : wr.cell? ⟨g, k * 3, none⟩ = some (.int .i64 (W.R k).id) := by have := own_cellC hrow (chC_len _) hlt (j := 0) (by omega); rw [Nat.add_zero] at this; rw [this]; simp [chC, onTo]
      have c2 : wr.cell? ⟨g, k * 3 + 2, none⟩ = some (.bool (W.R k).lives) := by rw [own_cellC hrow (chC_len _) hlt (j := 2) (by omega)]; simp [chC, onTo]
      have cf : ∀ o, wr.frozen? ⟨g, o, none⟩ = false := fun o => hrow.frozenAt o
      have hset := own_setC hrow (chC_len _) (j := 2) (by omega) (.bool true) (onTo_step W.R (k := k) (n := W.n))
      have HSET := Lib.hid hset
      have HG5' := Lib.hid (own_lt HO5.out).2
      have i1 : (0 : Int) ≤ (k : Int) := by omega
      have i2 : (k : Int) < (W.n : Int) := by omega
      have HST := Lib.hid (deadIds_step W.R k)
      have hdl := deadIds_len W.R k
      have hgs : g < w5.heap.size := (own_lt HO5.out).2
      obtain ⟨a0, a1, a2, a3, a4, r0, r1, r2, r3, r4, fa, fr, hz, hB⟩ := hF
      clear hrow htm hout hset
      cases hl : (W.R k).lives with
      | true =>
        rw [hl] at c2
        have HL := Lib.hid hl
        clear hl
        go_wp2_with fail
        go_roundw
        case rel =>
          refine ⟨k + 1, _, by omega, by go_num, rfl, HF6.out, ?_, HT6.out, ?_, hsz⟩
          · rw [onTo_same _ HL.out]; exact HO6.out
          · have e : deadIds W.R (k + 1) = deadIds W.R k := by rw [HST.out, HL.out]; simp
            unfold OwnI
            rw [e]
            exact HU6.out
        case measure => simp [intOf]; omega
      | false =>
        rw [hl] at c2
        have HL := Lib.hid hl
        clear hl
        obtain ⟨idk, hid⟩ : ∃ x, (W.R k).id = x := ⟨_, rfl⟩
        have HID := Lib.hid hid
        rw [hid] at c0
        clear hid
        have HU7 := Lib.hid (HU6.out.grown HSET.out.2 (fun q hq e => by have := (HU6.out.blk q hq).1; injection e with e; omega))
        go_wp2_with (at_builtin; refine wpList_append_int rfl _ _ rfl w5.heap.size (.slice C (deadIds W.R k).length f) _ rfl HU7.out wr.heap.size (by simp) idk rfl (by omega) (by simp; omega) ?_; intro v9 w9 hown9 hg9 hor9; have HO9 := Lib.hid hown9; have HG9 := Lib.hid hg9; clear hown9 hg9 hor9)
        go_wp2_with fail
        go_roundw
        case rel =>
          have hb9 : ∀ q, (Value.slice C (deadIds W.R k).length f).ownBlock = some q → w5.heap.size ≤ q := fun q hq => (HU6.out.blk q hq).1
          have hz5 := (own_lt HO5.out).1
          have hzz := HG9.out.size
          refine ⟨k + 1, v9, by omega, by go_num, rfl, ?_, ?_, ?_, ?_, by simp at hzz; omega⟩
          · exact (HF6.out.grown HSET.out.2 (by omega)).grow HG9.out (fun q hq => by have := hb9 q hq; omega)
          · exact own_grown HSET.out.1 HG9.out (fun q hq e => by have hq' : g = q := Option.some.inj hq; have := hb9 q e; omega)
          · refine own_grown (own_grown HT6.out HSET.out.2 (fun q hq e => ?_)) HG9.out (fun q hq e => ?_)
            · injection e with e
              cases B1 with
              | none => cases hq
              | some bb => have hq' : bb.block = q := Option.some.inj hq; have := HORD.out _ bb rfl rfl; simp at this; omega
            · have := (HT5.out.lt q hq).2; have := hb9 q e; omega
          · have e : deadIds W.R (k + 1) = deadIds W.R k ++ [idk] := by rw [HST.out, HL.out, HID.out]; simp
            rw [e]
            exact HO9.out
        case measure => simp [intOf]; omega
    · obtain rfl : k = W.n := by omega
      obtain ⟨a0, a1, a2, a3, a4, r0, r1, r2, r3, r4, fa, fr, hz, hB⟩ := hF
      clear hrow htm hout
      go_wp2_with fail
      refine bodyPost_ret (v := .tuple #[.agg #[.int .i64 W.how, .int .i64 W.most, .int .i64 W.window, .slice A1 W.n c1, .slice B1 W.m d1], .slice C (deadIds W.R W.n).length f, .int .i64 0]) (by simp [results, Try.results27, go_sem, r0, r1, r2, r3, r4]) rfl ?_
      have h5 := HF5.out.hz
      refine ⟨A1, c1, B1, d1, C, f, rfl, ?_, ?_, ?_, ?_⟩
      · exact own_mono (own_set (own_set (own_set (own_set (own_set (HO6.out) (by omega)) (by omega)) (by omega)) (by omega)) (by omega)) (by omega)
      · exact own_mono (own_set (own_set (own_set (own_set (own_set (HT6.out) (by omega)) (by omega)) (by omega)) (by omega)) (by omega)) (by omega)
      · exact own_mono (own_set (own_set (own_set (own_set (own_set (HU6.out) (by omega)) (by omega)) (by omega)) (by omega)) (by omega)) (by omega)
      · exact below_set (below_set (below_set (below_set (below_set (HF6.out.hB) (by omega)) (by omega)) (by omega)) (by omega)) (by omega)
end Go.Proofs.Ytcedogmhmpcfmaa.Wa
