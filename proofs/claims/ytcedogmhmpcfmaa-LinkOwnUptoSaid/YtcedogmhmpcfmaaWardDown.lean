/- Contract of ward.Down. -/
import Derived.Test.YtcedogmhmpcfmaaWardStop
import Derived.IntWalk
namespace Go.Proofs.Ytcedogmhmpcfmaa.Wa
open Go.RowKit
set_option linter.unusedVariables false
theorem check_ok (W : Wd) (A B : Option Addr) (c d : Nat) (w : World) (hn : W.n ≤ c) (hc : c ≤ 9223372036854775807) (hm : W.m ≤ d) (hd : d ≤ 9223372036854775807) (hR : Rd w 3 (chC W.R) A W.n) (hT : Rd w 1 (tmC W.T) B W.m) (ok : OkW W) :
    Calls Try.prog 45 #[.agg #[.int .i64 W.how, .int .i64 W.most, .int .i64 W.window, .slice A W.n c, .slice B W.m d]] w fun e w' => e = .returned (.int .i64 0) ∧ Below w.heap.size w w' :=
  (check_any W A B c d w hn hc hm hd hR hT).mono fun e w' ⟨x, he, hx, hb⟩ => ⟨by rw [he, hx.2 ok], hb⟩
theorem check_bad (W : Wd) (A B : Option Addr) (c d : Nat) (w : World) (hn : W.n ≤ c) (hc : c ≤ 9223372036854775807) (hm : W.m ≤ d) (hd : d ≤ 9223372036854775807) (hR : Rd w 3 (chC W.R) A W.n) (hT : Rd w 1 (tmC W.T) B W.m) (ok : ¬ OkW W) :
    Calls Try.prog 45 #[.agg #[.int .i64 W.how, .int .i64 W.most, .int .i64 W.window, .slice A W.n c, .slice B W.m d]] w fun e w' => ∃ x : Int, e = .returned (.int .i64 x) ∧ x ≠ 0 ∧ Below w.heap.size w w' :=
  (check_any W A B c d w hn hc hm hd hR hT).mono fun e w' ⟨x, he, hx, hb⟩ => ⟨x, he, fun h => ok (hx.1 h), hb⟩
def DownErr (w : World) (e : Ending) (w' : World) : Prop := ∃ x : Int, x ≠ 0 ∧ e = .returned (.tuple #[.agg #[.int .i64 0, .int .i64 0, .int .i64 0, .slice none 0 0, .slice none 0 0], .agg #[.slice none 0 0, .slice none 0 0, .bool false], .int .i64 x]) ∧ Below w.heap.size w w'
/-- what is asked of a supervisor that is an argument -/
structure ArgOk (W : Wd) (A B : Option Addr) (c d : Nat) (w : World) : Prop where
  hn : W.n ≤ c
  hc : c ≤ 9223372036854775807
  hm : W.m ≤ d
  hd : d ≤ 9223372036854775807
  hA : A = none → W.n = 0
  hB : B = none → W.m = 0
  hR : Rd w 3 (chC W.R) A W.n
  hT : Rd w 1 (tmC W.T) B W.m
theorem ArgOk.below {W : Wd} {A B : Option Addr} {c d : Nat} {w w' : World} (h : ArgOk W A B c d w) (hb : Below w.heap.size w w') : ArgOk W A B c d w' :=
  ⟨h.hn, h.hc, h.hm, h.hd, h.hA, h.hB, h.hR.below hb, h.hT.below hb⟩
/-- the four boxes of a call of Down -/
structure Fr (w wx : World) (v0 v1 v2 v3 v4 : Value) (now : Int) : Prop where
  a0 : wx.cell? ⟨w.heap.size, 0, none⟩ = some v0
  a1 : wx.cell? ⟨w.heap.size, 1, none⟩ = some v1
  a2 : wx.cell? ⟨w.heap.size, 2, none⟩ = some v2
  a3 : wx.cell? ⟨w.heap.size, 3, none⟩ = some v3
  a4 : wx.cell? ⟨w.heap.size, 4, none⟩ = some v4
  b0 : wx.cell? ⟨w.heap.size + 1, 0, none⟩ = some (.int .i64 now)
  r0 : wx.cell? ⟨w.heap.size + 1 + 1, 0, none⟩ = some (.int .i64 0)
  r1 : wx.cell? ⟨w.heap.size + 1 + 1, 1, none⟩ = some (.int .i64 0)
  r2 : wx.cell? ⟨w.heap.size + 1 + 1, 2, none⟩ = some (.int .i64 0)
  r3 : wx.cell? ⟨w.heap.size + 1 + 1, 3, none⟩ = some (.slice none 0 0)
  r4 : wx.cell? ⟨w.heap.size + 1 + 1, 4, none⟩ = some (.slice none 0 0)
  s0 : wx.cell? ⟨w.heap.size + 1 + 1 + 1, 0, none⟩ = some (.slice none 0 0)
  s1 : wx.cell? ⟨w.heap.size + 1 + 1 + 1, 1, none⟩ = some (.slice none 0 0)
  s2 : wx.cell? ⟨w.heap.size + 1 + 1 + 1, 2, none⟩ = some (.bool false)
  fa : ∀ o, wx.frozen? ⟨w.heap.size, o, none⟩ = false
  fb : ∀ o, wx.frozen? ⟨w.heap.size + 1, o, none⟩ = false
  fr : ∀ o, wx.frozen? ⟨w.heap.size + 1 + 1, o, none⟩ = false
  fs : ∀ o, wx.frozen? ⟨w.heap.size + 1 + 1 + 1, o, none⟩ = false
  hz : w.heap.size + 1 + 1 + 1 < wx.heap.size
  hB : Below w.heap.size w wx
theorem Fr.grow {w wx wy : World} {v0 v1 v2 v3 v4 : Value} {now : Int} {row : Option Nat} (h : Fr w wx v0 v1 v2 v3 v4 now) (hg : wx.grownBy wy row) (hne : ∀ k, row = some k → w.heap.size + 1 + 1 + 1 < k) : Fr w wy v0 v1 v2 v3 v4 now :=
  ⟨(grown_cell hg (by have := h.hz; omega) (fun e => by have := hne _ e.symm; omega)).trans h.a0, (grown_cell hg (by have := h.hz; omega) (fun e => by have := hne _ e.symm; omega)).trans h.a1, (grown_cell hg (by have := h.hz; omega) (fun e => by have := hne _ e.symm; omega)).trans h.a2, (grown_cell hg (by have := h.hz; omega) (fun e => by have := hne _ e.symm; omega)).trans h.a3, (grown_cell hg (by have := h.hz; omega) (fun e => by have := hne _ e.symm; omega)).trans h.a4, (grown_cell hg (by have := h.hz; omega) (fun e => by have := hne _ e.symm; omega)).trans h.b0, (grown_cell hg (by have := h.hz; omega) (fun e => by have := hne _ e.symm; omega)).trans h.r0, (grown_cell hg (by have := h.hz; omega) (fun e => by have := hne _ e.symm; omega)).trans h.r1, (grown_cell hg (by have := h.hz; omega) (fun e => by have := hne _ e.symm; omega)).trans h.r2, (grown_cell hg (by have := h.hz; omega) (fun e => by have := hne _ e.symm; omega)).trans h.r3, (grown_cell hg (by have := h.hz; omega) (fun e => by have := hne _ e.symm; omega)).trans h.r4, (grown_cell hg (by have := h.hz; omega) (fun e => by have := hne _ e.symm; omega)).trans h.s0, (grown_cell hg (by have := h.hz; omega) (fun e => by have := hne _ e.symm; omega)).trans h.s1, (grown_cell hg (by have := h.hz; omega) (fun e => by have := hne _ e.symm; omega)).trans h.s2, fun o => (grown_frozen hg (by have := h.hz; omega) (fun e => by have := hne _ e.symm; omega)).trans (h.fa o), fun o => (grown_frozen hg (by have := h.hz; omega) (fun e => by have := hne _ e.symm; omega)).trans (h.fb o), fun o => (grown_frozen hg (by have := h.hz; omega) (fun e => by have := hne _ e.symm; omega)).trans (h.fr o), fun o => (grown_frozen hg (by have := h.hz; omega) (fun e => by have := hne _ e.symm; omega)).trans (h.fs o), Nat.lt_of_lt_of_le h.hz hg.size, below_grown h.hB (by have := h.hz; omega) hg (fun k hk => by have := hne k hk; omega)⟩
theorem Fr.grown {w wx wy : World} {v0 v1 v2 v3 v4 : Value} {now : Int} {g : Nat} (h : Fr w wx v0 v1 v2 v3 v4 now) (hg : wx.grownBy wy (some g)) (hne : w.heap.size + 1 + 1 + 1 < g) : Fr w wy v0 v1 v2 v3 v4 now := h.grow hg (fun k hk => by injection hk with hk; omega)
theorem Fr.below {w wx wy : World} {v0 v1 v2 v3 v4 : Value} {now : Int} (h : Fr w wx v0 v1 v2 v3 v4 now) (hb : Below wx.heap.size wx wy) : Fr w wy v0 v1 v2 v3 v4 now := h.grow (grown_below (g := none) hb) (fun k hk => by cases hk)
theorem Fr.start (w : World) (v0 v1 v2 v3 v4 : Value) (now : Int) : Fr w ((((w.alloc (.cells #[v0, v1, v2, v3, v4] 32)).alloc (.cells #[.int .i64 now] 3)).alloc (.cells #[.int .i64 0, .int .i64 0, .int .i64 0, .slice none 0 0, .slice none 0 0] 32)).alloc (.cells #[.slice none 0 0, .slice none 0 0, .bool false] 69)) v0 v1 v2 v3 v4 now :=
  ⟨by simp [go_sem], by simp [go_sem], by simp [go_sem], by simp [go_sem], by simp [go_sem], by simp [go_sem], by simp [go_sem], by simp [go_sem], by simp [go_sem], by simp [go_sem], by simp [go_sem], by simp [go_sem], by simp [go_sem], by simp [go_sem], fun o => by simp [go_sem], fun o => by simp [go_sem], fun o => by simp [go_sem], fun o => by simp [go_sem], by simp, ((((Below.refl _ _).alloc (Nat.le_refl _) _).alloc (by simp) _).alloc (by simp; omega) _).alloc (by simp; omega) _⟩
theorem Fr.set0 {w wx : World} {v0 v1 v2 v3 v4 : Value} {now : Int} (h : Fr w wx v0 v1 v2 v3 v4 now) (u : Value) : Fr w (wx.setCell ⟨w.heap.size, 0, none⟩ u) u v1 v2 v3 v4 now :=
  ⟨World.cell?_setCell_same _ _ _ h.a0, (World.cell?_setCell_other _ _ _ _ (by simp)).trans h.a1, (World.cell?_setCell_other _ _ _ _ (by simp)).trans h.a2, (World.cell?_setCell_other _ _ _ _ (by simp)).trans h.a3, (World.cell?_setCell_other _ _ _ _ (by simp)).trans h.a4, (World.cell?_setCell_far _ _ _ _ (show w.heap.size ≠ _ by simp; try omega)).trans h.b0, (World.cell?_setCell_far _ _ _ _ (show w.heap.size ≠ _ by simp; try omega)).trans h.r0, (World.cell?_setCell_far _ _ _ _ (show w.heap.size ≠ _ by simp; try omega)).trans h.r1, (World.cell?_setCell_far _ _ _ _ (show w.heap.size ≠ _ by simp; try omega)).trans h.r2, (World.cell?_setCell_far _ _ _ _ (show w.heap.size ≠ _ by simp; try omega)).trans h.r3, (World.cell?_setCell_far _ _ _ _ (show w.heap.size ≠ _ by simp; try omega)).trans h.r4, (World.cell?_setCell_far _ _ _ _ (show w.heap.size ≠ _ by simp; try omega)).trans h.s0, (World.cell?_setCell_far _ _ _ _ (show w.heap.size ≠ _ by simp; try omega)).trans h.s1, (World.cell?_setCell_far _ _ _ _ (show w.heap.size ≠ _ by simp; try omega)).trans h.s2, fun o => by simpa using h.fa o, fun o => by simpa using h.fb o, fun o => by simpa using h.fr o, fun o => by simpa using h.fs o, by simpa using h.hz, h.hB.setCell (Nat.le_refl _) _⟩
theorem Fr.set1 {w wx : World} {v0 v1 v2 v3 v4 : Value} {now : Int} (h : Fr w wx v0 v1 v2 v3 v4 now) (u : Value) : Fr w (wx.setCell ⟨w.heap.size, 1, none⟩ u) v0 u v2 v3 v4 now :=
  ⟨(World.cell?_setCell_other _ _ _ _ (by simp)).trans h.a0, World.cell?_setCell_same _ _ _ h.a1, (World.cell?_setCell_other _ _ _ _ (by simp)).trans h.a2, (World.cell?_setCell_other _ _ _ _ (by simp)).trans h.a3, (World.cell?_setCell_other _ _ _ _ (by simp)).trans h.a4, (World.cell?_setCell_far _ _ _ _ (show w.heap.size ≠ _ by simp; try omega)).trans h.b0, (World.cell?_setCell_far _ _ _ _ (show w.heap.size ≠ _ by simp; try omega)).trans h.r0, (World.cell?_setCell_far _ _ _ _ (show w.heap.size ≠ _ by simp; try omega)).trans h.r1, (World.cell?_setCell_far _ _ _ _ (show w.heap.size ≠ _ by simp; try omega)).trans h.r2, (World.cell?_setCell_far _ _ _ _ (show w.heap.size ≠ _ by simp; try omega)).trans h.r3, (World.cell?_setCell_far _ _ _ _ (show w.heap.size ≠ _ by simp; try omega)).trans h.r4, (World.cell?_setCell_far _ _ _ _ (show w.heap.size ≠ _ by simp; try omega)).trans h.s0, (World.cell?_setCell_far _ _ _ _ (show w.heap.size ≠ _ by simp; try omega)).trans h.s1, (World.cell?_setCell_far _ _ _ _ (show w.heap.size ≠ _ by simp; try omega)).trans h.s2, fun o => by simpa using h.fa o, fun o => by simpa using h.fb o, fun o => by simpa using h.fr o, fun o => by simpa using h.fs o, by simpa using h.hz, h.hB.setCell (Nat.le_refl _) _⟩
theorem Fr.set2 {w wx : World} {v0 v1 v2 v3 v4 : Value} {now : Int} (h : Fr w wx v0 v1 v2 v3 v4 now) (u : Value) : Fr w (wx.setCell ⟨w.heap.size, 2, none⟩ u) v0 v1 u v3 v4 now :=
  ⟨(World.cell?_setCell_other _ _ _ _ (by simp)).trans h.a0, (World.cell?_setCell_other _ _ _ _ (by simp)).trans h.a1, World.cell?_setCell_same _ _ _ h.a2, (World.cell?_setCell_other _ _ _ _ (by simp)).trans h.a3, (World.cell?_setCell_other _ _ _ _ (by simp)).trans h.a4, (World.cell?_setCell_far _ _ _ _ (show w.heap.size ≠ _ by simp; try omega)).trans h.b0, (World.cell?_setCell_far _ _ _ _ (show w.heap.size ≠ _ by simp; try omega)).trans h.r0, (World.cell?_setCell_far _ _ _ _ (show w.heap.size ≠ _ by simp; try omega)).trans h.r1, (World.cell?_setCell_far _ _ _ _ (show w.heap.size ≠ _ by simp; try omega)).trans h.r2, (World.cell?_setCell_far _ _ _ _ (show w.heap.size ≠ _ by simp; try omega)).trans h.r3, (World.cell?_setCell_far _ _ _ _ (show w.heap.size ≠ _ by simp; try omega)).trans h.r4, (World.cell?_setCell_far _ _ _ _ (show w.heap.size ≠ _ by simp; try omega)).trans h.s0, (World.cell?_setCell_far _ _ _ _ (show w.heap.size ≠ _ by simp; try omega)).trans h.s1, (World.cell?_setCell_far _ _ _ _ (show w.heap.size ≠ _ by simp; try omega)).trans h.s2, fun o => by simpa using h.fa o, fun o => by simpa using h.fb o, fun o => by simpa using h.fr o, fun o => by simpa using h.fs o, by simpa using h.hz, h.hB.setCell (Nat.le_refl _) _⟩
theorem Fr.set3 {w wx : World} {v0 v1 v2 v3 v4 : Value} {now : Int} (h : Fr w wx v0 v1 v2 v3 v4 now) (u : Value) : Fr w (wx.setCell ⟨w.heap.size, 3, none⟩ u) v0 v1 v2 u v4 now :=
  ⟨(World.cell?_setCell_other _ _ _ _ (by simp)).trans h.a0, (World.cell?_setCell_other _ _ _ _ (by simp)).trans h.a1, (World.cell?_setCell_other _ _ _ _ (by simp)).trans h.a2, World.cell?_setCell_same _ _ _ h.a3, (World.cell?_setCell_other _ _ _ _ (by simp)).trans h.a4, (World.cell?_setCell_far _ _ _ _ (show w.heap.size ≠ _ by simp; try omega)).trans h.b0, (World.cell?_setCell_far _ _ _ _ (show w.heap.size ≠ _ by simp; try omega)).trans h.r0, (World.cell?_setCell_far _ _ _ _ (show w.heap.size ≠ _ by simp; try omega)).trans h.r1, (World.cell?_setCell_far _ _ _ _ (show w.heap.size ≠ _ by simp; try omega)).trans h.r2, (World.cell?_setCell_far _ _ _ _ (show w.heap.size ≠ _ by simp; try omega)).trans h.r3, (World.cell?_setCell_far _ _ _ _ (show w.heap.size ≠ _ by simp; try omega)).trans h.r4, (World.cell?_setCell_far _ _ _ _ (show w.heap.size ≠ _ by simp; try omega)).trans h.s0, (World.cell?_setCell_far _ _ _ _ (show w.heap.size ≠ _ by simp; try omega)).trans h.s1, (World.cell?_setCell_far _ _ _ _ (show w.heap.size ≠ _ by simp; try omega)).trans h.s2, fun o => by simpa using h.fa o, fun o => by simpa using h.fb o, fun o => by simpa using h.fr o, fun o => by simpa using h.fs o, by simpa using h.hz, h.hB.setCell (Nat.le_refl _) _⟩
theorem Fr.set4 {w wx : World} {v0 v1 v2 v3 v4 : Value} {now : Int} (h : Fr w wx v0 v1 v2 v3 v4 now) (u : Value) : Fr w (wx.setCell ⟨w.heap.size, 4, none⟩ u) v0 v1 v2 v3 u now :=
  ⟨(World.cell?_setCell_other _ _ _ _ (by simp)).trans h.a0, (World.cell?_setCell_other _ _ _ _ (by simp)).trans h.a1, (World.cell?_setCell_other _ _ _ _ (by simp)).trans h.a2, (World.cell?_setCell_other _ _ _ _ (by simp)).trans h.a3, World.cell?_setCell_same _ _ _ h.a4, (World.cell?_setCell_far _ _ _ _ (show w.heap.size ≠ _ by simp; try omega)).trans h.b0, (World.cell?_setCell_far _ _ _ _ (show w.heap.size ≠ _ by simp; try omega)).trans h.r0, (World.cell?_setCell_far _ _ _ _ (show w.heap.size ≠ _ by simp; try omega)).trans h.r1, (World.cell?_setCell_far _ _ _ _ (show w.heap.size ≠ _ by simp; try omega)).trans h.r2, (World.cell?_setCell_far _ _ _ _ (show w.heap.size ≠ _ by simp; try omega)).trans h.r3, (World.cell?_setCell_far _ _ _ _ (show w.heap.size ≠ _ by simp; try omega)).trans h.r4, (World.cell?_setCell_far _ _ _ _ (show w.heap.size ≠ _ by simp; try omega)).trans h.s0, (World.cell?_setCell_far _ _ _ _ (show w.heap.size ≠ _ by simp; try omega)).trans h.s1, (World.cell?_setCell_far _ _ _ _ (show w.heap.size ≠ _ by simp; try omega)).trans h.s2, fun o => by simpa using h.fa o, fun o => by simpa using h.fb o, fun o => by simpa using h.fr o, fun o => by simpa using h.fs o, by simpa using h.hz, h.hB.setCell (Nat.le_refl _) _⟩
set_option maxRecDepth 100000 in
set_option maxHeartbeats 1000000 in
theorem down_e1 (W : Wd) (A B : Option Addr) (c d : Nat) (id : Int) (failed : Bool) (now : Int) (w : World) (ha : ArgOk W A B c d w) (ok : ¬ OkW W) :
    Calls Try.prog 26 #[.agg #[.int .i64 W.how, .int .i64 W.most, .int .i64 W.window, .slice A W.n c, .slice B W.m d], .int .i64 id, .bool failed, .int .i64 now] w (DownErr w) := by
  have HK := Lib.hid ok
  clear ok
  have HA := Lib.hid ha
  have HF0 := Lib.hid (Fr.start w (.int .i64 W.how) (.int .i64 W.most) (.int .i64 W.window) (.slice A W.n c) (.slice B W.m d) now)
  clear ha
  go_enter Try.func26, Try.ntmps26
  go_wp2_with fail
  have ha := HA.out.below ((((Below.refl w.heap.size w).alloc (Nat.le_refl _) (.cells #[.int .i64 W.how, .int .i64 W.most, .int .i64 W.window, .slice A W.n c, .slice B W.m d] 32)).alloc (by simp) (.cells #[.int .i64 now] 3)).alloc (by simp; omega) (.cells #[.int .i64 0, .int .i64 0, .int .i64 0, .slice none 0 0, .slice none 0 0] 32) |>.alloc (by simp; omega) (.cells #[.slice none 0 0, .slice none 0 0, .bool false] 69))
  refine (check_bad W A B c d _ ha.hn ha.hc ha.hm ha.hd ha.hR ha.hT HK.out).mono ?_
  rintro e w1 ⟨x, rfl, hx, hb⟩
  have hF := HF0.out.below hb
  clear ha hb
  have hx0 : (x != 0) = true := by simpa using hx
  have HF := Lib.hid hF
  obtain ⟨a0, a1, a2, a3, a4, b0, r0, r1, r2, r3, r4, s0, s1, s2, fa, fb, fr, fs, hz, hB⟩ := hF
  go_wp2_with fail
  refine bodyPost_ret (v := .tuple #[.agg #[.int .i64 0, .int .i64 0, .int .i64 0, .slice none 0 0, .slice none 0 0], .agg #[.slice none 0 0, .slice none 0 0, .bool false], .int .i64 x]) (by simp [results, Try.results26, go_sem, r0, r1, r2, r3, r4, s0, s1, s2]) rfl ?_
  refine ⟨x, by omega, rfl, ?_⟩
  exact below_set (below_set (below_set (below_set (below_set (below_set (below_set (below_set HF.out.hB (by omega)) (by omega)) (by omega)) (by omega)) (by omega)) (by omega)) (by omega)) (by omega)
set_option maxRecDepth 100000 in
set_option maxHeartbeats 1000000 in
theorem down_e2 (W : Wd) (A B : Option Addr) (c d : Nat) (id : Int) (failed : Bool) (now : Int) (w : World) (ha : ArgOk W A B c d w) (ok : OkW W) (hi : ixOf (idB W.R id) W.n = -1) :
    Calls Try.prog 26 #[.agg #[.int .i64 W.how, .int .i64 W.most, .int .i64 W.window, .slice A W.n c, .slice B W.m d], .int .i64 id, .bool failed, .int .i64 now] w (DownErr w) := by
  have HK := Lib.hid ok
  have HI := Lib.hid hi
  clear ok hi
  have HA := Lib.hid ha
  have HF0 := Lib.hid (Fr.start w (.int .i64 W.how) (.int .i64 W.most) (.int .i64 W.window) (.slice A W.n c) (.slice B W.m d) now)
  clear ha
  go_enter Try.func26, Try.ntmps26
  go_wp2_with fail
  have ha := HA.out.below ((((Below.refl w.heap.size w).alloc (Nat.le_refl _) (.cells #[.int .i64 W.how, .int .i64 W.most, .int .i64 W.window, .slice A W.n c, .slice B W.m d] 32)).alloc (by simp) (.cells #[.int .i64 now] 3)).alloc (by simp; omega) (.cells #[.int .i64 0, .int .i64 0, .int .i64 0, .slice none 0 0, .slice none 0 0] 32) |>.alloc (by simp; omega) (.cells #[.slice none 0 0, .slice none 0 0, .bool false] 69))
  refine (check_ok W A B c d _ ha.hn ha.hc ha.hm ha.hd ha.hR ha.hT HK.out).mono ?_
  rintro e w1 ⟨rfl, hb⟩
  have hF := HF0.out.below hb
  have ha1 := HA.out.below hF.hB
  clear ha hb
  have HF1 := Lib.hid hF
  obtain ⟨a0, a1, a2, a3, a4, b0, r0, r1, r2, r3, r4, s0, s1, s2, fa, fb, fr, fs, hz, hB⟩ := hF
  go_wp2_with fail
  refine (find_any A W.n c W.R id _ (by have := ha1.hn; have := ha1.hc; omega) ha1.hR).mono ?_
  rintro e w2 ⟨rfl, hb⟩
  clear a0 a1 a2 a3 a4 b0 r0 r1 r2 r3 r4 s0 s1 s2 fa fb fr fs hz hB
  have hF := HF1.out.below hb
  have HF := Lib.hid hF
  rw [HI.out]
  clear hb ha1
  obtain ⟨a0, a1, a2, a3, a4, b0, r0, r1, r2, r3, r4, s0, s1, s2, fa, fb, fr, fs, hz, hB⟩ := hF
  go_wp2_with fail
  refine bodyPost_ret (v := .tuple #[.agg #[.int .i64 0, .int .i64 0, .int .i64 0, .slice none 0 0, .slice none 0 0], .agg #[.slice none 0 0, .slice none 0 0, .bool false], .int .i64 4]) (by simp [results, Try.results26, go_sem, r0, r1, r2, r3, r4, s0, s1, s2]) rfl ?_
  refine ⟨4, by omega, rfl, ?_⟩
  exact below_set (below_set (below_set (below_set (below_set (below_set (below_set (below_set HF.out.hB (by omega)) (by omega)) (by omega)) (by omega)) (by omega)) (by omega)) (by omega)) (by omega)
set_option maxRecDepth 100000 in
set_option maxHeartbeats 1000000 in
theorem down_e3 (W : Wd) (A B : Option Addr) (c d : Nat) (id : Int) (failed : Bool) (now : Int) (w : World) (ha : ArgOk W A B c d w) (ok : OkW W) (i : Nat) (hi : ixOf (idB W.R id) W.n = i) (hin : i < W.n) (hl : (W.R i).lives = false) :
    Calls Try.prog 26 #[.agg #[.int .i64 W.how, .int .i64 W.most, .int .i64 W.window, .slice A W.n c, .slice B W.m d], .int .i64 id, .bool failed, .int .i64 now] w (DownErr w) := by
  have HK := Lib.hid ok
  have HI := Lib.hid hi
  have HL := Lib.hid hl
  clear ok hi hl
  have HA := Lib.hid ha
  have HF0 := Lib.hid (Fr.start w (.int .i64 W.how) (.int .i64 W.most) (.int .i64 W.window) (.slice A W.n c) (.slice B W.m d) now)
  clear ha
  go_enter Try.func26, Try.ntmps26
  go_wp2_with fail
  have ha := HA.out.below ((((Below.refl w.heap.size w).alloc (Nat.le_refl _) (.cells #[.int .i64 W.how, .int .i64 W.most, .int .i64 W.window, .slice A W.n c, .slice B W.m d] 32)).alloc (by simp) (.cells #[.int .i64 now] 3)).alloc (by simp; omega) (.cells #[.int .i64 0, .int .i64 0, .int .i64 0, .slice none 0 0, .slice none 0 0] 32) |>.alloc (by simp; omega) (.cells #[.slice none 0 0, .slice none 0 0, .bool false] 69))
  refine (check_ok W A B c d _ ha.hn ha.hc ha.hm ha.hd ha.hR ha.hT HK.out).mono ?_
  rintro e w1 ⟨rfl, hb⟩
  have hF := HF0.out.below hb
  have ha1 := HA.out.below hF.hB
  clear ha hb
  have HF1 := Lib.hid hF
  obtain ⟨a0, a1, a2, a3, a4, b0, r0, r1, r2, r3, r4, s0, s1, s2, fa, fb, fr, fs, hz, hB⟩ := hF
  go_wp2_with fail
  refine (find_any A W.n c W.R id _ (by have := ha1.hn; have := ha1.hc; omega) ha1.hR).mono ?_
  rintro e w2 ⟨rfl, hb⟩
  clear a0 a1 a2 a3 a4 b0 r0 r1 r2 r3 r4 s0 s1 s2 fa fb fr fs hz hB
  have hF := HF1.out.below hb
  have HF := Lib.hid hF
  rw [HI.out]
  clear hb ha1
  obtain ⟨b, off, hAA, hb0, hcell⟩ := HA.out.hR (by omega)
  have k0 : w2.cell? ⟨b, off + i * 3, none⟩ = some (.int .i64 (W.R i).id) := (hF.hB.cell (p := ⟨b, _, none⟩) hb0).trans (hcell i hin 0 _ rfl)
  have k1 : w2.cell? ⟨b, off + i * 3 + 1, none⟩ = some (.int .i64 (W.R i).when) := (hF.hB.cell (p := ⟨b, _, none⟩) hb0).trans (hcell i hin 1 _ rfl)
  have k2 : w2.cell? ⟨b, off + i * 3 + 2, none⟩ = some (.bool (W.R i).lives) := (hF.hB.cell (p := ⟨b, _, none⟩) hb0).trans (hcell i hin 2 _ rfl)
  have i1 : (0 : Int) ≤ (i : Int) := by omega
  have i2 : (i : Int) < (W.n : Int) := by omega
  clear hcell
  rw [HL.out] at k2
  obtain ⟨a0, a1, a2, a3, a4, b0, r0, r1, r2, r3, r4, s0, s1, s2, fa, fb, fr, fs, hz, hB⟩ := hF
  subst hAA
  go_wp2_with fail
  refine bodyPost_ret (v := .tuple #[.agg #[.int .i64 0, .int .i64 0, .int .i64 0, .slice none 0 0, .slice none 0 0], .agg #[.slice none 0 0, .slice none 0 0, .bool false], .int .i64 8]) (by simp [results, Try.results26, go_sem, r0, r1, r2, r3, r4, s0, s1, s2]) rfl ?_
  refine ⟨8, by omega, rfl, ?_⟩
  exact below_set (below_set (below_set (below_set (below_set (below_set (below_set (below_set HF.out.hB (by omega)) (by omega)) (by omega)) (by omega)) (by omega)) (by omega)) (by omega)) (by omega)
set_option maxRecDepth 100000 in
set_option maxHeartbeats 1000000 in
theorem down_e4a (W : Wd) (A B : Option Addr) (c d : Nat) (id : Int) (failed : Bool) (now : Int) (w : World) (ha : ArgOk W A B c d w) (ok : OkW W) (i : Nat) (hi : ixOf (idB W.R id) W.n = i) (hin : i < W.n) (hl : (W.R i).lives = true) (hnow : now < 0) :
    Calls Try.prog 26 #[.agg #[.int .i64 W.how, .int .i64 W.most, .int .i64 W.window, .slice A W.n c, .slice B W.m d], .int .i64 id, .bool failed, .int .i64 now] w (DownErr w) := by
  have HK := Lib.hid ok
  have HI := Lib.hid hi
  have HL := Lib.hid hl
  clear ok hi hl
  have HA := Lib.hid ha
  have HF0 := Lib.hid (Fr.start w (.int .i64 W.how) (.int .i64 W.most) (.int .i64 W.window) (.slice A W.n c) (.slice B W.m d) now)
  clear ha
  go_enter Try.func26, Try.ntmps26
  go_wp2_with fail
  have ha := HA.out.below ((((Below.refl w.heap.size w).alloc (Nat.le_refl _) (.cells #[.int .i64 W.how, .int .i64 W.most, .int .i64 W.window, .slice A W.n c, .slice B W.m d] 32)).alloc (by simp) (.cells #[.int .i64 now] 3)).alloc (by simp; omega) (.cells #[.int .i64 0, .int .i64 0, .int .i64 0, .slice none 0 0, .slice none 0 0] 32) |>.alloc (by simp; omega) (.cells #[.slice none 0 0, .slice none 0 0, .bool false] 69))
  refine (check_ok W A B c d _ ha.hn ha.hc ha.hm ha.hd ha.hR ha.hT HK.out).mono ?_
  rintro e w1 ⟨rfl, hb⟩
  have hF := HF0.out.below hb
  have ha1 := HA.out.below hF.hB
  clear ha hb
  have HF1 := Lib.hid hF
  obtain ⟨a0, a1, a2, a3, a4, b0, r0, r1, r2, r3, r4, s0, s1, s2, fa, fb, fr, fs, hz, hB⟩ := hF
  go_wp2_with fail
  refine (find_any A W.n c W.R id _ (by have := ha1.hn; have := ha1.hc; omega) ha1.hR).mono ?_
  rintro e w2 ⟨rfl, hb⟩
  clear a0 a1 a2 a3 a4 b0 r0 r1 r2 r3 r4 s0 s1 s2 fa fb fr fs hz hB
  have hF := HF1.out.below hb
  have HF := Lib.hid hF
  rw [HI.out]
  clear hb ha1
  obtain ⟨b, off, hAA, hb0, hcell⟩ := HA.out.hR (by omega)
  have k0 : w2.cell? ⟨b, off + i * 3, none⟩ = some (.int .i64 (W.R i).id) := (hF.hB.cell (p := ⟨b, _, none⟩) hb0).trans (hcell i hin 0 _ rfl)
  have k1 : w2.cell? ⟨b, off + i * 3 + 1, none⟩ = some (.int .i64 (W.R i).when) := (hF.hB.cell (p := ⟨b, _, none⟩) hb0).trans (hcell i hin 1 _ rfl)
  have k2 : w2.cell? ⟨b, off + i * 3 + 2, none⟩ = some (.bool (W.R i).lives) := (hF.hB.cell (p := ⟨b, _, none⟩) hb0).trans (hcell i hin 2 _ rfl)
  have i1 : (0 : Int) ≤ (i : Int) := by omega
  have i2 : (i : Int) < (W.n : Int) := by omega
  clear hcell
  rw [HL.out] at k2
  have d1 : decide (now < 0) = true := by simpa using hnow
  obtain ⟨a0, a1, a2, a3, a4, b0, r0, r1, r2, r3, r4, s0, s1, s2, fa, fb, fr, fs, hz, hB⟩ := hF
  subst hAA
  go_wp2_with fail
  go_quiet (fail)
  go_wp2_with fail
  refine bodyPost_ret (v := .tuple #[.agg #[.int .i64 0, .int .i64 0, .int .i64 0, .slice none 0 0, .slice none 0 0], .agg #[.slice none 0 0, .slice none 0 0, .bool false], .int .i64 21]) (by simp [results, Try.results26, go_sem, r0, r1, r2, r3, r4, s0, s1, s2]) rfl ?_
  refine ⟨21, by omega, rfl, ?_⟩
  exact below_set (below_set (below_set (below_set (below_set (below_set (below_set (below_set (below_drewN HF.out.hB _) (by omega)) (by omega)) (by omega)) (by omega)) (by omega)) (by omega)) (by omega)) (by omega)
set_option maxRecDepth 100000 in
set_option maxHeartbeats 1000000 in
theorem down_e4b (W : Wd) (A B : Option Addr) (c d : Nat) (id : Int) (failed : Bool) (now : Int) (w : World) (ha : ArgOk W A B c d w) (ok : OkW W) (i : Nat) (hi : ixOf (idB W.R id) W.n = i) (hin : i < W.n) (hl : (W.R i).lives = true) (hnow : 1099511627776 < now) :
    Calls Try.prog 26 #[.agg #[.int .i64 W.how, .int .i64 W.most, .int .i64 W.window, .slice A W.n c, .slice B W.m d], .int .i64 id, .bool failed, .int .i64 now] w (DownErr w) := by
  have HK := Lib.hid ok
  have HI := Lib.hid hi
  have HL := Lib.hid hl
  clear ok hi hl
  have HA := Lib.hid ha
  have HF0 := Lib.hid (Fr.start w (.int .i64 W.how) (.int .i64 W.most) (.int .i64 W.window) (.slice A W.n c) (.slice B W.m d) now)
  clear ha
  go_enter Try.func26, Try.ntmps26
  go_wp2_with fail
  have ha := HA.out.below ((((Below.refl w.heap.size w).alloc (Nat.le_refl _) (.cells #[.int .i64 W.how, .int .i64 W.most, .int .i64 W.window, .slice A W.n c, .slice B W.m d] 32)).alloc (by simp) (.cells #[.int .i64 now] 3)).alloc (by simp; omega) (.cells #[.int .i64 0, .int .i64 0, .int .i64 0, .slice none 0 0, .slice none 0 0] 32) |>.alloc (by simp; omega) (.cells #[.slice none 0 0, .slice none 0 0, .bool false] 69))
  refine (check_ok W A B c d _ ha.hn ha.hc ha.hm ha.hd ha.hR ha.hT HK.out).mono ?_
  rintro e w1 ⟨rfl, hb⟩
  have hF := HF0.out.below hb
  have ha1 := HA.out.below hF.hB
  clear ha hb
  have HF1 := Lib.hid hF
  obtain ⟨a0, a1, a2, a3, a4, b0, r0, r1, r2, r3, r4, s0, s1, s2, fa, fb, fr, fs, hz, hB⟩ := hF
  go_wp2_with fail
  refine (find_any A W.n c W.R id _ (by have := ha1.hn; have := ha1.hc; omega) ha1.hR).mono ?_
  rintro e w2 ⟨rfl, hb⟩
  clear a0 a1 a2 a3 a4 b0 r0 r1 r2 r3 r4 s0 s1 s2 fa fb fr fs hz hB
  have hF := HF1.out.below hb
  have HF := Lib.hid hF
  rw [HI.out]
  clear hb ha1
  obtain ⟨b, off, hAA, hb0, hcell⟩ := HA.out.hR (by omega)
  have k0 : w2.cell? ⟨b, off + i * 3, none⟩ = some (.int .i64 (W.R i).id) := (hF.hB.cell (p := ⟨b, _, none⟩) hb0).trans (hcell i hin 0 _ rfl)
  have k1 : w2.cell? ⟨b, off + i * 3 + 1, none⟩ = some (.int .i64 (W.R i).when) := (hF.hB.cell (p := ⟨b, _, none⟩) hb0).trans (hcell i hin 1 _ rfl)
  have k2 : w2.cell? ⟨b, off + i * 3 + 2, none⟩ = some (.bool (W.R i).lives) := (hF.hB.cell (p := ⟨b, _, none⟩) hb0).trans (hcell i hin 2 _ rfl)
  have i1 : (0 : Int) ≤ (i : Int) := by omega
  have i2 : (i : Int) < (W.n : Int) := by omega
  clear hcell
  rw [HL.out] at k2
  have d1 : decide (now < 0) = false := by simp; omega
  have d2 : decide (1099511627776 < now) = true := by simpa using hnow
  obtain ⟨a0, a1, a2, a3, a4, b0, r0, r1, r2, r3, r4, s0, s1, s2, fa, fb, fr, fs, hz, hB⟩ := hF
  subst hAA
  go_wp2_with fail
  go_quiet (fail)
  go_wp2_with fail
  refine bodyPost_ret (v := .tuple #[.agg #[.int .i64 0, .int .i64 0, .int .i64 0, .slice none 0 0, .slice none 0 0], .agg #[.slice none 0 0, .slice none 0 0, .bool false], .int .i64 21]) (by simp [results, Try.results26, go_sem, r0, r1, r2, r3, r4, s0, s1, s2]) rfl ?_
  refine ⟨21, by omega, rfl, ?_⟩
  exact below_set (below_set (below_set (below_set (below_set (below_set (below_set (below_set (below_drewN HF.out.hB _) (by omega)) (by omega)) (by omega)) (by omega)) (by omega)) (by omega)) (by omega)) (by omega)
set_option maxRecDepth 100000 in
set_option maxHeartbeats 1000000 in
theorem down_e4c (W : Wd) (A B : Option Addr) (c d : Nat) (id : Int) (failed : Bool) (now : Int) (w : World) (ha : ArgOk W A B c d w) (ok : OkW W) (i : Nat) (hi : ixOf (idB W.R id) W.n = i) (hin : i < W.n) (hl : (W.R i).lives = true) (h0 : 0 ≤ now) (h1 : now ≤ 1099511627776) (hnow : 0 < W.m ∧ now < W.T (W.m - 1)) :
    Calls Try.prog 26 #[.agg #[.int .i64 W.how, .int .i64 W.most, .int .i64 W.window, .slice A W.n c, .slice B W.m d], .int .i64 id, .bool failed, .int .i64 now] w (DownErr w) := by
  have HK := Lib.hid ok
  have HI := Lib.hid hi
  have HL := Lib.hid hl
  clear ok hi hl
  have HA := Lib.hid ha
  have HF0 := Lib.hid (Fr.start w (.int .i64 W.how) (.int .i64 W.most) (.int .i64 W.window) (.slice A W.n c) (.slice B W.m d) now)
  clear ha
  go_enter Try.func26, Try.ntmps26
  go_wp2_with fail
  have ha := HA.out.below ((((Below.refl w.heap.size w).alloc (Nat.le_refl _) (.cells #[.int .i64 W.how, .int .i64 W.most, .int .i64 W.window, .slice A W.n c, .slice B W.m d] 32)).alloc (by simp) (.cells #[.int .i64 now] 3)).alloc (by simp; omega) (.cells #[.int .i64 0, .int .i64 0, .int .i64 0, .slice none 0 0, .slice none 0 0] 32) |>.alloc (by simp; omega) (.cells #[.slice none 0 0, .slice none 0 0, .bool false] 69))
  refine (check_ok W A B c d _ ha.hn ha.hc ha.hm ha.hd ha.hR ha.hT HK.out).mono ?_
  rintro e w1 ⟨rfl, hb⟩
  have hF := HF0.out.below hb
  have ha1 := HA.out.below hF.hB
  clear ha hb
  have HF1 := Lib.hid hF
  obtain ⟨a0, a1, a2, a3, a4, b0, r0, r1, r2, r3, r4, s0, s1, s2, fa, fb, fr, fs, hz, hB⟩ := hF
  go_wp2_with fail
  refine (find_any A W.n c W.R id _ (by have := ha1.hn; have := ha1.hc; omega) ha1.hR).mono ?_
  rintro e w2 ⟨rfl, hb⟩
  clear a0 a1 a2 a3 a4 b0 r0 r1 r2 r3 r4 s0 s1 s2 fa fb fr fs hz hB
  have hF := HF1.out.below hb
  have HF := Lib.hid hF
  rw [HI.out]
  clear hb ha1
  obtain ⟨b, off, hAA, hb0, hcell⟩ := HA.out.hR (by omega)
  have k0 : w2.cell? ⟨b, off + i * 3, none⟩ = some (.int .i64 (W.R i).id) := (hF.hB.cell (p := ⟨b, _, none⟩) hb0).trans (hcell i hin 0 _ rfl)
  have k1 : w2.cell? ⟨b, off + i * 3 + 1, none⟩ = some (.int .i64 (W.R i).when) := (hF.hB.cell (p := ⟨b, _, none⟩) hb0).trans (hcell i hin 1 _ rfl)
  have k2 : w2.cell? ⟨b, off + i * 3 + 2, none⟩ = some (.bool (W.R i).lives) := (hF.hB.cell (p := ⟨b, _, none⟩) hb0).trans (hcell i hin 2 _ rfl)
  have i1 : (0 : Int) ≤ (i : Int) := by omega
  have i2 : (i : Int) < (W.n : Int) := by omega
  clear hcell
  rw [HL.out] at k2
  have d1 : decide (now < 0) = false := by simp; omega
  have d2 : decide (1099511627776 < now) = false := by simp; omega
  have d3 : decide ((0 : Int) < (W.m : Int)) = true := by simp; omega
  have d3n : decide (0 < W.m) = true := by simp; omega
  obtain ⟨b2, off2, hBB, hb2, htc⟩ := HA.out.hT (by omega)
  have t0 : w2.cell? ⟨b2, off2 + (W.m - 1), none⟩ = some (.int .i64 (W.T (W.m - 1))) := (hF.hB.cell (p := ⟨b2, _, none⟩) hb2).trans (by simpa using htc (W.m - 1) (by omega) 0 _ rfl)
  have m1 : (0 : Int) ≤ (W.m : Int) - 1 := by omega
  have m2 : (W.m : Int) - 1 < (W.m : Int) := by omega
  have m3 : ((W.m : Int) - 1).toNat = W.m - 1 := by omega
  have m4 : IntKind.i64.wrap ((W.m : Int) - 1) = (W.m : Int) - 1 := IntWalk.i64_in _ (by have := HA.out.hm; have := HA.out.hd; omega)
  clear htc
  have d4 : decide (now < W.T (W.m - 1)) = true := by simpa using hnow.2
  obtain ⟨a0, a1, a2, a3, a4, b0, r0, r1, r2, r3, r4, s0, s1, s2, fa, fb, fr, fs, hz, hB⟩ := hF
  subst hAA
  subst hBB
  go_wp2_with fail
  go_quiet (fail)
  go_wp2_with fail
  refine bodyPost_ret (v := .tuple #[.agg #[.int .i64 0, .int .i64 0, .int .i64 0, .slice none 0 0, .slice none 0 0], .agg #[.slice none 0 0, .slice none 0 0, .bool false], .int .i64 21]) (by simp [results, Try.results26, go_sem, r0, r1, r2, r3, r4, s0, s1, s2]) rfl ?_
  refine ⟨21, by omega, rfl, ?_⟩
  exact below_set (below_set (below_set (below_set (below_set (below_set (below_set (below_set (below_drewN HF.out.hB _) (by omega)) (by omega)) (by omega)) (by omega)) (by omega)) (by omega)) (by omega)) (by omega)
def DownPost (W : Wd) (i : Nat) (failed : Bool) (now : Int) (w : World) (e : Ending) (w' : World) : Prop :=
  ∃ (R' : Nat → Ch) (T' st sp : List Int) (gv : Bool), DownRes W i failed now R' T' sp st gv ∧ ∃ A c B d vs vt, e = .returned (.tuple #[.agg #[.int .i64 W.how, .int .i64 W.most, .int .i64 W.window, .slice A W.n c, .slice B T'.length d], .agg #[vs, vt, .bool gv], .int .i64 0]) ∧
    w'.ownsRow w.heap.size 43 3 (.slice A W.n c) W.n (flatC (chC R') W.n) ∧ OwnI w' w.heap.size (.slice B T'.length d) T' ∧ OwnI w' w.heap.size vs sp ∧ OwnI w' w.heap.size vt st ∧ Below w.heap.size w w'
theorem offR_one (R : Nat → Ch) (q : Nat) {n : Nat} : ∀ i, i < n → chC (offR R q (q + 1)) i = if i = q then (chC R q).set 2 (.bool false) else chC R i := by
  intro i _
  unfold chC offR
  by_cases e : i = q
  · subst e
    rw [if_pos rfl, if_pos (by omega)]
    rfl
  · rw [if_neg e, if_neg (by omega)]
set_option maxRecDepth 100000 in
set_option maxHeartbeats 2000000 in
theorem down_calm0 (W : Wd) (A B : Option Addr) (c d : Nat) (id : Int) (failed : Bool) (now : Int) (w : World) (ha : ArgOk W A B c d w) (ok : OkW W) (i : Nat) (hi : ixOf (idB W.R id) W.n = i) (hin : i < W.n) (hl : (W.R i).lives = true) (h0 : 0 ≤ now) (h1 : now ≤ 1099511627776) (hm0 : W.m = 0) (hag : againB W i failed = false) :
    Calls Try.prog 26 #[.agg #[.int .i64 W.how, .int .i64 W.most, .int .i64 W.window, .slice A W.n c, .slice B W.m d], .int .i64 id, .bool failed, .int .i64 now] w (DownPost W i failed now w) := by
  have HK := Lib.hid ok
  have HI := Lib.hid hi
  have HL := Lib.hid hl
  have HAG := Lib.hid hag
  have HM := Lib.hid hm0
  have hm1 : W.m ≤ 0 := by omega
  clear hm0
  clear ok hi hl hag
  have HA := Lib.hid ha
  have HF0 := Lib.hid (Fr.start w (.int .i64 W.how) (.int .i64 W.most) (.int .i64 W.window) (.slice A W.n c) (.slice B W.m d) now)
  clear ha
  go_enter Try.func26, Try.ntmps26
  go_wp2_with fail
  have ha := HA.out.below ((((Below.refl w.heap.size w).alloc (Nat.le_refl _) (.cells #[.int .i64 W.how, .int .i64 W.most, .int .i64 W.window, .slice A W.n c, .slice B W.m d] 32)).alloc (by simp) (.cells #[.int .i64 now] 3)).alloc (by simp; omega) (.cells #[.int .i64 0, .int .i64 0, .int .i64 0, .slice none 0 0, .slice none 0 0] 32) |>.alloc (by simp; omega) (.cells #[.slice none 0 0, .slice none 0 0, .bool false] 69))
  refine (check_ok W A B c d _ ha.hn ha.hc ha.hm ha.hd ha.hR ha.hT HK.out).mono ?_
  rintro e w1 ⟨rfl, hb⟩
  have hF := HF0.out.below hb
  have ha1 := HA.out.below hF.hB
  clear ha hb
  have HF1 := Lib.hid hF
  obtain ⟨a0, a1, a2, a3, a4, b0, r0, r1, r2, r3, r4, s0, s1, s2, fa, fb, fr, fs, hz, hB⟩ := hF
  go_wp2_with fail
  refine (find_any A W.n c W.R id _ (by have := ha1.hn; have := ha1.hc; omega) ha1.hR).mono ?_
  rintro e w2 ⟨rfl, hb⟩
  clear a0 a1 a2 a3 a4 b0 r0 r1 r2 r3 r4 s0 s1 s2 fa fb fr fs hz hB
  have hF := HF1.out.below hb
  have HF := Lib.hid hF
  rw [HI.out]
  clear hb ha1
  obtain ⟨b, off, hAA, hb0, hcell⟩ := HA.out.hR (by omega)
  have k0 : w2.cell? ⟨b, off + i * 3, none⟩ = some (.int .i64 (W.R i).id) := (hF.hB.cell (p := ⟨b, _, none⟩) hb0).trans (hcell i hin 0 _ rfl)
  have k1 : w2.cell? ⟨b, off + i * 3 + 1, none⟩ = some (.int .i64 (W.R i).when) := (hF.hB.cell (p := ⟨b, _, none⟩) hb0).trans (hcell i hin 1 _ rfl)
  have k2 : w2.cell? ⟨b, off + i * 3 + 2, none⟩ = some (.bool (W.R i).lives) := (hF.hB.cell (p := ⟨b, _, none⟩) hb0).trans (hcell i hin 2 _ rfl)
  have i1 : (0 : Int) ≤ (i : Int) := by omega
  have i2 : (i : Int) < (W.n : Int) := by omega
  clear hcell
  rw [HL.out] at k2
  have d1 : decide (now < 0) = false := by simp; omega
  have d2 : decide (1099511627776 < now) = false := by simp; omega
  have d3 : decide ((0 : Int) < (W.m : Int)) = false := by simp; omega
  have d3n : decide (0 < W.m) = false := by simp; omega
  obtain ⟨a0, a1, a2, a3, a4, b0, r0, r1, r2, r3, r4, s0, s1, s2, fa, fb, fr, fs, hz, hB⟩ := hF
  subst hAA
  go_wp2_with fail
  go_quiet (fail)
  clear d1 d2 d3 d3n i1 i2 k0 k1 k2
  clear a0 a1 a2 a3 a4 b0 r0 r1 r2 r3 r4 s0 s1 s2 fa fb fr fs hz hB
  have hF3 := HF.out.below (below_drewN (Below.refl _ _) nq)
  generalize w2.drewN nq = w3 at *
  have ha3 := HA.out.below hF3.hB
  have HF3 := Lib.hid hF3
  have ha1 := HK.out.2.1
  have ha2 := HK.out.2.2.1
  obtain ⟨a0, a1, a2, a3, a4, b0, r0, r1, r2, r3, r4, s0, s1, s2, fa, fb, fr, fs, hz, hB⟩ := hF3
  go_wp2_with fail
  refine (copyOf_any W _ _ c d _ (by omega) (by omega) ha3.hA ha3.hB ha3.hR ha3.hT).mono ?_
  rintro e w4 ⟨A1, c1, B1, d1, rfl, hown, htimes, hord, hb⟩
  clear a0 a1 a2 a3 a4 b0 r0 r1 r2 r3 r4 s0 s1 s2 fa fb fr fs hz hB
  obtain ⟨g, c1', hv, hbase, hlt, hnc, hcm⟩ := own_form hown (by omega)
  injection hv with hv1 _ hv2
  subst hv1 hv2
  have hz3 := HF3.out.hz
  have hF4 := HF3.out.below hb
  have HF4 := Lib.hid hF4
  have k0 : w4.cell? ⟨g, i * 3, none⟩ = some (.int .i64 (W.R i).id) := by have := own_cellC hown (chC_len _) hin (j := 0) (by omega); rw [Nat.add_zero] at this; rw [this]; rfl
  have k1 : w4.cell? ⟨g, i * 3 + 1, none⟩ = some (.int .i64 (W.R i).when) := by rw [own_cellC hown (chC_len _) hin (j := 1) (by omega)]; rfl
  have k2 : w4.cell? ⟨g, i * 3 + 2, none⟩ = some (.bool (W.R i).lives) := by rw [own_cellC hown (chC_len _) hin (j := 2) (by omega)]; rfl
  have kf : ∀ o, w4.frozen? ⟨g, o, none⟩ = false := fun o => hown.frozenAt o
  have n1 : ¬ (w.heap.size = g) := by omega
  have n2 : ¬ (g = w.heap.size) := by omega
  have n3 : ¬ (w.heap.size + 1 = g) := by omega
  have n4 : ¬ (g = w.heap.size + 1) := by omega
  have n5 : ¬ (w.heap.size + 1 + 1 = g) := by omega
  have n6 : ¬ (g = w.heap.size + 1 + 1) := by omega
  have n7 : ¬ (w.heap.size + 1 + 1 + 1 = g) := by omega
  have n8 : ¬ (g = w.heap.size + 1 + 1 + 1) := by omega
  have i1 : (0 : Int) ≤ (i : Int) := by omega
  have i2 : (i : Int) < (W.n : Int) := by omega
  have HF5 := Lib.hid (((((HF4.out.set0 (.int .i64 W.how)).set1 (.int .i64 W.most)).set2 (.int .i64 W.window)).set3 (.slice (some ⟨g, 0, none⟩) W.n c1)).set4 (.slice B1 W.m d1))
  have HG5 := Lib.hid (show w4.grownBy (((((w4.setCell ⟨w.heap.size, 0, none⟩ (.int .i64 W.how)).setCell ⟨w.heap.size, 1, none⟩ (.int .i64 W.most)).setCell ⟨w.heap.size, 2, none⟩ (.int .i64 W.window)).setCell ⟨w.heap.size, 3, none⟩ (.slice (some ⟨g, 0, none⟩) W.n c1)).setCell ⟨w.heap.size, 4, none⟩ (.slice B1 W.m d1)) (some w.heap.size) from grown_set (grown_set (grown_set (grown_set (grown_set (grown_self _ _) _) _) _) _) _)
  have hg1 : ∀ k, (Value.slice B1 W.m d1).ownBlock = some k → g < k := fun k hk => by
    cases B1 with
    | none => cases hk
    | some bb => have hk' : bb.block = k := Option.some.inj hk; have := hord _ bb rfl rfl; simp at this; omega
  have HO5 := Lib.hid (own_setC (own_grown hown HG5.out (fun k hk e => by have hk' : g = k := Option.some.inj hk; injection e with e; omega)) (chC_len _) (j := 2) (by omega) (.bool false) (offR_one W.R i))
  have HT5 := Lib.hid (own_grown (own_grown htimes HG5.out (fun k hk e => by have := hg1 k hk; injection e with e; omega)) HO5.out.2 (fun k hk e => by have := hg1 k hk; injection e with e; omega))
  have HG1 := Lib.hid hg1
  have HF6 := Lib.hid (HF5.out.grown HO5.out.2 (by omega))
  clear hown htimes hord hb hg1
  have hcase : ((W.R i).when == 3) = true ∨ (((W.R i).when == 3) = false ∧ ((W.R i).when == 2) = true ∧ failed = false) := by
    have := HAG.out
    unfold againB at this
    revert this
    cases h3 : ((W.R i).when == 3) <;> cases h2 : ((W.R i).when == 2) <;> cases failed <;> simp
  have hF := HF4.out
  obtain ⟨a0, a1, a2, a3, a4, b0, r0, r1, r2, r3, r4, s0, s1, s2, fa, fb, fr, fs, hz, hB⟩ := hF
  rcases hcase with e3 | ⟨e3, e2, rfl⟩
  all_goals
    go_wp2_with fail
    refine bodyPost_ret (v := .tuple #[.agg #[.int .i64 W.how, .int .i64 W.most, .int .i64 W.window, .slice (some ⟨g, 0, none⟩) W.n c1, .slice B1 W.m d1], .agg #[.slice none 0 0, .slice none 0 0, .bool false], .int .i64 0]) (by simp [results, Try.results26, go_sem, r0, r1, r2, r3, r4, s0, s1, s2]) rfl ?_
    refine ⟨offR W.R i (i + 1), fl W.T W.m, [], [], false, .inl ⟨HAG.out, fun _ _ => rfl, rfl, rfl, rfl, rfl⟩, some ⟨g, 0, none⟩, c1, B1, d1, .slice none 0 0, .slice none 0 0, by rw [fl_len], ?_, ?_, OwnI.nil _ _, OwnI.nil _ _, ?_⟩
    · exact own_mono (own_set (own_set (own_set (own_set (own_set (own_set (own_set (own_set (HO5.out.1) (by omega)) (by omega)) (by omega)) (by omega)) (by omega)) (by omega)) (by omega)) (by omega)) (by omega)
    · unfold OwnI
      rw [fl_len, ← flatC_fl]
      exact own_mono (own_set (own_set (own_set (own_set (own_set (own_set (own_set (own_set (HT5.out) (by omega)) (by omega)) (by omega)) (by omega)) (by omega)) (by omega)) (by omega)) (by omega)) (by omega)
    · exact below_set (below_set (below_set (below_set (below_set (below_set (below_set (below_set (HF6.out.hB) (by omega)) (by omega)) (by omega)) (by omega)) (by omega)) (by omega)) (by omega)) (by omega)
set_option maxRecDepth 100000 in
set_option maxHeartbeats 2000000 in
theorem down_calm1 (W : Wd) (A B : Option Addr) (c d : Nat) (id : Int) (failed : Bool) (now : Int) (w : World) (ha : ArgOk W A B c d w) (ok : OkW W) (i : Nat) (hi : ixOf (idB W.R id) W.n = i) (hin : i < W.n) (hl : (W.R i).lives = true) (h0 : 0 ≤ now) (h1 : now ≤ 1099511627776) (hm0 : 0 < W.m) (hlast : W.T (W.m - 1) ≤ now) (hag : againB W i failed = false) :
    Calls Try.prog 26 #[.agg #[.int .i64 W.how, .int .i64 W.most, .int .i64 W.window, .slice A W.n c, .slice B W.m d], .int .i64 id, .bool failed, .int .i64 now] w (DownPost W i failed now w) := by
  have HK := Lib.hid ok
  have HI := Lib.hid hi
  have HL := Lib.hid hl
  have HAG := Lib.hid hag

  clear ok hi hl hag
  have HA := Lib.hid ha
  have HF0 := Lib.hid (Fr.start w (.int .i64 W.how) (.int .i64 W.most) (.int .i64 W.window) (.slice A W.n c) (.slice B W.m d) now)
  clear ha
  go_enter Try.func26, Try.ntmps26
  go_wp2_with fail
  have ha := HA.out.below ((((Below.refl w.heap.size w).alloc (Nat.le_refl _) (.cells #[.int .i64 W.how, .int .i64 W.most, .int .i64 W.window, .slice A W.n c, .slice B W.m d] 32)).alloc (by simp) (.cells #[.int .i64 now] 3)).alloc (by simp; omega) (.cells #[.int .i64 0, .int .i64 0, .int .i64 0, .slice none 0 0, .slice none 0 0] 32) |>.alloc (by simp; omega) (.cells #[.slice none 0 0, .slice none 0 0, .bool false] 69))
  refine (check_ok W A B c d _ ha.hn ha.hc ha.hm ha.hd ha.hR ha.hT HK.out).mono ?_
  rintro e w1 ⟨rfl, hb⟩
  have hF := HF0.out.below hb
  have ha1 := HA.out.below hF.hB
  clear ha hb
  have HF1 := Lib.hid hF
  obtain ⟨a0, a1, a2, a3, a4, b0, r0, r1, r2, r3, r4, s0, s1, s2, fa, fb, fr, fs, hz, hB⟩ := hF
  go_wp2_with fail
  refine (find_any A W.n c W.R id _ (by have := ha1.hn; have := ha1.hc; omega) ha1.hR).mono ?_
  rintro e w2 ⟨rfl, hb⟩
  clear a0 a1 a2 a3 a4 b0 r0 r1 r2 r3 r4 s0 s1 s2 fa fb fr fs hz hB
  have hF := HF1.out.below hb
  have HF := Lib.hid hF
  rw [HI.out]
  clear hb ha1
  obtain ⟨b, off, hAA, hb0, hcell⟩ := HA.out.hR (by omega)
  have k0 : w2.cell? ⟨b, off + i * 3, none⟩ = some (.int .i64 (W.R i).id) := (hF.hB.cell (p := ⟨b, _, none⟩) hb0).trans (hcell i hin 0 _ rfl)
  have k1 : w2.cell? ⟨b, off + i * 3 + 1, none⟩ = some (.int .i64 (W.R i).when) := (hF.hB.cell (p := ⟨b, _, none⟩) hb0).trans (hcell i hin 1 _ rfl)
  have k2 : w2.cell? ⟨b, off + i * 3 + 2, none⟩ = some (.bool (W.R i).lives) := (hF.hB.cell (p := ⟨b, _, none⟩) hb0).trans (hcell i hin 2 _ rfl)
  have i1 : (0 : Int) ≤ (i : Int) := by omega
  have i2 : (i : Int) < (W.n : Int) := by omega
  clear hcell
  rw [HL.out] at k2
  have d1 : decide (now < 0) = false := by simp; omega
  have d2 : decide (1099511627776 < now) = false := by simp; omega
  have d3 : decide ((0 : Int) < (W.m : Int)) = true := by simp; omega
  have d3n : decide (0 < W.m) = true := by simp; omega
  obtain ⟨b2, off2, hBB, hb2, htc⟩ := HA.out.hT (by omega)
  have t0 : w2.cell? ⟨b2, off2 + (W.m - 1), none⟩ = some (.int .i64 (W.T (W.m - 1))) := (hF.hB.cell (p := ⟨b2, _, none⟩) hb2).trans (by simpa using htc (W.m - 1) (by omega) 0 _ rfl)
  have m1 : (0 : Int) ≤ (W.m : Int) - 1 := by omega
  have m2 : (W.m : Int) - 1 < (W.m : Int) := by omega
  have m3 : ((W.m : Int) - 1).toNat = W.m - 1 := by omega
  have m4 : IntKind.i64.wrap ((W.m : Int) - 1) = (W.m : Int) - 1 := IntWalk.i64_in _ (by have := HA.out.hm; have := HA.out.hd; omega)
  clear htc
  have d4 : decide (now < W.T (W.m - 1)) = false := by simpa using hlast
  obtain ⟨a0, a1, a2, a3, a4, b0, r0, r1, r2, r3, r4, s0, s1, s2, fa, fb, fr, fs, hz, hB⟩ := hF
  subst hAA
  subst hBB
  go_wp2_with fail
  go_quiet (fail)
  clear d1 d2 d3 d3n i1 i2 k0 k1 k2
  clear d4 t0 m1 m2 m3 m4
  clear a0 a1 a2 a3 a4 b0 r0 r1 r2 r3 r4 s0 s1 s2 fa fb fr fs hz hB
  have hF3 := HF.out.below (below_drewN (Below.refl _ _) nq)
  generalize w2.drewN nq = w3 at *
  have ha3 := HA.out.below hF3.hB
  have HF3 := Lib.hid hF3
  have ha1 := HK.out.2.1
  have ha2 := HK.out.2.2.1
  obtain ⟨a0, a1, a2, a3, a4, b0, r0, r1, r2, r3, r4, s0, s1, s2, fa, fb, fr, fs, hz, hB⟩ := hF3
  go_wp2_with fail
  refine (copyOf_any W _ _ c d _ (by omega) (by omega) ha3.hA ha3.hB ha3.hR ha3.hT).mono ?_
  rintro e w4 ⟨A1, c1, B1, d1, rfl, hown, htimes, hord, hb⟩
  clear a0 a1 a2 a3 a4 b0 r0 r1 r2 r3 r4 s0 s1 s2 fa fb fr fs hz hB
  obtain ⟨g, c1', hv, hbase, hlt, hnc, hcm⟩ := own_form hown (by omega)
  injection hv with hv1 _ hv2
  subst hv1 hv2
  have hz3 := HF3.out.hz
  have hF4 := HF3.out.below hb
  have HF4 := Lib.hid hF4
  have k0 : w4.cell? ⟨g, i * 3, none⟩ = some (.int .i64 (W.R i).id) := by have := own_cellC hown (chC_len _) hin (j := 0) (by omega); rw [Nat.add_zero] at this; rw [this]; rfl
  have k1 : w4.cell? ⟨g, i * 3 + 1, none⟩ = some (.int .i64 (W.R i).when) := by rw [own_cellC hown (chC_len _) hin (j := 1) (by omega)]; rfl
  have k2 : w4.cell? ⟨g, i * 3 + 2, none⟩ = some (.bool (W.R i).lives) := by rw [own_cellC hown (chC_len _) hin (j := 2) (by omega)]; rfl
  have kf : ∀ o, w4.frozen? ⟨g, o, none⟩ = false := fun o => hown.frozenAt o
  have n1 : ¬ (w.heap.size = g) := by omega
  have n2 : ¬ (g = w.heap.size) := by omega
  have n3 : ¬ (w.heap.size + 1 = g) := by omega
  have n4 : ¬ (g = w.heap.size + 1) := by omega
  have n5 : ¬ (w.heap.size + 1 + 1 = g) := by omega
  have n6 : ¬ (g = w.heap.size + 1 + 1) := by omega
  have n7 : ¬ (w.heap.size + 1 + 1 + 1 = g) := by omega
  have n8 : ¬ (g = w.heap.size + 1 + 1 + 1) := by omega
  have i1 : (0 : Int) ≤ (i : Int) := by omega
  have i2 : (i : Int) < (W.n : Int) := by omega
  have HF5 := Lib.hid (((((HF4.out.set0 (.int .i64 W.how)).set1 (.int .i64 W.most)).set2 (.int .i64 W.window)).set3 (.slice (some ⟨g, 0, none⟩) W.n c1)).set4 (.slice B1 W.m d1))
  have HG5 := Lib.hid (show w4.grownBy (((((w4.setCell ⟨w.heap.size, 0, none⟩ (.int .i64 W.how)).setCell ⟨w.heap.size, 1, none⟩ (.int .i64 W.most)).setCell ⟨w.heap.size, 2, none⟩ (.int .i64 W.window)).setCell ⟨w.heap.size, 3, none⟩ (.slice (some ⟨g, 0, none⟩) W.n c1)).setCell ⟨w.heap.size, 4, none⟩ (.slice B1 W.m d1)) (some w.heap.size) from grown_set (grown_set (grown_set (grown_set (grown_set (grown_self _ _) _) _) _) _) _)
  have hg1 : ∀ k, (Value.slice B1 W.m d1).ownBlock = some k → g < k := fun k hk => by
    cases B1 with
    | none => cases hk
    | some bb => have hk' : bb.block = k := Option.some.inj hk; have := hord _ bb rfl rfl; simp at this; omega
  have HO5 := Lib.hid (own_setC (own_grown hown HG5.out (fun k hk e => by have hk' : g = k := Option.some.inj hk; injection e with e; omega)) (chC_len _) (j := 2) (by omega) (.bool false) (offR_one W.R i))
  have HT5 := Lib.hid (own_grown (own_grown htimes HG5.out (fun k hk e => by have := hg1 k hk; injection e with e; omega)) HO5.out.2 (fun k hk e => by have := hg1 k hk; injection e with e; omega))
  have HG1 := Lib.hid hg1
  have HF6 := Lib.hid (HF5.out.grown HO5.out.2 (by omega))
  clear hown htimes hord hb hg1
  have hcase : ((W.R i).when == 3) = true ∨ (((W.R i).when == 3) = false ∧ ((W.R i).when == 2) = true ∧ failed = false) := by
    have := HAG.out
    unfold againB at this
    revert this
    cases h3 : ((W.R i).when == 3) <;> cases h2 : ((W.R i).when == 2) <;> cases failed <;> simp
  have hF := HF4.out
  obtain ⟨a0, a1, a2, a3, a4, b0, r0, r1, r2, r3, r4, s0, s1, s2, fa, fb, fr, fs, hz, hB⟩ := hF
  rcases hcase with e3 | ⟨e3, e2, rfl⟩
  all_goals
    go_wp2_with fail
    refine bodyPost_ret (v := .tuple #[.agg #[.int .i64 W.how, .int .i64 W.most, .int .i64 W.window, .slice (some ⟨g, 0, none⟩) W.n c1, .slice B1 W.m d1], .agg #[.slice none 0 0, .slice none 0 0, .bool false], .int .i64 0]) (by simp [results, Try.results26, go_sem, r0, r1, r2, r3, r4, s0, s1, s2]) rfl ?_
    refine ⟨offR W.R i (i + 1), fl W.T W.m, [], [], false, .inl ⟨HAG.out, fun _ _ => rfl, rfl, rfl, rfl, rfl⟩, some ⟨g, 0, none⟩, c1, B1, d1, .slice none 0 0, .slice none 0 0, by rw [fl_len], ?_, ?_, OwnI.nil _ _, OwnI.nil _ _, ?_⟩
    · exact own_mono (own_set (own_set (own_set (own_set (own_set (own_set (own_set (own_set (HO5.out.1) (by omega)) (by omega)) (by omega)) (by omega)) (by omega)) (by omega)) (by omega)) (by omega)) (by omega)
    · unfold OwnI
      rw [fl_len, ← flatC_fl]
      exact own_mono (own_set (own_set (own_set (own_set (own_set (own_set (own_set (own_set (HT5.out) (by omega)) (by omega)) (by omega)) (by omega)) (by omega)) (by omega)) (by omega)) (by omega)) (by omega)
    · exact below_set (below_set (below_set (below_set (below_set (below_set (below_set (below_set (HF6.out.hB) (by omega)) (by omega)) (by omega)) (by omega)) (by omega)) (by omega)) (by omega)) (by omega)
end Go.Proofs.Ytcedogmhmpcfmaa.Wa
