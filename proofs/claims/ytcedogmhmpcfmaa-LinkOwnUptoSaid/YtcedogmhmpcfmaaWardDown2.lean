/- Contract of ward.Down: the child is started anew, or the supervisor gives up. -/
import Derived.Test.YtcedogmhmpcfmaaWardDown
import Derived.Deep.DeepCutAuto
namespace Go.Proofs.Ytcedogmhmpcfmaa.Wa
open Go.RowKit
set_option linter.unusedVariables false
theorem down1_enters : Enters Try.prog 49 := fun _ _ => by kernel_rfl
set_option maxHeartbeats 400000 in
theorem down1_any (x now win : Int) (b0 b1 : Nat) (W : World) (h0 : 0 ≤ now) (h1 : now ≤ 1099511627776) (h2 : 1 ≤ win) (h3 : win ≤ 1099511627776) (c1 : W.cell? ⟨b1, 0, none⟩ = some (.int .i64 now)) (c0 : W.cell? ⟨b0, 2, none⟩ = some (.int .i64 win)) :
    Calls Try.prog 49 (#[.int .i64 x] ++ #[.pointer (some ⟨b1, 0, none⟩), .pointer (some ⟨b0, 0, none⟩)]) W fun e W' => e = .returned (.bool (decide (x ≤ now - win))) ∧ W = W' := by
  go_enter Try.func49, Try.ntmps49
  go_wp2_with fail
  go_ret
  exact ⟨rfl, rfl⟩
def DelPost2 (base : Nat) (v : Value) (l : List Int) (w : World) (e : Ending) (w' : World) : Prop := ∃ v', e = .returned v' ∧ OwnI w' base v' l ∧ w.grownBy w' v.ownBlock ∧ v'.ownBlock = v.ownBlock
set_option maxHeartbeats 400000 in
theorem delF_nil (f : Nat) (cp : Array Value) (w : World) (he : Enters Try.prog f) :
    Calls Try.prog 48 #[.slice none 0 0, .func (.func f) #[] cp] w fun e w' => e = .returned (.slice none 0 0) ∧ w = w' := by
  have HIX := Lib.hid (ixI_any (fun W => w = W) none 0 0 0 0 f cp (fun k => .int .i64 0) (fun k => false) w (by omega) (fun h => by omega) he (fun W hW k hk => by omega) (fun W hW k hk => by omega) rfl)
  clear he
  go_enter Try.func48, Try.ntmps48
  go_wp2_with fail
  refine HIX.out.mono ?_
  rintro e w1 ⟨rfl, rfl⟩
  rw [show ixOf (fun k => false) 0 = -1 from rfl]
  go_wp2_with fail
  go_ret
  exact ⟨rfl, rfl⟩
theorem delF_own (base f : Nat) (cp : Array Value) (v : Value) (T : Nat → Int) (m : Nat) (p : Int → Bool) (w : World) (hm : m ≤ 50) (he : Enters Try.prog f) (ho : w.ownsRow base 3 1 v m (flatC (tmC T) m)) (hs : ∀ g, v.ownBlock = some g → Says w g f cp p) :
    Calls Try.prog 48 #[v, .func (.func f) #[] cp] w (DelPost2 base v ((fl T m).filter (fun x => !p x)) w) := by
  rcases ho.2 with ⟨hv, h0⟩ | ⟨g, cap, cur, hv, hr⟩
  · subst h0 hv
    refine (delF_nil f cp w he).mono ?_
    rintro e w' ⟨rfl, rfl⟩
    exact ⟨_, rfl, OwnI.nil _ _, grown_self _ _, rfl⟩
  · subst hv
    refine (delF_any base g cap m f cp T p w hm he ho (hs g rfl)).mono ?_
    rintro e w' ⟨rfl, h1, h2⟩
    exact ⟨_, rfl, h1, h2, rfl⟩
def HowIs (W : Wd) (h : Int) : Prop := W.how = h
theorem offR_all (R : Nat → Ch) (i : Nat) {k n : Nat} (hk : k < n) : offR (offR R i (i + 1)) 0 n k = offR R 0 n k := by
  have h : 0 ≤ k ∧ k < n := ⟨Nat.zero_le _, hk⟩
  by_cases e : i ≤ k ∧ k < i + 1 <;> simp [offR, hk, e]
def LastOk (W : Wd) (now : Int) : Prop := 0 < W.m → W.T (W.m - 1) ≤ now
set_option maxRecDepth 100000 in
set_option maxHeartbeats 4000000 in
theorem down_gave (W : Wd) (A B : Option Addr) (c d : Nat) (id : Int) (failed : Bool) (now : Int) (w : World) (ha : ArgOk W A B c d w) (ok : OkW W) (i : Nat) (hi : ixOf (idB W.R id) W.n = i) (hin : i < W.n) (hl : (W.R i).lives = true) (h0 : 0 ≤ now) (h1 : now ≤ 1099511627776) (hlt : LastOk W now) (hag : againB W i failed = true) (hmost : W.most ≤ (keptT W now).length) :
    Calls Try.prog 26 #[.agg #[.int .i64 W.how, .int .i64 W.most, .int .i64 W.window, .slice A W.n c, .slice B W.m d], .int .i64 id, .bool failed, .int .i64 now] w (DownPost W i failed now w) := by
  have HK := Lib.hid ok
  have HI := Lib.hid hi
  have HL := Lib.hid hl
  have HAG := Lib.hid hag
  have HLT := Lib.hid (show 0 < W.m → W.T (W.m - 1) ≤ now from hlt)
  have hw1 := ok.1.2.2.2.2.1
  have hw2 := ok.1.2.2.2.2.2
  clear ok hi hl hag hlt
  have HA := Lib.hid ha
  have HF0 := Lib.hid (Fr.start w (.int .i64 W.how) (.int .i64 W.most) (.int .i64 W.window) (.slice A W.n c) (.slice B W.m d) now)
  clear ha
  go_enter Try.func26, Try.ntmps26
  go_wp2_with fail
  have ha := HA.out.below ((((Below.refl w.heap.size w).alloc (Nat.le_refl _) (.cells #[.int .i64 W.how, .int .i64 W.most, .int .i64 W.window, .slice A W.n c, .slice B W.m d] 32)).alloc (by simp) (.cells #[.int .i64 now] 3)).alloc (by simp; omega) (.cells #[.int .i64 0, .int .i64 0, .int .i64 0, .slice none 0 0, .slice none 0 0] 32) |>.alloc (by simp; omega) (.cells #[.slice none 0 0, .slice none 0 0, .bool false] 69))
  refine (check_ok W A B c d _ ha.hn ha.hc ha.hm ha.hd ha.hR ha.hT HK.out).mono ?_
  rintro e w1 ⟨rfl, hb⟩
  have hF := HF0.out.below hb
  have ha1 := HA.out.below hF.hB
  clear ha hb
  have HF1 := Lib.hid hF
  obtain ⟨a0, a1, a2, a3, a4, b0, r0, r1, r2, r3, r4, s0, s1, s2, fa, fb, fr, fs, hz, hB⟩ := hF
  go_wp2_with fail
  refine (find_any A W.n c W.R id _ (by have := ha1.hn; have := ha1.hc; omega) ha1.hR).mono ?_
  rintro e w2 ⟨rfl, hb⟩
  clear a0 a1 a2 a3 a4 b0 r0 r1 r2 r3 r4 s0 s1 s2 fa fb fr fs hz hB
  have hF := HF1.out.below hb
  have HF := Lib.hid hF
  rw [HI.out]
  clear hb ha1
  obtain ⟨b, off, hAA, hb0, hcell⟩ := HA.out.hR (by omega)
  have k0 : w2.cell? ⟨b, off + i * 3, none⟩ = some (.int .i64 (W.R i).id) := (hF.hB.cell (p := ⟨b, _, none⟩) hb0).trans (hcell i hin 0 _ rfl)
  have k1 : w2.cell? ⟨b, off + i * 3 + 1, none⟩ = some (.int .i64 (W.R i).when) := (hF.hB.cell (p := ⟨b, _, none⟩) hb0).trans (hcell i hin 1 _ rfl)
  have k2 : w2.cell? ⟨b, off + i * 3 + 2, none⟩ = some (.bool (W.R i).lives) := (hF.hB.cell (p := ⟨b, _, none⟩) hb0).trans (hcell i hin 2 _ rfl)
  have i1 : (0 : Int) ≤ (i : Int) := by omega
  have i2 : (i : Int) < (W.n : Int) := by omega
  clear hcell
  rw [HL.out] at k2
  obtain ⟨a0, a1, a2, a3, a4, b0, r0, r1, r2, r3, r4, s0, s1, s2, fa, fb, fr, fs, hz, hB⟩ := hF
  subst hAA
  go_upto_region 9 with (fail)
  go_cut [45] (fun x wx => x = .bool false ∧ Fr w wx (.int .i64 W.how) (.int .i64 W.most) (.int .i64 W.window) (.slice (some ⟨b, off, none⟩) W.n c) (.slice B W.m d) now)
  case first =>
    have hF := HF.out
    by_cases hm0 : 0 < W.m
    · have hlast := HLT.out hm0
      have d1 : decide (now < 0) = false := by simp; omega
      have d2 : decide (1099511627776 < now) = false := by simp; omega
      have d3 : decide ((0 : Int) < (W.m : Int)) = true := by simp; omega
      have d3n : decide (0 < W.m) = true := by simp; omega
      obtain ⟨b2, off2, hBB, hb2, htc⟩ := HA.out.hT (by omega)
      have t0 : w2.cell? ⟨b2, off2 + (W.m - 1), none⟩ = some (.int .i64 (W.T (W.m - 1))) := (hF.hB.cell (p := ⟨b2, _, none⟩) hb2).trans (by simpa using htc (W.m - 1) (by omega) 0 _ rfl)
      have m1 : (0 : Int) ≤ (W.m : Int) - 1 := by omega
      have m2 : (W.m : Int) - 1 < (W.m : Int) := by omega
      have m3 : ((W.m : Int) - 1).toNat = W.m - 1 := by omega
      have m4 : IntKind.i64.wrap ((W.m : Int) - 1) = (W.m : Int) - 1 := IntWalk.i64_in _ (by have := HA.out.hm; have := HA.out.hd; omega)
      clear htc
      have d4 : decide (now < W.T (W.m - 1)) = false := by simpa using hlast
      subst hBB
      clear hF hlast
      go_quiet (fail)
      go_wp2_with fail
      go_meet
      exact ⟨rfl, HF.out.below (below_drewN (Below.refl _ _) nq)⟩
    · have hm1 : W.m ≤ 0 := by omega
      have d1 : decide (now < 0) = false := by simp; omega
      have d2 : decide (1099511627776 < now) = false := by simp; omega
      have d3 : decide ((0 : Int) < (W.m : Int)) = false := by simp; omega
      have d3n : decide (0 < W.m) = false := by simp; omega
      clear hF hm0
      go_quiet (fail)
      go_wp2_with fail
      go_meet
      exact ⟨rfl, HF.out.below (below_drewN (Below.refl _ _) nq)⟩
  case rest =>
  obtain ⟨hx, hF3⟩ := hcut
  subst hx
  obtain ⟨w3, rfl⟩ : ∃ w3 : World, w3 = wc := ⟨_, rfl⟩
  clear i1 i2 k0 k1 k2
  clear a0 a1 a2 a3 a4 b0 r0 r1 r2 r3 r4 s0 s1 s2 fa fb fr fs hz hB
  have ha3 := HA.out.below hF3.hB
  have HF3 := Lib.hid hF3
  have ha1 := HK.out.2.1
  have ha2 := HK.out.2.2.1
  obtain ⟨a0, a1, a2, a3, a4, b0, r0, r1, r2, r3, r4, s0, s1, s2, fa, fb, fr, fs, hz, hB⟩ := hF3
  go_wp2_with fail
  refine (copyOf_any W _ _ c d _ (by omega) (by omega) ha3.hA ha3.hB ha3.hR ha3.hT).mono ?_
  rintro e w4 ⟨A1, c1, B1, d1, rfl, hown, htimes, hord, hb⟩
  clear a0 a1 a2 a3 a4 b0 r0 r1 r2 r3 r4 s0 s1 s2 fa fb fr fs hz hB
  obtain ⟨g, c1', hv, hbase, hlt, hnc, hcm⟩ := own_form hown (by omega)
  injection hv with hv1 _ hv2
  subst hv1 hv2
  have hz3 := HF3.out.hz
  have hF4 := HF3.out.below hb
  have HF4 := Lib.hid hF4
  have k0 : w4.cell? ⟨g, i * 3, none⟩ = some (.int .i64 (W.R i).id) := by have := own_cellC hown (chC_len _) hin (j := 0) (by omega); rw [Nat.add_zero] at this; rw [this]; rfl
  have k1 : w4.cell? ⟨g, i * 3 + 1, none⟩ = some (.int .i64 (W.R i).when) := by rw [own_cellC hown (chC_len _) hin (j := 1) (by omega)]; rfl
  have k2 : w4.cell? ⟨g, i * 3 + 2, none⟩ = some (.bool (W.R i).lives) := by rw [own_cellC hown (chC_len _) hin (j := 2) (by omega)]; rfl
  have kf : ∀ o, w4.frozen? ⟨g, o, none⟩ = false := fun o => hown.frozenAt o
  have n1 : ¬ (w.heap.size = g) := by omega
  have n2 : ¬ (g = w.heap.size) := by omega
  have n3 : ¬ (w.heap.size + 1 = g) := by omega
  have n4 : ¬ (g = w.heap.size + 1) := by omega
  have n5 : ¬ (w.heap.size + 1 + 1 = g) := by omega
  have n6 : ¬ (g = w.heap.size + 1 + 1) := by omega
  have n7 : ¬ (w.heap.size + 1 + 1 + 1 = g) := by omega
  have n8 : ¬ (g = w.heap.size + 1 + 1 + 1) := by omega
  have i1 : (0 : Int) ≤ (i : Int) := by omega
  have i2 : (i : Int) < (W.n : Int) := by omega
  have HF5 := Lib.hid (((((HF4.out.set0 (.int .i64 W.how)).set1 (.int .i64 W.most)).set2 (.int .i64 W.window)).set3 (.slice (some ⟨g, 0, none⟩) W.n c1)).set4 (.slice B1 W.m d1))
  have HG5 := Lib.hid (show w4.grownBy (((((w4.setCell ⟨w.heap.size, 0, none⟩ (.int .i64 W.how)).setCell ⟨w.heap.size, 1, none⟩ (.int .i64 W.most)).setCell ⟨w.heap.size, 2, none⟩ (.int .i64 W.window)).setCell ⟨w.heap.size, 3, none⟩ (.slice (some ⟨g, 0, none⟩) W.n c1)).setCell ⟨w.heap.size, 4, none⟩ (.slice B1 W.m d1)) (some w.heap.size) from grown_set (grown_set (grown_set (grown_set (grown_set (grown_self _ _) _) _) _) _) _)
  have hg1 : ∀ k, (Value.slice B1 W.m d1).ownBlock = some k → g < k := fun k hk => by
    cases B1 with
    | none => cases hk
    | some bb => have hk' : bb.block = k := Option.some.inj hk; have := hord _ bb rfl rfl; simp at this; omega
  have HO5 := Lib.hid (own_setC (own_grown hown HG5.out (fun k hk e => by have hk' : g = k := Option.some.inj hk; injection e with e; omega)) (chC_len _) (j := 2) (by omega) (.bool false) (offR_one W.R i))
  have HT5 := Lib.hid (own_grown (own_grown htimes HG5.out (fun k hk e => by have := hg1 k hk; injection e with e; omega)) HO5.out.2 (fun k hk e => by have := hg1 k hk; injection e with e; omega))
  have HG1 := Lib.hid hg1
  have HF6 := Lib.hid (HF5.out.grown HO5.out.2 (by omega))
  clear hown htimes hord hb hg1
  have hcase : ((W.R i).when == 3) = false ∧ (((W.R i).when == 2) = false ∨ (((W.R i).when == 2) = true ∧ failed = true)) := by
    have := HAG.out
    unfold againB at this
    revert this
    cases h3 : ((W.R i).when == 3) <;> cases h2 : ((W.R i).when == 2) <;> cases failed <;> simp
  obtain ⟨e3, hcase⟩ := hcase
  have hF := HF4.out
  obtain ⟨a0, a1, a2, a3, a4, b0, r0, r1, r2, r3, r4, s0, s1, s2, fa, fb, fr, fs, hz, hB⟩ := hF
  have hdel := delF_own w3.heap.size 49 #[.pointer (some ⟨w.heap.size + 1, 0, none⟩), .pointer (some ⟨w.heap.size, 0, none⟩)] (.slice B1 W.m d1) W.T W.m (fun x => decide (x ≤ now - W.window)) ((((((w4.setCell ⟨w.heap.size, 0, none⟩ (.int .i64 W.how)).setCell ⟨w.heap.size, 1, none⟩ (.int .i64 W.most)).setCell ⟨w.heap.size, 2, none⟩ (.int .i64 W.window)).setCell ⟨w.heap.size, 3, none⟩ (.slice (some ⟨g, 0, none⟩) W.n c1)).setCell ⟨w.heap.size, 4, none⟩ (.slice B1 W.m d1)).setCell ⟨g, i * 3 + 2, none⟩ (.bool false)) (by omega) down1_enters HT5.out
    (fun gt hgt Wx x hg => by
      have hq := HG1.out gt hgt
      have hFx := HF6.out.grown hg (by omega)
      refine (down1_any x now W.window _ _ Wx h0 h1 hw1 hw2 hFx.b0 hFx.a2).mono ?_
      rintro e W' ⟨rfl, rfl⟩
      exact ⟨rfl, grown_self _ _⟩)
  have HD := Lib.hid hdel
  clear hdel
  go_upto_region 14 with (fail)
  go_cut [94] (fun x wx => x = .bool false ∧ wx = ((((((w4.setCell ⟨w.heap.size, 0, none⟩ (.int .i64 W.how)).setCell ⟨w.heap.size, 1, none⟩ (.int .i64 W.most)).setCell ⟨w.heap.size, 2, none⟩ (.int .i64 W.window)).setCell ⟨w.heap.size, 3, none⟩ (.slice (some ⟨g, 0, none⟩) W.n c1)).setCell ⟨w.heap.size, 4, none⟩ (.slice B1 W.m d1)).setCell ⟨g, i * 3 + 2, none⟩ (.bool false)))
  case first =>
    rcases hcase with e2 | ⟨e2, rfl⟩
    all_goals
      go_wp2_with fail
      go_meet
      exact ⟨rfl, rfl⟩
  case rest =>
  obtain ⟨hx, hx2⟩ := hcut
  subst hx hx2
  clear hcase e3
  go_wp2_with fail
  refine HD.out.mono ?_
  rintro e w7 ⟨v7, rfl, hown7, hg7, hb7⟩
  have hown7' : OwnI w7 w3.heap.size v7 (keptT W now) := hown7
  clear hown7
  obtain ⟨B7, d7, rfl, hnc7, hcm7, _⟩ := own_any hown7'
  have hgk : ∀ k, (Value.slice B1 W.m d1).ownBlock = some k → w.heap.size + 1 + 1 + 1 < k := fun k hk => by have := HG1.out k hk; omega
  have hF7 := HF6.out.grow hg7 hgk
  have HF8 := Lib.hid (hF7.set4 (.slice B7 (keptT W now).length d7))
  have HO7 := Lib.hid (own_grown HO5.out.1 hg7 (fun k hk e => by have hk' : g = k := Option.some.inj hk; have := HG1.out k e; omega))
  have HO8 := Lib.hid (own_set (u := .slice B7 (keptT W now).length d7) (o := 4) HO7.out (show w.heap.size < w3.heap.size by omega))
  have HT8 := Lib.hid (own_set (u := .slice B7 (keptT W now).length d7) (o := 4) hown7' (show w.heap.size < w3.heap.size by omega))
  have HG8 := Lib.hid (fun k (hk : (Value.slice B7 (keptT W now).length d7).ownBlock = some k) => HG1.out k (hb7 ▸ hk))
  have HLEN := Lib.hid (keptT_len W now)
  have HS37 := Lib.hid (show w3.heap.size ≤ w7.heap.size from by have := hg7.size; have := (own_lt HO5.out.1).1; have := (own_lt HO5.out.1).2; omega)
  clear a0 a1 a2 a3 a4 b0 r0 r1 r2 r3 r4 s0 s1 s2 fa fb fr fs hz hB
  clear hown7' hg7 hb7 hgk k0 k1 k2 kf
  obtain ⟨q, hq⟩ : ∃ q, (keptT W now).length = q := ⟨_, rfl⟩
  have HQ := Lib.hid hq
  rw [hq] at HF8 HO8 HT8 HG8 hnc7 HLEN
  rw [hq]
  clear hq
  have hlen := HLEN.out
  obtain ⟨a0, a1, a2, a3, a4, b0, r0, r1, r2, r3, r4, s0, s1, s2, fa, fb, fr, fs, hz, hB⟩ := hF7
  have hm : W.most ≤ (q : Int) := by have := HQ.out; omega
  clear hmost
  go_wp2_with fail
  clear a0 a1 a2 a3 a4 b0 r0 r1 r2 r3 r4 s0 s1 s2 fa fb fr fs hz hB
  generalize w7.setCell ⟨w.heap.size, 4, none⟩ (.slice B7 q d7) = w8 at *
  have hF := HF8.out
  obtain ⟨a0, a1, a2, a3, a4, b0, r0, r1, r2, r3, r4, s0, s1, s2, fa, fb, fr, fs, hz, hB⟩ := hF
  go_region_with
    (first | (go_at_call 50; refine (stop_any w.heap.size w3.heap.size g c1 W.n 0 W.n (offR W.R i (i + 1)) _ (by omega) (by omega) (by omega) (by exact Nat.lt_trans (show w.heap.size < w.heap.size + 1 + 1 + 1 by omega) HF8.out.hz) (by omega) (by exact HF8.out.a3) (by exact HO8.out)).mono ?_; rintro e w9 ⟨v9, rfl, hown9, hrow9, hg9⟩; obtain ⟨A9, c9, rfl, hnc9, hcm9, _⟩ := own_any hown9; clear a0 a1 a2 a3 a4 b0 r0 r1 r2 r3 r4 s0 s1 s2 fa fb fr fs hz hB; have hF9 := HF8.out.grown (grown_drew hg9) (by omega); have HF9 := Lib.hid hF9; have HO9 := Lib.hid hown9; have HR9 := Lib.hid hrow9; have HG9 := Lib.hid (grown_drew hg9); clear hown9 hrow9 hg9; obtain ⟨a0, a1, a2, a3, a4, b0, r0, r1, r2, r3, r4, s0, s1, s2, fa, fb, fr, fs, hz, hB⟩ := hF9))
  all_goals go_wp2_with fail
  all_goals
    refine bodyPost_ret (v := .tuple #[.agg #[.int .i64 W.how, .int .i64 W.most, .int .i64 W.window, .slice (some ⟨g, 0, none⟩) W.n c1, .slice B7 q d7], .agg #[.slice A9 (stopIds (offR W.R i (i + 1)) 0 W.n).length c9, .slice none 0 0, .bool true], .int .i64 0]) (by simp [results, Try.results26, go_sem, r0, r1, r2, r3, r4, s0, s1, s2]) rfl ?_
    refine ⟨offR (offR W.R i (i + 1)) 0 W.n, keptT W now, [], stopIds (offR W.R i (i + 1)) 0 W.n, true, .inr (.inl ⟨HAG.out, by have := HQ.out; omega, fun k hk => offR_all _ _ hk, rfl, rfl, rfl, rfl⟩), some ⟨g, 0, none⟩, c1, B7, d7, _, .slice none 0 0, by rw [HQ.out], ?_, ?_, ?_, OwnI.nil _ _, ?_⟩
    · exact own_mono (own_set (own_set (own_set (own_set (own_set (own_set (own_set (own_set (HR9.out) (by omega)) (by omega)) (by omega)) (by omega)) (by omega)) (by omega)) (by omega)) (by omega)) (by omega)
    · have h8 := own_grown HT8.out HG9.out (fun k hk e => by have := HG8.out k hk; injection e with e; omega)
      unfold OwnI
      rw [HQ.out]
      exact own_mono (own_set (own_set (own_set (own_set (own_set (own_set (own_set (own_set (h8) (by omega)) (by omega)) (by omega)) (by omega)) (by omega)) (by omega)) (by omega)) (by omega)) (by omega)
    · have h9 := HF8.out.hz
      have h9' : w8.drew.heap.size = w8.heap.size := rfl
      exact own_mono (own_set (own_set (own_set (own_set (own_set (own_set (own_set (own_set (HO9.out) (by omega)) (by omega)) (by omega)) (by omega)) (by omega)) (by omega)) (by omega)) (by omega)) (by omega)
    · exact below_set (below_set (below_set (below_set (below_set (below_set (below_set (below_set (HF9.out.hB) (by omega)) (by omega)) (by omega)) (by omega)) (by omega)) (by omega)) (by omega)) (by omega)
end Go.Proofs.Ytcedogmhmpcfmaa.Wa
