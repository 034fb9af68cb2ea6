/- Contract of ward.Down: the child is started anew, or the supervisor gives up. -/
import Derived.Test.YtcedogmhmpcfmaaWardDown2
import Derived.Test.YtcedogmhmpcfmaaWardInts
import Derived.Deep.AppendLies
import Derived.Deep.RegionLaw
namespace Go.Proofs.Ytcedogmhmpcfmaa.Wa
open Go.RowKit
set_option linter.unusedVariables false
structure AgI (W : Wd) (now : Int) (w wr : World) (base g c1 P S0 : Nat) (B9 : Option Addr) (n9 d9 : Nat) (A11 : Option Addr) (L c11 : Nat) (sp Tl : List Int) (fr ub k : Nat) (vt : Value) : Prop where
  f : Fr w wr (.int .i64 W.how) (.int .i64 W.most) (.int .i64 W.window) (.slice (some ⟨g, 0, none⟩) W.n c1) (.slice B9 n9 d9) now
  p0 : wr.cell? ⟨P, 0, none⟩ = some (.slice A11 L c11)
  p1 : wr.cell? ⟨P, 1, none⟩ = some vt
  p2 : wr.cell? ⟨P, 2, none⟩ = some (.bool false)
  pf : ∀ o, wr.frozen? ⟨P, o, none⟩ = false
  pz : P < wr.heap.size
  row : wr.ownsRow base 43 3 (.slice (some ⟨g, 0, none⟩) W.n c1) W.n (flatC (chC (offR W.R k ub)) W.n)
  times : OwnI wr base (.slice B9 n9 d9) Tl
  stp : OwnI wr S0 (.slice A11 L c11) sp
  str : OwnI wr (P + 1) vt (startIds W.R fr k)
/-- how the blocks lie -/
structure AgB (w : World) (base g P S0 : Nat) (B9 : Option Addr) (n9 d9 : Nat) (A11 : Option Addr) (L c11 : Nat) : Prop where
  hb : w.heap.size + 1 + 1 + 1 < base
  hg : base ≤ g
  hS : g < S0
  h9 : ∀ k, (Value.slice B9 n9 d9).ownBlock = some k → g < k ∧ k < S0
  h11 : ∀ k, (Value.slice A11 L c11).ownBlock = some k → k < P
  hP : S0 ≤ P
section
variable {W : Wd} {now : Int} {w wr wx : World} {base g c1 P S0 : Nat} {B9 : Option Addr} {n9 d9 : Nat} {A11 : Option Addr} {L c11 : Nat} {sp Tl : List Int} {fr ub k : Nat} {vt : Value}
theorem AgI.below (h : AgI W now w wr base g c1 P S0 B9 n9 d9 A11 L c11 sp Tl fr ub k vt) (hb : Below wr.heap.size wr wx) : AgI W now w wx base g c1 P S0 B9 n9 d9 A11 L c11 sp Tl fr ub k vt :=
  ⟨h.f.below hb, (hb.cell (p := ⟨_, _, none⟩) h.pz).trans h.p0, (hb.cell (p := ⟨_, _, none⟩) h.pz).trans h.p1, (hb.cell (p := ⟨_, _, none⟩) h.pz).trans h.p2, fun o => (hb.frozen (p := ⟨_, _, none⟩) h.pz).trans (h.pf o),
    Nat.lt_of_lt_of_le h.pz hb.size, own_keep h.row hb, h.times.below hb, h.stp.below hb, h.str.below hb⟩
theorem AgI.skip (h : AgI W now w wr base g c1 P S0 B9 n9 d9 A11 L c11 sp Tl fr ub k vt) (hf : fr ≤ k) (hl : (W.R k).lives = false) : AgI W now w wr base g c1 P S0 B9 n9 d9 A11 L c11 sp Tl fr ub (k + 1) vt :=
  ⟨h.f, h.p0, h.p1, h.p2, h.pf, h.pz, by rw [← offR_same hl]; exact h.row, h.times, h.stp, by rw [startIds_step _ hf, hl]; simpa using h.str⟩
theorem onR_step (R : Nat → Ch) {k ub n : Nat} (hk : k < ub) (hl : (R k).lives = true) : ∀ i, i < n → chC (offR R (k + 1) ub) i = if i = k then (chC (offR R k ub) k).set 2 (.bool true) else chC (offR R k ub) i := by
  intro i _
  unfold chC offR
  by_cases e : i = k
  · subst e
    rw [if_pos rfl, if_neg (by omega), if_pos ⟨Nat.le_refl _, hk⟩, hl]
    rfl
  · rw [if_neg e]
    by_cases h1 : k ≤ i ∧ i < ub
    · have h2 : k + 1 ≤ i ∧ i < ub := by omega
      simp only [if_pos h1, if_pos h2]
    · have h2 : ¬ (k + 1 ≤ i ∧ i < ub) := by omega
      simp only [if_neg h1, if_neg h2]
theorem AgI.set (hA : AgB w base g P S0 B9 n9 d9 A11 L c11) (h : AgI W now w wr base g c1 P S0 B9 n9 d9 A11 L c11 sp Tl fr ub k vt) (hk : k < ub) (hl : (W.R k).lives = true) {w2 : World} {v' : Value}
    (hO : OwnI w2 (P + 1) v' (startIds W.R fr k ++ [(W.R k).id])) (hg : (wr.setCell ⟨g, k * 3 + 2, none⟩ (.bool true)).grownBy w2 vt.ownBlock) (hf : fr ≤ k) :
    AgI W now w (w2.setCell ⟨P, 1, none⟩ v') base g c1 P S0 B9 n9 d9 A11 L c11 sp Tl fr ub (k + 1) v' := by
  obtain ⟨a1, a2, a3, a4, a5, a6⟩ := hA
  have hr := own_setC h.row (chC_len _) (j := 2) (by omega) (.bool true) (onR_step W.R (n := W.n) hk hl)
  have ht : ∀ q, vt.ownBlock = some q → P + 1 ≤ q := fun q hq => (h.str.blk q hq).1
  have hF := ((h.f.grown hr.2 (by omega)).grow hg (fun q hq => by have := ht q hq; omega))
  have hF2 := hF.grow (wy := w2.setCell ⟨P, 1, none⟩ v') (row := some P) (grown_set (grown_self _ _) _) (fun q hq => by injection hq with hq; omega)
  have hc : ∀ o, w2.cell? ⟨P, o, none⟩ = wr.cell? ⟨P, o, none⟩ := fun o => (grown_cell hg (by have := h.pz; simp; omega) (fun e => by have := ht P e.symm; omega)).trans (grown_cell hr.2 h.pz (fun e => by injection e with e; omega))
  have hcf : ∀ o, w2.frozen? ⟨P, o, none⟩ = wr.frozen? ⟨P, o, none⟩ := fun o => (grown_frozen hg (by have := h.pz; simp; omega) (fun e => by have := ht P e.symm; omega)).trans (grown_frozen hr.2 h.pz (fun e => by injection e with e; omega))
  have hPs : P < w2.heap.size := by have := hg.size; have := h.pz; simp at *; omega
  have gP : w2.grownBy (w2.setCell ⟨P, 1, none⟩ v') (some P) := grown_set (grown_self _ _) _
  refine ⟨hF2, ?_, ?_, ?_, fun o => ?_, by simpa using hPs, ?_, ?_, ?_, ?_⟩
  · exact (World.cell?_setCell_other _ _ _ _ (by simp)).trans ((hc 0).trans h.p0)
  · exact World.cell?_setCell_same _ _ _ ((hc 1).trans h.p1)
  · exact (World.cell?_setCell_other _ _ _ _ (by simp)).trans ((hc 2).trans h.p2)
  · rw [show (w2.setCell ⟨P, 1, none⟩ v').frozen? ⟨P, o, none⟩ = w2.frozen? ⟨P, o, none⟩ by simp]; exact (hcf o).trans (h.pf o)
  · refine own_grown (own_grown hr.1 hg (fun q hq e => ?_)) gP (fun q hq e => ?_)
    · have hq' : g = q := Option.some.inj hq; have := ht q e; omega
    · have hq' : g = q := Option.some.inj hq; injection e with e; omega
  · refine ((h.times.grown hr.2 (fun q hq e => ?_)).grown hg (fun q hq e => ?_)).grown gP (fun q hq e => ?_)
    · have := a4 q hq; injection e with e; omega
    · have := a4 q hq; have := ht q e; omega
    · have := a4 q hq; injection e with e; omega
  · refine ((h.stp.grown hr.2 (fun q hq e => ?_)).grown hg (fun q hq e => ?_)).grown gP (fun q hq e => ?_)
    · have := (h.stp.blk q hq).1; injection e with e; omega
    · have := a5 q hq; have := ht q e; omega
    · have := a5 q hq; injection e with e; omega
  · rw [startIds_step _ hf, hl]
    exact hO.grown gP (fun q hq e => by have := (hO.blk q hq).1; injection e with e; omega)
end
theorem step_append_int {ops : Array Oper} {o : Oper} {a : Act} {w : World} {K : Act → World → Prop} {Q : Exit → Act → World → Prop} {E : Prop} (hgd : o.guard = none) (s x : Operand)
    (ho : o.op = .call { callee := .builtin .append, args := #[s, x], argTypes := #[30, 30] }) (base : Nat) (v : Value) (l : List Int) (hs : a.eval s = v) (hown : OwnI w base v l)
    (H : Nat) (hH : w.heap.size = H) (y : Int) (b : Nat) (hx : a.eval x = .slice (some ⟨b, 0, none⟩) 1 1) (hy : w.cell? ⟨b, 0, none⟩ = some (.int .i64 y)) (hl : l.length ≤ 1000000) (hbase : base ≤ w.heap.size)
    (h : ∀ g cap w', OwnI w' base (.slice (some ⟨g, 0, none⟩) (l.length + 1) cap) (l ++ [y]) → w.grownBy w' v.ownBlock → (v.ownBlock = some g ∨ g = H) → K (a.put o.dst (.slice (some ⟨g, 0, none⟩) (l.length + 1) cap)) w') :
    if Region.wanted o (yielded ops a.tmps) = true then Oper.wp Try.prog o a w K Q else E := by
  obtain ⟨i0, hi, hz0, hz1, hz2⟩ := info_parts infoI
  refine step_append_lies w hgd s x 30 ho base 3 i0 (.int .i64 0) 1 8 Try.underlying30 hi hz0 hz1 hz2 rfl (by decide) v l.length (encI l) hs hown ⟨b, 0, none⟩ 1 1 [.int .i64 y] hx rfl ?_ ?_ (by omega) ?_ ?_ hbase H hH ?_
  · intro j u hj
    match j, hj with
    | 0, hj => simp at hj; subst hj; simpa [Addr.add] using hy
  · intro u hu; simp at hu; subst hu; rfl
  · unfold maxLen; omega
  · omega
  · intro g cap w' h1 h2 h3 _
    refine h g cap w' ?_ h2 h3
    unfold OwnI encI
    rw [List.length_append, List.map_append]
    exact h1
theorem own_drew {w : World} {base n sz : Nat} {e : TypeId} {v : Value} {xs : List Value} (h : w.ownsRow base e sz v n xs) : w.drew.ownsRow base e sz v n xs := h
theorem quiet_same {P : Program} {f : FuncId} {args : Array Value} {w : World} {n : Nat} {v : Value} (h : Calls P f args (w.drewN n) fun e w' => e = .returned v ∧ w.drewN n = w') : Calls P f args (w.drewN n) fun e w'' => e = .returned v ∧ ∃ m, w'' = w.drewN m :=
  h.mono fun _ _ ⟨he, hm⟩ => ⟨he, n, hm.symm⟩
/-- who was stopped -/
theorem mem_stopped {W : Wd} {i fr ub k : Nat} (hok : ∀ k, k < W.n → FineC W.R k) (hto : ub ≤ W.n) (hk : fr ≤ k) (hk2 : k < ub) (hne : k ≠ i) : decide ((W.R k).id ∈ stopIds (offR W.R i (i + 1)) fr ub) = (W.R k).lives := by
  rw [Bool.eq_iff_iff, decide_eq_true_eq, mem_stopIds]
  constructor
  · rintro ⟨j, h1, h2, h3, h4⟩
    have hj : ¬ (i ≤ j ∧ j < i + 1) := by
      intro h
      simp [offR, h] at h3
    simp only [offR, if_neg hj] at h3 h4
    rw [id_inj hok (by omega) (by omega) h4] at h3
    exact h3
  · intro h
    have hj : ¬ (i ≤ k ∧ k < i + 1) := by omega
    exact ⟨k, hk, hk2, by simp only [offR, if_neg hj]; exact h, by simp only [offR, if_neg hj]⟩
theorem offR_in (R : Nat → Ch) {i fr ub : Nat} (h1 : fr ≤ i) (h2 : i < ub) : ∀ k, offR (offR R i (i + 1)) fr ub k = offR R fr ub k := by
  intro k
  unfold offR
  by_cases h : fr ≤ k ∧ k < ub
  · simp only [if_pos h]
    split <;> rfl
  · simp only [if_neg h]
    rw [if_neg (by omega)]
set_option maxRecDepth 100000 in
set_option maxHeartbeats 4000000 in
theorem down_again1 (W : Wd) (A B : Option Addr) (c d : Nat) (id : Int) (failed : Bool) (now : Int) (w : World) (ha : ArgOk W A B c d w) (ok : OkW W) (i : Nat) (hi : ixOf (idB W.R id) W.n = i) (hin : i < W.n) (hl : (W.R i).lives = true) (h0 : 0 ≤ now) (h1 : now ≤ 1099511627776) (hlt : LastOk W now) (hag : againB W i failed = true) (hmost : ((keptT W now).length : Int) < W.most) (hhow : HowIs W 1) :
    Calls Try.prog 26 #[.agg #[.int .i64 W.how, .int .i64 W.most, .int .i64 W.window, .slice A W.n c, .slice B W.m d], .int .i64 id, .bool failed, .int .i64 now] w (DownPost W i failed now w) := by
  have HK := Lib.hid ok
  have HI := Lib.hid hi
  have HL := Lib.hid hl
  have HAG := Lib.hid hag
  have HLT := Lib.hid (show 0 < W.m → W.T (W.m - 1) ≤ now from hlt)
  have hw1 := ok.1.2.2.2.2.1
  have hw2 := ok.1.2.2.2.2.2
  clear ok hi hl hag hlt
  have HA := Lib.hid ha
  have HF0 := Lib.hid (Fr.start w (.int .i64 W.how) (.int .i64 W.most) (.int .i64 W.window) (.slice A W.n c) (.slice B W.m d) now)
  clear ha
  go_enter Try.func26, Try.ntmps26
  go_wp2_with fail
  have ha := HA.out.below ((((Below.refl w.heap.size w).alloc (Nat.le_refl _) (.cells #[.int .i64 W.how, .int .i64 W.most, .int .i64 W.window, .slice A W.n c, .slice B W.m d] 32)).alloc (by simp) (.cells #[.int .i64 now] 3)).alloc (by simp; omega) (.cells #[.int .i64 0, .int .i64 0, .int .i64 0, .slice none 0 0, .slice none 0 0] 32) |>.alloc (by simp; omega) (.cells #[.slice none 0 0, .slice none 0 0, .bool false] 69))
  refine (check_ok W A B c d _ ha.hn ha.hc ha.hm ha.hd ha.hR ha.hT HK.out).mono ?_
  rintro e w1 ⟨rfl, hb⟩
  have hF := HF0.out.below hb
  have ha1 := HA.out.below hF.hB
  clear ha hb
  have HF1 := Lib.hid hF
  obtain ⟨a0, a1, a2, a3, a4, b0, r0, r1, r2, r3, r4, s0, s1, s2, fa, fb, fr, fs, hz, hB⟩ := hF
  go_wp2_with fail
  refine (find_any A W.n c W.R id _ (by have := ha1.hn; have := ha1.hc; omega) ha1.hR).mono ?_
  rintro e w2 ⟨rfl, hb⟩
  clear a0 a1 a2 a3 a4 b0 r0 r1 r2 r3 r4 s0 s1 s2 fa fb fr fs hz hB
  have hF := HF1.out.below hb
  have HF := Lib.hid hF
  rw [HI.out]
  clear hb ha1
  obtain ⟨b, off, hAA, hb0, hcell⟩ := HA.out.hR (by omega)
  have k0 : w2.cell? ⟨b, off + i * 3, none⟩ = some (.int .i64 (W.R i).id) := (hF.hB.cell (p := ⟨b, _, none⟩) hb0).trans (hcell i hin 0 _ rfl)
  have k1 : w2.cell? ⟨b, off + i * 3 + 1, none⟩ = some (.int .i64 (W.R i).when) := (hF.hB.cell (p := ⟨b, _, none⟩) hb0).trans (hcell i hin 1 _ rfl)
  have k2 : w2.cell? ⟨b, off + i * 3 + 2, none⟩ = some (.bool (W.R i).lives) := (hF.hB.cell (p := ⟨b, _, none⟩) hb0).trans (hcell i hin 2 _ rfl)
  have i1 : (0 : Int) ≤ (i : Int) := by omega
  have i2 : (i : Int) < (W.n : Int) := by omega
  clear hcell
  rw [HL.out] at k2
  obtain ⟨a0, a1, a2, a3, a4, b0, r0, r1, r2, r3, r4, s0, s1, s2, fa, fb, fr, fs, hz, hB⟩ := hF
  subst hAA
  go_upto_region 9 with (fail)
  go_cut [45] (fun x wx => x = .bool false ∧ Fr w wx (.int .i64 W.how) (.int .i64 W.most) (.int .i64 W.window) (.slice (some ⟨b, off, none⟩) W.n c) (.slice B W.m d) now)
  case first =>
    have hF := HF.out
    by_cases hm0 : 0 < W.m
    · have hlast := HLT.out hm0
      have d1 : decide (now < 0) = false := by simp; omega
      have d2 : decide (1099511627776 < now) = false := by simp; omega
      have d3 : decide ((0 : Int) < (W.m : Int)) = true := by simp; omega
      have d3n : decide (0 < W.m) = true := by simp; omega
      obtain ⟨b2, off2, hBB, hb2, htc⟩ := HA.out.hT (by omega)
      have t0 : w2.cell? ⟨b2, off2 + (W.m - 1), none⟩ = some (.int .i64 (W.T (W.m - 1))) := (hF.hB.cell (p := ⟨b2, _, none⟩) hb2).trans (by simpa using htc (W.m - 1) (by omega) 0 _ rfl)
      have m1 : (0 : Int) ≤ (W.m : Int) - 1 := by omega
      have m2 : (W.m : Int) - 1 < (W.m : Int) := by omega
      have m3 : ((W.m : Int) - 1).toNat = W.m - 1 := by omega
      have m4 : IntKind.i64.wrap ((W.m : Int) - 1) = (W.m : Int) - 1 := IntWalk.i64_in _ (by have := HA.out.hm; have := HA.out.hd; omega)
      clear htc
      have d4 : decide (now < W.T (W.m - 1)) = false := by simpa using hlast
      subst hBB
      clear hF hlast
      go_quiet (fail)
      go_wp2_with fail
      go_meet
      exact ⟨rfl, HF.out.below (below_drewN (Below.refl _ _) nq)⟩
    · have hm1 : W.m ≤ 0 := by omega
      have d1 : decide (now < 0) = false := by simp; omega
      have d2 : decide (1099511627776 < now) = false := by simp; omega
      have d3 : decide ((0 : Int) < (W.m : Int)) = false := by simp; omega
      have d3n : decide (0 < W.m) = false := by simp; omega
      clear hF hm0
      go_quiet (fail)
      go_wp2_with fail
      go_meet
      exact ⟨rfl, HF.out.below (below_drewN (Below.refl _ _) nq)⟩
  case rest =>
  obtain ⟨hx, hF3⟩ := hcut
  subst hx
  obtain ⟨w3, rfl⟩ : ∃ w3 : World, w3 = wc := ⟨_, rfl⟩
  clear i1 i2 k0 k1 k2
  clear a0 a1 a2 a3 a4 b0 r0 r1 r2 r3 r4 s0 s1 s2 fa fb fr fs hz hB
  have ha3 := HA.out.below hF3.hB
  have HF3 := Lib.hid hF3
  have ha1 := HK.out.2.1
  have ha2 := HK.out.2.2.1
  obtain ⟨a0, a1, a2, a3, a4, b0, r0, r1, r2, r3, r4, s0, s1, s2, fa, fb, fr, fs, hz, hB⟩ := hF3
  go_wp2_with fail
  refine (copyOf_any W _ _ c d _ (by omega) (by omega) ha3.hA ha3.hB ha3.hR ha3.hT).mono ?_
  rintro e w4 ⟨A1, c1, B1, d1, rfl, hown, htimes, hord, hb⟩
  clear a0 a1 a2 a3 a4 b0 r0 r1 r2 r3 r4 s0 s1 s2 fa fb fr fs hz hB
  obtain ⟨g, c1', hv, hbase, hlt, hnc, hcm⟩ := own_form hown (by omega)
  injection hv with hv1 _ hv2
  subst hv1 hv2
  have hz3 := HF3.out.hz
  have hF4 := HF3.out.below hb
  have HF4 := Lib.hid hF4
  have k0 : w4.cell? ⟨g, i * 3, none⟩ = some (.int .i64 (W.R i).id) := by have := own_cellC hown (chC_len _) hin (j := 0) (by omega); rw [Nat.add_zero] at this; rw [this]; rfl
  have k1 : w4.cell? ⟨g, i * 3 + 1, none⟩ = some (.int .i64 (W.R i).when) := by rw [own_cellC hown (chC_len _) hin (j := 1) (by omega)]; rfl
  have k2 : w4.cell? ⟨g, i * 3 + 2, none⟩ = some (.bool (W.R i).lives) := by rw [own_cellC hown (chC_len _) hin (j := 2) (by omega)]; rfl
  have kf : ∀ o, w4.frozen? ⟨g, o, none⟩ = false := fun o => hown.frozenAt o
  have n1 : ¬ (w.heap.size = g) := by omega
  have n2 : ¬ (g = w.heap.size) := by omega
  have n3 : ¬ (w.heap.size + 1 = g) := by omega
  have n4 : ¬ (g = w.heap.size + 1) := by omega
  have n5 : ¬ (w.heap.size + 1 + 1 = g) := by omega
  have n6 : ¬ (g = w.heap.size + 1 + 1) := by omega
  have n7 : ¬ (w.heap.size + 1 + 1 + 1 = g) := by omega
  have n8 : ¬ (g = w.heap.size + 1 + 1 + 1) := by omega
  have i1 : (0 : Int) ≤ (i : Int) := by omega
  have i2 : (i : Int) < (W.n : Int) := by omega
  have HF5 := Lib.hid (((((HF4.out.set0 (.int .i64 W.how)).set1 (.int .i64 W.most)).set2 (.int .i64 W.window)).set3 (.slice (some ⟨g, 0, none⟩) W.n c1)).set4 (.slice B1 W.m d1))
  have HG5 := Lib.hid (show w4.grownBy (((((w4.setCell ⟨w.heap.size, 0, none⟩ (.int .i64 W.how)).setCell ⟨w.heap.size, 1, none⟩ (.int .i64 W.most)).setCell ⟨w.heap.size, 2, none⟩ (.int .i64 W.window)).setCell ⟨w.heap.size, 3, none⟩ (.slice (some ⟨g, 0, none⟩) W.n c1)).setCell ⟨w.heap.size, 4, none⟩ (.slice B1 W.m d1)) (some w.heap.size) from grown_set (grown_set (grown_set (grown_set (grown_set (grown_self _ _) _) _) _) _) _)
  have hg1 : ∀ k, (Value.slice B1 W.m d1).ownBlock = some k → g < k := fun k hk => by
    cases B1 with
    | none => cases hk
    | some bb => have hk' : bb.block = k := Option.some.inj hk; have := hord _ bb rfl rfl; simp at this; omega
  have HO5 := Lib.hid (own_setC (own_grown hown HG5.out (fun k hk e => by have hk' : g = k := Option.some.inj hk; injection e with e; omega)) (chC_len _) (j := 2) (by omega) (.bool false) (offR_one W.R i))
  have HT5 := Lib.hid (own_grown (own_grown htimes HG5.out (fun k hk e => by have := hg1 k hk; injection e with e; omega)) HO5.out.2 (fun k hk e => by have := hg1 k hk; injection e with e; omega))
  have HG1 := Lib.hid hg1
  have HF6 := Lib.hid (HF5.out.grown HO5.out.2 (by omega))
  clear hown htimes hord hb hg1
  have hcase : ((W.R i).when == 3) = false ∧ (((W.R i).when == 2) = false ∨ (((W.R i).when == 2) = true ∧ failed = true)) := by
    have := HAG.out
    unfold againB at this
    revert this
    cases h3 : ((W.R i).when == 3) <;> cases h2 : ((W.R i).when == 2) <;> cases failed <;> simp
  obtain ⟨e3, hcase⟩ := hcase
  have hF := HF4.out
  obtain ⟨a0, a1, a2, a3, a4, b0, r0, r1, r2, r3, r4, s0, s1, s2, fa, fb, fr, fs, hz, hB⟩ := hF
  have hdel := delF_own w3.heap.size 49 #[.pointer (some ⟨w.heap.size + 1, 0, none⟩), .pointer (some ⟨w.heap.size, 0, none⟩)] (.slice B1 W.m d1) W.T W.m (fun x => decide (x ≤ now - W.window)) ((((((w4.setCell ⟨w.heap.size, 0, none⟩ (.int .i64 W.how)).setCell ⟨w.heap.size, 1, none⟩ (.int .i64 W.most)).setCell ⟨w.heap.size, 2, none⟩ (.int .i64 W.window)).setCell ⟨w.heap.size, 3, none⟩ (.slice (some ⟨g, 0, none⟩) W.n c1)).setCell ⟨w.heap.size, 4, none⟩ (.slice B1 W.m d1)).setCell ⟨g, i * 3 + 2, none⟩ (.bool false)) (by omega) down1_enters HT5.out
    (fun gt hgt Wx x hg => by
      have hq := HG1.out gt hgt
      have hFx := HF6.out.grown hg (by omega)
      refine (down1_any x now W.window _ _ Wx h0 h1 hw1 hw2 hFx.b0 hFx.a2).mono ?_
      rintro e W' ⟨rfl, rfl⟩
      exact ⟨rfl, grown_self _ _⟩)
  have HD := Lib.hid hdel
  clear hdel
  go_upto_region 14 with (fail)
  go_cut [94] (fun x wx => x = .bool false ∧ wx = ((((((w4.setCell ⟨w.heap.size, 0, none⟩ (.int .i64 W.how)).setCell ⟨w.heap.size, 1, none⟩ (.int .i64 W.most)).setCell ⟨w.heap.size, 2, none⟩ (.int .i64 W.window)).setCell ⟨w.heap.size, 3, none⟩ (.slice (some ⟨g, 0, none⟩) W.n c1)).setCell ⟨w.heap.size, 4, none⟩ (.slice B1 W.m d1)).setCell ⟨g, i * 3 + 2, none⟩ (.bool false)))
  case first =>
    rcases hcase with e2 | ⟨e2, rfl⟩
    all_goals
      go_wp2_with fail
      go_meet
      exact ⟨rfl, rfl⟩
  case rest =>
  obtain ⟨hx, hx2⟩ := hcut
  subst hx hx2
  clear hcase e3
  go_wp2_with fail
  refine HD.out.mono ?_
  rintro e w7 ⟨v7, rfl, hown7, hg7, hb7⟩
  have hown7' : OwnI w7 w3.heap.size v7 (keptT W now) := hown7
  clear hown7
  obtain ⟨B7, d7, rfl, hnc7, hcm7, _⟩ := own_any hown7'
  have hgk : ∀ k, (Value.slice B1 W.m d1).ownBlock = some k → w.heap.size + 1 + 1 + 1 < k := fun k hk => by have := HG1.out k hk; omega
  have hF7 := HF6.out.grow hg7 hgk
  have HF8 := Lib.hid (hF7.set4 (.slice B7 (keptT W now).length d7))
  have HO7 := Lib.hid (own_grown HO5.out.1 hg7 (fun k hk e => by have hk' : g = k := Option.some.inj hk; have := HG1.out k e; omega))
  have HO8 := Lib.hid (own_set (u := .slice B7 (keptT W now).length d7) (o := 4) HO7.out (show w.heap.size < w3.heap.size by omega))
  have HT8 := Lib.hid (own_set (u := .slice B7 (keptT W now).length d7) (o := 4) hown7' (show w.heap.size < w3.heap.size by omega))
  have HG8 := Lib.hid (fun k (hk : (Value.slice B7 (keptT W now).length d7).ownBlock = some k) => HG1.out k (hb7 ▸ hk))
  have HLEN := Lib.hid (keptT_len W now)
  have HS37 := Lib.hid (show w3.heap.size ≤ w7.heap.size from by have := hg7.size; have := (own_lt HO5.out.1).1; have := (own_lt HO5.out.1).2; omega)
  clear a0 a1 a2 a3 a4 b0 r0 r1 r2 r3 r4 s0 s1 s2 fa fb fr fs hz hB
  clear hown7' hg7 hb7 hgk k0 k1 k2 kf
  obtain ⟨q, hq⟩ : ∃ q, (keptT W now).length = q := ⟨_, rfl⟩
  have HQ := Lib.hid hq
  rw [hq] at HF8 HO8 HT8 HG8 hnc7 HLEN
  rw [hq]
  clear hq
  have hlen := HLEN.out
  obtain ⟨a0, a1, a2, a3, a4, b0, r0, r1, r2, r3, r4, s0, s1, s2, fa, fb, fr, fs, hz, hB⟩ := hF7
  have hm : (q : Int) < W.most := by have := HQ.out; omega
  have hm' : decide (W.most ≤ (q : Int)) = false := by simp; omega
  clear hmost
  have hh2 : (W.how == 2) = false := by rw [show W.how = 1 from hhow]; rfl
  have hh3 : (W.how == 3) = false := by rw [show W.how = 1 from hhow]; rfl
  have hT8 : OwnI (w7.setCell ⟨w.heap.size, 4, none⟩ (.slice B7 q d7)) w3.heap.size (.slice B7 q d7) (keptT W now) := by unfold OwnI; rw [HQ.out]; exact HT8.out
  have HT8' := Lib.hid hT8
  have hs37 : w3.heap.size ≤ w7.heap.size := HS37.out
  clear hT8
  go_wp2_with (at_builtin; refine wpList_append_int rfl _ _ rfl w3.heap.size (.slice B7 q d7) _ rfl HT8'.out w7.heap.size (by simp) now rfl (by have := HQ.out; omega) (by simp; omega) ?_; intro v9 w9 hown9 hg9 hor9; obtain ⟨B9, d9, rfl, hnc9, hcm9, _⟩ := own_any hown9; simp only [List.length_append, List.length_singleton] at hown9 hor9; clear a0 a1 a2 a3 a4 b0 r0 r1 r2 r3 r4 s0 s1 s2 fa fb fr fs hz hB; have hF9 := HF8.out.grow hg9 (fun k hk => by have := HG8.out k hk; omega); have HF9 := Lib.hid hF9; have HG9 := Lib.hid hg9; have HO9 := Lib.hid hown9; have HOR := Lib.hid hor9; clear hg9 hown9 hor9; obtain ⟨a0, a1, a2, a3, a4, b0, r0, r1, r2, r3, r4, s0, s1, s2, fa, fb, fr, fs, hz, hB⟩ := hF9)
  clear a0 a1 a2 a3 a4 b0 r0 r1 r2 r3 r4 s0 s1 s2 fa fb fr fs hz hB
  have hz9 : ∀ k, (Value.slice B9 ((keptT W now).length + 1) d9).ownBlock = some k → g < k := fun k hk => by
    rcases HOR.out with h | h
    · exact HG8.out k (h ▸ hk)
    · have h' : some k = some (w7.heap.size + 1) := hk.symm.trans h
      injection h' with h'
      have := (own_lt HO7.out).2
      omega
  have HF10 := Lib.hid (HF9.out.set4 (.slice B9 ((keptT W now).length + 1) d9))
  have HO10 := Lib.hid (own_set (u := (.slice B9 ((keptT W now).length + 1) d9)) (o := 4) (own_grown HO8.out HG9.out (fun k hk e => by have hk' : g = k := Option.some.inj hk; have := HG8.out k e; omega)) (show w.heap.size < w3.heap.size by omega))
  have HT10 := Lib.hid (show OwnI (w9.setCell ⟨w.heap.size, 4, none⟩ (.slice B9 ((keptT W now).length + 1) d9)) w3.heap.size (.slice B9 ((keptT W now).length + 1) d9) (keptT W now ++ [now]) from own_set (u := (.slice B9 ((keptT W now).length + 1) d9)) (o := 4) HO9.out (show w.heap.size < w3.heap.size by omega))
  have HZ9 := Lib.hid hz9
  clear hz9
  generalize w9.setCell ⟨w.heap.size, 4, none⟩ (.slice B9 ((keptT W now).length + 1) d9) = w10 at *
  have hst := stop_any w.heap.size w3.heap.size g c1 W.n i (i + 1) (offR W.R i (i + 1)) w10 (by omega) (by omega) (by omega) (by have := HF10.out.hz; omega) (by omega) HF10.out.a3 HO10.out
  rw [show ((i + 1 : Nat) : Int) = (i : Int) + 1 from by omega] at hst
  refine hst.mono ?_
  clear hst
  rintro e w11 ⟨v11, rfl, hown11, hrow11, hg11⟩
  obtain ⟨A11, c11, rfl, hnc11, hcm11, _⟩ := own_any hown11
  have hb11 := hown11.blk
  have hF11 := HF10.out.grown hg11 (by omega)
  have hT11 := HT10.out.grown hg11 (fun k hk e => by have := HZ9.out k hk; injection e with e; omega)
  have hz11 := hg11.size
  have HAB := Lib.hid (show AgB w w3.heap.size g w11.heap.size w10.heap.size B9 ((keptT W now).length + 1) d9 A11 (stopIds (offR W.R i (i + 1)) i (i + 1)).length c11 from
    ⟨by omega, hbase, (own_lt HO10.out).2, fun k hk => ⟨HZ9.out k hk, (HT10.out.blk k hk).2⟩, fun k hk => (hb11 k hk).2, hz11⟩)
  have hstart : AgI W now w (w11.alloc (.cells #[.slice A11 (stopIds (offR W.R i (i + 1)) i (i + 1)).length c11, .slice none 0 0, .bool false] 69)) w3.heap.size g c1 w11.heap.size w10.heap.size B9 ((keptT W now).length + 1) d9 A11 (stopIds (offR W.R i (i + 1)) i (i + 1)).length c11 (stopIds (offR W.R i (i + 1)) i (i + 1)) (keptT W now ++ [now]) i (i + 1) i (.slice none 0 0) := by
    have hal := (Below.refl w11.heap.size w11).alloc (Nat.le_refl _) (.cells #[.slice A11 (stopIds (offR W.R i (i + 1)) i (i + 1)).length c11, .slice none 0 0, .bool false] 69)
    refine ⟨hF11.below hal, by simp [go_sem], by simp [go_sem], by simp [go_sem], fun o => by simp [go_sem], by simp, ?_, hT11.below hal, hown11.below hal, ?_⟩
    · have e : flatC (chC (offR (offR W.R i (i + 1)) i (i + 1))) W.n = flatC (chC (offR W.R i (i + 1))) W.n := flatC_congr fun k hk => by
        unfold chC
        rw [show offR (offR W.R i (i + 1)) i (i + 1) k = offR W.R i (i + 1) k from offR_in W.R (by omega) (by omega) k]
      rw [← e]
      exact own_keep hrow11 hal
    · unfold startIds idsOf; rw [ksUp_self]; exact OwnI.nil _ _
  have HST := Lib.hid hstart
  have HFC := Lib.hid HK.out.2.2.2.1
  have HLS := Lib.hid (stopIds_len (offR W.R i (i + 1)) i (i + 1))
  clear hstart hown11 hrow11 hg11 hb11 hF11 hT11
  go_wp2_with fail
  go_loopw [17, 18] (fun x _ wr => ∃ (k : Nat) (vt : Value), i ≤ k ∧ k ≤ (i + 1) ∧ x = .int .i64 k ∧ AgI W now w wr w3.heap.size g c1 w11.heap.size w10.heap.size B9 ((keptT W now).length + 1) d9 A11 (stopIds (offR W.R i (i + 1)) i (i + 1)).length c11 (stopIds (offR W.R i (i + 1)) i (i + 1)) (keptT W now ++ [now]) i (i + 1) k vt) (fun x _ _ => (i + 1) - (intOf x).toNat)
  case atStart => exact ⟨i, _, Nat.le_refl _, by omega, rfl, HST.out⟩
  case round =>
    obtain ⟨k, vt, hk1, hk2, rfl, hA⟩ := hrel
    have HA := Lib.hid hA
    obtain ⟨At, ct, hvt, hnt, hcmt, _⟩ := own_any hA.str
    subst hvt
    by_cases hlt : k < (i + 1)
    · have hkn : k < W.n := by omega
      have c0 : wr.cell? ⟨g, k * 3, none⟩ = some (.int .i64 (W.R k).id) := by have := own_cellC hA.row (chC_len _) hkn (j := 0) (by omega); rw [Nat.add_zero] at this; rw [this]; simp [chC, offR]; split <;> rfl
      obtain ⟨hF, p0, p1, p2, pf, pz, hrow, htm, hsp, hstr⟩ := hA
      have i1 : (0 : Int) ≤ (k : Int) := by omega
      have i2 : (k : Int) < (W.n : Int) := by omega
      obtain ⟨a0, a1, a2, a3, a4, b0, r0, r1, r2, r3, r4, s0, s1, s2, fa, fb, fr, fs, hz, hB⟩ := hF
      clear hrow htm hstr
      have hsz : (stopIds (offR W.R i (i + 1)) i (i + 1)).length ≤ 20 := by have := HLS.out; omega
      obtain ⟨idk, hid⟩ : ∃ x, (W.R k).id = x := ⟨_, rfl⟩
      have HID := Lib.hid hid
      rw [hid] at c0
      clear hid
      by_cases e : k = i
      · have e1 : ((k : Int) == (i : Int)) = true := by simp [e]
        have HLV := Lib.hid (show (W.R k).lives = true by rw [e]; exact HL.out)
        clear hsp e
        go_wp2_with fail
        go_quiet (fail)
        clear c0 p0 p1 p2 pf pz e1
        clear a0 a1 a2 a3 a4 b0 r0 r1 r2 r3 r4 s0 s1 s2 fa fb fr fs hz hB
        have hA2 := HA.out.below (below_drewN (Below.refl _ _) nq)
        generalize wr.drewN nq = wy at *
        have HA2 := Lib.hid hA2
        have c0 : wy.cell? ⟨g, k * 3, none⟩ = some (.int .i64 idk) := by have := own_cellC hA2.row (chC_len _) hkn (j := 0) (by omega); rw [Nat.add_zero] at this; rw [this, ← HID.out]; simp [chC, offR]; split <;> rfl
        have c2 : wy.cell? ⟨g, k * 3 + 2, none⟩ = some (.bool false) := by rw [own_cellC hA2.row (chC_len _) hkn (j := 2) (by omega)]; simp [chC, offR, hlt]
        have cf : ∀ o, wy.frozen? ⟨g, o, none⟩ = false := fun o => hA2.row.frozenAt o
        obtain ⟨hF, p0, p1, p2, pf, pz, hrow, htm, hsp, hstr⟩ := hA2
        have l1 : ¬ (g = w11.heap.size) := by have := HAB.out.hS; have := HAB.out.hP; omega
        have l2 : ¬ (w11.heap.size = g) := by omega
        obtain ⟨a0, a1, a2, a3, a4, b0, r0, r1, r2, r3, r4, s0, s1, s2, fa, fb, fr, fs, hz, hB⟩ := hF
        clear hrow htm hsp hstr
        go_wp2_with fail
        have HSB := Lib.hid (fun q hq => (HA2.out.str.blk q hq).1)
        have hsl := startIds_len W.R i k
        have HO2 := Lib.hid (HA2.out.str.grown (row := some g) (grown_set (g := g) (a := k * 3 + 2) (grown_self wy _) (.bool true)) (fun q hq e => by have := (HA2.out.str.blk q hq).1; have := HAB.out.hS; have := HAB.out.hP; injection e with e; omega))
        go_region_law ((refine step_append_int (by rfl) _ _ (by rfl) (w11.heap.size + 1) (.slice At (startIds W.R i k).length ct) (startIds W.R i k) (by rfl) (by exact HO2.out.alloc _) (wy.heap.size + 1) (by simp) idk wy.heap.size (by rfl) (by simp [go_sem]) (by omega) (by simp; omega) ?_; intro g9 cap9 w12 hown12 hg12 hor12; have hg13 : (wy.setCell ⟨g, k * 3 + 2, none⟩ (.bool true)).grownBy w12 (Value.slice At (startIds W.R i k).length ct).ownBlock := grown_step (World.grownBy_alloc _ (.cells #[.int .i64 idk] 3) _) (show ((wy.setCell ⟨g, k * 3 + 2, none⟩ (.bool true)).alloc (.cells #[.int .i64 idk] 3)).grownBy w12 _ from ⟨hg12.os, hg12.tape, hg12.output, hg12.size, hg12.block⟩) (.inl rfl); have q1 : w12.cell? ⟨w11.heap.size, 1, none⟩ = some (.slice At (startIds W.R i k).length ct) := (grown_cell hg13 (by simp; omega) (fun e => by have := HSB.out _ e.symm; omega)).trans ((World.cell?_setCell_far _ _ _ _ l1).trans p1); have qf : ∀ o, w12.frozen? ⟨w11.heap.size, o, none⟩ = false := (fun o => (grown_frozen hg13 (by simp; omega) (fun e => by have := HSB.out _ e.symm; omega)).trans (by simpa using pf o)); have HO12 := Lib.hid hown12; have HG12 := Lib.hid hg13; clear hown12 hg12 hor12 hg13))
        all_goals go_wp2_with fail
        all_goals exact ⟨⟨k + 1, _, by omega, by omega, by go_num, HA2.out.set HAB.out hlt HLV.out (by rw [HID.out]; exact HO12.out) HG12.out hk1⟩, by simp [intOf]; omega⟩
      · exfalso; omega
    · obtain rfl : k = (i + 1) := by omega
      obtain ⟨hF, p0, p1, p2, pf, pz, hrow, htm, hsp, hstr⟩ := hA
      obtain ⟨a0, a1, a2, a3, a4, b0, r0, r1, r2, r3, r4, s0, s1, s2, fa, fb, fr, fs, hz, hB⟩ := hF
      clear hrow htm hstr hsp
      have y1 : ¬ (w.heap.size + 1 + 1 = w11.heap.size) := by have := HAB.out.hb; have := HAB.out.hg; have := HAB.out.hS; have := HAB.out.hP; omega
      have y2 : ¬ (w11.heap.size = w.heap.size + 1 + 1) := by omega
      have y3 : ¬ (w.heap.size + 1 + 1 + 1 = w11.heap.size) := by have := HAB.out.hb; have := HAB.out.hg; have := HAB.out.hS; have := HAB.out.hP; omega
      have y4 : ¬ (w11.heap.size = w.heap.size + 1 + 1 + 1) := by omega
      go_wp2_with fail
      go_region
      all_goals go_wp2_with fail
      all_goals
        refine bodyPost_ret (v := .tuple #[.agg #[.int .i64 W.how, .int .i64 W.most, .int .i64 W.window, .slice (some ⟨g, 0, none⟩) W.n c1, (.slice B9 ((keptT W now).length + 1) d9)], .agg #[.slice A11 (stopIds (offR W.R i (i + 1)) i (i + 1)).length c11, .slice At (startIds W.R i (i + 1)).length ct, .bool false], .int .i64 0]) (by simp [results, Try.results26, go_sem, r0, r1, r2, r3, r4, s0, s1, s2]) rfl ?_
        have hq' := HQ.out
        have bb := HAB.out
        obtain ⟨bb1, bb2, bb3, bb4, bb5, bb6⟩ := bb
        refine ⟨W.R, keptT W now ++ [now], startIds W.R i (i + 1), (stopIds (offR W.R i (i + 1)) i (i + 1)), false, .inr (.inr ⟨HAG.out, by omega, fun _ _ => rfl, rfl, ?_, ?_, rfl⟩), some ⟨g, 0, none⟩, c1, B9, d9, _, _, by rw [List.length_append, List.length_singleton], ?_, ?_, ?_, ?_, ?_⟩
        · unfold frOf toOf; simp [show W.how = 1 from hhow]
        · unfold frOf toOf; simp [show W.how = 1 from hhow]
        · have hr := HA.out.row
          rw [offR_none] at hr
          exact own_mono (own_drew (own_set (own_set (own_set (own_set (own_set (own_set (own_set (own_set (hr) (by omega)) (by omega)) (by omega)) (by omega)) (by omega)) (by omega)) (by omega)) (by omega))) (by omega)
        · have hr := HA.out.times
          unfold OwnI
          rw [List.length_append, List.length_singleton]
          have hr' : wr.ownsRow w3.heap.size 3 1 (.slice B9 ((keptT W now).length + 1) d9) ((keptT W now).length + 1) (encI (keptT W now ++ [now])) := by unfold OwnI at hr; rw [List.length_append, List.length_singleton] at hr; exact hr
          exact own_mono (own_drew (own_set (own_set (own_set (own_set (own_set (own_set (own_set (own_set (hr') (by omega)) (by omega)) (by omega)) (by omega)) (by omega)) (by omega)) (by omega)) (by omega))) (by omega)
        · exact own_mono (own_drew (own_set (own_set (own_set (own_set (own_set (own_set (own_set (own_set (HA.out.stp) (by omega)) (by omega)) (by omega)) (by omega)) (by omega)) (by omega)) (by omega)) (by omega))) (by omega)
        · exact own_mono (own_drew (own_set (own_set (own_set (own_set (own_set (own_set (own_set (own_set (HA.out.str) (by omega)) (by omega)) (by omega)) (by omega)) (by omega)) (by omega)) (by omega)) (by omega))) (by omega)
        · exact Below.drew (below_set (below_set (below_set (below_set (below_set (below_set (below_set (below_set (HA.out.f.hB) (by omega)) (by omega)) (by omega)) (by omega)) (by omega)) (by omega)) (by omega)) (by omega))
set_option maxRecDepth 100000 in
set_option maxHeartbeats 4000000 in
theorem down_again2 (W : Wd) (A B : Option Addr) (c d : Nat) (id : Int) (failed : Bool) (now : Int) (w : World) (ha : ArgOk W A B c d w) (ok : OkW W) (i : Nat) (hi : ixOf (idB W.R id) W.n = i) (hin : i < W.n) (hl : (W.R i).lives = true) (h0 : 0 ≤ now) (h1 : now ≤ 1099511627776) (hlt : LastOk W now) (hag : againB W i failed = true) (hmost : ((keptT W now).length : Int) < W.most) (hhow : HowIs W 2) :
    Calls Try.prog 26 #[.agg #[.int .i64 W.how, .int .i64 W.most, .int .i64 W.window, .slice A W.n c, .slice B W.m d], .int .i64 id, .bool failed, .int .i64 now] w (DownPost W i failed now w) := by
  have HK := Lib.hid ok
  have HI := Lib.hid hi
  have HL := Lib.hid hl
  have HAG := Lib.hid hag
  have HLT := Lib.hid (show 0 < W.m → W.T (W.m - 1) ≤ now from hlt)
  have hw1 := ok.1.2.2.2.2.1
  have hw2 := ok.1.2.2.2.2.2
  clear ok hi hl hag hlt
  have HA := Lib.hid ha
  have HF0 := Lib.hid (Fr.start w (.int .i64 W.how) (.int .i64 W.most) (.int .i64 W.window) (.slice A W.n c) (.slice B W.m d) now)
  clear ha
  go_enter Try.func26, Try.ntmps26
  go_wp2_with fail
  have ha := HA.out.below ((((Below.refl w.heap.size w).alloc (Nat.le_refl _) (.cells #[.int .i64 W.how, .int .i64 W.most, .int .i64 W.window, .slice A W.n c, .slice B W.m d] 32)).alloc (by simp) (.cells #[.int .i64 now] 3)).alloc (by simp; omega) (.cells #[.int .i64 0, .int .i64 0, .int .i64 0, .slice none 0 0, .slice none 0 0] 32) |>.alloc (by simp; omega) (.cells #[.slice none 0 0, .slice none 0 0, .bool false] 69))
  refine (check_ok W A B c d _ ha.hn ha.hc ha.hm ha.hd ha.hR ha.hT HK.out).mono ?_
  rintro e w1 ⟨rfl, hb⟩
  have hF := HF0.out.below hb
  have ha1 := HA.out.below hF.hB
  clear ha hb
  have HF1 := Lib.hid hF
  obtain ⟨a0, a1, a2, a3, a4, b0, r0, r1, r2, r3, r4, s0, s1, s2, fa, fb, fr, fs, hz, hB⟩ := hF
  go_wp2_with fail
  refine (find_any A W.n c W.R id _ (by have := ha1.hn; have := ha1.hc; omega) ha1.hR).mono ?_
  rintro e w2 ⟨rfl, hb⟩
  clear a0 a1 a2 a3 a4 b0 r0 r1 r2 r3 r4 s0 s1 s2 fa fb fr fs hz hB
  have hF := HF1.out.below hb
  have HF := Lib.hid hF
  rw [HI.out]
  clear hb ha1
  obtain ⟨b, off, hAA, hb0, hcell⟩ := HA.out.hR (by omega)
  have k0 : w2.cell? ⟨b, off + i * 3, none⟩ = some (.int .i64 (W.R i).id) := (hF.hB.cell (p := ⟨b, _, none⟩) hb0).trans (hcell i hin 0 _ rfl)
  have k1 : w2.cell? ⟨b, off + i * 3 + 1, none⟩ = some (.int .i64 (W.R i).when) := (hF.hB.cell (p := ⟨b, _, none⟩) hb0).trans (hcell i hin 1 _ rfl)
  have k2 : w2.cell? ⟨b, off + i * 3 + 2, none⟩ = some (.bool (W.R i).lives) := (hF.hB.cell (p := ⟨b, _, none⟩) hb0).trans (hcell i hin 2 _ rfl)
  have i1 : (0 : Int) ≤ (i : Int) := by omega
  have i2 : (i : Int) < (W.n : Int) := by omega
  clear hcell
  rw [HL.out] at k2
  obtain ⟨a0, a1, a2, a3, a4, b0, r0, r1, r2, r3, r4, s0, s1, s2, fa, fb, fr, fs, hz, hB⟩ := hF
  subst hAA
  go_upto_region 9 with (fail)
  go_cut [45] (fun x wx => x = .bool false ∧ Fr w wx (.int .i64 W.how) (.int .i64 W.most) (.int .i64 W.window) (.slice (some ⟨b, off, none⟩) W.n c) (.slice B W.m d) now)
  case first =>
    have hF := HF.out
    by_cases hm0 : 0 < W.m
    · have hlast := HLT.out hm0
      have d1 : decide (now < 0) = false := by simp; omega
      have d2 : decide (1099511627776 < now) = false := by simp; omega
      have d3 : decide ((0 : Int) < (W.m : Int)) = true := by simp; omega
      have d3n : decide (0 < W.m) = true := by simp; omega
      obtain ⟨b2, off2, hBB, hb2, htc⟩ := HA.out.hT (by omega)
      have t0 : w2.cell? ⟨b2, off2 + (W.m - 1), none⟩ = some (.int .i64 (W.T (W.m - 1))) := (hF.hB.cell (p := ⟨b2, _, none⟩) hb2).trans (by simpa using htc (W.m - 1) (by omega) 0 _ rfl)
      have m1 : (0 : Int) ≤ (W.m : Int) - 1 := by omega
      have m2 : (W.m : Int) - 1 < (W.m : Int) := by omega
      have m3 : ((W.m : Int) - 1).toNat = W.m - 1 := by omega
      have m4 : IntKind.i64.wrap ((W.m : Int) - 1) = (W.m : Int) - 1 := IntWalk.i64_in _ (by have := HA.out.hm; have := HA.out.hd; omega)
      clear htc
      have d4 : decide (now < W.T (W.m - 1)) = false := by simpa using hlast
      subst hBB
      clear hF hlast
      go_quiet (fail)
      go_wp2_with fail
      go_meet
      exact ⟨rfl, HF.out.below (below_drewN (Below.refl _ _) nq)⟩
    · have hm1 : W.m ≤ 0 := by omega
      have d1 : decide (now < 0) = false := by simp; omega
      have d2 : decide (1099511627776 < now) = false := by simp; omega
      have d3 : decide ((0 : Int) < (W.m : Int)) = false := by simp; omega
      have d3n : decide (0 < W.m) = false := by simp; omega
      clear hF hm0
      go_quiet (fail)
      go_wp2_with fail
      go_meet
      exact ⟨rfl, HF.out.below (below_drewN (Below.refl _ _) nq)⟩
  case rest =>
  obtain ⟨hx, hF3⟩ := hcut
  subst hx
  obtain ⟨w3, rfl⟩ : ∃ w3 : World, w3 = wc := ⟨_, rfl⟩
  clear i1 i2 k0 k1 k2
  clear a0 a1 a2 a3 a4 b0 r0 r1 r2 r3 r4 s0 s1 s2 fa fb fr fs hz hB
  have ha3 := HA.out.below hF3.hB
  have HF3 := Lib.hid hF3
  have ha1 := HK.out.2.1
  have ha2 := HK.out.2.2.1
  obtain ⟨a0, a1, a2, a3, a4, b0, r0, r1, r2, r3, r4, s0, s1, s2, fa, fb, fr, fs, hz, hB⟩ := hF3
  go_wp2_with fail
  refine (copyOf_any W _ _ c d _ (by omega) (by omega) ha3.hA ha3.hB ha3.hR ha3.hT).mono ?_
  rintro e w4 ⟨A1, c1, B1, d1, rfl, hown, htimes, hord, hb⟩
  clear a0 a1 a2 a3 a4 b0 r0 r1 r2 r3 r4 s0 s1 s2 fa fb fr fs hz hB
  obtain ⟨g, c1', hv, hbase, hlt, hnc, hcm⟩ := own_form hown (by omega)
  injection hv with hv1 _ hv2
  subst hv1 hv2
  have hz3 := HF3.out.hz
  have hF4 := HF3.out.below hb
  have HF4 := Lib.hid hF4
  have k0 : w4.cell? ⟨g, i * 3, none⟩ = some (.int .i64 (W.R i).id) := by have := own_cellC hown (chC_len _) hin (j := 0) (by omega); rw [Nat.add_zero] at this; rw [this]; rfl
  have k1 : w4.cell? ⟨g, i * 3 + 1, none⟩ = some (.int .i64 (W.R i).when) := by rw [own_cellC hown (chC_len _) hin (j := 1) (by omega)]; rfl
  have k2 : w4.cell? ⟨g, i * 3 + 2, none⟩ = some (.bool (W.R i).lives) := by rw [own_cellC hown (chC_len _) hin (j := 2) (by omega)]; rfl
  have kf : ∀ o, w4.frozen? ⟨g, o, none⟩ = false := fun o => hown.frozenAt o
  have n1 : ¬ (w.heap.size = g) := by omega
  have n2 : ¬ (g = w.heap.size) := by omega
  have n3 : ¬ (w.heap.size + 1 = g) := by omega
  have n4 : ¬ (g = w.heap.size + 1) := by omega
  have n5 : ¬ (w.heap.size + 1 + 1 = g) := by omega
  have n6 : ¬ (g = w.heap.size + 1 + 1) := by omega
  have n7 : ¬ (w.heap.size + 1 + 1 + 1 = g) := by omega
  have n8 : ¬ (g = w.heap.size + 1 + 1 + 1) := by omega
  have i1 : (0 : Int) ≤ (i : Int) := by omega
  have i2 : (i : Int) < (W.n : Int) := by omega
  have HF5 := Lib.hid (((((HF4.out.set0 (.int .i64 W.how)).set1 (.int .i64 W.most)).set2 (.int .i64 W.window)).set3 (.slice (some ⟨g, 0, none⟩) W.n c1)).set4 (.slice B1 W.m d1))
  have HG5 := Lib.hid (show w4.grownBy (((((w4.setCell ⟨w.heap.size, 0, none⟩ (.int .i64 W.how)).setCell ⟨w.heap.size, 1, none⟩ (.int .i64 W.most)).setCell ⟨w.heap.size, 2, none⟩ (.int .i64 W.window)).setCell ⟨w.heap.size, 3, none⟩ (.slice (some ⟨g, 0, none⟩) W.n c1)).setCell ⟨w.heap.size, 4, none⟩ (.slice B1 W.m d1)) (some w.heap.size) from grown_set (grown_set (grown_set (grown_set (grown_set (grown_self _ _) _) _) _) _) _)
  have hg1 : ∀ k, (Value.slice B1 W.m d1).ownBlock = some k → g < k := fun k hk => by
    cases B1 with
    | none => cases hk
    | some bb => have hk' : bb.block = k := Option.some.inj hk; have := hord _ bb rfl rfl; simp at this; omega
  have HO5 := Lib.hid (own_setC (own_grown hown HG5.out (fun k hk e => by have hk' : g = k := Option.some.inj hk; injection e with e; omega)) (chC_len _) (j := 2) (by omega) (.bool false) (offR_one W.R i))
  have HT5 := Lib.hid (own_grown (own_grown htimes HG5.out (fun k hk e => by have := hg1 k hk; injection e with e; omega)) HO5.out.2 (fun k hk e => by have := hg1 k hk; injection e with e; omega))
  have HG1 := Lib.hid hg1
  have HF6 := Lib.hid (HF5.out.grown HO5.out.2 (by omega))
  clear hown htimes hord hb hg1
  have hcase : ((W.R i).when == 3) = false ∧ (((W.R i).when == 2) = false ∨ (((W.R i).when == 2) = true ∧ failed = true)) := by
    have := HAG.out
    unfold againB at this
    revert this
    cases h3 : ((W.R i).when == 3) <;> cases h2 : ((W.R i).when == 2) <;> cases failed <;> simp
  obtain ⟨e3, hcase⟩ := hcase
  have hF := HF4.out
  obtain ⟨a0, a1, a2, a3, a4, b0, r0, r1, r2, r3, r4, s0, s1, s2, fa, fb, fr, fs, hz, hB⟩ := hF
  have hdel := delF_own w3.heap.size 49 #[.pointer (some ⟨w.heap.size + 1, 0, none⟩), .pointer (some ⟨w.heap.size, 0, none⟩)] (.slice B1 W.m d1) W.T W.m (fun x => decide (x ≤ now - W.window)) ((((((w4.setCell ⟨w.heap.size, 0, none⟩ (.int .i64 W.how)).setCell ⟨w.heap.size, 1, none⟩ (.int .i64 W.most)).setCell ⟨w.heap.size, 2, none⟩ (.int .i64 W.window)).setCell ⟨w.heap.size, 3, none⟩ (.slice (some ⟨g, 0, none⟩) W.n c1)).setCell ⟨w.heap.size, 4, none⟩ (.slice B1 W.m d1)).setCell ⟨g, i * 3 + 2, none⟩ (.bool false)) (by omega) down1_enters HT5.out
    (fun gt hgt Wx x hg => by
      have hq := HG1.out gt hgt
      have hFx := HF6.out.grown hg (by omega)
      refine (down1_any x now W.window _ _ Wx h0 h1 hw1 hw2 hFx.b0 hFx.a2).mono ?_
      rintro e W' ⟨rfl, rfl⟩
      exact ⟨rfl, grown_self _ _⟩)
  have HD := Lib.hid hdel
  clear hdel
  go_upto_region 14 with (fail)
  go_cut [94] (fun x wx => x = .bool false ∧ wx = ((((((w4.setCell ⟨w.heap.size, 0, none⟩ (.int .i64 W.how)).setCell ⟨w.heap.size, 1, none⟩ (.int .i64 W.most)).setCell ⟨w.heap.size, 2, none⟩ (.int .i64 W.window)).setCell ⟨w.heap.size, 3, none⟩ (.slice (some ⟨g, 0, none⟩) W.n c1)).setCell ⟨w.heap.size, 4, none⟩ (.slice B1 W.m d1)).setCell ⟨g, i * 3 + 2, none⟩ (.bool false)))
  case first =>
    rcases hcase with e2 | ⟨e2, rfl⟩
    all_goals
      go_wp2_with fail
      go_meet
      exact ⟨rfl, rfl⟩
  case rest =>
  obtain ⟨hx, hx2⟩ := hcut
  subst hx hx2
  clear hcase e3
  go_wp2_with fail
  refine HD.out.mono ?_
  rintro e w7 ⟨v7, rfl, hown7, hg7, hb7⟩
  have hown7' : OwnI w7 w3.heap.size v7 (keptT W now) := hown7
  clear hown7
  obtain ⟨B7, d7, rfl, hnc7, hcm7, _⟩ := own_any hown7'
  have hgk : ∀ k, (Value.slice B1 W.m d1).ownBlock = some k → w.heap.size + 1 + 1 + 1 < k := fun k hk => by have := HG1.out k hk; omega
  have hF7 := HF6.out.grow hg7 hgk
  have HF8 := Lib.hid (hF7.set4 (.slice B7 (keptT W now).length d7))
  have HO7 := Lib.hid (own_grown HO5.out.1 hg7 (fun k hk e => by have hk' : g = k := Option.some.inj hk; have := HG1.out k e; omega))
  have HO8 := Lib.hid (own_set (u := .slice B7 (keptT W now).length d7) (o := 4) HO7.out (show w.heap.size < w3.heap.size by omega))
  have HT8 := Lib.hid (own_set (u := .slice B7 (keptT W now).length d7) (o := 4) hown7' (show w.heap.size < w3.heap.size by omega))
  have HG8 := Lib.hid (fun k (hk : (Value.slice B7 (keptT W now).length d7).ownBlock = some k) => HG1.out k (hb7 ▸ hk))
  have HLEN := Lib.hid (keptT_len W now)
  have HS37 := Lib.hid (show w3.heap.size ≤ w7.heap.size from by have := hg7.size; have := (own_lt HO5.out.1).1; have := (own_lt HO5.out.1).2; omega)
  clear a0 a1 a2 a3 a4 b0 r0 r1 r2 r3 r4 s0 s1 s2 fa fb fr fs hz hB
  clear hown7' hg7 hb7 hgk k0 k1 k2 kf
  obtain ⟨q, hq⟩ : ∃ q, (keptT W now).length = q := ⟨_, rfl⟩
  have HQ := Lib.hid hq
  rw [hq] at HF8 HO8 HT8 HG8 hnc7 HLEN
  rw [hq]
  clear hq
  have hlen := HLEN.out
  obtain ⟨a0, a1, a2, a3, a4, b0, r0, r1, r2, r3, r4, s0, s1, s2, fa, fb, fr, fs, hz, hB⟩ := hF7
  have hm : (q : Int) < W.most := by have := HQ.out; omega
  have hm' : decide (W.most ≤ (q : Int)) = false := by simp; omega
  clear hmost
  have hh2 : (W.how == 2) = true := by rw [show W.how = 2 from hhow]; rfl
  have hh3 : (W.how == 3) = false := by rw [show W.how = 2 from hhow]; rfl
  have hT8 : OwnI (w7.setCell ⟨w.heap.size, 4, none⟩ (.slice B7 q d7)) w3.heap.size (.slice B7 q d7) (keptT W now) := by unfold OwnI; rw [HQ.out]; exact HT8.out
  have HT8' := Lib.hid hT8
  have hs37 : w3.heap.size ≤ w7.heap.size := HS37.out
  clear hT8
  go_wp2_with (at_builtin; refine wpList_append_int rfl _ _ rfl w3.heap.size (.slice B7 q d7) _ rfl HT8'.out w7.heap.size (by simp) now rfl (by have := HQ.out; omega) (by simp; omega) ?_; intro v9 w9 hown9 hg9 hor9; obtain ⟨B9, d9, rfl, hnc9, hcm9, _⟩ := own_any hown9; simp only [List.length_append, List.length_singleton] at hown9 hor9; clear a0 a1 a2 a3 a4 b0 r0 r1 r2 r3 r4 s0 s1 s2 fa fb fr fs hz hB; have hF9 := HF8.out.grow hg9 (fun k hk => by have := HG8.out k hk; omega); have HF9 := Lib.hid hF9; have HG9 := Lib.hid hg9; have HO9 := Lib.hid hown9; have HOR := Lib.hid hor9; clear hg9 hown9 hor9; obtain ⟨a0, a1, a2, a3, a4, b0, r0, r1, r2, r3, r4, s0, s1, s2, fa, fb, fr, fs, hz, hB⟩ := hF9)
  clear a0 a1 a2 a3 a4 b0 r0 r1 r2 r3 r4 s0 s1 s2 fa fb fr fs hz hB
  have hz9 : ∀ k, (Value.slice B9 ((keptT W now).length + 1) d9).ownBlock = some k → g < k := fun k hk => by
    rcases HOR.out with h | h
    · exact HG8.out k (h ▸ hk)
    · have h' : some k = some (w7.heap.size + 1) := hk.symm.trans h
      injection h' with h'
      have := (own_lt HO7.out).2
      omega
  have HF10 := Lib.hid (HF9.out.set4 (.slice B9 ((keptT W now).length + 1) d9))
  have HO10 := Lib.hid (own_set (u := (.slice B9 ((keptT W now).length + 1) d9)) (o := 4) (own_grown HO8.out HG9.out (fun k hk e => by have hk' : g = k := Option.some.inj hk; have := HG8.out k e; omega)) (show w.heap.size < w3.heap.size by omega))
  have HT10 := Lib.hid (show OwnI (w9.setCell ⟨w.heap.size, 4, none⟩ (.slice B9 ((keptT W now).length + 1) d9)) w3.heap.size (.slice B9 ((keptT W now).length + 1) d9) (keptT W now ++ [now]) from own_set (u := (.slice B9 ((keptT W now).length + 1) d9)) (o := 4) HO9.out (show w.heap.size < w3.heap.size by omega))
  have HZ9 := Lib.hid hz9
  clear hz9
  generalize w9.setCell ⟨w.heap.size, 4, none⟩ (.slice B9 ((keptT W now).length + 1) d9) = w10 at *
  have hF := HF10.out
  obtain ⟨a0, a1, a2, a3, a4, b0, r0, r1, r2, r3, r4, s0, s1, s2, fa, fb, fr, fs, hz, hB⟩ := hF
  go_quiet (fail)
  go_wp2_with fail
  clear a0 a1 a2 a3 a4 b0 r0 r1 r2 r3 r4 s0 s1 s2 fa fb fr fs hz hB
  have HF10' := Lib.hid (HF10.out.below (below_drewN (Below.refl _ _) nq))
  have HO10' := Lib.hid (own_keep HO10.out (below_drewN (Below.refl _ _) nq))
  have HT10' := Lib.hid (HT10.out.below (below_drewN (Below.refl _ _) nq))
  clear HF10 HO10 HT10
  have HF10 := HF10'
  have HO10 := HO10'
  have HT10 := HT10'
  clear HF10' HO10' HT10'
  generalize w10.drewN nq = w10' at *
  obtain ⟨w10, rfl⟩ : ∃ x : World, x = w10' := ⟨_, rfl⟩
  have hst := stop_any w.heap.size w3.heap.size g c1 W.n 0 W.n (offR W.R i (i + 1)) w10 (by omega) (by omega) (by omega) (by have := HF10.out.hz; omega) (by omega) HF10.out.a3 HO10.out
  refine hst.mono ?_
  clear hst
  rintro e w11 ⟨v11, rfl, hown11, hrow11, hg11⟩
  obtain ⟨A11, c11, rfl, hnc11, hcm11, _⟩ := own_any hown11
  have hb11 := hown11.blk
  have hF11 := HF10.out.grown hg11 (by omega)
  have hT11 := HT10.out.grown hg11 (fun k hk e => by have := HZ9.out k hk; injection e with e; omega)
  have hz11 := hg11.size
  have HAB := Lib.hid (show AgB w w3.heap.size g w11.heap.size w10.heap.size B9 ((keptT W now).length + 1) d9 A11 (stopIds (offR W.R i (i + 1)) 0 W.n).length c11 from
    ⟨by omega, hbase, (own_lt HO10.out).2, fun k hk => ⟨HZ9.out k hk, (HT10.out.blk k hk).2⟩, fun k hk => (hb11 k hk).2, hz11⟩)
  have hstart : AgI W now w (w11.alloc (.cells #[.slice A11 (stopIds (offR W.R i (i + 1)) 0 W.n).length c11, .slice none 0 0, .bool false] 69)) w3.heap.size g c1 w11.heap.size w10.heap.size B9 ((keptT W now).length + 1) d9 A11 (stopIds (offR W.R i (i + 1)) 0 W.n).length c11 (stopIds (offR W.R i (i + 1)) 0 W.n) (keptT W now ++ [now]) 0 W.n 0 (.slice none 0 0) := by
    have hal := (Below.refl w11.heap.size w11).alloc (Nat.le_refl _) (.cells #[.slice A11 (stopIds (offR W.R i (i + 1)) 0 W.n).length c11, .slice none 0 0, .bool false] 69)
    refine ⟨hF11.below hal, by simp [go_sem], by simp [go_sem], by simp [go_sem], fun o => by simp [go_sem], by simp, ?_, hT11.below hal, hown11.below hal, ?_⟩
    · have e : flatC (chC (offR (offR W.R i (i + 1)) 0 W.n)) W.n = flatC (chC (offR W.R 0 W.n)) W.n := flatC_congr fun k hk => by
        unfold chC
        rw [show offR (offR W.R i (i + 1)) 0 W.n k = offR W.R 0 W.n k from offR_in W.R (by omega) (by omega) k]
      rw [← e]
      exact own_keep hrow11 hal
    · unfold startIds idsOf; rw [ksUp_self]; exact OwnI.nil _ _
  have HST := Lib.hid hstart
  have HFC := Lib.hid HK.out.2.2.2.1
  have HLS := Lib.hid (stopIds_len (offR W.R i (i + 1)) 0 W.n)
  clear hstart hown11 hrow11 hg11 hb11 hF11 hT11
  go_wp2_with fail
  go_loopw [17, 18] (fun x _ wr => ∃ (k : Nat) (vt : Value), 0 ≤ k ∧ k ≤ W.n ∧ x = .int .i64 k ∧ AgI W now w wr w3.heap.size g c1 w11.heap.size w10.heap.size B9 ((keptT W now).length + 1) d9 A11 (stopIds (offR W.R i (i + 1)) 0 W.n).length c11 (stopIds (offR W.R i (i + 1)) 0 W.n) (keptT W now ++ [now]) 0 W.n k vt) (fun x _ _ => W.n - (intOf x).toNat)
  case atStart => exact ⟨0, _, Nat.le_refl _, by omega, rfl, HST.out⟩
  case round =>
    obtain ⟨k, vt, hk1, hk2, rfl, hA⟩ := hrel
    have HA := Lib.hid hA
    obtain ⟨At, ct, hvt, hnt, hcmt, _⟩ := own_any hA.str
    subst hvt
    by_cases hlt : k < W.n
    · have hkn : k < W.n := by omega
      have c0 : wr.cell? ⟨g, k * 3, none⟩ = some (.int .i64 (W.R k).id) := by have := own_cellC hA.row (chC_len _) hkn (j := 0) (by omega); rw [Nat.add_zero] at this; rw [this]; simp [chC, offR]; split <;> rfl
      obtain ⟨hF, p0, p1, p2, pf, pz, hrow, htm, hsp, hstr⟩ := hA
      have i1 : (0 : Int) ≤ (k : Int) := by omega
      have i2 : (k : Int) < (W.n : Int) := by omega
      obtain ⟨a0, a1, a2, a3, a4, b0, r0, r1, r2, r3, r4, s0, s1, s2, fa, fb, fr, fs, hz, hB⟩ := hF
      clear hrow htm hstr
      have hsz : (stopIds (offR W.R i (i + 1)) 0 W.n).length ≤ 20 := by have := HLS.out; omega
      obtain ⟨idk, hid⟩ : ∃ x, (W.R k).id = x := ⟨_, rfl⟩
      have HID := Lib.hid hid
      rw [hid] at c0
      clear hid
      by_cases e : k = i
      · have e1 : ((k : Int) == (i : Int)) = true := by simp [e]
        have HLV := Lib.hid (show (W.R k).lives = true by rw [e]; exact HL.out)
        clear hsp e
        go_wp2_with fail
        go_quiet (fail)
        clear c0 p0 p1 p2 pf pz e1
        clear a0 a1 a2 a3 a4 b0 r0 r1 r2 r3 r4 s0 s1 s2 fa fb fr fs hz hB
        have hA2 := HA.out.below (below_drewN (Below.refl _ _) nq)
        generalize wr.drewN nq = wy at *
        have HA2 := Lib.hid hA2
        have c0 : wy.cell? ⟨g, k * 3, none⟩ = some (.int .i64 idk) := by have := own_cellC hA2.row (chC_len _) hkn (j := 0) (by omega); rw [Nat.add_zero] at this; rw [this, ← HID.out]; simp [chC, offR]; split <;> rfl
        have c2 : wy.cell? ⟨g, k * 3 + 2, none⟩ = some (.bool false) := by rw [own_cellC hA2.row (chC_len _) hkn (j := 2) (by omega)]; simp [chC, offR, hlt]
        have cf : ∀ o, wy.frozen? ⟨g, o, none⟩ = false := fun o => hA2.row.frozenAt o
        obtain ⟨hF, p0, p1, p2, pf, pz, hrow, htm, hsp, hstr⟩ := hA2
        have l1 : ¬ (g = w11.heap.size) := by have := HAB.out.hS; have := HAB.out.hP; omega
        have l2 : ¬ (w11.heap.size = g) := by omega
        obtain ⟨a0, a1, a2, a3, a4, b0, r0, r1, r2, r3, r4, s0, s1, s2, fa, fb, fr, fs, hz, hB⟩ := hF
        clear hrow htm hsp hstr
        go_wp2_with fail
        have HSB := Lib.hid (fun q hq => (HA2.out.str.blk q hq).1)
        have hsl := startIds_len W.R 0 k
        have HO2 := Lib.hid (HA2.out.str.grown (row := some g) (grown_set (g := g) (a := k * 3 + 2) (grown_self wy _) (.bool true)) (fun q hq e => by have := (HA2.out.str.blk q hq).1; have := HAB.out.hS; have := HAB.out.hP; injection e with e; omega))
        go_region_law ((refine step_append_int (by rfl) _ _ (by rfl) (w11.heap.size + 1) (.slice At (startIds W.R 0 k).length ct) (startIds W.R 0 k) (by rfl) (by exact HO2.out.alloc _) (wy.heap.size + 1) (by simp) idk wy.heap.size (by rfl) (by simp [go_sem]) (by omega) (by simp; omega) ?_; intro g9 cap9 w12 hown12 hg12 hor12; have hg13 : (wy.setCell ⟨g, k * 3 + 2, none⟩ (.bool true)).grownBy w12 (Value.slice At (startIds W.R 0 k).length ct).ownBlock := grown_step (World.grownBy_alloc _ (.cells #[.int .i64 idk] 3) _) (show ((wy.setCell ⟨g, k * 3 + 2, none⟩ (.bool true)).alloc (.cells #[.int .i64 idk] 3)).grownBy w12 _ from ⟨hg12.os, hg12.tape, hg12.output, hg12.size, hg12.block⟩) (.inl rfl); have q1 : w12.cell? ⟨w11.heap.size, 1, none⟩ = some (.slice At (startIds W.R 0 k).length ct) := (grown_cell hg13 (by simp; omega) (fun e => by have := HSB.out _ e.symm; omega)).trans ((World.cell?_setCell_far _ _ _ _ l1).trans p1); have qf : ∀ o, w12.frozen? ⟨w11.heap.size, o, none⟩ = false := (fun o => (grown_frozen hg13 (by simp; omega) (fun e => by have := HSB.out _ e.symm; omega)).trans (by simpa using pf o)); have HO12 := Lib.hid hown12; have HG12 := Lib.hid hg13; clear hown12 hg12 hor12 hg13))
        all_goals go_wp2_with fail
        all_goals exact ⟨⟨k + 1, _, by omega, by omega, by go_num, HA2.out.set HAB.out hlt HLV.out (by rw [HID.out]; exact HO12.out) HG12.out hk1⟩, by simp [intOf]; omega⟩
      · have e1 : ((k : Int) == (i : Int)) = false := by simp; omega
        have hmem := mem_stopped (i := i) HFC.out (show W.n ≤ W.n by omega) hk1 hlt e
        rw [HID.out] at hmem
        clear e
        cases hlv : (W.R k).lives with
        | true =>
          have HLV := Lib.hid hlv
          have hany : anyOf (fun j => idk == lst (stopIds (offR W.R i (i + 1)) 0 W.n) j) (stopIds (offR W.R i (i + 1)) 0 W.n).length = true := by rw [any_lst, hmem, hlv]
          clear hmem hlv
          go_wp2_with fail
          go_quiet ((go_at_call 31; exact quiet_same (containsI_any A11 _ c11 (lst _) idk _ (by omega) (by exact hsp.rd))))
          clear hany hsp
          clear c0 p0 p1 p2 pf pz e1
          clear a0 a1 a2 a3 a4 b0 r0 r1 r2 r3 r4 s0 s1 s2 fa fb fr fs hz hB
          have hA2 := HA.out.below (below_drewN (Below.refl _ _) nq)
          generalize wr.drewN nq = wy at *
          have HA2 := Lib.hid hA2
          have c0 : wy.cell? ⟨g, k * 3, none⟩ = some (.int .i64 idk) := by have := own_cellC hA2.row (chC_len _) hkn (j := 0) (by omega); rw [Nat.add_zero] at this; rw [this, ← HID.out]; simp [chC, offR]; split <;> rfl
          have c2 : wy.cell? ⟨g, k * 3 + 2, none⟩ = some (.bool false) := by rw [own_cellC hA2.row (chC_len _) hkn (j := 2) (by omega)]; simp [chC, offR, hlt]
          have cf : ∀ o, wy.frozen? ⟨g, o, none⟩ = false := fun o => hA2.row.frozenAt o
          obtain ⟨hF, p0, p1, p2, pf, pz, hrow, htm, hsp, hstr⟩ := hA2
          have l1 : ¬ (g = w11.heap.size) := by have := HAB.out.hS; have := HAB.out.hP; omega
          have l2 : ¬ (w11.heap.size = g) := by omega
          obtain ⟨a0, a1, a2, a3, a4, b0, r0, r1, r2, r3, r4, s0, s1, s2, fa, fb, fr, fs, hz, hB⟩ := hF
          clear hrow htm hsp hstr
          go_wp2_with fail
          have HSB := Lib.hid (fun q hq => (HA2.out.str.blk q hq).1)
          have hsl := startIds_len W.R 0 k
          have HO2 := Lib.hid (HA2.out.str.grown (row := some g) (grown_set (g := g) (a := k * 3 + 2) (grown_self wy _) (.bool true)) (fun q hq e => by have := (HA2.out.str.blk q hq).1; have := HAB.out.hS; have := HAB.out.hP; injection e with e; omega))
          go_region_law ((refine step_append_int (by rfl) _ _ (by rfl) (w11.heap.size + 1) (.slice At (startIds W.R 0 k).length ct) (startIds W.R 0 k) (by rfl) (by exact HO2.out.alloc _) (wy.heap.size + 1) (by simp) idk wy.heap.size (by rfl) (by simp [go_sem]) (by omega) (by simp; omega) ?_; intro g9 cap9 w12 hown12 hg12 hor12; have hg13 : (wy.setCell ⟨g, k * 3 + 2, none⟩ (.bool true)).grownBy w12 (Value.slice At (startIds W.R 0 k).length ct).ownBlock := grown_step (World.grownBy_alloc _ (.cells #[.int .i64 idk] 3) _) (show ((wy.setCell ⟨g, k * 3 + 2, none⟩ (.bool true)).alloc (.cells #[.int .i64 idk] 3)).grownBy w12 _ from ⟨hg12.os, hg12.tape, hg12.output, hg12.size, hg12.block⟩) (.inl rfl); have q1 : w12.cell? ⟨w11.heap.size, 1, none⟩ = some (.slice At (startIds W.R 0 k).length ct) := (grown_cell hg13 (by simp; omega) (fun e => by have := HSB.out _ e.symm; omega)).trans ((World.cell?_setCell_far _ _ _ _ l1).trans p1); have qf : ∀ o, w12.frozen? ⟨w11.heap.size, o, none⟩ = false := (fun o => (grown_frozen hg13 (by simp; omega) (fun e => by have := HSB.out _ e.symm; omega)).trans (by simpa using pf o)); have HO12 := Lib.hid hown12; have HG12 := Lib.hid hg13; clear hown12 hg12 hor12 hg13))
          all_goals go_wp2_with fail
          all_goals exact ⟨⟨k + 1, _, by omega, by omega, by go_num, HA2.out.set HAB.out hlt HLV.out (by rw [HID.out]; exact HO12.out) HG12.out hk1⟩, by simp [intOf]; omega⟩
        | false =>
          have HLV := Lib.hid hlv
          have hany : anyOf (fun j => idk == lst (stopIds (offR W.R i (i + 1)) 0 W.n) j) (stopIds (offR W.R i (i + 1)) 0 W.n).length = false := by rw [any_lst, hmem, hlv]
          clear hmem hlv
          go_wp2_with fail
          go_quiet ((go_at_call 31; exact quiet_same (containsI_any A11 _ c11 (lst _) idk _ (by omega) (by exact hsp.rd))))
          go_wp2_with fail
          exact ⟨⟨k + 1, _, by omega, by omega, by go_num, (HA.out.below (below_drewN (Below.refl _ _) nq)).skip hk1 HLV.out⟩, by simp [intOf]; omega⟩
    · obtain rfl : k = W.n := by omega
      obtain ⟨hF, p0, p1, p2, pf, pz, hrow, htm, hsp, hstr⟩ := hA
      obtain ⟨a0, a1, a2, a3, a4, b0, r0, r1, r2, r3, r4, s0, s1, s2, fa, fb, fr, fs, hz, hB⟩ := hF
      clear hrow htm hstr hsp
      have y1 : ¬ (w.heap.size + 1 + 1 = w11.heap.size) := by have := HAB.out.hb; have := HAB.out.hg; have := HAB.out.hS; have := HAB.out.hP; omega
      have y2 : ¬ (w11.heap.size = w.heap.size + 1 + 1) := by omega
      have y3 : ¬ (w.heap.size + 1 + 1 + 1 = w11.heap.size) := by have := HAB.out.hb; have := HAB.out.hg; have := HAB.out.hS; have := HAB.out.hP; omega
      have y4 : ¬ (w11.heap.size = w.heap.size + 1 + 1 + 1) := by omega
      go_wp2_with fail
      go_region
      all_goals go_wp2_with fail
      all_goals
        refine bodyPost_ret (v := .tuple #[.agg #[.int .i64 W.how, .int .i64 W.most, .int .i64 W.window, .slice (some ⟨g, 0, none⟩) W.n c1, (.slice B9 ((keptT W now).length + 1) d9)], .agg #[.slice A11 (stopIds (offR W.R i (i + 1)) 0 W.n).length c11, .slice At (startIds W.R 0 W.n).length ct, .bool false], .int .i64 0]) (by simp [results, Try.results26, go_sem, r0, r1, r2, r3, r4, s0, s1, s2]) rfl ?_
        have hq' := HQ.out
        have bb := HAB.out
        obtain ⟨bb1, bb2, bb3, bb4, bb5, bb6⟩ := bb
        refine ⟨W.R, keptT W now ++ [now], startIds W.R 0 W.n, (stopIds (offR W.R i (i + 1)) 0 W.n), false, .inr (.inr ⟨HAG.out, by omega, fun _ _ => rfl, rfl, ?_, ?_, rfl⟩), some ⟨g, 0, none⟩, c1, B9, d9, _, _, by rw [List.length_append, List.length_singleton], ?_, ?_, ?_, ?_, ?_⟩
        · unfold frOf toOf; simp [show W.how = 2 from hhow]
        · unfold frOf toOf; simp [show W.how = 2 from hhow]
        · have hr := HA.out.row
          rw [offR_none] at hr
          exact own_mono (own_drew (own_set (own_set (own_set (own_set (own_set (own_set (own_set (own_set (hr) (by omega)) (by omega)) (by omega)) (by omega)) (by omega)) (by omega)) (by omega)) (by omega))) (by omega)
        · have hr := HA.out.times
          unfold OwnI
          rw [List.length_append, List.length_singleton]
          have hr' : wr.ownsRow w3.heap.size 3 1 (.slice B9 ((keptT W now).length + 1) d9) ((keptT W now).length + 1) (encI (keptT W now ++ [now])) := by unfold OwnI at hr; rw [List.length_append, List.length_singleton] at hr; exact hr
          exact own_mono (own_drew (own_set (own_set (own_set (own_set (own_set (own_set (own_set (own_set (hr') (by omega)) (by omega)) (by omega)) (by omega)) (by omega)) (by omega)) (by omega)) (by omega))) (by omega)
        · exact own_mono (own_drew (own_set (own_set (own_set (own_set (own_set (own_set (own_set (own_set (HA.out.stp) (by omega)) (by omega)) (by omega)) (by omega)) (by omega)) (by omega)) (by omega)) (by omega))) (by omega)
        · exact own_mono (own_drew (own_set (own_set (own_set (own_set (own_set (own_set (own_set (own_set (HA.out.str) (by omega)) (by omega)) (by omega)) (by omega)) (by omega)) (by omega)) (by omega)) (by omega))) (by omega)
        · exact Below.drew (below_set (below_set (below_set (below_set (below_set (below_set (below_set (below_set (HA.out.f.hB) (by omega)) (by omega)) (by omega)) (by omega)) (by omega)) (by omega)) (by omega)) (by omega))
set_option maxRecDepth 100000 in
set_option maxHeartbeats 4000000 in
theorem down_again3 (W : Wd) (A B : Option Addr) (c d : Nat) (id : Int) (failed : Bool) (now : Int) (w : World) (ha : ArgOk W A B c d w) (ok : OkW W) (i : Nat) (hi : ixOf (idB W.R id) W.n = i) (hin : i < W.n) (hl : (W.R i).lives = true) (h0 : 0 ≤ now) (h1 : now ≤ 1099511627776) (hlt : LastOk W now) (hag : againB W i failed = true) (hmost : ((keptT W now).length : Int) < W.most) (hhow : HowIs W 3) :
    Calls Try.prog 26 #[.agg #[.int .i64 W.how, .int .i64 W.most, .int .i64 W.window, .slice A W.n c, .slice B W.m d], .int .i64 id, .bool failed, .int .i64 now] w (DownPost W i failed now w) := by
  have HK := Lib.hid ok
  have HI := Lib.hid hi
  have HL := Lib.hid hl
  have HAG := Lib.hid hag
  have HLT := Lib.hid (show 0 < W.m → W.T (W.m - 1) ≤ now from hlt)
  have hw1 := ok.1.2.2.2.2.1
  have hw2 := ok.1.2.2.2.2.2
  clear ok hi hl hag hlt
  have HA := Lib.hid ha
  have HF0 := Lib.hid (Fr.start w (.int .i64 W.how) (.int .i64 W.most) (.int .i64 W.window) (.slice A W.n c) (.slice B W.m d) now)
  clear ha
  go_enter Try.func26, Try.ntmps26
  go_wp2_with fail
  have ha := HA.out.below ((((Below.refl w.heap.size w).alloc (Nat.le_refl _) (.cells #[.int .i64 W.how, .int .i64 W.most, .int .i64 W.window, .slice A W.n c, .slice B W.m d] 32)).alloc (by simp) (.cells #[.int .i64 now] 3)).alloc (by simp; omega) (.cells #[.int .i64 0, .int .i64 0, .int .i64 0, .slice none 0 0, .slice none 0 0] 32) |>.alloc (by simp; omega) (.cells #[.slice none 0 0, .slice none 0 0, .bool false] 69))
  refine (check_ok W A B c d _ ha.hn ha.hc ha.hm ha.hd ha.hR ha.hT HK.out).mono ?_
  rintro e w1 ⟨rfl, hb⟩
  have hF := HF0.out.below hb
  have ha1 := HA.out.below hF.hB
  clear ha hb
  have HF1 := Lib.hid hF
  obtain ⟨a0, a1, a2, a3, a4, b0, r0, r1, r2, r3, r4, s0, s1, s2, fa, fb, fr, fs, hz, hB⟩ := hF
  go_wp2_with fail
  refine (find_any A W.n c W.R id _ (by have := ha1.hn; have := ha1.hc; omega) ha1.hR).mono ?_
  rintro e w2 ⟨rfl, hb⟩
  clear a0 a1 a2 a3 a4 b0 r0 r1 r2 r3 r4 s0 s1 s2 fa fb fr fs hz hB
  have hF := HF1.out.below hb
  have HF := Lib.hid hF
  rw [HI.out]
  clear hb ha1
  obtain ⟨b, off, hAA, hb0, hcell⟩ := HA.out.hR (by omega)
  have k0 : w2.cell? ⟨b, off + i * 3, none⟩ = some (.int .i64 (W.R i).id) := (hF.hB.cell (p := ⟨b, _, none⟩) hb0).trans (hcell i hin 0 _ rfl)
  have k1 : w2.cell? ⟨b, off + i * 3 + 1, none⟩ = some (.int .i64 (W.R i).when) := (hF.hB.cell (p := ⟨b, _, none⟩) hb0).trans (hcell i hin 1 _ rfl)
  have k2 : w2.cell? ⟨b, off + i * 3 + 2, none⟩ = some (.bool (W.R i).lives) := (hF.hB.cell (p := ⟨b, _, none⟩) hb0).trans (hcell i hin 2 _ rfl)
  have i1 : (0 : Int) ≤ (i : Int) := by omega
  have i2 : (i : Int) < (W.n : Int) := by omega
  clear hcell
  rw [HL.out] at k2
  obtain ⟨a0, a1, a2, a3, a4, b0, r0, r1, r2, r3, r4, s0, s1, s2, fa, fb, fr, fs, hz, hB⟩ := hF
  subst hAA
  go_upto_region 9 with (fail)
  go_cut [45] (fun x wx => x = .bool false ∧ Fr w wx (.int .i64 W.how) (.int .i64 W.most) (.int .i64 W.window) (.slice (some ⟨b, off, none⟩) W.n c) (.slice B W.m d) now)
  case first =>
    have hF := HF.out
    by_cases hm0 : 0 < W.m
    · have hlast := HLT.out hm0
      have d1 : decide (now < 0) = false := by simp; omega
      have d2 : decide (1099511627776 < now) = false := by simp; omega
      have d3 : decide ((0 : Int) < (W.m : Int)) = true := by simp; omega
      have d3n : decide (0 < W.m) = true := by simp; omega
      obtain ⟨b2, off2, hBB, hb2, htc⟩ := HA.out.hT (by omega)
      have t0 : w2.cell? ⟨b2, off2 + (W.m - 1), none⟩ = some (.int .i64 (W.T (W.m - 1))) := (hF.hB.cell (p := ⟨b2, _, none⟩) hb2).trans (by simpa using htc (W.m - 1) (by omega) 0 _ rfl)
      have m1 : (0 : Int) ≤ (W.m : Int) - 1 := by omega
      have m2 : (W.m : Int) - 1 < (W.m : Int) := by omega
      have m3 : ((W.m : Int) - 1).toNat = W.m - 1 := by omega
      have m4 : IntKind.i64.wrap ((W.m : Int) - 1) = (W.m : Int) - 1 := IntWalk.i64_in _ (by have := HA.out.hm; have := HA.out.hd; omega)
      clear htc
      have d4 : decide (now < W.T (W.m - 1)) = false := by simpa using hlast
      subst hBB
      clear hF hlast
      go_quiet (fail)
      go_wp2_with fail
      go_meet
      exact ⟨rfl, HF.out.below (below_drewN (Below.refl _ _) nq)⟩
    · have hm1 : W.m ≤ 0 := by omega
      have d1 : decide (now < 0) = false := by simp; omega
      have d2 : decide (1099511627776 < now) = false := by simp; omega
      have d3 : decide ((0 : Int) < (W.m : Int)) = false := by simp; omega
      have d3n : decide (0 < W.m) = false := by simp; omega
      clear hF hm0
      go_quiet (fail)
      go_wp2_with fail
      go_meet
      exact ⟨rfl, HF.out.below (below_drewN (Below.refl _ _) nq)⟩
  case rest =>
  obtain ⟨hx, hF3⟩ := hcut
  subst hx
  obtain ⟨w3, rfl⟩ : ∃ w3 : World, w3 = wc := ⟨_, rfl⟩
  clear i1 i2 k0 k1 k2
  clear a0 a1 a2 a3 a4 b0 r0 r1 r2 r3 r4 s0 s1 s2 fa fb fr fs hz hB
  have ha3 := HA.out.below hF3.hB
  have HF3 := Lib.hid hF3
  have ha1 := HK.out.2.1
  have ha2 := HK.out.2.2.1
  obtain ⟨a0, a1, a2, a3, a4, b0, r0, r1, r2, r3, r4, s0, s1, s2, fa, fb, fr, fs, hz, hB⟩ := hF3
  go_wp2_with fail
  refine (copyOf_any W _ _ c d _ (by omega) (by omega) ha3.hA ha3.hB ha3.hR ha3.hT).mono ?_
  rintro e w4 ⟨A1, c1, B1, d1, rfl, hown, htimes, hord, hb⟩
  clear a0 a1 a2 a3 a4 b0 r0 r1 r2 r3 r4 s0 s1 s2 fa fb fr fs hz hB
  obtain ⟨g, c1', hv, hbase, hlt, hnc, hcm⟩ := own_form hown (by omega)
  injection hv with hv1 _ hv2
  subst hv1 hv2
  have hz3 := HF3.out.hz
  have hF4 := HF3.out.below hb
  have HF4 := Lib.hid hF4
  have k0 : w4.cell? ⟨g, i * 3, none⟩ = some (.int .i64 (W.R i).id) := by have := own_cellC hown (chC_len _) hin (j := 0) (by omega); rw [Nat.add_zero] at this; rw [this]; rfl
  have k1 : w4.cell? ⟨g, i * 3 + 1, none⟩ = some (.int .i64 (W.R i).when) := by rw [own_cellC hown (chC_len _) hin (j := 1) (by omega)]; rfl
  have k2 : w4.cell? ⟨g, i * 3 + 2, none⟩ = some (.bool (W.R i).lives) := by rw [own_cellC hown (chC_len _) hin (j := 2) (by omega)]; rfl
  have kf : ∀ o, w4.frozen? ⟨g, o, none⟩ = false := fun o => hown.frozenAt o
  have n1 : ¬ (w.heap.size = g) := by omega
  have n2 : ¬ (g = w.heap.size) := by omega
  have n3 : ¬ (w.heap.size + 1 = g) := by omega
  have n4 : ¬ (g = w.heap.size + 1) := by omega
  have n5 : ¬ (w.heap.size + 1 + 1 = g) := by omega
  have n6 : ¬ (g = w.heap.size + 1 + 1) := by omega
  have n7 : ¬ (w.heap.size + 1 + 1 + 1 = g) := by omega
  have n8 : ¬ (g = w.heap.size + 1 + 1 + 1) := by omega
  have i1 : (0 : Int) ≤ (i : Int) := by omega
  have i2 : (i : Int) < (W.n : Int) := by omega
  have HF5 := Lib.hid (((((HF4.out.set0 (.int .i64 W.how)).set1 (.int .i64 W.most)).set2 (.int .i64 W.window)).set3 (.slice (some ⟨g, 0, none⟩) W.n c1)).set4 (.slice B1 W.m d1))
  have HG5 := Lib.hid (show w4.grownBy (((((w4.setCell ⟨w.heap.size, 0, none⟩ (.int .i64 W.how)).setCell ⟨w.heap.size, 1, none⟩ (.int .i64 W.most)).setCell ⟨w.heap.size, 2, none⟩ (.int .i64 W.window)).setCell ⟨w.heap.size, 3, none⟩ (.slice (some ⟨g, 0, none⟩) W.n c1)).setCell ⟨w.heap.size, 4, none⟩ (.slice B1 W.m d1)) (some w.heap.size) from grown_set (grown_set (grown_set (grown_set (grown_set (grown_self _ _) _) _) _) _) _)
  have hg1 : ∀ k, (Value.slice B1 W.m d1).ownBlock = some k → g < k := fun k hk => by
    cases B1 with
    | none => cases hk
    | some bb => have hk' : bb.block = k := Option.some.inj hk; have := hord _ bb rfl rfl; simp at this; omega
  have HO5 := Lib.hid (own_setC (own_grown hown HG5.out (fun k hk e => by have hk' : g = k := Option.some.inj hk; injection e with e; omega)) (chC_len _) (j := 2) (by omega) (.bool false) (offR_one W.R i))
  have HT5 := Lib.hid (own_grown (own_grown htimes HG5.out (fun k hk e => by have := hg1 k hk; injection e with e; omega)) HO5.out.2 (fun k hk e => by have := hg1 k hk; injection e with e; omega))
  have HG1 := Lib.hid hg1
  have HF6 := Lib.hid (HF5.out.grown HO5.out.2 (by omega))
  clear hown htimes hord hb hg1
  have hcase : ((W.R i).when == 3) = false ∧ (((W.R i).when == 2) = false ∨ (((W.R i).when == 2) = true ∧ failed = true)) := by
    have := HAG.out
    unfold againB at this
    revert this
    cases h3 : ((W.R i).when == 3) <;> cases h2 : ((W.R i).when == 2) <;> cases failed <;> simp
  obtain ⟨e3, hcase⟩ := hcase
  have hF := HF4.out
  obtain ⟨a0, a1, a2, a3, a4, b0, r0, r1, r2, r3, r4, s0, s1, s2, fa, fb, fr, fs, hz, hB⟩ := hF
  have hdel := delF_own w3.heap.size 49 #[.pointer (some ⟨w.heap.size + 1, 0, none⟩), .pointer (some ⟨w.heap.size, 0, none⟩)] (.slice B1 W.m d1) W.T W.m (fun x => decide (x ≤ now - W.window)) ((((((w4.setCell ⟨w.heap.size, 0, none⟩ (.int .i64 W.how)).setCell ⟨w.heap.size, 1, none⟩ (.int .i64 W.most)).setCell ⟨w.heap.size, 2, none⟩ (.int .i64 W.window)).setCell ⟨w.heap.size, 3, none⟩ (.slice (some ⟨g, 0, none⟩) W.n c1)).setCell ⟨w.heap.size, 4, none⟩ (.slice B1 W.m d1)).setCell ⟨g, i * 3 + 2, none⟩ (.bool false)) (by omega) down1_enters HT5.out
    (fun gt hgt Wx x hg => by
      have hq := HG1.out gt hgt
      have hFx := HF6.out.grown hg (by omega)
      refine (down1_any x now W.window _ _ Wx h0 h1 hw1 hw2 hFx.b0 hFx.a2).mono ?_
      rintro e W' ⟨rfl, rfl⟩
      exact ⟨rfl, grown_self _ _⟩)
  have HD := Lib.hid hdel
  clear hdel
  go_upto_region 14 with (fail)
  go_cut [94] (fun x wx => x = .bool false ∧ wx = ((((((w4.setCell ⟨w.heap.size, 0, none⟩ (.int .i64 W.how)).setCell ⟨w.heap.size, 1, none⟩ (.int .i64 W.most)).setCell ⟨w.heap.size, 2, none⟩ (.int .i64 W.window)).setCell ⟨w.heap.size, 3, none⟩ (.slice (some ⟨g, 0, none⟩) W.n c1)).setCell ⟨w.heap.size, 4, none⟩ (.slice B1 W.m d1)).setCell ⟨g, i * 3 + 2, none⟩ (.bool false)))
  case first =>
    rcases hcase with e2 | ⟨e2, rfl⟩
    all_goals
      go_wp2_with fail
      go_meet
      exact ⟨rfl, rfl⟩
  case rest =>
  obtain ⟨hx, hx2⟩ := hcut
  subst hx hx2
  clear hcase e3
  go_wp2_with fail
  refine HD.out.mono ?_
  rintro e w7 ⟨v7, rfl, hown7, hg7, hb7⟩
  have hown7' : OwnI w7 w3.heap.size v7 (keptT W now) := hown7
  clear hown7
  obtain ⟨B7, d7, rfl, hnc7, hcm7, _⟩ := own_any hown7'
  have hgk : ∀ k, (Value.slice B1 W.m d1).ownBlock = some k → w.heap.size + 1 + 1 + 1 < k := fun k hk => by have := HG1.out k hk; omega
  have hF7 := HF6.out.grow hg7 hgk
  have HF8 := Lib.hid (hF7.set4 (.slice B7 (keptT W now).length d7))
  have HO7 := Lib.hid (own_grown HO5.out.1 hg7 (fun k hk e => by have hk' : g = k := Option.some.inj hk; have := HG1.out k e; omega))
  have HO8 := Lib.hid (own_set (u := .slice B7 (keptT W now).length d7) (o := 4) HO7.out (show w.heap.size < w3.heap.size by omega))
  have HT8 := Lib.hid (own_set (u := .slice B7 (keptT W now).length d7) (o := 4) hown7' (show w.heap.size < w3.heap.size by omega))
  have HG8 := Lib.hid (fun k (hk : (Value.slice B7 (keptT W now).length d7).ownBlock = some k) => HG1.out k (hb7 ▸ hk))
  have HLEN := Lib.hid (keptT_len W now)
  have HS37 := Lib.hid (show w3.heap.size ≤ w7.heap.size from by have := hg7.size; have := (own_lt HO5.out.1).1; have := (own_lt HO5.out.1).2; omega)
  clear a0 a1 a2 a3 a4 b0 r0 r1 r2 r3 r4 s0 s1 s2 fa fb fr fs hz hB
  clear hown7' hg7 hb7 hgk k0 k1 k2 kf
  obtain ⟨q, hq⟩ : ∃ q, (keptT W now).length = q := ⟨_, rfl⟩
  have HQ := Lib.hid hq
  rw [hq] at HF8 HO8 HT8 HG8 hnc7 HLEN
  rw [hq]
  clear hq
  have hlen := HLEN.out
  obtain ⟨a0, a1, a2, a3, a4, b0, r0, r1, r2, r3, r4, s0, s1, s2, fa, fb, fr, fs, hz, hB⟩ := hF7
  have hm : (q : Int) < W.most := by have := HQ.out; omega
  have hm' : decide (W.most ≤ (q : Int)) = false := by simp; omega
  clear hmost
  have hh2 : (W.how == 2) = false := by rw [show W.how = 3 from hhow]; rfl
  have hh3 : (W.how == 3) = true := by rw [show W.how = 3 from hhow]; rfl
  have hT8 : OwnI (w7.setCell ⟨w.heap.size, 4, none⟩ (.slice B7 q d7)) w3.heap.size (.slice B7 q d7) (keptT W now) := by unfold OwnI; rw [HQ.out]; exact HT8.out
  have HT8' := Lib.hid hT8
  have hs37 : w3.heap.size ≤ w7.heap.size := HS37.out
  clear hT8
  go_wp2_with (at_builtin; refine wpList_append_int rfl _ _ rfl w3.heap.size (.slice B7 q d7) _ rfl HT8'.out w7.heap.size (by simp) now rfl (by have := HQ.out; omega) (by simp; omega) ?_; intro v9 w9 hown9 hg9 hor9; obtain ⟨B9, d9, rfl, hnc9, hcm9, _⟩ := own_any hown9; simp only [List.length_append, List.length_singleton] at hown9 hor9; clear a0 a1 a2 a3 a4 b0 r0 r1 r2 r3 r4 s0 s1 s2 fa fb fr fs hz hB; have hF9 := HF8.out.grow hg9 (fun k hk => by have := HG8.out k hk; omega); have HF9 := Lib.hid hF9; have HG9 := Lib.hid hg9; have HO9 := Lib.hid hown9; have HOR := Lib.hid hor9; clear hg9 hown9 hor9; obtain ⟨a0, a1, a2, a3, a4, b0, r0, r1, r2, r3, r4, s0, s1, s2, fa, fb, fr, fs, hz, hB⟩ := hF9)
  clear a0 a1 a2 a3 a4 b0 r0 r1 r2 r3 r4 s0 s1 s2 fa fb fr fs hz hB
  have hz9 : ∀ k, (Value.slice B9 ((keptT W now).length + 1) d9).ownBlock = some k → g < k := fun k hk => by
    rcases HOR.out with h | h
    · exact HG8.out k (h ▸ hk)
    · have h' : some k = some (w7.heap.size + 1) := hk.symm.trans h
      injection h' with h'
      have := (own_lt HO7.out).2
      omega
  have HF10 := Lib.hid (HF9.out.set4 (.slice B9 ((keptT W now).length + 1) d9))
  have HO10 := Lib.hid (own_set (u := (.slice B9 ((keptT W now).length + 1) d9)) (o := 4) (own_grown HO8.out HG9.out (fun k hk e => by have hk' : g = k := Option.some.inj hk; have := HG8.out k e; omega)) (show w.heap.size < w3.heap.size by omega))
  have HT10 := Lib.hid (show OwnI (w9.setCell ⟨w.heap.size, 4, none⟩ (.slice B9 ((keptT W now).length + 1) d9)) w3.heap.size (.slice B9 ((keptT W now).length + 1) d9) (keptT W now ++ [now]) from own_set (u := (.slice B9 ((keptT W now).length + 1) d9)) (o := 4) HO9.out (show w.heap.size < w3.heap.size by omega))
  have HZ9 := Lib.hid hz9
  clear hz9
  generalize w9.setCell ⟨w.heap.size, 4, none⟩ (.slice B9 ((keptT W now).length + 1) d9) = w10 at *
  have hst := stop_any w.heap.size w3.heap.size g c1 W.n i W.n (offR W.R i (i + 1)) w10 (by omega) (by omega) (by omega) (by have := HF10.out.hz; omega) (by omega) HF10.out.a3 HO10.out
  refine hst.mono ?_
  clear hst
  rintro e w11 ⟨v11, rfl, hown11, hrow11, hg11⟩
  obtain ⟨A11, c11, rfl, hnc11, hcm11, _⟩ := own_any hown11
  have hb11 := hown11.blk
  have hF11 := HF10.out.grown hg11 (by omega)
  have hT11 := HT10.out.grown hg11 (fun k hk e => by have := HZ9.out k hk; injection e with e; omega)
  have hz11 := hg11.size
  have HAB := Lib.hid (show AgB w w3.heap.size g w11.heap.size w10.heap.size B9 ((keptT W now).length + 1) d9 A11 (stopIds (offR W.R i (i + 1)) i W.n).length c11 from
    ⟨by omega, hbase, (own_lt HO10.out).2, fun k hk => ⟨HZ9.out k hk, (HT10.out.blk k hk).2⟩, fun k hk => (hb11 k hk).2, hz11⟩)
  have hstart : AgI W now w (w11.alloc (.cells #[.slice A11 (stopIds (offR W.R i (i + 1)) i W.n).length c11, .slice none 0 0, .bool false] 69)) w3.heap.size g c1 w11.heap.size w10.heap.size B9 ((keptT W now).length + 1) d9 A11 (stopIds (offR W.R i (i + 1)) i W.n).length c11 (stopIds (offR W.R i (i + 1)) i W.n) (keptT W now ++ [now]) i W.n i (.slice none 0 0) := by
    have hal := (Below.refl w11.heap.size w11).alloc (Nat.le_refl _) (.cells #[.slice A11 (stopIds (offR W.R i (i + 1)) i W.n).length c11, .slice none 0 0, .bool false] 69)
    refine ⟨hF11.below hal, by simp [go_sem], by simp [go_sem], by simp [go_sem], fun o => by simp [go_sem], by simp, ?_, hT11.below hal, hown11.below hal, ?_⟩
    · have e : flatC (chC (offR (offR W.R i (i + 1)) i W.n)) W.n = flatC (chC (offR W.R i W.n)) W.n := flatC_congr fun k hk => by
        unfold chC
        rw [show offR (offR W.R i (i + 1)) i W.n k = offR W.R i W.n k from offR_in W.R (by omega) (by omega) k]
      rw [← e]
      exact own_keep hrow11 hal
    · unfold startIds idsOf; rw [ksUp_self]; exact OwnI.nil _ _
  have HST := Lib.hid hstart
  have HFC := Lib.hid HK.out.2.2.2.1
  have HLS := Lib.hid (stopIds_len (offR W.R i (i + 1)) i W.n)
  clear hstart hown11 hrow11 hg11 hb11 hF11 hT11
  go_wp2_with fail
  go_loopw [17, 18] (fun x _ wr => ∃ (k : Nat) (vt : Value), i ≤ k ∧ k ≤ W.n ∧ x = .int .i64 k ∧ AgI W now w wr w3.heap.size g c1 w11.heap.size w10.heap.size B9 ((keptT W now).length + 1) d9 A11 (stopIds (offR W.R i (i + 1)) i W.n).length c11 (stopIds (offR W.R i (i + 1)) i W.n) (keptT W now ++ [now]) i W.n k vt) (fun x _ _ => W.n - (intOf x).toNat)
  case atStart => exact ⟨i, _, Nat.le_refl _, by omega, rfl, HST.out⟩
  case round =>
    obtain ⟨k, vt, hk1, hk2, rfl, hA⟩ := hrel
    have HA := Lib.hid hA
    obtain ⟨At, ct, hvt, hnt, hcmt, _⟩ := own_any hA.str
    subst hvt
    by_cases hlt : k < W.n
    · have hkn : k < W.n := by omega
      have c0 : wr.cell? ⟨g, k * 3, none⟩ = some (.int .i64 (W.R k).id) := by have := own_cellC hA.row (chC_len _) hkn (j := 0) (by omega); rw [Nat.add_zero] at this; rw [this]; simp [chC, offR]; split <;> rfl
      obtain ⟨hF, p0, p1, p2, pf, pz, hrow, htm, hsp, hstr⟩ := hA
      have i1 : (0 : Int) ≤ (k : Int) := by omega
      have i2 : (k : Int) < (W.n : Int) := by omega
      obtain ⟨a0, a1, a2, a3, a4, b0, r0, r1, r2, r3, r4, s0, s1, s2, fa, fb, fr, fs, hz, hB⟩ := hF
      clear hrow htm hstr
      have hsz : (stopIds (offR W.R i (i + 1)) i W.n).length ≤ 20 := by have := HLS.out; omega
      obtain ⟨idk, hid⟩ : ∃ x, (W.R k).id = x := ⟨_, rfl⟩
      have HID := Lib.hid hid
      rw [hid] at c0
      clear hid
      by_cases e : k = i
      · have e1 : ((k : Int) == (i : Int)) = true := by simp [e]
        have HLV := Lib.hid (show (W.R k).lives = true by rw [e]; exact HL.out)
        clear hsp e
        go_wp2_with fail
        go_quiet (fail)
        clear c0 p0 p1 p2 pf pz e1
        clear a0 a1 a2 a3 a4 b0 r0 r1 r2 r3 r4 s0 s1 s2 fa fb fr fs hz hB
        have hA2 := HA.out.below (below_drewN (Below.refl _ _) nq)
        generalize wr.drewN nq = wy at *
        have HA2 := Lib.hid hA2
        have c0 : wy.cell? ⟨g, k * 3, none⟩ = some (.int .i64 idk) := by have := own_cellC hA2.row (chC_len _) hkn (j := 0) (by omega); rw [Nat.add_zero] at this; rw [this, ← HID.out]; simp [chC, offR]; split <;> rfl
        have c2 : wy.cell? ⟨g, k * 3 + 2, none⟩ = some (.bool false) := by rw [own_cellC hA2.row (chC_len _) hkn (j := 2) (by omega)]; simp [chC, offR, hlt]
        have cf : ∀ o, wy.frozen? ⟨g, o, none⟩ = false := fun o => hA2.row.frozenAt o
        obtain ⟨hF, p0, p1, p2, pf, pz, hrow, htm, hsp, hstr⟩ := hA2
        have l1 : ¬ (g = w11.heap.size) := by have := HAB.out.hS; have := HAB.out.hP; omega
        have l2 : ¬ (w11.heap.size = g) := by omega
        obtain ⟨a0, a1, a2, a3, a4, b0, r0, r1, r2, r3, r4, s0, s1, s2, fa, fb, fr, fs, hz, hB⟩ := hF
        clear hrow htm hsp hstr
        go_wp2_with fail
        have HSB := Lib.hid (fun q hq => (HA2.out.str.blk q hq).1)
        have hsl := startIds_len W.R i k
        have HO2 := Lib.hid (HA2.out.str.grown (row := some g) (grown_set (g := g) (a := k * 3 + 2) (grown_self wy _) (.bool true)) (fun q hq e => by have := (HA2.out.str.blk q hq).1; have := HAB.out.hS; have := HAB.out.hP; injection e with e; omega))
        go_region_law ((refine step_append_int (by rfl) _ _ (by rfl) (w11.heap.size + 1) (.slice At (startIds W.R i k).length ct) (startIds W.R i k) (by rfl) (by exact HO2.out.alloc _) (wy.heap.size + 1) (by simp) idk wy.heap.size (by rfl) (by simp [go_sem]) (by omega) (by simp; omega) ?_; intro g9 cap9 w12 hown12 hg12 hor12; have hg13 : (wy.setCell ⟨g, k * 3 + 2, none⟩ (.bool true)).grownBy w12 (Value.slice At (startIds W.R i k).length ct).ownBlock := grown_step (World.grownBy_alloc _ (.cells #[.int .i64 idk] 3) _) (show ((wy.setCell ⟨g, k * 3 + 2, none⟩ (.bool true)).alloc (.cells #[.int .i64 idk] 3)).grownBy w12 _ from ⟨hg12.os, hg12.tape, hg12.output, hg12.size, hg12.block⟩) (.inl rfl); have q1 : w12.cell? ⟨w11.heap.size, 1, none⟩ = some (.slice At (startIds W.R i k).length ct) := (grown_cell hg13 (by simp; omega) (fun e => by have := HSB.out _ e.symm; omega)).trans ((World.cell?_setCell_far _ _ _ _ l1).trans p1); have qf : ∀ o, w12.frozen? ⟨w11.heap.size, o, none⟩ = false := (fun o => (grown_frozen hg13 (by simp; omega) (fun e => by have := HSB.out _ e.symm; omega)).trans (by simpa using pf o)); have HO12 := Lib.hid hown12; have HG12 := Lib.hid hg13; clear hown12 hg12 hor12 hg13))
        all_goals go_wp2_with fail
        all_goals exact ⟨⟨k + 1, _, by omega, by omega, by go_num, HA2.out.set HAB.out hlt HLV.out (by rw [HID.out]; exact HO12.out) HG12.out hk1⟩, by simp [intOf]; omega⟩
      · have e1 : ((k : Int) == (i : Int)) = false := by simp; omega
        have hmem := mem_stopped (i := i) HFC.out (show W.n ≤ W.n by omega) hk1 hlt e
        rw [HID.out] at hmem
        clear e
        cases hlv : (W.R k).lives with
        | true =>
          have HLV := Lib.hid hlv
          have hany : anyOf (fun j => idk == lst (stopIds (offR W.R i (i + 1)) i W.n) j) (stopIds (offR W.R i (i + 1)) i W.n).length = true := by rw [any_lst, hmem, hlv]
          clear hmem hlv
          go_wp2_with fail
          go_quiet ((go_at_call 31; exact quiet_same (containsI_any A11 _ c11 (lst _) idk _ (by omega) (by exact hsp.rd))))
          clear hany hsp
          clear c0 p0 p1 p2 pf pz e1
          clear a0 a1 a2 a3 a4 b0 r0 r1 r2 r3 r4 s0 s1 s2 fa fb fr fs hz hB
          have hA2 := HA.out.below (below_drewN (Below.refl _ _) nq)
          generalize wr.drewN nq = wy at *
          have HA2 := Lib.hid hA2
          have c0 : wy.cell? ⟨g, k * 3, none⟩ = some (.int .i64 idk) := by have := own_cellC hA2.row (chC_len _) hkn (j := 0) (by omega); rw [Nat.add_zero] at this; rw [this, ← HID.out]; simp [chC, offR]; split <;> rfl
          have c2 : wy.cell? ⟨g, k * 3 + 2, none⟩ = some (.bool false) := by rw [own_cellC hA2.row (chC_len _) hkn (j := 2) (by omega)]; simp [chC, offR, hlt]
          have cf : ∀ o, wy.frozen? ⟨g, o, none⟩ = false := fun o => hA2.row.frozenAt o
          obtain ⟨hF, p0, p1, p2, pf, pz, hrow, htm, hsp, hstr⟩ := hA2
          have l1 : ¬ (g = w11.heap.size) := by have := HAB.out.hS; have := HAB.out.hP; omega
          have l2 : ¬ (w11.heap.size = g) := by omega
          obtain ⟨a0, a1, a2, a3, a4, b0, r0, r1, r2, r3, r4, s0, s1, s2, fa, fb, fr, fs, hz, hB⟩ := hF
          clear hrow htm hsp hstr
          go_wp2_with fail
          have HSB := Lib.hid (fun q hq => (HA2.out.str.blk q hq).1)
          have hsl := startIds_len W.R i k
          have HO2 := Lib.hid (HA2.out.str.grown (row := some g) (grown_set (g := g) (a := k * 3 + 2) (grown_self wy _) (.bool true)) (fun q hq e => by have := (HA2.out.str.blk q hq).1; have := HAB.out.hS; have := HAB.out.hP; injection e with e; omega))
          go_region_law ((refine step_append_int (by rfl) _ _ (by rfl) (w11.heap.size + 1) (.slice At (startIds W.R i k).length ct) (startIds W.R i k) (by rfl) (by exact HO2.out.alloc _) (wy.heap.size + 1) (by simp) idk wy.heap.size (by rfl) (by simp [go_sem]) (by omega) (by simp; omega) ?_; intro g9 cap9 w12 hown12 hg12 hor12; have hg13 : (wy.setCell ⟨g, k * 3 + 2, none⟩ (.bool true)).grownBy w12 (Value.slice At (startIds W.R i k).length ct).ownBlock := grown_step (World.grownBy_alloc _ (.cells #[.int .i64 idk] 3) _) (show ((wy.setCell ⟨g, k * 3 + 2, none⟩ (.bool true)).alloc (.cells #[.int .i64 idk] 3)).grownBy w12 _ from ⟨hg12.os, hg12.tape, hg12.output, hg12.size, hg12.block⟩) (.inl rfl); have q1 : w12.cell? ⟨w11.heap.size, 1, none⟩ = some (.slice At (startIds W.R i k).length ct) := (grown_cell hg13 (by simp; omega) (fun e => by have := HSB.out _ e.symm; omega)).trans ((World.cell?_setCell_far _ _ _ _ l1).trans p1); have qf : ∀ o, w12.frozen? ⟨w11.heap.size, o, none⟩ = false := (fun o => (grown_frozen hg13 (by simp; omega) (fun e => by have := HSB.out _ e.symm; omega)).trans (by simpa using pf o)); have HO12 := Lib.hid hown12; have HG12 := Lib.hid hg13; clear hown12 hg12 hor12 hg13))
          all_goals go_wp2_with fail
          all_goals exact ⟨⟨k + 1, _, by omega, by omega, by go_num, HA2.out.set HAB.out hlt HLV.out (by rw [HID.out]; exact HO12.out) HG12.out hk1⟩, by simp [intOf]; omega⟩
        | false =>
          have HLV := Lib.hid hlv
          have hany : anyOf (fun j => idk == lst (stopIds (offR W.R i (i + 1)) i W.n) j) (stopIds (offR W.R i (i + 1)) i W.n).length = false := by rw [any_lst, hmem, hlv]
          clear hmem hlv
          go_wp2_with fail
          go_quiet ((go_at_call 31; exact quiet_same (containsI_any A11 _ c11 (lst _) idk _ (by omega) (by exact hsp.rd))))
          go_wp2_with fail
          exact ⟨⟨k + 1, _, by omega, by omega, by go_num, (HA.out.below (below_drewN (Below.refl _ _) nq)).skip hk1 HLV.out⟩, by simp [intOf]; omega⟩
    · obtain rfl : k = W.n := by omega
      obtain ⟨hF, p0, p1, p2, pf, pz, hrow, htm, hsp, hstr⟩ := hA
      obtain ⟨a0, a1, a2, a3, a4, b0, r0, r1, r2, r3, r4, s0, s1, s2, fa, fb, fr, fs, hz, hB⟩ := hF
      clear hrow htm hstr hsp
      have y1 : ¬ (w.heap.size + 1 + 1 = w11.heap.size) := by have := HAB.out.hb; have := HAB.out.hg; have := HAB.out.hS; have := HAB.out.hP; omega
      have y2 : ¬ (w11.heap.size = w.heap.size + 1 + 1) := by omega
      have y3 : ¬ (w.heap.size + 1 + 1 + 1 = w11.heap.size) := by have := HAB.out.hb; have := HAB.out.hg; have := HAB.out.hS; have := HAB.out.hP; omega
      have y4 : ¬ (w11.heap.size = w.heap.size + 1 + 1 + 1) := by omega
      go_wp2_with fail
      go_region
      all_goals go_wp2_with fail
      all_goals
        refine bodyPost_ret (v := .tuple #[.agg #[.int .i64 W.how, .int .i64 W.most, .int .i64 W.window, .slice (some ⟨g, 0, none⟩) W.n c1, (.slice B9 ((keptT W now).length + 1) d9)], .agg #[.slice A11 (stopIds (offR W.R i (i + 1)) i W.n).length c11, .slice At (startIds W.R i W.n).length ct, .bool false], .int .i64 0]) (by simp [results, Try.results26, go_sem, r0, r1, r2, r3, r4, s0, s1, s2]) rfl ?_
        have hq' := HQ.out
        have bb := HAB.out
        obtain ⟨bb1, bb2, bb3, bb4, bb5, bb6⟩ := bb
        refine ⟨W.R, keptT W now ++ [now], startIds W.R i W.n, (stopIds (offR W.R i (i + 1)) i W.n), false, .inr (.inr ⟨HAG.out, by omega, fun _ _ => rfl, rfl, ?_, ?_, rfl⟩), some ⟨g, 0, none⟩, c1, B9, d9, _, _, by rw [List.length_append, List.length_singleton], ?_, ?_, ?_, ?_, ?_⟩
        · unfold frOf toOf; simp [show W.how = 3 from hhow]
        · unfold frOf toOf; simp [show W.how = 3 from hhow]
        · have hr := HA.out.row
          rw [offR_none] at hr
          exact own_mono (own_drew (own_set (own_set (own_set (own_set (own_set (own_set (own_set (own_set (hr) (by omega)) (by omega)) (by omega)) (by omega)) (by omega)) (by omega)) (by omega)) (by omega))) (by omega)
        · have hr := HA.out.times
          unfold OwnI
          rw [List.length_append, List.length_singleton]
          have hr' : wr.ownsRow w3.heap.size 3 1 (.slice B9 ((keptT W now).length + 1) d9) ((keptT W now).length + 1) (encI (keptT W now ++ [now])) := by unfold OwnI at hr; rw [List.length_append, List.length_singleton] at hr; exact hr
          exact own_mono (own_drew (own_set (own_set (own_set (own_set (own_set (own_set (own_set (own_set (hr') (by omega)) (by omega)) (by omega)) (by omega)) (by omega)) (by omega)) (by omega)) (by omega))) (by omega)
        · exact own_mono (own_drew (own_set (own_set (own_set (own_set (own_set (own_set (own_set (own_set (HA.out.stp) (by omega)) (by omega)) (by omega)) (by omega)) (by omega)) (by omega)) (by omega)) (by omega))) (by omega)
        · exact own_mono (own_drew (own_set (own_set (own_set (own_set (own_set (own_set (own_set (own_set (HA.out.str) (by omega)) (by omega)) (by omega)) (by omega)) (by omega)) (by omega)) (by omega)) (by omega))) (by omega)
        · exact Below.drew (below_set (below_set (below_set (below_set (below_set (below_set (below_set (below_set (HA.out.f.hB) (by omega)) (by omega)) (by omega)) (by omega)) (by omega)) (by omega)) (by omega)) (by omega))
end Go.Proofs.Ytcedogmhmpcfmaa.Wa
