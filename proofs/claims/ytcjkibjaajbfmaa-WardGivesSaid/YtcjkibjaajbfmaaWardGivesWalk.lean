/- The walk of the law WardGives. -/
import Derived.Test.YtcjkibjaajbfmaaWardLaw
import Derived.IntWalk
namespace Go.Proofs.Ytcjkibjaajbfmaa
open Go.RowKit Go.ChangeShapes Go.WideShapes
set_option linter.unusedVariables false
theorem fineT_pos {T : Nat → Int} {m : Nat} (h : ∀ k, k < m → FineT T k) : ∀ k, k < m → 0 ≤ T k ∧ T k ≤ 1099511627776 := by
  intro k
  induction k with
  | zero => intro hk; have := h 0 hk; unfold FineT lastT at this; rw [if_pos rfl] at this; omega
  | succ k ih => intro hk; have h1 := h (k + 1) hk; have h2 := ih (by omega); unfold FineT lastT at h1; rw [if_neg (by omega), Nat.add_sub_cancel] at h1; omega
def cntT (X : Wd) (now : Int) (k : Nat) : Nat := ((fl X.T k).filter (fun t => !(decide (t ≤ now - X.window)))).length
theorem cntT_succ (X : Wd) (now : Int) (k : Nat) : cntT X now (k + 1) = cntT X now k + (if now - X.T k < X.window then 1 else 0) := by
  unfold cntT
  rw [fl_succ, List.filter_append, List.length_append]
  congr 1
  by_cases h : now - X.T k < X.window
  · have h' : ¬ (X.T k ≤ now - X.window) := by omega
    simp [h, h']
  · have h' : X.T k ≤ now - X.window := by omega
    simp [h, h']
theorem cntT_le (X : Wd) (now : Int) (k : Nat) : cntT X now k ≤ k := by
  unfold cntT
  have := List.length_filter_le (fun t => !(decide (t ≤ now - X.window))) (fl X.T k)
  rw [fl_len] at this
  exact this
theorem gives_res {W : Wd} {i : Nat} {failed : Bool} {now : Int} {R' : Nat → Ch} {T' st sp : List Int} {g : Bool} (h : DownRes W i failed now R' T' sp st g) : g = (againB W i failed && decide (W.most ≤ (cntT W now W.m : Int))) := by
  rcases h with ⟨h0, _, _, h1, h2, rfl⟩ | ⟨h0, hm, _, _, h1, h2, rfl⟩ | ⟨h0, hm, _, _, h1, h2, rfl⟩
  · rw [h0]; rfl
  · rw [h0]; unfold keptT at hm; unfold cntT; simp; omega
  · rw [h0]; unfold keptT at hm; unfold cntT; simp; omega
set_option maxRecDepth 100000 in
set_option maxHeartbeats 2000000 in
theorem wardGives_go (X : Wd) (A B : Option Addr) (c d : Nat) (id : Int) (failed : Bool) (now : Int) (w : World) (ha : ArgOk X A B c d w) :
    Calls Try.prog 5 #[.agg #[.int .i64 X.how, .int .i64 X.most, .int .i64 X.window, .slice A X.n c, .slice B X.m d], .int .i64 id, .bool failed, .int .i64 now] w fun e w' => e = .returned (.bool true) ∧ Below w.heap.size w w' := by
  have HA := Lib.hid ha
  have hn1 := ha.hn
  have hn2 := ha.hc
  have hm1 := ha.hm
  have hm2 := ha.hd
  clear ha
  go_enter Try.func5, Try.ntmps5
  go_wp2_with fail
  refine (down_any X A B c d id failed now _ (HA.out.below (((Below.refl _ _).alloc (Nat.le_refl _) _).alloc (by simp) _))).mono ?_
  intro e w1 hall
  have hfacts : ∃ (D1 D2 D3 D4 : Option Addr) (n1 f1 n2 f2 n3 f3 n4 f4 : Nat) (g1 g2 g3 x : Int) (gv : Bool), e = .returned (.tuple #[.agg #[.int .i64 g1, .int .i64 g2, .int .i64 g3, .slice D1 n1 f1, .slice D2 n2 f2], .agg #[.slice D3 n3 f3, .slice D4 n4 f4, .bool gv], .int .i64 x]) ∧ Below ((w.alloc (.cells #[.int .i64 X.how, .int .i64 X.most, .int .i64 X.window, .slice A X.n c, .slice B X.m d] 25)).alloc (.cells #[.int .i64 id] 3)).heap.size ((w.alloc (.cells #[.int .i64 X.how, .int .i64 X.most, .int .i64 X.window, .slice A X.n c, .slice B X.m d] 25)).alloc (.cells #[.int .i64 id] 3)) w1 ∧
      (x ≠ 0 ∨ ∃ i, x = 0 ∧ DownOk X id now i ∧ gv = (againB X i failed && decide (X.most ≤ (cntT X now X.m : Int)))) := by
    rcases hall with ⟨⟨x, hx, rfl, hb⟩, hno⟩ | ⟨i, hok, R', T', st, sp, gv, hr, A', c', B', d', vs, vt, rfl, hrow, htim, hsp, hst, hb⟩
    · exact ⟨_, _, _, _, _, _, _, _, _, _, _, _, _, _, _, _, _, rfl, hb, .inl hx⟩
    · obtain ⟨S1, s1, rfl, _⟩ := own_any hsp
      obtain ⟨S2, s2, rfl, _⟩ := own_any hst
      exact ⟨_, _, _, _, _, _, _, _, _, _, _, _, _, _, _, _, _, rfl, hb, .inr ⟨i, rfl, hok, gives_res hr⟩⟩
  clear hall
  obtain ⟨D1, D2, D3, D4, n1, f1, n2, f2, n3, f3, n4, f4, g1, g2, g3, x, gv, rfl, hb, hcase⟩ := hfacts
  have hb1 : Below w.heap.size w w1 := (((Below.refl _ _).alloc (Nat.le_refl _) _).alloc (by simp) _).trans (hb.mono (by simp; omega))
  have HB1 := Lib.hid hb1
  have a1 : w1.cell? ⟨w.heap.size, 1, none⟩ = some (.int .i64 X.most) := (hb.cell (p := ⟨_, _, none⟩) (by simp; omega)).trans (by simp [go_sem])
  have a2 : w1.cell? ⟨w.heap.size, 2, none⟩ = some (.int .i64 X.window) := (hb.cell (p := ⟨_, _, none⟩) (by simp; omega)).trans (by simp [go_sem])
  have a3 : w1.cell? ⟨w.heap.size, 3, none⟩ = some (.slice A X.n c) := (hb.cell (p := ⟨_, _, none⟩) (by simp; omega)).trans (by simp [go_sem])
  have a4 : w1.cell? ⟨w.heap.size, 4, none⟩ = some (.slice B X.m d) := (hb.cell (p := ⟨_, _, none⟩) (by simp; omega)).trans (by simp [go_sem])
  have b0 : w1.cell? ⟨w.heap.size + 1, 0, none⟩ = some (.int .i64 id) := (hb.cell (p := ⟨_, _, none⟩) (by simp)).trans (by simp [go_sem])
  have hz1 : w.heap.size + 1 < w1.heap.size := by have := hb.size; simp at this; omega
  have hz0 : w.heap.size < w1.heap.size := by omega
  clear hb hb1
  have HC := Lib.hid hcase
  clear hcase
  go_wp2_with fail
  refine (ix_eq 20 cl4_enters cl4 A X.n c X.R id (w.heap.size + 1) _ (by omega) (by exact HA.out.hR.below ((HB1.out.alloc HB1.out.size _).alloc (by simp; omega) _)) (by simp; omega) ((World.cell?_alloc_lt _ _ ⟨w.heap.size + 1, 0, none⟩ (by simp; omega)).trans ((World.cell?_alloc_lt _ _ ⟨w.heap.size + 1, 0, none⟩ hz1).trans b0))).mono ?_
  rintro e w2 ⟨rfl, hb2⟩
  have far : ∀ g o, g < w1.heap.size → w2.cell? ⟨g, o, none⟩ = w1.cell? ⟨g, o, none⟩ := fun g o hg => (hb2.cell (p := ⟨g, o, none⟩) (by simp; omega)).trans ((World.cell?_alloc_lt _ _ ⟨g, o, none⟩ (by simp; omega)).trans (World.cell?_alloc_lt _ _ ⟨g, o, none⟩ hg))
  have A1 := Lib.hid ((far _ 1 hz0).trans a1)
  have A2 := Lib.hid ((far _ 2 hz0).trans a2)
  have A3 := Lib.hid ((far _ 3 hz0).trans a3)
  have A4 := Lib.hid ((far _ 4 hz0).trans a4)
  have P2 : Hid (w2.cell? ⟨w1.heap.size + 1, 2, none⟩ = some (.bool gv)) := Lib.hid ((hb2.cell (p := ⟨w1.heap.size + 1, 2, none⟩) (by simp)).trans (by simp [go_sem]))
  have HB2 := Lib.hid (((HB1.out.alloc HB1.out.size _).alloc (by simp; omega) _).trans (hb2.mono (by simp; omega)))
  have hz2 : w1.heap.size + 1 < w2.heap.size := by have := hb2.size; simp at this; omega
  clear far a1 a2 a3 a4 b0 hb2
  go_wp2_with fail
  refine (wards_any _).mono ?_
  rintro e w3 ⟨rfl, hb3⟩
  have HB3 := Lib.hid (HB2.out.trans (hb3.mono HB2.out.size))
  rcases HC.out with hx | ⟨i, hx, hok, hgv⟩
  · have hx0 : (x != 0) = true := by simpa using hx
    clear hb3 hx
    go_wp2_with fail
    refine (wards_any _).mono ?_
    rintro e w4 ⟨rfl, hb4⟩
    have HB4 := Lib.hid (HB3.out.trans (hb4.mono HB3.out.size))
    clear hb4
    go_wp2_with fail
    go_ret
    exact ⟨rfl, HB4.out⟩
  · subst hx
    rw [ix_ok hok.1 hok.2.1 hok.2.2.1]
    have hin := hok.2.1
    obtain ⟨b, off, hAA, hb0, hcell⟩ := HA.out.hR (by omega)
    have k1 : w3.cell? ⟨b, off + i * 3 + 1, none⟩ = some (.int .i64 (X.R i).when) := (HB3.out.cell (p := ⟨b, _, none⟩) hb0).trans (hcell i hin 1 _ rfl)
    have a1 := (hb3.cell (p := ⟨w.heap.size, 1, none⟩) (show _ < _ by simp; omega)).trans A1.out
    have a2 := (hb3.cell (p := ⟨w.heap.size, 2, none⟩) (show _ < _ by simp; omega)).trans A2.out
    have a3 := (hb3.cell (p := ⟨w.heap.size, 3, none⟩) (show _ < _ by simp; omega)).trans A3.out
    have a4 := (hb3.cell (p := ⟨w.heap.size, 4, none⟩) (show _ < _ by simp; omega)).trans A4.out
    have p2 := (hb3.cell (p := ⟨w1.heap.size + 1, 2, none⟩) (show _ < _ by simp; omega)).trans P2.out
    subst hAA
    have hpos := Lib.hid (fineT_pos hok.1.2.2.2.2)
    have hw := hok.1.2.2.1
    have hn0 := hok.2.2.2.2.1
    have hnow := hok.2.2.2.2.2.1
    have hwin := hok.1.1.2.2.2.2.1
    have hwin2 := hok.1.1.2.2.2.2.2
    have hmost := hok.1.1.2.2.1
    have hwh := (hok.1.2.2.2.1 i hin).1
    have hwh3 := (hok.1.2.2.2.1 i hin).2.1
    have GV := Lib.hid hgv
    have h50 := hok.1.2.2.1
    clear hok hcell hgv hb3
    have i1 : (0 : Int) ≤ (i : Int) := by omega
    have i2 : (i : Int) < (X.n : Int) := by omega
    go_wp2_with fail
    go_loop [13, 15, 44] (fun n _ x => ∃ k : Nat, k ≤ X.m ∧ x = .int .i64 k ∧ n = .int .i64 (cntT X now k)) (fun _ _ x => X.m - (intOf x).toNat)
    case atStart => exact ⟨0, by omega, rfl, rfl⟩
    case round =>
      obtain ⟨k, hk, rfl, rfl⟩ := hrel
      by_cases hlt : k < X.m
      · obtain ⟨b2, off2, rfl, hb2, hc2⟩ := HA.out.hT (by omega)
        have e1 : w3.cell? ⟨b2, off2 + k, none⟩ = some (.int .i64 (X.T k)) := (HB3.out.cell (p := ⟨b2, _, none⟩) hb2).trans (by simpa using hc2 k hlt 0 _ rfl)
        obtain ⟨t0, t1⟩ := hpos.out k hlt
        have HS := Lib.hid (cntT_succ X now k)
        have hle := cntT_le X now k
        clear hc2
        generalize X.T k = tk at *
        generalize cntT X now k = q at *
        by_cases hq : now - tk < X.window
        · go_wp2_with fail
          go_round
          case rel => exact ⟨k + 1, by omega, by go_num, by rw [HS.out, if_pos hq]; go_num⟩
          case measure => simp [intOf]; omega
        · go_wp2_with fail
          go_round
          case rel => exact ⟨k + 1, by omega, by go_num, by rw [HS.out, if_neg hq]; go_num⟩
          case measure => simp [intOf]; omega
      · obtain rfl : k = X.m := by omega
        have hcl := cntT_le X now X.m
        generalize cntT X now X.m = q at *
        have hwc : (X.R i).when = 1 ∨ (X.R i).when = 2 ∨ (X.R i).when = 3 := by omega
        have HWC := Lib.hid hwc
        clear hwc
        by_cases hqm : X.most ≤ (q : Int)
        · have d1 : decide (X.most ≤ (q : Int)) = true := by simpa using hqm
          rcases HWC.out with h | h | h
          · have e1 : ((X.R i).when == 1) = true := by simp [h]
            have hg : gv = true := by rw [GV.out]; unfold againB; rw [h, d1]; rfl
            subst hg
            clear h
            go_wp2_with fail
            go_ret
            exact ⟨rfl, HB3.out⟩
          · have e1 : ((X.R i).when == 1) = false := by simp [h]
            have e2 : ((X.R i).when == 2) = true := by simp [h]
            have hg : gv = failed := by rw [GV.out]; unfold againB; rw [h, d1]; cases failed <;> rfl
            subst hg
            clear h
            cases gv
            all_goals
              go_wp2_with fail
              go_ret
              exact ⟨rfl, HB3.out⟩
          · have e1 : ((X.R i).when == 1) = false := by simp [h]
            have e2 : ((X.R i).when == 2) = false := by simp [h]
            have hg : gv = false := by rw [GV.out]; unfold againB; rw [h, d1]; rfl
            subst hg
            clear h
            go_wp2_with fail
            go_ret
            exact ⟨rfl, HB3.out⟩
        · have d1 : decide (X.most ≤ (q : Int)) = false := by simpa using hqm
          have hg : gv = false := by rw [GV.out, d1]; simp
          subst hg
          rcases HWC.out with h | h | h
          · have e1 : ((X.R i).when == 1) = true := by simp [h]
            clear h
            go_wp2_with fail
            go_ret
            exact ⟨rfl, HB3.out⟩
          · have e1 : ((X.R i).when == 1) = false := by simp [h]
            have e2 : ((X.R i).when == 2) = true := by simp [h]
            clear h
            cases failed
            all_goals
              go_wp2_with fail
              go_ret
              exact ⟨rfl, HB3.out⟩
          · have e1 : ((X.R i).when == 1) = false := by simp [h]
            have e2 : ((X.R i).when == 2) = false := by simp [h]
            clear h
            go_wp2_with fail
            go_ret
            exact ⟨rfl, HB3.out⟩
set_option maxRecDepth 100000 in
theorem wardGives_walk {H : Type} {enc : TypeId × Value → H} (W : World) (base : Nat) (v0 v1 v2 v3 : Value) {d0 d1 d2 d3 : DataW H} {p0 p1 p2 p3 : List MemPlace}
    (k0 : Value.okWide Try.prog W .any base 25 v0) (k1 : Value.okWide Try.prog W .any base 3 v1) (k2 : Value.okWide Try.prog W .any base 4 v2) (k3 : Value.okWide Try.prog W .any base 3 v3)
    (h0 : DataW.Trod enc Try.prog W 0 (fun _ => true) true 25 v0 d0 p0) (h1 : DataW.Trod enc Try.prog W 0 (fun _ => true) true 3 v1 d1 p1)
    (h2 : DataW.Trod enc Try.prog W 0 (fun _ => true) true 4 v2 d2 p2) (h3 : DataW.Trod enc Try.prog W 0 (fun _ => true) true 3 v3 d3 p3) :
    Calls Try.prog 5 #[v0, v1, v2, v3] W fun e W' => e = .returned (.bool true) ∧ Below W.heap.size W W' := by
  obtain ⟨X, A, B, c, d, rfl, ha⟩ := open_ward k0 h0
  obtain ⟨a1, rfl, _, _, _⟩ := open_int Try.underlying3 k1 h1
  obtain ⟨a2, rfl, _, _⟩ := open_bool Try.underlying4 k2 h2
  obtain ⟨a3, rfl, _, _, _⟩ := open_int Try.underlying3 k3 h3
  exact wardGives_go X A B c d a1 a2 a3 W ha
end Go.Proofs.Ytcjkibjaajbfmaa
