/- The walk of the law WardReach. -/
import Derived.Test.YtcjkibjaajbfmaaWardLaw
import Derived.IntWalk
namespace Go.Proofs.Ytcjkibjaajbfmaa
open Go.RowKit Go.ChangeShapes Go.WideShapes
set_option linter.unusedVariables false
theorem idsOf_len' (R : Nat → Ch) (l : List Nat) : (idsOf R l).length = l.length := by simp [idsOf]
theorem res_reach {W : Wd} {i : Nat} {failed : Bool} {now : Int} {R' : Nat → Ch} {T' st sp : List Int} (h : DownRes W i failed now R' T' sp st false) (hi : i < W.n) :
    ∃ ks : List Nat, sp = idsOf W.R ks ∧ (∀ k ∈ ks, k < W.n ∧ k ≠ i ∧ (W.how = 3 → i ≤ k)) ∧ (W.how = 1 → ks = []) := by
  have hoff : ∀ a b l, idsOf (offR W.R a b) l = idsOf W.R l := fun a b l => by
    unfold idsOf
    apply List.map_congr_left
    intro k _
    unfold offR
    split <;> rfl
  rcases h with ⟨_, _, _, h1, h2, _⟩ | ⟨_, _, _, _, h1, h2, h3⟩ | ⟨_, _, _, _, h1, h2, _⟩
  · exact ⟨[], h1, by simp, fun _ => rfl⟩
  · cases h3
  · have hm : ∀ k, k ∈ (ksUp (livesB (offR W.R i (i + 1))) (frOf W i) (toOf W i)).reverse → frOf W i ≤ k ∧ k < toOf W i ∧ k ≠ i := fun k hk => by
      rw [List.mem_reverse, mem_ksUp] at hk
      refine ⟨hk.1, hk.2.1, fun e => ?_⟩
      subst e
      have := hk.2.2
      simp [livesB, offR] at this
    refine ⟨_, h1.trans (hoff _ _ _), fun k hk => ?_, fun hh => ?_⟩
    · obtain ⟨a1, a2, a3⟩ := hm k hk
      have hto : toOf W i ≤ W.n := by unfold toOf; split <;> omega
      refine ⟨by omega, a3, fun h3 => ?_⟩
      unfold frOf at a1
      rw [if_neg (by omega)] at a1
      exact a1
    · apply List.eq_nil_iff_forall_not_mem.2
      intro k hk
      obtain ⟨a1, a2, a3⟩ := hm k hk
      unfold frOf at a1
      unfold toOf at a2
      rw [if_neg (by omega)] at a1 a2
      omega
set_option maxRecDepth 100000 in
set_option maxHeartbeats 2000000 in
theorem wardReach_go (X : Wd) (A B : Option Addr) (c d : Nat) (id : Int) (failed : Bool) (now : Int) (w : World) (ha : ArgOk X A B c d w) :
    Calls Try.prog 4 #[.agg #[.int .i64 X.how, .int .i64 X.most, .int .i64 X.window, .slice A X.n c, .slice B X.m d], .int .i64 id, .bool failed, .int .i64 now] w fun e w' => e = .returned (.bool true) ∧ Below w.heap.size w w' := by
  have HA := Lib.hid ha
  have hn1 := ha.hn
  have hn2 := ha.hc
  clear ha
  go_enter Try.func4, Try.ntmps4
  go_wp2_with fail
  refine (down_any X A B c d id failed now _ (HA.out.below (((Below.refl _ _).alloc (Nat.le_refl _) _).alloc (by simp) _))).mono ?_
  rintro e w1 (⟨⟨x, hx, rfl, hb⟩, hno⟩ | ⟨i, hok, R', T', st, sp, gv, hr, A', c', B', d', vs, vt, rfl, hrow, htim, hsp, hst, hb⟩)
  · have hx0 : (x != 0) = true := by simpa using hx
    have hb1 : Below w.heap.size w w1 := (((Below.refl _ _).alloc (Nat.le_refl _) _).alloc (by simp) _).trans (hb.mono (by simp; omega))
    have HB1 := Lib.hid hb1
    clear hno hb hb1
    go_wp2_with fail
    refine (wards_any _).mono ?_
    rintro e w2 ⟨rfl, hb2⟩
    have HB2 := Lib.hid (((HB1.out.alloc HB1.out.size _).alloc (by simp; have := HB1.out.size; omega) _).trans (hb2.mono (by simp; have := HB1.out.size; omega)))
    clear hb2
    go_wp2_with fail
    refine (wards_any _).mono ?_
    rintro e w3 ⟨rfl, hb3⟩
    have HB3 := Lib.hid (HB2.out.trans (hb3.mono HB2.out.size))
    clear hb3
    go_wp2_with fail
    go_ret
    exact ⟨rfl, HB3.out⟩
  · obtain ⟨S1, s1, rfl, hs1, hs2, _⟩ := own_any hsp
    obtain ⟨S2, s2, rfl, hs3, hs4, _⟩ := own_any hst
    have hb1 : Below w.heap.size w w1 := (((Below.refl _ _).alloc (Nat.le_refl _) _).alloc (by simp) _).trans (hb.mono (by simp; omega))
    have HB1 := Lib.hid hb1
    have HS := Lib.hid hsp.rd
    have a0 : w1.cell? ⟨w.heap.size, 0, none⟩ = some (.int .i64 X.how) := (hb.cell (p := ⟨_, _, none⟩) (by simp; omega)).trans (by simp [go_sem])
    have a3 : w1.cell? ⟨w.heap.size, 3, none⟩ = some (.slice A X.n c) := (hb.cell (p := ⟨_, _, none⟩) (by simp; omega)).trans (by simp [go_sem])
    have b0 : w1.cell? ⟨w.heap.size + 1, 0, none⟩ = some (.int .i64 id) := (hb.cell (p := ⟨_, _, none⟩) (by simp)).trans (by simp [go_sem])
    have hz1 : w.heap.size + 1 < w1.heap.size := by have := hb.size; simp at this; omega
    have HOK := Lib.hid hok
    have HR := Lib.hid hr
    clear hr hok hrow htim hsp hst hb hb1
    go_wp2_with fail
    refine (wards_any _).mono ?_
    rintro e w2 ⟨rfl, hb2⟩
    have HB2 := Lib.hid (((HB1.out.alloc HB1.out.size _).alloc (by simp; have := HB1.out.size; omega) _).trans (hb2.mono (by simp; have := HB1.out.size; omega)))
    have HS2 := Lib.hid (fun (g o : Nat) (hg : g < w1.heap.size) => ((hb2.cell (p := ⟨g, o, none⟩) (by simp; omega)).trans ((World.cell?_alloc_lt _ _ ⟨g, o, none⟩ (by simp; omega)).trans (World.cell?_alloc_lt _ _ ⟨g, o, none⟩ hg))))
    have HZ2 := Lib.hid (show w.heap.size + 1 < w1.heap.size ∧ w1.heap.size + 1 < w2.heap.size from ⟨hz1, by have := hb2.size; simp at this; omega⟩)
    have P0 := Lib.hid ((hb2.cell (p := ⟨w1.heap.size + 1, 0, none⟩) (by simp)).trans (show _ = some (.slice S1 sp.length s1) by simp [go_sem]))
    have P2 := Lib.hid ((hb2.cell (p := ⟨w1.heap.size + 1, 2, none⟩) (by simp)).trans (show _ = some (.bool gv) by simp [go_sem]))
    have A3 := Lib.hid ((HS2.out w.heap.size 3 (by omega)).trans a3)
    have A0 := Lib.hid ((HS2.out w.heap.size 0 (by omega)).trans a0)
    have BB0 := Lib.hid ((HS2.out (w.heap.size + 1) 0 (by omega)).trans b0)
    have p2 := P2.out
    clear hb2 a3 a0 b0
    cases gv with
    | true =>
      go_wp2_with fail
      refine (wards_any _).mono ?_
      rintro e w3 ⟨rfl, hb3⟩
      have HB3 := Lib.hid (HB2.out.trans (hb3.mono HB2.out.size))
      clear hb3
      go_wp2_with fail
      go_ret
      exact ⟨rfl, HB3.out⟩
    | false =>
      obtain ⟨ks, hks, hkk, hk1⟩ := res_reach HR.out HOK.out.2.1
      subst hks
      rw [idsOf_len'] at P0 hs1
      rw [idsOf_len']
      have hix := Lib.hid (ix_ok HOK.out.1 HOK.out.2.1 HOK.out.2.2.1)
      have HKK := Lib.hid hkk
      have HK1 := Lib.hid hk1
      clear hkk hk1 p2
      have p2 := P2.out
      have a3 := A3.out
      have b0 := BB0.out
      have hz2 := HZ2.out
      go_wp2_with fail
      refine (ix_eq 18 cl2_enters cl2 A X.n c X.R id (w.heap.size + 1) _ (by omega) (by exact HA.out.hR.below HB2.out) (by omega) (by exact b0)).mono ?_
      rintro e w3 ⟨rfl, hb3⟩
      rw [hix.out]
      have HB3 := Lib.hid (HB2.out.trans (hb3.mono HB2.out.size))
      have A03 := Lib.hid ((hb3.cell (p := ⟨w.heap.size, 0, none⟩) (show _ < _ by simp; omega)).trans A0.out)
      have A33 := Lib.hid ((hb3.cell (p := ⟨w.heap.size, 3, none⟩) (show _ < _ by simp; omega)).trans A3.out)
      have B03 := Lib.hid ((hb3.cell (p := ⟨w.heap.size + 1, 0, none⟩) (show _ < _ by simp; omega)).trans BB0.out)
      have P03 := Lib.hid ((hb3.cell (p := ⟨w1.heap.size + 1, 0, none⟩) (show _ < _ by simp; omega)).trans P0.out)
      have HS3 := Lib.hid (fun (g o : Nat) (hg : g < w1.heap.size) => (hb3.cell (p := ⟨g, o, none⟩) (show _ < _ by simp; omega)).trans (HS2.out g o hg))
      have hz3 : w1.heap.size + 1 < w3.heap.size := by have := hb3.size; omega
      clear hb3 p2 a3 b0
      have a0 := A03.out
      have p0 := P03.out
      by_cases hh : X.how = 1
      · have hh1 : (X.how == 1) = true := by simpa using hh
        have hkl : (ks.length : Int) ≤ 0 := by rw [HK1.out hh]; simp
        have hkl2 : ((ks.length : Int) == 0) = true := by simp; rw [HK1.out hh]
        clear hh
        go_wp2_with fail
        go_ret
        exact ⟨rfl, HB3.out⟩
      · have hh1 : (X.how == 1) = false := by simpa using hh
        clear hh
        go_wp2_with fail
        clear a0 p0
        go_loopw [14, 15, 50] (fun _ _ x wr => ∃ k : Nat, k ≤ ks.length ∧ x = .int .i64 k ∧ Below w3.heap.size w3 wr) (fun _ _ x _ => ks.length - (intOf x).toNat)
        case atStart => exact ⟨0, by omega, rfl, Below.refl _ _⟩
        case round =>
          obtain ⟨k, hk, rfl, hB⟩ := hrel
          have hBw : Below w.heap.size w wr := HB3.out.trans (hB.mono HB3.out.size)
          by_cases hlt : k < ks.length
          · obtain ⟨gs, off, rfl, hgb, hcell⟩ := HS.out (by rw [idsOf_len']; omega)
            rw [idsOf_len'] at hcell
            obtain ⟨hna, hne, hrest⟩ := HKK.out _ (List.getElem_mem hlt)
            have e1 : wr.cell? ⟨gs, off + k, none⟩ = some (.int .i64 (X.R (ks[k]'hlt)).id) := (hB.cell (p := ⟨_, _, none⟩) (show _ < _ by simp; omega)).trans ((HS3.out gs _ hgb).trans (by have := hcell k hlt 0 _ rfl; simpa [lst, idsOf, hlt] using this))
            have ia := ix_of HOK.out.1.2.2.2.1 hna
            have hid : (X.R (ks[k]'hlt)).id ≠ id := fun e => hne (id_inj HOK.out.1.2.2.2.1 hna HOK.out.2.1 (e.trans HOK.out.2.2.1.symm))
            generalize (ks[k]'hlt) = ka at *
            have IA := Lib.hid ia
            have HREST := Lib.hid hrest
            clear ia hcell hna hne hrest
            generalize (X.R ka).id = xa at *
            have hid1 : (xa == id) = false := by simpa using hid
            have a0 := (hB.cell (p := ⟨w.heap.size, 0, none⟩) (show _ < _ by simp; omega)).trans A03.out
            have a3 := (hB.cell (p := ⟨w.heap.size, 3, none⟩) (show _ < _ by simp; omega)).trans A33.out
            have b0 := (hB.cell (p := ⟨w.heap.size + 1, 0, none⟩) (show _ < _ by simp; omega)).trans B03.out
            have hsz := hB.size
            have HBr := Lib.hid hB
            have HBw := Lib.hid hBw
            have hq : w.heap.size < wr.heap.size := by omega
            have hq1 : w.heap.size + 1 < wr.heap.size := by omega
            clear hid hB hBw
            go_wp2_with fail
            refine (ix_eq 19 cl3_enters cl3 A X.n c X.R xa wr.heap.size _ (by omega) (by exact HA.out.hR.below (HBw.out.alloc HBw.out.size _)) (by simp) (by simp [go_sem])).mono ?_
            rintro e w4 ⟨rfl, hb4⟩
            rw [IA.out]
            have c0 := (hb4.cell (p := ⟨w.heap.size, 0, none⟩) (show _ < _ by simp; omega)).trans ((World.cell?_alloc_lt _ _ ⟨w.heap.size, 0, none⟩ hq).trans a0)
            have c1 := (hb4.cell (p := ⟨w.heap.size + 1, 0, none⟩) (show _ < _ by simp; omega)).trans ((World.cell?_alloc_lt _ _ ⟨w.heap.size + 1, 0, none⟩ hq1).trans b0)
            have c2 : w4.cell? ⟨wr.heap.size, 0, none⟩ = some (.int .i64 xa) := (hb4.cell (p := ⟨wr.heap.size, 0, none⟩) (show _ < _ by simp)).trans (by simp [go_sem])
            have HB4 := Lib.hid ((HBr.out.alloc HBr.out.size _).trans (hb4.mono (by simp; omega)))
            clear hb4 a0 a3 b0 e1
            have hka0 : ¬ ((ka : Int) < 0) := by omega
            by_cases h3 : X.how = 3
            · have h31 : (X.how == 3) = true := by simpa using h3
              have hki : ¬ (ka < i) := by have := HREST.out h3; omega
              have hki2 : decide ((ka : Int) < (i : Int)) = false := by simp; omega
              clear h3
              go_wp2_with fail
              go_roundw
              case rel => exact ⟨k + 1, by omega, by go_num, HB4.out⟩
              case measure => simp [intOf]; omega
            · have h31 : (X.how == 3) = false := by simpa using h3
              clear h3
              go_wp2_with fail
              go_roundw
              case rel => exact ⟨k + 1, by omega, by go_num, HB4.out⟩
              case measure => simp [intOf]; omega
          · go_wp2_with fail
            go_ret
            exact ⟨rfl, hBw⟩
set_option maxRecDepth 100000 in
theorem wardReach_walk {H : Type} {enc : TypeId × Value → H} (W : World) (base : Nat) (v0 v1 v2 v3 : Value) {d0 d1 d2 d3 : DataW H} {p0 p1 p2 p3 : List MemPlace}
    (k0 : Value.okWide Try.prog W .any base 25 v0) (k1 : Value.okWide Try.prog W .any base 3 v1) (k2 : Value.okWide Try.prog W .any base 4 v2) (k3 : Value.okWide Try.prog W .any base 3 v3)
    (h0 : DataW.Trod enc Try.prog W 0 (fun _ => true) true 25 v0 d0 p0) (h1 : DataW.Trod enc Try.prog W 0 (fun _ => true) true 3 v1 d1 p1)
    (h2 : DataW.Trod enc Try.prog W 0 (fun _ => true) true 4 v2 d2 p2) (h3 : DataW.Trod enc Try.prog W 0 (fun _ => true) true 3 v3 d3 p3) :
    Calls Try.prog 4 #[v0, v1, v2, v3] W fun e W' => e = .returned (.bool true) ∧ Below W.heap.size W W' := by
  obtain ⟨X, A, B, c, d, rfl, ha⟩ := open_ward k0 h0
  obtain ⟨a1, rfl, _, _, _⟩ := open_int Try.underlying3 k1 h1
  obtain ⟨a2, rfl, _, _⟩ := open_bool Try.underlying4 k2 h2
  obtain ⟨a3, rfl, _, _, _⟩ := open_int Try.underlying3 k3 h3
  exact wardReach_go X A B c d a1 a2 a3 W ha
end Go.Proofs.Ytcjkibjaajbfmaa
