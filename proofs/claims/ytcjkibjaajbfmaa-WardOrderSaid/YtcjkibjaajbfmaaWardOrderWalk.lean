/- The walk of the law WardOrder. -/
import Derived.Test.YtcjkibjaajbfmaaWardLaw
namespace Go.Proofs.Ytcjkibjaajbfmaa
open Go.RowKit Go.ChangeShapes Go.WideShapes
set_option linter.unusedVariables false
set_option maxHeartbeats 400000 in
theorem place_any (x : Int) (bw : Nat) (A : Option Addr) (n c : Nat) (R : Nat → Ch) (w : World) (hn : n ≤ 9223372036854775807) (hR : Rd w 3 (chC R) A n) (hb : bw < w.heap.size) (h3 : w.cell? ⟨bw, 3, none⟩ = some (.slice A n c)) :
    Calls Try.prog 15 #[.int .i64 x, .pointer (some ⟨bw, 0, none⟩)] w fun e w' => e = .returned (.int .i64 (ixOf (idB R x) n)) ∧ Below w.heap.size w w' := by
  have H : ∀ (o : Obj), (w.alloc o).cell? ⟨w.heap.size, 0, none⟩ = some (.int .i64 x) → Calls Try.prog 16 #[.slice A n c, .func (.func 17) #[] #[.pointer (some ⟨w.heap.size, 0, none⟩)]] (w.alloc o) fun e w' => e = .returned (.int .i64 (ixOf (idB R x) n)) ∧ Below (w.alloc o).heap.size (w.alloc o) w' :=
    fun o ho => ix_eq 17 cl1_enters cl1 A n c R x w.heap.size (w.alloc o) hn (hR.alloc o) (by simp) ho
  have H := Lib.hid H
  clear hR
  go_enter Try.func15, Try.ntmps15
  go_wp2_with fail
  refine (H.out _ (by simp)).mono ?_
  rintro e w1 ⟨rfl, hb1⟩
  go_wp2_with fail
  go_ret
  exact ⟨rfl, ((Below.refl _ _).alloc (Nat.le_refl _) _).trans (hb1.mono (by simp))⟩
theorem idsOf_len (R : Nat → Ch) (l : List Nat) : (idsOf R l).length = l.length := by simp [idsOf]
set_option maxRecDepth 100000 in
set_option maxHeartbeats 2000000 in
theorem wardOrder_go (X : Wd) (A B : Option Addr) (c d : Nat) (id : Int) (failed : Bool) (now : Int) (w : World) (ha : ArgOk X A B c d w) :
    Calls Try.prog 3 #[.agg #[.int .i64 X.how, .int .i64 X.most, .int .i64 X.window, .slice A X.n c, .slice B X.m d], .int .i64 id, .bool failed, .int .i64 now] w fun e w' => e = .returned (.bool true) ∧ Below w.heap.size w w' := by
  have HA := Lib.hid ha
  have hn1 := ha.hn
  have hn2 := ha.hc
  clear ha
  go_enter Try.func3, Try.ntmps3
  go_wp2_with fail
  refine (down_any X A B c d id failed now _ (HA.out.below ((Below.refl _ _).alloc (Nat.le_refl _) _))).mono ?_
  rintro e w1 (⟨⟨x, hx, rfl, hb⟩, hno⟩ | ⟨i, hok, R', T', st, sp, gv, hr, A', c', B', d', vs, vt, rfl, hrow, htim, hsp, hst, hb⟩)
  · have hx0 : (x != 0) = true := by simpa using hx
    have hb1 : Below w.heap.size w w1 := ((Below.refl _ _).alloc (Nat.le_refl _) _).trans (hb.mono (by simp))
    have HB1 := Lib.hid hb1
    clear hno hb hb1
    go_wp2_with fail
    refine (wards_any _).mono ?_
    rintro e w2 ⟨rfl, hb2⟩
    have HB2 := Lib.hid (((HB1.out.alloc HB1.out.size _).alloc (by simp; have := HB1.out.size; omega) _).trans (hb2.mono (by simp; have := HB1.out.size; omega)))
    clear hb2
    go_wp2_with fail
    refine (wards_any _).mono ?_
    rintro e w3 ⟨rfl, hb3⟩
    have HB3 := Lib.hid (HB2.out.trans (hb3.mono HB2.out.size))
    clear hb3
    go_wp2_with fail
    go_ret
    exact ⟨rfl, HB3.out⟩
  · obtain ⟨ks, us, hks, hus, hkp, hup, hkn, hun⟩ := res_lists hr hok.2.1
    have HFC := Lib.hid hok.1.2.2.2.1
    have h20 := hok.1.2.1
    subst hks hus
    obtain ⟨S1, s1, rfl, hs1, hs2, _⟩ := own_any hsp
    obtain ⟨S2, s2, rfl, hs3, hs4, _⟩ := own_any hst
    rw [idsOf_len] at hsp hst hs1 hs3 ⊢
    rw [idsOf_len]
    have hz := hb.size
    have hb1 : Below w.heap.size w w1 := ((Below.refl _ _).alloc (Nat.le_refl _) _).trans (hb.mono (by simp))
    have HB1 := Lib.hid hb1
    have HS := Lib.hid hsp.rd
    have HU := Lib.hid hst.rd
    have a3 : w1.cell? ⟨w.heap.size, 3, none⟩ = some (.slice A X.n c) := (hb.cell (p := ⟨_, _, none⟩) (by simp)).trans (by simp [go_sem])
    have hz1 : w.heap.size < w1.heap.size := by simp at hz; omega
    have HP := Lib.hid (show ks.Pairwise (· > ·) ∧ us.Pairwise (· < ·) from ⟨hkp, hup⟩)
    have HN := Lib.hid (show (∀ k ∈ ks, k < X.n) ∧ (∀ k ∈ us, k < X.n) from ⟨hkn, hun⟩)
    clear hr hok hrow htim hsp hst hb hb1 hz hkp hup hkn hun
    go_wp2_with fail
    refine (wards_any _).mono ?_
    rintro e w2 ⟨rfl, hb2⟩
    have HB2 := Lib.hid (((HB1.out.alloc HB1.out.size _).alloc (by simp; have := HB1.out.size; omega) _).trans (hb2.mono (by simp; have := HB1.out.size; omega)))
    have HS2 := Lib.hid (fun (g o : Nat) (hg : g < w1.heap.size) => ((hb2.cell (p := ⟨g, o, none⟩) (by simp; omega)).trans ((World.cell?_alloc_lt _ _ ⟨g, o, none⟩ (by simp; omega)).trans (World.cell?_alloc_lt _ _ ⟨g, o, none⟩ hg))))
    have HZ2 := Lib.hid (show w.heap.size < w1.heap.size ∧ w1.heap.size + 1 < w2.heap.size from ⟨hz1, by have := hb2.size; simp at this; omega⟩)
    have P0 := Lib.hid ((hb2.cell (p := ⟨w1.heap.size + 1, 0, none⟩) (by simp)).trans (show _ = some (.slice S1 ks.length s1) by simp [go_sem]))
    have P1 := Lib.hid ((hb2.cell (p := ⟨w1.heap.size + 1, 1, none⟩) (by simp)).trans (show _ = some (.slice S2 us.length s2) by simp [go_sem]))
    have A3 := Lib.hid ((HS2.out w.heap.size 3 hz1).trans a3)
    have hP0 := P0.out
    have hP1 := P1.out
    clear hb2 a3
    go_wp2_with fail
    clear hP0 hP1
    go_loopw [13] (fun x wr => ∃ k : Nat, 1 ≤ k ∧ x = .int .i64 k ∧ Below w2.heap.size w2 wr) (fun x _ => ks.length - (intOf x).toNat)
    case atStart => exact ⟨1, by omega, rfl, Below.refl _ _⟩
    case round =>
      obtain ⟨k, hk, rfl, hB⟩ := hrel
      have p0 : wr.cell? ⟨w1.heap.size + 1, 0, none⟩ = some (.slice S1 ks.length s1) := (hB.cell (p := ⟨_, _, none⟩) (show _ < _ by have := HZ2.out; simp; omega)).trans P0.out
      have a3 : wr.cell? ⟨w.heap.size, 3, none⟩ = some (.slice A X.n c) := (hB.cell (p := ⟨_, _, none⟩) (show _ < _ by have := HZ2.out; simp; omega)).trans A3.out
      have hBw : Below w.heap.size w wr := HB2.out.trans (hB.mono HB2.out.size)
      by_cases hlt : k < ks.length
      · obtain ⟨gs, off, rfl, hgb, hcell⟩ := HS.out (by rw [idsOf_len]; omega)
        rw [idsOf_len] at hcell
        have hka : (ks[k - 1]'(by omega)) > (ks[k]'hlt) := List.pairwise_iff_getElem.1 HP.out.1 (k - 1) k (by omega) hlt (by omega)
        have hna := HN.out.1 _ (List.getElem_mem (show k - 1 < ks.length by omega))
        have hnb := HN.out.1 _ (List.getElem_mem hlt)
        have e1 : wr.cell? ⟨gs, off + (k - 1), none⟩ = some (.int .i64 (X.R (ks[k - 1]'(by omega))).id) := (hB.cell (p := ⟨_, _, none⟩) (show _ < _ by have := HZ2.out; simp; omega)).trans ((HS2.out gs _ hgb).trans (by have := hcell (k - 1) (by omega) 0 _ rfl; simpa [lst, idsOf, show k - 1 < ks.length by omega] using this))
        have e2 : wr.cell? ⟨gs, off + k, none⟩ = some (.int .i64 (X.R (ks[k]'hlt)).id) := (hB.cell (p := ⟨_, _, none⟩) (show _ < _ by have := HZ2.out; simp; omega)).trans ((HS2.out gs _ hgb).trans (by have := hcell k hlt 0 _ rfl; simpa [lst, idsOf, hlt] using this))
        have ia := ix_of HFC.out hna
        have ib := ix_of HFC.out hnb
        generalize (ks[k - 1]'(by omega)) = ka at *
        generalize (ks[k]'hlt) = kb at *
        have IA := Lib.hid ia
        have IB := Lib.hid ib
        clear ia ib hcell hna hnb
        generalize (X.R ka).id = xa at *
        generalize (X.R kb).id = xb at *
        have j1 : (0 : Int) ≤ (k : Int) - 1 := by omega
        have j2 : (k : Int) - 1 < (ks.length : Int) := by omega
        have j3 : (k : Int) < (ks.length : Int) := by omega
        have j0 : (0 : Int) ≤ (k : Int) := by omega
        have j6 : (1 : Int) ≤ (k : Int) := by omega
        have j7 : (k : Int) < (ks.length : Int) + 1 := by omega
        have j8 : (k : Int) ≤ (ks.length : Int) := by omega
        have j4 : ((k : Int) - 1).toNat = k - 1 := by omega
        have j5 : IntKind.i64.wrap ((k : Int) - 1) = (k : Int) - 1 := IntWalk.i64_in _ (by omega)
        have hle : ¬ (ka ≤ kb) := by omega
        have HBr := Lib.hid hB
        have HBw := Lib.hid hBw
        have hzr : w.heap.size < wr.heap.size := by have := hB.size; have := HZ2.out; omega
        have hzp : w1.heap.size + 1 < wr.heap.size := by have := hB.size; have := HZ2.out; omega
        have hzg : gs < wr.heap.size := by omega
        clear hB hBw
        go_wp2_with fail
        go_region_held3 (fun w' => w'.cell? ⟨w1.heap.size + 1, 0, none⟩ = some (.slice (some ⟨gs, off, none⟩) ks.length s1) ∧ w'.cell? ⟨gs, off + (k - 1), none⟩ = some (.int .i64 xa) ∧ w'.cell? ⟨gs, off + k, none⟩ = some (.int .i64 xb)) (first | exact ⟨z0, z1, z2⟩ | exact ⟨y0, y1, y2⟩ | exact ⟨p0, e1, e2⟩ | go_keep)
          (first | (go_at_call 15; refine (place_any _ w.heap.size A X.n c X.R _ (by omega) (by exact HA.out.hR.below HBy.out) (by exact hzy) (by exact ya3)).mono ?_; rintro e wz ⟨rfl, hbz⟩; have z0 := (hbz.cell (p := ⟨w1.heap.size + 1, 0, none⟩) (by exact hzyp)).trans y0; have z1 := (hbz.cell (p := ⟨gs, off + (k - 1), none⟩) (by exact hzyg)).trans y1; have z2 := (hbz.cell (p := ⟨gs, off + k, none⟩) (by exact hzyg)).trans y2; have HBz := Lib.hid (HBy2.out.trans (hbz.mono HBy2.out.size)); clear hbz)
                 | (go_at_call 15; refine (place_any _ w.heap.size A X.n c X.R _ (by omega) (by exact HA.out.hR.below HBw.out.drew) (by exact hzr) (by exact a3)).mono ?_; rintro e wy ⟨rfl, hby0⟩; have hby := below_drew' hby0; clear hby0; have y0 := (hby.cell (p := ⟨w1.heap.size + 1, 0, none⟩) hzp).trans p0; have y1 := (hby.cell (p := ⟨gs, off + (k - 1), none⟩) hzg).trans e1; have y2 := (hby.cell (p := ⟨gs, off + k, none⟩) hzg).trans e2; have ya3 := (hby.cell (p := ⟨w.heap.size, 3, none⟩) hzr).trans a3; have hzy : w.heap.size < wy.heap.size := Nat.lt_of_lt_of_le hzr hby.size; have hzyp : w1.heap.size + 1 < wy.heap.size := Nat.lt_of_lt_of_le hzp hby.size; have hzyg : gs < wy.heap.size := Nat.lt_of_lt_of_le hzg hby.size; have HBy := Lib.hid (HBw.out.trans (hby.mono HBw.out.size)); have HBy2 := Lib.hid (HBr.out.trans (hby.mono HBr.out.size)); clear hby))
        rw [IA.out, IB.out]
        clear j0 j1 j2 j3 j4 j5 j6 j7 j8 p0 e1 e2 a3 y0 y1 y2 ya3 z0 z1 z2
        go_wp2_with fail
        go_roundw
        case rel => exact ⟨k + 1, by omega, by go_num, HBz.out⟩
        case measure => simp [intOf]; omega
      · have HBL := Lib.hid hB
        clear hB hBw a3
        go_wp2_with fail
        go_loopw [14] (fun x wr => ∃ k : Nat, 1 ≤ k ∧ x = .int .i64 k ∧ Below w2.heap.size w2 wr) (fun x _ => us.length - (intOf x).toNat)
        case atStart => exact ⟨1, by omega, rfl, HBL.out⟩
        case round =>
          obtain ⟨k, hk, rfl, hB⟩ := hrel
          have p0 : wr.cell? ⟨w1.heap.size + 1, 1, none⟩ = some (.slice S2 us.length s2) := (hB.cell (p := ⟨_, _, none⟩) (show _ < _ by have := HZ2.out; simp; omega)).trans P1.out
          have a3 : wr.cell? ⟨w.heap.size, 3, none⟩ = some (.slice A X.n c) := (hB.cell (p := ⟨_, _, none⟩) (show _ < _ by have := HZ2.out; simp; omega)).trans A3.out
          have hBw : Below w.heap.size w wr := HB2.out.trans (hB.mono HB2.out.size)
          by_cases hlt : k < us.length
          · obtain ⟨gs, off, rfl, hgb, hcell⟩ := HU.out (by rw [idsOf_len]; omega)
            rw [idsOf_len] at hcell
            have hka : (us[k - 1]'(by omega)) < (us[k]'hlt) := List.pairwise_iff_getElem.1 HP.out.2 (k - 1) k (by omega) hlt (by omega)
            have hna := HN.out.2 _ (List.getElem_mem (show k - 1 < us.length by omega))
            have hnb := HN.out.2 _ (List.getElem_mem hlt)
            have e1 : wr.cell? ⟨gs, off + (k - 1), none⟩ = some (.int .i64 (X.R (us[k - 1]'(by omega))).id) := (hB.cell (p := ⟨_, _, none⟩) (show _ < _ by have := HZ2.out; simp; omega)).trans ((HS2.out gs _ hgb).trans (by have := hcell (k - 1) (by omega) 0 _ rfl; simpa [lst, idsOf, show k - 1 < us.length by omega] using this))
            have e2 : wr.cell? ⟨gs, off + k, none⟩ = some (.int .i64 (X.R (us[k]'hlt)).id) := (hB.cell (p := ⟨_, _, none⟩) (show _ < _ by have := HZ2.out; simp; omega)).trans ((HS2.out gs _ hgb).trans (by have := hcell k hlt 0 _ rfl; simpa [lst, idsOf, hlt] using this))
            have ia := ix_of HFC.out hna
            have ib := ix_of HFC.out hnb
            generalize (us[k - 1]'(by omega)) = ka at *
            generalize (us[k]'hlt) = kb at *
            have IA := Lib.hid ia
            have IB := Lib.hid ib
            clear ia ib hcell hna hnb
            generalize (X.R ka).id = xa at *
            generalize (X.R kb).id = xb at *
            have j1 : (0 : Int) ≤ (k : Int) - 1 := by omega
            have j2 : (k : Int) - 1 < (us.length : Int) := by omega
            have j3 : (k : Int) < (us.length : Int) := by omega
            have j0 : (0 : Int) ≤ (k : Int) := by omega
            have j6 : (1 : Int) ≤ (k : Int) := by omega
            have j7 : (k : Int) < (us.length : Int) + 1 := by omega
            have j8 : (k : Int) ≤ (us.length : Int) := by omega
            have j4 : ((k : Int) - 1).toNat = k - 1 := by omega
            have j5 : IntKind.i64.wrap ((k : Int) - 1) = (k : Int) - 1 := IntWalk.i64_in _ (by omega)
            have hle : ¬ (kb ≤ ka) := by omega
            have HBr := Lib.hid hB
            have HBw := Lib.hid hBw
            have hzr : w.heap.size < wr.heap.size := by have := hB.size; have := HZ2.out; omega
            have hzp : w1.heap.size + 1 < wr.heap.size := by have := hB.size; have := HZ2.out; omega
            have hzg : gs < wr.heap.size := by omega
            clear hB hBw
            go_wp2_with fail
            go_region_held3 (fun w' => w'.cell? ⟨w1.heap.size + 1, 1, none⟩ = some (.slice (some ⟨gs, off, none⟩) us.length s2) ∧ w'.cell? ⟨gs, off + (k - 1), none⟩ = some (.int .i64 xa) ∧ w'.cell? ⟨gs, off + k, none⟩ = some (.int .i64 xb)) (first | exact ⟨z0, z1, z2⟩ | exact ⟨y0, y1, y2⟩ | exact ⟨p0, e1, e2⟩ | go_keep)
              (first | (go_at_call 15; refine (place_any _ w.heap.size A X.n c X.R _ (by omega) (by exact HA.out.hR.below HBy.out) (by exact hzy) (by exact ya3)).mono ?_; rintro e wz ⟨rfl, hbz⟩; have z0 := (hbz.cell (p := ⟨w1.heap.size + 1, 1, none⟩) (by exact hzyp)).trans y0; have z1 := (hbz.cell (p := ⟨gs, off + (k - 1), none⟩) (by exact hzyg)).trans y1; have z2 := (hbz.cell (p := ⟨gs, off + k, none⟩) (by exact hzyg)).trans y2; have HBz := Lib.hid (HBy2.out.trans (hbz.mono HBy2.out.size)); clear hbz)
                     | (go_at_call 15; refine (place_any _ w.heap.size A X.n c X.R _ (by omega) (by exact HA.out.hR.below HBw.out.drew) (by exact hzr) (by exact a3)).mono ?_; rintro e wy ⟨rfl, hby0⟩; have hby := below_drew' hby0; clear hby0; have y0 := (hby.cell (p := ⟨w1.heap.size + 1, 1, none⟩) hzp).trans p0; have y1 := (hby.cell (p := ⟨gs, off + (k - 1), none⟩) hzg).trans e1; have y2 := (hby.cell (p := ⟨gs, off + k, none⟩) hzg).trans e2; have ya3 := (hby.cell (p := ⟨w.heap.size, 3, none⟩) hzr).trans a3; have hzy : w.heap.size < wy.heap.size := Nat.lt_of_lt_of_le hzr hby.size; have hzyp : w1.heap.size + 1 < wy.heap.size := Nat.lt_of_lt_of_le hzp hby.size; have hzyg : gs < wy.heap.size := Nat.lt_of_lt_of_le hzg hby.size; have HBy := Lib.hid (HBw.out.trans (hby.mono HBw.out.size)); have HBy2 := Lib.hid (HBr.out.trans (hby.mono HBr.out.size)); clear hby))
            rw [IA.out, IB.out]
            clear j0 j1 j2 j3 j4 j5 j6 j7 j8 p0 e1 e2 a3 y0 y1 y2 ya3 z0 z1 z2
            go_wp2_with fail
            go_roundw
            case rel => exact ⟨k + 1, by omega, by go_num, HBz.out⟩
            case measure => simp [intOf]; omega
          · go_wp2_with fail
            go_ret
            exact ⟨rfl, hBw⟩
set_option maxRecDepth 100000 in
theorem wardOrder_walk {H : Type} {enc : TypeId × Value → H} (W : World) (base : Nat) (v0 v1 v2 v3 : Value) {d0 d1 d2 d3 : DataW H} {p0 p1 p2 p3 : List MemPlace}
    (k0 : Value.okWide Try.prog W .any base 25 v0) (k1 : Value.okWide Try.prog W .any base 3 v1) (k2 : Value.okWide Try.prog W .any base 4 v2) (k3 : Value.okWide Try.prog W .any base 3 v3)
    (h0 : DataW.Trod enc Try.prog W 0 (fun _ => true) true 25 v0 d0 p0) (h1 : DataW.Trod enc Try.prog W 0 (fun _ => true) true 3 v1 d1 p1)
    (h2 : DataW.Trod enc Try.prog W 0 (fun _ => true) true 4 v2 d2 p2) (h3 : DataW.Trod enc Try.prog W 0 (fun _ => true) true 3 v3 d3 p3) :
    Calls Try.prog 3 #[v0, v1, v2, v3] W fun e W' => e = .returned (.bool true) ∧ Below W.heap.size W W' := by
  obtain ⟨X, A, B, c, d, rfl, ha⟩ := open_ward k0 h0
  obtain ⟨a1, rfl, _, _, _⟩ := open_int Try.underlying3 k1 h1
  obtain ⟨a2, rfl, _, _⟩ := open_bool Try.underlying4 k2 h2
  obtain ⟨a3, rfl, _, _, _⟩ := open_int Try.underlying3 k3 h3
  exact wardOrder_go X A B c d a1 a2 a3 W ha
end Go.Proofs.Ytcjkibjaajbfmaa
