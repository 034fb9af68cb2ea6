/- The walk of the law WardSteady. -/
import Derived.Test.YtcjkibjaajbfmaaWardPlay
import Derived.IntWalk
namespace Go.Proofs.Ytcjkibjaajbfmaa
open Go.RowKit Go.ChangeShapes Go.WideShapes
set_option linter.unusedVariables false
set_option maxHeartbeats 400000 in
theorem cfC_any (I : World → Prop) (A : Option Addr) (b off n c f : Nat) (cp : Array Value) (g0 g1 g2 : Nat → Value) (p : Nat → Bool) (w : World) (hn : n ≤ 9223372036854775807)
    (hA : 0 < n → A = some ⟨b, off, none⟩) (he : Enters Try.prog f)
    (hc : ∀ W, I W → ∀ k, k < n → W.cell? ⟨b, off + k * 3, none⟩ = some (g0 k) ∧ W.cell? ⟨b, off + k * 3 + 1, none⟩ = some (g1 k) ∧ W.cell? ⟨b, off + k * 3 + 2, none⟩ = some (g2 k))
    (hf : ∀ W, I W → ∀ k, k < n → Calls Try.prog f (#[.agg #[g0 k, g1 k, g2 k]] ++ cp) W fun e W' => e = .returned (.bool (p k)) ∧ I W') (hw : I w) :
    Calls Try.prog 27 #[.slice A n c, .func (.func f) #[] cp] w fun e w' => e = .returned (.bool (anyOf p n)) ∧ I w' := by
  have H := Lib.hid (ixC_any I A b off n c f cp g0 g1 g2 p w hn hA he hc hf hw)
  clear hc hf hA he hw
  go_enter Try.func27, Try.ntmps27
  go_wp2_with fail
  refine H.out.mono ?_
  rintro e W' ⟨rfl, hI'⟩
  go_wp2_with fail
  go_ret
  exact ⟨rfl, hI'⟩

theorem cfC_rd (A : Option Addr) (n c f : Nat) (cp : Array Value) (g0 g1 g2 : Nat → Value) (p : Nat → Bool) (w : World) (hn : n ≤ 9223372036854775807)
    (hR : Rd w 3 (fun k => [g0 k, g1 k, g2 k]) A n) (he : Enters Try.prog f)
    (hf : ∀ W, Below w.heap.size w W → ∀ k, k < n → Calls Try.prog f (#[.agg #[g0 k, g1 k, g2 k]] ++ cp) W fun e W' => e = .returned (.bool (p k)) ∧ Below w.heap.size w W') :
    Calls Try.prog 27 #[.slice A n c, .func (.func f) #[] cp] w fun e w' => e = .returned (.bool (anyOf p n)) ∧ Below w.heap.size w w' := by
  by_cases h0 : 0 < n
  · obtain ⟨b, off, hA, hb, hc⟩ := hR h0
    refine cfC_any (fun W => Below w.heap.size w W) A b off n c f cp g0 g1 g2 p w hn (fun _ => hA) he (fun W hW k hk => ?_) hf (Below.refl _ _)
    have hcell : ∀ o, W.cell? ⟨b, o, none⟩ = w.cell? ⟨b, o, none⟩ := fun o => hW.cell (p := ⟨b, o, none⟩) hb
    simp only [hcell]
    exact ⟨by simpa using hc k hk 0 _ rfl, by simpa using hc k hk 1 _ rfl, by simpa using hc k hk 2 _ rfl⟩
  · exact cfC_any (fun W => Below w.heap.size w W) A 0 0 n c f cp g0 g1 g2 p w hn (fun h => absurd h h0) he (fun W hW k hk => by omega) hf (Below.refl _ _)

theorem s1_any (r : Ch) (w : World) : Calls Try.prog 28 #[.agg #[.int .i64 r.id, .int .i64 r.when, .bool r.lives]] w fun e w' => e = .returned (.bool r.lives) ∧ Below w.heap.size w w' := by
  go_enter Try.func28, Try.ntmps28
  go_wp2_with fail
  go_ret
  exact ⟨rfl, (Below.refl _ _).alloc (Nat.le_refl _) _⟩
theorem s1_enters : Enters Try.prog 28 := fun _ _ => by kernel_rfl
theorem any_lives (A : Option Addr) (n c : Nat) (R : Nat → Ch) (w : World) (hn : n ≤ 9223372036854775807) (hR : Rd w 3 (chC R) A n) :
    Calls Try.prog 27 #[.slice A n c, .func (.func 28) #[] #[]] w fun e w' => e = .returned (.bool (anyOf (fun k => (R k).lives) n)) ∧ Below w.heap.size w w' :=
  cfC_rd A n c 28 #[] (fun k => .int .i64 (R k).id) (fun k => .int .i64 (R k).when) (fun k => .bool (R k).lives) (fun k => (R k).lives) w hn hR s1_enters
    fun W hW k _ => (s1_any (R k) W).mono fun e W' ⟨he, hb'⟩ => ⟨he, hW.trans (hb'.mono hW.size)⟩
theorem inWin_snoc (win z : Int) (l : List Int) (t : Int) : inWin win z (l ++ [t]) = inWin win z l ++ if z - t < win then [t] else [] := by
  unfold inWin
  rw [List.filter_append]
  congr 1
  by_cases h : z - t < win <;> simp [h]
theorem take_snoc (l : List Int) {q : Nat} (h : q < l.length) : l.take (q + 1) = l.take q ++ [lst l q] := by
  rw [List.take_succ_eq_append_getElem h]
  simp [lst, h]
theorem inWin_le (win z : Int) (l : List Int) : (inWin win z l).length ≤ l.length := List.length_filter_le _ _
theorem lst_mem {l : List Int} {i : Nat} (h : i < l.length) : lst l i ∈ l := by
  have : lst l i = l[i] := by simp [lst, h]
  rw [this]
  exact List.getElem_mem h
set_option maxRecDepth 100000 in
set_option maxHeartbeats 8000000 in
theorem wardSteady_go (X : Wd) (A B : Option Addr) (c d : Nat) (L : Option Addr) (nl cl : Nat) (F : Nat → Fl) (w : World) (ha : ArgOk X A B c d w) (hl1 : nl ≤ cl) (hl2 : cl ≤ 9223372036854775807) (hL : Rd w 3 (flC F) L nl) :
    Calls Try.prog 7 #[.agg #[.int .i64 X.how, .int .i64 X.most, .int .i64 X.window, .slice A X.n c, .slice B X.m d], .slice L nl cl] w fun e w' => e = .returned (.bool true) ∧ Below w.heap.size w w' := by
  obtain ⟨how, most, window, R0, n, T0, m0⟩ := X
  have HA := Lib.hid (show ArgOk ⟨how, most, window, R0, n, T0, 0⟩ A none c 0 w from ⟨ha.hn, ha.hc, Nat.zero_le _, by omega, ha.hA, fun _ => rfl, ha.hR, fun h => by simp at h⟩)
  have hn1 := ha.hn
  have hn2 := ha.hc
  have HL := Lib.hid hL
  dsimp only at hn1 hn2 ⊢
  clear ha hL
  go_enter Try.func7, Try.ntmps7
  go_wp2_with fail
  refine (play_any ⟨how, most, window, R0, n, T0, 0⟩ A none c 0 L nl cl F _ rfl (HA.out.below ((Below.refl _ _).alloc (Nat.le_refl _) _)) hl1 hl2 (HL.out.alloc _)).mono ?_
  rintro e w1 (⟨x, hx, rfl, hb⟩ | ⟨N, P, R, A5, B5, c5, m5, d5, v, hN, hnl, hok, rfl, hb, hpl, hrd, hgood, hbd, hgv1, hgv2⟩)
  · have hx0 : (x != 0) = true := by simpa using hx
    have HB1 := Lib.hid (((Below.refl w.heap.size w).alloc (Nat.le_refl _) (.cells #[.int .i64 how, .int .i64 most, .int .i64 window, .slice A n c, .slice none 0 0] 25)).trans (hb.mono (by simp)))
    have hs1 := HB1.out.size
    clear hb hx
    go_wp2_with fail
    refine (wards_any _).mono ?_
    rintro e w2 ⟨rfl, hb2⟩
    have HB2 := Lib.hid ((HB1.out.alloc hs1 _).trans (hb2.mono (by simp; omega)))
    clear hb2
    go_wp2_with fail
    refine (wards_any _).mono ?_
    rintro e w3 ⟨rfl, hb3⟩
    have HB3 := Lib.hid (HB2.out.trans (hb3.mono HB2.out.size))
    clear hb3
    go_wp2_with fail
    go_ret
    exact ⟨rfl, HB3.out⟩
  · dsimp only at *
    obtain ⟨Av, cv, rfl, v1, v2, v3⟩ := own_any hpl
    have HB1 := Lib.hid (((Below.refl w.heap.size w).alloc (Nat.le_refl _) (.cells #[.int .i64 how, .int .i64 most, .int .i64 window, .slice A n c, .slice none 0 0] 25)).trans (hb.mono (by simp)))
    have M1 := Lib.hid ((hb.cell (p := ⟨w.heap.size, 1, none⟩) (show _ < _ by simp)).trans (show _ = some (.int .i64 most) by simp [go_sem]))
    have M2 := Lib.hid ((hb.cell (p := ⟨w.heap.size, 2, none⟩) (show _ < _ by simp)).trans (show _ = some (.int .i64 window) by simp [go_sem]))
    have hs1 := HB1.out.size
    have hz1 : w.heap.size < w1.heap.size := by have := hb.size; simp at this; omega
    have HPL := Lib.hid (show Rd w1 3 (plC P) Av N from Rd.of_own (plC_len _) hpl)
    have HRD := Lib.hid hrd
    have HGOOD := Lib.hid hgood
    have HBD := Lib.hid hbd
    have HG1 := Lib.hid hgv1
    have HG2 := Lib.hid hgv2
    have HOK := Lib.hid hok
    have hn20 := hok.2.1
    dsimp only at hn20
    clear hb hpl hrd hgood hbd hgv1 hgv2 hok v3
    go_wp2_with fail
    refine (wards_any _).mono ?_
    rintro e w2 ⟨rfl, hb2⟩
    have HB2 := Lib.hid ((HB1.out.alloc hs1 _).trans (hb2.mono (by simp; omega)))
    have P3 := Lib.hid ((hb2.cell (p := ⟨w1.heap.size, 3, none⟩) (by simp)).trans (show _ = some (.slice A5 n c5) by simp [go_sem]))
    have M1 := Lib.hid ((hb2.cell (p := ⟨w.heap.size, 1, none⟩) (by simp; omega)).trans ((World.cell?_alloc_lt _ _ ⟨w.heap.size, 1, none⟩ hz1).trans M1.out))
    have M2 := Lib.hid ((hb2.cell (p := ⟨w.heap.size, 2, none⟩) (by simp; omega)).trans ((World.cell?_alloc_lt _ _ ⟨w.heap.size, 2, none⟩ hz1).trans M2.out))
    have hz2 : w1.heap.size < w2.heap.size := by have := hb2.size; simp at this; omega
    have HPL2 := Lib.hid (show Rd w2 3 (plC P) Av N from (HPL.out.alloc _).below hb2)
    have HRD2 := Lib.hid (show Rd w2 3 (chC R) A5 n from (HRD.out.alloc _).below hb2)
    clear hb2 HPL HRD
    go_wp2_with fail
    go_loopw [4, 8, 9, 10, 37] (fun _ t _ _ x wr => ∃ (k : Nat) (v : Value), k ≤ N ∧ x = .int .i64 k ∧ v = t ∧ OwnI wr w2.heap.size v (timesOf F P k) ∧ Below w2.heap.size w2 wr) (fun _ _ _ _ x _ => N - (intOf x).toNat)
    case atStart => exact ⟨0, _, by omega, rfl, rfl, OwnI.nil _ _, Below.refl _ _⟩
    case round =>
      obtain ⟨k, v, hk, rfl, rfl, hO, hB⟩ := hrel
      have HO := Lib.hid hO
      have HB := Lib.hid hB
      have hBs := hB.size
      have HBW := Lib.hid (HB2.out.trans (hB.mono HB2.out.size))
      obtain ⟨At, ct, rfl, t1, t2, t3⟩ := own_any hO
      have htl := timesOf_len F P k
      have m1 := (hB.cell (p := ⟨w.heap.size, 1, none⟩) (show _ < _ by simp; omega)).trans M1.out
      have m2 := (hB.cell (p := ⟨w.heap.size, 2, none⟩) (show _ < _ by simp; omega)).trans M2.out
      clear hO t3
      by_cases hlt : k < N
      · obtain ⟨b, off, rfl, hb0, hcell⟩ := (HPL2.out.below hB) (by omega)
        have c0 := hcell k hlt 0 _ rfl
        have c1 := hcell k hlt 1 _ rfl
        have c2 := hcell k hlt 2 _ rfl
        simp only [Nat.add_zero] at c0
        obtain ⟨bl, ol, rfl, hbl, hcl⟩ := (HL.out.below HBW.out) (by omega)
        have f2 := hcl k (by omega) 2 _ rfl
        have p3 := (hB.cell (p := ⟨w1.heap.size, 3, none⟩) (show _ < _ by omega)).trans P3.out
        have HTO := Lib.hid (show timesOf F P (k + 1) = timesOf F P k ++ if 0 < (P k).n then [(F k).now] else [] from rfl)
        have HG := Lib.hid (HG1.out k)
        have HGG := Lib.hid (HG2.out k hlt)
        generalize P k = pk at *
        generalize F k = fk at *
        obtain ⟨sA, sn, sc, pA, pn, pc, pg⟩ := pk
        obtain ⟨fid, ffail, fnow⟩ := fk
        dsimp only at c0 c1 c2 f2
        have i0 : (0 : Int) ≤ (k : Int) := by omega
        have i1 : (k : Int) < (N : Int) := by omega
        have i2 : (k : Int) < (nl : Int) := by omega
        have i3 : decide ((nl : Int) ≤ (k : Int)) = false := by simp; omega
        clear hcell hcl m1 m2 hB
        cases pg with
        | false =>
          by_cases hpn : 0 < pn
          · have dn : decide ((0 : Int) < (pn : Int)) = true := by simp; omega
            have HTE := Lib.hid (show timesOf F P (k + 1) = timesOf F P k ++ [fnow] by have := HTO.out; dsimp only at this; rw [this, if_pos hpn])
            go_wp2_with (at_builtin; go_loud (refine wpList_append_int rfl _ _ rfl w2.heap.size (.slice At (timesOf F P k).length ct) (timesOf F P k) rfl (HO.out.alloc _) (wr.heap.size + 1) (by simp) fnow rfl (by omega) (by simp; omega) ?_; intro v4 w4 hown4 hgrow4 hat4; obtain ⟨A4, c4, rfl, hn4, hc4, _⟩ := own_any hown4; have q2 : w4.cell? ⟨wr.heap.size, 2, none⟩ = some (.bool false) := (grown_cell hgrow4 (by simp) (fun e => by have := (HO.out.blk _ e.symm).2; omega)).trans (by simp [go_sem]); have q3 : w4.cell? ⟨w1.heap.size, 3, none⟩ = some (.slice A5 n c5) := (grown_cell hgrow4 (by simp; omega) (fun e => by have := (HO.out.blk _ e.symm).1; omega)).trans ((World.cell?_alloc_lt _ _ ⟨w1.heap.size, 3, none⟩ (by show w1.heap.size < wr.heap.size; omega)).trans p3); have HO4 := Lib.hid (show OwnI w4 w2.heap.size (.slice A4 ((timesOf F P k).length + 1) c4) (timesOf F P (k + 1)) by rw [HTE.out]; simpa using hown4); have HG4 := Lib.hid hgrow4; clear hown4 hgrow4 hat4 p3))
            have HB4 := Lib.hid (below_grown (HB.out.alloc hBs _) (by simp; omega) HG4.out (fun g hg => (HO.out.blk g hg).1))
            have hs4 := HB4.out.size
            exact ⟨⟨k + 1, _, by omega, by go_num, rfl, HO4.out, HB4.out⟩, by simp [intOf]; omega⟩
          · have dn : decide ((0 : Int) < (pn : Int)) = false := by simp; omega
            have hbx : w1.heap.size < wr.heap.size := by omega
            have HTE := Lib.hid (show timesOf F P (k + 1) = timesOf F P k by have := HTO.out; dsimp only at this; rw [this, if_neg hpn, List.append_nil])
            go_wp2_with fail
            exact ⟨⟨k + 1, _, by omega, by go_num, rfl, (show OwnI _ _ _ (timesOf F P (k + 1)) by rw [HTE.out]; exact HO.out.alloc _), (HB.out.alloc hBs (.cells #[.slice sA sn sc, .slice pA pn pc, .bool false] 27))⟩, by simp [intOf]; omega⟩
        | true =>
          have hkn : ¬ k + 1 < N := fun h => by have := HG.out h; cases this
          have e1 : IntKind.i64.wrap ((N : Int) - 1) = (N : Int) - 1 := by rw [IntWalk.i64_in _ (by omega)]
          have e2 : ((k : Int) != (N : Int) - 1) = false := by simp; omega
          have HNL := Lib.hid (show anyOf (fun k => (R k).lives) n = false from anyOf_false.2 (fun j hj => HGG.out rfl j hj))
          by_cases hpn : 0 < pn
          · have dn : decide ((0 : Int) < (pn : Int)) = true := by simp; omega
            have HTE := Lib.hid (show timesOf F P (k + 1) = timesOf F P k ++ [fnow] by have := HTO.out; dsimp only at this; rw [this, if_pos hpn])
            go_wp2_with (at_builtin; go_loud (refine wpList_append_int rfl _ _ rfl w2.heap.size (.slice At (timesOf F P k).length ct) (timesOf F P k) rfl (HO.out.alloc _) (wr.heap.size + 1) (by simp) fnow rfl (by omega) (by simp; omega) ?_; intro v4 w4 hown4 hgrow4 hat4; obtain ⟨A4, c4, rfl, hn4, hc4, _⟩ := own_any hown4; have q2 : w4.cell? ⟨wr.heap.size, 2, none⟩ = some (.bool true) := (grown_cell hgrow4 (by simp) (fun e => by have := (HO.out.blk _ e.symm).2; omega)).trans (by simp [go_sem]); have q3 : w4.cell? ⟨w1.heap.size, 3, none⟩ = some (.slice A5 n c5) := (grown_cell hgrow4 (by simp; omega) (fun e => by have := (HO.out.blk _ e.symm).1; omega)).trans ((World.cell?_alloc_lt _ _ ⟨w1.heap.size, 3, none⟩ (by show w1.heap.size < wr.heap.size; omega)).trans p3); have HO4 := Lib.hid (show OwnI w4 w2.heap.size (.slice A4 ((timesOf F P k).length + 1) c4) (timesOf F P (k + 1)) by rw [HTE.out]; simpa using hown4); have HG4 := Lib.hid hgrow4; clear hown4 hgrow4 hat4 p3))
            have HB4 := Lib.hid (below_grown (HB.out.alloc hBs _) (by simp; omega) HG4.out (fun g hg => (HO.out.blk g hg).1))
            have hs4 := HB4.out.size
            refine (any_lives A5 n c5 R _ (by omega) (HRD2.out.below HB4.out)).mono ?_
            rintro e w7 ⟨rfl, hb7⟩
            rw [HNL.out]
            have HB7 := Lib.hid hb7
            clear hb7 e1 e2
            go_wp2_with fail
            refine ⟨⟨k + 1, _, by omega, by go_num, rfl, OwnI.below (HO4.out) HB7.out, (HB4.out).trans (HB7.out.mono (HB4.out).size)⟩, by simp [intOf]; omega⟩
          · have dn : decide ((0 : Int) < (pn : Int)) = false := by simp; omega
            have hbx : w1.heap.size < wr.heap.size := by omega
            have HTE := Lib.hid (show timesOf F P (k + 1) = timesOf F P k by have := HTO.out; dsimp only at this; rw [this, if_neg hpn, List.append_nil])
            go_wp2_with fail
            refine (any_lives A5 n c5 R _ (by omega) (HRD2.out.below (HB.out.alloc hBs (.cells #[.slice sA sn sc, .slice pA pn pc, .bool true] 27)))).mono ?_
            rintro e w7 ⟨rfl, hb7⟩
            rw [HNL.out]
            have HB7 := Lib.hid hb7
            clear hb7 e1 e2
            go_wp2_with fail
            refine ⟨⟨k + 1, _, by omega, by go_num, rfl, OwnI.below ((show OwnI _ _ _ (timesOf F P (k + 1)) by rw [HTE.out]; exact HO.out.alloc _)) HB7.out, ((HB.out.alloc hBs (.cells #[.slice sA sn sc, .slice pA pn pc, .bool true] 27))).trans (HB7.out.mono ((HB.out.alloc hBs (.cells #[.slice sA sn sc, .slice pA pn pc, .bool true] 27))).size)⟩, by simp [intOf]; omega⟩
      · obtain rfl : k = N := by omega
        have hTl := timesOf_len F P k
        obtain ⟨ts, hts⟩ : ∃ ts, timesOf F P k = ts := ⟨_, rfl⟩
        have HGD := Lib.hid (show GoodT window most ts by have := HGOOD.out; rw [hts] at this; exact this)
        have HBDD := Lib.hid (show ∀ t ∈ ts, 0 ≤ t ∧ t ≤ 1099511627776 by have := HBD.out; rw [hts] at this; exact this)
        have HRT := Lib.hid (show Rd wr 1 (tmC (lst ts)) At ts.length by have := HO.out.rd; rw [hts] at this; exact this)
        have HWN := Lib.hid (show 1 ≤ window ∧ window ≤ 1099511627776 from ⟨HOK.out.1.2.2.2.2.1, HOK.out.1.2.2.2.2.2⟩)
        rw [hts] at hTl t1
        rw [hts]
        clear hB HO hts
        go_wp2_with fail
        go_loopw [4, 11, 12, 14, 75, 83] (fun _ _ _ _ x _ wx => ∃ i q : Nat, i ≤ ts.length ∧ x = .int .i64 i ∧ wx = wr.drewN q) (fun _ _ _ _ x _ _ => ts.length - (intOf x).toNat)
        case atStart => exact ⟨0, 0, by omega, rfl, rfl⟩
        case round =>
          obtain ⟨i, q, hi, rfl, rfl⟩ := hrel
          by_cases hil : i < ts.length
          · obtain ⟨bt, ot, rfl, hbt, hct⟩ := HRT.out (by omega)
            have HCT := Lib.hid hct
            have w1i : IntKind.i64.wrap ((i : Int) + 1) = (i : Int) + 1 := by rw [IntWalk.i64_in _ (by omega)]
            have j0 : (0 : Int) ≤ (i : Int) + 1 := by omega
            have j1 : (i : Int) + 1 ≤ (ct : Int) := by omega
            have j2 : ((i : Int) + 1).toNat = i + 1 := by omega
            have j3 : (0 : Int) ≤ (i : Int) := by omega
            have j4 : (i : Int) < (ts.length : Int) := by omega
            clear hct
            go_wp2_with fail
            obtain ⟨z, hz⟩ : ∃ z, lst ts i = z := ⟨_, rfl⟩
            have HZ := Lib.hid hz
            have hzb := HBDD.out z (by rw [← hz]; exact lst_mem hil)
            clear hz
            go_loopw [12, 14, 83] (fun c _ x wx => ∃ p q2 : Nat, p ≤ i + 1 ∧ x = .int .i64 p ∧ c = .int .i64 ((inWin window z (ts.take p)).length : Nat) ∧ wx = wr.drewN q2) (fun _ _ x _ => i + 1 - (intOf x).toNat)
            case atStart => exact ⟨0, q, by omega, rfl, by simp [inWin], rfl⟩
            case round =>
              obtain ⟨p, q2, hp, rfl, rfl, rfl⟩ := hrel
              have hcl := inWin_le window z (ts.take p)
              have hcl2 : (ts.take p).length ≤ p := List.length_take_le _ _
              by_cases hpl : p < i + 1
              · have hsn := inWin_snoc window z (ts.take p) (lst ts p)
                rw [← take_snoc ts (show p < ts.length by omega)] at hsn
                have HSN := Lib.hid hsn
                have c1 : (wr.drewN q2).cell? ⟨bt, ot + p, none⟩ = some (.int .i64 (lst ts p)) := by simpa using HCT.out p (by omega) 0 _ rfl
                have c2 : (wr.drewN q2).cell? ⟨bt, ot + i, none⟩ = some (.int .i64 z) := by rw [← HZ.out]; simpa using HCT.out i hil 0 _ rfl
                have m2' : (wr.drewN q2).cell? ⟨w.heap.size, 2, none⟩ = some (.int .i64 window) := m2
                have hpb := HBDD.out (lst ts p) (lst_mem (show p < ts.length by omega))
                generalize hy : lst ts p = y at *
                have HY := Lib.hid hy
                have w2i : IntKind.i64.wrap (z - y) = z - y := by rw [IntWalk.i64_in _ (by omega)]
                have j5 : (0 : Int) ≤ (p : Int) := by omega
                have j6 : (p : Int) < (i : Int) + 1 := by omega
                clear hy hsn m2
                generalize hW : wr.drewN q2 = wx at *
                have HW := Lib.hid hW
                clear hW
                by_cases hin : z - y < window
                · have din : decide (z - y < window) = true := by simpa using hin
                  go_wp2_with fail
                  go_quiet (fail)
                  go_wp2_with fail
                  refine ⟨⟨p + 1, q2 + nq, by omega, by go_num, ?_, by rw [← HW.out, drewN_drewN]⟩, by simp [intOf]; omega⟩
                  rw [HSN.out, if_pos hin, List.length_append]
                  simp
                · have din : decide (z - y < window) = false := by simpa using hin
                  go_wp2_with fail
                  go_quiet (fail)
                  go_wp2_with fail
                  refine ⟨⟨p + 1, q2 + nq, by omega, by go_num, ?_, by rw [← HW.out, drewN_drewN]⟩, by simp [intOf]; omega⟩
                  rw [HSN.out, if_neg (by omega), List.append_nil]
              · obtain rfl : p = i + 1 := by omega
                have hge : ((inWin window z (ts.take (i + 1))).length : Int) ≤ most := by rw [← HZ.out]; exact HGD.out i hil
                have dge : decide (most < ((inWin window z (ts.take (i + 1))).length : Int)) = false := by simp; omega
                have m1' : (wr.drewN q2).cell? ⟨w.heap.size, 1, none⟩ = some (.int .i64 most) := m1
                generalize (inWin window z (ts.take (i + 1))).length = cnt at *
                go_wp2_with fail
                exact ⟨⟨i + 1, q2, by omega, by go_num, rfl⟩, by simp [intOf]; omega⟩
          · obtain rfl : i = ts.length := by omega
            go_wp2_with fail
            go_ret
            exact ⟨rfl, below_drewN HBW.out _⟩
set_option maxRecDepth 100000 in
/-- terminations that are an argument -/
theorem open_falls {H : Type} {enc : TypeId × Value → H} {W : World} {base : Nat} {v : Value} {d : DataW H} {p : List MemPlace} (k0 : Value.okWide Try.prog W .any base 44 v) (h0 : DataW.Trod enc Try.prog W 0 (fun _ => true) true 44 v d p) :
    ∃ (L : Option Addr) (nl cl : Nat) (F : Nat → Fl), v = .slice L nl cl ∧ nl ≤ cl ∧ cl ≤ 9223372036854775807 ∧ Rd W 3 (flC F) L nl := by
  obtain ⟨A, n, c, rfl⟩ := okWide_slice Try.underlying44 k0
  obtain ⟨fuel, hf⟩ := h0
  have hf' : DataW.trod enc Try.prog W 0 (fun _ => true) true fuel 44 [.slice A n c] = some (d, p) := by simpa [Value.cells] using hf
  obtain ⟨A', n', c', C, e3, hnc, hcm, hA, hR, hlenC, hel⟩ := open_rows Try.underlying44 (sz := 3) (by kernel_rfl) (by omega) hf'
  simp at e3
  obtain ⟨rfl, rfl, rfl⟩ := e3
  clear k0 hf hf'
  have hall : ∀ i, ∃ q : Fl, i < n → C i = flC (fun _ => q) i := fun i => by
    by_cases hi : i < n
    · obtain ⟨m, y, hy⟩ := hel i hi
      have hg := trod_fields Try.underlying49 (by kernel_rfl) hy
      match hC : C i, hlenC i with
      | [u0, u1, u2], _ =>
        rw [hC] at hg
        obtain ⟨_, _, g0⟩ := hg 0 _ u0 rfl rfl
        obtain ⟨_, _, g1⟩ := hg 1 _ u1 rfl rfl
        obtain ⟨_, _, g2⟩ := hg 2 _ u2 rfl rfl
        obtain ⟨z0, e0, _, _⟩ := DataW.trod_int Try.underlying3 g0
        obtain ⟨z1, e1, _, _⟩ := DataW.trod_bool Try.underlying4 g1
        obtain ⟨z2, e2, _, _⟩ := DataW.trod_int Try.underlying3 g2
        simp at e0 e1 e2
        exact ⟨⟨z0, z1, z2⟩, fun _ => by rw [e0, e1, e2]; rfl⟩
    · exact ⟨⟨0, false, 0⟩, fun h => absurd h hi⟩
  obtain ⟨Q, hQ⟩ := Classical.axiomOfChoice hall
  exact ⟨A, n, c, Q, rfl, hnc, hcm, hR.congr fun k hk => hQ k hk⟩
set_option maxRecDepth 100000 in
theorem wardSteady_walk {H : Type} {enc : TypeId × Value → H} (W : World) (base : Nat) (v0 v1 : Value) {d0 d1 : DataW H} {p0 p1 : List MemPlace}
    (k0 : Value.okWide Try.prog W .any base 25 v0) (k1 : Value.okWide Try.prog W .any base 44 v1)
    (h0 : DataW.Trod enc Try.prog W 0 (fun _ => true) true 25 v0 d0 p0) (h1 : DataW.Trod enc Try.prog W 0 (fun _ => true) true 44 v1 d1 p1) :
    Calls Try.prog 7 #[v0, v1] W fun e W' => e = .returned (.bool true) ∧ Below W.heap.size W W' := by
  obtain ⟨X, A, B, c, d, rfl, ha⟩ := open_ward k0 h0
  obtain ⟨L, nl, cl, F, rfl, hl1, hl2, hL⟩ := open_falls k1 h1
  exact wardSteady_go X A B c d L nl cl F W ha hl1 hl2 hL
end Go.Proofs.Ytcjkibjaajbfmaa
