/- The walk of the law TopSwaps. -/
import Derived.Test.YthgbcgphkddmgaaGreatZBT
import Derived.Deep.CutBlock
import Derived.Deep.RegionHeld3
import Derived.BigRegion
import Derived.Test.YthgbcgphkddmgaaGreatZAI
namespace Go.Proofs.YthgbcgphkddmgaaGreat
open Go.RowKit
set_option linter.unusedVariables false
set_option linter.unusedSimpArgs false
theorem flatC_rng (F : Nat → Int) : ∀ m, flatC (tmC F) m = encI ((List.range m).map F)
  | 0 => rfl
  | m + 1 => by
    rw [flatC, flatC_rng F m, List.range_succ, List.map_append]
    unfold encI tmC
    rw [List.map_append]
    rfl
theorem lst_set (l : List Int) (i j : Nat) (x : Int) (hj : j < l.length) : lst (l.set i x) j = if i = j then x else lst l j := by
  unfold lst
  rw [List.getD_eq_getElem?_getD, List.getElem?_set, List.getD_eq_getElem?_getD]
  by_cases e : i = j
  · subst e
    simp [hj]
  · simp [e]
theorem swapL_wf {L : List Int} {i m : Nat} (hm : L.length = m) (hi : i + 1 < m) (h : ∀ j, j < m → (Lit.int .i64 (lst L j)).wf = true) : ∀ j, j < m → (Lit.int .i64 (lst (swapL L i) j)).wf = true := fun j hj => by
  unfold swapL
  rw [lst_set _ _ _ _ (by simpa using hm ▸ hj), lst_set _ _ _ _ (by omega)]
  split
  · exact h i (by omega)
  · split
    · exact h (i + 1) hi
    · exact h j hj
theorem OwnI.put {w : World} {base g c i m : Nat} {x : Int} {l : List Int} (hm : m = l.length) (h : OwnI w base (.slice (some ⟨g, 0, none⟩) m c) l) : OwnI (w.setCell ⟨g, i, none⟩ (.int .i64 x)) base (.slice (some ⟨g, 0, none⟩) m c) (l.set i x) := by
  subst hm
  have h1 := (World.ownsRow.stored h i (.int .i64 x)).1
  have e : (encI l).set i (.int .i64 x) = encI (l.set i x) := by unfold encI; rw [List.map_set]
  unfold OwnI
  rw [e] at h1
  rw [List.length_set]
  exact h1
theorem OwnI.swap1 {w : World} {base g c i m : Nat} {a b : Int} {l : List Int} (hm : m = l.length) (h : OwnI w base (.slice (some ⟨g, 0, none⟩) m c) l) (ha : lst l i = a) (hb : lst l (i + 1) = b) : OwnI ((w.setCell ⟨g, i, none⟩ (.int .i64 b)).setCell ⟨g, i + 1, none⟩ (.int .i64 a)) base (.slice (some ⟨g, 0, none⟩) m c) (swapL l i) := by
  unfold swapL
  rw [ha, hb]
  exact (h.put hm).put (by rw [List.length_set]; exact hm)
theorem lst_rng (F : Nat → Int) {m j : Nat} (h : j < m) : lst ((List.range m).map F) j = F j := by
  unfold lst
  rw [List.getD_eq_getElem?_getD, List.getElem?_map, List.getElem?_range h]
  rfl
set_option maxRecDepth 100000 in
set_option maxHeartbeats 16000000 in
theorem topSwaps_go (W : World) (nodes : Int) (A : Option Addr) (n0 c : Nat) (G : Nat → Int) (hnc : n0 ≤ c) (hcm : c ≤ 9223372036854775807) (hA : A = none → n0 = 0) (hR : Rd W 1 (tmC G) A n0) (hwf : ∀ j, j < n0 → (Lit.int .i64 (G j)).wf = true)
    (As : Option Addr) (ns cs : Nat) (F : Nat → Int) (hsc : ns ≤ cs) (hsm : cs ≤ 9223372036854775807) (hAs : As = none → ns = 0) (hRs : Rd W 1 (tmC F) As ns) (hwfs : ∀ j, j < ns → (Lit.int .i64 (F j)).wf = true)
    (Aw : Option Addr) (nw cw : Nat) (S : Nat → Int) (hwc : nw ≤ cw) (hwm : cw ≤ 9223372036854775807) (hRw : Rd W 1 (tmC S) Aw nw) :
    Calls Tryz.prog 5 #[.int .i64 nodes, .slice A n0 c, .slice As ns cs, .slice Aw nw cw] W fun e w' => e = .returned (.bool true) ∧ Below W.heap.size W w' := by
  have HR := Lib.hid hR
  have HWF := Lib.hid hwf
  have HRs := Lib.hid hRs
  have HWFs := Lib.hid hwfs
  have HRw := Lib.hid hRw
  obtain ⟨r, hr⟩ : ∃ r, restK nodes 3 = r := ⟨_, rfl⟩
  have hr3 : r < 3 := by rw [← hr]; exact restK_lt nodes (by omega)
  have HRS := Lib.hid (show ∀ w, Calls Tryz.prog 6 #[.int .i64 nodes, .int .i64 3] w fun e w' => e = .returned (.int .i64 (r : Int)) ∧ w' = w from fun w => by rw [← hr]; exact restK_any nodes 3 w (by omega) (by omega))
  obtain ⟨m, hm⟩ : ∃ m, min ns 12 = m := ⟨_, rfl⟩
  have hmin : min (ns : Int) 12 = (m : Int) := by omega
  have hmax : max (m : Int) 0 = (m : Int) := by omega
  have hm12 : m ≤ 12 ∧ m ≤ ns := by omega
  have HM := Lib.hid hm
  clear hR hwf hRs hwfs hRw hr hm
  go_enter Tryz.func5, Tryz.ntmps5
  go_wp2_with fail
  refine (HRS.out _).mono ?_
  rintro e w' ⟨rfl, rfl⟩
  clear HRS
  go_wp2_with fail
  obtain ⟨W3, hW3⟩ : ∃ W3, W3 = ((W.alloc (.cells #[.int .i64 (2 + (r : Int))] 3)).alloc (.cells #[.slice A n0 c] 31)).alloc (.cells #[.slice As ns cs] 31) := ⟨_, rfl⟩
  obtain ⟨n, hn⟩ : ∃ n, 2 + r = n := ⟨_, rfl⟩
  have hn4 : 2 ≤ n ∧ n ≤ 4 := by omega
  obtain ⟨nb, hnb⟩ : ∃ nb, W.heap.size = nb := ⟨_, rfl⟩
  have b0 : W3.cell? ⟨nb, 0, none⟩ = some (.int .i64 (n : Int)) := by rw [hW3, ← hnb, ← hn]; simp [go_sem]
  have b1 : W3.cell? ⟨nb + 1, 0, none⟩ = some (.slice A n0 c) := by rw [hW3, ← hnb]; simp [go_sem]
  have b2 : W3.cell? ⟨nb + 1 + 1, 0, none⟩ = some (.slice As ns cs) := by rw [hW3, ← hnb]; simp [go_sem]
  have bf : W3.frozen? ⟨nb + 1 + 1, 0, none⟩ = false := by rw [hW3, ← hnb]; simp [go_sem]
  have hz3 : W3.heap.size = nb + 1 + 1 + 1 := by rw [hW3, ← hnb]; simp
  have HB3 := Lib.hid (show Below nb W W3 from by rw [hW3, ← hnb]; exact ((((Below.refl _ _).alloc (Nat.le_refl _) _).alloc (by simp) _).alloc (by simp; omega) _))
  have HNB := Lib.hid hnb
  have HN := Lib.hid hn
  rw [← hW3, hnb]
  clear hW3 hnb hn
  refine (cloneInt As m cs (tmC F) W3 (fun h0 => by
    obtain ⟨b, off, e, hb, hc⟩ := (HRs.out.below (by rw [HNB.out]; exact HB3.out)) (by omega)
    exact ⟨b, off, e, hb, fun k hk => hc k (by omega)⟩) (tmC_len _) (tmC_one _) (fun e => by have := hAs e; omega) (by omega)).mono ?_
  rintro e w4 ⟨v4, rfl, ho4, hb4⟩
  obtain ⟨L, hL⟩ : ∃ L, (List.range m).map F = L := ⟨_, rfl⟩
  have hLm : L.length = m := by rw [← hL]; simp
  have ho4' : OwnI w4 (nb + 1 + 1 + 1) v4 L := by
    unfold OwnI
    rw [flatC_rng, hL] at ho4
    rw [hLm, ← hz3]
    exact ho4
  obtain ⟨A1, c1, hv1, hc1, hc1m, hA1⟩ := own_any ho4'
  rw [hLm] at hv1
  subst hv1
  have d0 := (hb4.cell (p := ⟨nb, 0, none⟩) (by show nb < W3.heap.size; omega)).trans b0
  have d1 := (hb4.cell (p := ⟨nb + 1, 0, none⟩) (by show nb + 1 < W3.heap.size; omega)).trans b1
  have d2 := (hb4.cell (p := ⟨nb + 1 + 1, 0, none⟩) (by show nb + 1 + 1 < W3.heap.size; omega)).trans b2
  have df := (hb4.frozen (p := ⟨nb + 1 + 1, 0, none⟩) (by show nb + 1 + 1 < W3.heap.size; omega)).trans bf
  have HO4 := Lib.hid ho4'
  have HB4 := Lib.hid (show Below nb W w4 from HB3.out.trans (hb4.mono (by omega)))
  have HL := Lib.hid hL
  have HLM := Lib.hid hLm
  have hz4 : nb + 1 + 1 + 1 ≤ w4.heap.size := by have := hb4.size; omega
  clear ho4 ho4' hb4 hL b0 b1 b2 bf HB3
  have HWL := Lib.hid (show ∀ j, j < m → (Lit.int .i64 (lst L j)).wf = true from fun j hj => by rw [← HL.out, lst_rng F hj]; exact HWFs.out j (by omega))
  obtain ⟨w5, hw5⟩ : ∃ w5, w5 = w4.setCell ⟨nb + 1 + 1, 0, none⟩ (.slice A1 m c1) := ⟨_, rfl⟩
  have k0 : w5.cell? ⟨nb, 0, none⟩ = some (.int .i64 (n : Int)) := by rw [hw5]; simp [go_sem, d0]
  have k1 : w5.cell? ⟨nb + 1, 0, none⟩ = some (.slice A n0 c) := by rw [hw5]; simp [go_sem, d1]
  have k2 : w5.cell? ⟨nb + 1 + 1, 0, none⟩ = some (.slice A1 m c1) := by rw [hw5]; exact set_this d2
  have hf5 : Fr (fun b => b = nb + 1 + 1) w4 w5 := by rw [hw5]; exact Fr.setAt (Fr.refl _ w4) _
  have HO5 := Lib.hid (show OwnI w5 (nb + 1 + 1 + 1) (.slice A1 m c1) L from hf5.row HO4.out (fun b hb e => by have := (HO4.out.blk b hb).1; omega))
  have HB5 := Lib.hid (show Below nb W w5 from HB4.out.trans (hf5.below (fun b hb => by omega) (by omega)))
  have hz5 : nb + 1 + 1 + 1 ≤ w5.heap.size := by have := hf5.size; omega
  have HE5 := Lib.hid (show ∀ k, (Value.slice A1 m c1).ownBlock = some k → nb + 1 + 1 + 1 ≤ k ∧ k < w5.heap.size from fun k hk => HO5.out.blk k hk)
  have hP := play_any (fun k => (Value.slice A1 m c1).ownBlock = some k) nb n nb (nb + 1) (nb + 1 + 1) w5 A n0 c G A1 m c1 (lst L) (fun k hk => (HE5.out k hk).2) (by omega) hn4 hnc hcm hA (HR.out.below (by rw [HNB.out]; exact HB5.out)) HWF.out hm12.1 (by have := HO5.out.rd; rw [HLM.out] at this; exact this) HWL.out k0 k1 k2
  have HP := Lib.hid hP
  have HW5 := Lib.hid hw5
  have HK := Lib.hid (And.intro k0 (And.intro k1 k2))
  have HS := Lib.hid (SwR.refl n L)
  have HLI := Lib.hid (show LvI n 0 (liveC (pumpsC n (plansT n G (min n0 6)) (min n0 6)) 0) from by
    have := LvI.start (n := n) (ps := plansT n G (min n0 6)) (by omega) (by rw [plansT_len]; omega) (fun p hp => plansT_ok (by omega) hp)
    rw [plansT_len] at this
    exact this)
  obtain ⟨C0, hC0⟩ : ∃ C0, C0 = liveC (pumpsC n (plansT n G (min n0 6)) (min n0 6)) 0 := ⟨_, rfl⟩
  rw [← hC0] at HP HLI
  have HC0 := Lib.hid hC0
  clear hw5 k0 k1 k2 hf5 hP hC0 HB4 HO4 hz4 hLm hA1
  go_wp2_with fail
  rw [← HW5.out]
  refine HP.out.mono ?_
  rintro e w6 ⟨bla, pna, rfl, hLC, hB6⟩
  have HLC := Lib.hid hLC
  have HB6 := Lib.hid (HB5.out.trans (hB6.mono (by omega)))
  have HO6 := Lib.hid (HO5.out.below hB6)
  have HK6 := Lib.hid (And.intro ((hB6.cell (p := ⟨nb, 0, none⟩) (by show nb < _; omega)).trans HK.out.1) (And.intro ((hB6.cell (p := ⟨nb + 1, 0, none⟩) (by show nb + 1 < _; omega)).trans HK.out.2.1) ((hB6.cell (p := ⟨nb + 1 + 1, 0, none⟩) (by show nb + 1 + 1 < _; omega)).trans HK.out.2.2)))
  obtain ⟨s5, hs5⟩ : ∃ s5, w5.heap.size = s5 := ⟨_, rfl⟩
  rw [hs5] at HLC HE5 hz5
  have hz6 : s5 ≤ w6.heap.size := by have := hB6.size; omega
  clear hLC hB6 HP hs5 d0 d1 d2 df
  obtain ⟨q, hq⟩ : ∃ q, min nw 40 = q := ⟨_, rfl⟩
  have hqmin : min (nw : Int) 40 = (q : Int) := by omega
  have hqmax : max (q : Int) 0 = (q : Int) := by omega
  have hq40 : q ≤ 40 ∧ q ≤ nw := by omega
  clear hq
  go_upto_block 0 with fail
  go_cut [] (fun wx => Hid (∃ L', SwR n L L' ∧ (∀ j, j < m → (Lit.int .i64 (lst L' j)).wf = true) ∧ OwnI wx (nb + 1 + 1 + 1) (.slice A1 m c1) L' ∧ LvC (fun k => (Value.slice A1 m c1).ownBlock = some k) nb s5 1000000000 wx bla pna (playS n (lst L) C0 m) ∧ Fr (fun k => (Value.slice A1 m c1).ownBlock = some k) w6 wx))
  case first =>
    go_wp2_with fail
    go_loopw [13, 14, 46] (fun _ _ v46 wr => ∃ (j : Nat) (L' : List Int), j ≤ q ∧ v46 = .int .i64 (j : Int) ∧ Hid (SwR n L L') ∧ Hid (∀ j, j < m → (Lit.int .i64 (lst L' j)).wf = true) ∧ Hid (OwnI wr (nb + 1 + 1 + 1) (.slice A1 m c1) L') ∧ Hid (LvC (fun k => (Value.slice A1 m c1).ownBlock = some k) nb s5 1000000000 wr bla pna (playS n (lst L) C0 m)) ∧ Hid (Fr (fun k => (Value.slice A1 m c1).ownBlock = some k) w6 wr)) (fun _ _ v46 _ => q - (intOf v46).toNat)
    case atStart => exact ⟨0, L, Nat.zero_le _, rfl, HS, HWL, HO6, HLC, Lib.hid (Fr.refl _ _)⟩
    case round =>
      obtain ⟨j, L', hj, rfl, HSj, HWj, HOj, HCj, HFj⟩ := hrel
      have hml : L'.length = m := HSj.out.1.trans HLM.out
      have hnO : ∀ k, k < nb + 1 + 1 + 1 → ¬ (Value.slice A1 m c1).ownBlock = some k := fun k hk e => by have := (HE5.out k e).1; omega
      have l0 := HFj.out.cell HK6.out.1 (hnO nb (by omega))
      have l2 := HFj.out.cell HK6.out.2.2 (hnO (nb + 1 + 1) (by omega))
      have HFIN := Lib.hid (show ∃ L', SwR n L L' ∧ (∀ j, j < m → (Lit.int .i64 (lst L' j)).wf = true) ∧ OwnI wr (nb + 1 + 1 + 1) (.slice A1 m c1) L' ∧ LvC (fun k => (Value.slice A1 m c1).ownBlock = some k) nb s5 1000000000 wr bla pna (playS n (lst L) C0 m) ∧ Fr (fun k => (Value.slice A1 m c1).ownBlock = some k) w6 wr from ⟨L', HSj.out, HWj.out, HOj.out, HCj.out, HFj.out⟩)
      by_cases hlt : j < q
      · have HBj := Lib.hid (show Below nb W wr from HB6.out.trans (HFj.out.below (fun k hk => by have := (HE5.out k hk).1; omega) (by omega)))
        obtain ⟨b, off, rfl, hb, hcell⟩ := (HRw.out.below (by rw [HNB.out]; exact HBj.out)) (by omega)
        have hcj := hcell j (by omega) 0 (.int .i64 (S j)) rfl
        rw [Nat.mul_one, Nat.add_zero] at hcj
        obtain ⟨x, hx⟩ : ∃ x, S j = x := ⟨_, rfl⟩
        rw [hx] at hcj
        have i1 : (0 : Int) ≤ (j : Int) := by omega
        have i2 : (j : Int) < (q : Int) := by omega
        have HLT := Lib.hid hlt
        clear hcell hx hlt hnO
        by_cases hm2 : m < 2
        · have hd2 : decide ((m : Int) < 2) = true := decide_eq_true (by omega)
          clear hm2
          go_wp2_with fail
          go_meet
          exact HFIN
        · have hd2 : decide ((m : Int) < 2) = false := decide_eq_false (by omega)
          obtain ⟨r1, hr1⟩ : ∃ r1, restK x (m - 1) = r1 := ⟨_, rfl⟩
          have hr1m : r1 < m - 1 := by rw [← hr1]; exact restK_lt x (by omega)
          have em : ((m - 1 : Nat) : Int) = (m : Int) - 1 := by omega
          have HR1 := Lib.hid (show ∀ w, Calls Tryz.prog 6 #[.int .i64 x, .int .i64 ((m : Int) - 1)] w fun e w' => e = .returned (.int .i64 (r1 : Int)) ∧ w' = w from fun w => by rw [← hr1, ← em]; exact restK_any x (m - 1) w (by omega) (by omega))
          have HM1 := Lib.hid (show 2 ≤ m ∧ r1 + 1 < m from by omega)
          obtain ⟨g, cap, hv, hgb, hgl, -⟩ := own_form HOj.out (by omega)
          injection hv with h1 h2 h3
          subst h1 h3
          clear h2
          have hce : ∀ k, k < m → wr.cell? ⟨g, k, none⟩ = some (.int .i64 (lst L' k)) := fun k hk => by
            have h1 := HOj.out
            unfold OwnI at h1
            rw [hml] at h1
            have h2 := World.ownsRow.cellAt h1 k (by omega)
            rw [h2]
            unfold encI lst
            rw [List.getElem?_map, List.getElem?_eq_getElem (by omega), List.getD_eq_getElem?_getD, List.getElem?_eq_getElem (by omega)]
            rfl
          obtain ⟨a, ha⟩ : ∃ a, lst L' r1 = a := ⟨_, rfl⟩
          obtain ⟨b', hb'⟩ : ∃ b', lst L' (r1 + 1) = b' := ⟨_, rfl⟩
          have ca := hce r1 (by omega)
          have cb := hce (r1 + 1) (by omega)
          rw [ha] at ca
          rw [hb'] at cb
          have hwa : Wf a := by rw [← ha]; exact HWj.out r1 (by omega)
          have hwb : Wf b' := by rw [← hb']; exact HWj.out (r1 + 1) (by omega)
          have da : -9223372036854775808 ≤ a.tdiv 4 ∧ a.tdiv 4 ≤ 9223372036854775807 := tdiv_in hwa (d := 4) (by omega)
          have db : -9223372036854775808 ≤ b'.tdiv 4 ∧ b'.tdiv 4 ≤ 9223372036854775807 := tdiv_in hwb (d := 4) (by omega)
          obtain ⟨ra, hra⟩ : ∃ ra, restK (a.tdiv 4) n = ra := ⟨_, rfl⟩
          obtain ⟨rb, hrb⟩ : ∃ rb, restK (b'.tdiv 4) n = rb := ⟨_, rfl⟩
          have HRa := Lib.hid (show ∀ w, Calls Tryz.prog 6 #[.int .i64 (a.tdiv 4), .int .i64 (n : Int)] w fun e w' => e = .returned (.int .i64 (ra : Int)) ∧ w' = w from fun w => by rw [← hra]; exact restK_any _ n w (by omega) (by omega))
          have HRb := Lib.hid (show ∀ w, Calls Tryz.prog 6 #[.int .i64 (b'.tdiv 4), .int .i64 (n : Int)] w fun e w' => e = .returned (.int .i64 (rb : Int)) ∧ w' = w from fun w => by rw [← hrb]; exact restK_any _ n w (by omega) (by omega))
          have wa1 : wrap64 (a.tdiv 4) = a.tdiv 4 := IntWalk.wrap64_in _ da
          have wa2 : IntKind.i64.wrap (a.tdiv 4) = a.tdiv 4 := IntWalk.i64_in _ da
          have wb1 : wrap64 (b'.tdiv 4) = b'.tdiv 4 := IntWalk.wrap64_in _ db
          have wb2 : IntKind.i64.wrap (b'.tdiv 4) = b'.tdiv 4 := IntWalk.i64_in _ db
          have HRa1 := Lib.hid (show ∀ w, Calls Tryz.prog 6 #[.int .i64 (wrap64 (a.tdiv 4)), .int .i64 (n : Int)] w fun e w' => e = .returned (.int .i64 (ra : Int)) ∧ w' = w from by rw [wa1]; exact HRa.out)
          have HRb1 := Lib.hid (show ∀ w, Calls Tryz.prog 6 #[.int .i64 (wrap64 (b'.tdiv 4)), .int .i64 (n : Int)] w fun e w' => e = .returned (.int .i64 (rb : Int)) ∧ w' = w from by rw [wb1]; exact HRb.out)
          have HRa2 := Lib.hid (show ∀ w, Calls Tryz.prog 6 #[.int .i64 (IntKind.i64.wrap (a.tdiv 4)), .int .i64 (n : Int)] w fun e w' => e = .returned (.int .i64 (ra : Int)) ∧ w' = w from by rw [wa2]; exact HRa.out)
          have HRb2 := Lib.hid (show ∀ w, Calls Tryz.prog 6 #[.int .i64 (IntKind.i64.wrap (b'.tdiv 4)), .int .i64 (n : Int)] w fun e w' => e = .returned (.int .i64 (rb : Int)) ∧ w' = w from by rw [wb2]; exact HRb.out)
          have HAB := Lib.hid (And.intro ha hb')
          have HOA := Lib.hid (show (opOf n (lst L' r1)).1 = ra ∧ (opOf n (lst L' (r1 + 1))).1 = rb from ⟨by rw [ha]; exact hra, by rw [hb']; exact hrb⟩)
          have hgfz : ∀ o, wr.frozen? ⟨g, o, none⟩ = false := fun o => by
            have h1 := HOj.out
            unfold OwnI at h1
            rw [hml] at h1
            exact World.ownsRow.frozenAt h1 o
          have i3 : (0 : Int) ≤ (r1 : Int) := by omega
          have i4 : (r1 : Int) < (m : Int) := by omega
          have i5 : (r1 : Int) + 1 < (m : Int) := by omega
          have i6 : (0 : Int) ≤ (r1 : Int) + 1 := by omega
          have i7 : ((r1 : Int) + 1).toNat = r1 + 1 := by omega
          have hw1 : IntKind.i64.wrap ((r1 : Int) + 1) = (r1 : Int) + 1 := by rw [IntWalk.i64_in _ ⟨by omega, by omega⟩]
          clear hr1 hr1m em hce ha hb' hwa hwb da db hra hrb hm2
          by_cases hne : ra = rb
          · have hbn : ((ra : Int) != (rb : Int)) = false := by subst hne; simp
            clear hne
            go_wp2_with fail
            refine (HR1.out _).mono ?_
            rintro e w' ⟨rfl, hw⟩
            have hw := hw.symm
            subst hw
            go_wp2_with fail
            have q0 : wr.drew.cell? ⟨nb, 0, none⟩ = some (.int .i64 (n : Int)) := l0
            have q2 : wr.drew.cell? ⟨nb + 1 + 1, 0, none⟩ = some (.slice (some ⟨g, 0, none⟩) m c1) := l2
            have qa : wr.drew.cell? ⟨g, r1, none⟩ = some (.int .i64 a) := ca
            have qb : wr.drew.cell? ⟨g, r1 + 1, none⟩ = some (.int .i64 b') := cb
            go_region_held3 (fun W => W.cell? ⟨nb, 0, none⟩ = some (.int .i64 (n : Int)) ∧ W.cell? ⟨nb + 1 + 1, 0, none⟩ = some (.slice (some ⟨g, 0, none⟩) m c1) ∧ W.cell? ⟨g, r1, none⟩ = some (.int .i64 a) ∧ W.cell? ⟨g, r1 + 1, none⟩ = some (.int .i64 b'))
              (first | exact ⟨q0, q2, qa, qb⟩ | go_keep)
              (first
                | (go_at_call 6; with_reducible (refine (HRa.out _).mono ?_); rintro e w' ⟨rfl, rfl⟩)
                | (go_at_call 6; with_reducible (refine (HRb.out _).mono ?_); rintro e w' ⟨rfl, rfl⟩)
                | (go_at_call 6; with_reducible (refine (HRa1.out _).mono ?_); rintro e w' ⟨rfl, rfl⟩)
                | (go_at_call 6; with_reducible (refine (HRb1.out _).mono ?_); rintro e w' ⟨rfl, rfl⟩)
                | (go_at_call 6; with_reducible (refine (HRa2.out _).mono ?_); rintro e w' ⟨rfl, rfl⟩)
                | (go_at_call 6; with_reducible (refine (HRb2.out _).mono ?_); rintro e w' ⟨rfl, rfl⟩))
            clear q0 q2 qa qb
            all_goals
              go_wp2_with fail
              have hf := (Fr.refl (fun _ => False) wr).drew
              refine ⟨⟨j + 1, L', by have := HLT.out; omega, by go_num, HSj, HWj, Lib.hid (hf.row HOj.out (fun _ _ h => h)), Lib.hid (HCj.out.new hf), Lib.hid (HFj.out.trans' ((Fr.refl _ wr).drew))⟩, by have := HLT.out; simp [intOf]; omega⟩
          · have hbn : ((ra : Int) != (rb : Int)) = true := by simp; omega
            have HNE := Lib.hid hne
            clear hne
            go_wp2_with fail
            refine (HR1.out _).mono ?_
            rintro e w' ⟨rfl, hw⟩
            have hw := hw.symm
            subst hw
            go_wp2_with fail
            have q0 : wr.drew.cell? ⟨nb, 0, none⟩ = some (.int .i64 (n : Int)) := l0
            have q2 : wr.drew.cell? ⟨nb + 1 + 1, 0, none⟩ = some (.slice (some ⟨g, 0, none⟩) m c1) := l2
            have qa : wr.drew.cell? ⟨g, r1, none⟩ = some (.int .i64 a) := ca
            have qb : wr.drew.cell? ⟨g, r1 + 1, none⟩ = some (.int .i64 b') := cb
            go_region_held3 (fun W => W.cell? ⟨nb, 0, none⟩ = some (.int .i64 (n : Int)) ∧ W.cell? ⟨nb + 1 + 1, 0, none⟩ = some (.slice (some ⟨g, 0, none⟩) m c1) ∧ W.cell? ⟨g, r1, none⟩ = some (.int .i64 a) ∧ W.cell? ⟨g, r1 + 1, none⟩ = some (.int .i64 b'))
              (first | exact ⟨q0, q2, qa, qb⟩ | go_keep)
              (first
                | (go_at_call 6; with_reducible (refine (HRa.out _).mono ?_); rintro e w' ⟨rfl, rfl⟩)
                | (go_at_call 6; with_reducible (refine (HRb.out _).mono ?_); rintro e w' ⟨rfl, rfl⟩)
                | (go_at_call 6; with_reducible (refine (HRa1.out _).mono ?_); rintro e w' ⟨rfl, rfl⟩)
                | (go_at_call 6; with_reducible (refine (HRb1.out _).mono ?_); rintro e w' ⟨rfl, rfl⟩)
                | (go_at_call 6; with_reducible (refine (HRa2.out _).mono ?_); rintro e w' ⟨rfl, rfl⟩)
                | (go_at_call 6; with_reducible (refine (HRb2.out _).mono ?_); rintro e w' ⟨rfl, rfl⟩))
            clear q0 q2 qa qb
            have q0 : wr.drew.cell? ⟨nb, 0, none⟩ = some (.int .i64 (n : Int)) := l0
            have q2 : wr.drew.cell? ⟨nb + 1 + 1, 0, none⟩ = some (.slice (some ⟨g, 0, none⟩) m c1) := l2
            have qa : wr.drew.cell? ⟨g, r1, none⟩ = some (.int .i64 a) := ca
            have qb : wr.drew.cell? ⟨g, r1 + 1, none⟩ = some (.int .i64 b') := cb
            all_goals
              go_wp2_with fail
              go_region
              go_wp2_with fail
              have hf := (((Fr.refl (fun k => (Value.slice (some ⟨g, 0, none⟩) m c1).ownBlock = some k) wr).set (o := r1) (.inl rfl) (.int .i64 b')).set (o := r1 + 1) (.inl rfl) (.int .i64 a)).drew.drew
              have hO := (((Fr.refl (fun _ => False) ((wr.setCell ⟨g, r1, none⟩ (.int .i64 b')).setCell ⟨g, r1 + 1, none⟩ (.int .i64 a))).drew).drew).row (OwnI.swap1 hml.symm HOj.out HAB.out.1 HAB.out.2) (fun _ _ h => h)
              refine ⟨⟨j + 1, swapL L' r1, by have := HLT.out; omega, by go_num, Lib.hid (HSj.out.trans (SwR.swap (by rw [hml]; exact HM1.out.2) (by rw [HOA.out.1, HOA.out.2]; exact HNE.out))), Lib.hid (swapL_wf hml HM1.out.2 HWj.out), Lib.hid hO, Lib.hid (HCj.out.put hf (fun k hk => ⟨hk, by have := HE5.out k hk; omega, (HE5.out k hk).2⟩)), Lib.hid (HFj.out.trans' hf)⟩, by have := HLT.out; simp [intOf]; omega⟩
      · obtain rfl : q = j := by omega
        have hd : decide ((q : Int) < (q : Int)) = false := decide_eq_false (by omega)
        clear HSj HWj HOj HCj HFj
        go_wp2_with fail
        go_meet
        exact HFIN
  case rest =>
    obtain ⟨L', hS1, hW1, hO1, hC1, hF1⟩ := hcut.out
    have hml : L'.length = m := hS1.1.trans HLM.out
    have hnO : ∀ k, k < nb + 1 + 1 + 1 → ¬ (Value.slice A1 m c1).ownBlock = some k := fun k hk e => by have := (HE5.out k e).1; omega
    have k0 := hF1.cell HK6.out.1 (hnO nb (by omega))
    have k1 := hF1.cell HK6.out.2.1 (hnO (nb + 1) (by omega))
    have k2 := hF1.cell HK6.out.2.2 (hnO (nb + 1 + 1) (by omega))
    have HBc := Lib.hid (show Below nb W wc from HB6.out.trans (hF1.below (fun k hk => by have := (HE5.out k hk).1; omega) (by omega)))
    have hzc : s5 ≤ wc.heap.size := by have := hF1.size; omega
    obtain ⟨Xa, Ma, -, -, -, hGa⟩ := hC1
    have HGa := Lib.hid hGa
    have hP := play_any Xa nb n nb (nb + 1) (nb + 1 + 1) wc A n0 c G A1 m c1 (lst L') hGa.mlt.2 (by omega) hn4 hnc hcm hA (HR.out.below (by rw [HNB.out]; exact HBc.out)) HWF.out hm12.1 (by have := hO1.rd; rw [hml] at this; exact this) hW1 k0 k1 k2
    rw [← HC0.out] at hP
    have HP := Lib.hid hP
    obtain ⟨hla1, hla2⟩ := swaps_law (C := C0) (n := n) (L := L) (L' := L') (by omega) (by rw [HLM.out]; omega) HLI.out hS1
    rw [HLM.out, hml] at hla1 hla2
    have hia := HLI.out.play (F := lst L) (by omega) m hm12.1
    have hib := HLI.out.play (F := lst L') (by omega) m hm12.1
    have HK0 := Lib.hid k0
    clear hS1 hW1 hO1 hF1 hnO k0 k1 k2 hGa hP hcut HLC HO6 HS HLI HC0 HK6 HO5 HK HW5 HWL HL HR HWF HRs HWFs HRw HB5 HB6 hc1 hc1m
    go_wp2_with fail
    refine HP.out.mono ?_
    rintro e w1 ⟨blb, pnb, rfl, hLb, hB1⟩
    have HT1 := Lib.hid (LvC.two HGa.out hB1 hLb)
    have HK1 := Lib.hid ((hB1.cell (p := ⟨nb, 0, none⟩) (by show nb < _; omega)).trans HK0.out)
    have HB1 := Lib.hid (HBc.out.trans (hB1.mono (by omega)))
    have hz1 : s5 ≤ w1.heap.size := by have := hB1.size; omega
    clear hLb hB1 HP HGa HK0 HBc hzc
    obtain ⟨Ca, hCa⟩ : ∃ Ca, playS n (lst L) C0 m = Ca := ⟨_, rfl⟩
    obtain ⟨Cb, hCb⟩ : ∃ Cb, playS n (lst L') C0 m = Cb := ⟨_, rfl⟩
    rw [hCa, hCb] at HT1 hla1 hla2
    rw [hCa] at hia
    rw [hCb] at hib
    have HLA := Lib.hid (And.intro hla1 hla2)
    have HIA := Lib.hid hia
    have HIB := Lib.hid hib
    have HRF := Lib.hid (show refsG Ca Ca.n = refsG Cb Cb.n from by rw [hia.cn, hib.cn]; exact refsG_same hla1 n)
    clear hCa hCb hla1 hla2 hia hib hml
    obtain ⟨X1, M1a, M1b, hG1a, hG1b, hE1⟩ := HT1.out
    obtain ⟨rva, Bda, Mda, Pna, hga⟩ := hG1a
    have HRA := Lib.hid (grefs_any hga)
    clear hG1b hE1 hga
    go_wp2_with fail
    refine HRA.out.mono ?_
    rintro e w2 ⟨va, rfl, hoa, hb2⟩
    obtain ⟨Av, cv, rfl, hv1, hv2, hv3⟩ := own_any hoa
    have HOA := Lib.hid hoa
    have HF2 := Lib.hid (Fr.of_below (S := fun _ => False) hb2)
    have HT2 := Lib.hid (HT1.out.new HF2.out)
    clear hoa hb2 HRA hv3
    obtain ⟨X2, M2a, M2b, hG2a, hG2b, hE2⟩ := HT2.out
    obtain ⟨rvb, Bdb, Mdb, Pnb, hgb⟩ := hG2b
    have HRB := Lib.hid (grefs_any hgb)
    clear hG2a hE2 hgb
    go_wp2_with fail
    refine HRB.out.mono ?_
    rintro e w3 ⟨vb, rfl, hob, hb3⟩
    rw [← HRF.out] at hob
    obtain ⟨Aw', cw', rfl, hw1, hw2, hw3⟩ := own_any hob
    have HF3 := Lib.hid (HF2.out.trans' (Fr.of_below hb3))
    have HT3 := Lib.hid (HT2.out.new (Fr.of_below hb3))
    have HEQ := Lib.hid (equalI_same Av Aw' _ _ cv cw' (lst (refsG Ca Ca.n)) (lst (refsG Ca Ca.n)) w3 rfl (by omega) (OwnI.rd (base := w1.heap.size) (c := cv) ((Fr.of_below (S := fun _ => False) hb3).row HOA.out (fun _ _ h => h))) (OwnI.rd hob) (fun k _ => rfl))
    clear hob hb3 HRB hw3 HT2 HF2 HOA
    go_wp2_with fail
    refine HEQ.out.mono ?_
    rintro e w4 ⟨rfl, hb4⟩
    have HF4 := Lib.hid (HF3.out.trans' (Fr.of_below hb4))
    have HT4 := Lib.hid (HT3.out.new (Fr.of_below hb4))
    clear hb4 HEQ HT3 HF3
    have hz4 : w1.heap.size ≤ w4.heap.size := HF4.out.size
    obtain ⟨X4, M4a, M4b, hG4a, hG4b, hE4⟩ := HT4.out
    obtain ⟨rva4, Bda4, Mda4, Pna4, hga4⟩ := hG4a
    have HAA := Lib.hid (gair_any hga4 (by have := HIA.out.air; omega))
    clear hG4b hE4 hga4
    go_wp2_with fail
    refine HAA.out.mono ?_
    rintro e w5' ⟨x, rfl, hox, hb5⟩
    have HX5 := Lib.hid hox
    have HF5 := Lib.hid (HF4.out.trans' (Fr.of_below hb5))
    have HXL := Lib.hid (show ∀ k, x.ownBlock = some k → w4.heap.size ≤ k ∧ k < w5'.heap.size from fun k hk => World.ownsRow.lt hox k hk)
    have HT5 := Lib.hid (HT4.out.own (Fr.of_below hb5) (v := x) HXL.out (by omega))
    clear hox hb5 HAA HT4 HF4
    have hz5' : w1.heap.size ≤ w5'.heap.size := HF5.out.size
    obtain ⟨X5, M5a, M5b, hG5a, hG5b, hE5⟩ := HT5.out
    obtain ⟨rvb5, Bdb5, Mdb5, Pnb5, hgb5⟩ := hG5b
    have HAB := Lib.hid (gair_any hgb5 (by have := HIB.out.air; omega))
    clear hG5a hE5 hgb5
    go_wp2_with fail
    refine HAB.out.mono ?_
    rintro e w6' ⟨y, rfl, hoy, hb6⟩
    have HF6 := Lib.hid (HF5.out.trans' (Fr.of_below hb6))
    have HXL6 := Lib.hid (show ∀ k, x.ownBlock = some k → w4.heap.size ≤ k ∧ k < w5'.heap.size from HXL.out)
    have HYL := Lib.hid (show ∀ k, y.ownBlock = some k → w5'.heap.size ≤ k ∧ k < w6'.heap.size from fun k hk => World.ownsRow.lt hoy k hk)
    have HX6 := Lib.hid (show OwnWy w6' w4.heap.size x (Ca.air.map (·.1)) from (Fr.of_below (S := fun _ => False) hb6).row HX5.out (fun _ _ h => h))
    have HY6 := Lib.hid hoy
    have HT6 := Lib.hid (HT5.out.own (Fr.of_below hb6) (v := y) HYL.out (by have := HF5.out.size; omega))
    clear hoy hb6 HAB HT5 HF5 HX5
    have hla : (Ca.air.map (·.1)).length ≤ 288 := by rw [List.length_map]; have := HIA.out.air; omega
    have hlb : (Cb.air.map (·.1)).length ≤ 288 := by rw [List.length_map]; have := HIB.out.air; omega
    go_wp2_with fail
    refine (sort_ownW _ x _ w6' HX6.out (by omega)).mono ?_
    rintro e w7 ⟨rfl, hox, hg7⟩
    have hf7 : Fr (fun k => x.ownBlock = some k) w6' w7 := Fr.of_grown hg7 (fun k hk => .inl hk)
    have HT7 := Lib.hid (HT6.out.put hf7 (fun k hk => .inl (.inr hk)))
    have HX7 := Lib.hid hox
    have HY7 := Lib.hid (show OwnWy w7 w5'.heap.size y (Cb.air.map (·.1)) from hf7.row HY6.out (fun k hk e => by have := HYL.out k hk; have := HXL.out k e; omega))
    have HF7 := Lib.hid (show Fr (fun _ => False) w1 w7 from HF6.out.trans hf7 (fun k hk => .inr (by have := HXL.out k hk; omega)))
    clear hox hg7 hf7 HT6 HX6 HY6 HF6
    go_wp2_with fail
    refine (sort_ownW _ y _ w7 HY7.out (by omega)).mono ?_
    rintro e w8 ⟨rfl, hoy, hg8⟩
    have hf8 : Fr (fun k => y.ownBlock = some k) w7 w8 := Fr.of_grown hg8 (fun k hk => .inl hk)
    have HT8 := Lib.hid (HT7.out.put hf8 (fun k hk => .inr hk))
    have HY8 := Lib.hid hoy
    have HX8 := Lib.hid (show OwnWy w8 w4.heap.size x (srtW (Ca.air.map (·.1))) from hf8.row HX7.out (fun k hk e => by have := HYL.out k e; have := HXL.out k hk; omega))
    have HF8 := Lib.hid (show Fr (fun _ => False) w1 w8 from HF7.out.trans hf8 (fun k hk => .inr (by have := HYL.out k hk; omega)))
    clear hoy hg8 hf8 HT7 HX7 HY7 HF7 HXL6
    have HWE := Lib.hid (show srtW (Ca.air.map (·.1)) = srtW (Cb.air.map (·.1)) from srtW_eq (HLA.out.2.map _))
    have hlx : (srtW (Ca.air.map (·.1))).length ≤ 288 := by rw [srtW_len]; exact hla
    have HK8 := Lib.hid (HF8.out.cell HK1.out (fun h => h))
    have HSD := Lib.hid (show ∀ i, (Ca.nd i).said = (Cb.nd i).said from fun i => by have := HLA.out.1 i; exact congrArg NdS.said (congrArg RowS.nd this))
    clear hla hlb HK1
    obtain ⟨lx, hlxe⟩ : ∃ lx, srtW (Ca.air.map (·.1)) = lx := ⟨_, rfl⟩
    rw [hlxe] at HX8 hlx HWE
    rw [← HWE.out] at HY8
    clear hlxe HWE
    have HF0 := Lib.hid (Fr.refl (fun _ => False) w8)
    have hz8 : nb + 1 ≤ w8.heap.size := by have := HF8.out.size; omega
    have HB8 := Lib.hid (show Below nb W w8 from HB1.out.trans (HF8.out.below (fun _ h => h.elim) (by omega)))
    clear HF8 HB1
    go_wp2_with fail
    go_loopw [20, 21, 22, 23, 24] (fun v20 _ _ _ _ wr => ∃ i : Nat, i ≤ n ∧ v20 = .int .i64 ((i : Int) + 1) ∧ Hid (TwC nb 1000000000 wr bla pna Ca blb pnb Cb (fun k => (False ∨ x.ownBlock = some k) ∨ y.ownBlock = some k)) ∧ Hid (Fr (fun _ => False) w8 wr)) (fun v20 _ _ _ _ _ => n + 1 - (intOf v20).toNat)
    case atStart => exact ⟨0, Nat.zero_le _, rfl, HT8, HF0⟩
    case round =>
      clear HT8 HF0
      obtain ⟨i, hi, rfl, HT, HF⟩ := hrel
      have l0 := HF.out.cell HK8.out (fun h => h)
      by_cases hlt : i < n
      · have hd : decide ((i : Int) + 1 ≤ (n : Int)) = true := decide_eq_true (by omega)
        have HLT := Lib.hid hlt
        obtain ⟨X5, M5a, M5b, hG5a, hG5b, hE5⟩ := HT.out
        obtain ⟨rvb5, Bdb5, Mdb5, Pnb5, hg5⟩ := hG5a
        have HSA := Lib.hid (gsaid_any hg5 (i := i) (by rw [HIA.out.cn]; exact hlt) (by omega))
        clear hG5b hE5 hg5 hlt
        go_wp2_with fail
        refine HSA.out.mono ?_
        rintro e w9 ⟨As1, cs1, rfl, ho9, hb9⟩
        have HO9 := Lib.hid ho9
        have HF9 := Lib.hid (HF.out.trans' (Fr.of_below hb9))
        have HT9 := Lib.hid (HT.out.new (Fr.of_below hb9))
        clear ho9 hb9 HSA HT HF
        obtain ⟨X5, M5a, M5b, hG5a, hG5b, hE5⟩ := HT9.out
        obtain ⟨rvb5, Bdb5, Mdb5, Pnb5, hg5⟩ := hG5b
        have HSB := Lib.hid (gsaid_any hg5 (i := i) (by rw [HIB.out.cn]; exact HLT.out) (by omega))
        clear hG5a hE5 hg5
        go_wp2_with fail
        refine HSB.out.mono ?_
        rintro e w10 ⟨As2, cs2, rfl, ho10, hb10⟩
        rw [← HSD.out i] at ho10
        have HF10 := Lib.hid (HF9.out.trans' (Fr.of_below hb10))
        have HT10 := Lib.hid (HT9.out.new (Fr.of_below hb10))
        obtain ⟨A', c', hv', hc1, hc2, -⟩ := own_any HO9.out
        have HEQ := Lib.hid (equalSd_same As1 As2 _ (Cb.nd i).said.length cs1 cs2 (Ca.nd i).said w10 rfl (by rw [HSD.out i]) (by omega) (OwnSd.rd (c := cs1) (HO9.out.below hb10)).2 (OwnSd.rd ho10).2)
        clear ho10 hb10 HSB HT9 HF9 HO9 hv' hc1 hc2
        have l10 := HF10.out.cell HK8.out (fun h => h)
        go_wp2_with fail
        refine HEQ.out.mono ?_
        rintro e w11 ⟨rfl, hb11⟩
        have HF11 := Lib.hid (HF10.out.trans' (Fr.of_below hb11))
        have HT11 := Lib.hid (HT10.out.new (Fr.of_below hb11))
        clear hb11 HEQ HT10 HF10 l10
        go_wp2_with fail
        refine ⟨⟨i + 1, by have := HLT.out; omega, by go_num, HT11, HF11⟩, by have := HLT.out; simp [intOf]; omega⟩
      · obtain rfl : n = i := by omega
        have hd : decide ((n : Int) + 1 ≤ (n : Int)) = false := decide_eq_false (by omega)
        have hX := HF.out.row HX8.out (fun _ _ h => h)
        have hY := HF.out.row HY8.out (fun _ _ h => h)
        obtain ⟨Ax, cx, rfl, hx1, hx2, -⟩ := own_any hX
        obtain ⟨Ay, cy, rfl, hy1, hy2, -⟩ := own_any hY
        have HEQ := Lib.hid (equalW_same Ax Ay _ _ cx cy lx wr rfl rfl (by omega) (Rd.of_own (wyC_len lx) hX) (Rd.of_own (wyC_len lx) hY))
        have HBr := Lib.hid (HB8.out.trans (HF.out.below (fun _ h => h.elim) (by omega)))
        clear hX hY hx1 hx2 hy1 hy2 hi hlt HT HX8 HY8
        go_wp2_with fail
        refine HEQ.out.mono ?_
        rintro e w9 ⟨rfl, hb9⟩
        have HB9 := Lib.hid (HBr.out.trans (hb9.mono (by have := HF.out.size; omega)))
        clear hb9 HEQ
        go_wp2_with fail
        go_ret
        rw [HNB.out]
        exact ⟨rfl, HB9.out⟩
set_option maxRecDepth 100000 in
theorem topSwaps_walk {H : Type} {enc : TypeId × Value → H} (W : World) (base : Nat) (v0 v1 v2 v3 : Value) {d0 d1 d2 d3 : DataW H} {p0 p1 p2 p3 : List MemPlace}
    (k0 : Value.okWide Tryz.prog W .any base 3 v0) (k1 : Value.okWide Tryz.prog W .any base 31 v1) (k2 : Value.okWide Tryz.prog W .any base 31 v2) (k3 : Value.okWide Tryz.prog W .any base 31 v3)
    (h0 : DataW.Trod enc Tryz.prog W 0 (fun _ => true) true 3 v0 d0 p0) (h1 : DataW.Trod enc Tryz.prog W 0 (fun _ => true) true 31 v1 d1 p1) (h2 : DataW.Trod enc Tryz.prog W 0 (fun _ => true) true 31 v2 d2 p2) (h3 : DataW.Trod enc Tryz.prog W 0 (fun _ => true) true 31 v3 d3 p3) :
    Calls Tryz.prog 5 #[v0, v1, v2, v3] W fun e W' => e = .returned (.bool true) ∧ Below W.heap.size W W' := by
  obtain ⟨a0, rfl, _, _, _⟩ := ChangeShapes.open_int Tryz.underlying3 k0 h0
  obtain ⟨A, n, c, G, rfl, hnc, hcm, hA, hR, hwf⟩ := open_intsW k1 h1
  obtain ⟨As, ns, cs, F, rfl, hsc, hsm, hAs, hRs, hwfs⟩ := open_intsW k2 h2
  obtain ⟨Aw, nw, cw, S, rfl, hwc, hwm, _, hRw, _⟩ := open_intsW k3 h3
  exact topSwaps_go W a0 A n c G hnc hcm hA hR hwf As ns cs F hsc hsm hAs hRs hwfs Aw nw cw S hwc hwm hRw
end Go.Proofs.YthgbcgphkddmgaaGreat
