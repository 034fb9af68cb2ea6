/- The walk of the law TopGarbage. -/
import Derived.Test.YthgbcgphkddmgaaGreatZBN
namespace Go.Proofs.YthgbcgphkddmgaaGreat
open Go.RowKit
set_option linter.unusedVariables false
set_option linter.unusedSimpArgs false
set_option maxRecDepth 100000 in
set_option maxHeartbeats 16000000 in
theorem topGarbage_go (W : World) (nodes name : Int) (A : Option Addr) (n0 c : Nat) (Q : Nat → List Int) (hnc : n0 ≤ c) (hcm : c ≤ 9223372036854775807) (hA : A = none → n0 = 0) (hR : RdLs W (fun _ => True) A n0 Q) (B : Option Addr) (nf cf : Nat) (Ff : Nat → Bool) (hfm : nf ≤ 9223372036854775807) (hF : RdB W B nf Ff) :
    Calls Tryz.prog 3 #[.int .i64 nodes, .slice A n0 c, .slice B nf cf, .int .i64 name] W fun e w' => e = .returned (.bool true) ∧ Below W.heap.size W w' := by
  have HR := Lib.hid hR
  have HF := Lib.hid hF
  obtain ⟨r, hr⟩ : ∃ r, restK nodes 3 = r := ⟨_, rfl⟩
  have hr3 : r < 3 := by rw [← hr]; exact restK_lt nodes (by omega)
  obtain ⟨W1, hW1⟩ : ∃ W1, W1 = W.alloc (.cells #[.int .i64 nodes] 3) := ⟨_, rfl⟩
  have HRS := Lib.hid (show Calls Tryz.prog 6 #[.int .i64 nodes, .int .i64 3] (W.alloc (.cells #[.int .i64 nodes] 3)) fun e w' => e = .returned (.int .i64 (r : Int)) ∧ w' = W.alloc (.cells #[.int .i64 nodes] 3) from by rw [← hr]; exact restK_any nodes 3 _ (by omega) (by omega))
  clear hR hF hr hW1 W1
  go_enter Tryz.func3, Tryz.ntmps3
  go_wp2_with fail
  refine HRS.out.mono ?_
  rintro e w' ⟨rfl, rfl⟩
  have HCN := Lib.hid (show Calls Tryz.prog 7 #[.int .i64 (1 + (r : Int)), .iface 30 (.agg #[]), .int .i64 5] (W.alloc (.cells #[.int .i64 (1 + (r : Int))] 3)) (CNewP (1 + r) 5 (W.alloc (.cells #[.int .i64 (1 + (r : Int))] 3))) from cnew_any (1 + r) 5 _ (by omega) (by omega) (by omega) (by omega))
  have HCELL := Lib.hid (show (W.alloc (.cells #[.int .i64 (1 + (r : Int))] 3)).cell? ⟨W.heap.size, 0, none⟩ = some (.int .i64 (((1 + r : Nat)) : Int)) from by simp [go_sem])
  have HB1 := Lib.hid (show Below W.heap.size W (W.alloc (.cells #[.int .i64 (1 + (r : Int))] 3)) from (Below.refl _ _).alloc (Nat.le_refl _) _)
  clear HRS
  go_wp2_with fail
  refine HCN.out.mono ?_
  rintro e w2 ⟨bl, pn, rfl, hcq, hb2⟩
  obtain ⟨n, hn⟩ : ∃ n, 1 + r = n := ⟨_, rfl⟩
  have hn3 : okN3 n := by unfold okN3; omega
  rw [hn] at hcq HCELL
  have hs : (W.alloc (.cells #[.int .i64 (1 + (r : Int))] 3)).heap.size = W.heap.size + 1 := by simp
  rw [hs] at hcq hb2
  have HTC := Lib.hid (show TgC (W.heap.size + 1) w2 bl pn 10000 0 (newC n 5) (fun _ => False) from TgC.up ⟨_, _, hcq, fun _ h => h.elim⟩ (Nat.zero_le _))
  have HB2 := Lib.hid (show Below W.heap.size W w2 from HB1.out.trans (hb2.mono (by omega)))
  have HNB := Lib.hid (show w2.cell? ⟨W.heap.size, 0, none⟩ = some (.int .i64 (n : Int)) from (hb2.cell (p := ⟨W.heap.size, 0, none⟩) (by simp)).trans HCELL.out)
  have HN3 := Lib.hid hn3
  obtain ⟨m, hm⟩ : ∃ m, min n0 20 = m := ⟨_, rfl⟩
  have hmin : min (n0 : Int) 20 = (m : Int) := by omega
  have hmax : max (m : Int) 0 = (m : Int) := by omega
  have hm20 : m ≤ 20 ∧ m ≤ n0 := by omega
  have HM := Lib.hid hm
  clear HCN HCELL HB1 hcq hb2 hs hn hn3 hm
  by_cases hm0 : m = 0
  · subst hm0
    obtain ⟨X0, Mc0, ⟨vl0, M0, Pn0, hcq⟩, -⟩ := HTC.out
    have HCR := Lib.hid (crefs_any hcq)
    clear hcq
    go_wp2_with fail
    refine HCR.out.mono ?_
    rintro e w3 ⟨v, rfl, ho, hb3⟩
    have ho2 : OwnI w3 w2.heap.size v [] := by rw [← crefs_new n 5]; exact ho
    obtain ⟨A3, c3, rfl, -, -, -⟩ := own_any ho2
    have HB3 := Lib.hid (HB2.out.trans (hb3.mono HB2.out.size))
    clear ho ho2 hb3 HCR
    go_wp2_with fail
    go_ret
    exact ⟨rfl, HB3.out⟩
  · have hm1 : 1 ≤ m := by omega
    have hmb : ((m : Int) == 0) = false := by simp; omega
    obtain ⟨nb, hnb⟩ : ∃ nb, W.heap.size = nb := ⟨_, rfl⟩
    have hn1 : ¬ n = 0 := by rcases HN3.out with e | e | e <;> omega
    have hn3' : n ≤ 3 := by rcases HN3.out with e | e | e <;> omega
    rw [hnb] at HTC HNB ⊢
    have HNBE := Lib.hid hnb
    clear hnb
    go_wp2_with fail
    go_loopw [12, 13, 14, 16, 17, 18, 65] (fun _ _ _ _ _ _ v65 wr => ∃ (q : Nat) (C : CqS), q ≤ m ∧ v65 = .int .i64 (q : Int) ∧ Hid (TgC (nb + 1) wr bl pn 10000 0 C (fun _ => False)) ∧ Hid (TgQ n m Q q C) ∧ Hid (Below W.heap.size W wr) ∧ Hid (wr.cell? ⟨nb, 0, none⟩ = some (.int .i64 (n : Int)))) (fun _ _ _ _ _ _ v65 _ => m - (intOf v65).toNat)
    case atStart => exact ⟨0, newC n 5, Nat.zero_le _, rfl, HTC, Lib.hid (TgQ.start n m Q), HB2, HNB⟩
    case round =>
      clear HTC HB2 HNB
      obtain ⟨wo, hwo⟩ : ∃ wo : World, wo = wr := ⟨_, rfl⟩
      subst hwo
      obtain ⟨q, C, hq, rfl, HTC, HTQ, HB, HNB⟩ := hrel
      by_cases hlt : q < m
      · obtain ⟨b, off, rfl, hb, -, hcell⟩ := (HR.out.below HB.out) (by omega)
        obtain ⟨qA, qc, hcq, hq1, hq2, hq3, hRI⟩ := hcell q (by omega)
        have HRI := Lib.hid hRI
        have i1 : (0 : Int) ≤ (q : Int) := by omega
        have i2 : (q : Int) < (m : Int) := by omega
        obtain ⟨k4, hk4⟩ : ∃ k4, min (Q q).length 4 = k4 := ⟨_, rfl⟩
        obtain ⟨lq, hlq⟩ : ∃ lq, (Q q).length = lq := ⟨_, rfl⟩
        rw [hlq] at hcq hq1 hk4
        have HLQ := Lib.hid hlq
        have hmin4 : min (lq : Int) 4 = (k4 : Int) := by omega
        have hmax4 : max (k4 : Int) 0 = (k4 : Int) := by omega
        have hk49 : k4 ≤ 4 ∧ k4 ≤ lq := by omega
        have HK4 := Lib.hid hk4
        have HLT := Lib.hid hlt
        have hst : (stG n m (Q q)).length = k4 := by rw [stG_len, HLQ.out]; exact HK4.out
        have HST := Lib.hid hst
        clear hcell hRI hk4 hlq hlt hst
        go_wp2_with fail
        go_loopw [14, 16, 76] (fun v14 _ v76 wi => ∃ (j : Nat) (A4 : Option Addr) (c4 : Nat), j ≤ k4 ∧ v76 = .int .i64 (j : Int) ∧ v14 = .slice A4 j c4 ∧ Hid (wi.ownsRow wo.heap.size 36 4 (.slice A4 j c4) j (flatC (stC (stG n m (Q q))) j)) ∧ Hid (Fr (fun _ => False) wo wi)) (fun _ _ v76 _ => k4 - (intOf v76).toNat)
        case atStart => exact ⟨0, none, 0, Nat.zero_le _, rfl, rfl, Lib.hid (World.ownsRow_nil _ _ _ _), Lib.hid (Fr.refl _ _)⟩
        case round =>
          rename World => wi
          obtain ⟨j, A4, c4, hj, rfl, rfl, HO, HFi⟩ := hrel
          by_cases hlj : j < k4
          · obtain ⟨b2, off2, rfl, hb2, -, hc2⟩ := HRI.out (by rw [HLQ.out]; omega)
            have y0 := HFi.out.cell (hc2 j (by rw [HLQ.out]; omega)) (fun h => h)
            obtain ⟨x, hx⟩ : ∃ x, lst (Q q) j = x := ⟨_, rfl⟩
            rw [hx] at y0
            have j1 : (0 : Int) ≤ (j : Int) := by omega
            have j2 : (j : Int) < (k4 : Int) := by omega
            obtain ⟨t, ht⟩ : ∃ t, restK x m = t := ⟨_, rfl⟩
            have htm : t < m := by rw [← ht]; exact restK_lt x hm1
            have HRS := Lib.hid (show Calls Tryz.prog 6 #[.int .i64 x, .int .i64 (m : Int)] wi fun e w' => e = .returned (.int .i64 (t : Int)) ∧ w' = wi from by rw [← ht]; exact restK_any x m wi hm1 (by omega))
            have HRC := Lib.hid (refc_any n t nb wi HN3.out (by omega) (HFi.out.cell HNB.out (fun h => h)))
            have HSA := Lib.hid (show stN (stG n m (Q q)) j = (6, refG n t) from by rw [stG_at (by rw [HLQ.out, HK4.out]; exact hlj), hx, ht])
            obtain ⟨i0, hi0, jz0, jz1, jz2⟩ := info_parts infoV
            have HLJ := Lib.hid hlj
            clear hc2 hx ht htm hlj
            go_wp2_with fail
            refine HRS.out.mono ?_
            rintro e w' ⟨rfl, rfl⟩
            go_wp2_with fail
            refine HRC.out.mono ?_
            rintro e w3 ⟨rfl, hf3⟩
            have HF3 := Lib.hid hf3
            clear hf3 HRS HRC
            go_wp2_with fail
            refine (rvref_any _ w3).mono ?_
            rintro e w4 ⟨rfl, hf4⟩
            have HF4 := Lib.hid (HF3.out.trans' hf4)
            have HO4 := Lib.hid (HF4.out.row HO.out (fun _ _ h => h))
            have HZ4 := Lib.hid (show wo.heap.size ≤ w4.heap.size from Nat.le_trans HFi.out.size HF4.out.size)
            have hz4 := HZ4.out
            clear hf4
            go_wp2_with (at_builtin; go_loud (refine wpList_append_lies _ rfl _ _ 34 rfl wo.heap.size 36 i0 _ 4 56 Tryz.underlying34 hi0 jz0 jz1 jz2 rfl (by omega) (.slice A4 j c4) j (flatC (stC (stG n m (Q q))) j) rfl (HO4.out.alloc _) ⟨w4.heap.size, 0, none⟩ 1 1 [.int .i64 6, .int .i64 (refG n t), .string ⟨#[]⟩, .slice none 0 0] rfl rfl (cell_newL _ _ _ _ rfl) (by intro u hu; simp at hu; rcases hu with rfl | rfl | rfl | rfl <;> rfl) (by omega) (by unfold maxLen; omega) (by omega) (by simp; omega) (w4.heap.size + 1) (by simp) ?_; intro gn cn w7 hown7 hgrow7 hat7 hlt7; have HO7 := Lib.hid hown7; have HG7 := Lib.hid hgrow7; have HA7 := Lib.hid hat7; clear hown7 hgrow7 hat7 hlt7))
            go_roundw
            case rel =>
              refine ⟨j + 1, some ⟨gn, 0, none⟩, cn, by have := HLJ.out; omega, by go_num, rfl, Lib.hid ?_, Lib.hid ?_⟩
              · have e : flatC (stC (stG n m (Q q))) (j + 1) = flatC (stC (stG n m (Q q))) j ++ [.int .i64 6, .int .i64 (refG n t), .string ⟨#[]⟩, .slice none 0 0] := by
                  rw [flatC]
                  congr 1
                  unfold stC
                  rw [HSA.out]
                rw [e]
                exact HO7.out
              · exact (HFi.out.trans' HF4.out).trans (S2 := fun k => (Value.slice A4 j c4).ownBlock = some k) (((Fr.refl _ w4).alloc _).trans' (Fr.of_grown HG7.out (fun k hk => .inl hk))) (fun k hk => .inr (HO.out.lt k hk).1)
            case measure => have := HLJ.out; simp [intOf]; omega
          · obtain rfl : j = k4 := by omega
            have HTCi := Lib.hid (HTC.out.new HFi.out)
            obtain ⟨X, Mc, ⟨vl, M, Pn, hcq⟩, hE⟩ := HTCi.out
            obtain ⟨hmod, hhas, hfull, hsp9, href, hTQ⟩ := HTQ.out.next HN3.out (by omega) HLT.out
            have hst := stAt_row (l := stG n m (Q q)) (by rw [HST.out]; exact HO.out)
            have hpot := HTQ.out.pt (q % n) (Nat.lt_of_lt_of_eq hmod HTQ.out.s.cn)
            have hsp := cspawn_any hcq hmod sinkS (stG n m (Q q)) ⟨false, stG n m (Q q), 0, false, false, 0⟩ (fun _ => True) A4 c4 (by unfold makeN; rw [if_pos rfl]) (stG_ok HN3.out ⟨hm1, by omega⟩ (Q q)) hst hhas hfull hsp9 (by omega) (by omega) (by rw [HTQ.out.hn]; omega)
            have e1 : (1 + (q : Int) % (n : Int)) = ((q % n : Nat) : Int) + 1 := by rw [Int.natCast_emod]; omega
            obtain ⟨Cn, hCn⟩ : ∃ Cn : CqS, Cn = ⟨C.n, updN C.nd (q % n) (spawnN (C.nd (q % n)) sinkS (stG n m (Q q))).1, C.cnt, C.tab, fun x => C.held x || x == (C.nd (q % n)).id * 1000 + (C.nd (q % n)).spawned + 1, C.hn + 1⟩ := ⟨_, rfl⟩
            rw [← hCn] at hsp hTQ
            rw [href, HST.out, ← e1] at hsp
            have HSP := Lib.hid hsp
            have HTQ2 := Lib.hid hTQ
            have HCQ := Lib.hid hcq
            have b1 : (0 : Int) ≤ (q : Int) % (n : Int) := by rw [← Int.natCast_emod]; omega
            have b2 : (q : Int) % (n : Int) < 3 := by
              have := Nat.mod_lt q (show 0 < n by omega)
              rw [← Int.natCast_emod]; omega
            have nbi := HFi.out.cell HNB.out (fun h => h)
            have HBi := Lib.hid (HB.out.trans (HFi.out.below (fun _ h => h.elim) HB.out.size))
            have HE := Lib.hid hE
            clear hcq hmod hhas hfull hsp9 href hTQ hst hpot hsp e1 hCn hE
            go_wp2_with fail
            refine HSP.out.mono ?_
            rintro e w5 ⟨rfl, X5, Mc5, hg5, hc5⟩
            obtain ⟨ht5, hf5⟩ := TgC.call (E := fun _ => False) HCQ.out (fun k hk => HE.out k hk) hg5 hc5
            have HT5 := Lib.hid ht5
            have HNB5 := Lib.hid (hf5.cell nbi (fun h => by omega))
            have HB5 := Lib.hid (HBi.out.trans (hf5.below (fun k hk => by have := HNBE.out; omega) HBi.out.size))
            have HRC := Lib.hid (refc_any n q nb w5 HN3.out (by have := HLT.out; omega) HNB5.out)
            clear hg5 hc5 ht5 hf5 HSP HCQ HE nbi
            go_wp2_with fail
            refine HRC.out.mono ?_
            rintro e w6 ⟨rfl, hf6⟩
            have HT6 := Lib.hid (HT5.out.new hf6)
            have HNB6 := Lib.hid (hf6.cell HNB5.out (fun h => h))
            have HB6 := Lib.hid (HB5.out.trans (hf6.below (fun _ h => h.elim) HB5.out.size))
            clear hf6 HRC
            go_wp2_with fail
            go_roundw
            case rel => exact ⟨q + 1, Cn, by have := HLT.out; omega, by go_num, HT6, HTQ2, HB6, HNB6⟩
            case measure => have := HLT.out; simp [intOf]; omega
      · obtain rfl : q = m := by omega
        have HTF := Lib.hid HTQ.out.fix
        have HTS := Lib.hid (HTQ.out.s.weak (g := frT 0) (fun k _ => by unfold frT; simp))
        clear HTQ hq hlt
        go_wp2_with fail
        go_loopw [19, 20, 21] (fun v19 _ _ wr => ∃ (i : Nat) (C : CqS) (ll : Nat), i ≤ n ∧ v19 = .int .i64 ((i : Int) + 1) ∧ ll ≤ 40 * i ∧ Hid (TgC (nb + 1) wr bl pn (10000 + 60000000 * (40 * i)) ll C (fun _ => False)) ∧ Hid (TgS C n q Q (ixN n q) (frT i)) ∧ Hid (TgF n q C) ∧ Hid (Below W.heap.size W wr) ∧ Hid (wr.cell? ⟨nb, 0, none⟩ = some (.int .i64 (n : Int)))) (fun v19 _ _ _ => n + 1 - (intOf v19).toNat)
        case atStart => exact ⟨0, C, 0, Nat.zero_le _, rfl, Nat.zero_le _, HTC, HTS, HTF, HB, HNB⟩
        case round =>
          clear HTC HTS HTF HB HNB
          rename World => wt
          obtain ⟨i, C, ll, hi, rfl, hll, HTC, HTS, HTF, HB, HNB⟩ := hrel
          have nb1 := HNB.out
          by_cases hlt : i < n
          · have hd : decide ((i : Int) + 1 ≤ (n : Int)) = true := decide_eq_true (by omega)
            have HLT := Lib.hid hlt
            go_wp2_with fail
            go_loopw [20, 21, 116] (fun _ _ v116 wr => ∃ (t : Nat) (C : CqS) (l2 : Nat), t ≤ 40 ∧ v116 = .int .i64 (t : Int) ∧ l2 ≤ 40 * i + t ∧ Hid (TgC (nb + 1) wr bl pn (10000 + 60000000 * (40 * i + t)) l2 C (fun _ => False)) ∧ Hid (TgS C n q Q (ixN n q) (updN (frT i) i (20 - t))) ∧ Hid (TgF n q C) ∧ Hid (Below W.heap.size W wr) ∧ Hid (wr.cell? ⟨nb, 0, none⟩ = some (.int .i64 (n : Int)))) (fun _ _ v116 _ => 40 - (intOf v116).toNat)
            case atStart => exact ⟨0, C, ll, Nat.zero_le _, rfl, hll, HTC, Lib.hid (HTS.out.weak (fun k hk => by by_cases e : k = i; (· subst e; rw [updN_self]; unfold frT; simp); (· rw [updN_ne _ _ e]; exact Nat.le_refl _))), HTF, HB, HNB⟩
            case round =>
              clear HTC HTS HTF HB HNB nb1
              rename World => wu
              obtain ⟨t, C, l2, ht, rfl, hl2, HTC, HTS, HTF, HB, HNB⟩ := hrel
              by_cases ht40 : t < 40
              · obtain ⟨X, Mc, ⟨vl, M, Pn, hcq⟩, hE⟩ := HTC.out
                obtain ⟨hout, hid, htn⟩ := HTS.out.turn HLT.out
                have hin : i < C.n := Nat.lt_of_lt_of_eq HLT.out HTS.out.cn.symm
                have HTU := Lib.hid (cturn_any hcq hin hout hid (by omega) (by omega))
                have HCQ := Lib.hid hcq
                have HE := Lib.hid hE
                rcases htn with ⟨he, hS⟩ | ⟨he, hf1, hS⟩
                · have hS2 := hS ⟨C.n, updN C.nd i (turnN (C.nd i)).1, C.cnt, C.tab, C.held, C.hn⟩ rfl rfl
                  have HS2 := Lib.hid (hS2.weak (g := frT (i + 1)) (fun k hk => by
                    by_cases e : k = i
                    · subst e; rw [updN_self]; exact Nat.zero_le _
                    · rw [updN_ne _ _ e, updN_ne _ _ e]
                      unfold frT
                      split <;> split <;> omega))
                  have HERR := Lib.hid he
                  clear hcq hE hout hid hin he hS hS2
                  go_wp2_with fail
                  refine HTU.out.mono ?_
                  rintro e w5 ⟨⟨rr, rfl⟩, X5, Mc5, l5, hl5, hg5, hc5⟩
                  rw [HERR.out]
                  obtain ⟨ht5, hf5⟩ := TgC.call (E := fun _ => False) HCQ.out (fun k hk => HE.out k hk) hg5 hc5
                  have HT5 := Lib.hid ht5
                  have HNB5 := Lib.hid (hf5.cell HNB.out (fun h => by omega))
                  have HB5 := Lib.hid (HB.out.trans (hf5.below (fun k hk => by have := HNBE.out; omega) HB.out.size))
                  clear hg5 hc5 ht5 hf5 HTU HCQ HE
                  go_wp2_with fail
                  go_roundw
                  case rel => exact ⟨i + 1, _, l5, by have := HLT.out; omega, by go_num, by omega, Lib.hid (HT5.out.up (by omega)), HS2, Lib.hid ⟨HTF.out.cnt, HTF.out.tab, HTF.out.hn, HTF.out.held⟩, HB5, HNB5⟩
                  case measure => have := HLT.out; simp [intOf]; omega
                · have hS2 := hS ⟨C.n, updN C.nd i (turnN (C.nd i)).1, C.cnt, C.tab, C.held, C.hn⟩ rfl rfl
                  have HS2 := Lib.hid (hS2.weak (g := updN (frT i) i (20 - (t + 1))) (fun k hk => by
                    by_cases e : k = i
                    · subst e; rw [updN_self, updN_self, updN_self]; omega
                    · rw [updN_ne _ _ e, updN_ne _ _ e, updN_ne _ _ e]
                      exact Nat.le_refl _))
                  have HERR := Lib.hid he
                  skip
                  clear hcq hE hout hid hin he hS hS2 hf1
                  go_wp2_with fail
                  refine HTU.out.mono ?_
                  rintro e w5 ⟨⟨rr, rfl⟩, X5, Mc5, l5, hl5, hg5, hc5⟩
                  rw [HERR.out]
                  obtain ⟨ht5, hf5⟩ := TgC.call (E := fun _ => False) HCQ.out (fun k hk => HE.out k hk) hg5 hc5
                  have HT5 := Lib.hid ht5
                  have HNB5 := Lib.hid (hf5.cell HNB.out (fun h => by omega))
                  have HB5 := Lib.hid (HB.out.trans (hf5.below (fun k hk => by have := HNBE.out; omega) HB.out.size))
                  clear hg5 hc5 ht5 hf5 HTU HCQ HE
                  go_wp2_with fail
                  go_roundw
                  case rel => exact ⟨t + 1, _, l5, by omega, by go_num, by omega, Lib.hid (HT5.out.up (by omega)), HS2, Lib.hid ⟨HTF.out.cnt, HTF.out.tab, HTF.out.hn, HTF.out.held⟩, HB5, HNB5⟩
                  case measure => simp [intOf]; omega
              · obtain rfl : t = 40 := by omega
                have HS2 := Lib.hid (HTS.out.weak (g := frT (i + 1)) (fun k hk => by
                    by_cases e : k = i
                    · subst e; rw [updN_self]; exact Nat.zero_le _
                    · rw [updN_ne _ _ e]
                      unfold frT
                      split <;> split <;> omega))
                go_wp2_with fail
                go_roundw
                case rel => exact ⟨i + 1, C, l2, by have := HLT.out; omega, by go_num, by omega, Lib.hid (HTC.out.up (by omega)), HS2, HTF, HB, HNB⟩
                case measure => have := HLT.out; simp [intOf]; omega
          · have hd : decide ((i : Int) + 1 ≤ (n : Int)) = false := decide_eq_false (by omega)
            obtain rfl : i = n := by omega
            have HTS := Lib.hid (HTS.out.weak (g := fun _ => 0) (fun k hk => by unfold frT; rw [if_pos hk]; exact Nat.le_refl _))
            obtain ⟨t, ht⟩ : ∃ t, restK name q = t := ⟨_, rfl⟩
            have htm : t < q := by rw [← ht]; exact restK_lt name hm1
            have HRS := Lib.hid (show Calls Tryz.prog 6 #[.int .i64 name, .int .i64 (q : Int)] wt fun e w' => e = .returned (.int .i64 (t : Int)) ∧ w' = wt from by rw [← ht]; exact restK_any name q wt hm1 (by omega))
            have HRC := Lib.hid (refc_any i t nb wt HN3.out (by omega) HNB.out)
            have HTM := Lib.hid htm
            clear ht htm hlt hi
            go_wp2_with fail
            refine HRS.out.mono ?_
            rintro e w' ⟨rfl, rfl⟩
            go_wp2_with fail
            refine HRC.out.mono ?_
            rintro e w3 ⟨rfl, hf3⟩
            have HTC3 := Lib.hid (HTC.out.new hf3)
            have HNB3 := Lib.hid (hf3.cell HNB.out (fun h => h))
            have HB3 := Lib.hid (HB.out.trans (hf3.below (fun _ h => h.elim) HB.out.size))
            obtain ⟨X, Mc, ⟨vl, M, Pn, hcq⟩, hE⟩ := HTC3.out
            have h0n : 0 < C.n := by rw [HTS.out.cn]; omega
            have hnm := cname_any hcq h0n (refG i t) (by have := refG_pos (n := i) (i := t); omega) (by rw [HTF.out.cnt]; exact Int.le_refl _) (by rw [HTF.out.cnt]; decide)
            rw [HTF.out.cnt, HTF.out.tab] at hnm
            have HNM := Lib.hid (show Calls Tryz.prog 13 #[.pointer (some ⟨bl .P, 0, none⟩), .int .i64 1, .string ⟨#[111, 110, 101]⟩, .int .i64 (refG i t)] w3 _ from hnm)
            have HCQ := Lib.hid hcq
            have HE := Lib.hid hE
            clear hf3 hcq hE h0n hnm HRS HRC HTC HB HNB
            go_wp2_with fail
            refine HNM.out.mono ?_
            rintro e w5 ⟨rfl, X5, Mc5, hg5, hc5⟩
            obtain ⟨ht5, hf5⟩ := TgC.call (E := fun _ => False) HCQ.out (fun k hk => HE.out k hk) hg5 hc5
            have HT5 := Lib.hid ht5
            have HNB5 := Lib.hid (hf5.cell HNB3.out (fun h => by omega))
            have HB5 := Lib.hid (HB3.out.trans (hf5.below (fun k hk => by have := HNBE.out; omega) HB3.out.size))
            obtain ⟨w6, hmk, hbo, hf6, hz6⟩ := make_bools w5 q (by omega)
            obtain ⟨ab, hab⟩ : ∃ ab, w5.heap.size = ab := ⟨_, rfl⟩
            have HT6 := Lib.hid (HT5.out.own hf6 (q := ab) (by omega) (by omega) HT5.out.sz)
            have HNB6 := Lib.hid (hf6.cell HNB5.out (fun h => h))
            have HB6 := Lib.hid (HB5.out.trans (hf6.below (fun _ h => h.elim) HB5.out.size))
            have HSA := Lib.hid (show nb + 1 ≤ ab from by rw [← hab]; exact HT5.out.sz)
            rw [hab] at hmk hbo
            have HBO := Lib.hid hbo
            have hac := hbo.c t HTM.out
            have haf := hbo.fz
            have hal := hbo.lt
            have t1 : (0 : Int) ≤ (t : Int) := by omega
            have t2 : (t : Int) < (q : Int) := by have := HTM.out; omega
            have HTS5 := Lib.hid (show TgS ⟨C.n, C.nd, updN C.cnt 0 (C.cnt 0 + 1), updN C.tab 0 (Nm.updT (C.tab 0) 3 ⟨refG i t, C.cnt 0 + 1, ((0 : Nat) : Int) + 1⟩), C.held, C.hn⟩ i q Q (ixN i q) (fun _ => 0) from ⟨HTS.out.cn, HTS.out.nd, HTS.out.mix⟩)
            have HTH5 := Lib.hid (show TgH i q nf Ff t 0 ⟨C.n, C.nd, updN C.cnt 0 (C.cnt 0 + 1), updN C.tab 0 (Nm.updT (C.tab 0) 3 ⟨refG i t, C.cnt 0 + 1, ((0 : Nat) : Int) + 1⟩), C.held, C.hn⟩ from ⟨⟨_, _, by rw [HTF.out.tab]⟩, HTF.out.hn, fun j hj => by show C.held _ = _; rw [HTF.out.held j hj]; simp⟩)
            rw [HTF.out.cnt, HTF.out.tab] at HTS5 HTH5
            obtain ⟨C5, hC5⟩ : ∃ C5 : CqS, C5 = ⟨C.n, C.nd, updN (fun _ => 0) 0 ((fun _ => 0) 0 + 1), updN (fun _ _ => none) 0 (Nm.updT ((fun _ _ => none) 0) 3 ⟨refG i t, (fun _ => 0) 0 + 1, ((0 : Nat) : Int) + 1⟩), C.held, C.hn⟩ := ⟨_, rfl⟩
            obtain ⟨T5, hT5⟩ : ∃ T5, 10000 + 60000000 * (40 * i) = T5 := ⟨_, rfl⟩
            have HTB := Lib.hid (show T5 ≤ 10000000000 by omega)
            have HT7 := Lib.hid (show TgC (nb + 1) (w6.setCell ⟨ab, t, none⟩ (.bool true)) bl pn T5 ll C5 (fun k => k = ab) from by rw [hC5, ← hT5]; exact (HT6.out.less (fun k hk => .inr hk)).put (Fr.setAt (Fr.refl _ w6) _))
            rw [← hC5] at HTS5 HTH5
            have HBO7 := Lib.hid (show BoolAt (w6.setCell ⟨ab, t, none⟩ (.bool true)) ab q (al0 nf Ff t 0) from (HBO.out.set HTM.out true).congr (fun j _ => by
              unfold al0
              by_cases e : j = t
              · subst e; simp
              · have e2 : (j == t) = false := by simpa using e
                rw [e2]
                simp [e]))
            have HNB7 := Lib.hid (show (w6.setCell ⟨ab, t, none⟩ (.bool true)).cell? ⟨nb, 0, none⟩ = some (.int .i64 (i : Int)) from ((Fr.setAt (Fr.refl (fun k => k = ab) w6) (.bool true)).cell HNB6.out (by have := HSA.out; omega)))
            have HB7 := Lib.hid (show Below W.heap.size W (w6.setCell ⟨ab, t, none⟩ (.bool true)) from HB6.out.trans ((Fr.setAt (Fr.refl (fun k => k = ab) w6) (.bool true)).below (fun k hk => by have := HSA.out; have := HNBE.out; omega) HB6.out.size))
            clear hg5 hc5 ht5 hf5 HNM HCQ HE HTC3 HNB3 HB3 hf6 hbo hz6 hab hC5 hT5 HTS HTF
            go_wp2_with fail
            obtain ⟨w7, hw7⟩ : ∃ w7, w7 = w6.setCell ⟨ab, t, none⟩ (.bool true) := ⟨_, rfl⟩
            rw [← hw7] at HT7 HBO7 HNB7 HB7 ⊢
            clear hw7 HT6 HNB6 HB6 HBO hac haf hal hmk HT5 HNB5 HB5
            go_loopw [23, 145] (fun _ v145 wr => ∃ (k : Nat) (C : CqS), k ≤ q ∧ v145 = .int .i64 (k : Int) ∧ Hid (TgC (nb + 1) wr bl pn T5 ll C (fun k => k = ab)) ∧ Hid (TgS C i q Q (ixN i q) (fun _ => 0)) ∧ Hid (TgH i q nf Ff t k C) ∧ Hid (BoolAt wr ab q (al0 nf Ff t k)) ∧ Hid (Below W.heap.size W wr) ∧ Hid (wr.cell? ⟨nb, 0, none⟩ = some (.int .i64 (i : Int)))) (fun _ v145 _ => q - (intOf v145).toNat)
            case atStart => exact ⟨0, C5, Nat.zero_le _, rfl, HT7, HTS5, HTH5, HBO7, HB7, HNB7⟩
            case round =>
              clear HT7 HTS5 HTH5 HBO7 HB7 HNB7
              rename World => wr
              obtain ⟨k, C, hk, rfl, HTC, HTS, HTH, HBO, HB, HNB⟩ := hrel
              by_cases hlt : k < q
              · have HLT := Lib.hid hlt
                have hac := HBO.out.c k hlt
                have haf := HBO.out.fz
                have hal := HBO.out.lt
                have k1 : (0 : Int) ≤ (k : Int) := by omega
                have k2 : (k : Int) < (q : Int) := by omega
                have HSTO := Lib.hid (show frd nf Ff k = false → TgC (nb + 1) (wr.setCell ⟨ab, k, none⟩ (.bool true)) bl pn T5 ll C (fun k => k = ab) ∧ TgH i q nf Ff t (k + 1) C ∧ BoolAt (wr.setCell ⟨ab, k, none⟩ (.bool true)) ab q (al0 nf Ff t (k + 1)) ∧ Below W.heap.size W (wr.setCell ⟨ab, k, none⟩ (.bool true)) ∧ (wr.setCell ⟨ab, k, none⟩ (.bool true)).cell? ⟨nb, 0, none⟩ = some (.int .i64 (i : Int)) from fun hf =>
                  ⟨HTC.out.put (Fr.setAt (Fr.refl _ wr) _), HTH.out.skip hf, (HBO.out.set hlt true).congr (fun j _ => (al0_set (m := q) hf j).symm), HB.out.trans ((Fr.setAt (Fr.refl (fun k => k = ab) wr) (.bool true)).below (fun k hk => by have := HSA.out; have := HNBE.out; omega) HB.out.size), (Fr.setAt (Fr.refl (fun k => k = ab) wr) (.bool true)).cell HNB.out (by have := HSA.out; omega)⟩)
                by_cases hkf : k < nf
                · obtain ⟨b2, off2, rfl, hbc⟩ := HF.out.at HB.out hkf
                  have HKF := Lib.hid hkf
                  rcases hfk : Ff k with _ | _
                  · rw [hfk] at hbc
                    have hfr : frd nf Ff k = false := by unfold frd; rw [hfk, Bool.and_false]
                    obtain ⟨s1, s2, s3, s4, s5⟩ := HSTO.out hfr
                    have H1 := Lib.hid s1
                    have H2 := Lib.hid s2
                    have H3 := Lib.hid s3
                    have H4 := Lib.hid s4
                    have H5 := Lib.hid s5
                    clear s1 s2 s3 s4 s5 hfk hfr HSTO
                    go_wp2_with fail
                    go_roundw
                    case rel => exact ⟨k + 1, C, by have := HLT.out; omega, by go_num, H1, HTS, H2, H3, H4, H5⟩
                    case measure => have := HLT.out; simp [intOf]; omega
                  · rw [hfk] at hbc
                    have hfr : frd nf Ff k = true := by unfold frd; rw [hfk, decide_eq_true hkf]; rfl
                    have HFR := Lib.hid hfr
                    have HRC := Lib.hid (refc_any i k nb wr HN3.out (by omega) HNB.out)
                    clear hfk hfr HSTO
                    go_wp2_with fail
                    refine HRC.out.mono ?_
                    rintro e w3 ⟨rfl, hf3⟩
                    have HTC3 := Lib.hid (HTC.out.new hf3)
                    have HNB3 := Lib.hid (hf3.cell HNB.out (fun h => h))
                    have HB3 := Lib.hid (HB.out.trans (hf3.below (fun _ h => h.elim) HB.out.size))
                    have HBO3 := Lib.hid (HBO.out.fr hf3 (fun h => h))
                    obtain ⟨X, Mc, ⟨vl, M, Pn, hcq⟩, hE⟩ := HTC3.out
                    have HFE := Lib.hid (cfree_any hcq (refG i k) (refG_wf HN3.out (by have := HLT.out; omega)))
                    have HCQ := Lib.hid hcq
                    have HE := Lib.hid hE
                    clear hf3 hcq hE HRC
                    go_wp2_with fail
                    refine HFE.out.mono ?_
                    rintro e w5 ⟨rfl, X5, Mc5, hg5, hc5⟩
                    obtain ⟨ht5, hf5⟩ := TgC.call (E := fun k => k = ab) HCQ.out (fun k hk => HE.out k hk) hg5 hc5
                    have HT5 := Lib.hid ht5
                    have HNB5 := Lib.hid (hf5.cell HNB3.out (fun h => by omega))
                    have HB5 := Lib.hid (HB3.out.trans (hf5.below (fun k hk => by have := HNBE.out; omega) HB3.out.size))
                    have HBO5 := Lib.hid ((HBO3.out.fr hf5 (fun h => h.2 rfl)).congr (G := al0 nf Ff t (k + 1)) (fun j _ => al0_skip HFR.out j))
                    have HTH5 := Lib.hid (HTH.out.free HN3.out (by omega) HLT.out HFR.out)
                    have HTS5 := Lib.hid (show TgS ⟨C.n, C.nd, C.cnt, C.tab, fun x => C.held x && !(x == refG i k), C.hn⟩ i q Q (ixN i q) (fun _ => 0) from ⟨HTS.out.cn, HTS.out.nd, HTS.out.mix⟩)
                    clear hg5 hc5 ht5 hf5 HFE HCQ HE HTC3 HNB3 HB3 HBO3
                    go_wp2_with fail
                    go_roundw
                    case rel => exact ⟨k + 1, _, by have := HLT.out; omega, by go_num, HT5, HTS5, HTH5, HBO5, HB5, HNB5⟩
                    case measure => have := HLT.out; simp [intOf]; omega
                · have hfr : frd nf Ff k = false := by unfold frd; rw [decide_eq_false hkf]; rfl
                  obtain ⟨s1, s2, s3, s4, s5⟩ := HSTO.out hfr
                  have H1 := Lib.hid s1
                  have H2 := Lib.hid s2
                  have H3 := Lib.hid s3
                  have H4 := Lib.hid s4
                  have H5 := Lib.hid s5
                  clear s1 s2 s3 s4 s5 hfr HSTO
                  go_wp2_with fail
                  go_roundw
                  case rel => exact ⟨k + 1, C, by have := HLT.out; omega, by go_num, H1, HTS, H2, H3, H4, H5⟩
                  case measure => have := HLT.out; simp [intOf]; omega
              · obtain rfl : q = k := by omega
                obtain ⟨w8, hw8⟩ : ∃ w8 : World, w8 = wr := ⟨_, rfl⟩
                subst hw8
                obtain ⟨A0, hA0⟩ : ∃ A0, al0 nf Ff t q = A0 := ⟨_, rfl⟩
                rw [hA0] at HBO
                have HA0 := Lib.hid hA0
                clear hA0 hk hlt
                go_wp2_with fail
                go_loopw [24, 25, 27, 169] (fun _ _ _ v169 wr => ∃ (j : Nat), j ≤ q ∧ v169 = .int .i64 (j : Int) ∧ Hid (BoolAt wr ab q (Tg.itA (fun i => tgt q (Q i)) q j A0)) ∧ Hid (Fr (fun k => k = ab) w8 wr)) (fun _ _ _ v169 _ => q - (intOf v169).toNat)
                case atStart => exact ⟨0, Nat.zero_le _, rfl, HBO, Lib.hid (Fr.refl _ _)⟩
                case round =>
                  clear HBO
                  rename World => w9
                  obtain ⟨j, hj, rfl, HBO, HF9⟩ := hrel
                  by_cases hlt : j < q
                  · have HLT := Lib.hid hlt
                    have j1 : (0 : Int) ≤ (j : Int) := by omega
                    have j2 : (j : Int) < (q : Int) := by omega
                    go_wp2_with fail
                    obtain ⟨A1, hA1⟩ : ∃ A1, Tg.itA (fun i => tgt q (Q i)) q j A0 = A1 := ⟨_, rfl⟩
                    rw [hA1] at HBO
                    have HA1 := Lib.hid hA1
                    clear hA1
                    go_loopw [24, 25, 27, 173] (fun _ _ _ v173 wr => ∃ (i2 : Nat), i2 ≤ q ∧ v173 = .int .i64 (i2 : Int) ∧ Hid (BoolAt wr ab q (Tg.rndA (fun i => tgt q (Q i)) i2 A1)) ∧ Hid (Fr (fun k => k = ab) w8 wr)) (fun _ _ _ v173 _ => q - (intOf v173).toNat)
                    case atStart => exact ⟨0, Nat.zero_le _, rfl, HBO, HF9⟩
                    case round =>
                      clear HBO HF9
                      rename World => wa
                      obtain ⟨i2, hi2, rfl, HBO, HFa⟩ := hrel
                      by_cases hlt2 : i2 < q
                      · have HLT2 := Lib.hid hlt2
                        have HBW := Lib.hid (show Below W.heap.size W wa from HB.out.trans (HFa.out.below (fun k hk => by have := HSA.out; have := HNBE.out; omega) HB.out.size))
                        obtain ⟨b, off, rfl, hb, -, hcell⟩ := HR.out (by omega)
                        obtain ⟨qA, qc, hcq0, hq1, hq2, hq3, hRI⟩ := hcell i2 (by omega)
                        have hcq := (HBW.out.cell (p := ⟨b, off + i2, none⟩) hb).trans hcq0
                        clear hcq0
                        have HRI := Lib.hid hRI
                        have i1 : (0 : Int) ≤ (i2 : Int) := by omega
                        have i2' : (i2 : Int) < (q : Int) := by omega
                        obtain ⟨k4, hk4⟩ : ∃ k4, min (Q i2).length 4 = k4 := ⟨_, rfl⟩
                        obtain ⟨lq, hlq⟩ : ∃ lq, (Q i2).length = lq := ⟨_, rfl⟩
                        rw [hlq] at hcq hq1 hk4
                        have HLQ := Lib.hid hlq
                        have hmin4 : min (lq : Int) 4 = (k4 : Int) := by omega
                        have hmax4 : max (k4 : Int) 0 = (k4 : Int) := by omega
                        have hk49 : k4 ≤ 4 ∧ k4 ≤ lq := by omega
                        have HK4 := Lib.hid hk4
                        obtain ⟨A2, hA2⟩ : ∃ A2, Tg.rndA (fun i => tgt q (Q i)) i2 A1 = A2 := ⟨_, rfl⟩
                        rw [hA2] at HBO
                        have HA2 := Lib.hid hA2
                        clear hcell hRI hk4 hlq hA2 hb
                        go_wp2_with fail
                        go_loopw [27, 184] (fun _ v184 wr => ∃ (p : Nat), p ≤ k4 ∧ v184 = .int .i64 (p : Int) ∧ Hid (BoolAt wr ab q (Tg.rowA i2 ((tgt q (Q i2)).take p) A2)) ∧ Hid (Fr (fun k => k = ab) wa wr)) (fun _ v184 _ => k4 - (intOf v184).toNat)
                        case atStart => exact ⟨0, Nat.zero_le _, rfl, HBO, Lib.hid (Fr.refl _ _)⟩
                        case round =>
                          clear HBO
                          rename World => wb
                          obtain ⟨p, hp, rfl, HBO, HFb⟩ := hrel
                          by_cases hlp : p < k4
                          · obtain ⟨b2, off2, rfl, hb2, -, hc2⟩ := HRI.out (by rw [HLQ.out]; omega)
                            obtain ⟨x, hx⟩ : ∃ x, lst (Q i2) p = x := ⟨_, rfl⟩
                            obtain ⟨u, hu⟩ : ∃ u, restK x q = u := ⟨_, rfl⟩
                            have hum : u < q := by rw [← hu]; exact restK_lt x hm1
                            have HBX := Lib.hid (show Below W.heap.size W wb from HBW.out.trans (HFb.out.below (fun k hk => by have := HSA.out; have := HNBE.out; omega) HBW.out.size))
                            have y0 := (HBX.out.cell (p := ⟨b2, off2 + p, none⟩) hb2).trans (hc2 p (by rw [HLQ.out]; omega))
                            rw [hx] at y0
                            obtain ⟨A3, hA3⟩ : ∃ A3, Tg.rowA i2 ((tgt q (Q i2)).take p) A2 = A3 := ⟨_, rfl⟩
                            rw [hA3] at HBO
                            have HUP := Lib.hid (show Tg.rowA i2 ((tgt q (Q i2)).take (p + 1)) A2 = Tg.upA A3 i2 u from by rw [rowA_take (by rw [HLQ.out, HK4.out]; exact hlp), hx, hu, hA3])
                            have HRS := Lib.hid (show Calls Tryz.prog 6 #[.int .i64 x, .int .i64 (q : Int)] wb fun e w' => e = .returned (.int .i64 (u : Int)) ∧ w' = wb from by rw [← hu]; exact restK_any x q wb hm1 (by omega))
                            have ac1 := HBO.out.c u hum
                            have ac2 := HBO.out.c i2 hlt2
                            have haf := HBO.out.fz
                            have hal := HBO.out.lt
                            have p1 : (0 : Int) ≤ (p : Int) := by omega
                            have p2 : (p : Int) < (k4 : Int) := by omega
                            have u1 : (0 : Int) ≤ (u : Int) := by omega
                            have u2 : (u : Int) < (q : Int) := by omega
                            have HLP := Lib.hid hlp
                            obtain ⟨va, hva⟩ : ∃ va, A3 u = va := ⟨_, rfl⟩
                            obtain ⟨vb, hvb⟩ : ∃ vb, A3 i2 = vb := ⟨_, rfl⟩
                            have HST := Lib.hid (show ∀ z, z = (va || vb) → BoolAt (wb.setCell ⟨ab, u, none⟩ (.bool z)) ab q (Tg.upA A3 i2 u) ∧ Fr (fun k => k = ab) wa (wb.setCell ⟨ab, u, none⟩ (.bool z)) from fun z hz => ⟨(HBO.out.set hum z).congr (fun j _ => by
                              unfold Tg.upA
                              rw [hz, hva, hvb]), Fr.setAt HFb.out _⟩)
                            rw [hva] at ac1
                            rw [hvb] at ac2
                            clear hc2 hx hu hum hA3 hlp hva hvb hb2
                            rcases va with _ | _
                            · go_wp2_with fail
                              refine HRS.out.mono ?_
                              rintro e w' ⟨rfl, rfl⟩
                              go_wp2_with fail
                              refine HRS.out.mono ?_
                              rintro e w' ⟨rfl, rfl⟩
                              go_wp2_with fail
                              go_roundw
                              case rel =>
                                obtain ⟨s1, s2⟩ := HST.out vb (by rw [Bool.false_or])
                                exact ⟨p + 1, by have := HLP.out; omega, by go_num, Lib.hid (by rw [HUP.out]; exact s1), Lib.hid s2⟩
                              case measure => have := HLP.out; simp [intOf]; omega
                            · go_wp2_with fail
                              refine HRS.out.mono ?_
                              rintro e w' ⟨rfl, rfl⟩
                              go_wp2_with fail
                              refine HRS.out.mono ?_
                              rintro e w' ⟨rfl, rfl⟩
                              go_wp2_with fail
                              go_roundw
                              case rel =>
                                obtain ⟨s1, s2⟩ := HST.out true (by rw [Bool.true_or])
                                exact ⟨p + 1, by have := HLP.out; omega, by go_num, Lib.hid (by rw [HUP.out]; exact s1), Lib.hid s2⟩
                              case measure => have := HLP.out; simp [intOf]; omega
                          · obtain rfl : k4 = p := by omega
                            go_wp2_with fail
                            go_roundw
                            case rel => exact ⟨i2 + 1, by have := HLT2.out; omega, by go_num, Lib.hid (by have := HBO.out; rw [← HK4.out, ← HLQ.out, tgt_take, ← HA2.out] at this; exact this), Lib.hid (HFa.out.trans' HFb.out)⟩
                            case measure => have := HLT2.out; simp [intOf]; omega
                      · obtain rfl : i2 = q := by omega
                        go_wp2_with fail
                        go_roundw
                        case rel => exact ⟨j + 1, by have := HLT.out; omega, by go_num, Lib.hid (by rw [← HA1.out] at HBO; exact HBO.out), HFa⟩
                        case measure => have := HLT.out; simp [intOf]; omega
                  · obtain rfl : q = j := by omega
                    obtain ⟨AL, hAL⟩ : ∃ AL, Tg.itA (fun i => tgt q (Q i)) q q A0 = AL := ⟨_, rfl⟩
                    rw [hAL] at HBO
                    have HAL := Lib.hid hAL
                    have HTC9 := Lib.hid (HTC.out.put HF9.out)
                    have HB9 := Lib.hid (show Below W.heap.size W w9 from HB.out.trans (HF9.out.below (fun k hk => by have := HSA.out; have := HNBE.out; omega) HB.out.size))
                    have HNB9 := Lib.hid (HF9.out.cell HNB.out (by have := HSA.out; omega))
                    clear hAL HTC HB HNB HF9 hj hlt
                    go_wp2_with fail
                    go_loopw [28, 29, 30, 212] (fun v28 v29 _ v212 wr => ∃ (k : Nat) (wl xl : List Int) (Aw Ax : Option Addr) (cw cx : Nat), k ≤ q ∧ v212 = .int .i64 (k : Int) ∧ v28 = .slice Aw wl.length cw ∧ v29 = .slice Ax xl.length cx ∧ Hid (wl = selG i (fun j => !AL j) k) ∧ Hid (xl = selG i AL k) ∧ Hid (TwoI wr w9.heap.size (.slice Aw wl.length cw) (.slice Ax xl.length cx) wl xl) ∧ Hid (Fr (fun _ => False) w9 wr)) (fun _ _ _ v212 _ => q - (intOf v212).toNat)
                    case atStart => exact ⟨0, [], [], none, none, 0, 0, Nat.zero_le _, rfl, rfl, rfl, Lib.hid rfl, Lib.hid rfl, Lib.hid ⟨OwnI.nil _ _, OwnI.nil _ _, fun k hk => (by cases hk)⟩, Lib.hid (Fr.refl _ _)⟩
                    case round =>
                      rename World => wa
                      obtain ⟨k, wl, xl, Aw, Ax, cw, cx, hk, rfl, rfl, rfl, HWL, HXL, HTW, HFa⟩ := hrel
                      by_cases hlt : k < q
                      · have HLT := Lib.hid hlt
                        have hac := HFa.out.cell (HBO.out.c k hlt) (fun h => h)
                        have k1 : (0 : Int) ≤ (k : Int) := by omega
                        have k2 : (k : Int) < (q : Int) := by omega
                        have HRC := Lib.hid (refc_any i k nb wa HN3.out (by omega) (HFa.out.cell HNB9.out (fun h => h)))
                        have hwl : wl.length ≤ 20 := by rw [HWL.out]; have := selG_len i (fun j => !AL j) k; omega
                        have hxl : xl.length ≤ 20 := by rw [HXL.out]; have := selG_len i AL k; omega
                        have HFZ := Lib.hid HFa.out.size
                        rcases hal : AL k with _ | _
                        · rw [hal] at hac
                          have HW2 := Lib.hid (show wl ++ [refG i k] = selG i (fun j => !AL j) (k + 1) from by rw [selG_succ, HWL.out, hal]; rfl)
                          have HX2 := Lib.hid (show xl = selG i AL (k + 1) from by rw [selG_succ, HXL.out, hal]; simp)
                          clear hal
                          go_wp2_with fail
                          refine HRC.out.mono ?_
                          rintro e w5 ⟨rfl, hf5⟩
                          have HF5 := Lib.hid hf5
                          have HTW5 := Lib.hid (HTW.out.new hf5)
                          have hz5 := hf5.size
                          have hz6 := HFZ.out
                          clear hf5 HRC
                          go_wp2_with (at_builtin; go_loud (refine wpList_append_int rfl _ _ rfl w9.heap.size (.slice Aw wl.length cw) wl rfl HTW5.out.o1 w5.heap.size rfl (refG i k) rfl (by omega) (by omega) ?_; intro v6 w6 hO6 hg6 hat6; have HO6 := Lib.hid hO6; have HG6 := Lib.hid hg6; have HA6 := Lib.hid hat6; clear hO6 hg6 hat6))
                          obtain ⟨A6, c6, hv6, -, -, -⟩ := own_any HO6.out
                          have hT6 := HTW5.out.app HO6.out HG6.out (by
                            rcases HA6.out with e | e
                            · exact .inl e
                            · exact .inr ⟨_, e, by omega⟩)
                          have hF6 : Fr (fun _ => False) w9 w6 := (HFa.out.trans' HF5.out).trans (S2 := fun k => (Value.slice Aw wl.length cw).ownBlock = some k) (Fr.of_grown HG6.out (fun k hk => .inl hk)) (fun k hk => .inr (HTW5.out.o1.blk k hk).1)
                          go_roundw
                          case rel => exact ⟨k + 1, wl ++ [refG i k], xl, A6, Ax, c6, cx, by have := HLT.out; omega, by go_num, by first | (rw [hv6]; done) | (rw [hv6]; simp), rfl, HW2, HX2, Lib.hid (by rw [hv6] at hT6; simpa using hT6), Lib.hid hF6⟩
                          case measure => have := HLT.out; simp [intOf]; omega
                        · rw [hal] at hac
                          have HW2 := Lib.hid (show wl = selG i (fun j => !AL j) (k + 1) from by rw [selG_succ, HWL.out, hal]; simp)
                          have HX2 := Lib.hid (show xl ++ [refG i k] = selG i AL (k + 1) from by rw [selG_succ, HXL.out, hal]; rfl)
                          clear hal
                          go_wp2_with fail
                          refine HRC.out.mono ?_
                          rintro e w5 ⟨rfl, hf5⟩
                          have HF5 := Lib.hid hf5
                          have HTW5 := Lib.hid (HTW.out.new hf5)
                          have hz5 := hf5.size
                          have hz6 := HFZ.out
                          clear hf5 HRC
                          go_wp2_with (at_builtin; go_loud (refine wpList_append_int rfl _ _ rfl w9.heap.size (.slice Ax xl.length cx) xl rfl HTW5.out.o2 w5.heap.size rfl (refG i k) rfl (by omega) (by omega) ?_; intro v6 w6 hO6 hg6 hat6; have HO6 := Lib.hid hO6; have HG6 := Lib.hid hg6; have HA6 := Lib.hid hat6; clear hO6 hg6 hat6))
                          obtain ⟨A6, c6, hv6, -, -, -⟩ := own_any HO6.out
                          have hT6 := (HTW5.out.sym.app HO6.out HG6.out (by
                            rcases HA6.out with e | e
                            · exact .inl e
                            · exact .inr ⟨_, e, by omega⟩)).sym
                          have hF6 : Fr (fun _ => False) w9 w6 := (HFa.out.trans' HF5.out).trans (S2 := fun k => (Value.slice Ax xl.length cx).ownBlock = some k) (Fr.of_grown HG6.out (fun k hk => .inl hk)) (fun k hk => .inr (HTW5.out.o2.blk k hk).1)
                          go_roundw
                          case rel => exact ⟨k + 1, wl, xl ++ [refG i k], Aw, A6, cw, c6, by have := HLT.out; omega, by go_num, rfl, by first | (rw [hv6]; done) | (rw [hv6]; simp), HW2, HX2, Lib.hid (by rw [hv6] at hT6; simpa using hT6), Lib.hid hF6⟩
                          case measure => have := HLT.out; simp [intOf]; omega
                      · obtain rfl : q = k := by omega
                        have HWN := Lib.hid (show wl.Nodup from by rw [HWL.out]; exact selG_nodup HN3.out _ q (by omega))
                        have HXN := Lib.hid (show xl.Nodup from by rw [HXL.out]; exact selG_nodup HN3.out _ q (by omega))
                        have HWE := Lib.hid (show wl.length ≤ 20 from by rw [HWL.out]; have := selG_len i (fun j => !AL j) q; omega)
                        have HXE := Lib.hid (show xl.length ≤ 20 from by rw [HXL.out]; have := selG_len i AL q; omega)
                        clear hk hlt HNB9
                        go_wp2_with fail
                        refine (sortI_own _ _ wl _ HTW.out.o1 (by have := HWE.out; omega)).mono ?_
                        rintro e w6 ⟨rfl, hO6, hg6⟩
                        have HT6 := Lib.hid (HTW.out.app hO6 hg6 (.inl rfl))
                        have HF6 := Lib.hid (show Fr (fun _ => False) w9 w6 from HFa.out.trans (S2 := fun k => (Value.slice Aw wl.length cw).ownBlock = some k) (Fr.of_grown hg6 (fun k hk => .inl hk)) (fun k hk => .inr (HTW.out.o1.blk k hk).1))
                        clear hO6 hg6
                        go_wp2_with fail
                        refine (sortI_own _ _ xl _ HT6.out.o2 (by have := HXE.out; omega)).mono ?_
                        rintro e w7 ⟨rfl, hO7, hg7⟩
                        have HT7 := Lib.hid (HT6.out.sym.app hO7 hg7 (.inl rfl)).sym
                        have HF7 := Lib.hid (show Fr (fun _ => False) w9 w7 from HF6.out.trans (S2 := fun k => (Value.slice Ax xl.length cx).ownBlock = some k) (Fr.of_grown hg7 (fun k hk => .inl hk)) (fun k hk => .inr (HT6.out.o2.blk k hk).1))
                        obtain ⟨X, Mc, ⟨vl, M, Pn, hcq9⟩, hE⟩ := HTC9.out
                        have hcq := hcq9.new HF7.out
                        have HXL7 := Lib.hid (show ∀ k, Mc k → k < w9.heap.size ∧ nb + 1 ≤ k from fun k hk => ⟨hcq9.xlt k (hcq9.mx k hk).1, (hcq9.mx k hk).2⟩)
                        have hix : ∀ j, j < i → ∀ x, x ∈ ixN i q j ↔ (x < q ∧ x % i = j ∧ (fun _ => true) x = true) := fun j hj x => by rw [mem_ixN]; simp
                        have hA : ∀ j, j < q → (fun _ => true) j = true → rtTo C C.n (refG i j) = al0 nf Ff t q j := fun j hj _ => HTH.out.rt HN3.out (by omega) HTM.out HTS.out.cn hj
                        have HCO := Lib.hid (ccollect_any hcq (by rw [HTH.out.hn]; omega) (HTH.out.wf HN3.out (by omega) HTM.out) (by have := HTB.out; omega) (fun K h1 h2 => HTS.out.kok HN3.out ⟨hm1, by omega⟩ hix hA (fun _ _ _ _ _ => rfl) h1 h2) (HTS.out.one HN3.out))
                        have HB7 := Lib.hid (HB9.out.trans (HF7.out.below (fun _ h => h.elim) HB9.out.size))
                        have HZ7 := Lib.hid HF7.out.size
                        clear hO7 hg7 hcq9 hE hcq hix hA HTW HT6 HF6 HFa HTC9 HB9
                        go_wp2_with fail
                        refine HCO.out.mono ?_
                        rintro e w8' ⟨A1, c1, L, K, rfl, hK, hof, hLs, hLm, hLo, X1, Mc1, hg1, hc1, hLb⟩
                        have hLiff := tg_first HN3.out ⟨hm1, by omega⟩ HTM.out HTS.out HTH.out hK hof hLm
                        rw [HA0.out, HAL.out] at hLiff
                        have hwL : srt wl = L := srt_is hLs HWN.out (fun x => by
                          rw [HWL.out, mem_selG, hLiff x]
                          refine exists_congr fun j => and_congr_right fun _ => and_congr_left fun _ => ?_
                          rcases AL j with _ | _ <;> simp)
                        have hLen : L.length = wl.length := by rw [← hwL, srt_len]
                        obtain ⟨vl1, M1, Pn1, hcq1⟩ := hc1
                        have hS1 := HTS.out.drops (In := AL) HN3.out (by omega) (L := L) (fun j hj => by
                          rw [hLiff]
                          refine ⟨fun ⟨a, ha, hd, e⟩ => ?_, fun hd => ⟨j, hj, hd, rfl⟩⟩
                          have hj20 : j < 20 := by omega
                          have ha20 : a < 20 := by omega
                          rw [refG_inj HN3.out hj20 ha20 e]
                          exact hd)
                        have hH1 : TgH i q nf Ff t q (dropsC C L) := ⟨HTH.out.tab, HTH.out.hn, HTH.out.held⟩
                        have hix1 : ∀ k, k < i → ∀ j, j ∈ (ixN i q k).filter AL ↔ (j < q ∧ j % i = k ∧ AL j = true) := fun k hk j => by rw [List.mem_filter, mem_ixN, and_assoc]
                        have hcl : ∀ a, a < q → AL a = true → ∀ u, u ∈ tgt q (Q a) → AL u = true := by
                          have h1 := Tg.it_clo (T := fun i => tgt q (Q i)) (m := q) (A := A0) (fun a _ u hu => tgt_lt hm1 hu)
                          rw [HAL.out] at h1
                          exact h1
                        have HCO2 := Lib.hid (ccollect_any hcq1 (show (dropsC C L).hn ≤ 1000000 by rw [hH1.hn]; omega) (hH1.wf HN3.out (by omega) HTM.out) (by have := HTB.out; omega) (fun K h1 h2 => hS1.kok HN3.out ⟨hm1, by omega⟩ (In := AL) (A0 := al0 nf Ff t q) hix1 (fun j hj _ => hH1.rt HN3.out (by omega) HTM.out hS1.cn hj) hcl h1 h2) (hS1.one HN3.out))
                        have HS1 := Lib.hid hS1
                        have HH1 := Lib.hid hH1
                        have HIX := Lib.hid hix1
                        have HWL2 := Lib.hid hwL
                        have HLEN := Lib.hid hLen
                        have HLO := Lib.hid hLo
                        have HLB := Lib.hid hLb
                        have hnM : ∀ k, w9.heap.size ≤ k → ¬ Mc k := fun k hk hm => by have := (HXL7.out k hm).1; omega
                        have HT8 := Lib.hid (show TwoI w8' w9.heap.size (.slice Aw wl.length cw) (.slice Ax xl.length cx) (srt wl) (srt xl) from ⟨hg1.fr.row HT7.out.o1 (fun k hk => hnM k (HT7.out.o1.blk k hk).1), hg1.fr.row HT7.out.o2 (fun k hk => hnM k (HT7.out.o2.blk k hk).1), HT7.out.ap⟩)
                        have hM1 : ∀ k, Mc1 k → (k < w9.heap.size ∨ w7.heap.size ≤ k) ∧ nb + 1 ≤ k := fun k hk => by
                          have h0 := hcq1.mx k hk
                          refine ⟨?_, h0.2⟩
                          rcases hg1.ms k hk with e | e
                          · exact .inl (HXL7.out k e).1
                          · exact .inr e
                        have HM1 := Lib.hid hM1
                        have HB8 := Lib.hid (show Below W.heap.size W w8' from HB7.out.trans (hg1.fr.below (fun k hk => by have := (HXL7.out k hk).2; have := HNBE.out; omega) HB7.out.size))
                        clear hK hof hLs hLm hLo hg1 hLb hLiff hwL hLen hcq1 hS1 hH1 hix1 hcl hnM hM1 HCO
                        go_wp2_with fail
                        refine HCO2.out.mono ?_
                        rintro e wd ⟨A2, c2, L2, K2, rfl, hK2, hof2, -, hLm2, -, X2, Mc2, hg2, hc2, -⟩
                        have hL2 : L2 = [] := tg_again HN3.out ⟨hm1, by omega⟩ HTM.out HS1.out HH1.out hK2 hof2 (fun k hk j => by rw [HA0.out, HAL.out]; exact HIX.out k hk j) hLm2
                        subst hL2
                        obtain ⟨vl2, M2, Pn2, hcq2⟩ := hc2
                        have hT9 : TwoI wd w9.heap.size (.slice Aw wl.length cw) (.slice Ax xl.length cx) (srt wl) (srt xl) := ⟨hg2.fr.row HT8.out.o1 (fun k hk hm => by
                          have h1 := HT7.out.o1.blk k hk
                          have := (HM1.out k hm).1
                          omega), hg2.fr.row HT8.out.o2 (fun k hk hm => by
                          have h1 := HT7.out.o2.blk k hk
                          have := (HM1.out k hm).1
                          omega), HT8.out.ap⟩
                        have hL9 := hg2.fr.row HLO.out (fun b hb => HLB.out b hb)
                        have HB9 := Lib.hid (show Below W.heap.size W wd from HB8.out.trans (hg2.fr.below (fun k hk => by have := (HM1.out k hk).2; have := HNBE.out; omega) HB8.out.size))
                        have hxR : srt xl = refsTo (dropsC C L) i := srt_is (HS1.out.srt HN3.out i (Nat.le_refl _)).1 HXN.out (fun x => by
                          rw [HS1.out.mem (Nat.le_refl _), HXL.out, mem_selG]
                          refine ⟨fun ⟨j, hj, ha, e⟩ => ⟨j % i, j, Nat.mod_lt _ (by omega), (HIX.out _ (Nat.mod_lt _ (by omega)) j).2 ⟨hj, rfl, ha⟩, e⟩, fun ⟨k, j, hk, hj, e⟩ => ?_⟩
                          obtain ⟨h1, _, h2⟩ := (HIX.out k hk j).1 hj
                          exact ⟨j, h1, h2, e⟩)
                        have HXR := Lib.hid hxR
                        have HEQ := Lib.hid (eqI_any (B1 := w7.heap.size) (B2 := w9.heap.size) (n := L.length) (m := wl.length) (l := L) hL9 (by have := hT9.o1; rw [HWL2.out] at this; exact this) rfl HLEN.out.symm (by have := HLEN.out; have := HWE.out; omega))
                        have HCR := Lib.hid (fun V (hf : Fr (fun _ => False) wd V) => crefs_any (hcq2.new hf))
                        have HT9 := Lib.hid hT9
                        clear hK2 hof2 hLm2 hg2 hcq2 hT9 hL9 hxR HCO2
                        go_wp2_with fail
                        refine HEQ.out.mono ?_
                        rintro e we ⟨rfl, hfe⟩
                        have HFE := Lib.hid hfe
                        clear hfe
                        go_wp2_with fail
                        refine (HCR.out we HFE.out).mono ?_
                        rintro e wf ⟨v, rfl, hov, hbf⟩
                        have hov2 : OwnI wf we.heap.size v (srt xl) := by rw [HXR.out]; have e0 : (dropsC (dropsC C L) []).n = i := HTS.out.cn; rw [e0] at hov; exact hov
                        obtain ⟨Av, cv, rfl, -, -, -⟩ := own_any hov2
                        have HFF := Lib.hid (show Fr (fun _ => False) wd wf from HFE.out.trans' (Fr.of_below hbf))
                        have HEQ2 := Lib.hid (eqI_any (B1 := we.heap.size) (B2 := w9.heap.size) (n := (srt xl).length) (m := xl.length) (l := srt xl) hov2 (HT9.out.new HFF.out).o2 rfl (srt_len xl).symm (by rw [srt_len]; have := HXE.out; omega))
                        clear hov hov2 hbf
                        go_wp2_with fail
                        refine HEQ2.out.mono ?_
                        rintro e wg ⟨rfl, hfg⟩
                        have HFG := Lib.hid (HFF.out.trans' hfg)
                        clear hfg
                        go_wp2_with fail
                        go_ret
                        exact ⟨rfl, HB9.out.trans (HFG.out.below (fun _ h => h.elim) HB9.out.size)⟩
set_option maxRecDepth 100000 in
theorem topGarbage_walk {H : Type} {enc : TypeId × Value → H} (W : World) (base : Nat) (v0 v1 v2 v3 : Value) {d0 d1 d2 d3 : DataW H} {p0 p1 p2 p3 : List MemPlace}
    (k0 : Value.okWide Tryz.prog W .any base 3 v0) (k1 : Value.okWide Tryz.prog W .any base 22 v1) (k2 : Value.okWide Tryz.prog W .any base 23 v2) (k3 : Value.okWide Tryz.prog W .any base 3 v3)
    (h0 : DataW.Trod enc Tryz.prog W 0 (fun _ => true) true 3 v0 d0 p0) (h1 : DataW.Trod enc Tryz.prog W 0 (fun _ => true) true 22 v1 d1 p1) (h2 : DataW.Trod enc Tryz.prog W 0 (fun _ => true) true 23 v2 d2 p2) (h3 : DataW.Trod enc Tryz.prog W 0 (fun _ => true) true 3 v3 d3 p3) :
    Calls Tryz.prog 3 #[v0, v1, v2, v3] W fun e W' => e = .returned (.bool true) ∧ Below W.heap.size W W' := by
  obtain ⟨a0, rfl, _, _, _⟩ := ChangeShapes.open_int Tryz.underlying3 k0 h0
  obtain ⟨a3, rfl, _, _, _⟩ := ChangeShapes.open_int Tryz.underlying3 k3 h3
  obtain ⟨A, n, c, Q, rfl, hnc, hcm, hA, hR, _⟩ := open_knows k1 h1
  obtain ⟨B, nf, cf, Ff, rfl, hfc, hfm, hF⟩ := open_frees k2 h2
  exact topGarbage_go W a0 a3 A n c Q hnc hcm hA hR B nf cf Ff (by omega) hF
end Go.Proofs.YthgbcgphkddmgaaGreat
