/- The walk of the law NodeRests. -/
import Derived.Test.YtjjfglbcikaicaaGreatMJ
namespace Go.Proofs.YtjjfglbcikaicaaGreat
open Go.RowKit Go.ChangeShapes Go.WideShapes
set_option linter.unusedVariables false
set_option linter.unusedSimpArgs false
set_option maxRecDepth 100000 in
set_option maxHeartbeats 16000000 in
theorem nodeRests_walk {H : Type} {enc : TypeId × Value → H} (W : World) (base : Nat) (v0 v1 v2 : Value) {d0 d1 d2 : DataW H} {p0 p1 p2 : List MemPlace}
    (k0 : Value.okWide Tryz.prog W .any base 25 v0) (k1 : Value.okWide Tryz.prog W .any base 3 v1) (k2 : Value.okWide Tryz.prog W .any base 56 v2)
    (h0 : DataW.Trod enc Tryz.prog W 0 (fun _ => true) true 25 v0 d0 p0) (h1 : DataW.Trod enc Tryz.prog W 0 (fun _ => true) true 3 v1 d1 p1) (h2 : DataW.Trod enc Tryz.prog W 0 (fun _ => true) true 56 v2 d2 p2) :
    Calls Tryz.prog 7 #[v0, v1, v2] W fun e W' => e = .returned (.bool true) ∧ Below W.heap.size W W' := by
  obtain ⟨L, hL⟩ := open_scripts k0 h0
  obtain ⟨f, rfl, _, _, _⟩ := open_int Tryz.underlying3 k1 h1
  obtain ⟨l, hl⟩ := open_deeds k2 h2
  have HTM := Lib.hid (tame_scr v0 L W hL)
  have HLW := Lib.hid (tameL_wf hL.wf)
  obtain ⟨A0, c0, rfl, _⟩ := hL
  have HDD := Lib.hid hl
  obtain ⟨A2, c2, rfl, _⟩ := hl
  clear k0 k1 k2 h0 h1 h2
  go_enter Tryz.func7, Tryz.ntmps7
  go_wp2_with fail
  refine HTM.out.mono ?_
  rintro e w1 ⟨A1, c1, rfl, hs1, hb1⟩
  have HB1 := Lib.hid hb1
  have HBG := Lib.hid (begun_any (fun _ => False) w1.heap.size A1 c1 (tameL L) f _ l w1 (fun _ h => h.elim) (Nat.le_refl _) hs1 HLW.out (HDD.out.below hb1))
  clear hs1 hb1 HTM
  go_wp2_with fail
  refine HBG.out.mono ?_
  rintro e w2 ⟨p, P, X, M, rfl, hf2, -, hX, hM, hn2, -⟩
  have HF2 := Lib.hid hf2
  have HN2 := Lib.hid hn2
  have HM := Lib.hid hM
  clear hf2 hn2 hX hM HBG HDD
  generalize begunN (tameL L) f l = N at *
  go_wp2_with fail
  refine (nodes_any w2).mono ?_
  rintro e w3 ⟨rfl, hb3⟩
  have HN3 := Lib.hid (HN2.out.below hb3)
  have HB3 := Lib.hid hb3
  clear hb3 HN2
  have hsz1 := HB1.out.size
  have HG3 := Lib.hid (show Fr (fun k => W.heap.size ≤ k) W w3 from ((Fr.of_below HB1.out).trans (HF2.out.weak (S2 := fun _ => False) (fun _ h => h)) (fun k hk => hk.elim)).trans (Fr.of_below (S := fun _ => False) HB3.out) (fun k hk => hk.elim))
  have HML := Lib.hid (show ∀ k, M k → W.heap.size ≤ k from fun k hk => by have := HM.out k hk; omega)
  clear HB1 HF2 HB3 HM
  go_wp2_with fail
  go_loopw [8, 9, 10, 11, 12, 13, 25] (fun _ _ _ _ _ _ v25 wr => ∃ (c : Nat) (Pc : Int → Nat) (Xc Mc : Nat → Prop) (Nc : NdS), c ≤ 40 ∧ v25 = .int .i64 (c : Int) ∧ Hid (Gr X M w3 Xc Mc wr) ∧ Hid (NodeAt wr Xc Mc w1.heap.size (10000000000 + 60000000 * c) p Pc Nc)) (fun _ _ _ _ _ _ v25 _ => 40 - (intOf v25).toNat)
  case atStart => exact ⟨0, P, X, M, N, Nat.zero_le _, rfl, Lib.hid (Gr.refl _ _ _), HN3⟩
  case round =>
    obtain ⟨c, Pc, Xc, Mc, Nc, hc, rfl, HGc, HNc⟩ := hrel
    have HEND := Lib.hid (show ∀ w', Fr (fun _ => False) wr w' → Below W.heap.size W w' from fun w' hf => by
      have h2 : Fr (fun k => W.heap.size ≤ k) W wr := HG3.out.trans (HGc.out.fr.weak (fun k hk => HML.out k hk)) (fun k hk => .inl hk)
      exact (h2.trans (hf.weak (S2 := fun k => W.heap.size ≤ k) (fun _ h => h.elim)) (fun k hk => .inl hk)).below (fun k hk => hk) (Nat.le_refl _))
    by_cases hlt : c < 40
    · have HT := Lib.hid (turn_any HNc.out (by omega))
      by_cases he : (turnN Nc).2.2 = 0
      · unfold TurnPost at HT
        rw [he] at HT
        clear he
        go_wp2_with fail
        refine HT.out.mono ?_
        rintro e w5 ⟨rfl, P5, X5, M5, hg5, hn5⟩
        have HG5 := Lib.hid (HGc.out.trans hg5)
        have HN5 := Lib.hid hn5
        clear hg5 hn5 HT
        go_wp2_with fail
        go_roundw
        case rel => exact ⟨c + 1, P5, X5, M5, (turnN Nc).1, by omega, by go_num, HG5, Lib.hid (HN5.out.up (by omega))⟩
        case measure => simp [intOf]; omega
      · have hte := turnN_err he
        unfold TurnPost at HT
        rw [hte] at HT
        clear he
        dsimp only at HT
        go_wp2_with fail
        refine HT.out.mono ?_
        rintro e w5 ⟨rfl, P5, X5, M5, hg5, hn5⟩
        have HG5 := Lib.hid (HGc.out.trans hg5)
        have HN5 := Lib.hid hn5
        have HS5 := Lib.hid (said_any hn5 (by omega))
        have HSL := Lib.hid hn5.saidRow
        clear hg5 hn5 HT HGc HNc
        go_wp2_with fail
        refine HS5.out.mono ?_
        rintro e w6 ⟨A6, c6, rfl, ho6, hb6⟩
        have HO6 := Lib.hid ho6
        have HF6 := Lib.hid (Fr.of_below (S := fun _ => False) hb6)
        have HN6 := Lib.hid (HN5.out.new HF6.out (fun _ h => h))
        have HR6 := Lib.hid (refs_any HN6.out)
        clear ho6 hb6 HS5
        go_wp2_with fail
        refine HR6.out.mono ?_
        rintro e w7 ⟨A7, c7, rfl, ho7, hb7⟩
        have HO7 := Lib.hid ho7
        have HF7 := Lib.hid (Fr.of_below (S := fun _ => False) hb7)
        have HN7 := Lib.hid (HN6.out.new HF7.out (fun _ h => h))
        have HT7 := Lib.hid (turn_any HN7.out (by omega))
        unfold TurnPost at HT7
        rw [hte] at HT7
        dsimp only at HT7
        clear ho7 hb7 HR6 hte
        go_wp2_with fail
        refine HT7.out.mono ?_
        rintro e w8 ⟨rfl, P8, X8, M8, hg8, hn8⟩
        have hn5l := HN5.out.xlt
        have hMX := HN5.out.2.2.1
        have hz6 := HF6.out.size
        have HO68 := Lib.hid (hg8.fr.row (HF7.out.row HO6.out (fun _ _ h => h)) (fun k hk hm => by have h1 := hn5l k (hMX k hm).1; have h2 := (HO6.out.lt k hk).1; omega))
        have HO78 := Lib.hid (hg8.fr.row HO7.out (fun k hk hm => by have h1 := hn5l k (hMX k hm).1; have h2 := (HO7.out.blk k hk).1; omega))
        have HN8 := Lib.hid hn8
        have HS8 := Lib.hid (said_any hn8 (by omega))
        have HG8 := Lib.hid ((HG5.out.trans (Gr.new (HF6.out.trans' HF7.out))).trans hg8)
        have hnsl : Nc.said.length ≤ 1000000000000 := by
          obtain ⟨_, _, _, _, _, _, h1, _⟩ := HSL.out
          omega
        have hnal := HN8.out.ok.len
        clear hg8 hn8 HT7 hn5l hMX HG5 HN5 HN6 HN7 HSL
        go_wp2_with fail
        refine HS8.out.mono ?_
        rintro e w9 ⟨A9, c9, rfl, ho9, hb9⟩
        have HO69 := Lib.hid (own_below HO68.out hb9)
        have HO79 := Lib.hid (own_below HO78.out hb9)
        have HF9 := Lib.hid (Fr.of_below (S := fun _ => False) hb9)
        have HEQ := Lib.hid (equalSd_same A9 A6 Nc.said.length Nc.said.length c9 c6 Nc.said w9 rfl rfl (by omega) (OwnSd.rd ho9).2 (OwnSd.rd HO69.out).2)
        clear ho9 hb9 HS8
        go_wp2_with fail
        refine HEQ.out.mono ?_
        rintro e w10 ⟨rfl, hb10⟩
        have HF10 := Lib.hid (HF9.out.trans' (Fr.of_below hb10))
        have HO710 := Lib.hid (own_below HO79.out hb10)
        have HR10 := Lib.hid (refs_any (HN8.out.new HF10.out (fun _ h => h)))
        clear hb10 HEQ
        go_wp2_with fail
        refine HR10.out.mono ?_
        rintro e w11 ⟨A11, c11, rfl, ho11, hb11⟩
        have HF11 := Lib.hid (HF10.out.trans' (Fr.of_below hb11))
        have HO711 := Lib.hid (own_below HO710.out hb11)
        have HEI := Lib.hid (equalI_same A11 A7 Nc.acts.length Nc.acts.length c11 c7 (lst (refsN Nc)) (lst (refsN Nc)) w11 rfl (by omega) (by have := OwnI.rd ho11; rw [refsN_len] at this; exact this) (by have := OwnI.rd (n := Nc.acts.length) (c := c7) (A := A7) HO711.out; rw [refsN_len] at this; exact this) (fun _ _ => rfl))
        clear ho11 hb11 HR10
        go_wp2_with fail
        refine HEI.out.mono ?_
        rintro e w12 ⟨rfl, hb12⟩
        have HF12 := Lib.hid (HF11.out.trans' (Fr.of_below hb12))
        clear hb12
        go_wp2_with fail
        refine bodyPost_ret (v := .bool true) (by simp [results, Tryz.results7, go_sem]) rfl ⟨rfl, ?_⟩
        have h2 : Fr (fun k => W.heap.size ≤ k) W w8 := HG3.out.trans (HG8.out.fr.weak (fun k hk => HML.out k hk)) (fun k hk => .inl hk)
        exact (h2.trans (HF12.out.weak (S2 := fun k => W.heap.size ≤ k) (fun _ h => h.elim)) (fun k hk => .inl hk)).below (fun k hk => hk) (Nat.le_refl _)
    · obtain rfl : c = 40 := by omega
      go_wp2_with fail
      refine bodyPost_ret (v := .bool true) (by simp [results, Tryz.results7, go_sem]) rfl ⟨rfl, HEND.out _ (Fr.refl _ _)⟩
end Go.Proofs.YtjjfglbcikaicaaGreat
