/- The walk of the law WardStarts. -/
import Derived.Test.YtcjkibjaajbfmaaWardLaw
import Derived.Test.YtcjkibjaajbfmaaWardStartsPlain
import Derived.Test.YtcjkibjaajbfmaaSortedW
import Derived.IntWalk
import Derived.Deep.AppendLies
namespace Go.Proofs.Ytcjkibjaajbfmaa
open Go.RowKit Go.ChangeShapes Go.WideShapes
set_option linter.unusedVariables false
theorem flatC_lstL {l : List Int} {n : Nat} (h : l.length = n) : flatC (tmC (lst l)) n = encI l := by subst h; exact flatC_lst l
theorem equalI_lists (A B : Option Addr) (n m c d : Nat) (l : List Int) (w : World) (hn : n = l.length) (hm : m = l.length) (hl : l.length ≤ 9223372036854775807) (hT : Rd w 1 (tmC (lst l)) A l.length) (hU : Rd w 1 (tmC (lst l)) B l.length) :
    Calls Try.prog 23 #[.slice A n c, .slice B m d] w fun e w' => e = .returned (.bool true) ∧ Below w.heap.size w w' := by
  subst hn hm
  refine (equalI_any A B l.length c l.length d (lst l) (lst l) w hl hl hT hU).mono ?_
  rintro e w' ⟨rfl, q, rfl⟩
  refine ⟨ret_bool ?_, below_drewN (Below.refl _ _) _⟩
  rw [anyOf_false.2 (fun j hj => by simp)]
  simp
set_option maxRecDepth 100000 in
set_option maxHeartbeats 4000000 in
theorem wardStarts_go (X : Wd) (A B : Option Addr) (c d : Nat) (id : Int) (failed : Bool) (now : Int) (w : World) (ha : ArgOk X A B c d w) :
    Calls Try.prog 8 #[.agg #[.int .i64 X.how, .int .i64 X.most, .int .i64 X.window, .slice A X.n c, .slice B X.m d], .int .i64 id, .bool failed, .int .i64 now] w fun e w' => e = .returned (.bool true) ∧ Below w.heap.size w w' := by
  have HA := Lib.hid ha
  have hn1 := ha.hn
  have hn2 := ha.hc
  clear ha
  go_enter Try.func8, Try.ntmps8
  go_wp2_with fail
  refine (down_any X A B c d id failed now _ (HA.out.below ((Below.refl _ _).alloc (Nat.le_refl _) _))).mono ?_
  rintro e w1 (⟨⟨x, hx, rfl, hb⟩, hno⟩ | ⟨i, hok, R', T', st, sp, gv, hr, A', c', B', d', vs, vt, rfl, hrow, htim, hsp, hst, hb⟩)
  · have hx0 : (x != 0) = true := by simpa using hx
    have hb1 : Below w.heap.size w w1 := ((Below.refl _ _).alloc (Nat.le_refl _) _).trans (hb.mono (by simp))
    have HB1 := Lib.hid hb1
    have hs1 := hb1.size
    clear hno hb hb1 hx
    go_wp2_with fail
    refine (wards_any _).mono ?_
    rintro e w2 ⟨rfl, hb2⟩
    have HB2 := Lib.hid (((HB1.out.alloc hs1 _).alloc (by simp; omega) _).trans (hb2.mono (by simp; omega)))
    have P3 := Lib.hid ((hb2.cell (p := ⟨w1.heap.size, 3, none⟩) (by simp; omega)).trans (show _ = some (.slice none 0 0) by simp [go_sem]))
    have Q0 := Lib.hid ((hb2.cell (p := ⟨w1.heap.size + 1, 0, none⟩) (by simp)).trans (show _ = some (.slice none 0 0) by simp [go_sem]))
    have Q1 := Lib.hid ((hb2.cell (p := ⟨w1.heap.size + 1, 1, none⟩) (by simp)).trans (show _ = some (.slice none 0 0) by simp [go_sem]))
    have Q2 := Lib.hid ((hb2.cell (p := ⟨w1.heap.size + 1, 2, none⟩) (by simp)).trans (show _ = some (.bool false) by simp [go_sem]))
    have hz2 : w1.heap.size + 1 < w2.heap.size := by have := hb2.size; simp at this; omega
    clear hb2
    go_wp2_with fail
    refine (wards_any _).mono ?_
    rintro e w3 ⟨rfl, hb3⟩
    have HB3 := Lib.hid (HB2.out.trans (hb3.mono HB2.out.size))
    have p3 := (hb3.cell (p := ⟨w1.heap.size, 3, none⟩) (show _ < _ by simp; omega)).trans P3.out
    have q0 := (hb3.cell (p := ⟨w1.heap.size + 1, 0, none⟩) (show _ < _ by simp; omega)).trans Q0.out
    have q1 := (hb3.cell (p := ⟨w1.heap.size + 1, 1, none⟩) (show _ < _ by simp; omega)).trans Q1.out
    have q2 := (hb3.cell (p := ⟨w1.heap.size + 1, 2, none⟩) (show _ < _ by simp; omega)).trans Q2.out
    clear hb3
    go_wp2_with fail
    go_ret
    exact ⟨rfl, HB3.out⟩
  · obtain ⟨S1, s1, rfl, hs1, hs2, hs5⟩ := own_any hsp
    obtain ⟨S2, s2, rfl, hs3, hs4, hs6⟩ := own_any hst
    have hb1 : Below w.heap.size w w1 := ((Below.refl _ _).alloc (Nat.le_refl _) _).trans (hb.mono (by simp))
    have HB1 := Lib.hid hb1
    have hsz1 := hb1.size
    obtain ⟨hliv, hcase, hspl, hstl⟩ := res_starts hr hok
    have HLIV := Lib.hid hliv
    have HCASE := Lib.hid hcase
    have HRW := Lib.hid (show Rd w1 3 (chC R') A' X.n from Rd.of_own (chC_len _) hrow)
    have HSP := Lib.hid hsp.rd
    have HST := Lib.hid hst.rd
    have HSPN := Lib.hid hs5
    have HSTN := Lib.hid hs6
    have a3 : w1.cell? ⟨w.heap.size, 3, none⟩ = some (.slice A X.n c) := (hb.cell (p := ⟨_, _, none⟩) (by simp)).trans (by simp [go_sem])
    have hz1 : w.heap.size < w1.heap.size := by have := hb.size; simp at this; omega
    clear hr hok hrow htim hsp hst hb hb1 hliv hcase hs5 hs6
    go_wp2_with fail
    refine (wards_any _).mono ?_
    rintro e w2 ⟨rfl, hb2⟩
    have HB2 := Lib.hid (((HB1.out.alloc hsz1 _).alloc (by simp; omega) _).trans (hb2.mono (by simp; omega)))
    have HF2 := Lib.hid (fun (g o : Nat) (hg : g < w1.heap.size) => ((hb2.cell (p := ⟨g, o, none⟩) (by simp; omega)).trans ((World.cell?_alloc_lt _ _ ⟨g, o, none⟩ (by simp; omega)).trans (World.cell?_alloc_lt _ _ ⟨g, o, none⟩ hg))))
    have P3 := Lib.hid ((hb2.cell (p := ⟨w1.heap.size, 3, none⟩) (by simp; omega)).trans (show _ = some (.slice A' X.n c') by simp [go_sem]))
    have Q0 := Lib.hid ((hb2.cell (p := ⟨w1.heap.size + 1, 0, none⟩) (by simp)).trans (show _ = some (.slice S1 sp.length s1) by simp [go_sem]))
    have Q1 := Lib.hid ((hb2.cell (p := ⟨w1.heap.size + 1, 1, none⟩) (by simp)).trans (show _ = some (.slice S2 st.length s2) by simp [go_sem]))
    have Q2 := Lib.hid ((hb2.cell (p := ⟨w1.heap.size + 1, 2, none⟩) (by simp)).trans (show _ = some (.bool gv) by simp [go_sem]))
    have A3 := Lib.hid ((HF2.out w.heap.size 3 hz1).trans a3)
    have hz2 : w1.heap.size + 1 < w2.heap.size := by have := hb2.size; simp at this; omega
    have HRW2 := Lib.hid (show Rd w2 3 (chC R') A' X.n from ((HRW.out.alloc _).alloc _).below hb2)
    have HSP2 := Lib.hid (show Rd w2 1 (tmC (lst sp)) S1 sp.length from ((HSP.out.alloc _).alloc _).below hb2)
    have HST2 := Lib.hid (show Rd w2 1 (tmC (lst st)) S2 st.length from ((HST.out.alloc _).alloc _).below hb2)
    clear hb2 a3 HRW HSP HST HF2
    have p3 := P3.out
    have a3 := A3.out
    go_wp2_with fail
    clear p3 a3
    go_loopw [12, 13, 14, 64] (fun _ _ _ x wr => ∃ k : Nat, k ≤ X.n ∧ x = .int .i64 k ∧ Below w2.heap.size w2 wr) (fun _ _ _ x _ => X.n - (intOf x).toNat)
    case atStart => exact ⟨0, by omega, rfl, Below.refl _ _⟩
    case round =>
      obtain ⟨k, hk, rfl, hB⟩ := hrel
      have hBs := hB.size
      have hBw : Below w.heap.size w wr := HB2.out.trans (hB.mono HB2.out.size)
      have hy1 : w1.heap.size + 1 < wr.heap.size := by omega
      have hy0 : w1.heap.size < wr.heap.size := by omega
      have HBW := Lib.hid hBw
      have HB := Lib.hid hB
      have q1 := (hB.cell (p := ⟨w1.heap.size + 1, 1, none⟩) (show _ < _ by simp; omega)).trans Q1.out
      have q2 := (hB.cell (p := ⟨w1.heap.size + 1, 2, none⟩) (show _ < _ by simp; omega)).trans Q2.out
      have q0 := (hB.cell (p := ⟨w1.heap.size + 1, 0, none⟩) (show _ < _ by simp; omega)).trans Q0.out
      by_cases hlt : k < X.n
      · have p3 := (hB.cell (p := ⟨w1.heap.size, 3, none⟩) (show _ < _ by simp; omega)).trans P3.out
        obtain ⟨b, off, rfl, hb0, hcell⟩ := (HA.out.hR.below hBw) (by omega)
        obtain ⟨b', off', rfl, hb0', hcell'⟩ := (HRW2.out.below hB) (by omega)
        have c0 := hcell k hlt 0 _ rfl
        have c1 := hcell k hlt 1 _ rfl
        have c2 := hcell k hlt 2 _ rfl
        have d0 := hcell' k hlt 0 _ rfl
        have d2 := hcell' k hlt 2 _ rfl
        obtain ⟨hL1, hL2⟩ := HLIV.out k hlt
        rw [hL1] at d0
        rw [hL2] at d2
        simp only [Nat.add_zero] at c0 d0
        clear hcell hcell' hL1 hL2 q0 hB hBw
        generalize (X.R k).id = rid at *
        generalize (X.R k).when = rwhen at *
        generalize (X.R k).lives = rl at *
        have i1 : (0 : Int) ≤ (k : Int) := by omega
        have i2 : (k : Int) < (X.n : Int) := by omega
        by_cases hid : (rid == id) = true
        · rw [if_pos hid] at d2
          have hneq : (decide (0 < st.length) != decide ((0 : Int) < (st.length : Int))) = false := by simp
          cases rl
          all_goals
            go_wp2_with fail
            go_quiet (fail)
            go_wp2_with fail
            go_roundw
            case rel => exact ⟨k + 1, by omega, by go_num, below_drewN (HB.out.alloc hBs _) _⟩
            case measure => simp [intOf]; omega
        · rw [if_neg hid] at d2
          have hid0 : (rid == id) = false := by simpa using hid
          clear hid
          cases rl <;> cases gv
          all_goals
            go_wp2_with fail
            go_quiet (fail)
            go_wp2_with fail
            go_roundw
            case rel => exact ⟨k + 1, by omega, by go_num, below_drewN (HB.out.alloc hBs _) _⟩
            case measure => simp [intOf]; omega
      · have hkn : ¬ ((k : Int) < (X.n : Int)) := by omega
        have HSPB := Lib.hid (HSP2.out.below hB)
        have HSTB := Lib.hid (HST2.out.below hB)
        clear hB hBw
        rcases HCASE.out with ⟨he, hs⟩ | ⟨hpos, hg, hp⟩
        · subst he
          simp only [List.length_nil] at q1
          rcases hs with he | he
          · subst he
            simp only [List.length_nil] at q0
            go_wp2_with fail
            go_ret
            exact ⟨rfl, HBW.out⟩
          · subst he
            by_cases h0 : ((sp.length : Int) == 0) = true
            · go_wp2_with fail
              go_ret
              exact ⟨rfl, HBW.out⟩
            · have h1 : ((sp.length : Int) == 0) = false := by simpa using h0
              clear h0
              go_wp2_with fail
              go_ret
              exact ⟨rfl, HBW.out⟩
        · subst hg
          have HP := Lib.hid hp
          have hne : ((st.length : Int) == 0) = false := beq_eq_false_iff_ne.2 (by omega)
          clear hp
          go_wp2_with fail
          refine (cloneInt S1 sp.length s1 (tmC (lst sp)) _ HSPB.out (tmC_len _) (tmC_one _) HSPN.out (by omega)).mono ?_
          rintro e w4 ⟨v4, rfl, hown4, hb4⟩
          rw [flatC_lst] at hown4
          obtain ⟨A4, c4, rfl, _, _, _⟩ := own_any hown4
          have HO4 := Lib.hid (show OwnI w4 wr.heap.size (.slice A4 sp.length c4) sp from hown4)
          have HB4 := Lib.hid hb4
          have hz4 := hb4.size
          clear hown4 hb4 q0 q1 q2
          go_wp2_with (at_builtin; go_loud (refine wpList_append_int (w := w4) rfl _ _ rfl wr.heap.size (.slice A4 sp.length c4) sp rfl HO4.out w4.heap.size rfl id rfl (by omega) hz4 ?_; intro v5 w5 hown5 hgrow5 _; have HO5 := Lib.hid hown5; have HG5 := Lib.hid hgrow5; clear hown5 hgrow5; have HB5 := Lib.hid (below_grown HB4.out hz4 HG5.out (fun j hj => (HO4.out.blk j hj).1)); have q1 := (HB5.out.cell (p := ⟨w1.heap.size + 1, 1, none⟩) (show w1.heap.size + 1 < wr.heap.size from hy1)).trans ((HB.out.cell (p := ⟨w1.heap.size + 1, 1, none⟩) (show w1.heap.size + 1 < w2.heap.size by omega)).trans Q1.out)))
          have hz5 := HB5.out.size
          obtain ⟨L5, hL5⟩ : ∃ L5, L5 = sp ++ [id] := ⟨_, rfl⟩
          rw [← hL5] at HO5 HP
          have hl5 : L5.length < 1000 := by rw [hL5, List.length_append]; simp; omega
          obtain ⟨A5, c5, rfl, _, _, _⟩ := own_any HO5.out
          clear hL5 HG5
          refine (cloneInt S2 st.length s2 (tmC (lst st)) _ (by exact HSTB.out.below HB5.out) (tmC_len _) (tmC_one _) HSTN.out (by omega)).mono ?_
          rintro e w6 ⟨v6, rfl, hown6, hb6⟩
          rw [flatC_lst] at hown6
          obtain ⟨A6, c6, rfl, _, _, _⟩ := own_any hown6
          have HO6 := Lib.hid (show OwnI w6 w5.heap.size (.slice A6 st.length c6) st from hown6)
          have HO56 := Lib.hid (HO5.out.below hb6)
          have hz6 := hb6.size
          have HB6 := Lib.hid (HB5.out.trans (hb6.mono hz5))
          have HBLK := Lib.hid (fun k hk => (HO5.out.blk k hk).2)
          clear hown6 hb6 q1
          go_wp2_with fail
          refine (sortI_own wr.heap.size _ _ _ HO56.out (by omega)).mono ?_
          rintro e w7 ⟨rfl, hown7, hg7⟩
          have HB7 := Lib.hid (below_grown HB6.out HB6.out.size hg7 (fun j hj => (HO56.out.blk j hj).1))
          have HO7 := Lib.hid hown7
          have HO67 := Lib.hid (HO6.out.grown hg7 (fun k hk he => by have h1 := HBLK.out k he; have h2 := (HO6.out.blk k hk).1; omega))
          have hz7 := hg7.size
          clear hown7 hg7
          go_wp2_with fail
          refine (sortI_own w5.heap.size _ _ _ HO67.out (by omega)).mono ?_
          rintro e w8 ⟨rfl, hown8, hg8⟩
          have HB8 := Lib.hid (below_grown HB7.out HB7.out.size hg8 (fun j hj => by have := (HO67.out.blk j hj).1; omega))
          have HO8 := Lib.hid hown8
          have HO78 := Lib.hid (HO7.out.grown hg8 (fun k hk he => by have h1 := HBLK.out k hk; have h2 := (HO67.out.blk k he).1; omega))
          have HBT := Lib.hid (HBW.out.trans (HB8.out.mono HBW.out.size))
          have q2 := (HB8.out.cell (p := ⟨w1.heap.size + 1, 2, none⟩) (show w1.heap.size + 1 < wr.heap.size from hy1)).trans ((HB.out.cell (p := ⟨w1.heap.size + 1, 2, none⟩) (show w1.heap.size + 1 < w2.heap.size by omega)).trans Q2.out)
          have HE := Lib.hid (show srt L5 = srt st from srt_eq HP.out)
          have hl56 := Lib.hid (show L5.length = st.length from HP.out.length_eq)
          have HR7 := Lib.hid (show Rd w8 1 (tmC (lst (srt st))) A5 (srt st).length by rw [← HE.out]; exact HO78.out.rd)
          have HR8 := Lib.hid (show Rd w8 1 (tmC (lst (srt st))) A6 (srt st).length from HO8.out.rd)
          clear hown8 hg8
          go_wp2_with fail
          refine (equalI_lists A5 A6 _ _ c5 c6 (srt st) _ (by rw [srt_len]; exact hl56.out) (by rw [srt_len]) (by rw [srt_len]; omega) (by exact HR7.out) (by exact HR8.out)).mono ?_
          rintro e w9 ⟨rfl, hb9⟩
          have HB9 := Lib.hid (HBT.out.trans (hb9.mono HBT.out.size))
          clear hb9
          go_wp2_with fail
          go_ret
          exact ⟨rfl, HB9.out⟩
set_option maxRecDepth 100000 in
theorem wardStarts_walk {H : Type} {enc : TypeId × Value → H} (W : World) (base : Nat) (v0 v1 v2 v3 : Value) {d0 d1 d2 d3 : DataW H} {p0 p1 p2 p3 : List MemPlace}
    (k0 : Value.okWide Try.prog W .any base 25 v0) (k1 : Value.okWide Try.prog W .any base 3 v1) (k2 : Value.okWide Try.prog W .any base 4 v2) (k3 : Value.okWide Try.prog W .any base 3 v3)
    (h0 : DataW.Trod enc Try.prog W 0 (fun _ => true) true 25 v0 d0 p0) (h1 : DataW.Trod enc Try.prog W 0 (fun _ => true) true 3 v1 d1 p1)
    (h2 : DataW.Trod enc Try.prog W 0 (fun _ => true) true 4 v2 d2 p2) (h3 : DataW.Trod enc Try.prog W 0 (fun _ => true) true 3 v3 d3 p3) :
    Calls Try.prog 8 #[v0, v1, v2, v3] W fun e W' => e = .returned (.bool true) ∧ Below W.heap.size W W' := by
  obtain ⟨X, A, B, c, d, rfl, ha⟩ := open_ward k0 h0
  obtain ⟨a1, rfl, _, _, _⟩ := open_int Try.underlying3 k1 h1
  obtain ⟨a2, rfl, _, _⟩ := open_bool Try.underlying4 k2 h2
  obtain ⟨a3, rfl, _, _, _⟩ := open_int Try.underlying3 k3 h3
  exact wardStarts_go X A B c d a1 a2 a3 W ha
end Go.Proofs.Ytcjkibjaajbfmaa
