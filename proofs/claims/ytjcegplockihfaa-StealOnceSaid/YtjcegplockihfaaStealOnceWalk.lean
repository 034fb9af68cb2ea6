/- The walk of the law StealOnce. -/
import Derived.Test.YtjcegplockihfaaStealSame
import Derived.Test.YtjcegplockihfaaStealHalfWalk
import Derived.Test.YtjcegplockihfaaStealOpen
import Derived.Test.YtjcegplockihfaaStealRun
import Derived.Test.YtjcegplockihfaaSorted
namespace Go.Proofs.Ytjcegplockihfaa
open Go.RowKit Go.ChangeShapes Go.WideShapes
set_option linter.unusedVariables false
set_option maxRecDepth 100000 in
/-- a whole slice of numbers appended -/
theorem wpList_append_rd {ops : Array Oper} {rest : List Oper} {o : Oper} {a : Act} {w : World} {Q : Exit → Act → World → Prop} (hgd : o.guard = none) (s x : Operand)
    (ho : o.op = .call { callee := .builtin .append, args := #[s, x], argTypes := #[52, 52] }) (base : Nat) (v : Value) (l : List Int) (hs : a.eval s = v) (hown : OwnI w base v l)
    (A : Option Addr) (m c : Nat) (l2 : List Int) (hx : a.eval x = .slice A m c) (hm : l2.length = m) (hR : Rd w 1 (tmC (lst l2)) A m) (hA : A = none → m = 0) (hl : l.length + m ≤ 1000000) (hbase : base ≤ w.heap.size)
    (h : ∀ v' w', OwnI w' base v' (l ++ l2) → w.grownBy w' v.ownBlock → wpList Try.prog ops Q rest (a.put o.dst v') w') :
    wpList Try.prog ops Q (o :: rest) a w := by
  obtain ⟨i0, hi, hz0, hz1, hz2⟩ := info_parts infoI
  subst hm
  cases A with
  | none =>
    have hz := hA rfl
    rw [hz] at hx
    refine Lib.wpList_append_run w hgd s x _ _ ho _ _ hs hx v w (append_none w _ base v _ _ hown c) (h v w ?_ (grown_self _ _))
    rw [List.eq_nil_of_length_eq_zero hz, List.append_nil]
    exact hown
  | some qa =>
    refine wpList_append_own_at _ hgd s x 52 ho base 3 i0 (.int .i64 0) 1 8 Try.underlying52 hi hz0 hz1 hz2 rfl (by decide) v l.length (encI l) hs hown qa l2.length c (encI l2) hx (by simp [encI]) ?_ (encI_one _) (by unfold maxLen; omega) (by omega) hbase ?_
    · intro j u hu
      have hj : j < l2.length := by
        rcases Nat.lt_or_ge j l2.length with hh | hh
        · exact hh
        · rw [List.getElem?_eq_none (by simp [encI]; exact hh)] at hu; cases hu
      obtain ⟨b1, o1, hA1, _, hc1⟩ := hR (by omega)
      injection hA1 with hA1
      subst hA1
      rw [Go.WideShapes.add_plain]
      have := hc1 j hj 0 _ rfl
      simp [encI, hj] at hu
      simp [lst, hj] at this
      rw [this, hu]
    · intro v' w' h1 h2 _ _
      refine h v' w' ?_ h2
      unfold OwnI
      rw [List.length_append, encI_append]
      exact h1
theorem take_snd {D : List (Int × Int)} {k : Nat} {p : Int × Int} (h : D[k]? = some p) : (D.map Prod.snd).take (k + 1) = (D.map Prod.snd).take k ++ [p.2] := by
  obtain ⟨hk, e⟩ := List.getElem?_eq_some_iff.1 h
  rw [List.take_succ_eq_append_getElem (by simpa using hk)]
  simp [e]
set_option maxRecDepth 100000 in
set_option maxHeartbeats 4000000 in
theorem stealOnce_go (A : Option Addr) (n c : Nat) (Q : Nat → List Int) (S : Nat → Prop) (B : Option Addr) (m d : Nat) (T : Nat → Int) (w : World) (hn : n ≤ c) (hc : c ≤ 9223372036854775807) (hR : RdLs w S A n Q) (hwf : WfQ Q n) (hT : Rd w 1 (tmC T) B m) :
    Calls Try.prog 14 #[.slice A n c, .slice B m d] w fun e w' => e = .returned (.bool true) ∧ Below w.heap.size w w' := by
  have HR := Lib.hid hR
  have HWF := Lib.hid hwf
  have HT := Lib.hid hT
  clear hR hwf hT
  by_cases ok : OkLs Q n ∧ m ≤ 100
  rotate_left
  · have HK := Lib.hid ok
    clear ok
    go_enter Try.func14, Try.ntmps14
    go_wp2_with fail
    refine (run_bad A n c Q S B m d _ hn hc HR.out HWF.out HK.out).mono ?_
    rintro e w1 ⟨x, hx, rfl, hb1⟩
    have hx0 : (x != 0) = true := by simpa using hx
    have HB1 := Lib.hid hb1
    clear hb1 hx
    go_wp2_with fail
    refine (steals_any _).mono ?_
    rintro e w2 ⟨rfl, hb2⟩
    have HB2 := Lib.hid (HB1.out.trans (hb2.mono HB1.out.size))
    clear hb2
    go_wp2_with fail
    refine (steals_any _).mono ?_
    rintro e w3 ⟨rfl, hb3⟩
    have HB3 := Lib.hid (HB2.out.trans (hb3.mono HB2.out.size))
    clear hb3
    go_wp2_with fail
    go_ret
    exact ⟨rfl, HB3.out⟩
  obtain ⟨ok, hm⟩ := ok
  have HK := Lib.hid ok
  have hl100 := ok.2.2.1
  clear ok
  go_enter Try.func14, Try.ntmps14
  go_wp2_with fail
  refine (run_ok A n c Q S B m d T _ hn hc HR.out HWF.out HT.out HK.out hm).mono ?_
  rintro e w0 ⟨Ao, co, A1, c1, vs1, Q1, D, rfl, hO1, hP1, hPm, hb0⟩
  have HB0 := Lib.hid hb0
  clear hb0
  go_wp2_with fail
  refine (steals_any _).mono ?_
  rintro e w1 ⟨rfl, hb1⟩
  have HO1 := Lib.hid (hO1.below hb1)
  have HP1 := Lib.hid (own_keep hP1 hb1)
  have HB1 := Lib.hid (HB0.out.trans (hb1.mono HB0.out.size))
  have HPM := Lib.hid hPm
  obtain ⟨hok1, hwf1⟩ := ok_of_perm HK.out HWF.out hPm
  have hDl : D.length + (catTo Q1 n).length ≤ 100 := by
    have := hPm.length_eq
    rw [List.length_append, List.length_map] at this
    omega
  have HOK1 := Lib.hid hok1
  have HWF1 := Lib.hid hwf1
  obtain ⟨_, _, hve, hnc1, hcm1, _⟩ := own_any hO1.row
  injection hve with hve1 _ hve3
  subst hve1 hve3
  obtain ⟨_, _, hvp, hncp, hcmp, _⟩ := own_any hP1
  injection hvp with hvp1 _ hvp3
  subst hvp1 hvp3
  clear hO1 hP1 hPm hok1 hwf1 hb1
  go_wp2_with fail
  go_loopw [8, 10, 36] (fun o _ x wr => ∃ (k : Nat) (v : Value), k ≤ D.length ∧ x = .int .i64 k ∧ v = o ∧ OwnI wr w1.heap.size v ((D.map Prod.snd).take k) ∧ Below w1.heap.size w1 wr) (fun _ _ x _ => D.length - (intOf x).toNat)
  case atStart => exact ⟨0, _, Nat.zero_le _, rfl, rfl, OwnI.nil _ _, Below.refl _ _⟩
  case round =>
    obtain ⟨k, v, hk, rfl, rfl, hO, hB⟩ := hrel
    have HB := Lib.hid hB
    have hBs := hB.size
    have htl : ((D.map Prod.snd).take k).length = k := by rw [List.length_take, List.length_map]; omega
    obtain ⟨Aa, ca, hva, hnca, hcma, hna⟩ := own_any hO
    rw [htl] at hva hnca hna
    subst hva
    have HO := Lib.hid hO
    have HTL := Lib.hid htl
    clear htl hna
    by_cases hlt : k < D.length
    · obtain ⟨g, cap, hv1, hg1, hg2, _⟩ := own_form HP1.out (by omega)
      injection hv1 with hv1 _ hv3
      subst hv1 hv3
      obtain ⟨p, hp⟩ : ∃ p, D[k]? = some p := ⟨_, List.getElem?_eq_getElem hlt⟩
      have hx := encP_get hp
      have c0 : wr.cell? ⟨g, k * 2, none⟩ = some (.int .i64 p.1) := (hB.cell (p := ⟨g, _, none⟩) hg2).trans ((HP1.out.cellAt (k * 2) (by omega)).trans hx.1)
      have c1 : wr.cell? ⟨g, k * 2 + 1, none⟩ = some (.int .i64 p.2) := (hB.cell (p := ⟨g, _, none⟩) hg2).trans ((HP1.out.cellAt (k * 2 + 1) (by omega)).trans hx.2)
      have HTS := Lib.hid (take_snd hp)
      clear hO hB hx hp
      have hkl : k ≤ 100 := by omega
      go_wp2_with (at_builtin; go_loud (refine wpList_append_int (w := wr.alloc (.cells #[.int .i64 p.fst, .int .i64 p.snd] 35)) rfl _ _ rfl w1.heap.size (.slice Aa k ca) ((D.map Prod.snd).take k) rfl (HO.out.alloc _) (wr.heap.size + 1) (by simp) p.snd rfl (by rw [HTL.out]; omega) (by simp; omega) ?_; intro v2 w2 hown2 hgrow2 _; have HO2 := Lib.hid hown2; have HG2 := Lib.hid hgrow2; clear hown2 hgrow2))
      refine ⟨⟨k + 1, v2, by omega, by go_num, rfl, by rw [HTS.out]; exact HO2.out, ?_⟩, by simp [intOf]; omega⟩
      exact below_grown (HB.out.alloc hBs _) (by simp; omega) HG2.out (fun j hj => (HO.out.blk j hj).1)
    · obtain rfl : k = D.length := by omega
      have HO' := Lib.hid (show OwnI wr w1.heap.size (.slice Aa D.length ca) (D.map Prod.snd) by have h := HO.out; rw [List.take_of_length_le (by simp)] at h; exact h)
      clear hO hB HO HTL
      go_wp2_with fail
      refine (concat_any A1 n c1 Q1 _ _ hnc1 hcm1 (HO1.out.rd.below HB.out) (by omega)).mono ?_
      rintro e w2 ⟨v2, rfl, hown2, hb2⟩
      obtain ⟨A2, c2, rfl, _, _, hA2⟩ := own_any hown2
      have HO2 := Lib.hid hown2
      have HR2 := Lib.hid hown2.rd
      have HA2 := Lib.hid hA2
      have HB2 := Lib.hid (HB.out.trans (hb2.mono hBs))
      have HV2 := Lib.hid (HO'.out.below hb2)
      have hz2 := HB2.out.size
      clear hb2 hown2 hA2
      obtain ⟨L3, hL3⟩ : ∃ L3, L3 = D.map Prod.snd ++ catTo Q1 n := ⟨_, rfl⟩
      have hL3l : L3.length ≤ 100 := by rw [hL3, List.length_append, List.length_map]; omega
      rw [← hL3] at HPM
      have HL3 := Lib.hid hL3
      clear hL3
      have hml : (D.map Prod.snd).length + (catTo Q1 n).length ≤ 1000000 := by rw [List.length_map]; omega
      have HML := Lib.hid hml
      clear hml
      go_wp2_with (at_builtin; go_loud (refine wpList_append_rd rfl _ _ rfl w1.heap.size (.slice Aa D.length ca) (D.map Prod.snd) rfl HV2.out A2 _ c2 (catTo Q1 n) rfl rfl HR2.out HA2.out HML.out hz2 ?_; intro v3 w3 hown3 hgrow3; rw [← HL3.out] at hown3; have HO3 := Lib.hid hown3; have HG3 := Lib.hid hgrow3; clear hown3 hgrow3))
      have HB3 := Lib.hid (below_grown HB2.out hz2 HG3.out (fun j hj => (HV2.out.blk j hj).1))
      have hz3 := HB3.out.size
      obtain ⟨A3, c3, rfl, _, _, _⟩ := own_any HO3.out
      clear HG3
      go_wp2_with fail
      refine (concat_any A n c Q S _ hn hc ((HR.out.below HB1.out).below HB3.out) (by omega)).mono ?_
      rintro e w4 ⟨v4, rfl, hown4, hb4⟩
      obtain ⟨A4, c4, rfl, _, _, _⟩ := own_any hown4
      have HO4 := Lib.hid hown4
      have HB4 := Lib.hid (HB3.out.trans (hb4.mono hz3))
      have hz4 := HB4.out.size
      have hz34 := hb4.size
      have HO34 := Lib.hid (HO3.out.below hb4)
      clear hb4 hown4
      go_wp2_with fail
      refine (sortI_own w1.heap.size _ _ _ HO34.out (by omega)).mono ?_
      rintro e w5 ⟨rfl, hown5, hg5⟩
      have HO5 := Lib.hid hown5
      have HB5 := Lib.hid (below_grown HB4.out hz4 hg5 (fun j hj => (HO34.out.blk j hj).1))
      have HO45 := Lib.hid (HO4.out.grown hg5 (fun j hj e => by have := (HO4.out.blk j hj).1; have := (HO3.out.blk j e).2; omega))
      have hz5 := HB5.out.size
      clear hown5 hg5
      go_wp2_with fail
      refine (sortI_own w3.heap.size _ _ _ HO45.out (by omega)).mono ?_
      rintro e w6 ⟨rfl, hown6, hg6⟩
      have HO6 := Lib.hid hown6
      have HB6 := Lib.hid (below_grown HB5.out hz5 hg6 (fun j hj => by have := (HO45.out.blk j hj).1; omega))
      have HO56 := Lib.hid (HO5.out.grown hg6 (fun j hj e => by have := (HO4.out.blk j e).1; have := (HO3.out.blk j hj).2; omega))
      have hz6 := HB6.out.size
      clear hown6 hg6
      have HEQ := Lib.hid (srt_eq HPM.out)
      have HLE := Lib.hid (show L3.length = (catTo Q n).length from HPM.out.length_eq)
      have HR5 := Lib.hid (show Rd w6 1 (tmC (lst (srt L3))) A3 L3.length by have h := HO56.out.rd; rw [srt_len] at h; exact h)
      have HR6 := Lib.hid (show Rd w6 1 (tmC (lst (srt (catTo Q n)))) A4 (catTo Q n).length by have h := HO6.out.rd; rw [srt_len] at h; exact h)
      go_wp2_with fail
      refine (equalI_true A3 A4 _ _ c3 c4 (lst (srt L3)) (lst (srt (catTo Q n))) _ HLE.out (by omega) HR5.out HR6.out (fun k _ => by rw [HEQ.out])).mono ?_
      rintro e w7 ⟨rfl, hb7⟩
      have HB7 := Lib.hid (HB6.out.trans (hb7.mono hz6))
      clear hb7
      go_wp2_with fail
      refine (checkS_any A1 n c1 Q1 _ _ hnc1 hcm1 (HO1.out.rd.below HB7.out) HWF1.out).mono ?_
      rintro e w8 ⟨x, rfl, hx, hb8⟩
      obtain rfl : x = 0 := hx.2 HOK1.out
      have HB8 := Lib.hid (HB7.out.trans (hb8.mono HB7.out.size))
      clear hx hb8
      go_wp2_with fail
      go_ret
      exact ⟨rfl, HB1.out.trans (HB8.out.mono HB1.out.size)⟩
set_option maxRecDepth 100000 in
theorem open_intsR {H : Type} {enc : TypeId × Value → H} {W : World} {base : Nat} {v : Value} {d : DataW H} {p : List MemPlace} (k0 : Value.okWide Try.prog W .any base 52 v) (h0 : DataW.Trod enc Try.prog W 0 (fun _ => true) true 52 v d p) :
    ∃ A n c T, v = .slice A n c ∧ n ≤ c ∧ c ≤ 9223372036854775807 ∧ (A = none → n = 0) ∧ Rd W 1 (tmC T) A n ∧ ∀ i, i < n → Wf (T i) := by
  obtain ⟨a0, l0, cp0, rfl⟩ := okWide_slice Try.underlying52 k0
  obtain ⟨fuel, hf⟩ := h0
  obtain ⟨A, n, c, C, D, sp, hcs, hnc, hcm, hA, hR, hel, hd⟩ := open_rowsD Try.underlying52 (by kernel_rfl) hf
  have hv : Value.slice a0 l0 cp0 = .slice A n c := by simpa [Value.cells] using hcs
  have hvi : ∀ j, ∃ z : Int, j < n → C j = .int .i64 z ∧ Wf z := fun j => by
    by_cases hj : j < n
    · obtain ⟨m2, q2, hy2⟩ := hel j hj
      obtain ⟨z, e, _, hw⟩ := DataW.trod_int Try.underlying3 hy2
      simp at e
      exact ⟨z, fun _ => ⟨e, hw⟩⟩
    · exact ⟨0, fun h => absurd h hj⟩
  obtain ⟨Z, hZ⟩ := Classical.axiomOfChoice hvi
  exact ⟨A, n, c, Z, hv, hnc, hcm, hA, hR.congr fun k hk => by unfold tmC; rw [(hZ k hk).1], fun i hi => (hZ i hi).2⟩
set_option maxRecDepth 100000 in
theorem stealOnce_walk {H : Type} {enc : TypeId × Value → H} (W : World) (base : Nat) (v0 v1 : Value) {d0 d1 : DataW H} {p0 p1 : List MemPlace}
    (k0 : Value.okWide Try.prog W .any base 63 v0) (k1 : Value.okWide Try.prog W .any base 52 v1)
    (h0 : DataW.Trod enc Try.prog W 0 (fun _ => true) true 63 v0 d0 p0) (h1 : DataW.Trod enc Try.prog W 0 (fun _ => true) true 52 v1 d1 p1) (hz : ∀ k ∈ d0.weights Try.prog 63, k ≤ reachBytes) (_hz1 : ∀ k ∈ d1.weights Try.prog 52, k ≤ reachBytes) :
    Calls Try.prog 14 #[v0, v1] W fun e W' => e = .returned (.bool true) ∧ Below W.heap.size W W' := by
  obtain ⟨A, n, c, Q, rfl, hnc, hcm, hA, hR, hwf⟩ := open_lines k0 h0 hz
  obtain ⟨B, m, d, T, rfl, hmd, hdm, hBn, hT, _⟩ := open_intsR k1 h1
  exact stealOnce_go A n c Q _ B m d T W hnc hcm hR hwf hT
end Go.Proofs.Ytjcegplockihfaa
