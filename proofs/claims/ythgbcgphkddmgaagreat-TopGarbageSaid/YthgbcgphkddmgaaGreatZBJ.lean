/- roadkeep4.Rest, as a function. A quiet cluster: on which node an actor is. A quiet cluster: its letters. A table's rows in order: State; received rows are right: checkRows. The registry: all names that are bound. -/
import Derived.Test.YthgbcgphkddmgaaGreatZAJ
import Derived.Test.YthgbcgphkddmgaaGreatZBG
import Derived.Test.YthgbcgphkddmgaaGreatIter
import Derived.Deep.AppendLies
import Derived.Deep.RegionHeld3
import Derived.Test.YthgbcgphkddmgaaGreatZAD
import Derived.Test.YthgbcgphkddmgaaGreatZAF
namespace Go.Proofs.YthgbcgphkddmgaaGreat
open Go.RowKit
set_option linter.unusedVariables false
set_option linter.unusedSimpArgs false
/-- a number from 0 to n - 1 -/
def restK (k : Int) (n : Nat) : Nat := ((IntKind.u64.wrap k).tmod n).toNat
theorem restK_lt (k : Int) {n : Nat} (h : 1 ≤ n) : restK k n < n := by
  have hu : 0 ≤ IntKind.u64.wrap k := by simp [IntKind.wrap, IntKind.signed, IntKind.bits]; omega
  have hr0 := Int.tmod_nonneg (n : Int) hu
  have hr1 := Int.tmod_lt_of_pos (IntKind.u64.wrap k) (show (0 : Int) < n by omega)
  unfold restK
  omega
set_option maxRecDepth 100000 in
set_option maxHeartbeats 4000000 in
theorem restK_any (k : Int) (n : Nat) (w : World) (h1 : 1 ≤ n) (h2 : n ≤ 1000) : Calls Tryz.prog 6 #[.int .i64 k, .int .i64 (n : Int)] w fun e w' => e = .returned (.int .i64 (restK k n : Int)) ∧ w' = w := by
  go_enter Tryz.func6, Tryz.ntmps6
  go_wp2_with fail
  have hu : 0 ≤ IntKind.u64.wrap k := by simp [IntKind.wrap, IntKind.signed, IntKind.bits]; omega
  have hr0 := Int.tmod_nonneg (n : Int) hu
  have hr1 := Int.tmod_lt_of_pos (IntKind.u64.wrap k) (show (0 : Int) < n by omega)
  have hdef : restK k n = ((IntKind.u64.wrap k).tmod n).toNat := rfl
  generalize (IntKind.u64.wrap k).tmod n = x at hr0 hr1 hdef ⊢
  have hx : wrap64 x = ((restK k n : Nat) : Int) := by rw [hdef]; unfold wrap64; omega
  go_ret
  exact ⟨by rw [← hx]; rfl, rfl⟩
end Go.Proofs.YthgbcgphkddmgaaGreat
namespace Go.Proofs.YthgbcgphkddmgaaGreat
open Go.RowKit Go.Maps
set_option linter.unusedVariables false
set_option linter.unusedSimpArgs false
section
variable {w : World} {X Mc : Nat → Prop} {base T : Nat} {bl : CBk → Nat} {pn : Nat → Nat} {vl : Value} {ll : Nat} {M : Nat → Nat → Prop} {Pn : Nat → Int → Nat} {C : CqS}
set_option maxRecDepth 100000 in
set_option maxHeartbeats 4000000 in
theorem find1_any (h : CqG w X Mc base T bl pn vl ll M Pn C) {i : Nat} (hi : i < C.n) (q : Nat) (ref : Int) (hq : w.cell? ⟨q, 0, none⟩ = some (.int .i64 ref)) :
    Calls Tryz.prog 91 #[.pointer (some ⟨pn i, 0, none⟩), .pointer (some ⟨q, 0, none⟩)] w fun e w' => e = .returned (.bool (decide (ref ∈ refsN (C.nd i)))) ∧ Fr (fun _ => False) w w' := by
  have HRF := Lib.hid (fun W (hf : Fr (fun _ => False) w W) => refs_any ((h.new hf).nd i hi))
  have h60 := (h.nd i hi).ok.len
  have hql : q < w.heap.size := World.block_lt_of_cell? w _ hq
  have hrl := refsN_len (C.nd i)
  have HANY := Lib.hid (any_lst (refsN (C.nd i)) ref)
  generalize refsN (C.nd i) = RL at *
  generalize (C.nd i).acts.length = n at *
  subst hrl
  clear h
  go_enter Tryz.func91, Tryz.ntmps91
  go_wp2_with fail
  go_region_with (first
    | (go_at_call 37; refine (HRF.out w.drew ((Fr.refl _ w).drew)).mono ?_; rintro e w2 ⟨A2, c2, rfl, ho2, hb2⟩; have HF2 := Lib.hid (show Fr (fun _ => False) w w2 from ((Fr.refl _ w).drew).trans' (Fr.of_below hb2)); have HO2 := Lib.hid ho2; have q2 := HF2.out.cell hq (fun h => h); have HCT := Lib.hid (containsI_any A2 RL.length c2 (lst RL) ref w2 (by omega) ho2.rd))
    | (go_at_call 92; refine HCT.out.mono ?_; rintro e w3 ⟨rfl, rfl⟩))
  all_goals
    go_wp2_with fail
    go_ret
    exact ⟨by rw [HANY.out]; rfl, HF2.out⟩
set_option maxRecDepth 100000 in
set_option maxHeartbeats 4000000 in
theorem ixf_any (h : CqG w X Mc base T bl pn vl ll M Pn C) (ca q k : Nat) (ref : Int) (hq : w.cell? ⟨q, 0, none⟩ = some (.int .i64 ref)) (hk : k < C.n) (hin : ref ∈ refsN (C.nd k)) (hno : ∀ j, j < k → ref ∉ refsN (C.nd j)) :
    Calls Tryz.prog 90 #[.slice (some ⟨bl .Va, 0, none⟩) C.n ca, .func (.func 91) #[] #[.pointer (some ⟨q, 0, none⟩)]] w fun e w' => e = .returned (.int .i64 (k : Int)) ∧ Fr (fun _ => False) w w' := by
  have HH := Lib.hid h
  have h8 := h.n8
  have HIN := Lib.hid hin
  have HNO := Lib.hid hno
  clear h hin hno
  go_enter Tryz.func90, Tryz.ntmps90
  go_wp2_with fail
  go_loopw [5, 8] (fun _ v8 wr => ∃ i : Nat, i ≤ k ∧ v8 = .int .i64 (i : Int) ∧ Hid (Fr (fun _ => False) w wr)) (fun _ v8 _ => k - (intOf v8).toNat)
  case atStart => exact ⟨0, Nat.zero_le _, rfl, Lib.hid (Fr.refl _ _)⟩
  case round =>
    obtain ⟨i, hi, rfl, HF⟩ := hrel
    have hin : i < C.n := by omega
    have HHr := Lib.hid (HH.out.new HF.out)
    have cra := HHr.out.co.ra i hin
    have i1 : (0 : Int) ≤ (i : Int) := by omega
    have i2 : (i : Int) < (C.n : Int) := by omega
    have HCL := Lib.hid (find1_any HHr.out hin q ref (HF.out.cell hq (fun h => h)))
    go_wp2_with fail
    refine HCL.out.mono ?_
    rintro e w2 ⟨rfl, hf2⟩
    have HF2 := Lib.hid (HF.out.trans' hf2)
    clear hf2 HCL
    by_cases e : i = k
    · subst e
      rw [decide_eq_true HIN.out]
      go_wp2_with fail
      go_ret
      exact ⟨rfl, HF2.out⟩
    · have hlt : i < k := by omega
      rw [decide_eq_false (HNO.out i hlt)]
      go_wp2_with fail
      exact ⟨⟨i + 1, by omega, by go_num, HF2⟩, by simp [intOf]; omega⟩
set_option maxRecDepth 100000 in
set_option maxHeartbeats 4000000 in
theorem find_any (h : CqG w X Mc base T bl pn vl ll M Pn C) (k : Nat) (ref : Int) (hk : k < C.n) (hin : ref ∈ refsN (C.nd k)) (hno : ∀ j, j < k → ref ∉ refsN (C.nd j)) :
    Calls Tryz.prog 49 #[.pointer (some ⟨bl .P, 0, none⟩), .int .i64 ref] w fun e w' => e = .returned (.int .i64 ((k : Int) + 1)) ∧ Fr (fun _ => False) w w' := by
  have h8 := h.n8
  obtain ⟨ca, c0⟩ := h.cp.c0
  have hpl : bl .P < w.heap.size := World.block_lt_of_cell? w _ c0
  have hf1 : Fr (fun _ => False) w (w.alloc (.cells #[.int .i64 ref] 3)) := (Fr.refl _ _).alloc _
  have HX := Lib.hid (ixf_any (h.new hf1) ca w.heap.size k ref (by simp [go_sem]) hk hin hno)
  have HF1 := Lib.hid hf1
  clear h hin hno hf1
  go_enter Tryz.func49, Tryz.ntmps49
  go_wp2_with fail
  refine HX.out.mono ?_
  rintro e w2 ⟨rfl, hf2⟩
  have HF2 := Lib.hid (HF1.out.trans' hf2)
  clear hf2 HX
  go_wp2_with fail
  go_ret
  exact ⟨by go_num, HF2.out⟩
end
end Go.Proofs.YthgbcgphkddmgaaGreat
namespace Go.Proofs.YthgbcgphkddmgaaGreat
open Go.RowKit Go.Maps
set_option linter.unusedVariables false
set_option linter.unusedSimpArgs false
/-- a range over an empty map of ways -/
def RngE (w : World) (b r : Nat) : Prop := ∃ n D left, w.ranges Tryz.prog 100 anyElem b r n D left 0
set_option maxRecDepth 100000 in
theorem wp_range_E {o : Oper} {ops : Array Oper} {Q : Exit → Act → World → Prop} {rest : List Oper} {a : Act} {w : World} (hg : o.guard = none) (m : Operand) (t e : TypeId) (hop : o.op = Op.range t m) (ht : Tryz.prog.underlying t = some (.map 100 e)) (b : Nat) (g : Nat → Nat → Option Value)
    (hm : a.eval m = .map (some b)) (hown : OwnW w b 0 g)
    (hK : ∀ w', RngE w' b w.heap.size → Fr (fun _ => False) w w' → w'.heap.size = w.heap.size + 1 → wpList Tryz.prog ops Q rest (a.put o.dst (.pointer (some ⟨w.heap.size, 0, none⟩))) w') :
    wpList Tryz.prog ops Q (o :: rest) a w := by
  obtain ⟨D, h1, hs, h2⟩ := hown
  refine wpList_range_own w hg m t hop 100 e lawW ht anyElem b 0 D hm h1 fun w' r1 r2 r3 => hK w' ⟨0, D, _, by rw [hs] at r1; exact r1⟩ (Fr.of_grown r2 (fun k hk => by cases hk)) r3
set_option maxRecDepth 100000 in
theorem wp_next_E {o : Oper} {ops : Array Oper} {Q : Exit → Act → World → Prop} {rest : List Oper} {a : Act} {w : World} (hg : o.guard = none) (it : Operand) (hop : o.op = Op.next it false) (b r : Nat)
    (hit : a.eval it = .pointer (some ⟨r, 0, none⟩)) (h : RngE w b r) (hDone : wpList Tryz.prog ops Q rest (a.put o.dst (.tuple #[.bool false])) w) :
    wpList Tryz.prog ops Q (o :: rest) a w := by
  obtain ⟨n, D, left, hr⟩ := h
  refine wpList_next_ranges w hg it hop 100 lawW anyElem (fun v : Value => v) (fun v : Value => v) (fun key kl hkey => ⟨key, rfl⟩) (fun v y _ => ⟨v, rfl⟩) b r n D left 0 hit hr (fun hc hl => hDone) (fun x v kl y w' cnt' hkey hlk hv hat hrg hlt hgr hsz hen => ?_)
  omega
set_option maxRecDepth 100000 in
set_option maxHeartbeats 4000000 in
theorem letters_q {w : World} {X Mc : Nat → Prop} {base T : Nat} {bl : CBk → Nat} {pn : Nat → Nat} {vl : Value} {ll : Nat} {M : Nat → Nat → Prop} {Pn : Nat → Int → Nat} {C : CqS} (h : CqG w X Mc base T bl pn vl ll M Pn C) :
    Calls Tryz.prog 55 #[.pointer (some ⟨bl .P, 0, none⟩)] w fun e w' => e = .returned (.slice none 0 0) ∧ Fr (fun _ => False) w w' := by
  have c3 := h.cp.c3
  have c4 := h.cp.c4
  have HW := Lib.hid h.co.mw
  have HT := Lib.hid h.co.mt
  have hpl : bl .P < w.heap.size := World.block_lt_of_cell? w _ c3
  generalize bl .P = p at *
  generalize bl .Mw = mw at *
  generalize bl .Mt = mt at *
  clear h
  go_enter Tryz.func55, Tryz.ntmps55
  go_wp2_with fail
  go_cut [16, 17, 18] (fun v16 v17 v18 wx => ∃ q, v17 = .int .i64 2 ∧ v18 = .int .i64 0 ∧ v16 = .slice (some ⟨q, 0, none⟩) 2 2 ∧ wx.cell? ⟨q, 0, none⟩ = some (.map (some mt)) ∧ wx.cell? ⟨q, 1, none⟩ = some (.map (some mw)) ∧ Hid (Fr (fun _ => False) w wx))
  case first =>
    go_region
    all_goals
      go_wp2_with fail
      go_meet
      exact ⟨w.heap.size, rfl, rfl, rfl, by simp [go_sem], by simp [go_sem], Lib.hid (((Fr.refl _ _).alloc _).drew)⟩
  case rest =>
    rename World => w1
    obtain ⟨q, rfl, rfl, rfl, q0, q1, HF⟩ := hcut
    clear c3 c4
    go_wp2_with fail
    go_loopw [3, 5, 7, 18] (fun v3 _ _ v18 wr => ∃ i : Nat, i ≤ 2 ∧ v3 = .slice none 0 0 ∧ v18 = .int .i64 (i : Int) ∧ Hid (Fr (fun _ => False) w1 wr)) (fun _ _ _ v18 _ => 2 - (intOf v18).toNat)
    case atStart => exact ⟨0, by omega, rfl, rfl, Lib.hid (Fr.refl _ _)⟩
    case round =>
      obtain ⟨wo, hwo⟩ : ∃ wo : World, wo = wr := ⟨_, rfl⟩
      subst hwo
      obtain ⟨i, hi, rfl, rfl, HR⟩ := hrel
      by_cases hlt : i < 2
      · have x0 := HR.out.cell q0 (fun h => h)
        have x1 := HR.out.cell q1 (fun h => h)
        obtain ⟨b, hb, hown⟩ : ∃ b, wo.cell? ⟨q, i, none⟩ = some (.map (some b)) ∧ Hid (OwnW wo b 0 fun _ _ => none) := by
          rcases (show i = 0 ∨ i = 1 by omega) with rfl | rfl
          · exact ⟨mt, x0, Lib.hid (HT.out.fr (HF.out.trans' HR.out) (fun h => h))⟩
          · exact ⟨mw, x1, Lib.hid (HW.out.fr (HF.out.trans' HR.out) (fun h => h))⟩
        have i1 : (0 : Int) ≤ (i : Int) := by omega
        have i2 : (i : Int) < 2 := by omega
        clear x0 x1
        go_wp2_with (first | (at_range; go_loud (refine wp_range_E rfl _ 82 115 rfl und_mwl b _ rfl hown.out ?_); intro w2 hrng hfr hsz; have HRNG := Lib.hid hrng; have HFR2 := Lib.hid hfr; clear hrng hfr))
        go_frame
        go_loopw [3, 7] (fun v3 _ wx => v3 = .slice none 0 0 ∧ wx = w2) (fun _ _ _ => 0)
        case atStart => exact ⟨rfl, rfl⟩
        case round =>
          obtain ⟨rfl, rfl⟩ := hrel
          go_wp2_with (at_next; (refine wp_next_E rfl _ rfl b wo.heap.size rfl HRNG.out ?_))
          exact ⟨⟨i + 1, by omega, rfl, by go_num, Lib.hid (HR.out.trans' HFR2.out)⟩, by simp [intOf]; omega⟩
      · obtain rfl : i = 2 := by omega
        go_wp2_with fail
        go_ret
        exact ⟨rfl, HF.out.trans' HR.out⟩
end Go.Proofs.YthgbcgphkddmgaaGreat
namespace Go.Proofs.YthgbcgphkddmgaaGreat.Nm
open Go.RowKit Go.Maps
set_option linter.unusedVariables false
theorem cell_four_new (w : World) (a b c d : Value) (t : TypeId) : ∀ j u, [a, b, c, d][j]? = some u → (w.alloc (.cells #[a, b, c, d] t)).cell? ((⟨w.heap.size, 0, none⟩ : Addr).add j) = some u := by
  intro j u hj
  match j, hj with
  | 0, hj => simp at hj; subst hj; simp [Addr.add]
  | 1, hj => simp at hj; subst hj; simp [Addr.add]
  | 2, hj => simp at hj; subst hj; simp [Addr.add]
  | 3, hj => simp at hj; subst hj; simp [Addr.add]
theorem infoR : (Tryz.prog.info? 158).map (fun i => (i.zero, i.size, i.bytes)) = some (some rw0, 4, 40) := by kernel_rfl
def rowsIx (g : Nat → Option RW) : List Nat := (List.range 4).filter fun i => (g i).isSome
def ixT (g : Nat → Option RW) (k : Nat) : Nat := (rowsIx g).getD k 0
def rwT (g : Nat → Option RW) (k : Nat) : RW := (g (ixT g k)).getD ⟨0, 0, 0⟩
def rwC (g : Nat → Option RW) (k : Nat) : List Value := [.string (nmS (ixT g k)), .int .i64 (rwT g k).ref, .int .i64 (rwT g k).cnt, .int .i64 (rwT g k).node]
theorem rwC_len (g : Nat → Option RW) (k : Nat) : (rwC g k).length = 4 := rfl
theorem rows_len (g : Nat → Option RW) : (rowsIx g).length = cntT g := rfl
theorem ix_mem (g : Nat → Option RW) {k : Nat} (h : k < cntT g) : ixT g k < 4 ∧ (g (ixT g k)).isSome = true := by
  have hl : k < (rowsIx g).length := h
  have hm : (rowsIx g)[k] ∈ rowsIx g := List.getElem_mem hl
  have e : ixT g k = (rowsIx g)[k] := by simp [ixT, List.getD, hl]
  rw [← e] at hm
  unfold rowsIx at hm
  simp only [List.mem_filter, List.mem_range] at hm
  exact hm
theorem at_ix (g : Nat → Option RW) {k : Nat} (h : k < cntT g) : atV g (ixT g k) = .agg ⟨rwC g k⟩ ∧ g (ixT g k) = some (rwT g k) := by
  obtain ⟨r, hr⟩ := Option.isSome_iff_exists.1 (ix_mem g h).2
  unfold atV rwC rwT
  rw [hr]
  exact ⟨rfl, rfl⟩
theorem key_ix (g : Nat → Option RW) {k : Nat} (h : k < cntT g) : ((keysT g).map encStr)[k]? = some (.string (nmS (ixT g k))) := by
  have hl : k < (rowsIx g).length := h
  have e : ixT g k = (rowsIx g)[k] := by simp [ixT, List.getD, hl]
  show (((rowsIx g).map nmB).map encStr)[k]? = _
  rw [e]
  simp [hl]
  rfl
set_option maxRecDepth 100000 in
set_option maxHeartbeats 4000000 in
theorem state_any (t m : Nat) (nd cnt : Int) (g : Nat → Option RW) (w : World) (hN : NmAt w t nd cnt m g) :
    Calls Tryz.prog 173 #[.pointer (some ⟨t, 0, none⟩)] w fun e w' => ∃ v, e = .returned v ∧ w'.ownsRow w.heap.size 158 4 v (cntT g) (flatC (rwC g) (cntT g)) ∧ Below w.heap.size w w' := by
  obtain ⟨i0, hi, jz0, jz1, jz2⟩ := info_parts infoR
  have HN := Lib.hid hN
  obtain ⟨c0, c1, c2, hf, hne, htab⟩ := hN
  obtain ⟨D, hD, hs4, hso⟩ := htab.keys
  have HSO := Lib.hid hso
  have HSK := Lib.hid (Tryz.sorted_Keys m _ D anyElem w hD (by unfold maxLen; omega) (by omega))
  have HKK := Lib.hid (Tryz.maps_Keys (some m) w)
  clear htab hD hso hs4
  go_enter Tryz.func173, Tryz.ntmps173
  go_wp2_with fail
  refine HKK.out.mono ?_
  rintro e w1 ⟨rfl, rfl⟩
  go_wp2_with fail
  refine HSK.out.mono ?_
  rintro e w1 ⟨v, ss, rfl, hS, hrow, hnil, hb⟩
  have hk := HSO.out ss hS
  have hlen : ss.length = cntT g := by rw [← keys_len, ← hk, List.length_mergeSort]
  rw [hlen] at hrow
  have hrow : w1.ownsRow (w.heap.size + 1) 9 1 v (cntT g) ((keysT g).map encStr) := by
    rw [← hk]; simpa using hrow
  have hB : Below w.heap.size w w1 := ((Below.refl _ w).alloc (Nat.le_refl _) _).trans (hb.mono (by simp))
  have HB1 := Lib.hid hB
  have HR1 := Lib.hid hrow
  have hn4 := cnt_le g
  have HKI := Lib.hid (fun k h => key_ix g (k := k) h)
  have HAT := Lib.hid (fun k h => at_ix g (k := k) h)
  have HIM := Lib.hid (fun k h => ix_mem g (k := k) h)
  have HN1 := Lib.hid (HN.out.fr (S := fun _ => False) (Fr.of_below HB1.out) (fun h => h) (fun h => h))
  obtain ⟨A, c, rfl, hnc, hcm, -⟩ := own_any hrow
  generalize hcn : cntT g = n at *
  have HCN := Lib.hid hcn
  clear hk hlen hS hnil hb hrow hB HSO HSK HKK hcn
  go_wp2_with fail
  go_loopw [3, 13] (fun v x wr => ∃ (k : Nat) (u : Value), u = v ∧ k ≤ n ∧ x = .int .i64 (k : Int) ∧ wr.ownsRow w1.heap.size 158 4 u k (flatC (rwC g) k) ∧ Below w1.heap.size w1 wr) (fun _ x _ => n - (intOf x).toNat)
  case atStart => exact ⟨0, _, rfl, by omega, rfl, World.ownsRow_nil _ _ _ _, Below.refl _ _⟩
  case round =>
    obtain ⟨k, v, rfl, hkn, rfl, hown, hB⟩ := hrel
    obtain ⟨Ao, co, rfl, -, -, -⟩ := own_any hown
    have HO := Lib.hid hown
    have HB := Lib.hid hB
    by_cases hk : k < n
    · obtain ⟨gb, cap, hv, -, hgb, -⟩ := own_form HR1.out (by omega)
      injection hv with e1 _ e3
      subst e1 e3
      have ck : w1.cell? ⟨gb, k, none⟩ = some (.string (nmS (ixT g k))) := by
        rw [World.ownsRow.cellAt HR1.out k (by omega)]
        exact HKI.out k hk
      have ck : wr.cell? ⟨gb, k, none⟩ = some (.string (nmS (ixT g k))) := (hB.cell (p := ⟨gb, k, none⟩) hgb).trans ck
      have hNr := HN1.out.fr (S := fun _ => False) (Fr.of_below hB) (fun h => h) (fun h => h)
      have r2 := hNr.c2
      have hlk := hNr.tab.look (HIM.out k hk).1
      rw [(HAT.out k hk).1] at hlk
      unfold rwC at hlk
      have hd : decide ((k : Int) < (n : Int)) = true := decide_eq_true (by omega)
      have j0 : (0 : Int) ≤ (k : Int) := by omega
      have j1 : (k : Int) < (n : Int) := by omega
      have hz := hB.size
      have HFL := Lib.hid (show flatC (rwC g) (k + 1) = flatC (rwC g) k ++ [.string (nmS (ixT g k)), .int .i64 (rwT g k).ref, .int .i64 (rwT g k).cnt, .int .i64 (rwT g k).node] from rfl)
      generalize nmS (ixT g k) = s at ck hlk HFL
      generalize rwT g k = r at hlk HFL
      obtain ⟨r1, r3, r4⟩ := r
      dsimp only at hlk HFL
      clear hNr hown hB
      go_wp2_with (at_builtin; refine wpList_append_lies _ rfl _ _ 281 rfl w1.heap.size 158 i0 _ 4 40 Tryz.underlying281 hi jz0 jz1 jz2 rfl (by omega) (.slice Ao k co) k (flatC (rwC g) k) rfl (HO.out.alloc _) ⟨wr.heap.size, 0, none⟩ 1 1 [.string s, .int .i64 r1, .int .i64 r3, .int .i64 r4] rfl rfl (cell_four_new _ _ _ _ _ _) (by simp [Value.oneCell']) (by omega) (by unfold maxLen; omega) (by omega) (by simp; omega) (wr.heap.size + 1) (by simp) ?_; intro gn cn w2 hown2 hgrow2 hat2 hlt2; have HO2 := Lib.hid hown2; have HG2 := Lib.hid hgrow2; have HA2 := Lib.hid hat2; clear hown2 hgrow2 hat2 hlt2)
      exact ⟨⟨k + 1, _, rfl, by omega, by go_num, by rw [HFL.out]; exact HO2.out, (HB.out.alloc hz _).grown HG2.out (by simp; omega) (fun b hb => (HO.out.lt b hb).1)⟩, by simp [intOf]; omega⟩
    · have hd : decide ((k : Int) < (n : Int)) = false := decide_eq_false (by omega)
      obtain rfl : k = n := by omega
      go_wp2_with fail
      go_ret
      exact ⟨_, rfl, by rw [HCN.out]; exact own_mono HO.out HB1.out.size, HB1.out.trans (HB.out.mono HB1.out.size)⟩
end Go.Proofs.YthgbcgphkddmgaaGreat.Nm
namespace Go.Proofs.YthgbcgphkddmgaaGreat.Nm
open Go.RowKit Go.Maps
set_option linter.unusedVariables false
set_option linter.unusedSimpArgs false
/-- the first rows whose names are bound -/
def bndT (g : Nat → Option RW) (k : Nat) : List Nat := (List.range k).filter fun j => decide (0 < (rwT g j).ref)
theorem bndT_succ (g : Nat → Option RW) (k : Nat) : bndT g (k + 1) = bndT g k ++ (if 0 < (rwT g k).ref then [k] else []) := by
  unfold bndT
  rw [List.range_succ, List.filter_append]
  congr 1
  by_cases h : 0 < (rwT g k).ref <;> simp [h]
def allC (g : Nat → Option RW) (L : List Nat) (i : Nat) : List Value := [.string (nmS (ixT g (L.getD i 0))), .int .i64 (rwT g (L.getD i 0)).ref]
theorem bndT_len (g : Nat → Option RW) (k : Nat) : (bndT g k).length ≤ k := by
  unfold bndT
  exact Nat.le_trans (List.length_filter_le _ _) (by simp)
theorem infoNa : (Tryz.prog.info? 238).map (fun i => (i.zero, i.size, i.bytes)) = some (some (.agg #[.string ⟨#[]⟩, .int .i64 0]), 2, 24) := by kernel_rfl
theorem allC_snoc (g : Nat → Option RW) (L : List Nat) (k : Nat) : flatC (allC g (L ++ [k])) (L.length + 1) = flatC (allC g L) L.length ++ [.string (nmS (ixT g k)), .int .i64 (rwT g k).ref] := by
  rw [flatC]
  congr 1
  · exact flatC_congr fun j hj => by
      unfold allC
      rw [List.getD_eq_getElem?_getD, List.getD_eq_getElem?_getD, List.getElem?_append_left hj]
  · unfold allC
    rw [List.getD_eq_getElem?_getD, List.getElem?_append_right (Nat.le_refl _)]
    simp
def AllPost (g : Nat → Option RW) (w : World) (e : Ending) (w' : World) : Prop :=
  ∃ A c, e = .returned (.slice A (bndT g (cntT g)).length c) ∧ w'.ownsRow w.heap.size 238 2 (.slice A (bndT g (cntT g)).length c) (bndT g (cntT g)).length (flatC (allC g (bndT g (cntT g))) (bndT g (cntT g)).length) ∧ Below w.heap.size w w'
set_option maxRecDepth 100000 in
set_option maxHeartbeats 4000000 in
theorem all_any (t m : Nat) (nd cnt : Int) (g : Nat → Option RW) (w : World) (hN : NmAt w t nd cnt m g) :
    Calls Tryz.prog 135 #[.pointer (some ⟨t, 0, none⟩)] w (AllPost g w) := by
  obtain ⟨i0, hi, jz0, jz1, jz2⟩ := info_parts infoNa
  have hn4 := cnt_le g
  have HST := Lib.hid (state_any t m nd cnt g w hN)
  clear hN
  unfold AllPost
  generalize hcn : cntT g = n at *
  clear hcn
  go_enter Tryz.func135, Tryz.ntmps135
  go_wp2_with fail
  refine HST.out.mono ?_
  rintro e w1 ⟨v, rfl, hrow, hb⟩
  have HR := Lib.hid hrow
  have HB1 := Lib.hid hb
  obtain ⟨A, c, rfl, -, -, -⟩ := own_any hrow
  clear hrow hb HST
  go_wp2_with fail
  go_loopw [3, 5, 9] (fun v3 _ v9 wr => ∃ (k : Nat) (A3 : Option Addr) (c3 : Nat), k ≤ n ∧ v9 = .int .i64 (k : Int) ∧ v3 = .slice A3 (bndT g k).length c3 ∧ Hid (wr.ownsRow w1.heap.size 238 2 (.slice A3 (bndT g k).length c3) (bndT g k).length (flatC (allC g (bndT g k)) (bndT g k).length)) ∧ Hid (Below w1.heap.size w1 wr)) (fun _ _ v9 _ => n - (intOf v9).toNat)
  case atStart => exact ⟨0, none, 0, Nat.zero_le _, rfl, rfl, Lib.hid (World.ownsRow_nil _ _ _ _), Lib.hid (Below.refl _ _)⟩
  case round =>
    obtain ⟨k, A3, c3, hk, rfl, rfl, HO, HB⟩ := hrel
    by_cases hlt : k < n
    · have hr := own_keep HR.out HB.out
      obtain ⟨gb, cap, hv, -, hgb, -⟩ := own_form hr (by omega)
      injection hv with e1 _ e3
      subst e1 e3
      have x0 : wr.cell? ⟨gb, k * 4, none⟩ = some (.string (nmS (ixT g k))) := by have := own_cellC hr (fun _ => rfl) hlt (j := 0) (by omega); simpa [rwC] using this
      have x1 : wr.cell? ⟨gb, k * 4 + 1, none⟩ = some (.int .i64 (rwT g k).ref) := by have := own_cellC hr (fun _ => rfl) hlt (j := 1) (by omega); simpa [rwC] using this
      have x2 : wr.cell? ⟨gb, k * 4 + 2, none⟩ = some (.int .i64 (rwT g k).cnt) := by have := own_cellC hr (fun _ => rfl) hlt (j := 2) (by omega); simpa [rwC] using this
      have x3 : wr.cell? ⟨gb, k * 4 + 3, none⟩ = some (.int .i64 (rwT g k).node) := by have := own_cellC hr (fun _ => rfl) hlt (j := 3) (by omega); simpa [rwC] using this
      have i1 : (0 : Int) ≤ (k : Int) := by omega
      have i2 : (k : Int) < (n : Int) := by omega
      have hz := HB.out.size
      have HBS := Lib.hid (bndT_succ g k)
      have HLn := Lib.hid (bndT_len g k)
      have hln := bndT_len g k
      have HSN := Lib.hid (allC_snoc g (bndT g k) k)
      obtain ⟨nm, hnm⟩ : ∃ nm, nmS (ixT g k) = nm := ⟨_, rfl⟩
      obtain ⟨rf, hrf⟩ : ∃ rf, (rwT g k).ref = rf := ⟨_, rfl⟩
      rw [hnm] at x0 HSN
      rw [hrf] at x1 HBS HSN
      clear hr hnm hrf
      by_cases hp : 0 < rf
      · have d1 : decide (rf > (0 : Int)) = true := decide_eq_true (by omega)
        rw [if_pos hp] at HBS
        clear hp
        go_wp2_with (at_builtin; go_loud (refine wpList_append_lies _ rfl _ _ 235 rfl w1.heap.size 238 i0 _ 2 24 Tryz.underlying235 hi jz0 jz1 jz2 rfl (by omega) (.slice A3 (bndT g k).length c3) (bndT g k).length (flatC (allC g (bndT g k)) (bndT g k).length) rfl ((HO.out.alloc _).alloc _) ⟨wr.heap.size + 1, 0, none⟩ 1 1 [.string nm, .int .i64 rf] rfl rfl (cell_newL _ _ _ _ (by simp)) (by intro u hu; simp at hu; rcases hu with rfl | rfl <;> rfl) (by omega) (by unfold maxLen; omega) (by omega) (by simp; omega) (wr.heap.size + 2) (by simp) ?_; intro gn cn w2 hown2 hgrow2 hat2 hlt2; have HO2 := Lib.hid hown2; have HG2 := Lib.hid hgrow2; have HA2 := Lib.hid hat2; clear hown2 hgrow2 hat2 hlt2))
        refine ⟨⟨k + 1, some ⟨gn, 0, none⟩, cn, by omega, by go_num, by rw [HBS.out, List.length_append, List.length_singleton], Lib.hid ?_, Lib.hid ?_⟩, by simp [intOf]; omega⟩
        · rw [HBS.out, List.length_append, List.length_singleton, HSN.out]
          exact HO2.out
        · exact ((HB.out.alloc hz _).alloc (by simp; omega) _).grown HG2.out (by simp; omega) (fun b hb => (HO.out.lt b hb).1)
      · have d1 : decide (rf > (0 : Int)) = false := decide_eq_false (by omega)
        rw [if_neg hp, List.append_nil] at HBS
        clear hp
        go_wp2_with fail
        exact ⟨⟨k + 1, A3, c3, by omega, by go_num, by rw [HBS.out], Lib.hid (by rw [HBS.out]; exact HO.out.alloc _), Lib.hid (HB.out.alloc hz _)⟩, by simp [intOf]; omega⟩
    · obtain rfl : k = n := by omega
      go_wp2_with fail
      go_ret
      exact ⟨A3, c3, rfl, own_mono HO.out HB1.out.size, HB1.out.trans (HB.out.mono HB1.out.size)⟩
end Go.Proofs.YthgbcgphkddmgaaGreat.Nm
