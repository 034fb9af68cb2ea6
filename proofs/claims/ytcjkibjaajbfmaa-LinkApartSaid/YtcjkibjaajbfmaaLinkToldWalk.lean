/- The walk of the law LinkTold. -/
import Derived.Test.YtcjkibjaajbfmaaLinkLaw
import Derived.IntWalk
namespace Go.Proofs.Ytcjkibjaajbfmaa
open Go.RowKit Go.ChangeShapes Go.WideShapes
set_option linter.unusedVariables false
theorem told1_cl : EqRow 35 := fun a A B n m c d ref b w hb hc => by
  go_enter Try.func35, Try.ntmps35
  go_wp2_with fail
  go_ret
  exact ⟨rfl, (Below.refl _ _).alloc (Nat.le_refl _) _⟩
theorem told1_enters : Enters Try.prog 35 := fun _ _ => by kernel_rfl
theorem okL_del {R : Nat → LR} {n i : Nat} (h : OkL R n) (hi : i < n) : OkL (delF R i) (n - 1) := by
  refine ⟨by have := h.1; omega, fun k hk => ?_⟩
  have e : delF R i k = R (if k < i then k else k + 1) := by unfold delF; split <;> rfl
  have hx : (if k < i then k else k + 1) < n := by split <;> omega
  obtain ⟨h1, h2, h3, h4, h5⟩ := h.2 _ hx
  refine ⟨by rw [e]; exact h1, by rw [e]; exact h2, by rw [e]; exact h3, fun h0 => ?_, by rw [e]; exact h5⟩
  have e2 : delF R i (k - 1) = R (if k - 1 < i then k - 1 else k - 1 + 1) := by unfold delF; split <;> rfl
  rw [e, e2]
  exact h.mono _ _ (by split <;> split <;> omega) hx
theorem del_gone {R : Nat → LR} {n i : Nat} {ref : Int} (h : OkIx R n ref i) : ¬ ∃ j, OkIx (delF R i) (n - 1) ref j := by
  rintro ⟨j, hj⟩
  have e : delF R i j = R (if j < i then j else j + 1) := by unfold delF; split <;> rfl
  have hx : (if j < i then j else j + 1) < n := by have := hj.2.1; have := h.2.1; split <;> omega
  have h2 := hj.2.2
  rw [e] at h2
  have := h.uniq (⟨h.1, hx, h2⟩ : OkIx R n ref (if j < i then j else j + 1))
  split at this <;> omega
def wantL (failed : Bool) (r : LR) : List Int := r.ws ++ if failed then r.ls else []
theorem wantL_len (failed : Bool) (r : LR) : (wantL failed r).length = manyTold failed r := by
  unfold wantL manyTold
  cases failed <;> simp
theorem told_is (ref : Int) (failed : Bool) (text : ByteArray) (r : LR) {k : Nat} (hk : k < manyTold failed r) :
    ∃ (kd num : Int) (tx : ByteArray), told ref failed text r k = ltC kd ref (lst (wantL failed r) k) num tx ∧ (kd = 2 ∨ kd = 5 ∧ failed = true) := by
  unfold told
  by_cases h : k < r.ws.length
  · rw [if_pos h]
    refine ⟨2, if failed then 1 else 0, if failed then text else ⟨#[]⟩, ?_, .inl rfl⟩
    have e : lst (wantL failed r) k = lst r.ws k := by unfold lst wantL; rw [List.getD_eq_getElem?_getD, List.getD_eq_getElem?_getD, List.getElem?_append_left h]
    rw [e]
  · rw [if_neg h]
    cases failed with
    | false => unfold manyTold at hk; simp at hk; omega
    | true =>
      refine ⟨5, 0, text, ?_, .inr ⟨rfl, rfl⟩⟩
      have e : lst (wantL true r) k = lst r.ls (k - r.ws.length) := by
        unfold lst wantL
        rw [List.getD_eq_getElem?_getD, List.getD_eq_getElem?_getD, List.getElem?_append_right (by omega)]
        rfl
      rw [e]
theorem take_snocL (l : List Int) {q : Nat} (h : q < l.length) : l.take (q + 1) = l.take q ++ [lst l q] := by
  rw [List.take_succ_eq_append_getElem h]
  simp [lst, h]
set_option maxRecDepth 100000 in
set_option maxHeartbeats 4000000 in
theorem linkTold_bad (A : Option Addr) (n c : Nat) (R : Nat → LR) (vw vl : Nat → Value) (ref : Int) (failed : Bool) (text : ByteArray) (w : World) (hn : n ≤ c) (hc : c ≤ 9223372036854775807) (hR : RdL w A n R vw vl) (hi : ¬ ∃ i, OkIx R n ref i) :
    Calls Try.prog 10 #[.slice A n c, .int .i64 ref, .bool failed, .string text] w fun e w' => e = .returned (.bool true) ∧ Below w.heap.size w w' := by
  have HR := Lib.hid hR
  have HI := Lib.hid hi
  clear hR hi
  go_enter Try.func10, Try.ntmps10
  go_wp2_with fail
  refine (gone_bad A n c R vw vl ref failed text _ hn hc (HR.out.below ((Below.refl _ _).alloc (Nat.le_refl _) _)) HI.out).mono ?_
  rintro e w1 ⟨y, hy, h4, rfl, hb⟩
  have HB1 := Lib.hid (((Below.refl w.heap.size w).alloc (Nat.le_refl _) (.cells #[.int .i64 ref] 3)).trans (hb.mono (by simp)))
  have c0 : w1.cell? ⟨w.heap.size, 0, none⟩ = some (.int .i64 ref) := (hb.cell (p := ⟨_, _, none⟩) (by simp)).trans (by simp [go_sem])
  have hz : w.heap.size < w1.heap.size := by have := hb.size; simp at this; omega
  have e0 : (y != 0) = true := by simpa using hy
  clear hb hy h4
  go_wp2_with fail
  refine (ix_row _ told1_enters told1_cl A n c R vw vl ref w.heap.size _ (by omega) (HR.out.below HB1.out) hz c0).mono ?_
  rintro e w2 ⟨rfl, hb2⟩
  have HB2 := Lib.hid (HB1.out.trans (hb2.mono HB1.out.size))
  clear hb2 c0
  go_wp2_with fail
  refine (links_any _).mono ?_
  rintro e w3 ⟨rfl, hb3⟩
  have HB3 := Lib.hid (HB2.out.trans (hb3.mono HB2.out.size))
  clear hb3
  go_wp2_with fail
  refine (links_any _).mono ?_
  rintro e w4 ⟨rfl, hb4⟩
  have HB4 := Lib.hid (HB3.out.trans (hb4.mono HB3.out.size))
  clear hb4
  go_wp2_with fail
  go_ret
  exact ⟨rfl, HB4.out⟩
set_option maxRecDepth 100000 in
set_option maxHeartbeats 8000000 in
theorem linkTold_false (A : Option Addr) (n c : Nat) (R : Nat → LR) (vw vl : Nat → Value) (ref : Int) (text : ByteArray) (i : Nat) (w : World) (hn : n ≤ c) (hc : c ≤ 9223372036854775807) (hR : RdL w A n R vw vl) (hi : OkIx R n ref i) :
    Calls Try.prog 10 #[.slice A n c, .int .i64 ref, .bool false, .string text] w fun e w' => e = .returned (.bool true) ∧ Below w.heap.size w w' := by
  have HR := Lib.hid hR
  have HI := Lib.hid hi
  have hin := hi.2.1
  have hw100 := (hi.1.2 i hi.2.1).2.1
  have hl100 := (hi.1.2 i hi.2.1).2.2.1
  have hn100 := hi.1.1
  have hm200 : manyTold false (R i) ≤ 200 := by unfold manyTold; simp only [Bool.false_eq_true, if_false]; omega
  clear hR hi
  go_enter Try.func10, Try.ntmps10
  go_wp2_with fail
  refine (gone_ok A n c R vw vl ref false text i _ hn hc (HR.out.below ((Below.refl _ _).alloc (Nat.le_refl _) _)) HI.out).mono ?_
  rintro e w1 ⟨A1, c1, vw1, vl1, L, d1, rfl, hO1, hL1, hb⟩
  obtain ⟨_, _, el, hld1, hld2, _⟩ := own_any hL1
  injection el with el1 _ el3
  subst el1 el3
  obtain ⟨_, _, ea, had1, had2, _⟩ := own_any hO1.row
  injection ea with ea1 _ ea3
  subst ea1 ea3
  have HB1 := Lib.hid (((Below.refl w.heap.size w).alloc (Nat.le_refl _) (.cells #[.int .i64 ref] 3)).trans (hb.mono (by simp)))
  have c0 : w1.cell? ⟨w.heap.size, 0, none⟩ = some (.int .i64 ref) := (hb.cell (p := ⟨_, _, none⟩) (by simp)).trans (by simp [go_sem])
  have C0 := Lib.hid c0
  have hz : w.heap.size < w1.heap.size := by have := hb.size; simp at this; omega
  have HLT := Lib.hid (show Rd w1 9 (told ref false text (R i)) L (manyTold false (R i)) from Rd.of_own (told_len _ _ _ _) hL1)
  have HRA := Lib.hid hO1.rd
  have HX := Lib.hid (show ixOf (refB R ref) n = i from HI.out.ix)
  generalize hm : manyTold false (R i) = m at *
  have HM := Lib.hid hm
  clear hb hO1 hL1 hm
  go_wp2_with fail
  refine (ix_row _ told1_enters told1_cl A n c R vw vl ref w.heap.size _ (by omega) (HR.out.below HB1.out) hz c0).mono ?_
  rintro e w2 ⟨rfl, hb2⟩
  rw [HX.out]
  have HB2 := Lib.hid (HB1.out.trans (hb2.mono HB1.out.size))
  have HB12 := Lib.hid hb2
  have i0 : ¬ ((i : Int) < 0) := by omega
  clear hb2 c0
  go_wp2_with fail
  refine (links_any _).mono ?_
  rintro e w3 ⟨rfl, hb3⟩
  have HB3 := Lib.hid (HB2.out.trans (hb3.mono HB2.out.size))
  have HB13 := Lib.hid (HB12.out.trans (hb3.mono HB12.out.size))
  clear hb3
  go_wp2_with fail
  go_loopw [8, 13, 15, 57] (fun _ t _ x wr => ∃ (k : Nat) (v : Value), k ≤ m ∧ x = .int .i64 k ∧ v = t ∧ OwnI wr w3.heap.size v ((wantL false (R i)).take k) ∧ Below w3.heap.size w3 wr) (fun _ _ _ x _ => m - (intOf x).toNat)
  case atStart => exact ⟨0, _, Nat.zero_le _, rfl, rfl, OwnI.nil _ _, Below.refl _ _⟩
  case round =>
    obtain ⟨k, v, hk, rfl, rfl, hO, hB⟩ := hrel
    have HO := Lib.hid hO
    have HB := Lib.hid hB
    have hBs := hB.size
    have HBW := Lib.hid (HB3.out.trans (hB.mono HB3.out.size))
    have HB1W := Lib.hid (HB13.out.trans (hB.mono HB13.out.size))
    have htl : ((wantL false (R i)).take k).length ≤ k := List.length_take_le _ _
    have hzr : w.heap.size < wr.heap.size := by have := HB1W.out.size; omega
    have r0 : wr.cell? ⟨w.heap.size, 0, none⟩ = some (.int .i64 ref) := (HB1W.out.cell (p := ⟨_, _, none⟩) hz).trans C0.out
    obtain ⟨At, ct, rfl, t1, t2, t3⟩ := own_any hO
    by_cases hlt : k < m
    · obtain ⟨b, off, rfl, hb0, hcell⟩ := (HLT.out.below HB1W.out) (by omega)
      obtain ⟨kd, num, tx, htd, hkd⟩ := told_is ref false text (R i) (by rw [HM.out]; exact hlt : k < manyTold false (R i))
      have HTS := Lib.hid (take_snocL (wantL false (R i)) (by rw [wantL_len, HM.out]; exact hlt : k < (wantL false (R i)).length))
      have q := hcell k hlt
      rw [htd] at q
      generalize lst (wantL false (R i)) k = z at *
      have l0 := q 0 _ rfl
      have l1 := q 1 _ rfl
      have l2 := q 2 _ rfl
      have l3 := q 3 _ rfl
      have l4 := q 4 _ rfl
      have l5 := q 5 _ rfl
      have l6 := q 6 _ rfl
      have l7 := q 7 _ rfl
      have l8 := q 8 _ rfl
      simp only [Nat.add_zero] at l0
      have m0 : (0 : Int) ≤ (k : Int) := by omega
      have m1 : (k : Int) < (m : Int) := by omega
      have HTL := Lib.hid (show ((wantL false (R i)).take k).length ≤ 1000000 by omega)
      clear hcell q htd hO hB t3
      rcases hkd with rfl | ⟨rfl, hff⟩
      all_goals first | (cases hff; done) | skip
      all_goals (try clear hff)
      all_goals
        go_wp2_with (at_builtin; go_loud (refine wpList_append_int rfl _ _ rfl w3.heap.size (.slice At ((wantL false (R i)).take k).length ct) ((wantL false (R i)).take k) rfl (HO.out.alloc _) (wr.heap.size + 1) (by simp) z rfl HTL.out (by simp; omega) ?_; intro v4 w4 hown4 hgrow4 hat4; have HO4 := Lib.hid hown4; have HG4 := Lib.hid hgrow4; clear hown4 hgrow4 hat4))
        refine ⟨⟨k + 1, v4, by omega, by go_num, rfl, ?_, ?_⟩, by simp [intOf]; omega⟩
        · rw [HTS.out]
          exact HO4.out
        · exact below_grown (HB.out.alloc hBs _) (by simp; omega) HG4.out (fun g hg => (HO.out.blk g hg).1)
    · obtain rfl : k = m := by omega
      have hwl := wantL_len false (R i)
      rw [HM.out] at hwl
      obtain ⟨bq, oq, rfl, hbq, hcq⟩ := (HR.out.row.below HBW.out) (by omega)
      obtain ⟨hSw, hSl⟩ := HR.out.each i hin
      have hSw' := hSw
      have hSl' := hSl
      obtain ⟨wA, wc, hvw, w1', w2', w3', hrw⟩ := hSw'
      obtain ⟨lA, lc, hvl, l1', l2', l3', hrl⟩ := hSl'
      have q1 : wr.cell? ⟨bq, oq + i * 3 + 1, none⟩ = some (.slice wA (R i).ws.length wc) := hcq i hin 1 _ (by simp [rwC, hvw])
      have q2 : wr.cell? ⟨bq, oq + i * 3 + 2, none⟩ = some (.slice lA (R i).ls.length lc) := hcq i hin 2 _ (by simp [rwC, hvl])
      rw [hvw] at hSw
      rw [hvl] at hSl
      have HSW := Lib.hid (hSw.below HBW.out)
      have HSL := Lib.hid (hSl.below HBW.out)
      have HSA := Lib.hid l3'
      have m0 : (0 : Int) ≤ (i : Int) := by omega
      have m1 : (i : Int) < (n : Int) := by omega
      have hO' : OwnI wr w3.heap.size (.slice At ((wantL false (R i)).take k).length ct) (wantL false (R i)) := by
        have h := HO.out
        rw [List.take_of_length_le (show (wantL false (R i)).length ≤ k by omega)] at h ⊢
        exact h
      have HOW := Lib.hid hO'
      have HWLN := Lib.hid (show ((wantL false (R i)).take k).length = (wantL false (R i)).length by rw [List.take_of_length_le (show (wantL false (R i)).length ≤ k by omega)])
      have HWL := Lib.hid hwl
      clear hO hB hcq hSw hSl hrw hrl hvw hvl w3' l3' t3 hO' hwl HO
      generalize ((wantL false (R i)).take k).length = tl at *
      go_wp2_with fail
      refine (cloneSl wA wc (R i).ws wr HSW.out (by omega)).mono ?_
      rintro e w5 ⟨A5, c5, rfl, hown5, hb5⟩
      have hs5 := hb5.size
      have HO5 := Lib.hid hown5
      have HB5 := Lib.hid (HBW.out.trans (hb5.mono HBW.out.size))
      have HB15 := Lib.hid (HB1W.out.trans (hb5.mono HB1W.out.size))
      have HOW5 := Lib.hid (HOW.out.below hb5)
      have HSL5 := Lib.hid (HSL.out.below hb5)
      have q2 : w5.cell? ⟨bq, oq + i * 3 + 2, none⟩ = some (.slice lA (R i).ls.length lc) := (hb5.cell (p := ⟨bq, _, none⟩) hbq).trans q2
      have r0 : w5.cell? ⟨w.heap.size, 0, none⟩ = some (.int .i64 ref) := (hb5.cell (p := ⟨_, _, none⟩) hzr).trans r0
      clear hown5 hb5 q1
      go_wp2_with fail
      refine (gone_bad A1 (n - 1) c1 (delF R i) vw1 vl1 ref false text _ had1 had2 (HRA.out.below HB15.out) (del_gone HI.out)).mono ?_
      rintro e w7 ⟨y, hy, h4, rfl, hb7⟩
      obtain rfl : y = 4 := h4 (okL_del HI.out.1 hin)
      have HB7 := Lib.hid ((HB5.out).trans (hb7.mono (HB5.out).size))
      have HW7 := Lib.hid ((HOW5.out).below hb7)
      have HC7 := Lib.hid (HO5.out.below hb7)
      have e1 : IntKind.i64.wrap ((n : Int) - 1) = (n : Int) - 1 := by rw [IntWalk.i64_in _ (by omega)]
      have e2 : (((n - 1 : Nat) : Int) == (n : Int) - 1) = true := by simp; omega
      clear hb7 hy h4
      go_wp2_with fail
      refine (equalI_lists At A5 tl _ ct c5 (wantL false (R i)) _ (by rw [← HWLN.out]) (by simp [wantL]) (by have := HWL.out; omega) (OwnI.rd (n := tl) (c := ct) (by exact HW7.out)) ?_).mono ?_
      · have h := HC7.out.rd
        simpa [wantL] using h
      · rintro e w8 ⟨rfl, hb8⟩
        have HB8 := Lib.hid (HB7.out.trans (hb8.mono HB7.out.size))
        clear hb8
        go_wp2_with fail
        go_ret
        exact ⟨rfl, HB8.out⟩
set_option maxRecDepth 100000 in
set_option maxHeartbeats 8000000 in
theorem linkTold_true (A : Option Addr) (n c : Nat) (R : Nat → LR) (vw vl : Nat → Value) (ref : Int) (text : ByteArray) (i : Nat) (w : World) (hn : n ≤ c) (hc : c ≤ 9223372036854775807) (hR : RdL w A n R vw vl) (hi : OkIx R n ref i) :
    Calls Try.prog 10 #[.slice A n c, .int .i64 ref, .bool true, .string text] w fun e w' => e = .returned (.bool true) ∧ Below w.heap.size w w' := by
  have HR := Lib.hid hR
  have HI := Lib.hid hi
  have hin := hi.2.1
  have hw100 := (hi.1.2 i hi.2.1).2.1
  have hl100 := (hi.1.2 i hi.2.1).2.2.1
  have hn100 := hi.1.1
  have hm200 : manyTold true (R i) ≤ 200 := by unfold manyTold; simp only [if_true]; omega
  clear hR hi
  go_enter Try.func10, Try.ntmps10
  go_wp2_with fail
  refine (gone_ok A n c R vw vl ref true text i _ hn hc (HR.out.below ((Below.refl _ _).alloc (Nat.le_refl _) _)) HI.out).mono ?_
  rintro e w1 ⟨A1, c1, vw1, vl1, L, d1, rfl, hO1, hL1, hb⟩
  obtain ⟨_, _, el, hld1, hld2, _⟩ := own_any hL1
  injection el with el1 _ el3
  subst el1 el3
  obtain ⟨_, _, ea, had1, had2, _⟩ := own_any hO1.row
  injection ea with ea1 _ ea3
  subst ea1 ea3
  have HB1 := Lib.hid (((Below.refl w.heap.size w).alloc (Nat.le_refl _) (.cells #[.int .i64 ref] 3)).trans (hb.mono (by simp)))
  have c0 : w1.cell? ⟨w.heap.size, 0, none⟩ = some (.int .i64 ref) := (hb.cell (p := ⟨_, _, none⟩) (by simp)).trans (by simp [go_sem])
  have C0 := Lib.hid c0
  have hz : w.heap.size < w1.heap.size := by have := hb.size; simp at this; omega
  have HLT := Lib.hid (show Rd w1 9 (told ref true text (R i)) L (manyTold true (R i)) from Rd.of_own (told_len _ _ _ _) hL1)
  have HRA := Lib.hid hO1.rd
  have HX := Lib.hid (show ixOf (refB R ref) n = i from HI.out.ix)
  generalize hm : manyTold true (R i) = m at *
  have HM := Lib.hid hm
  clear hb hO1 hL1 hm
  go_wp2_with fail
  refine (ix_row _ told1_enters told1_cl A n c R vw vl ref w.heap.size _ (by omega) (HR.out.below HB1.out) hz c0).mono ?_
  rintro e w2 ⟨rfl, hb2⟩
  rw [HX.out]
  have HB2 := Lib.hid (HB1.out.trans (hb2.mono HB1.out.size))
  have HB12 := Lib.hid hb2
  have i0 : ¬ ((i : Int) < 0) := by omega
  clear hb2 c0
  go_wp2_with fail
  refine (links_any _).mono ?_
  rintro e w3 ⟨rfl, hb3⟩
  have HB3 := Lib.hid (HB2.out.trans (hb3.mono HB2.out.size))
  have HB13 := Lib.hid (HB12.out.trans (hb3.mono HB12.out.size))
  clear hb3
  go_wp2_with fail
  go_loopw [8, 13, 15, 57] (fun _ t _ x wr => ∃ (k : Nat) (v : Value), k ≤ m ∧ x = .int .i64 k ∧ v = t ∧ OwnI wr w3.heap.size v ((wantL true (R i)).take k) ∧ Below w3.heap.size w3 wr) (fun _ _ _ x _ => m - (intOf x).toNat)
  case atStart => exact ⟨0, _, Nat.zero_le _, rfl, rfl, OwnI.nil _ _, Below.refl _ _⟩
  case round =>
    obtain ⟨k, v, hk, rfl, rfl, hO, hB⟩ := hrel
    have HO := Lib.hid hO
    have HB := Lib.hid hB
    have hBs := hB.size
    have HBW := Lib.hid (HB3.out.trans (hB.mono HB3.out.size))
    have HB1W := Lib.hid (HB13.out.trans (hB.mono HB13.out.size))
    have htl : ((wantL true (R i)).take k).length ≤ k := List.length_take_le _ _
    have hzr : w.heap.size < wr.heap.size := by have := HB1W.out.size; omega
    have r0 : wr.cell? ⟨w.heap.size, 0, none⟩ = some (.int .i64 ref) := (HB1W.out.cell (p := ⟨_, _, none⟩) hz).trans C0.out
    obtain ⟨At, ct, rfl, t1, t2, t3⟩ := own_any hO
    by_cases hlt : k < m
    · obtain ⟨b, off, rfl, hb0, hcell⟩ := (HLT.out.below HB1W.out) (by omega)
      obtain ⟨kd, num, tx, htd, hkd⟩ := told_is ref true text (R i) (by rw [HM.out]; exact hlt : k < manyTold true (R i))
      have HTS := Lib.hid (take_snocL (wantL true (R i)) (by rw [wantL_len, HM.out]; exact hlt : k < (wantL true (R i)).length))
      have q := hcell k hlt
      rw [htd] at q
      generalize lst (wantL true (R i)) k = z at *
      have l0 := q 0 _ rfl
      have l1 := q 1 _ rfl
      have l2 := q 2 _ rfl
      have l3 := q 3 _ rfl
      have l4 := q 4 _ rfl
      have l5 := q 5 _ rfl
      have l6 := q 6 _ rfl
      have l7 := q 7 _ rfl
      have l8 := q 8 _ rfl
      simp only [Nat.add_zero] at l0
      have m0 : (0 : Int) ≤ (k : Int) := by omega
      have m1 : (k : Int) < (m : Int) := by omega
      have HTL := Lib.hid (show ((wantL true (R i)).take k).length ≤ 1000000 by omega)
      clear hcell q htd hO hB t3
      rcases hkd with rfl | ⟨rfl, hff⟩
      all_goals first | (cases hff; done) | skip
      all_goals (try clear hff)
      all_goals
        go_wp2_with (at_builtin; go_loud (refine wpList_append_int rfl _ _ rfl w3.heap.size (.slice At ((wantL true (R i)).take k).length ct) ((wantL true (R i)).take k) rfl (HO.out.alloc _) (wr.heap.size + 1) (by simp) z rfl HTL.out (by simp; omega) ?_; intro v4 w4 hown4 hgrow4 hat4; have HO4 := Lib.hid hown4; have HG4 := Lib.hid hgrow4; clear hown4 hgrow4 hat4))
        refine ⟨⟨k + 1, v4, by omega, by go_num, rfl, ?_, ?_⟩, by simp [intOf]; omega⟩
        · rw [HTS.out]
          exact HO4.out
        · exact below_grown (HB.out.alloc hBs _) (by simp; omega) HG4.out (fun g hg => (HO.out.blk g hg).1)
    · obtain rfl : k = m := by omega
      have hwl := wantL_len true (R i)
      rw [HM.out] at hwl
      obtain ⟨bq, oq, rfl, hbq, hcq⟩ := (HR.out.row.below HBW.out) (by omega)
      obtain ⟨hSw, hSl⟩ := HR.out.each i hin
      have hSw' := hSw
      have hSl' := hSl
      obtain ⟨wA, wc, hvw, w1', w2', w3', hrw⟩ := hSw'
      obtain ⟨lA, lc, hvl, l1', l2', l3', hrl⟩ := hSl'
      have q1 : wr.cell? ⟨bq, oq + i * 3 + 1, none⟩ = some (.slice wA (R i).ws.length wc) := hcq i hin 1 _ (by simp [rwC, hvw])
      have q2 : wr.cell? ⟨bq, oq + i * 3 + 2, none⟩ = some (.slice lA (R i).ls.length lc) := hcq i hin 2 _ (by simp [rwC, hvl])
      rw [hvw] at hSw
      rw [hvl] at hSl
      have HSW := Lib.hid (hSw.below HBW.out)
      have HSL := Lib.hid (hSl.below HBW.out)
      have HSA := Lib.hid l3'
      have m0 : (0 : Int) ≤ (i : Int) := by omega
      have m1 : (i : Int) < (n : Int) := by omega
      have hO' : OwnI wr w3.heap.size (.slice At ((wantL true (R i)).take k).length ct) (wantL true (R i)) := by
        have h := HO.out
        rw [List.take_of_length_le (show (wantL true (R i)).length ≤ k by omega)] at h ⊢
        exact h
      have HOW := Lib.hid hO'
      have HWLN := Lib.hid (show ((wantL true (R i)).take k).length = (wantL true (R i)).length by rw [List.take_of_length_le (show (wantL true (R i)).length ≤ k by omega)])
      have HWL := Lib.hid hwl
      clear hO hB hcq hSw hSl hrw hrl hvw hvl w3' l3' t3 hO' hwl HO
      generalize ((wantL true (R i)).take k).length = tl at *
      go_wp2_with fail
      refine (cloneSl wA wc (R i).ws wr HSW.out (by omega)).mono ?_
      rintro e w5 ⟨A5, c5, rfl, hown5, hb5⟩
      have hs5 := hb5.size
      have HO5 := Lib.hid hown5
      have HB5 := Lib.hid (HBW.out.trans (hb5.mono HBW.out.size))
      have HB15 := Lib.hid (HB1W.out.trans (hb5.mono HB1W.out.size))
      have HOW5 := Lib.hid (HOW.out.below hb5)
      have HSL5 := Lib.hid (HSL.out.below hb5)
      have q2 : w5.cell? ⟨bq, oq + i * 3 + 2, none⟩ = some (.slice lA (R i).ls.length lc) := (hb5.cell (p := ⟨bq, _, none⟩) hbq).trans q2
      have r0 : w5.cell? ⟨w.heap.size, 0, none⟩ = some (.int .i64 ref) := (hb5.cell (p := ⟨_, _, none⟩) hzr).trans r0
      clear hown5 hb5 q1
      obtain ⟨lA0, lc0, elA, g1, g2, g3, g4⟩ := HSL5.out
      injection elA with elA1 _ elA3
      subst elA1 elA3
      have HG3 := Lib.hid g3
      have HG4' := Lib.hid g4
      clear g3 g4
      go_wp2_with (at_builtin; go_loud (refine wpList_append_ints rfl _ _ rfl wr.heap.size (.slice A5 (R i).ws.length c5) (R i).ws rfl HO5.out lA (R i).ls lc rfl HG3.out HG4'.out (by omega) (by omega) ?_; intro v6 w6 hown6 hgrow6 hat6; obtain ⟨A6, c6, rfl, _, _, _⟩ := own_any hown6; have s0 : w6.cell? ⟨w.heap.size, 0, none⟩ = some (.int .i64 ref) := (grown_cell hgrow6 (by omega) (fun e => by have := (HO5.out.blk _ e.symm).1; omega)).trans r0; clear q2 r0; have HO6 := Lib.hid hown6; have HG6 := Lib.hid hgrow6; clear hown6 hgrow6 hat6))
      have HB6 := Lib.hid (below_grown HB5.out HB5.out.size HG6.out (fun g hg => by have := (HO5.out.blk g hg).1; omega))
      have HB16 := Lib.hid (below_grown HB15.out HB15.out.size HG6.out (fun g hg => by have := (HO5.out.blk g hg).1; have := HB1W.out.size; omega))
      have HOW6 := Lib.hid (HOW5.out.grown HG6.out (fun g hg e => by have h1 := (HO5.out.blk g e).1; have h2 := (HOW.out.blk g hg).2; omega))
      refine (gone_bad A1 (n - 1) c1 (delF R i) vw1 vl1 ref true text _ had1 had2 (HRA.out.below HB16.out) (del_gone HI.out)).mono ?_
      rintro e w7 ⟨y, hy, h4, rfl, hb7⟩
      obtain rfl : y = 4 := h4 (okL_del HI.out.1 hin)
      have HB7 := Lib.hid ((HB6.out).trans (hb7.mono (HB6.out).size))
      have HW7 := Lib.hid ((HOW6.out).below hb7)
      have HC7 := Lib.hid (HO6.out.below hb7)
      have e1 : IntKind.i64.wrap ((n : Int) - 1) = (n : Int) - 1 := by rw [IntWalk.i64_in _ (by omega)]
      have e2 : (((n - 1 : Nat) : Int) == (n : Int) - 1) = true := by simp; omega
      clear hb7 hy h4
      go_wp2_with fail
      refine (equalI_lists At A6 tl _ ct c6 (wantL true (R i)) _ (by rw [← HWLN.out]) (by simp [wantL]) (by have := HWL.out; omega) (OwnI.rd (n := tl) (c := ct) (by exact HW7.out)) ?_).mono ?_
      · have h := HC7.out.rd
        simpa [wantL] using h
      · rintro e w8 ⟨rfl, hb8⟩
        have HB8 := Lib.hid (HB7.out.trans (hb8.mono HB7.out.size))
        clear hb8
        go_wp2_with fail
        go_ret
        exact ⟨rfl, HB8.out⟩
set_option maxRecDepth 100000 in
theorem linkTold_walk {H : Type} {enc : TypeId × Value → H} (W : World) (base : Nat) (v0 v1 v2 v3 : Value) {d0 d1 d2 d3 : DataW H} {p0 p1 p2 p3 : List MemPlace}
    (k0 : Value.okWide Try.prog W .any base 62 v0) (k1 : Value.okWide Try.prog W .any base 3 v1) (k2 : Value.okWide Try.prog W .any base 4 v2) (k3 : Value.okWide Try.prog W .any base 9 v3)
    (h0 : DataW.Trod enc Try.prog W 0 (fun _ => true) true 62 v0 d0 p0) (h1 : DataW.Trod enc Try.prog W 0 (fun _ => true) true 3 v1 d1 p1)
    (h2 : DataW.Trod enc Try.prog W 0 (fun _ => true) true 4 v2 d2 p2) (h3 : DataW.Trod enc Try.prog W 0 (fun _ => true) true 9 v3 d3 p3) :
    Calls Try.prog 10 #[v0, v1, v2, v3] W fun e W' => e = .returned (.bool true) ∧ Below W.heap.size W W' := by
  obtain ⟨A, n, c, R, vw, vl, rfl, hn, hc, hR⟩ := open_link k0 h0
  obtain ⟨ref, rfl, _, _, _⟩ := open_int Try.underlying3 k1 h1
  obtain ⟨failed, rfl, _, _⟩ := open_bool Try.underlying4 k2 h2
  obtain ⟨text, rfl⟩ := okWide_string Try.underlying9 k3
  by_cases hi : ∃ i, OkIx R n ref i
  · obtain ⟨i, hi⟩ := hi
    cases failed with
    | false => exact linkTold_false A n c R vw vl ref text i W hn hc hR hi
    | true => exact linkTold_true A n c R vw vl ref text i W hn hc hR hi
  · exact linkTold_bad A n c R vw vl ref failed text W hn hc hR hi
end Go.Proofs.Ytcjkibjaajbfmaa
