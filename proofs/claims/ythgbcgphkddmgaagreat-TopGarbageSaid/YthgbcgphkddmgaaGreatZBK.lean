/- A quiet cluster: what is held from outside. A quiet cluster: what is known of each actor. Who can never be reached again: New, Left, Garbage. A quiet cluster: Collect. -/
import Derived.Test.YthgbcgphkddmgaaGreatZBJ
import Derived.Test.YthgbcgphkddmgaaGreatZBG
import Derived.Test.YthgbcgphkddmgaaGreatZBI
namespace Go.Proofs.YthgbcgphkddmgaaGreat
open Go.RowKit Go.Maps
set_option linter.unusedVariables false
set_option linter.unusedSimpArgs false
theorem mclone_any {w : World} {b n : Nat} {g : Int → Option Value} (h : OwnM w b n g) : Calls Tryz.prog 134 #[.map (some b)] w fun e w' => e = .returned (.map (some w.heap.size)) ∧ OwnM w' w.heap.size n g ∧ Below w.heap.size w w' := by
  obtain ⟨D, h1, h2, h3⟩ := h
  refine (Tryz.maps_Clone anyElem b n D w h1).mono ?_
  rintro e w' ⟨rfl, h4, _, h5⟩
  exact ⟨rfl, ⟨D, h4, h2, h3⟩, h5⟩
theorem knG_eq {p q : Int → Bool} {x : Int} (h : p x = q x) : knG p x = knG q x := by unfold knG; rw [h]
/-- is x bound to a name? -/
def nmHas (g : Nat → Option Nm.RW) (q : Nat) (x : Int) : Bool := decide (x ∈ ((Nm.bndT g (Nm.cntT g)).take q).map fun j => (Nm.rwT g j).ref)
def nmAll (g : Nat → Option Nm.RW) (x : Int) : Bool := nmHas g (Nm.bndT g (Nm.cntT g)).length x
theorem nmHas_zero (g : Nat → Option Nm.RW) (x : Int) : nmHas g 0 x = false := by simp [nmHas]
theorem nmHas_succ (g : Nat → Option Nm.RW) {q : Nat} (h : q < (Nm.bndT g (Nm.cntT g)).length) (x : Int) : nmHas g (q + 1) x = (nmHas g q x || x == (Nm.rwT g ((Nm.bndT g (Nm.cntT g)).getD q 0)).ref) := by
  unfold nmHas
  rw [List.take_add_one, List.getElem?_eq_getElem h, List.map_append]
  have e : (Nm.bndT g (Nm.cntT g)).getD q 0 = (Nm.bndT g (Nm.cntT g))[q] := by
    rw [List.getD_eq_getElem?_getD, List.getElem?_eq_getElem h]
    rfl
  rw [e]
  obtain ⟨A, hA⟩ : ∃ A, (List.take q (Nm.bndT g (Nm.cntT g))).map (fun j => (Nm.rwT g j).ref) = A := ⟨_, rfl⟩
  rw [hA]
  show decide (x ∈ A ++ [(Nm.rwT g (Nm.bndT g (Nm.cntT g))[q]).ref]) = _
  generalize (Nm.rwT g (Nm.bndT g (Nm.cntT g))[q]).ref = y
  by_cases h1 : x ∈ A
  · rw [decide_eq_true h1, decide_eq_true (List.mem_append_left _ h1)]
    rfl
  · rw [decide_eq_false h1, Bool.false_or]
    by_cases h2 : x = y
    · subst h2
      rw [decide_eq_true (by simp)]
      simp
    · have e2 : (x == y) = false := by simpa using h2
      rw [e2]
      exact decide_eq_false (by simp [h1, h2])
section
variable {w : World} {X Mc : Nat → Prop} {base T : Nat} {bl : CBk → Nat} {pn : Nat → Nat} {vl : Value} {ll : Nat} {M : Nat → Nat → Prop} {Pn : Nat → Int → Nat} {C : CqS}
def rtTo (C : CqS) (k : Nat) (x : Int) : Bool := C.held x || anyOf (fun i => nmAll (C.tab i) x) k
def RootsPost (C : CqS) (w : World) (e : Ending) (w' : World) : Prop := ∃ n, e = .returned (.map (some w.heap.size)) ∧ OwnM w' w.heap.size n (knG (rtTo C C.n)) ∧ Below w.heap.size w w'
set_option maxRecDepth 100000 in
set_option maxHeartbeats 4000000 in
theorem roots_any (h : CqG w X Mc base T bl pn vl ll M Pn C) (hhn : C.hn ≤ 1000000) (hwf : ∀ i j, i < C.n → j < Nm.cntT (C.tab i) → Wf (Nm.rwT (C.tab i) j).ref) :
    Calls Tryz.prog 88 #[.pointer (some ⟨bl .P, 0, none⟩)] w (RootsPost C w) := by
  have HH := Lib.hid h
  have HWF := Lib.hid hwf
  have h8 := h.n8
  have c7 := h.cp.c7
  obtain ⟨m, hm, hmh⟩ := h.co.mh
  have HMH := Lib.hid hmh
  clear h hwf hmh
  go_enter Tryz.func88, Tryz.ntmps88
  go_wp2_with fail
  refine (mclone_any HMH.out).mono ?_
  rintro e w1 ⟨rfl, ho1, hb1⟩
  have HO1 := Lib.hid ho1
  have HB1 := Lib.hid hb1
  have HH1 := Lib.hid (HH.out.new (Fr.of_below hb1))
  obtain ⟨cb, c1⟩ := HH1.out.cp.c1
  clear ho1 hb1 c7
  go_wp2_with fail
  go_loopw [5, 7, 20] (fun _ _ v20 wr => ∃ (i n : Nat), i ≤ C.n ∧ n ≤ m + 10 * i ∧ v20 = .int .i64 (i : Int) ∧ Hid (OwnM wr w.heap.size n (knG (rtTo C i))) ∧ Hid (Below w.heap.size w wr)) (fun _ _ v20 _ => C.n - (intOf v20).toNat)
  case atStart => exact ⟨0, m, Nat.zero_le _, by omega, rfl, Lib.hid (HO1.out.congr (fun x _ => by unfold knG rtTo; simp [anyOf_nil])), HB1⟩
  case round =>
    obtain ⟨wo, hwo⟩ : ∃ wo : World, wo = wr := ⟨_, rfl⟩
    subst hwo
    obtain ⟨i, n, hi, hn, rfl, HO, HB⟩ := hrel
    by_cases hlt : i < C.n
    · have hf0 : Fr (fun _ => False) w wo := Fr.of_below HB.out
      have HHo := Lib.hid (HH.out.new hf0)
      have crb := HHo.out.co.rb i hlt
      have i1 : (0 : Int) ≤ (i : Int) := by omega
      have i2 : (i : Int) < (C.n : Int) := by omega
      have HNA := Lib.hid (show Calls Tryz.prog 135 #[.pointer (some ⟨bl (.Tb i), 0, none⟩)] wo (Nm.AllPost (C.tab i) wo) from Nm.all_any _ _ _ _ (C.tab i) wo (HHo.out.co.nm i hlt))
      have HLT := Lib.hid hlt
      clear hlt hf0
      go_wp2_with fail
      refine HNA.out.mono ?_
      rintro e w2 ⟨A2, c2, rfl, hrow, hb2⟩
      have HR2 := Lib.hid hrow
      have HB2 := Lib.hid (HB.out.trans (hb2.mono HB.out.size))
      have HO2 := Lib.hid (HO.out.fr (S := fun _ => False) (Fr.of_below hb2) (fun h => h))
      have hln : (Nm.bndT (C.tab i) (Nm.cntT (C.tab i))).length ≤ 4 := Nat.le_trans (Nm.bndT_len _ _) (Nm.cnt_le _)
      have HWo := Lib.hid (show w.heap.size < wo.heap.size from HO.out.lt)
      have HW2 := Lib.hid (show wo.heap.size ≤ w2.heap.size from hb2.size)
      obtain ⟨NL, hNL⟩ : ∃ NL, (Nm.bndT (C.tab i) (Nm.cntT (C.tab i))).length = NL := ⟨_, rfl⟩
      have HNL := Lib.hid hNL
      rw [hNL] at HR2 hln ⊢
      clear hrow hb2 HNA hNL
      go_wp2_with fail
      go_loopw [7, 27] (fun _ v27 wi => ∃ (q n2 : Nat), q ≤ NL ∧ n2 ≤ n + q ∧ v27 = .int .i64 (q : Int) ∧ Hid (OwnM wi w.heap.size n2 (knG fun x => rtTo C i x || nmHas (C.tab i) q x)) ∧ Hid (Fr (fun k => k = w.heap.size) w2 wi)) (fun _ v27 _ => NL - (intOf v27).toNat)
      case atStart => exact ⟨0, n, Nat.zero_le _, by omega, rfl, Lib.hid (HO2.out.congr (fun x _ => knG_eq (by show (rtTo C i x || nmHas (C.tab i) 0 x) = _; rw [nmHas_zero, Bool.or_false]))), Lib.hid (Fr.refl _ _)⟩
      case round =>
        rename World => wi
        obtain ⟨q, n2, hq, hn2, rfl, HOi, HFi⟩ := hrel
        by_cases hlq : q < NL
        · have hr := HFi.out.row HR2.out (fun k hk e => by have := (HR2.out.lt k hk).1; have := HWo.out; omega)
          obtain ⟨gb, cap, hv, -, hgb, -⟩ := own_form hr (by omega)
          injection hv with e1 _ e3
          subst e1 e3
          have x0 : wi.cell? ⟨gb, q * 2, none⟩ = some (.string (Nm.nmS (Nm.ixT (C.tab i) ((Nm.bndT (C.tab i) (Nm.cntT (C.tab i))).getD q 0)))) := by have := own_cellC hr (fun _ => rfl) hlq (j := 0) (by omega); simpa [Nm.allC] using this
          have x1 : wi.cell? ⟨gb, q * 2 + 1, none⟩ = some (.int .i64 (Nm.rwT (C.tab i) ((Nm.bndT (C.tab i) (Nm.cntT (C.tab i))).getD q 0)).ref) := by have := own_cellC hr (fun _ => rfl) hlq (j := 1) (by omega); simpa [Nm.allC] using this
          have hlq2 : q < (Nm.bndT (C.tab i) (Nm.cntT (C.tab i))).length := by rw [HNL.out]; exact hlq
          have hjm : (Nm.bndT (C.tab i) (Nm.cntT (C.tab i))).getD q 0 < Nm.cntT (C.tab i) := by
            have : (Nm.bndT (C.tab i) (Nm.cntT (C.tab i))).getD q 0 ∈ Nm.bndT (C.tab i) (Nm.cntT (C.tab i)) := by
              rw [List.getD_eq_getElem?_getD, List.getElem?_eq_getElem hlq2]
              exact List.getElem_mem _
            unfold Nm.bndT at this
            exact List.mem_range.1 (List.mem_filter.1 this).1
          have hw := HWF.out i _ HLT.out hjm
          have HNS := Lib.hid (nmHas_succ (C.tab i) hlq2)
          obtain ⟨nm, hnm⟩ : ∃ nm, Nm.nmS (Nm.ixT (C.tab i) ((Nm.bndT (C.tab i) (Nm.cntT (C.tab i))).getD q 0)) = nm := ⟨_, rfl⟩
          obtain ⟨rf, hrf⟩ : ∃ rf, (Nm.rwT (C.tab i) ((Nm.bndT (C.tab i) (Nm.cntT (C.tab i))).getD q 0)).ref = rf := ⟨_, rfl⟩
          rw [hnm] at x0
          rw [hrf] at x1 hw HNS
          have i3 : (0 : Int) ≤ (q : Int) := by omega
          have i4 : (q : Int) < (NL : Int) := by omega
          obtain ⟨w4, hrun, ho4, hg4⟩ := OwnM.store und_mib (HOi.out.fr (S := fun _ => False) ((Fr.refl _ _).alloc (.cells #[.string nm, .int .i64 rf] 238)) (fun h => h)) (by unfold maxLen; omega) rf (.bool true) hw
          rw [knG_put] at ho4
          have HO4 := Lib.hid ho4
          have HF4 := Lib.hid (show Fr (fun k => k = w.heap.size) wi w4 from ((Fr.refl _ _).alloc _).trans' (Fr.of_grown hg4 (fun b hb => .inl (by injection hb with hb; exact hb.symm))))
          clear hr hnm hrf ho4 hg4 hlq hlq2 hjm hw
          go_wp2_with fail
          refine ⟨⟨q + 1, _, by omega, ?_, by go_num, Lib.hid (HO4.out.congr (fun x _ => ?_)), Lib.hid (HFi.out.trans' HF4.out)⟩, by simp [intOf]; omega⟩
          · split <;> omega
          · refine knG_eq ?_
            show (rtTo C i x || nmHas (C.tab i) (q + 1) x) = (rtTo C i x || nmHas (C.tab i) q x || x == rf)
            rw [HNS.out, Bool.or_assoc]
        · obtain rfl : q = NL := by omega
          go_wp2_with fail
          refine ⟨⟨i + 1, n2, by have := HLT.out; omega, by omega, by go_num, Lib.hid (HOi.out.congr (fun x _ => ?_)), Lib.hid (HB2.out.trans (HFi.out.below (fun k hk => by omega) HB2.out.size))⟩, by have := HLT.out; simp [intOf]; omega⟩
          refine knG_eq ?_
          have : nmAll (C.tab i) x = nmHas (C.tab i) q x := by unfold nmAll; rw [HNL.out]
          show (C.held x || anyOf (fun i => nmAll (C.tab i) x) (i + 1)) = (rtTo C i x || nmHas (C.tab i) q x)
          rw [anyOf_up, ← Bool.or_assoc, ← this]
          rfl
    · obtain rfl : i = C.n := by omega
      have HHo := Lib.hid (HH.out.new (Fr.of_below HB.out))
      have HLE := Lib.hid (letters_q HHo.out)
      go_wp2_with fail
      refine HLE.out.mono ?_
      rintro e w2 ⟨rfl, hf2⟩
      have HO2 := Lib.hid (HO.out.fr hf2 (fun h => h))
      have HB2 := Lib.hid (HB.out.trans (hf2.below (fun _ h => h.elim) HB.out.size))
      clear hf2 HLE
      go_wp2_with fail
      go_loopw [9, 39] (fun _ v39 wi => v39 = .int .i64 0 ∧ wi = w2) (fun _ _ _ => 0)
      case atStart => exact ⟨rfl, rfl⟩
      case round =>
        obtain ⟨rfl, rfl⟩ := hrel
        go_wp2_with fail
        go_ret
        exact ⟨n, rfl, HO2.out, HB2.out⟩
end
end Go.Proofs.YthgbcgphkddmgaaGreat
namespace Go.Proofs.YthgbcgphkddmgaaGreat
open Go.RowKit Go.Maps
set_option linter.unusedVariables false
set_option linter.unusedSimpArgs false
/-- a row of records, made by the call -/
structure KqRow (w : World) (base : Nat) (v : Value) (K : List KqS) (V : Nat → Value) : Prop where
  row : w.ownsRow base 119 4 v K.length (flatC (kqC K V) K.length)
  each : ∀ i, i < K.length → OwnI w base (V i) (kqN K i).refs
  outer : ∀ i, i < K.length → ∀ k, (V i).ownBlock = some k → v.ownBlock ≠ some k
theorem KqRow.nil (w : World) (base : Nat) : KqRow w base (.slice none 0 0) [] (fun _ => .slice none 0 0) := ⟨World.ownsRow_nil _ _ _ _, fun i hi => absurd hi (by simp), fun i hi => absurd hi (by simp)⟩
theorem KqRow.new {w w' : World} {base : Nat} {v : Value} {K : List KqS} {V : Nat → Value} (h : KqRow w base v K V) (hf : Fr (fun _ => False) w w') : KqRow w' base v K V :=
  ⟨hf.row h.row (fun _ _ h => h), fun i hi => hf.row (h.each i hi) (fun _ _ h => h), h.outer⟩
theorem KqRow.mono {w : World} {base base' : Nat} {v : Value} {K : List KqS} {V : Nat → Value} (h : KqRow w base v K V) (hb : base' ≤ base) : KqRow w base' v K V := ⟨own_mono h.row hb, fun i hi => (h.each i hi).mono hb, h.outer⟩
theorem kqN_left {K : List KqS} {k : KqS} {j : Nat} (h : j < K.length) : kqN (K ++ [k]) j = kqN K j := by
  unfold kqN
  rw [List.getD_eq_getElem?_getD, List.getD_eq_getElem?_getD, List.getElem?_append_left h]
theorem kqN_last {K : List KqS} {k : KqS} : kqN (K ++ [k]) K.length = k := by
  unfold kqN
  rw [List.getD_eq_getElem?_getD, List.getElem?_append_right (Nat.le_refl _)]
  simp
theorem KqRow.snoc {w w' : World} {base : Nat} {v v' u : Value} {K : List KqS} {V : Nat → Value} {k : KqS} (h : KqRow w base v K V) {w1 : World} (hw1 : Fr (fun _ => False) w w1) (hg : w1.grownBy w' v.ownBlock) (hr : w'.ownsRow base 119 4 v' (K.length + 1) (flatC (kqC K V) K.length ++ [.int .i64 k.ref, .bool k.awake, .bool k.root, u])) (hu : OwnI w base u k.refs)
    (hne : ∀ b, u.ownBlock = some b → v.ownBlock ≠ some b) (hat : v'.ownBlock = v.ownBlock ∨ ∃ q, v'.ownBlock = some q ∧ w.heap.size ≤ q) : KqRow w' base v' (K ++ [k]) (upV V K.length u) := by
  have hf : Fr (fun b => v.ownBlock = some b) w w' := (hw1.weak (fun _ h => h.elim)).trans' (Fr.of_grown hg (fun b hb => .inl hb))
  have hl : (K ++ [k]).length = K.length + 1 := by simp
  have hold : ∀ b, (∃ i, i < K.length ∧ (V i).ownBlock = some b) ∨ u.ownBlock = some b → v.ownBlock ≠ some b ∧ b < w.heap.size := fun b hb => by
    rcases hb with ⟨i, hi, hb⟩ | hb
    · exact ⟨h.outer i hi b hb, ((h.each i hi).blk b hb).2⟩
    · exact ⟨hne b hb, (hu.blk b hb).2⟩
  have hnew : ∀ b, (∃ i, i < K.length ∧ (V i).ownBlock = some b) ∨ u.ownBlock = some b → v'.ownBlock ≠ some b := fun b hb e => by
    obtain ⟨h1, h2⟩ := hold b hb
    rcases hat with e2 | ⟨q, e2, hq⟩
    · exact h1 (e2.symm.trans e)
    · rw [e2] at e
      injection e with e
      omega
  refine ⟨?_, fun i hi => ?_, fun i hi b hb => ?_⟩
  · have e : flatC (kqC (K ++ [k]) (upV V K.length u)) (K.length + 1) = flatC (kqC K V) K.length ++ [.int .i64 k.ref, .bool k.awake, .bool k.root, u] := by
      rw [flatC]
      congr 1
      · exact flatC_congr fun j hj => by
          unfold kqC upV
          rw [if_neg (by omega), kqN_left hj]
      · unfold kqC upV
        rw [if_pos rfl, kqN_last]
    rw [hl, e]
    exact hr
  · by_cases e : i = K.length
    · subst e
      unfold upV
      rw [if_pos rfl, kqN_last]
      exact hf.row hu (fun b hb => (hold b (.inr hb)).1)
    · have hi2 : i < K.length := by omega
      unfold upV
      rw [if_neg e, kqN_left hi2]
      exact hf.row (h.each i hi2) (fun b hb => (hold b (.inl ⟨i, hi2, hb⟩)).1)
  · by_cases e : i = K.length
    · subst e
      unfold upV at hb
      rw [if_pos rfl] at hb
      exact hnew b (.inr hb)
    · unfold upV at hb
      rw [if_neg e] at hb
      exact hnew b (.inl ⟨i, by omega, hb⟩)
/-- a record says what is known of an actor of the cluster -/
def KqOf (C : CqS) (k : KqS) : Prop := ∃ i a kn, i < C.n ∧ a ∈ (C.nd i).acts ∧ KnOk (C.nd i) a kn ∧ k = ⟨kn.ref, kn.awake, rtTo C C.n kn.ref, kn.refs⟩
section
variable {w : World} {X Mc : Nat → Prop} {base T : Nat} {bl : CBk → Nat} {pn : Nat → Nat} {vl : Value} {ll : Nat} {M : Nat → Nat → Prop} {Pn : Nat → Int → Nat} {C : CqS}
def CKnowsPost (C : CqS) (w : World) (e : Ending) (w' : World) : Prop :=
  ∃ A c K V, e = .returned (.slice A K.length c) ∧ KqRow w' w.heap.size (.slice A K.length c) K V ∧ K.map (·.ref) = refsTo C C.n ∧ (∀ k, k ∈ K → KqOf C k) ∧ Below w.heap.size w w'
set_option maxRecDepth 100000 in
set_option maxHeartbeats 8000000 in
theorem cknows_any (h : CqG w X Mc base T bl pn vl ll M Pn C) (hhn : C.hn ≤ 1000000) (hwf : ∀ i j, i < C.n → j < Nm.cntT (C.tab i) → Wf (Nm.rwT (C.tab i) j).ref) (hT : T ≤ 100000000000) :
    Calls Tryz.prog 48 #[.pointer (some ⟨bl .P, 0, none⟩)] w (CKnowsPost C w) := by
  obtain ⟨i0, hi0, jz0, jz1, jz2⟩ := info_parts infoKn
  have HRT := Lib.hid (roots_any h hhn hwf)
  have HH := Lib.hid h
  have h8 := h.n8
  have HLN := Lib.hid (refsTo_len (C := C) (fun i hi => (h.nd i hi).ok.len))
  clear h hwf
  go_enter Tryz.func48, Tryz.ntmps48
  go_wp2_with fail
  refine HRT.out.mono ?_
  rintro e w1 ⟨n1, rfl, ho1, hb1⟩
  have HO1 := Lib.hid ho1
  have HB1 := Lib.hid hb1
  have HH1 := Lib.hid (HH.out.new (Fr.of_below hb1))
  obtain ⟨ca, c0⟩ := HH1.out.cp.c0
  clear ho1 hb1 HRT
  go_wp2_with fail
  go_loopw [4, 6, 8, 16] (fun v4 _ _ v16 wr => ∃ (i : Nat) (A : Option Addr) (c : Nat) (K : List KqS) (V : Nat → Value), i ≤ C.n ∧ v16 = .int .i64 (i : Int) ∧ v4 = .slice A K.length c ∧ Hid (KqRow wr w1.heap.size (.slice A K.length c) K V) ∧ Hid (K.map (·.ref) = refsTo C i) ∧ Hid (∀ k, k ∈ K → KqOf C k) ∧ Hid (Below w1.heap.size w1 wr)) (fun _ _ _ v16 _ => C.n - (intOf v16).toNat)
  case atStart => exact ⟨0, none, 0, [], _, Nat.zero_le _, rfl, rfl, Lib.hid (KqRow.nil _ _), Lib.hid rfl, Lib.hid (fun k hk => by cases hk), Lib.hid (Below.refl _ _)⟩
  case round =>
    obtain ⟨wo, hwo⟩ : ∃ wo : World, wo = wr := ⟨_, rfl⟩
    subst hwo
    obtain ⟨i, A, c, K, V, hi, rfl, rfl, HK, HM, HOF, HB⟩ := hrel
    by_cases hlt : i < C.n
    · have hf0 : Fr (fun _ => False) w1 wo := Fr.of_below HB.out
      have HHo := Lib.hid (HH1.out.new hf0)
      have cra := HHo.out.co.ra i hlt
      have i1 : (0 : Int) ≤ (i : Int) := by omega
      have i2 : (i : Int) < (C.n : Int) := by omega
      have HNK := Lib.hid (knows_any (HHo.out.nd i hlt) hT)
      have HLT := Lib.hid hlt
      have HL1 := Lib.hid (HLN.out (i + 1) (by omega))
      clear hlt hf0
      go_wp2_with fail
      refine HNK.out.mono ?_
      rintro e w2 ⟨A2, c2, K2, V2, rfl, hrow, hok, hb2⟩
      have HR2 := Lib.hid hrow
      have HOK2 := Lib.hid hok
      have HB2 := Lib.hid (HB.out.trans (hb2.mono HB.out.size))
      have HKo := Lib.hid (HK.out.new (Fr.of_below hb2))
      have HO2 := Lib.hid (HO1.out.fr (S := fun _ => False) (Fr.of_below HB2.out) (fun h => h))
      have hl60 := (HHo.out.nd i HLT.out).ok.len
      have HZ := Lib.hid (show w1.heap.size ≤ wo.heap.size ∧ wo.heap.size ≤ w2.heap.size ∧ w.heap.size < w1.heap.size from ⟨HB.out.size, hb2.size, HO1.out.lt⟩)
      have HVB := Lib.hid (show ∀ k, (Value.slice A K.length c).ownBlock = some k → k < wo.heap.size from fun k hk => (HK.out.row.lt k hk).2)
      obtain ⟨NL, hNL⟩ : ∃ NL, (C.nd i).acts.length = NL := ⟨_, rfl⟩
      have HNL := Lib.hid hNL
      rw [hNL] at HR2 hl60 ⊢
      obtain ⟨RI, hRI⟩ : ∃ RI, refsN (C.nd i) = RI := ⟨_, rfl⟩
      have hRl : RI.length = NL := by rw [← hRI, refsN_len, hNL]
      have HRI := Lib.hid hRI
      have HK1 := Lib.hid (show K.length = (refsTo C i).length by rw [← HM.out, List.length_map])
      have HRS := Lib.hid (show refsTo C (i + 1) = refsTo C i ++ RI by rw [← hRI]; rfl)
      clear hrow hok hb2 HNK hNL hRI
      go_wp2_with fail
      go_loopw [4, 8, 23] (fun v4 _ v23 wi => ∃ (q : Nat) (A3 : Option Addr) (c3 : Nat) (K3 : List KqS) (V3 : Nat → Value), q ≤ NL ∧ v23 = .int .i64 (q : Int) ∧ v4 = .slice A3 K3.length c3 ∧ K3.length = K.length + q ∧ Hid (KqRow wi w1.heap.size (.slice A3 K3.length c3) K3 V3) ∧ Hid (K3.map (·.ref) = refsTo C i ++ RI.take q) ∧ Hid (∀ k, k ∈ K3 → KqOf C k) ∧ Hid (Fr (fun k => (Value.slice A K.length c).ownBlock = some k) w2 wi) ∧ Hid (∀ k, (Value.slice A3 K3.length c3).ownBlock = some k → (Value.slice A K.length c).ownBlock = some k ∨ w2.heap.size ≤ k)) (fun _ _ v23 _ => NL - (intOf v23).toNat)
      case atStart => exact ⟨0, A, c, K, V, Nat.zero_le _, rfl, rfl, rfl, HKo, Lib.hid (by rw [HM.out]; simp), HOF, Lib.hid (Fr.refl _ _), Lib.hid (fun k hk => .inl hk)⟩
      case round =>
        rename World => wi
        obtain ⟨q, A3, c3, K3, V3, hq, rfl, rfl, hK3, HK3, HM3, HOF3, HF3, HVB3⟩ := hrel
        have HLK3 := Lib.hid hK3
        by_cases hlq : q < NL
        · have hrr := HF3.out.row HR2.out.row (fun k hk e => by have := HVB.out k e; have := (HR2.out.row.lt k hk).1; have := HZ.out; omega)
          have hue := HF3.out.row (HR2.out.each q hlq) (fun k hk e => by have := HVB.out k e; have := ((HR2.out.each q hlq).blk k hk).1; have := HZ.out; omega)
          obtain ⟨gb, cap, hv, -, hgb, -⟩ := own_form hrr (by omega)
          injection hv with e1 _ e3
          subst e1 e3
          obtain ⟨Aq, cq, hVq, -, -, -⟩ := own_any hue
          have x0 : wi.cell? ⟨gb, q * 4, none⟩ = some (.int .i64 (K2 q).ref) := by have := own_cellC hrr (fun _ => rfl) hlq (j := 0) (by omega); simpa [knC] using this
          have x1 : wi.cell? ⟨gb, q * 4 + 1, none⟩ = some (.bool (K2 q).awake) := by have := own_cellC hrr (fun _ => rfl) hlq (j := 1) (by omega); simpa [knC] using this
          have x2 : wi.cell? ⟨gb, q * 4 + 2, none⟩ = some (.bool false) := by have := own_cellC hrr (fun _ => rfl) hlq (j := 2) (by omega); simpa [knC] using this
          have x3 : wi.cell? ⟨gb, q * 4 + 3, none⟩ = some (V2 q) := by have := own_cellC hrr (fun _ => rfl) hlq (j := 3) (by omega); simpa [knC] using this
          rw [hVq] at x3 hue
          obtain ⟨a, ha⟩ : ∃ a, (C.nd i).acts[q]? = some a := ⟨_, List.getElem?_eq_getElem (by rw [HNL.out]; exact hlq)⟩
          have hkn := HOK2.out q a ha
          have hqof : KqOf C ⟨(K2 q).ref, (K2 q).awake, rtTo C C.n (K2 q).ref, (K2 q).refs⟩ := ⟨i, a, K2 q, HLT.out, List.mem_of_getElem? ha, hkn, rfl⟩
          have htk : RI.take (q + 1) = RI.take q ++ [(K2 q).ref] := by
            rw [List.take_add_one, ← HRI.out, hkn.ref]
            unfold refsN
            rw [List.getElem?_map, ha]
            rfl
          have hwf : Wf (K2 q).ref := by rw [hkn.ref]; exact ((HHo.out.nd i HLT.out).ok.act a (List.mem_of_getElem? ha)).ref
          have hublk : ∀ k, (Value.slice Aq (K2 q).refs.length cq).ownBlock = some k → wo.heap.size ≤ k ∧ k < w2.heap.size := fun k hk => by
            have := (HR2.out.each q hlq).blk k (by rw [hVq]; exact hk)
            exact this
          obtain ⟨kr, hkr⟩ : ∃ kr, K2 q = kr := ⟨_, rfl⟩
          rw [hkr] at x0 x1 x3 hue hqof htk hwf hublk
          have HQOF := Lib.hid hqof
          have HTK := Lib.hid htk
          have HUB := Lib.hid hublk
          have HUE := Lib.hid hue
          have HLQ := Lib.hid hlq
          have hzz := HZ.out
          have hzi := HF3.out.size
          have i3 : (0 : Int) ≤ (q : Int) := by omega
          have i4 : (q : Int) < (NL : Int) := by omega
          have hKl : K3.length ≤ 600 := by
            have h1 := HK1.out
            have h2 := HL1.out
            rw [HRS.out, List.length_append] at h2
            omega
          obtain ⟨W5, hW5⟩ : ∃ W5, W5 = wi.alloc (.cells #[.int .i64 kr.ref, .bool kr.awake, .bool false, .slice Aq kr.refs.length cq] 119) := ⟨_, rfl⟩
          have hf5 : Fr (fun _ => False) wi W5 := by rw [hW5]; exact (Fr.refl _ _).alloc _
          have hs5 : W5.heap.size = wi.heap.size + 1 := by rw [hW5]; simp
          have d0 : W5.cell? ⟨wi.heap.size, 0, none⟩ = some (.int .i64 kr.ref) := by rw [hW5]; simp [go_sem]
          have d1 : W5.cell? ⟨wi.heap.size, 1, none⟩ = some (.bool kr.awake) := by rw [hW5]; simp [go_sem]
          have d2 : W5.cell? ⟨wi.heap.size, 2, none⟩ = some (.bool false) := by rw [hW5]; simp [go_sem]
          have d3 : W5.cell? ⟨wi.heap.size, 3, none⟩ = some (.slice Aq kr.refs.length cq) := by rw [hW5]; simp [go_sem]
          have dz : ∀ o, W5.frozen? ⟨wi.heap.size, o, none⟩ = false := fun o => by rw [hW5]; simp [go_sem]
          have hlk := look_mib ((HO2.out.fr (S := fun k => (Value.slice A K.length c).ownBlock = some k) HF3.out (fun e => by have := (HK.out.row.lt _ e).1; omega)).fr hf5 (fun h => h)) hwf
          obtain ⟨rt, hrt⟩ : ∃ rt, rtTo C C.n kr.ref = rt := ⟨_, rfl⟩
          rw [hrt] at hlk HQOF
          have HF5 := Lib.hid hf5
          have HW5 := Lib.hid hW5
          have HDZ := Lib.hid dz
          have hwil : wi.heap.size < W5.heap.size := by omega
          have HK6 := Lib.hid (HK3.out.new ((Fr.refl _ wi).alloc (.cells #[.int .i64 kr.ref, .bool kr.awake, .bool rt, .slice Aq kr.refs.length cq] 119)))
          rw [hW5] at hlk
          clear hrr hue hkn hqof htk hublk hf5 hs5 HF5 HW5 HDZ hwil d0 d1 d2 d3 hW5 dz ha hVq hkr hrt hlq hwf hK3
          go_wp2_with (at_builtin; go_loud (refine wpList_append_lies _ rfl _ _ 113 rfl w1.heap.size 119 i0 _ 4 40 Tryz.underlying113 hi0 jz0 jz1 jz2 rfl (by omega) (.slice A3 K3.length c3) K3.length (flatC (kqC K3 V3) K3.length) rfl (HK6.out.row.alloc _) ⟨wi.heap.size + 1, 0, none⟩ 1 1 [.int .i64 kr.ref, .bool kr.awake, .bool rt, .slice Aq kr.refs.length cq] rfl rfl (cell_newL _ _ _ _ (by simp)) (by intro u hu; simp at hu; rcases hu with rfl | rfl | rfl | rfl <;> rfl) (by omega) (by have := HLK3.out; unfold maxLen; omega) (by have := HLK3.out; omega) (by simp; omega) (wi.heap.size + 2) (by simp) ?_; intro gn cn w7 hown7 hgrow7 hat7 hlt7; have HO7 := Lib.hid hown7; have HG7 := Lib.hid hgrow7; have HA7 := Lib.hid hat7; clear hown7 hgrow7 hat7 hlt7))
          have hfw : Fr (fun _ => False) wi ((wi.alloc (.cells #[.int .i64 kr.ref, .bool kr.awake, .bool rt, .slice Aq kr.refs.length cq] 119)).alloc (.cells #[.int .i64 kr.ref, .bool kr.awake, .bool rt, .slice Aq kr.refs.length cq] 119)) := ((Fr.refl _ wi).alloc _).alloc _
          have hvb : ∀ k, (Value.slice A3 K3.length c3).ownBlock = some k → ((Value.slice A K.length c).ownBlock = some k ∨ w2.heap.size ≤ k) ∧ k < wi.heap.size ∧ (k < wo.heap.size ∨ w2.heap.size ≤ k) := fun k hk => ⟨HVB3.out k hk, (HK3.out.row.lt k hk).2, (HVB3.out k hk).imp (HVB.out k) id⟩
          have hsn := HK3.out.snoc (k := ⟨kr.ref, kr.awake, rt, kr.refs⟩) (u := .slice Aq kr.refs.length cq) hfw HG7.out HO7.out (OwnI.mono HUE.out (by omega)) (fun b hb e => by have h1 := HUB.out b hb; have h2 := hvb b e; omega) (by
            rcases HA7.out with e | e
            · exact .inl e.symm
            · exact .inr ⟨gn, rfl, by omega⟩)
          refine ⟨⟨q + 1, some ⟨gn, 0, none⟩, cn, K3 ++ [⟨kr.ref, kr.awake, rt, kr.refs⟩], _, by have := HLQ.out; omega, by go_num, by rw [List.length_append, List.length_singleton], by rw [List.length_append, List.length_singleton, HLK3.out]; omega, Lib.hid (by rw [List.length_append, List.length_singleton]; exact hsn), Lib.hid (by rw [List.map_append, HM3.out, HTK.out]; simp), Lib.hid (fun k hk => ?_), Lib.hid (HF3.out.trans (hfw.weak (S2 := fun k => (Value.slice A3 K3.length c3).ownBlock = some k) (fun _ h => h.elim) |>.trans' (Fr.of_grown HG7.out (fun b hb => .inl hb))) (fun k hk => ?_)), Lib.hid (fun k hk => ?_)⟩, by have := HLQ.out; simp [intOf]; omega⟩
          · rcases List.mem_append.1 hk with hk | hk
            · exact HOF3.out k hk
            · rw [List.mem_singleton] at hk
              rw [hk]
              exact HQOF.out
          · exact (hvb k hk).1
          · rcases HA7.out with e | e
            · exact (hvb k (e.trans hk)).1
            · have hk2 : gn = k := by injection hk
              have hzi2 := HF3.out.size
              right
              omega
        · obtain rfl : q = NL := by omega
          go_wp2_with fail
          refine ⟨⟨i + 1, A3, c3, K3, V3, by have := HLT.out; omega, by go_num, rfl, HK3, Lib.hid ?_, HOF3, Lib.hid ?_⟩, by have := HLT.out; simp [intOf]; omega⟩
          · rw [HM3.out, HRS.out]
            rw [List.take_of_length_le (by omega)]
          · exact HB2.out.trans (HF3.out.below (fun k hk => (HK.out.row.lt k hk).1) HB2.out.size)
    · obtain rfl : i = C.n := by omega
      go_wp2_with fail
      go_ret
      exact ⟨A, c, K, V, rfl, HK.out.mono HB1.out.size, HM.out, HOF.out, HB1.out.trans (HB.out.mono HB1.out.size)⟩
end
end Go.Proofs.YthgbcgphkddmgaaGreat
namespace Go.Proofs.YthgbcgphkddmgaaGreat
open Go.RowKit Go.Maps
set_option linter.unusedVariables false
set_option linter.unusedSimpArgs false
def CNewPost (K : List KqS) (w : World) (e : Ending) (w' : World) : Prop :=
  ∃ s Vf mk nm, e = .returned (.tuple #[.pointer (some ⟨s + 3, 0, none⟩), .int .i64 0]) ∧ w.heap.size ≤ s ∧ CyAt w' s K Vf mk nm ∧ (∀ x, mk x = true ↔ Rch K x) ∧ Below w.heap.size w w'
set_option maxRecDepth 100000 in
set_option maxHeartbeats 4000000 in
theorem cyc_new (w : World) (A : Option Addr) (c : Nat) (K : List KqS) (ok : KqOk K) (h : KqIn w A K) : Calls Tryz.prog 86 #[.slice A K.length c] w (CNewPost K w) := by
  have HK := Lib.hid h
  have HOK := Lib.hid ok
  clear h ok
  go_enter Tryz.func86, Tryz.ntmps86
  go_wp2_with fail
  refine (cyc_check w A c K HOK.out HK.out).mono ?_
  rintro e w1 ⟨rfl, hb1⟩
  have HB1 := Lib.hid hb1
  clear hb1
  go_wp2_with fail
  refine (cyc_start w1 A c K HOK.out (HK.out.fr (Fr.of_below HB1.out))).mono ?_
  rintro e w2 ⟨v, Vf, rfl, hst⟩
  have HST := Lib.hid hst
  have HB2 := Lib.hid (HB1.out.trans (hst.be.mono HB1.out.size))
  have HS := Lib.hid HB1.out.size
  obtain ⟨s, hs⟩ : ∃ s, w1.heap.size = s := ⟨_, rfl⟩
  rw [hs] at HST HS ⊢
  obtain ⟨A2, c2, rfl, -, -, -⟩ := own_any HST.out.fl
  clear hst hs HB1 HK
  go_wp2_with fail
  go_loopw [6] (fun v6 wr => ∃ l A c mk nm, v6 = .slice A l.length c ∧ Hid (OwnI wr (s + 4) (.slice A l.length c) l) ∧ Hid (CyAt wr s K Vf mk nm) ∧ Hid (CyInv K mk l) ∧ nm + (untK K mk).length ≤ 480 ∧ Hid (Below w.heap.size w wr)) (fun _ wr => untW wr s K)
  case atStart =>
    exact ⟨_, _, _, _, _, rfl, Lib.hid HST.out.fl, Lib.hid (HST.out.cy HOK.out), Lib.hid (cyInv_start HOK.out), by have := untK_le (K := K) (mk := fun _ => false); have := HOK.out.len; omega, HB2⟩
  case round =>
    obtain ⟨l, A3, c3, mk, nm, rfl, HO, HC, HI, hnm, HB⟩ := hrel
    by_cases hlt : 0 < l.length
    · have hd : decide ((0 : Int) < (l.length : Int)) = true := decide_eq_true (by omega)
      have hl480 := HI.out.len HOK.out
      have HLV := Lib.hid (cyc_level HOK.out HC.out HO.out (Nat.le_refl _) HI.out.own (by omega) (by omega))
      have HLT := Lib.hid hlt
      clear hlt
      go_wp2_with fail
      refine HLV.out.mono ?_
      rintro e w3 ⟨v', l', rfl, hO, hC, hF, hnd, hmem⟩
      obtain ⟨A4, c4, rfl, -, -, -⟩ := own_any hO
      have hcn := HI.out.cnt HOK.out
      have hu1 := untW_at HOK.out HC.out
      have hu2 := untW_at HOK.out hC
      have HO4 := Lib.hid (hO.mono HC.out.sz)
      have HC4 := Lib.hid hC
      have HI4 := Lib.hid (HI.out.next HOK.out hnd hmem)
      have HB4 := Lib.hid (HB.out.trans (hF.below (fun k hk => by have := HS.out; omega) HB.out.size))
      have hll := HLT.out
      clear hO hC hF hnd hmem HLV
      go_wp2_with fail
      exact ⟨⟨l', A4, c4, _, _, rfl, HO4, HC4, HI4, by omega, HB4⟩, by omega⟩
    · have h0 : l = [] := List.eq_nil_of_length_eq_zero (by omega)
      subst h0
      go_wp2_with fail
      exact bodyPost_ret (results_two Tryz.results86 _ _) rfl ⟨s, Vf, mk, nm, rfl, HS.out, HC.out, fun x => HI.out.done HOK.out, HB.out⟩
/-- those that are left -/
def LeftPost (K : List KqS) (w : World) (e : Ending) (w' : World) : Prop :=
  ∃ A c L, e = .returned (.slice A L.length c) ∧ OwnI w' w.heap.size (.slice A L.length c) L ∧ Below w.heap.size w w' ∧ L.Pairwise (· < ·) ∧ ∀ x, x ∈ L ↔ x ∈ K.map (·.ref) ∧ ¬ Rch K x
set_option maxRecDepth 100000 in
set_option maxHeartbeats 4000000 in
theorem cyc_left {w : World} {s nm : Nat} {K : List KqS} {Vf : Int → Value} {mk : Int → Bool} (ok : KqOk K) (h : CyAt w s K Vf mk nm) (hmk : ∀ x, mk x = true ↔ Rch K x) : Calls Tryz.prog 87 #[.pointer (some ⟨s + 3, 0, none⟩)] w (LeftPost K w) := by
  have HC := Lib.hid h
  have HOK := Lib.hid ok
  have HMK := Lib.hid hmk
  have k0 := h.c0
  obtain ⟨n0, hn0, hm0⟩ := h.mr
  have HM0 := Lib.hid hm0
  have hsz := h.sz
  have hs0 : s < w.heap.size := by omega
  have h480 := ok.len
  obtain ⟨g, hg⟩ : ∃ g, rfG K K.length Vf = g := ⟨_, rfl⟩
  rw [hg] at HM0
  have HG := Lib.hid hg
  clear h ok hmk hm0 hg
  go_enter Tryz.func87, Tryz.ntmps87
  go_wp2_with (first | (at_range; go_loud (refine wp_range_M rfl _ 231 31 rfl und_mil s n0 g rfl HM0.out ?_); intro w0 hrng hfr hsz0; have HRNG := Lib.hid hrng; have HFR0 := Lib.hid hfr; have HSZ0 := Lib.hid hsz0; clear hrng hfr hsz0))
  go_frame
  go_loopw [3, 4] (fun v3 v4 wr => ∃ L A c L2, v3 = .slice A L2.length c ∧ L2 = L.filter (fun x => !mk x) ∧ Hid (RngM wr s w.heap.size g L) ∧ Hid (OwnI wr (w.heap.size + 1) (.slice A L2.length c) L2) ∧ Hid (Below w.heap.size w wr) ∧ w.heap.size + 1 ≤ wr.heap.size) (fun _ _ wr => wr.rangeLeft s w.heap.size)
  case atStart => exact ⟨[], none, 0, [], rfl, rfl, HRNG, Lib.hid (OwnI.nil _ _), Lib.hid (HFR0.out.below (fun _ h => h.elim) (Nat.le_refl _)), by have := HSZ0.out; omega⟩
  case round =>
    obtain ⟨L, A, c, L2, rfl, hL2, HR, HO, HB, hszr⟩ := hrel
    have hsnd : ∀ x, x ∈ L → x ∈ K.map (·.ref) := fun x hx => by
      obtain ⟨_, _, _, _, _, _, _, h4, _⟩ := HR.out
      have := (h4 x hx).2
      rw [← HG.out] at this
      unfold rfG at this
      rw [refsK_all] at this
      by_cases e : x ∈ K.map (·.ref)
      · exact e
      · rw [if_neg e] at this
        cases this
    have hnd : L.Nodup := by
      obtain ⟨_, _, _, _, _, _, h3, _⟩ := HR.out
      exact h3
    have hlen : L2.length ≤ 480 := by
      have h1 := nodup_leI hnd (m := K.map (·.ref)) hsnd
      rw [List.length_map] at h1
      have h2 : L2.length ≤ L.length := by rw [hL2]; exact List.length_filter_le _ _
      omega
    have HND := Lib.hid hnd
    have HSND := Lib.hid hsnd
    have HL2 := Lib.hid hL2
    clear hsnd hnd hL2
    go_wp2_with (first
      | (at_next; (refine wp_next_M rfl _ rfl s w.heap.size g L rfl HR.out ?_ ?_; rotate_left; (intro x v w5 hwx hgx hxL hR5 hlt5 hf5 hs5 hen; have HR5 := Lib.hid hR5; have HF5 := Lib.hid hf5; have HO5 := Lib.hid (show OwnI w5 (w.heap.size + 1) (.slice A L2.length c) L2 from hf5.row HO.out (fun k hk e => by have := (HO.out.blk k hk).1; omega)); have HLT5 := Lib.hid hlt5; have HS5 := Lib.hid hs5; have hw5 : w.heap.size + 1 ≤ w5.heap.size := (by omega); have HB5 := Lib.hid (show Below w.heap.size w w5 from HB.out.trans (hf5.below (fun k hk => by omega) HB.out.size)); obtain ⟨n5, hn5, hm5⟩ := HC.out.mm; have k1 := (Fr.of_below (S := fun _ => False) HB5.out).cell HC.out.c1 (fun h => h); have hlm := look_mib (hm5.fr (Fr.of_below (S := fun _ => False) HB5.out) (fun h => h)) hwx; clear hwx hgx hxL hR5 hf5 hlt5 hs5 hn5 hm5; rcases hmx : mk x with _ | _); rotate_left 2; (intro hd; have HD := Lib.hid hd; clear hd)))
      | (at_builtin; go_loud (refine wpList_append_int rfl _ _ rfl (w.heap.size + 1) (.slice A L2.length c) L2 rfl HO5.out w5.heap.size rfl x rfl (by omega) (by omega) ?_; intro v6 w6 hO6 hg6 hat6; have HO6 := Lib.hid hO6; have HG6 := Lib.hid hg6; have HA6 := Lib.hid hat6; clear hO6 hg6 hat6)))
    · refine (sortI_own _ _ L2 _ HO.out (by omega)).mono ?_
      rintro e w6 ⟨rfl, hO6, hg6⟩
      have HO6 := Lib.hid hO6
      have HG6 := Lib.hid hg6
      clear hO6 hg6
      go_wp2_with fail
      go_ret
      have hll := srt_len L2
      have hnd2 : L2.Nodup := by rw [HL2.out]; exact HND.out.sublist List.filter_sublist
      refine ⟨A, c, srt L2, by rw [hll]; rfl, ?_, below_grown HB.out HB.out.size HG6.out (fun k hk => by have := (HO.out.blk k hk).1; omega), ?_, fun x => ?_⟩
      · rw [hll]
        exact HO6.out.mono (by omega)
      · have h1 := srt_pairwise L2
        have h2 : (srt L2).Nodup := (srt_perm L2).nodup_iff.2 hnd2
        exact (h1.and h2).imp (by intro a b hab; have := hab.1; have := hab.2; omega)
      · rw [(srt_perm L2).mem_iff, HL2.out, List.mem_filter]
        refine ⟨fun hx => ⟨HSND.out x hx.1, fun hr => ?_⟩, fun hx => ⟨?_, ?_⟩⟩
        · have := hx.2
          rw [(HMK.out x).2 hr] at this
          cases this
        · obtain ⟨k, hk, rfl⟩ := List.mem_map.1 hx.1
          refine HD.out _ (HOK.out.wf k hk).1 ?_
          rw [← HG.out]
          unfold rfG
          rw [refsK_all, if_pos hx.1]
          rfl
        · rcases hb : mk x with _ | _
          · rfl
          · exact absurd ((HMK.out x).1 hb) hx.2
    · obtain ⟨A6, c6, hv6, -, -, -⟩ := own_any HO6.out
      obtain ⟨r1, r2, r3⟩ := HR5.out.lt
      have hrb := HB.out.size
      have hg6 := HG6.out
      have hne : (Value.slice A L2.length c).ownBlock ≠ some s ∧ (Value.slice A L2.length c).ownBlock ≠ some w.heap.size := ⟨fun e => by have := (HO.out.blk s e).1; omega, fun e => by have := (HO.out.blk _ e).1; omega⟩
      obtain ⟨k1, k2⟩ := HR5.out.fr (Fr.of_grown (S := fun k => (Value.slice A L2.length c).ownBlock = some k) hg6 (fun k hk => .inl hk)) hne.1 hne.2
      have hm := HLT5.out
      have hs5 := HS5.out
      refine ⟨⟨L ++ [x], A6, c6, L2 ++ [x], hv6.trans (by simp), by rw [List.filter_append, ← HL2.out]; simp [hmx], Lib.hid k1, Lib.hid (by have := HO6.out; rw [hv6] at this; simpa using this), Lib.hid ?_, ?_⟩, ?_⟩
      · exact below_grown HB5.out (by omega) hg6 (fun k hk => by have := (HO.out.blk k hk).1; omega)
      · have := hg6.size; omega
      · omega
    · obtain ⟨r1, r2, r3⟩ := HR5.out.lt
      have hm := HLT5.out
      have hs5 := HS5.out
      exact ⟨⟨L ++ [x], A, c, L2, rfl, by rw [List.filter_append, ← HL2.out]; simp [hmx], HR5, HO5, HB5, by omega⟩, by omega⟩
def GarbPost (K : List KqS) (w : World) (e : Ending) (w' : World) : Prop :=
  ∃ A c L, e = .returned (.tuple #[.slice A L.length c, .int .i64 0]) ∧ OwnI w' w.heap.size (.slice A L.length c) L ∧ Below w.heap.size w w' ∧ L.Pairwise (· < ·) ∧ ∀ x, x ∈ L ↔ x ∈ K.map (·.ref) ∧ ¬ Rch K x
set_option maxRecDepth 100000 in
set_option maxHeartbeats 4000000 in
theorem cyc_garb (w : World) (A : Option Addr) (c : Nat) (K : List KqS) (ok : KqOk K) (h : KqIn w A K) : Calls Tryz.prog 47 #[.slice A K.length c] w (GarbPost K w) := by
  have HN := Lib.hid (cyc_new w A c K ok h)
  have HOK := Lib.hid ok
  clear h ok
  go_enter Tryz.func47, Tryz.ntmps47
  go_wp2_with fail
  refine HN.out.mono ?_
  rintro e w1 ⟨s, Vf, mk, nm, rfl, hs, hc, hmk, hb⟩
  have HL := Lib.hid (cyc_left HOK.out hc hmk)
  have HB := Lib.hid hb
  clear hc hmk hb HN
  go_wp2_with fail
  refine HL.out.mono ?_
  rintro e w2 ⟨A2, c2, L, rfl, ho, hb2, hsr, hm⟩
  have HF := Lib.hid (And.intro (OwnI.mono ho HB.out.size) (And.intro (HB.out.trans (hb2.mono HB.out.size)) (And.intro hsr hm)))
  clear ho hb2 hsr hm HL
  go_wp2_with fail
  exact bodyPost_ret (results_two Tryz.results47 _ _) rfl ⟨A2, c2, L, rfl, HF.out.1, HF.out.2.1, HF.out.2.2.1, HF.out.2.2.2⟩
end Go.Proofs.YthgbcgphkddmgaaGreat
namespace Go.Proofs.YthgbcgphkddmgaaGreat
open Go.RowKit Go.Maps
set_option linter.unusedVariables false
set_option linter.unusedSimpArgs false
theorem ownI_in' {w : World} {B c : Nat} {A : Option Addr} {l : List Int} (h : OwnI w B (.slice A l.length c) l) : NumIn w (fun b => b < w.heap.size) (.slice A l.length c) l := by
  obtain ⟨A', c', e, h1, h2, h3⟩ := own_any h
  have e' : A = A' ∧ c = c' := by
    injection e with e1 _ e3
    exact ⟨e1, e3⟩
  obtain ⟨rfl, rfl⟩ := e'
  refine ⟨A, c, rfl, h1, h2, fun h0 => ?_⟩
  obtain ⟨g, cap, hv, hb, hlt, _⟩ := own_form h h0
  injection hv with e1 _ e3
  subst e1
  refine ⟨g, 0, rfl, hlt, fun j hj => ?_⟩
  have := own_cellC (G := tmC (lst l)) (sz := 1) (k := j) (j := 0) (by rw [flatC_lst]; exact h) (tmC_len _) hj (by omega)
  simpa [tmC] using this
theorem KqRow.kin {w : World} {base : Nat} {A : Option Addr} {c : Nat} {K : List KqS} {V : Nat → Value} (h : KqRow w base (.slice A K.length c) K V) : KqIn w A K := fun h0 => by
  obtain ⟨b, cap, hv, -, hb, -⟩ := own_form h.row h0
  injection hv with e1 _ e3
  subst e1
  refine ⟨b, 0, V, rfl, hb, fun i hi => ⟨fun j u hu => ?_, ?_⟩⟩
  · have hj : j < 4 := by
      rcases Nat.lt_or_ge j 4 with hh | hh
      · exact hh
      · rw [List.getElem?_eq_none (by simpa [kqC] using hh)] at hu; cases hu
    have := own_cellC h.row (fun _ => rfl) hi (j := j) hj
    rw [Nat.zero_add, this]
    exact hu
  · obtain ⟨Aq, cq, hVq, -, -, -⟩ := own_any (h.each i hi)
    have he := h.each i hi
    rw [hVq] at he ⊢
    exact ownI_in' he
def dropsN (N : NdS) (l : List Int) : NdS := l.foldl dropN N
theorem dropN_no {N : NdS} {r : Int} (h : N.has r = false) : dropN N r = N := by unfold dropN; rw [h]; rfl
theorem refs_drop (N : NdS) (r : Int) : refsN (dropN N r) = (refsN N).filter fun x => !(x == r) := by
  rcases h : N.has r with _ | _
  · rw [dropN_no h]
    refine (List.filter_eq_self.2 fun x hx => ?_).symm
    rcases he : x == r with _ | _
    · rfl
    · have : x = r := by simpa using he
      subst this
      rw [mem_refsN.1 hx] at h
      cases h
  · unfold dropN
    rw [h]
    show (N.acts.filter _).map _ = _
    unfold refsN
    rw [List.filter_map]
    rfl
theorem drop_id (N : NdS) (r : Int) : (dropN N r).id = N.id := by unfold dropN; split <;> rfl
theorem drops_id (l : List Int) : ∀ N : NdS, (dropsN N l).id = N.id := by
  induction l with
  | nil => intro N; rfl
  | cons r l ih => intro N; show (dropsN (dropN N r) l).id = _; rw [ih, drop_id]
theorem drops_snoc (N : NdS) (l : List Int) (r : Int) : dropsN N (l ++ [r]) = dropN (dropsN N l) r := by unfold dropsN; rw [List.foldl_append]; rfl
theorem refs_drops (l : List Int) : ∀ N : NdS, refsN (dropsN N l) = (refsN N).filter fun x => !decide (x ∈ l) := by
  induction l with
  | nil => intro N; show refsN N = _; exact (List.filter_eq_self.2 (fun x _ => by simp)).symm
  | cons r l ih =>
    intro N
    show refsN (dropsN (dropN N r) l) = _
    rw [ih, refs_drop, List.filter_filter]
    refine List.filter_congr fun x _ => ?_
    by_cases e : x = r
    · subst e; simp
    · have e2 : (x == r) = false := by simpa using e
      rw [e2]
      simp [e]
theorem has_refsD {N : NdS} {x : Int} : N.has x = decide (x ∈ refsN N) := by
  rcases h : N.has x with _ | _
  · refine (decide_eq_false fun hm => ?_).symm
    rw [mem_refsN.1 hm] at h
    cases h
  · exact (decide_eq_true (mem_refsN.2 h)).symm
theorem mem_catTo {f : Nat → List Int} {x : Int} : ∀ {n : Nat}, x ∈ catTo f n ↔ ∃ i, i < n ∧ x ∈ f i
  | 0 => ⟨fun h => (by cases h), fun ⟨i, hi, _⟩ => (by omega)⟩
  | n + 1 => by
    show x ∈ catTo f n ++ f n ↔ _
    rw [List.mem_append, mem_catTo (n := n)]
    refine ⟨fun h => ?_, fun ⟨i, hi, hx⟩ => ?_⟩
    · rcases h with ⟨i, hi, hx⟩ | hx
      · exact ⟨i, by omega, hx⟩
      · exact ⟨n, by omega, hx⟩
    · by_cases e : i = n
      · subst e; exact .inr hx
      · exact .inl ⟨i, by omega, hx⟩
section
variable {w : World} {X Mc : Nat → Prop} {base T : Nat} {bl : CBk → Nat} {pn : Nat → Nat} {vl : Value} {ll : Nat} {M : Nat → Nat → Prop} {Pn : Nat → Int → Nat} {C : CqS}
theorem CqG.congrN {C' : CqS} (h : CqG w X Mc base T bl pn vl ll M Pn C) (e0 : C'.n = C.n) (e : ∀ i, i < C.n → C'.nd i = C.nd i) (e1 : C'.cnt = C.cnt) (e2 : C'.tab = C.tab) (e3 : C'.held = C.held) (e4 : C'.hn = C.hn) : CqG w X Mc base T bl pn vl ll M Pn C' := by
  obtain ⟨n, nd, cnt, tab, held, hn⟩ := C'
  dsimp only at e0 e e1 e2 e3 e4
  subst e0 e1 e2 e3 e4
  exact ⟨h.n8, h.inj, h.own, h.vlm, h.sub, h.mx, h.dis, fun i hi => by show NodeAt _ _ _ _ _ _ _ (nd i); rw [e i hi]; exact h.nd i hi, fun i hi => by show (nd i).id = _; rw [e i hi]; exact h.ids i hi, h.cp, ⟨h.co.ra, h.co.rb, h.co.nm, h.co.me, h.co.ed, h.co.mw, h.co.mt, h.co.mo, h.co.mh, h.co.lg⟩⟩
def dropsC (C : CqS) (l : List Int) : CqS := { C with nd := fun i => dropsN (C.nd i) l }
def CollPost (X Mc : Nat → Prop) (base T : Nat) (bl : CBk → Nat) (pn : Nat → Nat) (ll : Nat) (C : CqS) (w : World) (e : Ending) (w' : World) : Prop :=
  ∃ A c L K, e = .returned (.tuple #[.slice A L.length c, .int .i64 0]) ∧ K.map (·.ref) = refsTo C C.n ∧ (∀ k, k ∈ K → KqOf C k) ∧ L.Pairwise (· < ·) ∧ (∀ x, x ∈ L ↔ x ∈ K.map (·.ref) ∧ ¬ Rch K x) ∧
    OwnI w' w.heap.size (.slice A L.length c) L ∧ ∃ X' Mc', Gr X Mc w X' Mc' w' ∧ CqAt w' X' Mc' base T bl pn ll (dropsC C L) ∧ ∀ b, (Value.slice A L.length c).ownBlock = some b → ¬ Mc' b
set_option maxRecDepth 100000 in
set_option maxHeartbeats 8000000 in
theorem ccollect_any (h : CqG w X Mc base T bl pn vl ll M Pn C) (hhn : C.hn ≤ 1000000) (hwf : ∀ i j, i < C.n → j < Nm.cntT (C.tab i) → Wf (Nm.rwT (C.tab i) j).ref) (hT : T ≤ 100000000000)
    (hK : ∀ K, K.map (·.ref) = refsTo C C.n → (∀ k, k ∈ K → KqOf C k) → KqOk K) (hone : ∀ i j x, i < C.n → j < C.n → x ∈ refsN (C.nd i) → x ∈ refsN (C.nd j) → i = j) :
    Calls Tryz.prog 16 #[.pointer (some ⟨bl .P, 0, none⟩)] w (CollPost X Mc base T bl pn ll C w) := by
  have HKN := Lib.hid (cknows_any h hhn hwf hT)
  have HH := Lib.hid h
  have HK := Lib.hid hK
  have HONE := Lib.hid hone
  have h8 := h.n8
  clear h hwf hK hone
  go_enter Tryz.func16, Tryz.ntmps16
  go_wp2_with fail
  refine HKN.out.mono ?_
  rintro e w1 ⟨A1, c1, K, V, rfl, hrow, hm, hof, hb1⟩
  have hok := HK.out K hm hof
  have HGB := Lib.hid (cyc_garb w1 A1 c1 K hok hrow.kin)
  have HB1 := Lib.hid hb1
  have HM := Lib.hid hm
  have HOF := Lib.hid hof
  have HL480 := Lib.hid hok.len
  clear hrow hm hof hb1 hok HKN
  go_wp2_with fail
  refine HGB.out.mono ?_
  rintro e w2 ⟨A, c, L, rfl, ho2, hb2, hsr, hmem⟩
  have HO2 := Lib.hid ho2
  have HB2 := Lib.hid (HB1.out.trans (hb2.mono HB1.out.size))
  have HS := Lib.hid hsr
  have HMEM := Lib.hid hmem
  have HH2 := Lib.hid (HH.out.new (Fr.of_below HB2.out))
  have hll : L.length ≤ 480 := by
    have hnd : L.Nodup := hsr.imp (by intro a b h; omega)
    have := nodup_leI hnd (m := K.map (·.ref)) (fun x hx => ((hmem x).1 hx).1)
    rw [List.length_map] at this
    have := HL480.out
    omega
  have HZ := Lib.hid (show w.heap.size ≤ w1.heap.size from HB1.out.size)
  clear ho2 hb2 hsr hmem HGB
  go_wp2_with fail
  go_loopw [7, 8, 20] (fun _ _ v20 wr => ∃ (q : Nat) (X' Mc' : Nat → Prop), q ≤ L.length ∧ v20 = .int .i64 (q : Int) ∧ Hid (Gr X Mc w2 X' Mc' wr) ∧ Hid (CqAt wr X' Mc' base T bl pn ll (dropsC C (L.take q)))) (fun _ _ v20 _ => L.length - (intOf v20).toNat)
  case atStart => exact ⟨0, X, Mc, Nat.zero_le _, rfl, Lib.hid (Gr.refl _ _ _), Lib.hid ⟨vl, M, Pn, HH2.out⟩⟩
  case round =>
    obtain ⟨q, X', Mc', hq, rfl, HG, HC⟩ := hrel
    obtain ⟨vl3, M3, Pn3, hC⟩ := HC.out
    have HC := Lib.hid hC
    have hblk : ∀ b, (Value.slice A L.length c).ownBlock = some b → ¬ Mc b := fun b hb hm => by
      have h1 := (HO2.out.blk b hb).1
      have h2 := HH.out.xlt b (HH.out.mx b hm).1
      have := HZ.out
      omega
    have HBK := Lib.hid hblk
    have HOr := Lib.hid (HG.out.fr.row HO2.out hblk)
    by_cases hlt : q < L.length
    · have hxm : lst L q ∈ L := by
        unfold lst
        rw [List.getD_eq_getElem?_getD, List.getElem?_eq_getElem hlt]
        exact List.getElem_mem _
      have htk : L.take (q + 1) = L.take q ++ [lst L q] := by
        unfold lst
        rw [List.take_add_one, List.getD_eq_getElem?_getD, List.getElem?_eq_getElem hlt]
        rfl
      have hnt : lst L q ∉ L.take q := fun hm => by
        have h1 : (L.take (q + 1)).Pairwise (· < ·) := HS.out.sublist (List.take_sublist _ _)
        rw [htk, List.pairwise_append] at h1
        have := h1.2.2 _ hm _ (List.mem_singleton.2 rfl)
        omega
      obtain ⟨b, off, rfl, hb, hcell⟩ := OwnI.rd HOr.out (by omega)
      have x0 := hcell q hlt 0 _ rfl
      simp only [Nat.mul_one, Nat.add_zero] at x0
      obtain ⟨x, hx⟩ : ∃ x, lst L q = x := ⟨_, rfl⟩
      rw [hx] at x0 hxm htk hnt
      have hxr : x ∈ refsTo C C.n := by rw [← HM.out]; exact ((HMEM.out x).1 hxm).1
      obtain ⟨i, hi, hxi⟩ := mem_catTo.1 hxr
      have hin : x ∈ refsN ((dropsC C (L.take q)).nd i) := by
        show x ∈ refsN (dropsN (C.nd i) _)
        rw [refs_drops]
        exact List.mem_filter.2 ⟨hxi, by simpa using hnt⟩
      have hno : ∀ j, j < C.n → j ≠ i → x ∉ refsN ((dropsC C (L.take q)).nd j) := fun j hj hne hm => by
        have hm : x ∈ refsN (dropsN (C.nd j) (L.take q)) := hm
        rw [refs_drops] at hm
        exact hne (HONE.out j i x hj hi (List.mem_filter.1 hm).1 hxi)
      have hcn : (dropsC C (L.take q)).n = C.n := rfl
      have HFI := Lib.hid (find_any HC.out i x hi hin (fun j hj => hno j (by omega) (by omega)))
      have hwx : Wf x := by
        obtain ⟨a, ha, e⟩ := has_iff.1 (mem_refsN.1 hxi)
        rw [← e]
        exact ((HH.out.nd i hi).ok.act a ha).ref
      have HD := Lib.hid (show ∀ W, Fr (fun _ => False) wr W → Calls Tryz.prog 50 #[.pointer (some ⟨pn i, 0, none⟩), .int .i64 x] W (NdPost X' (M3 i) base T (pn i) (Pn3 i) (dropN ((dropsC C (L.take q)).nd i) x) W (.int .i64 (if ((dropsC C (L.take q)).nd i).has x = true then 0 else 4))) from fun W hf => drop_any ((HC.out.new hf).nd i hi) x hwx)
      have HAT := Lib.hid (show ∀ W, Fr (fun _ => False) wr W → Calls Tryz.prog 39 #[.pointer (some ⟨bl .P, 0, none⟩), .int .i64 ((i : Int) + 1)] W fun e w' => e = .returned (.pointer (some ⟨pn i, 0, none⟩)) ∧ w' = W from fun W hf => by
        obtain ⟨ca, c0⟩ := (HC.out.new hf).cp.c0
        exact at_any (bl .P) C.n (bl .Va) ca i (pn i) ((i : Int) + 1) W c0 hi (by omega) rfl ((HC.out.new hf).co.ra i hi))
      have HCQ := Lib.hid (show ∀ j, j < C.n → (dropsC C (L.take (q + 1))).nd j = updN (dropsC C (L.take q)).nd i (dropN ((dropsC C (L.take q)).nd i) x) j from fun j hj => by
        show dropsN (C.nd j) (L.take (q + 1)) = _
        rw [htk, drops_snoc]
        by_cases e : j = i
        · subst e; rw [updN_self]; rfl
        · rw [updN_ne _ _ e]
          exact dropN_no (N := dropsN (C.nd j) (L.take q)) (by rw [has_refsD]; exact decide_eq_false (hno j hj e)))
      have i1 : (0 : Int) ≤ (q : Int) := by omega
      have i2 : (q : Int) < (L.length : Int) := by omega
      have HI := Lib.hid hi
      clear hcell hxm htk hnt hxr hxi hin hno hwx hx hblk
      go_wp2_with fail
      refine HFI.out.mono ?_
      rintro e w3 ⟨rfl, hf3⟩
      have HF3 := Lib.hid hf3
      have hd : decide ((i : Int) + 1 > (0 : Int)) = true := decide_eq_true (by omega)
      clear hf3 HFI
      go_wp2_with fail
      refine (HAT.out w3 HF3.out).mono ?_
      rintro e w4 ⟨rfl, rfl⟩
      go_wp2_with fail
      refine (HD.out _ HF3.out).mono ?_
      rintro e w5 ⟨rfl, X5, M5, hg5, hn5⟩
      have hC5 := (HC.out.new HF3.out).node HI.out hg5 hn5 (Nat.le_refl _) (by rw [drop_id]; exact HC.out.ids i HI.out)
      have hC5 := hC5.congrN (C' := dropsC C (L.take (q + 1))) rfl HCQ.out rfl rfl rfl rfl
      have HC5 := Lib.hid hC5
      have HG5 := Lib.hid ((HG.out.trans (Gr.new HF3.out)).trans (Gr.cl (HC.out.new HF3.out) HI.out hg5))
      clear hg5 hn5 hC5 HD HAT
      go_wp2_with fail
      exact ⟨⟨q + 1, _, _, by omega, by go_num, HG5, Lib.hid ⟨_, _, _, HC5.out⟩⟩, by simp [intOf]; omega⟩
    · obtain rfl : q = L.length := by omega
      go_wp2_with fail
      refine bodyPost_ret (results_two Tryz.results16 _ _) rfl ⟨A, c, L, K, rfl, HM.out, HOF.out, HS.out, HMEM.out, OwnI.mono HOr.out HZ.out, X', Mc', (Gr.new (Fr.of_below HB2.out)).trans HG.out, ⟨_, _, _, by rw [List.take_length] at hC; exact hC⟩, fun b hb hm => ?_⟩
      rcases HG.out.ms b hm with e | e
      · exact HBK.out b hb e
      · have := (HO2.out.blk b hb).2; omega
end
end Go.Proofs.YthgbcgphkddmgaaGreat
