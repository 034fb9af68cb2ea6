/- A cluster with live lines: flow. -/
import Derived.Test.YthgbcgphkddmgaaGreatZBM
namespace Go.Proofs.YthgbcgphkddmgaaGreat
open Go.RowKit Go.Maps
set_option linter.unusedVariables false
set_option linter.unusedSimpArgs false
/-- the letters that were told lie in blocks that the node wrote, or that nobody writes -/
def OutPostS (X M : Nat → Prop) (base T p : Nat) (P : Int → Nat) (N : NdS) (w : World) (e : Ending) (w' : World) : Prop :=
  ∃ A c M', e = .returned (.slice A N.out.length c) ∧ N.out.length ≤ c ∧ c ≤ 9223372036854775807 ∧ RdL w' (fun k => ¬ X k ∨ M k) A N.out.length (nthL N.out) ∧ Gr X M w X M' w' ∧ NodeAt w' X M' base T p P (outN N)
set_option maxRecDepth 100000 in
set_option maxHeartbeats 4000000 in
theorem out_anyS {w : World} {X M : Nat → Prop} {base T p : Nat} {P : Int → Nat} {N : NdS} (h : NodeAt w X M base T p P N) :
    Calls Tryz.prog 69 #[.pointer (some ⟨p, 0, none⟩)] w (OutPostS X M base T p P N w) := by
  have hpX := h.pM
  obtain ⟨h1, h2, h3, mb, hb, MA, ob, sb, h4, h5⟩ := h
  obtain ⟨v8, C, c8, ho⟩ := h4.c8
  obtain ⟨A, c, rfl, k1, k2, k3⟩ := own_any ho.row
  have hG := h4.out0 hpX.2
  have hfz := h4.fz 8
  have hap := h4.ap
  have hown := h4.own
  have HF := Lib.hid (show OutPostS X M base T p P N w (.returned (.slice A N.out.length c)) (w.setCell ⟨p, 8, none⟩ (.slice none 0 0)) from by
    have hfr : Fr (fun k => k = p) w (w.setCell ⟨p, 8, none⟩ (.slice none 0 0)) := Fr.setAt (Fr.refl _ w) _
    refine ⟨A, c, fun k => M k ∧ ob ≠ some k, rfl, k1, k2, ?_, ⟨(Fr.refl M w).set (.inl hpX.1) _, fun _ h => h, fun _ h => .inl h, fun k hk => .inl hk.1⟩, { h1 with }, fun k hk => by simpa using h2 k hk, fun k hk => h3 k hk.1, mb, hb, MA, none, sb, hG, ⟨h5.p, fun e => (hap.2.2.2.1 p e).1 rfl⟩, ⟨h5.mb, fun e => (hap.2.2.2.1 mb e).2.1 rfl⟩, ⟨h5.hb, fun e => (hap.2.2.2.1 hb e).2.2.1 rfl⟩, fun k hk => (by cases hk), fun k hk => ⟨h5.sb k hk, fun e => (hap.2.2.2.1 k e).2.2.2 hk⟩, fun a ha k hk => ⟨h5.act a ha k hk, fun e => (hown a ha k hk).2.2.2.1 e⟩⟩
    · intro h0
      obtain ⟨g, cap, hv, hb0, hlt, hc⟩ := own_form ho.row h0
      injection hv with e1 e2 e3
      subst e1 e3
      have hog : ob = some g := ho.blk.symm
      have hgp : g ≠ p := (hap.2.2.2.1 g hog).1
      refine ⟨g, 0, rfl, by simpa using hlt, .inr (h5.ob g hog), C, fun i hi => ⟨?_, fun j u hu => ?_⟩⟩
      · exact isL_frame hfr.size (fun k hk hl => ⟨.inl hk, hfr.block k hl (fun e => hk (e ▸ hpX.2.1))⟩) (ho.each i hi)
      · have hj : j < 9 := by
          have := (List.getElem?_eq_some_iff.1 hu).1
          rw [ho.len i] at this
          exact this
        have := own_cellC ho.row ho.len hi hj
        rw [Nat.zero_add]
        exact hfr.cell (this.trans hu) hgp)
  clear h1 h2 h3 h4 h5 hG hap hown ho k3
  go_enter Tryz.func69, Tryz.ntmps69
  go_wp2_with fail
  refine bodyPost_ret (v := .slice A N.out.length c) (by simp [results, Tryz.results69, go_sem]) rfl ?_
  exact HF.out
section
variable {w w' : World} {X X' Mc D : Nat → Prop} {base T T' : Nat} {bl : CBk → Nat} {pn : Nat → Nat} {rv rv' : RBk → Value} {Bd Bd' : Nat → Prop} {M : Nat → Nat → Prop} {Pn : Nat → Int → Nat} {C C' : GcS}
set_option maxRecDepth 100000 in
/-- one letter more waits -/
theorem GcG.more_wt (h : GcG w X Mc base T bl pn rv Bd M Pn C) {i k : Nat} (hi : i < C.n) (hk : k < C.n) (hne : i ≠ k) {W w6 : World} {x : FL} {z v6 : Value} {Z : Nat → Value}
    (hB : Fr (fun _ => False) w W) (h6 : W.grownBy w6 (rv (.Wt i k)).ownBlock) (hZ : ∀ j, ∃ A c, Z j = .slice A 0 c) (hz : ∃ A c, z = .slice A 0 c)
    (hq : QR w6 base 154 9 v6 ((C.wt i k).length + 1) (flatC (flC (C.wt i k) Z) (C.wt i k).length ++ letC x z)) (hat : v6.ownBlock = (rv (.Wt i k)).ownBlock ∨ ∃ g, v6.ownBlock = some g ∧ W.heap.size ≤ g) :
    ∃ w7, (Instr.mapUpdate 82 (.map (some (bl .Mw))) (.agg #[.int .i64 ((i : Int) + 1), .int .i64 ((k : Int) + 1)]) v6).run Tryz.prog w6 = .ok () w7 ∧ Fr (fun b => b = bl .Mw ∨ (rv (.Wt i k)).ownBlock = some b) w w7 ∧
      ∃ X' Mc', Gr X Mc w X' Mc' w7 ∧ GcG w7 X' Mc' base T bl pn (updR rv (.Wt i k) v6) Bd M Pn { C with wt := upd2 C.wt i k (C.wt i k ++ [x]) } := by
  have h8 := h.n8
  have hrok : (RBk.Wt i k).ok C.n := ⟨hi, hk, hne⟩
  have hMw : bl .Mw < w.heap.size := h.mlt _ (h.own .Mw trivial).1
  have hzW : w.heap.size ≤ W.heap.size := hB.size
  have hlt6 : ∀ b, v6.ownBlock = some b → b < w6.heap.size := hq.lt (fun A m e => by
    obtain ⟨ao, cap, e1, e2, -⟩ := hq.form
    rw [e1] at e
    injection e with _ _ e3
    omega)
  have hvo : v6.ownBlock = (rv (.Wt i k)).ownBlock ∨ ∃ g, v6.ownBlock = some g ∧ w.heap.size ≤ g := by
    rcases hat with e | ⟨g, e, hg⟩
    · exact .inl e
    · exact .inr ⟨g, e, by omega⟩
  have hnM : ∀ b, v6.ownBlock = some b → b ≠ bl .Mw := fun b hb e => by
    rcases hvo with e1 | ⟨g, e1, hg⟩
    · rw [e1] at hb
      exact (h.row _ hrok b hb).2.2.1 .Mw trivial e.symm
    · rw [e1] at hb
      injection hb with hb
      omega
  have hf6 : Fr (fun b => (rv (.Wt i k)).ownBlock = some b) w w6 := Fr.trans' (S := fun b => (rv (.Wt i k)).ownBlock = some b) (hB.weak (fun _ h => h.elim)) (Fr.of_grown h6 (fun b hb => .inl hb))
  obtain ⟨m, g, hm, ho, hg⟩ : WayMap w (bl .Mw) C.n _ := h.cc .Mw trivial
  have ho6 := ho.fr hf6 (fun e => (h.row _ hrok _ e).2.2.1 .Mw trivial rfl)
  obtain ⟨w7, r1, r2, r3⟩ := ho6.store und_mwl (by have := cntW_le g; unfold maxLen; omega) (i + 1) (k + 1) v6 (by omega) (by omega)
  rw [wayV_succ] at r1
  have h7 : Fr (fun b => b = bl .Mw) w6 w7 := Fr.of_grown r3 (fun b hb => .inl (by injection hb with hb; exact hb.symm))
  have hf7 : Fr (fun b => b = bl .Mw ∨ (rv (.Wt i k)).ownBlock = some b) w w7 := Fr.trans' (S := fun b => b = bl .Mw ∨ (rv (.Wt i k)).ownBlock = some b) (hf6.weak (fun b hb => .inr hb)) (h7.weak (fun b hb => .inl hb))
  exact ⟨w7, r1, hf7, h.waited hi hk hne hf7 (WayMap.put (by omega) (by omega) hm r2 hg) (FlR.snoc hZ hz (hq.fr h7 (fun b hb hd => hnM b hb hd))) (fun b hb => Nat.lt_of_lt_of_le (hlt6 b hb) h7.size) hvo⟩
set_option maxRecDepth 100000 in
set_option maxHeartbeats 4000000 in
theorem flow_any (h : GcG w X Mc base T bl pn rv Bd M Pn C) {i : Nat} (hi : i < C.n) (L : List FL) (hout : (C.nd i).out = L.map flT) (hL : ∀ f, f ∈ L → f.ok ∧ ∃ k, k < C.n ∧ k ≠ i ∧ f.dst / 1000 = k + 1) (hwt : ∀ k, k < C.n → ∀ x, x ∈ C.wt i k → x.ok) (hlen : ∀ k, k < C.n → (C.tr i k).length + (C.wt i k).length + L.length ≤ 1000000) :
    Calls Tryz.prog 42 #[.pointer (some ⟨bl .P, 0, none⟩), .int .i64 ((i : Int) + 1)] w (GcPost X Mc base T bl pn (flowS i C L) w (.tuple #[])) := by
  have h8 := h.n8
  obtain ⟨ca, c0⟩ := (show GcP w bl C.n (rv .Air) (rv .Log) from h.cc .P trivial).c0
  have HAT := Lib.hid (at_any (bl .P) C.n (bl .Va) ca i (pn i) ((i : Int) + 1) w c0 hi (by omega) rfl ((show ∀ i, i < C.n → _ from h.cc .Va trivial) i hi))
  have HOUT := Lib.hid (out_anyS (h.nd i hi))
  have HH := Lib.hid h
  have HOL := Lib.hid hout
  have HL := Lib.hid hL
  have HWT := Lib.hid hwt
  have HLEN := Lib.hid hlen
  clear h c0 hout hL hwt hlen
  go_enter Tryz.func42, Tryz.ntmps42
  go_wp2_with fail
  refine HAT.out.mono ?_
  rintro e w1 ⟨rfl, rfl⟩
  go_wp2_with fail
  refine HOUT.out.mono ?_
  rintro e w2 ⟨A, c, M', rfl, -, -, hrd, hg, hN⟩
  obtain ⟨Pi, hPi⟩ : ∃ Pi, Pi = Pn i := ⟨_, rfl⟩
  rw [← hPi] at hN
  have hC := HH.out.node hi hg hN (Nat.le_refl _) (HH.out.ids i hi)
  have HG := Lib.hid (Gr.gc HH.out hi hg)
  have hll : (C.nd i).out.length = L.length := by rw [HOL.out, List.length_map]
  rw [HOL.out, List.length_map] at hrd
  have HNG := Lib.hid (show ∀ b off, A = some ⟨b, off, none⟩ → 0 < L.length → b < w2.heap.size ∧ (∀ a, a.ok C.n → bl a ≠ b) ∧ ∀ r, r.ok C.n → (rv r).ownBlock ≠ some b from fun b off e h0 => by
    obtain ⟨b', off', e', hb, hS, -⟩ := out_cells hrd h0
    rw [e] at e'
    injection e' with e'
    injection e' with e' _
    subst e'
    rcases hS with hS | hS
    · exact ⟨hb, fun a ha e => hS (e ▸ (HH.out.mx _ (HH.out.own a ha).1).1), fun r hr e => hS (HH.out.mx _ (HH.out.row r hr b e).1).1⟩
    · exact ⟨hb, fun a ha e => (HH.out.own a ha).2 i hi (e ▸ hS), fun r hr e => (HH.out.row r hr b e).2.1 i hi hS⟩)
  have HCELL := Lib.hid (fun h0 => out_cells hrd h0)
  have HC := Lib.hid hC
  clear hC hg hN HAT HOUT hrd
  rw [hll]
  obtain ⟨C1, hC1⟩ : ∃ C1, C1 = { C with nd := updN C.nd i (outN (C.nd i)) } := ⟨_, rfl⟩
  rw [← hC1] at HC
  have hn1 : C1.n = C.n := by rw [hC1]
  have HN1 := Lib.hid hn1
  have HWT1 := Lib.hid (show C1.wt = C.wt ∧ C1.tr = C.tr by rw [hC1]; exact ⟨rfl, rfl⟩)
  have HC1 := Lib.hid hC1
  obtain ⟨M1, hM1⟩ : ∃ M1, M1 = updN M i M' := ⟨_, rfl⟩
  rw [← hM1] at HC
  obtain ⟨P1, hP1⟩ : ∃ P1, P1 = updN Pn i Pi := ⟨_, rfl⟩
  rw [← hP1] at HC
  obtain ⟨Mc1, hMc1⟩ : ∃ Mc1, Mc1 = (fun k => Mc k ∨ M' k) := ⟨_, rfl⟩
  rw [← hMc1] at HC HG
  clear hC1 hM1 hP1 hMc1 hPi hn1 hll
  have HF1 := Lib.hid HG.out.fr
  have hnl := HNG.out
  have hL6 : L.length ≤ 1000000 := by have := HLEN.out i hi; omega
  go_wp2_with fail
  go_loopw [5, 6, 13] (fun _ _ v wr => ∃ m, m ≤ L.length ∧ v = .int .i64 (m : Int) ∧ Hid (∃ X' Mc' rv', Gr X Mc1 w2 X' Mc' wr ∧ GcG wr X' Mc' base T bl pn rv' Bd M1 P1 (routeS i C1 (L.take m)) ∧ Fr (fun b => ¬ ∃ off, A = some ⟨b, off, none⟩) w2 wr ∧ ∀ b off, A = some ⟨b, off, none⟩ → 0 < L.length → ∀ r, r.ok C.n → (rv' r).ownBlock ≠ some b)) (fun _ _ v _ => L.length - (intOf v).toNat)
  case atStart =>
    refine ⟨0, Nat.zero_le _, rfl, Lib.hid ⟨X, Mc1, rv, Gr.refl _ _ _, ?_, Fr.refl _ _, fun b off e h0 => (hnl b off e h0).2.2⟩⟩
    rw [List.take_zero, routeS_nil]
    exact HC.out
  case round =>
    obtain ⟨m, hm, rfl, hR⟩ := hrel
    obtain ⟨X3, Mc3, rv3, hg3, hG3, hf3, hn3⟩ := hR.out
    clear hR
    by_cases hlt : m < L.length
    · obtain ⟨b, off, hA, hb, hS, hcell⟩ := HCELL.out (by omega)
      subst hA
      obtain ⟨z, ⟨Az, cz, rfl⟩, hc⟩ := hcell m hlt
      obtain ⟨x, hx⟩ : ∃ x, flN L m = x := ⟨_, rfl⟩
      rw [hx] at hc
      have hc3 : ∀ q u, (letC x (.slice Az 0 cz))[q]? = some u → wr.cell? ⟨b, off + m * 9 + q, none⟩ = some u := fun q u hu => hf3.cell (hc q u hu) (fun h => h ⟨off, rfl⟩)
      have hxm : x ∈ L := by
        rw [← hx]
        unfold flN
        rw [List.getD_eq_getElem?_getD, List.getElem?_eq_getElem hlt]
        exact List.getElem_mem hlt
      obtain ⟨hxo, k, hk, hki, hxk⟩ := HL.out x hxm
      have q0 := hc3 0 _ rfl
      rw [Nat.add_zero] at q0
      have q1 := hc3 1 _ rfl
      have q2 := hc3 2 _ rfl
      have q3 := hc3 3 _ rfl
      have q4 := hc3 4 _ rfl
      have q5 := hc3 5 _ rfl
      have q6 := hc3 6 _ rfl
      have q7 := hc3 7 _ rfl
      have q8 := hc3 8 _ rfl
      obtain ⟨C3, hC3⟩ : ∃ C3, C3 = routeS i C1 (L.take m) := ⟨_, rfl⟩
      rw [← hC3] at hG3
      have hn3' : C3.n = C.n := by rw [hC3]; exact HN1.out
      have hcP : GcP wr bl C3.n (rv3 .Air) (rv3 .Log) := hG3.cc .P trivial
      have c6 := hcP.c6
      have c3 := hcP.c3
      obtain ⟨ca3, c03⟩ := hcP.c0
      rw [hn3'] at c03
      have hmo : OwnM wr (bl .Mo) 0 (fun _ => none) := hG3.cc .Mo trivial
      obtain ⟨w5, hw5⟩ : ∃ w5, w5 = wr.alloc (.cells #[.int .i64 1, .int .i64 (x.frm : Int), .int .i64 (x.dst : Int), .int .i64 0, .string ⟨#[]⟩, .int .i64 2, .int .i64 (x.num : Int), .string ⟨#[]⟩, .slice Az 0 cz] 154) := ⟨_, rfl⟩
      have hf5 : Fr (fun _ => False) wr w5 := by rw [hw5]; exact (Fr.refl _ _).alloc _
      have hbx : ∀ j u, (letC x (.slice Az 0 cz))[j]? = some u → w5.cell? ⟨wr.heap.size, j, none⟩ = some u := fun j u hu => by
        rw [hw5]
        have := cell_newL wr (letC x (.slice Az 0 cz)) 154 wr.heap.size rfl j u hu
        rw [Addr.add_lit, Nat.zero_add] at this
        exact this
      have x0 := hbx 0 _ rfl
      have x1 := hbx 1 _ rfl
      have x2 := hbx 2 _ rfl
      have x3 := hbx 3 _ rfl
      have x4 := hbx 4 _ rfl
      have x5 := hbx 5 _ rfl
      have x6 := hbx 6 _ rfl
      have x7 := hbx 7 _ rfl
      have x8 := hbx 8 _ rfl
      have hho := home_any (bl .P) (bl .Mo) x.dst w5 (hf5.cell c6 (fun h => h)) (hmo.fr hf5 (fun h => h)) hxo.2.1
      have ek : ((x.dst / 1000 : Nat) : Int) = (k : Int) + 1 := by omega
      rw [ek] at hho
      have HHO := Lib.hid hho
      have HTH := Lib.hid (there_any (bl .P) C.n ca3 _ ((k : Int) + 1) w5 (hf5.cell c03 (fun h => h)) (by omega) (by omega))
      have hne : ((k : Int) + 1 != (i : Int) + 1) = true := by simp; omega
      have c35 := hf5.cell c3 (fun h => h)
      have hi3 : i < C3.n := by rw [hn3']; exact hi
      have hk3 : k < C3.n := by rw [hn3']; exact hk
      have hG5 := hG3.new hf5
      have hwm : WayMap w5 (bl .Mw) C3.n fun i k => rv3 (.Wt i k) := hG5.cc .Mw trivial
      have hL2 : ∀ W, Fr (fun _ => False) w5 W → (Instr.lookup 82 (.map (some (bl .Mw))) (.agg #[.int .i64 ((i : Int) + 1), .int .i64 ((k : Int) + 1)]) false).run Tryz.prog W = .ok (rv3 (.Wt i k)) W := fun W hf => (hwm.fr hf (fun h => h)).look hG5.n8.2 hi3 hk3 (fun e => hki e.symm)
      obtain ⟨Zt, hZt, hqt⟩ : FlR w5 base (rv3 (.Wt i k)) (C3.wt i k) := hG5.cr (.Wt i k) ⟨hi3, hk3, fun e => hki e.symm⟩
      obtain ⟨tn, htn⟩ : ∃ tn, (C3.wt i k).length = tn := ⟨_, rfl⟩
      have htl9 : tn ≤ 1000000 := by
        have h1 := HLEN.out k hk
        have h2 : (C3.wt i k).length ≤ (C.wt i k).length + L.length := by
          rw [hC3]
          show (if i = i then C1.wt i k ++ (L.take m).filter (fun f => f.dst / 1000 == k + 1) else C1.wt i k).length ≤ _
          rw [if_pos rfl, List.length_append, HWT1.out.1]
          have h3 := List.length_filter_le (fun f : FL => f.dst / 1000 == k + 1) (L.take m)
          rw [List.length_take] at h3
          omega
        omega
      have HTN := Lib.hid htn
      rw [htn] at hqt
      obtain ⟨vt, hvt⟩ : ∃ vt, rv3 (.Wt i k) = vt := ⟨_, rfl⟩
      have HVT := Lib.hid hvt
      rw [hvt] at hqt hL2
      obtain ⟨At, ct, rfl, -, -⟩ := hqt.form
      have HQT := Lib.hid hqt
      have HZT := Lib.hid hZt
      have l0 := hL2 w5.drew (Fr.refl _ w5).drew
      have l1 : ∀ o : Obj, (Instr.lookup 82 (.map (some (bl .Mw))) (.agg #[.int .i64 ((i : Int) + 1), .int .i64 ((k : Int) + 1)]) false).run Tryz.prog (w5.alloc o).drew = .ok (.slice At tn ct) (w5.alloc o).drew := fun o => hL2 _ ((Fr.refl _ w5).alloc o).drew
      obtain ⟨iL, hiL, zl0, zl1, zl2⟩ := info_parts infoFl
      have hbw : base ≤ w5.heap.size := hG5.bw
      have hPl5 : bl .P < w5.heap.size := World.block_lt_of_cell? w5 _ c35
      have hxl5 : wr.heap.size < w5.heap.size := World.block_lt_of_cell? w5 _ x0
      have hPW : ¬ (Value.slice At tn ct).ownBlock = some (bl .P) := fun e => (hG5.row (.Wt i k) ⟨hi3, hk3, fun e => hki e.symm⟩ _ (by rw [HVT.out]; exact e)).2.2.1 .P trivial rfl
      have HPW := Lib.hid hPW
      have HHI := Lib.hid (And.intro hi3 hk3)
      have HC3 := Lib.hid hC3
      have HG5 := Lib.hid hG5
      have HG3 := Lib.hid hg3
      have HF3 := Lib.hid hf3
      have HN3 := Lib.hid hn3
      have HF5 := Lib.hid hf5
      have HXK := Lib.hid hxk
      have HKI := Lib.hid hki
      have HLT := Lib.hid hlt
      have HX := Lib.hid hx
      have HXM := Lib.hid hxm
      have HW5 := Lib.hid hw5
      have i1 : (0 : Int) ≤ (m : Int) := by omega
      have i2 : (m : Int) < (L.length : Int) := by omega
      clear hG3 hg3 hf3 hn3 hcell hc hc3 hxo hcP c6 c3 c03 hmo hf5 hbx hho ek hi3 hk3 hG5 hwm hL2 hqt hZt htn hC3 hxk hki hx hxm hvt hw5 hlt hS hPW
      go_wp2_with fail
      rw [← HW5.out]
      refine HHO.out.mono ?_
      rintro e w' ⟨rfl, rfl⟩
      go_wp2_with fail
      refine HTH.out.mono ?_
      rintro e w' ⟨rfl, rfl⟩
      clear HHO HTH
      rename World => w6
      go_wp2_with fail
      go_region_law
        (refine step_append_q (by rfl) _ _ _ (by rfl) base 154 iL _ 9 104 Tryz.underlying115 hiL zl0 zl1 zl2 rfl (by omega) (.slice At tn ct) tn (flatC (flC (C3.wt i k) Zt) tn) (by rfl) (HQT.out.fr (((Fr.refl (fun _ => False) w6).alloc _).drew) (fun _ _ h => h)) w6.heap.size (letC x (.slice Az 0 cz)) (by rfl) rfl (fun j u hu => cell_newL w6 (letC x (.slice Az 0 cz)) 154 w6.heap.size rfl j u hu) (by intro u hu; simp [letC] at hu; rcases hu with rfl | rfl | rfl | rfl | rfl | rfl | rfl | rfl | rfl <;> rfl) (by unfold maxLen; omega) (by omega) (by simp; omega) ?_; intro v7 w7 hq7 hg7 hat7; obtain ⟨w8, hr8, hf8, X8, Mc8, hg8, hG8⟩ := HG5.out.more_wt HHI.out.1 HHI.out.2 (fun e => HKI.out e.symm) (x := x) (z := .slice Az 0 cz) (((Fr.refl (fun _ => False) w6).alloc _).drew) (by rw [HVT.out]; exact hg7) HZT.out ⟨Az, cz, rfl⟩ (by rw [HTN.out]; exact hq7) (by rw [HVT.out]; exact hat7); have c37 := (show Fr (fun b => (Value.slice At tn ct).ownBlock = some b) w6 w7 from Fr.trans' (S := fun b => (Value.slice At tn ct).ownBlock = some b) (((Fr.refl (fun _ => False) w6).alloc _).drew.weak (fun _ h => h.elim)) (Fr.of_grown hg7 (fun b hb => .inl hb))).cell c35 HPW.out; have HF8 := Lib.hid hf8; have HG8 := Lib.hid hg8; have HC8 := Lib.hid hG8; have HA8 := Lib.hid hat7; clear hq7 hg7 hat7 hf8 hg8 hG8)
      all_goals
        go_wp2_with fail
        have hrow : { C3 with wt := upd2 C3.wt i k (C3.wt i k ++ [x]) } = routeS i C1 (L.take (m + 1)) := by
          have hm' := HLT.out
          rw [List.take_add_one, List.getElem?_eq_getElem hm', HC3.out]
          have : x = L[m] := by
            rw [← HX.out]
            unfold flN
            rw [List.getD_eq_getElem?_getD, List.getElem?_eq_getElem hm']
            rfl
          rw [show (some L[m]).toList = [x] by rw [this]; rfl]
          exact routeS_snoc i k C1 (L.take m) x HXK.out
        have hb' : ∀ o, (some ⟨b, off, none⟩ : Option Addr) = some ⟨b, o, none⟩ → True := fun _ _ => trivial
        have hDn : ∀ b', (b' = bl .Mw ∨ (rv3 (.Wt i k)).ownBlock = some b') → ¬ ∃ o, (some ⟨b, off, none⟩ : Option Addr) = some ⟨b', o, none⟩ := fun b' hb ⟨o, e⟩ => by
          injection e with e
          injection e with e _
          subst e
          rcases hb with hb | hb
          · exact (HNG.out b off rfl (by have := HLT.out; omega)).2.1 .Mw trivial hb.symm
          · exact HN3.out b off rfl (by have := HLT.out; omega) (.Wt i k) ⟨hi, hk, fun e => HKI.out e.symm⟩ hb
        have hz26 : w2.heap.size ≤ w6.heap.size := Nat.le_trans HG3.out.fr.size HF5.out.size
        refine ⟨⟨m + 1, by have := HLT.out; omega, by go_num, Lib.hid ⟨X8, Mc8, updR rv3 (.Wt i k) v7, ?_, ?_, (HF3.out.trans' (HF5.out.weak (fun _ h => h.elim))).trans' (HF8.out.weak hDn), fun b' off' e h0 r hr => ?_⟩⟩, by have := HLT.out; simp [intOf]; omega⟩
        · exact (show Gr X Mc1 w2 X3 Mc3 w6 from ⟨HG3.out.fr.trans' (HF5.out.weak (fun _ h => h.elim)), HG3.out.up, HG3.out.xs, HG3.out.ms⟩).trans HG8.out
        · rw [← hrow]
          exact HC8.out
        · by_cases e1 : r = .Wt i k
          · subst e1
            rw [updR_self]
            intro e2
            rcases HA8.out with h | ⟨g, h, hg⟩
            · exact HN3.out b' off' e h0 (.Wt i k) hr (by rw [HVT.out, ← h]; exact e2)
            · rw [h] at e2
              injection e2 with e2
              have h1 := (HNG.out b' off' e h0).1
              (try simp at hg)
              omega
          · rw [updR_ne _ _ e1]
            exact HN3.out b' off' e h0 r hr
    · have hd : decide ((m : Int) < (L.length : Int)) = false := decide_eq_false (by omega)
      have hmn : m = L.length := by omega
      subst hmn
      rw [List.take_length] at hG3
      have HG3 := Lib.hid hG3
      have HGR3 := Lib.hid (HG.out.trans hg3)
      clear hG3 hg3 hf3 hn3 hm hlt
      obtain ⟨C4, hC4⟩ : ∃ C4, C4 = routeS i C1 L := ⟨_, rfl⟩
      rw [← hC4] at HG3
      have HC4 := Lib.hid hC4
      have HN4 := Lib.hid (show C4.n = C.n by rw [hC4]; exact HN1.out)
      have HFL := Lib.hid (show flowS i C L = fillTo i C.n C4 by rw [hC4, HC1.out]; rfl)
      have HW4 := Lib.hid (show ∀ k, k < C.n → (∀ x, x ∈ C4.wt i k → x.ok) ∧ (C4.tr i k).length + (C4.wt i k).length ≤ 1000000 from fun k hk => by
        have e1 : C4.wt i k = C.wt i k ++ L.filter (fun f => f.dst / 1000 == k + 1) := by
          rw [hC4]
          show (if i = i then C1.wt i k ++ L.filter (fun f => f.dst / 1000 == k + 1) else C1.wt i k) = _
          rw [if_pos rfl, HWT1.out.1]
        have e2 : C4.tr i k = C.tr i k := by rw [hC4]; show C1.tr i k = _; rw [HWT1.out.2]
        rw [e1, e2]
        refine ⟨fun x hx => ?_, ?_⟩
        · rcases List.mem_append.1 hx with hx | hx
          · exact HWT.out k hk x hx
          · exact (HL.out x (List.mem_filter.1 hx).1).1
        · have h1 := HLEN.out k hk
          have h2 := List.length_filter_le (fun f : FL => f.dst / 1000 == k + 1) L
          rw [List.length_append]
          omega)
      clear hC4
      go_wp2_with fail
      go_loopw [7] (fun v wx => ∃ k : Nat, k ≤ C.n ∧ v = .int .i64 ((k : Int) + 1) ∧ Hid (∃ X' Mc', Gr X Mc w1 X' Mc' wx ∧ GcAt wx X' Mc' base T bl pn (fillTo i k C4))) (fun v _ => C.n + 1 - (intOf v).toNat)
      case atStart => exact ⟨0, Nat.zero_le _, rfl, Lib.hid ⟨X3, Mc3, HGR3.out, rv3, Bd, M1, P1, HG3.out⟩⟩
      case round =>
        rename World => wx
        obtain ⟨k, hk, rfl, hR⟩ := hrel
        obtain ⟨X5, Mc5, hg5, rv5, Bd5, M5, P5, hG5⟩ := hR.out
        clear hR
        obtain ⟨cx, c0⟩ := (show GcP wx _ _ _ _ from hG5.cc .P trivial).c0
        have hn5 : (fillTo i k C4).n = C.n := (fillTo_n i C4 k).trans HN4.out
        rw [hn5] at c0
        have HGR5 := Lib.hid hg5
        have HG5 := Lib.hid hG5
        by_cases hlt : k < C.n
        · have hd : decide ((k : Int) + 1 ≤ (C.n : Int)) = true := decide_eq_true (by omega)
          have hk8 : (k : Int) + 1 ≤ 8 := by omega
          by_cases hki : k = i
          · have hne : ((k : Int) + 1 != (i : Int) + 1) = false := by simp [hki]
            have HFT := Lib.hid (show fillTo i (k + 1) C4 = fillTo i k C4 by
              show (if k = i then fillTo i k C4 else _) = _
              rw [if_pos hki])
            clear hki hg5 hG5 hn5
            go_wp2_with fail
            exact ⟨⟨k + 1, by omega, by go_num, Lib.hid ⟨X5, Mc5, HGR5.out, by rw [HFT.out]; exact ⟨rv5, Bd5, M5, P5, HG5.out⟩⟩⟩, by simp [intOf]; omega⟩
          · have hne : ((k : Int) + 1 != (i : Int) + 1) = true := by simp; omega
            have HFT := Lib.hid (show fillTo i (k + 1) C4 = fillS i k (fillTo i k C4) by
              show (if k = i then _ else fillS i k (fillTo i k C4)) = _
              rw [if_neg hki])
            have hre := fillTo_rest i C4 k k (Nat.le_refl _)
            have hfill := fill_any hG5 (i := i) (k := k) (by rw [hn5]; exact hi) (by rw [hn5]; exact hlt) (fun e => hki e.symm) (by rw [hre.1]; exact (HW4.out k hlt).1) (by rw [hre.1, hre.2]; exact (HW4.out k hlt).2)
            rw [wayV_succ] at hfill
            have HFILL := Lib.hid hfill
            clear hfill hki hg5 hG5 hn5 hre
            go_wp2_with fail
            refine HFILL.out.mono ?_
            rintro e w3 ⟨rfl, X6, Mc6, hg6, hA6⟩
            have HGR6 := Lib.hid hg6
            have HA6 := Lib.hid hA6
            clear hg6 hA6 HFILL
            go_wp2_with fail
            exact ⟨⟨k + 1, by omega, by go_num, Lib.hid ⟨X6, Mc6, HGR5.out.trans HGR6.out, by rw [HFT.out]; exact HA6.out⟩⟩, by simp [intOf]; omega⟩
        · have hd : decide ((k : Int) + 1 ≤ (C.n : Int)) = false := decide_eq_false (by omega)
          have hkn : k = C.n := by omega
          subst hkn
          clear hg5 hG5 hn5
          go_wp2_with fail
          refine bodyPost_end (results_none rfl _ _ _) rfl ⟨rfl, X5, Mc5, HGR5.out, ?_⟩
          rw [HFL.out]
          exact ⟨rv5, Bd5, M5, P5, HG5.out⟩
end
end Go.Proofs.YthgbcgphkddmgaaGreat
