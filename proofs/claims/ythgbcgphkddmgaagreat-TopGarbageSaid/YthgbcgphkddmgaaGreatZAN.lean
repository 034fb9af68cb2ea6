/- A diary: Run. Sets of references: add. copies.Saved without inputs, a diary's Save, addSaved; box.Again; runnable. -/
import Derived.Test.YthgbcgphkddmgaaGreatZAM
import Derived.Test.YthgbcgphkddmgaaGreatZAL
import Derived.Test.YthgbcgphkddmgaaGreatZAE
import Derived.Deep.DeepCutAuto
import Derived.Test.YthgbcgphkddmgaaGreatZAH
import Derived.Deep.CondSized
namespace Go.Proofs.YthgbcgphkddmgaaGreat
open Go.RowKit Go.Maps
set_option linter.unusedVariables false
set_option linter.unusedSimpArgs false
theorem meth_run (rb : Nat) : ∀ w, Sem.run Tryz.prog (method 455 351 (.pointer (some ⟨rb, 0, none⟩)) "Run") w = .ok (259, .pointer (some ⟨rb, 0, none⟩)) w := fun _ => by kernel_rfl
theorem meth_top (rb : Nat) : ∀ w, Sem.run Tryz.prog (method 455 351 (.pointer (some ⟨rb, 0, none⟩)) "Top") w = .ok (260, .pointer (some ⟨rb, 0, none⟩)) w := fun _ => by kernel_rfl
set_option maxRecDepth 100000 in
set_option maxHeartbeats 400000 in
theorem values_any (n c : Nat) (A : Option Addr) (arg : Nat → VT) (S : Nat → Prop) (w : World) (hn : n ≤ 4194304) (hV : RdV w S A n arg) (hm : ∀ i, i < n → (arg i).many ≤ 4194304) : Calls Tryz.prog 112 #[.slice A n c] w (EachPost n arg w) := by
  have HC := Lib.hid (each_any n c A arg S w hn hV hm (fun i _ => copy_any _))
  clear hV hm
  go_enter Tryz.func112, Tryz.ntmps112
  go_wp2_with fail
  refine HC.out.mono ?_
  rintro e w1 ⟨v, C, rfl, h1, h2, h3, h4⟩
  have H1 := Lib.hid h1
  have H3 := Lib.hid h3
  clear h1 h3
  go_wp2_with fail
  go_ret
  exact ⟨v, C, rfl, H1.out, h2, H3.out, h4⟩
/-- what Each made, as values that lie in a slice -/
theorem each_rdv {w : World} {n base : Nat} {arg : Nat → VT} {v : Value} {C : Nat → List Value} (h1 : w.ownsRow base 36 4 v n (flatC C n)) (h2 : ∀ i, (C i).length = 4) (h3 : ∀ i, i < n → (arg i).isV w (fun b => base ≤ b ∧ some b ≠ v.ownBlock) (C i)) : ∃ A c, v = .slice A n c ∧ n ≤ c ∧ c ≤ 9223372036854775807 ∧ RdV w (fun b => base ≤ b) A n arg := by
  obtain ⟨A, c, rfl, hc1, hc2, hc3⟩ := own_any h1
  refine ⟨A, c, rfl, hc1, hc2, fun h0 => ?_⟩
  obtain ⟨g, cap, hv, hb, hlt, _⟩ := own_form h1 h0
  injection hv with e1 e2 e3
  subst e1 e3
  exact ⟨g, 0, rfl, hlt, hb, C, fun i hi => ⟨isV_mono (h3 i hi) (fun b _ hb => hb.1), fun j u hu => by
    have hj : j < 4 := by
      rcases Nat.lt_or_ge j 4 with hh | hh
      · exact hh
      · rw [List.getElem?_eq_none (by rw [h2]; exact hh)] at hu; cases hu
    rw [Nat.zero_add, own_cellC h1 h2 hi hj]
    exact hu⟩⟩
theorem dia_mk {w W : World} {X : Nat → Prop} {base T T' b rb : Nat} {ib ib' : Option Nat} {d : DiaS} {r' : RunS} {k m : Int} {A : Option Addr} {c : Nat} {sA iA : Option Addr} {sn sc n ic : Nat} {xs : List Value} (H : DiaAt w X base T b rb ib d) (hs : StAt W (fun k => ¬ X k ∧ k ≠ b ∧ k ≠ rb ∧ ib' ≠ some k) A c r'.st) (hr : RunAt W rb A c r')
    (hc : ∀ q u, ([.iface 351 (.pointer (some ⟨rb, 0, none⟩)), .string d.nm, .slice sA sn sc, .slice iA n ic, .int .i64 k, .int .i64 m, .string ⟨#[]⟩, .int .i64 0, .int .i64 0, .string ⟨#[]⟩, .slice none 0 0, .slice none 0 0] : List Value)[q]? = some u → W.cell? ⟨b, q, none⟩ = some u)
    (hz : ∀ q, W.frozen? ⟨b, q, none⟩ = false) (h2 : k = 7 → sn = r'.st.length ∧ sn ≤ sc ∧ sc ≤ 9223372036854775807 ∧ RdV W (fun k => ¬ X k) sA sn (topV r')) (h3 : W.ownsRow base 305 5 (.slice iA n ic) n xs) (hn : n ≤ T') (hb : (Value.slice iA n ic).ownBlock = ib') (h7 : k = 7 → n = 0 ∧ iA = none ∧ ic = 0)
    (hi : ∀ k, ib' = some k → k ≠ b ∧ k ≠ rb) (hw : k = 7 → r'.waiting = true) (ho : RunOk r') : DiaAt W X base T' b rb ib' { d with r := r', dk := k, dn := m } :=
  ⟨⟨A, c, hs, hr⟩, hc 0 _ rfl, hc 1 _ rfl, ⟨_, _, _, hc 2 _ rfl, h2⟩, ⟨_, _, _, _, hc 3 _ rfl, h3, hn, hb, h7⟩, hc 4 _ rfl, hc 5 _ rfl, hc 6 _ rfl, hc 7 _ rfl, hc 8 _ rfl, hc 9 _ rfl, hc 10 _ rfl, hc 11 _ rfl, hz, H.nr, hi, H.lb, hw, ho⟩
theorem DiaAt.rerun2 {w w' : World} {X : Nat → Prop} {base T b rb : Nat} {ib : Option Nat} {d : DiaS} {r' : RunS} (h : DiaAt w X base T b rb ib d) (hf : Fr (fun k => k = rb) w w') (hX : X rb) (hr : ∃ A c, StAt w' (fun k => ¬ X k ∧ k ≠ b ∧ k ≠ rb ∧ ib ≠ some k) A c r'.st ∧ RunAt w' rb A c r') (ho : RunOk r') (h7 : d.dk = 7 → r' = d.r) : DiaAt w' X base T b rb ib { d with r := r' } := by
  by_cases e : d.dk = 7
  · have := h7 e
    subst this
    exact h.rerun hf hX hr
  · have h1 : ¬ b = rb := h.nr
    have h3 : ∀ k, ib = some k → ¬ k = rb := fun k hk => (h.ni k hk).2
    obtain ⟨A2, n2, c2, s1, s2⟩ := h.c2
    obtain ⟨A3, n3, c3, xs, t1, t2, t3, t4, t5⟩ := h.c3
    exact ⟨hr, hf.cell h.c0 h1, hf.cell h.c1 h1, ⟨A2, n2, c2, hf.cell s1 h1, fun e2 => absurd e2 e⟩,
      ⟨A3, n3, c3, xs, hf.cell t1 h1, hf.row t2 (fun k hk => h3 k (t4.symm.trans hk)), t3, t4, t5⟩, hf.cell h.c4 h1, hf.cell h.c5 h1, hf.cell h.c6 h1, hf.cell h.c7 h1, hf.cell h.c8 h1, hf.cell h.c9 h1, hf.cell h.c10 h1, hf.cell h.c11 h1,
      fun o => (hf.frozen (World.block_lt_of_cell? w _ h.c0) h1).trans (h.fz o), h.nr, h.ni, h.lb, fun e2 => absurd e2 e, ho⟩
/-- a world in the midst of Run -/
structure DM (w w1 : World) (b rb : Nat) (A : Option Addr) (c : Nat) (r' : RunS) (o : OutS) (nm : ByteArray) (v2 v3 : Value) (wx : World) : Prop where
  cb : ∀ q u, ([.iface 351 (.pointer (some ⟨rb, 0, none⟩)), .string nm, v2, v3, .int .i64 o.kind, .int .i64 o.num, .string ⟨#[]⟩, .int .i64 0, .int .i64 0, .string ⟨#[]⟩, .slice none 0 0, .slice none 0 0] : List Value)[q]? = some u → wx.cell? ⟨b, q, none⟩ = some u
  fb : ∀ q, wx.frozen? ⟨b, q, none⟩ = false
  cy : ∀ j u, ([.int .i64 0, .int .i64 0, .string ⟨#[]⟩, .int .i64 0, .int .i64 0, .string ⟨#[]⟩, .slice none 0 0, .slice none 0 0] : List Value)[j]? = some u → wx.cell? ⟨w.heap.size, j, none⟩ = some u
  fy : ∀ j, wx.frozen? ⟨w.heap.size, j, none⟩ = false
  co : ∀ j u, (outC o)[j]? = some u → wx.cell? ⟨w1.heap.size, j, none⟩ = some u
  run : RunAt wx rb A c r'
  fr : Fr (fun k => k = b ∨ k = rb) w wx
  lt : w1.heap.size < wx.heap.size
theorem DM.below {w w1 : World} {b rb : Nat} {A : Option Addr} {c : Nat} {r' : RunS} {o : OutS} {nm : ByteArray} {v2 v3 : Value} {wx wy : World} (h : DM w w1 b rb A c r' o nm v2 v3 wx) (hb : Below wx.heap.size wx wy) (hbw : b < wx.heap.size) (hw : w.heap.size < wx.heap.size) : DM w w1 b rb A c r' o nm v2 v3 wy := by
  have hf := Fr.of_below (S := fun _ => False) hb
  exact ⟨fun q u h' => hf.cell (h.cb q u h') (fun h => h), fun q => (hf.frozen hbw (fun h => h)).trans (h.fb q), fun q u h' => hf.cell (h.cy q u h') (fun h => h), fun q => (hf.frozen hw (fun h => h)).trans (h.fy q), fun q u h' => hf.cell (h.co q u h') (fun h => h), h.run.fr hf (fun h => h), h.fr.trans' (hf.weak (fun _ h => h.elim)), Nat.lt_of_lt_of_le h.lt hb.size⟩
def last8 (W : World) (b : Nat) (k n : Int) : World := (((((((W.setCell ⟨b, 4, none⟩ (.int .i64 k)).setCell ⟨b, 5, none⟩ (.int .i64 n)).setCell ⟨b, 6, none⟩ (.string ⟨#[]⟩)).setCell ⟨b, 7, none⟩ (.int .i64 0)).setCell ⟨b, 8, none⟩ (.int .i64 0)).setCell ⟨b, 9, none⟩ (.string ⟨#[]⟩)).setCell ⟨b, 10, none⟩ (.slice none 0 0)).setCell ⟨b, 11, none⟩ (.slice none 0 0)
theorem blk_setN {W wr : World} {b k o : Nat} {u : Value} (h : W.heap[b]? = wr.heap[b]?) (hne : b ≠ k) : (W.setCell ⟨k, o, none⟩ u).heap[b]? = wr.heap[b]? := (Below.heap_setCell W ⟨k, o, none⟩ u b hne).trans h
theorem Fr.setIn {S : Nat → Prop} {b o : Nat} {w w1 : World} (h : Fr S w w1) (hb : S b) (u : Value) : Fr S w (w1.setCell ⟨b, o, none⟩ u) := h.set (Or.inl hb) u
def DrunPost (X : Nat → Prop) (base T b rb : Nat) (ib : Option Nat) (p : DiaS × OutS) (w0 : World) (e : Ending) (w' : World) : Prop :=
  e = .returned (.agg (outC p.2).toArray) ∧ ∃ ib', (ib' = ib ∨ ib' = none) ∧ DiaAt w' X base T b rb ib' p.1 ∧ Fr (fun k => k = b ∨ k = rb ∨ ib = some k) w0 w' ∧ (p.2.kind = 7 → p.1.dk = 7)
set_option maxRecDepth 100000 in
set_option maxHeartbeats 4000000 in
theorem drun_any (X : Nat → Prop) (base T b rb f : Nat) (ib : Option Nat) (d : DiaS) (w : World) (H : DiaAt w X base T b rb ib d) (hX : ∀ k, X k → k < w.heap.size) (hI : X b ∧ X rb) (hf : f ≤ 1000000) :
    Calls Tryz.prog 117 #[.pointer (some ⟨b, 0, none⟩), .int .i64 (f : Int)] w (DrunPost X base T b rb ib (runD f d) w) := by
  have HH := Lib.hid H
  have hm := meth_run rb
  have hm2 := meth_top rb
  have c0 := H.c0
  have fz := H.fz
  obtain ⟨hlt, hlr, _⟩ := H.lt
  have hnr := H.nr
  have HX := Lib.hid hX
  have HI := Lib.hid hI
  obtain ⟨A, c, hs, hrun⟩ := HH.out.run
  have HS := Lib.hid hs
  have HRun := Lib.hid hrun
  have HRok := Lib.hid (HH.out.pl.run f)
  have HR7 := Lib.hid (show (runR f d.r).2.kind = 7 → (runR f d.r).1.waiting = true from fun e => by
    rcases runR_kind f d.r with h | h | h | h
    · rw [h] at e; cases e
    · rw [h] at e; cases e
    · rw [h] at e; cases e
    · exact h.2)
  have HST := Lib.hid (runR_st f d.r).1
  have HD1 := Lib.hid (show (runR f d.r).2.kind = 1 → runD f d = ({ d with r := (runR f d.r).1 }, (runR f d.r).2) from fun e => by unfold runD; simp only []; rw [if_pos e])
  have HD2 := Lib.hid (show ¬ (runR f d.r).2.kind = 1 → runD f d = ({ d with r := (runR f d.r).1, dk := (runR f d.r).2.kind, dn := (runR f d.r).2.num }, (runR f d.r).2) from fun e => by unfold runD; simp only []; rw [if_neg e])
  have HWt := Lib.hid (runR_fuel f d.r)
  clear H hX hI hs hrun
  go_enter Tryz.func117, Tryz.ntmps117
  go_wp2_with fail
  refine (run_any rb c f A _ d.r _ (HRun.out.fr (S := fun _ => False) ((Fr.refl _ w).alloc _) (fun h => h)) (HS.out.fr ((Fr.refl (fun _ => False) w).alloc _) (fun _ _ h => h) (fun _ h _ => h)) (fun k hk => hk.2.2.1) HH.out.pl hf).mono ?_
  generalize hp : runR f d.r = p at *
  clear hp
  obtain ⟨r', o⟩ := p
  dsimp only at *
  rintro e w1 ⟨rfl, hr1, hf1⟩
  have HF1 := Lib.hid (((Fr.refl (fun k => k = rb) w).alloc _).trans' hf1)
  have HFr := HF1
  have HR1 := Lib.hid hr1
  have hz1 := hf1.size
  simp at hz1
  have x0 := HF1.out.cell HH.out.c0 hnr
  have x1 := HF1.out.cell HH.out.c1 hnr
  obtain ⟨A2, n2, c2, e2, f2⟩ := HH.out.c2
  obtain ⟨A3, n3, c3, xs, e3, f3, f4, f5, f6⟩ := HH.out.c3
  have x2 := HF1.out.cell e2 hnr
  have x3 := HF1.out.cell e3 hnr
  have x4 := HF1.out.cell HH.out.c4 hnr
  have x5 := HF1.out.cell HH.out.c5 hnr
  have x6 := HF1.out.cell HH.out.c6 hnr
  have x7 := HF1.out.cell HH.out.c7 hnr
  have x8 := HF1.out.cell HH.out.c8 hnr
  have x9 := HF1.out.cell HH.out.c9 hnr
  have x10 := HF1.out.cell HH.out.c10 hnr
  have x11 := HF1.out.cell HH.out.c11 hnr
  have xf : ∀ q, w1.frozen? ⟨b, q, none⟩ = false := fun q => (HF1.out.frozen hlt hnr).trans (fz q)
  have hnq : w.heap.size ≠ rb := by omega
  have hqb : w.heap.size ≠ b := by omega
  have hbq : b ≠ w.heap.size := by omega
  have hb1 : b < w1.heap.size := by omega
  have hq1 : w.heap.size < w1.heap.size := by omega
  have HQ := Lib.hid (show ∀ j u, ([.int .i64 0, .int .i64 0, .string ⟨#[]⟩, .int .i64 0, .int .i64 0, .string ⟨#[]⟩, .slice none 0 0, .slice none 0 0] : List Value)[j]? = some u → w1.cell? ⟨w.heap.size, j, none⟩ = some u from fun j u hj => hf1.cell (by have := cell_newL w _ 206 _ rfl j u hj; rw [Addr.add_lit, Nat.zero_add] at this; exact this) hnq)
  have y0 := HQ.out 0 _ rfl
  have y1 := HQ.out 1 _ rfl
  have y2 := HQ.out 2 _ rfl
  have y3 := HQ.out 3 _ rfl
  have y4 := HQ.out 4 _ rfl
  have y5 := HQ.out 5 _ rfl
  have y6 := HQ.out 6 _ rfl
  have y7 := HQ.out 7 _ rfl
  have yf : ∀ j, w1.frozen? ⟨w.heap.size, j, none⟩ = false := fun j => (hf1.frozen (by simp) hnq).trans (by simp [go_sem])
  have HC2 := Lib.hid f2
  have HC3 := Lib.hid (And.intro f3 (And.intro f4 (And.intro f5 f6)))
  clear hr1 hf1 c0 fz e2 e3 f2 f3 f4 f5 f6
  simp only [outC]
  by_cases h1 : o.kind = 1
  · have H1 := Lib.hid h1
    rw [h1]
    clear h1
    go_wp2_with fail
    refine bodyPost_ret (outC_results (o := o) (q := w.heap.size) (fun j u hj => ?_) rfl rfl) rfl ⟨?_, ib, .inl rfl, ?_, ?_, ?_⟩
    · unfold outC at hj
      rw [H1.out] at hj
      rcases j with _ | _ | _ | _ | _ | _ | _ | _ | j
      all_goals (simp at hj)
      all_goals (subst hj; simp [go_sem, hq1, y0, y1, y2, y3, y4, y5, y6, y7])
    · rw [HD1.out H1.out]
    · rw [HD1.out H1.out]
      refine DiaAt.rerun2 HH.out ?_ HI.out.2 ⟨A, c, by rw [HST.out]; exact HS.out.fr (D := fun k => k = rb) (by (repeat' first | with_reducible exact HFr.out | (with_reducible refine Fr.setEq ?_ _) | (with_reducible refine Fr.setNew ?_ _) | with_reducible refine Fr.alloc ?_ _ | with_reducible refine Fr.drewN ?_ _ | with_reducible refine Fr.drew ?_)) (fun k hk e => hk.2.2.1 e) (fun _ h _ => h), HR1.out.fr (S := fun k => k = w.heap.size) ?_ (fun e => hnq e.symm)⟩ HRok.out (fun _ => HWt.out H1.out)
      · (repeat' first | with_reducible exact HFr.out | (with_reducible refine Fr.setEq ?_ _) | (with_reducible refine Fr.setNew ?_ _) | with_reducible refine Fr.alloc ?_ _ | with_reducible refine Fr.drewN ?_ _ | with_reducible refine Fr.drew ?_)
      · (repeat' first | with_reducible exact Fr.refl (fun k => k = _) _ | (with_reducible refine Fr.setAt ?_ _) | with_reducible refine Fr.alloc ?_ _ | with_reducible refine Fr.drewN ?_ _ | with_reducible refine Fr.drew ?_)
    · refine Fr.weak (S := fun k => k = rb) ?_ (fun k h => .inr (.inl h))
      (repeat' first | with_reducible exact HFr.out | (with_reducible refine Fr.setEq ?_ _) | (with_reducible refine Fr.setNew ?_ _) | with_reducible refine Fr.alloc ?_ _ | with_reducible refine Fr.drewN ?_ _ | with_reducible refine Fr.drew ?_)
    · rw [HD1.out H1.out]
      intro e
      exact absurd (H1.out.symm.trans e) (by decide)
  · have h1' : (o.kind == 1) = false := by simpa using h1
    by_cases h7 : o.kind = 7
    · have H7 := Lib.hid h7
      have H1 := Lib.hid h1
      rw [h7]
      clear h7 h1 h1'
      go_wp2_with fail
      have hw7 := HR7.out H7.out
      have HW7 := Lib.hid hw7
      obtain ⟨W1, hW1⟩ : ∃ W1, W1 = (last8 w1 b 7 o.num).alloc (.cells #[.int .i64 7, .int .i64 o.num, .string o.text, .int .i64 o.vk, .int .i64 o.vn, .string ⟨#[]⟩, .slice none 0 0, .slice none 0 0] 206) := ⟨_, rfl⟩
      unfold last8 at hW1
      have hfr0 : Fr (fun k => k = b ∨ k = rb) w w1 := HF1.out.weak (fun _ h => .inr h)
      have HFr := Lib.hid hfr0
      have HDM := Lib.hid (show DM w w1 b rb A c r' o d.nm (.slice A2 n2 c2) (.slice A3 n3 c3) W1 by
        rw [hW1]
        refine ⟨fun q u hq => ?_, fun q => ?_, fun q u hq => ?_, fun q => ?_, fun q u hq => ?_, HR1.out.fr (S := fun k => k = b) ?_ (fun e => by omega), ?_, by simp⟩
        · rw [H7.out] at hq
          rcases q with _ | _ | _ | _ | _ | _ | _ | _ | _ | _ | _ | _ | q
          all_goals (simp at hq)
          all_goals (subst hq; simp [go_sem, hb1, hq1, hbq, hqb, x0, x1, x2, x3, x4, x5, x6, x7, x8, x9, x10, x11])
        · simp [go_sem, hb1, hq1, hbq, hqb, xf]
        · rcases q with _ | _ | _ | _ | _ | _ | _ | _ | q
          all_goals (simp at hq)
          all_goals (subst hq; simp [go_sem, hb1, hq1, hbq, hqb, y0, y1, y2, y3, y4, y5, y6, y7])
        · simp [go_sem, hb1, hq1, hbq, hqb, yf]
        · unfold outC at hq
          rw [H7.out] at hq
          rcases q with _ | _ | _ | _ | _ | _ | _ | _ | q
          all_goals (simp at hq)
          all_goals (subst hq; simp [go_sem])
        · (repeat' first | with_reducible exact Fr.refl (fun k => k = _) _ | (with_reducible refine Fr.setAt ?_ _) | with_reducible refine Fr.alloc ?_ _ | with_reducible refine Fr.drewN ?_ _ | with_reducible refine Fr.drew ?_)
        · (repeat' first | with_reducible exact HFr.out | (with_reducible refine Fr.setIn ?_ (by first | exact Or.inl rfl | exact Or.inr rfl) _) | (with_reducible refine Fr.setNew ?_ _) | with_reducible refine Fr.alloc ?_ _ | with_reducible refine Fr.drewN ?_ _ | with_reducible refine Fr.drew ?_))
      rw [← hW1]
      clear x0 x1 x2 x3 x4 x5 x6 x7 x8 x9 x10 x11 xf y0 y1 y2 y3 y4 y5 y6 y7 yf hfr0
      have HW1 := Lib.hid hW1
      have hz2 : b < W1.heap.size := Nat.lt_of_lt_of_le hlt HDM.out.fr.size
      have hz3 : w.heap.size < W1.heap.size := Nat.lt_trans hq1 HDM.out.lt
      have a0 : W1.cell? ⟨b, 0, none⟩ = some (.iface 351 (.pointer (some ⟨rb, 0, none⟩))) := HDM.out.cb 0 _ rfl
      have k0 : W1.cell? ⟨w1.heap.size, 0, none⟩ = some (.int .i64 7) := by have := HDM.out.co 0 _ rfl; rw [H7.out] at this; exact this
      clear hW1 hw7
      refine (top_any rb c A (fun k => ¬ X k ∧ k ≠ b ∧ k ≠ rb ∧ ib ≠ some k) r' W1 HDM.out.run (by rw [HST.out]; exact HS.out.fr HDM.out.fr (fun k hk hd => by rcases hd with e | e; exact hk.2.1 e; exact hk.2.2.1 e) (fun _ h _ => h)) HRok.out).mono ?_
      rintro e w2 ht
      rcases ht with ⟨h, _, _⟩ | ⟨_, tA, tc, rfl, ht1, ht2, ht3, hb2⟩
      · rw [HW7.out] at h; cases h
      have HDM2 := Lib.hid (HDM.out.below hb2 hz2 hz3)
      have hrd := st_rdv ht3
      generalize w2 = W2 at *
      have HRD := Lib.hid hrd
      have hz4 : b < W2.heap.size := Nat.lt_of_lt_of_le hz2 hb2.size
      have hz5 : w.heap.size < W2.heap.size := Nat.lt_of_lt_of_le hz3 hb2.size
      have k0 : W2.cell? ⟨w1.heap.size, 0, none⟩ = some (.int .i64 7) := by have := HDM2.out.co 0 _ rfl; rw [H7.out] at this; exact this
      have HT12 := Lib.hid (And.intro ht1 ht2)
      have hn10 := HRok.out.len
      rw [topL_len] at hrd
      have HRD := Lib.hid hrd
      clear hrd a0 hb2 ht1 ht2 ht3
      go_wp2_with fail
      refine (values_any r'.st.length tc _ (topV r') _ W2 (by omega) HRD.out (fun i _ => by simp [topV, vLeaf, VT.many, sumTo])).mono ?_
      rintro e w3 ⟨v, C, rfl, ho, hl, hv, hb3⟩
      obtain ⟨sA, sc, rfl, hs1, hs2, hs3⟩ := each_rdv ho hl hv
      have HDM3 := Lib.hid (HDM2.out.below hb3 hz4 hz5)
      have HRD3 := Lib.hid hs3
      have hw3 := hb3.size
      have a2 := HDM3.out.cb 2 _ rfl
      have a3 := HDM3.out.cb 3 _ rfl
      have af := HDM3.out.fb
      have b0 := HDM3.out.cy 0 _ rfl
      have b1 := HDM3.out.cy 1 _ rfl
      have b2 := HDM3.out.cy 2 _ rfl
      have b3 := HDM3.out.cy 3 _ rfl
      have b4 := HDM3.out.cy 4 _ rfl
      have b5 := HDM3.out.cy 5 _ rfl
      have b6 := HDM3.out.cy 6 _ rfl
      have b7 := HDM3.out.cy 7 _ rfl
      have bf := HDM3.out.fy
      have o0 : w3.cell? ⟨w1.heap.size, 0, none⟩ = some (.int .i64 7) := by have := HDM3.out.co 0 _ rfl; rw [H7.out] at this; exact this
      have o1 := HDM3.out.co 1 _ rfl
      have o2 := HDM3.out.co 2 _ rfl
      have o3 := HDM3.out.co 3 _ rfl
      have o4 := HDM3.out.co 4 _ rfl
      have o5 := HDM3.out.co 5 _ rfl
      have o6 := HDM3.out.co 6 _ rfl
      have o7 := HDM3.out.co 7 _ rfl
      have hn1 : w1.heap.size ≠ b := by omega
      have hn2 : w1.heap.size ≠ w.heap.size := by omega
      have hn3 : b ≠ w1.heap.size := by omega
      have hn4 : w.heap.size ≠ w1.heap.size := by omega
      clear ho hl hv hb3 hs3 k0
      go_wp2_with fail
      refine bodyPost_ret (outC_results (o := o) (q := w.heap.size) (fun j u hj => ?_) rfl rfl) rfl ?_
      · unfold outC at hj
        rw [H7.out] at hj
        rcases j with _ | _ | _ | _ | _ | _ | _ | _ | j
        all_goals (simp at hj)
        all_goals (subst hj; simp [go_sem, hbq, hqb, hn1, hn2, hn3, hn4, b0, b1, b2, b3, b4, b5, b6, b7])
      rw [HD2.out H1.out]
      have HFr := Lib.hid HDM3.out.fr
      have y0 := HDM3.out.cb 0 _ rfl
      have y1 := HDM3.out.cb 1 _ rfl
      have y4 := HDM3.out.cb 4 _ rfl
      have y5 := HDM3.out.cb 5 _ rfl
      have y6 := HDM3.out.cb 6 _ rfl
      have y7 := HDM3.out.cb 7 _ rfl
      have y8 := HDM3.out.cb 8 _ rfl
      have y9 := HDM3.out.cb 9 _ rfl
      have y10 := HDM3.out.cb 10 _ rfl
      have y11 := HDM3.out.cb 11 _ rfl
      refine ⟨rfl, none, .inr rfl, dia_mk HH.out (by rw [HST.out]; exact HS.out.fr (D := fun k => k = b ∨ k = rb) (by (repeat' first | with_reducible exact HFr.out | (with_reducible refine Fr.setIn ?_ (by first | exact Or.inl rfl | exact Or.inr rfl) _) | (with_reducible refine Fr.setNew ?_ _) | with_reducible refine Fr.alloc ?_ _ | with_reducible refine Fr.drewN ?_ _ | with_reducible refine Fr.drew ?_)) (fun k hk hd => by rcases hd with e | e; exact hk.2.1 e; exact hk.2.2.1 e) (fun k h _ => ⟨h.1, h.2.1, h.2.2.1, fun e => by cases e⟩)) (HDM3.out.run.fr (S := fun k => k = b ∨ k = w.heap.size) ?_ (fun e => by omega)) (sA := sA) (sn := r'.st.length) (sc := sc) (iA := none) (n := 0) (ic := 0) (xs := []) (fun q u hq => ?_) (fun q => ?_) (fun e => ⟨rfl, hs1, hs2, RdV.frame (S := fun k => W2.heap.size ≤ k) HRD3.out (by simp) (fun k hk hlt' => ⟨fun hx => by have := HX.out k hx; omega, ?_⟩)⟩) (World.ownsRow_nil _ _ _ _) (Nat.zero_le _) rfl (fun e => ⟨rfl, rfl, rfl⟩) (fun k hk => by cases hk) (fun e => HW7.out) HRok.out, ?_, fun e => e⟩
      · (repeat' first | with_reducible exact Fr.refl _ _ | (with_reducible refine Fr.setIn ?_ (by first | exact Or.inl rfl | exact Or.inr rfl) _) | with_reducible refine Fr.alloc ?_ _ | with_reducible refine Fr.drewN ?_ _ | with_reducible refine Fr.drew ?_)
      · rcases q with _ | _ | _ | _ | _ | _ | _ | _ | _ | _ | _ | _ | q
        all_goals (simp at hq)
        all_goals (subst hq; simp [go_sem, hbq, hqb, hn1, hn2, hn3, hn4, a2, a3, y0, y1, y4, y5, y6, y7, y8, y9, y10, y11])
      · simp [go_sem, hbq, hqb, hn1, hn2, hn3, hn4, af]
      · have hk' : W2.heap.size ≤ k := hk
        iterate 10 (refine blk_setN ?_ (by omega))
        rfl
      · refine Fr.weak (S := fun k => k = b ∨ k = rb) ?_ (fun k h => by rcases h with h | h; exact .inl h; exact .inr (.inl h))
        (repeat' first | with_reducible exact HFr.out | (with_reducible refine Fr.setIn ?_ (by first | exact Or.inl rfl | exact Or.inr rfl) _) | (with_reducible refine Fr.setNew ?_ _) | with_reducible refine Fr.alloc ?_ _ | with_reducible refine Fr.drewN ?_ _ | with_reducible refine Fr.drew ?_)
    · have h7' : (o.kind == 7) = false := by simpa using h7
      have H7 := Lib.hid h7
      have H1 := Lib.hid h1
      clear h1 h7
      go_wp2_with fail
      refine bodyPost_ret (outC_results (o := o) (q := w.heap.size) (fun j u hj => ?_) rfl rfl) rfl ?_
      · unfold outC at hj
        rcases j with _ | _ | _ | _ | _ | _ | _ | _ | j
        all_goals (simp at hj)
        all_goals (subst hj; simp [go_sem, hq1, hbq, hqb, y0, y1, y2, y3, y4, y5, y6, y7])
      rw [HD2.out H1.out]
      have hfW : Fr (fun k => k = b ∨ k = rb) w w1 := HF1.out.weak (fun _ h => .inr h)
      have HFr := Lib.hid hfW
      obtain ⟨f3, f4, f5, f6⟩ := HC3.out
      refine ⟨rfl, ib, .inl rfl, dia_mk HH.out (by rw [HST.out]; exact HS.out.fr (D := fun k => k = b ∨ k = rb) (by (repeat' first | with_reducible exact HFr.out | (with_reducible refine Fr.setIn ?_ (by first | exact Or.inl rfl | exact Or.inr rfl) _) | (with_reducible refine Fr.setNew ?_ _) | with_reducible refine Fr.alloc ?_ _ | with_reducible refine Fr.drewN ?_ _ | with_reducible refine Fr.drew ?_)) (fun k hk hd => by rcases hd with e | e; exact hk.2.1 e; exact hk.2.2.1 e) (fun _ h _ => h)) (HR1.out.fr (S := fun k => k = b ∨ k = w.heap.size) ?_ (fun e => by omega)) (sA := A2) (sn := n2) (sc := c2) (fun q u hq => ?_) (fun q => ?_) (fun e => absurd e H7.out) (Fr.row (S := fun k => k = b ∨ k = rb) ?_ f3 (fun k hk' hk => ?_)) f4 f5 (fun e => absurd e H7.out) HH.out.ni (fun e => absurd e H7.out) HRok.out, ?_, fun e => absurd e H7.out⟩
      · (repeat' first | with_reducible exact Fr.refl _ _ | (with_reducible refine Fr.setIn ?_ (by first | exact Or.inl rfl | exact Or.inr rfl) _) | with_reducible refine Fr.alloc ?_ _ | with_reducible refine Fr.drewN ?_ _ | with_reducible refine Fr.drew ?_)
      · rcases q with _ | _ | _ | _ | _ | _ | _ | _ | _ | _ | _ | _ | q
        all_goals (simp at hq)
        all_goals (subst hq; simp [go_sem, hb1, hq1, hbq, hqb, x0, x1, x2, x3, x4, x5, x6, x7, x8, x9, x10, x11])
      · simp [go_sem, hb1, hq1, hbq, hqb, xf]
      · (repeat' first | with_reducible exact HFr.out | (with_reducible refine Fr.setIn ?_ (by first | exact Or.inl rfl | exact Or.inr rfl) _) | (with_reducible refine Fr.setNew ?_ _) | with_reducible refine Fr.alloc ?_ _ | with_reducible refine Fr.drewN ?_ _ | with_reducible refine Fr.drew ?_)
      · rcases hk with hk | hk
        · exact (HH.out.ni k (f5.symm.trans hk')).1 hk
        · exact (HH.out.ni k (f5.symm.trans hk')).2 hk
      · refine Fr.weak (S := fun k => k = b ∨ k = rb) ?_ (fun k h => by rcases h with h | h; exact .inl h; exact .inr (.inl h))
        (repeat' first | with_reducible exact HFr.out | (with_reducible refine Fr.setIn ?_ (by first | exact Or.inl rfl | exact Or.inr rfl) _) | (with_reducible refine Fr.setNew ?_ _) | with_reducible refine Fr.alloc ?_ _ | with_reducible refine Fr.drewN ?_ _ | with_reducible refine Fr.drew ?_)
end Go.Proofs.YthgbcgphkddmgaaGreat
namespace Go.Proofs.YthgbcgphkddmgaaGreat
open Go.RowKit Go.Maps
set_option linter.unusedVariables false
set_option linter.unusedSimpArgs false
theorem und_refs : Tryz.prog.underlying 144 = some (.map 3 4) := Tryz.underlying144
def RaddOk (t : VT) : Prop := ∀ (cs : List Value) (S : Nat → Prop) (kb n : Nat) (p : Int → Bool) (w : World), t.isV w S cs → t.wf → t.many ≤ 4194304 → (∀ k, S k → k ≠ kb) → OwnM w kb n (knG p) → n + t.many ≤ 1000000000000 →
  Calls Tryz.prog 64 #[.map (some kb), .agg cs.toArray] w fun e w' => e = .returned (.tuple #[]) ∧ Fr (fun k => k = kb) w w' ∧ ∃ n', n' ≤ n + t.many ∧ OwnM w' kb n' (knG fun x => p x || refsV t x)
theorem knG_put (p : Int → Bool) (m : Int) : (fun y => if y = m then some (Value.bool true) else knG p y) = knG (fun x => p x || x == m) := by
  funext y
  unfold knG
  by_cases e : y = m
  · subst e; simp
  · rw [if_neg e]
    have : (y == m) = false := by simpa using e
    simp [this]
theorem anyOf_up (p : Nat → Bool) (n : Nat) : anyOf p (n + 1) = (anyOf p n || p n) := by
  rw [Bool.eq_iff_iff, anyOf_true, Bool.or_eq_true, anyOf_true]
  constructor
  · rintro ⟨k, hk, h⟩
    by_cases e : k = n
    · subst e; exact .inr h
    · exact .inl ⟨k, by omega, h⟩
  · rintro (⟨k, hk, h⟩ | h)
    · exact ⟨k, by omega, h⟩
    · exact ⟨n, by omega, h⟩
theorem anyOf_nil (p : Nat → Bool) : anyOf p 0 = false := by
  rcases h : anyOf p 0 with _ | _
  · rfl
  · obtain ⟨k, hk, _⟩ := anyOf_true.1 h; omega
set_option maxRecDepth 100000 in
set_option maxHeartbeats 4000000 in
theorem radd_any : ∀ t : VT, RaddOk t := by
  intro t
  induction t with
  | none => intro cs S kb n p w h; exact h.elim
  | node k m s na arg ih =>
    intro cs S kb n p w h hwf hm hS ho hn
    have HV := Lib.hid h
    have IH := Lib.hid ih
    have HS := Lib.hid hS
    have HWF := Lib.hid hwf
    obtain ⟨A, c, rfl, hnc, hcm, hA, _⟩ := h
    have hkb := ho.lt
    have hna : na ≤ 4194304 := by
      by_cases h0 : 0 < na
      · obtain ⟨b, off, _, _, _, C, hC⟩ := isV_arg HV.out h0
        have h1 : na ≤ sumTo (fun i => (arg i).many) na := len_sumTo fun i hi => isV_many (hC i hi).1
        simp only [VT.many] at hm
        omega
      · omega
    have HN := Lib.hid (show n + (1 + sumTo (fun i => (arg i).many) na) ≤ 1000000000000 from hn)
    have hn9 : n < 1000000000000 := by have := HN.out; omega
    have HM := Lib.hid (show 1 + sumTo (fun i => (arg i).many) na ≤ 4194304 from hm)
    have HMM := Lib.hid (show (VT.node k m s na arg).many = 1 + sumTo (fun i => (arg i).many) na from rfl)
    obtain ⟨W, hW⟩ : ∃ W, W = w.alloc (.cells #[.int .i64 k, .int .i64 m, .string s, .slice A na c] 36) := ⟨_, rfl⟩
    have HFW := Lib.hid (show Fr (fun k => k = kb) w W by rw [hW]; exact (Fr.refl _ _).alloc _)
    have hoW : OwnM W kb n (knG p) := ho.fr (S := fun _ => False) (by rw [hW]; exact (Fr.refl _ _).alloc _) (fun h => h)
    have z0 : W.cell? ⟨w.heap.size, 0, none⟩ = some (.int .i64 k) := by rw [hW]; simp [go_sem]
    have z1 : W.cell? ⟨w.heap.size, 1, none⟩ = some (.int .i64 m) := by rw [hW]; simp [go_sem]
    have z3 : W.cell? ⟨w.heap.size, 3, none⟩ = some (.slice A na c) := by rw [hW]; simp [go_sem]
    have HWW := Lib.hid hW
    obtain ⟨w1, hrun, ho1, hg1⟩ := OwnM.store und_refs hoW (by unfold maxLen; omega) m (.bool true) (Wf.of hwf.1.1 (by have := hwf.1.2; omega))
    rw [knG_put] at ho1
    have HO1 := Lib.hid ho1
    have HOW := Lib.hid hoW
    have HG1 := Lib.hid hg1
    have HRUN := Lib.hid hrun
    clear hn hwf hm ih hA hS ho hW hoW ho1 hg1 hrun
    go_enter Tryz.func64, Tryz.ntmps64
    go_upto_if 8 with (fail)
    rw [← HWW.out]
    go_cut [] (fun wx => Hid (Fr (fun k => k = kb) w wx) ∧ wx.cell? ⟨w.heap.size, 3, none⟩ = some (.slice A na c) ∧ ∃ n1, n1 ≤ n + 1 ∧ Hid (OwnM wx kb n1 (knG fun x => p x || (k == 6 && x == m))))
    case first =>
      by_cases hk : k = 6
      · have HE := Lib.hid (show (fun x => p x || x == m) = (fun x => p x || (k == 6 && x == m)) by funext x; simp [hk])
        have e1 : (k == 6) = true := by simpa using hk
        have e2 : decide (k = 6) = true := by simpa using hk
        have hr := HRUN.out
        subst hk
        go_wp2_with fail
        go_meet
        refine ⟨Lib.hid (HFW.out.trans' (Fr.of_grown HG1.out (fun b hb => .inl (by injection hb with hb; exact hb.symm)))), ?_, _, ?_, Lib.hid (HE.out ▸ HO1.out)⟩
        · exact (grown_cell HG1.out (World.block_lt_of_cell? W _ z3) (fun e => by injection e with e; exact absurd (show w.heap.size = kb from e) (by omega))).trans z3
        · split <;> omega
      · have HE := Lib.hid (show p = (fun x => p x || (k == 6 && x == m)) by funext x; simp [hk])
        have e1 : (k == 6) = false := by simpa using hk
        clear hk
        go_wp2_with fail
        go_meet
        exact ⟨HFW, z3, n, by omega, Lib.hid (HE.out ▸ HOW.out)⟩
    case rest =>
      obtain ⟨HF, x3, n1, hn1, HO⟩ := hcut
      clear z0 z1 z3
      go_wp2_with fail
      go_loopw [5, 15] (fun _ i wr => ∃ q n2 : Nat, q ≤ na ∧ i = .int .i64 q ∧ Hid (Fr (fun k => k = kb) w wr) ∧ n2 ≤ n + 1 + sumTo (fun i => (arg i).many) q ∧ Hid (OwnM wr kb n2 (knG fun x => p x || ((k == 6 && x == m) || anyOf (fun i => refsV (arg i) x) q)))) (fun _ i _ => na - (intOf i).toNat)
      case atStart => exact ⟨0, n1, Nat.zero_le _, rfl, HF, by simpa [sumTo] using hn1, by simpa [anyOf_nil] using HO⟩
      case round =>
        obtain ⟨q, n2, hq, rfl, HFr, hn2, HOr⟩ := hrel
        by_cases hlt : q < na
        · obtain ⟨b, off, rfl, hb, hSb, C, hC⟩ := isV_arg HV.out (by omega)
          obtain ⟨hV, hcell⟩ := hC q hlt
          have hbk : b ≠ kb := HS.out b hSb
          have hVr := Lib.hid (isV_frame (w' := wr) (S' := S) HFr.out.size (fun b hs hlt => ⟨hs, HFr.out.block b hlt (HS.out b hs)⟩) hV)
          obtain ⟨k', m', s', A', n', c', hCq⟩ := isV_cells hV
          rw [hCq] at hVr hcell
          have c0 : wr.cell? ⟨b, off + q * 4, none⟩ = some (.int .i64 k') := HFr.out.cell (hcell 0 _ rfl) hbk
          have c1 : wr.cell? ⟨b, off + q * 4 + 1, none⟩ = some (.int .i64 m') := HFr.out.cell (hcell 1 _ rfl) hbk
          have c2 : wr.cell? ⟨b, off + q * 4 + 2, none⟩ = some (.string s') := HFr.out.cell (hcell 2 _ rfl) hbk
          have c3 : wr.cell? ⟨b, off + q * 4 + 3, none⟩ = some (.slice A' n' c') := HFr.out.cell (hcell 3 _ rfl) hbk
          have hle : sumTo (fun i => (arg i).many) (q + 1) ≤ sumTo (fun i => (arg i).many) na := sumTo_mono (by omega)
          have hs1 : sumTo (fun i => (arg i).many) (q + 1) = sumTo (fun i => (arg i).many) q + (arg q).many := rfl
          have hmm := HM.out
          have hnn : n + (1 + sumTo (fun i => (arg i).many) na) ≤ 1000000000000 := HN.out
          have HQ1 := Lib.hid (show n2 + (arg q).many ≤ n + 1 + sumTo (fun i => (arg i).many) (q + 1) by omega)
          have hsz := HFr.out.size
          obtain ⟨W2, hW2⟩ : ∃ W2, W2 = wr.alloc (.cells #[.int .i64 k', .int .i64 m', .string s', .slice A' n' c'] 36) := ⟨_, rfl⟩
          have hf2 : Fr (fun _ => False) wr W2 := by rw [hW2]; exact (Fr.refl _ _).alloc _
          have hcall := IH.out q [.int .i64 k', .int .i64 m', .string s', .slice A' n' c'] S kb n2 (fun x => p x || ((k == 6 && x == m) || anyOf (fun i => refsV (arg i) x) q)) W2 (isV_frame hf2.size (fun b hs hlt => ⟨hs, hf2.block b hlt (fun h => h)⟩) hVr.out) (HWF.out.2 q hlt) (by omega) HS.out (HOr.out.fr hf2 (fun h => h)) (by omega)
          have HCALL := Lib.hid hcall
          have HF2 := Lib.hid hf2
          have HW2 := Lib.hid hW2
          clear hnn hVr hcell hCq hle hs1 hmm hn2 hcall hV hf2 hW2
          go_wp2_with fail
          rw [← HW2.out]
          refine HCALL.out.mono ?_
          rintro e w3 ⟨rfl, hf3, n3, hn3, ho3⟩
          have HO3 := Lib.hid ho3
          have HF3 := Lib.hid hf3
          clear ho3 hf3 c0 c1 c2 c3
          go_wp2_with fail
          go_roundw
          case rel =>
            refine ⟨q + 1, n3, by omega, by go_num, Lib.hid ((HFr.out.trans' (HF2.out.weak (fun _ h => h.elim))).trans' HF3.out), by have := HQ1.out; omega, Lib.hid ?_⟩
            have := HO3.out
            simpa [anyOf_up, Bool.or_assoc] using this
          case measure => simp [intOf]; omega
        · obtain rfl : q = na := by omega
          go_wp2_with fail
          refine bodyPost_end (results_none rfl _ _ _) rfl ⟨rfl, HFr.out, n2, by rw [HMM.out]; omega, ?_⟩
          have := HOr.out
          simpa [refsV] using this
end Go.Proofs.YthgbcgphkddmgaaGreat
namespace Go.Proofs.YthgbcgphkddmgaaGreat
open Go.RowKit Go.Maps
set_option linter.unusedVariables false
set_option linter.unusedSimpArgs false
set_option maxRecDepth 100000 in
set_option maxHeartbeats 400000 in
theorem ieach_nil (f : Value) (w : World) : Calls Tryz.prog 211 #[.slice none 0 0, f] w fun e w' => e = .returned (.slice none 0 0) ∧ w' = w := by
  go_enter Tryz.func211, Tryz.ntmps211
  go_wp2_with fail
  go_loopw [5, 7, 10] (fun v _ i wr => v = .slice none 0 0 ∧ i = .int .i64 0 ∧ wr = w) (fun _ _ _ _ => 0)
  case atStart => exact ⟨rfl, rfl, rfl⟩
  case round =>
    obtain ⟨rfl, rfl, rfl⟩ := hrel
    go_wp2_with fail
    go_ret
    exact ⟨rfl, rfl⟩
def SavedPost (nm : ByteArray) (n : Nat) (arg : Nat → VT) (w : World) (v : Value → Value) (e : Ending) (w' : World) : Prop :=
  ∃ A c, e = .returned (v (.agg #[.string nm, .slice A n c, .slice none 0 0])) ∧ n ≤ c ∧ c ≤ 9223372036854775807 ∧ RdV w' (fun b => w.heap.size ≤ b) A n arg ∧ Below w.heap.size w w'
set_option maxRecDepth 100000 in
set_option maxHeartbeats 4000000 in
theorem saved_any (nm : ByteArray) (n c : Nat) (A : Option Addr) (arg : Nat → VT) (S : Nat → Prop) (w : World) (hn : n ≤ 4194304) (hV : RdV w S A n arg) (hm : ∀ i, i < n → (arg i).many ≤ 4194304) :
    Calls Tryz.prog 195 #[.agg #[.string nm, .slice A n c, .slice none 0 0]] w (SavedPost nm n arg w id) := by
  have HV := Lib.hid hV
  have HM := Lib.hid hm
  obtain ⟨W, hW⟩ : ∃ W, W = (w.alloc (.cells #[.string nm, .slice A n c, .slice none 0 0] 204)).alloc (.cells #[.string ⟨#[]⟩, .slice none 0 0, .slice none 0 0] 204) := ⟨_, rfl⟩
  have HF := Lib.hid (show Below w.heap.size w W by rw [hW]; exact ((Below.refl _ _).alloc (Nat.le_refl _) _).alloc (by simp) _)
  have z0 : W.cell? ⟨w.heap.size, 0, none⟩ = some (.string nm) := by rw [hW]; simp [go_sem]
  have z1 : W.cell? ⟨w.heap.size, 1, none⟩ = some (.slice A n c) := by rw [hW]; simp [go_sem]
  have z2 : W.cell? ⟨w.heap.size, 2, none⟩ = some (.slice none 0 0) := by rw [hW]; simp [go_sem]
  have zf : ∀ o, W.frozen? ⟨w.heap.size, o, none⟩ = false := by intro o; rw [hW]; simp [go_sem]
  have y0 : W.cell? ⟨w.heap.size + 1, 0, none⟩ = some (.string ⟨#[]⟩) := by rw [hW]; simp [go_sem]
  have y1 : W.cell? ⟨w.heap.size + 1, 1, none⟩ = some (.slice none 0 0) := by rw [hW]; simp [go_sem]
  have y2 : W.cell? ⟨w.heap.size + 1, 2, none⟩ = some (.slice none 0 0) := by rw [hW]; simp [go_sem]
  have yf : ∀ o, W.frozen? ⟨w.heap.size + 1, o, none⟩ = false := by intro o; rw [hW]; simp [go_sem]
  have hz : w.heap.size + 2 = W.heap.size := by rw [hW]; simp
  have HVD := Lib.hid (show RdV W.drew S A n arg from RdV.frame hV HF.out.size (fun b hb hlt => ⟨hb, HF.out.block b hlt⟩))
  have HWW := Lib.hid hW
  clear hV hm hW
  go_enter Tryz.func195, Tryz.ntmps195
  go_wp2_with fail
  rw [← HWW.out]
  go_cut [] (fun wx => ∃ A' c', Hid (n ≤ c' ∧ c' ≤ 9223372036854775807 ∧ RdV wx (fun b => w.heap.size ≤ b ∧ b ≠ w.heap.size ∧ b ≠ w.heap.size + 1) A' n arg) ∧ Hid (Below w.heap.size w wx) ∧ wx.cell? ⟨w.heap.size, 0, none⟩ = some (.string nm) ∧ wx.cell? ⟨w.heap.size, 1, none⟩ = some (.slice A' n c') ∧ wx.cell? ⟨w.heap.size, 2, none⟩ = some (.slice none 0 0) ∧ wx.cell? ⟨w.heap.size + 1, 0, none⟩ = some (.string ⟨#[]⟩) ∧ wx.cell? ⟨w.heap.size + 1, 1, none⟩ = some (.slice none 0 0) ∧ wx.cell? ⟨w.heap.size + 1, 2, none⟩ = some (.slice none 0 0) ∧ (∀ o, wx.frozen? ⟨w.heap.size + 1, o, none⟩ = false))
  case first =>
    go_region_with (first
      | (go_at_call 112; refine (values_any n c A arg S W.drew hn HVD.out HM.out).mono ?_; rintro e w1 ⟨v1, C1, rfl, ho1, hl1, hv1, hb1⟩; obtain ⟨A1, c1, rfl, q1, q2, q3⟩ := each_rdv ho1 hl1 hv1; have HB1 := Lib.hid (show Below W.heap.size W w1 from ((Below.refl _ _).drew).trans hb1); have HQ := Lib.hid (And.intro q1 (And.intro q2 q3)); have hfr := Fr.of_below (S := fun _ => False) HB1.out; have z0' := hfr.cell z0 (fun h => h); have z1' := hfr.cell z1 (fun h => h); have z2' := hfr.cell z2 (fun h => h); have zf' := (fun o => (hfr.frozen (b := w.heap.size) (o := o) (by omega) (fun h => h)).trans (zf o) : ∀ o, w1.frozen? ⟨w.heap.size, o, none⟩ = false); have y0' := hfr.cell y0 (fun h => h); have y1' := hfr.cell y1 (fun h => h); have y2' := hfr.cell y2 (fun h => h); have yf' := (fun o => (hfr.frozen (b := w.heap.size + 1) (o := o) (by omega) (fun h => h)).trans (yf o) : ∀ o, w1.frozen? ⟨w.heap.size + 1, o, none⟩ = false); clear ho1 hl1 hv1 hb1 q1 q2 q3)
      | (go_at_call 211; refine (ieach_nil _ _).mono ?_; rintro e w2 ⟨rfl, rfl⟩))
    all_goals
      go_wp2_with fail
      go_meet
      refine ⟨A1, c1, Lib.hid ⟨HQ.out.1, HQ.out.2.1, RdV.frame HQ.out.2.2 (by simp) (fun b hb hlt => ?_)⟩, Lib.hid ?_, by simp [go_sem, z0'], by simp [go_sem, z1'], by simp [go_sem, z2'], by simp [go_sem, y0'], by simp [go_sem, y1'], by simp [go_sem, y2'], fun o => by simp [go_sem, yf']⟩
      · have hb' : W.heap.size ≤ b := hb
        refine ⟨⟨by omega, by omega, by omega⟩, ?_⟩
        iterate 2 (refine blk_setN ?_ (by omega))
        rfl
      · exact ((HF.out.trans (HB1.out.mono (by omega))).setCell (Nat.le_refl _) _).setCell (Nat.le_refl _) _
  case rest =>
    obtain ⟨A', c', HQ, HB, x0, x1, x2, v0, v1, v2, vf⟩ := hcut
    have hzc := HB.out.size
    clear z0 z1 z2 zf y0 y1 y2 yf
    have i0 : (wc.cell? ⟨w.heap.size + 1, 0, none⟩).isSome = true := by rw [v0]; rfl
    have i1 : (wc.cell? ⟨w.heap.size + 1, 1, none⟩).isSome = true := by rw [v1]; rfl
    have i2 : (wc.cell? ⟨w.heap.size + 1, 2, none⟩).isSome = true := by rw [v2]; rfl
    go_wp2_with fail
    refine bodyPost_ret (v := .agg #[.string nm, .slice A' n c', .slice none 0 0]) (by simp [results, Tryz.results195, go_sem, i0, i1, i2]) rfl ⟨A', c', rfl, HQ.out.1, HQ.out.2.1, ?_, ?_⟩
    · refine RdV.frame HQ.out.2.2 (by simp) (fun b hb hlt => ⟨hb.1, ?_⟩)
      iterate 3 (refine blk_setN ?_ hb.2.2)
      rfl
    · iterate 3 (refine below_set ?_ (by omega))
      exact HB.out
end Go.Proofs.YthgbcgphkddmgaaGreat
