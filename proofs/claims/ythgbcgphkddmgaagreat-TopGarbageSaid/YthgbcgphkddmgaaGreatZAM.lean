/- A diary: record. A diary: Give, Late, Offer. A diary: Offer. -/
import Derived.Test.YthgbcgphkddmgaaGreatZAL
import Derived.Test.YthgbcgphkddmgaaGreatZAG
import Derived.Deep.AppendLies
import Derived.Deep.RegionLaw
import Derived.Deep.DeepCutAuto
namespace Go.Proofs.YthgbcgphkddmgaaGreat
open Go.RowKit Go.Maps
set_option linter.unusedVariables false
set_option linter.unusedSimpArgs false
theorem infoIn : (Tryz.prog.info? 305).map (fun i => (i.zero, i.size, i.bytes)) = some (some (.agg #[.int .i64 0, .int .i64 0, .int .i64 0, .string ⟨#[]⟩, .slice none 0 0]), 5, 64) := by kernel_rfl
def RecPost (X : Nat → Prop) (base T b rb : Nat) (ib : Option Nat) (d : DiaS) (w0 : World) (v : Value) (e : Ending) (w' : World) : Prop :=
  e = .returned v ∧ ∃ ib', (∀ k, ib' = some k → ib = some k ∨ w0.heap.size ≤ k) ∧ DiaAt w' (fun k => X k ∨ ib' = some k) base (T + 1) b rb ib' d ∧ Fr (fun k => k = b ∨ k = rb ∨ ib = some k) w0 w'
theorem cells5_one (a : Int) (k m : Int) (s : ByteArray) (A : Option Addr) (n c : Nat) : ∀ u ∈ ([.int .i64 a, .int .i64 k, .int .i64 m, .string s, .slice A n c] : List Value), u.oneCell' = true := by
  intro u hu
  simp at hu
  rcases hu with rfl | rfl | rfl | rfl | rfl <;> rfl
set_option maxRecDepth 100000 in
set_option maxHeartbeats 4000000 in
theorem record_any (X : Nat → Prop) (base T b rb : Nat) (ib : Option Nat) (d : DiaS) (r' : RunS) (w0 w : World) (kd : Int) (t : VT) (cs : List Value) (S : Nat → Prop) (H : DiaAt w0 X base T b rb ib d) (hT : T < 1000000000000) (hf : Fr (fun k => k = rb) w0 w)
    (hr : ∃ A c, StAt w0 (fun k => ¬ X k ∧ k ≠ b ∧ k ≠ rb ∧ ib ≠ some k) A c r'.st ∧ RunAt w rb A c r') (hp : RunOk r') (hv : t.isV w S cs) (hm : t.many ≤ 4194304) : Calls Tryz.prog 163 #[.pointer (some ⟨b, 0, none⟩), .int .i64 kd, .agg cs.toArray] w (RecPost X base T b rb ib { d with r := r', dk := 0, dn := 0 } w0 (.tuple #[])) := by
  obtain ⟨i0, hi, jz0, jz1, jz2⟩ := info_parts infoIn
  obtain ⟨hb0, hrb0, hib0⟩ := H.lt
  have hnr := H.nr
  have hni := H.ni
  obtain ⟨lb1, lb2⟩ := H.lb
  obtain ⟨A3, n3, c3, xs, e3, hrow, hn3, hib, _⟩ := H.c3
  have k3 := hf.cell e3 hnr
  have k1 := hf.cell H.c1 hnr
  have k0 := hf.cell H.c0 hnr
  obtain ⟨A2, n2, c2, e2, _⟩ := H.c2
  have k2 := hf.cell e2 hnr
  have k4 := hf.cell H.c4 hnr
  have k5 := hf.cell H.c5 hnr
  have k6 := hf.cell H.c6 hnr
  have k7 := hf.cell H.c7 hnr
  have k8 := hf.cell H.c8 hnr
  have k9 := hf.cell H.c9 hnr
  have k10 := hf.cell H.c10 hnr
  have k11 := hf.cell H.c11 hnr
  have fz : ∀ o, w.frozen? ⟨b, o, none⟩ = false := fun o => (hf.frozen hb0 hnr).trans (H.fz o)
  have hrow' := hf.row hrow (fun k hk => (hni k (hib.symm.trans hk)).2)
  have HRow := Lib.hid hrow'
  have HF := Lib.hid hf
  have HR := Lib.hid hr
  have HV := Lib.hid hv
  have hbw : b < w.heap.size := Nat.lt_of_lt_of_le hb0 hf.size
  have hib1 : ∀ k, ib = some k → base ≤ k ∧ k < w.heap.size := fun k hk => ⟨(hib0 k hk).1, Nat.lt_of_lt_of_le (hib0 k hk).2 hf.size⟩
  have HI := Lib.hid hib1
  have HE := Lib.hid hib
  have HN := Lib.hid hni
  obtain ⟨k, m, s, A', n', c', rfl⟩ := isV_cells hv
  clear H e3 hrow e2 hrow' hr hv hib1 hib hni
  go_enter Tryz.func163, Tryz.ntmps163
  go_wp2_with fail
  generalize hW : w.alloc (.cells #[.int .i64 k, .int .i64 m, .string s, .slice A' n' c'] 36) = W at *
  have HW := Lib.hid hW
  have HFW := Lib.hid (show Fr (fun _ => False) w W by rw [← hW]; exact (Fr.refl _ _).alloc _)
  have hzW : w.heap.size < W.heap.size := by rw [← hW]; simp
  have z0 : W.cell? ⟨w.heap.size, 0, none⟩ = some (.int .i64 k) := by rw [← hW]; simp [go_sem]
  have z1 : W.cell? ⟨w.heap.size, 1, none⟩ = some (.int .i64 m) := by rw [← hW]; simp [go_sem]
  have z2 : W.cell? ⟨w.heap.size, 2, none⟩ = some (.string s) := by rw [← hW]; simp [go_sem]
  have z3 : W.cell? ⟨w.heap.size, 3, none⟩ = some (.slice A' n' c') := by rw [← hW]; simp [go_sem]
  clear hW
  have HVW := Lib.hid (isV_below HV.out (show Below w.heap.size w W.drew from ⟨HFW.out.os, HFW.out.tape, HFW.out.output, HFW.out.size, fun i hi => HFW.out.block i hi (fun h => h)⟩))
  have HRW := Lib.hid (HFW.out.row HRow.out (fun _ _ h => h))
  have q3 : W.cell? ⟨b, 3, none⟩ = some (.slice A3 n3 c3) := HFW.out.cell k3 (fun h => h)
  have hbW : b < W.heap.size := by omega
  go_region_law
    (first
      | (refine step_call1 (by rfl) 154 (fun _ _ => by kernel_rfl) _ _ (by rfl) (.agg #[.int .i64 k, .int .i64 m, .string s, .slice A' n' c']) (by simp [Act.eval, Act.put]) (copy_any t _ _ _ HVW.out hm) ?_; rintro e w1 ⟨cs1, rfl, hv1, hb1⟩; refine ⟨_, rfl, ?_⟩; obtain ⟨k1', m1', s1', A1', n1', c1', rfl⟩ := isV_cells hv1; have HB1 := Lib.hid (show Below W.heap.size W w1 from ((Below.refl _ _).drew).trans hb1); have hz1 := HB1.out.size; have hb1w : b < w1.heap.size := (by omega); have q3' := (HB1.out.cell (p := ⟨b, 3, none⟩) hbW).trans q3; have HR1 := Lib.hid (own_below HRW.out HB1.out); clear hv1 hb1)
      | (refine step_append_lies _ (by rfl) _ _ _ (by rfl) base 305 i0 _ 5 64 Tryz.underlying202 hi jz0 jz1 jz2 rfl (by omega) (.slice A3 n3 c3) n3 xs (by rfl) (HR1.out.alloc _) ⟨w1.heap.size, 0, none⟩ 1 1 [.int .i64 kd, .int .i64 k1', .int .i64 m1', .string s1', .slice A1' n1' c1'] (by rfl) (by rfl) (cell_newL _ _ _ _ rfl) (cells5_one _ _ _ _ _ _ _) (by omega) (by unfold maxLen; omega) (by omega) (by simp; omega) (w1.heap.size + 1) (by simp) ?_; intro g cap w5 hown5 hgrow5 hat5 hlt5; have hneb : some b ≠ (Value.slice A3 n3 c3).ownBlock := (fun e => (HN.out b (HE.out.symm.trans e.symm)).1 rfl); have hb1' : b < w1.heap.size := (by omega); have hb5 : b < (w1.alloc (.cells #[.int .i64 kd, .int .i64 k1', .int .i64 m1', .string s1', .slice A1' n1' c1'] 305)).heap.size := (by simp; omega); have HC5 := Lib.hid (show ∀ o, w5.cell? ⟨b, o, none⟩ = w.cell? ⟨b, o, none⟩ from fun o => (grown_cell (b := b) (o := o) hgrow5 hb5 hneb).trans ((World.cell?_alloc_lt _ _ ⟨b, o, none⟩ hb1').trans ((HB1.out.cell (p := ⟨b, o, none⟩) hbW).trans (World.cell?_of_block (a := ⟨b, o, none⟩) (HFW.out.block b hbw (fun h => h)))))); have HZ5 := Lib.hid (show ∀ o, w5.frozen? ⟨b, o, none⟩ = false from fun o => (grown_frozen (b := b) (o := o) hgrow5 hb5 hneb).trans ((grown_frozen (b := b) (o := o) (World.grownBy_alloc w1 _ none) hb1' (by simp)).trans ((grown_frozen (b := b) (o := o) (grown_below (g := none) HB1.out) hbW (by simp)).trans ((HFW.out.frozen hbw (fun h => h)).trans (fz o))))); have HG5 := Lib.hid hgrow5; have HO5 := Lib.hid hown5; have HA5 := Lib.hid hat5; have x3 := (HC5.out 3).trans k3; have y3 := HZ5.out 3; clear hown5 hgrow5 hat5))
  all_goals
    try simp only [Act.put, List.getElem_toArray, List.getElem_cons_zero, List.getElem_cons_succ, List.setIfInBounds_toArray, List.set_cons_zero, List.set_cons_succ]
    have x4 := (HC5.out 4).trans k4
    have x5 := (HC5.out 5).trans k5
    have x6 := (HC5.out 6).trans k6
    have x7 := (HC5.out 7).trans k7
    have x8 := (HC5.out 8).trans k8
    have x9 := (HC5.out 9).trans k9
    have x10 := (HC5.out 10).trans k10
    have x11 := (HC5.out 11).trans k11
    have yf := HZ5.out
    have hgb : g ≠ b := fun e => by
      rcases HA5.out with h | h
      · exact (HN.out b (HE.out.symm.trans (h.trans (by rw [e])))).1 rfl
      · omega
    have hg0 : ib = some g ∨ w0.heap.size ≤ g := by
      rcases HA5.out with h | h
      · exact .inl (HE.out.symm.trans h)
      · have := HF.out.size; exact .inr (by omega)
    have hgr : g ≠ rb := fun e => by
      rcases HA5.out with h | h
      · exact (HN.out rb (HE.out.symm.trans (h.trans (by rw [e])))).2 rfl
      · have := HF.out.size; omega
    have hbg : base ≤ g := (HO5.out.lt g rfl).1
    have HFw5 := Lib.hid (show Fr (fun k => ib = some k) w w5 from ((((HFW.out.weak (S2 := fun k => ib = some k) (fun _ h => h.elim)).trans' (Fr.of_below HB1.out)).alloc _).trans (Fr.of_grown (S := fun k => ib = some k) HG5.out (fun k hk => .inl (HE.out.symm.trans hk))) (fun k h => .inl h)))
    have x0 := (HC5.out 0).trans k0
    have x1 := (HC5.out 1).trans k1
    have x2 := (HC5.out 2).trans k2
    have FIN := Lib.hid (show ∀ W', Fr (fun k => k = b) w5 W' → (∀ o u, ([.iface 351 (.pointer (some ⟨rb, 0, none⟩)), .string d.nm, .slice A2 n2 c2, .slice (some ⟨g, 0, none⟩) (n3 + 1) cap, .int .i64 0, .int .i64 0, .string ⟨#[]⟩, .int .i64 0, .int .i64 0, .string ⟨#[]⟩, .slice none 0 0, .slice none 0 0] : List Value)[o]? = some u → W'.cell? ⟨b, o, none⟩ = some u) → (∀ o, W'.frozen? ⟨b, o, none⟩ = false) → RecPost X base T b rb ib { d with r := r', dk := 0, dn := 0 } w0 (.tuple #[]) (.returned (.tuple #[])) W' from fun W' h1 h2 h3 => by
      have hFw : Fr (fun k => ib = some k ∨ k = b) w W' := (HFw5.out.weak (fun _ h => .inl h)).trans (h1.weak (S2 := fun k => k = b) (fun _ h => h)) (fun _ h => .inl (.inr h))
      obtain ⟨Ar, cr, hs, hrun⟩ := HR.out
      refine ⟨rfl, some g, fun k hk => ?_, ⟨⟨Ar, cr, hs.fr ((HF.out.weak (S2 := fun k => k = b ∨ k = rb ∨ ib = some k) (fun _ h => .inr (.inl h))).trans' (hFw.weak (fun k hk => by rcases hk with h | h; exact .inr (.inr h); exact .inl h))) (fun k hk hd => ?_) (fun k hk hlt => ?_), hrun.fr hFw (fun h => ?_)⟩, h2 0 _ rfl, h2 1 _ rfl, ⟨_, _, _, h2 2 _ rfl, fun e => absurd e (by show ¬ ((0 : Int) = 7); decide)⟩, ⟨_, _, _, _, h2 3 _ rfl, h1.row HO5.out (fun k hk => ?_), by omega, rfl, fun e => absurd e (by show ¬ ((0 : Int) = 7); decide)⟩, h2 4 _ rfl, h2 5 _ rfl, h2 6 _ rfl, h2 7 _ rfl, h2 8 _ rfl, h2 9 _ rfl, h2 10 _ rfl, h2 11 _ rfl, h3, hnr, fun k hk => ?_, ⟨lb1, lb2⟩, fun e => absurd e (by show ¬ ((0 : Int) = 7); decide), hp⟩, ?_⟩
      · injection hk with hk; exact hk ▸ hg0
      · rcases hd with hd | hd | hd
        · exact hk.2.1 hd
        · exact hk.2.2.1 hd
        · exact hk.2.2.2 hd
      · have hkg : (some g : Option Nat) ≠ some k := fun e => by
          injection e with e
          rcases hg0 with h | h
          · exact hk.2.2.2 (by rw [h, e])
          · omega
        exact ⟨fun hx => by rcases hx with h | h; exact hk.1 h; exact hkg h, hk.2.1, hk.2.2.1, hkg⟩
      · rcases h with h | h
        · exact (HN.out _ h).2 rfl
        · exact hnr h.symm
      · injection hk with hk; exact fun e => hgb (show g = b from hk.trans e)
      · injection hk with hk; exact ⟨by omega, by omega⟩
      · exact (HF.out.weak (S2 := fun k => k = b ∨ k = rb ∨ ib = some k) (fun _ h => .inr (.inl h))).trans hFw (fun k hk => .inl (by rcases hk with h | h; exact .inr (.inr h); exact .inl h)))
    clear hgb hg0 hgr hbg
    go_wp2_with fail
    refine bodyPost_end (results_none rfl _ _ _) rfl (FIN.out _ ?_ ?_ ?_)
    · (repeat' first | with_reducible exact Fr.refl (fun k => k = _) _ | (with_reducible refine Fr.setAt ?_ _) | with_reducible refine Fr.alloc ?_ _ | with_reducible refine Fr.drewN ?_ _ | with_reducible refine Fr.drew ?_)
    · intro o u ho
      rcases o with _ | _ | _ | _ | _ | _ | _ | _ | _ | _ | _ | _ | o
      all_goals (simp at ho)
      all_goals (subst ho; simp [go_sem, x0, x1, x2, x3, x4, x5, x6, x7, x8, x9, x10, x11])
    · intro o; simp [go_sem, yf]
end Go.Proofs.YthgbcgphkddmgaaGreat
namespace Go.Proofs.YthgbcgphkddmgaaGreat
open Go.RowKit Go.Maps
set_option linter.unusedVariables false
set_option linter.unusedSimpArgs false
theorem cell4_new (w : World) (a b c d : Value) (t : TypeId) (j : Nat) (u : Value) (h : [a, b, c, d][j]? = some u) : (w.alloc (.cells #[a, b, c, d] t)).drew.cell? ⟨w.heap.size, j, none⟩ = some u := by
  have := cell_four_new w a b c d t j u h
  rw [Addr.add_lit, Nat.zero_add] at this
  exact this
theorem meth_give (rb : Nat) : ∀ w, Sem.run Tryz.prog (method 455 351 (.pointer (some ⟨rb, 0, none⟩)) "Give") w = .ok (256, .pointer (some ⟨rb, 0, none⟩)) w := fun _ => by kernel_rfl
theorem meth_late (rb : Nat) : ∀ w, Sem.run Tryz.prog (method 455 351 (.pointer (some ⟨rb, 0, none⟩)) "Late") w = .ok (257, .pointer (some ⟨rb, 0, none⟩)) w := fun _ => by kernel_rfl
theorem meth_offer (rb : Nat) : ∀ w, Sem.run Tryz.prog (method 455 351 (.pointer (some ⟨rb, 0, none⟩)) "Offer") w = .ok (258, .pointer (some ⟨rb, 0, none⟩)) w := fun _ => by kernel_rfl
/-- nothing but new memory -/
theorem rec_same {X : Nat → Prop} {base T b rb : Nat} {ib : Option Nat} {d : DiaS} {w w' : World} {v : Value} (H : DiaAt w X base T b rb ib d) (hX : ∀ k, ib = some k → X k) (hf : Fr (fun _ => False) w w') : RecPost X base T b rb ib d w v (.returned v) w' :=
  ⟨rfl, ib, fun k hk => .inl hk, H.fr hf (fun _ h => h.elim) (fun k hk => .inl (by rcases hk with h | h; exact h; exact hX k h)) (fun _ h => h.elim) (by omega) (fun h => h) (fun h => h) (fun _ _ h => h), hf.weak fun _ h => h.elim⟩
set_option maxRecDepth 100000 in
set_option maxHeartbeats 4000000 in
theorem dgive_any (X : Nat → Prop) (base T b rb : Nat) (ib : Option Nat) (d : DiaS) (w : World) (x : Int) (H : DiaAt w X base T b rb ib d) (hI : ∀ k, ib = some k → X k) (hT : T < 1000000000000) :
    Calls Tryz.prog 120 #[.pointer (some ⟨b, 0, none⟩), .agg #[.int .i64 6, .int .i64 x, .string ⟨#[]⟩, .slice none 0 0]] w (RecPost X base T b rb ib (giveD d x) w (.tuple #[])) := by
  have HH := Lib.hid H
  have hm := meth_give rb
  have c0 := H.c0
  have c4 := H.c4
  have fz := H.fz
  obtain ⟨hlt, hlr, _⟩ := H.lt
  have hnr := H.nr
  have HI := Lib.hid hI
  clear H hI
  by_cases hk : d.dk = 4
  · have HE := Lib.hid (show giveD d x = { d with r := giveR d.r x, dk := 0, dn := 0 } by unfold giveD; rw [if_pos hk])
    rw [hk] at c4
    have HK := Lib.hid hk
    clear hk
    go_enter Tryz.func120, Tryz.ntmps120
    go_wp2_with fail
    obtain ⟨A, c, hs, hrun⟩ := HH.out.run
    have HS := Lib.hid hs
    have HRun := Lib.hid hrun
    clear hs hrun
    have hne : w.heap.size ≠ rb := by omega
    go_cut [20] (fun _ wx => Hid (RunAt wx rb A c (giveR d.r x)) ∧ Hid (Fr (fun k => k = rb) w wx) ∧ (∀ j u, ([.int .i64 6, .int .i64 x, .string ⟨#[]⟩, .slice none 0 0] : List Value)[j]? = some u → wx.cell? ⟨w.heap.size, j, none⟩ = some u))
    case first =>
      go_region_with (first | (go_at_call 256; refine (give_any rb c A none 0 0 d.r 6 x ⟨#[]⟩ _ (HRun.out.fr (S := fun _ => False) (((Fr.refl _ w).alloc _).drew) (fun h => h))).mono ?_; rintro e w1 ⟨rfl, hr1, hf1⟩; have HR1 := Lib.hid hr1; have HF1 := Lib.hid (((Fr.refl (fun k => k = rb) w).alloc _).drew.trans' hf1); have HF2 := Lib.hid hf1; clear hr1 hf1))
      all_goals
        go_wp2_with fail
        go_meet
        refine ⟨HR1, HF1, fun j u hj => HF2.out.cell (cell4_new w _ _ _ _ _ j u hj) hne⟩
    case rest =>
      obtain ⟨HR1, HF1, hbx⟩ := hcut
      have q0 := hbx 0 _ rfl
      have q1 := hbx 1 _ rfl
      have q2 := hbx 2 _ rfl
      have q3 := hbx 3 _ rfl
      clear hbx
      go_wp2_with fail
      refine (record_any X base T b rb ib d (giveR d.r x) w wc 1 (vLeaf 6 x) _ (fun _ => True) HH.out hT HF1.out ⟨A, c, HS.out, HR1.out⟩ HH.out.pl (leaf_V wc _ 6 x) (by simp [vLeaf, VT.many, sumTo])).mono ?_
      rintro e w2 ⟨rfl, hp⟩
      go_wp2_with fail
      refine bodyPost_end (results_none rfl _ _ _) rfl ?_
      rw [HE.out]
      exact ⟨rfl, hp⟩
  · have HE := Lib.hid (show giveD d x = d by unfold giveD; rw [if_neg hk])
    have hk' : (d.dk == 4) = false := by simpa using hk
    clear hk
    go_enter Tryz.func120, Tryz.ntmps120
    go_wp2_with fail
    refine bodyPost_end (results_none rfl _ _ _) rfl ?_
    rw [HE.out]
    exact rec_same HH.out HI.out ((Fr.refl _ w).alloc _)
theorem DiaAt.rerun {w w' : World} {X : Nat → Prop} {base T b rb : Nat} {ib : Option Nat} {d : DiaS} (h : DiaAt w X base T b rb ib d) (hf : Fr (fun k => k = rb) w w') (hX : X rb) (hr : ∃ A c, StAt w' (fun k => ¬ X k ∧ k ≠ b ∧ k ≠ rb ∧ ib ≠ some k) A c d.r.st ∧ RunAt w' rb A c d.r) : DiaAt w' X base T b rb ib d := by
  have h1 : ¬ b = rb := h.nr
  have h3 : ∀ k, ib = some k → ¬ k = rb := fun k hk => (h.ni k hk).2
  obtain ⟨A2, n2, c2, s1, s2⟩ := h.c2
  obtain ⟨A3, n3, c3, xs, t1, t2, t3, t4, t5⟩ := h.c3
  exact ⟨hr, hf.cell h.c0 h1, hf.cell h.c1 h1, ⟨A2, n2, c2, hf.cell s1 h1, fun e => by obtain ⟨u1, u2, u3, u4⟩ := s2 e; exact ⟨u1, u2, u3, u4.fr (X' := X) hf (fun k hk => hk ▸ hX) (fun k hk => .inl hk)⟩⟩,
    ⟨A3, n3, c3, xs, hf.cell t1 h1, hf.row t2 (fun k hk => h3 k (t4.symm.trans hk)), t3, t4, t5⟩, hf.cell h.c4 h1, hf.cell h.c5 h1, hf.cell h.c6 h1, hf.cell h.c7 h1, hf.cell h.c8 h1, hf.cell h.c9 h1, hf.cell h.c10 h1, hf.cell h.c11 h1,
    fun o => (hf.frozen (World.block_lt_of_cell? w _ h.c0) h1).trans (h.fz o), h.nr, h.ni, h.lb, h.wt, h.pl⟩
set_option maxRecDepth 100000 in
set_option maxHeartbeats 4000000 in
theorem dlate_any (X : Nat → Prop) (base T b rb : Nat) (ib : Option Nat) (d : DiaS) (w : World) (H : DiaAt w X base T b rb ib d) (hI : ∀ k, ib = some k → X k) (hT : T < 1000000000000) :
    Calls Tryz.prog 160 #[.pointer (some ⟨b, 0, none⟩)] w (RecPost X base T b rb ib (lateD d) w (.tuple #[])) := by
  have HH := Lib.hid H
  have hm := meth_late rb
  have c0 := H.c0
  have c4 := H.c4
  have c5 := H.c5
  have fz := H.fz
  obtain ⟨hlt, hlr, _⟩ := H.lt
  have hnr := H.nr
  have HI := Lib.hid hI
  clear H hI
  by_cases hk : d.dk = 7
  · by_cases hn : 0 ≤ d.dn
    · have HE := Lib.hid (show lateD d = { d with r := lateR d.r, dk := 0, dn := 0 } by unfold lateD; rw [if_pos ⟨hk, hn⟩])
      have hw := HH.out.wt hk
      rw [hk] at c4
      have HK := Lib.hid hk
      obtain ⟨A, c, hs, hrun⟩ := HH.out.run
      have HS := Lib.hid hs
      have HRun := Lib.hid hrun
      have HW := Lib.hid hw
      clear hk hs hrun hw
      go_enter Tryz.func160, Tryz.ntmps160
      go_wp2_with fail
      refine (late_any rb c A d.r w HRun.out).mono ?_
      rintro e w1 ⟨rfl, hr1, hf1⟩
      have HR1 := Lib.hid hr1
      have HF1 := Lib.hid hf1
      clear hr1 hf1
      go_wp2_with fail
      refine (record_any X base T b rb ib d (lateR d.r) w w1 3 (vLeaf 0 0) _ (fun _ => True) HH.out hT HF1.out ⟨A, c, HS.out, HR1.out⟩ HH.out.pl (leaf_V w1 _ 0 0) (by simp [vLeaf, VT.many, sumTo])).mono ?_
      rintro e w2 ⟨rfl, hp⟩
      go_wp2_with fail
      refine bodyPost_end (results_none rfl _ _ _) rfl ?_
      rw [HE.out]
      exact ⟨rfl, hp⟩
    · have HE := Lib.hid (show lateD d = d by unfold lateD; rw [if_neg (fun h => hn h.2)])
      rw [hk] at c4
      clear hk
      go_enter Tryz.func160, Tryz.ntmps160
      go_wp2_with fail
      refine bodyPost_end (results_none rfl _ _ _) rfl ?_
      rw [HE.out]
      exact rec_same HH.out HI.out (Fr.refl _ w)
  · have HE := Lib.hid (show lateD d = d by unfold lateD; rw [if_neg (fun h => hk h.1)])
    have hk' : (d.dk == 7) = false := by simpa using hk
    clear hk
    go_enter Tryz.func160, Tryz.ntmps160
    go_wp2_with fail
    refine bodyPost_end (results_none rfl _ _ _) rfl ?_
    rw [HE.out]
    exact rec_same HH.out HI.out (Fr.refl _ w)
end Go.Proofs.YthgbcgphkddmgaaGreat
namespace Go.Proofs.YthgbcgphkddmgaaGreat
open Go.RowKit Go.Maps
set_option linter.unusedVariables false
set_option linter.unusedSimpArgs false
theorem offerR_no {r : RunS} {k x : Int} (h : (offerR r k x).2 = false) : (offerR r k x).1 = r := by
  unfold offerR at h ⊢
  split
  · rename_i h1; rw [if_pos h1] at h; cases h
  · rfl
theorem offerR_st (r : RunS) (k x : Int) : (offerR r k x).1.st = r.st := by
  unfold offerR
  split <;> rfl
theorem offerR_ok {r : RunS} (h : RunOk r) (k x : Int) : RunOk (offerR r k x).1 := by
  unfold offerR
  split
  · exact ⟨h.p3, h.len, h.wf⟩
  · exact h
def DofPost (X : Nat → Prop) (base T b rb : Nat) (ib : Option Nat) (d : DiaS) (t : VT) (w : World) (e : Ending) (w' : World) : Prop :=
  ((offerD d t).2 = false ∧ e = .returned (.bool false) ∧ DiaAt w' X base T b rb ib d ∧ Fr (fun k => k = b ∨ k = rb ∨ ib = some k) w w') ∨ ((offerD d t).2 = true ∧ RecPost X base T b rb ib (offerD d t).1 w (.bool true) e w')
set_option maxRecDepth 100000 in
set_option maxHeartbeats 4000000 in
theorem doffer_any (X : Nat → Prop) (base T b rb : Nat) (ib : Option Nat) (d : DiaS) (t : VT) (cs : List Value) (S : Nat → Prop) (w : World) (H : DiaAt w X base T b rb ib d) (hI : ∀ k, ib = some k → X k) (hXr : X rb) (hT : T < 1000000000000) (hv : t.isV w S cs) (hSX : ∀ k, S k → k ≠ rb) (hmany : t.many ≤ 4194304) :
    Calls Tryz.prog 159 #[.pointer (some ⟨b, 0, none⟩), .agg cs.toArray] w (DofPost X base T b rb ib d t w) := by
  have HH := Lib.hid H
  have hm := meth_offer rb
  have c0 := H.c0
  have c4 := H.c4
  have fz := H.fz
  obtain ⟨hlt, hlr, _⟩ := H.lt
  have hnr := H.nr
  have HI := Lib.hid hI
  have HXR := Lib.hid hXr
  have HV := Lib.hid hv
  obtain ⟨k, m, s, A', n', c', hcs⟩ := isV_cells hv
  have HKN := Lib.hid (show vkind t = k ∧ vnum t = m by
    cases t with
    | none => exact hv.elim
    | node a b c d e =>
      obtain ⟨A, c, e, _⟩ := hv
      rw [hcs] at e
      simp at e
      exact ⟨e.1.symm, e.2.1.symm⟩)
  subst hcs
  clear H hI hXr hv
  by_cases hk : d.dk = 7
  · have hw := HH.out.wt hk
    have HE := Lib.hid (show offerD d t = if (offerR d.r k m).2 then ({ d with r := (offerR d.r k m).1, dk := 0, dn := 0 }, true) else (d, false) by unfold offerD; rw [if_pos hk, HKN.out.1, HKN.out.2])
    rw [hk] at c4
    obtain ⟨A, c, hs, hrun⟩ := HH.out.run
    have HS := Lib.hid hs
    have HRun := Lib.hid hrun
    have HW := Lib.hid hw
    have hne : w.heap.size ≠ rb := by omega
    clear hk hs hrun hw
    go_enter Tryz.func159, Tryz.ntmps159
    go_wp2_with fail
    go_cut [19] (fun v wx => v = .bool (!(offerR d.r k m).2) ∧ Hid (RunAt wx rb A c (offerR d.r k m).1) ∧ Hid (Fr (fun k => k = rb) w wx) ∧ (∀ j u, ([.int .i64 k, .int .i64 m, .string s, .slice A' n' c'] : List Value)[j]? = some u → wx.cell? ⟨w.heap.size, j, none⟩ = some u))
    case first =>
      go_region_with (first | (go_at_call 258; refine (offer_any rb c A A' n' c' d.r k m s _ (HRun.out.fr (S := fun _ => False) (((Fr.refl _ w).alloc _).drew) (fun h => h))).mono ?_; rintro e w1 ⟨rfl, hr1, hf1⟩; have HR1 := Lib.hid hr1; have HF1 := Lib.hid (((Fr.refl (fun k => k = rb) w).alloc _).drew.trans' hf1); have HF2 := Lib.hid hf1; clear hr1 hf1))
      all_goals
        go_wp2_with fail
        go_meet
        refine ⟨rfl, HR1, HF1, fun j u hj => HF2.out.cell (cell4_new w _ _ _ _ _ j u hj) hne⟩
    case rest =>
      obtain ⟨rfl, HR1, HF1, hbx⟩ := hcut
      have q0 := hbx 0 _ rfl
      have q1 := hbx 1 _ rfl
      have q2 := hbx 2 _ rfl
      have q3 := hbx 3 _ rfl
      clear hbx
      rcases hb : (offerR d.r k m).2 with _ | _
      · have HB := Lib.hid hb
        have HE2 := Lib.hid (HE.out.trans (if_neg (by rw [hb]; decide)))
        clear hb
        go_wp2_with fail
        go_ret
        refine .inl ⟨by rw [HE2.out], rfl, ?_, HF1.out.weak (fun k h => .inr (.inl h))⟩
        have hr := HR1.out
        rw [offerR_no HB.out] at hr
        exact HH.out.rerun HF1.out HXR.out ⟨A, c, HS.out.fr HF1.out (fun k hk e => hk.2.2.1 e) (fun _ h _ => h), hr⟩
      · have HB := Lib.hid hb
        have HE2 := Lib.hid (HE.out.trans (if_pos hb))
        clear hb
        go_wp2_with fail
        refine (record_any X base T b rb ib d (offerR d.r k m).1 w wc 2 t _ S HH.out hT HF1.out ⟨A, c, by rw [offerR_st]; exact HS.out, HR1.out⟩ (offerR_ok HH.out.pl k m) ?_ hmany).mono ?_
        · exact isV_frame (by have := HF1.out.size; omega) (fun b hs hlt => ⟨hs, HF1.out.block b hlt (fun e => hSX b hs e)⟩) HV.out
        rintro e w2 ⟨rfl, hp⟩
        go_wp2_with fail
        go_ret
        exact .inr ⟨by rw [HE2.out], by rw [HE2.out]; exact ⟨rfl, hp⟩⟩
  · have HE := Lib.hid (show offerD d t = (d, false) by unfold offerD; rw [if_neg hk])
    have hk' : (d.dk == 7) = false := by simpa using hk
    have hk2 : (d.dk != 7) = true := by simpa using hk
    have hk3 : decide (d.dk = 7) = false := decide_eq_false hk
    clear hk
    go_enter Tryz.func159, Tryz.ntmps159
    go_wp2_with fail
    go_region
    all_goals
      go_wp2_with fail
      go_ret
      have hfw : Fr (fun _ => False) w ((w.alloc (.cells #[.int .i64 k, .int .i64 m, .string s, .slice A' n' c'] 36)).drewN 1) := ((Fr.refl _ w).alloc _).drewN 1
      exact .inl ⟨by rw [HE.out], rfl, HH.out.fr (X' := X) hfw (fun _ h => h.elim) (fun k hk => .inl hk) (fun _ h => h.elim) (Nat.le_refl _) (fun h => h) (fun h => h) (fun _ _ h => h), hfw.weak (fun _ h => h.elim)⟩
end Go.Proofs.YthgbcgphkddmgaaGreat
