/- A diary: record. A diary: Give, Late, Offer. A diary: Offer. A diary: Run. Sets of references: add. -/
import Derived.Test.YthgbcgphkddmgaaGreatZAL
import Derived.Test.YthgbcgphkddmgaaGreatZAG
import Derived.Deep.AppendLies
import Derived.Deep.RegionLaw
import Derived.Deep.DeepCutAuto
import Derived.Test.YthgbcgphkddmgaaGreatZAE
namespace Go.Proofs.YthgbcgphkddmgaaGreat
open Go.RowKit Go.Maps
set_option linter.unusedVariables false
set_option linter.unusedSimpArgs false
theorem infoIn : (Tryz.prog.info? 305).map (fun i => (i.zero, i.size, i.bytes)) = some (some (.agg #[.int .i64 0, .int .i64 0, .int .i64 0, .string ⟨#[]⟩, .slice none 0 0]), 5, 64) := by kernel_rfl
def RecPost (X : Nat → Prop) (base T b rb : Nat) (ib : Option Nat) (d : DiaS) (w0 : World) (v : Value) (e : Ending) (w' : World) : Prop :=
  e = .returned v ∧ ∃ ib', (∀ k, ib' = some k → ib = some k ∨ w0.heap.size ≤ k) ∧ DiaAt w' (fun k => X k ∨ ib' = some k) base (T + 1) b rb ib' d ∧ Fr (fun k => k = b ∨ k = rb ∨ ib = some k) w0 w'
theorem cells5_one (a : Int) (k m : Int) (s : ByteArray) (A : Option Addr) (n c : Nat) : ∀ u ∈ ([.int .i64 a, .int .i64 k, .int .i64 m, .string s, .slice A n c] : List Value), u.oneCell' = true := by
  intro u hu
  simp at hu
  rcases hu with rfl | rfl | rfl | rfl | rfl <;> rfl
set_option maxRecDepth 100000 in
set_option maxHeartbeats 4000000 in
theorem record_any (X : Nat → Prop) (base T b rb : Nat) (ib : Option Nat) (d : DiaS) (r' : RunS) (w0 w : World) (kd : Int) (t : VT) (cs : List Value) (S : Nat → Prop) (H : DiaAt w0 X base T b rb ib d) (hT : T < 1000000000000) (hf : Fr (fun k => k = rb) w0 w)
    (hr : ∃ A c, StAt w0 (fun k => ¬ X k ∧ k ≠ b ∧ k ≠ rb ∧ ib ≠ some k) A c r'.st ∧ RunAt w rb A c r') (hp : RunOk r') (hv : t.isV w S cs) (hm : t.many ≤ 4194304) : Calls Tryz.prog 163 #[.pointer (some ⟨b, 0, none⟩), .int .i64 kd, .agg cs.toArray] w (RecPost X base T b rb ib { d with r := r', dk := 0, dn := 0 } w0 (.tuple #[])) := by
  obtain ⟨i0, hi, jz0, jz1, jz2⟩ := info_parts infoIn
  obtain ⟨hb0, hrb0, hib0⟩ := H.lt
  have hnr := H.nr
  have hni := H.ni
  obtain ⟨lb1, lb2⟩ := H.lb
  obtain ⟨A3, n3, c3, xs, e3, hrow, hn3, hib, _⟩ := H.c3
  have k3 := hf.cell e3 hnr
  have k1 := hf.cell H.c1 hnr
  have k0 := hf.cell H.c0 hnr
  obtain ⟨A2, n2, c2, e2, _⟩ := H.c2
  have k2 := hf.cell e2 hnr
  have k4 := hf.cell H.c4 hnr
  have k5 := hf.cell H.c5 hnr
  have k6 := hf.cell H.c6 hnr
  have k7 := hf.cell H.c7 hnr
  have k8 := hf.cell H.c8 hnr
  have k9 := hf.cell H.c9 hnr
  have k10 := hf.cell H.c10 hnr
  have k11 := hf.cell H.c11 hnr
  have fz : ∀ o, w.frozen? ⟨b, o, none⟩ = false := fun o => (hf.frozen hb0 hnr).trans (H.fz o)
  have hrow' := hf.row hrow (fun k hk => (hni k (hib.symm.trans hk)).2)
  have HRow := Lib.hid hrow'
  have HF := Lib.hid hf
  have HR := Lib.hid hr
  have HV := Lib.hid hv
  have hbw : b < w.heap.size := Nat.lt_of_lt_of_le hb0 hf.size
  have hib1 : ∀ k, ib = some k → base ≤ k ∧ k < w.heap.size := fun k hk => ⟨(hib0 k hk).1, Nat.lt_of_lt_of_le (hib0 k hk).2 hf.size⟩
  have HI := Lib.hid hib1
  have HE := Lib.hid hib
  have HN := Lib.hid hni
  obtain ⟨k, m, s, A', n', c', rfl⟩ := isV_cells hv
  clear H e3 hrow e2 hrow' hr hv hib1 hib hni
  go_enter Tryz.func163, Tryz.ntmps163
  go_wp2_with fail
  generalize hW : w.alloc (.cells #[.int .i64 k, .int .i64 m, .string s, .slice A' n' c'] 36) = W at *
  have HW := Lib.hid hW
  have HFW := Lib.hid (show Fr (fun _ => False) w W by rw [← hW]; exact (Fr.refl _ _).alloc _)
  have hzW : w.heap.size < W.heap.size := by rw [← hW]; simp
  have z0 : W.cell? ⟨w.heap.size, 0, none⟩ = some (.int .i64 k) := by rw [← hW]; simp [go_sem]
  have z1 : W.cell? ⟨w.heap.size, 1, none⟩ = some (.int .i64 m) := by rw [← hW]; simp [go_sem]
  have z2 : W.cell? ⟨w.heap.size, 2, none⟩ = some (.string s) := by rw [← hW]; simp [go_sem]
  have z3 : W.cell? ⟨w.heap.size, 3, none⟩ = some (.slice A' n' c') := by rw [← hW]; simp [go_sem]
  clear hW
  have HVW := Lib.hid (isV_below HV.out (show Below w.heap.size w W.drew from ⟨HFW.out.os, HFW.out.tape, HFW.out.output, HFW.out.size, fun i hi => HFW.out.block i hi (fun h => h)⟩))
  have HRW := Lib.hid (HFW.out.row HRow.out (fun _ _ h => h))
  have q3 : W.cell? ⟨b, 3, none⟩ = some (.slice A3 n3 c3) := HFW.out.cell k3 (fun h => h)
  have hbW : b < W.heap.size := by omega
  go_region_law
    (first
      | (refine step_call1 (by rfl) 154 (fun _ _ => by kernel_rfl) _ _ (by rfl) (.agg #[.int .i64 k, .int .i64 m, .string s, .slice A' n' c']) (by simp [Act.eval, Act.put]) (copy_any t _ _ _ HVW.out hm) ?_; rintro e w1 ⟨cs1, rfl, hv1, hb1⟩; refine ⟨_, rfl, ?_⟩; obtain ⟨k1', m1', s1', A1', n1', c1', rfl⟩ := isV_cells hv1; have HB1 := Lib.hid (show Below W.heap.size W w1 from ((Below.refl _ _).drew).trans hb1); have hz1 := HB1.out.size; have hb1w : b < w1.heap.size := (by omega); have q3' := (HB1.out.cell (p := ⟨b, 3, none⟩) hbW).trans q3; have HR1 := Lib.hid (own_below HRW.out HB1.out); clear hv1 hb1)
      | (refine step_append_lies _ (by rfl) _ _ _ (by rfl) base 305 i0 _ 5 64 Tryz.underlying202 hi jz0 jz1 jz2 rfl (by omega) (.slice A3 n3 c3) n3 xs (by rfl) (HR1.out.alloc _) ⟨w1.heap.size, 0, none⟩ 1 1 [.int .i64 kd, .int .i64 k1', .int .i64 m1', .string s1', .slice A1' n1' c1'] (by rfl) (by rfl) (cell_newL _ _ _ _ rfl) (cells5_one _ _ _ _ _ _ _) (by omega) (by unfold maxLen; omega) (by omega) (by simp; omega) (w1.heap.size + 1) (by simp) ?_; intro g cap w5 hown5 hgrow5 hat5 hlt5; have hneb : some b ≠ (Value.slice A3 n3 c3).ownBlock := (fun e => (HN.out b (HE.out.symm.trans e.symm)).1 rfl); have hb1' : b < w1.heap.size := (by omega); have hb5 : b < (w1.alloc (.cells #[.int .i64 kd, .int .i64 k1', .int .i64 m1', .string s1', .slice A1' n1' c1'] 305)).heap.size := (by simp; omega); have HC5 := Lib.hid (show ∀ o, w5.cell? ⟨b, o, none⟩ = w.cell? ⟨b, o, none⟩ from fun o => (grown_cell (b := b) (o := o) hgrow5 hb5 hneb).trans ((World.cell?_alloc_lt _ _ ⟨b, o, none⟩ hb1').trans ((HB1.out.cell (p := ⟨b, o, none⟩) hbW).trans (World.cell?_of_block (a := ⟨b, o, none⟩) (HFW.out.block b hbw (fun h => h)))))); have HZ5 := Lib.hid (show ∀ o, w5.frozen? ⟨b, o, none⟩ = false from fun o => (grown_frozen (b := b) (o := o) hgrow5 hb5 hneb).trans ((grown_frozen (b := b) (o := o) (World.grownBy_alloc w1 _ none) hb1' (by simp)).trans ((grown_frozen (b := b) (o := o) (grown_below (g := none) HB1.out) hbW (by simp)).trans ((HFW.out.frozen hbw (fun h => h)).trans (fz o))))); have HG5 := Lib.hid hgrow5; have HO5 := Lib.hid hown5; have HA5 := Lib.hid hat5; have x3 := (HC5.out 3).trans k3; have y3 := HZ5.out 3; clear hown5 hgrow5 hat5))
  all_goals
    try simp only [Act.put, List.getElem_toArray, List.getElem_cons_zero, List.getElem_cons_succ, List.setIfInBounds_toArray, List.set_cons_zero, List.set_cons_succ]
    have x4 := (HC5.out 4).trans k4
    have x5 := (HC5.out 5).trans k5
    have x6 := (HC5.out 6).trans k6
    have x7 := (HC5.out 7).trans k7
    have x8 := (HC5.out 8).trans k8
    have x9 := (HC5.out 9).trans k9
    have x10 := (HC5.out 10).trans k10
    have x11 := (HC5.out 11).trans k11
    have yf := HZ5.out
    have hgb : g ≠ b := fun e => by
      rcases HA5.out with h | h
      · exact (HN.out b (HE.out.symm.trans (h.trans (by rw [e])))).1 rfl
      · omega
    have hg0 : ib = some g ∨ w0.heap.size ≤ g := by
      rcases HA5.out with h | h
      · exact .inl (HE.out.symm.trans h)
      · have := HF.out.size; exact .inr (by omega)
    have hgr : g ≠ rb := fun e => by
      rcases HA5.out with h | h
      · exact (HN.out rb (HE.out.symm.trans (h.trans (by rw [e])))).2 rfl
      · have := HF.out.size; omega
    have hbg : base ≤ g := (HO5.out.lt g rfl).1
    have HFw5 := Lib.hid (show Fr (fun k => ib = some k) w w5 from ((((HFW.out.weak (S2 := fun k => ib = some k) (fun _ h => h.elim)).trans' (Fr.of_below HB1.out)).alloc _).trans (Fr.of_grown (S := fun k => ib = some k) HG5.out (fun k hk => .inl (HE.out.symm.trans hk))) (fun k h => .inl h)))
    have x0 := (HC5.out 0).trans k0
    have x1 := (HC5.out 1).trans k1
    have x2 := (HC5.out 2).trans k2
    have FIN := Lib.hid (show ∀ W', Fr (fun k => k = b) w5 W' → (∀ o u, ([.iface 351 (.pointer (some ⟨rb, 0, none⟩)), .string d.nm, .slice A2 n2 c2, .slice (some ⟨g, 0, none⟩) (n3 + 1) cap, .int .i64 0, .int .i64 0, .string ⟨#[]⟩, .int .i64 0, .int .i64 0, .string ⟨#[]⟩, .slice none 0 0, .slice none 0 0] : List Value)[o]? = some u → W'.cell? ⟨b, o, none⟩ = some u) → (∀ o, W'.frozen? ⟨b, o, none⟩ = false) → RecPost X base T b rb ib { d with r := r', dk := 0, dn := 0 } w0 (.tuple #[]) (.returned (.tuple #[])) W' from fun W' h1 h2 h3 => by
      have hFw : Fr (fun k => ib = some k ∨ k = b) w W' := (HFw5.out.weak (fun _ h => .inl h)).trans (h1.weak (S2 := fun k => k = b) (fun _ h => h)) (fun _ h => .inl (.inr h))
      obtain ⟨Ar, cr, hs, hrun⟩ := HR.out
      refine ⟨rfl, some g, fun k hk => ?_, ⟨⟨Ar, cr, hs.fr ((HF.out.weak (S2 := fun k => k = b ∨ k = rb ∨ ib = some k) (fun _ h => .inr (.inl h))).trans' (hFw.weak (fun k hk => by rcases hk with h | h; exact .inr (.inr h); exact .inl h))) (fun k hk hd => ?_) (fun k hk hlt => ?_), hrun.fr hFw (fun h => ?_)⟩, h2 0 _ rfl, h2 1 _ rfl, ⟨_, _, _, h2 2 _ rfl, fun e => absurd e (by show ¬ ((0 : Int) = 7); decide)⟩, ⟨_, _, _, _, h2 3 _ rfl, h1.row HO5.out (fun k hk => ?_), by omega, rfl, fun e => absurd e (by show ¬ ((0 : Int) = 7); decide)⟩, h2 4 _ rfl, h2 5 _ rfl, h2 6 _ rfl, h2 7 _ rfl, h2 8 _ rfl, h2 9 _ rfl, h2 10 _ rfl, h2 11 _ rfl, h3, hnr, fun k hk => ?_, ⟨lb1, lb2⟩, fun e => absurd e (by show ¬ ((0 : Int) = 7); decide), hp⟩, ?_⟩
      · injection hk with hk; exact hk ▸ hg0
      · rcases hd with hd | hd | hd
        · exact hk.2.1 hd
        · exact hk.2.2.1 hd
        · exact hk.2.2.2 hd
      · have hkg : (some g : Option Nat) ≠ some k := fun e => by
          injection e with e
          rcases hg0 with h | h
          · exact hk.2.2.2 (by rw [h, e])
          · omega
        exact ⟨fun hx => by rcases hx with h | h; exact hk.1 h; exact hkg h, hk.2.1, hk.2.2.1, hkg⟩
      · rcases h with h | h
        · exact (HN.out _ h).2 rfl
        · exact hnr h.symm
      · injection hk with hk; exact fun e => hgb (show g = b from hk.trans e)
      · injection hk with hk; exact ⟨by omega, by omega⟩
      · exact (HF.out.weak (S2 := fun k => k = b ∨ k = rb ∨ ib = some k) (fun _ h => .inr (.inl h))).trans hFw (fun k hk => .inl (by rcases hk with h | h; exact .inr (.inr h); exact .inl h)))
    clear hgb hg0 hgr hbg
    go_wp2_with fail
    refine bodyPost_end (results_none rfl _ _ _) rfl (FIN.out _ ?_ ?_ ?_)
    · (repeat' first | with_reducible exact Fr.refl (fun k => k = _) _ | (with_reducible refine Fr.setAt ?_ _) | with_reducible refine Fr.alloc ?_ _ | with_reducible refine Fr.drewN ?_ _ | with_reducible refine Fr.drew ?_)
    · intro o u ho
      rcases o with _ | _ | _ | _ | _ | _ | _ | _ | _ | _ | _ | _ | o
      all_goals (simp at ho)
      all_goals (subst ho; simp [go_sem, x0, x1, x2, x3, x4, x5, x6, x7, x8, x9, x10, x11])
    · intro o; simp [go_sem, yf]
end Go.Proofs.YthgbcgphkddmgaaGreat
namespace Go.Proofs.YthgbcgphkddmgaaGreat
open Go.RowKit Go.Maps
set_option linter.unusedVariables false
set_option linter.unusedSimpArgs false
theorem cell4_new (w : World) (a b c d : Value) (t : TypeId) (j : Nat) (u : Value) (h : [a, b, c, d][j]? = some u) : (w.alloc (.cells #[a, b, c, d] t)).drew.cell? ⟨w.heap.size, j, none⟩ = some u := by
  have := cell_four_new w a b c d t j u h
  rw [Addr.add_lit, Nat.zero_add] at this
  exact this
theorem meth_late (rb : Nat) : ∀ w, Sem.run Tryz.prog (method 455 351 (.pointer (some ⟨rb, 0, none⟩)) "Late") w = .ok (257, .pointer (some ⟨rb, 0, none⟩)) w := fun _ => by kernel_rfl
theorem meth_offer (rb : Nat) : ∀ w, Sem.run Tryz.prog (method 455 351 (.pointer (some ⟨rb, 0, none⟩)) "Offer") w = .ok (258, .pointer (some ⟨rb, 0, none⟩)) w := fun _ => by kernel_rfl
/-- nothing but new memory -/
theorem rec_same {X : Nat → Prop} {base T b rb : Nat} {ib : Option Nat} {d : DiaS} {w w' : World} {v : Value} (H : DiaAt w X base T b rb ib d) (hX : ∀ k, ib = some k → X k) (hf : Fr (fun _ => False) w w') : RecPost X base T b rb ib d w v (.returned v) w' :=
  ⟨rfl, ib, fun k hk => .inl hk, H.fr hf (fun _ h => h.elim) (fun k hk => .inl (by rcases hk with h | h; exact h; exact hX k h)) (fun _ h => h.elim) (by omega) (fun h => h) (fun h => h) (fun _ _ h => h), hf.weak fun _ h => h.elim⟩
theorem DiaAt.rerun {w w' : World} {X : Nat → Prop} {base T b rb : Nat} {ib : Option Nat} {d : DiaS} (h : DiaAt w X base T b rb ib d) (hf : Fr (fun k => k = rb) w w') (hX : X rb) (hr : ∃ A c, StAt w' (fun k => ¬ X k ∧ k ≠ b ∧ k ≠ rb ∧ ib ≠ some k) A c d.r.st ∧ RunAt w' rb A c d.r) : DiaAt w' X base T b rb ib d := by
  have h1 : ¬ b = rb := h.nr
  have h3 : ∀ k, ib = some k → ¬ k = rb := fun k hk => (h.ni k hk).2
  obtain ⟨A2, n2, c2, s1, s2⟩ := h.c2
  obtain ⟨A3, n3, c3, xs, t1, t2, t3, t4, t5⟩ := h.c3
  exact ⟨hr, hf.cell h.c0 h1, hf.cell h.c1 h1, ⟨A2, n2, c2, hf.cell s1 h1, fun e => by obtain ⟨u1, u2, u3, u4⟩ := s2 e; exact ⟨u1, u2, u3, u4.fr (X' := X) hf (fun k hk => hk ▸ hX) (fun k hk => .inl hk)⟩⟩,
    ⟨A3, n3, c3, xs, hf.cell t1 h1, hf.row t2 (fun k hk => h3 k (t4.symm.trans hk)), t3, t4, t5⟩, hf.cell h.c4 h1, hf.cell h.c5 h1, hf.cell h.c6 h1, hf.cell h.c7 h1, hf.cell h.c8 h1, hf.cell h.c9 h1, hf.cell h.c10 h1, hf.cell h.c11 h1,
    fun o => (hf.frozen (World.block_lt_of_cell? w _ h.c0) h1).trans (h.fz o), h.nr, h.ni, h.lb, h.wt, h.pl⟩
set_option maxRecDepth 100000 in
set_option maxHeartbeats 4000000 in
theorem dlate_any (X : Nat → Prop) (base T b rb : Nat) (ib : Option Nat) (d : DiaS) (w : World) (H : DiaAt w X base T b rb ib d) (hI : ∀ k, ib = some k → X k) (hT : T < 1000000000000) :
    Calls Tryz.prog 160 #[.pointer (some ⟨b, 0, none⟩)] w (RecPost X base T b rb ib (lateD d) w (.tuple #[])) := by
  have HH := Lib.hid H
  have hm := meth_late rb
  have c0 := H.c0
  have c4 := H.c4
  have c5 := H.c5
  have fz := H.fz
  obtain ⟨hlt, hlr, _⟩ := H.lt
  have hnr := H.nr
  have HI := Lib.hid hI
  clear H hI
  by_cases hk : d.dk = 7
  · by_cases hn : 0 ≤ d.dn
    · have HE := Lib.hid (show lateD d = { d with r := lateR d.r, dk := 0, dn := 0 } by unfold lateD; rw [if_pos ⟨hk, hn⟩])
      have hw := HH.out.wt hk
      rw [hk] at c4
      have HK := Lib.hid hk
      obtain ⟨A, c, hs, hrun⟩ := HH.out.run
      have HS := Lib.hid hs
      have HRun := Lib.hid hrun
      have HW := Lib.hid hw
      clear hk hs hrun hw
      go_enter Tryz.func160, Tryz.ntmps160
      go_wp2_with fail
      refine (late_any rb c A d.r w HRun.out).mono ?_
      rintro e w1 ⟨rfl, hr1, hf1⟩
      have HR1 := Lib.hid hr1
      have HF1 := Lib.hid hf1
      clear hr1 hf1
      go_wp2_with fail
      refine (record_any X base T b rb ib d (lateR d.r) w w1 3 (vLeaf 0 0) _ (fun _ => True) HH.out hT HF1.out ⟨A, c, HS.out, HR1.out⟩ HH.out.pl (leaf_V w1 _ 0 0) (by simp [vLeaf, VT.many, sumTo])).mono ?_
      rintro e w2 ⟨rfl, hp⟩
      go_wp2_with fail
      refine bodyPost_end (results_none rfl _ _ _) rfl ?_
      rw [HE.out]
      exact ⟨rfl, hp⟩
    · have HE := Lib.hid (show lateD d = d by unfold lateD; rw [if_neg (fun h => hn h.2)])
      rw [hk] at c4
      clear hk
      go_enter Tryz.func160, Tryz.ntmps160
      go_wp2_with fail
      refine bodyPost_end (results_none rfl _ _ _) rfl ?_
      rw [HE.out]
      exact rec_same HH.out HI.out (Fr.refl _ w)
  · have HE := Lib.hid (show lateD d = d by unfold lateD; rw [if_neg (fun h => hk h.1)])
    have hk' : (d.dk == 7) = false := by simpa using hk
    clear hk
    go_enter Tryz.func160, Tryz.ntmps160
    go_wp2_with fail
    refine bodyPost_end (results_none rfl _ _ _) rfl ?_
    rw [HE.out]
    exact rec_same HH.out HI.out (Fr.refl _ w)
end Go.Proofs.YthgbcgphkddmgaaGreat
namespace Go.Proofs.YthgbcgphkddmgaaGreat
open Go.RowKit Go.Maps
set_option linter.unusedVariables false
set_option linter.unusedSimpArgs false
theorem offerR_no {r : RunS} {k x : Int} (h : (offerR r k x).2 = false) : (offerR r k x).1 = r := by
  unfold offerR at h ⊢
  split
  · rename_i h1; rw [if_pos h1] at h; cases h
  · rfl
theorem offerR_st (r : RunS) (k x : Int) : (offerR r k x).1.st = r.st := by
  unfold offerR
  split <;> rfl
theorem offerR_ok {r : RunS} (h : RunOk r) (k x : Int) : RunOk (offerR r k x).1 := by
  unfold offerR
  split
  · exact ⟨h.p3, h.len, h.wf⟩
  · exact h
def DofPost (X : Nat → Prop) (base T b rb : Nat) (ib : Option Nat) (d : DiaS) (t : VT) (w : World) (e : Ending) (w' : World) : Prop :=
  ((offerD d t).2 = false ∧ e = .returned (.bool false) ∧ DiaAt w' X base T b rb ib d ∧ Fr (fun k => k = b ∨ k = rb ∨ ib = some k) w w') ∨ ((offerD d t).2 = true ∧ RecPost X base T b rb ib (offerD d t).1 w (.bool true) e w')
set_option maxRecDepth 100000 in
set_option maxHeartbeats 4000000 in
theorem doffer_any (X : Nat → Prop) (base T b rb : Nat) (ib : Option Nat) (d : DiaS) (t : VT) (cs : List Value) (S : Nat → Prop) (w : World) (H : DiaAt w X base T b rb ib d) (hI : ∀ k, ib = some k → X k) (hXr : X rb) (hT : T < 1000000000000) (hv : t.isV w S cs) (hSX : ∀ k, S k → k ≠ rb) (hmany : t.many ≤ 4194304) :
    Calls Tryz.prog 159 #[.pointer (some ⟨b, 0, none⟩), .agg cs.toArray] w (DofPost X base T b rb ib d t w) := by
  have HH := Lib.hid H
  have hm := meth_offer rb
  have c0 := H.c0
  have c4 := H.c4
  have fz := H.fz
  obtain ⟨hlt, hlr, _⟩ := H.lt
  have hnr := H.nr
  have HI := Lib.hid hI
  have HXR := Lib.hid hXr
  have HV := Lib.hid hv
  obtain ⟨k, m, s, A', n', c', hcs⟩ := isV_cells hv
  have HKN := Lib.hid (show vkind t = k ∧ vnum t = m by
    cases t with
    | none => exact hv.elim
    | node a b c d e =>
      obtain ⟨A, c, e, _⟩ := hv
      rw [hcs] at e
      simp at e
      exact ⟨e.1.symm, e.2.1.symm⟩)
  subst hcs
  clear H hI hXr hv
  by_cases hk : d.dk = 7
  · have hw := HH.out.wt hk
    have HE := Lib.hid (show offerD d t = if (offerR d.r k m).2 then ({ d with r := (offerR d.r k m).1, dk := 0, dn := 0 }, true) else (d, false) by unfold offerD; rw [if_pos hk, HKN.out.1, HKN.out.2])
    rw [hk] at c4
    obtain ⟨A, c, hs, hrun⟩ := HH.out.run
    have HS := Lib.hid hs
    have HRun := Lib.hid hrun
    have HW := Lib.hid hw
    have hne : w.heap.size ≠ rb := by omega
    clear hk hs hrun hw
    go_enter Tryz.func159, Tryz.ntmps159
    go_wp2_with fail
    go_cut [19] (fun v wx => v = .bool (!(offerR d.r k m).2) ∧ Hid (RunAt wx rb A c (offerR d.r k m).1) ∧ Hid (Fr (fun k => k = rb) w wx) ∧ (∀ j u, ([.int .i64 k, .int .i64 m, .string s, .slice A' n' c'] : List Value)[j]? = some u → wx.cell? ⟨w.heap.size, j, none⟩ = some u))
    case first =>
      go_region_with (first | (go_at_call 258; refine (offer_any rb c A A' n' c' d.r k m s _ (HRun.out.fr (S := fun _ => False) (((Fr.refl _ w).alloc _).drew) (fun h => h))).mono ?_; rintro e w1 ⟨rfl, hr1, hf1⟩; have HR1 := Lib.hid hr1; have HF1 := Lib.hid (((Fr.refl (fun k => k = rb) w).alloc _).drew.trans' hf1); have HF2 := Lib.hid hf1; clear hr1 hf1))
      all_goals
        go_wp2_with fail
        go_meet
        refine ⟨rfl, HR1, HF1, fun j u hj => HF2.out.cell (cell4_new w _ _ _ _ _ j u hj) hne⟩
    case rest =>
      obtain ⟨rfl, HR1, HF1, hbx⟩ := hcut
      have q0 := hbx 0 _ rfl
      have q1 := hbx 1 _ rfl
      have q2 := hbx 2 _ rfl
      have q3 := hbx 3 _ rfl
      clear hbx
      rcases hb : (offerR d.r k m).2 with _ | _
      · have HB := Lib.hid hb
        have HE2 := Lib.hid (HE.out.trans (if_neg (by rw [hb]; decide)))
        clear hb
        go_wp2_with fail
        go_ret
        refine .inl ⟨by rw [HE2.out], rfl, ?_, HF1.out.weak (fun k h => .inr (.inl h))⟩
        have hr := HR1.out
        rw [offerR_no HB.out] at hr
        exact HH.out.rerun HF1.out HXR.out ⟨A, c, HS.out.fr HF1.out (fun k hk e => hk.2.2.1 e) (fun _ h _ => h), hr⟩
      · have HB := Lib.hid hb
        have HE2 := Lib.hid (HE.out.trans (if_pos hb))
        clear hb
        go_wp2_with fail
        refine (record_any X base T b rb ib d (offerR d.r k m).1 w wc 2 t _ S HH.out hT HF1.out ⟨A, c, by rw [offerR_st]; exact HS.out, HR1.out⟩ (offerR_ok HH.out.pl k m) ?_ hmany).mono ?_
        · exact isV_frame (by have := HF1.out.size; omega) (fun b hs hlt => ⟨hs, HF1.out.block b hlt (fun e => hSX b hs e)⟩) HV.out
        rintro e w2 ⟨rfl, hp⟩
        go_wp2_with fail
        go_ret
        exact .inr ⟨by rw [HE2.out], by rw [HE2.out]; exact ⟨rfl, hp⟩⟩
  · have HE := Lib.hid (show offerD d t = (d, false) by unfold offerD; rw [if_neg hk])
    have hk' : (d.dk == 7) = false := by simpa using hk
    have hk2 : (d.dk != 7) = true := by simpa using hk
    have hk3 : decide (d.dk = 7) = false := decide_eq_false hk
    clear hk
    go_enter Tryz.func159, Tryz.ntmps159
    go_wp2_with fail
    go_region
    all_goals
      go_wp2_with fail
      go_ret
      have hfw : Fr (fun _ => False) w ((w.alloc (.cells #[.int .i64 k, .int .i64 m, .string s, .slice A' n' c'] 36)).drewN 1) := ((Fr.refl _ w).alloc _).drewN 1
      exact .inl ⟨by rw [HE.out], rfl, HH.out.fr (X' := X) hfw (fun _ h => h.elim) (fun k hk => .inl hk) (fun _ h => h.elim) (Nat.le_refl _) (fun h => h) (fun h => h) (fun _ _ h => h), hfw.weak (fun _ h => h.elim)⟩
end Go.Proofs.YthgbcgphkddmgaaGreat
namespace Go.Proofs.YthgbcgphkddmgaaGreat
open Go.RowKit Go.Maps
set_option linter.unusedVariables false
set_option linter.unusedSimpArgs false
theorem meth_run (rb : Nat) : ∀ w, Sem.run Tryz.prog (method 455 351 (.pointer (some ⟨rb, 0, none⟩)) "Run") w = .ok (259, .pointer (some ⟨rb, 0, none⟩)) w := fun _ => by kernel_rfl
theorem meth_top (rb : Nat) : ∀ w, Sem.run Tryz.prog (method 455 351 (.pointer (some ⟨rb, 0, none⟩)) "Top") w = .ok (260, .pointer (some ⟨rb, 0, none⟩)) w := fun _ => by kernel_rfl
set_option maxRecDepth 100000 in
set_option maxHeartbeats 400000 in
theorem values_any (n c : Nat) (A : Option Addr) (arg : Nat → VT) (S : Nat → Prop) (w : World) (hn : n ≤ 4194304) (hV : RdV w S A n arg) (hm : ∀ i, i < n → (arg i).many ≤ 4194304) : Calls Tryz.prog 112 #[.slice A n c] w (EachPost n arg w) := by
  have HC := Lib.hid (each_any n c A arg S w hn hV hm (fun i _ => copy_any _))
  clear hV hm
  go_enter Tryz.func112, Tryz.ntmps112
  go_wp2_with fail
  refine HC.out.mono ?_
  rintro e w1 ⟨v, C, rfl, h1, h2, h3, h4⟩
  have H1 := Lib.hid h1
  have H3 := Lib.hid h3
  clear h1 h3
  go_wp2_with fail
  go_ret
  exact ⟨v, C, rfl, H1.out, h2, H3.out, h4⟩
/-- what Each made, as values that lie in a slice -/
theorem each_rdv {w : World} {n base : Nat} {arg : Nat → VT} {v : Value} {C : Nat → List Value} (h1 : w.ownsRow base 36 4 v n (flatC C n)) (h2 : ∀ i, (C i).length = 4) (h3 : ∀ i, i < n → (arg i).isV w (fun b => base ≤ b ∧ some b ≠ v.ownBlock) (C i)) : ∃ A c, v = .slice A n c ∧ n ≤ c ∧ c ≤ 9223372036854775807 ∧ RdV w (fun b => base ≤ b) A n arg := by
  obtain ⟨A, c, rfl, hc1, hc2, hc3⟩ := own_any h1
  refine ⟨A, c, rfl, hc1, hc2, fun h0 => ?_⟩
  obtain ⟨g, cap, hv, hb, hlt, _⟩ := own_form h1 h0
  injection hv with e1 e2 e3
  subst e1 e3
  exact ⟨g, 0, rfl, hlt, hb, C, fun i hi => ⟨isV_mono (h3 i hi) (fun b _ hb => hb.1), fun j u hu => by
    have hj : j < 4 := by
      rcases Nat.lt_or_ge j 4 with hh | hh
      · exact hh
      · rw [List.getElem?_eq_none (by rw [h2]; exact hh)] at hu; cases hu
    rw [Nat.zero_add, own_cellC h1 h2 hi hj]
    exact hu⟩⟩
theorem dia_mk {w W : World} {X : Nat → Prop} {base T T' b rb : Nat} {ib ib' : Option Nat} {d : DiaS} {r' : RunS} {k m : Int} {A : Option Addr} {c : Nat} {sA iA : Option Addr} {sn sc n ic : Nat} {xs : List Value} (H : DiaAt w X base T b rb ib d) (hs : StAt W (fun k => ¬ X k ∧ k ≠ b ∧ k ≠ rb ∧ ib' ≠ some k) A c r'.st) (hr : RunAt W rb A c r')
    (hc : ∀ q u, ([.iface 351 (.pointer (some ⟨rb, 0, none⟩)), .string d.nm, .slice sA sn sc, .slice iA n ic, .int .i64 k, .int .i64 m, .string ⟨#[]⟩, .int .i64 0, .int .i64 0, .string ⟨#[]⟩, .slice none 0 0, .slice none 0 0] : List Value)[q]? = some u → W.cell? ⟨b, q, none⟩ = some u)
    (hz : ∀ q, W.frozen? ⟨b, q, none⟩ = false) (h2 : k = 7 → sn = r'.st.length ∧ sn ≤ sc ∧ sc ≤ 9223372036854775807 ∧ RdV W (fun k => ¬ X k) sA sn (topV r')) (h3 : W.ownsRow base 305 5 (.slice iA n ic) n xs) (hn : n ≤ T') (hb : (Value.slice iA n ic).ownBlock = ib') (h7 : k = 7 → n = 0 ∧ iA = none ∧ ic = 0)
    (hi : ∀ k, ib' = some k → k ≠ b ∧ k ≠ rb) (hw : k = 7 → r'.waiting = true) (ho : RunOk r') : DiaAt W X base T' b rb ib' { d with r := r', dk := k, dn := m } :=
  ⟨⟨A, c, hs, hr⟩, hc 0 _ rfl, hc 1 _ rfl, ⟨_, _, _, hc 2 _ rfl, h2⟩, ⟨_, _, _, _, hc 3 _ rfl, h3, hn, hb, h7⟩, hc 4 _ rfl, hc 5 _ rfl, hc 6 _ rfl, hc 7 _ rfl, hc 8 _ rfl, hc 9 _ rfl, hc 10 _ rfl, hc 11 _ rfl, hz, H.nr, hi, H.lb, hw, ho⟩
theorem DiaAt.rerun2 {w w' : World} {X : Nat → Prop} {base T b rb : Nat} {ib : Option Nat} {d : DiaS} {r' : RunS} (h : DiaAt w X base T b rb ib d) (hf : Fr (fun k => k = rb) w w') (hX : X rb) (hr : ∃ A c, StAt w' (fun k => ¬ X k ∧ k ≠ b ∧ k ≠ rb ∧ ib ≠ some k) A c r'.st ∧ RunAt w' rb A c r') (ho : RunOk r') (h7 : d.dk = 7 → r' = d.r) : DiaAt w' X base T b rb ib { d with r := r' } := by
  by_cases e : d.dk = 7
  · have := h7 e
    subst this
    exact h.rerun hf hX hr
  · have h1 : ¬ b = rb := h.nr
    have h3 : ∀ k, ib = some k → ¬ k = rb := fun k hk => (h.ni k hk).2
    obtain ⟨A2, n2, c2, s1, s2⟩ := h.c2
    obtain ⟨A3, n3, c3, xs, t1, t2, t3, t4, t5⟩ := h.c3
    exact ⟨hr, hf.cell h.c0 h1, hf.cell h.c1 h1, ⟨A2, n2, c2, hf.cell s1 h1, fun e2 => absurd e2 e⟩,
      ⟨A3, n3, c3, xs, hf.cell t1 h1, hf.row t2 (fun k hk => h3 k (t4.symm.trans hk)), t3, t4, t5⟩, hf.cell h.c4 h1, hf.cell h.c5 h1, hf.cell h.c6 h1, hf.cell h.c7 h1, hf.cell h.c8 h1, hf.cell h.c9 h1, hf.cell h.c10 h1, hf.cell h.c11 h1,
      fun o => (hf.frozen (World.block_lt_of_cell? w _ h.c0) h1).trans (h.fz o), h.nr, h.ni, h.lb, fun e2 => absurd e2 e, ho⟩
/-- a world in the midst of Run -/
structure DM (w w1 : World) (b rb : Nat) (A : Option Addr) (c : Nat) (r' : RunS) (o : OutS) (nm : ByteArray) (v2 v3 : Value) (wx : World) : Prop where
  cb : ∀ q u, ([.iface 351 (.pointer (some ⟨rb, 0, none⟩)), .string nm, v2, v3, .int .i64 o.kind, .int .i64 o.num, .string ⟨#[]⟩, .int .i64 0, .int .i64 0, .string ⟨#[]⟩, .slice none 0 0, .slice none 0 0] : List Value)[q]? = some u → wx.cell? ⟨b, q, none⟩ = some u
  fb : ∀ q, wx.frozen? ⟨b, q, none⟩ = false
  cy : ∀ j u, ([.int .i64 0, .int .i64 0, .string ⟨#[]⟩, .int .i64 0, .int .i64 0, .string ⟨#[]⟩, .slice none 0 0, .slice none 0 0] : List Value)[j]? = some u → wx.cell? ⟨w.heap.size, j, none⟩ = some u
  fy : ∀ j, wx.frozen? ⟨w.heap.size, j, none⟩ = false
  co : ∀ j u, (outC o)[j]? = some u → wx.cell? ⟨w1.heap.size, j, none⟩ = some u
  run : RunAt wx rb A c r'
  fr : Fr (fun k => k = b ∨ k = rb) w wx
  lt : w1.heap.size < wx.heap.size
theorem DM.below {w w1 : World} {b rb : Nat} {A : Option Addr} {c : Nat} {r' : RunS} {o : OutS} {nm : ByteArray} {v2 v3 : Value} {wx wy : World} (h : DM w w1 b rb A c r' o nm v2 v3 wx) (hb : Below wx.heap.size wx wy) (hbw : b < wx.heap.size) (hw : w.heap.size < wx.heap.size) : DM w w1 b rb A c r' o nm v2 v3 wy := by
  have hf := Fr.of_below (S := fun _ => False) hb
  exact ⟨fun q u h' => hf.cell (h.cb q u h') (fun h => h), fun q => (hf.frozen hbw (fun h => h)).trans (h.fb q), fun q u h' => hf.cell (h.cy q u h') (fun h => h), fun q => (hf.frozen hw (fun h => h)).trans (h.fy q), fun q u h' => hf.cell (h.co q u h') (fun h => h), h.run.fr hf (fun h => h), h.fr.trans' (hf.weak (fun _ h => h.elim)), Nat.lt_of_lt_of_le h.lt hb.size⟩
def last8 (W : World) (b : Nat) (k n : Int) : World := (((((((W.setCell ⟨b, 4, none⟩ (.int .i64 k)).setCell ⟨b, 5, none⟩ (.int .i64 n)).setCell ⟨b, 6, none⟩ (.string ⟨#[]⟩)).setCell ⟨b, 7, none⟩ (.int .i64 0)).setCell ⟨b, 8, none⟩ (.int .i64 0)).setCell ⟨b, 9, none⟩ (.string ⟨#[]⟩)).setCell ⟨b, 10, none⟩ (.slice none 0 0)).setCell ⟨b, 11, none⟩ (.slice none 0 0)
theorem blk_setN {W wr : World} {b k o : Nat} {u : Value} (h : W.heap[b]? = wr.heap[b]?) (hne : b ≠ k) : (W.setCell ⟨k, o, none⟩ u).heap[b]? = wr.heap[b]? := (Below.heap_setCell W ⟨k, o, none⟩ u b hne).trans h
theorem Fr.setIn {S : Nat → Prop} {b o : Nat} {w w1 : World} (h : Fr S w w1) (hb : S b) (u : Value) : Fr S w (w1.setCell ⟨b, o, none⟩ u) := h.set (Or.inl hb) u
def DrunPost (X : Nat → Prop) (base T b rb : Nat) (ib : Option Nat) (p : DiaS × OutS) (w0 : World) (e : Ending) (w' : World) : Prop :=
  e = .returned (.agg (outC p.2).toArray) ∧ ∃ ib', (ib' = ib ∨ ib' = none) ∧ DiaAt w' X base T b rb ib' p.1 ∧ Fr (fun k => k = b ∨ k = rb ∨ ib = some k) w0 w' ∧ (p.2.kind = 7 → p.1.dk = 7)
set_option maxRecDepth 100000 in
set_option maxHeartbeats 4000000 in
theorem drun_any (X : Nat → Prop) (base T b rb f : Nat) (ib : Option Nat) (d : DiaS) (w : World) (H : DiaAt w X base T b rb ib d) (hX : ∀ k, X k → k < w.heap.size) (hI : X b ∧ X rb) (hf : f ≤ 1000000) :
    Calls Tryz.prog 117 #[.pointer (some ⟨b, 0, none⟩), .int .i64 (f : Int)] w (DrunPost X base T b rb ib (runD f d) w) := by
  have HH := Lib.hid H
  have hm := meth_run rb
  have hm2 := meth_top rb
  have c0 := H.c0
  have fz := H.fz
  obtain ⟨hlt, hlr, _⟩ := H.lt
  have hnr := H.nr
  have HX := Lib.hid hX
  have HI := Lib.hid hI
  obtain ⟨A, c, hs, hrun⟩ := HH.out.run
  have HS := Lib.hid hs
  have HRun := Lib.hid hrun
  have HRok := Lib.hid (HH.out.pl.run f)
  have HR7 := Lib.hid (show (runR f d.r).2.kind = 7 → (runR f d.r).1.waiting = true from fun e => by
    rcases runR_kind f d.r with h | h | h | h
    · rw [h] at e; cases e
    · rw [h] at e; cases e
    · rw [h] at e; cases e
    · exact h.2)
  have HST := Lib.hid (runR_st f d.r).1
  have HD1 := Lib.hid (show (runR f d.r).2.kind = 1 → runD f d = ({ d with r := (runR f d.r).1 }, (runR f d.r).2) from fun e => by unfold runD; simp only []; rw [if_pos e])
  have HD2 := Lib.hid (show ¬ (runR f d.r).2.kind = 1 → runD f d = ({ d with r := (runR f d.r).1, dk := (runR f d.r).2.kind, dn := (runR f d.r).2.num }, (runR f d.r).2) from fun e => by unfold runD; simp only []; rw [if_neg e])
  have HWt := Lib.hid (runR_fuel f d.r)
  clear H hX hI hs hrun
  go_enter Tryz.func117, Tryz.ntmps117
  go_wp2_with fail
  refine (run_any rb c f A _ d.r _ (HRun.out.fr (S := fun _ => False) ((Fr.refl _ w).alloc _) (fun h => h)) (HS.out.fr ((Fr.refl (fun _ => False) w).alloc _) (fun _ _ h => h) (fun _ h _ => h)) (fun k hk => hk.2.2.1) HH.out.pl hf).mono ?_
  generalize hp : runR f d.r = p at *
  clear hp
  obtain ⟨r', o⟩ := p
  dsimp only at *
  rintro e w1 ⟨rfl, hr1, hf1⟩
  have HF1 := Lib.hid (((Fr.refl (fun k => k = rb) w).alloc _).trans' hf1)
  have HFr := HF1
  have HR1 := Lib.hid hr1
  have hz1 := hf1.size
  simp at hz1
  have x0 := HF1.out.cell HH.out.c0 hnr
  have x1 := HF1.out.cell HH.out.c1 hnr
  obtain ⟨A2, n2, c2, e2, f2⟩ := HH.out.c2
  obtain ⟨A3, n3, c3, xs, e3, f3, f4, f5, f6⟩ := HH.out.c3
  have x2 := HF1.out.cell e2 hnr
  have x3 := HF1.out.cell e3 hnr
  have x4 := HF1.out.cell HH.out.c4 hnr
  have x5 := HF1.out.cell HH.out.c5 hnr
  have x6 := HF1.out.cell HH.out.c6 hnr
  have x7 := HF1.out.cell HH.out.c7 hnr
  have x8 := HF1.out.cell HH.out.c8 hnr
  have x9 := HF1.out.cell HH.out.c9 hnr
  have x10 := HF1.out.cell HH.out.c10 hnr
  have x11 := HF1.out.cell HH.out.c11 hnr
  have xf : ∀ q, w1.frozen? ⟨b, q, none⟩ = false := fun q => (HF1.out.frozen hlt hnr).trans (fz q)
  have hnq : w.heap.size ≠ rb := by omega
  have hqb : w.heap.size ≠ b := by omega
  have hbq : b ≠ w.heap.size := by omega
  have hb1 : b < w1.heap.size := by omega
  have hq1 : w.heap.size < w1.heap.size := by omega
  have HQ := Lib.hid (show ∀ j u, ([.int .i64 0, .int .i64 0, .string ⟨#[]⟩, .int .i64 0, .int .i64 0, .string ⟨#[]⟩, .slice none 0 0, .slice none 0 0] : List Value)[j]? = some u → w1.cell? ⟨w.heap.size, j, none⟩ = some u from fun j u hj => hf1.cell (by have := cell_newL w _ 206 _ rfl j u hj; rw [Addr.add_lit, Nat.zero_add] at this; exact this) hnq)
  have y0 := HQ.out 0 _ rfl
  have y1 := HQ.out 1 _ rfl
  have y2 := HQ.out 2 _ rfl
  have y3 := HQ.out 3 _ rfl
  have y4 := HQ.out 4 _ rfl
  have y5 := HQ.out 5 _ rfl
  have y6 := HQ.out 6 _ rfl
  have y7 := HQ.out 7 _ rfl
  have yf : ∀ j, w1.frozen? ⟨w.heap.size, j, none⟩ = false := fun j => (hf1.frozen (by simp) hnq).trans (by simp [go_sem])
  have HC2 := Lib.hid f2
  have HC3 := Lib.hid (And.intro f3 (And.intro f4 (And.intro f5 f6)))
  clear hr1 hf1 c0 fz e2 e3 f2 f3 f4 f5 f6
  simp only [outC]
  by_cases h1 : o.kind = 1
  · have H1 := Lib.hid h1
    rw [h1]
    clear h1
    go_wp2_with fail
    refine bodyPost_ret (outC_results (o := o) (q := w.heap.size) (fun j u hj => ?_) rfl rfl) rfl ⟨?_, ib, .inl rfl, ?_, ?_, ?_⟩
    · unfold outC at hj
      rw [H1.out] at hj
      rcases j with _ | _ | _ | _ | _ | _ | _ | _ | j
      all_goals (simp at hj)
      all_goals (subst hj; simp [go_sem, hq1, y0, y1, y2, y3, y4, y5, y6, y7])
    · rw [HD1.out H1.out]
    · rw [HD1.out H1.out]
      refine DiaAt.rerun2 HH.out ?_ HI.out.2 ⟨A, c, by rw [HST.out]; exact HS.out.fr (D := fun k => k = rb) (by (repeat' first | with_reducible exact HFr.out | (with_reducible refine Fr.setEq ?_ _) | (with_reducible refine Fr.setNew ?_ _) | with_reducible refine Fr.alloc ?_ _ | with_reducible refine Fr.drewN ?_ _ | with_reducible refine Fr.drew ?_)) (fun k hk e => hk.2.2.1 e) (fun _ h _ => h), HR1.out.fr (S := fun k => k = w.heap.size) ?_ (fun e => hnq e.symm)⟩ HRok.out (fun _ => HWt.out H1.out)
      · (repeat' first | with_reducible exact HFr.out | (with_reducible refine Fr.setEq ?_ _) | (with_reducible refine Fr.setNew ?_ _) | with_reducible refine Fr.alloc ?_ _ | with_reducible refine Fr.drewN ?_ _ | with_reducible refine Fr.drew ?_)
      · (repeat' first | with_reducible exact Fr.refl (fun k => k = _) _ | (with_reducible refine Fr.setAt ?_ _) | with_reducible refine Fr.alloc ?_ _ | with_reducible refine Fr.drewN ?_ _ | with_reducible refine Fr.drew ?_)
    · refine Fr.weak (S := fun k => k = rb) ?_ (fun k h => .inr (.inl h))
      (repeat' first | with_reducible exact HFr.out | (with_reducible refine Fr.setEq ?_ _) | (with_reducible refine Fr.setNew ?_ _) | with_reducible refine Fr.alloc ?_ _ | with_reducible refine Fr.drewN ?_ _ | with_reducible refine Fr.drew ?_)
    · rw [HD1.out H1.out]
      intro e
      exact absurd (H1.out.symm.trans e) (by decide)
  · have h1' : (o.kind == 1) = false := by simpa using h1
    by_cases h7 : o.kind = 7
    · have H7 := Lib.hid h7
      have H1 := Lib.hid h1
      rw [h7]
      clear h7 h1 h1'
      go_wp2_with fail
      have hw7 := HR7.out H7.out
      have HW7 := Lib.hid hw7
      obtain ⟨W1, hW1⟩ : ∃ W1, W1 = (last8 w1 b 7 o.num).alloc (.cells #[.int .i64 7, .int .i64 o.num, .string o.text, .int .i64 o.vk, .int .i64 o.vn, .string ⟨#[]⟩, .slice none 0 0, .slice none 0 0] 206) := ⟨_, rfl⟩
      unfold last8 at hW1
      have hfr0 : Fr (fun k => k = b ∨ k = rb) w w1 := HF1.out.weak (fun _ h => .inr h)
      have HFr := Lib.hid hfr0
      have HDM := Lib.hid (show DM w w1 b rb A c r' o d.nm (.slice A2 n2 c2) (.slice A3 n3 c3) W1 by
        rw [hW1]
        refine ⟨fun q u hq => ?_, fun q => ?_, fun q u hq => ?_, fun q => ?_, fun q u hq => ?_, HR1.out.fr (S := fun k => k = b) ?_ (fun e => by omega), ?_, by simp⟩
        · rw [H7.out] at hq
          rcases q with _ | _ | _ | _ | _ | _ | _ | _ | _ | _ | _ | _ | q
          all_goals (simp at hq)
          all_goals (subst hq; simp [go_sem, hb1, hq1, hbq, hqb, x0, x1, x2, x3, x4, x5, x6, x7, x8, x9, x10, x11])
        · simp [go_sem, hb1, hq1, hbq, hqb, xf]
        · rcases q with _ | _ | _ | _ | _ | _ | _ | _ | q
          all_goals (simp at hq)
          all_goals (subst hq; simp [go_sem, hb1, hq1, hbq, hqb, y0, y1, y2, y3, y4, y5, y6, y7])
        · simp [go_sem, hb1, hq1, hbq, hqb, yf]
        · unfold outC at hq
          rw [H7.out] at hq
          rcases q with _ | _ | _ | _ | _ | _ | _ | _ | q
          all_goals (simp at hq)
          all_goals (subst hq; simp [go_sem])
        · (repeat' first | with_reducible exact Fr.refl (fun k => k = _) _ | (with_reducible refine Fr.setAt ?_ _) | with_reducible refine Fr.alloc ?_ _ | with_reducible refine Fr.drewN ?_ _ | with_reducible refine Fr.drew ?_)
        · (repeat' first | with_reducible exact HFr.out | (with_reducible refine Fr.setIn ?_ (by first | exact Or.inl rfl | exact Or.inr rfl) _) | (with_reducible refine Fr.setNew ?_ _) | with_reducible refine Fr.alloc ?_ _ | with_reducible refine Fr.drewN ?_ _ | with_reducible refine Fr.drew ?_))
      rw [← hW1]
      clear x0 x1 x2 x3 x4 x5 x6 x7 x8 x9 x10 x11 xf y0 y1 y2 y3 y4 y5 y6 y7 yf hfr0
      have HW1 := Lib.hid hW1
      have hz2 : b < W1.heap.size := Nat.lt_of_lt_of_le hlt HDM.out.fr.size
      have hz3 : w.heap.size < W1.heap.size := Nat.lt_trans hq1 HDM.out.lt
      have a0 : W1.cell? ⟨b, 0, none⟩ = some (.iface 351 (.pointer (some ⟨rb, 0, none⟩))) := HDM.out.cb 0 _ rfl
      have k0 : W1.cell? ⟨w1.heap.size, 0, none⟩ = some (.int .i64 7) := by have := HDM.out.co 0 _ rfl; rw [H7.out] at this; exact this
      clear hW1 hw7
      refine (top_any rb c A (fun k => ¬ X k ∧ k ≠ b ∧ k ≠ rb ∧ ib ≠ some k) r' W1 HDM.out.run (by rw [HST.out]; exact HS.out.fr HDM.out.fr (fun k hk hd => by rcases hd with e | e; exact hk.2.1 e; exact hk.2.2.1 e) (fun _ h _ => h)) HRok.out).mono ?_
      rintro e w2 ht
      rcases ht with ⟨h, _, _⟩ | ⟨_, tA, tc, rfl, ht1, ht2, ht3, hb2⟩
      · rw [HW7.out] at h; cases h
      have HDM2 := Lib.hid (HDM.out.below hb2 hz2 hz3)
      have hrd := st_rdv ht3
      generalize w2 = W2 at *
      have HRD := Lib.hid hrd
      have hz4 : b < W2.heap.size := Nat.lt_of_lt_of_le hz2 hb2.size
      have hz5 : w.heap.size < W2.heap.size := Nat.lt_of_lt_of_le hz3 hb2.size
      have k0 : W2.cell? ⟨w1.heap.size, 0, none⟩ = some (.int .i64 7) := by have := HDM2.out.co 0 _ rfl; rw [H7.out] at this; exact this
      have HT12 := Lib.hid (And.intro ht1 ht2)
      have hn10 := HRok.out.len
      rw [topL_len] at hrd
      have HRD := Lib.hid hrd
      clear hrd a0 hb2 ht1 ht2 ht3
      go_wp2_with fail
      refine (values_any r'.st.length tc _ (topV r') _ W2 (by omega) HRD.out (fun i _ => by simp [topV, vLeaf, VT.many, sumTo])).mono ?_
      rintro e w3 ⟨v, C, rfl, ho, hl, hv, hb3⟩
      obtain ⟨sA, sc, rfl, hs1, hs2, hs3⟩ := each_rdv ho hl hv
      have HDM3 := Lib.hid (HDM2.out.below hb3 hz4 hz5)
      have HRD3 := Lib.hid hs3
      have hw3 := hb3.size
      have a2 := HDM3.out.cb 2 _ rfl
      have a3 := HDM3.out.cb 3 _ rfl
      have af := HDM3.out.fb
      have b0 := HDM3.out.cy 0 _ rfl
      have b1 := HDM3.out.cy 1 _ rfl
      have b2 := HDM3.out.cy 2 _ rfl
      have b3 := HDM3.out.cy 3 _ rfl
      have b4 := HDM3.out.cy 4 _ rfl
      have b5 := HDM3.out.cy 5 _ rfl
      have b6 := HDM3.out.cy 6 _ rfl
      have b7 := HDM3.out.cy 7 _ rfl
      have bf := HDM3.out.fy
      have o0 : w3.cell? ⟨w1.heap.size, 0, none⟩ = some (.int .i64 7) := by have := HDM3.out.co 0 _ rfl; rw [H7.out] at this; exact this
      have o1 := HDM3.out.co 1 _ rfl
      have o2 := HDM3.out.co 2 _ rfl
      have o3 := HDM3.out.co 3 _ rfl
      have o4 := HDM3.out.co 4 _ rfl
      have o5 := HDM3.out.co 5 _ rfl
      have o6 := HDM3.out.co 6 _ rfl
      have o7 := HDM3.out.co 7 _ rfl
      have hn1 : w1.heap.size ≠ b := by omega
      have hn2 : w1.heap.size ≠ w.heap.size := by omega
      have hn3 : b ≠ w1.heap.size := by omega
      have hn4 : w.heap.size ≠ w1.heap.size := by omega
      clear ho hl hv hb3 hs3 k0
      go_wp2_with fail
      refine bodyPost_ret (outC_results (o := o) (q := w.heap.size) (fun j u hj => ?_) rfl rfl) rfl ?_
      · unfold outC at hj
        rw [H7.out] at hj
        rcases j with _ | _ | _ | _ | _ | _ | _ | _ | j
        all_goals (simp at hj)
        all_goals (subst hj; simp [go_sem, hbq, hqb, hn1, hn2, hn3, hn4, b0, b1, b2, b3, b4, b5, b6, b7])
      rw [HD2.out H1.out]
      have HFr := Lib.hid HDM3.out.fr
      have y0 := HDM3.out.cb 0 _ rfl
      have y1 := HDM3.out.cb 1 _ rfl
      have y4 := HDM3.out.cb 4 _ rfl
      have y5 := HDM3.out.cb 5 _ rfl
      have y6 := HDM3.out.cb 6 _ rfl
      have y7 := HDM3.out.cb 7 _ rfl
      have y8 := HDM3.out.cb 8 _ rfl
      have y9 := HDM3.out.cb 9 _ rfl
      have y10 := HDM3.out.cb 10 _ rfl
      have y11 := HDM3.out.cb 11 _ rfl
      refine ⟨rfl, none, .inr rfl, dia_mk HH.out (by rw [HST.out]; exact HS.out.fr (D := fun k => k = b ∨ k = rb) (by (repeat' first | with_reducible exact HFr.out | (with_reducible refine Fr.setIn ?_ (by first | exact Or.inl rfl | exact Or.inr rfl) _) | (with_reducible refine Fr.setNew ?_ _) | with_reducible refine Fr.alloc ?_ _ | with_reducible refine Fr.drewN ?_ _ | with_reducible refine Fr.drew ?_)) (fun k hk hd => by rcases hd with e | e; exact hk.2.1 e; exact hk.2.2.1 e) (fun k h _ => ⟨h.1, h.2.1, h.2.2.1, fun e => by cases e⟩)) (HDM3.out.run.fr (S := fun k => k = b ∨ k = w.heap.size) ?_ (fun e => by omega)) (sA := sA) (sn := r'.st.length) (sc := sc) (iA := none) (n := 0) (ic := 0) (xs := []) (fun q u hq => ?_) (fun q => ?_) (fun e => ⟨rfl, hs1, hs2, RdV.frame (S := fun k => W2.heap.size ≤ k) HRD3.out (by simp) (fun k hk hlt' => ⟨fun hx => by have := HX.out k hx; omega, ?_⟩)⟩) (World.ownsRow_nil _ _ _ _) (Nat.zero_le _) rfl (fun e => ⟨rfl, rfl, rfl⟩) (fun k hk => by cases hk) (fun e => HW7.out) HRok.out, ?_, fun e => e⟩
      · (repeat' first | with_reducible exact Fr.refl _ _ | (with_reducible refine Fr.setIn ?_ (by first | exact Or.inl rfl | exact Or.inr rfl) _) | with_reducible refine Fr.alloc ?_ _ | with_reducible refine Fr.drewN ?_ _ | with_reducible refine Fr.drew ?_)
      · rcases q with _ | _ | _ | _ | _ | _ | _ | _ | _ | _ | _ | _ | q
        all_goals (simp at hq)
        all_goals (subst hq; simp [go_sem, hbq, hqb, hn1, hn2, hn3, hn4, a2, a3, y0, y1, y4, y5, y6, y7, y8, y9, y10, y11])
      · simp [go_sem, hbq, hqb, hn1, hn2, hn3, hn4, af]
      · have hk' : W2.heap.size ≤ k := hk
        iterate 10 (refine blk_setN ?_ (by omega))
        rfl
      · refine Fr.weak (S := fun k => k = b ∨ k = rb) ?_ (fun k h => by rcases h with h | h; exact .inl h; exact .inr (.inl h))
        (repeat' first | with_reducible exact HFr.out | (with_reducible refine Fr.setIn ?_ (by first | exact Or.inl rfl | exact Or.inr rfl) _) | (with_reducible refine Fr.setNew ?_ _) | with_reducible refine Fr.alloc ?_ _ | with_reducible refine Fr.drewN ?_ _ | with_reducible refine Fr.drew ?_)
    · have h7' : (o.kind == 7) = false := by simpa using h7
      have H7 := Lib.hid h7
      have H1 := Lib.hid h1
      clear h1 h7
      go_wp2_with fail
      refine bodyPost_ret (outC_results (o := o) (q := w.heap.size) (fun j u hj => ?_) rfl rfl) rfl ?_
      · unfold outC at hj
        rcases j with _ | _ | _ | _ | _ | _ | _ | _ | j
        all_goals (simp at hj)
        all_goals (subst hj; simp [go_sem, hq1, hbq, hqb, y0, y1, y2, y3, y4, y5, y6, y7])
      rw [HD2.out H1.out]
      have hfW : Fr (fun k => k = b ∨ k = rb) w w1 := HF1.out.weak (fun _ h => .inr h)
      have HFr := Lib.hid hfW
      obtain ⟨f3, f4, f5, f6⟩ := HC3.out
      refine ⟨rfl, ib, .inl rfl, dia_mk HH.out (by rw [HST.out]; exact HS.out.fr (D := fun k => k = b ∨ k = rb) (by (repeat' first | with_reducible exact HFr.out | (with_reducible refine Fr.setIn ?_ (by first | exact Or.inl rfl | exact Or.inr rfl) _) | (with_reducible refine Fr.setNew ?_ _) | with_reducible refine Fr.alloc ?_ _ | with_reducible refine Fr.drewN ?_ _ | with_reducible refine Fr.drew ?_)) (fun k hk hd => by rcases hd with e | e; exact hk.2.1 e; exact hk.2.2.1 e) (fun _ h _ => h)) (HR1.out.fr (S := fun k => k = b ∨ k = w.heap.size) ?_ (fun e => by omega)) (sA := A2) (sn := n2) (sc := c2) (fun q u hq => ?_) (fun q => ?_) (fun e => absurd e H7.out) (Fr.row (S := fun k => k = b ∨ k = rb) ?_ f3 (fun k hk' hk => ?_)) f4 f5 (fun e => absurd e H7.out) HH.out.ni (fun e => absurd e H7.out) HRok.out, ?_, fun e => absurd e H7.out⟩
      · (repeat' first | with_reducible exact Fr.refl _ _ | (with_reducible refine Fr.setIn ?_ (by first | exact Or.inl rfl | exact Or.inr rfl) _) | with_reducible refine Fr.alloc ?_ _ | with_reducible refine Fr.drewN ?_ _ | with_reducible refine Fr.drew ?_)
      · rcases q with _ | _ | _ | _ | _ | _ | _ | _ | _ | _ | _ | _ | q
        all_goals (simp at hq)
        all_goals (subst hq; simp [go_sem, hb1, hq1, hbq, hqb, x0, x1, x2, x3, x4, x5, x6, x7, x8, x9, x10, x11])
      · simp [go_sem, hb1, hq1, hbq, hqb, xf]
      · (repeat' first | with_reducible exact HFr.out | (with_reducible refine Fr.setIn ?_ (by first | exact Or.inl rfl | exact Or.inr rfl) _) | (with_reducible refine Fr.setNew ?_ _) | with_reducible refine Fr.alloc ?_ _ | with_reducible refine Fr.drewN ?_ _ | with_reducible refine Fr.drew ?_)
      · rcases hk with hk | hk
        · exact (HH.out.ni k (f5.symm.trans hk')).1 hk
        · exact (HH.out.ni k (f5.symm.trans hk')).2 hk
      · refine Fr.weak (S := fun k => k = b ∨ k = rb) ?_ (fun k h => by rcases h with h | h; exact .inl h; exact .inr (.inl h))
        (repeat' first | with_reducible exact HFr.out | (with_reducible refine Fr.setIn ?_ (by first | exact Or.inl rfl | exact Or.inr rfl) _) | (with_reducible refine Fr.setNew ?_ _) | with_reducible refine Fr.alloc ?_ _ | with_reducible refine Fr.drewN ?_ _ | with_reducible refine Fr.drew ?_)
end Go.Proofs.YthgbcgphkddmgaaGreat
namespace Go.Proofs.YthgbcgphkddmgaaGreat
open Go.RowKit Go.Maps
set_option linter.unusedVariables false
set_option linter.unusedSimpArgs false
theorem und_refs : Tryz.prog.underlying 144 = some (.map 3 4) := Tryz.underlying144
def RaddOk (t : VT) : Prop := ∀ (cs : List Value) (S : Nat → Prop) (kb n : Nat) (p : Int → Bool) (w : World), t.isV w S cs → t.wf → t.many ≤ 4194304 → (∀ k, S k → k ≠ kb) → OwnM w kb n (knG p) → n + t.many ≤ 1000000000000 →
  Calls Tryz.prog 64 #[.map (some kb), .agg cs.toArray] w fun e w' => e = .returned (.tuple #[]) ∧ Fr (fun k => k = kb) w w' ∧ ∃ n', n' ≤ n + t.many ∧ OwnM w' kb n' (knG fun x => p x || refsV t x)
theorem knG_put (p : Int → Bool) (m : Int) : (fun y => if y = m then some (Value.bool true) else knG p y) = knG (fun x => p x || x == m) := by
  funext y
  unfold knG
  by_cases e : y = m
  · subst e; simp
  · rw [if_neg e]
    have : (y == m) = false := by simpa using e
    simp [this]
theorem anyOf_up (p : Nat → Bool) (n : Nat) : anyOf p (n + 1) = (anyOf p n || p n) := by
  rw [Bool.eq_iff_iff, anyOf_true, Bool.or_eq_true, anyOf_true]
  constructor
  · rintro ⟨k, hk, h⟩
    by_cases e : k = n
    · subst e; exact .inr h
    · exact .inl ⟨k, by omega, h⟩
  · rintro (⟨k, hk, h⟩ | h)
    · exact ⟨k, by omega, h⟩
    · exact ⟨n, by omega, h⟩
theorem anyOf_nil (p : Nat → Bool) : anyOf p 0 = false := by
  rcases h : anyOf p 0 with _ | _
  · rfl
  · obtain ⟨k, hk, _⟩ := anyOf_true.1 h; omega
set_option maxRecDepth 100000 in
set_option maxHeartbeats 4000000 in
theorem radd_any : ∀ t : VT, RaddOk t := by
  intro t
  induction t with
  | none => intro cs S kb n p w h; exact h.elim
  | node k m s na arg ih =>
    intro cs S kb n p w h hwf hm hS ho hn
    have HV := Lib.hid h
    have IH := Lib.hid ih
    have HS := Lib.hid hS
    have HWF := Lib.hid hwf
    obtain ⟨A, c, rfl, hnc, hcm, hA, _⟩ := h
    have hkb := ho.lt
    have hna : na ≤ 4194304 := by
      by_cases h0 : 0 < na
      · obtain ⟨b, off, _, _, _, C, hC⟩ := isV_arg HV.out h0
        have h1 : na ≤ sumTo (fun i => (arg i).many) na := len_sumTo fun i hi => isV_many (hC i hi).1
        simp only [VT.many] at hm
        omega
      · omega
    have HN := Lib.hid (show n + (1 + sumTo (fun i => (arg i).many) na) ≤ 1000000000000 from hn)
    have hn9 : n < 1000000000000 := by have := HN.out; omega
    have HM := Lib.hid (show 1 + sumTo (fun i => (arg i).many) na ≤ 4194304 from hm)
    have HMM := Lib.hid (show (VT.node k m s na arg).many = 1 + sumTo (fun i => (arg i).many) na from rfl)
    obtain ⟨W, hW⟩ : ∃ W, W = w.alloc (.cells #[.int .i64 k, .int .i64 m, .string s, .slice A na c] 36) := ⟨_, rfl⟩
    have HFW := Lib.hid (show Fr (fun k => k = kb) w W by rw [hW]; exact (Fr.refl _ _).alloc _)
    have hoW : OwnM W kb n (knG p) := ho.fr (S := fun _ => False) (by rw [hW]; exact (Fr.refl _ _).alloc _) (fun h => h)
    have z0 : W.cell? ⟨w.heap.size, 0, none⟩ = some (.int .i64 k) := by rw [hW]; simp [go_sem]
    have z1 : W.cell? ⟨w.heap.size, 1, none⟩ = some (.int .i64 m) := by rw [hW]; simp [go_sem]
    have z3 : W.cell? ⟨w.heap.size, 3, none⟩ = some (.slice A na c) := by rw [hW]; simp [go_sem]
    have HWW := Lib.hid hW
    obtain ⟨w1, hrun, ho1, hg1⟩ := OwnM.store und_refs hoW (by unfold maxLen; omega) m (.bool true) (Wf.of hwf.1.1 (by have := hwf.1.2; omega))
    rw [knG_put] at ho1
    have HO1 := Lib.hid ho1
    have HOW := Lib.hid hoW
    have HG1 := Lib.hid hg1
    have HRUN := Lib.hid hrun
    clear hn hwf hm ih hA hS ho hW hoW ho1 hg1 hrun
    go_enter Tryz.func64, Tryz.ntmps64
    go_upto_if 8 with (fail)
    rw [← HWW.out]
    go_cut [] (fun wx => Hid (Fr (fun k => k = kb) w wx) ∧ wx.cell? ⟨w.heap.size, 3, none⟩ = some (.slice A na c) ∧ ∃ n1, n1 ≤ n + 1 ∧ Hid (OwnM wx kb n1 (knG fun x => p x || (k == 6 && x == m))))
    case first =>
      by_cases hk : k = 6
      · have HE := Lib.hid (show (fun x => p x || x == m) = (fun x => p x || (k == 6 && x == m)) by funext x; simp [hk])
        have e1 : (k == 6) = true := by simpa using hk
        have e2 : decide (k = 6) = true := by simpa using hk
        have hr := HRUN.out
        subst hk
        go_wp2_with fail
        go_meet
        refine ⟨Lib.hid (HFW.out.trans' (Fr.of_grown HG1.out (fun b hb => .inl (by injection hb with hb; exact hb.symm)))), ?_, _, ?_, Lib.hid (HE.out ▸ HO1.out)⟩
        · exact (grown_cell HG1.out (World.block_lt_of_cell? W _ z3) (fun e => by injection e with e; exact absurd (show w.heap.size = kb from e) (by omega))).trans z3
        · split <;> omega
      · have HE := Lib.hid (show p = (fun x => p x || (k == 6 && x == m)) by funext x; simp [hk])
        have e1 : (k == 6) = false := by simpa using hk
        clear hk
        go_wp2_with fail
        go_meet
        exact ⟨HFW, z3, n, by omega, Lib.hid (HE.out ▸ HOW.out)⟩
    case rest =>
      obtain ⟨HF, x3, n1, hn1, HO⟩ := hcut
      clear z0 z1 z3
      go_wp2_with fail
      go_loopw [5, 15] (fun _ i wr => ∃ q n2 : Nat, q ≤ na ∧ i = .int .i64 q ∧ Hid (Fr (fun k => k = kb) w wr) ∧ n2 ≤ n + 1 + sumTo (fun i => (arg i).many) q ∧ Hid (OwnM wr kb n2 (knG fun x => p x || ((k == 6 && x == m) || anyOf (fun i => refsV (arg i) x) q)))) (fun _ i _ => na - (intOf i).toNat)
      case atStart => exact ⟨0, n1, Nat.zero_le _, rfl, HF, by simpa [sumTo] using hn1, by simpa [anyOf_nil] using HO⟩
      case round =>
        obtain ⟨q, n2, hq, rfl, HFr, hn2, HOr⟩ := hrel
        by_cases hlt : q < na
        · obtain ⟨b, off, rfl, hb, hSb, C, hC⟩ := isV_arg HV.out (by omega)
          obtain ⟨hV, hcell⟩ := hC q hlt
          have hbk : b ≠ kb := HS.out b hSb
          have hVr := Lib.hid (isV_frame (w' := wr) (S' := S) HFr.out.size (fun b hs hlt => ⟨hs, HFr.out.block b hlt (HS.out b hs)⟩) hV)
          obtain ⟨k', m', s', A', n', c', hCq⟩ := isV_cells hV
          rw [hCq] at hVr hcell
          have c0 : wr.cell? ⟨b, off + q * 4, none⟩ = some (.int .i64 k') := HFr.out.cell (hcell 0 _ rfl) hbk
          have c1 : wr.cell? ⟨b, off + q * 4 + 1, none⟩ = some (.int .i64 m') := HFr.out.cell (hcell 1 _ rfl) hbk
          have c2 : wr.cell? ⟨b, off + q * 4 + 2, none⟩ = some (.string s') := HFr.out.cell (hcell 2 _ rfl) hbk
          have c3 : wr.cell? ⟨b, off + q * 4 + 3, none⟩ = some (.slice A' n' c') := HFr.out.cell (hcell 3 _ rfl) hbk
          have hle : sumTo (fun i => (arg i).many) (q + 1) ≤ sumTo (fun i => (arg i).many) na := sumTo_mono (by omega)
          have hs1 : sumTo (fun i => (arg i).many) (q + 1) = sumTo (fun i => (arg i).many) q + (arg q).many := rfl
          have hmm := HM.out
          have hnn : n + (1 + sumTo (fun i => (arg i).many) na) ≤ 1000000000000 := HN.out
          have HQ1 := Lib.hid (show n2 + (arg q).many ≤ n + 1 + sumTo (fun i => (arg i).many) (q + 1) by omega)
          have hsz := HFr.out.size
          obtain ⟨W2, hW2⟩ : ∃ W2, W2 = wr.alloc (.cells #[.int .i64 k', .int .i64 m', .string s', .slice A' n' c'] 36) := ⟨_, rfl⟩
          have hf2 : Fr (fun _ => False) wr W2 := by rw [hW2]; exact (Fr.refl _ _).alloc _
          have hcall := IH.out q [.int .i64 k', .int .i64 m', .string s', .slice A' n' c'] S kb n2 (fun x => p x || ((k == 6 && x == m) || anyOf (fun i => refsV (arg i) x) q)) W2 (isV_frame hf2.size (fun b hs hlt => ⟨hs, hf2.block b hlt (fun h => h)⟩) hVr.out) (HWF.out.2 q hlt) (by omega) HS.out (HOr.out.fr hf2 (fun h => h)) (by omega)
          have HCALL := Lib.hid hcall
          have HF2 := Lib.hid hf2
          have HW2 := Lib.hid hW2
          clear hnn hVr hcell hCq hle hs1 hmm hn2 hcall hV hf2 hW2
          go_wp2_with fail
          rw [← HW2.out]
          refine HCALL.out.mono ?_
          rintro e w3 ⟨rfl, hf3, n3, hn3, ho3⟩
          have HO3 := Lib.hid ho3
          have HF3 := Lib.hid hf3
          clear ho3 hf3 c0 c1 c2 c3
          go_wp2_with fail
          go_roundw
          case rel =>
            refine ⟨q + 1, n3, by omega, by go_num, Lib.hid ((HFr.out.trans' (HF2.out.weak (fun _ h => h.elim))).trans' HF3.out), by have := HQ1.out; omega, Lib.hid ?_⟩
            have := HO3.out
            simpa [anyOf_up, Bool.or_assoc] using this
          case measure => simp [intOf]; omega
        · obtain rfl : q = na := by omega
          go_wp2_with fail
          refine bodyPost_end (results_none rfl _ _ _) rfl ⟨rfl, HFr.out, n2, by rw [HMM.out]; omega, ?_⟩
          have := HOr.out
          simpa [refsV] using this
end Go.Proofs.YthgbcgphkddmgaaGreat
