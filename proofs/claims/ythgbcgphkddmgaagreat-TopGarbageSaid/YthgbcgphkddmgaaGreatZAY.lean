/- Letters are sent to who is not here. Letters are sent to who is not here. -/
import Derived.Test.YthgbcgphkddmgaaGreatZAX
import Derived.Deep.AppendLies
import Derived.Deep.RegionLaw
namespace Go.Proofs.YthgbcgphkddmgaaGreat
open Go.RowKit Go.Maps
set_option linter.unusedVariables false
set_option linter.unusedSimpArgs false
set_option maxRecDepth 100000 in
set_option maxHeartbeats 4000000 in
theorem send_rep {w : World} {X M : Nat → Prop} {base T p : Nat} {P : Int → Nat} {N : NdS} (rem : NdS → Int → ByteArray → NdS) (x : LT) (cs : List Value) (S : Nat → Prop) (h : NodeAt w X M base T p P N) (hl : x.isL w S cs) (hx : LtWf x) (hhas : N.has x.to = false) (hloc : locN N x.to = N.id)
    (hrep : ∀ W, Fr (fun _ => False) w W → Calls Tryz.prog 148 #[.pointer (some ⟨p, 0, none⟩), .agg cs.toArray] W (SndPost X M base T p P N (replyW rem N x) 1 W (.tuple #[]))) :
    Calls Tryz.prog 118 #[.pointer (some ⟨p, 0, none⟩), .agg cs.toArray] w (SndPost X M base T p P N (sendW rem N x) 1 w (.tuple #[])) := by
  have HE := Lib.hid (show sendW rem N x = replyW rem N x by unfold sendW; rw [if_neg (by rw [hhas]; decide), if_neg (fun h => h hloc)])
  obtain ⟨mb, c3, hmb, _, _, hlk⟩ := h.look
  have hlook := hlk x.to hx.2.1 hhas
  obtain ⟨⟨⟨q1, q2, q3⟩, q4, q5, q6⟩, hQ⟩ := isL_ex hl
  dsimp only at hQ
  subst hQ
  have HNW := Lib.hid (show ∀ W, Fr (fun _ => False) w W → NodeAt W X M base T p P N ∧ x.isL W S [.int .i64 x.kind, .int .i64 x.frm, .int .i64 x.to, .int .i64 x.num, .string x.text, .int .i64 q1, .int .i64 q2, .string q3, .slice q4 q5 q6] from fun W hf => ⟨h.new hf (fun _ h => h), isL_frame hf.size (fun k hk hlt => ⟨hk, hf.block k hlt (fun h => h)⟩) hl⟩)
  have HLOC := Lib.hid (fun (W : World) (hf : Fr (fun _ => False) w W) => location_any (HNW.out W hf).1 x.to hx.2.1)
  have hplt := h.p_lt
  have c0 : w.cell? ⟨p, 0, none⟩ = some (.int .i64 N.id) := by
    obtain ⟨_, _, _, _, _, _, _, _, h4, _⟩ := h
    exact h4.c0
  obtain ⟨W, hW⟩ : ∃ W, W = w.alloc (.cells #[.int .i64 x.kind, .int .i64 x.frm, .int .i64 x.to, .int .i64 x.num, .string x.text, .int .i64 q1, .int .i64 q2, .string q3, .slice q4 q5 q6] 154) := ⟨_, rfl⟩
  have hf : Fr (fun _ => False) w W := by rw [hW]; exact (Fr.refl _ _).alloc _
  have hl1 : (Instr.lookup 129 (.map (some mb)) (.int .i64 x.to) false).run Tryz.prog W.drew = .ok (.pointer none) W.drew := hlook W.drew (hf.drew.weak (fun _ h => h.elim))
  have HF := Lib.hid hf
  rw [hW] at hl1
  have z0 : W.cell? ⟨w.heap.size, 0, none⟩ = some (.int .i64 x.kind) := by rw [hW]; simp [go_sem]
  have z1 : W.cell? ⟨w.heap.size, 1, none⟩ = some (.int .i64 x.frm) := by rw [hW]; simp [go_sem]
  have z2 : W.cell? ⟨w.heap.size, 2, none⟩ = some (.int .i64 x.to) := by rw [hW]; simp [go_sem]
  have z3 : W.cell? ⟨w.heap.size, 3, none⟩ = some (.int .i64 x.num) := by rw [hW]; simp [go_sem]
  have z4 : W.cell? ⟨w.heap.size, 4, none⟩ = some (.string x.text) := by rw [hW]; simp [go_sem]
  have z5 : W.cell? ⟨w.heap.size, 5, none⟩ = some (.int .i64 q1) := by rw [hW]; simp [go_sem]
  have z6 : W.cell? ⟨w.heap.size, 6, none⟩ = some (.int .i64 q2) := by rw [hW]; simp [go_sem]
  have z7 : W.cell? ⟨w.heap.size, 7, none⟩ = some (.string q3) := by rw [hW]; simp [go_sem]
  have z8 : W.cell? ⟨w.heap.size, 8, none⟩ = some (.slice q4 q5 q6) := by rw [hW]; simp [go_sem]
  have d0 := hf.cell c0 (fun h => h)
  have hpW : p < W.heap.size := by have := hf.size; omega
  have hwW : w.heap.size < W.heap.size := by rw [hW]; simp
  have HREP := Lib.hid hrep
  have HL := Lib.hid hloc
  clear hl h hlk hlook hx hhas hW hrep hloc hf
  go_enter Tryz.func118, Tryz.ntmps118
  go_wp2_with fail
  go_region
  all_goals
    go_wp2_with fail
    go_region_with (first | (go_at_call 161; refine (HLOC.out _ (by (repeat' first | with_reducible exact Fr.refl _ _ | (with_reducible refine Fr.setEq ?_ _) | (with_reducible refine Fr.setNew ?_ _) | with_reducible refine Fr.alloc ?_ _ | with_reducible refine Fr.drewN ?_ _ | with_reducible refine Fr.drew ?_))).mono ?_; rintro e w2 ⟨rfl, rfl⟩; rw [HL.out]))
    all_goals
      go_wp2_with fail
      refine (HREP.out _ (by (repeat' first | with_reducible exact Fr.refl _ _ | (with_reducible refine Fr.setEq ?_ _) | (with_reducible refine Fr.setNew ?_ _) | with_reducible refine Fr.alloc ?_ _ | with_reducible refine Fr.drewN ?_ _ | with_reducible refine Fr.drew ?_))).mono ?_
      rintro e w2 ⟨⟨rfl, X', M', hg, hn⟩, hp1, hp2⟩
      have HG := Lib.hid hg
      have HN2 := Lib.hid hn
      have HP := Lib.hid (And.intro hp1 hp2)
      clear hg hn hp1 hp2
      go_wp2_with fail
      refine bodyPost_end (results_none rfl _ _ _) rfl ?_
      rw [HE.out]
      exact ⟨⟨rfl, X', M', (Gr.new (show Fr (fun _ => False) w _ by (repeat' first | with_reducible exact Fr.refl _ _ | (with_reducible refine Fr.setEq ?_ _) | (with_reducible refine Fr.setNew ?_ _) | with_reducible refine Fr.alloc ?_ _ | with_reducible refine Fr.drewN ?_ _ | with_reducible refine Fr.drew ?_))).trans HG.out, HN2.out⟩, HP.out.1, HP.out.2⟩
end Go.Proofs.YthgbcgphkddmgaaGreat
namespace Go.Proofs.YthgbcgphkddmgaaGreat
open Go.RowKit Go.Maps
set_option linter.unusedVariables false
set_option linter.unusedSimpArgs false
theorem OutAt.app {w w1 w2 : World} {X : Nat → Prop} {base g cap : Nat} {v : Value} {ob : Option Nat} {C : Nat → List Value} {l : List LT} {x : LT} {xs : List Value} (h : OutAt w X base v ob C l) (hX : ∀ k, X k → k < w.heap.size) (hob : ∀ k, ob = some k → X k) (h1 : Below w.heap.size w w1) (hx : x.isL w1 (fun k => w.heap.size ≤ k) xs)
    (h2 : Fr (fun k => ob = some k) w1 w2) (hg : ob = some g ∨ w1.heap.size ≤ g) (hr : w2.ownsRow base 154 9 (.slice (some ⟨g, 0, none⟩) (l.length + 1) cap) (l.length + 1) (flatC C l.length ++ xs)) : OutAt w2 (fun k => X k ∨ k = g) base (.slice (some ⟨g, 0, none⟩) (l.length + 1) cap) (some g) (updC C l.length xs) (l ++ [x]) := by
  have hz := h1.size
  have hf1 := Fr.of_below (S := fun k => ob = some k) h1
  have hf : Fr (fun k => ob = some k) w w2 := hf1.trans' h2
  have hl := isL_len hx
  rw [flatC_snoc] at hr
  refine ⟨by simpa using hr, fun i => ?_, fun i hi => ?_, rfl⟩
  · unfold updC
    split
    · exact hl
    · exact h.len i
  · unfold updC
    have hi' : i < l.length + 1 := by simpa using hi
    by_cases e : i = l.length
    · rw [if_pos e, nthL_snoc hi', if_pos e]
      refine isL_frame h2.size (fun k hk hlt => ⟨fun hh => ?_, h2.block k hlt (fun hs => ?_)⟩) hx
      · have hk' : w.heap.size ≤ k := hk
        rcases hh with hh | hh
        · have := hX k hh; omega
        · subst hh
          rcases hg with e | e
          · have := hX k (hob k e); omega
          · omega
      · have hk' : w.heap.size ≤ k := hk
        have := hX k (hob k hs); omega
    · rw [if_neg e, nthL_snoc hi', if_neg e]
      exact isL_fr (X' := fun k => X k ∨ k = g) (h.each i (by omega)) hf hob (fun k hk => by
        rcases hk with hk | hk
        · exact .inl hk
        · subst hk
          rcases hg with e | e
          · exact .inl (hob k e)
          · exact .inr (by omega))
set_option maxRecDepth 100000 in
set_option maxHeartbeats 4000000 in
theorem send_out {w : World} {X M : Nat → Prop} {base T p : Nat} {P : Int → Nat} {N : NdS} (rem : NdS → Int → ByteArray → NdS) (x : LT) (cs : List Value) (S : Nat → Prop) (h : NodeAt w X M base T p P N) (hl : x.isL w S cs) (hx : LtWf x) (hhas : N.has x.to = false) (hloc : ¬ locN N x.to = N.id) (hpot : pot N + 1 ≤ T) (hT : T ≤ 1000000000000) :
    Calls Tryz.prog 118 #[.pointer (some ⟨p, 0, none⟩), .agg cs.toArray] w (SndPost X M base T p P N (sendW rem N x) 1 w (.tuple #[])) := by
  have HE := Lib.hid (show sendW rem N x = { N with out := N.out ++ [x] } by unfold sendW; rw [if_neg (by rw [hhas]; decide), if_pos hloc])
  have HX := Lib.hid h.xlt
  have HMX := Lib.hid h.2.2.1
  obtain ⟨Ao, co, C, ob, c8, ho, hob, hback⟩ := h.outRow
  have HO := Lib.hid ho
  have HOB := Lib.hid hob
  have HBACK := Lib.hid hback
  have hm4 : x.val.many ≤ 4194304 := by have := hx.2.2.2.2; omega
  have fzp : ∀ o, w.frozen? ⟨p, o, none⟩ = false := by
    obtain ⟨_, _, _, _, _, _, _, _, h4, _⟩ := h
    exact h4.fz
  have hn3 : N.out.length < 1000000000000 := by unfold pot at hpot; omega
  have hlb : base ≤ w.heap.size := by have := h.pM.2.2; have := h.p_lt; omega
  obtain ⟨mb, c3, hmb, _, _, hlk⟩ := h.look
  have hlook := hlk x.to hx.2.1 hhas
  obtain ⟨⟨⟨q1, q2, q3⟩, q4, q5, q6⟩, hQ⟩ := isL_ex hl
  dsimp only at hQ
  subst hQ
  have HNW := Lib.hid (show ∀ W, Fr (fun _ => False) w W → NodeAt W X M base T p P N ∧ x.isL W S [.int .i64 x.kind, .int .i64 x.frm, .int .i64 x.to, .int .i64 x.num, .string x.text, .int .i64 q1, .int .i64 q2, .string q3, .slice q4 q5 q6] from fun W hf => ⟨h.new hf (fun _ h => h), isL_frame hf.size (fun k hk hlt => ⟨hk, hf.block k hlt (fun h => h)⟩) hl⟩)
  have HLOC := Lib.hid (fun (W : World) (hf : Fr (fun _ => False) w W) => location_any (HNW.out W hf).1 x.to hx.2.1)
  have hplt := h.p_lt
  have c0 : w.cell? ⟨p, 0, none⟩ = some (.int .i64 N.id) := by
    obtain ⟨_, _, _, _, _, _, _, _, h4, _⟩ := h
    exact h4.c0
  obtain ⟨W, hW⟩ : ∃ W, W = w.alloc (.cells #[.int .i64 x.kind, .int .i64 x.frm, .int .i64 x.to, .int .i64 x.num, .string x.text, .int .i64 q1, .int .i64 q2, .string q3, .slice q4 q5 q6] 154) := ⟨_, rfl⟩
  have hf : Fr (fun _ => False) w W := by rw [hW]; exact (Fr.refl _ _).alloc _
  have hl1 : (Instr.lookup 129 (.map (some mb)) (.int .i64 x.to) false).run Tryz.prog W.drew = .ok (.pointer none) W.drew := hlook W.drew (hf.drew.weak (fun _ h => h.elim))
  have HF := Lib.hid hf
  rw [hW] at hl1
  have z0 : W.cell? ⟨w.heap.size, 0, none⟩ = some (.int .i64 x.kind) := by rw [hW]; simp [go_sem]
  have z1 : W.cell? ⟨w.heap.size, 1, none⟩ = some (.int .i64 x.frm) := by rw [hW]; simp [go_sem]
  have z2 : W.cell? ⟨w.heap.size, 2, none⟩ = some (.int .i64 x.to) := by rw [hW]; simp [go_sem]
  have z3 : W.cell? ⟨w.heap.size, 3, none⟩ = some (.int .i64 x.num) := by rw [hW]; simp [go_sem]
  have z4 : W.cell? ⟨w.heap.size, 4, none⟩ = some (.string x.text) := by rw [hW]; simp [go_sem]
  have z5 : W.cell? ⟨w.heap.size, 5, none⟩ = some (.int .i64 q1) := by rw [hW]; simp [go_sem]
  have z6 : W.cell? ⟨w.heap.size, 6, none⟩ = some (.int .i64 q2) := by rw [hW]; simp [go_sem]
  have z7 : W.cell? ⟨w.heap.size, 7, none⟩ = some (.string q3) := by rw [hW]; simp [go_sem]
  have z8 : W.cell? ⟨w.heap.size, 8, none⟩ = some (.slice q4 q5 q6) := by rw [hW]; simp [go_sem]
  have d0 := hf.cell c0 (fun h => h)
  have hpW : p < W.heap.size := by have := hf.size; omega
  have hwW : w.heap.size < W.heap.size := by rw [hW]; simp
  have d8 := hf.cell c8 (fun h => h)
  have df : ∀ o, W.frozen? ⟨p, o, none⟩ = false := fun o => (hf.frozen hplt (fun h => h)).trans (fzp o)
  have hl' : (locN N x.to != N.id) = true := by simpa using hloc
  have hl2 : (locN N x.to == N.id) = false := by simpa using hloc
  have HP := Lib.hid hpot
  have HWW := Lib.hid hW
  obtain ⟨i0, hi, jz0, jz1, jz2⟩ := info_parts infoL
  clear hl h hlk hlook hx hhas hloc hf hpot ho hob hback hW
  go_enter Tryz.func118, Tryz.ntmps118
  go_wp2_with fail
  go_region
  all_goals
    go_wp2_with fail
    rw [← HWW.out]
    go_cut [19] (fun v wx => v = .bool true ∧ Hid (Fr (fun _ => False) W wx))
    case first =>
      go_region_with (first | (go_at_call 161; refine (HLOC.out _ (HF.out.trans' (by (repeat' first | with_reducible exact Fr.refl _ _ | (with_reducible refine Fr.setEq ?_ _) | (with_reducible refine Fr.setNew ?_ _) | with_reducible refine Fr.alloc ?_ _ | with_reducible refine Fr.drewN ?_ _ | with_reducible refine Fr.drew ?_)))).mono ?_; rintro e w2 ⟨rfl, rfl⟩))
      all_goals
        go_wp2_with fail
        go_meet
        exact ⟨by simp [hl', hl2], Lib.hid (by (repeat' first | with_reducible exact Fr.refl _ _ | (with_reducible refine Fr.setEq ?_ _) | (with_reducible refine Fr.setNew ?_ _) | with_reducible refine Fr.alloc ?_ _ | with_reducible refine Fr.drewN ?_ _ | with_reducible refine Fr.drew ?_))⟩
    case rest =>
      obtain ⟨rfl, HFW⟩ := hcut
      have hfw := HFW.out
      have HFC := Lib.hid (HF.out.trans' hfw)
      have hz0 := hfw.size
      have k0 := hfw.cell z0 (fun h => h)
      have k1 := hfw.cell z1 (fun h => h)
      have k2 := hfw.cell z2 (fun h => h)
      have k3 := hfw.cell z3 (fun h => h)
      have k4 := hfw.cell z4 (fun h => h)
      have k5 := hfw.cell z5 (fun h => h)
      have k6 := hfw.cell z6 (fun h => h)
      have k7 := hfw.cell z7 (fun h => h)
      have k8 := hfw.cell z8 (fun h => h)
      have e8 := hfw.cell d8 (fun h => h)
      have ef : ∀ o, wc.frozen? ⟨p, o, none⟩ = false := fun o => (hfw.frozen hpW (fun h => h)).trans (df o)
      have hpc : p < wc.heap.size := by omega
      have hOC : wc.ownsRow base 154 9 (.slice Ao N.out.length co) N.out.length (flatC C N.out.length) := HFC.out.row HO.out.row (fun _ _ h => h)
      have HOC := Lib.hid hOC
      have HLC := Lib.hid (show x.isL wc.drew S _ from (HNW.out wc.drew (HFC.out.drew)).2)
      clear z0 z1 z2 z3 z4 z5 z6 z7 z8 d0 d8 df hl1 c0 c8 hfw hOC
      go_wp2_with fail
      go_region_law
        (first
          | (refine step_call1 (by rfl) 162 (fun _ _ => by kernel_rfl) _ _ (by rfl) (.agg #[.int .i64 x.kind, .int .i64 x.frm, .int .i64 x.to, .int .i64 x.num, .string x.text, .int .i64 q1, .int .i64 q2, .string q3, .slice q4 q5 q6]) (by simp [Act.eval, Act.put]) (lcopy_any x _ S wc.drew HLC.out hm4) ?_; rintro e w1 ⟨cs1, rfl, hv1, hb1⟩; refine ⟨_, rfl, ?_⟩; obtain ⟨⟨⟨r1, r2, r3⟩, r4, r5, r6⟩, hR⟩ := isL_ex hv1; dsimp only at hR; subst hR; have HV1 := Lib.hid hv1; have HB1 := Lib.hid (show Below wc.heap.size wc w1 from ((Below.refl _ _).drew).trans hb1); have hz1 := HB1.out.size; have hb1w : p < w1.heap.size := (by omega); have f8 := (HB1.out.cell (p := ⟨p, 8, none⟩) hpc).trans e8; have HR1 := Lib.hid (own_below HOC.out HB1.out); clear hv1 hb1)
          | (refine step_append_lies _ (by rfl) _ _ _ (by rfl) base 154 i0 _ 9 104 Tryz.underlying115 hi jz0 jz1 jz2 rfl (by omega) (.slice Ao N.out.length co) N.out.length (flatC C N.out.length) (by rfl) (HR1.out.alloc _) ⟨w1.heap.size, 0, none⟩ 1 1 [.int .i64 x.kind, .int .i64 x.frm, .int .i64 x.to, .int .i64 x.num, .string x.text, .int .i64 r1, .int .i64 r2, .string r3, .slice r4 r5 r6] (by rfl) (by rfl) (cell_newL _ _ _ _ rfl) (isL_one HV1.out) (by omega) (by unfold maxLen; omega) (by omega) (by simp; omega) (w1.heap.size + 1) (by simp) ?_; intro g cap w5 hown5 hgrow5 hat5 hlt5; have hneb : some p ≠ (Value.slice Ao N.out.length co).ownBlock := (fun e => (HOB.out p (HO.out.blk.symm.trans e.symm)).2 rfl); have hp5 : p < (w1.alloc (.cells #[.int .i64 x.kind, .int .i64 x.frm, .int .i64 x.to, .int .i64 x.num, .string x.text, .int .i64 r1, .int .i64 r2, .string r3, .slice r4 r5 r6] 154)).heap.size := (by simp; omega); have x8 := (grown_cell (b := p) (o := 8) hgrow5 hp5 hneb).trans ((World.cell?_alloc_lt _ _ ⟨p, 8, none⟩ hb1w).trans f8); have y8 : w5.frozen? ⟨p, 8, none⟩ = false := ((grown_frozen (b := p) (o := 8) hgrow5 hp5 hneb).trans ((grown_frozen (b := p) (o := 8) (World.grownBy_alloc w1 _ none) hb1w (by simp)).trans ((grown_frozen (b := p) (o := 8) (grown_below (g := none) HB1.out) hpc (by simp)).trans (ef 8)))); have HG5 := Lib.hid hgrow5; have HO5 := Lib.hid hown5; have HA5 := Lib.hid hat5; clear hown5 hgrow5 hat5))
      all_goals
        try simp only [Act.put, List.getElem_toArray, List.getElem_cons_zero, List.getElem_cons_succ, List.setIfInBounds_toArray, List.set_cons_zero, List.set_cons_succ]
        go_wp2_with fail
        refine bodyPost_end (results_none rfl _ _ _) rfl ?_
        rw [HE.out]
        have hblk := HO.out.blk
        have hgg : ob = some g ∨ w1.heap.size + 1 ≤ g := by
          rcases HA5.out with h | h
          · exact .inl (hblk.symm.trans h)
          · exact .inr (by omega)
        have hw1 : Below w.heap.size w w1 := by
          have h1 := HFC.out.below (base := w.heap.size) (fun _ h => h.elim) (Nat.le_refl _)
          exact h1.trans (HB1.out.mono HFC.out.size)
        have hw1a : Below w.heap.size w (w1.alloc (.cells #[.int .i64 x.kind, .int .i64 x.frm, .int .i64 x.to, .int .i64 x.num, .string x.text, .int .i64 r1, .int .i64 r2, .string r3, .slice r4 r5 r6] 154)) := hw1.alloc hw1.size _
        have hf5 : Fr (fun k => ob = some k) (w1.alloc (.cells #[.int .i64 x.kind, .int .i64 x.frm, .int .i64 x.to, .int .i64 x.num, .string x.text, .int .i64 r1, .int .i64 r2, .string r3, .slice r4 r5 r6] 154)) w5 := Fr.of_grown HG5.out (fun k hk => .inl (hblk.symm.trans hk))
        have hzc := HFC.out.size
        have hx5 : x.isL (w1.alloc (.cells #[.int .i64 x.kind, .int .i64 x.frm, .int .i64 x.to, .int .i64 x.num, .string x.text, .int .i64 r1, .int .i64 r2, .string r3, .slice r4 r5 r6] 154)) (fun k => w.heap.size ≤ k) _ := isL_frame (S := fun k => wc.drew.heap.size ≤ k) (by simp) (fun k hk hlt => ⟨by have h9 : wc.heap.size ≤ k := hk; omega, Below.heap_alloc w1 _ k hlt⟩) HV1.out
        obtain ⟨b1, b2⟩ := HBACK.out w5 g _ (N.out ++ [x]) _ ((Fr.of_below hw1a).trans' hf5) (by rcases hgg with e | e; exact .inl e; exact .inr (by have := hw1.size; omega)) (OutAt.app HO.out HX.out (fun k hk => (HMX.out k (HOB.out k hk).1).1) hw1a hx5 hf5 (by rcases hgg with e | e; exact .inl e; exact .inr (by simp; omega)) HO5.out) (by have := HP.out; unfold pot at this; simp; omega)
        exact ⟨⟨rfl, _, _, b1, b2⟩, by unfold pot; simp; omega, Nat.le_refl _⟩
end Go.Proofs.YthgbcgphkddmgaaGreat
