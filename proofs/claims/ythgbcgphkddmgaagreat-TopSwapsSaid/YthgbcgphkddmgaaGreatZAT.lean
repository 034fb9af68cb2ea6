/- Letters are sent, and answered for nobody; one is removed. Letters are sent to who is not here. Letters are sent to who is not here. Letters are sent; one is removed: the round. One is removed. -/
import Derived.Test.YthgbcgphkddmgaaGreatZAS
import Derived.Deep.AppendLies
import Derived.Deep.RegionLaw
namespace Go.Proofs.YthgbcgphkddmgaaGreat
open Go.RowKit
set_option linter.unusedVariables false
set_option linter.unusedSimpArgs false
def delErrK (N : NdS) (x : LT) : Int := if x.kind = 1 ∨ x.kind = 2 then delErr N x else 0
def remK (k : Nat) : NdS → Int → ByteArray → NdS := fun M r t => remN k M r true t
theorem deliver_any {w : World} {X M : Nat → Prop} {base T p : Nat} {P : Int → Nat} {N : NdS} {k : Nat} (hrem : RemOk k) (x : LT) (cs : List Value) (S : Nat → Prop) (h : NodeAt w X M base T p P N) (hl : x.isL w S cs) (hx : LtWf x) (hk : 1 ≤ x.kind ∧ x.kind ≤ 5) (hlen : N.acts.length ≤ k) (hhas : N.has x.to = true) (hT : T ≤ 1000000000000) :
    Calls Tryz.prog 149 #[.pointer (some ⟨p, 0, none⟩), .agg cs.toArray] w (SndPost X M base T p P N (deliverW (remK k) N x) 0 w (.int .i64 (delErrK N x))) := by
  by_cases h1 : x.kind = 1
  · unfold delErrK; rw [if_pos (.inl h1)]
    exact deliver_box1 _ x cs S h hl hx h1 hhas
  by_cases h2 : x.kind = 2
  · unfold delErrK; rw [if_pos (.inr h2)]
    exact deliver_box2 _ x cs S h hl hx h2 hhas
  unfold delErrK
  rw [if_neg (by omega)]
  by_cases h3 : x.kind = 3
  · exact deliver_watch _ x cs S h hl hx h3
  by_cases h4 : x.kind = 4
  · exact deliver_link _ x cs S h hl hx h4
  · exact deliver_exit k hrem x cs S h hl hx (by omega) hlen hhas hT
/-- what is sent may go out -/
theorem NodeAt.outRow {w : World} {X M : Nat → Prop} {base T p : Nat} {P : Int → Nat} {N : NdS} (h : NodeAt w X M base T p P N) : ∃ A c C ob, w.cell? ⟨p, 8, none⟩ = some (.slice A N.out.length c) ∧ OutAt w X base (.slice A N.out.length c) ob C N.out ∧ (∀ k, ob = some k → M k ∧ k ≠ p) ∧
    (∀ w' g v l' C', Fr (fun k => ob = some k) w w' → (ob = some g ∨ w.heap.size ≤ g) → OutAt w' (fun k => X k ∨ k = g) base v (some g) C' l' → l'.length + 201 * N.acts.length ≤ T → Gr X M w (fun k => X k ∨ k = g) (fun k => M k ∨ k = g) (w'.setCell ⟨p, 8, none⟩ v) ∧ NodeAt (w'.setCell ⟨p, 8, none⟩ v) (fun k => X k ∨ k = g) (fun k => M k ∨ k = g) base T p P { N with out := l' }) := by
  obtain ⟨h1, h2, h3, mb, hb, MA, ob, sb, h4, h5⟩ := h
  obtain ⟨v, C, c8, ho⟩ := h4.c8
  obtain ⟨A, c, rfl, _⟩ := own_any ho.row
  refine ⟨A, c, C, ob, c8, ho, fun k hk => ⟨h5.ob k hk, (h4.ap.2.2.2.1 k hk).1⟩, fun w' g v l' C' hf hg ho' hT => ?_⟩
  have hz := hf.size
  have hgl := (ho'.row.lt g ho'.blk).2
  have hgb := (ho'.row.lt g ho'.blk).1
  have hM : M p := h5.p
  refine ⟨⟨((hf.weak (fun k hk => h5.ob k hk))).set (.inl hM) v, fun k hk => .inl hk, fun k hk => ?_, fun k hk => ?_⟩, { h1 with }, fun k hk => ?_, fun k hk => ?_, mb, hb, MA, some g, sb, h4.set8 h5 h3 h2 hf hg ho' hT (Nat.le_refl _), ⟨.inl h5.p, .inl h5.mb, .inl h5.hb, fun k hk => .inr (by injection hk with hk; exact hk.symm), fun k hk => .inl (h5.sb k hk), fun a ha k hk => .inl (h5.act a ha k hk)⟩⟩
  · rcases hk with hk | hk
    · exact .inl hk
    · subst hk
      rcases hg with e | e
      · exact .inl (h3 k (h5.ob k e)).1
      · exact .inr e
  · rcases hk with hk | hk
    · exact .inl hk
    · subst hk
      rcases hg with e | e
      · exact .inl (h5.ob k e)
      · exact .inr e
  · have : w'.heap.size = (w'.setCell ⟨p, 8, none⟩ v).heap.size := by simp
    rw [← this]
    rcases hk with hk | hk
    · exact Nat.lt_of_lt_of_le (h2 k hk) hz
    · omega
  · rcases hk with hk | hk
    · exact ⟨.inl (h3 k hk).1, (h3 k hk).2⟩
    · exact ⟨.inr hk, hk ▸ hgb⟩
set_option maxRecDepth 100000 in
set_option maxHeartbeats 4000000 in
theorem reply_plain {w : World} {X M : Nat → Prop} {base T p : Nat} {P : Int → Nat} {N : NdS} (rem : NdS → Int → ByteArray → NdS) (x : LT) (cs : List Value) (S : Nat → Prop) (h : NodeAt w X M base T p P N) (hl : x.isL w S cs) (hn : noneL x = none) :
    Calls Tryz.prog 148 #[.pointer (some ⟨p, 0, none⟩), .agg cs.toArray] w (SndPost X M base T p P N (replyW rem N x) 0 w (.tuple #[])) := by
  have HE := Lib.hid (show replyW rem N x = N by unfold replyW; rw [hn])
  obtain ⟨⟨⟨q1, q2, q3⟩, q4, q5, q6⟩, hQ⟩ := isL_ex hl
  dsimp only at hQ
  subst hQ
  have HNW := Lib.hid (show ∀ W, Fr (fun _ => False) w W → NodeAt W X M base T p P N ∧ x.isL W S [.int .i64 x.kind, .int .i64 x.frm, .int .i64 x.to, .int .i64 x.num, .string x.text, .int .i64 q1, .int .i64 q2, .string q3, .slice q4 q5 q6] from fun W hf => ⟨h.new hf (fun _ h => h), isL_frame hf.size (fun k hk hlt => ⟨hk, hf.block k hlt (fun h => h)⟩) hl⟩)
  have HNN := Lib.hid hn
  clear hl h hn
  go_enter Tryz.func148, Tryz.ntmps148
  go_wp2_with fail
  refine (none_any x _ S _ (HNW.out _ (by (repeat' first | with_reducible exact Fr.refl _ _ | (with_reducible refine Fr.setEq ?_ _) | (with_reducible refine Fr.setNew ?_ _) | with_reducible refine Fr.alloc ?_ _ | with_reducible refine Fr.drewN ?_ _ | with_reducible refine Fr.drew ?_))).2).mono ?_
  rintro e w1 (⟨_, rfl, hb⟩ | ⟨y, cs', hy, _⟩)
  rotate_left
  · rw [HNN.out] at hy; cases hy
  have HB := Lib.hid (show Fr (fun _ => False) w w1 from (show Fr (fun _ => False) w _ by (repeat' first | with_reducible exact Fr.refl _ _ | (with_reducible refine Fr.setEq ?_ _) | (with_reducible refine Fr.setNew ?_ _) | with_reducible refine Fr.alloc ?_ _ | with_reducible refine Fr.drewN ?_ _ | with_reducible refine Fr.drew ?_)).trans' (Fr.of_below hb))
  clear hb
  unfold zeroL
  go_wp2_with fail
  refine bodyPost_end (results_none rfl _ _ _) rfl ?_
  rw [HE.out]
  have hf : Fr (fun _ => False) w _ := HB.out.alloc (.cells #[.int .i64 0, .int .i64 0, .int .i64 0, .int .i64 0, .string ⟨#[]⟩, .int .i64 0, .int .i64 0, .string ⟨#[]⟩, .slice none 0 0] 154)
  exact ⟨⟨rfl, X, M, Gr.new hf, (HNW.out _ hf).1⟩, Nat.le_refl _, Nat.le_refl _⟩
set_option maxRecDepth 100000 in
set_option maxHeartbeats 4000000 in
theorem send_has {w : World} {X M : Nat → Prop} {base T p : Nat} {P : Int → Nat} {N : NdS} {k : Nat} (hrem : RemOk k) (x : LT) (cs : List Value) (S : Nat → Prop) (h : NodeAt w X M base T p P N) (hl : x.isL w S cs) (hx : LtWf x) (hk : 1 ≤ x.kind ∧ x.kind ≤ 5) (hlen : N.acts.length ≤ k) (hhas : N.has x.to = true) (hT : T ≤ 1000000000000) :
    Calls Tryz.prog 118 #[.pointer (some ⟨p, 0, none⟩), .agg cs.toArray] w (SndPost X M base T p P N (sendW (remK k) N x) 1 w (.tuple #[])) := by
  have HE := Lib.hid (show sendW (remK k) N x = deliverW (remK k) N x by unfold sendW; rw [if_pos hhas])
  obtain ⟨a, ha⟩ : ∃ a, N.find x.to = some a := Option.isSome_iff_exists.1 hhas
  obtain ⟨mb, c3, hmb, _, hlk, _⟩ := h.look
  obtain ⟨pa, -, _, _, _, _, hlook⟩ := hlk x.to a ha
  obtain ⟨⟨⟨q1, q2, q3⟩, q4, q5, q6⟩, hQ⟩ := isL_ex hl
  dsimp only at hQ
  subst hQ
  have HNW := Lib.hid (show ∀ W, Fr (fun _ => False) w W → NodeAt W X M base T p P N ∧ x.isL W S [.int .i64 x.kind, .int .i64 x.frm, .int .i64 x.to, .int .i64 x.num, .string x.text, .int .i64 q1, .int .i64 q2, .string q3, .slice q4 q5 q6] from fun W hf => ⟨h.new hf (fun _ h => h), isL_frame hf.size (fun k hk hlt => ⟨hk, hf.block k hlt (fun h => h)⟩) hl⟩)
  have HD := Lib.hid (fun (W : World) (hf : Fr (fun _ => False) w W) => deliver_any hrem x _ S (HNW.out W hf).1 (HNW.out W hf).2 hx hk hlen hhas hT)
  have hplt := h.p_lt
  obtain ⟨W, hW⟩ : ∃ W, W = w.alloc (.cells #[.int .i64 x.kind, .int .i64 x.frm, .int .i64 x.to, .int .i64 x.num, .string x.text, .int .i64 q1, .int .i64 q2, .string q3, .slice q4 q5 q6] 154) := ⟨_, rfl⟩
  have hf : Fr (fun _ => False) w W := by rw [hW]; exact (Fr.refl _ _).alloc _
  have hl1 : (Instr.lookup 129 (.map (some mb)) (.int .i64 x.to) false).run Tryz.prog W.drew = .ok (.pointer (some ⟨pa, 0, none⟩)) W.drew := hlook W.drew (hf.drew.weak (fun _ h => h.elim))
  have HFr := Lib.hid hf
  rw [hW] at hl1
  clear hl h hlk hlook ha hx hk hlen hhas hf hW
  go_enter Tryz.func118, Tryz.ntmps118
  go_wp2_with fail
  go_region
  all_goals
    go_wp2_with fail
    refine (HD.out _ (by (repeat' first | with_reducible exact Fr.refl _ _ | (with_reducible refine Fr.setEq ?_ _) | (with_reducible refine Fr.setNew ?_ _) | with_reducible refine Fr.alloc ?_ _ | with_reducible refine Fr.drewN ?_ _ | with_reducible refine Fr.drew ?_))).mono ?_
    rintro e w2 ⟨⟨rfl, X', M', hg, hn⟩, hp1, hp2⟩
    have HG := Lib.hid hg
    have HN2 := Lib.hid hn
    have HP := Lib.hid (And.intro hp1 hp2)
    clear hg hn hp1 hp2
    go_wp2_with fail
    refine bodyPost_end (results_none rfl _ _ _) rfl ?_
    rw [HE.out]
    exact ⟨⟨rfl, X', M', (Gr.new (show Fr (fun _ => False) w _ by (repeat' first | with_reducible exact Fr.refl _ _ | (with_reducible refine Fr.setEq ?_ _) | (with_reducible refine Fr.setNew ?_ _) | with_reducible refine Fr.alloc ?_ _ | with_reducible refine Fr.drewN ?_ _ | with_reducible refine Fr.drew ?_))).trans HG.out, HN2.out⟩, Nat.le_succ_of_le HP.out.1, HP.out.2⟩
end Go.Proofs.YthgbcgphkddmgaaGreat
namespace Go.Proofs.YthgbcgphkddmgaaGreat
open Go.RowKit Go.Maps
set_option linter.unusedVariables false
set_option linter.unusedSimpArgs false
set_option maxRecDepth 100000 in
set_option maxHeartbeats 4000000 in
theorem send_rep {w : World} {X M : Nat → Prop} {base T p : Nat} {P : Int → Nat} {N : NdS} (rem : NdS → Int → ByteArray → NdS) (x : LT) (cs : List Value) (S : Nat → Prop) (h : NodeAt w X M base T p P N) (hl : x.isL w S cs) (hx : LtWf x) (hhas : N.has x.to = false) (hloc : locN N x.to = N.id)
    (hrep : ∀ W, Fr (fun _ => False) w W → Calls Tryz.prog 148 #[.pointer (some ⟨p, 0, none⟩), .agg cs.toArray] W (SndPost X M base T p P N (replyW rem N x) 1 W (.tuple #[]))) :
    Calls Tryz.prog 118 #[.pointer (some ⟨p, 0, none⟩), .agg cs.toArray] w (SndPost X M base T p P N (sendW rem N x) 1 w (.tuple #[])) := by
  have HE := Lib.hid (show sendW rem N x = replyW rem N x by unfold sendW; rw [if_neg (by rw [hhas]; decide), if_neg (fun h => h hloc)])
  obtain ⟨mb, c3, hmb, _, _, hlk⟩ := h.look
  have hlook := hlk x.to hx.2.1 hhas
  obtain ⟨⟨⟨q1, q2, q3⟩, q4, q5, q6⟩, hQ⟩ := isL_ex hl
  dsimp only at hQ
  subst hQ
  have HNW := Lib.hid (show ∀ W, Fr (fun _ => False) w W → NodeAt W X M base T p P N ∧ x.isL W S [.int .i64 x.kind, .int .i64 x.frm, .int .i64 x.to, .int .i64 x.num, .string x.text, .int .i64 q1, .int .i64 q2, .string q3, .slice q4 q5 q6] from fun W hf => ⟨h.new hf (fun _ h => h), isL_frame hf.size (fun k hk hlt => ⟨hk, hf.block k hlt (fun h => h)⟩) hl⟩)
  have HLOC := Lib.hid (fun (W : World) (hf : Fr (fun _ => False) w W) => location_any (HNW.out W hf).1 x.to hx.2.1)
  have hplt := h.p_lt
  have c0 : w.cell? ⟨p, 0, none⟩ = some (.int .i64 N.id) := by
    obtain ⟨_, _, _, _, _, _, _, _, h4, _⟩ := h
    exact h4.c0
  obtain ⟨W, hW⟩ : ∃ W, W = w.alloc (.cells #[.int .i64 x.kind, .int .i64 x.frm, .int .i64 x.to, .int .i64 x.num, .string x.text, .int .i64 q1, .int .i64 q2, .string q3, .slice q4 q5 q6] 154) := ⟨_, rfl⟩
  have hf : Fr (fun _ => False) w W := by rw [hW]; exact (Fr.refl _ _).alloc _
  have hl1 : (Instr.lookup 129 (.map (some mb)) (.int .i64 x.to) false).run Tryz.prog W.drew = .ok (.pointer none) W.drew := hlook W.drew (hf.drew.weak (fun _ h => h.elim))
  have HF := Lib.hid hf
  rw [hW] at hl1
  have z0 : W.cell? ⟨w.heap.size, 0, none⟩ = some (.int .i64 x.kind) := by rw [hW]; simp [go_sem]
  have z1 : W.cell? ⟨w.heap.size, 1, none⟩ = some (.int .i64 x.frm) := by rw [hW]; simp [go_sem]
  have z2 : W.cell? ⟨w.heap.size, 2, none⟩ = some (.int .i64 x.to) := by rw [hW]; simp [go_sem]
  have z3 : W.cell? ⟨w.heap.size, 3, none⟩ = some (.int .i64 x.num) := by rw [hW]; simp [go_sem]
  have z4 : W.cell? ⟨w.heap.size, 4, none⟩ = some (.string x.text) := by rw [hW]; simp [go_sem]
  have z5 : W.cell? ⟨w.heap.size, 5, none⟩ = some (.int .i64 q1) := by rw [hW]; simp [go_sem]
  have z6 : W.cell? ⟨w.heap.size, 6, none⟩ = some (.int .i64 q2) := by rw [hW]; simp [go_sem]
  have z7 : W.cell? ⟨w.heap.size, 7, none⟩ = some (.string q3) := by rw [hW]; simp [go_sem]
  have z8 : W.cell? ⟨w.heap.size, 8, none⟩ = some (.slice q4 q5 q6) := by rw [hW]; simp [go_sem]
  have d0 := hf.cell c0 (fun h => h)
  have hpW : p < W.heap.size := by have := hf.size; omega
  have hwW : w.heap.size < W.heap.size := by rw [hW]; simp
  have HREP := Lib.hid hrep
  have HL := Lib.hid hloc
  clear hl h hlk hlook hx hhas hW hrep hloc hf
  go_enter Tryz.func118, Tryz.ntmps118
  go_wp2_with fail
  go_region
  all_goals
    go_wp2_with fail
    go_region_with (first | (go_at_call 161; refine (HLOC.out _ (by (repeat' first | with_reducible exact Fr.refl _ _ | (with_reducible refine Fr.setEq ?_ _) | (with_reducible refine Fr.setNew ?_ _) | with_reducible refine Fr.alloc ?_ _ | with_reducible refine Fr.drewN ?_ _ | with_reducible refine Fr.drew ?_))).mono ?_; rintro e w2 ⟨rfl, rfl⟩; rw [HL.out]))
    all_goals
      go_wp2_with fail
      refine (HREP.out _ (by (repeat' first | with_reducible exact Fr.refl _ _ | (with_reducible refine Fr.setEq ?_ _) | (with_reducible refine Fr.setNew ?_ _) | with_reducible refine Fr.alloc ?_ _ | with_reducible refine Fr.drewN ?_ _ | with_reducible refine Fr.drew ?_))).mono ?_
      rintro e w2 ⟨⟨rfl, X', M', hg, hn⟩, hp1, hp2⟩
      have HG := Lib.hid hg
      have HN2 := Lib.hid hn
      have HP := Lib.hid (And.intro hp1 hp2)
      clear hg hn hp1 hp2
      go_wp2_with fail
      refine bodyPost_end (results_none rfl _ _ _) rfl ?_
      rw [HE.out]
      exact ⟨⟨rfl, X', M', (Gr.new (show Fr (fun _ => False) w _ by (repeat' first | with_reducible exact Fr.refl _ _ | (with_reducible refine Fr.setEq ?_ _) | (with_reducible refine Fr.setNew ?_ _) | with_reducible refine Fr.alloc ?_ _ | with_reducible refine Fr.drewN ?_ _ | with_reducible refine Fr.drew ?_))).trans HG.out, HN2.out⟩, HP.out.1, HP.out.2⟩
end Go.Proofs.YthgbcgphkddmgaaGreat
namespace Go.Proofs.YthgbcgphkddmgaaGreat
open Go.RowKit Go.Maps
set_option linter.unusedVariables false
set_option linter.unusedSimpArgs false
theorem OutAt.app {w w1 w2 : World} {X : Nat → Prop} {base g cap : Nat} {v : Value} {ob : Option Nat} {C : Nat → List Value} {l : List LT} {x : LT} {xs : List Value} (h : OutAt w X base v ob C l) (hX : ∀ k, X k → k < w.heap.size) (hob : ∀ k, ob = some k → X k) (h1 : Below w.heap.size w w1) (hx : x.isL w1 (fun k => w.heap.size ≤ k) xs)
    (h2 : Fr (fun k => ob = some k) w1 w2) (hg : ob = some g ∨ w1.heap.size ≤ g) (hr : w2.ownsRow base 154 9 (.slice (some ⟨g, 0, none⟩) (l.length + 1) cap) (l.length + 1) (flatC C l.length ++ xs)) : OutAt w2 (fun k => X k ∨ k = g) base (.slice (some ⟨g, 0, none⟩) (l.length + 1) cap) (some g) (updC C l.length xs) (l ++ [x]) := by
  have hz := h1.size
  have hf1 := Fr.of_below (S := fun k => ob = some k) h1
  have hf : Fr (fun k => ob = some k) w w2 := hf1.trans' h2
  have hl := isL_len hx
  rw [flatC_snoc] at hr
  refine ⟨by simpa using hr, fun i => ?_, fun i hi => ?_, rfl⟩
  · unfold updC
    split
    · exact hl
    · exact h.len i
  · unfold updC
    have hi' : i < l.length + 1 := by simpa using hi
    by_cases e : i = l.length
    · rw [if_pos e, nthL_snoc hi', if_pos e]
      refine isL_frame h2.size (fun k hk hlt => ⟨fun hh => ?_, h2.block k hlt (fun hs => ?_)⟩) hx
      · have hk' : w.heap.size ≤ k := hk
        rcases hh with hh | hh
        · have := hX k hh; omega
        · subst hh
          rcases hg with e | e
          · have := hX k (hob k e); omega
          · omega
      · have hk' : w.heap.size ≤ k := hk
        have := hX k (hob k hs); omega
    · rw [if_neg e, nthL_snoc hi', if_neg e]
      exact isL_fr (X' := fun k => X k ∨ k = g) (h.each i (by omega)) hf hob (fun k hk => by
        rcases hk with hk | hk
        · exact .inl hk
        · subst hk
          rcases hg with e | e
          · exact .inl (hob k e)
          · exact .inr (by omega))
set_option maxRecDepth 100000 in
set_option maxHeartbeats 4000000 in
theorem send_out {w : World} {X M : Nat → Prop} {base T p : Nat} {P : Int → Nat} {N : NdS} (rem : NdS → Int → ByteArray → NdS) (x : LT) (cs : List Value) (S : Nat → Prop) (h : NodeAt w X M base T p P N) (hl : x.isL w S cs) (hx : LtWf x) (hhas : N.has x.to = false) (hloc : ¬ locN N x.to = N.id) (hpot : pot N + 1 ≤ T) (hT : T ≤ 1000000000000) :
    Calls Tryz.prog 118 #[.pointer (some ⟨p, 0, none⟩), .agg cs.toArray] w (SndPost X M base T p P N (sendW rem N x) 1 w (.tuple #[])) := by
  have HE := Lib.hid (show sendW rem N x = { N with out := N.out ++ [x] } by unfold sendW; rw [if_neg (by rw [hhas]; decide), if_pos hloc])
  have HX := Lib.hid h.xlt
  have HMX := Lib.hid h.2.2.1
  obtain ⟨Ao, co, C, ob, c8, ho, hob, hback⟩ := h.outRow
  have HO := Lib.hid ho
  have HOB := Lib.hid hob
  have HBACK := Lib.hid hback
  have hm4 : x.val.many ≤ 4194304 := by have := hx.2.2.2.2; omega
  have fzp : ∀ o, w.frozen? ⟨p, o, none⟩ = false := by
    obtain ⟨_, _, _, _, _, _, _, _, h4, _⟩ := h
    exact h4.fz
  have hn3 : N.out.length < 1000000000000 := by unfold pot at hpot; omega
  have hlb : base ≤ w.heap.size := by have := h.pM.2.2; have := h.p_lt; omega
  obtain ⟨mb, c3, hmb, _, _, hlk⟩ := h.look
  have hlook := hlk x.to hx.2.1 hhas
  obtain ⟨⟨⟨q1, q2, q3⟩, q4, q5, q6⟩, hQ⟩ := isL_ex hl
  dsimp only at hQ
  subst hQ
  have HNW := Lib.hid (show ∀ W, Fr (fun _ => False) w W → NodeAt W X M base T p P N ∧ x.isL W S [.int .i64 x.kind, .int .i64 x.frm, .int .i64 x.to, .int .i64 x.num, .string x.text, .int .i64 q1, .int .i64 q2, .string q3, .slice q4 q5 q6] from fun W hf => ⟨h.new hf (fun _ h => h), isL_frame hf.size (fun k hk hlt => ⟨hk, hf.block k hlt (fun h => h)⟩) hl⟩)
  have HLOC := Lib.hid (fun (W : World) (hf : Fr (fun _ => False) w W) => location_any (HNW.out W hf).1 x.to hx.2.1)
  have hplt := h.p_lt
  have c0 : w.cell? ⟨p, 0, none⟩ = some (.int .i64 N.id) := by
    obtain ⟨_, _, _, _, _, _, _, _, h4, _⟩ := h
    exact h4.c0
  obtain ⟨W, hW⟩ : ∃ W, W = w.alloc (.cells #[.int .i64 x.kind, .int .i64 x.frm, .int .i64 x.to, .int .i64 x.num, .string x.text, .int .i64 q1, .int .i64 q2, .string q3, .slice q4 q5 q6] 154) := ⟨_, rfl⟩
  have hf : Fr (fun _ => False) w W := by rw [hW]; exact (Fr.refl _ _).alloc _
  have hl1 : (Instr.lookup 129 (.map (some mb)) (.int .i64 x.to) false).run Tryz.prog W.drew = .ok (.pointer none) W.drew := hlook W.drew (hf.drew.weak (fun _ h => h.elim))
  have HF := Lib.hid hf
  rw [hW] at hl1
  have z0 : W.cell? ⟨w.heap.size, 0, none⟩ = some (.int .i64 x.kind) := by rw [hW]; simp [go_sem]
  have z1 : W.cell? ⟨w.heap.size, 1, none⟩ = some (.int .i64 x.frm) := by rw [hW]; simp [go_sem]
  have z2 : W.cell? ⟨w.heap.size, 2, none⟩ = some (.int .i64 x.to) := by rw [hW]; simp [go_sem]
  have z3 : W.cell? ⟨w.heap.size, 3, none⟩ = some (.int .i64 x.num) := by rw [hW]; simp [go_sem]
  have z4 : W.cell? ⟨w.heap.size, 4, none⟩ = some (.string x.text) := by rw [hW]; simp [go_sem]
  have z5 : W.cell? ⟨w.heap.size, 5, none⟩ = some (.int .i64 q1) := by rw [hW]; simp [go_sem]
  have z6 : W.cell? ⟨w.heap.size, 6, none⟩ = some (.int .i64 q2) := by rw [hW]; simp [go_sem]
  have z7 : W.cell? ⟨w.heap.size, 7, none⟩ = some (.string q3) := by rw [hW]; simp [go_sem]
  have z8 : W.cell? ⟨w.heap.size, 8, none⟩ = some (.slice q4 q5 q6) := by rw [hW]; simp [go_sem]
  have d0 := hf.cell c0 (fun h => h)
  have hpW : p < W.heap.size := by have := hf.size; omega
  have hwW : w.heap.size < W.heap.size := by rw [hW]; simp
  have d8 := hf.cell c8 (fun h => h)
  have df : ∀ o, W.frozen? ⟨p, o, none⟩ = false := fun o => (hf.frozen hplt (fun h => h)).trans (fzp o)
  have hl' : (locN N x.to != N.id) = true := by simpa using hloc
  have hl2 : (locN N x.to == N.id) = false := by simpa using hloc
  have HP := Lib.hid hpot
  have HWW := Lib.hid hW
  obtain ⟨i0, hi, jz0, jz1, jz2⟩ := info_parts infoL
  clear hl h hlk hlook hx hhas hloc hf hpot ho hob hback hW
  go_enter Tryz.func118, Tryz.ntmps118
  go_wp2_with fail
  go_region
  all_goals
    go_wp2_with fail
    rw [← HWW.out]
    go_cut [19] (fun v wx => v = .bool true ∧ Hid (Fr (fun _ => False) W wx))
    case first =>
      go_region_with (first | (go_at_call 161; refine (HLOC.out _ (HF.out.trans' (by (repeat' first | with_reducible exact Fr.refl _ _ | (with_reducible refine Fr.setEq ?_ _) | (with_reducible refine Fr.setNew ?_ _) | with_reducible refine Fr.alloc ?_ _ | with_reducible refine Fr.drewN ?_ _ | with_reducible refine Fr.drew ?_)))).mono ?_; rintro e w2 ⟨rfl, rfl⟩))
      all_goals
        go_wp2_with fail
        go_meet
        exact ⟨by simp [hl', hl2], Lib.hid (by (repeat' first | with_reducible exact Fr.refl _ _ | (with_reducible refine Fr.setEq ?_ _) | (with_reducible refine Fr.setNew ?_ _) | with_reducible refine Fr.alloc ?_ _ | with_reducible refine Fr.drewN ?_ _ | with_reducible refine Fr.drew ?_))⟩
    case rest =>
      obtain ⟨rfl, HFW⟩ := hcut
      have hfw := HFW.out
      have HFC := Lib.hid (HF.out.trans' hfw)
      have hz0 := hfw.size
      have k0 := hfw.cell z0 (fun h => h)
      have k1 := hfw.cell z1 (fun h => h)
      have k2 := hfw.cell z2 (fun h => h)
      have k3 := hfw.cell z3 (fun h => h)
      have k4 := hfw.cell z4 (fun h => h)
      have k5 := hfw.cell z5 (fun h => h)
      have k6 := hfw.cell z6 (fun h => h)
      have k7 := hfw.cell z7 (fun h => h)
      have k8 := hfw.cell z8 (fun h => h)
      have e8 := hfw.cell d8 (fun h => h)
      have ef : ∀ o, wc.frozen? ⟨p, o, none⟩ = false := fun o => (hfw.frozen hpW (fun h => h)).trans (df o)
      have hpc : p < wc.heap.size := by omega
      have hOC : wc.ownsRow base 154 9 (.slice Ao N.out.length co) N.out.length (flatC C N.out.length) := HFC.out.row HO.out.row (fun _ _ h => h)
      have HOC := Lib.hid hOC
      have HLC := Lib.hid (show x.isL wc.drew S _ from (HNW.out wc.drew (HFC.out.drew)).2)
      clear z0 z1 z2 z3 z4 z5 z6 z7 z8 d0 d8 df hl1 c0 c8 hfw hOC
      go_wp2_with fail
      go_region_law
        (first
          | (refine step_call1 (by rfl) 162 (fun _ _ => by kernel_rfl) _ _ (by rfl) (.agg #[.int .i64 x.kind, .int .i64 x.frm, .int .i64 x.to, .int .i64 x.num, .string x.text, .int .i64 q1, .int .i64 q2, .string q3, .slice q4 q5 q6]) (by simp [Act.eval, Act.put]) (lcopy_any x _ S wc.drew HLC.out hm4) ?_; rintro e w1 ⟨cs1, rfl, hv1, hb1⟩; refine ⟨_, rfl, ?_⟩; obtain ⟨⟨⟨r1, r2, r3⟩, r4, r5, r6⟩, hR⟩ := isL_ex hv1; dsimp only at hR; subst hR; have HV1 := Lib.hid hv1; have HB1 := Lib.hid (show Below wc.heap.size wc w1 from ((Below.refl _ _).drew).trans hb1); have hz1 := HB1.out.size; have hb1w : p < w1.heap.size := (by omega); have f8 := (HB1.out.cell (p := ⟨p, 8, none⟩) hpc).trans e8; have HR1 := Lib.hid (own_below HOC.out HB1.out); clear hv1 hb1)
          | (refine step_append_lies _ (by rfl) _ _ _ (by rfl) base 154 i0 _ 9 104 Tryz.underlying115 hi jz0 jz1 jz2 rfl (by omega) (.slice Ao N.out.length co) N.out.length (flatC C N.out.length) (by rfl) (HR1.out.alloc _) ⟨w1.heap.size, 0, none⟩ 1 1 [.int .i64 x.kind, .int .i64 x.frm, .int .i64 x.to, .int .i64 x.num, .string x.text, .int .i64 r1, .int .i64 r2, .string r3, .slice r4 r5 r6] (by rfl) (by rfl) (cell_newL _ _ _ _ rfl) (isL_one HV1.out) (by omega) (by unfold maxLen; omega) (by omega) (by simp; omega) (w1.heap.size + 1) (by simp) ?_; intro g cap w5 hown5 hgrow5 hat5 hlt5; have hneb : some p ≠ (Value.slice Ao N.out.length co).ownBlock := (fun e => (HOB.out p (HO.out.blk.symm.trans e.symm)).2 rfl); have hp5 : p < (w1.alloc (.cells #[.int .i64 x.kind, .int .i64 x.frm, .int .i64 x.to, .int .i64 x.num, .string x.text, .int .i64 r1, .int .i64 r2, .string r3, .slice r4 r5 r6] 154)).heap.size := (by simp; omega); have x8 := (grown_cell (b := p) (o := 8) hgrow5 hp5 hneb).trans ((World.cell?_alloc_lt _ _ ⟨p, 8, none⟩ hb1w).trans f8); have y8 : w5.frozen? ⟨p, 8, none⟩ = false := ((grown_frozen (b := p) (o := 8) hgrow5 hp5 hneb).trans ((grown_frozen (b := p) (o := 8) (World.grownBy_alloc w1 _ none) hb1w (by simp)).trans ((grown_frozen (b := p) (o := 8) (grown_below (g := none) HB1.out) hpc (by simp)).trans (ef 8)))); have HG5 := Lib.hid hgrow5; have HO5 := Lib.hid hown5; have HA5 := Lib.hid hat5; clear hown5 hgrow5 hat5))
      all_goals
        try simp only [Act.put, List.getElem_toArray, List.getElem_cons_zero, List.getElem_cons_succ, List.setIfInBounds_toArray, List.set_cons_zero, List.set_cons_succ]
        go_wp2_with fail
        refine bodyPost_end (results_none rfl _ _ _) rfl ?_
        rw [HE.out]
        have hblk := HO.out.blk
        have hgg : ob = some g ∨ w1.heap.size + 1 ≤ g := by
          rcases HA5.out with h | h
          · exact .inl (hblk.symm.trans h)
          · exact .inr (by omega)
        have hw1 : Below w.heap.size w w1 := by
          have h1 := HFC.out.below (base := w.heap.size) (fun _ h => h.elim) (Nat.le_refl _)
          exact h1.trans (HB1.out.mono HFC.out.size)
        have hw1a : Below w.heap.size w (w1.alloc (.cells #[.int .i64 x.kind, .int .i64 x.frm, .int .i64 x.to, .int .i64 x.num, .string x.text, .int .i64 r1, .int .i64 r2, .string r3, .slice r4 r5 r6] 154)) := hw1.alloc hw1.size _
        have hf5 : Fr (fun k => ob = some k) (w1.alloc (.cells #[.int .i64 x.kind, .int .i64 x.frm, .int .i64 x.to, .int .i64 x.num, .string x.text, .int .i64 r1, .int .i64 r2, .string r3, .slice r4 r5 r6] 154)) w5 := Fr.of_grown HG5.out (fun k hk => .inl (hblk.symm.trans hk))
        have hzc := HFC.out.size
        have hx5 : x.isL (w1.alloc (.cells #[.int .i64 x.kind, .int .i64 x.frm, .int .i64 x.to, .int .i64 x.num, .string x.text, .int .i64 r1, .int .i64 r2, .string r3, .slice r4 r5 r6] 154)) (fun k => w.heap.size ≤ k) _ := isL_frame (S := fun k => wc.drew.heap.size ≤ k) (by simp) (fun k hk hlt => ⟨by have h9 : wc.heap.size ≤ k := hk; omega, Below.heap_alloc w1 _ k hlt⟩) HV1.out
        obtain ⟨b1, b2⟩ := HBACK.out w5 g _ (N.out ++ [x]) _ ((Fr.of_below hw1a).trans' hf5) (by rcases hgg with e | e; exact .inl e; exact .inr (by have := hw1.size; omega)) (OutAt.app HO.out HX.out (fun k hk => (HMX.out k (HOB.out k hk).1).1) hw1a hx5 hf5 (by rcases hgg with e | e; exact .inl e; exact .inr (by simp; omega)) HO5.out) (by have := HP.out; unfold pot at this; simp; omega)
        exact ⟨⟨rfl, _, _, b1, b2⟩, by unfold pot; simp; omega, Nat.le_refl _⟩
end Go.Proofs.YthgbcgphkddmgaaGreat
namespace Go.Proofs.YthgbcgphkddmgaaGreat
open Go.RowKit Go.Maps
set_option linter.unusedVariables false
set_option linter.unusedSimpArgs false
theorem send_with {w : World} {X M : Nat → Prop} {base T p : Nat} {P : Int → Nat} {N : NdS} {k : Nat} (hrem : RemOk k) (x : LT) (cs : List Value) (S : Nat → Prop) (h : NodeAt w X M base T p P N) (hl : x.isL w S cs) (hx : LtWf x) (hk : 1 ≤ x.kind ∧ x.kind ≤ 5) (hlen : N.acts.length ≤ k) (hpot : pot N + 1 ≤ T) (hT : T ≤ 1000000000000)
    (hrep : ∀ W, Fr (fun _ => False) w W → Calls Tryz.prog 148 #[.pointer (some ⟨p, 0, none⟩), .agg cs.toArray] W (SndPost X M base T p P N (replyW (remK k) N x) 1 W (.tuple #[]))) :
    Calls Tryz.prog 118 #[.pointer (some ⟨p, 0, none⟩), .agg cs.toArray] w (SndPost X M base T p P N (sendW (remK k) N x) 1 w (.tuple #[])) := by
  rcases hh : N.has x.to with _ | _
  · by_cases hloc : locN N x.to = N.id
    · exact send_rep _ x cs S h hl hx hh hloc hrep
    · exact send_out _ x cs S h hl hx hh hloc hpot hT
  · exact send_has hrem x cs S h hl hx hk hlen hh hT
theorem SndPost.up {X M : Nat → Prop} {base T p : Nat} {P : Int → Nat} {N N' : NdS} {c c' : Nat} {w : World} {v : Value} {e : Ending} {w' : World} (h : SndPost X M base T p P N N' c w v e w') (hc : c ≤ c') : SndPost X M base T p P N N' c' w v e w' := ⟨h.1, by have := h.2.1; omega, h.2.2⟩
theorem noneL_some {x y : LT} (h : noneL x = some y) : noneL y = none ∧ (1 ≤ y.kind ∧ y.kind ≤ 5) ∧ (LtWf x → LtWf y) := by
  unfold noneL at h
  have w0 : Wf 0 := Wf.of (by decide) (by decide)
  have w2 : Wf 2 := Wf.of (by decide) (by decide)
  have leaf : ∀ k m : Int, Wf m → (vLeaf k m).wf ∧ (vLeaf k m).many ≤ 1000 := fun k m hm => by
    have := hm.low
    exact ⟨⟨⟨by omega, by omega⟩, fun i hi => by omega⟩, by simp [vLeaf, VT.many, sumTo]⟩
  split at h
  · injection h with h
    subst h
    exact ⟨rfl, ⟨show (1 : Int) ≤ 2 by decide, show (2 : Int) ≤ 5 by decide⟩, fun hx => ⟨hx.2.1, hx.1, w2, leaf 0 0 w0⟩⟩
  · split at h
    · injection h with h
      subst h
      exact ⟨rfl, ⟨show (1 : Int) ≤ 5 by decide, show (5 : Int) ≤ 5 by decide⟩, fun hx => ⟨hx.2.1, hx.1, w0, leaf 0 0 w0⟩⟩
    · cases h
set_option maxRecDepth 100000 in
set_option maxHeartbeats 4000000 in
theorem reply_any {w : World} {X M : Nat → Prop} {base T p : Nat} {P : Int → Nat} {N : NdS} {k : Nat} (hrem : RemOk k) (x : LT) (cs : List Value) (S : Nat → Prop) (h : NodeAt w X M base T p P N) (hl : x.isL w S cs) (hx : LtWf x) (hlen : N.acts.length ≤ k) (hpot : pot N + 1 ≤ T) (hT : T ≤ 1000000000000) :
    Calls Tryz.prog 148 #[.pointer (some ⟨p, 0, none⟩), .agg cs.toArray] w (SndPost X M base T p P N (replyW (remK k) N x) 1 w (.tuple #[])) := by
  rcases hn : noneL x with _ | y
  · exact (reply_plain (remK k) x cs S h hl hn).mono fun _ _ h => h.up (by omega)
  · obtain ⟨hy, hyk, hyw⟩ := noneL_some hn
    have hyw := hyw hx
    have HE := Lib.hid (show replyW (remK k) N x = sendW (remK k) N y by unfold replyW; rw [hn]; unfold sendW send1W replyW; rw [hy])
    have HS := Lib.hid (fun (W : World) (hf : Fr (fun _ => False) w W) (cs' : List Value) (hl' : y.isL W (fun _ => True) cs') => send_with hrem y cs' (fun _ => True) (h.new hf (fun _ h => h)) hl' hyw hyk hlen hpot hT (fun W2 hf2 => (reply_plain (remK k) y cs' (fun _ => True) (h.new (hf.trans' hf2) (fun _ h => h)) (isL_frame hf2.size (fun b hb hlt => ⟨trivial, hf2.block b hlt (fun h => h)⟩) hl') hy).mono fun _ _ h => h.up (by omega)))
    obtain ⟨⟨⟨q1, q2, q3⟩, q4, q5, q6⟩, hQ⟩ := isL_ex hl
    dsimp only at hQ
    subst hQ
    have HL := Lib.hid (show ∀ W, Fr (fun _ => False) w W → x.isL W S [.int .i64 x.kind, .int .i64 x.frm, .int .i64 x.to, .int .i64 x.num, .string x.text, .int .i64 q1, .int .i64 q2, .string q3, .slice q4 q5 q6] from fun W hf => isL_frame hf.size (fun k hk hlt => ⟨hk, hf.block k hlt (fun h => h)⟩) hl)
    have HN := Lib.hid hn
    clear hl h hx hn hy hyk hyw
    go_enter Tryz.func148, Tryz.ntmps148
    go_wp2_with fail
    refine (none_any x _ S _ (HL.out _ (by (repeat' first | with_reducible exact Fr.refl _ _ | (with_reducible refine Fr.setEq ?_ _) | (with_reducible refine Fr.setNew ?_ _) | with_reducible refine Fr.alloc ?_ _ | with_reducible refine Fr.drewN ?_ _ | with_reducible refine Fr.drew ?_)))).mono ?_
    rintro e w1 (⟨h, _⟩ | ⟨y', cs', hy, rfl, hcs, hb⟩)
    · rw [HN.out] at h; cases h
    have e1 : y = y' := by rw [HN.out] at hy; injection hy
    subst e1
    have HB := Lib.hid (show Fr (fun _ => False) w w1 from (show Fr (fun _ => False) w _ by (repeat' first | with_reducible exact Fr.refl _ _ | (with_reducible refine Fr.setEq ?_ _) | (with_reducible refine Fr.setNew ?_ _) | with_reducible refine Fr.alloc ?_ _ | with_reducible refine Fr.drewN ?_ _ | with_reducible refine Fr.drew ?_)).trans' (Fr.of_below hb))
    have HCS := Lib.hid hcs
    obtain ⟨⟨⟨r1, r2, r3⟩, r4, r5, r6⟩, hR⟩ := isL_ex (hcs w1 (fun _ => True))
    dsimp only at hR
    subst hR
    clear hb hcs hy
    go_wp2_with fail
    refine (HS.out _ (HB.out.alloc _) _ (HCS.out _ _)).mono ?_
    rintro e w2 ⟨⟨rfl, X', M', hg, hn⟩, hp1, hp2⟩
    have HG := Lib.hid hg
    have HN2 := Lib.hid hn
    have HP := Lib.hid (And.intro hp1 hp2)
    clear hg hn hp1 hp2
    go_wp2_with fail
    refine bodyPost_end (results_none rfl _ _ _) rfl ?_
    rw [HE.out]
    exact ⟨⟨rfl, X', M', (Gr.new (HB.out.alloc _)).trans HG.out, HN2.out⟩, HP.out.1, HP.out.2⟩
theorem send_any {w : World} {X M : Nat → Prop} {base T p : Nat} {P : Int → Nat} {N : NdS} {k : Nat} (hrem : RemOk k) (x : LT) (cs : List Value) (S : Nat → Prop) (h : NodeAt w X M base T p P N) (hl : x.isL w S cs) (hx : LtWf x) (hk : 1 ≤ x.kind ∧ x.kind ≤ 5) (hlen : N.acts.length ≤ k) (hpot : pot N + 1 ≤ T) (hT : T ≤ 1000000000000) :
    Calls Tryz.prog 118 #[.pointer (some ⟨p, 0, none⟩), .agg cs.toArray] w (SndPost X M base T p P N (sendW (remK k) N x) 1 w (.tuple #[])) :=
  send_with hrem x cs S h hl hx hk hlen hpot hT (fun W hf => reply_any hrem x cs S (h.new hf (fun _ h => h)) (isL_frame hf.size (fun b hb hlt => ⟨hb, hf.block b hlt (fun h => h)⟩) hl) hx hlen hpot hT)
/-- the map of the actors has turned -/
theorem NodeG.del {w w' : World} {X M : Nat → Prop} {base T p mb hb : Nat} {P : Int → Nat} {MA : Int → Nat → Prop} {ob sb : Option Nat} {N : NdS} (h : NodeG w X base T p mb hb P MA ob sb N) (hm : Mine M p mb hb MA ob sb N) (hMX : ∀ k, M k → X k ∧ base ≤ k) (r : Int) (hf : Fr (fun k => k = mb) w w')
    (ho : OwnM w' mb (N.delA r).acts.length (fun x => if (N.delA r).has x then some (.pointer (some ⟨P x, 0, none⟩)) else none)) : NodeG w' X base T p mb hb P MA ob sb (N.delA r) := by
  have hS : ∀ k, k = mb → X k ∧ base ≤ k := fun k hk => hk ▸ hMX mb hm.mb
  obtain ⟨a1, a2, a3, a4, a5⟩ := h.ap
  have hp : ¬ p = mb := a1
  obtain ⟨A2, c2, s1, s2⟩ := h.c2
  obtain ⟨v4, r1, r2⟩ := h.c4
  obtain ⟨v8, C, o1, o2⟩ := h.c8
  obtain ⟨v9, q1, q2, q3⟩ := h.c9
  obtain ⟨n, k1, k2⟩ := h.hm
  have hl := h.lt
  exact ⟨hf.cell h.c0 hp, hf.cell h.c1 hp, ⟨A2, c2, hf.cell s1 hp, s2.fr hf (fun k hk => (hS k hk).2)⟩, hf.cell h.c3 hp, ⟨v4, hf.cell r1 hp, r2.fr hf (fun k hk => (hS k hk).1) (fun k hk => .inl hk)⟩, hf.cell h.c5 hp, hf.cell h.c6 hp, hf.cell h.c7 hp, ⟨v8, C, hf.cell o1 hp, o2.fr hf (fun k hk => (hS k hk).1) (fun k hk => .inl hk) (fun k hk hs => (a4 k hk).2.1 hs)⟩, ⟨v9, hf.cell q1 hp, hf.row q2 (fun k hk hs => (a5 k (q3.symm.trans hk)).2.1 hs), q3⟩,
    fun o => (hf.frozen hl.1 hp).trans (h.fz o), ho, ⟨n, k1.fr hf (fun e => a3 e.symm), k2⟩, fun a ha => by
      obtain ⟨ha, _⟩ := mem_delA.1 ha
      obtain ⟨b, rb, kb, ib, hh⟩ := h.acts a ha
      exact ⟨b, rb, kb, ib, hh.fr hf (fun k hk => (hS k hk).1) (fun k hk => .inl hk) (fun k hk => (hS k hk).2) (Nat.le_refl _) (fun k hk hs => (h.own a ha k hk).2.1 hs)⟩, fun a b ha hb => h.disj a b (mem_delA.1 ha).1 (mem_delA.1 hb).1, fun a ha => h.own a (mem_delA.1 ha).1, h.ap, by
      have h1 := h.lim
      have h2 : (N.delA r).acts.length ≤ N.acts.length := List.length_filter_le _ _
      have h3 : (N.delA r).out = N.out := rfl
      have h4 : (N.delA r).said = N.said := rfl
      rw [h3, h4]
      omega⟩
set_option maxRecDepth 100000 in
/-- one is struck from the map -/
theorem NodeAt.del {w : World} {X M : Nat → Prop} {base T p : Nat} {P : Int → Nat} {N : NdS} (h : NodeAt w X M base T p P N) {r : Int} (hr : N.has r = true) : ∃ mb, w.cell? ⟨p, 3, none⟩ = some (.map (some mb)) ∧ ∀ ty, ∃ w', (Builtin.delete_ #[129, 3] ty #[.map (some mb), .int .i64 r]).run Tryz.prog w = .ok (.tuple #[]) w' ∧ Gr X M w X M w' ∧ NodeAt w' X M base T p P (N.delA r) := by
  obtain ⟨h1, h2, h3, mb, hb, MA, ob, sb, h4, h5⟩ := h
  obtain ⟨a, ha, rfl⟩ := has_iff.1 hr
  have hwf := (h1.act a ha).ref
  refine ⟨mb, h4.c3, fun ty => ?_⟩
  obtain ⟨w', hrun, ho, hg⟩ := OwnM.drop und_actors h4.am a.ref hwf ty
  have hf : Fr (fun k => k = mb) w w' := Fr.of_grown hg (fun k hk => .inl (by injection hk with hk; exact hk.symm))
  have hlen := len_delA h1.srt hr
  have hcond : (if N.has a.ref = true then some (Value.pointer (some ⟨P a.ref, 0, none⟩)) else none : Option Value).isSome = true := by rw [if_pos hr]; rfl
  rw [if_pos hcond] at ho
  refine ⟨w', hrun, ⟨hf.weak (fun k hk => hk ▸ h5.mb), fun _ h => h, fun _ h => .inl h, fun _ h => .inl h⟩, h1.delA a.ref, fun k hk => Nat.lt_of_lt_of_le (h2 k hk) hf.size, h3, mb, hb, MA, ob, sb, h4.del h5 h3 a.ref hf ?_, ⟨h5.p, h5.mb, h5.hb, h5.ob, h5.sb, fun b hb => h5.act b (mem_delA.1 hb).1⟩⟩
  have e : (N.delA a.ref).acts.length = N.acts.length - 1 := by omega
  rw [e]
  refine ho.congr (fun x _ => ?_)
  rw [has_delA]
  by_cases e : x = a.ref
  · rw [if_pos e, if_pos e]; rfl
  · rw [if_neg e, if_neg e]
theorem tell_wf {rows : List Li.LR} {ref : Int} {failed : Bool} {text : ByteArray} (h : RowsOk rows) (hr : Wf ref) {y : LT} (hy : y ∈ tellL rows ref failed text) : LtWf y ∧ 1 ≤ y.kind ∧ y.kind ≤ 5 := by
  have w0 : Wf 0 := Wf.of (by decide) (by decide)
  have w1 : Wf 1 := Wf.of (by decide) (by decide)
  have leaf : (vLeaf 0 0).wf ∧ (vLeaf 0 0).many ≤ 1000 := ⟨⟨⟨by decide, by decide⟩, fun i hi => by omega⟩, by simp [vLeaf, VT.many, sumTo]⟩
  unfold tellL at hy
  split at hy
  · cases hy
  · rename_i r hf
    have hm : r ∈ rows := List.mem_of_find?_eq_some hf
    obtain ⟨_, f, g⟩ := h.wf r hm
    rcases List.mem_append.1 hy with hy | hy
    · obtain ⟨x, hx, rfl⟩ := List.mem_map.1 hy
      exact ⟨⟨hr, f x hx, by cases failed; exact w0; exact w1, leaf⟩, by show (1 : Int) ≤ 2; decide, by show (2 : Int) ≤ 5; decide⟩
    · split at hy
      · obtain ⟨x, hx, rfl⟩ := List.mem_map.1 hy
        exact ⟨⟨hr, g x hx, w0, leaf⟩, by show (1 : Int) ≤ 5; decide, by show (5 : Int) ≤ 5; decide⟩
      · cases hy
end Go.Proofs.YthgbcgphkddmgaaGreat
namespace Go.Proofs.YthgbcgphkddmgaaGreat
open Go.RowKit Go.Maps
set_option linter.unusedVariables false
set_option linter.unusedSimpArgs false
theorem RemOk.zero : RemOk 0 := by
  intro X M base T p P N ref failed text w h hlen hhas hT
  obtain ⟨a, ha, _⟩ := has_iff.1 hhas
  have : 0 < N.acts.length := List.length_pos_of_mem ha
  omega
theorem foldl_take {α β : Type} (f : β → α → β) (b : β) (l : List α) {i : Nat} {y : α} (h : l[i]? = some y) : (l.take (i + 1)).foldl f b = f ((l.take i).foldl f b) y := by
  have hi : i < l.length := (List.getElem?_eq_some_iff.1 h).1
  have e : l.take (i + 1) = l.take i ++ [y] := by
    rw [List.take_add_one, h]
    rfl
  rw [e, List.foldl_append]
  rfl
set_option maxRecDepth 100000 in
set_option maxHeartbeats 8000000 in
theorem RemOk.succ {k : Nat} (hrem : RemOk k) : RemOk (k + 1) := by
  intro X M base T p P N ref failed text w h hlen hhas hT
  obtain ⟨a, ha, har⟩ := has_iff.1 hhas
  have hwr : Wf ref := har ▸ (h.ok.act a ha).ref
  obtain ⟨A, c, c4, hr⟩ := h.rows
  have hlim : pot N ≤ T := h.lim
  have HR := Lib.hid hr
  have HN := Lib.hid h
  have hok := h.ok.rows
  have HOK := Lib.hid (hok.gone ref)
  have HTW := Lib.hid (fun y hy => tell_wf (failed := failed) (text := text) hok hwr (y := y) hy)
  have HG0 := Lib.hid (lgone_any X (.slice A N.rows.length c) N.rows ref failed text w hr hok.ok h.xlt)
  have HE := Lib.hid (show remN (k + 1) N ref failed text = (tellL N.rows ref failed text).foldl (sendW (remK k)) { N.delA ref with rows := goneL N.rows ref } from rfl)
  have HHAS := Lib.hid hhas
  have hlen2 := len_delA h.ok.srt hhas
  have HL2 := Lib.hid (show pot { N.delA ref with rows := goneL N.rows ref } + 201 = pot N ∧ ({ N.delA ref with rows := goneL N.rows ref } : NdS).acts.length + 1 = N.acts.length from ⟨by show N.out.length + 201 * (N.delA ref).acts.length + 201 = N.out.length + 201 * N.acts.length; omega, hlen2⟩)
  have HP := Lib.hid (And.intro hlim hlen)
  have hplt := h.p_lt
  generalize htl : tellL N.rows ref failed text = tl at *
  generalize hN2 : ({ N.delA ref with rows := goneL N.rows ref } : NdS) = N2 at *
  have HN2 := Lib.hid hN2
  clear h hr hok ha har hhas hlim hlen hlen2 hN2
  unfold GonePost at HG0
  rw [htl] at HG0
  clear htl
  go_enter Tryz.func122, Tryz.ntmps122
  go_wp2_with fail
  refine HG0.out.mono ?_
  rintro e w1 ⟨A1, n1, c1, L, d, y, rfl, hb, hl1, hm200, hR⟩
  have HB := Lib.hid hb
  have HR1 := Lib.hid hR
  have HL1 := Lib.hid hl1
  clear hb hl1 hR
  go_wp2_with fail
  refine (change_nd (HN.out.below HB.out) HL1.out HOK.out).mono ?_
  rintro e w2 ⟨rfl, X2, M2, hg, hn⟩
  have HG2 := Lib.hid hg
  have HNN := Lib.hid hn
  obtain ⟨mb, c3, hdel⟩ := hn.del (r := ref) HHAS.out
  obtain ⟨w3, hrun, hg3, hn3⟩ := hdel 0
  have HG3 := Lib.hid (hg.trans hg3)
  have HN3 := Lib.hid (show NodeAt w3 X2 M2 base T p P N2 by rw [← HN2.out]; exact hn3)
  clear hg hn hg3 hn3 hdel
  go_wp2_with fail
  go_loopw [12, 36] (fun _ i wr => ∃ (q : Nat) (Xq Mq : Nat → Prop), q ≤ tl.length ∧ i = .int .i64 q ∧ Hid (Gr X M w1 Xq Mq wr) ∧ Hid (NodeAt wr Xq Mq base T p P ((tl.take q).foldl (sendW (remK k)) N2)) ∧ Hid (pot ((tl.take q).foldl (sendW (remK k)) N2) ≤ pot N2 + q ∧ ((tl.take q).foldl (sendW (remK k)) N2).acts.length ≤ N2.acts.length)) (fun _ i _ => tl.length - (intOf i).toNat)
  case atStart => exact ⟨0, X2, M2, Nat.zero_le _, rfl, HG3, HN3, Lib.hid ⟨Nat.le_refl _, Nat.le_refl _⟩⟩
  case round =>
    obtain ⟨q, Xq, Mq, hq, rfl, HGq, HNq, HPq⟩ := hrel
    by_cases hlt : q < tl.length
    · obtain ⟨b, off, rfl, hbl, hbS, C, hC⟩ := HR1.out (by omega)
      obtain ⟨hV, hcell⟩ := hC q hlt
      have hXw := HN.out.xlt
      have hMX := HN.out.2.2.1
      have hfr := HGq.out.fr
      have hzb := HB.out.size
      have hVr := Lib.hid (isL_frame (w' := wr) (S' := fun _ => True) hfr.size (fun k' hs hl => ⟨trivial, hfr.block k' hl (fun hm => by have h1 := hXw k' (hMX k' hm).1; have h2 : w.heap.size ≤ k' := hs; omega)⟩) hV)
      have hbM : ¬ M b := fun hm => by
        have h1 := hXw b (hMX b hm).1
        have h2 : w.heap.size ≤ b := hbS
        omega
      obtain ⟨⟨⟨r1, r2, r3⟩, r4, r5, r6⟩, hQ⟩ := isL_ex hV
      dsimp only at hQ
      rw [hQ] at hVr hcell
      obtain ⟨x, hx⟩ : ∃ x, nthL tl q = x := ⟨_, rfl⟩
      rw [hx] at hVr hcell
      have hget : tl[q]? = some x := by
        rw [List.getElem?_eq_getElem hlt, ← hx]
        unfold nthL
        rw [List.getD_eq_getElem?_getD, List.getElem?_eq_getElem hlt]
        rfl
      have HTK := Lib.hid (foldl_take (sendW (remK k)) N2 tl hget)
      have htw := HTW.out x (List.mem_of_getElem? hget)
      have d0 : wr.cell? ⟨b, off + q * 9, none⟩ = some (.int .i64 x.kind) := hfr.cell (hcell 0 _ rfl) hbM
      have d1 : wr.cell? ⟨b, off + q * 9 + 1, none⟩ = some (.int .i64 x.frm) := hfr.cell (hcell 1 _ rfl) hbM
      have d2 : wr.cell? ⟨b, off + q * 9 + 2, none⟩ = some (.int .i64 x.to) := hfr.cell (hcell 2 _ rfl) hbM
      have d3 : wr.cell? ⟨b, off + q * 9 + 3, none⟩ = some (.int .i64 x.num) := hfr.cell (hcell 3 _ rfl) hbM
      have d4 : wr.cell? ⟨b, off + q * 9 + 4, none⟩ = some (.string x.text) := hfr.cell (hcell 4 _ rfl) hbM
      have d5 : wr.cell? ⟨b, off + q * 9 + 5, none⟩ = some (.int .i64 r1) := hfr.cell (hcell 5 _ rfl) hbM
      have d6 : wr.cell? ⟨b, off + q * 9 + 6, none⟩ = some (.int .i64 r2) := hfr.cell (hcell 6 _ rfl) hbM
      have d7 : wr.cell? ⟨b, off + q * 9 + 7, none⟩ = some (.string r3) := hfr.cell (hcell 7 _ rfl) hbM
      have d8 : wr.cell? ⟨b, off + q * 9 + 8, none⟩ = some (.slice r4 r5 r6) := hfr.cell (hcell 8 _ rfl) hbM
      have hs1 := HL2.out
      have hs2 := HPq.out
      have hs3 := HP.out
      have HS := Lib.hid (fun (W : World) (hf : Fr (fun _ => False) wr W) => send_any hrem x _ (fun _ => True) (HNq.out.new hf (fun _ h => h)) (isL_frame hf.size (fun k' hk hlt => ⟨trivial, hf.block k' hlt (fun h => h)⟩) hVr.out) htw.1 htw.2 (by omega) (by omega) hT)
      have HQ2 := Lib.hid (show q + 1 ≤ tl.length from hlt)
      clear hV hcell hVr hQ hfr hx htw hs1 hs2 hs3 hget hC hXw hMX
      go_wp2_with fail
      refine (HS.out _ (by (repeat' first | with_reducible exact Fr.refl _ _ | (with_reducible refine Fr.setEq ?_ _) | (with_reducible refine Fr.setNew ?_ _) | with_reducible refine Fr.alloc ?_ _ | with_reducible refine Fr.drewN ?_ _ | with_reducible refine Fr.drew ?_))).mono ?_
      rintro e w5 ⟨⟨rfl, X5, M5, hg5, hn5⟩, hp1, hp2⟩
      have HG5 := Lib.hid (HGq.out.trans ((Gr.new (show Fr (fun _ => False) wr _ by (repeat' first | with_reducible exact Fr.refl _ _ | (with_reducible refine Fr.setEq ?_ _) | (with_reducible refine Fr.setNew ?_ _) | with_reducible refine Fr.alloc ?_ _ | with_reducible refine Fr.drewN ?_ _ | with_reducible refine Fr.drew ?_))).trans hg5))
      have HN5 := Lib.hid hn5
      have HP5 := Lib.hid (And.intro hp1 hp2)
      clear hg5 hn5 hp1 hp2 d0 d1 d2 d3 d4 d5 d6 d7 d8
      go_wp2_with fail
      go_roundw
      case rel =>
        refine ⟨q + 1, X5, M5, HQ2.out, by go_num, HG5, Lib.hid (by rw [HTK.out]; exact HN5.out), Lib.hid ?_⟩
        rw [HTK.out]
        have h1 := HP5.out
        have h2 := HPq.out
        omega
      case measure => simp [intOf]; omega
    · obtain rfl : q = tl.length := by omega
      go_wp2_with fail
      refine bodyPost_end (results_none rfl _ _ _) rfl ?_
      rw [HE.out]
      have hN := HNq.out
      have hPq := HPq.out
      rw [List.take_length] at hN hPq
      have h1 := HL2.out
      exact ⟨⟨rfl, Xq, Mq, (Gr.new (Fr.of_below HB.out)).trans HGq.out, hN⟩, by omega, by omega⟩
theorem rem_ok : ∀ k, RemOk k
  | 0 => RemOk.zero
  | k + 1 => (rem_ok k).succ
end Go.Proofs.YthgbcgphkddmgaaGreat
