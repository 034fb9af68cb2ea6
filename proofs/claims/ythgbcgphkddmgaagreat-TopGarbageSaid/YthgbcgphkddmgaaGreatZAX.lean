/- A letter is delivered: exits. Letters are sent, and answered for nobody; one is removed. -/
import Derived.Test.YthgbcgphkddmgaaGreatZAT
import Derived.Test.YthgbcgphkddmgaaGreatZAV
import Derived.Test.YthgbcgphkddmgaaGreatZAW
namespace Go.Proofs.YthgbcgphkddmgaaGreat
open Go.RowKit
set_option linter.unusedVariables false
set_option linter.unusedSimpArgs false
/-- how one is removed, if at most k are here -/
def RemOk (k : Nat) : Prop := ∀ (X M : Nat → Prop) (base T p : Nat) (P : Int → Nat) (N : NdS) (ref : Int) (failed : Bool) (text : ByteArray) (w : World), NodeAt w X M base T p P N → N.acts.length ≤ k → N.has ref = true → T ≤ 1000000000000 →
  Calls Tryz.prog 122 #[.pointer (some ⟨p, 0, none⟩), .int .i64 ref, .bool failed, .string text] w (SndPost X M base T p P N (remN k N ref failed text) 0 w (.tuple #[]))
set_option maxRecDepth 100000 in
set_option maxHeartbeats 4000000 in
theorem deliver_exit {w : World} {X M : Nat → Prop} {base T p : Nat} {P : Int → Nat} {N : NdS} (k : Nat) (hrem : RemOk k) (x : LT) (cs : List Value) (S : Nat → Prop) (h : NodeAt w X M base T p P N) (hl : x.isL w S cs) (hx : LtWf x) (hk : x.kind = 5) (hlen : N.acts.length ≤ k) (hhas : N.has x.to = true) (hT : T ≤ 1000000000000) :
    Calls Tryz.prog 149 #[.pointer (some ⟨p, 0, none⟩), .agg cs.toArray] w (SndPost X M base T p P N (deliverW (fun M r t => remN k M r true t) N x) 0 w (.int .i64 0)) := by
  have HE := Lib.hid (show deliverW (fun M r t => remN k M r true t) N x = if linkedL N.rows x.to x.frm then remN k N x.to true x.text else N by unfold deliverW; rw [if_neg (by omega), if_neg (by omega), if_neg (by omega), if_pos hk])
  obtain ⟨⟨⟨q1, q2, q3⟩, q4, q5, q6⟩, hQ⟩ := isL_ex hl
  dsimp only at hQ
  subst hQ
  obtain ⟨A, c, c4, hr⟩ := h.rows
  have HOK0 := Lib.hid h.ok.rows
  have hlt := h.p_lt
  rw [hk]
  obtain ⟨W, hW⟩ : ∃ W, W = w.alloc (.cells #[.int .i64 5, .int .i64 x.frm, .int .i64 x.to, .int .i64 x.num, .string x.text, .int .i64 q1, .int .i64 q2, .string q3, .slice q4 q5 q6] 154) := ⟨_, rfl⟩
  have hf : Fr (fun _ => False) w W := by rw [hW]; exact (Fr.refl _ _).alloc _
  have HF := Lib.hid hf
  have HR := Lib.hid (show RowsAt W.drew X (.slice A N.rows.length c) N.rows from hr.new (hf.drew))
  have HNW := Lib.hid (show NodeAt W.drew X M base T p P N from h.new (hf.drew) (fun _ h => h))
  have z0 : W.cell? ⟨w.heap.size, 0, none⟩ = some (.int .i64 5) := by rw [hW]; simp [go_sem]
  have z1 : W.cell? ⟨w.heap.size, 1, none⟩ = some (.int .i64 x.frm) := by rw [hW]; simp [go_sem]
  have z2 : W.cell? ⟨w.heap.size, 2, none⟩ = some (.int .i64 x.to) := by rw [hW]; simp [go_sem]
  have z4 : W.cell? ⟨w.heap.size, 4, none⟩ = some (.string x.text) := by rw [hW]; simp [go_sem]
  have d4 := hf.cell c4 (fun h => h)
  have HWW := Lib.hid hW
  have HREM := Lib.hid (fun W1 h1 => hrem X M base T p P N x.to true x.text W1 h1 hlen hhas hT)
  clear hl hx hk h hr hW hf hrem
  go_enter Tryz.func149, Tryz.ntmps149
  go_wp2_with fail
  rw [← HWW.out]
  go_region_with (first
    | (go_at_call 189; refine (linked_any X _ N.rows x.to x.frm W.drew HR.out HOK0.out.ok).mono ?_; rintro e w1 ⟨b, y, rfl, hb1, hl1⟩; have HL1 := Lib.hid hl1; have HB1 := Lib.hid hb1; have hb1' := Fr.of_below (S := fun _ => False) (show Below W.heap.size W w1 from (Below.refl _ W).drew.trans hb1); have y2 := hb1'.cell z2 (fun h => h); have y4 := hb1'.cell z4 (fun h => h); clear hl1 hb1 hb1'))
  all_goals
    have HN1 := Lib.hid (HNW.out.below HB1.out)
    have HG1 := Lib.hid (show Fr (fun _ => False) w w1 from (HF.out.drew).trans' (Fr.of_below HB1.out))
    by_cases hy : y = 0
    · rcases hb : b with _ | _
      · subst hb
        have HB2 := Lib.hid (show linkedL N.rows x.to x.frm = false by
          rcases HL1.out with ⟨_, h⟩ | ⟨h, _⟩
          · exact h
          · exact absurd hy h)
        subst hy
        go_wp2_with fail
        refine bodyPost_ret (v := .int .i64 0) (by simp [results, Tryz.results149, go_sem]) rfl ?_
        rw [HE.out, HB2.out]
        exact ⟨⟨rfl, X, M, Gr.new HG1.out, HN1.out⟩, Nat.le_refl _, Nat.le_refl _⟩
      · subst hb
        have HB2 := Lib.hid (show linkedL N.rows x.to x.frm = true by
          rcases HL1.out with ⟨_, h⟩ | ⟨h, _⟩
          · exact h
          · exact absurd hy h)
        subst hy
        go_wp2_with fail
        refine (HREM.out w1 HN1.out).mono ?_
        rintro e w2 ⟨⟨rfl, X', M', hg, hn⟩, hp1, hp2⟩
        have HG2 := Lib.hid hg
        have HN2 := Lib.hid hn
        have HP := Lib.hid (And.intro hp1 hp2)
        clear hg hn hp1 hp2
        go_wp2_with fail
        refine bodyPost_ret (v := .int .i64 0) (by simp [results, Tryz.results149, go_sem]) rfl ?_
        rw [HE.out, HB2.out]
        exact ⟨⟨rfl, X', M', (Gr.new HG1.out).trans HG2.out, HN2.out⟩, HP.out.1, HP.out.2⟩
    · have HB2 := Lib.hid (show linkedL N.rows x.to x.frm = false by
        rcases HL1.out with ⟨h, _⟩ | ⟨_, h⟩
        · exact absurd h hy
        · exact h)
      have hy' : (y == 0) = false := by simpa using hy
      clear hy
      go_wp2_with fail
      refine bodyPost_ret (v := .int .i64 0) (by simp [results, Tryz.results149, go_sem]) rfl ?_
      rw [HE.out, HB2.out]
      exact ⟨⟨rfl, X, M, Gr.new HG1.out, HN1.out⟩, Nat.le_refl _, Nat.le_refl _⟩
end Go.Proofs.YthgbcgphkddmgaaGreat
namespace Go.Proofs.YthgbcgphkddmgaaGreat
open Go.RowKit
set_option linter.unusedVariables false
set_option linter.unusedSimpArgs false
def delErrK (N : NdS) (x : LT) : Int := if x.kind = 1 ∨ x.kind = 2 then delErr N x else 0
def remK (k : Nat) : NdS → Int → ByteArray → NdS := fun M r t => remN k M r true t
theorem deliver_any {w : World} {X M : Nat → Prop} {base T p : Nat} {P : Int → Nat} {N : NdS} {k : Nat} (hrem : RemOk k) (x : LT) (cs : List Value) (S : Nat → Prop) (h : NodeAt w X M base T p P N) (hl : x.isL w S cs) (hx : LtWf x) (hk : 1 ≤ x.kind ∧ x.kind ≤ 5) (hlen : N.acts.length ≤ k) (hhas : N.has x.to = true) (hT : T ≤ 1000000000000) :
    Calls Tryz.prog 149 #[.pointer (some ⟨p, 0, none⟩), .agg cs.toArray] w (SndPost X M base T p P N (deliverW (remK k) N x) 0 w (.int .i64 (delErrK N x))) := by
  by_cases h1 : x.kind = 1
  · unfold delErrK; rw [if_pos (.inl h1)]
    exact deliver_box1 _ x cs S h hl hx h1 hhas
  by_cases h2 : x.kind = 2
  · unfold delErrK; rw [if_pos (.inr h2)]
    exact deliver_box2 _ x cs S h hl hx h2 hhas
  unfold delErrK
  rw [if_neg (by omega)]
  by_cases h3 : x.kind = 3
  · exact deliver_watch _ x cs S h hl hx h3
  by_cases h4 : x.kind = 4
  · exact deliver_link _ x cs S h hl hx h4
  · exact deliver_exit k hrem x cs S h hl hx (by omega) hlen hhas hT
/-- what is sent may go out -/
theorem NodeAt.outRow {w : World} {X M : Nat → Prop} {base T p : Nat} {P : Int → Nat} {N : NdS} (h : NodeAt w X M base T p P N) : ∃ A c C ob, w.cell? ⟨p, 8, none⟩ = some (.slice A N.out.length c) ∧ OutAt w X base (.slice A N.out.length c) ob C N.out ∧ (∀ k, ob = some k → M k ∧ k ≠ p) ∧
    (∀ w' g v l' C', Fr (fun k => ob = some k) w w' → (ob = some g ∨ w.heap.size ≤ g) → OutAt w' (fun k => X k ∨ k = g) base v (some g) C' l' → l'.length + 201 * N.acts.length ≤ T → Gr X M w (fun k => X k ∨ k = g) (fun k => M k ∨ k = g) (w'.setCell ⟨p, 8, none⟩ v) ∧ NodeAt (w'.setCell ⟨p, 8, none⟩ v) (fun k => X k ∨ k = g) (fun k => M k ∨ k = g) base T p P { N with out := l' }) := by
  obtain ⟨h1, h2, h3, mb, hb, MA, ob, sb, h4, h5⟩ := h
  obtain ⟨v, C, c8, ho⟩ := h4.c8
  obtain ⟨A, c, rfl, _⟩ := own_any ho.row
  refine ⟨A, c, C, ob, c8, ho, fun k hk => ⟨h5.ob k hk, (h4.ap.2.2.2.1 k hk).1⟩, fun w' g v l' C' hf hg ho' hT => ?_⟩
  have hz := hf.size
  have hgl := (ho'.row.lt g ho'.blk).2
  have hgb := (ho'.row.lt g ho'.blk).1
  have hM : M p := h5.p
  refine ⟨⟨((hf.weak (fun k hk => h5.ob k hk))).set (.inl hM) v, fun k hk => .inl hk, fun k hk => ?_, fun k hk => ?_⟩, { h1 with }, fun k hk => ?_, fun k hk => ?_, mb, hb, MA, some g, sb, h4.set8 h5 h3 h2 hf hg ho' hT (Nat.le_refl _), ⟨.inl h5.p, .inl h5.mb, .inl h5.hb, fun k hk => .inr (by injection hk with hk; exact hk.symm), fun k hk => .inl (h5.sb k hk), fun a ha k hk => .inl (h5.act a ha k hk)⟩⟩
  · rcases hk with hk | hk
    · exact .inl hk
    · subst hk
      rcases hg with e | e
      · exact .inl (h3 k (h5.ob k e)).1
      · exact .inr e
  · rcases hk with hk | hk
    · exact .inl hk
    · subst hk
      rcases hg with e | e
      · exact .inl (h5.ob k e)
      · exact .inr e
  · have : w'.heap.size = (w'.setCell ⟨p, 8, none⟩ v).heap.size := by simp
    rw [← this]
    rcases hk with hk | hk
    · exact Nat.lt_of_lt_of_le (h2 k hk) hz
    · omega
  · rcases hk with hk | hk
    · exact ⟨.inl (h3 k hk).1, (h3 k hk).2⟩
    · exact ⟨.inr hk, hk ▸ hgb⟩
set_option maxRecDepth 100000 in
set_option maxHeartbeats 4000000 in
theorem reply_plain {w : World} {X M : Nat → Prop} {base T p : Nat} {P : Int → Nat} {N : NdS} (rem : NdS → Int → ByteArray → NdS) (x : LT) (cs : List Value) (S : Nat → Prop) (h : NodeAt w X M base T p P N) (hl : x.isL w S cs) (hn : noneL x = none) :
    Calls Tryz.prog 148 #[.pointer (some ⟨p, 0, none⟩), .agg cs.toArray] w (SndPost X M base T p P N (replyW rem N x) 0 w (.tuple #[])) := by
  have HE := Lib.hid (show replyW rem N x = N by unfold replyW; rw [hn])
  obtain ⟨⟨⟨q1, q2, q3⟩, q4, q5, q6⟩, hQ⟩ := isL_ex hl
  dsimp only at hQ
  subst hQ
  have HNW := Lib.hid (show ∀ W, Fr (fun _ => False) w W → NodeAt W X M base T p P N ∧ x.isL W S [.int .i64 x.kind, .int .i64 x.frm, .int .i64 x.to, .int .i64 x.num, .string x.text, .int .i64 q1, .int .i64 q2, .string q3, .slice q4 q5 q6] from fun W hf => ⟨h.new hf (fun _ h => h), isL_frame hf.size (fun k hk hlt => ⟨hk, hf.block k hlt (fun h => h)⟩) hl⟩)
  have HNN := Lib.hid hn
  clear hl h hn
  go_enter Tryz.func148, Tryz.ntmps148
  go_wp2_with fail
  refine (none_any x _ S _ (HNW.out _ (by (repeat' first | with_reducible exact Fr.refl _ _ | (with_reducible refine Fr.setEq ?_ _) | (with_reducible refine Fr.setNew ?_ _) | with_reducible refine Fr.alloc ?_ _ | with_reducible refine Fr.drewN ?_ _ | with_reducible refine Fr.drew ?_))).2).mono ?_
  rintro e w1 (⟨_, rfl, hb⟩ | ⟨y, cs', hy, _⟩)
  rotate_left
  · rw [HNN.out] at hy; cases hy
  have HB := Lib.hid (show Fr (fun _ => False) w w1 from (show Fr (fun _ => False) w _ by (repeat' first | with_reducible exact Fr.refl _ _ | (with_reducible refine Fr.setEq ?_ _) | (with_reducible refine Fr.setNew ?_ _) | with_reducible refine Fr.alloc ?_ _ | with_reducible refine Fr.drewN ?_ _ | with_reducible refine Fr.drew ?_)).trans' (Fr.of_below hb))
  clear hb
  unfold zeroL
  go_wp2_with fail
  refine bodyPost_end (results_none rfl _ _ _) rfl ?_
  rw [HE.out]
  have hf : Fr (fun _ => False) w _ := HB.out.alloc (.cells #[.int .i64 0, .int .i64 0, .int .i64 0, .int .i64 0, .string ⟨#[]⟩, .int .i64 0, .int .i64 0, .string ⟨#[]⟩, .slice none 0 0] 154)
  exact ⟨⟨rfl, X, M, Gr.new hf, (HNW.out _ hf).1⟩, Nat.le_refl _, Nat.le_refl _⟩
set_option maxRecDepth 100000 in
set_option maxHeartbeats 4000000 in
theorem send_has {w : World} {X M : Nat → Prop} {base T p : Nat} {P : Int → Nat} {N : NdS} {k : Nat} (hrem : RemOk k) (x : LT) (cs : List Value) (S : Nat → Prop) (h : NodeAt w X M base T p P N) (hl : x.isL w S cs) (hx : LtWf x) (hk : 1 ≤ x.kind ∧ x.kind ≤ 5) (hlen : N.acts.length ≤ k) (hhas : N.has x.to = true) (hT : T ≤ 1000000000000) :
    Calls Tryz.prog 118 #[.pointer (some ⟨p, 0, none⟩), .agg cs.toArray] w (SndPost X M base T p P N (sendW (remK k) N x) 1 w (.tuple #[])) := by
  have HE := Lib.hid (show sendW (remK k) N x = deliverW (remK k) N x by unfold sendW; rw [if_pos hhas])
  obtain ⟨a, ha⟩ : ∃ a, N.find x.to = some a := Option.isSome_iff_exists.1 hhas
  obtain ⟨mb, c3, hmb, _, hlk, _⟩ := h.look
  obtain ⟨pa, -, _, _, _, _, hlook⟩ := hlk x.to a ha
  obtain ⟨⟨⟨q1, q2, q3⟩, q4, q5, q6⟩, hQ⟩ := isL_ex hl
  dsimp only at hQ
  subst hQ
  have HNW := Lib.hid (show ∀ W, Fr (fun _ => False) w W → NodeAt W X M base T p P N ∧ x.isL W S [.int .i64 x.kind, .int .i64 x.frm, .int .i64 x.to, .int .i64 x.num, .string x.text, .int .i64 q1, .int .i64 q2, .string q3, .slice q4 q5 q6] from fun W hf => ⟨h.new hf (fun _ h => h), isL_frame hf.size (fun k hk hlt => ⟨hk, hf.block k hlt (fun h => h)⟩) hl⟩)
  have HD := Lib.hid (fun (W : World) (hf : Fr (fun _ => False) w W) => deliver_any hrem x _ S (HNW.out W hf).1 (HNW.out W hf).2 hx hk hlen hhas hT)
  have hplt := h.p_lt
  obtain ⟨W, hW⟩ : ∃ W, W = w.alloc (.cells #[.int .i64 x.kind, .int .i64 x.frm, .int .i64 x.to, .int .i64 x.num, .string x.text, .int .i64 q1, .int .i64 q2, .string q3, .slice q4 q5 q6] 154) := ⟨_, rfl⟩
  have hf : Fr (fun _ => False) w W := by rw [hW]; exact (Fr.refl _ _).alloc _
  have hl1 : (Instr.lookup 129 (.map (some mb)) (.int .i64 x.to) false).run Tryz.prog W.drew = .ok (.pointer (some ⟨pa, 0, none⟩)) W.drew := hlook W.drew (hf.drew.weak (fun _ h => h.elim))
  have HFr := Lib.hid hf
  rw [hW] at hl1
  clear hl h hlk hlook ha hx hk hlen hhas hf hW
  go_enter Tryz.func118, Tryz.ntmps118
  go_wp2_with fail
  go_region
  all_goals
    go_wp2_with fail
    refine (HD.out _ (by (repeat' first | with_reducible exact Fr.refl _ _ | (with_reducible refine Fr.setEq ?_ _) | (with_reducible refine Fr.setNew ?_ _) | with_reducible refine Fr.alloc ?_ _ | with_reducible refine Fr.drewN ?_ _ | with_reducible refine Fr.drew ?_))).mono ?_
    rintro e w2 ⟨⟨rfl, X', M', hg, hn⟩, hp1, hp2⟩
    have HG := Lib.hid hg
    have HN2 := Lib.hid hn
    have HP := Lib.hid (And.intro hp1 hp2)
    clear hg hn hp1 hp2
    go_wp2_with fail
    refine bodyPost_end (results_none rfl _ _ _) rfl ?_
    rw [HE.out]
    exact ⟨⟨rfl, X', M', (Gr.new (show Fr (fun _ => False) w _ by (repeat' first | with_reducible exact Fr.refl _ _ | (with_reducible refine Fr.setEq ?_ _) | (with_reducible refine Fr.setNew ?_ _) | with_reducible refine Fr.alloc ?_ _ | with_reducible refine Fr.drewN ?_ _ | with_reducible refine Fr.drew ?_))).trans HG.out, HN2.out⟩, Nat.le_succ_of_le HP.out.1, HP.out.2⟩
end Go.Proofs.YthgbcgphkddmgaaGreat
