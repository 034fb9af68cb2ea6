/- A letter is delivered: watches and links. -/
import Derived.Test.YthgbcgphkddmgaaGreatZAS
namespace Go.Proofs.YthgbcgphkddmgaaGreat
open Go.RowKit
set_option linter.unusedVariables false
set_option linter.unusedSimpArgs false
def pot (N : NdS) : Nat := N.out.length + 201 * N.acts.length
/-- what a method makes of a node that sends at most c letters more than it ends actors -/
def SndPost (X M : Nat → Prop) (base T p : Nat) (P : Int → Nat) (N N' : NdS) (c : Nat) (w : World) (v : Value) (e : Ending) (w' : World) : Prop :=
  NdPost X M base T p P N' w v e w' ∧ pot N' ≤ pot N + c ∧ N'.acts.length ≤ N.acts.length
theorem Gr.new {X M : Nat → Prop} {w w' : World} (hf : Fr (fun _ => False) w w') : Gr X M w X M w' := ⟨hf.weak (fun _ h => h.elim), fun _ h => h, fun _ h => .inl h, fun _ h => .inl h⟩
theorem NodeAt.rows {w : World} {X M : Nat → Prop} {base T p : Nat} {P : Int → Nat} {N : NdS} (h : NodeAt w X M base T p P N) : ∃ A c, w.cell? ⟨p, 4, none⟩ = some (.slice A N.rows.length c) ∧ RowsAt w X (.slice A N.rows.length c) N.rows := by
  obtain ⟨h1, h2, h3, mb, hb, MA, ob, sb, h4, h5⟩ := h
  obtain ⟨v, c4, hr⟩ := h4.c4
  obtain ⟨A, c, vw, vl, rfl, g⟩ := hr
  exact ⟨A, c, c4, A, c, vw, vl, rfl, g⟩
theorem RowsAt.new {w w' : World} {X : Nat → Prop} {v : Value} {rows : List Li.LR} (h : RowsAt w X v rows) (hf : Fr (fun _ => False) w w') : RowsAt w' X v rows := h.fr hf (fun _ h => h.elim) (fun _ h => .inl h)
set_option maxRecDepth 100000 in
set_option maxHeartbeats 4000000 in
theorem deliver_watch {w : World} {X M : Nat → Prop} {base T p : Nat} {P : Int → Nat} {N : NdS} (rem : NdS → Int → ByteArray → NdS) (x : LT) (cs : List Value) (S : Nat → Prop) (h : NodeAt w X M base T p P N) (hl : x.isL w S cs) (hx : LtWf x) (hk : x.kind = 3) :
    Calls Tryz.prog 149 #[.pointer (some ⟨p, 0, none⟩), .agg cs.toArray] w (SndPost X M base T p P N (deliverW rem N x) 0 w (.int .i64 0)) := by
  have HE := Lib.hid (show deliverW rem N x = { N with rows := watchL N.rows x.frm x.to } by unfold deliverW; rw [if_neg (by omega), if_pos hk])
  obtain ⟨⟨⟨q1, q2, q3⟩, q4, q5, q6⟩, hQ⟩ := isL_ex hl
  dsimp only at hQ
  subst hQ
  obtain ⟨A, c, c4, hr⟩ := h.rows
  have HN := Lib.hid h
  have hok := h.ok.rows
  have HOK := Lib.hid (hok.watch (ref := x.to) hx.1)
  have HOK0 := Lib.hid hok
  have hlt := h.p_lt
  rw [hk]
  obtain ⟨W, hW⟩ : ∃ W, W = w.alloc (.cells #[.int .i64 3, .int .i64 x.frm, .int .i64 x.to, .int .i64 x.num, .string x.text, .int .i64 q1, .int .i64 q2, .string q3, .slice q4 q5 q6] 154) := ⟨_, rfl⟩
  have hf : Fr (fun _ => False) w W := by rw [hW]; exact (Fr.refl _ _).alloc _
  have HF := Lib.hid hf
  have HR := Lib.hid (show RowsAt W.drew X (.slice A N.rows.length c) N.rows from hr.new (hf.drew))
  have HNW := Lib.hid (show NodeAt W.drew X M base T p P N from h.new (hf.drew) (fun _ h => h))
  have z0 : W.cell? ⟨w.heap.size, 0, none⟩ = some (.int .i64 3) := by rw [hW]; simp [go_sem]
  have z1 : W.cell? ⟨w.heap.size, 1, none⟩ = some (.int .i64 x.frm) := by rw [hW]; simp [go_sem]
  have z2 : W.cell? ⟨w.heap.size, 2, none⟩ = some (.int .i64 x.to) := by rw [hW]; simp [go_sem]
  have d4 := hf.cell c4 (fun h => h)
  have HWW := Lib.hid hW
  clear hl hx hk h hr hok hW hf
  go_enter Tryz.func149, Tryz.ntmps149
  go_wp2_with fail
  rw [← HWW.out]
  go_region_with (first
    | (go_at_call 188; refine (lwatch_any X _ N.rows x.frm x.to W.drew HR.out HOK0.out.ok HNW.out.xlt).mono ?_; rintro e w1 ⟨A1, n1, c1, y, rfl, hb1, hl1⟩; have HL1 := Lib.hid hl1; have HB1 := Lib.hid hb1; clear hl1 hb1)
    | (go_at_call 94; refine (change_nd (HNW.out.below HB1.out) HL1.out HOK.out).mono ?_; rintro e w2 ⟨rfl, X', M', hg, hn⟩; have HG := Lib.hid hg; have HN2 := Lib.hid hn; clear hg hn))
  all_goals
    go_wp2_with fail
    refine bodyPost_ret (v := .int .i64 0) (by simp [results, Tryz.results149, go_sem]) rfl ?_
    rw [HE.out]
    exact ⟨⟨rfl, X', M', (Gr.new ((HF.out.drew).trans' (Fr.of_below HB1.out))).trans HG.out, HN2.out⟩, Nat.le_refl _, Nat.le_refl _⟩
end Go.Proofs.YthgbcgphkddmgaaGreat
