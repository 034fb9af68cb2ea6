/- A letter is delivered: watches and links. A letter is delivered into a box. A letter is delivered into a box. A letter is delivered: links. A letter is delivered: exits. -/
import Derived.Test.YthgbcgphkddmgaaGreatZAR
import Derived.Test.YthgbcgphkddmgaaGreatZAQ
namespace Go.Proofs.YthgbcgphkddmgaaGreat
open Go.RowKit
set_option linter.unusedVariables false
set_option linter.unusedSimpArgs false
def pot (N : NdS) : Nat := N.out.length + 201 * N.acts.length
/-- what a method makes of a node that sends at most c letters more than it ends actors -/
def SndPost (X M : Nat → Prop) (base T p : Nat) (P : Int → Nat) (N N' : NdS) (c : Nat) (w : World) (v : Value) (e : Ending) (w' : World) : Prop :=
  NdPost X M base T p P N' w v e w' ∧ pot N' ≤ pot N + c ∧ N'.acts.length ≤ N.acts.length
theorem Gr.new {X M : Nat → Prop} {w w' : World} (hf : Fr (fun _ => False) w w') : Gr X M w X M w' := ⟨hf.weak (fun _ h => h.elim), fun _ h => h, fun _ h => .inl h, fun _ h => .inl h⟩
theorem NodeAt.rows {w : World} {X M : Nat → Prop} {base T p : Nat} {P : Int → Nat} {N : NdS} (h : NodeAt w X M base T p P N) : ∃ A c, w.cell? ⟨p, 4, none⟩ = some (.slice A N.rows.length c) ∧ RowsAt w X (.slice A N.rows.length c) N.rows := by
  obtain ⟨h1, h2, h3, mb, hb, MA, ob, sb, h4, h5⟩ := h
  obtain ⟨v, c4, hr⟩ := h4.c4
  obtain ⟨A, c, vw, vl, rfl, g⟩ := hr
  exact ⟨A, c, c4, A, c, vw, vl, rfl, g⟩
theorem RowsAt.new {w w' : World} {X : Nat → Prop} {v : Value} {rows : List Li.LR} (h : RowsAt w X v rows) (hf : Fr (fun _ => False) w w') : RowsAt w' X v rows := h.fr hf (fun _ h => h.elim) (fun _ h => .inl h)
set_option maxRecDepth 100000 in
set_option maxHeartbeats 4000000 in
theorem deliver_watch {w : World} {X M : Nat → Prop} {base T p : Nat} {P : Int → Nat} {N : NdS} (rem : NdS → Int → ByteArray → NdS) (x : LT) (cs : List Value) (S : Nat → Prop) (h : NodeAt w X M base T p P N) (hl : x.isL w S cs) (hx : LtWf x) (hk : x.kind = 3) :
    Calls Tryz.prog 149 #[.pointer (some ⟨p, 0, none⟩), .agg cs.toArray] w (SndPost X M base T p P N (deliverW rem N x) 0 w (.int .i64 0)) := by
  have HE := Lib.hid (show deliverW rem N x = { N with rows := watchL N.rows x.frm x.to } by unfold deliverW; rw [if_neg (by omega), if_pos hk])
  obtain ⟨⟨⟨q1, q2, q3⟩, q4, q5, q6⟩, hQ⟩ := isL_ex hl
  dsimp only at hQ
  subst hQ
  obtain ⟨A, c, c4, hr⟩ := h.rows
  have HN := Lib.hid h
  have hok := h.ok.rows
  have HOK := Lib.hid (hok.watch (ref := x.to) hx.1)
  have HOK0 := Lib.hid hok
  have hlt := h.p_lt
  rw [hk]
  obtain ⟨W, hW⟩ : ∃ W, W = w.alloc (.cells #[.int .i64 3, .int .i64 x.frm, .int .i64 x.to, .int .i64 x.num, .string x.text, .int .i64 q1, .int .i64 q2, .string q3, .slice q4 q5 q6] 154) := ⟨_, rfl⟩
  have hf : Fr (fun _ => False) w W := by rw [hW]; exact (Fr.refl _ _).alloc _
  have HF := Lib.hid hf
  have HR := Lib.hid (show RowsAt W.drew X (.slice A N.rows.length c) N.rows from hr.new (hf.drew))
  have HNW := Lib.hid (show NodeAt W.drew X M base T p P N from h.new (hf.drew) (fun _ h => h))
  have z0 : W.cell? ⟨w.heap.size, 0, none⟩ = some (.int .i64 3) := by rw [hW]; simp [go_sem]
  have z1 : W.cell? ⟨w.heap.size, 1, none⟩ = some (.int .i64 x.frm) := by rw [hW]; simp [go_sem]
  have z2 : W.cell? ⟨w.heap.size, 2, none⟩ = some (.int .i64 x.to) := by rw [hW]; simp [go_sem]
  have d4 := hf.cell c4 (fun h => h)
  have HWW := Lib.hid hW
  clear hl hx hk h hr hok hW hf
  go_enter Tryz.func149, Tryz.ntmps149
  go_wp2_with fail
  rw [← HWW.out]
  go_region_with (first
    | (go_at_call 188; refine (lwatch_any X _ N.rows x.frm x.to W.drew HR.out HOK0.out.ok HNW.out.xlt).mono ?_; rintro e w1 ⟨A1, n1, c1, y, rfl, hb1, hl1⟩; have HL1 := Lib.hid hl1; have HB1 := Lib.hid hb1; clear hl1 hb1)
    | (go_at_call 94; refine (change_nd (HNW.out.below HB1.out) HL1.out HOK.out).mono ?_; rintro e w2 ⟨rfl, X', M', hg, hn⟩; have HG := Lib.hid hg; have HN2 := Lib.hid hn; clear hg hn))
  all_goals
    go_wp2_with fail
    refine bodyPost_ret (v := .int .i64 0) (by simp [results, Tryz.results149, go_sem]) rfl ?_
    rw [HE.out]
    exact ⟨⟨rfl, X', M', (Gr.new ((HF.out.drew).trans' (Fr.of_below HB1.out))).trans HG.out, HN2.out⟩, Nat.le_refl _, Nat.le_refl _⟩
end Go.Proofs.YthgbcgphkddmgaaGreat
namespace Go.Proofs.YthgbcgphkddmgaaGreat
open Go.RowKit
set_option linter.unusedVariables false
set_option linter.unusedSimpArgs false
/-- what Put answers at a right box and a letter that fits -/
def PutOne (n : Nat) (at_ : Int) (arg : Nat → LT) (x : LT) (w : World) (e : Ending) (w' : World) : Prop :=
  ∃ (A' : Option Addr) (n' c' : Nat) (at' err : Int), e = .returned (.tuple #[.agg #[.slice A' n' c', .int .i64 at'], .int .i64 err]) ∧ Below w.heap.size w w' ∧ ((n < 60 ∧ err = 0 ∧ at' = at_ ∧ n' = n + 1 ∧ n + 1 ≤ c' ∧ c' ≤ 9223372036854775807 ∧ RdL w' (fun b => w.heap.size ≤ b) A' (n + 1) (fun i => if i = n then x else arg i)) ∨ (n = 60 ∧ err ≠ 0))
theorem put_one (n c : Nat) (A : Option Addr) (at_ : Int) (arg : Nat → LT) (S : Nat → Prop) (x : LT) (cs : List Value) (Sx : Nat → Prop) (w : World) (hnc : n ≤ c) (hcm : c ≤ 9223372036854775807) (hR : RdL w S A n arg) (hx : x.isL w Sx cs) (ok : OkBox n at_ arg) (hf : fitsB x.kind = true) (hma : ∀ i, i < n → (arg i).val.many ≤ 4194304) (hmx : x.val.many ≤ 4194304) : Calls Tryz.prog 187 #[.agg #[.slice A n c, .int .i64 at_], .agg cs.toArray] w (PutOne n at_ arg x w) := by
  by_cases h6 : n = 60
  · refine (put_full n c A at_ arg S x cs Sx w hnc hcm hR hx ok hf h6).mono ?_
    rintro e w' ⟨y, rfl, rfl, hb⟩
    exact ⟨none, 0, 0, 0, 6, rfl, hb, .inr ⟨h6, by decide⟩⟩
  · have h6' : n < 60 := by have := ok.1; omega
    refine (put_ok n c A at_ arg S x cs Sx w hnc hcm hR hx ok hf h6' hma hmx).mono ?_
    rintro e w' ⟨A', c', rfl, h1, h2, h3, h4⟩
    exact ⟨A', n + 1, c', at_, 0, rfl, h4, .inl ⟨h6', rfl, rfl, rfl, h1, h2, h3⟩⟩
def MidP (n : Nat) (at_ : Int) (arg : Nat → LT) (x : LT) (W : World) (v6 v7 : Value) (wx : World) : Prop :=
  ∃ (q : Nat) (A' : Option Addr) (n' c' : Nat) (at' err : Int), v6 = .pointer (some ⟨q, 0, none⟩) ∧ v7 = .int .i64 err ∧ W.heap.size ≤ q ∧ q < wx.heap.size ∧ wx.cell? ⟨q, 0, none⟩ = some (.slice A' n' c') ∧ wx.cell? ⟨q, 1, none⟩ = some (.int .i64 at') ∧
    Hid (Below W.heap.size W wx ∧ ((n < 60 ∧ err = 0 ∧ at' = at_ ∧ n' = n + 1 ∧ n + 1 ≤ c' ∧ c' ≤ 9223372036854775807 ∧ RdL wx (fun b => W.heap.size ≤ b) A' (n + 1) (fun i => if i = n then x else arg i)) ∨ (n = 60 ∧ err ≠ 0)))
theorem MidP.mk {n : Nat} {at_ : Int} {arg : Nat → LT} {x : LT} {W W2 w1 wx : World} {q : Nat} {A' : Option Addr} {n' c' : Nat} {at' err : Int} (hW : Below W.heap.size W W2) (hb : Below W2.heap.size W2 w1) (h : (n < 60 ∧ err = 0 ∧ at' = at_ ∧ n' = n + 1 ∧ n + 1 ≤ c' ∧ c' ≤ 9223372036854775807 ∧ RdL w1 (fun b => W2.heap.size ≤ b) A' (n + 1) (fun i => if i = n then x else arg i)) ∨ (n = 60 ∧ err ≠ 0))
    (hf : Fr (fun k => k = q) w1 wx) (hq : W.heap.size ≤ q ∧ (q < W2.heap.size ∨ w1.heap.size ≤ q) ∧ q < wx.heap.size) (x0 : wx.cell? ⟨q, 0, none⟩ = some (.slice A' n' c')) (x1 : wx.cell? ⟨q, 1, none⟩ = some (.int .i64 at')) : MidP n at_ arg x W (.pointer (some ⟨q, 0, none⟩)) (.int .i64 err) wx := by
  have z1 := hW.size
  have z2 := hb.size
  refine ⟨q, A', n', c', at', err, rfl, rfl, hq.1, hq.2.2, x0, x1, Lib.hid ⟨(hW.trans (hb.mono z1)).trans (hf.below (fun k hk => hk ▸ hq.1) (by omega)), ?_⟩⟩
  rcases h with ⟨a, b, c, d, e, f, g⟩ | h
  · exact .inl ⟨a, b, c, d, e, f, g.frame hf.size (fun k hk hlt => ⟨by omega, hf.block k hlt (by omega)⟩)⟩
  · exact .inr h
theorem fits_kind {k : Int} (h : k = 1 ∨ k = 2) : fitsB k = true := by
  rcases h with rfl | rfl <;> rfl
theorem nthL_snoc {l : List LT} {x : LT} {i : Nat} (hi : i < l.length + 1) : nthL (l ++ [x]) i = if i = l.length then x else nthL l i := by
  unfold nthL
  simp only [List.getD_eq_getElem?_getD]
  by_cases e : i = l.length
  · subst e; simp
  · rw [if_neg e, List.getElem?_append_left (by omega)]
theorem putBox_ok {a : ActS} {x : LT} (h : ActOk a) (hx : LtWf x) (hf : fitsB x.kind = true) : ActOk (putBox a x) := by
  unfold putBox
  split
  · exact h
  · obtain ⟨b1, b2, b3⟩ := h.box
    exact { h with box := ⟨by simp; omega, by simp; omega, fun y hy => by
      rcases List.mem_append.1 hy with hy | hy
      · exact b3 y hy
      · rw [List.mem_singleton.1 hy]; exact ⟨hf, hx⟩⟩ }
theorem ActG.setBox {w : World} {X MA : Nat → Prop} {base T p b rb kb : Nat} {ib : Option Nat} {a : ActS} (H : ActG w X base T MA p b rb kb ib a) (hXp : X p) {A : Option Addr} {c pos' : Nat} {l : List LT} (hc1 : l.length ≤ c) (hc2 : c ≤ 9223372036854775807) (hR : RdL w (fun k => ¬ X k) A l.length (nthL l)) : ActG ((w.setCell ⟨p, 2, none⟩ (.slice A l.length c)).setCell ⟨p, 3, none⟩ (.int .i64 (pos' : Int))) X base T MA p b rb kb ib { a with box := l, pos := pos' } := by
  have hf : Fr (fun k => k = p) w ((w.setCell ⟨p, 2, none⟩ (.slice A l.length c)).setCell ⟨p, 3, none⟩ (.int .i64 (pos' : Int))) := Fr.setAt (Fr.setAt (Fr.refl _ w) _) _
  have hS : ∀ k, k = p → X k := fun k hk => hk ▸ hXp
  obtain ⟨a1, a2, a3, a4, a5, a6⟩ := H.ap
  obtain ⟨n, k1, k2⟩ := H.kn
  obtain ⟨A2, c2, e2, _⟩ := H.a2
  exact {
    dia := H.dia.fr hf hS (fun k hk => .inl hk) (fun k hk => hk ▸ H.lbp.1) (Nat.le_refl _) (fun e => a1 e.symm) (fun e => a2 e.symm) (fun k hk e => (a6 k hk).1 e)
    a0 := set_other (set_other H.a0 (by decide)) (by decide)
    a1 := set_other (set_other H.a1 (by decide)) (by decide)
    a2 := ⟨A, c, set_other (set_this e2) (by decide), hc1, hc2, hR.fr hf hS (fun k hk => .inl hk)⟩
    a3 := set_this (set_other H.a3 (by decide))
    a4 := set_other (set_other H.a4 (by decide)) (by decide)
    a5 := set_other (set_other H.a5 (by decide)) (by decide)
    a6 := set_other (set_other H.a6 (by decide)) (by decide)
    kn := ⟨n, k1.fr hf (fun e => a3 e.symm), k2⟩
    fz := set_fz (set_fz H.fz)
    mine := H.mine
    ap := H.ap
    lbp := H.lbp }
def delErr (N : NdS) (x : LT) : Int := match N.find x.to with
  | none => 0
  | some a => if a.box.length = 60 then 6 else 0
set_option maxRecDepth 100000 in
set_option maxHeartbeats 4000000 in
theorem deliver_box1 {w : World} {X M : Nat → Prop} {base T p : Nat} {P : Int → Nat} {N : NdS} (rem : NdS → Int → ByteArray → NdS) (x : LT) (cs : List Value) (S : Nat → Prop) (h : NodeAt w X M base T p P N) (hl : x.isL w S cs) (hx : LtWf x) (hk : x.kind = 1) (hhas : N.has x.to = true) :
    Calls Tryz.prog 149 #[.pointer (some ⟨p, 0, none⟩), .agg cs.toArray] w (SndPost X M base T p P N (deliverW rem N x) 0 w (.int .i64 (delErr N x))) := by
  obtain ⟨a, ha⟩ : ∃ a, N.find x.to = some a := Option.isSome_iff_exists.1 hhas
  have HE := Lib.hid (show deliverW rem N x = N.setA (putBox a x) by unfold deliverW; rw [if_pos (by omega), ha])
  have HERR := Lib.hid (show delErr N x = if a.box.length = 60 then 6 else 0 by unfold delErr; rw [ha])
  obtain ⟨hmem, hr0⟩ := find_some ha
  have hact := h.ok.act a hmem
  have HPUT := Lib.hid (putBox_ok hact hx (fits_kind (by omega : x.kind = 1 ∨ x.kind = 2)))
  have HBOX := Lib.hid hact.box
  obtain ⟨pa, b, rb, kb, ib, MA, mb, -, c3, hA, hMA, hlook, hback⟩ := h.act ha
  have HXL := Lib.hid h.xlt
  have HM := Lib.hid (And.intro h.pM h.2.2.1)
  have hmk : x.val.many ≤ 4194304 := by have := hx.2.2.2.2; omega
  have HFIT := Lib.hid (show fitsB x.kind = true from fits_kind (by omega))
  obtain ⟨⟨⟨q1, q2, q3⟩, q4, q5, q6⟩, hQ⟩ := isL_ex hl
  dsimp only at hQ
  subst hQ
  rw [hk] at hl
  obtain ⟨A2, cb, e2, l2, l3, hL⟩ := hA.a2
  have e3 := hA.a3
  have fz := hA.fz
  have hplt := h.p_lt
  have halt := hA.lt.1
  have hap := hA.mine.1
  obtain ⟨W, hW⟩ : ∃ W, W = (w.alloc (.cells #[.int .i64 1, .int .i64 x.frm, .int .i64 x.to, .int .i64 x.num, .string x.text, .int .i64 q1, .int .i64 q2, .string q3, .slice q4 q5 q6] 154)).drew := ⟨_, rfl⟩
  have hf : Fr (fun _ => False) w W := by rw [hW]; exact ((Fr.refl _ _).alloc _).drew
  have HF := Lib.hid hf
  have HZ := Lib.hid (show W.heap.size = w.heap.size + 1 by rw [hW]; simp)
  have hzl : w.heap.size < W.heap.size := by rw [HZ.out]; omega
  have hpaW : pa < W.heap.size := by omega
  have hpW : p < W.heap.size := by omega
  have hlook2 : (Instr.lookup 129 (.map (some mb)) (.int .i64 x.to) false).run Tryz.prog W = .ok (.pointer (some ⟨pa, 0, none⟩)) W := hlook W (hf.weak (fun _ h => h.elim))
  rw [hW] at hlook2
  have z0 : W.cell? ⟨w.heap.size, 0, none⟩ = some (.int .i64 1) := by rw [hW]; simp [go_sem]
  have z1 : W.cell? ⟨w.heap.size, 1, none⟩ = some (.int .i64 x.frm) := by rw [hW]; simp [go_sem]
  have z2 : W.cell? ⟨w.heap.size, 2, none⟩ = some (.int .i64 x.to) := by rw [hW]; simp [go_sem]
  have z3 : W.cell? ⟨w.heap.size, 3, none⟩ = some (.int .i64 x.num) := by rw [hW]; simp [go_sem]
  have z4 : W.cell? ⟨w.heap.size, 4, none⟩ = some (.string x.text) := by rw [hW]; simp [go_sem]
  have z5 : W.cell? ⟨w.heap.size, 5, none⟩ = some (.int .i64 q1) := by rw [hW]; simp [go_sem]
  have z6 : W.cell? ⟨w.heap.size, 6, none⟩ = some (.int .i64 q2) := by rw [hW]; simp [go_sem]
  have z7 : W.cell? ⟨w.heap.size, 7, none⟩ = some (.string q3) := by rw [hW]; simp [go_sem]
  have z8 : W.cell? ⟨w.heap.size, 8, none⟩ = some (.slice q4 q5 q6) := by rw [hW]; simp [go_sem]
  have y2 := hf.cell e2 (fun h => h)
  have y3 := hf.cell e3 (fun h => h)
  have HLF := Lib.hid (show ∀ W2, Below W.heap.size W W2 → RdL W2 (fun k => ¬ X k) A2 a.box.length (nthL a.box) ∧ x.isL W2 S [.int .i64 1, .int .i64 x.frm, .int .i64 x.to, .int .i64 x.num, .string x.text, .int .i64 q1, .int .i64 q2, .string q3, .slice q4 q5 q6] from fun W2 hb => by
    have hf2 : Fr (fun _ => False) w W2 := hf.trans' (Fr.of_below hb)
    exact ⟨RdL.fr (X' := X) hL hf2 (fun _ h => h.elim) (fun k hk => .inl hk), isL_frame hf2.size (fun k hk hlt => ⟨hk, hf2.block k hlt (fun h => h)⟩) hl⟩)
  have HA := Lib.hid hA
  have HMA := Lib.hid hMA
  have HBACK := Lib.hid hback
  have HWW := Lib.hid hW
  rw [hk]
  clear hl hx hk h hL hA hMA hback hlook hact hW hf ha hmem hhas
  go_enter Tryz.func149, Tryz.ntmps149
  go_wp2_with fail
  go_region
  all_goals
    go_wp2_with fail
    rw [← HWW.out]
    go_cut [6, 7] (fun v6 v7 wx => MidP a.box.length (a.pos : Int) (nthL a.box) x W v6 v7 wx)
    case first =>
      go_region_with (first
        | (go_at_call 187; refine (put_one a.box.length cb A2 (a.pos : Int) (nthL a.box) (fun k => ¬ X k) x _ S _ l2 l3 (by exact (HLF.out _ (by (repeat' first | with_reducible exact Below.refl _ _ | (refine Below.drew ?_) | (refine Below.alloc ?_ (by simp) _)))).1) (by exact (HLF.out _ (by (repeat' first | with_reducible exact Below.refl _ _ | (refine Below.drew ?_) | (refine Below.alloc ?_ (by simp) _)))).2) HBOX.out.ok HFIT.out HBOX.out.many hmk).mono ?_; rintro e w1 ⟨A', n', c', at', err, rfl, hb, hp⟩; have HP := Lib.hid hp; have HB1 := Lib.hid hb; have u0 := (fun h => HB1.out.cell (p := ⟨W.heap.size, 0, none⟩) h); try simp [go_sem] at u0; have u1 := (fun h => HB1.out.cell (p := ⟨W.heap.size, 1, none⟩) h); try simp [go_sem] at u1; have uf := (fun (j : Nat) h => grown_frozen (b := W.heap.size) (o := j) (grown_below (g := none) HB1.out) h (by simp)); try simp [go_sem] at uf; clear hp hb))
      all_goals
        go_wp2_with fail
        go_meet
        have hs1 := HB1.out.size
        simp at hs1
        refine MidP.mk (by (repeat' first | with_reducible exact Below.refl _ _ | (refine Below.drew ?_) | (refine Below.alloc ?_ (by simp) _))) HB1.out HP.out ?_ ⟨?_, ?_, ?_⟩ ?_ ?_
        · (repeat' first | with_reducible exact Fr.refl (fun k => k = _) _ | (with_reducible refine Fr.setAt ?_ _) | with_reducible refine Fr.alloc ?_ _ | with_reducible refine Fr.drewN ?_ _ | with_reducible refine Fr.drew ?_)
        · first | omega | (simp; done) | (simp; omega)
        · first | (left; simp; done) | (right; simp; done)
        · first | omega | (simp; done) | (simp; omega)
        · simp [go_sem, u0, u1]
        · simp [go_sem, u0, u1]
    case rest =>
      obtain ⟨q, A', n', c', at', err, rfl, rfl, hq1, hq2, x0, x1, HP⟩ := hcut
      have hfw : Fr (fun _ => False) w wc := HF.out.trans' (Fr.of_below HP.out.1)
      have HFW := Lib.hid hfw
      have hzc := hfw.size
      have HAC := Lib.hid (HA.out.fr (X' := X) hfw (fun _ h => h.elim) (fun k hk => .inl hk) (fun _ h => h.elim) (Nat.le_refl _) (fun _ _ h => h))
      have d2 := hfw.cell e2 (fun h => h)
      have d3 := hfw.cell e3 (fun h => h)
      have df : ∀ o, wc.frozen? ⟨pa, o, none⟩ = false := HAC.out.fz
      have hpac : pa < wc.heap.size := by omega
      have hqpa : q ≠ pa := by omega
      have hpaq : pa ≠ q := by omega
      have hXp := (HM.out.2 pa (HMA.out pa hap).1).1
      clear hfw y2 y3 z0 z1 z2 z3 z4 z5 z6 z7 z8 e2 e3 fz
      rcases HP.out.2 with ⟨h1, rfl, rfl, rfl, h2, h3, hR⟩ | ⟨h1, h2⟩
      · have hne : ¬ a.box.length = 60 := by omega
        have HPB := Lib.hid (show putBox a x = { a with box := a.box ++ [x] } by unfold putBox; rw [if_neg hne])
        have HR := Lib.hid (show RdL wc (fun k => ¬ X k) A' (a.box ++ [x]).length (nthL (a.box ++ [x])) by
          rw [show (a.box ++ [x]).length = a.box.length + 1 by simp]
          refine RdL.congr (hR.frame (S' := fun k => ¬ X k) (Nat.le_refl _) (fun k hk _ => ⟨fun hx => ?_, rfl⟩)) (fun i hi => nthL_snoc hi)
          have h5 : W.heap.size ≤ k := hk
          have := HXL.out k hx
          omega)
        have HSB := Lib.hid (HAC.out.setBox hXp (l := a.box ++ [x]) (c := c') (pos' := a.pos) (by simpa using h2) h3 HR.out)
        have HH2 := Lib.hid (And.intro h2 h3)
        have HE0 := Lib.hid (HERR.out.trans (if_neg hne))
        clear hR h2 h3 hne
        go_wp2_with fail
        refine bodyPost_ret (v := .int .i64 0) (by simp [results, Tryz.results149, go_sem]) rfl ?_
        rw [HE.out, HE0.out]
        have hsl : (a.box ++ [x]).length = a.box.length + 1 := by simp
        have hsb := HSB.out
        rw [hsl] at hsb
        have hz2 : wc.heap.size ≤ ((wc.setCell ⟨pa, 2, none⟩ (.slice A' (a.box.length + 1) c')).setCell ⟨pa, 3, none⟩ (.int .i64 (a.pos : Int))).heap.size := by simp
        obtain ⟨r1, r2⟩ := HBACK.out _ X MA T (putBox a x) (fun _ h => h) (fun k hk => .inl hk) (fun k hk => .inl hk) (fun k hk => (HM.out.2 k (HMA.out k hk).1).1) ⟨b, rb, kb, ib, by rw [HPB.out]; exact hsb⟩ ((HFW.out.weak (fun _ h => h.elim)).trans' (Fr.setIn (Fr.setIn (Fr.refl MA wc) hap _) hap _)) (by rw [HPB.out]) HPUT.out (Nat.le_refl _)
        exact ⟨⟨rfl, _, _, r1, r2⟩, by unfold pot; rw [len_setA]; exact Nat.le_refl _, by rw [len_setA]; exact Nat.le_refl _⟩
      · have HPB := Lib.hid (show putBox a x = a by unfold putBox; rw [if_pos h1])
        have HE0 := Lib.hid (HERR.out.trans (if_pos h1))
        have hne : (err != 0) = true := by simpa using h2
        clear h2 h1
        go_wp2_with fail
        refine bodyPost_ret (v := .int .i64 6) (by simp [results, Tryz.results149, go_sem]) rfl ?_
        rw [HE.out, HE0.out]
        obtain ⟨r1, r2⟩ := HBACK.out _ X MA T (putBox a x) (fun _ h => h) (fun k hk => .inl hk) (fun k hk => .inl hk) (fun k hk => (HM.out.2 k (HMA.out k hk).1).1) ⟨b, rb, kb, ib, by rw [HPB.out]; exact HAC.out⟩ (HFW.out.weak (fun _ h => h.elim)) (by rw [HPB.out]) HPUT.out (Nat.le_refl _)
        exact ⟨⟨rfl, _, _, r1, r2⟩, by unfold pot; rw [len_setA]; exact Nat.le_refl _, by rw [len_setA]; exact Nat.le_refl _⟩
end Go.Proofs.YthgbcgphkddmgaaGreat
namespace Go.Proofs.YthgbcgphkddmgaaGreat
open Go.RowKit
set_option linter.unusedVariables false
set_option linter.unusedSimpArgs false
set_option maxRecDepth 100000 in
set_option maxHeartbeats 4000000 in
theorem deliver_box2 {w : World} {X M : Nat → Prop} {base T p : Nat} {P : Int → Nat} {N : NdS} (rem : NdS → Int → ByteArray → NdS) (x : LT) (cs : List Value) (S : Nat → Prop) (h : NodeAt w X M base T p P N) (hl : x.isL w S cs) (hx : LtWf x) (hk : x.kind = 2) (hhas : N.has x.to = true) :
    Calls Tryz.prog 149 #[.pointer (some ⟨p, 0, none⟩), .agg cs.toArray] w (SndPost X M base T p P N (deliverW rem N x) 0 w (.int .i64 (delErr N x))) := by
  obtain ⟨a, ha⟩ : ∃ a, N.find x.to = some a := Option.isSome_iff_exists.1 hhas
  have HE := Lib.hid (show deliverW rem N x = N.setA (putBox a x) by unfold deliverW; rw [if_pos (by omega), ha])
  have HERR := Lib.hid (show delErr N x = if a.box.length = 60 then 6 else 0 by unfold delErr; rw [ha])
  obtain ⟨hmem, hr0⟩ := find_some ha
  have hact := h.ok.act a hmem
  have HPUT := Lib.hid (putBox_ok hact hx (fits_kind (by omega : x.kind = 1 ∨ x.kind = 2)))
  have HBOX := Lib.hid hact.box
  obtain ⟨pa, b, rb, kb, ib, MA, mb, -, c3, hA, hMA, hlook, hback⟩ := h.act ha
  have HXL := Lib.hid h.xlt
  have HM := Lib.hid (And.intro h.pM h.2.2.1)
  have hmk : x.val.many ≤ 4194304 := by have := hx.2.2.2.2; omega
  have HFIT := Lib.hid (show fitsB x.kind = true from fits_kind (by omega))
  obtain ⟨⟨⟨q1, q2, q3⟩, q4, q5, q6⟩, hQ⟩ := isL_ex hl
  dsimp only at hQ
  subst hQ
  rw [hk] at hl
  obtain ⟨A2, cb, e2, l2, l3, hL⟩ := hA.a2
  have e3 := hA.a3
  have fz := hA.fz
  have hplt := h.p_lt
  have halt := hA.lt.1
  have hap := hA.mine.1
  obtain ⟨W, hW⟩ : ∃ W, W = (w.alloc (.cells #[.int .i64 2, .int .i64 x.frm, .int .i64 x.to, .int .i64 x.num, .string x.text, .int .i64 q1, .int .i64 q2, .string q3, .slice q4 q5 q6] 154)).drew := ⟨_, rfl⟩
  have hf : Fr (fun _ => False) w W := by rw [hW]; exact ((Fr.refl _ _).alloc _).drew
  have HF := Lib.hid hf
  have HZ := Lib.hid (show W.heap.size = w.heap.size + 1 by rw [hW]; simp)
  have hzl : w.heap.size < W.heap.size := by rw [HZ.out]; omega
  have hpaW : pa < W.heap.size := by omega
  have hpW : p < W.heap.size := by omega
  have hlook2 : (Instr.lookup 129 (.map (some mb)) (.int .i64 x.to) false).run Tryz.prog W = .ok (.pointer (some ⟨pa, 0, none⟩)) W := hlook W (hf.weak (fun _ h => h.elim))
  rw [hW] at hlook2
  have z0 : W.cell? ⟨w.heap.size, 0, none⟩ = some (.int .i64 2) := by rw [hW]; simp [go_sem]
  have z1 : W.cell? ⟨w.heap.size, 1, none⟩ = some (.int .i64 x.frm) := by rw [hW]; simp [go_sem]
  have z2 : W.cell? ⟨w.heap.size, 2, none⟩ = some (.int .i64 x.to) := by rw [hW]; simp [go_sem]
  have z3 : W.cell? ⟨w.heap.size, 3, none⟩ = some (.int .i64 x.num) := by rw [hW]; simp [go_sem]
  have z4 : W.cell? ⟨w.heap.size, 4, none⟩ = some (.string x.text) := by rw [hW]; simp [go_sem]
  have z5 : W.cell? ⟨w.heap.size, 5, none⟩ = some (.int .i64 q1) := by rw [hW]; simp [go_sem]
  have z6 : W.cell? ⟨w.heap.size, 6, none⟩ = some (.int .i64 q2) := by rw [hW]; simp [go_sem]
  have z7 : W.cell? ⟨w.heap.size, 7, none⟩ = some (.string q3) := by rw [hW]; simp [go_sem]
  have z8 : W.cell? ⟨w.heap.size, 8, none⟩ = some (.slice q4 q5 q6) := by rw [hW]; simp [go_sem]
  have y2 := hf.cell e2 (fun h => h)
  have y3 := hf.cell e3 (fun h => h)
  have HLF := Lib.hid (show ∀ W2, Below W.heap.size W W2 → RdL W2 (fun k => ¬ X k) A2 a.box.length (nthL a.box) ∧ x.isL W2 S [.int .i64 2, .int .i64 x.frm, .int .i64 x.to, .int .i64 x.num, .string x.text, .int .i64 q1, .int .i64 q2, .string q3, .slice q4 q5 q6] from fun W2 hb => by
    have hf2 : Fr (fun _ => False) w W2 := hf.trans' (Fr.of_below hb)
    exact ⟨RdL.fr (X' := X) hL hf2 (fun _ h => h.elim) (fun k hk => .inl hk), isL_frame hf2.size (fun k hk hlt => ⟨hk, hf2.block k hlt (fun h => h)⟩) hl⟩)
  have HA := Lib.hid hA
  have HMA := Lib.hid hMA
  have HBACK := Lib.hid hback
  have HWW := Lib.hid hW
  rw [hk]
  clear hl hx hk h hL hA hMA hback hlook hact hW hf ha hmem hhas
  go_enter Tryz.func149, Tryz.ntmps149
  go_wp2_with fail
  go_region
  all_goals
    go_wp2_with fail
    rw [← HWW.out]
    go_cut [6, 7] (fun v6 v7 wx => MidP a.box.length (a.pos : Int) (nthL a.box) x W v6 v7 wx)
    case first =>
      go_region_with (first
        | (go_at_call 187; refine (put_one a.box.length cb A2 (a.pos : Int) (nthL a.box) (fun k => ¬ X k) x _ S _ l2 l3 (by exact (HLF.out _ (by (repeat' first | with_reducible exact Below.refl _ _ | (refine Below.drew ?_) | (refine Below.alloc ?_ (by simp) _)))).1) (by exact (HLF.out _ (by (repeat' first | with_reducible exact Below.refl _ _ | (refine Below.drew ?_) | (refine Below.alloc ?_ (by simp) _)))).2) HBOX.out.ok HFIT.out HBOX.out.many hmk).mono ?_; rintro e w1 ⟨A', n', c', at', err, rfl, hb, hp⟩; have HP := Lib.hid hp; have HB1 := Lib.hid hb; have u0 := (fun h => HB1.out.cell (p := ⟨W.heap.size, 0, none⟩) h); try simp [go_sem] at u0; have u1 := (fun h => HB1.out.cell (p := ⟨W.heap.size, 1, none⟩) h); try simp [go_sem] at u1; have uf := (fun (j : Nat) h => grown_frozen (b := W.heap.size) (o := j) (grown_below (g := none) HB1.out) h (by simp)); try simp [go_sem] at uf; clear hp hb))
      all_goals
        go_wp2_with fail
        go_meet
        have hs1 := HB1.out.size
        simp at hs1
        refine MidP.mk (by (repeat' first | with_reducible exact Below.refl _ _ | (refine Below.drew ?_) | (refine Below.alloc ?_ (by simp) _))) HB1.out HP.out ?_ ⟨?_, ?_, ?_⟩ ?_ ?_
        · (repeat' first | with_reducible exact Fr.refl (fun k => k = _) _ | (with_reducible refine Fr.setAt ?_ _) | with_reducible refine Fr.alloc ?_ _ | with_reducible refine Fr.drewN ?_ _ | with_reducible refine Fr.drew ?_)
        · first | omega | (simp; done) | (simp; omega)
        · first | (left; simp; done) | (right; simp; done)
        · first | omega | (simp; done) | (simp; omega)
        · simp [go_sem, u0, u1]
        · simp [go_sem, u0, u1]
    case rest =>
      obtain ⟨q, A', n', c', at', err, rfl, rfl, hq1, hq2, x0, x1, HP⟩ := hcut
      have hfw : Fr (fun _ => False) w wc := HF.out.trans' (Fr.of_below HP.out.1)
      have HFW := Lib.hid hfw
      have hzc := hfw.size
      have HAC := Lib.hid (HA.out.fr (X' := X) hfw (fun _ h => h.elim) (fun k hk => .inl hk) (fun _ h => h.elim) (Nat.le_refl _) (fun _ _ h => h))
      have d2 := hfw.cell e2 (fun h => h)
      have d3 := hfw.cell e3 (fun h => h)
      have df : ∀ o, wc.frozen? ⟨pa, o, none⟩ = false := HAC.out.fz
      have hpac : pa < wc.heap.size := by omega
      have hqpa : q ≠ pa := by omega
      have hpaq : pa ≠ q := by omega
      have hXp := (HM.out.2 pa (HMA.out pa hap).1).1
      clear hfw y2 y3 z0 z1 z2 z3 z4 z5 z6 z7 z8 e2 e3 fz
      rcases HP.out.2 with ⟨h1, rfl, rfl, rfl, h2, h3, hR⟩ | ⟨h1, h2⟩
      · have hne : ¬ a.box.length = 60 := by omega
        have HPB := Lib.hid (show putBox a x = { a with box := a.box ++ [x] } by unfold putBox; rw [if_neg hne])
        have HR := Lib.hid (show RdL wc (fun k => ¬ X k) A' (a.box ++ [x]).length (nthL (a.box ++ [x])) by
          rw [show (a.box ++ [x]).length = a.box.length + 1 by simp]
          refine RdL.congr (hR.frame (S' := fun k => ¬ X k) (Nat.le_refl _) (fun k hk _ => ⟨fun hx => ?_, rfl⟩)) (fun i hi => nthL_snoc hi)
          have h5 : W.heap.size ≤ k := hk
          have := HXL.out k hx
          omega)
        have HSB := Lib.hid (HAC.out.setBox hXp (l := a.box ++ [x]) (c := c') (pos' := a.pos) (by simpa using h2) h3 HR.out)
        have HH2 := Lib.hid (And.intro h2 h3)
        have HE0 := Lib.hid (HERR.out.trans (if_neg hne))
        clear hR h2 h3 hne
        go_wp2_with fail
        refine bodyPost_ret (v := .int .i64 0) (by simp [results, Tryz.results149, go_sem]) rfl ?_
        rw [HE.out, HE0.out]
        have hsl : (a.box ++ [x]).length = a.box.length + 1 := by simp
        have hsb := HSB.out
        rw [hsl] at hsb
        have hz2 : wc.heap.size ≤ ((wc.setCell ⟨pa, 2, none⟩ (.slice A' (a.box.length + 1) c')).setCell ⟨pa, 3, none⟩ (.int .i64 (a.pos : Int))).heap.size := by simp
        obtain ⟨r1, r2⟩ := HBACK.out _ X MA T (putBox a x) (fun _ h => h) (fun k hk => .inl hk) (fun k hk => .inl hk) (fun k hk => (HM.out.2 k (HMA.out k hk).1).1) ⟨b, rb, kb, ib, by rw [HPB.out]; exact hsb⟩ ((HFW.out.weak (fun _ h => h.elim)).trans' (Fr.setIn (Fr.setIn (Fr.refl MA wc) hap _) hap _)) (by rw [HPB.out]) HPUT.out (Nat.le_refl _)
        exact ⟨⟨rfl, _, _, r1, r2⟩, by unfold pot; rw [len_setA]; exact Nat.le_refl _, by rw [len_setA]; exact Nat.le_refl _⟩
      · have HPB := Lib.hid (show putBox a x = a by unfold putBox; rw [if_pos h1])
        have HE0 := Lib.hid (HERR.out.trans (if_pos h1))
        have hne : (err != 0) = true := by simpa using h2
        clear h2 h1
        go_wp2_with fail
        refine bodyPost_ret (v := .int .i64 6) (by simp [results, Tryz.results149, go_sem]) rfl ?_
        rw [HE.out, HE0.out]
        obtain ⟨r1, r2⟩ := HBACK.out _ X MA T (putBox a x) (fun _ h => h) (fun k hk => .inl hk) (fun k hk => .inl hk) (fun k hk => (HM.out.2 k (HMA.out k hk).1).1) ⟨b, rb, kb, ib, by rw [HPB.out]; exact HAC.out⟩ (HFW.out.weak (fun _ h => h.elim)) (by rw [HPB.out]) HPUT.out (Nat.le_refl _)
        exact ⟨⟨rfl, _, _, r1, r2⟩, by unfold pot; rw [len_setA]; exact Nat.le_refl _, by rw [len_setA]; exact Nat.le_refl _⟩
end Go.Proofs.YthgbcgphkddmgaaGreat
namespace Go.Proofs.YthgbcgphkddmgaaGreat
open Go.RowKit
set_option linter.unusedVariables false
set_option linter.unusedSimpArgs false
set_option maxRecDepth 100000 in
set_option maxHeartbeats 4000000 in
theorem deliver_link {w : World} {X M : Nat → Prop} {base T p : Nat} {P : Int → Nat} {N : NdS} (rem : NdS → Int → ByteArray → NdS) (x : LT) (cs : List Value) (S : Nat → Prop) (h : NodeAt w X M base T p P N) (hl : x.isL w S cs) (hx : LtWf x) (hk : x.kind = 4) :
    Calls Tryz.prog 149 #[.pointer (some ⟨p, 0, none⟩), .agg cs.toArray] w (SndPost X M base T p P N (deliverW rem N x) 0 w (.int .i64 0)) := by
  have HE := Lib.hid (show deliverW rem N x = { N with rows := linkL N.rows x.to x.frm } by unfold deliverW; rw [if_neg (by omega), if_neg (by omega), if_pos hk])
  obtain ⟨⟨⟨q1, q2, q3⟩, q4, q5, q6⟩, hQ⟩ := isL_ex hl
  dsimp only at hQ
  subst hQ
  obtain ⟨A, c, c4, hr⟩ := h.rows
  have HN := Lib.hid h
  have hok := h.ok.rows
  have HOK := Lib.hid (hok.link (ref := x.to) hx.1)
  have HOK0 := Lib.hid hok
  have hlt := h.p_lt
  rw [hk]
  obtain ⟨W, hW⟩ : ∃ W, W = w.alloc (.cells #[.int .i64 4, .int .i64 x.frm, .int .i64 x.to, .int .i64 x.num, .string x.text, .int .i64 q1, .int .i64 q2, .string q3, .slice q4 q5 q6] 154) := ⟨_, rfl⟩
  have hf : Fr (fun _ => False) w W := by rw [hW]; exact (Fr.refl _ _).alloc _
  have HF := Lib.hid hf
  have HR := Lib.hid (show RowsAt W.drew X (.slice A N.rows.length c) N.rows from hr.new (hf.drew))
  have HNW := Lib.hid (show NodeAt W.drew X M base T p P N from h.new (hf.drew) (fun _ h => h))
  have z0 : W.cell? ⟨w.heap.size, 0, none⟩ = some (.int .i64 4) := by rw [hW]; simp [go_sem]
  have z1 : W.cell? ⟨w.heap.size, 1, none⟩ = some (.int .i64 x.frm) := by rw [hW]; simp [go_sem]
  have z2 : W.cell? ⟨w.heap.size, 2, none⟩ = some (.int .i64 x.to) := by rw [hW]; simp [go_sem]
  have d4 := hf.cell c4 (fun h => h)
  have HWW := Lib.hid hW
  clear hl hx hk h hr hok hW hf
  go_enter Tryz.func149, Tryz.ntmps149
  go_wp2_with fail
  rw [← HWW.out]
  go_region_with (first
    | (go_at_call 119; refine (llink_any X _ N.rows x.to x.frm W.drew HR.out HOK0.out.ok HNW.out.xlt).mono ?_; rintro e w1 ⟨A1, n1, c1, y, rfl, hb1, hl1⟩; have HL1 := Lib.hid hl1; have HB1 := Lib.hid hb1; clear hl1 hb1)
    | (go_at_call 94; refine (change_nd (HNW.out.below HB1.out) HL1.out HOK.out).mono ?_; rintro e w2 ⟨rfl, X', M', hg, hn⟩; have HG := Lib.hid hg; have HN2 := Lib.hid hn; clear hg hn))
  all_goals
    go_wp2_with fail
    refine bodyPost_ret (v := .int .i64 0) (by simp [results, Tryz.results149, go_sem]) rfl ?_
    rw [HE.out]
    exact ⟨⟨rfl, X', M', (Gr.new ((HF.out.drew).trans' (Fr.of_below HB1.out))).trans HG.out, HN2.out⟩, Nat.le_refl _, Nat.le_refl _⟩
end Go.Proofs.YthgbcgphkddmgaaGreat
namespace Go.Proofs.YthgbcgphkddmgaaGreat
open Go.RowKit
set_option linter.unusedVariables false
set_option linter.unusedSimpArgs false
/-- how one is removed, if at most k are here -/
def RemOk (k : Nat) : Prop := ∀ (X M : Nat → Prop) (base T p : Nat) (P : Int → Nat) (N : NdS) (ref : Int) (failed : Bool) (text : ByteArray) (w : World), NodeAt w X M base T p P N → N.acts.length ≤ k → N.has ref = true → T ≤ 1000000000000 →
  Calls Tryz.prog 122 #[.pointer (some ⟨p, 0, none⟩), .int .i64 ref, .bool failed, .string text] w (SndPost X M base T p P N (remN k N ref failed text) 0 w (.tuple #[]))
set_option maxRecDepth 100000 in
set_option maxHeartbeats 4000000 in
theorem deliver_exit {w : World} {X M : Nat → Prop} {base T p : Nat} {P : Int → Nat} {N : NdS} (k : Nat) (hrem : RemOk k) (x : LT) (cs : List Value) (S : Nat → Prop) (h : NodeAt w X M base T p P N) (hl : x.isL w S cs) (hx : LtWf x) (hk : x.kind = 5) (hlen : N.acts.length ≤ k) (hhas : N.has x.to = true) (hT : T ≤ 1000000000000) :
    Calls Tryz.prog 149 #[.pointer (some ⟨p, 0, none⟩), .agg cs.toArray] w (SndPost X M base T p P N (deliverW (fun M r t => remN k M r true t) N x) 0 w (.int .i64 0)) := by
  have HE := Lib.hid (show deliverW (fun M r t => remN k M r true t) N x = if linkedL N.rows x.to x.frm then remN k N x.to true x.text else N by unfold deliverW; rw [if_neg (by omega), if_neg (by omega), if_neg (by omega), if_pos hk])
  obtain ⟨⟨⟨q1, q2, q3⟩, q4, q5, q6⟩, hQ⟩ := isL_ex hl
  dsimp only at hQ
  subst hQ
  obtain ⟨A, c, c4, hr⟩ := h.rows
  have HOK0 := Lib.hid h.ok.rows
  have hlt := h.p_lt
  rw [hk]
  obtain ⟨W, hW⟩ : ∃ W, W = w.alloc (.cells #[.int .i64 5, .int .i64 x.frm, .int .i64 x.to, .int .i64 x.num, .string x.text, .int .i64 q1, .int .i64 q2, .string q3, .slice q4 q5 q6] 154) := ⟨_, rfl⟩
  have hf : Fr (fun _ => False) w W := by rw [hW]; exact (Fr.refl _ _).alloc _
  have HF := Lib.hid hf
  have HR := Lib.hid (show RowsAt W.drew X (.slice A N.rows.length c) N.rows from hr.new (hf.drew))
  have HNW := Lib.hid (show NodeAt W.drew X M base T p P N from h.new (hf.drew) (fun _ h => h))
  have z0 : W.cell? ⟨w.heap.size, 0, none⟩ = some (.int .i64 5) := by rw [hW]; simp [go_sem]
  have z1 : W.cell? ⟨w.heap.size, 1, none⟩ = some (.int .i64 x.frm) := by rw [hW]; simp [go_sem]
  have z2 : W.cell? ⟨w.heap.size, 2, none⟩ = some (.int .i64 x.to) := by rw [hW]; simp [go_sem]
  have z4 : W.cell? ⟨w.heap.size, 4, none⟩ = some (.string x.text) := by rw [hW]; simp [go_sem]
  have d4 := hf.cell c4 (fun h => h)
  have HWW := Lib.hid hW
  have HREM := Lib.hid (fun W1 h1 => hrem X M base T p P N x.to true x.text W1 h1 hlen hhas hT)
  clear hl hx hk h hr hW hf hrem
  go_enter Tryz.func149, Tryz.ntmps149
  go_wp2_with fail
  rw [← HWW.out]
  go_region_with (first
    | (go_at_call 189; refine (linked_any X _ N.rows x.to x.frm W.drew HR.out HOK0.out.ok).mono ?_; rintro e w1 ⟨b, y, rfl, hb1, hl1⟩; have HL1 := Lib.hid hl1; have HB1 := Lib.hid hb1; have hb1' := Fr.of_below (S := fun _ => False) (show Below W.heap.size W w1 from (Below.refl _ W).drew.trans hb1); have y2 := hb1'.cell z2 (fun h => h); have y4 := hb1'.cell z4 (fun h => h); clear hl1 hb1 hb1'))
  all_goals
    have HN1 := Lib.hid (HNW.out.below HB1.out)
    have HG1 := Lib.hid (show Fr (fun _ => False) w w1 from (HF.out.drew).trans' (Fr.of_below HB1.out))
    by_cases hy : y = 0
    · rcases hb : b with _ | _
      · subst hb
        have HB2 := Lib.hid (show linkedL N.rows x.to x.frm = false by
          rcases HL1.out with ⟨_, h⟩ | ⟨h, _⟩
          · exact h
          · exact absurd hy h)
        subst hy
        go_wp2_with fail
        refine bodyPost_ret (v := .int .i64 0) (by simp [results, Tryz.results149, go_sem]) rfl ?_
        rw [HE.out, HB2.out]
        exact ⟨⟨rfl, X, M, Gr.new HG1.out, HN1.out⟩, Nat.le_refl _, Nat.le_refl _⟩
      · subst hb
        have HB2 := Lib.hid (show linkedL N.rows x.to x.frm = true by
          rcases HL1.out with ⟨_, h⟩ | ⟨h, _⟩
          · exact h
          · exact absurd hy h)
        subst hy
        go_wp2_with fail
        refine (HREM.out w1 HN1.out).mono ?_
        rintro e w2 ⟨⟨rfl, X', M', hg, hn⟩, hp1, hp2⟩
        have HG2 := Lib.hid hg
        have HN2 := Lib.hid hn
        have HP := Lib.hid (And.intro hp1 hp2)
        clear hg hn hp1 hp2
        go_wp2_with fail
        refine bodyPost_ret (v := .int .i64 0) (by simp [results, Tryz.results149, go_sem]) rfl ?_
        rw [HE.out, HB2.out]
        exact ⟨⟨rfl, X', M', (Gr.new HG1.out).trans HG2.out, HN2.out⟩, HP.out.1, HP.out.2⟩
    · have HB2 := Lib.hid (show linkedL N.rows x.to x.frm = false by
        rcases HL1.out with ⟨h, _⟩ | ⟨_, h⟩
        · exact absurd h hy
        · exact h)
      have hy' : (y == 0) = false := by simpa using hy
      clear hy
      go_wp2_with fail
      refine bodyPost_ret (v := .int .i64 0) (by simp [results, Tryz.results149, go_sem]) rfl ?_
      rw [HE.out, HB2.out]
      exact ⟨⟨rfl, X, M, Gr.new HG1.out, HN1.out⟩, Nat.le_refl _, Nat.le_refl _⟩
end Go.Proofs.YthgbcgphkddmgaaGreat
