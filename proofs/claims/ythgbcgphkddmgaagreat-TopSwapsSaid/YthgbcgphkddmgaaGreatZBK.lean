/- A cluster with live lines: one packet more in the air. -/
import Derived.Test.YthgbcgphkddmgaaGreatZBJ
namespace Go.Proofs.YthgbcgphkddmgaaGreat
open Go.RowKit Go.Maps
set_option linter.unusedVariables false
set_option linter.unusedSimpArgs false
theorem AirR.snoc {w w' : World} {D : Nat → Prop} {base : Nat} {Bd : Nat → Prop} {v' u : Value} {l : List ((Nat × Nat) × PK)} {i k : Nat} {p : PK} {W : Nat → Value} (h : ∀ j, j < l.length → PkBody w Bd (W j) (airN l j).2.body) (hf : Fr D w w') (hD : ∀ k, Bd k → ¬ D k)
    (hr : w'.ownsRow base 126 7 v' (l.length + 1) (flatC (airC l W) l.length ++ (.int .i64 ((i + 1 : Nat) : Int) :: .int .i64 ((k + 1 : Nat) : Int) :: pkV p u))) (hu : PkBody w' Bd u p.body) : AirR w' base Bd v' (l ++ [((i, k), p)]) := by
  refine ⟨fun j => if j = l.length then u else W j, ?_, fun j hj => ?_⟩
  · have e1 : (l ++ [((i, k), p)]).length = l.length + 1 := by simp
    rw [e1]
    have : flatC (airC (l ++ [((i, k), p)]) fun j => if j = l.length then u else W j) (l.length + 1) = flatC (airC l W) l.length ++ (.int .i64 ((i + 1 : Nat) : Int) :: .int .i64 ((k + 1 : Nat) : Int) :: pkV p u) := by
      rw [flatC]
      congr 1
      · refine flatC_ext _ (fun j hj => ?_)
        show Value.int .i64 (((airN (l ++ [((i, k), p)]) j).1.1 + 1 : Nat) : Int) :: .int .i64 (((airN (l ++ [((i, k), p)]) j).1.2 + 1 : Nat) : Int) :: pkV (airN (l ++ [((i, k), p)]) j).2 (if j = l.length then u else W j) = airC l W j
        rw [if_neg (by omega), airN_old hj]
        rfl
      · show Value.int .i64 (((airN (l ++ [((i, k), p)]) l.length).1.1 + 1 : Nat) : Int) :: .int .i64 (((airN (l ++ [((i, k), p)]) l.length).1.2 + 1 : Nat) : Int) :: pkV (airN (l ++ [((i, k), p)]) l.length).2 (if l.length = l.length then u else W l.length) = _
        rw [if_pos rfl, airN_new]
    rw [this]
    exact hr
  · rw [List.length_append] at hj
    have hj' : j < l.length + 1 := hj
    show PkBody w' Bd (if j = l.length then u else W j) (airN (l ++ [((i, k), p)]) j).2.body
    by_cases e : j = l.length
    · rw [if_pos e]
      subst e
      rw [airN_new]
      exact hu
    · rw [if_neg e, airN_old (by omega)]
      exact (h j (by omega)).fr hf hD (fun _ h _ => h)
section
variable {w w' : World} {X X' Mc D : Nat → Prop} {base T T' : Nat} {bl : CBk → Nat} {pn : Nat → Nat} {rv rv' : RBk → Value} {Bd Bd' : Nat → Prop} {M : Nat → Nat → Prop} {Pn : Nat → Int → Nat} {C C' : GcS}
theorem GcG.more_air (h : GcG w X Mc base T bl pn rv Bd M Pn C) {i k : Nat} {p : PK} {u v' : Value} {W : Nat → Value} {WB w5 : World} (hB : Fr (fun _ => False) w WB) (hW : ∀ j, j < C.air.length → PkBody w Bd (W j) (airN C.air j).2.body) (h5 : WB.grownBy w5 (rv .Air).ownBlock)
    (hr : w5.ownsRow base 126 7 v' (C.air.length + 1) (flatC (airC C.air W) C.air.length ++ (.int .i64 ((i + 1 : Nat) : Int) :: .int .i64 ((k + 1 : Nat) : Int) :: pkV p u))) (hat : v'.ownBlock = (rv .Air).ownBlock ∨ ∃ g, v'.ownBlock = some g ∧ w.heap.size ≤ g) (hu : PkBody w Bd u p.body) :
    (∃ X' Mc', Gr X Mc w X' Mc' (w5.setCell ⟨bl .P, 5, none⟩ v') ∧ GcG (w5.setCell ⟨bl .P, 5, none⟩ v') X' Mc' base T bl pn (updR rv .Air v') Bd M Pn { C with air := C.air ++ [((i, k), p)] }) ∧ Fr (fun b => b = bl .P ∨ (rv .Air).ownBlock = some b) w (w5.setCell ⟨bl .P, 5, none⟩ v') := by
  have hPlt : bl .P < w.heap.size := h.mlt _ (h.own .P trivial).1
  have hPv : ¬ (rv .Air).ownBlock = some (bl .P) := fun e => (h.row .Air trivial _ e).2.2.1 .P trivial rfl
  have hf5 : Fr (fun b => (rv .Air).ownBlock = some b) w w5 := Fr.trans' (S := fun b => (rv .Air).ownBlock = some b) (hB.weak (fun _ h => h.elim)) (Fr.of_grown h5 (fun b hb => .inl hb))
  have hs : Fr (fun b => b = bl .P) w5 (w5.setCell ⟨bl .P, 5, none⟩ v') := Fr.setAt (Fr.refl _ w5) v'
  have hf6 : Fr (fun b => b = bl .P ∨ (rv .Air).ownBlock = some b) w (w5.setCell ⟨bl .P, 5, none⟩ v') := Fr.trans' (S := fun b => b = bl .P ∨ (rv .Air).ownBlock = some b) (hf5.weak (fun b hb => .inr hb)) (hs.weak (fun b hb => .inl hb))
  have hp : GcP w bl C.n (rv .Air) (rv .Log) := h.cc .P trivial
  obtain ⟨ca, p0⟩ := hp.c0
  obtain ⟨cb, p1⟩ := hp.c1
  have hBn : ∀ b, Bd b → ¬ (b = bl .P ∨ (rv .Air).ownBlock = some b) := fun b hb hd => by
    rcases hd with hd | hd
    · exact (h.bod b hb).2.2.1 .P trivial hd.symm
    · exact (h.bod b hb).2.2.2 .Air trivial hd
  have hvP : ∀ b, v'.ownBlock = some b → b ≠ bl .P := fun b hb e => by
    rcases hat with e1 | ⟨g, e1, hg⟩
    · rw [e1] at hb; rw [e] at hb; exact hPv hb
    · rw [e1] at hb; injection hb with hb; omega
  refine ⟨h.aired hf6 ⟨⟨ca, set_other (hf5.cell p0 hPv) (by decide)⟩, ⟨cb, set_other (hf5.cell p1 hPv) (by decide)⟩, set_other (hf5.cell hp.c2 hPv) (by decide), set_other (hf5.cell hp.c3 hPv) (by decide), set_other (hf5.cell hp.c4 hPv) (by decide), set_this (hf5.cell hp.c5 hPv), set_other (hf5.cell hp.c6 hPv) (by decide), set_other (hf5.cell hp.c7 hPv) (by decide), set_other (hf5.cell hp.c8 hPv) (by decide), set_fz (fun o => (hf5.frozen hPlt hPv).trans (hp.fz o))⟩ ?_ (fun _ h => h) (fun _ h => .inl h) hat, hf6⟩
  exact AirR.snoc hW hf6 hBn (hs.row hr (fun b hb hd => hvP b hb hd)) (hu.fr hf6 hBn (fun _ h _ => h))
/-- the bodies of new packets are the cluster's -/
theorem GcG.ended_new (h : GcG w X Mc base T bl pn rv Bd M Pn C) {i k : Nat} (hi : i < C.n) (hk : k < C.n) (hne : i ≠ k) {e' : EnS} {V U : Nat → Value} {v : Value} (hf : Fr (fun b => b = bl (.Ed i k) ∨ (rv (.Out i k)).ownBlock = some b) w w')
    (hE : EndG w' (bl (.Ed i k)) base Bd (rv (.Out i k)) (rv (.Inn i k)) V U e') :
    ∃ X' Mc' rv', Gr X Mc w X' Mc' w' ∧ GcG w' X' Mc' base T bl pn rv' (fun b => Bd b ∨ (w.heap.size ≤ b ∧ b < w'.heap.size ∧ v.ownBlock ≠ some b)) M Pn { C with en := upd2 C.en i k e' } ∧ rv' .Air = rv .Air := by
  have hok : (CBk.Ed i k).ok C.n := ⟨hi, hk, hne⟩
  have h1 := h.mlt _ (h.own _ hok).1
  have h2 : ∀ b, (rv (.Out i k)).ownBlock = some b → b < w.heap.size := fun b hb => h.mlt _ (h.row (.Out i k) hok b hb).1
  have h3 : ∀ b, (rv (.Inn i k)).ownBlock = some b → b < w.heap.size := fun b hb => h.mlt _ (h.row (.Inn i k) hok b hb).1
  obtain ⟨X', Mc', hg, hG⟩ := h.ended hi hk hne hf (hE.more (Bd' := fun b => Bd b ∨ (w.heap.size ≤ b ∧ b < w'.heap.size ∧ v.ownBlock ≠ some b)) (fun _ h => .inl h) (fun b hb => by
    rcases hb with hb | hb
    · exact hE.no b hb
    · exact ⟨by omega, fun e => by have := h2 b e; omega, fun e => by have := h3 b e; omega⟩) (fun b hb => by
    rcases hb with hb | hb
    · exact hE.bdlt b hb
    · exact hb.2.1)) (fun _ h => .inl h) (fun b hb => by
    rcases hb with hb | hb
    · exact .inl hb
    · exact .inr ⟨hb.1, hb.2.1⟩) (.inl rfl)
  exact ⟨X', Mc', _, hg, hG, updR_ne _ _ (by intro e; cases e)⟩
end
theorem airL_snoc (i k : Nat) : ∀ (l : List PK) (a : List ((Nat × Nat) × PK)) (p : PK), airL i k a (l ++ [p]) = if (airL i k a l).length < 400 then airL i k a l ++ [((i, k), p)] else airL i k a l
  | [], a, p => rfl
  | q :: l, a, p => airL_snoc i k l _ p
theorem EnS.outs_len (e : EnS) (h : e.out.length ≤ 8) : e.outs.length ≤ 8 := by
  unfold EnS.outs
  split
  · simp
  · have := e.news_len e.top
    unfold EnS.top at this ⊢
    omega
end Go.Proofs.YthgbcgphkddmgaaGreat
