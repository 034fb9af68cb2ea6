/- Carrying words between heaps: what it computes. -/
import Derived.Test.YtkdbnkkdohkhjaaHeapRound
import Derived.Test.YtkdbnkkdohkhjaaTermOf
namespace Go.Proofs.Ytkdbnkkdohkhjaa
open Go.RowKit
set_option linter.unusedVariables false
/-- the state of a transfer: the heap that grows, the copies (index and place), the cells that were emptied -/
structure CS where
  to : List Nat
  cp : List (Nat × Nat)
  cells : List Nat
def look : List (Nat × Nat) → Nat → Option Nat
  | [], _ => none
  | (a, p) :: l, b => if b = a then some p else look l b
theorem look_mem {l : List (Nat × Nat)} {a p : Nat} (h : look l a = some p) : (a, p) ∈ l := by
  induction l with
  | nil => cases h
  | cons x l ih =>
    obtain ⟨c, q⟩ := x
    simp only [look] at h
    by_cases e : a = c
    · rw [if_pos e] at h; injection h with h; subst e h; exact List.mem_cons_self
    · rw [if_neg e] at h; exact List.mem_cons_of_mem _ (ih h)
/-- the word of a place -/
def cw (p : Nat) : Nat := p * 8 + 4
/-- the index that a word means -/
def atOf (w : Nat) : Nat := (numOf (w : Int)).toNat
def withParts (o : Ob) (ps : List Nat) : Ob := ⟨o.kind, o.num, o.text, ps⟩
def readsB (h : List Nat) (a : Nat) : Bool := decide (a < h.length) && (decide (tbR h a ≤ 64) && decide (plR h a ≤ 400) && decide (n8R h a + plR h a ≤ (restR h a).length)) && okOb (obR h a) && decide ((wordsO (obR h a)).length ≤ h.length - a) && decide (wordsO (obR h a) = (h.drop a).take (wordsO (obR h a)).length)
theorem readsB_iff {h : List Nat} {a : Nat} : readsB h a = true ↔ ReadsOb h a := by
  unfold readsB ReadsOb roomR
  simp only [Bool.and_eq_true, decide_eq_true_eq]
  constructor
  · rintro ⟨⟨⟨⟨h1, ⟨h2, h3⟩, h4⟩, h5⟩, h6⟩, h7⟩; exact ⟨h1, ⟨h2, h3, h4⟩, h5, h6, h7⟩
  · rintro ⟨h1, ⟨h2, h3, h4⟩, h5, h6, h7⟩; exact ⟨⟨⟨⟨h1, ⟨h2, h3⟩, h4⟩, h5⟩, h6⟩, h7⟩
def addC (h : List Nat) (a : Nat) (qs : List Nat) (st : CS) : CS := ⟨st.to ++ wordsO (withParts (obR h a) qs), (a, st.to.length) :: st.cp, if (obR h a).kind = 5 ∧ 0 < qs.length then st.cells ++ [a] else st.cells⟩
def stepC (h : List Nat) (g : List Nat → CS → Option (List Nat × CS)) (w : Nat) (st : CS) : Option (Nat × CS) :=
  if okR (w : Int) = true then
    if tagOf (w : Int) = 4 then
      match look st.cp (atOf w) with
      | some p => some (cw p, st)
      | none =>
        if readsB h (atOf w) = true then
          match g (paR h (atOf w)) st with
          | none => none
          | some (qs, st1) => if st1.to.length + (wordsO (withParts (obR h (atOf w)) qs)).length ≤ 4000 then some (cw st1.to.length, addC h (atOf w) qs st1) else none
        else none
    else some (w, st)
  else none
def carL (f : Nat → CS → Option (Nat × CS)) : List Nat → CS → Option (List Nat × CS)
  | [], st => some ([], st)
  | p :: ps, st => match f p st with
    | none => none
    | some (q, st1) => match carL f ps st1 with
      | none => none
      | some (qs, st2) => some (q :: qs, st2)
def carW (h : List Nat) : Nat → Nat → CS → Option (Nat × CS)
  | 0 => stepC h (fun _ _ => none)
  | r + 1 => stepC h (carL (carW h r))
theorem carL_snoc (f : Nat → CS → Option (Nat × CS)) (l : List Nat) (p : Nat) (st : CS) : carL f (l ++ [p]) st = match carL f l st with
    | none => none
    | some (qs, st1) => match f p st1 with
      | none => none
      | some (q, st2) => some (qs ++ [q], st2) := by
  induction l generalizing st with
  | nil =>
    simp only [List.nil_append, carL]
  | cons a l ih =>
    simp only [List.cons_append, carL]
    cases f a st with
    | none => rfl
    | some x =>
      obtain ⟨q, st1⟩ := x
      dsimp only
      rw [ih st1]
      cases carL f l st1 with
      | none => rfl
      | some y =>
        obtain ⟨qs, st2⟩ := y
        dsimp only
        cases f p st2 with
        | none => rfl
        | some z => obtain ⟨q2, st3⟩ := z; rfl
theorem carL_none {f : Nat → CS → Option (Nat × CS)} {l m : List Nat} {st : CS} (h : carL f l st = none) : carL f (l ++ m) st = none := by
  induction l generalizing st with
  | nil => cases h
  | cons a l ih =>
    simp only [List.cons_append, carL] at h ⊢
    cases e : f a st with
    | none => rfl
    | some x =>
      obtain ⟨q, st1⟩ := x
      rw [e] at h
      dsimp only at h ⊢
      cases e2 : carL f l st1 with
      | none => rw [ih e2]
      | some y => rw [e2] at h; cases h
theorem carL_len {f : Nat → CS → Option (Nat × CS)} {l : List Nat} {st : CS} {qs : List Nat} {st1 : CS} (h : carL f l st = some (qs, st1)) : qs.length = l.length := by
  induction l generalizing st qs st1 with
  | nil => simp only [carL, Option.some.injEq, Prod.mk.injEq] at h; rw [← h.1]
  | cons a l ih =>
    simp only [carL] at h
    cases e : f a st with
    | none => rw [e] at h; cases h
    | some x =>
      obtain ⟨q, st2⟩ := x
      rw [e] at h
      dsimp only at h
      cases e2 : carL f l st2 with
      | none => rw [e2] at h; cases h
      | some y =>
        obtain ⟨qs2, st3⟩ := y
        rw [e2] at h
        simp only [Option.some.injEq, Prod.mk.injEq] at h
        rw [← h.1, List.length_cons, List.length_cons, ih e2]
/-- sizes and numbers of a state -/
structure OkS (h : List Nat) (st : CS) : Prop where
  room : st.to.length ≤ 4000
  all : All64 st.to
  few : st.cp.length ≤ st.to.length
  low : ∀ a p, (a, p) ∈ st.cp → a < h.length ∧ p < 4000
  cells : ∀ a, a ∈ st.cells → a < h.length
  fewer : st.cells.length ≤ st.cp.length
theorem cw_lt {p : Nat} (h : p < 4000) : cw p < 18446744073709551616 := by unfold cw; omega
theorem cw_word {p : Nat} (h : p < 4000) : wordV 4 (p : Int) = ((cw p : Nat) : Int) ∧ okW 4 (p : Int) = true := by
  unfold wordV cw okW validB
  refine ⟨by omega, ?_⟩
  simp
  omega
theorem wordsO_all {o : Ob} (hk : okOb o = true) (h : All64 o.parts) : All64 (wordsO o) := by
  intro x hx
  unfold wordsO at hx
  rcases List.mem_cons.1 hx with rfl | hx
  · exact (headW_kind hk).2.2.2
  · rcases List.mem_append.1 hx with hx | hx
    · rcases List.mem_append.1 hx with hx | hx
      · unfold numW at hx
        split at hx
        · simp at hx
          subst hx
          unfold uN
          omega
        · cases hx
      · exact tw_lt (bt_lt _) _ x hx
    · exact h x hx
theorem withParts_ok {o : Ob} (h : okOb o = true) {ps : List Nat} (hl : ps.length = o.parts.length) : okOb (withParts o ps) = true := by
  unfold okOb withParts at *
  dsimp only at *
  rw [hl]
  exact h
theorem addC_ok {h : List Nat} {a : Nat} {qs : List Nat} {st : CS} (H : OkS h st) (hr : ReadsOb h a) (hq : qs.length = (paR h a).length) (h64 : All64 qs) (hf : st.to.length + (wordsO (withParts (obR h a) qs)).length ≤ 4000) : OkS h (addC h a qs st) := by
  have hpos := wordsO_pos (withParts (obR h a) qs)
  have hok : okOb (withParts (obR h a) qs) = true := withParts_ok hr.2.2.1 hq
  refine ⟨by simp only [addC, List.length_append]; omega, H.all.append (wordsO_all hok h64), ?_, fun b p hb => ?_, fun b hb => ?_, ?_⟩
  · have := H.few
    simp only [addC, List.length_append, List.length_cons]
    omega
  · rcases List.mem_cons.1 hb with hb | hb
    · simp at hb
      obtain ⟨rfl, rfl⟩ := hb
      exact ⟨hr.1, by omega⟩
    · exact H.low b p hb
  · simp only [addC] at hb
    split at hb
    · rcases List.mem_append.1 hb with hb | hb
      · exact H.cells b hb
      · simp at hb; subst hb; exact hr.1
    · exact H.cells b hb
  · have := H.fewer
    simp only [addC, List.length_cons]
    split
    · simp only [List.length_append, List.length_cons, List.length_nil]; omega
    · omega
theorem pa_all {h : List Nat} (H : All64 h) (a : Nat) : All64 (paR h a) := ((H.drop _).drop _).take _
theorem carL_ok {h : List Nat} {f : Nat → CS → Option (Nat × CS)} (hf : ∀ w st q st1, w < 18446744073709551616 → OkS h st → f w st = some (q, st1) → OkS h st1 ∧ q < 18446744073709551616) :
    ∀ (l : List Nat) (st : CS) (qs : List Nat) (st1 : CS), All64 l → OkS h st → carL f l st = some (qs, st1) → OkS h st1 ∧ All64 qs := by
  intro l
  induction l with
  | nil =>
    intro st qs st1 _ H e
    simp only [carL, Option.some.injEq, Prod.mk.injEq] at e
    obtain ⟨rfl, rfl⟩ := e
    exact ⟨H, fun x hx => by cases hx⟩
  | cons a l ih =>
    intro st qs st1 ha H e
    simp only [carL] at e
    cases e1 : f a st with
    | none => rw [e1] at e; cases e
    | some x =>
      obtain ⟨q, st2⟩ := x
      rw [e1] at e
      dsimp only at e
      obtain ⟨H2, hq⟩ := hf a st q st2 (ha a List.mem_cons_self) H e1
      cases e2 : carL f l st2 with
      | none => rw [e2] at e; cases e
      | some y =>
        obtain ⟨qs2, st3⟩ := y
        rw [e2] at e
        simp only [Option.some.injEq, Prod.mk.injEq] at e
        obtain ⟨rfl, rfl⟩ := e
        obtain ⟨H3, hqs⟩ := ih st2 qs2 st3 (fun x hx => ha x (List.mem_cons_of_mem _ hx)) H2 e2
        exact ⟨H3, fun x hx => by rcases List.mem_cons.1 hx with rfl | hx; exact hq; exact hqs x hx⟩
theorem stepC_ok {h : List Nat} (h64 : All64 h) {g : List Nat → CS → Option (List Nat × CS)} (hg : ∀ l st qs st1, All64 l → OkS h st → g l st = some (qs, st1) → OkS h st1 ∧ All64 qs ∧ qs.length = l.length)
    (w : Nat) (st : CS) (q : Nat) (st1 : CS) (hw : w < 18446744073709551616) (H : OkS h st) (e : stepC h g w st = some (q, st1)) : OkS h st1 ∧ q < 18446744073709551616 := by
  unfold stepC at e
  split at e
  · split at e
    · split at e
      · rename_i p hp
        simp only [Option.some.injEq, Prod.mk.injEq] at e
        obtain ⟨rfl, rfl⟩ := e
        exact ⟨H, cw_lt (H.low _ _ (look_mem hp)).2⟩
      · split at e
        · rename_i hrd
          split at e
          · cases e
          · rename_i qs st2 hgl
            obtain ⟨H2, hqs, hql⟩ := hg _ _ _ _ (pa_all h64 _) H hgl
            split at e
            · rename_i hroom
              simp only [Option.some.injEq, Prod.mk.injEq] at e
              obtain ⟨rfl, rfl⟩ := e
              have hpos := wordsO_pos (withParts (obR h (atOf w)) qs)
              exact ⟨addC_ok H2 (readsB_iff.1 hrd) hql hqs hroom, cw_lt (by omega)⟩
            · cases e
        · cases e
    · simp only [Option.some.injEq, Prod.mk.injEq] at e
      obtain ⟨rfl, rfl⟩ := e
      exact ⟨H, hw⟩
  · cases e
theorem carW_ok {h : List Nat} (h64 : All64 h) : ∀ (r w : Nat) (st : CS) (q : Nat) (st1 : CS), w < 18446744073709551616 → OkS h st → carW h r w st = some (q, st1) → OkS h st1 ∧ q < 18446744073709551616 := by
  intro r
  induction r with
  | zero => intro w st q st1 hw H e; exact stepC_ok h64 (fun _ _ _ _ _ _ he => by cases he) w st q st1 hw H e
  | succ r ih =>
    intro w st q st1 hw H e
    refine stepC_ok h64 (fun l st qs st1 hl H he => ?_) w st q st1 hw H e
    obtain ⟨h1, h2⟩ := carL_ok ih l st qs st1 hl H he
    exact ⟨h1, h2, carL_len he⟩
end Go.Proofs.Ytkdbnkkdohkhjaa
