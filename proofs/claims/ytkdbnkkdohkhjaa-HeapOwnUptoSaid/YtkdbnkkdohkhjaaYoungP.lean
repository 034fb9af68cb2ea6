/- Aged heaps: the plain facts on objects by their places. -/
import Derived.Test.YtkdbnkkdohkhjaaGoesP
namespace Go.Proofs.Ytkdbnkkdohkhjaa
open Go.RowKit
set_option linter.unusedVariables false
/-- an object begins at a place -/
def begO (l : List Ob) (a : Nat) : Prop := ∃ k o, l[k]? = some o ∧ posO l k = a
theorem beg_reads {h : List Nat} {l : List Ob} {a : Nat} (H : ObsOf h l) (hb : begO l a) : ReadsOb h a ∧ obR h a ∈ l := by
  obtain ⟨k, o, hk, rfl⟩ := hb
  obtain ⟨h1, h2⟩ := obs_at H hk
  exact ⟨h1, by rw [h2]; exact List.mem_of_getElem? hk⟩
theorem beg_lt {h : List Nat} {l : List Ob} {a : Nat} (H : ObsOf h l) (hb : begO l a) : a < h.length := (beg_reads H hb).1.1
/-- the index of the first n objects: what stands at a place -/
def idxG (l : List Ob) (C : Nat → List Value) : Nat → Int → Option Value
  | 0, _ => none
  | n + 1, x => if x = ((posO l n : Nat) : Int) then some (.agg (C n).toArray) else idxG l C n x
theorem idxG_none {l : List Ob} {C : Nat → List Value} {x : Int} : ∀ {n : Nat}, (∀ k, k < n → x ≠ ((posO l k : Nat) : Int)) → idxG l C n x = none := by
  intro n
  induction n with
  | zero => intro _; rfl
  | succ n ih =>
    intro h
    rw [idxG, if_neg (h n (by omega))]
    exact ih (fun k hk => h k (by omega))
theorem idxG_at {l : List Ob} {C : Nat → List Value} {k : Nat} : ∀ {n : Nat}, n ≤ l.length → k < n → idxG l C n ((posO l k : Nat) : Int) = some (.agg (C k).toArray) := by
  intro n
  induction n with
  | zero => intro _ h; omega
  | succ n ih =>
    intro hn hk
    rw [idxG]
    by_cases e : k = n
    · subst e; rw [if_pos rfl]
    · have hne : ((posO l k : Nat) : Int) ≠ ((posO l n : Nat) : Int) := fun h => e (posO_inj (l := l) (by omega) (by omega) (by omega))
      rw [if_neg hne]
      exact ih (by omega) (by omega)
/-- at a place that begins the index holds the object -/
theorem idxG_beg {l : List Ob} {C : Nat → List Value} {a : Nat} : (∃ k o, l[k]? = some o ∧ posO l k = a ∧ idxG l C l.length (a : Int) = some (.agg (C k).toArray)) ∨ (¬ begO l a ∧ idxG l C l.length (a : Int) = none) := by
  by_cases h : begO l a
  · obtain ⟨k, o, hk, rfl⟩ := h
    have hl := (List.getElem?_eq_some_iff.1 hk).1
    exact .inl ⟨k, o, hk, rfl, idxG_at (Nat.le_refl _) hl⟩
  · refine .inr ⟨h, idxG_none (fun k hk e => h ⟨k, l[k], List.getElem?_eq_getElem hk, by omega⟩)⟩
theorem idxG_neg {l : List Ob} {C : Nat → List Value} {x : Int} (hx : x < 0) : idxG l C l.length x = none := idxG_none (fun k _ e => by omega)
/-- a word that is right beside a list of objects -/
def wordOk (l : List Ob) (p : Nat) : Prop := okR (p : Int) = true ∧ (tagOf (p : Int) = 4 → begO l (atOf p))
/-- ages that are right -/
structure OkA (h : List Nat) (old : Int) (late : List Int) (l : List Ob) : Prop where
  len : h.length ≤ 4000
  obs : ObsOf h l
  oldOk : old = (h.length : Int) ∨ ∃ a : Nat, old = a ∧ begO l a
  lateOk : ∀ (i : Nat) (x : Int), late[i]? = some x → (∃ a : Nat, x = a ∧ begO l a) ∧ x < old ∧ ∀ (j : Nat) (y : Int), j < i → late[j]? = some y → y < x
  parts : ∀ k o, l[k]? = some o → ∀ p ∈ o.parts, wordOk l p ∧ (tagOf (p : Int) = 4 → old ≤ ((atOf p : Nat) : Int) → ((posO l k : Nat) : Int) < old → ((posO l k : Nat) : Int) ∈ late)
end Go.Proofs.Ytkdbnkkdohkhjaa
