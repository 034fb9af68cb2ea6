/- Plain lemmas and the contracts of slices.IndexFunc and slices.ContainsFunc over error numbers, and of the law package's helper good. -/
import Derived.Test.YthgbcgphkddmgaaGreatRows
import Derived.WalkKit
import Derived.ProofKit
import Derived.OpenShut
import Derived.Lib.Hide
namespace Go.Proofs.YthgbcgphkddmgaaGreat
open Go.RowKit

theorem ret_bool {a b : Bool} (h : a = b) : Ending.returned (.bool a) = .returned (.bool b) := by rw [h]
theorem ret_int {k : IntKind} {a b : Int} (h : a = b) : Ending.returned (.int k a) = .returned (.int k b) := by rw [h]

/-- the least k below n with p k, or -1 -/
def ixOf (p : Nat → Bool) : Nat → Int
  | 0 => -1
  | n + 1 => if 0 ≤ ixOf p n then ixOf p n else if p n then n else -1
theorem ixOf_none {p : Nat → Bool} {n : Nat} (h : ∀ j, j < n → p j = false) : ixOf p n = -1 := by
  induction n with
  | zero => rfl
  | succ n ih =>
    have e := ih fun j hj => h j (by omega)
    simp [ixOf, e, h n (by omega)]
theorem ixOf_found {p : Nat → Bool} {n k : Nat} (hk : k < n) (hp : p k = true) (h : ∀ j, j < k → p j = false) : ixOf p n = k := by
  induction n with
  | zero => omega
  | succ n ih =>
    by_cases e : k = n
    · subst e
      have e := ixOf_none h
      simp [ixOf, e, hp]
    · have e' := ih (by omega)
      have : (0 : Int) ≤ k := by omega
      simp [ixOf, e', this]
theorem ixOf_cases (p : Nat → Bool) (n : Nat) : (ixOf p n = -1 ∧ ∀ j, j < n → p j = false) ∨ ∃ k : Nat, ixOf p n = k ∧ k < n ∧ p k = true ∧ ∀ j, j < k → p j = false := by
  induction n with
  | zero => exact .inl ⟨rfl, fun j hj => by omega⟩
  | succ n ih =>
    rcases ih with ⟨e, h⟩ | ⟨k, e, hk, hp, h⟩
    · by_cases hp : p n = true
      · exact .inr ⟨n, by simp [ixOf, e, hp], by omega, hp, h⟩
      · have hp' : p n = false := by simpa using hp
        refine .inl ⟨by simp [ixOf, e, hp'], fun j hj => ?_⟩
        by_cases e : j = n
        · rw [e]; exact hp'
        · exact h j (by omega)
    · have : (0 : Int) ≤ k := by omega
      exact .inr ⟨k, by simp [ixOf, e, this], by omega, hp, h⟩

/-- a function with a body is entered -/
def Enters (P : Program) (f : Nat) : Prop := ∀ (args : Array Value) (W : World), (callFunc f args).run P W = .ok (.enter f args) W

def anyOf (p : Nat → Bool) (n : Nat) : Bool := decide (0 ≤ ixOf p n)
theorem anyOf_true {p : Nat → Bool} {n : Nat} : anyOf p n = true ↔ ∃ k, k < n ∧ p k = true := by
  unfold anyOf
  rcases ixOf_cases p n with ⟨e, h⟩ | ⟨k, e, hk, hp, _⟩
  · simp only [e, decide_eq_true_eq]
    constructor
    · intro h; omega
    · rintro ⟨k, hk, hp⟩; rw [h k hk] at hp; cases hp
  · simp only [e, decide_eq_true_eq]
    exact ⟨fun _ => ⟨k, hk, hp⟩, fun _ => by omega⟩
theorem anyOf_false {p : Nat → Bool} {n : Nat} : anyOf p n = false ↔ ∀ k, k < n → p k = false := by
  rw [← Bool.not_eq_true, anyOf_true]
  simp

end Go.Proofs.YthgbcgphkddmgaaGreat
