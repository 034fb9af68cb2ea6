/- What heap.Build makes of a value: plain facts. -/
import Derived.Test.YtkdbnkkdohkhjaaVal
import Derived.Test.YtkdbnkkdohkhjaaTermOf
import Derived.Test.YtkdbnkkdohkhjaaHeapRound
namespace Go.Proofs.Ytkdbnkkdohkhjaa
open Go.RowKit
set_option linter.unusedVariables false
/-- the kinds of values that are objects -/
def kindsF (j : Nat) : Int := if j = 1 then 2 else if j = 2 then 4 else if j = 3 then 5 else if j = 4 then 7 else if j = 5 then 8 else 0
def kdOf (k : Int) : Int := ixOf (fun j => k == kindsF j) 6
def bldArgs (f : Nat → List Nat → Option (List Nat × Nat)) : Nat → List Nat → Option (List Nat × List Nat)
  | 0, h => some (h, [])
  | i + 1, h => match bldArgs f i h with
    | none => none
    | some (g, ps) => match f i g with
      | none => none
      | some (g', x) => some (g', ps ++ [x])
def goesB (k m : Int) : Bool := decide (1 ≤ kdOf k) && (m == 0 || hasN (kdOf k))
def fitsB (h : List Nat) (o : Ob) : Bool := okOb o && decide (h.length + (wordsO o).length ≤ 4000)
def bldNode (k m : Int) (s : ByteArray) : Option (List Nat × List Nat) → Option (List Nat × Nat)
  | none => none
  | some (g, ps) => if fitsB g ⟨kdOf k, m, s, ps⟩ then some (g ++ wordsO ⟨kdOf k, m, s, ps⟩, g.length * 8 + 4) else none
/-- the heap with a value's objects, and the value's word -/
def VT.bld : VT → List Nat → Option (List Nat × Nat)
  | .none, h => Option.none
  | .node k m s n arg, h => if ofB k m s n then some (h, (ofW k m s n).toNat) else
      if goesB k m then bldNode k m s (bldArgs (fun i => (arg i).bld) n h) else Option.none
theorem kdOf_le (k : Int) : -1 ≤ kdOf k ∧ kdOf k ≤ 5 := by
  unfold kdOf
  rcases ixOf_cases (fun j => k == kindsF j) 6 with ⟨e, _⟩ | ⟨j, e, hj, _⟩
  · rw [e]; omega
  · rw [e]; omega
theorem bldArgs_len {f : Nat → List Nat → Option (List Nat × Nat)} : ∀ {i : Nat} {h g ps : List Nat}, bldArgs f i h = some (g, ps) → ps.length = i := by
  intro i
  induction i with
  | zero => intro h g ps e; simp [bldArgs] at e; simp [e.2.symm]
  | succ i ih =>
    intro h g ps e
    simp only [bldArgs] at e
    split at e
    · cases e
    · rename_i g1 ps1 h1
      split at e
      · cases e
      · injection e with e
        injection e with e1 e2
        rw [← e2, List.length_append, ih h1]; rfl
/-- where one argument fails all fails -/
theorem bldArgs_none {f : Nat → List Nat → Option (List Nat × Nat)} {i : Nat} {h : List Nat} (hi : bldArgs f i h = none) : ∀ n, i ≤ n → bldArgs f n h = none := by
  intro n hn
  induction n with
  | zero => obtain rfl : i = 0 := by omega
            exact hi
  | succ n ih =>
    by_cases e : i = n + 1
    · rw [← e]; exact hi
    · simp only [bldArgs, ih (by omega)]
theorem bldArgs_fail {f : Nat → List Nat → Option (List Nat × Nat)} {i : Nat} {h g ps : List Nat} (hi : bldArgs f i h = some (g, ps)) (hf : f i g = none) {n : Nat} (hn : i < n) : bldArgs f n h = none :=
  bldArgs_none (i := i + 1) (by simp only [bldArgs, hi, hf]) n hn
theorem bldArgs_next {f : Nat → List Nat → Option (List Nat × Nat)} {i x : Nat} {h g ps g' : List Nat} (hi : bldArgs f i h = some (g, ps)) (hf : f i g = some (g', x)) : bldArgs f (i + 1) h = some (g', ps ++ [x]) := by
  simp only [bldArgs, hi, hf]
theorem bldArgs_le {f : Nat → List Nat → Option (List Nat × Nat)} (hf : ∀ i h g x, f i h = some (g, x) → h.length ≤ g.length) : ∀ {i : Nat} {h g ps : List Nat}, bldArgs f i h = some (g, ps) → h.length ≤ g.length := by
  intro i
  induction i with
  | zero => intro h g ps e; simp [bldArgs] at e; simp [e.1]
  | succ i ih =>
    intro h g ps e
    simp only [bldArgs] at e
    split at e
    · cases e
    · rename_i g1 ps1 h1
      split at e
      · cases e
      · rename_i g2 x h2
        injection e with e
        injection e with e1 e2
        subst e1
        have := ih h1
        have := hf i _ _ _ h2
        omega
theorem fitsB_iff {h : List Nat} {o : Ob} : fitsB h o = true ↔ okOb o = true ∧ h.length + (wordsO o).length ≤ 4000 := by
  unfold fitsB
  rw [Bool.and_eq_true, decide_eq_true_eq]
theorem bld_len {t : VT} {h g : List Nat} {x : Nat} (e : t.bld h = some (g, x)) (hl : h.length ≤ 4194304) : g.length ≤ 4194304 := by
  cases t with
  | none => cases e
  | node k m s n arg =>
    simp only [VT.bld] at e
    split at e
    · injection e with e
      injection e with e1 _
      subst e1
      exact hl
    · split at e
      · cases hb : bldArgs (fun i => (arg i).bld) n h with
        | none => rw [hb] at e; cases e
        | some p =>
          obtain ⟨g1, ps⟩ := p
          rw [hb] at e
          simp only [bldNode] at e
          split at e
          · rename_i hf
            injection e with e
            injection e with e1 _
            subst e1
            have := (fitsB_iff.1 hf).2
            rw [List.length_append]
            omega
          · cases e
      · cases e
end Go.Proofs.Ytkdbnkkdohkhjaa
