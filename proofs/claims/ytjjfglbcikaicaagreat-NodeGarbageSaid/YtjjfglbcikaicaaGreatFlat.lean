/- Rows with one element more or less: plain facts on their cells. -/
import Derived.Test.YtjjfglbcikaicaaGreatRow
namespace Go.Proofs.YtjjfglbcikaicaaGreat
open Go.RowKit
set_option linter.unusedVariables false
theorem flatC_split (g : Nat → List Value) (p m : Nat) : flatC g (p + m) = flatC g p ++ flatC (fun k => g (p + k)) m := by
  induction m with
  | zero => simp [flatC]
  | succ m ih => rw [show p + (m + 1) = (p + m) + 1 by omega, flatC, ih, flatC, List.append_assoc]
theorem flatC_take {g : Nat → List Value} {sz n p : Nat} (h : ∀ k, (g k).length = sz) (hp : p ≤ n) : (flatC g n).take (p * sz) = flatC g p := by
  obtain ⟨m, rfl⟩ : ∃ m, n = p + m := ⟨n - p, by omega⟩
  rw [flatC_split, List.take_append_of_le_length (by rw [flatC_length h]; omega), List.take_of_length_le (by rw [flatC_length h]; omega)]
theorem flatC_drop {g : Nat → List Value} {sz n p : Nat} (h : ∀ k, (g k).length = sz) (hp : p ≤ n) : (flatC g n).drop (p * sz) = flatC (fun k => g (p + k)) (n - p) := by
  obtain ⟨m, rfl⟩ : ∃ m, n = p + m := ⟨n - p, by omega⟩
  have hl := flatC_length h p
  rw [flatC_split, List.drop_append_of_le_length (by omega), List.drop_eq_nil_of_le (by omega), List.nil_append, Nat.add_sub_cancel_left]
def insF {α : Type} (f : Nat → α) (p : Nat) (x : α) : Nat → α := fun k => if k < p then f k else if k = p then x else f (k - 1)
def delF {α : Type} (f : Nat → α) (i : Nat) : Nat → α := fun k => if k < i then f k else f (k + 1)
theorem ins_flatG {g g' : Nat → List Value} {sz n p : Nat} {x : List Value} (h : ∀ k, (g k).length = sz) (hp : p ≤ n) (hg : g' = insF g p x) :
    (flatC g n).take (p * sz) ++ x ++ (flatC g n).drop (p * sz) = flatC g' (n + 1) := by
  subst hg
  rw [flatC_take h hp, flatC_drop h hp]
  obtain ⟨m, rfl⟩ : ∃ m, n = p + m := ⟨n - p, by omega⟩
  rw [Nat.add_sub_cancel_left, show p + m + 1 = p + (1 + m) by omega, flatC_split, flatC_split, ← List.append_assoc]
  congr 1
  · congr 1
    · exact flatC_congr fun k hk => by simp [insF, hk]
    · simp [flatC, insF]
  · refine flatC_congr fun k hk => ?_
    simp only [insF]
    rw [if_neg (by omega), if_neg (by omega)]
    congr 1
    omega
theorem del_flatG {g : Nat → List Value} {sz n i : Nat} (h : ∀ k, (g k).length = sz) (hi : i < n) : (flatC g n).take (i * sz) ++ (flatC g n).drop ((i + 1) * sz) = flatC (delF g i) (n - 1) := by
  rw [flatC_take h (by omega), flatC_drop h (by omega)]
  obtain ⟨m, rfl⟩ : ∃ m, n = i + 1 + m := ⟨n - (i + 1), by omega⟩
  rw [Nat.add_sub_cancel_left, show i + 1 + m - 1 = i + m by omega, flatC_split]
  congr 1
  · exact flatC_congr fun k hk => by simp [delF, hk]
  · refine flatC_congr fun k hk => ?_
    simp only [delF]
    rw [if_neg (by omega)]
    congr 1
    omega
theorem cell_newL (W : World) (xs : List Value) (t : TypeId) (n : Nat) (hn : W.heap.size = n) : ∀ j u, xs[j]? = some u → (W.alloc (.cells xs.toArray t)).cell? ((⟨n, 0, none⟩ : Addr).add j) = some u := by
  intro j u hu
  rw [Addr.add_lit, World.cell?_alloc_at (w := W) xs.toArray t n (0 + j) hn.symm]
  simpa using hu
end Go.Proofs.YtjjfglbcikaicaaGreat
