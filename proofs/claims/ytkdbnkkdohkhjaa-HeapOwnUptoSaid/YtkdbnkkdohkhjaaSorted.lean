/- slices.Sort over a row of ints of the call's own. -/
import Derived.Test.YtkdbnkkdohkhjaaInts
import Derived.Test.YtkdbnkkdohkhjaaSort
import Derived.Sort.OwnSortedInts
namespace Go.Proofs.Ytkdbnkkdohkhjaa
open Go.RowKit
set_option linter.unusedVariables false
/-- the numbers in order -/
def srt (l : List Int) : List Int := l.mergeSort fun x y => decide (x ≤ y)
theorem srt_perm (l : List Int) : (srt l).Perm l := List.mergeSort_perm _ _
theorem srt_len (l : List Int) : (srt l).length = l.length := (srt_perm l).length_eq
theorem srt_pairwise (l : List Int) : (srt l).Pairwise (· ≤ ·) := by
  have h := List.pairwise_mergeSort (le := fun x y : Int => decide (x ≤ y)) (by intro a b c h1 h2; simp at *; omega) (by intro a b; simp; omega) l
  exact h.imp (by intro a b h; simpa using h)
theorem srt_eq {l m : List Int} (h : l.Perm m) : srt l = srt m := by
  refine List.Perm.eq_of_pairwise (le := fun a b : Int => a ≤ b) (fun a b _ _ h1 h2 => by omega) (srt_pairwise l) (srt_pairwise m) ?_
  exact (srt_perm l).trans (h.trans (srt_perm m).symm)
def SortPost (base : Nat) (v : Value) (l : List Int) (w : World) (e : Ending) (w' : World) : Prop := e = .returned (.tuple #[]) ∧ OwnI w' base v (srt l) ∧ w.grownBy w' v.ownBlock
theorem sortI_own (base : Nat) (v : Value) (l : List Int) (w : World) (h : OwnI w base v l) (hl : l.length < 4611686018427387904) : Calls Try.prog 39 #[v] w (SortPost base v l w) := by
  rcases h.2 with ⟨rfl, h0⟩ | ⟨g, cap, cur, rfl, hb, hg, hnc, hcm, hcs, htake⟩
  · obtain rfl : l = [] := List.eq_nil_of_length_eq_zero h0
    refine (Try.sort_int_none _ _ _).mono ?_
    rintro e w' ⟨rfl, rfl⟩
    exact ⟨rfl, by simpa [srt] using h, grown_self _ _⟩
  · have hH := holds_of_blockI (ss := l) hg (by simpa [encI] using htake)
    have hlt := (Array.getElem?_eq_some_iff.1 hg).1
    refine (Try.sort_int g 0 cap l w hH hlt hl).mono ?_
    rintro e w' ⟨rfl, n, os, rfl⟩
    refine ⟨rfl, ?_, grownBy_sortedI _⟩
    have := ownsRow_sortedI (w := w) (base := base) (n := n) (os := os) (ss := l) (ts := srt l) (srt_len l) hb hg hnc hcm hcs
    unfold OwnI
    rw [srt_len]
    exact this
end Go.Proofs.Ytkdbnkkdohkhjaa
