/- slices.Compact over a row of ints of the call's own; what is left of a sorted list. -/
import Derived.Test.YtjcegplockihfaaSorted
import Derived.Test.YtjcegplockihfaaComp
namespace Go.Proofs.Ytjcegplockihfaa
open Go.RowKit
set_option linter.unusedVariables false
/-- the first k elements of a row of the call's own -/
theorem own_take {w : World} {base g cap n k : Nat} {e : TypeId} {xs : List Value} (h : w.ownsRow base e 1 (.slice (some ⟨g, 0, none⟩) n cap) n xs) (hk : k ≤ n) : w.ownsRow base e 1 (.slice (some ⟨g, 0, none⟩) k cap) k (xs.take k) := by
  rcases h.2 with ⟨h', _⟩ | ⟨g', cap', cur, h', hb, hg, hnc, hcm, hcs, htake⟩
  · simp at h'
  · injection h' with h1 _ h3
    injection h1 with h1
    injection h1 with h1
    subst h1 h3
    refine ⟨?_, .inr ⟨g, cap, cur, rfl, hb, hg, by omega, hcm, hcs, ?_⟩⟩
    · rw [List.length_take, h.1]; omega
    · rw [← htake, List.take_take]
      congr 1
      omega
theorem compact_len (l : List Int) : (Lib.compact l).length ≤ l.length := by
  unfold Lib.compact Lib.compactUpTo
  rw [List.length_map]
  have := List.length_filter_le (Lib.keeps l.toArray) (List.range l.length)
  rw [List.length_range] at this
  exact this
def CompPost (base : Nat) (v : Value) (l : List Int) (w : World) (e : Ending) (w' : World) : Prop := ∃ v', e = .returned v' ∧ OwnI w' base v' (Lib.compact l) ∧ w.grownBy w' v.ownBlock
theorem compactI_own (base : Nat) (v : Value) (l : List Int) (w : World) (h : OwnI w base v l) (h0 : 0 < l.length) (hl : l.length ≤ 9223372036854775807) : Calls Try.prog 33 #[v] w (CompPost base v l w) := by
  rcases h.2 with ⟨rfl, h1⟩ | ⟨g, cap, cur, rfl, hb, hg, hnc, hcm, hcs, htake⟩
  · omega
  · have hH := holds_of_blockI (ss := l) hg (by simpa [encI] using htake)
    refine (Try.compact_int g 0 cap l w hH hl hnc).mono ?_
    rintro e w' ⟨rfl, q, rfl⟩
    have hcl := compact_len l
    have e0 : ∀ (d : Array Int), Go.Sort.grow (Go.Sort.putRow (Value.int .i64) (Go.Sort.ahead w q) g 0 d) #[] = Go.Sort.putRow (Value.int .i64) (Go.Sort.ahead w q) g 0 d := fun d => by cases hW : Go.Sort.putRow (Value.int .i64) (Go.Sort.ahead w q) g 0 d; simp [Go.Sort.grow, Array.append_empty]
    refine ⟨_, rfl, ?_, ?_⟩
    · have h2 := ownsRow_sortedI (w := w) (base := base) (n := q) (os := #[]) (ss := l) (ts := Lib.compact l ++ List.replicate (l.length - (Lib.compact l).length) 0) (by rw [List.length_append, List.length_replicate]; omega) hb hg hnc hcm hcs
      rw [e0] at h2
      have h3 := own_take h2 hcl
      unfold OwnI encI
      rw [← List.map_take, List.take_left] at h3
      exact h3
    · have h2 := grownBy_sortedI (w := w) (g := g) (n := q) (os := #[]) (Lib.compact l ++ List.replicate (l.length - (Lib.compact l).length) 0).toArray
      rw [e0] at h2
      exact h2
theorem sorted_get {l : List Int} (h : l.Pairwise (· ≤ ·)) {i j : Nat} (hij : i < j) (hj : j < l.length) : l.toArray[i]! ≤ l.toArray[j]! := by
  have := List.pairwise_iff_getElem.1 h i j (by omega) hj hij
  simpa [show i < l.length by omega, hj] using this
theorem compact_inv {l : List Int} (h : l.Pairwise (· ≤ ·)) : ∀ m, m ≤ l.length → (Lib.compactUpTo l.toArray m).Pairwise (· < ·) ∧ (∀ x ∈ Lib.compactUpTo l.toArray m, ∃ j, j < m ∧ x = l.toArray[j]!) ∧ (∀ j, j < m → l.toArray[j]! ∈ Lib.compactUpTo l.toArray m) := by
  intro m
  induction m with
  | zero => intro _; exact ⟨by simp [Lib.compactUpTo], by simp [Lib.compactUpTo], fun j hj => by omega⟩
  | succ m ih =>
    intro hm
    obtain ⟨h1, h2, h3⟩ := ih (by omega)
    rw [Lib.compactUpTo_succ]
    by_cases hk : Lib.keeps l.toArray m = true
    · rw [if_pos hk]
      refine ⟨?_, fun x hx => ?_, fun j hj => ?_⟩
      · rw [List.pairwise_append]
        refine ⟨h1, by simp, fun a ha b hb => ?_⟩
        simp at hb
        subst hb
        obtain ⟨j, hj, rfl⟩ := h2 a ha
        have hm0 : m ≠ 0 := by omega
        have hne : l.toArray[m]! ≠ l.toArray[m - 1]! := by
          have := of_decide_eq_true hk
          rcases this with h | h
          · omega
          · exact h
        have hle : l.toArray[m - 1]! ≤ l.toArray[m]! := sorted_get h (by omega) (by omega)
        have hle2 : l.toArray[j]! ≤ l.toArray[m - 1]! := by
          by_cases e : j = m - 1
          · rw [e]; exact Int.le_refl _
          · exact sorted_get h (by omega) (by omega)
        have : l.toArray[j]! < l.toArray[m]! := by omega
        simpa using this
      · rcases List.mem_append.1 hx with hx | hx
        · obtain ⟨j, hj, e⟩ := h2 x hx
          exact ⟨j, by omega, e⟩
        · simp at hx
          exact ⟨m, by omega, by simpa using hx⟩
      · by_cases e : j = m
        · subst e; simp
        · exact List.mem_append_left _ (h3 j (by omega))
    · have hk' : Lib.keeps l.toArray m = false := by simpa using hk
      rw [if_neg hk, List.append_nil]
      refine ⟨h1, fun x hx => ?_, fun j hj => ?_⟩
      · obtain ⟨j, hj, e⟩ := h2 x hx
        exact ⟨j, by omega, e⟩
      · by_cases e : j = m
        · subst e
          have := of_decide_eq_false hk'
          have h5 : l.toArray[j]! = l.toArray[j - 1]! := by
            apply Classical.byContradiction
            intro hne
            exact this (.inr hne)
          have h6 : j ≠ 0 := fun e => this (.inl e)
          rw [h5]
          exact h3 (j - 1) (by omega)
        · exact h3 j (by omega)
theorem compact_sorted {l : List Int} (h : l.Pairwise (· ≤ ·)) : (Lib.compact l).Pairwise (· < ·) := (compact_inv h _ (Nat.le_refl _)).1
theorem compact_mem {l : List Int} (h : l.Pairwise (· ≤ ·)) {x : Int} (hx : x ∈ l) : x ∈ Lib.compact l := by
  obtain ⟨j, hj, e⟩ := List.mem_iff_getElem.1 hx
  have := (compact_inv h _ (Nat.le_refl _)).2.2 j hj
  rw [show l.toArray[j]! = x by simp [hj, e]] at this
  exact this
end Go.Proofs.Ytjcegplockihfaa
