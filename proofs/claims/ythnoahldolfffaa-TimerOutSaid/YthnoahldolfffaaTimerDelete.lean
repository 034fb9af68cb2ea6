/- slices.Delete of one timer, in a row of the call's own. -/
import Derived.Test.YthnoahldolfffaaRowOps
namespace Go.Proofs.Ythnoahldolfffaa
open Go.RowKit
set_option linter.unusedVariables false
theorem infoR : (Try.prog.info? 34).map (fun i => (i.zero, i.size, i.bytes)) = some (some (.agg #[.int .i64 0, .int .i64 0]), 2, 16) := by kernel_rfl
theorem infoR_size : (Try.prog.info? 34).map (·.size) = some 2 := by kernel_rfl
theorem infoR_zero : ∀ w, (zeroValue 34).run Try.prog w = .ok (.agg #[.int .i64 0, .int .i64 0]) w := fun w => by kernel_rfl
theorem infoR_sizeOf : ∀ w, (Go.sizeOf 34).run Try.prog w = .ok 2 w := fun w => by kernel_rfl
theorem del_list (c xs Z : List Value) (a s N : Nat) (hx : c.take N = xs) (hN : N ≤ c.length) (ha : a + s ≤ N) (L1 : List Value) (hL1 : L1 = c.take a ++ xs.drop (a + s) ++ c.drop (a + (xs.drop (a + s)).length)) (hZ : Z.length = s) :
    (L1.take (N - s) ++ Z ++ L1.drop (N - s + Z.length)).take (N - s) = xs.take a ++ xs.drop (a + s) := by
  have hxl : xs.length = N := by rw [← hx]; simp; omega
  have h1 : L1.length = c.length := by rw [hL1]; simp; omega
  have e1 : L1.take (N - s) = xs.take a ++ xs.drop (a + s) := by
    have h2 : (c.take a ++ xs.drop (a + s)).length = N - s := by simp; omega
    rw [hL1, List.take_append_of_le_length (by omega), List.take_of_length_le (by omega), ← hx, List.take_take]
    congr 2
    omega
  rw [List.append_assoc, List.take_append_of_le_length (by simp; omega), List.take_take, Nat.min_self, e1]
def DelPost1 (base g cap n i : Nat) (xs : List Value) (w : World) (e : Ending) (w' : World) : Prop :=
  e = .returned (.slice (some ⟨g, 0, none⟩) (n - 1) cap) ∧ w'.ownsRow base 34 2 (.slice (some ⟨g, 0, none⟩) (n - 1) cap) (n - 1) (xs.take (i * 2) ++ xs.drop ((i + 1) * 2)) ∧ w.grownBy w' (some g)
set_option maxHeartbeats 4000000 in
set_option maxRecDepth 100000 in
/-- Delete of one element -/
theorem del_one (base g cap n i : Nat) (xs : List Value) (w : World) (hi : i < n) (hown : w.ownsRow base 34 2 (.slice (some ⟨g, 0, none⟩) n cap) n xs) (h1x : ∀ v ∈ xs, v.oneCell' = true) :
    Calls Try.prog 26 #[.slice (some ⟨g, 0, none⟩) n cap, .int .i64 i, .int .i64 ((i : Int) + 1)] w (DelPost1 base g cap n i xs w) := by
  rcases hown.2 with ⟨h', _⟩ | ⟨g', cap', cur, hv, hb, hg, hnc, hcm, hcs, ht⟩
  · cases h'
  obtain ⟨rfl, rfl⟩ : g = g' ∧ cap = cap' := by injection hv with e1 e2 e3; injection e1 with e1; injection e1 with e1; exact ⟨e1, e3⟩
  unfold maxLen at hcm
  have hxl := hown.1
  obtain ⟨i0, hi0, hz0, hzs, hzb⟩ := info_parts infoR
  have hx : ∀ j v, xs[j]? = some v → w.cell? ⟨g, j, none⟩ = some v := fun j v hj => by
    rw [cell_of_row hg]
    rw [← ht, List.getElem?_take] at hj
    split at hj
    · simpa using hj
    · cases hj
  have hsp : ∀ j, j < cap * 2 → (w.cell? ⟨g, j, none⟩).isSome = true := fun j hj => by rw [cell_of_row hg, Array.getElem?_eq_getElem (by omega)]; rfl
  obtain ⟨news, hnews⟩ : ∃ news, news = xs.drop ((i + 1) * 2) := ⟨_, rfl⟩
  have hlen : news.length = (n - (i + 1)) * 2 := by rw [hnews, List.length_drop, hxl]; omega
  obtain ⟨A, hA, hsrc⟩ : ∃ A : Addr, (if cap = i + 1 then some (⟨g, 0, none⟩ : Addr) else some ⟨g, (i + 1) * 2, none⟩) = some A ∧ Hid (∀ t u, news[t]? = some u → w.drew.cell? (A.add t) = some u) := by
    by_cases h : cap = i + 1
    · refine ⟨⟨g, 0, none⟩, by simp [h], fun t u hu => ?_⟩
      have h0 : news.length = 0 := by rw [hlen]; omega
      rw [List.length_eq_zero_iff.1 h0] at hu
      simp at hu
    · refine ⟨⟨g, (i + 1) * 2, none⟩, by simp [h], fun t u hu => ?_⟩
      rw [Addr.add_lit]
      rw [hnews, List.getElem?_drop] at hu
      exact hx _ u hu
  have s1 : Hid (news.length = (n - (i + 1)) * 2) := hlen
  have s2 : Hid (∀ u ∈ news, u.oneCell' = true) := fun u hu => by rw [hnews] at hu; exact h1x u (List.mem_of_mem_drop hu)
  have s3 : Hid (∀ t, t < news.length → (w.drew.cell? ⟨g, 0 + i * 2 + t, none⟩).isSome = true ∧ w.drew.frozen? ⟨g, 0 + i * 2 + t, none⟩ = false) := by
    intro t ht
    rw [hlen] at ht
    exact ⟨hsp _ (by omega), frozen_of_row (w := w.drew) hg⟩
  obtain ⟨W1, hW1⟩ : ∃ W1, W1 = w.drew.setCells g (0 + i * 2) news := ⟨_, rfl⟩
  obtain ⟨L1, hL1⟩ : ∃ L1, L1 = cur.toList.take (i * 2) ++ xs.drop (i * 2 + 2) ++ cur.toList.drop (i * 2 + (xs.drop (i * 2 + 2)).length) := ⟨_, rfl⟩
  have hL1l : L1.length = cap * 2 := by rw [hL1]; simp [hxl, hcs]; omega
  have hg1 : W1.heap[g]? = some (.cells L1.toArray 34 (0, 0)) := by
    rw [hW1, hL1, show i * 2 + 2 = (i + 1) * 2 by omega, ← hnews]
    have := setCells_heap (w := w.drew) (vs := news) (o := 0 + i * 2) hg (by omega)
    rw [Nat.zero_add] at this
    rw [Nat.zero_add]
    exact this
  have hgr1 : w.grownBy W1 (some g) := by rw [hW1]; exact grown_drew (grown_setCells w.drew g _ _)
  obtain ⟨Z, hZ⟩ : ∃ Z, Z = (Builtin.zeroCells (.agg #[.int .i64 0, .int .i64 0] : Value).cells 1).toList := ⟨_, rfl⟩
  have hZl : Z.length = 2 := by rw [hZ, zeroCells_len]; rfl
  have hZ1 : ∀ v ∈ Z, v.oneCell' = true := by
    have e : (Builtin.zeroCells (.agg #[.int .i64 0, .int .i64 0] : Value).cells 1).toList = (.agg #[.int .i64 0, .int .i64 0] : Value).cells.toList := by kernel_rfl
    rw [hZ, e]
    intro v hv
    simp [Value.cells] at hv
    rcases hv with rfl | rfl <;> rfl
  have hnn : n - (i + (n - (i + 1))) = 1 := by omega
  have hcl : ∀ ty, (Builtin.clear_ #[22] ty #[.slice (some ⟨g, (i + (n - (i + 1))) * 2, none⟩) (n - (i + (n - (i + 1)))) (cap - (i + (n - (i + 1))))]).run Try.prog W1 = .ok (.tuple #[]) (W1.setCells g ((i + (n - (i + 1))) * 2) Z) := fun ty => by
    rw [hnn, hZ]
    exact run_clear_sz W1 _ 34 ty _ Try.underlying22 infoR_zero g _ 1 _ (by omega) (fun j hj => by rw [← hZ, hZl] at hj; rw [cell_of_row hg1, Array.getElem?_eq_getElem (by simp [hL1l]; omega)]; rfl) (fun j hj => frozen_of_row hg1) (by rw [← hZ]; exact hZ1)
  have FIN : Hid (DelPost1 base g cap n i xs w (.returned (.slice (some ⟨g, 0, none⟩) (i + (n - (i + 1))) cap)) (W1.setCells g ((i + (n - (i + 1))) * 2) Z)) := by
    have e1 : i + (n - (i + 1)) = n - 1 := by omega
    rw [e1]
    refine ⟨rfl, ⟨by simp [hxl]; omega, .inr ⟨g, cap, _, rfl, hb, setCells_heap hg1 (by simp [hL1l, hZl]; omega), by omega, by unfold maxLen; omega, by simp [hL1l, hZl]; omega, ?_⟩⟩, grown_step hgr1 (grown_setCells _ _ _ _) (.inl rfl)⟩
    have := del_list cur.toList xs Z (i * 2) 2 (n * 2) ht (by simp; omega) (by omega) L1 hL1 hZl
    rw [show (i + 1) * 2 = i * 2 + 2 by omega, show (n - 1) * 2 = n * 2 - 2 by omega]
    simpa using this
  have hW : Hid (W1 = w.drew.setCells g (0 + i * 2) news) := hW1
  have hic : i ≤ cap := by omega
  have hjc : i + 1 ≤ cap := by omega
  have hjn : i + 1 ≤ n := by omega
  have htn : ((i : Int) + 1).toNat = i + 1 := by omega
  have hb1 : (0 : Int) ≤ (i : Int) + 1 := by omega
  have hq1 : (i : Int) ≤ (i : Int) + 1 := by omega
  have hq2 : (i : Int) + 1 ≤ (n : Int) := by omega
  have hq3 : (i : Int) ≤ (n : Int) := by omega
  have hq4 : ((i : Int) == (i : Int) + 1) = false := by simp; omega
  clear hown hg hv ht hcs hx hsp hnews hlen hL1 hL1l hg1 hgr1 hZ hZl hZ1 hnn hxl hW1 h1x
  go_enter Try.func26, Try.ntmps26
  go_wp2_with fail
  go_region_law (refine step_append_room rfl (.tmp 22) (.tmp 25) 22 rfl 34 i0 2 Try.underlying22 hi0 hzs g 0 i cap (by simp [Act.eval, Act.put]) A (n - (i + 1)) (cap - (i + 1)) news (by simp [Act.eval, Act.put]) s1.out hsrc.out s2.out (by omega) s3.out ?_; rw [← hW.out])
  go_wp2_with fail
  go_ret
  exact FIN.out

end Go.Proofs.Ythnoahldolfffaa
