/- slices.Insert and slices.Delete of one row of watches and links, in a row of the call's own. A call of one argument at a step of a region that draws its order. -/
import Derived.Test.YthgbcgphkddmgaaGreatZAD
import Derived.Deep.RegionHeld3
namespace Go.Proofs.YthgbcgphkddmgaaGreat.Li
open Go.RowKit
set_option linter.unusedVariables false
theorem infoR : (Tryz.prog.info? 242).map (fun i => (i.zero, i.size, i.bytes)) = some (some (.agg #[.int .i64 0, .slice none 0 0, .slice none 0 0]), 3, 56) := by kernel_rfl
theorem infoR_size : (Tryz.prog.info? 242).map (·.size) = some 3 := by kernel_rfl
theorem infoR_zero : ∀ w, (zeroValue 242).run Tryz.prog w = .ok (.agg #[.int .i64 0, .slice none 0 0, .slice none 0 0]) w := fun w => by kernel_rfl
theorem infoR_sizeOf : ∀ w, (Go.sizeOf 242).run Tryz.prog w = .ok 3 w := fun w => by kernel_rfl
def InsPost (base g n i : Nat) (xs r : List Value) (w : World) (e : Ending) (w' : World) : Prop :=
  ∃ v, e = .returned v ∧ w'.ownsRow base 242 3 v (n + 1) (xs.take (i * 3) ++ r ++ xs.drop (i * 3)) ∧ w.grownBy w' (some g)
theorem ins_list (c xs r : List Value) (a s N : Nat) (hx : c.take N = xs) (hN : N + s ≤ c.length) (ha : a ≤ N) (hr : r.length = s) :
    ((c.take (a + s) ++ xs.drop a ++ c.drop (a + s + (xs.drop a).length)).take a ++ r ++ (c.take (a + s) ++ xs.drop a ++ c.drop (a + s + (xs.drop a).length)).drop (a + r.length)).take (N + s) = xs.take a ++ r ++ xs.drop a := by
  have h1 : (c.take (a + s)).length = a + s := by simp; omega
  have hxl : xs.length = N := by rw [← hx]; simp; omega
  have e1 : (c.take (a + s) ++ xs.drop a ++ c.drop (a + s + (xs.drop a).length)).take a = xs.take a := by
    rw [List.append_assoc, List.take_append_of_le_length (by omega), List.take_take, ← hx, List.take_take]
    congr 1
    omega
  have e2 : (c.take (a + s) ++ xs.drop a ++ c.drop (a + s + (xs.drop a).length)).drop (a + r.length) = xs.drop a ++ c.drop (a + s + (xs.drop a).length) := by
    rw [hr, List.append_assoc, List.drop_append_of_le_length (by omega), List.drop_eq_nil_of_le (by omega), List.nil_append]
  rw [e1, e2, ← List.append_assoc]
  have h2 : (xs.take a ++ r ++ xs.drop a).length = N + s := by simp; omega
  rw [List.take_append_of_le_length (by omega), List.take_of_length_le (by omega)]
set_option maxHeartbeats 4000000 in
set_option maxRecDepth 100000 in
/-- Insert of one element where there is room -/
theorem ins_shift (base g cap n i vb : Nat) (xs r : List Value) (w : World) (hi : i < n) (hroom : n + 1 ≤ cap) (hown : w.ownsRow base 242 3 (.slice (some ⟨g, 0, none⟩) n cap) n xs)
    (hvb : w.heap[vb]? = some (.cells r.toArray 242 (0, 0))) (hne : vb ≠ g) (hr : r.length = 3) (h1x : ∀ v ∈ xs, v.oneCell' = true) (h1r : ∀ v ∈ r, v.oneCell' = true) :
    Calls Tryz.prog 156 #[.slice (some ⟨g, 0, none⟩) n cap, .int .i64 i, .slice (some ⟨vb, 0, none⟩) 1 1] w (InsPost base g n i xs r w) := by
  rcases hown.2 with ⟨h', _⟩ | ⟨g', cap', cur, hv, hb, hg, hnc, hcm, hcs, ht⟩
  · cases h'
  obtain ⟨rfl, rfl⟩ : g = g' ∧ cap = cap' := by injection hv with e1 e2 e3; injection e1 with e1; injection e1 with e1; exact ⟨e1, e3⟩
  unfold maxLen at hcm
  have hxl := hown.1
  have hx : ∀ j v, xs[j]? = some v → w.cell? ⟨g, j, none⟩ = some v := fun j v hj => by
    rw [cell_of_row hg]
    rw [← ht, List.getElem?_take] at hj
    split at hj
    · simpa using hj
    · cases hj
  have hsp : ∀ j, j < cap * 3 → (w.cell? ⟨g, j, none⟩).isSome = true := fun j hj => by rw [cell_of_row hg, Array.getElem?_eq_getElem (by omega)]; rfl
  have hfz : ∀ j, w.frozen? ⟨g, j, none⟩ = false := fun j => frozen_of_row hg
  have hov : ∀ lb cb, (callFunc 191 #[.slice (some ⟨vb, 0, none⟩) 1 1, .slice (some ⟨g, (i + 1) * 3, none⟩) lb cb]).run Tryz.prog w = .ok (.value (.bool false)) w := fun lb cb => by
    rw [run_callFunc_extern Tryz.func191 (by kernel_rfl) (by kernel_rfl) (by kernel_rfl) (e := Extern.SlicesOverlaps.overlaps #[130, 130] #[4]) (by kernel_rfl),
      Lib.run_overlaps_apart w 130 4 242 Tryz.underlying130 3 infoR_sizeOf ⟨vb, 0, none⟩ ⟨g, (i + 1) * 3, none⟩ 1 1 lb cb hne 242 242 r.toArray.size cur.size (shape_of_row hvb) (shape_of_row hg) (by omega) (frozen_of_row hvb) (frozen_of_row hvb)]
    rfl
  have hdl : (xs.drop (i * 3)).length = (n - i) * 3 := by rw [List.length_drop, hxl]; omega
  have hcp1 : ∀ ty dc sc, (Builtin.copy_ #[130, 130] ty #[.slice (some ⟨g, (i + 1) * 3, none⟩) (n - i) dc, .slice (some ⟨g, i * 3, none⟩) (n + 1 - i) sc]).run Tryz.prog w.drew = .ok (goInt (n - i : Nat)) (w.drew.setCells g ((i + 1) * 3) (xs.drop (i * 3))) := fun ty dc sc =>
    run_copy_sz w.drew _ _ ty 242 3 g ((i + 1) * 3) (n - i) dc ⟨g, i * 3, none⟩ (n + 1 - i) sc (xs.drop (i * 3)) Tryz.underlying130 infoR_size (by rw [hdl]; simp only [Nat.min_def]; split <;> omega) _ (by simp only [Nat.min_def]; split <;> omega)
      (fun j v hj => by rw [Addr.add_lit]; exact hx (i * 3 + j) v (by rwa [List.getElem?_drop] at hj))
      (fun j hj => hsp _ (by omega)) (fun j hj => hfz _) (fun v hv => h1x v (List.mem_of_mem_drop hv))
  obtain ⟨W1, hW1⟩ : ∃ W1, W1 = w.drew.setCells g ((i + 1) * 3) (xs.drop (i * 3)) := ⟨_, rfl⟩
  have hg1 : W1.heap[g]? = some (.cells (cur.toList.take ((i + 1) * 3) ++ xs.drop (i * 3) ++ cur.toList.drop ((i + 1) * 3 + (xs.drop (i * 3)).length)).toArray 242 (0, 0)) := by
    rw [hW1]; exact setCells_heap (w := w.drew) hg (by omega)
  have hgr1 : w.grownBy W1 (some g) := by rw [hW1]; exact grown_drew (grown_setCells w.drew g _ _)
  have hvb1 : W1.heap[vb]? = some (.cells r.toArray 242 (0, 0)) := (hgr1.block vb (Array.getElem?_eq_some_iff.1 hvb).1 (by simpa using hne)).trans hvb
  have hcp2 : ∀ (W : World), (∀ x, W.cell? x = W1.cell? x) → (∀ x, W.frozen? x = W1.frozen? x) → ∀ ty dc, (Builtin.copy_ #[130, 130] ty #[.slice (some ⟨g, i * 3, none⟩) (n + 1 - i) dc, .slice (some ⟨vb, 0, none⟩) 1 1]).run Tryz.prog W = .ok (goInt (1 : Nat)) (W.setCells g (i * 3) r) := fun W hWc hWf ty dc =>
    run_copy_sz W _ _ ty 242 3 g (i * 3) (n + 1 - i) dc ⟨vb, 0, none⟩ 1 1 r Tryz.underlying130 infoR_size (by rw [hr]; simp only [Nat.min_def]; split <;> omega) _ (by simp only [Nat.min_def]; split <;> omega)
      (fun j v hj => by rw [Addr.add_lit, hWc, cell_of_row hvb1]; simpa using hj)
      (fun j hj => by rw [hWc, cell_of_row hg1]; rw [Array.getElem?_eq_getElem (by simp [hxl]; omega)]; rfl) (fun j hj => by rw [hWf]; exact frozen_of_row hg1) h1r
  rw [← hW1] at hcp1
  have FIN : Hid (InsPost base g n i xs r w (.returned (.slice (some ⟨g, 0, none⟩) (n + 1) cap)) (W1.setCells g (i * 3) r)) := by
    refine ⟨_, rfl, ⟨by simp [hxl, hr]; omega, .inr ⟨g, cap, _, rfl, hb, setCells_heap hg1 (by simp [hxl, hr]; omega), by omega, by unfold maxLen; omega, by simp [hxl, hr]; omega, ?_⟩⟩, grown_step hgr1 (grown_setCells _ _ _ _) (.inl rfl)⟩
    have := ins_list cur.toList xs r (i * 3) 3 (n * 3) ht (by simp; omega) (by omega) hr
    rw [show (i + 1) * 3 = i * 3 + 3 by omega, show (n + 1) * 3 = n * 3 + 3 by omega]
    simpa using this
  have hz2 : ¬ ((i : Int) = (n : Int)) := by omega
  have hw1 : IntKind.i64.wrap ((i : Int) + 1) = (i : Int) + 1 := by rw [IntKind.wrap_i64]; omega
  have hb1 : (0 : Int) ≤ (i : Int) + 1 := by omega
  have htn : ((i : Int) + 1).toNat = i + 1 := by omega
  have hb2 : ¬ (cap = i + 1) := by omega
  have hb3 : (i : Int) ≤ (n : Int) + 1 := by omega
  have hb4 : ¬ (cap = i) := by omega
  have hin : i ≤ n := by omega
  have hc2 := hcp2 W1 (fun _ => rfl) (fun _ => rfl)
  have HW1 := Lib.hid hW1
  clear hown hg hvb hv ht hcs hx hsp hfz hdl hg1 hgr1 hvb1 h1x h1r hcp2 hxl hr hW1
  go_enter Tryz.func156, Tryz.ntmps156
  go_wp2_with (simp only [hov])
  go_region_law (refine step_copy_eq rfl _ _ 130 130 rfl _ _ (by simp [Act.eval, Act.put]) (by simp [Act.eval, Act.put]) (hcp1 _ _ _) ?_)
  go_wp2_with fail
  go_ret
  exact FIN.out
theorem ins_list2 (L0 xs r : List Value) (a s N : Nat) (hxl : xs.length = N) (h0 : L0.take a = xs.take a) (hN : N + s ≤ L0.length) (ha : a ≤ N) (hr : r.length = s) (L1 : List Value) (hL1 : L1 = L0.take a ++ r ++ L0.drop (a + r.length)) :
    (L1.take (a + s) ++ xs.drop a ++ L1.drop (a + s + (xs.drop a).length)).take (N + s) = xs.take a ++ r ++ xs.drop a := by
  have h1 : (L0.take a).length = a := by simp; omega
  have e1 : L1.take (a + s) = xs.take a ++ r := by
    rw [hL1, List.take_append_of_le_length (by simp; omega), List.take_of_length_le (by simp; omega), h0]
  rw [e1]
  have h2 : (xs.take a ++ r ++ xs.drop a).length = N + s := by simp; omega
  rw [List.take_append_of_le_length (by omega), List.take_of_length_le (by omega)]
set_option maxHeartbeats 4000000 in
set_option maxRecDepth 100000 in
/-- Insert of one element where there is no room -/
theorem ins_grow (base g cap n i vb : Nat) (xs r : List Value) (w : World) (hi : i < n) (hroom : cap < n + 1) (hbig : n ≤ 1000000) (hown : w.ownsRow base 242 3 (.slice (some ⟨g, 0, none⟩) n cap) n xs)
    (hvb : w.heap[vb]? = some (.cells r.toArray 242 (0, 0))) (hne : vb ≠ g) (hr : r.length = 3) (h1x : ∀ v ∈ xs, v.oneCell' = true) (h1r : ∀ v ∈ r, v.oneCell' = true) :
    Calls Tryz.prog 156 #[.slice (some ⟨g, 0, none⟩) n cap, .int .i64 i, .slice (some ⟨vb, 0, none⟩) 1 1] w (InsPost base g n i xs r w) := by
  rcases hown.2 with ⟨h', _⟩ | ⟨g', cap', cur, hv, hb, hg, hnc, hcm, hcs, ht⟩
  · cases h'
  obtain ⟨rfl, rfl⟩ : g = g' ∧ cap = cap' := by injection hv with e1 e2 e3; injection e1 with e1; injection e1 with e1; exact ⟨e1, e3⟩
  unfold maxLen at hcm
  have hxl := hown.1
  obtain ⟨i0, hi0, hz0, hzs, hzb⟩ := info_parts infoR
  have hx : ∀ j v, xs[j]? = some v → w.cell? ⟨g, j, none⟩ = some v := fun j v hj => by
    rw [cell_of_row hg]
    rw [← ht, List.getElem?_take] at hj
    split at hj
    · simpa using hj
    · cases hj
  have hgw := (Array.getElem?_eq_some_iff.1 hg).1
  have hvw := (Array.getElem?_eq_some_iff.1 hvb).1
  have hdl : (xs.drop (i * 3)).length = (n - i) * 3 := by rw [List.length_drop, hxl]; omega
  have hkk : (n : Int) + 1 - (i : Int) = ((n + 1 - i : Nat) : Int) := by omega
  have hik : i + (n + 1 - i) = n + 1 := by omega
  have hold : (Builtin.firstCells i0.size i (.slice (some ⟨g, 0, none⟩) i cap)).run Tryz.prog w.drew = .ok (xs.take (i * 3)).toArray w.drew := by
    rw [hzs]
    exact run_firstCells_some w.drew 3 i ⟨g, 0, none⟩ i cap (xs.take (i * 3)) (by rw [List.length_take]; omega) (fun j v hj => by
      rw [Addr.add_lit, Nat.zero_add]
      rw [List.getElem?_take] at hj
      split at hj
      · exact hx j v hj
      · cases hj)
  obtain ⟨G, hG⟩ : ∃ G, G = grownCap w (n + 1) cap 242 := ⟨_, rfl⟩
  obtain ⟨ROW, hROW⟩ : ∃ ROW : Array Value, ROW = (xs.take (i * 3)).toArray ++ Builtin.zeroCells (.agg #[.int .i64 0, .slice none 0 0, .slice none 0 0] : Value).cells (n + 1 - i) ++ Builtin.zeroCells (.agg #[.int .i64 0, .slice none 0 0, .slice none 0 0] : Value).cells (G - (n + 1)) := ⟨_, rfl⟩
  have hrz : ∀ ty, (Builtin.append_ #[130, 3] ty #[.slice (some ⟨g, 0, none⟩) i cap, .int .i64 ((n : Int) + 1 - (i : Int))]).run Tryz.prog w =
      .ok (.slice (some ⟨w.heap.size, 0, none⟩) (n + 1) G) (w.drew.alloc (.cells ROW 242)) := fun ty => by
    have h := Lib.run_append_grow_zeros w 130 3 ty 242 i0 _ .i64 .i64 Tryz.underlying130 Tryz.underlying3 hi0 hz0 (some ⟨g, 0, none⟩) i cap (xs.take (i * 3)) hold (n + 1 - i) (by omega) (by omega) (by omega) (by omega) (by rw [hzb]; omega) (by rw [hzb, hik]; exact growslice_fits hroom (by omega))
    rw [hik] at h
    rw [hkk, hROW, hG]
    exact h
  have hGn : n + 1 ≤ G := by rw [hG]; exact grownCap_ge w _ _ _
  have hG63 : G ≤ 9223372036854775807 := by
    have := grownCap_le_maxLen w (n + 1) cap 242 (by unfold maxLen; omega)
    rw [← hG] at this
    unfold maxLen at this
    omega
  have hRl : ROW.size = G * 3 := by
    rw [hROW]
    simp only [Array.size_append, List.size_toArray, List.length_take, hxl]
    have e1 := zeroCells_len (.agg #[.int .i64 0, .slice none 0 0, .slice none 0 0] : Value).cells (n + 1 - i)
    have e2 := zeroCells_len (.agg #[.int .i64 0, .slice none 0 0, .slice none 0 0] : Value).cells (G - (n + 1))
    rw [Array.length_toList] at e1 e2
    rw [e1, e2, show (.agg #[.int .i64 0, .slice none 0 0, .slice none 0 0] : Value).cells.size = 3 from rfl]
    omega
  have hR0 : ROW.toList.take (i * 3) = xs.take (i * 3) := by
    rw [hROW]
    simp only [Array.toList_append, List.append_assoc]
    rw [List.take_append_of_le_length (by simp; omega), List.take_of_length_le (by simp; omega)]
  obtain ⟨W1, hW1⟩ : ∃ W1, W1 = w.drew.alloc (.cells ROW 242) := ⟨_, rfl⟩
  have hgW1 : W1.heap[w.heap.size]? = some (.cells ROW 242 (0, 0)) := by
    rw [hW1]
    show (w.heap.push _)[w.heap.size]? = _
    simp
  have hgr1 : w.grownBy W1 (some g) := by rw [hW1]; exact grown_drew (World.grownBy_alloc w.drew _ _)
  have hvb1 : W1.heap[vb]? = some (.cells r.toArray 242 (0, 0)) := (hgr1.block vb hvw (by simpa using hne)).trans hvb
  have hg1 : W1.heap[g]? = some (.cells cur 242 (0, 0)) := by
    rw [hW1]; exact ((World.grownBy_alloc w.drew _ none).block g hgw (by simp)).trans hg
  have hcpA : ∀ (W : World), (∀ x, W.cell? x = W1.cell? x) → (∀ x, W.frozen? x = W1.frozen? x) → ∀ ty dc, (Builtin.copy_ #[130, 130] ty #[.slice (some ⟨w.heap.size, i * 3, none⟩) (n + 1 - i) dc, .slice (some ⟨vb, 0, none⟩) 1 1]).run Tryz.prog W = .ok (goInt (1 : Nat)) (W.setCells w.heap.size (i * 3) r) := fun W hWc hWf ty dc =>
    run_copy_sz W _ _ ty 242 3 w.heap.size (i * 3) (n + 1 - i) dc ⟨vb, 0, none⟩ 1 1 r Tryz.underlying130 infoR_size (by rw [hr]; simp only [Nat.min_def]; split <;> omega) _ (by simp only [Nat.min_def]; split <;> omega)
      (fun j v hj => by rw [Addr.add_lit, hWc, cell_of_row hvb1]; simpa using hj)
      (fun j hj => by rw [hWc, cell_of_row hgW1, Array.getElem?_eq_getElem (by omega)]; rfl) (fun j hj => by rw [hWf]; exact frozen_of_row hgW1) h1r
  obtain ⟨L1, hL1⟩ : ∃ L1, L1 = ROW.toList.take (i * 3) ++ r ++ ROW.toList.drop (i * 3 + r.length) := ⟨_, rfl⟩
  have hL1l : L1.length = G * 3 := by rw [hL1]; simp [hRl, hr]; omega
  have hgW2 : (W1.setCells w.heap.size (i * 3) r).heap[w.heap.size]? = some (.cells L1.toArray 242 (0, 0)) := by rw [hL1]; exact setCells_heap hgW1 (by omega)
  have hg2 : (W1.setCells w.heap.size (i * 3) r).heap[g]? = some (.cells cur 242 (0, 0)) := by
    have hs1 : g < W1.heap.size := (Array.getElem?_eq_some_iff.1 hg1).1
    exact ((grown_setCells W1 w.heap.size (i * 3) r).block g hs1 (by simp; omega)).trans hg1
  have hcpB : ∀ (W : World), (∀ x, W.cell? x = (W1.setCells w.heap.size (i * 3) r).cell? x) → (∀ x, W.frozen? x = (W1.setCells w.heap.size (i * 3) r).frozen? x) → ∀ ty dc sc, (Builtin.copy_ #[130, 130] ty #[.slice (some ⟨w.heap.size, (i + 1) * 3, none⟩) (n - i) dc, .slice (some ⟨g, i * 3, none⟩) (n - i) sc]).run Tryz.prog W = .ok (goInt (n - i : Nat)) (W.setCells w.heap.size ((i + 1) * 3) (xs.drop (i * 3))) := fun W hWc hWf ty dc sc =>
    run_copy_sz W _ _ ty 242 3 w.heap.size ((i + 1) * 3) (n - i) dc ⟨g, i * 3, none⟩ (n - i) sc (xs.drop (i * 3)) Tryz.underlying130 infoR_size (by rw [hdl]; simp only [Nat.min_def]; split <;> omega) _ (by simp only [Nat.min_def]; split <;> omega)
      (fun j v hj => by
        rw [Addr.add_lit, hWc, cell_of_row hg2, ← cell_of_row hg]
        exact hx (i * 3 + j) v (by rwa [List.getElem?_drop] at hj))
      (fun j hj => by rw [hWc, cell_of_row hgW2, Array.getElem?_eq_getElem (by simp [hL1l]; omega)]; rfl)
      (fun j hj => by rw [hWf]; exact frozen_of_row hgW2) (fun v hv => h1x v (List.mem_of_mem_drop hv))
  have FIN : ∀ W2 W3 : World, W2.heap = (W1.setCells w.heap.size (i * 3) r).heap → W2.os = w.os → W2.tape = w.tape → W2.output = w.output → W3 = W2.setCells w.heap.size ((i + 1) * 3) (xs.drop (i * 3)) → InsPost base g n i xs r w (.returned (.slice (some ⟨w.heap.size, 0, none⟩) (n + 1) G)) W3 := by
    intro W2 W3 hh ho1 ho2 ho3 hW3
    have hgW2' : W2.heap[w.heap.size]? = some (.cells L1.toArray 242 (0, 0)) := by rw [hh]; exact hgW2
    have hgrow2 : w.grownBy W2 (some g) := by
      have h := grown_step hgr1 (grown_setCells W1 w.heap.size (i * 3) r) (.inr (fun k hk => by injection hk with hk; omega))
      exact ⟨ho1, ho2, ho3, by rw [hh]; exact h.size, fun k hk hne => by rw [hh]; exact h.block k hk hne⟩
    subst hW3
    refine ⟨_, rfl, ⟨by simp [hxl, hr]; omega, .inr ⟨w.heap.size, G, _, rfl, by omega, setCells_heap hgW2' (by simp [hL1l]; omega), by omega, by unfold maxLen; omega, by simp [hL1l, hxl]; omega, ?_⟩⟩, grown_step hgrow2 (grown_setCells _ _ _ _) (.inr (fun k hk => by injection hk with hk; omega))⟩
    have := ins_list2 ROW.toList xs r (i * 3) 3 (n * 3) (by omega) hR0 (by simp [hRl]; omega) (by omega) hr L1 hL1
    rw [show (i + 1) * 3 = i * 3 + 3 by omega, show (n + 1) * 3 = n * 3 + 3 by omega]
    simpa using this
  have FIN := Lib.hid FIN
  have hGi : ¬ (G = i) := by omega
  have hGim : ¬ (G = i + 1) := by omega
  have hci : ¬ (cap = i) := by omega
  have hz2 : ¬ ((i : Int) = (n : Int)) := by omega
  have hz3 : (cap : Int) < (n : Int) + 1 := by omega
  have hw1 : IntKind.i64.wrap ((i : Int) + 1) = (i : Int) + 1 := by rw [IntKind.wrap_i64]; omega
  have hb1 : (0 : Int) ≤ (i : Int) + 1 := by omega
  have hin : i ≤ n := by omega
  have htn : ((i : Int) + 1).toNat = i + 1 := by omega
  have hb3 : (i : Int) ≤ (n : Int) := by omega
  subst hW1
  have hA1 := hcpA (w.drew.alloc (.cells ROW 242)) (fun _ => rfl) (fun _ => rfl)
  have hA2 := hcpA ((w.alloc (.cells ROW 242)).drew) (fun _ => rfl) (fun _ => rfl)
  have HB := Lib.hid (hcpB (((w.alloc (.cells ROW 242)).drew.setCells w.heap.size (i * 3) r).drew) (fun _ => rfl) (fun _ => rfl))
  have HZ := Lib.hid hrz
  clear hown hg hvb hv ht hcs hx hdl hgW1 hgW2 hg1 hg2 hvb1 h1x h1r hcpA hcpB hrz hxl hr hgr1 hold hkk hik hROW hR0 hRl hL1 hL1l hG hi0 hz0 hzs hzb
  go_enter Tryz.func156, Tryz.ntmps156
  go_wp2_with (at_builtin; refine Lib.wpList_append_run _ rfl _ _ _ _ rfl _ _ rfl rfl _ _ (HZ.out _) ?_)
  go_region_law (refine step_copy_eq rfl _ _ 130 130 rfl (.slice (some ⟨w.heap.size, (i + 1) * 3, none⟩) (n - i) (G - (i + 1))) (.slice (some ⟨g, i * 3, none⟩) (n - i) (cap - i)) (by simp [Act.eval, Act.put]) (by simp [Act.eval, Act.put]) (HB.out 3 (G - (i + 1)) (cap - i)) ?_)
  go_wp2_with fail
  go_ret
  have G0 := grown_setCells ((w.alloc (.cells ROW 242)).drew) w.heap.size (i * 3) r
  exact FIN.out (((w.alloc (.cells ROW 242)).drew.setCells w.heap.size (i * 3) r).drew) _ rfl G0.os G0.tape G0.output rfl
set_option maxHeartbeats 4000000 in
set_option maxRecDepth 100000 in
/-- Insert of one element behind all -/
theorem ins_end (base g cap n vb : Nat) (xs r : List Value) (w : World) (hbig : n ≤ 1000000) (hown : w.ownsRow base 242 3 (.slice (some ⟨g, 0, none⟩) n cap) n xs)
    (hvb : w.heap[vb]? = some (.cells r.toArray 242 (0, 0))) (hr : r.length = 3) (h1r : ∀ v ∈ r, v.oneCell' = true) :
    Calls Tryz.prog 156 #[.slice (some ⟨g, 0, none⟩) n cap, .int .i64 n, .slice (some ⟨vb, 0, none⟩) 1 1] w (InsPost base g n n xs r w) := by
  obtain ⟨i0, hi0, hz0, hzs, hzb⟩ := info_parts infoR
  have hlt := hown.lt g rfl
  obtain ⟨hnc, hcm⟩ := own_cap hown
  have hxl := hown.1
  have HO := Lib.hid hown
  have HV := Lib.hid (show ∀ j u, r[j]? = some u → w.cell? ((⟨vb, 0, none⟩ : Addr).add j) = some u from fun j u hj => by rw [Addr.add_lit, cell_of_row hvb]; simpa using hj)
  have H1 := Lib.hid h1r
  have HR := Lib.hid hr
  have HX := Lib.hid hxl
  clear hown hvb hr h1r hxl
  go_enter Tryz.func156, Tryz.ntmps156
  go_wp2_with (at_builtin; go_loud (refine wpList_append_own_at _ rfl _ _ 130 rfl base 242 i0 _ 3 56 Tryz.underlying130 hi0 hz0 hzs hzb rfl (by omega) (.slice (some ⟨g, 0, none⟩) n cap) n xs rfl HO.out ⟨vb, 0, none⟩ 1 1 r rfl (by rw [HR.out]) HV.out H1.out (by unfold maxLen; omega) (by omega) (by omega) ?_; intro v1 w1 hown1 hgrow1 _ _; have HO1 := Lib.hid hown1; have HG1 := Lib.hid hgrow1; clear hown1 hgrow1))
  all_goals
    go_ret
    refine ⟨_, rfl, ?_, HG1.out⟩
    rw [List.take_of_length_le (by rw [HX.out]; omega), List.drop_eq_nil_of_le (by rw [HX.out]; omega), List.append_nil]
    exact HO1.out
theorem ins_any (base g cap n i vb : Nat) (xs r : List Value) (w : World) (hi : i ≤ n) (hbig : n ≤ 1000000) (hown : w.ownsRow base 242 3 (.slice (some ⟨g, 0, none⟩) n cap) n xs)
    (hvb : w.heap[vb]? = some (.cells r.toArray 242 (0, 0))) (hne : vb ≠ g) (hr : r.length = 3) (h1x : ∀ v ∈ xs, v.oneCell' = true) (h1r : ∀ v ∈ r, v.oneCell' = true) :
    Calls Tryz.prog 156 #[.slice (some ⟨g, 0, none⟩) n cap, .int .i64 i, .slice (some ⟨vb, 0, none⟩) 1 1] w (InsPost base g n i xs r w) := by
  by_cases e : i = n
  · subst e
    exact ins_end base g cap i vb xs r w hbig hown hvb hr h1r
  · by_cases h : n + 1 ≤ cap
    · exact ins_shift base g cap n i vb xs r w (by omega) h hown hvb hne hr h1x h1r
    · exact ins_grow base g cap n i vb xs r w (by omega) (by omega) hbig hown hvb hne hr h1x h1r
theorem del_list (c xs Z : List Value) (a s N : Nat) (hx : c.take N = xs) (hN : N ≤ c.length) (ha : a + s ≤ N) (L1 : List Value) (hL1 : L1 = c.take a ++ xs.drop (a + s) ++ c.drop (a + (xs.drop (a + s)).length)) (hZ : Z.length = s) :
    (L1.take (N - s) ++ Z ++ L1.drop (N - s + Z.length)).take (N - s) = xs.take a ++ xs.drop (a + s) := by
  have hxl : xs.length = N := by rw [← hx]; simp; omega
  have h1 : L1.length = c.length := by rw [hL1]; simp; omega
  have e1 : L1.take (N - s) = xs.take a ++ xs.drop (a + s) := by
    have h2 : (c.take a ++ xs.drop (a + s)).length = N - s := by simp; omega
    rw [hL1, List.take_append_of_le_length (by omega), List.take_of_length_le (by omega), ← hx, List.take_take]
    congr 2
    omega
  rw [List.append_assoc, List.take_append_of_le_length (by simp; omega), List.take_take, Nat.min_self, e1]
def DelPost1 (base g cap n i : Nat) (xs : List Value) (w : World) (e : Ending) (w' : World) : Prop :=
  e = .returned (.slice (some ⟨g, 0, none⟩) (n - 1) cap) ∧ w'.ownsRow base 242 3 (.slice (some ⟨g, 0, none⟩) (n - 1) cap) (n - 1) (xs.take (i * 3) ++ xs.drop ((i + 1) * 3)) ∧ w.grownBy w' (some g)
set_option maxHeartbeats 4000000 in
set_option maxRecDepth 100000 in
/-- Delete of one element -/
theorem del_one (base g cap n i : Nat) (xs : List Value) (w : World) (hi : i < n) (hown : w.ownsRow base 242 3 (.slice (some ⟨g, 0, none⟩) n cap) n xs) (h1x : ∀ v ∈ xs, v.oneCell' = true) :
    Calls Tryz.prog 142 #[.slice (some ⟨g, 0, none⟩) n cap, .int .i64 i, .int .i64 ((i : Int) + 1)] w (DelPost1 base g cap n i xs w) := by
  rcases hown.2 with ⟨h', _⟩ | ⟨g', cap', cur, hv, hb, hg, hnc, hcm, hcs, ht⟩
  · cases h'
  obtain ⟨rfl, rfl⟩ : g = g' ∧ cap = cap' := by injection hv with e1 e2 e3; injection e1 with e1; injection e1 with e1; exact ⟨e1, e3⟩
  unfold maxLen at hcm
  have hxl := hown.1
  obtain ⟨i0, hi0, hz0, hzs, hzb⟩ := info_parts infoR
  have hx : ∀ j v, xs[j]? = some v → w.cell? ⟨g, j, none⟩ = some v := fun j v hj => by
    rw [cell_of_row hg]
    rw [← ht, List.getElem?_take] at hj
    split at hj
    · simpa using hj
    · cases hj
  have hsp : ∀ j, j < cap * 3 → (w.cell? ⟨g, j, none⟩).isSome = true := fun j hj => by rw [cell_of_row hg, Array.getElem?_eq_getElem (by omega)]; rfl
  obtain ⟨news, hnews⟩ : ∃ news, news = xs.drop ((i + 1) * 3) := ⟨_, rfl⟩
  have hlen : news.length = (n - (i + 1)) * 3 := by rw [hnews, List.length_drop, hxl]; omega
  obtain ⟨A, hA, hsrc⟩ : ∃ A : Addr, (if cap = i + 1 then some (⟨g, 0, none⟩ : Addr) else some ⟨g, (i + 1) * 3, none⟩) = some A ∧ Hid (∀ t u, news[t]? = some u → w.drew.cell? (A.add t) = some u) := by
    by_cases h : cap = i + 1
    · refine ⟨⟨g, 0, none⟩, by simp [h], fun t u hu => ?_⟩
      have h0 : news.length = 0 := by rw [hlen]; omega
      rw [List.length_eq_zero_iff.1 h0] at hu
      simp at hu
    · refine ⟨⟨g, (i + 1) * 3, none⟩, by simp [h], fun t u hu => ?_⟩
      rw [Addr.add_lit]
      rw [hnews, List.getElem?_drop] at hu
      exact hx _ u hu
  have s1 : Hid (news.length = (n - (i + 1)) * 3) := hlen
  have s2 : Hid (∀ u ∈ news, u.oneCell' = true) := fun u hu => by rw [hnews] at hu; exact h1x u (List.mem_of_mem_drop hu)
  have s3 : Hid (∀ t, t < news.length → (w.drew.cell? ⟨g, 0 + i * 3 + t, none⟩).isSome = true ∧ w.drew.frozen? ⟨g, 0 + i * 3 + t, none⟩ = false) := by
    intro t ht
    rw [hlen] at ht
    exact ⟨hsp _ (by omega), frozen_of_row (w := w.drew) hg⟩
  obtain ⟨W1, hW1⟩ : ∃ W1, W1 = w.drew.setCells g (0 + i * 3) news := ⟨_, rfl⟩
  obtain ⟨L1, hL1⟩ : ∃ L1, L1 = cur.toList.take (i * 3) ++ xs.drop (i * 3 + 3) ++ cur.toList.drop (i * 3 + (xs.drop (i * 3 + 3)).length) := ⟨_, rfl⟩
  have hL1l : L1.length = cap * 3 := by rw [hL1]; simp [hxl, hcs]; omega
  have hg1 : W1.heap[g]? = some (.cells L1.toArray 242 (0, 0)) := by
    rw [hW1, hL1, show i * 3 + 3 = (i + 1) * 3 by omega, ← hnews]
    have := setCells_heap (w := w.drew) (vs := news) (o := 0 + i * 3) hg (by omega)
    rw [Nat.zero_add] at this
    rw [Nat.zero_add]
    exact this
  have hgr1 : w.grownBy W1 (some g) := by rw [hW1]; exact grown_drew (grown_setCells w.drew g _ _)
  obtain ⟨Z, hZ⟩ : ∃ Z, Z = (Builtin.zeroCells (.agg #[.int .i64 0, .slice none 0 0, .slice none 0 0] : Value).cells 1).toList := ⟨_, rfl⟩
  have hZl : Z.length = 3 := by rw [hZ, zeroCells_len]; rfl
  have hZ1 : ∀ v ∈ Z, v.oneCell' = true := by
    have e : (Builtin.zeroCells (.agg #[.int .i64 0, .slice none 0 0, .slice none 0 0] : Value).cells 1).toList = (.agg #[.int .i64 0, .slice none 0 0, .slice none 0 0] : Value).cells.toList := by kernel_rfl
    rw [hZ, e]
    intro v hv
    simp [Value.cells] at hv
    rcases hv with rfl | rfl | rfl <;> rfl
  have hnn : n - (i + (n - (i + 1))) = 1 := by omega
  have hcl : ∀ ty, (Builtin.clear_ #[130] ty #[.slice (some ⟨g, (i + (n - (i + 1))) * 3, none⟩) (n - (i + (n - (i + 1)))) (cap - (i + (n - (i + 1))))]).run Tryz.prog W1 = .ok (.tuple #[]) (W1.setCells g ((i + (n - (i + 1))) * 3) Z) := fun ty => by
    rw [hnn, hZ]
    exact run_clear_sz W1 _ 242 ty _ Tryz.underlying130 infoR_zero g _ 1 _ (by omega) (fun j hj => by rw [← hZ, hZl] at hj; rw [cell_of_row hg1, Array.getElem?_eq_getElem (by simp [hL1l]; omega)]; rfl) (fun j hj => frozen_of_row hg1) (by rw [← hZ]; exact hZ1)
  have FIN : Hid (DelPost1 base g cap n i xs w (.returned (.slice (some ⟨g, 0, none⟩) (i + (n - (i + 1))) cap)) (W1.setCells g ((i + (n - (i + 1))) * 3) Z)) := by
    have e1 : i + (n - (i + 1)) = n - 1 := by omega
    rw [e1]
    refine ⟨rfl, ⟨by simp [hxl]; omega, .inr ⟨g, cap, _, rfl, hb, setCells_heap hg1 (by simp [hL1l, hZl]; omega), by omega, by unfold maxLen; omega, by simp [hL1l, hZl]; omega, ?_⟩⟩, grown_step hgr1 (grown_setCells _ _ _ _) (.inl rfl)⟩
    have := del_list cur.toList xs Z (i * 3) 3 (n * 3) ht (by simp; omega) (by omega) L1 hL1 hZl
    rw [show (i + 1) * 3 = i * 3 + 3 by omega, show (n - 1) * 3 = n * 3 - 3 by omega]
    simpa using this
  have hW : Hid (W1 = w.drew.setCells g (0 + i * 3) news) := hW1
  have hic : i ≤ cap := by omega
  have hjc : i + 1 ≤ cap := by omega
  have hjn : i + 1 ≤ n := by omega
  have htn : ((i : Int) + 1).toNat = i + 1 := by omega
  have hb1 : (0 : Int) ≤ (i : Int) + 1 := by omega
  have hq1 : (i : Int) ≤ (i : Int) + 1 := by omega
  have hq2 : (i : Int) + 1 ≤ (n : Int) := by omega
  have hq3 : (i : Int) ≤ (n : Int) := by omega
  have hq4 : ((i : Int) == (i : Int) + 1) = false := by simp; omega
  clear hown hg hv ht hcs hx hsp hnews hlen hL1 hL1l hg1 hgr1 hZ hZl hZ1 hnn hxl hW1 h1x
  go_enter Tryz.func142, Tryz.ntmps142
  go_wp2_with fail
  go_region_law (refine step_append_room rfl (.tmp 22) (.tmp 25) 130 rfl 242 i0 3 Tryz.underlying130 hi0 hzs g 0 i cap (by simp [Act.eval, Act.put]) A (n - (i + 1)) (cap - (i + 1)) news (by simp [Act.eval, Act.put]) s1.out hsrc.out s2.out (by omega) s3.out ?_; rw [← hW.out])
  go_wp2_with fail
  go_ret
  exact FIN.out

end Go.Proofs.YthgbcgphkddmgaaGreat.Li
namespace Go.Proofs.YthgbcgphkddmgaaGreat
open Go.RowKit
set_option linter.unusedVariables false
theorem step_call1 {ops : Array Oper} {o : Oper} {a : Act} {w : World} {K : Act → World → Prop} {Q : Exit → Act → World → Prop} {E : Prop} (hgd : o.guard = none) (f : FuncId) (hen : ∀ args w, (callFunc f args).run Tryz.prog w = .ok (.enter f args) w) (s : Operand) (t : TypeId)
    (ho : o.op = .call { callee := .value (.func f), args := #[s], argTypes := #[t] }) (x : Value) (hs : a.eval s = x) {R : Ending → World → Prop} (hc : Calls Tryz.prog f #[x] w R)
    (h : ∀ e w', R e w' → ∃ v, e = .returned v ∧ K (a.put o.dst v) w') :
    if Region.wanted o (yielded ops a.tmps) = true then Oper.wp Tryz.prog o a w K Q else E := by
  have hw : Region.wanted o (yielded ops a.tmps) = true := by simp [Region.wanted, hgd]
  rw [if_pos hw]
  have key : (execOp a.eval o).run Tryz.prog w = .ok (.enter f #[x]) w := by
    unfold execOp
    have hf : a.eval (.func f) = .func (.func f) #[] #[] := by simp [Act.eval]
    simp only [ho, resolve, invoke, Sem.run_bind, List.map_toArray, List.map_cons, List.map_nil, hs, hf]
    simp [Deferred.ofValue, go_sem, hen]
  unfold Oper.wp
  rw [key, Oper.upon_enter]
  refine hc.mono ?_
  intro e w' hR
  obtain ⟨v, rfl, hK⟩ := h e w' hR
  exact hK
end Go.Proofs.YthgbcgphkddmgaaGreat
