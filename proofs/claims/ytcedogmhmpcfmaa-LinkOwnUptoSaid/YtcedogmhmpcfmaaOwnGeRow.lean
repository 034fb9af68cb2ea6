/- Rows whose numbers may be written over: what stays. -/
import Derived.Test.YtcedogmhmpcfmaaOwnGe
namespace Go.Proofs.Ytcedogmhmpcfmaa
open Go.RowKit
set_option linter.unusedVariables false
theorem IntsF.ge {base b0 : Nat} {w wr : World} {v : Value} (h : IntsF w b0 v) (H : Ge base w wr) : IntsF wr b0 v := by
  obtain ⟨A, n, c, e, hn, h⟩ := h
  refine ⟨A, n, c, e, hn, fun h0 => ?_⟩
  obtain ⟨b, off, hA, hb, hc⟩ := h h0
  exact ⟨b, off, hA, hb, fun j hj => H.ints _ _ (hc j hj)⟩
theorem IntAt.below {w w' : World} {b o : Nat} (h : IntAt w b o) (hb : Below w.heap.size w w') : IntAt w' b o := by
  obtain ⟨z, hz, hf⟩ := h
  have hlt := World.block_lt_of_cell? w _ hz
  exact ⟨z, (hb.cell (p := ⟨b, o, none⟩) hlt).trans hz, (grown_frozen (grown_below (g := none) hb) hlt (by simp)).trans hf⟩
theorem IntsF.below {w w' : World} {b0 : Nat} {v : Value} (h : IntsF w b0 v) (hb : Below w.heap.size w w') : IntsF w' b0 v := by
  obtain ⟨A, n, c, e, hn, h⟩ := h
  refine ⟨A, n, c, e, hn, fun h0 => ?_⟩
  obtain ⟨b, off, hA, hbb, hc⟩ := h h0
  exact ⟨b, off, hA, hbb, fun j hj => (hc j hj).below hb⟩
theorem IntsF.mono {w : World} {b0 b1 : Nat} {v : Value} (h : IntsF w b1 v) (hb : b0 ≤ b1) : IntsF w b0 v := by
  obtain ⟨A, n, c, e, hn, h⟩ := h
  refine ⟨A, n, c, e, hn, fun h0 => ?_⟩
  obtain ⟨b, off, hA, hbb, hc⟩ := h h0
  exact ⟨b, off, hA, by omega, hc⟩
/-- one column of numbers of a row of structs of s cells -/
def ColF (w : World) (base s j : Nat) (v : Value) : Prop := ∃ A n c, v = .slice A n c ∧ n ≤ 9223372036854775807 ∧ (0 < n → ∃ b off, A = some ⟨b, off, none⟩ ∧ base ≤ b ∧ ∀ k, k < n → IntAt w b (off + k * s + j))
theorem ColF.ge {base b0 s j : Nat} {w wr : World} {v : Value} (h : ColF w b0 s j v) (H : Ge base w wr) : ColF wr b0 s j v := by
  obtain ⟨A, n, c, e, hn, h⟩ := h
  refine ⟨A, n, c, e, hn, fun h0 => ?_⟩
  obtain ⟨b, off, hA, hb, hc⟩ := h h0
  exact ⟨b, off, hA, hb, fun j hj => H.ints _ _ (hc j hj)⟩
theorem ColF.below {w w' : World} {b0 s j : Nat} {v : Value} (h : ColF w b0 s j v) (hb : Below w.heap.size w w') : ColF w' b0 s j v := by
  obtain ⟨A, n, c, e, hn, h⟩ := h
  refine ⟨A, n, c, e, hn, fun h0 => ?_⟩
  obtain ⟨b, off, hA, hbb, hc⟩ := h h0
  exact ⟨b, off, hA, hbb, fun j hj => (hc j hj).below hb⟩
theorem ColF.mono {w : World} {b0 b1 s j : Nat} {v : Value} (h : ColF w b1 s j v) (hb : b0 ≤ b1) : ColF w b0 s j v := by
  obtain ⟨A, n, c, e, hn, h⟩ := h
  refine ⟨A, n, c, e, hn, fun h0 => ?_⟩
  obtain ⟨b, off, hA, hbb, hc⟩ := h h0
  exact ⟨b, off, hA, by omega, hc⟩
theorem ColF.nil (w : World) (base s j c : Nat) : ColF w base s j (.slice none 0 c) := ⟨none, 0, c, rfl, by omega, fun h => by omega⟩
theorem IntsF.nil (w : World) (base c : Nat) : IntsF w base (.slice none 0 c) := ⟨none, 0, c, rfl, by omega, fun h => by omega⟩
theorem own_n {w : World} {base size n : Nat} {e : TypeId} {v : Value} {xs : List Value} (h : w.ownsRow base e size v n xs) : ∃ A c, v = .slice A n c ∧ n ≤ 9223372036854775807 := by
  obtain ⟨A, c, rfl, h1, h2, _⟩ := own_any h
  exact ⟨A, c, rfl, by omega⟩
theorem ColF.of {w : World} {base b0 s j n : Nat} {ty : TypeId} {v : Value} {C : Nat → List Value} (h : w.ownsRow base ty s v n (flatC C n)) (hC : ∀ k, (C k).length = s) (hj : j < s) (hz : ∀ k, k < n → ∃ z : Int, (C k)[j]? = some (.int .i64 z)) (hb : b0 ≤ base) : ColF w b0 s j v := by
  obtain ⟨A, c, rfl, hn⟩ := own_n h
  refine ⟨A, n, c, rfl, hn, fun h0 => ?_⟩
  obtain ⟨g, cap, hv, hbg, -, -⟩ := own_form h h0
  injection hv with e1 _ e3
  subst e1 e3
  refine ⟨g, 0, rfl, by omega, fun k hk => ?_⟩
  obtain ⟨z, hz⟩ := hz k hk
  refine ⟨z, ?_, World.ownsRow.frozenAt h _⟩
  rw [Nat.zero_add, own_cellC h hC hk hj]
  exact hz
/-- lines of numbers -/
def LinesF (w : World) (base : Nat) (v : Value) : Prop := ∃ A n c, v = .slice A n c ∧ n ≤ 9223372036854775807 ∧ (0 < n → ∃ b off, A = some ⟨b, off, none⟩ ∧ ∀ k, k < n → ∃ u, w.cell? ⟨b, off + k, none⟩ = some u ∧ IntsF w base u)
theorem not_int {w : World} {b0 : Nat} {u : Value} (h : IntsF w b0 u) : ∀ z : Int, u ≠ .int .i64 z := fun z e => by
  obtain ⟨A, n, c, e', _⟩ := h
  rw [e] at e'
  cases e'
theorem LinesF.ge {base b0 : Nat} {w wr : World} {v : Value} (h : LinesF w b0 v) (H : Ge base w wr) : LinesF wr b0 v := by
  obtain ⟨A, n, c, e, hn, h⟩ := h
  refine ⟨A, n, c, e, hn, fun h0 => ?_⟩
  obtain ⟨b, off, hA, hc⟩ := h h0
  refine ⟨b, off, hA, fun k hk => ?_⟩
  obtain ⟨u, hu, hi⟩ := hc k hk
  exact ⟨u, H.rest _ _ _ hu (not_int hi), hi.ge H⟩
theorem LinesF.below {w w' : World} {b0 : Nat} {v : Value} (h : LinesF w b0 v) (hb : Below w.heap.size w w') : LinesF w' b0 v := by
  obtain ⟨A, n, c, e, hn, h⟩ := h
  refine ⟨A, n, c, e, hn, fun h0 => ?_⟩
  obtain ⟨b, off, hA, hc⟩ := h h0
  refine ⟨b, off, hA, fun k hk => ?_⟩
  obtain ⟨u, hu, hi⟩ := hc k hk
  exact ⟨u, (hb.cell (p := ⟨b, _, none⟩) (World.block_lt_of_cell? w _ hu)).trans hu, hi.below hb⟩
theorem LinesF.mono {w : World} {b0 b1 : Nat} {v : Value} (h : LinesF w b1 v) (hb : b0 ≤ b1) : LinesF w b0 v := by
  obtain ⟨A, n, c, e, hn, h⟩ := h
  refine ⟨A, n, c, e, hn, fun h0 => ?_⟩
  obtain ⟨b, off, hA, hc⟩ := h h0
  refine ⟨b, off, hA, fun k hk => ?_⟩
  obtain ⟨u, hu, hi⟩ := hc k hk
  exact ⟨u, hu, hi.mono hb⟩
theorem LinesF.nil (w : World) (base c : Nat) : LinesF w base (.slice none 0 c) := ⟨none, 0, c, rfl, by omega, fun h => by omega⟩
/-- rows of a number and two lists of numbers -/
def RowsF (w : World) (base : Nat) (v : Value) : Prop := ∃ A n c, v = .slice A n c ∧ n ≤ 9223372036854775807 ∧ (0 < n → ∃ b off, A = some ⟨b, off, none⟩ ∧ base ≤ b ∧ ∀ k, k < n → IntAt w b (off + k * 3) ∧ (∃ u, w.cell? ⟨b, off + k * 3 + 1, none⟩ = some u ∧ IntsF w base u) ∧ ∃ u, w.cell? ⟨b, off + k * 3 + 2, none⟩ = some u ∧ IntsF w base u)
theorem RowsF.ge {base b0 : Nat} {w wr : World} {v : Value} (h : RowsF w b0 v) (H : Ge base w wr) : RowsF wr b0 v := by
  obtain ⟨A, n, c, e, hn, h⟩ := h
  refine ⟨A, n, c, e, hn, fun h0 => ?_⟩
  obtain ⟨b, off, hA, hb, hc⟩ := h h0
  refine ⟨b, off, hA, hb, fun k hk => ?_⟩
  obtain ⟨h1, ⟨u, hu, hi⟩, t, ht, hj⟩ := hc k hk
  exact ⟨H.ints _ _ h1, ⟨u, H.rest _ _ _ hu (not_int hi), hi.ge H⟩, t, H.rest _ _ _ ht (not_int hj), hj.ge H⟩
theorem RowsF.below {w w' : World} {b0 : Nat} {v : Value} (h : RowsF w b0 v) (hb : Below w.heap.size w w') : RowsF w' b0 v := by
  obtain ⟨A, n, c, e, hn, h⟩ := h
  refine ⟨A, n, c, e, hn, fun h0 => ?_⟩
  obtain ⟨b, off, hA, hbb, hc⟩ := h h0
  refine ⟨b, off, hA, hbb, fun k hk => ?_⟩
  obtain ⟨h1, ⟨u, hu, hi⟩, t, ht, hj⟩ := hc k hk
  exact ⟨h1.below hb, ⟨u, (hb.cell (p := ⟨b, _, none⟩) (World.block_lt_of_cell? w _ hu)).trans hu, hi.below hb⟩, t, (hb.cell (p := ⟨b, _, none⟩) (World.block_lt_of_cell? w _ ht)).trans ht, hj.below hb⟩
theorem RowsF.mono {w : World} {b0 b1 : Nat} {v : Value} (h : RowsF w b1 v) (hb : b0 ≤ b1) : RowsF w b0 v := by
  obtain ⟨A, n, c, e, hn, h⟩ := h
  refine ⟨A, n, c, e, hn, fun h0 => ?_⟩
  obtain ⟨b, off, hA, hbb, hc⟩ := h h0
  refine ⟨b, off, hA, by omega, fun k hk => ?_⟩
  obtain ⟨h1, ⟨u, hu, hi⟩, t, ht, hj⟩ := hc k hk
  exact ⟨h1, ⟨u, hu, hi.mono hb⟩, t, ht, hj.mono hb⟩
theorem RowsF.nil (w : World) (base c : Nat) : RowsF w base (.slice none 0 c) := ⟨none, 0, c, rfl, by omega, fun h => by omega⟩
end Go.Proofs.Ytcedogmhmpcfmaa
