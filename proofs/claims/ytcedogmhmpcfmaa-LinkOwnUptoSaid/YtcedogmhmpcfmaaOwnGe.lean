/- Writing numbers over numbers: what stays. -/
import Derived.Test.YtcedogmhmpcfmaaInts
namespace Go.Proofs.Ytcedogmhmpcfmaa
open Go.RowKit
set_option linter.unusedVariables false
/-- a cell that holds a number and may be written -/
def IntAt (w : World) (b o : Nat) : Prop := ∃ z : Int, w.cell? ⟨b, o, none⟩ = some (.int .i64 z) ∧ w.frozen? ⟨b, o, none⟩ = false
/-- behind some stores of numbers over numbers, in blocks from base on -/
structure Ge (base : Nat) (w wr : World) : Prop where
  bel : Below base w wr
  ints : ∀ b o, IntAt w b o → IntAt wr b o
  rest : ∀ b o v, w.cell? ⟨b, o, none⟩ = some v → (∀ z : Int, v ≠ .int .i64 z) → wr.cell? ⟨b, o, none⟩ = some v
theorem Ge.refl (base : Nat) (w : World) : Ge base w w := ⟨Below.refl _ _, fun _ _ h => h, fun _ _ _ h _ => h⟩
theorem Ge.store {base : Nat} {w wr : World} (H : Ge base w wr) {b o : Nat} (hb : base ≤ b) (h : IntAt wr b o) (x : Int) : Ge base w (wr.setCell ⟨b, o, none⟩ (.int .i64 x)) := by
  obtain ⟨z, hz, hf⟩ := h
  have key : ∀ b' o', ¬ (b' = b ∧ o' = o) → (wr.setCell ⟨b, o, none⟩ (.int .i64 x)).cell? ⟨b', o', none⟩ = wr.cell? ⟨b', o', none⟩ := fun b' o' hne => World.cell?_setCell_other _ _ _ _ (fun e => hne (by injection e with e1 e2; exact ⟨e1.symm, e2.symm⟩))
  refine ⟨H.bel.setCell (p := ⟨b, o, none⟩) hb _, fun b' o' h' => ?_, fun b' o' v hv hn => ?_⟩
  · obtain ⟨y, hy, hg⟩ := H.ints b' o' h'
    by_cases e : b' = b ∧ o' = o
    · obtain ⟨rfl, rfl⟩ := e
      exact ⟨x, World.cell?_setCell_same _ _ _ hz, by simpa [go_sem] using hg⟩
    · exact ⟨y, (key _ _ e).trans hy, by simpa [go_sem] using hg⟩
  · have h2 := H.rest b' o' v hv hn
    by_cases e : b' = b ∧ o' = o
    · obtain ⟨rfl, rfl⟩ := e
      rw [hz] at h2
      injection h2 with h2
      exact absurd h2.symm (hn z)
    · exact (key _ _ e).trans h2
/-- a row of numbers that may be written over -/
def IntsF (w : World) (base : Nat) (v : Value) : Prop := ∃ A n c, v = .slice A n c ∧ n ≤ 9223372036854775807 ∧ (0 < n → ∃ b off, A = some ⟨b, off, none⟩ ∧ base ≤ b ∧ ∀ j, j < n → IntAt w b (off + j))
theorem OwnI.ints {w : World} {base b0 : Nat} {v : Value} {l : List Int} (h : OwnI w base v l) (hb : b0 ≤ base) : IntsF w b0 v := by
  obtain ⟨A, c, rfl, hnc, hcm, _⟩ := own_any h
  refine ⟨A, l.length, c, rfl, by omega, fun h0 => ?_⟩
  obtain ⟨g, cap, hv, hbg, -, -⟩ := own_form h h0
  injection hv with e1 _ e3
  subst e1 e3
  refine ⟨g, 0, rfl, by omega, fun j hj => ⟨lst l j, ?_, World.ownsRow.frozenAt h _⟩⟩
  rw [Nat.zero_add, World.ownsRow.cellAt h j (by omega)]
  exact encI_get (by simp [lst, hj])
end Go.Proofs.Ytcedogmhmpcfmaa
