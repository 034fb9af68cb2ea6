/- Rows of the call's own: a cell, a store, and what else stays. -/
import Derived.Test.YtjjfglbcikaicaaGreatVoc
import Derived.Maps.AppendAt
namespace Go.Proofs.YtjjfglbcikaicaaGreat
open Go.RowKit
theorem own_cellC {w : World} {base g cap n k j sz : Nat} {e : TypeId} {G : Nat → List Value} (h : w.ownsRow base e sz (.slice (some ⟨g, 0, none⟩) n cap) n (flatC G n)) (hl : ∀ k, (G k).length = sz) (hk : k < n) (hj : j < sz) :
    w.cell? ⟨g, k * sz + j, none⟩ = (G k)[j]? := by
  have h2 : (k + 1) * sz ≤ n * sz := Nat.mul_le_mul_right _ (by omega)
  rw [Nat.succ_mul] at h2
  rw [h.cellAt _ (by omega), flatC_get hl hk hj]
theorem own_setC {w : World} {base g cap n k j sz : Nat} {e : TypeId} {G G' : Nat → List Value} (h : w.ownsRow base e sz (.slice (some ⟨g, 0, none⟩) n cap) n (flatC G n)) (hl : ∀ k, (G k).length = sz) (hj : j < sz) (u : Value)
    (hG : ∀ i, i < n → G' i = if i = k then (G k).set j u else G i) :
    (w.setCell ⟨g, k * sz + j, none⟩ u).ownsRow base e sz (.slice (some ⟨g, 0, none⟩) n cap) n (flatC G' n) ∧ w.grownBy (w.setCell ⟨g, k * sz + j, none⟩ u) (some g) := by
  have h1 := h.stored (k * sz + j) u
  rw [flatC_set hl hj] at h1
  have e1 : flatC (updC G k ((G k).set j u)) n = flatC G' n := flatC_congr fun i hi => by rw [hG i hi]; rfl
  rw [e1] at h1
  exact h1
theorem grown_self (w : World) (row : Option Nat) : w.grownBy w row := ⟨rfl, rfl, rfl, Nat.le_refl _, fun _ _ _ => rfl⟩
/-- a later step that touches new blocks, or the same one -/
theorem grown_step {w w1 w2 : World} {g row : Option Nat} (h1 : w.grownBy w1 g) (h2 : w1.grownBy w2 row) (hr : row = g ∨ ∀ k, row = some k → w.heap.size ≤ k) : w.grownBy w2 g := by
  refine ⟨h2.os.trans h1.os, h2.tape.trans h1.tape, h2.output.trans h1.output, Nat.le_trans h1.size h2.size, fun k hk hne => ?_⟩
  rw [h2.block k (Nat.lt_of_lt_of_le hk h1.size) ?_, h1.block k hk hne]
  rcases hr with rfl | hr
  · exact hne
  · intro e
    have := hr k e.symm
    omega
theorem grown_below {w w1 : World} {g : Option Nat} (h : Below w.heap.size w w1) : w.grownBy w1 g := ⟨h.os, h.tape, h.output, h.size, fun k hk _ => h.block k hk⟩
theorem below_grown {B : Nat} {w w1 w2 : World} {row : Option Nat} (h : Below B w w1) (hB : B ≤ w1.heap.size) (hg : w1.grownBy w2 row) (hr : ∀ k, row = some k → B ≤ k) : Below B w w2 := h.grown hg hB hr
theorem grown_alloc {w w1 : World} {g : Option Nat} (h : w.grownBy w1 g) (o : Obj) : w.grownBy (w1.alloc o) g := grown_step h (World.grownBy_alloc w1 o none) (.inr (by simp))
theorem grown_set {w w1 : World} {g : Nat} {a : Nat} (h : w.grownBy w1 (some g)) (u : Value) : w.grownBy (w1.setCell ⟨g, a, none⟩ u) (some g) :=
  grown_step h ⟨rfl, rfl, rfl, by simp, fun k _ hk => heap_setCell_other w1 ⟨g, a, none⟩ k u (fun e => hk (by simp [e]))⟩ (.inl rfl)
theorem grown_setN {w w1 : World} {row : Option Nat} {g a : Nat} (h : w.grownBy w1 row) (hg : w.heap.size ≤ g) (u : Value) : w.grownBy (w1.setCell ⟨g, a, none⟩ u) row :=
  grown_step (row := some g) h ⟨rfl, rfl, rfl, by simp, fun k _ hk => heap_setCell_other w1 ⟨g, a, none⟩ k u (fun e => hk (by simp [e]))⟩ (.inr (fun k e => by injection e with e; omega))
theorem grown_cell {w w1 : World} {row : Option Nat} {b o : Nat} (h : w.grownBy w1 row) (hb : b < w.heap.size) (hne : some b ≠ row) : w1.cell? ⟨b, o, none⟩ = w.cell? ⟨b, o, none⟩ := World.cell?_of_block (a := ⟨b, o, none⟩) (h.block b hb hne)
theorem grown_frozen {w w1 : World} {row : Option Nat} {b o : Nat} (h : w.grownBy w1 row) (hb : b < w.heap.size) (hne : some b ≠ row) : w1.frozen? ⟨b, o, none⟩ = w.frozen? ⟨b, o, none⟩ := World.frozen?_of_block (a := ⟨b, o, none⟩) (h.block b hb hne)
theorem own_lt {w : World} {base g cap n sz : Nat} {e : TypeId} {xs : List Value} (h : w.ownsRow base e sz (.slice (some ⟨g, 0, none⟩) n cap) n xs) : base ≤ g ∧ g < w.heap.size := h.lt g rfl
theorem own_cap {w : World} {base g cap n sz : Nat} {e : TypeId} {xs : List Value} (h : w.ownsRow base e sz (.slice (some ⟨g, 0, none⟩) n cap) n xs) : n ≤ cap ∧ cap ≤ 9223372036854775807 := by
  obtain ⟨A', c', hv, hnc, hcm, _⟩ := own_any h
  injection hv with _ _ hv3
  subst hv3
  exact ⟨hnc, hcm⟩
/-- a row elsewhere stays -/
theorem own_grown {w w1 : World} {base n sz : Nat} {e : TypeId} {v : Value} {xs : List Value} {row : Option Nat} (h : w.ownsRow base e sz v n xs) (hg : w.grownBy w1 row) (hne : ∀ k, v.ownBlock = some k → row ≠ some k) : w1.ownsRow base e sz v n xs := by
  refine h.kept hg ?_
  cases hv : v.ownBlock with
  | none => exact .inl rfl
  | some k => exact .inr (fun e => hne k hv e.symm)
theorem grown_drew {w w1 : World} {row : Option Nat} (h : w.drew.grownBy w1 row) : w.grownBy w1 row := ⟨h.os, h.tape, h.output, h.size, h.block⟩
theorem below_drew' {w w1 : World} (h : Below w.drew.heap.size w.drew w1) : Below w.heap.size w w1 := ⟨h.os, h.tape, h.output, h.size, h.block⟩
theorem drewN_drewN (w : World) (a b : Nat) : (w.drewN a).drewN b = w.drewN (a + b) := by
  simp [World.drewN, Nat.add_assoc]
theorem below_set {B : Nat} {w wx : World} {b o : Nat} {u : Value} (h : Below B w wx) (hb : B ≤ b) : Below B w (wx.setCell ⟨b, o, none⟩ u) := h.setCell hb u
end Go.Proofs.YtjjfglbcikaicaaGreat
