/- As XCloneReg; a row may have rows of its own: the stores go to boxes that hold a slice. -/
import Derived.Test.YtcedogmhmpcfmaaRegInv
import Derived.Test.YtcedogmhmpcfmaaRow
namespace Go.Proofs.Ytcedogmhmpcfmaa
open Go.RowKit
set_option linter.unusedVariables false
def blkOf : Value → Option Nat
  | .slice (some p) _ _ => some p.block
  | .pointer (some p) => some p.block
  | _ => none
def BoxP (w1 : World) (v u : Value) (w : World) : Prop := ∃ b, v = .pointer (some ⟨b, 0, none⟩) ∧ w1.heap.size ≤ b ∧ b < w.heap.size ∧ w.cell? ⟨b, 0, none⟩ = some u ∧ w.frozen? ⟨b, 0, none⟩ = false
theorem BoxP.grown {w1 w w' : World} {v u : Value} {row : Option Nat} (h : BoxP w1 v u w) (hg : w.grownBy w' row) (hr : ∀ b, blkOf v = some b → row ≠ some b) : BoxP w1 v u w' := by
  obtain ⟨b, rfl, h1, h2, h3, h4⟩ := h
  have hne : some b ≠ row := fun e => hr b rfl e.symm
  exact ⟨b, rfl, h1, Nat.lt_of_lt_of_le h2 hg.size, (grown_cell hg h2 hne).trans h3, (grown_frozen hg h2 hne).trans h4⟩
/-- a family of rows -/
structure RowFam (w1 : World) (n : Nat) (Row : Nat → Value → World → Prop) : Prop where
  mono : ∀ k v w w' row, k < n → Row k v w → w.grownBy w' row → (∀ b, blkOf v = some b → row ≠ some b) → (∀ b, row = some b → ∃ A n c, w.cell? ⟨b, 0, none⟩ = some (.slice A n c)) → Row k v w'
  blk : ∀ k v w b, k < n → Row k v w → blkOf v = some b → w1.heap.size ≤ b ∧ b < w.heap.size
structure CI (w1 : World) (n : Nat) (Row : Nat → Value → World → Prop) (Z : Nat → Value) (cd ad sd : Nat → Bool) (V Pt : Nat → Value) (w : World) : Prop where
  bel : Below w1.heap.size w1 w
  row : ∀ k, k < n → cd k = true → Row k (V k) w
  box : ∀ k, k < n → ad k = true → BoxP w1 (Pt k) (if sd k = true then V k else Z k) w
  dVV : ∀ i j b, i < n → j < n → i ≠ j → cd i = true → cd j = true → blkOf (V i) = some b → blkOf (V j) ≠ some b
  dVP : ∀ i j b, i < n → j < n → cd i = true → ad j = true → blkOf (V i) = some b → blkOf (Pt j) ≠ some b
  dPP : ∀ i j b, i < n → j < n → i ≠ j → ad i = true → ad j = true → blkOf (Pt i) = some b → blkOf (Pt j) ≠ some b
  sc : ∀ k, k < n → sd k = true → cd k = true ∧ ad k = true
def updV (V : Nat → Value) (k : Nat) (v : Value) : Nat → Value := fun j => if j = k then v else V j
section
variable {w1 w w' : World} {n k : Nat} {Row : Nat → Value → World → Prop} {Z : Nat → Value} {cd ad sd cd' ad' sd' : Nat → Bool} {V Pt : Nat → Value}
theorem CI.zero (w1 : World) (n : Nat) (Row : Nat → Value → World → Prop) (Z V Pt : Nat → Value) (h : Below w1.heap.size w1 w) : CI w1 n Row Z (fun _ => false) (fun _ => false) (fun _ => false) V Pt w :=
  ⟨h, (fun k _ h => by cases h), (fun k _ h => by cases h), (fun i j b _ _ _ h => by cases h), (fun i j b _ _ h => by cases h), (fun i j b _ _ _ h => by cases h), (fun k _ h => by cases h)⟩
theorem CI.congr (H : CI w1 n Row Z cd ad sd V Pt w) (h1 : ∀ j, j < n → cd' j = cd j) (h2 : ∀ j, j < n → ad' j = ad j) (h3 : ∀ j, j < n → sd' j = sd j) : CI w1 n Row Z cd' ad' sd' V Pt w :=
  ⟨H.bel, fun k hk h => H.row k hk (by rw [← h1 k hk]; exact h), fun k hk h => by rw [h3 k hk]; exact H.box k hk (by rw [← h2 k hk]; exact h),
    fun i j b hi hj hne a c => H.dVV i j b hi hj hne (by rw [← h1 i hi]; exact a) (by rw [← h1 j hj]; exact c),
    fun i j b hi hj a c => H.dVP i j b hi hj (by rw [← h1 i hi]; exact a) (by rw [← h2 j hj]; exact c),
    fun i j b hi hj hne a c => H.dPP i j b hi hj hne (by rw [← h2 i hi]; exact a) (by rw [← h2 j hj]; exact c),
    fun k hk h => by rw [h1 k hk, h2 k hk]; exact H.sc k hk (by rw [← h3 k hk]; exact h)⟩
theorem box_lt {v u : Value} {b : Nat} (h : BoxP w1 v u w) (hb : blkOf v = some b) : w1.heap.size ≤ b ∧ b < w.heap.size := by
  obtain ⟨b', rfl, h1, h2, _, _⟩ := h
  injection hb with hb
  subst hb
  exact ⟨h1, h2⟩
/-- a clone is made -/
theorem CI.call (F : RowFam w1 n Row) (H : CI w1 n Row Z cd ad sd V Pt w) (hk : k < n) (h0 : cd k = false) (hb : Below w.heap.size w w') {v : Value} (hv : Row k v w') (hnew : ∀ b, blkOf v = some b → w.heap.size ≤ b) : CI w1 n Row Z (dn cd k) ad sd (updV V k v) Pt w' := by
  have hg := grown_below (g := none) hb
  have hs : sd k = false := by
    cases h : sd k with
    | false => rfl
    | true => rw [(H.sc k hk h).1] at h0; cases h0
  refine ⟨H.bel.trans (hb.mono H.bel.size), fun j hj h => ?_, fun j hj h => ?_, fun i j b hi hj hne h1 h2 hb1 hb2 => ?_, fun i j b hi hj h1 h2 hb1 hb2 => ?_, H.dPP, fun j hj h => ⟨dn_of (H.sc j hj h).1, (H.sc j hj h).2⟩⟩
  · unfold updV
    by_cases e : j = k
    · subst e; rw [if_pos rfl]; exact hv
    · rw [if_neg e]
      exact F.mono _ _ _ _ _ hj (H.row j hj (of_dn h e)) hg (by simp) (by simp)
  · have h1 := H.box j hj h
    unfold updV
    by_cases e : j = k
    · subst e
      rw [hs] at h1 ⊢
      exact h1.grown hg (by simp)
    · rw [if_neg e]
      exact h1.grown hg (by simp)
  · unfold updV at hb1 hb2
    by_cases e1 : i = k
    · subst e1
      rw [if_pos rfl] at hb1
      rw [if_neg (fun e => hne e.symm)] at hb2
      have a1 := hnew b hb1
      have a2 := (F.blk _ _ _ _ hj (H.row j hj (of_dn h2 (fun e => hne e.symm))) hb2).2
      omega
    · rw [if_neg e1] at hb1
      by_cases e2 : j = k
      · subst e2
        rw [if_pos rfl] at hb2
        have a1 := hnew b hb2
        have a2 := (F.blk _ _ _ _ hi (H.row i hi (of_dn h1 e1)) hb1).2
        omega
      · rw [if_neg e2] at hb2
        exact H.dVV i j b hi hj hne (of_dn h1 e1) (of_dn h2 e2) hb1 hb2
  · unfold updV at hb1
    by_cases e1 : i = k
    · subst e1
      rw [if_pos rfl] at hb1
      have a1 := hnew b hb1
      have a2 := (box_lt (H.box j hj h2) hb2).2
      omega
    · rw [if_neg e1] at hb1
      exact H.dVP i j b hi hj (of_dn h1 e1) h2 hb1 hb2
/-- a box is made -/
theorem CI.alloc (F : RowFam w1 n Row) (H : CI w1 n Row Z cd ad sd V Pt w) (hk : k < n) (h0 : ad k = false) (ty : TypeId) : CI w1 n Row Z cd (dn ad k) sd V (updV Pt k (.pointer (some ⟨w.heap.size, 0, none⟩))) (w.alloc (.cells #[Z k] ty)) := by
  have hb : Below w.heap.size w (w.alloc (.cells #[Z k] ty)) := (Below.refl _ _).alloc (Nat.le_refl _) _
  have hg := grown_below (g := none) hb
  have hs : sd k = false := by
    cases h : sd k with
    | false => rfl
    | true => rw [(H.sc k hk h).2] at h0; cases h0
  refine ⟨H.bel.trans (hb.mono H.bel.size), fun j hj h => F.mono _ _ _ _ _ hj (H.row j hj h) hg (by simp) (by simp), fun j hj h => ?_, H.dVV, fun i j b hi hj h1 h2 hb1 hb2 => ?_, fun i j b hi hj hne h1 h2 hb1 hb2 => ?_, fun j hj h => ⟨(H.sc j hj h).1, dn_of (H.sc j hj h).2⟩⟩
  · unfold updV
    by_cases e : j = k
    · subst e
      rw [if_pos rfl, hs]
      exact ⟨_, rfl, H.bel.size, by simp, by simp, by simp [go_sem]⟩
    · rw [if_neg e]
      exact (H.box j hj (of_dn h e)).grown hg (by simp)
  · unfold updV at hb2
    by_cases e : j = k
    · subst e
      rw [if_pos rfl] at hb2
      injection hb2 with hb2
      have a2 := (F.blk _ _ _ _ hi (H.row i hi h1) hb1).2
      have : b = w.heap.size := hb2.symm
      omega
    · rw [if_neg e] at hb2
      exact H.dVP i j b hi hj h1 (of_dn h2 e) hb1 hb2
  · unfold updV at hb1 hb2
    by_cases e1 : i = k
    · subst e1
      rw [if_pos rfl] at hb1
      rw [if_neg (fun e => hne e.symm)] at hb2
      injection hb1 with hb1
      have a2 := (box_lt (H.box j hj (of_dn h2 (fun e => hne e.symm))) hb2).2
      have : b = w.heap.size := hb1.symm
      omega
    · rw [if_neg e1] at hb1
      by_cases e2 : j = k
      · subst e2
        rw [if_pos rfl] at hb2
        injection hb2 with hb2
        have a2 := (box_lt (H.box i hi (of_dn h1 e1)) hb1).2
        have : b = w.heap.size := hb2.symm
        omega
      · rw [if_neg e2] at hb2
        exact H.dPP i j b hi hj hne (of_dn h1 e1) (of_dn h2 e2) hb1 hb2
/-- a clone is put into its box -/
theorem CI.store (F : RowFam w1 n Row) (H : CI w1 n Row Z cd ad sd V Pt w) (hk : k < n) (hc : cd k = true) (ha : ad k = true) {b : Nat} (hp : Pt k = .pointer (some ⟨b, 0, none⟩)) (hsl : ∃ A n c, (if sd k = true then V k else Z k) = .slice A n c) : CI w1 n Row Z cd ad (dn sd k) V Pt (w.setCell ⟨b, 0, none⟩ (V k)) := by
  have hg : w.grownBy (w.setCell ⟨b, 0, none⟩ (V k)) (some b) := grown_set (grown_self _ _) _
  have hbk : blkOf (Pt k) = some b := by rw [hp]; rfl
  refine ⟨below_grown H.bel H.bel.size hg (fun g hg => by injection hg with hg; have := (box_lt (H.box k hk ha) hbk).1; omega), fun j hj h => ?_, fun j hj h => ?_, H.dVV, H.dVP, H.dPP, fun j hj h => ?_⟩
  · exact F.mono _ _ _ _ _ hj (H.row j hj h) hg (fun b' hb' e => by injection e with e; exact H.dVP j k b' hj hk h ha hb' (by rw [hbk, e])) (fun b' e => by
      injection e with e
      subst e
      obtain ⟨b2, h1, -, -, h4, -⟩ := H.box k hk ha
      rw [hp] at h1
      injection h1 with h1
      injection h1 with h1
      injection h1 with h1
      subst h1
      obtain ⟨A, m, c, h5⟩ := hsl
      exact ⟨A, m, c, by rw [h4, h5]⟩)
  · by_cases e : j = k
    · subst e
      rw [dn_self, if_pos rfl]
      obtain ⟨b', h1, h2, h3, h4, h5⟩ := H.box j hj h
      rw [hp] at h1
      injection h1 with h1
      injection h1 with h1
      injection h1 with h1
      subst h1
      refine ⟨b, hp, h2, by simpa using h3, by simp [go_sem, h4], by simpa [go_sem] using h5⟩
    · have e2 : dn sd k j = sd j := by unfold dn; rw [if_neg e]
      rw [e2]
      exact (H.box j hj h).grown hg (fun b' hb' e3 => by injection e3 with e3; exact H.dPP j k b' hj hk e h ha hb' (by rw [hbk, e3]))
  · by_cases e : j = k
    · subst e; exact ⟨hc, ha⟩
    · exact H.sc j hj (of_dn h e)
end
end Go.Proofs.Ytcedogmhmpcfmaa
