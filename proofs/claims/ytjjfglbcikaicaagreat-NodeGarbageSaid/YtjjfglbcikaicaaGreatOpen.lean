/- Arguments that are slices of structs: what their cells hold. -/
import Derived.Test.YtjjfglbcikaicaaGreatVoc
import Derived.Deep.Slices
import Derived.Deep.Fields
import Derived.Lib.SmallJoins
namespace Go.Proofs.YtjjfglbcikaicaaGreat
open Go.RowKit Go.ChangeShapes Go.WideShapes Go.Deep

section
variable {H : Type} {enc : TypeId × Value → H} {P : Program} {w : World} {spare : Nat → Bool} {held : Bool}
theorem lt_of_cell {w : World} {b o : Nat} {v : Value} (h : w.cell? ⟨b, o, none⟩ = some v) : b < w.heap.size := by
  rcases Nat.lt_or_ge b w.heap.size with hlt | hge
  · exact hlt
  · unfold World.cell? at h
    rw [show w.heap[({ block := b, off := o, spot := none } : Addr).block]? = none from Array.getElem?_eq_none hge] at h
    cases h
/-- a slice of elements of sz cells each, read as data -/
theorem open_rows {t e sz fuel : Nat} {cs : List Value} {x : DataW H × List MemPlace} (ht : P.underlying t = some (.slice e)) (hC : P.cellsOf e = sz) (hsz : 0 < sz) (h : DataW.trod enc P w 0 (fun _ => true) held fuel t cs = some x) :
    ∃ (A : Option Addr) (n c : Nat) (C : Nat → List Value), cs = [.slice A n c] ∧ n ≤ c ∧ c ≤ 9223372036854775807 ∧ (A = none → n = 0) ∧ Rd w sz C A n ∧ (∀ i, (C i).length = sz) ∧
      ∀ i, i < n → ∃ m y, DataW.trod enc P w 0 (fun _ => true) held m e (C i) = some y := by
  rcases open_slice ht h with ⟨rfl, _⟩ | ⟨a, len, cap, m, n, D, Pl, rfl, _, hl, hm, hmm, _, hi⟩
  · exact ⟨none, 0, 0, fun _ => List.replicate sz undef, rfl, Nat.le_refl _, by omega, fun _ => rfl, fun h => by omega, fun _ => by simp, fun i hi => by omega⟩
  · simp only [if_true] at hmm
    subst hmm
    rw [hC] at hi
    have hch : ∀ i, ∃ cs' : List Value, cs'.length = sz ∧ (i < len → w.cells? 0 (a.add (i * sz)) sz = some cs' ∧ DataW.trod enc P w 0 (fun _ => true) held n e cs' = some (D i, Pl i)) := fun i => by
      by_cases hlt : i < len
      · obtain ⟨cs', h1, h2⟩ := hi i (by omega)
        exact ⟨cs', (World.cells?_some h1).2.1, fun _ => ⟨h1, h2⟩⟩
      · exact ⟨List.replicate sz undef, by simp, fun h => absurd h hlt⟩
    obtain ⟨C, hCC⟩ := Classical.axiomOfChoice hch
    refine ⟨some a, len, _, C, rfl, hl, hm, (fun h => by cases h), fun h0 => ?_, fun i => (hCC i).1, fun i hlt => ⟨n, _, ((hCC i).2 hlt).2⟩⟩
    have h00 := (World.cells?_some ((hCC 0).2 h0).1).2.2 0 hsz
    obtain ⟨b, off, spot⟩ := a
    obtain ⟨v, hv⟩ : ∃ v, (C 0)[0]? = some v := ⟨_, List.getElem?_eq_getElem (by rw [(hCC 0).1]; exact hsz)⟩
    have hspot : spot = none := by
      rw [hv] at h00
      simpa [Addr.add] using World.cell?_spot h00
    subst hspot
    have hat : ∀ i, i < len → ∀ j u, (C i)[j]? = some u → w.cell? ⟨b, off + i * sz + j, none⟩ = some u := fun i hlt j u hu => by
      have hj : j < sz := by
        rcases Nat.lt_or_ge j sz with hh | hh
        · exact hh
        · rw [List.getElem?_eq_none (by rw [(hCC i).1]; exact hh)] at hu; cases hu
      have h1 := (World.cells?_some ((hCC i).2 hlt).1).2.2 j hj
      rw [hu, Go.WideShapes.add_plain, Go.WideShapes.add_plain] at h1
      exact h1
    exact ⟨b, off, rfl, lt_of_cell (hat 0 h0 0 v hv), hat⟩
/-- a struct whose fields have one cell each -/
theorem trod_fields {t fuel : Nat} {fs : Array Field} {cs : List Value} {x : DataW H × List MemPlace} (ht : P.underlying t = some (.struct fs)) (hone : oneCellFields P fs = true) (h : DataW.trod enc P w 0 spare held fuel t cs = some x) :
    ∀ (j : Nat) (f : Field) (v : Value), fs[j]? = some f → cs[j]? = some v → ∃ m y, DataW.trod enc P w 0 spare held m f.type [v] = some y := by
  obtain ⟨xs, n, _, _, _, hlen, hf⟩ := DataW.trod_struct ht h
  intro j f v hj hv
  obtain ⟨ho, hk⟩ := hone_of hone j f hj
  have hjl : j < fs.size := (Array.getElem?_eq_some_iff.1 hj).1
  have h1 := hf j f hj
  rw [ho, hk] at h1
  have hjc : j < cs.length := by
    rcases Nat.lt_or_ge j cs.length with hh | hh
    · exact hh
    · rw [List.getElem?_eq_none hh] at hv; cases hv
  have e : (cs.drop j).take 1 = [v] := by
    rw [List.drop_eq_getElem_cons hjc]
    rw [List.getElem?_eq_getElem hjc] at hv
    injection hv with hv
    rw [hv]
    rfl
  rw [e] at h1
  rw [List.getElem?_eq_getElem (show j < xs.length by omega)] at h1
  exact ⟨n, _, h1⟩
end
end Go.Proofs.YtjjfglbcikaicaaGreat
