/- A slice of elements of one cell each, read as data, with its data; weights. -/
import Derived.Test.YtkdbnkkdohkhjaaOpen
import Derived.SizedLaws
namespace Go.Proofs.Ytkdbnkkdohkhjaa
open Go.RowKit Go.ChangeShapes Go.WideShapes Go.Deep
set_option linter.unusedVariables false
section
variable {H : Type} {enc : TypeId × Value → H} {P : Program} {w : World} {held : Bool}
/-- a slice of elements of one cell each, read as data -/
theorem open_rowsD {t e fuel : Nat} {cs : List Value} {x : DataW H × List MemPlace} (ht : P.underlying t = some (.slice e)) (hC : P.cellsOf e = 1) (h : DataW.trod enc P w 0 (fun _ => true) held fuel t cs = some x) :
    ∃ (A : Option Addr) (n c : Nat) (C : Nat → Value) (D : Nat → DataW H) (sp : List (DataW H)), cs = [.slice A n c] ∧ n ≤ c ∧ c ≤ 9223372036854775807 ∧ (A = none → n = 0) ∧ Rd w 1 (fun i => [C i]) A n ∧
      (∀ i, i < n → ∃ m q, DataW.trod enc P w 0 (fun _ => true) held m e [C i] = some (D i, q)) ∧ (n = 0 ∨ x.1 = .slice ((List.range n).map D) sp) := by
  rcases open_slice ht h with ⟨rfl, _⟩ | ⟨a, len, cap, m, n, D, Pl, rfl, _, hl, hm, hmm, hx, hi⟩
  · exact ⟨none, 0, 0, fun _ => undef, fun _ => .nil, [], rfl, Nat.le_refl _, by omega, fun _ => rfl, fun h => by omega, fun i hi => by omega, .inl rfl⟩
  · simp only [if_true] at hmm
    subst hmm
    rw [hC] at hi
    have hch : ∀ i, ∃ v : Value, (i < len → w.cells? 0 (a.add (i * 1)) 1 = some [v] ∧ DataW.trod enc P w 0 (fun _ => true) held n e [v] = some (D i, Pl i)) := fun i => by
      by_cases hlt : i < len
      · obtain ⟨cs', h1, h2⟩ := hi i (by omega)
        have h3 := (World.cells?_some h1).2.1
        match cs', h3 with
        | [v], _ => exact ⟨v, fun _ => ⟨h1, h2⟩⟩
      · exact ⟨undef, fun h => absurd h hlt⟩
    obtain ⟨C, hCC⟩ := Classical.axiomOfChoice hch
    refine ⟨some a, len, _, C, D, _, rfl, hl, hm, (fun h => by cases h), fun h0 => ?_, fun i hlt => ⟨n, _, (hCC i hlt).2⟩, .inr (by rw [hx])⟩
    have h00 := (World.cells?_some (hCC 0 h0).1).2.2 0 (by omega)
    obtain ⟨b, off, spot⟩ := a
    have hspot : spot = none := by
      simp only [List.getElem?_cons_zero] at h00
      simpa [Addr.add] using World.cell?_spot h00
    subst hspot
    have hat : ∀ i, i < len → w.cell? ⟨b, off + i, none⟩ = some (C i) := fun i hlt => by
      have h1 := (World.cells?_some (hCC i hlt).1).2.2 0 (by omega)
      rw [Go.WideShapes.add_plain, Go.WideShapes.add_plain] at h1
      simpa using h1
    refine ⟨b, off, rfl, lt_of_cell (hat 0 h0), fun i hlt j u hu => ?_⟩
    match j, hu with
    | 0, hu => simp at hu; subst hu; simpa using hat i hlt
theorem weightsAll_mem {e : TypeId} : ∀ {l : List (DataW H)} {d : DataW H}, d ∈ l → ∀ k ∈ d.weights P e, k ∈ DataW.weightsAll P e l
  | d0 :: l, d, hd, k, hk => by
    simp only [DataW.weightsAll, List.mem_append]
    rcases List.mem_cons.1 hd with rfl | hd
    · exact .inl hk
    · exact .inr (weightsAll_mem hd k hk)
end
end Go.Proofs.Ytkdbnkkdohkhjaa
