/- Lines of tasks as an argument: what their cells hold, and that they are within the reach. -/
import Derived.Test.YtjcegplockihfaaSteal
import Derived.Test.YtjcegplockihfaaOpen
import Derived.SizedLaws
namespace Go.Proofs.Ytjcegplockihfaa
open Go.RowKit Go.ChangeShapes Go.WideShapes Go.Deep
set_option linter.unusedVariables false
section
variable {H : Type} {enc : TypeId × Value → H} {P : Program} {w : World} {held : Bool}
/-- a slice of elements of one cell each, read as data -/
theorem open_rowsD {t e fuel : Nat} {cs : List Value} {x : DataW H × List MemPlace} (ht : P.underlying t = some (.slice e)) (hC : P.cellsOf e = 1) (h : DataW.trod enc P w 0 (fun _ => true) held fuel t cs = some x) :
    ∃ (A : Option Addr) (n c : Nat) (C : Nat → Value) (D : Nat → DataW H) (sp : List (DataW H)), cs = [.slice A n c] ∧ n ≤ c ∧ c ≤ 9223372036854775807 ∧ (A = none → n = 0) ∧ Rd w 1 (fun i => [C i]) A n ∧
      (∀ i, i < n → ∃ m q, DataW.trod enc P w 0 (fun _ => true) held m e [C i] = some (D i, q)) ∧ (n = 0 ∨ x.1 = .slice ((List.range n).map D) sp) := by
  rcases open_slice ht h with ⟨rfl, _⟩ | ⟨a, len, cap, m, n, D, Pl, rfl, _, hl, hm, hmm, hx, hi⟩
  · exact ⟨none, 0, 0, fun _ => undef, fun _ => .nil, [], rfl, Nat.le_refl _, by omega, fun _ => rfl, fun h => by omega, fun i hi => by omega, .inl rfl⟩
  · simp only [if_true] at hmm
    subst hmm
    rw [hC] at hi
    have hch : ∀ i, ∃ v : Value, (i < len → w.cells? 0 (a.add (i * 1)) 1 = some [v] ∧ DataW.trod enc P w 0 (fun _ => true) held n e [v] = some (D i, Pl i)) := fun i => by
      by_cases hlt : i < len
      · obtain ⟨cs', h1, h2⟩ := hi i (by omega)
        have h3 := (World.cells?_some h1).2.1
        match cs', h3 with
        | [v], _ => exact ⟨v, fun _ => ⟨h1, h2⟩⟩
      · exact ⟨undef, fun h => absurd h hlt⟩
    obtain ⟨C, hCC⟩ := Classical.axiomOfChoice hch
    refine ⟨some a, len, _, C, D, _, rfl, hl, hm, (fun h => by cases h), fun h0 => ?_, fun i hlt => ⟨n, _, (hCC i hlt).2⟩, .inr (by rw [hx])⟩
    have h00 := (World.cells?_some (hCC 0 h0).1).2.2 0 (by omega)
    obtain ⟨b, off, spot⟩ := a
    have hspot : spot = none := by
      simp only [List.getElem?_cons_zero] at h00
      simpa [Addr.add] using World.cell?_spot h00
    subst hspot
    have hat : ∀ i, i < len → w.cell? ⟨b, off + i, none⟩ = some (C i) := fun i hlt => by
      have h1 := (World.cells?_some (hCC i hlt).1).2.2 0 (by omega)
      rw [Go.WideShapes.add_plain, Go.WideShapes.add_plain] at h1
      simpa using h1
    refine ⟨b, off, rfl, lt_of_cell (hat 0 h0), fun i hlt j u hu => ?_⟩
    match j, hu with
    | 0, hu => simp at hu; subst hu; simpa using hat i hlt
theorem weightsAll_mem {e : TypeId} : ∀ {l : List (DataW H)} {d : DataW H}, d ∈ l → ∀ k ∈ d.weights P e, k ∈ DataW.weightsAll P e l
  | d0 :: l, d, hd, k, hk => by
    simp only [DataW.weightsAll, List.mem_append]
    rcases List.mem_cons.1 hd with rfl | hd
    · exact .inl hk
    · exact .inr (weightsAll_mem hd k hk)
end
set_option maxRecDepth 100000 in
theorem open_lines {H : Type} {enc : TypeId × Value → H} {W : World} {base : Nat} {v : Value} {d : DataW H} {p : List MemPlace} (k0 : Value.okWide Try.prog W .any base 63 v) (h0 : DataW.Trod enc Try.prog W 0 (fun _ => true) true 63 v d p) (hz : ∀ k ∈ d.weights Try.prog 63, k ≤ reachBytes) :
    ∃ A n c Q, v = .slice A n c ∧ n ≤ c ∧ c ≤ 9223372036854775807 ∧ (A = none → n = 0) ∧ RdLs W (fun _ => True) A n Q ∧ WfQ Q n := by
  obtain ⟨a0, l0, cp0, rfl⟩ := okWide_slice Try.underlying63 k0
  obtain ⟨fuel, hf⟩ := h0
  obtain ⟨A, n, c, C, D, sp, hcs, hnc, hcm, hA, hR, hel, hd⟩ := open_rowsD Try.underlying63 (by kernel_rfl) hf
  have hv : Value.slice a0 l0 cp0 = .slice A n c := by simpa [Value.cells] using hcs
  have hall : ∀ i, ∃ q : List Int, i < n → (∃ qA qc, C i = .slice qA q.length qc ∧ q.length ≤ qc ∧ qc ≤ 9223372036854775807 ∧ (qA = none → q.length = 0) ∧ RdI W (fun _ => True) qA q) ∧ q.length ≤ 17592186044416 ∧ ∀ x ∈ q, Wf x := fun i => by
    by_cases hi : i < n
    · obtain ⟨m, q, hy⟩ := hel i hi
      obtain ⟨qA, qn, qc, C2, D2, sp2, hcs2, hnc2, hcm2, hA2, hR2, hel2, hd2⟩ := open_rowsD Try.underlying52 (by kernel_rfl) hy
      have hvi : ∀ j, ∃ z : Int, j < qn → C2 j = .int .i64 z ∧ Wf z := fun j => by
        by_cases hj : j < qn
        · obtain ⟨m2, q2, hy2⟩ := hel2 j hj
          obtain ⟨z, e, _, hw⟩ := DataW.trod_int Try.underlying3 hy2
          simp at e
          exact ⟨z, fun _ => ⟨e, hw⟩⟩
        · exact ⟨0, fun h => absurd h hj⟩
      obtain ⟨Z, hZ⟩ := Classical.axiomOfChoice hvi
      have hl : ((List.range qn).map Z).length = qn := by simp
      refine ⟨(List.range qn).map Z, fun _ => ⟨⟨qA, qc, ?_, by omega, hcm2, fun h => by rw [hl]; exact hA2 h, fun h1 => ?_⟩, ?_, fun x hx => ?_⟩⟩
      · rw [hl]; simpa using hcs2
      · rw [hl] at h1 ⊢
        obtain ⟨b, off, e1, e2, e3⟩ := hR2 h1
        refine ⟨b, off, e1, e2, trivial, fun j hj => ?_⟩
        have := e3 j hj 0 _ rfl
        rw [(hZ j hj).1] at this
        simpa [lst, hj] using this
      · rw [hl]
        rcases hd2 with h2 | h2
        · omega
        · have hn0 : ¬ n = 0 := by omega
          rcases hd with h3 | h3
          · exact absurd h3 hn0
          · simp only at h2 h3
            have hD : D i ∈ (List.range n).map D := List.mem_map.2 ⟨i, List.mem_range.2 hi, rfl⟩
            have hw1 : (qn + sp2.length) * Try.prog.bytesOf 3 ∈ (D i).weights Try.prog 52 := by
              rw [h2]; simp [DataW.weights, Try.underlying52]
            have hw2 := weightsAll_mem (P := Try.prog) (e := 52) hD _ hw1
            have hw3 := hz _ (by rw [h3]; simp only [DataW.weights, Try.underlying63]; exact List.mem_cons_of_mem _ (List.mem_append_left _ hw2))
            have hb : Try.prog.bytesOf 3 = 8 := by kernel_rfl
            rw [hb] at hw3
            have := reachBytes_lt
            omega
      · obtain ⟨j, hj, rfl⟩ := List.mem_map.1 hx
        exact (hZ j (List.mem_range.1 hj)).2
    · exact ⟨[], fun h => absurd h hi⟩
  obtain ⟨Q, hQ⟩ := Classical.axiomOfChoice hall
  refine ⟨A, n, c, Q, hv, hnc, hcm, hA, fun h1 => ?_, fun i hi => (hQ i hi).2⟩
  obtain ⟨b, off, e1, e2, e3⟩ := hR h1
  refine ⟨b, off, e1, e2, trivial, fun i hi => ?_⟩
  obtain ⟨qA, qc, h2, h3⟩ := (hQ i hi).1
  have := e3 i hi 0 _ rfl
  rw [h2] at this
  exact ⟨qA, qc, by simpa using this, h3⟩
end Go.Proofs.Ytjcegplockihfaa
