/- A heap as an argument of a law: its words, within the reach. -/
import Derived.Test.YtmpeckjemgenbaaOpenD
import Derived.Test.YtmpeckjemgenbaaHeapRound
namespace Go.Proofs.Ytmpeckjemgenbaa
open Go.RowKit Go.ChangeShapes Go.WideShapes Go.Deep
set_option linter.unusedVariables false
set_option maxRecDepth 100000 in
theorem open_heap {H : Type} {enc : TypeId × Value → H} {W : World} {base : Nat} {v : Value} {d : DataW H} {p : List MemPlace} (k0 : Value.okWide Try.prog W .any base 23 v) (h0 : DataW.Trod enc Try.prog W 0 (fun _ => true) true 23 v d p) (hz : ∀ k ∈ d.weights Try.prog 23, k ≤ reachBytes) :
    ∃ (A : Option Addr) (c : Nat) (h : List Nat), v = .slice A h.length c ∧ Su W (.slice A h.length c) h ∧ All64 h ∧ h.length ≤ 17592186044416 := by
  obtain ⟨a0, l0, cp0, rfl⟩ := okWide_slice Try.underlying23 k0
  obtain ⟨fuel, hf⟩ := h0
  obtain ⟨A, n, c, C, D, sp, hcs, hnc, hcm, hA, hR, hel, hd⟩ := open_rowsD Try.underlying23 (by kernel_rfl) hf
  have hv : Value.slice a0 l0 cp0 = .slice A n c := by simpa [Value.cells] using hcs
  have hvi : ∀ j, ∃ z : Nat, j < n → C j = .int .u64 (z : Int) ∧ z < 18446744073709551616 := fun j => by
    by_cases hj : j < n
    · obtain ⟨m2, q2, hy2⟩ := hel j hj
      obtain ⟨z, e, _, hw⟩ := DataW.trod_int Try.underlying34 hy2
      simp at e
      simp [Lit.wf, IntKind.min, IntKind.max, IntKind.signed, IntKind.bits] at hw
      exact ⟨z.toNat, fun _ => ⟨by rw [e]; congr 1; omega, by omega⟩⟩
    · exact ⟨0, fun h => absurd h hj⟩
  obtain ⟨Z, hZ⟩ := Classical.axiomOfChoice hvi
  have hl : ((List.range n).map Z).length = n := by simp
  have hlen : n ≤ 17592186044416 := by
    rcases hd with h2 | h2
    · omega
    · simp only at h2
      have hw1 : (n + sp.length) * Try.prog.bytesOf 34 ∈ d.weights Try.prog 23 := by
        rw [h2]; simp [DataW.weights, Try.underlying23]
      have hw3 := hz _ hw1
      have hb : Try.prog.bytesOf 34 = 8 := by kernel_rfl
      rw [hb] at hw3
      have := reachBytes_lt
      omega
  refine ⟨A, c, (List.range n).map Z, by rw [hl]; exact hv, ⟨A, c, rfl, by omega, hcm, fun h => by rw [hl]; exact hA h, fun h1 => ?_⟩, fun x hx => ?_, by omega⟩
  · rw [hl] at h1 ⊢
    obtain ⟨b, off, e1, e2, e3⟩ := hR h1
    refine ⟨b, off, e1, e2, fun k hk j u hu => e3 k hk j u ?_⟩
    have : uC (nth ((List.range n).map Z)) k = [C k] := by
      unfold uC
      rw [(hZ k hk).1]
      simp [nth, hk]
    rw [this] at hu
    exact hu
  · obtain ⟨j, hj, rfl⟩ := List.mem_map.1 hx
    exact (hZ j (List.mem_range.1 hj)).2
end Go.Proofs.Ytmpeckjemgenbaa
