/- A slice of numbers as an argument. -/
import Derived.Test.YtjalgnpbdcefdaaInts
import Derived.Test.YtjalgnpbdcefdaaOpen
import Derived.IntWalk
import Derived.SizedLaws
namespace Go.Proofs.Ytjalgnpbdcefdaa
open Go.RowKit Go.ChangeShapes Go.WideShapes Go.Deep
set_option linter.unusedVariables false
set_option maxRecDepth 100000 in
theorem open_intsW {H : Type} {enc : TypeId × Value → H} {W : World} {base : Nat} {v : Value} {d : DataW H} {p : List MemPlace} (k0 : Value.okWide Try.prog W .any base 39 v) (h0 : DataW.Trod enc Try.prog W 0 (fun _ => true) true 39 v d p) :
    ∃ A n c T, v = .slice A n c ∧ n ≤ c ∧ c ≤ 9223372036854775807 ∧ (A = none → n = 0) ∧ Rd W 1 (tmC T) A n ∧ ∀ i, i < n → (Lit.int .i64 (T i)).wf = true := by
  obtain ⟨a0, l0, cp0, rfl⟩ := okWide_slice Try.underlying39 k0
  obtain ⟨fuel, hf⟩ := h0
  obtain ⟨A, n, c, C, hcs, hnc, hcm, hA, hR, hlen, hel⟩ := open_rows Try.underlying39 (by kernel_rfl) (sz := 1) (by omega) hf
  have hv : Value.slice a0 l0 cp0 = .slice A n c := by simpa [Value.cells] using hcs
  have hvi : ∀ j, ∃ z : Int, j < n → C j = [.int .i64 z] ∧ (Lit.int .i64 z).wf = true := fun j => by
    by_cases hj : j < n
    · obtain ⟨m2, q2, hy2⟩ := hel j hj
      obtain ⟨z, e, _, hw⟩ := DataW.trod_int Try.underlying3 hy2
      exact ⟨z, fun _ => ⟨e, hw⟩⟩
    · exact ⟨0, fun h => absurd h hj⟩
  obtain ⟨Z, hZ⟩ := Classical.axiomOfChoice hvi
  exact ⟨A, n, c, Z, hv, hnc, hcm, hA, hR.congr fun k hk => by unfold tmC; rw [(hZ k hk).1], fun i hi => (hZ i hi).2⟩
end Go.Proofs.Ytjalgnpbdcefdaa
