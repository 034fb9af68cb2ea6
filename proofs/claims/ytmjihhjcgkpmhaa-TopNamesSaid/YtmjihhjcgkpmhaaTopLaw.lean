/- The law TopNames over its arguments. -/
import Derived.Test.YtmjihhjcgkpmhaaTopWalk
import Derived.Test.YtmjihhjcgkpmhaaOpen
import Derived.IntWalk
import Derived.SizedLaws
namespace Go.Proofs.Ytmjihhjcgkpmhaa
open Go.RowKit Go.ChangeShapes Go.WideShapes Go.Deep
set_option linter.unusedVariables false
set_option maxRecDepth 100000 in
theorem topNames_walk {H : Type} {enc : TypeId × Value → H} (W : World) (base : Nat) (v0 v1 : Value) {d0 d1 : DataW H} {p0 p1 : List MemPlace}
    (k0 : Value.okWide Try.prog W .any base 3 v0) (k1 : Value.okWide Try.prog W .any base 22 v1)
    (h0 : DataW.Trod enc Try.prog W 0 (fun _ => true) true 3 v0 d0 p0) (h1 : DataW.Trod enc Try.prog W 0 (fun _ => true) true 22 v1 d1 p1) :
    Calls Try.prog 3 #[v0, v1] W fun e W' => e = .returned (.bool true) ∧ Below W.heap.size W W' := by
  obtain ⟨z, rfl, _, _, _⟩ := open_int Try.underlying3 k0 h0
  obtain ⟨a0, l0, cp0, rfl⟩ := okWide_slice Try.underlying22 k1
  obtain ⟨fuel, hf⟩ := h1
  obtain ⟨A, n, c, C, hcs, hnc, hcm, hA, hR, hlen, hel⟩ := open_rows Try.underlying22 (by kernel_rfl) (sz := 1) (by omega) hf
  have hv : Value.slice a0 l0 cp0 = .slice A n c := by simpa [Value.cells] using hcs
  have hvi : ∀ j, ∃ z : Int, j < n → C j = [.int .i64 z] := fun j => by
    by_cases hj : j < n
    · obtain ⟨m2, q2, hy2⟩ := hel j hj
      obtain ⟨z, e, _, hw⟩ := DataW.trod_int Try.underlying3 hy2
      exact ⟨z, fun _ => e⟩
    · exact ⟨0, fun h => absurd h hj⟩
  obtain ⟨Z, hZ⟩ := Classical.axiomOfChoice hvi
  rw [hv]
  exact topNames_go z A n c Z W hnc hcm hA (hR.congr fun k hk => by unfold tmC; rw [hZ k hk])
end Go.Proofs.Ytmjihhjcgkpmhaa
