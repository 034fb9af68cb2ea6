/- Timers as an argument of a law. -/
import Derived.Test.YthnoahldolfffaaTimerOps
import Derived.Test.YthnoahldolfffaaOpen
import Derived.Lib.SmallJoins
namespace Go.Proofs.Ythnoahldolfffaa
open Go.RowKit Go.ChangeShapes Go.WideShapes Go.Deep
set_option linter.unusedVariables false
set_option maxRecDepth 100000 in
theorem open_timers {H : Type} {enc : TypeId × Value → H} {W : World} {base : Nat} {v : Value} {d : DataW H} {p : List MemPlace} (k0 : Value.okWide Try.prog W .any base 24 v) (h0 : DataW.Trod enc Try.prog W 0 (fun _ => true) true 24 v d p) :
    ∃ (now : Int) (A : Option Addr) (c : Nat) (l : List Du), v = .agg #[.int .i64 now, .slice A l.length c] ∧ Sd W (.slice A l.length c) l := by
  obtain ⟨c0, c1, y0, y1, m, rfl, rfl, rfl, g0, g1⟩ := Joins.open_agg2 Try.underlying24 (by kernel_rfl) (by kernel_rfl) k0 h0
  obtain ⟨z, e0, _, _⟩ := DataW.trod_int Try.underlying3 g0
  obtain ⟨A, n, c, C, hcs, hnc, hcm, hA, hR, hlen, hel⟩ := open_rows Try.underlying22 (by kernel_rfl) (sz := 2) (by omega) g1
  simp at e0 hcs
  subst e0 hcs
  have hvi : ∀ j, ∃ x : Du, j < n → C j = encDu x := fun j => by
    by_cases hj : j < n
    · obtain ⟨m2, y2, hy⟩ := hel j hj
      have hl := hlen j
      have hf := trod_fields Try.underlying34 (by kernel_rfl) hy
      match hC : C j, hl with
      | [u0, u1], _ =>
        rw [hC] at hf
        obtain ⟨_, _, f0⟩ := hf 0 _ u0 rfl rfl
        obtain ⟨_, _, f1⟩ := hf 1 _ u1 rfl rfl
        obtain ⟨a, e1, _, _⟩ := DataW.trod_int Try.underlying3 f0
        obtain ⟨i, e2, _, _⟩ := DataW.trod_int Try.underlying3 f1
        simp at e1 e2
        subst e1 e2
        exact ⟨⟨a, i⟩, fun _ => rfl⟩
    · exact ⟨default, fun h => absurd h hj⟩
  obtain ⟨Z, hZ⟩ := Classical.axiomOfChoice hvi
  have hl : ((List.range n).map Z).length = n := by simp
  refine ⟨z, A, c, (List.range n).map Z, by rw [hl], A, c, rfl, by omega, hcm, fun h => by rw [hl]; exact hA h, ?_⟩
  rw [hl]
  refine hR.congr fun k hk => ?_
  rw [hZ k hk]
  unfold duC encDu nthD
  simp [hk]
end Go.Proofs.Ythnoahldolfffaa
