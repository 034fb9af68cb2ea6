/- roadkeep4.Rest, as a function. -/
import Derived.Test.YthgbcgphkddmgaaGreatZAJ
namespace Go.Proofs.YthgbcgphkddmgaaGreat
open Go.RowKit
set_option linter.unusedVariables false
set_option linter.unusedSimpArgs false
/-- a number from 0 to n - 1 -/
def restK (k : Int) (n : Nat) : Nat := ((IntKind.u64.wrap k).tmod n).toNat
theorem restK_lt (k : Int) {n : Nat} (h : 1 ≤ n) : restK k n < n := by
  have hu : 0 ≤ IntKind.u64.wrap k := by simp [IntKind.wrap, IntKind.signed, IntKind.bits]; omega
  have hr0 := Int.tmod_nonneg (n : Int) hu
  have hr1 := Int.tmod_lt_of_pos (IntKind.u64.wrap k) (show (0 : Int) < n by omega)
  unfold restK
  omega
set_option maxRecDepth 100000 in
set_option maxHeartbeats 4000000 in
theorem restK_any (k : Int) (n : Nat) (w : World) (h1 : 1 ≤ n) (h2 : n ≤ 1000) : Calls Tryz.prog 6 #[.int .i64 k, .int .i64 (n : Int)] w fun e w' => e = .returned (.int .i64 (restK k n : Int)) ∧ w' = w := by
  go_enter Tryz.func6, Tryz.ntmps6
  go_wp2_with fail
  have hu : 0 ≤ IntKind.u64.wrap k := by simp [IntKind.wrap, IntKind.signed, IntKind.bits]; omega
  have hr0 := Int.tmod_nonneg (n : Int) hu
  have hr1 := Int.tmod_lt_of_pos (IntKind.u64.wrap k) (show (0 : Int) < n by omega)
  have hdef : restK k n = ((IntKind.u64.wrap k).tmod n).toNat := rfl
  generalize (IntKind.u64.wrap k).tmod n = x at hr0 hr1 hdef ⊢
  have hx : wrap64 x = ((restK k n : Nat) : Int) := by rw [hdef]; unfold wrap64; omega
  go_ret
  exact ⟨by rw [← hx]; rfl, rfl⟩
end Go.Proofs.YthgbcgphkddmgaaGreat
