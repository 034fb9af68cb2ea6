/- roadkeep4.Rest. -/
import Derived.Test.YtmjihhjcgkpmhaaTnCl
namespace Go.Proofs.Ytmjihhjcgkpmhaa
open Go.RowKit
set_option linter.unusedVariables false
set_option maxRecDepth 100000 in
set_option maxHeartbeats 4000000 in
theorem rest_any (k n : Int) (w : World) (h1 : 1 ≤ n) (h2 : n ≤ 1000) : Calls Try.prog 4 #[.int .i64 k, .int .i64 n] w fun e w' => ∃ r : Nat, (r : Int) < n ∧ e = .returned (.int .i64 (r : Int)) ∧ w' = w := by
  go_enter Try.func4, Try.ntmps4
  go_wp2_with fail
  have hu : 0 ≤ IntKind.u64.wrap k := by simp [IntKind.wrap, IntKind.signed, IntKind.bits]; omega
  have hr0 := Int.tmod_nonneg n hu
  have hr1 := Int.tmod_lt_of_pos (IntKind.u64.wrap k) (show 0 < n by omega)
  generalize (IntKind.u64.wrap k).tmod n = x at hr0 hr1 ⊢
  have hx : wrap64 x = ((x.toNat : Nat) : Int) := by unfold wrap64; omega
  go_ret
  exact ⟨x.toNat, by omega, by rw [← hx]; rfl, rfl⟩
end Go.Proofs.Ytmjihhjcgkpmhaa
