/- Equal over equal rows of children. -/
import Derived.Test.YtcedogmhmpcfmaaWard
import Derived.RowKit3
import Derived.Deep.QuietTactic
import Derived.BigQuiet
namespace Go.Proofs.Ytcedogmhmpcfmaa.Wa
open Go.RowKit
set_option linter.unusedVariables false
set_option maxRecDepth 100000 in
set_option maxHeartbeats 4000000 in
/-- two rows that hold the same -/
theorem equalC_same (A B : Option Addr) (n m c d : Nat) (R : Nat → Ch) (w : World) (hnm : n = m) (hn : n ≤ c) (hc : c ≤ 9223372036854775807) (hR : Rd w 3 (chC R) A n) (hS : Rd w 3 (chC R) B m) :
    Calls Try.prog 14 #[.slice A n c, .slice B m d] w fun e w' => e = .returned (.bool true) ∧ Below w.heap.size w w' := by
  subst hnm
  have HR := Lib.hid hR
  have HS := Lib.hid hS
  clear hR hS
  go_enter Try.func14, Try.ntmps14
  go_wp2_with fail
  go_loopw [5, 13] (fun _ x wr => ∃ k : Nat, k ≤ n ∧ x = .int .i64 k ∧ Below w.heap.size w wr) (fun _ x _ => n - (intOf x).toNat)
  case atStart => exact ⟨0, by omega, rfl, Below.refl _ _⟩
  case round =>
    obtain ⟨k, hk, rfl, hB⟩ := hrel
    have HB := Lib.hid hB
    by_cases hlt : k < n
    · obtain ⟨b, off, rfl, hb0, hcell⟩ := (HR.out.below hB) (by omega)
      obtain ⟨b', off', rfl, hb0', hcell'⟩ := (HS.out.below hB) (by omega)
      have c0 := hcell k hlt 0 _ rfl
      have c1 := hcell k hlt 1 _ rfl
      have c2 := hcell k hlt 2 _ rfl
      have e0 := hcell' k hlt 0 _ rfl
      have e1 := hcell' k hlt 1 _ rfl
      have e2 := hcell' k hlt 2 _ rfl
      simp only [Nat.add_zero] at c0 e0
      clear hcell hcell' hB
      generalize R k = r at *
      obtain ⟨r1, r2, r3⟩ := r
      dsimp only at c0 c1 c2 e0 e1 e2
      have i1 : (0 : Int) ≤ (k : Int) := by omega
      have i2 : (k : Int) < (n : Int) := by omega
      go_wp2_with fail
      go_quiet (fail)
      go_wp2_with fail
      go_roundw
      case rel => exact ⟨k + 1, by omega, by go_num, below_drewN HB.out _⟩
      case measure => simp [intOf]; omega
    · obtain rfl : k = n := by omega
      go_wp2_with fail
      go_ret
      exact ⟨rfl, HB.out⟩
end Go.Proofs.Ytcedogmhmpcfmaa.Wa
