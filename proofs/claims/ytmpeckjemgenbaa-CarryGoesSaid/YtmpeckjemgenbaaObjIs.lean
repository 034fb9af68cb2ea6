/- roadref3.ObjectIs at objects that are objects. -/
import Derived.Test.YtmpeckjemgenbaaTagRead
import Derived.Test.YtmpeckjemgenbaaHeapRound
import Derived.BigQuiet
namespace Go.Proofs.Ytmpeckjemgenbaa
open Go.RowKit
set_option linter.unusedVariables false
theorem size0_eq {t : ByteArray} (h : t.size = 0) : t = ⟨#[]⟩ := by
  obtain ⟨d⟩ := t
  exact congrArg ByteArray.mk (Array.eq_empty_of_size_eq_zero h)
set_option maxRecDepth 100000 in
set_option maxHeartbeats 4000000 in
theorem objIs_ok (at_ kd nm : Int) (tx : ByteArray) (pA : Option Addr) (pl pc : Nat) (w : World) (h : okOb ⟨kd, nm, tx, List.replicate pl 0⟩ = true) :
    Calls Try.prog 53 #[.agg #[.int .i64 at_, .int .i64 kd, .int .i64 nm, .string tx, .slice pA pl pc]] w fun e w' => e = .returned (.bool true) ∧ Below w.heap.size w w' := by
  obtain ⟨⟨h1, h5⟩, htx, ht64, hpl, hnm⟩ := okOb_iff.1 h
  dsimp only at h1 h5 htx ht64 hpl hnm
  rw [List.length_replicate] at hpl
  clear h
  have HB := Lib.hid (show ∀ o, Below w.heap.size w (w.alloc o) from fun o => (Below.refl _ _).alloc (Nat.le_refl _) _)
  have hk : kd = 1 ∨ kd = 2 ∨ kd = 3 ∨ kd = 4 ∨ kd = 5 := by omega
  rcases hk with rfl | rfl | rfl | rfl | rfl
  · obtain rfl := size0_eq (show tx.size = 0 by omega)
    obtain rfl : pl = 0 := by simp [mostP] at hpl; omega
    clear h1 h5 htx ht64 hpl hnm
    go_enter Try.func53, Try.ntmps53
    go_wp2_with fail
    go_quiet (fail)
    all_goals
      go_wp2_with fail
      refine (in_true 1 1 5 _ (by omega) (by omega)).mono ?_
      rintro e w1 ⟨rfl, rfl⟩
      go_wp2_with fail
      go_ret
      exact ⟨rfl, below_drewN (HB.out _) _⟩
  · have t1 : decide ((64 : Int) < (tx.size : Int)) = false := by simp; omega
    obtain rfl : pl = 0 := by simp [mostP] at hpl; omega
    obtain rfl : nm = 0 := by simp [hasN] at hnm; omega
    clear h1 h5 htx ht64 hpl hnm
    go_enter Try.func53, Try.ntmps53
    go_wp2_with fail
    go_quiet (fail)
    all_goals
      go_wp2_with fail
      refine (in_true 2 1 5 _ (by omega) (by omega)).mono ?_
      rintro e w1 ⟨rfl, rfl⟩
      go_wp2_with fail
      go_ret
      exact ⟨rfl, below_drewN (HB.out _) _⟩
  · have t1 : decide ((64 : Int) < (tx.size : Int)) = false := by simp; omega
    have t2 : decide ((400 : Int) < (pl : Int)) = false := by simp [mostP] at hpl; simp; omega
    obtain rfl : nm = 0 := by simp [hasN] at hnm; omega
    clear h1 h5 htx ht64 hpl hnm
    go_enter Try.func53, Try.ntmps53
    go_wp2_with fail
    go_quiet (fail)
    all_goals
      go_wp2_with fail
      refine (in_true 3 1 5 _ (by omega) (by omega)).mono ?_
      rintro e w1 ⟨rfl, rfl⟩
      go_wp2_with fail
      go_ret
      exact ⟨rfl, below_drewN (HB.out _) _⟩
  · obtain rfl := size0_eq (show tx.size = 0 by omega)
    have t2 : decide ((400 : Int) < (pl : Int)) = false := by simp [mostP] at hpl; simp; omega
    clear h1 h5 htx ht64 hpl hnm
    go_enter Try.func53, Try.ntmps53
    go_wp2_with fail
    go_quiet (fail)
    all_goals
      go_wp2_with fail
      refine (in_true 4 1 5 _ (by omega) (by omega)).mono ?_
      rintro e w1 ⟨rfl, rfl⟩
      go_wp2_with fail
      go_ret
      exact ⟨rfl, below_drewN (HB.out _) _⟩
  · obtain rfl := size0_eq (show tx.size = 0 by omega)
    have t2 : decide ((400 : Int) < (pl : Int)) = false := by simp [mostP] at hpl; simp; omega
    have t3 : decide ((1 : Int) < (pl : Int)) = false := by simp [mostP] at hpl; simp; omega
    obtain rfl : nm = 0 := by simp [hasN] at hnm; omega
    clear h1 h5 htx ht64 hpl hnm
    go_enter Try.func53, Try.ntmps53
    go_wp2_with fail
    go_quiet (fail)
    all_goals
      go_wp2_with fail
      refine (in_true 5 1 5 _ (by omega) (by omega)).mono ?_
      rintro e w1 ⟨rfl, rfl⟩
      go_wp2_with fail
      go_ret
      exact ⟨rfl, below_drewN (HB.out _) _⟩
end Go.Proofs.Ytmpeckjemgenbaa
