/- timer.Next. -/
import Derived.Test.YthnoahldolfffaaTimerOps
namespace Go.Proofs.Ythnoahldolfffaa
open Go.RowKit
set_option linter.unusedVariables false
/-- Next of right timers -/
def NextPost (now : Int) (l : List Du) (w : World) (e : Ending) (w' : World) : Prop := (∃ a k : Int, e = .returned (.tuple #[.int .i64 a, .int .i64 k]) ∧ (l = [] → k = 4) ∧ (∀ x, l[0]? = some x → k = 0 ∧ a = x.at_ - now)) ∧ Below w.heap.size w w'
set_option maxHeartbeats 2000000 in
theorem next_ok (now : Int) (A : Option Addr) (c : Nat) (l : List Du) (w : World) (hS : Sd w (.slice A l.length c) l) (hok : OkTl now l) :
    Calls Try.prog 11 #[.agg #[.int .i64 now, .slice A l.length c]] w (NextPost now l w) := by
  have HS := Lib.hid hS
  have HOK := Lib.hid hok
  obtain ⟨k1, k2⟩ := Sd.cap hS
  have HB0 := Lib.hid (show Below w.heap.size w (w.alloc (.cells #[.int .i64 now, .slice A l.length c] 24)) from (Below.refl _ _).alloc (Nat.le_refl _) _)
  obtain ⟨n0, n1⟩ := hok.2.1
  clear hS hok
  go_enter Try.func11, Try.ntmps11
  go_wp2_with fail
  refine (check_any now A l.length c (nthD l) _ k1 k2 (HS.out.below HB0.out).rd).mono ?_
  rintro e w1 ⟨x, rfl, hx, hb1⟩
  obtain rfl : x = 0 := hx.2 HOK.out
  have b0 : w1.cell? ⟨w.heap.size, 0, none⟩ = some (.int .i64 now) := (hb1.cell (p := ⟨_, _, none⟩) (by simp)).trans (by simp)
  have b1 : w1.cell? ⟨w.heap.size, 1, none⟩ = some (.slice A l.length c) := (hb1.cell (p := ⟨_, _, none⟩) (by simp)).trans (by simp)
  have HB1 := Lib.hid (HB0.out.trans (hb1.mono HB0.out.size))
  clear hx hb1
  cases l with
  | nil =>
    go_wp2_with fail
    go_ret2
    exact ⟨⟨0, 4, rfl, fun _ => rfl, fun x hx => by simp at hx⟩, HB1.out⟩
  | cons y l =>
    obtain ⟨b, off, rfl, hb, hcell⟩ := (Sd.rd HS.out) (by simp)
    have c0 : w1.cell? ⟨b, off, none⟩ = some (.int .i64 y.at_) := (HB1.out.cell (p := ⟨b, _, none⟩) hb).trans (by simpa [duC, nthD] using hcell 0 (by simp) 0 _ rfl)
    have hy := (HOK.out.2.2 0 (by simp)).1
    have hy0 : nthD (y :: l) 0 = y := rfl
    rw [hy0] at hy
    obtain ⟨h1, h2⟩ := hy
    obtain ⟨ya, yi⟩ := y
    dsimp only at c0 h1 h2
    have e1 : (((⟨ya, yi⟩ :: l : List Du).length : Int) == 0) = false := by rw [beq_eq_false_iff_ne, List.length_cons]; omega
    have i2 : (0 : Int) < ((⟨ya, yi⟩ :: l : List Du).length : Int) := by rw [List.length_cons]; omega
    obtain ⟨N, hN⟩ : ∃ N, N = (⟨ya, yi⟩ :: l : List Du).length := ⟨_, rfl⟩
    rw [← hN] at b1 e1 i2 ⊢
    have e2 : (N == 0) = false := by rw [beq_eq_false_iff_ne]; omega
    clear hcell hN hy0
    go_wp2_with fail
    go_quiet (fail)
    go_wp2_with fail
    go_ret2
    exact ⟨⟨ya - now, 0, rfl, fun h => by simp at h, fun x hx => by simp at hx; subst hx; exact ⟨rfl, rfl⟩⟩, below_drewN HB1.out _⟩
end Go.Proofs.Ythnoahldolfffaa
