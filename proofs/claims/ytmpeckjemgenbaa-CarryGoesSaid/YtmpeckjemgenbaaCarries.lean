/- roadkeep3.carries. -/
import Derived.Test.YtmpeckjemgenbaaCarryOver
namespace Go.Proofs.Ytmpeckjemgenbaa
open Go.RowKit
set_option linter.unusedVariables false
theorem cr_from : wordsO ⟨2, 0, ⟨#[97]⟩, []⟩ = [258, 97] := by decide
theorem cr_to : wordsO ⟨2, 0, ⟨#[]⟩, []⟩ = [2] := by decide
theorem cr_car : carW [258, 97] 40 4 ⟨[2], [], []⟩ = some (12, ⟨[2, 258, 97], [(0, 1)], []⟩) := by kernel_rfl
theorem cr_okf : OkH [258, 97] := ⟨by simp, [⟨2, 0, ⟨#[97]⟩, []⟩], by rw [flatO_cons, flatO_nil, cr_from]; rfl, fun o ho => by
  simp at ho
  subst ho
  exact ⟨by decide, by decide, fun x hx => by cases hx⟩⟩
theorem cr_okt : OkH [2] := ⟨by simp, [⟨2, 0, ⟨#[]⟩, []⟩], by rw [flatO_cons, flatO_nil, cr_to]; rfl, fun o ho => by
  simp at ho
  subst ho
  exact ⟨by decide, by decide, fun x hx => by cases hx⟩⟩
set_option maxHeartbeats 1000000 in
theorem carries_any (w : World) : Calls Try.prog 22 #[] w fun e w' => e = .returned (.bool true) ∧ Below w.heap.size w w' := by
  obtain ⟨W, hW⟩ : ∃ W, W = (w.alloc (.cells #[.int .u64 258, .int .u64 97] 34)).alloc (.cells #[.int .u64 2] 34) := ⟨_, rfl⟩
  have HB := Lib.hid (show Below w.heap.size w W by rw [hW]; exact ((Below.refl _ _).alloc (Nat.le_refl _) _).alloc (by simp) _)
  have hF : Su W (.slice (some ⟨w.heap.size, 0, none⟩) ([258, 97] : List Nat).length 2) [258, 97] := ⟨_, 2, rfl, by simp, by omega, (fun h => by cases h), fun _ => ⟨w.heap.size, 0, rfl, by rw [hW]; simp; omega, fun k hk j u hu => by
    rw [hW]
    cases j with
    | succ j => simp [uC] at hu
    | zero =>
      obtain rfl | rfl : k = 0 ∨ k = 1 := by simp at hk; omega
      · simpa [uC, nth, go_sem] using hu
      · simpa [uC, nth, go_sem] using hu⟩⟩
  have hT : Su W (.slice (some ⟨w.heap.size + 1, 0, none⟩) ([2] : List Nat).length 1) [2] := ⟨_, 1, rfl, by simp, by omega, (fun h => by cases h), fun _ => ⟨w.heap.size + 1, 0, rfl, by rw [hW]; simp, fun k hk j u hu => by
    rw [hW]
    cases j with
    | succ j => simp [uC] at hu
    | zero =>
      obtain rfl : k = 0 := by simp at hk; omega
      simpa [uC, nth, go_sem] using hu⟩⟩
  have HO := Lib.hid (over_any [258, 97] [2] (some ⟨w.heap.size, 0, none⟩) (some ⟨w.heap.size + 1, 0, none⟩) 2 1 4 W hF hT (fun x hx => by simp at hx; omega) (fun x hx => by simp at hx; omega) (by simp) (by simp) (by omega))
  clear hF hT
  go_enter Try.func22, Try.ntmps22
  go_wp2_with fail
  rw [← hW]
  clear hW
  refine HO.out.mono ?_
  rintro e w1 (⟨hno, _⟩ | ⟨_, _, q, st, hc, v1, v2, rfl, h1, h2, hb⟩)
  · exact (hno ⟨cr_okf, cr_okt, _, _, cr_car⟩).elim
  · rw [cr_car] at hc
    simp only [Option.some.injEq, Prod.mk.injEq] at hc
    obtain ⟨rfl, rfl⟩ := hc
    have HB1 := Lib.hid (HB.out.trans (hb.mono HB.out.size))
    obtain ⟨A, c, rfl, _, _, _⟩ := own_any h2
    obtain ⟨b, off, rfl, hl, hcell⟩ := h2.rd (by simp)
    have c1 : w1.cell? ⟨b, off + 1, none⟩ = some (.int .u64 258) := by simpa [uC, nth] using hcell 1 (by simp) 0 _ rfl
    obtain ⟨A1, c1', rfl, _, _, _⟩ := own_any h1
    clear h1 h2 hb hcell
    go_wp2_with fail
    go_ret
    exact ⟨rfl, HB1.out⟩
end Go.Proofs.Ytmpeckjemgenbaa
