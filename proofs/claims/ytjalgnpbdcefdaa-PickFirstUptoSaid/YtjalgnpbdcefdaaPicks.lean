/- roadkeep3.picks: the fixed box and pattern. -/
import Derived.Test.YtjalgnpbdcefdaaPickChoose
namespace Go.Proofs.Ytjalgnpbdcefdaa
open Go.RowKit
set_option linter.unusedVariables false
def pkV : VT := .node 2 3 ⟨#[]⟩ 0 (fun _ => .none)
def pkP : VT := .node 3 3 ⟨#[]⟩ 0 (fun _ => .none)
def pkL : LT := ⟨1, 0, 0, 0, ⟨#[]⟩, pkV⟩
theorem pk_first : firstOf (fun _ => pkP) pkL.says 1 = 0 := by
  have h1 : pkL.says = pkV := says_val (by simp [pkL])
  rw [h1]
  have h2 : hitB pkP pkV = true := by
    unfold hitB pkP pkV
    rw [bind_node]
    simp [litB]
  simp [firstOf, h2]
theorem pk_ok : OkBox 1 0 (fun _ => pkL) := ⟨by omega, by omega, by omega, fun i _ => by simp [fitsB, pkL]⟩
theorem picks_any (w : World) : Calls Try.prog 7 #[] w fun e w' => e = .returned (.bool true) ∧ Below w.heap.size w w' := by
  go_enter Try.func7, Try.ntmps7
  go_wp2_with fail
  obtain ⟨W, hW⟩ : ∃ W, W = ((w.alloc (.cells #[.int .i64 1, .int .i64 0, .int .i64 0, .int .i64 0, .string ⟨#[]⟩, .int .i64 2, .int .i64 3, .string ⟨#[]⟩, .slice none 0 0] 44)).alloc (.cells #[.slice (some ⟨w.heap.size, 0, none⟩) 1 1, .int .i64 0] 38)).alloc (.cells #[.int .i64 3, .int .i64 3, .string ⟨#[]⟩, .slice none 0 0] 24) := ⟨_, rfl⟩
  have HB := Lib.hid (show Below w.heap.size w W by rw [hW]; exact (((Below.refl _ _).alloc (Nat.le_refl _) _).alloc (by simp) _).alloc (by simp; omega) _)
  have hR : RdL W (fun _ => True) (some ⟨w.heap.size, 0, none⟩) 1 (fun _ => pkL) := fun _ => ⟨w.heap.size, 0, rfl, by rw [hW]; simp; omega, trivial, fun _ => [.int .i64 1, .int .i64 0, .int .i64 0, .int .i64 0, .string ⟨#[]⟩, .int .i64 2, .int .i64 3, .string ⟨#[]⟩, .slice none 0 0], fun i hi => by
    obtain rfl : i = 0 := by omega
    refine ⟨⟨2, 3, ⟨#[]⟩, none, 0, 0, rfl, leaf_V W _ 2 3⟩, fun j u hu => ?_⟩
    rw [hW]
    match j, hu with
    | 0, hu => simpa [go_sem] using hu
    | 1, hu => simpa [go_sem] using hu
    | 2, hu => simpa [go_sem] using hu
    | 3, hu => simpa [go_sem] using hu
    | 4, hu => simpa [go_sem] using hu
    | 5, hu => simpa [go_sem] using hu
    | 6, hu => simpa [go_sem] using hu
    | 7, hu => simpa [go_sem] using hu
    | 8, hu => simpa [go_sem] using hu
    | j + 9, hu => simp at hu⟩
  have hP : RdV W (fun _ => True) (some ⟨w.heap.size + 1 + 1, 0, none⟩) 1 (fun _ => pkP) := fun _ => ⟨w.heap.size + 1 + 1, 0, rfl, by rw [hW]; simp, trivial, fun _ => [.int .i64 3, .int .i64 3, .string ⟨#[]⟩, .slice none 0 0], fun i hi => by
    obtain rfl : i = 0 := by omega
    refine ⟨leaf_V W _ 3 3, fun j u hu => ?_⟩
    rw [hW]
    match j, hu with
    | 0, hu => simpa [go_sem] using hu
    | 1, hu => simpa [go_sem] using hu
    | 2, hu => simpa [go_sem] using hu
    | 3, hu => simpa [go_sem] using hu
    | j + 4, hu => simp at hu⟩
  have HC := Lib.hid (choose_any 1 1 _ 0 (fun _ => pkL) 1 1 _ (fun _ => pkP) _ _ W (by omega) (by omega) hR (fun i _ => by simp [pkL, pkV, VT.many, sumTo]) hP (by omega) (fun i _ => by simp [pkP, VT.many, sumTo]))
  clear hR hP
  rw [← hW]
  clear hW
  refine HC.out.mono ?_
  rintro e w1 ⟨hb1, ⟨hno, _⟩ | ⟨_, ⟨i, hai, hin, _, _, A', c', xs, rfl, _, _, _, hisl⟩ | ⟨hlow, _⟩⟩⟩
  · exact (hno pk_ok).elim
  · obtain ⟨k2, m2, s2, A3, n3, c3, rfl, hv3⟩ := hisl
    obtain ⟨A4, c4, hc4, _⟩ := hv3
    injection hc4 with q1 hc4
    injection hc4 with q2 hc4
    injection q2 with _ q2
    subst q2
    rw [pk_first]
    have HB1 := Lib.hid (HB.out.trans (hb1.mono HB.out.size))
    clear hb1 hc4 q1
    dsimp only [pkL]
    go_wp2_with fail
    go_ret
    exact ⟨rfl, (HB1.out.alloc HB1.out.size _).alloc (by have := HB1.out.size; simp; omega) _⟩
  · exact absurd (hlow 0 (by simp) (by omega)) (by rw [pk_first]; omega)
end Go.Proofs.Ytjalgnpbdcefdaa
