/- The closed fact heaps. -/
import Derived.Test.YtkdbnkkdohkhjaaHeapBld
namespace Go.Proofs.Ytkdbnkkdohkhjaa
open Go.RowKit
set_option linter.unusedVariables false
def leafA : VT := .node 4 0 ⟨#[97]⟩ 0 (fun _ => .none)
theorem leafA_bld : leafA.bld [] = some ([258, 97], 4) := by decide +kernel
theorem leafA_isV (w : World) (S : Nat → Prop) : leafA.isV w S [.int .i64 4, .int .i64 0, .string ⟨#[97]⟩, .slice none 0 0] := ⟨none, 0, rfl, Nat.le_refl _, by omega, fun _ => rfl, fun h => by omega⟩
set_option maxHeartbeats 1000000 in
theorem heaps_any (w : World) : Calls Try.prog 24 #[] w fun e w' => e = .returned (.bool true) ∧ Below w.heap.size w w' := by
  go_enter Try.func24, Try.ntmps24
  go_wp2_with fail
  refine (Build_any leafA 4 0 ⟨#[97]⟩ none 0 0 (fun _ => True) [] none 0 w (leafA_isV _ _) (by decide +kernel) (Su.nil _) (by simp)).mono ?_
  rintro e w1 (⟨g, x, A, c, hr, rfl, hO, hb⟩ | ⟨hr, _⟩)
  · rw [leafA_bld] at hr
    injection hr with hr
    injection hr with e1 e2
    subst e1 e2
    have hR := hO.rd
    obtain ⟨b, off, rfl, hlt, hc⟩ := hR (by simp)
    have c0 : w1.cell? ⟨b, off, none⟩ = some (.int .u64 258) := by simpa [nth] using hc 0 (by simp) 0 _ rfl
    have c1 : w1.cell? ⟨b, off + 1, none⟩ = some (.int .u64 97) := by simpa [nth] using hc 1 (by simp) 0 _ rfl
    have HB := Lib.hid hb
    clear hR hc hO hb
    go_wp2_with fail
    go_ret
    exact ⟨rfl, HB.out⟩
  · rw [leafA_bld] at hr; cases hr
end Go.Proofs.Ytkdbnkkdohkhjaa
