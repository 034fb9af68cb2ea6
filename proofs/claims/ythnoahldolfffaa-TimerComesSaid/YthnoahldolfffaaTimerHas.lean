/- slices.Index and Contains over timers. -/
import Derived.Test.YthnoahldolfffaaTimerOps
import Derived.Laws.StructEq
namespace Go.Proofs.Ythnoahldolfffaa
open Go.RowKit
set_option linter.unusedVariables false
theorem eq_du (a b c d : Int) (w : World) : (Op.equalIn 10000 34 (.agg #[.int .i64 a, .int .i64 b]) (.agg #[.int .i64 c, .int .i64 d])).run Try.prog w = .ok (a == c && b == d) w := by
  rw [show (10000 : Nat) = 9999 + 1 from rfl, run_equalIn_struct w 9999 34 _ _ (by kernel_rfl) (by kernel_rfl)]
  rw [show (Try.prog.fieldsOf 34).toList = [{ name := "At", type := 3, offset := 0, embedded := false, tag := "", pkgPath := "", byteOffset := 0 }, { name := "Id", type := 3, offset := 1, embedded := false, tag := "", pkgPath := "", byteOffset := 8 }] by kernel_rfl]
  go_simp
  by_cases h1 : a = c <;> by_cases h2 : b = d <;> simp [h1, h2]
def IxPost (l : List Du) (x : Du) (w : World) (e : Ending) (w' : World) : Prop := ∃ z : Int, e = .returned (.int .i64 z) ∧ (0 ≤ z ↔ x ∈ l) ∧ Below w.heap.size w w'
set_option maxHeartbeats 2000000 in
theorem indexD_any (A : Option Addr) (c : Nat) (l : List Du) (x : Du) (w : World) (hS : Sd w (.slice A l.length c) l) :
    Calls Try.prog 28 #[.slice A l.length c, .agg #[.int .i64 x.at_, .int .i64 x.id]] w (IxPost l x w) := by
  have HR := Lib.hid (Sd.rd hS)
  obtain ⟨k1, k2⟩ := Sd.cap hS
  have HXE := Lib.hid (show x = ⟨x.at_, x.id⟩ from rfl)
  obtain ⟨xa, hxa⟩ : ∃ xa, xa = x.at_ := ⟨_, rfl⟩
  obtain ⟨xi, hxi⟩ : ∃ xi, xi = x.id := ⟨_, rfl⟩
  rw [← hxa, ← hxi] at HXE ⊢
  clear hS hxa hxi
  have HB0 := Lib.hid (show Below w.heap.size w (w.alloc (.cells #[.int .i64 xa, .int .i64 xi] 34)) from (Below.refl _ _).alloc (Nat.le_refl _) _)
  go_enter Try.func28, Try.ntmps28
  go_wp2_with fail
  go_loopw [4, 5, 8] (fun _ _ i wr => ∃ k : Nat, k ≤ l.length ∧ i = .int .i64 k ∧ (∀ j y, j < k → l[j]? = some y → y ≠ x) ∧ wr.cell? ⟨w.heap.size, 0, none⟩ = some (.int .i64 xa) ∧ wr.cell? ⟨w.heap.size, 1, none⟩ = some (.int .i64 xi) ∧ Below w.heap.size w wr) (fun _ _ i _ => l.length - (intOf i).toNat)
  case atStart => exact ⟨0, Nat.zero_le _, rfl, fun j y hj => by omega, by simp, by simp, HB0.out⟩
  case round =>
    obtain ⟨k, hk, rfl, hlow, x0, x1, hB⟩ := hrel
    have HL := Lib.hid hlow
    have HB := Lib.hid hB
    clear hlow
    by_cases hlt : k < l.length
    · obtain ⟨b, off, rfl, hb0, hcell⟩ := (HR.out.below hB) (by omega)
      obtain ⟨y, hy⟩ : ∃ y, l[k]? = some y := ⟨_, List.getElem?_eq_getElem hlt⟩
      have hyn : nthD l k = y := by simp [nthD, hy]
      have c0 := hcell k hlt 0 _ rfl
      have c1 := hcell k hlt 1 _ rfl
      simp only [Nat.add_zero] at c0
      rw [hyn] at c0 c1
      have HY := Lib.hid hy
      clear hcell hB hyn hy
      obtain ⟨ya, yi⟩ := y
      dsimp only at c0 c1
      have i1 : (0 : Int) ≤ (k : Int) := by omega
      have i2 : (k : Int) < (l.length : Int) := by omega
      by_cases he : xa = ya ∧ xi = yi
      · obtain ⟨rfl, rfl⟩ := he
        go_wp2_with fail
        go_quiet (fail)
        go_wp2_with fail
        go_ret
        exact ⟨k, rfl, ⟨fun _ => by rw [HXE.out]; exact List.mem_of_getElem? HY.out, fun _ => by omega⟩, below_drewN HB.out _⟩
      · have hne : ((xa == ya) && (xi == yi)) = false := by
          rw [Bool.and_eq_false_iff]
          by_cases h1 : xa = ya
          · exact .inr (beq_eq_false_iff_ne.2 (fun h2 => he ⟨h1, h2⟩))
          · exact .inl (beq_eq_false_iff_ne.2 h1)
        have HE := Lib.hid he
        have hq : ∀ w, (Op.equalIn 10000 34 (.agg #[.int .i64 xa, .int .i64 xi]) (.agg #[.int .i64 ya, .int .i64 yi])).run Try.prog w = .ok false w := fun w => by rw [eq_du, hne]
        clear he hne
        go_wp2_with fail
        go_quiet (fail)
        go_wp2_with fail
        go_roundw
        case rel =>
          refine ⟨k + 1, by omega, by go_num, fun j z hj hz => ?_, by simpa using x0, by simpa using x1, below_drewN HB.out _⟩
          by_cases ej : j = k
          · subst ej
            rw [HY.out] at hz
            injection hz with hz
            subst hz
            rw [HXE.out]
            intro e
            injection e with e1 e2
            exact HE.out ⟨e1.symm, e2.symm⟩
          · exact HL.out j z (by omega) hz
        case measure => simp [intOf]; omega
    · obtain rfl : k = l.length := by omega
      go_wp2_with fail
      go_ret
      refine ⟨-1, rfl, ⟨fun h => by omega, fun h => ?_⟩, HB.out⟩
      obtain ⟨j, hj⟩ := List.mem_iff_getElem?.1 h
      exact absurd rfl (HL.out j x (List.getElem?_eq_some_iff.1 hj).1 hj)
theorem containsD_any (A : Option Addr) (c : Nat) (l : List Du) (x : Du) (w : World) (hS : Sd w (.slice A l.length c) l) :
    Calls Try.prog 15 #[.slice A l.length c, .agg #[.int .i64 x.at_, .int .i64 x.id]] w fun e w' => e = .returned (.bool (decide (x ∈ l))) ∧ Below w.heap.size w w' := by
  have HS := Lib.hid hS
  have HB0 := Lib.hid (show Below w.heap.size w (w.alloc (.cells #[.int .i64 x.at_, .int .i64 x.id] 34)) from (Below.refl _ _).alloc (Nat.le_refl _) _)
  clear hS
  go_enter Try.func15, Try.ntmps15
  go_wp2_with fail
  refine (indexD_any A c l x _ (HS.out.below HB0.out)).mono ?_
  rintro e w1 ⟨z, rfl, hz, hb1⟩
  have HB1 := Lib.hid (HB0.out.trans (hb1.mono HB0.out.size))
  have HZ := Lib.hid hz
  clear hz hb1
  go_wp2_with fail
  go_ret
  exact ⟨ret_bool (by rw [Bool.eq_iff_iff]; simp [HZ.out]), HB1.out⟩
end Go.Proofs.Ythnoahldolfffaa
