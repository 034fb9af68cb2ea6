/- heap.hasNum and heap.valid. -/
import Derived.Test.YtkdbnkkdohkhjaaHeapPlain
import Derived.Test.YtkdbnkkdohkhjaaU64
namespace Go.Proofs.Ytkdbnkkdohkhjaa
open Go.RowKit
set_option linter.unusedVariables false
theorem hasNum_any (k : Int) (w : World) : Calls Try.prog 64 #[.int .i64 k] w fun e w' => e = .returned (.bool (hasN k)) ∧ w = w' := by
  by_cases h1 : k = 1
  · subst h1
    go_enter Try.func64, Try.ntmps64
    go_wp2_with fail
    go_ret
    exact ⟨rfl, rfl⟩
  have e1 : (k == 1) = false := by simpa using h1
  by_cases h4 : k = 4
  · subst h4
    go_enter Try.func64, Try.ntmps64
    go_wp2_with fail
    go_ret
    exact ⟨rfl, rfl⟩
  have e4 : (k == 4) = false := by simpa using h4
  clear h1 h4
  go_enter Try.func64, Try.ntmps64
  go_wp2_with fail
  go_ret
  exact ⟨ret_bool (by simp [hasN, e1, e4]), rfl⟩
theorem text_empty {s : ByteArray} : s.toList = [] ↔ s.size = 0 := by
  rw [ByteArray.toList_eq, ← List.length_eq_zero_iff]
  exact Iff.rfl
theorem okOb_mk {k n : Int} {t : ByteArray} {p : List Nat} {b : Bool} (h : okOb ⟨k, n, t, p⟩ = true ↔ b = true) : b = okOb ⟨k, n, t, p⟩ := by
  cases b <;> cases hh : okOb ⟨k, n, t, p⟩ <;> simp_all
set_option maxHeartbeats 4000000 in
set_option maxRecDepth 100000 in
theorem hvalid_any (o : Ob) (at_ : Int) (pA : Option Addr) (pc : Nat) (w : World) :
    Calls Try.prog 65 #[.agg #[.int .i64 at_, .int .i64 o.kind, .int .i64 o.num, .string o.text, .slice pA o.parts.length pc]] w fun e w' => e = .returned (.bool (okOb o)) ∧ Below w.heap.size w w' := by
  obtain ⟨k, n, t, p⟩ := o
  dsimp only
  generalize hpl : p.length = pl
  have HPL := Lib.hid hpl
  clear hpl
  by_cases h1 : k = 1
  · subst h1
    go_enter Try.func65, Try.ntmps65
    go_wp2_with (go_at_call 64; refine (hasNum_any _ _).mono ?_; rintro e w' ⟨rfl, rfl⟩)
    all_goals go_ret
    all_goals exact ⟨ret_bool (by have hp := HPL.out; refine okOb_mk ?_; rw [okOb_iff]; simp_all [hasN, mostP, text_empty]; try omega), (Below.refl _ _).alloc (Nat.le_refl _) _⟩
  by_cases h2 : k = 2
  · subst h2
    go_enter Try.func65, Try.ntmps65
    go_wp2_with (go_at_call 64; refine (hasNum_any _ _).mono ?_; rintro e w' ⟨rfl, rfl⟩)
    all_goals go_ret
    all_goals exact ⟨ret_bool (by have hp := HPL.out; refine okOb_mk ?_; rw [okOb_iff]; simp_all [hasN, mostP, text_empty]; try omega), (Below.refl _ _).alloc (Nat.le_refl _) _⟩
  by_cases h3 : k = 3
  · subst h3
    go_enter Try.func65, Try.ntmps65
    go_wp2_with (go_at_call 64; refine (hasNum_any _ _).mono ?_; rintro e w' ⟨rfl, rfl⟩)
    all_goals go_ret
    all_goals exact ⟨ret_bool (by have hp := HPL.out; refine okOb_mk ?_; rw [okOb_iff]; simp_all [hasN, mostP, text_empty]; try omega), (Below.refl _ _).alloc (Nat.le_refl _) _⟩
  by_cases h4 : k = 4
  · subst h4
    go_enter Try.func65, Try.ntmps65
    go_wp2_with (go_at_call 64; refine (hasNum_any _ _).mono ?_; rintro e w' ⟨rfl, rfl⟩)
    all_goals go_ret
    all_goals exact ⟨ret_bool (by have hp := HPL.out; refine okOb_mk ?_; rw [okOb_iff]; simp_all [hasN, mostP, text_empty]; try omega), (Below.refl _ _).alloc (Nat.le_refl _) _⟩
  by_cases h5 : k = 5
  · subst h5
    go_enter Try.func65, Try.ntmps65
    go_wp2_with (go_at_call 64; refine (hasNum_any _ _).mono ?_; rintro e w' ⟨rfl, rfl⟩)
    all_goals go_ret
    all_goals exact ⟨ret_bool (by have hp := HPL.out; refine okOb_mk ?_; rw [okOb_iff]; simp_all [hasN, mostP, text_empty]; try omega), (Below.refl _ _).alloc (Nat.le_refl _) _⟩
  go_enter Try.func65, Try.ntmps65
  go_wp2_with (go_at_call 64; refine (hasNum_any _ _).mono ?_; rintro e w' ⟨rfl, rfl⟩)
  all_goals go_ret
  all_goals exact ⟨ret_bool (by refine okOb_mk ?_; rw [okOb_iff]; simp; omega), (Below.refl _ _).alloc (Nat.le_refl _) _⟩
end Go.Proofs.Ytkdbnkkdohkhjaa
