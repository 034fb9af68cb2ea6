/- roadref3.TagRead at words that are words. -/
import Derived.Test.YtmpeckjemgenbaaTerm
namespace Go.Proofs.Ytmpeckjemgenbaa
open Go.RowKit
set_option linter.unusedVariables false
theorem in_any (n l m : Int) (w : World) : Calls Try.prog 52 #[.int .i64 n, .int .i64 l, .int .i64 m] w fun e w' => e = .returned (.bool (decide (l ≤ n) && decide (n ≤ m))) ∧ w = w' := by
  by_cases h : l ≤ n
  · have h1 : decide (l ≤ n) = true := by simpa using h
    rw [h1]
    clear h
    go_enter Try.func52, Try.ntmps52
    go_wp2
    all_goals go_ret
    all_goals exact ⟨rfl, rfl⟩
  · have h1 : decide (l ≤ n) = false := by simpa using h
    rw [h1]
    clear h
    go_enter Try.func52, Try.ntmps52
    go_wp2
    all_goals go_ret
    all_goals exact ⟨rfl, rfl⟩
theorem in_true (n l m : Int) (w : World) (h1 : l ≤ n) (h2 : n ≤ m) : Calls Try.prog 52 #[.int .i64 n, .int .i64 l, .int .i64 m] w fun e w' => e = .returned (.bool true) ∧ w = w' := by
  have := in_any n l m w
  have e2 : (decide (l ≤ n) && decide (n ≤ m)) = true := by simp; omega
  rw [e2] at this
  exact this
theorem tfits_ok (t n : Int) (w : World) (h : okW t n = true) : Calls Try.prog 50 #[.int .i64 t, .int .i64 n] w fun e w' => e = .returned (.bool true) ∧ w = w' := by
  unfold okW at h
  simp only [Bool.and_eq_true, decide_eq_true_eq] at h
  obtain ⟨⟨h0, h4⟩, hv⟩ := h
  have ht : t = 0 ∨ t = 1 ∨ t = 2 ∨ t = 3 ∨ t = 4 := by omega
  rcases ht with rfl | rfl | rfl | rfl | rfl
  · have hb : 0 ≤ n ∧ n ≤ 0 := by simp [validB] at hv; omega
    have HB := Lib.hid hb
    clear hv hb h0 h4
    go_enter Try.func50, Try.ntmps50
    go_wp2_with fail
    refine (in_true 0 0 4 w (by omega) (by omega)).mono ?_
    rintro e w1 ⟨rfl, rfl⟩
    go_wp2_with fail
    refine (in_true n 0 0 w HB.out.1 HB.out.2).mono ?_
    rintro e w1 ⟨rfl, rfl⟩
    go_wp2_with fail
    go_ret
    exact ⟨rfl, rfl⟩
  · have hb : (-1152921504606846976) ≤ n ∧ n ≤ 1152921504606846975 := by simp [validB] at hv; omega
    have HB := Lib.hid hb
    clear hv hb h0 h4
    go_enter Try.func50, Try.ntmps50
    go_wp2_with fail
    refine (in_true 1 0 4 w (by omega) (by omega)).mono ?_
    rintro e w1 ⟨rfl, rfl⟩
    go_wp2_with fail
    refine (in_true n (-1152921504606846976) 1152921504606846975 w HB.out.1 HB.out.2).mono ?_
    rintro e w1 ⟨rfl, rfl⟩
    go_wp2_with fail
    go_ret
    exact ⟨rfl, rfl⟩
  · have hb : 0 ≤ n ∧ n ≤ 1 := by simp [validB] at hv; omega
    have HB := Lib.hid hb
    clear hv hb h0 h4
    go_enter Try.func50, Try.ntmps50
    go_wp2_with fail
    refine (in_true 2 0 4 w (by omega) (by omega)).mono ?_
    rintro e w1 ⟨rfl, rfl⟩
    go_wp2_with fail
    refine (in_true n 0 1 w HB.out.1 HB.out.2).mono ?_
    rintro e w1 ⟨rfl, rfl⟩
    go_wp2_with fail
    go_ret
    exact ⟨rfl, rfl⟩
  · have hb : 0 ≤ n ∧ n ≤ 1152921504606846975 := by simp [validB] at hv; omega
    have HB := Lib.hid hb
    clear hv hb h0 h4
    go_enter Try.func50, Try.ntmps50
    go_wp2_with fail
    refine (in_true 3 0 4 w (by omega) (by omega)).mono ?_
    rintro e w1 ⟨rfl, rfl⟩
    go_wp2_with fail
    refine (in_true n 0 1152921504606846975 w HB.out.1 HB.out.2).mono ?_
    rintro e w1 ⟨rfl, rfl⟩
    go_wp2_with fail
    go_ret
    exact ⟨rfl, rfl⟩
  · have hb : 0 ≤ n ∧ n ≤ 1152921504606846975 := by simp [validB] at hv; omega
    have HB := Lib.hid hb
    clear hv hb h0 h4
    go_enter Try.func50, Try.ntmps50
    go_wp2_with fail
    refine (in_true 4 0 4 w (by omega) (by omega)).mono ?_
    rintro e w1 ⟨rfl, rfl⟩
    go_wp2_with fail
    refine (in_true n 0 1152921504606846975 w HB.out.1 HB.out.2).mono ?_
    rintro e w1 ⟨rfl, rfl⟩
    go_wp2_with fail
    go_ret
    exact ⟨rfl, rfl⟩
theorem tword_any (t n : Int) (w : World) (h : okW t n = true) : Calls Try.prog 51 #[.int .i64 t, .int .i64 n] w fun e w' => e = .returned (.int .u64 (wordV t n)) ∧ w = w' := by
  have h' := h
  unfold okW at h'
  simp only [Bool.and_eq_true, decide_eq_true_eq] at h'
  obtain ⟨⟨h0, h4⟩, hv⟩ := h'
  have hn := valid_I64 hv
  have HW := Lib.hid (show IntKind.u64.wrap (IntKind.u64.wrap (8 * IntKind.u64.wrap n) + t) = wordV t n from by
    rw [IntKind.wrap_u64, IntKind.wrap_u64, IntKind.wrap_u64]
    unfold wordV
    omega)
  clear h hv
  go_enter Try.func51, Try.ntmps51
  go_wp2_with fail
  go_ret
  exact ⟨congrArg (fun z => Ending.returned (.int .u64 z)) HW.out, rfl⟩
theorem tread_ok (x : Int) (w : World) (hx : U64 x) (h : okR x = true) : Calls Try.prog 35 #[.int .u64 x] w fun e w' => e = .returned (.tuple #[.int .i64 (tagOf x), .int .i64 (numOf x), .bool true]) ∧ w = w' := by
  obtain ⟨hok, hw⟩ := okW_read hx h
  have hn := valid_I64 (t := tagOf x) (n := numOf x) (by unfold okW at hok; simp only [Bool.and_eq_true] at hok; exact hok.2)
  have hpos : tagOf x ≠ 1 → 0 ≤ numOf x := fun h1 => by
    unfold okW at hok
    simp only [Bool.and_eq_true, decide_eq_true_eq] at hok
    obtain ⟨_, hv⟩ := hok
    generalize tagOf x = a at *
    generalize numOf x = b at *
    unfold validB at hv
    by_cases q0 : a = 0
    · simp [q0] at hv; omega
    · by_cases q2 : a = 2
      · simp [q2] at hv; omega
      · simp [q0, h1, q2] at hv; omega
  have HF := Lib.hid (fun W => tfits_ok (tagOf x) (numOf x) W hok)
  have HT := Lib.hid (fun W => tword_any (tagOf x) (numOf x) W hok)
  rw [hw] at HT
  obtain ⟨hx0, hx1⟩ := hx
  have htag : tagOf x = x % 8 := rfl
  have hnum : numOf x = (if x < 9223372036854775808 then x / 8 else x / 8 - 2305843009213693952) := by
    unfold numOf wrap64
    split <;> omega
  clear h hok hw
  have ex : (x != x) = false := by simp
  by_cases h1 : x % 8 = 1
  · by_cases h2 : 1152921504606846976 ≤ x / 8
    · have e2 : decide (1152921504606846976 ≤ x / 8) = true := by simpa using h2
      have q : numOf x = x / 8 - 2305843009213693952 := by rw [hnum, if_neg (by omega)]
      rw [htag, h1, q] at HF HT ⊢
      clear hn hpos htag hnum q
      obtain ⟨y, hy⟩ : ∃ y, x / 8 = y := ⟨_, rfl⟩
      rw [hy] at HF HT ⊢
      have b0 : 0 ≤ y := by omega
      have b1 : y ≤ 2305843009213693951 := by omega
      rw [hy] at e2 h2
      go_enter Try.func35, Try.ntmps35
      go_wp2_with fail
      refine (HF.out _).mono ?_
      rintro e w1 ⟨rfl, rfl⟩
      go_wp2_with fail
      refine (HT.out _).mono ?_
      rintro e w1 ⟨rfl, rfl⟩
      go_wp2_with fail
      go_ret3
      exact ⟨rfl, rfl⟩
    · have e2 : decide (1152921504606846976 ≤ x / 8) = false := by simp; omega
      have q : numOf x = x / 8 := by rw [hnum, if_pos (by omega)]
      rw [htag, h1, q] at HF HT ⊢
      clear hn hpos htag hnum q
      obtain ⟨y, hy⟩ : ∃ y, x / 8 = y := ⟨_, rfl⟩
      rw [hy] at HF HT ⊢
      have b0 : 0 ≤ y := by omega
      have b1 : y ≤ 2305843009213693951 := by omega
      rw [hy] at e2 h2
      go_enter Try.func35, Try.ntmps35
      go_wp2_with fail
      refine (HF.out _).mono ?_
      rintro e w1 ⟨rfl, rfl⟩
      go_wp2_with fail
      refine (HT.out _).mono ?_
      rintro e w1 ⟨rfl, rfl⟩
      go_wp2_with fail
      go_ret3
      exact ⟨rfl, rfl⟩
  · have e1 : (x % 8 == 1) = false := by simpa using h1
    have q : numOf x = x / 8 := by
      have h3 := hpos (by rw [htag]; exact h1)
      rw [hnum] at h3 hn ⊢
      split
      · rfl
      · rename_i h4; rw [if_neg h4] at h3 hn; omega
    rw [htag, q] at HF HT ⊢
    clear hn hpos htag hnum q
    obtain ⟨y, hy⟩ : ∃ y, x / 8 = y := ⟨_, rfl⟩
    obtain ⟨z, hz⟩ : ∃ z, x % 8 = z := ⟨_, rfl⟩
    rw [hy, hz] at HF HT ⊢
    have b0 : 0 ≤ y := by omega
    have b1 : y ≤ 2305843009213693951 := by omega
    have b2 : 0 ≤ z := by omega
    have b3 : z ≤ 7 := by omega
    rw [hz] at e1 h1
    go_enter Try.func35, Try.ntmps35
    go_wp2_with fail
    refine (HF.out _).mono ?_
    rintro e w1 ⟨rfl, rfl⟩
    go_wp2_with fail
    refine (HT.out _).mono ?_
    rintro e w1 ⟨rfl, rfl⟩
    go_wp2_with fail
    go_ret3
    exact ⟨rfl, rfl⟩
end Go.Proofs.Ytmpeckjemgenbaa
