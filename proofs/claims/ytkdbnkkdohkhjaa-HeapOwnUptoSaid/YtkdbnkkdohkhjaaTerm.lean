/- Contracts of the functions of package term (words with tags), used by the laws TermBack, TermApart and TermValue. -/
import Derived.Test.YtkdbnkkdohkhjaaBase
import Derived.Laws.BitsAllLaws
namespace Go.Proofs.Ytkdbnkkdohkhjaa
open Go.RowKit
def validB (t n : Int) : Bool :=
  if t = 0 then n == 0 else if t = 1 then decide (-1152921504606846976 ≤ n ∧ n < 1152921504606846976) else if t = 2 then (n == 0 || n == 1) else decide (0 ≤ n ∧ n < 1152921504606846976)
def U64 (x : Int) : Prop := 0 ≤ x ∧ x < 18446744073709551616
def I64 (x : Int) : Prop := -9223372036854775808 ≤ x ∧ x < 9223372036854775808
def wordV (t n : Int) : Int := (n % 2305843009213693952) * 8 + t
def tagOf (x : Int) : Int := x % 8
def numOf (x : Int) : Int := (wrap64 x) / 8
def okW (t n : Int) : Bool := decide (0 ≤ t ∧ t ≤ 4) && validB t n
def errW (t : Int) : Int := if 0 ≤ t ∧ t ≤ 4 then 2 else 1
def okR (x : Int) : Bool := decide (tagOf x ≤ 4) && validB (tagOf x) (numOf x)

theorem wrap64_eq (x : Int) : wrap64 x = (x + 9223372036854775808) % 18446744073709551616 - 9223372036854775808 := by
  unfold wrap64
  omega
theorem valid_I64 {t n : Int} (h : validB t n = true) : -1152921504606846976 ≤ n ∧ n < 1152921504606846976 := by
  unfold validB at h
  split at h
  · simp at h; omega
  · split at h
    · simpa using h
    · split at h
      · simp at h; omega
      · simp at h; omega
theorem num_word {t n : Int} (h0 : 0 ≤ t) (h4 : t ≤ 4) (hv : validB t n = true) : tagOf (wordV t n) = t ∧ numOf (wordV t n) = n ∧ U64 (wordV t n) := by
  have := valid_I64 hv
  unfold tagOf numOf wordV U64
  rw [wrap64_eq]
  omega
theorem okR_word {t n : Int} (h : okW t n = true) : okR (wordV t n) = true ∧ tagOf (wordV t n) = t ∧ numOf (wordV t n) = n ∧ U64 (wordV t n) := by
  unfold okW at h
  simp only [Bool.and_eq_true, decide_eq_true_eq] at h
  obtain ⟨⟨h0, h4⟩, hv⟩ := h
  obtain ⟨e1, e2, e3⟩ := num_word h0 h4 hv
  refine ⟨?_, e1, e2, e3⟩
  unfold okR
  rw [e1, e2, hv]
  simp [h4]
theorem okW_read {x : Int} (hx : U64 x) (h : okR x = true) : okW (tagOf x) (numOf x) = true ∧ wordV (tagOf x) (numOf x) = x := by
  unfold okR at h
  simp only [Bool.and_eq_true, decide_eq_true_eq] at h
  obtain ⟨h4, hv⟩ := h
  have hb := valid_I64 hv
  refine ⟨?_, ?_⟩
  · unfold okW
    rw [hv]
    have : 0 ≤ tagOf x := by unfold tagOf; omega
    simp [h4, this]
  · unfold wordV tagOf numOf U64 at *
    rw [wrap64_eq] at *
    omega
theorem word_inj {s m t n : Int} (h : okW s m = true) (k : okW t n = true) : wordV s m = wordV t n ↔ s = t ∧ m = n := by
  obtain ⟨_, a1, a2, _⟩ := okR_word h
  obtain ⟨_, b1, b2, _⟩ := okR_word k
  constructor
  · intro e
    rw [e] at a1 a2
    exact ⟨a1.symm.trans b1, a2.symm.trans b2⟩
  · rintro ⟨rfl, rfl⟩
    rfl

theorem and7 {x : Int} (hx : U64 x) : bits .and .u64 x 7 = tagOf x := by
  unfold U64 at hx
  rw [u64_and x 7 hx.1 hx.2 (by omega) (by omega)]
  have : (7 : Int).toNat = 2 ^ 3 - 1 := rfl
  rw [this, Nat.and_two_pow_sub_one_eq_mod]
  unfold tagOf
  omega
theorem or_tag {t n : Int} (h0 : 0 ≤ t) (h4 : t ≤ 4) : bits .or .u64 (IntKind.u64.wrap (IntKind.u64.wrap n * 8)) t = wordV t n := by
  have e : IntKind.u64.wrap (IntKind.u64.wrap n * 8) = (n % 2305843009213693952) * 8 := by
    rw [IntKind.wrap_u64, IntKind.wrap_u64]
    omega
  rw [e, u64_or _ t (by omega) (by omega) h0 (by omega)]
  have h1 : ((n % 2305843009213693952) * 8).toNat = 2 ^ 3 * (n % 2305843009213693952).toNat := by omega
  rw [h1, ← Nat.two_pow_add_eq_or_of_lt (by omega)]
  unfold wordV
  omega

theorem ret_tup2 {k l : IntKind} {a b c d : Int} (h : a = b) (h' : c = d) : Ending.returned (.tuple #[.int k a, .int l c]) = .returned (.tuple #[.int k b, .int l d]) := by rw [h, h']
set_option maxHeartbeats 400000 in
theorem valid_any (t n : Int) (w : World) :
    Calls Try.prog 78 #[.int .i64 t, .int .i64 n] w fun e w' => e = .returned (.bool (validB t n)) ∧ w = w' := by
  by_cases h0 : t = 0
  · subst h0
    go_enter Try.func78, Try.ntmps78
    go_wp2
    go_ret
    exact ⟨ret_bool (by simp [validB]), rfl⟩
  by_cases h1 : t = 1
  · subst h1
    go_enter Try.func78, Try.ntmps78
    go_wp2
    all_goals go_ret
    all_goals exact ⟨ret_bool (by simp [validB]; omega), rfl⟩
  by_cases h2 : t = 2
  · subst h2
    go_enter Try.func78, Try.ntmps78
    go_wp2
    all_goals go_ret
    all_goals exact ⟨ret_bool (by simp [validB]; try omega), rfl⟩
  have g0 : (t == 0) = false := by simp [h0]
  have g1 : (t == 1) = false := by simp [h1]
  have g2 : (t == 2) = false := by simp [h2]
  go_enter Try.func78, Try.ntmps78
  go_wp2
  all_goals go_ret
  all_goals exact ⟨ret_bool (by simp [validB, h0, h1, h2]; omega), rfl⟩
set_option maxHeartbeats 400000 in
theorem word_ok (t n : Int) (w : World) (h : okW t n = true) :
    Calls Try.prog 76 #[.int .i64 t, .int .i64 n] w fun e w' => e = .returned (.tuple #[.int .u64 (wordV t n), .int .i64 0]) ∧ w = w' := by
  unfold okW at h
  simp only [Bool.and_eq_true, decide_eq_true_eq] at h
  obtain ⟨⟨h0, h4⟩, hv⟩ := h
  have hor := or_tag (n := n) h0 h4
  go_enter Try.func76, Try.ntmps76
  go_wp2_with fail
  refine (valid_any _ _ _).mono ?_
  rintro e w' ⟨rfl, rfl⟩
  go_wp2
  go_ret2
  exact ⟨rfl, rfl⟩
set_option maxHeartbeats 400000 in
theorem word_no (t n : Int) (w : World) (h : okW t n = false) :
    Calls Try.prog 76 #[.int .i64 t, .int .i64 n] w fun e w' => e = .returned (.tuple #[.int .u64 0, .int .i64 (errW t)]) ∧ w = w' := by
  by_cases ht : 0 ≤ t ∧ t ≤ 4
  · have he : errW t = 2 := by simp [errW, ht]
    have hv : validB t n = false := by simpa [okW, ht] using h
    rw [he]
    clear h he
    obtain ⟨h0, h4⟩ := ht
    go_enter Try.func76, Try.ntmps76
    go_wp2_with fail
    refine (valid_any _ _ _).mono ?_
    rintro e w' ⟨rfl, rfl⟩
    go_wp2
    go_ret2
    exact ⟨rfl, rfl⟩
  · have he : errW t = 1 := by simp [errW, ht]
    rw [he]
    clear h he
    go_enter Try.func76, Try.ntmps76
    by_cases h0 : t < 0
    · go_wp2_with fail
      go_ret2
      exact ⟨rfl, rfl⟩
    · have h5 : 4 < t := by omega
      clear ht
      go_wp2_with fail
      go_ret2
      exact ⟨rfl, rfl⟩
theorem ret_tup3 {k l m : IntKind} {a b c d x y : Int} (h : a = b) (h' : c = d) (h'' : x = y) : Ending.returned (.tuple #[.int k a, .int l c, .int m x]) = .returned (.tuple #[.int k b, .int l d, .int m y]) := by rw [h, h', h'']
set_option maxHeartbeats 400000 in
theorem read_core (x a y : Int) (w : World) (ha : bits .and .u64 x 7 = a) (h0 : 0 ≤ a) (h7 : a ≤ 4) (hy : wrap64 x = y) (hv : validB a (y / 8) = true) :
    Calls Try.prog 60 #[.int .u64 x] w fun e w' => e = .returned (.tuple #[.int .i64 a, .int .i64 (y / 8), .int .i64 0]) ∧ w = w' := by
  go_enter Try.func60, Try.ntmps60
  go_wp2_with fail
  refine (valid_any _ _ _).mono ?_
  rintro e w' ⟨rfl, rfl⟩
  go_wp2
  go_ret3
  exact ⟨rfl, rfl⟩
set_option maxHeartbeats 400000 in
theorem read_core_no (x a y : Int) (w : World) (ha : bits .and .u64 x 7 = a) (h0 : 0 ≤ a) (h7 : a ≤ 4) (hy : wrap64 x = y) (hv : validB a (y / 8) = false) :
    Calls Try.prog 60 #[.int .u64 x] w fun e w' => e = .returned (.tuple #[.int .i64 0, .int .i64 0, .int .i64 3]) ∧ w = w' := by
  go_enter Try.func60, Try.ntmps60
  go_wp2_with fail
  refine (valid_any _ _ _).mono ?_
  rintro e w' ⟨rfl, rfl⟩
  go_wp2
  go_ret3
  exact ⟨rfl, rfl⟩
set_option maxHeartbeats 400000 in
theorem read_core_big (x a y : Int) (w : World) (ha : bits .and .u64 x 7 = a) (h0 : 4 < a) (h7 : a ≤ 7) (hy : wrap64 x = y) :
    Calls Try.prog 60 #[.int .u64 x] w fun e w' => e = .returned (.tuple #[.int .i64 0, .int .i64 0, .int .i64 3]) ∧ w = w' := by
  go_enter Try.func60, Try.ntmps60
  go_wp2_with fail
  go_ret3
  exact ⟨rfl, rfl⟩
theorem read_ok (x : Int) (w : World) (hx : U64 x) (h : okR x = true) :
    Calls Try.prog 60 #[.int .u64 x] w fun e w' => e = .returned (.tuple #[.int .i64 (tagOf x), .int .i64 (numOf x), .int .i64 0]) ∧ w = w' := by
  unfold okR at h
  simp only [Bool.and_eq_true, decide_eq_true_eq] at h
  exact read_core x (tagOf x) (wrap64 x) w (and7 hx) (by unfold tagOf; omega) h.1 rfl h.2
theorem read_no (x : Int) (w : World) (hx : U64 x) (h : okR x = false) :
    Calls Try.prog 60 #[.int .u64 x] w fun e w' => e = .returned (.tuple #[.int .i64 0, .int .i64 0, .int .i64 3]) ∧ w = w' := by
  by_cases h4 : tagOf x ≤ 4
  · have hv : validB (tagOf x) (numOf x) = false := by simpa [okR, h4] using h
    exact read_core_no x (tagOf x) (wrap64 x) w (and7 hx) (by unfold tagOf; omega) h4 rfl hv
  · exact read_core_big x (tagOf x) (wrap64 x) w (and7 hx) (by omega) (by unfold tagOf; omega) rfl
end Go.Proofs.Ytkdbnkkdohkhjaa
