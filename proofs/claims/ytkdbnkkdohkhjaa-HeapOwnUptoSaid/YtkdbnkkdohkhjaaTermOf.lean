/- Contracts of term.Of, term.Value and term.Small. -/
import Derived.Test.YtkdbnkkdohkhjaaTerm
import Derived.Lib.SmallJoins
namespace Go.Proofs.Ytkdbnkkdohkhjaa
open Go.ChangeShapes Go.WideShapes Go.ChangeAt Go.RowKit

def tagK (k : Int) : Int := if k = 1 then 0 else if k = 2 then 1 else if k = 3 then 2 else if k = 6 then 3 else -1
def kindT (t : Int) : Int := if t = 0 then 1 else if t = 1 then 2 else if t = 2 then 3 else 6
set_option maxHeartbeats 400000 in
theorem tagged_any (k : Int) (w : World) : Calls Try.prog 99 #[.int .i64 k] w fun e w' => e = .returned (.int .i64 (tagK k)) ∧ w = w' := by
  by_cases h1 : k = 1
  · subst h1
    go_enter Try.func99, Try.ntmps99
    go_wp2
    go_ret
    exact ⟨rfl, rfl⟩
  by_cases h2 : k = 2
  · subst h2
    go_enter Try.func99, Try.ntmps99
    go_wp2
    go_ret
    exact ⟨rfl, rfl⟩
  by_cases h3 : k = 3
  · subst h3
    go_enter Try.func99, Try.ntmps99
    go_wp2
    go_ret
    exact ⟨rfl, rfl⟩
  by_cases h6 : k = 6
  · subst h6
    go_enter Try.func99, Try.ntmps99
    go_wp2
    go_ret
    exact ⟨rfl, rfl⟩
  have e1 : (k == 1) = false := by simpa using h1
  have e2 : (k == 2) = false := by simpa using h2
  have e3 : (k == 3) = false := by simpa using h3
  have e6 : (k == 6) = false := by simpa using h6
  have e : tagK k = -1 := by simp [tagK, h1, h2, h3, h6]
  rw [e]
  clear h1 h2 h3 h6 e
  go_enter Try.func99, Try.ntmps99
  go_wp2
  go_ret
  exact ⟨rfl, rfl⟩
/-- the value has a word of its own -/
def ofB (k n : Int) (s : ByteArray) (l : Nat) : Bool := decide (0 ≤ tagK k) && s.toList.isEmpty && decide (l = 0) && okW (tagK k) n
def ofW (k n : Int) (s : ByteArray) (l : Nat) : Int := if ofB k n s l then wordV (tagK k) n else 0
theorem tagK_range (k : Int) : -1 ≤ tagK k ∧ tagK k ≤ 3 := by
  unfold tagK
  repeat' split
  all_goals omega
set_option maxHeartbeats 800000 in
theorem of_any (k n : Int) (s : ByteArray) (a : Option Addr) (l c : Nat) (w : World) :
    Calls Try.prog 92 #[.agg #[.int .i64 k, .int .i64 n, .string s, .slice a l c]] w fun e w' => e = .returned (.tuple #[.int .u64 (ofW k n s l), .bool (ofB k n s l)]) ∧
      w.alloc (.cells #[.int .i64 k, .int .i64 n, .string s, .slice a l c] 90) = w' := by
  have hr := tagK_range k
  by_cases h1 : tagK k < 0
  · have hf : ofB k n s l = false := by simp [ofB]; omega
    have hz : ofW k n s l = 0 := by simp [ofW, hf]
    rw [hf, hz]
    clear hf hz
    go_enter Try.func92, Try.ntmps92
    go_wp2_with fail
    refine (tagged_any _ _).mono ?_
    rintro e w' ⟨rfl, rfl⟩
    go_wp2_with fail
    go_ret2
    exact ⟨rfl, rfl⟩
  by_cases h2 : s.toList.isEmpty = true
  · by_cases h3 : l = 0
    · subst h3
      by_cases h4 : okW (tagK k) n = true
      · have hf : ofB k n s 0 = true := by simp [ofB, h4]; exact ⟨by omega, by simpa using h2⟩
        have hz : ofW k n s 0 = wordV (tagK k) n := by simp [ofW, hf]
        rw [hf, hz]
        clear hf hz
        have h1' : 0 ≤ tagK k := by omega
        have h2' : s.toList = [] := by simpa using h2
        clear h1
        go_enter Try.func92, Try.ntmps92
        go_wp2_with fail
        refine (tagged_any _ _).mono ?_
        rintro e w' ⟨rfl, rfl⟩
        go_wp2_with fail
        refine (word_ok _ _ _ h4).mono ?_
        rintro e w' ⟨rfl, rfl⟩
        go_wp2_with fail
        go_ret2
        exact ⟨rfl, rfl⟩
      · have h4' : okW (tagK k) n = false := by simpa using h4
        have hf : ofB k n s 0 = false := by simp [ofB, h4']
        have hz : ofW k n s 0 = 0 := by simp [ofW, hf]
        have he : (errW (tagK k) == 0) = false := by unfold errW; split <;> rfl
        rw [hf, hz]
        have h1' : 0 ≤ tagK k := by omega
        have h2' : s.toList = [] := by simpa using h2
        clear hf hz h1 h4
        go_enter Try.func92, Try.ntmps92
        go_wp2_with fail
        refine (tagged_any _ _).mono ?_
        rintro e w' ⟨rfl, rfl⟩
        go_wp2_with fail
        refine (word_no _ _ _ h4').mono ?_
        rintro e w' ⟨rfl, rfl⟩
        go_wp2_with fail
        go_ret2
        exact ⟨rfl, rfl⟩
    · have hf : ofB k n s l = false := by simp [ofB, h3]
      have hz : ofW k n s l = 0 := by simp [ofW, hf]
      rw [hf, hz]
      have h1' : 0 ≤ tagK k := by omega
      have h2' : s.toList = [] := by simpa using h2
      have h3' : 0 < l := by omega
      clear hf hz h1 h3
      go_enter Try.func92, Try.ntmps92
      go_wp2_with fail
      refine (tagged_any _ _).mono ?_
      rintro e w' ⟨rfl, rfl⟩
      go_wp2_with fail
      go_ret2
      exact ⟨rfl, rfl⟩
  · have h2' : s.toList.isEmpty = false := by simpa using h2
    have hf : ofB k n s l = false := by simp only [ofB, h2', Bool.and_false, Bool.false_and]
    have hz : ofW k n s l = 0 := by simp [ofW, hf]
    rw [hf, hz]
    have h1' : 0 ≤ tagK k := by omega
    have h2e : ¬ s.toList = [] := by simpa using h2
    clear hf hz h1 h2
    go_enter Try.func92, Try.ntmps92
    go_wp2_with fail
    refine (tagged_any _ _).mono ?_
    rintro e w' ⟨rfl, rfl⟩
    go_wp2_with fail
    go_ret2
    exact ⟨rfl, rfl⟩

theorem tag_lo (x : Int) : 0 ≤ tagOf x ∧ tagOf x ≤ 7 := by unfold tagOf; omega
set_option maxHeartbeats 800000 in
theorem value_no1 (x : Int) (w : World) (hx : U64 x) (h : okR x = false) :
    Calls Try.prog 90 #[.int .u64 x] w fun e w' => e = .returned (.tuple #[.agg #[.int .i64 0, .int .i64 0, .string ⟨#[]⟩, .slice none 0 0], .bool false]) ∧ Below w.heap.size w w' := by
  go_enter Try.func90, Try.ntmps90
  go_wp2_with fail
  refine (read_no _ _ hx h).mono ?_
  rintro e w' ⟨rfl, rfl⟩
  go_wp2_with fail
  refine bodyPost_ret (v := .tuple #[.agg #[.int .i64 0, .int .i64 0, .string ⟨#[]⟩, .slice none 0 0], .bool false]) (by simp [results, Try.results90, go_sem]) rfl ⟨rfl, ?_⟩
  exact ((Below.refl _ _).alloc (Nat.le_refl _) _)
set_option maxHeartbeats 1600000 in
theorem value_go (x t : Int) (w : World) (hx : U64 x) (h : okR x = true) (ht : tagOf x = t) (h0 : 0 ≤ t) (h4 : t ≤ 4) :
    Calls Try.prog 90 #[.int .u64 x] w fun e w' => e = .returned (.tuple (if t = 4 then #[.agg #[.int .i64 0, .int .i64 0, .string ⟨#[]⟩, .slice none 0 0], .bool false] else #[.agg #[.int .i64 (kindT t), .int .i64 (numOf x), .string ⟨#[]⟩, .slice none 0 0], .bool true])) ∧ Below w.heap.size w w' := by
  have H := Lib.hid ht
  clear ht
  have k0 : tagK 1 = 0 := rfl
  have k1 : tagK 2 = 1 := rfl
  have k2 : tagK 3 = 2 := rfl
  have k3 : tagK 6 = 3 := rfl
  have hT : t = 0 ∨ t = 1 ∨ t = 2 ∨ t = 3 ∨ t = 4 := by omega
  clear h0 h4
  rcases hT with rfl | rfl | rfl | rfl | rfl
  all_goals
    go_enter Try.func90, Try.ntmps90
    go_wp2_with fail
    refine (read_ok _ _ hx h).mono ?_
    rintro e w' ⟨rfl, rfl⟩
    rw [H.out]
    go_wp2_with fail
  · go_loop [20] (fun i => ∃ k : Nat, k ≤ 0 ∧ i = .int .i64 k) (fun i => 4 - (intOf i).toNat)
    case atStart => exact ⟨0, Nat.zero_le _, rfl⟩
    case round =>
      obtain ⟨k, hk, rfl⟩ := hrel
      have hk' : k = 0 := by omega
      rcases hk' with rfl
      · go_wp2_with fail
        refine (tagged_any _ _).mono ?_
        rintro e w' ⟨rfl, rfl⟩
        go_wp2_with fail
        refine bodyPost_ret (v := .tuple #[.agg #[.int .i64 1, .int .i64 (numOf x), .string ⟨#[]⟩, .slice none 0 0], .bool true]) (by simp [results, Try.results90, go_sem]) rfl ⟨rfl, ?_⟩
        exact (((Below.refl _ _).alloc (Nat.le_refl _) _).alloc (by simp) _)
  · go_loop [20] (fun i => ∃ k : Nat, k ≤ 1 ∧ i = .int .i64 k) (fun i => 4 - (intOf i).toNat)
    case atStart => exact ⟨0, Nat.zero_le _, rfl⟩
    case round =>
      obtain ⟨k, hk, rfl⟩ := hrel
      have hk' : k = 0 ∨ k = 1 := by omega
      rcases hk' with rfl | rfl
      · go_wp2_with fail
        refine (tagged_any _ _).mono ?_
        rintro e w' ⟨rfl, rfl⟩
        go_wp2_with fail
        go_round
        case rel => exact ⟨1, by omega, rfl⟩
        case measure => simp [intOf]
      · go_wp2_with fail
        refine (tagged_any _ _).mono ?_
        rintro e w' ⟨rfl, rfl⟩
        go_wp2_with fail
        refine bodyPost_ret (v := .tuple #[.agg #[.int .i64 2, .int .i64 (numOf x), .string ⟨#[]⟩, .slice none 0 0], .bool true]) (by simp [results, Try.results90, go_sem]) rfl ⟨rfl, ?_⟩
        exact (((Below.refl _ _).alloc (Nat.le_refl _) _).alloc (by simp) _)
  · go_loop [20] (fun i => ∃ k : Nat, k ≤ 2 ∧ i = .int .i64 k) (fun i => 4 - (intOf i).toNat)
    case atStart => exact ⟨0, Nat.zero_le _, rfl⟩
    case round =>
      obtain ⟨k, hk, rfl⟩ := hrel
      have hk' : k = 0 ∨ k = 1 ∨ k = 2 := by omega
      rcases hk' with rfl | rfl | rfl
      · go_wp2_with fail
        refine (tagged_any _ _).mono ?_
        rintro e w' ⟨rfl, rfl⟩
        go_wp2_with fail
        go_round
        case rel => exact ⟨1, by omega, rfl⟩
        case measure => simp [intOf]
      · go_wp2_with fail
        refine (tagged_any _ _).mono ?_
        rintro e w' ⟨rfl, rfl⟩
        go_wp2_with fail
        go_round
        case rel => exact ⟨2, by omega, rfl⟩
        case measure => simp [intOf]
      · go_wp2_with fail
        refine (tagged_any _ _).mono ?_
        rintro e w' ⟨rfl, rfl⟩
        go_wp2_with fail
        refine bodyPost_ret (v := .tuple #[.agg #[.int .i64 3, .int .i64 (numOf x), .string ⟨#[]⟩, .slice none 0 0], .bool true]) (by simp [results, Try.results90, go_sem]) rfl ⟨rfl, ?_⟩
        exact (((Below.refl _ _).alloc (Nat.le_refl _) _).alloc (by simp) _)
  · go_loop [20] (fun i => ∃ k : Nat, k ≤ 3 ∧ i = .int .i64 k) (fun i => 4 - (intOf i).toNat)
    case atStart => exact ⟨0, Nat.zero_le _, rfl⟩
    case round =>
      obtain ⟨k, hk, rfl⟩ := hrel
      have hk' : k = 0 ∨ k = 1 ∨ k = 2 ∨ k = 3 := by omega
      rcases hk' with rfl | rfl | rfl | rfl
      · go_wp2_with fail
        refine (tagged_any _ _).mono ?_
        rintro e w' ⟨rfl, rfl⟩
        go_wp2_with fail
        go_round
        case rel => exact ⟨1, by omega, rfl⟩
        case measure => simp [intOf]
      · go_wp2_with fail
        refine (tagged_any _ _).mono ?_
        rintro e w' ⟨rfl, rfl⟩
        go_wp2_with fail
        go_round
        case rel => exact ⟨2, by omega, rfl⟩
        case measure => simp [intOf]
      · go_wp2_with fail
        refine (tagged_any _ _).mono ?_
        rintro e w' ⟨rfl, rfl⟩
        go_wp2_with fail
        go_round
        case rel => exact ⟨3, by omega, rfl⟩
        case measure => simp [intOf]
      · go_wp2_with fail
        refine (tagged_any _ _).mono ?_
        rintro e w' ⟨rfl, rfl⟩
        go_wp2_with fail
        refine bodyPost_ret (v := .tuple #[.agg #[.int .i64 6, .int .i64 (numOf x), .string ⟨#[]⟩, .slice none 0 0], .bool true]) (by simp [results, Try.results90, go_sem]) rfl ⟨rfl, ?_⟩
        exact (((Below.refl _ _).alloc (Nat.le_refl _) _).alloc (by simp) _)
  · go_loop [20] (fun i => ∃ k : Nat, k ≤ 4 ∧ i = .int .i64 k) (fun i => 4 - (intOf i).toNat)
    case atStart => exact ⟨0, Nat.zero_le _, rfl⟩
    case round =>
      obtain ⟨k, hk, rfl⟩ := hrel
      have hk' : k = 0 ∨ k = 1 ∨ k = 2 ∨ k = 3 ∨ k = 4 := by omega
      rcases hk' with rfl | rfl | rfl | rfl | rfl
      · go_wp2_with fail
        refine (tagged_any _ _).mono ?_
        rintro e w' ⟨rfl, rfl⟩
        go_wp2_with fail
        go_round
        case rel => exact ⟨1, by omega, rfl⟩
        case measure => simp [intOf]
      · go_wp2_with fail
        refine (tagged_any _ _).mono ?_
        rintro e w' ⟨rfl, rfl⟩
        go_wp2_with fail
        go_round
        case rel => exact ⟨2, by omega, rfl⟩
        case measure => simp [intOf]
      · go_wp2_with fail
        refine (tagged_any _ _).mono ?_
        rintro e w' ⟨rfl, rfl⟩
        go_wp2_with fail
        go_round
        case rel => exact ⟨3, by omega, rfl⟩
        case measure => simp [intOf]
      · go_wp2_with fail
        refine (tagged_any _ _).mono ?_
        rintro e w' ⟨rfl, rfl⟩
        go_wp2_with fail
        go_round
        case rel => exact ⟨4, by omega, rfl⟩
        case measure => simp [intOf]
      · go_wp2_with fail
        refine bodyPost_ret (v := .tuple #[.agg #[.int .i64 0, .int .i64 0, .string ⟨#[]⟩, .slice none 0 0], .bool false]) (by simp [results, Try.results90, go_sem]) rfl ⟨rfl, ?_⟩
        exact (((Below.refl _ _).alloc (Nat.le_refl _) _).alloc (by simp) _)


theorem value_yes (x : Int) (w : World) (hx : U64 x) (h : okR x = true) (h3 : tagOf x ≤ 3) :
    Calls Try.prog 90 #[.int .u64 x] w fun e w' => e = .returned (.tuple #[.agg #[.int .i64 (kindT (tagOf x)), .int .i64 (numOf x), .string ⟨#[]⟩, .slice none 0 0], .bool true]) ∧ Below w.heap.size w w' := by
  refine (value_go x (tagOf x) w hx h rfl (tag_lo x).1 (by omega)).mono fun e w' ⟨he, hb⟩ => ⟨?_, hb⟩
  rw [he, if_neg (by omega)]
theorem value_no (x : Int) (w : World) (hx : U64 x) (h : okR x = false ∨ ¬ tagOf x ≤ 3) :
    Calls Try.prog 90 #[.int .u64 x] w fun e w' => e = .returned (.tuple #[.agg #[.int .i64 0, .int .i64 0, .string ⟨#[]⟩, .slice none 0 0], .bool false]) ∧ Below w.heap.size w w' := by
  by_cases hk : okR x = true
  · have h4 : tagOf x = 4 := by
      have h' := hk
      unfold okR at h'
      simp only [Bool.and_eq_true, decide_eq_true_eq] at h'
      rcases h with h | h
      · rw [hk] at h; cases h
      · omega
    refine (value_go x (tagOf x) w hx hk rfl (tag_lo x).1 (by omega)).mono fun e w' ⟨he, hb⟩ => ⟨?_, hb⟩
    rw [he, if_pos h4]
  · exact value_no1 x w hx (by simpa using hk)
end Go.Proofs.Ytkdbnkkdohkhjaa
