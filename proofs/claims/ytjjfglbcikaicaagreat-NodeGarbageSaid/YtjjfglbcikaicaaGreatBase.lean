/- Plain lemmas and the contracts of slices.IndexFunc and slices.ContainsFunc over error numbers, and of the law package's helper good. -/
import Derived.Test.YtjjfglbcikaicaaGreatRows
import Derived.WalkKit
import Derived.ProofKit
import Derived.OpenShut
import Derived.Lib.Hide
namespace Go.Proofs.YtjjfglbcikaicaaGreat
open Go.RowKit

theorem ret_bool {a b : Bool} (h : a = b) : Ending.returned (.bool a) = .returned (.bool b) := by rw [h]
theorem ret_int {k : IntKind} {a b : Int} (h : a = b) : Ending.returned (.int k a) = .returned (.int k b) := by rw [h]

/-- the least k below n with p k, or -1 -/
def ixOf (p : Nat → Bool) : Nat → Int
  | 0 => -1
  | n + 1 => if 0 ≤ ixOf p n then ixOf p n else if p n then n else -1
theorem ixOf_none {p : Nat → Bool} {n : Nat} (h : ∀ j, j < n → p j = false) : ixOf p n = -1 := by
  induction n with
  | zero => rfl
  | succ n ih =>
    have e := ih fun j hj => h j (by omega)
    simp [ixOf, e, h n (by omega)]
theorem ixOf_found {p : Nat → Bool} {n k : Nat} (hk : k < n) (hp : p k = true) (h : ∀ j, j < k → p j = false) : ixOf p n = k := by
  induction n with
  | zero => omega
  | succ n ih =>
    by_cases e : k = n
    · subst e
      have e := ixOf_none h
      simp [ixOf, e, hp]
    · have e' := ih (by omega)
      have : (0 : Int) ≤ k := by omega
      simp [ixOf, e', this]
theorem ixOf_cases (p : Nat → Bool) (n : Nat) : (ixOf p n = -1 ∧ ∀ j, j < n → p j = false) ∨ ∃ k : Nat, ixOf p n = k ∧ k < n ∧ p k = true ∧ ∀ j, j < k → p j = false := by
  induction n with
  | zero => exact .inl ⟨rfl, fun j hj => by omega⟩
  | succ n ih =>
    rcases ih with ⟨e, h⟩ | ⟨k, e, hk, hp, h⟩
    · by_cases hp : p n = true
      · exact .inr ⟨n, by simp [ixOf, e, hp], by omega, hp, h⟩
      · have hp' : p n = false := by simpa using hp
        refine .inl ⟨by simp [ixOf, e, hp'], fun j hj => ?_⟩
        by_cases e : j = n
        · rw [e]; exact hp'
        · exact h j (by omega)
    · have : (0 : Int) ≤ k := by omega
      exact .inr ⟨k, by simp [ixOf, e, this], by omega, hp, h⟩

/-- a function with a body is entered -/
def Enters (P : Program) (f : Nat) : Prop := ∀ (args : Array Value) (W : World), (callFunc f args).run P W = .ok (.enter f args) W

def anyOf (p : Nat → Bool) (n : Nat) : Bool := decide (0 ≤ ixOf p n)
theorem anyOf_true {p : Nat → Bool} {n : Nat} : anyOf p n = true ↔ ∃ k, k < n ∧ p k = true := by
  unfold anyOf
  rcases ixOf_cases p n with ⟨e, h⟩ | ⟨k, e, hk, hp, _⟩
  · simp only [e, decide_eq_true_eq]
    constructor
    · intro h; omega
    · rintro ⟨k, hk, hp⟩; rw [h k hk] at hp; cases hp
  · simp only [e, decide_eq_true_eq]
    exact ⟨fun _ => ⟨k, hk, hp⟩, fun _ => by omega⟩
theorem anyOf_false {p : Nat → Bool} {n : Nat} : anyOf p n = false ↔ ∀ k, k < n → p k = false := by
  rw [← Bool.not_eq_true, anyOf_true]
  simp

set_option maxHeartbeats 400000 in
theorem ixE_any (I : World → Prop) (A : Option Addr) (b off n c f : Nat) (cp : Array Value) (g0 : Nat → Value) (p : Nat → Bool) (w : World) (hn : n ≤ 9223372036854775807)
    (hA : 0 < n → A = some ⟨b, off, none⟩) (he : Enters Tryz.prog f)
    (hc : ∀ W, I W → ∀ k, k < n → W.cell? ⟨b, off + k, none⟩ = some (g0 k))
    (hf : ∀ W, I W → ∀ k, k < n → Calls Tryz.prog f (#[g0 k] ++ cp) W fun e W' => e = .returned (.bool (p k)) ∧ I W') (hw : I w) :
    Calls Tryz.prog 99 #[.slice A n c, .func (.func f) #[] cp] w fun e w' => e = .returned (.int .i64 (ixOf p n)) ∧ I w' := by
  have HC := Lib.hid hc
  have HF := Lib.hid hf
  have HA := Lib.hid hA
  have HE := Lib.hid he
  clear hc hf hA he
  go_enter Tryz.func99, Tryz.ntmps99
  go_wp2_with fail
  go_loopw [5, 4, 8] (fun _ _ i wr => ∃ k : Nat, k ≤ n ∧ i = .int .i64 k ∧ (∀ j, j < k → p j = false) ∧ I wr) (fun _ _ i _ => n - (intOf i).toNat)
  case atStart => exact ⟨0, Nat.zero_le _, rfl, fun j hj => by omega, hw⟩
  case round =>
    obtain ⟨k, hk, rfl, hlow, hI⟩ := hrel
    have HL := Lib.hid hlow
    clear hlow
    by_cases hlt : k < n
    · obtain rfl := HA.out (by omega)
      have hc0 := HC.out wr hI k hlt
      have hen := HE.out (#[g0 k] ++ cp) wr
      go_wp2_with fail
      refine (HF.out wr hI k hlt).mono ?_
      rintro e W' ⟨rfl, hI'⟩
      by_cases hp : p k = true
      · clear hc0 hen
        go_wp2_with fail
        go_ret
        exact ⟨ret_int (ixOf_found hlt hp HL.out).symm, hI'⟩
      · have hp' : p k = false := by simpa using hp
        clear hc0 hen hp
        go_wp2_with fail
        go_roundw
        case rel =>
          refine ⟨k + 1, by omega, by go_num, fun j hj => ?_, hI'⟩
          by_cases e : j = k
          · rw [e]; exact hp'
          · exact HL.out j (by omega)
        case measure => simp [intOf]; omega
    · go_wp2_with fail
      go_ret
      exact ⟨ret_int (ixOf_none fun j hj => HL.out j (by omega)).symm, hI⟩

set_option maxHeartbeats 400000 in
theorem cfE_any (I : World → Prop) (A : Option Addr) (b off n c f : Nat) (cp : Array Value) (g0 : Nat → Value) (p : Nat → Bool) (w : World) (hn : n ≤ 9223372036854775807)
    (hA : 0 < n → A = some ⟨b, off, none⟩) (he : Enters Tryz.prog f)
    (hc : ∀ W, I W → ∀ k, k < n → W.cell? ⟨b, off + k, none⟩ = some (g0 k))
    (hf : ∀ W, I W → ∀ k, k < n → Calls Tryz.prog f (#[g0 k] ++ cp) W fun e W' => e = .returned (.bool (p k)) ∧ I W') (hw : I w) :
    Calls Tryz.prog 66 #[.slice A n c, .func (.func f) #[] cp] w fun e w' => e = .returned (.bool (anyOf p n)) ∧ I w' := by
  have H := Lib.hid (ixE_any I A b off n c f cp g0 p w hn hA he hc hf hw)
  clear hc hf hA he hw
  go_enter Tryz.func66, Tryz.ntmps66
  go_wp2_with fail
  refine H.out.mono ?_
  rintro e W' ⟨rfl, hI'⟩
  go_wp2_with fail
  go_ret
  exact ⟨rfl, hI'⟩

set_option maxHeartbeats 400000 in
theorem good1_any (a : Int) (w : World) : Calls Tryz.prog 67 #[.int .i64 a] w fun e w' => e = .returned (.bool (a != 0)) ∧ w = w' := by
  go_enter Tryz.func67, Tryz.ntmps67
  go_wp2
  go_ret
  exact ⟨rfl, rfl⟩
theorem good1_enters : Enters Tryz.prog 67 := fun _ _ => by kernel_rfl
def goodB (g : Nat → Int) (n : Nat) : Bool := !(anyOf (fun k => g k != 0) n)
set_option maxHeartbeats 400000 in
theorem good_any (A : Option Addr) (b off n c : Nat) (g : Nat → Int) (w : World) (hn : n ≤ 9223372036854775807) (hA : 0 < n → A = some ⟨b, off, none⟩)
    (hc : ∀ k, k < n → w.cell? ⟨b, off + k, none⟩ = some (.int .i64 (g k))) :
    Calls Tryz.prog 37 #[.slice A n c] w fun e w' => e = .returned (.bool (goodB g n)) ∧ w = w' := by
  have H := Lib.hid (cfE_any (fun W => w = W) A b off n c 67 #[] (fun k => .int .i64 (g k)) (fun k => g k != 0) w hn hA good1_enters (fun W hW k hk => by subst hW; exact hc k hk)
    (fun W hW k hk => by subst hW; exact good1_any _ _) rfl)
  clear hc hA
  go_enter Tryz.func37, Tryz.ntmps37
  go_wp2_with fail
  refine H.out.mono ?_
  rintro e W' ⟨rfl, rfl⟩
  go_wp2_with fail
  go_ret
  exact ⟨rfl, rfl⟩
/-- two error numbers in a new row -/
theorem good_two (a d : Int) (w : World) (c : Nat) (b : Nat) (h0 : w.cell? ⟨b, 0, none⟩ = some (.int .i64 a)) (h1 : w.cell? ⟨b, 1, none⟩ = some (.int .i64 d)) :
    Calls Tryz.prog 37 #[.slice (some ⟨b, 0, none⟩) 2 c] w fun e w' => e = .returned (.bool (a == 0 && d == 0)) ∧ w = w' := by
  refine (good_any _ b 0 2 c (fun k => if k = 0 then a else d) w (by omega) (fun _ => rfl) ?_).mono ?_
  · intro k hk
    match k, hk with
    | 0, _ => simpa using h0
    | 1, _ => simpa using h1
  · rintro e w' ⟨rfl, rfl⟩
    refine ⟨ret_bool ?_, rfl⟩
    rw [Bool.eq_iff_iff]
    unfold goodB
    rw [Bool.not_eq_true', anyOf_false, Bool.and_eq_true, beq_iff_eq, beq_iff_eq]
    constructor
    · intro h; exact ⟨by simpa using h 0 (by omega), by simpa using h 1 (by omega)⟩
    · rintro ⟨rfl, rfl⟩ k _; simp
theorem good_three (a d u : Int) (w : World) (c : Nat) (b : Nat) (h0 : w.cell? ⟨b, 0, none⟩ = some (.int .i64 a)) (h1 : w.cell? ⟨b, 1, none⟩ = some (.int .i64 d)) (h2 : w.cell? ⟨b, 2, none⟩ = some (.int .i64 u)) :
    Calls Tryz.prog 37 #[.slice (some ⟨b, 0, none⟩) 3 c] w fun e w' => e = .returned (.bool (a == 0 && d == 0 && u == 0)) ∧ w = w' := by
  refine (good_any _ b 0 3 c (fun k => if k = 0 then a else if k = 1 then d else u) w (by omega) (fun _ => rfl) ?_).mono ?_
  · intro k hk
    match k, hk with
    | 0, _ => simpa using h0
    | 1, _ => simpa using h1
    | 2, _ => simpa using h2
  · rintro e w' ⟨rfl, rfl⟩
    refine ⟨ret_bool ?_, rfl⟩
    rw [Bool.eq_iff_iff]
    unfold goodB
    rw [Bool.not_eq_true', anyOf_false, Bool.and_eq_true, Bool.and_eq_true, beq_iff_eq, beq_iff_eq, beq_iff_eq]
    constructor
    · intro h; exact ⟨⟨by simpa using h 0 (by omega), by simpa using h 1 (by omega)⟩, by simpa using h 2 (by omega)⟩
    · rintro ⟨⟨rfl, rfl⟩, rfl⟩ k _; simp
end Go.Proofs.YtjjfglbcikaicaaGreat
