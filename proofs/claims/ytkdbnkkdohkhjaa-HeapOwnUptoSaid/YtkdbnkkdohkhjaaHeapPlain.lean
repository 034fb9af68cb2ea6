/- Objects as words of a heap: plain facts. -/
import Derived.Test.YtkdbnkkdohkhjaaBase
namespace Go.Proofs.Ytkdbnkkdohkhjaa
set_option linter.unusedVariables false
/-- n bytes from o on, as a number -/
def valB (s : Nat → Nat) (o : Nat) : Nat → Nat
  | 0 => 0
  | n + 1 => valB s o n + s (o + n) * 256 ^ n
theorem valB_lt {s : Nat → Nat} (hs : ∀ i, s i < 256) (o n : Nat) : valB s o n < 256 ^ n := by
  induction n with
  | zero => simp [valB]
  | succ n ih =>
    rw [valB, Nat.pow_succ]
    have h1 : s (o + n) * 256 ^ n ≤ 255 * 256 ^ n := Nat.mul_le_mul_right _ (by have := hs (o + n); omega)
    omega
theorem valB_get {s : Nat → Nat} (hs : ∀ i, s i < 256) (o : Nat) {n i : Nat} (hi : i < n) : valB s o n / 256 ^ i % 256 = s (o + i) := by
  induction n with
  | zero => omega
  | succ n ih =>
    rw [valB]
    by_cases e : i = n
    · subst e
      rw [Nat.add_mul_div_right _ _ (Nat.pow_pos (by omega)), Nat.div_eq_of_lt (valB_lt hs o i), Nat.zero_add, Nat.mod_eq_of_lt (hs _)]
    · have hn : n = i + (n - i) := by omega
      have h1 : s (o + n) * 256 ^ n = s (o + n) * 256 ^ (n - i) * 256 ^ i := by
        conv => lhs; rw [hn]
        rw [Nat.pow_add, Nat.mul_comm (256 ^ i), ← Nat.mul_assoc]
        congr 2
        congr 1
        omega
      rw [h1, Nat.add_mul_div_right _ _ (Nat.pow_pos (by omega))]
      have h2 : 256 ^ (n - i) = 256 ^ (n - i - 1) * 256 := by
        rw [← Nat.pow_succ]
        congr 1
        omega
      rw [h2, ← Nat.mul_assoc, Nat.add_mul_mod_self_right]
      exact ih (by omega)
theorem valB_congr {s t : Nat → Nat} {o n : Nat} (h : ∀ i, i < n → s (o + i) = t (o + i)) : valB s o n = valB t o n := by
  induction n with
  | zero => rfl
  | succ n ih => rw [valB, valB, ih (fun i hi => h i (by omega)), h n (by omega)]
/-- the words of a text, byte by byte -/
def tw (s : Nat → Nat) : Nat → List Nat
  | 0 => []
  | k + 1 => if k % 8 = 0 then tw s k ++ [s k] else (tw s k).set ((tw s k).length - 1) ((tw s k).getD ((tw s k).length - 1) 0 + s k * 256 ^ (k % 8))
theorem tw_len (s : Nat → Nat) (k : Nat) : (tw s k).length = (k + 7) / 8 := by
  induction k with
  | zero => simp [tw]
  | succ k ih =>
    rw [tw]
    split
    · rw [List.length_append, ih]; simp; omega
    · rw [List.length_set, ih]; omega
theorem tw_get (s : Nat → Nat) (k : Nat) : ∀ j, j < (k + 7) / 8 → (tw s k).getD j 0 = valB s (8 * j) (min 8 (k - 8 * j)) := by
  induction k with
  | zero => intro j hj; omega
  | succ k ih =>
    intro j hj
    have hl := tw_len s k
    rw [tw]
    split
    · rename_i h8
      by_cases e : j < (k + 7) / 8
      · rw [List.getD_eq_getElem?_getD, List.getElem?_append_left (by omega), ← List.getD_eq_getElem?_getD, ih j e]
        congr 1
        omega
      · obtain rfl : j = (k + 7) / 8 := by omega
        rw [List.getD_eq_getElem?_getD, List.getElem?_append_right (by omega), hl, Nat.sub_self]
        have e1 : min 8 (k + 1 - 8 * ((k + 7) / 8)) = 1 := by omega
        have e2 : 8 * ((k + 7) / 8) = k := by omega
        rw [e1, e2]
        simp [valB]
    · rename_i h8
      rw [hl]
      by_cases e : j = (k + 7) / 8 - 1
      · subst e
        rw [List.getD_eq_getElem?_getD, List.getElem?_set_self (by omega)]
        have hj2 : (k + 7) / 8 - 1 < (k + 7) / 8 := by omega
        rw [Option.getD_some, ih _ hj2]
        have e1 : min 8 (k + 1 - 8 * ((k + 7) / 8 - 1)) = min 8 (k - 8 * ((k + 7) / 8 - 1)) + 1 := by omega
        rw [e1, valB]
        have e2 : 8 * ((k + 7) / 8 - 1) + min 8 (k - 8 * ((k + 7) / 8 - 1)) = k := by omega
        have e3 : min 8 (k - 8 * ((k + 7) / 8 - 1)) = k % 8 := by omega
        rw [e2, e3]
      · rw [List.getD_eq_getElem?_getD, List.getElem?_set_ne (by omega), ← List.getD_eq_getElem?_getD, ih j (by omega)]
        congr 1
        omega
theorem tw_lt {s : Nat → Nat} (hs : ∀ i, s i < 256) (k : Nat) : ∀ x ∈ tw s k, x < 18446744073709551616 := by
  intro x hx
  obtain ⟨j, hj, rfl⟩ := List.mem_iff_getElem.1 hx
  rw [tw_len] at hj
  have h := tw_get s k j hj
  rw [List.getD_eq_getElem?_getD, List.getElem?_eq_getElem (by rw [tw_len]; exact hj), Option.getD_some] at h
  rw [h]
  have h1 := valB_lt hs (8 * j) (min 8 (k - 8 * j))
  have h2 : 256 ^ (min 8 (k - 8 * j)) ≤ 256 ^ 8 := Nat.pow_le_pow_right (by omega) (by omega)
  have h3 : (256 : Nat) ^ 8 = 18446744073709551616 := by decide
  omega
/-- the byte i of the text -/
theorem tw_byte {s : Nat → Nat} (hs : ∀ i, s i < 256) {k i : Nat} (hi : i < k) : (tw s k).getD (i / 8) 0 / 256 ^ (i % 8) % 256 = s i := by
  rw [tw_get s k (i / 8) (by omega), valB_get hs _ (by omega)]
  congr 1
  omega
theorem tw_congr {s t : Nat → Nat} {k : Nat} (h : ∀ i, i < k → s i = t i) : tw s k = tw t k := by
  induction k with
  | zero => rfl
  | succ k ih => rw [tw, tw, ih (fun i hi => h i (by omega)), h k (by omega)]
/-- an object -/
structure Ob where
  kind : Int
  num : Int
  text : ByteArray
  parts : List Nat
def bt (t : ByteArray) : Nat → Nat := fun i => (t.data.toList.getD i 0).toNat
theorem bt_lt (t : ByteArray) : ∀ i, bt t i < 256 := fun i => UInt8.toNat_lt _
def hasN (k : Int) : Bool := k == 1 || k == 4
def mostP (k : Int) : Nat := if k = 3 ∨ k = 4 then 400 else if k = 5 then 1 else 0
def okOb (o : Ob) : Bool := decide (1 ≤ o.kind ∧ o.kind ≤ 5) && ((decide (o.text.size = 0) || o.kind == 2 || o.kind == 3) && (decide (o.text.size ≤ 64) && (decide (o.parts.length ≤ mostP o.kind) && (o.num == 0 || hasN o.kind))))
def headW (kind : Int) (tl pl : Nat) : Nat := kind.toNat + tl * 256 + pl * 1048576
def uN (n : Int) : Nat := (n % 18446744073709551616).toNat
theorem uN_eq (n : Int) : ((uN n : Nat) : Int) = n % 18446744073709551616 := by unfold uN; omega
def numW (o : Ob) : List Nat := if hasN o.kind then [uN o.num] else []
def wordsO (o : Ob) : List Nat := headW o.kind o.text.size o.parts.length :: (numW o ++ tw (bt o.text) o.text.size ++ o.parts)
theorem okOb_iff {o : Ob} : okOb o = true ↔ (1 ≤ o.kind ∧ o.kind ≤ 5) ∧ (o.text.size = 0 ∨ o.kind = 2 ∨ o.kind = 3) ∧ o.text.size ≤ 64 ∧ o.parts.length ≤ mostP o.kind ∧ (o.num = 0 ∨ hasN o.kind = true) := by
  unfold okOb
  simp only [Bool.and_eq_true, Bool.or_eq_true, decide_eq_true_eq, beq_iff_eq]
  constructor
  · rintro ⟨h1, h2, h3, h4, h5⟩
    exact ⟨h1, by rcases h2 with (h | h) | h <;> simp [h], h3, h4, h5⟩
  · rintro ⟨h1, h2, h3, h4, h5⟩
    exact ⟨h1, by rcases h2 with h | h | h <;> simp [h], h3, h4, h5⟩
theorem mostP_le (k : Int) : mostP k ≤ 400 := by
  unfold mostP
  split
  · omega
  · split <;> omega
theorem wordsO_len (o : Ob) : (wordsO o).length = 1 + (numW o).length + (o.text.size + 7) / 8 + o.parts.length := by
  unfold wordsO
  simp only [List.length_cons, List.length_append, tw_len]
  omega
theorem headW_kind {o : Ob} (h : okOb o = true) : headW o.kind o.text.size o.parts.length % 256 = o.kind.toNat ∧ headW o.kind o.text.size o.parts.length / 256 % 4096 = o.text.size ∧ headW o.kind o.text.size o.parts.length / 1048576 = o.parts.length ∧ headW o.kind o.text.size o.parts.length < 18446744073709551616 := by
  obtain ⟨h1, _, h3, h4, _⟩ := okOb_iff.1 h
  have := mostP_le o.kind
  unfold headW
  omega
end Go.Proofs.Ytkdbnkkdohkhjaa
