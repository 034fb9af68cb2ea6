/- What heap.Read makes of a word: plain facts. -/
import Derived.Test.YtkdbnkkdohkhjaaHeapObsPlain
namespace Go.Proofs.Ytkdbnkkdohkhjaa
open Go.RowKit
set_option linter.unusedVariables false
def readsV (h : List Nat) (a : Nat) : Bool := decide (a < h.length) && (decide (tbR h a ≤ 64) && (decide (plR h a ≤ 400) && (decide (n8R h a + plR h a ≤ (restR h a).length) && (okOb (obR h a) && (decide ((wordsO (obR h a)).length ≤ h.length - a) && decide (wordsO (obR h a) = (h.drop a).take (wordsO (obR h a)).length))))))
theorem readsV_iff {h : List Nat} {a : Nat} : readsV h a = true ↔ ReadsOb h a := by
  unfold readsV ReadsOb roomR
  simp only [Bool.and_eq_true, decide_eq_true_eq]
  constructor
  · rintro ⟨h1, h2, h3, h4, h5, h6, h7⟩
    exact ⟨h1, ⟨h2, h3, h4⟩, h5, h6, h7⟩
  · rintro ⟨h1, ⟨h2, h3, h4⟩, h5, h6, h7⟩
    exact ⟨h1, h2, h3, h4, h5, h6, h7⟩
/-- an answer of the reader: the error, the value, and how many parts are left -/
structure LdR where
  err : Int
  val : VT
  left : Int
structure LdA where
  err : Int
  vals : List VT
  left : Int
def ldArgs (f : Nat → Int → LdR) (ps : List Nat) (left : Int) : Nat → LdA
  | 0 => ⟨0, [], left⟩
  | i + 1 => if (ldArgs f ps left i).err ≠ 0 then ldArgs f ps left i else
      if (f (nth ps i) (ldArgs f ps left i).left).err ≠ 0 then ⟨(f (nth ps i) (ldArgs f ps left i).left).err, [], (f (nth ps i) (ldArgs f ps left i).left).left⟩ else
      ⟨0, (ldArgs f ps left i).vals ++ [(f (nth ps i) (ldArgs f ps left i).left).val], (f (nth ps i) (ldArgs f ps left i).left).left⟩
def leafV (x : Int) : VT := .node (kindT (tagOf x)) (numOf x) ⟨#[]⟩ 0 (fun _ => .none)
def ldNode (o : Ob) (r : LdA) : LdR := if r.err ≠ 0 then ⟨r.err, .none, r.left⟩ else ⟨0, .node (kindsF o.kind.toNat) o.num o.text r.vals.length (fun i => r.vals.getD i .none), r.left⟩
def leafB (x : Int) : Bool := okR x && decide (tagOf x ≤ 3)
/-- what is read of a word, where d levels more may be entered -/
def ldv (h : List Nat) : Nat → Nat → Int → LdR
  | 0, x, left => ⟨2, .none, left - 1⟩
  | d + 1, x, left => if left - 1 < 0 then ⟨2, .none, left - 1⟩ else
      if leafB x then ⟨0, leafV x, left - 1⟩ else
      if okR x = false then ⟨3, .none, left - 1⟩ else
      if readsV h (numOf x).toNat then ldNode (obR h (numOf x).toNat) (ldArgs (ldv h d) (obR h (numOf x).toNat).parts (left - 1) (obR h (numOf x).toNat).parts.length) else ⟨errA h (numOf x), .none, left - 1⟩
theorem ldArgs_succ {f : Nat → Int → LdR} {ps : List Nat} {left : Int} {i : Nat} (h : (ldArgs f ps left i).err = 0) :
    ldArgs f ps left (i + 1) = if (f (nth ps i) (ldArgs f ps left i).left).err ≠ 0 then ⟨(f (nth ps i) (ldArgs f ps left i).left).err, [], (f (nth ps i) (ldArgs f ps left i).left).left⟩ else
      ⟨0, (ldArgs f ps left i).vals ++ [(f (nth ps i) (ldArgs f ps left i).left).val], (f (nth ps i) (ldArgs f ps left i).left).left⟩ := by
  conv => lhs; unfold ldArgs
  rw [if_neg (by simp [h])]
theorem ldArgs_len {f : Nat → Int → LdR} {ps : List Nat} {left : Int} : ∀ {i : Nat}, (ldArgs f ps left i).err = 0 → (ldArgs f ps left i).vals.length = i := by
  intro i
  induction i with
  | zero => intro _; rfl
  | succ i ih =>
    intro h
    by_cases h1 : (ldArgs f ps left i).err = 0
    · rw [ldArgs_succ h1] at h ⊢
      by_cases h2 : (f (nth ps i) (ldArgs f ps left i).left).err = 0
      · rw [if_neg (by simp [h2])]
        simp [ih h1]
      · rw [if_pos h2] at h
        exact absurd h h2
    · conv at h => lhs; unfold ldArgs
      rw [if_pos h1] at h
      exact absurd h h1
theorem ldArgs_stuck {f : Nat → Int → LdR} {ps : List Nat} {left : Int} {i : Nat} (h : (ldArgs f ps left i).err ≠ 0) : ∀ n, i ≤ n → ldArgs f ps left n = ldArgs f ps left i := by
  intro n hn
  induction n with
  | zero => obtain rfl : i = 0 := by omega
            rfl
  | succ n ih =>
    by_cases e : i = n + 1
    · rw [e]
    · have h1 := ih (by omega)
      conv => lhs; unfold ldArgs
      rw [h1, if_pos h]
theorem ldArgs_fail {f : Nat → Int → LdR} {ps : List Nat} {left : Int} {i : Nat} (h : (ldArgs f ps left i).err = 0) (h2 : (f (nth ps i) (ldArgs f ps left i).left).err ≠ 0) {n : Nat} (hn : i < n) :
    ldArgs f ps left n = ⟨(f (nth ps i) (ldArgs f ps left i).left).err, [], (f (nth ps i) (ldArgs f ps left i).left).left⟩ := by
  have e : ldArgs f ps left (i + 1) = ⟨(f (nth ps i) (ldArgs f ps left i).left).err, [], (f (nth ps i) (ldArgs f ps left i).left).left⟩ := by rw [ldArgs_succ h, if_pos h2]
  rw [ldArgs_stuck (i := i + 1) (by rw [e]; exact h2) n hn, e]
/-- what is left goes down, and stops at less than nothing -/
theorem ldv_left (h : List Nat) : ∀ (d x : Nat) (left : Int), 0 ≤ left → -1 ≤ (ldv h d x left).left ∧ (ldv h d x left).left < left ∧ ((ldv h d x left).err = 0 → 0 ≤ (ldv h d x left).left) := by
  intro d
  induction d with
  | zero => intro x left h0; simp [ldv]; omega
  | succ d ih =>
    intro x left h0
    simp only [ldv]
    split
    · simp; omega
    split
    · simp; omega
    split
    · simp; omega
    split
    · have hA : ∀ (ps : List Nat) (n : Nat), -1 ≤ (ldArgs (ldv h d) ps (left - 1) n).left ∧ (ldArgs (ldv h d) ps (left - 1) n).left ≤ left - 1 ∧ ((ldArgs (ldv h d) ps (left - 1) n).err = 0 → 0 ≤ (ldArgs (ldv h d) ps (left - 1) n).left) := by
        intro ps n
        induction n with
        | zero => simp [ldArgs]; omega
        | succ n ihn =>
          by_cases h1 : (ldArgs (ldv h d) ps (left - 1) n).err = 0
          · have h2 := ih (nth ps n) (ldArgs (ldv h d) ps (left - 1) n).left (ihn.2.2 h1)
            rw [ldArgs_succ h1]
            split
            · refine ⟨h2.1, Int.le_trans (Int.le_of_lt h2.2.1) ihn.2.1, fun e => ?_⟩
              rename_i h3
              exact absurd e h3
            · rename_i h3
              have h3 : (ldv h d (nth ps n) (ldArgs (ldv h d) ps (left - 1) n).left).err = 0 := by simpa using h3
              exact ⟨h2.1, Int.le_trans (Int.le_of_lt h2.2.1) ihn.2.1, fun _ => h2.2.2 h3⟩
          · conv => unfold ldArgs
            rw [if_pos h1]
            exact ihn
      have h1 := hA (obR h (numOf x).toNat).parts (obR h (numOf x).toNat).parts.length
      unfold ldNode
      split
      · rename_i h2
        exact ⟨h1.1, Int.lt_of_le_of_lt h1.2.1 (by omega), fun e => absurd e h2⟩
      · rename_i h2
        have h2 := Decidable.not_not.1 h2
        exact ⟨h1.1, Int.lt_of_le_of_lt h1.2.1 (by omega), fun _ => h1.2.2 h2⟩
    · refine ⟨by show -1 ≤ left - 1; omega, by show left - 1 < left; omega, fun e => absurd e (errA_ne _ _)⟩
theorem ldArgs_left (h : List Nat) (d : Nat) (ps : List Nat) (left : Int) (h0 : 0 ≤ left) (n : Nat) : (ldArgs (ldv h d) ps left n).left ≤ left ∧ ((ldArgs (ldv h d) ps left n).err = 0 → 0 ≤ (ldArgs (ldv h d) ps left n).left) := by
  induction n with
  | zero => exact ⟨Int.le_refl _, fun _ => h0⟩
  | succ n ihn =>
    by_cases h1 : (ldArgs (ldv h d) ps left n).err = 0
    · have h2 := ldv_left h d (nth ps n) (ldArgs (ldv h d) ps left n).left (ihn.2 h1)
      rw [ldArgs_succ h1]
      split
      · rename_i h3
        exact ⟨Int.le_trans (Int.le_of_lt h2.2.1) ihn.1, fun e => absurd e h3⟩
      · rename_i h3
        exact ⟨Int.le_trans (Int.le_of_lt h2.2.1) ihn.1, fun _ => h2.2.2 (Decidable.not_not.1 h3)⟩
    · conv => unfold ldArgs
      rw [if_pos h1]
      exact ihn
end Go.Proofs.Ytkdbnkkdohkhjaa
