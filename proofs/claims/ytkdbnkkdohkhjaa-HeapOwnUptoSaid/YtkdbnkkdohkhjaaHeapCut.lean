/- Parts of a heap's words: slices of slices, and the bits of a head. -/
import Derived.Test.YtkdbnkkdohkhjaaHeapPut
namespace Go.Proofs.Ytkdbnkkdohkhjaa
open Go.RowKit
set_option linter.unusedVariables false
theorem sizeH (w : World) : (sizeOf (Try.prog.elem 23)).run Try.prog w = .ok 1 w := by kernel_rfl
theorem elemH : Try.prog.underlying 23 = some (.slice (Try.prog.elem 23)) := by kernel_rfl
theorem nth_drop (l : List Nat) (h k : Nat) : nth (l.drop h) k = nth l (h + k) := by simp [nth]
theorem nth_take (l : List Nat) {m k : Nat} (h : k < m) : nth (l.take m) k = nth l k := by simp [nth, h]
/-- h[a:b] -/
theorem cut_mid (A : Option Addr) (c : Nat) (l : List Nat) (w0 : World) (hS : Su w0 (.slice A l.length c) l) (a b : Nat) (hab : a ≤ b) (hb : b ≤ l.length) :
    ∃ XA, (∀ w, (Instr.sliceAt 23 (.slice A l.length c) (some (.int .i64 (a : Int))) (some (.int .i64 (b : Int))) none).run Try.prog w = .ok (.slice XA (b - a) (c - a)) w) ∧
      Su w0 (.slice XA ((l.drop a).take (b - a)).length (c - a)) ((l.drop a).take (b - a)) := by
  obtain ⟨A0, c0, e, h1, h2, h3, h4⟩ := hS
  injection e with e1 _ e3
  subst e1 e3
  have hl : ((l.drop a).take (b - a)).length = b - a := by simp; omega
  refine ⟨if c = a then A else A.map (·.add (a * 1)), fun w => ?_, ?_⟩
  · rw [run_sliceAt_slice _ _ _ _ _ _ elemH, run_slice_lh _ _ _ _ _ elemH _ _ _ _ (by omega) (by omega) (by omega), sizeH]
    simp only [Result.andThen, sliced, Int.toNat_natCast]
  · refine ⟨_, _, rfl, by omega, by omega, fun hn => ?_, fun h0 => ?_⟩
    · rw [hl]
      by_cases e : c = a
      · omega
      · rw [if_neg e] at hn
        cases A with
        | none => have := h3 rfl; omega
        | some _ => cases hn
    · rw [hl] at h0
      obtain ⟨bk, off, rfl, hlt, hc⟩ := h4 (by omega)
      rw [if_neg (by omega)]
      refine ⟨bk, off + a, by simp [Go.WideShapes.add_plain], hlt, fun k hk j u hu => ?_⟩
      rw [hl] at hk
      match j, hu with
      | 0, hu =>
        have := hc (a + k) (by omega) 0 (.int .u64 ((nth l (a + k) : Nat) : Int)) rfl
        have e2 : nth ((l.drop a).take (b - a)) k = nth l (a + k) := by rw [nth_take _ hk, nth_drop]
        simp only [uC, List.getElem?_cons_zero, Option.some.injEq] at hu
        subst hu
        rw [e2]
        simpa [Nat.add_assoc] using this
/-- h[a:] -/
theorem cut_from (A : Option Addr) (c : Nat) (l : List Nat) (w0 : World) (hS : Su w0 (.slice A l.length c) l) (a : Nat) (ha : a ≤ l.length) :
    ∃ XA, (∀ w, (Instr.sliceAt 23 (.slice A l.length c) (some (.int .i64 (a : Int))) none none).run Try.prog w = .ok (.slice XA (l.length - a) (c - a)) w) ∧
      Su w0 (.slice XA (l.drop a).length (c - a)) (l.drop a) := by
  obtain ⟨A0, c0, e, h1, h2, h3, h4⟩ := hS
  injection e with e1 _ e3
  subst e1 e3
  have hl : (l.drop a).length = l.length - a := by simp
  refine ⟨if c = a then A else A.map (·.add (a * 1)), fun w => ?_, ?_⟩
  · rw [run_sliceAt_slice _ _ _ _ _ _ elemH, run_slice_l _ _ _ _ _ elemH _ _ (by omega) (by omega), sizeH]
    simp only [Result.andThen, sliced, Int.toNat_natCast]
  · refine ⟨_, _, rfl, by omega, by omega, fun hn => ?_, fun h0 => ?_⟩
    · rw [hl]
      by_cases e : c = a
      · omega
      · rw [if_neg e] at hn
        cases A with
        | none => have := h3 rfl; omega
        | some _ => cases hn
    · rw [hl] at h0
      obtain ⟨bk, off, rfl, hlt, hc⟩ := h4 (by omega)
      rw [if_neg (by omega)]
      refine ⟨bk, off + a, by simp [Go.WideShapes.add_plain], hlt, fun k hk j u hu => ?_⟩
      rw [hl] at hk
      match j, hu with
      | 0, hu =>
        have := hc (a + k) (by omega) 0 (.int .u64 ((nth l (a + k) : Nat) : Int)) rfl
        simp only [uC, List.getElem?_cons_zero, Option.some.injEq] at hu
        subst hu
        rw [nth_drop]
        simpa [Nat.add_assoc] using this
theorem and255 {x : Nat} (hx : x < 18446744073709551616) : bits .and .u64 (x : Int) 255 = ((x % 256 : Nat) : Int) := by
  rw [u64_and (x : Int) 255 (by omega) (by omega) (by omega) (by omega)]
  have : (255 : Int).toNat = 2 ^ 8 - 1 := rfl
  rw [this, Nat.and_two_pow_sub_one_eq_mod]
  rfl
theorem and4095 {x : Nat} (hx : x < 18446744073709551616) : bits .and .u64 (x : Int) 4095 = ((x % 4096 : Nat) : Int) := by
  rw [u64_and (x : Int) 4095 (by omega) (by omega) (by omega) (by omega)]
  have : (4095 : Int).toNat = 2 ^ 12 - 1 := rfl
  rw [this, Nat.and_two_pow_sub_one_eq_mod]
  rfl
/-! what heap.read makes of the words from a place on -/
def kdR (h : List Nat) (a : Nat) : Nat := nth h a % 256
def tbR (h : List Nat) (a : Nat) : Nat := nth h a / 256 % 4096
def plR (h : List Nat) (a : Nat) : Nat := nth h a / 1048576
def k1R (h : List Nat) (a : Nat) : Nat := if hasN (kdR h a : Nat) = true ∧ a + 1 < h.length then 1 else 0
def nmR (h : List Nat) (a : Nat) : Int := if hasN (kdR h a : Nat) = true ∧ a + 1 < h.length then wrap64 (nth h (a + 1) : Nat) else 0
def restR (h : List Nat) (a : Nat) : List Nat := h.drop (a + 1 + k1R h a)
def n8R (h : List Nat) (a : Nat) : Nat := (tbR h a + 7) / 8
def byR (h : List Nat) (a i : Nat) : Nat := nth (restR h a) (i / 8) / 256 ^ (i % 8) % 256
def txR (h : List Nat) (a : Nat) : ByteArray := ⟨((List.range (tbR h a)).map fun i => UInt8.ofNat (byR h a i)).toArray⟩
def paR (h : List Nat) (a : Nat) : List Nat := ((restR h a).drop (n8R h a)).take (plR h a)
def roomR (h : List Nat) (a : Nat) : Prop := tbR h a ≤ 64 ∧ plR h a ≤ 400 ∧ n8R h a + plR h a ≤ (restR h a).length
def obR (h : List Nat) (a : Nat) : Ob := ⟨(kdR h a : Nat), nmR h a, txR h a, paR h a⟩
def ReadsOb (h : List Nat) (a : Nat) : Prop := a < h.length ∧ roomR h a ∧ okOb (obR h a) = true ∧ (wordsO (obR h a)).length ≤ h.length - a ∧ wordsO (obR h a) = (h.drop a).take (wordsO (obR h a)).length
end Go.Proofs.Ytkdbnkkdohkhjaa
