/- Slices of words: h[a:b] and h[a:] of []uint64. -/
import Derived.Test.YtmpeckjemgenbaaHeapCut
namespace Go.Proofs.Ytmpeckjemgenbaa
open Go.RowKit
set_option linter.unusedVariables false
theorem sizeUs (w : World) : (sizeOf (Try.prog.elem 22)).run Try.prog w = .ok 1 w := by kernel_rfl
theorem elemUs : Try.prog.underlying 22 = some (.slice (Try.prog.elem 22)) := by kernel_rfl
/-- h[a:b] -/
theorem cutu_mid (A : Option Addr) (c : Nat) (l : List Nat) (w0 : World) (hS : Su w0 (.slice A l.length c) l) (a b : Nat) (hab : a ≤ b) (hb : b ≤ l.length) :
    ∃ XA, (∀ w, (Instr.sliceAt 22 (.slice A l.length c) (some (.int .i64 (a : Int))) (some (.int .i64 (b : Int))) none).run Try.prog w = .ok (.slice XA (b - a) (c - a)) w) ∧
      Su w0 (.slice XA ((l.drop a).take (b - a)).length (c - a)) ((l.drop a).take (b - a)) := by
  obtain ⟨A0, c0, e, h1, h2, h3, h4⟩ := hS
  injection e with e1 _ e3
  subst e1 e3
  have hl : ((l.drop a).take (b - a)).length = b - a := by simp; omega
  refine ⟨if c = a then A else A.map (·.add (a * 1)), fun w => ?_, ?_⟩
  · rw [run_sliceAt_slice _ _ _ _ _ _ elemUs, run_slice_lh _ _ _ _ _ elemUs _ _ _ _ (by omega) (by omega) (by omega), sizeUs]
    simp only [Result.andThen, sliced, Int.toNat_natCast]
  · refine ⟨_, _, rfl, by omega, by omega, fun hn => ?_, fun h0 => ?_⟩
    · rw [hl]
      by_cases e : c = a
      · omega
      · rw [if_neg e] at hn
        cases A with
        | none => have := h3 rfl; omega
        | some _ => cases hn
    · rw [hl] at h0
      obtain ⟨bk, off, rfl, hlt, hc⟩ := h4 (by omega)
      rw [if_neg (by omega)]
      refine ⟨bk, off + a, by simp [Go.WideShapes.add_plain], hlt, fun k hk j u hu => ?_⟩
      rw [hl] at hk
      match j, hu with
      | 0, hu =>
        have := hc (a + k) (by omega) 0 (.int .u64 ((nth l (a + k) : Nat) : Int)) rfl
        have e2 : nth ((l.drop a).take (b - a)) k = nth l (a + k) := by rw [nth_take _ hk, nth_drop]
        simp only [uC, List.getElem?_cons_zero, Option.some.injEq] at hu
        subst hu
        rw [e2]
        simpa [Nat.add_assoc] using this
/-- h[a:] -/
theorem cutu_from (A : Option Addr) (c : Nat) (l : List Nat) (w0 : World) (hS : Su w0 (.slice A l.length c) l) (a : Nat) (ha : a ≤ l.length) :
    ∃ XA, (∀ w, (Instr.sliceAt 22 (.slice A l.length c) (some (.int .i64 (a : Int))) none none).run Try.prog w = .ok (.slice XA (l.length - a) (c - a)) w) ∧
      Su w0 (.slice XA (l.drop a).length (c - a)) (l.drop a) := by
  obtain ⟨A0, c0, e, h1, h2, h3, h4⟩ := hS
  injection e with e1 _ e3
  subst e1 e3
  have hl : (l.drop a).length = l.length - a := by simp
  refine ⟨if c = a then A else A.map (·.add (a * 1)), fun w => ?_, ?_⟩
  · rw [run_sliceAt_slice _ _ _ _ _ _ elemUs, run_slice_l _ _ _ _ _ elemUs _ _ (by omega) (by omega), sizeUs]
    simp only [Result.andThen, sliced, Int.toNat_natCast]
  · refine ⟨_, _, rfl, by omega, by omega, fun hn => ?_, fun h0 => ?_⟩
    · rw [hl]
      by_cases e : c = a
      · omega
      · rw [if_neg e] at hn
        cases A with
        | none => have := h3 rfl; omega
        | some _ => cases hn
    · rw [hl] at h0
      obtain ⟨bk, off, rfl, hlt, hc⟩ := h4 (by omega)
      rw [if_neg (by omega)]
      refine ⟨bk, off + a, by simp [Go.WideShapes.add_plain], hlt, fun k hk j u hu => ?_⟩
      rw [hl] at hk
      match j, hu with
      | 0, hu =>
        have := hc (a + k) (by omega) 0 (.int .u64 ((nth l (a + k) : Nat) : Int)) rfl
        simp only [uC, List.getElem?_cons_zero, Option.some.injEq] at hu
        subst hu
        rw [nth_drop]
        simpa [Nat.add_assoc] using this
end Go.Proofs.Ytmpeckjemgenbaa
