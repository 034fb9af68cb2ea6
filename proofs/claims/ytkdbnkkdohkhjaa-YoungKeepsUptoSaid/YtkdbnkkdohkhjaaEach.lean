/- A row of the call's own whose elements hold values: plain facts. -/
import Derived.Test.YtkdbnkkdohkhjaaVal
import Derived.Test.YtkdbnkkdohkhjaaRow
namespace Go.Proofs.Ytkdbnkkdohkhjaa
open Go.RowKit
set_option linter.unusedVariables false
theorem infoVal : (Try.prog.info? 90).map (fun i => (i.zero, i.size, i.bytes)) = some (some (.agg #[.int .i64 0, .int .i64 0, .string ⟨#[]⟩, .slice none 0 0]), 4, 56) := by kernel_rfl
theorem isV_grown {w w' : World} {S S' : Nat → Prop} {row : Option Nat} {t : VT} {cs : List Value} (h : t.isV w S cs) (hg : w.grownBy w' row) (hS : ∀ b, S b → b < w.heap.size → some b ≠ row ∧ S' b) : t.isV w' S' cs :=
  isV_frame hg.size (fun b hs hl => ⟨(hS b hs hl).2, hg.block b hl (hS b hs hl).1⟩) h
/-- the elements of a row of the call's own hold the values l, each in blocks of its own -/
structure VRow (w : World) (base : Nat) (v : Value) (l : List VT) (C : Nat → List Value) : Prop where
  row : w.ownsRow base 90 4 v l.length (flatC C l.length)
  len : ∀ i, (C i).length = 4
  each : ∀ i (t : VT), l[i]? = some t → t.isV w (fun b => base ≤ b ∧ some b ≠ v.ownBlock) (C i)
theorem VRow.nil (w : World) (base : Nat) : VRow w base (.slice none 0 0) [] (fun _ => List.replicate 4 undef) := ⟨World.ownsRow_nil _ _ _ _, fun _ => by simp, fun i t h => by simp at h⟩
theorem VRow.grown {w w' : World} {base : Nat} {v : Value} {l : List VT} {C : Nat → List Value} {row : Option Nat} (h : VRow w base v l C) (hg : w.grownBy w' row) (hr : ∀ k, row = some k → k < base) : VRow w' base v l C :=
  ⟨own_grown h.row hg (fun k hk e => by have := hr k e; have := (h.row.lt k hk).1; omega), h.len, fun i t ht => isV_grown (h.each i t ht) hg (fun b hb _ => ⟨fun e => by have := hr b e.symm; omega, hb⟩)⟩
/-- one value more -/
theorem VRow.snoc {w w' : World} {base : Nat} {v v' : Value} {l : List VT} {C : Nat → List Value} (h : VRow w base v l C) (t : VT) (cs : List Value) (hcs : cs.length = 4) (hg : w.grownBy w' v.ownBlock)
    (hO : w'.ownsRow base 90 4 v' (l.length + 1) (flatC C l.length ++ cs)) (hat : v'.ownBlock = v.ownBlock ∨ ∃ k, v'.ownBlock = some k ∧ w.heap.size ≤ k)
    (ht : t.isV w (fun b => base ≤ b ∧ some b ≠ v.ownBlock) cs) : VRow w' base v' (l ++ [t]) (updC C l.length cs) := by
  have hne : ∀ b, b < w.heap.size → some b ≠ v.ownBlock → some b ≠ v'.ownBlock := fun b hb hn => by
    rcases hat with e | ⟨j, e, hj⟩
    · rw [e]; exact hn
    · rw [e]; intro h; injection h with h; omega
  have flatA : flatC C l.length ++ cs = flatC (updC C l.length cs) (l.length + 1) := by
    rw [flatC]
    congr 1
    · apply flatC_congr
      intro i hi
      have : i ≠ l.length := by omega
      simp [updC, this]
    · simp [updC]
  refine ⟨?_, fun i => ?_, fun i x hx => ?_⟩
  · rw [flatA] at hO
    rw [List.length_append]
    exact hO
  · unfold updC; split
    · exact hcs
    · exact h.len i
  · by_cases e : i = l.length
    · subst e
      simp at hx
      subst hx
      simp only [updC, if_true]
      exact isV_grown ht hg (fun b hb hl => ⟨hb.2, hb.1, hne b hl hb.2⟩)
    · have hi : i < l.length := by
        have := (List.getElem?_eq_some_iff.1 hx).1
        simp at this
        omega
      rw [List.getElem?_append_left hi] at hx
      simp only [updC, e, if_false]
      exact isV_grown (h.each i x hx) hg (fun b hb hl => ⟨hb.2, hb.1, hne b hl hb.2⟩)
/-- such a row is the arguments of a value -/
theorem VRow.isV {w : World} {base n c : Nat} {A : Option Addr} {l : List VT} {C : Nat → List Value} (h : VRow w base (.slice A n c) l C) (k m : Int) (s : ByteArray) :
    (VT.node k m s l.length (fun i => l.getD i .none)).isV w (fun b => base ≤ b) [.int .i64 k, .int .i64 m, .string s, .slice A n c] := by
  obtain ⟨A', c', hv', hnc, hcm, hA⟩ := own_any h.row
  injection hv' with e1 e2 e3
  subst e1 e2 e3
  refine ⟨A, c, rfl, hnc, hcm, hA, fun h0 => ?_⟩
  obtain ⟨g, cap, hv2, hb, hlt, _⟩ := own_form h.row h0
  injection hv2 with e1 _ e3
  subst e1 e3
  refine ⟨g, 0, rfl, hlt, hb, C, fun i hi => ⟨?_, fun j u hu => ?_⟩⟩
  · have hl : l[i]? = some (l.getD i .none) := by simp [hi]
    exact isV_mono (h.each i _ hl) (fun b _ hb => hb.1)
  · have hj : j < 4 := by
      rcases Nat.lt_or_ge j 4 with hh | hh
      · exact hh
      · rw [List.getElem?_eq_none (by rw [h.len]; exact hh)] at hu; cases hu
    rw [Nat.zero_add, own_cellC h.row h.len hi hj]
    exact hu
end Go.Proofs.Ytkdbnkkdohkhjaa
