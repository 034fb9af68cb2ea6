/- A row of the call's own stays where other memory changes. -/
import Derived.Test.YtjjfglbcikaicaaGreatRow
namespace Go.Proofs.YtjjfglbcikaicaaGreat
open Go.RowKit
theorem own_keep {w w' : World} {base : Nat} {e : TypeId} {sz n : Nat} {v : Value} {xs : List Value} (h : w.ownsRow base e sz v n xs) (hb : Below w.heap.size w w') : w'.ownsRow base e sz v n xs := by
  refine h.kept (row := none) ⟨hb.os, hb.tape, hb.output, hb.size, fun k hk _ => hb.block k hk⟩ ?_
  cases hv : v.ownBlock with
  | none => exact .inl rfl
  | some g => exact .inr (by simp)
theorem own_set {w : World} {base : Nat} {e : TypeId} {sz n : Nat} {v : Value} {xs : List Value} {b o : Nat} {u : Value} (h : w.ownsRow base e sz v n xs) (hb : b < base) : (w.setCell ⟨b, o, none⟩ u).ownsRow base e sz v n xs := by
  refine h.kept (row := some b) ⟨rfl, rfl, rfl, by simp, fun k _ hk => heap_setCell_other w ⟨b, o, none⟩ k u (fun e => hk (by simp [e]))⟩ ?_
  cases hv : v.ownBlock with
  | none => exact .inl rfl
  | some g =>
    have := (h.lt g hv).1
    refine .inr ?_
    intro hh
    injection hh with hh
    omega
end Go.Proofs.YtjjfglbcikaicaaGreat
