/- Maps from numbers to objects that a call makes, with their exact values. -/
import Derived.Test.YtkdbnkkdohkhjaaMapU
import Derived.Maps.RangeWalk
namespace Go.Proofs.Ytkdbnkkdohkhjaa
open Go.RowKit Go.Maps
set_option linter.unusedVariables false
/-- an element stands for itself -/
def anyElem (v : Value) : Option (DataW Value × List MemPlace) := some (.held v, [])
def zeroOb : Value := .agg #[.int .i64 0, .int .i64 0, .int .i64 0, .string ⟨#[]⟩, .slice none 0 0]
theorem zeroObj : ∀ w, (zeroValue 33).run Try.prog w = .ok zeroOb w := fun w => by kernel_rfl
/-- block b holds the map g -/
def OwnMO (w : World) (b n : Nat) (g : Int → Option Value) : Prop :=
  ∃ D : DataW Value, w.ownsMap Try.prog 3 anyElem b n D ∧ ∀ x, Wf x → has D (.int .i64 x) = (g x).isSome ∧ D.atKey (.int .i64 x) (.held zeroOb) = .held ((g x).getD zeroOb)
theorem OwnMO.made (w : World) : OwnMO (w.alloc (.map #[] 0)) w.heap.size 0 (fun _ => none) := ⟨.map [], World.ownsMap_made w _ _ _, fun x _ => ⟨rfl, rfl⟩⟩
theorem OwnMO.kept {w w' : World} {b n : Nat} {g : Int → Option Value} {row : Option Nat} (h : OwnMO w b n g) (hg : w.grownBy w' row) (hne : some b ≠ row) : OwnMO w' b n g := by
  obtain ⟨D, h1, h2⟩ := h
  exact ⟨D, h1.kept hg hne, h2⟩
theorem OwnMO.below {w w' : World} {b n : Nat} {g : Int → Option Value} (h : OwnMO w b n g) (hb : Below w.heap.size w w') : OwnMO w' b n g := h.kept (grown_below (g := none) hb) (by simp)
theorem OwnMO.lt {w : World} {b n : Nat} {g : Int → Option Value} (h : OwnMO w b n g) : b < w.heap.size := by obtain ⟨D, h1, _⟩ := h; exact h1.lt
theorem anyElem_inv {v : Value} {d : DataW Value} {ps : List MemPlace} (h : anyElem v = some (d, ps)) : d = .held v := by
  unfold anyElem at h
  injection h with h
  injection h with h1 h2
  exact h1.symm
set_option maxRecDepth 100000 in
theorem OwnMO.look {w : World} {b n : Nat} {g : Int → Option Value} (h : OwnMO w b n g) {x : Int} (hx : Wf x) : (Instr.lookup 78 (.map (some b)) (.int .i64 x) false).run Try.prog w = .ok ((g x).getD zeroOb) w := by
  obtain ⟨D, h1, h2⟩ := h
  obtain ⟨v, ps, hrun, hv⟩ := h1.lookup lawI Try.underlying78 (zeroObj w) (show anyElem zeroOb = some (.held zeroOb, []) from rfl) (keyI hx)
  rw [(h2 x hx).2] at hv
  have := anyElem_inv hv
  injection this with this
  rw [hrun, this]
set_option maxRecDepth 100000 in
theorem OwnMO.look_ok {w : World} {b n : Nat} {g : Int → Option Value} (h : OwnMO w b n g) {x : Int} (hx : Wf x) : (Instr.lookup 78 (.map (some b)) (.int .i64 x) true).run Try.prog w = .ok (.tuple #[(g x).getD zeroOb, .bool (g x).isSome]) w := by
  obtain ⟨D, h1, h2⟩ := h
  obtain ⟨v, ps, hrun, hv⟩ := h1.look_ok lawI Try.underlying78 (zeroObj w) (show anyElem zeroOb = some (.held zeroOb, []) from rfl) (keyI hx)
  rw [(h2 x hx).2] at hv
  have := anyElem_inv hv
  injection this with this
  rw [hrun, (h2 x hx).1, this]
set_option maxRecDepth 100000 in
theorem wpList_store_O {ops : Array Oper} {rest : List Oper} {o : Oper} {a : Act} {w : World} {Q : Exit → Act → World → Prop} (hg : o.guard = none) (m x v : Operand) (hop : o.op = Op.mapUpdate 78 m x v) (b n : Nat) (g : Int → Option Value)
    (hm : a.eval m = .map (some b)) (hown : OwnMO w b n g) (hn : n < maxLen) (key : Int) (val : Value) (hx : a.eval x = .int .i64 key) (hv : a.eval v = val) (hkey : Wf key)
    (hK : ∀ w', OwnMO w' b (n + 1) (fun y => if y = key then some val else g y) → w.grownBy w' (some b) → wpList Try.prog ops Q rest (a.put o.dst undef) w') : wpList Try.prog ops Q (o :: rest) a w := by
  obtain ⟨D, h1, h2⟩ := hown
  refine wpList_mapUpdate_own w hg m x v 78 hop 3 33 lawI Try.underlying78 _ b n D hm h1 hn _ _ _ hx hv (keyI hkey) _ [] (show anyElem val = some (.held val, []) from rfl) fun w' r1 r2 => hK w' ⟨_, r1, fun y hy => ?_⟩ r2
  have hKL : WideAt.IsKeyLit (Lit.int .i64 key) := lawI.key (keyI hkey)
  dsimp only
  by_cases e : y = key
  · subst e
    rw [if_pos rfl, has_put_same h1.isMap hKL, atKey_put_same h1.isMap hKL]
    exact ⟨rfl, rfl⟩
  · have hne : (Lit.int .i64 y) ≠ (Lit.int .i64 key) := fun h => e (by injection h)
    rw [if_neg e, has_put_other hne, atKey_put_other hne]
    exact h2 y hy
end Go.Proofs.Ytkdbnkkdohkhjaa
