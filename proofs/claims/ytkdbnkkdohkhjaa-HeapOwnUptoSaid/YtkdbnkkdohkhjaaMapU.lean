/- Maps from numbers to words that a call makes. -/
import Derived.Test.YtkdbnkkdohkhjaaRow
import Derived.Maps.OwnSet
import Derived.Maps.OwnOps
import Derived.Maps.Views
namespace Go.Proofs.Ytkdbnkkdohkhjaa
open Go.RowKit Go.Maps
set_option linter.unusedVariables false
def Wf (x : Int) : Prop := (Lit.int .i64 x).wf = true
theorem lawI : Keyed Try.prog 3 := int_keyed Try.underlying3
theorem keyI {x : Int} (h : Wf x) : keyOf Try.prog 3 (.int .i64 x) = some (.int .i64 x) := keyOf_int_mk Try.underlying3 h
theorem Wf.of {x : Int} (h1 : -9223372036854775808 ≤ x) (h2 : x ≤ 9223372036854775807) : Wf x := by
  have e1 : IntKind.i64.min = -9223372036854775808 := by decide
  have e2 : IntKind.i64.max = 9223372036854775807 := by decide
  show (decide (IntKind.i64.min ≤ x) && decide (x ≤ IntKind.i64.max)) = true
  rw [e1, e2, Bool.and_eq_true, decide_eq_true_eq, decide_eq_true_eq]
  exact ⟨h1, h2⟩
theorem zeroU : ∀ w, (zeroValue 27).run Try.prog w = .ok (.int .u64 0) w := fun w => by kernel_rfl
/-- block b holds the map g, of at most n entries -/
def OwnMU (w : World) (b n : Nat) (g : Int → Option Int) : Prop :=
  ∃ D : DataW Unit, w.ownsMap Try.prog 3 (plainElem Try.prog 27) b n D ∧ ∀ x, Wf x → has D (.int .i64 x) = (g x).isSome ∧ D.atKey (.int .i64 x) (.lit (.int .u64 0)) = .lit (.int .u64 ((g x).getD 0))
theorem OwnMU.made (w : World) : OwnMU (w.alloc (.map #[] 0)) w.heap.size 0 (fun _ => none) := ⟨.map [], World.ownsMap_made w _ _ _, fun x _ => ⟨rfl, rfl⟩⟩
theorem OwnMU.kept {w w' : World} {b n : Nat} {g : Int → Option Int} {row : Option Nat} (h : OwnMU w b n g) (hg : w.grownBy w' row) (hne : some b ≠ row) : OwnMU w' b n g := by
  obtain ⟨D, h1, h2⟩ := h
  exact ⟨D, h1.kept hg hne, h2⟩
theorem OwnMU.below {w w' : World} {b n : Nat} {g : Int → Option Int} (h : OwnMU w b n g) (hb : Below w.heap.size w w') : OwnMU w' b n g := h.kept (grown_below (g := none) hb) (by simp)
theorem OwnMU.lt {w : World} {b n : Nat} {g : Int → Option Int} (h : OwnMU w b n g) : b < w.heap.size := by obtain ⟨D, h1, _⟩ := h; exact h1.lt
set_option maxRecDepth 100000 in
theorem OwnMU.look_ok {w : World} {b n : Nat} {g : Int → Option Int} (h : OwnMU w b n g) {x : Int} (hx : Wf x) : (Instr.lookup 110 (.map (some b)) (.int .i64 x) true).run Try.prog w = .ok (.tuple #[.int .u64 ((g x).getD 0), .bool (g x).isSome]) w := by
  obtain ⟨D, h1, h2⟩ := h
  obtain ⟨v, ps, hrun, hv⟩ := h1.look_ok lawI Try.underlying110 (zeroU w) (plainElem_int Try.underlying27 (by decide)) (keyI hx)
  rw [(h2 x hx).2] at hv
  obtain ⟨c, rfl, hc, _⟩ := plainElem_int_inv Try.underlying27 hv
  simp only [Prod.mk.injEq] at hc
  have hc1 := hc.1
  injection hc1 with hc1
  injection hc1 with _ hc1
  rw [hrun, (h2 x hx).1, hc1]
set_option maxRecDepth 100000 in
theorem wpList_store_U {ops : Array Oper} {rest : List Oper} {o : Oper} {a : Act} {w : World} {Q : Exit → Act → World → Prop} (hg : o.guard = none) (m x v : Operand) (hop : o.op = Op.mapUpdate 110 m x v) (b n : Nat) (g : Int → Option Int)
    (hm : a.eval m = .map (some b)) (hown : OwnMU w b n g) (hn : n < maxLen) (key val : Int) (hx : a.eval x = .int .i64 key) (hv : a.eval v = .int .u64 val) (hkey : Wf key) (hval : (Lit.int .u64 val).wf = true)
    (hK : ∀ w', OwnMU w' b (n + 1) (fun y => if y = key then some val else g y) → w.grownBy w' (some b) → wpList Try.prog ops Q rest (a.put o.dst undef) w') : wpList Try.prog ops Q (o :: rest) a w := by
  obtain ⟨D, h1, h2⟩ := hown
  refine wpList_mapUpdate_own w hg m x v 110 hop 3 27 lawI Try.underlying110 _ b n D hm h1 hn _ _ _ hx hv (keyI hkey) _ [] (plainElem_int Try.underlying27 hval) fun w' r1 r2 => hK w' ⟨_, r1, fun y hy => ?_⟩ r2
  have hKL : WideAt.IsKeyLit (Lit.int .i64 key) := lawI.key (keyI hkey)
  dsimp only
  by_cases e : y = key
  · subst e
    rw [if_pos rfl, has_put_same h1.isMap hKL, atKey_put_same h1.isMap hKL]
    exact ⟨rfl, rfl⟩
  · have hne : (Lit.int .i64 y) ≠ (Lit.int .i64 key) := fun h => e (by injection h)
    rw [if_neg e, has_put_other hne, atKey_put_other hne]
    exact h2 y hy
end Go.Proofs.Ytkdbnkkdohkhjaa
