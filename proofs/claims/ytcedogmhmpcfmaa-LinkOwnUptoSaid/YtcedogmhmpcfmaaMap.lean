/- Maps from numbers that a call makes: to numbers, and to Booleans. -/
import Derived.Test.YtcedogmhmpcfmaaRow
import Derived.Maps.OwnSet
import Derived.Maps.OwnOps
import Derived.Maps.Views
namespace Go.Proofs.Ytcedogmhmpcfmaa
open Go.RowKit Go.Maps
set_option linter.unusedVariables false
def Wf (x : Int) : Prop := (Lit.int .i64 x).wf = true
theorem lawI : Keyed Try.prog 3 := int_keyed Try.underlying3
theorem keyI {x : Int} (h : Wf x) : keyOf Try.prog 3 (.int .i64 x) = some (.int .i64 x) := keyOf_int_mk Try.underlying3 h
theorem Wf.of {x : Int} (h1 : -9223372036854775808 ≤ x) (h2 : x ≤ 9223372036854775807) : Wf x := by
  have e1 : IntKind.i64.min = -9223372036854775808 := by decide
  have e2 : IntKind.i64.max = 9223372036854775807 := by decide
  show (decide (IntKind.i64.min ≤ x) && decide (x ≤ IntKind.i64.max)) = true
  rw [e1, e2, Bool.and_eq_true, decide_eq_true_eq, decide_eq_true_eq]
  exact ⟨h1, h2⟩
theorem zeroB : ∀ w, (zeroValue 4).run Try.prog w = .ok (.bool false) w := fun w => by kernel_rfl
/-- block b holds the set p, of at most n entries -/
def OwnMB (w : World) (b n : Nat) (p : Int → Bool) : Prop :=
  ∃ D : DataW Unit, w.ownsMap Try.prog 3 (plainElem Try.prog 4) b n D ∧ ∀ x, Wf x → D.atKey (.int .i64 x) (.lit (.bool false)) = .lit (.bool (p x))
theorem OwnMB.made (w : World) : OwnMB (w.alloc (.map #[] 0)) w.heap.size 0 (fun _ => false) := ⟨.map [], World.ownsMap_made w _ _ _, fun x _ => rfl⟩
theorem OwnMB.kept {w w' : World} {b n : Nat} {p : Int → Bool} {row : Option Nat} (h : OwnMB w b n p) (hg : w.grownBy w' row) (hne : some b ≠ row) : OwnMB w' b n p := by
  obtain ⟨D, h1, h2⟩ := h
  exact ⟨D, h1.kept hg hne, h2⟩
theorem OwnMB.lt {w : World} {b n : Nat} {p : Int → Bool} (h : OwnMB w b n p) : b < w.heap.size := by obtain ⟨D, h1, _⟩ := h; exact h1.lt
set_option maxRecDepth 100000 in
theorem plainElem_bool_inv {v : Value} {z : DataW Unit × List MemPlace} (h : plainElem Try.prog 4 v = some z) : ∃ x, v = .bool x ∧ z = (.lit (.bool x), []) := by
  unfold plainElem at h
  rw [Try.underlying4] at h
  cases v <;> simp at h
  exact ⟨_, rfl, h.symm⟩
set_option maxRecDepth 100000 in
theorem OwnMB.look {w : World} {b n : Nat} {p : Int → Bool} (h : OwnMB w b n p) {x : Int} (hx : Wf x) : (Instr.lookup 144 (.map (some b)) (.int .i64 x) false).run Try.prog w = .ok (.bool (p x)) w := by
  obtain ⟨D, h1, h2⟩ := h
  obtain ⟨v, ps, hrun, hv⟩ := h1.lookup lawI Try.underlying144 (zeroB w) (plainElem_bool Try.underlying4 false) (keyI hx)
  rw [h2 x hx] at hv
  obtain ⟨c, rfl, hc⟩ := plainElem_bool_inv hv
  simp only [Prod.mk.injEq] at hc
  have hc1 := hc.1
  injection hc1 with hc1
  injection hc1 with hc1
  rw [hrun, hc1]
set_option maxRecDepth 100000 in
theorem wpList_store_B {ops : Array Oper} {rest : List Oper} {o : Oper} {a : Act} {w : World} {Q : Exit → Act → World → Prop} (hg : o.guard = none) (m x v : Operand) (hop : o.op = Op.mapUpdate 144 m x v) (b n : Nat) (p : Int → Bool)
    (hm : a.eval m = .map (some b)) (hown : OwnMB w b n p) (hn : n < maxLen) (key : Int) (val : Bool) (hx : a.eval x = .int .i64 key) (hv : a.eval v = .bool val) (hkey : Wf key)
    (hK : ∀ w', OwnMB w' b (n + 1) (fun y => if y = key then val else p y) → w.grownBy w' (some b) → wpList Try.prog ops Q rest (a.put o.dst undef) w') : wpList Try.prog ops Q (o :: rest) a w := by
  obtain ⟨D, h1, h2⟩ := hown
  refine wpList_mapUpdate_own w hg m x v 144 hop 3 4 lawI Try.underlying144 _ b n D hm h1 hn _ _ _ hx hv (keyI hkey) _ [] (plainElem_bool Try.underlying4 val) fun w' r1 r2 => hK w' ⟨_, r1, fun y hy => ?_⟩ r2
  have hKL : WideAt.IsKeyLit (Lit.int .i64 key) := lawI.key (keyI hkey)
  dsimp only
  by_cases e : y = key
  · subst e
    rw [if_pos rfl, atKey_put_same h1.isMap hKL]
  · have hne : (Lit.int .i64 y) ≠ (Lit.int .i64 key) := fun h => e (by injection h)
    rw [if_neg e, atKey_put_other hne]
    exact h2 y hy
end Go.Proofs.Ytcedogmhmpcfmaa
