/- Maps from numbers to numbers that a call makes, with their exact size. -/
import Derived.Test.YtkdbnkkdohkhjaaMapU
import Derived.Maps.RangeWalk
namespace Go.Proofs.Ytkdbnkkdohkhjaa
open Go.RowKit Go.Maps
set_option linter.unusedVariables false
theorem zeroI : ∀ w, (zeroValue 3).run Try.prog w = .ok (.int .i64 0) w := fun w => by kernel_rfl
/-- block b holds the map g, of n entries -/
def OwnMN (w : World) (b n : Nat) (g : Int → Option Int) : Prop :=
  ∃ D : DataW Unit, w.ownsMap Try.prog 3 (plainElem Try.prog 3) b n D ∧ Maps.size D = n ∧ ∀ x, Wf x → has D (.int .i64 x) = (g x).isSome ∧ D.atKey (.int .i64 x) (.lit (.int .i64 0)) = .lit (.int .i64 ((g x).getD 0))
theorem OwnMN.made (w : World) : OwnMN (w.alloc (.map #[] 0)) w.heap.size 0 (fun _ => none) := ⟨.map [], World.ownsMap_made w _ _ _, rfl, fun x _ => ⟨rfl, rfl⟩⟩
theorem OwnMN.kept {w w' : World} {b n : Nat} {g : Int → Option Int} {row : Option Nat} (h : OwnMN w b n g) (hg : w.grownBy w' row) (hne : some b ≠ row) : OwnMN w' b n g := by
  obtain ⟨D, h1, h2⟩ := h
  exact ⟨D, h1.kept hg hne, h2⟩
theorem OwnMN.below {w w' : World} {b n : Nat} {g : Int → Option Int} (h : OwnMN w b n g) (hb : Below w.heap.size w w') : OwnMN w' b n g := h.kept (grown_below (g := none) hb) (by simp)
theorem OwnMN.lt {w : World} {b n : Nat} {g : Int → Option Int} (h : OwnMN w b n g) : b < w.heap.size := by obtain ⟨D, h1, _⟩ := h; exact h1.lt
set_option maxRecDepth 100000 in
theorem OwnMN.look_ok {w : World} {b n : Nat} {g : Int → Option Int} (h : OwnMN w b n g) {x : Int} (hx : Wf x) : (Instr.lookup 136 (.map (some b)) (.int .i64 x) true).run Try.prog w = .ok (.tuple #[.int .i64 ((g x).getD 0), .bool (g x).isSome]) w := by
  obtain ⟨D, h1, _, h2⟩ := h
  obtain ⟨v, ps, hrun, hv⟩ := h1.look_ok lawI Try.underlying136 (zeroI w) (plainElem_int Try.underlying3 (by decide)) (keyI hx)
  rw [(h2 x hx).2] at hv
  obtain ⟨c, rfl, hc, _⟩ := plainElem_int_inv Try.underlying3 hv
  simp only [Prod.mk.injEq] at hc
  have hc1 := hc.1
  injection hc1 with hc1
  injection hc1 with _ hc1
  rw [hrun, (h2 x hx).1, hc1]
set_option maxRecDepth 100000 in
theorem OwnMN.len {w : World} {b n : Nat} {g : Int → Option Int} (h : OwnMN w b n g) (ty : TypeId) : (Builtin.len_ #[136] ty #[.map (some b)]).run Try.prog w = .ok (.int .i64 (n : Int)) w := by
  obtain ⟨D, h1, hs, _⟩ := h
  rw [h1.len Try.underlying136 ty, hs]
/-- how many entries a block's map has -/
def mapLen (w : World) (b : Nat) : Nat := match w.heap[b]? with
  | some (.map es _) => es.size
  | _ => 0
theorem OwnMN.cnt {w : World} {b n : Nat} {g : Int → Option Int} (h : OwnMN w b n g) : mapLen w b = n := by
  obtain ⟨D, ⟨es, clock, hb, F, _, rfl⟩, hs, _⟩ := h
  unfold mapLen
  rw [hb]
  rw [← hs]
  simp [Maps.size, length_sorted]
set_option maxRecDepth 100000 in
theorem wpList_store_N {ops : Array Oper} {rest : List Oper} {o : Oper} {a : Act} {w : World} {Q : Exit → Act → World → Prop} (hg : o.guard = none) (m x v : Operand) (hop : o.op = Op.mapUpdate 136 m x v) (b n : Nat) (g : Int → Option Int)
    (hm : a.eval m = .map (some b)) (hown : OwnMN w b n g) (hn : n < maxLen) (key val : Int) (hnew : g key = none) (hx : a.eval x = .int .i64 key) (hv : a.eval v = .int .i64 val) (hkey : Wf key) (hval : Wf val)
    (hK : ∀ w', OwnMN w' b (n + 1) (fun y => if y = key then some val else g y) → w.grownBy w' (some b) → wpList Try.prog ops Q rest (a.put o.dst undef) w') : wpList Try.prog ops Q (o :: rest) a w := by
  obtain ⟨D, h1, hs, h2⟩ := hown
  refine wpList_mapUpdate_own w hg m x v 136 hop 3 3 lawI Try.underlying136 _ b n D hm h1 hn _ _ _ hx hv (keyI hkey) _ [] (plainElem_int Try.underlying3 hval) fun w' r1 r2 => hK w' ⟨_, r1, ?_, fun y hy => ?_⟩ r2
  · have h3 := (h2 key hkey).1
    rw [hnew] at h3
    rw [size_put (h1.tidy lawI), h3, hs]
    rfl
  · have hKL : WideAt.IsKeyLit (Lit.int .i64 key) := lawI.key (keyI hkey)
    dsimp only
    by_cases e : y = key
    · subst e
      rw [if_pos rfl, has_put_same h1.isMap hKL, atKey_put_same h1.isMap hKL]
      exact ⟨rfl, rfl⟩
    · have hne : (Lit.int .i64 y) ≠ (Lit.int .i64 key) := fun h => e (by injection h)
      rw [if_neg e, has_put_other hne, atKey_put_other hne]
      exact h2 y hy
set_option maxRecDepth 100000 in
theorem OwnMN.store {w : World} {b n : Nat} {g : Int → Option Int} (hown : OwnMN w b n g) (hn : n < maxLen) (key val : Int) (hnew : g key = none) (hkey : Wf key) (hval : Wf val) :
    ∃ w', (Instr.mapUpdate 136 (.map (some b)) (.int .i64 key) (.int .i64 val)).run Try.prog w = .ok () w' ∧ OwnMN w' b (n + 1) (fun y => if y = key then some val else g y) ∧ w.grownBy w' (some b) := by
  obtain ⟨D, h1, hs, h2⟩ := hown
  obtain ⟨w', hrun, r1, r2⟩ := h1.update lawI Try.underlying136 hn (keyI hkey) (plainElem_int Try.underlying3 hval)
  refine ⟨w', hrun, ⟨_, r1, ?_, fun y hy => ?_⟩, r2⟩
  · have h3 := (h2 key hkey).1
    rw [hnew] at h3
    rw [size_put (h1.tidy lawI), h3, hs]
    rfl
  · have hKL : WideAt.IsKeyLit (Lit.int .i64 key) := lawI.key (keyI hkey)
    dsimp only
    by_cases e : y = key
    · subst e
      rw [if_pos rfl, has_put_same h1.isMap hKL, atKey_put_same h1.isMap hKL]
      exact ⟨rfl, rfl⟩
    · have hne : (Lit.int .i64 y) ≠ (Lit.int .i64 key) := fun h => e (by injection h)
      rw [if_neg e, has_put_other hne, atKey_put_other hne]
      exact h2 y hy
end Go.Proofs.Ytkdbnkkdohkhjaa
