/- Sets of numbers that a call makes: maps to Booleans, all true, with their exact size. -/
import Derived.Test.YtkdbnkkdohkhjaaMapN
namespace Go.Proofs.Ytkdbnkkdohkhjaa
open Go.RowKit Go.Maps
set_option linter.unusedVariables false
theorem zeroB : ∀ w, (zeroValue 4).run Try.prog w = .ok (.bool false) w := fun w => by kernel_rfl
/-- block b holds the set p, of n numbers -/
def OwnMS (w : World) (b n : Nat) (p : Int → Bool) : Prop :=
  ∃ D : DataW Unit, w.ownsMap Try.prog 3 (plainElem Try.prog 4) b n D ∧ Maps.size D = n ∧ ∀ x, Wf x → has D (.int .i64 x) = p x ∧ D.atKey (.int .i64 x) (.lit (.bool false)) = .lit (.bool (p x))
theorem OwnMS.made (w : World) : OwnMS (w.alloc (.map #[] 0)) w.heap.size 0 (fun _ => false) := ⟨.map [], World.ownsMap_made w _ _ _, rfl, fun x _ => ⟨rfl, rfl⟩⟩
theorem OwnMS.kept {w w' : World} {b n : Nat} {p : Int → Bool} {row : Option Nat} (h : OwnMS w b n p) (hg : w.grownBy w' row) (hne : some b ≠ row) : OwnMS w' b n p := by
  obtain ⟨D, h1, h2⟩ := h
  exact ⟨D, h1.kept hg hne, h2⟩
theorem OwnMS.below {w w' : World} {b n : Nat} {p : Int → Bool} (h : OwnMS w b n p) (hb : Below w.heap.size w w') : OwnMS w' b n p := h.kept (grown_below (g := none) hb) (by simp)
theorem OwnMS.lt {w : World} {b n : Nat} {p : Int → Bool} (h : OwnMS w b n p) : b < w.heap.size := by obtain ⟨D, h1, _⟩ := h; exact h1.lt
theorem OwnMS.cnt {w : World} {b n : Nat} {p : Int → Bool} (h : OwnMS w b n p) : mapLen w b = n := by
  obtain ⟨D, ⟨es, clock, hb, F, _, rfl⟩, hs, _⟩ := h
  unfold mapLen
  rw [hb]
  rw [← hs]
  simp [Maps.size, length_sorted]
set_option maxRecDepth 100000 in
theorem plainElem_bool_inv {v : Value} {z : DataW Unit × List MemPlace} (h : plainElem Try.prog 4 v = some z) : ∃ x, v = .bool x ∧ z = (.lit (.bool x), []) := by
  unfold plainElem at h
  rw [Try.underlying4] at h
  cases v <;> simp at h
  exact ⟨_, rfl, h.symm⟩
set_option maxRecDepth 100000 in
theorem OwnMS.look {w : World} {b n : Nat} {p : Int → Bool} (h : OwnMS w b n p) {x : Int} (hx : Wf x) : (Instr.lookup 132 (.map (some b)) (.int .i64 x) false).run Try.prog w = .ok (.bool (p x)) w := by
  obtain ⟨D, h1, _, h2⟩ := h
  obtain ⟨v, ps, hrun, hv⟩ := h1.lookup lawI Try.underlying132 (zeroB w) (plainElem_bool Try.underlying4 false) (keyI hx)
  rw [(h2 x hx).2] at hv
  obtain ⟨c, rfl, hc⟩ := plainElem_bool_inv hv
  simp only [Prod.mk.injEq] at hc
  have hc1 := hc.1
  injection hc1 with hc1
  injection hc1 with hc1
  rw [hrun, hc1]
set_option maxRecDepth 100000 in
theorem wpList_store_S {ops : Array Oper} {rest : List Oper} {o : Oper} {a : Act} {w : World} {Q : Exit → Act → World → Prop} (hg : o.guard = none) (m x v : Operand) (hop : o.op = Op.mapUpdate 132 m x v) (b n : Nat) (p : Int → Bool)
    (hm : a.eval m = .map (some b)) (hown : OwnMS w b n p) (hn : n < maxLen) (key : Int) (hnew : p key = false) (hx : a.eval x = .int .i64 key) (hv : a.eval v = .bool true) (hkey : Wf key)
    (hK : ∀ w', OwnMS w' b (n + 1) (fun y => if y = key then true else p y) → w.grownBy w' (some b) → wpList Try.prog ops Q rest (a.put o.dst undef) w') : wpList Try.prog ops Q (o :: rest) a w := by
  obtain ⟨D, h1, hs, h2⟩ := hown
  refine wpList_mapUpdate_own w hg m x v 132 hop 3 4 lawI Try.underlying132 _ b n D hm h1 hn _ _ _ hx hv (keyI hkey) _ [] (plainElem_bool Try.underlying4 true) fun w' r1 r2 => hK w' ⟨_, r1, ?_, fun y hy => ?_⟩ r2
  · have h3 := (h2 key hkey).1
    rw [hnew] at h3
    rw [size_put (h1.tidy lawI), h3, hs]
    rfl
  · have hKL : WideAt.IsKeyLit (Lit.int .i64 key) := lawI.key (keyI hkey)
    dsimp only
    by_cases e : y = key
    · subst e
      rw [if_pos rfl, has_put_same h1.isMap hKL, atKey_put_same h1.isMap hKL]
      exact ⟨rfl, rfl⟩
    · have hne : (Lit.int .i64 y) ≠ (Lit.int .i64 key) := fun h => e (by injection h)
      rw [if_neg e, has_put_other hne, atKey_put_other hne]
      exact h2 y hy
/-- the set of a list of indices -/
def setI (V : List Nat) : Int → Bool := fun x => decide (0 ≤ x ∧ x.toNat ∈ V)
theorem setI_at (V : List Nat) (a : Nat) : setI V (a : Int) = decide (a ∈ V) := by
  unfold setI
  simp
theorem setI_nil : setI [] = fun _ => false := by funext x; simp [setI]
theorem setI_cons (a : Nat) (V : List Nat) : setI (a :: V) = fun y => if y = (a : Int) then true else setI V y := by
  funext y
  unfold setI
  by_cases e : y = (a : Int)
  · subst e; simp
  · rw [if_neg e]
    by_cases h0 : 0 ≤ y
    · have : y.toNat ≠ a := by omega
      simp [h0, this]
    · simp [h0]
end Go.Proofs.Ytkdbnkkdohkhjaa
