/- What a pattern binds: plain facts. -/
import Derived.Test.YtjalgnpbdcefdaaPickSays
import Derived.Test.YtjalgnpbdcefdaaRow
import Derived.Test.YtjalgnpbdcefdaaSame
namespace Go.Proofs.Ytjalgnpbdcefdaa
open Go.RowKit
set_option linter.unusedVariables false
/-- a literal pattern and a value -/
def litB : VT → VT → Bool
  | .node pk pm ps _ _, .node k m s _ _ => (pk == 3 && (k == 2 && m == pm)) || (pk == 4 && (k == 3 && m == pm)) || (pk == 5 && (k == 4 && s.toList == ps.toList))
  | _, _ => false
/-- one step after another, as long as each answers -/
def bindTo (f : Nat → List VT → Option (List VT)) : Nat → List VT → Option (List VT)
  | 0, o => some o
  | n + 1, o => match bindTo f n o with
    | none => none
    | some o' => f n o'
/-- what is bound, behind what is there -/
def VT.bind : VT → VT → List VT → Option (List VT)
  | .none, _, _ => Option.none
  | .node pk pm ps pn pa, v, o =>
    if pk = 1 then some o else if pk = 2 then some (o ++ [v]) else if pk = 6 then
      (match v with
      | .none => Option.none
      | .node k _ s n a => if k = 5 ∧ s.toList = ps.toList ∧ n = pn then bindTo (fun i => (pa i).bind (a i)) pn o else Option.none)
    else if litB (.node pk pm ps pn pa) v then some o else Option.none
theorem bind_node (pk pm : Int) (ps : ByteArray) (pn : Nat) (pa : Nat → VT) (v : VT) (o : List VT) : (VT.node pk pm ps pn pa).bind v o =
    if pk = 1 then some o else if pk = 2 then some (o ++ [v]) else if pk = 6 then
      (match v with
      | .none => Option.none
      | .node k _ s n a => if k = 5 ∧ s.toList = ps.toList ∧ n = pn then bindTo (fun i => (pa i).bind (a i)) pn o else Option.none)
    else if litB (.node pk pm ps pn pa) v then some o else Option.none := by
  cases v <;> rfl
/-- how many names a pattern has -/
def VT.names : VT → Nat
  | .none => 0
  | .node pk _ _ pn pa => if pk = 2 then 1 else if pk = 6 then sumTo (fun i => (pa i).names) pn else 0
theorem names_many : ∀ t : VT, t.names ≤ t.many := by
  intro t
  induction t with
  | none => exact Nat.le_refl _
  | node pk pm ps pn pa ih =>
    have : ∀ k, sumTo (fun i => (pa i).names) k ≤ sumTo (fun i => (pa i).many) k := fun k => sumTo_le fun i _ => ih i
    have := this pn
    simp only [VT.names, VT.many]
    split
    · omega
    · split <;> omega
theorem bindTo_none {f : Nat → List VT → Option (List VT)} {o : List VT} {a b : Nat} (h : bindTo f a o = none) (hab : a ≤ b) : bindTo f b o = none := by
  induction b with
  | zero => obtain rfl : a = 0 := by omega
            exact h
  | succ b ih =>
    by_cases e : a = b + 1
    · rw [← e]; exact h
    · simp only [bindTo, ih (by omega)]
theorem bindTo_len {f : Nat → List VT → Option (List VT)} {g : Nat → Nat} {n : Nat} (hf : ∀ i, i < n → ∀ o o', f i o = some o' → o'.length = o.length + g i) : ∀ {o o'}, bindTo f n o = some o' → o'.length = o.length + sumTo g n := by
  induction n with
  | zero => intro o o' h; simp only [bindTo, Option.some.injEq] at h; subst h; rfl
  | succ n ih =>
    intro o o' h
    simp only [bindTo] at h
    cases e : bindTo f n o with
    | none => rw [e] at h; cases h
    | some q =>
      rw [e] at h
      have h1 := ih (fun i hi => hf i (by omega)) e
      have h2 := hf n (by omega) q o' h
      simp only [sumTo]
      omega
theorem bind_len : ∀ (p v : VT) (o o' : List VT), p.bind v o = some o' → o'.length = o.length + p.names := by
  intro p
  induction p with
  | none => intro v o o' h; cases h
  | node pk pm ps pn pa ih =>
    intro v o o' h
    rw [bind_node] at h
    simp only [VT.names]
    by_cases h1 : pk = 1
    · subst h1; simp at h; subst h; simp
    · by_cases h2 : pk = 2
      · subst h2; simp at h; subst h; simp
      · by_cases h6 : pk = 6
        · subst h6
          simp only [h1, h2, if_false, if_true] at h ⊢
          cases v with
          | none => cases h
          | node k m s n a =>
            dsimp only at h
            split at h
            · exact bindTo_len (fun i _ o o' hh => ih i (a i) o o' hh) h
            · cases h
        · simp only [h1, h2, h6, if_false] at h ⊢
          split at h
          · injection h with h; subst h; rfl
          · cases h
theorem bindTo_mem {f : Nat → List VT → Option (List VT)} {P : VT → Prop} {n : Nat} (hf : ∀ i, i < n → ∀ o o', (∀ t ∈ o, P t) → f i o = some o' → ∀ t ∈ o', P t) : ∀ {o o'}, (∀ t ∈ o, P t) → bindTo f n o = some o' → ∀ t ∈ o', P t := by
  induction n with
  | zero => intro o o' ho h; simp only [bindTo, Option.some.injEq] at h; subst h; exact ho
  | succ n ih =>
    intro o o' ho h
    simp only [bindTo] at h
    cases e : bindTo f n o with
    | none => rw [e] at h; cases h
    | some q =>
      rw [e] at h
      exact hf n (by omega) q o' (ih (fun i hi => hf i (by omega)) ho e) h
/-- each bound value is no larger than the whole -/
theorem bind_mem (M : Nat) : ∀ (p v : VT) (o o' : List VT), v.many ≤ M → (∀ t ∈ o, t.many ≤ M) → p.bind v o = some o' → ∀ t ∈ o', t.many ≤ M := by
  intro p
  induction p with
  | none => intro v o o' hv ho h; cases h
  | node pk pm ps pn pa ih =>
    intro v o o' hv ho h
    rw [bind_node] at h
    by_cases h1 : pk = 1
    · subst h1; simp at h; subst h; exact ho
    · by_cases h2 : pk = 2
      · subst h2; simp at h; subst h
        intro t ht
        rcases List.mem_append.1 ht with ht | ht
        · exact ho t ht
        · simp at ht; subst ht; exact hv
      · by_cases h6 : pk = 6
        · subst h6
          simp only [h1, h2, if_false, if_true] at h
          cases v with
          | none => cases h
          | node k m s n a =>
            dsimp only at h
            split at h
            · rename_i hc
              obtain ⟨_, _, rfl⟩ := hc
              refine bindTo_mem (P := fun t => t.many ≤ M) (fun i hi o o' ho' hh => ih i (a i) o o' ?_ ho' hh) ho h
              have := le_sumTo (g := fun i => (a i).many) hi
              simp only [VT.many] at hv
              omega
            · cases h
        · simp only [h1, h2, h6, if_false] at h
          split at h
          · injection h with h; subst h; exact ho
          · cases h
/-- the first pattern that matches, from none on -/
def hitB (p v : VT) : Bool := (p.bind v []).isSome
def firstOf (l : Nat → VT) (v : VT) : Nat → Int
  | 0 => -1
  | n + 1 => if firstOf l v n = -1 ∧ hitB (l n) v = true then (n : Int) else firstOf l v n
theorem firstOf_none {l : Nat → VT} {v : VT} {n : Nat} (h : ∀ i, i < n → hitB (l i) v = false) : firstOf l v n = -1 := by
  induction n with
  | zero => rfl
  | succ n ih => simp only [firstOf, h n (by omega), ih (fun i hi => h i (by omega))]; simp
theorem firstOf_at {l : Nat → VT} {v : VT} {k n : Nat} (h : ∀ i, i < k → hitB (l i) v = false) (hk : hitB (l k) v = true) (hn : k < n) : firstOf l v n = (k : Int) := by
  induction n with
  | zero => omega
  | succ n ih =>
    by_cases e : k = n
    · subst e
      simp [firstOf, firstOf_none h, hk]
    · simp only [firstOf, ih (by omega)]
      rw [if_neg (by rintro ⟨h, _⟩; omega)]
theorem firstOf_range (l : Nat → VT) (v : VT) (n : Nat) : -1 ≤ firstOf l v n ∧ firstOf l v n < (n : Int) ∧ firstOf l v n ≤ n := by
  induction n with
  | zero => simp [firstOf]
  | succ n ih => simp only [firstOf]; split <;> omega
/-- a row of the call's own whose elements hold the values l, which lie in older blocks -/
structure BRow (w : World) (B : Nat) (v : Value) (l : List VT) (C : Nat → List Value) : Prop where
  row : w.ownsRow B 27 4 v l.length (flatC C l.length)
  len : ∀ i, (C i).length = 4
  each : ∀ i (t : VT), l[i]? = some t → t.isV w (fun b => b < B) (C i)
theorem BRow.nil (w : World) (B : Nat) : BRow w B (.slice none 0 0) [] (fun _ => List.replicate 4 undef) := ⟨World.ownsRow_nil _ _ _ _, fun _ => by simp, fun i t h => by simp at h⟩
theorem BRow.grown {w w' : World} {B : Nat} {v : Value} {l : List VT} {C : Nat → List Value} {row : Option Nat} (h : BRow w B v l C) (hg : w.grownBy w' row) (hr : ∀ k, row = some k → B ≤ k ∧ v.ownBlock ≠ some k) : BRow w' B v l C :=
  ⟨own_grown h.row hg (fun k hk e => (hr k e).2 hk), h.len, fun i t ht => isV_grown (h.each i t ht) hg (fun b hb _ => ⟨fun e => by have := (hr b e.symm).1; omega, hb⟩)⟩
/-- one value more -/
theorem BRow.snoc {w w' : World} {B : Nat} {v v' : Value} {l : List VT} {C : Nat → List Value} (h : BRow w B v l C) (t : VT) (cs : List Value) (hcs : cs.length = 4) (hg : w.grownBy w' v.ownBlock)
    (hO : w'.ownsRow B 27 4 v' (l.length + 1) (flatC C l.length ++ cs)) (ht : t.isV w (fun b => b < B) cs) : BRow w' B v' (l ++ [t]) (updC C l.length cs) := by
  have hne : ∀ b, b < B → some b ≠ v.ownBlock := fun b hb e => by have := (h.row.lt b e.symm).1; omega
  have flatA : flatC C l.length ++ cs = flatC (updC C l.length cs) (l.length + 1) := by
    rw [flatC]
    congr 1
    · apply flatC_congr
      intro i hi
      have : i ≠ l.length := by omega
      simp [updC, this]
    · simp [updC]
  refine ⟨?_, fun i => ?_, fun i x hx => ?_⟩
  · rw [flatA] at hO
    rw [List.length_append]
    exact hO
  · unfold updC; split
    · exact hcs
    · exact h.len i
  · by_cases e : i = l.length
    · subst e
      simp at hx
      subst hx
      simp only [updC, if_true]
      exact isV_grown ht hg (fun b hb _ => ⟨hne b hb, hb⟩)
    · have hi : i < l.length := by
        have := (List.getElem?_eq_some_iff.1 hx).1
        simp at this
        omega
      rw [List.getElem?_append_left hi] at hx
      simp only [updC, e, if_false]
      exact isV_grown (h.each i x hx) hg (fun b hb _ => ⟨hne b hb, hb⟩)
def BindNo (row : Option Nat) (w : World) (e : Ending) (w' : World) : Prop := ∃ x, e = .returned (.tuple #[x, .bool false]) ∧ w.grownBy w' row
def BindYes (B : Nat) (o' : List VT) (row : Option Nat) (w : World) (e : Ending) (w' : World) : Prop :=
  ∃ v' C', e = .returned (.tuple #[v', .bool true]) ∧ BRow w' B v' o' C' ∧ w.grownBy w' row ∧ (v'.ownBlock = row ∨ ∃ k, v'.ownBlock = some k ∧ w.heap.size ≤ k)
def BindPost (p v : VT) (o : List VT) (B : Nat) (row : Option Nat) (w : World) (e : Ending) (w' : World) : Prop :=
  (p.bind v o = none ∧ BindNo row w e w') ∨ (∃ o', p.bind v o = some o' ∧ BindYes B o' row w e w')
/-- from another start: the own row may have moved -/
theorem bind_more {B : Nat} {o' : List VT} {row r1 : Option Nat} {w w1 : World} {e : Ending} {w' : World} (hg : w.grownBy w1 row) (hr : r1 = row ∨ ∃ k, r1 = some k ∧ w.heap.size ≤ k) (h : BindYes B o' r1 w1 e w') : BindYes B o' row w e w' := by
  obtain ⟨v', C', he, hR, hg2, hat⟩ := h
  refine ⟨v', C', he, hR, grown_step hg hg2 ?_, ?_⟩
  · rcases hr with rfl | ⟨k, rfl, hk⟩
    · exact .inl rfl
    · exact .inr (fun j hj => by injection hj with hj; omega)
  · have hs := hg.size
    rcases hat with e2 | ⟨k, e2, hk⟩
    · rcases hr with rfl | ⟨k, e3, hk⟩
      · exact .inl e2
      · exact .inr ⟨k, e2.trans e3, hk⟩
    · exact .inr ⟨k, e2, by omega⟩
end Go.Proofs.Ytjalgnpbdcefdaa
