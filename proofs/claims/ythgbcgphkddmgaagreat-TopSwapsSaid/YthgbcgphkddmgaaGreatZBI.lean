/- How a cluster with live lines lies in memory. A cluster with live lines: what a change of some of its blocks leaves. A cluster with live lines: one change. A cluster with live lines: rows of letters, the air, the log, who is held. Maps from ways: m[k] = append(m[k], ..). -/
import Derived.Test.YthgbcgphkddmgaaGreatZBH
import Derived.Test.YthgbcgphkddmgaaGreatZAI
import Derived.WideKeyEntry
namespace Go.Proofs.YthgbcgphkddmgaaGreat
open Go.RowKit Go.Maps
set_option linter.unusedVariables false
set_option linter.unusedSimpArgs false
/-- the rows of a cluster -/
inductive RBk
  | Out (i k : Nat) | Inn (i k : Nat)
  | Wt (i k : Nat) | Tr (i k : Nat)
  | Air | Log
  deriving DecidableEq
def RBk.ok (n : Nat) : RBk → Prop
  | .Out i k => i < n ∧ k < n ∧ i ≠ k
  | .Inn i k => i < n ∧ k < n ∧ i ≠ k
  | .Wt i k => i < n ∧ k < n ∧ i ≠ k
  | .Tr i k => i < n ∧ k < n ∧ i ≠ k
  | _ => True
/-- a cluster: its lines, what waits for them, what is under way, what is in the air; ways by places, from 0 -/
structure GcS where
  n : Nat
  nd : Nat → NdS
  cnt : Nat → Int
  tab : Nat → Nat → Option Nm.RW
  held : Int → Bool
  hn : Nat
  en : Nat → Nat → EnS
  wt : Nat → Nat → List FL
  tr : Nat → Nat → List FL
  air : List ((Nat × Nat) × PK)
  ll : Nat
def flN (l : List FL) (j : Nat) : FL := l.getD j zFL
def flC (l : List FL) (Z : Nat → Value) (j : Nat) : List Value := [.int .i64 1, .int .i64 ((flN l j).frm : Int), .int .i64 ((flN l j).dst : Int), .int .i64 0, .string ⟨#[]⟩, .int .i64 2, .int .i64 ((flN l j).num : Int), .string ⟨#[]⟩, Z j]
/-- a row of letters, as a queue -/
def FlR (w : World) (base : Nat) (v : Value) (l : List FL) : Prop := ∃ Z : Nat → Value, (∀ j, ∃ A c, Z j = .slice A 0 c) ∧ QR w base 154 9 v l.length (flatC (flC l Z) l.length)
def zAir : (Nat × Nat) × PK := ((0, 0), zPK)
def airN (l : List ((Nat × Nat) × PK)) (j : Nat) : (Nat × Nat) × PK := l.getD j zAir
def airC (l : List ((Nat × Nat) × PK)) (W : Nat → Value) (j : Nat) : List Value := .int .i64 (((airN l j).1.1 + 1 : Nat) : Int) :: .int .i64 (((airN l j).1.2 + 1 : Nat) : Int) :: pkV (airN l j).2 (W j)
/-- the air; bodies lie in Bd -/
def AirR (w : World) (base : Nat) (Bd : Nat → Prop) (v : Value) (l : List ((Nat × Nat) × PK)) : Prop :=
  ∃ W, w.ownsRow base 126 7 v l.length (flatC (airC l W) l.length) ∧ ∀ j, j < l.length → PkBody w Bd (W j) (airN l j).2.body
theorem QR.fr {D : Nat → Prop} {w w' : World} {base : Nat} {e : TypeId} {sz n : Nat} {v : Value} {xs : List Value} (h : QR w base e sz v n xs) (hf : Fr D w w') (hn : ∀ k, v.ownBlock = some k → ¬ D k) : QR w' base e sz v n xs := by
  obtain ⟨h1, ao, cap, rfl, h3, h4, h5, h6⟩ := h
  refine ⟨h1, ao, cap, rfl, h3, h4, h5, fun h0 => ?_⟩
  obtain ⟨b, off, cur, rfl, hb, hh, hs, hx⟩ := h6 h0
  have hlt : b < w.heap.size := by
    rcases Nat.lt_or_ge b w.heap.size with hlt | hge
    · exact hlt
    · rw [Array.getElem?_eq_none hge] at hh; cases hh
  exact ⟨b, off, cur, rfl, hb, (hf.block b hlt (hn b rfl)).trans hh, hs, hx⟩
theorem countP_set {p p' : Nat → Bool} {a : Nat} (h : ∀ x, x ≠ a → p' x = p x) (h1 : p' a = true) : ∀ l : List Nat, l.Nodup → a ∈ l → l.countP p' = l.countP p + if p a = true then 0 else 1
  | [], _, ha => by cases ha
  | b :: l, hn, ha => by
    rw [List.nodup_cons] at hn
    rw [List.countP_cons, List.countP_cons]
    by_cases e : b = a
    · subst e
      have : l.countP p' = l.countP p := List.countP_congr (fun x hx => by rw [h x (fun e => hn.1 (e ▸ hx))])
      rw [this, h1]
      cases p b <;> simp
    · have hal : a ∈ l := by
        rcases List.mem_cons.1 ha with h2 | h2
        · exact absurd h2.symm e
        · exact h2
      rw [countP_set h h1 l hn.2 hal, h b e]
      omega
/-- how many ways a map knows -/
def cntW (g : Nat → Nat → Option Value) : Nat := (List.range 81).countP fun q => (g (q / 9) (q % 9)).isSome
theorem cntW_le (g : Nat → Nat → Option Value) : cntW g ≤ 81 := by
  have := List.countP_le_length (p := fun q => (g (q / 9) (q % 9)).isSome) (l := List.range 81)
  rw [List.length_range] at this
  exact this
theorem cntW_set (g : Nat → Nat → Option Value) {i k : Nat} (hi : i < 9) (hk : k < 9) (v : Value) : cntW (fun x y => if x = i ∧ y = k then some v else g x y) = cntW g + if (g i k).isSome = true then 0 else 1 := by
  have e1 : (i * 9 + k) / 9 = i := by omega
  have e2 : (i * 9 + k) % 9 = k := by omega
  have := countP_set (p := fun q => (g (q / 9) (q % 9)).isSome) (p' := fun q => (if q / 9 = i ∧ q % 9 = k then some v else g (q / 9) (q % 9)).isSome) (a := i * 9 + k) (fun x hx => by
    show Option.isSome (if x / 9 = i ∧ x % 9 = k then some v else g (x / 9) (x % 9)) = _
    rw [if_neg (by omega)]) (by
    show Option.isSome (if (i * 9 + k) / 9 = i ∧ (i * 9 + k) % 9 = k then some v else g ((i * 9 + k) / 9) ((i * 9 + k) % 9)) = true
    rw [if_pos ⟨e1, e2⟩]; rfl) (List.range 81) List.nodup_range (List.mem_range.2 (by omega))
  simp only [e1, e2] at this
  exact this
/-- where the map of rows says that a row lies -/
def WayMap (w : World) (b n : Nat) (f : Nat → Nat → Value) : Prop := ∃ m g, m ≤ cntW g ∧ OwnW w b m g ∧ ∀ i k, i < n → k < n → i ≠ k → (g (i + 1) (k + 1)).getD (.slice none 0 0) = f i k
theorem WayMap.fr {D : Nat → Prop} {w w' : World} {b n : Nat} {f : Nat → Nat → Value} (h : WayMap w b n f) (hf : Fr D w w') (hn : ¬ D b) : WayMap w' b n f := by
  obtain ⟨m, g, h1, h2, h3⟩ := h
  exact ⟨m, g, h1, h2.fr hf hn, h3⟩
structure GcP (w : World) (bl : CBk → Nat) (n : Nat) (va vl : Value) : Prop where
  c0 : ∃ c, w.cell? ⟨bl .P, 0, none⟩ = some (.slice (some ⟨bl .Va, 0, none⟩) n c)
  c1 : ∃ c, w.cell? ⟨bl .P, 1, none⟩ = some (.slice (some ⟨bl .Vb, 0, none⟩) n c)
  c2 : w.cell? ⟨bl .P, 2, none⟩ = some (.map (some (bl .Me)))
  c3 : w.cell? ⟨bl .P, 3, none⟩ = some (.map (some (bl .Mw)))
  c4 : w.cell? ⟨bl .P, 4, none⟩ = some (.map (some (bl .Mt)))
  c5 : w.cell? ⟨bl .P, 5, none⟩ = some va
  c6 : w.cell? ⟨bl .P, 6, none⟩ = some (.map (some (bl .Mo)))
  c7 : w.cell? ⟨bl .P, 7, none⟩ = some (.map (some (bl .Mh)))
  c8 : w.cell? ⟨bl .P, 8, none⟩ = some vl
  fz : ∀ o, w.frozen? ⟨bl .P, o, none⟩ = false
theorem GcP.fr {D : Nat → Prop} {w w' : World} {bl : CBk → Nat} {n : Nat} {va vl : Value} (h : GcP w bl n va vl) (hf : Fr D w w') (hn : ¬ D (bl .P)) : GcP w' bl n va vl := by
  obtain ⟨a, ha⟩ := h.c0
  obtain ⟨b, hb⟩ := h.c1
  exact ⟨⟨a, hf.cell ha hn⟩, ⟨b, hf.cell hb hn⟩, hf.cell h.c2 hn, hf.cell h.c3 hn, hf.cell h.c4 hn, hf.cell h.c5 hn, hf.cell h.c6 hn, hf.cell h.c7 hn, hf.cell h.c8 hn, fun o => (hf.frozen (World.block_lt_of_cell? w _ ha) hn).trans (h.fz o)⟩
/-- what lies behind a block -/
def ConC (w : World) (base : Nat) (bl : CBk → Nat) (rv : RBk → Value) (pn : Nat → Nat) (Bd : Nat → Prop) (C : GcS) : CBk → Prop
  | .P => GcP w bl C.n (rv .Air) (rv .Log)
  | .Va => ∀ i, i < C.n → w.cell? ⟨bl .Va, i, none⟩ = some (.pointer (some ⟨pn i, 0, none⟩))
  | .Vb => ∀ i, i < C.n → w.cell? ⟨bl .Vb, i, none⟩ = some (.pointer (some ⟨bl (.Tb i), 0, none⟩))
  | .Tb i => Nm.NmAt w (bl (.Tb i)) ((i : Int) + 1) (C.cnt i) (bl (.Mb i)) (C.tab i)
  | .Mb _ => True
  | .Ed i k => ∃ V U, EndG w (bl (.Ed i k)) base Bd (rv (.Out i k)) (rv (.Inn i k)) V U (C.en i k)
  | .Me => ∃ m, m ≤ 100 ∧ OwnW w (bl .Me) m (endsG bl C.n)
  | .Mw => WayMap w (bl .Mw) C.n fun i k => rv (.Wt i k)
  | .Mt => WayMap w (bl .Mt) C.n fun i k => rv (.Tr i k)
  | .Mo => OwnM w (bl .Mo) 0 (fun _ => none)
  | .Mh => ∃ m, m ≤ C.hn ∧ OwnM w (bl .Mh) m (knG C.held)
def ConR (w : World) (base : Nat) (rv : RBk → Value) (Bd : Nat → Prop) (C : GcS) : RBk → Prop
  | .Wt i k => FlR w base (rv (.Wt i k)) (C.wt i k)
  | .Tr i k => FlR w base (rv (.Tr i k)) (C.tr i k)
  | .Air => AirR w base Bd (rv .Air) C.air
  | .Log => ∃ xs, w.ownsRow base 106 4 (rv .Log) C.ll xs
  | _ => True
/-- the blocks that a block's content reads -/
def TouC (bl : CBk → Nat) (rv : RBk → Value) : CBk → Nat → Prop
  | .Ed i k, b => b = bl (.Ed i k) ∨ (rv (.Out i k)).ownBlock = some b ∨ (rv (.Inn i k)).ownBlock = some b
  | .Tb i, b => b = bl (.Tb i) ∨ b = bl (.Mb i)
  | a, b => b = bl a
theorem ConC.fr {D : Nat → Prop} {w w' : World} {base : Nat} {bl : CBk → Nat} {rv : RBk → Value} {pn : Nat → Nat} {Bd : Nat → Prop} {C : GcS} {a : CBk} (h : ConC w base bl rv pn Bd C a) (hf : Fr D w w') (hn : ∀ b, TouC bl rv a b → ¬ D b) (hb : ∀ k, Bd k → ¬ D k) : ConC w' base bl rv pn Bd C a := by
  cases a with
  | P => exact GcP.fr h hf (hn _ rfl)
  | Va => exact fun i hi => hf.cell (h i hi) (hn _ rfl)
  | Vb => exact fun i hi => hf.cell (h i hi) (hn _ rfl)
  | Tb i => exact Nm.NmAt.fr h hf (hn _ (.inl rfl)) (hn _ (.inr rfl))
  | Mb i => trivial
  | Ed i k =>
    obtain ⟨V, U, h⟩ := h
    exact ⟨V, U, h.fr hf (hn _ (.inl rfl)) (fun b hb => hn b (.inr (.inl hb))) (fun b hb => hn b (.inr (.inr hb))) hb⟩
  | Me => obtain ⟨m, h1, h2⟩ := h; exact ⟨m, h1, h2.fr hf (hn _ rfl)⟩
  | Mw => exact WayMap.fr h hf (hn _ rfl)
  | Mt => exact WayMap.fr h hf (hn _ rfl)
  | Mo => exact OwnM.fr h hf (hn _ rfl)
  | Mh => obtain ⟨m, h1, h2⟩ := h; exact ⟨m, h1, h2.fr hf (hn _ rfl)⟩
theorem AirR.fr {D : Nat → Prop} {w w' : World} {base : Nat} {Bd Bd' : Nat → Prop} {v : Value} {l : List ((Nat × Nat) × PK)} (h : AirR w base Bd v l) (hf : Fr D w w') (h1 : ∀ k, v.ownBlock = some k → ¬ D k) (h2 : ∀ k, Bd k → ¬ D k) (h3 : ∀ k, Bd k → Bd' k) : AirR w' base Bd' v l := by
  obtain ⟨W, hr, hb⟩ := h
  exact ⟨W, hf.row hr h1, fun j hj => (hb j hj).fr hf h2 (fun k hk _ => h3 k hk)⟩
theorem ConR.fr {D : Nat → Prop} {w w' : World} {base : Nat} {rv : RBk → Value} {Bd : Nat → Prop} {C : GcS} {r : RBk} (h : ConR w base rv Bd C r) (hf : Fr D w w') (hn : ∀ b, (rv r).ownBlock = some b → ¬ D b) (hb : ∀ k, Bd k → ¬ D k) : ConR w' base rv Bd C r := by
  cases r with
  | Out i k => trivial
  | Inn i k => trivial
  | Wt i k => obtain ⟨Z, h1, h2⟩ := h; exact ⟨Z, h1, h2.fr hf hn⟩
  | Tr i k => obtain ⟨Z, h1, h2⟩ := h; exact ⟨Z, h1, h2.fr hf hn⟩
  | Air => exact AirR.fr h hf hn hb (fun _ h => h)
  | Log => obtain ⟨xs, h1⟩ := h; exact ⟨xs, hf.row h1 hn⟩
end Go.Proofs.YthgbcgphkddmgaaGreat
namespace Go.Proofs.YthgbcgphkddmgaaGreat
open Go.RowKit Go.Maps
set_option linter.unusedVariables false
set_option linter.unusedSimpArgs false
structure GcG (w : World) (X Mc : Nat → Prop) (base T : Nat) (bl : CBk → Nat) (pn : Nat → Nat) (rv : RBk → Value) (Bd : Nat → Prop) (M : Nat → Nat → Prop) (Pn : Nat → Int → Nat) (C : GcS) : Prop where
  n8 : 1 ≤ C.n ∧ C.n ≤ 8
  inj : ∀ a b, a.ok C.n → b.ok C.n → bl a = bl b → a = b
  own : ∀ a, a.ok C.n → Mc (bl a) ∧ ∀ i, i < C.n → ¬ M i (bl a)
  row : ∀ r, r.ok C.n → ∀ k, (rv r).ownBlock = some k → Mc k ∧ (∀ i, i < C.n → ¬ M i k) ∧ (∀ a, a.ok C.n → bl a ≠ k) ∧ ∀ r', r'.ok C.n → (rv r').ownBlock = some k → r' = r
  bod : ∀ k, Bd k → Mc k ∧ (∀ i, i < C.n → ¬ M i k) ∧ (∀ a, a.ok C.n → bl a ≠ k) ∧ ∀ r, r.ok C.n → (rv r).ownBlock ≠ some k
  sub : ∀ i, i < C.n → ∀ k, M i k → Mc k
  mx : ∀ k, Mc k → X k ∧ base ≤ k
  dis : ∀ i j, i < C.n → j < C.n → i ≠ j → ∀ k, M i k → ¬ M j k
  nd : ∀ i, i < C.n → NodeAt w X (M i) base T (pn i) (Pn i) (C.nd i)
  ids : ∀ i, i < C.n → (C.nd i).id = (i : Int) + 1
  cc : ∀ a, a.ok C.n → ConC w base bl rv pn Bd C a
  cr : ∀ r, r.ok C.n → ConR w base rv Bd C r
theorem EndG.more {w : World} {q B : Nat} {Bd Bd' : Nat → Prop} {vo vi : Value} {V U : Nat → Value} {e : EnS} (h : EndG w q B Bd vo vi V U e) (hB : ∀ k, Bd k → Bd' k) (hn : ∀ k, Bd' k → k ≠ q ∧ vo.ownBlock ≠ some k ∧ vi.ownBlock ≠ some k) (hl : ∀ k, Bd' k → k < w.heap.size) : EndG w q B Bd' vo vi V U e :=
  ⟨h.c0, h.c1, h.c2, h.c3, h.c4, h.c5, h.c6, h.fz, h.ro, h.ri, fun j hj => (h.bo j hj).fr (Fr.refl (fun _ => False) w) (fun _ _ h => h) (fun k hk _ => hB k hk), fun j hj => (h.bi j hj).fr (Fr.refl (fun _ => False) w) (fun _ _ h => h) (fun k hk _ => hB k hk), h.ap, hn, hl, h.sz⟩
/-- a block's content does not see the change -/
def SameC (rv rv' : RBk → Value) (C C' : GcS) : CBk → Prop
  | .P => rv' .Air = rv .Air ∧ rv' .Log = rv .Log
  | .Ed i k => rv' (.Out i k) = rv (.Out i k) ∧ rv' (.Inn i k) = rv (.Inn i k) ∧ C'.en i k = C.en i k
  | .Tb i => C'.cnt i = C.cnt i ∧ C'.tab i = C.tab i
  | .Mw => ∀ i k, rv' (.Wt i k) = rv (.Wt i k)
  | .Mt => ∀ i k, rv' (.Tr i k) = rv (.Tr i k)
  | .Mh => C'.held = C.held ∧ C.hn ≤ C'.hn
  | _ => True
def SameR (rv rv' : RBk → Value) (C C' : GcS) : RBk → Prop
  | .Wt i k => rv' (.Wt i k) = rv (.Wt i k) ∧ C'.wt i k = C.wt i k
  | .Tr i k => rv' (.Tr i k) = rv (.Tr i k) ∧ C'.tr i k = C.tr i k
  | .Air => rv' .Air = rv .Air ∧ C'.air = C.air
  | .Log => rv' .Log = rv .Log ∧ C'.ll = C.ll
  | _ => True
theorem ConC.keep {w : World} {base : Nat} {bl : CBk → Nat} {rv rv' : RBk → Value} {pn : Nat → Nat} {Bd Bd' : Nat → Prop} {C C' : GcS} {a : CBk} (h : ConC w base bl rv pn Bd C a) (hs : SameC rv rv' C C' a) (hn : C'.n = C.n) (hB : ∀ k, Bd k → Bd' k) (hd : ∀ i k, a = .Ed i k → ∀ b, Bd' b → b ≠ bl (.Ed i k) ∧ (rv (.Out i k)).ownBlock ≠ some b ∧ (rv (.Inn i k)).ownBlock ≠ some b) (hl : ∀ b, Bd' b → b < w.heap.size) : ConC w base bl rv' pn Bd' C' a := by
  cases a with
  | P =>
    show GcP w bl C'.n (rv' .Air) (rv' .Log)
    rw [hs.1, hs.2, hn]
    exact h
  | Va => exact fun i hi => h i (hn ▸ hi)
  | Vb => exact fun i hi => h i (hn ▸ hi)
  | Tb i =>
    show Nm.NmAt w (bl (.Tb i)) ((i : Int) + 1) (C'.cnt i) (bl (.Mb i)) (C'.tab i)
    rw [hs.1, hs.2]
    exact h
  | Mb i => trivial
  | Ed i k =>
    obtain ⟨V, U, h⟩ := h
    refine ⟨V, U, ?_⟩
    rw [hs.1, hs.2.1, hs.2.2]
    exact h.more hB (hd i k rfl) hl
  | Me =>
    obtain ⟨m, h1, h2⟩ := h
    exact ⟨m, h1, by rw [hn]; exact h2⟩
  | Mw =>
    obtain ⟨m, g, h1, h2, h3⟩ := h
    exact ⟨m, g, h1, h2, fun i k hi hk e => by rw [h3 i k (hn ▸ hi) (hn ▸ hk) e]; exact (hs i k).symm⟩
  | Mt =>
    obtain ⟨m, g, h1, h2, h3⟩ := h
    exact ⟨m, g, h1, h2, fun i k hi hk e => by rw [h3 i k (hn ▸ hi) (hn ▸ hk) e]; exact (hs i k).symm⟩
  | Mo => exact h
  | Mh =>
    obtain ⟨m, h1, h2⟩ := h
    exact ⟨m, Nat.le_trans h1 hs.2, by rw [hs.1]; exact h2⟩
theorem ConR.keep {w : World} {base : Nat} {rv rv' : RBk → Value} {Bd Bd' : Nat → Prop} {C C' : GcS} {r : RBk} (h : ConR w base rv Bd C r) (hs : SameR rv rv' C C' r) (hB : ∀ k, Bd k → Bd' k) : ConR w base rv' Bd' C' r := by
  cases r with
  | Out i k => trivial
  | Inn i k => trivial
  | Wt i k => show FlR w base (rv' (.Wt i k)) (C'.wt i k); rw [hs.1, hs.2]; exact h
  | Tr i k => show FlR w base (rv' (.Tr i k)) (C'.tr i k); rw [hs.1, hs.2]; exact h
  | Air => show AirR w base Bd' (rv' .Air) C'.air; rw [hs.1, hs.2]; exact AirR.fr h (Fr.refl (fun _ => False) w) (fun _ _ h => h) (fun _ _ h => h) hB
  | Log => obtain ⟨xs, h1⟩ := h; refine ⟨xs, ?_⟩; rw [hs.1, hs.2]; exact h1
section
variable {w w' : World} {X X' Mc D : Nat → Prop} {base T T' : Nat} {bl : CBk → Nat} {pn : Nat → Nat} {rv rv' : RBk → Value} {Bd Bd' : Nat → Prop} {M : Nat → Nat → Prop} {Pn : Nat → Int → Nat} {C C' : GcS}
theorem GcG.xlt (h : GcG w X Mc base T bl pn rv Bd M Pn C) : ∀ k, X k → k < w.heap.size := (h.nd 0 (by have := h.n8.1; omega)).xlt
theorem GcG.ne (h : GcG w X Mc base T bl pn rv Bd M Pn C) {a b : CBk} (ha : a.ok C.n) (hb : b.ok C.n) (e : a ≠ b) : bl a ≠ bl b := fun h2 => e (h.inj a b ha hb h2)
theorem GcG.mlt (h : GcG w X Mc base T bl pn rv Bd M Pn C) : ∀ k, Mc k → k < w.heap.size := fun k hk => h.xlt k (h.mx k hk).1
theorem GcG.bw (h : GcG w X Mc base T bl pn rv Bd M Pn C) : base ≤ w.heap.size := by
  have h1 := (h.own .P trivial).1
  have := h.mlt _ h1
  have := (h.mx _ h1).2
  omega
/-- all at once: what has changed is said anew, all the rest may be read as before -/
theorem GcG.upd (h : GcG w X Mc base T bl pn rv Bd M Pn C) (hn : C'.n = C.n) (hnd : C'.nd = C.nd) (hf : Fr D w w') (hD : ∀ k, D k → (∃ a, a.ok C.n ∧ k = bl a) ∨ ∃ r, r.ok C.n ∧ (rv r).ownBlock = some k)
    (hrv : ∀ r, r.ok C.n → ∀ k, (rv' r).ownBlock = some k → (rv r).ownBlock = some k ∨ w.heap.size ≤ k ∧ k < w'.heap.size ∧ ∀ r', r'.ok C.n → (rv' r').ownBlock = some k → r' = r)
    (hBd : ∀ k, Bd' k → Bd k ∨ w.heap.size ≤ k ∧ k < w'.heap.size ∧ ∀ r, r.ok C.n → (rv' r).ownBlock ≠ some k)
    (hcc : ∀ a, a.ok C.n → ConC w' base bl rv' pn Bd' C' a) (hcr : ∀ r, r.ok C.n → ConR w' base rv' Bd' C' r) :
    ∃ X' Mc', Gr X Mc w X' Mc' w' ∧ GcG w' X' Mc' base T bl pn rv' Bd' M Pn C' := by
  have hbw := h.bw
  have hbl : ∀ a, a.ok C.n → bl a < w.heap.size := fun a ha => h.mlt _ (h.own a ha).1
  have hml : ∀ i, i < C.n → ∀ k, M i k → k < w.heap.size := fun i hi k hk => h.mlt _ (h.sub i hi k hk)
  have hrl : ∀ r, r.ok C.n → ∀ k, (rv r).ownBlock = some k → k < w.heap.size := fun r hr k hk => h.mlt _ (h.row r hr k hk).1
  have hDm : ∀ k, D k → Mc k ∧ ∀ i, i < C.n → ¬ M i k := fun k hk => by
    rcases hD k hk with ⟨a, ha, rfl⟩ | ⟨r, hr, e⟩
    · exact h.own a ha
    · exact ⟨(h.row r hr k e).1, (h.row r hr k e).2.1⟩
  have hNew : ∀ k, ((∃ r, r.ok C.n ∧ (rv' r).ownBlock = some k) ∨ Bd' k) → Mc k ∨ w.heap.size ≤ k ∧ k < w'.heap.size := fun k hk => by
    rcases hk with ⟨r, hr, e⟩ | hk
    · rcases hrv r hr k e with h1 | h1
      · exact .inl (h.row r hr k h1).1
      · exact .inr ⟨h1.1, h1.2.1⟩
    · rcases hBd k hk with h1 | h1
      · exact .inl (h.bod k h1).1
      · exact .inr ⟨h1.1, h1.2.1⟩
  refine ⟨fun k => X k ∨ (∃ r, r.ok C.n ∧ (rv' r).ownBlock = some k) ∨ Bd' k, fun k => Mc k ∨ (∃ r, r.ok C.n ∧ (rv' r).ownBlock = some k) ∨ Bd' k, ⟨hf.weak (fun k hk => (hDm k hk).1), fun k hk => .inl hk, fun k hk => ?_, fun k hk => ?_⟩, ⟨by rw [hn]; exact h.n8, by rw [hn]; exact h.inj, fun a ha => ?_, fun r hr k hk => ?_, fun k hk => ?_, fun i hi k hk => ?_, fun k hk => ?_, by rw [hn]; exact h.dis, fun i hi => ?_, fun i hi => ?_, by rw [hn]; exact hcc, by rw [hn]; exact hcr⟩⟩
  · rcases hk with hk | hk
    · exact .inl hk
    · rcases hNew k hk with h1 | h1
      · exact .inl (h.mx k h1).1
      · exact .inr h1.1
  · rcases hk with hk | hk
    · exact .inl hk
    · rcases hNew k hk with h1 | h1
      · exact .inl h1
      · exact .inr h1.1
  · rw [hn] at ha ⊢
    exact ⟨.inl (h.own a ha).1, (h.own a ha).2⟩
  · rw [hn] at hr ⊢
    refine ⟨.inr (.inl ⟨r, hr, hk⟩), ?_⟩
    rcases hrv r hr k hk with h1 | ⟨h1, h2, h3⟩
    · have hr1 := h.row r hr k h1
      refine ⟨hr1.2.1, hr1.2.2.1, fun r' hr' e => ?_⟩
      rcases hrv r' hr' k e with h2 | ⟨h2, -, -⟩
      · exact hr1.2.2.2 r' hr' h2
      · have := hrl r hr k h1; omega
    · exact ⟨fun i hi hm => by have := hml i hi k hm; omega, fun a ha e => by have := hbl a ha; omega, h3⟩
  · rw [hn]
    refine ⟨.inr (.inr hk), ?_⟩
    rcases hBd k hk with h1 | ⟨h1, h2, h3⟩
    · have hb1 := h.bod k h1
      refine ⟨hb1.2.1, hb1.2.2.1, fun r hr e => ?_⟩
      rcases hrv r hr k e with h2 | ⟨h2, -, -⟩
      · exact hb1.2.2.2 r hr h2
      · have := h.mlt k hb1.1; omega
    · exact ⟨fun i hi hm => by have := hml i hi k hm; omega, fun a ha e => by have := hbl a ha; omega, h3⟩
  · rw [hn] at hi
    exact .inl (h.sub i hi k hk)
  · rcases hk with hk | hk
    · exact ⟨.inl (h.mx k hk).1, (h.mx k hk).2⟩
    · refine ⟨.inr hk, ?_⟩
      rcases hNew k hk with h1 | h1
      · exact (h.mx k h1).2
      · omega
  · rw [hn] at hi
    rw [hnd]
    refine (h.nd i hi).fr hf (fun k hk => h.mx k (hDm k hk).1) (fun k hk => .inl hk) (fun k hk => ?_) (fun k hm hk => (hDm k hk).2 i hi hm)
    rcases hk with hk | hk
    · exact .inl hk
    · rcases hNew k hk with h1 | h1
      · exact .inl (h.mx k h1).1
      · exact .inr h1
  · rw [hn] at hi
    rw [hnd]
    exact h.ids i hi
end
end Go.Proofs.YthgbcgphkddmgaaGreat
namespace Go.Proofs.YthgbcgphkddmgaaGreat
open Go.RowKit Go.Maps
set_option linter.unusedVariables false
set_option linter.unusedSimpArgs false
def updR (rv : RBk → Value) (r : RBk) (v : Value) : RBk → Value := fun r' => if r' = r then v else rv r'
theorem updR_self (rv : RBk → Value) (r : RBk) (v : Value) : updR rv r v r = v := by unfold updR; rw [if_pos rfl]
theorem updR_ne (rv : RBk → Value) {r r' : RBk} (v : Value) (h : r' ≠ r) : updR rv r v r' = rv r' := by unfold updR; rw [if_neg h]
def upd2 {α : Type} (f : Nat → Nat → α) (i k : Nat) (v : α) : Nat → Nat → α := fun x y => if x = i ∧ y = k then v else f x y
theorem upd2_self {α : Type} (f : Nat → Nat → α) (i k : Nat) (v : α) : upd2 f i k v i k = v := by unfold upd2; rw [if_pos ⟨rfl, rfl⟩]
theorem upd2_ne {α : Type} (f : Nat → Nat → α) {i k x y : Nat} (v : α) (h : ¬ (x = i ∧ y = k)) : upd2 f i k v x y = f x y := by unfold upd2; rw [if_neg h]
section
variable {w w' : World} {X X' Mc D : Nat → Prop} {base T T' : Nat} {bl : CBk → Nat} {pn : Nat → Nat} {rv rv' : RBk → Value} {Bd Bd' : Nat → Prop} {M : Nat → Nat → Prop} {Pn : Nat → Int → Nat} {C C' : GcS}
theorem GcG.step (h : GcG w X Mc base T bl pn rv Bd M Pn C) (r0 : RBk) (v0 : Value) (SA : CBk → Prop) (hr0 : r0.ok C.n) (hn : C'.n = C.n) (hnd : C'.nd = C.nd) (hf : Fr D w w')
    (hD : ∀ k, D k → (∃ a, a.ok C.n ∧ SA a ∧ k = bl a) ∨ (rv r0).ownBlock = some k)
    (hv0 : ∀ k, v0.ownBlock = some k → (rv r0).ownBlock = some k ∨ w.heap.size ≤ k ∧ k < w'.heap.size)
    (hBB : ∀ k, Bd k → Bd' k) (hBd : ∀ k, Bd' k → Bd k ∨ w.heap.size ≤ k ∧ k < w'.heap.size ∧ v0.ownBlock ≠ some k)
    (hE : ∀ i k, (CBk.Ed i k).ok C.n → ¬ SA (.Ed i k) → r0 ≠ .Out i k ∧ r0 ≠ .Inn i k) (hTb : ∀ i, (CBk.Tb i).ok C.n → ¬ SA (.Tb i) → ¬ SA (.Mb i))
    (hS : ∀ a, a.ok C.n → SA a → ConC w' base bl (updR rv r0 v0) pn Bd' C' a) (hC : ∀ a, a.ok C.n → ¬ SA a → SameC rv (updR rv r0 v0) C C' a)
    (hR0 : ConR w' base (updR rv r0 v0) Bd' C' r0) (hR : ∀ r, r.ok C.n → r ≠ r0 → SameR rv (updR rv r0 v0) C C' r) :
    ∃ X' Mc', Gr X Mc w X' Mc' w' ∧ GcG w' X' Mc' base T bl pn (updR rv r0 v0) Bd' M Pn C' := by
  have hbl : ∀ a, a.ok C.n → bl a < w.heap.size := fun a ha => h.mlt _ (h.own a ha).1
  have hrl : ∀ r, r.ok C.n → ∀ k, (rv r).ownBlock = some k → k < w.heap.size := fun r hr k hk => h.mlt _ (h.row r hr k hk).1
  have hz := hf.size
  have nA : ∀ a, a.ok C.n → ¬ SA a → ¬ D (bl a) := fun a ha hs hd => by
    rcases hD _ hd with ⟨a', ha', hs', e⟩ | e
    · rw [h.inj a a' ha ha' e] at hs
      exact hs hs'
    · exact (h.row r0 hr0 _ e).2.2.1 a ha rfl
  have nR : ∀ r, r.ok C.n → r ≠ r0 → ∀ k, (rv r).ownBlock = some k → ¬ D k := fun r hr hne k hk hd => by
    rcases hD _ hd with ⟨a', ha', hs', e⟩ | e
    · exact (h.row r hr k hk).2.2.1 a' ha' e.symm
    · exact hne ((h.row r0 hr0 k e).2.2.2 r hr hk)
  have nB : ∀ k, Bd k → ¬ D k := fun k hk hd => by
    rcases hD _ hd with ⟨a', ha', hs', e⟩ | e
    · exact (h.bod k hk).2.2.1 a' ha' e.symm
    · exact (h.bod k hk).2.2.2 r0 hr0 e
  refine h.upd hn hnd hf (fun k hk => ?_) (fun r hr k hk => ?_) (fun k hk => ?_) (fun a ha => ?_) (fun r hr => ?_)
  · rcases hD k hk with ⟨a, ha, -, e⟩ | e
    · exact .inl ⟨a, ha, e⟩
    · exact .inr ⟨r0, hr0, e⟩
  · by_cases e : r = r0
    · subst e
      rw [updR_self] at hk
      rcases hv0 k hk with h1 | ⟨h1, h2⟩
      · exact .inl h1
      · refine .inr ⟨h1, h2, fun r' hr' hk' => ?_⟩
        by_cases e2 : r' = r
        · exact e2
        · rw [updR_ne _ _ e2] at hk'
          have := hrl r' hr' k hk'
          omega
    · rw [updR_ne _ _ e] at hk
      exact .inl hk
  · rcases hBd k hk with h1 | ⟨h1, h2, h3⟩
    · exact .inl h1
    · refine .inr ⟨h1, h2, fun r hr e => ?_⟩
      by_cases e2 : r = r0
      · subst e2
        rw [updR_self] at e
        exact h3 e
      · rw [updR_ne _ _ e2] at e
        have := hrl r hr k e
        omega
  · by_cases hs : SA a
    · exact hS a ha hs
    · refine ((h.cc a ha).fr hf (fun b hb => ?_) nB).keep (hC a ha hs) hn hBB (fun i k e b hb => ?_) (fun b hb => ?_)
      · cases a with
        | Ed i k =>
          obtain ⟨q1, q2⟩ := hE i k ha hs
          rcases hb with hb | hb | hb
          · rw [hb]; exact nA _ ha hs
          · exact nR (.Out i k) ha (fun e => q1 e.symm) b hb
          · exact nR (.Inn i k) ha (fun e => q2 e.symm) b hb
        | Tb i =>
          rcases hb with hb | hb
          · rw [hb]; exact nA _ ha hs
          · rw [hb]; exact nA (.Mb i) ha (hTb i ha hs)
        | _ => rw [show b = bl _ from hb]; exact nA _ ha hs
      · subst e
        rcases hBd b hb with h1 | ⟨h1, h2, h3⟩
        · have hb1 := h.bod b h1
          exact ⟨fun e => hb1.2.2.1 _ ha e.symm, hb1.2.2.2 (.Out i k) ha, hb1.2.2.2 (.Inn i k) ha⟩
        · refine ⟨fun e => ?_, fun e => ?_, fun e => ?_⟩
          · have := hbl _ ha; omega
          · have := hrl (.Out i k) ha b e; omega
          · have := hrl (.Inn i k) ha b e; omega
      · rcases hBd b hb with h1 | ⟨h1, h2, h3⟩
        · have := h.mlt b (h.bod b h1).1; omega
        · exact h2
  · by_cases e : r = r0
    · rw [e]; exact hR0
    · exact ((h.cr r hr).fr hf (nR r hr e) nB).keep (hR r hr e) hBB
/-- an end has changed -/
theorem GcG.ended (h : GcG w X Mc base T bl pn rv Bd M Pn C) {i k : Nat} (hi : i < C.n) (hk : k < C.n) (hne : i ≠ k) {vo' : Value} {e' : EnS} {V U : Nat → Value} (hf : Fr (fun b => b = bl (.Ed i k) ∨ (rv (.Out i k)).ownBlock = some b) w w')
    (hE : EndG w' (bl (.Ed i k)) base Bd' vo' (rv (.Inn i k)) V U e') (hBB : ∀ b, Bd b → Bd' b) (hBd : ∀ b, Bd' b → Bd b ∨ w.heap.size ≤ b ∧ b < w'.heap.size) (hvo : vo'.ownBlock = (rv (.Out i k)).ownBlock ∨ ∃ g, vo'.ownBlock = some g ∧ w.heap.size ≤ g) :
    ∃ X' Mc', Gr X Mc w X' Mc' w' ∧ GcG w' X' Mc' base T bl pn (updR rv (.Out i k) vo') Bd' M Pn { C with en := upd2 C.en i k e' } := by
  have hok : (CBk.Ed i k).ok C.n := ⟨hi, hk, hne⟩
  have hrok : (RBk.Out i k).ok C.n := ⟨hi, hk, hne⟩
  have hlt : ∀ b, vo'.ownBlock = some b → b < w'.heap.size := fun b hb => (World.ownsRow.lt hE.ro b hb).2
  refine h.step (.Out i k) vo' (fun a => a = .Ed i k) hrok rfl rfl hf (fun b hb => ?_) (fun b hb => ?_) hBB (fun b hb => ?_) (fun x y hxy hs => ?_) (fun x _ _ e => by cases e) (fun a ha hs => ?_) (fun a ha hs => ?_) trivial (fun r hr hne => ?_)
  · rcases hb with hb | hb
    · exact .inl ⟨_, hok, rfl, hb⟩
    · exact .inr hb
  · rcases hvo with e | ⟨g, e, hg⟩
    · exact .inl (e ▸ hb)
    · refine .inr ⟨?_, hlt b hb⟩
      rw [e] at hb
      injection hb with hb
      omega
  · rcases hBd b hb with h1 | ⟨h1, h2⟩
    · exact .inl h1
    · exact .inr ⟨h1, h2, (hE.no b hb).2.1⟩
  · refine ⟨fun e => ?_, fun e => by cases e⟩
    injection e with e1 e2
    exact hs (by rw [e1, e2])
  · subst hs
    refine ⟨V, U, ?_⟩
    show EndG w' (bl (.Ed i k)) base Bd' (updR rv (.Out i k) vo' (.Out i k)) (updR rv (.Out i k) vo' (.Inn i k)) V U (upd2 C.en i k e' i k)
    rw [updR_self, updR_ne _ _ (by intro e; cases e), upd2_self]
    exact hE
  · cases a with
    | Ed x y =>
      have hxy : ¬ (x = i ∧ y = k) := fun e => hs (by rw [e.1, e.2])
      exact ⟨updR_ne _ _ (by intro e; injection e with e1 e2; exact hxy ⟨e1, e2⟩), updR_ne _ _ (by intro e; cases e), upd2_ne _ _ hxy⟩
    | P => exact ⟨updR_ne _ _ (by intro e; cases e), updR_ne _ _ (by intro e; cases e)⟩
    | Tb x => exact ⟨rfl, rfl⟩
    | Mw => exact fun x y => updR_ne _ _ (by intro e; cases e)
    | Mt => exact fun x y => updR_ne _ _ (by intro e; cases e)
    | Mh => exact ⟨rfl, Nat.le_refl _⟩
    | _ => trivial
  · cases r with
    | Wt x y => exact ⟨updR_ne _ _ hne, rfl⟩
    | Tr x y => exact ⟨updR_ne _ _ hne, rfl⟩
    | Air => exact ⟨updR_ne _ _ hne, rfl⟩
    | Log => exact ⟨updR_ne _ _ hne, rfl⟩
    | _ => trivial
end
end Go.Proofs.YthgbcgphkddmgaaGreat
namespace Go.Proofs.YthgbcgphkddmgaaGreat
open Go.RowKit Go.Maps
set_option linter.unusedVariables false
set_option linter.unusedSimpArgs false
section
variable {w w' : World} {X X' Mc D : Nat → Prop} {base T T' : Nat} {bl : CBk → Nat} {pn : Nat → Nat} {rv rv' : RBk → Value} {Bd Bd' : Nat → Prop} {M : Nat → Nat → Prop} {Pn : Nat → Int → Nat} {C C' : GcS}
theorem fresh_of {v v' : Value} (hlt : ∀ b, v'.ownBlock = some b → b < w'.heap.size) (hvo : v'.ownBlock = v.ownBlock ∨ ∃ g, v'.ownBlock = some g ∧ w.heap.size ≤ g) : ∀ b, v'.ownBlock = some b → v.ownBlock = some b ∨ w.heap.size ≤ b ∧ b < w'.heap.size := fun b hb => by
  rcases hvo with e | ⟨g, e, hg⟩
  · exact .inl (e ▸ hb)
  · refine .inr ⟨?_, hlt b hb⟩
    rw [e] at hb
    injection hb with hb
    omega
theorem QR.lt {e : TypeId} {sz n : Nat} {v : Value} {xs : List Value} (h : QR w base e sz v n xs) (hc : ∀ A m, v ≠ .slice (some A) m 0) : ∀ b, v.ownBlock = some b → b < w.heap.size := fun b hb => by
  obtain ⟨h1, ao, cap, rfl, h3, h4, h5, h6⟩ := h
  cases ao with
  | none => cases hb
  | some A =>
    have h0 : 0 < cap := by
      rcases Nat.eq_zero_or_pos cap with e | e
      · subst e; exact absurd rfl (hc A n)
      · exact e
    obtain ⟨b', off, cur, e1, hb2, hh, -⟩ := h6 h0
    injection e1 with e1
    subst e1
    have : b' = b := by injection hb
    subst this
    rcases Nat.lt_or_ge b' w.heap.size with hlt | hge
    · exact hlt
    · rw [Array.getElem?_eq_none hge] at hh; cases hh
theorem WayMap.put {b n i k : Nat} {f : Nat → Nat → Value} {v : Value} {m : Nat} {g : Nat → Nat → Option Value} (hi : i + 1 < 9) (hk : k + 1 < 9) (hm : m ≤ cntW g) (ho : OwnW w' b (if (g (i + 1) (k + 1)).isSome then m else m + 1) (fun x y => if x = i + 1 ∧ y = k + 1 then some v else g x y)) (hg : ∀ x y, x < n → y < n → x ≠ y → (g (x + 1) (y + 1)).getD (.slice none 0 0) = f x y) : WayMap w' b n (fun x y => if x = i ∧ y = k then v else f x y) := by
  refine ⟨_, _, by rw [cntW_set g hi hk]; split <;> omega, ho, fun x y hx hy e => ?_⟩
  by_cases h1 : x = i ∧ y = k
  · show Option.getD (if x + 1 = i + 1 ∧ y + 1 = k + 1 then some v else g (x + 1) (y + 1)) (.slice none 0 0) = if x = i ∧ y = k then v else f x y
    rw [if_pos (by omega), if_pos h1]; rfl
  · show Option.getD (if x + 1 = i + 1 ∧ y + 1 = k + 1 then some v else g (x + 1) (y + 1)) (.slice none 0 0) = if x = i ∧ y = k then v else f x y
    rw [if_neg (by omega), if_neg h1]; exact hg x y hx hy e
/-- what waits for a line has changed -/
theorem GcG.waited (h : GcG w X Mc base T bl pn rv Bd M Pn C) {i k : Nat} (hi : i < C.n) (hk : k < C.n) (hne : i ≠ k) {v' : Value} {l' : List FL} (hf : Fr (fun b => b = bl .Mw ∨ (rv (.Wt i k)).ownBlock = some b) w w')
    (hm : WayMap w' (bl .Mw) C.n (fun x y => if x = i ∧ y = k then v' else rv (.Wt x y))) (hr : FlR w' base v' l') (hlt : ∀ b, v'.ownBlock = some b → b < w'.heap.size) (hvo : v'.ownBlock = (rv (.Wt i k)).ownBlock ∨ ∃ g, v'.ownBlock = some g ∧ w.heap.size ≤ g) :
    ∃ X' Mc', Gr X Mc w X' Mc' w' ∧ GcG w' X' Mc' base T bl pn (updR rv (.Wt i k) v') Bd M Pn { C with wt := upd2 C.wt i k l' } := by
  have hrok : (RBk.Wt i k).ok C.n := ⟨hi, hk, hne⟩
  refine h.step (.Wt i k) v' (fun a => a = .Mw) hrok rfl rfl hf (fun b hb => ?_) (fresh_of hlt hvo) (fun _ h => h) (fun _ h => .inl h) (fun x y _ _ => ⟨(by intro e; cases e), (by intro e; cases e)⟩) (fun x _ _ e => by cases e) (fun a ha hs => ?_) (fun a ha hs => ?_) ?_ (fun r hr hne => ?_)
  · rcases hb with hb | hb
    · exact .inl ⟨.Mw, trivial, rfl, hb⟩
    · exact .inr hb
  · subst hs
    show WayMap w' (bl .Mw) C.n fun x y => updR rv (.Wt i k) v' (.Wt x y)
    have e : (fun x y => updR rv (.Wt i k) v' (.Wt x y)) = fun x y => if x = i ∧ y = k then v' else rv (.Wt x y) := by
      funext x y
      by_cases h1 : x = i ∧ y = k
      · rw [if_pos h1, h1.1, h1.2, updR_self]
      · rw [if_neg h1, updR_ne _ _ (by intro e; injection e with e1 e2; exact h1 ⟨e1, e2⟩)]
    rw [e]
    exact hm
  · cases a with
    | P => exact ⟨updR_ne _ _ (by intro e; cases e), updR_ne _ _ (by intro e; cases e)⟩
    | Ed x y => exact ⟨updR_ne _ _ (by intro e; cases e), updR_ne _ _ (by intro e; cases e), rfl⟩
    | Tb x => exact ⟨rfl, rfl⟩
    | Mw => exact absurd rfl hs
    | Mt => exact fun x y => updR_ne _ _ (by intro e; cases e)
    | Mh => exact ⟨rfl, Nat.le_refl _⟩
    | _ => trivial
  · show FlR w' base (updR rv (.Wt i k) v' (.Wt i k)) (upd2 C.wt i k l' i k)
    rw [updR_self, upd2_self]
    exact hr
  · cases r with
    | Wt x y => exact ⟨updR_ne _ _ hne, upd2_ne _ _ (fun e => hne (by rw [e.1, e.2]))⟩
    | Tr x y => exact ⟨updR_ne _ _ hne, rfl⟩
    | Air => exact ⟨updR_ne _ _ hne, rfl⟩
    | Log => exact ⟨updR_ne _ _ hne, rfl⟩
    | _ => trivial
/-- what is under way has changed -/
theorem GcG.passed (h : GcG w X Mc base T bl pn rv Bd M Pn C) {i k : Nat} (hi : i < C.n) (hk : k < C.n) (hne : i ≠ k) {v' : Value} {l' : List FL} (hf : Fr (fun b => b = bl .Mt ∨ (rv (.Tr i k)).ownBlock = some b) w w')
    (hm : WayMap w' (bl .Mt) C.n (fun x y => if x = i ∧ y = k then v' else rv (.Tr x y))) (hr : FlR w' base v' l') (hlt : ∀ b, v'.ownBlock = some b → b < w'.heap.size) (hvo : v'.ownBlock = (rv (.Tr i k)).ownBlock ∨ ∃ g, v'.ownBlock = some g ∧ w.heap.size ≤ g) :
    ∃ X' Mc', Gr X Mc w X' Mc' w' ∧ GcG w' X' Mc' base T bl pn (updR rv (.Tr i k) v') Bd M Pn { C with tr := upd2 C.tr i k l' } := by
  have hrok : (RBk.Tr i k).ok C.n := ⟨hi, hk, hne⟩
  refine h.step (.Tr i k) v' (fun a => a = .Mt) hrok rfl rfl hf (fun b hb => ?_) (fresh_of hlt hvo) (fun _ h => h) (fun _ h => .inl h) (fun x y _ _ => ⟨(by intro e; cases e), (by intro e; cases e)⟩) (fun x _ _ e => by cases e) (fun a ha hs => ?_) (fun a ha hs => ?_) ?_ (fun r hr hne => ?_)
  · rcases hb with hb | hb
    · exact .inl ⟨.Mt, trivial, rfl, hb⟩
    · exact .inr hb
  · subst hs
    show WayMap w' (bl .Mt) C.n fun x y => updR rv (.Tr i k) v' (.Tr x y)
    have e : (fun x y => updR rv (.Tr i k) v' (.Tr x y)) = fun x y => if x = i ∧ y = k then v' else rv (.Tr x y) := by
      funext x y
      by_cases h1 : x = i ∧ y = k
      · rw [if_pos h1, h1.1, h1.2, updR_self]
      · rw [if_neg h1, updR_ne _ _ (by intro e; injection e with e1 e2; exact h1 ⟨e1, e2⟩)]
    rw [e]
    exact hm
  · cases a with
    | P => exact ⟨updR_ne _ _ (by intro e; cases e), updR_ne _ _ (by intro e; cases e)⟩
    | Ed x y => exact ⟨updR_ne _ _ (by intro e; cases e), updR_ne _ _ (by intro e; cases e), rfl⟩
    | Tb x => exact ⟨rfl, rfl⟩
    | Mt => exact absurd rfl hs
    | Mw => exact fun x y => updR_ne _ _ (by intro e; cases e)
    | Mh => exact ⟨rfl, Nat.le_refl _⟩
    | _ => trivial
  · show FlR w' base (updR rv (.Tr i k) v' (.Tr i k)) (upd2 C.tr i k l' i k)
    rw [updR_self, upd2_self]
    exact hr
  · cases r with
    | Tr x y => exact ⟨updR_ne _ _ hne, upd2_ne _ _ (fun e => hne (by rw [e.1, e.2]))⟩
    | Wt x y => exact ⟨updR_ne _ _ hne, rfl⟩
    | Air => exact ⟨updR_ne _ _ hne, rfl⟩
    | Log => exact ⟨updR_ne _ _ hne, rfl⟩
    | _ => trivial
/-- the air has changed -/
theorem GcG.aired (h : GcG w X Mc base T bl pn rv Bd M Pn C) {v' : Value} {l' : List ((Nat × Nat) × PK)} (hf : Fr (fun b => b = bl .P ∨ (rv .Air).ownBlock = some b) w w') (hp : GcP w' bl C.n v' (rv .Log)) (hr : AirR w' base Bd' v' l')
    (hBB : ∀ b, Bd b → Bd' b) (hBd : ∀ b, Bd' b → Bd b ∨ w.heap.size ≤ b ∧ b < w'.heap.size ∧ v'.ownBlock ≠ some b) (hvo : v'.ownBlock = (rv .Air).ownBlock ∨ ∃ g, v'.ownBlock = some g ∧ w.heap.size ≤ g) :
    ∃ X' Mc', Gr X Mc w X' Mc' w' ∧ GcG w' X' Mc' base T bl pn (updR rv .Air v') Bd' M Pn { C with air := l' } := by
  have hlt : ∀ b, v'.ownBlock = some b → b < w'.heap.size := fun b hb => by obtain ⟨W, h1, -⟩ := hr; exact (World.ownsRow.lt h1 b hb).2
  refine h.step .Air v' (fun a => a = .P) trivial rfl rfl hf (fun b hb => ?_) (fresh_of hlt hvo) hBB hBd (fun x y _ _ => ⟨(by intro e; cases e), (by intro e; cases e)⟩) (fun x _ _ e => by cases e) (fun a ha hs => ?_) (fun a ha hs => ?_) ?_ (fun r hr hne => ?_)
  · rcases hb with hb | hb
    · exact .inl ⟨.P, trivial, rfl, hb⟩
    · exact .inr hb
  · subst hs
    show GcP w' bl C.n (updR rv .Air v' .Air) (updR rv .Air v' .Log)
    rw [updR_self, updR_ne _ _ (by intro e; cases e)]
    exact hp
  · cases a with
    | P => exact absurd rfl hs
    | Ed x y => exact ⟨updR_ne _ _ (by intro e; cases e), updR_ne _ _ (by intro e; cases e), rfl⟩
    | Tb x => exact ⟨rfl, rfl⟩
    | Mt => exact fun x y => updR_ne _ _ (by intro e; cases e)
    | Mw => exact fun x y => updR_ne _ _ (by intro e; cases e)
    | Mh => exact ⟨rfl, Nat.le_refl _⟩
    | _ => trivial
  · show AirR w' base Bd' (updR rv .Air v' .Air) l'
    rw [updR_self]
    exact hr
  · cases r with
    | Tr x y => exact ⟨updR_ne _ _ hne, rfl⟩
    | Wt x y => exact ⟨updR_ne _ _ hne, rfl⟩
    | Air => exact absurd rfl hne
    | Log => exact ⟨updR_ne _ _ hne, rfl⟩
    | _ => trivial
/-- an event has been logged -/
theorem GcG.logged (h : GcG w X Mc base T bl pn rv Bd M Pn C) {v' : Value} {ll' : Nat} {xs : List Value} (hf : Fr (fun b => b = bl .P ∨ (rv .Log).ownBlock = some b) w w') (hp : GcP w' bl C.n (rv .Air) v') (hr : w'.ownsRow base 106 4 v' ll' xs)
    (hvo : v'.ownBlock = (rv .Log).ownBlock ∨ ∃ g, v'.ownBlock = some g ∧ w.heap.size ≤ g) :
    ∃ X' Mc', Gr X Mc w X' Mc' w' ∧ GcG w' X' Mc' base T bl pn (updR rv .Log v') Bd M Pn { C with ll := ll' } := by
  have hlt : ∀ b, v'.ownBlock = some b → b < w'.heap.size := fun b hb => (World.ownsRow.lt hr b hb).2
  refine h.step .Log v' (fun a => a = .P) trivial rfl rfl hf (fun b hb => ?_) (fresh_of hlt hvo) (fun _ h => h) (fun _ h => .inl h) (fun x y _ _ => ⟨(by intro e; cases e), (by intro e; cases e)⟩) (fun x _ _ e => by cases e) (fun a ha hs => ?_) (fun a ha hs => ?_) ?_ (fun r hr hne => ?_)
  · rcases hb with hb | hb
    · exact .inl ⟨.P, trivial, rfl, hb⟩
    · exact .inr hb
  · subst hs
    show GcP w' bl C.n (updR rv .Log v' .Air) (updR rv .Log v' .Log)
    rw [updR_self, updR_ne _ _ (by intro e; cases e)]
    exact hp
  · cases a with
    | P => exact absurd rfl hs
    | Ed x y => exact ⟨updR_ne _ _ (by intro e; cases e), updR_ne _ _ (by intro e; cases e), rfl⟩
    | Tb x => exact ⟨rfl, rfl⟩
    | Mt => exact fun x y => updR_ne _ _ (by intro e; cases e)
    | Mw => exact fun x y => updR_ne _ _ (by intro e; cases e)
    | Mh => exact ⟨rfl, Nat.le_refl _⟩
    | _ => trivial
  · show ∃ xs, w'.ownsRow base 106 4 (updR rv .Log v' .Log) ll' xs
    rw [updR_self]
    exact ⟨xs, hr⟩
  · cases r with
    | Tr x y => exact ⟨updR_ne _ _ hne, rfl⟩
    | Wt x y => exact ⟨updR_ne _ _ hne, rfl⟩
    | Air => exact ⟨updR_ne _ _ hne, rfl⟩
    | Log => exact absurd rfl hne
    | _ => trivial
end
end Go.Proofs.YthgbcgphkddmgaaGreat
namespace Go.Proofs.YthgbcgphkddmgaaGreat
open Go.RowKit Go.Maps
set_option linter.unusedVariables false
set_option linter.unusedSimpArgs false
set_option maxRecDepth 100000 in
theorem lawWL : WideMaps.KeyLaw Tryz.prog 100 := deep_law_laid (P := Tryz.prog) (by kernel_rfl) (m := 2) (by omega) (of_decide_eq_true (by kernel_rfl)) (by kernel_rfl) (by kernel_rfl)
theorem ok_val {α : Type} {a b : α} {w w' : World} (h : Result.ok a w = Result.ok b w') : a = b := by injection h
open Go.WideElems Go.MapKept Go.ChangeMaps in
set_option maxRecDepth 100000 in

theorem OwnW.entry {t e : TypeId} {z : Value} (ht : Tryz.prog.underlying t = some (.map 100 e)) (hz : ∀ w, (zeroValue e).run Tryz.prog w = .ok z w) {w : World} {b n : Nat} {g : Nat → Nat → Option Value} (hown : OwnW w b n g) (hn : n < maxLen) {i k : Nat} (hi : i < 9) (hk : k < 9) :
    ∃ st w1, (Instr.mapEntry t (.map (some b)) (wayV i k)).run Tryz.prog w = .ok (.tuple #[(g i k).getD z, goInt st]) w1 ∧ Fr (fun x => x = b) w w1 ∧ w1.heap.size = w.heap.size ∧
      ∀ w2 val, w2.heap[b]? = w1.heap[b]? → ∃ w3, (Instr.entryStore t (.map (some b)) (goInt st) val).run Tryz.prog w2 = .ok () w3 ∧ OwnW w3 b (if (g i k).isSome then n else n + 1) (fun x y => if x = i ∧ y = k then some val else g x y) ∧ Fr (fun x => x = b) w2 w3 ∧ w3.heap.size = w2.heap.size := by
  have hlook := hown.look ht hz hi hk
  have hstore := fun val => hown.store ht hn i k val hi hk
  have hkey := keyW i k hi hk
  obtain ⟨D, ⟨es, clock, hb, F, hs, hD⟩, -, -⟩ := hown
  obtain ⟨v0, st, es1, clock1, hrun, hv, hst⟩ := entry_then_store lawWL ht hz hb F hkey
  have hv0 : v0 = (g i k).getD z := by
    rcases lawWL.find w hkey es.toList F.keys with ⟨h1, h2⟩ | ⟨j, e0, h1, h2, h3⟩
    · have hl : (Instr.lookup t (.map (some b)) (wayV i k) false).run Tryz.prog w = .ok z w := by
        simp [Instr.lookup, run_underlying ht, MapKept.run_getObj_map hb, lawWL.check w _ hkey, h1, hz, Result.andThen]
      have hlook := ok_val (hl.symm.trans hlook)
      rcases hv with ⟨e1, he1, he2, -⟩ | ⟨-, h4⟩
      · exact absurd he2 (h2 e1 he1)
      · exact h4.trans hlook
    · have hl : (Instr.lookup t (.map (some b)) (wayV i k) false).run Tryz.prog w = .ok e0.val w := by
        simp [Instr.lookup, run_underlying ht, MapKept.run_getObj_map hb, lawWL.check w _ hkey, h1, Result.andThen]
      have hlook := ok_val (hl.symm.trans hlook)
      have hm0 : e0 ∈ es.toList := List.mem_of_getElem? h2
      rcases hv with ⟨e1, he1, he2, h4⟩ | ⟨h4, -⟩
      · have hj : es[j]? = some e0 := by simpa using h2
        have hr : ∃ x w', (Instr.mapEntry t (.map (some b)) (wayV i k)).run Tryz.prog w = .ok (.tuple #[e0.val, x]) w' := by
          simp [Instr.mapEntry, run_underlying ht, MapKept.run_getObj_map hb, lawWL.check w false hkey, h1, hj, h3, lawWL.stays w hkey, MapKept.run_setObj_map _ hb, Result.andThen]
        obtain ⟨x, w', hr⟩ := hr
        rw [hrun] at hr
        injection hr with hr
        injection hr with hr
        simp only [Array.mk.injEq, List.cons.injEq] at hr
        exact hr.1.trans hlook
      · exact absurd h3 (h4 e0 hm0)
  subst hv0
  have hfr : ∀ (W : World) (o : Obj), Fr (fun x => x = b) W (setBlock W b o) := fun W o => ⟨rfl, rfl, rfl, by simp [setBlock], fun k hk hne => by
    unfold setBlock
    simp only [Array.getElem?_setIfInBounds]
    rw [if_neg (fun e => hne e.symm)]⟩
  refine ⟨st, _, hrun, hfr _ _, by simp [setBlock], fun w2 val h2 => ?_⟩
  have hblt : b < w.heap.size := by
    rcases Nat.lt_or_ge b w.heap.size with h | h
    · exact h
    · rw [Array.getElem?_eq_none h] at hb; cases hb
  have hb1 : (setBlock w b (.map es1 clock1)).heap[b]? = some (.map es1 clock1) := by
    unfold setBlock
    simp [Array.getElem?_setIfInBounds, hblt]
  rw [hb1] at h2
  obtain ⟨es', clock', r1, r2⟩ := hst w2 val h2
  obtain ⟨w', r3, r4, -⟩ := hstore val
  rw [r2] at r3
  injection r3 with _ r3
  have hblt2 : b < w2.heap.size := by
    rcases Nat.lt_or_ge b w2.heap.size with h | h
    · exact h
    · rw [Array.getElem?_eq_none h] at h2; cases h2
  refine ⟨_, r1, ?_, hfr _ _, by simp [setBlock]⟩
  obtain ⟨D', ⟨es3, clock3, q1, q2⟩, q3⟩ := r4
  refine ⟨D', ⟨es3, clock3, ?_, q2⟩, q3⟩
  rw [← r3] at q1
  unfold setBlock at q1 ⊢
  simp [Array.getElem?_setIfInBounds, hblt] at q1
  simp [Array.getElem?_setIfInBounds, hblt2]
  exact q1
end Go.Proofs.YthgbcgphkddmgaaGreat
