/- Words for memory: a slice that reads as n elements of some cells each; the cells of a row of the call's own. Rows of the call's own: a cell, a store, and what else stays. Frames: what a call may write. Maps from numbers to anything, with their exact size: look, store, delete, range. Maps from ways, pairs of node numbers, to anything. -/
import Derived.Test.YthgbcgphkddmgaaGreatBase
import Derived.WalkSpells
import Derived.WalkSmall
import Derived.Maps.AppendAt
import Derived.Maps.OwnOps
import Derived.Maps.OwnSet
import Derived.Maps.RangeWalk
import Derived.DeepKeys4
namespace Go.Proofs.YthgbcgphkddmgaaGreat
open Go.RowKit

/-- the cells of n elements, one behind the other -/
def flatC (g : Nat → List Value) : Nat → List Value
  | 0 => []
  | n + 1 => flatC g n ++ g n
theorem flatC_length {g : Nat → List Value} {sz : Nat} (h : ∀ k, (g k).length = sz) (n : Nat) : (flatC g n).length = n * sz := by
  induction n with
  | zero => simp [flatC]
  | succ n ih => simp [flatC, ih, h, Nat.succ_mul]
theorem flatC_get {g : Nat → List Value} {sz : Nat} (h : ∀ k, (g k).length = sz) {n k j : Nat} (hk : k < n) (hj : j < sz) : (flatC g n)[k * sz + j]? = (g k)[j]? := by
  induction n with
  | zero => omega
  | succ n ih =>
    have hl := flatC_length h n
    have hle : k * sz + j < (k + 1) * sz := by rw [Nat.succ_mul]; omega
    by_cases e : k = n
    · subst e
      rw [flatC, List.getElem?_append_right (by omega), hl]
      congr 1
      omega
    · have h2 : (k + 1) * sz ≤ n * sz := Nat.mul_le_mul_right _ (by omega)
      rw [flatC, List.getElem?_append_left (by omega), ih (by omega)]
theorem flatC_congr {g g' : Nat → List Value} {n : Nat} (h : ∀ k, k < n → g k = g' k) : flatC g n = flatC g' n := by
  induction n with
  | zero => rfl
  | succ n ih => rw [flatC, flatC, ih fun k hk => h k (by omega), h n (by omega)]
theorem flatC_mem {g : Nat → List Value} {n : Nat} {u : Value} (h : u ∈ flatC g n) : ∃ k, k < n ∧ u ∈ g k := by
  induction n with
  | zero => simp [flatC] at h
  | succ n ih =>
    rcases List.mem_append.1 h with h | h
    · obtain ⟨k, hk, hu⟩ := ih h
      exact ⟨k, by omega, hu⟩
    · exact ⟨n, by omega, h⟩
theorem flatC_at {g : Nat → List Value} {sz : Nat} (h : ∀ k, (g k).length = sz) (hs : 0 < sz) {n i : Nat} {u : Value} (hi : (flatC g n)[i]? = some u) : i / sz < n ∧ i % sz < sz ∧ (g (i / sz))[i % sz]? = some u := by
  have hl := flatC_length h n
  have hlt : i < n * sz := by
    rcases Nat.lt_or_ge i (n * sz) with hh | hh
    · exact hh
    · rw [List.getElem?_eq_none (by omega)] at hi; cases hi
  have h1 : i / sz < n := Nat.div_lt_of_lt_mul (by rw [Nat.mul_comm]; exact hlt)
  have h2 : i % sz < sz := Nat.mod_lt _ hs
  refine ⟨h1, h2, ?_⟩
  rw [← flatC_get h h1 h2, Nat.div_add_mod' i sz]
  exact hi
/-- one element changed -/
def updC (g : Nat → List Value) (k : Nat) (c : List Value) : Nat → List Value := fun i => if i = k then c else g i
theorem flatC_set {g : Nat → List Value} {sz : Nat} (h : ∀ k, (g k).length = sz) {n k j : Nat} (hj : j < sz) (u : Value) :
    (flatC g n).set (k * sz + j) u = flatC (updC g k ((g k).set j u)) n := by
  have h' : ∀ i, (updC g k ((g k).set j u) i).length = sz := fun i => by unfold updC; split <;> simp [h]
  have hs : 0 < sz := by omega
  apply List.ext_getElem?
  intro i
  by_cases hlt : i < n * sz
  · have h1 : i / sz < n := Nat.div_lt_of_lt_mul (by rw [Nat.mul_comm]; exact hlt)
    have h2 : i % sz < sz := Nat.mod_lt _ hs
    have e0 : i / sz * sz + i % sz = i := Nat.div_add_mod' i sz
    rw [List.getElem?_set]
    have r2 : (flatC (updC g k ((g k).set j u)) n)[i]? = (updC g k ((g k).set j u) (i / sz))[i % sz]? := by
      conv => lhs; rw [← e0]
      exact flatC_get h' h1 h2
    have r1 : (flatC g n)[i]? = (g (i / sz))[i % sz]? := by
      conv => lhs; rw [← e0]
      exact flatC_get h h1 h2
    rw [r2, r1, flatC_length h]
    unfold updC
    by_cases e : i / sz = k
    · rw [if_pos e, List.getElem?_set]
      by_cases ej : j = i % sz
      · have : k * sz + j = i := by rw [← e, ej]; exact e0
        rw [if_pos this, if_pos ej, if_pos (by omega), if_pos (by rw [h]; exact hj)]
      · have : ¬ k * sz + j = i := by
          intro hh
          rw [← e] at hh
          omega
        rw [if_neg this, if_neg ej, e]
    · rw [if_neg e]
      have : ¬ k * sz + j = i := by
        intro hh
        apply e
        rw [← hh, Nat.mul_comm, Nat.mul_add_div hs, Nat.div_eq_of_lt hj]
        omega
      rw [if_neg this]
  · rw [List.getElem?_eq_none (by rw [List.length_set, flatC_length h]; omega), List.getElem?_eq_none (by rw [flatC_length h']; omega)]

/-- the slice at A of n elements reads as the cells g k, sz each -/
def Rd (w : World) (sz : Nat) (g : Nat → List Value) (A : Option Addr) (n : Nat) : Prop :=
  0 < n → ∃ b off, A = some ⟨b, off, none⟩ ∧ b < w.heap.size ∧ ∀ k, k < n → ∀ j u, (g k)[j]? = some u → w.cell? ⟨b, off + k * sz + j, none⟩ = some u
theorem Rd.below {w w' : World} {sz n : Nat} {g : Nat → List Value} {A : Option Addr} (h : Rd w sz g A n) (hb : Below w.heap.size w w') : Rd w' sz g A n := fun h0 => by
  obtain ⟨b, off, hA, hlt, hc⟩ := h h0
  exact ⟨b, off, hA, Nat.lt_of_lt_of_le hlt hb.size, fun k hk j u hu => (hb.cell (p := ⟨b, _, none⟩) hlt).trans (hc k hk j u hu)⟩
theorem Rd.alloc {w : World} {sz n : Nat} {g : Nat → List Value} {A : Option Addr} (h : Rd w sz g A n) (o : Obj) : Rd (w.alloc o) sz g A n := h.below ((Below.refl _ _).alloc (Nat.le_refl _) o)
theorem Rd.congr {w : World} {sz n : Nat} {g g' : Nat → List Value} {A : Option Addr} (h : Rd w sz g A n) (e : ∀ k, k < n → g k = g' k) : Rd w sz g' A n := fun h0 => by
  obtain ⟨b, off, hA, hlt, hc⟩ := h h0
  exact ⟨b, off, hA, hlt, fun k hk j u hu => hc k hk j u (by rw [e k hk]; exact hu)⟩
theorem Rd.take {w : World} {sz n m : Nat} {g : Nat → List Value} {A : Option Addr} (h : Rd w sz g A n) (hm : m ≤ n) : Rd w sz g A m := fun h0 => by
  obtain ⟨b, off, hA, hlt, hc⟩ := h (by omega)
  exact ⟨b, off, hA, hlt, fun k hk => hc k (by omega)⟩
theorem Rd.of_own {w : World} {base e sz n c : Nat} {g : Nat → List Value} {A : Option Addr} (hl : ∀ k, (g k).length = sz) (h : w.ownsRow base e sz (.slice A n c) n (flatC g n)) : Rd w sz g A n := fun h0 => by
  rcases h.2 with ⟨_, h'⟩ | ⟨g', cap, cur, hv, hb, hg, hnc, hcm, hcs, htake⟩
  · omega
  · obtain ⟨rfl, rfl⟩ : A = some ⟨g', 0, none⟩ ∧ c = cap := by injection hv with h1 h2 h3; exact ⟨h1, h3⟩
    have hlt := (h.lt g' rfl).2
    refine ⟨g', 0, rfl, hlt, fun k hk j u hu => ?_⟩
    have hj : j < sz := by
      rcases Nat.lt_or_ge j sz with hh | hh
      · exact hh
      · rw [List.getElem?_eq_none (by rw [hl]; exact hh)] at hu; cases hu
    have h2 : (k + 1) * sz ≤ n * sz := Nat.mul_le_mul_right _ (by omega)
    rw [Nat.succ_mul] at h2
    rw [Nat.zero_add, h.cellAt _ (by omega), flatC_get hl hk hj]
    exact hu
/-- a slice of the call's own, of n elements with the cells xs -/
def ClonePost (e : TypeId) (sz n : Nat) (xs : List Value) (w : World) (en : Ending) (w' : World) : Prop := ∃ v, en = .returned v ∧ w'.ownsRow w.heap.size e sz v n xs ∧ Below w.heap.size w w'
theorem own_form {w : World} {base : Nat} {e : TypeId} {sz n : Nat} {v : Value} {xs : List Value} (h : w.ownsRow base e sz v n xs) (hn : 0 < n) :
    ∃ g cap, v = .slice (some ⟨g, 0, none⟩) n cap ∧ base ≤ g ∧ g < w.heap.size ∧ n ≤ cap ∧ cap ≤ 9223372036854775807 := by
  rcases h.2 with ⟨_, h'⟩ | ⟨g, cap, cur, hv, hb, hg, hnc, hcm, _⟩
  · omega
  · exact ⟨g, cap, hv, hb, (h.lt g (by rw [hv]; rfl)).2, hnc, hcm⟩
theorem own_mono {w : World} {base base' : Nat} {e : TypeId} {sz n : Nat} {v : Value} {xs : List Value} (h : w.ownsRow base e sz v n xs) (hb : base' ≤ base) : w.ownsRow base' e sz v n xs := by
  refine ⟨h.1, ?_⟩
  rcases h.2 with h | ⟨g, cap, cur, hv, hb', hr⟩
  · exact .inl h
  · exact .inr ⟨g, cap, cur, hv, by omega, hr⟩
/-- the value of an owned row is nil or starts at the head of a block -/
theorem own_any {w : World} {base : Nat} {e : TypeId} {sz n : Nat} {v : Value} {xs : List Value} (h : w.ownsRow base e sz v n xs) :
    ∃ A cap, v = .slice A n cap ∧ n ≤ cap ∧ cap ≤ 9223372036854775807 ∧ (A = none → n = 0) := by
  rcases h.2 with ⟨hv, h'⟩ | ⟨g, cap, cur, hv, hb, hg, hnc, hcm, _⟩
  · exact ⟨none, 0, by rw [hv, h'], by omega, by omega, fun _ => h'⟩
  · exact ⟨_, cap, hv, hnc, hcm, fun h => by cases h⟩
theorem bcell {W w1 : World} (hb : Below W.heap.size W w1) : (∀ b o, b < W.heap.size → w1.cell? ⟨b, o, none⟩ = W.cell? ⟨b, o, none⟩) ∧ (∀ b o, b < W.heap.size → w1.frozen? ⟨b, o, none⟩ = W.frozen? ⟨b, o, none⟩) :=
  ⟨fun b o h => hb.cell (p := ⟨b, o, none⟩) h, fun b o h => hb.frozen (p := ⟨b, o, none⟩) h⟩
end Go.Proofs.YthgbcgphkddmgaaGreat
namespace Go.Proofs.YthgbcgphkddmgaaGreat
open Go.RowKit
theorem own_cellC {w : World} {base g cap n k j sz : Nat} {e : TypeId} {G : Nat → List Value} (h : w.ownsRow base e sz (.slice (some ⟨g, 0, none⟩) n cap) n (flatC G n)) (hl : ∀ k, (G k).length = sz) (hk : k < n) (hj : j < sz) :
    w.cell? ⟨g, k * sz + j, none⟩ = (G k)[j]? := by
  have h2 : (k + 1) * sz ≤ n * sz := Nat.mul_le_mul_right _ (by omega)
  rw [Nat.succ_mul] at h2
  rw [h.cellAt _ (by omega), flatC_get hl hk hj]
theorem own_setC {w : World} {base g cap n k j sz : Nat} {e : TypeId} {G G' : Nat → List Value} (h : w.ownsRow base e sz (.slice (some ⟨g, 0, none⟩) n cap) n (flatC G n)) (hl : ∀ k, (G k).length = sz) (hj : j < sz) (u : Value)
    (hG : ∀ i, i < n → G' i = if i = k then (G k).set j u else G i) :
    (w.setCell ⟨g, k * sz + j, none⟩ u).ownsRow base e sz (.slice (some ⟨g, 0, none⟩) n cap) n (flatC G' n) ∧ w.grownBy (w.setCell ⟨g, k * sz + j, none⟩ u) (some g) := by
  have h1 := h.stored (k * sz + j) u
  rw [flatC_set hl hj] at h1
  have e1 : flatC (updC G k ((G k).set j u)) n = flatC G' n := flatC_congr fun i hi => by rw [hG i hi]; rfl
  rw [e1] at h1
  exact h1
theorem grown_self (w : World) (row : Option Nat) : w.grownBy w row := ⟨rfl, rfl, rfl, Nat.le_refl _, fun _ _ _ => rfl⟩
/-- a later step that touches new blocks, or the same one -/
theorem grown_step {w w1 w2 : World} {g row : Option Nat} (h1 : w.grownBy w1 g) (h2 : w1.grownBy w2 row) (hr : row = g ∨ ∀ k, row = some k → w.heap.size ≤ k) : w.grownBy w2 g := by
  refine ⟨h2.os.trans h1.os, h2.tape.trans h1.tape, h2.output.trans h1.output, Nat.le_trans h1.size h2.size, fun k hk hne => ?_⟩
  rw [h2.block k (Nat.lt_of_lt_of_le hk h1.size) ?_, h1.block k hk hne]
  rcases hr with rfl | hr
  · exact hne
  · intro e
    have := hr k e.symm
    omega
theorem grown_below {w w1 : World} {g : Option Nat} (h : Below w.heap.size w w1) : w.grownBy w1 g := ⟨h.os, h.tape, h.output, h.size, fun k hk _ => h.block k hk⟩
theorem below_grown {B : Nat} {w w1 w2 : World} {row : Option Nat} (h : Below B w w1) (hB : B ≤ w1.heap.size) (hg : w1.grownBy w2 row) (hr : ∀ k, row = some k → B ≤ k) : Below B w w2 := h.grown hg hB hr
theorem grown_alloc {w w1 : World} {g : Option Nat} (h : w.grownBy w1 g) (o : Obj) : w.grownBy (w1.alloc o) g := grown_step h (World.grownBy_alloc w1 o none) (.inr (by simp))
theorem grown_set {w w1 : World} {g : Nat} {a : Nat} (h : w.grownBy w1 (some g)) (u : Value) : w.grownBy (w1.setCell ⟨g, a, none⟩ u) (some g) :=
  grown_step h ⟨rfl, rfl, rfl, by simp, fun k _ hk => heap_setCell_other w1 ⟨g, a, none⟩ k u (fun e => hk (by simp [e]))⟩ (.inl rfl)
theorem grown_cell {w w1 : World} {row : Option Nat} {b o : Nat} (h : w.grownBy w1 row) (hb : b < w.heap.size) (hne : some b ≠ row) : w1.cell? ⟨b, o, none⟩ = w.cell? ⟨b, o, none⟩ := World.cell?_of_block (a := ⟨b, o, none⟩) (h.block b hb hne)
theorem grown_frozen {w w1 : World} {row : Option Nat} {b o : Nat} (h : w.grownBy w1 row) (hb : b < w.heap.size) (hne : some b ≠ row) : w1.frozen? ⟨b, o, none⟩ = w.frozen? ⟨b, o, none⟩ := World.frozen?_of_block (a := ⟨b, o, none⟩) (h.block b hb hne)
theorem own_lt {w : World} {base g cap n sz : Nat} {e : TypeId} {xs : List Value} (h : w.ownsRow base e sz (.slice (some ⟨g, 0, none⟩) n cap) n xs) : base ≤ g ∧ g < w.heap.size := h.lt g rfl
theorem own_cap {w : World} {base g cap n sz : Nat} {e : TypeId} {xs : List Value} (h : w.ownsRow base e sz (.slice (some ⟨g, 0, none⟩) n cap) n xs) : n ≤ cap ∧ cap ≤ 9223372036854775807 := by
  obtain ⟨A', c', hv, hnc, hcm, _⟩ := own_any h
  injection hv with _ _ hv3
  subst hv3
  exact ⟨hnc, hcm⟩
/-- a row elsewhere stays -/
theorem own_grown {w w1 : World} {base n sz : Nat} {e : TypeId} {v : Value} {xs : List Value} {row : Option Nat} (h : w.ownsRow base e sz v n xs) (hg : w.grownBy w1 row) (hne : ∀ k, v.ownBlock = some k → row ≠ some k) : w1.ownsRow base e sz v n xs := by
  refine h.kept hg ?_
  cases hv : v.ownBlock with
  | none => exact .inl rfl
  | some k => exact .inr (fun e => hne k hv e.symm)
theorem grown_drew {w w1 : World} {row : Option Nat} (h : w.drew.grownBy w1 row) : w.grownBy w1 row := ⟨h.os, h.tape, h.output, h.size, h.block⟩
theorem drewN_drewN (w : World) (a b : Nat) : (w.drewN a).drewN b = w.drewN (a + b) := by
  simp [World.drewN, Nat.add_assoc]
theorem below_set {B : Nat} {w wx : World} {b o : Nat} {u : Value} (h : Below B w wx) (hb : B ≤ b) : Below B w (wx.setCell ⟨b, o, none⟩ u) := h.setCell hb u
end Go.Proofs.YthgbcgphkddmgaaGreat
namespace Go.Proofs.YthgbcgphkddmgaaGreat
open Go.RowKit
set_option linter.unusedVariables false
/-- from w to w' only the blocks of S have turned, and new ones have come -/
structure Fr (S : Nat → Prop) (w w' : World) : Prop where
  os : w'.os = w.os
  tape : w'.tape = w.tape
  output : w'.output = w.output
  size : w.heap.size ≤ w'.heap.size
  block : ∀ k, k < w.heap.size → ¬ S k → w'.heap[k]? = w.heap[k]?
variable {S S2 : Nat → Prop} {w w1 w2 : World}
theorem Fr.refl (S : Nat → Prop) (w : World) : Fr S w w := ⟨rfl, rfl, rfl, Nat.le_refl _, fun _ _ _ => rfl⟩
theorem Fr.trans (h : Fr S w w1) (k : Fr S2 w1 w2) (hS : ∀ i, S2 i → S i ∨ w.heap.size ≤ i) : Fr S w w2 :=
  ⟨k.os.trans h.os, k.tape.trans h.tape, k.output.trans h.output, Nat.le_trans h.size k.size, fun i hi hn => (k.block i (Nat.lt_of_lt_of_le hi h.size) (fun hs => by rcases hS i hs with h | h; exact hn h; omega)).trans (h.block i hi hn)⟩
theorem Fr.trans' (h : Fr S w w1) (k : Fr S w1 w2) : Fr S w w2 := h.trans k fun _ h => .inl h
theorem Fr.weak (h : Fr S w w1) (hS : ∀ i, S i → S2 i) : Fr S2 w w1 := ⟨h.os, h.tape, h.output, h.size, fun i hi hn => h.block i hi fun hs => hn (hS i hs)⟩
theorem Fr.of_below (h : Below w.heap.size w w1) : Fr S w w1 := ⟨h.os, h.tape, h.output, h.size, fun i hi _ => h.block i hi⟩
theorem Fr.of_grown {row : Option Nat} (h : w.grownBy w1 row) (hr : ∀ b, row = some b → S b ∨ w.heap.size ≤ b) : Fr S w w1 :=
  ⟨h.os, h.tape, h.output, h.size, fun i hi hn => h.block i hi fun e => by rcases hr i e.symm with h | h; exact hn h; omega⟩
theorem Fr.below {base : Nat} (h : Fr S w w1) (hS : ∀ i, S i → base ≤ i) (hb : base ≤ w.heap.size) : Below base w w1 :=
  ⟨h.os, h.tape, h.output, h.size, fun i hi => h.block i (by omega) fun hs => by have := hS i hs; omega⟩
theorem Fr.cell (h : Fr S w w1) {b o : Nat} {v : Value} (hc : w.cell? ⟨b, o, none⟩ = some v) (hn : ¬ S b) : w1.cell? ⟨b, o, none⟩ = some v :=
  (World.cell?_of_block (a := ⟨b, o, none⟩) (h.block b (World.block_lt_of_cell? w _ hc) hn)).trans hc
theorem Fr.frozen (h : Fr S w w1) {b o : Nat} (hb : b < w.heap.size) (hn : ¬ S b) : w1.frozen? ⟨b, o, none⟩ = w.frozen? ⟨b, o, none⟩ :=
  World.frozen?_of_block (a := ⟨b, o, none⟩) (h.block b hb hn)
theorem Fr.alloc (h : Fr S w w1) (o : Obj) : Fr S w (w1.alloc o) :=
  ⟨h.os, h.tape, h.output, Nat.le_trans h.size (by simp), fun i hi hn => (Below.heap_alloc w1 o i (Nat.lt_of_lt_of_le hi h.size)).trans (h.block i hi hn)⟩
theorem Fr.drew (h : Fr S w w1) : Fr S w w1.drew := ⟨h.os, h.tape, h.output, h.size, h.block⟩
theorem Fr.set (h : Fr S w w1) {b o : Nat} (hb : S b ∨ w.heap.size ≤ b) (u : Value) : Fr S w (w1.setCell ⟨b, o, none⟩ u) :=
  ⟨h.os, h.tape, h.output, by have := h.size; simpa using this, fun i hi hn => (Below.heap_setCell w1 ⟨b, o, none⟩ u i (fun e => by rcases hb with h | h; exact hn (e ▸ h); exact absurd (show i = b from e) (by omega))).trans (h.block i hi hn)⟩
theorem Fr.row {base size n : Nat} {e : TypeId} {v : Value} {xs : List Value} (h : Fr S w w1) (hr : w.ownsRow base e size v n xs) (hn : ∀ b, v.ownBlock = some b → ¬ S b) : w1.ownsRow base e size v n xs := by
  have hlt := fun b hb => (World.ownsRow.lt hr b hb).2
  obtain ⟨h1, h2⟩ := hr
  refine ⟨h1, ?_⟩
  rcases h2 with h2 | ⟨g, cap, cur, rfl, a1, a2, a3⟩
  · exact .inl h2
  · exact .inr ⟨g, cap, cur, rfl, a1, (h.block g (hlt g rfl) (hn g rfl)).trans a2, a3⟩
theorem Fr.map {H : Type} {P : Program} {k : TypeId} {R : Value → Option (DataW H × List MemPlace)} {b n : Nat} {D : DataW H} (h : Fr S w w1) (hm : w.ownsMap P k R b n D) (hn : ¬ S b) : w1.ownsMap P k R b n D := by
  have hlt := hm.lt
  obtain ⟨es, clock, hb, a⟩ := hm
  exact ⟨es, clock, (h.block b hlt hn).trans hb, a⟩
end Go.Proofs.YthgbcgphkddmgaaGreat
namespace Go.Proofs.YthgbcgphkddmgaaGreat
open Go.RowKit Go.Maps
set_option linter.unusedVariables false
set_option linter.unusedSimpArgs false
def Wf (x : Int) : Prop := (Lit.int .i64 x).wf = true
theorem lawI : Keyed Tryz.prog 3 := int_keyed Tryz.underlying3
theorem keyI {x : Int} (h : Wf x) : keyOf Tryz.prog 3 (.int .i64 x) = some (.int .i64 x) := keyOf_int_mk Tryz.underlying3 h
theorem Wf.iff {x : Int} : Wf x ↔ -9223372036854775808 ≤ x ∧ x ≤ 9223372036854775807 := by
  have e1 : IntKind.i64.min = -9223372036854775808 := by decide
  have e2 : IntKind.i64.max = 9223372036854775807 := by decide
  show (decide (IntKind.i64.min ≤ x) && decide (x ≤ IntKind.i64.max)) = true ↔ _
  rw [e1, e2, Bool.and_eq_true, decide_eq_true_eq, decide_eq_true_eq]
theorem Wf.of {x : Int} (h1 : -9223372036854775808 ≤ x) (h2 : x ≤ 9223372036854775807) : Wf x := Wf.iff.2 ⟨h1, h2⟩
theorem Wf.low {x : Int} (h : Wf x) : -9223372036854775808 ≤ x ∧ x ≤ 9223372036854775807 := Wf.iff.1 h
/-- an element stands for itself -/
def anyElem (v : Value) : Option (DataW Value × List MemPlace) := some (.held v, [])
theorem anyElem_inv {v : Value} {d : DataW Value} {ps : List MemPlace} (h : anyElem v = some (d, ps)) : d = .held v := by
  unfold anyElem at h
  injection h with h
  injection h with h1 h2
  exact h1.symm
/-- block b holds the map g, of n entries -/
def OwnM (w : World) (b n : Nat) (g : Int → Option Value) : Prop :=
  ∃ D : DataW Value, w.ownsMap Tryz.prog 3 anyElem b n D ∧ Maps.size D = n ∧ ∀ x, Wf x → has D (.int .i64 x) = (g x).isSome ∧ ∀ z, D.atKey (.int .i64 x) (.held z) = .held ((g x).getD z)
theorem OwnM.made (w : World) : OwnM (w.alloc (.map #[] 0)) w.heap.size 0 (fun _ => none) := ⟨.map [], World.ownsMap_made w _ _ _, rfl, fun x _ => ⟨rfl, fun _ => rfl⟩⟩
theorem OwnM.lt {w : World} {b n : Nat} {g : Int → Option Value} (h : OwnM w b n g) : b < w.heap.size := by obtain ⟨D, h1, _⟩ := h; exact h1.lt
theorem OwnM.kept {w w' : World} {b n : Nat} {g : Int → Option Value} {row : Option Nat} (h : OwnM w b n g) (hg : w.grownBy w' row) (hne : some b ≠ row) : OwnM w' b n g := by
  obtain ⟨D, h1, h2⟩ := h
  exact ⟨D, h1.kept hg hne, h2⟩
theorem OwnM.fr {S : Nat → Prop} {w w' : World} {b n : Nat} {g : Int → Option Value} (h : OwnM w b n g) (hf : Fr S w w') (hn : ¬ S b) : OwnM w' b n g := by
  obtain ⟨D, h1, h2⟩ := h
  exact ⟨D, hf.map h1 hn, h2⟩
theorem OwnM.congr {w : World} {b n : Nat} {g g' : Int → Option Value} (h : OwnM w b n g) (e : ∀ x, Wf x → g' x = g x) : OwnM w b n g' := by
  obtain ⟨D, h1, h2, h3⟩ := h
  exact ⟨D, h1, h2, fun x hx => by rw [e x hx]; exact h3 x hx⟩
section
variable {t e : TypeId} {z : Value}
set_option maxRecDepth 100000
theorem OwnM.look (ht : Tryz.prog.underlying t = some (.map 3 e)) (hz : ∀ w, (zeroValue e).run Tryz.prog w = .ok z w) {w : World} {b n : Nat} {g : Int → Option Value} (h : OwnM w b n g) {x : Int} (hx : Wf x) : (Instr.lookup t (.map (some b)) (.int .i64 x) false).run Tryz.prog w = .ok ((g x).getD z) w := by
  obtain ⟨D, h1, _, h2⟩ := h
  obtain ⟨v, ps, hrun, hv⟩ := h1.lookup lawI ht (hz w) (show anyElem z = some (.held z, []) from rfl) (keyI hx)
  rw [(h2 x hx).2] at hv
  have := anyElem_inv hv
  injection this with this
  rw [hrun, this]
theorem OwnM.look_ok (ht : Tryz.prog.underlying t = some (.map 3 e)) (hz : ∀ w, (zeroValue e).run Tryz.prog w = .ok z w) {w : World} {b n : Nat} {g : Int → Option Value} (h : OwnM w b n g) {x : Int} (hx : Wf x) : (Instr.lookup t (.map (some b)) (.int .i64 x) true).run Tryz.prog w = .ok (.tuple #[(g x).getD z, .bool (g x).isSome]) w := by
  obtain ⟨D, h1, _, h2⟩ := h
  obtain ⟨v, ps, hrun, hv⟩ := h1.look_ok lawI ht (hz w) (show anyElem z = some (.held z, []) from rfl) (keyI hx)
  rw [(h2 x hx).2] at hv
  have := anyElem_inv hv
  injection this with this
  rw [hrun, (h2 x hx).1, this]
theorem OwnM.len (ht : Tryz.prog.underlying t = some (.map 3 e)) {w : World} {b n : Nat} {g : Int → Option Value} (h : OwnM w b n g) (ty : TypeId) : (Builtin.len_ #[t] ty #[.map (some b)]).run Tryz.prog w = .ok (.int .i64 (n : Int)) w := by
  obtain ⟨D, h1, hs, _⟩ := h
  rw [h1.len ht ty, hs]
theorem OwnM.store (ht : Tryz.prog.underlying t = some (.map 3 e)) {w : World} {b n : Nat} {g : Int → Option Value} (hown : OwnM w b n g) (hn : n < maxLen) (key : Int) (val : Value) (hkey : Wf key) :
    ∃ w', (Instr.mapUpdate t (.map (some b)) (.int .i64 key) val).run Tryz.prog w = .ok () w' ∧ OwnM w' b (if (g key).isSome then n else n + 1) (fun y => if y = key then some val else g y) ∧ w.grownBy w' (some b) := by
  obtain ⟨D, h1, hs, h2⟩ := hown
  obtain ⟨w', hrun, r1, r2⟩ := h1.update lawI ht hn (keyI hkey) (show anyElem val = some (.held val, []) from rfl)
  have h3 := (h2 key hkey).1
  have hsz : Maps.size (D.put (.int .i64 key) (.held val)) = if (g key).isSome then n else n + 1 := by
    rw [size_put (h1.tidy lawI), h3, hs]
  obtain ⟨es, clock, q1, q2, q3⟩ := r1
  refine ⟨w', hrun, ⟨D.put (.int .i64 key) (.held val), ⟨es, clock, q1, q2, ?_⟩, hsz, fun y hy => ?_⟩, r2⟩
  · refine ⟨?_, q3.2⟩
    have : Maps.size (D.put (.int .i64 key) (.held val)) = es.size := by
      rw [q3.2]; simp [Maps.size, length_sorted]
    omega
  · have hKL : WideAt.IsKeyLit (Lit.int .i64 key) := lawI.key (keyI hkey)
    dsimp only
    by_cases e : y = key
    · subst e
      rw [if_pos rfl, has_put_same h1.isMap hKL]
      exact ⟨rfl, fun z => by rw [atKey_put_same h1.isMap hKL]; rfl⟩
    · have hne : (Lit.int .i64 y) ≠ (Lit.int .i64 key) := fun h => e (by injection h)
      rw [if_neg e, has_put_other hne]
      exact ⟨(h2 y hy).1, fun z => by rw [atKey_put_other hne]; exact (h2 y hy).2 z⟩
theorem OwnM.drop (ht : Tryz.prog.underlying t = some (.map 3 e)) {w : World} {b n : Nat} {g : Int → Option Value} (hown : OwnM w b n g) (key : Int) (hkey : Wf key) (ty : TypeId) :
    ∃ w', (Builtin.delete_ #[t, 3] ty #[.map (some b), .int .i64 key]).run Tryz.prog w = .ok (.tuple #[]) w' ∧ OwnM w' b (if (g key).isSome then n - 1 else n) (fun y => if y = key then none else g y) ∧ w.grownBy w' (some b) := by
  obtain ⟨D, h1, hs, h2⟩ := hown
  obtain ⟨w', hrun, r1, r2⟩ := h1.drop lawI ht (keyI hkey) ty
  have h3 := (h2 key hkey).1
  have hsz : Maps.size (D.del (.int .i64 key)) = if (g key).isSome then n - 1 else n := by
    have := size_del (h1.tidy lawI) (k := .int .i64 key)
    rw [h3, hs] at this
    split <;> simp_all <;> omega
  obtain ⟨es, clock, q1, q2, q3⟩ := r1
  refine ⟨w', hrun, ⟨D.del (.int .i64 key), ⟨es, clock, q1, q2, ?_⟩, hsz, fun y hy => ?_⟩, r2.grown⟩
  · refine ⟨?_, q3.2⟩
    have : Maps.size (D.del (.int .i64 key)) = es.size := by
      rw [q3.2]; simp [Maps.size, length_sorted]
    omega
  · dsimp only
    by_cases e : y = key
    · subst e
      rw [if_pos rfl, has_del_same]
      exact ⟨rfl, fun z => by rw [atKey_del_same]; rfl⟩
    · have hne : (Lit.int .i64 y) ≠ (Lit.int .i64 key) := fun h => e (by injection h)
      rw [if_neg e, has_del_other hne]
      exact ⟨(h2 y hy).1, fun z => by rw [atKey_del_other hne]; exact (h2 y hy).2 z⟩
end
end Go.Proofs.YthgbcgphkddmgaaGreat
namespace Go.Proofs.YthgbcgphkddmgaaGreat
open Go.RowKit Go.Maps
set_option linter.unusedVariables false
set_option linter.unusedSimpArgs false
def wayV (i k : Nat) : Value := .agg #[.int .i64 (i : Int), .int .i64 (k : Int)]
noncomputable def kB (i k : Nat) : List UInt8 := match keyOf Tryz.prog 100 (wayV i k) with
  | some (.string b) => b
  | _ => []
theorem keysW : ((List.range 9).all fun i => (List.range 9).all fun k => match keyOf Tryz.prog 100 (wayV i k) with
  | some (.string _) => true
  | _ => false) = true := by kernel_rfl
theorem keyW (i k : Nat) (hi : i < 9) (hk : k < 9) : keyOf Tryz.prog 100 (wayV i k) = some (.string (kB i k)) := by
  have h := List.all_eq_true.1 (List.all_eq_true.1 keysW i (List.mem_range.2 hi)) k (List.mem_range.2 hk)
  unfold kB
  split at h
  · rename_i e
    rw [e]
  · cases h
theorem injsW : ((List.range 9).all fun i => (List.range 9).all fun k => (List.range 9).all fun j => (List.range 9).all fun l => !(kB i k == kB j l) || (i == j && k == l)) = true := by kernel_rfl
theorem injW {i k j l : Nat} (hi : i < 9) (hk : k < 9) (hj : j < 9) (hl : l < 9) (e : kB i k = kB j l) : i = j ∧ k = l := by
  have h := List.all_eq_true.1 (List.all_eq_true.1 (List.all_eq_true.1 (List.all_eq_true.1 injsW i (List.mem_range.2 hi)) k (List.mem_range.2 hk)) j (List.mem_range.2 hj)) l (List.mem_range.2 hl)
  rw [e] at h
  simpa using h
set_option maxRecDepth 100000 in
theorem lawW : Keyed Tryz.prog 100 := Keyed.of_law (deep_law_laid (P := Tryz.prog) (by kernel_rfl) (m := 2) (by omega) (of_decide_eq_true (by kernel_rfl)) (by kernel_rfl) (by kernel_rfl))
/-- block b holds the map g of ways, of n entries -/
def OwnW (w : World) (b n : Nat) (g : Nat → Nat → Option Value) : Prop :=
  ∃ D : DataW Value, w.ownsMap Tryz.prog 100 anyElem b n D ∧ Maps.size D = n ∧ (∀ i k, i < 9 → k < 9 → has D (.string (kB i k)) = (g i k).isSome ∧ ∀ z, D.atKey (.string (kB i k)) (.held z) = .held ((g i k).getD z)) ∧ ∀ kl, has D kl = true → ∃ i k, i < 9 ∧ k < 9 ∧ kl = .string (kB i k)
theorem OwnW.made (w : World) : OwnW (w.alloc (.map #[] 0)) w.heap.size 0 (fun _ _ => none) := ⟨.map [], World.ownsMap_made w _ _ _, rfl, fun i k _ _ => ⟨rfl, fun _ => rfl⟩, fun kl h => by cases h⟩
theorem OwnW.lt {w : World} {b n : Nat} {g : Nat → Nat → Option Value} (h : OwnW w b n g) : b < w.heap.size := by obtain ⟨D, h1, _⟩ := h; exact h1.lt
theorem OwnW.fr {S : Nat → Prop} {w w' : World} {b n : Nat} {g : Nat → Nat → Option Value} (h : OwnW w b n g) (hf : Fr S w w') (hn : ¬ S b) : OwnW w' b n g := by
  obtain ⟨D, h1, h2⟩ := h
  exact ⟨D, hf.map h1 hn, h2⟩
theorem OwnW.congr {w : World} {b n : Nat} {g g' : Nat → Nat → Option Value} (h : OwnW w b n g) (e : ∀ i k, i < 9 → k < 9 → g' i k = g i k) : OwnW w b n g' := by
  obtain ⟨D, h1, h2, h3, h4⟩ := h
  exact ⟨D, h1, h2, fun i k hi hk => by rw [e i k hi hk]; exact h3 i k hi hk, h4⟩
section
variable {t e : TypeId} {z : Value}
set_option maxRecDepth 100000
theorem OwnW.look (ht : Tryz.prog.underlying t = some (.map 100 e)) (hz : ∀ w, (zeroValue e).run Tryz.prog w = .ok z w) {w : World} {b n : Nat} {g : Nat → Nat → Option Value} (h : OwnW w b n g) {i k : Nat} (hi : i < 9) (hk : k < 9) : (Instr.lookup t (.map (some b)) (wayV i k) false).run Tryz.prog w = .ok ((g i k).getD z) w := by
  obtain ⟨D, h1, _, h2, _⟩ := h
  obtain ⟨v, ps, hrun, hv⟩ := h1.lookup lawW ht (hz w) (show anyElem z = some (.held z, []) from rfl) (keyW i k hi hk)
  rw [(h2 i k hi hk).2] at hv
  have := anyElem_inv hv
  injection this with this
  rw [hrun, this]
theorem OwnW.len (ht : Tryz.prog.underlying t = some (.map 100 e)) {w : World} {b n : Nat} {g : Nat → Nat → Option Value} (h : OwnW w b n g) (ty : TypeId) : (Builtin.len_ #[t] ty #[.map (some b)]).run Tryz.prog w = .ok (.int .i64 (n : Int)) w := by
  obtain ⟨D, h1, hs, _⟩ := h
  rw [h1.len ht ty, hs]
theorem OwnW.store (ht : Tryz.prog.underlying t = some (.map 100 e)) {w : World} {b n : Nat} {g : Nat → Nat → Option Value} (hown : OwnW w b n g) (hn : n < maxLen) (i k : Nat) (val : Value) (hi : i < 9) (hk : k < 9) :
    ∃ w', (Instr.mapUpdate t (.map (some b)) (wayV i k) val).run Tryz.prog w = .ok () w' ∧ OwnW w' b (if (g i k).isSome then n else n + 1) (fun x y => if x = i ∧ y = k then some val else g x y) ∧ w.grownBy w' (some b) := by
  obtain ⟨D, h1, hs, h2, h4⟩ := hown
  obtain ⟨w', hrun, r1, r2⟩ := h1.update lawW ht hn (keyW i k hi hk) (show anyElem val = some (.held val, []) from rfl)
  have h3 := (h2 i k hi hk).1
  have hsz : Maps.size (D.put (.string (kB i k)) (.held val)) = if (g i k).isSome then n else n + 1 := by
    rw [size_put (h1.tidy lawW), h3, hs]
  obtain ⟨es, clock, q1, q2, q3⟩ := r1
  refine ⟨w', hrun, ⟨D.put (.string (kB i k)) (.held val), ⟨es, clock, q1, q2, ?_⟩, hsz, fun x y hx hy => ?_, fun kl hkl => ?_⟩, r2⟩
  · refine ⟨?_, q3.2⟩
    have : Maps.size (D.put (.string (kB i k)) (.held val)) = es.size := by
      rw [q3.2]; simp [Maps.size, length_sorted]
    omega
  · have hKL : WideAt.IsKeyLit (Lit.string (kB i k)) := lawW.key (keyW i k hi hk)
    dsimp only
    by_cases e : x = i ∧ y = k
    · obtain ⟨rfl, rfl⟩ := e
      rw [if_pos ⟨rfl, rfl⟩, has_put_same h1.isMap hKL]
      exact ⟨rfl, fun z => by rw [atKey_put_same h1.isMap hKL]; rfl⟩
    · have hne : (Lit.string (kB x y)) ≠ (Lit.string (kB i k)) := fun h => e (injW hx hy hi hk (by injection h))
      rw [if_neg e, has_put_other hne]
      exact ⟨(h2 x y hx hy).1, fun z => by rw [atKey_put_other hne]; exact (h2 x y hx hy).2 z⟩
  · by_cases e : kl = .string (kB i k)
    · exact ⟨i, k, hi, hk, e⟩
    · rw [has_put_other e] at hkl
      exact h4 kl hkl
end
end Go.Proofs.YthgbcgphkddmgaaGreat
