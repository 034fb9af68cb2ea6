/- Two appends in a statement that draws its order: what has been done so far. -/
import Derived.Test.YthgbcgphkddmgaaGreatZAX
import Derived.Test.YthgbcgphkddmgaaGreatZAL
import Derived.Test.YthgbcgphkddmgaaGreatZAP
import Derived.Test.YthgbcgphkddmgaaGreatZAN
import Derived.Test.YthgbcgphkddmgaaGreatZAO
import Derived.BigRegion
import Derived.Test.YthgbcgphkddmgaaGreatZAI
import Derived.Test.YthgbcgphkddmgaaGreatZAV
import Derived.Test.YthgbcgphkddmgaaGreatZAQ
import Derived.Deep.AppendLies
namespace Go.Proofs.YthgbcgphkddmgaaGreat
open Go.RowKit Go.Maps
set_option linter.unusedVariables false
set_option linter.unusedSimpArgs false
theorem infoNP : (Tryz.prog.info? 91).map (fun i => (i.zero, i.size, i.bytes)) = some (some (.pointer none), 1, 8) := by kernel_rfl
theorem infoTP : (Tryz.prog.info? 94).map (fun i => (i.zero, i.size, i.bytes)) = some (some (.pointer none), 1, 8) := by kernel_rfl
def ptrs (f : Nat → Nat) (i : Nat) : List Value := (List.range i).map fun k => .pointer (some ⟨f k, 0, none⟩)
theorem ptrs_succ (f : Nat → Nat) (i : Nat) : ptrs f (i + 1) = ptrs f i ++ [.pointer (some ⟨f i, 0, none⟩)] := by simp [ptrs, List.range_succ]
theorem ptrs_congr {f g : Nat → Nat} {i : Nat} (h : ∀ k, k < i → f k = g k) : ptrs f i = ptrs g i := by
  unfold ptrs
  refine List.map_congr_left fun k hk => ?_
  rw [h k (List.mem_range.1 hk)]
theorem ptrs_at (f : Nat → Nat) {i k : Nat} (h : k < i) : (ptrs f i)[k]? = some (.pointer (some ⟨f k, 0, none⟩)) := by simp [ptrs, h]
/-- a row of pointers, one more or not yet -/
def RowQ (W : World) (p i : Nat) (e : TypeId) (v : Value) (xs : List Value) (x : Value) (size : Nat) : Option Value → Prop
  | none => W.ownsRow (p + 1) e 1 v i xs
  | some v' => (∃ g c, v' = .slice (some ⟨g, 0, none⟩) (i + 1) c) ∧ W.ownsRow (p + 1) e 1 v' (i + 1) (xs ++ [x]) ∧ ∀ g, v'.ownBlock = some g → v.ownBlock = some g ∨ size ≤ g
def curQ (v : Value) : Option Value → Value
  | none => v
  | some v' => v'
structure Q2 (w2 : World) (p i : Nat) (va vb : Value) (xa xb : List Value) (ya yb : Value) (oa ob : Option Value) (W : World) : Prop where
  fr : Fr (fun x => x = p ∨ va.ownBlock = some x ∨ vb.ownBlock = some x) w2 W
  cells : ∀ o u, w2.cell? ⟨p, o, none⟩ = some u → W.cell? ⟨p, o, none⟩ = some u
  froz : ∀ o, w2.frozen? ⟨p, o, none⟩ = false → W.frozen? ⟨p, o, none⟩ = false
  pl : p < w2.heap.size
  ra : RowQ W p i 91 va xa ya w2.heap.size oa
  rb : RowQ W p i 94 vb xb yb w2.heap.size ob
  ne : ∀ g, (curQ va oa).ownBlock = some g → (curQ vb ob).ownBlock ≠ some g
  lta : ∀ g, va.ownBlock = some g → p < g ∧ g < w2.heap.size
  ltb : ∀ g, vb.ownBlock = some g → p < g ∧ g < w2.heap.size
theorem RowQ.grown {W W' : World} {p i : Nat} {e : TypeId} {v : Value} {xs : List Value} {x : Value} {size : Nat} {o : Option Value} {row : Option Nat} (h : RowQ W p i e v xs x size o) (hg : W.grownBy W' row) (hn : ∀ g, (curQ v o).ownBlock = some g → row ≠ some g) : RowQ W' p i e v xs x size o := by
  cases o with
  | none => exact own_grown h hg hn
  | some v' => exact ⟨h.1, own_grown h.2.1 hg hn, h.2.2⟩
section
variable {w2 : World} {p i : Nat} {va vb : Value} {xa xb : List Value} {ya yb : Value} {oa ob : Option Value} {W : World}
theorem Q2.alloc (H : Q2 w2 p i va vb xa xb ya yb oa ob W) (o : Obj) : Q2 w2 p i va vb xa xb ya yb oa ob (W.alloc o) :=
  ⟨H.fr.alloc o, fun k u h => (World.cell?_alloc_lt W o ⟨p, k, none⟩ (World.block_lt_of_cell? W _ (H.cells k u h))).trans (H.cells k u h), fun k h => (grown_frozen (b := p) (o := k) (World.grownBy_alloc W o none) (Nat.lt_of_lt_of_le H.pl H.fr.size) (by simp)).trans (H.froz k h), H.pl,
    H.ra.grown (World.grownBy_alloc W o none) (fun g _ e => by cases e), H.rb.grown (World.grownBy_alloc W o none) (fun g _ e => by cases e), H.ne, H.lta, H.ltb⟩
theorem Q2.start (h : w2.ownsRow (p + 1) 91 1 va i xa) (h' : w2.ownsRow (p + 1) 94 1 vb i xb) (hp : p < w2.heap.size) (hne : ∀ g, va.ownBlock = some g → vb.ownBlock ≠ some g) : Q2 w2 p i va vb xa xb ya yb none none w2.drew :=
  ⟨(Fr.refl _ _).drew, fun _ _ h => h, fun _ h => h, hp, h, h', hne, fun g e => by have := h.lt g e; omega, fun g e => by have := h'.lt g e; omega⟩
/-- where a row lies -/
theorem RowQ.blk {e : TypeId} {v : Value} {xs : List Value} {x : Value} {size : Nat} {o : Option Value} (h : RowQ W p i e v xs x size o) (hv : ∀ g, v.ownBlock = some g → p < g) (hs : p < size) : ∀ g, (curQ v o).ownBlock = some g → p < g ∧ g < W.heap.size := by
  intro g hg
  cases o with
  | none => exact ⟨hv g hg, (World.ownsRow.lt h g hg).2⟩
  | some v' =>
    refine ⟨?_, (World.ownsRow.lt h.2.1 g hg).2⟩
    rcases h.2.2 g hg with h | h
    · exact hv g h
    · omega
/-- what an append does to all the rest -/
theorem Q2.app (H : Q2 w2 p i va vb xa xb ya yb oa ob W) {W' : World} {v : Value} (hg : W.grownBy W' v.ownBlock) (hv : v.ownBlock = va.ownBlock ∨ v.ownBlock = vb.ownBlock) :
    Fr (fun x => x = p ∨ va.ownBlock = some x ∨ vb.ownBlock = some x) w2 W' ∧ (∀ o u, w2.cell? ⟨p, o, none⟩ = some u → W'.cell? ⟨p, o, none⟩ = some u) ∧ (∀ o, w2.frozen? ⟨p, o, none⟩ = false → W'.frozen? ⟨p, o, none⟩ = false) ∧ ∀ x u, w2.heap.size ≤ x → W.cell? ⟨x, 0, none⟩ = some u → W'.cell? ⟨x, 0, none⟩ = some u := by
  have hb : ∀ g, v.ownBlock = some g → (va.ownBlock = some g ∨ vb.ownBlock = some g) ∧ p < g ∧ g < w2.heap.size := fun g e => by
    rcases hv with h | h
    · rw [h] at e; exact ⟨.inl e, H.lta g e⟩
    · rw [h] at e; exact ⟨.inr e, H.ltb g e⟩
  have hpl : p < W.heap.size := Nat.lt_of_lt_of_le H.pl H.fr.size
  have hpn : some p ≠ v.ownBlock := fun e => by have := (hb p e.symm).2.1; omega
  refine ⟨H.fr.trans' (Fr.of_grown hg fun g e => .inl (.inr (hb g e).1)), fun o u h => (grown_cell (b := p) (o := o) hg hpl hpn).trans (H.cells o u h), fun o h => (grown_frozen (b := p) (o := o) hg hpl hpn).trans (H.froz o h), fun x u hx h => (grown_cell (b := x) (o := 0) hg (World.block_lt_of_cell? W _ h) (fun e => by have := (hb x e.symm).2.2; omega)).trans h⟩
end
set_option maxRecDepth 100000 in
theorem step_qa {ops : Array Oper} {o : Oper} {a : Act} {K : Act → World → Prop} {Q : Exit → Act → World → Prop} {E : Prop} {w2 : World} {p i h : Nat} {va vb : Value} {xa xb : List Value} {x yb : Value} {ob : Option Value} {W : World} (hgd : o.guard = none) (s u : Operand)
    (ho : o.op = .call { callee := .builtin .append, args := #[s, u], argTypes := #[85, 85] }) (hs : a.eval s = va) (hu : a.eval u = .slice (some ⟨h, 0, none⟩) 1 1) (hc : W.cell? ⟨h, 0, none⟩ = some x) (h1 : x.oneCell' = true) (hi : i < 9) (H : Q2 w2 p i va vb xa xb x yb none ob W)
    (hk : ∀ g c W', Q2 w2 p i va vb xa xb x yb (some (.slice (some ⟨g, 0, none⟩) (i + 1) c)) ob W' → (∀ y u, w2.heap.size ≤ y → W.cell? ⟨y, 0, none⟩ = some u → W'.cell? ⟨y, 0, none⟩ = some u) → K (a.put o.dst (.slice (some ⟨g, 0, none⟩) (i + 1) c)) W') :
    if Region.wanted o (yielded ops a.tmps) = true then Oper.wp Tryz.prog o a W K Q else E := by
  obtain ⟨iN, hiN, zN1, zN2, zN3⟩ := info_parts infoNP
  have hsz := H.fr.size
  have hpl := H.pl
  refine step_append_lies _ hgd s u _ ho (p + 1) 91 iN _ 1 8 Tryz.underlying85 hiN zN1 zN2 zN3 rfl (by omega) va i xa hs H.ra ⟨h, 0, none⟩ 1 1 [x] hu rfl (fun j u hj => ?_) (fun u hu => by simp at hu; subst hu; exact h1) (by omega) (by unfold maxLen; omega) (by omega) (by omega) _ rfl (fun g c W' hown hgrow hat hlt => ?_)
  · match j, hj with
    | 0, hj => simp at hj; subst hj; simpa [Addr.add] using hc
  · obtain ⟨q1, q2, q3, q4⟩ := H.app hgrow (.inl rfl)
    refine hk g c W' ⟨q1, q2, q3, H.pl, ⟨⟨_, _, rfl⟩, hown, fun k e => ?_⟩, H.rb.grown hgrow (fun k e e2 => H.ne k e2 e), fun k e e2 => ?_, H.lta, H.ltb⟩ q4
    · obtain rfl : g = k := by injection e
      rcases hat with h | h
      · exact .inl h
      · exact .inr (by rw [h]; exact hsz)
    · obtain rfl : g = k := by injection e
      rcases hat with h | h
      · exact H.ne _ h e2
      · have := (H.rb.blk (fun g e => (H.ltb g e).1) H.pl _ e2).2
        omega
set_option maxRecDepth 100000 in
theorem step_qb {ops : Array Oper} {o : Oper} {a : Act} {K : Act → World → Prop} {Q : Exit → Act → World → Prop} {E : Prop} {w2 : World} {p i h : Nat} {va vb : Value} {xa xb : List Value} {x ya : Value} {oa : Option Value} {W : World} (hgd : o.guard = none) (s u : Operand)
    (ho : o.op = .call { callee := .builtin .append, args := #[s, u], argTypes := #[86, 86] }) (hs : a.eval s = vb) (hu : a.eval u = .slice (some ⟨h, 0, none⟩) 1 1) (hc : W.cell? ⟨h, 0, none⟩ = some x) (h1 : x.oneCell' = true) (hi : i < 9) (H : Q2 w2 p i va vb xa xb ya x oa none W)
    (hk : ∀ g c W', Q2 w2 p i va vb xa xb ya x oa (some (.slice (some ⟨g, 0, none⟩) (i + 1) c)) W' → (∀ y u, w2.heap.size ≤ y → W.cell? ⟨y, 0, none⟩ = some u → W'.cell? ⟨y, 0, none⟩ = some u) → K (a.put o.dst (.slice (some ⟨g, 0, none⟩) (i + 1) c)) W') :
    if Region.wanted o (yielded ops a.tmps) = true then Oper.wp Tryz.prog o a W K Q else E := by
  obtain ⟨iN, hiN, zN1, zN2, zN3⟩ := info_parts infoTP
  have hsz := H.fr.size
  have hpl := H.pl
  refine step_append_lies _ hgd s u _ ho (p + 1) 94 iN _ 1 8 Tryz.underlying86 hiN zN1 zN2 zN3 rfl (by omega) vb i xb hs H.rb ⟨h, 0, none⟩ 1 1 [x] hu rfl (fun j u hj => ?_) (fun u hu => by simp at hu; subst hu; exact h1) (by omega) (by unfold maxLen; omega) (by omega) (by omega) _ rfl (fun g c W' hown hgrow hat hlt => ?_)
  · match j, hj with
    | 0, hj => simp at hj; subst hj; simpa [Addr.add] using hc
  · obtain ⟨q1, q2, q3, q4⟩ := H.app hgrow (.inr rfl)
    refine hk g c W' ⟨q1, q2, q3, H.pl, H.ra.grown hgrow (fun k e e2 => H.ne k e e2), ⟨⟨_, _, rfl⟩, hown, fun k e => ?_⟩, fun k e e2 => ?_, H.lta, H.ltb⟩ q4
    · obtain rfl : g = k := by injection e
      rcases hat with h | h
      · exact .inl h
      · exact .inr (by rw [h]; exact hsz)
    · obtain rfl : g = k := by injection e2
      rcases hat with h | h
      · exact H.ne _ e h
      · have := (H.ra.blk (fun g e => (H.lta g e).1) H.pl _ e).2
        omega
end Go.Proofs.YthgbcgphkddmgaaGreat
