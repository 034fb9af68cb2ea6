/- Values of the language as trees, and how they lie in memory. -/
import Derived.Test.YtcedogmhmpcfmaaOpen
import Derived.Maps.AppendAt
namespace Go.Proofs.Ytcedogmhmpcfmaa
open Go.RowKit Go.ChangeShapes Go.WideShapes
set_option linter.unusedVariables false

/-- a value: kind, number, text, and n arguments (none: not a value) -/
inductive VT where
  | none
  | node (kind num : Int) (text : ByteArray) (n : Nat) (arg : Nat → VT)
def sumTo (g : Nat → Nat) : Nat → Nat
  | 0 => 0
  | n + 1 => sumTo g n + g n
def maxTo (g : Nat → Nat) : Nat → Nat
  | 0 => 0
  | n + 1 => max (maxTo g n) (g n)
def VT.many : VT → Nat
  | .none => 0
  | .node _ _ _ n arg => 1 + sumTo (fun i => (arg i).many) n
/-- all numbers are numbers of the machine -/
def VT.wf : VT → Prop
  | .none => True
  | .node _ m _ n arg => (-9223372036854775808 ≤ m ∧ m < 9223372036854775808) ∧ ∀ i, i < n → (arg i).wf
def VT.deep : VT → Nat
  | .none => 0
  | .node _ _ _ n arg => maxTo (fun i => (arg i).deep) n + 1
/-- the cells cs hold the value t; all its arguments lie in blocks of S -/
def VT.isV (w : World) (S : Nat → Prop) : VT → List Value → Prop
  | .none, _ => False
  | .node k m s n arg, cs => ∃ A c, cs = [.int .i64 k, .int .i64 m, .string s, .slice A n c] ∧ n ≤ c ∧ c ≤ 9223372036854775807 ∧ (A = Option.none → n = 0) ∧
      (0 < n → ∃ b off, A = some ⟨b, off, Option.none⟩ ∧ b < w.heap.size ∧ S b ∧ ∃ C : Nat → List Value, ∀ i, i < n → (arg i).isV w S (C i) ∧ ∀ j u, (C i)[j]? = some u → w.cell? ⟨b, off + i * 4 + j, Option.none⟩ = some u)
theorem isV_len {w : World} {S : Nat → Prop} {t : VT} {cs : List Value} (h : t.isV w S cs) : cs.length = 4 := by
  cases t with
  | none => exact h.elim
  | node k m s n arg => obtain ⟨A, c, rfl, _⟩ := h; rfl
theorem isV_one {w : World} {S : Nat → Prop} {t : VT} {cs : List Value} (h : t.isV w S cs) : ∀ u ∈ cs, u.oneCell' = true := by
  cases t with
  | none => exact h.elim
  | node k m s n arg =>
    obtain ⟨A, c, rfl, _⟩ := h
    intro u hu
    simp at hu
    rcases hu with rfl | rfl | rfl | rfl <;> rfl
theorem isV_cells {w : World} {S : Nat → Prop} {t : VT} {cs : List Value} (h : t.isV w S cs) : ∃ k m s A n c, cs = [.int .i64 k, .int .i64 m, .string s, .slice A n c] := by
  cases t with
  | none => exact h.elim
  | node k m s n arg => obtain ⟨A, c, rfl, _⟩ := h; exact ⟨_, _, _, _, _, _, rfl⟩
theorem isV_frame {w w' : World} {S S' : Nat → Prop} (hsz : w.heap.size ≤ w'.heap.size) (hS : ∀ b, S b → b < w.heap.size → S' b ∧ w'.heap[b]? = w.heap[b]?) {t : VT} : ∀ {cs : List Value}, t.isV w S cs → t.isV w' S' cs := by
  induction t with
  | none => intro cs h; exact h
  | node k m s n arg ih =>
    intro cs h
    obtain ⟨A, c, hcs, h1, h2, h3, h4⟩ := h
    refine ⟨A, c, hcs, h1, h2, h3, fun h0 => ?_⟩
    obtain ⟨b, off, hA, hb, hSb, C, hC⟩ := h4 h0
    obtain ⟨hS', hh⟩ := hS b hSb hb
    refine ⟨b, off, hA, by omega, hS', C, fun i hi => ⟨ih i (hC i hi).1, fun j u hu => ?_⟩⟩
    exact (World.cell?_of_block (a := ⟨b, _, Option.none⟩) hh).trans ((hC i hi).2 j u hu)
theorem isV_below {w w' : World} {S : Nat → Prop} {t : VT} {cs : List Value} (h : t.isV w S cs) (hb : Below w.heap.size w w') : t.isV w' S cs :=
  isV_frame hb.size (fun b hs hlt => ⟨hs, hb.block b hlt⟩) h
theorem isV_mono {w : World} {S S' : Nat → Prop} {t : VT} {cs : List Value} (h : t.isV w S cs) (hS : ∀ b, b < w.heap.size → S b → S' b) : t.isV w S' cs :=
  isV_frame (Nat.le_refl _) (fun b hs hlt => ⟨hS b hlt hs, rfl⟩) h
/-- an argument of a value -/
theorem isV_arg {w : World} {S : Nat → Prop} {k m : Int} {s : ByteArray} {n c : Nat} {arg : Nat → VT} {A : Option Addr} {x0 x1 x2 : Value} (h : (VT.node k m s n arg).isV w S [x0, x1, x2, .slice A n c]) (h0 : 0 < n) :
    ∃ b off, A = some ⟨b, off, Option.none⟩ ∧ b < w.heap.size ∧ S b ∧ ∃ C : Nat → List Value, ∀ i, i < n → (arg i).isV w S (C i) ∧ ∀ j u, (C i)[j]? = some u → w.cell? ⟨b, off + i * 4 + j, Option.none⟩ = some u := by
  obtain ⟨A', c', hcs, h1, h2, h3, h4⟩ := h
  simp at hcs
  obtain ⟨_, _, _, rfl, _⟩ := hcs
  exact h4 h0
theorem sumTo_le {g h : Nat → Nat} {n : Nat} (hg : ∀ i, i < n → g i ≤ h i) : sumTo g n ≤ sumTo h n := by
  induction n with
  | zero => exact Nat.le_refl _
  | succ n ih => simp only [sumTo]; have := ih fun i hi => hg i (by omega); have := hg n (by omega); omega
theorem le_sumTo {g : Nat → Nat} {n i : Nat} (hi : i < n) : g i ≤ sumTo g n := by
  induction n with
  | zero => omega
  | succ n ih =>
    simp only [sumTo]
    by_cases e : i = n
    · subst e; omega
    · have := ih (by omega); omega
theorem len_sumTo {g : Nat → Nat} {n : Nat} (hg : ∀ i, i < n → 1 ≤ g i) : n ≤ sumTo g n := by
  induction n with
  | zero => omega
  | succ n ih => simp only [sumTo]; have := ih fun i hi => hg i (by omega); have := hg n (by omega); omega
theorem isV_many {w : World} {S : Nat → Prop} {t : VT} {cs : List Value} (h : t.isV w S cs) : 1 ≤ t.many := by
  cases t with
  | none => exact h.elim
  | node k m s n arg => simp only [VT.many]; omega
theorem deep_many : ∀ t : VT, t.deep ≤ t.many := by
  intro t
  induction t with
  | none => exact Nat.le_refl _
  | node k m s n arg ih =>
    simp only [VT.deep, VT.many]
    have : ∀ k, maxTo (fun i => (arg i).deep) k ≤ sumTo (fun i => (arg i).many) k := fun k => by
      induction k with
      | zero => exact Nat.le_refl _
      | succ k ihk => simp only [maxTo, sumTo]; have := ih k; omega
    have := this n
    omega

section
variable {H : Type} {enc : TypeId × Value → H} {W : World} {held : Bool}
theorem bulk_one (d : DataW H) : 1 ≤ Rows.uptoBulk d := by
  cases d with
  | lit l => cases l <;> simp [Rows.uptoBulk]
  | nil => simp [Rows.uptoBulk]
  | ptr d => simp [Rows.uptoBulk]
  | slice elems spare => simp [Rows.uptoBulk]
  | agg parts => simp [Rows.uptoBulk]
  | iface t d => simp [Rows.uptoBulk]
  | map entries => simp [Rows.uptoBulk]
  | held h => simp [Rows.uptoBulk]
theorem bulk_mem {d : DataW H} {l : List (DataW H)} (h : d ∈ l) : Rows.uptoBulk d ≤ Rows.uptoBulkAll l := by
  induction l with
  | nil => cases h
  | cons x r ih =>
    simp only [Rows.uptoBulkAll]
    cases List.mem_cons.1 h with
    | inl e => subst e; omega
    | inr e => have := ih e; omega
theorem bulk_append (l r : List (DataW H)) : Rows.uptoBulkAll (l ++ r) = Rows.uptoBulkAll l + Rows.uptoBulkAll r := by
  induction l with
  | nil => simp [Rows.uptoBulkAll]
  | cons x l ih => simp only [List.cons_append, Rows.uptoBulkAll, ih]; omega
theorem bulk_sum (l : List (DataW H × List MemPlace)) (d : DataW H × List MemPlace) (n : Nat) (hn : n ≤ l.length) : sumTo (fun i => Rows.uptoBulk (l.getD i d).1) n ≤ Rows.uptoBulkAll (l.map (·.1)) := by
  induction n generalizing l with
  | zero => simp [sumTo]
  | succ n ih =>
    have h1 := ih (l.take n) (by simp; omega)
    have e1 : sumTo (fun i => Rows.uptoBulk (l.getD i d).1) n = sumTo (fun i => Rows.uptoBulk ((l.take n).getD i d).1) n := by
      have : ∀ k, k ≤ n → sumTo (fun i => Rows.uptoBulk (l.getD i d).1) k = sumTo (fun i => Rows.uptoBulk ((l.take n).getD i d).1) k := fun k hk => by
        induction k with
        | zero => rfl
        | succ k ihk =>
          simp only [sumTo]
          rw [ihk (by omega)]
          congr 2
          simp [List.getD, show k < n by omega]
      exact this n (Nat.le_refl _)
    have e2 : l.map (·.1) = (l.take n).map (·.1) ++ (l.drop n).map (·.1) := by rw [← List.map_append, List.take_append_drop]
    rw [e2, bulk_append]
    simp only [sumTo]
    rw [e1]
    have hlt : n < l.length := by omega
    have : Rows.uptoBulk (l.getD n d).1 ≤ Rows.uptoBulkAll ((l.drop n).map (·.1)) := by
      apply bulk_mem
      rw [List.mem_map]
      refine ⟨l.getD n d, ?_, rfl⟩
      have e3 : l.getD n d = l[n] := by simp [List.getD, hlt]
      rw [e3, List.drop_eq_getElem_cons hlt]
      exact List.mem_cons_self
    omega
/-- a slice whose elements are read as data, with their bulk -/
theorem open_rows_bulk {P : Program} {t e sz fuel : Nat} {cs : List Value} {x : DataW H × List MemPlace} (ht : P.underlying t = some (.slice e)) (hC : P.cellsOf e = sz) (hsz : 0 < sz) (h : DataW.trod enc P W 0 (fun _ => true) held fuel t cs = some x) :
    ∃ (A : Option Addr) (n c : Nat) (C : Nat → List Value) (E : Nat → DataW H), cs = [.slice A n c] ∧ n ≤ c ∧ c ≤ 9223372036854775807 ∧ (A = none → n = 0) ∧ Rd W sz C A n ∧ (∀ i, (C i).length = sz) ∧
      (∀ i, i < n → ∃ m pl, m < fuel ∧ DataW.trod enc P W 0 (fun _ => true) held m e (C i) = some (E i, pl)) ∧ sumTo (fun i => Rows.uptoBulk (E i)) n + 1 ≤ Rows.uptoBulk x.1 := by
  rcases DataW.trod_slice ht h with ⟨rfl, rfl⟩ | ⟨a, len, cap, elems, rest, n, hfu, rfl, rfl, _, hl, hm, hlen, hel, _, _⟩
  · exact ⟨none, 0, 0, fun _ => List.replicate sz undef, fun _ => .nil, rfl, Nat.le_refl _, by omega, fun _ => rfl, fun h => by omega, fun _ => by simp, fun i hi => by omega, by simp [sumTo, Rows.uptoBulk]⟩
  · rw [hC] at hel
    have hch : ∀ i, ∃ cs' : List Value, cs'.length = sz ∧ (i < len → W.cells? 0 (a.add (i * sz)) sz = some cs' ∧ DataW.trod enc P W 0 (fun _ => true) held n e cs' = elems[i]?) := fun i => by
      by_cases hlt : i < len
      · have h1 := hel i hlt
        have h2 : elems[i]? = some (elems[i]'(by omega)) := List.getElem?_eq_getElem (by omega)
        rw [h2] at h1
        obtain ⟨cs', h3, h4⟩ := Option.bind_eq_some_iff.1 h1
        exact ⟨cs', (World.cells?_some h3).2.1, fun _ => ⟨h3, h4.trans h2.symm⟩⟩
      · exact ⟨List.replicate sz undef, by simp, fun h => absurd h hlt⟩
    obtain ⟨C, hCC⟩ := Classical.axiomOfChoice hch
    refine ⟨some a, len, cap, C, fun i => (elems.getD i (.nil, [])).1, rfl, hl, hm, (fun h => by cases h), fun h0 => ?_, fun i => (hCC i).1, fun i hlt => ⟨n, (elems.getD i (.nil, [])).2, by omega, ?_⟩, ?_⟩
    · have h00 := (World.cells?_some ((hCC 0).2 h0).1).2.2 0 hsz
      obtain ⟨b, off, spot⟩ := a
      obtain ⟨v, hv⟩ : ∃ v, (C 0)[0]? = some v := ⟨_, List.getElem?_eq_getElem (by rw [(hCC 0).1]; exact hsz)⟩
      have hspot : spot = none := by
        rw [hv] at h00
        simpa [Addr.add] using World.cell?_spot h00
      subst hspot
      have hat : ∀ i, i < len → ∀ j u, (C i)[j]? = some u → W.cell? ⟨b, off + i * sz + j, none⟩ = some u := fun i hlt j u hu => by
        have hj : j < sz := by
          rcases Nat.lt_or_ge j sz with hh | hh
          · exact hh
          · rw [List.getElem?_eq_none (by rw [(hCC i).1]; exact hh)] at hu; cases hu
        have h1 := (World.cells?_some ((hCC i).2 hlt).1).2.2 j hj
        rw [hu, Go.WideShapes.add_plain, Go.WideShapes.add_plain] at h1
        exact h1
      exact ⟨b, off, rfl, lt_of_cell (hat 0 h0 0 v hv), hat⟩
    · rw [((hCC i).2 hlt).2]
      simp [List.getD, show i < elems.length by omega]
    · have := bulk_sum elems (.nil, []) len (by omega)
      simp only [Rows.uptoBulk]
      omega
theorem trod_fields_all {P : Program} {t fuel : Nat} {fs : Array Field} {cs : List Value} {x : DataW H × List MemPlace} (ht : P.underlying t = some (.struct fs)) (hone : Go.Deep.oneCellFields P fs = true) (h : DataW.trod enc P W 0 (fun _ => true) held fuel t cs = some x) :
    ∃ (xs : List (DataW H × List MemPlace)) (n : Nat), fuel = n + 1 ∧ x.1 = .agg (xs.map (·.1)) ∧ cs.length = P.cellsOf t ∧ xs.length = fs.size ∧
      ∀ (j : Nat) (f : Field) (v : Value), fs[j]? = some f → cs[j]? = some v → ∃ y, xs[j]? = some y ∧ DataW.trod enc P W 0 (fun _ => true) held n f.type [v] = some y := by
  obtain ⟨xs, n, hfu, hx, hl, hlen, hf⟩ := DataW.trod_struct ht h
  refine ⟨xs, n, hfu, by rw [hx], hl, hlen, fun j f v hj hv => ?_⟩
  obtain ⟨ho, hk⟩ := Go.Deep.hone_of hone j f hj
  have hjl : j < fs.size := (Array.getElem?_eq_some_iff.1 hj).1
  have h1 := hf j f hj
  rw [ho, hk] at h1
  have hjc : j < cs.length := by
    rcases Nat.lt_or_ge j cs.length with hh | hh
    · exact hh
    · rw [List.getElem?_eq_none hh] at hv; cases hv
  have e : (cs.drop j).take 1 = [v] := by
    rw [List.drop_eq_getElem_cons hjc]
    rw [List.getElem?_eq_getElem hjc] at hv
    injection hv with hv
    rw [hv]
    rfl
  rw [e] at h1
  have h2 : xs[j]? = some (xs[j]'(by omega)) := List.getElem?_eq_getElem (by omega)
  exact ⟨_, h2, h1.trans h2⟩
set_option maxRecDepth 100000 in
/-- a value that is read as data, its bulk, and its numbers -/
theorem open_valW : ∀ (fuel : Nat) (cs : List Value) (x : DataW H × List MemPlace), DataW.trod enc Try.prog W 0 (fun _ => true) held fuel 88 cs = some x →
    ∃ t : VT, t.isV W (fun _ => True) cs ∧ t.many ≤ Rows.uptoBulk x.1 ∧ t.wf := by
  intro fuel
  induction fuel using Nat.strongRecOn with
  | _ fuel ih =>
    intro cs x h
    obtain ⟨xs, n, hfu, hx, hlen, hxl, hf⟩ := trod_fields_all Try.underlying88 (by kernel_rfl) h
    have hl4 : cs.length = 4 := hlen.trans (by kernel_rfl)
    have hx4 : xs.length = 4 := hxl
    match cs, hl4, xs, hx4 with
    | [c0, c1, c2, c3], _, [x0, x1, x2, x3], _ =>
      obtain ⟨y0, f0, h0⟩ := hf 0 _ c0 rfl rfl
      obtain ⟨y1, f1, h1⟩ := hf 1 _ c1 rfl rfl
      obtain ⟨y2, f2, h2⟩ := hf 2 _ c2 rfl rfl
      obtain ⟨y3, f3, h3⟩ := hf 3 _ c3 rfl rfl
      simp at f0 f1 f2 f3
      subst f0 f1 f2 f3
      obtain ⟨z0, e0, _, _⟩ := DataW.trod_int Try.underlying3 h0
      obtain ⟨z1, e1, _, hw1⟩ := DataW.trod_int Try.underlying3 h1
      obtain ⟨s, e2, _, _⟩ := DataW.trod_string Try.underlying9 h2
      obtain ⟨A, nn, c, C, E, e3, hnc, hcm, hA, hR, hlenC, hel, hbulk⟩ := open_rows_bulk (sz := 4) Try.underlying86 (by kernel_rfl) (by omega) h3
      simp at e0 e1 e2 e3
      subst e0 e1 e2 e3
      have hch : ∀ i, ∃ t : VT, i < nn → t.isV W (fun _ => True) (C i) ∧ t.many ≤ Rows.uptoBulk (E i) ∧ t.wf := fun i => by
        by_cases hi : i < nn
        · obtain ⟨m, pl, hm, ht⟩ := hel i hi
          obtain ⟨t, h5, h6⟩ := ih m (by omega) (C i) _ ht
          exact ⟨t, fun _ => ⟨h5, h6⟩⟩
        · exact ⟨.none, fun h => absurd h hi⟩
      obtain ⟨F, hF⟩ := Classical.axiomOfChoice hch
      refine ⟨.node z0 z1 s nn F, ⟨A, c, rfl, hnc, hcm, hA, fun h0 => ?_⟩, ?_, ?_, fun i hi => (hF i hi).2.2⟩
      · obtain ⟨b, off, hAb, hb, hcell⟩ := hR h0
        exact ⟨b, off, hAb, hb, trivial, C, fun i hi => ⟨(hF i hi).1, hcell i hi⟩⟩
      · have h7 : sumTo (fun i => (F i).many) nn ≤ sumTo (fun i => Rows.uptoBulk (E i)) nn := sumTo_le fun i hi => (hF i hi).2.1
        rw [hx]
        simp only [VT.many, List.map, Rows.uptoBulk, Rows.uptoBulkAll]
        omega
      · simp [Lit.wf, IntKind.min, IntKind.max, IntKind.signed, IntKind.bits] at hw1
        omega
theorem open_val (fuel : Nat) (cs : List Value) (x : DataW H × List MemPlace) (h : DataW.trod enc Try.prog W 0 (fun _ => true) held fuel 88 cs = some x) :
    ∃ t : VT, t.isV W (fun _ => True) cs ∧ t.many ≤ Rows.uptoBulk x.1 := by
  obtain ⟨t, h1, h2, _⟩ := open_valW fuel cs x h
  exact ⟨t, h1, h2⟩
end
end Go.Proofs.Ytcedogmhmpcfmaa
