/- Values of the language as trees, and how they lie in memory. The contract of roadref3.Deep and of flat. Contracts of package copies: Value, Values and Each over values: a copy is the same tree in new memory. Letters as data in memory, and the contracts of copies.Letter and copies.Each over letters. What a letter says: box.Says, roadref3.Message. Contracts of package box: fits, Check. pick.Take: the state of its walk, and the plain facts. Contracts of package box: Put. The contracts of roadref3.SameValue, SameLetter and SameLetters. The contracts of roadref3.SameLetter and SameLetters. -/
import Derived.Test.YtjjfglbcikaicaaGreatOpen
import Derived.Maps.AppendAt
import Derived.WalkLawsBesides
import Derived.Test.YtjjfglbcikaicaaGreatKeep
import Derived.Test.YtjjfglbcikaicaaGreatFlat
import Derived.Test.YtjjfglbcikaicaaGreatRowOps
import Derived.Deep.RegionHeld3
import Derived.Deep.AppendLies
namespace Go.Proofs.YtjjfglbcikaicaaGreat
open Go.RowKit Go.ChangeShapes Go.WideShapes
set_option linter.unusedVariables false

/-- a value: kind, number, text, and n arguments (none: not a value) -/
inductive VT where
  | none
  | node (kind num : Int) (text : ByteArray) (n : Nat) (arg : Nat → VT)
def sumTo (g : Nat → Nat) : Nat → Nat
  | 0 => 0
  | n + 1 => sumTo g n + g n
def maxTo (g : Nat → Nat) : Nat → Nat
  | 0 => 0
  | n + 1 => max (maxTo g n) (g n)
def VT.many : VT → Nat
  | .none => 0
  | .node _ _ _ n arg => 1 + sumTo (fun i => (arg i).many) n
/-- all numbers are numbers of the machine -/
def VT.wf : VT → Prop
  | .none => True
  | .node _ m _ n arg => (-9223372036854775808 ≤ m ∧ m < 9223372036854775808) ∧ ∀ i, i < n → (arg i).wf
def VT.deep : VT → Nat
  | .none => 0
  | .node _ _ _ n arg => maxTo (fun i => (arg i).deep) n + 1
/-- the cells cs hold the value t; all its arguments lie in blocks of S -/
def VT.isV (w : World) (S : Nat → Prop) : VT → List Value → Prop
  | .none, _ => False
  | .node k m s n arg, cs => ∃ A c, cs = [.int .i64 k, .int .i64 m, .string s, .slice A n c] ∧ n ≤ c ∧ c ≤ 9223372036854775807 ∧ (A = Option.none → n = 0) ∧
      (0 < n → ∃ b off, A = some ⟨b, off, Option.none⟩ ∧ b < w.heap.size ∧ S b ∧ ∃ C : Nat → List Value, ∀ i, i < n → (arg i).isV w S (C i) ∧ ∀ j u, (C i)[j]? = some u → w.cell? ⟨b, off + i * 4 + j, Option.none⟩ = some u)
theorem isV_len {w : World} {S : Nat → Prop} {t : VT} {cs : List Value} (h : t.isV w S cs) : cs.length = 4 := by
  cases t with
  | none => exact h.elim
  | node k m s n arg => obtain ⟨A, c, rfl, _⟩ := h; rfl
theorem isV_one {w : World} {S : Nat → Prop} {t : VT} {cs : List Value} (h : t.isV w S cs) : ∀ u ∈ cs, u.oneCell' = true := by
  cases t with
  | none => exact h.elim
  | node k m s n arg =>
    obtain ⟨A, c, rfl, _⟩ := h
    intro u hu
    simp at hu
    rcases hu with rfl | rfl | rfl | rfl <;> rfl
theorem isV_cells {w : World} {S : Nat → Prop} {t : VT} {cs : List Value} (h : t.isV w S cs) : ∃ k m s A n c, cs = [.int .i64 k, .int .i64 m, .string s, .slice A n c] := by
  cases t with
  | none => exact h.elim
  | node k m s n arg => obtain ⟨A, c, rfl, _⟩ := h; exact ⟨_, _, _, _, _, _, rfl⟩
theorem isV_frame {w w' : World} {S S' : Nat → Prop} (hsz : w.heap.size ≤ w'.heap.size) (hS : ∀ b, S b → b < w.heap.size → S' b ∧ w'.heap[b]? = w.heap[b]?) {t : VT} : ∀ {cs : List Value}, t.isV w S cs → t.isV w' S' cs := by
  induction t with
  | none => intro cs h; exact h
  | node k m s n arg ih =>
    intro cs h
    obtain ⟨A, c, hcs, h1, h2, h3, h4⟩ := h
    refine ⟨A, c, hcs, h1, h2, h3, fun h0 => ?_⟩
    obtain ⟨b, off, hA, hb, hSb, C, hC⟩ := h4 h0
    obtain ⟨hS', hh⟩ := hS b hSb hb
    refine ⟨b, off, hA, by omega, hS', C, fun i hi => ⟨ih i (hC i hi).1, fun j u hu => ?_⟩⟩
    exact (World.cell?_of_block (a := ⟨b, _, Option.none⟩) hh).trans ((hC i hi).2 j u hu)
theorem isV_below {w w' : World} {S : Nat → Prop} {t : VT} {cs : List Value} (h : t.isV w S cs) (hb : Below w.heap.size w w') : t.isV w' S cs :=
  isV_frame hb.size (fun b hs hlt => ⟨hs, hb.block b hlt⟩) h
theorem isV_mono {w : World} {S S' : Nat → Prop} {t : VT} {cs : List Value} (h : t.isV w S cs) (hS : ∀ b, b < w.heap.size → S b → S' b) : t.isV w S' cs :=
  isV_frame (Nat.le_refl _) (fun b hs hlt => ⟨hS b hlt hs, rfl⟩) h
/-- an argument of a value -/
theorem isV_arg {w : World} {S : Nat → Prop} {k m : Int} {s : ByteArray} {n c : Nat} {arg : Nat → VT} {A : Option Addr} {x0 x1 x2 : Value} (h : (VT.node k m s n arg).isV w S [x0, x1, x2, .slice A n c]) (h0 : 0 < n) :
    ∃ b off, A = some ⟨b, off, Option.none⟩ ∧ b < w.heap.size ∧ S b ∧ ∃ C : Nat → List Value, ∀ i, i < n → (arg i).isV w S (C i) ∧ ∀ j u, (C i)[j]? = some u → w.cell? ⟨b, off + i * 4 + j, Option.none⟩ = some u := by
  obtain ⟨A', c', hcs, h1, h2, h3, h4⟩ := h
  simp at hcs
  obtain ⟨_, _, _, rfl, _⟩ := hcs
  exact h4 h0
theorem sumTo_le {g h : Nat → Nat} {n : Nat} (hg : ∀ i, i < n → g i ≤ h i) : sumTo g n ≤ sumTo h n := by
  induction n with
  | zero => exact Nat.le_refl _
  | succ n ih => simp only [sumTo]; have := ih fun i hi => hg i (by omega); have := hg n (by omega); omega
theorem le_sumTo {g : Nat → Nat} {n i : Nat} (hi : i < n) : g i ≤ sumTo g n := by
  induction n with
  | zero => omega
  | succ n ih =>
    simp only [sumTo]
    by_cases e : i = n
    · subst e; omega
    · have := ih (by omega); omega
theorem len_sumTo {g : Nat → Nat} {n : Nat} (hg : ∀ i, i < n → 1 ≤ g i) : n ≤ sumTo g n := by
  induction n with
  | zero => omega
  | succ n ih => simp only [sumTo]; have := ih fun i hi => hg i (by omega); have := hg n (by omega); omega
theorem isV_many {w : World} {S : Nat → Prop} {t : VT} {cs : List Value} (h : t.isV w S cs) : 1 ≤ t.many := by
  cases t with
  | none => exact h.elim
  | node k m s n arg => simp only [VT.many]; omega
theorem deep_many : ∀ t : VT, t.deep ≤ t.many := by
  intro t
  induction t with
  | none => exact Nat.le_refl _
  | node k m s n arg ih =>
    simp only [VT.deep, VT.many]
    have : ∀ k, maxTo (fun i => (arg i).deep) k ≤ sumTo (fun i => (arg i).many) k := fun k => by
      induction k with
      | zero => exact Nat.le_refl _
      | succ k ihk => simp only [maxTo, sumTo]; have := ih k; omega
    have := this n
    omega

section
variable {H : Type} {enc : TypeId × Value → H} {W : World} {held : Bool}
theorem bulk_one (d : DataW H) : 1 ≤ Rows.uptoBulk d := by
  cases d with
  | lit l => cases l <;> simp [Rows.uptoBulk]
  | nil => simp [Rows.uptoBulk]
  | ptr d => simp [Rows.uptoBulk]
  | slice elems spare => simp [Rows.uptoBulk]
  | agg parts => simp [Rows.uptoBulk]
  | iface t d => simp [Rows.uptoBulk]
  | map entries => simp [Rows.uptoBulk]
  | held h => simp [Rows.uptoBulk]
theorem bulk_mem {d : DataW H} {l : List (DataW H)} (h : d ∈ l) : Rows.uptoBulk d ≤ Rows.uptoBulkAll l := by
  induction l with
  | nil => cases h
  | cons x r ih =>
    simp only [Rows.uptoBulkAll]
    cases List.mem_cons.1 h with
    | inl e => subst e; omega
    | inr e => have := ih e; omega
theorem bulk_append (l r : List (DataW H)) : Rows.uptoBulkAll (l ++ r) = Rows.uptoBulkAll l + Rows.uptoBulkAll r := by
  induction l with
  | nil => simp [Rows.uptoBulkAll]
  | cons x l ih => simp only [List.cons_append, Rows.uptoBulkAll, ih]; omega
theorem bulk_sum (l : List (DataW H × List MemPlace)) (d : DataW H × List MemPlace) (n : Nat) (hn : n ≤ l.length) : sumTo (fun i => Rows.uptoBulk (l.getD i d).1) n ≤ Rows.uptoBulkAll (l.map (·.1)) := by
  induction n generalizing l with
  | zero => simp [sumTo]
  | succ n ih =>
    have h1 := ih (l.take n) (by simp; omega)
    have e1 : sumTo (fun i => Rows.uptoBulk (l.getD i d).1) n = sumTo (fun i => Rows.uptoBulk ((l.take n).getD i d).1) n := by
      have : ∀ k, k ≤ n → sumTo (fun i => Rows.uptoBulk (l.getD i d).1) k = sumTo (fun i => Rows.uptoBulk ((l.take n).getD i d).1) k := fun k hk => by
        induction k with
        | zero => rfl
        | succ k ihk =>
          simp only [sumTo]
          rw [ihk (by omega)]
          congr 2
          simp [List.getD, show k < n by omega]
      exact this n (Nat.le_refl _)
    have e2 : l.map (·.1) = (l.take n).map (·.1) ++ (l.drop n).map (·.1) := by rw [← List.map_append, List.take_append_drop]
    rw [e2, bulk_append]
    simp only [sumTo]
    rw [e1]
    have hlt : n < l.length := by omega
    have : Rows.uptoBulk (l.getD n d).1 ≤ Rows.uptoBulkAll ((l.drop n).map (·.1)) := by
      apply bulk_mem
      rw [List.mem_map]
      refine ⟨l.getD n d, ?_, rfl⟩
      have e3 : l.getD n d = l[n] := by simp [List.getD, hlt]
      rw [e3, List.drop_eq_getElem_cons hlt]
      exact List.mem_cons_self
    omega
/-- a slice whose elements are read as data, with their bulk -/
theorem open_rows_bulk {P : Program} {t e sz fuel : Nat} {cs : List Value} {x : DataW H × List MemPlace} (ht : P.underlying t = some (.slice e)) (hC : P.cellsOf e = sz) (hsz : 0 < sz) (h : DataW.trod enc P W 0 (fun _ => true) held fuel t cs = some x) :
    ∃ (A : Option Addr) (n c : Nat) (C : Nat → List Value) (E : Nat → DataW H), cs = [.slice A n c] ∧ n ≤ c ∧ c ≤ 9223372036854775807 ∧ (A = none → n = 0) ∧ Rd W sz C A n ∧ (∀ i, (C i).length = sz) ∧
      (∀ i, i < n → ∃ m pl, m < fuel ∧ DataW.trod enc P W 0 (fun _ => true) held m e (C i) = some (E i, pl)) ∧ sumTo (fun i => Rows.uptoBulk (E i)) n + 1 ≤ Rows.uptoBulk x.1 := by
  rcases DataW.trod_slice ht h with ⟨rfl, rfl⟩ | ⟨a, len, cap, elems, rest, n, hfu, rfl, rfl, _, hl, hm, hlen, hel, _, _⟩
  · exact ⟨none, 0, 0, fun _ => List.replicate sz undef, fun _ => .nil, rfl, Nat.le_refl _, by omega, fun _ => rfl, fun h => by omega, fun _ => by simp, fun i hi => by omega, by simp [sumTo, Rows.uptoBulk]⟩
  · rw [hC] at hel
    have hch : ∀ i, ∃ cs' : List Value, cs'.length = sz ∧ (i < len → W.cells? 0 (a.add (i * sz)) sz = some cs' ∧ DataW.trod enc P W 0 (fun _ => true) held n e cs' = elems[i]?) := fun i => by
      by_cases hlt : i < len
      · have h1 := hel i hlt
        have h2 : elems[i]? = some (elems[i]'(by omega)) := List.getElem?_eq_getElem (by omega)
        rw [h2] at h1
        obtain ⟨cs', h3, h4⟩ := Option.bind_eq_some_iff.1 h1
        exact ⟨cs', (World.cells?_some h3).2.1, fun _ => ⟨h3, h4.trans h2.symm⟩⟩
      · exact ⟨List.replicate sz undef, by simp, fun h => absurd h hlt⟩
    obtain ⟨C, hCC⟩ := Classical.axiomOfChoice hch
    refine ⟨some a, len, cap, C, fun i => (elems.getD i (.nil, [])).1, rfl, hl, hm, (fun h => by cases h), fun h0 => ?_, fun i => (hCC i).1, fun i hlt => ⟨n, (elems.getD i (.nil, [])).2, by omega, ?_⟩, ?_⟩
    · have h00 := (World.cells?_some ((hCC 0).2 h0).1).2.2 0 hsz
      obtain ⟨b, off, spot⟩ := a
      obtain ⟨v, hv⟩ : ∃ v, (C 0)[0]? = some v := ⟨_, List.getElem?_eq_getElem (by rw [(hCC 0).1]; exact hsz)⟩
      have hspot : spot = none := by
        rw [hv] at h00
        simpa [Addr.add] using World.cell?_spot h00
      subst hspot
      have hat : ∀ i, i < len → ∀ j u, (C i)[j]? = some u → W.cell? ⟨b, off + i * sz + j, none⟩ = some u := fun i hlt j u hu => by
        have hj : j < sz := by
          rcases Nat.lt_or_ge j sz with hh | hh
          · exact hh
          · rw [List.getElem?_eq_none (by rw [(hCC i).1]; exact hh)] at hu; cases hu
        have h1 := (World.cells?_some ((hCC i).2 hlt).1).2.2 j hj
        rw [hu, Go.WideShapes.add_plain, Go.WideShapes.add_plain] at h1
        exact h1
      exact ⟨b, off, rfl, lt_of_cell (hat 0 h0 0 v hv), hat⟩
    · rw [((hCC i).2 hlt).2]
      simp [List.getD, show i < elems.length by omega]
    · have := bulk_sum elems (.nil, []) len (by omega)
      simp only [Rows.uptoBulk]
      omega
theorem trod_fields_all {P : Program} {t fuel : Nat} {fs : Array Field} {cs : List Value} {x : DataW H × List MemPlace} (ht : P.underlying t = some (.struct fs)) (hone : Go.Deep.oneCellFields P fs = true) (h : DataW.trod enc P W 0 (fun _ => true) held fuel t cs = some x) :
    ∃ (xs : List (DataW H × List MemPlace)) (n : Nat), fuel = n + 1 ∧ x.1 = .agg (xs.map (·.1)) ∧ cs.length = P.cellsOf t ∧ xs.length = fs.size ∧
      ∀ (j : Nat) (f : Field) (v : Value), fs[j]? = some f → cs[j]? = some v → ∃ y, xs[j]? = some y ∧ DataW.trod enc P W 0 (fun _ => true) held n f.type [v] = some y := by
  obtain ⟨xs, n, hfu, hx, hl, hlen, hf⟩ := DataW.trod_struct ht h
  refine ⟨xs, n, hfu, by rw [hx], hl, hlen, fun j f v hj hv => ?_⟩
  obtain ⟨ho, hk⟩ := Go.Deep.hone_of hone j f hj
  have hjl : j < fs.size := (Array.getElem?_eq_some_iff.1 hj).1
  have h1 := hf j f hj
  rw [ho, hk] at h1
  have hjc : j < cs.length := by
    rcases Nat.lt_or_ge j cs.length with hh | hh
    · exact hh
    · rw [List.getElem?_eq_none hh] at hv; cases hv
  have e : (cs.drop j).take 1 = [v] := by
    rw [List.drop_eq_getElem_cons hjc]
    rw [List.getElem?_eq_getElem hjc] at hv
    injection hv with hv
    rw [hv]
    rfl
  rw [e] at h1
  have h2 : xs[j]? = some (xs[j]'(by omega)) := List.getElem?_eq_getElem (by omega)
  exact ⟨_, h2, h1.trans h2⟩
set_option maxRecDepth 100000 in
/-- a value that is read as data, its bulk, and its numbers -/
theorem open_valW : ∀ (fuel : Nat) (cs : List Value) (x : DataW H × List MemPlace), DataW.trod enc Tryz.prog W 0 (fun _ => true) held fuel 41 cs = some x →
    ∃ t : VT, t.isV W (fun _ => True) cs ∧ t.many ≤ Rows.uptoBulk x.1 ∧ t.wf := by
  intro fuel
  induction fuel using Nat.strongRecOn with
  | _ fuel ih =>
    intro cs x h
    obtain ⟨xs, n, hfu, hx, hlen, hxl, hf⟩ := trod_fields_all Tryz.underlying41 (by kernel_rfl) h
    have hl4 : cs.length = 4 := hlen.trans (by kernel_rfl)
    have hx4 : xs.length = 4 := hxl
    match cs, hl4, xs, hx4 with
    | [c0, c1, c2, c3], _, [x0, x1, x2, x3], _ =>
      obtain ⟨y0, f0, h0⟩ := hf 0 _ c0 rfl rfl
      obtain ⟨y1, f1, h1⟩ := hf 1 _ c1 rfl rfl
      obtain ⟨y2, f2, h2⟩ := hf 2 _ c2 rfl rfl
      obtain ⟨y3, f3, h3⟩ := hf 3 _ c3 rfl rfl
      simp at f0 f1 f2 f3
      subst f0 f1 f2 f3
      obtain ⟨z0, e0, _, _⟩ := DataW.trod_int Tryz.underlying3 h0
      obtain ⟨z1, e1, _, hw1⟩ := DataW.trod_int Tryz.underlying3 h1
      obtain ⟨s, e2, _, _⟩ := DataW.trod_string Tryz.underlying9 h2
      obtain ⟨A, nn, c, C, E, e3, hnc, hcm, hA, hR, hlenC, hel, hbulk⟩ := open_rows_bulk (sz := 4) Tryz.underlying39 (by kernel_rfl) (by omega) h3
      simp at e0 e1 e2 e3
      subst e0 e1 e2 e3
      have hch : ∀ i, ∃ t : VT, i < nn → t.isV W (fun _ => True) (C i) ∧ t.many ≤ Rows.uptoBulk (E i) ∧ t.wf := fun i => by
        by_cases hi : i < nn
        · obtain ⟨m, pl, hm, ht⟩ := hel i hi
          obtain ⟨t, h5, h6⟩ := ih m (by omega) (C i) _ ht
          exact ⟨t, fun _ => ⟨h5, h6⟩⟩
        · exact ⟨.none, fun h => absurd h hi⟩
      obtain ⟨F, hF⟩ := Classical.axiomOfChoice hch
      refine ⟨.node z0 z1 s nn F, ⟨A, c, rfl, hnc, hcm, hA, fun h0 => ?_⟩, ?_, ?_, fun i hi => (hF i hi).2.2⟩
      · obtain ⟨b, off, hAb, hb, hcell⟩ := hR h0
        exact ⟨b, off, hAb, hb, trivial, C, fun i hi => ⟨(hF i hi).1, hcell i hi⟩⟩
      · have h7 : sumTo (fun i => (F i).many) nn ≤ sumTo (fun i => Rows.uptoBulk (E i)) nn := sumTo_le fun i hi => (hF i hi).2.1
        rw [hx]
        simp only [VT.many, List.map, Rows.uptoBulk, Rows.uptoBulkAll]
        omega
      · simp [Lit.wf, IntKind.min, IntKind.max, IntKind.signed, IntKind.bits] at hw1
        omega
theorem open_val (fuel : Nat) (cs : List Value) (x : DataW H × List MemPlace) (h : DataW.trod enc Tryz.prog W 0 (fun _ => true) held fuel 41 cs = some x) :
    ∃ t : VT, t.isV W (fun _ => True) cs ∧ t.many ≤ Rows.uptoBulk x.1 := by
  obtain ⟨t, h1, h2, _⟩ := open_valW fuel cs x h
  exact ⟨t, h1, h2⟩
end
end Go.Proofs.YtjjfglbcikaicaaGreat
namespace Go.Proofs.YtjjfglbcikaicaaGreat
open Go.RowKit
set_option linter.unusedVariables false
theorem ret_two {a b c d : Int} (h : a = b) (h' : c = d) : Ending.returned (.tuple #[.int .i64 a, .int .i64 c]) = .returned (.tuple #[.int .i64 b, .int .i64 d]) := by rw [h, h']
theorem sumTo_mono {g : Nat → Nat} {a b : Nat} (h : a ≤ b) : sumTo g a ≤ sumTo g b := by
  induction b with
  | zero => obtain rfl : a = 0 := by omega
            exact Nat.le_refl _
  | succ b ih =>
    by_cases e : a = b + 1
    · rw [e]; exact Nat.le_refl _
    · have := ih (by omega); simp only [sumTo]; omega
theorem maxTo_le {g h : Nat → Nat} (n : Nat) (hg : ∀ i, g i ≤ h i) : maxTo g n ≤ sumTo h n := by
  induction n with
  | zero => exact Nat.le_refl _
  | succ n ih => simp only [maxTo, sumTo]; have := hg n; omega
set_option maxRecDepth 100000 in
set_option maxHeartbeats 1000000 in
theorem deep_any : ∀ (t : VT) (cs : List Value) (S : Nat → Prop) (w : World), t.isV w S cs → t.many ≤ 4194304 →
    Calls Tryz.prog 54 #[.agg cs.toArray] w fun e w' => e = .returned (.tuple #[.int .i64 t.deep, .int .i64 t.many]) ∧ Below w.heap.size w w' := by
  intro t
  induction t with
  | none => intro cs S w h; exact h.elim
  | node k m s n arg ih =>
    intro cs S w h hm
    have HV := Lib.hid h
    have IH := Lib.hid ih
    obtain ⟨A, c, rfl, hnc, hcm, hA, _⟩ := h
    have hn : n ≤ 4194304 := by
      by_cases h0 : 0 < n
      · obtain ⟨b, off, _, _, _, C, hC⟩ := isV_arg HV.out h0
        have h1 : n ≤ sumTo (fun i => (arg i).many) n := len_sumTo fun i hi => isV_many (hC i hi).1
        simp only [VT.many] at hm
        omega
      · omega
    have HM := Lib.hid hm
    have HN := Lib.hid (show (VT.node k m s n arg).many = 1 + sumTo (fun i => (arg i).many) n from rfl)
    have HD := Lib.hid (show (VT.node k m s n arg).deep = maxTo (fun i => (arg i).deep) n + 1 from rfl)
    generalize (VT.node k m s n arg).many = tm at *
    generalize (VT.node k m s n arg).deep = td at *
    clear hm ih hA
    go_enter Tryz.func54, Tryz.ntmps54
    go_wp2_with fail
    go_loopw [4, 5, 7, 8, 9, 13] (fun a b _ _ _ i wr => ∃ q : Nat, q ≤ n ∧ i = .int .i64 q ∧ a = .int .i64 (maxTo (fun i => (arg i).deep) q) ∧ b = .int .i64 ((1 + sumTo (fun i => (arg i).many) q : Nat) : Int) ∧ Below w.heap.size w wr) (fun _ _ _ _ _ i _ => n - (intOf i).toNat)
    case atStart => exact ⟨0, Nat.zero_le _, rfl, rfl, rfl, (Below.refl _ _).alloc (Nat.le_refl _) _⟩
    case round =>
      obtain ⟨q, hq, rfl, rfl, rfl, hB⟩ := hrel
      by_cases hlt : q < n
      · obtain ⟨b, off, rfl, hb, hSb, C, hC⟩ := isV_arg HV.out (by omega)
        obtain ⟨hV, hcell⟩ := hC q hlt
        have hlen := isV_len hV
        have hV' := Lib.hid (isV_frame (w' := wr) (S' := S) hB.size (fun b hs hlt => ⟨hs, hB.block b hlt⟩) hV)
        have hle : sumTo (fun i => (arg i).many) (q + 1) ≤ sumTo (fun i => (arg i).many) n := sumTo_mono (by omega)
        have hs1 : sumTo (fun i => (arg i).many) (q + 1) = sumTo (fun i => (arg i).many) q + (arg q).many := rfl
        have hs2 : maxTo (fun i => (arg i).deep) (q + 1) = max (maxTo (fun i => (arg i).deep) q) (arg q).deep := rfl
        have hd1 : maxTo (fun i => (arg i).deep) q ≤ sumTo (fun i => (arg i).many) q := maxTo_le q fun i => deep_many _
        have hd2 := deep_many (arg q)
        have hm1 := HM.out
        rw [HN.out] at hm1
        have HC := Lib.hid (IH.out q (C q) S)
        have HS1 := Lib.hid hs1
        have HS2 := Lib.hid hs2
        obtain ⟨dq, hdq⟩ : ∃ x, (arg q).deep = x := ⟨_, rfl⟩
        obtain ⟨mq, hmq⟩ : ∃ x, (arg q).many = x := ⟨_, rfl⟩
        obtain ⟨Dq, hDq⟩ : ∃ x, maxTo (fun i => (arg i).deep) q = x := ⟨_, rfl⟩
        obtain ⟨Mq, hMq⟩ : ∃ x, sumTo (fun i => (arg i).many) q = x := ⟨_, rfl⟩
        rw [hdq, hmq] at HC
        rw [hmq, hMq] at hs1 HS1
        rw [hdq, hDq] at hs2 HS2
        rw [hDq, hMq] at hd1
        rw [hdq, hmq] at hd2
        rw [hDq, hMq]
        have b1 : mq ≤ 4194304 := by omega
        have b2 : Mq + mq ≤ 4194304 := by omega
        have b3 : dq ≤ 4194304 := by omega
        have b4 : Dq ≤ 4194304 := by omega
        obtain ⟨k', m', s', A', n', c', hCq⟩ := isV_cells hV
        rw [hCq] at HC hV' hcell
        have c0 : wr.cell? ⟨b, off + q * 4, none⟩ = some (.int .i64 k') := (hB.cell (p := ⟨b, _, none⟩) hb).trans (hcell 0 _ rfl)
        have c1 : wr.cell? ⟨b, off + q * 4 + 1, none⟩ = some (.int .i64 m') := (hB.cell (p := ⟨b, _, none⟩) hb).trans (hcell 1 _ rfl)
        have c2 : wr.cell? ⟨b, off + q * 4 + 2, none⟩ = some (.string s') := (hB.cell (p := ⟨b, _, none⟩) hb).trans (hcell 2 _ rfl)
        have c3 : wr.cell? ⟨b, off + q * 4 + 3, none⟩ = some (.slice A' n' c') := (hB.cell (p := ⟨b, _, none⟩) hb).trans (hcell 3 _ rfl)
        have hBs := hB.size
        clear hV hC hcell hs1 hs2 hle hm1 hlen hdq hmq hDq hMq hCq
        go_wp2_with fail
        refine (HC.out _ (isV_below hV'.out ((Below.refl _ _).alloc (Nat.le_refl _) _)) b1).mono ?_
        rintro e w1 ⟨rfl, hb1⟩
        have hB1 : Below w.heap.size w w1 := (hB.alloc hBs _).trans (hb1.mono (by simp; omega))
        clear hb1 c0 c1 c2 c3
        go_wp2_with fail
        go_roundw
        case rel =>
          refine ⟨q + 1, by omega, by go_num, ?_, ?_, hB1⟩
          · rw [HS2.out]
            congr 1
            split <;> omega
          · rw [HS1.out]
            congr 1
            omega
        case measure => simp [intOf]; omega
      · obtain rfl : q = n := by omega
        have hd1 : maxTo (fun i => (arg i).deep) q ≤ sumTo (fun i => (arg i).many) q := maxTo_le q fun i => deep_many _
        have hm1 := HM.out
        rw [HN.out] at hm1
        generalize maxTo (fun i => (arg i).deep) q = D at *
        generalize sumTo (fun i => (arg i).many) q = M at *
        go_wp2_with fail
        go_ret2
        exact ⟨by rw [HN.out, HD.out]; exact ret_two (by omega) rfl, hB⟩
def flatB (t : VT) : Bool := decide (t.deep ≤ 60 ∧ t.many ≤ 500)
set_option maxRecDepth 100000 in
set_option maxHeartbeats 400000 in
theorem flat_any (t : VT) (cs : List Value) (S : Nat → Prop) (w : World) (h : t.isV w S cs) (hm : t.many ≤ 4194304) :
    Calls Tryz.prog 24 #[.agg cs.toArray] w fun e w' => e = .returned (.bool (flatB t)) ∧ Below w.heap.size w w' := by
  have HC := Lib.hid (fun W hW => deep_any t cs S W hW hm)
  have HV := Lib.hid h
  have hd := deep_many t
  obtain ⟨k', m', s', A', n', c', rfl⟩ := isV_cells h
  obtain ⟨D, hD⟩ : ∃ x, t.deep = x := ⟨_, rfl⟩
  obtain ⟨M, hM⟩ : ∃ x, t.many = x := ⟨_, rfl⟩
  have HF := Lib.hid (show flatB t = decide (D ≤ 60 ∧ M ≤ 500) by unfold flatB; rw [hD, hM])
  rw [HF.out]
  rw [hD, hM] at HC
  rw [hM] at hm
  rw [hD, hM] at hd
  clear h hD hM HF
  by_cases h1 : D ≤ 60
  · by_cases h2 : M ≤ 500
    · have e : decide (D ≤ 60 ∧ M ≤ 500) = true := by simp; omega
      rw [e]
      have d1 : decide ((D : Int) ≤ 60) = true := by simp; omega
      have d2 : decide ((M : Int) ≤ 500) = true := by simp; omega
      clear e
      go_enter Tryz.func24, Tryz.ntmps24
      go_wp2_with fail
      refine (HC.out _ (isV_below HV.out ((Below.refl _ _).alloc (Nat.le_refl _) _))).mono ?_
      rintro e w1 ⟨rfl, hb1⟩
      go_wp2_with fail
      go_ret
      exact ⟨rfl, ((Below.refl _ _).alloc (Nat.le_refl _) _).trans (hb1.mono (by simp))⟩
    · have e : decide (D ≤ 60 ∧ M ≤ 500) = false := by simp; omega
      rw [e]
      have d1 : decide ((D : Int) ≤ 60) = true := by simp; omega
      have d2 : decide ((M : Int) ≤ 500) = false := by simp; omega
      clear e
      go_enter Tryz.func24, Tryz.ntmps24
      go_wp2_with fail
      refine (HC.out _ (isV_below HV.out ((Below.refl _ _).alloc (Nat.le_refl _) _))).mono ?_
      rintro e w1 ⟨rfl, hb1⟩
      go_wp2_with fail
      go_ret
      exact ⟨rfl, ((Below.refl _ _).alloc (Nat.le_refl _) _).trans (hb1.mono (by simp))⟩
  · have e : decide (D ≤ 60 ∧ M ≤ 500) = false := by simp; omega
    rw [e]
    have d1 : decide ((D : Int) ≤ 60) = false := by simp; omega
    clear e
    go_enter Tryz.func24, Tryz.ntmps24
    go_wp2_with fail
    refine (HC.out _ (isV_below HV.out ((Below.refl _ _).alloc (Nat.le_refl _) _))).mono ?_
    rintro e w1 ⟨rfl, hb1⟩
    go_wp2_with fail
    go_ret
    exact ⟨rfl, ((Below.refl _ _).alloc (Nat.le_refl _) _).trans (hb1.mono (by simp))⟩
end Go.Proofs.YtjjfglbcikaicaaGreat
namespace Go.Proofs.YtjjfglbcikaicaaGreat
open Go.RowKit
set_option linter.unusedVariables false
theorem infoV : (Tryz.prog.info? 41).map (fun i => (i.zero, i.size, i.bytes)) = some (some (.agg #[.int .i64 0, .int .i64 0, .string ⟨#[]⟩, .slice none 0 0]), 4, 56) := by kernel_rfl
/-- the copy: the cells cs' hold t in blocks from lo on -/
def CopyPost (t : VT) (w : World) (e : Ending) (w' : World) : Prop := ∃ cs', e = .returned (.agg cs'.toArray) ∧ t.isV w' (fun b => w.heap.size ≤ b) cs' ∧ Below w.heap.size w w'
def CopyOk (t : VT) : Prop := ∀ (cs : List Value) (S : Nat → Prop) (w : World), t.isV w S cs → t.many ≤ 4194304 → Calls Tryz.prog 62 #[.agg cs.toArray] w (CopyPost t w)
/-- the copies: a row of the call's own whose elements hold the values -/
def EachPost (n : Nat) (arg : Nat → VT) (w : World) (e : Ending) (w' : World) : Prop :=
  ∃ v C, e = .returned v ∧ w'.ownsRow w.heap.size 41 4 v n (flatC C n) ∧ (∀ i, (C i).length = 4) ∧ (∀ i, i < n → (arg i).isV w' (fun b => w.heap.size ≤ b ∧ some b ≠ v.ownBlock) (C i)) ∧ Below w.heap.size w w'
theorem cell_four_new (w : World) (a b c d : Value) (t : TypeId) : ∀ j u, [a, b, c, d][j]? = some u → (w.alloc (.cells #[a, b, c, d] t)).cell? ((⟨w.heap.size, 0, none⟩ : Addr).add j) = some u := by
  intro j u hj
  match j, hj with
  | 0, hj => simp at hj; subst hj; simp [Addr.add]
  | 1, hj => simp at hj; subst hj; simp [Addr.add]
  | 2, hj => simp at hj; subst hj; simp [Addr.add]
  | 3, hj => simp at hj; subst hj; simp [Addr.add]
theorem flatC_snoc (C : Nat → List Value) (n : Nat) (cs : List Value) : flatC C n ++ cs = flatC (updC C n cs) (n + 1) := by
  rw [flatC]
  congr 1
  · apply flatC_congr
    intro i hi
    have : i ≠ n := by omega
    simp [updC, this]
  · simp [updC]
theorem own_below {w w' : World} {base : Nat} {e : TypeId} {sz n : Nat} {v : Value} {xs : List Value} (h : w.ownsRow base e sz v n xs) (hb : Below w.heap.size w w') : w'.ownsRow base e sz v n xs := by
  refine h.kept (row := none) ⟨hb.os, hb.tape, hb.output, hb.size, fun k hk _ => hb.block k hk⟩ ?_
  cases hv : v.ownBlock with
  | none => exact .inl rfl
  | some g => exact .inr (by simp)
/-- the elements of a row after one more element was appended -/
theorem each_step {wr w1 w2 : World} {base : Nat} {o o' : Obj} {v v' : Value} {t : VT} {cs : List Value} (hb1 : Below (wr.alloc o).heap.size (wr.alloc o) w1) (hg : (w1.alloc o').grownBy w2 v.ownBlock)
    (hat : v'.ownBlock = v.ownBlock ∨ v'.ownBlock = some (w1.alloc o').heap.size) (h : t.isV wr (fun b => base ≤ b ∧ some b ≠ v.ownBlock) cs) : t.isV w2 (fun b => base ≤ b ∧ some b ≠ v'.ownBlock) cs := by
  have h1 := hb1.size
  have h2 := hg.size
  simp at h1 h2
  refine isV_frame (by omega) (fun b hs hlt => ?_) h
  have a1 : some b ≠ v'.ownBlock := by
    rcases hat with e | e
    · rw [e]; exact hs.2
    · rw [e]
      intro hh
      injection hh with hh
      simp at hh
      omega
  exact ⟨⟨hs.1, a1⟩, by rw [hg.block b (by simp; omega) hs.2, Below.heap_alloc w1 o' b (by omega), hb1.block b (by simp; omega), Below.heap_alloc wr o b hlt]⟩
theorem each_new {wr w1 w2 : World} {base : Nat} {o o' : Obj} {v v' : Value} {t : VT} {cs : List Value} (hbase : base ≤ wr.heap.size) (hv : ∀ k, v.ownBlock = some k → k < wr.heap.size) (hb1 : Below (wr.alloc o).heap.size (wr.alloc o) w1) (hg : (w1.alloc o').grownBy w2 v.ownBlock)
    (hat : v'.ownBlock = v.ownBlock ∨ v'.ownBlock = some (w1.alloc o').heap.size) (h : t.isV w1 (fun b => (wr.alloc o).heap.size ≤ b) cs) : t.isV w2 (fun b => base ≤ b ∧ some b ≠ v'.ownBlock) cs := by
  have h1 := hb1.size
  have h2 := hg.size
  simp at h1 h2
  have hne : ∀ b, (wr.alloc o).heap.size ≤ b → some b ≠ v.ownBlock := fun b hb hh => by
    have := hv b hh.symm
    simp at hb
    omega
  refine isV_frame (by omega) (fun b hs hlt => ?_) h
  have a1 : some b ≠ v'.ownBlock := by
    rcases hat with e | e
    · rw [e]; exact hne b hs
    · rw [e]
      intro hh
      injection hh with hh
      simp at hh
      omega
  exact ⟨⟨by simp at hs; omega, a1⟩, by rw [hg.block b (by simp; omega) (hne b hs), Below.heap_alloc w1 o' b hlt]⟩
theorem copy_enters : Enters Tryz.prog 62 := fun _ _ => by kernel_rfl
set_option maxRecDepth 100000 in
set_option maxHeartbeats 2000000 in
theorem each_any (n c : Nat) (A : Option Addr) (arg : Nat → VT) (S : Nat → Prop) (w : World) (hn : n ≤ 4194304)
    (hV : 0 < n → ∃ b off, A = some ⟨b, off, none⟩ ∧ b < w.heap.size ∧ S b ∧ ∃ C : Nat → List Value, ∀ i, i < n → (arg i).isV w S (C i) ∧ ∀ j u, (C i)[j]? = some u → w.cell? ⟨b, off + i * 4 + j, none⟩ = some u)
    (hm : ∀ i, i < n → (arg i).many ≤ 4194304) (ih : ∀ i, i < n → CopyOk (arg i)) :
    Calls Tryz.prog 93 #[.slice A n c, .func (.func 62) #[] #[]] w (EachPost n arg w) := by
  obtain ⟨i0, hi, jz0, jz1, jz2⟩ := info_parts infoV
  have HV := Lib.hid hV
  have IH := Lib.hid ih
  have HM := Lib.hid hm
  have HE := Lib.hid copy_enters
  clear hV ih hm
  go_enter Tryz.func93, Tryz.ntmps93
  go_wp2_with fail
  go_loopw [5, 7, 10] (fun v _ i wr => ∃ (q : Nat) (C : Nat → List Value), q ≤ n ∧ i = .int .i64 q ∧ wr.ownsRow w.heap.size 41 4 v q (flatC C q) ∧ (∀ i, (C i).length = 4) ∧ (∀ i, i < q → (arg i).isV wr (fun b => w.heap.size ≤ b ∧ some b ≠ v.ownBlock) (C i)) ∧ Below w.heap.size w wr) (fun _ _ i _ => n - (intOf i).toNat)
  case atStart => exact ⟨0, fun _ => List.replicate 4 undef, Nat.zero_le _, rfl, World.ownsRow_nil _ _ _ _, fun _ => by simp, fun i hi => by omega, Below.refl _ _⟩
  case round =>
    obtain ⟨q, C, hq, rfl, hown, hCl, hCv, hB⟩ := hrel
    by_cases hlt : q < n
    · obtain ⟨b, off, rfl, hb, hSb, D, hD⟩ := HV.out (by omega)
      obtain ⟨hDq, hcell⟩ := hD q hlt
      obtain ⟨k', m', s', A', n', c', hCq⟩ := isV_cells hDq
      have hDr := isV_frame (w' := wr) (S' := S) hB.size (fun b hs hlt => ⟨hs, hB.block b hlt⟩) hDq
      rw [hCq] at hcell hDr
      have c0 : wr.cell? ⟨b, off + q * 4, none⟩ = some (.int .i64 k') := (hB.cell (p := ⟨b, _, none⟩) hb).trans (hcell 0 _ rfl)
      have c1 : wr.cell? ⟨b, off + q * 4 + 1, none⟩ = some (.int .i64 m') := (hB.cell (p := ⟨b, _, none⟩) hb).trans (hcell 1 _ rfl)
      have c2 : wr.cell? ⟨b, off + q * 4 + 2, none⟩ = some (.string s') := (hB.cell (p := ⟨b, _, none⟩) hb).trans (hcell 2 _ rfl)
      have c3 : wr.cell? ⟨b, off + q * 4 + 3, none⟩ = some (.slice A' n' c') := (hB.cell (p := ⟨b, _, none⟩) hb).trans (hcell 3 _ rfl)
      have hBs := hB.size
      have HO := Lib.hid hown
      have HCL := Lib.hid hCl
      have HCV := Lib.hid hCv
      have HDR := Lib.hid hDr
      have hen := HE.out #[.agg #[.int .i64 k', .int .i64 m', .string s', .slice A' n' c']]
      clear hown hCl hCv hDr hD hDq hcell hCq
      go_wp2_with fail
      refine (IH.out q hlt _ S _ (isV_below HDR.out ((Below.refl _ _).alloc (Nat.le_refl _) _)) (HM.out q hlt)).mono ?_
      rintro e w1 ⟨cs', rfl, hV1, hb1⟩
      obtain ⟨k2, m2, s2, A2, n2, c2', rfl⟩ := isV_cells hV1
      have hO1 := own_below ((HO.out).alloc (.cells #[.int .i64 k', .int .i64 m', .string s', .slice A' n' c'] 41)) hb1
      have HO1 := Lib.hid hO1
      have HV1 := Lib.hid hV1
      have HB1 := Lib.hid hb1
      have hz1 : w.heap.size ≤ w1.heap.size := by have := hb1.size; simp at this; omega
      have hlt5 := Lib.hid (fun k hk => (HO.out.lt k hk).2)
      clear hO1 hV1 hb1 hen c0 c1 c2 c3
      go_wp2_with (at_builtin; refine wpList_append_own_at _ rfl _ _ 39 rfl w.heap.size 41 i0 _ 4 56 Tryz.underlying39 hi jz0 jz1 jz2 rfl (by omega) u5 q (flatC C q) rfl (HO1.out.alloc _) ⟨w1.heap.size, 0, none⟩ 1 1 [.int .i64 k2, .int .i64 m2, .string s2, .slice A2 n2 c2'] rfl rfl (cell_four_new _ _ _ _ _ _) (isV_one HV1.out) (by unfold maxLen; omega) (by omega) (by simp; omega) ?_; intro v2 w2 hown2 hgrow2 _ hat2; rw [flatC_snoc] at hown2; have HO2 := Lib.hid hown2; have HG2 := Lib.hid hgrow2; have HA2 := Lib.hid hat2; clear hown2 hgrow2 hat2)
      go_roundw
      case rel =>
        refine ⟨q + 1, updC C q [.int .i64 k2, .int .i64 m2, .string s2, .slice A2 n2 c2'], by omega, by go_num, HO2.out, fun i => ?_, fun i hi => ?_, ?_⟩
        · unfold updC; split
          · rfl
          · exact HCL.out i
        · by_cases e : i = q
          · subst e
            simp only [updC, if_true]
            exact each_new hBs hlt5.out HB1.out HG2.out HA2.out HV1.out
          · simp only [updC, e, if_false]
            exact each_step HB1.out HG2.out HA2.out (HCV.out i (by omega))
        · exact (((hB.alloc hBs _).trans (HB1.out.mono (by simp; omega))).alloc hz1 _).grown HG2.out (by simp; omega) (fun k hk => (HO.out.lt k hk).1)
      case measure => simp [intOf]; omega
    · obtain rfl : q = n := by omega
      go_wp2_with fail
      go_ret
      exact ⟨_, C, rfl, hown, hCl, hCv, hB⟩
/-- the row that Each made is the arguments of a value -/
theorem isV_of_each {w1 w2 : World} {n : Nat} {arg : Nat → VT} {v : Value} {C : Nat → List Value} {k m : Int} {s : ByteArray} {base : Nat} {A : Option Addr} {c : Nat} (hv : v = .slice A n c) (ho : w1.ownsRow base 41 4 v n (flatC C n)) (hl : ∀ i, (C i).length = 4)
    (hc : ∀ i, i < n → (arg i).isV w1 (fun b => base ≤ b ∧ some b ≠ v.ownBlock) (C i)) (hsz : w1.heap.size ≤ w2.heap.size) (hh : ∀ b, base ≤ b → b < w1.heap.size → w2.heap[b]? = w1.heap[b]?) :
    (VT.node k m s n arg).isV w2 (fun b => base ≤ b) [.int .i64 k, .int .i64 m, .string s, .slice A n c] := by
  subst hv
  obtain ⟨A', c', hv', hnc, hcm, hA⟩ := own_any ho
  injection hv' with e1 e2 e3
  subst e1 e3
  refine ⟨A, c, rfl, hnc, hcm, hA, fun h0 => ?_⟩
  obtain ⟨g, cap, hv2, hb, hlt, _⟩ := own_form ho h0
  injection hv2 with e1 e2 e3
  subst e1
  refine ⟨g, 0, rfl, by omega, hb, C, fun i hi => ⟨isV_frame hsz (fun b hs hl => ⟨hs.1, hh b hs.1 hl⟩) (hc i hi), fun j u hu => ?_⟩⟩
  have hj : j < 4 := by
    rcases Nat.lt_or_ge j 4 with h | h
    · exact h
    · rw [List.getElem?_eq_none (by rw [hl]; exact h)] at hu; cases hu
  have h2 : (i + 1) * 4 ≤ n * 4 := Nat.mul_le_mul_right _ (by omega)
  rw [Nat.zero_add, World.cell?_of_block (a := ⟨g, _, none⟩) (hh g hb hlt), ho.cellAt _ (by omega), flatC_get hl hi hj]
  exact hu
set_option maxRecDepth 100000 in
set_option maxHeartbeats 1000000 in
theorem copy_any : ∀ t : VT, CopyOk t := by
  intro t
  induction t with
  | none => intro cs S w h; exact h.elim
  | node k m s n arg ih =>
    intro cs S w h hm
    have h' := h
    obtain ⟨A, c, rfl, hnc, hcm, hA, hV⟩ := h'
    have hn : n ≤ 4194304 ∧ ∀ i, i < n → (arg i).many ≤ 4194304 := by
      simp only [VT.many] at hm
      refine ⟨?_, fun i hi => ?_⟩
      · by_cases h0 : 0 < n
        · obtain ⟨b, off, _, _, _, C, hC⟩ := hV h0
          have h1 : n ≤ sumTo (fun i => (arg i).many) n := len_sumTo fun i hi => isV_many (hC i hi).1
          omega
        · omega
      · have := le_sumTo (g := fun i => (arg i).many) hi
        omega
    have he0 : ∀ o o' : Obj, Calls Tryz.prog 93 #[.slice A n c, .func (.func 62) #[] #[]] ((w.alloc o).alloc o') (EachPost n arg ((w.alloc o).alloc o')) := fun o o' => by
      have hb : Below w.heap.size w ((w.alloc o).alloc o') := ((Below.refl _ _).alloc (Nat.le_refl _) _).alloc (by simp) _
      obtain ⟨_, _, he, _, _, _, hV'⟩ := isV_below h hb
      simp at he
      obtain ⟨rfl, rfl⟩ := he
      exact each_any n c A arg S _ hn.1 hV' hn.2 (fun i _ => ih i)
    have HE := Lib.hid he0
    clear h hV ih hm hA he0
    go_enter Tryz.func62, Tryz.ntmps62
    go_wp2_with fail
    refine (HE.out _ _).mono ?_
    rintro e w1 ⟨v, C, rfl, hown, hCl, hCv, hb1⟩
    obtain ⟨A', c', hv, hnc', hcm', hA'⟩ := own_any hown
    have hz1 : w.heap.size + 2 ≤ w1.heap.size := by have := hb1.size; simp at this; omega
    have HF := Lib.hid (fun (w2 : World) (hsz : w1.heap.size ≤ w2.heap.size) (hh : ∀ b, w.heap.size + 2 ≤ b → b < w1.heap.size → w2.heap[b]? = w1.heap[b]?) => isV_mono (S' := fun b => w.heap.size ≤ b) (isV_of_each (w2 := w2) (k := k) (m := m) (s := s) hv hown hCl hCv hsz (fun b hb hl => hh b (by simpa using hb) hl)) (fun b _ hb => by simp at hb; omega))
    have x0 : w1.cell? ⟨w.heap.size, 0, none⟩ = some (.int .i64 k) := (hb1.cell (p := ⟨_, _, none⟩) (by simp; omega)).trans (by simp)
    have x1 : w1.cell? ⟨w.heap.size, 1, none⟩ = some (.int .i64 m) := (hb1.cell (p := ⟨_, _, none⟩) (by simp; omega)).trans (by simp)
    have x2 : w1.cell? ⟨w.heap.size, 2, none⟩ = some (.string s) := (hb1.cell (p := ⟨_, _, none⟩) (by simp; omega)).trans (by simp)
    have x3 : w1.cell? ⟨w.heap.size, 3, none⟩ = some (.slice A n c) := (hb1.cell (p := ⟨_, _, none⟩) (by simp; omega)).trans (by simp)
    have y0 : w1.cell? ⟨w.heap.size + 1, 0, none⟩ = some (.int .i64 0) := (hb1.cell (p := ⟨_, _, none⟩) (by simp)).trans (by simp)
    have y1 : w1.cell? ⟨w.heap.size + 1, 1, none⟩ = some (.int .i64 0) := (hb1.cell (p := ⟨_, _, none⟩) (by simp)).trans (by simp)
    have y2 : w1.cell? ⟨w.heap.size + 1, 2, none⟩ = some (.string ⟨#[]⟩) := (hb1.cell (p := ⟨_, _, none⟩) (by simp)).trans (by simp)
    have y3 : w1.cell? ⟨w.heap.size + 1, 3, none⟩ = some (.slice none 0 0) := (hb1.cell (p := ⟨_, _, none⟩) (by simp)).trans (by simp)
    have fx : ∀ o, w1.frozen? ⟨w.heap.size, o, none⟩ = false := fun o => (hb1.frozen (p := ⟨_, _, none⟩) (by simp; omega)).trans (by simp)
    have fy : ∀ o, w1.frozen? ⟨w.heap.size + 1, o, none⟩ = false := fun o => (hb1.frozen (p := ⟨_, _, none⟩) (by simp)).trans (by simp)
    have HB := Lib.hid ((((Below.refl w.heap.size w).alloc (Nat.le_refl _) _).alloc (by simp) _).trans (hb1.mono (by simp; omega)))
    subst hv
    clear hown hCl hCv hb1
    go_wp2_with fail
    refine bodyPost_ret (v := .agg #[.int .i64 k, .int .i64 m, .string s, .slice A' n c']) (by simp [results, Tryz.results62, go_sem, y0, y1, y2, y3]) rfl ⟨[.int .i64 k, .int .i64 m, .string s, .slice A' n c'], rfl, HF.out _ (by simp) (fun b hb _ => ?_), ?_⟩
    · rw [Below.heap_setCell _ _ _ _ (by show b ≠ w.heap.size + 1; omega), Below.heap_setCell _ _ _ _ (by show b ≠ w.heap.size + 1; omega), Below.heap_setCell _ _ _ _ (by show b ≠ w.heap.size + 1; omega), Below.heap_setCell _ _ _ _ (by show b ≠ w.heap.size + 1; omega), Below.heap_setCell _ _ _ _ (by show b ≠ w.heap.size; omega)]
    · exact ((((HB.out.setCell (p := ⟨w.heap.size, 3, none⟩) (Nat.le_refl _) _).setCell (p := ⟨w.heap.size + 1, 0, none⟩) (Nat.le_succ _) _).setCell (p := ⟨w.heap.size + 1, 1, none⟩) (Nat.le_succ _) _).setCell (p := ⟨w.heap.size + 1, 2, none⟩) (Nat.le_succ _) _).setCell (p := ⟨w.heap.size + 1, 3, none⟩) (Nat.le_succ _) _
end Go.Proofs.YtjjfglbcikaicaaGreat
namespace Go.Proofs.YtjjfglbcikaicaaGreat
open Go.RowKit
set_option linter.unusedVariables false
structure LT where
  kind : Int
  frm : Int
  to : Int
  num : Int
  text : ByteArray
  val : VT
def LT.isL (w : World) (S : Nat → Prop) (l : LT) (cs : List Value) : Prop := ∃ k2 m2 s2 A2 n2 c2, cs = [.int .i64 l.kind, .int .i64 l.frm, .int .i64 l.to, .int .i64 l.num, .string l.text, .int .i64 k2, .int .i64 m2, .string s2, .slice A2 n2 c2] ∧ l.val.isV w S [.int .i64 k2, .int .i64 m2, .string s2, .slice A2 n2 c2]
theorem isL_len {w : World} {S : Nat → Prop} {l : LT} {cs : List Value} (h : l.isL w S cs) : cs.length = 9 := by
  obtain ⟨_, _, _, _, _, _, rfl, _⟩ := h; rfl
theorem isL_one {w : World} {S : Nat → Prop} {l : LT} {cs : List Value} (h : l.isL w S cs) : ∀ u ∈ cs, u.oneCell' = true := by
  obtain ⟨_, _, _, _, _, _, rfl, _⟩ := h
  intro u hu
  simp at hu
  rcases hu with rfl | rfl | rfl | rfl | rfl | rfl | rfl | rfl | rfl <;> rfl
theorem isL_frame {w w' : World} {S S' : Nat → Prop} (hsz : w.heap.size ≤ w'.heap.size) (hS : ∀ b, S b → b < w.heap.size → S' b ∧ w'.heap[b]? = w.heap[b]?) {l : LT} {cs : List Value} (h : l.isL w S cs) : l.isL w' S' cs := by
  obtain ⟨k2, m2, s2, A2, n2, c2, rfl, hv⟩ := h
  exact ⟨k2, m2, s2, A2, n2, c2, rfl, isV_frame hsz hS hv⟩
theorem isL_below {w w' : World} {S : Nat → Prop} {l : LT} {cs : List Value} (h : l.isL w S cs) (hb : Below w.heap.size w w') : l.isL w' S cs :=
  isL_frame hb.size (fun b hs hlt => ⟨hs, hb.block b hlt⟩) h
theorem infoL : (Tryz.prog.info? 43).map (fun i => (i.zero, i.size, i.bytes)) = some (some (.agg #[.int .i64 0, .int .i64 0, .int .i64 0, .int .i64 0, .string ⟨#[]⟩, .int .i64 0, .int .i64 0, .string ⟨#[]⟩, .slice none 0 0]), 9, 104) := by kernel_rfl
def LCopyPost (l : LT) (w : World) (e : Ending) (w' : World) : Prop := ∃ cs', e = .returned (.agg cs'.toArray) ∧ l.isL w' (fun b => w.heap.size ≤ b) cs' ∧ Below w.heap.size w w'
set_option maxRecDepth 100000 in
set_option maxHeartbeats 1000000 in
theorem lcopy_any (l : LT) (cs : List Value) (S : Nat → Prop) (w : World) (h : l.isL w S cs) (hm : l.val.many ≤ 4194304) : Calls Tryz.prog 56 #[.agg cs.toArray] w (LCopyPost l w) := by
  obtain ⟨k2, m2, s2, A2, n2, c2, rfl, hv⟩ := h
  have HC := Lib.hid (fun W hW => copy_any l.val [.int .i64 k2, .int .i64 m2, .string s2, .slice A2 n2 c2] S W hW hm)
  have HV := Lib.hid hv
  obtain ⟨k, f, t, n, s, val⟩ := l
  dsimp only at HC HV hm ⊢
  clear hv
  go_enter Tryz.func56, Tryz.ntmps56
  go_wp2_with fail
  refine (HC.out _ (isV_below HV.out (((Below.refl _ _).alloc (Nat.le_refl _) _).alloc (by simp) _))).mono ?_
  rintro e w1 ⟨cs', rfl, hV1, hb1⟩
  obtain ⟨k3, m3, s3, A3, n3, c3, rfl⟩ := isV_cells hV1
  have hz1 : w.heap.size + 2 ≤ w1.heap.size := by have := hb1.size; simp at this; omega
  have HF := Lib.hid (fun (w2 : World) (hsz : w1.heap.size ≤ w2.heap.size) (hh : ∀ b, w.heap.size + 2 ≤ b → b < w1.heap.size → w2.heap[b]? = w1.heap[b]?) => isV_frame (w' := w2) (S' := fun b => w.heap.size ≤ b) hsz (fun b hs hl => ⟨by simp at hs; omega, hh b (by simpa using hs) hl⟩) hV1)
  have x0 : w1.cell? ⟨w.heap.size, 0, none⟩ = some (.int .i64 k) := (hb1.cell (p := ⟨_, _, none⟩) (by simp; omega)).trans (by simp)
  have x1 : w1.cell? ⟨w.heap.size, 1, none⟩ = some (.int .i64 f) := (hb1.cell (p := ⟨_, _, none⟩) (by simp; omega)).trans (by simp)
  have x2 : w1.cell? ⟨w.heap.size, 2, none⟩ = some (.int .i64 t) := (hb1.cell (p := ⟨_, _, none⟩) (by simp; omega)).trans (by simp)
  have x3 : w1.cell? ⟨w.heap.size, 3, none⟩ = some (.int .i64 n) := (hb1.cell (p := ⟨_, _, none⟩) (by simp; omega)).trans (by simp)
  have x4 : w1.cell? ⟨w.heap.size, 4, none⟩ = some (.string s) := (hb1.cell (p := ⟨_, _, none⟩) (by simp; omega)).trans (by simp)
  have x5 : w1.cell? ⟨w.heap.size, 5, none⟩ = some (.int .i64 k2) := (hb1.cell (p := ⟨_, _, none⟩) (by simp; omega)).trans (by simp)
  have x6 : w1.cell? ⟨w.heap.size, 6, none⟩ = some (.int .i64 m2) := (hb1.cell (p := ⟨_, _, none⟩) (by simp; omega)).trans (by simp)
  have x7 : w1.cell? ⟨w.heap.size, 7, none⟩ = some (.string s2) := (hb1.cell (p := ⟨_, _, none⟩) (by simp; omega)).trans (by simp)
  have x8 : w1.cell? ⟨w.heap.size, 8, none⟩ = some (.slice A2 n2 c2) := (hb1.cell (p := ⟨_, _, none⟩) (by simp; omega)).trans (by simp)
  have y0 : w1.cell? ⟨w.heap.size + 1, 0, none⟩ = some (.int .i64 0) := (hb1.cell (p := ⟨_, _, none⟩) (by simp)).trans (by simp)
  have y1 : w1.cell? ⟨w.heap.size + 1, 1, none⟩ = some (.int .i64 0) := (hb1.cell (p := ⟨_, _, none⟩) (by simp)).trans (by simp)
  have y2 : w1.cell? ⟨w.heap.size + 1, 2, none⟩ = some (.int .i64 0) := (hb1.cell (p := ⟨_, _, none⟩) (by simp)).trans (by simp)
  have y3 : w1.cell? ⟨w.heap.size + 1, 3, none⟩ = some (.int .i64 0) := (hb1.cell (p := ⟨_, _, none⟩) (by simp)).trans (by simp)
  have y4 : w1.cell? ⟨w.heap.size + 1, 4, none⟩ = some (.string ⟨#[]⟩) := (hb1.cell (p := ⟨_, _, none⟩) (by simp)).trans (by simp)
  have y5 : w1.cell? ⟨w.heap.size + 1, 5, none⟩ = some (.int .i64 0) := (hb1.cell (p := ⟨_, _, none⟩) (by simp)).trans (by simp)
  have y6 : w1.cell? ⟨w.heap.size + 1, 6, none⟩ = some (.int .i64 0) := (hb1.cell (p := ⟨_, _, none⟩) (by simp)).trans (by simp)
  have y7 : w1.cell? ⟨w.heap.size + 1, 7, none⟩ = some (.string ⟨#[]⟩) := (hb1.cell (p := ⟨_, _, none⟩) (by simp)).trans (by simp)
  have y8 : w1.cell? ⟨w.heap.size + 1, 8, none⟩ = some (.slice none 0 0) := (hb1.cell (p := ⟨_, _, none⟩) (by simp)).trans (by simp)
  have fx : ∀ o, w1.frozen? ⟨w.heap.size, o, none⟩ = false := fun o => (hb1.frozen (p := ⟨_, _, none⟩) (by simp; omega)).trans (by simp)
  have fy : ∀ o, w1.frozen? ⟨w.heap.size + 1, o, none⟩ = false := fun o => (hb1.frozen (p := ⟨_, _, none⟩) (by simp)).trans (by simp)
  have HB := Lib.hid ((((Below.refl w.heap.size w).alloc (Nat.le_refl _) _).alloc (by simp) _).trans (hb1.mono (by simp; omega)))
  clear hV1 hb1
  go_wp2_with fail
  refine bodyPost_ret (v := .agg #[.int .i64 k, .int .i64 f, .int .i64 t, .int .i64 n, .string s, .int .i64 k3, .int .i64 m3, .string s3, .slice A3 n3 c3]) (by simp [results, Tryz.results56, go_sem, y0, y1, y2, y3, y4, y5, y6, y7, y8]) rfl ⟨[.int .i64 k, .int .i64 f, .int .i64 t, .int .i64 n, .string s, .int .i64 k3, .int .i64 m3, .string s3, .slice A3 n3 c3], rfl, ⟨k3, m3, s3, A3, n3, c3, rfl, HF.out _ (by simp) (fun b hb _ => ?_)⟩, ?_⟩
  · rw [Below.heap_setCell _ _ _ _ (by show b ≠ w.heap.size + 1; omega), Below.heap_setCell _ _ _ _ (by show b ≠ w.heap.size + 1; omega), Below.heap_setCell _ _ _ _ (by show b ≠ w.heap.size + 1; omega), Below.heap_setCell _ _ _ _ (by show b ≠ w.heap.size + 1; omega), Below.heap_setCell _ _ _ _ (by show b ≠ w.heap.size + 1; omega), Below.heap_setCell _ _ _ _ (by show b ≠ w.heap.size + 1; omega), Below.heap_setCell _ _ _ _ (by show b ≠ w.heap.size + 1; omega), Below.heap_setCell _ _ _ _ (by show b ≠ w.heap.size + 1; omega), Below.heap_setCell _ _ _ _ (by show b ≠ w.heap.size + 1; omega), Below.heap_setCell _ _ _ _ (by show b ≠ w.heap.size; omega), Below.heap_setCell _ _ _ _ (by show b ≠ w.heap.size; omega), Below.heap_setCell _ _ _ _ (by show b ≠ w.heap.size; omega), Below.heap_setCell _ _ _ _ (by show b ≠ w.heap.size; omega)]
  · exact (((((((((((((HB.out.setCell (p := ⟨w.heap.size, 5, none⟩) (Nat.le_refl _) _).setCell (p := ⟨w.heap.size, 6, none⟩) (Nat.le_refl _) _).setCell (p := ⟨w.heap.size, 7, none⟩) (Nat.le_refl _) _).setCell (p := ⟨w.heap.size, 8, none⟩) (Nat.le_refl _) _).setCell (p := ⟨w.heap.size + 1, 0, none⟩) (Nat.le_succ _) _).setCell (p := ⟨w.heap.size + 1, 1, none⟩) (Nat.le_succ _) _).setCell (p := ⟨w.heap.size + 1, 2, none⟩) (Nat.le_succ _) _).setCell (p := ⟨w.heap.size + 1, 3, none⟩) (Nat.le_succ _) _).setCell (p := ⟨w.heap.size + 1, 4, none⟩) (Nat.le_succ _) _).setCell (p := ⟨w.heap.size + 1, 5, none⟩) (Nat.le_succ _) _).setCell (p := ⟨w.heap.size + 1, 6, none⟩) (Nat.le_succ _) _).setCell (p := ⟨w.heap.size + 1, 7, none⟩) (Nat.le_succ _) _).setCell (p := ⟨w.heap.size + 1, 8, none⟩) (Nat.le_succ _) _)

def LEachPost (n : Nat) (arg : Nat → LT) (w : World) (e : Ending) (w' : World) : Prop :=
  ∃ v C, e = .returned v ∧ w'.ownsRow w.heap.size 43 9 v n (flatC C n) ∧ (∀ i, (C i).length = 9) ∧ (∀ i, i < n → (arg i).isL w' (fun b => w.heap.size ≤ b ∧ some b ≠ v.ownBlock) (C i)) ∧ Below w.heap.size w w'
theorem cell_nine_new (w : World) (a b c d e f g h i : Value) (t : TypeId) : ∀ j u, [a, b, c, d, e, f, g, h, i][j]? = some u → (w.alloc (.cells #[a, b, c, d, e, f, g, h, i] t)).cell? ((⟨w.heap.size, 0, none⟩ : Addr).add j) = some u := by
  intro j u hj
  match j, hj with
  | 0, hj => simp at hj; subst hj; simp [Addr.add]
  | 1, hj => simp at hj; subst hj; simp [Addr.add]
  | 2, hj => simp at hj; subst hj; simp [Addr.add]
  | 3, hj => simp at hj; subst hj; simp [Addr.add]
  | 4, hj => simp at hj; subst hj; simp [Addr.add]
  | 5, hj => simp at hj; subst hj; simp [Addr.add]
  | 6, hj => simp at hj; subst hj; simp [Addr.add]
  | 7, hj => simp at hj; subst hj; simp [Addr.add]
  | 8, hj => simp at hj; subst hj; simp [Addr.add]
theorem leach_step {wr w1 w2 : World} {base : Nat} {o o' : Obj} {v v' : Value} {t : LT} {cs : List Value} (hb1 : Below (wr.alloc o).heap.size (wr.alloc o) w1) (hg : (w1.alloc o').grownBy w2 v.ownBlock)
    (hat : v'.ownBlock = v.ownBlock ∨ v'.ownBlock = some (w1.alloc o').heap.size) (h : t.isL wr (fun b => base ≤ b ∧ some b ≠ v.ownBlock) cs) : t.isL w2 (fun b => base ≤ b ∧ some b ≠ v'.ownBlock) cs := by
  obtain ⟨k2, m2, s2, A2, n2, c2, rfl, hv⟩ := h
  exact ⟨k2, m2, s2, A2, n2, c2, rfl, each_step hb1 hg hat hv⟩
theorem leach_new {wr w1 w2 : World} {base : Nat} {o o' : Obj} {v v' : Value} {t : LT} {cs : List Value} (hbase : base ≤ wr.heap.size) (hv : ∀ k, v.ownBlock = some k → k < wr.heap.size) (hb1 : Below (wr.alloc o).heap.size (wr.alloc o) w1) (hg : (w1.alloc o').grownBy w2 v.ownBlock)
    (hat : v'.ownBlock = v.ownBlock ∨ v'.ownBlock = some (w1.alloc o').heap.size) (h : t.isL w1 (fun b => (wr.alloc o).heap.size ≤ b) cs) : t.isL w2 (fun b => base ≤ b ∧ some b ≠ v'.ownBlock) cs := by
  obtain ⟨k2, m2, s2, A2, n2, c2, rfl, h⟩ := h
  exact ⟨k2, m2, s2, A2, n2, c2, rfl, each_new hbase hv hb1 hg hat h⟩
theorem lcopy_enters : Enters Tryz.prog 56 := fun _ _ => by kernel_rfl
/-- letters that lie in a slice -/
def RdL (w : World) (S : Nat → Prop) (A : Option Addr) (n : Nat) (arg : Nat → LT) : Prop :=
  0 < n → ∃ b off, A = some ⟨b, off, none⟩ ∧ b < w.heap.size ∧ S b ∧ ∃ C : Nat → List Value, ∀ i, i < n → (arg i).isL w S (C i) ∧ ∀ j u, (C i)[j]? = some u → w.cell? ⟨b, off + i * 9 + j, none⟩ = some u
theorem RdL.frame {w w' : World} {S S' : Nat → Prop} {A : Option Addr} {n : Nat} {arg : Nat → LT} (h : RdL w S A n arg) (hsz : w.heap.size ≤ w'.heap.size) (hS : ∀ b, S b → b < w.heap.size → S' b ∧ w'.heap[b]? = w.heap[b]?) : RdL w' S' A n arg := fun h0 => by
  obtain ⟨b, off, hA, hb, hSb, C, hC⟩ := h h0
  obtain ⟨s1, s2⟩ := hS b hSb hb
  exact ⟨b, off, hA, by omega, s1, C, fun i hi => ⟨isL_frame hsz hS (hC i hi).1, fun j u hu => (World.cell?_of_block (a := ⟨b, _, none⟩) s2).trans ((hC i hi).2 j u hu)⟩⟩
theorem RdL.below {w w' : World} {S : Nat → Prop} {A : Option Addr} {n : Nat} {arg : Nat → LT} (h : RdL w S A n arg) (hb : Below w.heap.size w w') : RdL w' S A n arg := h.frame hb.size (fun b hs hlt => ⟨hs, hb.block b hlt⟩)
set_option maxRecDepth 100000 in
set_option maxHeartbeats 2000000 in
theorem leach_any (n c : Nat) (A : Option Addr) (arg : Nat → LT) (S : Nat → Prop) (w : World) (hn : n ≤ 4194304) (hV : RdL w S A n arg) (hm : ∀ i, i < n → (arg i).val.many ≤ 4194304) :
    Calls Tryz.prog 55 #[.slice A n c, .func (.func 56) #[] #[]] w (LEachPost n arg w) := by
  obtain ⟨i0, hi, jz0, jz1, jz2⟩ := info_parts infoL
  have HV := Lib.hid hV
  have HM := Lib.hid hm
  have HE := Lib.hid lcopy_enters
  clear hV hm
  go_enter Tryz.func55, Tryz.ntmps55
  go_wp2_with fail
  go_loopw [5, 7, 10] (fun v _ i wr => ∃ (q : Nat) (C : Nat → List Value), q ≤ n ∧ i = .int .i64 q ∧ wr.ownsRow w.heap.size 43 9 v q (flatC C q) ∧ (∀ i, (C i).length = 9) ∧ (∀ i, i < q → (arg i).isL wr (fun b => w.heap.size ≤ b ∧ some b ≠ v.ownBlock) (C i)) ∧ Below w.heap.size w wr) (fun _ _ i _ => n - (intOf i).toNat)
  case atStart => exact ⟨0, fun _ => List.replicate 9 undef, Nat.zero_le _, rfl, World.ownsRow_nil _ _ _ _, fun _ => by simp, fun i hi => by omega, Below.refl _ _⟩
  case round =>
    obtain ⟨q, C, hq, rfl, hown, hCl, hCv, hB⟩ := hrel
    by_cases hlt : q < n
    · obtain ⟨b, off, rfl, hb, hSb, D, hD⟩ := HV.out (by omega)
      obtain ⟨hDq, hcell⟩ := hD q hlt
      have hDr := isL_frame (w' := wr) (S' := S) hB.size (fun b hs hlt => ⟨hs, hB.block b hlt⟩) hDq
      have hDr' := hDr
      obtain ⟨k', m', s', A', n', c', hCq, _⟩ := hDr'
      obtain ⟨lq, hlq⟩ : ∃ x, arg q = x := ⟨_, rfl⟩
      have HMq := Lib.hid (HM.out q hlt)
      rw [hlq] at hCq hDr HMq
      have HLQ := Lib.hid hlq
      obtain ⟨k, f, t, num, s, val⟩ := lq
      dsimp only at hCq HMq
      rw [hCq] at hcell hDr
      have c0 : wr.cell? ⟨b, off + q * 9, none⟩ = some (.int .i64 k) := (hB.cell (p := ⟨b, _, none⟩) hb).trans (hcell 0 _ rfl)
      have c1 : wr.cell? ⟨b, off + q * 9 + 1, none⟩ = some (.int .i64 f) := (hB.cell (p := ⟨b, _, none⟩) hb).trans (hcell 1 _ rfl)
      have c2 : wr.cell? ⟨b, off + q * 9 + 2, none⟩ = some (.int .i64 t) := (hB.cell (p := ⟨b, _, none⟩) hb).trans (hcell 2 _ rfl)
      have c3 : wr.cell? ⟨b, off + q * 9 + 3, none⟩ = some (.int .i64 num) := (hB.cell (p := ⟨b, _, none⟩) hb).trans (hcell 3 _ rfl)
      have c4 : wr.cell? ⟨b, off + q * 9 + 4, none⟩ = some (.string s) := (hB.cell (p := ⟨b, _, none⟩) hb).trans (hcell 4 _ rfl)
      have c5 : wr.cell? ⟨b, off + q * 9 + 5, none⟩ = some (.int .i64 k') := (hB.cell (p := ⟨b, _, none⟩) hb).trans (hcell 5 _ rfl)
      have c6 : wr.cell? ⟨b, off + q * 9 + 6, none⟩ = some (.int .i64 m') := (hB.cell (p := ⟨b, _, none⟩) hb).trans (hcell 6 _ rfl)
      have c7 : wr.cell? ⟨b, off + q * 9 + 7, none⟩ = some (.string s') := (hB.cell (p := ⟨b, _, none⟩) hb).trans (hcell 7 _ rfl)
      have c8 : wr.cell? ⟨b, off + q * 9 + 8, none⟩ = some (.slice A' n' c') := (hB.cell (p := ⟨b, _, none⟩) hb).trans (hcell 8 _ rfl)
      have hBs := hB.size
      have HO := Lib.hid hown
      have HCL := Lib.hid hCl
      have HCV := Lib.hid hCv
      have HDR := Lib.hid hDr
      have hen := HE.out #[.agg #[.int .i64 k, .int .i64 f, .int .i64 t, .int .i64 num, .string s, .int .i64 k', .int .i64 m', .string s', .slice A' n' c']]
      clear hown hCl hCv hDr hD hDq hcell hCq hlq
      go_wp2_with fail
      refine (lcopy_any _ _ S _ (isL_below HDR.out ((Below.refl _ _).alloc (Nat.le_refl _) _)) HMq.out).mono ?_
      rintro e w1 ⟨cs', rfl, hV1, hb1⟩
      have hV1' := hV1
      obtain ⟨k3, m3, s3, A3, n3, c3', rfl, _⟩ := hV1'
      dsimp only at hV1 ⊢
      have hO1 := own_below ((HO.out).alloc (.cells #[.int .i64 k, .int .i64 f, .int .i64 t, .int .i64 num, .string s, .int .i64 k', .int .i64 m', .string s', .slice A' n' c'] 43)) hb1
      have HO1 := Lib.hid hO1
      have HV1 := Lib.hid hV1
      have HB1 := Lib.hid hb1
      have hz1 : w.heap.size ≤ w1.heap.size := by have := hb1.size; simp at this; omega
      have hlt5 := Lib.hid (fun k hk => (HO.out.lt k hk).2)
      clear hO1 hV1 hb1 hen c0 c1 c2 c3 c4 c5 c6 c7 c8
      go_wp2_with (at_builtin; refine wpList_append_own_at _ rfl _ _ 45 rfl w.heap.size 43 i0 _ 9 104 Tryz.underlying45 hi jz0 jz1 jz2 rfl (by omega) u5 q (flatC C q) rfl (HO1.out.alloc _) ⟨w1.heap.size, 0, none⟩ 1 1 [.int .i64 k, .int .i64 f, .int .i64 t, .int .i64 num, .string s, .int .i64 k3, .int .i64 m3, .string s3, .slice A3 n3 c3'] rfl rfl (cell_nine_new _ _ _ _ _ _ _ _ _ _ _) (isL_one HV1.out) (by unfold maxLen; omega) (by omega) (by simp; omega) ?_; intro v2 w2 hown2 hgrow2 _ hat2; rw [flatC_snoc] at hown2; have HO2 := Lib.hid hown2; have HG2 := Lib.hid hgrow2; have HA2 := Lib.hid hat2; clear hown2 hgrow2 hat2)
      go_roundw
      case rel =>
        refine ⟨q + 1, updC C q [.int .i64 k, .int .i64 f, .int .i64 t, .int .i64 num, .string s, .int .i64 k3, .int .i64 m3, .string s3, .slice A3 n3 c3'], by omega, by go_num, HO2.out, fun i => ?_, fun i hi => ?_, ?_⟩
        · unfold updC; split
          · rfl
          · exact HCL.out i
        · by_cases e : i = q
          · subst e
            simp only [updC, if_true]
            rw [HLQ.out]
            exact leach_new hBs hlt5.out HB1.out HG2.out HA2.out HV1.out
          · simp only [updC, e, if_false]
            exact leach_step HB1.out HG2.out HA2.out (HCV.out i (by omega))
        · exact (((hB.alloc hBs _).trans (HB1.out.mono (by simp; omega))).alloc hz1 _).grown HG2.out (by simp; omega) (fun k hk => (HO.out.lt k hk).1)
      case measure => simp [intOf]; omega
    · obtain rfl : q = n := by omega
      go_wp2_with fail
      go_ret
      exact ⟨_, C, rfl, hown, hCl, hCv, hB⟩
end Go.Proofs.YtjjfglbcikaicaaGreat
namespace Go.Proofs.YtjjfglbcikaicaaGreat
open Go.RowKit
set_option linter.unusedVariables false
/-- the text Down -/
def downS : ByteArray := ⟨#[68, 111, 119, 110]⟩
/-- what a letter says -/
def LT.says (l : LT) : VT := if l.kind = 2 then .node 5 0 downS 2 (fun i => if i = 0 then .node 6 l.frm ⟨#[]⟩ 0 (fun _ => .none) else .node 2 l.num ⟨#[]⟩ 0 (fun _ => .none)) else l.val
theorem says_two {l : LT} (h : l.kind = 2) : l.says = .node 5 0 downS 2 (fun i => if i = 0 then .node 6 l.frm ⟨#[]⟩ 0 (fun _ => .none) else .node 2 l.num ⟨#[]⟩ 0 (fun _ => .none)) := if_pos h
theorem says_val {l : LT} (h : ¬ l.kind = 2) : l.says = l.val := if_neg h
theorem says_many (l : LT) : l.says.many ≤ l.val.many + 3 := by
  by_cases h : l.kind = 2
  · rw [says_two h]; simp [VT.many, sumTo]
  · rw [says_val h]; omega
theorem leaf_V (w : World) (S : Nat → Prop) (k m : Int) : (VT.node k m ⟨#[]⟩ 0 (fun _ => .none)).isV w S [.int .i64 k, .int .i64 m, .string ⟨#[]⟩, .slice none 0 0] := ⟨none, 0, rfl, Nat.le_refl _, by omega, fun _ => rfl, fun h => by omega⟩
/-- a built message of one that is down -/
theorem down_isV (w : World) (b : Nat) (S : Nat → Prop) (hS : S b) (hb : b < w.heap.size) (f m : Int)
    (hc : ∀ j u, [Value.int .i64 6, .int .i64 f, .string ⟨#[]⟩, .slice none 0 0, .int .i64 2, .int .i64 m, .string ⟨#[]⟩, .slice none 0 0][j]? = some u → w.cell? ⟨b, j, none⟩ = some u) :
    (VT.node 5 0 downS 2 (fun i => if i = 0 then .node 6 f ⟨#[]⟩ 0 (fun _ => .none) else .node 2 m ⟨#[]⟩ 0 (fun _ => .none))).isV w S [.int .i64 5, .int .i64 0, .string downS, .slice (some ⟨b, 0, none⟩) 2 2] := by
  refine ⟨some ⟨b, 0, none⟩, 2, rfl, Nat.le_refl _, by omega, fun h => by simp at h, fun _ => ⟨b, 0, rfl, hb, hS, fun i => if i = 0 then [.int .i64 6, .int .i64 f, .string ⟨#[]⟩, .slice none 0 0] else [.int .i64 2, .int .i64 m, .string ⟨#[]⟩, .slice none 0 0], fun i hi => ?_⟩⟩
  match i, hi with
  | 0, _ => exact ⟨leaf_V w S 6 f, fun j u hu => by
      simp only [Nat.zero_mul, Nat.zero_add]
      match j, hu with
      | 0, hu => exact hc 0 u hu
      | 1, hu => exact hc 1 u hu
      | 2, hu => exact hc 2 u hu
      | 3, hu => exact hc 3 u hu
      | j + 4, hu => simp at hu⟩
  | 1, _ => exact ⟨leaf_V w S 2 m, fun j u hu => by
      simp only [Nat.zero_add, Nat.one_mul]
      match j, hu with
      | 0, hu => exact hc 4 u hu
      | 1, hu => exact hc 5 u hu
      | 2, hu => exact hc 6 u hu
      | 3, hu => exact hc 7 u hu
      | j + 4, hu => simp at hu⟩
theorem isV_grown {w w' : World} {S S' : Nat → Prop} {row : Option Nat} {t : VT} {cs : List Value} (h : t.isV w S cs) (hg : w.grownBy w' row) (hS : ∀ b, S b → b < w.heap.size → some b ≠ row ∧ S' b) : t.isV w' S' cs :=
  isV_frame hg.size (fun b hs hl => ⟨(hS b hs hl).2, hg.block b hl (hS b hs hl).1⟩) h
/-- a box of a value, still empty -/
structure ZB (wx : World) (b : Nat) : Prop where
  c0 : wx.cell? ⟨b, 0, none⟩ = some (.int .i64 0)
  c1 : wx.cell? ⟨b, 1, none⟩ = some (.int .i64 0)
  c2 : wx.cell? ⟨b, 2, none⟩ = some (.string ⟨#[]⟩)
  c3 : wx.cell? ⟨b, 3, none⟩ = some (.slice none 0 0)
  fr : ∀ o, wx.frozen? ⟨b, o, none⟩ = false
  sz : b < wx.heap.size
theorem ZB.grown {wx wy : World} {b : Nat} {row : Option Nat} (h : ZB wx b) (hg : wx.grownBy wy row) (hr : row ≠ some b) : ZB wy b := by
  have k0 : ∀ o, wy.cell? ⟨b, o, none⟩ = wx.cell? ⟨b, o, none⟩ := fun o => grown_cell hg h.sz (fun e => hr e.symm)
  exact ⟨(k0 _).trans h.c0, (k0 _).trans h.c1, (k0 _).trans h.c2, (k0 _).trans h.c3, fun o => (grown_frozen hg h.sz (fun e => hr e.symm)).trans (h.fr o), by have := hg.size; have := h.sz; omega⟩
theorem ZB.below {wx wy : World} {b : Nat} (h : ZB wx b) (hb : Below wx.heap.size wx wy) : ZB wy b := h.grown (grown_below (g := none) hb) (by simp)
theorem ZB.new (w : World) : ZB (w.alloc (.cells #[.int .i64 0, .int .i64 0, .string ⟨#[]⟩, .slice none 0 0] 41)) w.heap.size := by
  constructor
  any_goals (first | simp [go_sem] | (intro o; simp [go_sem]))
def ans4 (W : World) (b : Nat) (u0 u1 u2 u3 : Value) : World := (((W.setCell ⟨b, 0, none⟩ u0).setCell ⟨b, 1, none⟩ u1).setCell ⟨b, 2, none⟩ u2).setCell ⟨b, 3, none⟩ u3
theorem ans4_grown (W : World) (b : Nat) (u0 u1 u2 u3 : Value) : W.grownBy (ans4 W b u0 u1 u2 u3) (some b) := grown_set (grown_set (grown_set (grown_set (grown_self _ _) _) _) _) _
/-- an answer in a box of its own stays what it is -/
theorem ans4_isV {W : World} {B b : Nat} {S : Nat → Prop} {t : VT} {cs : List Value} (h : t.isV W S cs) (hB : ∀ k, k < W.heap.size → S k → k ≠ b) (u0 u1 u2 u3 : Value) : t.isV (ans4 W b u0 u1 u2 u3) S cs :=
  isV_grown h (ans4_grown W b u0 u1 u2 u3) (fun k hk hl => ⟨fun e => by injection e with e; exact hB k hl hk e, hk⟩)
def SaysPost (l : LT) (w : World) (e : Ending) (w' : World) : Prop := ∃ cs', e = .returned (.agg cs'.toArray) ∧ l.says.isV w' (fun b => w.heap.size ≤ b) cs' ∧ Below w.heap.size w w'
def MsgPost (l : LT) (S : Nat → Prop) (w : World) (e : Ending) (w' : World) : Prop := ∃ cs', e = .returned (.agg cs'.toArray) ∧ l.says.isV w' (fun b => S b ∨ w.heap.size ≤ b) cs' ∧ Below w.heap.size w w'
theorem own_any_v (t : VT) (cs : List Value) (S : Nat → Prop) (w : World) (h : t.isV w S cs) (hm : t.many ≤ 4194304) : Calls Tryz.prog 35 #[.agg cs.toArray] w (CopyPost t w) := by
  obtain ⟨k, m, s, A, n, c, rfl⟩ := isV_cells h
  have H := Lib.hid h
  have hB := (Below.refl w.heap.size w).alloc (Nat.le_refl _) (.cells #[.int .i64 k, .int .i64 m, .string s, .slice A n c] 41)
  have hB2 := hB.alloc (by simp) (.cells #[.int .i64 0, .int .i64 0, .string ⟨#[]⟩, .slice none 0 0] 41)
  have hZB := ZB.new (w.alloc (.cells #[.int .i64 k, .int .i64 m, .string s, .slice A n c] 41))
  obtain ⟨W, hW⟩ : ∃ W, W = (w.alloc (.cells #[.int .i64 k, .int .i64 m, .string s, .slice A n c] 41)).alloc (.cells #[.int .i64 0, .int .i64 0, .string ⟨#[]⟩, .slice none 0 0] 41) := ⟨_, rfl⟩
  rw [← hW] at hB2 hZB
  have hZB : ZB W (w.heap.size + 1) := by simpa using hZB
  have HB2 := Lib.hid hB2
  have HZB := Lib.hid hZB
  have HZ := Lib.hid (show W.heap.size = w.heap.size + 2 by rw [hW]; simp)
  have HW := Lib.hid hW
  clear h hB hB2 hW hZB
  go_enter Tryz.func35, Tryz.ntmps35
  go_wp2_with fail
  rw [← HW.out]
  refine (copy_any t _ S _ (isV_below H.out HB2.out) hm).mono ?_
  rintro e w1 ⟨cs', rfl, hv, hb⟩
  obtain ⟨k', m', s', A', n', c', rfl⟩ := isV_cells hv
  obtain ⟨b0, b1, b2, b3, bf, bz⟩ := HZB.out.below hb
  have x0 : (w1.cell? ⟨w.heap.size + 1, 0, none⟩).isSome = true := by rw [b0]; rfl
  have x1 : (w1.cell? ⟨w.heap.size + 1, 1, none⟩).isSome = true := by rw [b1]; rfl
  have x2 : (w1.cell? ⟨w.heap.size + 1, 2, none⟩).isSome = true := by rw [b2]; rfl
  have x3 : (w1.cell? ⟨w.heap.size + 1, 3, none⟩).isSome = true := by rw [b3]; rfl
  have hz := HZ.out
  have HV := Lib.hid hv
  have HB := Lib.hid (HB2.out.trans (hb.mono (by omega)))
  clear hv hb
  go_wp2_with fail
  refine bodyPost_ret (v := .agg #[.int .i64 k', .int .i64 m', .string s', .slice A' n' c']) (by simp [results, Tryz.results35, go_sem, x0, x1, x2, x3]) rfl ?_
  exact ⟨[.int .i64 k', .int .i64 m', .string s', .slice A' n' c'], rfl, isV_mono (ans4_isV (B := 0) HV.out (fun b hb hs => by omega) _ _ _ _) (fun b _ hb => by omega), below_set (below_set (below_set (below_set HB.out (by omega)) (by omega)) (by omega)) (by omega)⟩
set_option maxHeartbeats 1000000 in
theorem says_any (l : LT) (cs : List Value) (S : Nat → Prop) (w : World) (h : l.isL w S cs) (hm : l.val.many ≤ 4194304) : Calls Tryz.prog 68 #[.agg cs.toArray] w (SaysPost l w) := by
  obtain ⟨k2, m2, s2, A2, n2, c2, rfl, hv⟩ := h
  obtain ⟨lk, lf, lt, ln, lx, lv⟩ := l
  dsimp only at hv hm ⊢
  have HV := Lib.hid hv
  have hB := (Below.refl w.heap.size w).alloc (Nat.le_refl _) (.cells #[.int .i64 lk, .int .i64 lf, .int .i64 lt, .int .i64 ln, .string lx, .int .i64 k2, .int .i64 m2, .string s2, .slice A2 n2 c2] 43)
  by_cases hk : lk = 2
  · subst hk
    have HB := Lib.hid hB
    clear hv hB
    go_enter Tryz.func68, Tryz.ntmps68
    go_wp2_with fail
    refine bodyPost_ret (v := .agg #[.int .i64 5, .int .i64 0, .string downS, .slice (some ⟨w.heap.size + 1 + 1, 0, none⟩) 2 2]) (by simp [results, Tryz.results68, go_sem, downS]) rfl ?_
    refine ⟨[.int .i64 5, .int .i64 0, .string downS, .slice (some ⟨w.heap.size + 1 + 1, 0, none⟩) 2 2], rfl, ?_, (HB.out.alloc (by simp) _).alloc (by simp; omega) _⟩
    rw [says_two rfl]
    refine down_isV _ _ _ (by omega) (by simp) lf ln ?_
    intro j u hu
    match j, hu with
    | 0, hu => simpa [go_sem] using hu
    | 1, hu => simpa [go_sem] using hu
    | 2, hu => simpa [go_sem] using hu
    | 3, hu => simpa [go_sem] using hu
    | 4, hu => simpa [go_sem] using hu
    | 5, hu => simpa [go_sem] using hu
    | 6, hu => simpa [go_sem] using hu
    | 7, hu => simpa [go_sem] using hu
    | j + 8, hu => simp at hu
  · have HK := Lib.hid hk
    have e1 : (lk == 2) = false := by simpa using hk
    clear hk
    have hB2 := hB.alloc (by simp) (.cells #[.int .i64 0, .int .i64 0, .string ⟨#[]⟩, .slice none 0 0] 41)
    have hZB := ZB.new (w.alloc (.cells #[.int .i64 lk, .int .i64 lf, .int .i64 lt, .int .i64 ln, .string lx, .int .i64 k2, .int .i64 m2, .string s2, .slice A2 n2 c2] 43))
    obtain ⟨W, hW⟩ : ∃ W, W = (w.alloc (.cells #[.int .i64 lk, .int .i64 lf, .int .i64 lt, .int .i64 ln, .string lx, .int .i64 k2, .int .i64 m2, .string s2, .slice A2 n2 c2] 43)).alloc (.cells #[.int .i64 0, .int .i64 0, .string ⟨#[]⟩, .slice none 0 0] 41) := ⟨_, rfl⟩
    rw [← hW] at hB2 hZB
    have hZB : ZB W (w.heap.size + 1) := by simpa using hZB
    have HB2 := Lib.hid hB2
    have HZB := Lib.hid hZB
    have HZ := Lib.hid (show W.heap.size = w.heap.size + 2 by rw [hW]; simp)
    have HW := Lib.hid hW
    clear hv hB hB2 hW hZB
    go_enter Tryz.func68, Tryz.ntmps68
    go_wp2_with fail
    rw [← HW.out]
    refine (own_any_v lv _ S _ (isV_below HV.out HB2.out) hm).mono ?_
    rintro e w1 ⟨cs', rfl, hv, hb⟩
    obtain ⟨k', m', s', A', n', c', rfl⟩ := isV_cells hv
    obtain ⟨b0, b1, b2, b3, bf, bz⟩ := HZB.out.below hb
    have x0 : (w1.cell? ⟨w.heap.size + 1, 0, none⟩).isSome = true := by rw [b0]; rfl
    have x1 : (w1.cell? ⟨w.heap.size + 1, 1, none⟩).isSome = true := by rw [b1]; rfl
    have x2 : (w1.cell? ⟨w.heap.size + 1, 2, none⟩).isSome = true := by rw [b2]; rfl
    have x3 : (w1.cell? ⟨w.heap.size + 1, 3, none⟩).isSome = true := by rw [b3]; rfl
    have hz := HZ.out
    have HV1 := Lib.hid hv
    have HB := Lib.hid (HB2.out.trans (hb.mono (by omega)))
    clear hv hb
    go_wp2_with fail
    refine bodyPost_ret (v := .agg #[.int .i64 k', .int .i64 m', .string s', .slice A' n' c']) (by simp [results, Tryz.results68, go_sem, x0, x1, x2, x3]) rfl ?_
    refine ⟨[.int .i64 k', .int .i64 m', .string s', .slice A' n' c'], rfl, ?_, below_set (below_set (below_set (below_set HB.out (by omega)) (by omega)) (by omega)) (by omega)⟩
    rw [says_val HK.out]
    exact isV_mono (ans4_isV (B := 0) HV1.out (fun b hb hs => by omega) _ _ _ _) (fun b _ hb => by omega)
end Go.Proofs.YtjjfglbcikaicaaGreat
namespace Go.Proofs.YtjjfglbcikaicaaGreat
open Go.RowKit
set_option linter.unusedVariables false
set_option maxHeartbeats 400000 in
theorem ixLt_any (I : World → Prop) (A : Option Addr) (b off n c f : Nat) (cp : Array Value) (g0 g1 g2 g3 g4 g5 g6 g7 g8 : Nat → Value) (p : Nat → Bool) (w : World) (hn : n ≤ 9223372036854775807)
    (hA : 0 < n → A = some ⟨b, off, none⟩) (he : Enters Tryz.prog f)
    (hc : ∀ W, I W → ∀ k, k < n → W.cell? ⟨b, off + k * 9, none⟩ = some (g0 k) ∧ W.cell? ⟨b, off + k * 9 + 1, none⟩ = some (g1 k) ∧ W.cell? ⟨b, off + k * 9 + 2, none⟩ = some (g2 k) ∧ W.cell? ⟨b, off + k * 9 + 3, none⟩ = some (g3 k) ∧ W.cell? ⟨b, off + k * 9 + 4, none⟩ = some (g4 k) ∧ W.cell? ⟨b, off + k * 9 + 5, none⟩ = some (g5 k) ∧ W.cell? ⟨b, off + k * 9 + 6, none⟩ = some (g6 k) ∧ W.cell? ⟨b, off + k * 9 + 7, none⟩ = some (g7 k) ∧ W.cell? ⟨b, off + k * 9 + 8, none⟩ = some (g8 k))
    (hf : ∀ W, I W → ∀ k, k < n → Calls Tryz.prog f (#[.agg #[g0 k, g1 k, g2 k, g3 k, g4 k, g5 k, g6 k, g7 k, g8 k]] ++ cp) W fun e W' => e = .returned (.bool (p k)) ∧ I W') (hw : I w) :
    Calls Tryz.prog 128 #[.slice A n c, .func (.func f) #[] cp] w fun e w' => e = .returned (.int .i64 (ixOf p n)) ∧ I w' := by
  have HC := Lib.hid hc
  have HF := Lib.hid hf
  have HA := Lib.hid hA
  have HE := Lib.hid he
  clear hc hf hA he
  go_enter Tryz.func128, Tryz.ntmps128
  go_wp2_with fail
  go_loopw [5, 4, 8] (fun _ _ i wr => ∃ k : Nat, k ≤ n ∧ i = .int .i64 k ∧ (∀ j, j < k → p j = false) ∧ I wr) (fun _ _ i _ => n - (intOf i).toNat)
  case atStart => exact ⟨0, Nat.zero_le _, rfl, fun j hj => by omega, hw⟩
  case round =>
    obtain ⟨k, hk, rfl, hlow, hI⟩ := hrel
    have HL := Lib.hid hlow
    clear hlow
    by_cases hlt : k < n
    · obtain rfl := HA.out (by omega)
      obtain ⟨hc0, hc1, hc2, hc3, hc4, hc5, hc6, hc7, hc8⟩ := HC.out wr hI k hlt
      have hen := HE.out (#[.agg #[g0 k, g1 k, g2 k, g3 k, g4 k, g5 k, g6 k, g7 k, g8 k]] ++ cp) wr
      go_wp2_with fail
      refine (HF.out wr hI k hlt).mono ?_
      rintro e W' ⟨rfl, hI'⟩
      by_cases hp : p k = true
      · clear hc0 hc1 hc2 hc3 hc4 hc5 hc6 hc7 hc8 hen
        go_wp2_with fail
        go_ret
        exact ⟨ret_int (ixOf_found hlt hp HL.out).symm, hI'⟩
      · have hp' : p k = false := by simpa using hp
        clear hc0 hc1 hc2 hc3 hc4 hc5 hc6 hc7 hc8 hen hp
        go_wp2_with fail
        go_roundw
        case rel =>
          refine ⟨k + 1, by omega, by go_num, fun j hj => ?_, hI'⟩
          by_cases e : j = k
          · rw [e]; exact hp'
          · exact HL.out j (by omega)
        case measure => simp [intOf]; omega
    · go_wp2_with fail
      go_ret
      exact ⟨ret_int (ixOf_none fun j hj => HL.out j (by omega)).symm, hI⟩

set_option maxHeartbeats 400000 in
theorem cfL_any (I : World → Prop) (A : Option Addr) (b off n c f : Nat) (cp : Array Value) (g0 g1 g2 g3 g4 g5 g6 g7 g8 : Nat → Value) (p : Nat → Bool) (w : World) (hn : n ≤ 9223372036854775807)
    (hA : 0 < n → A = some ⟨b, off, none⟩) (he : Enters Tryz.prog f)
    (hc : ∀ W, I W → ∀ k, k < n → W.cell? ⟨b, off + k * 9, none⟩ = some (g0 k) ∧ W.cell? ⟨b, off + k * 9 + 1, none⟩ = some (g1 k) ∧ W.cell? ⟨b, off + k * 9 + 2, none⟩ = some (g2 k) ∧ W.cell? ⟨b, off + k * 9 + 3, none⟩ = some (g3 k) ∧ W.cell? ⟨b, off + k * 9 + 4, none⟩ = some (g4 k) ∧ W.cell? ⟨b, off + k * 9 + 5, none⟩ = some (g5 k) ∧ W.cell? ⟨b, off + k * 9 + 6, none⟩ = some (g6 k) ∧ W.cell? ⟨b, off + k * 9 + 7, none⟩ = some (g7 k) ∧ W.cell? ⟨b, off + k * 9 + 8, none⟩ = some (g8 k))
    (hf : ∀ W, I W → ∀ k, k < n → Calls Tryz.prog f (#[.agg #[g0 k, g1 k, g2 k, g3 k, g4 k, g5 k, g6 k, g7 k, g8 k]] ++ cp) W fun e W' => e = .returned (.bool (p k)) ∧ I W') (hw : I w) :
    Calls Tryz.prog 101 #[.slice A n c, .func (.func f) #[] cp] w fun e w' => e = .returned (.bool (anyOf p n)) ∧ I w' := by
  have H := Lib.hid (ixLt_any I A b off n c f cp g0 g1 g2 g3 g4 g5 g6 g7 g8 p w hn hA he hc hf hw)
  clear hc hf hA he hw
  go_enter Tryz.func101, Tryz.ntmps101
  go_wp2_with fail
  refine H.out.mono ?_
  rintro e W' ⟨rfl, hI'⟩
  go_wp2_with fail
  go_ret
  exact ⟨rfl, hI'⟩

def fitsB (k : Int) : Bool := k == 1 || k == 2
set_option maxHeartbeats 400000 in
theorem fits_any (k f t num : Int) (s : ByteArray) (k2 m2 : Int) (s2 : ByteArray) (A2 : Option Addr) (n2 c2 : Nat) (w : World) :
    Calls Tryz.prog 103 #[.agg #[.int .i64 k, .int .i64 f, .int .i64 t, .int .i64 num, .string s, .int .i64 k2, .int .i64 m2, .string s2, .slice A2 n2 c2]] w fun e w' => e = .returned (.bool (fitsB k)) ∧ Below w.heap.size w w' := by
  by_cases h1 : k = 1
  · subst h1
    go_enter Tryz.func103, Tryz.ntmps103
    go_wp2_with fail
    go_ret
    exact ⟨rfl, (Below.refl _ _).alloc (Nat.le_refl _) _⟩
  · have e1 : (k == 1) = false := by simpa using h1
    clear h1
    go_enter Tryz.func103, Tryz.ntmps103
    go_wp2_with fail
    go_ret
    exact ⟨ret_bool (by simp [fitsB, e1]), (Below.refl _ _).alloc (Nat.le_refl _) _⟩
set_option maxHeartbeats 400000 in
theorem check1_any (k f t num : Int) (s : ByteArray) (k2 m2 : Int) (s2 : ByteArray) (A2 : Option Addr) (n2 c2 : Nat) (w : World) :
    Calls Tryz.prog 102 #[.agg #[.int .i64 k, .int .i64 f, .int .i64 t, .int .i64 num, .string s, .int .i64 k2, .int .i64 m2, .string s2, .slice A2 n2 c2]] w fun e w' => e = .returned (.bool (!fitsB k)) ∧ Below w.heap.size w w' := by
  go_enter Tryz.func102, Tryz.ntmps102
  go_wp2_with fail
  refine (fits_any _ _ _ _ _ _ _ _ _ _ _ _).mono ?_
  rintro e w1 ⟨rfl, hb1⟩
  go_wp2_with fail
  go_ret
  exact ⟨rfl, ((Below.refl _ _).alloc (Nat.le_refl _) _).trans (hb1.mono (by simp))⟩
theorem check1_enters : Enters Tryz.prog 102 := fun _ _ => by kernel_rfl
theorem isL_ex {w : World} {S : Nat → Prop} {l : LT} {cs : List Value} (h : l.isL w S cs) : ∃ q : (Int × Int × ByteArray) × (Option Addr × Nat × Nat), cs = [.int .i64 l.kind, .int .i64 l.frm, .int .i64 l.to, .int .i64 l.num, .string l.text, .int .i64 q.1.1, .int .i64 q.1.2.1, .string q.1.2.2, .slice q.2.1 q.2.2.1 q.2.2.2] := by
  obtain ⟨k2, m2, s2, A2, n2, c2, h, _⟩ := h
  exact ⟨((k2, m2, s2), (A2, n2, c2)), h⟩
/-- a function of a letter asked of each, by ContainsFunc -/
theorem cfL_rd (fn n c : Nat) (cp : Array Value) (A : Option Addr) (arg : Nat → LT) (S : Nat → Prop) (p : Nat → Bool) (w : World) (hn : n ≤ 9223372036854775807) (hR : RdL w S A n arg) (he : Enters Tryz.prog fn)
    (hf : ∀ W, Below w.heap.size w W → ∀ i cs, i < n → (arg i).isL W S cs → Calls Tryz.prog fn (#[.agg cs.toArray] ++ cp) W fun e W' => e = .returned (.bool (p i)) ∧ Below w.heap.size w W') :
    Calls Tryz.prog 101 #[.slice A n c, .func (.func fn) #[] cp] w fun e w' => e = .returned (.bool (anyOf p n)) ∧ Below w.heap.size w w' := by
  by_cases h0 : 0 < n
  · obtain ⟨b, off, hA, hb, hSb, C, hC⟩ := hR h0
    have hq : ∀ i, ∃ q : (Int × Int × ByteArray) × (Option Addr × Nat × Nat), i < n → C i = [.int .i64 (arg i).kind, .int .i64 (arg i).frm, .int .i64 (arg i).to, .int .i64 (arg i).num, .string (arg i).text, .int .i64 q.1.1, .int .i64 q.1.2.1, .string q.1.2.2, .slice q.2.1 q.2.2.1 q.2.2.2] := fun i => by
      by_cases hi : i < n
      · obtain ⟨q, hq⟩ := isL_ex (hC i hi).1
        exact ⟨q, fun _ => hq⟩
      · exact ⟨((0, 0, ⟨#[]⟩), (none, 0, 0)), fun h => absurd h hi⟩
    obtain ⟨Q, hQ⟩ := Classical.axiomOfChoice hq
    refine cfL_any (fun W => Below w.heap.size w W) A b off n c fn cp (fun i => .int .i64 (arg i).kind) (fun i => .int .i64 (arg i).frm) (fun i => .int .i64 (arg i).to) (fun i => .int .i64 (arg i).num) (fun i => .string (arg i).text) (fun i => .int .i64 (Q i).1.1) (fun i => .int .i64 (Q i).1.2.1) (fun i => .string (Q i).1.2.2) (fun i => .slice (Q i).2.1 (Q i).2.2.1 (Q i).2.2.2) p w hn (fun _ => hA) he (fun W hW k hk => ?_) (fun W hW k hk => ?_) (Below.refl _ _)
    · have hcell : ∀ o, W.cell? ⟨b, o, none⟩ = w.cell? ⟨b, o, none⟩ := fun o => hW.cell (p := ⟨b, o, none⟩) hb
      simp only [hcell]
      have hk' := (hC k hk).2
      rw [hQ k hk] at hk'
      exact ⟨hk' 0 _ rfl, hk' 1 _ rfl, hk' 2 _ rfl, hk' 3 _ rfl, hk' 4 _ rfl, hk' 5 _ rfl, hk' 6 _ rfl, hk' 7 _ rfl, hk' 8 _ rfl⟩
    · have h1 := isL_frame (w' := W) (S' := S) hW.size (fun b hs hlt => ⟨hs, hW.block b hlt⟩) (hC k hk).1
      rw [hQ k hk] at h1
      exact hf W hW k _ hk h1
  · refine cfL_any (fun W => Below w.heap.size w W) A 0 0 n c fn cp (fun _ => undef) (fun _ => undef) (fun _ => undef) (fun _ => undef) (fun _ => undef) (fun _ => undef) (fun _ => undef) (fun _ => undef) (fun _ => undef) p w hn (fun h => absurd h h0) he (fun W hW k hk => by omega) (fun W hW k hk => by omega) (Below.refl _ _)
theorem notFits_any (n c : Nat) (A : Option Addr) (arg : Nat → LT) (S : Nat → Prop) (w : World) (hn : n ≤ 9223372036854775807) (hR : RdL w S A n arg) :
    Calls Tryz.prog 101 #[.slice A n c, .func (.func 102) #[] #[]] w fun e w' => e = .returned (.bool (anyOf (fun i => !fitsB (arg i).kind) n)) ∧ Below w.heap.size w w' :=
  cfL_rd 102 n c #[] A arg S _ w hn hR check1_enters fun W hW i cs hi h => by
    obtain ⟨k2, m2, s2, A2, n2, c2, rfl, _⟩ := h
    exact (check1_any _ _ _ _ _ _ _ _ _ _ _ W).mono fun e W' ⟨he, hb⟩ => ⟨he, hW.trans (hb.mono hW.size)⟩
def OkBox (n : Nat) (at_ : Int) (arg : Nat → LT) : Prop := n ≤ 60 ∧ 0 ≤ at_ ∧ at_ ≤ n ∧ ∀ i, i < n → fitsB (arg i).kind = true
def ChkPost (Ok : Prop) (w : World) (e : Ending) (w' : World) : Prop := ∃ x : Int, e = .returned (.int .i64 x) ∧ (x = 0 ↔ Ok) ∧ Below w.heap.size w w'
set_option maxRecDepth 100000 in
set_option maxHeartbeats 1000000 in
theorem boxCheck_any (n c : Nat) (A : Option Addr) (at_ : Int) (arg : Nat → LT) (S : Nat → Prop) (w : World) (hn : n ≤ 9223372036854775807) (hR : RdL w S A n arg) :
    Calls Tryz.prog 71 #[.agg #[.slice A n c, .int .i64 at_]] w (ChkPost (OkBox n at_ arg) w) := by
  have hR0 : ∀ o : Obj, Calls Tryz.prog 101 #[.slice A n c, .func (.func 102) #[] #[]] (w.alloc o) fun e w' => e = .returned (.bool (anyOf (fun i => !fitsB (arg i).kind) n)) ∧ Below (w.alloc o).heap.size (w.alloc o) w' := fun o =>
    notFits_any n c A arg S _ hn (hR.below ((Below.refl _ _).alloc (Nat.le_refl _) _))
  have HR := Lib.hid hR0
  clear hR hR0
  by_cases h60 : 60 < n
  · go_enter Tryz.func71, Tryz.ntmps71
    go_wp2_with fail
    go_ret
    exact ⟨2, rfl, ⟨fun h => by omega, fun h => by have := h.1; omega⟩, (Below.refl _ _).alloc (Nat.le_refl _) _⟩
  by_cases h0 : at_ < 0
  · have d0 : decide (at_ < 0) = true := by simpa using h0
    go_enter Tryz.func71, Tryz.ntmps71
    go_wp2_with fail
    go_ret
    exact ⟨1, rfl, ⟨fun h => by omega, fun h => by have := h.2.1; omega⟩, (Below.refl _ _).alloc (Nat.le_refl _) _⟩
  by_cases h1 : (n : Int) < at_
  · have d0 : decide (at_ < 0) = false := by simpa using h0
    go_enter Tryz.func71, Tryz.ntmps71
    go_wp2_with fail
    go_ret
    exact ⟨1, rfl, ⟨fun h => by omega, fun h => by have := h.2.2.1; omega⟩, (Below.refl _ _).alloc (Nat.le_refl _) _⟩
  have d0 : decide (at_ < 0) = false := by simpa using h0
  have d1 : decide ((n : Int) < at_) = false := by simpa using h1
  by_cases ha : anyOf (fun i => !fitsB (arg i).kind) n = true
  · have HA := Lib.hid ha
    clear ha
    go_enter Tryz.func71, Tryz.ntmps71
    go_wp2_with fail
    refine (HR.out _).mono ?_
    rintro e w1 ⟨rfl, hb1⟩
    rw [HA.out]
    go_wp2_with fail
    go_ret
    refine ⟨3, rfl, ⟨fun h => by omega, fun h => ?_⟩, ((Below.refl _ _).alloc (Nat.le_refl _) _).trans (hb1.mono (by simp))⟩
    obtain ⟨i, hi, hp⟩ := anyOf_true.1 HA.out
    rw [h.2.2.2 i hi] at hp
    cases hp
  · have HA := Lib.hid (show anyOf (fun i => !fitsB (arg i).kind) n = false by simpa using ha)
    clear ha
    go_enter Tryz.func71, Tryz.ntmps71
    go_wp2_with fail
    refine (HR.out _).mono ?_
    rintro e w1 ⟨rfl, hb1⟩
    rw [HA.out]
    go_wp2_with fail
    go_ret
    exact ⟨0, rfl, ⟨fun _ => ⟨by omega, by omega, by omega, fun i hi => by simpa using anyOf_false.1 HA.out i hi⟩, fun _ => rfl⟩, ((Below.refl _ _).alloc (Nat.le_refl _) _).trans (hb1.mono (by simp))⟩
end Go.Proofs.YtjjfglbcikaicaaGreat
namespace Go.Proofs.YtjjfglbcikaicaaGreat
open Go.RowKit
set_option linter.unusedVariables false
theorem says_many_le {l : LT} (h : l.val.many ≤ 4194304) : l.says.many ≤ 4194304 := by
  by_cases hk : l.kind = 2
  · rw [says_two hk]; simp [VT.many, sumTo]
  · rw [says_val hk]; exact h
theorem isL_grown {w w' : World} {S S' : Nat → Prop} {row : Option Nat} {l : LT} {cs : List Value} (h : l.isL w S cs) (hg : w.grownBy w' row) (hS : ∀ b, S b → b < w.heap.size → some b ≠ row ∧ S' b) : l.isL w' S' cs :=
  isL_frame hg.size (fun b hs hl => ⟨(hS b hs hl).2, hg.block b hl (hS b hs hl).1⟩) h
/-- letters without the one at a place -/
def cutA (arg : Nat → LT) (i : Nat) : Nat → LT := fun j => if j < i then arg j else arg (j + 1)
/-- what is asked from one place to another -/
def asks (arg : Nat → LT) (a b : Nat) : List VT := (List.range (b - a)).map (fun i => (arg (a + i)).says)
theorem asks_self (arg : Nat → LT) (a : Nat) : asks arg a a = [] := by simp [asks]
theorem asks_succ (arg : Nat → LT) {a b : Nat} (h : a ≤ b) : asks arg a (b + 1) = asks arg a b ++ [(arg b).says] := by
  unfold asks
  rw [show b + 1 - a = (b - a) + 1 by omega, List.range_succ, List.map_append]
  simp [show a + (b - a) = b by omega]
theorem asks_len (arg : Nat → LT) (a b : Nat) : (asks arg a b).length = b - a := by simp [asks]
/-- a function that is asked: what it answers, and what it changes -/
structure TakesOk (B fn : Nat) (cp : Array Value) (q : VT → Bool) (row : Option Nat) (I : List VT → World → Prop) : Prop where
  enters : Enters Tryz.prog fn
  low : ∀ k, row = some k → k < B
  keep : ∀ L W W', I L W → B ≤ W.heap.size → Below B W W' → I L W'
  call : ∀ L t cs S W, I L W → t.isV W S cs → t.many ≤ 4194304 → B ≤ W.heap.size → Calls Tryz.prog fn (#[.agg cs.toArray] ++ cp) W fun e W' => e = .returned (.bool (q t)) ∧ I (L ++ [t]) W' ∧ W.grownBy W' row
def zeroL : Value := .agg #[.int .i64 0, .int .i64 0, .int .i64 0, .int .i64 0, .string ⟨#[]⟩, .int .i64 0, .int .i64 0, .string ⟨#[]⟩, .slice none 0 0]
def TakeYes (n : Nat) (a : Nat) (arg : Nat → LT) (q : VT → Bool) (L : List VT) (row : Option Nat) (I : List VT → World → Prop) (w : World) (e : Ending) (w' : World) : Prop :=
  ∃ i, a ≤ i ∧ i < n ∧ (∀ j, a ≤ j → j < i → q (arg j).says = false) ∧ q (arg i).says = true ∧ ∃ A c xs, e = .returned (.tuple #[.agg #[.slice A (n - 1) c, .int .i64 0], .agg xs.toArray, .bool true, .int .i64 0]) ∧
    n - 1 ≤ c ∧ c ≤ 9223372036854775807 ∧ RdL w' (fun b => w.heap.size ≤ b) A (n - 1) (cutA arg i) ∧ (arg i).isL w' (fun b => w.heap.size ≤ b) xs ∧ I (L ++ asks arg a (i + 1)) w' ∧ w.grownBy w' row
def TakeNo (n : Nat) (a : Nat) (arg : Nat → LT) (q : VT → Bool) (L : List VT) (row : Option Nat) (I : List VT → World → Prop) (w : World) (e : Ending) (w' : World) : Prop :=
  (∀ j, a ≤ j → j < n → q (arg j).says = false) ∧ ∃ A c, e = .returned (.tuple #[.agg #[.slice A n c, .int .i64 (n : Int)], zeroL, .bool false, .int .i64 0]) ∧
    n ≤ c ∧ c ≤ 9223372036854775807 ∧ RdL w' (fun b => w.heap.size ≤ b) A n arg ∧ I (L ++ asks arg a n) w' ∧ w.grownBy w' row
def TakeErr (L : List VT) (row : Option Nat) (I : List VT → World → Prop) (w : World) (e : Ending) (w' : World) : Prop :=
  ∃ x : Int, x ≠ 0 ∧ e = .returned (.tuple #[.agg #[.slice none 0 0, .int .i64 0], zeroL, .bool false, .int .i64 x]) ∧ I L w' ∧ w.grownBy w' row
def TakePost (n : Nat) (at_ : Int) (arg : Nat → LT) (q : VT → Bool) (L : List VT) (row : Option Nat) (I : List VT → World → Prop) (w : World) (e : Ending) (w' : World) : Prop :=
  (¬ OkBox n at_ arg ∧ TakeErr L row I w e w') ∨ (OkBox n at_ arg ∧ (TakeYes n at_.toNat arg q L row I w e w' ∨ TakeNo n at_.toNat arg q L row I w e w'))
/-- the boxes of Take -/
structure KX (wx : World) (b : Nat) (v : Value) (at_ : Int) : Prop where
  c0 : wx.cell? ⟨b, 0, none⟩ = some v
  c1 : wx.cell? ⟨b, 1, none⟩ = some (.int .i64 at_)
  r0 : wx.cell? ⟨b + 1, 0, none⟩ = some (.slice none 0 0)
  r1 : wx.cell? ⟨b + 1, 1, none⟩ = some (.int .i64 0)
  rf : ∀ o, wx.frozen? ⟨b + 1, o, none⟩ = false
  y0 : wx.cell? ⟨b + 2, 0, none⟩ = some (.int .i64 0)
  y1 : wx.cell? ⟨b + 2, 1, none⟩ = some (.int .i64 0)
  y2 : wx.cell? ⟨b + 2, 2, none⟩ = some (.int .i64 0)
  y3 : wx.cell? ⟨b + 2, 3, none⟩ = some (.int .i64 0)
  y4 : wx.cell? ⟨b + 2, 4, none⟩ = some (.string ⟨#[]⟩)
  y5 : wx.cell? ⟨b + 2, 5, none⟩ = some (.int .i64 0)
  y6 : wx.cell? ⟨b + 2, 6, none⟩ = some (.int .i64 0)
  y7 : wx.cell? ⟨b + 2, 7, none⟩ = some (.string ⟨#[]⟩)
  y8 : wx.cell? ⟨b + 2, 8, none⟩ = some (.slice none 0 0)
  yf : ∀ o, wx.frozen? ⟨b + 2, o, none⟩ = false
  sz : b + 3 ≤ wx.heap.size
theorem KX.grown {wx wy : World} {b : Nat} {v : Value} {at_ : Int} {row : Option Nat} (h : KX wx b v at_) (hg : wx.grownBy wy row) (hr : ∀ k, row = some k → k < b ∨ b + 3 ≤ k) : KX wy b v at_ := by
  have hz := h.sz
  have k0 : ∀ j o, j < 3 → wy.cell? ⟨b + j, o, none⟩ = wx.cell? ⟨b + j, o, none⟩ := fun j o hj => grown_cell hg (by omega) (fun e => by have := hr _ e.symm; omega)
  have k1 : ∀ j o, j < 3 → wy.frozen? ⟨b + j, o, none⟩ = wx.frozen? ⟨b + j, o, none⟩ := fun j o hj => grown_frozen hg (by omega) (fun e => by have := hr _ e.symm; omega)
  exact ⟨(k0 0 0 (by omega)).trans h.c0, (k0 0 1 (by omega)).trans h.c1, (k0 1 0 (by omega)).trans h.r0, (k0 1 1 (by omega)).trans h.r1, fun o => (k1 1 o (by omega)).trans (h.rf o),
    (k0 2 0 (by omega)).trans h.y0, (k0 2 1 (by omega)).trans h.y1, (k0 2 2 (by omega)).trans h.y2, (k0 2 3 (by omega)).trans h.y3, (k0 2 4 (by omega)).trans h.y4, (k0 2 5 (by omega)).trans h.y5, (k0 2 6 (by omega)).trans h.y6, (k0 2 7 (by omega)).trans h.y7, (k0 2 8 (by omega)).trans h.y8, fun o => (k1 2 o (by omega)).trans (h.yf o), by have := hg.size; omega⟩
/-- a letter's cells in a row of the call's own -/
structure LRow (w : World) (base : Nat) (v : Value) (n : Nat) (C : Nat → List Value) (arg : Nat → LT) : Prop where
  row : w.ownsRow base 43 9 v n (flatC C n)
  len : ∀ i, (C i).length = 9
  each : ∀ i, i < n → (arg i).isL w (fun b => base ≤ b ∧ some b ≠ v.ownBlock) (C i)
theorem LRow.grown {w w' : World} {base n : Nat} {v : Value} {C : Nat → List Value} {arg : Nat → LT} {row : Option Nat} (h : LRow w base v n C arg) (hg : w.grownBy w' row) (hr : ∀ k, row = some k → k < base) : LRow w' base v n C arg :=
  ⟨own_grown h.row hg (fun k hk e => by have := hr k e; have := (h.row.lt k hk).1; omega), h.len, fun i hi => isL_grown (h.each i hi) hg (fun b hb _ => ⟨fun e => by have := hr b e.symm; omega, hb⟩)⟩
theorem LRow.rd {w : World} {base n c : Nat} {A : Option Addr} {C : Nat → List Value} {arg : Nat → LT} (h : LRow w base (.slice A n c) n C arg) : RdL w (fun b => base ≤ b) A n arg := fun h0 => by
  obtain ⟨g, cap, hv, hb, hlt, _⟩ := own_form h.row h0
  injection hv with e1 e2 e3
  subst e1 e3
  exact ⟨g, 0, rfl, hlt, hb, C, fun i hi => ⟨isL_frame (Nat.le_refl _) (fun b hs _ => ⟨hs.1, rfl⟩) (h.each i hi), fun j u hu => by
    have hj : j < 9 := by
      rcases Nat.lt_or_ge j 9 with hh | hh
      · exact hh
      · rw [List.getElem?_eq_none (by rw [h.len]; exact hh)] at hu; cases hu
    rw [Nat.zero_add, own_cellC h.row h.len hi hj]
    exact hu⟩⟩
/-- the cells from a place on -/
def restC (C : Nat → List Value) (n i : Nat) : List Value := flatC (fun k => C (i + 1 + k)) (n - (i + 1))
structure CutOk (wr : World) (g n c i : Nat) (C : Nat → List Value) (A : Addr) : Prop where
  len : (restC C n i).length = (n - (i + 1)) * 9
  one : ∀ u ∈ restC C n i, u.oneCell' = true
  src : ∀ t u, (restC C n i)[t]? = some u → wr.cell? (A.add t) = some u
  room : ∀ t, t < (restC C n i).length → (wr.cell? ⟨g, 0 + i * 9 + t, none⟩).isSome = true ∧ wr.frozen? ⟨g, 0 + i * 9 + t, none⟩ = false
theorem cut_ok {wr : World} {base g n c i : Nat} {C : Nat → List Value} {arg : Nat → LT} (h : LRow wr base (.slice (some ⟨g, 0, none⟩) n c) n C arg) (hi : i < n) :
    ∃ A : Addr, (if c = i + 1 then some (⟨g, 0, none⟩ : Addr) else some ⟨g, (i + 1) * 9, none⟩) = some A ∧ CutOk wr g n c i C A := by
  have hc := own_cap h.row
  have hl : (restC C n i).length = (n - (i + 1)) * 9 := flatC_length (fun k => h.len _) _
  have hcell : ∀ k, k < n → ∀ j, j < 9 → wr.cell? ⟨g, k * 9 + j, none⟩ = (C k)[j]? := fun k hk j hj => own_cellC h.row h.len hk hj
  have hone : ∀ u ∈ restC C n i, u.oneCell' = true := fun u hu => by
    obtain ⟨k, hk, hm⟩ := flatC_mem hu
    exact isL_one (h.each (i + 1 + k) (by omega)) u hm
  have hroom : ∀ t, t < (restC C n i).length → (wr.cell? ⟨g, 0 + i * 9 + t, none⟩).isSome = true ∧ wr.frozen? ⟨g, 0 + i * 9 + t, none⟩ = false := fun t ht => by
    rw [hl] at ht
    refine ⟨?_, h.row.frozenAt _⟩
    have e : 0 + i * 9 + t = (i + t / 9) * 9 + t % 9 := by omega
    rw [e, hcell _ (by omega) _ (by omega), List.getElem?_eq_getElem (by rw [h.len]; omega)]
    rfl
  by_cases e : c = i + 1
  · refine ⟨⟨g, 0, none⟩, by simp [e], hl, hone, fun t u hu => ?_, hroom⟩
    have h0 : (restC C n i).length = 0 := by rw [hl]; omega
    rw [List.length_eq_zero_iff.1 h0] at hu
    simp at hu
  · refine ⟨⟨g, (i + 1) * 9, none⟩, by simp [e], hl, hone, fun t u hu => ?_, hroom⟩
    have ht : t < (n - (i + 1)) * 9 := by
      rw [← hl]
      exact (List.getElem?_eq_some_iff.1 hu).1
    rw [Addr.add_lit]
    have e2 : (i + 1) * 9 + t = (i + 1 + t / 9) * 9 + t % 9 := by omega
    have e3 : t = (t / 9) * 9 + t % 9 := by omega
    rw [e2, hcell _ (by omega) _ (by omega)]
    rw [e3] at hu
    unfold restC at hu
    rw [flatC_get (fun k => h.len _) (by omega) (by omega)] at hu
    exact hu
/-- the row with the letter cut out -/
theorem cut_rd {wr wy : World} {base g n c i B : Nat} {C : Nat → List Value} {arg : Nat → LT} (h : LRow wr base (.slice (some ⟨g, 0, none⟩) n c) n C arg) (hi : i < n) (hB : B ≤ base) (hsz : wr.heap.size ≤ wy.heap.size)
    (hk : ∀ b, base ≤ b → b < wr.heap.size → wy.heap[b]? = (wr.setCells g (0 + i * 9) (restC C n i)).heap[b]?) : RdL wy (fun b => B ≤ b) (some ⟨g, 0, none⟩) (n - 1) (cutA arg i) := fun _ => by
  have hg := own_lt h.row
  have hl : (restC C n i).length = (n - (i + 1)) * 9 := flatC_length (fun k => h.len _) _
  have hrow := h.row
  rcases hrow.2 with ⟨h', _⟩ | ⟨g', cap', cur, hv, hb, hgr, hnc, hcm, hcs, ht⟩
  · cases h'
  injection hv with e1 e2 e3
  injection e1 with e1
  injection e1 with e1
  subst e1 e3
  have hxl := hrow.1
  have hnew := setCells_heap (w := wr) (vs := restC C n i) (o := 0 + i * 9) hgr (by rw [hl]; have := Nat.mul_le_mul_right 9 hnc; omega)
  have hy := (hk g hg.1 hg.2).trans hnew
  refine ⟨g, 0, rfl, by omega, by omega, fun j => if j < i then C j else C (j + 1), fun j hj => ⟨?_, fun t u hu => ?_⟩⟩
  · have hfr : ∀ k, (k < n) → (arg k).isL wy (fun b => B ≤ b) (C k) := fun k hk' => isL_frame hsz (fun b hs hlt => ⟨by omega, by
      rw [hk b hs.1 hlt]
      exact (grown_setCells wr g _ _).block b hlt (by simpa [Value.ownBlock] using hs.2)⟩) (h.each k hk')
    unfold cutA
    by_cases e : j < i
    · simp only [e, if_true]; exact hfr j (by omega)
    · simp only [e, if_false]; exact hfr (j + 1) (by omega)
  · have ht9 : t < 9 := by
      rcases Nat.lt_or_ge t 9 with hh | hh
      · exact hh
      · dsimp only at hu
        split at hu
        · rw [List.getElem?_eq_none (by rw [h.len]; exact hh)] at hu; cases hu
        · rw [List.getElem?_eq_none (by rw [h.len]; exact hh)] at hu; cases hu
    rw [Nat.zero_add, cell_of_row hy]
    have hn9 := Nat.mul_le_mul_right 9 hnc
    have htk : (cur.toList.take (0 + i * 9)).length = i * 9 := by rw [List.length_take, Array.length_toList]; omega
    rw [← Array.getElem?_toList]
    show (cur.toList.take (0 + i * 9) ++ restC C n i ++ cur.toList.drop (0 + i * 9 + (restC C n i).length))[j * 9 + t]? = some u
    by_cases e : j < i
    · simp only [e, if_true] at hu
      rw [List.append_assoc, List.getElem?_append_left (by rw [htk]; omega), List.getElem?_take_of_lt (by omega)]
      have h1 : (flatC C n)[j * 9 + t]? = (C j)[t]? := flatC_get h.len (by omega) ht9
      rw [← ht, List.getElem?_take_of_lt (by omega)] at h1
      rw [h1]; exact hu
    · simp only [e, if_false] at hu
      rw [List.append_assoc, List.getElem?_append_right (by rw [htk]; omega), htk, List.getElem?_append_left (by rw [hl]; omega)]
      have e2 : j * 9 + t - i * 9 = (j - i) * 9 + t := by omega
      rw [e2]
      unfold restC
      rw [flatC_get (fun k => h.len _) (by omega) ht9, show i + 1 + (j - i) = j + 1 by omega]
      exact hu
end Go.Proofs.YtjjfglbcikaicaaGreat
namespace Go.Proofs.YtjjfglbcikaicaaGreat
open Go.RowKit
set_option linter.unusedVariables false
theorem boxCheck_ok (n c : Nat) (A : Option Addr) (at_ : Int) (arg : Nat → LT) (S : Nat → Prop) (w : World) (hn : n ≤ 9223372036854775807) (hR : RdL w S A n arg) (ok : OkBox n at_ arg) :
    Calls Tryz.prog 71 #[.agg #[.slice A n c, .int .i64 at_]] w fun e w' => e = .returned (.int .i64 0) ∧ Below w.heap.size w w' :=
  (boxCheck_any n c A at_ arg S w hn hR).mono fun _ _ ⟨_, he, hx, hb⟩ => ⟨by rw [he, hx.2 ok], hb⟩
def ErrPost (w : World) (e : Ending) (w' : World) : Prop := ∃ x : Int, e = .returned (.int .i64 x) ∧ x ≠ 0 ∧ Below w.heap.size w w'
theorem boxCheck_bad (n c : Nat) (A : Option Addr) (at_ : Int) (arg : Nat → LT) (S : Nat → Prop) (w : World) (hn : n ≤ 9223372036854775807) (hR : RdL w S A n arg) (ok : ¬ OkBox n at_ arg) :
    Calls Tryz.prog 71 #[.agg #[.slice A n c, .int .i64 at_]] w (ErrPost w) :=
  (boxCheck_any n c A at_ arg S w hn hR).mono fun _ _ ⟨x, he, hx, hb⟩ => ⟨x, he, fun h => ok (hx.1 h), hb⟩
theorem keep_far {w : World} {b b' o o1 o2 : Nat} {u1 u2 v : Value} (h : b ≠ b') (hc : w.cell? ⟨b, o, none⟩ = some v) : ((w.setCell ⟨b', o1, none⟩ u1).setCell ⟨b', o2, none⟩ u2).cell? ⟨b, o, none⟩ = some v := by
  rw [World.cell?_of_block (a := ⟨b, o, none⟩) (Below.heap_setCell _ _ _ _ h), World.cell?_of_block (a := ⟨b, o, none⟩) (Below.heap_setCell _ _ _ _ h)]
  exact hc
def PutErr (P : Int → Prop) (w : World) (e : Ending) (w' : World) : Prop := ∃ x : Int, e = .returned (.tuple #[.agg #[.slice none 0 0, .int .i64 0], .int .i64 x]) ∧ P x ∧ Below w.heap.size w w'
set_option maxRecDepth 100000 in
set_option maxHeartbeats 4000000 in
theorem put_bad (n c : Nat) (A : Option Addr) (at_ : Int) (arg : Nat → LT) (S : Nat → Prop) (x : LT) (cs : List Value) (Sx : Nat → Prop) (w : World) (hnc : n ≤ c) (hcm : c ≤ 9223372036854775807) (hR : RdL w S A n arg) (hx : x.isL w Sx cs) (ok : ¬ OkBox n at_ arg) : Calls Tryz.prog 89 #[.agg #[.slice A n c, .int .i64 at_], .agg cs.toArray] w (PutErr (· ≠ 0) w) := by
  obtain ⟨k2, m2, s2, A2, n2, c2, rfl, hv⟩ := hx
  obtain ⟨k, f, t, num, s, val⟩ := x
  dsimp only at hv ⊢
  have HR := Lib.hid hR
  have OK := Lib.hid ok
  clear hR ok hv
  go_enter Tryz.func89, Tryz.ntmps89
  go_wp2_with fail
  refine (boxCheck_bad n c A at_ arg S _ (by omega) (HR.out.below ((((Below.refl w.heap.size w).alloc (Nat.le_refl _) _).alloc (by simp) _).alloc (by simp; omega) _)) OK.out).mono ?_
  rintro e w1 ⟨x, rfl, hx, hb1⟩
  have hx1 : (x != 0) = true := by simpa using hx
  have hx2 : (x == 0) = false := by simpa using hx
  have HX := Lib.hid hx
  have hz : w.heap.size + 3 ≤ w1.heap.size := by have := hb1.size; simp at this; omega
  have y0 : w1.cell? ⟨w.heap.size + 1 + 1, 0, none⟩ = some (.slice none 0 0) := (hb1.cell (p := ⟨_, _, none⟩) (by simp)).trans (by simp [go_sem])
  have y1 : w1.cell? ⟨w.heap.size + 1 + 1, 1, none⟩ = some (.int .i64 0) := (hb1.cell (p := ⟨_, _, none⟩) (by simp)).trans (by simp [go_sem])
  have fy : ∀ o, w1.frozen? ⟨w.heap.size + 1 + 1, o, none⟩ = false := fun o => (hb1.frozen (p := ⟨_, _, none⟩) (by simp)).trans (by simp [go_sem])
  have HB := Lib.hid (((((Below.refl w.heap.size w).alloc (Nat.le_refl _) _).alloc (by simp) _).alloc (by simp; omega) _).trans (hb1.mono (by simp; omega)))
  clear hx hb1
  go_wp2_with fail
  refine bodyPost_ret (v := .tuple #[.agg #[.slice none 0 0, .int .i64 0], .int .i64 x]) (by simp [results, Tryz.results89, go_sem, y0, y1]) rfl ⟨x, rfl, HX.out, ?_⟩
  exact (HB.out.setCell (p := ⟨w.heap.size + 1 + 1, 0, none⟩) (by show w.heap.size ≤ w.heap.size + 1 + 1; omega) _).setCell (p := ⟨w.heap.size + 1 + 1, 1, none⟩) (by show w.heap.size ≤ w.heap.size + 1 + 1; omega) _
set_option maxRecDepth 100000 in
set_option maxHeartbeats 4000000 in
theorem put_form (n c : Nat) (A : Option Addr) (at_ : Int) (arg : Nat → LT) (S : Nat → Prop) (x : LT) (cs : List Value) (Sx : Nat → Prop) (w : World) (hnc : n ≤ c) (hcm : c ≤ 9223372036854775807) (hR : RdL w S A n arg) (hx : x.isL w Sx cs) (ok : OkBox n at_ arg) (hf : fitsB x.kind = false) : Calls Tryz.prog 89 #[.agg #[.slice A n c, .int .i64 at_], .agg cs.toArray] w (PutErr (· = 3) w) := by
  obtain ⟨k2, m2, s2, A2, n2, c2, rfl, hv⟩ := hx
  obtain ⟨k, f, t, num, s, val⟩ := x
  dsimp only at hv hf ⊢
  have HR := Lib.hid hR
  have OK := Lib.hid ok
  have HVx := Lib.hid hv
  have h60 := ok.1
  clear hR ok hv
  go_enter Tryz.func89, Tryz.ntmps89
  go_wp2_with fail
  refine (boxCheck_ok n c A at_ arg S _ (by omega) (HR.out.below ((((Below.refl w.heap.size w).alloc (Nat.le_refl _) _).alloc (by simp) _).alloc (by simp; omega) _)) OK.out).mono ?_
  rintro e w1 ⟨rfl, hb1⟩
  have hz : w.heap.size + 3 ≤ w1.heap.size := by have := hb1.size; simp at this; omega
  have pa0 : w1.cell? ⟨w.heap.size, 0, none⟩ = some (.slice A n c) := (hb1.cell (p := ⟨_, _, none⟩) (by simp; omega)).trans (by simp [go_sem])
  have pa1 : w1.cell? ⟨w.heap.size, 1, none⟩ = some (.int .i64 at_) := (hb1.cell (p := ⟨_, _, none⟩) (by simp; omega)).trans (by simp [go_sem])
  have pb0 : w1.cell? ⟨w.heap.size + 1, 0, none⟩ = some (.int .i64 k) := (hb1.cell (p := ⟨_, _, none⟩) (by simp)).trans (by simp [go_sem])
  have pb1 : w1.cell? ⟨w.heap.size + 1, 1, none⟩ = some (.int .i64 f) := (hb1.cell (p := ⟨_, _, none⟩) (by simp)).trans (by simp [go_sem])
  have pb2 : w1.cell? ⟨w.heap.size + 1, 2, none⟩ = some (.int .i64 t) := (hb1.cell (p := ⟨_, _, none⟩) (by simp)).trans (by simp [go_sem])
  have pb3 : w1.cell? ⟨w.heap.size + 1, 3, none⟩ = some (.int .i64 num) := (hb1.cell (p := ⟨_, _, none⟩) (by simp)).trans (by simp [go_sem])
  have pb4 : w1.cell? ⟨w.heap.size + 1, 4, none⟩ = some (.string s) := (hb1.cell (p := ⟨_, _, none⟩) (by simp)).trans (by simp [go_sem])
  have pb5 : w1.cell? ⟨w.heap.size + 1, 5, none⟩ = some (.int .i64 k2) := (hb1.cell (p := ⟨_, _, none⟩) (by simp)).trans (by simp [go_sem])
  have pb6 : w1.cell? ⟨w.heap.size + 1, 6, none⟩ = some (.int .i64 m2) := (hb1.cell (p := ⟨_, _, none⟩) (by simp)).trans (by simp [go_sem])
  have pb7 : w1.cell? ⟨w.heap.size + 1, 7, none⟩ = some (.string s2) := (hb1.cell (p := ⟨_, _, none⟩) (by simp)).trans (by simp [go_sem])
  have pb8 : w1.cell? ⟨w.heap.size + 1, 8, none⟩ = some (.slice A2 n2 c2) := (hb1.cell (p := ⟨_, _, none⟩) (by simp)).trans (by simp [go_sem])
  have HB1 := Lib.hid (((((Below.refl w.heap.size w).alloc (Nat.le_refl _) _).alloc (by simp) _).alloc (by simp; omega) _).trans (hb1.mono (by simp; omega)))
  have py0 : w1.cell? ⟨w.heap.size + 1 + 1, 0, none⟩ = some (.slice none 0 0) := (hb1.cell (p := ⟨_, _, none⟩) (by simp)).trans (by simp [go_sem])
  have py1 : w1.cell? ⟨w.heap.size + 1 + 1, 1, none⟩ = some (.int .i64 0) := (hb1.cell (p := ⟨_, _, none⟩) (by simp)).trans (by simp [go_sem])
  have pf : ∀ o, w1.frozen? ⟨w.heap.size + 1 + 1, o, none⟩ = false := fun o => (hb1.frozen (p := ⟨_, _, none⟩) (by simp)).trans (by simp [go_sem])
  clear hb1
  go_wp2_with fail
  refine (fits_any _ _ _ _ _ _ _ _ _ _ _ _).mono ?_
  rintro e w2 ⟨rfl, hb2⟩
  have hz2 : w.heap.size + 3 ≤ w2.heap.size := by have := hb2.size; omega
  have qa0 : w2.cell? ⟨w.heap.size, 0, none⟩ = some (.slice A n c) := ((bcell hb2).1 _ _ (by omega)).trans pa0
  have qa1 : w2.cell? ⟨w.heap.size, 1, none⟩ = some (.int .i64 at_) := ((bcell hb2).1 _ _ (by omega)).trans pa1
  have qb0 : w2.cell? ⟨w.heap.size + 1, 0, none⟩ = some (.int .i64 k) := ((bcell hb2).1 _ _ (by omega)).trans pb0
  have qb1 : w2.cell? ⟨w.heap.size + 1, 1, none⟩ = some (.int .i64 f) := ((bcell hb2).1 _ _ (by omega)).trans pb1
  have qb2 : w2.cell? ⟨w.heap.size + 1, 2, none⟩ = some (.int .i64 t) := ((bcell hb2).1 _ _ (by omega)).trans pb2
  have qb3 : w2.cell? ⟨w.heap.size + 1, 3, none⟩ = some (.int .i64 num) := ((bcell hb2).1 _ _ (by omega)).trans pb3
  have qb4 : w2.cell? ⟨w.heap.size + 1, 4, none⟩ = some (.string s) := ((bcell hb2).1 _ _ (by omega)).trans pb4
  have qb5 : w2.cell? ⟨w.heap.size + 1, 5, none⟩ = some (.int .i64 k2) := ((bcell hb2).1 _ _ (by omega)).trans pb5
  have qb6 : w2.cell? ⟨w.heap.size + 1, 6, none⟩ = some (.int .i64 m2) := ((bcell hb2).1 _ _ (by omega)).trans pb6
  have qb7 : w2.cell? ⟨w.heap.size + 1, 7, none⟩ = some (.string s2) := ((bcell hb2).1 _ _ (by omega)).trans pb7
  have qb8 : w2.cell? ⟨w.heap.size + 1, 8, none⟩ = some (.slice A2 n2 c2) := ((bcell hb2).1 _ _ (by omega)).trans pb8
  have qy0 : w2.cell? ⟨w.heap.size + 1 + 1, 0, none⟩ = some (.slice none 0 0) := ((bcell hb2).1 _ _ (by omega)).trans py0
  have qy1 : w2.cell? ⟨w.heap.size + 1 + 1, 1, none⟩ = some (.int .i64 0) := ((bcell hb2).1 _ _ (by omega)).trans py1
  have qf : ∀ o, w2.frozen? ⟨w.heap.size + 1 + 1, o, none⟩ = false := fun o => ((bcell hb2).2 _ _ (by omega)).trans (pf o)
  have HB2 := Lib.hid (HB1.out.trans (hb2.mono (by omega)))
  clear hb2 pa0 pa1 pb0 pb1 pb2 pb3 pb4 pb5 pb6 pb7 pb8 py0 py1 pf
  go_wp2_with fail
  refine bodyPost_ret (v := .tuple #[.agg #[.slice none 0 0, .int .i64 0], .int .i64 3]) (by simp [results, Tryz.results89, go_sem, qy0, qy1]) rfl ⟨3, rfl, rfl, ?_⟩
  exact (HB2.out.setCell (p := ⟨w.heap.size + 1 + 1, 0, none⟩) (by show w.heap.size ≤ w.heap.size + 1 + 1; omega) _).setCell (p := ⟨w.heap.size + 1 + 1, 1, none⟩) (by show w.heap.size ≤ w.heap.size + 1 + 1; omega) _
set_option maxRecDepth 100000 in
set_option maxHeartbeats 4000000 in
theorem put_full (n c : Nat) (A : Option Addr) (at_ : Int) (arg : Nat → LT) (S : Nat → Prop) (x : LT) (cs : List Value) (Sx : Nat → Prop) (w : World) (hnc : n ≤ c) (hcm : c ≤ 9223372036854775807) (hR : RdL w S A n arg) (hx : x.isL w Sx cs) (ok : OkBox n at_ arg) (hf : fitsB x.kind = true) (h6 : n = 60) : Calls Tryz.prog 89 #[.agg #[.slice A n c, .int .i64 at_], .agg cs.toArray] w (PutErr (· = 6) w) := by
  obtain ⟨k2, m2, s2, A2, n2, c2, rfl, hv⟩ := hx
  obtain ⟨k, f, t, num, s, val⟩ := x
  dsimp only at hv hf ⊢
  have n6 : ((n : Int) == 60) = true := by simp; omega
  clear h6
  have HR := Lib.hid hR
  have OK := Lib.hid ok
  have HVx := Lib.hid hv
  have h60 := ok.1
  clear hR ok hv
  go_enter Tryz.func89, Tryz.ntmps89
  go_wp2_with fail
  refine (boxCheck_ok n c A at_ arg S _ (by omega) (HR.out.below ((((Below.refl w.heap.size w).alloc (Nat.le_refl _) _).alloc (by simp) _).alloc (by simp; omega) _)) OK.out).mono ?_
  rintro e w1 ⟨rfl, hb1⟩
  have hz : w.heap.size + 3 ≤ w1.heap.size := by have := hb1.size; simp at this; omega
  have pa0 : w1.cell? ⟨w.heap.size, 0, none⟩ = some (.slice A n c) := (hb1.cell (p := ⟨_, _, none⟩) (by simp; omega)).trans (by simp [go_sem])
  have pa1 : w1.cell? ⟨w.heap.size, 1, none⟩ = some (.int .i64 at_) := (hb1.cell (p := ⟨_, _, none⟩) (by simp; omega)).trans (by simp [go_sem])
  have pb0 : w1.cell? ⟨w.heap.size + 1, 0, none⟩ = some (.int .i64 k) := (hb1.cell (p := ⟨_, _, none⟩) (by simp)).trans (by simp [go_sem])
  have pb1 : w1.cell? ⟨w.heap.size + 1, 1, none⟩ = some (.int .i64 f) := (hb1.cell (p := ⟨_, _, none⟩) (by simp)).trans (by simp [go_sem])
  have pb2 : w1.cell? ⟨w.heap.size + 1, 2, none⟩ = some (.int .i64 t) := (hb1.cell (p := ⟨_, _, none⟩) (by simp)).trans (by simp [go_sem])
  have pb3 : w1.cell? ⟨w.heap.size + 1, 3, none⟩ = some (.int .i64 num) := (hb1.cell (p := ⟨_, _, none⟩) (by simp)).trans (by simp [go_sem])
  have pb4 : w1.cell? ⟨w.heap.size + 1, 4, none⟩ = some (.string s) := (hb1.cell (p := ⟨_, _, none⟩) (by simp)).trans (by simp [go_sem])
  have pb5 : w1.cell? ⟨w.heap.size + 1, 5, none⟩ = some (.int .i64 k2) := (hb1.cell (p := ⟨_, _, none⟩) (by simp)).trans (by simp [go_sem])
  have pb6 : w1.cell? ⟨w.heap.size + 1, 6, none⟩ = some (.int .i64 m2) := (hb1.cell (p := ⟨_, _, none⟩) (by simp)).trans (by simp [go_sem])
  have pb7 : w1.cell? ⟨w.heap.size + 1, 7, none⟩ = some (.string s2) := (hb1.cell (p := ⟨_, _, none⟩) (by simp)).trans (by simp [go_sem])
  have pb8 : w1.cell? ⟨w.heap.size + 1, 8, none⟩ = some (.slice A2 n2 c2) := (hb1.cell (p := ⟨_, _, none⟩) (by simp)).trans (by simp [go_sem])
  have HB1 := Lib.hid (((((Below.refl w.heap.size w).alloc (Nat.le_refl _) _).alloc (by simp) _).alloc (by simp; omega) _).trans (hb1.mono (by simp; omega)))
  have py0 : w1.cell? ⟨w.heap.size + 1 + 1, 0, none⟩ = some (.slice none 0 0) := (hb1.cell (p := ⟨_, _, none⟩) (by simp)).trans (by simp [go_sem])
  have py1 : w1.cell? ⟨w.heap.size + 1 + 1, 1, none⟩ = some (.int .i64 0) := (hb1.cell (p := ⟨_, _, none⟩) (by simp)).trans (by simp [go_sem])
  have pf : ∀ o, w1.frozen? ⟨w.heap.size + 1 + 1, o, none⟩ = false := fun o => (hb1.frozen (p := ⟨_, _, none⟩) (by simp)).trans (by simp [go_sem])
  clear hb1
  go_wp2_with fail
  refine (fits_any _ _ _ _ _ _ _ _ _ _ _ _).mono ?_
  rintro e w2 ⟨rfl, hb2⟩
  have hz2 : w.heap.size + 3 ≤ w2.heap.size := by have := hb2.size; omega
  have qa0 : w2.cell? ⟨w.heap.size, 0, none⟩ = some (.slice A n c) := ((bcell hb2).1 _ _ (by omega)).trans pa0
  have qa1 : w2.cell? ⟨w.heap.size, 1, none⟩ = some (.int .i64 at_) := ((bcell hb2).1 _ _ (by omega)).trans pa1
  have qb0 : w2.cell? ⟨w.heap.size + 1, 0, none⟩ = some (.int .i64 k) := ((bcell hb2).1 _ _ (by omega)).trans pb0
  have qb1 : w2.cell? ⟨w.heap.size + 1, 1, none⟩ = some (.int .i64 f) := ((bcell hb2).1 _ _ (by omega)).trans pb1
  have qb2 : w2.cell? ⟨w.heap.size + 1, 2, none⟩ = some (.int .i64 t) := ((bcell hb2).1 _ _ (by omega)).trans pb2
  have qb3 : w2.cell? ⟨w.heap.size + 1, 3, none⟩ = some (.int .i64 num) := ((bcell hb2).1 _ _ (by omega)).trans pb3
  have qb4 : w2.cell? ⟨w.heap.size + 1, 4, none⟩ = some (.string s) := ((bcell hb2).1 _ _ (by omega)).trans pb4
  have qb5 : w2.cell? ⟨w.heap.size + 1, 5, none⟩ = some (.int .i64 k2) := ((bcell hb2).1 _ _ (by omega)).trans pb5
  have qb6 : w2.cell? ⟨w.heap.size + 1, 6, none⟩ = some (.int .i64 m2) := ((bcell hb2).1 _ _ (by omega)).trans pb6
  have qb7 : w2.cell? ⟨w.heap.size + 1, 7, none⟩ = some (.string s2) := ((bcell hb2).1 _ _ (by omega)).trans pb7
  have qb8 : w2.cell? ⟨w.heap.size + 1, 8, none⟩ = some (.slice A2 n2 c2) := ((bcell hb2).1 _ _ (by omega)).trans pb8
  have qy0 : w2.cell? ⟨w.heap.size + 1 + 1, 0, none⟩ = some (.slice none 0 0) := ((bcell hb2).1 _ _ (by omega)).trans py0
  have qy1 : w2.cell? ⟨w.heap.size + 1 + 1, 1, none⟩ = some (.int .i64 0) := ((bcell hb2).1 _ _ (by omega)).trans py1
  have qf : ∀ o, w2.frozen? ⟨w.heap.size + 1 + 1, o, none⟩ = false := fun o => ((bcell hb2).2 _ _ (by omega)).trans (pf o)
  have HB2 := Lib.hid (HB1.out.trans (hb2.mono (by omega)))
  clear hb2 pa0 pa1 pb0 pb1 pb2 pb3 pb4 pb5 pb6 pb7 pb8 py0 py1 pf
  go_wp2_with fail
  refine bodyPost_ret (v := .tuple #[.agg #[.slice none 0 0, .int .i64 0], .int .i64 6]) (by simp [results, Tryz.results89, go_sem, qy0, qy1]) rfl ⟨6, rfl, rfl, ?_⟩
  exact (HB2.out.setCell (p := ⟨w.heap.size + 1 + 1, 0, none⟩) (by show w.heap.size ≤ w.heap.size + 1 + 1; omega) _).setCell (p := ⟨w.heap.size + 1 + 1, 1, none⟩) (by show w.heap.size ≤ w.heap.size + 1 + 1; omega) _
def PutPost (n : Nat) (at_ : Int) (arg : Nat → LT) (x : LT) (w : World) (e : Ending) (w' : World) : Prop :=
  ∃ A' c', e = .returned (.tuple #[.agg #[.slice A' (n + 1) c', .int .i64 at_], .int .i64 0]) ∧ n + 1 ≤ c' ∧ c' ≤ 9223372036854775807 ∧ RdL w' (fun b => w.heap.size ≤ b) A' (n + 1) (fun i => if i = n then x else arg i) ∧ Below w.heap.size w w'
theorem put_final {w w2 w3 w4 w5 : World} {n g cap : Nat} {at_ : Int} {arg : Nat → LT} {x : LT} {v3 : Value} {C3 : Nat → List Value} {cs : List Value} {o : Obj}
    (ho : w5.ownsRow w2.heap.size 43 9 (.slice (some ⟨g, 0, none⟩) (n + 1) cap) (n + 1) (flatC (updC C3 n cs) (n + 1))) (hl : ∀ i, (C3 i).length = 9)
    (hv : ∀ i, i < n → (arg i).isL w3 (fun b => w2.heap.size ≤ b ∧ some b ≠ v3.ownBlock) (C3 i)) (hb4 : Below w3.heap.size w3 w4) (hx : x.isL w4 (fun b => w3.heap.size ≤ b) cs)
    (hg : (w4.alloc o).grownBy w5 v3.ownBlock) (ha : v3.ownBlock = some g ∨ g = w4.heap.size + 1) (hown : ∀ k, v3.ownBlock = some k → w2.heap.size ≤ k ∧ k < w3.heap.size) (hz2 : w.heap.size + 3 ≤ w2.heap.size) (hz3 : w2.heap.size ≤ w3.heap.size) (hB : Below w.heap.size w w5) :
    PutPost n at_ arg x w (.returned (.tuple #[.agg #[.slice (some ⟨g, 0, none⟩) (n + 1) cap, .int .i64 at_], .int .i64 0])) ((w5.setCell ⟨w.heap.size + 1 + 1, 0, none⟩ (.slice (some ⟨g, 0, none⟩) (n + 1) cap)).setCell ⟨w.heap.size + 1 + 1, 1, none⟩ (.int .i64 at_)) := by
  obtain ⟨g', cap', hv', hbg, hlg, hnc, hcm⟩ := own_form ho (by omega)
  injection hv' with e1 e2 e3
  simp at e1
  subst e1 e3
  have hsz4 := hb4.size
  have hsz5 := hg.size
  simp at hsz5
  have hset : ∀ b, b ≠ w.heap.size + 1 + 1 → ((w5.setCell ⟨w.heap.size + 1 + 1, 0, none⟩ (.slice (some ⟨g, 0, none⟩) (n + 1) cap)).setCell ⟨w.heap.size + 1 + 1, 1, none⟩ (.int .i64 at_)).heap[b]? = w5.heap[b]? := fun b hb => by
    rw [Below.heap_setCell _ _ _ _ hb, Below.heap_setCell _ _ _ _ hb]
  refine ⟨some ⟨g, 0, none⟩, cap, rfl, hnc, hcm, fun _ => ⟨g, 0, rfl, by simpa using hlg, by omega, updC C3 n cs, fun i hi => ⟨?_, fun j u hu => ?_⟩⟩, (hB.setCell (p := ⟨w.heap.size + 1 + 1, 0, none⟩) (by show w.heap.size ≤ w.heap.size + 1 + 1; omega) _).setCell (p := ⟨w.heap.size + 1 + 1, 1, none⟩) (by show w.heap.size ≤ w.heap.size + 1 + 1; omega) _⟩
  · by_cases e : i = n
    · simp only [e, updC, if_true]
      refine isL_frame (by simp; omega) (fun b hs hlt => ?_) hx
      have hne : some b ≠ v3.ownBlock := fun hh => by have := hown b hh.symm; omega
      exact ⟨by omega, by rw [hset b (by omega), hg.block b (by simp; omega) hne, Below.heap_alloc w4 o b hlt]⟩
    · simp only [e, updC, if_false]
      refine isL_frame (by simp; omega) (fun b hs hlt => ?_) (hv i (by omega))
      exact ⟨by omega, by rw [hset b (by omega), hg.block b (by simp; omega) hs.2, Below.heap_alloc w4 o b (by omega), hb4.block b hlt]⟩
  · have hl' : ∀ i, (updC C3 n cs i).length = 9 := fun i => by
      unfold updC
      split
      · exact isL_len hx
      · exact hl i
    have hj : j < 9 := by
      rcases Nat.lt_or_ge j 9 with h | h
      · exact h
      · rw [List.getElem?_eq_none (by rw [hl']; exact h)] at hu; cases hu
    have h2 : (i + 1) * 9 ≤ (n + 1) * 9 := Nat.mul_le_mul_right _ (by omega)
    rw [Nat.zero_add, World.cell?_of_block (a := ⟨g, _, none⟩) (hset g (by omega)), ho.cellAt _ (by omega), flatC_get hl' hi hj]
    exact hu
set_option maxRecDepth 100000 in
set_option maxHeartbeats 4000000 in
theorem put_ok (n c : Nat) (A : Option Addr) (at_ : Int) (arg : Nat → LT) (S : Nat → Prop) (x : LT) (cs : List Value) (Sx : Nat → Prop) (w : World) (hnc : n ≤ c) (hcm : c ≤ 9223372036854775807) (hR : RdL w S A n arg) (hx : x.isL w Sx cs) (ok : OkBox n at_ arg) (hf : fitsB x.kind = true) (h6 : n < 60) (hma : ∀ i, i < n → (arg i).val.many ≤ 4194304) (hmx : x.val.many ≤ 4194304) : Calls Tryz.prog 89 #[.agg #[.slice A n c, .int .i64 at_], .agg cs.toArray] w (PutPost n at_ arg x w) := by
  obtain ⟨k2, m2, s2, A2, n2, c2, rfl, hv⟩ := hx
  obtain ⟨k, f, t, num, s, val⟩ := x
  dsimp only at hv hf hmx ⊢
  obtain ⟨i0, hi, jz0, jz1, jz2⟩ := info_parts infoL
  have HMA := Lib.hid hma
  have n6 : ((n : Int) == 60) = false := by simp; omega
  clear hma
  have HR := Lib.hid hR
  have OK := Lib.hid ok
  have HVx := Lib.hid hv
  have h60 := ok.1
  clear hR ok hv
  go_enter Tryz.func89, Tryz.ntmps89
  go_wp2_with fail
  refine (boxCheck_ok n c A at_ arg S _ (by omega) (HR.out.below ((((Below.refl w.heap.size w).alloc (Nat.le_refl _) _).alloc (by simp) _).alloc (by simp; omega) _)) OK.out).mono ?_
  rintro e w1 ⟨rfl, hb1⟩
  have hz : w.heap.size + 3 ≤ w1.heap.size := by have := hb1.size; simp at this; omega
  have pa0 : w1.cell? ⟨w.heap.size, 0, none⟩ = some (.slice A n c) := (hb1.cell (p := ⟨_, _, none⟩) (by simp; omega)).trans (by simp [go_sem])
  have pa1 : w1.cell? ⟨w.heap.size, 1, none⟩ = some (.int .i64 at_) := (hb1.cell (p := ⟨_, _, none⟩) (by simp; omega)).trans (by simp [go_sem])
  have pb0 : w1.cell? ⟨w.heap.size + 1, 0, none⟩ = some (.int .i64 k) := (hb1.cell (p := ⟨_, _, none⟩) (by simp)).trans (by simp [go_sem])
  have pb1 : w1.cell? ⟨w.heap.size + 1, 1, none⟩ = some (.int .i64 f) := (hb1.cell (p := ⟨_, _, none⟩) (by simp)).trans (by simp [go_sem])
  have pb2 : w1.cell? ⟨w.heap.size + 1, 2, none⟩ = some (.int .i64 t) := (hb1.cell (p := ⟨_, _, none⟩) (by simp)).trans (by simp [go_sem])
  have pb3 : w1.cell? ⟨w.heap.size + 1, 3, none⟩ = some (.int .i64 num) := (hb1.cell (p := ⟨_, _, none⟩) (by simp)).trans (by simp [go_sem])
  have pb4 : w1.cell? ⟨w.heap.size + 1, 4, none⟩ = some (.string s) := (hb1.cell (p := ⟨_, _, none⟩) (by simp)).trans (by simp [go_sem])
  have pb5 : w1.cell? ⟨w.heap.size + 1, 5, none⟩ = some (.int .i64 k2) := (hb1.cell (p := ⟨_, _, none⟩) (by simp)).trans (by simp [go_sem])
  have pb6 : w1.cell? ⟨w.heap.size + 1, 6, none⟩ = some (.int .i64 m2) := (hb1.cell (p := ⟨_, _, none⟩) (by simp)).trans (by simp [go_sem])
  have pb7 : w1.cell? ⟨w.heap.size + 1, 7, none⟩ = some (.string s2) := (hb1.cell (p := ⟨_, _, none⟩) (by simp)).trans (by simp [go_sem])
  have pb8 : w1.cell? ⟨w.heap.size + 1, 8, none⟩ = some (.slice A2 n2 c2) := (hb1.cell (p := ⟨_, _, none⟩) (by simp)).trans (by simp [go_sem])
  have HB1 := Lib.hid (((((Below.refl w.heap.size w).alloc (Nat.le_refl _) _).alloc (by simp) _).alloc (by simp; omega) _).trans (hb1.mono (by simp; omega)))
  have py0 : w1.cell? ⟨w.heap.size + 1 + 1, 0, none⟩ = some (.slice none 0 0) := (hb1.cell (p := ⟨_, _, none⟩) (by simp)).trans (by simp [go_sem])
  have py1 : w1.cell? ⟨w.heap.size + 1 + 1, 1, none⟩ = some (.int .i64 0) := (hb1.cell (p := ⟨_, _, none⟩) (by simp)).trans (by simp [go_sem])
  have pf : ∀ o, w1.frozen? ⟨w.heap.size + 1 + 1, o, none⟩ = false := fun o => (hb1.frozen (p := ⟨_, _, none⟩) (by simp)).trans (by simp [go_sem])
  clear hb1
  go_wp2_with fail
  refine (fits_any _ _ _ _ _ _ _ _ _ _ _ _).mono ?_
  rintro e w2 ⟨rfl, hb2⟩
  have hz2 : w.heap.size + 3 ≤ w2.heap.size := by have := hb2.size; omega
  have qa0 : w2.cell? ⟨w.heap.size, 0, none⟩ = some (.slice A n c) := ((bcell hb2).1 _ _ (by omega)).trans pa0
  have qa1 : w2.cell? ⟨w.heap.size, 1, none⟩ = some (.int .i64 at_) := ((bcell hb2).1 _ _ (by omega)).trans pa1
  have qb0 : w2.cell? ⟨w.heap.size + 1, 0, none⟩ = some (.int .i64 k) := ((bcell hb2).1 _ _ (by omega)).trans pb0
  have qb1 : w2.cell? ⟨w.heap.size + 1, 1, none⟩ = some (.int .i64 f) := ((bcell hb2).1 _ _ (by omega)).trans pb1
  have qb2 : w2.cell? ⟨w.heap.size + 1, 2, none⟩ = some (.int .i64 t) := ((bcell hb2).1 _ _ (by omega)).trans pb2
  have qb3 : w2.cell? ⟨w.heap.size + 1, 3, none⟩ = some (.int .i64 num) := ((bcell hb2).1 _ _ (by omega)).trans pb3
  have qb4 : w2.cell? ⟨w.heap.size + 1, 4, none⟩ = some (.string s) := ((bcell hb2).1 _ _ (by omega)).trans pb4
  have qb5 : w2.cell? ⟨w.heap.size + 1, 5, none⟩ = some (.int .i64 k2) := ((bcell hb2).1 _ _ (by omega)).trans pb5
  have qb6 : w2.cell? ⟨w.heap.size + 1, 6, none⟩ = some (.int .i64 m2) := ((bcell hb2).1 _ _ (by omega)).trans pb6
  have qb7 : w2.cell? ⟨w.heap.size + 1, 7, none⟩ = some (.string s2) := ((bcell hb2).1 _ _ (by omega)).trans pb7
  have qb8 : w2.cell? ⟨w.heap.size + 1, 8, none⟩ = some (.slice A2 n2 c2) := ((bcell hb2).1 _ _ (by omega)).trans pb8
  have qy0 : w2.cell? ⟨w.heap.size + 1 + 1, 0, none⟩ = some (.slice none 0 0) := ((bcell hb2).1 _ _ (by omega)).trans py0
  have qy1 : w2.cell? ⟨w.heap.size + 1 + 1, 1, none⟩ = some (.int .i64 0) := ((bcell hb2).1 _ _ (by omega)).trans py1
  have qf : ∀ o, w2.frozen? ⟨w.heap.size + 1 + 1, o, none⟩ = false := fun o => ((bcell hb2).2 _ _ (by omega)).trans (pf o)
  have HB2 := Lib.hid (HB1.out.trans (hb2.mono (by omega)))
  clear hb2 pa0 pa1 pb0 pb1 pb2 pb3 pb4 pb5 pb6 pb7 pb8 py0 py1 pf
  go_wp2_with fail
  go_region_held3 (fun w' => w'.cell? ⟨w.heap.size, 0, none⟩ = some (.slice A n c) ∧ w'.cell? ⟨w.heap.size, 1, none⟩ = some (.int .i64 at_) ∧ w'.cell? ⟨w.heap.size + 1, 0, none⟩ = some (.int .i64 k) ∧ w'.cell? ⟨w.heap.size + 1, 1, none⟩ = some (.int .i64 f) ∧ w'.cell? ⟨w.heap.size + 1, 2, none⟩ = some (.int .i64 t) ∧ w'.cell? ⟨w.heap.size + 1, 3, none⟩ = some (.int .i64 num) ∧ w'.cell? ⟨w.heap.size + 1, 4, none⟩ = some (.string s) ∧ w'.cell? ⟨w.heap.size + 1, 5, none⟩ = some (.int .i64 k2) ∧ w'.cell? ⟨w.heap.size + 1, 6, none⟩ = some (.int .i64 m2) ∧ w'.cell? ⟨w.heap.size + 1, 7, none⟩ = some (.string s2) ∧ w'.cell? ⟨w.heap.size + 1, 8, none⟩ = some (.slice A2 n2 c2))
    (first | exact ⟨qa0, qa1, qb0, qb1, qb2, qb3, qb4, qb5, qb6, qb7, qb8⟩ | exact ⟨ua0, ua1, ub0, ub1, ub2, ub3, ub4, ub5, ub6, ub7, ub8⟩ | exact ⟨va0, va1, vb0, vb1, vb2, vb3, vb4, vb5, vb6, vb7, vb8⟩ | exact ⟨xa0, xa1, xb0, xb1, xb2, xb3, xb4, xb5, xb6, xb7, xb8⟩ | exact ⟨keep_far (by omega) xa0, keep_far (by omega) xa1, keep_far (by omega) xb0, keep_far (by omega) xb1, keep_far (by omega) xb2, keep_far (by omega) xb3, keep_far (by omega) xb4, keep_far (by omega) xb5, keep_far (by omega) xb6, keep_far (by omega) xb7, keep_far (by omega) xb8⟩ | go_keep)
    (first
      | (go_at_call 55; refine (leach_any n c A arg S _ (by omega) (HR.out.below (HB2.out.drew)) HMA.out).mono ?_; rintro e w3 ⟨v3, C3, rfl, hown3, hCl3, hCv3, hb3⟩; have FC3 := Lib.hid (fun b o (h : b < w2.heap.size) => (bcell hb3).1 b o h); have FF3 := Lib.hid (fun b o (h : b < w2.heap.size) => (bcell hb3).2 b o h); have HB3 := Lib.hid (HB2.out.drew.trans (hb3.mono (show w.heap.size ≤ w2.heap.size by omega))); have hz3 : w2.heap.size ≤ w3.heap.size := hb3.size; have HO3 := Lib.hid hown3; have HCL3 := Lib.hid hCl3; have HCV3 := Lib.hid hCv3; have ua0 : w3.cell? ⟨w.heap.size, 0, none⟩ = some (.slice A n c) := (FC3.out _ _ (by omega)).trans qa0; have ua1 : w3.cell? ⟨w.heap.size, 1, none⟩ = some (.int .i64 at_) := (FC3.out _ _ (by omega)).trans qa1; have ub0 : w3.cell? ⟨w.heap.size + 1, 0, none⟩ = some (.int .i64 k) := (FC3.out _ _ (by omega)).trans qb0; have ub1 : w3.cell? ⟨w.heap.size + 1, 1, none⟩ = some (.int .i64 f) := (FC3.out _ _ (by omega)).trans qb1; have ub2 : w3.cell? ⟨w.heap.size + 1, 2, none⟩ = some (.int .i64 t) := (FC3.out _ _ (by omega)).trans qb2; have ub3 : w3.cell? ⟨w.heap.size + 1, 3, none⟩ = some (.int .i64 num) := (FC3.out _ _ (by omega)).trans qb3; have ub4 : w3.cell? ⟨w.heap.size + 1, 4, none⟩ = some (.string s) := (FC3.out _ _ (by omega)).trans qb4; have ub5 : w3.cell? ⟨w.heap.size + 1, 5, none⟩ = some (.int .i64 k2) := (FC3.out _ _ (by omega)).trans qb5; have ub6 : w3.cell? ⟨w.heap.size + 1, 6, none⟩ = some (.int .i64 m2) := (FC3.out _ _ (by omega)).trans qb6; have ub7 : w3.cell? ⟨w.heap.size + 1, 7, none⟩ = some (.string s2) := (FC3.out _ _ (by omega)).trans qb7; have ub8 : w3.cell? ⟨w.heap.size + 1, 8, none⟩ = some (.slice A2 n2 c2) := (FC3.out _ _ (by omega)).trans qb8; have uy0 : w3.cell? ⟨w.heap.size + 1 + 1, 0, none⟩ = some (.slice none 0 0) := (FC3.out _ _ (by omega)).trans qy0; have uy1 : w3.cell? ⟨w.heap.size + 1 + 1, 1, none⟩ = some (.int .i64 0) := (FC3.out _ _ (by omega)).trans qy1; have uf : ∀ o, w3.frozen? ⟨w.heap.size + 1 + 1, o, none⟩ = false := fun o => (FF3.out _ _ (by omega)).trans (qf o); clear hown3 hCl3 hCv3 hb3)
      | (go_at_call 56; refine (lcopy_any ⟨k, f, t, num, s, val⟩ _ Sx _ ⟨k2, m2, s2, A2, n2, c2, rfl, isV_below HVx.out HB3.out⟩ hmx).mono ?_; rintro e w4 ⟨cs4, rfl, hL4, hb4⟩; have hL4' := hL4; obtain ⟨k3, m3, s3, A3, n3, c3, rfl, _⟩ := hL4'; dsimp only at hL4 ⊢; have FC4 := Lib.hid (fun b o (h : b < w2.heap.size) => ((bcell hb4).1 b o (by omega)).trans (FC3.out b o h)); have FF4 := Lib.hid (fun b o (h : b < w2.heap.size) => ((bcell hb4).2 b o (by omega)).trans (FF3.out b o h)); have HB4 := Lib.hid (HB3.out.trans (hb4.mono (show w.heap.size ≤ w3.heap.size by omega))); have hz4 : w3.heap.size ≤ w4.heap.size := hb4.size; have HO4 := Lib.hid (own_below HO3.out hb4); have HL4 := Lib.hid hL4; have HB34 := Lib.hid hb4; have va0 : w4.cell? ⟨w.heap.size, 0, none⟩ = some (.slice A n c) := (FC4.out _ _ (by omega)).trans qa0; have va1 : w4.cell? ⟨w.heap.size, 1, none⟩ = some (.int .i64 at_) := (FC4.out _ _ (by omega)).trans qa1; have vb0 : w4.cell? ⟨w.heap.size + 1, 0, none⟩ = some (.int .i64 k) := (FC4.out _ _ (by omega)).trans qb0; have vb1 : w4.cell? ⟨w.heap.size + 1, 1, none⟩ = some (.int .i64 f) := (FC4.out _ _ (by omega)).trans qb1; have vb2 : w4.cell? ⟨w.heap.size + 1, 2, none⟩ = some (.int .i64 t) := (FC4.out _ _ (by omega)).trans qb2; have vb3 : w4.cell? ⟨w.heap.size + 1, 3, none⟩ = some (.int .i64 num) := (FC4.out _ _ (by omega)).trans qb3; have vb4 : w4.cell? ⟨w.heap.size + 1, 4, none⟩ = some (.string s) := (FC4.out _ _ (by omega)).trans qb4; have vb5 : w4.cell? ⟨w.heap.size + 1, 5, none⟩ = some (.int .i64 k2) := (FC4.out _ _ (by omega)).trans qb5; have vb6 : w4.cell? ⟨w.heap.size + 1, 6, none⟩ = some (.int .i64 m2) := (FC4.out _ _ (by omega)).trans qb6; have vb7 : w4.cell? ⟨w.heap.size + 1, 7, none⟩ = some (.string s2) := (FC4.out _ _ (by omega)).trans qb7; have vb8 : w4.cell? ⟨w.heap.size + 1, 8, none⟩ = some (.slice A2 n2 c2) := (FC4.out _ _ (by omega)).trans qb8; have vy0 : w4.cell? ⟨w.heap.size + 1 + 1, 0, none⟩ = some (.slice none 0 0) := (FC4.out _ _ (by omega)).trans qy0; have vy1 : w4.cell? ⟨w.heap.size + 1 + 1, 1, none⟩ = some (.int .i64 0) := (FC4.out _ _ (by omega)).trans qy1; have vf : ∀ o, w4.frozen? ⟨w.heap.size + 1 + 1, o, none⟩ = false := fun o => (FF4.out _ _ (by omega)).trans (qf o); clear hL4 hb4)
      | (refine step_append_lies _ (by rfl) _ _ _ (by rfl) w2.heap.size 43 i0 _ 9 104 Tryz.underlying45 hi jz0 jz1 jz2 rfl (by omega) v3 n (flatC C3 n) (by rfl) (HO4.out.alloc _) ⟨w4.heap.size, 0, none⟩ 1 1 [.int .i64 k, .int .i64 f, .int .i64 t, .int .i64 num, .string s, .int .i64 k3, .int .i64 m3, .string s3, .slice A3 n3 c3] (by rfl) (by rfl) (cell_nine_new _ _ _ _ _ _ _ _ _ _ _) (isL_one HL4.out) (by omega) (by unfold maxLen; omega) (by omega) (by simp; omega) (w4.heap.size + 1) (by simp) ?_; intro g cap w5 hown5 hgrow5 hat5 hlt5; have hne5 : ∀ b, b < w2.heap.size → some b ≠ v3.ownBlock := (fun b hb hh => by have := (HO4.out.lt b hh.symm).1; have e : w2.drew.heap.size = w2.heap.size := rfl; omega); have FC5 := Lib.hid (fun b o (h : b < w2.heap.size) => ((hgrow5.cell_far ⟨b, o, none⟩ (by simp; omega) (hne5 b h)).trans (World.cell?_alloc_lt _ _ _ (by show b < w4.heap.size; omega))).trans (FC4.out b o h)); have FF5 := Lib.hid (fun b o (h : b < w2.heap.size) => ((hgrow5.frozen_far ⟨b, o, none⟩ (by simp; omega) (hne5 b h)).trans (World.frozen?_alloc_old _ _ _ (by show b ≠ w4.heap.size; omega))).trans (FF4.out b o h)); rw [flatC_snoc] at hown5; have HO5 := Lib.hid hown5; have HG5 := Lib.hid hgrow5; have HA5 := Lib.hid hat5; have xa0 : w5.cell? ⟨w.heap.size, 0, none⟩ = some (.slice A n c) := (FC5.out _ _ (by omega)).trans qa0; have xa1 : w5.cell? ⟨w.heap.size, 1, none⟩ = some (.int .i64 at_) := (FC5.out _ _ (by omega)).trans qa1; have xb0 : w5.cell? ⟨w.heap.size + 1, 0, none⟩ = some (.int .i64 k) := (FC5.out _ _ (by omega)).trans qb0; have xb1 : w5.cell? ⟨w.heap.size + 1, 1, none⟩ = some (.int .i64 f) := (FC5.out _ _ (by omega)).trans qb1; have xb2 : w5.cell? ⟨w.heap.size + 1, 2, none⟩ = some (.int .i64 t) := (FC5.out _ _ (by omega)).trans qb2; have xb3 : w5.cell? ⟨w.heap.size + 1, 3, none⟩ = some (.int .i64 num) := (FC5.out _ _ (by omega)).trans qb3; have xb4 : w5.cell? ⟨w.heap.size + 1, 4, none⟩ = some (.string s) := (FC5.out _ _ (by omega)).trans qb4; have xb5 : w5.cell? ⟨w.heap.size + 1, 5, none⟩ = some (.int .i64 k2) := (FC5.out _ _ (by omega)).trans qb5; have xb6 : w5.cell? ⟨w.heap.size + 1, 6, none⟩ = some (.int .i64 m2) := (FC5.out _ _ (by omega)).trans qb6; have xb7 : w5.cell? ⟨w.heap.size + 1, 7, none⟩ = some (.string s2) := (FC5.out _ _ (by omega)).trans qb7; have xb8 : w5.cell? ⟨w.heap.size + 1, 8, none⟩ = some (.slice A2 n2 c2) := (FC5.out _ _ (by omega)).trans qb8; have xy0 : w5.cell? ⟨w.heap.size + 1 + 1, 0, none⟩ = some (.slice none 0 0) := (FC5.out _ _ (by omega)).trans qy0; have xy1 : w5.cell? ⟨w.heap.size + 1 + 1, 1, none⟩ = some (.int .i64 0) := (FC5.out _ _ (by omega)).trans qy1; have xf : ∀ o, w5.frozen? ⟨w.heap.size + 1 + 1, o, none⟩ = false := fun o => (FF5.out _ _ (by omega)).trans (qf o); clear hown5 hgrow5 hat5 hne5))
  go_wp2_with fail
  refine bodyPost_ret (v := .tuple #[.agg #[.slice (some ⟨g, 0, none⟩) (n + 1) cap, .int .i64 at_], .int .i64 0]) (by simp [results, Tryz.results89, go_sem, xy0, xy1]) rfl ?_
  exact put_final (w2 := w2.drew) HO5.out HCL3.out HCV3.out HB34.out HL4.out HG5.out HA5.out (fun k hk => ⟨(HO4.out.lt k hk).1, (HO3.out.lt k hk).2⟩) (show w.heap.size + 3 ≤ w2.heap.size by omega) hz3 ((HB4.out.alloc (by omega) _).grown HG5.out (by simp; omega) (fun k hk => by have := (HO4.out.lt k hk).1; have e : w2.drew.heap.size = w2.heap.size := rfl; omega))
end Go.Proofs.YtjjfglbcikaicaaGreat
namespace Go.Proofs.YtjjfglbcikaicaaGreat
open Go.RowKit
set_option linter.unusedVariables false
def allTo (p : Nat → Bool) : Nat → Bool
  | 0 => true
  | n + 1 => allTo p n && p n
theorem allTo_true {p : Nat → Bool} {n : Nat} : allTo p n = true ↔ ∀ i, i < n → p i = true := by
  induction n with
  | zero => simp [allTo]
  | succ n ih =>
    simp only [allTo, Bool.and_eq_true, ih]
    constructor
    · rintro ⟨h1, h2⟩ i hi
      by_cases e : i = n
      · rw [e]; exact h2
      · exact h1 i (by omega)
    · exact fun h => ⟨fun i hi => h i (by omega), h n (by omega)⟩
def sameV : VT → VT → Bool
  | .node k m s n f, .node k' m' s' n' f' => k == k' && m == m' && s.toList == s'.toList && n == n' && allTo (fun i => sameV (f i) (f' i)) n
  | _, _ => false
theorem sameV_refl {w : World} {S : Nat → Prop} : ∀ (t : VT) (cs : List Value), t.isV w S cs → sameV t t = true := by
  intro t
  induction t with
  | none => intro cs h; exact h.elim
  | node k m s n f ih =>
    intro cs h
    obtain ⟨A, c, _, _, _, _, h4⟩ := h
    simp only [sameV, beq_self_eq_true, Bool.and_self, Bool.true_and]
    rw [allTo_true]
    intro i hi
    obtain ⟨_, _, _, _, _, C, hC⟩ := h4 (by omega)
    exact ih i _ (hC i hi).1
set_option maxRecDepth 100000 in
set_option maxHeartbeats 4000000 in
theorem same_any : ∀ (t1 t2 : VT) (c1 c2 : List Value) (S1 S2 : Nat → Prop) (w : World), t1.isV w S1 c1 → t2.isV w S2 c2 →
    Calls Tryz.prog 53 #[.agg c1.toArray, .agg c2.toArray] w fun e w' => e = .returned (.bool (sameV t1 t2)) ∧ Below w.heap.size w w' := by
  intro t1
  induction t1 with
  | none => intro t2 c1 c2 S1 S2 w h; exact h.elim
  | node k m s n f ih =>
    intro t2 c1 c2 S1 S2 w h1 h2
    cases t2 with
    | none => exact h2.elim
    | node yk ym ys yn yf =>
      have HV1 := Lib.hid h1
      have HV2 := Lib.hid h2
      have IH := Lib.hid ih
      obtain ⟨A, c, rfl, hnc, hcm, hA, _⟩ := h1
      obtain ⟨yA, yc, rfl, ync, ycm, yhA, _⟩ := h2
      clear ih hA yhA
      by_cases e1 : k = yk
      · by_cases e2 : m = ym
        · by_cases e3 : s.toList = ys.toList
          · by_cases e4 : n = yn
            · subst e1 e2 e4
              have HSV := Lib.hid (show sameV (.node k m s n f) (.node k m ys n yf) = allTo (fun i => sameV (f i) (yf i)) n by simp [sameV, e3])
              have g3 : (s.toList == ys.toList) = true := by simp [e3]
              have g3' : (s.toList != ys.toList) = false := by simp [e3]
              have E3 := Lib.hid e3
              clear e3
              rw [HSV.out]
              go_enter Tryz.func53, Tryz.ntmps53
              go_wp2_with fail
              go_loopw [4, 5, 37] (fun _ _ i wr => ∃ q : Nat, q ≤ n ∧ i = .int .i64 q ∧ (∀ j, j < q → sameV (f j) (yf j) = true) ∧ Below (w.heap.size + 2) ((w.alloc (.cells #[.int .i64 k, .int .i64 m, .string s, .slice A n c] 41)).alloc (.cells #[.int .i64 k, .int .i64 m, .string ys, .slice yA n yc] 41)) wr) (fun _ _ i _ => n - (intOf i).toNat)
              case atStart => exact ⟨0, Nat.zero_le _, rfl, fun j hj => by omega, Below.refl _ _⟩
              case round =>
                obtain ⟨q, hq, rfl, hlow, hB⟩ := hrel
                have HL := Lib.hid hlow
                clear hlow
                by_cases hlt : q < n
                · obtain ⟨b, off, rfl, hb, hSb, C, hC⟩ := isV_arg HV1.out (by omega)
                  obtain ⟨yb, yoff, rfl, yhb, yhSb, yC, yhC⟩ := isV_arg HV2.out (by omega)
                  obtain ⟨hVq, hcell⟩ := hC q hlt
                  obtain ⟨yhVq, yhcell⟩ := yhC q hlt
                  have hsz := hB.size
                  simp at hsz
                  have hBw : Below w.heap.size w wr := (((Below.refl _ _).alloc (Nat.le_refl _) _).alloc (by simp) _).trans (hB.mono (by omega))
                  have HW1 := Lib.hid (isV_below hVq hBw)
                  have HW2 := Lib.hid (isV_below yhVq hBw)
                  have HBW := Lib.hid hBw
                  obtain ⟨k1, m1, s1, A1, n1, cc1, hCq⟩ := isV_cells hVq
                  obtain ⟨k2, m2, s2, A2, n2, cc2, yhCq⟩ := isV_cells yhVq
                  rw [hCq] at hcell HW1
                  rw [yhCq] at yhcell HW2
                  have x0 : wr.cell? ⟨b, off + q * 4, none⟩ = some (.int .i64 k1) := (hBw.cell (p := ⟨b, _, none⟩) hb).trans (hcell 0 _ rfl)
                  have x1 : wr.cell? ⟨b, off + q * 4 + 1, none⟩ = some (.int .i64 m1) := (hBw.cell (p := ⟨b, _, none⟩) hb).trans (hcell 1 _ rfl)
                  have x2 : wr.cell? ⟨b, off + q * 4 + 2, none⟩ = some (.string s1) := (hBw.cell (p := ⟨b, _, none⟩) hb).trans (hcell 2 _ rfl)
                  have x3 : wr.cell? ⟨b, off + q * 4 + 3, none⟩ = some (.slice A1 n1 cc1) := (hBw.cell (p := ⟨b, _, none⟩) hb).trans (hcell 3 _ rfl)
                  have z0 : wr.cell? ⟨yb, yoff + q * 4, none⟩ = some (.int .i64 k2) := (hBw.cell (p := ⟨yb, _, none⟩) yhb).trans (yhcell 0 _ rfl)
                  have z1 : wr.cell? ⟨yb, yoff + q * 4 + 1, none⟩ = some (.int .i64 m2) := (hBw.cell (p := ⟨yb, _, none⟩) yhb).trans (yhcell 1 _ rfl)
                  have z2 : wr.cell? ⟨yb, yoff + q * 4 + 2, none⟩ = some (.string s2) := (hBw.cell (p := ⟨yb, _, none⟩) yhb).trans (yhcell 2 _ rfl)
                  have z3 : wr.cell? ⟨yb, yoff + q * 4 + 3, none⟩ = some (.slice A2 n2 cc2) := (hBw.cell (p := ⟨yb, _, none⟩) yhb).trans (yhcell 3 _ rfl)
                  have p3 : wr.cell? ⟨w.heap.size, 3, none⟩ = some (.slice (some ⟨b, off, none⟩) n c) := (hB.cell (p := ⟨w.heap.size, 3, none⟩) (by show w.heap.size < w.heap.size + 2; omega)).trans (by simp)
                  have r3 : wr.cell? ⟨w.heap.size + 1, 3, none⟩ = some (.slice (some ⟨yb, yoff, none⟩) n yc) := (hB.cell (p := ⟨w.heap.size + 1, 3, none⟩) (by show w.heap.size + 1 < w.heap.size + 2; omega)).trans (by simp)
                  have j1 : (0 : Int) ≤ (q : Int) := by omega
                  have j2 : (q : Int) < (n : Int) := by omega
                  have l1 : b < wr.heap.size := by omega
                  have l2 : yb < wr.heap.size := by omega
                  clear hVq yhVq hC yhC hcell yhcell hCq yhCq hBw
                  go_wp2_with fail
                  go_region_held3 (fun w' => w'.cell? ⟨w.heap.size, 3, none⟩ = some (.slice (some ⟨b, off, none⟩) n c) ∧ w'.cell? ⟨w.heap.size + 1, 3, none⟩ = some (.slice (some ⟨yb, yoff, none⟩) n yc) ∧ w'.cell? ⟨b, off + q * 4, none⟩ = some (.int .i64 k1) ∧ w'.cell? ⟨b, off + q * 4 + 1, none⟩ = some (.int .i64 m1) ∧ w'.cell? ⟨b, off + q * 4 + 2, none⟩ = some (.string s1) ∧ w'.cell? ⟨b, off + q * 4 + 3, none⟩ = some (.slice A1 n1 cc1) ∧ w'.cell? ⟨yb, yoff + q * 4, none⟩ = some (.int .i64 k2) ∧ w'.cell? ⟨yb, yoff + q * 4 + 1, none⟩ = some (.int .i64 m2) ∧ w'.cell? ⟨yb, yoff + q * 4 + 2, none⟩ = some (.string s2) ∧ w'.cell? ⟨yb, yoff + q * 4 + 3, none⟩ = some (.slice A2 n2 cc2))
                    (first | exact ⟨p3, r3, x0, x1, x2, x3, z0, z1, z2, z3⟩ | exact ⟨u0, u1, u2, u3, u4, u5', u6, u7, u8, u9⟩ | go_keep)
                    (first | (go_at_call 53; refine (IH.out q (yf q) _ _ S1 S2 _ (isV_below HW1.out ((Below.refl _ _).drew)) (isV_below HW2.out ((Below.refl _ _).drew))).mono ?_; rintro e w1 ⟨rfl, hb1⟩; have FC := Lib.hid (fun b o (h : b < wr.heap.size) => (bcell hb1).1 b o h); have u0 := (FC.out w.heap.size 3 (by omega)).trans p3; have u1 := (FC.out (w.heap.size + 1) 3 (by omega)).trans r3; have u2 := (FC.out b _ l1).trans x0; have u3 := (FC.out b _ l1).trans x1; have u4 := (FC.out b _ l1).trans x2; have u5' := (FC.out b _ l1).trans x3; have u6 := (FC.out yb _ l2).trans z0; have u7 := (FC.out yb _ l2).trans z1; have u8 := (FC.out yb _ l2).trans z2; have u9 := (FC.out yb _ l2).trans z3))
                  have hB1 : Below (w.heap.size + 2) ((w.alloc (.cells #[.int .i64 k, .int .i64 m, .string s, .slice (some ⟨b, off, none⟩) n c] 41)).alloc (.cells #[.int .i64 k, .int .i64 m, .string ys, .slice (some ⟨yb, yoff, none⟩) n yc] 41)) w1 := hB.drew.trans (hb1.mono (show w.heap.size + 2 ≤ wr.heap.size by omega))
                  have HB1 := Lib.hid hB1
                  clear hb1 hB1 u0 u1 u2 u3 u4 u5' u6 u7 u8 u9 x0 x1 x2 x3 z0 z1 z2 z3 p3 r3
                  generalize hsq : sameV (f q) (yf q) = sv
                  have HSQ := Lib.hid hsq
                  clear hsq
                  cases sv with
                  | true =>
                    go_wp2_with fail
                    go_roundw
                    case rel =>
                      refine ⟨q + 1, by omega, by go_num, fun j hj => ?_, HB1.out⟩
                      by_cases e : j = q
                      · rw [e]; exact HSQ.out
                      · exact HL.out j (by omega)
                    case measure => simp [intOf]; omega
                  | false =>
                    go_wp2_with fail
                    go_ret
                    refine ⟨ret_bool ?_, (((Below.refl _ _).alloc (Nat.le_refl _) _).alloc (by simp) _).trans (HB1.out.mono (by omega))⟩
                    cases h : allTo (fun i => sameV (f i) (yf i)) n with
                    | false => rfl
                    | true =>
                      have := allTo_true.1 h q hlt
                      rw [HSQ.out] at this
                      cases this
                · obtain rfl : q = n := by omega
                  go_wp2_with fail
                  go_ret
                  exact ⟨ret_bool (allTo_true.2 HL.out).symm, (((Below.refl _ _).alloc (Nat.le_refl _) _).alloc (by simp) _).trans (hB.mono (by omega))⟩
            · have HSV := Lib.hid (show sameV (.node k m s n f) (.node yk ym ys yn yf) = false by simp [sameV]; exact fun _ _ _ h => absurd h e4)
              have g1 : (k != yk) = false := by simp [e1]
              have g2 : (m != ym) = false := by simp [e2]
              have g3 : (s.toList != ys.toList) = false := by simp [e3]
              have g3a : (s.toList == ys.toList) = true := by simp [e3]
              have g4 : (n != yn) = true := by simpa using e4
              have g4a : (n == yn) = false := by simpa using e4
              have g4b : ((n : Int) != (yn : Int)) = true := by simp; omega
              have g4c : ((n : Int) == (yn : Int)) = false := by simp; omega
              clear e1 e2 e3 e4
              rw [HSV.out]
              go_enter Tryz.func53, Tryz.ntmps53
              go_wp2_with fail
              go_ret
              exact ⟨rfl, ((Below.refl _ _).alloc (Nat.le_refl _) _).alloc (by simp) _⟩
          · have HSV := Lib.hid (show sameV (.node k m s n f) (.node yk ym ys yn yf) = false by simp [sameV]; exact fun _ _ h => absurd h e3)
            have g1 : (k != yk) = false := by simp [e1]
            have g2 : (m != ym) = false := by simp [e2]
            have g3 : (s.toList != ys.toList) = true := by simpa using e3
            have g3a : (s.toList == ys.toList) = false := by simpa using e3
            clear e1 e2
            rw [HSV.out]
            go_enter Tryz.func53, Tryz.ntmps53
            go_wp2_with fail
            go_ret
            exact ⟨rfl, ((Below.refl _ _).alloc (Nat.le_refl _) _).alloc (by simp) _⟩
        · have HSV := Lib.hid (show sameV (.node k m s n f) (.node yk ym ys yn yf) = false by simp [sameV]; exact fun _ h => absurd h e2)
          have g1 : (k != yk) = false := by simp [e1]
          have g2 : (m != ym) = true := by simpa using e2
          have g2a : (m == ym) = false := by simpa using e2
          clear e1 e2
          rw [HSV.out]
          go_enter Tryz.func53, Tryz.ntmps53
          go_wp2_with fail
          go_ret
          exact ⟨rfl, ((Below.refl _ _).alloc (Nat.le_refl _) _).alloc (by simp) _⟩
      · have HSV := Lib.hid (show sameV (.node k m s n f) (.node yk ym ys yn yf) = false by simp [sameV]; exact fun h => absurd h e1)
        have g1 : (k != yk) = true := by simpa using e1
        have g1a : (k == yk) = false := by simpa using e1
        clear e1
        rw [HSV.out]
        go_enter Tryz.func53, Tryz.ntmps53
        go_wp2_with fail
        go_ret
        exact ⟨rfl, ((Below.refl _ _).alloc (Nat.le_refl _) _).alloc (by simp) _⟩
end Go.Proofs.YtjjfglbcikaicaaGreat
namespace Go.Proofs.YtjjfglbcikaicaaGreat
open Go.RowKit
set_option linter.unusedVariables false
def sameLB (a b : LT) : Bool := a.kind == b.kind && a.frm == b.frm && a.to == b.to && a.num == b.num && a.text.toList == b.text.toList && sameV a.val b.val
theorem sameLB_refl {w : World} {S : Nat → Prop} {l : LT} {cs : List Value} (h : l.isL w S cs) : sameLB l l = true := by
  obtain ⟨_, _, _, _, _, _, _, hv⟩ := h
  simp [sameLB, sameV_refl _ _ hv]
set_option maxRecDepth 100000 in
set_option maxHeartbeats 2000000 in
theorem sameL_any (l1 l2 : LT) (c1 c2 : List Value) (S1 S2 : Nat → Prop) (w : World) (h1 : l1.isL w S1 c1) (h2 : l2.isL w S2 c2) :
    Calls Tryz.prog 22 #[.agg c1.toArray, .agg c2.toArray] w fun e w' => e = .returned (.bool (sameLB l1 l2)) ∧ Below w.heap.size w w' := by
  obtain ⟨k2, m2, s2, A2, n2, cc2, rfl, hv1⟩ := h1
  obtain ⟨yk2, ym2, ys2, yA2, yn2, yc2, rfl, hv2⟩ := h2
  have HV1 := Lib.hid hv1
  have HV2 := Lib.hid hv2
  obtain ⟨k, f, t, num, s, val⟩ := l1
  obtain ⟨yk, yf, yt, ynum, ys, yval⟩ := l2
  dsimp only at HV1 HV2 ⊢
  clear hv1 hv2
  by_cases e0 : ¬ k = yk
  · have HS := Lib.hid (show sameLB ⟨k, f, t, num, s, val⟩ ⟨yk, yf, yt, ynum, ys, yval⟩ = false by simp [sameLB]; exact fun h => absurd h e0)
    have g0 : (k == yk) = false := by simpa using e0
    clear e0
    rw [HS.out]
    go_enter Tryz.func22, Tryz.ntmps22
    go_wp2_with fail
    go_ret
    exact ⟨rfl, ((Below.refl _ _).alloc (Nat.le_refl _) _).alloc (by simp) _⟩
  replace e0 := Classical.not_not.1 e0
  by_cases e1 : ¬ f = yf
  · have HS := Lib.hid (show sameLB ⟨k, f, t, num, s, val⟩ ⟨yk, yf, yt, ynum, ys, yval⟩ = false by simp [sameLB]; exact fun _ h => absurd h e1)
    have g0 : (k == yk) = true := by simp [e0]
    have g1 : (f == yf) = false := by simpa using e1
    clear e0 e1
    rw [HS.out]
    go_enter Tryz.func22, Tryz.ntmps22
    go_wp2_with fail
    go_ret
    exact ⟨rfl, ((Below.refl _ _).alloc (Nat.le_refl _) _).alloc (by simp) _⟩
  replace e1 := Classical.not_not.1 e1
  by_cases e2 : ¬ t = yt
  · have HS := Lib.hid (show sameLB ⟨k, f, t, num, s, val⟩ ⟨yk, yf, yt, ynum, ys, yval⟩ = false by simp [sameLB]; exact fun _ _ h => absurd h e2)
    have g0 : (k == yk) = true := by simp [e0]
    have g1 : (f == yf) = true := by simp [e1]
    have g2 : (t == yt) = false := by simpa using e2
    clear e0 e1 e2
    rw [HS.out]
    go_enter Tryz.func22, Tryz.ntmps22
    go_wp2_with fail
    go_ret
    exact ⟨rfl, ((Below.refl _ _).alloc (Nat.le_refl _) _).alloc (by simp) _⟩
  replace e2 := Classical.not_not.1 e2
  by_cases e3 : ¬ num = ynum
  · have HS := Lib.hid (show sameLB ⟨k, f, t, num, s, val⟩ ⟨yk, yf, yt, ynum, ys, yval⟩ = false by simp [sameLB]; exact fun _ _ _ h => absurd h e3)
    have g0 : (k == yk) = true := by simp [e0]
    have g1 : (f == yf) = true := by simp [e1]
    have g2 : (t == yt) = true := by simp [e2]
    have g3 : (num == ynum) = false := by simpa using e3
    clear e0 e1 e2 e3
    rw [HS.out]
    go_enter Tryz.func22, Tryz.ntmps22
    go_wp2_with fail
    go_ret
    exact ⟨rfl, ((Below.refl _ _).alloc (Nat.le_refl _) _).alloc (by simp) _⟩
  replace e3 := Classical.not_not.1 e3
  by_cases e4 : ¬ s.toList = ys.toList
  · have HS := Lib.hid (show sameLB ⟨k, f, t, num, s, val⟩ ⟨yk, yf, yt, ynum, ys, yval⟩ = false by simp [sameLB]; exact fun _ _ _ _ h => absurd h e4)
    have g0 : (k == yk) = true := by simp [e0]
    have g1 : (f == yf) = true := by simp [e1]
    have g2 : (t == yt) = true := by simp [e2]
    have g3 : (num == ynum) = true := by simp [e3]
    have g4 : (s.toList == ys.toList) = false := by simpa using e4
    clear e0 e1 e2 e3 e4
    rw [HS.out]
    go_enter Tryz.func22, Tryz.ntmps22
    go_wp2_with fail
    go_ret
    exact ⟨rfl, ((Below.refl _ _).alloc (Nat.le_refl _) _).alloc (by simp) _⟩
  replace e4 := Classical.not_not.1 e4
  have HS := Lib.hid (show sameLB ⟨k, f, t, num, s, val⟩ ⟨yk, yf, yt, ynum, ys, yval⟩ = sameV val yval by simp [sameLB, e0, e1, e2, e3, e4])
  have g0 : (k == yk) = true := by simp [e0]
  have g1 : (f == yf) = true := by simp [e1]
  have g2 : (t == yt) = true := by simp [e2]
  have g3 : (num == ynum) = true := by simp [e3]
  have g4 : (s.toList == ys.toList) = true := by simp [e4]
  clear e0 e1 e2 e3 e4
  rw [HS.out]
  go_enter Tryz.func22, Tryz.ntmps22
  go_wp2_with fail
  refine (same_any _ _ _ _ _ _ _ (isV_below HV1.out (((Below.refl _ _).alloc (Nat.le_refl _) _).alloc (by simp) _)) (isV_below HV2.out (((Below.refl _ _).alloc (Nat.le_refl _) _).alloc (by simp) _))).mono ?_
  rintro e w1 ⟨rfl, hb1⟩
  skip
  go_wp2_with fail
  go_ret
  exact ⟨rfl, (((Below.refl _ _).alloc (Nat.le_refl _) _).alloc (by simp) _).trans (hb1.mono (by simp; omega))⟩
set_option maxRecDepth 100000 in
set_option maxHeartbeats 4000000 in
theorem sameLs_any (n yn c yc : Nat) (A yA : Option Addr) (arg yarg : Nat → LT) (S1 S2 : Nat → Prop) (w : World) (hn : n ≤ 9223372036854775807) (hyn : yn ≤ 9223372036854775807) (h1 : RdL w S1 A n arg) (h2 : RdL w S2 yA yn yarg) :
    Calls Tryz.prog 20 #[.slice A n c, .slice yA yn yc] w fun e w' => e = .returned (.bool (n == yn && allTo (fun i => sameLB (arg i) (yarg i)) n)) ∧ Below w.heap.size w w' := by
  by_cases e : n = yn
  · subst e
    have HS := Lib.hid (show (n == n && allTo (fun i => sameLB (arg i) (yarg i)) n) = allTo (fun i => sameLB (arg i) (yarg i)) n by simp)
    rw [HS.out]
    have H1 := Lib.hid h1
    have H2 := Lib.hid h2
    clear h1 h2
    go_enter Tryz.func20, Tryz.ntmps20
    go_wp2_with fail
    go_loopw [4, 5, 13] (fun _ _ i wr => ∃ q : Nat, q ≤ n ∧ i = .int .i64 q ∧ (∀ j, j < q → sameLB (arg j) (yarg j) = true) ∧ Below w.heap.size w wr) (fun _ _ i _ => n - (intOf i).toNat)
    case atStart => exact ⟨0, Nat.zero_le _, rfl, fun j hj => by omega, Below.refl _ _⟩
    case round =>
      obtain ⟨q, hq, rfl, hlow, hB⟩ := hrel
      have HL := Lib.hid hlow
      clear hlow
      by_cases hlt : q < n
      · obtain ⟨b, off, rfl, hb, hSb, C, hC⟩ := H1.out (by omega)
        obtain ⟨yb, yoff, rfl, yhb, yhSb, yC, yhC⟩ := H2.out (by omega)
        obtain ⟨hL1, hcell⟩ := hC q hlt
        obtain ⟨hL2, yhcell⟩ := yhC q hlt
        have hsz := hB.size
        have HW1 := Lib.hid (isL_below hL1 hB)
        have HW2 := Lib.hid (isL_below hL2 hB)
        obtain ⟨k2, m2, s2, A2, n2, c2, hCq, _⟩ := hL1
        obtain ⟨yk2, ym2, ys2, yA2, yn2, yc2, yhCq, _⟩ := hL2
        rw [hCq] at hcell HW1
        rw [yhCq] at yhcell HW2
        have HSL := Lib.hid (show ∀ j, j < q → sameLB (arg j) (yarg j) = true from HL.out)
        obtain ⟨l1, hl1⟩ : ∃ x, arg q = x := ⟨_, rfl⟩
        obtain ⟨l2, hl2⟩ : ∃ x, yarg q = x := ⟨_, rfl⟩
        rw [hl1] at hcell HW1
        rw [hl2] at yhcell HW2
        have HL1 := Lib.hid hl1
        have HL2 := Lib.hid hl2
        obtain ⟨k, f, t, num, s, val⟩ := l1
        obtain ⟨yk, yf, yt, ynum, ys, yval⟩ := l2
        dsimp only at hcell yhcell HW1 HW2
        have x0 : wr.cell? ⟨b, off + q * 9, none⟩ = some (.int .i64 k) := (hB.cell (p := ⟨b, _, none⟩) hb).trans (hcell 0 _ rfl)
        have x1 : wr.cell? ⟨b, off + q * 9 + 1, none⟩ = some (.int .i64 f) := (hB.cell (p := ⟨b, _, none⟩) hb).trans (hcell 1 _ rfl)
        have x2 : wr.cell? ⟨b, off + q * 9 + 2, none⟩ = some (.int .i64 t) := (hB.cell (p := ⟨b, _, none⟩) hb).trans (hcell 2 _ rfl)
        have x3 : wr.cell? ⟨b, off + q * 9 + 3, none⟩ = some (.int .i64 num) := (hB.cell (p := ⟨b, _, none⟩) hb).trans (hcell 3 _ rfl)
        have x4 : wr.cell? ⟨b, off + q * 9 + 4, none⟩ = some (.string s) := (hB.cell (p := ⟨b, _, none⟩) hb).trans (hcell 4 _ rfl)
        have x5 : wr.cell? ⟨b, off + q * 9 + 5, none⟩ = some (.int .i64 k2) := (hB.cell (p := ⟨b, _, none⟩) hb).trans (hcell 5 _ rfl)
        have x6 : wr.cell? ⟨b, off + q * 9 + 6, none⟩ = some (.int .i64 m2) := (hB.cell (p := ⟨b, _, none⟩) hb).trans (hcell 6 _ rfl)
        have x7 : wr.cell? ⟨b, off + q * 9 + 7, none⟩ = some (.string s2) := (hB.cell (p := ⟨b, _, none⟩) hb).trans (hcell 7 _ rfl)
        have x8 : wr.cell? ⟨b, off + q * 9 + 8, none⟩ = some (.slice A2 n2 c2) := (hB.cell (p := ⟨b, _, none⟩) hb).trans (hcell 8 _ rfl)
        have z0 : wr.cell? ⟨yb, yoff + q * 9, none⟩ = some (.int .i64 yk) := (hB.cell (p := ⟨yb, _, none⟩) yhb).trans (yhcell 0 _ rfl)
        have z1 : wr.cell? ⟨yb, yoff + q * 9 + 1, none⟩ = some (.int .i64 yf) := (hB.cell (p := ⟨yb, _, none⟩) yhb).trans (yhcell 1 _ rfl)
        have z2 : wr.cell? ⟨yb, yoff + q * 9 + 2, none⟩ = some (.int .i64 yt) := (hB.cell (p := ⟨yb, _, none⟩) yhb).trans (yhcell 2 _ rfl)
        have z3 : wr.cell? ⟨yb, yoff + q * 9 + 3, none⟩ = some (.int .i64 ynum) := (hB.cell (p := ⟨yb, _, none⟩) yhb).trans (yhcell 3 _ rfl)
        have z4 : wr.cell? ⟨yb, yoff + q * 9 + 4, none⟩ = some (.string ys) := (hB.cell (p := ⟨yb, _, none⟩) yhb).trans (yhcell 4 _ rfl)
        have z5 : wr.cell? ⟨yb, yoff + q * 9 + 5, none⟩ = some (.int .i64 yk2) := (hB.cell (p := ⟨yb, _, none⟩) yhb).trans (yhcell 5 _ rfl)
        have z6 : wr.cell? ⟨yb, yoff + q * 9 + 6, none⟩ = some (.int .i64 ym2) := (hB.cell (p := ⟨yb, _, none⟩) yhb).trans (yhcell 6 _ rfl)
        have z7 : wr.cell? ⟨yb, yoff + q * 9 + 7, none⟩ = some (.string ys2) := (hB.cell (p := ⟨yb, _, none⟩) yhb).trans (yhcell 7 _ rfl)
        have z8 : wr.cell? ⟨yb, yoff + q * 9 + 8, none⟩ = some (.slice yA2 yn2 yc2) := (hB.cell (p := ⟨yb, _, none⟩) yhb).trans (yhcell 8 _ rfl)
        have j1 : (0 : Int) ≤ (q : Int) := by omega
        have j2 : (q : Int) < (n : Int) := by omega
        have l1 : b < wr.heap.size := by omega
        have l2 : yb < wr.heap.size := by omega
        clear hC yhC hcell yhcell hCq yhCq hl1 hl2
        go_wp2_with fail
        go_region_held3 (fun w' => w'.cell? ⟨b, off + q * 9, none⟩ = some (.int .i64 k) ∧ w'.cell? ⟨b, off + q * 9 + 1, none⟩ = some (.int .i64 f) ∧ w'.cell? ⟨b, off + q * 9 + 2, none⟩ = some (.int .i64 t) ∧ w'.cell? ⟨b, off + q * 9 + 3, none⟩ = some (.int .i64 num) ∧ w'.cell? ⟨b, off + q * 9 + 4, none⟩ = some (.string s) ∧ w'.cell? ⟨b, off + q * 9 + 5, none⟩ = some (.int .i64 k2) ∧ w'.cell? ⟨b, off + q * 9 + 6, none⟩ = some (.int .i64 m2) ∧ w'.cell? ⟨b, off + q * 9 + 7, none⟩ = some (.string s2) ∧ w'.cell? ⟨b, off + q * 9 + 8, none⟩ = some (.slice A2 n2 c2) ∧ w'.cell? ⟨yb, yoff + q * 9, none⟩ = some (.int .i64 yk) ∧ w'.cell? ⟨yb, yoff + q * 9 + 1, none⟩ = some (.int .i64 yf) ∧ w'.cell? ⟨yb, yoff + q * 9 + 2, none⟩ = some (.int .i64 yt) ∧ w'.cell? ⟨yb, yoff + q * 9 + 3, none⟩ = some (.int .i64 ynum) ∧ w'.cell? ⟨yb, yoff + q * 9 + 4, none⟩ = some (.string ys) ∧ w'.cell? ⟨yb, yoff + q * 9 + 5, none⟩ = some (.int .i64 yk2) ∧ w'.cell? ⟨yb, yoff + q * 9 + 6, none⟩ = some (.int .i64 ym2) ∧ w'.cell? ⟨yb, yoff + q * 9 + 7, none⟩ = some (.string ys2) ∧ w'.cell? ⟨yb, yoff + q * 9 + 8, none⟩ = some (.slice yA2 yn2 yc2))
          (first | exact ⟨x0, x1, x2, x3, x4, x5, x6, x7, x8, z0, z1, z2, z3, z4, z5, z6, z7, z8⟩ | exact ⟨v0, v1, v2, v3, v4, v5, v6, v7, v8, v9, v10, v11, v12, v13, v14, v15, v16, v17⟩ | go_keep)
          (first | (go_at_call 22; refine (sameL_any _ _ _ _ S1 S2 _ (isL_below HW1.out ((Below.refl _ _).drew)) (isL_below HW2.out ((Below.refl _ _).drew))).mono ?_; rintro e w1 ⟨rfl, hb1⟩; have FC := Lib.hid (fun b o (h : b < wr.heap.size) => (bcell hb1).1 b o h); have v0 := (FC.out b _ l1).trans x0; have v1 := (FC.out b _ l1).trans x1; have v2 := (FC.out b _ l1).trans x2; have v3 := (FC.out b _ l1).trans x3; have v4 := (FC.out b _ l1).trans x4; have v5 := (FC.out b _ l1).trans x5; have v6 := (FC.out b _ l1).trans x6; have v7 := (FC.out b _ l1).trans x7; have v8 := (FC.out b _ l1).trans x8; have v9 := (FC.out yb _ l2).trans z0; have v10 := (FC.out yb _ l2).trans z1; have v11 := (FC.out yb _ l2).trans z2; have v12 := (FC.out yb _ l2).trans z3; have v13 := (FC.out yb _ l2).trans z4; have v14 := (FC.out yb _ l2).trans z5; have v15 := (FC.out yb _ l2).trans z6; have v16 := (FC.out yb _ l2).trans z7; have v17 := (FC.out yb _ l2).trans z8))
        have HB1 := Lib.hid (hB.drew.trans (hb1.mono (show w.heap.size ≤ wr.heap.size by omega)))
        clear hb1 v0 v1 v2 v3 v4 v5 v6 v7 v8 v9 v10 v11 v12 v13 v14 v15 v16 v17 x0 x1 x2 x3 x4 x5 x6 x7 x8 z0 z1 z2 z3 z4 z5 z6 z7 z8
        generalize hsq : sameLB ⟨k, f, t, num, s, val⟩ ⟨yk, yf, yt, ynum, ys, yval⟩ = sv
        have HSQ := Lib.hid hsq
        clear hsq
        cases sv with
        | true =>
          go_wp2_with fail
          go_roundw
          case rel =>
            refine ⟨q + 1, by omega, by go_num, fun j hj => ?_, HB1.out⟩
            by_cases e : j = q
            · rw [e, HL1.out, HL2.out]; exact HSQ.out
            · exact HSL.out j (by omega)
          case measure => simp [intOf]; omega
        | false =>
          go_wp2_with fail
          go_ret
          refine ⟨ret_bool ?_, HB1.out⟩
          cases h : allTo (fun i => sameLB (arg i) (yarg i)) n with
          | false => rfl
          | true =>
            have := allTo_true.1 h q hlt
            rw [HL1.out, HL2.out, HSQ.out] at this
            cases this
      · obtain rfl : q = n := by omega
        go_wp2_with fail
        go_ret
        exact ⟨ret_bool (allTo_true.2 HL.out).symm, hB⟩
  · have HS := Lib.hid (show (n == yn && allTo (fun i => sameLB (arg i) (yarg i)) n) = false by simp [e])
    rw [HS.out]
    have g4 : (n != yn) = true := by simpa using e
    have g4a : (n == yn) = false := by simpa using e
    have g4b : ((n : Int) != (yn : Int)) = true := by simp; omega
    have g4c : ((n : Int) == (yn : Int)) = false := by simp; omega
    clear h1 h2 e
    go_enter Tryz.func20, Tryz.ntmps20
    go_wp2_with fail
    go_ret
    exact ⟨rfl, Below.refl _ _⟩
end Go.Proofs.YtjjfglbcikaicaaGreat
