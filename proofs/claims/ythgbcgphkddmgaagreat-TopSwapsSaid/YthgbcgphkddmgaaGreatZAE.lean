/- Arguments that are slices of structs: what their cells hold. Values of the language as trees, and how they lie in memory. The contract of roadref3.Deep and of flat. Contracts of package copies: Value, Values and Each over values: a copy is the same tree in new memory. Letters as data in memory, and the contracts of copies.Letter and copies.Each over letters. -/
import Derived.Test.YthgbcgphkddmgaaGreatZAC
import Derived.Deep.Slices
import Derived.Deep.Fields
import Derived.Lib.SmallJoins
import Derived.Maps.AppendAt
import Derived.WalkLawsBesides
namespace Go.Proofs.YthgbcgphkddmgaaGreat
open Go.RowKit Go.ChangeShapes Go.WideShapes Go.Deep

section
variable {H : Type} {enc : TypeId × Value → H} {P : Program} {w : World} {spare : Nat → Bool} {held : Bool}
theorem lt_of_cell {w : World} {b o : Nat} {v : Value} (h : w.cell? ⟨b, o, none⟩ = some v) : b < w.heap.size := by
  rcases Nat.lt_or_ge b w.heap.size with hlt | hge
  · exact hlt
  · unfold World.cell? at h
    rw [show w.heap[({ block := b, off := o, spot := none } : Addr).block]? = none from Array.getElem?_eq_none hge] at h
    cases h
/-- a slice of elements of sz cells each, read as data -/
theorem open_rows {t e sz fuel : Nat} {cs : List Value} {x : DataW H × List MemPlace} (ht : P.underlying t = some (.slice e)) (hC : P.cellsOf e = sz) (hsz : 0 < sz) (h : DataW.trod enc P w 0 (fun _ => true) held fuel t cs = some x) :
    ∃ (A : Option Addr) (n c : Nat) (C : Nat → List Value), cs = [.slice A n c] ∧ n ≤ c ∧ c ≤ 9223372036854775807 ∧ (A = none → n = 0) ∧ Rd w sz C A n ∧ (∀ i, (C i).length = sz) ∧
      ∀ i, i < n → ∃ m y, DataW.trod enc P w 0 (fun _ => true) held m e (C i) = some y := by
  rcases open_slice ht h with ⟨rfl, _⟩ | ⟨a, len, cap, m, n, D, Pl, rfl, _, hl, hm, hmm, _, hi⟩
  · exact ⟨none, 0, 0, fun _ => List.replicate sz undef, rfl, Nat.le_refl _, by omega, fun _ => rfl, fun h => by omega, fun _ => by simp, fun i hi => by omega⟩
  · simp only [if_true] at hmm
    subst hmm
    rw [hC] at hi
    have hch : ∀ i, ∃ cs' : List Value, cs'.length = sz ∧ (i < len → w.cells? 0 (a.add (i * sz)) sz = some cs' ∧ DataW.trod enc P w 0 (fun _ => true) held n e cs' = some (D i, Pl i)) := fun i => by
      by_cases hlt : i < len
      · obtain ⟨cs', h1, h2⟩ := hi i (by omega)
        exact ⟨cs', (World.cells?_some h1).2.1, fun _ => ⟨h1, h2⟩⟩
      · exact ⟨List.replicate sz undef, by simp, fun h => absurd h hlt⟩
    obtain ⟨C, hCC⟩ := Classical.axiomOfChoice hch
    refine ⟨some a, len, _, C, rfl, hl, hm, (fun h => by cases h), fun h0 => ?_, fun i => (hCC i).1, fun i hlt => ⟨n, _, ((hCC i).2 hlt).2⟩⟩
    have h00 := (World.cells?_some ((hCC 0).2 h0).1).2.2 0 hsz
    obtain ⟨b, off, spot⟩ := a
    obtain ⟨v, hv⟩ : ∃ v, (C 0)[0]? = some v := ⟨_, List.getElem?_eq_getElem (by rw [(hCC 0).1]; exact hsz)⟩
    have hspot : spot = none := by
      rw [hv] at h00
      simpa [Addr.add] using World.cell?_spot h00
    subst hspot
    have hat : ∀ i, i < len → ∀ j u, (C i)[j]? = some u → w.cell? ⟨b, off + i * sz + j, none⟩ = some u := fun i hlt j u hu => by
      have hj : j < sz := by
        rcases Nat.lt_or_ge j sz with hh | hh
        · exact hh
        · rw [List.getElem?_eq_none (by rw [(hCC i).1]; exact hh)] at hu; cases hu
      have h1 := (World.cells?_some ((hCC i).2 hlt).1).2.2 j hj
      rw [hu, Go.WideShapes.add_plain, Go.WideShapes.add_plain] at h1
      exact h1
    exact ⟨b, off, rfl, lt_of_cell (hat 0 h0 0 v hv), hat⟩
end
end Go.Proofs.YthgbcgphkddmgaaGreat
namespace Go.Proofs.YthgbcgphkddmgaaGreat
open Go.RowKit Go.ChangeShapes Go.WideShapes
set_option linter.unusedVariables false

/-- a value: kind, number, text, and n arguments (none: not a value) -/
inductive VT where
  | none
  | node (kind num : Int) (text : ByteArray) (n : Nat) (arg : Nat → VT)
def sumTo (g : Nat → Nat) : Nat → Nat
  | 0 => 0
  | n + 1 => sumTo g n + g n
def maxTo (g : Nat → Nat) : Nat → Nat
  | 0 => 0
  | n + 1 => max (maxTo g n) (g n)
def VT.many : VT → Nat
  | .none => 0
  | .node _ _ _ n arg => 1 + sumTo (fun i => (arg i).many) n
/-- all numbers are numbers of the machine -/
def VT.wf : VT → Prop
  | .none => True
  | .node _ m _ n arg => (-9223372036854775808 ≤ m ∧ m < 9223372036854775808) ∧ ∀ i, i < n → (arg i).wf
def VT.deep : VT → Nat
  | .none => 0
  | .node _ _ _ n arg => maxTo (fun i => (arg i).deep) n + 1
/-- the cells cs hold the value t; all its arguments lie in blocks of S -/
def VT.isV (w : World) (S : Nat → Prop) : VT → List Value → Prop
  | .none, _ => False
  | .node k m s n arg, cs => ∃ A c, cs = [.int .i64 k, .int .i64 m, .string s, .slice A n c] ∧ n ≤ c ∧ c ≤ 9223372036854775807 ∧ (A = Option.none → n = 0) ∧
      (0 < n → ∃ b off, A = some ⟨b, off, Option.none⟩ ∧ b < w.heap.size ∧ S b ∧ ∃ C : Nat → List Value, ∀ i, i < n → (arg i).isV w S (C i) ∧ ∀ j u, (C i)[j]? = some u → w.cell? ⟨b, off + i * 4 + j, Option.none⟩ = some u)
theorem isV_one {w : World} {S : Nat → Prop} {t : VT} {cs : List Value} (h : t.isV w S cs) : ∀ u ∈ cs, u.oneCell' = true := by
  cases t with
  | none => exact h.elim
  | node k m s n arg =>
    obtain ⟨A, c, rfl, _⟩ := h
    intro u hu
    simp at hu
    rcases hu with rfl | rfl | rfl | rfl <;> rfl
theorem isV_cells {w : World} {S : Nat → Prop} {t : VT} {cs : List Value} (h : t.isV w S cs) : ∃ k m s A n c, cs = [.int .i64 k, .int .i64 m, .string s, .slice A n c] := by
  cases t with
  | none => exact h.elim
  | node k m s n arg => obtain ⟨A, c, rfl, _⟩ := h; exact ⟨_, _, _, _, _, _, rfl⟩
theorem isV_frame {w w' : World} {S S' : Nat → Prop} (hsz : w.heap.size ≤ w'.heap.size) (hS : ∀ b, S b → b < w.heap.size → S' b ∧ w'.heap[b]? = w.heap[b]?) {t : VT} : ∀ {cs : List Value}, t.isV w S cs → t.isV w' S' cs := by
  induction t with
  | none => intro cs h; exact h
  | node k m s n arg ih =>
    intro cs h
    obtain ⟨A, c, hcs, h1, h2, h3, h4⟩ := h
    refine ⟨A, c, hcs, h1, h2, h3, fun h0 => ?_⟩
    obtain ⟨b, off, hA, hb, hSb, C, hC⟩ := h4 h0
    obtain ⟨hS', hh⟩ := hS b hSb hb
    refine ⟨b, off, hA, by omega, hS', C, fun i hi => ⟨ih i (hC i hi).1, fun j u hu => ?_⟩⟩
    exact (World.cell?_of_block (a := ⟨b, _, Option.none⟩) hh).trans ((hC i hi).2 j u hu)
theorem isV_below {w w' : World} {S : Nat → Prop} {t : VT} {cs : List Value} (h : t.isV w S cs) (hb : Below w.heap.size w w') : t.isV w' S cs :=
  isV_frame hb.size (fun b hs hlt => ⟨hs, hb.block b hlt⟩) h
theorem isV_mono {w : World} {S S' : Nat → Prop} {t : VT} {cs : List Value} (h : t.isV w S cs) (hS : ∀ b, b < w.heap.size → S b → S' b) : t.isV w S' cs :=
  isV_frame (Nat.le_refl _) (fun b hs hlt => ⟨hS b hlt hs, rfl⟩) h
/-- an argument of a value -/
theorem isV_arg {w : World} {S : Nat → Prop} {k m : Int} {s : ByteArray} {n c : Nat} {arg : Nat → VT} {A : Option Addr} {x0 x1 x2 : Value} (h : (VT.node k m s n arg).isV w S [x0, x1, x2, .slice A n c]) (h0 : 0 < n) :
    ∃ b off, A = some ⟨b, off, Option.none⟩ ∧ b < w.heap.size ∧ S b ∧ ∃ C : Nat → List Value, ∀ i, i < n → (arg i).isV w S (C i) ∧ ∀ j u, (C i)[j]? = some u → w.cell? ⟨b, off + i * 4 + j, Option.none⟩ = some u := by
  obtain ⟨A', c', hcs, h1, h2, h3, h4⟩ := h
  simp at hcs
  obtain ⟨_, _, _, rfl, _⟩ := hcs
  exact h4 h0
theorem le_sumTo {g : Nat → Nat} {n i : Nat} (hi : i < n) : g i ≤ sumTo g n := by
  induction n with
  | zero => omega
  | succ n ih =>
    simp only [sumTo]
    by_cases e : i = n
    · subst e; omega
    · have := ih (by omega); omega
theorem len_sumTo {g : Nat → Nat} {n : Nat} (hg : ∀ i, i < n → 1 ≤ g i) : n ≤ sumTo g n := by
  induction n with
  | zero => omega
  | succ n ih => simp only [sumTo]; have := ih fun i hi => hg i (by omega); have := hg n (by omega); omega
theorem isV_many {w : World} {S : Nat → Prop} {t : VT} {cs : List Value} (h : t.isV w S cs) : 1 ≤ t.many := by
  cases t with
  | none => exact h.elim
  | node k m s n arg => simp only [VT.many]; omega
section
variable {H : Type} {enc : TypeId × Value → H} {W : World} {held : Bool}
end
end Go.Proofs.YthgbcgphkddmgaaGreat
namespace Go.Proofs.YthgbcgphkddmgaaGreat
open Go.RowKit
set_option linter.unusedVariables false
theorem sumTo_mono {g : Nat → Nat} {a b : Nat} (h : a ≤ b) : sumTo g a ≤ sumTo g b := by
  induction b with
  | zero => obtain rfl : a = 0 := by omega
            exact Nat.le_refl _
  | succ b ih =>
    by_cases e : a = b + 1
    · rw [e]; exact Nat.le_refl _
    · have := ih (by omega); simp only [sumTo]; omega
end Go.Proofs.YthgbcgphkddmgaaGreat
namespace Go.Proofs.YthgbcgphkddmgaaGreat
open Go.RowKit
set_option linter.unusedVariables false
theorem infoV : (Tryz.prog.info? 36).map (fun i => (i.zero, i.size, i.bytes)) = some (some (.agg #[.int .i64 0, .int .i64 0, .string ⟨#[]⟩, .slice none 0 0]), 4, 56) := by kernel_rfl
/-- the copy: the cells cs' hold t in blocks from lo on -/
def CopyPost (t : VT) (w : World) (e : Ending) (w' : World) : Prop := ∃ cs', e = .returned (.agg cs'.toArray) ∧ t.isV w' (fun b => w.heap.size ≤ b) cs' ∧ Below w.heap.size w w'
def CopyOk (t : VT) : Prop := ∀ (cs : List Value) (S : Nat → Prop) (w : World), t.isV w S cs → t.many ≤ 4194304 → Calls Tryz.prog 154 #[.agg cs.toArray] w (CopyPost t w)
/-- the copies: a row of the call's own whose elements hold the values -/
def EachPost (n : Nat) (arg : Nat → VT) (w : World) (e : Ending) (w' : World) : Prop :=
  ∃ v C, e = .returned v ∧ w'.ownsRow w.heap.size 36 4 v n (flatC C n) ∧ (∀ i, (C i).length = 4) ∧ (∀ i, i < n → (arg i).isV w' (fun b => w.heap.size ≤ b ∧ some b ≠ v.ownBlock) (C i)) ∧ Below w.heap.size w w'
theorem cell_four_new (w : World) (a b c d : Value) (t : TypeId) : ∀ j u, [a, b, c, d][j]? = some u → (w.alloc (.cells #[a, b, c, d] t)).cell? ((⟨w.heap.size, 0, none⟩ : Addr).add j) = some u := by
  intro j u hj
  match j, hj with
  | 0, hj => simp at hj; subst hj; simp [Addr.add]
  | 1, hj => simp at hj; subst hj; simp [Addr.add]
  | 2, hj => simp at hj; subst hj; simp [Addr.add]
  | 3, hj => simp at hj; subst hj; simp [Addr.add]
theorem flatC_snoc (C : Nat → List Value) (n : Nat) (cs : List Value) : flatC C n ++ cs = flatC (updC C n cs) (n + 1) := by
  rw [flatC]
  congr 1
  · apply flatC_congr
    intro i hi
    have : i ≠ n := by omega
    simp [updC, this]
  · simp [updC]
theorem own_below {w w' : World} {base : Nat} {e : TypeId} {sz n : Nat} {v : Value} {xs : List Value} (h : w.ownsRow base e sz v n xs) (hb : Below w.heap.size w w') : w'.ownsRow base e sz v n xs := by
  refine h.kept (row := none) ⟨hb.os, hb.tape, hb.output, hb.size, fun k hk _ => hb.block k hk⟩ ?_
  cases hv : v.ownBlock with
  | none => exact .inl rfl
  | some g => exact .inr (by simp)
/-- the elements of a row after one more element was appended -/
theorem each_step {wr w1 w2 : World} {base : Nat} {o o' : Obj} {v v' : Value} {t : VT} {cs : List Value} (hb1 : Below (wr.alloc o).heap.size (wr.alloc o) w1) (hg : (w1.alloc o').grownBy w2 v.ownBlock)
    (hat : v'.ownBlock = v.ownBlock ∨ v'.ownBlock = some (w1.alloc o').heap.size) (h : t.isV wr (fun b => base ≤ b ∧ some b ≠ v.ownBlock) cs) : t.isV w2 (fun b => base ≤ b ∧ some b ≠ v'.ownBlock) cs := by
  have h1 := hb1.size
  have h2 := hg.size
  simp at h1 h2
  refine isV_frame (by omega) (fun b hs hlt => ?_) h
  have a1 : some b ≠ v'.ownBlock := by
    rcases hat with e | e
    · rw [e]; exact hs.2
    · rw [e]
      intro hh
      injection hh with hh
      simp at hh
      omega
  exact ⟨⟨hs.1, a1⟩, by rw [hg.block b (by simp; omega) hs.2, Below.heap_alloc w1 o' b (by omega), hb1.block b (by simp; omega), Below.heap_alloc wr o b hlt]⟩
theorem each_new {wr w1 w2 : World} {base : Nat} {o o' : Obj} {v v' : Value} {t : VT} {cs : List Value} (hbase : base ≤ wr.heap.size) (hv : ∀ k, v.ownBlock = some k → k < wr.heap.size) (hb1 : Below (wr.alloc o).heap.size (wr.alloc o) w1) (hg : (w1.alloc o').grownBy w2 v.ownBlock)
    (hat : v'.ownBlock = v.ownBlock ∨ v'.ownBlock = some (w1.alloc o').heap.size) (h : t.isV w1 (fun b => (wr.alloc o).heap.size ≤ b) cs) : t.isV w2 (fun b => base ≤ b ∧ some b ≠ v'.ownBlock) cs := by
  have h1 := hb1.size
  have h2 := hg.size
  simp at h1 h2
  have hne : ∀ b, (wr.alloc o).heap.size ≤ b → some b ≠ v.ownBlock := fun b hb hh => by
    have := hv b hh.symm
    simp at hb
    omega
  refine isV_frame (by omega) (fun b hs hlt => ?_) h
  have a1 : some b ≠ v'.ownBlock := by
    rcases hat with e | e
    · rw [e]; exact hne b hs
    · rw [e]
      intro hh
      injection hh with hh
      simp at hh
      omega
  exact ⟨⟨by simp at hs; omega, a1⟩, by rw [hg.block b (by simp; omega) (hne b hs), Below.heap_alloc w1 o' b hlt]⟩
theorem copy_enters : Enters Tryz.prog 154 := fun _ _ => by kernel_rfl
set_option maxRecDepth 100000 in
set_option maxHeartbeats 2000000 in
theorem each_any (n c : Nat) (A : Option Addr) (arg : Nat → VT) (S : Nat → Prop) (w : World) (hn : n ≤ 4194304)
    (hV : 0 < n → ∃ b off, A = some ⟨b, off, none⟩ ∧ b < w.heap.size ∧ S b ∧ ∃ C : Nat → List Value, ∀ i, i < n → (arg i).isV w S (C i) ∧ ∀ j u, (C i)[j]? = some u → w.cell? ⟨b, off + i * 4 + j, none⟩ = some u)
    (hm : ∀ i, i < n → (arg i).many ≤ 4194304) (ih : ∀ i, i < n → CopyOk (arg i)) :
    Calls Tryz.prog 153 #[.slice A n c, .func (.func 154) #[] #[]] w (EachPost n arg w) := by
  obtain ⟨i0, hi, jz0, jz1, jz2⟩ := info_parts infoV
  have HV := Lib.hid hV
  have IH := Lib.hid ih
  have HM := Lib.hid hm
  have HE := Lib.hid copy_enters
  clear hV ih hm
  go_enter Tryz.func153, Tryz.ntmps153
  go_wp2_with fail
  go_loopw [5, 7, 10] (fun v _ i wr => ∃ (q : Nat) (C : Nat → List Value), q ≤ n ∧ i = .int .i64 q ∧ wr.ownsRow w.heap.size 36 4 v q (flatC C q) ∧ (∀ i, (C i).length = 4) ∧ (∀ i, i < q → (arg i).isV wr (fun b => w.heap.size ≤ b ∧ some b ≠ v.ownBlock) (C i)) ∧ Below w.heap.size w wr) (fun _ _ i _ => n - (intOf i).toNat)
  case atStart => exact ⟨0, fun _ => List.replicate 4 undef, Nat.zero_le _, rfl, World.ownsRow_nil _ _ _ _, fun _ => by simp, fun i hi => by omega, Below.refl _ _⟩
  case round =>
    obtain ⟨q, C, hq, rfl, hown, hCl, hCv, hB⟩ := hrel
    by_cases hlt : q < n
    · obtain ⟨b, off, rfl, hb, hSb, D, hD⟩ := HV.out (by omega)
      obtain ⟨hDq, hcell⟩ := hD q hlt
      obtain ⟨k', m', s', A', n', c', hCq⟩ := isV_cells hDq
      have hDr := isV_frame (w' := wr) (S' := S) hB.size (fun b hs hlt => ⟨hs, hB.block b hlt⟩) hDq
      rw [hCq] at hcell hDr
      have c0 : wr.cell? ⟨b, off + q * 4, none⟩ = some (.int .i64 k') := (hB.cell (p := ⟨b, _, none⟩) hb).trans (hcell 0 _ rfl)
      have c1 : wr.cell? ⟨b, off + q * 4 + 1, none⟩ = some (.int .i64 m') := (hB.cell (p := ⟨b, _, none⟩) hb).trans (hcell 1 _ rfl)
      have c2 : wr.cell? ⟨b, off + q * 4 + 2, none⟩ = some (.string s') := (hB.cell (p := ⟨b, _, none⟩) hb).trans (hcell 2 _ rfl)
      have c3 : wr.cell? ⟨b, off + q * 4 + 3, none⟩ = some (.slice A' n' c') := (hB.cell (p := ⟨b, _, none⟩) hb).trans (hcell 3 _ rfl)
      have hBs := hB.size
      have HO := Lib.hid hown
      have HCL := Lib.hid hCl
      have HCV := Lib.hid hCv
      have HDR := Lib.hid hDr
      have hen := HE.out #[.agg #[.int .i64 k', .int .i64 m', .string s', .slice A' n' c']]
      clear hown hCl hCv hDr hD hDq hcell hCq
      go_wp2_with fail
      refine (IH.out q hlt _ S _ (isV_below HDR.out ((Below.refl _ _).alloc (Nat.le_refl _) _)) (HM.out q hlt)).mono ?_
      rintro e w1 ⟨cs', rfl, hV1, hb1⟩
      obtain ⟨k2, m2, s2, A2, n2, c2', rfl⟩ := isV_cells hV1
      have hO1 := own_below ((HO.out).alloc (.cells #[.int .i64 k', .int .i64 m', .string s', .slice A' n' c'] 36)) hb1
      have HO1 := Lib.hid hO1
      have HV1 := Lib.hid hV1
      have HB1 := Lib.hid hb1
      have hz1 : w.heap.size ≤ w1.heap.size := by have := hb1.size; simp at this; omega
      have hlt5 := Lib.hid (fun k hk => (HO.out.lt k hk).2)
      clear hO1 hV1 hb1 hen c0 c1 c2 c3
      go_wp2_with (at_builtin; refine wpList_append_own_at _ rfl _ _ 34 rfl w.heap.size 36 i0 _ 4 56 Tryz.underlying34 hi jz0 jz1 jz2 rfl (by omega) u5 q (flatC C q) rfl (HO1.out.alloc _) ⟨w1.heap.size, 0, none⟩ 1 1 [.int .i64 k2, .int .i64 m2, .string s2, .slice A2 n2 c2'] rfl rfl (cell_four_new _ _ _ _ _ _) (isV_one HV1.out) (by unfold maxLen; omega) (by omega) (by simp; omega) ?_; intro v2 w2 hown2 hgrow2 _ hat2; rw [flatC_snoc] at hown2; have HO2 := Lib.hid hown2; have HG2 := Lib.hid hgrow2; have HA2 := Lib.hid hat2; clear hown2 hgrow2 hat2)
      go_roundw
      case rel =>
        refine ⟨q + 1, updC C q [.int .i64 k2, .int .i64 m2, .string s2, .slice A2 n2 c2'], by omega, by go_num, HO2.out, fun i => ?_, fun i hi => ?_, ?_⟩
        · unfold updC; split
          · rfl
          · exact HCL.out i
        · by_cases e : i = q
          · subst e
            simp only [updC, if_true]
            exact each_new hBs hlt5.out HB1.out HG2.out HA2.out HV1.out
          · simp only [updC, e, if_false]
            exact each_step HB1.out HG2.out HA2.out (HCV.out i (by omega))
        · exact (((hB.alloc hBs _).trans (HB1.out.mono (by simp; omega))).alloc hz1 _).grown HG2.out (by simp; omega) (fun k hk => (HO.out.lt k hk).1)
      case measure => simp [intOf]; omega
    · obtain rfl : q = n := by omega
      go_wp2_with fail
      go_ret
      exact ⟨_, C, rfl, hown, hCl, hCv, hB⟩
/-- the row that Each made is the arguments of a value -/
theorem isV_of_each {w1 w2 : World} {n : Nat} {arg : Nat → VT} {v : Value} {C : Nat → List Value} {k m : Int} {s : ByteArray} {base : Nat} {A : Option Addr} {c : Nat} (hv : v = .slice A n c) (ho : w1.ownsRow base 36 4 v n (flatC C n)) (hl : ∀ i, (C i).length = 4)
    (hc : ∀ i, i < n → (arg i).isV w1 (fun b => base ≤ b ∧ some b ≠ v.ownBlock) (C i)) (hsz : w1.heap.size ≤ w2.heap.size) (hh : ∀ b, base ≤ b → b < w1.heap.size → w2.heap[b]? = w1.heap[b]?) :
    (VT.node k m s n arg).isV w2 (fun b => base ≤ b) [.int .i64 k, .int .i64 m, .string s, .slice A n c] := by
  subst hv
  obtain ⟨A', c', hv', hnc, hcm, hA⟩ := own_any ho
  injection hv' with e1 e2 e3
  subst e1 e3
  refine ⟨A, c, rfl, hnc, hcm, hA, fun h0 => ?_⟩
  obtain ⟨g, cap, hv2, hb, hlt, _⟩ := own_form ho h0
  injection hv2 with e1 e2 e3
  subst e1
  refine ⟨g, 0, rfl, by omega, hb, C, fun i hi => ⟨isV_frame hsz (fun b hs hl => ⟨hs.1, hh b hs.1 hl⟩) (hc i hi), fun j u hu => ?_⟩⟩
  have hj : j < 4 := by
    rcases Nat.lt_or_ge j 4 with h | h
    · exact h
    · rw [List.getElem?_eq_none (by rw [hl]; exact h)] at hu; cases hu
  have h2 : (i + 1) * 4 ≤ n * 4 := Nat.mul_le_mul_right _ (by omega)
  rw [Nat.zero_add, World.cell?_of_block (a := ⟨g, _, none⟩) (hh g hb hlt), ho.cellAt _ (by omega), flatC_get hl hi hj]
  exact hu
set_option maxRecDepth 100000 in
set_option maxHeartbeats 1000000 in
theorem copy_any : ∀ t : VT, CopyOk t := by
  intro t
  induction t with
  | none => intro cs S w h; exact h.elim
  | node k m s n arg ih =>
    intro cs S w h hm
    have h' := h
    obtain ⟨A, c, rfl, hnc, hcm, hA, hV⟩ := h'
    have hn : n ≤ 4194304 ∧ ∀ i, i < n → (arg i).many ≤ 4194304 := by
      simp only [VT.many] at hm
      refine ⟨?_, fun i hi => ?_⟩
      · by_cases h0 : 0 < n
        · obtain ⟨b, off, _, _, _, C, hC⟩ := hV h0
          have h1 : n ≤ sumTo (fun i => (arg i).many) n := len_sumTo fun i hi => isV_many (hC i hi).1
          omega
        · omega
      · have := le_sumTo (g := fun i => (arg i).many) hi
        omega
    have he0 : ∀ o o' : Obj, Calls Tryz.prog 153 #[.slice A n c, .func (.func 154) #[] #[]] ((w.alloc o).alloc o') (EachPost n arg ((w.alloc o).alloc o')) := fun o o' => by
      have hb : Below w.heap.size w ((w.alloc o).alloc o') := ((Below.refl _ _).alloc (Nat.le_refl _) _).alloc (by simp) _
      obtain ⟨_, _, he, _, _, _, hV'⟩ := isV_below h hb
      simp at he
      obtain ⟨rfl, rfl⟩ := he
      exact each_any n c A arg S _ hn.1 hV' hn.2 (fun i _ => ih i)
    have HE := Lib.hid he0
    clear h hV ih hm hA he0
    go_enter Tryz.func154, Tryz.ntmps154
    go_wp2_with fail
    refine (HE.out _ _).mono ?_
    rintro e w1 ⟨v, C, rfl, hown, hCl, hCv, hb1⟩
    obtain ⟨A', c', hv, hnc', hcm', hA'⟩ := own_any hown
    have hz1 : w.heap.size + 2 ≤ w1.heap.size := by have := hb1.size; simp at this; omega
    have HF := Lib.hid (fun (w2 : World) (hsz : w1.heap.size ≤ w2.heap.size) (hh : ∀ b, w.heap.size + 2 ≤ b → b < w1.heap.size → w2.heap[b]? = w1.heap[b]?) => isV_mono (S' := fun b => w.heap.size ≤ b) (isV_of_each (w2 := w2) (k := k) (m := m) (s := s) hv hown hCl hCv hsz (fun b hb hl => hh b (by simpa using hb) hl)) (fun b _ hb => by simp at hb; omega))
    have x0 : w1.cell? ⟨w.heap.size, 0, none⟩ = some (.int .i64 k) := (hb1.cell (p := ⟨_, _, none⟩) (by simp; omega)).trans (by simp)
    have x1 : w1.cell? ⟨w.heap.size, 1, none⟩ = some (.int .i64 m) := (hb1.cell (p := ⟨_, _, none⟩) (by simp; omega)).trans (by simp)
    have x2 : w1.cell? ⟨w.heap.size, 2, none⟩ = some (.string s) := (hb1.cell (p := ⟨_, _, none⟩) (by simp; omega)).trans (by simp)
    have x3 : w1.cell? ⟨w.heap.size, 3, none⟩ = some (.slice A n c) := (hb1.cell (p := ⟨_, _, none⟩) (by simp; omega)).trans (by simp)
    have y0 : w1.cell? ⟨w.heap.size + 1, 0, none⟩ = some (.int .i64 0) := (hb1.cell (p := ⟨_, _, none⟩) (by simp)).trans (by simp)
    have y1 : w1.cell? ⟨w.heap.size + 1, 1, none⟩ = some (.int .i64 0) := (hb1.cell (p := ⟨_, _, none⟩) (by simp)).trans (by simp)
    have y2 : w1.cell? ⟨w.heap.size + 1, 2, none⟩ = some (.string ⟨#[]⟩) := (hb1.cell (p := ⟨_, _, none⟩) (by simp)).trans (by simp)
    have y3 : w1.cell? ⟨w.heap.size + 1, 3, none⟩ = some (.slice none 0 0) := (hb1.cell (p := ⟨_, _, none⟩) (by simp)).trans (by simp)
    have fx : ∀ o, w1.frozen? ⟨w.heap.size, o, none⟩ = false := fun o => (hb1.frozen (p := ⟨_, _, none⟩) (by simp; omega)).trans (by simp)
    have fy : ∀ o, w1.frozen? ⟨w.heap.size + 1, o, none⟩ = false := fun o => (hb1.frozen (p := ⟨_, _, none⟩) (by simp)).trans (by simp)
    have HB := Lib.hid ((((Below.refl w.heap.size w).alloc (Nat.le_refl _) _).alloc (by simp) _).trans (hb1.mono (by simp; omega)))
    subst hv
    clear hown hCl hCv hb1
    go_wp2_with fail
    refine bodyPost_ret (v := .agg #[.int .i64 k, .int .i64 m, .string s, .slice A' n c']) (by simp [results, Tryz.results154, go_sem, y0, y1, y2, y3]) rfl ⟨[.int .i64 k, .int .i64 m, .string s, .slice A' n c'], rfl, HF.out _ (by simp) (fun b hb _ => ?_), ?_⟩
    · rw [Below.heap_setCell _ _ _ _ (by show b ≠ w.heap.size + 1; omega), Below.heap_setCell _ _ _ _ (by show b ≠ w.heap.size + 1; omega), Below.heap_setCell _ _ _ _ (by show b ≠ w.heap.size + 1; omega), Below.heap_setCell _ _ _ _ (by show b ≠ w.heap.size + 1; omega), Below.heap_setCell _ _ _ _ (by show b ≠ w.heap.size; omega)]
    · exact ((((HB.out.setCell (p := ⟨w.heap.size, 3, none⟩) (Nat.le_refl _) _).setCell (p := ⟨w.heap.size + 1, 0, none⟩) (Nat.le_succ _) _).setCell (p := ⟨w.heap.size + 1, 1, none⟩) (Nat.le_succ _) _).setCell (p := ⟨w.heap.size + 1, 2, none⟩) (Nat.le_succ _) _).setCell (p := ⟨w.heap.size + 1, 3, none⟩) (Nat.le_succ _) _
end Go.Proofs.YthgbcgphkddmgaaGreat
namespace Go.Proofs.YthgbcgphkddmgaaGreat
open Go.RowKit
set_option linter.unusedVariables false
structure LT where
  kind : Int
  frm : Int
  to : Int
  num : Int
  text : ByteArray
  val : VT
def LT.isL (w : World) (S : Nat → Prop) (l : LT) (cs : List Value) : Prop := ∃ k2 m2 s2 A2 n2 c2, cs = [.int .i64 l.kind, .int .i64 l.frm, .int .i64 l.to, .int .i64 l.num, .string l.text, .int .i64 k2, .int .i64 m2, .string s2, .slice A2 n2 c2] ∧ l.val.isV w S [.int .i64 k2, .int .i64 m2, .string s2, .slice A2 n2 c2]
theorem isL_len {w : World} {S : Nat → Prop} {l : LT} {cs : List Value} (h : l.isL w S cs) : cs.length = 9 := by
  obtain ⟨_, _, _, _, _, _, rfl, _⟩ := h; rfl
theorem isL_one {w : World} {S : Nat → Prop} {l : LT} {cs : List Value} (h : l.isL w S cs) : ∀ u ∈ cs, u.oneCell' = true := by
  obtain ⟨_, _, _, _, _, _, rfl, _⟩ := h
  intro u hu
  simp at hu
  rcases hu with rfl | rfl | rfl | rfl | rfl | rfl | rfl | rfl | rfl <;> rfl
theorem isL_frame {w w' : World} {S S' : Nat → Prop} (hsz : w.heap.size ≤ w'.heap.size) (hS : ∀ b, S b → b < w.heap.size → S' b ∧ w'.heap[b]? = w.heap[b]?) {l : LT} {cs : List Value} (h : l.isL w S cs) : l.isL w' S' cs := by
  obtain ⟨k2, m2, s2, A2, n2, c2, rfl, hv⟩ := h
  exact ⟨k2, m2, s2, A2, n2, c2, rfl, isV_frame hsz hS hv⟩
theorem isL_below {w w' : World} {S : Nat → Prop} {l : LT} {cs : List Value} (h : l.isL w S cs) (hb : Below w.heap.size w w') : l.isL w' S cs :=
  isL_frame hb.size (fun b hs hlt => ⟨hs, hb.block b hlt⟩) h
theorem infoL : (Tryz.prog.info? 154).map (fun i => (i.zero, i.size, i.bytes)) = some (some (.agg #[.int .i64 0, .int .i64 0, .int .i64 0, .int .i64 0, .string ⟨#[]⟩, .int .i64 0, .int .i64 0, .string ⟨#[]⟩, .slice none 0 0]), 9, 104) := by kernel_rfl
def LCopyPost (l : LT) (w : World) (e : Ending) (w' : World) : Prop := ∃ cs', e = .returned (.agg cs'.toArray) ∧ l.isL w' (fun b => w.heap.size ≤ b) cs' ∧ Below w.heap.size w w'
set_option maxRecDepth 100000 in
set_option maxHeartbeats 1000000 in
theorem lcopy_any (l : LT) (cs : List Value) (S : Nat → Prop) (w : World) (h : l.isL w S cs) (hm : l.val.many ≤ 4194304) : Calls Tryz.prog 162 #[.agg cs.toArray] w (LCopyPost l w) := by
  obtain ⟨k2, m2, s2, A2, n2, c2, rfl, hv⟩ := h
  have HC := Lib.hid (fun W hW => copy_any l.val [.int .i64 k2, .int .i64 m2, .string s2, .slice A2 n2 c2] S W hW hm)
  have HV := Lib.hid hv
  obtain ⟨k, f, t, n, s, val⟩ := l
  dsimp only at HC HV hm ⊢
  clear hv
  go_enter Tryz.func162, Tryz.ntmps162
  go_wp2_with fail
  refine (HC.out _ (isV_below HV.out (((Below.refl _ _).alloc (Nat.le_refl _) _).alloc (by simp) _))).mono ?_
  rintro e w1 ⟨cs', rfl, hV1, hb1⟩
  obtain ⟨k3, m3, s3, A3, n3, c3, rfl⟩ := isV_cells hV1
  have hz1 : w.heap.size + 2 ≤ w1.heap.size := by have := hb1.size; simp at this; omega
  have HF := Lib.hid (fun (w2 : World) (hsz : w1.heap.size ≤ w2.heap.size) (hh : ∀ b, w.heap.size + 2 ≤ b → b < w1.heap.size → w2.heap[b]? = w1.heap[b]?) => isV_frame (w' := w2) (S' := fun b => w.heap.size ≤ b) hsz (fun b hs hl => ⟨by simp at hs; omega, hh b (by simpa using hs) hl⟩) hV1)
  have x0 : w1.cell? ⟨w.heap.size, 0, none⟩ = some (.int .i64 k) := (hb1.cell (p := ⟨_, _, none⟩) (by simp; omega)).trans (by simp)
  have x1 : w1.cell? ⟨w.heap.size, 1, none⟩ = some (.int .i64 f) := (hb1.cell (p := ⟨_, _, none⟩) (by simp; omega)).trans (by simp)
  have x2 : w1.cell? ⟨w.heap.size, 2, none⟩ = some (.int .i64 t) := (hb1.cell (p := ⟨_, _, none⟩) (by simp; omega)).trans (by simp)
  have x3 : w1.cell? ⟨w.heap.size, 3, none⟩ = some (.int .i64 n) := (hb1.cell (p := ⟨_, _, none⟩) (by simp; omega)).trans (by simp)
  have x4 : w1.cell? ⟨w.heap.size, 4, none⟩ = some (.string s) := (hb1.cell (p := ⟨_, _, none⟩) (by simp; omega)).trans (by simp)
  have x5 : w1.cell? ⟨w.heap.size, 5, none⟩ = some (.int .i64 k2) := (hb1.cell (p := ⟨_, _, none⟩) (by simp; omega)).trans (by simp)
  have x6 : w1.cell? ⟨w.heap.size, 6, none⟩ = some (.int .i64 m2) := (hb1.cell (p := ⟨_, _, none⟩) (by simp; omega)).trans (by simp)
  have x7 : w1.cell? ⟨w.heap.size, 7, none⟩ = some (.string s2) := (hb1.cell (p := ⟨_, _, none⟩) (by simp; omega)).trans (by simp)
  have x8 : w1.cell? ⟨w.heap.size, 8, none⟩ = some (.slice A2 n2 c2) := (hb1.cell (p := ⟨_, _, none⟩) (by simp; omega)).trans (by simp)
  have y0 : w1.cell? ⟨w.heap.size + 1, 0, none⟩ = some (.int .i64 0) := (hb1.cell (p := ⟨_, _, none⟩) (by simp)).trans (by simp)
  have y1 : w1.cell? ⟨w.heap.size + 1, 1, none⟩ = some (.int .i64 0) := (hb1.cell (p := ⟨_, _, none⟩) (by simp)).trans (by simp)
  have y2 : w1.cell? ⟨w.heap.size + 1, 2, none⟩ = some (.int .i64 0) := (hb1.cell (p := ⟨_, _, none⟩) (by simp)).trans (by simp)
  have y3 : w1.cell? ⟨w.heap.size + 1, 3, none⟩ = some (.int .i64 0) := (hb1.cell (p := ⟨_, _, none⟩) (by simp)).trans (by simp)
  have y4 : w1.cell? ⟨w.heap.size + 1, 4, none⟩ = some (.string ⟨#[]⟩) := (hb1.cell (p := ⟨_, _, none⟩) (by simp)).trans (by simp)
  have y5 : w1.cell? ⟨w.heap.size + 1, 5, none⟩ = some (.int .i64 0) := (hb1.cell (p := ⟨_, _, none⟩) (by simp)).trans (by simp)
  have y6 : w1.cell? ⟨w.heap.size + 1, 6, none⟩ = some (.int .i64 0) := (hb1.cell (p := ⟨_, _, none⟩) (by simp)).trans (by simp)
  have y7 : w1.cell? ⟨w.heap.size + 1, 7, none⟩ = some (.string ⟨#[]⟩) := (hb1.cell (p := ⟨_, _, none⟩) (by simp)).trans (by simp)
  have y8 : w1.cell? ⟨w.heap.size + 1, 8, none⟩ = some (.slice none 0 0) := (hb1.cell (p := ⟨_, _, none⟩) (by simp)).trans (by simp)
  have fx : ∀ o, w1.frozen? ⟨w.heap.size, o, none⟩ = false := fun o => (hb1.frozen (p := ⟨_, _, none⟩) (by simp; omega)).trans (by simp)
  have fy : ∀ o, w1.frozen? ⟨w.heap.size + 1, o, none⟩ = false := fun o => (hb1.frozen (p := ⟨_, _, none⟩) (by simp)).trans (by simp)
  have HB := Lib.hid ((((Below.refl w.heap.size w).alloc (Nat.le_refl _) _).alloc (by simp) _).trans (hb1.mono (by simp; omega)))
  clear hV1 hb1
  go_wp2_with fail
  refine bodyPost_ret (v := .agg #[.int .i64 k, .int .i64 f, .int .i64 t, .int .i64 n, .string s, .int .i64 k3, .int .i64 m3, .string s3, .slice A3 n3 c3]) (by simp [results, Tryz.results162, go_sem, y0, y1, y2, y3, y4, y5, y6, y7, y8]) rfl ⟨[.int .i64 k, .int .i64 f, .int .i64 t, .int .i64 n, .string s, .int .i64 k3, .int .i64 m3, .string s3, .slice A3 n3 c3], rfl, ⟨k3, m3, s3, A3, n3, c3, rfl, HF.out _ (by simp) (fun b hb _ => ?_)⟩, ?_⟩
  · rw [Below.heap_setCell _ _ _ _ (by show b ≠ w.heap.size + 1; omega), Below.heap_setCell _ _ _ _ (by show b ≠ w.heap.size + 1; omega), Below.heap_setCell _ _ _ _ (by show b ≠ w.heap.size + 1; omega), Below.heap_setCell _ _ _ _ (by show b ≠ w.heap.size + 1; omega), Below.heap_setCell _ _ _ _ (by show b ≠ w.heap.size + 1; omega), Below.heap_setCell _ _ _ _ (by show b ≠ w.heap.size + 1; omega), Below.heap_setCell _ _ _ _ (by show b ≠ w.heap.size + 1; omega), Below.heap_setCell _ _ _ _ (by show b ≠ w.heap.size + 1; omega), Below.heap_setCell _ _ _ _ (by show b ≠ w.heap.size + 1; omega), Below.heap_setCell _ _ _ _ (by show b ≠ w.heap.size; omega), Below.heap_setCell _ _ _ _ (by show b ≠ w.heap.size; omega), Below.heap_setCell _ _ _ _ (by show b ≠ w.heap.size; omega), Below.heap_setCell _ _ _ _ (by show b ≠ w.heap.size; omega)]
  · exact (((((((((((((HB.out.setCell (p := ⟨w.heap.size, 5, none⟩) (Nat.le_refl _) _).setCell (p := ⟨w.heap.size, 6, none⟩) (Nat.le_refl _) _).setCell (p := ⟨w.heap.size, 7, none⟩) (Nat.le_refl _) _).setCell (p := ⟨w.heap.size, 8, none⟩) (Nat.le_refl _) _).setCell (p := ⟨w.heap.size + 1, 0, none⟩) (Nat.le_succ _) _).setCell (p := ⟨w.heap.size + 1, 1, none⟩) (Nat.le_succ _) _).setCell (p := ⟨w.heap.size + 1, 2, none⟩) (Nat.le_succ _) _).setCell (p := ⟨w.heap.size + 1, 3, none⟩) (Nat.le_succ _) _).setCell (p := ⟨w.heap.size + 1, 4, none⟩) (Nat.le_succ _) _).setCell (p := ⟨w.heap.size + 1, 5, none⟩) (Nat.le_succ _) _).setCell (p := ⟨w.heap.size + 1, 6, none⟩) (Nat.le_succ _) _).setCell (p := ⟨w.heap.size + 1, 7, none⟩) (Nat.le_succ _) _).setCell (p := ⟨w.heap.size + 1, 8, none⟩) (Nat.le_succ _) _)

def LEachPost (n : Nat) (arg : Nat → LT) (w : World) (e : Ending) (w' : World) : Prop :=
  ∃ v C, e = .returned v ∧ w'.ownsRow w.heap.size 154 9 v n (flatC C n) ∧ (∀ i, (C i).length = 9) ∧ (∀ i, i < n → (arg i).isL w' (fun b => w.heap.size ≤ b ∧ some b ≠ v.ownBlock) (C i)) ∧ Below w.heap.size w w'
theorem cell_nine_new (w : World) (a b c d e f g h i : Value) (t : TypeId) : ∀ j u, [a, b, c, d, e, f, g, h, i][j]? = some u → (w.alloc (.cells #[a, b, c, d, e, f, g, h, i] t)).cell? ((⟨w.heap.size, 0, none⟩ : Addr).add j) = some u := by
  intro j u hj
  match j, hj with
  | 0, hj => simp at hj; subst hj; simp [Addr.add]
  | 1, hj => simp at hj; subst hj; simp [Addr.add]
  | 2, hj => simp at hj; subst hj; simp [Addr.add]
  | 3, hj => simp at hj; subst hj; simp [Addr.add]
  | 4, hj => simp at hj; subst hj; simp [Addr.add]
  | 5, hj => simp at hj; subst hj; simp [Addr.add]
  | 6, hj => simp at hj; subst hj; simp [Addr.add]
  | 7, hj => simp at hj; subst hj; simp [Addr.add]
  | 8, hj => simp at hj; subst hj; simp [Addr.add]
theorem leach_step {wr w1 w2 : World} {base : Nat} {o o' : Obj} {v v' : Value} {t : LT} {cs : List Value} (hb1 : Below (wr.alloc o).heap.size (wr.alloc o) w1) (hg : (w1.alloc o').grownBy w2 v.ownBlock)
    (hat : v'.ownBlock = v.ownBlock ∨ v'.ownBlock = some (w1.alloc o').heap.size) (h : t.isL wr (fun b => base ≤ b ∧ some b ≠ v.ownBlock) cs) : t.isL w2 (fun b => base ≤ b ∧ some b ≠ v'.ownBlock) cs := by
  obtain ⟨k2, m2, s2, A2, n2, c2, rfl, hv⟩ := h
  exact ⟨k2, m2, s2, A2, n2, c2, rfl, each_step hb1 hg hat hv⟩
theorem leach_new {wr w1 w2 : World} {base : Nat} {o o' : Obj} {v v' : Value} {t : LT} {cs : List Value} (hbase : base ≤ wr.heap.size) (hv : ∀ k, v.ownBlock = some k → k < wr.heap.size) (hb1 : Below (wr.alloc o).heap.size (wr.alloc o) w1) (hg : (w1.alloc o').grownBy w2 v.ownBlock)
    (hat : v'.ownBlock = v.ownBlock ∨ v'.ownBlock = some (w1.alloc o').heap.size) (h : t.isL w1 (fun b => (wr.alloc o).heap.size ≤ b) cs) : t.isL w2 (fun b => base ≤ b ∧ some b ≠ v'.ownBlock) cs := by
  obtain ⟨k2, m2, s2, A2, n2, c2, rfl, h⟩ := h
  exact ⟨k2, m2, s2, A2, n2, c2, rfl, each_new hbase hv hb1 hg hat h⟩
theorem lcopy_enters : Enters Tryz.prog 162 := fun _ _ => by kernel_rfl
/-- letters that lie in a slice -/
def RdL (w : World) (S : Nat → Prop) (A : Option Addr) (n : Nat) (arg : Nat → LT) : Prop :=
  0 < n → ∃ b off, A = some ⟨b, off, none⟩ ∧ b < w.heap.size ∧ S b ∧ ∃ C : Nat → List Value, ∀ i, i < n → (arg i).isL w S (C i) ∧ ∀ j u, (C i)[j]? = some u → w.cell? ⟨b, off + i * 9 + j, none⟩ = some u
theorem RdL.frame {w w' : World} {S S' : Nat → Prop} {A : Option Addr} {n : Nat} {arg : Nat → LT} (h : RdL w S A n arg) (hsz : w.heap.size ≤ w'.heap.size) (hS : ∀ b, S b → b < w.heap.size → S' b ∧ w'.heap[b]? = w.heap[b]?) : RdL w' S' A n arg := fun h0 => by
  obtain ⟨b, off, hA, hb, hSb, C, hC⟩ := h h0
  obtain ⟨s1, s2⟩ := hS b hSb hb
  exact ⟨b, off, hA, by omega, s1, C, fun i hi => ⟨isL_frame hsz hS (hC i hi).1, fun j u hu => (World.cell?_of_block (a := ⟨b, _, none⟩) s2).trans ((hC i hi).2 j u hu)⟩⟩
theorem RdL.below {w w' : World} {S : Nat → Prop} {A : Option Addr} {n : Nat} {arg : Nat → LT} (h : RdL w S A n arg) (hb : Below w.heap.size w w') : RdL w' S A n arg := h.frame hb.size (fun b hs hlt => ⟨hs, hb.block b hlt⟩)
set_option maxRecDepth 100000 in
set_option maxHeartbeats 2000000 in
theorem leach_any (n c : Nat) (A : Option Addr) (arg : Nat → LT) (S : Nat → Prop) (w : World) (hn : n ≤ 4194304) (hV : RdL w S A n arg) (hm : ∀ i, i < n → (arg i).val.many ≤ 4194304) :
    Calls Tryz.prog 194 #[.slice A n c, .func (.func 162) #[] #[]] w (LEachPost n arg w) := by
  obtain ⟨i0, hi, jz0, jz1, jz2⟩ := info_parts infoL
  have HV := Lib.hid hV
  have HM := Lib.hid hm
  have HE := Lib.hid lcopy_enters
  clear hV hm
  go_enter Tryz.func194, Tryz.ntmps194
  go_wp2_with fail
  go_loopw [5, 7, 10] (fun v _ i wr => ∃ (q : Nat) (C : Nat → List Value), q ≤ n ∧ i = .int .i64 q ∧ wr.ownsRow w.heap.size 154 9 v q (flatC C q) ∧ (∀ i, (C i).length = 9) ∧ (∀ i, i < q → (arg i).isL wr (fun b => w.heap.size ≤ b ∧ some b ≠ v.ownBlock) (C i)) ∧ Below w.heap.size w wr) (fun _ _ i _ => n - (intOf i).toNat)
  case atStart => exact ⟨0, fun _ => List.replicate 9 undef, Nat.zero_le _, rfl, World.ownsRow_nil _ _ _ _, fun _ => by simp, fun i hi => by omega, Below.refl _ _⟩
  case round =>
    obtain ⟨q, C, hq, rfl, hown, hCl, hCv, hB⟩ := hrel
    by_cases hlt : q < n
    · obtain ⟨b, off, rfl, hb, hSb, D, hD⟩ := HV.out (by omega)
      obtain ⟨hDq, hcell⟩ := hD q hlt
      have hDr := isL_frame (w' := wr) (S' := S) hB.size (fun b hs hlt => ⟨hs, hB.block b hlt⟩) hDq
      have hDr' := hDr
      obtain ⟨k', m', s', A', n', c', hCq, _⟩ := hDr'
      obtain ⟨lq, hlq⟩ : ∃ x, arg q = x := ⟨_, rfl⟩
      have HMq := Lib.hid (HM.out q hlt)
      rw [hlq] at hCq hDr HMq
      have HLQ := Lib.hid hlq
      obtain ⟨k, f, t, num, s, val⟩ := lq
      dsimp only at hCq HMq
      rw [hCq] at hcell hDr
      have c0 : wr.cell? ⟨b, off + q * 9, none⟩ = some (.int .i64 k) := (hB.cell (p := ⟨b, _, none⟩) hb).trans (hcell 0 _ rfl)
      have c1 : wr.cell? ⟨b, off + q * 9 + 1, none⟩ = some (.int .i64 f) := (hB.cell (p := ⟨b, _, none⟩) hb).trans (hcell 1 _ rfl)
      have c2 : wr.cell? ⟨b, off + q * 9 + 2, none⟩ = some (.int .i64 t) := (hB.cell (p := ⟨b, _, none⟩) hb).trans (hcell 2 _ rfl)
      have c3 : wr.cell? ⟨b, off + q * 9 + 3, none⟩ = some (.int .i64 num) := (hB.cell (p := ⟨b, _, none⟩) hb).trans (hcell 3 _ rfl)
      have c4 : wr.cell? ⟨b, off + q * 9 + 4, none⟩ = some (.string s) := (hB.cell (p := ⟨b, _, none⟩) hb).trans (hcell 4 _ rfl)
      have c5 : wr.cell? ⟨b, off + q * 9 + 5, none⟩ = some (.int .i64 k') := (hB.cell (p := ⟨b, _, none⟩) hb).trans (hcell 5 _ rfl)
      have c6 : wr.cell? ⟨b, off + q * 9 + 6, none⟩ = some (.int .i64 m') := (hB.cell (p := ⟨b, _, none⟩) hb).trans (hcell 6 _ rfl)
      have c7 : wr.cell? ⟨b, off + q * 9 + 7, none⟩ = some (.string s') := (hB.cell (p := ⟨b, _, none⟩) hb).trans (hcell 7 _ rfl)
      have c8 : wr.cell? ⟨b, off + q * 9 + 8, none⟩ = some (.slice A' n' c') := (hB.cell (p := ⟨b, _, none⟩) hb).trans (hcell 8 _ rfl)
      have hBs := hB.size
      have HO := Lib.hid hown
      have HCL := Lib.hid hCl
      have HCV := Lib.hid hCv
      have HDR := Lib.hid hDr
      have hen := HE.out #[.agg #[.int .i64 k, .int .i64 f, .int .i64 t, .int .i64 num, .string s, .int .i64 k', .int .i64 m', .string s', .slice A' n' c']]
      clear hown hCl hCv hDr hD hDq hcell hCq hlq
      go_wp2_with fail
      refine (lcopy_any _ _ S _ (isL_below HDR.out ((Below.refl _ _).alloc (Nat.le_refl _) _)) HMq.out).mono ?_
      rintro e w1 ⟨cs', rfl, hV1, hb1⟩
      have hV1' := hV1
      obtain ⟨k3, m3, s3, A3, n3, c3', rfl, _⟩ := hV1'
      dsimp only at hV1 ⊢
      have hO1 := own_below ((HO.out).alloc (.cells #[.int .i64 k, .int .i64 f, .int .i64 t, .int .i64 num, .string s, .int .i64 k', .int .i64 m', .string s', .slice A' n' c'] 154)) hb1
      have HO1 := Lib.hid hO1
      have HV1 := Lib.hid hV1
      have HB1 := Lib.hid hb1
      have hz1 : w.heap.size ≤ w1.heap.size := by have := hb1.size; simp at this; omega
      have hlt5 := Lib.hid (fun k hk => (HO.out.lt k hk).2)
      clear hO1 hV1 hb1 hen c0 c1 c2 c3 c4 c5 c6 c7 c8
      go_wp2_with (at_builtin; refine wpList_append_own_at _ rfl _ _ 115 rfl w.heap.size 154 i0 _ 9 104 Tryz.underlying115 hi jz0 jz1 jz2 rfl (by omega) u5 q (flatC C q) rfl (HO1.out.alloc _) ⟨w1.heap.size, 0, none⟩ 1 1 [.int .i64 k, .int .i64 f, .int .i64 t, .int .i64 num, .string s, .int .i64 k3, .int .i64 m3, .string s3, .slice A3 n3 c3'] rfl rfl (cell_nine_new _ _ _ _ _ _ _ _ _ _ _) (isL_one HV1.out) (by unfold maxLen; omega) (by omega) (by simp; omega) ?_; intro v2 w2 hown2 hgrow2 _ hat2; rw [flatC_snoc] at hown2; have HO2 := Lib.hid hown2; have HG2 := Lib.hid hgrow2; have HA2 := Lib.hid hat2; clear hown2 hgrow2 hat2)
      go_roundw
      case rel =>
        refine ⟨q + 1, updC C q [.int .i64 k, .int .i64 f, .int .i64 t, .int .i64 num, .string s, .int .i64 k3, .int .i64 m3, .string s3, .slice A3 n3 c3'], by omega, by go_num, HO2.out, fun i => ?_, fun i hi => ?_, ?_⟩
        · unfold updC; split
          · rfl
          · exact HCL.out i
        · by_cases e : i = q
          · subst e
            simp only [updC, if_true]
            rw [HLQ.out]
            exact leach_new hBs hlt5.out HB1.out HG2.out HA2.out HV1.out
          · simp only [updC, e, if_false]
            exact leach_step HB1.out HG2.out HA2.out (HCV.out i (by omega))
        · exact (((hB.alloc hBs _).trans (HB1.out.mono (by simp; omega))).alloc hz1 _).grown HG2.out (by simp; omega) (fun k hk => (HO.out.lt k hk).1)
      case measure => simp [intOf]; omega
    · obtain rfl : q = n := by omega
      go_wp2_with fail
      go_ret
      exact ⟨_, C, rfl, hown, hCl, hCv, hB⟩
end Go.Proofs.YthgbcgphkddmgaaGreat
