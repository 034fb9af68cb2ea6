/- pick.Take: the state of its walk, and the plain facts. -/
import Derived.Test.YtjalgnpbdcefdaaPickSays
import Derived.Test.YtjalgnpbdcefdaaBox
import Derived.Test.YtjalgnpbdcefdaaFlat
import Derived.Test.YtjalgnpbdcefdaaRowOps
namespace Go.Proofs.Ytjalgnpbdcefdaa
open Go.RowKit
set_option linter.unusedVariables false
theorem says_many_le {l : LT} (h : l.val.many ≤ 4194304) : l.says.many ≤ 4194304 := by
  by_cases hk : l.kind = 2
  · rw [says_two hk]; simp [VT.many, sumTo]
  · rw [says_val hk]; exact h
theorem isL_grown {w w' : World} {S S' : Nat → Prop} {row : Option Nat} {l : LT} {cs : List Value} (h : l.isL w S cs) (hg : w.grownBy w' row) (hS : ∀ b, S b → b < w.heap.size → some b ≠ row ∧ S' b) : l.isL w' S' cs :=
  isL_frame hg.size (fun b hs hl => ⟨(hS b hs hl).2, hg.block b hl (hS b hs hl).1⟩) h
/-- letters without the one at a place -/
def cutA (arg : Nat → LT) (i : Nat) : Nat → LT := fun j => if j < i then arg j else arg (j + 1)
/-- what is asked from one place to another -/
def asks (arg : Nat → LT) (a b : Nat) : List VT := (List.range (b - a)).map (fun i => (arg (a + i)).says)
theorem asks_self (arg : Nat → LT) (a : Nat) : asks arg a a = [] := by simp [asks]
theorem asks_succ (arg : Nat → LT) {a b : Nat} (h : a ≤ b) : asks arg a (b + 1) = asks arg a b ++ [(arg b).says] := by
  unfold asks
  rw [show b + 1 - a = (b - a) + 1 by omega, List.range_succ, List.map_append]
  simp [show a + (b - a) = b by omega]
theorem asks_len (arg : Nat → LT) (a b : Nat) : (asks arg a b).length = b - a := by simp [asks]
/-- a function that is asked: what it answers, and what it changes -/
structure TakesOk (B fn : Nat) (cp : Array Value) (q : VT → Bool) (row : Option Nat) (I : List VT → World → Prop) : Prop where
  enters : Enters Try.prog fn
  low : ∀ k, row = some k → k < B
  keep : ∀ L W W', I L W → B ≤ W.heap.size → Below B W W' → I L W'
  call : ∀ L t cs S W, I L W → t.isV W S cs → t.many ≤ 4194304 → B ≤ W.heap.size → Calls Try.prog fn (#[.agg cs.toArray] ++ cp) W fun e W' => e = .returned (.bool (q t)) ∧ I (L ++ [t]) W' ∧ W.grownBy W' row
def zeroL : Value := .agg #[.int .i64 0, .int .i64 0, .int .i64 0, .int .i64 0, .string ⟨#[]⟩, .int .i64 0, .int .i64 0, .string ⟨#[]⟩, .slice none 0 0]
def TakeYes (n : Nat) (a : Nat) (arg : Nat → LT) (q : VT → Bool) (L : List VT) (row : Option Nat) (I : List VT → World → Prop) (w : World) (e : Ending) (w' : World) : Prop :=
  ∃ i, a ≤ i ∧ i < n ∧ (∀ j, a ≤ j → j < i → q (arg j).says = false) ∧ q (arg i).says = true ∧ ∃ A c xs, e = .returned (.tuple #[.agg #[.slice A (n - 1) c, .int .i64 0], .agg xs.toArray, .bool true, .int .i64 0]) ∧
    n - 1 ≤ c ∧ c ≤ 9223372036854775807 ∧ RdL w' (fun b => w.heap.size ≤ b) A (n - 1) (cutA arg i) ∧ (arg i).isL w' (fun b => w.heap.size ≤ b) xs ∧ I (L ++ asks arg a (i + 1)) w' ∧ w.grownBy w' row
def TakeNo (n : Nat) (a : Nat) (arg : Nat → LT) (q : VT → Bool) (L : List VT) (row : Option Nat) (I : List VT → World → Prop) (w : World) (e : Ending) (w' : World) : Prop :=
  (∀ j, a ≤ j → j < n → q (arg j).says = false) ∧ ∃ A c, e = .returned (.tuple #[.agg #[.slice A n c, .int .i64 (n : Int)], zeroL, .bool false, .int .i64 0]) ∧
    n ≤ c ∧ c ≤ 9223372036854775807 ∧ RdL w' (fun b => w.heap.size ≤ b) A n arg ∧ I (L ++ asks arg a n) w' ∧ w.grownBy w' row
def TakeErr (L : List VT) (row : Option Nat) (I : List VT → World → Prop) (w : World) (e : Ending) (w' : World) : Prop :=
  ∃ x : Int, x ≠ 0 ∧ e = .returned (.tuple #[.agg #[.slice none 0 0, .int .i64 0], zeroL, .bool false, .int .i64 x]) ∧ I L w' ∧ w.grownBy w' row
def TakePost (n : Nat) (at_ : Int) (arg : Nat → LT) (q : VT → Bool) (L : List VT) (row : Option Nat) (I : List VT → World → Prop) (w : World) (e : Ending) (w' : World) : Prop :=
  (¬ OkBox n at_ arg ∧ TakeErr L row I w e w') ∨ (OkBox n at_ arg ∧ (TakeYes n at_.toNat arg q L row I w e w' ∨ TakeNo n at_.toNat arg q L row I w e w'))
/-- the boxes of Take -/
structure KX (wx : World) (b : Nat) (v : Value) (at_ : Int) : Prop where
  c0 : wx.cell? ⟨b, 0, none⟩ = some v
  c1 : wx.cell? ⟨b, 1, none⟩ = some (.int .i64 at_)
  r0 : wx.cell? ⟨b + 1, 0, none⟩ = some (.slice none 0 0)
  r1 : wx.cell? ⟨b + 1, 1, none⟩ = some (.int .i64 0)
  rf : ∀ o, wx.frozen? ⟨b + 1, o, none⟩ = false
  y0 : wx.cell? ⟨b + 2, 0, none⟩ = some (.int .i64 0)
  y1 : wx.cell? ⟨b + 2, 1, none⟩ = some (.int .i64 0)
  y2 : wx.cell? ⟨b + 2, 2, none⟩ = some (.int .i64 0)
  y3 : wx.cell? ⟨b + 2, 3, none⟩ = some (.int .i64 0)
  y4 : wx.cell? ⟨b + 2, 4, none⟩ = some (.string ⟨#[]⟩)
  y5 : wx.cell? ⟨b + 2, 5, none⟩ = some (.int .i64 0)
  y6 : wx.cell? ⟨b + 2, 6, none⟩ = some (.int .i64 0)
  y7 : wx.cell? ⟨b + 2, 7, none⟩ = some (.string ⟨#[]⟩)
  y8 : wx.cell? ⟨b + 2, 8, none⟩ = some (.slice none 0 0)
  yf : ∀ o, wx.frozen? ⟨b + 2, o, none⟩ = false
  sz : b + 3 ≤ wx.heap.size
theorem KX.grown {wx wy : World} {b : Nat} {v : Value} {at_ : Int} {row : Option Nat} (h : KX wx b v at_) (hg : wx.grownBy wy row) (hr : ∀ k, row = some k → k < b ∨ b + 3 ≤ k) : KX wy b v at_ := by
  have hz := h.sz
  have k0 : ∀ j o, j < 3 → wy.cell? ⟨b + j, o, none⟩ = wx.cell? ⟨b + j, o, none⟩ := fun j o hj => grown_cell hg (by omega) (fun e => by have := hr _ e.symm; omega)
  have k1 : ∀ j o, j < 3 → wy.frozen? ⟨b + j, o, none⟩ = wx.frozen? ⟨b + j, o, none⟩ := fun j o hj => grown_frozen hg (by omega) (fun e => by have := hr _ e.symm; omega)
  exact ⟨(k0 0 0 (by omega)).trans h.c0, (k0 0 1 (by omega)).trans h.c1, (k0 1 0 (by omega)).trans h.r0, (k0 1 1 (by omega)).trans h.r1, fun o => (k1 1 o (by omega)).trans (h.rf o),
    (k0 2 0 (by omega)).trans h.y0, (k0 2 1 (by omega)).trans h.y1, (k0 2 2 (by omega)).trans h.y2, (k0 2 3 (by omega)).trans h.y3, (k0 2 4 (by omega)).trans h.y4, (k0 2 5 (by omega)).trans h.y5, (k0 2 6 (by omega)).trans h.y6, (k0 2 7 (by omega)).trans h.y7, (k0 2 8 (by omega)).trans h.y8, fun o => (k1 2 o (by omega)).trans (h.yf o), by have := hg.size; omega⟩
/-- a letter's cells in a row of the call's own -/
structure LRow (w : World) (base : Nat) (v : Value) (n : Nat) (C : Nat → List Value) (arg : Nat → LT) : Prop where
  row : w.ownsRow base 44 9 v n (flatC C n)
  len : ∀ i, (C i).length = 9
  each : ∀ i, i < n → (arg i).isL w (fun b => base ≤ b ∧ some b ≠ v.ownBlock) (C i)
theorem LRow.grown {w w' : World} {base n : Nat} {v : Value} {C : Nat → List Value} {arg : Nat → LT} {row : Option Nat} (h : LRow w base v n C arg) (hg : w.grownBy w' row) (hr : ∀ k, row = some k → k < base) : LRow w' base v n C arg :=
  ⟨own_grown h.row hg (fun k hk e => by have := hr k e; have := (h.row.lt k hk).1; omega), h.len, fun i hi => isL_grown (h.each i hi) hg (fun b hb _ => ⟨fun e => by have := hr b e.symm; omega, hb⟩)⟩
theorem LRow.rd {w : World} {base n c : Nat} {A : Option Addr} {C : Nat → List Value} {arg : Nat → LT} (h : LRow w base (.slice A n c) n C arg) : RdL w (fun b => base ≤ b) A n arg := fun h0 => by
  obtain ⟨g, cap, hv, hb, hlt, _⟩ := own_form h.row h0
  injection hv with e1 e2 e3
  subst e1 e3
  exact ⟨g, 0, rfl, hlt, hb, C, fun i hi => ⟨isL_frame (Nat.le_refl _) (fun b hs _ => ⟨hs.1, rfl⟩) (h.each i hi), fun j u hu => by
    have hj : j < 9 := by
      rcases Nat.lt_or_ge j 9 with hh | hh
      · exact hh
      · rw [List.getElem?_eq_none (by rw [h.len]; exact hh)] at hu; cases hu
    rw [Nat.zero_add, own_cellC h.row h.len hi hj]
    exact hu⟩⟩
/-- the cells from a place on -/
def restC (C : Nat → List Value) (n i : Nat) : List Value := flatC (fun k => C (i + 1 + k)) (n - (i + 1))
structure CutOk (wr : World) (g n c i : Nat) (C : Nat → List Value) (A : Addr) : Prop where
  len : (restC C n i).length = (n - (i + 1)) * 9
  one : ∀ u ∈ restC C n i, u.oneCell' = true
  src : ∀ t u, (restC C n i)[t]? = some u → wr.cell? (A.add t) = some u
  room : ∀ t, t < (restC C n i).length → (wr.cell? ⟨g, 0 + i * 9 + t, none⟩).isSome = true ∧ wr.frozen? ⟨g, 0 + i * 9 + t, none⟩ = false
theorem cut_ok {wr : World} {base g n c i : Nat} {C : Nat → List Value} {arg : Nat → LT} (h : LRow wr base (.slice (some ⟨g, 0, none⟩) n c) n C arg) (hi : i < n) :
    ∃ A : Addr, (if c = i + 1 then some (⟨g, 0, none⟩ : Addr) else some ⟨g, (i + 1) * 9, none⟩) = some A ∧ CutOk wr g n c i C A := by
  have hc := own_cap h.row
  have hl : (restC C n i).length = (n - (i + 1)) * 9 := flatC_length (fun k => h.len _) _
  have hcell : ∀ k, k < n → ∀ j, j < 9 → wr.cell? ⟨g, k * 9 + j, none⟩ = (C k)[j]? := fun k hk j hj => own_cellC h.row h.len hk hj
  have hone : ∀ u ∈ restC C n i, u.oneCell' = true := fun u hu => by
    obtain ⟨k, hk, hm⟩ := flatC_mem hu
    exact isL_one (h.each (i + 1 + k) (by omega)) u hm
  have hroom : ∀ t, t < (restC C n i).length → (wr.cell? ⟨g, 0 + i * 9 + t, none⟩).isSome = true ∧ wr.frozen? ⟨g, 0 + i * 9 + t, none⟩ = false := fun t ht => by
    rw [hl] at ht
    refine ⟨?_, h.row.frozenAt _⟩
    have e : 0 + i * 9 + t = (i + t / 9) * 9 + t % 9 := by omega
    rw [e, hcell _ (by omega) _ (by omega), List.getElem?_eq_getElem (by rw [h.len]; omega)]
    rfl
  by_cases e : c = i + 1
  · refine ⟨⟨g, 0, none⟩, by simp [e], hl, hone, fun t u hu => ?_, hroom⟩
    have h0 : (restC C n i).length = 0 := by rw [hl]; omega
    rw [List.length_eq_zero_iff.1 h0] at hu
    simp at hu
  · refine ⟨⟨g, (i + 1) * 9, none⟩, by simp [e], hl, hone, fun t u hu => ?_, hroom⟩
    have ht : t < (n - (i + 1)) * 9 := by
      rw [← hl]
      exact (List.getElem?_eq_some_iff.1 hu).1
    rw [Addr.add_lit]
    have e2 : (i + 1) * 9 + t = (i + 1 + t / 9) * 9 + t % 9 := by omega
    have e3 : t = (t / 9) * 9 + t % 9 := by omega
    rw [e2, hcell _ (by omega) _ (by omega)]
    rw [e3] at hu
    unfold restC at hu
    rw [flatC_get (fun k => h.len _) (by omega) (by omega)] at hu
    exact hu
/-- the row with the letter cut out -/
theorem cut_rd {wr wy : World} {base g n c i B : Nat} {C : Nat → List Value} {arg : Nat → LT} (h : LRow wr base (.slice (some ⟨g, 0, none⟩) n c) n C arg) (hi : i < n) (hB : B ≤ base) (hsz : wr.heap.size ≤ wy.heap.size)
    (hk : ∀ b, base ≤ b → b < wr.heap.size → wy.heap[b]? = (wr.setCells g (0 + i * 9) (restC C n i)).heap[b]?) : RdL wy (fun b => B ≤ b) (some ⟨g, 0, none⟩) (n - 1) (cutA arg i) := fun _ => by
  have hg := own_lt h.row
  have hl : (restC C n i).length = (n - (i + 1)) * 9 := flatC_length (fun k => h.len _) _
  have hrow := h.row
  rcases hrow.2 with ⟨h', _⟩ | ⟨g', cap', cur, hv, hb, hgr, hnc, hcm, hcs, ht⟩
  · cases h'
  injection hv with e1 e2 e3
  injection e1 with e1
  injection e1 with e1
  subst e1 e3
  have hxl := hrow.1
  have hnew := setCells_heap (w := wr) (vs := restC C n i) (o := 0 + i * 9) hgr (by rw [hl]; have := Nat.mul_le_mul_right 9 hnc; omega)
  have hy := (hk g hg.1 hg.2).trans hnew
  refine ⟨g, 0, rfl, by omega, by omega, fun j => if j < i then C j else C (j + 1), fun j hj => ⟨?_, fun t u hu => ?_⟩⟩
  · have hfr : ∀ k, (k < n) → (arg k).isL wy (fun b => B ≤ b) (C k) := fun k hk' => isL_frame hsz (fun b hs hlt => ⟨by omega, by
      rw [hk b hs.1 hlt]
      exact (grown_setCells wr g _ _).block b hlt (by simpa [Value.ownBlock] using hs.2)⟩) (h.each k hk')
    unfold cutA
    by_cases e : j < i
    · simp only [e, if_true]; exact hfr j (by omega)
    · simp only [e, if_false]; exact hfr (j + 1) (by omega)
  · have ht9 : t < 9 := by
      rcases Nat.lt_or_ge t 9 with hh | hh
      · exact hh
      · dsimp only at hu
        split at hu
        · rw [List.getElem?_eq_none (by rw [h.len]; exact hh)] at hu; cases hu
        · rw [List.getElem?_eq_none (by rw [h.len]; exact hh)] at hu; cases hu
    rw [Nat.zero_add, cell_of_row hy]
    have hn9 := Nat.mul_le_mul_right 9 hnc
    have htk : (cur.toList.take (0 + i * 9)).length = i * 9 := by rw [List.length_take, Array.length_toList]; omega
    rw [← Array.getElem?_toList]
    show (cur.toList.take (0 + i * 9) ++ restC C n i ++ cur.toList.drop (0 + i * 9 + (restC C n i).length))[j * 9 + t]? = some u
    by_cases e : j < i
    · simp only [e, if_true] at hu
      rw [List.append_assoc, List.getElem?_append_left (by rw [htk]; omega), List.getElem?_take_of_lt (by omega)]
      have h1 : (flatC C n)[j * 9 + t]? = (C j)[t]? := flatC_get h.len (by omega) ht9
      rw [← ht, List.getElem?_take_of_lt (by omega)] at h1
      rw [h1]; exact hu
    · simp only [e, if_false] at hu
      rw [List.append_assoc, List.getElem?_append_right (by rw [htk]; omega), htk, List.getElem?_append_left (by rw [hl]; omega)]
      have e2 : j * 9 + t - i * 9 = (j - i) * 9 + t := by omega
      rw [e2]
      unfold restC
      rw [flatC_get (fun k => h.len _) (by omega) ht9, show i + 1 + (j - i) = j + 1 by omega]
      exact hu
end Go.Proofs.Ytjalgnpbdcefdaa
