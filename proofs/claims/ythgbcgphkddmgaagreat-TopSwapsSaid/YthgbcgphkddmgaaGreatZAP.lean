/- pick.Take with a bound method that may write. An actor wakes. An actor wakes: the walk. -/
import Derived.Test.YthgbcgphkddmgaaGreatZAF
import Derived.Test.YthgbcgphkddmgaaGreatZAL
import Derived.Deep.DeepCutAuto
import Derived.Deep.RegionLaw
import Derived.Test.YthgbcgphkddmgaaGreatZAN
import Derived.Test.YthgbcgphkddmgaaGreatZAD
namespace Go.Proofs.YthgbcgphkddmgaaGreat
open Go.RowKit
set_option linter.unusedVariables false
set_option linter.unusedSimpArgs false
theorem blk_set {W wr : World} {b k o : Nat} {u : Value} (h : W.heap[b]? = wr.heap[b]?) (hne : b ≠ k) : (W.setCell ⟨k, o, none⟩ u).heap[b]? = wr.heap[b]? := (Below.heap_setCell W ⟨k, o, none⟩ u b hne).trans h
theorem Fr.next {S : Nat → Prop} {w w1 w2 : World} (h : Fr S w w1) (hb : Below w.heap.size w1 w2) : Fr S w w2 := ⟨hb.os.trans h.os, hb.tape.trans h.tape, hb.output.trans h.output, Nat.le_trans h.size hb.size, fun k hk hne => (hb.block k hk).trans (h.block k hk hne)⟩
theorem KX.fr {S : Nat → Prop} {wx wy : World} {b : Nat} {v : Value} {at_ : Int} (h : KX wx b v at_) (hf : Fr S wx wy) (hr : ∀ k, S k → k < b) : KX wy b v at_ := by
  have hz := h.sz
  have hn : ∀ j, ¬ S (b + j) := fun j hs => by have := hr _ hs; omega
  exact ⟨hf.cell h.c0 (hn 0), hf.cell h.c1 (hn 0), hf.cell h.r0 (hn 1), hf.cell h.r1 (hn 1), fun o => (hf.frozen (by omega) (hn 1)).trans (h.rf o), hf.cell h.y0 (hn 2), hf.cell h.y1 (hn 2), hf.cell h.y2 (hn 2), hf.cell h.y3 (hn 2), hf.cell h.y4 (hn 2), hf.cell h.y5 (hn 2), hf.cell h.y6 (hn 2), hf.cell h.y7 (hn 2), hf.cell h.y8 (hn 2), fun o => (hf.frozen (by omega) (hn 2)).trans (h.yf o), by have := hf.size; omega⟩
theorem LRow.fr {S : Nat → Prop} {w w' : World} {base n : Nat} {v : Value} {C : Nat → List Value} {arg : Nat → LT} (h : LRow w base v n C arg) (hf : Fr S w w') (hr : ∀ k, S k → k < base) : LRow w' base v n C arg :=
  ⟨hf.row h.row (fun k hk e => by have := hr k e; have := (h.row.lt k hk).1; omega), h.len, fun i hi => isL_frame hf.size (fun b hb hlt => ⟨hb, hf.block b hlt (fun hs => by have := hr b hs; omega)⟩) (h.each i hi)⟩
/-- the row with the letter cut out -/
theorem cut_rd2 {wr wy : World} {base g n c i B top : Nat} {C : Nat → List Value} {arg : Nat → LT} (h : LRow wr base (.slice (some ⟨g, 0, none⟩) n c) n C arg) (hE : ∀ i, i < n → (arg i).isL wr (fun b => base ≤ b ∧ b < top ∧ some b ≠ (Value.slice (some ⟨g, 0, none⟩) n c).ownBlock) (C i)) (hi : i < n) (hgt : g < top) (hB : B ≤ base) (hsz : wr.heap.size ≤ wy.heap.size)
    (hk : ∀ b, base ≤ b → b < wr.heap.size → wy.heap[b]? = (wr.setCells g (0 + i * 9) (restC C n i)).heap[b]?) : RdL wy (fun b => B ≤ b ∧ b < top) (some ⟨g, 0, none⟩) (n - 1) (cutA arg i) := fun _ => by
  have hg := own_lt h.row
  have hl : (restC C n i).length = (n - (i + 1)) * 9 := flatC_length (fun k => h.len _) _
  have hrow := h.row
  rcases hrow.2 with ⟨h', _⟩ | ⟨g', cap', cur, hv, hb, hgr, hnc, hcm, hcs, ht⟩
  · cases h'
  injection hv with e1 e2 e3
  injection e1 with e1
  injection e1 with e1
  subst e1 e3
  have hxl := hrow.1
  have hnew := setCells_heap (w := wr) (vs := restC C n i) (o := 0 + i * 9) hgr (by rw [hl]; have := Nat.mul_le_mul_right 9 hnc; omega)
  have hy := (hk g hg.1 hg.2).trans hnew
  refine ⟨g, 0, rfl, by omega, ⟨by omega, hgt⟩, fun j => if j < i then C j else C (j + 1), fun j hj => ⟨?_, fun t u hu => ?_⟩⟩
  · have hfr : ∀ k, (k < n) → (arg k).isL wy (fun b => B ≤ b ∧ b < top) (C k) := fun k hk' => isL_frame hsz (fun b hs hlt => ⟨⟨by omega, hs.2.1⟩, by
      rw [hk b hs.1 hlt]
      exact (grown_setCells wr g _ _).block b hlt (by simpa [Value.ownBlock] using hs.2.2)⟩) (hE k hk')
    unfold cutA
    by_cases e : j < i
    · simp only [e, if_true]; exact hfr j (by omega)
    · simp only [e, if_false]; exact hfr (j + 1) (by omega)
  · have ht9 : t < 9 := by
      rcases Nat.lt_or_ge t 9 with hh | hh
      · exact hh
      · dsimp only at hu
        split at hu
        · rw [List.getElem?_eq_none (by rw [h.len]; exact hh)] at hu; cases hu
        · rw [List.getElem?_eq_none (by rw [h.len]; exact hh)] at hu; cases hu
    rw [Nat.zero_add, cell_of_row hy]
    have hn9 := Nat.mul_le_mul_right 9 hnc
    have htk : (cur.toList.take (0 + i * 9)).length = i * 9 := by rw [List.length_take, Array.length_toList]; omega
    rw [← Array.getElem?_toList]
    show (cur.toList.take (0 + i * 9) ++ restC C n i ++ cur.toList.drop (0 + i * 9 + (restC C n i).length))[j * 9 + t]? = some u
    by_cases e : j < i
    · simp only [e, if_true] at hu
      rw [List.append_assoc, List.getElem?_append_left (by rw [htk]; omega), List.getElem?_take_of_lt (by omega)]
      have h1 : (flatC C n)[j * 9 + t]? = (C j)[t]? := flatC_get h.len (by omega) ht9
      rw [← ht, List.getElem?_take_of_lt (by omega)] at h1
      rw [h1]; exact hu
    · simp only [e, if_false] at hu
      rw [List.append_assoc, List.getElem?_append_right (by rw [htk]; omega), htk, List.getElem?_append_left (by rw [hl]; omega)]
      have e2 : j * 9 + t - i * 9 = (j - i) * 9 + t := by omega
      rw [e2]
      unfold restC
      rw [flatC_get (fun k => h.len _) (by omega) ht9, show i + 1 + (j - i) = j + 1 by omega]
      exact hu
/-- a bound method that is asked: what it answers, and what it changes -/
structure TakesB (B fn : Nat) (pv : Value) (q : VT → Bool) (Sq : Nat → Prop) (I : Nat → List VT → World → Prop) : Prop where
  enters : Enters Tryz.prog fn
  low : ∀ k, Sq k → k < B
  keep : ∀ L W W', I 0 L W → (∀ x, x ∈ L → q x = false) → B ≤ W.heap.size → Below B W W' → I 0 L W'
  call : ∀ L t cs W, I 0 L W → (∀ x, x ∈ L → q x = false) → t.isV W (fun b => B ≤ b) cs → t.many ≤ 4194304 → B ≤ W.heap.size → Calls Tryz.prog fn #[pv, .agg cs.toArray] W fun e W' => e = .returned (.bool (q t)) ∧ (∀ W2, Fr (fun k => B ≤ k ∧ k < W.heap.size) W' W2 → I (if q t = true then W.heap.size else 0) (L ++ [t]) W2) ∧ Fr Sq W W'
def TakYes (n : Nat) (a : Nat) (arg : Nat → LT) (q : VT → Bool) (Sq : Nat → Prop) (I : Nat → List VT → World → Prop) (w : World) (e : Ending) (w' : World) : Prop :=
  ∃ i, a ≤ i ∧ i < n ∧ (∀ j, a ≤ j → j < i → q (arg j).says = false) ∧ q (arg i).says = true ∧ ∃ A c xs mk, e = .returned (.tuple #[.agg #[.slice A (n - 1) c, .int .i64 0], .agg xs.toArray, .bool true, .int .i64 0]) ∧
    w.heap.size ≤ mk ∧ n - 1 ≤ c ∧ c ≤ 9223372036854775807 ∧ RdL w' (fun b => w.heap.size ≤ b ∧ b < mk) A (n - 1) (cutA arg i) ∧ (arg i).isL w' (fun b => w.heap.size ≤ b ∧ b < mk) xs ∧ I mk (asks arg a (i + 1)) w' ∧ Fr Sq w w'
def TakNo (n : Nat) (a : Nat) (arg : Nat → LT) (q : VT → Bool) (Sq : Nat → Prop) (I : Nat → List VT → World → Prop) (w : World) (e : Ending) (w' : World) : Prop :=
  (∀ j, a ≤ j → j < n → q (arg j).says = false) ∧ ∃ A c, e = .returned (.tuple #[.agg #[.slice A n c, .int .i64 (n : Int)], zeroL, .bool false, .int .i64 0]) ∧
    n ≤ c ∧ c ≤ 9223372036854775807 ∧ RdL w' (fun b => w.heap.size ≤ b) A n arg ∧ I 0 (asks arg a n) w' ∧ Fr Sq w w'
def TakErr (Sq : Nat → Prop) (I : Nat → List VT → World → Prop) (w : World) (e : Ending) (w' : World) : Prop :=
  ∃ x : Int, x ≠ 0 ∧ e = .returned (.tuple #[.agg #[.slice none 0 0, .int .i64 0], zeroL, .bool false, .int .i64 x]) ∧ I 0 [] w' ∧ Fr Sq w w'
def TakPost (n : Nat) (at_ : Int) (arg : Nat → LT) (q : VT → Bool) (Sq : Nat → Prop) (I : Nat → List VT → World → Prop) (w : World) (e : Ending) (w' : World) : Prop :=
  (¬ OkBox n at_ arg ∧ TakErr Sq I w e w') ∨ (OkBox n at_ arg ∧ (TakYes n at_.toNat arg q Sq I w e w' ∨ TakNo n at_.toNat arg q Sq I w e w'))
theorem asks_no {arg : Nat → LT} {q : VT → Bool} {a k : Nat} (h : ∀ j, a ≤ j → j < k → q (arg j).says = false) : ∀ x, x ∈ asks arg a k → q x = false := by
  intro x hx
  unfold asks at hx
  obtain ⟨i, hi, rfl⟩ := List.mem_map.1 hx
  have := List.mem_range.1 hi
  exact h _ (by omega) (by omega)
set_option maxHeartbeats 8000000 in
set_option maxRecDepth 100000 in
theorem takeB_any (n c : Nat) (A : Option Addr) (at_ : Int) (arg : Nat → LT) (S : Nat → Prop) (B fn : Nat) (pv : Value) (q : VT → Bool) (Sq : Nat → Prop) (I : Nat → List VT → World → Prop) (w : World)
    (hnc : n ≤ c) (hcm : c ≤ 9223372036854775807) (hR : RdL w S A n arg) (hm : ∀ i, i < n → (arg i).val.many ≤ 4194304) (hT : TakesB B fn pv q Sq I) (hI : I 0 [] w) (hB : B ≤ w.heap.size) :
    Calls Tryz.prog 158 #[.agg #[.slice A n c, .int .i64 at_], .func (.func fn) #[pv] #[]] w (TakPost n at_ arg q Sq I w) := by
  have HR := Lib.hid hR
  have HM := Lib.hid hm
  have HT := Lib.hid hT
  have HI := Lib.hid hI
  clear hR hm hT hI
  obtain ⟨W0, hW0⟩ : ∃ W0, W0 = ((w.alloc (.cells #[.slice A n c, .int .i64 at_] 146)).alloc (.cells #[.slice none 0 0, .int .i64 0] 146)).alloc (.cells #[.int .i64 0, .int .i64 0, .int .i64 0, .int .i64 0, .string ⟨#[]⟩, .int .i64 0, .int .i64 0, .string ⟨#[]⟩, .slice none 0 0] 154) := ⟨_, rfl⟩
  have HK0 := Lib.hid (show KX W0 w.heap.size (.slice A n c) at_ by
    rw [hW0]
    constructor
    any_goals (first | simp [go_sem] | (intro o; simp [go_sem])))
  have HB0 := Lib.hid (show Below w.heap.size w W0 by rw [hW0]; exact (((Below.refl _ _).alloc (Nat.le_refl _) _).alloc (by simp) _).alloc (by simp; omega) _)
  obtain ⟨b0, b1, r0, r1, rf, y0, y1, y2, y3, y4, y5, y6, y7, y8, yf, bz⟩ := HK0.out
  go_enter Tryz.func158, Tryz.ntmps158
  go_wp2_with fail
  rw [← hW0]
  clear hW0
  refine (boxCheck_any n c A at_ arg S _ (by omega) (HR.out.below HB0.out)).mono ?_
  rintro e w1 ⟨x, rfl, hx, hb1⟩
  have HX := Lib.hid hx
  have HK1 := Lib.hid (HK0.out.grown (grown_below (g := none) hb1) (by simp))
  have HB1 := Lib.hid (HB0.out.trans (hb1.mono HB0.out.size))
  clear hx hb1 b0 b1 r0 r1 rf y0 y1 y2 y3 y4 y5 y6 y7 y8 yf bz
  obtain ⟨b0, b1, r0, r1, rf, y0, y1, y2, y3, y4, y5, y6, y7, y8, yf, bz⟩ := HK1.out
  by_cases hx0 : x = 0
  rotate_left
  · have e0 : (x != 0) = true := by simpa using hx0
    have HX0 := Lib.hid hx0
    have x0 : (w1.cell? ⟨w.heap.size + 1, 0, none⟩).isSome = true := by rw [r0]; rfl
    have x1 : (w1.cell? ⟨w.heap.size + 1, 1, none⟩).isSome = true := by rw [r1]; rfl
    have s0 : (w1.cell? ⟨w.heap.size + 2, 0, none⟩).isSome = true := by rw [y0]; rfl
    have s1 : (w1.cell? ⟨w.heap.size + 2, 1, none⟩).isSome = true := by rw [y1]; rfl
    have s2 : (w1.cell? ⟨w.heap.size + 2, 2, none⟩).isSome = true := by rw [y2]; rfl
    have s3 : (w1.cell? ⟨w.heap.size + 2, 3, none⟩).isSome = true := by rw [y3]; rfl
    have s4 : (w1.cell? ⟨w.heap.size + 2, 4, none⟩).isSome = true := by rw [y4]; rfl
    have s5 : (w1.cell? ⟨w.heap.size + 2, 5, none⟩).isSome = true := by rw [y5]; rfl
    have s6 : (w1.cell? ⟨w.heap.size + 2, 6, none⟩).isSome = true := by rw [y6]; rfl
    have s7 : (w1.cell? ⟨w.heap.size + 2, 7, none⟩).isSome = true := by rw [y7]; rfl
    have s8 : (w1.cell? ⟨w.heap.size + 2, 8, none⟩).isSome = true := by rw [y8]; rfl
    have FIN := Lib.hid (show ∀ W', Below w.heap.size w W' → TakPost n at_ arg q Sq I w (.returned (.tuple #[.agg #[.slice none 0 0, .int .i64 0], .agg #[.int .i64 0, .int .i64 0, .int .i64 0, .int .i64 0, .string ⟨#[]⟩, .int .i64 0, .int .i64 0, .string ⟨#[]⟩, .slice none 0 0], .bool false, .int .i64 x])) W' from fun W' hb =>
      .inl ⟨fun h => HX0.out (HX.out.2 h), x, HX0.out, rfl, HT.out.keep _ _ _ HI.out (fun _ h => by cases h) hB (hb.mono hB), Fr.of_below hb⟩)
    clear hx0
    go_wp2_with fail
    refine bodyPost_ret (v := .tuple #[.agg #[.slice none 0 0, .int .i64 0], .agg #[.int .i64 0, .int .i64 0, .int .i64 0, .int .i64 0, .string ⟨#[]⟩, .int .i64 0, .int .i64 0, .string ⟨#[]⟩, .slice none 0 0], .bool false, .int .i64 x]) (by simp [results, Tryz.results158, go_sem, x0, x1, s0, s1, s2, s3, s4, s5, s6, s7, s8]) rfl ?_
    refine FIN.out _ ?_
    iterate 11 (refine below_set ?_ (by omega))
    exact HB1.out
  subst hx0
  have HOK := Lib.hid (HX.out.1 rfl)
  obtain ⟨a, rfl⟩ : ∃ a : Nat, at_ = a := ⟨at_.toNat, by have := HOK.out.2.1; omega⟩
  have hn60 := HOK.out.1
  have han : a ≤ n := by have := HOK.out.2.2.1; omega
  go_wp2_with fail
  refine (leach_any n c A arg S _ (by omega) (HR.out.below HB1.out) HM.out).mono ?_
  rintro e w2 ⟨v, C, rfl, hown, hCl, hCv, hb2⟩
  obtain ⟨A2, cap, rfl, hnc2, hcm2, hA2⟩ := own_any hown
  have HLR := Lib.hid (LRow.mk (arg := arg) hown hCl hCv)
  have HK2 := Lib.hid (HK1.out.grown (grown_below (g := none) hb2) (by simp))
  have HB2 := Lib.hid (HB1.out.trans (hb2.mono HB1.out.size))
  have hz2 := hb2.size
  have hz1 := bz
  clear hown hCl hCv hb2 b0 b1 r0 r1 rf y0 y1 y2 y3 y4 y5 y6 y7 y8 yf bz
  obtain ⟨b0, b1, r0, r1, rf, y0, y1, y2, y3, y4, y5, y6, y7, y8, yf, bz⟩ := HK2.out
  go_wp2_with fail
  go_loopw [10, 11] (fun i _ wr => ∃ k : Nat, a ≤ k ∧ k ≤ n ∧ i = .int .i64 (k : Int) ∧ (∀ j, a ≤ j → j < k → q (arg j).says = false) ∧ KX wr w.heap.size (.slice A n c) a ∧ LRow wr w1.heap.size (.slice A2 n cap) n C arg ∧ I 0 (asks arg a k) wr ∧ Fr Sq w wr ∧ w1.heap.size ≤ wr.heap.size) (fun i _ _ => n - (intOf i).toNat)
  case atStart =>
    refine ⟨a, Nat.le_refl _, han, rfl, fun j h1 h2 => by omega, HK2.out, HLR.out, ?_, Fr.of_below HB2.out, hz2⟩
    rw [asks_self]
    exact HT.out.keep _ _ _ HI.out (fun _ h => by cases h) hB (HB2.out.mono hB)
  case round =>
    obtain ⟨k, hak, hkn, rfl, hlow, hK, hLR, hIk, hG, hzr⟩ := hrel
    have HLO := Lib.hid hlow
    have HKR := Lib.hid hK
    have HLQ := Lib.hid hLR
    have HIK := Lib.hid hIk
    have HG := Lib.hid hG
    clear hlow hK hLR hIk hG b0 b1 r0 r1 rf y0 y1 y2 y3 y4 y5 y6 y7 y8 yf bz
    by_cases hlt : k < n
    rotate_left
    · obtain rfl : k = n := by omega
      obtain ⟨b0, b1, r0, r1, rf, y0, y1, y2, y3, y4, y5, y6, y7, y8, yf, bz⟩ := HKR.out
      have x0 : (wr.cell? ⟨w.heap.size + 1, 0, none⟩).isSome = true := by rw [r0]; rfl
      have x1 : (wr.cell? ⟨w.heap.size + 1, 1, none⟩).isSome = true := by rw [r1]; rfl
      have s0 : (wr.cell? ⟨w.heap.size + 2, 0, none⟩).isSome = true := by rw [y0]; rfl
      have s1 : (wr.cell? ⟨w.heap.size + 2, 1, none⟩).isSome = true := by rw [y1]; rfl
      have s2 : (wr.cell? ⟨w.heap.size + 2, 2, none⟩).isSome = true := by rw [y2]; rfl
      have s3 : (wr.cell? ⟨w.heap.size + 2, 3, none⟩).isSome = true := by rw [y3]; rfl
      have s4 : (wr.cell? ⟨w.heap.size + 2, 4, none⟩).isSome = true := by rw [y4]; rfl
      have s5 : (wr.cell? ⟨w.heap.size + 2, 5, none⟩).isSome = true := by rw [y5]; rfl
      have s6 : (wr.cell? ⟨w.heap.size + 2, 6, none⟩).isSome = true := by rw [y6]; rfl
      have s7 : (wr.cell? ⟨w.heap.size + 2, 7, none⟩).isSome = true := by rw [y7]; rfl
      have s8 : (wr.cell? ⟨w.heap.size + 2, 8, none⟩).isSome = true := by rw [y8]; rfl
      have hB' : B ≤ wr.heap.size := by have := HG.out.size; omega
      have FIN := Lib.hid (show ∀ W', Below w.heap.size wr W' → (∀ b, w1.heap.size ≤ b → b < wr.heap.size → W'.heap[b]? = wr.heap[b]?) → TakPost k a arg q Sq I w (.returned (.tuple #[.agg #[.slice A2 k cap, .int .i64 (k : Int)], .agg #[.int .i64 0, .int .i64 0, .int .i64 0, .int .i64 0, .string ⟨#[]⟩, .int .i64 0, .int .i64 0, .string ⟨#[]⟩, .slice none 0 0], .bool false, .int .i64 0])) W' from fun W' hb hk =>
        .inr ⟨HOK.out, .inr ⟨HLO.out, A2, cap, rfl, hnc2, hcm2, HLQ.out.rd.frame hb.size (fun b h1 h2 => ⟨by omega, hk b h1 h2⟩), HT.out.keep _ _ _ HIK.out (asks_no HLO.out) hB' (hb.mono hB), HG.out.next hb⟩⟩)
      go_wp2_with fail
      refine bodyPost_ret (v := .tuple #[.agg #[.slice A2 k cap, .int .i64 (k : Int)], .agg #[.int .i64 0, .int .i64 0, .int .i64 0, .int .i64 0, .string ⟨#[]⟩, .int .i64 0, .int .i64 0, .string ⟨#[]⟩, .slice none 0 0], .bool false, .int .i64 0]) (by simp [results, Tryz.results158, go_sem, x0, x1, s0, s1, s2, s3, s4, s5, s6, s7, s8]) rfl ?_
      refine FIN.out _ ?_ (fun b h1 h2 => ?_)
      · iterate 11 (refine below_set ?_ (by omega))
        exact Below.refl _ _
      · iterate 11 (refine blk_set ?_ (by omega))
        rfl
    · have hEach := HLQ.out.each k hlt
      obtain ⟨Q, hQ⟩ := isL_ex hEach
      obtain ⟨g, cap', hv, hgb, hgl, hncg, hcmg⟩ := own_form HLQ.out.row (by omega)
      injection hv with e1 e2 e3
      subst e1 e3
      have hc : ∀ j, j < 9 → wr.cell? ⟨g, k * 9 + j, none⟩ = (C k)[j]? := fun j hj => own_cellC HLQ.out.row HLQ.out.len hlt hj
      rw [hQ] at hEach hc
      obtain ⟨⟨q1, q2, q3⟩, q4, q5, q6⟩ := Q
      dsimp only at hc hEach hQ
      have HQ := Lib.hid hQ
      have c0 : wr.cell? ⟨g, k * 9, none⟩ = some (.int .i64 (arg k).kind) := hc 0 (by omega)
      have c1 : wr.cell? ⟨g, k * 9 + 1, none⟩ = some (.int .i64 (arg k).frm) := hc 1 (by omega)
      have c2 : wr.cell? ⟨g, k * 9 + 2, none⟩ = some (.int .i64 (arg k).to) := hc 2 (by omega)
      have c3 : wr.cell? ⟨g, k * 9 + 3, none⟩ = some (.int .i64 (arg k).num) := hc 3 (by omega)
      have c4 : wr.cell? ⟨g, k * 9 + 4, none⟩ = some (.string (arg k).text) := hc 4 (by omega)
      have c5 : wr.cell? ⟨g, k * 9 + 5, none⟩ = some (.int .i64 q1) := hc 5 (by omega)
      have c6 : wr.cell? ⟨g, k * 9 + 6, none⟩ = some (.int .i64 q2) := hc 6 (by omega)
      have c7 : wr.cell? ⟨g, k * 9 + 7, none⟩ = some (.string q3) := hc 7 (by omega)
      have c8 : wr.cell? ⟨g, k * 9 + 8, none⟩ = some (.slice q4 q5 q6) := hc 8 (by omega)
      have HE := Lib.hid hEach
      have i1 : (0 : Int) ≤ (k : Int) := by omega
      have i2 : (k : Int) < (n : Int) := by omega
      clear hEach hQ hc
      go_wp2_with fail
      refine (says_any (arg k) _ _ wr HE.out (HM.out k hlt)).mono ?_
      rintro e w3 ⟨cs', rfl, hv3, hb3⟩
      obtain ⟨k', m', s', A', n', c', rfl⟩ := isV_cells hv3
      have hBr : B ≤ wr.heap.size := by have := HG.out.size; omega
      have hz3 := hb3.size
      have hcall := HT.out.call (asks arg a k) (arg k).says _ w3 (HT.out.keep _ _ _ HIK.out (asks_no HLO.out) hBr (hb3.mono hBr)) (asks_no HLO.out) (isV_mono hv3 (fun b _ h => by show B ≤ b; have h' : wr.heap.size ≤ b := h; omega)) (says_many_le (HM.out k hlt)) (by omega)
      have hen := HT.out.enters #[pv, .agg #[.int .i64 k', .int .i64 m', .string s', .slice A' n' c']] w3
      have HCALL := Lib.hid hcall
      have HB3 := Lib.hid hb3
      clear hv3 hb3 hcall c0 c1 c2 c3 c4 c5 c6 c7 c8
      go_wp2_with fail
      refine HCALL.out.mono ?_
      rintro e w4 ⟨rfl, hI4, hG4⟩
      have hlow : ∀ j, Sq j → j < w.heap.size := fun j hj => by have := HT.out.low j hj; omega
      have hI4' : ∀ W2, Fr (fun k => B ≤ k ∧ k < w3.heap.size) w4 W2 → I (if q (arg k).says = true then w3.heap.size else 0) (asks arg a (k + 1)) W2 := by rw [asks_succ arg hak]; exact hI4
      have HI4 := Lib.hid hI4'
      have hLR3 := HLQ.out.grown (grown_below (g := none) HB3.out) (by simp)
      have HEB3 := Lib.hid (show ∀ i, i < n → (arg i).isL w3 (fun b => w1.heap.size ≤ b ∧ b < w3.heap.size ∧ some b ≠ (Value.slice (some ⟨g, 0, none⟩) n cap).ownBlock) (C i) from fun i hi => isL_frame (Nat.le_refl _) (fun b hb hlt => ⟨⟨hb.1, hlt, hb.2⟩, rfl⟩) (hLR3.each i hi))
      have HLR4 := Lib.hid (hLR3.fr hG4 (fun j hj => by have := hlow j hj; omega))
      have HK4 := Lib.hid ((HKR.out.grown (grown_below (g := none) HB3.out) (by simp)).fr hG4 hlow)
      have HF4 := Lib.hid hG4
      have HG4 := Lib.hid ((HG.out.trans' (Fr.of_below HB3.out)).trans' hG4)
      have hz4 := hG4.size
      clear hen hI4 hI4' hG4 hLR3
      obtain ⟨qv, hqv⟩ : ∃ qv, q (arg k).says = qv := ⟨_, rfl⟩
      have HQV := Lib.hid hqv
      rw [hqv]
      clear hqv
      cases qv
      · go_wp2_with fail
        go_roundw
        case rel =>
          refine ⟨k + 1, by omega, by omega, by go_num, fun j h1 h2 => ?_, HK4.out, HLR4.out, (by have := HI4.out w4 (Fr.refl _ _); rw [HQV.out] at this; exact this), HG4.out, by omega⟩
          by_cases ej : j = k
          · subst ej; exact HQV.out
          · exact HLO.out j h1 (by omega)
        case measure => simp [intOf]; omega
      · have hc : ∀ j, j < 9 → w4.cell? ⟨g, k * 9 + j, none⟩ = (C k)[j]? := fun j hj => own_cellC HLR4.out.row HLR4.out.len hlt hj
        rw [HQ.out] at hc
        have c0 : w4.cell? ⟨g, k * 9, none⟩ = some (.int .i64 (arg k).kind) := hc 0 (by omega)
        have c1 : w4.cell? ⟨g, k * 9 + 1, none⟩ = some (.int .i64 (arg k).frm) := hc 1 (by omega)
        have c2 : w4.cell? ⟨g, k * 9 + 2, none⟩ = some (.int .i64 (arg k).to) := hc 2 (by omega)
        have c3 : w4.cell? ⟨g, k * 9 + 3, none⟩ = some (.int .i64 (arg k).num) := hc 3 (by omega)
        have c4 : w4.cell? ⟨g, k * 9 + 4, none⟩ = some (.string (arg k).text) := hc 4 (by omega)
        have c5 : w4.cell? ⟨g, k * 9 + 5, none⟩ = some (.int .i64 q1) := hc 5 (by omega)
        have c6 : w4.cell? ⟨g, k * 9 + 6, none⟩ = some (.int .i64 q2) := hc 6 (by omega)
        have c7 : w4.cell? ⟨g, k * 9 + 7, none⟩ = some (.string q3) := hc 7 (by omega)
        have c8 : w4.cell? ⟨g, k * 9 + 8, none⟩ = some (.slice q4 q5 q6) := hc 8 (by omega)
        obtain ⟨W5, hW5⟩ : ∃ W5, W5 = w4.alloc (.cells #[.int .i64 (arg k).kind, .int .i64 (arg k).frm, .int .i64 (arg k).to, .int .i64 (arg k).num, .string (arg k).text, .int .i64 q1, .int .i64 q2, .string q3, .slice q4 q5 q6] 154) := ⟨_, rfl⟩
        have HG5 := Lib.hid (show w4.grownBy W5 none by rw [hW5]; exact World.grownBy_alloc _ _ _)
        have HW5 := Lib.hid hW5
        clear hc hW5
        have HLR5 := Lib.hid (HLR4.out.grown HG5.out (by simp))
        have HK5 := Lib.hid (HK4.out.grown HG5.out (by simp))
        have hz5 : W5.heap.size = w4.heap.size + 1 := by rw [HW5.out]; simp
        obtain ⟨AA, hAA, hCut⟩ := cut_ok HLR5.out hlt
        have HC := Lib.hid hCut
        have HAA := Lib.hid hAA
        obtain ⟨i0, hi0, jz0, jz1, jz2⟩ := info_parts infoL
        obtain ⟨W6, hW6⟩ : ∃ W6, W6 = W5.drew.setCells g (0 + k * 9) (restC C n k) := ⟨_, rfl⟩
        have HW6 := Lib.hid hW6
        have HG6 := Lib.hid (show W5.grownBy W6 (some g) by rw [hW6]; exact grown_drew (grown_setCells W5.drew g _ _))
        have HK6 := Lib.hid (HK5.out.grown HG6.out (fun j hj => by injection hj with hj; omega))
        have d0 : W5.cell? ⟨w4.heap.size, 0, none⟩ = some (.int .i64 (arg k).kind) := by rw [HW5.out]; simp
        have d1 : W5.cell? ⟨w4.heap.size, 1, none⟩ = some (.int .i64 (arg k).frm) := by rw [HW5.out]; simp
        have d2 : W5.cell? ⟨w4.heap.size, 2, none⟩ = some (.int .i64 (arg k).to) := by rw [HW5.out]; simp
        have d3 : W5.cell? ⟨w4.heap.size, 3, none⟩ = some (.int .i64 (arg k).num) := by rw [HW5.out]; simp
        have d4 : W5.cell? ⟨w4.heap.size, 4, none⟩ = some (.string (arg k).text) := by rw [HW5.out]; simp
        have d5 : W5.cell? ⟨w4.heap.size, 5, none⟩ = some (.int .i64 q1) := by rw [HW5.out]; simp
        have d6 : W5.cell? ⟨w4.heap.size, 6, none⟩ = some (.int .i64 q2) := by rw [HW5.out]; simp
        have d7 : W5.cell? ⟨w4.heap.size, 7, none⟩ = some (.string q3) := by rw [HW5.out]; simp
        have d8 : W5.cell? ⟨w4.heap.size, 8, none⟩ = some (.slice q4 q5 q6) := by rw [HW5.out]; simp
        have e0 : W6.cell? ⟨w4.heap.size, 0, none⟩ = some (.int .i64 (arg k).kind) := (grown_cell HG6.out (by omega) (fun e => by injection e with e; omega)).trans d0
        have e1 : W6.cell? ⟨w4.heap.size, 1, none⟩ = some (.int .i64 (arg k).frm) := (grown_cell HG6.out (by omega) (fun e => by injection e with e; omega)).trans d1
        have e2 : W6.cell? ⟨w4.heap.size, 2, none⟩ = some (.int .i64 (arg k).to) := (grown_cell HG6.out (by omega) (fun e => by injection e with e; omega)).trans d2
        have e3 : W6.cell? ⟨w4.heap.size, 3, none⟩ = some (.int .i64 (arg k).num) := (grown_cell HG6.out (by omega) (fun e => by injection e with e; omega)).trans d3
        have e4 : W6.cell? ⟨w4.heap.size, 4, none⟩ = some (.string (arg k).text) := (grown_cell HG6.out (by omega) (fun e => by injection e with e; omega)).trans d4
        have e5 : W6.cell? ⟨w4.heap.size, 5, none⟩ = some (.int .i64 q1) := (grown_cell HG6.out (by omega) (fun e => by injection e with e; omega)).trans d5
        have e6 : W6.cell? ⟨w4.heap.size, 6, none⟩ = some (.int .i64 q2) := (grown_cell HG6.out (by omega) (fun e => by injection e with e; omega)).trans d6
        have e7 : W6.cell? ⟨w4.heap.size, 7, none⟩ = some (.string q3) := (grown_cell HG6.out (by omega) (fun e => by injection e with e; omega)).trans d7
        have e8 : W6.cell? ⟨w4.heap.size, 8, none⟩ = some (.slice q4 q5 q6) := (grown_cell HG6.out (by omega) (fun e => by injection e with e; omega)).trans d8
        have hic : k ≤ cap := by omega
        have hjc : k + 1 ≤ cap := by omega
        have hjn : k + 1 ≤ n := by omega
        have hw1 : IntKind.i64.wrap ((k : Int) + 1) = (k : Int) + 1 := by rw [IntKind.wrap_i64]; omega
        have htn : ((k : Int) + 1).toNat = k + 1 := by omega
        have hb1 : (0 : Int) ≤ (k : Int) + 1 := by omega
        have hq1 : (k : Int) ≤ (cap : Int) := by omega
        have hq2 : (k : Int) + 1 ≤ (n : Int) := by omega
        clear hW6 hCut
        obtain ⟨b0, b1, r0, r1, rf, y0, y1, y2, y3, y4, y5, y6, y7, y8, yf, bz⟩ := HK6.out
        have x0 : (W6.cell? ⟨w.heap.size + 1, 0, none⟩).isSome = true := by rw [r0]; rfl
        have x1 : (W6.cell? ⟨w.heap.size + 1, 1, none⟩).isSome = true := by rw [r1]; rfl
        have s0 : (W6.cell? ⟨w.heap.size + 2, 0, none⟩).isSome = true := by rw [y0]; rfl
        have s1 : (W6.cell? ⟨w.heap.size + 2, 1, none⟩).isSome = true := by rw [y1]; rfl
        have s2 : (W6.cell? ⟨w.heap.size + 2, 2, none⟩).isSome = true := by rw [y2]; rfl
        have s3 : (W6.cell? ⟨w.heap.size + 2, 3, none⟩).isSome = true := by rw [y3]; rfl
        have s4 : (W6.cell? ⟨w.heap.size + 2, 4, none⟩).isSome = true := by rw [y4]; rfl
        have s5 : (W6.cell? ⟨w.heap.size + 2, 5, none⟩).isSome = true := by rw [y5]; rfl
        have s6 : (W6.cell? ⟨w.heap.size + 2, 6, none⟩).isSome = true := by rw [y6]; rfl
        have s7 : (W6.cell? ⟨w.heap.size + 2, 7, none⟩).isSome = true := by rw [y7]; rfl
        have s8 : (W6.cell? ⟨w.heap.size + 2, 8, none⟩).isSome = true := by rw [y8]; rfl
        have FIN := Lib.hid (show ∀ W', Below w.heap.size W6 W' → (∀ b, w1.heap.size ≤ b → b < W6.heap.size → W'.heap[b]? = W6.heap[b]?) → TakPost n a arg q Sq I w (.returned (.tuple #[.agg #[.slice (some ⟨g, 0, none⟩) (k + (n - (k + 1))) cap, .int .i64 0], .agg #[.int .i64 (arg k).kind, .int .i64 (arg k).frm, .int .i64 (arg k).to, .int .i64 (arg k).num, .string (arg k).text, .int .i64 q1, .int .i64 q2, .string q3, .slice q4 q5 q6], .bool true, .int .i64 0])) W' from fun W' hb hk => by
          have e1 : k + (n - (k + 1)) = n - 1 := by omega
          have h65 := HG6.out.size
          have h45 : Below w.heap.size w4 W' := (below_grown (below_grown (Below.refl _ _) (by omega) HG5.out (by simp)) (by omega) HG6.out (fun j hj => by injection hj with hj; omega)).trans hb
          have hw5 := HLR5.out.grown (show W5.grownBy W5.drew none from ⟨rfl, rfl, rfl, Nat.le_refl _, fun _ _ _ => rfl⟩) (by simp)
          have hEB5 : ∀ i, i < n → (arg i).isL W5.drew (fun b => w1.heap.size ≤ b ∧ b < w3.heap.size ∧ some b ≠ (Value.slice (some ⟨g, 0, none⟩) n cap).ownBlock) (C i) := fun i hi => isL_frame (w' := W5.drew) (by show w3.heap.size ≤ W5.heap.size; omega) (fun b hb hlt' => ⟨hb, (HG5.out.block b (by omega) (by simp)).trans (HF4.out.block b hlt' (fun hs => by have := hlow b hs; omega))⟩) (HEB3.out i hi)
          have hl := hEB5 k hlt
          rw [HQ.out] at hl
          have hf57 : Fr (fun k => B ≤ k ∧ k < w3.heap.size) w4 W' := by
            have hf5 : Fr (fun k => B ≤ k ∧ k < w3.heap.size) w4 W5 := Fr.of_grown HG5.out (fun j hj => by cases hj)
            have hf6 : Fr (fun k => B ≤ k ∧ k < w3.heap.size) W5 W6 := Fr.of_grown HG6.out (fun j hj => .inl (by injection hj with hj; omega))
            have hf7 : Fr (fun k => B ≤ k ∧ k < w3.heap.size) W6 W' := ⟨hb.os, hb.tape, hb.output, hb.size, fun i hi hn => by
              by_cases hiw : i < w.heap.size
              · exact hb.block i hiw
              · exact hk i (by omega) hi⟩
            exact (hf5.trans' hf6).trans' hf7
          have hmk := HI4.out W' hf57
          rw [HQV.out, if_pos rfl] at hmk
          refine .inr ⟨HOK.out, .inl ⟨k, hak, hlt, HLO.out, HQV.out, some ⟨g, 0, none⟩, cap, [.int .i64 (arg k).kind, .int .i64 (arg k).frm, .int .i64 (arg k).to, .int .i64 (arg k).num, .string (arg k).text, .int .i64 q1, .int .i64 q2, .string q3, .slice q4 q5 q6], w3.heap.size, by rw [e1], by omega, by omega, hcm2, cut_rd2 hw5 hEB5 hlt (by omega) (by omega) (by show W5.heap.size ≤ _; have := hb.size; omega) (fun b h1 h2 => by rw [hk b h1 (by have h3 : b < W5.heap.size := h2; omega), HW6.out]), ?_, hmk, HG4.out.next h45⟩⟩
          refine isL_frame (by show W5.heap.size ≤ _; have := hb.size; omega) (fun b hs hlt' => ⟨⟨by omega, hs.2.1⟩, ?_⟩) hl
          have h5 : b < W5.heap.size := hlt'
          rw [hk b hs.1 (by omega), HG6.out.block b h5 (by simpa [Value.ownBlock] using hs.2.2)]
          rfl)
        go_wp2_with fail
        rw [← HW5.out]
        go_region_law (refine step_append_room rfl (.tmp 43) (.tmp 47) 115 rfl 154 i0 9 Tryz.underlying115 hi0 jz1 g 0 k cap (by simp [Act.eval, Act.put]) AA (n - (k + 1)) (cap - (k + 1)) (restC C n k) (by simp [Act.eval, Act.put]) HC.out.len HC.out.src HC.out.one (by omega) HC.out.room ?_; rw [← HW6.out])
        all_goals
          go_wp2_with fail
          refine bodyPost_ret (v := .tuple #[.agg #[.slice (some ⟨g, 0, none⟩) (k + (n - (k + 1))) cap, .int .i64 0], .agg #[.int .i64 (arg k).kind, .int .i64 (arg k).frm, .int .i64 (arg k).to, .int .i64 (arg k).num, .string (arg k).text, .int .i64 q1, .int .i64 q2, .string q3, .slice q4 q5 q6], .bool true, .int .i64 0]) (by simp [results, Tryz.results158, go_sem, x0, x1, s0, s1, s2, s3, s4, s5, s6, s7, s8]) rfl ?_
          refine FIN.out _ ?_ (fun b h1 h2 => ?_)
          · iterate 11 (refine below_set ?_ (by omega))
            exact Below.refl _ _
          · iterate 11 (refine blk_set ?_ (by omega))
            rfl
end Go.Proofs.YthgbcgphkddmgaaGreat
namespace Go.Proofs.YthgbcgphkddmgaaGreat
open Go.RowKit Go.Maps
set_option linter.unusedVariables false
set_option linter.unusedSimpArgs false
theorem doffer_enters : Enters Tryz.prog 159 := fun _ _ => by kernel_rfl
/-- a diary's state lies below the heap's size -/
theorem DiaAt.wide {w : World} {X : Nat → Prop} {base T b rb : Nat} {ib : Option Nat} {d : DiaS} (h : DiaAt w X base T b rb ib d) : DiaAt w (fun k => X k ∨ w.heap.size ≤ k) base T b rb ib d := by
  obtain ⟨A, c, r1, r2⟩ := h.run
  obtain ⟨A2, n2, c2, s1, s2⟩ := h.c2
  exact { h with run := ⟨A, c, r1.fr (Fr.refl (fun _ => False) w) (fun _ _ h => h) (fun k hk hlt => ⟨fun hx => by rcases hx with hx | hx; exact hk.1 hx; omega, hk.2⟩), r2⟩, c2 := ⟨A2, n2, c2, s1, fun e => by
    obtain ⟨u1, u2, u3, u4⟩ := s2 e
    exact ⟨u1, u2, u3, u4.frame (Nat.le_refl _) (fun k hk hlt => ⟨fun hx => by rcases hx with hx | hx; exact hk hx; omega, rfl⟩)⟩⟩ }
theorem DiaAt.less {w : World} {X X' : Nat → Prop} {base T b rb : Nat} {ib : Option Nat} {d : DiaS} (h : DiaAt w X base T b rb ib d) (hX : ∀ k, X' k → X k) : DiaAt w X' base T b rb ib d := by
  obtain ⟨A, c, r1, r2⟩ := h.run
  obtain ⟨A2, n2, c2, s1, s2⟩ := h.c2
  exact { h with run := ⟨A, c, r1.fr (Fr.refl (fun _ => False) w) (fun _ _ h => h) (fun k hk hlt => ⟨fun hx => hk.1 (hX k hx), hk.2⟩), r2⟩, c2 := ⟨A2, n2, c2, s1, fun e => by
    obtain ⟨u1, u2, u3, u4⟩ := s2 e
    exact ⟨u1, u2, u3, u4.frame (Nat.le_refl _) (fun k hk hlt => ⟨fun hx => hk (hX k hx), rfl⟩)⟩⟩ }
theorem offerD_dk {d : DiaS} {t : VT} (h : (offerD d t).2 = true) : (offerD d t).1.dk = 0 := by
  unfold offerD at h ⊢
  by_cases h1 : d.dk = 7
  · rw [if_pos h1] at h ⊢
    dsimp only at h ⊢
    by_cases h2 : (offerR d.r (vkind t) (vnum t)).2 = true
    · rw [if_pos h2]
    · rw [if_neg h2] at h; cases h
  · rw [if_neg h1] at h; cases h
/-- what is so while the diary is asked -/
def AskI (X : Nat → Prop) (base T b rb : Nat) (ib : Option Nat) (d : DiaS) (B m : Nat) (L : List VT) (W : World) : Prop :=
  ((∀ x, x ∈ L → (offerD d x).2 = false) ∧ DiaAt W (fun k => X k ∨ B ≤ k) base T b rb ib d) ∨
  (∃ L0 t ib', L = L0 ++ [t] ∧ (offerD d t).2 = true ∧ (∀ k, ib' = some k → ib = some k ∨ m ≤ k ∧ k < W.heap.size) ∧ DiaAt W (fun k => X k ∨ B ≤ k) base (T + 1) b rb ib' (offerD d t).1)
theorem ask_takes {X : Nat → Prop} {base T b rb : Nat} {ib : Option Nat} {d : DiaS} {B : Nat} (hbl : b < B) (hrl : rb < B) (hil : ∀ k, ib = some k → k < B) (hr : X rb) (hi : ∀ k, ib = some k → X k) (hT : T < 1000000000000) (hB : base ≤ B) :
    TakesB B 159 (.pointer (some ⟨b, 0, none⟩)) (fun t => (offerD d t).2) (fun k => k = b ∨ k = rb ∨ ib = some k) (AskI X base T b rb ib d B) where
  enters := doffer_enters
  low := fun k hk => by
    rcases hk with h | h | h
    · omega
    · omega
    · exact hil k h
  keep := fun L W W' hI hL hBW hb' => by
    have hf : Fr (fun k => B ≤ k) W W' := ⟨hb'.os, hb'.tape, hb'.output, hb'.size, fun k hk hn => hb'.block k (by omega)⟩
    have h3 := hil
    rcases hI with ⟨h, hD⟩ | ⟨L0, t', ib', rfl, hh, _⟩
    · exact .inl ⟨h, hD.fr hf (fun k hk => .inr hk) (fun k hk => .inl hk) (fun k hk => by omega) (Nat.le_refl _) (by omega) (by omega) (fun k hk hn => by have := h3 k hk; omega)⟩
    · have := hL t' (by simp)
      rw [hh] at this
      cases this
  call := fun L t cs W hI hL hv hm hBW => by
    have g3 := hil
    rcases hI with ⟨_, hD⟩ | ⟨L0, t', ib', rfl, h1, _⟩
    rotate_left
    · have := hL t' (by simp)
      rw [h1] at this
      cases this
    refine (doffer_any (fun k => X k ∨ B ≤ k) base T b rb ib d t cs (fun k => B ≤ k) W hD (fun k hk => .inl (hi k hk)) (.inl hr) hT hv (fun k hk e => by omega) hm).mono ?_
    rintro e W' (⟨h1, rfl, hD', hf⟩ | ⟨h1, rfl, ib', hib, hD', hf⟩)
    · exact ⟨by rw [h1], fun W2 hf2 => by
        rw [show (if (offerD d t).2 = true then W.heap.size else 0) = 0 by rw [h1]; rfl]
        exact .inl ⟨fun x hx => by
          rcases List.mem_append.1 hx with hx | hx
          · exact hL x hx
          · have := List.mem_singleton.1 hx; subst this; exact h1, hD'.fr hf2 (fun k hk => .inr hk.1) (fun k hk => .inl hk) (fun k hk => by omega) (Nat.le_refl _) (by omega) (by omega) (fun k hk hn => by have := g3 k hk; omega)⟩, hf⟩
    · have hlt := hD'.lt.2.2
      refine ⟨by rw [h1], fun W2 hf2 => ?_, hf⟩
      rw [show (if (offerD d t).2 = true then W.heap.size else 0) = W.heap.size by rw [h1]; rfl]
      refine .inr ⟨L, t, ib', rfl, h1, fun k hk => ?_, (hD'.less (X' := fun k => X k ∨ B ≤ k) (fun k hk => .inl hk)).fr hf2 (fun k hk => .inr hk.1) (fun k hk => .inl hk) (fun k hk => by omega) (Nat.le_refl _) (by omega) (by omega) (fun k hk hn => ?_)⟩
      · rcases hib k hk with h | h
        · exact .inl h
        · have := (hlt k hk).2
          have := hf2.size
          exact .inr ⟨by omega, by omega⟩
      · rcases hib k hk with h | h
        · have := g3 k h; omega
        · omega
def TakD (X : Nat → Prop) (base T b rb : Nat) (ib : Option Nat) (d : DiaS) (n a : Nat) (arg : Nat → LT) (W : World) (e : Ending) (w' : World) : Prop :=
  ∃ (A' : Option Addr) (n' c' : Nat) (pos' k f t m : Int) (s : ByteArray) (k2 m2 : Int) (s2 : ByteArray) (A2 : Option Addr) (n2 c2 : Nat) (took : Bool),
    e = .returned (.tuple #[.agg #[.slice A' n' c', .int .i64 pos'], .agg #[.int .i64 k, .int .i64 f, .int .i64 t, .int .i64 m, .string s, .int .i64 k2, .int .i64 m2, .string s2, .slice A2 n2 c2], .bool took, .int .i64 0]) ∧
    n' ≤ c' ∧ c' ≤ 9223372036854775807 ∧ Fr (fun k => k = b ∨ k = rb ∨ ib = some k) W w' ∧
    ((took = true ∧ ∃ i ib' mk, W.heap.size ≤ mk ∧ a ≤ i ∧ i < n ∧ (∀ j, a ≤ j → j < i → (offerD d (arg j).says).2 = false) ∧ (offerD d (arg i).says).2 = true ∧ n' = n - 1 ∧ pos' = 0 ∧ RdL w' (fun k => W.heap.size ≤ k ∧ k < mk) A' (n - 1) (cutA arg i) ∧
        (arg i).isL w' (fun k => W.heap.size ≤ k ∧ k < mk) [.int .i64 k, .int .i64 f, .int .i64 t, .int .i64 m, .string s, .int .i64 k2, .int .i64 m2, .string s2, .slice A2 n2 c2] ∧ (∀ k, ib' = some k → ib = some k ∨ mk ≤ k) ∧ DiaAt w' (fun k => X k ∨ W.heap.size ≤ k) base (T + 1) b rb ib' (offerD d (arg i).says).1) ∨
     (took = false ∧ (∀ j, a ≤ j → j < n → (offerD d (arg j).says).2 = false) ∧ n' = n ∧ pos' = n ∧ RdL w' (fun k => W.heap.size ≤ k) A' n arg ∧ DiaAt w' X base T b rb ib d))
theorem asks_snoc {arg : Nat → LT} {a i : Nat} (h : a ≤ i) {L0 : List VT} {t : VT} (e : asks arg a (i + 1) = L0 ++ [t]) : t = (arg i).says := by
  rw [asks_succ arg h] at e
  have := List.append_inj' e rfl
  have h2 := this.2
  injection h2 with h2
  exact h2.symm
theorem take_diary (X : Nat → Prop) (base T b rb : Nat) (ib : Option Nat) (d : DiaS) (n c a : Nat) (A : Option Addr) (arg : Nat → LT) (S : Nat → Prop) (W : World) (hD : DiaAt W X base T b rb ib d) (hr : X rb) (hi : ∀ k, ib = some k → X k) (hT : T < 1000000000000)
    (hnc : n ≤ c) (hcm : c ≤ 9223372036854775807) (hR : RdL W S A n arg) (ok : OkBox n (a : Int) arg) (hm : ∀ i, i < n → (arg i).val.many ≤ 4194304) :
    Calls Tryz.prog 158 #[.agg #[.slice A n c, .int .i64 (a : Int)], .func (.func 159) #[.pointer (some ⟨b, 0, none⟩)] #[]] W (TakD X base T b rb ib d n a arg W) := by
  have hlb : base ≤ W.heap.size := by have := hD.lb; have := hD.lt; omega
  refine (takeB_any n c A a arg S W.heap.size 159 (.pointer (some ⟨b, 0, none⟩)) _ _ _ W hnc hcm hR hm (ask_takes hD.lt.1 hD.lt.2.1 (fun k hk => (hD.lt.2.2 k hk).2) hr hi hT hlb) (.inl ⟨(fun x hx => by cases hx), hD.wide⟩) (Nat.le_refl _)).mono ?_
  rintro e w' (⟨h, _⟩ | ⟨_, h | h⟩)
  · exact absurd ok h
  · obtain ⟨i, h1, h2, h3, h4, A', c', xs, mk, rfl, h0, h5, h6, h7, h8, h9, h10⟩ := h
    obtain ⟨⟨⟨q1, q2, q3⟩, q4, q5, q6⟩, hQ⟩ := isL_ex h8
    dsimp only at hQ
    rw [hQ] at h8
    have ha : a ≤ i := h1
    rcases h9 with ⟨hn, _⟩ | ⟨L0, t, ib', e1, e2, e3, e4⟩
    · have := hn (arg i).says (by rw [show (asks arg (a : Int).toNat (i + 1)) = asks arg a (i + 1) from rfl, asks_succ arg ha]; simp)
      rw [show (offerD d (arg i).says).2 = true from h4] at this
      cases this
    · have := asks_snoc (a := a) ha e1
      subst this
      exact ⟨A', n - 1, c', 0, _, _, _, _, _, _, _, _, _, _, _, true, by rw [hQ], h5, h6, h10, .inl ⟨rfl, i, ib', mk, h0, h1, h2, h3, h4, rfl, rfl, h7, h8, fun k hk => by rcases e3 k hk with h | h; exact .inl h; exact .inr h.1, e4⟩⟩
  · obtain ⟨h1, A', c', rfl, h2, h3, h4, h5, h6⟩ := h
    refine ⟨A', n, c', (n : Int), 0, 0, 0, 0, ⟨#[]⟩, 0, 0, ⟨#[]⟩, none, 0, 0, false, rfl, h2, h3, h6, .inr ⟨rfl, h1, rfl, rfl, h4, ?_⟩⟩
    rcases h5 with ⟨_, hd⟩ | ⟨L0, t, ib', e1, e2, _⟩
    · exact hd.less (fun k hk => .inl hk)
    · have ht : t ∈ asks arg a n := by rw [show asks arg a n = L0 ++ [t] from e1]; simp
      have := asks_no (q := fun t => (offerD d t).2) (a := a) (k := n) h1 t ht
      rw [e2] at this
      cases this
end Go.Proofs.YthgbcgphkddmgaaGreat
namespace Go.Proofs.YthgbcgphkddmgaaGreat
open Go.RowKit Go.Maps
set_option linter.unusedVariables false
set_option linter.unusedSimpArgs false
/-- what Take told, the ending aside -/
def TakR (X : Nat → Prop) (base T b rb : Nat) (ib : Option Nat) (d : DiaS) (n a : Nat) (arg : Nat → LT) (W w' : World) (A' : Option Addr) (n' c' : Nat) (pos' : Int) (xs : List Value) (took : Bool) : Prop :=
    n' ≤ c' ∧ c' ≤ 9223372036854775807 ∧ Fr (fun k => k = b ∨ k = rb ∨ ib = some k) W w' ∧
    ((took = true ∧ ∃ i ib' mk, W.heap.size ≤ mk ∧ a ≤ i ∧ i < n ∧ (∀ j, a ≤ j → j < i → (offerD d (arg j).says).2 = false) ∧ (offerD d (arg i).says).2 = true ∧ n' = n - 1 ∧ pos' = 0 ∧ RdL w' (fun k => W.heap.size ≤ k ∧ k < mk) A' (n - 1) (cutA arg i) ∧
        (arg i).isL w' (fun k => W.heap.size ≤ k ∧ k < mk) xs ∧ (∀ k, ib' = some k → ib = some k ∨ mk ≤ k) ∧ DiaAt w' (fun k => X k ∨ W.heap.size ≤ k) base (T + 1) b rb ib' (offerD d (arg i).says).1) ∨
     (took = false ∧ (∀ j, a ≤ j → j < n → (offerD d (arg j).says).2 = false) ∧ n' = n ∧ pos' = n ∧ RdL w' (fun k => W.heap.size ≤ k) A' n arg ∧ DiaAt w' X base T b rb ib d))
/-- two boxes of a caller are stored to -/
theorem TakR.mid {X : Nat → Prop} {base T b rb : Nat} {ib : Option Nat} {d : DiaS} {n a : Nat} {arg : Nat → LT} {w W w1 wx : World} {A' : Option Addr} {n' c' : Nat} {pos' : Int} {xs : List Value} {took : Bool} {q3 q4 : Nat}
    (h : TakR X base T b rb ib d n a arg W w1 A' n' c' pos' xs took) (hW : Fr (fun _ => False) w W) (hf : Fr (fun k => k = q3 ∨ k = q4) w1 wx) (h3 : w.heap.size ≤ q3 ∧ (q3 < W.heap.size ∨ w1.heap.size ≤ q3)) (h4 : w.heap.size ≤ q4 ∧ (q4 < W.heap.size ∨ w1.heap.size ≤ q4)) (hXq : ∀ k, w.heap.size ≤ k → X k) (hb : b < w.heap.size) (hr : rb < w.heap.size) (hi : ∀ k, ib = some k → k < w.heap.size) (hlb : base ≤ w.heap.size) :
    TakR X base T b rb ib d n a arg w wx A' n' c' pos' xs took := by
  obtain ⟨g1, g2, g3, g4⟩ := h
  have hz := hW.size
  have hz1 := g3.size
  have hS : Fr (fun k => k = b ∨ k = rb ∨ ib = some k) w wx := ((hW.weak (fun _ h => h.elim)).trans' g3).trans hf (fun k hk => .inr (by rcases hk with hk | hk <;> omega))
  refine ⟨g1, g2, hS, ?_⟩
  have hk : ∀ k, W.heap.size ≤ k → k < w1.heap.size → wx.heap[k]? = w1.heap[k]? := fun k hk hl => hf.block k hl (fun hh => by rcases hh with hh | hh <;> omega)
  rcases g4 with ⟨rfl, i, ib', mk, e0, e1, e2, e3, e4, e5, e6, e7, e8, e9, e10⟩ | ⟨rfl, e1, e2, e3, e4, e5⟩
  · refine .inl ⟨rfl, i, ib', mk, by omega, e1, e2, e3, e4, e5, e6, RdL.frame e7 hf.size (fun k h1 h2 => ⟨⟨by omega, h1.2⟩, hk k h1.1 h2⟩), isL_frame hf.size (fun k h1 h2 => ⟨⟨by omega, h1.2⟩, hk k h1.1 h2⟩) e8, e9, e10.fr hf (fun k hk => .inl (hXq k (by rcases hk with hk | hk <;> omega))) (fun k hk => .inl (.inl (by rcases hk with h | h; exact h; exact hXq k h))) (fun k hk => by omega) (Nat.le_refl _) (by omega) (by omega) (fun k hk hh => ?_)⟩
    have := (e10.lt.2.2 k hk).2
    rcases e9 k hk with h | h
    · have := hi k h; omega
    · omega
  · exact .inr ⟨rfl, e1, e2, e3, RdL.frame e4 hf.size (fun k h1 h2 => ⟨by omega, hk k h1 h2⟩), e5.fr hf (fun k hk => hXq k (by rcases hk with hk | hk <;> omega)) (fun k hk => .inl hk) (fun k hk => by omega) (Nat.le_refl _) (by omega) (by omega) (fun k hk hh => by have := hi k hk; omega)⟩
theorem TakR.far {X : Nat → Prop} {base T b rb : Nat} {ib : Option Nat} {d : DiaS} {n a : Nat} {arg : Nat → LT} {w W w1 : World} {A' : Option Addr} {n' c' : Nat} {pos' : Int} {xs : List Value} {took : Bool} (h : TakR X base T b rb ib d n a arg W w1 A' n' c' pos' xs took) (hS : ∀ k, (k = b ∨ k = rb ∨ ib = some k) → k < w.heap.size) :
    ∀ q j, w.heap.size ≤ q → q < W.heap.size → w1.cell? ⟨q, j, none⟩ = W.cell? ⟨q, j, none⟩ ∧ w1.frozen? ⟨q, j, none⟩ = W.frozen? ⟨q, j, none⟩ := fun q j h1 h2 => by
  have hn : ¬ (q = b ∨ q = rb ∨ ib = some q) := fun e => by have := hS q e; omega
  have := h.2.2.1.block q h2 hn
  exact ⟨World.cell?_of_block (a := ⟨q, j, none⟩) this, World.frozen?_of_block (a := ⟨q, j, none⟩) this⟩
def MidW (X : Nat → Prop) (base T b rb : Nat) (ib : Option Nat) (d : DiaS) (n a : Nat) (arg : Nat → LT) (w : World) (v3 v4 v5 v6 : Value) (wx : World) : Prop :=
  ∃ (q3 q4 : Nat) (A' : Option Addr) (n' c' : Nat) (pos' k f t m : Int) (s : ByteArray) (k2 m2 : Int) (s2 : ByteArray) (A2 : Option Addr) (n2 c2 : Nat) (took : Bool),
    v3 = .pointer (some ⟨q3, 0, none⟩) ∧ v4 = .pointer (some ⟨q4, 0, none⟩) ∧ v5 = .bool took ∧ v6 = .int .i64 0 ∧
    Hid (TakR X base T b rb ib d n a arg w wx A' n' c' pos' [.int .i64 k, .int .i64 f, .int .i64 t, .int .i64 m, .string s, .int .i64 k2, .int .i64 m2, .string s2, .slice A2 n2 c2] took) ∧
    w.heap.size ≤ q3 ∧ q3 < wx.heap.size ∧ wx.cell? ⟨q3, 0, none⟩ = some (.slice A' n' c') ∧ wx.cell? ⟨q3, 1, none⟩ = some (.int .i64 pos') ∧
    (∀ j u, ([.int .i64 k, .int .i64 f, .int .i64 t, .int .i64 m, .string s, .int .i64 k2, .int .i64 m2, .string s2, .slice A2 n2 c2] : List Value)[j]? = some u → wx.cell? ⟨q4, j, none⟩ = some u)
theorem MidW.mk {X : Nat → Prop} {base T b rb : Nat} {ib : Option Nat} {d : DiaS} {n a : Nat} {arg : Nat → LT} {w W w1 wx : World} {A' : Option Addr} {n' c' : Nat} {pos' k f t m : Int} {s : ByteArray} {k2 m2 : Int} {s2 : ByteArray} {A2 : Option Addr} {n2 c2 : Nat} {took : Bool} {q3 q4 : Nat}
    (hb : b < w.heap.size ∧ rb < w.heap.size ∧ (∀ k, ib = some k → k < w.heap.size) ∧ base ≤ w.heap.size ∧ ∀ k, w.heap.size ≤ k → X k) (h : TakR X base T b rb ib d n a arg W w1 A' n' c' pos' [.int .i64 k, .int .i64 f, .int .i64 t, .int .i64 m, .string s, .int .i64 k2, .int .i64 m2, .string s2, .slice A2 n2 c2] took) (hW : Fr (fun _ => False) w W) (hf : Fr (fun k => k = q3 ∨ k = q4) w1 wx)
    (h3 : w.heap.size ≤ q3 ∧ (q3 < W.heap.size ∨ w1.heap.size ≤ q3) ∧ q3 < wx.heap.size) (h4 : w.heap.size ≤ q4 ∧ (q4 < W.heap.size ∨ w1.heap.size ≤ q4)) (x0 : wx.cell? ⟨q3, 0, none⟩ = some (.slice A' n' c')) (x1 : wx.cell? ⟨q3, 1, none⟩ = some (.int .i64 pos'))
    (y : wx.cell? ⟨q4, 0, none⟩ = some (.int .i64 k) ∧ wx.cell? ⟨q4, 1, none⟩ = some (.int .i64 f) ∧ wx.cell? ⟨q4, 2, none⟩ = some (.int .i64 t) ∧ wx.cell? ⟨q4, 3, none⟩ = some (.int .i64 m) ∧ wx.cell? ⟨q4, 4, none⟩ = some (.string s) ∧ wx.cell? ⟨q4, 5, none⟩ = some (.int .i64 k2) ∧ wx.cell? ⟨q4, 6, none⟩ = some (.int .i64 m2) ∧ wx.cell? ⟨q4, 7, none⟩ = some (.string s2) ∧ wx.cell? ⟨q4, 8, none⟩ = some (.slice A2 n2 c2)) :
    MidW X base T b rb ib d n a arg w (.pointer (some ⟨q3, 0, none⟩)) (.pointer (some ⟨q4, 0, none⟩)) (.bool took) (.int .i64 0) wx := by
  refine ⟨q3, q4, A', n', c', pos', k, f, t, m, s, k2, m2, s2, A2, n2, c2, took, rfl, rfl, rfl, rfl, Lib.hid (h.mid hW hf ⟨h3.1, h3.2.1⟩ h4 hb.2.2.2.2 hb.1 hb.2.1 hb.2.2.1 hb.2.2.2.1), h3.1, h3.2.2, x0, x1, fun j u hj => ?_⟩
  obtain ⟨y0, y1, y2, y3, y4, y5, y6, y7, y8⟩ := y
  rcases j with _ | _ | _ | _ | _ | _ | _ | _ | _ | j
  all_goals (simp at hj)
  all_goals (subst hj; assumption)
def z9 : List Value := [.int .i64 0, .int .i64 0, .int .i64 0, .int .i64 0, .string ⟨#[]⟩, .int .i64 0, .int .i64 0, .string ⟨#[]⟩, .slice none 0 0]
def z2 : List Value := [.slice none 0 0, .int .i64 0]
/-- an actor is done with: its post -/
theorem act_done {w W' : World} {X MA : Nat → Prop} {base T T' p b rb kb : Nat} {ib ib' : Option Nat} {a a' : ActS} {v : Value} {A : Option Addr} {c n : Nat} (H : ActG w X base T MA p b rb kb ib a) (hX : ∀ k, X k → k < w.heap.size) (hMX : ∀ k, MA k → X k) (hib : ∀ k, ib' = some k → ib = some k ∨ w.heap.size ≤ k) (hd : DiaAt W' (fun k => X k ∨ ib' = some k) base T' b rb ib' a'.d)
    (c0 : W'.cell? ⟨p, 0, none⟩ = some (.pointer (some ⟨b, 0, none⟩))) (c1 : W'.cell? ⟨p, 1, none⟩ = some (.int .i64 a'.ref)) (c2 : W'.cell? ⟨p, 2, none⟩ = some (.slice A a'.box.length c)) (hc1 : a'.box.length ≤ c) (hc2 : c ≤ 9223372036854775807) (hbox : RdL W' (fun k => w.heap.size ≤ k ∧ ib' ≠ some k) A a'.box.length (nthL a'.box))
    (c3 : W'.cell? ⟨p, 3, none⟩ = some (.int .i64 (a'.pos : Int))) (c4 : W'.cell? ⟨p, 4, none⟩ = some (.bool a'.waits)) (c5 : W'.cell? ⟨p, 5, none⟩ = some (.int .i64 a'.ticks)) (c6 : W'.cell? ⟨p, 6, none⟩ = some (.map (some kb))) (hk : OwnM W' kb n (knG a'.knows)) (hn : n ≤ T') (fz : ∀ o, W'.frozen? ⟨p, o, none⟩ = false) (hf : Fr MA w W') :
    ActPost X base T' MA p a' w v (.returned v) W' := by
  obtain ⟨m1, m2, m3, m4, m5⟩ := H.mine
  obtain ⟨a1, a2, a3, a4, a5, a6⟩ := H.ap
  have hl := H.lt
  have hd3 := hd.lt.2.2
  have hdl := H.dia.lt
  refine ⟨rfl, fun k => X k ∨ ib' = some k, fun k => MA k ∨ ib' = some k, fun k hk => .inl hk, fun k hk => ?_, fun k hk => ?_, fun k hk => ?_, ⟨b, rb, kb, ib', ?_⟩, hf⟩
  · rcases hk with hk | hk
    · exact .inl hk
    · rcases hib k hk with h | h
      · exact .inl (hMX k (m5 k h))
      · exact .inr ⟨h, (hd3 k hk).2⟩
  · rcases hk with hk | hk
    · exact .inl hk
    · rcases hib k hk with h | h
      · exact .inl (m5 k h)
      · exact .inr h
  · rcases hk with hk | hk
    · exact .inl (hMX k hk)
    · exact .inr hk
  · exact {
      dia := hd
      a0 := c0
      a1 := c1
      a2 := ⟨A, c, c2, hc1, hc2, RdL.frame hbox (Nat.le_refl _) (fun k hk' _ => ⟨fun hx => by
        rcases hx with hx | hx
        · have := hX k hx; omega
        · exact hk'.2 hx, rfl⟩)⟩
      a3 := c3
      a4 := c4
      a5 := c5
      a6 := c6
      kn := ⟨n, hk, hn⟩
      fz := fz
      mine := ⟨.inl m1, .inl m2, .inl m3, .inl m4, fun k hk => .inr hk⟩
      ap := ⟨a1, a2, a3, a4, a5, fun k hk => by
        rcases hib k hk with h | h
        · exact a6 k h
        · exact ⟨by omega, by omega⟩⟩
      lbp := H.lbp }
end Go.Proofs.YthgbcgphkddmgaaGreat
