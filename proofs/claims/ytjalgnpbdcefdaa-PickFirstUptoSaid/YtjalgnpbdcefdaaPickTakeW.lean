/- pick.Take. -/
import Derived.Test.YtjalgnpbdcefdaaPickTake
import Derived.Deep.DeepCutAuto
import Derived.Deep.RegionLaw
namespace Go.Proofs.Ytjalgnpbdcefdaa
open Go.RowKit
set_option linter.unusedVariables false
theorem blk_set {W wr : World} {b k o : Nat} {u : Value} (h : W.heap[b]? = wr.heap[b]?) (hne : b ≠ k) : (W.setCell ⟨k, o, none⟩ u).heap[b]? = wr.heap[b]? := (Below.heap_setCell W ⟨k, o, none⟩ u b hne).trans h
theorem grown_then {w wr W' : World} {row : Option Nat} (h : w.grownBy wr row) (hb : Below w.heap.size wr W') : w.grownBy W' row := ⟨hb.os.trans h.os, hb.tape.trans h.tape, hb.output.trans h.output, Nat.le_trans h.size hb.size, fun k hk hne => (hb.block k hk).trans (h.block k hk hne)⟩
set_option maxHeartbeats 8000000 in
set_option maxRecDepth 100000 in
theorem take_any (n c : Nat) (A : Option Addr) (at_ : Int) (arg : Nat → LT) (S : Nat → Prop) (B fn : Nat) (cp : Array Value) (q : VT → Bool) (L : List VT) (row : Option Nat) (I : List VT → World → Prop) (w : World)
    (hnc : n ≤ c) (hcm : c ≤ 9223372036854775807) (hR : RdL w S A n arg) (hm : ∀ i, i < n → (arg i).val.many ≤ 4194304) (hT : TakesOk B fn cp q row I) (hI : I L w) (hB : B ≤ w.heap.size) :
    Calls Try.prog 19 #[.agg #[.slice A n c, .int .i64 at_], .func (.func fn) #[] cp] w (TakePost n at_ arg q L row I w) := by
  have HR := Lib.hid hR
  have HM := Lib.hid hm
  have HT := Lib.hid hT
  have HI := Lib.hid hI
  clear hR hm hT hI
  obtain ⟨W0, hW0⟩ : ∃ W0, W0 = ((w.alloc (.cells #[.slice A n c, .int .i64 at_] 38)).alloc (.cells #[.slice none 0 0, .int .i64 0] 38)).alloc (.cells #[.int .i64 0, .int .i64 0, .int .i64 0, .int .i64 0, .string ⟨#[]⟩, .int .i64 0, .int .i64 0, .string ⟨#[]⟩, .slice none 0 0] 44) := ⟨_, rfl⟩
  have HK0 := Lib.hid (show KX W0 w.heap.size (.slice A n c) at_ by
    rw [hW0]
    constructor
    any_goals (first | simp [go_sem] | (intro o; simp [go_sem])))
  have HB0 := Lib.hid (show Below w.heap.size w W0 by rw [hW0]; exact (((Below.refl _ _).alloc (Nat.le_refl _) _).alloc (by simp) _).alloc (by simp; omega) _)
  obtain ⟨b0, b1, r0, r1, rf, y0, y1, y2, y3, y4, y5, y6, y7, y8, yf, bz⟩ := HK0.out
  go_enter Try.func19, Try.ntmps19
  go_wp2_with fail
  rw [← hW0]
  clear hW0
  refine (boxCheck_any n c A at_ arg S _ (by omega) (HR.out.below HB0.out)).mono ?_
  rintro e w1 ⟨x, rfl, hx, hb1⟩
  have HX := Lib.hid hx
  have HK1 := Lib.hid (HK0.out.grown (grown_below (g := none) hb1) (by simp))
  have HB1 := Lib.hid (HB0.out.trans (hb1.mono HB0.out.size))
  clear hx hb1 b0 b1 r0 r1 rf y0 y1 y2 y3 y4 y5 y6 y7 y8 yf bz
  obtain ⟨b0, b1, r0, r1, rf, y0, y1, y2, y3, y4, y5, y6, y7, y8, yf, bz⟩ := HK1.out
  by_cases hx0 : x = 0
  rotate_left
  · have e0 : (x != 0) = true := by simpa using hx0
    have HX0 := Lib.hid hx0
    have x0 : (w1.cell? ⟨w.heap.size + 1, 0, none⟩).isSome = true := by rw [r0]; rfl
    have x1 : (w1.cell? ⟨w.heap.size + 1, 1, none⟩).isSome = true := by rw [r1]; rfl
    have s0 : (w1.cell? ⟨w.heap.size + 2, 0, none⟩).isSome = true := by rw [y0]; rfl
    have s1 : (w1.cell? ⟨w.heap.size + 2, 1, none⟩).isSome = true := by rw [y1]; rfl
    have s2 : (w1.cell? ⟨w.heap.size + 2, 2, none⟩).isSome = true := by rw [y2]; rfl
    have s3 : (w1.cell? ⟨w.heap.size + 2, 3, none⟩).isSome = true := by rw [y3]; rfl
    have s4 : (w1.cell? ⟨w.heap.size + 2, 4, none⟩).isSome = true := by rw [y4]; rfl
    have s5 : (w1.cell? ⟨w.heap.size + 2, 5, none⟩).isSome = true := by rw [y5]; rfl
    have s6 : (w1.cell? ⟨w.heap.size + 2, 6, none⟩).isSome = true := by rw [y6]; rfl
    have s7 : (w1.cell? ⟨w.heap.size + 2, 7, none⟩).isSome = true := by rw [y7]; rfl
    have s8 : (w1.cell? ⟨w.heap.size + 2, 8, none⟩).isSome = true := by rw [y8]; rfl
    have FIN := Lib.hid (show ∀ W', Below w.heap.size w W' → TakePost n at_ arg q L row I w (.returned (.tuple #[.agg #[.slice none 0 0, .int .i64 0], .agg #[.int .i64 0, .int .i64 0, .int .i64 0, .int .i64 0, .string ⟨#[]⟩, .int .i64 0, .int .i64 0, .string ⟨#[]⟩, .slice none 0 0], .bool false, .int .i64 x])) W' from fun W' hb =>
      .inl ⟨fun h => HX0.out (HX.out.2 h), x, HX0.out, rfl, HT.out.keep _ _ _ HI.out hB (hb.mono hB), grown_below hb⟩)
    clear hx0
    go_wp2_with fail
    refine bodyPost_ret (v := .tuple #[.agg #[.slice none 0 0, .int .i64 0], .agg #[.int .i64 0, .int .i64 0, .int .i64 0, .int .i64 0, .string ⟨#[]⟩, .int .i64 0, .int .i64 0, .string ⟨#[]⟩, .slice none 0 0], .bool false, .int .i64 x]) (by simp [results, Try.results19, go_sem, x0, x1, s0, s1, s2, s3, s4, s5, s6, s7, s8]) rfl ?_
    refine FIN.out _ ?_
    iterate 11 (refine below_set ?_ (by omega))
    exact HB1.out
  subst hx0
  have HOK := Lib.hid (HX.out.1 rfl)
  obtain ⟨a, rfl⟩ : ∃ a : Nat, at_ = a := ⟨at_.toNat, by have := HOK.out.2.1; omega⟩
  have hn60 := HOK.out.1
  have han : a ≤ n := by have := HOK.out.2.2.1; omega
  go_wp2_with fail
  refine (leach_any n c A arg S _ (by omega) (HR.out.below HB1.out) HM.out).mono ?_
  rintro e w2 ⟨v, C, rfl, hown, hCl, hCv, hb2⟩
  obtain ⟨A2, cap, rfl, hnc2, hcm2, hA2⟩ := own_any hown
  have HLR := Lib.hid (LRow.mk (arg := arg) hown hCl hCv)
  have HK2 := Lib.hid (HK1.out.grown (grown_below (g := none) hb2) (by simp))
  have HB2 := Lib.hid (HB1.out.trans (hb2.mono HB1.out.size))
  have hz2 := hb2.size
  have hz1 := bz
  clear hown hCl hCv hb2 b0 b1 r0 r1 rf y0 y1 y2 y3 y4 y5 y6 y7 y8 yf bz
  obtain ⟨b0, b1, r0, r1, rf, y0, y1, y2, y3, y4, y5, y6, y7, y8, yf, bz⟩ := HK2.out
  go_wp2_with fail
  go_loopw [10, 11] (fun i _ wr => ∃ k : Nat, a ≤ k ∧ k ≤ n ∧ i = .int .i64 (k : Int) ∧ (∀ j, a ≤ j → j < k → q (arg j).says = false) ∧ KX wr w.heap.size (.slice A n c) a ∧ LRow wr w1.heap.size (.slice A2 n cap) n C arg ∧ I (L ++ asks arg a k) wr ∧ w.grownBy wr row ∧ w1.heap.size ≤ wr.heap.size) (fun i _ _ => n - (intOf i).toNat)
  case atStart =>
    refine ⟨a, Nat.le_refl _, han, rfl, fun j h1 h2 => by omega, HK2.out, HLR.out, ?_, grown_below HB2.out, hz2⟩
    rw [asks_self, List.append_nil]
    exact HT.out.keep _ _ _ HI.out hB (HB2.out.mono hB)
  case round =>
    obtain ⟨k, hak, hkn, rfl, hlow, hK, hLR, hIk, hG, hzr⟩ := hrel
    have HLO := Lib.hid hlow
    have HKR := Lib.hid hK
    have HLQ := Lib.hid hLR
    have HIK := Lib.hid hIk
    have HG := Lib.hid hG
    clear hlow hK hLR hIk hG b0 b1 r0 r1 rf y0 y1 y2 y3 y4 y5 y6 y7 y8 yf bz
    by_cases hlt : k < n
    rotate_left
    · obtain rfl : k = n := by omega
      obtain ⟨b0, b1, r0, r1, rf, y0, y1, y2, y3, y4, y5, y6, y7, y8, yf, bz⟩ := HKR.out
      have x0 : (wr.cell? ⟨w.heap.size + 1, 0, none⟩).isSome = true := by rw [r0]; rfl
      have x1 : (wr.cell? ⟨w.heap.size + 1, 1, none⟩).isSome = true := by rw [r1]; rfl
      have s0 : (wr.cell? ⟨w.heap.size + 2, 0, none⟩).isSome = true := by rw [y0]; rfl
      have s1 : (wr.cell? ⟨w.heap.size + 2, 1, none⟩).isSome = true := by rw [y1]; rfl
      have s2 : (wr.cell? ⟨w.heap.size + 2, 2, none⟩).isSome = true := by rw [y2]; rfl
      have s3 : (wr.cell? ⟨w.heap.size + 2, 3, none⟩).isSome = true := by rw [y3]; rfl
      have s4 : (wr.cell? ⟨w.heap.size + 2, 4, none⟩).isSome = true := by rw [y4]; rfl
      have s5 : (wr.cell? ⟨w.heap.size + 2, 5, none⟩).isSome = true := by rw [y5]; rfl
      have s6 : (wr.cell? ⟨w.heap.size + 2, 6, none⟩).isSome = true := by rw [y6]; rfl
      have s7 : (wr.cell? ⟨w.heap.size + 2, 7, none⟩).isSome = true := by rw [y7]; rfl
      have s8 : (wr.cell? ⟨w.heap.size + 2, 8, none⟩).isSome = true := by rw [y8]; rfl
      have hB' : B ≤ wr.heap.size := by have := HG.out.size; omega
      have FIN := Lib.hid (show ∀ W', Below w.heap.size wr W' → (∀ b, w1.heap.size ≤ b → b < wr.heap.size → W'.heap[b]? = wr.heap[b]?) → TakePost k a arg q L row I w (.returned (.tuple #[.agg #[.slice A2 k cap, .int .i64 (k : Int)], .agg #[.int .i64 0, .int .i64 0, .int .i64 0, .int .i64 0, .string ⟨#[]⟩, .int .i64 0, .int .i64 0, .string ⟨#[]⟩, .slice none 0 0], .bool false, .int .i64 0])) W' from fun W' hb hk =>
        .inr ⟨HOK.out, .inr ⟨HLO.out, A2, cap, rfl, hnc2, hcm2, HLQ.out.rd.frame hb.size (fun b h1 h2 => ⟨by omega, hk b h1 h2⟩), HT.out.keep _ _ _ HIK.out hB' (hb.mono hB), grown_then HG.out hb⟩⟩)
      go_wp2_with fail
      refine bodyPost_ret (v := .tuple #[.agg #[.slice A2 k cap, .int .i64 (k : Int)], .agg #[.int .i64 0, .int .i64 0, .int .i64 0, .int .i64 0, .string ⟨#[]⟩, .int .i64 0, .int .i64 0, .string ⟨#[]⟩, .slice none 0 0], .bool false, .int .i64 0]) (by simp [results, Try.results19, go_sem, x0, x1, s0, s1, s2, s3, s4, s5, s6, s7, s8]) rfl ?_
      refine FIN.out _ ?_ (fun b h1 h2 => ?_)
      · iterate 11 (refine below_set ?_ (by omega))
        exact Below.refl _ _
      · iterate 11 (refine blk_set ?_ (by omega))
        rfl
    · have hEach := HLQ.out.each k hlt
      obtain ⟨Q, hQ⟩ := isL_ex hEach
      obtain ⟨g, cap', hv, hgb, hgl, hncg, hcmg⟩ := own_form HLQ.out.row (by omega)
      injection hv with e1 e2 e3
      subst e1 e3
      have hc : ∀ j, j < 9 → wr.cell? ⟨g, k * 9 + j, none⟩ = (C k)[j]? := fun j hj => own_cellC HLQ.out.row HLQ.out.len hlt hj
      rw [hQ] at hEach hc
      obtain ⟨⟨q1, q2, q3⟩, q4, q5, q6⟩ := Q
      dsimp only at hc hEach hQ
      have HQ := Lib.hid hQ
      have c0 : wr.cell? ⟨g, k * 9, none⟩ = some (.int .i64 (arg k).kind) := hc 0 (by omega)
      have c1 : wr.cell? ⟨g, k * 9 + 1, none⟩ = some (.int .i64 (arg k).frm) := hc 1 (by omega)
      have c2 : wr.cell? ⟨g, k * 9 + 2, none⟩ = some (.int .i64 (arg k).to) := hc 2 (by omega)
      have c3 : wr.cell? ⟨g, k * 9 + 3, none⟩ = some (.int .i64 (arg k).num) := hc 3 (by omega)
      have c4 : wr.cell? ⟨g, k * 9 + 4, none⟩ = some (.string (arg k).text) := hc 4 (by omega)
      have c5 : wr.cell? ⟨g, k * 9 + 5, none⟩ = some (.int .i64 q1) := hc 5 (by omega)
      have c6 : wr.cell? ⟨g, k * 9 + 6, none⟩ = some (.int .i64 q2) := hc 6 (by omega)
      have c7 : wr.cell? ⟨g, k * 9 + 7, none⟩ = some (.string q3) := hc 7 (by omega)
      have c8 : wr.cell? ⟨g, k * 9 + 8, none⟩ = some (.slice q4 q5 q6) := hc 8 (by omega)
      have HE := Lib.hid hEach
      have i1 : (0 : Int) ≤ (k : Int) := by omega
      have i2 : (k : Int) < (n : Int) := by omega
      clear hEach hQ hc
      go_wp2_with fail
      refine (says_any (arg k) _ _ wr HE.out (HM.out k hlt)).mono ?_
      rintro e w3 ⟨cs', rfl, hv3, hb3⟩
      obtain ⟨k', m', s', A', n', c', rfl⟩ := isV_cells hv3
      have hBr : B ≤ wr.heap.size := by have := HG.out.size; omega
      have hz3 := hb3.size
      have hcall := HT.out.call (L ++ asks arg a k) (arg k).says _ _ w3 (HT.out.keep _ _ _ HIK.out hBr (hb3.mono hBr)) hv3 (says_many_le (HM.out k hlt)) (by omega)
      have hen := HT.out.enters (#[.agg #[.int .i64 k', .int .i64 m', .string s', .slice A' n' c']] ++ cp) w3
      have HCALL := Lib.hid hcall
      have HB3 := Lib.hid hb3
      clear hv3 hb3 hcall c0 c1 c2 c3 c4 c5 c6 c7 c8
      go_wp2_with fail
      refine HCALL.out.mono ?_
      rintro e w4 ⟨rfl, hI4, hG4⟩
      have hlow : ∀ j, row = some j → j < w.heap.size := fun j hj => by have := HT.out.low j hj; omega
      have hI4' : I (L ++ asks arg a (k + 1)) w4 := by rw [asks_succ arg hak, ← List.append_assoc]; exact hI4
      have HI4 := Lib.hid hI4'
      have hLR3 := HLQ.out.grown (grown_below (g := none) HB3.out) (by simp)
      have HLR4 := Lib.hid (hLR3.grown hG4 (fun j hj => by have := hlow j hj; omega))
      have HK4 := Lib.hid ((HKR.out.grown (grown_below (g := none) HB3.out) (by simp)).grown hG4 (fun j hj => .inl (hlow j hj)))
      have HG4 := Lib.hid (grown_step (grown_step HG.out (grown_below (g := none) HB3.out) (.inr (by simp))) hG4 (.inl rfl))
      have hz4 := hG4.size
      clear hen hI4 hI4' hG4 hLR3
      obtain ⟨qv, hqv⟩ : ∃ qv, q (arg k).says = qv := ⟨_, rfl⟩
      have HQV := Lib.hid hqv
      rw [hqv]
      clear hqv
      cases qv
      · go_wp2_with fail
        go_roundw
        case rel =>
          refine ⟨k + 1, by omega, by omega, by go_num, fun j h1 h2 => ?_, HK4.out, HLR4.out, HI4.out, HG4.out, by omega⟩
          by_cases ej : j = k
          · subst ej; exact HQV.out
          · exact HLO.out j h1 (by omega)
        case measure => simp [intOf]; omega
      · have hc : ∀ j, j < 9 → w4.cell? ⟨g, k * 9 + j, none⟩ = (C k)[j]? := fun j hj => own_cellC HLR4.out.row HLR4.out.len hlt hj
        rw [HQ.out] at hc
        have c0 : w4.cell? ⟨g, k * 9, none⟩ = some (.int .i64 (arg k).kind) := hc 0 (by omega)
        have c1 : w4.cell? ⟨g, k * 9 + 1, none⟩ = some (.int .i64 (arg k).frm) := hc 1 (by omega)
        have c2 : w4.cell? ⟨g, k * 9 + 2, none⟩ = some (.int .i64 (arg k).to) := hc 2 (by omega)
        have c3 : w4.cell? ⟨g, k * 9 + 3, none⟩ = some (.int .i64 (arg k).num) := hc 3 (by omega)
        have c4 : w4.cell? ⟨g, k * 9 + 4, none⟩ = some (.string (arg k).text) := hc 4 (by omega)
        have c5 : w4.cell? ⟨g, k * 9 + 5, none⟩ = some (.int .i64 q1) := hc 5 (by omega)
        have c6 : w4.cell? ⟨g, k * 9 + 6, none⟩ = some (.int .i64 q2) := hc 6 (by omega)
        have c7 : w4.cell? ⟨g, k * 9 + 7, none⟩ = some (.string q3) := hc 7 (by omega)
        have c8 : w4.cell? ⟨g, k * 9 + 8, none⟩ = some (.slice q4 q5 q6) := hc 8 (by omega)
        obtain ⟨W5, hW5⟩ : ∃ W5, W5 = w4.alloc (.cells #[.int .i64 (arg k).kind, .int .i64 (arg k).frm, .int .i64 (arg k).to, .int .i64 (arg k).num, .string (arg k).text, .int .i64 q1, .int .i64 q2, .string q3, .slice q4 q5 q6] 44) := ⟨_, rfl⟩
        have HG5 := Lib.hid (show w4.grownBy W5 none by rw [hW5]; exact World.grownBy_alloc _ _ _)
        have HW5 := Lib.hid hW5
        clear hc hW5
        have HLR5 := Lib.hid (HLR4.out.grown HG5.out (by simp))
        have HK5 := Lib.hid (HK4.out.grown HG5.out (by simp))
        have hz5 : W5.heap.size = w4.heap.size + 1 := by rw [HW5.out]; simp
        obtain ⟨AA, hAA, hCut⟩ := cut_ok HLR5.out hlt
        have HC := Lib.hid hCut
        have HAA := Lib.hid hAA
        obtain ⟨i0, hi0, jz0, jz1, jz2⟩ := info_parts infoL
        obtain ⟨W6, hW6⟩ : ∃ W6, W6 = W5.drew.setCells g (0 + k * 9) (restC C n k) := ⟨_, rfl⟩
        have HW6 := Lib.hid hW6
        have HG6 := Lib.hid (show W5.grownBy W6 (some g) by rw [hW6]; exact grown_drew (grown_setCells W5.drew g _ _))
        have HK6 := Lib.hid (HK5.out.grown HG6.out (fun j hj => by injection hj with hj; omega))
        have d0 : W5.cell? ⟨w4.heap.size, 0, none⟩ = some (.int .i64 (arg k).kind) := by rw [HW5.out]; simp
        have d1 : W5.cell? ⟨w4.heap.size, 1, none⟩ = some (.int .i64 (arg k).frm) := by rw [HW5.out]; simp
        have d2 : W5.cell? ⟨w4.heap.size, 2, none⟩ = some (.int .i64 (arg k).to) := by rw [HW5.out]; simp
        have d3 : W5.cell? ⟨w4.heap.size, 3, none⟩ = some (.int .i64 (arg k).num) := by rw [HW5.out]; simp
        have d4 : W5.cell? ⟨w4.heap.size, 4, none⟩ = some (.string (arg k).text) := by rw [HW5.out]; simp
        have d5 : W5.cell? ⟨w4.heap.size, 5, none⟩ = some (.int .i64 q1) := by rw [HW5.out]; simp
        have d6 : W5.cell? ⟨w4.heap.size, 6, none⟩ = some (.int .i64 q2) := by rw [HW5.out]; simp
        have d7 : W5.cell? ⟨w4.heap.size, 7, none⟩ = some (.string q3) := by rw [HW5.out]; simp
        have d8 : W5.cell? ⟨w4.heap.size, 8, none⟩ = some (.slice q4 q5 q6) := by rw [HW5.out]; simp
        have e0 : W6.cell? ⟨w4.heap.size, 0, none⟩ = some (.int .i64 (arg k).kind) := (grown_cell HG6.out (by omega) (fun e => by injection e with e; omega)).trans d0
        have e1 : W6.cell? ⟨w4.heap.size, 1, none⟩ = some (.int .i64 (arg k).frm) := (grown_cell HG6.out (by omega) (fun e => by injection e with e; omega)).trans d1
        have e2 : W6.cell? ⟨w4.heap.size, 2, none⟩ = some (.int .i64 (arg k).to) := (grown_cell HG6.out (by omega) (fun e => by injection e with e; omega)).trans d2
        have e3 : W6.cell? ⟨w4.heap.size, 3, none⟩ = some (.int .i64 (arg k).num) := (grown_cell HG6.out (by omega) (fun e => by injection e with e; omega)).trans d3
        have e4 : W6.cell? ⟨w4.heap.size, 4, none⟩ = some (.string (arg k).text) := (grown_cell HG6.out (by omega) (fun e => by injection e with e; omega)).trans d4
        have e5 : W6.cell? ⟨w4.heap.size, 5, none⟩ = some (.int .i64 q1) := (grown_cell HG6.out (by omega) (fun e => by injection e with e; omega)).trans d5
        have e6 : W6.cell? ⟨w4.heap.size, 6, none⟩ = some (.int .i64 q2) := (grown_cell HG6.out (by omega) (fun e => by injection e with e; omega)).trans d6
        have e7 : W6.cell? ⟨w4.heap.size, 7, none⟩ = some (.string q3) := (grown_cell HG6.out (by omega) (fun e => by injection e with e; omega)).trans d7
        have e8 : W6.cell? ⟨w4.heap.size, 8, none⟩ = some (.slice q4 q5 q6) := (grown_cell HG6.out (by omega) (fun e => by injection e with e; omega)).trans d8
        have hic : k ≤ cap := by omega
        have hjc : k + 1 ≤ cap := by omega
        have hjn : k + 1 ≤ n := by omega
        have hw1 : IntKind.i64.wrap ((k : Int) + 1) = (k : Int) + 1 := by rw [IntKind.wrap_i64]; omega
        have htn : ((k : Int) + 1).toNat = k + 1 := by omega
        have hb1 : (0 : Int) ≤ (k : Int) + 1 := by omega
        have hq1 : (k : Int) ≤ (cap : Int) := by omega
        have hq2 : (k : Int) + 1 ≤ (n : Int) := by omega
        clear hW6 hCut
        obtain ⟨b0, b1, r0, r1, rf, y0, y1, y2, y3, y4, y5, y6, y7, y8, yf, bz⟩ := HK6.out
        have x0 : (W6.cell? ⟨w.heap.size + 1, 0, none⟩).isSome = true := by rw [r0]; rfl
        have x1 : (W6.cell? ⟨w.heap.size + 1, 1, none⟩).isSome = true := by rw [r1]; rfl
        have s0 : (W6.cell? ⟨w.heap.size + 2, 0, none⟩).isSome = true := by rw [y0]; rfl
        have s1 : (W6.cell? ⟨w.heap.size + 2, 1, none⟩).isSome = true := by rw [y1]; rfl
        have s2 : (W6.cell? ⟨w.heap.size + 2, 2, none⟩).isSome = true := by rw [y2]; rfl
        have s3 : (W6.cell? ⟨w.heap.size + 2, 3, none⟩).isSome = true := by rw [y3]; rfl
        have s4 : (W6.cell? ⟨w.heap.size + 2, 4, none⟩).isSome = true := by rw [y4]; rfl
        have s5 : (W6.cell? ⟨w.heap.size + 2, 5, none⟩).isSome = true := by rw [y5]; rfl
        have s6 : (W6.cell? ⟨w.heap.size + 2, 6, none⟩).isSome = true := by rw [y6]; rfl
        have s7 : (W6.cell? ⟨w.heap.size + 2, 7, none⟩).isSome = true := by rw [y7]; rfl
        have s8 : (W6.cell? ⟨w.heap.size + 2, 8, none⟩).isSome = true := by rw [y8]; rfl
        have FIN := Lib.hid (show ∀ W', Below w.heap.size W6 W' → (∀ b, w1.heap.size ≤ b → b < W6.heap.size → W'.heap[b]? = W6.heap[b]?) → TakePost n a arg q L row I w (.returned (.tuple #[.agg #[.slice (some ⟨g, 0, none⟩) (k + (n - (k + 1))) cap, .int .i64 0], .agg #[.int .i64 (arg k).kind, .int .i64 (arg k).frm, .int .i64 (arg k).to, .int .i64 (arg k).num, .string (arg k).text, .int .i64 q1, .int .i64 q2, .string q3, .slice q4 q5 q6], .bool true, .int .i64 0])) W' from fun W' hb hk => by
          have e1 : k + (n - (k + 1)) = n - 1 := by omega
          have h65 := HG6.out.size
          have h45 : Below w.heap.size w4 W' := (below_grown (below_grown (Below.refl _ _) (by omega) HG5.out (by simp)) (by omega) HG6.out (fun j hj => by injection hj with hj; omega)).trans hb
          have hw5 := HLR5.out.grown (show W5.grownBy W5.drew none from ⟨rfl, rfl, rfl, Nat.le_refl _, fun _ _ _ => rfl⟩) (by simp)
          have hl := HLR4.out.each k hlt
          rw [HQ.out] at hl
          refine .inr ⟨HOK.out, .inl ⟨k, hak, hlt, HLO.out, HQV.out, some ⟨g, 0, none⟩, cap, [.int .i64 (arg k).kind, .int .i64 (arg k).frm, .int .i64 (arg k).to, .int .i64 (arg k).num, .string (arg k).text, .int .i64 q1, .int .i64 q2, .string q3, .slice q4 q5 q6], by rw [e1], by omega, hcm2, cut_rd hw5 hlt (by omega) (by show W5.heap.size ≤ _; have := hb.size; omega) (fun b h1 h2 => by rw [hk b h1 (by have h3 : b < W5.heap.size := h2; omega), HW6.out]), ?_, HT.out.keep _ _ _ HI4.out (by omega) (h45.mono hB), grown_then HG4.out h45⟩⟩
          refine isL_frame (by have := hb.size; omega) (fun b hs hlt' => ⟨by omega, ?_⟩) hl
          rw [hk b hs.1 (by omega), HG6.out.block b (by omega) (by simpa [Value.ownBlock] using hs.2), HG5.out.block b hlt' (by simp)])
        go_wp2_with fail
        rw [← HW5.out]
        go_region_law (refine step_append_room rfl (.tmp 43) (.tmp 47) 36 rfl 44 i0 9 Try.underlying36 hi0 jz1 g 0 k cap (by simp [Act.eval, Act.put]) AA (n - (k + 1)) (cap - (k + 1)) (restC C n k) (by simp [Act.eval, Act.put]) HC.out.len HC.out.src HC.out.one (by omega) HC.out.room ?_; rw [← HW6.out])
        all_goals
          go_wp2_with fail
          refine bodyPost_ret (v := .tuple #[.agg #[.slice (some ⟨g, 0, none⟩) (k + (n - (k + 1))) cap, .int .i64 0], .agg #[.int .i64 (arg k).kind, .int .i64 (arg k).frm, .int .i64 (arg k).to, .int .i64 (arg k).num, .string (arg k).text, .int .i64 q1, .int .i64 q2, .string q3, .slice q4 q5 q6], .bool true, .int .i64 0]) (by simp [results, Try.results19, go_sem, x0, x1, s0, s1, s2, s3, s4, s5, s6, s7, s8]) rfl ?_
          refine FIN.out _ ?_ (fun b h1 h2 => ?_)
          · iterate 11 (refine below_set ?_ (by omega))
            exact Below.refl _ _
          · iterate 11 (refine blk_set ?_ (by omega))
            rfl
end Go.Proofs.Ytjalgnpbdcefdaa
