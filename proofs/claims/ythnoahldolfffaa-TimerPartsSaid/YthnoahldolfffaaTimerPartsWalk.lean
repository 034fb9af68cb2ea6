/- The walk of the law TimerParts. -/
import Derived.Test.YthnoahldolfffaaTimerOpen
namespace Go.Proofs.Ythnoahldolfffaa
open Go.RowKit Go.ChangeShapes Go.WideShapes Go.Deep
set_option linter.unusedVariables false
theorem DueN.uniq {t : Int} {l : List Du} {n m : Nat} (h : DueN t l n) (g : DueN t l m) : n = m := by
  rcases Nat.lt_trichotomy n m with hlt | e | hlt
  · have hl : n < l.length := by have := g.1; omega
    exact absurd (g.2.1 n _ hlt (List.getElem?_eq_getElem hl)) (h.2.2 _ (List.getElem?_eq_getElem hl))
  · exact e
  · have hl : m < l.length := by have := h.1; omega
    exact absurd (h.2.1 m _ hlt (List.getElem?_eq_getElem hl)) (g.2.2 _ (List.getElem?_eq_getElem hl))
theorem DueN.add {t u : Int} {l : List Du} {n m : Nat} (h : DueN t l n) (g : DueN u (l.drop n) m) (htu : t ≤ u) : DueN u l (n + m) := by
  have h1 := h.1
  have h2 := g.1
  rw [List.length_drop] at h2
  refine ⟨by omega, fun j x hj hx => ?_, fun x hx => g.2.2 x (by rw [List.getElem?_drop]; exact hx)⟩
  by_cases hjn : j < n
  · have := h.2.1 j x hjn hx
    omega
  · exact g.2.1 (j - n) x (by omega) (by rw [List.getElem?_drop, show n + (j - n) = j by omega]; exact hx)
set_option maxHeartbeats 8000000 in
set_option maxRecDepth 100000 in
theorem timerParts_go (now : Int) (A : Option Addr) (c : Nat) (l : List Du) (a b : Int) (w : World) (hS : Sd w (.slice A l.length c) l) :
    Calls Try.prog 6 #[.agg #[.int .i64 now, .slice A l.length c], .int .i64 a, .int .i64 b] w fun e w' => e = .returned (.bool true) ∧ Below w.heap.size w w' := by
  have HS := Lib.hid hS
  clear hS
  obtain ⟨W0, hW0⟩ : ∃ W0, W0 = w.alloc (.cells #[.int .i64 now, .slice A l.length c] 24) := ⟨_, rfl⟩
  have HB0 := Lib.hid (show Below w.heap.size w W0 by rw [hW0]; exact (Below.refl _ _).alloc (Nat.le_refl _) _)
  have HT0 := Lib.hid (show TB W0 w.heap.size now (.slice A l.length c) by rw [hW0]; exact ⟨by simp, by simp, by simp⟩)
  go_enter Try.func6, Try.ntmps6
  go_wp2_with fail
  rw [← hW0]
  clear hW0
  refine (go_any now A c l a _ (HS.out.below HB0.out)).mono ?_
  rintro e w1 (⟨hG1, n, A1, c1, B1, d1, hD1, rfl, hO1, hP1, hb1⟩ | ⟨hno, x, hx, rfl, hb1⟩)
  · have HG1 := Lib.hid hG1
    have HD1 := Lib.hid hD1
    have HB1 := Lib.hid (HB0.out.trans (hb1.mono HB0.out.size))
    have HT1 := Lib.hid (HT0.out.below hb1)
    obtain ⟨L1, hL1⟩ : ∃ L1, L1 = l.drop n := ⟨_, rfl⟩
    obtain ⟨K1, hK1⟩ : ∃ K1, K1 = l.take n := ⟨_, rfl⟩
    rw [← hL1] at hO1
    rw [← hK1] at hP1
    rw [← hL1, ← hK1]
    have HL1 := Lib.hid hL1
    have HK1 := Lib.hid hK1
    have HSL := Lib.hid (Sd.of_own hO1)
    have HSK := Lib.hid (Sd.of_own hP1)
    clear hG1 hD1 hb1 hO1 hP1 hL1 hK1
    go_wp2_with fail
    have HB12 := Lib.hid (show Below w1.heap.size w1 (w1.alloc (.cells #[.int .i64 (now + a), .slice A1 L1.length c1] 24)) from (Below.refl _ _).alloc (Nat.le_refl _) _)
    refine (go_any (now + a) A1 c1 L1 b _ (HSL.out.below HB12.out)).mono ?_
    rintro e w2 (⟨hG2, m, A2, c2, B2, d2, hD2, rfl, hO2, hP2, hb2⟩ | ⟨hno, x, hx, rfl, hb2⟩)
    · have HG2 := Lib.hid hG2
      have HD2 := Lib.hid hD2
      have HB2 := Lib.hid (HB1.out.trans ((HB12.out.trans (hb2.mono HB12.out.size)).mono HB1.out.size))
      have HT2 := Lib.hid ((HT1.out.below HB12.out).below hb2)
      obtain ⟨L2, hL2⟩ : ∃ L2, L2 = L1.drop m := ⟨_, rfl⟩
      obtain ⟨K2, hK2⟩ : ∃ K2, K2 = L1.take m := ⟨_, rfl⟩
      rw [← hL2] at hO2
      rw [← hK2] at hP2
      rw [← hL2, ← hK2]
      have HL2 := Lib.hid hL2
      have HK2 := Lib.hid hK2
      have HSL2 := Lib.hid (Sd.of_own hO2)
      have HSK2 := Lib.hid (Sd.of_own hP2)
      have HSK12 := Lib.hid (HSK.out.below (HB12.out.trans (hb2.mono HB12.out.size)))
      obtain ⟨n0, n1⟩ := hG2.1.2.1
      obtain ⟨m0, m1⟩ := HG1.out.1.2.1
      obtain ⟨a0, a1⟩ := HG1.out.2
      obtain ⟨b0, b1⟩ := hG2.2
      clear hG2 hD2 hb2 hO2 hP2 hL2 hK2
      go_wp2_with fail
      have HB23 := Lib.hid (show Below w2.heap.size w2 (w2.alloc (.cells #[.int .i64 (now + a + b), .slice A2 L2.length c2] 24)) from (Below.refl _ _).alloc (Nat.le_refl _) _)
      refine (timers_any _).mono ?_
      rintro e w3 ⟨rfl, hb3⟩
      have HX3 := Lib.hid (HB23.out.trans (hb3.mono HB23.out.size))
      have y0 : w3.cell? ⟨w2.heap.size, 0, none⟩ = some (.int .i64 (now + a + b)) := (hb3.cell (p := ⟨_, _, none⟩) (by simp)).trans (by simp)
      have y1 : w3.cell? ⟨w2.heap.size, 1, none⟩ = some (.slice A2 L2.length c2) := (hb3.cell (p := ⟨_, _, none⟩) (by simp)).trans (by simp)
      have hz3 : w2.heap.size < w3.heap.size := by have := hb3.size; simp at this; omega
      have HT3 := Lib.hid (HT2.out.below HX3.out)
      obtain ⟨t0, t1, tz⟩ := HT3.out
      clear hb3
      go_wp2_with fail
      refine (good_two 0 0 _ 2 _ (by simp [go_sem]) (by simp [go_sem])).mono ?_
      rintro e w4 ⟨rfl, rfl⟩
      have s0 : -1099511627776 ≤ a + b := by omega
      have s1 : a + b ≤ 2199023255552 := by omega
      go_wp2_with fail
      have HB34 := Lib.hid (show Below w3.heap.size w3 (w3.alloc (.cells #[.int .i64 0, .int .i64 0] 27)) from (Below.refl _ _).alloc (Nat.le_refl _) _)
      have HW4 := Lib.hid (HX3.out.trans (HB34.out.mono HX3.out.size))
      refine (go_any now A c l (a + b) _ (HS.out.below (HB2.out.trans (HW4.out.mono HB2.out.size)))).mono ?_
      rintro e w5 (⟨_, p, A5, c5, B5, d5, hD5, rfl, hO5, hP5, hb5⟩ | ⟨hno, _⟩)
      rotate_left
      · exact absurd ⟨HG1.out.1, by omega, by omega⟩ hno
      have hsum : now + (a + b) = now + a + b := by omega
      have hp : p = n + m := by
        refine hD5.uniq ?_
        rw [hsum]
        exact HD1.out.add (by rw [← HL1.out]; exact HD2.out) (by omega)
      have hl3 : l.drop p = L2 := by rw [hp, HL2.out, HL1.out, List.drop_drop]
      have hk3 : l.take p = K1 ++ K2 := by rw [hp, HK1.out, HK2.out, HL1.out, List.take_add]
      rw [hl3] at hO5 ⊢
      rw [hk3] at hP5 ⊢
      rw [hsum]
      have HSL5 := Lib.hid (Sd.of_own hO5)
      have HSK5 := Lib.hid (Sd.of_own hP5)
      have HX5 := Lib.hid (HW4.out.trans (hb5.mono HW4.out.size))
      have z0 : w5.cell? ⟨w2.heap.size, 0, none⟩ = some (.int .i64 (now + a + b)) := (hb5.cell (p := ⟨_, _, none⟩) (by simp; omega)).trans ((HB34.out.cell (p := ⟨_, _, none⟩) hz3).trans y0)
      have z1 : w5.cell? ⟨w2.heap.size, 1, none⟩ = some (.slice A2 L2.length c2) := (hb5.cell (p := ⟨_, _, none⟩) (by simp; omega)).trans ((HB34.out.cell (p := ⟨_, _, none⟩) hz3).trans y1)
      have hz5 : w2.heap.size < w5.heap.size := by have := hb5.size; simp at this; omega
      obtain ⟨KK, hKK⟩ : ∃ KK, KK = K1 ++ K2 := ⟨_, rfl⟩
      rw [← hKK] at HSK5 ⊢
      have HKK := Lib.hid hKK
      clear hD5 hO5 hP5 hb5 hsum hp hl3 hk3 y0 y1 t0 t1 tz hKK
      go_wp2_with fail
      have HB56 := Lib.hid (show Below w5.heap.size w5 (w5.alloc (.cells #[.int .i64 (now + a + b), .slice A5 L2.length c5] 24)) from (Below.refl _ _).alloc (Nat.le_refl _) _)
      have HX6 := Lib.hid (HX5.out.trans (HB56.out.mono HX5.out.size))
      refine (sameT_same (now + a + b) A2 A5 c2 c5 L2 _ (HSL2.out.below HX6.out) (HSL5.out.below HB56.out)).mono ?_
      rintro e w7 ⟨rfl, hb7⟩
      have HX7 := Lib.hid (HX6.out.trans (hb7.mono HX6.out.size))
      have HSK7 := Lib.hid ((HSK5.out.below HB56.out).below hb7)
      have HSA := Lib.hid (HSK12.out.below HX7.out)
      have HSB := Lib.hid (HSK2.out.below HX7.out)
      clear z0 z1 hb7
      go_wp2_with fail
      have HB78 := Lib.hid (show Below w7.heap.size w7 (w7.alloc (.cells #[.slice B1 K1.length d1, .slice B2 K2.length d2] 22)) from (Below.refl _ _).alloc (Nat.le_refl _) _)
      have hRD : RdDD (w7.alloc (.cells #[.slice B1 K1.length d1, .slice B2 K2.length d2] 22)) (some ⟨w7.heap.size, 0, none⟩) 2 (fun i => if i = 0 then K1 else K2) := fun _ => ⟨w7.heap.size, 0, rfl, by simp, fun i hi => by
        have hii : i = 0 ∨ i = 1 := by omega
        rcases hii with rfl | rfl
        · exact ⟨B1, d1, by simp, HSA.out.below HB78.out⟩
        · exact ⟨B2, d2, by simp, HSB.out.below HB78.out⟩⟩
      have hkl : KK.length ≤ 1000 := by
        have h1 := HG1.out.1.1
        rw [HKK.out, HK1.out, HK2.out, HL1.out, List.length_append, List.length_take, List.length_take, List.length_drop]
        omega
      have hcat : catD (fun i => if i = 0 then K1 else K2) 2 = KK := by rw [HKK.out]; simp [catD]
      refine (concat_any (some ⟨w7.heap.size, 0, none⟩) 2 2 _ _ (by omega) (by omega) hRD (by rw [hcat]; omega)).mono ?_
      rw [hcat]
      rintro e w8 ⟨v8, rfl, hO8, hb8⟩
      obtain ⟨A8, c8, rfl, -, -, -⟩ := own_any hO8
      have HS8 := Lib.hid (Sd.of_own hO8)
      have HX8 := Lib.hid (HB78.out.trans (hb8.mono HB78.out.size))
      have HF := Lib.hid (HB2.out.trans ((HX7.out.trans (HX8.out.mono HX7.out.size)).mono HB2.out.size))
      clear hO8 hb8 hcat hRD
      go_wp2_with fail
      refine (equalD_same B5 A8 d5 c8 KK _ (HSK7.out.below HX8.out) HS8.out).mono ?_
      rintro e w9 ⟨rfl, hb9⟩
      have HF9 := Lib.hid (HF.out.trans (hb9.mono HF.out.size))
      clear hb9
      go_wp2_with fail
      go_ret
      exact ⟨rfl, HF9.out⟩
    · have HB2 := Lib.hid (HB1.out.trans ((HB12.out.trans (hb2.mono HB12.out.size)).mono HB1.out.size))
      have HX0 := Lib.hid hx
      clear hx hb2 hno
      go_wp2_with fail
      refine (timers_any _).mono ?_
      rintro e w3 ⟨rfl, hb3⟩
      have HB3 := Lib.hid ((HB2.out.alloc HB2.out.size _).trans (hb3.mono (by have := HB2.out.size; simp; omega)))
      clear hb3
      go_wp2_with fail
      refine (good_two 0 x _ 2 _ (by simp [go_sem]) (by simp [go_sem])).mono ?_
      rintro e w4 ⟨rfl, rfl⟩
      have hg : (((0 : Int) == 0) && ((x : Int) == 0)) = false := by
        have h1 : ((x : Int) == 0) = false := beq_eq_false_iff_ne.2 HX0.out
        simp [h1]
      rw [hg]
      go_wp2_with fail
      refine (timers_any _).mono ?_
      rintro e w5 ⟨rfl, hb5⟩
      have HB5 := Lib.hid ((HB3.out.alloc HB3.out.size _).trans (hb5.mono (by have := HB3.out.size; simp; omega)))
      clear hb5
      go_wp2_with fail
      go_ret
      exact ⟨rfl, HB5.out⟩
  · have HB1 := Lib.hid (HB0.out.trans (hb1.mono HB0.out.size))
    have HX0 := Lib.hid hx
    clear hx hb1 hno
    go_wp2_with fail
    have HB12 := Lib.hid (show Below w1.heap.size w1 (w1.alloc (.cells #[.int .i64 0, .slice none 0 0] 24)) from (Below.refl _ _).alloc (Nat.le_refl _) _)
    refine (go_any 0 none 0 [] b _ (Sd.nil _)).mono ?_
    rintro e w2 (⟨hG2, m, A2, c2, B2, d2, hD2, rfl, hO2, hP2, hb2⟩ | ⟨hno, x2, hx2, rfl, hb2⟩)
    · have HB2 := Lib.hid (HB1.out.trans ((HB12.out.trans (hb2.mono HB12.out.size)).mono HB1.out.size))
      clear hG2 hD2 hb2 hO2 hP2
      go_wp2_with fail
      refine (timers_any _).mono ?_
      rintro e w3 ⟨rfl, hb3⟩
      have HB3 := Lib.hid ((HB2.out.alloc HB2.out.size _).trans (hb3.mono (by have := HB2.out.size; simp; omega)))
      clear hb3
      go_wp2_with fail
      refine (good_two x 0 _ 2 _ (by simp [go_sem]) (by simp [go_sem])).mono ?_
      rintro e w4 ⟨rfl, rfl⟩
      have hg : (((x : Int) == 0) && ((0 : Int) == 0)) = false := by
        have h1 : ((x : Int) == 0) = false := beq_eq_false_iff_ne.2 HX0.out
        simp [h1]
      rw [hg]
      go_wp2_with fail
      refine (timers_any _).mono ?_
      rintro e w5 ⟨rfl, hb5⟩
      have HB5 := Lib.hid ((HB3.out.alloc HB3.out.size _).trans (hb5.mono (by have := HB3.out.size; simp; omega)))
      clear hb5
      go_wp2_with fail
      go_ret
      exact ⟨rfl, HB5.out⟩
    · have HB2 := Lib.hid (HB1.out.trans ((HB12.out.trans (hb2.mono HB12.out.size)).mono HB1.out.size))
      clear hx2 hb2 hno
      go_wp2_with fail
      refine (timers_any _).mono ?_
      rintro e w3 ⟨rfl, hb3⟩
      have HB3 := Lib.hid ((HB2.out.alloc HB2.out.size _).trans (hb3.mono (by have := HB2.out.size; simp; omega)))
      clear hb3
      go_wp2_with fail
      refine (good_two x x2 _ 2 _ (by simp [go_sem]) (by simp [go_sem])).mono ?_
      rintro e w4 ⟨rfl, rfl⟩
      have hg : (((x : Int) == 0) && ((x2 : Int) == 0)) = false := by
        have h1 : ((x : Int) == 0) = false := beq_eq_false_iff_ne.2 HX0.out
        simp [h1]
      rw [hg]
      go_wp2_with fail
      refine (timers_any _).mono ?_
      rintro e w5 ⟨rfl, hb5⟩
      have HB5 := Lib.hid ((HB3.out.alloc HB3.out.size _).trans (hb5.mono (by have := HB3.out.size; simp; omega)))
      clear hb5
      go_wp2_with fail
      go_ret
      exact ⟨rfl, HB5.out⟩
set_option maxRecDepth 100000 in
theorem timerParts_walk {H : Type} {enc : TypeId × Value → H} (W : World) (base : Nat) (v0 v1 v2 : Value) {d0 d1 d2 : DataW H} {p0 p1 p2 : List MemPlace}
    (k0 : Value.okWide Try.prog W .any base 24 v0) (k1 : Value.okWide Try.prog W .any base 3 v1) (k2 : Value.okWide Try.prog W .any base 3 v2)
    (h0 : DataW.Trod enc Try.prog W 0 (fun _ => true) true 24 v0 d0 p0) (h1 : DataW.Trod enc Try.prog W 0 (fun _ => true) true 3 v1 d1 p1) (h2 : DataW.Trod enc Try.prog W 0 (fun _ => true) true 3 v2 d2 p2) :
    Calls Try.prog 6 #[v0, v1, v2] W fun e W' => e = .returned (.bool true) ∧ Below W.heap.size W W' := by
  obtain ⟨now, A, c, l, rfl, hS⟩ := open_timers k0 h0
  obtain ⟨a1, rfl, _, _, _⟩ := open_int Try.underlying3 k1 h1
  obtain ⟨a2, rfl, _, _, _⟩ := open_int Try.underlying3 k2 h2
  exact timerParts_go now A c l a1 a2 W hS
end Go.Proofs.Ythnoahldolfffaa
