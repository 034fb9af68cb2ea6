/- The walk of the law TimerComes. -/
import Derived.Test.YthnoahldolfffaaTimerOpen
import Derived.Test.YthnoahldolfffaaTimerHas
import Derived.Test.YthnoahldolfffaaTimerPlain
namespace Go.Proofs.Ythnoahldolfffaa
open Go.RowKit Go.ChangeShapes Go.WideShapes Go.Deep
set_option linter.unusedVariables false
set_option maxHeartbeats 8000000 in
set_option maxRecDepth 100000 in
theorem timerComes_go (now : Int) (A : Option Addr) (c : Nat) (l : List Du) (id ticks some_ : Int) (w : World) (hS : Sd w (.slice A l.length c) l) :
    Calls Try.prog 5 #[.agg #[.int .i64 now, .slice A l.length c], .int .i64 id, .int .i64 ticks, .int .i64 some_] w fun e w' => e = .returned (.bool true) ∧ Below w.heap.size w w' := by
  have HS := Lib.hid hS
  clear hS
  obtain ⟨W0, hW0⟩ : ∃ W0, W0 = w.alloc (.cells #[.int .i64 now, .slice A l.length c] 24) := ⟨_, rfl⟩
  have HB0 := Lib.hid (show Below w.heap.size w W0 by rw [hW0]; exact (Below.refl _ _).alloc (Nat.le_refl _) _)
  have HT0 := Lib.hid (show TB W0 w.heap.size now (.slice A l.length c) by rw [hW0]; exact ⟨by simp, by simp, by simp⟩)
  go_enter Try.func5, Try.ntmps5
  go_wp2_with fail
  rw [← hW0]
  clear hW0
  refine (set_any now A c l id ticks _ (HS.out.below HB0.out)).mono ?_
  rintro e w1 (⟨hG1, A1, c1, rfl, hO1, hb1⟩ | ⟨hno, x, hx, rfl, hb1⟩)
  rotate_left
  · have HB1 := Lib.hid (HB0.out.trans (hb1.mono HB0.out.size))
    have x0 : (x != 0) = true := by simpa using hx
    clear hx hb1 hno
    go_wp2_with fail
    have HB12 := Lib.hid (show Below w1.heap.size w1 (w1.alloc (.cells #[.int .i64 0, .slice none 0 0] 24)) from (Below.refl _ _).alloc (Nat.le_refl _) _)
    refine (timers_any _).mono ?_
    rintro e w2 ⟨rfl, hb2⟩
    have HX2 := Lib.hid (HB12.out.trans (hb2.mono HB12.out.size))
    have y1 : w2.cell? ⟨w1.heap.size, 1, none⟩ = some (.slice none 0 0) := (hb2.cell (p := ⟨_, _, none⟩) (by simp)).trans (by simp)
    have hz2 : w1.heap.size < w2.heap.size := by have := hb2.size; simp at this; omega
    clear hb2
    go_wp2_with fail
    refine (timers_any _).mono ?_
    rintro e w3 ⟨rfl, hb3⟩
    have y2 : w3.cell? ⟨w1.heap.size, 1, none⟩ = some (.slice none 0 0) := (hb3.cell (p := ⟨_, _, none⟩) hz2).trans y1
    have HB3 := Lib.hid (HB1.out.trans ((HX2.out.trans (hb3.mono HX2.out.size)).mono HB1.out.size))
    clear hb3 y1
    go_wp2_with fail
    go_ret
    exact ⟨rfl, HB3.out⟩
  have HG1 := Lib.hid hG1
  have HOK := Lib.hid (set_ok hG1)
  have HB1 := Lib.hid (HB0.out.trans (hb1.mono HB0.out.size))
  have HT1 := Lib.hid (HT0.out.below hb1)
  have HMEM := Lib.hid (show (⟨now + ticks, id⟩ : Du) ∈ setL now id ticks l from set_mem.2 (.inr rfl))
  obtain ⟨L, hL⟩ : ∃ L, L = setL now id ticks l := ⟨_, rfl⟩
  rw [← hL] at hO1 HOK HMEM ⊢
  have HSL := Lib.hid (Sd.of_own hO1)
  obtain ⟨n0, n1⟩ := hG1.1.2.1
  obtain ⟨k0, k1⟩ := hG1.2.1
  clear hG1 hb1 hO1 hL
  go_wp2_with fail
  have HB12 := Lib.hid (show Below w1.heap.size w1 (w1.alloc (.cells #[.int .i64 now, .slice A1 L.length c1] 24)) from (Below.refl _ _).alloc (Nat.le_refl _) _)
  refine (timers_any _).mono ?_
  rintro e w2 ⟨rfl, hb2⟩
  have HX2 := Lib.hid (HB12.out.trans (hb2.mono HB12.out.size))
  have HT2 := Lib.hid (HT1.out.below HX2.out)
  have y0 : w2.cell? ⟨w1.heap.size, 0, none⟩ = some (.int .i64 now) := (hb2.cell (p := ⟨_, _, none⟩) (by simp)).trans (by simp)
  have y1 : w2.cell? ⟨w1.heap.size, 1, none⟩ = some (.slice A1 L.length c1) := (hb2.cell (p := ⟨_, _, none⟩) (by simp)).trans (by simp)
  have hz2 : w1.heap.size < w2.heap.size := by have := hb2.size; simp at this; omega
  clear hb2
  go_wp2_with fail
  refine (go_any now A1 c1 L some_ _ (HSL.out.below HX2.out)).mono ?_
  rintro e w3 (⟨hG3, n, A3, c3, B3, d3, hD3, rfl, hO3, hP3, hb3⟩ | ⟨hno, x, hx, rfl, hb3⟩)
  rotate_left
  · have HB3 := Lib.hid (HB1.out.trans ((HX2.out.trans (hb3.mono HX2.out.size)).mono HB1.out.size))
    have x0 : (x != 0) = true := by simpa using hx
    clear hx hb3 hno y0 y1
    go_wp2_with fail
    go_ret
    exact ⟨rfl, HB3.out.alloc HB3.out.size _⟩
  obtain ⟨g0, g1⟩ := hG3.2
  have HOK3 := Lib.hid (go_ok HOK.out g0 g1 hD3)
  have HDM := Lib.hid (due_mem HOK.out hD3 HMEM.out)
  have HX3 := Lib.hid (HX2.out.trans (hb3.mono HX2.out.size))
  have HT3 := Lib.hid (HT2.out.below hb3)
  obtain ⟨L3, hL3⟩ : ∃ L3, L3 = L.drop n := ⟨_, rfl⟩
  obtain ⟨K3, hK3⟩ : ∃ K3, K3 = L.take n := ⟨_, rfl⟩
  rw [← hL3] at hO3 HOK3
  rw [← hK3] at hP3 HDM
  rw [← hL3, ← hK3]
  have HS3 := Lib.hid (Sd.of_own hO3)
  have HK3 := Lib.hid (Sd.of_own hP3)
  have z0 : w3.cell? ⟨w1.heap.size, 0, none⟩ = some (.int .i64 now) := (hb3.cell (p := ⟨_, _, none⟩) hz2).trans y0
  have z1 : w3.cell? ⟨w1.heap.size, 1, none⟩ = some (.slice A1 L.length c1) := (hb3.cell (p := ⟨_, _, none⟩) hz2).trans y1
  have hz3 : w1.heap.size < w3.heap.size := by have := hb3.size; omega
  obtain ⟨t0, t1, tz⟩ := HT3.out
  clear hG3 hD3 hb3 hO3 hP3 hL3 hK3 y0 y1
  go_wp2_with fail
  have HB34 := Lib.hid (show Below w3.heap.size w3 (w3.alloc (.cells #[.int .i64 (now + some_), .slice A3 L3.length c3] 24)) from (Below.refl _ _).alloc (Nat.le_refl _) _)
  refine (containsD_any B3 d3 K3 ⟨now + ticks, id⟩ _ (HK3.out.below HB34.out)).mono ?_
  rintro e w5 ⟨rfl, hb5⟩
  obtain ⟨bb, hbb⟩ : ∃ bb : Bool, bb = decide (ticks ≤ some_) := ⟨_, rfl⟩
  have hdec : decide ((⟨now + ticks, id⟩ : Du) ∈ K3) = bb := by
    rw [hbb, Bool.eq_iff_iff, decide_eq_true_eq, decide_eq_true_eq, HDM.out]
    show now + ticks ≤ now + some_ ↔ _
    omega
  rw [hdec]
  have HX5 := Lib.hid (HB34.out.trans (hb5.mono HB34.out.size))
  have v0 : w5.cell? ⟨w3.heap.size, 0, none⟩ = some (.int .i64 (now + some_)) := (hb5.cell (p := ⟨_, _, none⟩) (by simp)).trans (by simp)
  have v1 : w5.cell? ⟨w3.heap.size, 1, none⟩ = some (.slice A3 L3.length c3) := (hb5.cell (p := ⟨_, _, none⟩) (by simp)).trans (by simp)
  have u0 : w5.cell? ⟨w1.heap.size, 0, none⟩ = some (.int .i64 now) := (HX5.out.cell (p := ⟨_, _, none⟩) hz3).trans z0
  have u1 : w5.cell? ⟨w1.heap.size, 1, none⟩ = some (.slice A1 L.length c1) := (HX5.out.cell (p := ⟨_, _, none⟩) hz3).trans z1
  have hz5 : w3.heap.size < w5.heap.size := by have := hb5.size; simp at this; omega
  have HBB := Lib.hid hbb
  have e1 : decide (ticks ≤ some_) = bb := hbb.symm
  obtain ⟨a1, a2⟩ := Sd.cap HSL.out
  obtain ⟨a3, a4⟩ := Sd.cap HS3.out
  clear hb5 hdec hbb z0 z1 t0 t1 tz
  cases bb
  all_goals
    go_wp2_with fail
    refine (check_any now A1 L.length c1 (nthD L) _ a1 a2 (HSL.out.below (HX3.out.trans (HX5.out.mono HX3.out.size))).rd).mono ?_
    rintro e w6 ⟨x6, rfl, hx6, hb6⟩
    obtain rfl : x6 = 0 := hx6.2 HOK.out.tl
    have p0 : w6.cell? ⟨w3.heap.size, 0, none⟩ = some (.int .i64 (now + some_)) := (hb6.cell (p := ⟨_, _, none⟩) hz5).trans v0
    have p1 : w6.cell? ⟨w3.heap.size, 1, none⟩ = some (.slice A3 L3.length c3) := (hb6.cell (p := ⟨_, _, none⟩) hz5).trans v1
    have HX6 := Lib.hid (HX5.out.trans (hb6.mono HX5.out.size))
    clear hx6 hb6 u0 u1 v0 v1
    go_wp2_with fail
    refine (check_any (now + some_) A3 L3.length c3 (nthD L3) _ a3 a4 (HS3.out.below HX6.out).rd).mono ?_
    rintro e w7 ⟨x7, rfl, hx7, hb7⟩
    obtain rfl : x7 = 0 := hx7.2 HOK3.out.tl
    have HF := Lib.hid (HB1.out.trans ((HX3.out.trans ((HX6.out.trans (hb7.mono HX6.out.size)).mono HX3.out.size)).mono HB1.out.size))
    clear hx7 hb7 p0 p1
    go_wp2_with fail
    go_ret
    exact ⟨rfl, HF.out⟩
set_option maxRecDepth 100000 in
theorem timerComes_walk {H : Type} {enc : TypeId × Value → H} (W : World) (base : Nat) (v0 v1 v2 v3 : Value) {d0 d1 d2 d3 : DataW H} {p0 p1 p2 p3 : List MemPlace}
    (k0 : Value.okWide Try.prog W .any base 24 v0) (k1 : Value.okWide Try.prog W .any base 3 v1) (k2 : Value.okWide Try.prog W .any base 3 v2) (k3 : Value.okWide Try.prog W .any base 3 v3)
    (h0 : DataW.Trod enc Try.prog W 0 (fun _ => true) true 24 v0 d0 p0) (h1 : DataW.Trod enc Try.prog W 0 (fun _ => true) true 3 v1 d1 p1) (h2 : DataW.Trod enc Try.prog W 0 (fun _ => true) true 3 v2 d2 p2) (h3 : DataW.Trod enc Try.prog W 0 (fun _ => true) true 3 v3 d3 p3) :
    Calls Try.prog 5 #[v0, v1, v2, v3] W fun e W' => e = .returned (.bool true) ∧ Below W.heap.size W W' := by
  obtain ⟨now, A, c, l, rfl, hS⟩ := open_timers k0 h0
  obtain ⟨a1, rfl, _, _, _⟩ := open_int Try.underlying3 k1 h1
  obtain ⟨a2, rfl, _, _, _⟩ := open_int Try.underlying3 k2 h2
  obtain ⟨a3, rfl, _, _, _⟩ := open_int Try.underlying3 k3 h3
  exact timerComes_go now A c l a1 a2 a3 W hS
end Go.Proofs.Ythnoahldolfffaa
