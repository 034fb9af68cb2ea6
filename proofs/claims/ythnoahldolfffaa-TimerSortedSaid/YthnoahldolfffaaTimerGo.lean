/- timer.Go. -/
import Derived.Test.YthnoahldolfffaaTimerSet
namespace Go.Proofs.Ythnoahldolfffaa
open Go.RowKit
set_option linter.unusedVariables false
theorem nthD_drop (l : List Du) (h k : Nat) : nthD (l.drop h) k = nthD l (h + k) := by simp [nthD]
theorem nthD_take (l : List Du) {m k : Nat} (h : k < m) : nthD (l.take m) k = nthD l k := by simp [nthD, h]
/-- l[a:] -/
theorem cutL_from (A : Option Addr) (c : Nat) (l : List Du) (w0 : World) (hS : Sd w0 (.slice A l.length c) l) (a : Nat) (ha : a ≤ l.length) :
    ∃ XA, (∀ w, (Instr.sliceAt 22 (.slice A l.length c) (some (.int .i64 (a : Int))) none none).run Try.prog w = .ok (.slice XA (l.length - a) (c - a)) w) ∧ Sd w0 (.slice XA (l.drop a).length (c - a)) (l.drop a) := by
  obtain ⟨A0, c0, e, h1, h2, h3, h4⟩ := hS
  injection e with e1 _ e3
  subst e1 e3
  have hl : (l.drop a).length = l.length - a := by simp
  refine ⟨if c = a then A else A.map (·.add (a * 2)), fun w => ?_, ?_⟩
  · rw [run_sliceAt_slice _ _ _ _ _ _ elemD, run_slice_l _ _ _ _ _ elemD _ _ (by omega) (by omega), sizeD]
    simp only [Result.andThen, sliced, Int.toNat_natCast]
  · refine ⟨_, _, rfl, by omega, by omega, fun hn => ?_, fun h0 => ?_⟩
    · rw [hl]
      by_cases e : c = a
      · omega
      · rw [if_neg e] at hn
        cases A with
        | none => have := h3 rfl; omega
        | some _ => cases hn
    · rw [hl] at h0
      obtain ⟨bk, off, rfl, hlt, hc⟩ := h4 (by omega)
      rw [if_neg (by omega)]
      refine ⟨bk, off + a * 2, by simp [Go.WideShapes.add_plain], hlt, fun k hk j u hu => ?_⟩
      rw [hl] at hk
      have := hc (a + k) (by omega) j u (by unfold duC at hu ⊢; rw [nthD_drop] at hu; exact hu)
      rw [show off + a * 2 + k * 2 + j = off + (a + k) * 2 + j by omega]
      exact this
/-- l[:b:b] -/
theorem cutL_to (A : Option Addr) (c : Nat) (l : List Du) (w0 : World) (hS : Sd w0 (.slice A l.length c) l) (b : Nat) (hb : b ≤ l.length) :
    ∃ XA, (∀ w, (Instr.sliceAt 22 (.slice A l.length c) none (some (.int .i64 (b : Int))) (some (.int .i64 (b : Int)))).run Try.prog w = .ok (.slice XA b b) w) ∧ Sd w0 (.slice XA (l.take b).length b) (l.take b) := by
  obtain ⟨A0, c0, e, h1, h2, h3, h4⟩ := hS
  injection e with e1 _ e3
  subst e1 e3
  have hl : (l.take b).length = b := by simp; omega
  refine ⟨if b = 0 then A else A.map (·.add (0 * 2)), fun w => ?_, ?_⟩
  · rw [run_sliceAt_slice _ _ _ _ _ _ elemD, run_slice_hm _ _ _ _ _ elemD _ _ _ _ (by omega) (by omega) (by omega), sizeD]
    simp only [Result.andThen, sliced, Int.toNat_natCast, Nat.sub_zero]
  · refine ⟨_, _, rfl, by omega, by omega, fun hn => ?_, fun h0 => ?_⟩
    · rw [hl]
      by_cases e : b = 0
      · omega
      · rw [if_neg e] at hn
        cases A with
        | none => have := h3 rfl; omega
        | some _ => cases hn
    · rw [hl] at h0
      obtain ⟨bk, off, rfl, hlt, hc⟩ := h4 (by omega)
      rw [if_neg (by omega)]
      refine ⟨bk, off, by simp [Go.WideShapes.add_plain], hlt, fun k hk j u hu => ?_⟩
      rw [hl] at hk
      refine hc k (by omega) j u ?_
      unfold duC at hu ⊢
      rw [nthD_take _ hk] at hu
      exact hu
/-- the boxes of Go and Out -/
structure GB (wx : World) (b : Nat) (now : Int) (v : Value) : Prop where
  c0 : wx.cell? ⟨b, 0, none⟩ = some (.int .i64 now)
  c1 : wx.cell? ⟨b, 1, none⟩ = some v
  r0 : wx.cell? ⟨b + 1, 0, none⟩ = some (.int .i64 0)
  r1 : wx.cell? ⟨b + 1, 1, none⟩ = some (.slice none 0 0)
  fr : ∀ o, wx.frozen? ⟨b + 1, o, none⟩ = false
  sz : b + 1 < wx.heap.size
theorem GB.below {wx wy : World} {b : Nat} {now : Int} {v : Value} {B : Nat} (h : GB wx b now v) (hb : Below B wx wy) (hB : b + 1 < B) : GB wy b now v := by
  have k := fun c o (hc : c < B) => hb.cell (p := ⟨c, o, none⟩) hc
  exact ⟨(k b 0 (by omega)).trans h.c0, (k b 1 (by omega)).trans h.c1, (k (b + 1) 0 (by omega)).trans h.r0, (k (b + 1) 1 (by omega)).trans h.r1, fun o => (hb.frozen (p := ⟨b + 1, o, none⟩) hB).trans (h.fr o), by have := hb.size; have := h.sz; omega⟩
theorem GB.drew {wx : World} {b : Nat} {now : Int} {v : Value} (h : GB wx b now v) : GB wx.drew b now v := ⟨h.c0, h.c1, h.r0, h.r1, h.fr, h.sz⟩
def ClP (k : Nat) (l : List Du) (w : World) (e : Ending) (w' : World) : Prop := ∃ A' c', e = .returned (.slice A' k c') ∧ OwnD w' w.heap.size (.slice A' k c') l ∧ Below w.heap.size w w'
theorem clone_len (A : Option Addr) (c k : Nat) (l : List Du) (w : World) (hk : l.length = k) (hS : Sd w (.slice A l.length c) l) (hl : l.length ≤ 1000000) : Calls Try.prog 22 #[.slice A k c] w (ClP k l w) := by
  subst hk
  exact cloneD_any A c l w hS hl
def GoesT (now ticks : Int) (l : List Du) : Prop := OkTl now l ∧ 0 ≤ ticks ∧ ticks ≤ 1099511627776 - now
/-- n timers are due -/
def DueN (t : Int) (l : List Du) (n : Nat) : Prop := n ≤ l.length ∧ (∀ j x, j < n → l[j]? = some x → x.at_ ≤ t) ∧ ∀ x, l[n]? = some x → ¬ x.at_ ≤ t
def GoGood (now ticks : Int) (l : List Du) (w : World) (e : Ending) (w' : World) : Prop := ∃ n A c B d, DueN (now + ticks) l n ∧ e = .returned (.tuple #[.agg #[.int .i64 (now + ticks), .slice A (l.drop n).length c], .slice B (l.take n).length d, .int .i64 0]) ∧
  OwnD w' w.heap.size (.slice A (l.drop n).length c) (l.drop n) ∧ OwnD w' w.heap.size (.slice B (l.take n).length d) (l.take n) ∧ Below w.heap.size w w'
def GoBad (w : World) (e : Ending) (w' : World) : Prop := ∃ x : Int, x ≠ 0 ∧ e = .returned (.tuple #[.agg #[.int .i64 0, .slice none 0 0], .slice none 0 0, .int .i64 x]) ∧ Below w.heap.size w w'
def GoPost (now ticks : Int) (l : List Du) (w : World) (e : Ending) (w' : World) : Prop := (GoesT now ticks l ∧ GoGood now ticks l w e w') ∨ (¬ GoesT now ticks l ∧ GoBad w e w')
set_option maxHeartbeats 8000000 in
set_option maxRecDepth 100000 in
theorem go_any (now : Int) (A : Option Addr) (c : Nat) (l : List Du) (ticks : Int) (w : World) (hS : Sd w (.slice A l.length c) l) :
    Calls Try.prog 14 #[.agg #[.int .i64 now, .slice A l.length c], .int .i64 ticks] w (GoPost now ticks l w) := by
  have HS := Lib.hid hS
  obtain ⟨k1, k2⟩ : l.length ≤ c ∧ c ≤ 9223372036854775807 := by
    obtain ⟨_, _, e, h1, h2, _, _⟩ := HS.out
    injection e with _ _ e3
    subst e3
    exact ⟨h1, h2⟩
  clear hS
  have HRA := Lib.hid (show Rd w 2 (duC (nthD l)) A l.length by
    obtain ⟨A', c', e, _, _, _, h⟩ := HS.out
    injection e with e1 _ _
    subst e1
    exact h)
  obtain ⟨W0, hW0⟩ : ∃ W0, W0 = (w.alloc (.cells #[.int .i64 now, .slice A l.length c] 24)).alloc (.cells #[.int .i64 0, .slice none 0 0] 24) := ⟨_, rfl⟩
  have HSB := Lib.hid (show GB W0 w.heap.size now (.slice A l.length c) by
    rw [hW0]
    constructor
    any_goals (first | simp [go_sem] | (intro o; simp [go_sem])))
  have HB0 := Lib.hid (show Below w.heap.size w W0 by rw [hW0]; exact ((Below.refl _ _).alloc (Nat.le_refl _) _).alloc (by simp) _)
  have HZ0 := Lib.hid (show W0.heap.size = w.heap.size + 2 by rw [hW0]; simp)
  obtain ⟨b0, b1, b3, b4, bf, bz⟩ := HSB.out
  go_enter Try.func14, Try.ntmps14
  go_wp2_with fail
  rw [← hW0]
  clear hW0
  refine (check_any now A l.length c (nthD l) _ (by omega) (by omega) (HRA.out.below HB0.out)).mono ?_
  rintro e w1 ⟨x, rfl, hx, hb1⟩
  have HX := Lib.hid (show x = 0 ↔ OkTl now l from hx)
  have HSB1 := Lib.hid (HSB.out.below hb1 (by have := HZ0.out; omega))
  have HB1 := Lib.hid (HB0.out.trans (hb1.mono HB0.out.size))
  have hz1 : w.heap.size + 2 ≤ w1.heap.size := by have := hb1.size; have := HZ0.out; omega
  clear hx hb1 b0 b1 b3 b4 bf bz
  have BAD := Lib.hid (show ∀ y : Int, y ≠ 0 → ¬ GoesT now ticks l → GoPost now ticks l w (.returned (.tuple #[.agg #[.int .i64 0, .slice none 0 0], .slice none 0 0, .int .i64 y])) ((w1.setCell ⟨w.heap.size + 1, 0, none⟩ (.int .i64 0)).setCell ⟨w.heap.size + 1, 1, none⟩ (.slice none 0 0)) from
    fun y hy hno => .inr ⟨hno, y, hy, rfl, below_set (below_set HB1.out (by omega)) (by omega)⟩)
  obtain ⟨b0, b1, b3, b4, bf, bz⟩ := HSB1.out
  have x3 : (w1.cell? ⟨w.heap.size + 1, 0, none⟩).isSome = true := by rw [b3]; rfl
  have x4 : (w1.cell? ⟨w.heap.size + 1, 1, none⟩).isSome = true := by rw [b4]; rfl
  by_cases hx0 : x = 0
  rotate_left
  · have e0 : (x != 0) = true := by simpa using hx0
    have HX0 := Lib.hid hx0
    clear hx0
    go_wp2_with fail
    refine bodyPost_ret (v := .tuple #[.agg #[.int .i64 0, .slice none 0 0], .slice none 0 0, .int .i64 x]) (by simp [results, Try.results14, go_sem, x3, x4]) rfl ?_
    exact BAD.out x HX0.out (fun h => HX0.out (HX.out.2 h.1))
  subst hx0
  have HOK := Lib.hid (HX.out.1 rfl)
  have hl100 := HOK.out.1
  obtain ⟨hn1, hn2⟩ := HOK.out.2.1
  by_cases ht1 : ticks < 0
  · have d1 : decide (ticks < 0) = true := by simpa using ht1
    go_wp2_with fail
    refine bodyPost_ret (v := .tuple #[.agg #[.int .i64 0, .slice none 0 0], .slice none 0 0, .int .i64 1]) (by simp [results, Try.results14, go_sem, x3, x4]) rfl ?_
    exact BAD.out 1 (by omega) (fun h => by have := h.2.1; omega)
  have d1 : decide (ticks < 0) = false := by simpa using ht1
  by_cases ht2 : 1099511627776 - now < ticks
  · have d2 : decide (1099511627776 - now < ticks) = true := by simpa using ht2
    go_wp2_with fail
    refine bodyPost_ret (v := .tuple #[.agg #[.int .i64 0, .slice none 0 0], .slice none 0 0, .int .i64 1]) (by simp [results, Try.results14, go_sem, x3, x4]) rfl ?_
    exact BAD.out 1 (by omega) (fun h => by have := h.2.2; omega)
  have d2 : decide (1099511627776 - now < ticks) = false := by simpa using ht2
  go_wp2_with fail
  go_loop [9] (fun i => ∃ n : Nat, n ≤ l.length ∧ i = .int .i64 (n : Int) ∧ (∀ j x, j < n → l[j]? = some x → x.at_ ≤ now + ticks)) (fun i => l.length - (intOf i).toNat)
  case atStart => exact ⟨0, Nat.zero_le _, rfl, fun j x hj => by omega⟩
  case round =>
    obtain ⟨n, hn, rfl, hlow⟩ := hrel
    have HLOW := Lib.hid hlow
    clear hlow
    by_cases hgo : ∃ x, l[n]? = some x ∧ x.at_ ≤ now + ticks
    · obtain ⟨y, hy, hle⟩ := hgo
      have HY := Lib.hid hy
      have hlt : n < l.length := (List.getElem?_eq_some_iff.1 hy).1
      obtain ⟨bk, off, rfl, hbk, hcell⟩ := HRA.out (by omega)
      have hyn : nthD l n = y := by simp [nthD, hy]
      have c0 : w1.cell? ⟨bk, off + n * 2, none⟩ = some (.int .i64 y.at_) := (HB1.out.cell (p := ⟨bk, _, none⟩) hbk).trans (hcell n hlt 0 _ (by unfold duC; rw [hyn]; rfl))
      have e1 : decide ((n : Int) < (l.length : Int)) = true := by simp; omega
      have e1' : decide (n < l.length) = true := by simpa using hlt
      have e2 : decide (y.at_ ≤ now + ticks) = true := by simpa using hle
      clear hcell hyn hy hle
      go_wp2_with fail
      go_round
      case rel =>
        refine ⟨n + 1, by omega, by go_num, fun j x hj hx => ?_⟩
        by_cases ej : j = n
        · subst ej
          rw [HY.out] at hx
          injection hx with hx
          subst hx
          simpa using e2
        · exact HLOW.out j x (by omega) hx
      case measure => simp [intOf]; omega
    · have HD := Lib.hid (show DueN (now + ticks) l n from ⟨hn, HLOW.out, fun x hx hle => hgo ⟨x, hx, hle⟩⟩)
      have HNG := Lib.hid hgo
      obtain ⟨XA, hcutA, hSA⟩ := cutL_from A c l w HS.out n hn
      obtain ⟨XB, hcutB, hSB⟩ := cutL_to A c l w HS.out n hn
      obtain ⟨nA, hnA⟩ : ∃ nA, nA = l.length - n := ⟨_, rfl⟩
      have hlA : (l.drop n).length = nA := by simp; omega
      have hlB : (l.take n).length = n := by simp; omega
      obtain ⟨cA, hcA⟩ : ∃ cA, cA = c - n := ⟨_, rfl⟩
      rw [← hnA, ← hcA] at hcutA
      rw [← hcA] at hSA
      have HCA := Lib.hid (fun W (hW : Below w.heap.size w W) => clone_len XA cA nA (l.drop n) W hlA (hSA.below hW) (by omega))
      have HCB := Lib.hid (fun W (hW : Below w.heap.size w W) => clone_len XB n n (l.take n) W hlB (hSB.below hW) (by omega))
      have HLA := Lib.hid hlA
      have HLB := Lib.hid hlB
      have HD1 := Lib.hid (show Below w.heap.size w w1.drew from HB1.out.drew)
      have hcn : n ≤ c := by omega
      have jn : (0 : Int) ≤ (n : Int) := by omega
      clear hgo hSA hSB hnA hcA hlA hlB
      have hways : (n < l.length ∧ ∃ y, l[n]? = some y ∧ now + ticks < y.at_) ∨ n = l.length := by
        by_cases hlt : n < l.length
        · obtain ⟨y, hy⟩ : ∃ y, l[n]? = some y := ⟨_, List.getElem?_eq_getElem hlt⟩
          exact .inl ⟨hlt, y, hy, by have := HD.out.2.2 y hy; omega⟩
        · exact .inr (by omega)
      have HW := Lib.hid hways
      clear hways
      rcases HW.out with ⟨hlt, y, hy, hle⟩ | he
      · obtain ⟨bk, off, rfl, hbk, hcell⟩ := HRA.out (by omega)
        have hyn : nthD l n = y := by simp [nthD, hy]
        have c0 : w1.cell? ⟨bk, off + n * 2, none⟩ = some (.int .i64 y.at_) := (HB1.out.cell (p := ⟨bk, _, none⟩) hbk).trans (hcell n hlt 0 _ (by unfold duC; rw [hyn]; rfl))
        have e1 : decide ((n : Int) < (l.length : Int)) = true := by simp; omega
        have e1' : decide (n < l.length) = true := by simpa using hlt
        have e2 : decide (y.at_ ≤ now + ticks) = false := by simp; omega
        clear hcell hyn hy hle
        go_wp2_with fail
        go_region_held3 (fun W => W.cell? ⟨w.heap.size, 1, none⟩ = some (.slice (some ⟨bk, off, none⟩) l.length c))
          (first | exact b1 | exact r1 | exact r2 | go_keep)
          (first
            | (go_at_call_of 22 (Value.slice XA nA cA); first
              | (refine (HCA.out w1.drew HD1.out).mono ?_; rintro e wA ⟨A2, d2, rfl, hOA, hbA⟩; have HGA := Lib.hid (HSB1.out.below (below_drew' hbA) bz); have r1 := HGA.out.c1; have HBA := Lib.hid (HB1.out.trans ((below_drew' hbA).mono HB1.out.size)); have HOA := Lib.hid hOA; have hzA := (below_drew' hbA).size; clear hOA hbA)
              | (refine (HCA.out wB HBB.out).mono ?_; rintro e wA ⟨A2, d2, rfl, hOA, hbA⟩; have HGF := Lib.hid (HGB.out.below hbA (by omega)); have r2 := HGF.out.c1; have HBF := Lib.hid (HBB.out.trans (hbA.mono HBB.out.size)); have HOFA := Lib.hid (OwnD.mono hOA HBB.out.size); have HOFB := Lib.hid (OwnD.mono (HOB.out.below hbA) HB1.out.size); obtain ⟨f0, f1, f3, f4, ff, fz⟩ := HGF.out; clear hOA hbA))
            | (go_at_call_of 22 (Value.slice XB n n); first
              | (refine (HCB.out w1.drew HD1.out).mono ?_; rintro e wB ⟨B2, g2, rfl, hOB, hbB⟩; have HGB := Lib.hid (HSB1.out.below (below_drew' hbB) bz); have r1 := HGB.out.c1; have HBB := Lib.hid (HB1.out.trans ((below_drew' hbB).mono HB1.out.size)); have HOB := Lib.hid hOB; have hzB := (below_drew' hbB).size; clear hOB hbB)
              | (refine (HCB.out wA HBA.out).mono ?_; rintro e wB ⟨B2, g2, rfl, hOB, hbB⟩; have HGF := Lib.hid (HGA.out.below hbB (by omega)); have r2 := HGF.out.c1; have HBF := Lib.hid (HBA.out.trans (hbB.mono HBA.out.size)); have HOFB := Lib.hid (show OwnD wB w1.heap.size (.slice B2 n g2) (l.take n) from OwnD.mono hOB hzA); have HOFA := Lib.hid (show OwnD wB w1.heap.size (.slice A2 nA d2) (l.drop n) from HOA.out.below hbB); obtain ⟨f0, f1, f3, f4, ff, fz⟩ := HGF.out; clear hOB hbB)))
        all_goals
          have y3 : (wB.cell? ⟨w.heap.size + 1, 0, none⟩).isSome = true := by rw [f3]; rfl
          have y4 : (wB.cell? ⟨w.heap.size + 1, 1, none⟩).isSome = true := by rw [f4]; rfl
          go_wp2_with fail
          refine bodyPost_ret (v := .tuple #[.agg #[.int .i64 (now + ticks), .slice A2 nA d2], .slice B2 n g2, .int .i64 0]) (by simp [results, Try.results14, go_sem, y3, y4]) rfl ?_
          refine .inl ⟨⟨HOK.out, by omega, by omega⟩, n, A2, d2, B2, g2, HD.out, by rw [HLA.out, HLB.out], ?_, ?_, below_set (below_set HBF.out (by omega)) (by omega)⟩
          · rw [HLA.out]
            exact own_mono (own_set (own_set HOFA.out (by omega)) (by omega)) (by omega)
          · rw [HLB.out]
            exact own_mono (own_set (own_set HOFB.out (by omega)) (by omega)) (by omega)
      · have e1 : decide ((n : Int) < (l.length : Int)) = false := by simp; omega
        have e1' : decide (n < l.length) = false := by simp; omega
        clear he
        go_wp2_with fail
        go_region_held3 (fun W => W.cell? ⟨w.heap.size, 1, none⟩ = some (.slice A l.length c))
          (first | exact b1 | exact r1 | exact r2 | go_keep)
          (first
            | (go_at_call_of 22 (Value.slice XA nA cA); first
              | (refine (HCA.out w1.drew HD1.out).mono ?_; rintro e wA ⟨A2, d2, rfl, hOA, hbA⟩; have HGA := Lib.hid (HSB1.out.below (below_drew' hbA) bz); have r1 := HGA.out.c1; have HBA := Lib.hid (HB1.out.trans ((below_drew' hbA).mono HB1.out.size)); have HOA := Lib.hid hOA; have hzA := (below_drew' hbA).size; clear hOA hbA)
              | (refine (HCA.out wB HBB.out).mono ?_; rintro e wA ⟨A2, d2, rfl, hOA, hbA⟩; have HGF := Lib.hid (HGB.out.below hbA (by omega)); have r2 := HGF.out.c1; have HBF := Lib.hid (HBB.out.trans (hbA.mono HBB.out.size)); have HOFA := Lib.hid (OwnD.mono hOA HBB.out.size); have HOFB := Lib.hid (OwnD.mono (HOB.out.below hbA) HB1.out.size); obtain ⟨f0, f1, f3, f4, ff, fz⟩ := HGF.out; clear hOA hbA))
            | (go_at_call_of 22 (Value.slice XB n n); first
              | (refine (HCB.out w1.drew HD1.out).mono ?_; rintro e wB ⟨B2, g2, rfl, hOB, hbB⟩; have HGB := Lib.hid (HSB1.out.below (below_drew' hbB) bz); have r1 := HGB.out.c1; have HBB := Lib.hid (HB1.out.trans ((below_drew' hbB).mono HB1.out.size)); have HOB := Lib.hid hOB; have hzB := (below_drew' hbB).size; clear hOB hbB)
              | (refine (HCB.out wA HBA.out).mono ?_; rintro e wB ⟨B2, g2, rfl, hOB, hbB⟩; have HGF := Lib.hid (HGA.out.below hbB (by omega)); have r2 := HGF.out.c1; have HBF := Lib.hid (HBA.out.trans (hbB.mono HBA.out.size)); have HOFB := Lib.hid (show OwnD wB w1.heap.size (.slice B2 n g2) (l.take n) from OwnD.mono hOB hzA); have HOFA := Lib.hid (show OwnD wB w1.heap.size (.slice A2 nA d2) (l.drop n) from HOA.out.below hbB); obtain ⟨f0, f1, f3, f4, ff, fz⟩ := HGF.out; clear hOB hbB)))
        all_goals
          have y3 : (wB.cell? ⟨w.heap.size + 1, 0, none⟩).isSome = true := by rw [f3]; rfl
          have y4 : (wB.cell? ⟨w.heap.size + 1, 1, none⟩).isSome = true := by rw [f4]; rfl
          go_wp2_with fail
          refine bodyPost_ret (v := .tuple #[.agg #[.int .i64 (now + ticks), .slice A2 nA d2], .slice B2 n g2, .int .i64 0]) (by simp [results, Try.results14, go_sem, y3, y4]) rfl ?_
          refine .inl ⟨⟨HOK.out, by omega, by omega⟩, n, A2, d2, B2, g2, HD.out, by rw [HLA.out, HLB.out], ?_, ?_, below_set (below_set HBF.out (by omega)) (by omega)⟩
          · rw [HLA.out]
            exact own_mono (own_set (own_set HOFA.out (by omega)) (by omega)) (by omega)
          · rw [HLB.out]
            exact own_mono (own_set (own_set HOFB.out (by omega)) (by omega)) (by omega)
end Go.Proofs.Ythnoahldolfffaa
