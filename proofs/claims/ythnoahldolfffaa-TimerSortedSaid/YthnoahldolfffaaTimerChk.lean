/- timer.Check. -/
import Derived.Test.YthnoahldolfffaaTimer
import Derived.Deep.DeepCutAuto
import Derived.IntWalk
namespace Go.Proofs.Ythnoahldolfffaa
open Go.RowKit
set_option linter.unusedVariables false
def OkDu (now : Int) (R : Nat → Du) (i : Nat) : Prop := (now < (R i).at_ ∧ (R i).at_ ≤ 2199023255552) ∧ (0 < i → cmpD (R (i - 1)) (R i) < 0) ∧ ∀ j, j < i → (R j).id ≠ (R i).id
def OkT (now : Int) (R : Nat → Du) (n : Nat) : Prop := n ≤ 100 ∧ (0 ≤ now ∧ now ≤ 1099511627776) ∧ ∀ i, i < n → OkDu now R i
def ChkPost (P : Prop) (w : World) (e : Ending) (w' : World) : Prop := ∃ x : Int, e = .returned (.int .i64 x) ∧ (x = 0 ↔ P) ∧ Below w.heap.size w w'
theorem sizeD (w : World) : (sizeOf (Try.prog.elem 22)).run Try.prog w = .ok 2 w := by kernel_rfl
theorem elemD : Try.prog.underlying 22 = some (.slice (Try.prog.elem 22)) := by kernel_rfl
/-- l[:b] -/
theorem cutD_to (A : Option Addr) (n c : Nat) (R : Nat → Du) (w0 : World) (hnc : n ≤ c) (hR : Rd w0 2 (duC R) A n) (b : Nat) (hb : b ≤ n) :
    ∃ XA, (∀ w, (Instr.sliceAt 22 (.slice A n c) none (some (.int .i64 (b : Int))) none).run Try.prog w = .ok (.slice XA b c) w) ∧ Rd w0 2 (duC R) XA b := by
  refine ⟨if c = 0 then A else A.map (·.add (0 * 2)), fun w => ?_, fun h0 => ?_⟩
  · rw [run_sliceAt_slice _ _ _ _ _ _ elemD, run_slice_h _ _ _ _ _ elemD _ _ (by omega) (by omega), sizeD]
    simp only [Result.andThen, sliced, Int.toNat_natCast, Nat.sub_zero]
  · obtain ⟨bk, off, rfl, hlt, hc⟩ := hR (by omega)
    rw [if_neg (by omega)]
    exact ⟨bk, off, by simp [Go.WideShapes.add_plain], hlt, fun k hk => hc k (by omega)⟩
/-- the box of the timers -/
structure TB (wx : World) (b : Nat) (now : Int) (v : Value) : Prop where
  c0 : wx.cell? ⟨b, 0, none⟩ = some (.int .i64 now)
  c1 : wx.cell? ⟨b, 1, none⟩ = some v
  sz : b < wx.heap.size
theorem TB.below {wx wy : World} {b : Nat} {now : Int} {v : Value} (h : TB wx b now v) (hb : Below wx.heap.size wx wy) : TB wy b now v :=
  ⟨(hb.cell (p := ⟨b, 0, none⟩) h.sz).trans h.c0, (hb.cell (p := ⟨b, 1, none⟩) h.sz).trans h.c1, by have := hb.size; have := h.sz; omega⟩
set_option maxHeartbeats 8000000 in
set_option maxRecDepth 100000 in
theorem check_any (now : Int) (A : Option Addr) (n c : Nat) (R : Nat → Du) (w : World) (hn : n ≤ c) (hc : c ≤ 9223372036854775807) (hR : Rd w 2 (duC R) A n) :
    Calls Try.prog 8 #[.agg #[.int .i64 now, .slice A n c]] w (ChkPost (OkT now R n) w) := by
  have HR := Lib.hid hR
  clear hR
  have HT0 := Lib.hid (show TB (w.alloc (.cells #[.int .i64 now, .slice A n c] 24)) w.heap.size now (.slice A n c) from ⟨by simp, by simp, by simp⟩)
  have HB0 := Lib.hid (show Below w.heap.size w (w.alloc (.cells #[.int .i64 now, .slice A n c] 24)) from (Below.refl _ _).alloc (Nat.le_refl _) _)
  by_cases h100 : 100 < n
  · have e6 : decide ((100 : Int) < (n : Int)) = true := by simp; omega
    have e7 : decide (100 < n) = true := by simpa using h100
    go_enter Try.func8, Try.ntmps8
    go_wp2_with fail
    go_ret
    exact ⟨2, rfl, ⟨fun h => by omega, fun h => by have := h.1; omega⟩, HB0.out⟩
  have e6 : decide ((100 : Int) < (n : Int)) = false := by simp; omega
  have e7 : decide (100 < n) = false := by simpa using h100
  by_cases hnow : 0 ≤ now ∧ now ≤ 1099511627776
  rotate_left
  · by_cases g1 : now < 0
    · have d1 : decide (now < 0) = true := by simpa using g1
      go_enter Try.func8, Try.ntmps8
      go_wp2_with fail
      go_ret
      exact ⟨1, rfl, ⟨fun h => by omega, fun h => by have := h.2.1; omega⟩, HB0.out⟩
    · have d1 : decide (now < 0) = false := by simpa using g1
      have d2 : decide (1099511627776 < now) = true := by simp; omega
      go_enter Try.func8, Try.ntmps8
      go_wp2_with fail
      go_ret
      exact ⟨1, rfl, ⟨fun h => by omega, fun h => by have := h.2.1; omega⟩, HB0.out⟩
  have d1 : decide (now < 0) = false := by simp; omega
  have d2 : decide (1099511627776 < now) = false := by simp; omega
  go_enter Try.func8, Try.ntmps8
  go_wp2_with fail
  go_loopw [2, 3, 4, 22, 27, 38, 52] (fun _ _ _ i _ _ _ wr => ∃ k : Nat, k ≤ n ∧ i = .int .i64 k ∧ (∀ j, j < k → OkDu now R j) ∧ TB wr w.heap.size now (.slice A n c) ∧ Below w.heap.size w wr) (fun _ _ _ i _ _ _ _ => n - (intOf i).toNat)
  case atStart => exact ⟨0, Nat.zero_le _, rfl, fun j hj => by omega, HT0.out, HB0.out⟩
  case round =>
    obtain ⟨k, hk, rfl, hlow, hT, hB⟩ := hrel
    have HL := Lib.hid hlow
    have HB := Lib.hid hB
    have HT := Lib.hid hT
    have hBs := hB.size
    clear hlow hB hT
    by_cases hlt : k < n
    · obtain ⟨b, off, rfl, hb, hcell⟩ := HR.out (by omega)
      have HCELL := Lib.hid (show ∀ k, k < n → wr.cell? ⟨b, off + k * 2, none⟩ = some (.int .i64 (R k).at_) ∧ wr.cell? ⟨b, off + k * 2 + 1, none⟩ = some (.int .i64 (R k).id) from fun k hk => ⟨(HB.out.cell (p := ⟨b, _, none⟩) hb).trans (hcell k hk 0 _ rfl), (HB.out.cell (p := ⟨b, _, none⟩) hb).trans (hcell k hk 1 _ rfl)⟩)
      obtain ⟨c0, c1⟩ := HCELL.out k hlt
      obtain ⟨r, hr⟩ : ∃ r, R k = r := ⟨_, rfl⟩
      rw [hr] at c0 c1
      have HK := Lib.hid hr
      obtain ⟨a, i⟩ := r
      dsimp only at c0 c1
      obtain ⟨b0, b1, bz⟩ := HT.out
      have hbr : b < wr.heap.size := by omega
      have HB2 := Lib.hid (HB.out.alloc hBs (.cells #[.int .i64 a, .int .i64 i] 34))
      have no : ∀ x : Int, x ≠ 0 → ¬ OkDu now R k → ∀ wx, Below w.heap.size w wx → ChkPost (OkT now R n) w (.returned (.int .i64 x)) wx := fun x hx hno wx hbx => ⟨x, rfl, ⟨fun h => absurd h hx, fun h => absurd (h.2.2 k hlt) hno⟩, hbx⟩
      have NO := Lib.hid no
      clear no hr hcell
      by_cases q1 : a ≤ now
      · have d3 : decide (a ≤ now) = true := by simpa using q1
        go_wp2_with fail
        go_ret
        exact NO.out 1 (by omega) (fun h => by have := h.1.1; rw [HK.out] at this; simp at this; omega) _ HB2.out
      have d3 : decide (a ≤ now) = false := by simpa using q1
      by_cases q2 : 2199023255552 < a
      · have d4 : decide (2199023255552 < a) = true := by simpa using q2
        go_wp2_with fail
        go_ret
        exact NO.out 1 (by omega) (fun h => by have := h.1.2; rw [HK.out] at this; simp at this; omega) _ HB2.out
      have d4 : decide (2199023255552 < a) = false := by simpa using q2
      obtain ⟨bad, hbad⟩ : ∃ bad : Bool, bad = (decide (0 < k) && decide (0 ≤ cmpD (R (k - 1)) ⟨a, i⟩)) := ⟨_, rfl⟩
      have HBAD := Lib.hid hbad
      clear hbad
      go_wp2_with fail
      obtain ⟨W1, hW1⟩ : ∃ W1, W1 = wr.alloc (.cells #[.int .i64 a, .int .i64 i] 34) := ⟨_, rfl⟩
      rw [← hW1] at HB2 ⊢
      have hbW : Below wr.heap.size wr W1 := by rw [hW1]; exact (Below.refl _ _).alloc (Nat.le_refl _) _
      have HT1 := Lib.hid (HT.out.below hbW)
      have HC1 := Lib.hid (show ∀ k, k < n → W1.cell? ⟨b, off + k * 2, none⟩ = some (.int .i64 (R k).at_) ∧ W1.cell? ⟨b, off + k * 2 + 1, none⟩ = some (.int .i64 (R k).id) from fun k hk => ⟨(hbW.cell (p := ⟨b, _, none⟩) hbr).trans (HCELL.out k hk).1, (hbW.cell (p := ⟨b, _, none⟩) hbr).trans (HCELL.out k hk).2⟩)
      have e0 : W1.cell? ⟨wr.heap.size, 0, none⟩ = some (.int .i64 a) := by rw [hW1]; simp
      have e1 : W1.cell? ⟨wr.heap.size, 1, none⟩ = some (.int .i64 i) := by rw [hW1]; simp
      have hz1 : wr.heap.size < W1.heap.size := by rw [hW1]; simp
      clear hbW hW1 c0 c1 b0 b1 bz
      have j1 : (k : Int) < (n : Int) := by omega
      have j2 : (0 : Int) ≤ (k : Int) := by omega
      go_cut [38] (fun x wx => x = .bool bad ∧ Below W1.heap.size W1 wx)
      case first =>
        by_cases q4 : 0 < k
        · have d5 : decide ((0 : Int) < (k : Int)) = true := by simp; omega
          have d5' : decide (0 < k) = true := by simpa using q4
          obtain ⟨p, hp⟩ : ∃ p, p = R (k - 1) := ⟨_, rfl⟩
          obtain ⟨p0, p1⟩ := HC1.out (k - 1) (by omega)
          rw [← hp] at p0 p1
          have HP := Lib.hid hp
          obtain ⟨pa, pi⟩ := p
          dsimp only at p0 p1
          obtain ⟨cr, hcr⟩ : ∃ cr, cr = cmpD ⟨pa, pi⟩ ⟨a, i⟩ := ⟨_, rfl⟩
          have HCR := Lib.hid hcr
          have HORD := Lib.hid (fun w => (order_below ⟨pa, pi⟩ ⟨a, i⟩ w))
          rw [← hcr] at HORD
          have HBD := Lib.hid (show bad = decide (0 ≤ cr) by rw [HBAD.out, hcr, ← hp, d5']; rfl)
          obtain ⟨b0, b1, bz⟩ := HT1.out
          have i3 : ((k : Int) - 1).toNat = k - 1 := by omega
          have i4 : IntKind.i64.wrap ((k : Int) - 1) = (k : Int) - 1 := by rw [IntWalk.i64_in _ (by omega)]
          have i5 : (0 : Int) ≤ (k : Int) - 1 := by omega
          have i6 : (k : Int) - 1 < (n : Int) := by omega
          have i7 : (1 : Int) ≤ (k : Int) := by omega
          have hltb : b < W1.heap.size := by omega
          clear hp hcr
          by_cases q5 : 0 ≤ cr
          · have d6 : decide (0 ≤ cr) = true := by simpa using q5
            go_region_held3 (fun W => W.cell? ⟨w.heap.size, 1, none⟩ = some (.slice (some ⟨b, off, none⟩) n c) ∧ W.cell? ⟨b, off + (k - 1) * 2, none⟩ = some (.int .i64 pa) ∧ W.cell? ⟨b, off + (k - 1) * 2 + 1, none⟩ = some (.int .i64 pi) ∧ W.cell? ⟨wr.heap.size, 0, none⟩ = some (.int .i64 a) ∧ W.cell? ⟨wr.heap.size, 1, none⟩ = some (.int .i64 i))
              (first | exact ⟨b1, p0, p1, e0, e1⟩ | exact ⟨r0, r1, r2, r3, r4⟩ | go_keep)
              ((go_at_call 19; refine (HORD.out _).mono ?_; rintro e w2 ⟨rfl, hb2⟩; have r0 := (hb2.cell (p := ⟨w.heap.size, 1, none⟩) bz).trans b1; have r1 := (hb2.cell (p := ⟨b, off + (k - 1) * 2, none⟩) hltb).trans p0; have r2 := (hb2.cell (p := ⟨b, off + (k - 1) * 2 + 1, none⟩) hltb).trans p1; have r3 := (hb2.cell (p := ⟨wr.heap.size, 0, none⟩) hz1).trans e0; have r4 := (hb2.cell (p := ⟨wr.heap.size, 1, none⟩) hz1).trans e1; have HB2w := Lib.hid (below_drew' hb2); clear hb2))
            all_goals
              go_wp2_with fail
              go_meet
              exact ⟨by rw [HBD.out, d6], HB2w.out⟩
          · have d6 : decide (0 ≤ cr) = false := by simpa using q5
            go_region_held3 (fun W => W.cell? ⟨w.heap.size, 1, none⟩ = some (.slice (some ⟨b, off, none⟩) n c) ∧ W.cell? ⟨b, off + (k - 1) * 2, none⟩ = some (.int .i64 pa) ∧ W.cell? ⟨b, off + (k - 1) * 2 + 1, none⟩ = some (.int .i64 pi) ∧ W.cell? ⟨wr.heap.size, 0, none⟩ = some (.int .i64 a) ∧ W.cell? ⟨wr.heap.size, 1, none⟩ = some (.int .i64 i))
              (first | exact ⟨b1, p0, p1, e0, e1⟩ | exact ⟨r0, r1, r2, r3, r4⟩ | go_keep)
              ((go_at_call 19; refine (HORD.out _).mono ?_; rintro e w2 ⟨rfl, hb2⟩; have r0 := (hb2.cell (p := ⟨w.heap.size, 1, none⟩) bz).trans b1; have r1 := (hb2.cell (p := ⟨b, off + (k - 1) * 2, none⟩) hltb).trans p0; have r2 := (hb2.cell (p := ⟨b, off + (k - 1) * 2 + 1, none⟩) hltb).trans p1; have r3 := (hb2.cell (p := ⟨wr.heap.size, 0, none⟩) hz1).trans e0; have r4 := (hb2.cell (p := ⟨wr.heap.size, 1, none⟩) hz1).trans e1; have HB2w := Lib.hid (below_drew' hb2); clear hb2))
            all_goals
              go_wp2_with fail
              go_meet
              exact ⟨by rw [HBD.out, d6], HB2w.out⟩
        · have d5 : decide ((0 : Int) < (k : Int)) = false := by simp; omega
          have d5' : decide (0 < k) = false := by simpa using q4
          go_quiet (fail)
          go_wp2_with fail
          go_meet
          exact ⟨by rw [HBAD.out]; simp [q4], below_drewN (Below.refl _ _) _⟩
      case rest =>
      obtain ⟨hx, hbc⟩ := hcut
      subst hx
      have HBC := Lib.hid (HB2.out.trans (hbc.mono HB2.out.size))
      have HTC := Lib.hid (HT1.out.below hbc)
      have hzc : wr.heap.size < wc.heap.size := by have := hbc.size; omega
      have e1' : wc.cell? ⟨wr.heap.size, 1, none⟩ = some (.int .i64 i) := (hbc.cell (p := ⟨wr.heap.size, 1, none⟩) hz1).trans e1
      clear hbc e0 e1
      have e1 := e1'
      clear e1'
      cases bad with
      | true =>
        go_wp2_with fail
        go_ret
        have hb2 := HBAD.out.symm
        simp only [Bool.and_eq_true, decide_eq_true_eq] at hb2
        exact NO.out 21 (by omega) (fun h => by
          have h1 := h.2.1 hb2.1
          rw [HK.out] at h1
          omega) _ HBC.out
      | false =>
        have hgood : 0 < k → cmpD (R (k - 1)) ⟨a, i⟩ < 0 := fun h0 => by
          have hb2 := HBAD.out.symm
          simp only [Bool.and_eq_false_iff, decide_eq_false_iff_not] at hb2
          rcases hb2 with hb2 | hb2 <;> omega
        have HG := Lib.hid hgood
        clear hgood
        go_wp2_with fail
        obtain ⟨XA, hcutE, hRX⟩ := cutD_to (some ⟨b, off, none⟩) n c R w hn HR.out k (by omega)
        have HRX := Lib.hid hRX
        obtain ⟨fr, hfr⟩ : ∃ fr, fr = ixOf (idB R i) k := ⟨_, rfl⟩
        have HFR := Lib.hid hfr
        have HFIND := Lib.hid (fun W (hW : Below w.heap.size w W) => find_any XA k c R i W (by omega) (HRX.out.below hW))
        rw [← hfr] at HFIND
        obtain ⟨b0, b1, bz⟩ := HTC.out
        clear hfr hRX
        by_cases q6 : 0 ≤ fr
        · have d7 : decide (0 ≤ fr) = true := by simpa using q6
          go_region_held3 (fun W => W.cell? ⟨w.heap.size, 1, none⟩ = some (.slice (some ⟨b, off, none⟩) n c) ∧ W.cell? ⟨wr.heap.size, 1, none⟩ = some (.int .i64 i))
            (first | exact ⟨b1, e1⟩ | exact ⟨r0, r1⟩ | go_keep)
            ((go_at_call 20; refine (HFIND.out _ (HBC.out.trans ((below_drewN (Below.refl _ _) 1).mono HBC.out.size))).mono ?_; rintro e w2 ⟨rfl, hb2⟩; have r0 := (hb2.cell (p := ⟨w.heap.size, 1, none⟩) bz).trans b1; have r1 := (hb2.cell (p := ⟨wr.heap.size, 1, none⟩) hzc).trans e1; have HB2w := Lib.hid (HBC.out.trans ((below_drew' hb2).mono HBC.out.size)); have HT2w := Lib.hid (HTC.out.below (below_drew' hb2)); clear hb2))
          all_goals
            go_wp2_with fail
            go_ret
            exact NO.out 5 (by omega) (fun h => by
              rcases ixOf_cases (idB R i) k with ⟨e, _⟩ | ⟨j, e, hj, hp, _⟩
              · rw [HFR.out, e] at q6; omega
              · have := h.2.2 j hj
                rw [HK.out] at this
                exact this (by simpa [idB] using hp)) _ HB2w.out
        · have d7 : decide (0 ≤ fr) = false := by simpa using q6
          go_region_held3 (fun W => W.cell? ⟨w.heap.size, 1, none⟩ = some (.slice (some ⟨b, off, none⟩) n c) ∧ W.cell? ⟨wr.heap.size, 1, none⟩ = some (.int .i64 i))
            (first | exact ⟨b1, e1⟩ | exact ⟨r0, r1⟩ | go_keep)
            ((go_at_call 20; refine (HFIND.out _ (HBC.out.trans ((below_drewN (Below.refl _ _) 1).mono HBC.out.size))).mono ?_; rintro e w2 ⟨rfl, hb2⟩; have r0 := (hb2.cell (p := ⟨w.heap.size, 1, none⟩) bz).trans b1; have r1 := (hb2.cell (p := ⟨wr.heap.size, 1, none⟩) hzc).trans e1; have HB2w := Lib.hid (HBC.out.trans ((below_drew' hb2).mono HBC.out.size)); have HT2w := Lib.hid (HTC.out.below (below_drew' hb2)); clear hb2))
          all_goals
            go_wp2_with fail
            go_roundw
            case rel =>
              refine ⟨k + 1, by omega, by go_num, fun j hj => ?_, ?_, HB2w.out⟩
              · by_cases ej : j = k
                · subst ej
                  unfold OkDu
                  rw [HK.out]
                  refine ⟨⟨by show now < a; omega, by show a ≤ 2199023255552; omega⟩, fun h0 => HG.out h0, fun p hp hid => ?_⟩
                  rcases ixOf_cases (idB R i) j with ⟨e, hno⟩ | ⟨p', e, hp', _⟩
                  · have := hno p hp
                    simp [idB] at this
                    exact this hid
                  · rw [HFR.out, e] at q6; omega
                · exact HL.out j (by omega)
              · exact HT2w.out
            case measure => simp [intOf]; omega
    · obtain rfl : k = n := by omega
      go_wp2_with fail
      go_ret
      exact ⟨0, rfl, ⟨fun _ => ⟨by omega, hnow, HL.out⟩, fun _ => rfl⟩, HB.out⟩
end Go.Proofs.Ythnoahldolfffaa
