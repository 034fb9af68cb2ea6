/- heap.put and heap.Put. -/
import Derived.Test.YtkdbnkkdohkhjaaHeapWords
import Derived.Deep.RegionHeld3
namespace Go.Proofs.Ytkdbnkkdohkhjaa
open Go.RowKit
set_option linter.unusedVariables false
def FitsOb (h : List Nat) (o : Ob) : Prop := okOb o = true ∧ h.length + (wordsO o).length ≤ 4000
def PutBad (w : World) (e : Ending) (w' : World) : Prop := ∃ x : Int, x ≠ 0 ∧ e = .returned (.tuple #[.slice none 0 0, .int .i64 0, .int .i64 x]) ∧ Below w.heap.size w w'
def PutIn (h : List Nat) (o : Ob) (base : Nat) (row : Option Nat) (w : World) (e : Ending) (w' : World) : Prop := ∃ A c, e = .returned (.tuple #[.slice A (h ++ wordsO o).length c, .int .i64 (h.length : Int), .int .i64 0]) ∧ OwnU w' base (.slice A (h ++ wordsO o).length c) (h ++ wordsO o) ∧ w.grownBy w' row ∧ ∀ k, (Value.slice A (h ++ wordsO o).length c).ownBlock = some k → row = some k ∨ w.heap.size ≤ k
set_option maxHeartbeats 4000000 in
set_option maxRecDepth 100000 in
theorem put_in (h : List Nat) (hA : Option Addr) (hc : Nat) (base : Nat) (o : Ob) (at_ : Int) (pA : Option Addr) (pc : Nat) (w : World) (hH : OwnU w base (.slice hA h.length hc) h) (hbase : base ≤ w.heap.size) (hP : Su w (.slice pA o.parts.length pc) o.parts) (hf : FitsOb h o) :
    Calls Try.prog 52 #[.slice hA h.length hc, .agg #[.int .i64 at_, .int .i64 o.kind, .int .i64 o.num, .string o.text, .slice pA o.parts.length pc]] w (PutIn h o base (Value.slice hA h.length hc).ownBlock w) := by
  have HH := Lib.hid hH
  have HP := Lib.hid hP
  have HF := Lib.hid hf.1
  have hl := hf.2
  have HC0 := Lib.hid (OB.new w at_ o.kind o.num o.text pA o.parts.length pc 33)
  have hg : ((4000 : Int) < (h.length : Int) + ((wordsO o).length : Int)) = False := by simp; omega
  clear hH hP hf hg
  go_enter Try.func52, Try.ntmps52
  go_wp2_with fail
  refine (hvalid_any o at_ pA pc _).mono ?_
  rintro e w1 ⟨rfl, hb1⟩
  have hc1 := HC0.out.grown (grown_below (g := none) hb1) (fun g hg => by cases hg)
  have HB1 := Lib.hid (((Below.refl w.heap.size w).alloc (Nat.le_refl _) (.cells #[.int .i64 at_, .int .i64 o.kind, .int .i64 o.num, .string o.text, .slice pA o.parts.length pc] 33)).trans (hb1.mono (by simp)))
  rw [HF.out]
  have HC1 := Lib.hid hc1
  obtain ⟨c0, c1, c2, c3, c4, csz⟩ := hc1
  clear hb1
  go_wp2_with fail
  refine (words_any o at_ pA pc _ HF.out (HP.out.below HB1.out)).mono ?_
  rintro e w2 ⟨A2, d2, rfl, hO2, hb2⟩
  have HB2 := Lib.hid (HB1.out.trans (hb2.mono HB1.out.size))
  have HS2 := Lib.hid (Su.of_own hO2)
  have HH2 := Lib.hid (HH.out.below HB2.out)
  have hs2 := HB2.out.size
  have e1 : decide ((4000 : Int) < (h.length : Int) + ((wordsO o).length : Int)) = false := by simp; omega
  clear hO2 hb2 c0 c1 c2 c3 c4 csz
  go_wp2_with (at_builtin; go_loud (refine wpList_append_us rfl _ _ 23 22 rfl Try.underlying23 Try.underlying22 base (.slice hA h.length hc) h rfl HH2.out (.slice A2 (wordsO o).length d2) (wordsO o) rfl HS2.out (by omega) (by omega) ?_; intro v4 w4 hown4 hgrow4 hat4; obtain ⟨A4, d4, rfl, q1, q2, _⟩ := own_any hown4; have HO4 := Lib.hid hown4; have HG4 := Lib.hid hgrow4; have HA4 := Lib.hid hat4; clear hown4 hgrow4 hat4))
  go_ret3
  refine ⟨A4, d4, ?_, HO4.out, grown_step (grown_below (g := (Value.slice hA h.length hc).ownBlock) HB2.out) HG4.out (.inl rfl), fun k hk => ?_⟩
  rotate_left
  · have hk' : (Value.slice A4 (h ++ wordsO o).length d4).ownBlock = some k := hk
    rcases HA4.out with e | e
    · exact .inl (e.symm.trans hk')
    · have h1 := e.symm.trans hk'
      injection h1 with h1
      exact .inr (by omega)
  first | rfl | (simp only [List.length_append]; rfl)
set_option maxHeartbeats 4000000 in
set_option maxRecDepth 100000 in
theorem put_bad (h : List Nat) (hA : Option Addr) (hc : Nat) (o : Ob) (at_ : Int) (pA : Option Addr) (pc : Nat) (w : World) (hh : h.length ≤ 17592186044416) (hP : Su w (.slice pA o.parts.length pc) o.parts) (hf : ¬ FitsOb h o) :
    Calls Try.prog 52 #[.slice hA h.length hc, .agg #[.int .i64 at_, .int .i64 o.kind, .int .i64 o.num, .string o.text, .slice pA o.parts.length pc]] w (PutBad w) := by
  have HP := Lib.hid hP
  have HF := Lib.hid hf
  have HC0 := Lib.hid (OB.new w at_ o.kind o.num o.text pA o.parts.length pc 33)
  clear hP hf
  go_enter Try.func52, Try.ntmps52
  go_wp2_with fail
  refine (hvalid_any o at_ pA pc _).mono ?_
  rintro e w1 ⟨rfl, hb1⟩
  have hc1 := HC0.out.grown (grown_below (g := none) hb1) (fun g hg => by cases hg)
  have HB1 := Lib.hid (((Below.refl w.heap.size w).alloc (Nat.le_refl _) (.cells #[.int .i64 at_, .int .i64 o.kind, .int .i64 o.num, .string o.text, .slice pA o.parts.length pc] 33)).trans (hb1.mono (by simp)))
  obtain ⟨c0, c1, c2, c3, c4, csz⟩ := hc1
  clear hb1
  cases hv : okOb o with
  | false =>
    have HV := Lib.hid hv
    clear hv
    go_wp2_with fail
    go_ret3
    exact ⟨1, by omega, rfl, HB1.out⟩
  | true =>
    have HV := Lib.hid hv
    clear hv
    have hlen := wordsO_len o
    obtain ⟨g1, g2, g3, g4, g5⟩ := okOb_iff.1 HV.out
    have hm := mostP_le o.kind
    have hnw : (numW o).length ≤ 1 := by unfold numW; split <;> simp
    have hl : ¬ h.length + (wordsO o).length ≤ 4000 := fun hh => HF.out ⟨HV.out, hh⟩
    have hwl : (wordsO o).length ≤ 1000 := by omega
    clear hlen g1 g2 g3 g4 g5 hm hnw
    go_wp2_with fail
    refine (words_any o at_ pA pc _ HV.out (HP.out.below HB1.out)).mono ?_
    rintro e w2 ⟨A2, d2, rfl, hO2, hb2⟩
    have HB2 := Lib.hid (HB1.out.trans (hb2.mono HB1.out.size))
    have e1 : decide ((4000 : Int) < (h.length : Int) + ((wordsO o).length : Int)) = true := by simp; omega
    clear hO2 hb2 c0 c1 c2 c3 c4 csz
    go_wp2_with fail
    go_ret3
    exact ⟨6, by omega, rfl, HB2.out⟩
def PutOk (h : List Nat) (o : Ob) (w : World) (e : Ending) (w' : World) : Prop := ∃ A c, e = .returned (.tuple #[.slice A (h ++ wordsO o).length c, .int .i64 (h.length : Int), .int .i64 0]) ∧ OwnU w' w.heap.size (.slice A (h ++ wordsO o).length c) (h ++ wordsO o) ∧ Below w.heap.size w w'
set_option maxHeartbeats 4000000 in
set_option maxRecDepth 100000 in
theorem Put_ok (h : List Nat) (hA : Option Addr) (hc : Nat) (o : Ob) (at_ : Int) (pA : Option Addr) (pc : Nat) (w : World) (hH : Su w (.slice hA h.length hc) h) (hP : Su w (.slice pA o.parts.length pc) o.parts) (hf : FitsOb h o) :
    Calls Try.prog 31 #[.slice hA h.length hc, .agg #[.int .i64 at_, .int .i64 o.kind, .int .i64 o.num, .string o.text, .slice pA o.parts.length pc]] w (PutOk h o w) := by
  have HH := Lib.hid hH
  have HP := Lib.hid hP
  have HF := Lib.hid hf
  have hl := hf.2
  obtain ⟨W0, hW0⟩ : ∃ W0, W0 = w.alloc (.cells #[.int .i64 at_, .int .i64 o.kind, .int .i64 o.num, .string o.text, .slice pA o.parts.length pc] 33) := ⟨_, rfl⟩
  have HC0 := Lib.hid (show OB W0 w.heap.size at_ o.kind o.num o.text pA o.parts.length pc by rw [hW0]; exact OB.new w at_ o.kind o.num o.text pA o.parts.length pc 33)
  have HB0 := Lib.hid (show Below w.heap.size w W0.drew by rw [hW0]; exact ((Below.refl _ _).alloc (Nat.le_refl _) _).drew)
  have HZ0 := Lib.hid (show W0.drew.heap.size = w.heap.size + 1 by rw [hW0]; show (w.alloc _).heap.size = _; simp)
  obtain ⟨q0, q1, q2, q3, q4, qsz⟩ := (show OB W0.drew w.heap.size at_ o.kind o.num o.text pA o.parts.length pc from ⟨HC0.out.c0, HC0.out.c1, HC0.out.c2, HC0.out.c3, HC0.out.c4, HC0.out.sz⟩)
  clear hH hP hf
  go_enter Try.func31, Try.ntmps31
  go_wp2_with fail
  rw [← hW0]
  clear hW0
  go_region_held3 (fun W => W.cell? ⟨w.heap.size, 0, none⟩ = some (.int .i64 at_) ∧ W.cell? ⟨w.heap.size, 1, none⟩ = some (.int .i64 o.kind) ∧ W.cell? ⟨w.heap.size, 2, none⟩ = some (.int .i64 o.num) ∧ W.cell? ⟨w.heap.size, 3, none⟩ = some (.string o.text) ∧ W.cell? ⟨w.heap.size, 4, none⟩ = some (.slice pA o.parts.length pc))
    (first | exact ⟨q0, q1, q2, q3, q4⟩ | exact ⟨r0, r1, r2, r3, r4⟩ | exact ⟨s0, s1, s2, s3, s4⟩ | go_keep)
    (first
      | (go_at_call 25; refine (cloneH_any hA hc h W0.drew (HH.out.below HB0.out) (by omega)).mono ?_; rintro e w1 ⟨A1, d1, rfl, hO1, hb1⟩; obtain ⟨r0, r1, r2, r3, r4, rsz⟩ := (OB.grown (show OB W0.drew w.heap.size at_ o.kind o.num o.text pA o.parts.length pc from ⟨q0, q1, q2, q3, q4, qsz⟩) (grown_below (g := none) hb1) (fun g hg => by cases hg)); have HO1 := Lib.hid hO1; have HB1 := Lib.hid (HB0.out.trans (hb1.mono HB0.out.size)); have hs1 := hb1.size; clear hO1 hb1)
      | (go_at_call 52; refine (put_in h A1 d1 W0.drew.heap.size o at_ pA pc w1 HO1.out hs1 (HP.out.below HB1.out) HF.out).mono ?_; rintro e w2 ⟨A2, d2, rfl, hO2, hg2, _⟩; obtain ⟨s0, s1, s2, s3, s4, ssz⟩ := (OB.grown (show OB w1 w.heap.size at_ o.kind o.num o.text pA o.parts.length pc from ⟨r0, r1, r2, r3, r4, rsz⟩) hg2 (fun g hg => by have := (HO1.out.blk g hg).1; have := HZ0.out; omega)); have HO2 := Lib.hid hO2; have HG2 := Lib.hid hg2; clear hO2 hg2))
  all_goals
    go_wp2_with fail
    go_ret3
    exact ⟨A2, d2, by first | rfl | (simp only [List.length_append]; rfl), OwnU.mono HO2.out (by have := HZ0.out; omega), below_grown HB1.out HB1.out.size HG2.out (fun g hg => by have := (HO1.out.blk g hg).1; have := HZ0.out; omega)⟩
set_option maxHeartbeats 4000000 in
set_option maxRecDepth 100000 in
theorem Put_bad (h : List Nat) (hA : Option Addr) (hc : Nat) (o : Ob) (at_ : Int) (pA : Option Addr) (pc : Nat) (w : World) (hh : h.length ≤ 17592186044416) (hH : Su w (.slice hA h.length hc) h) (hP : Su w (.slice pA o.parts.length pc) o.parts) (hf : ¬ FitsOb h o) :
    Calls Try.prog 31 #[.slice hA h.length hc, .agg #[.int .i64 at_, .int .i64 o.kind, .int .i64 o.num, .string o.text, .slice pA o.parts.length pc]] w (PutBad w) := by
  have HH := Lib.hid hH
  have HP := Lib.hid hP
  have HF := Lib.hid hf
  obtain ⟨W0, hW0⟩ : ∃ W0, W0 = w.alloc (.cells #[.int .i64 at_, .int .i64 o.kind, .int .i64 o.num, .string o.text, .slice pA o.parts.length pc] 33) := ⟨_, rfl⟩
  have HC0 := Lib.hid (show OB W0 w.heap.size at_ o.kind o.num o.text pA o.parts.length pc by rw [hW0]; exact OB.new w at_ o.kind o.num o.text pA o.parts.length pc 33)
  have HB0 := Lib.hid (show Below w.heap.size w W0.drew by rw [hW0]; exact ((Below.refl _ _).alloc (Nat.le_refl _) _).drew)
  obtain ⟨q0, q1, q2, q3, q4, qsz⟩ := (show OB W0.drew w.heap.size at_ o.kind o.num o.text pA o.parts.length pc from ⟨HC0.out.c0, HC0.out.c1, HC0.out.c2, HC0.out.c3, HC0.out.c4, HC0.out.sz⟩)
  clear hH hP hf
  go_enter Try.func31, Try.ntmps31
  go_wp2_with fail
  rw [← hW0]
  clear hW0
  go_region_held3 (fun W => W.cell? ⟨w.heap.size, 0, none⟩ = some (.int .i64 at_) ∧ W.cell? ⟨w.heap.size, 1, none⟩ = some (.int .i64 o.kind) ∧ W.cell? ⟨w.heap.size, 2, none⟩ = some (.int .i64 o.num) ∧ W.cell? ⟨w.heap.size, 3, none⟩ = some (.string o.text) ∧ W.cell? ⟨w.heap.size, 4, none⟩ = some (.slice pA o.parts.length pc))
    (first | exact ⟨q0, q1, q2, q3, q4⟩ | exact ⟨r0, r1, r2, r3, r4⟩ | exact ⟨s0, s1, s2, s3, s4⟩ | go_keep)
    (first
      | (go_at_call 25; refine (cloneH_any hA hc h W0.drew (HH.out.below HB0.out) (by omega)).mono ?_; rintro e w1 ⟨A1, d1, rfl, hO1, hb1⟩; obtain ⟨r0, r1, r2, r3, r4, rsz⟩ := (OB.grown (show OB W0.drew w.heap.size at_ o.kind o.num o.text pA o.parts.length pc from ⟨q0, q1, q2, q3, q4, qsz⟩) (grown_below (g := none) hb1) (fun g hg => by cases hg)); have HB1 := Lib.hid (HB0.out.trans (hb1.mono HB0.out.size)); clear hO1 hb1)
      | (go_at_call 52; refine (put_bad h A1 d1 o at_ pA pc w1 hh (HP.out.below HB1.out) HF.out).mono ?_; rintro e w2 ⟨x, hx, rfl, hb2⟩; have HX := Lib.hid hx; obtain ⟨s0, s1, s2, s3, s4, ssz⟩ := (OB.grown (show OB w1 w.heap.size at_ o.kind o.num o.text pA o.parts.length pc from ⟨r0, r1, r2, r3, r4, rsz⟩) (grown_below (g := none) hb2) (fun g hg => by cases hg)); have HB2 := Lib.hid (HB1.out.trans (hb2.mono HB1.out.size)); clear hb2 hx))
  all_goals
    go_wp2_with fail
    go_ret3
    exact ⟨x, HX.out, rfl, HB2.out⟩
end Go.Proofs.Ytkdbnkkdohkhjaa
