/- Node.Save, Node.row. Rows are short. Who is awake. -/
import Derived.Test.YthgbcgphkddmgaaGreatZBD
import Derived.Test.YthgbcgphkddmgaaGreatZAP
import Derived.BigRegion
import Derived.Test.YthgbcgphkddmgaaGreatZAR
namespace Go.Proofs.YthgbcgphkddmgaaGreat
open Go.RowKit Go.Maps
set_option linter.unusedVariables false
set_option linter.unusedSimpArgs false
theorem row1_cl : Li.EqRow 176 := fun a A B n m c d ref b w hb hc => by
  go_enter Tryz.func176, Tryz.ntmps176
  go_wp2_with fail
  go_ret
  exact ⟨rfl, (Below.refl _ _).alloc (Nat.le_refl _) _⟩
theorem row1_enters : Enters Tryz.prog 176 := fun _ _ => by kernel_rfl
/-- the row of one; an empty one, if there is none -/
def rowD (rows : List Li.LR) (ref : Int) : Li.LR := (rowL rows ref).getD dRow
theorem numIn_sl {w : World} {v : Value} {l : List Int} (h : Li.Sl w v l) : NumIn w (fun b => b < w.heap.size) v l := by
  obtain ⟨A, c, e, h1, h2, h3, h4⟩ := h
  refine ⟨A, c, e, h1, h2, fun h0 => ?_⟩
  obtain ⟨b, off, e2, hb, hc⟩ := h4 h0
  refine ⟨b, off, e2, hb, fun j hj => ?_⟩
  have := hc j hj 0 _ rfl
  rw [Nat.mul_one, Nat.add_zero] at this
  exact this
def RowPost (B : Nat → Prop) (r : Li.LR) (w : World) (e : Ending) (w' : World) : Prop := ∃ v1 v2, e = .returned (.agg #[.int .i64 r.ref, v1, v2]) ∧ NumIn w' B v1 r.ws ∧ NumIn w' B v2 r.ls ∧ Below w.heap.size w w'
theorem numIn_nil' (w : World) (B : Nat → Prop) : NumIn w B (.slice none 0 0) [] := ⟨none, 0, rfl, Nat.le_refl _, by omega, fun h => by simp at h⟩
set_option maxRecDepth 100000 in
set_option maxHeartbeats 4000000 in
theorem row_any {w0 w : World} {X M : Nat → Prop} {base T p : Nat} {P : Int → Nat} {N : NdS} (h : NodeAt w0 X M base T p P N) (hf0 : Fr (fun _ => False) w0 w) (ref : Int) :
    Calls Tryz.prog 138 #[.pointer (some ⟨p, 0, none⟩), .int .i64 ref] w (RowPost (fun b => b < w0.heap.size) (rowD N.rows ref) w) := by
  have hok := h.ok.rows.ok
  obtain ⟨_, _, _, mb, hb, MA, ob, sb, h4, _⟩ := h
  obtain ⟨v4, c40, hr⟩ := h4.c4
  have c4 := hf0.cell c40 (fun h => h)
  have hplt := World.block_lt_of_cell? w _ c4
  obtain ⟨A, c, vw, vl, rfl, k1, k2, hR0⟩ := hr.form
  have HR0 := Lib.hid hR0
  have hR := hR0.below (hf0.below (fun _ h => h.elim) (Nat.le_refl _))
  have HF0 := Lib.hid hf0
  have HR := Lib.hid hR
  have h100 := hok.1
  obtain ⟨W, hW⟩ : ∃ W, W = (w.alloc (.cells #[.int .i64 ref] 3)).alloc (.cells #[.int .i64 0, .slice none 0 0, .slice none 0 0] 242) := ⟨_, rfl⟩
  have hbz : Below w.heap.size w W := by rw [hW]; exact ((Below.refl _ _).alloc (Nat.le_refl _) _).alloc (by simp) _
  have HB := Lib.hid hbz
  have HZ := Lib.hid (show CellsN W (w.heap.size + 1) [.int .i64 0, .slice none 0 0, .slice none 0 0] by rw [hW]; simpa using cellsN_new (w.alloc (.cells #[.int .i64 ref] 3)) [.int .i64 0, .slice none 0 0, .slice none 0 0] 242)
  have HIX := Lib.hid (Li.ix_row 176 row1_enters row1_cl A N.rows.length c (rowF N.rows) vw vl ref w.heap.size W (by omega) (hR.below hbz) (by rw [hW]; simp; omega) (by rw [hW]; simp [go_sem]))
  have HWW := Lib.hid hW
  clear hr hR hR0 hbz h4 hW hf0 c40
  by_cases hi : ∃ i, Li.OkIx (rowF N.rows) N.rows.length ref i
  · obtain ⟨i, hi⟩ := hi
    have HI := Lib.hid hi.ix
    have HRD := Lib.hid (show rowD N.rows ref = rowF N.rows i by unfold rowD; rw [okIx_iff hok hi]; rfl)
    have hlt := hi.2.1
    clear hi hok
    go_enter Tryz.func138, Tryz.ntmps138
    go_wp2_with fail
    rw [← HWW.out]
    refine HIX.out.mono ?_
    rintro e w2 ⟨rfl, hb2⟩
    rw [HI.out]
    have HB2 := Lib.hid (HB.out.trans (hb2.mono HB.out.size))
    have HZ2 := Lib.hid (HZ.out.fr (Fr.of_below (S := fun _ => False) hb2) (fun h => h))
    have d4 := (HB2.out.cell (p := ⟨p, 4, none⟩) hplt).trans c4
    obtain ⟨b, off, rfl, hb0, hc⟩ := (HR.out.below HB2.out).row (by omega)
    have r0 := hc i hlt 0 _ rfl
    have r1 := hc i hlt 1 _ rfl
    have r2 := hc i hlt 2 _ rfl
    rw [Nat.add_zero] at r0
    obtain ⟨⟨B1, e1, hv1, s1⟩, ⟨B2, e2, hv2, s2⟩⟩ := HR0.out.each i hlt
    rw [hv1] at r1
    rw [hv2] at r2
    have HS := Lib.hid (show NumIn w0 (fun b => b < w0.heap.size) (.slice B1 (rowF N.rows i).ws.length e1) (rowF N.rows i).ws ∧ NumIn w0 (fun b => b < w0.heap.size) (.slice B2 (rowF N.rows i).ls.length e2) (rowF N.rows i).ls from ⟨numIn_sl ⟨B1, e1, rfl, s1⟩, numIn_sl ⟨B2, e2, rfl, s2⟩⟩)
    clear hv1 hv2 s1 s2
    have z0 := HZ2.out.1 0 _ rfl
    have z1 := HZ2.out.1 1 _ rfl
    have z2 := HZ2.out.1 2 _ rfl
    have zf := HZ2.out.2.1
    have i1 : (0 : Int) ≤ (i : Int) := by omega
    have i2 : (i : Int) < (N.rows.length : Int) := by omega
    have i3 : ¬ (i : Int) < 0 := by omega
    clear hb2 hc c4
    go_wp2_with fail
    refine bodyPost_ret (v := .agg #[.int .i64 (rowF N.rows i).ref, .slice B1 (rowF N.rows i).ws.length e1, .slice B2 (rowF N.rows i).ls.length e2]) (by simp [results, Tryz.results138, go_sem, z0, z1, z2]) rfl ?_
    rw [HRD.out]
    have hfin : Fr (fun k => w.heap.size ≤ k) w (((w2.setCell ⟨w.heap.size + 1, 0, none⟩ (.int .i64 (rowF N.rows i).ref)).setCell ⟨w.heap.size + 1, 1, none⟩ (.slice B1 (rowF N.rows i).ws.length e1)).setCell ⟨w.heap.size + 1, 2, none⟩ (.slice B2 (rowF N.rows i).ls.length e2)) := (((Fr.of_below (S := fun k => w.heap.size ≤ k) HB2.out).set (Or.inl (by show w.heap.size ≤ w.heap.size + 1; omega)) _).set (Or.inl (by show w.heap.size ≤ w.heap.size + 1; omega)) _).set (Or.inl (by show w.heap.size ≤ w.heap.size + 1; omega)) _
    have hz0 := HF0.out.size
    have hf9 : Fr (fun k => w.heap.size ≤ k) w0 _ := (HF0.out.weak (fun _ h => h.elim)).trans' hfin
    exact ⟨_, _, rfl, HS.out.1.fr hf9 (fun b hb hD => by have h1 : b < w0.heap.size := hb; have h2 : w.heap.size ≤ b := hD; omega) (fun _ h => h), HS.out.2.fr hf9 (fun b hb hD => by have h1 : b < w0.heap.size := hb; have h2 : w.heap.size ≤ b := hD; omega) (fun _ h => h), hfin.below (fun k hk => hk) (Nat.le_refl _)⟩
  · have HI := Lib.hid (Li.ix_none hok hi)
    have HRD := Lib.hid (show rowD N.rows ref = dRow by unfold rowD; rw [rowL_none hok hi]; rfl)
    clear hi hok
    go_enter Tryz.func138, Tryz.ntmps138
    go_wp2_with fail
    rw [← HWW.out]
    refine HIX.out.mono ?_
    rintro e w2 ⟨rfl, hb2⟩
    rw [HI.out]
    have HB2 := Lib.hid (HB.out.trans (hb2.mono HB.out.size))
    have HZ2 := Lib.hid (HZ.out.fr (Fr.of_below (S := fun _ => False) hb2) (fun h => h))
    have z0 := HZ2.out.1 0 _ rfl
    have z1 := HZ2.out.1 1 _ rfl
    have z2 := HZ2.out.1 2 _ rfl
    have zf := HZ2.out.2.1
    clear hb2
    go_wp2_with fail
    refine bodyPost_ret (v := .agg #[.int .i64 0, .slice none 0 0, .slice none 0 0]) (by simp [results, Tryz.results138, go_sem, z0, z1, z2]) rfl ?_
    rw [HRD.out]
    refine ⟨_, _, rfl, numIn_nil' _ _, numIn_nil' _ _, ?_⟩
    iterate 3 (refine below_set ?_ (by omega))
    exact HB2.out
end Go.Proofs.YthgbcgphkddmgaaGreat
namespace Go.Proofs.YthgbcgphkddmgaaGreat
open Go.RowKit Go.Maps
set_option linter.unusedVariables false
set_option linter.unusedSimpArgs false
theorem rowD_ok {rows : List Li.LR} (ok : Li.OkL (rowF rows) rows.length) (ref : Int) : (rowD rows ref).ws.length ≤ 100 ∧ (rowD rows ref).ls.length ≤ 100 := by
  by_cases hi : ∃ i, Li.OkIx (rowF rows) rows.length ref i
  · obtain ⟨i, hi⟩ := hi
    unfold rowD
    rw [okIx_iff ok hi]
    exact ⟨(ok.2 i hi.2.1).2.1, (ok.2 i hi.2.1).2.2.1⟩
  · unfold rowD
    rw [rowL_none ok hi]
    exact ⟨Nat.zero_le _, Nat.zero_le _⟩
theorem cells3_of {w : World} {q : Nat} {c0 c1 c2 : Value} (h0 : w.cell? ⟨q, 0, none⟩ = some c0) (h1 : w.cell? ⟨q, 1, none⟩ = some c1) (h2 : w.cell? ⟨q, 2, none⟩ = some c2) (hf : ∀ o, w.frozen? ⟨q, o, none⟩ = false) : CellsN w q [c0, c1, c2] := ⟨fun j u hu => by
  match j, hu with
  | 0, hu => injection hu with hu; subst hu; exact h0
  | 1, hu => injection hu with hu; subst hu; exact h1
  | 2, hu => injection hu with hu; subst hu; exact h2, hf, World.block_lt_of_cell? w _ h0⟩
end Go.Proofs.YthgbcgphkddmgaaGreat
namespace Go.Proofs.YthgbcgphkddmgaaGreat
open Go.RowKit
set_option linter.unusedVariables false
set_option linter.unusedSimpArgs false
/-- who is awake, as Knows says it -/
def awakeA (a : ActS) : Bool := canA a || decide (0 < a.box.length) || (a.waits && decide (0 ≤ a.ticks))
end Go.Proofs.YthgbcgphkddmgaaGreat
