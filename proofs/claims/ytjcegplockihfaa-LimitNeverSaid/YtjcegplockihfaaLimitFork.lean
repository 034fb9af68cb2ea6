/- limit.Fork, whatever is asked. -/
import Derived.Test.YtjcegplockihfaaLimitGive
import Derived.Test.YtjcegplockihfaaLimitIns
namespace Go.Proofs.Ytjcegplockihfaa
open Go.RowKit
set_option linter.unusedVariables false
def ForkRes (R : Nat → LRow) (n : Nat) (ref to l d : Int) (w : World) (e : Ending) (w' : World) : Prop :=
  RowsErr w e w' ∨ ∃ k p, FkOk R n ref to l d k p ∧ RowsPost (n + 1) (fkR R k p to l d) w e w'
set_option maxRecDepth 100000 in
set_option maxHeartbeats 8000000 in
theorem fork_any (A : Option Addr) (n c : Nat) (R : Nat → LRow) (ref to l d : Int) (w : World) (hn : n ≤ c) (hc : c ≤ 9223372036854775807) (hR : Rd w 5 (rowC R) A n) :
    Calls Try.prog 20 #[.slice A n c, .int .i64 ref, .int .i64 to, .int .i64 l, .int .i64 d] w (ForkRes R n ref to l d w) := by
  by_cases ok : OkL R n
  rotate_left
  · have HBAD : ¬ OkL R n ∨ ixOf (refB R ref) n = -1 := .inl ok
    have H := Lib.hid (begin_err A n c R ref w hn hc hR HBAD)
    clear hR
    go_enter Try.func20, Try.ntmps20
    go_wp2_with fail
    refine H.out.mono ?_
    rintro e w1 ⟨x, rfl, hx, hb⟩
    have hx1 : (x != 0) = true := by simpa using hx
    have hx2 : (x == 0) = false := by simpa using hx
    have HX := Lib.hid hx
    clear hx
    go_wp2_with fail
    go_ret2
    exact .inl ⟨x, rfl, HX.out, hb⟩
  rcases ixOf_cases (refB R ref) n with ⟨ei, hno⟩ | ⟨k, ei, hk, hp, _⟩
  · have HBAD : ¬ OkL R n ∨ ixOf (refB R ref) n = -1 := .inr ei
    have H := Lib.hid (begin_err A n c R ref w hn hc hR HBAD)
    clear hR
    go_enter Try.func20, Try.ntmps20
    go_wp2_with fail
    refine H.out.mono ?_
    rintro e w1 ⟨x, rfl, hx, hb⟩
    have hx1 : (x != 0) = true := by simpa using hx
    have hx2 : (x == 0) = false := by simpa using hx
    have HX := Lib.hid hx
    clear hx
    go_wp2_with fail
    go_ret2
    exact .inl ⟨x, rfl, HX.out, hb⟩
  have hrf : (R k).ref = ref := by simpa [refB] using hp
  have H := Lib.hid (begin_ok A n c R ref k w hn hc hR ok ei)
  have HR := Lib.hid hR
  have HOKL := Lib.hid ok
  obtain ⟨b, off, hA, hb0, hcell⟩ := hR (by omega)
  subst hA
  have c0 : w.cell? ⟨b, off + k * 5, none⟩ = some (.int .i64 (R k).ref) := hcell k hk 0 _ rfl
  have c1 : w.cell? ⟨b, off + k * 5 + 1, none⟩ = some (.int .i64 (R k).letters) := hcell k hk 1 _ rfl
  have c2 : w.cell? ⟨b, off + k * 5 + 2, none⟩ = some (.int .i64 (R k).cells) := hcell k hk 2 _ rfl
  have c3 : w.cell? ⟨b, off + k * 5 + 3, none⟩ = some (.int .i64 (R k).maxL) := hcell k hk 3 _ rfl
  have c4 : w.cell? ⟨b, off + k * 5 + 4, none⟩ = some (.int .i64 (R k).maxC) := hcell k hk 4 _ rfl
  have hfine := (ok.2 k hk).1
  have h100 := ok.1
  obtain ⟨r, hr⟩ : ∃ r, R k = r := ⟨_, rfl⟩
  have HK := Lib.hid hr
  rw [hr] at c0 c1 c2 c3 c4 hfine
  obtain ⟨rr, rl, rc, rml, rmc⟩ := r
  unfold FineL at hfine
  dsimp only at c0 c1 c2 c3 c4 hfine
  obtain ⟨f1, f2, f3, f4, f5, f6⟩ := hfine
  rw [hr] at hrf
  dsimp only at hrf
  subst hrf
  clear hR ok ei hcell hr hp
  go_enter Try.func20, Try.ntmps20
  go_wp2_with fail
  refine H.out.mono ?_
  rintro e w1 ⟨rfl, hb⟩
  have hz := hb.size
  have hw1 : ∀ o, w1.cell? ⟨b, o, none⟩ = w.cell? ⟨b, o, none⟩ := fun o => hb.cell (p := ⟨b, o, none⟩) hb0
  rw [← hw1] at c0 c1 c2 c3 c4
  have HB := Lib.hid hb
  clear hw1 hb H
  go_wp2_with fail
  refine (find_any _ n c R to _ (by omega) (by exact HR.out.below (HB.out.alloc hz _))).mono ?_
  rintro e w2 ⟨rfl, hb2⟩
  have hz2 : w1.heap.size < w2.heap.size := by have := hb2.size; simp at this; omega
  have HB2 := Lib.hid ((HB.out.alloc hz _).trans (hb2.mono (by simp; omega)))
  have e1 : w2.cell? ⟨w1.heap.size, 1, none⟩ = some (.int .i64 rl) := (hb2.cell (p := ⟨w1.heap.size, 1, none⟩) (by simp)).trans (by simp [go_sem])
  have e2 : w2.cell? ⟨w1.heap.size, 2, none⟩ = some (.int .i64 rc) := (hb2.cell (p := ⟨w1.heap.size, 2, none⟩) (by simp)).trans (by simp [go_sem])
  have e3 : w2.cell? ⟨w1.heap.size, 3, none⟩ = some (.int .i64 rml) := (hb2.cell (p := ⟨w1.heap.size, 3, none⟩) (by simp)).trans (by simp [go_sem])
  have e4 : w2.cell? ⟨w1.heap.size, 4, none⟩ = some (.int .i64 rmc) := (hb2.cell (p := ⟨w1.heap.size, 4, none⟩) (by simp)).trans (by simp [go_sem])
  clear hb2 c0 c1 c2 c3 c4
  have hz2' : w.heap.size ≤ w2.heap.size := HB2.out.size
  rcases ixOf_cases (refB R to) n with ⟨et, hno⟩ | ⟨kt, et, hkt, _, _⟩
  rotate_left
  · rw [et]
    have d0 : decide ((0 : Int) ≤ (kt : Int)) = true := by simp
    clear et
    go_wp2_with fail
    go_ret2
    exact .inl ⟨5, rfl, by omega, HB2.out⟩
  rw [et]
  have HNE := Lib.hid (no_ref et)
  clear et hno
  by_cases q1 : amtB l = true
  rotate_left
  · have q1' : amtB l = false := by simpa using q1
    clear q1
    go_wp2_with (go_at_call 45; refine (amount_any _ _).mono ?_; rintro e w' ⟨rfl, rfl⟩)
    go_ret2
    exact .inl ⟨1, rfl, by omega, HB2.out⟩
  have l1 : 0 ≤ l ∧ l ≤ 1073741824 := by simpa [amtB] using q1
  by_cases q2 : amtB d = true
  rotate_left
  · have q2' : amtB d = false := by simpa using q2
    clear q2
    go_wp2_with (go_at_call 45; refine (amount_any _ _).mono ?_; rintro e w' ⟨rfl, rfl⟩)
    go_ret2
    exact .inl ⟨1, rfl, by omega, HB2.out⟩
  have l2 : 0 ≤ d ∧ d ≤ 1073741824 := by simpa [amtB] using q2
  by_cases q3 : rml - rl < l
  · have d3 : decide (rml - rl < l) = true := by simpa using q3
    go_wp2_with (go_at_call 45; refine (amount_any _ _).mono ?_; rintro e w' ⟨rfl, rfl⟩)
    go_ret2
    exact .inl ⟨6, rfl, by omega, HB2.out⟩
  have d3 : decide (rml - rl < l) = false := by simpa using q3
  by_cases q4 : rmc - rc < d
  · have d4 : decide (rmc - rc < d) = true := by simpa using q4
    go_wp2_with (go_at_call 45; refine (amount_any _ _).mono ?_; rintro e w' ⟨rfl, rfl⟩)
    go_ret2
    exact .inl ⟨2, rfl, by omega, HB2.out⟩
  have d4 : decide (rmc - rc < d) = false := by simpa using q4
  by_cases q5 : n = 100
  · have d5 : ((n : Int) == 100) = true := by simp; omega
    clear q5
    go_wp2_with (go_at_call 45; refine (amount_any _ _).mono ?_; rintro e w' ⟨rfl, rfl⟩)
    go_ret2
    exact .inl ⟨6, rfl, by omega, HB2.out⟩
  have d5 : ((n : Int) == 100) = false := by simp; omega
  have n100 : n < 100 := by omega
  clear q5
  go_wp2_with (go_at_call 45; refine (amount_any _ _).mono ?_; rintro e w' ⟨rfl, rfl⟩)
  refine (cloneL _ n c (rowC R) _ (by exact HR.out.below HB2.out) (rowC_len R) (rowC_one R) (fun h => by cases h) (by omega)).mono ?_
  rintro e w3 ⟨v, rfl, hown, hb3⟩
  have hB3 : Below w.heap.size w w3 := HB2.out.trans (hb3.mono hz2')
  obtain ⟨g, cap, rfl, hbase, hlt, hnc, hcm⟩ := own_form hown (by omega)
  have hbase' : w.heap.size ≤ g := by omega
  have hown1 := own_mono (base' := w.heap.size) hown hz2'
  obtain ⟨s1, t1⟩ := own_row_set hown1 hk (j := 3) (by omega) ⟨rr, rl, rc, rml - l, rmc⟩ (.int .i64 (rml - l)) (by simp [rowC, HK.out])
  have u1 : w3.cell? ⟨g, k * 5 + 3, none⟩ = some (.int .i64 rml) := by rw [own_row_cell hown1 hk 3 (by omega)]; simp [rowC, HK.out]
  obtain ⟨s2, t2⟩ := own_row_set t1 hk (j := 4) (by omega) ⟨rr, rl, rc, rml - l, rmc - d⟩ (.int .i64 (rmc - d)) (by rw [rowC_const]; simp [rowC])
  have u2 : (w3.setCell ⟨g, k * 5 + 3, none⟩ (.int .i64 (rml - l))).cell? ⟨g, k * 5 + 4, none⟩ = some (.int .i64 rmc) := by rw [own_row_cell t1 hk 4 (by omega), rowC_const]; simp [rowC]
  rw [updF_updF] at t2
  have HBB := Lib.hid ((hB3.setCell (p := ⟨g, k * 5 + 3, none⟩) hbase' (.int .i64 (rml - l))).setCell (p := ⟨g, k * 5 + 4, none⟩) hbase' (.int .i64 (rmc - d)))
  obtain ⟨R', hR'⟩ : ∃ R', R' = updF R k ⟨rr, rl, rc, rml - l, rmc - d⟩ := ⟨_, rfl⟩
  rw [← hR'] at t2
  have HRR := Lib.hid (show ∀ j, (R' j).ref = (R j).ref by rw [hR']; exact upd_ref (by rw [HK.out]))
  have HRE := Lib.hid (show R' = updF R k (forked (R k) l d) by rw [hR', HK.out]; rfl)
  have HO := Lib.hid t2
  clear hown hown1 t1 t2 hb3 hB3 hbase hz hz2 hz2' e1 e2 e3 e4 HR HB HB2 hR'
  go_wp2_with fail
  clear u1 u2 s1 s2
  generalize (w3.setCell ⟨g, k * 5 + 3, none⟩ (.int .i64 (rml - l))).setCell ⟨g, k * 5 + 4, none⟩ (.int .i64 (rmc - d)) = w4 at *
  have hg4 : w.heap.size ≤ g ∧ g < w4.heap.size := own_lt HO.out
  have hs4 : w.heap.size ≤ w4.heap.size := HBB.out.size
  go_loop [16] (fun x => ∃ p : Nat, p ≤ n ∧ x = .int .i64 p ∧ Hid (∀ j, j < p → (R' j).ref < to)) (fun x => n - (intOf x).toNat)
  case atStart => exact ⟨0, by omega, rfl, fun j hj => by omega⟩
  case round =>
    obtain ⟨p, hp, rfl, hlow⟩ := hrel
    have FIN : (p < n → ¬ (R' p).ref < to) → Hid (FkOk R n (R k).ref to l d k p) := fun hup => ⟨HOKL.out, hk, rfl, HNE.out, by rw [HK.out]; exact ⟨l1, l2, by simpa using q3, by simpa using q4⟩, n100, hp, fun j hj => by rw [← HRR.out]; exact hlow j hj, fun h => by rw [← HRR.out]; exact hup h⟩
    have INS := fun (o : Obj) => ins_any w.heap.size g cap n p w4.heap.size (flatC (rowC R') n) (rowC (fun _ => ⟨to, 0, 0, l, d⟩) 0) (w4.alloc o) hp (by omega) (HO.out.alloc o)
    by_cases hlt : p < n
    · have cc : w4.cell? ⟨g, p * 5, none⟩ = some (.int .i64 (R' p).ref) := by have := own_row_cell HO.out hlt 0 (by omega); simpa [rowC] using this
      have i1 : (0 : Int) ≤ (p : Int) := by omega
      have i2 : (p : Int) < (n : Int) := by omega
      have HLOW := Lib.hid hlow
      by_cases hq : (R' p).ref < to
      · have HS := Lib.hid (show ∀ j, j < p + 1 → (R' j).ref < to from fun j hj => by
          by_cases e : j = p
          · subst e; exact hq
          · exact hlow j (by omega))
        generalize (R' p).ref = rp at *
        have dq : decide (rp < to) = true := by simpa using hq
        clear FIN INS hlow
        go_wp2_with fail
        go_round
        case rel => exact ⟨p + 1, by omega, by go_num, HS⟩
        case measure => simp [intOf]; omega
      · have FK := FIN (fun _ => hq)
        have INS := Lib.hid INS
        generalize (R' p).ref = rp at *
        have dq : decide (rp < to) = false := by simpa using hq
        clear FIN hlow
        go_wp2_with fail
        refine (INS.out _ (by show (w4.heap.push _)[w4.heap.size]? = _; simp [rowC]) (by omega) rfl (fun u hu => by obtain ⟨q, _, hq⟩ := flatC_mem hu; exact rowC_one _ q u hq) (rowC_one _ 0)).mono ?_
        rintro e w5 ⟨v5, rfl, hown5, hg5⟩
        have HO5 := Lib.hid hown5
        have HB5 := Lib.hid (below_grown (HBB.out.alloc hs4 _) (by simp; omega) hg5 (fun q hq => by injection hq with hq; omega))
        clear hown5 hg5
        go_wp2_with fail
        go_ret2
        refine .inr ⟨k, p, by have := FK.out; rw [HK.out] at this; exact this, v5, rfl, ?_, HB5.out⟩
        have e := HO5.out
        rw [ins_flatG (rowC_len R') hp (rowC_ins R' p _)] at e
        unfold fkR
        rw [← HRE.out]
        exact e
    · have FK := FIN (fun h => absurd h hlt)
      have INS := Lib.hid INS
      have hpn : ¬ ((p : Int) < (n : Int)) := by omega
      clear FIN hlow
      go_wp2_with fail
      refine (INS.out _ (by show (w4.heap.push _)[w4.heap.size]? = _; simp [rowC]) (by omega) rfl (fun u hu => by obtain ⟨q, _, hq⟩ := flatC_mem hu; exact rowC_one _ q u hq) (rowC_one _ 0)).mono ?_
      rintro e w5 ⟨v5, rfl, hown5, hg5⟩
      have HO5 := Lib.hid hown5
      have HB5 := Lib.hid (below_grown (HBB.out.alloc hs4 _) (by simp; omega) hg5 (fun q hq => by injection hq with hq; omega))
      clear hown5 hg5
      go_wp2_with fail
      go_ret2
      refine .inr ⟨k, p, by have := FK.out; rw [HK.out] at this; exact this, v5, rfl, ?_, HB5.out⟩
      have e := HO5.out
      rw [ins_flatG (rowC_len R') hp (rowC_ins R' p _)] at e
      unfold fkR
      rw [← HRE.out]
      exact e
end Go.Proofs.Ytjcegplockihfaa
