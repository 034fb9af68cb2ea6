/- timer.Out. -/
import Derived.Test.YthnoahldolfffaaTimerOutPlain
import Derived.Test.YthnoahldolfffaaTimerDelete
namespace Go.Proofs.Ythnoahldolfffaa
open Go.RowKit
set_option linter.unusedVariables false
theorem encD_drop (l : List Du) (k : Nat) : (encD l).drop (k * 2) = encD (l.drop k) := by
  by_cases h : k ≤ l.length
  · conv => lhs; rw [← List.take_append_drop k l, encD_append]
    rw [List.drop_append_of_le_length (by rw [encD_len, List.length_take]; omega), List.drop_eq_nil_of_le (by rw [encD_len, List.length_take]; omega), List.nil_append]
  · rw [List.drop_eq_nil_of_le (by rw [encD_len]; omega), List.drop_eq_nil_of_le (by omega)]; rfl
theorem encD_erase (l : List Du) (i : Nat) : (encD l).take (i * 2) ++ (encD l).drop ((i + 1) * 2) = encD (l.eraseIdx i) := by
  rw [encD_take, encD_drop, ← encD_append, List.eraseIdx_eq_take_drop_succ]
def ClG (n : Nat) (l : List Du) (w : World) (e : Ending) (w' : World) : Prop := ∃ g c', e = .returned (.slice (some ⟨g, 0, none⟩) n c') ∧ OwnD w' w.heap.size (.slice (some ⟨g, 0, none⟩) n c') l ∧ Below w.heap.size w w' ∧ w.heap.size ≤ g ∧ g < w'.heap.size
theorem clone_g (A : Option Addr) (c n : Nat) (l : List Du) (w : World) (hn : l.length = n) (hS : Sd w (.slice A l.length c) l) (h0 : 0 < n) (hl : n ≤ 1000000) : Calls Try.prog 22 #[.slice A n c] w (ClG n l w) := by
  subst hn
  refine (cloneD_any A c l w hS hl).mono ?_
  rintro e w' ⟨A', c', rfl, hO, hb⟩
  have hO' := hO
  obtain ⟨_, ⟨_, h2⟩ | ⟨g, cap, cur, hv, h3⟩⟩ := hO'
  · omega
  · injection hv with e1 _ _
    subst e1
    have := hO.blk g rfl
    exact ⟨g, c', rfl, hO, hb, this.1, this.2⟩
def DelG (base g n cap : Nat) (l : List Du) (w : World) (e : Ending) (w' : World) : Prop := e = .returned (.slice (some ⟨g, 0, none⟩) (n - 1) cap) ∧ OwnD w' base (.slice (some ⟨g, 0, none⟩) (n - 1) cap) l ∧ w.grownBy w' (some g)
theorem delete_g (base g cap n i : Nat) (l : List Du) (w : World) (hn : l.length = n) (hi : i < n) (hO : OwnD w base (.slice (some ⟨g, 0, none⟩) n cap) l) :
    Calls Try.prog 26 #[.slice (some ⟨g, 0, none⟩) n cap, .int .i64 i, .int .i64 ((i : Int) + 1)] w (DelG base g n cap (l.eraseIdx i) w) := by
  subst hn
  refine (del_one base g cap l.length i (encD l) w hi hO (encD_one l)).mono ?_
  rintro e w' ⟨rfl, h1, h2⟩
  rw [encD_erase] at h1
  refine ⟨rfl, ?_, h2⟩
  unfold OwnD
  rw [List.length_eraseIdx_of_lt hi]
  exact h1
def OutPost (now id : Int) (l : List Du) (w : World) (e : Ending) (w' : World) : Prop :=
  (∃ (i : Nat) (x : Du) (A : Option Addr) (c : Nat), OkTl now l ∧ l[i]? = some x ∧ x.id = id ∧ e = .returned (.tuple #[.agg #[.int .i64 now, .slice A (l.eraseIdx i).length c], .int .i64 (x.at_ - now), .int .i64 0]) ∧ OwnD w' w.heap.size (.slice A (l.eraseIdx i).length c) (l.eraseIdx i) ∧ Below w.heap.size w w') ∨
  (∃ y : Int, y ≠ 0 ∧ e = .returned (.tuple #[.agg #[.int .i64 0, .slice none 0 0], .int .i64 0, .int .i64 y]) ∧ (OkTl now l → (∀ x ∈ l, x.id ≠ id) → y = 4) ∧ Below w.heap.size w w')
set_option maxHeartbeats 8000000 in
set_option maxRecDepth 100000 in
theorem out_any (now : Int) (A : Option Addr) (c : Nat) (l : List Du) (id : Int) (w : World) (hS : Sd w (.slice A l.length c) l) :
    Calls Try.prog 12 #[.agg #[.int .i64 now, .slice A l.length c], .int .i64 id] w (OutPost now id l w) := by
  have HS := Lib.hid hS
  obtain ⟨k1, k2⟩ : l.length ≤ c ∧ c ≤ 9223372036854775807 := by
    obtain ⟨_, _, e, h1, h2, _, _⟩ := HS.out
    injection e with _ _ e3
    subst e3
    exact ⟨h1, h2⟩
  clear hS
  have HRA := Lib.hid (show Rd w 2 (duC (nthD l)) A l.length by
    obtain ⟨A', c', e, _, _, _, h⟩ := HS.out
    injection e with e1 _ _
    subst e1
    exact h)
  obtain ⟨W0, hW0⟩ : ∃ W0, W0 = (w.alloc (.cells #[.int .i64 now, .slice A l.length c] 24)).alloc (.cells #[.int .i64 0, .slice none 0 0] 24) := ⟨_, rfl⟩
  have HSB := Lib.hid (show GB W0 w.heap.size now (.slice A l.length c) by
    rw [hW0]
    constructor
    any_goals (first | simp [go_sem] | (intro o; simp [go_sem])))
  have HB0 := Lib.hid (show Below w.heap.size w W0 by rw [hW0]; exact ((Below.refl _ _).alloc (Nat.le_refl _) _).alloc (by simp) _)
  have HZ0 := Lib.hid (show W0.heap.size = w.heap.size + 2 by rw [hW0]; simp)
  obtain ⟨b0, b1, b3, b4, bf, bz⟩ := HSB.out
  go_enter Try.func12, Try.ntmps12
  go_wp2_with fail
  rw [← hW0]
  clear hW0
  refine (check_any now A l.length c (nthD l) _ (by omega) (by omega) (HRA.out.below HB0.out)).mono ?_
  rintro e w1 ⟨x, rfl, hx, hb1⟩
  have HX := Lib.hid (show x = 0 ↔ OkTl now l from hx)
  have HSB1 := Lib.hid (HSB.out.below hb1 (by have := HZ0.out; omega))
  have HB1 := Lib.hid (HB0.out.trans (hb1.mono HB0.out.size))
  have hz1 : w.heap.size + 2 ≤ w1.heap.size := by have := hb1.size; have := HZ0.out; omega
  clear hx hb1 b0 b1 b3 b4 bf bz
  obtain ⟨b0, b1, b3, b4, bf, bz⟩ := HSB1.out
  have x3 : (w1.cell? ⟨w.heap.size + 1, 0, none⟩).isSome = true := by rw [b3]; rfl
  have x4 : (w1.cell? ⟨w.heap.size + 1, 1, none⟩).isSome = true := by rw [b4]; rfl
  by_cases hx0 : x = 0
  rotate_left
  · have e0 : (x != 0) = true := by simpa using hx0
    have HX0 := Lib.hid hx0
    clear hx0
    go_wp2_with fail
    refine bodyPost_ret (v := .tuple #[.agg #[.int .i64 0, .slice none 0 0], .int .i64 0, .int .i64 x]) (by simp [results, Try.results12, go_sem, x3, x4]) rfl ?_
    exact .inr ⟨x, HX0.out, rfl, fun h => absurd (HX.out.2 h) HX0.out, below_set (below_set HB1.out (by omega)) (by omega)⟩
  subst hx0
  have HOK := Lib.hid (HX.out.1 rfl)
  have hl100 := HOK.out.1
  obtain ⟨hn1, hn2⟩ := HOK.out.2.1
  go_wp2_with fail
  refine (find_any A l.length c (nthD l) id _ (by omega) (HRA.out.below HB1.out)).mono ?_
  rintro e w2 ⟨rfl, hb2⟩
  have HSB2 := Lib.hid (HSB1.out.below hb2 bz)
  have HB2 := Lib.hid (HB1.out.trans (hb2.mono HB1.out.size))
  have hz2 := hb2.size
  clear hb2 b0 b1 b3 b4 bf bz x3 x4
  obtain ⟨b0, b1, b3, b4, bf, bz⟩ := HSB2.out
  have x3 : (w2.cell? ⟨w.heap.size + 1, 0, none⟩).isSome = true := by rw [b3]; rfl
  have x4 : (w2.cell? ⟨w.heap.size + 1, 1, none⟩).isSome = true := by rw [b4]; rfl
  rcases ixOf_cases (idB (nthD l) id) l.length with ⟨hix, hno⟩ | ⟨i, hix, hi, hp, hno⟩
  · rw [hix]
    have HN := Lib.hid hno
    clear hix hno
    go_wp2_with fail
    refine bodyPost_ret (v := .tuple #[.agg #[.int .i64 0, .slice none 0 0], .int .i64 0, .int .i64 4]) (by simp [results, Try.results12, go_sem, x3, x4]) rfl ?_
    exact .inr ⟨4, by omega, rfl, fun _ _ => rfl, below_set (below_set HB2.out (by omega)) (by omega)⟩
  · rw [hix]
    obtain ⟨bk, off, rfl, hbk, hcell⟩ := HRA.out (by omega)
    obtain ⟨y, hy⟩ : ∃ y, l[i]? = some y := ⟨_, List.getElem?_eq_getElem hi⟩
    have hyn : nthD l i = y := by simp [nthD, hy]
    have HY := Lib.hid hy
    have HID := Lib.hid (show y.id = id by unfold idB at hp; rw [hyn] at hp; simpa using hp)
    have c0 : w2.cell? ⟨bk, off + i * 2, none⟩ = some (.int .i64 y.at_) := (HB2.out.cell (p := ⟨bk, _, none⟩) hbk).trans (hcell i hi 0 _ (by unfold duC; rw [hyn]; rfl))
    have d1 : decide ((i : Int) < 0) = false := by simp
    have hat := (HOK.out.2.2 i hi).1
    rw [hyn] at hat
    obtain ⟨ha1, ha2⟩ := hat
    obtain ⟨n, hn⟩ : ∃ n, n = l.length := ⟨_, rfl⟩
    have HCL := Lib.hid (clone_g (some ⟨bk, off, none⟩) c n l w2.drew hn.symm (HS.out.below HB2.out.drew) (by omega) (by omega))
    have HNN := Lib.hid hn
    have HSN := Lib.hid (show GB w2 w.heap.size now (.slice (some ⟨bk, off, none⟩) n c) by rw [hn]; exact HSB2.out)
    have HLE := Lib.hid (show (l.eraseIdx i).length = n - 1 by rw [hn]; exact List.length_eraseIdx_of_lt hi)
    rw [← hn] at b1 hi hl100 k1
    have i1 : (0 : Int) ≤ (i : Int) := by omega
    have i2 : (i : Int) < (n : Int) := by omega
    obtain ⟨ya, yi⟩ := y
    dsimp only at c0 ha1 ha2
    rw [← hn]
    clear hix hcell hyn hy hp hno hn
    have HWI := Lib.hid (show IntKind.i64.wrap ((i : Int) + 1) = (i : Int) + 1 by rw [IntKind.wrap_i64]; omega)
    have HWS := Lib.hid (show IntKind.i64.wrap (ya - now) = ya - now by rw [IntKind.wrap_i64]; omega)
    have hq1 : ¬ (bk = w.heap.size + 1) := by omega
    have hq2 : ¬ (w.heap.size + 1 = bk) := by omega
    have hzk : bk < w2.heap.size := by have := HB2.out.size; omega
    go_wp2_with fail
    go_region_held3 (fun W => W.cell? ⟨w.heap.size, 0, none⟩ = some (.int .i64 now) ∧ W.cell? ⟨w.heap.size, 1, none⟩ = some (.slice (some ⟨bk, off, none⟩) n c) ∧ W.cell? ⟨bk, off + i * 2, none⟩ = some (.int .i64 ya))
      (first | with_reducible exact ⟨b0, b1, c0⟩ | with_reducible exact r1 | with_reducible exact r2 | go_keep)
      (first
        | (go_at_call 22; refine HCL.out.mono ?_; rintro e wA ⟨g, ca, rfl, hOA, hbA, hgA, hltA⟩; have hgA : w2.heap.size ≤ g := hgA; have HGA := Lib.hid (HSN.out.below (below_drew' hbA) bz); have r1 := (And.intro HGA.out.c0 (And.intro HGA.out.c1 (((below_drew' hbA).cell (p := ⟨bk, off + i * 2, none⟩) hzk).trans c0))); have HBA := Lib.hid (below_drew' hbA); have HOA := Lib.hid hOA; clear hOA hbA)
        | (go_at_call 26; rw [HWI.out]; refine (delete_g w2.heap.size g ca n i l wA HNN.out.symm hi HOA.out).mono ?_; rintro e wD ⟨rfl, hOD, hgD⟩; have HBD := Lib.hid (HBA.out.trans (below_grown (Below.refl _ _) HBA.out.size hgD (fun g' hg' => by injection hg' with hg'; omega))); have HGD := Lib.hid (HSN.out.below HBD.out bz); have r2 := (And.intro HGD.out.c0 (And.intro HGD.out.c1 ((HBD.out.cell (p := ⟨bk, off + i * 2, none⟩) hzk).trans c0))); have HOD := Lib.hid hOD; obtain ⟨f0, f1, f3, f4, ff, fz⟩ := HGD.out; clear hOD hgD))
    all_goals
      have y3 : (wD.cell? ⟨w.heap.size + 1, 0, none⟩).isSome = true := by rw [f3]; rfl
      have y4 : (wD.cell? ⟨w.heap.size + 1, 1, none⟩).isSome = true := by rw [f4]; rfl
      go_wp2_with fail
      refine bodyPost_ret (v := .tuple #[.agg #[.int .i64 now, .slice (some ⟨g, 0, none⟩) (n - 1) ca], .int .i64 (ya - now), .int .i64 0]) (by simp [results, Try.results12, go_sem, y3, y4, HWS.out]) rfl ?_
      refine .inl ⟨i, ⟨ya, yi⟩, some ⟨g, 0, none⟩, ca, HOK.out, HY.out, HID.out, by rw [HLE.out], ?_, below_set (below_set ((HB2.out.trans (HBD.out.mono HB2.out.size))) (by omega)) (by omega)⟩
      rw [HLE.out]
      exact own_mono (own_set (own_set HOD.out (by omega)) (by omega)) (by omega)
end Go.Proofs.Ythnoahldolfffaa
