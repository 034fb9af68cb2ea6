/- A cluster with live lines: what is in the air, as ways; what was said; who there is. A cluster with live lines: Refs. Ways compared. Nothing, sorted. A row of ways sorted by the library. -/
import Derived.Test.YthgbcgphkddmgaaGreatZBO
import Derived.Test.YthgbcgphkddmgaaGreatZAW
import Derived.Test.YthgbcgphkddmgaaGreatZAX
import Derived.Test.YthgbcgphkddmgaaGreatZAL
import Derived.Test.YthgbcgphkddmgaaGreatZAP
import Derived.Test.YthgbcgphkddmgaaGreatZAN
import Derived.Test.YthgbcgphkddmgaaGreatZAO
import Derived.BigRegion
import Derived.Test.YthgbcgphkddmgaaGreatZAI
import Derived.Test.YthgbcgphkddmgaaGreatZAV
import Derived.Test.YthgbcgphkddmgaaGreatZAQ
import Derived.Deep.AppendLies
import Derived.Deep.RegionHeld3
import Derived.Sort.Grow
import Derived.Test.YthgbcgphkddmgaaGreatSortF
import Derived.Sort.OwnSortedInts
namespace Go.Proofs.YthgbcgphkddmgaaGreat
open Go.RowKit Go.Maps
set_option linter.unusedVariables false
set_option linter.unusedSimpArgs false
theorem infoW2 : (Tryz.prog.info? 66).map (fun i => (i.zero, i.size, i.bytes)) = some (some (.agg #[.int .i64 0, .int .i64 0]), 2, 16) := by kernel_rfl
def wyN (l : List (Nat × Nat)) (j : Nat) : Nat × Nat := l.getD j (0, 0)
def wyC (l : List (Nat × Nat)) (j : Nat) : List Value := [.int .i64 (((wyN l j).1 + 1 : Nat) : Int), .int .i64 (((wyN l j).2 + 1 : Nat) : Int)]
def OwnWy (w : World) (base : Nat) (v : Value) (l : List (Nat × Nat)) : Prop := w.ownsRow base 66 2 v l.length (flatC (wyC l) l.length)
theorem wyN_old {l : List (Nat × Nat)} {y : Nat × Nat} {j : Nat} (h : j < l.length) : wyN (l ++ [y]) j = wyN l j := by
  unfold wyN
  rw [List.getD_eq_getElem?_getD, List.getElem?_append_left h, ← List.getD_eq_getElem?_getD]
theorem wyN_new {l : List (Nat × Nat)} {y : Nat × Nat} : wyN (l ++ [y]) l.length = y := by
  unfold wyN
  rw [List.getD_eq_getElem?_getD, List.getElem?_append_right (Nat.le_refl _)]
  simp
theorem wy_snoc (l : List (Nat × Nat)) (y : Nat × Nat) : flatC (wyC (l ++ [y])) (l ++ [y]).length = flatC (wyC l) l.length ++ [.int .i64 ((y.1 + 1 : Nat) : Int), .int .i64 ((y.2 + 1 : Nat) : Int)] := by
  rw [List.length_append]
  show flatC _ (l.length + 1) = _
  rw [flatC]
  congr 1
  · exact flatC_ext _ (fun j hj => by unfold wyC; rw [wyN_old hj])
  · unfold wyC
    rw [wyN_new]
def WyPost (l : List (Nat × Nat)) (w : World) (e : Ending) (w' : World) : Prop := ∃ v, e = .returned v ∧ OwnWy w' w.heap.size v l ∧ Below w.heap.size w w'
section
variable {w w' : World} {X X' Mc D : Nat → Prop} {base T T' : Nat} {bl : CBk → Nat} {pn : Nat → Nat} {rv rv' : RBk → Value} {Bd Bd' : Nat → Prop} {M : Nat → Nat → Prop} {Pn : Nat → Int → Nat} {C C' : GcS}
set_option maxRecDepth 100000 in
set_option maxHeartbeats 4000000 in
theorem gair_any (h : GcG w X Mc base T bl pn rv Bd M Pn C) (hl : C.air.length ≤ 1000) : Calls Tryz.prog 27 #[.pointer (some ⟨bl .P, 0, none⟩)] w (WyPost (C.air.map (·.1)) w) := by
  obtain ⟨i0, hi0, z0, z1, z2⟩ := info_parts infoW2
  have c5 := (show GcP w bl C.n (rv .Air) (rv .Log) from h.cc .P trivial).c5
  obtain ⟨W, hr, hbd⟩ : AirR w base Bd (rv .Air) C.air := h.cr .Air trivial
  have HSL := Lib.hid (show ∀ j, j < C.air.length → ∃ A n c, W j = .slice A n c from fun j hj => by
    have h1 := hbd j hj
    cases hb : (airN C.air j).2.body with
    | none => rw [hb] at h1; exact ⟨_, _, _, h1⟩
    | some x =>
      rw [hb] at h1
      obtain ⟨A', c', e', -⟩ := h1
      exact ⟨_, _, _, e'⟩)
  clear hbd
  obtain ⟨va, hva⟩ : ∃ va, rv .Air = va := ⟨_, rfl⟩
  rw [hva] at c5 hr
  obtain ⟨Aa, ca, rfl, -, -, -⟩ := own_any hr
  have HR := Lib.hid hr
  obtain ⟨n, hn⟩ : ∃ n, C.air.length = n := ⟨_, rfl⟩
  have HN := Lib.hid hn
  rw [hn] at c5 HR hl HSL
  obtain ⟨A, hA⟩ : ∃ A, C.air = A := ⟨_, rfl⟩
  rw [hA] at HR HN ⊢
  clear hr hn hva h hA
  go_enter Tryz.func27, Tryz.ntmps27
  go_wp2_with fail
  go_loopw [3, 5, 11] (fun v3 _ v11 wr => ∃ m, m ≤ n ∧ v11 = .int .i64 (m : Int) ∧ (∃ A3 c3, v3 = .slice A3 m c3) ∧ Hid (OwnWy wr w.heap.size v3 ((A.map (·.1)).take m)) ∧ Hid (Below w.heap.size w wr)) (fun _ _ v11 _ => n - (intOf v11).toNat)
  case atStart => exact ⟨0, Nat.zero_le _, rfl, ⟨none, 0, rfl⟩, Lib.hid (World.ownsRow_nil _ _ _ _), Lib.hid (Below.refl _ _)⟩
  case round =>
    obtain ⟨m, hm, rfl, ⟨A3, c3, rfl⟩, HO, HB⟩ := hrel
    have hml : ((A.map (·.1)).take m).length = m := by rw [List.length_take, List.length_map, HN.out]; omega
    by_cases hlt : m < n
    · obtain ⟨g, cap, hv, -, hgl, -⟩ := own_form HR.out (by omega)
      injection hv with h1 h2 h3
      subst h1 h3
      clear h2
      have hcell : ∀ j u, (airC A W m)[j]? = some u → wr.cell? ⟨g, m * 7 + j, none⟩ = some u := fun j u hu => by
        have hj : j < 7 := (List.getElem?_eq_some_iff.1 hu).1
        have h1 := own_cellC HR.out (fun _ => rfl) hlt hj
        exact (HB.out.cell (p := ⟨g, m * 7 + j, none⟩) hgl).trans (h1.trans hu)
      obtain ⟨y, hy⟩ : ∃ y, (airN A m).1 = y := ⟨_, rfl⟩
      obtain ⟨p, hp⟩ : ∃ p, (airN A m).2 = p := ⟨_, rfl⟩
      obtain ⟨Au, lu, cu, hu⟩ := HSL.out m hlt
      have e7 : airC A W m = [.int .i64 ((y.1 + 1 : Nat) : Int), .int .i64 ((y.2 + 1 : Nat) : Int), .int .u32 (p.seq : Int), .int .u32 (p.ack : Int), .bool p.body.isSome, .int .i64 (p.win : Int), .slice Au lu cu] := by
        unfold airC pkV
        rw [hy, hp, hu]
      rw [e7] at hcell
      obtain ⟨y1, hy1⟩ : ∃ y1, y.1 + 1 = y1 := ⟨_, rfl⟩
      obtain ⟨y2, hy2⟩ : ∃ y2, y.2 + 1 = y2 := ⟨_, rfl⟩
      rw [hy1, hy2] at hcell
      have q0 := hcell 0 _ rfl
      rw [Nat.add_zero] at q0
      have q1 := hcell 1 _ rfl
      have q2 := hcell 2 _ rfl
      have q3 := hcell 3 _ rfl
      have q4 := hcell 4 _ rfl
      have q5 := hcell 5 _ rfl
      have q6 := hcell 6 _ rfl
      have HST := Lib.hid (show flatC (wyC ((A.map (·.1)).take (m + 1))) (m + 1) = flatC (wyC ((A.map (·.1)).take m)) m ++ [.int .i64 (y1 : Int), .int .i64 (y2 : Int)] from by
        have hm' : m < (A.map (·.1)).length := by rw [List.length_map, HN.out]; exact hlt
        have e1 : (A.map (·.1)).take (m + 1) = (A.map (·.1)).take m ++ [y] := by
          rw [List.take_add_one, List.getElem?_eq_getElem hm']
          have : (A.map (·.1))[m] = y := by
            rw [List.getElem_map, ← hy]
            unfold airN
            rw [List.getD_eq_getElem?_getD, List.getElem?_eq_getElem (by rw [HN.out]; exact hlt)]
            rfl
          rw [this]
          rfl
        have e2 := wy_snoc ((A.map (·.1)).take m) y
        rw [← e1, hml, hy1, hy2] at e2
        rw [List.length_take, List.length_map, HN.out, show min (m + 1) n = m + 1 by omega] at e2
        exact e2)
      have i1 : (0 : Int) ≤ (m : Int) := by omega
      have i2 : (m : Int) < (n : Int) := by omega
      have HLT := Lib.hid hlt
      have HML := Lib.hid hml
      have HO' := Lib.hid (show wr.ownsRow w.heap.size 66 2 (.slice A3 m c3) m (flatC (wyC ((A.map (·.1)).take m)) m) from by have := HO.out; unfold OwnWy at this; rw [hml] at this; exact this)
      have hws := HB.out.size
      clear hcell e7 hy hp hu hy1 hy2 hlt hml
      go_wp2_with (at_builtin; go_loud (refine wpList_append_own_at _ rfl _ _ 64 rfl w.heap.size 66 i0 _ 2 16 Tryz.underlying64 hi0 z0 z1 z2 rfl (by omega) (.slice A3 m c3) m (flatC (wyC ((A.map (·.1)).take m)) m) rfl ((((Fr.refl (fun _ => False) wr).alloc _).alloc _).row HO'.out (fun _ _ h => h)) ⟨wr.heap.size + 1, 0, none⟩ 1 1 [.int .i64 (y1 : Int), .int .i64 (y2 : Int)] rfl rfl (cell_newL _ _ _ _ (by simp)) (by intro u hu; simp at hu; rcases hu with rfl | rfl <;> rfl) (by unfold maxLen; omega) (by omega) (by simp; omega) ?_; intro v5 w5 hown5 hgrow5 _ hat5; obtain ⟨A5, c5', rfl, -, -, -⟩ := own_any hown5; have HO5 := Lib.hid hown5; have HG5 := Lib.hid hgrow5; clear hown5 hgrow5 hat5))
      all_goals
        refine ⟨⟨m + 1, by have := HLT.out; omega, by go_num, ⟨_, _, rfl⟩, Lib.hid ?_, Lib.hid ?_⟩, by have := HLT.out; simp [intOf]; omega⟩
        · unfold OwnWy
          have hl : ((A.map (·.1)).take (m + 1)).length = m + 1 := by have := HLT.out; rw [List.length_take, List.length_map, HN.out]; omega
          rw [hl, HST.out]
          exact HO5.out
        · exact below_grown ((HB.out.alloc hws _).alloc (by simp; omega) _) (by simp; omega) HG5.out (fun k hk => by have := (HO'.out.lt k hk).1; omega)
    · obtain rfl : m = n := by omega
      have HO2 := Lib.hid (show OwnWy wr w.heap.size (.slice A3 m c3) (A.map (·.1)) from by
        have := HO.out
        rw [List.take_of_length_le (by rw [List.length_map, HN.out]; exact Nat.le_refl _)] at this
        exact this)
      clear hml
      go_wp2_with fail
      go_ret
      exact ⟨_, rfl, HO2.out, HB.out⟩
def SaidPost (l : List (Int × Int)) (w : World) (e : Ending) (w' : World) : Prop := ∃ A c, e = .returned (.tuple #[.slice A l.length c, .int .i64 0]) ∧ OwnSd w' w.heap.size (.slice A l.length c) l ∧ Below w.heap.size w w'
set_option maxRecDepth 100000 in
set_option maxHeartbeats 4000000 in
theorem gsaid_any (h : GcG w X Mc base T bl pn rv Bd M Pn C) {i : Nat} (hi : i < C.n) (hT : T ≤ 1000000000000) : Calls Tryz.prog 31 #[.pointer (some ⟨bl .P, 0, none⟩), .int .i64 ((i : Int) + 1)] w (SaidPost (C.nd i).said w) := by
  have h8 := h.n8
  obtain ⟨ca, c0⟩ := (show GcP w bl C.n (rv .Air) (rv .Log) from h.cc .P trivial).c0
  have HAT := Lib.hid (at_any (bl .P) C.n (bl .Va) ca i (pn i) ((i : Int) + 1) w c0 hi (by omega) rfl ((show ∀ i, i < C.n → _ from h.cc .Va trivial) i hi))
  have HTH := Lib.hid (there_any (bl .P) C.n ca _ ((i : Int) + 1) w c0 (by omega) (by omega))
  have HS := Lib.hid (said_any (h.nd i hi) hT)
  clear h c0
  go_enter Tryz.func31, Tryz.ntmps31
  go_wp2_with fail
  refine HTH.out.mono ?_
  rintro e w1 ⟨rfl, rfl⟩
  go_wp2_with fail
  refine HAT.out.mono ?_
  rintro e w1 ⟨rfl, rfl⟩
  go_wp2_with fail
  refine HS.out.mono ?_
  rintro e w2 ⟨A, c, rfl, ho, hb⟩
  have HO := Lib.hid ho
  have HB := Lib.hid hb
  clear ho hb
  go_wp2_with fail
  exact bodyPost_ret (results_two Tryz.results31 _ _) rfl ⟨A, c, rfl, HO.out, HB.out⟩
end
end Go.Proofs.YthgbcgphkddmgaaGreat
namespace Go.Proofs.YthgbcgphkddmgaaGreat
open Go.RowKit Go.Maps
set_option linter.unusedVariables false
set_option linter.unusedSimpArgs false
section
variable {w w' : World} {X X' Mc Mc' : Nat → Prop} {base T : Nat} {bl : CBk → Nat} {pn : Nat → Nat} {rv : RBk → Value} {Bd : Nat → Prop} {M : Nat → Nat → Prop} {Pn : Nat → Int → Nat} {C : GcS}
def refsG (C : GcS) (k : Nat) : List Int := catTo (fun i => refsN (C.nd i)) k
theorem refsG_len (h : ∀ i, i < C.n → (C.nd i).acts.length ≤ 60) : ∀ k, k ≤ C.n → (refsG C k).length ≤ 60 * k := by
  intro k
  induction k with
  | zero => intro _; exact Nat.le_refl _
  | succ k ih =>
    intro hk
    have h1 := ih (by omega)
    have h2 := h k (by omega)
    show (catTo _ k ++ refsN (C.nd k)).length ≤ _
    rw [List.length_append]
    have h3 : (catTo (fun i => refsN (C.nd i)) k).length ≤ 60 * k := h1
    have h4 : (refsN (C.nd k)).length = (C.nd k).acts.length := by simp [refsN]
    omega
set_option maxRecDepth 100000 in
set_option maxHeartbeats 4000000 in
theorem grefs_any (h : GcG w X Mc base T bl pn rv Bd M Pn C) : Calls Tryz.prog 8 #[.pointer (some ⟨bl .P, 0, none⟩)] w (CatPost (refsG C C.n) w) := by
  obtain ⟨i0, hi, hz0, hz1, hz2⟩ := info_parts infoI
  have h8 := h.n8
  obtain ⟨ca, c0⟩ := (show GcP w bl C.n (rv .Air) (rv .Log) from h.cc .P trivial).c0
  have HH := Lib.hid h
  have HLN := Lib.hid (refsG_len (C := C) (fun i hi => (h.nd i hi).ok.len))
  clear h
  go_enter Tryz.func8, Tryz.ntmps8
  go_wp2_with fail
  go_loopw [3, 5, 11] (fun o _ x wr => ∃ (i : Nat) (v : Value), i ≤ C.n ∧ x = .int .i64 i ∧ v = o ∧ OwnI wr w.heap.size v (refsG C i) ∧ Below w.heap.size w wr) (fun _ _ x _ => C.n - (intOf x).toNat)
  case atStart => exact ⟨0, _, Nat.zero_le _, rfl, rfl, World.ownsRow_nil _ _ _ _, Below.refl _ _⟩
  case round =>
    obtain ⟨i, v, hin, rfl, rfl, hO, hB⟩ := hrel
    have HO := Lib.hid hO
    have HB := Lib.hid hB
    have hBs := hB.size
    obtain ⟨Ao, co, rfl, hnco, hcmo, _⟩ := own_any hO
    by_cases hlt : i < C.n
    · have hf := Fr.of_below (S := fun _ => False) hB
      have hra := hf.cell ((show ∀ i, i < C.n → w.cell? ⟨bl .Va, i, none⟩ = _ from HH.out.cc .Va trivial) i hlt) (fun h => h)
      have HRF := Lib.hid (refs_any ((HH.out.new hf).nd i hlt))
      have hl1 := HLN.out (i + 1) (by omega)
      have hl2 : (refsG C (i + 1)).length = (refsG C i).length + (C.nd i).acts.length := by
        show (catTo _ i ++ refsN (C.nd i)).length = _
        rw [List.length_append]
        simp [refsN, refsG]
      have HL := Lib.hid (And.intro hl1 hl2)
      clear hO hB hf hl1 hl2
      go_wp2_with fail
      refine HRF.out.mono ?_
      rintro e w3 ⟨A3, c3, rfl, ho3, hb3⟩
      have HO3 := Lib.hid ho3
      have HB3 := Lib.hid hb3
      have HOK := Lib.hid (HO.out.below hb3)
      obtain ⟨l1, l2⟩ := HL.out
      have hlr : (refsN (C.nd i)).length = (C.nd i).acts.length := by simp [refsN]
      have HLR := Lib.hid hlr
      have hcs : refsG C (i + 1) = refsG C i ++ refsN (C.nd i) := rfl
      have HCS := Lib.hid hcs
      have hsz3 : w.heap.size ≤ w3.heap.size := Nat.le_trans hBs hb3.size
      clear ho3 hb3 HRF hcs hlr
      cases A3 with
      | none =>
        have hz : (C.nd i).acts.length = 0 := by
          rcases HO3.out.2 with ⟨e, _⟩ | ⟨g, cap, cur, e, _⟩
          · injection e
          · cases e
        have HAN := Lib.hid (append_none w3 31 w.heap.size _ _ _ HOK.out c3)
        have hz' : (C.nd i).acts.length = 0 := hz
        have HZ := Lib.hid hz
        rw [hz']
        go_wp2_with (at_builtin; refine Lib.wpList_append_run _ rfl _ _ _ _ rfl _ _ rfl rfl _ _ HAN.out ?_)
        refine ⟨⟨i + 1, _, by omega, by go_num, rfl, ?_, HB.out.trans (HB3.out.mono hBs)⟩, by simp [intOf]; omega⟩
        rw [HCS.out, List.eq_nil_of_length_eq_zero (HLR.out.trans HZ.out), List.append_nil]
        exact HOK.out
      | some qa =>
        have HQ2 := Lib.hid (show ∀ j u, (encI (refsN (C.nd i)))[j]? = some u → w3.cell? (qa.add j) = some u from fun j u hu => by
          have hj : j < (refsN (C.nd i)).length := by
            rcases Nat.lt_or_ge j (refsN (C.nd i)).length with hh | hh
            · exact hh
            · rw [List.getElem?_eq_none (by simp [encI]; exact hh)] at hu; cases hu
          obtain ⟨g, cap, hv, _, _, _⟩ := own_form HO3.out (by have := HLR.out; omega)
          injection hv with hA _ _
          injection hA with hA
          subst hA
          rw [Go.WideShapes.add_plain]
          have ho := HO3.out
          unfold OwnI at ho
          rw [HLR.out] at ho
          have := World.ownsRow.cellAt ho j (by have := HLR.out; omega)
          rw [Nat.zero_add, this]
          exact hu)
        go_wp2_with (at_builtin; go_loud (refine wpList_append_own_at _ rfl _ _ 31 rfl w.heap.size 3 i0 _ 1 8 Tryz.underlying31 hi hz0 hz1 hz2 rfl (by omega) (.slice Ao (refsG C i).length co) (refsG C i).length (encI (refsG C i)) rfl HOK.out qa (C.nd i).acts.length c3 (encI (refsN (C.nd i))) rfl (by simp [encI, refsN]) HQ2.out (encI_one _) (by unfold maxLen; omega) (by omega) hsz3 ?_; intro v2 w2 hown2 hgrow2 _ _; have HO2 := Lib.hid hown2; have HG2 := Lib.hid hgrow2; clear hown2 hgrow2))
        refine ⟨⟨i + 1, v2, by omega, by go_num, rfl, ?_, ?_⟩, by simp [intOf]; omega⟩
        · unfold OwnI
          rw [HCS.out, List.length_append, encI_append, HLR.out]
          exact HO2.out
        · exact below_grown (HB.out.trans (HB3.out.mono hBs)) hsz3 HG2.out (fun k hk => (HOK.out.blk k hk).1)
    · obtain rfl : C.n = i := by omega
      clear hO hB
      go_wp2_with fail
      go_ret
      exact ⟨_, rfl, HO.out, HB.out⟩
end
end Go.Proofs.YthgbcgphkddmgaaGreat
namespace Go.Proofs.YthgbcgphkddmgaaGreat
open Go.RowKit
set_option linter.unusedVariables false
set_option linter.unusedSimpArgs false
def cmpI (a b : Int) : Int := if a < b then -1 else if b < a then 1 else 0
def orI (x y : Int) : Int := if x ≠ 0 then x else y
theorem isNaN_any (a : Int) (w : World) : Calls Tryz.prog 102 #[.int .i64 a] w fun e w' => e = .returned (.bool false) ∧ w = w' := by
  go_enter Tryz.func102, Tryz.ntmps102
  go_wp2_with fail
  go_ret
  exact ⟨rfl, rfl⟩
theorem compare_any (a b : Int) (w : World) : Calls Tryz.prog 60 #[.int .i64 a, .int .i64 b] w fun e w' => e = .returned (.int .i64 (cmpI a b)) ∧ w = w' := by
  by_cases h1 : a < b
  · have d1 : decide (a < b) = true := by simpa using h1
    have e1 : cmpI a b = -1 := by simp [cmpI, h1]
    rw [e1]
    clear h1 e1
    go_enter Tryz.func60, Tryz.ntmps60
    go_wp2_with (go_at_call 102; refine (isNaN_any _ _).mono ?_; rintro e w' ⟨rfl, rfl⟩)
    go_ret
    exact ⟨rfl, rfl⟩
  by_cases h2 : b < a
  · have d1 : decide (a < b) = false := by simpa using h1
    have d2 : decide (b < a) = true := by simpa using h2
    have e1 : cmpI a b = 1 := by simp [cmpI, h1, h2]
    rw [e1]
    clear h1 h2 e1
    go_enter Tryz.func60, Tryz.ntmps60
    go_wp2_with (go_at_call 102; refine (isNaN_any _ _).mono ?_; rintro e w' ⟨rfl, rfl⟩)
    go_ret
    exact ⟨rfl, rfl⟩
  · have d1 : decide (a < b) = false := by simpa using h1
    have d2 : decide (b < a) = false := by simpa using h2
    have e1 : cmpI a b = 0 := by simp [cmpI, h1, h2]
    rw [e1]
    clear h1 h2 e1
    go_enter Tryz.func60, Tryz.ntmps60
    go_wp2_with (go_at_call 102; refine (isNaN_any _ _).mono ?_; rintro e w' ⟨rfl, rfl⟩)
    go_ret
    exact ⟨rfl, rfl⟩
set_option maxHeartbeats 4000000 in
theorem scmp_any (p q : Nat) (a1 a2 b1 b2 : Int) (w : World) (x1 : w.cell? ⟨p, 0, none⟩ = some (.int .i64 a1)) (x2 : w.cell? ⟨p, 1, none⟩ = some (.int .i64 a2)) (y1 : w.cell? ⟨q, 0, none⟩ = some (.int .i64 b1)) (y2 : w.cell? ⟨q, 1, none⟩ = some (.int .i64 b2)) :
    Calls Tryz.prog 29 #[.slice (some ⟨p, 0, none⟩) 2 2, .slice (some ⟨q, 0, none⟩) 2 2] w fun e w' => e = .returned (.int .i64 (orI (cmpI a1 b1) (cmpI a2 b2))) ∧ w = w' := by
  obtain ⟨u, hu⟩ : ∃ u, cmpI a1 b1 = u := ⟨_, rfl⟩
  obtain ⟨v, hv⟩ : ∃ v, cmpI a2 b2 = v := ⟨_, rfl⟩
  have HC1 := Lib.hid (show ∀ w, Calls Tryz.prog 60 #[.int .i64 a1, .int .i64 b1] w fun e w' => e = .returned (.int .i64 u) ∧ w = w' from fun w => hu ▸ compare_any a1 b1 w)
  have HC2 := Lib.hid (show ∀ w, Calls Tryz.prog 60 #[.int .i64 a2, .int .i64 b2] w fun e w' => e = .returned (.int .i64 v) ∧ w = w' from fun w => hv ▸ compare_any a2 b2 w)
  rw [hu, hv]
  clear hu hv
  have HO := Lib.hid (show orI u v = if u ≠ 0 then u else v from rfl)
  obtain ⟨o, ho⟩ : ∃ o, orI u v = o := ⟨_, rfl⟩
  rw [ho] at HO ⊢
  clear ho
  go_enter Tryz.func29, Tryz.ntmps29
  go_wp2_with fail
  go_loopw [5, 6, 7, 8, 11] (fun _ _ _ _ v11 wr => ∃ k : Nat, k ≤ 2 ∧ v11 = .int .i64 (k : Int) ∧ Hid (1 ≤ k → u = 0) ∧ Hid (2 ≤ k → v = 0) ∧ wr = w) (fun _ _ _ _ v11 _ => 2 - (intOf v11).toNat)
  case atStart => exact ⟨0, by omega, rfl, Lib.hid (fun h => by omega), Lib.hid (fun h => by omega), rfl⟩
  case round =>
    obtain ⟨k, hk, rfl, H1, H2, rfl⟩ := hrel
    have hkk : k = 0 ∨ k = 1 ∨ k = 2 := by omega
    rcases hkk with rfl | rfl | rfl
    · by_cases h0 : u = 0
      · have hb : (u != 0) = false := by subst h0; rfl
        have HU := Lib.hid h0
        clear h0
        go_wp2_with fail
        refine (HC1.out _).mono ?_
        rintro e w' ⟨rfl, rfl⟩
        go_wp2_with fail
        exact ⟨⟨1, by omega, rfl, Lib.hid (fun _ => HU.out), Lib.hid (fun h => by omega), trivial⟩, by simp [intOf]⟩
      · have hb : (u != 0) = true := by simpa using h0
        have HU := Lib.hid (HO.out.trans (if_pos h0))
        clear h0
        go_wp2_with fail
        refine (HC1.out _).mono ?_
        rintro e w' ⟨rfl, rfl⟩
        go_wp2_with fail
        go_ret
        exact ⟨by rw [HU.out]; rfl, rfl⟩
    · have hu0 := H1.out (by omega)
      have HOV := Lib.hid (show o = v by rw [HO.out, hu0]; rfl)
      clear hu0
      by_cases h0 : v = 0
      · have hb : (v != 0) = false := by subst h0; rfl
        have HU := Lib.hid h0
        clear h0
        go_wp2_with fail
        refine (HC2.out _).mono ?_
        rintro e w' ⟨rfl, rfl⟩
        go_wp2_with fail
        exact ⟨⟨2, by omega, rfl, Lib.hid (fun _ => H1.out (by omega)), Lib.hid (fun _ => HU.out), trivial⟩, by simp [intOf]⟩
      · have hb : (v != 0) = true := by simpa using h0
        clear h0
        go_wp2_with fail
        refine (HC2.out _).mono ?_
        rintro e w' ⟨rfl, rfl⟩
        go_wp2_with fail
        go_ret
        exact ⟨by rw [HOV.out]; rfl, rfl⟩
    · have HOV := Lib.hid (show o = 0 by
        have h1 := H1.out (by omega)
        have h2 := H2.out (by omega)
        rw [HO.out, h1, h2]
        rfl)
      go_wp2_with fail
      go_ret
      exact ⟨by rw [HOV.out]; rfl, rfl⟩
/-- ways, as they are sorted -/
def encW (y : Nat × Nat) : List Value := [.int .i64 ((y.1 + 1 : Nat) : Int), .int .i64 ((y.2 + 1 : Nat) : Int)]
def cfW (x y : Nat × Nat) : Int := orI (cmpI ((x.1 + 1 : Nat) : Int) ((y.1 + 1 : Nat) : Int)) (cmpI ((x.2 + 1 : Nat) : Int) ((y.2 + 1 : Nat) : Int))
set_option maxHeartbeats 4000000 in
theorem less_any (x y : Nat × Nat) (w : World) : Calls Tryz.prog 28 #[.agg (encW x).toArray, .agg (encW y).toArray] w fun e w' => e = .returned (.int .i64 (cfW x y)) ∧ ∃ q os, w' = Go.Sort.grow (w.drewN q) os := by
  unfold encW cfW
  generalize ((x.1 + 1 : Nat) : Int) = a1
  generalize ((x.2 + 1 : Nat) : Int) = a2
  generalize ((y.1 + 1 : Nat) : Int) = b1
  generalize ((y.2 + 1 : Nat) : Int) = b2
  obtain ⟨W0, hW0⟩ : ∃ W0, W0 = (w.alloc (.cells #[.int .i64 a1, .int .i64 a2] 66)).alloc (.cells #[.int .i64 b1, .int .i64 b2] 66) := ⟨_, rfl⟩
  have HW0 := Lib.hid hW0
  obtain ⟨q0, q1, q2, q3⟩ := (show W0.cell? ⟨w.heap.size, 0, none⟩ = some (.int .i64 a1) ∧ W0.cell? ⟨w.heap.size, 1, none⟩ = some (.int .i64 a2) ∧ W0.cell? ⟨w.heap.size + 1, 0, none⟩ = some (.int .i64 b1) ∧ W0.cell? ⟨w.heap.size + 1, 1, none⟩ = some (.int .i64 b2) by rw [hW0]; simp [go_sem])
  have HS := Lib.hid (scmp_any w.heap.size (w.heap.size + 1) a1 a2 b1 b2 W0.drew q0 q1 q2 q3)
  go_enter Tryz.func28, Tryz.ntmps28
  go_wp2_with fail
  rw [← hW0]
  clear hW0
  go_region_with (go_at_call 29; refine HS.out.mono ?_; rintro e w1 ⟨rfl, rfl⟩)
  all_goals
    go_wp2_with fail
    go_ret
    refine ⟨rfl, 1, #[.cells #[.int .i64 a1, .int .i64 a2] 66, .cells #[.int .i64 b1, .int .i64 b2] 66], ?_⟩
    show _ = Go.Sort.grow w.drew _
    rw [HW0.out, Go.Sort.alloc_eq_grow, Go.Sort.alloc_eq_grow, Go.Sort.grow_grow]
    rfl
end Go.Proofs.YthgbcgphkddmgaaGreat
namespace Go.Proofs.YthgbcgphkddmgaaGreat
open Go.RowKit
set_option linter.unusedVariables false
set_option linter.unusedSimpArgs false
theorem len64_0 (w : World) : Calls Tryz.prog 85 #[.int .u64 0] w fun e w' => e = .returned (.int .i64 0) ∧ w' = w := by
  go_enter Tryz.func85, Tryz.ntmps85
  go_wp2_with fail
  refine bodyPost_ret (v := .int .i64 0) ?_ rfl ⟨rfl, rfl⟩
  have e : wrap64 (wrap64 (Lib.len8 0)) = 0 := by kernel_rfl
  rw [e]
  simp [results, Tryz.results85, go_sem]
theorem len_0 (w : World) : Calls Tryz.prog 46 #[.int .u64 0] w fun e w' => e = .returned (.int .i64 0) ∧ w' = w := by
  go_enter Tryz.func46, Tryz.ntmps46
  go_wp2_with fail
  refine (len64_0 w).mono ?_
  rintro e w' ⟨rfl, rfl⟩
  go_wp2_with fail
  go_ret
  exact ⟨rfl, rfl⟩
theorem ins_0 (f : Value) (w : World) : Calls Tryz.prog 103 #[.slice none 0 0, .int .i64 0, .int .i64 0, f] w fun e w' => e = .returned (.tuple #[]) ∧ w' = w := by
  go_enter Tryz.func103, Tryz.ntmps103
  go_wp2_with fail
  go_loopw [8, 9] (fun v8 _ wr => v8 = .int .i64 1 ∧ wr = w) (fun _ _ _ => 0)
  case atStart => exact ⟨rfl, rfl⟩
  case round =>
    obtain ⟨rfl, rfl⟩ := hrel
    go_wp2_with fail
    exact bodyPost_end (results_none rfl _ _ _) rfl ⟨rfl, rfl⟩
theorem pdq_0 (f : Value) (w : World) : Calls Tryz.prog 61 #[.slice none 0 0, .int .i64 0, .int .i64 0, .int .i64 0, f] w fun e w' => e = .returned (.tuple #[]) ∧ w' = w := by
  go_enter Tryz.func61, Tryz.ntmps61
  go_wp2_with fail
  go_loopw [1, 2, 3, 10, 11] (fun v1 v2 v3 v10 v11 wr => v1 = .int .i64 0 ∧ v2 = .int .i64 0 ∧ v3 = .int .i64 0 ∧ v10 = .bool true ∧ v11 = .bool true ∧ wr = w) (fun _ _ _ _ _ _ => 0)
  case atStart => exact ⟨rfl, rfl, rfl, rfl, rfl, rfl⟩
  case round =>
    obtain ⟨rfl, rfl, rfl, rfl, rfl, rfl⟩ := hrel
    go_wp2_with fail
    refine (ins_0 _ _).mono ?_
    rintro e w' ⟨rfl, rfl⟩
    go_wp2_with fail
    exact bodyPost_ret (results_none rfl _ _ _) rfl ⟨rfl, rfl⟩
theorem sort_nil (w : World) : Calls Tryz.prog 30 #[.slice none 0 0, .func (.func 28) #[] #[]] w fun e w' => e = .returned (.tuple #[]) ∧ w' = w := by
  go_enter Tryz.func30, Tryz.ntmps30
  go_wp2_with fail
  refine (len_0 w).mono ?_
  rintro e w' ⟨rfl, rfl⟩
  go_wp2_with fail
  refine (pdq_0 _ _).mono ?_
  rintro e w' ⟨rfl, rfl⟩
  go_wp2_with fail
  exact bodyPost_end (results_none rfl _ _ _) rfl ⟨rfl, rfl⟩
end Go.Proofs.YthgbcgphkddmgaaGreat
namespace Go.Proofs.YthgbcgphkddmgaaGreat
open Go.RowKit
set_option linter.unusedVariables false
set_option linter.unusedSimpArgs false
def encWs (l : List (Nat × Nat)) : List Value := l.flatMap encW
theorem encWs_len (l : List (Nat × Nat)) : (encWs l).length = l.length * 2 := by
  induction l with
  | nil => rfl
  | cons x l ih => unfold encWs at ih ⊢; rw [List.flatMap_cons, List.length_append, ih]; simp [encW]; omega
theorem encWs_append (l m : List (Nat × Nat)) : encWs (l ++ m) = encWs l ++ encWs m := by simp [encWs]
theorem flatC_takeW (l : List (Nat × Nat)) : ∀ n, n ≤ l.length → flatC (wyC l) n = encWs (l.take n) := by
  intro n
  induction n with
  | zero => intro _; rfl
  | succ n ih =>
    intro hn
    have e : wyC l n = encW l[n] := by
      unfold wyC wyN encW
      rw [List.getD_eq_getElem?_getD, List.getElem?_eq_getElem (by omega), Option.getD_some]
    rw [flatC, ih (by omega), List.take_succ_eq_append_getElem (by omega), encWs_append, e]
    simp [encWs]
theorem flatC_wy (l : List (Nat × Nat)) : flatC (wyC l) l.length = encWs l := by rw [flatC_takeW l _ (Nat.le_refl _), List.take_length]
theorem wyC_len (l : List (Nat × Nat)) : ∀ k, (wyC l k).length = 2 := fun _ => rfl
theorem cfW_neg (x y : Nat × Nat) : cfW x y < 0 ↔ x.1 < y.1 ∨ (x.1 = y.1 ∧ x.2 < y.2) := by
  unfold cfW orI cmpI
  repeat' split
  all_goals omega
theorem swoW : Go.Sort.SWO (Go.Proofs.ltOf cfW) where
  irrefl x := by
    show decide (cfW x x < 0) = false
    simp [cfW_neg]
  trans x y z h1 h2 := by
    have h1' : decide (cfW x y < 0) = true := h1
    have h2' : decide (cfW y z < 0) = true := h2
    show decide (cfW x z < 0) = true
    simp only [decide_eq_true_eq, cfW_neg] at *
    omega
  ntrans x y z h1 h2 := by
    have h1' : decide (cfW x y < 0) = false := h1
    have h2' : decide (cfW y z < 0) = false := h2
    show decide (cfW x z < 0) = false
    simp only [decide_eq_false_iff_not, cfW_neg] at *
    omega
theorem totW (x y : Nat × Nat) (h1 : Go.Proofs.ltOf cfW x y = false) (h2 : Go.Proofs.ltOf cfW y x = false) : x = y := by
  have h1' : decide (cfW x y < 0) = false := h1
  have h2' : decide (cfW y x < 0) = false := h2
  simp only [decide_eq_false_iff_not, cfW_neg] at *
  obtain ⟨a, i⟩ := x
  obtain ⟨b, j⟩ := y
  simp only [Prod.mk.injEq]
  dsimp only at *
  omega
/-- the ways in their order -/
def srtW (l : List (Nat × Nat)) : List (Nat × Nat) := l.mergeSort fun x y => !(Go.Proofs.ltOf cfW) y x
theorem srtW_perm (l : List (Nat × Nat)) : (srtW l).Perm l := List.mergeSort_perm _ _
theorem srtW_len (l : List (Nat × Nat)) : (srtW l).length = l.length := (srtW_perm l).length_eq
theorem srtW_eq {l m : List (Nat × Nat)} (h : l.Perm m) : srtW l = srtW m := by
  have hle : ∀ x y : Nat × Nat, (!(Go.Proofs.ltOf cfW) y x) = true ↔ ¬ (y.1 < x.1 ∨ (y.1 = x.1 ∧ y.2 < x.2)) := fun x y => by
    rw [← cfW_neg y x]
    show (!decide (cfW y x < 0)) = true ↔ _
    simp
  have hs : ∀ l : List (Nat × Nat), (srtW l).Pairwise fun x y => (!(Go.Proofs.ltOf cfW) y x) = true := fun l => List.pairwise_mergeSort (fun a b c h1 h2 => by
    rw [hle] at *
    omega) (fun a b => by
    simp only [Bool.or_eq_true]
    rw [hle, hle]
    omega) l
  refine List.Perm.eq_of_pairwise (le := fun x y => (!(Go.Proofs.ltOf cfW) y x) = true) (fun a b _ _ h1 h2 => ?_) (hs l) (hs m) (((srtW_perm l).trans h).trans (srtW_perm m).symm)
  rw [hle] at h1 h2
  obtain ⟨a1, a2⟩ := a
  obtain ⟨b1, b2⟩ := b
  simp only [Prod.mk.injEq]
  dsimp only at *
  omega
theorem flatK_wy (l : List (Nat × Nat)) : (Go.Sort.flatK encW 2 l.toArray).toList = encWs l := by
  apply List.ext_getElem?
  intro t
  by_cases ht : t < l.length * 2
  · have h1 : (Go.Sort.flatK encW 2 l.toArray).toList[t]? = some ((Go.Sort.flatK encW 2 l.toArray)[t]!) := by
      have hs : t < (Go.Sort.flatK encW 2 l.toArray).size := by rw [Go.Sort.size_flatK]; simpa using ht
      rw [Array.getElem?_toList, Array.getElem?_eq_getElem hs, getElem!_pos (Go.Sort.flatK encW 2 l.toArray) t hs]
    rw [h1, Go.Sort.get_flatK _ _ _ _ (by simpa using ht)]
    have hk : t / 2 < l.length := by omega
    have hm : t % 2 < 2 := by omega
    have h2 : (encWs l)[t]? = (encW l[t / 2])[t % 2]? := by
      have h3 := flatC_get (g := wyC l) (sz := 2) (wyC_len _) hk hm
      rw [flatC_wy, Nat.div_add_mod'] at h3
      rw [h3]
      unfold wyC wyN encW
      rw [List.getD_eq_getElem?_getD, List.getElem?_eq_getElem hk, Option.getD_some]
    rw [h2]
    have h4 : l.toArray[t / 2]! = l[t / 2] := by simp [hk]
    rw [h4]
    have hlen : t % 2 < (encW l[t / 2]).length := hm
    rw [List.getElem?_eq_getElem hlen, getElem!_pos (encW l[t / 2]) (t % 2) hlen]
  · rw [List.getElem?_eq_none (by rw [Array.length_toList, Go.Sort.size_flatK]; simp; omega), List.getElem?_eq_none (by rw [encWs_len]; omega)]
theorem heap_sortedV {w : World} {g n : Nat} {os : Array Obj} {cur : Array Value} {e : TypeId} {fr : Nat × Nat} (d : Array Value) (hb : w.heap[g]? = some (.cells cur e fr)) :
    (Go.Sort.grow (Go.Sort.putRow id (Go.Sort.ahead w n) g 0 d) os).heap[g]? = some (.cells (Go.Sort.putCells id 0 d cur) e fr) := by
  have hg : g < w.heap.size := (Array.getElem?_eq_some_iff.1 hb).1
  rw [Go.Sort.heap_grow_old _ _ (by simpa using hg)]
  simp [Go.Sort.putRow, Go.Sort.mapBlock, Go.Sort.ahead, Array.getElem?_modify, hb, Go.Sort.onCells]
theorem grownBy_sortedV {w : World} {g n : Nat} {os : Array Obj} (d : Array Value) : w.grownBy (Go.Sort.grow (Go.Sort.putRow id (Go.Sort.ahead w n) g 0 d) os) (some g) := by
  refine ⟨rfl, rfl, rfl, by simp, fun k hk hne => ?_⟩
  rw [Go.Sort.heap_grow_old _ _ (by simpa using hk)]
  have : g ≠ k := fun e => hne (by rw [e])
  simp [Go.Sort.putRow, Go.Sort.mapBlock, Go.Sort.ahead, Array.getElem?_modify, this]
theorem take_putCellsV (cur : Array Value) (ts : List Value) (h : ts.length ≤ cur.size) : (Go.Sort.putCells id 0 ts.toArray cur).toList.take ts.length = ts := by
  apply List.ext_getElem?
  intro j
  by_cases hj : j < ts.length
  · rw [List.getElem?_take_of_lt hj, Array.getElem?_toList]
    simp [Go.Sort.putCells, hj, show j < cur.size by omega]
  · rw [List.getElem?_take_eq_none (by omega), List.getElem?_eq_none (by omega)]
def SortWPost (base : Nat) (v : Value) (l : List (Nat × Nat)) (w : World) (e : Ending) (w' : World) : Prop := e = .returned (.tuple #[]) ∧ OwnWy w' base v (srtW l) ∧ w.grownBy w' v.ownBlock
theorem less_enters : ∀ args w, (callFunc 28 args).run Tryz.prog w = .ok (.enter 28 args) w := fun _ _ => by kernel_rfl
theorem sort_ownW (base : Nat) (v : Value) (l : List (Nat × Nat)) (w : World) (h : OwnWy w base v l) (hl : l.length < 4611686018427387904) : Calls Tryz.prog 30 #[v, .func (.func 28) #[] #[]] w (SortWPost base v l w) := by
  have hown : w.ownsRow base 66 2 v l.length (encWs l) := by
    have h1 := h
    unfold OwnWy at h1
    rw [flatC_wy] at h1
    exact h1
  rcases hown.2 with ⟨rfl, h0'⟩ | ⟨g, cap, cur, rfl, hb, hg, hnc, hcm, hcs, htake⟩
  · obtain rfl : l = [] := List.eq_nil_of_length_eq_zero h0'
    refine (sort_nil w).mono ?_
    rintro e w' ⟨rfl, rfl⟩
    have e0 : srtW [] = [] := List.eq_nil_of_length_eq_zero (srtW_len [])
    exact ⟨rfl, by rw [e0]; exact h, ⟨rfl, rfl, rfl, Nat.le_refl _, fun _ _ _ => rfl⟩⟩
  · have hlt := (Array.getElem?_eq_some_iff.1 hg).1
    have hH : Go.Sort.HoldsK encW 2 w g 0 l.toArray := by
      intro j hj
      rw [Go.Sort.size_flatK] at hj
      have hj' : j < l.length * 2 := by simpa using hj
      refine ⟨?_, by simp [World.frozen?, hg]⟩
      rw [Nat.zero_add, hown.cellAt j hj', ← flatK_wy]
      have hs : j < (Go.Sort.flatK encW 2 l.toArray).size := by rw [Go.Sort.size_flatK]; simpa using hj'
      rw [Array.getElem?_toList, Array.getElem?_eq_getElem hs, getElem!_pos (Go.Sort.flatK encW 2 l.toArray) j hs]
      rfl
    have hs := Tryz.sort_func encW (fun _ => rfl) (fun x u hu => by simp [encW] at hu; rcases hu with rfl | rfl <;> rfl) cfW swoW 28 #[] g 0 cap l.toArray w less_enters
      (fun m os dk _ x y => less_any x y _) hH hlt (by simpa using hl) totW
    rw [show l.toArray.toList.mergeSort (fun x y => !(Go.Proofs.ltOf cfW) y x) = srtW l from rfl] at hs
    have hs' : Calls Tryz.prog 30 #[.slice (some ⟨g, 0, none⟩) l.length cap, .func (.func 28) #[] #[]] w fun e w' => e = .returned (.tuple #[]) ∧ ∃ n os, w' = sortWorldK encW 2 w g 0 n (srtW l).toArray os := by
      simpa using hs
    refine hs'.mono ?_
    rintro e w' ⟨rfl, n, os, rfl⟩
    have hF : Go.Sort.flatK encW 2 (srtW l).toArray = (encWs (srtW l)).toArray := by rw [← flatK_wy]
    have hw : sortWorldK encW 2 w g 0 n (srtW l).toArray os = Go.Sort.grow (Go.Sort.putRow id (Go.Sort.ahead w n) g 0 (encWs (srtW l)).toArray) os := by
      unfold sortWorldK Go.Sort.putRowK
      rw [hF]
    rw [hw]
    refine ⟨rfl, ?_, grownBy_sortedV _⟩
    have hsl := srtW_len l
    have hel := encWs_len (srtW l)
    unfold OwnWy
    rw [flatC_wy]
    refine ⟨by rw [hel], .inr ⟨g, cap, _, by rw [hsl], hb, heap_sortedV _ hg, by omega, hcm, by simp [Go.Sort.putCells, hcs], ?_⟩⟩
    rw [show (srtW l).length * 2 = (encWs (srtW l)).length by rw [hel]]
    exact take_putCellsV cur _ (by rw [hel, hsl, hcs]; omega)
end Go.Proofs.YthgbcgphkddmgaaGreat
