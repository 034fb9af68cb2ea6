/- Who can never be reached again: a level. Who can never be reached again: the walk through level. Who can never be reached again: what the levels have marked. Who is alive, and who can be reached. Sinks that turn: what becomes of a node that hosts nothing else. -/
import Derived.Test.YthgbcgphkddmgaaGreatZBH
import Derived.Test.YthgbcgphkddmgaaGreatZAA
import Derived.Test.YthgbcgphkddmgaaGreatZBB
import Derived.Test.YthgbcgphkddmgaaGreatZBF
namespace Go.Proofs.YthgbcgphkddmgaaGreat
open Go.RowKit Go.Maps
set_option linter.unusedVariables false
set_option linter.unusedSimpArgs false
/-- the node of cycle at blocks s, s + 1, s + 2, s + 3; who is marked -/
structure CyAt (w : World) (s : Nat) (K : List KqS) (Vf : Int → Value) (mk : Int → Bool) (nm : Nat) : Prop where
  c0 : w.cell? ⟨s + 3, 0, none⟩ = some (.map (some s))
  c1 : w.cell? ⟨s + 3, 1, none⟩ = some (.map (some (s + 1)))
  mr : ∃ n, n ≤ 480 ∧ OwnM w s n (rfG K K.length Vf)
  mm : ∃ n, n ≤ nm ∧ OwnM w (s + 1) n (knG mk)
  rw : ∀ j, j < K.length → OwnI w (s + 4) (Vf (kqN K j).ref) (kqN K j).refs
  sz : s + 4 ≤ w.heap.size
theorem StR.cy {w wr : World} {s : Nat} {K : List KqS} {L : List Int} {v : Value} {Vf : Int → Value} (ok : KqOk K) (h : StR w s K K.length L v Vf wr) : CyAt wr s K Vf (fun _ => false) 0 := by
  obtain ⟨n, hn, hm⟩ := h.mr
  exact ⟨h.c0, h.c1, ⟨n, by have := ok.len; omega, hm⟩, ⟨0, Nat.le_refl _, h.mm.congr (fun x _ => rfl)⟩, h.rw, h.sz⟩
theorem CyAt.fr {w w' : World} {D : Nat → Prop} {s : Nat} {K : List KqS} {Vf : Int → Value} {mk : Int → Bool} {nm : Nat} (h : CyAt w s K Vf mk nm) (hf : Fr D w w') (hD : ∀ k, D k → w.heap.size ≤ k) : CyAt w' s K Vf mk nm := by
  obtain ⟨n, hn, hm⟩ := h.mr
  obtain ⟨m, hm1, hm2⟩ := h.mm
  have hs := h.sz
  have no : ∀ k, k < w.heap.size → ¬ D k := fun k hk hd => by have := hD k hd; omega
  exact ⟨hf.cell h.c0 (no _ (by omega)), hf.cell h.c1 (no _ (by omega)), ⟨n, hn, hm.fr hf (no _ (by omega))⟩, ⟨m, hm1, hm2.fr hf (no _ (by omega))⟩, fun j hj => hf.row (h.rw j hj) (fun k hk => no k ((h.rw j hj).blk k hk).2), Nat.le_trans h.sz hf.size⟩
/-- others write, but not into what lay there when the rows were made -/
theorem CyAt.frO {w0 w w' : World} {D : Nat → Prop} {s : Nat} {K : List KqS} {Vf : Int → Value} {mk0 mk : Int → Bool} {nm0 nm : Nat} (h0 : CyAt w0 s K Vf mk0 nm0) (h : CyAt w s K Vf mk nm) (hf : Fr D w w') (hD : ∀ k, D k → w0.heap.size ≤ k) : CyAt w' s K Vf mk nm := by
  obtain ⟨n, hn, hm⟩ := h.mr
  obtain ⟨m, hm1, hm2⟩ := h.mm
  have hs := h0.sz
  have no : ∀ k, k < w0.heap.size → ¬ D k := fun k hk hd => by have := hD k hd; omega
  exact ⟨hf.cell h.c0 (no _ (by omega)), hf.cell h.c1 (no _ (by omega)), ⟨n, hn, hm.fr hf (no _ (by omega))⟩, ⟨m, hm1, hm2.fr hf (no _ (by omega))⟩, fun j hj => hf.row (h.rw j hj) (fun k hk => no k ((h0.rw j hj).blk k hk).2), Nat.le_trans h.sz hf.size⟩
/-- the marks were written -/
theorem CyAt.mark {w w' : World} {s : Nat} {K : List KqS} {Vf : Int → Value} {mk mk' : Int → Bool} {nm nm' n : Nat} (h : CyAt w s K Vf mk nm) (hg : w.grownBy w' (some (s + 1))) (hn : n ≤ nm') (ho : OwnM w' (s + 1) n (knG mk')) : CyAt w' s K Vf mk' nm' := by
  obtain ⟨m, hm1, hm⟩ := h.mr
  have hf : Fr (fun k => k = s + 1) w w' := Fr.of_grown hg (fun b hb => .inl (by injection hb with hb; exact hb.symm))
  exact ⟨hf.cell h.c0 (by omega), hf.cell h.c1 (by omega), ⟨m, hm1, hm.fr hf (by omega)⟩, ⟨n, hn, ho⟩, fun j hj => hf.row (h.rw j hj) (fun k hk e => by have := ((h.rw j hj).blk k hk).1; omega), Nat.le_trans h.sz hf.size⟩
theorem nodup_ref {K : List KqS} (h : (K.map (·.ref)).Nodup) : ∀ {x y : KqS}, x ∈ K → y ∈ K → x.ref = y.ref → x = y := by
  induction K with
  | nil => intro x y hx; cases hx
  | cons a K ih =>
    intro x y hx hy e
    rw [List.map_cons, List.nodup_cons] at h
    rcases List.mem_cons.1 hx with rfl | hx2
    · rcases List.mem_cons.1 hy with rfl | hy2
      · rfl
      · have hm : x.ref ∈ K.map (·.ref) := List.mem_map.2 ⟨y, hy2, e.symm⟩
        exact absurd hm h.1
    · rcases List.mem_cons.1 hy with rfl | hy2
      · have hm : y.ref ∈ K.map (·.ref) := List.mem_map.2 ⟨x, hx2, e⟩
        exact absurd hm h.1
      · exact ih h.2 hx2 hy2 e
/-- the references that the record of r holds -/
def rowK (K : List KqS) (r : Int) : List Int := ((K.find? fun k => k.ref == r).getD zKq).refs
theorem rowK_at {K : List KqS} (ok : KqOk K) {j : Nat} (hj : j < K.length) : rowK K (kqN K j).ref = (kqN K j).refs := by
  unfold rowK
  have h1 : K.find? (fun k => k.ref == (kqN K j).ref) = some (kqN K j) := by
    have hm := kqN_mem hj
    rcases hf : K.find? (fun k => k.ref == (kqN K j).ref) with _ | x
    · have := List.find?_eq_none.1 hf _ hm
      simp at this
    · have hx := List.mem_of_find?_eq_some hf
      have he : x.ref = (kqN K j).ref := by simpa using List.find?_some hf
      rw [hf, nodup_ref ok.nod hx hm he]
  rw [h1]
  rfl
theorem idx_of {K : List KqS} {r : Int} (h : r ∈ K.map (·.ref)) : ∃ j, j < K.length ∧ (kqN K j).ref = r := by
  obtain ⟨k, hk, rfl⟩ := List.mem_map.1 h
  obtain ⟨j, hj, e⟩ := List.mem_iff_getElem.1 hk
  refine ⟨j, hj, ?_⟩
  unfold kqN
  rw [List.getD_eq_getElem?_getD, List.getElem?_eq_getElem hj, e]
  rfl
theorem refsK_all (K : List KqS) : refsK K K.length = K.map (·.ref) := by unfold refsK; rw [List.take_length]
theorem zero_ints : ∀ w, (zeroValue 31).run Tryz.prog w = .ok (.slice none 0 0) w := fun w => by kernel_rfl
section
variable {w : World} {s : Nat} {K : List KqS} {Vf : Int → Value} {mk : Int → Bool} {nm : Nat}
theorem CyAt.look (h : CyAt w s K Vf mk nm) {r : Int} (hr : r ∈ K.map (·.ref)) (hw : Wf r) : (Instr.lookup 231 (.map (some s)) (.int .i64 r) false).run Tryz.prog w = .ok (Vf r) w := by
  obtain ⟨n, _, hm⟩ := h.mr
  have := OwnM.look und_mil zero_ints hm hw
  rw [this]
  unfold rfG
  rw [refsK_all, if_pos hr]
  rfl
theorem CyAt.look_ok (h : CyAt w s K Vf mk nm) {r : Int} (hr : r ∈ K.map (·.ref)) (hw : Wf r) : (Instr.lookup 231 (.map (some s)) (.int .i64 r) true).run Tryz.prog w = .ok (.tuple #[Vf r, .bool true]) w := by
  obtain ⟨n, _, hm⟩ := h.mr
  have := OwnM.look_ok und_mil zero_ints hm hw
  rw [this]
  unfold rfG
  rw [refsK_all, if_pos hr]
  rfl
theorem CyAt.row (h : CyAt w s K Vf mk nm) (ok : KqOk K) {r : Int} (hr : r ∈ K.map (·.ref)) : OwnI w (s + 4) (Vf r) (rowK K r) := by
  obtain ⟨j, hj, rfl⟩ := idx_of hr
  rw [rowK_at ok hj]
  exact h.rw j hj
end
end Go.Proofs.YthgbcgphkddmgaaGreat
namespace Go.Proofs.YthgbcgphkddmgaaGreat
open Go.RowKit Go.Maps
set_option linter.unusedVariables false
set_option linter.unusedSimpArgs false
def markK (mk : Int → Bool) (l : List Int) : Int → Bool := fun x => mk x || decide (x ∈ l)
theorem markK_nil (mk : Int → Bool) : markK mk [] = mk := by funext x; simp [markK]
/-- those that come after the first q of l -/
def nextK (K : List KqS) (mk' : Int → Bool) (l : List Int) : Int → Bool := fun x => decide (∃ r, r ∈ l ∧ x ∈ rowK K r) && !mk' x
/-- what a level says: those that come next -/
def LevPost (s : Nat) (K : List KqS) (Vf : Int → Value) (mk : Int → Bool) (nm : Nat) (l : List Int) (w : World) (e : Ending) (w' : World) : Prop :=
  ∃ v' l', e = .returned v' ∧ OwnI w' w.heap.size v' l' ∧ CyAt w' s K Vf (markK mk l) (nm + l.length) ∧ Fr (fun k => k = s + 1) w w' ∧ l'.Nodup ∧ ∀ x, x ∈ l' ↔ (∃ r, r ∈ l ∧ x ∈ rowK K r) ∧ markK mk l x = false
set_option maxRecDepth 100000 in
set_option maxHeartbeats 8000000 in
theorem cyc_level {w : World} {s B : Nat} {K : List KqS} {Vf : Int → Value} {mk : Int → Bool} {nm : Nat} {A : Option Addr} {c : Nat} {l : List Int} (ok : KqOk K) (h : CyAt w s K Vf mk nm) (hl : OwnI w B (.slice A l.length c) l) (hB : s + 4 ≤ B) (hin : ∀ x, x ∈ l → x ∈ K.map (·.ref)) (hlen : l.length ≤ 1000) (hnm : nm ≤ 1000000) :
    Calls Tryz.prog 133 #[.pointer (some ⟨s + 3, 0, none⟩), .slice A l.length c] w (LevPost s K Vf mk nm l w) := by
  have HH := Lib.hid h
  have HOK := Lib.hid ok
  have HIN := Lib.hid hin
  have HL := Lib.hid hl
  have HWF := Lib.hid (show ∀ x, x ∈ l → Wf x from fun x hx => by
    obtain ⟨k, hk, rfl⟩ := List.mem_map.1 (hin x hx)
    exact (ok.wf k hk).1)
  clear h ok hin hl
  go_enter Tryz.func133, Tryz.ntmps133
  go_wp2_with fail
  go_loopw [6, 18] (fun _ v wr => ∃ q : Nat, q ≤ l.length ∧ v = .int .i64 (q : Int) ∧ Hid (CyAt wr s K Vf (markK mk (l.take q)) (nm + q)) ∧ Hid (Fr (fun k => k = s + 1) w wr)) (fun _ v _ => l.length - (intOf v).toNat)
  case atStart => exact ⟨0, Nat.zero_le _, rfl, Lib.hid (by rw [List.take_zero, markK_nil]; exact HH.out), Lib.hid (Fr.refl _ _)⟩
  case round =>
    obtain ⟨q, hq, rfl, HC, HF⟩ := hrel
    by_cases hlt : q < l.length
    · have hlr := HF.out.row HL.out (fun k hk e => by have := (HL.out.blk k hk).1; omega)
      obtain ⟨b, off, rfl, hb, hc⟩ := OwnI.rd hlr (by omega)
      have x0 := hc q hlt 0 _ rfl
      simp only [Nat.mul_one, Nat.add_zero] at x0
      have hxm : lst l q ∈ l := by
        unfold lst
        rw [List.getD_eq_getElem?_getD, List.getElem?_eq_getElem hlt]
        exact List.getElem_mem _
      have htk : l.take (q + 1) = l.take q ++ [lst l q] := by
        unfold lst
        rw [List.take_add_one, List.getD_eq_getElem?_getD, List.getElem?_eq_getElem hlt]
        rfl
      obtain ⟨y, hy⟩ : ∃ y, lst l q = y := ⟨_, rfl⟩
      rw [hy] at x0 hxm htk
      obtain ⟨m, hm1, hmm⟩ := HC.out.mm
      obtain ⟨w3, hrun, ho3, hg3⟩ := OwnM.store und_mib hmm (by unfold maxLen; omega) y (.bool true) (HWF.out y hxm)
      rw [knG_put] at ho3
      have c1 := HC.out.c1
      have HC3 := Lib.hid (HC.out.mark (nm' := nm + (q + 1)) (mk' := markK mk (l.take (q + 1))) hg3 (by split <;> omega) (ho3.congr (fun x _ => by
        unfold knG markK
        rw [htk]
        simp [Bool.or_assoc])))
      have HF3 := Lib.hid (HF.out.trans' (Fr.of_grown hg3 (fun b hb => .inl (by injection hb with hb; exact hb.symm))))
      have i1 : (0 : Int) ≤ (q : Int) := by omega
      have i2 : (q : Int) < (l.length : Int) := by omega
      clear hlr hc hxm htk hmm ho3 hg3 hy HC HF
      go_wp2_with fail
      exact ⟨⟨q + 1, by omega, by go_num, HC3, HF3⟩, by simp [intOf]; omega⟩
    · obtain rfl : q = l.length := by omega
      rw [List.take_length] at HC
      have hmk := mkMib
      have HM0 := Lib.hid (show OwnM (wr.alloc (.map #[] 0)) wr.heap.size 0 (knG (nextK K (markK mk l) (l.take 0))) from (OwnM.made wr).congr (fun x _ => by unfold knG nextK; simp))
      have HC1 := Lib.hid (HC.out.fr (D := fun _ => False) ((Fr.refl _ wr).alloc (.map #[] 0)) (fun _ h => h.elim))
      go_wp2_with fail
      go_loopw [9, 11, 12, 13, 31] (fun _ _ _ _ v wx => ∃ q m : Nat, q ≤ l.length ∧ v = .int .i64 (q : Int) ∧ m ≤ 1000001 * q ∧ Hid (CyAt wx s K Vf (markK mk l) (nm + l.length)) ∧ Hid (OwnM wx wr.heap.size m (knG (nextK K (markK mk l) (l.take q)))) ∧ Hid (Fr (fun k => k = wr.heap.size) (wr.alloc (.map #[] 0)) wx)) (fun _ _ _ _ v _ => l.length - (intOf v).toNat)
      case atStart => exact ⟨0, 0, Nat.zero_le _, rfl, by omega, HC1, HM0, Lib.hid (Fr.refl _ _)⟩
      case round =>
        rename World => wx
        obtain ⟨q, m, hq, rfl, hm, HCx, HMx, HFx⟩ := hrel
        have hnl : wr.heap.size < (wr.alloc (.map #[] 0)).heap.size := by simp
        by_cases hlt : q < l.length
        · as_aux_lemma =>
            have HFL := Lib.hid (show Fr (fun k => k = s + 1) w wx from (HF.out.trans' (((Fr.refl _ wr).alloc (.map #[] 0)).weak (S := fun _ => False) (fun _ h => h.elim))).trans HFx.out (fun k hk => .inr (by have := HF.out.size; omega)))
            have hlr := HFL.out.row HL.out (fun k hk e => by have := (HL.out.blk k hk).1; omega)
            obtain ⟨b, off, rfl, hb, hc⟩ := OwnI.rd hlr (by omega)
            have x0 := hc q hlt 0 _ rfl
            simp only [Nat.mul_one, Nat.add_zero] at x0
            have hxm : lst l q ∈ l := by
              unfold lst
              rw [List.getD_eq_getElem?_getD, List.getElem?_eq_getElem hlt]
              exact List.getElem_mem _
            have htk : l.take (q + 1) = l.take q ++ [lst l q] := by
              unfold lst
              rw [List.take_add_one, List.getD_eq_getElem?_getD, List.getElem?_eq_getElem hlt]
              rfl
            obtain ⟨y, hy⟩ : ∃ y, lst l q = y := ⟨_, rfl⟩
            rw [hy] at x0 hxm htk
            have hlk := HCx.out.look (HIN.out y hxm) (HWF.out y hxm)
            have hrow := HCx.out.row HOK.out (HIN.out y hxm)
            obtain ⟨Ar, cr, hVr, -, -, -⟩ := own_any hrow
            rw [hVr] at hlk hrow
            have c0 := HCx.out.c0
            have i1 : (0 : Int) ≤ (q : Int) := by omega
            have i2 : (q : Int) < (l.length : Int) := by omega
            have HROW := Lib.hid hrow
            have HTK := Lib.hid htk
            have HXM := Lib.hid hxm
            have HBK := Lib.hid (show ∀ k, (Value.slice Ar (rowK K y).length cr).ownBlock = some k → k < wr.heap.size from fun k hk => Nat.lt_of_lt_of_le ((HH.out.row HOK.out (HIN.out y hxm)).blk k (by rw [hVr]; exact hk)).2 HF.out.size)
            clear hlr hc hxm htk hy hrow hVr
            go_wp2_with fail
            have HCX := HCx
            obtain ⟨Lr, hLr⟩ : ∃ Lr, rowK K y = Lr := ⟨_, rfl⟩
            have HLR := Lib.hid hLr
            have HOWN := Lib.hid (show ∀ x, x ∈ Lr → x ∈ K.map (·.ref) ∧ Wf x from fun x hx => by
              obtain ⟨j, hj, hje⟩ := idx_of (HIN.out y HXM.out)
              have h2 : x ∈ (kqN K j).refs := by rw [← rowK_at HOK.out hj, hje, hLr]; exact hx
              exact ⟨HOK.out.own _ (kqN_mem hj) x h2, (HOK.out.wf _ (kqN_mem hj)).2 x h2⟩)
            have HLL := Lib.hid (show Lr.length ≤ 1000000 from by
              obtain ⟨j, hj, hje⟩ := idx_of (HIN.out y HXM.out)
              have := HOK.out.long _ (kqN_mem hj)
              rw [← rowK_at HOK.out hj, hje, hLr] at this
              exact this)
            have HR0 := HROW.out
            rw [hLr] at HR0 HBK
            have HROW := Lib.hid HR0
            have HNW := Lib.hid (show wr.heap.size < wx.heap.size from Nat.lt_of_lt_of_le hnl HFx.out.size)
            rw [hLr]
            clear HR0 hLr
            go_loopw [11, 12, 13, 42] (fun _ _ _ v wi => ∃ j m2 : Nat, j ≤ Lr.length ∧ v = .int .i64 (j : Int) ∧ m2 ≤ 1000001 * q + j ∧ Hid (CyAt wi s K Vf (markK mk l) (nm + l.length)) ∧ Hid (OwnM wi wr.heap.size m2 (knG fun x => nextK K (markK mk l) (l.take q) x || (decide (x ∈ Lr.take j) && !markK mk l x))) ∧ Hid (Fr (fun k => k = wr.heap.size) wx wi)) (fun _ _ _ v _ => Lr.length - (intOf v).toNat)
            case atStart => exact ⟨0, m, Nat.zero_le _, rfl, by omega, HCx, Lib.hid (HMx.out.congr (fun x _ => by unfold knG; simp)), Lib.hid (Fr.refl _ _)⟩
            case round =>
              rename World => wi
              obtain ⟨j, m2, hj, rfl, hm2, HCi, HMi, HFi⟩ := hrel
              have hszw := HROW.out.lt
              by_cases hlj : j < Lr.length
              · as_aux_lemma =>
                  have hlr := HFi.out.row HROW.out (fun k hk e => by have := HBK.out k hk; omega)
                  obtain ⟨b2, off2, rfl, hb2, hc2⟩ := OwnI.rd hlr (by omega)
                  have y0 := hc2 j hlj 0 _ rfl
                  simp only [Nat.mul_one, Nat.add_zero] at y0
                  have htm : lst Lr j ∈ Lr := by
                    unfold lst
                    rw [List.getD_eq_getElem?_getD, List.getElem?_eq_getElem hlj]
                    exact List.getElem_mem _
                  have htk2 : Lr.take (j + 1) = Lr.take j ++ [lst Lr j] := by
                    unfold lst
                    rw [List.take_add_one, List.getD_eq_getElem?_getD, List.getElem?_eq_getElem hlj]
                    rfl
                  obtain ⟨t, ht⟩ : ∃ t, lst Lr j = t := ⟨_, rfl⟩
                  rw [ht] at y0 htm htk2
                  obtain ⟨ho1, ho2⟩ := HOWN.out t htm
                  have hlk2 := HCi.out.look_ok ho1 ho2
                  obtain ⟨m3, hm3, hmm⟩ := HCi.out.mm
                  have hlm := look_mib hmm ho2
                  have k0 := HCi.out.c0
                  have k1 := HCi.out.c1
                  have j1 : (0 : Int) ≤ (j : Int) := by omega
                  have j2 : (j : Int) < (Lr.length : Int) := by omega
                  have hm9 : m2 < maxLen := by
                    have := HLL.out
                    have h2 : 1000001 * q ≤ 1000001 * 1000 := Nat.mul_le_mul_left _ (by omega)
                    unfold maxLen
                    omega
                  have HTK2 := Lib.hid htk2
                  have hll9 := HLL.out
                  clear hlr hc2 htm htk2 hmm ht
                  rcases hmt : markK mk l t with _ | _
                  · rw [hmt] at hlm
                    obtain ⟨w4, hrun, ho4, hg4⟩ := OwnM.store und_mib HMi.out hm9 t (.bool true) ho2
                    rw [knG_put] at ho4
                    have hf4 : Fr (fun k => k = wr.heap.size) wi w4 := Fr.of_grown hg4 (fun b hb => .inl (by injection hb with hb; exact hb.symm))
                    have HF4 := Lib.hid hf4
                    have HO4 := Lib.hid ho4
                    have HC4 := Lib.hid (HH.out.frO HCi.out hf4 (fun k hk => by subst hk; exact HF.out.size))
                    have HMT := Lib.hid hmt
                    clear ho4 hg4 hf4 hmt
                    go_wp2_with fail
                    refine ⟨⟨j + 1, _, by omega, by go_num, ?_, HC4, Lib.hid (HO4.out.congr (fun x hx => ?_)), Lib.hid (HFi.out.trans' HF4.out)⟩, by simp [intOf]; omega⟩
                    · split <;> omega
                    · unfold knG
                      rw [HTK2.out]
                      congr 1
                      by_cases e : x = t
                      · subst e
                        simp [HMT.out]
                      · have e2 : (x == t) = false := by simpa using e
                        simp [e, e2]
                  · rw [hmt] at hlm
                    have HMT := Lib.hid hmt
                    clear hmt
                    go_wp2_with fail
                    refine ⟨⟨j + 1, m2, by omega, by go_num, by omega, HCi, Lib.hid (HMi.out.congr (fun x hx => ?_)), HFi⟩, by simp [intOf]; omega⟩
                    unfold knG
                    rw [HTK2.out]
                    congr 1
                    by_cases e : x = t
                    · subst e
                      simp [HMT.out]
                    · simp [e]
              · as_aux_lemma =>
                  obtain rfl : j = Lr.length := by omega
                  rw [List.take_length] at HMi
                  have hll9 := HLL.out
                  go_wp2_with fail
                  refine ⟨⟨q + 1, m2, by omega, by go_num, ?_, HCi, Lib.hid (HMi.out.congr (fun x hx => ?_)), Lib.hid (HFx.out.trans' HFi.out)⟩, by simp [intOf]; omega⟩
                  · have := HLL.out
                    omega
                  · unfold knG
                    rw [HTK.out]
                    have e : decide (∃ r, r ∈ List.take q l ++ [y] ∧ x ∈ rowK K r) = (decide (∃ r, r ∈ List.take q l ∧ x ∈ rowK K r) || decide (x ∈ Lr)) := by
                      rw [← HLR.out]
                      by_cases h1 : ∃ r, r ∈ List.take q l ∧ x ∈ rowK K r
                      · have h2 : ∃ r, r ∈ List.take q l ++ [y] ∧ x ∈ rowK K r := by
                          obtain ⟨r, hr, hx2⟩ := h1
                          exact ⟨r, List.mem_append_left _ hr, hx2⟩
                        rw [decide_eq_true h1, decide_eq_true h2]
                        rfl
                      · rw [decide_eq_false h1, Bool.false_or]
                        congr 1
                        refine propext ⟨fun ⟨r, hr, hx2⟩ => ?_, fun hx2 => ⟨y, by simp, hx2⟩⟩
                        rcases List.mem_append.1 hr with hr | hr
                        · exact absurd ⟨r, hr, hx2⟩ h1
                        · rw [List.mem_singleton] at hr
                          rw [← hr]
                          exact hx2
                    have e2 : nextK K (markK mk l) (List.take q l ++ [y]) x = (nextK K (markK mk l) (List.take q l) x || (decide (x ∈ Lr) && !markK mk l x)) := by
                      unfold nextK
                      rw [e]
                      exact (show ∀ a b c : Bool, ((a || b) && c) = (a && c || (b && c)) by decide) _ _ _
                    rw [e2]
        · as_aux_lemma =>
            obtain rfl : q = l.length := by omega
            rw [List.take_length] at HMx
            obtain ⟨nb, hnb⟩ : ∃ nb, nb = wr.heap.size := ⟨_, rfl⟩
            have HNB := Lib.hid hnb
            have HMX := Lib.hid (show OwnM wx nb m (knG (nextK K (markK mk l) l)) from by rw [hnb]; exact HMx.out)
            rw [← hnb]
            generalize hgg : knG (nextK K (markK mk l) l) = g at HMX
            have HGG := Lib.hid hgg
            have hnbl : nb < wx.heap.size := HMX.out.lt
            clear hgg hnb
            go_wp2_with (first | (at_range; go_loud (refine wp_range_M rfl _ 84 4 rfl und_mib nb m g rfl HMX.out ?_); intro w0 hrng hfr hsz; have HRNG := Lib.hid hrng; have HFR0 := Lib.hid hfr; have HSZ0 := Lib.hid hsz; clear hrng hfr hsz))
            go_frame
            go_loopw [14, 15] (fun v14 v15 wy => ∃ L A c, v14 = .slice A L.length c ∧ Hid (RngM wy nb wx.heap.size g L) ∧ Hid (OwnI wy (wx.heap.size + 1) (.slice A L.length c) L) ∧ Hid (Below wx.heap.size wx wy) ∧ wx.heap.size + 1 ≤ wy.heap.size) (fun _ _ wy => wy.rangeLeft nb wx.heap.size)
            case atStart => exact ⟨[], none, 0, rfl, HRNG, Lib.hid (OwnI.nil _ _), Lib.hid (HFR0.out.below (fun _ h => h.elim) (Nat.le_refl _)), by have := HSZ0.out; omega⟩
            case round =>
              rename World => wy
              obtain ⟨L, A2, c2, rfl, HR, HO, HB, hszr⟩ := hrel
              have hsnd : ∀ x, x ∈ L → Wf x ∧ nextK K (markK mk l) l x = true := fun x hx => by
                obtain ⟨_, _, _, _, _, _, _, h4, _⟩ := HR.out
                refine ⟨(h4 x hx).1, ?_⟩
                have := (h4 x hx).2
                rw [← HGG.out] at this
                unfold knG at this
                rcases hb : nextK K (markK mk l) l x with _ | _
                · rw [hb] at this; cases this
                · rfl
              have hnd : L.Nodup := by
                obtain ⟨_, _, _, _, _, _, h3, _⟩ := HR.out
                exact h3
              have hown : ∀ x, (∃ r, r ∈ l ∧ x ∈ rowK K r) → x ∈ K.map (·.ref) ∧ Wf x := fun x hx => by
                obtain ⟨r, hr, hx2⟩ := hx
                obtain ⟨j, hj, hje⟩ := idx_of (HIN.out r hr)
                rw [← hje, rowK_at HOK.out hj] at hx2
                exact ⟨HOK.out.own _ (kqN_mem hj) x hx2, (HOK.out.wf _ (kqN_mem hj)).2 x hx2⟩
              have hnx : ∀ x, nextK K (markK mk l) l x = true ↔ (∃ r, r ∈ l ∧ x ∈ rowK K r) ∧ markK mk l x = false := fun x => by
                unfold nextK
                rw [Bool.and_eq_true, decide_eq_true_eq]
                simp
              have hlen : L.length ≤ 480 := by
                have := nodup_leI hnd (m := K.map (·.ref)) (fun x hx => (hown x ((hnx x).1 (hsnd x hx).2).1).1)
                rw [List.length_map] at this
                have := HOK.out.len
                omega
              have HND := Lib.hid hnd
              have HSND := Lib.hid hsnd
              have HOWN := Lib.hid hown
              have HNX := Lib.hid hnx
              clear hsnd hnd hown hnx
              go_wp2_with (first
                | (at_next; (refine wp_next_M rfl _ rfl nb wx.heap.size g L rfl HR.out ?_ ?_; rotate_left; (intro x v w5 hwx hgx hxL hR5 hlt5 hf5 hs5 hen; have HR5 := Lib.hid hR5; have HF5 := Lib.hid hf5; have HO5 := Lib.hid (show OwnI w5 (wx.heap.size + 1) (.slice A2 L.length c2) L from hf5.row HO.out (fun k hk e => by have := (HO.out.blk k hk).1; omega)); have HLT5 := Lib.hid hlt5; have HS5 := Lib.hid hs5; have hw5 : wx.heap.size + 1 ≤ w5.heap.size := (by omega); clear hwx hgx hxL hR5 hf5 hlt5 hs5); rotate_left; (intro hd; have HD := Lib.hid hd; clear hd)))
                | (at_builtin; go_loud (refine wpList_append_int rfl _ _ rfl (wx.heap.size + 1) (.slice A2 L.length c2) L rfl HO5.out w5.heap.size rfl x rfl (by omega) (by omega) ?_; intro v6 w6 hO6 hg6 hat6; have HO6 := Lib.hid hO6; have HG6 := Lib.hid hg6; have HA6 := Lib.hid hat6; clear hO6 hg6 hat6)))
              · refine (sortI_own _ _ L _ HO.out (by omega)).mono ?_
                rintro e w6 ⟨rfl, hO6, hg6⟩
                have HO6 := Lib.hid hO6
                have HG6 := Lib.hid hg6
                clear hO6 hg6
                go_wp2_with fail
                go_ret
                have hb6 : Below wx.heap.size wx w6 := below_grown HB.out HB.out.size HG6.out (fun k hk => by have := (HO.out.blk k hk).1; omega)
                have hf6 : Fr (fun _ => False) wx w6 := Fr.of_below hb6
                have hwx : w.heap.size ≤ wx.heap.size := by have := HF.out.size; have := HFx.out.size; simp at this; omega
                refine ⟨_, srt L, rfl, HO6.out.mono (by omega), HCx.out.frO HCx.out hf6 (fun _ h => h.elim), ?_, ?_, fun x => ?_⟩
                · refine ((HF.out.trans' (((Fr.refl _ wr).alloc (.map #[] 0)).weak (S := fun _ => False) (fun _ h => h.elim))).trans HFx.out (fun k hk => .inr (by have := HF.out.size; omega))).trans' (hf6.weak (fun _ h => h.elim))
                · exact (srt_perm L).nodup_iff.2 HND.out
                · rw [(srt_perm L).mem_iff, ← HNX.out]
                  refine ⟨fun hx => (HSND.out x hx).2, fun hx => HD.out x (HOWN.out x ((HNX.out x).1 hx).1).2 ?_⟩
                  rw [← HGG.out]
                  unfold knG
                  rw [hx]
                  rfl
              · obtain ⟨A6, c6, hv6, -, -, -⟩ := own_any HO6.out
                obtain ⟨r1, r2, r3⟩ := HR5.out.lt
                have hrb := HB.out.size
                have hg6 := HG6.out
                have hne : (Value.slice A2 L.length c2).ownBlock ≠ some nb ∧ (Value.slice A2 L.length c2).ownBlock ≠ some wx.heap.size := ⟨fun e => by have := (HO.out.blk nb e).1; omega, fun e => by have := (HO.out.blk _ e).1; omega⟩
                obtain ⟨k1, k2⟩ := HR5.out.fr (Fr.of_grown (S := fun k => (Value.slice A2 L.length c2).ownBlock = some k) hg6 (fun k hk => .inl hk)) hne.1 hne.2
                have hm := HLT5.out
                have hs5 := HS5.out
                refine ⟨⟨L ++ [x], A6, c6, hv6.trans (by simp), Lib.hid k1, Lib.hid (by have := HO6.out; rw [hv6] at this; simpa using this), Lib.hid ?_, ?_⟩, ?_⟩
                · exact below_grown (HB.out.trans (HF5.out.below (fun k hk => by omega) hrb)) (by omega) hg6 (fun k hk => by have := (HO.out.blk k hk).1; omega)
                · have := hg6.size; omega
                · omega
end Go.Proofs.YthgbcgphkddmgaaGreat
namespace Go.Proofs.YthgbcgphkddmgaaGreat
open Go.RowKit Go.Maps
set_option linter.unusedVariables false
set_option linter.unusedSimpArgs false
/-- who can be reached -/
inductive Rch (K : List KqS) : Int → Prop
  | live {k : KqS} : k ∈ K → (k.root || k.awake) = true → Rch K k.ref
  | step {k : KqS} {x : Int} : k ∈ K → Rch K k.ref → x ∈ k.refs → Rch K x
structure CyInv (K : List KqS) (mk : Int → Bool) (l : List Int) : Prop where
  nod : l.Nodup
  fresh : ∀ x, x ∈ l → mk x = false
  own : ∀ x, x ∈ l → x ∈ K.map (·.ref)
  snd : ∀ x, mk x = true ∨ x ∈ l → Rch K x
  cl0 : ∀ k, k ∈ K → (k.root || k.awake) = true → mk k.ref = true ∨ k.ref ∈ l
  mo : ∀ r, mk r = true → r ∈ K.map (·.ref)
  cl : ∀ r, mk r = true → ∀ x, x ∈ rowK K r → mk x = true ∨ x ∈ l
def untK (K : List KqS) (mk : Int → Bool) : List Int := (K.map (·.ref)).filter fun x => !mk x
theorem rowK_of {K : List KqS} (ok : KqOk K) {k : KqS} (hk : k ∈ K) : rowK K k.ref = k.refs := by
  obtain ⟨j, hj, e⟩ := List.mem_iff_getElem.1 hk
  have : kqN K j = k := by
    unfold kqN
    rw [List.getD_eq_getElem?_getD, List.getElem?_eq_getElem hj, e]
    rfl
  rw [← this]
  exact rowK_at ok hj
theorem liveK_mem {K : List KqS} {x : Int} : x ∈ liveK K K.length ↔ ∃ k, k ∈ K ∧ (k.root || k.awake) = true ∧ k.ref = x := by
  unfold liveK
  rw [List.take_length, List.mem_map]
  refine exists_congr fun k => ?_
  rw [List.mem_filter, and_assoc]
theorem cyInv_start {K : List KqS} (ok : KqOk K) : CyInv K (fun _ => false) (liveK K K.length) := by
  refine ⟨?_, fun _ _ => rfl, fun x hx => ?_, fun x hx => ?_, fun k hk hr => .inr (liveK_mem.2 ⟨k, hk, hr, rfl⟩), fun r hr => (by cases hr), fun r hr => (by cases hr)⟩
  · unfold liveK
    rw [List.take_length]
    exact ok.nod.sublist (List.filter_sublist.map _)
  · obtain ⟨k, hk, _, rfl⟩ := liveK_mem.1 hx
    exact List.mem_map.2 ⟨k, hk, rfl⟩
  · rcases hx with hx | hx
    · cases hx
    · obtain ⟨k, hk, hr, rfl⟩ := liveK_mem.1 hx
      exact .live hk hr
theorem mark_iff {mk : Int → Bool} {l : List Int} {x : Int} : markK mk l x = true ↔ mk x = true ∨ x ∈ l := by
  unfold markK
  rw [Bool.or_eq_true, decide_eq_true_eq]
theorem CyInv.next {K : List KqS} (ok : KqOk K) {mk : Int → Bool} {l l' : List Int} (h : CyInv K mk l) (hn : l'.Nodup) (hm : ∀ x, x ∈ l' ↔ (∃ r, r ∈ l ∧ x ∈ rowK K r) ∧ markK mk l x = false) : CyInv K (markK mk l) l' := by
  have hrow : ∀ r, r ∈ l → ∃ k, k ∈ K ∧ k.ref = r ∧ rowK K r = k.refs := fun r hr => by
    obtain ⟨k, hk, rfl⟩ := List.mem_map.1 (h.own r hr)
    exact ⟨k, hk, rfl, rowK_of ok hk⟩
  refine ⟨hn, fun x hx => ((hm x).1 hx).2, fun x hx => ?_, fun x hx => ?_, fun k hk hr => .inl (mark_iff.2 (h.cl0 k hk hr)), fun r hr => ?_, fun r hr x hx => ?_⟩
  · obtain ⟨⟨r, hr, hx2⟩, _⟩ := (hm x).1 hx
    obtain ⟨k, hk, rfl, e⟩ := hrow r hr
    rw [e] at hx2
    exact ok.own k hk x hx2
  · rcases hx with hx | hx
    · exact h.snd x (mark_iff.1 hx)
    · obtain ⟨⟨r, hr, hx2⟩, _⟩ := (hm x).1 hx
      obtain ⟨k, hk, rfl, e⟩ := hrow r hr
      rw [e] at hx2
      exact .step hk (h.snd _ (.inr hr)) hx2
  · rcases mark_iff.1 hr with hr | hr
    · exact h.mo r hr
    · exact h.own r hr
  · rcases hb : markK mk l x with _ | _
    · right
      rcases mark_iff.1 hr with hr2 | hr2
      · rcases h.cl r hr2 x hx with e | e
        · have := (mark_iff (l := l)).2 (.inl e)
          rw [hb] at this
          cases this
        · have := (mark_iff (mk := mk)).2 (.inr e)
          rw [hb] at this
          cases this
      · exact (hm x).2 ⟨⟨r, hr2, hx⟩, hb⟩
    · exact .inl rfl
theorem CyInv.done {K : List KqS} (ok : KqOk K) {mk : Int → Bool} (h : CyInv K mk []) {x : Int} : mk x = true ↔ Rch K x := by
  refine ⟨fun hx => h.snd x (.inl hx), fun hx => ?_⟩
  induction hx with
  | live hk hr =>
    rcases h.cl0 _ hk hr with e | e
    · exact e
    · cases e
  | step hk _ hx ih =>
    rcases h.cl _ ih _ (by rw [rowK_of ok hk]; exact hx) with e | e
    · exact e
    · cases e
theorem CyInv.cnt {K : List KqS} {mk : Int → Bool} {l : List Int} (h : CyInv K mk l) (ok : KqOk K) : (untK K (markK mk l)).length + l.length ≤ (untK K mk).length := by
  rw [← List.length_append]
  refine nodup_leI ?_ (fun x hx => ?_)
  · rw [List.nodup_append]
    refine ⟨ok.nod.sublist List.filter_sublist, h.nod, fun a ha b hb e => ?_⟩
    subst e
    have h1 := (List.mem_filter.1 ha).2
    rw [mark_iff.2 (.inr hb)] at h1
    cases h1
  · unfold untK at hx ⊢
    rcases List.mem_append.1 hx with hx | hx
    · obtain ⟨h1, h2⟩ := List.mem_filter.1 hx
      refine List.mem_filter.2 ⟨h1, ?_⟩
      rcases hb : mk x with _ | _
      · rfl
      · rw [mark_iff.2 (.inl hb)] at h2
        cases h2
    · exact List.mem_filter.2 ⟨h.own x hx, by rw [h.fresh x hx]; rfl⟩
theorem untK_le {K : List KqS} {mk : Int → Bool} : (untK K mk).length ≤ K.length := by
  unfold untK
  exact Nat.le_trans (List.length_filter_le _ _) (by rw [List.length_map]; exact Nat.le_refl _)
theorem CyInv.len {K : List KqS} {mk : Int → Bool} {l : List Int} (h : CyInv K mk l) (ok : KqOk K) : l.length ≤ 480 := by
  have := h.cnt ok
  have := untK_le (K := K) (mk := mk)
  have := ok.len
  omega
/-- what the marks in the map say -/
noncomputable def mkOf (w : World) (b : Nat) (x : Int) : Bool := @decide ((Instr.lookup 84 (.map (some b)) (.int .i64 x) false).run Tryz.prog w = .ok (.bool true) w) (Classical.propDecidable _)
theorem mkOf_at {w : World} {b n : Nat} {p : Int → Bool} (h : OwnM w b n (knG p)) {x : Int} (hx : Wf x) : mkOf w b x = p x := by
  unfold mkOf
  rw [look_mib h hx]
  rcases hp : p x with _ | _
  · refine @decide_eq_false _ (Classical.propDecidable _) (fun e => ?_)
    injection e with e
    injection e with e
    cases e
  · exact @decide_eq_true _ (Classical.propDecidable _) rfl
noncomputable def untW (w : World) (s : Nat) (K : List KqS) : Nat := (untK K (mkOf w (s + 1))).length
theorem untW_at {w : World} {s nm : Nat} {K : List KqS} {Vf : Int → Value} {mk : Int → Bool} (ok : KqOk K) (h : CyAt w s K Vf mk nm) : untW w s K = (untK K mk).length := by
  obtain ⟨n, _, hm⟩ := h.mm
  unfold untW untK
  congr 1
  refine List.filter_congr (fun x hx => ?_)
  obtain ⟨k, hk, rfl⟩ := List.mem_map.1 hx
  rw [mkOf_at hm (ok.wf k hk).1]
end Go.Proofs.YthgbcgphkddmgaaGreat
namespace Go.Proofs.YthgbcgphkddmgaaGreat
open Go.RowKit
set_option linter.unusedVariables false
set_option linter.unusedSimpArgs false
/-- records of the actors i < m for which In i: R i its reference, T i whom it knows -/
structure KqSpec (K : List KqS) (m : Nat) (R : Nat → Int) (T : Nat → List Nat) (A0 In : Nat → Bool) : Prop where
  inj : ∀ i j, i < m → j < m → R i = R j → i = j
  tm : ∀ i, i < m → ∀ t, t ∈ T i → t < m
  mem : ∀ k, k ∈ K → ∃ i, i < m ∧ In i = true ∧ k.ref = R i ∧ k.root = A0 i ∧ k.awake = false ∧ ∀ x, x ∈ k.refs ↔ (∃ t, t ∈ T i ∧ x = R t) ∧ x ≠ R i
  all : ∀ i, i < m → In i = true → ∃ k, k ∈ K ∧ k.ref = R i
theorem KqSpec.at {K : List KqS} {m : Nat} {R : Nat → Int} {T : Nat → List Nat} {A0 In : Nat → Bool} (h : KqSpec K m R T A0 In) {i : Nat} (hi : i < m) (hin : In i = true) : ∃ k, k ∈ K ∧ k.ref = R i ∧ k.root = A0 i ∧ k.awake = false ∧ ∀ x, x ∈ k.refs ↔ (∃ t, t ∈ T i ∧ x = R t) ∧ x ≠ R i := by
  obtain ⟨k, hk, e⟩ := h.all i hi hin
  obtain ⟨j, hj, _, e2, r⟩ := h.mem k hk
  obtain rfl : j = i := h.inj j i hj hi (e2.symm.trans e)
  exact ⟨k, hk, e2, r⟩
theorem KqSpec.rch {K : List KqS} {m : Nat} {R : Nat → Int} {T : Nat → List Nat} {A0 In : Nat → Bool} (h : KqSpec K m R T A0 In) (hA : ∀ i, i < m → Tg.itA T m m A0 i = true → In i = true) {i : Nat} (hi : i < m) (ha : Tg.itA T m m A0 i = true) : Rch K (R i) := by
  have hcl := Tg.it_clo (A := A0) (T := T) (m := m) h.tm
  have key := Tg.it_sub (T := T) (m := m) (A := A0) (S := fun j => j < m → Tg.itA T m m A0 j = true ∧ Rch K (R j)) (fun i hi hs t ht htm => by
    obtain ⟨h1, h2⟩ := hs hi
    refine ⟨hcl i hi h1 t ht, ?_⟩
    obtain ⟨k, hk, e, _, _, hr⟩ := h.at hi (hA i hi h1)
    by_cases e2 : R t = R i
    · rw [e2]; exact h2
    · exact .step hk (e ▸ h2) ((hr _).2 ⟨⟨t, ht, rfl⟩, e2⟩)) (fun j hj hjm => by
    have h1 := Tg.it_mono (T := T) (m := m) hj m
    refine ⟨h1, ?_⟩
    obtain ⟨k, hk, e, hr, _⟩ := h.at hjm (hA j hjm h1)
    have := Rch.live hk (by rw [hr, hj]; rfl)
    rw [e] at this
    exact this) m i ha
  exact (key hi).2
theorem KqSpec.alive {K : List KqS} {m : Nat} {R : Nat → Int} {T : Nat → List Nat} {A0 In : Nat → Bool} (h : KqSpec K m R T A0 In) {x : Int} (hx : Rch K x) : ∃ i, i < m ∧ x = R i ∧ Tg.itA T m m A0 i = true := by
  have hcl := Tg.it_clo (A := A0) (T := T) (m := m) h.tm
  induction hx with
  | live hk hr =>
    obtain ⟨i, hi, _, e, e2, e3, _⟩ := h.mem _ hk
    refine ⟨i, hi, e, Tg.it_mono ?_ m⟩
    rw [e2, e3] at hr
    simpa using hr
  | step hk _ hx ih =>
    obtain ⟨i, hi, _, e, e2, e3, hm⟩ := h.mem _ hk
    obtain ⟨j, hj, e4, ha⟩ := ih
    obtain rfl : i = j := h.inj i j hi hj (e.symm.trans e4)
    obtain ⟨⟨t, ht, rfl⟩, _⟩ := (hm _).1 hx
    exact ⟨t, h.tm i hi t ht, rfl, hcl i hi ha t ht⟩
theorem KqSpec.iff {K : List KqS} {m : Nat} {R : Nat → Int} {T : Nat → List Nat} {A0 In : Nat → Bool} (h : KqSpec K m R T A0 In) (hA : ∀ i, i < m → Tg.itA T m m A0 i = true → In i = true) {i : Nat} (hi : i < m) : Rch K (R i) ↔ Tg.itA T m m A0 i = true := by
  refine ⟨fun hx => ?_, h.rch hA hi⟩
  obtain ⟨j, hj, e, ha⟩ := h.alive hx
  obtain rfl : i = j := h.inj i j hi hj e
  exact ha
end Go.Proofs.YthgbcgphkddmgaaGreat
namespace Go.Proofs.YthgbcgphkddmgaaGreat
open Go.RowKit
set_option linter.unusedVariables false
set_option linter.unusedSimpArgs false
structure SkS where
  ref : Int
  st : List (Int × Int)
  w : Bool
/-- a sink that has had no turn, or that waits -/
def skA (s : SkS) : ActS :=
  if s.w then ⟨s.ref, ⟨sinkS, ⟨false, s.st, 0, true, false, 0⟩, 7, -1⟩, [], 0, true, -1, stKn s.st⟩
  else ⟨s.ref, ⟨sinkS, ⟨false, s.st, 0, false, false, 0⟩, 0, 0⟩, [], 0, false, 0, stKn s.st⟩
theorem skA_ref (s : SkS) : (skA s).ref = s.ref := by unfold skA; split <;> rfl
theorem skA_box (s : SkS) : (skA s).box = [] := by unfold skA; split <;> rfl
theorem skA_kn (s : SkS) : (skA s).knows = stKn s.st := by unfold skA; split <;> rfl
theorem skA_can (s : SkS) : canA (skA s) = !s.w := by
  unfold skA canA
  rcases hw : s.w with _ | _ <;> simp
theorem skA_aw (s : SkS) : awakeA (skA s) = !s.w := by
  unfold awakeA
  rw [skA_can, skA_box]
  unfold skA
  rcases hw : s.w with _ | _ <;> simp
def wkS (L : List SkS) (r : Int) : List SkS := L.map fun x => if x.ref == r then { x with w := true } else x
theorem wkS_len (L : List SkS) (r : Int) : (wkS L r).length = L.length := by unfold wkS; simp
theorem wkS_refs (L : List SkS) (r : Int) : (wkS L r).map (·.ref) = L.map (·.ref) := by
  unfold wkS
  rw [List.map_map]
  refine List.map_congr_left (fun x _ => ?_)
  show (if x.ref == r then { x with w := true } else x : SkS).ref = x.ref
  split <;> rfl
theorem wkS_rs (L : List SkS) (r : Int) : (wkS L r).map (fun s => (s.ref, s.st)) = L.map (fun s => (s.ref, s.st)) := by
  unfold wkS
  rw [List.map_map]
  refine List.map_congr_left (fun x _ => ?_)
  show ((if x.ref == r then { x with w := true } else x : SkS).ref, (if x.ref == r then { x with w := true } else x : SkS).st) = (x.ref, x.st)
  split <;> rfl
/-- a node of sinks -/
structure SkN (N : NdS) (L : List SkS) : Prop where
  acts : N.acts = L.map skA
  fuel : 1 ≤ N.fuel
  out : N.out = []
  quiet : ∀ r, r ∈ N.rows → r.ws = [] ∧ r.ls = []
  srt : L.Pairwise fun a b => a.ref < b.ref
theorem SkN.asrt {N : NdS} {L : List SkS} (h : SkN N L) : N.acts.Pairwise fun a b => a.ref < b.ref := by
  rw [h.acts]
  refine List.pairwise_map.2 (h.srt.imp ?_)
  intro a b hab
  rw [skA_ref, skA_ref]
  exact hab
theorem SkN.refs {N : NdS} {L : List SkS} (h : SkN N L) : refsN N = L.map (·.ref) := by
  unfold refsN
  rw [h.acts, List.map_map]
  exact List.map_congr_left (fun x _ => skA_ref x)
theorem srt_inj {L : List SkS} (h : L.Pairwise fun a b => a.ref < b.ref) : ∀ {x y : SkS}, x ∈ L → y ∈ L → x.ref = y.ref → x = y := by
  induction L with
  | nil => intro x y hx; cases hx
  | cons a L ih =>
    intro x y hx hy e
    have h1 := List.pairwise_cons.1 h
    rcases List.mem_cons.1 hx with rfl | hx2
    · rcases List.mem_cons.1 hy with rfl | hy2
      · rfl
      · have := h1.1 y hy2; omega
    · rcases List.mem_cons.1 hy with rfl | hy2
      · have := h1.1 x hx2; omega
      · exact ih h1.2 hx2 hy2 e
theorem SkN.find {N : NdS} {L : List SkS} (h : SkN N L) {s : SkS} (hs : s ∈ L) : N.find s.ref = some (skA s) := by
  have := find_of_mem h.asrt (a := skA s) (by rw [h.acts]; exact List.mem_map.2 ⟨s, hs, rfl⟩)
  rw [skA_ref] at this
  exact this
theorem SkN.ready {N : NdS} {L : List SkS} (h : SkN N L) : readyN N = (L.filter fun s => !s.w).map (·.ref) := by
  unfold readyN
  rw [h.acts]
  clear h
  induction L with
  | nil => rfl
  | cons a L ih =>
    rw [List.map_cons, List.filter_cons, List.filter_cons, skA_can]
    rcases a.w with _ | _
    · simp only [Bool.not_false, if_true, List.map_cons, skA_ref, ih]
    · simp only [Bool.not_true, Bool.false_eq_true, if_false, ih]
/-- what becomes of the sink that has a turn -/
theorem setA_sk {N : NdS} {L : List SkS} (h : N.acts = L.map skA) (hs : L.Pairwise fun a b => a.ref < b.ref) {s : SkS} (hm : s ∈ L) : (N.setA (skA { s with w := true })).acts = (wkS L s.ref).map skA := by
  show N.acts.map _ = _
  rw [h]
  unfold wkS
  rw [List.map_map, List.map_map]
  refine List.map_congr_left (fun x hx => ?_)
  show (if (skA x).ref == (skA { s with w := true }).ref then skA { s with w := true } else skA x) = skA (if x.ref == s.ref then { x with w := true } else x)
  rw [skA_ref, skA_ref]
  by_cases e : x.ref = s.ref
  · obtain rfl := srt_inj hs hx hm e
    rw [if_pos (by simp), if_pos (by simp)]
  · have e2 : (x.ref == s.ref) = false := by simpa using e
    rw [e2, if_neg (by simp), if_neg (by simp)]
theorem sk_setA2 {N : NdS} {a b : ActS} (h : a.ref = b.ref) : (N.setA a).setA b = N.setA b := by
  unfold NdS.setA
  congr 1
  rw [List.map_map]
  refine List.map_congr_left (fun x _ => ?_)
  show (if (if x.ref == a.ref then a else x).ref == b.ref then b else (if x.ref == a.ref then a else x)) = _
  rcases e : x.ref == a.ref with _ | _
  · rfl
  · have e1 : x.ref = a.ref := by simpa using e
    have e2 : (a.ref == b.ref) = true := by rw [h]; simp
    have e3 : (x.ref == b.ref) = true := by rw [e1]; exact e2
    simp only [if_true, e2, e3]
theorem sk_setAself {N : NdS} {a : ActS} (hs : N.acts.Pairwise fun a b => a.ref < b.ref) (hm : a ∈ N.acts) : N.setA a = N := by
  unfold NdS.setA
  have : (N.acts.map fun b => if b.ref == a.ref then a else b) = N.acts := by
    conv => rhs; rw [← List.map_id N.acts]
    refine List.map_congr_left (fun x hx => ?_)
    by_cases e : x.ref = a.ref
    · rw [if_pos (by simpa using e)]
      have h1 := find_of_mem hs hx
      have h2 := find_of_mem hs hm
      rw [e, h2] at h1
      injection h1
    · rw [if_neg (by simpa using e)]
      rfl
  rw [this]
theorem SkN.set {N : NdS} {L : List SkS} (h : SkN N L) {s : SkS} (hm : s ∈ L) : SkN (N.setA (skA { s with w := true })) (wkS L s.ref) :=
  ⟨setA_sk h.acts h.srt hm, h.fuel, h.out, h.quiet, by
    unfold wkS
    refine List.pairwise_map.2 (h.srt.imp ?_)
    intro a b hab
    have e1 : (if a.ref == s.ref then { a with w := true } else a : SkS).ref = a.ref := by split <;> rfl
    have e2 : (if b.ref == s.ref then { b with w := true } else b : SkS).ref = b.ref := by split <;> rfl
    rw [e1, e2]
    exact hab⟩
theorem sk_step1 {N : NdS} {L : List SkS} (h : SkN N L) {s : SkS} (hm : s ∈ L) (hw : s.w = false) : stepN N s.ref = (N.setA (skA { s with w := true }), true) := by
  have hf := h.find hm
  have ha : skA s = ⟨s.ref, ⟨sinkS, ⟨false, s.st, 0, false, false, 0⟩, 0, 0⟩, [], 0, false, 0, stKn s.st⟩ := by unfold skA; rw [if_neg (by rw [hw]; simp)]
  have hb : skA { s with w := true } = ⟨s.ref, ⟨sinkS, ⟨false, s.st, 0, true, false, 0⟩, 7, -1⟩, [], 0, true, -1, stKn s.st⟩ := by unfold skA; rw [if_pos rfl]
  have hr : runR N.fuel ⟨false, s.st, 0, false, false, 0⟩ = (⟨false, s.st, 0, true, false, 0⟩, outO 7 (-1)) := by
    unfold runR
    rw [if_neg (by have := h.fuel; omega)]
    rfl
  have hrd : runD N.fuel ⟨sinkS, ⟨false, s.st, 0, false, false, 0⟩, 0, 0⟩ = (⟨sinkS, ⟨false, s.st, 0, true, false, 0⟩, 7, -1⟩, outO 7 (-1)) := by
    unfold runD
    rw [hr]
    rfl
  unfold stepN
  rw [hf, ha]
  dsimp only
  have e0 : (N.setA ⟨s.ref, ⟨sinkS, ⟨false, s.st, 0, false, false, 0⟩, 0, 0⟩, [], 0, false, 0, stKn s.st⟩).fuel = N.fuel := rfl
  simp only [Bool.false_eq_true, if_false, Bool.not_true, hrd]
  rw [hb]
  have ew : waitA ⟨s.ref, ⟨sinkS, ⟨false, s.st, 0, true, false, 0⟩, 7, -1⟩, [], 0, false, 0, stKn s.st⟩ (-1) = ⟨s.ref, ⟨sinkS, ⟨false, s.st, 0, true, false, 0⟩, 7, -1⟩, [], 0, true, -1, stKn s.st⟩ := rfl
  have eo : (outO 7 (-1)).kind = 7 ∧ (outO 7 (-1)).num = -1 := ⟨rfl, rfl⟩
  rw [eo.1, eo.2, ew]
  rw [if_neg (by decide), if_neg (by decide), if_neg (by decide), if_neg (by decide), if_neg (by decide), if_pos rfl]
  rw [sk_setA2 (by rfl), sk_setA2 (by rfl)]
theorem sk_step2 {N : NdS} {L : List SkS} (h : SkN N L) {s : SkS} (hm : s ∈ L) (hw : s.w = true) : stepN N s.ref = (N, false) := by
  have hf := h.find hm
  have ha : skA s = ⟨s.ref, ⟨sinkS, ⟨false, s.st, 0, true, false, 0⟩, 7, -1⟩, [], 0, true, -1, stKn s.st⟩ := by unfold skA; rw [if_pos hw]
  have hwk : wakeA (skA s) = (skA s, false) := by rw [ha]; rfl
  unfold stepN
  rw [hf]
  dsimp only
  have e1 : (skA s).waits = true := by rw [ha]
  rw [e1, if_pos rfl, hwk]
  dsimp only
  rw [sk_setAself h.asrt (by rw [h.acts]; exact List.mem_map.2 ⟨s, hm, rfl⟩)]
  rfl
theorem wkS_mem {L : List SkS} {s : SkS} (hm : s ∈ L) : ({ s with w := true } : SkS) ∈ wkS L s.ref := by
  unfold wkS
  exact List.mem_map.2 ⟨s, hm, by rw [if_pos (by simp)]⟩
/-- a turn -/
theorem SkN.turn {N : NdS} {L : List SkS} (h : SkN N L) :
    ((turnN N).2.2 = 4 ∧ (turnN N).1 = N ∧ ∀ s, s ∈ L → s.w = true) ∨
    ((turnN N).2.2 = 0 ∧ ∃ s, s ∈ L ∧ s.w = false ∧ SkN (turnN N).1 (wkS L s.ref) ∧ (turnN N).1.id = N.id ∧ (turnN N).1.spawned = N.spawned) := by
  by_cases h0 : readyN N = []
  · left
    have : turnN N = (N, 0, 4) := by unfold turnN; rw [if_pos h0]
    rw [this]
    refine ⟨rfl, rfl, fun s hs => ?_⟩
    rcases hw : s.w with _ | _
    · have : s.ref ∈ readyN N := by
        rw [h.ready]
        exact List.mem_map.2 ⟨s, List.mem_filter.2 ⟨hs, by rw [hw]; rfl⟩, rfl⟩
      rw [h0] at this
      cases this
    · rfl
  · right
    have hr := nextI_mem h0 N.last
    rw [h.ready] at hr
    obtain ⟨s, hs, he⟩ := List.mem_map.1 hr
    obtain ⟨hs, hw⟩ := List.mem_filter.1 hs
    have hw : s.w = false := by simpa using hw
    rw [← h.ready] at he
    have ht : turnN N = (loopN N.fuel { N with last := s.ref } s.ref, s.ref, 0) := by unfold turnN; rw [if_neg h0, ← he]
    have h1 : SkN { N with last := s.ref } L := ⟨h.acts, h.fuel, h.out, h.quiet, h.srt⟩
    have h2 := h1.set hs
    have hl : loopN N.fuel { N with last := s.ref } s.ref = ({ N with last := s.ref } : NdS).setA (skA { s with w := true }) := by
      obtain ⟨k, hk⟩ : ∃ k, N.fuel = k + 1 := ⟨N.fuel - 1, by have := h.fuel; omega⟩
      have hl1 : ∀ (f : Nat) (M : NdS), f = k + 1 → loopN f M s.ref = if M.has s.ref then (if (stepN M s.ref).2 then loopN k (stepN M s.ref).1 s.ref else (stepN M s.ref).1) else M := fun f M e => by subst e; rfl
      have hh : ({ N with last := s.ref } : NdS).has s.ref = true := by unfold NdS.has; rw [h1.find hs]; rfl
      rw [hl1 _ _ hk, if_pos hh, sk_step1 h1 hs hw, if_pos rfl]
      clear hl1 hk
      dsimp only
      rcases k with _ | k
      · rfl
      · have hm2 := wkS_mem hs
        have hh2 : (({ N with last := s.ref } : NdS).setA (skA { s with w := true })).has s.ref = true := by
          unfold NdS.has
          have := h2.find hm2
          rw [show ({ s with w := true } : SkS).ref = s.ref from rfl] at this
          rw [this]
          rfl
        have h3 := sk_step2 h2 hm2 rfl
        rw [show ({ s with w := true } : SkS).ref = s.ref from rfl] at h3
        unfold loopN
        rw [if_pos hh2, h3]
        rfl
    rw [ht, hl]
    exact ⟨rfl, s, hs, hw, h2, rfl, rfl⟩
/-- how many have had no turn -/
def frS : List SkS → Nat
  | [] => 0
  | s :: L => frS L + if s.w then 0 else 1
theorem frS_len : ∀ L : List SkS, frS L ≤ L.length
  | [] => Nat.le_refl _
  | s :: L => by
    have := frS_len L
    unfold frS
    rw [List.length_cons]
    split <;> omega
theorem frS_zero : ∀ {L : List SkS}, frS L = 0 → ∀ s, s ∈ L → s.w = true
  | [], _, s, hs => by cases hs
  | a :: L, h, s, hs => by
    unfold frS at h
    rcases List.mem_cons.1 hs with rfl | hs
    · rcases hw : s.w with _ | _
      · rw [hw] at h
        simp at h
      · rfl
    · exact frS_zero (by omega) s hs
theorem frS_of : ∀ {L : List SkS}, (∀ s, s ∈ L → s.w = true) → frS L = 0
  | [], _ => rfl
  | a :: L, h => by
    unfold frS
    rw [frS_of (fun s hs => h s (by simp [hs])), h a (by simp)]
    rfl
theorem frS_mono (r : Int) : ∀ L : List SkS, frS (wkS L r) ≤ frS L
  | [] => Nat.le_refl _
  | a :: L => by
    have := frS_mono r L
    show frS ((if a.ref == r then { a with w := true } else a) :: wkS L r) ≤ _
    rcases hb : a.ref == r with _ | _
    · show frS (a :: wkS L r) ≤ _
      unfold frS
      omega
    · show frS ({ a with w := true } :: wkS L r) ≤ _
      unfold frS
      simp only [if_true]
      omega
theorem frS_wk {s : SkS} (hw : s.w = false) : ∀ {L : List SkS}, s ∈ L → frS (wkS L s.ref) + 1 ≤ frS L
  | [], hm => by cases hm
  | a :: L, hm => by
    show frS ((if a.ref == s.ref then { a with w := true } else a) :: wkS L s.ref) + 1 ≤ _
    rcases List.mem_cons.1 hm with rfl | hm2
    · have := frS_mono s.ref L
      have e : (if s.ref == s.ref then { s with w := true } else s : SkS) = { s with w := true } := by rw [if_pos (by simp)]
      rw [e]
      unfold frS
      rw [hw]
      simp
      omega
    · have := frS_wk hw hm2
      rcases hb : a.ref == s.ref with _ | _
      · show frS (a :: wkS L s.ref) + 1 ≤ _
        unfold frS
        omega
      · show frS ({ a with w := true } :: wkS L s.ref) + 1 ≤ _
        unfold frS
        simp only [if_true]
        omega
/-- a sink more -/
theorem insA_last (a : ActS) : ∀ (l : List ActS), (∀ b, b ∈ l → b.ref < a.ref) → insA a l = l ++ [a]
  | [], _ => rfl
  | b :: l, h => by
    have h1 := h b (by simp)
    unfold insA
    rw [if_neg (by omega), insA_last a l (fun c hc => h c (by simp [hc]))]
    rfl
theorem addR_quiet {rows : List Li.LR} (h : ∀ r, r ∈ rows → r.ws = [] ∧ r.ls = []) (ref : Int) : ∀ r, r ∈ addR rows ref → r.ws = [] ∧ r.ls = [] := by
  intro r hr
  unfold addR at hr
  split at hr
  · exact h r hr
  · rcases mem_addL.1 hr with e | hr
    · subst e; exact ⟨rfl, rfl⟩
    · exact h r hr
theorem SkN.spawn {N : NdS} {L : List SkS} (h : SkN N L) (st : List (Int × Int)) (hb : ∀ s, s ∈ L → s.ref < N.id * 1000 + N.spawned + 1) (hlen : L.length < 60) (hsp : N.spawned < 999) :
    N.has (N.id * 1000 + N.spawned + 1) = false ∧ SkN (spawnN N sinkS st).1 (L ++ [⟨N.id * 1000 + N.spawned + 1, st, false⟩]) ∧ (spawnN N sinkS st).1.id = N.id ∧ (spawnN N sinkS st).1.spawned = N.spawned + 1 ∧ (spawnN N sinkS st).1.fuel = N.fuel := by
  have hhas : N.has (N.id * 1000 + N.spawned + 1) = false := by
    rcases hh : N.has (N.id * 1000 + N.spawned + 1) with _ | _
    · rfl
    · obtain ⟨a, ha, he⟩ := has_iff.1 hh
      rw [h.acts] at ha
      obtain ⟨s, hs, rfl⟩ := List.mem_map.1 ha
      rw [skA_ref] at he
      have := hb s hs
      omega
  have hmk : makeN sinkS st = some ⟨false, st, 0, false, false, 0⟩ := by unfold makeN; rw [if_pos rfl]
  have hl : N.acts.length = L.length := by rw [h.acts]; simp
  have hsn : spawnN N sinkS st = ({ N with acts := insA ⟨N.id * 1000 + N.spawned + 1, newD sinkS ⟨false, st, 0, false, false, 0⟩, [], 0, false, 0, stKn st⟩ N.acts, rows := addR N.rows (N.id * 1000 + N.spawned + 1), spawned := N.spawned + 1 }, N.id * 1000 + N.spawned + 1, 0) := by
    unfold spawnN
    rw [hmk]
    dsimp only
    rw [hhas]
    rw [if_neg (by simp), if_neg (by omega)]
  rw [hsn]
  refine ⟨hhas, ⟨?_, h.fuel, h.out, addR_quiet h.quiet _, ?_⟩, rfl, rfl, rfl⟩
  · show insA _ N.acts = _
    rw [insA_last _ _ (fun b hb2 => ?_), h.acts, List.map_append]
    · rfl
    · rw [h.acts] at hb2
      obtain ⟨s, hs, rfl⟩ := List.mem_map.1 hb2
      rw [skA_ref]
      exact hb s hs
  · rw [List.pairwise_append]
    refine ⟨h.srt, List.pairwise_singleton _ _, fun a ha b hb2 => ?_⟩
    rw [List.mem_singleton] at hb2
    subst hb2
    exact hb a ha
/-- one less -/
theorem SkN.drop {N : NdS} {L : List SkS} (h : SkN N L) (r : Int) : SkN (dropN N r) (L.filter fun s => !(s.ref == r)) ∧ (dropN N r).id = N.id := by
  unfold dropN
  rcases hh : N.has r with _ | _
  · rw [if_neg (by simp)]
    have : (L.filter fun s => !(s.ref == r)) = L := by
      refine List.filter_eq_self.2 (fun s hs => ?_)
      rcases he : s.ref == r with _ | _
      · rfl
      · have : N.has r = true := has_iff.2 ⟨skA s, by rw [h.acts]; exact List.mem_map.2 ⟨s, hs, rfl⟩, by rw [skA_ref]; simpa using he⟩
        rw [hh] at this
        cases this
    rw [this]
    exact ⟨h, rfl⟩
  · rw [if_pos rfl]
    refine ⟨⟨?_, h.fuel, h.out, fun x hx => h.quiet x (List.mem_filter.1 hx).1, h.srt.sublist (List.filter_sublist)⟩, rfl⟩
    show N.acts.filter _ = _
    rw [h.acts, List.filter_map]
    congr 1
    refine List.filter_congr (fun s _ => ?_)
    show (!((skA s).ref == r)) = _
    rw [skA_ref]
/-- what is known of a sink -/
theorem SkN.knows {N : NdS} {L : List SkS} (h : SkN N L) {s : SkS} {k : KnS} (hk : KnOk N (skA s) k) : k.ref = s.ref ∧ k.awake = (!s.w) ∧ ∀ x, Wf x → (x ∈ k.refs ↔ stKn s.st x = true ∧ x ≠ 0 ∧ x ≠ s.ref) := by
  refine ⟨by rw [hk.ref, skA_ref], by rw [hk.awake, skA_aw], fun x hx => ?_⟩
  rw [hk.mem x hx, skA_ref]
  have hrow : (rowD N.rows s.ref).ws ++ (rowD N.rows s.ref).ls = [] := by
    unfold rowD
    rcases hr : rowL N.rows s.ref with _ | r
    · rfl
    · have hm : r ∈ N.rows := by
        unfold rowL at hr
        exact List.mem_of_find?_eq_some hr
      obtain ⟨e1, e2⟩ := h.quiet r hm
      show r.ws ++ r.ls = []
      rw [e1, e2]
      rfl
  have : knowB N (skA s) x = stKn s.st x := by
    unfold knowB
    rw [skA_kn, skA_box, skA_ref, hrow]
    show (stKn s.st x || anyOf _ 0 || decide (x ∈ ([] : List Int))) = _
    rw [anyOf_nil]
    simp
  rw [this]
end Go.Proofs.YthgbcgphkddmgaaGreat
