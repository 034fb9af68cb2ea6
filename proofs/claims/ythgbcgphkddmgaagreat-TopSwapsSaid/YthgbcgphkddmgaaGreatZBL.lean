/- A cluster with live lines: fill. -/
import Derived.Test.YthgbcgphkddmgaaGreatZBK
import Derived.Deep.CutBlock
import Derived.Deep.LoopGhost
namespace Go.Proofs.YthgbcgphkddmgaaGreat
open Go.RowKit Go.Maps
set_option linter.unusedVariables false
set_option linter.unusedSimpArgs false
theorem infoFl : (Tryz.prog.info? 154).map (fun i => (i.zero, i.size, i.bytes)) = some (some (.agg #[.int .i64 0, .int .i64 0, .int .i64 0, .int .i64 0, .string ⟨#[]⟩, .int .i64 0, .int .i64 0, .string ⟨#[]⟩, .slice none 0 0]), 9, 104) := by kernel_rfl
theorem infoFt : (Tryz.prog.info? 126).map (fun i => (i.zero, i.size, i.bytes)) = some (some (.agg #[.int .i64 0, .int .i64 0, .int .u32 0, .int .u32 0, .bool false, .int .i64 0, .slice none 0 0]), 7, 64) := by kernel_rfl
/-- somewhere in a fill: from a world w1 where all was as in C -/
def GcAt (w : World) (X Mc : Nat → Prop) (base T : Nat) (bl : CBk → Nat) (pn : Nat → Nat) (C : GcS) : Prop := ∃ rv Bd M Pn, GcG w X Mc base T bl pn rv Bd M Pn C
def pourS (i k : Nat) (C : GcS) : GcS :=
  let r := pourL (C.en i k) (C.wt i k) (C.tr i k)
  { C with en := upd2 C.en i k r.1, wt := upd2 C.wt i k r.2.1, tr := upd2 C.tr i k r.2.2 }
section
variable {w w' : World} {X X' Mc D : Nat → Prop} {base T T' : Nat} {bl : CBk → Nat} {pn : Nat → Nat} {rv rv' : RBk → Value} {Bd Bd' : Nat → Prop} {M : Nat → Nat → Prop} {Pn : Nat → Int → Nat} {C C' : GcS}
theorem upd2_eq {α : Type} (f : Nat → Nat → α) (i k : Nat) : upd2 f i k (f i k) = f := by
  funext x y
  unfold upd2
  split
  · rename_i e; rw [e.1, e.2]
  · rfl
theorem upd2_twice {α : Type} (f : Nat → Nat → α) (i k : Nat) (u v : α) : upd2 (upd2 f i k u) i k v = upd2 f i k v := by
  funext x y
  unfold upd2
  split <;> rfl
theorem pourS_done {i k : Nat} (h : pourL (C.en i k) (C.wt i k) (C.tr i k) = (C.en i k, C.wt i k, C.tr i k)) : pourS i k C = C := by
  unfold pourS
  rw [h]
  simp only [upd2_eq]
theorem pourS_step {i k : Nat} {x : FL} {l : List FL} (hw : C.wt i k = x :: l) (h8 : ¬ (C.en i k).out.length = 8) : pourS i k { C with en := upd2 C.en i k (eoAdd (C.en i k) x), wt := upd2 C.wt i k l, tr := upd2 C.tr i k (C.tr i k ++ [x]) } = pourS i k C := by
  unfold pourS
  simp only [upd2_self, upd2_twice, hw]
  rw [show pourL (C.en i k) (x :: l) (C.tr i k) = pourL (eoAdd (C.en i k) x) l (C.tr i k ++ [x]) by
    show (if (C.en i k).out.length = 8 then _ else _) = _
    rw [if_neg h8]]
def FillPost (w : World) (X Mc : Nat → Prop) (base T : Nat) (bl : CBk → Nat) (pn : Nat → Nat) (C : GcS) (i k : Nat) (e : Ending) (w' : World) : Prop :=
  e = .returned (.tuple #[]) ∧ ∃ X' Mc', Gr X Mc w X' Mc' w' ∧ GcAt w' X' Mc' base T bl pn (fillS i k C)
set_option maxRecDepth 100000 in
set_option maxHeartbeats 4000000 in
theorem fill_any (h : GcG w X Mc base T bl pn rv Bd M Pn C) {i k : Nat} (hi : i < C.n) (hk : k < C.n) (hne : i ≠ k) (hok : ∀ x, x ∈ C.wt i k → x.ok) (hlen : (C.tr i k).length + (C.wt i k).length ≤ 1000000) :
    Calls Tryz.prog 71 #[.pointer (some ⟨bl .P, 0, none⟩), wayV (i + 1) (k + 1)] w (FillPost w X Mc base T bl pn C i k) := by
  have h8 := h.n8
  have hl1 := h.end_at hi hk hne
  have c2 := (show GcP w bl C.n (rv .Air) (rv .Log) from h.cc .P trivial).c2
  have hpl : bl .P < w.heap.size := h.mlt _ (h.own .P trivial).1
  have HH := Lib.hid h
  have HL1 := Lib.hid hl1
  rw [wayV_succ]
  clear h hl1
  go_enter Tryz.func71, Tryz.ntmps71
  go_wp2_with fail
  obtain ⟨W1, hW1⟩ : ∃ W1, W1 = w.alloc (.cells #[.int .i64 ((i : Int) + 1), .int .i64 ((k : Int) + 1)] 100) := ⟨_, rfl⟩
  have hf1 : Fr (fun _ => False) w W1 := by rw [hW1]; exact (Fr.refl _ _).alloc _
  have k2 : W1.cell? ⟨bl .P, 2, none⟩ = some (.map (some (bl .Me))) := hf1.cell c2 (fun h => h)
  have d0 : W1.cell? ⟨w.heap.size, 0, none⟩ = some (.int .i64 ((i : Int) + 1)) := by rw [hW1]; simp [go_sem]
  have d1 : W1.cell? ⟨w.heap.size, 1, none⟩ = some (.int .i64 ((k : Int) + 1)) := by rw [hW1]; simp [go_sem]
  have HF1 := Lib.hid hf1
  have l1 := HL1.out W1.drew (hf1.drew)
  rw [← hW1]
  have hpl1 : bl .P < W1.heap.size := Nat.lt_of_lt_of_le hpl hf1.size
  have hsz1 : W1.heap.size = w.heap.size + 1 := by rw [hW1]; simp
  clear hW1 c2 hf1
  go_region
  obtain ⟨w0, hw0⟩ : ∃ w0, w0 = W1.drew := ⟨_, rfl⟩
  have hf0 : Fr (fun _ => False) w w0 := by rw [hw0]; exact HF1.out.drew
  have e0 : w0.cell? ⟨w.heap.size, 0, none⟩ = some (.int .i64 ((i : Int) + 1)) := by rw [hw0]; exact d0
  have e1 : w0.cell? ⟨w.heap.size, 1, none⟩ = some (.int .i64 ((k : Int) + 1)) := by rw [hw0]; exact d1
  have HE := Lib.hid (And.intro e0 e1)
  have HQ0 := Lib.hid (HH.out.new hf0)
  have HMC := Lib.hid HH.out.mlt
  have HF0 := Lib.hid hf0
  have HOK := Lib.hid hok
  have HLEN := Lib.hid hlen
  rw [← hw0]
  clear hw0 hf0 d0 d1 k2 HF1 HL1 hpl1 hsz1 e0 e1 l1 HH hok hlen
  go_upto_block 0 with fail
  go_cut [] (fun wx => Hid (∃ X' Mc', Gr X Mc w0 X' Mc' wx ∧ GcAt wx X' Mc' base T bl pn (pourS i k C)))
  case first =>
    go_wp2_with fail
    go_loopg [5, 6, 7] (C.wt i k).length (fun g _ _ _ wr => Hid (∃ X' Mc' C', Gr X Mc w0 X' Mc' wr ∧ GcAt wr X' Mc' base T bl pn C' ∧ C'.n = C.n ∧ pourS i k C' = pourS i k C ∧ (∀ x, x ∈ C'.wt i k → x.ok) ∧ (C'.wt i k).length ≤ g ∧ (C'.tr i k).length + (C'.wt i k).length ≤ 1000000))
    case atStart => exact Lib.hid ⟨X, Mc, C, Gr.refl _ _ _, ⟨rv, Bd, M, Pn, HQ0.out⟩, rfl, rfl, HOK.out, Nat.le_refl _, HLEN.out⟩
    case round =>
      obtain ⟨X', Mc', C', hg, ⟨rv', Bd', M', Pn', hG⟩, hn', hp, hok', hgl, hll⟩ := hrel.out
      clear hrel
      have hi' : i < C'.n := by rw [hn']; exact hi
      have hk' : k < C'.n := by rw [hn']; exact hk
      have hcP : GcP wr bl C'.n (rv' .Air) (rv' .Log) := hG.cc .P trivial
      have k3 := hcP.c3
      have hwb : ¬ Mc w.heap.size := fun hd => by have := HMC.out _ hd; omega
      have d0 := hg.fr.cell HE.out.1 hwb
      have d1 := hg.fr.cell HE.out.2 hwb
      have hwm : WayMap wr (bl .Mw) C'.n fun i k => rv' (.Wt i k) := hG.cc .Mw trivial
      have hL2 : ∀ W, Fr (fun _ => False) wr W → (Instr.lookup 82 (.map (some (bl .Mw))) (.agg #[.int .i64 ((i : Int) + 1), .int .i64 ((k : Int) + 1)]) false).run Tryz.prog W = .ok (rv' (.Wt i k)) W := fun W hf => (hwm.fr hf (fun h => h)).look hG.n8.2 hi' hk' hne
      have hfl : FlR wr base (rv' (.Wt i k)) (C'.wt i k) := hG.cr (.Wt i k) ⟨hi', hk', hne⟩
      have HG := Lib.hid hG
      have HGR := Lib.hid hg
      have HL2 := Lib.hid hL2
      have HFL := Lib.hid hfl
      have HN' := Lib.hid hn'
      have HP := Lib.hid hp
      have HOK' := Lib.hid hok'
      have HGL := Lib.hid hgl
      have HLL := Lib.hid hll
      clear hll
      have HI := Lib.hid (And.intro hi' hk')
      cases hw : C'.wt i k with
      | nil =>
        rw [hw] at hfl
        obtain ⟨A, c, hv⟩ := hfl.form
        have l2 := HL2.out wr.drew (Fr.refl _ wr).drew
        rw [hv] at l2
        have HW := Lib.hid hw
        clear hG hg hL2 hfl hn' hp hok' hgl hwm hcP hv hi' hk' hw
        go_wp2_with fail
        go_region
        go_wp2_with fail
        go_meet
        have hd : pourS i k C' = C' := pourS_done (by rw [HW.out]; rfl)
        refine Lib.hid ⟨X', Mc', ⟨HGR.out.fr.drew, HGR.out.up, HGR.out.xs, HGR.out.ms⟩, ?_⟩
        rw [← HP.out, hd]
        exact ⟨rv', Bd', M', Pn', HG.out.new (Fr.refl _ wr).drew⟩
      | cons x l =>
        rw [hw] at hfl
        obtain ⟨b, off, cap, z, hv, hc0, hc63, hlc, hblt, ⟨Az, cz, rfl⟩, hcell, htl⟩ := hfl.head
        have l2 := HL2.out wr.drew (Fr.refl _ wr).drew
        rw [hv] at l2
        have HW := Lib.hid hw
        have HTL := Lib.hid htl
        have HV := Lib.hid hv
        have q0 := hcell 0 _ rfl
        rw [Nat.add_zero] at q0
        have q1 := hcell 1 _ rfl
        have q2 := hcell 2 _ rfl
        have q3 := hcell 3 _ rfl
        have q4 := hcell 4 _ rfl
        have q5 := hcell 5 _ rfl
        have q6 := hcell 6 _ rfl
        have q7 := hcell 7 _ rfl
        have q8 := hcell 8 _ rfl
        have hd : decide (((l.length + 1 : Nat) : Int) > 0) = true := decide_eq_true (by omega)
        clear hG hg hL2 hfl hn' hp hok' hgl hwm hcP hv hi' hk' hw htl hcell
        go_wp2_with fail
        go_region
        go_wp2_with fail
        have l3 : ∀ o : Obj, (Instr.lookup 82 (.map (some (bl .Mw))) (.agg #[.int .i64 ((i : Int) + 1), .int .i64 ((k : Int) + 1)]) false).run Tryz.prog (wr.alloc o).drew.drew = .ok (.slice (some ⟨b, off, none⟩) (l.length + 1) cap) (wr.alloc o).drew.drew := fun o => by
          rw [← HV.out]
          exact HL2.out _ ((Fr.refl _ wr).alloc o).drew.drew
        have l4 := HL2.out wr.drew.drew (Fr.refl _ wr).drew.drew
        rw [HV.out] at l4
        have hwbl : w.heap.size < wr.heap.size := World.block_lt_of_cell? wr _ d0
        have hPl : bl .P < wr.heap.size := World.block_lt_of_cell? wr _ k3
        go_region
        go_wp2_with fail
        obtain ⟨w2, hw2⟩ : ∃ w2, w2 = (wr.alloc (.cells #[.int .i64 1, .int .i64 (x.frm : Int), .int .i64 (x.dst : Int), .int .i64 0, .string ⟨#[]⟩, .int .i64 2, .int .i64 (x.num : Int), .string ⟨#[]⟩, .slice Az 0 cz] 154)).drew.drew := ⟨_, rfl⟩
        have hf2 : Fr (fun _ => False) wr w2 := by rw [hw2]; exact ((Fr.refl _ wr).alloc _).drew.drew
        have hbx : ∀ j u, (letC x (.slice Az 0 cz))[j]? = some u → w2.cell? ⟨wr.heap.size, j, none⟩ = some u := fun j u hu => by
          rw [hw2]
          have := cell_newL wr (letC x (.slice Az 0 cz)) 154 wr.heap.size rfl j u hu
          rw [Addr.add_lit, Nat.zero_add] at this
          exact this
        have hz2 : w2.heap.size = wr.heap.size + 1 := by rw [hw2]; simp
        have hxok : x.ok := HOK'.out x (by rw [HW.out]; exact List.mem_cons_self ..)
        rw [← hw2]
        clear q0 q1 q2 q3 q4 q5 q6 q7 q8 l2 l3 l4 hw2 k3
        refine (letter_flat (A := Az) (c := cz) x.frm x.dst x.num hxok.1 hxok.2.1 hxok.2.2).mono ?_
        rintro e w3 ⟨v3, rfl, ho3, hf3⟩
        have hf23 : Fr (fun _ => False) wr w3 := hf2.trans' hf3
        have hG3 := HG.out.new hf23
        have hv3 : BodyIn w3 (fun k => v3.ownBlock = some k) v3 x.enc := body_of_own ho3 _ (fun k hk => hk)
        obtain ⟨V, U, hE⟩ := hG3.cc (.Ed i k) ⟨HI.out.1, HI.out.2, hne⟩
        have HG3 := Lib.hid hG3
        have HE3 := Lib.hid hE
        have HV3 := Lib.hid hv3
        have HF3 := Lib.hid hf23
        have HBX := Lib.hid (show ∀ j u, (letC x (.slice Az 0 cz))[j]? = some u → w3.cell? ⟨wr.heap.size, j, none⟩ = some u from fun j u hu => hf3.cell (hbx j u hu) (fun h => h))
        have hz3 : wr.heap.size < w3.heap.size := by have := hf3.size; omega
        clear hf2 hf23 hf3 ho3 hG3 hv3 hE hbx hz2 hxok
        by_cases h8 : (C'.en i k).out.length = 8
        · have HPT := Lib.hid (eput_full HE3.out h8 HV3.out (by have := x.enc_len; omega))
          have H8 := Lib.hid h8
          clear h8
          go_wp2_with fail
          refine HPT.out.mono ?_
          rintro e w4 ⟨rfl, hf4⟩
          have HF4 := Lib.hid hf4
          clear hf4
          go_wp2_with fail
          go_meet
          have hd : pourS i k C' = C' := pourS_done (by
            rw [HW.out]
            show (if (C'.en i k).out.length = 8 then _ else _) = _
            rw [if_pos H8.out])
          have hf34 : Fr (fun _ => False) wr w4 := HF3.out.trans' HF4.out
          refine Lib.hid ⟨X', Mc', ⟨HGR.out.fr.trans hf34 (fun _ h => h.elim), HGR.out.up, HGR.out.xs, HGR.out.ms⟩, ?_⟩
          rw [← HP.out, hd]
          exact ⟨rv', Bd', M', Pn', HG3.out.new HF4.out⟩
        · have HPT := Lib.hid (eput_any HE3.out (by have := HE3.out.sz.2.2.2.1; omega) HV3.out HG3.out.bw)
          have H8 := Lib.hid h8
          clear h8
          go_wp2_with fail
          refine HPT.out.mono ?_
          rintro e w4 ⟨rfl, vo', V', nb, hE4, hf4, hnb1, hnb2, hvo⟩
          obtain ⟨X4, Mc4, hg4, hG4⟩ := HG3.out.ended HI.out.1 HI.out.2 hne hf4 hE4 (fun _ h => .inl h) (fun b hb => by
            rcases hb with hb | hb
            · exact .inl hb
            · exact .inr ⟨by omega, by omega⟩) hvo
          have HG4 := Lib.hid hG4
          have HGR4 := Lib.hid (show Gr X' Mc' wr X4 Mc4 w4 from ⟨(HF3.out.weak (S2 := Mc') (fun _ h => h.elim)).trans' hg4.fr, hg4.up, fun b hb => by
            rcases hg4.xs b hb with h | h
            · exact .inl h
            · exact .inr (by omega), fun b hb => by
            rcases hg4.ms b hb with h | h
            · exact .inl h
            · exact .inr (by omega)⟩)
          have hwb' : ¬ Mc' w.heap.size := fun hd => by
            have : w.heap.size < w0.heap.size := World.block_lt_of_cell? w0 _ HE.out.1
            rcases HGR.out.ms _ hd with h | h
            · exact hwb h
            · omega
          have hxb' : ¬ Mc' wr.heap.size := fun hd => by have := HG.out.mlt _ hd; omega
          have k4 := (show GcP w4 _ _ _ _ from HG4.out.cc .P trivial).c4
          have d04 := HGR4.out.fr.cell d0 hwb'
          have d14 := HGR4.out.fr.cell d1 hwb'
          have HBX4 := Lib.hid (show ∀ j u, (letC x (.slice Az 0 cz))[j]? = some u → w4.cell? ⟨wr.heap.size, j, none⟩ = some u from fun j u hu => hg4.fr.cell (HBX.out j u hu) hxb')
          obtain ⟨mt, gt, hmt, hot, hgt⟩ : WayMap w4 (bl .Mt) C'.n _ := HG4.out.cc .Mt trivial
          have HENT := Lib.hid (show ∀ W, Fr (fun _ => False) w4 W → ∃ st w5, (Instr.mapEntry 82 (.map (some (bl .Mt))) (.agg #[.int .i64 ((i : Int) + 1), .int .i64 ((k : Int) + 1)])).run Tryz.prog W = .ok (.tuple #[rv' (.Tr i k), goInt st]) w5 ∧ Fr (fun b => b = bl .Mt) W w5 ∧ w5.heap.size = W.heap.size ∧
              ∀ w6 val, w6.heap[bl .Mt]? = w5.heap[bl .Mt]? → ∃ w7, (Instr.entryStore 82 (.map (some (bl .Mt))) (goInt st) val).run Tryz.prog w6 = .ok () w7 ∧ WayMap w7 (bl .Mt) C'.n (fun x y => if x = i ∧ y = k then val else updR rv' (.Out i k) vo' (.Tr x y)) ∧ Fr (fun b => b = bl .Mt) w6 w7 ∧ w7.heap.size = w6.heap.size from fun W hf => by
            have h8' := HG.out.n8.2
            have hi9 := HI.out.1
            have hk9 := HI.out.2
            obtain ⟨st, w5, h1, h2, h3, h4⟩ := (hot.fr hf (fun h => h)).entry und_mwl zero_ls (by have := cntW_le gt; unfold maxLen; omega) (i := i + 1) (k := k + 1) (by omega) (by omega)
            rw [hgt i k hi9 hk9 hne, wayV_succ] at h1
            refine ⟨st, w5, h1, h2, h3, fun w6 val he => ?_⟩
            obtain ⟨w7, r1, r2, r3, r4⟩ := h4 w6 val he
            exact ⟨w7, r1, WayMap.put (by omega) (by omega) hmt r2 hgt, r3, r4⟩)
          clear hot hgt hg4 hG4 hE4 hf4
          have HTL9 := Lib.hid (show (C'.tr i k).length ≤ 1000000 by have := HLL.out; omega)
          obtain ⟨Zt, hZt, hqt⟩ : FlR w4 base (rv' (.Tr i k)) (C'.tr i k) := HG4.out.cr (.Tr i k) ⟨HI.out.1, HI.out.2, hne⟩
          obtain ⟨tn, htn⟩ : ∃ tn, (C'.tr i k).length = tn := ⟨_, rfl⟩
          have HTN := Lib.hid htn
          rw [htn] at hqt HTL9
          have htl9 := HTL9.out
          obtain ⟨At, ct, hvt, -, -⟩ := hqt.form
          have HQT := Lib.hid hqt
          have HZT := Lib.hid hZt
          have HVT := Lib.hid hvt
          have HRT := Lib.hid (show updR rv' (.Out i k) vo' (.Tr i k) = .slice At tn ct from (updR_ne _ _ (by intro e; cases e)).trans hvt)
          rw [hvt] at HQT HENT
          obtain ⟨iL, hiL, zl0, zl1, zl2⟩ := info_parts infoFl
          have t0 := HBX4.out 0 _ rfl
          have t1 := HBX4.out 1 _ rfl
          have t2 := HBX4.out 2 _ rfl
          have t3 := HBX4.out 3 _ rfl
          have t4 := HBX4.out 4 _ rfl
          have t5 := HBX4.out 5 _ rfl
          have t6 := HBX4.out 6 _ rfl
          have t7 := HBX4.out 7 _ rfl
          have t8 := HBX4.out 8 _ rfl
          clear hqt hZt hvt htn
          have HMT := Lib.hid (HG4.out.mlt _ (HG4.out.own .Mt trivial).1)
          have hMne : wr.heap.size ≠ bl .Mt := fun e => by
            have := HG.out.mlt _ (HG.out.own .Mt trivial).1
            omega
          have hWne : w.heap.size ≠ bl .Mt := fun e => hwb' (e ▸ (HG.out.own .Mt trivial).1)
          have hPne : bl .P ≠ bl .Mt := HG.out.ne trivial trivial (by intro e; cases e)
          obtain ⟨WB, hWB⟩ : ∃ WB, WB = (w4.alloc (.cells #[.int .i64 1, .int .i64 (x.frm : Int), .int .i64 (x.dst : Int), .int .i64 0, .string ⟨#[]⟩, .int .i64 2, .int .i64 (x.num : Int), .string ⟨#[]⟩, .slice Az 0 cz] 154)).drew := ⟨_, rfl⟩
          have hfB : Fr (fun _ => False) w4 WB := by rw [hWB]; exact ((Fr.refl _ w4).alloc _).drew
          obtain ⟨st, w5, hr5, hf5, hz5, hst⟩ := HENT.out WB hfB
          have hob : ∀ b, (Value.slice At tn ct).ownBlock = some b → ¬ b = bl .Mt := fun b hb e => (HG4.out.row (.Tr i k) ⟨HI.out.1, HI.out.2, hne⟩ b (by rw [HRT.out]; exact hb)).2.2.1 .Mt trivial e.symm
          have HQ5 := Lib.hid ((HQT.out.fr hfB (fun _ _ h => h)).fr hf5 hob)
          have hnb : ∀ j u, (letC x (.slice Az 0 cz))[j]? = some u → WB.cell? ((⟨w4.heap.size, 0, none⟩ : Addr).add j) = some u := fun j u hu => by
            rw [hWB]
            exact cell_newL w4 (letC x (.slice Az 0 cz)) 154 w4.heap.size rfl j u hu
          have HNB := Lib.hid (show ∀ j u, (letC x (.slice Az 0 cz))[j]? = some u → w5.cell? ((⟨w4.heap.size, 0, none⟩ : Addr).add j) = some u from fun j u hu => by
            have h1 := hnb j u hu
            rw [Addr.add_lit] at h1 ⊢
            exact hf5.cell h1 (fun e => by have := HMT.out; have e' : w4.heap.size = bl .Mt := e; omega))
          have hzB : WB.heap.size = w4.heap.size + 1 := by rw [hWB]; simp
          have HM5 := Lib.hid (show bl .Mt < w5.heap.size ∧ (Value.slice At tn ct).ownBlock ≠ some (bl .Mt) from ⟨by have := HMT.out; omega, fun e => hob _ e rfl⟩)
          have HF5 := Lib.hid hf5
          have HST := Lib.hid hst
          have HFB := Lib.hid hfB
          have hbw : base ≤ w4.heap.size := HG4.out.bw
          have hw4l : w.heap.size < w4.heap.size := World.block_lt_of_cell? w4 _ d04
          have hP4l : bl .P < w4.heap.size := World.block_lt_of_cell? w4 _ k4
          have hx4l : wr.heap.size < w4.heap.size := World.block_lt_of_cell? w4 _ t0
          rw [hWB] at hr5
          simp only [goInt] at hr5
          clear hf5 hst hfB hWB hnb hob
          go_upto_region 9 with fail
          go_cut [] (fun wx => Hid (∃ X7 Mc7, Gr X' Mc' wr X7 Mc7 wx ∧ GcAt wx X7 Mc7 base T bl pn { C' with en := upd2 C'.en i k (eoAdd (C'.en i k) x), tr := upd2 C'.tr i k (C'.tr i k ++ [x]) }))
          case first =>
            go_wp2_with fail
            go_region_law
              (refine step_append_q (by rfl) _ _ _ (by rfl) base 154 iL _ 9 104 Tryz.underlying115 hiL zl0 zl1 zl2 rfl (by omega) (.slice At tn ct) tn (flatC (flC (C'.tr i k) Zt) tn) (by rfl) HQ5.out w4.heap.size (letC x (.slice Az 0 cz)) (by rfl) rfl HNB.out (by intro u hu; simp [letC] at hu; rcases hu with rfl | rfl | rfl | rfl | rfl | rfl | rfl | rfl | rfl <;> rfl) (by unfold maxLen; omega) (by omega) (by omega) ?_; intro v6 w6 hq6 hg6 hat6; have HQ6 := Lib.hid hq6; have HG6 := Lib.hid hg6; have HA6 := Lib.hid hat6; obtain ⟨w7, hr7, hm7, hf7, hz7⟩ := HST.out w6 v6 (hg6.block _ HM5.out.1 (fun e => HM5.out.2 e.symm)); simp only [goInt] at hr7; have HM7 := Lib.hid hm7; have HF7 := Lib.hid hf7; clear hq6 hg6 hat6 hm7 hf7)
            all_goals
              go_wp2_with fail
              go_meet
              have hm := HG4.out.more_tr (i := i) (k := k) HI.out.1 HI.out.2 hne (x := x) (z := .slice Az 0 cz) HFB.out HF5.out (by rw [HRT.out]; exact HG6.out) HF7.out HM7.out HZT.out ⟨Az, cz, rfl⟩ (by
                have h1 := HQ6.out
                show QR w6 base 154 9 v6 ((C'.tr i k).length + 1) (flatC (flC (C'.tr i k) Zt) (C'.tr i k).length ++ letC x (.slice Az 0 cz))
                rw [HTN.out]
                exact h1) (by rw [HRT.out]; exact HA6.out)
              obtain ⟨X7, Mc7, hg7, hG7⟩ := hm
              exact Lib.hid ⟨X7, Mc7, HGR4.out.trans hg7, _, _, _, _, hG7⟩
          case rest =>
            obtain ⟨X7, Mc7, hg7, rv7, Bd7, M7, Pn7, hG7⟩ := hcut.out
            rename World => wc
            have hw7 : ({ C' with en := upd2 C'.en i k (eoAdd (C'.en i k) x), tr := upd2 C'.tr i k (C'.tr i k ++ [x]) } : GcS).wt i k = x :: l := HW.out
            obtain ⟨A7, c7, hs7, hu7⟩ := hG7.less_wt HI.out.1 HI.out.2 hne hw7
            obtain ⟨w8, hr8, X8, Mc8, hg8, hG8⟩ := hu7 wc.drew (Fr.refl _ wc).drew
            have k3 := (show GcP wc _ _ _ _ from hG7.cc .P trivial).c3
            have d07 := hg7.fr.cell d0 hwb'
            have d17 := hg7.fr.cell d1 hwb'
            have hl7 := (show WayMap wc (bl .Mw) C'.n _ from hG7.cc .Mw trivial).fr (Fr.refl (fun _ => False) wc).drew (fun h => h) |>.look hG7.n8.2 HI.out.1 HI.out.2 hne
            have hs7' := hs7 wc.drew
            obtain ⟨v7, hv7⟩ : ∃ v7, rv7 (.Wt i k) = v7 := ⟨_, rfl⟩
            rw [hv7] at hl7 hs7'
            have HG7 := Lib.hid hg7
            have HG8 := Lib.hid hg8
            have HGG8 := Lib.hid hG8
            clear hg7 hG7 hg8 hG8 hs7 hu7 hw7 hcut hr5 hv7
            go_wp2_with fail
            have hwl7 : w.heap.size < wc.heap.size := World.block_lt_of_cell? wc _ d07
            have hPl7 : bl .P < wc.heap.size := World.block_lt_of_cell? wc _ k3
            go_region
            go_wp2_with fail
            have hlx : l.length < gk := by
              have h1 := HGL.out
              rw [HW.out] at h1
              simp only [List.length_cons] at h1
              omega
            have h88 : ¬ (C'.en i k).out.length = 8 := H8.out
            go_roundg l.length
            case measure => exact hlx
            case rel =>
              refine Lib.hid ⟨X8, Mc8, { C' with en := upd2 C'.en i k (eoAdd (C'.en i k) x), wt := upd2 C'.wt i k l, tr := upd2 C'.tr i k (C'.tr i k ++ [x]) }, (HGR.out.trans HG7.out).trans HG8.out, ⟨_, _, _, _, HGG8.out⟩, HN'.out, (pourS_step HW.out h88).trans HP.out, fun y hy => ?_, ?_, ?_⟩
              · rw [show ({ C' with en := upd2 C'.en i k (eoAdd (C'.en i k) x), wt := upd2 C'.wt i k l, tr := upd2 C'.tr i k (C'.tr i k ++ [x]) } : GcS).wt i k = l from upd2_self _ _ _ _] at hy
                exact HOK'.out y (by rw [HW.out]; exact List.mem_cons_of_mem _ hy)
              · show (upd2 C'.wt i k l i k).length ≤ l.length
                rw [upd2_self]
                exact Nat.le_refl _
              · show (upd2 C'.tr i k (C'.tr i k ++ [x]) i k).length + (upd2 C'.wt i k l i k).length ≤ 1000000
                rw [upd2_self, upd2_self, List.length_append]
                have h1 := HLL.out
                rw [HW.out] at h1
                simp only [List.length_cons, List.length_nil] at h1 ⊢
                omega
  case rest =>
    obtain ⟨X1, Mc1, hg1, rv1, Bd1, M1, Pn1, hG1⟩ := hcut.out
    rename World => wc
    obtain ⟨C1, hC1⟩ : ∃ C1, C1 = pourS i k C := ⟨_, rfl⟩
    rw [← hC1] at hG1
    have hn1 : C1.n = C.n := by rw [hC1]; rfl
    obtain ⟨V, U, hE⟩ := hG1.cc (.Ed i k) ⟨hn1 ▸ hi, hn1 ▸ hk, hne⟩
    have HOUT := Lib.hid (eout_any hE hG1.bw)
    have HG1 := Lib.hid hG1
    have HGR1 := Lib.hid hg1
    have HC1 := Lib.hid hC1
    have HN1 := Lib.hid hn1
    have hwb : ¬ Mc w.heap.size := fun hd => by have := HMC.out _ hd; omega
    have d0 := hg1.fr.cell HE.out.1 hwb
    have d1 := hg1.fr.cell HE.out.2 hwb
    clear hcut hG1 hg1 hC1 hE hn1
    go_wp2_with fail
    refine HOUT.out.mono ?_
    rintro e w2 ⟨v, rfl, hpk, hE2, hf2⟩
    have hi1 : i < C1.n := by rw [HN1.out]; exact hi
    have hk1 : k < C1.n := by rw [HN1.out]; exact hk
    obtain ⟨X2, Mc2, rv2, hg2, hG2, hair⟩ := HG1.out.ended_new (v := v) hi1 hk1 hne hf2 hE2
    obtain ⟨L, hL⟩ : ∃ L, (C1.en i k).outs = L := ⟨_, rfl⟩
    have hL8 : L.length ≤ 8 := by
      obtain ⟨V0, U0, hE0⟩ := HG1.out.cc (.Ed i k) ⟨hi1, hk1, hne⟩
      rw [← hL]
      exact EnS.outs_len _ hE0.sz.2.2.2.1
    rw [hL] at hpk
    obtain ⟨W, hpr, hpb⟩ := hpk
    obtain ⟨n, hn⟩ : ∃ n, L.length = n := ⟨_, rfl⟩
    have HLN := Lib.hid hn
    rw [hn] at hpr hpb hL8
    obtain ⟨A, c, rfl, -, -, -⟩ := own_any hpr
    have HPR := Lib.hid hpr
    have HPB := Lib.hid hpb
    have HVB := Lib.hid (show ∀ b, (Value.slice A n c).ownBlock = some b → wc.heap.size ≤ b ∧ b < w2.heap.size from hpr.lt)
    have HAIR := Lib.hid (show ∀ b, (rv2 .Air).ownBlock = some b → (Value.slice A n c).ownBlock ≠ some b from fun b hb e => by
      rw [hair] at hb
      have h1 := HG1.out.mlt _ (HG1.out.row .Air trivial b hb).1
      have h2 := (HVB.out b e).1
      omega)
    have HPN := Lib.hid (show (Value.slice A n c).ownBlock ≠ some (bl .P) from fun e => by
      have h1 := HG1.out.mlt _ (HG1.out.own .P trivial).1
      have h2 := (HVB.out _ e).1
      omega)
    obtain ⟨Bd2, hBd2⟩ : ∃ Bd2 : Nat → Prop, Bd2 = (fun b => Bd1 b ∨ (wc.heap.size ≤ b ∧ b < w2.heap.size ∧ (Value.slice A n c).ownBlock ≠ some b)) := ⟨_, rfl⟩
    rw [← hBd2] at hG2
    have HBB := Lib.hid (show ∀ b, (wc.heap.size ≤ b ∧ b < w2.heap.size ∧ (Value.slice A n c).ownBlock ≠ some b) → Bd2 b from fun b hb => by rw [hBd2]; exact .inr hb)
    have HBN := Lib.hid (show ∀ b, Bd2 b → (Value.slice A n c).ownBlock ≠ some b from fun b hb => by
      rw [hBd2] at hb
      rcases hb with hb | hb
      · intro e
        have h1 := HG1.out.mlt _ (HG1.out.bod b hb).1
        have h2 := (HVB.out b e).1
        omega
      · exact hb.2.2)
    obtain ⟨C2, hC2⟩ : ∃ C2 : GcS, C2 = { C1 with en := upd2 C1.en i k (C1.en i k).outE } := ⟨_, rfl⟩
    rw [← hC2] at hG2
    have HFS := Lib.hid (show fillS i k C = { C2 with air := airL i k C2.air L } by
      rw [hC2, ← hL, HC1.out]
      unfold pourS fillS
      simp only [upd2_self, upd2_twice])
    have HGR2 := Lib.hid (HGR1.out.trans hg2)
    have HG2 := Lib.hid hG2
    obtain ⟨ift, hift, zf0, zf1, zf2⟩ := info_parts infoFt
    clear hpr hpb hG2 hg2 hair hf2 hE2 hL hn hBd2 hC2 HOUT hi1 hk1
    go_wp2_with fail
    go_loopw [9, 72] (fun _ v72 wr => ∃ m, m ≤ n ∧ v72 = .int .i64 (m : Int) ∧ Hid (∃ X' Mc' rv', Gr X2 Mc2 w2 X' Mc' wr ∧ GcG wr X' Mc' base T bl pn rv' Bd2 M1 Pn1 { C2 with air := airL i k C2.air (L.take m) } ∧ Fr (fun b => (Value.slice A n c).ownBlock ≠ some b) w2 wr ∧ (∀ b, (rv' .Air).ownBlock = some b → (Value.slice A n c).ownBlock ≠ some b) ∧ ∀ j, j < n → PkBody wr Bd2 (W j) (pkN L j).body)) (fun _ v72 _ => n - (intOf v72).toNat)
    case atStart => exact ⟨0, Nat.zero_le _, rfl, Lib.hid ⟨X2, Mc2, rv2, Gr.refl _ _ _, by unfold airL; exact HG2.out, Fr.refl _ _, HAIR.out, fun j hj => (HPB.out j hj).fr (Fr.refl (fun _ => False) w2) (fun _ _ h => h) (fun b hb _ => HBB.out b hb)⟩⟩
    case round =>
      obtain ⟨m, hm, rfl, hR⟩ := hrel
      obtain ⟨X3, Mc3, rv3, hg3, hG3, hf3, ha3, hb3⟩ := hR.out
      have HB3 := Lib.hid hb3
      clear hR
      have hgr := HGR2.out.trans hg3
      have e0 := hgr.fr.cell HE.out.1 hwb
      have e1 := hgr.fr.cell HE.out.2 hwb
      have HG3 := Lib.hid hG3
      have HGR3 := Lib.hid hg3
      have HF3 := Lib.hid hf3
      have HA3 := Lib.hid ha3
      by_cases hlt : m < n
      · obtain ⟨g, cap, hv, -, -, -⟩ := own_form HPR.out (by omega)
        injection hv with h1 h2 h3
        subst h1 h3
        clear h2
        have hpc : ∀ j u, (pkV (pkN L m) (W m))[j]? = some u → wr.cell? ⟨g, m * 5 + j, none⟩ = some u := fun j u hu => by
          have hj : j < 5 := by
            have := (List.getElem?_eq_some_iff.1 hu).1
            exact this
          have h1 := own_cellC HPR.out (fun _ => rfl) hlt hj
          exact hf3.cell (h1.trans hu) (fun e => e rfl)
        obtain ⟨p, hp⟩ : ∃ p, pkN L m = p := ⟨_, rfl⟩
        obtain ⟨u, hu⟩ : ∃ u, W m = u := ⟨_, rfl⟩
        have hpb := hb3 m hlt
        rw [hp, hu] at hpc hpb
        have q0 := hpc 0 _ rfl
        rw [Nat.add_zero] at q0
        have q1 := hpc 1 _ rfl
        have q2 := hpc 2 _ rfl
        have q3 := hpc 3 _ rfl
        have q4 := hpc 4 _ rfl
        obtain ⟨Au, lu, cu, rfl⟩ : ∃ Au lu cu, u = .slice Au lu cu := by
          cases hb : p.body with
          | none => rw [hb] at hpb; exact ⟨_, _, _, hpb⟩
          | some x =>
            rw [hb] at hpb
            obtain ⟨A', c', e', -⟩ := hpb
            exact ⟨_, _, _, e'⟩
        have HP := Lib.hid hp
        have HPU := Lib.hid hpb
        have hcP : GcP wr bl C2.n (rv3 .Air) (rv3 .Log) := hG3.cc .P trivial
        obtain ⟨W3, har, hab⟩ : AirR wr base Bd2 (rv3 .Air) (airL i k C2.air (L.take m)) := hG3.cr .Air trivial
        obtain ⟨la, hla⟩ : ∃ la, (airL i k C2.air (L.take m)).length = la := ⟨_, rfl⟩
        have HLA := Lib.hid hla
        rw [hla] at har
        have htk : L.take (m + 1) = L.take m ++ [p] := by
          have hm' : m < L.length := by rw [HLN.out]; exact hlt
          rw [List.take_add_one, List.getElem?_eq_getElem hm']
          have : p = L[m] := by
            rw [← hp]
            unfold pkN
            rw [List.getD_eq_getElem?_getD, List.getElem?_eq_getElem hm']
            rfl
          rw [this]
          rfl
        have HTK := Lib.hid (show airL i k C2.air (L.take (m + 1)) = if la < 400 then airL i k C2.air (L.take m) ++ [((i, k), p)] else airL i k C2.air (L.take m) by rw [htk, airL_snoc, hla])
        obtain ⟨va, hva⟩ : ∃ va, rv3 .Air = va := ⟨_, rfl⟩
        have HVA := Lib.hid hva
        have c5 := hcP.c5
        have fz := hcP.fz 5
        rw [hva] at c5 har
        obtain ⟨Aa, ca, rfl, -, -, -⟩ := own_any har
        have HAR := Lib.hid har
        have HAB := Lib.hid hab
        have hPl : bl .P < wr.heap.size := World.block_lt_of_cell? wr _ c5
        have hPv : ¬ (Value.slice Aa la ca).ownBlock = some (bl .P) := fun e => (HG3.out.row .Air trivial _ (by rw [HVA.out]; exact e)).2.2.1 .P trivial rfl
        have HPV := Lib.hid hPv
        have hbw : base ≤ wr.heap.size := HG3.out.bw
        have hwl : w.heap.size < wr.heap.size := World.block_lt_of_cell? wr _ e0
        have i1 : (0 : Int) ≤ (m : Int) := by omega
        have i2 : (m : Int) < (n : Int) := by omega
        have HLT := Lib.hid hlt
        have HGRR := Lib.hid hgr
        clear hg3 hG3 hf3 ha3 hb3 hpc hp hu hpb hcP har hab hla htk hva hPv hgr hlt
        by_cases h400 : la < 400
        · have hd4 : decide ((la : Int) < 400) = true := decide_eq_true (by omega)
          go_wp2_with fail
          obtain ⟨w5, hw5⟩ : ∃ w5, w5 = wr.alloc (.cells #[.int .u32 (p.seq : Int), .int .u32 (p.ack : Int), .bool p.body.isSome, .int .i64 (p.win : Int), .slice Au lu cu] 124) := ⟨_, rfl⟩
          have hf5 : Fr (fun _ => False) wr w5 := by rw [hw5]; exact (Fr.refl _ _).alloc _
          have hbx : ∀ j u, (pkV p (.slice Au lu cu))[j]? = some u → w5.cell? ⟨wr.heap.size, j, none⟩ = some u := fun j u hu => by
            rw [hw5]
            have := cell_newL wr (pkV p (.slice Au lu cu)) 124 wr.heap.size rfl j u hu
            rw [Addr.add_lit, Nat.zero_add] at this
            exact this
          have x0 := hbx 0 _ rfl
          have x1 := hbx 1 _ rfl
          have x2 := hbx 2 _ rfl
          have x3 := hbx 3 _ rfl
          have x4 := hbx 4 _ rfl
          have c55 := hf5.cell c5 (fun h => h)
          have e05 := hf5.cell e0 (fun h => h)
          have e15 := hf5.cell e1 (fun h => h)
          have fz5 := (hf5.frozen hPl (fun h => h)).trans fz
          have hz5 : w5.heap.size = wr.heap.size + 1 := by rw [hw5]; simp
          have HF5 := Lib.hid hf5
          have HAR5 := Lib.hid (hf5.row HAR.out (fun _ _ h => h))
          have hPl5 : bl .P < w5.heap.size := by omega
          have hwl5 : w.heap.size < w5.heap.size := by omega
          have hxl5 : wr.heap.size < w5.heap.size := by omega
          have hbw5 : base ≤ w5.heap.size := by omega
          rw [← hw5]
          clear hw5 hf5 hbx q0 q1 q2 q3 q4 c5 e0 e1 fz hz5
          go_region_law
            (refine step_append_lies _ (by rfl) _ _ _ (by rfl) base 126 ift _ 7 64 Tryz.underlying87 hift zf0 zf1 zf2 rfl (by omega) (.slice Aa la ca) la (flatC (airC (airL i k C2.air (L.take m)) W3) la) (by rfl) (((Fr.refl (fun _ => False) w5).alloc _).drew.row HAR5.out (fun _ _ h => h)) ⟨w5.heap.size, 0, none⟩ 1 1 [.int .i64 ((i : Int) + 1), .int .i64 ((k : Int) + 1), .int .u32 (p.seq : Int), .int .u32 (p.ack : Int), .bool p.body.isSome, .int .i64 (p.win : Int), .slice Au lu cu] (by rfl) (by rfl) (cell_newL _ _ _ _ rfl) (by intro u hu; simp at hu; rcases hu with rfl | rfl | rfl | rfl | rfl | rfl | rfl <;> rfl) (by omega) (by unfold maxLen; omega) (by omega) (by simp; omega) (w5.heap.size + 1) (by simp) ?_; intro g6 cap6 w6 hown6 hgrow6 hat6 hlt6; have HF6 := Lib.hid (show Fr (fun b => (Value.slice Aa la ca).ownBlock = some b) w5 w6 from ((Fr.refl _ w5).alloc _).drew.trans' (Fr.of_grown hgrow6 (fun b hb => .inl hb))); have HG6 := Lib.hid hgrow6; have HO6 := Lib.hid hown6; have HA6 := Lib.hid hat6; have c56 := HF6.out.cell c55 HPV.out; have fz6 := (HF6.out.frozen hPl5 HPV.out).trans fz5; clear hown6 hgrow6 hat6)
          all_goals
            go_wp2_with fail
            have hma := (HG3.out.new HF5.out).more_air (i := i) (k := k) (p := p) (u := .slice Au lu cu) (v' := .slice (some ⟨g6, 0, none⟩) (la + 1) cap6) (W := W3) (w5 := w6) (((Fr.refl (fun _ => False) w5).alloc _).drew) (fun j hj => (HAB.out j hj).fr HF5.out (fun _ _ h => h) (fun _ h _ => h)) (by rw [HVA.out]; exact HG6.out) (by
              have h1 := HO6.out
              show w6.ownsRow base 126 7 _ ((airL i k C2.air (L.take m)).length + 1) (flatC (airC (airL i k C2.air (L.take m)) W3) (airL i k C2.air (L.take m)).length ++ _)
              rw [HLA.out]
              exact h1) (by
              rw [HVA.out]
              rcases HA6.out with h | h
              · exact .inl h.symm
              · exact .inr ⟨g6, rfl, by have := HF5.out.size; (try simp at h); omega⟩) (HPU.out.fr HF5.out (fun _ _ h => h) (fun _ h _ => h))
            obtain ⟨⟨X7, Mc7, hg7, hG7⟩, hf7⟩ := hma
            have HGR7 := Lib.hid hg7
            have HG7 := Lib.hid hG7
            have HF7 := Lib.hid hf7
            clear hg7 hG7 hf7
            have hgr35 : Gr X2 Mc2 w2 X3 Mc3 w5 := ⟨HGR3.out.fr.trans' (HF5.out.weak (fun _ h => h.elim)), HGR3.out.up, HGR3.out.xs, HGR3.out.ms⟩
            have hvn : ∀ b, (b = bl .P ∨ (rv3 .Air).ownBlock = some b) → (Value.slice (some ⟨g, 0, none⟩) n c).ownBlock ≠ some b := fun b hb => by
              rcases hb with hb | hb
              · rw [hb]; exact HPN.out
              · exact HA3.out b hb
            have hbn : ∀ b, Bd2 b → ¬ (b = bl .P ∨ (rv3 .Air).ownBlock = some b) := fun b hb hd => by
              rcases hd with hd | hd
              · exact (HG3.out.bod b hb).2.2.1 .P trivial hd.symm
              · exact (HG3.out.bod b hb).2.2.2 .Air trivial hd
            refine ⟨⟨m + 1, by have := HLT.out; omega, by go_num, Lib.hid ⟨X7, Mc7, updR rv3 .Air (.slice (some ⟨g6, 0, none⟩) (la + 1) cap6), hgr35.trans HGR7.out, ?_, (HF3.out.trans' (HF5.out.weak (fun _ h => h.elim))).trans' (HF7.out.weak hvn), fun b hb => ?_, fun j hj => ((HB3.out j hj).fr HF5.out (fun _ _ h => h) (fun _ h _ => h)).fr HF7.out hbn (fun _ h _ => h)⟩⟩, by have := HLT.out; simp [intOf]; omega⟩
            · rw [HTK.out, if_pos h400]
              exact HG7.out
            · rw [updR_self] at hb
              have hb' : some g6 = some b := hb
              injection hb' with hb'
              rcases HA6.out with h | h
              · exact HA3.out b (by rw [HVA.out, ← hb']; exact h)
              · intro e
                have h1 := (HVB.out b e).2
                have h2 := hgr35.fr.size
                (try simp at h)
                omega
        · have hd4 : decide ((la : Int) < 400) = false := decide_eq_false (by omega)
          have H400 := Lib.hid h400
          clear h400
          go_wp2_with fail
          go_roundw
          case rel =>
            refine ⟨m + 1, by have := HLT.out; omega, by go_num, Lib.hid ⟨X3, Mc3, rv3, ⟨HGR3.out.fr.trans' ((Fr.refl (fun _ => False) wr).alloc _ |>.weak (fun _ h => h.elim)), HGR3.out.up, HGR3.out.xs, HGR3.out.ms⟩, ?_, HF3.out.trans' ((Fr.refl (fun _ => False) wr).alloc _ |>.weak (fun _ h => h.elim)), HA3.out, fun j hj => (HB3.out j hj).fr ((Fr.refl (fun _ => False) wr).alloc _) (fun _ _ h => h) (fun _ h _ => h)⟩⟩
            rw [HTK.out, if_neg H400.out]
            exact HG3.out.new ((Fr.refl (fun _ => False) wr).alloc _)
          case measure => have := HLT.out; simp [intOf]; omega
      · have hd : decide ((m : Int) < (n : Int)) = false := decide_eq_false (by omega)
        have hmn : m = n := by omega
        have HFIN := Lib.hid (show FillPost w X Mc base T bl pn C i k (.returned (.tuple #[])) wr from ⟨rfl, X3, Mc3, ⟨(HF0.out.weak (fun _ h => h.elim)).trans' hgr.fr, hgr.up, fun b hb => by
          rcases hgr.xs b hb with h | h
          · exact .inl h
          · exact .inr (Nat.le_trans HF0.out.size h), fun b hb => by
          rcases hgr.ms b hb with h | h
          · exact .inl h
          · exact .inr (Nat.le_trans HF0.out.size h)⟩, _, _, _, _, by
          rw [HFS.out]
          rw [hmn, ← HLN.out, List.take_length] at hG3
          exact hG3⟩)
        clear hg3 hG3 hf3 ha3 hb3 hgr HLN
        subst hmn
        go_wp2_with fail
        exact bodyPost_end (results_none rfl _ _ _) rfl HFIN.out
end
end Go.Proofs.YthgbcgphkddmgaaGreat
