/- carry.Over. -/
import Derived.Test.YtkdbnkkdohkhjaaCarryWord
import Derived.Test.YtkdbnkkdohkhjaaHeapObjs
import Derived.Test.YtkdbnkkdohkhjaaRowOps
import Derived.BigRegion
import Derived.BigQuiet
namespace Go.Proofs.Ytkdbnkkdohkhjaa
open Go.RowKit
set_option linter.unusedVariables false
/-- an emptied cell: the two words of an object with nothing in it -/
def emptyAt (l : List Nat) (a : Nat) : List Nat := l.take a ++ ([1, 0] : List Nat).take (l.length - a) ++ l.drop (a + (([1, 0] : List Nat).take (l.length - a)).length)
def emptied (l : List Nat) : List Nat → List Nat
  | [] => l
  | a :: m => emptied (emptyAt l a) m
theorem emptied_snoc (l m : List Nat) (a : Nat) : emptied l (m ++ [a]) = emptyAt (emptied l m) a := by
  induction m generalizing l with
  | nil => rfl
  | cons b m ih => exact ih _
theorem emptyAt_len {l : List Nat} {a : Nat} (h : a ≤ l.length) : (emptyAt l a).length = l.length := by
  unfold emptyAt
  simp only [List.length_append, List.length_take, List.length_drop, List.length_cons, List.length_nil]
  omega
theorem emptied_len (l m : List Nat) (h : ∀ a ∈ m, a ≤ l.length) : (emptied l m).length = l.length := by
  induction m generalizing l with
  | nil => rfl
  | cons a m ih =>
    have h1 := emptyAt_len (h a List.mem_cons_self)
    show (emptied (emptyAt l a) m).length = _
    rw [ih _ (fun b hb => by rw [h1]; exact h b (List.mem_cons_of_mem _ hb)), h1]
theorem sizeHp (w : World) : (sizeOf (Try.prog.elem 23)).run Try.prog w = .ok 1 w := by kernel_rfl
theorem elemHp : Try.prog.underlying 23 = some (.slice (Try.prog.elem 23)) := by kernel_rfl
theorem cutH_at (g n c a r d : Nat) (hr : a + r = n) (hd : a + d = c) (h0 : 0 < r) (hc : n ≤ c) (w : World) : (Instr.sliceAt 23 (.slice (some ⟨g, 0, none⟩) n c) (some (.int .i64 (a : Int))) none none).run Try.prog w = .ok (.slice (some ⟨g, a, none⟩) r d) w := by
  rw [run_sliceAt_slice _ _ _ _ _ _ elemHp, run_slice_l _ _ _ _ _ elemHp _ _ (by omega) (by omega), sizeHp]
  simp only [Result.andThen, sliced, Int.toNat_natCast, Nat.mul_one, Option.map, Go.WideShapes.add_plain]
  rw [show n - a = r by omega, show c - a = d by omega, Nat.zero_add, if_neg (by omega)]
theorem gone_words : wordsO ⟨1, 0, ⟨#[]⟩, []⟩ = [1, 0] := by decide
theorem copy_gone {w : World} {base b2 g n c a r d : Nat} {A6 : Option Addr} {c6 : Nat} {l : List Nat} (hO : OwnU w base (.slice (some ⟨g, 0, none⟩) n c) l) (hl : l.length = n) (hr : a + r = n) (h0 : 0 < r) (hS : OwnU w b2 (.slice A6 2 c6) [1, 0]) :
    ∃ m w', (∀ ty, (Builtin.copy_ #[23, 23] ty #[.slice (some ⟨g, a, none⟩) r d, .slice A6 2 c6]).run Try.prog w = .ok (goInt m) w') ∧ OwnU w' base (.slice (some ⟨g, 0, none⟩) n c) (emptyAt l a) ∧ w.grownBy w' (some g) := by
  obtain ⟨g6, cap6, hv6, _, _, _⟩ := own_form hS (by simp)
  injection hv6 with e1 _ e3
  subst e1 e3
  have hh := hO
  unfold OwnU at hh
  rw [hl] at hh
  rcases hh.2 with ⟨h', _⟩ | ⟨g', cap', cur, hv, hb, hgr, hnc, hcm, hcs, ht⟩
  · cases h'
  injection hv with e1 _ e3
  injection e1 with e1
  injection e1 with e1
  subst e1 e3
  have hcl : (encU (([1, 0] : List Nat).take r)).length = Nat.min 2 r * 1 := by
    unfold encU
    rw [List.length_map, List.length_take]
    simp [Nat.min_comm]
  have hcl2 : (encU (([1, 0] : List Nat).take r)).length ≤ 2 := by rw [hcl, Nat.mul_one]; exact Nat.min_le_left 2 r
  have hclr : (encU (([1, 0] : List Nat).take r)).length ≤ r := by rw [hcl, Nat.mul_one]; exact Nat.min_le_right 2 r
  have hsrc : ∀ j v, (encU (([1, 0] : List Nat).take r))[j]? = some v → w.cell? ((⟨g6, 0, none⟩ : Addr).add j) = some v := fun j v hj => by
    have hj2 : j < 2 := by
      have h1 := (List.getElem?_eq_some_iff.1 hj).1
      omega
    rw [Go.WideShapes.add_plain, Nat.zero_add]
    have h2 : w.cell? ⟨g6, j, none⟩ = (encU [1, 0])[j]? := hS.cellAt _ (by simpa using hj2)
    rw [h2, ← hj]
    unfold encU
    rw [List.map_take, List.getElem?_take_of_lt]
    have h1 := (List.getElem?_eq_some_iff.1 hj).1
    omega
  have hrun := fun ty => run_copy_sz (P := Try.prog) w 23 23 ty (Try.prog.elem 23) 1 g a r d ⟨g6, 0, none⟩ 2 c6 (encU (([1, 0] : List Nat).take r)) elemHp (by kernel_rfl) hcl (Nat.min 2 r) rfl hsrc (fun j hj => ?_) (fun j hj => frozen_of_row hgr) (encU_one _)
  · refine ⟨_, _, hrun, ?_, grown_setCells w g a _⟩
    have hheap := setCells_heap (w := w) (vs := encU (([1, 0] : List Nat).take r)) (o := a) hgr (by rw [hcs]; omega)
    have hel : (emptyAt l a).length = n := by rw [emptyAt_len (by omega), hl]
    unfold OwnU
    rw [hel]
    refine ⟨by unfold encU; rw [List.length_map, hel, Nat.mul_one], (.inr ⟨g, c, _, rfl, hb, hheap, hnc, hcm, ?_, ?_⟩)⟩
    · rw [List.size_toArray, List.length_append, List.length_append, List.length_take, List.length_drop, Array.length_toList, hcs]
      omega
    · have e1 : encU (emptyAt l a) = (encU l).take a ++ encU (([1, 0] : List Nat).take r) ++ (encU l).drop (a + (encU (([1, 0] : List Nat).take r)).length) := by
        unfold emptyAt
        rw [show l.length - a = r by omega]
        unfold encU
        rw [List.map_append, List.map_append, List.map_take, List.map_drop, List.length_map]
      rw [e1, ← ht, Nat.mul_one]
      show (cur.toList.take a ++ encU (([1, 0] : List Nat).take r) ++ cur.toList.drop (a + (encU (([1, 0] : List Nat).take r)).length)).take n = _
      have ela : (cur.toList.take a).length = a := by rw [List.length_take, Array.length_toList, hcs]; omega
      rw [List.take_append, List.take_append, List.take_of_length_le (l := cur.toList.take a) (by rw [ela]; omega), List.take_of_length_le (l := encU _) (by rw [ela]; omega), List.take_take, Nat.min_eq_left (show a ≤ n by omega), List.drop_take]
      congr 2
      rw [List.length_append, ela]
  · rw [cell_of_row hgr]
    have : a + j < cur.size := by rw [hcs]; omega
    simp [this]
def OkH (h : List Nat) : Prop := h.length ≤ 4000 ∧ ∃ l, ObsOf h l
def OverErr (w : World) (e : Ending) (w' : World) : Prop := ∃ x : Int, x ≠ 0 ∧ e = .returned (.tuple #[.slice none 0 0, .slice none 0 0, .int .u64 0, .int .i64 x]) ∧ Below w.heap.size w w'
def OverYes (f : List Nat) (q : Nat) (st : CS) (w : World) (e : Ending) (w' : World) : Prop := ∃ v1 v2, e = .returned (.tuple #[v1, v2, .int .u64 (q : Int), .int .i64 0]) ∧ OwnU w' w.heap.size v1 (emptied f st.cells) ∧ OwnU w' w.heap.size v2 st.to ∧ Below w.heap.size w w'
def OverPost (f t : List Nat) (wd : Nat) (w : World) (e : Ending) (w' : World) : Prop :=
  (¬ (OkH f ∧ OkH t ∧ ∃ q st, carW f 40 wd ⟨t, [], []⟩ = some (q, st)) ∧ OverErr w e w') ∨ (OkH f ∧ OkH t ∧ ∃ q st, carW f 40 wd ⟨t, [], []⟩ = some (q, st) ∧ OverYes f q st w e w')
set_option maxRecDepth 100000 in
set_option maxHeartbeats 8000000 in
theorem over_any (f t : List Nat) (fA tA : Option Addr) (fc tc wd : Nat) (w : World) (hF : Su w (.slice fA f.length fc) f) (hT : Su w (.slice tA t.length tc) t) (f64 : All64 f) (t64 : All64 t) (hfl : f.length ≤ 17592186044416) (htl : t.length ≤ 17592186044416) (hwd : wd < 18446744073709551616) :
    Calls Try.prog 32 #[.slice fA f.length fc, .slice tA t.length tc, .int .u64 (wd : Int)] w (OverPost f t wd w) := by
  have HF := Lib.hid hF
  have HT := Lib.hid hT
  have HF64 := Lib.hid f64
  have HT64 := Lib.hid t64
  clear hF hT f64 t64
  obtain ⟨wi, hwi⟩ : ∃ wi : Int, (wd : Int) = wi := ⟨_, rfl⟩
  have HWI := Lib.hid hwi
  obtain ⟨fn, hfn⟩ : ∃ fn, f.length = fn := ⟨_, rfl⟩
  obtain ⟨tn, htn⟩ : ∃ tn, t.length = tn := ⟨_, rfl⟩
  have HFN := Lib.hid hfn
  have HTN := Lib.hid htn
  have HOF := Lib.hid (fun Wx (hb : Below w.heap.size w Wx) => Objects_any f fA fc Wx (HF.out.below hb) HF64.out hfl)
  have HOT := Lib.hid (fun Wx (hb : Below w.heap.size w Wx) => Objects_any t tA tc Wx (HT.out.below hb) HT64.out htl)
  rw [hfn] at HOF hfl
  rw [htn] at HOT htl
  rw [hwi, hfn, htn]
  clear hwi hfn htn
  obtain ⟨W0, hW0⟩ : ∃ W0, W0 = w.alloc (.cells #[.slice fA fn fc, .slice tA tn tc] 23) := ⟨_, rfl⟩
  have HB0 := Lib.hid (show Below w.heap.size w W0 by rw [hW0]; exact (Below.refl _ _).alloc (Nat.le_refl _) _)
  have h0 : W0.cell? ⟨w.heap.size, 0, none⟩ = some (.slice fA fn fc) := by rw [hW0]; simp
  have h1 : W0.cell? ⟨w.heap.size, 1, none⟩ = some (.slice tA tn tc) := by rw [hW0]; simp
  have hz0 : w.heap.size < W0.heap.size := by rw [hW0]; simp
  have H01 := Lib.hid (And.intro h0 h1)
  clear h0 h1
  go_enter Try.func32, Try.ntmps32
  go_wp2_with fail
  rw [← hW0]
  clear hW0
  go_loopw [11, 12, 13, 26] (fun _ _ _ i wr => ∃ k : Nat, k ≤ 2 ∧ i = .int .i64 (k : Int) ∧ (0 < k → OkH f) ∧ (1 < k → OkH t) ∧ Below W0.heap.size W0 wr) (fun _ _ _ i _ => 2 - (intOf i).toNat)
  case atStart => exact ⟨0, by omega, rfl, fun h => by omega, fun h => by omega, Below.refl _ _⟩
  case round =>
    obtain ⟨k, hk, rfl, ho1, ho2, hb⟩ := hrel
    have HBR := Lib.hid (HB0.out.trans (hb.mono HB0.out.size))
    have HBW := Lib.hid hb
    have c0 := (hb.cell (p := ⟨w.heap.size, 0, none⟩) hz0).trans H01.out.1
    have c1 := (hb.cell (p := ⟨w.heap.size, 1, none⟩) hz0).trans H01.out.2
    have HO1 := Lib.hid ho1
    have HO2 := Lib.hid ho2
    have hzr : w.heap.size < wr.heap.size := by have := hb.size; omega
    clear ho1 ho2 hb
    have ERR := Lib.hid (show ∀ x : Int, x ≠ 0 → ∀ W', Below w.heap.size w W' → ¬ (OkH f ∧ OkH t ∧ ∃ q st, carW f 40 wd ⟨t, [], []⟩ = some (q, st)) → OverPost f t wd w (.returned (.tuple #[.slice none 0 0, .slice none 0 0, .int .u64 0, .int .i64 x])) W' from fun x hx W' hb hno => .inl ⟨hno, x, hx, rfl, hb⟩)
    obtain rfl | rfl | rfl : k = 0 ∨ k = 1 ∨ k = 2 := by omega
    · go_wp2_with fail
      refine (HOF.out _ HBR.out).mono ?_
      rintro e w1 (⟨hf4, l, hl, v, C, rfl, -, hb1⟩ | ⟨hno, x, hx, rfl, hb1⟩)
      · have HOKF := Lib.hid (show OkH f from ⟨hf4, l, hl⟩)
        have HB1 := Lib.hid (HBW.out.trans (hb1.mono HBW.out.size))
        clear hf4 hl hb1
        go_wp2_with fail
        go_roundw
        case rel => exact ⟨1, by omega, rfl, fun _ => HOKF.out, fun h => by omega, HB1.out⟩
        case measure => simp [intOf]
      · have e0 : (x != 0) = true := by simpa using hx
        have HE := Lib.hid (ERR.out x hx w1 (HBR.out.trans (hb1.mono HBR.out.size)) (fun h => hno h.1))
        clear hno hx hb1
        go_wp2_with fail
        refine bodyPost_ret (v := .tuple #[.slice none 0 0, .slice none 0 0, .int .u64 0, .int .i64 x]) (by simp [results, Try.results32, go_sem]) rfl ?_
        exact HE.out
    · go_wp2_with fail
      refine (HOT.out _ HBR.out).mono ?_
      rintro e w1 (⟨hf4, l, hl, v, C, rfl, -, hb1⟩ | ⟨hno, x, hx, rfl, hb1⟩)
      · have HOKT := Lib.hid (show OkH t from ⟨hf4, l, hl⟩)
        have HB1 := Lib.hid (HBW.out.trans (hb1.mono HBW.out.size))
        clear hf4 hl hb1
        go_wp2_with fail
        go_roundw
        case rel => exact ⟨2, by omega, rfl, fun _ => HO1.out (by omega), fun _ => HOKT.out, HB1.out⟩
        case measure => simp [intOf]
      · have e0 : (x != 0) = true := by simpa using hx
        have HE := Lib.hid (ERR.out x hx w1 (HBR.out.trans (hb1.mono HBR.out.size)) (fun h => hno h.2.1))
        clear hno hx hb1
        go_wp2_with fail
        refine bodyPost_ret (v := .tuple #[.slice none 0 0, .slice none 0 0, .int .u64 0, .int .i64 x]) (by simp [results, Try.results32, go_sem]) rfl ?_
        exact HE.out
    · have HOKF := Lib.hid (HO1.out (by omega))
      have HOKT := Lib.hid (HO2.out (by omega))
      have HCF := Lib.hid (fun Wx (hb : Below w.heap.size w Wx) => cloneH_any fA fc f Wx (HF.out.below hb) (by rw [HFN.out]; exact hfl))
      have HCT := Lib.hid (fun Wx (hb : Below w.heap.size w Wx) => cloneH_any tA tc t Wx (HT.out.below hb) (by rw [HTN.out]; exact htl))
      rw [HFN.out] at HCF
      rw [HTN.out] at HCT
      clear c0 c1
      go_wp2_with fail
      refine (HCF.out _ HBR.out).mono ?_
      rintro e w3 ⟨A3, c3, rfl, hO3, hb3⟩
      have HO3 := Lib.hid hO3
      have HB3 := Lib.hid (HBR.out.trans (hb3.mono HBR.out.size))
      have hz3 := hb3.size
      clear hO3 hb3
      go_wp2_with fail
      refine (HCT.out _ HB3.out).mono ?_
      rintro e w4 ⟨A4, c4, rfl, hO4, hb4⟩
      have HO4 := Lib.hid hO4
      have HB4 := Lib.hid (HB3.out.trans (hb4.mono HB3.out.size))
      have HO34 := Lib.hid (HO3.out.below hb4)
      have hz4 := hb4.size
      clear hO4 hb4
      obtain ⟨W4, hW4⟩ : ∃ W4, W4 = (w4.alloc (.map #[] 0)).alloc (.cells #[.slice A3 fn c3, .slice A4 tn c4, .map (some w4.heap.size), .slice none 0 0] 112) := ⟨_, rfl⟩
      have hb44 : Below w4.heap.size w4 W4 := by rw [hW4]; exact ((Below.refl _ _).alloc (Nat.le_refl _) _).alloc (by simp) _
      have HTS := Lib.hid (show TS f A3 c3 (w4.heap.size + 1) w4.heap.size w.heap.size W4 ⟨t, [], []⟩ (.slice A4 tn c4) (.slice none 0 0) from by
        have hm : OwnMU W4 w4.heap.size 0 (mapC []) := by
          have h1 : OwnMU (w4.alloc (.map #[] 0)) w4.heap.size 0 (fun _ => none) := OwnMU.made w4
          have e1 : mapC [] = fun _ => none := by funext y; unfold mapC; split <;> rfl
          rw [e1, hW4]
          exact h1.kept (World.grownBy_alloc _ _ none) (by simp)
        refine ⟨by rw [hW4, HFN.out]; simp [go_sem], by rw [hW4]; simp [go_sem], by rw [hW4]; simp [go_sem], by rw [hW4]; simp [go_sem], fun o => by rw [hW4]; simp [go_sem], ?_, ?_, hm, OwnI.nil _ _, fun k hk => ?_, fun k hk => ?_, fun k hk => by simp [Value.ownBlock] at hk, by omega, by omega, by omega, by rw [hW4]; simp⟩
        · rw [HFN.out]; exact (HO34.out.below hb44).mono (by omega)
        · exact (HO4.out.below hb44).mono (by omega)
        · rw [HFN.out] at hk
          have := (HO34.out.blk k hk).2
          exact ⟨by omega, by omega, by simp [Value.ownBlock]⟩
        · have := (HO4.out.blk k hk).2
          exact ⟨by omega, by omega, by simp [Value.ownBlock]⟩)
      have HB4' := Lib.hid (HB4.out.trans (hb44.mono HB4.out.size))
      have hz44 : w4.heap.size + 2 ≤ W4.heap.size := by rw [hW4]; simp
      have HWD := Lib.hid (word_any f HF64.out (HOKF.out.1) 40 A3 c3 (w4.heap.size + 1) w4.heap.size w.heap.size wd ⟨t, [], []⟩ _ _ 1 W4 HTS.out ⟨HOKT.out.1, HT64.out, by simp, (fun a p h => by cases h), (fun a h => by cases h), by simp⟩ hwd (by omega) (by omega) (by omega))
      rw [HWI.out] at HWD
      clear hb44
      have hmm := @run_makeMap Try.prog
      go_wp2_with fail
      rw [← hW4]
      clear hW4
      refine HWD.out.mono ?_
      rintro e w5 ⟨q, x, rfl, hfr, hres⟩
      have HB5 := Lib.hid (HB4'.out.trans (hfr.below (by omega) (by omega) (by omega) (fun k hk => by simp [Value.ownBlock] at hk)))
      have hz5 := hfr.size
      clear hfr
      rcases hres with ⟨hx, hno⟩ | ⟨rfl, st, tv, cv, hcs, hTS, -, htb⟩
      · have e0 : (x != 0) = true := by simpa using hx
        have HE := Lib.hid (ERR.out x hx w5 HB5.out (fun ⟨_, _, q, st, h⟩ => by rw [hno] at h; cases h))
        clear hx hno
        go_wp2_with fail
        refine bodyPost_ret (v := .tuple #[.slice none 0 0, .slice none 0 0, .int .u64 0, .int .i64 x]) (by simp [results, Try.results32, go_sem]) rfl ?_
        exact HE.out
      · have HTS5 := Lib.hid hTS
        have HCS := Lib.hid hcs
        have HOKS := Lib.hid (show OkS f st from (carW_ok HF64.out 40 wd ⟨t, [], []⟩ q st hwd ⟨HOKT.out.1, HT64.out, by simp, (fun a p h => by cases h), (fun a h => by cases h), by simp⟩ hcs).1)
        obtain ⟨cA, cc, rfl, hc1, hc2, hc3⟩ := own_any hTS.cells
        obtain ⟨cn, hcn⟩ : ∃ cn, (st.cells.map fun a : Nat => (a : Int)).length = cn := ⟨_, rfl⟩
        have HCN := Lib.hid hcn
        have hcn4 : cn ≤ 4000 := by
          rw [← hcn, List.length_map]
          have h1 := HOKS.out.fewer
          have h2 := HOKS.out.few
          have h3 := HOKS.out.room
          omega
        have htne : ∀ k, (Value.slice A3 fn c3).ownBlock = some k → tv.ownBlock ≠ some k := fun k hk e => by
          have h3 := (HO3.out.blk k hk).2
          rcases htb with e2 | ⟨j, e2, hj⟩
          · rw [e2] at e; have := (HO4.out.blk k e).1; omega
          · rw [e2] at e; injection e with e; omega
        have HTNE := Lib.hid htne
        have hf0 : w5.cell? ⟨w4.heap.size + 1, 0, none⟩ = some (.slice A3 fn c3) := by have := hTS.f; rwa [HFN.out] at this
        have hf1 := hTS.t
        have hf3 : w5.cell? ⟨w4.heap.size + 1, 3, none⟩ = some (.slice cA cn cc) := by have := hTS.c; rwa [hcn] at this
        have hfrm : OwnU w5 w.heap.size (.slice A3 fn c3) f := by have := hTS.frm; rwa [HFN.out] at this
        have HFRM := Lib.hid hfrm
        have htow := hTS.tow
        have HTOW := Lib.hid htow
        obtain ⟨vA, vn, rfl, _, _, _⟩ := own_any htow
        have hcel : OwnI w5 w.heap.size (.slice cA cn cc) (st.cells.map fun a : Nat => (a : Int)) := by have := hTS.cells; rwa [hcn] at this
        have HCEL := Lib.hid hcel
        have HFB := Lib.hid (show ∀ k, (Value.slice A3 fn c3).ownBlock = some k → k ≠ w4.heap.size + 1 ∧ (Value.slice cA cn cc).ownBlock ≠ some k from fun k hk => by
          have := hTS.fb k (by rw [HFN.out]; exact hk)
          exact ⟨this.1, by have h3 := this.2.2; rwa [hcn] at h3⟩)
        have hb5l : w4.heap.size + 1 < w5.heap.size := hTS.b4
        have HPG := Lib.hid (show Calls Try.prog 31 #[.slice none 0 0, .agg #[.int .i64 0, .int .i64 1, .int .i64 0, .string ⟨#[]⟩, .slice none 0 0]] w5 fun e w' => ∃ A c, e = .returned (.tuple #[.slice A 2 c, .int .i64 0, .int .i64 0]) ∧ OwnU w' w5.heap.size (.slice A 2 c) [1, 0] ∧ Below w5.heap.size w5 w' from
          (Put_ok [] none 0 ⟨1, 0, ⟨#[]⟩, []⟩ 0 none 0 w5 (Su.nil w5) (Su.nil w5) ⟨by decide, by rw [gone_words]; simp⟩).mono fun e w' h => by
            unfold PutOk at h
            rw [List.nil_append, gone_words] at h
            exact h)
        clear hTS hcs htb hcn htne hfrm htow hcel
        go_wp2_with fail
        refine HPG.out.mono ?_
        rintro e w6 ⟨A6, c6, rfl, hO6, hb6⟩
        have HG6 := Lib.hid hO6
        have HB6 := Lib.hid (HB5.out.trans (hb6.mono HB5.out.size))
        have hz6 := hb6.size
        have k0 : w6.cell? ⟨w4.heap.size + 1, 0, none⟩ = some (.slice A3 fn c3) := (hb6.cell (p := ⟨w4.heap.size + 1, 0, none⟩) hb5l).trans hf0
        have k1 : w6.cell? ⟨w4.heap.size + 1, 1, none⟩ = some (.slice vA st.to.length vn) := (hb6.cell (p := ⟨w4.heap.size + 1, 1, none⟩) hb5l).trans hf1
        have k3 : w6.cell? ⟨w4.heap.size + 1, 3, none⟩ = some (.slice cA cn cc) := (hb6.cell (p := ⟨w4.heap.size + 1, 3, none⟩) hb5l).trans hf3
        have HFRM6 := Lib.hid (HFRM.out.below hb6)
        have HTOW6 := Lib.hid (HTOW.out.below hb6)
        have HCEL6 := Lib.hid (HCEL.out.below hb6)
        clear hO6 hb6 hf0 hf1 hf3
        go_wp2_with fail
        go_loopw [21, 66] (fun _ i wr => ∃ k : Nat, k ≤ cn ∧ i = .int .i64 (k : Int) ∧ OwnU wr w.heap.size (.slice A3 fn c3) (emptied f (st.cells.take k)) ∧ OwnU wr w.heap.size (.slice vA st.to.length vn) st.to ∧ OwnI wr w.heap.size (.slice cA cn cc) (st.cells.map fun a : Nat => (a : Int)) ∧ OwnU wr w5.heap.size (.slice A6 2 c6) [1, 0] ∧ wr.cell? ⟨w4.heap.size + 1, 0, none⟩ = some (.slice A3 fn c3) ∧ wr.cell? ⟨w4.heap.size + 1, 1, none⟩ = some (.slice vA st.to.length vn) ∧ w6.heap.size ≤ wr.heap.size ∧ Below w.heap.size w wr) (fun _ i _ => cn - (intOf i).toNat)
        case atStart => exact ⟨0, Nat.zero_le _, rfl, HFRM6.out, HTOW6.out, HCEL6.out, HG6.out, k0, k1, Nat.le_refl _, HB6.out⟩
        case round =>
          obtain ⟨k, hk, rfl, ho1, ho2, ho3, ho4, j0, j1, hzr6, hbr⟩ := hrel
          have HO1r := Lib.hid ho1
          have HO2r := Lib.hid ho2
          have HO3r := Lib.hid ho3
          have HO4r := Lib.hid ho4
          have HBrr := Lib.hid hbr
          clear ho1 ho2 ho3 ho4 hbr k0 k1 k3
          by_cases hlt : k < cn
          · have hkl : k < st.cells.length := by have := HCN.out; rw [List.length_map] at this; omega
            obtain ⟨a, ha⟩ : ∃ a, st.cells[k] = a := ⟨_, rfl⟩
            have haf : a < fn := by rw [← HFN.out]; exact HOKS.out.cells a (by rw [← ha]; exact List.getElem_mem _)
            have hfl4 : f.length ≤ 4000 := HOKF.out.1
            have hfn4 : fn ≤ 4000 := by rw [← HFN.out]; exact hfl4
            have hel : (emptied f (st.cells.take k)).length = fn := by
              rw [emptied_len _ _ (fun b hb => Nat.le_of_lt (HOKS.out.cells b (List.mem_of_mem_take hb))), HFN.out]
            have htk : st.cells.take (k + 1) = st.cells.take k ++ [a] := by rw [List.take_add_one, List.getElem?_eq_getElem hkl, ha]; rfl
            have hc0 : ∃ cg, cA = some ⟨cg, 0, none⟩ ∧ wr.cell? ⟨cg, k, none⟩ = some (.int .i64 (a : Int)) := by
              have h1 := HO3r.out
              have h2 : cn = (st.cells.map fun a : Nat => (a : Int)).length := HCN.out.symm
              rw [h2] at h1
              obtain ⟨b', o', hA', _, hc'⟩ := h1.rd (by rw [List.length_map]; omega)
              obtain ⟨g2, cap2, hv2, _⟩ := own_form h1 (by rw [List.length_map]; omega)
              injection hv2 with e1 _ _
              rw [e1] at hA'
              injection hA' with hA'
              injection hA' with e2 e3
              refine ⟨g2, e1, ?_⟩
              have := hc' k (by rw [List.length_map]; omega) 0 (.int .i64 (a : Int)) (by
                unfold tmC lst
                simp [List.getD, hkl, ha])
              rw [← e2, ← e3] at this
              simpa using this
            obtain ⟨cg, rfl, c0⟩ := hc0
            obtain ⟨g, cap3, hv3, hgb, hgl, hcp1, hcp2⟩ := own_form HO1r.out (by rw [hel]; omega)
            injection hv3 with e1 e2 e3
            subst e1 e3
            clear e2
            obtain ⟨r, hr⟩ : ∃ r, a + r = fn := ⟨fn - a, by omega⟩
            have hcp : fn ≤ c3 := by rw [hel] at hcp1; exact hcp1
            obtain ⟨d, hd⟩ : ∃ d, a + d = c3 := ⟨c3 - a, by omega⟩
            have hcut := cutH_at g fn c3 a r d hr hd (by omega) hcp
            obtain ⟨m', w7, hcopy, hO7, hg7⟩ := copy_gone (d := d) HO1r.out hel hr (by omega) HO4r.out
            have HO7 := Lib.hid hO7
            have HG7 := Lib.hid hg7
            have HTK := Lib.hid htk
            have hgne := HFB.out g rfl
            have hgw5 : g < w3.heap.size := (HO3.out.blk g rfl).2
            have HREL := Lib.hid (show OwnU w7 w.heap.size (.slice (some ⟨g, 0, none⟩) fn c3) (emptied f (st.cells.take (k + 1))) ∧ OwnU w7 w.heap.size (.slice vA st.to.length vn) st.to ∧ OwnI w7 w.heap.size (.slice (some ⟨cg, 0, none⟩) cn cc) (st.cells.map fun a : Nat => (a : Int)) ∧ OwnU w7 w5.heap.size (.slice A6 2 c6) [1, 0] ∧ w7.cell? ⟨w4.heap.size + 1, 0, none⟩ = some (.slice (some ⟨g, 0, none⟩) fn c3) ∧ w7.cell? ⟨w4.heap.size + 1, 1, none⟩ = some (.slice vA st.to.length vn) ∧ w6.heap.size ≤ w7.heap.size ∧ Below w.heap.size w w7 from by
              have hz7 := hg7.size
              refine ⟨?_, HO2r.out.grown hg7 (fun j hj e => by injection e with e; subst e; exact HTNE.out g rfl hj), HO3r.out.grown hg7 (fun j hj e => by injection e with e; subst e; exact hgne.2 hj), HO4r.out.grown hg7 (fun j hj e => by injection e with e; have := (HO4r.out.blk j hj).1; omega), (grown_cell hg7 (by omega) (fun e => by injection e with e; exact hgne.1 e.symm)).trans j0, (grown_cell hg7 (by omega) (fun e => by injection e with e; exact hgne.1 e.symm)).trans j1, by omega, below_grown HBrr.out HBrr.out.size hg7 (fun j hj => by injection hj with hj; omega)⟩
              rw [htk, emptied_snoc]
              exact hO7)
            have i1 : (0 : Int) ≤ (k : Int) := by omega
            have i2 : (k : Int) < (cn : Int) := by omega
            have i3 : k < 4000 := by omega
            clear hO7 hg7 htk hel ha hr hd hgne
            go_wp2_with fail
            go_roundw
            case rel => exact ⟨k + 1, by omega, by go_num, HREL.out⟩
            case measure => simp [intOf]; omega
          · obtain rfl : k = cn := by omega
            have FIN := Lib.hid (show ∀ W', Below wr.heap.size wr W' → OverPost f t wd w (.returned (.tuple #[.slice A3 fn c3, .slice vA st.to.length vn, .int .u64 (q : Int), .int .i64 0])) W' from fun W' hb => .inr ⟨HOKF.out, HOKT.out, q, st, HCS.out, _, _, rfl, by
              have h1 : st.cells.take k = st.cells := by rw [← HCN.out, List.length_map, List.take_length]
              have h2 := HO1r.out
              rw [h1] at h2
              exact h2.below hb, HO2r.out.below hb, HBrr.out.trans (hb.mono HBrr.out.size)⟩)
            go_wp2_with fail
            go_quiet (fail)
            all_goals
              go_wp2_with fail
              refine bodyPost_ret (v := .tuple #[.slice A3 fn c3, .slice vA st.to.length vn, .int .u64 (q : Int), .int .i64 0]) (by simp [results, Try.results32, go_sem]) rfl ?_
              exact FIN.out _ (below_drewN (Below.refl _ _) _)
end Go.Proofs.Ytkdbnkkdohkhjaa
