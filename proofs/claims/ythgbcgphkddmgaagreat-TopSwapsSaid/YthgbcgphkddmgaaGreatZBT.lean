/- A cluster with live lines: a tick. A play of the law TopSwaps. Rows of ways that are the same. Lemmas for the walk of the law TopSwaps: two clusters side by side. -/
import Derived.Test.YthgbcgphkddmgaaGreatZBS
import Derived.Test.YthgbcgphkddmgaaGreatZAI
import Derived.Test.YthgbcgphkddmgaaGreatZBN
import Derived.Test.YthgbcgphkddmgaaGreatZBP
import Derived.Deep.QuietTactic
import Derived.BigQuiet
import Derived.Test.YthgbcgphkddmgaaGreatZBQ
namespace Go.Proofs.YthgbcgphkddmgaaGreat
open Go.RowKit Go.Maps
set_option linter.unusedVariables false
set_option linter.unusedSimpArgs false
section
variable {w w' : World} {X X' Mc D : Nat → Prop} {base T T' : Nat} {bl : CBk → Nat} {pn : Nat → Nat} {rv rv' : RBk → Value} {Bd Bd' : Nat → Prop} {M : Nat → Nat → Prop} {Pn : Nat → Int → Nat} {C C' : GcS}
theorem GcG.widen (h : GcG w X Mc base T bl pn rv Bd M Pn C) {r : Nat} (hr : X r ∧ base ≤ r) : GcG w X (fun k => Mc k ∨ k = r) base T bl pn rv Bd M Pn C :=
  ⟨h.n8, h.inj, fun a ha => ⟨.inl (h.own a ha).1, (h.own a ha).2⟩, fun r hr k hk => ⟨.inl (h.row r hr k hk).1, (h.row r hr k hk).2⟩, fun k hk => ⟨.inl (h.bod k hk).1, (h.bod k hk).2⟩, fun i hi k hk => .inl (h.sub i hi k hk), fun k hk => by
    rcases hk with hk | hk
    · exact h.mx k hk
    · rw [hk]; exact hr, h.dis, h.nd, h.ids, h.cc, h.cr⟩
theorem Gr.wide {M' : Nat → Prop} (h : Gr X Mc w X' M' w') (r : Nat) : Gr X (fun k => Mc k ∨ k = r) w X' (fun k => M' k ∨ k = r) w' :=
  ⟨h.fr.weak (fun _ h => .inl h), h.up, h.xs, fun k hk => by
    rcases hk with hk | hk
    · rcases h.ms k hk with e | e
      · exact .inl (.inl e)
      · exact .inr e
    · exact .inl (.inr hk)⟩
/-- ends that are none do not count -/
theorem GcG.encong (h : GcG w X Mc base T bl pn rv Bd M Pn C) {f : Nat → Nat → EnS} (hf : ∀ a b, a < C.n → b < C.n → a ≠ b → f a b = C.en a b) : GcG w X Mc base T bl pn rv Bd M Pn { C with en := f } :=
  ⟨h.n8, h.inj, h.own, h.row, h.bod, h.sub, h.mx, h.dis, h.nd, h.ids, fun a ha => by
    have hc := h.cc a ha
    cases a with
    | Ed i k =>
      obtain ⟨V, U, h1⟩ := hc
      refine ⟨V, U, ?_⟩
      show EndG w (bl (.Ed i k)) base Bd (rv (.Out i k)) (rv (.Inn i k)) V U (f i k)
      rw [hf i k ha.1 ha.2.1 ha.2.2]
      exact h1
    | _ => exact hc, fun r hr => by
    have hc := h.cr r hr
    cases r <;> exact hc⟩
/-- the ends of ways in L have ticked, those from i -/
def tickE (i : Nat) (C : GcS) (L : List (Nat × Nat)) : GcS := { C with en := fun a b => if a = i ∧ (a + 1, b + 1) ∈ L then (C.en a b).tick else C.en a b }
theorem tickE_nil (i : Nat) (C : GcS) : tickE i C [] = C := by
  have : (fun a b => if a = i ∧ (a + 1, b + 1) ∈ ([] : List (Nat × Nat)) then (C.en a b).tick else C.en a b) = C.en := by
    funext a b
    rw [if_neg (fun h => by cases h.2)]
  unfold tickE
  rw [this]
theorem tickE_skip {i x y : Nat} {C : GcS} {L : List (Nat × Nat)} (h : x ≠ i) : tickE i C (L ++ [(x + 1, y + 1)]) = tickE i C L := by
  have : (fun a b => if a = i ∧ (a + 1, b + 1) ∈ L ++ [(x + 1, y + 1)] then (C.en a b).tick else C.en a b) = fun a b => if a = i ∧ (a + 1, b + 1) ∈ L then (C.en a b).tick else C.en a b := by
    funext a b
    by_cases e : a = i
    · have : ((a + 1, b + 1) ∈ L ++ [(x + 1, y + 1)]) ↔ (a + 1, b + 1) ∈ L := by
        rw [List.mem_append, List.mem_singleton]
        refine ⟨fun h2 => ?_, .inl⟩
        rcases h2 with h2 | h2
        · exact h2
        · injection h2 with h3 h4
          omega
      simp only [this]
    · rw [if_neg (fun h2 => e h2.1), if_neg (fun h2 => e h2.1)]
  unfold tickE
  rw [this]
theorem tickE_more {i y : Nat} {C : GcS} {L : List (Nat × Nat)} (h : (i + 1, y + 1) ∉ L) : tickE i C (L ++ [(i + 1, y + 1)]) = { tickE i C L with en := upd2 (tickE i C L).en i y ((tickE i C L).en i y).tick } ∧ (tickE i C L).en i y = C.en i y := by
  have h1 : (tickE i C L).en i y = C.en i y := by
    show (if i = i ∧ (i + 1, y + 1) ∈ L then _ else _) = _
    rw [if_neg (fun h2 => h h2.2)]
  refine ⟨?_, h1⟩
  rw [h1]
  have : (fun a b => if a = i ∧ (a + 1, b + 1) ∈ L ++ [(i + 1, y + 1)] then (C.en a b).tick else C.en a b) = upd2 (tickE i C L).en i y (C.en i y).tick := by
    funext a b
    by_cases e : a = i ∧ b = y
    · obtain ⟨rfl, rfl⟩ := e
      rw [upd2_self, if_pos ⟨rfl, by simp⟩]
    · rw [upd2_ne _ _ e]
      show _ = if a = i ∧ (a + 1, b + 1) ∈ L then (C.en a b).tick else C.en a b
      by_cases e1 : a = i
      · have : ((a + 1, b + 1) ∈ L ++ [(i + 1, y + 1)]) ↔ (a + 1, b + 1) ∈ L := by
          rw [List.mem_append, List.mem_singleton]
          refine ⟨fun h2 => ?_, .inl⟩
          rcases h2 with h2 | h2
          · exact h2
          · injection h2 with h3 h4
            exact absurd ⟨e1, by omega⟩ e
        simp only [this]
      · rw [if_neg (fun h2 => e1 h2.1), if_neg (fun h2 => e1 h2.1)]
  unfold tickE
  unfold tickE at this
  rw [this]
theorem endsG_inv {bl : CBk → Nat} {n x y : Nat} {v : Value} (h : endsG bl n x y = some v) : ∃ a b, x = a + 1 ∧ y = b + 1 ∧ a < n ∧ b < n ∧ a ≠ b ∧ v = .pointer (some ⟨bl (.Ed a b), 0, none⟩) := by
  unfold endsG at h
  split at h
  · rename_i hc
    injection h with h
    exact ⟨x - 1, y - 1, by omega, by omega, by omega, by omega, by omega, h.symm⟩
  · cases h
def GTickPost (X Mc : Nat → Prop) (base T : Nat) (bl : CBk → Nat) (pn : Nat → Nat) (C' : GcS) (w : World) (e : Ending) (w' : World) : Prop :=
  e = .returned (.int .i64 0) ∧ ∃ X' Mc', Gr X Mc w X' Mc' w' ∧ GcAt w' X' Mc' base T bl pn C'
set_option maxRecDepth 100000 in
set_option maxHeartbeats 4000000 in
theorem gtick_any (h : GcG w X Mc base T bl pn rv Bd M Pn C) {i : Nat} (hi : i < C.n) (L : List FL) (hout : (tickN (C.nd i)).out = L.map flT) (hL : ∀ f, f ∈ L → f.ok ∧ ∃ k, k < C.n ∧ k ≠ i ∧ f.dst / 1000 = k + 1) (ht : ∀ a, a ∈ (C.nd i).acts → a.ticks ≤ 9223372036854775807) (hwt : ∀ k, k < C.n → ∀ x, x ∈ C.wt i k → x.ok) (hlen : ∀ k, k < C.n → (C.tr i k).length + (C.wt i k).length + L.length ≤ 1000000) (hll : C.ll ≤ 1000000) :
    Calls Tryz.prog 26 #[.pointer (some ⟨bl .P, 0, none⟩), .int .i64 ((i : Int) + 1)] w (GTickPost X Mc base T bl pn (tickS i C) w) := by
  have h8 := h.n8
  obtain ⟨ca, c0⟩ := (show GcP w bl C.n (rv .Air) (rv .Log) from h.cc .P trivial).c0
  have HAT := Lib.hid (at_any (bl .P) C.n (bl .Va) ca i (pn i) ((i : Int) + 1) w c0 hi (by omega) rfl ((show ∀ i, i < C.n → _ from h.cc .Va trivial) i hi))
  have HTH := Lib.hid (there_any (bl .P) C.n ca _ ((i : Int) + 1) w c0 (by omega) (by omega))
  have HTI := Lib.hid (tick_any (h.nd i hi) ht)
  have HH := Lib.hid h
  have HO := Lib.hid hout
  have HFA := Lib.hid (And.intro hL (And.intro hwt hlen))
  clear h c0 hout hL hwt hlen ht
  go_enter Tryz.func26, Tryz.ntmps26
  go_wp2_with fail
  refine HTH.out.mono ?_
  rintro e w1 ⟨rfl, rfl⟩
  go_wp2_with fail
  refine HAT.out.mono ?_
  rintro e w1 ⟨rfl, rfl⟩
  go_wp2_with fail
  refine HTI.out.mono ?_
  rintro e w2 ⟨rfl, X2, M2, hg, hN⟩
  have HC := Lib.hid (HH.out.node hi hg hN (Nat.le_refl _) (by show (C.nd i).id = _; exact HH.out.ids i hi))
  have HG := Lib.hid (Gr.gc HH.out hi hg)
  obtain ⟨C1, hC1⟩ : ∃ C1 : GcS, C1 = { C with nd := updN C.nd i (tickN (C.nd i)) } := ⟨_, rfl⟩
  rw [← hC1] at HC
  have HC1 := Lib.hid hC1
  have HN1 := Lib.hid (show C1.n = C.n by rw [hC1])
  obtain ⟨Mc1, hMc1⟩ : ∃ Mc1, Mc1 = (fun k => Mc k ∨ M2 k) := ⟨_, rfl⟩
  rw [← hMc1] at HC HG
  obtain ⟨M1, hM1⟩ : ∃ M1, M1 = updN M i M2 := ⟨_, rfl⟩
  rw [← hM1] at HC
  clear hg hN HAT HTH HTI hC1 hMc1 hM1
  have c2 := (show GcP w2 bl C1.n (rv .Air) (rv .Log) from HC.out.cc .P trivial).c2
  obtain ⟨me, hme9, hme⟩ : ∃ m, m ≤ 100 ∧ OwnW w2 (bl .Me) m (endsG bl C1.n) := HC.out.cc .Me trivial
  have HME := Lib.hid hme
  clear hme
  go_wp2_with (first | (at_range; go_loud (refine wp_range_W rfl _ 81 97 rfl und_mwe (bl .Me) _ _ rfl HME.out ?_); intro w0 hrng hfr hsz; have HRNG := Lib.hid hrng; have HFR0 := Lib.hid hfr; have HSZ := Lib.hid hsz; clear hrng hfr hsz))
  go_frame
  obtain ⟨r, hr⟩ : ∃ r, w2.heap.size = r := ⟨_, rfl⟩
  rw [hr] at HRNG
  rw [hr]
  have HX2 := Lib.hid HC.out.xlt
  have HR := Lib.hid hr
  have HC0 := Lib.hid (show GcG w0 (fun k => X2 k ∨ k = r) Mc1 base T bl pn rv Bd M1 (updN Pn i (Pn i)) (tickE i C1 []) by
    rw [tickE_nil]
    exact HC.out.fr HFR0.out (fun _ h => h.elim) (fun k hk => .inl hk) (fun k hk => by
      rcases hk with hk | hk
      · exact .inl hk
      · exact .inr ⟨by have := HR.out; omega, by have := HR.out; have := HSZ.out; omega⟩))
  have HXR := Lib.hid (show ¬ Mc1 r ∧ base ≤ r from ⟨fun hm => by have := HC.out.mlt _ hm; have := HR.out; omega, by have := HC.out.bw; have := HR.out; omega⟩)
  have HGT := Lib.hid (show Gr X Mc w1 (fun k => X2 k ∨ k = r) (fun k => Mc1 k ∨ k = r) w0 from ⟨HG.out.fr.trans' (HFR0.out.weak (fun _ h => h.elim)), fun k hk => .inl (HG.out.up k hk), fun k hk => by
    rcases hk with hk | hk
    · exact HG.out.xs k hk
    · exact .inr (by have := HG.out.fr.size; have := HR.out; omega), fun k hk => by
    rcases hk with hk | hk
    · exact HG.out.ms k hk
    · exact .inr (by have := HG.out.fr.size; have := HR.out; omega)⟩)
  obtain ⟨P1, hP1⟩ : ∃ P1, P1 = updN Pn i (Pn i) := ⟨_, rfl⟩
  rw [← hP1] at HC0
  have HCr := HC.out.mlt
  have c2 := HFR0.out.cell c2 (fun h => h)
  have hsz0 : r < w0.heap.size := by have := HSZ.out; omega
  clear hr hP1
  go_loopw [5, 6] (fun _ _ wr => Hid (∃ Lw X' Mc' rv', RngW wr (bl .Me) r (endsG bl C1.n) Lw ∧ Gr (fun k => X2 k ∨ k = r) (fun k => Mc1 k ∨ k = r) w0 X' (fun k => Mc' k ∨ k = r) wr ∧ GcG wr X' Mc' base T bl pn rv' Bd M1 P1 (tickE i C1 Lw) ∧ X' r ∧ ¬ Mc' r)) (fun _ _ wr => wr.rangeLeft (bl .Me) r)
  case atStart => exact Lib.hid ⟨[], _, _, rv, HRNG.out, Gr.refl _ _ _, HC0.out, .inr rfl, HXR.out.1⟩
  case round =>
    obtain ⟨Lw, X3, Mc3, rv3, hR, hg3, hG3, hxr, hmr⟩ := hrel.out
    clear hrel
    have HRg := Lib.hid hR
    have HG3 := Lib.hid hg3
    have HC3 := Lib.hid hG3
    have HX3 := Lib.hid (And.intro hxr hmr)
    have c8 := (show GcP wr bl C1.n (rv3 .Air) (rv3 .Log) from hG3.cc .P trivial).c8
    have hfz := (show GcP wr bl C1.n (rv3 .Air) (rv3 .Log) from hG3.cc .P trivial).fz
    have hpl : bl .P < wr.heap.size := World.block_lt_of_cell? wr _ c8
    obtain ⟨xs, hlg⟩ : ∃ xs, wr.ownsRow base 106 4 (rv3 .Log) C1.ll xs := hG3.cr .Log trivial
    obtain ⟨vl, hvl⟩ : ∃ vl, rv3 .Log = vl := ⟨_, rfl⟩
    have HVL := Lib.hid hvl
    rw [hvl] at c8 hlg
    obtain ⟨ll, hl0⟩ : ∃ ll, C1.ll = ll := ⟨_, rfl⟩
    have hll9 : ll ≤ 1000000 := by rw [← hl0, HC1.out]; exact hll
    have HLL := Lib.hid hl0
    rw [hl0] at hlg
    obtain ⟨A9, c9, rfl, -, -, -⟩ := own_any hlg
    have HLG := Lib.hid hlg
    have hvP : ¬ (Value.slice A9 ll c9).ownBlock = some (bl .P) := fun e => (hG3.row .Log trivial _ (by rw [HVL.out]; exact e)).2.2.1 .P trivial rfl
    have hbase : base ≤ wr.heap.size := hG3.bw
    obtain ⟨i0, hi0, hz0, hzs, hzb⟩ := info_parts infoEv
    have hal : ∀ (r : List Value), wr.cell? ⟨bl .P, 8, none⟩ = (wr.alloc (.cells r.toArray 106)).cell? ⟨bl .P, 8, none⟩ := fun r => (World.cell?_alloc_lt wr _ ⟨bl .P, 8, none⟩ hpl).symm
    have HWL := Lib.hid (show r < wr.heap.size ∧ bl .Me ≠ r from ⟨hR.lt.2.1, fun e => hR.lt.2.2 e.symm⟩)
    clear hlg hvl hl0 hR hg3 hG3 hxr hmr
    go_wp2_with (first
      | (at_next; (refine wp_next_W rfl _ rfl (bl .Me) r (endsG bl C1.n) Lw rfl HRg.out ?_ ?_; rotate_left; (intro x y v w5 hx hy hgx hxL hR5 hlt5 hf5 hs5 hen; obtain ⟨a, b, rfl, rfl, ha, hb, hab, rfl⟩ := endsG_inv hgx; rw [wayV_succ] at hen ⊢; have HXL := Lib.hid hxL; have HR5 := Lib.hid hR5; have HF5 := Lib.hid hf5; have HLT5 := Lib.hid hlt5; have HS5 := Lib.hid hs5; have HAB := Lib.hid (And.intro ha (And.intro hb hab)); clear hx hy hgx hxL hR5 hf5 hlt5 hs5 ha hb hab c8 hfz); rotate_left; (intro hd; have HD := Lib.hid hd; clear hd)))
      | (at_builtin; go_loud (refine wpList_append_own_at _ rfl _ _ 88 rfl base 106 i0 _ 4 32 Tryz.underlying88 hi0 hz0 hzs hzb rfl (by omega) (.slice A9 ll c9) ll xs rfl ((Fr.refl (fun _ => False) wr).alloc _ |>.row HLG.out (fun _ _ h => h)) ⟨wr.heap.size, 0, none⟩ 1 1 [.int .i64 3, .int .i64 ((i : Int) + 1), .int .i64 0, .int .i64 0] rfl rfl (cell_newL _ _ _ _ rfl) (by intro u hu; simp at hu; rcases hu with rfl | rfl | rfl | rfl <;> rfl) (by unfold maxLen; omega) (by omega) (by simp; omega) ?_; intro v4 w4 hown4 hgrow4 _ hat4; obtain ⟨A4, c4, rfl, -, -, -⟩ := own_any hown4; have HF4 := Lib.hid (show Fr (fun k => (Value.slice A9 ll c9).ownBlock = some k) wr w4 from ((Fr.refl _ wr).alloc _).trans' (Fr.of_grown hgrow4 (fun b hb => .inl hb))); have HG4 := Lib.hid hgrow4; have k8 := HF4.out.cell c8 hvP; have kf := (HF4.out.frozen hpl hvP).trans (hfz 8); have hpl4 := Nat.lt_of_lt_of_le hpl HF4.out.size; have HO4 := Lib.hid hown4; have HA4 := Lib.hid hat4; clear hown4 hgrow4 hat4 hal)))
    · obtain ⟨X4, Mc4, hg4, hG4⟩ := HC3.out.more_log (v' := .slice A4 (ll + 1) c4) ((Fr.refl (fun _ => False) wr).alloc _) (by rw [HVL.out]; exact HG4.out) (by
        show w4.ownsRow base 106 4 _ (C1.ll + 1) _
        rw [HLL.out]
        exact HO4.out) (by
        rw [HVL.out]
        rcases HA4.out with e | e
        · exact .inl e
        · exact .inr ⟨_, e, by simp⟩)
      obtain ⟨W4, hW4⟩ : ∃ W4, W4 = w4.setCell ⟨bl .P, 8, none⟩ (.slice A4 (ll + 1) c4) := ⟨_, rfl⟩
      rw [← hW4] at hg4 hG4
      have hG4' := hG4.encong (f := fun a b => if a = i then (C.en a b).tick else C.en a b) (fun a b ha hb hab => by
        have e1 : C1.en a b = C.en a b := by rw [HC1.out]
        show _ = if a = i ∧ (a + 1, b + 1) ∈ Lw then (C1.en a b).tick else C1.en a b
        rw [e1]
        by_cases e : a = i
        · have hmem : (a + 1, b + 1) ∈ Lw := HD.out (a + 1) (b + 1) (by have ha' : a < C1.n := ha; rw [HN1.out] at ha'; omega) (by have hb' : b < C1.n := hb; rw [HN1.out] at hb'; omega) (by
            have ha' : a < C1.n := ha
            have hb' : b < C1.n := hb
            rw [endsG_at bl ha' hb' hab]; rfl)
          rw [if_pos e, if_pos ⟨e, hmem⟩]
        · rw [if_neg e, if_neg (fun h => e h.1)])
      have hflow := flow_any hG4' (i := i) (by show i < C1.n; rw [HN1.out]; exact hi) L (by show (C1.nd i).out = _; rw [HC1.out]; show (updN C.nd i _ i).out = _; rw [updN_self]; exact HO.out) (by intro f hf; have := HFA.out.1 f hf; show f.ok ∧ ∃ k, k < C1.n ∧ _; rw [HN1.out]; exact this) (by intro k hk; have hk' : k < C1.n := hk; rw [HN1.out] at hk'; show ∀ x, x ∈ C1.wt i k → _; rw [HC1.out]; exact HFA.out.2.1 k hk') (by intro k hk; have hk' : k < C1.n := hk; rw [HN1.out] at hk'; show (C1.tr i k).length + (C1.wt i k).length + L.length ≤ 1000000; rw [HC1.out]; exact HFA.out.2.2 k hk')
      have HFL := Lib.hid hflow
      have HW4 := Lib.hid hW4
      have HX4 := Lib.hid hg4.up
      have HG4 := Lib.hid ((HGT.out.trans HG3.out).trans (hg4.wide r))
      clear hflow hW4 hfz k8 kf hg4 hG4 hG4' c8
      rw [← HW4.out]
      refine HFL.out.mono ?_
      rintro e w5 ⟨rfl, X5, M5, hg5, hc5⟩
      have hxr4 := hg5.up r (HX4.out r HX3.out.1)
      have HG5 := Lib.hid (HG4.out.trans (hg5.wide r))
      have HC5 := Lib.hid (show GcAt w5 X5 (fun k => M5 k ∨ k = r) base T bl pn (tickS i C) from by
        show GcAt w5 X5 (fun k => M5 k ∨ k = r) base T bl pn (flowS i _ (outL (tickN (C.nd i)).out))
        rw [HO.out, outL_flT]
        have h1 := hc5
        rw [HC1.out] at h1
        obtain ⟨q1, q2, q3, q4, q5⟩ := h1
        exact ⟨q1, q2, q3, q4, q5.widen ⟨hxr4, HXR.out.2⟩⟩)
      clear hg5 hc5 HFL HG4
      go_wp2_with fail
      exact bodyPost_ret (v := .int .i64 0) (by simp [results, Tryz.results26, go_sem]) rfl ⟨rfl, X5, _, HG5.out, HC5.out⟩
    · have hai' : a = i := by
        have hai : ((a : Int) + 1 == (i : Int) + 1) = true := by assumption
        have := eq_of_beq hai
        omega
      obtain ⟨W5, hW5⟩ : ∃ W5, W5 = w5.alloc (.cells #[.int .i64 ((a : Int) + 1), .int .i64 ((b : Int) + 1)] 100) := ⟨_, rfl⟩
      rw [← hW5]
      have hfb : Fr (fun _ => False) w5 W5 := by rw [hW5]; exact (Fr.refl _ _).alloc _
      have hG5 := HC3.out.fr HF5.out (fun k hk => by rw [show k = r from hk]; exact ⟨HX3.out.1, HXR.out.2, HX3.out.2⟩) (fun _ h => h) (fun _ h => .inl h)
      have hG6 := hG5.new hfb
      obtain ⟨hra, hrl⟩ := HR5.out.fr hfb (fun h => h) (fun h => h)
      have hab : a < (tickE i C1 Lw).n ∧ b < (tickE i C1 Lw).n ∧ a ≠ b := HAB.out
      obtain ⟨V, U, hE⟩ := hG6.cc (.Ed a b) hab
      have HE := Lib.hid hE
      have HG6 := Lib.hid hG6
      have HRA := Lib.hid hra
      have HRL := Lib.hid (show W5.rangeLeft (bl .Me) r < wr.rangeLeft (bl .Me) r by rw [hrl]; exact HLT5.out)
      have HAI := Lib.hid hai'
      have HM := Lib.hid (show Gr (fun k => X2 k ∨ k = r) (fun k => Mc1 k ∨ k = r) w0 X3 (fun k => Mc3 k ∨ k = r) W5 from ⟨(HG3.out.fr.trans (HF5.out.weak (S2 := fun k => k = r) (fun _ h => h)) (fun k hk => .inl (.inr hk))).trans' (hfb.weak (fun _ h => h.elim)), HG3.out.up, HG3.out.xs, HG3.out.ms⟩)
      have HAB' := Lib.hid hab
      clear hW5 hfb hG5 hG6 hra hrl hE hai' hen hab
      refine (etick_any HE.out).mono ?_
      rintro e w7 ⟨rfl, hE7, hf7⟩
      obtain ⟨X7, Mc7, hg7, hG7⟩ := HG6.out.ended HAB'.out.1 HAB'.out.2.1 HAB'.out.2.2 hf7 hE7 (fun _ h => h) (fun _ h => .inl h) (.inl rfl)
      have hai := HAI.out
      subst hai
      obtain ⟨hm1, hm2⟩ := tickE_more (C := C1) HXL.out
      obtain ⟨hra, hrl⟩ := HRA.out.fr hf7 (fun hd => by
        rcases hd with hd | hd
        · exact HC3.out.ne (a := .Me) (b := .Ed a b) trivial HAB'.out (by intro e; cases e) hd
        · exact (HC3.out.row (.Out a b) HAB'.out _ hd).2.2.1 .Me trivial rfl) (fun hd => by
        rcases hd with hd | hd
        · exact HX3.out.2 (hd ▸ (HC3.out.own (.Ed a b) HAB'.out).1)
        · exact HX3.out.2 (HC3.out.row (.Out a b) HAB'.out _ hd).1)
      have HFIN := Lib.hid (show (∃ Lw X' Mc' rv', RngW w7 (bl .Me) r (endsG bl C1.n) Lw ∧ Gr (fun k => X2 k ∨ k = r) (fun k => Mc1 k ∨ k = r) w0 X' (fun k => Mc' k ∨ k = r) w7 ∧ GcG w7 X' Mc' base T bl pn rv' Bd M1 P1 (tickE a C1 Lw) ∧ X' r ∧ ¬ Mc' r) from ⟨_, X7, Mc7, _, hra, HM.out.trans (hg7.wide r), by rw [hm1, ← hm2] at *; exact hG7, hg7.up r HX3.out.1, fun hm => by
        rcases hg7.ms r hm with h | h
        · exact HX3.out.2 h
        · have := HWL.out.1
          have := HM.out.fr.size
          omega⟩)
      have HLT7 := Lib.hid (show w7.rangeLeft (bl .Me) r < wr.rangeLeft (bl .Me) r by rw [hrl]; exact HRL.out)
      clear hra hrl hm1 hm2 hg7 hG7 hE7 hf7
      go_wp2_with fail
      exact ⟨HFIN, HLT7.out⟩
    · have hai' : a ≠ i := by
        have hai : ((a : Int) + 1 == (i : Int) + 1) = false := by assumption
        intro e
        subst e
        simp at hai
      have hfb : Fr (fun _ => False) w5 (w5.alloc (.cells #[.int .i64 ((a : Int) + 1), .int .i64 ((b : Int) + 1)] 100)) := (Fr.refl _ _).alloc _
      have hG5 := HC3.out.fr HF5.out (fun k hk => by rw [show k = r from hk]; exact ⟨HX3.out.1, HXR.out.2, HX3.out.2⟩) (fun _ h => h) (fun _ h => .inl h)
      obtain ⟨hra, hrl⟩ := HR5.out.fr hfb (fun h => h) (fun h => h)
      refine ⟨Lib.hid ⟨_, X3, Mc3, rv3, hra, ⟨(HG3.out.fr.trans (HF5.out.weak (S2 := fun k => k = r) (fun _ h => h)) (fun k hk => .inl (.inr hk))).trans' (hfb.weak (fun _ h => h.elim)), HG3.out.up, HG3.out.xs, HG3.out.ms⟩, ?_, HX3.out⟩, by rw [hrl]; exact HLT5.out⟩
      rw [tickE_skip hai']
      exact hG5.new hfb
end
end Go.Proofs.YthgbcgphkddmgaaGreat
namespace Go.Proofs.YthgbcgphkddmgaaGreat
open Go.RowKit Go.Maps
set_option linter.unusedVariables false
set_option linter.unusedSimpArgs false
theorem tdiv_in {x : Int} (hx : Wf x) {d : Nat} (hd : 1 ≤ d) : -9223372036854775808 ≤ x.tdiv d ∧ x.tdiv d ≤ 9223372036854775807 := by
  have hlow := hx.low
  cases x with
  | ofNat n =>
    have e : (Int.ofNat n).tdiv d = ((n / d : Nat) : Int) := rfl
    rw [e]
    have h1 : (Int.ofNat n) = (n : Int) := rfl
    have h2 := Nat.div_le_self n d
    generalize n / d = q at h2 ⊢
    omega
  | negSucc n =>
    have e : (Int.negSucc n).tdiv d = -(((n + 1) / d : Nat) : Int) := by
      cases d with
      | zero => omega
      | succ d => rfl
    rw [e]
    have h1 : (Int.negSucc n) = -((n : Int) + 1) := by omega
    have h2 := Nat.div_le_self (n + 1) d
    generalize (n + 1) / d = q at h2 ⊢
    omega
section
variable {w w' : World} {X X' X0 Mc D : Nat → Prop} {b0 base T T' : Nat} {bl : CBk → Nat} {pn : Nat → Nat} {rv rv' : RBk → Value} {Bd Bd' : Nat → Prop} {M : Nat → Nat → Prop} {Pn : Nat → Int → Nat} {C C' : GcS}
theorem GcG.up (h : GcG w X Mc base T bl pn rv Bd M Pn C) (hT : T ≤ T') : GcG w X Mc base T' bl pn rv Bd M Pn C :=
  ⟨h.n8, h.inj, h.own, h.row, h.bod, h.sub, h.mx, h.dis, fun i hi => (h.nd i hi).up hT, h.ids, h.cc, h.cr⟩
theorem GcAt.up (h : GcAt w X Mc base T bl pn C) (hT : T ≤ T') : GcAt w X Mc base T' bl pn C := by
  obtain ⟨rv, Bd, M, Pn, h⟩ := h
  exact ⟨rv, Bd, M, Pn, h.up hT⟩
/-- a live cluster, made since s beside what others may write -/
def LvC (X0 : Nat → Prop) (b0 s T : Nat) (w : World) (bl : CBk → Nat) (pn : Nat → Nat) (C : GcS) : Prop :=
  ∃ X Mc, (∀ k, X0 k → X k) ∧ (∀ k, X k → X0 k ∨ s ≤ k) ∧ (∀ k, Mc k → s ≤ k) ∧ GcAt w X Mc b0 T bl pn C
theorem LvC.call {s : Nat} {Mc' : Nat → Prop} (h1 : ∀ k, X0 k → X k) (h2 : ∀ k, X k → X0 k ∨ s ≤ k) (h3 : ∀ k, Mc k → s ≤ k) (hs : s ≤ w.heap.size) (hg : Gr X Mc w X' Mc' w') (hc' : GcAt w' X' Mc' b0 T' bl pn C') : LvC X0 b0 s T' w' bl pn C' ∧ Fr (fun k => s ≤ k) w w' :=
  ⟨⟨X', Mc', fun k hk => hg.up k (h1 k hk), fun k hk => by
    rcases hg.xs k hk with e | e
    · exact h2 k e
    · exact .inr (by omega), fun k hk => by
    rcases hg.ms k hk with e | e
    · exact h3 k e
    · omega, hc'⟩, hg.fr.weak h3⟩
def PlayPost (X0 : Nat → Prop) (b0 n : Nat) (C0 : GcS) (m : Nat) (F : Nat → Int) (w : World) (e : Ending) (w' : World) : Prop :=
  ∃ bl pn, e = .returned (.tuple #[.pointer (some ⟨bl .P, 0, none⟩), .bool true]) ∧ LvC X0 b0 w.heap.size 1000000000 w' bl pn (playS n F C0 m) ∧ Below w.heap.size w w'
set_option maxRecDepth 100000 in
set_option maxHeartbeats 8000000 in
theorem play_any (X0 : Nat → Prop) (b0 n nb pb sb : Nat) (w : World) (A : Option Addr) (n0 c : Nat) (G : Nat → Int) (As : Option Addr) (m cs : Nat) (F : Nat → Int) (hX0 : ∀ k, X0 k → k < w.heap.size) (hb0 : b0 ≤ w.heap.size) (hn : 2 ≤ n ∧ n ≤ 4) (hnc : n0 ≤ c) (hcm : c ≤ 9223372036854775807) (hA : A = none → n0 = 0) (hR : Rd w 1 (tmC G) A n0) (hwf : ∀ j, j < n0 → (Lit.int .i64 (G j)).wf = true)
    (hm : m ≤ 12) (hRs : Rd w 1 (tmC F) As m) (hwfs : ∀ j, j < m → (Lit.int .i64 (F j)).wf = true) (c0 : w.cell? ⟨nb, 0, none⟩ = some (.int .i64 (n : Int))) (c1 : w.cell? ⟨pb, 0, none⟩ = some (.slice A n0 c)) (c2 : w.cell? ⟨sb, 0, none⟩ = some (.slice As m cs)) :
    Calls Tryz.prog 25 #[.pointer (some ⟨nb, 0, none⟩), .pointer (some ⟨pb, 0, none⟩), .pointer (some ⟨sb, 0, none⟩)] w (PlayPost X0 b0 n (liveC (pumpsC n (plansT n G (min n0 6)) (min n0 6)) 0) m F w) := by
  have HRV := Lib.hid (rvc_any X0 b0 n w A n0 c G hX0 hb0 (by omega) hnc hcm hA hR hwf)
  have HRS := Lib.hid hRs
  have HWS := Lib.hid hwfs
  have hl0 := World.block_lt_of_cell? w _ c0
  have hl2 := World.block_lt_of_cell? w _ c2
  clear hX0 hR hwf hRs hwfs
  go_enter Tryz.func25, Tryz.ntmps25
  go_wp2_with fail
  refine HRV.out.mono ?_
  rintro e w1 ⟨bl, pn, A', c', rfl, -, hC, hb1⟩
  have HB1 := Lib.hid hb1
  have HC := Lib.hid (show LvC X0 b0 w.heap.size (10000 + 60000000 * 0) w1 bl pn (playS n F (liveC (pumpsC n (plansT n G (min n0 6)) (min n0 6)) 0) 0) from by
    rw [plansT_len] at hC
    obtain ⟨X, Mc, h1, h2, h3, ⟨vl, M, Pn, hcq⟩, -⟩ := hC
    exact ⟨X, Mc, h1, h2, h3, _, _, _, _, hcq.live⟩)
  have HI := Lib.hid (show LvI n 0 (liveC (pumpsC n (plansT n G (min n0 6)) (min n0 6)) 0) from by
    have := LvI.start (n := n) (ps := plansT n G (min n0 6)) (by omega) (by rw [plansT_len]; omega) (fun p hp => plansT_ok (by omega) hp)
    rw [plansT_len] at this
    exact this)
  obtain ⟨C0, hC0⟩ : ∃ C0, C0 = liveC (pumpsC n (plansT n G (min n0 6)) (min n0 6)) 0 := ⟨_, rfl⟩
  have HC0 := Lib.hid hC0
  rw [← hC0] at HC HI
  have d0 := (hb1.cell (p := ⟨nb, 0, none⟩) hl0).trans c0
  have d2 := (hb1.cell (p := ⟨sb, 0, none⟩) hl2).trans c2
  clear hC hb1 HRV hC0 c0 c1 c2
  go_wp2_with fail
  go_loopw [9, 10, 22] (fun _ _ v22 wr => ∃ j, j ≤ m ∧ v22 = .int .i64 (j : Int) ∧ Hid (LvC X0 b0 w.heap.size (10000 + 60000000 * j) wr bl pn (playS n F C0 j)) ∧ Hid (Below w.heap.size w wr) ∧ Hid (wr.cell? ⟨nb, 0, none⟩ = some (.int .i64 (n : Int)))) (fun _ _ v22 _ => m - (intOf v22).toNat)
  case atStart => exact ⟨0, Nat.zero_le _, rfl, HC, HB1, Lib.hid d0⟩
  case round =>
    clear HC HB1 d0 d2
    obtain ⟨j, hj, rfl, HC, HB, HD⟩ := hrel
    have d0 := HD.out
    by_cases hlt : j < m
    · obtain ⟨b, off, rfl, hb, hcell⟩ := (HRS.out.below HB.out) (by omega)
      have hcj := hcell j hlt 0 (.int .i64 (F j)) rfl
      rw [Nat.mul_one, Nat.add_zero] at hcj
      obtain ⟨x, hx⟩ : ∃ x, F j = x := ⟨_, rfl⟩
      rw [hx] at hcj
      have hxw : Wf x := by rw [← hx]; exact HWS.out j hlt
      obtain ⟨r1, hr1⟩ : ∃ r1, restK (x.tdiv 4) n = r1 := ⟨_, rfl⟩
      obtain ⟨r2, hr2⟩ : ∃ r2, restK x 4 = r2 := ⟨_, rfl⟩
      have hb1 : r1 < n := by rw [← hr1]; exact restK_lt _ (by omega)
      have hb2 : r2 < 4 := by rw [← hr2]; exact restK_lt _ (by omega)
      have HR1 := Lib.hid (show ∀ w, Calls Tryz.prog 6 #[.int .i64 (x.tdiv 4), .int .i64 (n : Int)] w fun e w' => e = .returned (.int .i64 (r1 : Int)) ∧ w' = w from fun w => by rw [← hr1]; exact restK_any _ n w (by omega) (by omega))
      have HR2 := Lib.hid (show ∀ w, Calls Tryz.prog 6 #[.int .i64 x, .int .i64 4] w fun e w' => e = .returned (.int .i64 (r2 : Int)) ∧ w' = w from fun w => by rw [← hr2]; exact restK_any _ 4 w (by omega) (by omega))
      have HOP := Lib.hid (show opOf n (F j) = (r1, decide (r2 = 0)) from by unfold opOf; rw [hx, hr1, hr2])
      have d4 : -9223372036854775808 ≤ x.tdiv 4 ∧ x.tdiv 4 ≤ 9223372036854775807 := tdiv_in hxw (d := 4) (by omega)
      have w4 : IntKind.i64.wrap (x.tdiv 4) = x.tdiv 4 := by rw [IntWalk.i64_in _ d4]
      have hLI := HI.out.play (F := F) (by omega) j (by omega)
      obtain ⟨Cj, hCj⟩ : ∃ Cj, playS n F C0 j = Cj := ⟨_, rfl⟩
      have HPL := Lib.hid (show playS n F C0 (j + 1) = deedS (r1, decide (r2 = 0)) Cj from by
        show deedS (opOf n (F j)) (playS n F C0 j) = _
        rw [HOP.out, hCj])
      rw [hCj] at HC hLI
      have HLI := Lib.hid hLI
      have hrw := hLI.row r1 hb1
      have hnd : RvN n r1 (Cj.nd r1) 0 := hrw.nd
      have HWT := Lib.hid (show (∀ k, k < Cj.n → ∀ x, x ∈ Cj.wt r1 k → x.ok) ∧ ∀ k, k < Cj.n → (Cj.tr r1 k).length + (Cj.wt r1 k).length + 3 ≤ 1000000 from ⟨fun k _ x hx => hrw.w.ok k x hx, fun k _ => by have h1 : (Cj.tr r1 k).length + (Cj.wt r1 k).length ≤ 3 * j := hrw.w.len k; omega⟩)
      have HND := Lib.hid hnd
      have hsz := HB.out.size
      have i1 : (0 : Int) ≤ (j : Int) := by omega
      have i2 : (j : Int) < (m : Int) := by omega
      have HLT := Lib.hid hlt
      have e4 : ((4 : Nat) : Int) = 4 := rfl
      clear hcell hx hxw hr1 hr2 d4 hLI hCj hrw hnd hlt e4
      go_wp2_with fail
      refine (HR1.out _).mono ?_
      rintro e w' ⟨rfl, rfl⟩
      go_wp2_with fail
      refine (HR2.out _).mono ?_
      rintro e w' ⟨rfl, rfl⟩
      clear HR1 HR2
      obtain ⟨X, Mc, h1, h2, h3, rv, Bd, M, Pn, hG⟩ := HC.out
      have HH := Lib.hid (And.intro h1 (And.intro h2 h3))
      have e1 : (r1 : Int) + 1 = 1 + (r1 : Int) := by omega
      have hin : r1 < Cj.n := by rw [HLI.out.cn]; exact hb1
      by_cases h0 : r2 = 0
      · have hbq : ((r2 : Int) == 0) = true := by subst h0; rfl
        have ht := tick_rv HND.out
        obtain ⟨q1, q2, q3⟩ := ht.outs
        have htk := gtick_any hG hin _ q1 (fun f hf => by rw [HLI.out.cn]; exact q3 f hf) (fun a ha => by have := (HND.out.acts a ha).2.2.2; omega) HWT.out.1 (fun k hk => by have := HWT.out.2 k hk; omega) (by have := HLI.out.ll; omega)
        rw [e1] at htk
        have HTK := Lib.hid htk
        have HP2 := Lib.hid (show playS n F C0 (j + 1) = tickS r1 Cj from by rw [HPL.out, h0]; rfl)
        clear h1 h2 h3 hG ht q1 q2 q3 htk e1 h0
        go_wp2_with fail
        refine HTK.out.mono ?_
        rintro e w5 ⟨rfl, X5, Mc5, hg5, hc5⟩
        obtain ⟨hL5, hf5⟩ := LvC.call (X0 := X0) (s := w.heap.size) HH.out.1 HH.out.2.1 HH.out.2.2 hsz hg5 (hc5.up (T' := 10000 + 60000000 * (j + 1)) (by omega))
        have HL5 := Lib.hid hL5
        have HB5 := Lib.hid (HB.out.trans (hf5.below (fun k hk => hk) hsz))
        have HD5 := Lib.hid (hf5.cell HD.out (fun h => by omega))
        clear hg5 hc5 hL5 hf5 HTK
        go_wp2_with fail
        refine ⟨⟨j + 1, by have := HLT.out; omega, by go_num, ?_, HB5, HD5⟩, by have := HLT.out; simp [intOf]; omega⟩
        rw [HP2.out]
        exact HL5
      · have hbq : ((r2 : Int) == 0) = false := by simp; omega
        have ht := turn_rv (by omega) HND.out
        obtain ⟨q1, q2, q3⟩ := ht.outs
        have htk := gturn_any hG hin _ q1 (fun f hf => by rw [HLI.out.cn]; exact q3 f hf) ht.id HWT.out.1 (fun k hk => by have := HWT.out.2 k hk; omega) (by omega) (by have := HLI.out.ll; omega)
        rw [e1] at htk
        have HTK := Lib.hid htk
        have HP2 := Lib.hid (show playS n F C0 (j + 1) = turnS r1 Cj from by
          rw [HPL.out]
          have : decide (r2 = 0) = false := decide_eq_false h0
          rw [this]
          rfl)
        clear h1 h2 h3 hG ht q1 q2 q3 htk e1 h0
        go_wp2_with fail
        refine HTK.out.mono ?_
        rintro e w5 ⟨⟨rr, rfl⟩, X5, Mc5, hg5, hc5⟩
        obtain ⟨hL5, hf5⟩ := LvC.call (X0 := X0) (s := w.heap.size) HH.out.1 HH.out.2.1 HH.out.2.2 hsz hg5 (hc5.up (T' := 10000 + 60000000 * (j + 1)) (by omega))
        have HL5 := Lib.hid hL5
        have HB5 := Lib.hid (HB.out.trans (hf5.below (fun k hk => hk) hsz))
        have HD5 := Lib.hid (hf5.cell HD.out (fun h => by omega))
        clear hg5 hc5 hL5 hf5 HTK
        go_wp2_with fail
        refine ⟨⟨j + 1, by have := HLT.out; omega, by go_num, ?_, HB5, HD5⟩, by have := HLT.out; simp [intOf]; omega⟩
        rw [HP2.out]
        exact HL5
    · obtain rfl : m = j := by omega
      have hd : decide ((m : Int) < (m : Int)) = false := decide_eq_false (by omega)
      have HFIN := Lib.hid (show PlayPost X0 b0 n (liveC (pumpsC n (plansT n G (min n0 6)) (min n0 6)) 0) m F w (.returned (.tuple #[.pointer (some ⟨bl .P, 0, none⟩), .bool true])) wr from ⟨bl, pn, rfl, by
        rw [← HC0.out]
        obtain ⟨X, Mc, h1, h2, h3, h4⟩ := HC.out
        exact ⟨X, Mc, h1, h2, h3, h4.up (by omega)⟩, HB.out⟩)
      clear HC HB HD
      go_wp2_with fail
      exact bodyPost_ret (results_two Tryz.results25 _ _) rfl HFIN.out
end
end Go.Proofs.YthgbcgphkddmgaaGreat
namespace Go.Proofs.YthgbcgphkddmgaaGreat
open Go.RowKit Go.ChangeShapes Go.WideShapes
set_option linter.unusedVariables false
set_option linter.unusedSimpArgs false
theorem eq_arr2 (a b c d : Int) (w : World) : (Op.equalIn 10000 66 (.agg #[.int .i64 a, .int .i64 b]) (.agg #[.int .i64 c, .int .i64 d])).run Tryz.prog w = .ok (a == c && b == d) w := by
  rw [show (10000 : Nat) = 9999 + 1 from rfl, Op.equalIn]
  simp only [Sem.run_bind, run_underlying Tryz.underlying66, Result.andThen_ok]
  simp only [Std.Legacy.Range.forIn_eq_forIn_range', Std.Legacy.Range.size, Nat.sub_zero, Nat.add_sub_cancel, Nat.div_one, List.range'_succ, List.range'_zero, List.forIn_cons, List.forIn_nil]
  go_simp
  by_cases h1 : a = c <;> by_cases h2 : b = d <;> simp [h1, h2]
theorem eq_arr2_same (a b : Int) (w : World) : (Op.equalIn 10000 66 (.agg #[.int .i64 a, .int .i64 b]) (.agg #[.int .i64 a, .int .i64 b])).run Tryz.prog w = .ok true w := by rw [eq_arr2]; simp
set_option maxHeartbeats 4000000 in
theorem equalW_same (A B : Option Addr) (n m c d : Nat) (l : List (Nat × Nat)) (w : World) (hn : n = l.length) (hm : m = l.length) (hl : n ≤ 9223372036854775807) (hR : Rd w 2 (wyC l) A l.length) (hS : Rd w 2 (wyC l) B l.length) :
    Calls Tryz.prog 33 #[.slice A n c, .slice B m d] w fun e w' => e = .returned (.bool true) ∧ Below w.heap.size w w' := by
  subst hn hm
  have HR := Lib.hid hR
  have HS := Lib.hid hS
  clear hR hS
  go_enter Tryz.func33, Tryz.ntmps33
  go_wp2_with fail
  go_loopw [5, 13] (fun _ x wr => ∃ k : Nat, k ≤ l.length ∧ x = .int .i64 k ∧ Below w.heap.size w wr) (fun _ x _ => l.length - (intOf x).toNat)
  case atStart => exact ⟨0, by omega, rfl, Below.refl _ _⟩
  case round =>
    obtain ⟨k, hk, rfl, hB⟩ := hrel
    have HB := Lib.hid hB
    by_cases hlt : k < l.length
    · obtain ⟨b, off, rfl, hb0, hcell⟩ := (HR.out.below hB) (by omega)
      obtain ⟨b', off', rfl, hb0', hcell'⟩ := (HS.out.below hB) (by omega)
      have c0 := hcell k hlt 0 _ rfl
      have c1 := hcell k hlt 1 _ rfl
      have e0 := hcell' k hlt 0 _ rfl
      have e1 := hcell' k hlt 1 _ rfl
      simp only [Nat.add_zero] at c0 e0
      clear hcell hcell' hB
      obtain ⟨r1, hr1⟩ : ∃ r1 : Int, (((wyN l k).1 + 1 : Nat) : Int) = r1 := ⟨_, rfl⟩
      obtain ⟨r2, hr2⟩ : ∃ r2 : Int, (((wyN l k).2 + 1 : Nat) : Int) = r2 := ⟨_, rfl⟩
      rw [hr1] at c0 e0
      rw [hr2] at c1 e1
      clear hr1 hr2
      have hq := eq_arr2_same r1 r2
      have i1 : (0 : Int) ≤ (k : Int) := by omega
      have i2 : (k : Int) < (l.length : Int) := by omega
      go_wp2_with fail
      go_quiet (fail)
      go_wp2_with fail
      go_roundw
      case rel => exact ⟨k + 1, by omega, by go_num, below_drewN HB.out _⟩
      case measure => simp [intOf]; omega
    · obtain rfl : k = l.length := by omega
      go_wp2_with fail
      go_ret
      exact ⟨rfl, HB.out⟩
end Go.Proofs.YthgbcgphkddmgaaGreat
namespace Go.Proofs.YthgbcgphkddmgaaGreat
open Go.RowKit
set_option linter.unusedVariables false
set_option linter.unusedSimpArgs false
section
variable {w w' : World} {X X' X0 Mc D E : Nat → Prop} {b0 s base T T' : Nat} {bl bla blb : CBk → Nat} {pn pna pnb : Nat → Nat} {rv rv' : RBk → Value} {Bd Bd' : Nat → Prop} {M : Nat → Nat → Prop} {Pn : Nat → Int → Nat} {C C' Ca Cb : GcS}
theorem GcAt.fr (h : GcAt w X Mc base T bl pn C) (hf : Fr D w w') (hD : ∀ k, D k → X k ∧ base ≤ k ∧ ¬ Mc k) (hx : ∀ k, X k → X' k) (hX : ∀ k, X' k → X k ∨ w.heap.size ≤ k ∧ k < w'.heap.size) : GcAt w' X' Mc base T bl pn C := by
  obtain ⟨rv, Bd, M, Pn, h⟩ := h
  exact ⟨rv, Bd, M, Pn, h.fr hf hD hx hX⟩
theorem GcAt.mlt (h : GcAt w X Mc base T bl pn C) : (∀ k, Mc k → k < w.heap.size) ∧ ∀ k, X k → k < w.heap.size := by
  obtain ⟨rv, Bd, M, Pn, h⟩ := h
  exact ⟨h.mlt, h.xlt⟩
/-- the law writes what it may -/
theorem LvC.put (h : LvC X0 b0 s T w bl pn C) (hf : Fr D w w') (hD : ∀ k, D k → X0 k ∧ b0 ≤ k ∧ k < s) : LvC X0 b0 s T w' bl pn C := by
  obtain ⟨X, Mc, h1, h2, h3, h4⟩ := h
  exact ⟨X, Mc, h1, h2, h3, h4.fr hf (fun k hk => ⟨h1 k (hD k hk).1, (hD k hk).2.1, fun hm => by have := h3 k hm; have := (hD k hk).2.2; omega⟩) (fun _ h => h) (fun _ h => .inl h)⟩
theorem LvC.new (h : LvC X0 b0 s T w bl pn C) (hf : Fr (fun _ => False) w w') : LvC X0 b0 s T w' bl pn C := h.put (D := fun _ => False) hf (fun _ h => h.elim)
/-- two clusters; E: blocks of the law's own -/
def TwC (b0 T : Nat) (w : World) (bla : CBk → Nat) (pna : Nat → Nat) (Ca : GcS) (blb : CBk → Nat) (pnb : Nat → Nat) (Cb : GcS) (E : Nat → Prop) : Prop :=
  ∃ X Mca Mcb, GcAt w X Mca b0 T bla pna Ca ∧ GcAt w X Mcb b0 T blb pnb Cb ∧ ∀ k, E k → X k ∧ b0 ≤ k ∧ ¬ Mca k ∧ ¬ Mcb k
/-- the second one has been made beside the first one -/
theorem LvC.two {Xa Mca : Nat → Prop} (ha : GcAt w Xa Mca b0 T bla pna Ca) (hB : Below w.heap.size w w') (hb : LvC Xa b0 w.heap.size T w' blb pnb Cb) : TwC b0 T w' bla pna Ca blb pnb Cb (fun _ => False) := by
  obtain ⟨X, Mc, h1, h2, h3, h4⟩ := hb
  refine ⟨X, Mca, Mc, ha.fr (D := fun _ => False) (Fr.of_below hB) (fun _ h => h.elim) h1 (fun k hk => ?_), h4, fun _ h => h.elim⟩
  rcases h2 k hk with e | e
  · exact .inl e
  · exact .inr ⟨e, h4.mlt.2 k hk⟩
theorem TwC.new (h : TwC b0 T w bla pna Ca blb pnb Cb E) (hf : Fr (fun _ => False) w w') : TwC b0 T w' bla pna Ca blb pnb Cb E := by
  obtain ⟨X, Mca, Mcb, h1, h2, h3⟩ := h
  exact ⟨X, Mca, Mcb, h1.fr (D := fun _ => False) hf (fun _ h => h.elim) (fun _ h => h) (fun _ h => .inl h), h2.fr (D := fun _ => False) hf (fun _ h => h.elim) (fun _ h => h) (fun _ h => .inl h), h3⟩
theorem TwC.own (h : TwC b0 T w bla pna Ca blb pnb Cb E) (hf : Fr (fun _ => False) w w') {v : Value} (hv : ∀ k, v.ownBlock = some k → w.heap.size ≤ k ∧ k < w'.heap.size) (hb : b0 ≤ w.heap.size) : TwC b0 T w' bla pna Ca blb pnb Cb (fun k => E k ∨ v.ownBlock = some k) := by
  obtain ⟨X, Mca, Mcb, h1, h2, h3⟩ := h
  refine ⟨fun k => X k ∨ v.ownBlock = some k, Mca, Mcb, h1.fr (D := fun _ => False) hf (fun _ h => h.elim) (fun k hk => .inl hk) (fun k hk => ?_), h2.fr (D := fun _ => False) hf (fun _ h => h.elim) (fun k hk => .inl hk) (fun k hk => ?_), fun k hk => ?_⟩
  · rcases hk with hk | hk
    · exact .inl hk
    · exact .inr (hv k hk)
  · rcases hk with hk | hk
    · exact .inl hk
    · exact .inr (hv k hk)
  · rcases hk with hk | hk
    · exact ⟨.inl (h3 k hk).1, (h3 k hk).2⟩
    · have := hv k hk
      exact ⟨.inr hk, by omega, fun hm => by have := h1.mlt.1 k hm; omega, fun hm => by have := h2.mlt.1 k hm; omega⟩
theorem TwC.put (h : TwC b0 T w bla pna Ca blb pnb Cb E) (hf : Fr D w w') (hD : ∀ k, D k → E k) : TwC b0 T w' bla pna Ca blb pnb Cb E := by
  obtain ⟨X, Mca, Mcb, h1, h2, h3⟩ := h
  exact ⟨X, Mca, Mcb, h1.fr hf (fun k hk => ⟨(h3 k (hD k hk)).1, (h3 k (hD k hk)).2.1, (h3 k (hD k hk)).2.2.1⟩) (fun _ h => h) (fun _ h => .inl h), h2.fr hf (fun k hk => ⟨(h3 k (hD k hk)).1, (h3 k (hD k hk)).2.1, (h3 k (hD k hk)).2.2.2⟩) (fun _ h => h) (fun _ h => .inl h), h3⟩
end
end Go.Proofs.YthgbcgphkddmgaaGreat
