/- roadkeep3.reads, roadref3.SameValues, equal rows of errors. -/
import Derived.Test.YtkdbnkkdohkhjaaYMB
import Derived.Test.YtkdbnkkdohkhjaaHeapLd
import Derived.Test.YtkdbnkkdohkhjaaSameV
namespace Go.Proofs.Ytkdbnkkdohkhjaa
open Go.RowKit
set_option linter.unusedVariables false
set_option maxHeartbeats 800000 in
theorem equalE_any (A B : Option Addr) (n c m d : Nat) (T U : Nat → Int) (w : World) (hn : n ≤ 9223372036854775807) (hm : m ≤ 9223372036854775807) (hT : Rd w 1 (tmC T) A n) (hU : Rd w 1 (tmC U) B m) :
    Calls Try.prog 23 #[.slice A n c, .slice B m d] w fun e w' => e = .returned (.bool (decide (n = m) && !anyOf (fun k => T k != U k) n)) ∧ ∃ q, w' = w.drewN q := by
  have HT := Lib.hid hT
  have HU := Lib.hid hU
  clear hT hU
  by_cases hnm : n = m
  · subst hnm
    have hne : ((n : Int) != (n : Int)) = false := by simp
    go_enter Try.func23, Try.ntmps23
    go_wp2_with fail
    go_loopw [5, 13] (fun _ i wr => ∃ k q : Nat, k ≤ n ∧ i = .int .i64 k ∧ (∀ j, j < k → (T j != U j) = false) ∧ wr = w.drewN q) (fun _ i _ => n - (intOf i).toNat)
    case atStart => exact ⟨0, 0, Nat.zero_le _, rfl, fun j hj => by omega, rfl⟩
    case round =>
      obtain ⟨k, q, hk, rfl, hlow, rfl⟩ := hrel
      have HL := Lib.hid hlow
      clear hlow
      by_cases hlt : k < n
      · obtain ⟨b, off, rfl, hb, hcell⟩ := HT.out (by omega)
        obtain ⟨b2, off2, rfl, hb2, hcell2⟩ := HU.out (by omega)
        have c0 : (w.drewN q).cell? ⟨b, off + k, none⟩ = some (.int .i64 (T k)) := by simpa using hcell k hlt 0 _ rfl
        have c1 : (w.drewN q).cell? ⟨b2, off2 + k, none⟩ = some (.int .i64 (U k)) := by simpa using hcell2 k hlt 0 _ rfl
        have i1 : (0 : Int) ≤ (k : Int) := by omega
        have i2 : (k : Int) < (n : Int) := by omega
        clear hcell hcell2
        generalize hW : w.drewN q = wx at *
        have HW := Lib.hid hW
        clear hW
        by_cases hp : (T k != U k) = true
        · go_wp2_with fail
          go_quiet (fail)
          go_wp2_with fail
          go_ret
          refine ⟨ret_bool ?_, q + nq, by rw [← HW.out, drewN_drewN]⟩
          have h1 : anyOf (fun k => T k != U k) n = true := anyOf_true.2 ⟨k, hlt, hp⟩
          simp only [h1]
          simp
        · have hp' : (T k != U k) = false := by simpa using hp
          clear hp
          go_wp2_with fail
          go_quiet (fail)
          go_wp2_with fail
          go_roundw
          case rel =>
            refine ⟨k + 1, q + nq, by omega, by go_num, fun j hj => ?_, by rw [← HW.out, drewN_drewN]⟩
            by_cases e : j = k
            · rw [e]; exact hp'
            · exact HL.out j (by omega)
          case measure => simp [intOf]; omega
      · go_wp2_with fail
        go_ret
        have h1 : anyOf (fun k => T k != U k) n = false := anyOf_false.2 (fun j hj => HL.out j (by omega))
        exact ⟨ret_bool (by simp only [h1]; simp), q, rfl⟩
  · have hne : ((n : Int) != (m : Int)) = true := by simp; omega
    have H0 := Lib.hid hnm
    clear hnm
    go_enter Try.func23, Try.ntmps23
    go_wp2_with fail
    go_ret
    exact ⟨ret_bool (by simp [H0.out]), 0, rfl⟩

theorem infoE : (Try.prog.info? 28).map (fun i => (i.zero, i.size, i.bytes)) = some (some (.int .i64 0), 1, 8) := by kernel_rfl
/-- what one root reads as -/
def rdV (r : LdR) : VT := if r.err = 0 then r.val else .node 0 0 ⟨#[]⟩ 0 (fun _ => .none)
structure RdS (base : Nat) (vals : Nat → VT) (errs : Nat → Int) (w wr : World) (kv ke : Nat) (v e : Value) (C : Nat → List Value) : Prop where
  rv : wr.ownsRow base 90 4 v kv (flatC C kv)
  len : ∀ i, (C i).length = 4
  each : ∀ i, i < kv → (vals i).isV wr (fun b => base ≤ b ∧ some b ≠ v.ownBlock ∧ some b ≠ e.ownBlock) (C i)
  re : wr.ownsRow base 28 1 e ke (encI (fl errs ke))
  ne : ∀ b, v.ownBlock = some b → e.ownBlock ≠ some b
  bel : Below w.heap.size w wr
  hb : base ≤ wr.heap.size
  ag : w.heap.size ≤ base
section
variable {base kv ke : Nat} {vals : Nat → VT} {errs : Nat → Int} {w wr wx : World} {v e : Value} {C : Nat → List Value}
theorem RdS.below (H : RdS base vals errs w wr kv ke v e C) (hb : Below wr.heap.size wr wx) : RdS base vals errs w wx kv ke v e C :=
  ⟨own_keep H.rv hb, H.len, fun i hi => isV_below (H.each i hi) hb, own_keep H.re hb, H.ne, H.bel.trans (hb.mono H.bel.size), Nat.le_trans H.hb hb.size, H.ag⟩
theorem RdS.pushV (H : RdS base vals errs w wr kv ke v e C) {v' : Value} {cs : List Value} (hg : wr.grownBy wx v.ownBlock) (hO : wx.ownsRow base 90 4 v' (kv + 1) (flatC C kv ++ cs)) (hat : v'.ownBlock = v.ownBlock ∨ ∃ g, v'.ownBlock = some g ∧ wr.heap.size ≤ g)
    (ht : (vals kv).isV wr (fun b => base ≤ b ∧ some b ≠ v.ownBlock ∧ some b ≠ e.ownBlock) cs) (hcs : cs.length = 4) : RdS base vals errs w wx (kv + 1) ke v' e (updC C kv cs) := by
  have hfr : ∀ b, some b ≠ v.ownBlock → b < wr.heap.size → some b ≠ v'.ownBlock := fun b hb hl h => by
    rcases hat with h2 | ⟨g, h2, h3⟩
    · exact hb (h.trans h2)
    · rw [h2] at h; injection h with h; omega
  have hel : ∀ b, e.ownBlock = some b → b < wr.heap.size := fun b hb => (H.re.lt b hb).2
  refine ⟨?_, fun i => ?_, fun i hi => ?_, own_grown H.re hg (fun k hk h => H.ne k h hk), fun b hb h => ?_, below_grown H.bel H.bel.size hg (fun k hk => by have := (H.rv.lt k hk).1; have := H.ag; omega), Nat.le_trans H.hb hg.size, H.ag⟩
  · have flatA : flatC C kv ++ cs = flatC (updC C kv cs) (kv + 1) := by
      rw [flatC]
      congr 1
      · apply flatC_congr
        intro i hi
        have : i ≠ kv := by omega
        simp [updC, this]
      · simp [updC]
    rw [← flatA]
    exact hO
  · unfold updC
    split
    · exact hcs
    · exact H.len i
  · unfold updC
    split
    · rename_i h
      subst h
      exact isV_grown ht hg (fun b hb hl => ⟨hb.2.1, hb.1, hfr b hb.2.1 hl, hb.2.2⟩)
    · exact isV_grown (H.each i (by omega)) hg (fun b hb hl => ⟨hb.2.1, hb.1, hfr b hb.2.1 hl, hb.2.2⟩)
  · rcases hat with h2 | ⟨g, h2, h3⟩
    · exact H.ne b (by rw [← h2]; exact hb) h
    · rw [h2] at hb; injection hb with hb; have := hel b h; omega
theorem RdS.pushE (H : RdS base vals errs w wr kv ke v e C) {e' : Value} (hg : wr.grownBy wx e.ownBlock) (hO : wx.ownsRow base 28 1 e' (ke + 1) (encI (fl errs ke) ++ [.int .i64 (errs ke)])) (hat : e'.ownBlock = e.ownBlock ∨ ∃ g, e'.ownBlock = some g ∧ wr.heap.size ≤ g) : RdS base vals errs w wx kv (ke + 1) v e' C := by
  have hvl : ∀ b, v.ownBlock = some b → b < wr.heap.size := fun b hb => (H.rv.lt b hb).2
  refine ⟨own_grown H.rv hg (fun k hk h => H.ne k hk h), H.len, fun i hi => isV_grown (H.each i hi) hg (fun b hb hl => ⟨hb.2.2, hb.1, hb.2.1, fun h => ?_⟩), ?_, fun b hb h => ?_, below_grown H.bel H.bel.size hg (fun k hk => by have := (H.re.lt k hk).1; have := H.ag; omega), Nat.le_trans H.hb hg.size, H.ag⟩
  · rcases hat with h2 | ⟨g, h2, h3⟩
    · exact hb.2.2 (h.trans h2)
    · rw [h2] at h; injection h with h; omega
  · rw [fl_succ, show encI (fl errs ke ++ [errs ke]) = encI (fl errs ke) ++ [.int .i64 (errs ke)] by simp [encI]]
    exact hO
  · rcases hat with h2 | ⟨g, h2, h3⟩
    · exact H.ne b hb (by rw [← h2]; exact h)
    · rw [h2] at h; injection h with h; have := hvl b hb; omega
/-- such rows, read -/
theorem RdS.isV {n c : Nat} {A : Option Addr} (H : RdS base vals errs w wr n ke (.slice A n c) e C) : (VT.node 0 0 ⟨#[]⟩ n vals).isV wr (fun _ => True) [.int .i64 0, .int .i64 0, .string ⟨#[]⟩, .slice A n c] := by
  obtain ⟨A', c', hv', hnc, hcm, hA⟩ := own_any H.rv
  injection hv' with e1 e2 e3
  subst e1 e3
  refine ⟨A, c, rfl, hnc, hcm, hA, fun h0 => ?_⟩
  obtain ⟨g, cap, hv2, hb, hlt, _⟩ := own_form H.rv h0
  injection hv2 with e1 _ e3
  subst e1 e3
  refine ⟨g, 0, rfl, hlt, trivial, C, fun i hi => ⟨isV_mono (H.each i hi) (fun b _ hb => trivial), fun j u hu => ?_⟩⟩
  have hj : j < 4 := by
    rcases Nat.lt_or_ge j 4 with hh | hh
    · exact hh
    · rw [List.getElem?_eq_none (by rw [H.len]; exact hh)] at hu; cases hu
  rw [Nat.zero_add, own_cellC H.rv H.len hi hj]
  exact hu
theorem RdS.rdE {n c : Nat} {A : Option Addr} (H : RdS base vals errs w wr kv n v (.slice A n c) C) : Rd wr 1 (tmC errs) A n := by
  refine Rd.of_own (tmC_len _) (c := c) (base := base) (e := 28) ?_
  rw [flatC_fl]
  exact H.re
end
theorem read_one (h : List Nat) (hA : Option Addr) (hc x : Nat) (w : World) (hS : Su w (.slice hA h.length hc) h) (h64 : All64 h) (hlen : h.length ≤ 17592186044416) (hx : x < 18446744073709551616) :
    Calls Try.prog 49 #[.slice hA h.length hc, .int .u64 (x : Int)] w fun e w' => ∃ k m s A n c, e = .returned (.tuple #[.agg #[.int .i64 k, .int .i64 m, .string s, .slice A n c], .int .i64 (ldv h 40 x 400).err]) ∧ (rdV (ldv h 40 x 400)).isV w' (fun b => w.heap.size ≤ b) [.int .i64 k, .int .i64 m, .string s, .slice A n c] ∧ Below w.heap.size w w' := by
  refine (Read_any h hA hc x w hS h64 hlen hx).mono ?_
  rintro e w' ⟨hb, (⟨he, cs, rfl, hv⟩ | ⟨he, rfl⟩)⟩
  · obtain ⟨k, m, s, A, n, c, rfl⟩ := isV_cells hv
    exact ⟨k, m, s, A, n, c, by rw [he], by unfold rdV; rw [if_pos he]; exact hv, hb⟩
  · exact ⟨0, 0, ⟨#[]⟩, none, 0, 0, rfl, by unfold rdV; rw [if_neg he]; exact ⟨none, 0, rfl, Nat.le_refl _, by omega, fun _ => rfl, fun h => by omega⟩, hb⟩
def ReadsPost (h roots : List Nat) (w : World) (e : Ending) (w' : World) : Prop := ∃ V cv E ce, e = .returned (.tuple #[.slice V roots.length cv, .slice E roots.length ce]) ∧
  (VT.node 0 0 ⟨#[]⟩ roots.length (fun i => rdV (ldv h 40 (nth roots i) 400))).isV w' (fun _ => True) [.int .i64 0, .int .i64 0, .string ⟨#[]⟩, .slice V roots.length cv] ∧ Rd w' 1 (tmC (fun i => (ldv h 40 (nth roots i) 400).err)) E roots.length ∧ Below w.heap.size w w'
set_option maxHeartbeats 8000000 in
set_option maxRecDepth 100000 in
theorem reads_any (h roots : List Nat) (hA lA rA : Option Addr) (hc n lc rc : Nat) (old : Int) (w : World) (hH : Su w (.slice hA h.length hc) h) (h64 : All64 h) (hlen : h.length ≤ 17592186044416) (hR : Su w (.slice rA roots.length rc) roots) (r64 : All64 roots) (hrl : roots.length ≤ 100000) :
    Calls Try.prog 21 #[.agg #[.slice hA h.length hc, .int .i64 old, .slice lA n lc], .slice rA roots.length rc] w (ReadsPost h roots w) := by
  have HH := Lib.hid hH
  have H64 := Lib.hid h64
  have HR := Lib.hid hR
  have HR64 := Lib.hid r64
  obtain ⟨vals, hvals⟩ : ∃ vals : Nat → VT, vals = fun i => rdV (ldv h 40 (nth roots i) 400) := ⟨_, rfl⟩
  obtain ⟨errs, herrs⟩ : ∃ errs : Nat → Int, errs = fun i => (ldv h 40 (nth roots i) 400).err := ⟨_, rfl⟩
  have HVALS := Lib.hid hvals
  have HERRS := Lib.hid herrs
  obtain ⟨i0, hi0, hz0, hz1, hz2⟩ := info_parts infoVal
  obtain ⟨i1, hi1, hy0, hy1, hy2⟩ := info_parts infoE
  obtain ⟨W1, hW1⟩ : ∃ W1, W1 = w.alloc (.cells #[.slice hA h.length hc, .int .i64 old, .slice lA n lc] 26) := ⟨_, rfl⟩
  have HG0 := Lib.hid (show RdS W1.heap.size vals errs W1 W1 0 0 (.slice none 0 0) (.slice none 0 0) (fun _ => List.replicate 4 undef) from
    ⟨World.ownsRow_nil _ _ _ _, fun _ => by simp, fun i hi => by omega, World.ownsRow_nil _ _ _ _, (fun b hb => by cases hb), Below.refl _ _, Nat.le_refl _, Nat.le_refl _⟩)
  have HB1 := Lib.hid (show AgB W1 w.heap.size hA h.length hc old lA n lc by rw [hW1]; exact AgB.new w hA h.length hc old lA n lc 26)
  have HW1 := Lib.hid (show Below w.heap.size w W1 by rw [hW1]; exact (Below.refl _ _).alloc (Nat.le_refl _) _)
  clear hH h64 hR r64 hvals herrs
  go_enter Try.func21, Try.ntmps21
  go_wp2_with fail
  rw [← hW1]
  clear hW1
  go_loopw [6, 7, 9, 10, 11, 14] (fun x6 x7 _ _ _ x14 wr => ∃ (i : Nat) (V : Option Addr) (cv : Nat) (E : Option Addr) (ce : Nat) (C : Nat → List Value), i ≤ roots.length ∧ x14 = .int .i64 (i : Int) ∧ x6 = .slice V i cv ∧ x7 = .slice E i ce ∧ RdS W1.heap.size vals errs W1 wr i i (.slice V i cv) (.slice E i ce) C) (fun _ _ _ _ _ x14 _ => roots.length - (intOf x14).toNat)
  case atStart => exact ⟨0, none, 0, none, 0, _, Nat.zero_le _, rfl, rfl, rfl, HG0.out⟩
  case round =>
    obtain ⟨i, V, cv, E, ce, C, hi, rfl, rfl, rfl, hG⟩ := hrel
    have HG := Lib.hid hG
    by_cases hlt : i < roots.length
    · obtain ⟨rA', rc', e, x1, x2, x3, x4⟩ := HR.out
      injection e with e1 e2 e3
      clear e2
      subst e1 e3
      obtain ⟨bR, oR, rfl, hbR, hcR⟩ := x4 (by omega)
      have hc0 : w.cell? ⟨bR, oR + i, none⟩ = some (.int .u64 ((nth roots i : Nat) : Int)) := by simpa using hcR i hlt 0 _ rfl
      have hbel := HW1.out.trans (hG.bel.mono HW1.out.size)
      have c0 := (hbel.cell (p := ⟨bR, oR + i, none⟩) hbR).trans hc0
      obtain ⟨a0, a1, a2, a3⟩ := HB1.out.below hG.bel
      have HPX := Lib.hid (show nth roots i < 18446744073709551616 from HR64.out.nth i)
      have HEI := Lib.hid (show errs i = (ldv h 40 (nth roots i) 400).err by rw [HERRS.out])
      have HVI := Lib.hid (show vals i = rdV (ldv h 40 (nth roots i) 400) by rw [HVALS.out])
      have HHR := Lib.hid (HH.out.below hbel)
      obtain ⟨x, hx⟩ : ∃ x, nth roots i = x := ⟨_, rfl⟩
      rw [hx] at c0 HPX HEI HVI
      have j0 : (0 : Int) ≤ (i : Int) := by omega
      have j1 : (i : Int) < (roots.length : Int) := by omega
      clear hG hc0 hcR hx x1 x2 x3 x4 hbel
      go_wp2_with fail
      refine (read_one h hA hc x wr HHR.out H64.out hlen HPX.out).mono ?_
      rintro e w1 ⟨k, m, s, vA, vn, vc, rfl, hv, hb1⟩
      rw [← HEI.out]
      rw [← HVI.out] at hv
      have HV := Lib.hid hv
      have HB := Lib.hid hb1
      obtain ⟨y, hy⟩ : ∃ y, errs i = y := ⟨_, rfl⟩
      rw [hy]
      have HY := Lib.hid hy
      have HA2 := Lib.hid (show ∀ o o', Below wr.heap.size wr ((w1.alloc o).alloc o') from fun o o' => (hb1.alloc hb1.size _).alloc (by have := hb1.size; simp; omega) _)
      have HA12 := Lib.hid (show ∀ o o', Below w1.heap.size w1 ((w1.alloc o).alloc o') from fun o o' => ((Below.refl _ _).alloc (Nat.le_refl _) _).alloc (by simp) _)
      have HZ1 := Lib.hid hb1.size
      have HBW := Lib.hid HG.out.hb
      have HVB := Lib.hid (show ∀ b, (Value.slice V i cv).ownBlock = some b ∨ (Value.slice E i ce).ownBlock = some b → b < wr.heap.size from fun b hb => by
        rcases hb with hb | hb
        · exact (HG.out.rv.lt b hb).2
        · exact (HG.out.re.lt b hb).2)
      have HI4 := Lib.hid (show i ≤ 100000 by omega)
      clear hv hb1 hy a0 a1 a2 a3 c0 hbR
      have HVV := Lib.hid (show ∀ o o', (vals i).isV ((w1.alloc o).alloc o') (fun b => W1.heap.size ≤ b ∧ some b ≠ (Value.slice V i cv).ownBlock ∧ some b ≠ (Value.slice E i ce).ownBlock) [.int .i64 k, .int .i64 m, .string s, .slice vA vn vc] from fun o o' => isV_mono (isV_below HV.out (HA12.out o o')) (fun b _ hb => by
        have h1 := HBW.out
        refine ⟨by omega, fun e => ?_, fun e => ?_⟩
        · have := HVB.out b (.inl e.symm); omega
        · have := HVB.out b (.inr e.symm); omega))
      have HONE := Lib.hid (show ∀ u ∈ [Value.int .i64 k, .int .i64 m, .string s, .slice vA vn vc], u.oneCell' = true from isV_one HV.out)
      go_wp2_with (first
        | (at_builtin; (refine wpList_append_own_at _ rfl _ _ 44 rfl W1.heap.size 90 i0 _ 4 56 Try.underlying44 hi0 hz0 hz1 hz2 rfl (by omega) (.slice V i cv) i (flatC C i) rfl (HG.out.below (HA2.out _ _)).rv ⟨w1.heap.size + 1, 0, none⟩ 1 1 [.int .i64 k, .int .i64 m, .string s, .slice vA vn vc] rfl rfl (cell_newL _ _ _ _ (by simp)) HONE.out (by have := HI4.out; unfold maxLen; omega) (by have := HI4.out; omega) (by have := (HG.out.below (HA2.out (.cells #[.int .i64 k, .int .i64 m, .string s, .slice vA vn vc] 90) (.cells #[.int .i64 k, .int .i64 m, .string s, .slice vA vn vc] 90))).hb; exact this) ?_; intro v4 w4 hO4 hg4 _ hat4; have HG4 := Lib.hid ((HG.out.below (HA2.out _ _)).pushV hg4 hO4 (hat4.imp id (fun h => ⟨_, h, Nat.le_refl _⟩)) (HVV.out _ _) rfl); obtain ⟨A4, c4, rfl, -, -, -⟩ := own_any hO4; clear hO4 hg4 hat4))
        | (at_builtin; go_loud (refine wpList_append_own_at _ rfl _ _ 52 rfl W1.heap.size 28 i1 _ 1 8 Try.underlying52 hi1 hy0 hy1 hy2 rfl (by omega) (.slice E i ce) i (encI (fl errs i)) rfl (HG4.out.below ((Below.refl _ _).alloc (Nat.le_refl _) _)).re ⟨w4.heap.size, 0, none⟩ 1 1 [.int .i64 y] rfl rfl (cell_newL _ _ _ _ rfl) (fun u hu => by simp at hu; subst hu; rfl) (by have := HI4.out; unfold maxLen; omega) (by have := HI4.out; omega) (by have := HG4.out.hb; simp; omega) ?_; intro v5 w5 hO5 hg5 _ hat5; rw [← HY.out] at hO5; have HG5 := Lib.hid ((HG4.out.below ((Below.refl _ _).alloc (Nat.le_refl _) _)).pushE hg5 hO5 (hat5.imp id (fun h => ⟨_, h, Nat.le_refl _⟩))); obtain ⟨A5, c5, rfl, -, -, -⟩ := own_any hO5; clear hO5 hg5 hat5)))
      refine ⟨⟨i + 1, A4, c4, A5, c5, _, by omega, by go_num, rfl, rfl, HG5.out⟩, by simp [intOf]; omega⟩
    · obtain rfl : i = roots.length := by omega
      go_wp2_with fail
      go_ret2
      refine ⟨V, cv, E, ce, rfl, ?_, ?_, HW1.out.trans (HG.out.bel.mono HW1.out.size)⟩
      · rw [← HVALS.out]; exact HG.out.isV
      · rw [← HERRS.out]; exact HG.out.rdE
set_option maxRecDepth 100000 in
set_option maxHeartbeats 4000000 in
theorem sames_true (n c d : Nat) (F G : Nat → VT) (A B : Option Addr) (w : World) (h1 : (VT.node 0 0 ⟨#[]⟩ n F).isV w (fun _ => True) [.int .i64 0, .int .i64 0, .string ⟨#[]⟩, .slice A n c]) (h2 : (VT.node 0 0 ⟨#[]⟩ n G).isV w (fun _ => True) [.int .i64 0, .int .i64 0, .string ⟨#[]⟩, .slice B n d]) (hs : ∀ i, i < n → sameV (F i) (G i) = true) :
    Calls Try.prog 22 #[.slice A n c, .slice B n d] w fun e w' => e = .returned (.bool true) ∧ Below w.heap.size w w' := by
  have HV1 := Lib.hid h1
  have HV2 := Lib.hid h2
  have HSM := Lib.hid hs
  have hne : ((n : Int) != (n : Int)) = false := by simp
  obtain ⟨_, _, -, hnc, hcm, -, -⟩ := h1
  clear h2 hs
  go_enter Try.func22, Try.ntmps22
  go_wp2_with fail
  go_loopw [5, 13] (fun _ i wr => ∃ q : Nat, q ≤ n ∧ i = .int .i64 q ∧ Below w.heap.size w wr) (fun _ i _ => n - (intOf i).toNat)
  case atStart => exact ⟨0, Nat.zero_le _, rfl, Below.refl _ _⟩
  case round =>
    obtain ⟨q, hq, rfl, hB⟩ := hrel
    by_cases hlt : q < n
    · obtain ⟨b, off, rfl, hb, -, C, hC⟩ := isV_arg HV1.out (by omega)
      obtain ⟨yb, yoff, rfl, yhb, -, yC, yhC⟩ := isV_arg HV2.out (by omega)
      obtain ⟨hVq, hcell⟩ := hC q hlt
      obtain ⟨yhVq, yhcell⟩ := yhC q hlt
      have hsz := hB.size
      have HW1 := Lib.hid (isV_below hVq hB)
      have HW2 := Lib.hid (isV_below yhVq hB)
      have HBW := Lib.hid hB
      obtain ⟨k1, m1, s1, A1, n1, cc1, hCq⟩ := isV_cells hVq
      obtain ⟨k2, m2, s2, A2, n2, cc2, yhCq⟩ := isV_cells yhVq
      rw [hCq] at hcell HW1
      rw [yhCq] at yhcell HW2
      have x0 : wr.cell? ⟨b, off + q * 4, none⟩ = some (.int .i64 k1) := (hB.cell (p := ⟨b, _, none⟩) hb).trans (hcell 0 _ rfl)
      have x1 : wr.cell? ⟨b, off + q * 4 + 1, none⟩ = some (.int .i64 m1) := (hB.cell (p := ⟨b, _, none⟩) hb).trans (hcell 1 _ rfl)
      have x2 : wr.cell? ⟨b, off + q * 4 + 2, none⟩ = some (.string s1) := (hB.cell (p := ⟨b, _, none⟩) hb).trans (hcell 2 _ rfl)
      have x3 : wr.cell? ⟨b, off + q * 4 + 3, none⟩ = some (.slice A1 n1 cc1) := (hB.cell (p := ⟨b, _, none⟩) hb).trans (hcell 3 _ rfl)
      have z0 : wr.cell? ⟨yb, yoff + q * 4, none⟩ = some (.int .i64 k2) := (hB.cell (p := ⟨yb, _, none⟩) yhb).trans (yhcell 0 _ rfl)
      have z1 : wr.cell? ⟨yb, yoff + q * 4 + 1, none⟩ = some (.int .i64 m2) := (hB.cell (p := ⟨yb, _, none⟩) yhb).trans (yhcell 1 _ rfl)
      have z2 : wr.cell? ⟨yb, yoff + q * 4 + 2, none⟩ = some (.string s2) := (hB.cell (p := ⟨yb, _, none⟩) yhb).trans (yhcell 2 _ rfl)
      have z3 : wr.cell? ⟨yb, yoff + q * 4 + 3, none⟩ = some (.slice A2 n2 cc2) := (hB.cell (p := ⟨yb, _, none⟩) yhb).trans (yhcell 3 _ rfl)
      have j1 : (0 : Int) ≤ (q : Int) := by omega
      have j2 : (q : Int) < (n : Int) := by omega
      have l1 : b < wr.heap.size := by omega
      have l2 : yb < wr.heap.size := by omega
      have HSQ := Lib.hid (HSM.out q hlt)
      clear hVq yhVq hC yhC hcell yhcell hCq yhCq hB
      go_wp2_with fail
      go_region_held3 (fun w' => w'.cell? ⟨b, off + q * 4, none⟩ = some (.int .i64 k1) ∧ w'.cell? ⟨b, off + q * 4 + 1, none⟩ = some (.int .i64 m1) ∧ w'.cell? ⟨b, off + q * 4 + 2, none⟩ = some (.string s1) ∧ w'.cell? ⟨b, off + q * 4 + 3, none⟩ = some (.slice A1 n1 cc1) ∧ w'.cell? ⟨yb, yoff + q * 4, none⟩ = some (.int .i64 k2) ∧ w'.cell? ⟨yb, yoff + q * 4 + 1, none⟩ = some (.int .i64 m2) ∧ w'.cell? ⟨yb, yoff + q * 4 + 2, none⟩ = some (.string s2) ∧ w'.cell? ⟨yb, yoff + q * 4 + 3, none⟩ = some (.slice A2 n2 cc2))
        (first | exact ⟨x0, x1, x2, x3, z0, z1, z2, z3⟩ | exact ⟨u2, u3, u4, u5', u6, u7, u8, u9⟩ | go_keep)
        (first | (go_at_call 50; refine (same_any (F q) (G q) _ _ (fun _ => True) (fun _ => True) _ (isV_below HW1.out ((Below.refl _ _).drew)) (isV_below HW2.out ((Below.refl _ _).drew))).mono ?_; rintro e w1 ⟨rfl, hb1⟩; rw [HSQ.out]; have FC := Lib.hid (fun b o (h : b < wr.heap.size) => (bcell hb1).1 b o h); have u2 := (FC.out b _ l1).trans x0; have u3 := (FC.out b _ l1).trans x1; have u4 := (FC.out b _ l1).trans x2; have u5' := (FC.out b _ l1).trans x3; have u6 := (FC.out yb _ l2).trans z0; have u7 := (FC.out yb _ l2).trans z1; have u8 := (FC.out yb _ l2).trans z2; have u9 := (FC.out yb _ l2).trans z3))
      have HB1 := Lib.hid (show Below w.heap.size w w1 from HBW.out.drew.trans (hb1.mono (show w.heap.size ≤ wr.heap.size from hsz)))
      clear hb1 u2 u3 u4 u5' u6 u7 u8 u9 x0 x1 x2 x3 z0 z1 z2 z3
      go_wp2_with fail
      go_roundw
      case rel => exact ⟨q + 1, by omega, by go_num, HB1.out⟩
      case measure => simp [intOf]; omega
    · obtain rfl : q = n := by omega
      go_wp2_with fail
      go_ret
      exact ⟨rfl, hB⟩
end Go.Proofs.Ytkdbnkkdohkhjaa
