/- link.copyOf. -/
import Derived.Test.YtcjkibjaajbfmaaLinkB
namespace Go.Proofs.Ytcjkibjaajbfmaa
open Go.RowKit
set_option linter.unusedVariables false
def CopyL (n : Nat) (R : Nat → LR) (w : World) (e : Ending) (w' : World) : Prop := ∃ v vw vl, e = .returned v ∧ OwnL w' w.heap.size v n R vw vl ∧ Below w.heap.size w w'
/-- a copy of a slice of numbers -/
theorem cloneSl (A : Option Addr) (c : Nat) (l : List Int) (w : World) (hS : Sl w (.slice A l.length c) l) (hl : l.length ≤ 1000000) :
    Calls Try.prog 29 #[.slice A l.length c] w fun e w' => ∃ A' c', e = .returned (.slice A' l.length c') ∧ OwnI w' w.heap.size (.slice A' l.length c') l ∧ Below w.heap.size w w' := by
  obtain ⟨A0, c0, e, h1, h2, h3, h4⟩ := hS
  injection e with e1 e2 e3
  subst e1 e3
  refine (cloneInt A l.length c (tmC (lst l)) w h4 (tmC_len _) (tmC_one _) h3 (by omega)).mono ?_
  rintro e w1 ⟨v1, rfl, hown1, hb1⟩
  rw [flatC_lst] at hown1
  obtain ⟨A1, c1, rfl, _, _, _⟩ := own_any hown1
  exact ⟨A1, c1, rfl, hown1, hb1⟩
theorem cells3_one (a : Int) (A B : Option Addr) (n m c d : Nat) : ∀ u ∈ ([.int .i64 a, .slice A n c, .slice B m d] : List Value), u.oneCell' = true := by
  intro u hu
  simp at hu
  rcases hu with rfl | rfl | rfl <;> rfl
theorem cell_new3 (W : World) (a b c : Value) (t : TypeId) (n : Nat) (hn : W.heap.size = n) : ∀ j u, [a, b, c][j]? = some u → (W.alloc (.cells #[a, b, c] t)).cell? ((⟨n, 0, none⟩ : Addr).add j) = some u := by
  intro j u hu
  rw [Addr.add_lit, World.cell?_alloc_at (w := W) #[a, b, c] t n (0 + j) hn.symm]
  simpa using hu
set_option maxRecDepth 100000 in
set_option maxHeartbeats 4000000 in
theorem copy_any (A : Option Addr) (n c : Nat) (R : Nat → LR) (vw vl : Nat → Value) (w : World) (hn : n ≤ c) (hc : c ≤ 9223372036854775807) (h8 : n ≤ 100) (hR : RdL w A n R vw vl) (hl : ∀ k, k < n → (R k).ws.length ≤ 100 ∧ (R k).ls.length ≤ 100) :
    Calls Try.prog 59 #[.slice A n c] w (CopyL n R w) := by
  obtain ⟨i0, hi, hz0, hz1, hz2⟩ := info_parts infoRow
  have HR := Lib.hid hR
  have HL := Lib.hid hl
  clear hR hl
  go_enter Try.func59, Try.ntmps59
  go_wp2_with fail
  go_loopw [3, 5, 8] (fun o _ x wr => ∃ (i : Nat) (v : Value) (vw' vl' : Nat → Value), i ≤ n ∧ x = .int .i64 i ∧ v = o ∧ OwnL wr w.heap.size v i R vw' vl' ∧ Below w.heap.size w wr) (fun _ _ x _ => n - (intOf x).toNat)
  case atStart => exact ⟨0, _, vw, vl, Nat.zero_le _, rfl, rfl, OwnL.nil _ _ _ _ _, Below.refl _ _⟩
  case round =>
    obtain ⟨i, v, vw', vl', hin, rfl, rfl, hO, hB⟩ := hrel
    have HO := Lib.hid hO
    have HB := Lib.hid hB
    have hBs := hB.size
    obtain ⟨Ao, co, rfl, hnco, hcmo, _⟩ := own_any hO.row
    by_cases hlt : i < n
    · obtain ⟨b, off, rfl, hb, hcell⟩ := HR.out.row (by omega)
      obtain ⟨hSw, hSl⟩ := HR.out.each i hlt
      have hSw' := hSw
      have hSl' := hSl
      obtain ⟨wA, wc, hvw, w1, w2, w3, hrw⟩ := hSw'
      obtain ⟨lA, lc, hvl, l1, l2, l3, hrl⟩ := hSl'
      have c0 : wr.cell? ⟨b, off + i * 3, none⟩ = some (.int .i64 (R i).ref) := (hB.cell (p := ⟨b, _, none⟩) hb).trans (hcell i hlt 0 _ rfl)
      have c1 : wr.cell? ⟨b, off + i * 3 + 1, none⟩ = some (.slice wA (R i).ws.length wc) := (hB.cell (p := ⟨b, _, none⟩) hb).trans (hcell i hlt 1 _ (by simp [rwC, hvw]))
      have c2 : wr.cell? ⟨b, off + i * 3 + 2, none⟩ = some (.slice lA (R i).ls.length lc) := (hB.cell (p := ⟨b, _, none⟩) hb).trans (hcell i hlt 2 _ (by simp [rwC, hvl]))
      rw [hvw] at hSw
      rw [hvl] at hSl
      have HSW := Lib.hid (hSw.below hB)
      have HSL := Lib.hid (hSl.below hB)
      obtain ⟨hl1, hl2⟩ := HL.out i hlt
      have HRI := Lib.hid (show ∀ x, rwC R (updV vw' i x) vl' i = rwC R (updV vw' i x) vl' i from fun _ => rfl)
      obtain ⟨r, hr⟩ : ∃ r, R i = r := ⟨_, rfl⟩
      rw [hr] at c0 c1 c2 HSW HSL hl1 hl2
      have HK := Lib.hid hr
      clear hr hO hB hcell hvw hvl hrw hrl w3 l3 hSw hSl w1 w2 l1 l2 HRI
      obtain ⟨ref, ws, ls⟩ := r
      dsimp only at *
      obtain ⟨W0, hW0⟩ : ∃ W0, W0 = wr.alloc (.cells #[.int .i64 ref, .slice wA ws.length wc, .slice lA ls.length lc] 68) := ⟨_, rfl⟩
      go_wp2_with fail
      rw [← hW0]
      have hz0' : W0.heap.size = wr.heap.size + 1 := by rw [hW0]; simp
      have hb0 : Below wr.heap.size wr W0 := by rw [hW0]; exact (Below.refl _ _).alloc (Nat.le_refl _) _
      have q0 : W0.drew.cell? ⟨wr.heap.size, 0, none⟩ = some (.int .i64 ref) := by show W0.cell? _ = _; rw [hW0]; simp
      have q1 : W0.drew.cell? ⟨wr.heap.size, 1, none⟩ = some (.slice wA ws.length wc) := by show W0.cell? _ = _; rw [hW0]; simp
      have q2 : W0.drew.cell? ⟨wr.heap.size, 2, none⟩ = some (.slice lA ls.length lc) := by show W0.cell? _ = _; rw [hW0]; simp
      have HB0 := Lib.hid (show Below wr.heap.size wr W0.drew from hb0.drew)
      have HSW0 := Lib.hid (HSW.out.below HB0.out)
      have HSL0 := Lib.hid (HSL.out.below HB0.out)
      have HZ0 := Lib.hid (show W0.drew.heap.size = wr.heap.size + 1 from hz0')
      clear hW0 hz0' hb0 c0 c1 c2
      go_region_held3 (fun w' => w'.cell? ⟨wr.heap.size, 0, none⟩ = some (.int .i64 ref) ∧ w'.cell? ⟨wr.heap.size, 1, none⟩ = some (.slice wA ws.length wc) ∧ w'.cell? ⟨wr.heap.size, 2, none⟩ = some (.slice lA ls.length lc))
        (first | exact ⟨q0, q1, q2⟩ | exact ⟨u0, u1, u2⟩ | exact ⟨v0, v1, v2⟩ | exact ⟨x0, x1, x2⟩ | go_keep)
        (first
          | (go_at_call 29; refine (cloneSl wA wc ws W0.drew HSW0.out (by omega)).mono ?_; rintro e w1 ⟨A1, a1, rfl, hown1, hb1⟩; have HX1 := Lib.hid hown1; have HY1 := Lib.hid hb1; have hs1 := hb1.size; have u0 := (hb1.cell (p := ⟨_, _, none⟩) (by show wr.heap.size < W0.drew.heap.size; rw [HZ0.out]; omega)).trans q0; have u1 := (hb1.cell (p := ⟨_, _, none⟩) (by show wr.heap.size < W0.drew.heap.size; rw [HZ0.out]; omega)).trans q1; have u2 := (hb1.cell (p := ⟨_, _, none⟩) (by show wr.heap.size < W0.drew.heap.size; rw [HZ0.out]; omega)).trans q2; clear hown1 hb1)
          | (go_at_call 29; refine (cloneSl lA lc ls w1 (HSL0.out.below HY1.out) (by omega)).mono ?_; rintro e w2 ⟨A2, a2, rfl, hown2, hb2⟩; have HO2 := Lib.hid (hown2.mono (show wr.heap.size ≤ w1.heap.size by have := HZ0.out; omega)); have HO1 := Lib.hid ((HX1.out.below hb2).mono (show wr.heap.size ≤ W0.drew.heap.size by have := HZ0.out; omega)); have HAP := Lib.hid (show ∀ k, (Value.slice A1 ws.length a1).ownBlock = some k → (Value.slice A2 ls.length a2).ownBlock ≠ some k from fun k hk1 hk2 => by have h1 := HX1.out.blk k hk1; have h2 := hown2.blk k hk2; omega); have HBB := Lib.hid ((HB0.out.trans (HY1.out.mono (show wr.heap.size ≤ W0.drew.heap.size by have := HZ0.out; omega))).trans (hb2.mono (show wr.heap.size ≤ w1.heap.size by have := HZ0.out; omega))); have hs2 := hb2.size; have v0 := (hb2.cell (p := ⟨_, _, none⟩) (by show wr.heap.size < w1.heap.size; have := HZ0.out; omega)).trans u0; have v1 := (hb2.cell (p := ⟨_, _, none⟩) (by show wr.heap.size < w1.heap.size; have := HZ0.out; omega)).trans u1; have v2 := (hb2.cell (p := ⟨_, _, none⟩) (by show wr.heap.size < w1.heap.size; have := HZ0.out; omega)).trans u2; clear hown2 hb2)
          | (go_at_call 29; refine (cloneSl lA lc ls W0.drew HSL0.out (by omega)).mono ?_; rintro e w1 ⟨A2, a2, rfl, hown1, hb1⟩; have HX2 := Lib.hid hown1; have HY1 := Lib.hid hb1; have hs1 := hb1.size; have u0 := (hb1.cell (p := ⟨_, _, none⟩) (by show wr.heap.size < W0.drew.heap.size; rw [HZ0.out]; omega)).trans q0; have u1 := (hb1.cell (p := ⟨_, _, none⟩) (by show wr.heap.size < W0.drew.heap.size; rw [HZ0.out]; omega)).trans q1; have u2 := (hb1.cell (p := ⟨_, _, none⟩) (by show wr.heap.size < W0.drew.heap.size; rw [HZ0.out]; omega)).trans q2; clear hown1 hb1)
          | (go_at_call 29; refine (cloneSl wA wc ws w1 (HSW0.out.below HY1.out) (by omega)).mono ?_; rintro e w2 ⟨A1, a1, rfl, hown2, hb2⟩; have HO1 := Lib.hid (hown2.mono (show wr.heap.size ≤ w1.heap.size by have := HZ0.out; omega)); have HO2 := Lib.hid ((HX2.out.below hb2).mono (show wr.heap.size ≤ W0.drew.heap.size by have := HZ0.out; omega)); have HAP := Lib.hid (show ∀ k, (Value.slice A1 ws.length a1).ownBlock = some k → (Value.slice A2 ls.length a2).ownBlock ≠ some k from fun k hk1 hk2 => by have h1 := HX2.out.blk k hk2; have h2 := hown2.blk k hk1; omega); have HBB := Lib.hid ((HB0.out.trans (HY1.out.mono (show wr.heap.size ≤ W0.drew.heap.size by have := HZ0.out; omega))).trans (hb2.mono (show wr.heap.size ≤ w1.heap.size by have := HZ0.out; omega))); have hs2 := hb2.size; have v0 := (hb2.cell (p := ⟨_, _, none⟩) (by show wr.heap.size < w1.heap.size; have := HZ0.out; omega)).trans u0; have v1 := (hb2.cell (p := ⟨_, _, none⟩) (by show wr.heap.size < w1.heap.size; have := HZ0.out; omega)).trans u1; have v2 := (hb2.cell (p := ⟨_, _, none⟩) (by show wr.heap.size < w1.heap.size; have := HZ0.out; omega)).trans u2; clear hown2 hb2)
          | (refine step_append_lies _ (by rfl) _ _ _ (by rfl) w.heap.size 68 i0 _ 3 56 Try.underlying62 hi hz0 hz1 hz2 rfl (by omega) (.slice Ao i co) i (flatC (rwC R vw' vl') i) (by rfl) ((own_keep HO.out.row HBB.out).alloc _) ⟨w2.heap.size, 0, none⟩ 1 1 [.int .i64 ref, .slice A1 ws.length a1, .slice A2 ls.length a2] (by rfl) (by rfl) (cell_new3 _ _ _ _ _ _ rfl) (cells3_one _ _ _ _ _ _ _) (by omega) (by unfold maxLen; omega) (by omega) (by simp; have := HZ0.out; omega) (w2.heap.size + 1) (by simp) ?_; intro g cap w5 hown5 hgrow5 hat5 hlt5; have hne : some wr.heap.size ≠ (Value.slice Ao i co).ownBlock := (fun e => by have := (HO.out.row.lt _ e.symm).2; omega); have x0 := (grown_cell (b := wr.heap.size) (o := 0) hgrow5 (by simp; have := HZ0.out; omega) hne).trans ((World.cell?_alloc_lt _ _ ⟨wr.heap.size, 0, none⟩ (by show wr.heap.size < w2.heap.size; have := HZ0.out; omega)).trans v0); have x1 := (grown_cell (b := wr.heap.size) (o := 1) hgrow5 (by simp; have := HZ0.out; omega) hne).trans ((World.cell?_alloc_lt _ _ ⟨wr.heap.size, 1, none⟩ (by show wr.heap.size < w2.heap.size; have := HZ0.out; omega)).trans v1); have x2 := (grown_cell (b := wr.heap.size) (o := 2) hgrow5 (by simp; have := HZ0.out; omega) hne).trans ((World.cell?_alloc_lt _ _ ⟨wr.heap.size, 2, none⟩ (by show wr.heap.size < w2.heap.size; have := HZ0.out; omega)).trans v2); have HO5 := Lib.hid hown5; have HG5 := Lib.hid hgrow5; have HA5 := Lib.hid hat5; clear hown5 hgrow5 hat5 hne))
      all_goals
        go_wp2_with fail
        refine ⟨⟨i + 1, _, updV vw' i (.slice A1 ws.length a1), updV vl' i (.slice A2 ls.length a2), by omega, by go_num, rfl, ?_, ?_⟩, by simp [intOf]; omega⟩
        · refine HO.out.snoc hBs HBB.out (by rw [HK.out]; exact HO1.out) (by rw [HK.out]; exact HO2.out) HAP.out HG5.out ?_ (by rw [HK.out]; exact HO5.out)
          rcases HA5.out with h | h
          · exact .inl h.symm
          · exact .inr (by rw [h]; rfl)
        · exact below_grown ((HB.out.trans (HBB.out.mono hBs)).alloc (by have := HBB.out.size; omega) _) (by simp; have := HBB.out.size; omega) HG5.out (fun k hk => (HO.out.row.lt k hk).1)
    · obtain rfl : i = n := by omega
      clear hO hB
      go_wp2_with fail
      go_ret
      exact ⟨_, vw', vl', rfl, HO.out, HB.out⟩
end Go.Proofs.Ytcjkibjaajbfmaa
