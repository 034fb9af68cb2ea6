/- The walk of the law WardCalm. -/
import Derived.Test.YtcjkibjaajbfmaaWardBegin
import Derived.IntWalk
namespace Go.Proofs.Ytcjkibjaajbfmaa
open Go.RowKit Go.ChangeShapes Go.WideShapes
set_option linter.unusedVariables false
/-- a supervisor with other children of the same ids, and the same times -/
theorem OkW.like {W : Wd} (h : OkW W) (R' : Nat → Ch) (T' : Nat → Int) (hR : ∀ k, k < W.n → (R' k).id = (W.R k).id ∧ (R' k).when = (W.R k).when) (hT : ∀ k, k < W.m → T' k = W.T k) : OkW ⟨W.how, W.most, W.window, R', W.n, T', W.m⟩ := by
  refine ⟨h.1, h.2.1, h.2.2.1, fun k hk => ?_, fun k hk => ?_⟩
  · have hf := h.2.2.2.1 k hk
    have hk' : k < W.n := hk
    unfold FineC at hf ⊢
    refine ⟨by rw [(hR k hk').2]; exact hf.1, by rw [(hR k hk').2]; exact hf.2.1, fun j hj => ?_⟩
    show (R' j).id ≠ (R' k).id
    rw [(hR k hk').1, (hR j (by omega)).1]
    exact hf.2.2 j hj
  · have hf := h.2.2.2.2 k hk
    have hk' : k < W.m := hk
    unfold FineT lastT at hf ⊢
    show (if k = 0 then (0 : Int) else T' (k - 1)) ≤ T' k ∧ T' k ≤ 1099511627776
    rw [hT k hk']
    by_cases h0 : k = 0
    · rw [if_pos h0] at hf ⊢; exact hf
    · rw [if_neg h0] at hf ⊢; rw [hT (k - 1) (by omega)]; exact hf
theorem lst_fl (T : Nat → Int) {m k : Nat} (h : k < m) : lst (fl T m) k = T k := by
  unfold lst
  rw [List.getD_eq_getElem?_getD, fl_get T h]
  rfl
theorem arg_of_own {X : Wd} {w : World} {base c d : Nat} {A B : Option Addr} (hr : w.ownsRow base 34 3 (.slice A X.n c) X.n (flatC (chC X.R) X.n)) (ht : w.ownsRow base 3 1 (.slice B X.m d) X.m (flatC (tmC X.T) X.m)) : ArgOk X A B c d w := by
  obtain ⟨A1, c1, hv1, h1, h2, h3⟩ := own_any hr
  obtain ⟨B1, d1, hv2, h4, h5, h6⟩ := own_any ht
  injection hv1 with e1 _ e2
  injection hv2 with e3 _ e4
  subst e1 e2 e3 e4
  exact ⟨h1, h2, h4, h5, h3, h6, Rd.of_own (chC_len _) hr, Rd.of_own (tmC_len _) ht⟩
theorem own_fl {w : World} {base d m : Nat} {B : Option Addr} {T : Nat → Int} (h : OwnI w base (.slice B (fl T m).length d) (fl T m)) : w.ownsRow base 3 1 (.slice B m d) m (flatC (tmC T) m) := by
  unfold OwnI at h
  rw [fl_len] at h
  rw [flatC_fl]
  exact h
set_option maxRecDepth 100000 in
set_option maxHeartbeats 2000000 in
theorem wardCalm_go (X : Wd) (A B : Option Addr) (c d : Nat) (id : Int) (now : Int) (w : World) (ha : ArgOk X A B c d w) :
    Calls Try.prog 6 #[.agg #[.int .i64 X.how, .int .i64 X.most, .int .i64 X.window, .slice A X.n c, .slice B X.m d], .int .i64 id, .int .i64 now] w fun e w' => e = .returned (.bool true) ∧ Below w.heap.size w w' := by
  have HA := Lib.hid ha
  have hn1 := ha.hn
  have hn2 := ha.hc
  have hm1 := ha.hm
  have hm2 := ha.hd
  clear ha
  go_enter Try.func6, Try.ntmps6
  go_wp2_with fail
  refine (ix_eq 21 cl5_enters cl5 A X.n c X.R id (w.heap.size + 1) _ (by omega) (by exact HA.out.hR.below (((Below.refl _ _).alloc (Nat.le_refl _) _).alloc (by simp) _)) (by simp) (by simp [go_sem])).mono ?_
  rintro e w0 ⟨rfl, hb0⟩
  have hB0 : Below w.heap.size w w0 := (((Below.refl _ _).alloc (Nat.le_refl _) _).alloc (by simp) _).trans (hb0.mono (by simp; omega))
  have a0 : w0.cell? ⟨w.heap.size, 0, none⟩ = some (.int .i64 X.how) := (hb0.cell (p := ⟨_, _, none⟩) (by simp; omega)).trans (by simp [go_sem])
  have a1 : w0.cell? ⟨w.heap.size, 1, none⟩ = some (.int .i64 X.most) := (hb0.cell (p := ⟨_, _, none⟩) (by simp; omega)).trans (by simp [go_sem])
  have a2 : w0.cell? ⟨w.heap.size, 2, none⟩ = some (.int .i64 X.window) := (hb0.cell (p := ⟨_, _, none⟩) (by simp; omega)).trans (by simp [go_sem])
  have a3 : w0.cell? ⟨w.heap.size, 3, none⟩ = some (.slice A X.n c) := (hb0.cell (p := ⟨_, _, none⟩) (by simp; omega)).trans (by simp [go_sem])
  have a4 : w0.cell? ⟨w.heap.size, 4, none⟩ = some (.slice B X.m d) := (hb0.cell (p := ⟨_, _, none⟩) (by simp; omega)).trans (by simp [go_sem])
  have b0 : w0.cell? ⟨w.heap.size + 1, 0, none⟩ = some (.int .i64 id) := (hb0.cell (p := ⟨_, _, none⟩) (by simp)).trans (by simp [go_sem])
  have hz0 : w.heap.size + 1 < w0.heap.size := by have := hb0.size; simp at this; omega
  have hz00 : w.heap.size < w0.heap.size := by omega
  have HB0 := Lib.hid hB0
  clear hb0 hB0
  have HC := Lib.hid (And.intro a3 (And.intro a4 b0))
  go_wp2_with fail
  refine (down_any X A B c d id false now _ (HA.out.below HB0.out)).mono ?_
  rintro e w1 (⟨⟨x, hx, rfl, hb⟩, hno⟩ | ⟨i, hok, R', T', st, sp, gv, hr, A', c', B', d', vs, vt, rfl, hrow, htim, hsp, hst, hb⟩)
  · have hx0 : (x != 0) = true := by simpa using hx
    have HB1 := Lib.hid (HB0.out.trans (hb.mono HB0.out.size))
    clear hno hb a0 a1 a2 a3 a4 b0
    go_wp2_with fail
    refine (wards_any _).mono ?_
    rintro e w2 ⟨rfl, hb2⟩
    have HB2 := Lib.hid (((HB1.out.alloc HB1.out.size _).alloc (by simp; have := HB1.out.size; omega) _).trans (hb2.mono (by simp; have := HB1.out.size; omega)))
    clear hb2
    go_wp2_with fail
    refine (wards_any _).mono ?_
    rintro e w3 ⟨rfl, hb3⟩
    have HB3 := Lib.hid (HB2.out.trans (hb3.mono HB2.out.size))
    clear hb3
    go_wp2_with fail
    go_ret
    exact ⟨rfl, HB3.out⟩
  · have hix := Lib.hid (ix_ok hok.1 hok.2.1 hok.2.2.1)
    rw [hix.out]
    obtain ⟨S1, s1, rfl, hs1, hs2, _⟩ := own_any hsp
    obtain ⟨S2, s2, rfl, hs3, hs4, _⟩ := own_any hst
    have hin := hok.2.1
    have HB1 := Lib.hid (HB0.out.trans (hb.mono HB0.out.size))
    have hz1 := hb.size
    have A3 := (hb.cell (p := ⟨w.heap.size, 3, none⟩) hz00).trans a3
    have A4 := (hb.cell (p := ⟨w.heap.size, 4, none⟩) hz00).trans a4
    have BB := (hb.cell (p := ⟨w.heap.size + 1, 0, none⟩) hz0).trans b0
    have HOK := Lib.hid hok
    have HR := Lib.hid hr
    have HROW := Lib.hid hrow
    have HTIM := Lib.hid htim
    clear hr hok hrow htim hsp hst hb a0 a1 a2 a3 a4 b0
    go_wp2_with fail
    refine (wards_any _).mono ?_
    rintro e w2 ⟨rfl, hb2⟩
    have hal := ((Below.refl w1.heap.size w1).alloc (Nat.le_refl _) (.cells #[.int .i64 X.how, .int .i64 X.most, .int .i64 X.window, .slice A' X.n c', .slice B' T'.length d'] 25)).alloc (by simp) (.cells #[.slice S1 sp.length s1, .slice S2 st.length s2, .bool gv] 27)
    have hB12 : Below w1.heap.size w1 w2 := hal.trans (hb2.mono (by simp; omega))
    have HB12 := Lib.hid hB12
    have HB2 := Lib.hid (HB1.out.trans (hB12.mono HB1.out.size))
    have A32 := Lib.hid ((hB12.cell (p := ⟨w.heap.size, 3, none⟩) (show _ < _ by simp; omega)).trans A3)
    have A42 := Lib.hid ((hB12.cell (p := ⟨w.heap.size, 4, none⟩) (show _ < _ by simp; omega)).trans A4)
    have BB2 := Lib.hid ((hB12.cell (p := ⟨w.heap.size + 1, 0, none⟩) (show _ < _ by simp; omega)).trans BB)
    have X0 : Hid (w2.cell? ⟨w1.heap.size, 0, none⟩ = some (.int .i64 X.how)) := Lib.hid ((hb2.cell (p := ⟨w1.heap.size, _, none⟩) (by simp; omega)).trans (by simp [go_sem]))
    have X1 : Hid (w2.cell? ⟨w1.heap.size, 1, none⟩ = some (.int .i64 X.most)) := Lib.hid ((hb2.cell (p := ⟨w1.heap.size, _, none⟩) (by simp; omega)).trans (by simp [go_sem]))
    have X2 : Hid (w2.cell? ⟨w1.heap.size, 2, none⟩ = some (.int .i64 X.window)) := Lib.hid ((hb2.cell (p := ⟨w1.heap.size, _, none⟩) (by simp; omega)).trans (by simp [go_sem]))
    have X3 : Hid (w2.cell? ⟨w1.heap.size, 3, none⟩ = some (.slice A' X.n c')) := Lib.hid ((hb2.cell (p := ⟨w1.heap.size, _, none⟩) (by simp; omega)).trans (by simp [go_sem]))
    have X4 : Hid (w2.cell? ⟨w1.heap.size, 4, none⟩ = some (.slice B' T'.length d')) := Lib.hid ((hb2.cell (p := ⟨w1.heap.size, _, none⟩) (by simp; omega)).trans (by simp [go_sem]))
    have P0 : Hid (w2.cell? ⟨w1.heap.size + 1, 0, none⟩ = some (.slice S1 sp.length s1)) := Lib.hid ((hb2.cell (p := ⟨w1.heap.size + 1, _, none⟩) (by simp)).trans (by simp [go_sem]))
    have P1 : Hid (w2.cell? ⟨w1.heap.size + 1, 1, none⟩ = some (.slice S2 st.length s2)) := Lib.hid ((hb2.cell (p := ⟨w1.heap.size + 1, _, none⟩) (by simp)).trans (by simp [go_sem]))
    have P2 : Hid (w2.cell? ⟨w1.heap.size + 1, 2, none⟩ = some (.bool gv)) := Lib.hid ((hb2.cell (p := ⟨w1.heap.size + 1, _, none⟩) (by simp)).trans (by simp [go_sem]))
    have hz2 : w1.heap.size + 1 < w2.heap.size := by have := hb2.size; simp at this; omega
    obtain ⟨b, off, hAA, hbb, hcell⟩ := HA.out.hR (by omega)
    have k1 : w2.cell? ⟨b, off + i * 3 + 1, none⟩ = some (.int .i64 (X.R i).when) := (HB2.out.cell (p := ⟨b, _, none⟩) hbb).trans (hcell i hin 1 _ rfl)
    clear hb2 hal hB12 A3 A4 BB hcell
    subst hAA
    have i1 : (0 : Int) ≤ (i : Int) := by omega
    have i2 : (i : Int) < (X.n : Int) := by omega
    have a3 := A32.out
    by_cases hw1 : (X.R i).when = 1
    · have e1 : ((X.R i).when == 1) = true := by simpa using hw1
      clear hw1
      go_wp2_with fail
      refine (wards_any _).mono ?_
      rintro e w3 ⟨rfl, hb3⟩
      have HB3 := Lib.hid (HB2.out.trans (hb3.mono HB2.out.size))
      clear hb3
      go_wp2_with fail
      go_ret
      exact ⟨rfl, HB3.out⟩
    · have e1 : ((X.R i).when == 1) = false := by simpa using hw1
      have hag : againB X i false = false := by
        have h1 := (HOK.out.1.2.2.2.1 i hin).1
        have h2 := (HOK.out.1.2.2.2.1 i hin).2.1
        have h3 : (X.R i).when = 2 ∨ (X.R i).when = 3 := by omega
        unfold againB
        rcases h3 with h | h <;> rw [h] <;> rfl
      have hres : (∀ k, k < X.n → R' k = offR X.R i (i + 1) k) ∧ T' = fl X.T X.m ∧ sp = [] ∧ st = [] ∧ gv = false := by
        rcases HR.out with ⟨_, h⟩ | ⟨h, _⟩ | ⟨h, _⟩
        · exact h
        · rw [hag] at h; cases h
        · rw [hag] at h; cases h
      obtain ⟨hR', hT', hsp, hst, hgv⟩ := hres
      subst hsp hst hgv hT'
      have htimes := own_fl HTIM.out
      rw [fl_len] at X4
      have HR' := Lib.hid hR'
      have hrow2 := own_keep HROW.out HB12.out
      have htim2 := own_keep htimes HB12.out
      have harg : ArgOk ⟨X.how, X.most, X.window, R', X.n, X.T, X.m⟩ A' B' c' d' w2 := arg_of_own hrow2 htim2
      have hRl : ∀ k, k < X.n → (R' k).id = (X.R k).id ∧ (R' k).when = (X.R k).when := fun k hk => by rw [hR' k hk]; unfold offR; split <;> exact ⟨rfl, rfl⟩
      have hokx : OkW ⟨X.how, X.most, X.window, R', X.n, X.T, X.m⟩ := OkW.like HOK.out.1 R' X.T hRl (fun _ _ => rfl)
      have HARG := Lib.hid harg
      have HOKX := Lib.hid hokx
      have HRL := Lib.hid hRl
      have x0 := X0.out
      have x1 := X1.out
      have x2 := X2.out
      have x3 := X3.out
      have x4 := X4.out
      clear hw1 hag hR' htimes hrow2 htim2 harg hokx hRl
      go_wp2_with fail
      refine (begin_ok ⟨X.how, X.most, X.window, R', X.n, X.T, X.m⟩ A' B' c' d' _ HARG.out HOKX.out).mono ?_
      rintro e w3 ⟨A5, c5, B5, d5, C5, f5, rfl, hr5, ht5, hd5, hb3⟩
      have HB3 := Lib.hid (HB2.out.trans (hb3.mono HB2.out.size))
      have hz3 := hb3.size
      have p0 := (hb3.cell (p := ⟨w1.heap.size + 1, 0, none⟩) hz2).trans P0.out
      have p1 := (hb3.cell (p := ⟨w1.heap.size + 1, 1, none⟩) hz2).trans P1.out
      have p2 := (hb3.cell (p := ⟨w1.heap.size + 1, 2, none⟩) hz2).trans P2.out
      have y4 := (hb3.cell (p := ⟨w1.heap.size, 4, none⟩) (show _ < _ by simp; omega)).trans X4.out
      have y5 := (hb3.cell (p := ⟨w.heap.size, 4, none⟩) (show _ < _ by simp; omega)).trans A42.out
      have y6 := (hb3.cell (p := ⟨w.heap.size + 1, 0, none⟩) (show _ < _ by simp; omega)).trans BB2.out
      have HT3 := Lib.hid (HARG.out.hT.below hb3)
      have HTw := Lib.hid (HA.out.hT.below HB3.out)
      have HD5 := Lib.hid hd5
      have HARG5 := Lib.hid (show ArgOk ⟨X.how, X.most, X.window, onTo R' X.n, X.n, X.T, X.m⟩ A5 B5 c5 d5 w3 from arg_of_own hr5 ht5)
      have HOK5 := Lib.hid (show OkW ⟨X.how, X.most, X.window, onTo R' X.n, X.n, X.T, X.m⟩ from OkW.like HOK.out.1 _ X.T (fun k hk => by unfold onTo; rw [if_pos hk]; exact HRL.out k hk) (fun _ _ => rfl))
      have hmem : decide (id ∈ deadIds R' X.n) = true := by
        rw [decide_eq_true_eq]
        unfold deadIds idsOf
        rw [List.mem_map]
        refine ⟨i, mem_ksUp.2 ⟨Nat.zero_le _, hin, ?_⟩, (HRL.out i hin).1.trans HOK.out.2.2.1⟩
        rw [HR'.out i hin]
        simp [offR]
      have HMEM := Lib.hid hmem
      dsimp only
      clear hb3 hr5 ht5 hd5 hmem x0 x1 x2 x3 x4 k1 a3 i1 i2 e1
      obtain ⟨_, _, _, hcf5, hcm5, _⟩ := own_any HD5.out
      have j1 : w1.heap.size + 1 < w3.heap.size := by omega
      have j2 : w1.heap.size < w3.heap.size := by omega
      have j3 : w.heap.size < w3.heap.size := by omega
      have j4 : w.heap.size + 1 < w3.heap.size := by omega
      have HR3 := Lib.hid HD5.out.rd
      go_wp2_with fail
      refine (equalI_any B' B X.m d' X.m d X.T X.T _ (by omega) (by omega) (by exact HT3.out.alloc _) (by exact HTw.out.alloc _)).mono ?_
      rintro e w4 ⟨rfl, q, rfl⟩
      rw [show (decide (X.m = X.m) && !anyOf (fun k => X.T k != X.T k) X.m) = true from by rw [show anyOf (fun k => X.T k != X.T k) X.m = false from anyOf_false.2 (fun k _ => by simp)]; simp]
      go_wp2_with fail
      refine (containsI_any C5 _ f5 (lst (deadIds R' X.n)) id _ (by omega) (by exact HR3.out.below (below_drewN ((Below.refl _ _).alloc (Nat.le_refl _) _) _))).mono ?_
      rintro e w4 ⟨rfl, rfl⟩
      rw [any_lst, HMEM.out]
      go_wp2_with fail
      refine (check_ok ⟨X.how, X.most, X.window, onTo R' X.n, X.n, X.T, X.m⟩ A5 B5 c5 d5 _ HARG5.out.hn HARG5.out.hc HARG5.out.hm HARG5.out.hd (by exact HARG5.out.hR.below (below_drewN ((Below.refl _ _).alloc (Nat.le_refl _) _) _)) (by exact HARG5.out.hT.below (below_drewN ((Below.refl _ _).alloc (Nat.le_refl _) _) _)) HOK5.out).mono ?_
      rintro e w5 ⟨rfl, hb5⟩
      have hB5 := (below_drewN (HB3.out.alloc HB3.out.size _) q).trans (hb5.mono (by show w.heap.size ≤ (w3.alloc _).heap.size; simp; omega))
      clear hb5
      go_wp2_with fail
      go_ret
      exact ⟨rfl, hB5⟩
set_option maxRecDepth 100000 in
theorem wardCalm_walk {H : Type} {enc : TypeId × Value → H} (W : World) (base : Nat) (v0 v1 v2 : Value) {d0 d1 d2 : DataW H} {p0 p1 p2 : List MemPlace}
    (k0 : Value.okWide Try.prog W .any base 25 v0) (k1 : Value.okWide Try.prog W .any base 3 v1) (k2 : Value.okWide Try.prog W .any base 3 v2)
    (h0 : DataW.Trod enc Try.prog W 0 (fun _ => true) true 25 v0 d0 p0) (h1 : DataW.Trod enc Try.prog W 0 (fun _ => true) true 3 v1 d1 p1)
    (h2 : DataW.Trod enc Try.prog W 0 (fun _ => true) true 3 v2 d2 p2) :
    Calls Try.prog 6 #[v0, v1, v2] W fun e W' => e = .returned (.bool true) ∧ Below W.heap.size W W' := by
  obtain ⟨X, A, B, c, d, rfl, ha⟩ := open_ward k0 h0
  obtain ⟨a1, rfl, _, _, _⟩ := open_int Try.underlying3 k1 h1
  obtain ⟨a2, rfl, _, _, _⟩ := open_int Try.underlying3 k2 h2
  exact wardCalm_go X A B c d a1 a2 W ha
end Go.Proofs.Ytcjkibjaajbfmaa
