/- The walk of the law LimitTurns. -/
import Derived.Test.YtjcegplockihfaaLimitLaw
namespace Go.Proofs.Ytjcegplockihfaa
open Go.RowKit Go.ChangeShapes Go.WideShapes
set_option linter.unusedVariables false
theorem back_take {R : Nat → LRow} {n k : Nat} {ref l d : Int} (ok : OkL R n) (hk : k < n) (hr : (R k).ref = ref) (ht : OkT (R k) l d) :
    GvOk (updF R k (taken (R k) l d)) n ref l d k ∧ ∀ j, GvOk (updF R k (taken (R k) l d)) n ref l d j → ∀ q, q < n → updF (updF R k (taken (R k) l d)) j (given (updF R k (taken (R k) l d) j) l d) q = R q := by
  obtain ⟨t1, t2, t3, t4⟩ := ht
  obtain ⟨g1, g2, g3, g4, g5, g6⟩ := (ok.2 k hk).1
  have e : updF R k (taken (R k) l d) k = taken (R k) l d := by simp [updF]
  have ok1 : OkL (updF R k (taken (R k) l d)) n := okL_upd ok (taken (R k) l d) rfl ⟨by simp only [taken]; omega, t3, g3, by simp only [taken]; omega, t4, g6⟩
  refine ⟨⟨ok1, hk, by rw [e]; exact hr, ?_⟩, fun j hj q hq => ?_⟩
  · rw [e]
    exact ⟨t1, t2, by simp only [taken]; omega, by simp only [taken]; omega⟩
  · obtain rfl : j = k := okL_inj ok1 hj.2.1 hk (by rw [hj.2.2.1, e]; exact hr.symm)
    rw [e, updF_updF]
    by_cases eq : q = j
    · subst eq
      simp [updF, given, taken]
    · simp [updF, eq]
theorem back_fork {R : Nat → LRow} {n k p : Nat} {ref to l c : Int} (h : FkOk R n ref to l c k p) :
    (∃ i j, JnOk (fkR R k p to l c) (n + 1) to ref i j) ∧ ∀ i j, JnOk (fkR R k p to l c) (n + 1) to ref i j → ∀ q, q < n → jnR (fkR R k p to l c) j i q = R q := by
  have ok1 := (fork_good h).1
  obtain ⟨ok, hk, hr, hne, hf, hn, hp, hlow, hup⟩ := h
  obtain ⟨f1, f2, f3, f4⟩ := hf
  obtain ⟨g1, g2, g3, g4, g5, g6⟩ := (ok.2 k hk).1
  have ep : fkR R k p to l c p = ⟨to, 0, 0, l, c⟩ := by simp [fkR, insF]
  obtain ⟨k', hk'⟩ : ∃ k', k' = if k < p then k else k + 1 := ⟨_, rfl⟩
  have ek : fkR R k p to l c k' = forked (R k) l c := by
    rw [hk']
    unfold fkR insF
    split
    · simp [updF]
    · rw [if_neg (by omega), if_neg (by omega), Nat.add_sub_cancel]; simp [updF]
  have hkn : k' < n + 1 := by rw [hk']; split <;> omega
  have hkp : k' ≠ p := by rw [hk']; split <;> omega
  refine ⟨⟨p, k', ok1, by omega, hkn, by rw [ep], by rw [ek]; exact hr, hkp, by rw [ep, ek]; simp only [forked]; omega, by rw [ep, ek]; simp only [forked]; omega⟩, fun i j hj q hq => ?_⟩
  obtain rfl : i = p := okL_inj ok1 hj.2.1 (by omega) (by rw [hj.2.2.2.1, ep])
  obtain rfl : j = k' := okL_inj ok1 hj.2.2.1 hkn (by rw [hj.2.2.2.2.1, ek]; exact hr.symm)
  have eJ : joined (fkR R k i to l c j) (fkR R k i to l c i) = R k := by
    rw [ep, ek]
    simp [joined, forked]
  unfold jnR
  rw [eJ]
  unfold delF
  by_cases h1 : q < i
  · rw [if_pos h1]
    by_cases h2 : q = j
    · have : k = q := by rw [h2, hk']; rw [hk'] at h2; split at h2 <;> split <;> omega
      rw [this]; simp [updF, h2]
    · have h3 : q ≠ k := fun e => h2 (by rw [hk', e]; rw [if_pos (by omega)])
      have e3 : fkR R k i to l c q = R q := by unfold fkR insF; rw [if_pos h1]; simp [updF, h3]
      unfold updF
      rw [if_neg h2]
      exact e3
  · rw [if_neg h1]
    by_cases h2 : q + 1 = j
    · have : k = q := by rw [hk'] at h2; split at h2 <;> omega
      rw [this]; simp [updF, h2]
    · have h3 : q ≠ k := fun e => h2 (by rw [hk', e]; rw [if_neg (by omega)])
      have e3 : fkR R k i to l c (q + 1) = R q := by unfold fkR insF; rw [if_neg (by omega), if_neg (by omega), Nat.add_sub_cancel]; simp [updF, h3]
      unfold updF
      rw [if_neg h2]
      exact e3
set_option maxRecDepth 100000 in
set_option maxHeartbeats 4000000 in
/-- behind Take and Give: Fork and Join -/
theorem limitTurns_go (A : Option Addr) (n c : Nat) (R : Nat → LRow) (ref to l d : Int) (w : World) (hn : n ≤ c) (hc : c ≤ 9223372036854775807) (hR : Rd w 5 (rowC R) A n) :
    Calls Try.prog 6 #[.slice A n c, .int .i64 ref, .int .i64 to, .int .i64 l, .int .i64 d] w fun e w' => e = .returned (.bool true) ∧ Below w.heap.size w w' := by
  have HR := Lib.hid hR
  clear hR
  go_enter Try.func6, Try.ntmps6
  go_wp2_with fail
  refine (limits_any _).mono ?_
  rintro e w1 ⟨rfl, hb1⟩
  have HB1 := Lib.hid hb1
  clear hb1
  go_wp2_with fail
  refine (take_any A n c R ref l d _ hn hc (by exact HR.out.below HB1.out)).mono ?_
  rintro e w2 (⟨⟨x, rfl, hx, hb2⟩, _⟩ | ⟨k, ok, hk, hix, ht, v, rfl, hown, hb2⟩)
  · have hx0 : (x == 0) = false := by simpa using hx
    have HBP := Lib.hid (HB1.out.trans (hb2.mono HB1.out.size))
    clear hx hb2
    go_wp2_with fail
    refine (fork_any A n c R ref to l d _ hn hc (by exact HR.out.below HBP.out)).mono ?_
    rintro e w5 (⟨x2, rfl, hx2, hb5⟩ | ⟨k2, p2, hfk, v5, rfl, hown5, hb5⟩)
    · have hx20 : (x2 != 0) = true := by simpa using hx2
      have HB5 := Lib.hid (HBP.out.trans (hb5.mono HBP.out.size))
      clear hx2 hb5
      go_wp2_with fail
      go_ret
      exact ⟨rfl, HB5.out⟩
    obtain ⟨hj1, hj2⟩ := back_fork hfk
    obtain ⟨A5, c5, rfl, b1, b2, _⟩ := own_any hown5
    have HR5 := Lib.hid (show Rd w5 5 (rowC (fkR R k2 p2 to l d)) A5 (n + 1) from Rd.of_own (rowC_len _) hown5)
    have HB5 := Lib.hid (HBP.out.trans (hb5.mono HBP.out.size))
    have HJ1 := Lib.hid hj1
    have HJ2 := Lib.hid hj2
    clear hfk hown5 hb5 hj1 hj2
    go_wp2_with fail
    refine (join_any A5 (n + 1) c5 _ to ref _ b1 b2 HR5.out).mono ?_
    rintro e w6 (⟨_, hno⟩ | ⟨i6, j6, hjn, v6, rfl, hown6, hb6⟩)
    · exact absurd HJ1.out hno
    rw [Nat.add_sub_cancel] at hown6
    have HS6 := Lib.hid (HJ2.out i6 j6 hjn)
    obtain ⟨A6, c6, rfl, b3, b4, _⟩ := own_any hown6
    have HR6 := Lib.hid (show Rd w6 5 (rowC R) A6 n from (Rd.of_own (rowC_len _) hown6).congr fun q hq => by simp only [rowC]; rw [HS6.out q hq])
    have HB6 := Lib.hid (HB5.out.trans (hb6.mono HB5.out.size))
    clear hown6 hb6 hjn HJ1 HJ2 HR5 HS6
    go_wp2_with fail
    refine (equalL_same A6 A n n c6 c R _ rfl b3 b4 (by exact HR6.out) (by exact HR.out.below HB6.out)).mono ?_
    rintro e w7 ⟨rfl, hb7⟩
    have HB7 := Lib.hid (HB6.out.trans (hb7.mono HB6.out.size))
    clear hb7
    go_wp2_with fail
    go_ret
    exact ⟨rfl, HB7.out⟩
  · have hrf : (R k).ref = ref := by
      rcases ixOf_cases (refB R ref) n with ⟨e, _⟩ | ⟨k2, e, hk2, hp, _⟩
      · rw [hix] at e; omega
      · obtain rfl : k = k2 := by rw [hix] at e; omega
        simpa [refB] using hp
    obtain ⟨hg1, hg2⟩ := back_take ok hk hrf ht
    obtain ⟨A1, c1, rfl, a1, a2, _⟩ := own_any hown
    have HR1 := Lib.hid (show Rd w2 5 (rowC (updF R k (taken (R k) l d))) A1 n from Rd.of_own (rowC_len _) hown)
    have HB2 := Lib.hid (HB1.out.trans (hb2.mono HB1.out.size))
    have HG1 := Lib.hid hg1
    have HG2 := Lib.hid hg2
    clear ok hk hix ht hown hb2 hrf hg1 hg2
    go_wp2_with fail
    refine (give_any A1 n c1 _ ref l d _ a1 a2 HR1.out).mono ?_
    rintro e w3 (⟨_, hno⟩ | ⟨j, hj, v, rfl, hown, hb3⟩)
    · exact absurd ⟨k, HG1.out⟩ hno
    have HS := Lib.hid (HG2.out j hj)
    obtain ⟨A2, c2, rfl, a3, a4, _⟩ := own_any hown
    have HR2 := Lib.hid (show Rd w3 5 (rowC R) A2 n from (Rd.of_own (rowC_len _) hown).congr fun q hq => by simp only [rowC]; rw [HS.out q hq])
    have HB3 := Lib.hid (HB2.out.trans (hb3.mono HB2.out.size))
    clear hown hb3 hj HG1 HG2 HR1 HS
    go_wp2_with fail
    refine (equalL_same A2 A n n c2 c R _ rfl a3 a4 (by exact HR2.out) (by exact HR.out.below HB3.out)).mono ?_
    rintro e w4 ⟨rfl, hb4⟩
    have HBP := Lib.hid (HB3.out.trans (hb4.mono HB3.out.size))
    clear hb4
    go_wp2_with fail
    refine (fork_any A n c R ref to l d _ hn hc (by exact HR.out.below HBP.out)).mono ?_
    rintro e w5 (⟨x2, rfl, hx2, hb5⟩ | ⟨k2, p2, hfk, v5, rfl, hown5, hb5⟩)
    · have hx20 : (x2 != 0) = true := by simpa using hx2
      have HB5 := Lib.hid (HBP.out.trans (hb5.mono HBP.out.size))
      clear hx2 hb5
      go_wp2_with fail
      go_ret
      exact ⟨rfl, HB5.out⟩
    obtain ⟨hj1, hj2⟩ := back_fork hfk
    obtain ⟨A5, c5, rfl, b1, b2, _⟩ := own_any hown5
    have HR5 := Lib.hid (show Rd w5 5 (rowC (fkR R k2 p2 to l d)) A5 (n + 1) from Rd.of_own (rowC_len _) hown5)
    have HB5 := Lib.hid (HBP.out.trans (hb5.mono HBP.out.size))
    have HJ1 := Lib.hid hj1
    have HJ2 := Lib.hid hj2
    clear hfk hown5 hb5 hj1 hj2
    go_wp2_with fail
    refine (join_any A5 (n + 1) c5 _ to ref _ b1 b2 HR5.out).mono ?_
    rintro e w6 (⟨_, hno⟩ | ⟨i6, j6, hjn, v6, rfl, hown6, hb6⟩)
    · exact absurd HJ1.out hno
    rw [Nat.add_sub_cancel] at hown6
    have HS6 := Lib.hid (HJ2.out i6 j6 hjn)
    obtain ⟨A6, c6, rfl, b3, b4, _⟩ := own_any hown6
    have HR6 := Lib.hid (show Rd w6 5 (rowC R) A6 n from (Rd.of_own (rowC_len _) hown6).congr fun q hq => by simp only [rowC]; rw [HS6.out q hq])
    have HB6 := Lib.hid (HB5.out.trans (hb6.mono HB5.out.size))
    clear hown6 hb6 hjn HJ1 HJ2 HR5 HS6
    go_wp2_with fail
    refine (equalL_same A6 A n n c6 c R _ rfl b3 b4 (by exact HR6.out) (by exact HR.out.below HB6.out)).mono ?_
    rintro e w7 ⟨rfl, hb7⟩
    have HB7 := Lib.hid (HB6.out.trans (hb7.mono HB6.out.size))
    clear hb7
    go_wp2_with fail
    go_ret
    exact ⟨rfl, HB7.out⟩
set_option maxRecDepth 100000 in
theorem limitTurns_walk {H : Type} {enc : TypeId × Value → H} (W : World) (base : Nat) (v0 v1 v2 v3 v4 : Value) {d0 d1 d2 d3 d4 : DataW H} {p0 p1 p2 p3 p4 : List MemPlace}
    (k0 : Value.okWide Try.prog W .any base 22 v0) (k1 : Value.okWide Try.prog W .any base 3 v1) (k2 : Value.okWide Try.prog W .any base 3 v2) (k3 : Value.okWide Try.prog W .any base 3 v3) (k4 : Value.okWide Try.prog W .any base 3 v4)
    (h0 : DataW.Trod enc Try.prog W 0 (fun _ => true) true 22 v0 d0 p0) (h1 : DataW.Trod enc Try.prog W 0 (fun _ => true) true 3 v1 d1 p1)
    (h2 : DataW.Trod enc Try.prog W 0 (fun _ => true) true 3 v2 d2 p2) (h3 : DataW.Trod enc Try.prog W 0 (fun _ => true) true 3 v3 d3 p3) (h4 : DataW.Trod enc Try.prog W 0 (fun _ => true) true 3 v4 d4 p4) :
    Calls Try.prog 6 #[v0, v1, v2, v3, v4] W fun e W' => e = .returned (.bool true) ∧ Below W.heap.size W W' := by
  obtain ⟨A, n, c, R, rfl, hnc, hcm, hA, hR⟩ := open_lrows k0 h0
  obtain ⟨a1, rfl, _, _, _⟩ := open_int Try.underlying3 k1 h1
  obtain ⟨a2, rfl, _, _, _⟩ := open_int Try.underlying3 k2 h2
  obtain ⟨a3, rfl, _, _, _⟩ := open_int Try.underlying3 k3 h3
  obtain ⟨a4, rfl, _, _, _⟩ := open_int Try.underlying3 k4 h4
  exact limitTurns_go A n c R a1 a2 a3 a4 W hnc hcm hR
end Go.Proofs.Ytjcegplockihfaa
