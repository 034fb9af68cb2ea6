/- The contracts of roadref3.SameLetter and SameLetters. -/
import Derived.Test.YtjalgnpbdcefdaaSame
namespace Go.Proofs.Ytjalgnpbdcefdaa
open Go.RowKit
set_option linter.unusedVariables false
def sameLB (a b : LT) : Bool := a.kind == b.kind && a.frm == b.frm && a.to == b.to && a.num == b.num && a.text.toList == b.text.toList && sameV a.val b.val
theorem sameLB_refl {w : World} {S : Nat → Prop} {l : LT} {cs : List Value} (h : l.isL w S cs) : sameLB l l = true := by
  obtain ⟨_, _, _, _, _, _, _, hv⟩ := h
  simp [sameLB, sameV_refl _ _ hv]
set_option maxRecDepth 100000 in
set_option maxHeartbeats 2000000 in
theorem sameL_any (l1 l2 : LT) (c1 c2 : List Value) (S1 S2 : Nat → Prop) (w : World) (h1 : l1.isL w S1 c1) (h2 : l2.isL w S2 c2) :
    Calls Try.prog 21 #[.agg c1.toArray, .agg c2.toArray] w fun e w' => e = .returned (.bool (sameLB l1 l2)) ∧ Below w.heap.size w w' := by
  obtain ⟨k2, m2, s2, A2, n2, cc2, rfl, hv1⟩ := h1
  obtain ⟨yk2, ym2, ys2, yA2, yn2, yc2, rfl, hv2⟩ := h2
  have HV1 := Lib.hid hv1
  have HV2 := Lib.hid hv2
  obtain ⟨k, f, t, num, s, val⟩ := l1
  obtain ⟨yk, yf, yt, ynum, ys, yval⟩ := l2
  dsimp only at HV1 HV2 ⊢
  clear hv1 hv2
  by_cases e0 : ¬ k = yk
  · have HS := Lib.hid (show sameLB ⟨k, f, t, num, s, val⟩ ⟨yk, yf, yt, ynum, ys, yval⟩ = false by simp [sameLB]; exact fun h => absurd h e0)
    have g0 : (k == yk) = false := by simpa using e0
    clear e0
    rw [HS.out]
    go_enter Try.func21, Try.ntmps21
    go_wp2_with fail
    go_ret
    exact ⟨rfl, ((Below.refl _ _).alloc (Nat.le_refl _) _).alloc (by simp) _⟩
  replace e0 := Classical.not_not.1 e0
  by_cases e1 : ¬ f = yf
  · have HS := Lib.hid (show sameLB ⟨k, f, t, num, s, val⟩ ⟨yk, yf, yt, ynum, ys, yval⟩ = false by simp [sameLB]; exact fun _ h => absurd h e1)
    have g0 : (k == yk) = true := by simp [e0]
    have g1 : (f == yf) = false := by simpa using e1
    clear e0 e1
    rw [HS.out]
    go_enter Try.func21, Try.ntmps21
    go_wp2_with fail
    go_ret
    exact ⟨rfl, ((Below.refl _ _).alloc (Nat.le_refl _) _).alloc (by simp) _⟩
  replace e1 := Classical.not_not.1 e1
  by_cases e2 : ¬ t = yt
  · have HS := Lib.hid (show sameLB ⟨k, f, t, num, s, val⟩ ⟨yk, yf, yt, ynum, ys, yval⟩ = false by simp [sameLB]; exact fun _ _ h => absurd h e2)
    have g0 : (k == yk) = true := by simp [e0]
    have g1 : (f == yf) = true := by simp [e1]
    have g2 : (t == yt) = false := by simpa using e2
    clear e0 e1 e2
    rw [HS.out]
    go_enter Try.func21, Try.ntmps21
    go_wp2_with fail
    go_ret
    exact ⟨rfl, ((Below.refl _ _).alloc (Nat.le_refl _) _).alloc (by simp) _⟩
  replace e2 := Classical.not_not.1 e2
  by_cases e3 : ¬ num = ynum
  · have HS := Lib.hid (show sameLB ⟨k, f, t, num, s, val⟩ ⟨yk, yf, yt, ynum, ys, yval⟩ = false by simp [sameLB]; exact fun _ _ _ h => absurd h e3)
    have g0 : (k == yk) = true := by simp [e0]
    have g1 : (f == yf) = true := by simp [e1]
    have g2 : (t == yt) = true := by simp [e2]
    have g3 : (num == ynum) = false := by simpa using e3
    clear e0 e1 e2 e3
    rw [HS.out]
    go_enter Try.func21, Try.ntmps21
    go_wp2_with fail
    go_ret
    exact ⟨rfl, ((Below.refl _ _).alloc (Nat.le_refl _) _).alloc (by simp) _⟩
  replace e3 := Classical.not_not.1 e3
  by_cases e4 : ¬ s.toList = ys.toList
  · have HS := Lib.hid (show sameLB ⟨k, f, t, num, s, val⟩ ⟨yk, yf, yt, ynum, ys, yval⟩ = false by simp [sameLB]; exact fun _ _ _ _ h => absurd h e4)
    have g0 : (k == yk) = true := by simp [e0]
    have g1 : (f == yf) = true := by simp [e1]
    have g2 : (t == yt) = true := by simp [e2]
    have g3 : (num == ynum) = true := by simp [e3]
    have g4 : (s.toList == ys.toList) = false := by simpa using e4
    clear e0 e1 e2 e3 e4
    rw [HS.out]
    go_enter Try.func21, Try.ntmps21
    go_wp2_with fail
    go_ret
    exact ⟨rfl, ((Below.refl _ _).alloc (Nat.le_refl _) _).alloc (by simp) _⟩
  replace e4 := Classical.not_not.1 e4
  have HS := Lib.hid (show sameLB ⟨k, f, t, num, s, val⟩ ⟨yk, yf, yt, ynum, ys, yval⟩ = sameV val yval by simp [sameLB, e0, e1, e2, e3, e4])
  have g0 : (k == yk) = true := by simp [e0]
  have g1 : (f == yf) = true := by simp [e1]
  have g2 : (t == yt) = true := by simp [e2]
  have g3 : (num == ynum) = true := by simp [e3]
  have g4 : (s.toList == ys.toList) = true := by simp [e4]
  clear e0 e1 e2 e3 e4
  rw [HS.out]
  go_enter Try.func21, Try.ntmps21
  go_wp2_with fail
  refine (same_any _ _ _ _ _ _ _ (isV_below HV1.out (((Below.refl _ _).alloc (Nat.le_refl _) _).alloc (by simp) _)) (isV_below HV2.out (((Below.refl _ _).alloc (Nat.le_refl _) _).alloc (by simp) _))).mono ?_
  rintro e w1 ⟨rfl, hb1⟩
  skip
  go_wp2_with fail
  go_ret
  exact ⟨rfl, (((Below.refl _ _).alloc (Nat.le_refl _) _).alloc (by simp) _).trans (hb1.mono (by simp; omega))⟩
set_option maxRecDepth 100000 in
set_option maxHeartbeats 4000000 in
theorem sameLs_any (n yn c yc : Nat) (A yA : Option Addr) (arg yarg : Nat → LT) (S1 S2 : Nat → Prop) (w : World) (hn : n ≤ 9223372036854775807) (hyn : yn ≤ 9223372036854775807) (h1 : RdL w S1 A n arg) (h2 : RdL w S2 yA yn yarg) :
    Calls Try.prog 29 #[.slice A n c, .slice yA yn yc] w fun e w' => e = .returned (.bool (n == yn && allTo (fun i => sameLB (arg i) (yarg i)) n)) ∧ Below w.heap.size w w' := by
  by_cases e : n = yn
  · subst e
    have HS := Lib.hid (show (n == n && allTo (fun i => sameLB (arg i) (yarg i)) n) = allTo (fun i => sameLB (arg i) (yarg i)) n by simp)
    rw [HS.out]
    have H1 := Lib.hid h1
    have H2 := Lib.hid h2
    clear h1 h2
    go_enter Try.func29, Try.ntmps29
    go_wp2_with fail
    go_loopw [4, 5, 13] (fun _ _ i wr => ∃ q : Nat, q ≤ n ∧ i = .int .i64 q ∧ (∀ j, j < q → sameLB (arg j) (yarg j) = true) ∧ Below w.heap.size w wr) (fun _ _ i _ => n - (intOf i).toNat)
    case atStart => exact ⟨0, Nat.zero_le _, rfl, fun j hj => by omega, Below.refl _ _⟩
    case round =>
      obtain ⟨q, hq, rfl, hlow, hB⟩ := hrel
      have HL := Lib.hid hlow
      clear hlow
      by_cases hlt : q < n
      · obtain ⟨b, off, rfl, hb, hSb, C, hC⟩ := H1.out (by omega)
        obtain ⟨yb, yoff, rfl, yhb, yhSb, yC, yhC⟩ := H2.out (by omega)
        obtain ⟨hL1, hcell⟩ := hC q hlt
        obtain ⟨hL2, yhcell⟩ := yhC q hlt
        have hsz := hB.size
        have HW1 := Lib.hid (isL_below hL1 hB)
        have HW2 := Lib.hid (isL_below hL2 hB)
        obtain ⟨k2, m2, s2, A2, n2, c2, hCq, _⟩ := hL1
        obtain ⟨yk2, ym2, ys2, yA2, yn2, yc2, yhCq, _⟩ := hL2
        rw [hCq] at hcell HW1
        rw [yhCq] at yhcell HW2
        have HSL := Lib.hid (show ∀ j, j < q → sameLB (arg j) (yarg j) = true from HL.out)
        obtain ⟨l1, hl1⟩ : ∃ x, arg q = x := ⟨_, rfl⟩
        obtain ⟨l2, hl2⟩ : ∃ x, yarg q = x := ⟨_, rfl⟩
        rw [hl1] at hcell HW1
        rw [hl2] at yhcell HW2
        have HL1 := Lib.hid hl1
        have HL2 := Lib.hid hl2
        obtain ⟨k, f, t, num, s, val⟩ := l1
        obtain ⟨yk, yf, yt, ynum, ys, yval⟩ := l2
        dsimp only at hcell yhcell HW1 HW2
        have x0 : wr.cell? ⟨b, off + q * 9, none⟩ = some (.int .i64 k) := (hB.cell (p := ⟨b, _, none⟩) hb).trans (hcell 0 _ rfl)
        have x1 : wr.cell? ⟨b, off + q * 9 + 1, none⟩ = some (.int .i64 f) := (hB.cell (p := ⟨b, _, none⟩) hb).trans (hcell 1 _ rfl)
        have x2 : wr.cell? ⟨b, off + q * 9 + 2, none⟩ = some (.int .i64 t) := (hB.cell (p := ⟨b, _, none⟩) hb).trans (hcell 2 _ rfl)
        have x3 : wr.cell? ⟨b, off + q * 9 + 3, none⟩ = some (.int .i64 num) := (hB.cell (p := ⟨b, _, none⟩) hb).trans (hcell 3 _ rfl)
        have x4 : wr.cell? ⟨b, off + q * 9 + 4, none⟩ = some (.string s) := (hB.cell (p := ⟨b, _, none⟩) hb).trans (hcell 4 _ rfl)
        have x5 : wr.cell? ⟨b, off + q * 9 + 5, none⟩ = some (.int .i64 k2) := (hB.cell (p := ⟨b, _, none⟩) hb).trans (hcell 5 _ rfl)
        have x6 : wr.cell? ⟨b, off + q * 9 + 6, none⟩ = some (.int .i64 m2) := (hB.cell (p := ⟨b, _, none⟩) hb).trans (hcell 6 _ rfl)
        have x7 : wr.cell? ⟨b, off + q * 9 + 7, none⟩ = some (.string s2) := (hB.cell (p := ⟨b, _, none⟩) hb).trans (hcell 7 _ rfl)
        have x8 : wr.cell? ⟨b, off + q * 9 + 8, none⟩ = some (.slice A2 n2 c2) := (hB.cell (p := ⟨b, _, none⟩) hb).trans (hcell 8 _ rfl)
        have z0 : wr.cell? ⟨yb, yoff + q * 9, none⟩ = some (.int .i64 yk) := (hB.cell (p := ⟨yb, _, none⟩) yhb).trans (yhcell 0 _ rfl)
        have z1 : wr.cell? ⟨yb, yoff + q * 9 + 1, none⟩ = some (.int .i64 yf) := (hB.cell (p := ⟨yb, _, none⟩) yhb).trans (yhcell 1 _ rfl)
        have z2 : wr.cell? ⟨yb, yoff + q * 9 + 2, none⟩ = some (.int .i64 yt) := (hB.cell (p := ⟨yb, _, none⟩) yhb).trans (yhcell 2 _ rfl)
        have z3 : wr.cell? ⟨yb, yoff + q * 9 + 3, none⟩ = some (.int .i64 ynum) := (hB.cell (p := ⟨yb, _, none⟩) yhb).trans (yhcell 3 _ rfl)
        have z4 : wr.cell? ⟨yb, yoff + q * 9 + 4, none⟩ = some (.string ys) := (hB.cell (p := ⟨yb, _, none⟩) yhb).trans (yhcell 4 _ rfl)
        have z5 : wr.cell? ⟨yb, yoff + q * 9 + 5, none⟩ = some (.int .i64 yk2) := (hB.cell (p := ⟨yb, _, none⟩) yhb).trans (yhcell 5 _ rfl)
        have z6 : wr.cell? ⟨yb, yoff + q * 9 + 6, none⟩ = some (.int .i64 ym2) := (hB.cell (p := ⟨yb, _, none⟩) yhb).trans (yhcell 6 _ rfl)
        have z7 : wr.cell? ⟨yb, yoff + q * 9 + 7, none⟩ = some (.string ys2) := (hB.cell (p := ⟨yb, _, none⟩) yhb).trans (yhcell 7 _ rfl)
        have z8 : wr.cell? ⟨yb, yoff + q * 9 + 8, none⟩ = some (.slice yA2 yn2 yc2) := (hB.cell (p := ⟨yb, _, none⟩) yhb).trans (yhcell 8 _ rfl)
        have j1 : (0 : Int) ≤ (q : Int) := by omega
        have j2 : (q : Int) < (n : Int) := by omega
        have l1 : b < wr.heap.size := by omega
        have l2 : yb < wr.heap.size := by omega
        clear hC yhC hcell yhcell hCq yhCq hl1 hl2
        go_wp2_with fail
        go_region_held3 (fun w' => w'.cell? ⟨b, off + q * 9, none⟩ = some (.int .i64 k) ∧ w'.cell? ⟨b, off + q * 9 + 1, none⟩ = some (.int .i64 f) ∧ w'.cell? ⟨b, off + q * 9 + 2, none⟩ = some (.int .i64 t) ∧ w'.cell? ⟨b, off + q * 9 + 3, none⟩ = some (.int .i64 num) ∧ w'.cell? ⟨b, off + q * 9 + 4, none⟩ = some (.string s) ∧ w'.cell? ⟨b, off + q * 9 + 5, none⟩ = some (.int .i64 k2) ∧ w'.cell? ⟨b, off + q * 9 + 6, none⟩ = some (.int .i64 m2) ∧ w'.cell? ⟨b, off + q * 9 + 7, none⟩ = some (.string s2) ∧ w'.cell? ⟨b, off + q * 9 + 8, none⟩ = some (.slice A2 n2 c2) ∧ w'.cell? ⟨yb, yoff + q * 9, none⟩ = some (.int .i64 yk) ∧ w'.cell? ⟨yb, yoff + q * 9 + 1, none⟩ = some (.int .i64 yf) ∧ w'.cell? ⟨yb, yoff + q * 9 + 2, none⟩ = some (.int .i64 yt) ∧ w'.cell? ⟨yb, yoff + q * 9 + 3, none⟩ = some (.int .i64 ynum) ∧ w'.cell? ⟨yb, yoff + q * 9 + 4, none⟩ = some (.string ys) ∧ w'.cell? ⟨yb, yoff + q * 9 + 5, none⟩ = some (.int .i64 yk2) ∧ w'.cell? ⟨yb, yoff + q * 9 + 6, none⟩ = some (.int .i64 ym2) ∧ w'.cell? ⟨yb, yoff + q * 9 + 7, none⟩ = some (.string ys2) ∧ w'.cell? ⟨yb, yoff + q * 9 + 8, none⟩ = some (.slice yA2 yn2 yc2))
          (first | exact ⟨x0, x1, x2, x3, x4, x5, x6, x7, x8, z0, z1, z2, z3, z4, z5, z6, z7, z8⟩ | exact ⟨v0, v1, v2, v3, v4, v5, v6, v7, v8, v9, v10, v11, v12, v13, v14, v15, v16, v17⟩ | go_keep)
          (first | (go_at_call 21; refine (sameL_any _ _ _ _ S1 S2 _ (isL_below HW1.out ((Below.refl _ _).drew)) (isL_below HW2.out ((Below.refl _ _).drew))).mono ?_; rintro e w1 ⟨rfl, hb1⟩; have FC := Lib.hid (fun b o (h : b < wr.heap.size) => (bcell hb1).1 b o h); have v0 := (FC.out b _ l1).trans x0; have v1 := (FC.out b _ l1).trans x1; have v2 := (FC.out b _ l1).trans x2; have v3 := (FC.out b _ l1).trans x3; have v4 := (FC.out b _ l1).trans x4; have v5 := (FC.out b _ l1).trans x5; have v6 := (FC.out b _ l1).trans x6; have v7 := (FC.out b _ l1).trans x7; have v8 := (FC.out b _ l1).trans x8; have v9 := (FC.out yb _ l2).trans z0; have v10 := (FC.out yb _ l2).trans z1; have v11 := (FC.out yb _ l2).trans z2; have v12 := (FC.out yb _ l2).trans z3; have v13 := (FC.out yb _ l2).trans z4; have v14 := (FC.out yb _ l2).trans z5; have v15 := (FC.out yb _ l2).trans z6; have v16 := (FC.out yb _ l2).trans z7; have v17 := (FC.out yb _ l2).trans z8))
        have HB1 := Lib.hid (hB.drew.trans (hb1.mono (show w.heap.size ≤ wr.heap.size by omega)))
        clear hb1 v0 v1 v2 v3 v4 v5 v6 v7 v8 v9 v10 v11 v12 v13 v14 v15 v16 v17 x0 x1 x2 x3 x4 x5 x6 x7 x8 z0 z1 z2 z3 z4 z5 z6 z7 z8
        generalize hsq : sameLB ⟨k, f, t, num, s, val⟩ ⟨yk, yf, yt, ynum, ys, yval⟩ = sv
        have HSQ := Lib.hid hsq
        clear hsq
        cases sv with
        | true =>
          go_wp2_with fail
          go_roundw
          case rel =>
            refine ⟨q + 1, by omega, by go_num, fun j hj => ?_, HB1.out⟩
            by_cases e : j = q
            · rw [e, HL1.out, HL2.out]; exact HSQ.out
            · exact HSL.out j (by omega)
          case measure => simp [intOf]; omega
        | false =>
          go_wp2_with fail
          go_ret
          refine ⟨ret_bool ?_, HB1.out⟩
          cases h : allTo (fun i => sameLB (arg i) (yarg i)) n with
          | false => rfl
          | true =>
            have := allTo_true.1 h q hlt
            rw [HL1.out, HL2.out, HSQ.out] at this
            cases this
      · obtain rfl : q = n := by omega
        go_wp2_with fail
        go_ret
        exact ⟨ret_bool (allTo_true.2 HL.out).symm, hB⟩
  · have HS := Lib.hid (show (n == yn && allTo (fun i => sameLB (arg i) (yarg i)) n) = false by simp [e])
    rw [HS.out]
    have g4 : (n != yn) = true := by simpa using e
    have g4a : (n == yn) = false := by simpa using e
    have g4b : ((n : Int) != (yn : Int)) = true := by simp; omega
    have g4c : ((n : Int) == (yn : Int)) = false := by simp; omega
    clear h1 h2 e
    go_enter Try.func29, Try.ntmps29
    go_wp2_with fail
    go_ret
    exact ⟨rfl, Below.refl _ _⟩
end Go.Proofs.Ytjalgnpbdcefdaa
