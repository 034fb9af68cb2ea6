/- The contract of roadref3.SameValue. -/
import Derived.Test.YtkdbnkkdohkhjaaDeep
import Derived.Deep.RegionHeld3
namespace Go.Proofs.Ytkdbnkkdohkhjaa
open Go.RowKit
set_option linter.unusedVariables false
def allTo (p : Nat → Bool) : Nat → Bool
  | 0 => true
  | n + 1 => allTo p n && p n
theorem allTo_true {p : Nat → Bool} {n : Nat} : allTo p n = true ↔ ∀ i, i < n → p i = true := by
  induction n with
  | zero => simp [allTo]
  | succ n ih =>
    simp only [allTo, Bool.and_eq_true, ih]
    constructor
    · rintro ⟨h1, h2⟩ i hi
      by_cases e : i = n
      · rw [e]; exact h2
      · exact h1 i (by omega)
    · exact fun h => ⟨fun i hi => h i (by omega), h n (by omega)⟩
def sameV : VT → VT → Bool
  | .node k m s n f, .node k' m' s' n' f' => k == k' && m == m' && s.toList == s'.toList && n == n' && allTo (fun i => sameV (f i) (f' i)) n
  | _, _ => false
theorem sameV_refl {w : World} {S : Nat → Prop} : ∀ (t : VT) (cs : List Value), t.isV w S cs → sameV t t = true := by
  intro t
  induction t with
  | none => intro cs h; exact h.elim
  | node k m s n f ih =>
    intro cs h
    obtain ⟨A, c, _, _, _, _, h4⟩ := h
    simp only [sameV, beq_self_eq_true, Bool.and_self, Bool.true_and]
    rw [allTo_true]
    intro i hi
    obtain ⟨_, _, _, _, _, C, hC⟩ := h4 (by omega)
    exact ih i _ (hC i hi).1
set_option maxRecDepth 100000 in
set_option maxHeartbeats 4000000 in
theorem same_any : ∀ (t1 t2 : VT) (c1 c2 : List Value) (S1 S2 : Nat → Prop) (w : World), t1.isV w S1 c1 → t2.isV w S2 c2 →
    Calls Try.prog 50 #[.agg c1.toArray, .agg c2.toArray] w fun e w' => e = .returned (.bool (sameV t1 t2)) ∧ Below w.heap.size w w' := by
  intro t1
  induction t1 with
  | none => intro t2 c1 c2 S1 S2 w h; exact h.elim
  | node k m s n f ih =>
    intro t2 c1 c2 S1 S2 w h1 h2
    cases t2 with
    | none => exact h2.elim
    | node yk ym ys yn yf =>
      have HV1 := Lib.hid h1
      have HV2 := Lib.hid h2
      have IH := Lib.hid ih
      obtain ⟨A, c, rfl, hnc, hcm, hA, _⟩ := h1
      obtain ⟨yA, yc, rfl, ync, ycm, yhA, _⟩ := h2
      clear ih hA yhA
      by_cases e1 : k = yk
      · by_cases e2 : m = ym
        · by_cases e3 : s.toList = ys.toList
          · by_cases e4 : n = yn
            · subst e1 e2 e4
              have HSV := Lib.hid (show sameV (.node k m s n f) (.node k m ys n yf) = allTo (fun i => sameV (f i) (yf i)) n by simp [sameV, e3])
              have g3 : (s.toList == ys.toList) = true := by simp [e3]
              have g3' : (s.toList != ys.toList) = false := by simp [e3]
              have E3 := Lib.hid e3
              clear e3
              rw [HSV.out]
              go_enter Try.func50, Try.ntmps50
              go_wp2_with fail
              go_loopw [4, 5, 37] (fun _ _ i wr => ∃ q : Nat, q ≤ n ∧ i = .int .i64 q ∧ (∀ j, j < q → sameV (f j) (yf j) = true) ∧ Below (w.heap.size + 2) ((w.alloc (.cells #[.int .i64 k, .int .i64 m, .string s, .slice A n c] 90)).alloc (.cells #[.int .i64 k, .int .i64 m, .string ys, .slice yA n yc] 90)) wr) (fun _ _ i _ => n - (intOf i).toNat)
              case atStart => exact ⟨0, Nat.zero_le _, rfl, fun j hj => by omega, Below.refl _ _⟩
              case round =>
                obtain ⟨q, hq, rfl, hlow, hB⟩ := hrel
                have HL := Lib.hid hlow
                clear hlow
                by_cases hlt : q < n
                · obtain ⟨b, off, rfl, hb, hSb, C, hC⟩ := isV_arg HV1.out (by omega)
                  obtain ⟨yb, yoff, rfl, yhb, yhSb, yC, yhC⟩ := isV_arg HV2.out (by omega)
                  obtain ⟨hVq, hcell⟩ := hC q hlt
                  obtain ⟨yhVq, yhcell⟩ := yhC q hlt
                  have hsz := hB.size
                  simp at hsz
                  have hBw : Below w.heap.size w wr := (((Below.refl _ _).alloc (Nat.le_refl _) _).alloc (by simp) _).trans (hB.mono (by omega))
                  have HW1 := Lib.hid (isV_below hVq hBw)
                  have HW2 := Lib.hid (isV_below yhVq hBw)
                  have HBW := Lib.hid hBw
                  obtain ⟨k1, m1, s1, A1, n1, cc1, hCq⟩ := isV_cells hVq
                  obtain ⟨k2, m2, s2, A2, n2, cc2, yhCq⟩ := isV_cells yhVq
                  rw [hCq] at hcell HW1
                  rw [yhCq] at yhcell HW2
                  have x0 : wr.cell? ⟨b, off + q * 4, none⟩ = some (.int .i64 k1) := (hBw.cell (p := ⟨b, _, none⟩) hb).trans (hcell 0 _ rfl)
                  have x1 : wr.cell? ⟨b, off + q * 4 + 1, none⟩ = some (.int .i64 m1) := (hBw.cell (p := ⟨b, _, none⟩) hb).trans (hcell 1 _ rfl)
                  have x2 : wr.cell? ⟨b, off + q * 4 + 2, none⟩ = some (.string s1) := (hBw.cell (p := ⟨b, _, none⟩) hb).trans (hcell 2 _ rfl)
                  have x3 : wr.cell? ⟨b, off + q * 4 + 3, none⟩ = some (.slice A1 n1 cc1) := (hBw.cell (p := ⟨b, _, none⟩) hb).trans (hcell 3 _ rfl)
                  have z0 : wr.cell? ⟨yb, yoff + q * 4, none⟩ = some (.int .i64 k2) := (hBw.cell (p := ⟨yb, _, none⟩) yhb).trans (yhcell 0 _ rfl)
                  have z1 : wr.cell? ⟨yb, yoff + q * 4 + 1, none⟩ = some (.int .i64 m2) := (hBw.cell (p := ⟨yb, _, none⟩) yhb).trans (yhcell 1 _ rfl)
                  have z2 : wr.cell? ⟨yb, yoff + q * 4 + 2, none⟩ = some (.string s2) := (hBw.cell (p := ⟨yb, _, none⟩) yhb).trans (yhcell 2 _ rfl)
                  have z3 : wr.cell? ⟨yb, yoff + q * 4 + 3, none⟩ = some (.slice A2 n2 cc2) := (hBw.cell (p := ⟨yb, _, none⟩) yhb).trans (yhcell 3 _ rfl)
                  have p3 : wr.cell? ⟨w.heap.size, 3, none⟩ = some (.slice (some ⟨b, off, none⟩) n c) := (hB.cell (p := ⟨w.heap.size, 3, none⟩) (by show w.heap.size < w.heap.size + 2; omega)).trans (by simp)
                  have r3 : wr.cell? ⟨w.heap.size + 1, 3, none⟩ = some (.slice (some ⟨yb, yoff, none⟩) n yc) := (hB.cell (p := ⟨w.heap.size + 1, 3, none⟩) (by show w.heap.size + 1 < w.heap.size + 2; omega)).trans (by simp)
                  have j1 : (0 : Int) ≤ (q : Int) := by omega
                  have j2 : (q : Int) < (n : Int) := by omega
                  have l1 : b < wr.heap.size := by omega
                  have l2 : yb < wr.heap.size := by omega
                  clear hVq yhVq hC yhC hcell yhcell hCq yhCq hBw
                  go_wp2_with fail
                  go_region_held3 (fun w' => w'.cell? ⟨w.heap.size, 3, none⟩ = some (.slice (some ⟨b, off, none⟩) n c) ∧ w'.cell? ⟨w.heap.size + 1, 3, none⟩ = some (.slice (some ⟨yb, yoff, none⟩) n yc) ∧ w'.cell? ⟨b, off + q * 4, none⟩ = some (.int .i64 k1) ∧ w'.cell? ⟨b, off + q * 4 + 1, none⟩ = some (.int .i64 m1) ∧ w'.cell? ⟨b, off + q * 4 + 2, none⟩ = some (.string s1) ∧ w'.cell? ⟨b, off + q * 4 + 3, none⟩ = some (.slice A1 n1 cc1) ∧ w'.cell? ⟨yb, yoff + q * 4, none⟩ = some (.int .i64 k2) ∧ w'.cell? ⟨yb, yoff + q * 4 + 1, none⟩ = some (.int .i64 m2) ∧ w'.cell? ⟨yb, yoff + q * 4 + 2, none⟩ = some (.string s2) ∧ w'.cell? ⟨yb, yoff + q * 4 + 3, none⟩ = some (.slice A2 n2 cc2))
                    (first | exact ⟨p3, r3, x0, x1, x2, x3, z0, z1, z2, z3⟩ | exact ⟨u0, u1, u2, u3, u4, u5', u6, u7, u8, u9⟩ | go_keep)
                    (first | (go_at_call 50; refine (IH.out q (yf q) _ _ S1 S2 _ (isV_below HW1.out ((Below.refl _ _).drew)) (isV_below HW2.out ((Below.refl _ _).drew))).mono ?_; rintro e w1 ⟨rfl, hb1⟩; have FC := Lib.hid (fun b o (h : b < wr.heap.size) => (bcell hb1).1 b o h); have u0 := (FC.out w.heap.size 3 (by omega)).trans p3; have u1 := (FC.out (w.heap.size + 1) 3 (by omega)).trans r3; have u2 := (FC.out b _ l1).trans x0; have u3 := (FC.out b _ l1).trans x1; have u4 := (FC.out b _ l1).trans x2; have u5' := (FC.out b _ l1).trans x3; have u6 := (FC.out yb _ l2).trans z0; have u7 := (FC.out yb _ l2).trans z1; have u8 := (FC.out yb _ l2).trans z2; have u9 := (FC.out yb _ l2).trans z3))
                  have hB1 : Below (w.heap.size + 2) ((w.alloc (.cells #[.int .i64 k, .int .i64 m, .string s, .slice (some ⟨b, off, none⟩) n c] 90)).alloc (.cells #[.int .i64 k, .int .i64 m, .string ys, .slice (some ⟨yb, yoff, none⟩) n yc] 90)) w1 := hB.drew.trans (hb1.mono (show w.heap.size + 2 ≤ wr.heap.size by omega))
                  have HB1 := Lib.hid hB1
                  clear hb1 hB1 u0 u1 u2 u3 u4 u5' u6 u7 u8 u9 x0 x1 x2 x3 z0 z1 z2 z3 p3 r3
                  generalize hsq : sameV (f q) (yf q) = sv
                  have HSQ := Lib.hid hsq
                  clear hsq
                  cases sv with
                  | true =>
                    go_wp2_with fail
                    go_roundw
                    case rel =>
                      refine ⟨q + 1, by omega, by go_num, fun j hj => ?_, HB1.out⟩
                      by_cases e : j = q
                      · rw [e]; exact HSQ.out
                      · exact HL.out j (by omega)
                    case measure => simp [intOf]; omega
                  | false =>
                    go_wp2_with fail
                    go_ret
                    refine ⟨ret_bool ?_, (((Below.refl _ _).alloc (Nat.le_refl _) _).alloc (by simp) _).trans (HB1.out.mono (by omega))⟩
                    cases h : allTo (fun i => sameV (f i) (yf i)) n with
                    | false => rfl
                    | true =>
                      have := allTo_true.1 h q hlt
                      rw [HSQ.out] at this
                      cases this
                · obtain rfl : q = n := by omega
                  go_wp2_with fail
                  go_ret
                  exact ⟨ret_bool (allTo_true.2 HL.out).symm, (((Below.refl _ _).alloc (Nat.le_refl _) _).alloc (by simp) _).trans (hB.mono (by omega))⟩
            · have HSV := Lib.hid (show sameV (.node k m s n f) (.node yk ym ys yn yf) = false by simp [sameV]; exact fun _ _ _ h => absurd h e4)
              have g1 : (k != yk) = false := by simp [e1]
              have g2 : (m != ym) = false := by simp [e2]
              have g3 : (s.toList != ys.toList) = false := by simp [e3]
              have g3a : (s.toList == ys.toList) = true := by simp [e3]
              have g4 : (n != yn) = true := by simpa using e4
              have g4a : (n == yn) = false := by simpa using e4
              have g4b : ((n : Int) != (yn : Int)) = true := by simp; omega
              have g4c : ((n : Int) == (yn : Int)) = false := by simp; omega
              clear e1 e2 e3 e4
              rw [HSV.out]
              go_enter Try.func50, Try.ntmps50
              go_wp2_with fail
              go_ret
              exact ⟨rfl, ((Below.refl _ _).alloc (Nat.le_refl _) _).alloc (by simp) _⟩
          · have HSV := Lib.hid (show sameV (.node k m s n f) (.node yk ym ys yn yf) = false by simp [sameV]; exact fun _ _ h => absurd h e3)
            have g1 : (k != yk) = false := by simp [e1]
            have g2 : (m != ym) = false := by simp [e2]
            have g3 : (s.toList != ys.toList) = true := by simpa using e3
            have g3a : (s.toList == ys.toList) = false := by simpa using e3
            clear e1 e2
            rw [HSV.out]
            go_enter Try.func50, Try.ntmps50
            go_wp2_with fail
            go_ret
            exact ⟨rfl, ((Below.refl _ _).alloc (Nat.le_refl _) _).alloc (by simp) _⟩
        · have HSV := Lib.hid (show sameV (.node k m s n f) (.node yk ym ys yn yf) = false by simp [sameV]; exact fun _ h => absurd h e2)
          have g1 : (k != yk) = false := by simp [e1]
          have g2 : (m != ym) = true := by simpa using e2
          have g2a : (m == ym) = false := by simpa using e2
          clear e1 e2
          rw [HSV.out]
          go_enter Try.func50, Try.ntmps50
          go_wp2_with fail
          go_ret
          exact ⟨rfl, ((Below.refl _ _).alloc (Nat.le_refl _) _).alloc (by simp) _⟩
      · have HSV := Lib.hid (show sameV (.node k m s n f) (.node yk ym ys yn yf) = false by simp [sameV]; exact fun h => absurd h e1)
        have g1 : (k != yk) = true := by simpa using e1
        have g1a : (k == yk) = false := by simpa using e1
        clear e1
        rw [HSV.out]
        go_enter Try.func50, Try.ntmps50
        go_wp2_with fail
        go_ret
        exact ⟨rfl, ((Below.refl _ _).alloc (Nat.le_refl _) _).alloc (by simp) _⟩
end Go.Proofs.Ytkdbnkkdohkhjaa
