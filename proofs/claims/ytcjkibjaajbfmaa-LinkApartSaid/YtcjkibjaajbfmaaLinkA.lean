/- Rows of watches and links: what they read as; link.Check; finding a row. -/
import Derived.Test.YtcjkibjaajbfmaaInts
import Derived.Deep.DeepCutAuto
namespace Go.Proofs.Ytcjkibjaajbfmaa
open Go.RowKit
set_option linter.unusedVariables false
structure LR where
  ref : Int
  ws : List Int
  ls : List Int
/-- a slice that reads as the numbers l -/
def Sl (w : World) (v : Value) (l : List Int) : Prop := ∃ A c, v = .slice A l.length c ∧ l.length ≤ c ∧ c ≤ 9223372036854775807 ∧ (A = none → l.length = 0) ∧ Rd w 1 (tmC (lst l)) A l.length
theorem Sl.below {w w' : World} {v : Value} {l : List Int} (h : Sl w v l) (hb : Below w.heap.size w w') : Sl w' v l := by
  obtain ⟨A, c, e, h1, h2, h3, h4⟩ := h
  exact ⟨A, c, e, h1, h2, h3, h4.below hb⟩
theorem Sl.of_own {w : World} {base : Nat} {v : Value} {l : List Int} (h : OwnI w base v l) : Sl w v l := by
  obtain ⟨A, c, rfl, h1, h2, h3⟩ := own_any h
  exact ⟨A, c, rfl, h1, h2, h3, h.rd⟩
def rwC (R : Nat → LR) (vw vl : Nat → Value) : Nat → List Value := fun k => [.int .i64 (R k).ref, vw k, vl k]
theorem rwC_len (R : Nat → LR) (vw vl : Nat → Value) : ∀ k, (rwC R vw vl k).length = 3 := fun _ => rfl
structure RdL (w : World) (A : Option Addr) (n : Nat) (R : Nat → LR) (vw vl : Nat → Value) : Prop where
  row : Rd w 3 (rwC R vw vl) A n
  each : ∀ k, k < n → Sl w (vw k) (R k).ws ∧ Sl w (vl k) (R k).ls
theorem RdL.below {w w' : World} {A : Option Addr} {n : Nat} {R : Nat → LR} {vw vl : Nat → Value} (h : RdL w A n R vw vl) (hb : Below w.heap.size w w') : RdL w' A n R vw vl :=
  ⟨h.row.below hb, fun k hk => ⟨(h.each k hk).1.below hb, (h.each k hk).2.below hb⟩⟩
def ClearL (l : List Int) : Prop := ∀ q, q < l.length → lst l q ∉ l.take q
def OkR (R : Nat → LR) (k : Nat) : Prop := 1 ≤ (R k).ref ∧ (R k).ws.length ≤ 100 ∧ (R k).ls.length ≤ 100 ∧ (0 < k → (R (k - 1)).ref < (R k).ref) ∧ ClearL (R k).ls
def OkL (R : Nat → LR) (n : Nat) : Prop := n ≤ 100 ∧ ∀ k, k < n → OkR R k
def ChkPost (Ok : Prop) (w : World) (e : Ending) (w' : World) : Prop := ∃ x : Int, e = .returned (.int .i64 x) ∧ (x = 0 ↔ Ok) ∧ Below w.heap.size w w'
theorem take_lst (l : List Int) (q : Nat) (hq : q ≤ l.length) (x : Int) : anyOf (fun k => x == lst l k) q = decide (x ∈ l.take q) := by
  have h := any_lst (l.take q) x
  rw [← h]
  have hl : (l.take q).length = q := by simp; omega
  rw [hl]
  rw [Bool.eq_iff_iff, anyOf_true, anyOf_true]
  constructor
  all_goals
    rintro ⟨k, hk, hp⟩
    refine ⟨k, hk, ?_⟩
    simpa [lst, hk] using hp
set_option maxRecDepth 100000 in
set_option maxHeartbeats 4000000 in
theorem check_any (A : Option Addr) (n c : Nat) (R : Nat → LR) (vw vl : Nat → Value) (w : World) (hn : n ≤ c) (hc : c ≤ 9223372036854775807) (hR : RdL w A n R vw vl) :
    Calls Try.prog 41 #[.slice A n c] w (ChkPost (OkL R n) w) := by
  have HR := Lib.hid hR
  clear hR
  by_cases h100 : 100 < n
  · have e6 : decide ((100 : Int) < (n : Int)) = true := by simp; omega
    go_enter Try.func41, Try.ntmps41
    go_wp2_with fail
    go_ret
    exact ⟨2, rfl, ⟨fun h => by omega, fun h => by have := h.1; omega⟩, Below.refl _ _⟩
  have e6 : decide ((100 : Int) < (n : Int)) = false := by simp; omega
  go_enter Try.func41, Try.ntmps41
  go_wp2_with fail
  go_loopw [2, 3, 4, 5, 6, 12, 17, 33, 50] (fun _ _ _ _ _ i _ _ _ wr => ∃ k : Nat, k ≤ n ∧ i = .int .i64 k ∧ (∀ j, j < k → OkR R j) ∧ Below w.heap.size w wr) (fun _ _ _ _ _ i _ _ _ _ => n - (intOf i).toNat)
  case atStart => exact ⟨0, Nat.zero_le _, rfl, fun j hj => by omega, Below.refl _ _⟩
  case round =>
    obtain ⟨k, hk, rfl, hlow, hB⟩ := hrel
    have HL := Lib.hid hlow
    have HB := Lib.hid hB
    have hBs := hB.size
    clear hlow
    by_cases hlt : k < n
    · obtain ⟨b, off, rfl, hb, hcell⟩ := HR.out.row (by omega)
      obtain ⟨⟨wA, wc, hvw, w1, w2, w3, hrw⟩, ⟨lA, lc, hvl, l1, l2, l3, hrl⟩⟩ := HR.out.each k hlt
      have c0 : wr.cell? ⟨b, off + k * 3, none⟩ = some (.int .i64 (R k).ref) := (hB.cell (p := ⟨b, _, none⟩) hb).trans (hcell k hlt 0 _ rfl)
      have c1 : wr.cell? ⟨b, off + k * 3 + 1, none⟩ = some (.slice wA (R k).ws.length wc) := (hB.cell (p := ⟨b, _, none⟩) hb).trans (hcell k hlt 1 _ (by simp [rwC, hvw]))
      have c2 : wr.cell? ⟨b, off + k * 3 + 2, none⟩ = some (.slice lA (R k).ls.length lc) := (hB.cell (p := ⟨b, _, none⟩) hb).trans (hcell k hlt 2 _ (by simp [rwC, hvl]))
      obtain ⟨r, hr⟩ : ∃ r, R k = r := ⟨_, rfl⟩
      have HCELL := Lib.hid hcell
      rw [hr] at c0 c1 c2 w1 w3 hrw l1 l3 hrl
      have HK := Lib.hid hr
      have HRL := Lib.hid hrl
      have HB2 := Lib.hid (hB.alloc hBs (.cells #[.int .i64 r.ref, .slice wA r.ws.length wc, .slice lA r.ls.length lc] 68))
      clear hr hcell hvw hvl hrw hrl w3 l3 hB
      have no : ∀ x : Int, x ≠ 0 → ¬ OkR R k → ChkPost (OkL R n) w (.returned (.int .i64 x)) (wr.alloc (.cells #[.int .i64 r.ref, .slice wA r.ws.length wc, .slice lA r.ls.length lc] 68)) := fun x hx hno => ⟨x, rfl, ⟨fun h => absurd h hx, fun h => absurd (h.2 k hlt) hno⟩, HB2.out⟩
      have NO := Lib.hid no
      clear no
      by_cases q1 : r.ref < 1
      · have d1 : decide (r.ref < 1) = true := by simpa using q1
        go_wp2_with fail
        go_ret
        exact NO.out 1 (by omega) (fun h => by have := h.1; rw [HK.out] at this; omega)
      have d1 : decide (r.ref < 1) = false := by simpa using q1
      by_cases q2 : 100 < r.ws.length
      · have d2 : decide ((100 : Int) < (r.ws.length : Int)) = true := by simp; omega
        go_wp2_with fail
        go_ret
        exact NO.out 1 (by omega) (fun h => by have := h.2.1; rw [HK.out] at this; omega)
      have d2 : decide ((100 : Int) < (r.ws.length : Int)) = false := by simp; omega
      by_cases q3 : 100 < r.ls.length
      · have d3 : decide ((100 : Int) < (r.ls.length : Int)) = true := by simp; omega
        go_wp2_with fail
        go_ret
        exact NO.out 1 (by omega) (fun h => by have := h.2.2.1; rw [HK.out] at this; omega)
      have d3 : decide ((100 : Int) < (r.ls.length : Int)) = false := by simp; omega
      have j1 : (k : Int) < (n : Int) := by omega
      have j2 : (0 : Int) ≤ (k : Int) := by omega
      have hbr : b < wr.heap.size := by omega
      obtain ⟨bad, hbad⟩ : ∃ bad : Bool, bad = (decide (0 < k) && decide (r.ref ≤ (R (k - 1)).ref)) := ⟨_, rfl⟩
      have HBAD := Lib.hid hbad
      clear hbad
      go_wp2_with fail
      go_cut [33] (fun x wx => x = .bool bad ∧ ∃ q, wx = (wr.alloc (.cells #[.int .i64 r.ref, .slice wA r.ws.length wc, .slice lA r.ls.length lc] 68)).drewN q)
      case first =>
        by_cases q4 : 0 < k
        · have d4 : decide ((0 : Int) < (k : Int)) = true := by simp; omega
          have p0 : wr.cell? ⟨b, off + (k - 1) * 3, none⟩ = some (.int .i64 (R (k - 1)).ref) := (HB.out.cell (p := ⟨b, _, none⟩) hb).trans (HCELL.out (k - 1) (by omega) 0 _ rfl)
          have i3 : ((k : Int) - 1).toNat = k - 1 := by omega
          have i4 : IntKind.i64.wrap ((k : Int) - 1) = (k : Int) - 1 := by rw [IntWalk.i64_in _ (by omega)]
          have i5 : (0 : Int) ≤ (k : Int) - 1 := by omega
          have i6 : (k : Int) - 1 < (n : Int) := by omega
          have i7 : (1 : Int) ≤ (k : Int) := by omega
          by_cases q5 : r.ref ≤ (R (k - 1)).ref
          · have d5 : decide (r.ref ≤ (R (k - 1)).ref) = true := by simpa using q5
            go_quiet (fail)
            go_wp2_with fail
            go_meet
            exact ⟨by rw [HBAD.out]; simp [q4, q5], nq, rfl⟩
          · have d5 : decide (r.ref ≤ (R (k - 1)).ref) = false := by simpa using q5
            go_quiet (fail)
            go_wp2_with fail
            go_meet
            exact ⟨by rw [HBAD.out]; simp [q5], nq, rfl⟩
        · have d4 : decide ((0 : Int) < (k : Int)) = false := by simp; omega
          go_quiet (fail)
          go_wp2_with fail
          go_meet
          exact ⟨by rw [HBAD.out]; simp [q4], nq, rfl⟩
      case rest =>
      obtain ⟨hx, q, hwc⟩ := hcut
      subst hx hwc
      have HB3 := Lib.hid (below_drewN HB2.out q)
      have e2 : ((wr.alloc (.cells #[.int .i64 r.ref, .slice wA r.ws.length wc, .slice lA r.ls.length lc] 68)).drewN q).cell? ⟨wr.heap.size, 2, none⟩ = some (.slice lA r.ls.length lc) := by simp [go_sem]
      have HRL3 := Lib.hid ((HRL.out.below HB.out |>.alloc (.cells #[.int .i64 r.ref, .slice wA r.ws.length wc, .slice lA r.ls.length lc] 68)).below (below_drewN (Below.refl _ _) q))
      clear c0 c1 c2
      generalize (wr.alloc (.cells #[.int .i64 r.ref, .slice wA r.ws.length wc, .slice lA r.ls.length lc] 68)).drewN q = wx at *
      cases bad with
      | true =>
        go_wp2_with fail
        go_ret
        have hb2 := HBAD.out.symm
        simp only [Bool.and_eq_true, decide_eq_true_eq] at hb2
        exact ⟨21, rfl, ⟨fun h => by omega, fun h => by
          have h1 := (h.2 k hlt).2.2.2.1 hb2.1
          rw [HK.out] at h1
          omega⟩, HB3.out⟩
      | false =>
        have hgood : 0 < k → (R (k - 1)).ref < r.ref := fun h0 => by
          have hb2 := HBAD.out.symm
          simp only [Bool.and_eq_false_iff, decide_eq_false_iff_not] at hb2
          rcases hb2 with hb2 | hb2 <;> omega
        have HG := Lib.hid hgood
        clear hgood
        go_wp2_with fail
        go_loop [2, 5, 6, 50] (fun _ _ _ i => ∃ q : Nat, q ≤ r.ls.length ∧ i = .int .i64 q ∧ (∀ p, p < q → lst r.ls p ∉ r.ls.take p)) (fun _ _ _ i => r.ls.length - (intOf i).toNat)
        case atStart => exact ⟨0, Nat.zero_le _, rfl, fun j hj => by omega⟩
        case round =>
          obtain ⟨p, hp, rfl, hcl⟩ := hrel
          have HCL := Lib.hid hcl
          clear hcl
          by_cases hlp : p < r.ls.length
          · obtain ⟨bl, ol, rfl, hbl, hcl⟩ := HRL3.out (by omega)
            have f0 : wx.cell? ⟨bl, ol + p, none⟩ = some (.int .i64 (lst r.ls p)) := by simpa using hcl p hlp 0 _ rfl
            have k1 : (0 : Int) ≤ (p : Int) := by omega
            have k2 : (p : Int) ≤ (lc : Int) := by omega
            clear hcl
            go_wp2_with fail
            refine (containsI_any (some ⟨bl, ol, none⟩) p lc (lst r.ls) (lst r.ls p) _ (by omega) (HRL3.out.take (by omega))).mono ?_
            rintro e w2 ⟨rfl, rfl⟩
            rw [take_lst r.ls p (by omega)]
            by_cases hmem : lst r.ls p ∈ r.ls.take p
            · have HM := Lib.hid hmem
              rw [show decide (lst r.ls p ∈ r.ls.take p) = true from decide_eq_true hmem]
              clear hmem
              go_wp2_with fail
              go_ret
              exact ⟨5, rfl, ⟨fun h => by omega, fun h => by
                have h1 := (h.2 k hlt).2.2.2.2
                rw [HK.out] at h1
                exact absurd HM.out (h1 p hlp)⟩, HB3.out⟩
            · have HM := Lib.hid hmem
              rw [show decide (lst r.ls p ∈ r.ls.take p) = false from decide_eq_false hmem]
              clear hmem
              go_wp2_with fail
              go_round
              case rel =>
                refine ⟨p + 1, by omega, by go_num, fun j hj => ?_⟩
                by_cases e : j = p
                · rw [e]; exact HM.out
                · exact HCL.out j (by omega)
              case measure => simp [intOf]; omega
          · have HCL2 := Lib.hid (show ClearL r.ls from fun j hj => HCL.out j (by omega))
            obtain rfl : p = r.ls.length := by omega
            go_wp2_with fail
            go_roundw
            case rel =>
              refine ⟨k + 1, by omega, by go_num, fun j hj => ?_, HB3.out⟩
              by_cases e : j = k
              · subst e
                unfold OkR
                rw [HK.out]
                exact ⟨by omega, by omega, by omega, HG.out, HCL2.out⟩
              · exact HL.out j (by omega)
            case measure => simp [intOf]; omega
    · obtain rfl : k = n := by omega
      clear hB
      go_wp2_with fail
      go_ret
      exact ⟨0, rfl, ⟨fun _ => ⟨by omega, HL.out⟩, fun _ => rfl⟩, HB.out⟩
end Go.Proofs.Ytcjkibjaajbfmaa
