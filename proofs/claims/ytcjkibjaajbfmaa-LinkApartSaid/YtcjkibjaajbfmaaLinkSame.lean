/- roadref3.SameLinks of rows that are alike. -/
import Derived.Test.YtcjkibjaajbfmaaLinkLaw
import Derived.Deep.QuietTactic
import Derived.BigQuiet
namespace Go.Proofs.Ytcjkibjaajbfmaa
open Go.RowKit
set_option linter.unusedVariables false
set_option maxHeartbeats 800000 in
theorem sameI_any (A B : Option Addr) (n c m d : Nat) (T U : Nat → Int) (w : World) (hn : n ≤ 9223372036854775807) (hm : m ≤ 9223372036854775807) (hT : Rd w 1 (tmC T) A n) (hU : Rd w 1 (tmC U) B m) :
    Calls Try.prog 55 #[.slice A n c, .slice B m d] w fun e w' => e = .returned (.bool (decide (n = m) && !anyOf (fun k => T k != U k) n)) ∧ ∃ q, w' = w.drewN q := by
  have HT := Lib.hid hT
  have HU := Lib.hid hU
  clear hT hU
  by_cases hnm : n = m
  · subst hnm
    have hne : ((n : Int) != (n : Int)) = false := by simp
    go_enter Try.func55, Try.ntmps55
    go_wp2_with fail
    go_loopw [5, 13] (fun _ i wr => ∃ k q : Nat, k ≤ n ∧ i = .int .i64 k ∧ (∀ j, j < k → (T j != U j) = false) ∧ wr = w.drewN q) (fun _ i _ => n - (intOf i).toNat)
    case atStart => exact ⟨0, 0, Nat.zero_le _, rfl, fun j hj => by omega, rfl⟩
    case round =>
      obtain ⟨k, q, hk, rfl, hlow, rfl⟩ := hrel
      have HL := Lib.hid hlow
      clear hlow
      by_cases hlt : k < n
      · obtain ⟨b, off, rfl, hb, hcell⟩ := HT.out (by omega)
        obtain ⟨b2, off2, rfl, hb2, hcell2⟩ := HU.out (by omega)
        have c0 : (w.drewN q).cell? ⟨b, off + k, none⟩ = some (.int .i64 (T k)) := by simpa using hcell k hlt 0 _ rfl
        have c1 : (w.drewN q).cell? ⟨b2, off2 + k, none⟩ = some (.int .i64 (U k)) := by simpa using hcell2 k hlt 0 _ rfl
        have i1 : (0 : Int) ≤ (k : Int) := by omega
        have i2 : (k : Int) < (n : Int) := by omega
        clear hcell hcell2
        generalize hW : w.drewN q = wx at *
        have HW := Lib.hid hW
        clear hW
        by_cases hp : (T k != U k) = true
        · go_wp2_with fail
          go_quiet (fail)
          go_wp2_with fail
          go_ret
          refine ⟨ret_bool ?_, q + nq, by rw [← HW.out, drewN_drewN]⟩
          have h1 : anyOf (fun k => T k != U k) n = true := anyOf_true.2 ⟨k, hlt, hp⟩
          simp only [h1]
          simp
        · have hp' : (T k != U k) = false := by simpa using hp
          clear hp
          go_wp2_with fail
          go_quiet (fail)
          go_wp2_with fail
          go_roundw
          case rel =>
            refine ⟨k + 1, q + nq, by omega, by go_num, fun j hj => ?_, by rw [← HW.out, drewN_drewN]⟩
            by_cases e : j = k
            · rw [e]; exact hp'
            · exact HL.out j (by omega)
          case measure => simp [intOf]; omega
      · go_wp2_with fail
        go_ret
        have h1 : anyOf (fun k => T k != U k) n = false := anyOf_false.2 (fun j hj => HL.out j (by omega))
        exact ⟨ret_bool (by simp only [h1]; simp), q, rfl⟩
  · have hne : ((n : Int) != (m : Int)) = true := by simp; omega
    have H0 := Lib.hid hnm
    clear hnm
    go_enter Try.func55, Try.ntmps55
    go_wp2_with fail
    go_ret
    exact ⟨ret_bool (by simp [H0.out]), 0, rfl⟩

theorem sameI_ok (A B : Option Addr) (c d : Nat) (l : List Int) (w : World) (h1 : Sl w (.slice A l.length c) l) (h2 : Sl w (.slice B l.length d) l) :
    Calls Try.prog 55 #[.slice A l.length c, .slice B l.length d] w fun e w' => e = .returned (.bool true) ∧ ∃ q, w' = w.drewN q := by
  obtain ⟨A0, c0, e, h3, h4, h5, h6⟩ := h1
  injection e with e1 e2 e3
  subst e1 e3
  obtain ⟨B0, d0, e, g3, g4, g5, g6⟩ := h2
  injection e with e1 e2 e3
  subst e1 e3
  refine (sameI_any A B _ c _ d (lst l) (lst l) w (by omega) (by omega) h6 g6).mono ?_
  rintro e w' ⟨rfl, h⟩
  refine ⟨ret_bool ?_, h⟩
  have : anyOf (fun k => lst l k != lst l k) l.length = false := anyOf_false.2 (fun j hj => by simp)
  rw [this]; simp
set_option maxRecDepth 100000 in
set_option maxHeartbeats 2000000 in
theorem sameL_ok (A B : Option Addr) (n c d : Nat) (R : Nat → LR) (vw vl vw' vl' : Nat → Value) (w : World) (hn : n ≤ 9223372036854775807) (h1 : RdL w A n R vw vl) (h2 : RdL w B n R vw' vl') :
    Calls Try.prog 37 #[.slice A n c, .slice B n d] w fun e w' => e = .returned (.bool true) ∧ Below w.heap.size w w' := by
  have H1 := Lib.hid h1
  have H2 := Lib.hid h2
  have hne : ((n : Int) != (n : Int)) = false := by simp
  clear h1 h2
  go_enter Try.func37, Try.ntmps37
  go_wp2_with fail
  go_loopw [4, 5, 13] (fun _ _ i wr => ∃ k : Nat, k ≤ n ∧ i = .int .i64 k ∧ Below w.heap.size w wr) (fun _ _ i _ => n - (intOf i).toNat)
  case atStart => exact ⟨0, Nat.zero_le _, rfl, Below.refl _ _⟩
  case round =>
    obtain ⟨k, hk, rfl, hB⟩ := hrel
    by_cases hlt : k < n
    · have HA := Lib.hid (H1.out.below hB)
      have HC := Lib.hid (H2.out.below hB)
      obtain ⟨b, off, rfl, hb, hc⟩ := HA.out.row (by omega)
      obtain ⟨b2, off2, rfl, hb2, hc2⟩ := HC.out.row (by omega)
      obtain ⟨hSw, hSl⟩ := HA.out.each k hlt
      obtain ⟨hTw, hTl⟩ := HC.out.each k hlt
      have hSw' := hSw
      have hSl' := hSl
      have hTw' := hTw
      have hTl' := hTl
      obtain ⟨wA, wc, hvw, x1, x2, _⟩ := hSw'
      obtain ⟨lA, lc, hvl, x3, x4, _⟩ := hSl'
      obtain ⟨wB, wd, hvw2, y1, y2, _⟩ := hTw'
      obtain ⟨lB, ld, hvl2, y3, y4, _⟩ := hTl'
      have c0 := hc k hlt 0 _ rfl
      have c1 := hc k hlt 1 (.slice wA (R k).ws.length wc) (by simp [rwC, hvw])
      have c2 := hc k hlt 2 (.slice lA (R k).ls.length lc) (by simp [rwC, hvl])
      have d0 := hc2 k hlt 0 _ rfl
      have d1 := hc2 k hlt 1 (.slice wB (R k).ws.length wd) (by simp [rwC, hvw2])
      have d2 := hc2 k hlt 2 (.slice lB (R k).ls.length ld) (by simp [rwC, hvl2])
      simp only [Nat.add_zero] at c0 d0
      rw [hvw] at hSw
      rw [hvl] at hSl
      rw [hvw2] at hTw
      rw [hvl2] at hTl
      have HSw := Lib.hid hSw
      have HSl := Lib.hid hSl
      have HTw := Lib.hid hTw
      have HTl := Lib.hid hTl
      have hrr : ((R k).ref != (R k).ref) = false := by simp
      have i1 : (0 : Int) ≤ (k : Int) := by omega
      have i2 : (k : Int) < (n : Int) := by omega
      clear hc hc2 hSw hSl hTw hTl hvw hvl hvw2 hvl2
      generalize (R k).ws = ws at *
      generalize (R k).ls = ls at *
      generalize (R k).ref = rf at *
      go_wp2_with fail
      go_quiet ((first | (go_at_call_of 55 (Value.slice wA ws.length wc); exact Calls.quiet_of (sameI_ok wA wB wc wd ws _ (HSw.out.below (below_drewN (Below.refl _ _) _)) (HTw.out.below (below_drewN (Below.refl _ _) _)))) | (go_at_call_of 55 (Value.slice lA ls.length lc); exact Calls.quiet_of (sameI_ok lA lB lc ld ls _ (HSl.out.below (below_drewN (Below.refl _ _) _)) (HTl.out.below (below_drewN (Below.refl _ _) _))))))
      go_wp2_with fail
      go_roundw
      case rel => exact ⟨k + 1, by omega, by go_num, below_drewN hB _⟩
      case measure => simp [intOf]; omega
    · go_wp2_with fail
      go_ret
      exact ⟨rfl, hB⟩
end Go.Proofs.Ytcjkibjaajbfmaa
