/- The contracts of roadref3.SameInts and SameLines at like lines; steal.Pop whole; roadkeep3.steals. -/
import Derived.Test.YtjcegplockihfaaStealPop
import Derived.Deep.QuietTactic
import Derived.BigQuiet
namespace Go.Proofs.Ytjcegplockihfaa
open Go.RowKit
set_option linter.unusedVariables false
set_option maxHeartbeats 800000 in
theorem sameI_any (A B : Option Addr) (n c m d : Nat) (T U : Nat → Int) (w : World) (hn : n ≤ 9223372036854775807) (hm : m ≤ 9223372036854775807) (hT : Rd w 1 (tmC T) A n) (hU : Rd w 1 (tmC U) B m) :
    Calls Try.prog 59 #[.slice A n c, .slice B m d] w fun e w' => e = .returned (.bool (decide (n = m) && !anyOf (fun k => T k != U k) n)) ∧ ∃ q, w' = w.drewN q := by
  have HT := Lib.hid hT
  have HU := Lib.hid hU
  clear hT hU
  by_cases hnm : n = m
  · subst hnm
    have hne : ((n : Int) != (n : Int)) = false := by simp
    go_enter Try.func59, Try.ntmps59
    go_wp2_with fail
    go_loopw [5, 13] (fun _ i wr => ∃ k q : Nat, k ≤ n ∧ i = .int .i64 k ∧ (∀ j, j < k → (T j != U j) = false) ∧ wr = w.drewN q) (fun _ i _ => n - (intOf i).toNat)
    case atStart => exact ⟨0, 0, Nat.zero_le _, rfl, fun j hj => by omega, rfl⟩
    case round =>
      obtain ⟨k, q, hk, rfl, hlow, rfl⟩ := hrel
      have HL := Lib.hid hlow
      clear hlow
      by_cases hlt : k < n
      · obtain ⟨b, off, rfl, hb, hcell⟩ := HT.out (by omega)
        obtain ⟨b2, off2, rfl, hb2, hcell2⟩ := HU.out (by omega)
        have c0 : (w.drewN q).cell? ⟨b, off + k, none⟩ = some (.int .i64 (T k)) := by simpa using hcell k hlt 0 _ rfl
        have c1 : (w.drewN q).cell? ⟨b2, off2 + k, none⟩ = some (.int .i64 (U k)) := by simpa using hcell2 k hlt 0 _ rfl
        have i1 : (0 : Int) ≤ (k : Int) := by omega
        have i2 : (k : Int) < (n : Int) := by omega
        clear hcell hcell2
        generalize hW : w.drewN q = wx at *
        have HW := Lib.hid hW
        clear hW
        by_cases hp : (T k != U k) = true
        · go_wp2_with fail
          go_quiet (fail)
          go_wp2_with fail
          go_ret
          refine ⟨ret_bool ?_, q + nq, by rw [← HW.out, drewN_drewN]⟩
          have h1 : anyOf (fun k => T k != U k) n = true := anyOf_true.2 ⟨k, hlt, hp⟩
          simp only [h1]
          simp
        · have hp' : (T k != U k) = false := by simpa using hp
          clear hp
          go_wp2_with fail
          go_quiet (fail)
          go_wp2_with fail
          go_roundw
          case rel =>
            refine ⟨k + 1, q + nq, by omega, by go_num, fun j hj => ?_, by rw [← HW.out, drewN_drewN]⟩
            by_cases e : j = k
            · rw [e]; exact hp'
            · exact HL.out j (by omega)
          case measure => simp [intOf]; omega
      · go_wp2_with fail
        go_ret
        have h1 : anyOf (fun k => T k != U k) n = false := anyOf_false.2 (fun j hj => HL.out j (by omega))
        exact ⟨ret_bool (by simp only [h1]; simp), q, rfl⟩
  · have hne : ((n : Int) != (m : Int)) = true := by simp; omega
    have H0 := Lib.hid hnm
    clear hnm
    go_enter Try.func59, Try.ntmps59
    go_wp2_with fail
    go_ret
    exact ⟨ret_bool (by simp [H0.out]), 0, rfl⟩

theorem sameI_ok (A B : Option Addr) (c d : Nat) (l : List Int) (S S' : Nat → Prop) (w : World) (hl : l.length ≤ 9223372036854775807) (h1 : RdI w S A l) (h2 : RdI w S' B l) :
    Calls Try.prog 59 #[.slice A l.length c, .slice B l.length d] w fun e w' => e = .returned (.bool true) ∧ ∃ q, w' = w.drewN q := by
  refine (sameI_any A B _ c _ d (lst l) (lst l) w hl hl h1.rd h2.rd).mono ?_
  rintro e w' ⟨rfl, h⟩
  refine ⟨ret_bool ?_, h⟩
  have : anyOf (fun k => lst l k != lst l k) l.length = false := anyOf_false.2 (fun j hj => by simp)
  rw [this]; simp
set_option maxRecDepth 100000 in
set_option maxHeartbeats 800000 in
theorem sameL_ok (A B : Option Addr) (n c d : Nat) (Q : Nat → List Int) (S S' : Nat → Prop) (w : World) (hn : n ≤ 9223372036854775807) (h1 : RdLs w S A n Q) (h2 : RdLs w S' B n Q) :
    Calls Try.prog 39 #[.slice A n c, .slice B n d] w fun e w' => e = .returned (.bool true) ∧ Below w.heap.size w w' := by
  have H1 := Lib.hid h1
  have H2 := Lib.hid h2
  have hne : ((n : Int) != (n : Int)) = false := by simp
  clear h1 h2
  go_enter Try.func39, Try.ntmps39
  go_wp2_with fail
  go_loopw [4, 5, 13] (fun _ _ i wr => ∃ k : Nat, k ≤ n ∧ i = .int .i64 k ∧ Below w.heap.size w wr) (fun _ _ i _ => n - (intOf i).toNat)
  case atStart => exact ⟨0, Nat.zero_le _, rfl, Below.refl _ _⟩
  case round =>
    obtain ⟨k, hk, rfl, hB⟩ := hrel
    by_cases hlt : k < n
    · obtain ⟨b, off, rfl, hb, _, hc⟩ := (H1.out.below hB) (by omega)
      obtain ⟨b2, off2, rfl, hb2, _, hc2⟩ := (H2.out.below hB) (by omega)
      obtain ⟨qA, qc, c0, hq1, hq2, _, hI⟩ := hc k hlt
      obtain ⟨pA, pc, c1, hp1, hp2, _, hI2⟩ := hc2 k hlt
      have HI := Lib.hid hI
      have HI2 := Lib.hid hI2
      have i1 : (0 : Int) ≤ (k : Int) := by omega
      have i2 : (k : Int) < (n : Int) := by omega
      have hl : (Q k).length ≤ 9223372036854775807 := by omega
      clear hc hc2 hI hI2
      go_wp2_with fail
      go_quiet ((go_at_call 59; exact Calls.quiet_of (sameI_ok qA pA qc pc (Q k) S S' _ hl (HI.out.frame (Nat.le_refl _) (fun b hs hlt => ⟨hs, rfl⟩)) (HI2.out.frame (Nat.le_refl _) (fun b hs hlt => ⟨hs, rfl⟩)))))
      go_wp2_with fail
      go_roundw
      case rel => exact ⟨k + 1, by omega, by go_num, below_drewN hB _⟩
      case measure => simp [intOf]; omega
    · go_wp2_with fail
      go_ret
      exact ⟨rfl, hB⟩
/-- the lines that steals hands in -/
def Q0 : Nat → List Int := fun i => if i = 0 then [1] else []
theorem Q0_ok : PushOk Q0 2 0 2 := by
  refine ⟨⟨⟨by omega, by omega, ?_, ?_⟩, by omega, by omega⟩, ?_, ?_⟩ <;> decide
theorem Q0_wf : WfQ Q0 2 := fun i hi => by
  unfold Q0
  by_cases e : i = 0
  · simp only [e, if_true]
    exact ⟨by simp, fun x hx => by simp at hx; subst hx; exact Wf.of (by omega) (by omega)⟩
  · simp only [e, if_false]
    exact ⟨by simp, fun x hx => by simp at hx⟩
theorem Q0_rd {w : World} {b b1 : Nat} (h0 : b < w.heap.size) (h1 : b1 < w.heap.size) (c0 : w.cell? ⟨b, 0, none⟩ = some (.slice (some ⟨b1, 0, none⟩) 1 1)) (c1 : w.cell? ⟨b, 1, none⟩ = some (.slice none 0 0)) (c2 : w.cell? ⟨b1, 0, none⟩ = some (.int .i64 1)) : RdLs w (fun _ => True) (some ⟨b, 0, none⟩) 2 Q0 := fun _ => by
  refine ⟨b, 0, rfl, h0, trivial, fun i hi => ?_⟩
  match i, hi with
  | 0, _ => exact ⟨some ⟨b1, 0, none⟩, 1, by simpa [Q0] using c0, by simp [Q0], by omega, (fun h => by cases h), fun _ => ⟨b1, 0, rfl, h1, trivial, fun j hj => by
      have : j = 0 := by simp [Q0] at hj; exact hj
      subst this
      simpa [Q0, lst] using c2⟩⟩
  | 1, _ => exact ⟨none, 0, by simpa [Q0] using c1, by simp [Q0], by omega, fun _ => by simp [Q0], fun h => by simp [Q0] at h⟩
set_option maxRecDepth 100000 in
set_option maxHeartbeats 800000 in
theorem steals_any (w : World) : Calls Try.prog 37 #[] w fun e w' => e = .returned (.bool true) ∧ Below w.heap.size w w' := by
  go_enter Try.func37, Try.ntmps37
  go_wp2_with fail
  refine (push_any _ 2 2 Q0 (fun _ => True) 0 2 _ (by omega) (by omega) (Q0_rd (b := w.heap.size + 1) (b1 := w.heap.size) (by simp [go_sem]) (by simp [go_sem]) (by simp [go_sem]) (by simp [go_sem]) (by simp [go_sem])) Q0_wf).mono ?_
  rintro e w1 (⟨h, _⟩ | ⟨_, A, c, vs, rfl, hO, hb⟩)
  · exact absurd Q0_ok h
  have hb1 : Below w.heap.size w w1 := (((Below.refl _ _).alloc (Nat.le_refl _) _).alloc (by simp) _).trans (hb.mono (by simp; omega))
  have hz1 := hb1.size
  have HB1 := Lib.hid hb1
  obtain ⟨b, off, rfl, hlt, _, hc⟩ := hO.rd (by omega)
  obtain ⟨qA, qc, c0, hq1, hq2, _, hI⟩ := hc 0 (by omega)
  have e1 : upd Q0 (Int.toNat 0) (Q0 (Int.toNat 0) ++ [2]) 0 = [1, 2] := by decide
  rw [e1] at c0 hq1 hI
  simp only [Nat.add_zero, List.length_cons, List.length_nil] at c0 hq1
  have HI := Lib.hid hI.rd
  clear hO hb hb1 hI hc e1
  go_wp2_with fail
  refine (equalI_any _ _ 2 _ 2 _ (lst [1, 2]) (lst [1, 2]) _ (by omega) (by omega) ((HI.out.alloc _)) (fun _ => ⟨_, 0, rfl, by simp, fun k hk j u hu => ?_⟩)).mono ?_
  · match j, hu with
    | 0, hu =>
      simp [tmC] at hu; subst hu
      match k, hk with
      | 0, _ => simp [go_sem, lst]
      | 1, _ => simp [go_sem, lst]
  · rintro e w2 ⟨rfl, q, rfl⟩
    rw [show (decide (2 = 2) && !anyOf (fun k => lst [1, 2] k != lst [1, 2] k) 2) = true from by decide]
    go_wp2_with fail
    go_ret
    exact ⟨rfl, below_drewN (HB1.out.alloc hz1 _) _⟩
end Go.Proofs.Ytjcegplockihfaa
