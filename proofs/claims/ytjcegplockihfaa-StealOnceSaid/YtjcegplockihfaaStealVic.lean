/- The contract of steal.Victim. -/
import Derived.Test.YtjcegplockihfaaStealPush
import Derived.Deep.DeepCutAuto
namespace Go.Proofs.Ytjcegplockihfaa
open Go.RowKit
set_option linter.unusedVariables false
/-- is line i better than the best one up till now? -/
def better (Q : Nat → List Int) (best : Int) (i : Nat) : Bool := decide (0 < (Q i).length) && (decide (best < 0) || decide ((Q best.toNat).length < (Q i).length))
/-- the victim among the first j lines behind cpu -/
def vic (Q : Nat → List Int) (n cp : Nat) : Nat → Int
  | 0 => -1
  | j + 1 => if better Q (vic Q n cp j) ((cp + (j + 1)) % n) then (((cp + (j + 1)) % n : Nat) : Int) else vic Q n cp j
theorem vic_range {Q : Nat → List Int} {n cp : Nat} (h0 : 0 < n) : ∀ j, j < n → (vic Q n cp j = -1 ∧ ∀ i, 1 ≤ i → i ≤ j → (Q ((cp + i) % n)).length = 0) ∨ ∃ v : Nat, vic Q n cp j = v ∧ v < n ∧ 0 < (Q v).length ∧ ∃ i, 1 ≤ i ∧ i ≤ j ∧ v = (cp + i) % n := by
  intro j
  induction j with
  | zero => intro _; exact .inl ⟨rfl, fun i h1 h2 => by omega⟩
  | succ j ih =>
    intro hj
    rw [vic]
    cases hb : better Q (vic Q n cp j) ((cp + (j + 1)) % n) with
    | true =>
      refine .inr ⟨(cp + (j + 1)) % n, by simp, Nat.mod_lt _ h0, ?_, j + 1, by omega, by omega, rfl⟩
      unfold better at hb
      simp at hb
      exact hb.1
    | false =>
      rcases ih (by omega) with ⟨h1, h2⟩ | ⟨v, h1, h2, h3, i, h4, h5, h6⟩
      · refine .inl ⟨by simpa using h1, fun i hi1 hi2 => ?_⟩
        by_cases e : i = j + 1
        · subst e
          unfold better at hb
          rw [h1] at hb
          simp at hb
          rw [hb]; rfl
        · exact h2 i hi1 (by omega)
      · exact .inr ⟨v, by simpa using h1, h2, h3, i, h4, by omega, h6⟩
theorem vic_none {Q : Nat → List Int} {n cp : Nat} (h0 : 0 < n) (hcp : cp < n) (h : vic Q n cp (n - 1) = -1) : ∀ i, i < n → i ≠ cp → (Q i).length = 0 := by
  intro i hi hne
  rcases vic_range (Q := Q) (cp := cp) h0 (n - 1) (by omega) with ⟨_, h2⟩ | ⟨v, h1, _⟩
  · by_cases hlt : cp < i
    · have := h2 (i - cp) (by omega) (by omega)
      rw [show (cp + (i - cp)) % n = i by rw [show cp + (i - cp) = i by omega]; exact Nat.mod_eq_of_lt hi] at this
      exact this
    · have := h2 (n - cp + i) (by omega) (by omega)
      rw [show (cp + (n - cp + i)) % n = i by rw [show cp + (n - cp + i) = i + n by omega, Nat.add_mod_right]; exact Nat.mod_eq_of_lt hi] at this
      exact this
  · rw [h1] at h; omega
theorem vic_some {Q : Nat → List Int} {n cp : Nat} (h0 : 0 < n) (hcp : cp < n) (h : vic Q n cp (n - 1) ≠ -1) : ∃ v : Nat, vic Q n cp (n - 1) = v ∧ v < n ∧ v ≠ cp ∧ 0 < (Q v).length := by
  rcases vic_range (Q := Q) (cp := cp) h0 (n - 1) (by omega) with ⟨h1, _⟩ | ⟨v, h1, h2, h3, i, h4, h5, h6⟩
  · exact absurd h1 h
  · refine ⟨v, h1, h2, fun e => ?_, h3⟩
    rw [h6] at e
    have h7 : (cp + i) % n = cp := e
    by_cases hlt : cp + i < n
    · rw [Nat.mod_eq_of_lt hlt] at h7; omega
    · rw [show cp + i = (cp + i - n) + n by omega, Nat.add_mod_right, Nat.mod_eq_of_lt (by omega)] at h7
      omega
def VicPost (r : Int) (w : World) (e : Ending) (w' : World) : Prop := e = .returned (.int .i64 r) ∧ Below w.heap.size w w'
set_option maxRecDepth 100000 in
set_option maxHeartbeats 2000000 in
theorem victim_ok (A : Option Addr) (n c cp : Nat) (Q : Nat → List Int) (S : Nat → Prop) (w : World) (hn : n ≤ c) (hc : c ≤ 9223372036854775807) (hR : RdLs w S A n Q) (hwf : WfQ Q n) (ok : OkLs Q n) (hcp : cp < n) :
    Calls Try.prog 41 #[.slice A n c, .int .i64 cp] w (VicPost (vic Q n cp (n - 1)) w) := by
  have H := Lib.hid (checkCpu_any A n c Q S cp w hn hc hR hwf)
  have HR := Lib.hid hR
  have HK := Lib.hid (show OkLs Q n ∧ (0 : Int) ≤ cp ∧ (cp : Int) < n from ⟨ok, by omega, by omega⟩)
  have h8 := ok.2.1
  clear hR hwf ok
  go_enter Try.func41, Try.ntmps41
  go_wp2_with fail
  refine H.out.mono ?_
  rintro e w1 ⟨x, rfl, hx, hb⟩
  obtain rfl : x = 0 := hx.2 HK.out
  have HB1 := Lib.hid hb
  have HR1 := Lib.hid (HR.out.below hb)
  clear hx hb
  go_wp2_with fail
  go_loopw [5, 6, 7] (fun s t _ wr => ∃ j m : Nat, j + 1 ≤ n ∧ s = .int .i64 (vic Q n cp j) ∧ t = .int .i64 ((j : Int) + 1) ∧ wr = w1.drewN m) (fun _ t _ _ => n - (intOf t).toNat)
  case atStart => exact ⟨0, 0, by omega, rfl, rfl, rfl⟩
  case round =>
    obtain ⟨j, m, hj, rfl, rfl, rfl⟩ := hrel
    by_cases hlt : j + 1 < n
    · have hlt1 : (j : Int) + 1 < (n : Int) := by omega
      obtain ⟨b, off, rfl, hb, hSb, hcell⟩ := HR1.out (by omega)
      have hmod : ((cp : Int) + ((j : Int) + 1)) % (n : Int) = (((cp + (j + 1)) % n : Nat) : Int) := by rw [show (cp : Int) + ((j : Int) + 1) = ((cp + (j + 1) : Nat) : Int) by omega]; exact (Int.natCast_emod _ _).symm
      have him : (cp + (j + 1)) % n < n := Nat.mod_lt _ (by omega)
      have HV := Lib.hid (show vic Q n cp (j + 1) = if better Q (vic Q n cp j) ((cp + (j + 1)) % n) then (((cp + (j + 1)) % n : Nat) : Int) else vic Q n cp j from rfl)
      have hvr := vic_range (Q := Q) (n := n) (cp := cp) (by omega) j (by omega)
      generalize hi : (cp + (j + 1)) % n = i at *
      generalize hv : vic Q n cp j = best at *
      obtain ⟨qA, qc, h1, h2, h3, h4, h5⟩ := hcell i him
      have c0 : (w1.drewN m).cell? ⟨b, off + i, none⟩ = some (.slice qA (Q i).length qc) := h1
      have i0 : (0 : Int) ≤ (i : Int) := by omega
      have i1 : (i : Int) < (n : Int) := by omega
      have HI := Lib.hid hi
      have HVV := Lib.hid hv
      have hn0 : ((n : Int) == 0) = false := by simp; omega
      have hvr' : best = -1 ∨ ∃ v : Nat, best = v ∧ v < n := by
        rcases hvr with ⟨h, _⟩ | ⟨v, h1, h2, _⟩
        · exact .inl h
        · exact .inr ⟨v, h1, h2⟩
      have HVR := Lib.hid hvr'
      clear hi hv hvr hvr' h1 h4 h5
      have HC := Lib.hid hcell
      clear hcell
      generalize hW : w1.drewN m = wx at *
      have HW := Lib.hid hW
      clear hW
      have HC' : Hid (∀ v, v < n → ∃ qA qc, wx.cell? ⟨b, off + v, none⟩ = some (.slice qA (Q v).length qc) ∧ (Q v).length ≤ qc ∧ qc ≤ 9223372036854775807) := Lib.hid (fun v hv => by
        obtain ⟨qA, qc, h1, h2, h3, _⟩ := HC.out v hv
        exact ⟨qA, qc, by rw [← HW.out]; exact h1, h2, h3⟩)
      go_wp2_with fail
      go_cut [46] (fun x wy => x = .bool (better Q best i) ∧ ∃ q, wy = wx.drewN q)
      case first =>
        by_cases hl : 0 < (Q i).length
        · have d1 : decide ((0 : Int) < ((Q i).length : Int)) = true := by simp; omega
          have d1n : decide (0 < (Q i).length) = true := by simpa using hl
          rcases HVR.out with h | ⟨v, h, hvn⟩
          · have d2 : decide (best < 0) = true := by rw [h]; decide
            have HBT := Lib.hid (show better Q best i = true by unfold better; rw [d1n, d2]; rfl)
            clear hl h
            go_quiet (fail)
            go_wp2_with fail
            go_meet
            exact ⟨by rw [HBT.out], nq, rfl⟩
          · obtain ⟨vA, vc, hv1, hv2, hv3⟩ := HC'.out v hvn
            have d2 : decide (best < 0) = false := decide_eq_false (by omega)
            have j0 : (0 : Int) ≤ best := by omega
            have j1 : best < (n : Int) := by omega
            have j2 : best.toNat = v := by omega
            clear h
            by_cases hgt : (Q v).length < (Q i).length
            · have d3 : decide (((Q v).length : Int) < ((Q i).length : Int)) = true := by simp; omega
              have d3n : decide ((Q v).length < (Q i).length) = true := by simpa using hgt
              have HBT := Lib.hid (show better Q best i = true by unfold better; rw [d1n, j2, d3n]; simp)
              clear hl hgt
              go_quiet (fail)
              go_wp2_with fail
              go_meet
              exact ⟨by rw [HBT.out], nq, rfl⟩
            · have d3 : decide (((Q v).length : Int) < ((Q i).length : Int)) = false := by simp; omega
              have d3n : decide ((Q v).length < (Q i).length) = false := by simpa using hgt
              have HBT := Lib.hid (show better Q best i = false by unfold better; rw [d1n, j2, d3n, d2]; rfl)
              clear hl hgt
              go_quiet (fail)
              go_wp2_with fail
              go_meet
              exact ⟨by rw [HBT.out], nq, rfl⟩
        · have d1 : decide ((0 : Int) < ((Q i).length : Int)) = false := decide_eq_false (by omega)
          have d1n : decide (0 < (Q i).length) = false := by simpa using hl
          have HBT := Lib.hid (show better Q best i = false by unfold better; rw [d1n]; rfl)
          clear hl
          go_quiet (fail)
          go_wp2_with fail
          go_meet
          exact ⟨by rw [HBT.out], nq, rfl⟩
      case rest =>
      obtain ⟨hx, q, hwc⟩ := hcut
      subst hx hwc
      have HMOD := Lib.hid hmod
      clear c0 hmod hn0
      cases hb : better Q best i with
      | true =>
        have HBT := Lib.hid hb
        clear hb
        go_wp2_with fail
        go_roundw
        case rel => exact ⟨j + 1, m + q, by omega, by rw [HV.out, HBT.out, HMOD.out]; rfl, by go_num, by rw [← HW.out, drewN_drewN]⟩
        case measure => simp [intOf]; omega
      | false =>
        have HBT := Lib.hid hb
        clear hb
        go_wp2_with fail
        go_roundw
        case rel => exact ⟨j + 1, m + q, by omega, by rw [HV.out, HBT.out]; rfl, by go_num, by rw [← HW.out, drewN_drewN]⟩
        case measure => simp [intOf]; omega
    · have hlt1 : ¬ ((j : Int) + 1 < (n : Int)) := by omega
      obtain rfl : j = n - 1 := by omega
      go_wp2_with fail
      go_ret
      exact ⟨rfl, below_drewN HB1.out m⟩
end Go.Proofs.Ytjcegplockihfaa
