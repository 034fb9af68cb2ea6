/- Contracts of slices.Index, Contains, Equal over ints. -/
import Derived.Test.YtcedogmhmpcfmaaWardStop
import Derived.Deep.QuietTactic
import Derived.BigQuiet
namespace Go.Proofs.Ytcedogmhmpcfmaa.Wa
open Go.RowKit
set_option linter.unusedVariables false
set_option maxHeartbeats 400000 in
theorem indexI_any (A : Option Addr) (n c : Nat) (T : Nat → Int) (x : Int) (w : World) (hn : n ≤ 9223372036854775807) (hT : Rd w 1 (tmC T) A n) :
    Calls Try.prog 56 #[.slice A n c, .int .i64 x] w fun e w' => e = .returned (.int .i64 (ixOf (fun k => x == T k) n)) ∧ w = w' := by
  have HT := Lib.hid hT
  clear hT
  go_enter Try.func56, Try.ntmps56
  go_wp2_with fail
  go_loop [5, 8] (fun _ i => ∃ k : Nat, k ≤ n ∧ i = .int .i64 k ∧ (∀ j, j < k → (x == T j) = false)) (fun _ i => n - (intOf i).toNat)
  case atStart => exact ⟨0, Nat.zero_le _, rfl, fun j hj => by omega⟩
  case round =>
    obtain ⟨k, hk, rfl, hlow⟩ := hrel
    have HL := Lib.hid hlow
    clear hlow
    by_cases hlt : k < n
    · obtain ⟨b, off, rfl, hb, hcell⟩ := HT.out (by omega)
      have c0 : w.cell? ⟨b, off + k, none⟩ = some (.int .i64 (T k)) := by simpa using hcell k hlt 0 _ rfl
      clear hcell
      by_cases hp : (x == T k) = true
      · go_wp2_with fail
        go_ret
        exact ⟨ret_int (ixOf_found hlt hp HL.out).symm, rfl⟩
      · have hp' : (x == T k) = false := by simpa using hp
        clear hp
        go_wp2_with fail
        go_round
        case rel =>
          refine ⟨k + 1, by omega, by go_num, fun j hj => ?_⟩
          by_cases e : j = k
          · rw [e]; exact hp'
          · exact HL.out j (by omega)
        case measure => simp [intOf]; omega
    · go_wp2_with fail
      go_ret
      exact ⟨ret_int (ixOf_none fun j hj => HL.out j (by omega)).symm, rfl⟩
set_option maxHeartbeats 400000 in
theorem containsI_any (A : Option Addr) (n c : Nat) (T : Nat → Int) (x : Int) (w : World) (hn : n ≤ 9223372036854775807) (hT : Rd w 1 (tmC T) A n) :
    Calls Try.prog 31 #[.slice A n c, .int .i64 x] w fun e w' => e = .returned (.bool (anyOf (fun k => x == T k) n)) ∧ w = w' := by
  have H := Lib.hid (indexI_any A n c T x w hn hT)
  clear hT
  go_enter Try.func31, Try.ntmps31
  go_wp2_with fail
  refine H.out.mono ?_
  rintro e w1 ⟨rfl, rfl⟩
  go_wp2_with fail
  go_ret
  exact ⟨rfl, rfl⟩
set_option maxHeartbeats 800000 in
theorem equalI_any (A B : Option Addr) (n c m d : Nat) (T U : Nat → Int) (w : World) (hn : n ≤ 9223372036854775807) (hm : m ≤ 9223372036854775807) (hT : Rd w 1 (tmC T) A n) (hU : Rd w 1 (tmC U) B m) :
    Calls Try.prog 15 #[.slice A n c, .slice B m d] w fun e w' => e = .returned (.bool (decide (n = m) && !anyOf (fun k => T k != U k) n)) ∧ ∃ q, w' = w.drewN q := by
  have HT := Lib.hid hT
  have HU := Lib.hid hU
  clear hT hU
  by_cases hnm : n = m
  · subst hnm
    have hne : ((n : Int) != (n : Int)) = false := by simp
    go_enter Try.func15, Try.ntmps15
    go_wp2_with fail
    go_loopw [5, 13] (fun _ i wr => ∃ k q : Nat, k ≤ n ∧ i = .int .i64 k ∧ (∀ j, j < k → (T j != U j) = false) ∧ wr = w.drewN q) (fun _ i _ => n - (intOf i).toNat)
    case atStart => exact ⟨0, 0, Nat.zero_le _, rfl, fun j hj => by omega, rfl⟩
    case round =>
      obtain ⟨k, q, hk, rfl, hlow, rfl⟩ := hrel
      have HL := Lib.hid hlow
      clear hlow
      by_cases hlt : k < n
      · obtain ⟨b, off, rfl, hb, hcell⟩ := HT.out (by omega)
        obtain ⟨b2, off2, rfl, hb2, hcell2⟩ := HU.out (by omega)
        have c0 : (w.drewN q).cell? ⟨b, off + k, none⟩ = some (.int .i64 (T k)) := by simpa using hcell k hlt 0 _ rfl
        have c1 : (w.drewN q).cell? ⟨b2, off2 + k, none⟩ = some (.int .i64 (U k)) := by simpa using hcell2 k hlt 0 _ rfl
        have i1 : (0 : Int) ≤ (k : Int) := by omega
        have i2 : (k : Int) < (n : Int) := by omega
        clear hcell hcell2
        generalize hW : w.drewN q = wx at *
        have HW := Lib.hid hW
        clear hW
        by_cases hp : (T k != U k) = true
        · go_wp2_with fail
          go_quiet (fail)
          go_wp2_with fail
          go_ret
          refine ⟨ret_bool ?_, q + nq, by rw [← HW.out, drewN_drewN]⟩
          have h1 : anyOf (fun k => T k != U k) n = true := anyOf_true.2 ⟨k, hlt, hp⟩
          simp only [h1]
          simp
        · have hp' : (T k != U k) = false := by simpa using hp
          clear hp
          go_wp2_with fail
          go_quiet (fail)
          go_wp2_with fail
          go_roundw
          case rel =>
            refine ⟨k + 1, q + nq, by omega, by go_num, fun j hj => ?_, by rw [← HW.out, drewN_drewN]⟩
            by_cases e : j = k
            · rw [e]; exact hp'
            · exact HL.out j (by omega)
          case measure => simp [intOf]; omega
      · go_wp2_with fail
        go_ret
        have h1 : anyOf (fun k => T k != U k) n = false := anyOf_false.2 (fun j hj => HL.out j (by omega))
        exact ⟨ret_bool (by simp only [h1]; simp), q, rfl⟩
  · have hne : ((n : Int) != (m : Int)) = true := by simp; omega
    have H0 := Lib.hid hnm
    clear hnm
    go_enter Try.func15, Try.ntmps15
    go_wp2_with fail
    go_ret
    exact ⟨ret_bool (by simp [H0.out]), 0, rfl⟩

def lst (l : List Int) : Nat → Int := fun k => l.getD k 0
theorem flatC_lst (l : List Int) : flatC (tmC (lst l)) l.length = encI l := by
  rw [flatC_fl]
  congr 1
  apply List.ext_getElem?
  intro j
  by_cases hj : j < l.length
  · rw [fl_get _ hj, List.getElem?_eq_getElem hj]; simp [lst, hj]
  · rw [List.getElem?_eq_none (by rw [fl_len]; omega), List.getElem?_eq_none (by omega)]
theorem OwnI.rd {w : World} {base n c : Nat} {A : Option Addr} {l : List Int} (h : OwnI w base (.slice A n c) l) : Rd w 1 (tmC (lst l)) A l.length := by
  obtain ⟨A', c', hv, _⟩ := own_any h
  injection hv with h1 h2 h3
  subst h1 h2 h3
  refine Rd.of_own (tmC_len _) (c := c) (base := base) (e := 3) ?_
  rw [flatC_lst]
  exact h
theorem any_lst (l : List Int) (x : Int) : anyOf (fun k => x == lst l k) l.length = decide (x ∈ l) := by
  rw [Bool.eq_iff_iff, anyOf_true, decide_eq_true_eq, List.mem_iff_getElem?]
  constructor
  · rintro ⟨k, hk, h⟩
    refine ⟨k, ?_⟩
    simp [lst, hk] at h
    rw [List.getElem?_eq_getElem hk, h]
  · rintro ⟨k, h⟩
    obtain ⟨hk, h'⟩ := List.getElem?_eq_some_iff.1 h
    exact ⟨k, hk, by simp [lst, hk, h']⟩
end Go.Proofs.Ytcedogmhmpcfmaa.Wa
