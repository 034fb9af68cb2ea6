/- Contracts of package turn: Check, after, Next; the closed fact of the laws. -/
import Derived.Test.YtjcegplockihfaaInts
import Derived.IntWalk
namespace Go.Proofs.Ytjcegplockihfaa
open Go.RowKit
set_option linter.unusedVariables false
def OkR (T : Nat → Int) (n : Nat) : Prop := n ≤ 100 ∧ ∀ k, k + 1 < n → T k < T (k + 1)
def ChkR (Ok : Prop) (w : World) (e : Ending) (w' : World) : Prop := ∃ x : Int, e = .returned (.int .i64 x) ∧ (x = 0 ↔ Ok) ∧ ∃ q, w' = w.drewN q
set_option maxRecDepth 100000 in
set_option maxHeartbeats 1000000 in
theorem checkR_any (A : Option Addr) (n c : Nat) (T : Nat → Int) (w : World) (hn : n ≤ c) (hc : c ≤ 9223372036854775807) (hT : Rd w 1 (tmC T) A n) :
    Calls Try.prog 52 #[.slice A n c] w (ChkR (OkR T n) w) := by
  have HT := Lib.hid hT
  clear hT
  by_cases h100 : 100 < n
  · have e0 : decide ((100 : Int) < (n : Int)) = true := by simp; omega
    go_enter Try.func52, Try.ntmps52
    go_wp2_with fail
    go_ret
    exact ⟨2, rfl, ⟨fun h => by omega, fun h => by have := h.1; omega⟩, 0, rfl⟩
  have e0 : decide ((100 : Int) < (n : Int)) = false := by simp; omega
  go_enter Try.func52, Try.ntmps52
  go_wp2_with fail
  go_loopw [3] (fun i wr => ∃ k q : Nat, i = .int .i64 ((k : Int) + 1) ∧ k ≤ n ∧ (∀ j, j < k → j + 1 < n → T j < T (j + 1)) ∧ wr = w.drewN q) (fun i _ => n + 1 - (intOf i).toNat)
  case atStart => exact ⟨0, 0, rfl, by omega, fun j hj => by omega, rfl⟩
  case round =>
    obtain ⟨k, q, rfl, hk, hlow, rfl⟩ := hrel
    have HL := Lib.hid hlow
    clear hlow
    by_cases hlt : k + 1 < n
    · obtain ⟨b, off, rfl, hb, hcell⟩ := HT.out (by omega)
      have c0 : (w.drewN q).cell? ⟨b, off + k, none⟩ = some (.int .i64 (T k)) := by simpa using hcell k (by omega) 0 _ rfl
      have c1 : (w.drewN q).cell? ⟨b, off + (k + 1), none⟩ = some (.int .i64 (T (k + 1))) := by simpa using hcell (k + 1) (by omega) 0 _ rfl
      have i1 : (0 : Int) ≤ (k : Int) + 1 := by omega
      have i2 : (k : Int) + 1 < (n : Int) := by omega
      have i3 : ((k : Int) + 1).toNat = k + 1 := by omega
      have i4 : IntKind.i64.wrap ((k : Int) + 1 - 1) = (k : Int) := by rw [IntWalk.i64_in _ (by omega)]; omega
      have i5 : (0 : Int) ≤ (k : Int) := by omega
      have i6 : (k : Int) < (n : Int) := by omega
      clear hcell
      generalize hW : w.drewN q = wx at *
      have HW := Lib.hid hW
      clear hW
      by_cases hp : T (k + 1) ≤ T k
      · have HP := Lib.hid hp
        go_wp2_with fail
        go_quiet (fail)
        go_wp2_with fail
        go_ret
        exact ⟨21, rfl, ⟨fun h => by omega, fun h => by have := h.2 k hlt; omega⟩, q + nq, by rw [← HW.out, drewN_drewN]⟩
      · have hp' : T k < T (k + 1) := by omega
        go_wp2_with fail
        go_quiet (fail)
        clear i1 i2 i3 i4 i5 i6 c0 c1
        go_wp2_with fail
        go_roundw
        case rel =>
          refine ⟨k + 1, q + nq, by go_num, by omega, fun j hj hj1 => ?_, by rw [← HW.out, drewN_drewN]⟩
          by_cases e : j = k
          · subst e; exact hp'
          · exact HL.out j (by omega) hj1
        case measure => simp [intOf]; omega
    · have hge : ¬ ((k : Int) + 1 < (n : Int)) := by omega
      go_wp2_with fail
      go_ret
      exact ⟨0, rfl, ⟨fun _ => ⟨by omega, fun j hj => HL.out j (by omega) hj⟩, fun _ => rfl⟩, q, rfl⟩
/-- the first task behind one, or the first of all -/
def aftOf (T : Nat → Int) (n : Nat) (last : Int) : Int := if 0 ≤ ixOf (fun k => decide (last < T k)) n then T (ixOf (fun k => decide (last < T k)) n).toNat else T 0
set_option maxHeartbeats 400000 in
theorem after_any (A : Option Addr) (n c : Nat) (T : Nat → Int) (last : Int) (w : World) (h0 : 0 < n) (hn : n ≤ 9223372036854775807) (hT : Rd w 1 (tmC T) A n) :
    Calls Try.prog 53 #[.slice A n c, .int .i64 last] w fun e w' => e = .returned (.int .i64 (aftOf T n last)) ∧ w = w' := by
  obtain ⟨b, off, rfl, hb, hcell⟩ := hT h0
  have HC := Lib.hid hcell
  clear hT hcell
  go_enter Try.func53, Try.ntmps53
  go_wp2_with fail
  go_loop [6, 9] (fun _ i => ∃ k : Nat, k ≤ n ∧ i = .int .i64 k ∧ (∀ j, j < k → decide (last < T j) = false)) (fun _ i => n - (intOf i).toNat)
  case atStart => exact ⟨0, Nat.zero_le _, rfl, fun j hj => by omega⟩
  case round =>
    obtain ⟨k, hk, rfl, hlow⟩ := hrel
    have HL := Lib.hid hlow
    clear hlow
    by_cases hlt : k < n
    · have c0 : w.cell? ⟨b, off + k, none⟩ = some (.int .i64 (T k)) := by simpa using HC.out k hlt 0 _ rfl
      by_cases hp : last < T k
      · have hp1 : decide (last < T k) = true := by simpa using hp
        have HE := Lib.hid (ixOf_found hlt (p := fun k => decide (last < T k)) hp1 HL.out)
        go_wp2_with fail
        go_ret
        refine ⟨ret_int ?_, rfl⟩
        unfold aftOf
        rw [HE.out, if_pos (by omega)]
        rfl
      · have hp1 : decide (last < T k) = false := by simpa using hp
        go_wp2_with fail
        go_round
        case rel =>
          refine ⟨k + 1, by omega, by go_num, fun j hj => ?_⟩
          by_cases e : j = k
          · rw [e]; exact hp1
          · exact HL.out j (by omega)
        case measure => simp [intOf]; omega
    · have c0 : w.cell? ⟨b, off, none⟩ = some (.int .i64 (T 0)) := by simpa using HC.out 0 h0 0 _ rfl
      have HE := Lib.hid (ixOf_none (p := fun k => decide (last < T k)) (n := n) (fun j hj => HL.out j (by omega)))
      go_wp2_with fail
      go_ret
      refine ⟨ret_int ?_, rfl⟩
      unfold aftOf
      rw [HE.out, if_neg (by omega)]
def NextPost (T : Nat → Int) (n : Nat) (last : Int) (w : World) (e : Ending) (w' : World) : Prop :=
  (OkR T n ∧ 0 < n ∧ e = .returned (.tuple #[.int .i64 (aftOf T n last), .int .i64 0]) ∨ ¬ (OkR T n ∧ 0 < n) ∧ ∃ x : Int, x ≠ 0 ∧ e = .returned (.tuple #[.int .i64 0, .int .i64 x])) ∧ ∃ q, w' = w.drewN q
set_option maxHeartbeats 400000 in
theorem next_any (A : Option Addr) (n c : Nat) (T : Nat → Int) (last : Int) (w : World) (hn : n ≤ c) (hc : c ≤ 9223372036854775807) (hT : Rd w 1 (tmC T) A n) :
    Calls Try.prog 34 #[.slice A n c, .int .i64 last] w (NextPost T n last w) := by
  have H := Lib.hid (checkR_any A n c T w hn hc hT)
  have HT := Lib.hid hT
  clear hT
  by_cases ok : OkR T n
  · have HK := Lib.hid ok
    clear ok
    by_cases h0 : 0 < n
    · have e0 : ((n : Int) == 0) = false := by simp; omega
      go_enter Try.func34, Try.ntmps34
      go_wp2_with fail
      refine H.out.mono ?_
      rintro e w1 ⟨x, rfl, hx, q, rfl⟩
      obtain rfl : x = 0 := hx.2 HK.out
      clear hx
      go_wp2_with fail
      refine (after_any A n c T last _ h0 (by omega) (by exact HT.out)).mono ?_
      rintro e w2 ⟨rfl, rfl⟩
      go_wp2_with fail
      go_ret2
      exact ⟨.inl ⟨HK.out, h0, rfl⟩, q, rfl⟩
    · have e0 : ((n : Int) == 0) = true := by simp; omega
      go_enter Try.func34, Try.ntmps34
      go_wp2_with fail
      refine H.out.mono ?_
      rintro e w1 ⟨x, rfl, hx, q, rfl⟩
      obtain rfl : x = 0 := hx.2 HK.out
      clear hx
      go_wp2_with fail
      go_ret2
      exact ⟨.inr ⟨fun h => h0 h.2, 4, by omega, rfl⟩, q, rfl⟩
  · have HK := Lib.hid ok
    clear ok
    go_enter Try.func34, Try.ntmps34
    go_wp2_with fail
    refine H.out.mono ?_
    rintro e w1 ⟨x, rfl, hx, q, rfl⟩
    have hx' : x ≠ 0 := fun h => HK.out (hx.1 h)
    have hx0 : (x != 0) = true := by simpa using hx'
    clear hx
    go_wp2_with fail
    go_ret2
    exact ⟨.inr ⟨fun h => HK.out h.1, x, hx', rfl⟩, q, rfl⟩
def T25 : Nat → Int := fun k => if k = 0 then 2 else 5
set_option maxRecDepth 100000 in
set_option maxHeartbeats 400000 in
theorem turns_any (w : World) : Calls Try.prog 26 #[] w fun e w' => e = .returned (.bool true) ∧ Below w.heap.size w w' := by
  have HO := Lib.hid (show OkR T25 2 from ⟨by omega, fun k hk => by obtain rfl : k = 0 := by omega
                                                                    decide⟩)
  go_enter Try.func26, Try.ntmps26
  go_wp2_with fail
  refine (next_any _ 2 2 T25 2 _ (by omega) (by omega) (fun _ => ⟨_, 0, rfl, by simp, fun k hk j u hu => ?_⟩)).mono ?_
  · match k, hk, j, hu with
    | 0, _, 0, hu => simp [tmC, T25] at hu; subst hu; simp [go_sem]
    | 1, _, 0, hu => simp [tmC, T25] at hu; subst hu; simp [go_sem]
  · rintro e w1 ⟨⟨_, _, rfl⟩ | ⟨hn, _⟩, q, rfl⟩
    · rw [show aftOf T25 2 2 = 5 from by decide]
      go_wp2_with fail
      go_ret
      exact ⟨rfl, below_drewN ((Below.refl _ _).alloc (Nat.le_refl _) _) _⟩
    · exact absurd ⟨HO.out, by omega⟩ hn
end Go.Proofs.Ytjcegplockihfaa
