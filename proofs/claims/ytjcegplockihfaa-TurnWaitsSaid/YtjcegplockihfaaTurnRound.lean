/- The contract of turn.Round with as many turns as there are tasks, and what it gives. -/
import Derived.Test.YtjcegplockihfaaTurnNext
import Derived.Test.YtjcegplockihfaaSorted
namespace Go.Proofs.Ytjcegplockihfaa
open Go.RowKit
set_option linter.unusedVariables false
/-- the task of the k-th turn -/
def lastAt (T : Nat → Int) (n : Nat) (last : Int) : Nat → Int
  | 0 => last
  | k + 1 => aftOf T n (lastAt T n last k)
def turnsL (T : Nat → Int) (n : Nat) (last : Int) (k : Nat) : List Int := fl (fun j => lastAt T n last (j + 1)) k
theorem turnsL_succ (T : Nat → Int) (n : Nat) (last : Int) (k : Nat) : turnsL T n last (k + 1) = turnsL T n last k ++ [lastAt T n last (k + 1)] := fl_succ _ _
theorem turnsL_len (T : Nat → Int) (n : Nat) (last : Int) (k : Nat) : (turnsL T n last k).length = k := fl_len _ _
theorem okR_lt {T : Nat → Int} {n : Nat} (h : ∀ k, k + 1 < n → T k < T (k + 1)) {i : Nat} : ∀ {j : Nat}, i < j → j < n → T i < T j := by
  intro j
  induction j with
  | zero => intro h; omega
  | succ j ih =>
    intro h1 h2
    have h3 := h j h2
    by_cases e : i = j
    · subst e; exact h3
    · have := ih (by omega) (by omega); omega
theorem aft_some {T : Nat → Int} {n : Nat} (h0 : 0 < n) (last : Int) : ∃ s, s < n ∧ aftOf T n last = T s := by
  unfold aftOf
  rcases ixOf_cases (fun k => decide (last < T k)) n with ⟨e, _⟩ | ⟨k, e, hk, _, _⟩
  · rw [e, if_neg (by omega)]
    exact ⟨0, h0, rfl⟩
  · rw [e, if_pos (by omega)]
    exact ⟨k, hk, by simp⟩
theorem aft_next {T : Nat → Int} {n i : Nat} (h : ∀ k, k + 1 < n → T k < T (k + 1)) (hi : i < n) : aftOf T n (T i) = T (if i + 1 < n then i + 1 else 0) := by
  unfold aftOf
  by_cases e : i + 1 < n
  · have hf : ixOf (fun k => decide (T i < T k)) n = ((i + 1 : Nat) : Int) := ixOf_found e (by simpa using h i e) (fun j hj => by
      simp
      by_cases e2 : j = i
      · subst e2; exact Int.le_refl _
      · have := okR_lt h (show j < i by omega) hi; omega)
    rw [hf, if_pos (by omega), if_pos e]
    simp
  · have hf : ixOf (fun k => decide (T i < T k)) n = -1 := ixOf_none (fun j hj => by
      simp
      by_cases e2 : j = i
      · subst e2; exact Int.le_refl _
      · have := okR_lt h (show j < i by omega) hi; omega)
    rw [hf, if_neg (by omega), if_neg e]
theorem turns_rot {T : Nat → Int} {n : Nat} (h0 : 0 < n) (h : ∀ k, k + 1 < n → T k < T (k + 1)) (last : Int) : ∃ s, s < n ∧ ∀ j, j < n → lastAt T n last (j + 1) = T (if s + j < n then s + j else s + j - n) := by
  obtain ⟨s, hs, e⟩ := aft_some (T := T) h0 last
  refine ⟨s, hs, fun j => ?_⟩
  induction j with
  | zero => intro _; rw [lastAt, lastAt, e, Nat.add_zero, if_pos hs]
  | succ j ih =>
    intro hj
    rw [lastAt, ih (by omega), aft_next h (by split <;> omega)]
    congr 1
    by_cases h1 : s + j < n
    · rw [if_pos h1]
      by_cases h2 : s + j + 1 < n
      · rw [if_pos h2, if_pos (by omega)]; omega
      · rw [if_neg h2, if_neg (by omega)]; omega
    · rw [if_neg h1, if_neg (show ¬ s + (j + 1) < n by omega), if_pos (by omega)]; omega
theorem turns_perm {T : Nat → Int} {n : Nat} (h0 : 0 < n) (h : ∀ k, k + 1 < n → T k < T (k + 1)) (last : Int) : (turnsL T n last n).Perm (fl T n) := by
  obtain ⟨s, hs, hr⟩ := turns_rot h0 h last
  have e : turnsL T n last n = (fl T n).drop s ++ (fl T n).take s := by
    apply List.ext_getElem?
    intro j
    by_cases hj : j < n
    · rw [turnsL, fl_get _ hj, hr j hj]
      by_cases h1 : s + j < n
      · rw [if_pos h1, List.getElem?_append_left (by rw [List.length_drop, fl_len]; omega), List.getElem?_drop, fl_get _ h1]
      · rw [if_neg h1, List.getElem?_append_right (by rw [List.length_drop, fl_len]; omega), List.length_drop, fl_len, List.getElem?_take_of_lt (by omega), fl_get _ (by omega)]
        congr 2
        omega
    · rw [List.getElem?_eq_none (by rw [turnsL_len]; omega), List.getElem?_eq_none (by rw [List.length_append, List.length_drop, List.length_take, fl_len]; omega)]
  rw [e]
  exact List.perm_append_comm.trans (by rw [List.take_append_drop])
theorem fl_pairwise {T : Nat → Int} : ∀ {n : Nat}, (∀ k, k + 1 < n → T k < T (k + 1)) → (fl T n).Pairwise (· < ·) := by
  intro n h
  rw [List.pairwise_iff_getElem]
  intro i j hi hj hij
  rw [fl_len] at hi hj
  simp only [fl, List.getElem_map, List.getElem_range]
  exact okR_lt h hij hj
theorem srt_sorted {l : List Int} (h : l.Pairwise (· ≤ ·)) : srt l = l :=
  List.Perm.eq_of_pairwise (le := fun a b : Int => a ≤ b) (fun a b _ _ h1 h2 => by omega) (srt_pairwise l) h (srt_perm l)
theorem turns_srt {T : Nat → Int} {n : Nat} (h : ∀ k, k + 1 < n → T k < T (k + 1)) (last : Int) : srt (turnsL T n last n) = fl T n := by
  by_cases h0 : 0 < n
  · rw [srt_eq (turns_perm h0 h last)]
    exact srt_sorted ((fl_pairwise h).imp (by intro a b h; omega))
  · obtain rfl : n = 0 := by omega
    exact srt_sorted List.Pairwise.nil
def lenV : Value → Nat
  | .slice _ n _ => n
  | _ => 0
def RoundErr (w : World) (e : Ending) (w' : World) : Prop := ∃ x : Int, x ≠ 0 ∧ e = .returned (.tuple #[.slice none 0 0, .int .i64 x]) ∧ Below w.heap.size w w'
def RoundPost (T : Nat → Int) (n : Nat) (last : Int) (w : World) (e : Ending) (w' : World) : Prop := ∃ v, e = .returned (.tuple #[v, .int .i64 0]) ∧ OwnI w' w.heap.size v (turnsL T n last n) ∧ Below w.heap.size w w'
theorem below_drewN0 (w : World) (q : Nat) : Below w.heap.size w (w.drewN q) := below_drewN (Below.refl _ _) _
set_option maxRecDepth 100000 in
set_option maxHeartbeats 1000000 in
theorem round_bad (A : Option Addr) (n c : Nat) (T : Nat → Int) (last m : Int) (w : World) (hn : n ≤ c) (hc : c ≤ 9223372036854775807) (hT : Rd w 1 (tmC T) A n) (ok : ¬ OkR T n) :
    Calls Try.prog 29 #[.slice A n c, .int .i64 last, .int .i64 m] w (RoundErr w) := by
  have H := Lib.hid (checkR_any A n c T w hn hc hT)
  have HK := Lib.hid ok
  clear hT ok
  go_enter Try.func29, Try.ntmps29
  go_wp2_with fail
  refine H.out.mono ?_
  rintro e w1 ⟨x, rfl, hx, q, rfl⟩
  have hx' : x ≠ 0 := fun h => HK.out (hx.1 h)
  have hx0 : (x != 0) = true := by simpa using hx'
  clear hx
  go_wp2_with fail
  go_ret2
  exact ⟨x, hx', rfl, below_drewN0 _ _⟩
set_option maxRecDepth 100000 in
set_option maxHeartbeats 2000000 in
theorem round_ok (A : Option Addr) (n c : Nat) (T : Nat → Int) (last : Int) (w : World) (hn : n ≤ c) (hc : c ≤ 9223372036854775807) (hT : Rd w 1 (tmC T) A n) (ok : OkR T n) :
    Calls Try.prog 29 #[.slice A n c, .int .i64 last, .int .i64 n] w (RoundPost T n last w) := by
  have H := Lib.hid (checkR_any A n c T w hn hc hT)
  have HT := Lib.hid hT
  have HK := Lib.hid ok
  have h100 := ok.1
  have e0 : decide ((n : Int) < 0) = false := by simp
  have e1 : decide ((10000 : Int) < (n : Int)) = false := by simp; omega
  clear hT ok
  by_cases h0 : 0 < n
  · have e2 : decide ((0 : Int) < (n : Int)) = true := by simp; omega
    go_enter Try.func29, Try.ntmps29
    go_wp2_with fail
    refine H.out.mono ?_
    rintro e w1 ⟨x, rfl, hx, q, rfl⟩
    obtain rfl : x = 0 := hx.2 HK.out
    have HB1 := Lib.hid (below_drewN0 w q)
    clear hx
    generalize w.drewN q = w1 at *
    go_wp2_with fail
    go_loopw [1, 9] (fun x o wr => ∃ (k : Nat) (v : Value), k ≤ n ∧ x = .int .i64 (lastAt T n last k) ∧ v = o ∧ OwnI wr w.heap.size v (turnsL T n last k) ∧ Below w.heap.size w wr) (fun _ o _ => n - lenV o)
    case atStart => exact ⟨0, _, Nat.zero_le _, rfl, rfl, OwnI.nil _ _, HB1.out⟩
    case round =>
      obtain ⟨k, v, hk, rfl, rfl, hO, hB⟩ := hrel
      have HB := Lib.hid hB
      have hBs := hB.size
      have htl := turnsL_len T n last k
      obtain ⟨Aa, ca, hva, hnca, hcma, hna⟩ := own_any hO
      rw [htl] at hva hnca hna
      subst hva
      have HO := Lib.hid hO
      have HTL := Lib.hid htl
      clear htl hna hO hB
      by_cases hlt : k < n
      · have e3 : decide ((k : Int) < (n : Int)) = true := by simp; omega
        have HTS := Lib.hid (turnsL_succ T n last k)
        have HLA := Lib.hid (show lastAt T n last (k + 1) = aftOf T n (lastAt T n last k) from rfl)
        go_wp2_with fail
        refine (after_any A n c T _ _ h0 (by omega) (HT.out.below HB.out)).mono ?_
        rintro e w2 ⟨rfl, rfl⟩
        rw [← HLA.out]
        go_wp2_with (at_builtin; go_loud (refine wpList_append_int (w := wr) rfl _ _ rfl w.heap.size (.slice Aa k ca) (turnsL T n last k) rfl HO.out wr.heap.size rfl (lastAt T n last (k + 1)) rfl (by rw [HTL.out]; omega) hBs ?_; intro v2 w2 hown2 hgrow2 _; have HO2 := Lib.hid hown2; have HG2 := Lib.hid hgrow2; clear hown2 hgrow2))
        obtain ⟨A2, c2, rfl, _, _, _⟩ := own_any HO2.out
        refine ⟨⟨k + 1, _, by omega, rfl, rfl, by rw [HTS.out]; exact HO2.out, ?_⟩, ?_⟩
        · exact below_grown HB.out hBs HG2.out (fun j hj => (HO.out.blk j hj).1)
        · simp [lenV, HTL.out]; omega
      · obtain rfl : k = n := by omega
        have e3 : decide ((k : Int) < (k : Int)) = false := by simp
        go_wp2_with fail
        go_ret2
        exact ⟨_, rfl, HO.out, HB.out⟩
  · obtain rfl : n = 0 := by omega
    go_enter Try.func29, Try.ntmps29
    go_wp2_with fail
    refine H.out.mono ?_
    rintro e w1 ⟨x, rfl, hx, q, rfl⟩
    obtain rfl : x = 0 := hx.2 HK.out
    clear hx
    have HB1 := Lib.hid (below_drewN0 w q)
    generalize w.drewN q = w1 at *
    go_wp2_with fail
    go_loopw [1, 9] (fun x o wr => x = .int .i64 last ∧ o = .slice none 0 0 ∧ Below w.heap.size w wr) (fun _ _ _ => 0)
    case atStart => exact ⟨rfl, rfl, HB1.out⟩
    case round =>
      obtain ⟨rfl, rfl, hB⟩ := hrel
      go_wp2_with fail
      go_ret2
      exact ⟨_, rfl, OwnI.nil _ _, hB⟩
end Go.Proofs.Ytjcegplockihfaa
