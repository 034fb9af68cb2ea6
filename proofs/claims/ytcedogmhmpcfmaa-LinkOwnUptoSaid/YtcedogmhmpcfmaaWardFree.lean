/- ward.Down and ward.Begin, whatever is asked: the children and the times are new. -/
import Derived.Test.YtcedogmhmpcfmaaWardBegO
import Derived.Test.YtcedogmhmpcfmaaOwnGeRow
namespace Go.Proofs.Ytcedogmhmpcfmaa.Wa
open Go.RowKit
set_option linter.unusedVariables false
theorem child_col {w : World} {base b0 n : Nat} {v : Value} {R : Nat → Ch} (h : w.ownsRow base 43 3 v n (flatC (chC R) n)) (hb : b0 ≤ base) : ColF w b0 3 0 v :=
  ColF.of h (chC_len _) (by omega) (fun k _ => ⟨(R k).id, rfl⟩) hb
theorem times_ints {w : World} {base b0 n : Nat} {v : Value} {T : Nat → Int} (h : w.ownsRow base 3 1 v n (flatC (tmC T) n)) (hb : b0 ≤ base) : IntsF w b0 v := by
  obtain ⟨A, n', c, e, hn, hc⟩ := ColF.of h (fun k => rfl) (j := 0) (by omega) (fun k _ => ⟨T k, rfl⟩) hb
  refine ⟨A, n', c, e, hn, fun h0 => ?_⟩
  obtain ⟨b, off, hA, hbb, hi⟩ := hc h0
  refine ⟨b, off, hA, hbb, fun j hj => ?_⟩
  have := hi j hj
  rw [Nat.mul_one, Nat.add_zero] at this
  exact this
def WardF (w w' : World) (u : Value) : Prop := ∃ (a b c : Int) (v t : Value), u = .agg #[.int .i64 a, .int .i64 b, .int .i64 c, v, t] ∧ ColF w' w.heap.size 3 0 v ∧ IntsF w' w.heap.size t
theorem down_free (W : Wd) (A B : Option Addr) (c d : Nat) (id : Int) (failed : Bool) (now : Int) (w : World) (ha : ArgOk W A B c d w) :
    Calls Try.prog 26 #[.agg #[.int .i64 W.how, .int .i64 W.most, .int .i64 W.window, .slice A W.n c, .slice B W.m d], .int .i64 id, .bool failed, .int .i64 now] w fun e w' => ∃ u Ap np dp Aq nq dq p3 x, e = .returned (.tuple #[u, .agg #[.slice Ap np dp, .slice Aq nq dq, .bool p3], .int .i64 x]) ∧ WardF w w' u ∧ Below w.heap.size w w' := by
  refine (down_any W A B c d id failed now w ha).mono ?_
  rintro e w' (⟨⟨x, hx, rfl, hb⟩, -⟩ | ⟨i, -, R', T', st, sp, gv, -, A1, c1, B1, d1, vs, vt, rfl, h1, h2, h3, h4, hb⟩)
  · exact ⟨_, _, _, _, _, _, _, _, x, rfl, ⟨0, 0, 0, _, _, rfl, ColF.nil _ _ _ _ _, IntsF.nil _ _ _⟩, hb⟩
  · obtain ⟨Ap, dp, rfl, -, -, -⟩ := own_any h3
    obtain ⟨Aq, dq, rfl, -, -, -⟩ := own_any h4
    exact ⟨_, _, _, _, _, _, _, _, 0, rfl, ⟨_, _, _, _, _, rfl, child_col h1 (Nat.le_refl _), OwnI.ints h2 (Nat.le_refl _)⟩, hb⟩
set_option maxHeartbeats 2000000 in
theorem begin_bad (W : Wd) (A B : Option Addr) (c d : Nat) (w : World) (ha : ArgOk W A B c d w) (ok : ¬ OkW W) :
    Calls Try.prog 27 #[.agg #[.int .i64 W.how, .int .i64 W.most, .int .i64 W.window, .slice A W.n c, .slice B W.m d]] w fun e w' => ∃ x : Int, e = .returned (.tuple #[.agg #[.int .i64 0, .int .i64 0, .int .i64 0, .slice none 0 0, .slice none 0 0], .slice none 0 0, .int .i64 x]) ∧ Below w.heap.size w w' := by
  have HK := Lib.hid ok
  have HA := Lib.hid ha
  have HF0 := Lib.hid (Fr2.start w (.int .i64 W.how) (.int .i64 W.most) (.int .i64 W.window) (.slice A W.n c) (.slice B W.m d))
  clear ha ok
  go_enter Try.func27, Try.ntmps27
  go_wp2_with fail
  have ha := HA.out.below HF0.out.hB
  refine (check_any W A B c d _ ha.hn ha.hc ha.hm ha.hd ha.hR ha.hT).mono ?_
  rintro e w3 ⟨x, rfl, hx, hb⟩
  have hx0 : x ≠ 0 := fun e => HK.out (hx.1 e)
  have hF := HF0.out.below hb
  have HF3 := Lib.hid hF
  clear ha hb hx
  obtain ⟨a0, a1, a2, a3, a4, r0, r1, r2, r3, r4, fa, fr, hz, hB⟩ := hF
  have hx1 : (x != 0) = true := by simpa using hx0
  have hx2 : (x == 0) = false := by simpa using hx0
  go_wp2_with fail
  refine bodyPost_ret (v := .tuple #[.agg #[.int .i64 0, .int .i64 0, .int .i64 0, .slice none 0 0, .slice none 0 0], .slice none 0 0, .int .i64 x]) (by simp [results, Try.results27, go_sem, r0, r1, r2, r3, r4]) rfl ?_
  exact ⟨x, rfl, below_set (below_set (below_set (below_set (below_set (HF3.out.hB) (by omega)) (by omega)) (by omega)) (by omega)) (by omega)⟩
theorem begin_free (W : Wd) (A B : Option Addr) (c d : Nat) (w : World) (ha : ArgOk W A B c d w) :
    Calls Try.prog 27 #[.agg #[.int .i64 W.how, .int .i64 W.most, .int .i64 W.window, .slice A W.n c, .slice B W.m d]] w fun e w' => ∃ u p x, e = .returned (.tuple #[u, p, .int .i64 x]) ∧ WardF w w' u ∧ Below w.heap.size w w' := by
  by_cases ok : OkW W
  · refine (begin_ok W A B c d w ha ok).mono ?_
    rintro e w' ⟨A1, c1, B1, d1, C, f, rfl, h1, h2, -, hb⟩
    exact ⟨_, _, _, rfl, ⟨_, _, _, _, _, rfl, child_col h1 (Nat.le_refl _), times_ints h2 (Nat.le_refl _)⟩, hb⟩
  · refine (begin_bad W A B c d w ha ok).mono ?_
    rintro e w' ⟨x, rfl, hb⟩
    exact ⟨_, _, x, rfl, ⟨0, 0, 0, _, _, rfl, ColF.nil _ _ _ _ _, IntsF.nil _ _ _⟩, hb⟩
end Go.Proofs.Ytcedogmhmpcfmaa.Wa
