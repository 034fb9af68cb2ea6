/- The walk of the law LimitSum. -/
import Derived.Test.YtjcegplockihfaaLimitLaw
namespace Go.Proofs.Ytjcegplockihfaa
open Go.RowKit Go.ChangeShapes Go.WideShapes
set_option linter.unusedVariables false
theorem eq_arr2 (a b c d : Int) (w : World) : (Op.equalIn 10000 35 (.agg #[.int .i64 a, .int .i64 b]) (.agg #[.int .i64 c, .int .i64 d])).run Try.prog w = .ok (a == c && b == d) w := by
  rw [show (10000 : Nat) = 9999 + 1 from rfl, Op.equalIn]
  simp only [Sem.run_bind, run_underlying Try.underlying35, Result.andThen_ok]
  simp only [Std.Legacy.Range.forIn_eq_forIn_range', Std.Legacy.Range.size, Nat.sub_zero, Nat.add_sub_cancel, Nat.div_one, List.range'_succ, List.range'_zero, List.forIn_cons, List.forIn_nil]
  go_simp
  by_cases h1 : a = c <;> by_cases h2 : b = d <;> simp [h1, h2]
theorem eq_arr2_same (a b : Int) (w : World) : (Op.equalIn 10000 35 (.agg #[.int .i64 a, .int .i64 b]) (.agg #[.int .i64 a, .int .i64 b])).run Try.prog w = .ok true w := by rw [eq_arr2]; simp
def Same2 (R : Nat → LRow) (n : Nat) (A1 : Option Addr) (n1 : Nat) (w1 : World) : Prop := OkL R n ∧ ∃ R1, Rd w1 5 (rowC R1) A1 n1 ∧ OkL R1 n1 ∧ sumF (mL R1) n1 = sumF (mL R) n ∧ sumF (mC R1) n1 = sumF (mC R) n
def RowsAny (R : Nat → LRow) (n : Nat) (w : World) (e : Ending) (w1 : World) : Prop :=
  ∃ A1 n1 c1, ∃ x : Int, e = .returned (.tuple #[.slice A1 n1 c1, .int .i64 x]) ∧ Below w.heap.size w w1 ∧ n1 ≤ c1 ∧ c1 ≤ 9223372036854775807 ∧ (x = 0 → Same2 R n A1 n1 w1)
theorem any_err {R : Nat → LRow} {n : Nat} {w w1 : World} {e : Ending} (h : RowsErr w e w1) : RowsAny R n w e w1 := by
  obtain ⟨x, rfl, hx, hb⟩ := h
  exact ⟨none, 0, 0, x, rfl, hb, by omega, by omega, fun h => absurd h hx⟩
theorem any_ok {R R1 : Nat → LRow} {n n1 : Nat} {w w1 : World} {e : Ending} (ok : OkL R n) (h : RowsPost n1 R1 w e w1) (ok1 : OkL R1 n1) (hl : sumF (mL R1) n1 = sumF (mL R) n) (hc : sumF (mC R1) n1 = sumF (mC R) n) : RowsAny R n w e w1 := by
  obtain ⟨v, rfl, hown, hb⟩ := h
  obtain ⟨A1, c1, rfl, h1, h2, _⟩ := own_any hown
  exact ⟨A1, n1, c1, 0, rfl, hb, h1, h2, fun _ => ⟨ok, R1, Rd.of_own (rowC_len _) hown, ok1, hl, hc⟩⟩
theorem fork_rows (A : Option Addr) (n c : Nat) (R : Nat → LRow) (ref to l d : Int) (w : World) (hn : n ≤ c) (hc : c ≤ 9223372036854775807) (hR : Rd w 5 (rowC R) A n) :
    Calls Try.prog 20 #[.slice A n c, .int .i64 ref, .int .i64 to, .int .i64 l, .int .i64 d] w (RowsAny R n w) := by
  refine (fork_any A n c R ref to l d w hn hc hR).mono ?_
  rintro e w1 (h | ⟨k, p, hok, h⟩)
  · exact any_err h
  · obtain ⟨g1, g2, g3⟩ := fork_good hok
    exact any_ok hok.1 h g1 g2 g3
theorem join_rows (A : Option Addr) (n c : Nat) (R : Nat → LRow) (ref to : Int) (w : World) (hn : n ≤ c) (hc : c ≤ 9223372036854775807) (hR : Rd w 5 (rowC R) A n) :
    Calls Try.prog 21 #[.slice A n c, .int .i64 ref, .int .i64 to] w (RowsAny R n w) := by
  refine (join_any A n c R ref to w hn hc hR).mono ?_
  rintro e w1 (⟨h, _⟩ | ⟨i, k, hok, h⟩)
  · exact any_err h
  · obtain ⟨g1, g2, g3⟩ := join_good hok
    exact any_ok hok.1 h g1 g2 g3
set_option maxRecDepth 100000 in
set_option maxHeartbeats 4000000 in
theorem limitSum_go (A : Option Addr) (n c : Nat) (R : Nat → LRow) (ref to l d : Int) (w : World) (hn : n ≤ c) (hc : c ≤ 9223372036854775807) (hR : Rd w 5 (rowC R) A n) :
    Calls Try.prog 4 #[.slice A n c, .int .i64 ref, .int .i64 to, .int .i64 l, .int .i64 d] w fun e w' => e = .returned (.bool true) ∧ Below w.heap.size w w' := by
  have HR := Lib.hid hR
  clear hR
  have hq2 := eq_arr2_same (sumF (mL R) n) (sumF (mC R) n)
  go_enter Try.func4, Try.ntmps4
  go_wp2_with fail
  refine (fork_rows A n c R ref to l d _ hn hc HR.out).mono ?_
  rintro e w1 ⟨A1, n1, c1, x, rfl, hb1, a1, a2, hx⟩
  have HB1 := Lib.hid hb1
  have HX := Lib.hid hx
  clear hb1 hx
  go_wp2_with fail
  refine (join_rows A n c R ref to _ hn hc (HR.out.below HB1.out)).mono ?_
  rintro e w2 ⟨A2, n2, c2, y, rfl, hb2, a3, a4, hy⟩
  have HB2 := Lib.hid (HB1.out.trans (hb2.mono HB1.out.size))
  have HB12 := Lib.hid hb2
  have HY := Lib.hid hy
  clear hb2 hy
  go_wp2_with fail
  refine (limits_any _).mono ?_
  rintro e w3 ⟨rfl, hb3⟩
  have HB3 := Lib.hid (HB2.out.trans (hb3.mono HB2.out.size))
  have HB13 := Lib.hid (HB12.out.trans (hb3.mono HB12.out.size))
  have HB23 := Lib.hid hb3
  clear hb3
  have PART2 : ∀ w4 : World, Below w.heap.size w w4 → Below w2.heap.size w2 w4 → y = 0 → (Rd w4 5 (rowC R) A n ∧ OkL R n ∧ ∃ R2, Rd w4 5 (rowC R2) A2 n2 ∧ OkL R2 n2 ∧ sumF (mL R2) n2 = sumF (mL R) n ∧ sumF (mC R2) n2 = sumF (mC R) n) := fun w4 h1 h2 h0 => by
    obtain ⟨ok, R2, r2, ok2, s1, s2⟩ := HY.out h0
    exact ⟨HR.out.below h1, ok, R2, r2.below h2, ok2, s1, s2⟩
  have P2 := Lib.hid PART2
  clear PART2
  by_cases hx : x = 0
  · obtain ⟨ok, R1, r1, ok1, s1, s2⟩ := HX.out hx
    have hx1 : (x != 0) = false := by simp [hx]
    have HR1 := Lib.hid r1
    have HOK := Lib.hid ok
    have HOK1 := Lib.hid ok1
    have S1 := Lib.hid s1
    have S2 := Lib.hid s2
    clear hx r1 ok ok1 s1 s2
    go_wp2_with fail
    refine (allows_any A1 n1 c1 R1 _ a1 a2 (by exact HR1.out.below HB13.out) HOK1.out).mono ?_
    rintro e w4 ⟨rfl, hb4⟩
    rw [S1.out, S2.out]
    have HB4 := Lib.hid (HB3.out.trans (hb4.mono HB3.out.size))
    have HB14 := Lib.hid (HB13.out.trans (hb4.mono HB13.out.size))
    have HB24 := Lib.hid (HB23.out.trans (hb4.mono HB23.out.size))
    clear hb4
    go_wp2_with fail
    refine (allows_any A n c R _ hn hc (by exact HR.out.below HB4.out) HOK.out).mono ?_
    rintro e w5 ⟨rfl, hb5⟩
    have HB5 := Lib.hid (HB4.out.trans (hb5.mono HB4.out.size))
    have HB15 := Lib.hid (HB14.out.trans (hb5.mono HB14.out.size))
    have HB25 := Lib.hid (HB24.out.trans (hb5.mono HB24.out.size))
    clear hb5
    go_wp2_with fail
    refine (check_ok A1 n1 c1 R1 _ a1 a2 (by exact HR1.out.below HB15.out) HOK1.out).mono ?_
    rintro e w6 ⟨rfl, hb6⟩
    have HB6 := Lib.hid (HB5.out.trans (hb6.mono HB5.out.size))
    have HB26 := Lib.hid (HB25.out.trans (hb6.mono HB25.out.size))
    clear hb6
    by_cases hy : y = 0
    · obtain ⟨r0, ok, R2, r2, ok2, s1, s2⟩ := P2.out _ HB6.out HB26.out hy
      have hy1 : (y != 0) = false := by simp [hy]
      clear hy
      have HR2 := Lib.hid r2
      have HOKA := Lib.hid ok
      have HOK2 := Lib.hid ok2
      have S3 := Lib.hid s1
      have S4 := Lib.hid s2
      clear r0 r2 ok ok2 s1 s2
      go_wp2_with fail
      refine (allows_any A2 n2 c2 R2 _ a3 a4 (by exact HR2.out) HOK2.out).mono ?_
      rintro e w7 ⟨rfl, hb7⟩
      rw [S3.out, S4.out]
      have HB7 := Lib.hid (HB6.out.trans (hb7.mono HB6.out.size))
      have HR7 := Lib.hid (HR2.out.below hb7)
      clear hb7
      go_wp2_with fail
      refine (allows_any A n c R _ hn hc (by exact HR.out.below HB7.out) HOKA.out).mono ?_
      rintro e w8 ⟨rfl, hb8⟩
      have HB8 := Lib.hid (HB7.out.trans (hb8.mono HB7.out.size))
      have HR8 := Lib.hid (HR7.out.below hb8)
      clear hb8
      go_wp2_with fail
      refine (check_ok A2 n2 c2 R2 _ a3 a4 (by exact HR8.out) HOK2.out).mono ?_
      rintro e w9 ⟨rfl, hb9⟩
      have HB9 := Lib.hid (HB8.out.trans (hb9.mono HB8.out.size))
      clear hb9
      go_wp2_with fail
      go_ret
      exact ⟨rfl, HB9.out⟩
    · have hy1 : (y != 0) = true := by simpa using hy
      clear hy
      go_wp2_with fail
      go_ret
      exact ⟨rfl, HB6.out⟩
  · have hx1 : (x != 0) = true := by simpa using hx
    clear hx
    by_cases hy : y = 0
    · obtain ⟨r0, ok, R2, r2, ok2, s1, s2⟩ := P2.out _ HB3.out HB23.out hy
      have hy1 : (y != 0) = false := by simp [hy]
      clear hy
      have HR2 := Lib.hid r2
      have HOKA := Lib.hid ok
      have HOK2 := Lib.hid ok2
      have S3 := Lib.hid s1
      have S4 := Lib.hid s2
      clear r0 r2 ok ok2 s1 s2
      go_wp2_with fail
      refine (allows_any A2 n2 c2 R2 _ a3 a4 (by exact HR2.out) HOK2.out).mono ?_
      rintro e w7 ⟨rfl, hb7⟩
      rw [S3.out, S4.out]
      have HB7 := Lib.hid (HB3.out.trans (hb7.mono HB3.out.size))
      have HR7 := Lib.hid (HR2.out.below hb7)
      clear hb7
      go_wp2_with fail
      refine (allows_any A n c R _ hn hc (by exact HR.out.below HB7.out) HOKA.out).mono ?_
      rintro e w8 ⟨rfl, hb8⟩
      have HB8 := Lib.hid (HB7.out.trans (hb8.mono HB7.out.size))
      have HR8 := Lib.hid (HR7.out.below hb8)
      clear hb8
      go_wp2_with fail
      refine (check_ok A2 n2 c2 R2 _ a3 a4 (by exact HR8.out) HOK2.out).mono ?_
      rintro e w9 ⟨rfl, hb9⟩
      have HB9 := Lib.hid (HB8.out.trans (hb9.mono HB8.out.size))
      clear hb9
      go_wp2_with fail
      go_ret
      exact ⟨rfl, HB9.out⟩
    · have hy1 : (y != 0) = true := by simpa using hy
      clear hy
      go_wp2_with fail
      go_ret
      exact ⟨rfl, HB3.out⟩
set_option maxRecDepth 100000 in
theorem limitSum_walk {H : Type} {enc : TypeId × Value → H} (W : World) (base : Nat) (v0 v1 v2 v3 v4 : Value) {d0 d1 d2 d3 d4 : DataW H} {p0 p1 p2 p3 p4 : List MemPlace}
    (k0 : Value.okWide Try.prog W .any base 22 v0) (k1 : Value.okWide Try.prog W .any base 3 v1) (k2 : Value.okWide Try.prog W .any base 3 v2) (k3 : Value.okWide Try.prog W .any base 3 v3) (k4 : Value.okWide Try.prog W .any base 3 v4)
    (h0 : DataW.Trod enc Try.prog W 0 (fun _ => true) true 22 v0 d0 p0) (h1 : DataW.Trod enc Try.prog W 0 (fun _ => true) true 3 v1 d1 p1)
    (h2 : DataW.Trod enc Try.prog W 0 (fun _ => true) true 3 v2 d2 p2) (h3 : DataW.Trod enc Try.prog W 0 (fun _ => true) true 3 v3 d3 p3) (h4 : DataW.Trod enc Try.prog W 0 (fun _ => true) true 3 v4 d4 p4) :
    Calls Try.prog 4 #[v0, v1, v2, v3, v4] W fun e W' => e = .returned (.bool true) ∧ Below W.heap.size W W' := by
  obtain ⟨A, n, c, R, rfl, hnc, hcm, hA, hR⟩ := open_lrows k0 h0
  obtain ⟨a1, rfl, _, _, _⟩ := open_int Try.underlying3 k1 h1
  obtain ⟨a2, rfl, _, _, _⟩ := open_int Try.underlying3 k2 h2
  obtain ⟨a3, rfl, _, _, _⟩ := open_int Try.underlying3 k3 h3
  obtain ⟨a4, rfl, _, _, _⟩ := open_int Try.underlying3 k4 h4
  exact limitSum_go A n c R a1 a2 a3 a4 W hnc hcm hR
end Go.Proofs.Ytjcegplockihfaa
