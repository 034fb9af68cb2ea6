/- The walk of the law LimitNever. -/
import Derived.Test.YtjcegplockihfaaLimitLaw
import Derived.OpenShut
namespace Go.Proofs.Ytjcegplockihfaa
open Go.RowKit Go.ChangeShapes Go.WideShapes
set_option linter.unusedVariables false
def StepAny (w : World) (e : Ending) (w1 : World) : Prop :=
  ∃ A1 n1 c1, ∃ x : Int, e = .returned (.tuple #[.slice A1 n1 c1, .int .i64 x]) ∧ Below w.heap.size w w1 ∧ n1 ≤ c1 ∧ c1 ≤ 9223372036854775807 ∧ (x = 0 → ∃ R1, Rd w1 5 (rowC R1) A1 n1 ∧ OkL R1 n1)
theorem step_err {w w1 : World} {e : Ending} (h : RowsErr w e w1) : StepAny w e w1 := by
  obtain ⟨x, rfl, hx, hb⟩ := h
  exact ⟨none, 0, 0, x, rfl, hb, by omega, by omega, fun h => absurd h hx⟩
theorem step_ok {R1 : Nat → LRow} {n1 : Nat} {w w1 : World} {e : Ending} (h : RowsPost n1 R1 w e w1) (ok1 : OkL R1 n1) : StepAny w e w1 := by
  obtain ⟨v, rfl, hown, hb⟩ := h
  obtain ⟨A1, c1, rfl, h1, h2, _⟩ := own_any hown
  exact ⟨A1, n1, c1, 0, rfl, hb, h1, h2, fun _ => ⟨R1, Rd.of_own (rowC_len _) hown, ok1⟩⟩
theorem take_step (A : Option Addr) (n c : Nat) (R : Nat → LRow) (ref l d : Int) (w : World) (hn : n ≤ c) (hc : c ≤ 9223372036854775807) (hR : Rd w 5 (rowC R) A n) :
    Calls Try.prog 15 #[.slice A n c, .int .i64 ref, .int .i64 l, .int .i64 d] w (StepAny w) := by
  refine (take_any A n c R ref l d w hn hc hR).mono ?_
  rintro e w1 (⟨h, _⟩ | ⟨k, ok, hk, _, ⟨t1, t2, t3, t4⟩, h⟩)
  · exact step_err h
  · obtain ⟨g1, g2, g3, g4, g5, g6⟩ := (ok.2 k hk).1
    exact step_ok h (okL_upd ok (taken (R k) l d) rfl ⟨by simp only [taken]; omega, t3, g3, by simp only [taken]; omega, t4, g6⟩)
theorem give_step (A : Option Addr) (n c : Nat) (R : Nat → LRow) (ref l d : Int) (w : World) (hn : n ≤ c) (hc : c ≤ 9223372036854775807) (hR : Rd w 5 (rowC R) A n) :
    Calls Try.prog 23 #[.slice A n c, .int .i64 ref, .int .i64 l, .int .i64 d] w (StepAny w) := by
  refine (give_any A n c R ref l d w hn hc hR).mono ?_
  rintro e w1 (⟨h, _⟩ | ⟨k, ⟨ok, hk, _, t1, t2, t3, t4⟩, h⟩)
  · exact step_err h
  · obtain ⟨g1, g2, g3, g4, g5, g6⟩ := (ok.2 k hk).1
    exact step_ok h (okL_upd ok (given (R k) l d) rfl ⟨by simp only [given]; omega, by simp only [given]; omega, g3, by simp only [given]; omega, by simp only [given]; omega, g6⟩)
theorem fork_step (A : Option Addr) (n c : Nat) (R : Nat → LRow) (ref to l d : Int) (w : World) (hn : n ≤ c) (hc : c ≤ 9223372036854775807) (hR : Rd w 5 (rowC R) A n) :
    Calls Try.prog 20 #[.slice A n c, .int .i64 ref, .int .i64 to, .int .i64 l, .int .i64 d] w (StepAny w) := by
  refine (fork_any A n c R ref to l d w hn hc hR).mono ?_
  rintro e w1 (h | ⟨k, p, hok, h⟩)
  · exact step_err h
  · exact step_ok h (fork_good hok).1
theorem join_step (A : Option Addr) (n c : Nat) (R : Nat → LRow) (ref to : Int) (w : World) (hn : n ≤ c) (hc : c ≤ 9223372036854775807) (hR : Rd w 5 (rowC R) A n) :
    Calls Try.prog 21 #[.slice A n c, .int .i64 ref, .int .i64 to] w (StepAny w) := by
  refine (join_any A n c R ref to w hn hc hR).mono ?_
  rintro e w1 (⟨h, _⟩ | ⟨i, k, hok, h⟩)
  · exact step_err h
  · exact step_ok h (join_good hok).1
set_option maxRecDepth 100000 in
set_option maxHeartbeats 16000000 in
theorem limitNever_go (A0 : Option Addr) (n0 c0 : Nat) (R0 : Nat → LRow) (B : Option Addr) (m d : Nat) (Q : Nat → LRow) (w : World) (hn0 : n0 ≤ c0) (hc0 : c0 ≤ 9223372036854775807) (hR0 : Rd w 5 (rowC R0) A0 n0) (hm : m ≤ d) (hd : d ≤ 9223372036854775807) (hQ : Rd w 5 (rowC Q) B m) :
    Calls Try.prog 5 #[.slice A0 n0 c0, .slice B m d] w fun e w' => e = .returned (.bool true) ∧ Below w.heap.size w w' := by
  have HR0 := Lib.hid hR0
  have HQ := Lib.hid hQ
  clear hR0 hQ
  by_cases ok : OkL R0 n0
  rotate_left
  · have HOK := Lib.hid ok
    clear ok
    go_enter Try.func5, Try.ntmps5
    go_wp2_with fail
    refine (limits_any _).mono ?_
    rintro e w1 ⟨rfl, hb1⟩
    have HB1 := Lib.hid hb1
    clear hb1
    go_wp2_with fail
    refine (check_bad A0 n0 c0 R0 _ hn0 hc0 (by exact HR0.out.below HB1.out) HOK.out).mono ?_
    rintro e w2 ⟨x, rfl, hx, hb2⟩
    have hx0 : (x != 0) = true := by simpa using hx
    have HB2 := Lib.hid (HB1.out.trans (hb2.mono HB1.out.size))
    clear hx hb2
    go_wp2_with fail
    refine (limits_any _).mono ?_
    rintro e w3 ⟨rfl, hb3⟩
    have HB3 := Lib.hid (HB2.out.trans (hb3.mono HB2.out.size))
    clear hb3
    go_wp2_with fail
    go_ret
    exact ⟨rfl, HB3.out⟩
  have HOK := Lib.hid ok
  clear ok
  go_enter Try.func5, Try.ntmps5
  go_wp2_with fail
  refine (limits_any _).mono ?_
  rintro e w1 ⟨rfl, hb1⟩
  have HB1 := Lib.hid hb1
  clear hb1
  go_wp2_with fail
  refine (check_ok A0 n0 c0 R0 _ hn0 hc0 (by exact HR0.out.below HB1.out) HOK.out).mono ?_
  rintro e w2 ⟨rfl, hb2⟩
  have HB2 := Lib.hid (HB1.out.trans (hb2.mono HB1.out.size))
  clear hb2
  go_wp2_with fail
  go_loopw [0, 5, 6, 7, 8, 10, 21, 31, 44, 57, 72, 88] (fun sl _ _ _ _ _ x _ _ _ _ _ wr => ∃ k A n c R, k ≤ m ∧ x = .int .i64 (k : Nat) ∧ Value.slice A n c = sl ∧ n ≤ c ∧ c ≤ 9223372036854775807 ∧ Rd wr 5 (rowC R) A n ∧ OkL R n ∧ Below w.heap.size w wr) (fun _ _ _ _ _ _ x _ _ _ _ _ _ => m - (intOf x).toNat)
  case atStart => exact ⟨0, A0, n0, c0, R0, Nat.zero_le _, rfl, rfl, hn0, hc0, HR0.out.below HB2.out, HOK.out, HB2.out⟩
  case round =>
    obtain ⟨wo, hwo⟩ : ∃ wo : World, wo = wr := ⟨_, rfl⟩
    subst hwo
    obtain ⟨k, A, n, c, R, hk, rfl, rfl, hnc, hcc, hR, hO, hB⟩ := hrel
    have HR := Lib.hid hR
    have HO := Lib.hid hO
    have HB := Lib.hid hB
    have hBs := hB.size
    have END : Hid (∀ w9, Below wo.heap.size wo w9 → Rd w9 5 (rowC R) A n) := fun w9 h9 => HR.out.below h9
    clear hR hO
    by_cases hlt : k < m
    rotate_left
    · clear hB
      go_wp2_with fail
      refine (check_ok A n c R _ hnc hcc (by exact HR.out) HO.out).mono ?_
      rintro e w3 ⟨rfl, hb3⟩
      have HB3 := Lib.hid (HB.out.trans (hb3.mono HB.out.size))
      clear hb3
      go_wp2_with fail
      go_ret
      exact ⟨rfl, HB3.out⟩
    obtain ⟨b, off, rfl, hb0, hcell⟩ := (HQ.out.below hB) (by omega)
    have q0 := hcell k hlt 0 _ rfl
    have q1 := hcell k hlt 1 _ rfl
    have q2 := hcell k hlt 2 _ rfl
    have q3 := hcell k hlt 3 _ rfl
    have q4 := hcell k hlt 4 _ rfl
    simp only [Nat.add_zero] at q0
    clear hcell hB
    generalize Q k = r at *
    obtain ⟨z0, z1, z2, z3, z4⟩ := r
    dsimp only at q0 q1 q2 q3 q4
    have i1 : (0 : Int) ≤ (k : Int) := by omega
    have i2 : (k : Int) < (m : Int) := by omega
    have HB9 := Lib.hid (HB.out.alloc hBs (.cells #[.int .i64 z0, .int .i64 z1, .int .i64 z2, .int .i64 z3, .int .i64 z4] 39))
    have HR9 := Lib.hid (HR.out.alloc (.cells #[.int .i64 z0, .int .i64 z1, .int .i64 z2, .int .i64 z3, .int .i64 z4] 39))
    by_cases h40 : 40 ≤ k
    · have d40 : decide ((40 : Int) ≤ (k : Int)) = true := by simp; omega
      go_wp2_with fail
      refine (check_ok A n c R _ hnc hcc (by exact HR9.out) HO.out).mono ?_
      rintro e w3 ⟨rfl, hb3⟩
      have HB3 := Lib.hid (HB9.out.trans (hb3.mono HB9.out.size))
      clear hb3
      go_wp2_with fail
      go_ret
      exact ⟨rfl, HB3.out⟩
    have d40 : decide ((40 : Int) ≤ (k : Int)) = false := by simp; omega
    have x0 : True := trivial
    have x1 : True := trivial
    have x2 : True := trivial
    have x3 : True := trivial
    have x4 : True := trivial
    by_cases s1 : z0 = 1
    · subst s1
      go_wp2_with fail
      clear x0 x1 x2 x3 x4
      refine (take_step A n c R z1 z3 z4 _ hnc hcc (by exact HR9.out)).mono ?_
      rintro e w2 ⟨A1, n1, c1, x, rfl, hb2, a1, a2, hx⟩
      have HB2 := Lib.hid (HB9.out.trans (hb2.mono HB9.out.size))
      have HR2 := Lib.hid (HR9.out.below hb2)
      by_cases h0 : x = 0
      · obtain ⟨R1, r1, ok1⟩ := hx h0
        have HR1 := Lib.hid r1
        have HO1 := Lib.hid ok1
        have h00 : (x == 0) = true := by simp [h0]
        clear h0 hx r1 ok1 hb2
        go_wp2_with fail
        go_loopw [10, 88] (fun _ y wq => ∃ j : Nat, j ≤ n1 ∧ y = .int .i64 j ∧ Below w2.heap.size w2 wq) (fun _ y _ => n1 - (intOf y).toNat)
        case atStart => exact ⟨0, Nat.zero_le _, rfl, Below.refl _ _⟩
        case round =>
          obtain ⟨j, hj, rfl, hBq⟩ := hrel
          have HBq := Lib.hid hBq
          have hqs := hBq.size
          by_cases hlq : j < n1
          · obtain ⟨b2, off2, hA2, hb2, hc2⟩ := (HR1.out.below hBq) (by omega)
            subst hA2
            have c0 := hc2 j hlq 0 _ rfl
            have c1 := hc2 j hlq 1 _ rfl
            have c2 := hc2 j hlq 2 _ rfl
            have c3 := hc2 j hlq 3 _ rfl
            have c4 := hc2 j hlq 4 _ rfl
            simp only [Nat.add_zero] at c0
            have hf := (HO1.out.2 j hlq).1
            unfold FineL at hf
            clear hc2 hBq
            generalize R1 j = r at *
            obtain ⟨r1, r2, r3, r4, r5⟩ := r
            dsimp only at c0 c1 c2 c3 c4 hf
            obtain ⟨f1, f2, f3, f4, f5, f6⟩ := hf
            have j1 : (0 : Int) ≤ (j : Int) := by omega
            have j2 : (j : Int) < (n1 : Int) := by omega
            have g1 : decide (r2 < 0) = false := by simp; omega
            have g2 : decide (r4 < r2) = false := by simp; omega
            have g3 : decide (r3 < 0) = false := by simp; omega
            have g4 : decide (r5 < r3) = false := by simp; omega
            go_wp2_with fail
            go_roundw
            case rel => exact ⟨j + 1, by omega, by go_num, HBq.out.alloc hqs _⟩
            case measure => simp [intOf]; omega
          · clear hBq
            go_wp2_with fail
            go_roundw
            case rel => exact ⟨k + 1, A1, n1, c1, R1, by omega, by go_num, rfl, a1, a2, HR1.out.below HBq.out, HO1.out, HB2.out.trans (HBq.out.mono HB2.out.size)⟩
            case measure => simp [intOf]; omega
      · have h00 : (x == 0) = false := by simpa using h0
        clear h0 hx hb2
        go_wp2_with fail
        go_loopw [10, 88] (fun _ y wq => ∃ j : Nat, j ≤ n ∧ y = .int .i64 j ∧ Below w2.heap.size w2 wq) (fun _ y _ => n - (intOf y).toNat)
        case atStart => exact ⟨0, Nat.zero_le _, rfl, Below.refl _ _⟩
        case round =>
          obtain ⟨j, hj, rfl, hBq⟩ := hrel
          have HBq := Lib.hid hBq
          have hqs := hBq.size
          by_cases hlq : j < n
          · obtain ⟨b2, off2, hA2, hb2, hc2⟩ := (HR2.out.below hBq) (by omega)
            subst hA2
            have c0 := hc2 j hlq 0 _ rfl
            have c1 := hc2 j hlq 1 _ rfl
            have c2 := hc2 j hlq 2 _ rfl
            have c3 := hc2 j hlq 3 _ rfl
            have c4 := hc2 j hlq 4 _ rfl
            simp only [Nat.add_zero] at c0
            have hf := (HO.out.2 j hlq).1
            unfold FineL at hf
            clear hc2 hBq
            generalize R j = r at *
            obtain ⟨r1, r2, r3, r4, r5⟩ := r
            dsimp only at c0 c1 c2 c3 c4 hf
            obtain ⟨f1, f2, f3, f4, f5, f6⟩ := hf
            have j1 : (0 : Int) ≤ (j : Int) := by omega
            have j2 : (j : Int) < (n : Int) := by omega
            have g1 : decide (r2 < 0) = false := by simp; omega
            have g2 : decide (r4 < r2) = false := by simp; omega
            have g3 : decide (r3 < 0) = false := by simp; omega
            have g4 : decide (r5 < r3) = false := by simp; omega
            go_wp2_with fail
            go_roundw
            case rel => exact ⟨j + 1, by omega, by go_num, HBq.out.alloc hqs _⟩
            case measure => simp [intOf]; omega
          · clear hBq
            go_wp2_with fail
            go_roundw
            case rel => exact ⟨k + 1, A, n, c, R, by omega, by go_num, rfl, hnc, hcc, HR2.out.below HBq.out, HO.out, HB2.out.trans (HBq.out.mono HB2.out.size)⟩
            case measure => simp [intOf]; omega
    have e1 : (z0 == 1) = false := by simpa using s1
    by_cases s2 : z0 = 2
    · subst s2
      clear s1 e1
      go_wp2_with fail
      clear x0 x1 x2 x3 x4
      refine (give_step A n c R z1 z3 z4 _ hnc hcc (by exact HR9.out)).mono ?_
      rintro e w2 ⟨A1, n1, c1, x, rfl, hb2, a1, a2, hx⟩
      have HB2 := Lib.hid (HB9.out.trans (hb2.mono HB9.out.size))
      have HR2 := Lib.hid (HR9.out.below hb2)
      by_cases h0 : x = 0
      · obtain ⟨R1, r1, ok1⟩ := hx h0
        have HR1 := Lib.hid r1
        have HO1 := Lib.hid ok1
        have h00 : (x == 0) = true := by simp [h0]
        clear h0 hx r1 ok1 hb2
        go_wp2_with fail
        go_loopw [10, 88] (fun _ y wq => ∃ j : Nat, j ≤ n1 ∧ y = .int .i64 j ∧ Below w2.heap.size w2 wq) (fun _ y _ => n1 - (intOf y).toNat)
        case atStart => exact ⟨0, Nat.zero_le _, rfl, Below.refl _ _⟩
        case round =>
          obtain ⟨j, hj, rfl, hBq⟩ := hrel
          have HBq := Lib.hid hBq
          have hqs := hBq.size
          by_cases hlq : j < n1
          · obtain ⟨b2, off2, hA2, hb2, hc2⟩ := (HR1.out.below hBq) (by omega)
            subst hA2
            have c0 := hc2 j hlq 0 _ rfl
            have c1 := hc2 j hlq 1 _ rfl
            have c2 := hc2 j hlq 2 _ rfl
            have c3 := hc2 j hlq 3 _ rfl
            have c4 := hc2 j hlq 4 _ rfl
            simp only [Nat.add_zero] at c0
            have hf := (HO1.out.2 j hlq).1
            unfold FineL at hf
            clear hc2 hBq
            generalize R1 j = r at *
            obtain ⟨r1, r2, r3, r4, r5⟩ := r
            dsimp only at c0 c1 c2 c3 c4 hf
            obtain ⟨f1, f2, f3, f4, f5, f6⟩ := hf
            have j1 : (0 : Int) ≤ (j : Int) := by omega
            have j2 : (j : Int) < (n1 : Int) := by omega
            have g1 : decide (r2 < 0) = false := by simp; omega
            have g2 : decide (r4 < r2) = false := by simp; omega
            have g3 : decide (r3 < 0) = false := by simp; omega
            have g4 : decide (r5 < r3) = false := by simp; omega
            go_wp2_with fail
            go_roundw
            case rel => exact ⟨j + 1, by omega, by go_num, HBq.out.alloc hqs _⟩
            case measure => simp [intOf]; omega
          · clear hBq
            go_wp2_with fail
            go_roundw
            case rel => exact ⟨k + 1, A1, n1, c1, R1, by omega, by go_num, rfl, a1, a2, HR1.out.below HBq.out, HO1.out, HB2.out.trans (HBq.out.mono HB2.out.size)⟩
            case measure => simp [intOf]; omega
      · have h00 : (x == 0) = false := by simpa using h0
        clear h0 hx hb2
        go_wp2_with fail
        go_loopw [10, 88] (fun _ y wq => ∃ j : Nat, j ≤ n ∧ y = .int .i64 j ∧ Below w2.heap.size w2 wq) (fun _ y _ => n - (intOf y).toNat)
        case atStart => exact ⟨0, Nat.zero_le _, rfl, Below.refl _ _⟩
        case round =>
          obtain ⟨j, hj, rfl, hBq⟩ := hrel
          have HBq := Lib.hid hBq
          have hqs := hBq.size
          by_cases hlq : j < n
          · obtain ⟨b2, off2, hA2, hb2, hc2⟩ := (HR2.out.below hBq) (by omega)
            subst hA2
            have c0 := hc2 j hlq 0 _ rfl
            have c1 := hc2 j hlq 1 _ rfl
            have c2 := hc2 j hlq 2 _ rfl
            have c3 := hc2 j hlq 3 _ rfl
            have c4 := hc2 j hlq 4 _ rfl
            simp only [Nat.add_zero] at c0
            have hf := (HO.out.2 j hlq).1
            unfold FineL at hf
            clear hc2 hBq
            generalize R j = r at *
            obtain ⟨r1, r2, r3, r4, r5⟩ := r
            dsimp only at c0 c1 c2 c3 c4 hf
            obtain ⟨f1, f2, f3, f4, f5, f6⟩ := hf
            have j1 : (0 : Int) ≤ (j : Int) := by omega
            have j2 : (j : Int) < (n : Int) := by omega
            have g1 : decide (r2 < 0) = false := by simp; omega
            have g2 : decide (r4 < r2) = false := by simp; omega
            have g3 : decide (r3 < 0) = false := by simp; omega
            have g4 : decide (r5 < r3) = false := by simp; omega
            go_wp2_with fail
            go_roundw
            case rel => exact ⟨j + 1, by omega, by go_num, HBq.out.alloc hqs _⟩
            case measure => simp [intOf]; omega
          · clear hBq
            go_wp2_with fail
            go_roundw
            case rel => exact ⟨k + 1, A, n, c, R, by omega, by go_num, rfl, hnc, hcc, HR2.out.below HBq.out, HO.out, HB2.out.trans (HBq.out.mono HB2.out.size)⟩
            case measure => simp [intOf]; omega
    have e2 : (z0 == 2) = false := by simpa using s2
    by_cases s3 : z0 = 3
    · subst s3
      clear s1 e1 s2 e2
      go_wp2_with fail
      clear x0 x1 x2 x3 x4
      refine (fork_step A n c R z1 z2 z3 z4 _ hnc hcc (by exact HR9.out)).mono ?_
      rintro e w2 ⟨A1, n1, c1, x, rfl, hb2, a1, a2, hx⟩
      have HB2 := Lib.hid (HB9.out.trans (hb2.mono HB9.out.size))
      have HR2 := Lib.hid (HR9.out.below hb2)
      by_cases h0 : x = 0
      · obtain ⟨R1, r1, ok1⟩ := hx h0
        have HR1 := Lib.hid r1
        have HO1 := Lib.hid ok1
        have h00 : (x == 0) = true := by simp [h0]
        clear h0 hx r1 ok1 hb2
        go_wp2_with fail
        go_loopw [10, 88] (fun _ y wq => ∃ j : Nat, j ≤ n1 ∧ y = .int .i64 j ∧ Below w2.heap.size w2 wq) (fun _ y _ => n1 - (intOf y).toNat)
        case atStart => exact ⟨0, Nat.zero_le _, rfl, Below.refl _ _⟩
        case round =>
          obtain ⟨j, hj, rfl, hBq⟩ := hrel
          have HBq := Lib.hid hBq
          have hqs := hBq.size
          by_cases hlq : j < n1
          · obtain ⟨b2, off2, hA2, hb2, hc2⟩ := (HR1.out.below hBq) (by omega)
            subst hA2
            have c0 := hc2 j hlq 0 _ rfl
            have c1 := hc2 j hlq 1 _ rfl
            have c2 := hc2 j hlq 2 _ rfl
            have c3 := hc2 j hlq 3 _ rfl
            have c4 := hc2 j hlq 4 _ rfl
            simp only [Nat.add_zero] at c0
            have hf := (HO1.out.2 j hlq).1
            unfold FineL at hf
            clear hc2 hBq
            generalize R1 j = r at *
            obtain ⟨r1, r2, r3, r4, r5⟩ := r
            dsimp only at c0 c1 c2 c3 c4 hf
            obtain ⟨f1, f2, f3, f4, f5, f6⟩ := hf
            have j1 : (0 : Int) ≤ (j : Int) := by omega
            have j2 : (j : Int) < (n1 : Int) := by omega
            have g1 : decide (r2 < 0) = false := by simp; omega
            have g2 : decide (r4 < r2) = false := by simp; omega
            have g3 : decide (r3 < 0) = false := by simp; omega
            have g4 : decide (r5 < r3) = false := by simp; omega
            go_wp2_with fail
            go_roundw
            case rel => exact ⟨j + 1, by omega, by go_num, HBq.out.alloc hqs _⟩
            case measure => simp [intOf]; omega
          · clear hBq
            go_wp2_with fail
            go_roundw
            case rel => exact ⟨k + 1, A1, n1, c1, R1, by omega, by go_num, rfl, a1, a2, HR1.out.below HBq.out, HO1.out, HB2.out.trans (HBq.out.mono HB2.out.size)⟩
            case measure => simp [intOf]; omega
      · have h00 : (x == 0) = false := by simpa using h0
        clear h0 hx hb2
        go_wp2_with fail
        go_loopw [10, 88] (fun _ y wq => ∃ j : Nat, j ≤ n ∧ y = .int .i64 j ∧ Below w2.heap.size w2 wq) (fun _ y _ => n - (intOf y).toNat)
        case atStart => exact ⟨0, Nat.zero_le _, rfl, Below.refl _ _⟩
        case round =>
          obtain ⟨j, hj, rfl, hBq⟩ := hrel
          have HBq := Lib.hid hBq
          have hqs := hBq.size
          by_cases hlq : j < n
          · obtain ⟨b2, off2, hA2, hb2, hc2⟩ := (HR2.out.below hBq) (by omega)
            subst hA2
            have c0 := hc2 j hlq 0 _ rfl
            have c1 := hc2 j hlq 1 _ rfl
            have c2 := hc2 j hlq 2 _ rfl
            have c3 := hc2 j hlq 3 _ rfl
            have c4 := hc2 j hlq 4 _ rfl
            simp only [Nat.add_zero] at c0
            have hf := (HO.out.2 j hlq).1
            unfold FineL at hf
            clear hc2 hBq
            generalize R j = r at *
            obtain ⟨r1, r2, r3, r4, r5⟩ := r
            dsimp only at c0 c1 c2 c3 c4 hf
            obtain ⟨f1, f2, f3, f4, f5, f6⟩ := hf
            have j1 : (0 : Int) ≤ (j : Int) := by omega
            have j2 : (j : Int) < (n : Int) := by omega
            have g1 : decide (r2 < 0) = false := by simp; omega
            have g2 : decide (r4 < r2) = false := by simp; omega
            have g3 : decide (r3 < 0) = false := by simp; omega
            have g4 : decide (r5 < r3) = false := by simp; omega
            go_wp2_with fail
            go_roundw
            case rel => exact ⟨j + 1, by omega, by go_num, HBq.out.alloc hqs _⟩
            case measure => simp [intOf]; omega
          · clear hBq
            go_wp2_with fail
            go_roundw
            case rel => exact ⟨k + 1, A, n, c, R, by omega, by go_num, rfl, hnc, hcc, HR2.out.below HBq.out, HO.out, HB2.out.trans (HBq.out.mono HB2.out.size)⟩
            case measure => simp [intOf]; omega
    have e3 : (z0 == 3) = false := by simpa using s3
    by_cases s4 : z0 = 4
    · subst s4
      clear s1 e1 s2 e2 s3 e3
      go_wp2_with fail
      clear x0 x1 x2 x3 x4
      refine (join_step A n c R z1 z2 _ hnc hcc (by exact HR9.out)).mono ?_
      rintro e w2 ⟨A1, n1, c1, x, rfl, hb2, a1, a2, hx⟩
      have HB2 := Lib.hid (HB9.out.trans (hb2.mono HB9.out.size))
      have HR2 := Lib.hid (HR9.out.below hb2)
      by_cases h0 : x = 0
      · obtain ⟨R1, r1, ok1⟩ := hx h0
        have HR1 := Lib.hid r1
        have HO1 := Lib.hid ok1
        have h00 : (x == 0) = true := by simp [h0]
        clear h0 hx r1 ok1 hb2
        go_wp2_with fail
        go_loopw [10, 88] (fun _ y wq => ∃ j : Nat, j ≤ n1 ∧ y = .int .i64 j ∧ Below w2.heap.size w2 wq) (fun _ y _ => n1 - (intOf y).toNat)
        case atStart => exact ⟨0, Nat.zero_le _, rfl, Below.refl _ _⟩
        case round =>
          obtain ⟨j, hj, rfl, hBq⟩ := hrel
          have HBq := Lib.hid hBq
          have hqs := hBq.size
          by_cases hlq : j < n1
          · obtain ⟨b2, off2, hA2, hb2, hc2⟩ := (HR1.out.below hBq) (by omega)
            subst hA2
            have c0 := hc2 j hlq 0 _ rfl
            have c1 := hc2 j hlq 1 _ rfl
            have c2 := hc2 j hlq 2 _ rfl
            have c3 := hc2 j hlq 3 _ rfl
            have c4 := hc2 j hlq 4 _ rfl
            simp only [Nat.add_zero] at c0
            have hf := (HO1.out.2 j hlq).1
            unfold FineL at hf
            clear hc2 hBq
            generalize R1 j = r at *
            obtain ⟨r1, r2, r3, r4, r5⟩ := r
            dsimp only at c0 c1 c2 c3 c4 hf
            obtain ⟨f1, f2, f3, f4, f5, f6⟩ := hf
            have j1 : (0 : Int) ≤ (j : Int) := by omega
            have j2 : (j : Int) < (n1 : Int) := by omega
            have g1 : decide (r2 < 0) = false := by simp; omega
            have g2 : decide (r4 < r2) = false := by simp; omega
            have g3 : decide (r3 < 0) = false := by simp; omega
            have g4 : decide (r5 < r3) = false := by simp; omega
            go_wp2_with fail
            go_roundw
            case rel => exact ⟨j + 1, by omega, by go_num, HBq.out.alloc hqs _⟩
            case measure => simp [intOf]; omega
          · clear hBq
            go_wp2_with fail
            go_roundw
            case rel => exact ⟨k + 1, A1, n1, c1, R1, by omega, by go_num, rfl, a1, a2, HR1.out.below HBq.out, HO1.out, HB2.out.trans (HBq.out.mono HB2.out.size)⟩
            case measure => simp [intOf]; omega
      · have h00 : (x == 0) = false := by simpa using h0
        clear h0 hx hb2
        go_wp2_with fail
        go_loopw [10, 88] (fun _ y wq => ∃ j : Nat, j ≤ n ∧ y = .int .i64 j ∧ Below w2.heap.size w2 wq) (fun _ y _ => n - (intOf y).toNat)
        case atStart => exact ⟨0, Nat.zero_le _, rfl, Below.refl _ _⟩
        case round =>
          obtain ⟨j, hj, rfl, hBq⟩ := hrel
          have HBq := Lib.hid hBq
          have hqs := hBq.size
          by_cases hlq : j < n
          · obtain ⟨b2, off2, hA2, hb2, hc2⟩ := (HR2.out.below hBq) (by omega)
            subst hA2
            have c0 := hc2 j hlq 0 _ rfl
            have c1 := hc2 j hlq 1 _ rfl
            have c2 := hc2 j hlq 2 _ rfl
            have c3 := hc2 j hlq 3 _ rfl
            have c4 := hc2 j hlq 4 _ rfl
            simp only [Nat.add_zero] at c0
            have hf := (HO.out.2 j hlq).1
            unfold FineL at hf
            clear hc2 hBq
            generalize R j = r at *
            obtain ⟨r1, r2, r3, r4, r5⟩ := r
            dsimp only at c0 c1 c2 c3 c4 hf
            obtain ⟨f1, f2, f3, f4, f5, f6⟩ := hf
            have j1 : (0 : Int) ≤ (j : Int) := by omega
            have j2 : (j : Int) < (n : Int) := by omega
            have g1 : decide (r2 < 0) = false := by simp; omega
            have g2 : decide (r4 < r2) = false := by simp; omega
            have g3 : decide (r3 < 0) = false := by simp; omega
            have g4 : decide (r5 < r3) = false := by simp; omega
            go_wp2_with fail
            go_roundw
            case rel => exact ⟨j + 1, by omega, by go_num, HBq.out.alloc hqs _⟩
            case measure => simp [intOf]; omega
          · clear hBq
            go_wp2_with fail
            go_roundw
            case rel => exact ⟨k + 1, A, n, c, R, by omega, by go_num, rfl, hnc, hcc, HR2.out.below HBq.out, HO.out, HB2.out.trans (HBq.out.mono HB2.out.size)⟩
            case measure => simp [intOf]; omega
    have e4 : (z0 == 4) = false := by simpa using s4
    clear s1 s2 s3 s4
    go_wp2_with fail
    clear q0 q1 q2 q3 q4
    generalize wo.alloc (.cells #[.int .i64 z0, .int .i64 z1, .int .i64 z2, .int .i64 z3, .int .i64 z4] 39) = w2 at *
    go_loopw [10, 88] (fun _ y wq => ∃ j : Nat, j ≤ n ∧ y = .int .i64 j ∧ Below w2.heap.size w2 wq) (fun _ y _ => n - (intOf y).toNat)
    case atStart => exact ⟨0, Nat.zero_le _, rfl, Below.refl _ _⟩
    case round =>
      obtain ⟨j, hj, rfl, hBq⟩ := hrel
      have HBq := Lib.hid hBq
      have hqs := hBq.size
      by_cases hlq : j < n
      · obtain ⟨b2, off2, hA2, hb2, hc2⟩ := (HR9.out.below hBq) (by omega)
        subst hA2
        have c0 := hc2 j hlq 0 _ rfl
        have c1 := hc2 j hlq 1 _ rfl
        have c2 := hc2 j hlq 2 _ rfl
        have c3 := hc2 j hlq 3 _ rfl
        have c4 := hc2 j hlq 4 _ rfl
        simp only [Nat.add_zero] at c0
        have hf := (HO.out.2 j hlq).1
        unfold FineL at hf
        clear hc2 hBq
        generalize R j = r at *
        obtain ⟨r1, r2, r3, r4, r5⟩ := r
        dsimp only at c0 c1 c2 c3 c4 hf
        obtain ⟨f1, f2, f3, f4, f5, f6⟩ := hf
        have j1 : (0 : Int) ≤ (j : Int) := by omega
        have j2 : (j : Int) < (n : Int) := by omega
        have g1 : decide (r2 < 0) = false := by simp; omega
        have g2 : decide (r4 < r2) = false := by simp; omega
        have g3 : decide (r3 < 0) = false := by simp; omega
        have g4 : decide (r5 < r3) = false := by simp; omega
        go_wp2_with fail
        go_roundw
        case rel => exact ⟨j + 1, by omega, by go_num, HBq.out.alloc hqs _⟩
        case measure => simp [intOf]; omega
      · clear hBq
        go_wp2_with fail
        go_roundw
        case rel => exact ⟨k + 1, A, n, c, R, by omega, by go_num, rfl, hnc, hcc, HR9.out.below HBq.out, HO.out, HB9.out.trans (HBq.out.mono HB9.out.size)⟩
        case measure => simp [intOf]; omega
set_option maxRecDepth 100000 in
theorem open_asks {H : Type} {enc : TypeId × Value → H} {W : World} {base : Nat} {v : Value} {d : DataW H} {p : List MemPlace} (k0 : Value.okWide Try.prog W .any base 38 v) (h0 : DataW.Trod enc Try.prog W 0 (fun _ => true) true 38 v d p) :
    ∃ A n c R, v = .slice A n c ∧ n ≤ c ∧ c ≤ 9223372036854775807 ∧ Rd W 5 (rowC R) A n := by
  obtain ⟨a0, l0, cp0, rfl⟩ := okWide_slice Try.underlying38 k0
  obtain ⟨fuel, hf⟩ := h0
  obtain ⟨A, n, c, C, hcs, hnc, hcm, hA, hR, hlen, hel⟩ := open_rows Try.underlying38 (sz := 5) (by kernel_rfl) (by omega) hf
  have hv : Value.slice a0 l0 cp0 = .slice A n c := by simpa [Value.cells] using hcs
  have hall : ∀ i, ∃ q : LRow, i < n → C i = rowC (fun _ => q) i := fun i => by
    by_cases hi : i < n
    · obtain ⟨m, y, hy⟩ := hel i hi
      obtain ⟨xs, m2, _, _, _, hxl, hg⟩ := DataW.trod_array Try.underlying39 hy
      have h1 : Try.prog.cellsOf 3 = 1 := by kernel_rfl
      rw [h1] at hg
      match hC : C i, hlen i with
      | [u0, u1, u2, u3, u4], _ =>
        rw [hC] at hg
        have key : ∀ j (u : Value), j < 5 → ([u0, u1, u2, u3, u4].drop (j * 1)).take 1 = [u] → ∃ z : Int, u = .int .i64 z := fun j u hj hu => by
          have h2 := hg j hj
          rw [hu, List.getElem?_eq_getElem (by omega)] at h2
          obtain ⟨z, e, _⟩ := DataW.trod_int Try.underlying3 h2
          simp at e
          exact ⟨z, e⟩
        obtain ⟨z0, rfl⟩ := key 0 u0 (by omega) rfl
        obtain ⟨z1, rfl⟩ := key 1 u1 (by omega) rfl
        obtain ⟨z2, rfl⟩ := key 2 u2 (by omega) rfl
        obtain ⟨z3, rfl⟩ := key 3 u3 (by omega) rfl
        obtain ⟨z4, rfl⟩ := key 4 u4 (by omega) rfl
        exact ⟨⟨z0, z1, z2, z3, z4⟩, fun _ => rfl⟩
    · exact ⟨⟨0, 0, 0, 0, 0⟩, fun h => absurd h hi⟩
  obtain ⟨Z, hZ⟩ := Classical.axiomOfChoice hall
  exact ⟨A, n, c, Z, hv, hnc, hcm, hR.congr fun k hk => hZ k hk⟩
set_option maxRecDepth 100000 in
theorem limitNever_walk {H : Type} {enc : TypeId × Value → H} (W : World) (base : Nat) (v0 v1 : Value) {d0 d1 : DataW H} {p0 p1 : List MemPlace}
    (k0 : Value.okWide Try.prog W .any base 22 v0) (k1 : Value.okWide Try.prog W .any base 38 v1)
    (h0 : DataW.Trod enc Try.prog W 0 (fun _ => true) true 22 v0 d0 p0) (h1 : DataW.Trod enc Try.prog W 0 (fun _ => true) true 38 v1 d1 p1) :
    Calls Try.prog 5 #[v0, v1] W fun e W' => e = .returned (.bool true) ∧ Below W.heap.size W W' := by
  obtain ⟨A, n, c, R, rfl, hnc, hcm, hA, hR⟩ := open_lrows k0 h0
  obtain ⟨B, m, d, Q, rfl, hmd, hdm, hQ⟩ := open_asks k1 h1
  exact limitNever_go A n c R B m d Q W hnc hcm hR hmd hdm hQ
end Go.Proofs.Ytjcegplockihfaa
