/- roadref3.ObjectAt at objects that are objects. -/
import Derived.Test.YtmpeckjemgenbaaHeapAt
import Derived.Test.YtmpeckjemgenbaaObjWords
import Derived.Test.YtmpeckjemgenbaaCutU
import Derived.BigRegion
import Derived.BigQuiet
import Derived.Deep.DeepCutAuto
namespace Go.Proofs.Ytmpeckjemgenbaa
open Go.RowKit
set_option linter.unusedVariables false
theorem RB.num {w wx : World} {a kd nm : Int} {t : ByteArray} {pv : Value} (h : RB w wx a kd nm t pv) (u : Int) : RB w (wx.setCell ⟨w.heap.size + 1, 2, none⟩ (.int .i64 u)) a kd u t pv := by
  have x2 : (wx.cell? ⟨w.heap.size + 1, 2, none⟩).isSome = true := by rw [h.r2]; rfl
  constructor
  · simp [go_sem, h.a0]
  · simp [go_sem, h.a1]
  · simp [go_sem, h.a2]
  · simp [go_sem, h.a3]
  · simp [go_sem, h.a4]
  · simp [go_sem, h.r0]
  · simp [go_sem, h.r1]
  · simp [go_sem, x2]
  · simp [go_sem, h.r3]
  · simp [go_sem, h.r4]
  · intro o; simp [go_sem, h.fa]
  · intro o; simp [go_sem, h.fr]
  · simpa using h.hz
  · exact below_set h.hB (by omega)
/-- a word without its first j bytes -/
def shB (W j : Nat) : Nat := W / 256 ^ j
theorem shB_zero (W : Nat) : shB W 0 = W := by simp [shB]
theorem shB_le (W j : Nat) : shB W j ≤ W := Nat.div_le_self _ _
theorem shB_div (W j : Nat) : ((shB W j : Nat) : Int) / 256 = ((shB W (j + 1) : Nat) : Int) := by
  unfold shB
  rw [Nat.pow_succ, ← Nat.div_div_eq_div_mul]
  omega
/-- the text's first q bytes -/
def txQ (h : List Nat) (a q : Nat) : ByteArray := ⟨((List.range q).map fun i => UInt8.ofNat (byR h a i)).toArray⟩
theorem txQ_zero (h : List Nat) (a : Nat) : txQ h a 0 = ⟨#[]⟩ := rfl
theorem txQ_size (h : List Nat) (a q : Nat) : (txQ h a q).size = q := by simp [txQ, ByteArray.size]
theorem txQ_all (h : List Nat) (a : Nat) : txQ h a (tbR h a) = txR h a := rfl
theorem txQ_succ (h : List Nat) (a q : Nat) : txQ h a q ++ ⟨#[UInt8.ofNat (byR h a q)]⟩ = txQ h a (q + 1) := by
  apply ByteArray.ext
  rw [ByteArray.data_append]
  simp [txQ, List.range_succ]
theorem objat_results {tmps : Array Value} {wz : World} {H : Nat} {u0 u1 u2 u3 u4 v5 : Value} (t4 : tmps.getD 4 undef = .pointer (some ⟨H, 0, none⟩)) (t5 : tmps.getD 5 undef = v5)
    (z0 : wz.cell? ⟨H, 0, none⟩ = some u0) (z1 : wz.cell? ⟨H, 1, none⟩ = some u1) (z2 : wz.cell? ⟨H, 2, none⟩ = some u2) (z3 : wz.cell? ⟨H, 3, none⟩ = some u3) (z4 : wz.cell? ⟨H, 4, none⟩ = some u4) :
    (results Try.f36 tmps).run Try.prog wz = .ok (.tuple #[.agg #[u0, u1, u2, u3, u4], v5]) wz := by
  simp only [Array.getD_eq_getD_getElem?] at t4 t5
  simp [results, Try.results36, go_sem, t4, t5, z0, z1, z2, z3, z4]
/-- what ObjectAt answers where there is an object -/
def OAtPost (h : List Nat) (a : Nat) (w : World) (e : Ending) (w' : World) : Prop :=
  ∃ pA pc, e = .returned (.tuple #[.agg #[.int .i64 (a : Int), .int .i64 (obR h a).kind, .int .i64 (obR h a).num, .string (obR h a).text, .slice pA (paR h a).length pc], .bool true]) ∧ OwnU w' w.heap.size (.slice pA (paR h a).length pc) (paR h a) ∧ Below w.heap.size w w'
set_option maxRecDepth 100000 in
set_option maxHeartbeats 8000000 in
theorem objAt_ok (h : List Nat) (hA : Option Addr) (hc a : Nat) (w : World) (hH : Su w (.slice hA h.length hc) h) (h64 : All64 h) (hlen : h.length ≤ 4000) (hr : ReadsOb h a) :
    Calls Try.prog 36 #[.slice hA h.length hc, .int .i64 (a : Int)] w (OAtPost h a w) := by
  have HH := Lib.hid hH
  have HR := Lib.hid hr
  have H64 := Lib.hid h64
  have hal := hr.1
  obtain ⟨A0, c0, he, hle, hcm, hA0, hRd⟩ := hH
  injection he with e1 e2 e3
  subst e1 e3
  obtain ⟨b, off, rfl, hb, hcell⟩ := hRd (by omega)
  have x0 : w.cell? ⟨b, off + a, none⟩ = some (.int .u64 ((nth h a : Nat) : Int)) := by simpa [uC] using hcell a hal 0 _ rfl
  have hroom := hr.2.1
  have hx32 : nth h a < 4294967296 := by
    have h1 : plR h a ≤ 400 := hroom.2.1
    unfold plR at h1
    omega
  obtain ⟨X, hX⟩ : ∃ X, nth h a = X := ⟨_, rfl⟩
  have HXE := Lib.hid hX
  rw [hX] at x0 hx32
  obtain ⟨n, hn⟩ : ∃ n, h.length = n := ⟨_, rfl⟩
  have HN := Lib.hid hn
  rw [hn] at hal hlen hle ⊢
  have j0 : (0 : Int) ≤ (a : Int) := by omega
  have j1 : (a : Int) < (n : Int) := by omega
  have j2 : (X : Int) / 4294967296 = 0 := by omega
  obtain ⟨XA, hcut, hSu1⟩ := cutu_from (some ⟨b, off, none⟩) hc h w HH.out (a + 1) (by omega)
  obtain ⟨r1, hr1⟩ : ∃ r1, (h.drop (a + 1)).length = r1 := ⟨_, rfl⟩
  obtain ⟨d1, hd1⟩ : ∃ d1, hc - (a + 1) = d1 := ⟨_, rfl⟩
  rw [hd1] at hSu1
  have HR1 := Lib.hid hr1
  have HSU1 := Lib.hid hSu1
  have hr1' : h.length - (a + 1) = r1 := by rw [← hr1, List.length_drop]
  rw [hr1', hn, hd1] at hcut
  have hcut1 : ∀ w, (Instr.sliceAt 22 (.slice (some ⟨b, off, none⟩) n hc) (some (.int .i64 ((a : Int) + 1))) none none).run Try.prog w = .ok (.slice XA r1 d1) w := fun w => by
    have := hcut w
    push_cast at this
    exact this
  have hK : (X : Int) % 256 = ((kdR h a : Nat) : Int) := by unfold kdR; rw [HXE.out]; omega
  have hT : (X : Int) / 256 % 4096 = ((tbR h a : Nat) : Int) := by unfold tbR; rw [HXE.out]; omega
  have hP : (X : Int) / 1048576 = ((plR h a : Nat) : Int) := by unfold plR; rw [HXE.out]; omega
  have ha1 : (a : Int) + 1 ≤ (n : Int) := by omega
  clear hr hroom hRd hcell hX hn hcut hSu1 hr1 hr1' hd1
  obtain ⟨K, hKK⟩ : ∃ K, kdR h a = K := ⟨_, rfl⟩
  have HKD := Lib.hid hKK
  rw [hKK] at hK
  have HOK := Lib.hid HR.out.2.2.1
  have hkr := (okOb_iff.1 HOK.out).1
  have hk5 : 1 ≤ K ∧ K ≤ 5 := by
    have h1 : ((1 : Int) ≤ ((kdR h a : Nat) : Int)) ∧ ((kdR h a : Nat) : Int) ≤ 5 := hkr
    rw [hKK] at h1
    omega
  clear hkr hKK
  go_enter Try.func36, Try.ntmps36
  go_wp2_with fail
  refine (in_true (a : Int) 0 ((n : Int) - 1) _ (by omega) (by omega)).mono ?_
  rintro e w1 ⟨rfl, rfl⟩
  go_upto_region 4 with (fail)
  go_quiet (fail)
  go_upto_region 6 with (fail)
  have HRB1 := Lib.hid (RB.new w a (K : Nat) 0 ⟨#[]⟩ none 0 0)
  go_cut [62] (fun x wx => x = .bool (hasN (K : Nat)) ∧ RB w wx a (K : Nat) 0 ⟨#[]⟩ (.slice none 0 0))
  case first =>
    by_cases k1 : K = 1
    · subst k1
      go_wp2_with fail
      go_meet
      exact ⟨rfl, HRB1.out.below (below_drewN (Below.refl _ _) _)⟩
    · by_cases k4 : K = 4
      · subst k4
        go_wp2_with fail
        go_meet
        exact ⟨rfl, HRB1.out.below (below_drewN (Below.refl _ _) _)⟩
      · have e1 : ((K : Int) == 1) = false := by simp; omega
        have e4 : ((K : Int) == 4) = false := by simp; omega
        have HNK := Lib.hid (show hasN (K : Nat) = false by unfold hasN; rw [e1, e4]; rfl)
        clear k1 k4
        go_wp2_with fail
        go_meet
        exact ⟨by rw [HNK.out], HRB1.out.below (below_drewN (Below.refl _ _) _)⟩
  case rest =>
  obtain ⟨hx62, hRB⟩ := hcut
  subst hx62
  have HRBc := Lib.hid hRB
  have hKd := HKD.out
  obtain ⟨a0, a1, a2, a3, a4, q0, q1, q2, q3, q4, fa, fr, hz, hBB⟩ := hRB
  clear HRB1 hBB x0
  go_upto_if 62 with (fail)
  go_cut [9] (fun x wx => RestOk w wx h a x)
  case first =>
    cases hn : hasN (K : Nat) with
    | true =>
      have hwl := HR.out.2.2.2.1
      have hnW : (numW (obR h a)).length = 1 := by
        unfold numW
        rw [if_pos (show hasN (obR h a).kind = true by show hasN ((kdR h a : Nat) : Int) = true; rw [hKd]; exact hn)]
        rfl
      have hN := HN.out
      have ha2 : a + 1 < h.length := by
        rw [wordsO_len] at hwl
        have := HR.out.1
        omega
      have hnm : nmR h a = wrap64 (nth h (a + 1) : Nat) := by unfold nmR; rw [if_pos ⟨by rw [hKd]; exact hn, ha2⟩]
      have hk1 : k1R h a = 1 := by unfold k1R; rw [if_pos ⟨by rw [hKd]; exact hn, ha2⟩]
      have hl0 : (h.drop (a + 1)).length = r1 := HR1.out
      have hl1 : r1 = h.length - (a + 1) := by rw [← hl0, List.length_drop]
      obtain ⟨X0, c1', e, m1, m2, m3, m4⟩ := HSU1.out
      injection e with e1 _ e3
      obtain ⟨bk2, off2, hXA, hbk2, hc2⟩ := m4 (by omega)
      rw [hXA] at e1
      subst e1 e3
      have c1 : wc.cell? ⟨bk2, off2, none⟩ = some (.int .u64 ((nth h (a + 1) : Nat) : Int)) := by
        have := hc2 0 (by omega) 0 _ rfl
        rw [nth_drop] at this
        exact (HRBc.out.hB.cell (p := ⟨bk2, _, none⟩) hbk2).trans (by simpa using this)
      obtain ⟨XB, hcutB, hSB⟩ := cutu_from (some ⟨bk2, off2, none⟩) d1 (h.drop (a + 1)) w HSU1.out 1 (by omega)
      rw [hl0] at hcutB
      have hcutB1 : ∀ w, (Instr.sliceAt 22 (.slice (some ⟨bk2, off2, none⟩) r1 d1) (some (.int .i64 1)) none none).run Try.prog w = .ok (.slice XB (r1 - 1) (d1 - 1)) w := hcutB
      have hre : restR h a = (h.drop (a + 1)).drop 1 := by unfold restR; rw [hk1, List.drop_drop]
      have hrl : (restR h a).length = r1 - 1 := by rw [hre, List.length_drop, hl0]
      have HRS := Lib.hid (show Su w (.slice XB (restR h a).length (d1 - 1)) (restR h a) by rw [hre]; exact hSB)
      have HRL := Lib.hid hrl
      have HNM := Lib.hid hnm
      have g1 : (0 : Int) < (r1 : Int) := by omega
      have g2 : decide ((r1 : Int) = 0) = false := by simp; omega
      have g3 : ((r1 : Int) == 0) = false := by simp; omega
      clear hcutB hSB hre hrl hnm hk1 hc2 m1 m2 m3 m4 hl0 hl1 hXA hnW hwl ha2 hKd hN
      have f2 := fr 2
      go_wp2_with fail
      all_goals
        go_region
        go_wp2_with fail
        go_meet
        refine ⟨⟨XB, (d1 - 1), by rw [HRL.out], HRS.out⟩, ?_⟩
        rw [HNM.out, HKD.out]
        exact (HRBc.out.num _).below (below_drewN (Below.refl _ _) 1)
    | false =>
      have hnm : nmR h a = 0 := by unfold nmR; rw [if_neg (fun hh => by rw [hKd, hn] at hh; cases hh.1)]
      have hk1 : k1R h a = 0 := by unfold k1R; rw [if_neg (fun hh => by rw [hKd, hn] at hh; cases hh.1)]
      have hre : restR h a = h.drop (a + 1) := by unfold restR; rw [hk1]
      have HRL := Lib.hid (show r1 = (restR h a).length by rw [hre]; exact HR1.out.symm)
      have HRS := Lib.hid (show Su w (.slice XA (restR h a).length d1) (restR h a) by rw [hre]; exact HSU1.out)
      have HNM := Lib.hid hnm
      clear hnm hk1 hre hKd hn
      go_wp2_with fail
      go_meet
      refine ⟨⟨XA, d1, by rw [HRL.out], HRS.out⟩, ?_⟩
      rw [HNM.out, HKD.out]
      exact HRBc.out
  case rest =>
  obtain ⟨⟨XR, rc, rfl, hSR⟩, hRB⟩ := hcut
  have HSR := Lib.hid hSR
  have HRB := Lib.hid hRB
  clear hKd a0 a1 a2 a3 a4 q0 q1 q2 q3 q4 fa fr hz
  obtain ⟨a0, a1, a2, a3, a4, q0, q1, q2, q3, q4, fa, fr, hz, hBB⟩ := hRB
  clear hBB hSR hcut1 hK hT hP
  have hroom := HR.out.2.1
  have N7 := Lib.hid (show (((tbR h a : Nat) : Int) + 7) / 8 = ((n8R h a : Nat) : Int) by unfold n8R; omega)
  have n9 : n8R h a ≤ 600 := by unfold n8R; have := hroom.1; omega
  have HROOM := Lib.hid hroom
  have p1 : ((plR h a : Nat) : Int) ≤ 400 := by have := hroom.2.1; omega
  have p2 : (0 : Int) ≤ ((plR h a : Nat) : Int) := by omega
  have p3 : ((tbR h a : Nat) : Int) ≤ 64 := by have := hroom.1; omega
  have p4 : (0 : Int) ≤ ((tbR h a : Nat) : Int) := by omega
  have d4 : decide (((restR h a).length : Int) < ((n8R h a : Nat) : Int) + ((plR h a : Nat) : Int)) = false := decide_eq_false (by have := hroom.2.2; omega)
  have N7o := N7.out
  rw [← N7o] at d4
  clear N7o hroom
  go_wp2_with fail
  go_loopw [11, 12, 85] (fun _ _ x wr => ∃ q : Nat, q ≤ tbR h a ∧ x = .int .i64 q ∧ RB w wr a (kdR h a : Nat) (nmR h a) (txQ h a q) (.slice none 0 0)) (fun _ _ x _ => tbR h a - (intOf x).toNat)
  case atStart => exact ⟨0, Nat.zero_le _, rfl, HRB.out⟩
  case round =>
    obtain ⟨q, hq, rfl, hR⟩ := hrel
    have HRr := Lib.hid hR
    clear a0 a1 a2 a3 a4 q0 q1 q2 q3 q4 fa fr hz hR
    by_cases hlt : q < tbR h a
    · obtain ⟨XR0, rc0, eR, x1, x2, x3, x4⟩ := HSR.out
      injection eR with eR1 _ eR3
      have hq8 : q / 8 < (restR h a).length := by have h1 := HROOM.out.2.2; unfold n8R at h1; omega
      obtain ⟨br, orr, rfl, hbr, hcr⟩ := x4 (by omega)
      subst eR1 eR3
      have hcq := hcr (q / 8) hq8 0 _ rfl
      simp only [Nat.mul_one, Nat.add_zero] at hcq
      have c0 : wr.cell? ⟨br, orr + q / 8, none⟩ = some (.int .u64 ((nth (restR h a) (q / 8) : Nat) : Int)) := (HRr.out.hB.cell (p := ⟨br, _, none⟩) hbr).trans hcq
      obtain ⟨W, hW⟩ : ∃ W, nth (restR h a) (q / 8) = W := ⟨_, rfl⟩
      have HBY := Lib.hid (show byR h a q = shB W (q % 8) % 256 by unfold byR shB; rw [hW])
      have HW64 := Lib.hid (show W < 18446744073709551616 by
        rw [← hW]
        have : All64 (restR h a) := fun x hx => H64.out x (List.mem_of_mem_drop hx)
        exact this.nth _)
      rw [hW] at c0
      have m0 : (0 : Int) ≤ (q : Int) := by omega
      have m1 : (q : Int) / 8 < ((restR h a).length : Int) := by omega
      have m2 : (0 : Int) ≤ (q : Int) / 8 := by omega
      have m3 : ((q : Int) / 8).toNat = q / 8 := by omega
      have m4 : (q : Int) % 8 = ((q % 8 : Nat) : Int) := by omega
      obtain ⟨m, hm⟩ : ∃ m, q % 8 = m := ⟨_, rfl⟩
      rw [hm] at m4 HBY
      have HM := Lib.hid hm
      clear hcr x3 hcq hW hm hq8
      go_wp2_with fail
      go_loopw [12, 95] (fun x y wy => ∃ j : Nat, j ≤ m ∧ x = .int .u64 ((shB W j : Nat) : Int) ∧ y = .int .i64 j ∧ wy = wr) (fun _ y _ => m - (intOf y).toNat)
      case atStart => exact ⟨0, Nat.zero_le _, by rw [shB_zero], rfl, rfl⟩
      case round =>
        obtain ⟨j, hj, rfl, rfl, hwy⟩ := hrel
        subst hwy
        by_cases hjm : j < m
        · have s0 := shB_div W j
          have hs1 : (0 : Int) ≤ ((shB W j : Nat) : Int) := by omega
          have hs2 : ((shB W j : Nat) : Int) ≤ 18446744073709551615 := by have h1 := shB_le W j; have h2 := HW64.out; omega
          have hs3 : (0 : Int) ≤ ((shB W (j + 1) : Nat) : Int) := by omega
          have hs4 : ((shB W (j + 1) : Nat) : Int) ≤ 18446744073709551615 := by have h1 := shB_le W (j + 1); have h2 := HW64.out; omega
          go_wp2_with fail
          refine ⟨⟨j + 1, by omega, rfl, by go_num, trivial⟩, by simp [intOf]; omega⟩
        · have hjm' : j = m := by omega
          subst hjm'
          obtain ⟨a0, a1, a2, a3, a4, q0, q1, q2, q3, q4, fa, fr, hz, hBB⟩ := HRr.out
          have f3 := fr 3
          have hcv : (convert 96 9 (.slice (some ⟨wr.heap.size, 0, none⟩) 1 1)).run Try.prog (wr.alloc (.cells #[.int .u8 (((shB W j : Nat) : Int) % 256)] 5)) = .ok (.string ⟨#[UInt8.ofNat (byR h a q)]⟩) (wr.alloc (.cells #[.int .u8 (((shB W j : Nat) : Int) % 256)] 5)) := by
            have hb : byR h a q < 256 := by rw [HBY.out]; omega
            have e1 : (((shB W j : Nat) : Int) % 256) = ((byR h a q : Nat) : Int) := by rw [HBY.out]; omega
            rw [e1]
            refine run_convert_bytes_back (P := Try.prog) _ 96 9 5 ⟨wr.heap.size, 0, none⟩ 1 [UInt8.ofNat (byR h a q)] Try.underlying96 Try.underlying5 Try.underlying9 (fun i hi => ?_)
            have hi0 : i = 0 := by simpa using hi
            subst hi0
            simp [go_sem, Nat.mod_eq_of_lt hb]
          have hsz : (txQ h a q).size ≤ 64 := by rw [txQ_size]; have := HROOM.out.1; omega
          clear hBB
          go_wp2_with fail
          refine ⟨⟨q + 1, by omega, by go_num, ?_⟩, by simp [intOf]; omega⟩
          rw [← txQ_succ]
          exact (HRr.out.text _).below ((Below.refl _ _).alloc (Nat.le_refl _) _)
    · have hqt : q = tbR h a := by omega
      subst hqt
      have hrm := HROOM.out.2.2
      have hpl : (paR h a).length = plR h a := by unfold paR; rw [List.length_take, List.length_drop]; omega
      have HPL := Lib.hid hpl
      have hn7 : (((tbR h a : Nat) : Int) + 7) / 8 = ((n8R h a : Nat) : Int) := N7.out
      obtain ⟨XP, hcp, hSP⟩ := cutu_mid XR rc (restR h a) w HSR.out (n8R h a) (n8R h a + plR h a) (by omega) hrm
      have hcp1 : ∀ w, (Instr.sliceAt 22 (.slice XR (restR h a).length rc) (some (.int .i64 ((((tbR h a : Nat) : Int) + 7) / 8))) (some (.int .i64 ((((tbR h a : Nat) : Int) + 7) / 8 + ((plR h a : Nat) : Int)))) none).run Try.prog w = .ok (.slice XP (paR h a).length (rc - n8R h a)) w := fun wx => by
        rw [hn7, hpl]
        have := hcp wx
        rw [show n8R h a + plR h a - n8R h a = plR h a by omega] at this
        push_cast at this
        exact this
      have HSP := Lib.hid (show Su w (.slice XP (paR h a).length (rc - n8R h a)) (paR h a) by
        rw [show n8R h a + plR h a - n8R h a = plR h a by omega] at hSP
        exact hSP)
      have HR2D := Lib.hid (show RB w wr.drew a (kdR h a : Nat) (nmR h a) (txR h a) (.slice none 0 0) from HRr.out.below (Below.refl _ _).drew)
      have hw1 : IntKind.i64.wrap ((((tbR h a : Nat) : Int) + 7) / 8 + ((plR h a : Nat) : Int)) = (((tbR h a : Nat) : Int) + 7) / 8 + ((plR h a : Nat) : Int) := by rw [IntKind.wrap_i64]; omega
      obtain ⟨a0, a1, a2, a3, a4, q0, q1, q2, q3, q4, fa, fr, hz, hBB⟩ := HRr.out
      clear hBB hcp hSP hn7 hrm hpl
      go_upto_region 23 with (fail)
      go_cut [] (fun wx => PartsOk w wx h a)
      case first =>
        go_region_law (refine step_append_us rfl _ _ 22 22 rfl Try.underlying22 Try.underlying22 (w.heap.size + 2) (.slice none 0 0) [] (by simp [Act.eval]) (OwnU.nil _ _) (.slice XP (paR h a).length (rc - n8R h a)) (paR h a) (by simp [Act.eval]) (HSP.out.below HR2D.out.hB) (by have := HPL.out; simp only [List.length_nil]; omega) (by have := HR2D.out.hz; omega) ?_; intro v4 w4 hown4 hgrow4 hat4; obtain ⟨A4, c4', hv4, -, -, -⟩ := own_any hown4; subst hv4; have HO4 := Lib.hid hown4; have HG4 := Lib.hid hgrow4; have HR4 := Lib.hid (HR2D.out.grown hgrow4 (fun g hg => by cases hg)); have y4' := HR4.out.r4; have f4' := HR4.out.fr 4; clear hown4 hgrow4 hat4)
        all_goals
          try simp only [Act.put, List.getElem_toArray, List.getElem_cons_zero, List.getElem_cons_succ, List.setIfInBounds_toArray, List.set_cons_zero, List.set_cons_succ]
          go_wp2_with fail
          go_meet
          have hz4 := HR4.out.hz
          have ho4 : OwnU w4 (w.heap.size + 2) (.slice A4 (paR h a).length c4') (paR h a) := by simpa using HO4.out
          exact ⟨⟨A4, c4', by simpa using HR4.out.parts (.slice A4 (paR h a).length c4'), own_set ho4 (show w.heap.size + 1 < w.heap.size + 2 by omega)⟩⟩
      case rest =>
      obtain ⟨pA, pc, hR5, hS5⟩ := hcut.out
      have HR5 := Lib.hid hR5
      have HS5 := Lib.hid hS5
      clear hR5 hS5 hcp1 a0 a1 a2 a3 a4 q0 q1 q2 q3 q4 fa fr hz
      obtain ⟨a0, a1, a2, a3, a4, q0, q1, q2, q3, q4, fa, fr, hz, hBB⟩ := HR5.out
      clear hBB
      go_wp2_with fail
      have hokR : okOb ⟨((kdR h a : Nat) : Int), nmR h a, txR h a, List.replicate (paR h a).length 0⟩ = true := by
        have h1 := HOK.out
        unfold okOb at h1 ⊢
        simp only [List.length_replicate]
        exact h1
      refine (objIs_ok (a : Int) ((kdR h a : Nat) : Int) (nmR h a) (txR h a) pA (paR h a).length pc _ hokR).mono ?_
      rintro e w6 ⟨rfl, hb6⟩
      have HR6 := Lib.hid (HR5.out.below hb6)
      have HS6 := Lib.hid (HS5.out.below hb6)
      clear hokR hb6 a0 a1 a2 a3 a4 q0 q1 q2 q3 q4 fa fr hz
      obtain ⟨a0, a1, a2, a3, a4, q0, q1, q2, q3, q4, fa, fr, hz, hBB⟩ := HR6.out
      clear hBB
      go_wp2_with fail
      refine (objWords_any (obR h a) a pA pc _ HOK.out (Su.of_own HS6.out)).mono ?_
      rintro e w7 ⟨A7, c7, rfl, ho7, hb7⟩
      have HR7 := Lib.hid (HR6.out.below hb7)
      have HS7 := Lib.hid (HS6.out.below hb7)
      have HW7 := Lib.hid (Su.of_own ho7)
      have hwL := HR.out.2.2.2.1
      have hwE := HR.out.2.2.2.2
      generalize wordsO (obR h a) = WO at HW7 hwL hwE ⊢
      have HWE := Lib.hid (show ∀ k, k < WO.length → nth WO k = nth h (a + k) from fun k hk => by
        rw [hwE, nth_take _ hk, nth_drop])
      clear ho7 hb7 hwE a0 a1 a2 a3 a4 q0 q1 q2 q3 q4 fa fr hz
      go_wp2_with fail
      go_loopw [13, 14, 127] (fun _ _ x wr => ∃ q : Nat, q ≤ WO.length ∧ x = .int .i64 q ∧ wr = w7) (fun _ _ x _ => WO.length - (intOf x).toNat)
      case atStart => exact ⟨0, Nat.zero_le _, rfl, rfl⟩
      case round =>
        obtain ⟨q, hq, rfl, hwr⟩ := hrel
        subst hwr
        by_cases hlt : q < WO.length
        · obtain ⟨A8, c8, e8, y1, y2, y3, y4⟩ := HW7.out
          injection e8 with e81 _ e83
          subst e81 e83
          obtain ⟨b8, o8, rfl, hb8, hc8⟩ := y4 (by omega)
          have cA : wr.cell? ⟨b8, o8 + q, none⟩ = some (.int .u64 ((nth WO q : Nat) : Int)) := by simpa [uC] using hc8 q hlt 0 _ rfl
          obtain ⟨A9, c9, e9, z1, z2, z3, z4⟩ := HH.out
          injection e9 with e91 _ e93
          subst e93
          obtain ⟨b9, o9, e9b, hb9, hc9⟩ := z4 (by omega)
          rw [e9b] at e91
          injection e91 with e91
          injection e91 with e9x e9y
          subst e9x e9y
          have hN := HN.out
          have cB : wr.cell? ⟨b, off + (a + q), none⟩ = some (.int .u64 ((nth WO q : Nat) : Int)) := by
            rw [HWE.out q hlt]
            exact (HR7.out.hB.cell (p := ⟨b, _, none⟩) hb9).trans (by simpa [uC] using hc9 (a + q) (by omega) 0 _ rfl)
          have m0 : (0 : Int) ≤ (q : Int) := by omega
          have m1 : (q : Int) < (WO.length : Int) := by omega
          have m2 : (0 : Int) ≤ (a : Int) + (q : Int) := by omega
          have m3 : (a : Int) + (q : Int) < (n : Int) := by omega
          have m4 : ((a : Int) + (q : Int)).toNat = a + q := by omega
          clear hN hc8 hc9 z1 z2 z3 z4 y1 y2 y3 y4 e9b
          go_wp2_with fail
          refine ⟨⟨q + 1, by omega, by go_num, trivial⟩, by simp [intOf]; omega⟩
        · have hqE : q = WO.length := by omega
          subst hqE
          obtain ⟨a0, a1, a2, a3, a4, q0, q1, q2, q3, q4, fa, fr, hz, hBB⟩ := HR7.out
          go_wp2_with fail
          obtain ⟨z0, z1, z2, z3, z4, zb, _⟩ := HR7.out.ret (.int .i64 a) (.int .i64 (kdR h a : Nat)) (.int .i64 (nmR h a)) (.string (txR h a)) (.slice pA (paR h a).length pc)
          refine bodyPost_ret (objat_results (H := w.heap.size) (v5 := .bool true) rfl rfl z0 z1 z2 z3 z4) rfl ?_
          exact ⟨pA, pc, rfl, (HS7.out.put5 (by omega) _ _ _ _ _).mono (by omega), zb⟩
end Go.Proofs.Ytmpeckjemgenbaa
