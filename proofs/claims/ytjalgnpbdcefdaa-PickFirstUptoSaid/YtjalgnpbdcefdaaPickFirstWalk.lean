/- PickFirst: the walk. -/
import Derived.Test.YtjalgnpbdcefdaaPickCut
import Derived.Test.YtjalgnpbdcefdaaPickAgainWalk
import Derived.Deep.DeepCutAuto
import Derived.Deep.RegionHeld3
import Derived.BigQuiet
namespace Go.Proofs.Ytjalgnpbdcefdaa
open Go.RowKit Go.ChangeShapes Go.WideShapes
set_option linter.unusedVariables false
set_option maxRecDepth 100000 in
set_option maxHeartbeats 8000000 in
theorem pickFirst_go (n c : Nat) (A : Option Addr) (at_ : Int) (arg : Nat → LT) (S : Nat → Prop) (m d : Nat) (A2 : Option Addr) (l : Nat → VT) (S2 : Nat → Prop) (w : World) (hnc : n ≤ c) (hcm : c ≤ 9223372036854775807) (hA : A = none → n = 0) (hR : RdL w S A n arg) (hm : ∀ i, i < n → (arg i).val.many ≤ 4194304)
    (hl : RdV w S2 A2 m l) (hmn : m ≤ 4194304) (hlm : ∀ i, i < m → (l i).many ≤ 4194304) :
    Calls Try.prog 6 #[.agg #[.slice A n c, .int .i64 at_], .slice A2 m d] w fun e w' => e = .returned (.bool true) ∧ Below w.heap.size w w' := by
  have HR := Lib.hid hR
  have HM := Lib.hid hm
  have HL := Lib.hid hl
  have HLM := Lib.hid hlm
  obtain ⟨W0, hW0⟩ : ∃ W0, W0 = w.alloc (.cells #[.slice A n c, .int .i64 at_] 38) := ⟨_, rfl⟩
  have HB0 := Lib.hid (show Below w.heap.size w W0 by rw [hW0]; exact (Below.refl _ _).alloc (Nat.le_refl _) _)
  have HZ0 := Lib.hid (show W0.heap.size = w.heap.size + 1 by rw [hW0]; simp)
  have p0 : W0.cell? ⟨w.heap.size, 0, none⟩ = some (.slice A n c) := by rw [hW0]; simp
  have p1 : W0.cell? ⟨w.heap.size, 1, none⟩ = some (.int .i64 at_) := by rw [hW0]; simp
  have HP := Lib.hid (And.intro p0 p1)
  have HPC := Lib.hid (show ∀ W, Below W0.heap.size W0 W → W.cell? ⟨w.heap.size, 0, none⟩ = some (.slice A n c) ∧ W.cell? ⟨w.heap.size, 1, none⟩ = some (.int .i64 at_) from fun W hb => ⟨(hb.cell (p := ⟨w.heap.size, 0, none⟩) (by show w.heap.size < _; rw [HZ0.out]; omega)).trans HP.out.1, (hb.cell (p := ⟨w.heap.size, 1, none⟩) (by show w.heap.size < _; rw [HZ0.out]; omega)).trans HP.out.2⟩)
  clear hR hm hl hlm
  go_enter Try.func6, Try.ntmps6
  go_wp2_with fail
  rw [← hW0]
  clear hW0
  refine (deeps_any m d A2 l S2 _ (by omega) (HL.out.below HB0.out) HLM.out).mono ?_
  rintro e w1 ⟨rfl, hb1⟩
  have HX1 := Lib.hid hb1
  have HB1 := Lib.hid (HB0.out.trans (hb1.mono HB0.out.size))
  clear hb1 p0 p1
  obtain ⟨p0, p1⟩ := HPC.out _ HX1.out
  generalize anyOf (fun i => deepB (l i)) m = dl
  cases dl with
  | true =>
    go_wp2_with fail
    go_ret
    exact ⟨rfl, HB1.out⟩
  | false =>
  go_wp2_with fail
  refine (notFlat3 n c A arg S _ (by omega) (HR.out.below HB1.out) HM.out).mono ?_
  rintro e w2 ⟨rfl, hb2⟩
  have HX2 := Lib.hid (HX1.out.trans (hb2.mono HX1.out.size))
  have HB2 := Lib.hid (HB1.out.trans (hb2.mono HB1.out.size))
  clear hb2 p0 p1
  obtain ⟨p0, p1⟩ := HPC.out _ HX2.out
  generalize anyOf (fun i => !flatB (arg i).val) n = fl
  cases fl with
  | true =>
    go_wp2_with fail
    go_ret
    exact ⟨rfl, HB2.out⟩
  | false =>
  go_wp2_with fail
  refine (choose_any n c A at_ arg m d A2 l S S2 w2 hnc hcm (HR.out.below HB2.out) HM.out (HL.out.below HB2.out) hmn HLM.out).mono ?_
  rintro e w3 ⟨hb3, ⟨hno, x, hx, rfl⟩ | ⟨hok, ⟨i, hai, hin, hlo, hpos, A5, c5, xs, rfl, hnc5, hcm5, hR5, hl5⟩ | ⟨hlo, A5, c5, rfl, hnc5, hcm5, hR5⟩⟩⟩
  · have HBx := Lib.hid (HB2.out.trans (hb3.mono HB2.out.size))
    obtain ⟨W3, hW3⟩ : ∃ W3, W3 = (w3.alloc (.cells #[.slice none 0 0, .int .i64 0] 38)).alloc (.cells #[.int .i64 0, .int .i64 0, .int .i64 0, .int .i64 0, .string ⟨#[]⟩, .int .i64 0, .int .i64 0, .string ⟨#[]⟩, .slice none 0 0] 44) := ⟨_, rfl⟩
    have hb33 : Below w3.heap.size w3 W3 := by rw [hW3]; exact ((Below.refl _ _).alloc (Nat.le_refl _) _).alloc (by simp) _
    have HKT := Lib.hid (show KT W3 w3.heap.size _ _ _ _ _ _ _ _ _ _ _ by rw [hW3]; exact KT.new w3 _ _ _ _ _ _ _ _ _ _ _ _ _)
    have HX3 := Lib.hid ((HX2.out.trans (hb3.mono HX2.out.size)).trans (hb33.mono (HX2.out.trans (hb3.mono HX2.out.size)).size))
    have HB3 := Lib.hid (HBx.out.trans (hb33.mono HBx.out.size))
    have e0 : (x != 0) = true := by simpa using hx
    clear hb3 hb33 hx hno
    unfold zeroL
    go_wp2_with fail
    rw [← hW3]
    clear hW3
    refine (picks_any _).mono ?_
    rintro e w4 ⟨rfl, hb4⟩
    have HB4 := Lib.hid (HB3.out.trans (hb4.mono HB3.out.size))
    have HK4 := Lib.hid (HKT.out.grown (grown_below (g := none) hb4) (by simp))
    clear hb4
    go_wp2_with fail
    refine (picks_any _).mono ?_
    rintro e w5 ⟨rfl, hb5⟩
    have HB5 := Lib.hid (HB4.out.trans (hb5.mono HB4.out.size))
    obtain ⟨q0, q1, _⟩ := HK4.out.grown (grown_below (g := none) hb5) (by simp)
    clear hb5
    go_wp2_with fail
    go_ret
    exact ⟨rfl, HB5.out⟩
  · have HBx := Lib.hid (HB2.out.trans (hb3.mono HB2.out.size))
    obtain ⟨n', rfl⟩ : ∃ n', n = n' + 1 := ⟨n - 1, by omega⟩
    rw [Nat.add_sub_cancel] at hnc5 hR5
    rw [Nat.add_sub_cancel]
    obtain ⟨k2, m2, s2, A3, n3, c3, rfl, hv3⟩ := id hl5
    obtain ⟨a, rfl⟩ : ∃ a : Nat, at_ = a := ⟨at_.toNat, by have := hok.2.1; omega⟩
    have hai' : a ≤ i := by simpa using hai
    have hn60 := hok.1
    have HF := Lib.hid hpos
    obtain ⟨F, hF⟩ : ∃ F, firstOf l (arg i).says m = F := ⟨_, rfl⟩
    have HFE := Lib.hid hF
    rw [hF] at HF
    rw [hF]
    have hF1 : decide (F < 0) = false := by have := HF.out; simp; omega
    obtain ⟨xk, hxk⟩ : ∃ xk, (arg i).kind = xk := ⟨_, rfl⟩
    obtain ⟨xf, hxf⟩ : ∃ xf, (arg i).frm = xf := ⟨_, rfl⟩
    obtain ⟨xt, hxt⟩ : ∃ xt, (arg i).to = xt := ⟨_, rfl⟩
    obtain ⟨xn, hxn⟩ : ∃ xn, (arg i).num = xn := ⟨_, rfl⟩
    obtain ⟨xx, hxx⟩ : ∃ xx, (arg i).text = xx := ⟨_, rfl⟩
    rw [hxk, hxf, hxt, hxn, hxx] at hl5
    rw [hxk, hxf, hxt, hxn, hxx]
    obtain ⟨W3, hW3⟩ : ∃ W3, W3 = (w3.alloc (.cells #[.slice A5 n' c5, .int .i64 0] 38)).alloc (.cells #[.int .i64 xk, .int .i64 xf, .int .i64 xt, .int .i64 xn, .string xx, .int .i64 k2, .int .i64 m2, .string s2, .slice A3 n3 c3] 44) := ⟨_, rfl⟩
    have hb33 : Below w3.heap.size w3 W3 := by rw [hW3]; exact ((Below.refl _ _).alloc (Nat.le_refl _) _).alloc (by simp) _
    have HKT := Lib.hid (show KT W3 w3.heap.size _ _ _ _ _ _ _ _ _ _ _ by rw [hW3]; exact KT.new w3 _ _ _ _ _ _ _ _ _ _ _ _ _)
    have HX3 := Lib.hid ((HX2.out.trans (hb3.mono HX2.out.size)).trans (hb33.mono (HX2.out.trans (hb3.mono HX2.out.size)).size))
    have HB3 := Lib.hid (HBx.out.trans (hb33.mono HBx.out.size))
    have HRA := Lib.hid (hR5.below hb33)
    have HLA := Lib.hid (isL_frame (S' := fun b => w2.heap.size ≤ b) hb33.size (fun b hs hl => ⟨hs, hb33.block b hl⟩) hl5)
    clear hb3 hb33 hlo hpos hai hR5 hl5 hv3 hF hxk hxf hxt hxn hxx
    go_wp2_with fail
    rw [← hW3]
    clear hW3
    refine (picks_any _).mono ?_
    rintro e w4 ⟨rfl, hb4⟩
    have HX4 := Lib.hid (HX3.out.trans (hb4.mono HX3.out.size))
    have HB4 := Lib.hid (HB3.out.trans (hb4.mono HB3.out.size))
    have HK4 := Lib.hid (HKT.out.grown (grown_below (g := none) hb4) (by simp))
    have HRB := Lib.hid (HRA.out.below hb4)
    have HLB := Lib.hid (isL_frame (S' := fun b => w2.heap.size ≤ b) hb4.size (fun b hs hl => ⟨hs, hb4.block b hl⟩) HLA.out)
    clear hb4 p0 p1
    obtain ⟨p0, p1⟩ := HPC.out _ HX4.out
    obtain ⟨q0, q1, _⟩ := HK4.out
    go_wp2_with fail
    go_loopw [9, 60] (fun _ x wr => ∃ q : Nat, q ≤ i ∧ x = .int .i64 (q : Int) ∧ Below w4.heap.size w4 wr) (fun _ x _ => n' + 1 - (intOf x).toNat)
    case atStart => exact ⟨0, Nat.zero_le _, rfl, Below.refl _ _⟩
    case round =>
      obtain ⟨q, hqi, rfl, hb⟩ := hrel
      have HXr := Lib.hid (HX4.out.trans (hb.mono HX4.out.size))
      have HBr := Lib.hid (HB4.out.trans (hb.mono HB4.out.size))
      have HKr := Lib.hid (HK4.out.grown (grown_below (g := none) hb) (by simp))
      have HRC := Lib.hid (HRB.out.below hb)
      have HLC := Lib.hid (isL_frame (S' := fun b => w2.heap.size ≤ b) hb.size (fun b hs hl => ⟨hs, hb.block b hl⟩) HLB.out)
      have HBW := Lib.hid hb
      clear hb p0 p1 q0 q1
      obtain ⟨p0, p1⟩ := HPC.out _ HXr.out
      obtain ⟨q0, q1, y0, y1, y2, y3, y4, y5, y6, y7, y8, ysz⟩ := HKr.out
      by_cases hqa : q < a
      · have d0 : decide ((a : Int) ≤ (q : Int)) = false := by simp; omega
        have d1 : decide (a ≤ q) = false := by simp; omega
        go_wp2_with fail
        go_quiet (fail)
        all_goals
          go_wp2_with fail
          go_roundw
          case rel => exact ⟨q + 1, by omega, by go_num, below_drewN HBW.out _⟩
          case measure => simp [intOf]; omega
      · have d0 : decide ((a : Int) ≤ (q : Int)) = true := by simp; omega
        have d1 : decide (a ≤ q) = true := by simp; omega
        obtain ⟨b, off, rfl, hb, hSb, C, hC⟩ := HR.out (by omega)
        obtain ⟨hL, hcell⟩ := hC q (by omega)
        obtain ⟨k4, m4, s4, A4, n4, c4, hCq, hv4⟩ := id hL
        rw [hCq] at hcell hL
        have HLQ := Lib.hid (show ∀ W, Below wr.heap.size wr W → (arg q).isL W S _ from fun W hbw => isL_frame (HBr.out.trans (hbw.mono HBr.out.size)).size (fun b' hs hl => ⟨hs, (HBr.out.trans (hbw.mono HBr.out.size)).block b' hl⟩) hL)
        obtain ⟨uk, huk⟩ : ∃ uk, (arg q).kind = uk := ⟨_, rfl⟩
        obtain ⟨uf, huf⟩ : ∃ uf, (arg q).frm = uf := ⟨_, rfl⟩
        obtain ⟨ut, hut⟩ : ∃ ut, (arg q).to = ut := ⟨_, rfl⟩
        obtain ⟨un, hun⟩ : ∃ un, (arg q).num = un := ⟨_, rfl⟩
        obtain ⟨ux, hux⟩ : ∃ ux, (arg q).text = ux := ⟨_, rfl⟩
        rw [huk, huf, hut, hun, hux] at hcell HLQ
        have z0 : wr.cell? ⟨b, off + q * 9, none⟩ = some (.int .i64 uk) := (HBr.out.cell (p := ⟨b, _, none⟩) hb).trans (hcell 0 _ rfl)
        have z1 : wr.cell? ⟨b, off + q * 9 + 1, none⟩ = some (.int .i64 uf) := (HBr.out.cell (p := ⟨b, _, none⟩) hb).trans (hcell 1 _ rfl)
        have z2 : wr.cell? ⟨b, off + q * 9 + 2, none⟩ = some (.int .i64 ut) := (HBr.out.cell (p := ⟨b, _, none⟩) hb).trans (hcell 2 _ rfl)
        have z3 : wr.cell? ⟨b, off + q * 9 + 3, none⟩ = some (.int .i64 un) := (HBr.out.cell (p := ⟨b, _, none⟩) hb).trans (hcell 3 _ rfl)
        have z4 : wr.cell? ⟨b, off + q * 9 + 4, none⟩ = some (.string ux) := (HBr.out.cell (p := ⟨b, _, none⟩) hb).trans (hcell 4 _ rfl)
        have z5 : wr.cell? ⟨b, off + q * 9 + 5, none⟩ = some (.int .i64 k4) := (HBr.out.cell (p := ⟨b, _, none⟩) hb).trans (hcell 5 _ rfl)
        have z6 : wr.cell? ⟨b, off + q * 9 + 6, none⟩ = some (.int .i64 m4) := (HBr.out.cell (p := ⟨b, _, none⟩) hb).trans (hcell 6 _ rfl)
        have z7 : wr.cell? ⟨b, off + q * 9 + 7, none⟩ = some (.string s4) := (HBr.out.cell (p := ⟨b, _, none⟩) hb).trans (hcell 7 _ rfl)
        have z8 : wr.cell? ⟨b, off + q * 9 + 8, none⟩ = some (.slice A4 n4 c4) := (HBr.out.cell (p := ⟨b, _, none⟩) hb).trans (hcell 8 _ rfl)
        obtain ⟨r, hr⟩ : ∃ r, q + r = n' := ⟨n' - q, by omega⟩
        obtain ⟨dd, hdd⟩ : ∃ dd, q + 1 + dd = c := ⟨c - (q + 1), by omega⟩
        obtain ⟨XA, hcut, hcutR⟩ := cutL_from b off (n' + 1) c q r dd (by omega) hdd hnc
        have HCC := Lib.hid (show ∀ W bb, Below wr.heap.size wr W → W.cell? ⟨bb, 0, none⟩ = some (.slice (some ⟨b, off, none⟩) q c) → W.cell? ⟨bb, 1, none⟩ = some (.slice (some XA) r dd) → bb < W.heap.size → Calls Try.prog 30 #[.slice (some ⟨bb, 0, none⟩) 2 2] W (CatPost n' (cutA arg q) S W) from fun W bb hbw h0 h1 h2 => by
          have hRW : RdL W S (some ⟨b, off, none⟩) (n' + 1) arg := HR.out.below (HBr.out.trans (hbw.mono HBr.out.size))
          have hr0 : RdL W S (some ⟨b, off, none⟩) q (fun j => cutA arg q (0 + j)) := (hRW.take (by omega)).congr fun j hj => by
            rw [Nat.zero_add]
            unfold cutA
            rw [if_pos hj]
          have hr1 : RdL W S (some XA) r (fun j => cutA arg q (q + j)) := (hcutR W S arg hRW).congr fun j hj => by
            unfold cutA
            rw [if_neg (by omega)]
            congr 1
            omega
          have e1 : sumTo (fun k => if k = 0 then q else r) 1 = q := by simp [sumTo]
          have e : sumTo (fun k => if k = 0 then q else r) 2 = n' := by simp [sumTo]; omega
          have h := concatL_any (some ⟨bb, 0, none⟩) 2 2 (fun k => if k = 0 then q else r) (cutA arg q) S W (by omega) (by omega) (fun _ => ⟨bb, 0, rfl, h2, fun k hk => by
            match k, hk with
            | 0, _ => exact ⟨some ⟨b, off, none⟩, c, h0, by simp, hr0⟩
            | 1, _ => exact ⟨some XA, dd, h1, by simp, by rw [e1]; exact hr1⟩⟩) (by rw [e]; omega)
          rw [e] at h
          exact h)
        have HS := Lib.hid (show ∀ W, Below wr.heap.size wr W → W.cell? ⟨w.heap.size, 0, none⟩ = some (.slice (some ⟨b, off, none⟩) (n' + 1) c) ∧ W.cell? ⟨w.heap.size, 1, none⟩ = some (.int .i64 (a : Int)) ∧ W.cell? ⟨w3.heap.size, 0, none⟩ = some (.slice A5 n' c5) ∧
            W.cell? ⟨b, off + q * 9, none⟩ = some (.int .i64 uk) ∧ W.cell? ⟨b, off + q * 9 + 1, none⟩ = some (.int .i64 uf) ∧ W.cell? ⟨b, off + q * 9 + 2, none⟩ = some (.int .i64 ut) ∧ W.cell? ⟨b, off + q * 9 + 3, none⟩ = some (.int .i64 un) ∧ W.cell? ⟨b, off + q * 9 + 4, none⟩ = some (.string ux) ∧ W.cell? ⟨b, off + q * 9 + 5, none⟩ = some (.int .i64 k4) ∧ W.cell? ⟨b, off + q * 9 + 6, none⟩ = some (.int .i64 m4) ∧ W.cell? ⟨b, off + q * 9 + 7, none⟩ = some (.string s4) ∧ W.cell? ⟨b, off + q * 9 + 8, none⟩ = some (.slice A4 n4 c4) ∧
            W.cell? ⟨w3.heap.size + 1, 0, none⟩ = some (.int .i64 xk) ∧ W.cell? ⟨w3.heap.size + 1, 1, none⟩ = some (.int .i64 xf) ∧ W.cell? ⟨w3.heap.size + 1, 2, none⟩ = some (.int .i64 xt) ∧ W.cell? ⟨w3.heap.size + 1, 3, none⟩ = some (.int .i64 xn) ∧ W.cell? ⟨w3.heap.size + 1, 4, none⟩ = some (.string xx) ∧ W.cell? ⟨w3.heap.size + 1, 5, none⟩ = some (.int .i64 k2) ∧ W.cell? ⟨w3.heap.size + 1, 6, none⟩ = some (.int .i64 m2) ∧ W.cell? ⟨w3.heap.size + 1, 7, none⟩ = some (.string s2) ∧ W.cell? ⟨w3.heap.size + 1, 8, none⟩ = some (.slice A3 n3 c3) from fun W hbw => by
          have hlb : b < wr.heap.size := by have := HBr.out.size; omega
          have hlw : w.heap.size < wr.heap.size := by have := HXr.out.size; have := HZ0.out; omega
          have k0 : ∀ b' o, b' < wr.heap.size → W.cell? ⟨b', o, none⟩ = wr.cell? ⟨b', o, none⟩ := fun b' o h => hbw.cell (p := ⟨b', o, none⟩) h
          exact ⟨(k0 _ _ hlw).trans p0, (k0 _ _ hlw).trans p1, (k0 _ _ (by omega)).trans q0, (k0 _ _ hlb).trans z0, (k0 _ _ hlb).trans z1, (k0 _ _ hlb).trans z2, (k0 _ _ hlb).trans z3, (k0 _ _ hlb).trans z4, (k0 _ _ hlb).trans z5, (k0 _ _ hlb).trans z6, (k0 _ _ hlb).trans z7, (k0 _ _ hlb).trans z8,
            (k0 _ _ ysz).trans y0, (k0 _ _ ysz).trans y1, (k0 _ _ ysz).trans y2, (k0 _ _ ysz).trans y3, (k0 _ _ ysz).trans y4, (k0 _ _ ysz).trans y5, (k0 _ _ ysz).trans y6, (k0 _ _ ysz).trans y7, (k0 _ _ ysz).trans y8⟩)
        clear hC hL hcell hCq hv4 huk huf hut hun hux hcutR hr hdd
        have j1 : (0 : Int) ≤ (q : Int) := by omega
        have j2 : (q : Int) ≤ (c : Int) := by omega
        have j3 : (q : Int) < (n' : Int) + 1 := by omega
        have j4 : (0 : Int) ≤ (q : Int) + 1 := by omega
        have HQI := Lib.hid hqi
        have HHQ := Lib.hid hqa
        have hs1 := fun (h : True) => h
        obtain ⟨s1, hs1⟩ : ∃ s1, (n' == n' && allTo (fun j => sameLB (cutA arg q j) (cutA arg i j)) n') = s1 := ⟨_, rfl⟩
        obtain ⟨s2', hs2⟩ : ∃ s2', sameLB (arg q) (arg i) = s2' := ⟨_, rfl⟩
        have HS1 := Lib.hid hs1
        have HS2 := Lib.hid hs2
        clear hs1 hs2
        have hw1 : IntKind.i64.wrap ((q : Int) + 1) = (q : Int) + 1 := by rw [IntKind.wrap_i64]; omega
        have HD1 := Lib.hid (show Below wr.heap.size wr wr.drew from (Below.refl _ _).drew)
        have HD2 := Lib.hid (show ∀ o, Below wr.heap.size wr (wr.alloc o).drew from fun o => ((Below.refl _ _).alloc (Nat.le_refl _) o).drew)
        cases s1 with
        | true =>
          go_wp2_with fail
          go_region_held3 (fun W => W.cell? ⟨w.heap.size, 0, none⟩ = some (.slice (some ⟨b, off, none⟩) (n' + 1) c) ∧ W.cell? ⟨w.heap.size, 1, none⟩ = some (.int .i64 (a : Int)) ∧ W.cell? ⟨w3.heap.size, 0, none⟩ = some (.slice A5 n' c5) ∧
            W.cell? ⟨b, off + q * 9, none⟩ = some (.int .i64 uk) ∧ W.cell? ⟨b, off + q * 9 + 1, none⟩ = some (.int .i64 uf) ∧ W.cell? ⟨b, off + q * 9 + 2, none⟩ = some (.int .i64 ut) ∧ W.cell? ⟨b, off + q * 9 + 3, none⟩ = some (.int .i64 un) ∧ W.cell? ⟨b, off + q * 9 + 4, none⟩ = some (.string ux) ∧ W.cell? ⟨b, off + q * 9 + 5, none⟩ = some (.int .i64 k4) ∧ W.cell? ⟨b, off + q * 9 + 6, none⟩ = some (.int .i64 m4) ∧ W.cell? ⟨b, off + q * 9 + 7, none⟩ = some (.string s4) ∧ W.cell? ⟨b, off + q * 9 + 8, none⟩ = some (.slice A4 n4 c4) ∧
            W.cell? ⟨w3.heap.size + 1, 0, none⟩ = some (.int .i64 xk) ∧ W.cell? ⟨w3.heap.size + 1, 1, none⟩ = some (.int .i64 xf) ∧ W.cell? ⟨w3.heap.size + 1, 2, none⟩ = some (.int .i64 xt) ∧ W.cell? ⟨w3.heap.size + 1, 3, none⟩ = some (.int .i64 xn) ∧ W.cell? ⟨w3.heap.size + 1, 4, none⟩ = some (.string xx) ∧ W.cell? ⟨w3.heap.size + 1, 5, none⟩ = some (.int .i64 k2) ∧ W.cell? ⟨w3.heap.size + 1, 6, none⟩ = some (.int .i64 m2) ∧ W.cell? ⟨w3.heap.size + 1, 7, none⟩ = some (.string s2) ∧ W.cell? ⟨w3.heap.size + 1, 8, none⟩ = some (.slice A3 n3 c3))
            (with_reducible first | exact HS.out _ HD1.out | exact HS.out _ (HD2.out _) | exact HS.out _ HE5.out | exact HS.out _ HE6.out | exact HS.out _ HE7.out | exact HS.out _ (Below.refl _ _))
            (first
              | (go_at_call 30; refine (HCC.out _ _ (by exact HD2.out _) (by simp) (by simp) (by simp)).mono ?_; rintro e w5 ⟨A9, c9, rfl, h91, h92, h93, hb5⟩; have HR9 := Lib.hid h93; have HE5 := Lib.hid ((HD2.out _).trans (hb5.mono (HD2.out _).size)); clear h93 hb5)
              | (go_at_call 29; refine (sameLs_any n' n' c9 c5 A9 A5 (cutA arg q) (cutA arg i) _ _ w5 (by omega) (by omega) HR9.out (HRC.out.below HE5.out)).mono ?_; rintro e w6 ⟨he, hb6⟩; rw [HS1.out] at he; subst he; have HE6 := Lib.hid (HE5.out.trans (hb6.mono HE5.out.size)); clear hb6)
              | (go_at_call 21; refine (sameL_any (arg q) (arg i) _ _ _ _ w6 (HLQ.out _ HE6.out) (isL_frame (S' := fun b => w2.heap.size ≤ b) HE6.out.size (fun b hs hl => ⟨hs, HE6.out.block b hl⟩) HLC.out)).mono ?_; rintro e w7 ⟨he, hb7⟩; rw [HS2.out] at he; subst he; have HE7 := Lib.hid (HE6.out.trans (hb7.mono HE6.out.size)); clear hb7))
          have HX7 := Lib.hid (HXr.out.trans (HE7.out.mono HXr.out.size))
          have HB7 := Lib.hid (HBr.out.trans (HE7.out.mono HBr.out.size))
          have HK7 := Lib.hid (HKr.out.grown (grown_below (g := none) HE7.out) (by simp))
          have HL7 := Lib.hid (isL_frame (S' := fun b => w2.heap.size ≤ b) HE7.out.size (fun b hs hl => ⟨hs, HE7.out.block b hl⟩) HLC.out)
          clear p0 p1 q0 q1 y0 y1 y2 y3 y4 y5 y6 y7 y8 ysz z0 z1 z2 z3 z4 z5 z6 z7 z8 hw1 hcut
          obtain ⟨p0, p1⟩ := HPC.out _ HX7.out
          obtain ⟨q0, q1, y0, y1, y2, y3, y4, y5, y6, y7, y8, ysz⟩ := HK7.out
          cases s2' with
          | true =>
            go_wp2_with fail
            refine (says_any (arg i) _ _ w7 HL7.out (HM.out i hin)).mono ?_
            rintro e w8 ⟨cs', rfl, hv8, hb8⟩
            obtain ⟨k8, m8, s8, A8, n8, c8, rfl⟩ := isV_cells hv8
            have HB8 := Lib.hid (HB7.out.trans (hb8.mono HB7.out.size))
            have HF8 := Lib.hid (pickFirst_any m d A2 l (arg i).says _ S2 _ w8 hmn (HL.out.below HB8.out) hv8 HLM.out (says_many_le (HM.out i hin)))
            rw [HFE.out] at HF8
            clear hv8 hb8
            go_wp2_with fail
            refine HF8.out.mono ?_
            rintro e w9 ⟨rfl, hb9⟩
            have HB9 := Lib.hid (HB8.out.trans (hb9.mono HB8.out.size))
            clear hb9
            have er : (F == F) = true := by simp
            go_wp2_with fail
            go_ret
            exact ⟨rfl, HB9.out⟩
          | false =>
            go_wp2_with fail
            go_roundw
            case rel =>
              refine ⟨q + 1, ?_, by go_num, HBW.out.trans (HE7.out.mono HBW.out.size)⟩
              rcases Nat.lt_or_ge q i with h | h
              · exact h
              · obtain rfl : q = i := by omega
                have h2 := HS2.out
                rw [sameLB_refl (HLQ.out _ (Below.refl _ _))] at h2
                cases h2
            case measure => simp [intOf]; omega
        | false =>
          go_wp2_with fail
          refine wp_region_held_drew (S := (fun W => W.cell? ⟨w.heap.size, 0, none⟩ = some (.slice (some ⟨b, off, none⟩) (n' + 1) c) ∧ W.cell? ⟨w.heap.size, 1, none⟩ = some (.int .i64 (a : Int)) ∧ W.cell? ⟨w3.heap.size, 0, none⟩ = some (.slice A5 n' c5) ∧
            W.cell? ⟨b, off + q * 9, none⟩ = some (.int .i64 uk) ∧ W.cell? ⟨b, off + q * 9 + 1, none⟩ = some (.int .i64 uf) ∧ W.cell? ⟨b, off + q * 9 + 2, none⟩ = some (.int .i64 ut) ∧ W.cell? ⟨b, off + q * 9 + 3, none⟩ = some (.int .i64 un) ∧ W.cell? ⟨b, off + q * 9 + 4, none⟩ = some (.string ux) ∧ W.cell? ⟨b, off + q * 9 + 5, none⟩ = some (.int .i64 k4) ∧ W.cell? ⟨b, off + q * 9 + 6, none⟩ = some (.int .i64 m4) ∧ W.cell? ⟨b, off + q * 9 + 7, none⟩ = some (.string s4) ∧ W.cell? ⟨b, off + q * 9 + 8, none⟩ = some (.slice A4 n4 c4) ∧
            W.cell? ⟨w3.heap.size + 1, 0, none⟩ = some (.int .i64 xk) ∧ W.cell? ⟨w3.heap.size + 1, 1, none⟩ = some (.int .i64 xf) ∧ W.cell? ⟨w3.heap.size + 1, 2, none⟩ = some (.int .i64 xt) ∧ W.cell? ⟨w3.heap.size + 1, 3, none⟩ = some (.int .i64 xn) ∧ W.cell? ⟨w3.heap.size + 1, 4, none⟩ = some (.string xx) ∧ W.cell? ⟨w3.heap.size + 1, 5, none⟩ = some (.int .i64 k2) ∧ W.cell? ⟨w3.heap.size + 1, 6, none⟩ = some (.int .i64 m2) ∧ W.cell? ⟨w3.heap.size + 1, 7, none⟩ = some (.string s2) ∧ W.cell? ⟨w3.heap.size + 1, 8, none⟩ = some (.slice A3 n3 c3))) (by kernel_rfl) (HS.out _ HD1.out) (fun hHeld => ?_)
          refine wpAnyH_take (i := 0) (v := ?_) rfl (by kernel_rfl) (by kernel_rfl) (by kernel_rfl) (fun _ _ _ h => h) (Or.inl ⟨by rfl, ?_⟩) (by assumption) ?_
          rotate_left
          · (intro w hSw; (try dsimp only at hSw); simp only [List.getElem_toArray, List.getElem_cons_zero]; go_simp)
            all_goals with_reducible rfl
          try simp only [Act.put, List.getElem_toArray, List.getElem_cons_zero, List.setIfInBounds_toArray, List.set_cons_zero, List.set_cons_succ]
          refine wpAnyH_take (i := 1) (v := ?_) rfl (by kernel_rfl) (by kernel_rfl) (by kernel_rfl) (fun _ _ _ h => h) (Or.inl ⟨by rfl, ?_⟩) (by assumption) ?_
          rotate_left
          · (intro w hSw; (try dsimp only at hSw); simp only [List.getElem_toArray, List.getElem_cons_zero, List.getElem_cons_succ]; go_simp)
            all_goals with_reducible rfl
          try simp only [Act.put, List.getElem_toArray, List.getElem_cons_zero, List.getElem_cons_succ, List.setIfInBounds_toArray, List.set_cons_zero, List.set_cons_succ]
          refine wpAnyH_take (i := 2) (v := ?_) rfl (by kernel_rfl) (by kernel_rfl) (by kernel_rfl) (fun _ _ _ h => h) (Or.inl ⟨by rfl, ?_⟩) (by assumption) ?_
          rotate_left
          · (intro w hSw; (try dsimp only at hSw); simp only [List.getElem_toArray, List.getElem_cons_zero, List.getElem_cons_succ]; go_simp)
            all_goals with_reducible rfl
          try simp only [Act.put, List.getElem_toArray, List.getElem_cons_zero, List.getElem_cons_succ, List.setIfInBounds_toArray, List.set_cons_zero, List.set_cons_succ]
          refine wpAnyH_take (i := 3) (v := ?_) rfl (by kernel_rfl) (by kernel_rfl) (by kernel_rfl) (fun _ _ _ h => h) (Or.inl ⟨by rfl, ?_⟩) (by assumption) ?_
          rotate_left
          · (intro w hSw; (try dsimp only at hSw); simp only [List.getElem_toArray, List.getElem_cons_zero, List.getElem_cons_succ]; go_simp)
            all_goals with_reducible rfl
          try simp only [Act.put, List.getElem_toArray, List.getElem_cons_zero, List.getElem_cons_succ, List.setIfInBounds_toArray, List.set_cons_zero, List.set_cons_succ]
          refine wpAnyH_take (i := 4) (v := ?_) rfl (by kernel_rfl) (by kernel_rfl) (by kernel_rfl) (fun _ _ _ h => h) (Or.inl ⟨by rfl, ?_⟩) (by assumption) ?_
          rotate_left
          · (intro w hSw; (try dsimp only at hSw); simp only [List.getElem_toArray, List.getElem_cons_zero, List.getElem_cons_succ]; go_simp)
            all_goals with_reducible rfl
          try simp only [Act.put, List.getElem_toArray, List.getElem_cons_zero, List.getElem_cons_succ, List.setIfInBounds_toArray, List.set_cons_zero, List.set_cons_succ]
          refine wpAnyH_take (i := 5) (v := ?_) rfl (by kernel_rfl) (by kernel_rfl) (by kernel_rfl) (fun _ _ _ h => h) (Or.inl ⟨by rfl, ?_⟩) (by assumption) ?_
          rotate_left
          · (intro w hSw; (try dsimp only at hSw); simp only [List.getElem_toArray, List.getElem_cons_zero, List.getElem_cons_succ]; go_simp)
            all_goals with_reducible rfl
          try simp only [Act.put, List.getElem_toArray, List.getElem_cons_zero, List.getElem_cons_succ, List.setIfInBounds_toArray, List.set_cons_zero, List.set_cons_succ]
          refine wpAnyH_take (i := 6) (v := ?_) rfl (by kernel_rfl) (by kernel_rfl) (by kernel_rfl) (fun _ _ _ h => h) (Or.inl ⟨by rfl, ?_⟩) (by assumption) ?_
          rotate_left
          · (intro w hSw; (try dsimp only at hSw); simp only [List.getElem_toArray, List.getElem_cons_zero, List.getElem_cons_succ]; go_simp)
            all_goals with_reducible rfl
          try simp only [Act.put, List.getElem_toArray, List.getElem_cons_zero, List.getElem_cons_succ, List.setIfInBounds_toArray, List.set_cons_zero, List.set_cons_succ]
          refine wpAnyH_take (i := 7) (v := ?_) rfl (by kernel_rfl) (by kernel_rfl) (by kernel_rfl) (fun _ _ _ h => h) (Or.inl ⟨by rfl, ?_⟩) (by assumption) ?_
          rotate_left
          · (intro w hSw; (try dsimp only at hSw); simp only [List.getElem_toArray, List.getElem_cons_zero, List.getElem_cons_succ]; go_simp)
            all_goals with_reducible rfl
          try simp only [Act.put, List.getElem_toArray, List.getElem_cons_zero, List.getElem_cons_succ, List.setIfInBounds_toArray, List.set_cons_zero, List.set_cons_succ]
          refine wpAnyH_take (i := 8) (v := ?_) rfl (by kernel_rfl) (by kernel_rfl) (by kernel_rfl) (fun _ _ _ h => h) (Or.inl ⟨by rfl, ?_⟩) (by assumption) ?_
          rotate_left
          · (intro w hSw; (try dsimp only at hSw); simp only [List.getElem_toArray, List.getElem_cons_zero, List.getElem_cons_succ]; go_simp)
            all_goals with_reducible rfl
          try simp only [Act.put, List.getElem_toArray, List.getElem_cons_zero, List.getElem_cons_succ, List.setIfInBounds_toArray, List.set_cons_zero, List.set_cons_succ]
          refine wpAnyH_take (i := 9) (v := ?_) rfl (by kernel_rfl) (by kernel_rfl) (by kernel_rfl) (fun _ _ _ h => h) (Or.inl ⟨by rfl, ?_⟩) (by assumption) ?_
          rotate_left
          · (intro w hSw; (try dsimp only at hSw); simp only [List.getElem_toArray, List.getElem_cons_zero, List.getElem_cons_succ]; go_simp)
            all_goals with_reducible rfl
          try simp only [Act.put, List.getElem_toArray, List.getElem_cons_zero, List.getElem_cons_succ, List.setIfInBounds_toArray, List.set_cons_zero, List.set_cons_succ]
          refine wpAnyH_take (i := 10) (v := ?_) rfl (by kernel_rfl) (by kernel_rfl) (by kernel_rfl) (fun _ _ _ h => h) (Or.inl ⟨by rfl, ?_⟩) (by assumption) ?_
          rotate_left
          · (intro w hSw; (try dsimp only at hSw); simp only [List.getElem_toArray, List.getElem_cons_zero, List.getElem_cons_succ]; go_simp)
            all_goals with_reducible rfl
          try simp only [Act.put, List.getElem_toArray, List.getElem_cons_zero, List.getElem_cons_succ, List.setIfInBounds_toArray, List.set_cons_zero, List.set_cons_succ]
          refine wpAnyH_take (i := 11) (v := ?_) rfl (by kernel_rfl) (by kernel_rfl) (by kernel_rfl) (fun _ _ _ h => h) (Or.inl ⟨by rfl, ?_⟩) (by assumption) ?_
          rotate_left
          · (intro w hSw; (try dsimp only at hSw); simp only [List.getElem_toArray, List.getElem_cons_zero, List.getElem_cons_succ]; go_simp)
            all_goals with_reducible rfl
          try simp only [Act.put, List.getElem_toArray, List.getElem_cons_zero, List.getElem_cons_succ, List.setIfInBounds_toArray, List.set_cons_zero, List.set_cons_succ]
          refine wpAnyH_take (i := 12) (v := ?_) rfl (by kernel_rfl) (by kernel_rfl) (by kernel_rfl) (fun _ _ _ h => h) (Or.inl ⟨by rfl, ?_⟩) (by assumption) ?_
          rotate_left
          · (intro w hSw; (try dsimp only at hSw); simp only [List.getElem_toArray, List.getElem_cons_zero, List.getElem_cons_succ]; go_simp)
            all_goals with_reducible rfl
          try simp only [Act.put, List.getElem_toArray, List.getElem_cons_zero, List.getElem_cons_succ, List.setIfInBounds_toArray, List.set_cons_zero, List.set_cons_succ]
          refine wpAnyH_take (i := 13) (v := ?_) rfl (by kernel_rfl) (by kernel_rfl) (by kernel_rfl) (fun _ _ _ h => h) (Or.inl ⟨by rfl, ?_⟩) (by assumption) ?_
          rotate_left
          · (intro w hSw; (try dsimp only at hSw); simp only [List.getElem_toArray, List.getElem_cons_zero, List.getElem_cons_succ]; go_simp)
            all_goals with_reducible rfl
          try simp only [Act.put, List.getElem_toArray, List.getElem_cons_zero, List.getElem_cons_succ, List.setIfInBounds_toArray, List.set_cons_zero, List.set_cons_succ]
          refine wpAnyH_take (i := 16) (v := ?_) rfl (by kernel_rfl) (by kernel_rfl) (by kernel_rfl) (fun _ _ _ h => h) (Or.inl ⟨by rfl, ?_⟩) (by assumption) ?_
          rotate_left
          · (intro w hSw; (try dsimp only at hSw); simp only [List.getElem_toArray, List.getElem_cons_zero, List.getElem_cons_succ]; go_simp)
            all_goals with_reducible rfl
          try simp only [Act.put, List.getElem_toArray, List.getElem_cons_zero, List.getElem_cons_succ, List.setIfInBounds_toArray, List.set_cons_zero, List.set_cons_succ]
          refine wpAnyH_take (i := 17) (v := ?_) rfl (by kernel_rfl) (by kernel_rfl) (by kernel_rfl) (fun _ _ _ h => h) (Or.inl ⟨by rfl, ?_⟩) (by assumption) ?_
          rotate_left
          · (intro w hSw; (try dsimp only at hSw); simp only [List.getElem_toArray, List.getElem_cons_zero, List.getElem_cons_succ]; go_simp)
            all_goals with_reducible rfl
          try simp only [Act.put, List.getElem_toArray, List.getElem_cons_zero, List.getElem_cons_succ, List.setIfInBounds_toArray, List.set_cons_zero, List.set_cons_succ]
          refine wpAnyH_ready (rs := [14]) (by kernel_rfl) (by simp) ?_
          refine AllReadyH.cons rfl (fun K hK => ?_) AllReadyH.nil
          simp only [List.getElem_toArray, List.getElem_cons_zero, List.getElem_cons_succ]
          go_simp
          refine hK.out _ _ (HS.out _ (HD2.out _)) (fun hHeld => ?_)
          clear hK K
          try simp only [Act.put, List.getElem_toArray, List.getElem_cons_zero, List.getElem_cons_succ, List.setIfInBounds_toArray, List.set_cons_zero, List.set_cons_succ]
          refine wpAnyH_ready (rs := [15]) (by kernel_rfl) (by simp) ?_
          refine AllReadyH.cons rfl (fun K hK => ?_) AllReadyH.nil
          simp only [List.getElem_toArray, List.getElem_cons_zero, List.getElem_cons_succ]
          go_simp
          go_at_call 30; refine (HCC.out _ _ (by exact HD2.out _) (by simp) (by simp) (by simp)).mono ?_; rintro e w5 ⟨A9, c9, rfl, h91, h92, h93, hb5⟩; have HR9 := Lib.hid h93; have HE5 := Lib.hid ((HD2.out _).trans (hb5.mono (HD2.out _).size)); clear h93 hb5
          refine hK.out _ _ (HS.out _ HE5.out) (fun hHeld => ?_)
          clear hK K
          try simp only [Act.put, List.getElem_toArray, List.getElem_cons_zero, List.getElem_cons_succ, List.setIfInBounds_toArray, List.set_cons_zero, List.set_cons_succ]
          refine wpAnyH_ready (rs := [18]) (by kernel_rfl) (by simp) ?_
          refine AllReadyH.cons rfl (fun K hK => ?_) AllReadyH.nil
          simp only [List.getElem_toArray, List.getElem_cons_zero, List.getElem_cons_succ]
          go_simp
          go_at_call 29; refine (sameLs_any n' n' c9 c5 A9 A5 (cutA arg q) (cutA arg i) _ _ w5 (by omega) (by omega) HR9.out (HRC.out.below HE5.out)).mono ?_; rintro e w6 ⟨he, hb6⟩; rw [HS1.out] at he; subst he; have HE6 := Lib.hid (HE5.out.trans (hb6.mono HE5.out.size)); clear hb6
          refine hK.out _ _ (HS.out _ HE6.out) (fun hHeld => ?_)
          clear hK K
          try simp only [Act.put, List.getElem_toArray, List.getElem_cons_zero, List.getElem_cons_succ, List.setIfInBounds_toArray, List.set_cons_zero, List.set_cons_succ]
          refine wpAnyH_take (i := 19) (v := ?_) rfl (by kernel_rfl) (by kernel_rfl) (by kernel_rfl) (fun _ _ _ h => h) (Or.inl ⟨by rfl, ?_⟩) (by assumption) ?_
          rotate_left
          · (intro w hSw; (try dsimp only at hSw); simp only [List.getElem_toArray, List.getElem_cons_zero, List.getElem_cons_succ]; go_simp)
            all_goals with_reducible rfl
          try simp only [Act.put, List.getElem_toArray, List.getElem_cons_zero, List.getElem_cons_succ, List.setIfInBounds_toArray, List.set_cons_zero, List.set_cons_succ]
          refine wpAnyH_take (i := 20) (v := ?_) rfl (by kernel_rfl) (by kernel_rfl) (by kernel_rfl) (fun _ _ _ h => h) (Or.inl ⟨by rfl, ?_⟩) (by assumption) ?_
          rotate_left
          · (intro w hSw; (try dsimp only at hSw); simp only [List.getElem_toArray, List.getElem_cons_zero, List.getElem_cons_succ]; go_simp)
            all_goals with_reducible rfl
          try simp only [Act.put, List.getElem_toArray, List.getElem_cons_zero, List.getElem_cons_succ, List.setIfInBounds_toArray, List.set_cons_zero, List.set_cons_succ]
          refine wpAnyH_take (i := 21) (v := undef) rfl (by kernel_rfl) (by kernel_rfl) (by kernel_rfl) (fun _ _ _ h => h) (Or.inr ⟨by rfl, rfl⟩) (by assumption) ?_
          try simp only [Act.put, List.getElem_toArray, List.getElem_cons_zero, List.getElem_cons_succ, List.setIfInBounds_toArray, List.set_cons_zero, List.set_cons_succ]
          refine wpAnyH_take (i := 22) (v := undef) rfl (by kernel_rfl) (by kernel_rfl) (by kernel_rfl) (fun _ _ _ h => h) (Or.inr ⟨by rfl, rfl⟩) (by assumption) ?_
          try simp only [Act.put, List.getElem_toArray, List.getElem_cons_zero, List.getElem_cons_succ, List.setIfInBounds_toArray, List.set_cons_zero, List.set_cons_succ]
          refine wpAnyH_take (i := 23) (v := undef) rfl (by kernel_rfl) (by kernel_rfl) (by kernel_rfl) (fun _ _ _ h => h) (Or.inr ⟨by rfl, rfl⟩) (by assumption) ?_
          try simp only [Act.put, List.getElem_toArray, List.getElem_cons_zero, List.getElem_cons_succ, List.setIfInBounds_toArray, List.set_cons_zero, List.set_cons_succ]
          refine wpAnyH_take (i := 24) (v := undef) rfl (by kernel_rfl) (by kernel_rfl) (by kernel_rfl) (fun _ _ _ h => h) (Or.inr ⟨by rfl, rfl⟩) (by assumption) ?_
          try simp only [Act.put, List.getElem_toArray, List.getElem_cons_zero, List.getElem_cons_succ, List.setIfInBounds_toArray, List.set_cons_zero, List.set_cons_succ]
          refine wpAnyH_take (i := 25) (v := undef) rfl (by kernel_rfl) (by kernel_rfl) (by kernel_rfl) (fun _ _ _ h => h) (Or.inr ⟨by rfl, rfl⟩) (by assumption) ?_
          try simp only [Act.put, List.getElem_toArray, List.getElem_cons_zero, List.getElem_cons_succ, List.setIfInBounds_toArray, List.set_cons_zero, List.set_cons_succ]
          refine wpAnyH_take (i := 26) (v := undef) rfl (by kernel_rfl) (by kernel_rfl) (by kernel_rfl) (fun _ _ _ h => h) (Or.inr ⟨by rfl, rfl⟩) (by assumption) ?_
          try simp only [Act.put, List.getElem_toArray, List.getElem_cons_zero, List.getElem_cons_succ, List.setIfInBounds_toArray, List.set_cons_zero, List.set_cons_succ]
          refine wpAnyH_take (i := 27) (v := undef) rfl (by kernel_rfl) (by kernel_rfl) (by kernel_rfl) (fun _ _ _ h => h) (Or.inr ⟨by rfl, rfl⟩) (by assumption) ?_
          try simp only [Act.put, List.getElem_toArray, List.getElem_cons_zero, List.getElem_cons_succ, List.setIfInBounds_toArray, List.set_cons_zero, List.set_cons_succ]
          refine wpAnyH_take (i := 28) (v := ?_) rfl (by kernel_rfl) (by kernel_rfl) (by kernel_rfl) (fun _ _ _ h => h) (Or.inl ⟨by rfl, ?_⟩) (by assumption) ?_
          rotate_left
          · (intro w hSw; (try dsimp only at hSw); simp only [List.getElem_toArray, List.getElem_cons_zero, List.getElem_cons_succ]; go_simp)
            all_goals with_reducible rfl
          try simp only [Act.put, List.getElem_toArray, List.getElem_cons_zero, List.getElem_cons_succ, List.setIfInBounds_toArray, List.set_cons_zero, List.set_cons_succ]
          refine wpAnyH_done (by kernel_rfl) ?_ _
          all_goals
            go_wp2_with fail
            go_roundw
            case rel =>
              refine ⟨q + 1, ?_, by go_num, HBW.out.trans (HE6.out.mono HBW.out.size)⟩
              rcases Nat.lt_or_ge q i with h | h
              · exact h
              · obtain rfl : q = i := by omega
                have h1 := HS1.out
                simp only [beq_self_eq_true, Bool.true_and] at h1
                rw [allTo_true.2 (fun j hj => by
                  obtain ⟨_, _, _, _, _, C, hC⟩ := HRC.out (by omega)
                  exact sameLB_refl (hC j hj).1)] at h1
                cases h1
            case measure => simp [intOf]; omega
  · have HBx := Lib.hid (HB2.out.trans (hb3.mono HB2.out.size))
    obtain ⟨W3, hW3⟩ : ∃ W3, W3 = (w3.alloc (.cells #[.slice A5 n c5, .int .i64 (n : Int)] 38)).alloc (.cells #[.int .i64 0, .int .i64 0, .int .i64 0, .int .i64 0, .string ⟨#[]⟩, .int .i64 0, .int .i64 0, .string ⟨#[]⟩, .slice none 0 0] 44) := ⟨_, rfl⟩
    have hb33 : Below w3.heap.size w3 W3 := by rw [hW3]; exact ((Below.refl _ _).alloc (Nat.le_refl _) _).alloc (by simp) _
    have HKT := Lib.hid (show KT W3 w3.heap.size _ _ _ _ _ _ _ _ _ _ _ by rw [hW3]; exact KT.new w3 _ _ _ _ _ _ _ _ _ _ _ _ _)
    have HX3 := Lib.hid ((HX2.out.trans (hb3.mono HX2.out.size)).trans (hb33.mono (HX2.out.trans (hb3.mono HX2.out.size)).size))
    have HB3 := Lib.hid (HBx.out.trans (hb33.mono HBx.out.size))
    have HRA := Lib.hid (hR5.below hb33)
    have HRN := Lib.hid (HR.out.below HB3.out)
    clear hb3 hb33 hlo hR5
    unfold zeroL
    go_wp2_with fail
    rw [← hW3]
    clear hW3
    refine (picks_any _).mono ?_
    rintro e w4 ⟨rfl, hb4⟩
    have HX4 := Lib.hid (HX3.out.trans (hb4.mono HX3.out.size))
    have HB4 := Lib.hid (HB3.out.trans (hb4.mono HB3.out.size))
    have HK4 := Lib.hid (HKT.out.grown (grown_below (g := none) hb4) (by simp))
    have HSS := Lib.hid (sameLs_any n n c5 c A5 A arg arg _ S w4 (by omega) (by omega) (HRA.out.below hb4) (HRN.out.below hb4))
    have HTR := Lib.hid (show (n == n && allTo (fun i => sameLB (arg i) (arg i)) n) = true from by
      simp only [beq_self_eq_true, Bool.true_and]
      rw [allTo_true]
      intro i hi
      obtain ⟨_, _, _, _, _, C, hC⟩ := HRN.out (by omega)
      exact sameLB_refl (hC i hi).1)
    clear hb4 p0 p1
    obtain ⟨p0, p1⟩ := HPC.out _ HX4.out
    obtain ⟨q0, q1, _⟩ := HK4.out
    go_wp2_with fail
    refine HSS.out.mono ?_
    rintro e w5 ⟨rfl, hb5⟩
    rw [HTR.out]
    have HX5 := Lib.hid (HX4.out.trans (hb5.mono HX4.out.size))
    have HB5 := Lib.hid (HB4.out.trans (hb5.mono HB4.out.size))
    have HK5 := Lib.hid (HK4.out.grown (grown_below (g := none) hb5) (by simp))
    clear hb5 p0 p1 q0 q1
    obtain ⟨p0, p1⟩ := HPC.out _ HX5.out
    obtain ⟨q0, q1, _⟩ := HK5.out
    go_wp2_with fail
    go_ret
    exact ⟨rfl, HB5.out⟩
theorem pickFirst_walk {H : Type} {enc : TypeId × Value → H} (W : World) (base : Nat) (v0 v1 : Value) {d0 d1 : DataW H} {p0 p1 : List MemPlace}
    (k0 : Value.okWide Try.prog W .any base 38 v0) (k1 : Value.okWide Try.prog W .any base 22 v1)
    (h0 : DataW.Trod enc Try.prog W 0 (fun _ => true) true 38 v0 d0 p0) (h1 : DataW.Trod enc Try.prog W 0 (fun _ => true) true 22 v1 d1 p1) (hk : Rows.uptoSmall H [d0, d1] = true) :
    Calls Try.prog 6 #[v0, v1] W fun e W' => e = .returned (.bool true) ∧ Below W.heap.size W W' := by
  obtain ⟨b0, b1⟩ := bulk_two hk
  obtain ⟨A, n, c, at_, arg, rfl, hnc, hcm, hA, hR, hm⟩ := open_box k0 h0
  obtain ⟨A2, m, d, l, rfl, hmd, hdm, _, hl, hlm, hmb⟩ := open_pats k1 h1
  exact pickFirst_go n c A at_ arg _ m d A2 l _ W hnc hcm hA hR (fun i hi => by have := hm i hi; omega) hl (by omega) (fun i hi => by have := hlm i hi; omega)
end Go.Proofs.Ytjalgnpbdcefdaa
