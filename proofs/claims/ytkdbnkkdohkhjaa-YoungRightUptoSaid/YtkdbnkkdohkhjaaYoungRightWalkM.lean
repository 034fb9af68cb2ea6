/- The walk of the law YoungRight. -/
import Derived.Test.YtkdbnkkdohkhjaaYMB
namespace Go.Proofs.Ytkdbnkkdohkhjaa
open Go.RowKit Go.ChangeShapes Go.WideShapes Go.Deep
set_option linter.unusedVariables false
set_option maxHeartbeats 8000000 in
set_option maxRecDepth 100000 in
theorem youngRight_go (n sn mn lc sc mc : Nat) (lA sA mA : Option Addr) (arg : Nat → VT) (T0 T1 : Nat → Int) (ms : List Int) (w : World) (hV : (VT.node 0 0 ⟨#[]⟩ n arg).isV w (fun _ => True) [.int .i64 0, .int .i64 0, .string ⟨#[]⟩, .slice lA n lc]) (hw : ∀ i, i < n → (arg i).wf) (hm : ∀ i, i < n → (arg i).many ≤ 4194304) (hn : n ≤ 17592186044416)
    (hS : Rd w 2 (fun i => [.int .i64 (T0 i), .int .i64 (T1 i)]) sA sn) (hsn : sn ≤ 17592186044416) (hM : Rd w 1 (tmC (lst ms)) mA ms.length) (hmn : ms.length ≤ 17592186044416) :
    Calls Try.prog 4 #[.slice lA n lc, .slice sA sn sc, .slice mA ms.length mc] w fun e w' => e = .returned (.bool true) ∧ Below w.heap.size w w' := by
  have HGR := Lib.hid (grown_any n sn 0 lc sc mc lA sA mA arg T0 T1 ms w hV hw hm hn hS hsn hM hmn)
  clear hV hw hm hS hM
  go_enter Try.func4, Try.ntmps4
  go_wp2_with fail
  refine HGR.out.mono ?_
  rintro e w1 ⟨h, old, late, l, roots, A, c, B, d, R, rc, rfl, hrl, hok, hro, hO, hI, hR, hb⟩
  have HOK := Lib.hid hok
  have HRO := Lib.hid hro
  have HO := Lib.hid hO
  have HI := Lib.hid hI
  have HR := Lib.hid hR
  have HB1 := Lib.hid hb
  obtain ⟨W2, hW2⟩ : ∃ W2, W2 = w1.alloc (.cells #[.slice A h.length c, .int .i64 old, .slice B late.length d] 26) := ⟨_, rfl⟩
  have HB2 := Lib.hid (show Below w1.heap.size w1 W2 by rw [hW2]; exact (Below.refl _ _).alloc (Nat.le_refl _) _)
  have HAG := Lib.hid (show AgB W2 w1.heap.size A h.length c old B late.length d by rw [hW2]; exact AgB.new w1 A h.length c old B late.length d 26)
  clear hok hro hO hI hR hb
  go_wp2_with fail
  rw [← hW2]
  clear hW2
  refine (youths_any _).mono ?_
  rintro e w3 ⟨rfl, hb3⟩
  have HB3 := Lib.hid (HB2.out.trans (hb3.mono HB2.out.size))
  have HAG3 := Lib.hid (HAG.out.below hb3)
  obtain ⟨a0, a1, a2, a3⟩ := HAG3.out
  clear hb3
  go_wp2_with fail
  refine (check_any h A B c d old late w3 (Su.of_own (HO.out.below HB3.out)) HOK.out.obs.all64 (by have := HOK.out.len; omega) (HI.out.below HB3.out).rd (by have := late_few HOK.out; omega) HOK.out.wfl HOK.out.wfo).mono ?_
  rintro e w4 ⟨x, rfl, hx, hb4⟩
  obtain rfl : x = 0 := hx.2 ⟨l, HOK.out⟩
  have HB4 := Lib.hid (HB3.out.trans (hb4.mono HB3.out.size))
  have HB34 := Lib.hid hb4
  obtain ⟨b0, b1, b2, b3⟩ := HAG3.out.below hb4
  clear hx hb4 a0 a1 a2 a3
  go_wp2_with fail
  refine (minor_nice h roots A B R c d rc old late l w4 HOK.out HRO.out (Su.of_own (HO.out.below HB4.out)) (HI.out.below HB4.out).rd (Su.of_own (HR.out.below HB4.out)) (by omega)).mono ?_
  rintro e w5 ⟨h5, rs, L, f, A5, c5, B5, d5, hres, -, rfl, hO5, hR5, hb5⟩
  have HRES := Lib.hid hres
  have HO5 := Lib.hid hO5
  have HR5 := Lib.hid hR5
  have HB5 := Lib.hid (HB4.out.trans (hb5.mono HB4.out.size))
  have HB45 := Lib.hid hb5
  have HRS := Lib.hid hres.len
  clear hres hO5 hR5 hb5 b0 b1 b2 b3
  obtain ⟨W6, hW6⟩ : ∃ W6, W6 = w5.alloc (.cells #[.slice A5 h5.length c5, .int .i64 ((h5.length : Nat) : Int), .slice none 0 0] 26) := ⟨_, rfl⟩
  have HB56 := Lib.hid (show Below w5.heap.size w5 W6 by rw [hW6]; exact (Below.refl _ _).alloc (Nat.le_refl _) _)
  have HB6 := Lib.hid (HB5.out.trans (HB56.out.mono HB5.out.size))
  have HAG6 := Lib.hid (show AgB W6 w5.heap.size A5 h5.length c5 ((h5.length : Nat) : Int) none 0 0 by rw [hW6]; exact AgB.new w5 A5 h5.length c5 _ none 0 0 26)
  go_wp2_with fail
  rw [← hW6]
  clear hW6
  refine (major_nice h5 rs A5 none B5 c5 0 d5 _ [] L W6 HRES.out.ok HRES.out.ro (Su.of_own (HO5.out.below HB56.out)) (rd_nil _ _ _ _) (Su.of_own (HR5.out.below HB56.out)) (by have := HRS.out; omega)).mono ?_
  rintro e w7 ⟨h7, ts, L7, f7, A7, c7, B7, d7, hres7, -, rfl, hO7, hR7, hb7⟩
  have HRES7 := Lib.hid hres7
  have HB7 := Lib.hid (HB6.out.trans (hb7.mono HB6.out.size))
  have HB67 := Lib.hid hb7
  have HO7 := Lib.hid hO7
  have HAG7 := Lib.hid (HAG6.out.below hb7)
  have HO57 := Lib.hid ((HO5.out.below HB56.out).below hb7)
  clear hres7 hO7 hR7 hb7
  go_wp2_with fail
  obtain ⟨W8, hW8⟩ : ∃ W8, W8 = (w7.alloc (.cells #[.slice A7 h7.length c7, .int .i64 ((h7.length : Nat) : Int), .slice none 0 0] 26)).alloc (.cells #[.int .i64 0, .int .i64 0] 28) := ⟨_, rfl⟩
  have HB78 := Lib.hid (show Below w7.heap.size w7 W8 by rw [hW8]; exact ((Below.refl _ _).alloc (Nat.le_refl _) _).alloc (by simp) _)
  have HB8 := Lib.hid (HB7.out.trans (HB78.out.mono HB7.out.size))
  have HAG8 := Lib.hid (show AgB W8 w7.heap.size A7 h7.length c7 ((h7.length : Nat) : Int) none 0 0 by rw [hW8]; exact (AgB.new w7 A7 h7.length c7 _ none 0 0 26).below ((Below.refl _ _).alloc (Nat.le_refl _) _))
  have hc0 : W8.cell? ⟨w7.heap.size + 1, 0, none⟩ = some (.int .i64 0) := by rw [hW8]; simp [go_sem]
  have hc1 : W8.cell? ⟨w7.heap.size + 1, 1, none⟩ = some (.int .i64 0) := by rw [hW8]; simp [go_sem]
  have HAG58 := Lib.hid (HAG7.out.below HB78.out)
  have HAG38 := Lib.hid (((HAG3.out.below HB34.out).below (HB45.out.trans (HB56.out.mono HB45.out.size))).below (HB67.out.trans (HB78.out.mono HB67.out.size)))
  rw [← hW8]
  clear hW8
  refine (good_two 0 0 W8 _ _ hc0 hc1).mono ?_
  rintro e w9 ⟨rfl, rfl⟩
  obtain ⟨x0, x1, x2, x3⟩ := HAG58.out
  clear hc0 hc1
  go_wp2_with fail
  refine (check_any h5 A5 none c5 0 _ [] W8 (Su.of_own (HO57.out.below HB78.out)) HRES.out.ok.obs.all64 (by have := HRES.out.ok.len; omega) (rd_nil _ _ _ _) (by simp) HRES.out.ok.wfl HRES.out.ok.wfo).mono ?_
  rintro e w10 ⟨y, rfl, hy, hb10⟩
  obtain rfl : y = 0 := hy.2 ⟨L, HRES.out.ok⟩
  have HB10 := Lib.hid (HB8.out.trans (hb10.mono HB8.out.size))
  have HB810 := Lib.hid hb10
  obtain ⟨y0, y1, y2, y3⟩ := HAG8.out.below hb10
  clear hy hb10 x0 x1 x2 x3
  go_wp2_with fail
  refine (check_any h7 A7 none c7 0 _ [] w10 (Su.of_own ((HO7.out.below HB78.out).below HB810.out)) HRES7.out.ok.obs.all64 (by have := HRES7.out.ok.len; omega) (rd_nil _ _ _ _) (by simp) HRES7.out.ok.wfl HRES7.out.ok.wfo).mono ?_
  rintro e w11 ⟨z, rfl, hz, hb11⟩
  obtain rfl : z = 0 := hz.2 ⟨L7, HRES7.out.ok⟩
  have HB11 := Lib.hid (HB10.out.trans (hb11.mono HB10.out.size))
  have hb811 := HB810.out.trans (hb11.mono HB810.out.size)
  obtain ⟨p0, p1, p2, p3⟩ := HAG8.out.below hb811
  obtain ⟨q0, q1, q2, q3⟩ := HAG58.out.below hb811
  obtain ⟨r0, r1, r2, r3⟩ := HAG38.out.below hb811
  have hlen : (ts.length : Int) = (roots.length : Int) := by rw [HRES7.out.len, HRES.out.len]
  have hf1 : (h5.length : Int) ≤ (h.length : Int) := by have := HRES.out.fit; omega
  have hf2 : (h7.length : Int) ≤ (h5.length : Int) := by have := HRES7.out.fit; omega
  have d0 : ((ts.length : Int) == (roots.length : Int)) = true := by rw [hlen]; simp
  have d1 : decide ((h5.length : Int) ≤ (h.length : Int)) = true := decide_eq_true hf1
  have d2 : decide ((h7.length : Int) ≤ (h5.length : Int)) = true := decide_eq_true hf2
  clear hz hb11 hb811 hlen y0 y1 y2 y3
  go_wp2_with fail
  go_ret
  exact ⟨rfl, HB1.out.trans (HB11.out.mono HB1.out.size)⟩
set_option maxRecDepth 100000 in
theorem youngRight_walk {H : Type} {enc : TypeId × Value → H} (W : World) (base : Nat) (v0 v1 v2 : Value) {d0 d1 d2 : DataW H} {p0 p1 p2 : List MemPlace}
    (k0 : Value.okWide Try.prog W .any base 44 v0) (k1 : Value.okWide Try.prog W .any base 45 v1) (k2 : Value.okWide Try.prog W .any base 24 v2)
    (h0 : DataW.Trod enc Try.prog W 0 (fun _ => true) true 44 v0 d0 p0) (h1 : DataW.Trod enc Try.prog W 0 (fun _ => true) true 45 v1 d1 p1) (h2 : DataW.Trod enc Try.prog W 0 (fun _ => true) true 24 v2 d2 p2) (hk : Rows.uptoSmall H [d0, d1, d2] = true) :
    Calls Try.prog 4 #[v0, v1, v2] W fun e W' => e = .returned (.bool true) ∧ Below W.heap.size W W' := by
  obtain ⟨b0, b1, b2⟩ := bulk_three hk
  obtain ⟨A, n, c, F, rfl, hV, hw, hm, hn⟩ := open_vals k0 h0
  obtain ⟨sA, sn, sc, T0, T1, rfl, hS, hsn⟩ := open_pairs k1 h1
  obtain ⟨mA, ms, mc, rfl, hM, hmn⟩ := open_intsU k2 h2
  exact youngRight_go n sn 0 c sc mc A sA mA F T0 T1 ms W hV hw (fun i hi => by have := hm i hi; omega) (by omega) hS (by omega) hM (by omega)
end Go.Proofs.Ytkdbnkkdohkhjaa
