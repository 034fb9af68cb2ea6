/- The walk of the law YoungTwice. -/
import Derived.Test.YtkdbnkkdohkhjaaYMB
namespace Go.Proofs.Ytkdbnkkdohkhjaa
open Go.RowKit Go.ChangeShapes Go.WideShapes Go.Deep
set_option linter.unusedVariables false
set_option maxHeartbeats 8000000 in
set_option maxRecDepth 100000 in
theorem youngTwice_go (n sn mn lc sc mc : Nat) (lA sA mA : Option Addr) (arg : Nat → VT) (T0 T1 : Nat → Int) (ms : List Int) (w : World) (hV : (VT.node 0 0 ⟨#[]⟩ n arg).isV w (fun _ => True) [.int .i64 0, .int .i64 0, .string ⟨#[]⟩, .slice lA n lc]) (hw : ∀ i, i < n → (arg i).wf) (hm : ∀ i, i < n → (arg i).many ≤ 4194304) (hn : n ≤ 17592186044416)
    (hS : Rd w 2 (fun i => [.int .i64 (T0 i), .int .i64 (T1 i)]) sA sn) (hsn : sn ≤ 17592186044416) (hM : Rd w 1 (tmC (lst ms)) mA ms.length) (hmn : ms.length ≤ 17592186044416) :
    Calls Try.prog 5 #[.slice lA n lc, .slice sA sn sc, .slice mA ms.length mc] w fun e w' => e = .returned (.bool true) ∧ Below w.heap.size w w' := by
  have HGR := Lib.hid (grown_any n sn 0 lc sc mc lA sA mA arg T0 T1 ms w hV hw hm hn hS hsn hM hmn)
  clear hV hw hm hS hM
  go_enter Try.func5, Try.ntmps5
  go_wp2_with fail
  refine HGR.out.mono ?_
  rintro e w1 ⟨h, old, late, l, roots, A, c, B, d, R, rc, rfl, hrl, hok, hro, hO, hI, hR, hb⟩
  have HOK := Lib.hid hok
  have HRO := Lib.hid hro
  have HO := Lib.hid hO
  have HI := Lib.hid hI
  have HR := Lib.hid hR
  have HB1 := Lib.hid hb
  obtain ⟨W2, hW2⟩ : ∃ W2, W2 = w1.alloc (.cells #[.slice A h.length c, .int .i64 old, .slice B late.length d] 26) := ⟨_, rfl⟩
  have HB2 := Lib.hid (show Below w1.heap.size w1 W2 by rw [hW2]; exact (Below.refl _ _).alloc (Nat.le_refl _) _)
  have HAG := Lib.hid (show AgB W2 w1.heap.size A h.length c old B late.length d by rw [hW2]; exact AgB.new w1 A h.length c old B late.length d 26)
  clear hok hro hO hI hR hb
  go_wp2_with fail
  rw [← hW2]
  clear hW2
  refine (youths_any _).mono ?_
  rintro e w3 ⟨rfl, hb3⟩
  have HB3 := Lib.hid (HB2.out.trans (hb3.mono HB2.out.size))
  have HAG3 := Lib.hid (HAG.out.below hb3)
  obtain ⟨a0, a1, a2, a3⟩ := HAG3.out
  clear hb3
  go_wp2_with fail
  refine (major_nice h roots A B R c d rc old late l w3 HOK.out HRO.out (Su.of_own (HO.out.below HB3.out)) (HI.out.below HB3.out).rd (Su.of_own (HR.out.below HB3.out)) (by omega)).mono ?_
  rintro e w5 ⟨h5, rs, L, f, A5, c5, B5, d5, hres, hmaj, rfl, hO5, hR5, hb5⟩
  have HRES := Lib.hid hres
  have HMAJ := Lib.hid hmaj
  have HO5 := Lib.hid hO5
  have HR5 := Lib.hid hR5
  have HB5 := Lib.hid (HB3.out.trans (hb5.mono HB3.out.size))
  have HRS := Lib.hid hres.len
  clear hres hmaj hO5 hR5 hb5 a0 a1 a2 a3
  go_wp2_with fail
  obtain ⟨W6, hW6⟩ : ∃ W6, W6 = w5.alloc (.cells #[.slice A5 h5.length c5, .int .i64 ((h5.length : Nat) : Int), .slice none 0 0] 26) := ⟨_, rfl⟩
  have HB56 := Lib.hid (show Below w5.heap.size w5 W6 by rw [hW6]; exact (Below.refl _ _).alloc (Nat.le_refl _) _)
  have HB6 := Lib.hid (HB5.out.trans (HB56.out.mono HB5.out.size))
  have HAG6 := Lib.hid (show AgB W6 w5.heap.size A5 h5.length c5 ((h5.length : Nat) : Int) none 0 0 by rw [hW6]; exact AgB.new w5 A5 h5.length c5 _ none 0 0 26)
  rw [← hW6]
  clear hW6
  refine (major_nice h5 rs A5 none B5 c5 0 d5 _ [] L W6 HRES.out.ok HRES.out.ro (Su.of_own (HO5.out.below HB56.out)) (rd_nil _ _ _ _) (Su.of_own (HR5.out.below HB56.out)) (by have := HRS.out; omega)).mono ?_
  rintro e w7 ⟨h7, ts, L7, f7, A7, c7, B7, d7, hres7, hmaj7, rfl, hO7, hR7, hb7⟩
  have HRES7 := Lib.hid hres7
  have HLEN := Lib.hid (show h7.length = h5.length from by
    have h1 := hmaj7
    rw [HRES.out.map] at h1
    exact majOf_twice HMAJ.out h1)
  have HB67 := Lib.hid hb7
  have HB7 := Lib.hid (HB6.out.trans (hb7.mono HB6.out.size))
  have HAG7 := Lib.hid (HAG6.out.below hb7)
  obtain ⟨x0, x1, x2, x3⟩ := HAG7.out
  have HB57 := Lib.hid (HB56.out.trans (hb7.mono HB56.out.size))
  clear hres7 hmaj7 hO7 hR7 hb7
  go_wp2_with fail
  obtain ⟨W8, hW8⟩ : ∃ W8, W8 = w7.alloc (.cells #[.slice A7 h7.length c7, .int .i64 ((h7.length : Nat) : Int), .slice none 0 0] 26) := ⟨_, rfl⟩
  have HB78 := Lib.hid (show Below w7.heap.size w7 W8 by rw [hW8]; exact (Below.refl _ _).alloc (Nat.le_refl _) _)
  have HB8 := Lib.hid (HB7.out.trans (HB78.out.mono HB7.out.size))
  have HB58 := Lib.hid (HB57.out.trans (HB78.out.mono HB57.out.size))
  have HAG8 := Lib.hid (show AgB W8 w7.heap.size A7 h7.length c7 ((h7.length : Nat) : Int) none 0 0 by rw [hW8]; exact AgB.new w7 A7 h7.length c7 _ none 0 0 26)
  have HAG58 := Lib.hid (HAG7.out.below HB78.out)
  rw [← hW8]
  clear hW8 x0 x1 x2 x3
  refine (minor_nice h5 rs A5 none B5 c5 0 d5 _ [] L W8 HRES.out.ok HRES.out.ro (Su.of_own (HO5.out.below HB58.out)) (rd_nil _ _ _ _) (Su.of_own (HR5.out.below HB58.out)) (by have := HRS.out; omega)).mono ?_
  rintro e w9 ⟨h9, us, L9, f9, A9, c9, B9, d9, hres9, hmin9, rfl, hO9, hR9, hb9⟩
  obtain ⟨e1, e2⟩ := hmin9 rfl rfl
  have e3 : us = rs := hres9.map.trans ((List.map_congr_left (g := id) (fun p _ => e2 p)).trans (List.map_id _))
  subst e1 e3
  have HO9 := Lib.hid (Su.of_own hO9)
  have HR9 := Lib.hid (Su.of_own hR9)
  have HB89 := Lib.hid hb9
  have HB9 := Lib.hid (HB8.out.trans (hb9.mono HB8.out.size))
  clear hres9 hmin9 e2 hO9 hR9 hb9
  go_wp2_with fail
  obtain ⟨W10, hW10⟩ : ∃ W10, W10 = (w9.alloc (.cells #[.slice A9 h9.length c9, .int .i64 ((h9.length : Nat) : Int), .slice none 0 0] 26)).alloc (.cells #[.int .i64 0, .int .i64 0, .int .i64 0] 28) := ⟨_, rfl⟩
  have HB910 := Lib.hid (show Below w9.heap.size w9 W10 by rw [hW10]; exact ((Below.refl _ _).alloc (Nat.le_refl _) _).alloc (by simp) _)
  have HB10 := Lib.hid (HB9.out.trans (HB910.out.mono HB9.out.size))
  have HAG10 := Lib.hid (show AgB W10 w9.heap.size A9 h9.length c9 ((h9.length : Nat) : Int) none 0 0 by rw [hW10]; exact (AgB.new w9 A9 h9.length c9 _ none 0 0 26).below ((Below.refl _ _).alloc (Nat.le_refl _) _))
  have hc0 : W10.cell? ⟨w9.heap.size + 1, 0, none⟩ = some (.int .i64 0) := by rw [hW10]; simp [go_sem]
  have hc1 : W10.cell? ⟨w9.heap.size + 1, 1, none⟩ = some (.int .i64 0) := by rw [hW10]; simp [go_sem]
  have hc2 : W10.cell? ⟨w9.heap.size + 1, 2, none⟩ = some (.int .i64 0) := by rw [hW10]; simp [go_sem]
  have HB810 := Lib.hid (HB89.out.trans (HB910.out.mono HB89.out.size))
  rw [← hW10]
  clear hW10
  refine (good_three 0 0 0 W10 _ _ hc0 hc1 hc2).mono ?_
  rintro e w11 ⟨rfl, rfl⟩
  obtain ⟨p0, p1, p2, p3⟩ := HAG8.out.below HB810.out
  obtain ⟨q0, q1, q2, q3⟩ := HAG58.out.below HB810.out
  obtain ⟨r0, r1, r2, r3⟩ := HAG10.out
  have d0 : ((ts.length : Int) == (us.length : Int)) = true := by rw [HRES7.out.len]; simp
  have d1 : ((h7.length : Int) == (h9.length : Int)) = true := by rw [HLEN.out]; simp
  clear hc0 hc1 hc2
  go_wp2_with fail
  refine (equalH_any_l A9 A5 c9 c5 h9 h9 _ (HO9.out.below HB910.out) (Su.of_own (HO5.out.below (HB58.out.trans (HB810.out.mono HB58.out.size))))).mono ?_
  rintro e w12 ⟨rfl, q12, rfl⟩
  rw [decide_eq_true rfl]
  have HDN := Lib.hid (below_drewN (Below.refl W10.heap.size W10) q12)
  obtain ⟨W12, hW12⟩ : ∃ W12, W12 = World.drewN W10 q12 := ⟨_, rfl⟩
  rw [← hW12] at HDN ⊢
  clear hW12 p0 p1 p2 p3 q0 q1 q2 q3 r0 r1 r2 r3
  go_wp2_with fail
  refine (equalU_any_l B9 B5 d9 d5 us us _ ((HR9.out.below HB910.out).below HDN.out) (Su.of_own ((HR5.out.below (HB58.out.trans (HB810.out.mono HB58.out.size))).below HDN.out))).mono ?_
  rintro e w13 ⟨rfl, q13, rfl⟩
  rw [decide_eq_true rfl]
  go_wp2_with fail
  go_ret
  exact ⟨rfl, below_drewN ((HB1.out.trans (HB10.out.mono HB1.out.size)).trans (HDN.out.mono (HB1.out.trans (HB10.out.mono HB1.out.size)).size)) _⟩
set_option maxRecDepth 100000 in
theorem youngTwice_walk {H : Type} {enc : TypeId × Value → H} (W : World) (base : Nat) (v0 v1 v2 : Value) {d0 d1 d2 : DataW H} {p0 p1 p2 : List MemPlace}
    (k0 : Value.okWide Try.prog W .any base 44 v0) (k1 : Value.okWide Try.prog W .any base 45 v1) (k2 : Value.okWide Try.prog W .any base 24 v2)
    (h0 : DataW.Trod enc Try.prog W 0 (fun _ => true) true 44 v0 d0 p0) (h1 : DataW.Trod enc Try.prog W 0 (fun _ => true) true 45 v1 d1 p1) (h2 : DataW.Trod enc Try.prog W 0 (fun _ => true) true 24 v2 d2 p2) (hk : Rows.uptoSmall H [d0, d1, d2] = true) :
    Calls Try.prog 5 #[v0, v1, v2] W fun e W' => e = .returned (.bool true) ∧ Below W.heap.size W W' := by
  obtain ⟨b0, b1, b2⟩ := bulk_three hk
  obtain ⟨A, n, c, F, rfl, hV, hw, hm, hn⟩ := open_vals k0 h0
  obtain ⟨sA, sn, sc, T0, T1, rfl, hS, hsn⟩ := open_pairs k1 h1
  obtain ⟨mA, ms, mc, rfl, hM, hmn⟩ := open_intsU k2 h2
  exact youngTwice_go n sn 0 c sc mc A sA mA F T0 T1 ms W hV hw (fun i hi => by have := hm i hi; omega) (by omega) hS (by omega) hM (by omega)
end Go.Proofs.Ytkdbnkkdohkhjaa
