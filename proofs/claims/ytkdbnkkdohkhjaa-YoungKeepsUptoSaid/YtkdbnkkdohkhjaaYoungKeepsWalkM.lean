/- The walk of the law YoungKeeps. -/
import Derived.Test.YtkdbnkkdohkhjaaYMC
import Derived.Test.YtkdbnkkdohkhjaaYMB
namespace Go.Proofs.Ytkdbnkkdohkhjaa
open Go.RowKit Go.ChangeShapes Go.WideShapes Go.Deep
set_option linter.unusedVariables false
theorem isV_congr {w : World} {S : Nat → Prop} {k m : Int} {t : ByteArray} {n : Nat} {F G : Nat → VT} {cs : List Value} (h : (VT.node k m t n F).isV w S cs) (e : ∀ i, i < n → F i = G i) : (VT.node k m t n G).isV w S cs := by
  obtain ⟨A, c, h0, h1, h2, h3, h4⟩ := h
  refine ⟨A, c, h0, h1, h2, h3, fun hp => ?_⟩
  obtain ⟨b, off, g1, g2, g3, C, hC⟩ := h4 hp
  exact ⟨b, off, g1, g2, g3, C, fun i hi => ⟨by rw [← e i hi]; exact (hC i hi).1, (hC i hi).2⟩⟩
theorem reads_moved {h roots h5 rs : List Nat} {L : List Ob} {f : Nat → Nat} (G : GcRes h roots h5 rs L f) (A B : Option Addr) (c d : Nat) (w : World) (hH : Su w (.slice A h5.length c) h5) (hR : Su w (.slice B rs.length d) rs) (hrl : roots.length ≤ 100000) :
    Calls Try.prog 21 #[.agg #[.slice A h5.length c, .int .i64 ((h5.length : Nat) : Int), .slice none 0 0], .slice B rs.length d] w (ReadsPost h roots w) := by
  refine (reads_any h5 rs A none B c 0 0 d _ w hH G.ok.obs.all64 (by have := G.ok.len; omega) hR (fun p hp => (G.ro p hp).2) (by have := G.len; omega)).mono ?_
  rintro e w' ⟨V, cv, E, ce, rfl, hV, hE, hb⟩
  have hlen := G.len
  have key : ∀ i, i < roots.length → ldv h5 40 (nth rs i) 400 = ldv h 40 (nth roots i) 400 := fun i hi => by
    have h1 : nth rs i = f (nth roots i) := by
      rw [nth_get (by omega), nth_get hi]
      simp [G.map]
    rw [h1]
    exact G.reads 40 _ 400 (by rw [nth_get hi]; exact List.getElem_mem _)
  rw [hlen] at hV hE
  refine ⟨V, cv, E, ce, by rw [hlen], isV_congr hV (fun i hi => by rw [key i hi]), hE.congr (fun i hi => by unfold tmC; show [Value.int .i64 (ldv h5 40 (nth rs i) 400).err] = [Value.int .i64 (ldv h 40 (nth roots i) 400).err]; rw [key i hi]), hb⟩
theorem sames_self {w : World} {n c : Nat} {F : Nat → VT} {A : Option Addr} (h : (VT.node 0 0 ⟨#[]⟩ n F).isV w (fun _ => True) [.int .i64 0, .int .i64 0, .string ⟨#[]⟩, .slice A n c]) : ∀ i, i < n → sameV (F i) (F i) = true := fun i hi => by
  obtain ⟨b, off, _, _, _, C, hC⟩ := isV_arg h (by omega)
  exact sameV_refl _ _ (hC i hi).1
theorem equalE_same (A B : Option Addr) (n c d : Nat) (T : Nat → Int) (w : World) (hn : n ≤ 9223372036854775807) (hT : Rd w 1 (tmC T) A n) (hU : Rd w 1 (tmC T) B n) :
    Calls Try.prog 23 #[.slice A n c, .slice B n d] w fun e w' => e = .returned (.bool true) ∧ Below w.heap.size w w' := by
  refine (equalE_any A B n c n d T T w hn hn hT hU).mono ?_
  rintro e w' ⟨rfl, q, rfl⟩
  refine ⟨ret_bool ?_, below_drewN (Below.refl _ _) _⟩
  rw [anyOf_false.2 (fun j hj => by simp)]
  simp
set_option maxHeartbeats 8000000 in
set_option maxRecDepth 100000 in
theorem youngKeeps_go (n sn mn lc sc mc : Nat) (lA sA mA : Option Addr) (arg : Nat → VT) (T0 T1 : Nat → Int) (ms : List Int) (w : World) (hV : (VT.node 0 0 ⟨#[]⟩ n arg).isV w (fun _ => True) [.int .i64 0, .int .i64 0, .string ⟨#[]⟩, .slice lA n lc]) (hw : ∀ i, i < n → (arg i).wf) (hm : ∀ i, i < n → (arg i).many ≤ 4194304) (hn : n ≤ 17592186044416)
    (hS : Rd w 2 (fun i => [.int .i64 (T0 i), .int .i64 (T1 i)]) sA sn) (hsn : sn ≤ 17592186044416) (hM : Rd w 1 (tmC (lst ms)) mA ms.length) (hmn : ms.length ≤ 17592186044416) :
    Calls Try.prog 7 #[.slice lA n lc, .slice sA sn sc, .slice mA ms.length mc] w fun e w' => e = .returned (.bool true) ∧ Below w.heap.size w w' := by
  have HGR := Lib.hid (grown_any n sn 0 lc sc mc lA sA mA arg T0 T1 ms w hV hw hm hn hS hsn hM hmn)
  clear hV hw hm hS hM
  go_enter Try.func7, Try.ntmps7
  go_wp2_with fail
  refine HGR.out.mono ?_
  rintro e w1 ⟨h, old, late, l, roots, A, c, B, d, R, rc, rfl, hrl, hok, hro, hO, hI, hR, hb⟩
  have HOK := Lib.hid hok
  have HRO := Lib.hid hro
  have HO := Lib.hid hO
  have HI := Lib.hid hI
  have HR := Lib.hid hR
  have HB1 := Lib.hid hb
  obtain ⟨W2, hW2⟩ : ∃ W2, W2 = w1.alloc (.cells #[.slice A h.length c, .int .i64 old, .slice B late.length d] 26) := ⟨_, rfl⟩
  have HB2 := Lib.hid (show Below w1.heap.size w1 W2 by rw [hW2]; exact (Below.refl _ _).alloc (Nat.le_refl _) _)
  have HAG := Lib.hid (show AgB W2 w1.heap.size A h.length c old B late.length d by rw [hW2]; exact AgB.new w1 A h.length c old B late.length d 26)
  clear hok hro hO hI hR hb
  go_wp2_with fail
  rw [← hW2]
  clear hW2
  refine (youths_any _).mono ?_
  rintro e w3 ⟨rfl, hb3⟩
  have HB3 := Lib.hid (HB2.out.trans (hb3.mono HB2.out.size))
  have HAG3 := Lib.hid (HAG.out.below hb3)
  obtain ⟨a0, a1, a2, a3⟩ := HAG3.out
  clear hb3
  go_wp2_with fail
  have hrl' : roots.length ≤ 100000 := by omega
  refine (reads_any h roots A B R c late.length d rc old w3 (Su.of_own (HO.out.below HB3.out)) HOK.out.obs.all64 (by have := HOK.out.len; omega) (Su.of_own (HR.out.below HB3.out)) (fun p hp => (HRO.out p hp).2) hrl').mono ?_
  rintro e w4 ⟨V4, cv4, E4, ce4, rfl, hV4, hE4, hb4⟩
  have HB34 := Lib.hid hb4
  have HB4 := Lib.hid (HB3.out.trans (hb4.mono HB3.out.size))
  have HAG4 := Lib.hid (HAG3.out.below hb4)
  obtain ⟨vals, hvals⟩ : ∃ vals : Nat → VT, vals = fun i => rdV (ldv h 40 (nth roots i) 400) := ⟨_, rfl⟩
  obtain ⟨errs, herrs⟩ : ∃ errs : Nat → Int, errs = fun i => (ldv h 40 (nth roots i) 400).err := ⟨_, rfl⟩
  have HRP := Lib.hid (show ∀ w e w', ReadsPost h roots w e w' → ∃ V cv E ce, e = .returned (.tuple #[.slice V roots.length cv, .slice E roots.length ce]) ∧ (VT.node 0 0 ⟨#[]⟩ roots.length vals).isV w' (fun _ => True) [.int .i64 0, .int .i64 0, .string ⟨#[]⟩, .slice V roots.length cv] ∧ Rd w' 1 (tmC errs) E roots.length ∧ Below w.heap.size w w' from fun w e w' hp => by rw [hvals, herrs]; exact hp)
  rw [← hvals] at hV4
  rw [← herrs] at hE4
  have HV4 := Lib.hid hV4
  have HE4 := Lib.hid hE4
  have HSV := Lib.hid (sames_self hV4)
  clear hvals herrs hV4 hE4 hb4 a0 a1 a2 a3
  obtain ⟨a0, a1, a2, a3⟩ := HAG4.out
  go_wp2_with fail
  refine (minor_nice h roots A B R c d rc old late l w4 HOK.out HRO.out (Su.of_own (HO.out.below HB4.out)) (HI.out.below HB4.out).rd (Su.of_own (HR.out.below HB4.out)) hrl').mono ?_
  rintro e w5 ⟨h5, rs, L5, f5, A5, c5, B5, d5, hres5, -, rfl, hO5, hR5, hb5⟩
  have HRES5 := Lib.hid hres5
  have HO5 := Lib.hid (Su.of_own hO5)
  have HR5 := Lib.hid (Su.of_own hR5)
  have HB5 := Lib.hid (HB4.out.trans (hb5.mono HB4.out.size))
  have HB45 := Lib.hid hb5
  have HAG5 := Lib.hid (HAG4.out.below hb5)
  clear hres5 hO5 hR5 hb5 a0 a1 a2 a3
  obtain ⟨W6, hW6⟩ : ∃ W6, W6 = w5.alloc (.cells #[.slice A5 h5.length c5, .int .i64 ((h5.length : Nat) : Int), .slice none 0 0] 26) := ⟨_, rfl⟩
  have HB56 := Lib.hid (show Below w5.heap.size w5 W6 by rw [hW6]; exact (Below.refl _ _).alloc (Nat.le_refl _) _)
  have HB6 := Lib.hid (HB5.out.trans (HB56.out.mono HB5.out.size))
  have HAG6 := Lib.hid (show AgB W6 w5.heap.size A5 h5.length c5 ((h5.length : Nat) : Int) none 0 0 by rw [hW6]; exact AgB.new w5 A5 h5.length c5 _ none 0 0 26)
  obtain ⟨a0, a1, a2, a3⟩ := HAG5.out
  have HW6 := Lib.hid hW6
  clear hW6
  go_wp2_with fail
  rw [← HW6.out]
  clear HW6 a0 a1 a2 a3
  refine (major_nice h roots A B R c d rc old late l W6 HOK.out HRO.out (Su.of_own (HO.out.below HB6.out)) (HI.out.below HB6.out).rd (Su.of_own (HR.out.below HB6.out)) hrl').mono ?_
  rintro e w7 ⟨h7, ts, L7, f7, A7, c7, B7, d7, hres7, -, rfl, hO7, hR7, hb7⟩
  have HRES7 := Lib.hid hres7
  have HO7 := Lib.hid (Su.of_own hO7)
  have HR7 := Lib.hid (Su.of_own hR7)
  have HB7 := Lib.hid (HB6.out.trans (hb7.mono HB6.out.size))
  have HB67 := Lib.hid hb7
  have HB57 := Lib.hid (HB56.out.trans (hb7.mono HB56.out.size))
  have HAG7 := Lib.hid (HAG6.out.below hb7)
  clear hres7 hO7 hR7 hb7
  go_wp2_with fail
  obtain ⟨W8, hW8⟩ : ∃ W8, W8 = (w7.alloc (.cells #[.slice A7 h7.length c7, .int .i64 ((h7.length : Nat) : Int), .slice none 0 0] 26)).alloc (.cells #[.int .i64 0, .int .i64 0] 28) := ⟨_, rfl⟩
  have HB78 := Lib.hid (show Below w7.heap.size w7 W8 by rw [hW8]; exact ((Below.refl _ _).alloc (Nat.le_refl _) _).alloc (by simp) _)
  have HB8 := Lib.hid (HB7.out.trans (HB78.out.mono HB7.out.size))
  have HB58 := Lib.hid (HB57.out.trans (HB78.out.mono HB57.out.size))
  have HAG8 := Lib.hid (show AgB W8 w7.heap.size A7 h7.length c7 ((h7.length : Nat) : Int) none 0 0 by rw [hW8]; exact (AgB.new w7 A7 h7.length c7 _ none 0 0 26).below ((Below.refl _ _).alloc (Nat.le_refl _) _))
  have hc0 : W8.cell? ⟨w7.heap.size + 1, 0, none⟩ = some (.int .i64 0) := by rw [hW8]; simp [go_sem]
  have hc1 : W8.cell? ⟨w7.heap.size + 1, 1, none⟩ = some (.int .i64 0) := by rw [hW8]; simp [go_sem]
  have HAG58 := Lib.hid (HAG7.out.below HB78.out)
  rw [← hW8]
  clear hW8
  refine (good_two 0 0 W8 _ _ hc0 hc1).mono ?_
  rintro e w9 ⟨rfl, rfl⟩
  obtain ⟨x0, x1, x2, x3⟩ := HAG58.out
  clear hc0 hc1
  go_wp2_with fail
  refine (reads_moved HRES5.out A5 B5 c5 d5 W8 (HO5.out.below HB58.out) (HR5.out.below HB58.out) hrl').mono ?_
  intro e w10 hp10
  obtain ⟨V10, cv10, E10, ce10, rfl, hV10, hE10, hb10⟩ := HRP.out _ _ _ hp10
  have HV10 := Lib.hid hV10
  have HE10 := Lib.hid hE10
  have HB10 := Lib.hid (HB8.out.trans (hb10.mono HB8.out.size))
  have HB710 := Lib.hid (HB78.out.trans (hb10.mono HB78.out.size))
  obtain ⟨y0, y1, y2, y3⟩ := HAG8.out.below hb10
  clear hp10 hV10 hE10 hb10 x0 x1 x2 x3
  go_wp2_with fail
  refine (reads_moved HRES7.out A7 B7 c7 d7 w10 (HO7.out.below HB710.out) (HR7.out.below HB710.out) hrl').mono ?_
  intro e w11 hp11
  obtain ⟨V11, cv11, E11, ce11, rfl, hV11, hE11, hb11⟩ := HRP.out _ _ _ hp11
  have HV11 := Lib.hid hV11
  have HE11 := Lib.hid hE11
  have HB11 := Lib.hid (HB10.out.trans (hb11.mono HB10.out.size))
  have HB1011 := Lib.hid hb11
  have HB411 := Lib.hid (HB45.out.trans ((HB56.out.trans ((HB67.out.trans ((HB710.out.trans (hb11.mono HB710.out.size)).mono HB67.out.size)).mono HB56.out.size)).mono HB45.out.size))
  have hn : roots.length ≤ 9223372036854775807 := by omega
  clear hp11 hV11 hE11 hb11 y0 y1 y2 y3
  go_wp2_with fail
  refine (sames_true roots.length cv10 cv4 vals vals V10 V4 w11 (isV_below HV10.out HB1011.out) (isV_below HV4.out HB411.out) HSV.out).mono ?_
  rintro e w12 ⟨rfl, hb12⟩
  have HB12 := Lib.hid hb12
  clear hb12
  go_wp2_with fail
  refine (equalE_same E10 E4 roots.length ce10 ce4 errs w12 hn ((HE10.out.below HB1011.out).below HB12.out) ((HE4.out.below HB411.out).below HB12.out)).mono ?_
  rintro e w13 ⟨rfl, hb13⟩
  have HB13 := Lib.hid (HB12.out.trans (hb13.mono HB12.out.size))
  clear hb13
  go_wp2_with fail
  refine (sames_true roots.length cv11 cv4 vals vals V11 V4 w13 (isV_below HV11.out HB13.out) (isV_below (isV_below HV4.out HB411.out) HB13.out) HSV.out).mono ?_
  rintro e w14 ⟨rfl, hb14⟩
  have HB14 := Lib.hid (HB13.out.trans (hb14.mono HB13.out.size))
  clear hb14
  go_wp2_with fail
  refine (equalE_same E11 E4 roots.length ce11 ce4 errs w14 hn (HE11.out.below HB14.out) ((HE4.out.below HB411.out).below HB14.out)).mono ?_
  rintro e w15 ⟨rfl, hb15⟩
  have HB15 := Lib.hid (HB14.out.trans (hb15.mono HB14.out.size))
  clear hb15
  go_wp2_with fail
  go_ret
  have hx := HB1.out.trans (HB11.out.mono HB1.out.size)
  exact ⟨rfl, hx.trans (HB15.out.mono hx.size)⟩
set_option maxRecDepth 100000 in
theorem youngKeeps_walk {H : Type} {enc : TypeId × Value → H} (W : World) (base : Nat) (v0 v1 v2 : Value) {d0 d1 d2 : DataW H} {p0 p1 p2 : List MemPlace}
    (k0 : Value.okWide Try.prog W .any base 44 v0) (k1 : Value.okWide Try.prog W .any base 45 v1) (k2 : Value.okWide Try.prog W .any base 24 v2)
    (h0 : DataW.Trod enc Try.prog W 0 (fun _ => true) true 44 v0 d0 p0) (h1 : DataW.Trod enc Try.prog W 0 (fun _ => true) true 45 v1 d1 p1) (h2 : DataW.Trod enc Try.prog W 0 (fun _ => true) true 24 v2 d2 p2) (hk : Rows.uptoSmall H [d0, d1, d2] = true) :
    Calls Try.prog 7 #[v0, v1, v2] W fun e W' => e = .returned (.bool true) ∧ Below W.heap.size W W' := by
  obtain ⟨b0, b1, b2⟩ := bulk_three hk
  obtain ⟨A, n, c, F, rfl, hV, hw, hm, hn⟩ := open_vals k0 h0
  obtain ⟨sA, sn, sc, T0, T1, rfl, hS, hsn⟩ := open_pairs k1 h1
  obtain ⟨mA, ms, mc, rfl, hM, hmn⟩ := open_intsU k2 h2
  exact youngKeeps_go n sn 0 c sc mc A sA mA F T0 T1 ms W hV hw (fun i hi => by have := hm i hi; omega) (by omega) hS (by omega) hM (by omega)
end Go.Proofs.Ytkdbnkkdohkhjaa
