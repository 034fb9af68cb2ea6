/- The walk of the law YoungSets. -/
import Derived.Test.YtkdbnkkdohkhjaaYMA
import Derived.Test.YtkdbnkkdohkhjaaYMB
import Derived.Test.YtkdbnkkdohkhjaaBegOne
import Derived.Test.YtkdbnkkdohkhjaaHeapAt
import Derived.Test.YtkdbnkkdohkhjaaOpenD
import Derived.Test.YtkdbnkkdohkhjaaVal
import Derived.SizedLaws
namespace Go.Proofs.Ytkdbnkkdohkhjaa
open Go.RowKit Go.ChangeShapes Go.WideShapes Go.Deep
set_option linter.unusedVariables false
theorem at_one (g : List Nat) (n : Nat) (hn : g.length = n) (A : Option Addr) (c : Nat) (x : Int) (w : World) (hS : Su w (.slice A g.length c) g) (h64 : All64 g) (hlen : n ≤ 17592186044416) :
    Calls Try.prog 11 #[.slice A n c, .int .i64 x] w fun e w' => ∃ z K M T P ps pc y, e = .returned (.tuple #[.agg #[.int .i64 z, .int .i64 K, .int .i64 M, .string T, .slice P (List.length ps) pc], .int .i64 y]) ∧ Su w' (.slice P ps.length pc) ps ∧ Below w.heap.size w w' ∧
      ∀ a : Nat, x = a → ReadsOb g a → y = 0 ∧ K = (obR g a).kind ∧ M = (obR g a).num ∧ T = (obR g a).text ∧ ps = (obR g a).parts := by
  subst hn
  refine (At_any g A c x w hS h64 hlen).mono ?_
  rintro e w' (⟨a, rfl, hr, pA, pc, rfl, hO, hb⟩ | ⟨hno, y, hy, rfl, hb, -⟩)
  · refine ⟨_, _, _, _, pA, paR g a, pc, 0, rfl, Su.of_own hO, hb, fun b hab _ => ?_⟩
    obtain rfl : a = b := by omega
    exact ⟨rfl, rfl, rfl, rfl, rfl⟩
  · exact ⟨0, 0, 0, _, none, [], 0, y, rfl, Su.nil _, hb, fun a ha hr => (hno ⟨a, ha, hr⟩).elim⟩
theorem ob_below {wx wy : World} {b : Nat} {at_ k n : Int} {t : ByteArray} {pA : Option Addr} {pl pc : Nat} (h : OB wx b at_ k n t pA pl pc) (hb : Below wx.heap.size wx wy) : OB wy b at_ k n t pA pl pc := h.grown (grown_below (g := none) hb) (fun g hg => by cases hg)
theorem late_wf {h : List Nat} {old : Int} {late : List Int} {l : List Ob} (H : OkA h old late l) : ∀ x ∈ late, Wf x := fun x hx => by
  obtain ⟨i, hi⟩ := List.mem_iff_getElem?.1 hx
  obtain ⟨⟨a, ha, hb⟩, _, _⟩ := H.lateOk i x hi
  have h1 := beg_lt H.obs hb
  have h2 := H.len
  exact Wf.of (by omega) (by omega)
theorem old_wf {h : List Nat} {old : Int} {late : List Int} {l : List Ob} (H : OkA h old late l) : Wf old := by
  have h1 := old_le H
  have h2 := H.len
  exact Wf.of (by omega) (by omega)
theorem set_other {l : List Ob} {k j : Nat} {o' q : Ob} (h : l[j]? = some q) (hj : j ≠ k) : (l.set k o')[j]? = some q := by
  rw [List.getElem?_set_ne (fun e => hj e.symm)]
  exact h
set_option maxHeartbeats 8000000 in
set_option maxRecDepth 100000 in
theorem youngSets_go (h : List Nat) (hA lA : Option Addr) (hc lc : Nat) (old : Int) (late : List Int) (a : Int) (x : Nat) (other : Int) (w : World) (hH : Su w (.slice hA h.length hc) h) (h64 : All64 h) (hlen : h.length ≤ 17592186044416) (hL : Rd w 1 (tmC (lst late)) lA late.length) (hLn : lA = none → late.length = 0) (hll : late.length ≤ 17592186044416) (hwl : ∀ x ∈ late, Wf x) (hwo : Wf old) (hwa : Wf a) (hx : x < 18446744073709551616) :
    Calls Try.prog 3 #[.agg #[.slice hA h.length hc, .int .i64 old, .slice lA late.length lc], .int .i64 a, .int .u64 (x : Int), .int .i64 other] w fun e w' => e = .returned (.bool true) ∧ Below w.heap.size w w' := by
  have HH := Lib.hid hH
  have HL := Lib.hid hL
  have HST := Lib.hid (fun (W : World) (hb : Below w.heap.size w W) => set_any h hA lA hc lc old late a x W (hH.below hb) h64 hlen (hL.below hb) hLn hll hwl hwo hwa hx)
  have H64 := Lib.hid h64
  obtain ⟨W1, hW1⟩ : ∃ W1, W1 = w.alloc (.cells #[.slice hA h.length hc, .int .i64 old, .slice lA late.length lc] 26) := ⟨_, rfl⟩
  have HB1 := Lib.hid (show Below w.heap.size w W1 by rw [hW1]; exact (Below.refl _ _).alloc (Nat.le_refl _) _)
  have HAG := Lib.hid (show AgB W1 w.heap.size hA h.length hc old lA late.length lc by rw [hW1]; exact AgB.new w hA h.length hc old lA late.length lc 26)
  clear hH h64 hL hLn hwl hwo hwa
  go_enter Try.func3, Try.ntmps3
  go_wp2_with fail
  rw [← hW1]
  clear hW1
  refine (HST.out W1 HB1.out).mono ?_
  rintro e w2 (⟨l, k, o, A, c, B, d, hok, hcl, ha, hw, rfl, hO, hI, hb⟩ | ⟨y, hy, rfl, hb⟩)
  rotate_left
  · have HB2 := Lib.hid (HB1.out.trans (hb.mono HB1.out.size))
    have y0 : (y != 0) = true := by simpa using hy
    clear hb hy
    go_wp2_with fail
    obtain ⟨W3, hW3⟩ : ∃ W3, W3 = w2.alloc (.cells #[.slice none 0 0, .int .i64 0, .slice none 0 0] 26) := ⟨_, rfl⟩
    have HB3 := Lib.hid (show Below w2.heap.size w2 W3 by rw [hW3]; exact (Below.refl _ _).alloc (Nat.le_refl _) _)
    have HAG3 := Lib.hid (show AgB W3 w2.heap.size none 0 0 0 none 0 0 by rw [hW3]; exact AgB.new w2 none 0 0 0 none 0 0 26)
    rw [← hW3]
    clear hW3
    refine (youths_any _).mono ?_
    rintro e w4 ⟨rfl, hb4⟩
    have HB34 := Lib.hid (HB3.out.trans (hb4.mono HB3.out.size))
    have HAG4 := Lib.hid (HAG3.out.below hb4)
    clear hb4
    go_wp2_with fail
    refine (youths_any _).mono ?_
    rintro e w5 ⟨rfl, hb5⟩
    have HB5 := Lib.hid ((HB2.out.trans (HB34.out.mono HB2.out.size)).trans (hb5.mono (HB2.out.trans (HB34.out.mono HB2.out.size)).size))
    obtain ⟨a0, a1, a2, a3⟩ := HAG4.out.below hb5
    clear hb5
    go_wp2_with fail
    go_ret
    exact ⟨rfl, HB5.out⟩
  have hset := set_ages hok hcl hx hw
  obtain ⟨q, hq⟩ : ∃ q, posO l k = q := ⟨_, rfl⟩
  rw [hq] at ha hO hset
  have HQ := Lib.hid hq
  have haq := ha
  obtain ⟨g, hg⟩ : ∃ g, h.set (q + 1) x = g := ⟨_, rfl⟩
  have hgl : g.length = h.length := by rw [← hg, List.length_set]
  have HGL := Lib.hid hgl
  subst ha
  rw [hg] at hO hset
  obtain ⟨lt5, hlt5⟩ : ∃ lt5, setLate old late (q : Int) x = lt5 := ⟨_, rfl⟩
  rw [hlt5] at hI hset ⊢
  have HSET := Lib.hid hset
  have HOK := Lib.hid hok
  have HCL := Lib.hid hcl
  have HO2 := Lib.hid (show Su w2 (.slice A g.length c) g from by rw [hgl]; exact Su.of_own (show OwnU w2 W1.heap.size (.slice A g.length c) g by rw [hgl]; exact hO) |> fun h => by rw [hgl] at h; exact h)
  have HI2 := Lib.hid hI
  have HB12 := Lib.hid hb
  have HB2 := Lib.hid (HB1.out.trans (hb.mono HB1.out.size))
  have HAG2 := Lib.hid (HAG.out.below hb)
  have hn4 := hok.len
  clear hok hcl hw hO hI hb hset hq hg hgl hlt5 haq
  obtain ⟨W3, hW3⟩ : ∃ W3, W3 = w2.alloc (.cells #[.slice A h.length c, .int .i64 old, .slice B lt5.length d] 26) := ⟨_, rfl⟩
  have HB3 := Lib.hid (show Below w2.heap.size w2 W3 by rw [hW3]; exact (Below.refl _ _).alloc (Nat.le_refl _) _)
  have HBG3 := Lib.hid (show AgB W3 w2.heap.size A h.length c old B lt5.length d by rw [hW3]; exact AgB.new w2 A h.length c old B lt5.length d 26)
  have HW3 := Lib.hid hW3
  clear hW3
  go_wp2_with fail
  rw [← HW3.out]
  clear HW3
  refine (youths_any _).mono ?_
  rintro e w4 ⟨rfl, hb4⟩
  have HB24 := Lib.hid (HB3.out.trans (hb4.mono HB3.out.size))
  have HBG4 := Lib.hid (HBG3.out.below hb4)
  obtain ⟨a0, a1, a2, a3⟩ := HBG4.out
  clear hb4
  go_wp2_with fail
  refine (at_one g h.length HGL.out A c (q : Int) w4 (HO2.out.below HB24.out) HSET.out.obs.all64 hlen).mono ?_
  rintro e w5 ⟨z5, K5, M5, T5, P5, ps5, pc5, y5, rfl, hS5, hb5, hf5⟩
  have hpq : posO (l.set k (withParts o [x])) k = q := by rw [posO_set HCL.out.at' (HCL.out.words HOK.out.obs x), HQ.out]
  obtain ⟨hr5, ho5⟩ := obs_at HSET.out.obs (List.getElem?_set_self (by exact (List.getElem?_eq_some_iff.1 HCL.out.at').1))
  rw [hpq] at hr5 ho5
  obtain ⟨e1, e2, -, -, e5⟩ := hf5 q rfl hr5
  rw [ho5] at e2 e5
  have e2' : K5 = 5 := by rw [e2]; exact HCL.out.kind
  have e5' : ps5 = [x] := e5
  clear e2 e5 hf5 hr5 ho5 hpq
  subst e1 e2' e5'
  have HS5 := Lib.hid hS5
  have HX_w_w4 := Lib.hid (HB2.out.trans (HB24.out.mono HB2.out.size))
  have HX_w2_w4 := HB24
  have HX_w_w5 := Lib.hid (HX_w_w4.out.trans ((hb5).mono HX_w_w4.out.size))
  have HX_w2_w5 := Lib.hid (HX_w2_w4.out.trans ((hb5).mono HX_w2_w4.out.size))
  have HX_w4_w5 := Lib.hid (hb5)
  clear hS5 hb5 a0 a1 a2 a3
  obtain ⟨W6, hW6⟩ : ∃ W6, W6 = w5.alloc (.cells #[.int .i64 z5, .int .i64 5, .int .i64 M5, .string T5, .slice P5 1 pc5] 33) := ⟨_, rfl⟩
  have HS_W6 := Lib.hid (show Below w5.heap.size w5 W6 by rw [hW6]; exact (Below.refl _ _).alloc (Nat.le_refl _) _)
  have HO_W6 := Lib.hid (show OB W6 w5.heap.size z5 5 M5 T5 P5 1 pc5 by rw [hW6]; exact OB.new w5 z5 5 M5 T5 P5 1 pc5 33)
  have HE_W6 := Lib.hid hW6
  clear hW6
  have HX_w_W6 := Lib.hid (HX_w_w5.out.trans ((HS_W6.out).mono HX_w_w5.out.size))
  have HX_w2_W6 := Lib.hid (HX_w2_w5.out.trans ((HS_W6.out).mono HX_w2_w5.out.size))
  have HX_w4_W6 := Lib.hid (HX_w4_w5.out.trans ((HS_W6.out).mono HX_w4_w5.out.size))
  obtain ⟨a0, a1, a2, a3⟩ := HAG2.out.below HX_w2_w5.out
  go_wp2_with fail
  rw [← HE_W6.out]
  clear HE_W6 a0 a1 a2 a3
  refine (at_one h h.length rfl hA hc other W6 (HH.out.below HX_w_W6.out) HOK.out.obs.all64 hlen).mono ?_
  rintro e w7 ⟨z7, K7, M7, T7, P7, ps7, pc7, y7, rfl, hS7, hb7, hf7⟩
  have HF7 := Lib.hid hf7
  have HS7 := Lib.hid hS7
  have HX_w_w7 := Lib.hid (HX_w_W6.out.trans ((hb7).mono HX_w_W6.out.size))
  have HX_w2_w7 := Lib.hid (HX_w2_W6.out.trans ((hb7).mono HX_w2_W6.out.size))
  have HX_w4_w7 := Lib.hid (HX_w4_W6.out.trans ((hb7).mono HX_w4_W6.out.size))
  have HX_W6_w7 := Lib.hid (hb7)
  clear hf7 hS7 hb7
  obtain ⟨W8, hW8⟩ : ∃ W8, W8 = w7.alloc (.cells #[.int .i64 z7, .int .i64 K7, .int .i64 M7, .string T7, .slice P7 ps7.length pc7] 33) := ⟨_, rfl⟩
  have HS_W8 := Lib.hid (show Below w7.heap.size w7 W8 by rw [hW8]; exact (Below.refl _ _).alloc (Nat.le_refl _) _)
  have HO_W8 := Lib.hid (show OB W8 w7.heap.size z7 K7 M7 T7 P7 ps7.length pc7 by rw [hW8]; exact OB.new w7 z7 K7 M7 T7 P7 ps7.length pc7 33)
  have HE_W8 := Lib.hid hW8
  clear hW8
  have HX_w_W8 := Lib.hid (HX_w_w7.out.trans ((HS_W8.out).mono HX_w_w7.out.size))
  have HX_w2_W8 := Lib.hid (HX_w2_w7.out.trans ((HS_W8.out).mono HX_w2_w7.out.size))
  have HX_w4_W8 := Lib.hid (HX_w4_w7.out.trans ((HS_W8.out).mono HX_w4_w7.out.size))
  have HX_W6_W8 := Lib.hid (HX_W6_w7.out.trans ((HS_W8.out).mono HX_W6_w7.out.size))
  obtain ⟨a0, a1, a2, a3⟩ := HBG4.out.below HX_w4_w7.out
  go_wp2_with fail
  rw [← HE_W8.out]
  clear HE_W8 a0 a1 a2 a3
  refine (at_one g h.length HGL.out A c other W8 (HO2.out.below HX_w2_W8.out) HSET.out.obs.all64 hlen).mono ?_
  rintro e w9 ⟨z9, K9, M9, T9, P9, ps9, pc9, y9, rfl, hS9, hb9, hf9⟩
  have HF9 := Lib.hid hf9
  have HS9 := Lib.hid hS9
  have HX_w_w9 := Lib.hid (HX_w_W8.out.trans ((hb9).mono HX_w_W8.out.size))
  have HX_w2_w9 := Lib.hid (HX_w2_W8.out.trans ((hb9).mono HX_w2_W8.out.size))
  have HX_w4_w9 := Lib.hid (HX_w4_W8.out.trans ((hb9).mono HX_w4_W8.out.size))
  have HX_W6_w9 := Lib.hid (HX_W6_W8.out.trans ((hb9).mono HX_W6_W8.out.size))
  have HX_W8_w9 := Lib.hid (hb9)
  clear hf9 hS9 hb9
  obtain ⟨o0, o1, o2, o3, o4, oz⟩ := ob_below HO_W6.out HX_W6_w9.out
  go_wp2_with fail
  obtain ⟨WA, hWA⟩ : ∃ WA, WA = w9.alloc (.cells #[.int .i64 z9, .int .i64 K9, .int .i64 M9, .string T9, .slice P9 ps9.length pc9] 33) := ⟨_, rfl⟩
  have HS_WA := Lib.hid (show Below w9.heap.size w9 WA by rw [hWA]; exact (Below.refl _ _).alloc (Nat.le_refl _) _)
  have HO_WA := Lib.hid (show OB WA w9.heap.size z9 K9 M9 T9 P9 ps9.length pc9 by rw [hWA]; exact OB.new w9 z9 K9 M9 T9 P9 ps9.length pc9 33)
  have HZA := Lib.hid (show WA.heap.size = w9.heap.size + 1 by rw [hWA]; simp)
  rw [← hWA]
  clear hWA o0 o1 o2 o3 o4 oz
  have HX_w_WA := Lib.hid (HX_w_w9.out.trans ((HS_WA.out).mono HX_w_w9.out.size))
  have HX_w2_WA := Lib.hid (HX_w2_w9.out.trans ((HS_WA.out).mono HX_w2_w9.out.size))
  have HX_w4_WA := Lib.hid (HX_w4_w9.out.trans ((HS_WA.out).mono HX_w4_w9.out.size))
  have HX_W6_WA := Lib.hid (HX_W6_w9.out.trans ((HS_WA.out).mono HX_W6_w9.out.size))
  have HX_W8_WA := Lib.hid (HX_W8_w9.out.trans ((HS_WA.out).mono HX_W8_w9.out.size))
  have HX5A := Lib.hid (HS_W6.out.trans (HX_W6_WA.out.mono HS_W6.out.size))
  refine (equalU_any_l P5 (some ⟨w9.heap.size + 1, 0, none⟩) pc5 1 [x] [x] _ ((HS5.out.below HX5A.out).below ((Below.refl _ _).alloc (Nat.le_refl _) _)) (by have := Su.one WA x; rw [HZA.out] at this; exact this)).mono ?_
  rintro e wb ⟨rfl, qb, rfl⟩
  rw [decide_eq_true rfl]
  obtain ⟨WB, hWB⟩ : ∃ WB, WB = World.drewN (WA.alloc (.cells #[.int .u64 (x : Int)] 27)) qb := ⟨_, rfl⟩
  have HS_WB := Lib.hid (show Below WA.heap.size WA WB by rw [hWB]; exact below_drewN ((Below.refl _ _).alloc (Nat.le_refl _) _) _)
  rw [← hWB]
  clear hWB
  have HX_w_WB := Lib.hid (HX_w_WA.out.trans ((HS_WB.out).mono HX_w_WA.out.size))
  have HX_w2_WB := Lib.hid (HX_w2_WA.out.trans ((HS_WB.out).mono HX_w2_WA.out.size))
  have HX_w4_WB := Lib.hid (HX_w4_WA.out.trans ((HS_WB.out).mono HX_w4_WA.out.size))
  have HX_W6_WB := Lib.hid (HX_W6_WA.out.trans ((HS_WB.out).mono HX_W6_WA.out.size))
  have HX_W8_WB := Lib.hid (HX_W8_WA.out.trans ((HS_WB.out).mono HX_W8_WA.out.size))
  have HX_WA_WB := Lib.hid (HS_WB.out)
  obtain ⟨a0, a1, a2, a3⟩ := HBG4.out.below HX_w4_WB.out
  go_wp2_with fail
  have hck := check_any g A B c d old lt5 WB (HO2.out.below HX_w2_WB.out) HSET.out.obs.all64 (by rw [HGL.out]; exact hlen) (HI2.out.below HX_w2_WB.out).rd (by have := late_few HSET.out; omega) (late_wf HSET.out) (old_wf HSET.out)
  rw [HGL.out] at hck
  refine hck.mono ?_
  rintro e wc ⟨yc, rfl, hyc, hbc⟩
  obtain rfl : yc = 0 := hyc.2 ⟨_, HSET.out⟩
  have HX_w_wc := Lib.hid (HX_w_WB.out.trans ((hbc).mono HX_w_WB.out.size))
  have HX_w2_wc := Lib.hid (HX_w2_WB.out.trans ((hbc).mono HX_w2_WB.out.size))
  have HX_w4_wc := Lib.hid (HX_w4_WB.out.trans ((hbc).mono HX_w4_WB.out.size))
  have HX_W6_wc := Lib.hid (HX_W6_WB.out.trans ((hbc).mono HX_W6_WB.out.size))
  have HX_W8_wc := Lib.hid (HX_W8_WB.out.trans ((hbc).mono HX_W8_WB.out.size))
  have HX_WA_wc := Lib.hid (HX_WA_WB.out.trans ((hbc).mono HX_WA_WB.out.size))
  have HX_WB_wc := Lib.hid (hbc)
  obtain ⟨p0, p1, p2, p3⟩ := HAG2.out.below HX_w2_wc.out
  clear hyc hbc hck a0 a1 a2 a3
  go_wp2_with fail
  refine (Objects_any h hA hc wc (HH.out.below HX_w_wc.out) H64.out hlen).mono ?_
  rintro e wd (⟨-, l2, hO2, v, C, rfl, hrow, hbd⟩ | ⟨hno, -⟩)
  rotate_left
  · exact (hno ⟨HOK.out.len, l, HOK.out.obs⟩).elim
  obtain rfl := obs_inj hO2 HOK.out.obs
  obtain ⟨A1, c1, rfl, -, -, -⟩ := own_any hrow.row
  have HROW := Lib.hid hrow
  have HX_w_wd := Lib.hid (HX_w_wc.out.trans ((hbd).mono HX_w_wc.out.size))
  have HX_w2_wd := Lib.hid (HX_w2_wc.out.trans ((hbd).mono HX_w2_wc.out.size))
  have HX_w4_wd := Lib.hid (HX_w4_wc.out.trans ((hbd).mono HX_w4_wc.out.size))
  have HX_W6_wd := Lib.hid (HX_W6_wc.out.trans ((hbd).mono HX_W6_wc.out.size))
  have HX_W8_wd := Lib.hid (HX_W8_wc.out.trans ((hbd).mono HX_W8_wc.out.size))
  have HX_WA_wd := Lib.hid (HX_WA_wc.out.trans ((hbd).mono HX_WA_wc.out.size))
  have HX_WB_wd := Lib.hid (HX_WB_wc.out.trans ((hbd).mono HX_WB_wc.out.size))
  have HX_wc_wd := Lib.hid (hbd)
  clear hO2 hrow hbd p0 p1 p2 p3
  by_cases hoq : other = (q : Int)
  · have d0 : (other == (q : Int)) = true := by simpa using hoq
    clear hoq
    go_wp2_with fail
    go_ret
    exact ⟨rfl, HX_w_wd.out⟩
  have d0 : (other == (q : Int)) = false := by simpa using hoq
  have HOQ := Lib.hid hoq
  clear hoq
  go_wp2_with fail
  refine (begins_any A1 c1 l2 C _ other wd HROW.out).mono ?_
  rintro e we ⟨rfl, hbe⟩
  have HX_w_we := Lib.hid (HX_w_wd.out.trans ((hbe).mono HX_w_wd.out.size))
  have HX_w2_we := Lib.hid (HX_w2_wd.out.trans ((hbe).mono HX_w2_wd.out.size))
  have HX_w4_we := Lib.hid (HX_w4_wd.out.trans ((hbe).mono HX_w4_wd.out.size))
  have HX_W6_we := Lib.hid (HX_W6_wd.out.trans ((hbe).mono HX_W6_wd.out.size))
  have HX_W8_we := Lib.hid (HX_W8_wd.out.trans ((hbe).mono HX_W8_wd.out.size))
  have HX_WA_we := Lib.hid (HX_WA_wd.out.trans ((hbe).mono HX_WA_wd.out.size))
  have HX_WB_we := Lib.hid (HX_WB_wd.out.trans ((hbe).mono HX_WB_wd.out.size))
  have HX_wc_we := Lib.hid (HX_wc_wd.out.trans ((hbe).mono HX_wc_wd.out.size))
  have HX_wd_we := Lib.hid (hbe)
  clear hbe
  cases hbg : begB l2 other l2.length with
  | false =>
    clear hbg
    go_wp2_with fail
    go_ret
    exact ⟨rfl, HX_w_we.out⟩
  | true =>
    obtain ⟨j, hj, hje⟩ := anyOf_true.1 hbg
    have hjo : ((posO l2 j : Nat) : Int) = other := by unfold posO; simpa using hje
    have hlj : l2[j]? = some l2[j] := List.getElem?_eq_getElem hj
    have hjk : j ≠ k := fun e => by subst e; exact HOQ.out (by rw [← hjo, HQ.out])
    obtain ⟨r7, u7⟩ := obs_at HOK.out.obs hlj
    obtain ⟨r9, u9⟩ := obs_at HSET.out.obs (set_other (o' := withParts o [x]) hlj hjk)
    rw [posO_set HCL.out.at' (HCL.out.words HOK.out.obs x)] at r9 u9
    obtain ⟨f1, f2, f3, f4, f5⟩ := HF7.out _ hjo.symm r7
    obtain ⟨g1, g2, g3, g4, g5⟩ := HF9.out _ hjo.symm r9
    rw [u7] at f2 f3 f4 f5
    rw [u9] at g2 g3 g4 g5
    have e2 : K9 = K7 := by rw [f2, g2]
    have e3 : M9 = M7 := by rw [f3, g3]
    have e4 : T9 = T7 := by rw [f4, g4]
    have e5 : ps9 = ps7 := by rw [f5, g5]
    clear hbg hj hje hjo hlj hjk r7 u7 r9 u9 f2 f3 f4 f5 g2 g3 g4 g5 HF7 HF9
    subst f1 g1 e2 e3 e4 e5
    obtain ⟨W7c, hW7c⟩ : ∃ W7c, W7c = we.alloc (.cells #[.int .i64 0, .int .i64 0] 28) := ⟨_, rfl⟩
    have HS_W7c := Lib.hid (show Below we.heap.size we W7c by rw [hW7c]; exact (Below.refl _ _).alloc (Nat.le_refl _) _)
    have hc0 : W7c.cell? ⟨we.heap.size, 0, none⟩ = some (.int .i64 0) := by rw [hW7c]; simp [go_sem]
    have hc1 : W7c.cell? ⟨we.heap.size, 1, none⟩ = some (.int .i64 0) := by rw [hW7c]; simp [go_sem]
    have HE7c := Lib.hid hW7c
    clear hW7c
    have HX_w_W7c := Lib.hid (HX_w_we.out.trans ((HS_W7c.out).mono HX_w_we.out.size))
    have HX_w2_W7c := Lib.hid (HX_w2_we.out.trans ((HS_W7c.out).mono HX_w2_we.out.size))
    have HX_w4_W7c := Lib.hid (HX_w4_we.out.trans ((HS_W7c.out).mono HX_w4_we.out.size))
    have HX_W6_W7c := Lib.hid (HX_W6_we.out.trans ((HS_W7c.out).mono HX_W6_we.out.size))
    have HX_W8_W7c := Lib.hid (HX_W8_we.out.trans ((HS_W7c.out).mono HX_W8_we.out.size))
    have HX_WA_W7c := Lib.hid (HX_WA_we.out.trans ((HS_W7c.out).mono HX_WA_we.out.size))
    have HX_WB_W7c := Lib.hid (HX_WB_we.out.trans ((HS_W7c.out).mono HX_WB_we.out.size))
    have HX_wc_W7c := Lib.hid (HX_wc_we.out.trans ((HS_W7c.out).mono HX_wc_we.out.size))
    have HX_wd_W7c := Lib.hid (HX_wd_we.out.trans ((HS_W7c.out).mono HX_wd_we.out.size))
    have HX_we_W7c := Lib.hid (HS_W7c.out)
    go_wp2_with fail
    rw [← HE7c.out]
    clear HE7c
    refine (good_two 0 0 W7c _ _ hc0 hc1).mono ?_
    rintro e wf ⟨rfl, rfl⟩
    obtain ⟨o0, o1, o2, o3, o4, oz⟩ := ob_below HO_W8.out HX_W8_W7c.out
    obtain ⟨p0, p1, p2, p3, p4, pz⟩ := ob_below HO_WA.out HX_WA_W7c.out
    have HX9 := Lib.hid (HS_WA.out.trans (HX_WA_W7c.out.mono HS_WA.out.size))
    have HX7 := Lib.hid (HS_W8.out.trans (HX_W8_W7c.out.mono HS_W8.out.size))
    clear hc0 hc1
    go_wp2_with fail
    refine (equalU_any_l P9 P7 pc9 pc7 ps9 ps9 _ (HS9.out.below HX9.out) (HS7.out.below HX7.out)).mono ?_
    rintro e wg ⟨rfl, qg, rfl⟩
    rw [decide_eq_true rfl]
    go_wp2_with fail
    go_ret
    exact ⟨ret_bool (by simp), below_drewN HX_w_W7c.out _⟩
set_option maxRecDepth 100000 in
theorem open_sl {H : Type} {enc : TypeId × Value → H} {W : World} {t e fuel : Nat} {v : Value} {y : DataW H × List MemPlace} (ht : Try.prog.underlying t = some (.slice e)) (hc : Try.prog.cellsOf e = 1) (hy : Try.prog.bytesOf e = 8) (h : DataW.trod enc Try.prog W 0 (fun _ => true) true fuel t [v] = some y) (hz : ∀ k ∈ y.1.weights Try.prog t, k ≤ reachBytes) :
    ∃ (A : Option Addr) (n c : Nat) (C : Nat → Value), v = .slice A n c ∧ n ≤ c ∧ c ≤ 9223372036854775807 ∧ (A = none → n = 0) ∧ Rd W 1 (fun j => [C j]) A n ∧ (∀ j, j < n → ∃ m z, DataW.trod enc Try.prog W 0 (fun _ => true) true m e [C j] = some z) ∧ n ≤ 17592186044416 := by
  obtain ⟨A, n, c, C, D, sp, hcs, hnc, hcm, hA, hR, hel, hd⟩ := open_rowsD ht hc h
  simp at hcs
  refine ⟨A, n, c, C, hcs, hnc, hcm, hA, hR, fun j hj => (by obtain ⟨m, q, h⟩ := hel j hj; exact ⟨m, _, h⟩), ?_⟩
  rcases hd with h2 | h2
  · omega
  · have hw1 : (n + sp.length) * Try.prog.bytesOf e ∈ y.1.weights Try.prog t := by
      rw [h2]; simp [DataW.weights, ht]
    have hw3 := hz _ hw1
    rw [hy] at hw3
    have := reachBytes_lt
    omega
set_option maxRecDepth 100000 in
theorem open_ages {H : Type} {enc : TypeId × Value → H} {W : World} {base : Nat} {v : Value} {d : DataW H} {p : List MemPlace} (k0 : Value.okWide Try.prog W .any base 26 v) (h0 : DataW.Trod enc Try.prog W 0 (fun _ => true) true 26 v d p) (hz : ∀ k ∈ d.weights Try.prog 26, k ≤ reachBytes) :
    ∃ (A : Option Addr) (c : Nat) (h : List Nat) (old : Int) (B : Option Addr) (e : Nat) (late : List Int), v = .agg #[.slice A h.length c, .int .i64 old, .slice B late.length e] ∧ Su W (.slice A h.length c) h ∧ All64 h ∧ h.length ≤ 17592186044416 ∧ Rd W 1 (tmC (lst late)) B late.length ∧ (B = none → late.length = 0) ∧ late.length ≤ 17592186044416 ∧ (∀ x ∈ late, Wf x) ∧ Wf old := by
  obtain ⟨⟨cs⟩, rfl, _⟩ := okWide_struct Try.underlying26 k0
  clear k0
  obtain ⟨fuel, hf⟩ := h0
  have hf : DataW.trod enc Try.prog W 0 (fun _ => true) true fuel 26 cs = some (d, p) := hf
  obtain ⟨xs, n, hfu, hx, hlen, hxl, hfl⟩ := trod_fields_all Try.underlying26 (by kernel_rfl) hf
  have hl3 : cs.length = 3 := hlen.trans (by kernel_rfl)
  have hx3 : xs.length = 3 := hxl
  match cs, hl3, xs, hx3 with
  | [c0, c1, c2], _, [x0, x1, x2], _ =>
    obtain ⟨y0, f0, h0⟩ := hfl 0 _ c0 rfl rfl
    obtain ⟨y1, f1, h1⟩ := hfl 1 _ c1 rfl rfl
    obtain ⟨y2, f2, h2⟩ := hfl 2 _ c2 rfl rfl
    simp at f0 f1 f2
    subst f0 f1 f2
    have hd : d = .agg [x0.1, x1.1, x2.1] := hx
    have hw : d.weights Try.prog 26 = DataW.weightsEach Try.prog [23, 3, 24] [x0.1, x1.1, x2.1] := by
      rw [hd, DataW.weights, Try.underlying26]
      rfl
    rw [hw] at hz
    have z0 : ∀ k ∈ x0.1.weights Try.prog 23, k ≤ reachBytes := fun k hk => hz k (by simp [DataW.weightsEach, hk])
    have z2 : ∀ k ∈ x2.1.weights Try.prog 24, k ≤ reachBytes := fun k hk => hz k (by simp [DataW.weightsEach, hk])
    obtain ⟨A, nA, cA, CA, rfl, a1, a2, a3, a4, a5, a6⟩ := open_sl Try.underlying23 (by kernel_rfl) (by kernel_rfl) h0 z0
    obtain ⟨zo, e1, _, wo⟩ := DataW.trod_int Try.underlying3 h1
    obtain ⟨B, nB, cB, CB, rfl, b1, b2, b3, b4, b5, b6⟩ := open_sl Try.underlying24 (by kernel_rfl) (by kernel_rfl) h2 z2
    simp at e1
    subst e1
    have hvA : ∀ j, ∃ z : Nat, j < nA → CA j = .int .u64 (z : Int) ∧ z < 18446744073709551616 := fun j => by
      by_cases hj : j < nA
      · obtain ⟨m2, q2, hy2⟩ := a5 j hj
        obtain ⟨z, e, _, hw⟩ := DataW.trod_int Try.underlying27 hy2
        simp at e
        simp [Lit.wf, IntKind.min, IntKind.max, IntKind.signed, IntKind.bits] at hw
        exact ⟨z.toNat, fun _ => ⟨by rw [e]; congr 1; omega, by omega⟩⟩
      · exact ⟨0, fun h => absurd h hj⟩
    obtain ⟨Z, hZ⟩ := Classical.axiomOfChoice hvA
    have hvB : ∀ j, ∃ z : Int, j < nB → CB j = .int .i64 z ∧ Wf z := fun j => by
      by_cases hj : j < nB
      · obtain ⟨m2, q2, hy2⟩ := b5 j hj
        obtain ⟨z, e, _, hw⟩ := DataW.trod_int Try.underlying3 hy2
        simp at e
        exact ⟨z, fun _ => ⟨e, hw⟩⟩
      · exact ⟨0, fun h => absurd h hj⟩
    obtain ⟨Y, hY⟩ := Classical.axiomOfChoice hvB
    have hl : ((List.range nA).map Z).length = nA := by simp
    refine ⟨A, cA, (List.range nA).map Z, zo, B, cB, fl Y nB, by rw [hl, fl_len], ⟨A, cA, rfl, by omega, a2, fun h => by rw [hl]; exact a3 h, fun h1 => ?_⟩, fun x hx => ?_, by omega, ?_, by rw [fl_len]; exact b3, by rw [fl_len]; exact b6, fun x hx => ?_, wo⟩
    · rw [hl] at h1 ⊢
      obtain ⟨b, off, e1, e2, e3⟩ := a4 h1
      refine ⟨b, off, e1, e2, fun k hk j u hu => e3 k hk j u ?_⟩
      have : uC (nth ((List.range nA).map Z)) k = [CA k] := by
        unfold uC
        rw [(hZ k hk).1]
        simp [nth, hk]
      rw [this] at hu
      exact hu
    · obtain ⟨j, hj, rfl⟩ := List.mem_map.1 hx
      exact (hZ j (List.mem_range.1 hj)).2
    · rw [fl_len]
      refine b4.congr fun k hk => ?_
      unfold tmC lst
      rw [(hY k hk).1, List.getD_eq_getElem?_getD, fl_get _ hk]
      rfl
    · obtain ⟨j, hj⟩ := List.mem_iff_getElem?.1 hx
      have hjl : j < nB := by have := (List.getElem?_eq_some_iff.1 hj).1; rw [fl_len] at this; exact this
      rw [fl_get _ hjl] at hj
      injection hj with hj
      subst hj
      exact (hY j hjl).2
set_option maxRecDepth 100000 in
theorem youngSets_walk {H : Type} {enc : TypeId × Value → H} (W : World) (base : Nat) (v0 v1 v2 v3 : Value) {d0 d1 d2 d3 : DataW H} {p0 p1 p2 p3 : List MemPlace}
    (k0 : Value.okWide Try.prog W .any base 26 v0) (k1 : Value.okWide Try.prog W .any base 3 v1) (k2 : Value.okWide Try.prog W .any base 27 v2) (k3 : Value.okWide Try.prog W .any base 3 v3)
    (h0 : DataW.Trod enc Try.prog W 0 (fun _ => true) true 26 v0 d0 p0) (h1 : DataW.Trod enc Try.prog W 0 (fun _ => true) true 3 v1 d1 p1) (h2 : DataW.Trod enc Try.prog W 0 (fun _ => true) true 27 v2 d2 p2) (h3 : DataW.Trod enc Try.prog W 0 (fun _ => true) true 3 v3 d3 p3) (hz : ∀ k ∈ d0.weights Try.prog 26, k ≤ reachBytes) :
    Calls Try.prog 3 #[v0, v1, v2, v3] W fun e W' => e = .returned (.bool true) ∧ Below W.heap.size W W' := by
  obtain ⟨A, c, h, old, B, e, late, rfl, g1, g2, g3, g4, g5, g6, g7, g8⟩ := open_ages k0 h0 hz
  obtain ⟨a1, rfl, _, _, hw1⟩ := open_int Try.underlying3 k1 h1
  obtain ⟨a2, rfl, _, _, hw2⟩ := open_int Try.underlying27 k2 h2
  obtain ⟨a3, rfl, _, _, _⟩ := open_int Try.underlying3 k3 h3
  simp [Lit.wf, IntKind.min, IntKind.max, IntKind.signed, IntKind.bits] at hw2
  obtain ⟨x, rfl⟩ : ∃ x : Nat, a2 = x := ⟨a2.toNat, by omega⟩
  exact youngSets_go h A B c e old late a1 x a3 W g1 g2 g3 g4 g5 g6 g7 g8 hw1 (by omega)
end Go.Proofs.Ytkdbnkkdohkhjaa
