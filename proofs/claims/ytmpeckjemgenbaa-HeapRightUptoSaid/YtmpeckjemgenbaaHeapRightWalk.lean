/- The walk of the law HeapRight. -/
import Derived.Test.YtmpeckjemgenbaaHeaps
import Derived.Test.YtmpeckjemgenbaaHeapOpenU
import Derived.Test.YtmpeckjemgenbaaHeapLd
import Derived.Test.YtmpeckjemgenbaaHeapRtPlain
namespace Go.Proofs.Ytmpeckjemgenbaa
open Go.RowKit Go.ChangeShapes Go.WideShapes Go.Deep
set_option linter.unusedVariables false
/-- h[:b] -/
theorem cut_to (A : Option Addr) (c : Nat) (l : List Nat) (w0 : World) (hS : Su w0 (.slice A l.length c) l) (b : Nat) (hb : b ≤ l.length) :
    ∃ XA, (∀ w, (Instr.sliceAt 23 (.slice A l.length c) none (some (.int .i64 (b : Int))) none).run Try.prog w = .ok (.slice XA b c) w) ∧
      Su w0 (.slice XA (l.take b).length c) (l.take b) := by
  obtain ⟨A0, c0, e, h1, h2, h3, h4⟩ := hS
  injection e with e1 _ e3
  subst e1 e3
  have hl : (l.take b).length = b := by simp; omega
  refine ⟨if c = 0 then A else A.map (·.add (0 * 1)), fun w => ?_, ?_⟩
  · rw [run_sliceAt_slice _ _ _ _ _ _ elemH, run_slice_h _ _ _ _ _ elemH _ _ (by omega) (by omega), sizeH]
    simp only [Result.andThen, sliced, Int.toNat_natCast, Nat.sub_zero]
  · refine ⟨_, _, rfl, by omega, by omega, fun hn => ?_, fun h0 => ?_⟩
    · rw [hl]
      by_cases e : c = 0
      · omega
      · rw [if_neg e] at hn
        cases A with
        | none => have := h3 rfl; omega
        | some _ => cases hn
    · rw [hl] at h0
      obtain ⟨bk, off, rfl, hlt, hc⟩ := h4 (by omega)
      rw [if_neg (by omega)]
      refine ⟨bk, off, by simp [Go.WideShapes.add_plain], hlt, fun k hk j u hu => ?_⟩
      rw [hl] at hk
      match j, hu with
      | 0, hu =>
        have := hc k (by omega) 0 (.int .u64 ((nth l k : Nat) : Int)) rfl
        simp only [uC, List.getElem?_cons_zero, Option.some.injEq] at hu
        subst hu
        rw [nth_take _ hk]
        exact this
/-- a law's box of its value -/
structure XB (w wx : World) (k m : Int) (s : ByteArray) (pv : Value) : Prop where
  q : QB wx w.heap.size k m s pv
  b : Below w.heap.size w wx
theorem XB.below {w wx wy : World} {k m : Int} {s : ByteArray} {pv : Value} (h : XB w wx k m s pv) (hb : Below wx.heap.size wx wy) : XB w wy k m s pv :=
  ⟨h.q.grown (grown_below (g := none) hb) (by simp), h.b.trans (hb.mono h.b.size)⟩
set_option maxHeartbeats 8000000 in
set_option maxRecDepth 100000 in
theorem heapRight_go (A : Option Addr) (c : Nat) (h : List Nat) (t : VT) (k m : Int) (s : ByteArray) (vA : Option Addr) (n vc : Nat) (at_ : Int) (w : World)
    (hS : Su w (.slice A h.length c) h) (h64 : All64 h) (hlen : h.length ≤ 1048576) (hV : t.isV w (fun _ => True) [.int .i64 k, .int .i64 m, .string s, .slice vA n vc]) (hm : t.many ≤ 1048576) (hw : t.wf) :
    Calls Try.prog 5 #[.slice A h.length c, .agg #[.int .i64 k, .int .i64 m, .string s, .slice vA n vc], .int .i64 at_] w fun e w' => e = .returned (.bool true) ∧ Below w.heap.size w w' := by
  have HS := Lib.hid hS
  have H64 := Lib.hid h64
  have HV := Lib.hid hV
  have HWF := Lib.hid hw
  clear hS h64 hV hw
  obtain ⟨W0, hW0⟩ : ∃ W0, W0 = w.alloc (.cells #[.int .i64 k, .int .i64 m, .string s, .slice vA n vc] 38) := ⟨_, rfl⟩
  have HX0 := Lib.hid (show XB w W0 k m s (.slice vA n vc) by
    rw [hW0]
    exact ⟨QB.new _ _ _ _ _ _ _, (Below.refl _ _).alloc (Nat.le_refl _) _⟩)
  go_enter Try.func5, Try.ntmps5
  go_wp2_with fail
  rw [← hW0]
  clear hW0
  refine (deep_any t [.int .i64 k, .int .i64 m, .string s, .slice vA n vc] (fun _ => True) _ (isV_below HV.out HX0.out.b) (by omega)).mono ?_
  rintro e w1 ⟨rfl, hb1⟩
  have HX1 := Lib.hid (HX0.out.below hb1)
  clear hb1
  obtain ⟨y0, y1, y2, y3, yf, yz⟩ := HX1.out.q
  go_wp2_with fail
  refine (heaps_any _).mono ?_
  rintro e w2 ⟨rfl, hb2⟩
  have HX2 := Lib.hid (HX1.out.below hb2)
  clear hb2 y0 y1 y2 y3 yf yz
  obtain ⟨y0, y1, y2, y3, yf, yz⟩ := HX2.out.q
  by_cases hd : 40 < t.deep
  · have d1 : decide ((40 : Int) < (t.deep : Int)) = true := by simp; omega
    have d2 : decide (40 < t.deep) = true := by simpa using hd
    go_wp2_with fail
    refine (heaps_any _).mono ?_
    rintro e w3 ⟨rfl, hb3⟩
    have HX3 := Lib.hid (HX2.out.below hb3)
    clear hb3
    go_wp2_with fail
    go_ret
    exact ⟨rfl, HX3.out.b⟩
  have d1 : decide ((40 : Int) < (t.deep : Int)) = false := by simp; omega
  have d2 : decide (40 < t.deep) = false := by simpa using hd
  by_cases hmm : 400 < t.many
  · have d3 : decide ((400 : Int) < (t.many : Int)) = true := by simp; omega
    have d4 : decide (400 < t.many) = true := by simpa using hmm
    go_wp2_with fail
    refine (heaps_any _).mono ?_
    rintro e w3 ⟨rfl, hb3⟩
    have HX3 := Lib.hid (HX2.out.below hb3)
    clear hb3
    go_wp2_with fail
    go_ret
    exact ⟨rfl, HX3.out.b⟩
  have d3 : decide ((400 : Int) < (t.many : Int)) = false := by simp; omega
  have d4 : decide (400 < t.many) = false := by simpa using hmm
  go_wp2_with fail
  refine (Build_any t k m s vA n vc (fun _ => True) h A c _ (isV_below HV.out HX2.out.b) (by omega) (HS.out.below HX2.out.b) (by omega)).mono ?_
  rintro e w3 (⟨g, x, A3, c3, hr3, rfl, hO3, hb3⟩ | ⟨hr3, x, hx, rfl, hb3⟩)
  rotate_left
  · have HX3 := Lib.hid (HX2.out.below hb3)
    have x0 : (x != 0) = true := by simpa using hx
    clear hx hr3 hb3 y0 y1 y2 y3 yf yz
    go_wp2_with fail
    go_ret
    exact ⟨rfl, HX3.out.b⟩
  have HX3 := Lib.hid (HX2.out.below hb3)
  have HS3 := Lib.hid (Su.of_own hO3)
  obtain ⟨r, hgr⟩ := bld_pre t h g x hr3
  have HGR := Lib.hid hgr
  have hgl := bld_len hr3 (by omega)
  have hge : h.length ≤ g.length := by rw [hgr, List.length_append]; omega
  have HG64 := Lib.hid (b64_any t HWF.out h g x H64.out hr3)
  have hx64 := bld_64 hr3
  obtain ⟨t', ht1, ht2⟩ := rt_any t HWF.out h g x hr3 [] 40 400 (by omega) (by omega)
  rw [List.append_nil] at ht1
  have HT1 := Lib.hid ht1
  have HT2 := Lib.hid ht2
  clear hr3 hO3 hb3 hgr ht1 ht2 y0 y1 y2 y3 yf yz
  go_wp2_with fail
  refine (Read_any g A3 c3 x _ HS3.out HG64.out (by omega) hx64).mono ?_
  rintro e w4 ⟨hb4, (⟨he, cs, rfl, hval⟩ | ⟨he, _⟩)⟩
  rotate_left
  · rw [HT1.out] at he
    exact absurd rfl he
  rw [HT1.out] at hval
  have HX4 := Lib.hid (HX3.out.below hb4)
  have HVAL := Lib.hid (show t'.isV w4 (fun _ => True) cs from isV_mono hval (fun b _ _ => trivial))
  have HS4 := Lib.hid (HS3.out.below hb4)
  obtain ⟨k', m', s', A', n', c', rfl⟩ := isV_cells hval
  obtain ⟨y0, y1, y2, y3, yf, yz⟩ := HX4.out.q
  clear he hval hb4
  go_wp2_with fail
  have HB45 := Lib.hid (show Below w4.heap.size w4 (w4.alloc (.cells #[.int .i64 k', .int .i64 m', .string s', .slice A' n' c'] 38)) from (Below.refl _ _).alloc (Nat.le_refl _) _)
  refine (same_any t' t [.int .i64 k', .int .i64 m', .string s', .slice A' n' c'] [.int .i64 k, .int .i64 m, .string s, .slice vA n vc] (fun _ => True) (fun _ => True) _ (isV_below HVAL.out HB45.out) (isV_below (isV_below HV.out HX4.out.b) HB45.out)).mono ?_
  rintro e w5 ⟨rfl, hb5⟩
  rw [HT2.out]
  have HB5 := Lib.hid (HX4.out.b.trans ((HB45.out.trans (hb5.mono HB45.out.size)).mono HX4.out.b.size))
  have HS5 := Lib.hid (HS4.out.below (HB45.out.trans (hb5.mono HB45.out.size)))
  clear hb5 y0 y1 y2 y3 yf yz
  obtain ⟨XA, hcut, hSX⟩ := cut_to A3 c3 g _ HS5.out h.length hge
  have htk : g.take h.length = h := by rw [HGR.out, List.take_left]
  rw [htk] at hSX
  have HSX := Lib.hid hSX
  have d5 : decide ((g.length : Int) < (h.length : Int)) = false := by simp; omega
  have d6 : decide (g.length < h.length) = false := by simp; omega
  clear htk hSX
  go_wp2_with fail
  refine (equalH_any_l XA A c3 c h h _ HSX.out (HS.out.below HB5.out)).mono ?_
  rintro e w6 ⟨rfl, q6, rfl⟩
  rw [decide_eq_true rfl]
  obtain ⟨W6, hW6⟩ : ∃ W6, W6 = World.drewN w5 q6 := ⟨_, rfl⟩
  rw [← hW6]
  have hb56 : Below w5.heap.size w5 W6 := by rw [hW6]; exact below_drewN (Below.refl _ _) _
  have HB6 := Lib.hid (HB5.out.trans (hb56.mono HB5.out.size))
  have HS6 := Lib.hid (HS5.out.below hb56)
  clear hcut hW6 hb56 d5 d6
  go_wp2_with fail
  refine (At_any h A c at_ _ (HS.out.below HB6.out) H64.out (by omega)).mono ?_
  rintro e w7 (⟨a, rfl, hok, qA, qc, rfl, hO7, hb7⟩ | ⟨hno, x7, hx7, rfl, hb7, -⟩)
  · obtain ⟨e1, e2⟩ := reads_ext hok H64.out r
    rw [← HGR.out] at e1 e2
    obtain ⟨K, hK⟩ : ∃ K, K = kdR h a := ⟨_, rfl⟩
    obtain ⟨M, hM⟩ : ∃ M, M = nmR h a := ⟨_, rfl⟩
    obtain ⟨T, hT⟩ : ∃ T, T = txR h a := ⟨_, rfl⟩
    obtain ⟨P, hP⟩ : ∃ P, P = paR h a := ⟨_, rfl⟩
    obtain ⟨r1, r2, r3, r4⟩ : (kdR g a : Int) = (kdR h a : Int) ∧ nmR g a = nmR h a ∧ txR g a = txR h a ∧ paR g a = paR h a :=
      ⟨congrArg Ob.kind e2, congrArg Ob.num e2, congrArg Ob.text e2, congrArg Ob.parts e2⟩
    rw [← hK] at r1
    rw [← hM] at r2
    rw [← hT] at r3
    rw [← hP] at r4
    rw [← hP] at hO7
    rw [← hK, ← hM, ← hT, ← hP]
    have HRR := Lib.hid (And.intro r1 (And.intro r2 (And.intro r3 r4)))
    have HE1 := Lib.hid e1
    have HB7 := Lib.hid (HB6.out.trans (hb7.mono HB6.out.size))
    have HS7 := Lib.hid (HS6.out.below hb7)
    have HP7 := Lib.hid (Su.of_own hO7)
    clear hok e1 e2 hK hM hT hP r1 r2 r3 r4 hO7 hb7
    go_wp2_with fail
    have HB78 := Lib.hid (show Below w7.heap.size w7 (w7.alloc (.cells #[.int .i64 (a : Int), .int .i64 (K : Int), .int .i64 M, .string T, .slice qA P.length qc] 30)) from (Below.refl _ _).alloc (Nat.le_refl _) _)
    refine (At_any g A3 c3 (a : Int) _ (HS7.out.below HB78.out) HG64.out (by omega)).mono ?_
    rintro e w8 (⟨b, hab, hok8, pA8, pc8, rfl, hO8, hb8⟩ | ⟨hno, _⟩)
    rotate_left
    · exact (hno ⟨a, rfl, HE1.out⟩).elim
    obtain rfl : a = b := by omega
    obtain ⟨r1, r2, r3, r4⟩ := HRR.out
    rw [r4] at hO8
    rw [r1, r2, r3, r4]
    have HB8 := Lib.hid (HB7.out.trans ((HB78.out.trans (hb8.mono HB78.out.size)).mono HB7.out.size))
    have HP8 := Lib.hid (Su.of_own hO8)
    have HP78 := Lib.hid (HP7.out.below (HB78.out.trans (hb8.mono HB78.out.size)))
    have hz8 := hb8.size
    have o1 : w8.cell? ⟨w7.heap.size, 1, none⟩ = some (.int .i64 (K : Int)) := (hb8.cell (p := ⟨_, _, none⟩) (by simp)).trans (by simp)
    have o2 : w8.cell? ⟨w7.heap.size, 2, none⟩ = some (.int .i64 M) := (hb8.cell (p := ⟨_, _, none⟩) (by simp)).trans (by simp)
    have o3 : w8.cell? ⟨w7.heap.size, 3, none⟩ = some (.string T) := (hb8.cell (p := ⟨_, _, none⟩) (by simp)).trans (by simp)
    have o4 : w8.cell? ⟨w7.heap.size, 4, none⟩ = some (.slice qA P.length qc) := (hb8.cell (p := ⟨_, _, none⟩) (by simp)).trans (by simp)
    simp at hz8
    have hz8' : w7.heap.size < w8.heap.size := by omega
    clear hok8 hab r1 r2 r3 r4 hO8 hb8 hz8
    go_wp2_with fail
    have HB89 := Lib.hid (show Below w8.heap.size w8 (w8.alloc (.cells #[.int .i64 (a : Int), .int .i64 (K : Int), .int .i64 M, .string T, .slice pA8 P.length pc8] 30)) from (Below.refl _ _).alloc (Nat.le_refl _) _)
    refine (equalU_any_l pA8 qA pc8 qc P P _ (HP8.out.below HB89.out) (HP78.out.below HB89.out)).mono ?_
    rintro e w9 ⟨rfl, q9, rfl⟩
    rw [decide_eq_true rfl]
    clear o1 o2 o3 o4
    go_wp2_with fail
    go_ret
    exact ⟨rfl, below_drewN (HB8.out.trans (HB89.out.mono HB8.out.size)) _⟩
  · have HB7 := Lib.hid (HB6.out.trans (hb7.mono HB6.out.size))
    have HS7 := Lib.hid (HS6.out.below hb7)
    have x07 : (x7 != 0) = true := by simpa using hx7
    clear hno hx7 hb7
    go_wp2_with fail
    have HB78 := Lib.hid (show Below w7.heap.size w7 (w7.alloc (.cells #[.int .i64 0, .int .i64 0, .int .i64 0, .string ⟨#[]⟩, .slice none 0 0] 30)) from (Below.refl _ _).alloc (Nat.le_refl _) _)
    refine (At_any g A3 c3 at_ _ (HS7.out.below HB78.out) HG64.out (by omega)).mono ?_
    rintro e w8 (⟨b, _, hok8, pA8, pc8, rfl, hO8, hb8⟩ | ⟨hno, x8, hx8, rfl, hb8, -⟩)
    all_goals
      have HB8 := Lib.hid (HB7.out.trans ((HB78.out.trans (hb8.mono HB78.out.size)).mono HB7.out.size))
      clear hb8
      go_wp2_with fail
      go_ret
      exact ⟨rfl, HB8.out.alloc HB8.out.size _⟩
set_option maxRecDepth 100000 in
theorem heapRight_walk {H : Type} {enc : TypeId × Value → H} (W : World) (base : Nat) (v0 v1 v2 : Value) {d0 d1 d2 : DataW H} {p0 p1 p2 : List MemPlace}
    (k0 : Value.okWide Try.prog W .any base 23 v0) (k1 : Value.okWide Try.prog W .any base 38 v1) (k2 : Value.okWide Try.prog W .any base 3 v2)
    (h0 : DataW.Trod enc Try.prog W 0 (fun _ => true) true 23 v0 d0 p0) (h1 : DataW.Trod enc Try.prog W 0 (fun _ => true) true 38 v1 d1 p1) (h2 : DataW.Trod enc Try.prog W 0 (fun _ => true) true 3 v2 d2 p2) (hk : Rows.uptoSmall H [d0, d1, d2] = true) :
    Calls Try.prog 5 #[v0, v1, v2] W fun e W' => e = .returned (.bool true) ∧ Below W.heap.size W W' := by
  obtain ⟨b0, b1, b2⟩ := bulk_three hk
  obtain ⟨A, c, h, rfl, hS, h64, hl⟩ := open_heapU k0 h0
  obtain ⟨t, k, m, s, vA, n, vc, rfl, hV, hm, hw⟩ := open_val1W k1 h1
  obtain ⟨a2, rfl, _, _, _⟩ := open_int Try.underlying3 k2 h2
  exact heapRight_go A c h t k m s vA n vc a2 W hS h64 (by omega) hV (by omega) hw
end Go.Proofs.Ytmpeckjemgenbaa
