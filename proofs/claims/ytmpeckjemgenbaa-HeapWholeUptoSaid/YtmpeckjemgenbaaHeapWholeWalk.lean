/- The walk of the law HeapWhole. -/
import Derived.Test.YtmpeckjemgenbaaHeaps
import Derived.Test.YtmpeckjemgenbaaHeapOpenU
import Derived.Test.YtmpeckjemgenbaaDeep
namespace Go.Proofs.Ytmpeckjemgenbaa
open Go.RowKit Go.ChangeShapes Go.WideShapes Go.Deep
set_option linter.unusedVariables false
/-- the box of the law's value -/
structure VB (w wx : World) (k m : Int) (s : ByteArray) (A : Option Addr) (n c : Nat) : Prop where
  c0 : wx.cell? ⟨w.heap.size + 1, 0, none⟩ = some (.int .i64 k)
  c1 : wx.cell? ⟨w.heap.size + 1, 1, none⟩ = some (.int .i64 m)
  c2 : wx.cell? ⟨w.heap.size + 1, 2, none⟩ = some (.string s)
  c3 : wx.cell? ⟨w.heap.size + 1, 3, none⟩ = some (.slice A n c)
  hz : w.heap.size + 1 < wx.heap.size
  hB : Below w.heap.size w wx
theorem VB.below {w wx wy : World} {k m : Int} {s : ByteArray} {A : Option Addr} {n c : Nat} (h : VB w wx k m s A n c) (hb : Below wx.heap.size wx wy) : VB w wy k m s A n c := by
  have g := fun o => hb.cell (p := ⟨w.heap.size + 1, o, none⟩) h.hz
  exact ⟨(g 0).trans h.c0, (g 1).trans h.c1, (g 2).trans h.c2, (g 3).trans h.c3, by have := hb.size; have := h.hz; omega, h.hB.trans (hb.mono h.hB.size)⟩
structure WB (w wx : World) (a : Int) (o : Ob) (pA : Option Addr) (pc : Nat) : Prop where
  c0 : wx.cell? ⟨w.heap.size, 0, none⟩ = some (.int .i64 a)
  c1 : wx.cell? ⟨w.heap.size, 1, none⟩ = some (.int .i64 o.kind)
  c2 : wx.cell? ⟨w.heap.size, 2, none⟩ = some (.int .i64 o.num)
  c3 : wx.cell? ⟨w.heap.size, 3, none⟩ = some (.string o.text)
  c4 : wx.cell? ⟨w.heap.size, 4, none⟩ = some (.slice pA o.parts.length pc)
  hz : w.heap.size < wx.heap.size
theorem WB.below {w wx wy : World} {a : Int} {o : Ob} {pA : Option Addr} {pc : Nat} (h : WB w wx a o pA pc) (hb : Below wx.heap.size wx wy) : WB w wy a o pA pc := by
  have g := fun j => hb.cell (p := ⟨w.heap.size, j, none⟩) h.hz
  exact ⟨(g 0).trans h.c0, (g 1).trans h.c1, (g 2).trans h.c2, (g 3).trans h.c3, (g 4).trans h.c4, by have := hb.size; have := h.hz; omega⟩
set_option maxHeartbeats 8000000 in
set_option maxRecDepth 100000 in
theorem heapWhole_go (A : Option Addr) (c : Nat) (h : List Nat) (a : Int) (o : Ob) (pA : Option Addr) (pc : Nat) (t : VT) (k m : Int) (s : ByteArray) (vA : Option Addr) (n vc : Nat) (w : World)
    (hS : Su w (.slice A h.length c) h) (h64 : All64 h) (hlen : h.length ≤ 1048576) (hP : Su w (.slice pA o.parts.length pc) o.parts) (hp64 : All64 o.parts) (hnum : -9223372036854775808 ≤ o.num ∧ o.num < 9223372036854775808)
    (hV : t.isV w (fun _ => True) [.int .i64 k, .int .i64 m, .string s, .slice vA n vc]) (hm : t.many ≤ 1048576) (hw : t.wf) :
    Calls Try.prog 4 #[.slice A h.length c, .agg #[.int .i64 a, .int .i64 o.kind, .int .i64 o.num, .string o.text, .slice pA o.parts.length pc], .agg #[.int .i64 k, .int .i64 m, .string s, .slice vA n vc]] w fun e w' => e = .returned (.bool true) ∧ Below w.heap.size w w' := by
  have HS := Lib.hid hS
  have H64 := Lib.hid h64
  have HP := Lib.hid hP
  have HP64 := Lib.hid hp64
  have HNUM := Lib.hid hnum
  have HV := Lib.hid hV
  have HWF := Lib.hid hw
  clear hS h64 hP hp64 hnum hV hw
  obtain ⟨W0, hW0⟩ : ∃ W0, W0 = (w.alloc (.cells #[.int .i64 a, .int .i64 o.kind, .int .i64 o.num, .string o.text, .slice pA o.parts.length pc] 30)).alloc (.cells #[.int .i64 k, .int .i64 m, .string s, .slice vA n vc] 38) := ⟨_, rfl⟩
  have HVB0 := Lib.hid (show VB w W0 k m s vA n vc by
    rw [hW0]
    constructor
    any_goals (first | simp [go_sem] | skip)
    exact ((Below.refl _ _).alloc (Nat.le_refl _) _).alloc (by simp) _)
  have HWB0 := Lib.hid (show WB w W0 a o pA pc by
    rw [hW0]
    constructor
    any_goals (first | simp [go_sem] | skip)
    all_goals (try omega))
  go_enter Try.func4, Try.ntmps4
  go_wp2_with fail
  rw [← hW0]
  clear hW0
  refine (Objects_any h A c _ (HS.out.below HVB0.out.hB) H64.out (by omega)).mono ?_
  rintro e w1 (⟨h4, l, hO, v, C, rfl, hrow, hb⟩ | ⟨hno, x, hx, rfl, hb⟩)
  · have HVB1 := Lib.hid (HVB0.out.below hb)
    have HWB1 := Lib.hid (HWB0.out.below hb)
    have HO := Lib.hid hO
    have hll : l.length ≤ 4000 := by
      have h1 := len_flatO l
      rw [← hO.1] at h1
      omega
    obtain ⟨Ao, co, rfl, -, -, -⟩ := own_any hrow.row
    clear hrow hb hO
    go_wp2_with fail
    refine (heaps_any _).mono ?_
    rintro e w2 ⟨rfl, hb2⟩
    have HVB2 := Lib.hid (HVB1.out.below hb2)
    have HWB2 := Lib.hid (HWB1.out.below hb2)
    obtain ⟨o0, o1, o2, o3, o4, oz⟩ := HWB2.out
    clear hb2
    go_wp2_with fail
    rcases Classical.em (FitsOb h o) with hf | hf
    · have HF := Lib.hid hf
      have hGO : GoodOb o := ⟨hf.1, HNUM.out, HP64.out⟩
      have HGO := Lib.hid hGO
      have HOS := Lib.hid (obs_snoc HO.out hGO)
      have hl2 := hf.2
      obtain ⟨g, hg⟩ : ∃ g, g = h ++ wordsO o := ⟨_, rfl⟩
      have hl3 : g.length ≤ 4000 := by rw [hg, List.length_append]; exact hl2
      rw [← hg] at HOS
      have HGE := Lib.hid hg
      clear hf hGO
      refine (Put_ok h A c o a pA pc _ (HS.out.below HVB2.out.hB) (HP.out.below HVB2.out.hB) HF.out).mono ?_
      rintro e w3 ⟨A3, d3, rfl, hO3, hb3⟩
      rw [← hg] at hO3 ⊢
      clear hg
      have HVB3 := Lib.hid (HVB2.out.below hb3)
      have HWB3 := Lib.hid (HWB2.out.below hb3)
      have HS3 := Lib.hid (Su.of_own hO3)
      clear hO3 hb3 o0 o1 o2 o3 o4 oz
      go_wp2_with fail
      refine (Objects_any g A3 d3 _ HS3.out HOS.out.all64 (by omega)).mono ?_
      rintro e w4 (⟨g4, m', hO4, v4, C4, rfl, hrow4, hb4⟩ | ⟨hno, _⟩)
      rotate_left
      · exact (hno ⟨by omega, _, HOS.out⟩).elim
      obtain rfl := obs_inj hO4 HOS.out
      have HVB4 := Lib.hid (HVB3.out.below hb4)
      have HWB4 := Lib.hid (HWB3.out.below hb4)
      have HS4 := Lib.hid (HS3.out.below hb4)
      obtain ⟨A4, c4, rfl, -, -, -⟩ := own_any hrow4.row
      have HLL := Lib.hid (show (l ++ [o]).length = l.length + 1 by simp)
      clear hO4 hrow4 hb4 g4
      go_wp2_with fail
      refine (At_any g A3 d3 (h.length : Int) _ HS4.out HOS.out.all64 (by omega)).mono ?_
      rintro e w5 hA5
      have hre := obs_reads (m := []) HOS.out
      have hfl : (flatO l).length = h.length := by rw [← HO.out.1]
      rw [hfl] at hre
      rcases hA5 with ⟨b, hb, hok, qA, qc, rfl, hO5, hb5⟩ | ⟨hno, _⟩
      rotate_left
      · exact (hno ⟨_, rfl, hre.1⟩).elim
      obtain rfl : h.length = b := by omega
      obtain ⟨r1, r2, r3, r4⟩ : (kdR g h.length : Int) = o.kind ∧ nmR g h.length = o.num ∧ txR g h.length = o.text ∧ paR g h.length = o.parts := by
        have h2 := hre.2
        refine ⟨congrArg Ob.kind h2, congrArg Ob.num h2, congrArg Ob.text h2, congrArg Ob.parts h2⟩
      rw [r4] at hO5
      rw [r1, r2, r3, r4]
      have HVB5 := Lib.hid (HVB4.out.below hb5)
      have HWB5 := Lib.hid (HWB4.out.below hb5)
      have HS5 := Lib.hid (Su.of_own hO5)
      clear hO5 hb5 hre hfl hok r1 r2 r3 r4 hb
      obtain ⟨o0, o1, o2, o3, o4, oz⟩ := HWB5.out
      go_wp2_with fail
      refine (good_two 0 0 _ 2 _ (by simp [go_sem]) (by simp [go_sem])).mono ?_
      rintro e w6 ⟨rfl, rfl⟩
      go_wp2_with fail
      have HB56 := Lib.hid (show Below w5.heap.size w5 ((w5.alloc (.cells #[.int .i64 (h.length : Int), .int .i64 o.kind, .int .i64 o.num, .string o.text, .slice qA o.parts.length qc] 30)).alloc (.cells #[.int .i64 0, .int .i64 0] 25)) from ((Below.refl _ _).alloc (Nat.le_refl _) _).alloc (by simp) _)
      refine (equalU_any_l qA pA qc pc o.parts o.parts _ (HS5.out.below HB56.out) (HP.out.below (HVB5.out.hB.trans (HB56.out.mono HVB5.out.hB.size)))).mono ?_
      rintro e w7 ⟨rfl, q7, rfl⟩
      have HVBx := Lib.hid (HVB5.out.below (below_drewN HB56.out q7))
      clear o0 o1 o2 o3 o4 oz
      rw [decide_eq_true rfl]
      obtain ⟨wx, hwx⟩ : ∃ wx, wx = World.drewN ((w5.alloc (.cells #[.int .i64 (h.length : Int), .int .i64 o.kind, .int .i64 o.num, .string o.text, .slice qA o.parts.length qc] 30)).alloc (.cells #[.int .i64 0, .int .i64 0] 25)) q7 := ⟨_, rfl⟩
      rw [← hwx] at HVBx ⊢
      clear hwx
      obtain ⟨y0, y1, y2, y3, yz, _⟩ := HVBx.out
      go_wp2_with fail
      refine (flat_any t [.int .i64 k, .int .i64 m, .string s, .slice vA n vc] (fun _ => True) _ (isV_below HV.out HVBx.out.hB) (by omega)).mono ?_
      rintro e w8 ⟨rfl, hb8⟩
      have HVB8 := Lib.hid (HVBx.out.below hb8)
      clear hb8 y0 y1 y2 y3 yz
      cases hfb : flatB t with
      | false =>
        clear hfb
        go_wp2_with fail
        go_ret
        exact ⟨rfl, HVB8.out.hB⟩
      | true =>
        have hmm : t.many ≤ 500 := by
          unfold flatB at hfb
          exact (of_decide_eq_true hfb).2
        obtain ⟨y0, y1, y2, y3, yz, _⟩ := HVB8.out
        clear hfb
        go_wp2_with fail
        refine (Build_any t k m s vA n vc (fun _ => True) h A c _ (isV_below HV.out HVB8.out.hB) (by omega) (HS.out.below HVB8.out.hB) (by omega)).mono ?_
        rintro e w9 (⟨g9, x9, A9, c9, hr9, rfl, hO9, hb9⟩ | ⟨hr9, x, hx, rfl, hb9⟩)
        · obtain ⟨⟨r9, hob⟩, _⟩ := obs_bld t HWF.out h g9 l x9 HO.out hr9
          have HOB := Lib.hid hob
          have HVB9 := Lib.hid (HVB8.out.below hb9)
          have hl9 := bld_4000 hr9 h4
          have HS9 := Lib.hid (Su.of_own hO9)
          clear hob hr9 hO9 hb9 y0 y1 y2 y3 yz
          go_wp2_with fail
          refine (Objects_any g9 A9 c9 _ HS9.out HOB.out.all64 (by omega)).mono ?_
          rintro e w10 (⟨g10, m10, hO10, v10, C10, rfl, hrow10, hb10⟩ | ⟨hno, _⟩)
          · have hlm : l.length ≤ m10.length := by
              rw [obs_inj hO10 HOB.out, List.length_append]
              omega
            have HVB10 := Lib.hid (HVB9.out.below hb10)
            obtain ⟨A10, c10, rfl, -, -, -⟩ := own_any hrow10.row
            clear hO10 hrow10 hb10
            go_wp2_with fail
            go_ret
            exact ⟨ret_bool (by simp), HVB10.out.hB⟩
          · exact (hno ⟨by omega, _, HOB.out⟩).elim
        · have HVB9 := Lib.hid (HVB8.out.below hb9)
          have x0 : (x != 0) = true := by simpa using hx
          clear hx hr9 hb9 y0 y1 y2 y3 yz
          go_wp2_with fail
          go_ret
          exact ⟨rfl, HVB9.out.hB⟩
    · have HF := Lib.hid hf
      clear hf
      refine (Put_bad h A c o a pA pc _ (by omega) (HS.out.below HVB2.out.hB) (HP.out.below HVB2.out.hB) HF.out).mono ?_
      rintro e w3 ⟨x, hx, rfl, hb3⟩
      have HVB3 := Lib.hid (HVB2.out.below hb3)
      have x0 : (x == 0) = false := by simpa using hx
      clear hb3 hx o0 o1 o2 o3 o4 oz
      obtain ⟨y0, y1, y2, y3, yz, _⟩ := HVB3.out
      have HVBx := HVB3
      go_wp2_with fail
      refine (flat_any t [.int .i64 k, .int .i64 m, .string s, .slice vA n vc] (fun _ => True) _ (isV_below HV.out HVBx.out.hB) (by omega)).mono ?_
      rintro e w8 ⟨rfl, hb8⟩
      have HVB8 := Lib.hid (HVBx.out.below hb8)
      clear hb8 y0 y1 y2 y3 yz
      cases hfb : flatB t with
      | false =>
        clear hfb
        go_wp2_with fail
        go_ret
        exact ⟨rfl, HVB8.out.hB⟩
      | true =>
        have hmm : t.many ≤ 500 := by
          unfold flatB at hfb
          exact (of_decide_eq_true hfb).2
        obtain ⟨y0, y1, y2, y3, yz, _⟩ := HVB8.out
        clear hfb
        go_wp2_with fail
        refine (Build_any t k m s vA n vc (fun _ => True) h A c _ (isV_below HV.out HVB8.out.hB) (by omega) (HS.out.below HVB8.out.hB) (by omega)).mono ?_
        rintro e w9 (⟨g9, x9, A9, c9, hr9, rfl, hO9, hb9⟩ | ⟨hr9, x, hx, rfl, hb9⟩)
        · obtain ⟨⟨r9, hob⟩, _⟩ := obs_bld t HWF.out h g9 l x9 HO.out hr9
          have HOB := Lib.hid hob
          have HVB9 := Lib.hid (HVB8.out.below hb9)
          have hl9 := bld_4000 hr9 h4
          have HS9 := Lib.hid (Su.of_own hO9)
          clear hob hr9 hO9 hb9 y0 y1 y2 y3 yz
          go_wp2_with fail
          refine (Objects_any g9 A9 c9 _ HS9.out HOB.out.all64 (by omega)).mono ?_
          rintro e w10 (⟨g10, m10, hO10, v10, C10, rfl, hrow10, hb10⟩ | ⟨hno, _⟩)
          · have hlm : l.length ≤ m10.length := by
              rw [obs_inj hO10 HOB.out, List.length_append]
              omega
            have HVB10 := Lib.hid (HVB9.out.below hb10)
            obtain ⟨A10, c10, rfl, -, -, -⟩ := own_any hrow10.row
            clear hO10 hrow10 hb10
            go_wp2_with fail
            go_ret
            exact ⟨ret_bool (by simp), HVB10.out.hB⟩
          · exact (hno ⟨by omega, _, HOB.out⟩).elim
        · have HVB9 := Lib.hid (HVB8.out.below hb9)
          have x0 : (x != 0) = true := by simpa using hx
          clear hx hr9 hb9 y0 y1 y2 y3 yz
          go_wp2_with fail
          go_ret
          exact ⟨rfl, HVB9.out.hB⟩
  · have HVB1 := Lib.hid (HVB0.out.below hb)
    have x0 : (x != 0) = true := by simpa using hx
    clear hb hx hno
    go_wp2_with fail
    refine (heaps_any _).mono ?_
    rintro e w2 ⟨rfl, hb2⟩
    have HVB2 := Lib.hid (HVB1.out.below hb2)
    clear hb2
    go_wp2_with fail
    refine (heaps_any _).mono ?_
    rintro e w3 ⟨rfl, hb3⟩
    have HVB3 := Lib.hid (HVB2.out.below hb3)
    clear hb3
    go_wp2_with fail
    go_ret
    exact ⟨rfl, HVB3.out.hB⟩
set_option maxRecDepth 100000 in
theorem heapWhole_walk {H : Type} {enc : TypeId × Value → H} (W : World) (base : Nat) (v0 v1 v2 : Value) {d0 d1 d2 : DataW H} {p0 p1 p2 : List MemPlace}
    (k0 : Value.okWide Try.prog W .any base 23 v0) (k1 : Value.okWide Try.prog W .any base 30 v1) (k2 : Value.okWide Try.prog W .any base 38 v2)
    (h0 : DataW.Trod enc Try.prog W 0 (fun _ => true) true 23 v0 d0 p0) (h1 : DataW.Trod enc Try.prog W 0 (fun _ => true) true 30 v1 d1 p1) (h2 : DataW.Trod enc Try.prog W 0 (fun _ => true) true 38 v2 d2 p2) (hk : Rows.uptoSmall H [d0, d1, d2] = true) :
    Calls Try.prog 4 #[v0, v1, v2] W fun e W' => e = .returned (.bool true) ∧ Below W.heap.size W W' := by
  obtain ⟨b0, b1, b2⟩ := bulk_three hk
  obtain ⟨A, c, h, rfl, hS, h64, hl⟩ := open_heapU k0 h0
  obtain ⟨a, o, pA, pc, rfl, hP, hp64, hnum, hpl⟩ := open_obj k1 h1
  obtain ⟨t, k, m, s, vA, n, vc, rfl, hV, hm, hw⟩ := open_val1W k2 h2
  exact heapWhole_go A c h a o pA pc t k m s vA n vc W hS h64 (by omega) hP hp64 hnum hV (by omega) hw
end Go.Proofs.Ytmpeckjemgenbaa
