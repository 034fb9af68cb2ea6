/- PickFits: the walk. -/
import Derived.Test.YtjalgnpbdcefdaaPickClosed2
import Derived.Test.YtjalgnpbdcefdaaPickOpen
namespace Go.Proofs.Ytjalgnpbdcefdaa
open Go.RowKit Go.ChangeShapes Go.WideShapes
set_option linter.unusedVariables false
section
variable {H : Type} {enc : TypeId × Value → H} {W : World} {held : Bool}
set_option maxRecDepth 100000 in
/-- a pattern that is read as data, and its bulk -/
theorem open_pat : ∀ (fuel : Nat) (cs : List Value) (x : DataW H × List MemPlace), DataW.trod enc Try.prog W 0 (fun _ => true) held fuel 24 cs = some x →
    ∃ t : VT, t.isV W (fun _ => True) cs ∧ t.many ≤ Rows.uptoBulk x.1 := by
  intro fuel
  induction fuel using Nat.strongRecOn with
  | _ fuel ih =>
    intro cs x h
    obtain ⟨xs, n, hfu, hx, hlen, hxl, hf⟩ := trod_fields_all Try.underlying24 (by kernel_rfl) h
    have hl4 : cs.length = 4 := hlen.trans (by kernel_rfl)
    have hx4 : xs.length = 4 := hxl
    match cs, hl4, xs, hx4 with
    | [c0, c1, c2, c3], _, [x0, x1, x2, x3], _ =>
      obtain ⟨y0, f0, h0⟩ := hf 0 _ c0 rfl rfl
      obtain ⟨y1, f1, h1⟩ := hf 1 _ c1 rfl rfl
      obtain ⟨y2, f2, h2⟩ := hf 2 _ c2 rfl rfl
      obtain ⟨y3, f3, h3⟩ := hf 3 _ c3 rfl rfl
      simp at f0 f1 f2 f3
      subst f0 f1 f2 f3
      obtain ⟨z0, e0, _, _⟩ := DataW.trod_int Try.underlying3 h0
      obtain ⟨z1, e1, _, hw1⟩ := DataW.trod_int Try.underlying3 h1
      obtain ⟨s, e2, _, _⟩ := DataW.trod_string Try.underlying9 h2
      obtain ⟨A, nn, c, C, E, e3, hnc, hcm, hA, hR, hlenC, hel, hbulk⟩ := open_rows_bulk (sz := 4) Try.underlying22 (by kernel_rfl) (by omega) h3
      simp at e0 e1 e2 e3
      subst e0 e1 e2 e3
      have hch : ∀ i, ∃ t : VT, i < nn → t.isV W (fun _ => True) (C i) ∧ t.many ≤ Rows.uptoBulk (E i) := fun i => by
        by_cases hi : i < nn
        · obtain ⟨m, pl, hm, ht⟩ := hel i hi
          obtain ⟨t, h5, h6⟩ := ih m (by omega) (C i) _ ht
          exact ⟨t, fun _ => ⟨h5, h6⟩⟩
        · exact ⟨.none, fun h => absurd h hi⟩
      obtain ⟨F, hF⟩ := Classical.axiomOfChoice hch
      refine ⟨.node z0 z1 s nn F, ⟨A, c, rfl, hnc, hcm, hA, fun h0 => ?_⟩, ?_⟩
      · obtain ⟨b, off, hAb, hb, hcell⟩ := hR h0
        exact ⟨b, off, hAb, hb, trivial, C, fun i hi => ⟨(hF i hi).1, hcell i hi⟩⟩
      · have h7 : sumTo (fun i => (F i).many) nn ≤ sumTo (fun i => Rows.uptoBulk (E i)) nn := sumTo_le fun i hi => (hF i hi).2
        rw [hx]
        simp only [VT.many, List.map, Rows.uptoBulk, Rows.uptoBulkAll]
        omega
end
/-- two boxes of four cells -/
structure KF (wx : World) (b : Nat) (k1 m1 : Int) (s1 : ByteArray) (A1 : Option Addr) (n1 c1 : Nat) (k2 m2 : Int) (s2 : ByteArray) (A2 : Option Addr) (n2 c2 : Nat) : Prop where
  p0 : wx.cell? ⟨b, 0, none⟩ = some (.int .i64 k1)
  p1 : wx.cell? ⟨b, 1, none⟩ = some (.int .i64 m1)
  p2 : wx.cell? ⟨b, 2, none⟩ = some (.string s1)
  p3 : wx.cell? ⟨b, 3, none⟩ = some (.slice A1 n1 c1)
  v0 : wx.cell? ⟨b + 1, 0, none⟩ = some (.int .i64 k2)
  v1 : wx.cell? ⟨b + 1, 1, none⟩ = some (.int .i64 m2)
  v2 : wx.cell? ⟨b + 1, 2, none⟩ = some (.string s2)
  v3 : wx.cell? ⟨b + 1, 3, none⟩ = some (.slice A2 n2 c2)
  sz : b + 1 < wx.heap.size
theorem KF.below {wx wy : World} {b : Nat} {k1 m1 : Int} {s1 : ByteArray} {A1 : Option Addr} {n1 c1 : Nat} {k2 m2 : Int} {s2 : ByteArray} {A2 : Option Addr} {n2 c2 : Nat} (h : KF wx b k1 m1 s1 A1 n1 c1 k2 m2 s2 A2 n2 c2) (hb : Below wx.heap.size wx wy) : KF wy b k1 m1 s1 A1 n1 c1 k2 m2 s2 A2 n2 c2 := by
  have hz := h.sz
  have k0 : ∀ j o, j < 2 → wy.cell? ⟨b + j, o, none⟩ = wx.cell? ⟨b + j, o, none⟩ := fun j o hj => hb.cell (p := ⟨b + j, o, none⟩) (by show b + j < _; omega)
  exact ⟨(k0 0 0 (by omega)).trans h.p0, (k0 0 1 (by omega)).trans h.p1, (k0 0 2 (by omega)).trans h.p2, (k0 0 3 (by omega)).trans h.p3, (k0 1 0 (by omega)).trans h.v0, (k0 1 1 (by omega)).trans h.v1, (k0 1 2 (by omega)).trans h.v2, (k0 1 3 (by omega)).trans h.v3, by have := hb.size; omega⟩
theorem KF.new (w : World) (k1 m1 : Int) (s1 : ByteArray) (A1 : Option Addr) (n1 c1 : Nat) (k2 m2 : Int) (s2 : ByteArray) (A2 : Option Addr) (n2 c2 : Nat) (t1 t2 : TypeId) :
    KF ((w.alloc (.cells #[.int .i64 k1, .int .i64 m1, .string s1, .slice A1 n1 c1] t1)).alloc (.cells #[.int .i64 k2, .int .i64 m2, .string s2, .slice A2 n2 c2] t2)) w.heap.size k1 m1 s1 A1 n1 c1 k2 m2 s2 A2 n2 c2 := by
  constructor
  any_goals simp [go_sem]
set_option maxRecDepth 100000 in
set_option maxHeartbeats 4000000 in
theorem pickFits_go (p v : VT) (pcs vcs : List Value) (S1 S2 : Nat → Prop) (w : World) (hp : p.isV w S1 pcs) (hv : v.isV w S2 vcs) (hpm : p.many ≤ 4194304) (hvm : v.many ≤ 4194304) :
    Calls Try.prog 3 #[.agg pcs.toArray, .agg vcs.toArray] w fun e w' => e = .returned (.bool true) ∧ Below w.heap.size w w' := by
  have HBB := Lib.hid (show ∀ o o', Below w.heap.size w ((w.alloc o).alloc o') from fun o o' => ((Below.refl w.heap.size w).alloc (Nat.le_refl _) _).alloc (by simp) _)
  have HDP := Lib.hid (fun W (hb : Below w.heap.size w W) => deepPat_any p pcs S1 W (isV_below hp hb) hpm)
  have HFV := Lib.hid (fun W (hb : Below w.heap.size w W) => flat_any v vcs S2 W (isV_below hv hb) hvm)
  have HTP := Lib.hid (fun W (hb : Below w.heap.size w W) => pickFits_any p v pcs vcs S1 S2 W (isV_below hp hb) (isV_below hv hb) hpm hvm)
  have HTQ := Lib.hid (fun W (hb : Below w.heap.size w W) q S3 (hq : (closedP p).isV W S3 q) => pickFits_any (closedP p) v q vcs S3 S2 W hq (isV_below hv hb) (Nat.le_trans (many_closed p) hpm) hvm)
  have HCL := Lib.hid (fun W (hb : Below w.heap.size w W) A n c hn h1 h2 h3 => closed_any p pcs S1 A n c W (isV_below hp hb) hpm hn h1 h2 h3)
  have HNC := Lib.hid (names_closed p)
  have HHC := Lib.hid (fun h => hit_closed (p := p) (v := v) h)
  obtain ⟨k1, m1, s1, A1, n1, c1, rfl⟩ := isV_cells hp
  obtain ⟨k2, m2, s2, A2, n2, c2, rfl⟩ := isV_cells hv
  clear hp hv hpm hvm
  go_enter Try.func3, Try.ntmps3
  go_wp2_with fail
  have HK0 := Lib.hid (KF.new w k1 m1 s1 A1 n1 c1 k2 m2 s2 A2 n2 c2 24 27)
  refine (picks_any _).mono ?_
  rintro e w1 ⟨rfl, hb1⟩
  have HB1 := Lib.hid ((HBB.out _ _).trans (hb1.mono (by simp; omega)))
  have HK1 := Lib.hid (HK0.out.below hb1)
  clear hb1
  obtain ⟨p0, p1, p2, p3, v0, v1, v2, v3, sz⟩ := HK1.out
  go_wp2_with fail
  refine (HDP.out _ HB1.out).mono ?_
  rintro e w2 ⟨rfl, hb2⟩
  have HB2 := Lib.hid (HB1.out.trans (hb2.mono HB1.out.size))
  have HK2 := Lib.hid (HK1.out.below hb2)
  clear hb2 p0 p1 p2 p3 v0 v1 v2 v3 sz
  obtain ⟨p0, p1, p2, p3, v0, v1, v2, v3, sz⟩ := HK2.out
  generalize deepB p = db
  cases db with
  | true =>
    go_wp2_with fail
    refine (picks_any _).mono ?_
    rintro e w3 ⟨rfl, hb3⟩
    have HB3 := Lib.hid (HB2.out.trans (hb3.mono HB2.out.size))
    clear hb3
    go_wp2_with fail
    go_ret
    exact ⟨rfl, HB3.out⟩
  | false =>
    go_wp2_with fail
    refine (HFV.out _ HB2.out).mono ?_
    rintro e w3 ⟨rfl, hb3⟩
    have HB3 := Lib.hid (HB2.out.trans (hb3.mono HB2.out.size))
    have HK3 := Lib.hid (HK2.out.below hb3)
    clear hb3 p0 p1 p2 p3 v0 v1 v2 v3 sz
    obtain ⟨p0, p1, p2, p3, v0, v1, v2, v3, sz⟩ := HK3.out
    generalize flatB v = fb
    cases fb with
    | false =>
      go_wp2_with fail
      refine (picks_any _).mono ?_
      rintro e w4 ⟨rfl, hb4⟩
      have HB4 := Lib.hid (HB3.out.trans (hb4.mono HB3.out.size))
      clear hb4
      go_wp2_with fail
      go_ret
      exact ⟨rfl, HB4.out⟩
    | true =>
      go_wp2_with fail
      refine (HTP.out _ HB3.out).mono ?_
      rintro e w4 ⟨lA, ln, lc, rfl, hln, hlc, hlm, hlA, hb4⟩
      have HB4 := Lib.hid (HB3.out.trans (hb4.mono HB3.out.size))
      have HK4 := Lib.hid (HK3.out.below hb4)
      have HLA := Lib.hid hlA
      have HLN := Lib.hid hln
      clear hb4 hlA hln p0 p1 p2 p3 v0 v1 v2 v3 sz
      obtain ⟨p0, p1, p2, p3, v0, v1, v2, v3, sz⟩ := HK4.out
      obtain ⟨hit, hhit⟩ : ∃ hit, hitB p v = hit := ⟨_, rfl⟩
      rw [hhit] at HLN HHC
      rw [hhit]
      clear hhit
      cases hit with
      | false =>
        obtain rfl : ln = 0 := HLN.out
        go_wp2_with fail
        go_ret
        exact ⟨rfl, HB4.out⟩
      | true =>
        obtain rfl : ln = p.names := HLN.out
        generalize hN : p.names = N at *
        have HCL4 := Lib.hid (HCL.out w4 HB4.out lA N lc (Nat.le_refl _) hlc hlm HLA.out)
        go_wp2_with fail
        refine HCL4.out.mono ?_
        rintro e w5 ⟨qcs, rA, rc, rfl, hq, hr1, hr2, hr3, hb5⟩
        have HB5 := Lib.hid (HB4.out.trans (hb5.mono HB4.out.size))
        have HK5 := Lib.hid (HK4.out.below hb5)
        obtain ⟨k3, m3, s3, A3, n3, c3, rfl⟩ := isV_cells hq
        have HQ := Lib.hid hq
        clear hb5 hq hr1 hr2 hr3 p0 p1 p2 p3 v0 v1 v2 v3 sz
        obtain ⟨p0, p1, p2, p3, v0, v1, v2, v3, sz⟩ := HK5.out
        rw [hN, Nat.sub_self]
        have HB5A := Lib.hid (show ∀ o, Below w.heap.size w (w5.alloc o) from fun o => HB5.out.alloc HB5.out.size _)
        have HQ5 := Lib.hid (show ∀ o, (closedP p).isV (w5.alloc o) _ _ from fun o => isV_below HQ.out ((Below.refl _ _).alloc (Nat.le_refl _) o))
        go_wp2_with fail
        refine (HTQ.out _ (HB5A.out _) _ _ (HQ5.out _)).mono ?_
        rintro e w6 ⟨lA', ln', lc', rfl, hln', hlc', hlm', _, hb6⟩
        have HB6 := Lib.hid ((HB5A.out _).trans (hb6.mono (HB5A.out _).size))
        clear hb6
        rw [HHC.out trivial] at hln' ⊢
        rw [HNC.out] at hln'
        obtain rfl : ln' = 0 := hln'
        go_wp2_with fail
        go_ret
        exact ⟨rfl, HB6.out⟩
theorem pickFits_walk {H : Type} {enc : TypeId × Value → H} (W : World) (base : Nat) (v0 v1 : Value) {d0 d1 : DataW H} {p0 p1 : List MemPlace}
    (k0 : Value.okWide Try.prog W .any base 24 v0) (k1 : Value.okWide Try.prog W .any base 27 v1)
    (h0 : DataW.Trod enc Try.prog W 0 (fun _ => true) true 24 v0 d0 p0) (h1 : DataW.Trod enc Try.prog W 0 (fun _ => true) true 27 v1 d1 p1) (hk : Rows.uptoSmall H [d0, d1] = true) :
    Calls Try.prog 3 #[v0, v1] W fun e W' => e = .returned (.bool true) ∧ Below W.heap.size W W' := by
  obtain ⟨b0, b1⟩ := bulk_two hk
  obtain ⟨⟨pcs⟩, rfl, _⟩ := okWide_struct Try.underlying24 k0
  obtain ⟨⟨vcs⟩, rfl, _⟩ := okWide_struct Try.underlying27 k1
  obtain ⟨f0, hf0⟩ := h0
  obtain ⟨f1, hf1⟩ := h1
  obtain ⟨p, hp, hpm⟩ := open_pat f0 _ _ hf0
  obtain ⟨v, hv, hvm⟩ := open_val f1 _ _ hf1
  have hpm' : p.many ≤ Rows.uptoBulk d0 := hpm
  have hvm' : v.many ≤ Rows.uptoBulk d1 := hvm
  exact pickFits_go p v pcs vcs _ _ W hp hv (by omega) (by omega)
end Go.Proofs.Ytjalgnpbdcefdaa
