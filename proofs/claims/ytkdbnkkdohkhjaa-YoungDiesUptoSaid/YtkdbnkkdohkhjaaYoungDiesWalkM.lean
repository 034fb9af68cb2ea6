/- The walk of the law YoungDies. -/
import Derived.Test.YtkdbnkkdohkhjaaYMB
namespace Go.Proofs.Ytkdbnkkdohkhjaa
open Go.RowKit Go.ChangeShapes Go.WideShapes Go.Deep
set_option linter.unusedVariables false
set_option maxHeartbeats 4000000 in
set_option maxRecDepth 100000 in
theorem youngDies_go (n sn mn lc sc mc : Nat) (lA sA mA : Option Addr) (arg : Nat → VT) (T0 T1 : Nat → Int) (ms : List Int) (w : World) (hV : (VT.node 0 0 ⟨#[]⟩ n arg).isV w (fun _ => True) [.int .i64 0, .int .i64 0, .string ⟨#[]⟩, .slice lA n lc]) (hw : ∀ i, i < n → (arg i).wf) (hm : ∀ i, i < n → (arg i).many ≤ 4194304) (hn : n ≤ 17592186044416)
    (hS : Rd w 2 (fun i => [.int .i64 (T0 i), .int .i64 (T1 i)]) sA sn) (hsn : sn ≤ 17592186044416) (hM : Rd w 1 (tmC (lst ms)) mA ms.length) (hmn : ms.length ≤ 17592186044416) :
    Calls Try.prog 6 #[.slice lA n lc, .slice sA sn sc, .slice mA ms.length mc] w fun e w' => e = .returned (.bool true) ∧ Below w.heap.size w w' := by
  have HGR := Lib.hid (grown_any n sn 0 lc sc mc lA sA mA arg T0 T1 ms w hV hw hm hn hS hsn hM hmn)
  clear hV hw hm hS hM
  go_enter Try.func6, Try.ntmps6
  go_wp2_with fail
  refine HGR.out.mono ?_
  rintro e w1 ⟨h, old, late, l, roots, A, c, B, d, R, rc, rfl, hrl, hok, hro, hO, hI, hR, hb⟩
  have HOK := Lib.hid hok
  have HO := Lib.hid hO
  have HI := Lib.hid hI
  have HB1 := Lib.hid hb
  obtain ⟨W2, hW2⟩ : ∃ W2, W2 = w1.alloc (.cells #[.slice A h.length c, .int .i64 old, .slice B late.length d] 26) := ⟨_, rfl⟩
  have HB2 := Lib.hid (show Below w1.heap.size w1 W2 by rw [hW2]; exact (Below.refl _ _).alloc (Nat.le_refl _) _)
  have HAG := Lib.hid (show AgB W2 w1.heap.size A h.length c old B late.length d by rw [hW2]; exact AgB.new w1 A h.length c old B late.length d 26)
  clear hok hro hO hI hR hb
  go_wp2_with fail
  rw [← hW2]
  clear hW2
  refine (youths_any _).mono ?_
  rintro e w3 ⟨rfl, hb3⟩
  have HB3 := Lib.hid (HB2.out.trans (hb3.mono HB2.out.size))
  obtain ⟨a0, a1, a2, a3⟩ := HAG.out.below hb3
  clear hb3
  go_wp2_with fail
  refine (major_any h [] A B none c d 0 old late w3 (Su.of_own (HO.out.below HB3.out)) HOK.out.obs.all64 (by have := HOK.out.len; omega) (HI.out.below HB3.out).rd (by have := late_few HOK.out; omega) HOK.out.wfl HOK.out.wfo (Su.nil _) (fun p hp => by cases hp) (by simp)).mono ?_
  rintro e w4 (⟨l2, K, A4, c4, B4, d4, hok2, hro, hRK, rfl, hO4, hR4, hb4, hne4⟩ | ⟨hno, -⟩)
  rotate_left
  · exact (hno ⟨_, HOK.out, fun p hp => by cases hp⟩).elim
  have hz := major_none hRK
  rw [hz] at hO4 ⊢
  have HB4 := Lib.hid ((HB1.out.trans (HB3.out.mono HB1.out.size)).trans (hb4.mono (Nat.le_trans HB1.out.size HB3.out.size)))
  clear hok2 hro hRK hO4 hR4 hb4 hne4 hz a0 a1 a2 a3
  go_wp2_with fail
  go_ret
  exact ⟨rfl, HB4.out.alloc HB4.out.size _⟩
set_option maxRecDepth 100000 in
theorem youngDies_walk {H : Type} {enc : TypeId × Value → H} (W : World) (base : Nat) (v0 v1 v2 : Value) {d0 d1 d2 : DataW H} {p0 p1 p2 : List MemPlace}
    (k0 : Value.okWide Try.prog W .any base 44 v0) (k1 : Value.okWide Try.prog W .any base 45 v1) (k2 : Value.okWide Try.prog W .any base 24 v2)
    (h0 : DataW.Trod enc Try.prog W 0 (fun _ => true) true 44 v0 d0 p0) (h1 : DataW.Trod enc Try.prog W 0 (fun _ => true) true 45 v1 d1 p1) (h2 : DataW.Trod enc Try.prog W 0 (fun _ => true) true 24 v2 d2 p2) (hk : Rows.uptoSmall H [d0, d1, d2] = true) :
    Calls Try.prog 6 #[v0, v1, v2] W fun e W' => e = .returned (.bool true) ∧ Below W.heap.size W W' := by
  obtain ⟨b0, b1, b2⟩ := bulk_three hk
  obtain ⟨A, n, c, F, rfl, hV, hw, hm, hn⟩ := open_vals k0 h0
  obtain ⟨sA, sn, sc, T0, T1, rfl, hS, hsn⟩ := open_pairs k1 h1
  obtain ⟨mA, ms, mc, rfl, hM, hmn⟩ := open_intsU k2 h2
  exact youngDies_go n sn 0 c sc mc A sA mA F T0 T1 ms W hV hw (fun i hi => by have := hm i hi; omega) (by omega) hS (by omega) hM (by omega)
end Go.Proofs.Ytkdbnkkdohkhjaa
