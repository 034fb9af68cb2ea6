/- The walk of the law TurnFair. -/
import Derived.Test.YtjcegplockihfaaTurnRound
import Derived.Test.YtjcegplockihfaaIntsOpen
namespace Go.Proofs.Ytjcegplockihfaa
open Go.RowKit Go.ChangeShapes Go.WideShapes
set_option linter.unusedVariables false
set_option maxRecDepth 100000 in
set_option maxHeartbeats 2000000 in
theorem turnFair_go (A : Option Addr) (n c : Nat) (T : Nat → Int) (last : Int) (w : World) (hn : n ≤ c) (hc : c ≤ 9223372036854775807) (hT : Rd w 1 (tmC T) A n) :
    Calls Try.prog 9 #[.slice A n c, .int .i64 last] w fun e w' => e = .returned (.bool true) ∧ Below w.heap.size w w' := by
  have HT := Lib.hid hT
  clear hT
  by_cases ok : OkR T n
  · have HK := Lib.hid ok
    have h100 := ok.1
    clear ok
    go_enter Try.func9, Try.ntmps9
    go_wp2_with fail
    refine (round_ok A n c T last _ hn hc HT.out HK.out).mono ?_
    rintro e w1 ⟨v1, rfl, hown1, hb1⟩
    have HB1 := Lib.hid hb1
    have hz1 := hb1.size
    obtain ⟨A1, c1, hv1, _, _, _⟩ := own_any hown1
    rw [turnsL_len] at hv1
    subst hv1
    have HO1 := Lib.hid hown1
    clear hb1 hown1
    go_wp2_with fail
    refine (turns_any _).mono ?_
    rintro e w2 ⟨rfl, hb2⟩
    have HB2 := Lib.hid (HB1.out.trans (hb2.mono hz1))
    have HO2 := Lib.hid (HO1.out.below hb2)
    have hz2 := HB2.out.size
    clear hb2
    go_wp2_with fail
    refine (sortI_own w.heap.size _ _ _ HO2.out (by rw [turnsL_len]; omega)).mono ?_
    rintro e w3 ⟨rfl, hown3, hg3⟩
    have HB3 := Lib.hid (below_grown HB2.out hz2 hg3 (fun j hj => (HO2.out.blk j hj).1))
    rw [turns_srt HK.out.2] at hown3
    have HR3 := Lib.hid (show Rd w3 1 (tmC (lst (fl T n))) A1 n by have h := hown3.rd; rw [fl_len] at h; exact h)
    have hz3 := HB3.out.size
    clear hown3 hg3
    go_wp2_with fail
    refine (equalI_same A1 A n n c1 c (lst (fl T n)) T _ rfl (by omega) HR3.out (HT.out.below HB3.out) (fun k hk => by simp [lst, fl, hk])).mono ?_
    rintro e w4 ⟨rfl, hb4⟩
    have HB4 := Lib.hid (HB3.out.trans (hb4.mono hz3))
    clear hb4
    go_wp2_with fail
    go_ret
    exact ⟨rfl, HB4.out⟩
  · have HK := Lib.hid ok
    clear ok
    go_enter Try.func9, Try.ntmps9
    go_wp2_with fail
    refine (round_bad A n c T last _ _ hn hc HT.out HK.out).mono ?_
    rintro e w1 ⟨x, hx, rfl, hb1⟩
    have hx0 : (x != 0) = true := by simpa using hx
    have HB1 := Lib.hid hb1
    clear hb1 hx
    go_wp2_with fail
    refine (turns_any _).mono ?_
    rintro e w2 ⟨rfl, hb2⟩
    have HB2 := Lib.hid (HB1.out.trans (hb2.mono HB1.out.size))
    clear hb2
    go_wp2_with fail
    refine (turns_any _).mono ?_
    rintro e w3 ⟨rfl, hb3⟩
    have HB3 := Lib.hid (HB2.out.trans (hb3.mono HB2.out.size))
    clear hb3
    go_wp2_with fail
    go_ret
    exact ⟨rfl, HB3.out⟩
set_option maxRecDepth 100000 in
theorem turnFair_walk {H : Type} {enc : TypeId × Value → H} (W : World) (base : Nat) (v0 v1 : Value) {d0 d1 : DataW H} {p0 p1 : List MemPlace}
    (k0 : Value.okWide Try.prog W .any base 52 v0) (k1 : Value.okWide Try.prog W .any base 3 v1)
    (h0 : DataW.Trod enc Try.prog W 0 (fun _ => true) true 52 v0 d0 p0) (h1 : DataW.Trod enc Try.prog W 0 (fun _ => true) true 3 v1 d1 p1) :
    Calls Try.prog 9 #[v0, v1] W fun e W' => e = .returned (.bool true) ∧ Below W.heap.size W W' := by
  obtain ⟨A, n, c, T, rfl, hnc, hcm, hA, hR, hwf⟩ := open_intsW k0 h0
  obtain ⟨a1, rfl, _, _, _⟩ := open_int Try.underlying3 k1 h1
  exact turnFair_go A n c T a1 W hnc hcm hR
end Go.Proofs.Ytjcegplockihfaa
