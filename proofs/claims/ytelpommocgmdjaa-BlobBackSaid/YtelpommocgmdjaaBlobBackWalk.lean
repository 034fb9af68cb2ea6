/- The walk of the law BlobBack. -/
import Derived.Test.YtelpommocgmdjaaBlobApartWalk
namespace Go.Proofs.Ytelpommocgmdjaa
open Go.RowKit Go.ChangeShapes Go.WideShapes

theorem back_same {T : Nat → ByteArray} {M M1 M2 : Nat → Int} {T2 : Nat → ByteArray} {n n1 k : Nat} {x : ByteArray} {gone : Bool} (h : Held1 T M n x n1 k M1) (hL : Let1 (updF T k x) M1 n1 k T2 M2 gone) :
    n ≤ n1 ∧ (∀ i, i < n → sameB T2 T M2 M i) ∧ (gone = false → n1 = n) ∧ (gone = true → M2 k = 0) := by
  obtain ⟨ok, hx, h | h | h⟩ := h
  · obtain ⟨rfl, hk, h0, ht, h1, rfl⟩ := h
    have e1 : updF M k (M k + 1) k = M k + 1 := by simp [updF]
    obtain ⟨_, _, _, hl | hl⟩ := hL
    · obtain ⟨_, rfl, rfl, rfl⟩ := hl
      refine ⟨by omega, fun i hi => ?_, fun _ => rfl, fun h => by cases h⟩
      rw [e1]
      unfold sameB updF
      by_cases e : i = k
      · subst e; simp [ht]
      · simp [e]
    · rw [e1] at hl; omega
  · obtain ⟨rfl, hk, h0, hno, rfl⟩ := h
    have e1 : updF M k 1 k = 1 := by simp [updF]
    have hb := ok_bounds ok hk
    obtain ⟨_, _, _, hl | hl⟩ := hL
    · rw [e1] at hl; omega
    · obtain ⟨_, rfl, rfl, rfl⟩ := hl
      refine ⟨by omega, fun i hi => ?_, (fun h => by cases h), fun _ => by simp [updF]⟩
      unfold sameB updF
      by_cases e : i = k
      · subst e; simp [hb.2.2.2 h0, h0]
      · simp [e]
  · obtain ⟨rfl, rfl, h60, hno, rfl⟩ := h
    have e1 : updF M k 1 k = 1 := by simp [updF]
    obtain ⟨_, _, _, hl | hl⟩ := hL
    · rw [e1] at hl; omega
    · obtain ⟨_, rfl, rfl, rfl⟩ := hl
      refine ⟨by omega, fun i hi => ?_, (fun h => by cases h), fun _ => by simp [updF]⟩
      unfold sameB updF
      have : i ≠ k := by omega
      simp [this]
def LetSure (T : Nat → ByteArray) (M : Nat → Int) (n i : Nat) (w : World) (e : Ending) (w' : World) : Prop :=
  ∃ (T' : Nat → ByteArray) (M' : Nat → Int) (gone : Bool), Let1 T M n i T' M' gone ∧ LetPost n (blobC T' M') gone w e w'
theorem let_sure (A : Option Addr) (n c : Nat) (T : Nat → ByteArray) (M : Nat → Int) (i : Nat) (w : World) (hn : n ≤ c) (hc : c ≤ 9223372036854775807) (hR : Rd w 2 (blobC T M) A n) (ok : OkS T M n) (hi : i < n) (h0 : 1 ≤ M i) :
    Calls Try.prog 32 #[.slice A n c, .int .i64 i] w (LetSure T M n i w) := by
  have hb := ok_bounds ok hi
  by_cases h1 : M i = 1
  · exact (let_last A n c T M i w hn hc hR ok hi h1).mono fun _ _ h => ⟨_, _, _, ⟨ok, hi, ok_gone ok (by simp) (by decide), .inr ⟨h1, rfl, rfl, rfl⟩⟩, h⟩
  · exact (let_more A n c T M i w hn hc hR ok hi (by omega)).mono fun _ _ h => ⟨_, _, _, ⟨ok, hi, ok_less ok hi ⟨by omega, by omega, hb.2.2.1, fun e => by omega⟩ (by omega), .inl ⟨by omega, rfl, rfl, rfl⟩⟩, h⟩
set_option maxRecDepth 100000 in
set_option maxHeartbeats 1600000 in
theorem blobBack_go (A : Option Addr) (n c : Nat) (T : Nat → ByteArray) (M : Nat → Int) (x : ByteArray) (w : World) (hn : n ≤ c) (hc : c ≤ 9223372036854775807) (hA : A = none → n = 0) (hR : Rd w 2 (blobC T M) A n) :
    Calls Try.prog 10 #[.slice A n c, .string x] w fun e w' => e = .returned (.bool true) ∧ Below w.heap.size w w' := by
  have HR := Lib.hid hR
  have HA := Lib.hid hA
  clear hR hA
  go_enter Try.func10, Try.ntmps10
  go_wp2_with fail
  refine (hold_any A n c T M x _ hn hc HA.out HR.out).mono ?_
  rintro e w1 (⟨e1, rfl, he1, hb1⟩ | ⟨n1, k1, M1, hh1, ⟨v1, rfl, hown1, hb1⟩⟩)
  · have q1 : (e1 != 0) = true := by simpa using he1
    clear he1
    go_wp2_with fail
    refine (blobs_any _).mono ?_
    rintro e w2 ⟨rfl, hb2⟩
    go_wp2_with fail
    refine (blobs_any _).mono ?_
    rintro e w3 ⟨rfl, hb3⟩
    go_wp2_with fail
    go_ret
    have hB2 := hb1.trans (hb2.mono hb1.size)
    exact ⟨rfl, hB2.trans (hb3.mono hB2.size)⟩
  · obtain ⟨ok1, hk1, hm1, ht1⟩ := held1_facts hh1
    obtain ⟨A1, c1, hv1, hnc1, hcm1, hA1⟩ := own_any hown1
    subst hv1
    have OK1 := Lib.hid ok1
    have HT1 := Lib.hid ht1
    have HH1 := Lib.hid hh1
    have HR1 := Lib.hid (Rd.of_own (blobC_len _ _) hown1)
    have hz1 := hb1.size
    clear hown1 ht1 hh1 ok1 hA1
    go_wp2_with fail
    refine (blobs_any _).mono ?_
    rintro e w2 ⟨rfl, hb2⟩
    have hB2 : Below w.heap.size w w2 := hb1.trans (hb2.mono hz1)
    have hz2 := hB2.size
    have HR2 := Lib.hid (HR1.out.below hb2)
    clear hb1 hb2 hz1 HR1
    go_wp2_with fail
    refine (get_ok A1 n1 c1 _ M1 k1 _ hnc1 hcm1 HR2.out OK1.out hk1 (by omega)).mono ?_
    rintro e w3 ⟨rfl, hb3⟩
    rw [HT1.out]
    have hB3 : Below w.heap.size w w3 := hB2.trans (hb3.mono hz2)
    have hz3 := hB3.size
    have HR3 := Lib.hid (HR2.out.below hb3)
    clear hb3 hz2 HR2 hB2
    go_wp2_with fail
    refine (let_sure A1 n1 c1 _ M1 k1 _ hnc1 hcm1 HR3.out OK1.out hk1 hm1).mono ?_
    rintro e w4 ⟨T', M', gone, hL, ⟨v4, rfl, hown4, hb4⟩⟩
    obtain ⟨b1, b2, b3, b4⟩ := back_same HH1.out hL
    have B2 := Lib.hid b2
    have B3 := Lib.hid b3
    have B4 := Lib.hid b4
    have HL := Lib.hid hL
    have hB4 : Below w.heap.size w w4 := hB3.trans (hb4.mono hz3)
    have hz4 := hB4.size
    obtain ⟨A4, c4, hv4, hnc4, hcm4, _⟩ := own_any hown4
    subst hv4
    have HR1d := Lib.hid (HR3.out.below hb4)
    have HR4 := Lib.hid (Rd.of_own (blobC_len _ _) hown4)
    clear b2 b3 b4 hL hb4 hown4 hB3 hz3 HR3
    go_wp2_with fail
    refine (good_two 0 0 _ _ _ (by simp) (by simp)).mono ?_
    rintro e w' ⟨rfl, rfl⟩
    go_wp2_with fail
    refine (check_ok A1 n1 c1 _ M1 _ hnc1 hcm1 (HR1d.out.alloc _) OK1.out).mono ?_
    rintro e w5 ⟨rfl, hb5⟩
    have hB5 : Below w.heap.size w w5 := (hB4.alloc hz4 _).trans (hb5.mono (by simp; omega))
    have hz5 := hB5.size
    have HR5 := Lib.hid ((HR4.out.alloc _).below hb5)
    clear hb5 hB4 hz4 HR4 HR1d
    cases gone with
    | false =>
      have e1 := B3.out rfl
      subst e1
      go_wp2_with fail
      refine (equal_yes A4 A n1 c4 c T' T M' M _ (by omega) HR5.out (HR.out.below hB5) B2.out).mono ?_
      rintro e w6 ⟨rfl, hb6⟩
      go_wp2_with fail
      go_ret
      exact ⟨rfl, hB5.trans (hb6.mono hz5)⟩
    | true =>
      go_wp2_with fail
      refine (get_none A4 n1 c4 T' M' (k1 : Int) _ hnc4 hcm4 HR5.out HL.out.2.2.1 (.inr (.inr (by simpa using B4.out)))).mono ?_
      rintro e w6 ⟨rfl, hb6⟩
      have hB6 : Below w.heap.size w w6 := hB5.trans (hb6.mono hz5)
      have hz6 := hB6.size
      have HR6 := Lib.hid (HR5.out.below hb6)
      clear hb6 hB5 hz5 HR5
      have i1 : (n : Int) ≤ (n1 : Int) := by omega
      have i2 : (n : Int) ≤ (c4 : Int) := by omega
      go_wp2_with fail
      refine (equal_yes A4 A n c4 c T' T M' M _ (by omega) (HR6.out.take b1) (HR.out.below hB6) B2.out).mono ?_
      rintro e w7 ⟨rfl, hb7⟩
      go_wp2_with fail
      go_ret
      exact ⟨rfl, hB6.trans (hb7.mono hz6)⟩
set_option maxRecDepth 100000 in
theorem blobBack_walk {H : Type} {enc : TypeId × Value → H} (W : World) (base : Nat) (v0 v1 : Value) {d0 d1 : DataW H} {p0 p1 : List MemPlace}
    (k0 : Value.okWide Try.prog W .any base 56 v0) (k1 : Value.okWide Try.prog W .any base 9 v1)
    (h0 : DataW.Trod enc Try.prog W 0 (fun _ => true) true 56 v0 d0 p0) (h1 : DataW.Trod enc Try.prog W 0 (fun _ => true) true 9 v1 d1 p1) :
    Calls Try.prog 10 #[v0, v1] W fun e W' => e = .returned (.bool true) ∧ Below W.heap.size W W' := by
  obtain ⟨A, n, c, T, M, rfl, hnc, hcm, hA, hR⟩ := open_store k0 h0
  obtain ⟨s, rfl, _, _, _⟩ := ChangeMaps.open_string Try.underlying9 k1 h1
  exact blobBack_go A n c T M s W hnc hcm hA hR
end Go.Proofs.Ytelpommocgmdjaa
