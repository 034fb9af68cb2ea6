/- What a Let makes of a store, and the walk of the law BlobApart. -/
import Derived.Test.YtelpommocgmdjaaBlobOnceWalk
namespace Go.Proofs.Ytelpommocgmdjaa
open Go.RowKit Go.ChangeShapes Go.WideShapes

/-- what a Let of entry i has made of a store -/
def Let1 (T : Nat → ByteArray) (M : Nat → Int) (n i : Nat) (T' : Nat → ByteArray) (M' : Nat → Int) (gone : Bool) : Prop :=
  OkS T M n ∧ i < n ∧ OkS T' M' n ∧ ((1 < M i ∧ T' = T ∧ M' = updF M i (M i - 1) ∧ gone = false) ∨ (M i = 1 ∧ T' = updF T i ⟨#[]⟩ ∧ M' = updF M i 0 ∧ gone = true))
def LetRes (T : Nat → ByteArray) (M : Nat → Int) (n : Nat) (at_ : Int) (w : World) (e : Ending) (w' : World) : Prop :=
  LetErr w e w' ∨ ∃ (i : Nat) (T' : Nat → ByteArray) (M' : Nat → Int) (gone : Bool), at_ = (i : Int) ∧ Let1 T M n i T' M' gone ∧ LetPost n (blobC T' M') gone w e w'
theorem let_any (A : Option Addr) (n c : Nat) (T : Nat → ByteArray) (M : Nat → Int) (at_ : Int) (w : World) (hn : n ≤ c) (hc : c ≤ 9223372036854775807) (hR : Rd w 2 (blobC T M) A n) :
    Calls Try.prog 32 #[.slice A n c, .int .i64 at_] w (LetRes T M n at_ w) := by
  by_cases h : ¬ OkS T M n ∨ at_ < 0 ∨ (n : Int) ≤ at_ ∨ M at_.toNat = 0
  · exact (let_err A n c T M at_ w hn hc hR h).mono fun _ _ h => .inl h
  · have ok : OkS T M n := Classical.byContradiction fun h' => h (.inl h')
    obtain ⟨i, rfl⟩ := Int.eq_ofNat_of_zero_le (show 0 ≤ at_ from Int.not_lt.1 fun h' => h (.inr (.inl h')))
    have hi : i < n := by
      rcases Nat.lt_or_ge i n with h' | h'
      · exact h'
      · exact absurd (.inr (.inr (.inl (by omega)))) h
    have h0 : M i ≠ 0 := fun h' => h (.inr (.inr (.inr (by simpa using h'))))
    have hb := ok_bounds ok hi
    by_cases h1 : M i = 1
    · exact (let_last A n c T M i w hn hc hR ok hi h1).mono fun _ _ h => .inr ⟨i, _, _, _, rfl, ⟨ok, hi, ok_gone ok (by simp) (by decide), .inr ⟨h1, rfl, rfl, rfl⟩⟩, h⟩
    · exact (let_more A n c T M i w hn hc hR ok hi (by omega)).mono fun _ _ h => .inr ⟨i, _, _, _, rfl, ⟨ok, hi, ok_less ok hi ⟨by omega, by omega, hb.2.2.1, fun e => by omega⟩ (by omega), .inl ⟨by omega, rfl, rfl, rfl⟩⟩, h⟩
theorem let1_far {T T' : Nat → ByteArray} {M M' : Nat → Int} {n i j : Nat} {gone : Bool} (h : Let1 T M n i T' M' gone) (hj : j ≠ i) : T' j = T j ∧ M' j = M j := by
  obtain ⟨_, _, _, ⟨_, rfl, rfl, _⟩ | ⟨_, rfl, rfl, _⟩⟩ := h <;> simp [updF, hj]
theorem held1_far {T : Nat → ByteArray} {M M' : Nat → Int} {n n' k j : Nat} {x : ByteArray} (h : Held1 T M n x n' k M') (hj : j < n) (h0 : M j ≠ 0) : j < n' ∧ M' j ≠ 0 ∧ (updF T k x j).toList = (T j).toList := by
  obtain ⟨ok, hx, h | h | h⟩ := h
  · obtain ⟨rfl, hk, h1, ht, _, rfl⟩ := h
    refine ⟨hj, ?_, ?_⟩
    · unfold updF; split <;> omega
    · unfold updF; split
      · rename_i e; rw [e, ht]
      · rfl
  · obtain ⟨rfl, hk, h1, hno, rfl⟩ := h
    have : j ≠ k := fun e => h0 (by rw [e, h1])
    exact ⟨hj, by simp [updF, this, h0], by simp [updF, this]⟩
  · obtain ⟨rfl, rfl, h60, hno, rfl⟩ := h
    have : j ≠ k := by omega
    exact ⟨by omega, by simp [updF, this, h0], by simp [updF, this]⟩
def GetRes (T : Nat → ByteArray) (M : Nat → Int) (n : Nat) (at_ : Int) (w : World) (e : Ending) (w' : World) : Prop :=
  GetErr w e w' ∨ ∃ j : Nat, at_ = (j : Int) ∧ OkS T M n ∧ j < n ∧ M j ≠ 0 ∧ e = .returned (.tuple #[.string (T j), .int .i64 0]) ∧ Below w.heap.size w w'
theorem get_any (A : Option Addr) (n c : Nat) (T : Nat → ByteArray) (M : Nat → Int) (at_ : Int) (w : World) (hn : n ≤ c) (hc : c ≤ 9223372036854775807) (hR : Rd w 2 (blobC T M) A n) :
    Calls Try.prog 31 #[.slice A n c, .int .i64 at_] w (GetRes T M n at_ w) := by
  by_cases ok : OkS T M n
  · by_cases h : at_ < 0 ∨ (n : Int) ≤ at_ ∨ M at_.toNat = 0
    · exact (get_none A n c T M at_ w hn hc hR ok h).mono fun _ _ ⟨he, hb⟩ => .inl ⟨4, he, by omega, hb⟩
    · obtain ⟨i, rfl⟩ := Int.eq_ofNat_of_zero_le (show 0 ≤ at_ from Int.not_lt.1 fun h' => h (.inl h'))
      have hi : i < n := by
        rcases Nat.lt_or_ge i n with h' | h'
        · exact h'
        · exact absurd (.inr (.inl (by omega))) h
      have h0 : M i ≠ 0 := fun h' => h (.inr (.inr (by simpa using h')))
      exact (get_ok A n c T M i w hn hc hR ok hi h0).mono fun _ _ ⟨he, hb⟩ => .inr ⟨i, rfl, ok, hi, h0, he, hb⟩
  · exact (get_bad A n c T M at_ w hn hc hR ok).mono fun _ _ h => .inl h

set_option maxRecDepth 100000 in
set_option maxHeartbeats 1600000 in
theorem blobApart_go (A : Option Addr) (n c : Nat) (T : Nat → ByteArray) (M : Nat → Int) (x : ByteArray) (at_ other : Int) (w : World) (hn : n ≤ c) (hc : c ≤ 9223372036854775807) (hA : A = none → n = 0) (hR : Rd w 2 (blobC T M) A n) :
    Calls Try.prog 9 #[.slice A n c, .string x, .int .i64 at_, .int .i64 other] w fun e w' => e = .returned (.bool true) ∧ Below w.heap.size w w' := by
  have HR := Lib.hid hR
  have HA := Lib.hid hA
  clear hR hA
  go_enter Try.func9, Try.ntmps9
  go_wp2_with fail
  refine (get_any A n c T M other _ hn hc HR.out).mono ?_
  rintro e w1 (⟨e1, rfl, he1, hb1⟩ | ⟨j, rfl, ok, hj, hj0, rfl, hb1⟩)
  · have q1 : (e1 != 0) = true := by simpa using he1
    clear he1
    go_wp2_with fail
    refine (blobs_any _).mono ?_
    rintro e w2 ⟨rfl, hb2⟩
    go_wp2_with fail
    refine (blobs_any _).mono ?_
    rintro e w3 ⟨rfl, hb3⟩
    go_wp2_with fail
    go_ret
    have hB2 := hb1.trans (hb2.mono hb1.size)
    exact ⟨rfl, hB2.trans (hb3.mono hB2.size)⟩
  · have hz1 := hb1.size
    have OK := Lib.hid ok
    have HJ0 := Lib.hid hj0
    clear ok hj0
    go_wp2_with fail
    refine (blobs_any _).mono ?_
    rintro e w2 ⟨rfl, hb2⟩
    have hB2 : Below w.heap.size w w2 := hb1.trans (hb2.mono hz1)
    have hz2 := hB2.size
    clear hb1 hb2 hz1
    go_wp2_with fail
    refine (hold_any A n c T M x _ hn hc HA.out (HR.out.below hB2)).mono ?_
    rintro e w3 (⟨e2, rfl, he2, hb3⟩ | ⟨n2, k2, M2, hh2, ⟨v2, rfl, hown2, hb3⟩⟩)
    · have q2 : (e2 == 0) = false := by simpa using he2
      have hB3 : Below w.heap.size w w3 := hB2.trans (hb3.mono hz2)
      have hz3 := hB3.size
      clear he2 hb3 hB2 hz2
      go_wp2_with fail
      refine (let_any A n c T M at_ _ hn hc (HR.out.below hB3)).mono ?_
      rintro e w4 (⟨e4, rfl, he4, hb4⟩ | ⟨i, T', M', gone, rfl, hL, ⟨v4, rfl, hown4, hb4⟩⟩)
      · have q4 : (e4 != 0) = true := by simpa using he4
        have hB4 : Below w.heap.size w w4 := hB3.trans (hb4.mono hz3)
        clear he4 hb4 hB3 hz3
        go_wp2_with fail
        go_ret
        exact ⟨rfl, hB4⟩
      · have hB4 : Below w.heap.size w w4 := hB3.trans (hb4.mono hz3)
        have hz4 := hB4.size
        by_cases hij : (i : Int) = (j : Int)
        · have q5 : ((i : Int) == (j : Int)) = true := by simpa using hij
          clear hb4 hB3 hz3 hown4 hL hij
          go_wp2_with fail
          go_ret
          exact ⟨rfl, hB4⟩
        · have q5 : ((i : Int) == (j : Int)) = false := by simpa using hij
          have hne : j ≠ i := by omega
          obtain ⟨f1, f2⟩ := let1_far hL hne
          obtain ⟨A4, c4, hv4, hnc4, hcm4, _⟩ := own_any hown4
          subst hv4
          have H4 := Lib.hid (get_ok A4 n c4 T' M' j w4 hnc4 hcm4 (Rd.of_own (blobC_len _ _) hown4) hL.2.2.1 hj (by rw [f2]; exact HJ0.out))
          rw [f1] at H4
          clear hb4 hB3 hz3 hown4 hL hij f1 f2 hne
          go_wp2_with fail
          refine H4.out.mono ?_
          rintro e w5 ⟨rfl, hb5⟩
          go_wp2_with fail
          go_ret
          exact ⟨rfl, hB4.trans (hb5.mono hz4)⟩
    · obtain ⟨g1, g2, g3⟩ := held1_far hh2 hj HJ0.out
      obtain ⟨ok2, _⟩ := held1_facts hh2
      obtain ⟨A3, c3, hv3, hnc3, hcm3, _⟩ := own_any hown2
      subst hv3
      have H3 := Lib.hid (get_ok A3 n2 c3 _ M2 j w3 hnc3 hcm3 (Rd.of_own (blobC_len _ _) hown2) ok2 g1 g2)
      have hB3 : Below w.heap.size w w3 := hB2.trans (hb3.mono hz2)
      have hz3 := hB3.size
      have G3 := Lib.hid g3
      generalize updF T k2 x j = tj at *
      have g3 := G3.out
      clear hown2 hh2 g2 ok2 hb3 hB2 hz2
      go_wp2_with fail
      refine H3.out.mono ?_
      rintro e w3a ⟨rfl, hb3a⟩
      have hB3a : Below w.heap.size w w3a := hB3.trans (hb3a.mono hz3)
      have hz3a := hB3a.size
      clear hb3a hB3 hz3
      go_wp2_with fail
      refine (let_any A n c T M at_ _ hn hc (HR.out.below hB3a)).mono ?_
      clear g3
      rintro e w4 (⟨e4, rfl, he4, hb4⟩ | ⟨i, T', M', gone, rfl, hL, ⟨v4, rfl, hown4, hb4⟩⟩)
      · have q4 : (e4 != 0) = true := by simpa using he4
        have hB4 : Below w.heap.size w w4 := hB3a.trans (hb4.mono hz3a)
        clear he4 hb4 hB3a hz3a
        go_wp2_with fail
        go_ret
        exact ⟨rfl, hB4⟩
      · have hB4 : Below w.heap.size w w4 := hB3a.trans (hb4.mono hz3a)
        have hz4 := hB4.size
        by_cases hij : (i : Int) = (j : Int)
        · have q5 : ((i : Int) == (j : Int)) = true := by simpa using hij
          clear hb4 hB3a hz3a hown4 hL hij
          go_wp2_with fail
          go_ret
          exact ⟨rfl, hB4⟩
        · have q5 : ((i : Int) == (j : Int)) = false := by simpa using hij
          have hne : j ≠ i := by omega
          obtain ⟨f1, f2⟩ := let1_far hL hne
          obtain ⟨A4, c4, hv4, hnc4, hcm4, _⟩ := own_any hown4
          subst hv4
          have H4 := Lib.hid (get_ok A4 n c4 T' M' j w4 hnc4 hcm4 (Rd.of_own (blobC_len _ _) hown4) hL.2.2.1 hj (by rw [f2]; exact HJ0.out))
          rw [f1] at H4
          clear hb4 hB3a hz3a hown4 hL hij f1 f2 hne
          go_wp2_with fail
          refine H4.out.mono ?_
          rintro e w5 ⟨rfl, hb5⟩
          go_wp2_with fail
          go_ret
          exact ⟨rfl, hB4.trans (hb5.mono hz4)⟩
set_option maxRecDepth 100000 in
theorem blobApart_walk {H : Type} {enc : TypeId × Value → H} (W : World) (base : Nat) (v0 v1 v2 v3 : Value) {d0 d1 d2 d3 : DataW H} {p0 p1 p2 p3 : List MemPlace}
    (k0 : Value.okWide Try.prog W .any base 56 v0) (k1 : Value.okWide Try.prog W .any base 9 v1) (k2 : Value.okWide Try.prog W .any base 3 v2) (k3 : Value.okWide Try.prog W .any base 3 v3)
    (h0 : DataW.Trod enc Try.prog W 0 (fun _ => true) true 56 v0 d0 p0) (h1 : DataW.Trod enc Try.prog W 0 (fun _ => true) true 9 v1 d1 p1)
    (h2 : DataW.Trod enc Try.prog W 0 (fun _ => true) true 3 v2 d2 p2) (h3 : DataW.Trod enc Try.prog W 0 (fun _ => true) true 3 v3 d3 p3) :
    Calls Try.prog 9 #[v0, v1, v2, v3] W fun e W' => e = .returned (.bool true) ∧ Below W.heap.size W W' := by
  obtain ⟨A, n, c, T, M, rfl, hnc, hcm, hA, hR⟩ := open_store k0 h0
  obtain ⟨s, rfl, _, _, _⟩ := ChangeMaps.open_string Try.underlying9 k1 h1
  obtain ⟨a2, rfl, _, _, _⟩ := open_int Try.underlying3 k2 h2
  obtain ⟨a3, rfl, _, _, _⟩ := open_int Try.underlying3 k3 h3
  exact blobApart_go A n c T M s a2 a3 W hnc hcm hA hR
end Go.Proofs.Ytelpommocgmdjaa
