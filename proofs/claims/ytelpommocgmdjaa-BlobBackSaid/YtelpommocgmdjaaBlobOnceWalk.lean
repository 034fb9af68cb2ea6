/- What a Hold makes of a store, and the walk of the law BlobOnce. -/
import Derived.Test.YtelpommocgmdjaaBlobPlain
import Derived.Test.YtelpommocgmdjaaOpen
namespace Go.Proofs.Ytelpommocgmdjaa
open Go.RowKit Go.ChangeShapes Go.WideShapes

/-- what a Hold of x at entry k has made of a store of n entries -/
def Held1 (T : Nat → ByteArray) (M : Nat → Int) (n : Nat) (x : ByteArray) (n' k : Nat) (M' : Nat → Int) : Prop :=
  OkS T M n ∧ x.size ≤ 64 ∧
  ((n' = n ∧ k < n ∧ 0 < M k ∧ (T k).toList = x.toList ∧ M k ≠ 1000 ∧ M' = updF M k (M k + 1)) ∨
   (n' = n ∧ k < n ∧ M k = 0 ∧ (∀ i, i < n → hitB T M x i = false) ∧ M' = updF M k 1) ∨
   (n' = n + 1 ∧ k = n ∧ n < 60 ∧ (∀ i, i < n → hitB T M x i = false) ∧ M' = updF M n 1))
def HoldRes (T : Nat → ByteArray) (M : Nat → Int) (n : Nat) (x : ByteArray) (w : World) (e : Ending) (w' : World) : Prop :=
  HoldErr w e w' ∨ ∃ n' k M', Held1 T M n x n' k M' ∧ HoldPost n' k (blobC (updF T k x) M') w e w'
theorem hold_any (A : Option Addr) (n c : Nat) (T : Nat → ByteArray) (M : Nat → Int) (x : ByteArray) (w : World) (hn : n ≤ c) (hc : c ≤ 9223372036854775807) (hA : A = none → n = 0) (hR : Rd w 2 (blobC T M) A n) :
    Calls Try.prog 28 #[.slice A n c, .string x] w (HoldRes T M n x w) := by
  by_cases ok : OkS T M n
  · by_cases hx : x.size ≤ 64
    · rcases ixOf_cases (hitB T M x) n with ⟨e, hno⟩ | ⟨k, e, hk, hp, hlow⟩
      · rcases ixOf_cases (freeB M) n with ⟨e2, hno2⟩ | ⟨k, e2, hk, hp, hlow⟩
        · by_cases h60 : n < 60
          · exact (hold_new A n c T M x w hn hc hA hR ok hx e e2 h60).mono fun _ _ h => .inr ⟨_, _, _, ⟨ok, hx, .inr (.inr ⟨rfl, rfl, h60, hno, rfl⟩)⟩, h⟩
          · exact (hold_full2 A n c T M x w hn hc hR ok hx e e2 (by have := ok.1; omega)).mono fun _ _ h => .inl h
        · have h0 : M k = 0 := by simpa [freeB] using hp
          refine (hold_free A n c T M x k w hn hc hR ok hx hk e e2 (by omega)).mono fun _ _ h => .inr ⟨_, _, _, ⟨ok, hx, .inr (.inl ⟨rfl, hk, h0, hno, rfl⟩)⟩, ?_⟩
          rw [h0] at h
          exact h
      · have hh := hit_iff.1 hp
        by_cases h1 : M k = 1000
        · exact (hold_full1 A n c T M x k w hn hc hR ok hx hk e h1).mono fun _ _ h => .inl h
        · exact (hold_hit A n c T M x k w hn hc hR ok hx hk e h1).mono fun _ _ h => .inr ⟨_, _, _, ⟨ok, hx, .inl ⟨rfl, hk, hh.1, hh.2, h1, rfl⟩⟩, h⟩
    · exact (hold_long A n c T M x w hn hc hR ok (by omega)).mono fun _ _ h => .inl h
  · exact (hold_bad A n c T M x w hn hc hR ok).mono fun _ _ h => .inl h
theorem held1_facts {T : Nat → ByteArray} {M M' : Nat → Int} {n n' k : Nat} {x : ByteArray} (h : Held1 T M n x n' k M') : OkS (updF T k x) M' n' ∧ k < n' ∧ 1 ≤ M' k ∧ (updF T k x k) = x := by
  obtain ⟨ok, hx, h | h | h⟩ := h
  · obtain ⟨rfl, hk, h0, ht, h1, rfl⟩ := h
    have hb := ok_bounds ok hk
    exact ⟨ok_hit ok hk ⟨h0, ht⟩ (fine_text hx (by omega) (by omega)), hk, by simp [updF]; omega, by simp [updF]⟩
  · obtain ⟨rfl, hk, h0, hno, rfl⟩ := h
    exact ⟨ok_free ok (fine_text hx (by omega) (by omega)) hno, hk, by simp [updF], by simp [updF]⟩
  · obtain ⟨rfl, rfl, h60, hno, rfl⟩ := h
    exact ⟨ok_new ok h60 (fine_text hx (by omega) (by omega)) hno, by omega, by simp [updF], by simp [updF]⟩

theorem held_again {T : Nat → ByteArray} {M M1 M2 : Nat → Int} {n n1 n2 k1 k2 : Nat} {x : ByteArray} (h : Held1 T M n x n1 k1 M1) (h2 : Held1 (updF T k1 x) M1 n1 x n2 k2 M2) : n2 = n1 ∧ k2 = k1 ∧ M2 = updF M1 k1 (M1 k1 + 1) := by
  obtain ⟨ok, hk, hm, ht⟩ := held1_facts h
  have hhit : hitB (updF T k1 x) M1 x k1 = true := hit_iff.2 ⟨by omega, by rw [ht]⟩
  obtain ⟨_, _, h2 | h2 | h2⟩ := h2
  · obtain ⟨e, hk2, h0, ht2, _, hM⟩ := h2
    have e1 := hit_at ok hk (by omega) (by rw [ht])
    have e2 := hit_at ok hk2 h0 ht2
    rw [e1] at e2
    obtain rfl : k2 = k1 := by omega
    exact ⟨e, rfl, hM⟩
  · have := h2.2.2.2.1 k1 hk
    rw [hhit] at this
    cases this
  · have := h2.2.2.2.1 k1 hk
    rw [hhit] at this
    cases this
set_option maxRecDepth 100000 in
set_option maxHeartbeats 1000000 in
theorem blobOnce_go (A : Option Addr) (n c : Nat) (T : Nat → ByteArray) (M : Nat → Int) (x : ByteArray) (w : World) (hn : n ≤ c) (hc : c ≤ 9223372036854775807) (hA : A = none → n = 0) (hR : Rd w 2 (blobC T M) A n) :
    Calls Try.prog 8 #[.slice A n c, .string x] w fun e w' => e = .returned (.bool true) ∧ Below w.heap.size w w' := by
  have H := Lib.hid (hold_any A n c T M x w hn hc hA hR)
  clear hR hA
  go_enter Try.func8, Try.ntmps8
  go_wp2_with fail
  refine H.out.mono ?_
  rintro e w1 (⟨e1, rfl, he1, hb1⟩ | ⟨n1, k1, M1, hh1, ⟨v1, rfl, hown1, hb1⟩⟩)
  · have q1 : (e1 == 0) = false := by simpa using he1
    have Q1 := Lib.hid he1
    clear he1
    go_wp2_with fail
    refine (hold_any none 0 0 (fun _ => ⟨#[]⟩) (fun _ => 0) x _ (by omega) (by omega) (fun _ => rfl) (rd_nil _ _ _ _)).mono ?_
    rintro e w2 (⟨e2, rfl, he2, hb2⟩ | ⟨n2, k2, M2, hh2, ⟨v2, rfl, hown2, hb2⟩⟩)
    all_goals
      have hB2 : Below w.heap.size w w2 := hb1.trans (hb2.mono hb1.size)
      have hz2 := hB2.size
      clear hb1 hb2
      go_wp2_with fail
      refine (blobs_any _).mono ?_
      rintro e w3 ⟨rfl, hb3⟩
      have hB3 : Below w.heap.size w w3 := hB2.trans (hb3.mono hz2)
      have hz3 := hB3.size
      clear hb3 hB2
      go_wp2_with fail
      refine (good_two e1 _ _ _ _ (by simp) (by simp; rfl)).mono ?_
      rintro e w' ⟨rfl, rfl⟩
      rw [q1, Bool.false_and]
      go_wp2_with fail
      refine (blobs_any _).mono ?_
      rintro e w4 ⟨rfl, hb4⟩
      go_wp2_with fail
      go_ret
      exact ⟨rfl, (hB3.alloc hz3 _).trans (hb4.mono (by simp; omega))⟩
  · obtain ⟨ok1, hk1, hm1, ht1⟩ := held1_facts hh1
    obtain ⟨A1, c1, hv1, hnc1, hcm1, hA1⟩ := own_any hown1
    subst hv1
    have hR1 := Rd.of_own (blobC_len _ _) hown1
    have OK1 := Lib.hid ok1
    have HT1 := Lib.hid ht1
    have HH1 := Lib.hid hh1
    have HA1 := Lib.hid hA1
    have HR1 := Lib.hid hR1
    clear hown1 ht1 hh1 ok1 hA1 hR1
    go_wp2_with fail
    refine (hold_any A1 n1 c1 (updF T k1 x) M1 x _ hnc1 hcm1 HA1.out HR1.out).mono ?_
    rintro e w2 (⟨e2, rfl, he2, hb2⟩ | ⟨n2, k2, M2, hh2, ⟨v2, rfl, hown2, hb2⟩⟩)
    · have hB2 : Below w.heap.size w w2 := hb1.trans (hb2.mono hb1.size)
      have hz2 := hB2.size
      have q1 : (e2 == 0) = false := by simpa using he2
      clear hb1 hb2 he2
      go_wp2_with fail
      refine (blobs_any _).mono ?_
      rintro e w3 ⟨rfl, hb3⟩
      have hB3 : Below w.heap.size w w3 := hB2.trans (hb3.mono hz2)
      have hz3 := hB3.size
      clear hb3 hB2
      go_wp2_with fail
      refine (good_two 0 e2 _ _ _ (by simp) (by simp)).mono ?_
      rintro e w' ⟨rfl, rfl⟩
      rw [q1, Bool.and_false]
      go_wp2_with fail
      refine (blobs_any _).mono ?_
      rintro e w4 ⟨rfl, hb4⟩
      go_wp2_with fail
      go_ret
      exact ⟨rfl, (hB3.alloc hz3 _).trans (hb4.mono (by simp; omega))⟩
    · have hf2 := held1_facts hh2
      obtain ⟨e1, e2, e3⟩ := held_again HH1.out hh2
      subst e1
      subst e2
      rw [updF_updF] at hf2 hown2
      obtain ⟨A2, c2, hv2, hnc2, hcm2, _⟩ := own_any hown2
      subst hv2
      have hB2 : Below w.heap.size w w2 := hb1.trans (hb2.mono hb1.size)
      have HR2 := Lib.hid (Rd.of_own (blobC_len _ _) hown2)
      have HR1' := Lib.hid (HR1.out.below hb2)
      have OK2 := Lib.hid hf2.1
      obtain ⟨s1, s2, s3⟩ := sums_upd (T := updF T k2 x) (M := M1) (k := k2) (by omega) n2
      rw [← e3] at s1 s2 s3
      rw [if_pos hk1] at s2
      obtain ⟨r1, r2, r3, r4, _⟩ := sums_le OK1.out n2 (Nat.le_refl _)
      have h60 := OK1.out.1
      have S1 := Lib.hid s1
      have S2 := Lib.hid s2
      have S3 := Lib.hid s3
      have hz2 := hB2.size
      clear hown2 hf2 hh2 hb2 hb1 s1 s2 s3 e3
      go_wp2_with fail
      refine (blobs_any _).mono ?_
      rintro e w3 ⟨rfl, hb3⟩
      have HR1a := Lib.hid (HR1'.out.below hb3)
      have HR2a := Lib.hid (HR2.out.below hb3)
      have hB3 : Below w.heap.size w w3 := hB2.trans (hb3.mono hz2)
      have hz3 := hB3.size
      clear hb3 hB2
      go_wp2_with fail
      refine (good_two 0 0 _ _ _ (by simp) (by simp)).mono ?_
      rintro e w' ⟨rfl, rfl⟩
      go_wp2_with fail
      refine (size_ok A1 n2 c1 (updF T k2 x) M1 _ hnc1 hcm1 (HR1a.out.alloc _) OK1.out).mono ?_
      rintro e w5 ⟨rfl, hb5⟩
      have hB5 : Below w.heap.size w w5 := (hB3.alloc hz3 _).trans (hb5.mono (by simp; omega))
      have HR2b := Lib.hid ((HR2a.out.alloc _).below hb5)
      have hz5 := hB5.size
      clear hb5 hB3
      go_wp2_with fail
      refine (size_ok A2 n2 c2 (updF T k2 x) M2 _ hnc2 hcm2 HR2b.out OK2.out).mono ?_
      rintro e w6 ⟨rfl, hb6⟩
      rw [S1.out, S2.out, S3.out]
      have hB6 : Below w.heap.size w w6 := hB5.trans (hb6.mono hz5)
      have hz6 := hB6.size
      clear hb6 hB5
      generalize usedN M1 n2 = u1 at *
      generalize manyN M1 n2 = u2 at *
      generalize bytesN (updF T k2 x) M1 n2 = u3 at *
      go_wp2_with fail
      refine (good_two 0 0 _ _ _ (by simp) (by simp)).mono ?_
      rintro e w' ⟨rfl, rfl⟩
      go_wp2_with fail
      go_ret
      exact ⟨rfl, hB6.alloc hz6 _⟩
set_option maxRecDepth 100000 in
theorem open_store {H : Type} {enc : TypeId × Value → H} {W : World} {base : Nat} {v : Value} {d : DataW H} {p : List MemPlace} (k0 : Value.okWide Try.prog W .any base 56 v) (h0 : DataW.Trod enc Try.prog W 0 (fun _ => true) true 56 v d p) :
    ∃ A n c T M, v = .slice A n c ∧ n ≤ c ∧ c ≤ 9223372036854775807 ∧ (A = none → n = 0) ∧ Rd W 2 (blobC T M) A n := by
  obtain ⟨a0, l0, cp0, rfl⟩ := okWide_slice Try.underlying56 k0
  obtain ⟨fuel, hf⟩ := h0
  obtain ⟨A, n, c, C, hcs, hnc, hcm, hA, hR, hlen, hel⟩ := open_rows Try.underlying56 (sz := 2) (by kernel_rfl) (by omega) hf
  have hv : Value.slice a0 l0 cp0 = .slice A n c := by simpa [Value.cells] using hcs
  have hall : ∀ i, ∃ q : ByteArray × Int, i < n → C i = [.string q.1, .int .i64 q.2] := fun i => by
    by_cases hi : i < n
    · obtain ⟨m, y, hy⟩ := hel i hi
      have hf := trod_fields Try.underlying70 (by kernel_rfl) hy
      match hC : C i, hlen i with
      | [c0, c1], _ =>
        rw [hC] at hf
        obtain ⟨m0, y0, h0⟩ := hf 0 _ c0 rfl rfl
        obtain ⟨m1, y1, h1⟩ := hf 1 _ c1 rfl rfl
        obtain ⟨s, e0, _, _⟩ := DataW.trod_string Try.underlying9 h0
        obtain ⟨z, e1, _, _⟩ := DataW.trod_int Try.underlying3 h1
        simp at e0 e1
        exact ⟨(s, z), fun _ => by rw [e0, e1]⟩
    · exact ⟨(⟨#[]⟩, 0), fun h => absurd h hi⟩
  obtain ⟨Q, hQ⟩ := Classical.axiomOfChoice hall
  exact ⟨A, n, c, fun i => (Q i).1, fun i => (Q i).2, hv, hnc, hcm, hA, hR.congr fun k hk => hQ k hk⟩
set_option maxRecDepth 100000 in
theorem blobOnce_walk {H : Type} {enc : TypeId × Value → H} (W : World) (base : Nat) (v0 v1 : Value) {d0 d1 : DataW H} {p0 p1 : List MemPlace}
    (k0 : Value.okWide Try.prog W .any base 56 v0) (k1 : Value.okWide Try.prog W .any base 9 v1)
    (h0 : DataW.Trod enc Try.prog W 0 (fun _ => true) true 56 v0 d0 p0) (h1 : DataW.Trod enc Try.prog W 0 (fun _ => true) true 9 v1 d1 p1) :
    Calls Try.prog 8 #[v0, v1] W fun e W' => e = .returned (.bool true) ∧ Below W.heap.size W W' := by
  obtain ⟨A, n, c, T, M, rfl, hnc, hcm, hA, hR⟩ := open_store k0 h0
  obtain ⟨s, rfl, _, _, _⟩ := ChangeMaps.open_string Try.underlying9 k1 h1
  exact blobOnce_go A n c T M s W hnc hcm hA hR
end Go.Proofs.Ytelpommocgmdjaa
