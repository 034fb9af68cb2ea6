/- The walks of the laws TermBack and TermApart. -/
import Derived.Test.YtelpommocgmdjaaTerm
namespace Go.Proofs.Ytelpommocgmdjaa
open Go.ChangeShapes Go.WideShapes Go.ChangeAt Go.RowKit

set_option maxHeartbeats 800000 in
theorem termApart_go (a0 a1 a2 a3 : Int) (w : World) :
    Calls Try.prog 4 #[.int .i64 a0, .int .i64 a1, .int .i64 a2, .int .i64 a3] w fun e w' => e = .returned (.bool true) ∧ Below w.heap.size w w' := by
  by_cases hk : okW a0 a1 = true
  · by_cases hr : okW a2 a3 = true
    · have hij := Lib.hid (word_inj hk hr)
      go_enter Try.func4, Try.ntmps4
      go_wp2_with fail
      refine (word_ok _ _ _ hk).mono ?_
      rintro e w' ⟨rfl, rfl⟩
      go_wp2_with fail
      refine (word_ok _ _ _ hr).mono ?_
      rintro e w' ⟨rfl, rfl⟩
      go_wp2_with fail
      refine (terms_any _).mono ?_
      rintro e w' ⟨rfl, rfl⟩
      go_wp2_with fail
      refine (good_two 0 0 _ _ _ (by simp) (by simp)).mono ?_
      rintro e w' ⟨rfl, rfl⟩
      by_cases h1 : a0 = a2
      · subst h1
        by_cases h2 : a1 = a3
        · subst h2
          go_wp2_with fail
          go_ret
          exact ⟨rfl, (Below.refl _ _).alloc (Nat.le_refl _) _⟩
        · have h3 : (wordV a0 a1 == wordV a0 a3) = false := by
            rw [beq_eq_false_iff_ne]; intro e; exact h2 (hij.out.1 e).2
          have h4 : (a1 == a3) = false := by simpa using h2
          clear h2 hk hr
          go_wp2_with fail
          go_ret
          exact ⟨rfl, (Below.refl _ _).alloc (Nat.le_refl _) _⟩
      · have h3 : (wordV a0 a1 == wordV a2 a3) = false := by
          rw [beq_eq_false_iff_ne]; intro e; exact h1 (hij.out.1 e).1
        have h4 : (a0 == a2) = false := by simpa using h1
        clear h1 hk hr
        go_wp2_with fail
        go_ret
        exact ⟨rfl, (Below.refl _ _).alloc (Nat.le_refl _) _⟩
    · have hr' : okW a2 a3 = false := by simpa using hr
      have he : (errW a2 == 0) = false := by unfold errW; split <;> rfl
      clear hr
      go_enter Try.func4, Try.ntmps4
      go_wp2_with fail
      refine (word_ok _ _ _ hk).mono ?_
      rintro e w' ⟨rfl, rfl⟩
      go_wp2_with fail
      refine (word_no _ _ _ hr').mono ?_
      rintro e w' ⟨rfl, rfl⟩
      go_wp2_with fail
      refine (terms_any _).mono ?_
      rintro e w' ⟨rfl, rfl⟩
      go_wp2_with fail
      refine (good_two 0 (errW a2) _ _ _ (by simp) (by simp)).mono ?_
      rintro e w' ⟨rfl, rfl⟩
      go_wp2_with fail
      refine (terms_any _).mono ?_
      rintro e w' ⟨rfl, rfl⟩
      go_wp2_with fail
      go_ret
      exact ⟨rfl, (Below.refl _ _).alloc (Nat.le_refl _) _⟩
  · have hk' : okW a0 a1 = false := by simpa using hk
    have he : (errW a0 == 0) = false := by unfold errW; split <;> rfl
    clear hk
    by_cases hr : okW a2 a3 = true
    · go_enter Try.func4, Try.ntmps4
      go_wp2_with fail
      refine (word_no _ _ _ hk').mono ?_
      rintro e w' ⟨rfl, rfl⟩
      go_wp2_with fail
      refine (word_ok _ _ _ hr).mono ?_
      rintro e w' ⟨rfl, rfl⟩
      go_wp2_with fail
      refine (terms_any _).mono ?_
      rintro e w' ⟨rfl, rfl⟩
      go_wp2_with fail
      refine (good_two (errW a0) 0 _ _ _ (by simp) (by simp)).mono ?_
      rintro e w' ⟨rfl, rfl⟩
      go_wp2_with fail
      refine (terms_any _).mono ?_
      rintro e w' ⟨rfl, rfl⟩
      go_wp2_with fail
      go_ret
      exact ⟨rfl, (Below.refl _ _).alloc (Nat.le_refl _) _⟩
    · have hr' : okW a2 a3 = false := by simpa using hr
      have he2 : (errW a2 == 0) = false := by unfold errW; split <;> rfl
      clear hr
      go_enter Try.func4, Try.ntmps4
      go_wp2_with fail
      refine (word_no _ _ _ hk').mono ?_
      rintro e w' ⟨rfl, rfl⟩
      go_wp2_with fail
      refine (word_no _ _ _ hr').mono ?_
      rintro e w' ⟨rfl, rfl⟩
      go_wp2_with fail
      refine (terms_any _).mono ?_
      rintro e w' ⟨rfl, rfl⟩
      go_wp2_with fail
      refine (good_two (errW a0) (errW a2) _ _ _ (by simp) (by simp)).mono ?_
      rintro e w' ⟨rfl, rfl⟩
      go_wp2_with fail
      refine (terms_any _).mono ?_
      rintro e w' ⟨rfl, rfl⟩
      go_wp2_with fail
      go_ret
      exact ⟨rfl, (Below.refl _ _).alloc (Nat.le_refl _) _⟩
set_option maxRecDepth 100000 in
theorem termApart_walk {H : Type} {enc : TypeId × Value → H} (W : World) (base : Nat) (v0 v1 v2 v3 : Value) {d0 d1 d2 d3 : DataW H} {p0 p1 p2 p3 : List MemPlace}
    (k0 : Value.okWide Try.prog W .any base 3 v0) (k1 : Value.okWide Try.prog W .any base 3 v1) (k2 : Value.okWide Try.prog W .any base 3 v2) (k3 : Value.okWide Try.prog W .any base 3 v3)
    (h0 : DataW.Trod enc Try.prog W 0 (fun _ => true) true 3 v0 d0 p0) (h1 : DataW.Trod enc Try.prog W 0 (fun _ => true) true 3 v1 d1 p1)
    (h2 : DataW.Trod enc Try.prog W 0 (fun _ => true) true 3 v2 d2 p2) (h3 : DataW.Trod enc Try.prog W 0 (fun _ => true) true 3 v3 d3 p3) :
    Calls Try.prog 4 #[v0, v1, v2, v3] W fun e W' => e = .returned (.bool true) ∧ Below W.heap.size W W' := by
  obtain ⟨a0, rfl, _, _, _⟩ := open_int Try.underlying3 k0 h0
  obtain ⟨a1, rfl, _, _, _⟩ := open_int Try.underlying3 k1 h1
  obtain ⟨a2, rfl, _, _, _⟩ := open_int Try.underlying3 k2 h2
  obtain ⟨a3, rfl, _, _, _⟩ := open_int Try.underlying3 k3 h3
  exact termApart_go a0 a1 a2 a3 W
end Go.Proofs.Ytelpommocgmdjaa
