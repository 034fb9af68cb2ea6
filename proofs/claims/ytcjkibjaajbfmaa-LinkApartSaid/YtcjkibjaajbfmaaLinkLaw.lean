/- Opening rows of watches and links that are an argument; equal rows of numbers. -/
import Derived.Test.YtcjkibjaajbfmaaLinkG
import Derived.Test.YtcjkibjaajbfmaaAppInts
import Derived.Test.YtcjkibjaajbfmaaOpen
namespace Go.Proofs.Ytcjkibjaajbfmaa
open Go.RowKit Go.ChangeShapes Go.WideShapes Go.Deep
set_option linter.unusedVariables false
theorem fl_lst' (T : Nat → Int) {n k : Nat} (h : k < n) : lst (fl T n) k = T k := by
  unfold lst
  rw [List.getD_eq_getElem?_getD, fl_get T h]
  rfl
section
variable {H : Type} {enc : TypeId × Value → H} {W : World}
set_option maxRecDepth 100000 in
theorem open_sl {u : Value} {m : Nat} {y : DataW H × List MemPlace} (h : DataW.trod enc Try.prog W 0 (fun _ => true) true m 23 [u] = some y) : ∃ l : List Int, Sl W u l := by
  obtain ⟨A, n, c, C, hcs, hnc, hcm, hA, hR, hlen, hel⟩ := open_rows Try.underlying23 (by kernel_rfl) (sz := 1) (by omega) h
  have hv : u = .slice A n c := by simpa using hcs
  have hvi : ∀ j, ∃ z : Int, j < n → C j = [.int .i64 z] := fun j => by
    by_cases hj : j < n
    · obtain ⟨m2, q2, hy2⟩ := hel j hj
      obtain ⟨z, e, _, hw⟩ := DataW.trod_int Try.underlying3 hy2
      exact ⟨z, fun _ => e⟩
    · exact ⟨0, fun h => absurd h hj⟩
  obtain ⟨Z, hZ⟩ := Classical.axiomOfChoice hvi
  have hl := fl_len Z n
  refine ⟨fl Z n, A, c, by rw [hl]; exact hv, by rw [hl]; exact hnc, hcm, by rw [hl]; exact hA, ?_⟩
  rw [hl]
  exact hR.congr fun k hk => by unfold tmC; rw [hZ k hk, fl_lst' Z hk]
set_option maxRecDepth 100000 in
theorem open_link {base : Nat} {v : Value} {d : DataW H} {p : List MemPlace} (k0 : Value.okWide Try.prog W .any base 62 v) (h0 : DataW.Trod enc Try.prog W 0 (fun _ => true) true 62 v d p) :
    ∃ A n c R vw vl, v = .slice A n c ∧ n ≤ c ∧ c ≤ 9223372036854775807 ∧ RdL W A n R vw vl := by
  obtain ⟨a0, l0, cp0, rfl⟩ := okWide_slice Try.underlying62 k0
  obtain ⟨fuel, hf⟩ := h0
  obtain ⟨A, n, c, C, hcs, hnc, hcm, hA, hR, hlen, hel⟩ := open_rows Try.underlying62 (by kernel_rfl) (sz := 3) (by omega) hf
  have hv : Value.slice a0 l0 cp0 = .slice A n c := by simpa [Value.cells] using hcs
  clear hf hcs k0
  have hvi : ∀ j, ∃ q : LR × Value × Value, j < n → C j = [.int .i64 q.1.ref, q.2.1, q.2.2] ∧ Sl W q.2.1 q.1.ws ∧ Sl W q.2.2 q.1.ls := fun j => by
    by_cases hj : j < n
    · obtain ⟨m, y, hy⟩ := hel j hj
      have hg := trod_fields Try.underlying68 (by kernel_rfl) hy
      match hC : C j, hlen j with
      | [u0, u1, u2], _ =>
        rw [hC] at hg
        obtain ⟨_, _, g0⟩ := hg 0 _ u0 rfl rfl
        obtain ⟨_, _, g1⟩ := hg 1 _ u1 rfl rfl
        obtain ⟨_, _, g2⟩ := hg 2 _ u2 rfl rfl
        obtain ⟨z0, e0, _, _⟩ := DataW.trod_int Try.underlying3 g0
        obtain ⟨l1, h1⟩ := open_sl g1
        obtain ⟨l2, h2⟩ := open_sl g2
        simp at e0
        exact ⟨⟨⟨z0, l1, l2⟩, u1, u2⟩, fun _ => ⟨by rw [e0], h1, h2⟩⟩
    · exact ⟨⟨⟨0, [], []⟩, undef, undef⟩, fun h => absurd h hj⟩
  obtain ⟨Q, hQ⟩ := Classical.axiomOfChoice hvi
  exact ⟨A, n, c, fun k => (Q k).1, fun k => (Q k).2.1, fun k => (Q k).2.2, hv, hnc, hcm, ⟨hR.congr fun k hk => (hQ k hk).1, fun k hk => (hQ k hk).2⟩⟩
end
theorem equalI_lists (A B : Option Addr) (n m c d : Nat) (l : List Int) (w : World) (hn : n = l.length) (hm : m = l.length) (hl : l.length ≤ 9223372036854775807) (hT : Rd w 1 (tmC (lst l)) A l.length) (hU : Rd w 1 (tmC (lst l)) B l.length) :
    Calls Try.prog 23 #[.slice A n c, .slice B m d] w fun e w' => e = .returned (.bool true) ∧ Below w.heap.size w w' := by
  subst hn hm
  refine (equalI_any A B l.length c l.length d (lst l) (lst l) w hl hl hT hU).mono ?_
  rintro e w' ⟨rfl, q, rfl⟩
  refine ⟨ret_bool ?_, below_drewN (Below.refl _ _) _⟩
  rw [anyOf_false.2 (fun j hj => by simp)]
  simp
end Go.Proofs.Ytcjkibjaajbfmaa
