/- Opening boxes and letters, and the contract of boxes. -/
import Derived.Test.YtjalgnpbdcefdaaBoxPut
namespace Go.Proofs.Ytjalgnpbdcefdaa
open Go.RowKit Go.ChangeShapes Go.WideShapes
set_option linter.unusedVariables false
section
variable {H : Type} {enc : TypeId × Value → H} {W : World} {held : Bool}
theorem field_eq {P : Program} {n t o o' z z' : Nat} {cs : List Value} {r : Option (DataW H × List MemPlace)} (h : DataW.trod enc P W 0 (fun _ => true) held n t ((cs.drop o).take z) = r) (ho : o = o') (hz : z = z') : DataW.trod enc P W 0 (fun _ => true) held n t ((cs.drop o').take z') = r := by
  subst ho hz; exact h
set_option maxRecDepth 100000 in
theorem open_letter {fuel : Nat} {cs : List Value} {x : DataW H × List MemPlace} (h : DataW.trod enc Try.prog W 0 (fun _ => true) held fuel 44 cs = some x) :
    ∃ l : LT, l.isL W (fun _ => True) cs ∧ l.val.many ≤ Rows.uptoBulk x.1 := by
  obtain ⟨xs, n, hfu, hx, hlen, hxl, hf⟩ := DataW.trod_struct Try.underlying44 h
  have hl9 : cs.length = 9 := hlen.trans (by kernel_rfl)
  have hx6 : xs.length = 6 := hxl
  match cs, hl9, xs, hx6 with
  | [c0, c1, c2, c3, c4, c5, c6, c7, c8], _, [x0, x1, x2, x3, x4, x5], _ =>
    have h0 := field_eq (hf 0 _ rfl) (o' := 0) (z' := 1) rfl (by kernel_rfl)
    have h1 := field_eq (hf 1 _ rfl) (o' := 1) (z' := 1) rfl (by kernel_rfl)
    have h2 := field_eq (hf 2 _ rfl) (o' := 2) (z' := 1) rfl (by kernel_rfl)
    have h3 := field_eq (hf 3 _ rfl) (o' := 3) (z' := 1) rfl (by kernel_rfl)
    have h4 := field_eq (hf 4 _ rfl) (o' := 4) (z' := 1) rfl (by kernel_rfl)
    have h5 := field_eq (hf 5 _ rfl) (o' := 5) (z' := 4) rfl (by kernel_rfl)
    obtain ⟨z0, e0, _, _⟩ := DataW.trod_int Try.underlying3 h0
    obtain ⟨z1, e1, _, _⟩ := DataW.trod_int Try.underlying3 h1
    obtain ⟨z2, e2, _, _⟩ := DataW.trod_int Try.underlying3 h2
    obtain ⟨z3, e3, _, _⟩ := DataW.trod_int Try.underlying3 h3
    obtain ⟨s4, e4, _, _⟩ := DataW.trod_string Try.underlying9 h4
    obtain ⟨v, hv, hm⟩ := open_val n _ _ h5
    have hv' : v.isV W (fun _ => True) [c5, c6, c7, c8] := hv
    obtain ⟨k2, m2, s2, A2, n2, c2', hc⟩ := isV_cells hv'
    simp at e0 e1 e2 e3 e4 hc
    obtain ⟨rfl, rfl, rfl, rfl⟩ := hc
    subst e0 e1 e2 e3 e4
    refine ⟨⟨z0, z1, z2, z3, s4, v⟩, ⟨k2, m2, s2, A2, n2, c2', rfl, hv'⟩, ?_⟩
    rw [hx]
    simp only [List.map, Rows.uptoBulk, Rows.uptoBulkAll]
    omega
set_option maxRecDepth 100000 in
theorem open_letters {fuel : Nat} {cs : List Value} {x : DataW H × List MemPlace} (h : DataW.trod enc Try.prog W 0 (fun _ => true) held fuel 36 cs = some x) :
    ∃ A n c arg, cs = [.slice A n c] ∧ n ≤ c ∧ c ≤ 9223372036854775807 ∧ (A = none → n = 0) ∧ RdL W (fun _ => True) A n arg ∧ (∀ i, i < n → (arg i).val.many ≤ Rows.uptoBulk x.1) := by
  obtain ⟨A, n, c, C, E, e3, hnc, hcm, hA, hR, hlenC, hel, hbulk⟩ := open_rows_bulk (sz := 9) Try.underlying36 (by kernel_rfl) (by omega) h
  have hch : ∀ i, ∃ l : LT, i < n → l.isL W (fun _ => True) (C i) ∧ l.val.many ≤ Rows.uptoBulk (E i) := fun i => by
    by_cases hi : i < n
    · obtain ⟨m, pl, hm, ht⟩ := hel i hi
      obtain ⟨l, h5, h6⟩ := open_letter ht
      exact ⟨l, fun _ => ⟨h5, h6⟩⟩
    · exact ⟨⟨0, 0, 0, 0, ⟨#[]⟩, .none⟩, fun h => absurd h hi⟩
  obtain ⟨F, hF⟩ := Classical.axiomOfChoice hch
  refine ⟨A, n, c, F, e3, hnc, hcm, hA, fun h0 => ?_, fun i hi => ?_⟩
  · obtain ⟨b, off, hAb, hb, hcell⟩ := hR h0
    exact ⟨b, off, hAb, hb, trivial, C, fun i hi => ⟨(hF i hi).1, hcell i hi⟩⟩
  · have h1 := (hF i hi).2
    have h2 : Rows.uptoBulk (E i) ≤ sumTo (fun i => Rows.uptoBulk (E i)) n := le_sumTo (g := fun i => Rows.uptoBulk (E i)) hi
    omega
end
theorem Try.cells38 : Try.prog.cellsOf 38 = 2 := by kernel_rfl
set_option maxRecDepth 100000 in
theorem open_box {H : Type} {enc : TypeId × Value → H} {W : World} {base : Nat} {v : Value} {d : DataW H} {p : List MemPlace} (k0 : Value.okWide Try.prog W .any base 38 v) (h0 : DataW.Trod enc Try.prog W 0 (fun _ => true) true 38 v d p) :
    ∃ A n c at_ arg, v = .agg #[.slice A n c, .int .i64 at_] ∧ n ≤ c ∧ c ≤ 9223372036854775807 ∧ (A = none → n = 0) ∧ RdL W (fun _ => True) A n arg ∧ (∀ i, i < n → (arg i).val.many ≤ Rows.uptoBulk d) := by
  obtain ⟨c0, c1, y0, y1, m, rfl, rfl, rfl, g0, g1⟩ := Joins.open_agg2 Try.underlying38 (by kernel_rfl) Try.cells38 k0 h0
  obtain ⟨A, n, c, arg, e0, hnc, hcm, hA, hR, hm⟩ := open_letters g0
  obtain ⟨z, e1, _, _⟩ := DataW.trod_int Try.underlying3 g1
  simp at e0 e1
  subst e0 e1
  refine ⟨A, n, c, z, arg, rfl, hnc, hcm, hA, hR, fun i hi => ?_⟩
  have := hm i hi
  simp only [Rows.uptoBulk, Rows.uptoBulkAll]
  omega
set_option maxRecDepth 100000 in
theorem open_letter1 {H : Type} {enc : TypeId × Value → H} {W : World} {base : Nat} {v : Value} {d : DataW H} {p : List MemPlace} (k0 : Value.okWide Try.prog W .any base 44 v) (h0 : DataW.Trod enc Try.prog W 0 (fun _ => true) true 44 v d p) :
    ∃ (l : LT) (cs : List Value), v = .agg cs.toArray ∧ l.isL W (fun _ => True) cs ∧ l.val.many ≤ Rows.uptoBulk d := by
  obtain ⟨⟨cs⟩, rfl, _⟩ := okWide_struct Try.underlying44 k0
  obtain ⟨fuel, hf⟩ := h0
  obtain ⟨l, hl, hm⟩ := open_letter hf
  exact ⟨l, cs, rfl, hl, hm⟩
theorem bulk_two {H : Type} {d0 d1 : DataW H} (hk : Rows.uptoSmall H [d0, d1] = true) : Rows.uptoBulk d0 ≤ 1048576 ∧ Rows.uptoBulk d1 ≤ 1048576 := by
  have h := of_decide_eq_true hk
  simp only [Rows.uptoBulkAll] at h
  omega
end Go.Proofs.Ytjalgnpbdcefdaa
