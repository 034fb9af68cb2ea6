/- Opening boxes and letters, and the contract of boxes. -/
import Derived.Test.YtelpommocgmdjaaBoxPut
namespace Go.Proofs.Ytelpommocgmdjaa
open Go.RowKit Go.ChangeShapes Go.WideShapes
set_option linter.unusedVariables false
section
variable {H : Type} {enc : TypeId × Value → H} {W : World} {held : Bool}
theorem field_eq {P : Program} {n t o o' z z' : Nat} {cs : List Value} {r : Option (DataW H × List MemPlace)} (h : DataW.trod enc P W 0 (fun _ => true) held n t ((cs.drop o).take z) = r) (ho : o = o') (hz : z = z') : DataW.trod enc P W 0 (fun _ => true) held n t ((cs.drop o').take z') = r := by
  subst ho hz; exact h
set_option maxRecDepth 100000 in
theorem open_letter {fuel : Nat} {cs : List Value} {x : DataW H × List MemPlace} (h : DataW.trod enc Try.prog W 0 (fun _ => true) held fuel 45 cs = some x) :
    ∃ l : LT, l.isL W (fun _ => True) cs ∧ l.val.many ≤ Rows.uptoBulk x.1 := by
  obtain ⟨xs, n, hfu, hx, hlen, hxl, hf⟩ := DataW.trod_struct Try.underlying45 h
  have hl9 : cs.length = 9 := hlen.trans (by kernel_rfl)
  have hx6 : xs.length = 6 := hxl
  match cs, hl9, xs, hx6 with
  | [c0, c1, c2, c3, c4, c5, c6, c7, c8], _, [x0, x1, x2, x3, x4, x5], _ =>
    have h0 := field_eq (hf 0 _ rfl) (o' := 0) (z' := 1) rfl (by kernel_rfl)
    have h1 := field_eq (hf 1 _ rfl) (o' := 1) (z' := 1) rfl (by kernel_rfl)
    have h2 := field_eq (hf 2 _ rfl) (o' := 2) (z' := 1) rfl (by kernel_rfl)
    have h3 := field_eq (hf 3 _ rfl) (o' := 3) (z' := 1) rfl (by kernel_rfl)
    have h4 := field_eq (hf 4 _ rfl) (o' := 4) (z' := 1) rfl (by kernel_rfl)
    have h5 := field_eq (hf 5 _ rfl) (o' := 5) (z' := 4) rfl (by kernel_rfl)
    obtain ⟨z0, e0, _, _⟩ := DataW.trod_int Try.underlying3 h0
    obtain ⟨z1, e1, _, _⟩ := DataW.trod_int Try.underlying3 h1
    obtain ⟨z2, e2, _, _⟩ := DataW.trod_int Try.underlying3 h2
    obtain ⟨z3, e3, _, _⟩ := DataW.trod_int Try.underlying3 h3
    obtain ⟨s4, e4, _, _⟩ := DataW.trod_string Try.underlying9 h4
    obtain ⟨v, hv, hm⟩ := open_val n _ _ h5
    have hv' : v.isV W (fun _ => True) [c5, c6, c7, c8] := hv
    obtain ⟨k2, m2, s2, A2, n2, c2', hc⟩ := isV_cells hv'
    simp at e0 e1 e2 e3 e4 hc
    obtain ⟨rfl, rfl, rfl, rfl⟩ := hc
    subst e0 e1 e2 e3 e4
    refine ⟨⟨z0, z1, z2, z3, s4, v⟩, ⟨k2, m2, s2, A2, n2, c2', rfl, hv'⟩, ?_⟩
    rw [hx]
    simp only [List.map, Rows.uptoBulk, Rows.uptoBulkAll]
    omega
set_option maxRecDepth 100000 in
theorem open_letters {fuel : Nat} {cs : List Value} {x : DataW H × List MemPlace} (h : DataW.trod enc Try.prog W 0 (fun _ => true) held fuel 41 cs = some x) :
    ∃ A n c arg, cs = [.slice A n c] ∧ n ≤ c ∧ c ≤ 9223372036854775807 ∧ (A = none → n = 0) ∧ RdL W (fun _ => True) A n arg ∧ (∀ i, i < n → (arg i).val.many ≤ Rows.uptoBulk x.1) := by
  obtain ⟨A, n, c, C, E, e3, hnc, hcm, hA, hR, hlenC, hel, hbulk⟩ := open_rows_bulk (sz := 9) Try.underlying41 (by kernel_rfl) (by omega) h
  have hch : ∀ i, ∃ l : LT, i < n → l.isL W (fun _ => True) (C i) ∧ l.val.many ≤ Rows.uptoBulk (E i) := fun i => by
    by_cases hi : i < n
    · obtain ⟨m, pl, hm, ht⟩ := hel i hi
      obtain ⟨l, h5, h6⟩ := open_letter ht
      exact ⟨l, fun _ => ⟨h5, h6⟩⟩
    · exact ⟨⟨0, 0, 0, 0, ⟨#[]⟩, .none⟩, fun h => absurd h hi⟩
  obtain ⟨F, hF⟩ := Classical.axiomOfChoice hch
  refine ⟨A, n, c, F, e3, hnc, hcm, hA, fun h0 => ?_, fun i hi => ?_⟩
  · obtain ⟨b, off, hAb, hb, hcell⟩ := hR h0
    exact ⟨b, off, hAb, hb, trivial, C, fun i hi => ⟨(hF i hi).1, hcell i hi⟩⟩
  · have h1 := (hF i hi).2
    have h2 : Rows.uptoBulk (E i) ≤ sumTo (fun i => Rows.uptoBulk (E i)) n := le_sumTo (g := fun i => Rows.uptoBulk (E i)) hi
    omega
end
def sevenLetter : LT := ⟨1, 7, 0, 0, ⟨#[]⟩, .node 0 0 ⟨#[]⟩ 0 (fun _ => .none)⟩
theorem seven_isL (w : World) (S : Nat → Prop) : sevenLetter.isL w S [.int .i64 1, .int .i64 7, .int .i64 0, .int .i64 0, .string ⟨#[]⟩, .int .i64 0, .int .i64 0, .string ⟨#[]⟩, .slice none 0 0] :=
  ⟨0, 0, ⟨#[]⟩, none, 0, 0, rfl, ⟨none, 0, rfl, Nat.le_refl _, by omega, fun _ => rfl, fun h => by omega⟩⟩
set_option maxRecDepth 100000 in
set_option maxHeartbeats 1000000 in
theorem boxes_any (w : World) : Calls Try.prog 22 #[] w fun e w' => e = .returned (.bool true) ∧ Below w.heap.size w w' := by
  have H := Lib.hid (put_ok 0 0 none 0 (fun _ => sevenLetter) (fun _ => True) sevenLetter _ (fun _ => True) w (by omega) (by omega) (fun h => by omega) (seven_isL w _) ⟨by omega, by omega, by omega, fun i hi => by omega⟩ rfl (by omega) (fun i hi => by omega) (by simp [sevenLetter, VT.many, sumTo]))
  go_enter Try.func22, Try.ntmps22
  go_wp2_with fail
  refine H.out.mono ?_
  rintro e w1 ⟨A', c', rfl, hnc, hcm, hR, hb⟩
  obtain ⟨b, off, rfl, hb0, hSb, C, hC⟩ := hR (by omega)
  obtain ⟨hL, hcell⟩ := hC 0 (by omega)
  obtain ⟨k2, m2, s2, A2, n2, c2, hCq, _⟩ := hL
  rw [hCq] at hcell
  have c1 : w1.cell? ⟨b, off + 1, none⟩ = some (.int .i64 7) := by simpa [sevenLetter] using hcell 1 _ rfl
  have hz := hb.size
  clear hR hC hcell hCq
  go_wp2_with fail
  go_ret
  exact ⟨rfl, hb.alloc hz _⟩
end Go.Proofs.Ytelpommocgmdjaa
