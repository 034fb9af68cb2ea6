/- Heaps, objects and values as arguments of a law in its second form. -/
import Derived.Test.YtmpeckjemgenbaaHeapObsPlain
namespace Go.Proofs.Ytmpeckjemgenbaa
open Go.RowKit Go.ChangeShapes Go.WideShapes Go.Deep
set_option linter.unusedVariables false
section
variable {H : Type} {enc : TypeId × Value → H} {W : World} {base : Nat} {p : List MemPlace} {d : DataW H}
theorem len_bulk {E : Nat → DataW H} {n N : Nat} (h : sumTo (fun i => Rows.uptoBulk (E i)) n + 1 ≤ N) : n + 1 ≤ N := by
  have h1 := len_sumTo (g := fun i => Rows.uptoBulk (E i)) (n := n) (fun i _ => bulk_one (E i))
  omega
set_option maxRecDepth 100000 in
/-- words that are read as data -/
theorem open_words {t fuel : Nat} {cs : List Value} {x : DataW H × List MemPlace} (ht : Try.prog.underlying t = some (.slice 34)) (h : DataW.trod enc Try.prog W 0 (fun _ => true) true fuel t cs = some x) :
    ∃ (A : Option Addr) (c : Nat) (l : List Nat), cs = [.slice A l.length c] ∧ Su W (.slice A l.length c) l ∧ All64 l ∧ l.length + 1 ≤ Rows.uptoBulk x.1 := by
  obtain ⟨A, n, c, C, E, e3, hnc, hcm, hA, hR, hlenC, hel, hbulk⟩ := open_rows_bulk (sz := 1) ht (by kernel_rfl) (by omega) h
  have hvi : ∀ j, ∃ z : Nat, j < n → C j = [.int .u64 (z : Int)] ∧ z < 18446744073709551616 := fun j => by
    by_cases hj : j < n
    · obtain ⟨m, pl, _, hy⟩ := hel j hj
      obtain ⟨z, e, _, hw⟩ := DataW.trod_int Try.underlying34 hy
      simp [Lit.wf, IntKind.min, IntKind.max, IntKind.signed, IntKind.bits] at hw
      exact ⟨z.toNat, fun _ => ⟨by rw [e]; congr 2; omega, by omega⟩⟩
    · exact ⟨0, fun h => absurd h hj⟩
  obtain ⟨Z, hZ⟩ := Classical.axiomOfChoice hvi
  have hl : ((List.range n).map Z).length = n := by simp
  have hb := len_bulk hbulk
  refine ⟨A, c, (List.range n).map Z, by rw [hl]; exact e3, ⟨A, c, rfl, by omega, hcm, fun h => by rw [hl]; exact hA h, fun h1 => ?_⟩, fun x hx => ?_, by rw [hl]; exact hb⟩
  · rw [hl] at h1 ⊢
    obtain ⟨b, off, e1, e2, e4⟩ := hR h1
    refine ⟨b, off, e1, e2, fun k hk j u hu => e4 k hk j u ?_⟩
    have : uC (nth ((List.range n).map Z)) k = C k := by
      unfold uC
      rw [(hZ k hk).1]
      simp [nth, hk]
    rw [this] at hu
    exact hu
  · obtain ⟨j, hj, rfl⟩ := List.mem_map.1 hx
    exact (hZ j (List.mem_range.1 hj)).2
set_option maxRecDepth 100000 in
theorem open_heapU {v : Value} (k0 : Value.okWide Try.prog W .any base 23 v) (h0 : DataW.Trod enc Try.prog W 0 (fun _ => true) true 23 v d p) :
    ∃ (A : Option Addr) (c : Nat) (h : List Nat), v = .slice A h.length c ∧ Su W (.slice A h.length c) h ∧ All64 h ∧ h.length + 1 ≤ Rows.uptoBulk d := by
  obtain ⟨a0, l0, cp0, rfl⟩ := okWide_slice Try.underlying23 k0
  obtain ⟨fuel, hf⟩ := h0
  obtain ⟨A, c, l, hcs, h1, h2, h3⟩ := open_words Try.underlying23 hf
  exact ⟨A, c, l, by simpa [Value.cells] using hcs, h1, h2, h3⟩
set_option maxRecDepth 100000 in
/-- an object that is read as data -/
theorem open_obj {v : Value} (k0 : Value.okWide Try.prog W .any base 30 v) (h0 : DataW.Trod enc Try.prog W 0 (fun _ => true) true 30 v d p) :
    ∃ (a : Int) (o : Ob) (pA : Option Addr) (pc : Nat), v = .agg #[.int .i64 a, .int .i64 o.kind, .int .i64 o.num, .string o.text, .slice pA o.parts.length pc] ∧ Su W (.slice pA o.parts.length pc) o.parts ∧ All64 o.parts ∧ (-9223372036854775808 ≤ o.num ∧ o.num < 9223372036854775808) ∧ o.parts.length + 1 ≤ Rows.uptoBulk d := by
  obtain ⟨⟨cs⟩, rfl, _⟩ := okWide_struct Try.underlying30 k0
  clear k0
  obtain ⟨fuel, hf⟩ := h0
  have hf : DataW.trod enc Try.prog W 0 (fun _ => true) true fuel 30 cs = some (d, p) := hf
  obtain ⟨xs, n, hfu, hx, hlen, hxl, hfl⟩ := trod_fields_all Try.underlying30 (by kernel_rfl) hf
  have hl5 : cs.length = 5 := hlen.trans (by kernel_rfl)
  have hx5 : xs.length = 5 := hxl
  match cs, hl5, xs, hx5 with
  | [c0, c1, c2, c3, c4], _, [x0, x1, x2, x3, x4], _ =>
    obtain ⟨y0, f0, h0⟩ := hfl 0 _ c0 rfl rfl
    obtain ⟨y1, f1, h1⟩ := hfl 1 _ c1 rfl rfl
    obtain ⟨y2, f2, h2⟩ := hfl 2 _ c2 rfl rfl
    obtain ⟨y3, f3, h3⟩ := hfl 3 _ c3 rfl rfl
    obtain ⟨y4, f4, h4⟩ := hfl 4 _ c4 rfl rfl
    simp at f0 f1 f2 f3 f4
    subst f0 f1 f2 f3 f4
    obtain ⟨z0, e0, _, _⟩ := DataW.trod_int Try.underlying3 h0
    obtain ⟨z1, e1, _, _⟩ := DataW.trod_int Try.underlying3 h1
    obtain ⟨z2, e2, _, hw2⟩ := DataW.trod_int Try.underlying3 h2
    obtain ⟨s, e3, _, _⟩ := DataW.trod_string Try.underlying9 h3
    obtain ⟨A, c, l, e4, g1, g2, g3⟩ := open_words Try.underlying22 h4
    simp at e0 e1 e2 e3 e4
    subst e0 e1 e2 e3 e4
    simp [Lit.wf, IntKind.min, IntKind.max, IntKind.signed, IntKind.bits] at hw2
    refine ⟨z0, ⟨z1, z2, s, l⟩, A, c, ?_, g1, g2, ⟨by show -9223372036854775808 ≤ z2; omega, by show z2 < 9223372036854775808; omega⟩, ?_⟩
    · rfl
    · rw [show d = (d, p).1 from rfl, hx]
      simp only [List.map, Rows.uptoBulk, Rows.uptoBulkAll]
      omega
set_option maxRecDepth 100000 in
/-- a value that is read as data -/
theorem open_val1W {v : Value} (k0 : Value.okWide Try.prog W .any base 38 v) (h0 : DataW.Trod enc Try.prog W 0 (fun _ => true) true 38 v d p) :
    ∃ (t : VT) (k m : Int) (s : ByteArray) (A : Option Addr) (n c : Nat), v = .agg #[.int .i64 k, .int .i64 m, .string s, .slice A n c] ∧ t.isV W (fun _ => True) [.int .i64 k, .int .i64 m, .string s, .slice A n c] ∧ t.many ≤ Rows.uptoBulk d ∧ t.wf := by
  obtain ⟨⟨cs⟩, rfl, _⟩ := okWide_struct Try.underlying38 k0
  obtain ⟨fuel, hf⟩ := h0
  have hf : DataW.trod enc Try.prog W 0 (fun _ => true) true fuel 38 cs = some (d, p) := hf
  obtain ⟨t, h1, h2, h3⟩ := open_valW _ _ _ hf
  obtain ⟨k, m, s, A, n, c, rfl⟩ := isV_cells h1
  exact ⟨t, k, m, s, A, n, c, rfl, h1, h2, h3⟩
end
theorem bulk_three {H : Type} {d0 d1 d2 : DataW H} (hk : Rows.uptoSmall H [d0, d1, d2] = true) : Rows.uptoBulk d0 ≤ 1048576 ∧ Rows.uptoBulk d1 ≤ 1048576 ∧ Rows.uptoBulk d2 ≤ 1048576 := by
  have h := of_decide_eq_true hk
  simp only [Rows.uptoBulkAll] at h
  omega
end Go.Proofs.Ytmpeckjemgenbaa
