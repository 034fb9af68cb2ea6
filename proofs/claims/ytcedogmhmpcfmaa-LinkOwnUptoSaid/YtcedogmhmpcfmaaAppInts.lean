/- append of a slice of numbers behind a row of the call's own. -/
import Derived.Test.YtcedogmhmpcfmaaInts
import Derived.Deep.AppendLies
import Derived.RegionTactic
import Derived.OwnWalk
namespace Go.Proofs.Ytcedogmhmpcfmaa
open Go.RowKit
set_option linter.unusedVariables false
theorem run_append_of_nil {P : Program} (w : World) (base : Nat) (t ty e : TypeId) (i : TypeInfo) (size : Nat) (ht : P.underlying t = some (.slice e)) (hi : P.info? e = some i)
    (v : Value) (n : Nat) (xs : List Value) (hown : w.ownsRow base e size v n xs) (c : Nat) : (Builtin.append_ #[t, t] ty #[v, .slice none 0 c]).run P w = .ok v w := by
  rcases hown.2 with ⟨rfl, rfl⟩ | ⟨g, cap, cur, rfl, _, _, hnc, _⟩
  · simp [Builtin.append_, run_underlying ht, sizeOf, typeInfo, hi, Builtin.lenOf, Builtin.firstCells]
  · simp [Builtin.append_, run_underlying ht, sizeOf, typeInfo, hi, Builtin.lenOf, Builtin.firstCells, hnc, storeCells]
set_option maxRecDepth 100000 in
theorem run_append_ints (w : World) (ty : TypeId) (base : Nat) (v : Value) (l : List Int) (hown : OwnI w base v l) (A : Option Addr) (m : List Int) (c : Nat) (hA : A = none → m.length = 0) (hR : Rd w 1 (tmC (lst m)) A m.length)
    (hl : l.length + m.length ≤ 1000000) (hbase : base ≤ w.heap.size) :
    ∃ v' w', (Builtin.append_ #[30, 30] ty #[v, .slice A m.length c]).run Try.prog w = .ok v' w' ∧ OwnI w' base v' (l ++ m) ∧ w.grownBy w' v.ownBlock ∧ (v'.ownBlock = v.ownBlock ∨ v'.ownBlock = some w.heap.size) := by
  obtain ⟨i0, hi, hz0, hz1, hz2⟩ := info_parts infoI
  cases A with
  | none =>
    have hm : m = [] := List.eq_nil_of_length_eq_zero (hA rfl)
    subst hm
    exact ⟨v, w, run_append_of_nil w base 30 ty 3 i0 1 Try.underlying30 hi v l.length (encI l) hown c, by simpa using hown, grown_self _ _, .inl rfl⟩
  | some ad =>
    have hcells : ∀ j u, (encI m)[j]? = some u → w.cell? (ad.add j) = some u := by
      intro j u hu
      have hj : j < m.length := by
        rcases Nat.lt_or_ge j m.length with h | h
        · exact h
        · rw [List.getElem?_eq_none (by simpa [encI] using h)] at hu; cases hu
      obtain ⟨b, off, hA', hb, hc⟩ := hR (by omega)
      injection hA' with hA'
      subst hA'
      have h1 := hc j hj 0 _ rfl
      rw [Addr.add_lit]
      have e : u = .int .i64 (lst m j) := by
        simp [encI, lst, hj] at hu ⊢
        exact hu.symm
      rw [e]
      simpa using h1
    obtain ⟨v', w', hrun, h2, h3, _, h5⟩ := run_append_own_at (P := Try.prog) w base 30 ty 3 i0 _ 1 8 Try.underlying30 hi hz0 hz1 hz2 rfl (by omega) v l.length (encI l) hown ad m.length c (encI m) (by simp [encI]) hcells (fun u hu => by simp [encI] at hu; obtain ⟨x, _, rfl⟩ := hu; rfl) (by unfold maxLen; omega) (by omega) hbase
    refine ⟨v', w', hrun, ?_, h3, h5⟩
    unfold OwnI
    rw [List.length_append, show encI (l ++ m) = encI l ++ encI m by simp [encI]]
    exact h2
set_option maxRecDepth 100000 in
theorem wpList_append_ints {ops : Array Oper} {rest : List Oper} {o : Oper} {a : Act} {w : World} {Q : Exit → Act → World → Prop} (hgd : o.guard = none) (s x : Operand)
    (ho : o.op = .call { callee := .builtin .append, args := #[s, x], argTypes := #[30, 30] }) (base : Nat) (v : Value) (l : List Int) (hs : a.eval s = v) (hown : OwnI w base v l)
    (A : Option Addr) (m : List Int) (c : Nat) (hx : a.eval x = .slice A m.length c) (hA : A = none → m.length = 0) (hR : Rd w 1 (tmC (lst m)) A m.length) (hl : l.length + m.length ≤ 1000000) (hbase : base ≤ w.heap.size)
    (h : ∀ v' w', OwnI w' base v' (l ++ m) → w.grownBy w' v.ownBlock → (v'.ownBlock = v.ownBlock ∨ v'.ownBlock = some w.heap.size) → wpList Try.prog ops Q rest (a.put o.dst v') w') :
    wpList Try.prog ops Q (o :: rest) a w := by
  obtain ⟨v', w', hrun, h2, h3, h4⟩ := run_append_ints w o.type base v l hown A m c hA hR hl hbase
  refine wpList_plain hgd fun _ hK => ?_
  unfold Oper.wp execOp
  simp only [ho, resolve, invoke, builtin, Sem.run_bind, Sem.run_pure, Result.andThen_ok, List.map_toArray, List.map_cons, List.map_nil, hs, hx, hrun]
  exact hK _ _ (h v' w' h2 h3 h4)
end Go.Proofs.Ytcedogmhmpcfmaa
