/- Tables of names: maps from strings to rows, over four names. -/
import Derived.Test.YtmjihhjcgkpmhaaFr
import Derived.Maps.OwnSet
import Derived.Maps.OwnOps
import Derived.Maps.Views
import Derived.Maps.RangeWalk
import Derived.Sort.KeysCollected
import Derived.StringKeys
namespace Go.Proofs.Ytmjihhjcgkpmhaa
open Go.RowKit Go.Maps
set_option linter.unusedVariables false
/-- the four names -/
def nmB : Nat → List UInt8
  | 0 => [97]
  | 1 => [98]
  | 2 => [99]
  | _ => [120]
def nmS (i : Nat) : ByteArray := ⟨(nmB i).toArray⟩
structure RW where
  ref : Int
  cnt : Int
  node : Int
def rwV (i : Nat) (r : RW) : Value := .agg #[.string (nmS i), .int .i64 r.ref, .int .i64 r.cnt, .int .i64 r.node]
def rw0 : Value := .agg #[.string ⟨#[]⟩, .int .i64 0, .int .i64 0, .int .i64 0]
def atV (g : Nat → Option RW) (i : Nat) : Value := match g i with
  | some r => rwV i r
  | none => rw0
abbrev kS (i : Nat) : Lit := .string (nmB i)
def cntT (g : Nat → Option RW) : Nat := ((List.range 4).filter fun i => (g i).isSome).length
/-- an element stands for itself -/
def anyElem (v : Value) : Option (DataW Value × List MemPlace) := some (.held v, [])
theorem anyElem_inv {v : Value} {d : DataW Value} {ps : List MemPlace} (h : anyElem v = some (d, ps)) : d = .held v := by
  unfold anyElem at h
  injection h with h
  injection h with h1 h2
  exact h1.symm
theorem lawS : Keyed Try.prog 9 := string_keyed Try.underlying9
theorem nm_size (i : Nat) : (nmS i).size = 1 := by
  unfold nmS nmB
  split <;> rfl
theorem keyN (i : Nat) : keyOf Try.prog 9 (.string (nmS i)) = some (kS i) :=
  Go.WideMaps.keyOf_string_mk (P := Try.prog) Try.underlying9 (s := nmS i) (by rw [nm_size]; unfold maxLen; omega)
theorem nmB_inj : ∀ i, i < 4 → ∀ j, j < 4 → nmB i = nmB j → i = j := by decide
/-- block b holds the table g -/
def OwnT (w : World) (b : Nat) (g : Nat → Option RW) : Prop :=
  ∃ D : DataW Value, w.ownsMap Try.prog 9 anyElem b (Maps.size D) D ∧ Maps.size D = cntT g ∧ (∀ i, i < 4 → has D (kS i) = (g i).isSome ∧ D.atKey (kS i) (.held rw0) = .held (atV g i)) ∧ ∀ s, has D (.string s) = true → ∃ i, i < 4 ∧ s = nmB i
theorem cnt_none : cntT (fun _ => none) = 0 := by decide
theorem cnt_le (g : Nat → Option RW) : cntT g ≤ 4 := by
  have := List.length_filter_le (fun i => (g i).isSome) (List.range 4)
  simpa [cntT] using this
theorem OwnT.made (w : World) : OwnT (w.alloc (.map #[] 0)) w.heap.size (fun _ => none) :=
  ⟨.map [], World.ownsMap_made w _ _ _, by rw [cnt_none]; rfl, fun i hi => ⟨rfl, rfl⟩, fun s h => by cases h⟩
theorem OwnT.fr {S : Nat → Prop} {w w' : World} {b : Nat} {g : Nat → Option RW} (h : OwnT w b g) (hf : Fr S w w') (hn : ¬ S b) : OwnT w' b g := by
  obtain ⟨D, h1, h2⟩ := h
  exact ⟨D, hf.map h1 hn, h2⟩
theorem OwnT.lt {w : World} {b : Nat} {g : Nat → Option RW} (h : OwnT w b g) : b < w.heap.size := by obtain ⟨D, h1, _⟩ := h; exact h1.lt
theorem zeroR : ∀ w, (zeroValue 80).run Try.prog w = .ok rw0 w := fun w => by kernel_rfl
set_option maxRecDepth 100000 in
theorem OwnT.look {w : World} {b : Nat} {g : Nat → Option RW} (h : OwnT w b g) {i : Nat} (hi : i < 4) : (Instr.lookup 82 (.map (some b)) (.string (nmS i)) false).run Try.prog w = .ok (atV g i) w := by
  obtain ⟨D, h1, _, h2, _⟩ := h
  obtain ⟨v, ps, hrun, hv⟩ := h1.lookup lawS Try.underlying82 (zeroR w) (show anyElem rw0 = some (.held rw0, []) from rfl) (keyN i)
  rw [(h2 i hi).2] at hv
  have := anyElem_inv hv
  injection this with this
  rw [hrun, this]
set_option maxRecDepth 100000 in
theorem OwnT.look_ok {w : World} {b : Nat} {g : Nat → Option RW} (h : OwnT w b g) {i : Nat} (hi : i < 4) : (Instr.lookup 82 (.map (some b)) (.string (nmS i)) true).run Try.prog w = .ok (.tuple #[atV g i, .bool (g i).isSome]) w := by
  obtain ⟨D, h1, _, h2, _⟩ := h
  obtain ⟨v, ps, hrun, hv⟩ := h1.look_ok lawS Try.underlying82 (zeroR w) (show anyElem rw0 = some (.held rw0, []) from rfl) (keyN i)
  rw [(h2 i hi).2] at hv
  have := anyElem_inv hv
  injection this with this
  rw [hrun, (h2 i hi).1, this]
set_option maxRecDepth 100000 in
theorem OwnT.len {w : World} {b : Nat} {g : Nat → Option RW} (h : OwnT w b g) (ty : TypeId) : (Builtin.len_ #[82] ty #[.map (some b)]).run Try.prog w = .ok (.int .i64 (cntT g : Int)) w := by
  obtain ⟨D, h1, hs, _⟩ := h
  rw [h1.len Try.underlying82 ty, hs]
def updT (g : Nat → Option RW) (i : Nat) (r : RW) : Nat → Option RW := fun j => if j = i then some r else g j
theorem cnt_upd (g : Nat → Option RW) {i : Nat} (hi : i < 4) (r : RW) : cntT (updT g i r) = if (g i).isSome then cntT g else cntT g + 1 := by
  have e : ∀ g : Nat → Option RW, cntT g = (if (g 0).isSome then 1 else 0) + (if (g 1).isSome then 1 else 0) + (if (g 2).isSome then 1 else 0) + (if (g 3).isSome then 1 else 0) := fun g => by
    simp only [cntT, show List.range 4 = [0, 1, 2, 3] from rfl, List.filter_cons, List.filter_nil]
    cases g 0 <;> cases g 1 <;> cases g 2 <;> cases g 3 <;> simp
  rw [e, e g]
  have hk : i = 0 ∨ i = 1 ∨ i = 2 ∨ i = 3 := by omega
  unfold updT
  rcases hk with rfl | rfl | rfl | rfl <;> (cases h0 : g 0 <;> cases h1 : g 1 <;> cases h2 : g 2 <;> cases h3 : g 3 <;> simp)
theorem own_size {w : World} {b n : Nat} {D : DataW Value} (h : w.ownsMap Try.prog 9 anyElem b n D) : w.ownsMap Try.prog 9 anyElem b (Maps.size D) D := by
  obtain ⟨es, clock, hb, F, hs, rfl⟩ := h
  refine ⟨es, clock, hb, F, ?_, rfl⟩
  simp [Maps.size, length_sorted]
set_option maxRecDepth 100000 in
theorem OwnT.store {w : World} {b : Nat} {g : Nat → Option RW} (h : OwnT w b g) {i : Nat} (hi : i < 4) (r : RW) :
    ∃ w', (Instr.mapUpdate 82 (.map (some b)) (.string (nmS i)) (rwV i r)).run Try.prog w = .ok () w' ∧ OwnT w' b (updT g i r) ∧ w.grownBy w' (some b) := by
  obtain ⟨D, h1, hs, h2, h3⟩ := h
  obtain ⟨w', hrun, r1, r2⟩ := h1.update lawS Try.underlying82 (by have := cnt_le g; unfold maxLen; omega) (keyN i) (show anyElem (rwV i r) = some (.held (rwV i r), []) from rfl)
  have hKL : WideAt.IsKeyLit (kS i) := lawS.key (keyN i)
  refine ⟨w', hrun, ⟨_, own_size r1, ?_, fun j hj => ?_, fun s hsn => ?_⟩, r2⟩
  · rw [size_put (h1.tidy lawS), (h2 i hi).1, hs, cnt_upd g hi]
  · by_cases e : j = i
    · subst e
      rw [has_put_same h1.isMap hKL, atKey_put_same h1.isMap hKL]
      simp [updT, atV]
    · have hne : kS j ≠ kS i := fun hh => e (nmB_inj j hj i hi (by injection hh))
      rw [has_put_other hne, atKey_put_other hne, (h2 j hj).1, (h2 j hj).2]
      simp [updT, atV, e]
  · by_cases e : (Lit.string s) = kS i
    · exact ⟨i, hi, by injection e⟩
    · rw [has_put_other e] at hsn
      exact h3 s hsn
/-- the names that are there, in order -/
def keysT (g : Nat → Option RW) : List (List UInt8) := ((List.range 4).filter fun i => (g i).isSome).map nmB
theorem keys_len (g : Nat → Option RW) : (keysT g).length = cntT g := by simp [keysT, cntT]
theorem keys_sorted (g : Nat → Option RW) : (keysT g).Pairwise (fun a b => leB a b = true) := by
  unfold keysT
  simp only [show List.range 4 = [0, 1, 2, 3] from rfl, List.filter_cons, List.filter_nil]
  cases g 0 <;> cases g 1 <;> cases g 2 <;> cases g 3 <;> simp (decide := true) [nmB]
theorem keys_nodup (g : Nat → Option RW) : (keysT g).Nodup := by
  unfold keysT
  simp only [show List.range 4 = [0, 1, 2, 3] from rfl, List.filter_cons, List.filter_nil]
  cases g 0 <;> cases g 1 <;> cases g 2 <;> cases g 3 <;> simp (decide := true) [nmB]
theorem OwnT.keys {w : World} {b : Nat} {g : Nat → Option RW} (h : OwnT w b g) : ∃ D : DataW Value, w.ownsMap Try.prog 9 anyElem b (Maps.size D) D ∧ Maps.size D ≤ 4 ∧ ∀ ss : List (List UInt8), ss.Perm (strKeys D) → ss.mergeSort leB = keysT g := by
  obtain ⟨D, h1, hs, h2, h3⟩ := h
  refine ⟨D, h1, by have := cnt_le g; omega, fun ss hp => ?_⟩
  have hk : (keysT g).Perm (strKeys D) := by
    obtain ⟨es, rfl, hpw⟩ := h1.tidy lawS
    obtain ⟨es', hD', hko⟩ := h1.keysOf
    obtain rfl : es = es' := by simpa using hD'
    refine perm_strKeys hpw (fun p hp => ?_) (keys_nodup g) (fun x => ?_)
    · obtain ⟨v, hv⟩ := hko p hp
      obtain ⟨x, _, hx, _⟩ := Maps.keyOf_str Try.underlying9 hv
      exact ⟨x, hx⟩
    · unfold keysT
      simp only [List.mem_map, List.mem_filter, List.mem_range]
      constructor
      · rintro ⟨i, ⟨hi, hg⟩, rfl⟩
        rw [(h2 i hi).1]
        exact hg
      · intro hx
        obtain ⟨i, hi, rfl⟩ := h3 x hx
        rw [(h2 i hi).1] at hx
        exact ⟨i, ⟨hi, hx⟩, rfl⟩
  rw [mergeSort_of_perm (hp.trans hk.symm)]
  exact List.mergeSort_of_pairwise (keys_sorted g)
end Go.Proofs.Ytmjihhjcgkpmhaa
