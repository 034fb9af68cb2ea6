/- Plain facts on supervisors: whom a termination stops and starts. -/
import Derived.Test.YtcedogmhmpcfmaaWardDel
namespace Go.Proofs.Ytcedogmhmpcfmaa.Wa
set_option linter.unusedVariables false
/-- the places in [fr, to) at which P says yes -/
def ksUp (P : Nat → Bool) (fr to : Nat) : List Nat := (List.range' fr (to - fr)).filter P
def idsOf (R : Nat → Ch) (l : List Nat) : List Int := l.map fun k => (R k).id
theorem ksUp_self (P : Nat → Bool) (a : Nat) : ksUp P a a = [] := by simp [ksUp]
theorem ksUp_last (P : Nat → Bool) {fr to : Nat} (h : fr ≤ to) : ksUp P fr (to + 1) = ksUp P fr to ++ (if P to then [to] else []) := by
  unfold ksUp
  rw [show to + 1 - fr = (to - fr) + 1 by omega, List.range'_concat, List.filter_append]
  rw [show fr + 1 * (to - fr) = to by omega]
  by_cases hp : P to = true <;> simp [hp]
theorem ksUp_first (P : Nat → Bool) {fr to : Nat} (h : fr < to) : ksUp P fr to = (if P fr then [fr] else []) ++ ksUp P (fr + 1) to := by
  unfold ksUp
  rw [show to - fr = (to - (fr + 1)) + 1 by omega, List.range'_succ, List.filter_cons]
  by_cases hp : P fr = true <;> simp [hp]
theorem mem_ksUp {P : Nat → Bool} {fr to k : Nat} : k ∈ ksUp P fr to ↔ fr ≤ k ∧ k < to ∧ P k = true := by
  unfold ksUp
  rw [List.mem_filter, List.mem_range']
  constructor
  · rintro ⟨⟨i, hi, rfl⟩, hp⟩; exact ⟨by omega, by omega, hp⟩
  · rintro ⟨h1, h2, h3⟩; exact ⟨⟨k - fr, by omega, by omega⟩, h3⟩
theorem ksUp_sorted (P : Nat → Bool) (fr to : Nat) : (ksUp P fr to).Pairwise (· < ·) := by
  unfold ksUp
  exact List.Pairwise.filter _ List.pairwise_lt_range'
theorem ksUp_congr {P Q : Nat → Bool} {fr to : Nat} (h : ∀ k, fr ≤ k → k < to → P k = Q k) : ksUp P fr to = ksUp Q fr to := by
  unfold ksUp
  apply List.filter_congr
  intro k hk
  rw [List.mem_range'] at hk
  obtain ⟨i, hi, rfl⟩ := hk
  exact h _ (by omega) (by omega)
theorem ksUp_len (P : Nat → Bool) (fr to : Nat) : (ksUp P fr to).length ≤ to - fr := by
  unfold ksUp
  have := List.length_filter_le P (List.range' fr (to - fr))
  simpa using this
/-- children that no longer live -/
def offR (R : Nat → Ch) (a b : Nat) : Nat → Ch := fun k => if a ≤ k ∧ k < b then ⟨(R k).id, (R k).when, false⟩ else R k
def livesB (R : Nat → Ch) : Nat → Bool := fun k => (R k).lives
def stopIds (R : Nat → Ch) (fr to : Nat) : List Int := idsOf R (ksUp (livesB R) fr to).reverse
def startIds (R : Nat → Ch) (fr to : Nat) : List Int := idsOf R (ksUp (livesB R) fr to)
theorem stopIds_len (R : Nat → Ch) (fr to : Nat) : (stopIds R fr to).length ≤ to - fr := by
  unfold stopIds idsOf
  have := ksUp_len (livesB R) fr to
  simpa using this
theorem startIds_len (R : Nat → Ch) (fr to : Nat) : (startIds R fr to).length ≤ to - fr := by
  unfold startIds idsOf
  have := ksUp_len (livesB R) fr to
  simpa using this
theorem stopIds_step (R : Nat → Ch) {fr to : Nat} (h : fr < to) : stopIds R fr to = stopIds R (fr + 1) to ++ (if (R fr).lives then [(R fr).id] else []) := by
  unfold stopIds idsOf
  rw [ksUp_first _ h]
  by_cases hp : (R fr).lives = true <;> simp [hp, livesB]
theorem startIds_step (R : Nat → Ch) {fr to : Nat} (h : fr ≤ to) : startIds R fr (to + 1) = startIds R fr to ++ (if (R to).lives then [(R to).id] else []) := by
  unfold startIds idsOf
  rw [ksUp_last _ h]
  by_cases hp : (R to).lives = true <;> simp [hp, livesB]
theorem mem_stopIds {R : Nat → Ch} {fr to : Nat} {x : Int} : x ∈ stopIds R fr to ↔ ∃ k, fr ≤ k ∧ k < to ∧ (R k).lives = true ∧ (R k).id = x := by
  unfold stopIds idsOf
  simp only [List.mem_map, List.mem_reverse, mem_ksUp]
  constructor
  · rintro ⟨k, ⟨h1, h2, h3⟩, h4⟩; exact ⟨k, h1, h2, h3, h4⟩
  · rintro ⟨k, h1, h2, h3, h4⟩; exact ⟨k, ⟨h1, h2, h3⟩, h4⟩
/-- the termination of child i may be handled -/
def DownOk (W : Wd) (id now : Int) (i : Nat) : Prop :=
  OkW W ∧ i < W.n ∧ (W.R i).id = id ∧ (W.R i).lives = true ∧ 0 ≤ now ∧ now ≤ 1099511627776 ∧ (0 < W.m → W.T (W.m - 1) ≤ now)
def againB (W : Wd) (i : Nat) (failed : Bool) : Bool := !((W.R i).when == 3 || (W.R i).when == 2 && !failed)
def keptT (W : Wd) (now : Int) : List Int := (fl W.T W.m).filter (fun t => !(decide (t ≤ now - W.window)))
def frOf (W : Wd) (i : Nat) : Nat := if W.how = 2 then 0 else i
def toOf (W : Wd) (i : Nat) : Nat := if W.how = 2 ∨ W.how = 3 then W.n else i + 1
def DownRes (W : Wd) (i : Nat) (failed : Bool) (now : Int) (R' : Nat → Ch) (T' stop start : List Int) (g : Bool) : Prop :=
  (againB W i failed = false ∧ (∀ k, k < W.n → R' k = offR W.R i (i + 1) k) ∧ T' = fl W.T W.m ∧ stop = [] ∧ start = [] ∧ g = false) ∨
  (againB W i failed = true ∧ W.most ≤ (keptT W now).length ∧ (∀ k, k < W.n → R' k = offR W.R 0 W.n k) ∧ T' = keptT W now ∧ stop = stopIds (offR W.R i (i + 1)) 0 W.n ∧ start = [] ∧ g = true) ∨
  (againB W i failed = true ∧ ((keptT W now).length : Int) < W.most ∧ (∀ k, k < W.n → R' k = W.R k) ∧ T' = keptT W now ++ [now] ∧ stop = stopIds (offR W.R i (i + 1)) (frOf W i) (toOf W i) ∧
    start = startIds W.R (frOf W i) (toOf W i) ∧ g = false)
theorem keptT_len (W : Wd) (now : Int) : (keptT W now).length ≤ W.m := by
  unfold keptT
  have := List.length_filter_le (fun t => !(decide (t ≤ now - W.window))) (fl W.T W.m)
  rw [fl_len] at this
  exact this
theorem id_inj {R : Nat → Ch} {n : Nat} (h : ∀ k, k < n → FineC R k) {j k : Nat} (hj : j < n) (hk : k < n) (e : (R j).id = (R k).id) : j = k := by
  rcases Nat.lt_trichotomy j k with hlt | rfl | hlt
  · exact absurd e ((h k hk).2.2 j hlt)
  · rfl
  · exact absurd e.symm ((h j hj).2.2 k hlt)
theorem ix_of {R : Nat → Ch} {n : Nat} (h : ∀ k, k < n → FineC R k) {k : Nat} (hk : k < n) : ixOf (idB R (R k).id) n = k := by
  refine ixOf_found hk (by simp [idB]) fun j hj => ?_
  simp only [idB, beq_eq_false_iff_ne]
  intro e
  have := id_inj h (by omega) hk e
  omega
end Go.Proofs.Ytcedogmhmpcfmaa.Wa
