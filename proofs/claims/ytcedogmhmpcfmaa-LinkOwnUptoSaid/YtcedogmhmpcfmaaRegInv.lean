/- A region that draws its order, by an invariant over what has been done. -/
import Derived.Test.YtcedogmhmpcfmaaKeep
import Derived.Deep.RegionHeld3
namespace Go.Proofs.Ytcedogmhmpcfmaa
open Go.RowKit
set_option linter.unusedVariables false
/-- i is done too -/
def dn (L : Nat → Bool) (i : Nat) : Nat → Bool := fun j => if j = i then true else L j
theorem dn_self (L : Nat → Bool) (i : Nat) : dn L i i = true := by simp [dn]
theorem dn_of {L : Nat → Bool} {i j : Nat} (h : L j = true) : dn L i j = true := by unfold dn; split <;> simp [h]
theorem of_dn {L : Nat → Bool} {i j : Nat} (h : dn L i j = true) (hne : j ≠ i) : L j = true := by unfold dn at h; rw [if_neg hne] at h; exact h
def unl (l : Array Bool) (n : Nat) : Nat := ((List.range n).filter fun i => !l.getD i true).length
theorem getD_in {l : Array Bool} {i : Nat} (h : i < l.size) (x y : Bool) : l.getD i x = l.getD i y := by
  simp [Array.getD_eq_getD_getElem?, h]
theorem getD_set {l : Array Bool} {i j : Nat} {x : Bool} (hi : i < l.size) : (l.setIfInBounds i true).getD j x = if j = i then true else l.getD j x := by
  simp only [Array.getD_eq_getD_getElem?, Array.getElem?_setIfInBounds]
  by_cases e : i = j
  · subst e; simp [hi]
  · rw [if_neg e, if_neg (fun h => e h.symm)]
theorem unl_set {l : Array Bool} {n i : Nat} (hl : l.size = n) (hi : i < n) (hu : l.getD i true = false) : unl (l.setIfInBounds i true) n + 1 = unl l n := by
  have key : ∀ m, m ≤ n → (m ≤ i → ((List.range m).filter fun j => !(l.setIfInBounds i true).getD j true).length = ((List.range m).filter fun j => !l.getD j true).length) ∧ (i < m → ((List.range m).filter fun j => !(l.setIfInBounds i true).getD j true).length + 1 = ((List.range m).filter fun j => !l.getD j true).length) := by
    intro m
    induction m with
    | zero => intro _; exact ⟨fun _ => rfl, fun h => by omega⟩
    | succ m ih =>
      intro hm
      obtain ⟨h1, h1'⟩ := ih (by omega)
      rw [List.range_succ, List.filter_append, List.filter_append, List.length_append, List.length_append]
      have h2 : (l.setIfInBounds i true).getD m true = if m = i then true else l.getD m true := getD_set (by omega)
      by_cases e : m = i
      · subst e
        refine ⟨fun h => by omega, fun _ => ?_⟩
        rw [h1 (Nat.le_refl _)]
        simp only [List.filter_cons, List.filter_nil, h2, if_true, hu]
        simp
      · simp only [List.filter_cons, List.filter_nil, h2, if_neg e]
        refine ⟨fun h => by rw [h1 (by omega)], fun h => ?_⟩
        have := h1' (by omega)
        omega
  exact (key n (Nat.le_refl _)).2 hi
section
variable {P : Program} {ops : Array Oper} {Q : Exit → Act → World → Prop} {md : Region.Mode}
theorem ready_all {n : Nat} (hn : ops.size = n) (hedge : ∀ (i : Nat) (o : Oper), ops[i]? = some o → o.after.all (fun e => !Region.binds md e || decide (e.on < i)) = true) {l : Array Bool} (hl : l.size = n) (hr : Region.ready md ops l = []) : ∀ i, i < n → l.getD i true = true := by
  intro i
  induction i using Nat.strongRecOn with
  | _ i ih =>
    intro hi
    cases hb : l.getD i true with
    | true => rfl
    | false =>
      exfalso
      have hmem : i ∈ Region.ready md ops l := by
        unfold Region.ready
        rw [List.mem_filter]
        refine ⟨List.mem_range.2 (by omega), ?_⟩
        obtain ⟨o, ho⟩ : ∃ o, ops[i]? = some o := ⟨_, Array.getElem?_eq_getElem (by omega)⟩
        rw [hb, ho]
        simp only [Bool.not_false, Bool.true_and, Option.map_some, Option.getD_some]
        have he := hedge i o ho
        rw [Array.all_eq_true] at he ⊢
        intro k hk
        have h1 := he k hk
        rw [Bool.or_eq_true] at h1 ⊢
        rcases h1 with h1 | h1
        · exact .inl h1
        · have h2 := of_decide_eq_true h1
          right
          rw [getD_in (by omega) false true]
          exact ih _ h2 (by omega)
      rw [hr] at hmem
      cases hmem
theorem any_inv {n : Nat} (hn : ops.size = n) (hedge : ∀ (i : Nat) (o : Oper), ops[i]? = some o → o.after.all (fun e => !Region.binds md e || decide (e.on < i)) = true) (Inv : (Nat → Bool) → Act → World → Prop)
    (step : ∀ L a w, Inv L a w → ∀ (i : Nat) (o : Oper), ops[i]? = some o → L i = false → (o.after.all (fun e => !Region.binds md e || L e.on) = true) → wpOp P ops Q i (Inv (dn L i)) a w)
    (fin : ∀ L a w, Inv L a w → (∀ i, i < n → L i = true) → Q .normal a w) :
    ∀ (fuel : Nat) (l : Array Bool) (a : Act) (w : World), l.size = n → unl l n ≤ fuel → Inv (fun i => l.getD i false) a w → wpAny P md ops Q fuel l a w := by
  have hfin : ∀ (l : Array Bool) (a : Act) (w : World), l.size = n → Inv (fun i => l.getD i false) a w → Region.ready md ops l = [] → Q .normal a w := fun l a w hl hi hr => by
    refine fin _ a w hi (fun i hin => ?_)
    show l.getD i false = true
    rw [getD_in (by omega) false true]
    exact ready_all hn hedge hl hr i hin
  intro fuel
  induction fuel with
  | zero =>
    intro l a w hl hu hi
    have hr : Region.ready md ops l = [] := by
      have h0 : (List.range n).filter (fun i => !l.getD i true) = [] := List.eq_nil_of_length_eq_zero (by unfold unl at hu; omega)
      unfold Region.ready
      rw [List.filter_eq_nil_iff] at h0 ⊢
      intro i him
      have := h0 i (by rw [← hn]; exact him)
      intro hc
      rw [Bool.and_eq_true] at hc
      exact this hc.1
    exact ⟨hr, hfin l a w hl hi hr⟩
  | succ fuel ih =>
    intro l a w hl hu hi
    refine ⟨hfin l a w hl hi, fun i him => ?_⟩
    have hm := him
    unfold Region.ready at hm
    rw [List.mem_filter] at hm
    obtain ⟨hr, hc⟩ := hm
    have hin : i < n := by rw [← hn]; exact List.mem_range.1 hr
    rw [Bool.and_eq_true] at hc
    obtain ⟨o, ho⟩ : ∃ o, ops[i]? = some o := ⟨_, Array.getElem?_eq_getElem (by omega)⟩
    have hu0 : l.getD i true = false := by simpa using hc.1
    have hdeps : o.after.all (fun e => !Region.binds md e || l.getD e.on false) = true := by
      have := hc.2
      rw [ho] at this
      simpa using this
    have h1 := step _ a w hi i o ho (by show l.getD i false = false; rw [getD_in (by omega) false true]; exact hu0) hdeps
    refine wpOp_mono (fun a' w' h' => ih _ a' w' (by simp [hl]) (by have := unl_set hl hin hu0; omega) ?_) h1
    have e : (fun j => (l.setIfInBounds i true).getD j false) = dn (fun j => l.getD j false) i := by
      funext j
      rw [getD_set (by omega)]
      rfl
    rw [e]
    exact h'
theorem region_inv {id : Nat} {a : Act} {w : World} (hm : P.follows .mixedOrders = true) {n : Nat} (hn : ops.size = n) (hedge : ops.toList.zipIdx.all (fun x => x.1.after.all (fun e => !Region.binds .any e || decide (e.on < x.2))) = true) (Inv : (Nat → Bool) → Act → World → Prop) (h0 : Inv (fun _ => false) a w.drew)
    (step : ∀ L a w, Inv L a w → ∀ (i : Nat) (o : Oper), ops[i]? = some o → L i = false → (o.after.all (fun e => !Region.binds .any e || L e.on) = true) → wpOp P ops Q i (Inv (dn L i)) a w)
    (fin : ∀ L a w, Inv L a w → (∀ i, i < n → L i = true) → Q .normal a w) : (Code.region id ops true).wp P Q a w := by
  refine wp_region_any hm ?_
  have hedge' : ∀ (i : Nat) (o : Oper), ops[i]? = some o → o.after.all (fun e => !Region.binds .any e || decide (e.on < i)) = true := fun i o ho => by
    rw [List.all_eq_true] at hedge
    refine hedge (o, i) ?_
    rw [List.mem_zipIdx_iff_getElem?]
    simpa using ho
  refine any_inv hn hedge' Inv step fin ops.size _ a _ (by simp [hn]) ?_ ?_
  · unfold unl
    exact Nat.le_trans (List.length_filter_le _ _) (by simp [hn])
  · have e : (fun i => (Array.replicate ops.size false).getD i false) = fun _ => false := by
      funext i
      simp only [Array.getD_eq_getD_getElem?]
      by_cases h : i < ops.size
      · simp [h]
      · simp [h]
    rw [e]
    exact h0
end
end Go.Proofs.Ytcedogmhmpcfmaa
