/- Words for memory: a slice that reads as n elements of some cells each; the cells of a row of the call's own. -/
import Derived.Test.YtjjfglbcikaicaaGreatBase
import Derived.WalkSpells
import Derived.WalkSmall
namespace Go.Proofs.YtjjfglbcikaicaaGreat
open Go.RowKit

/-- the cells of n elements, one behind the other -/
def flatC (g : Nat → List Value) : Nat → List Value
  | 0 => []
  | n + 1 => flatC g n ++ g n
theorem flatC_length {g : Nat → List Value} {sz : Nat} (h : ∀ k, (g k).length = sz) (n : Nat) : (flatC g n).length = n * sz := by
  induction n with
  | zero => simp [flatC]
  | succ n ih => simp [flatC, ih, h, Nat.succ_mul]
theorem flatC_get {g : Nat → List Value} {sz : Nat} (h : ∀ k, (g k).length = sz) {n k j : Nat} (hk : k < n) (hj : j < sz) : (flatC g n)[k * sz + j]? = (g k)[j]? := by
  induction n with
  | zero => omega
  | succ n ih =>
    have hl := flatC_length h n
    have hle : k * sz + j < (k + 1) * sz := by rw [Nat.succ_mul]; omega
    by_cases e : k = n
    · subst e
      rw [flatC, List.getElem?_append_right (by omega), hl]
      congr 1
      omega
    · have h2 : (k + 1) * sz ≤ n * sz := Nat.mul_le_mul_right _ (by omega)
      rw [flatC, List.getElem?_append_left (by omega), ih (by omega)]
theorem flatC_congr {g g' : Nat → List Value} {n : Nat} (h : ∀ k, k < n → g k = g' k) : flatC g n = flatC g' n := by
  induction n with
  | zero => rfl
  | succ n ih => rw [flatC, flatC, ih fun k hk => h k (by omega), h n (by omega)]
theorem flatC_mem {g : Nat → List Value} {n : Nat} {u : Value} (h : u ∈ flatC g n) : ∃ k, k < n ∧ u ∈ g k := by
  induction n with
  | zero => simp [flatC] at h
  | succ n ih =>
    rcases List.mem_append.1 h with h | h
    · obtain ⟨k, hk, hu⟩ := ih h
      exact ⟨k, by omega, hu⟩
    · exact ⟨n, by omega, h⟩
theorem flatC_at {g : Nat → List Value} {sz : Nat} (h : ∀ k, (g k).length = sz) (hs : 0 < sz) {n i : Nat} {u : Value} (hi : (flatC g n)[i]? = some u) : i / sz < n ∧ i % sz < sz ∧ (g (i / sz))[i % sz]? = some u := by
  have hl := flatC_length h n
  have hlt : i < n * sz := by
    rcases Nat.lt_or_ge i (n * sz) with hh | hh
    · exact hh
    · rw [List.getElem?_eq_none (by omega)] at hi; cases hi
  have h1 : i / sz < n := Nat.div_lt_of_lt_mul (by rw [Nat.mul_comm]; exact hlt)
  have h2 : i % sz < sz := Nat.mod_lt _ hs
  refine ⟨h1, h2, ?_⟩
  rw [← flatC_get h h1 h2, Nat.div_add_mod' i sz]
  exact hi
/-- one element changed -/
def updC (g : Nat → List Value) (k : Nat) (c : List Value) : Nat → List Value := fun i => if i = k then c else g i
theorem flatC_set {g : Nat → List Value} {sz : Nat} (h : ∀ k, (g k).length = sz) {n k j : Nat} (hj : j < sz) (u : Value) :
    (flatC g n).set (k * sz + j) u = flatC (updC g k ((g k).set j u)) n := by
  have h' : ∀ i, (updC g k ((g k).set j u) i).length = sz := fun i => by unfold updC; split <;> simp [h]
  have hs : 0 < sz := by omega
  apply List.ext_getElem?
  intro i
  by_cases hlt : i < n * sz
  · have h1 : i / sz < n := Nat.div_lt_of_lt_mul (by rw [Nat.mul_comm]; exact hlt)
    have h2 : i % sz < sz := Nat.mod_lt _ hs
    have e0 : i / sz * sz + i % sz = i := Nat.div_add_mod' i sz
    rw [List.getElem?_set]
    have r2 : (flatC (updC g k ((g k).set j u)) n)[i]? = (updC g k ((g k).set j u) (i / sz))[i % sz]? := by
      conv => lhs; rw [← e0]
      exact flatC_get h' h1 h2
    have r1 : (flatC g n)[i]? = (g (i / sz))[i % sz]? := by
      conv => lhs; rw [← e0]
      exact flatC_get h h1 h2
    rw [r2, r1, flatC_length h]
    unfold updC
    by_cases e : i / sz = k
    · rw [if_pos e, List.getElem?_set]
      by_cases ej : j = i % sz
      · have : k * sz + j = i := by rw [← e, ej]; exact e0
        rw [if_pos this, if_pos ej, if_pos (by omega), if_pos (by rw [h]; exact hj)]
      · have : ¬ k * sz + j = i := by
          intro hh
          rw [← e] at hh
          omega
        rw [if_neg this, if_neg ej, e]
    · rw [if_neg e]
      have : ¬ k * sz + j = i := by
        intro hh
        apply e
        rw [← hh, Nat.mul_comm, Nat.mul_add_div hs, Nat.div_eq_of_lt hj]
        omega
      rw [if_neg this]
  · rw [List.getElem?_eq_none (by rw [List.length_set, flatC_length h]; omega), List.getElem?_eq_none (by rw [flatC_length h']; omega)]

/-- the slice at A of n elements reads as the cells g k, sz each -/
def Rd (w : World) (sz : Nat) (g : Nat → List Value) (A : Option Addr) (n : Nat) : Prop :=
  0 < n → ∃ b off, A = some ⟨b, off, none⟩ ∧ b < w.heap.size ∧ ∀ k, k < n → ∀ j u, (g k)[j]? = some u → w.cell? ⟨b, off + k * sz + j, none⟩ = some u
theorem Rd.below {w w' : World} {sz n : Nat} {g : Nat → List Value} {A : Option Addr} (h : Rd w sz g A n) (hb : Below w.heap.size w w') : Rd w' sz g A n := fun h0 => by
  obtain ⟨b, off, hA, hlt, hc⟩ := h h0
  exact ⟨b, off, hA, Nat.lt_of_lt_of_le hlt hb.size, fun k hk j u hu => (hb.cell (p := ⟨b, _, none⟩) hlt).trans (hc k hk j u hu)⟩
theorem Rd.alloc {w : World} {sz n : Nat} {g : Nat → List Value} {A : Option Addr} (h : Rd w sz g A n) (o : Obj) : Rd (w.alloc o) sz g A n := h.below ((Below.refl _ _).alloc (Nat.le_refl _) o)
theorem Rd.congr {w : World} {sz n : Nat} {g g' : Nat → List Value} {A : Option Addr} (h : Rd w sz g A n) (e : ∀ k, k < n → g k = g' k) : Rd w sz g' A n := fun h0 => by
  obtain ⟨b, off, hA, hlt, hc⟩ := h h0
  exact ⟨b, off, hA, hlt, fun k hk j u hu => hc k hk j u (by rw [e k hk]; exact hu)⟩
theorem Rd.take {w : World} {sz n m : Nat} {g : Nat → List Value} {A : Option Addr} (h : Rd w sz g A n) (hm : m ≤ n) : Rd w sz g A m := fun h0 => by
  obtain ⟨b, off, hA, hlt, hc⟩ := h (by omega)
  exact ⟨b, off, hA, hlt, fun k hk => hc k (by omega)⟩
theorem Rd.of_own {w : World} {base e sz n c : Nat} {g : Nat → List Value} {A : Option Addr} (hl : ∀ k, (g k).length = sz) (h : w.ownsRow base e sz (.slice A n c) n (flatC g n)) : Rd w sz g A n := fun h0 => by
  rcases h.2 with ⟨_, h'⟩ | ⟨g', cap, cur, hv, hb, hg, hnc, hcm, hcs, htake⟩
  · omega
  · obtain ⟨rfl, rfl⟩ : A = some ⟨g', 0, none⟩ ∧ c = cap := by injection hv with h1 h2 h3; exact ⟨h1, h3⟩
    have hlt := (h.lt g' rfl).2
    refine ⟨g', 0, rfl, hlt, fun k hk j u hu => ?_⟩
    have hj : j < sz := by
      rcases Nat.lt_or_ge j sz with hh | hh
      · exact hh
      · rw [List.getElem?_eq_none (by rw [hl]; exact hh)] at hu; cases hu
    have h2 : (k + 1) * sz ≤ n * sz := Nat.mul_le_mul_right _ (by omega)
    rw [Nat.succ_mul] at h2
    rw [Nat.zero_add, h.cellAt _ (by omega), flatC_get hl hk hj]
    exact hu
/-- a slice of the call's own, of n elements with the cells xs -/
def ClonePost (e : TypeId) (sz n : Nat) (xs : List Value) (w : World) (en : Ending) (w' : World) : Prop := ∃ v, en = .returned v ∧ w'.ownsRow w.heap.size e sz v n xs ∧ Below w.heap.size w w'
theorem own_form {w : World} {base : Nat} {e : TypeId} {sz n : Nat} {v : Value} {xs : List Value} (h : w.ownsRow base e sz v n xs) (hn : 0 < n) :
    ∃ g cap, v = .slice (some ⟨g, 0, none⟩) n cap ∧ base ≤ g ∧ g < w.heap.size ∧ n ≤ cap ∧ cap ≤ 9223372036854775807 := by
  rcases h.2 with ⟨_, h'⟩ | ⟨g, cap, cur, hv, hb, hg, hnc, hcm, _⟩
  · omega
  · exact ⟨g, cap, hv, hb, (h.lt g (by rw [hv]; rfl)).2, hnc, hcm⟩
theorem own_mono {w : World} {base base' : Nat} {e : TypeId} {sz n : Nat} {v : Value} {xs : List Value} (h : w.ownsRow base e sz v n xs) (hb : base' ≤ base) : w.ownsRow base' e sz v n xs := by
  refine ⟨h.1, ?_⟩
  rcases h.2 with h | ⟨g, cap, cur, hv, hb', hr⟩
  · exact .inl h
  · exact .inr ⟨g, cap, cur, hv, by omega, hr⟩
/-- the value of an owned row is nil or starts at the head of a block -/
theorem own_any {w : World} {base : Nat} {e : TypeId} {sz n : Nat} {v : Value} {xs : List Value} (h : w.ownsRow base e sz v n xs) :
    ∃ A cap, v = .slice A n cap ∧ n ≤ cap ∧ cap ≤ 9223372036854775807 ∧ (A = none → n = 0) := by
  rcases h.2 with ⟨hv, h'⟩ | ⟨g, cap, cur, hv, hb, hg, hnc, hcm, _⟩
  · exact ⟨none, 0, by rw [hv, h'], by omega, by omega, fun _ => h'⟩
  · exact ⟨_, cap, hv, hnc, hcm, fun h => by cases h⟩
theorem bcell {W w1 : World} (hb : Below W.heap.size W w1) : (∀ b o, b < W.heap.size → w1.cell? ⟨b, o, none⟩ = W.cell? ⟨b, o, none⟩) ∧ (∀ b o, b < W.heap.size → w1.frozen? ⟨b, o, none⟩ = W.frozen? ⟨b, o, none⟩) :=
  ⟨fun b o h => hb.cell (p := ⟨b, o, none⟩) h, fun b o h => hb.frozen (p := ⟨b, o, none⟩) h⟩
end Go.Proofs.YtjjfglbcikaicaaGreat
