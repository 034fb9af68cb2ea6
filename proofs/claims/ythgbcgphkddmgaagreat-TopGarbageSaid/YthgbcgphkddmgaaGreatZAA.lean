/- Who is alive: as many rounds as there are actors reach all. -/

namespace Go.Proofs.YthgbcgphkddmgaaGreat
set_option linter.unusedVariables false
set_option linter.unusedSimpArgs false
namespace Tg
def upA (A : Nat → Bool) (i t : Nat) : Nat → Bool := fun j => if j = t then A t || A i else A j
def rowA (i : Nat) (l : List Nat) (A : Nat → Bool) : Nat → Bool := l.foldl (fun A t => upA A i t) A
def rndA (T : Nat → List Nat) : Nat → (Nat → Bool) → Nat → Bool
  | 0, A => A
  | q + 1, A => rowA q (T q) (rndA T q A)
def itA (T : Nat → List Nat) (m : Nat) : Nat → (Nat → Bool) → Nat → Bool
  | 0, A => A
  | j + 1, A => rndA T m (itA T m j A)
def cnt (p : Nat → Bool) : Nat → Nat
  | 0 => 0
  | n + 1 => cnt p n + if p n then 1 else 0
theorem cnt_mono {p q : Nat → Bool} : ∀ {n : Nat}, (∀ i, i < n → p i = true → q i = true) → cnt p n ≤ cnt q n
  | 0, _ => Nat.le_refl _
  | n + 1, h => by
    have h1 := cnt_mono (n := n) (fun i hi => h i (by omega))
    have h2 := h n (by omega)
    unfold cnt
    split
    · rename_i e
      rw [if_pos (h2 e)]
      omega
    · split <;> omega
theorem cnt_lt {p q : Nat → Bool} {i : Nat} (hp : p i = false) (hq : q i = true) : ∀ {n : Nat}, i < n → (∀ i, i < n → p i = true → q i = true) → cnt p n + 1 ≤ cnt q n
  | 0, hi, _ => by omega
  | n + 1, hi, h => by
    unfold cnt
    by_cases e : i = n
    · subst e
      have := cnt_mono (n := i) (fun j hj => h j (by omega))
      rw [hp, hq]
      simp
      omega
    · have h1 := cnt_lt hp hq (n := n) (by omega) (fun i hi => h i (by omega))
      have h2 := h n (by omega)
      split
      · rename_i e
        rw [if_pos (h2 e)]
        omega
      · split <;> omega
theorem cnt_le (p : Nat → Bool) : ∀ n, cnt p n ≤ n
  | 0 => Nat.le_refl _
  | n + 1 => by
    have := cnt_le p n
    unfold cnt
    split <;> omega
theorem cnt_full {p : Nat → Bool} : ∀ {n : Nat}, n ≤ cnt p n → ∀ i, i < n → p i = true
  | 0, _, i, hi => by omega
  | n + 1, h, i, hi => by
    have h1 := cnt_le p n
    unfold cnt at h
    rcases hp : p n with _ | _
    · rw [hp] at h
      simp at h
      omega
    · rw [hp] at h
      simp at h
      by_cases e : i = n
      · rw [e]; exact hp
      · exact cnt_full h i (by omega)
theorem up_mono {A : Nat → Bool} {i t j : Nat} (h : A j = true) : upA A i t j = true := by
  unfold upA
  split
  · rename_i e; subst e; rw [h]; rfl
  · exact h
theorem up_hit {A : Nat → Bool} {i t : Nat} (h : A i = true) : upA A i t t = true := by
  unfold upA
  rw [if_pos rfl, h, Bool.or_true]
theorem row_mono {i j : Nat} : ∀ {l : List Nat} {A : Nat → Bool}, A j = true → rowA i l A j = true
  | [], A, h => h
  | t :: l, A, h => row_mono (l := l) (up_mono h)
theorem row_hit {i t : Nat} : ∀ {l : List Nat} {A : Nat → Bool}, A i = true → t ∈ l → rowA i l A t = true
  | [], A, h, ht => by cases ht
  | x :: l, A, h, ht => by
    rcases List.mem_cons.1 ht with rfl | ht
    · exact row_mono (l := l) (up_hit h)
    · exact row_hit (l := l) (up_mono h) ht
variable {T : Nat → List Nat}
theorem rnd_mono {A : Nat → Bool} {j : Nat} (h : A j = true) : ∀ q, rndA T q A j = true
  | 0 => h
  | q + 1 => row_mono (rnd_mono h q)
theorem rnd_up {A : Nat → Bool} {j q : Nat} (h : rndA T q A j = true) : ∀ n, q ≤ n → rndA T n A j = true
  | 0, hn => by
    obtain rfl : q = 0 := by omega
    exact h
  | n + 1, hn => by
    by_cases e : q = n + 1
    · subst e; exact h
    · exact row_mono (rnd_up h n (by omega))
theorem rnd_hit {A : Nat → Bool} {m i t : Nat} (hi : i < m) (h : A i = true) (ht : t ∈ T i) : rndA T m A t = true :=
  rnd_up (q := i + 1) (row_hit (rnd_mono h i) ht) m (by omega)
/-- a set that holds whoever one of it refers to holds all that a round makes alive -/
theorem row_sub {S : Nat → Prop} {i : Nat} (hS : S i → ∀ t, t ∈ T i → S t) : ∀ {l : List Nat} {A : Nat → Bool}, (∀ t, t ∈ l → t ∈ T i) → (∀ j, A j = true → S j) → ∀ j, rowA i l A j = true → S j
  | [], A, _, h => h
  | t :: l, A, hl, h => row_sub hS (l := l) (fun x hx => hl x (by simp [hx])) (fun j hj => by
      have hj : upA A i t j = true := hj
      unfold upA at hj
      split at hj
      · rename_i e
        subst e
        rw [Bool.or_eq_true] at hj
        rcases hj with hj | hj
        · exact h _ hj
        · exact hS (h _ hj) _ (hl _ (by simp))
      · exact h j hj)
theorem rnd_sub {S : Nat → Prop} {m : Nat} (hS : ∀ i, i < m → S i → ∀ t, t ∈ T i → S t) {A : Nat → Bool} (h : ∀ j, A j = true → S j) : ∀ q, q ≤ m → ∀ j, rndA T q A j = true → S j
  | 0, _ => h
  | q + 1, hq => row_sub (hS q (by omega)) (fun _ h => h) (rnd_sub hS h q (by omega))
theorem it_sub {S : Nat → Prop} {m : Nat} (hS : ∀ i, i < m → S i → ∀ t, t ∈ T i → S t) {A : Nat → Bool} (h : ∀ j, A j = true → S j) : ∀ q, ∀ j, itA T m q A j = true → S j
  | 0 => h
  | q + 1 => rnd_sub hS (it_sub hS h q) m (Nat.le_refl _)
theorem it_mono {A : Nat → Bool} {m j : Nat} (h : A j = true) : ∀ q, itA T m q A j = true
  | 0 => h
  | q + 1 => rnd_mono (it_mono h q) m
def Clo (T : Nat → List Nat) (m : Nat) (A : Nat → Bool) : Prop := ∀ i, i < m → A i = true → ∀ t, t ∈ T i → A t = true
theorem clo_rnd {A : Nat → Bool} {m : Nat} (h : Clo T m A) : Clo T m (rndA T m A) := fun i hi ha t ht => by
  have := rnd_sub (S := fun j => A j = true) (T := T) (m := m) h (fun j hj => hj) m (Nat.le_refl _) i ha
  exact rnd_mono (h i hi this t ht) m
theorem it_count {A : Nat → Bool} {m : Nat} (hT : ∀ i, i < m → ∀ t, t ∈ T i → t < m) : ∀ q, Clo T m (itA T m q A) ∨ q ≤ cnt (itA T m q A) m
  | 0 => .inr (Nat.zero_le _)
  | q + 1 => by
    by_cases hc : Clo T m (itA T m q A)
    · exact .inl (clo_rnd hc)
    · right
      rcases it_count (A := A) hT q with h | h
      · exact absurd h hc
      · by_cases hm : ∃ t, t < m ∧ itA T m q A t = false ∧ itA T m (q + 1) A t = true
        · obtain ⟨t, ht, h1, h2⟩ := hm
          have := cnt_lt (q := itA T m (q + 1) A) h1 h2 ht (fun i _ hi => rnd_mono hi m)
          omega
        · refine absurd (fun i hi ha t ht => ?_) hc
          rcases hb : itA T m q A t with _ | _
          · exact absurd ⟨t, hT i hi t ht, hb, rnd_hit hi ha ht⟩ hm
          · rfl
/-- as many rounds as there are actors are enough -/
theorem it_clo {A : Nat → Bool} {m : Nat} (hT : ∀ i, i < m → ∀ t, t ∈ T i → t < m) : Clo T m (itA T m m A) := by
  rcases it_count (A := A) hT m with h | h
  · exact h
  · exact fun i hi _ t ht => cnt_full h t (hT i hi t ht)
end Tg
end Go.Proofs.YthgbcgphkddmgaaGreat
