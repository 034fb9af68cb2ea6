/- Gossip comes to rest: the greatest row of each name. -/
import Derived.Test.YtmjihhjcgkpmhaaTnCl
namespace Go.Proofs.Ytmjihhjcgkpmhaa
open Go.RowKit
set_option linter.unusedVariables false
theorem wins_iff (a b : RW) : winsB a b = true ↔ b.cnt < a.cnt ∨ (a.cnt = b.cnt ∧ (b.node < a.node ∨ (a.node = b.node ∧ b.ref < a.ref))) := by
  unfold winsB
  by_cases h1 : a.cnt = b.cnt
  · by_cases h2 : a.node = b.node
    · simp [h1, h2]
    · simp [h1, h2]
  · simp [h1]
theorem RW.eq {a b : RW} (h1 : a.ref = b.ref) (h2 : a.cnt = b.cnt) (h3 : a.node = b.node) : a = b := by
  cases a; cases b; simp_all
/-- a row is no greater than another one -/
def leO : Option RW → Option RW → Prop
  | none, _ => True
  | some _, none => False
  | some a, some b => a = b ∨ winsB b a = true
theorem leO.refl (a : Option RW) : leO a a := by
  cases a with
  | none => trivial
  | some a => exact .inl rfl
theorem leO.total (a b : Option RW) : leO a b ∨ leO b a := by
  cases a with
  | none => exact .inl trivial
  | some a => cases b with
    | none => exact .inr trivial
    | some b =>
      show (a = b ∨ winsB b a = true) ∨ (b = a ∨ winsB a b = true)
      rw [wins_iff, wins_iff]
      by_cases h1 : a.cnt = b.cnt
      · by_cases h2 : a.node = b.node
        · by_cases h3 : a.ref = b.ref
          · exact .inl (.inl (RW.eq h3 h1 h2))
          · omega
        · omega
      · omega
theorem leO.trans {a b c : Option RW} (h : leO a b) (k : leO b c) : leO a c := by
  cases a with
  | none => trivial
  | some a => cases b with
    | none => exact h.elim
    | some b => cases c with
      | none => exact k.elim
      | some c =>
        rcases h with h | h
        · subst h; exact k
        · rcases k with k | k
          · subst k; exact .inr h
          · refine .inr ?_
            rw [wins_iff] at h k ⊢
            omega
theorem leO.mx_left {a t : Option RW} (h : leO a t) : mx t a = t := by
  cases a with
  | none => rfl
  | some a => cases t with
    | none => exact h.elim
    | some t =>
      unfold mx winO
      rcases h with h | h
      · subst h
        have : winsB a a = false := by
          cases hw : winsB a a with
          | false => rfl
          | true => rw [wins_iff] at hw; omega
        simp [this]
      · have : winsB a t = false := by
          cases hw : winsB a t with
          | false => rfl
          | true => rw [wins_iff] at hw h; omega
        simp [this]
theorem mx_some (a : Option RW) (b : RW) : mx a (some b) = if winO b a = true then some b else a := rfl
theorem leO.mx_right {a t : Option RW} (h : leO a t) : mx a t = t := by
  cases t with
  | none => cases a with
    | none => rfl
    | some a => exact h.elim
  | some t =>
    rw [mx_some]
    cases a with
    | none => rfl
    | some a =>
      rcases h with h | h
      · subst h
        split <;> rfl
      · simp [winO, h]
theorem mx_or (a b : Option RW) : mx a b = a ∨ mx a b = b := by
  cases b with
  | none => exact .inl rfl
  | some b =>
    rw [mx_some]
    split
    · exact .inr rfl
    · exact .inl rfl
/-- the greatest of the first N -/
theorem greatest (f : Nat → Option RW) : ∀ N, 1 ≤ N → ∃ h, h < N ∧ ∀ a, a < N → leO (f a) (f h)
  | 1, _ => ⟨0, by omega, fun a ha => (show a = 0 by omega) ▸ leO.refl _⟩
  | N + 2, _ => by
    obtain ⟨h, hh, hm⟩ := greatest f (N + 1) (by omega)
    rcases leO.total (f h) (f (N + 1)) with hl | hl
    · refine ⟨N + 1, by omega, fun a ha => ?_⟩
      by_cases e : a = N + 1
      · subst e; exact leO.refl _
      · exact (hm a (by omega)).trans hl
    · refine ⟨h, by omega, fun a ha => ?_⟩
      by_cases e : a = N + 1
      · subst e; exact hl
      · exact hm a (by omega)
/-- a round of gossip: T is the greatest row of each name, h who has it; nodes up to i have spoken to all, node i to the first j -/
def GS (N : Nat) (T : Nat → Option RW) (h : Nat → Nat) (f : Bool) (i j : Nat) (G : Nat → Nat → Option RW) : Prop :=
  ∀ k, k < 4 → h k < N ∧ (∀ a, a < N → leO (G a k) (T k)) ∧ G (h k) k = T k ∧ ((f = true ∨ h k < i) → ∀ a, a < N → G a k = T k) ∧ (h k = i → ∀ a, a < j → a < N → G a k = T k)
theorem GS.start (N : Nat) (h1 : 1 ≤ N) (G : Nat → Nat → Option RW) : ∃ T h, GS N T h false 0 0 G := by
  have hc : ∀ k, ∃ h, h < N ∧ ∀ a, a < N → leO (G a k) (G h k) := fun k => greatest (fun a => G a k) N h1
  obtain ⟨h, hh⟩ := Classical.axiomOfChoice hc
  exact ⟨fun k => G (h k) k, h, fun k hk => ⟨(hh k).1, (hh k).2, rfl, fun e => e.elim (fun e => Bool.noConfusion e) (fun e => absurd e (Nat.not_lt_zero _)), fun _ a ha => absurd ha (Nat.not_lt_zero _)⟩⟩
theorem GS.step {N : Nat} {T : Nat → Option RW} {h : Nat → Nat} {f : Bool} {i j : Nat} {G : Nat → Nat → Option RW} (H : GS N T h f i j G) (hi : i < N) (hj : j < N) : GS N T h f i (j + 1) (updN G j (merged (G j) (G i))) := by
  intro k hk
  obtain ⟨h1, h2, h3, h4, h5⟩ := H k hk
  have hm := merged_at (G j) (G i) hk
  have key : ∀ a, updN G j (merged (G j) (G i)) a k = if a = j then mx (G j k) (G i k) else G a k := fun a => by
    by_cases e : a = j
    · subst e; rw [updN_self, if_pos rfl, hm]
    · rw [updN_ne _ _ e, if_neg e]
  refine ⟨h1, fun a ha => ?_, ?_, fun e a ha => ?_, fun e a ha1 ha => ?_⟩
  · rw [key]
    split
    · rcases mx_or (G j k) (G i k) with e | e
      · rw [e]; exact h2 j hj
      · rw [e]; exact h2 i hi
    · exact h2 a ha
  · rw [key]
    split
    · rename_i e
      rw [← e, h3]
      exact (h2 i hi).mx_left
    · exact h3
  · rw [key]
    have h6 := h4 e
    split
    · rw [h6 j hj, h6 i hi]
      exact (leO.refl _).mx_left
    · exact h6 a ha
  · rw [key]
    split
    · rename_i e2
      rw [← e, h3]
      exact (h2 j hj).mx_right
    · rename_i e2
      exact h5 e a (by omega) ha
theorem GS.next {N : Nat} {T : Nat → Option RW} {h : Nat → Nat} {f : Bool} {i : Nat} {G : Nat → Nat → Option RW} (H : GS N T h f i N G) : GS N T h f (i + 1) 0 G := by
  intro k hk
  obtain ⟨h1, h2, h3, h4, h5⟩ := H k hk
  refine ⟨h1, h2, h3, fun e a ha => ?_, fun _ a ha => by omega⟩
  by_cases e2 : h k = i
  · exact h5 e2 a ha ha
  · refine h4 ?_ a ha
    rcases e with e | e
    · exact .inl e
    · exact .inr (by omega)
theorem GS.round {N : Nat} {T : Nat → Option RW} {h : Nat → Nat} {f : Bool} {G : Nat → Nat → Option RW} (H : GS N T h f N 0 G) : GS N T h true 0 0 G := by
  intro k hk
  obtain ⟨h1, h2, h3, h4, h5⟩ := H k hk
  exact ⟨h1, h2, h3, fun _ a ha => h4 (.inr h1) a ha, fun _ a ha => by omega⟩
theorem GS.all {N : Nat} {T : Nat → Option RW} {h : Nat → Nat} {G : Nat → Nat → Option RW} (H : GS N T h true 0 0 G) {a b k : Nat} (ha : a < N) (hb : b < N) (hk : k < 4) : findG (G a) k = findG (G b) k := by
  have h1 := (H k hk).2.2.2.1 (.inl rfl)
  unfold findG
  rw [h1 a ha, h1 b hb]
theorem find_err (g : Nat → Option RW) (k : Nat) : (findG g k).2 = 0 ∨ (findG g k).2 = 4 := by
  unfold findG
  split
  · split
    · exact .inl rfl
    · exact .inr rfl
  · exact .inr rfl
end Go.Proofs.Ytmjihhjcgkpmhaa
