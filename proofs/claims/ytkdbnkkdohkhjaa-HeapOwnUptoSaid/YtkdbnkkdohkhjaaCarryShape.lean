/- Carrying words between heaps: the shape of what it makes, in plain words. -/
import Derived.Test.YtkdbnkkdohkhjaaCarryPlain
namespace Go.Proofs.Ytkdbnkkdohkhjaa
open Go.RowKit
set_option linter.unusedVariables false
/-- an index that was copied -/
def Has (st : CS) (a : Nat) : Prop := look st.cp a ≠ none
/-- all that copied objects mean was copied -/
def ClosedS (h : List Nat) (st : CS) : Prop := ∀ b, Has st b → ∀ p ∈ paR h b, okR (p : Int) = true ∧ (tagOf (p : Int) = 4 → Has st (atOf p))
theorem has_add {h : List Nat} {a : Nat} {qs : List Nat} {st : CS} {b : Nat} : Has (addC h a qs st) b ↔ b = a ∨ Has st b := by
  unfold Has addC
  simp only [look]
  by_cases e : b = a
  · rw [if_pos e]; simp [e]
  · rw [if_neg e]; simp [e]
/-- the three ways of a step -/
theorem stepC_cases {h : List Nat} {g : List Nat → CS → Option (List Nat × CS)} {w : Nat} {st : CS} {q : Nat} {st1 : CS} (e : stepC h g w st = some (q, st1)) :
    okR (w : Int) = true ∧ ((tagOf (w : Int) ≠ 4 ∧ q = w ∧ st1 = st) ∨ (tagOf (w : Int) = 4 ∧ ∃ p, look st.cp (atOf w) = some p ∧ q = cw p ∧ st1 = st) ∨
      (tagOf (w : Int) = 4 ∧ look st.cp (atOf w) = none ∧ ReadsOb h (atOf w) ∧ ∃ qs st2, g (paR h (atOf w)) st = some (qs, st2) ∧ q = cw st2.to.length ∧ st1 = addC h (atOf w) qs st2 ∧ st2.to.length + (wordsO (withParts (obR h (atOf w)) qs)).length ≤ 4000)) := by
  unfold stepC at e
  split at e
  · rename_i hok
    refine ⟨hok, ?_⟩
    split at e
    · rename_i ht
      split at e
      · rename_i p hp
        simp only [Option.some.injEq, Prod.mk.injEq] at e
        exact .inr (.inl ⟨ht, p, hp, e.1.symm, e.2.symm⟩)
      · rename_i hn
        split at e
        · rename_i hr
          split at e
          · cases e
          · rename_i qs st2 hg
            split at e
            · rename_i hroom
              simp only [Option.some.injEq, Prod.mk.injEq] at e
              exact .inr (.inr ⟨ht, hn, readsB_iff.1 hr, qs, st2, hg, e.1.symm, e.2.symm, hroom⟩)
            · cases e
        · cases e
    · rename_i ht
      simp only [Option.some.injEq, Prod.mk.injEq] at e
      exact .inl ⟨ht, e.1.symm, e.2.symm⟩
  · cases e
/-- what a word leaves behind -/
structure LeftW (h : List Nat) (w : Nat) (st st1 : CS) : Prop where
  ok : okR (w : Int) = true
  more : ∀ b, Has st b → Has st1 b
  closed : ClosedS h st → ClosedS h st1
  has : tagOf (w : Int) = 4 → Has st1 (atOf w)
theorem carL_left {h : List Nat} {f : Nat → CS → Option (Nat × CS)} (hf : ∀ w st q st1, f w st = some (q, st1) → LeftW h w st st1) : ∀ (l : List Nat) (st : CS) (qs : List Nat) (st1 : CS), carL f l st = some (qs, st1) →
    (∀ b, Has st b → Has st1 b) ∧ (ClosedS h st → ClosedS h st1) ∧ ∀ p ∈ l, okR (p : Int) = true ∧ (tagOf (p : Int) = 4 → Has st1 (atOf p)) := by
  intro l
  induction l with
  | nil =>
    intro st qs st1 e
    simp only [carL, Option.some.injEq, Prod.mk.injEq] at e
    obtain ⟨rfl, rfl⟩ := e
    exact ⟨fun b h => h, fun h => h, fun p hp => by cases hp⟩
  | cons a l ih =>
    intro st qs st1 e
    simp only [carL] at e
    cases e1 : f a st with
    | none => rw [e1] at e; cases e
    | some x =>
      obtain ⟨q, st2⟩ := x
      rw [e1] at e
      dsimp only at e
      cases e2 : carL f l st2 with
      | none => rw [e2] at e; cases e
      | some y =>
        obtain ⟨qs2, st3⟩ := y
        rw [e2] at e
        simp only [Option.some.injEq, Prod.mk.injEq] at e
        obtain ⟨rfl, rfl⟩ := e
        have h1 := hf a st q st2 e1
        obtain ⟨h2, h3, h4⟩ := ih st2 qs2 st3 e2
        refine ⟨fun b hb => h2 b (h1.more b hb), fun hc => h3 (h1.closed hc), fun p hp => ?_⟩
        rcases List.mem_cons.1 hp with rfl | hp
        · exact ⟨h1.ok, fun ht => h2 _ (h1.has ht)⟩
        · exact h4 p hp
theorem stepC_left {h : List Nat} {g : List Nat → CS → Option (List Nat × CS)} (hg : ∀ l st qs st1, g l st = some (qs, st1) → (∀ b, Has st b → Has st1 b) ∧ (ClosedS h st → ClosedS h st1) ∧ ∀ p ∈ l, okR (p : Int) = true ∧ (tagOf (p : Int) = 4 → Has st1 (atOf p)))
    (w : Nat) (st : CS) (q : Nat) (st1 : CS) (e : stepC h g w st = some (q, st1)) : LeftW h w st st1 := by
  obtain ⟨hok, ⟨ht, rfl, rfl⟩ | ⟨ht, p, hp, rfl, rfl⟩ | ⟨ht, hn, hr, qs, st2, hgl, rfl, rfl, _⟩⟩ := stepC_cases e
  · exact ⟨hok, fun b h => h, fun h => h, fun h => absurd h ht⟩
  · exact ⟨hok, fun b h => h, fun h => h, fun _ => by unfold Has; rw [hp]; simp⟩
  · obtain ⟨h1, h2, h3⟩ := hg _ _ _ _ hgl
    refine ⟨hok, fun b hb => has_add.2 (.inr (h1 b hb)), fun hc b hb p hp => ?_, fun _ => has_add.2 (.inl rfl)⟩
    rcases has_add.1 hb with rfl | hb
    · exact ⟨(h3 p hp).1, fun ht' => has_add.2 (.inr ((h3 p hp).2 ht'))⟩
    · exact ⟨((h2 hc) b hb p hp).1, fun ht' => has_add.2 (.inr (((h2 hc) b hb p hp).2 ht'))⟩
theorem carW_left {h : List Nat} : ∀ (r w : Nat) (st : CS) (q : Nat) (st1 : CS), carW h r w st = some (q, st1) → LeftW h w st st1 := by
  intro r
  induction r with
  | zero => intro w st q st1 e; exact stepC_left (fun _ _ _ _ he => by cases he) w st q st1 e
  | succ r ih => intro w st q st1 e; exact stepC_left (carL_left ih) w st q st1 e
/-- only what is meant is copied: D holds it, and all that its members mean -/
def ClosedD (h : List Nat) (D : Nat → Prop) : Prop := ∀ b, D b → ∀ p ∈ paR h b, tagOf (p : Int) = 4 → D (atOf p)
theorem carL_reach {h : List Nat} {D : Nat → Prop} {f : Nat → CS → Option (Nat × CS)} (hf : ∀ (w : Nat) (st : CS) (q : Nat) (st1 : CS), (tagOf (w : Int) = 4 → D (atOf w)) → f w st = some (q, st1) → ∀ b, Has st1 b → Has st b ∨ D b) : ∀ (l : List Nat) (st : CS) (qs : List Nat) (st1 : CS), (∀ p ∈ l, tagOf (p : Int) = 4 → D (atOf p)) → carL f l st = some (qs, st1) → ∀ b, Has st1 b → Has st b ∨ D b := by
  intro l
  induction l with
  | nil =>
    intro st qs st1 _ e b hb
    simp only [carL, Option.some.injEq, Prod.mk.injEq] at e
    obtain ⟨rfl, rfl⟩ := e
    exact .inl hb
  | cons a l ih =>
    intro st qs st1 hl e b hb
    simp only [carL] at e
    cases e1 : f a st with
    | none => rw [e1] at e; cases e
    | some x =>
      obtain ⟨q, st2⟩ := x
      rw [e1] at e
      dsimp only at e
      cases e2 : carL f l st2 with
      | none => rw [e2] at e; cases e
      | some y =>
        obtain ⟨qs2, st3⟩ := y
        rw [e2] at e
        simp only [Option.some.injEq, Prod.mk.injEq] at e
        obtain ⟨rfl, rfl⟩ := e
        rcases ih st2 qs2 st3 (fun p hp => hl p (List.mem_cons_of_mem _ hp)) e2 b hb with h | h
        · exact hf a st q st2 (hl a List.mem_cons_self) e1 b h
        · exact .inr h
theorem carW_reach {h : List Nat} {D : Nat → Prop} (hD : ClosedD h D) : ∀ (r w : Nat) (st : CS) (q : Nat) (st1 : CS), (tagOf (w : Int) = 4 → D (atOf w)) → carW h r w st = some (q, st1) → ∀ b, Has st1 b → Has st b ∨ D b := by
  have step : ∀ (g : List Nat → CS → Option (List Nat × CS)), (∀ (l : List Nat) (st : CS) (qs : List Nat) (st1 : CS), (∀ p ∈ l, tagOf (p : Int) = 4 → D (atOf p)) → g l st = some (qs, st1) → ∀ b, Has st1 b → Has st b ∨ D b) → ∀ (w : Nat) (st : CS) (q : Nat) (st1 : CS), (tagOf (w : Int) = 4 → D (atOf w)) → stepC h g w st = some (q, st1) → ∀ b, Has st1 b → Has st b ∨ D b := by
    intro g hg w st q st1 hw e b hb
    obtain ⟨hok, ⟨ht, rfl, rfl⟩ | ⟨ht, p, hp, rfl, rfl⟩ | ⟨ht, hn, hr, qs, st2, hgl, rfl, rfl, _⟩⟩ := stepC_cases e
    · exact .inl hb
    · exact .inl hb
    · rcases has_add.1 hb with rfl | hb
      · exact .inr (hw ht)
      · exact hg _ _ _ _ (fun p hp ht' => hD _ (hw ht) p hp ht') hgl b hb
  intro r
  induction r with
  | zero => exact step _ (fun _ _ _ _ _ he => by cases he)
  | succ r ih => exact step _ (fun l st qs st1 hl he => carL_reach (h := h) (fun w st q st1 hw he => ih w st q st1 hw he) l st qs st1 hl he)
/-- an object whose parts were carried, at some depth, from a state that had it not -/
def Exp (h : List Nat) (a r : Nat) : Prop := ∃ st qs st1, ClosedS h st ∧ ¬ Has st a ∧ carL (carW h r) (paR h a) st = some (qs, st1)
theorem carL_exp {h : List Nat} {a r : Nat} (hf : ∀ (w : Nat) (st : CS) (q : Nat) (st1 : CS), ClosedS h st → ¬ Has st a → carW h r w st = some (q, st1) → Has st1 a → ∃ r', r' < r ∧ Exp h a r') : ∀ (l : List Nat) (st : CS) (qs : List Nat) (st1 : CS), ClosedS h st → ¬ Has st a → carL (carW h r) l st = some (qs, st1) → Has st1 a → ∃ r', r' < r ∧ Exp h a r' := by
  intro l
  induction l with
  | nil =>
    intro st qs st1 _ hn e hb
    simp only [carL, Option.some.injEq, Prod.mk.injEq] at e
    obtain ⟨rfl, rfl⟩ := e
    exact absurd hb hn
  | cons c l ih =>
    intro st qs st1 hc hn e hb
    simp only [carL] at e
    cases e1 : carW h r c st with
    | none => rw [e1] at e; cases e
    | some x =>
      obtain ⟨q, st2⟩ := x
      rw [e1] at e
      dsimp only at e
      cases e2 : carL (carW h r) l st2 with
      | none => rw [e2] at e; cases e
      | some y =>
        obtain ⟨qs2, st3⟩ := y
        rw [e2] at e
        simp only [Option.some.injEq, Prod.mk.injEq] at e
        obtain ⟨rfl, rfl⟩ := e
        by_cases h2 : Has st2 a
        · exact hf c st q st2 hc hn e1 h2
        · exact ih st2 qs2 st3 ((carW_left r c st q st2 e1).closed hc) h2 e2 hb
theorem carW_exp {h : List Nat} {a : Nat} : ∀ (r w : Nat) (st : CS) (q : Nat) (st1 : CS), ClosedS h st → ¬ Has st a → carW h r w st = some (q, st1) → Has st1 a → ∃ r', r' < r ∧ Exp h a r' := by
  intro r
  induction r with
  | zero =>
    intro w st q st1 hc hn e hb
    obtain ⟨hok, ⟨ht, rfl, rfl⟩ | ⟨ht, p, hp, rfl, rfl⟩ | ⟨ht, hnn, hr, qs, st2, hgl, _⟩⟩ := stepC_cases (show stepC h (fun _ _ => none) w st = some (q, st1) from e)
    · exact absurd hb hn
    · exact absurd hb hn
    · cases hgl
  | succ r ih =>
    intro w st q st1 hc hn e hb
    obtain ⟨hok, ⟨ht, rfl, rfl⟩ | ⟨ht, p, hp, rfl, rfl⟩ | ⟨ht, hnn, hr, qs, st2, hgl, rfl, rfl, _⟩⟩ := stepC_cases (show stepC h (carL (carW h r)) w st = some (q, st1) from e)
    · exact absurd hb hn
    · exact absurd hb hn
    · by_cases h2 : Has st2 a
      · obtain ⟨r', h1, h3⟩ := carL_exp ih _ _ _ _ hc hn hgl h2
        exact ⟨r', by omega, h3⟩
      · rcases has_add.1 hb with rfl | hb
        · exact ⟨r, by omega, st, qs, st2, hc, hn, hgl⟩
        · exact absurd hb h2
/-- no object is reached from its own parts -/
theorem carL_new {h : List Nat} {a : Nat} : ∀ (r : Nat) (st : CS) (qs : List Nat) (st1 : CS), ClosedS h st → ¬ Has st a → carL (carW h r) (paR h a) st = some (qs, st1) → ¬ Has st1 a := by
  intro r
  induction r using Nat.strongRecOn with
  | _ r ih =>
    intro st qs st1 hc hn e hb
    obtain ⟨r', hr', st', qs', st1', hc', hn', e'⟩ := carL_exp (fun w st q st1 => carW_exp r w st q st1) _ _ _ _ hc hn e hb
    have h1 := ih r' hr' st' qs' st1' hc' hn' e'
    obtain ⟨_, h3, h4⟩ := carL_left (fun w st q st1 => carW_left r' w st q st1) _ _ _ _ e'
    have hD : ClosedD h (Has st1') := fun b hb p hp ht => ((h3 hc') b hb p hp).2 ht
    rcases carL_reach (h := h) (D := Has st1') (fun w st q st1 hw he => carW_reach hD r w st q st1 hw he) _ _ _ _ (fun p hp ht => (h4 p hp).2 ht) e a hb with h | h
    · exact hn h
    · exact h1 h
/-- the keys are pairwise different -/
theorem carW_nodup {h : List Nat} : ∀ (r w : Nat) (st : CS) (q : Nat) (st1 : CS), ClosedS h st → (st.cp.map (·.1)).Nodup → carW h r w st = some (q, st1) → (st1.cp.map (·.1)).Nodup := by
  have hmem : ∀ (l : List (Nat × Nat)) (a : Nat), a ∈ l.map (·.1) → look l a ≠ none := fun l a => by
    induction l with
    | nil => intro h; cases h
    | cons x l ih =>
      obtain ⟨b, p⟩ := x
      intro h
      simp only [look]
      by_cases e : a = b
      · rw [if_pos e]; simp
      · rw [if_neg e]
        rcases List.mem_cons.1 h with h | h
        · exact absurd h e
        · exact ih h
  have step : ∀ (r : Nat) (hl : ∀ (l : List Nat) (st : CS) (qs : List Nat) (st1 : CS), ClosedS h st → (st.cp.map (·.1)).Nodup → carL (carW h r) l st = some (qs, st1) → (st1.cp.map (·.1)).Nodup) (w : Nat) (st : CS) (q : Nat) (st1 : CS), ClosedS h st → (st.cp.map (·.1)).Nodup → stepC h (carL (carW h r)) w st = some (q, st1) → (st1.cp.map (·.1)).Nodup := by
    intro r hl w st q st1 hc hd e
    obtain ⟨hok, ⟨ht, rfl, rfl⟩ | ⟨ht, p, hp, rfl, rfl⟩ | ⟨ht, hnn, hr, qs, st2, hgl, rfl, rfl, _⟩⟩ := stepC_cases e
    · exact hd
    · exact hd
    · have h1 := carL_new r st qs st2 hc (by unfold Has; rw [hnn]; simp) hgl
      have h2 := hl _ _ _ _ hc hd hgl
      show ((atOf w :: st2.cp.map (·.1))).Nodup
      rw [List.nodup_cons]
      exact ⟨fun hm => h1 (hmem _ _ hm), h2⟩
  intro r
  induction r with
  | zero =>
    intro w st q st1 hc hd e
    obtain ⟨hok, ⟨ht, rfl, rfl⟩ | ⟨ht, p, hp, rfl, rfl⟩ | ⟨ht, hnn, hr, qs, st2, hgl, _⟩⟩ := stepC_cases (show stepC h (fun _ _ => none) w st = some (q, st1) from e)
    · exact hd
    · exact hd
    · cases hgl
  | succ r ih =>
    refine step r (fun l => ?_)
    induction l with
    | nil =>
      intro st qs st1 _ hd e
      simp only [carL, Option.some.injEq, Prod.mk.injEq] at e
      obtain ⟨rfl, rfl⟩ := e
      exact hd
    | cons c l ihl =>
      intro st qs st1 hc hd e
      simp only [carL] at e
      cases e1 : carW h r c st with
      | none => rw [e1] at e; cases e
      | some x =>
        obtain ⟨q, st2⟩ := x
        rw [e1] at e
        dsimp only at e
        cases e2 : carL (carW h r) l st2 with
        | none => rw [e2] at e; cases e
        | some y =>
          obtain ⟨qs2, st3⟩ := y
          rw [e2] at e
          simp only [Option.some.injEq, Prod.mk.injEq] at e
          obtain ⟨rfl, rfl⟩ := e
          exact ihl st2 qs2 st3 ((carW_left r c st q st2 e1).closed hc) (ih c st q st2 hc hd e1) e2
end Go.Proofs.Ytkdbnkkdohkhjaa
