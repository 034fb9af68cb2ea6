/- What a carried word leaves: the plain facts, all in one. -/
import Derived.Test.YtkdbnkkdohkhjaaReachP
namespace Go.Proofs.Ytkdbnkkdohkhjaa
open Go.RowKit
set_option linter.unusedVariables false
theorem inv_start {f t : List Nat} {was : List Ob} (h : ObsOf t was) : InvS f was ⟨t, [], []⟩ [] :=
  ⟨by rw [List.append_nil]; exact h, rfl, fun a pl h => by simp [look] at h, fun a b pl h => by simp [look] at h⟩
theorem okS_start {f t : List Nat} (h : t.length ≤ 4000) (h64 : All64 t) : OkS f ⟨t, [], []⟩ :=
  ⟨h, h64, by simp, (fun a p h => by cases h), (fun a h => by cases h), by simp⟩
/-- what a carried word leaves, all in one -/
theorem carried {f t : List Nat} {was : List Ob} {wd q : Nat} {st : CS} (hO : ObsOf t was) (ht4 : t.length ≤ 4000) (f64 : All64 f) (t64 : All64 t) (hwd : wd < 18446744073709551616) (e : carW f 40 wd ⟨t, [], []⟩ = some (q, st)) :
    okR (wd : Int) = true ∧ relP st.cp wd q ∧ OkS f st ∧ q < 18446744073709551616 ∧ ∃ more, ObsOf st.to (was ++ more) ∧ more.length = st.cp.length ∧ CpOk f (was ++ more) st.cp := by
  have hc0 : ClosedS f ⟨t, [], []⟩ := fun b hb => absurd rfl hb
  have hk0 := okS_start (f := f) ht4 t64
  obtain ⟨_, hr, hi⟩ := carW_inv (was := was) f64 40 wd _ q st hwd hk0 hc0 e
  obtain ⟨more, H⟩ := hi [] (inv_start hO)
  rw [List.nil_append] at H
  have hl := carW_left 40 wd _ q st e
  obtain ⟨hok, hq⟩ := carW_ok f64 40 wd _ q st hwd hk0 e
  refine ⟨hl.ok, hr, hok, hq, more, H.obs, H.len, H.copy, H.inj, fun a pl h p hp => ((hl.closed hc0) a (by unfold Has; rw [h]; simp) p hp).1⟩
/-- the objects that were copied are a good set -/
theorem has_good {f t : List Nat} {was : List Ob} {wd q : Nat} {st : CS} (hO : ObsOf t was) (ht4 : t.length ≤ 4000) (f64 : All64 f) (t64 : All64 t) (hwd : wd < 18446744073709551616) (e : carW f 40 wd ⟨t, [], []⟩ = some (q, st)) : GoodD f wd (Has st) := by
  obtain ⟨hok, _, _, _, more, _, _, hcp⟩ := carried hO ht4 f64 t64 hwd e
  have hc0 : ClosedS f ⟨t, [], []⟩ := fun b hb => absurd rfl hb
  have hl := carW_left 40 wd _ q st e
  refine ⟨hok, hl.has, fun a ha => ?_, fun a ha p hp => (hl.closed hc0) a ha p hp⟩
  cases h : look st.cp a with
  | none => exact absurd h ha
  | some pl => exact (hcp.copy a pl h).reads
/-- what is reached is what was copied -/
theorem reach_has {f t : List Nat} {was : List Ob} {wd q : Nat} {st : CS} {V : List Nat} (hO : ObsOf t was) (ht4 : t.length ≤ 4000) (f64 : All64 f) (t64 : All64 t) (hwd : wd < 18446744073709551616) (e : carW f 40 wd ⟨t, [], []⟩ = some (q, st)) (H : RInv f wd V []) (a : Nat) : a ∈ V ↔ Has st a := by
  constructor
  · exact (H.reach _ (has_good hO ht4 f64 t64 hwd e)).1 a
  · intro ha
    rcases carW_reach (D := fun a => a ∈ V) H.done.closed 40 wd _ q st H.done.start e a ha with h | h
    · exact absurd rfl h
    · exact h
/-- the cells that are emptied -/
def CellS (f : List Nat) (st : CS) : Prop := ∀ a, a ∈ st.cells ↔ Has st a ∧ (obR f a).kind = 5 ∧ 0 < (paR f a).length
theorem carL_cells {f : List Nat} {g : Nat → CS → Option (Nat × CS)} (hg : ∀ w st q st1, g w st = some (q, st1) → CellS f st → CellS f st1) : ∀ (l : List Nat) (st : CS) (qs : List Nat) (st1 : CS), carL g l st = some (qs, st1) → CellS f st → CellS f st1 := by
  intro l
  induction l with
  | nil =>
    intro st qs st1 e
    simp only [carL, Option.some.injEq, Prod.mk.injEq] at e
    obtain ⟨rfl, rfl⟩ := e
    exact id
  | cons a l ih =>
    intro st qs st1 e
    simp only [carL] at e
    cases e1 : g a st with
    | none => rw [e1] at e; cases e
    | some x =>
      obtain ⟨q, st2⟩ := x
      rw [e1] at e
      dsimp only at e
      cases e2 : carL g l st2 with
      | none => rw [e2] at e; cases e
      | some y =>
        obtain ⟨qs2, st3⟩ := y
        rw [e2] at e
        simp only [Option.some.injEq, Prod.mk.injEq] at e
        obtain ⟨rfl, rfl⟩ := e
        exact fun h => ih st2 qs2 st3 e2 (hg a st q st2 e1 h)
theorem stepC_cells {f : List Nat} {g : List Nat → CS → Option (List Nat × CS)} (hg : ∀ l st qs st1, g l st = some (qs, st1) → (CellS f st → CellS f st1) ∧ qs.length = l.length) (w : Nat) (st : CS) (q : Nat) (st1 : CS) (e : stepC f g w st = some (q, st1)) : CellS f st → CellS f st1 := by
  obtain ⟨hok, ⟨ht, rfl, rfl⟩ | ⟨ht, p, hp, rfl, rfl⟩ | ⟨ht, hn, hr, qs, st2, hgl, rfl, rfl, _⟩⟩ := stepC_cases e
  · exact id
  · exact id
  · intro h
    obtain ⟨h1, h2⟩ := hg _ _ _ _ hgl
    have h3 := h1 h
    intro a
    rw [has_add]
    show (a ∈ (if (obR f (atOf w)).kind = 5 ∧ 0 < qs.length then st2.cells ++ [atOf w] else st2.cells)) ↔ _
    rw [h2]
    by_cases hc : (obR f (atOf w)).kind = 5 ∧ 0 < (paR f (atOf w)).length
    · rw [if_pos hc, List.mem_append, h3 a]
      constructor
      · rintro (⟨k1, k2⟩ | k)
        · exact ⟨.inr k1, k2⟩
        · obtain rfl : a = atOf w := by simpa using k
          exact ⟨.inl rfl, hc⟩
      · rintro ⟨rfl | k1, k2⟩
        · exact .inr (by simp)
        · exact .inl ⟨k1, k2⟩
    · rw [if_neg hc, h3 a]
      constructor
      · rintro ⟨k1, k2⟩
        exact ⟨.inr k1, k2⟩
      · rintro ⟨rfl | k1, k2⟩
        · exact absurd k2 hc
        · exact ⟨k1, k2⟩
theorem carW_cells {f : List Nat} : ∀ (r w : Nat) (st : CS) (q : Nat) (st1 : CS), carW f r w st = some (q, st1) → CellS f st → CellS f st1 := by
  intro r
  induction r with
  | zero => intro w st q st1 e; exact stepC_cells (fun _ _ _ _ he => by cases he) w st q st1 e
  | succ r ih => intro w st q st1 e; exact stepC_cells (fun l st qs st1 he => ⟨carL_cells ih l st qs st1 he, carL_len he⟩) w st q st1 e
theorem cells_start {f t : List Nat} : CellS f ⟨t, [], []⟩ := fun a => ⟨fun h => (by cases h), fun h => absurd rfl h.1⟩
end Go.Proofs.Ytkdbnkkdohkhjaa
