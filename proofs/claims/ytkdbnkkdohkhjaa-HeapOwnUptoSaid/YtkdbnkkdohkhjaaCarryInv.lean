/- Carrying words between heaps: each copy is its object, with its parts' copies. -/
import Derived.Test.YtkdbnkkdohkhjaaCarryShape
namespace Go.Proofs.Ytkdbnkkdohkhjaa
open Go.RowKit
set_option linter.unusedVariables false
/-- a word and its copy -/
def relP (cp : List (Nat × Nat)) (p q : Nat) : Prop := (tagOf (p : Int) = 4 → ∃ pl, look cp (atOf p) = some pl ∧ q = cw pl) ∧ (tagOf (p : Int) ≠ 4 → q = p)
def KeepS (st st1 : CS) : Prop := ∀ b pl, look st.cp b = some pl → look st1.cp b = some pl
theorem relP.keep {st st1 : CS} {p q : Nat} (h : relP st.cp p q) (hk : KeepS st st1) : relP st1.cp p q := ⟨fun ht => by
  obtain ⟨pl, h1, h2⟩ := h.1 ht
  exact ⟨pl, hk _ _ h1, h2⟩, h.2⟩
structure CopyOf (h : List Nat) (l : List Ob) (cp : List (Nat × Nat)) (a pl : Nat) : Prop where
  reads : ReadsOb h a
  obj : ∃ l1 l2 ps, l = l1 ++ withParts (obR h a) ps :: l2 ∧ (flatO l1).length = pl ∧ ps.length = (paR h a).length ∧ ∀ i, i < ps.length → relP cp (nth (paR h a) i) (nth ps i)
structure InvS (h : List Nat) (was : List Ob) (st : CS) (objs : List Ob) : Prop where
  obs : ObsOf st.to (was ++ objs)
  len : objs.length = st.cp.length
  copy : ∀ a pl, look st.cp a = some pl → CopyOf h (was ++ objs) st.cp a pl
  inj : ∀ a b pl, look st.cp a = some pl → look st.cp b = some pl → a = b
theorem CopyOf.more {h : List Nat} {l : List Ob} {st st1 : CS} {a pl : Nat} (H : CopyOf h l st.cp a pl) (m : List Ob) (hk : KeepS st st1) : CopyOf h (l ++ m) st1.cp a pl := by
  obtain ⟨l1, l2, ps, rfl, h2, h3, h4⟩ := H.obj
  exact ⟨H.reads, l1, l2 ++ m, ps, by simp, h2, h3, fun i hi => (h4 i hi).keep hk⟩
theorem CopyOf.lt {h : List Nat} {l : List Ob} {cp : List (Nat × Nat)} {a pl : Nat} (H : CopyOf h l cp a pl) : pl < (flatO l).length := by
  obtain ⟨l1, l2, ps, rfl, rfl, h3, h4⟩ := H.obj
  rw [flatO_append, flatO_cons, List.length_append, List.length_append]
  have := wordsO_pos (withParts (obR h a) ps)
  omega
theorem look_addC {h : List Nat} {a : Nat} {qs : List Nat} {st : CS} {b : Nat} : look (addC h a qs st).cp b = if b = a then some st.to.length else look st.cp b := by
  unfold addC
  simp only [look]
theorem keep_addC {h : List Nat} {a : Nat} {qs : List Nat} {st : CS} (hn : ¬ Has st a) : KeepS st (addC h a qs st) := fun b pl hb => by
  rw [look_addC, if_neg (fun e => hn (by rw [← e]; unfold Has; rw [hb]; simp))]
  exact hb
theorem addC_inv {h : List Nat} {was objs : List Ob} {st : CS} {a : Nat} {qs : List Nat} (H : InvS h was st objs) (hr : ReadsOb h a) (h64 : All64 h) (hn : ¬ Has st a) (hq : qs.length = (paR h a).length) (hq64 : All64 qs) (hrel : ∀ i, i < qs.length → relP st.cp (nth (paR h a) i) (nth qs i)) :
    InvS h was (addC h a qs st) (objs ++ [withParts (obR h a) qs]) := by
  have hg := reads_good hr h64
  have hkeep := keep_addC (h := h) (qs := qs) hn
  have hto : st.to = flatO (was ++ objs) := H.obs.1
  refine ⟨?_, ?_, fun b pl hb => ?_, fun b c pl hb hc => ?_⟩
  · rw [← List.append_assoc]
    exact obs_snoc H.obs ⟨withParts_ok hg.ok hq, hg.num, hq64⟩
  · rw [List.length_append, H.len]
    rfl
  · rw [look_addC] at hb
    rw [← List.append_assoc]
    by_cases e : b = a
    · rw [if_pos e] at hb
      injection hb with hb
      subst hb e
      exact ⟨hr, was ++ objs, [], qs, rfl, by rw [← hto], hq, fun i hi => (hrel i hi).keep hkeep⟩
    · rw [if_neg e] at hb
      exact (H.copy b pl hb).more _ hkeep
  · rw [look_addC] at hb hc
    by_cases e : b = a
    · by_cases e2 : c = a
      · rw [e, e2]
      · rw [if_pos e] at hb
        rw [if_neg e2] at hc
        injection hb with hb
        have := (H.copy c pl hc).lt
        rw [← hto] at this
        omega
    · rw [if_neg e] at hb
      by_cases e2 : c = a
      · rw [if_pos e2] at hc
        injection hc with hc
        have := (H.copy b pl hb).lt
        rw [← hto] at this
        omega
      · rw [if_neg e2] at hc
        exact H.inj b c pl hb hc
/-- what a word's copy leaves -/
def InvW (h : List Nat) (was : List Ob) (w : Nat) (st : CS) (q : Nat) (st1 : CS) : Prop := KeepS st st1 ∧ relP st1.cp w q ∧ ∀ objs, InvS h was st objs → ∃ more, InvS h was st1 (objs ++ more)
theorem carL_inv {h : List Nat} {was : List Ob} (h64 : All64 h) {r : Nat} (hf : ∀ (w : Nat) (st : CS) (q : Nat) (st1 : CS), w < 18446744073709551616 → OkS h st → ClosedS h st → carW h r w st = some (q, st1) → InvW h was w st q st1) :
    ∀ (l : List Nat) (st : CS) (qs : List Nat) (st1 : CS), All64 l → OkS h st → ClosedS h st → carL (carW h r) l st = some (qs, st1) → KeepS st st1 ∧ (∀ i, i < l.length → relP st1.cp (nth l i) (nth qs i)) ∧ ∀ objs, InvS h was st objs → ∃ more, InvS h was st1 (objs ++ more) := by
  intro l
  induction l with
  | nil =>
    intro st qs st1 _ _ _ e
    simp only [carL, Option.some.injEq, Prod.mk.injEq] at e
    obtain ⟨rfl, rfl⟩ := e
    exact ⟨fun b pl hb => hb, fun i hi => by simp at hi, fun objs H => ⟨[], by rw [List.append_nil]; exact H⟩⟩
  | cons c l ih =>
    intro st qs st1 ha hok hc e
    simp only [carL] at e
    cases e1 : carW h r c st with
    | none => rw [e1] at e; cases e
    | some x =>
      obtain ⟨q, st2⟩ := x
      rw [e1] at e
      dsimp only at e
      cases e2 : carL (carW h r) l st2 with
      | none => rw [e2] at e; cases e
      | some y =>
        obtain ⟨qs2, st3⟩ := y
        rw [e2] at e
        simp only [Option.some.injEq, Prod.mk.injEq] at e
        obtain ⟨rfl, rfl⟩ := e
        have hc64 := ha c List.mem_cons_self
        obtain ⟨hk1, hr1, hi1⟩ := hf c st q st2 hc64 hok hc e1
        obtain ⟨hok2, hq64⟩ := carW_ok h64 r c st q st2 hc64 hok e1
        obtain ⟨hk2, hr2, hi2⟩ := ih st2 qs2 st3 (fun x hx => ha x (List.mem_cons_of_mem _ hx)) hok2 ((carW_left r c st q st2 e1).closed hc) e2
        refine ⟨fun b pl hb => hk2 b pl (hk1 b pl hb), fun i hi => ?_, fun objs H => ?_⟩
        · cases i with
          | zero => exact hr1.keep hk2
          | succ i =>
            have := hr2 i (by simpa using hi)
            simpa [nth] using this
        · obtain ⟨m1, H1⟩ := hi1 objs H
          obtain ⟨m2, H2⟩ := hi2 _ H1
          exact ⟨m1 ++ m2, by rw [← List.append_assoc]; exact H2⟩
theorem carW_inv {h : List Nat} {was : List Ob} (h64 : All64 h) : ∀ (r w : Nat) (st : CS) (q : Nat) (st1 : CS), w < 18446744073709551616 → OkS h st → ClosedS h st → carW h r w st = some (q, st1) → InvW h was w st q st1 := by
  intro r
  induction r with
  | zero =>
    intro w st q st1 hw hok hc e
    obtain ⟨_, ⟨ht, rfl, rfl⟩ | ⟨ht, p, hp, rfl, rfl⟩ | ⟨ht, hnn, hr, qs, st2, hgl, _⟩⟩ := stepC_cases (show stepC h (fun _ _ => none) w st = some (q, st1) from e)
    · exact ⟨fun b pl hb => hb, ⟨fun h => absurd h ht, fun _ => rfl⟩, fun objs H => ⟨[], by rw [List.append_nil]; exact H⟩⟩
    · exact ⟨fun b pl hb => hb, ⟨fun _ => ⟨p, hp, rfl⟩, fun h => absurd ht h⟩, fun objs H => ⟨[], by rw [List.append_nil]; exact H⟩⟩
    · cases hgl
  | succ r ih =>
    intro w st q st1 hw hok hc e
    obtain ⟨_, ⟨ht, rfl, rfl⟩ | ⟨ht, p, hp, rfl, rfl⟩ | ⟨ht, hnn, hr, qs, st2, hgl, rfl, rfl, hroom⟩⟩ := stepC_cases (show stepC h (carL (carW h r)) w st = some (q, st1) from e)
    · exact ⟨fun b pl hb => hb, ⟨fun h => absurd h ht, fun _ => rfl⟩, fun objs H => ⟨[], by rw [List.append_nil]; exact H⟩⟩
    · exact ⟨fun b pl hb => hb, ⟨fun _ => ⟨p, hp, rfl⟩, fun h => absurd ht h⟩, fun objs H => ⟨[], by rw [List.append_nil]; exact H⟩⟩
    · have hnew := carL_new r st qs st2 hc (by unfold Has; rw [hnn]; simp) hgl
      obtain ⟨hk, hrl, hi⟩ := carL_inv h64 ih _ _ _ _ (pa_all h64 _) hok hc hgl
      have hql := carL_len hgl
      have hq64 := (carL_ok (carW_ok h64 r) _ _ _ _ (pa_all h64 _) hok hgl).2
      refine ⟨fun b pl hb => keep_addC hnew b pl (hk b pl hb), ⟨fun _ => ⟨st2.to.length, by rw [look_addC, if_pos rfl], rfl⟩, fun h => absurd ht h⟩, fun objs H => ?_⟩
      obtain ⟨m1, H1⟩ := hi objs H
      exact ⟨m1 ++ [withParts (obR h (atOf w)) qs], by rw [← List.append_assoc]; exact addC_inv H1 hr h64 hnew hql hq64 (fun i hi => hrl i (by rw [← hql]; exact hi))⟩
end Go.Proofs.Ytkdbnkkdohkhjaa
