/- What is built in a heap of objects are objects: plain facts. -/
import Derived.Test.YtkdbnkkdohkhjaaHeapBldPlain
namespace Go.Proofs.Ytkdbnkkdohkhjaa
open Go.RowKit
set_option linter.unusedVariables false
theorem numW_64 (o : Ob) : All64 (numW o) := fun x hx => by
  unfold numW at hx
  split at hx
  · rw [List.mem_singleton.1 hx]
    unfold uN
    omega
  · cases hx
theorem wordsO_64 {o : Ob} (G : GoodOb o) : All64 (wordsO o) := fun x hx => by
  unfold wordsO at hx
  rcases List.mem_cons.1 hx with rfl | hx
  · exact (headW_kind G.ok).2.2.2
  · rcases List.mem_append.1 hx with hx | hx
    · rcases List.mem_append.1 hx with hx | hx
      · exact numW_64 o x hx
      · exact tw_lt (bt_lt _) _ x hx
    · exact G.parts x hx
theorem flatO_64 {l : List Ob} (G : ∀ o ∈ l, GoodOb o) : All64 (flatO l) := by
  induction l with
  | nil => intro x hx; cases hx
  | cons o l ih =>
    rw [flatO_cons]
    exact (wordsO_64 (G o (by simp))).append (ih fun x hx => G x (by simp [hx]))
theorem ObsOf.all64 {h : List Nat} {l : List Ob} (H : ObsOf h l) : All64 h := by
  rw [H.1]
  exact flatO_64 H.2
theorem ObsOf.nil : ObsOf [] [] := ⟨rfl, fun o ho => by cases ho⟩
theorem ofW_64 {k m : Int} {s : ByteArray} {n : Nat} (hb : ofB k m s n = true) : (ofW k m s n).toNat < 18446744073709551616 := by
  have h1 := hb
  unfold ofB at h1
  simp only [Bool.and_eq_true] at h1
  have h2 := (okR_word h1.2).2.2.2
  unfold ofW
  rw [if_pos hb]
  unfold U64 at h2
  omega
theorem bld_4000 {t : VT} {h g : List Nat} {x : Nat} (e : t.bld h = some (g, x)) (hl : h.length ≤ 4000) : g.length ≤ 4000 := by
  cases t with
  | none => cases e
  | node k m s n arg =>
    simp only [VT.bld] at e
    split at e
    · injection e with e
      injection e with e1 _
      subst e1
      exact hl
    · split at e
      · cases hb : bldArgs (fun i => (arg i).bld) n h with
        | none => rw [hb] at e; cases e
        | some p =>
          obtain ⟨g1, ps⟩ := p
          rw [hb] at e
          simp only [bldNode] at e
          split at e
          · rename_i hf
            injection e with e
            injection e with e1 _
            subst e1
            have := (fitsB_iff.1 hf).2
            rw [List.length_append]
            omega
          · cases e
      · cases e
/-- the heap with a value's objects is one of objects -/
def ObsStep (t : VT) : Prop := t.wf → ∀ (h g : List Nat) (l : List Ob) (x : Nat), ObsOf h l → t.bld h = some (g, x) → (∃ r, ObsOf g (l ++ r)) ∧ x < 18446744073709551616
theorem obs_args {arg : Nat → VT} (ih : ∀ i, ObsStep (arg i)) : ∀ (n : Nat), (∀ i, i < n → (arg i).wf) → ∀ (h g ps : List Nat) (l : List Ob), ObsOf h l → bldArgs (fun i => (arg i).bld) n h = some (g, ps) → (∃ r, ObsOf g (l ++ r)) ∧ All64 ps := by
  intro n
  induction n with
  | zero =>
    intro _ h g ps l H e
    simp [bldArgs] at e
    obtain ⟨rfl, rfl⟩ := e
    exact ⟨⟨[], by simpa using H⟩, fun x hx => by cases hx⟩
  | succ n ihn =>
    intro hw h g ps l H e
    simp only [bldArgs] at e
    split at e
    · cases e
    · rename_i g1 ps1 h1
      split at e
      · cases e
      · rename_i g2 x h2
        injection e with e
        injection e with e1 e2
        subst e1 e2
        obtain ⟨⟨r, hr⟩, hp⟩ := ihn (fun i hi => hw i (by omega)) h g1 ps1 l H h1
        obtain ⟨⟨r2, hr2⟩, hx⟩ := ih n (hw n (by omega)) g1 g2 _ x hr h2
        refine ⟨⟨r ++ r2, by rw [← List.append_assoc]; exact hr2⟩, fun y hy => ?_⟩
        rcases List.mem_append.1 hy with hy | hy
        · exact hp y hy
        · rw [List.mem_singleton.1 hy]; exact hx
theorem obs_bld : ∀ t : VT, ObsStep t := by
  intro t
  induction t with
  | none => intro _ h g l x H e; cases e
  | node k m s n arg ih =>
    intro hw h g l x H e
    simp only [VT.bld] at e
    split at e
    · rename_i hb
      injection e with e
      injection e with e1 e2
      subst e1 e2
      exact ⟨⟨[], by simpa using H⟩, ofW_64 hb⟩
    · split at e
      · cases hb : bldArgs (fun i => (arg i).bld) n h with
        | none => rw [hb] at e; cases e
        | some p =>
          obtain ⟨g1, ps⟩ := p
          rw [hb] at e
          simp only [bldNode] at e
          split at e
          · rename_i hf
            injection e with e
            injection e with e1 e2
            subst e1 e2
            obtain ⟨⟨r, hr⟩, hp⟩ := obs_args ih n hw.2 h g1 ps l H hb
            have h2 := fitsB_iff.1 hf
            have hG : GoodOb ⟨kdOf k, m, s, ps⟩ := ⟨h2.1, hw.1, hp⟩
            exact ⟨⟨r ++ [⟨kdOf k, m, s, ps⟩], by rw [← List.append_assoc]; exact obs_snoc hr hG⟩, by omega⟩
          · cases e
      · cases e
end Go.Proofs.Ytkdbnkkdohkhjaa
