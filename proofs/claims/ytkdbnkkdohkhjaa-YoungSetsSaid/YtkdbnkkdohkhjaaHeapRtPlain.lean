/- What is built is read back: plain facts. -/
import Derived.Test.YtkdbnkkdohkhjaaHeapLdPlain
import Derived.Test.YtkdbnkkdohkhjaaSameV
namespace Go.Proofs.Ytkdbnkkdohkhjaa
open Go.RowKit
set_option linter.unusedVariables false
/-- building leaves what was there as it was -/
def BldPre (t : VT) : Prop := ∀ (h g : List Nat) (x : Nat), t.bld h = some (g, x) → ∃ r, g = h ++ r
theorem pre_args {arg : Nat → VT} (ih : ∀ i, BldPre (arg i)) : ∀ (n : Nat) (h g ps : List Nat), bldArgs (fun i => (arg i).bld) n h = some (g, ps) → ∃ r, g = h ++ r := by
  intro n
  induction n with
  | zero =>
    intro h g ps e
    simp [bldArgs] at e
    exact ⟨[], by rw [List.append_nil, ← e.1]⟩
  | succ n ihn =>
    intro h g ps e
    simp only [bldArgs] at e
    split at e
    · cases e
    · rename_i g1 ps1 h1
      split at e
      · cases e
      · rename_i g2 x h2
        injection e with e
        injection e with e1 e2
        subst e1
        obtain ⟨r, rfl⟩ := ihn h g1 ps1 h1
        obtain ⟨r2, rfl⟩ := ih n _ _ _ h2
        exact ⟨r ++ r2, by rw [List.append_assoc]⟩
theorem bld_pre : ∀ t : VT, BldPre t := by
  intro t
  induction t with
  | none => intro h g x e; cases e
  | node k m s n arg ih =>
    intro h g x e
    simp only [VT.bld] at e
    split at e
    · injection e with e
      injection e with e1 _
      exact ⟨[], by rw [List.append_nil, e1]⟩
    · split at e
      · cases hb : bldArgs (fun i => (arg i).bld) n h with
        | none => rw [hb] at e; cases e
        | some p =>
          obtain ⟨g1, ps⟩ := p
          rw [hb] at e
          simp only [bldNode] at e
          split at e
          · injection e with e
            injection e with e1 _
            subst e1
            obtain ⟨r, rfl⟩ := pre_args ih n h g1 ps hb
            exact ⟨r ++ wordsO ⟨kdOf k, m, s, ps⟩, by rw [List.append_assoc]⟩
          · cases e
      · cases e
/-- an object is read where it was, whatever stands behind it -/
theorem reads_ext {h : List Nat} {a : Nat} (H : ReadsOb h a) (h64 : All64 h) (r : List Nat) : ReadsOb (h ++ r) a ∧ obR (h ++ r) a = obR h a := by
  have hg := reads_good H h64
  have ha : a ≤ h.length := by have := H.1; omega
  obtain ⟨h1, _⟩ := reads_split H
  have e : h ++ r = h.take a ++ wordsO (obR h a) ++ (h.drop (a + (wordsO (obR h a)).length) ++ r) := by
    rw [← List.append_assoc, List.append_assoc (h.take a), ← h1, List.take_append_drop]
  have hl : (h.take a).length = a := by rw [List.length_take]; omega
  have h2 := reads_back hg (h.take a) (h.drop (a + (wordsO (obR h a)).length) ++ r)
  have h3 := ob_back hg (h.take a) (h.drop (a + (wordsO (obR h a)).length) ++ r)
  rw [← e, hl] at h2 h3
  exact ⟨h2, h3⟩
/-- the word of an object -/
theorem at_word {a : Nat} (ha : a < 1152921504606846976) : okR ((a * 8 + 4 : Nat) : Int) = true ∧ tagOf ((a * 8 + 4 : Nat) : Int) = 4 ∧ numOf ((a * 8 + 4 : Nat) : Int) = (a : Int) := by
  have hok : okW 4 (a : Int) = true := by
    simp [okW, validB]
    omega
  have hw : wordV 4 (a : Int) = ((a * 8 + 4 : Nat) : Int) := by unfold wordV; omega
  obtain ⟨h1, h2, h3, _⟩ := okR_word hok
  rw [hw] at h1 h2 h3
  exact ⟨h1, h2, h3⟩
theorem leaf_word {k m : Int} {s : ByteArray} {n : Nat} (hb : ofB k m s n = true) : leafB ((ofW k m s n).toNat : Nat) = true ∧ kindT (tagOf ((ofW k m s n).toNat : Nat)) = k ∧ numOf ((ofW k m s n).toNat : Nat) = m ∧ s.toList = [] ∧ n = 0 := by
  have hb' := hb
  unfold ofB at hb'
  simp only [Bool.and_eq_true, decide_eq_true_eq] at hb'
  obtain ⟨⟨⟨h1, h2⟩, h3⟩, h4⟩ := hb'
  obtain ⟨g1, g2, g3, g4⟩ := okR_word h4
  have hw : (((ofW k m s n).toNat : Nat) : Int) = wordV (tagK k) m := by
    have e : ofW k m s n = wordV (tagK k) m := by unfold ofW; rw [if_pos hb]
    rw [e]
    unfold U64 at g4
    omega
  have hr := tagK_range k
  rw [hw]
  refine ⟨?_, ?_, g3, by simpa using h2, h3⟩
  · unfold leafB
    rw [g1, g2]
    simp
    omega
  · rw [g2]
    have hk : k = 1 ∨ k = 2 ∨ k = 3 ∨ k = 6 := by
      by_cases e1 : k = 1
      · exact .inl e1
      by_cases e2 : k = 2
      · exact .inr (.inl e2)
      by_cases e3 : k = 3
      · exact .inr (.inr (.inl e3))
      by_cases e6 : k = 6
      · exact .inr (.inr (.inr e6))
      simp [tagK, e1, e2, e3, e6] at h1
    rcases hk with rfl | rfl | rfl | rfl <;> rfl
theorem kinds_back {k m : Int} (h : goesB k m = true) : 1 ≤ kdOf k ∧ kindsF (kdOf k).toNat = k ∧ (m = 0 ∨ hasN (kdOf k) = true) := by
  unfold goesB at h
  simp only [Bool.and_eq_true, Bool.or_eq_true, decide_eq_true_eq, beq_iff_eq] at h
  refine ⟨h.1, ?_, h.2⟩
  have h1 := h.1
  unfold kdOf at h1 ⊢
  rcases ixOf_cases (fun j => k == kindsF j) 6 with ⟨e, _⟩ | ⟨j, e, hj, hp, _⟩
  · rw [e] at h1; omega
  · rw [e, Int.toNat_natCast]
    exact (beq_iff_eq.1 hp).symm
theorem le_maxTo {g : Nat → Nat} {n i : Nat} (hi : i < n) : g i ≤ maxTo g n := by
  induction n with
  | zero => omega
  | succ n ih =>
    simp only [maxTo]
    by_cases e : i = n
    · subst e; omega
    · have := ih (by omega); omega
theorem bld_64 {t : VT} {h g : List Nat} {x : Nat} (e : t.bld h = some (g, x)) : x < 18446744073709551616 := by
  cases t with
  | none => cases e
  | node k m s n arg =>
    simp only [VT.bld] at e
    split at e
    · rename_i hb
      injection e with e
      injection e with _ e2
      rw [← e2]
      exact ofW_64 hb
    · split at e
      · cases hb : bldArgs (fun i => (arg i).bld) n h with
        | none => rw [hb] at e; cases e
        | some p =>
          obtain ⟨g1, ps⟩ := p
          rw [hb] at e
          simp only [bldNode] at e
          split at e
          · rename_i hf
            injection e with e
            injection e with _ e2
            have := (fitsB_iff.1 hf).2
            omega
          · cases e
      · cases e
/-- each argument was built on its own -/
theorem args_each {arg : Nat → VT} : ∀ (n : Nat) (h g ps : List Nat), bldArgs (fun i => (arg i).bld) n h = some (g, ps) → ∀ i, i < n → ∃ gi gi' r, (arg i).bld gi = some (gi', nth ps i) ∧ g = gi' ++ r := by
  intro n
  induction n with
  | zero => intro h g ps e i hi; omega
  | succ n ihn =>
    intro h g ps e i hi
    have hl := bldArgs_len e
    simp only [bldArgs] at e
    split at e
    · cases e
    · rename_i g1 ps1 h1
      split at e
      · cases e
      · rename_i g2 x h2
        injection e with e
        injection e with e1 e2
        subst e1 e2
        have hl1 := bldArgs_len h1
        by_cases ei : i = n
        · subst ei
          refine ⟨g1, g2, [], ?_, by simp⟩
          rw [nth_append_right (by omega), hl1, Nat.sub_self]
          exact h2
        · obtain ⟨gi, gi', r, h3, rfl⟩ := ihn h g1 ps1 h1 i (by omega)
          obtain ⟨r2, rfl⟩ := bld_pre (arg n) _ _ _ h2
          exact ⟨gi, gi', r ++ r2, by rw [nth_append_left (by omega)]; exact h3, by rw [List.append_assoc]⟩
theorem all64_of {ps : List Nat} (h : ∀ i, i < ps.length → nth ps i < 18446744073709551616) : All64 ps := fun x hx => by
  obtain ⟨i, hi, rfl⟩ := List.mem_iff_getElem.1 hx
  have := h i hi
  rw [nth_get hi] at this
  exact this
/-- what was built is read back -/
def RtOk (t : VT) : Prop := t.wf → ∀ (h g : List Nat) (x : Nat), t.bld h = some (g, x) → ∀ (post : List Nat) (d : Nat) (left : Int), t.deep ≤ d → (t.many : Int) ≤ left → ∃ t', ldv (g ++ post) d x left = ⟨0, t', left - t.many⟩ ∧ sameV t' t = true
theorem rt_args {arg : Nat → VT} (ih : ∀ i, RtOk (arg i)) {n : Nat} (hw : ∀ i, i < n → (arg i).wf) {h g ps : List Nat} (e : bldArgs (fun i => (arg i).bld) n h = some (g, ps)) (post : List Nat) (d : Nat) (left : Int) (hd : ∀ i, i < n → (arg i).deep ≤ d) (hm : (sumTo (fun i => (arg i).many) n : Int) ≤ left) :
    ∀ i, i ≤ n → ∃ ts : List VT, ldArgs (ldv (g ++ post) d) ps left i = ⟨0, ts, left - sumTo (fun i => (arg i).many) i⟩ ∧ ts.length = i ∧ ∀ j, j < i → sameV (ts.getD j .none) (arg j) = true := by
  intro i
  induction i with
  | zero => intro _; exact ⟨[], by simp [ldArgs, sumTo], rfl, fun j hj => by omega⟩
  | succ i ihi =>
    intro hi
    obtain ⟨ts, h1, h2, h3⟩ := ihi (by omega)
    obtain ⟨gi, gi', r, h4, rfl⟩ := args_each n h g ps e i (by omega)
    have hs : sumTo (fun i => (arg i).many) (i + 1) ≤ sumTo (fun i => (arg i).many) n := sumTo_mono hi
    simp only [sumTo] at hs
    obtain ⟨t', h5, h6⟩ := ih i (hw i (by omega)) gi gi' (nth ps i) h4 (r ++ post) d (left - sumTo (fun i => (arg i).many) i) (hd i (by omega)) (by omega)
    rw [← List.append_assoc] at h5
    refine ⟨ts ++ [t'], ?_, by simp [h2], fun j hj => ?_⟩
    · rw [ldArgs_succ (by rw [h1]), h1]
      simp only
      rw [h5, if_neg (by simp)]
      simp only [sumTo]
      congr 1
      push_cast
      omega
    · by_cases ej : j = i
      · subst ej
        have : (ts ++ [t']).getD j .none = t' := by
          rw [List.getD_eq_getElem?_getD, List.getElem?_append_right (by omega), h2, Nat.sub_self]
          rfl
        rw [this]
        exact h6
      · have : (ts ++ [t']).getD j .none = ts.getD j .none := by
          rw [List.getD_eq_getElem?_getD, List.getElem?_append_left (by omega), ← List.getD_eq_getElem?_getD]
        rw [this]
        exact h3 j (by omega)
theorem ldv_at {G : List Nat} {a d : Nat} {left : Int} (ha : a < 1152921504606846976) (hR : ReadsOb G a) (hl : 1 ≤ left) : ldv G (d + 1) (a * 8 + 4) left = ldNode (obR G a) (ldArgs (ldv G d) (obR G a).parts (left - 1) (obR G a).parts.length) := by
  obtain ⟨h1, h2, h3⟩ := at_word ha
  conv => lhs; unfold ldv
  rw [if_neg (by omega), if_neg (by unfold leafB; rw [h2]; simp), if_neg (by rw [h1]; simp), h3, Int.toNat_natCast, if_pos (readsV_iff.2 hR)]
theorem rt_any : ∀ t : VT, RtOk t := by
  intro t
  induction t with
  | none => intro _ h g x e; cases e
  | node k m s n arg ih =>
    intro hw h g x e post d left hd hm
    simp only [VT.deep] at hd
    simp only [VT.many] at hm
    obtain ⟨d, rfl⟩ : ∃ d', d = d' + 1 := ⟨d - 1, by omega⟩
    have hl : 1 ≤ left := by omega
    simp only [VT.bld] at e
    split at e
    · rename_i hb
      injection e with e
      injection e with e1 e2
      subst e1 e2
      obtain ⟨g1, g2, g3, g4, rfl⟩ := leaf_word hb
      refine ⟨leafV ((ofW k m s 0).toNat : Nat), ?_, ?_⟩
      · conv => lhs; unfold ldv
        rw [if_neg (by omega), if_pos g1]
        simp [VT.many, sumTo]
      · unfold leafV
        simp only [sameV]
        rw [g2, g3]
        simp [allTo]
        exact g4
    · split at e
      · rename_i hgo
        obtain ⟨q1, q2, q3⟩ := kinds_back hgo
        cases hb : bldArgs (fun i => (arg i).bld) n h with
        | none => rw [hb] at e; cases e
        | some p =>
          obtain ⟨g1, ps⟩ := p
          rw [hb] at e
          simp only [bldNode] at e
          split at e
          · rename_i hf
            injection e with e
            injection e with e1 e2
            subst e1 e2
            have hf' := fitsB_iff.1 hf
            have hpl := bldArgs_len hb
            have hG : GoodOb ⟨kdOf k, m, s, ps⟩ := ⟨hf'.1, hw.1, all64_of fun i hi => by
              obtain ⟨gi, gi', r, h4, _⟩ := args_each n h g1 ps hb i (by have hi' : i < ps.length := hi; omega)
              exact bld_64 h4⟩
            have hR := reads_back hG g1 post
            have hO := ob_back hG g1 post
            have hle : g1.length ≤ 4000 := by omega
            rw [ldv_at (by omega) hR hl, hO]
            obtain ⟨ts, h1, h2, h3⟩ := rt_args ih hw.2 hb (wordsO ⟨kdOf k, m, s, ps⟩ ++ post) d (left - 1) (fun i hi => by have := le_maxTo (g := fun i => (arg i).deep) hi; omega) (by omega) n (Nat.le_refl _)
            rw [← List.append_assoc] at h1
            simp only
            rw [hpl, h1]
            refine ⟨.node (kindsF (kdOf k).toNat) m s ts.length (fun i => ts.getD i .none), ?_, ?_⟩
            · unfold ldNode
              rw [if_neg (by simp)]
              simp only [VT.many]
              congr 1
              push_cast
              omega
            · simp only [sameV]
              rw [q2, h2]
              simp only [beq_self_eq_true, Bool.and_self, Bool.true_and]
              rw [allTo_true]
              exact h3
          · cases e
      · cases e
/-- all words stay words -/
def B64 (t : VT) : Prop := t.wf → ∀ (h g : List Nat) (x : Nat), All64 h → t.bld h = some (g, x) → All64 g
theorem b64_args {arg : Nat → VT} (ih : ∀ i, B64 (arg i)) : ∀ (n : Nat), (∀ i, i < n → (arg i).wf) → ∀ (h g ps : List Nat), All64 h → bldArgs (fun i => (arg i).bld) n h = some (g, ps) → All64 g := by
  intro n
  induction n with
  | zero =>
    intro _ h g ps H e
    simp [bldArgs] at e
    rw [← e.1]; exact H
  | succ n ihn =>
    intro hw h g ps H e
    simp only [bldArgs] at e
    split at e
    · cases e
    · rename_i g1 ps1 h1
      split at e
      · cases e
      · rename_i g2 x h2
        injection e with e
        injection e with e1 e2
        subst e1
        exact ih n (hw n (by omega)) g1 g2 x (ihn (fun i hi => hw i (by omega)) h g1 ps1 H h1) h2
theorem b64_any : ∀ t : VT, B64 t := by
  intro t
  induction t with
  | none => intro _ h g x H e; cases e
  | node k m s n arg ih =>
    intro hw h g x H e
    simp only [VT.bld] at e
    split at e
    · injection e with e
      injection e with e1 _
      rw [← e1]; exact H
    · split at e
      · cases hb : bldArgs (fun i => (arg i).bld) n h with
        | none => rw [hb] at e; cases e
        | some p =>
          obtain ⟨g1, ps⟩ := p
          rw [hb] at e
          simp only [bldNode] at e
          split at e
          · rename_i hf
            injection e with e
            injection e with e1 _
            subst e1
            have hpl := bldArgs_len hb
            have hG : GoodOb ⟨kdOf k, m, s, ps⟩ := ⟨(fitsB_iff.1 hf).1, hw.1, all64_of fun i hi => by
              obtain ⟨gi, gi', r, h4, _⟩ := args_each n h g1 ps hb i (by have hi' : i < ps.length := hi; omega)
              exact bld_64 h4⟩
            exact (b64_args ih n hw.2 h g1 ps H hb).append (wordsO_64 hG)
          · cases e
      · cases e
end Go.Proofs.Ytkdbnkkdohkhjaa
