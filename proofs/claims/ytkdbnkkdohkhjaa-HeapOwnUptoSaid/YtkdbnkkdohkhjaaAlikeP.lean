/- Comparing words of two heaps of which one was copied: the plain facts on what was seen. -/
import Derived.Test.YtkdbnkkdohkhjaaCarryInv
namespace Go.Proofs.Ytkdbnkkdohkhjaa
open Go.RowKit
set_option linter.unusedVariables false
theorem nodup_le {l m : List Nat} (h : l.Nodup) (hs : ∀ x ∈ l, x ∈ m) : l.length ≤ m.length := by
  induction l generalizing m with
  | nil => simp
  | cons a l ih =>
    obtain ⟨h1, h2⟩ := List.nodup_cons.1 h
    have ha := hs a List.mem_cons_self
    have h3 := ih (m := m.erase a) h2 (fun x hx => by
      have hne : x ≠ a := fun e => h1 (e ▸ hx)
      exact (List.mem_erase_of_ne hne).2 (hs x (List.mem_cons_of_mem _ hx)))
    have h4 := List.length_erase_of_mem ha
    have h5 : 0 < m.length := List.length_pos_of_mem ha
    simp only [List.length_cons]
    omega
/-- the map of pairs of numbers, the newest first -/
def lookI : List (Nat × Nat) → Int → Option Int
  | [], _ => none
  | (a, p) :: l, x => if x = (a : Int) then some (p : Int) else lookI l x
theorem lookI_mem {P : List (Nat × Nat)} {x y : Int} (h : lookI P x = some y) : ∃ a p : Nat, x = a ∧ y = p ∧ (a, p) ∈ P := by
  induction P with
  | nil => cases h
  | cons z P ih =>
    obtain ⟨a, p⟩ := z
    simp only [lookI] at h
    by_cases e : x = (a : Int)
    · rw [if_pos e] at h
      injection h with h
      exact ⟨a, p, e, h.symm, List.mem_cons_self⟩
    · rw [if_neg e] at h
      obtain ⟨b, q, h1, h2, h3⟩ := ih h
      exact ⟨b, q, h1, h2, List.mem_cons_of_mem _ h3⟩
theorem lookI_some {P : List (Nat × Nat)} {a : Nat} (h : ∃ p, (a, p) ∈ P) : ∃ y, lookI P (a : Int) = some y := by
  induction P with
  | nil => obtain ⟨p, hp⟩ := h; cases hp
  | cons z P ih =>
    obtain ⟨b, q⟩ := z
    simp only [lookI]
    by_cases e : (a : Int) = (b : Int)
    · rw [if_pos e]; exact ⟨_, rfl⟩
    · rw [if_neg e]
      obtain ⟨p, hp⟩ := h
      rcases List.mem_cons.1 hp with hp | hp
      · injection hp with h1 h2
        exact absurd (by rw [h1]) e
      · exact ih ⟨p, hp⟩
def swp (P : List (Nat × Nat)) : List (Nat × Nat) := P.map fun x => (x.2, x.1)
theorem mem_swp {P : List (Nat × Nat)} {a p : Nat} : (p, a) ∈ swp P ↔ (a, p) ∈ P := by
  unfold swp
  constructor
  · intro h
    obtain ⟨⟨b, q⟩, h1, h2⟩ := List.mem_map.1 h
    injection h2 with h2 h3
    simp only at h2 h3
    subst h2 h3
    exact h1
  · intro h
    exact List.mem_map.2 ⟨(a, p), h, rfl⟩
theorem swp_cons (a p : Nat) (P : List (Nat × Nat)) : swp ((a, p) :: P) = (p, a) :: swp P := rfl
structure AlkInv (f : List Nat) (cp : List (Nat × Nat)) (wd : Nat) (P todo : List (Nat × Nat)) : Prop where
  good : ∀ a p, (a, p) ∈ P → look cp a = some p
  nodup : (P.map (·.1)).Nodup
  pair : ∀ p q, (p, q) ∈ todo → okR (p : Int) = true ∧ relP cp p q ∧ p < 18446744073709551616
  closed : ∀ a, a ∈ P.map (·.1) → ∀ p ∈ paR f a, tagOf (p : Int) = 4 → atOf p ∈ P.map (·.1) ∨ ∃ q, (p, q) ∈ todo
  start : tagOf (wd : Int) = 4 → atOf wd ∈ P.map (·.1) ∨ ∃ q, (wd, q) ∈ todo
/-- what is known of the copies -/
structure CpOk (f : List Nat) (l : List Ob) (cp : List (Nat × Nat)) : Prop where
  copy : ∀ a pl, look cp a = some pl → CopyOf f l cp a pl
  inj : ∀ a b pl, look cp a = some pl → look cp b = some pl → a = b
  okp : ∀ a pl, look cp a = some pl → ∀ p ∈ paR f a, okR (p : Int) = true
theorem AlkInv.init {f : List Nat} {cp : List (Nat × Nat)} {wd q0 : Nat} (hok : okR (wd : Int) = true) (hrel : relP cp wd q0) (hwd : wd < 18446744073709551616) : AlkInv f cp wd [] [(wd, q0)] := by
  refine ⟨fun a p h => ?_, by simp, fun p q h => ?_, fun a h => ?_, fun _ => .inr ⟨q0, List.mem_cons_self⟩⟩
  · cases h
  · rcases List.mem_cons.1 h with h | h
    · injection h with h1 h2
      subst h1 h2
      exact ⟨hok, hrel, hwd⟩
    · cases h
  · cases h
theorem AlkInv.leaf {f : List Nat} {cp : List (Nat × Nat)} {wd p q : Nat} {P rest : List (Nat × Nat)} (H : AlkInv f cp wd P ((p, q) :: rest)) (ht : tagOf (p : Int) ≠ 4) : AlkInv f cp wd P rest := by
  refine ⟨H.good, H.nodup, fun a b h => H.pair a b (List.mem_cons_of_mem _ h), fun a ha x hx h4 => ?_, fun h4 => ?_⟩
  · rcases H.closed a ha x hx h4 with h | ⟨y, h⟩
    · exact .inl h
    · rcases List.mem_cons.1 h with h | h
      · injection h with h1 h2
        subst h1
        exact absurd h4 ht
      · exact .inr ⟨y, h⟩
  · rcases H.start h4 with h | ⟨y, h⟩
    · exact .inl h
    · rcases List.mem_cons.1 h with h | h
      · injection h with h1 h2
        subst h1
        exact absurd h4 ht
      · exact .inr ⟨y, h⟩
theorem AlkInv.seen {f : List Nat} {cp : List (Nat × Nat)} {wd p q : Nat} {P rest : List (Nat × Nat)} (H : AlkInv f cp wd P ((p, q) :: rest)) (ht : atOf p ∈ P.map (·.1)) : AlkInv f cp wd P rest := by
  refine ⟨H.good, H.nodup, fun a b h => H.pair a b (List.mem_cons_of_mem _ h), fun a ha x hx h4 => ?_, fun h4 => ?_⟩
  · rcases H.closed a ha x hx h4 with h | ⟨y, h⟩
    · exact .inl h
    · rcases List.mem_cons.1 h with h | h
      · injection h with h1 h2
        subst h1
        exact .inl ht
      · exact .inr ⟨y, h⟩
  · rcases H.start h4 with h | ⟨y, h⟩
    · exact .inl h
    · rcases List.mem_cons.1 h with h | h
      · injection h with h1 h2
        subst h1
        exact .inl ht
      · exact .inr ⟨y, h⟩
theorem AlkInv.keys {f : List Nat} {l : List Ob} {cp : List (Nat × Nat)} {wd : Nat} {P todo : List (Nat × Nat)} (H : AlkInv f cp wd P todo) (C : CpOk f l cp) : P.length ≤ f.length := by
  have := nodup_le (m := List.range f.length) H.nodup (fun x hx => by
    obtain ⟨⟨a, p⟩, h1, h2⟩ := List.mem_map.1 hx
    simp only at h2
    subst h2
    exact List.mem_range.2 (C.copy a p (H.good a p h1)).reads.1)
  simpa using this
/-- the pairs of the parts -/
def zipP (xs bs : List Nat) (n : Nat) : List (Nat × Nat) := (List.range n).map fun i => (nth xs i, nth bs i)
theorem zipP_succ (xs bs : List Nat) (n : Nat) : zipP xs bs (n + 1) = zipP xs bs n ++ [(nth xs n, nth bs n)] := by simp [zipP, List.range_succ]
theorem zipP_len (xs bs : List Nat) (n : Nat) : (zipP xs bs n).length = n := by simp [zipP]
theorem zipP_mem {xs bs : List Nat} {n p q : Nat} (h : (p, q) ∈ zipP xs bs n) : ∃ i, i < n ∧ p = nth xs i ∧ q = nth bs i := by
  obtain ⟨i, h1, h2⟩ := List.mem_map.1 h
  injection h2 with h2 h3
  exact ⟨i, List.mem_range.1 h1, h2.symm, h3.symm⟩
theorem AlkInv.new {f : List Nat} {l : List Ob} {cp : List (Nat × Nat)} {wd p q n : Nat} {P rest : List (Nat × Nat)} (H : AlkInv f cp wd P ((p, q) :: rest)) (C : CpOk f l cp) (f64 : All64 f) (hl : look cp (atOf p) = some n) (hn : atOf p ∉ P.map (·.1)) (ps : List Nat)
    (hps : ps.length = (paR f (atOf p)).length) (hrel : ∀ i, i < ps.length → relP cp (nth (paR f (atOf p)) i) (nth ps i)) : AlkInv f cp wd ((atOf p, n) :: P) (rest ++ zipP (paR f (atOf p)) ps (paR f (atOf p)).length) := by
  refine ⟨fun a b h => ?_, ?_, fun a b h => ?_, fun a ha x hx h4 => ?_, fun h4 => ?_⟩
  · rcases List.mem_cons.1 h with h | h
    · injection h with h1 h2
      subst h1 h2
      exact hl
    · exact H.good a b h
  · rw [List.map_cons, List.nodup_cons]
    exact ⟨hn, H.nodup⟩
  · rcases List.mem_append.1 h with h | h
    · exact H.pair a b (List.mem_cons_of_mem _ h)
    · obtain ⟨i, hi, rfl, rfl⟩ := zipP_mem h
      have hm : nth (paR f (atOf p)) i ∈ paR f (atOf p) := by rw [nth_get hi]; exact List.getElem_mem hi
      exact ⟨C.okp _ _ hl _ hm, hrel i (by omega), pa_all f64 _ _ hm⟩
  · rw [List.map_cons] at ha ⊢
    rcases List.mem_cons.1 ha with rfl | ha
    · obtain ⟨i, hi, rfl⟩ := List.getElem_of_mem hx
      exact .inr ⟨nth ps i, List.mem_append_right _ (List.mem_map.2 ⟨i, List.mem_range.2 hi, by rw [nth_get hi]⟩)⟩
    · rcases H.closed a ha x hx h4 with h | ⟨y, h⟩
      · exact .inl (List.mem_cons_of_mem _ h)
      · rcases List.mem_cons.1 h with h | h
        · injection h with h1 h2
          subst h1
          exact .inl List.mem_cons_self
        · exact .inr ⟨y, List.mem_append_left _ h⟩
  · rw [List.map_cons]
    rcases H.start h4 with h | ⟨y, h⟩
    · exact .inl (List.mem_cons_of_mem _ h)
    · rcases List.mem_cons.1 h with h | h
      · injection h with h1 h2
        subst h1
        exact .inl List.mem_cons_self
      · exact .inr ⟨y, List.mem_append_left _ h⟩
/-- the two maps at a pair -/
theorem AlkInv.look_seen {f : List Nat} {l : List Ob} {cp : List (Nat × Nat)} {wd n m : Nat} {P todo : List (Nat × Nat)} (H : AlkInv f cp wd P todo) (C : CpOk f l cp) (hl : look cp m = some n) (hm : m ∈ P.map (·.1)) : lookI P (m : Int) = some (n : Int) ∧ lookI (swp P) (n : Int) = some (m : Int) := by
  obtain ⟨⟨a, p⟩, h1, h2⟩ := List.mem_map.1 hm
  simp only at h2
  subst h2
  have hp := H.good a p h1
  rw [hl] at hp
  injection hp with hp
  subst hp
  constructor
  · obtain ⟨y, hy⟩ := lookI_some ⟨n, h1⟩
    obtain ⟨a', p', e1, e2, h3⟩ := lookI_mem hy
    obtain rfl : a = a' := by omega
    have := H.good a p' h3
    rw [hl] at this
    injection this with this
    rw [hy, e2, this]
  · obtain ⟨y, hy⟩ := lookI_some (P := swp P) ⟨a, mem_swp.2 h1⟩
    obtain ⟨n', a', e1, e2, h3⟩ := lookI_mem hy
    obtain rfl : n = n' := by omega
    have := C.inj _ _ _ (H.good a' n (mem_swp.1 h3)) hl
    rw [hy, e2, this]
theorem AlkInv.look_new {f : List Nat} {l : List Ob} {cp : List (Nat × Nat)} {wd n m : Nat} {P todo : List (Nat × Nat)} (H : AlkInv f cp wd P todo) (C : CpOk f l cp) (hl : look cp m = some n) (hm : m ∉ P.map (·.1)) : lookI P (m : Int) = none ∧ lookI (swp P) (n : Int) = none := by
  constructor
  · cases hy : lookI P (m : Int) with
    | none => rfl
    | some y =>
      obtain ⟨a', p', e1, e2, h3⟩ := lookI_mem hy
      obtain rfl : m = a' := by omega
      exact absurd (List.mem_map.2 ⟨_, h3, rfl⟩) hm
  · cases hy : lookI (swp P) (n : Int) with
    | none => rfl
    | some y =>
      obtain ⟨n', a', e1, e2, h3⟩ := lookI_mem hy
      obtain rfl : n = n' := by omega
      have h4 := mem_swp.1 h3
      have := C.inj _ _ _ (H.good a' n h4) hl
      subst this
      exact absurd (List.mem_map.2 ⟨_, h4, rfl⟩) hm
/-- at the end: all that was seen is all that is meant -/
theorem AlkInv.done {f : List Nat} {cp : List (Nat × Nat)} {wd : Nat} {P : List (Nat × Nat)} (H : AlkInv f cp wd P []) : ClosedD f (fun a => a ∈ P.map (·.1)) ∧ (tagOf (wd : Int) = 4 → atOf wd ∈ P.map (·.1)) := by
  constructor
  · intro b hb p hp h4
    rcases H.closed b hb p hp h4 with h | ⟨q, h⟩
    · exact h
    · cases h
  · intro h4
    rcases H.start h4 with h | ⟨q, h⟩
    · exact h
    · cases h
theorem mem_of_look {l : List (Nat × Nat)} {a : Nat} (h : a ∈ l.map (·.1)) : ∃ p, look l a = some p := by
  induction l with
  | nil => cases h
  | cons x l ih =>
    obtain ⟨b, p⟩ := x
    simp only [look]
    by_cases e : a = b
    · rw [if_pos e]; exact ⟨p, rfl⟩
    · rw [if_neg e]
      rcases List.mem_cons.1 h with h | h
      · exact absurd h e
      · exact ih h
/-- as many were seen as were copied -/
theorem seen_count {f t : List Nat} {wd q : Nat} {st : CS} {P : List (Nat × Nat)} (e : carW f 40 wd ⟨t, [], []⟩ = some (q, st)) (H : AlkInv f st.cp wd P []) : P.length = st.cp.length := by
  have hc0 : ClosedS f ⟨t, [], []⟩ := fun b hb => absurd rfl hb
  have hnd := carW_nodup 40 wd _ q st hc0 (by simp) e
  obtain ⟨hD, hs⟩ := H.done
  have h1 : P.length ≤ st.cp.length := by
    have := nodup_le (m := st.cp.map (·.1)) H.nodup (fun x hx => by
      obtain ⟨⟨a, p⟩, h1, h2⟩ := List.mem_map.1 hx
      simp only at h2
      subst h2
      exact List.mem_map.2 ⟨_, look_mem (H.good a p h1), rfl⟩)
    simpa using this
  have h2 : st.cp.length ≤ P.length := by
    have := nodup_le (m := P.map (·.1)) hnd (fun x hx => by
      obtain ⟨p, hp⟩ := mem_of_look hx
      rcases carW_reach (D := fun a => a ∈ P.map (·.1)) hD 40 wd _ q st hs e x (by unfold Has; rw [hp]; simp) with h | h
      · exact absurd rfl h
      · exact h)
    simpa using this
  omega
end Go.Proofs.Ytkdbnkkdohkhjaa
