/- Comparing words of two heaps of which one was copied: the plain facts on what was seen. What a word reaches in a heap: the plain facts of a search. What a carried word leaves: the plain facts, all in one. What is read of a copy is what is read of the original. Cells that were carried: the plain facts on the heap they left and on the copies. A queue of pairs of words: cut in front, appended behind, also in a region that draws its order. A queue of words: cut in front or at the end, a row of words appended behind. Maps from numbers to numbers that a call makes, with their exact size. Sets of numbers that a call makes: maps to Booleans, all true, with their exact size. slices.Sort over a row of ints of the call's own. carry.Cells. roadref3.Reached where all that is reached reads. roadref3.Begins, and roadkeep3.apart. The calls of the laws of carry in one form each: what they answer, whether it is an error or not. The walk of the law CarryGoes. -/
import Derived.Test.YtmpeckjemgenbaaCarryInv
import Derived.Test.YtmpeckjemgenbaaHeapLdPlain
import Derived.Test.YtmpeckjemgenbaaCarryWord
import Derived.Test.YtmpeckjemgenbaaCarryOver
import Derived.Test.YtmpeckjemgenbaaQueue
import Derived.Test.YtmpeckjemgenbaaU64
import Derived.Deep.RegionLawGrows
import Derived.Test.YtmpeckjemgenbaaCutU
import Derived.Deep.Upon
import Derived.Test.YtmpeckjemgenbaaMapU
import Derived.Maps.RangeWalk
import Derived.Test.YtmpeckjemgenbaaInts
import Derived.Test.YtmpeckjemgenbaaSort
import Derived.Sort.OwnSortedInts
import Derived.Test.YtmpeckjemgenbaaObjAt
import Derived.Test.YtmpeckjemgenbaaTagRead
import Derived.Test.YtmpeckjemgenbaaHeapObjs
import Derived.Test.YtmpeckjemgenbaaCarries
import Derived.Test.YtmpeckjemgenbaaHeapLd
import Derived.Test.YtmpeckjemgenbaaSameV
import Derived.Test.YtmpeckjemgenbaaHeapOpen
namespace Go.Proofs.Ytmpeckjemgenbaa
open Go.RowKit
set_option linter.unusedVariables false
theorem nodup_le {l m : List Nat} (h : l.Nodup) (hs : ∀ x ∈ l, x ∈ m) : l.length ≤ m.length := by
  induction l generalizing m with
  | nil => simp
  | cons a l ih =>
    obtain ⟨h1, h2⟩ := List.nodup_cons.1 h
    have ha := hs a List.mem_cons_self
    have h3 := ih (m := m.erase a) h2 (fun x hx => by
      have hne : x ≠ a := fun e => h1 (e ▸ hx)
      exact (List.mem_erase_of_ne hne).2 (hs x (List.mem_cons_of_mem _ hx)))
    have h4 := List.length_erase_of_mem ha
    have h5 : 0 < m.length := List.length_pos_of_mem ha
    simp only [List.length_cons]
    omega
/-- the map of pairs of numbers, the newest first -/
def lookI : List (Nat × Nat) → Int → Option Int
  | [], _ => none
  | (a, p) :: l, x => if x = (a : Int) then some (p : Int) else lookI l x
theorem lookI_mem {P : List (Nat × Nat)} {x y : Int} (h : lookI P x = some y) : ∃ a p : Nat, x = a ∧ y = p ∧ (a, p) ∈ P := by
  induction P with
  | nil => cases h
  | cons z P ih =>
    obtain ⟨a, p⟩ := z
    simp only [lookI] at h
    by_cases e : x = (a : Int)
    · rw [if_pos e] at h
      injection h with h
      exact ⟨a, p, e, h.symm, List.mem_cons_self⟩
    · rw [if_neg e] at h
      obtain ⟨b, q, h1, h2, h3⟩ := ih h
      exact ⟨b, q, h1, h2, List.mem_cons_of_mem _ h3⟩
theorem lookI_some {P : List (Nat × Nat)} {a : Nat} (h : ∃ p, (a, p) ∈ P) : ∃ y, lookI P (a : Int) = some y := by
  induction P with
  | nil => obtain ⟨p, hp⟩ := h; cases hp
  | cons z P ih =>
    obtain ⟨b, q⟩ := z
    simp only [lookI]
    by_cases e : (a : Int) = (b : Int)
    · rw [if_pos e]; exact ⟨_, rfl⟩
    · rw [if_neg e]
      obtain ⟨p, hp⟩ := h
      rcases List.mem_cons.1 hp with hp | hp
      · injection hp with h1 h2
        exact absurd (by rw [h1]) e
      · exact ih ⟨p, hp⟩
def swp (P : List (Nat × Nat)) : List (Nat × Nat) := P.map fun x => (x.2, x.1)
theorem mem_swp {P : List (Nat × Nat)} {a p : Nat} : (p, a) ∈ swp P ↔ (a, p) ∈ P := by
  unfold swp
  constructor
  · intro h
    obtain ⟨⟨b, q⟩, h1, h2⟩ := List.mem_map.1 h
    injection h2 with h2 h3
    simp only at h2 h3
    subst h2 h3
    exact h1
  · intro h
    exact List.mem_map.2 ⟨(a, p), h, rfl⟩
theorem swp_cons (a p : Nat) (P : List (Nat × Nat)) : swp ((a, p) :: P) = (p, a) :: swp P := rfl
structure AlkInv (f : List Nat) (cp : List (Nat × Nat)) (wd : Nat) (P todo : List (Nat × Nat)) : Prop where
  good : ∀ a p, (a, p) ∈ P → look cp a = some p
  nodup : (P.map (·.1)).Nodup
  pair : ∀ p q, (p, q) ∈ todo → okR (p : Int) = true ∧ relP cp p q ∧ p < 18446744073709551616
  closed : ∀ a, a ∈ P.map (·.1) → ∀ p ∈ paR f a, tagOf (p : Int) = 4 → atOf p ∈ P.map (·.1) ∨ ∃ q, (p, q) ∈ todo
  start : tagOf (wd : Int) = 4 → atOf wd ∈ P.map (·.1) ∨ ∃ q, (wd, q) ∈ todo
/-- what is known of the copies -/
structure CpOk (f : List Nat) (l : List Ob) (cp : List (Nat × Nat)) : Prop where
  copy : ∀ a pl, look cp a = some pl → CopyOf f l cp a pl
  inj : ∀ a b pl, look cp a = some pl → look cp b = some pl → a = b
  okp : ∀ a pl, look cp a = some pl → ∀ p ∈ paR f a, okR (p : Int) = true
theorem AlkInv.init {f : List Nat} {cp : List (Nat × Nat)} {wd q0 : Nat} (hok : okR (wd : Int) = true) (hrel : relP cp wd q0) (hwd : wd < 18446744073709551616) : AlkInv f cp wd [] [(wd, q0)] := by
  refine ⟨fun a p h => ?_, by simp, fun p q h => ?_, fun a h => ?_, fun _ => .inr ⟨q0, List.mem_cons_self⟩⟩
  · cases h
  · rcases List.mem_cons.1 h with h | h
    · injection h with h1 h2
      subst h1 h2
      exact ⟨hok, hrel, hwd⟩
    · cases h
  · cases h
theorem AlkInv.leaf {f : List Nat} {cp : List (Nat × Nat)} {wd p q : Nat} {P rest : List (Nat × Nat)} (H : AlkInv f cp wd P ((p, q) :: rest)) (ht : tagOf (p : Int) ≠ 4) : AlkInv f cp wd P rest := by
  refine ⟨H.good, H.nodup, fun a b h => H.pair a b (List.mem_cons_of_mem _ h), fun a ha x hx h4 => ?_, fun h4 => ?_⟩
  · rcases H.closed a ha x hx h4 with h | ⟨y, h⟩
    · exact .inl h
    · rcases List.mem_cons.1 h with h | h
      · injection h with h1 h2
        subst h1
        exact absurd h4 ht
      · exact .inr ⟨y, h⟩
  · rcases H.start h4 with h | ⟨y, h⟩
    · exact .inl h
    · rcases List.mem_cons.1 h with h | h
      · injection h with h1 h2
        subst h1
        exact absurd h4 ht
      · exact .inr ⟨y, h⟩
theorem AlkInv.seen {f : List Nat} {cp : List (Nat × Nat)} {wd p q : Nat} {P rest : List (Nat × Nat)} (H : AlkInv f cp wd P ((p, q) :: rest)) (ht : atOf p ∈ P.map (·.1)) : AlkInv f cp wd P rest := by
  refine ⟨H.good, H.nodup, fun a b h => H.pair a b (List.mem_cons_of_mem _ h), fun a ha x hx h4 => ?_, fun h4 => ?_⟩
  · rcases H.closed a ha x hx h4 with h | ⟨y, h⟩
    · exact .inl h
    · rcases List.mem_cons.1 h with h | h
      · injection h with h1 h2
        subst h1
        exact .inl ht
      · exact .inr ⟨y, h⟩
  · rcases H.start h4 with h | ⟨y, h⟩
    · exact .inl h
    · rcases List.mem_cons.1 h with h | h
      · injection h with h1 h2
        subst h1
        exact .inl ht
      · exact .inr ⟨y, h⟩
theorem AlkInv.keys {f : List Nat} {l : List Ob} {cp : List (Nat × Nat)} {wd : Nat} {P todo : List (Nat × Nat)} (H : AlkInv f cp wd P todo) (C : CpOk f l cp) : P.length ≤ f.length := by
  have := nodup_le (m := List.range f.length) H.nodup (fun x hx => by
    obtain ⟨⟨a, p⟩, h1, h2⟩ := List.mem_map.1 hx
    simp only at h2
    subst h2
    exact List.mem_range.2 (C.copy a p (H.good a p h1)).reads.1)
  simpa using this
/-- the pairs of the parts -/
def zipP (xs bs : List Nat) (n : Nat) : List (Nat × Nat) := (List.range n).map fun i => (nth xs i, nth bs i)
theorem zipP_succ (xs bs : List Nat) (n : Nat) : zipP xs bs (n + 1) = zipP xs bs n ++ [(nth xs n, nth bs n)] := by simp [zipP, List.range_succ]
theorem zipP_len (xs bs : List Nat) (n : Nat) : (zipP xs bs n).length = n := by simp [zipP]
theorem zipP_mem {xs bs : List Nat} {n p q : Nat} (h : (p, q) ∈ zipP xs bs n) : ∃ i, i < n ∧ p = nth xs i ∧ q = nth bs i := by
  obtain ⟨i, h1, h2⟩ := List.mem_map.1 h
  injection h2 with h2 h3
  exact ⟨i, List.mem_range.1 h1, h2.symm, h3.symm⟩
theorem AlkInv.new {f : List Nat} {l : List Ob} {cp : List (Nat × Nat)} {wd p q n : Nat} {P rest : List (Nat × Nat)} (H : AlkInv f cp wd P ((p, q) :: rest)) (C : CpOk f l cp) (f64 : All64 f) (hl : look cp (atOf p) = some n) (hn : atOf p ∉ P.map (·.1)) (ps : List Nat)
    (hps : ps.length = (paR f (atOf p)).length) (hrel : ∀ i, i < ps.length → relP cp (nth (paR f (atOf p)) i) (nth ps i)) : AlkInv f cp wd ((atOf p, n) :: P) (rest ++ zipP (paR f (atOf p)) ps (paR f (atOf p)).length) := by
  refine ⟨fun a b h => ?_, ?_, fun a b h => ?_, fun a ha x hx h4 => ?_, fun h4 => ?_⟩
  · rcases List.mem_cons.1 h with h | h
    · injection h with h1 h2
      subst h1 h2
      exact hl
    · exact H.good a b h
  · rw [List.map_cons, List.nodup_cons]
    exact ⟨hn, H.nodup⟩
  · rcases List.mem_append.1 h with h | h
    · exact H.pair a b (List.mem_cons_of_mem _ h)
    · obtain ⟨i, hi, rfl, rfl⟩ := zipP_mem h
      have hm : nth (paR f (atOf p)) i ∈ paR f (atOf p) := by rw [nth_get hi]; exact List.getElem_mem hi
      exact ⟨C.okp _ _ hl _ hm, hrel i (by omega), pa_all f64 _ _ hm⟩
  · rw [List.map_cons] at ha ⊢
    rcases List.mem_cons.1 ha with rfl | ha
    · obtain ⟨i, hi, rfl⟩ := List.getElem_of_mem hx
      exact .inr ⟨nth ps i, List.mem_append_right _ (List.mem_map.2 ⟨i, List.mem_range.2 hi, by rw [nth_get hi]⟩)⟩
    · rcases H.closed a ha x hx h4 with h | ⟨y, h⟩
      · exact .inl (List.mem_cons_of_mem _ h)
      · rcases List.mem_cons.1 h with h | h
        · injection h with h1 h2
          subst h1
          exact .inl List.mem_cons_self
        · exact .inr ⟨y, List.mem_append_left _ h⟩
  · rw [List.map_cons]
    rcases H.start h4 with h | ⟨y, h⟩
    · exact .inl (List.mem_cons_of_mem _ h)
    · rcases List.mem_cons.1 h with h | h
      · injection h with h1 h2
        subst h1
        exact .inl List.mem_cons_self
      · exact .inr ⟨y, List.mem_append_left _ h⟩
/-- the two maps at a pair -/
theorem AlkInv.look_seen {f : List Nat} {l : List Ob} {cp : List (Nat × Nat)} {wd n m : Nat} {P todo : List (Nat × Nat)} (H : AlkInv f cp wd P todo) (C : CpOk f l cp) (hl : look cp m = some n) (hm : m ∈ P.map (·.1)) : lookI P (m : Int) = some (n : Int) ∧ lookI (swp P) (n : Int) = some (m : Int) := by
  obtain ⟨⟨a, p⟩, h1, h2⟩ := List.mem_map.1 hm
  simp only at h2
  subst h2
  have hp := H.good a p h1
  rw [hl] at hp
  injection hp with hp
  subst hp
  constructor
  · obtain ⟨y, hy⟩ := lookI_some ⟨n, h1⟩
    obtain ⟨a', p', e1, e2, h3⟩ := lookI_mem hy
    obtain rfl : a = a' := by omega
    have := H.good a p' h3
    rw [hl] at this
    injection this with this
    rw [hy, e2, this]
  · obtain ⟨y, hy⟩ := lookI_some (P := swp P) ⟨a, mem_swp.2 h1⟩
    obtain ⟨n', a', e1, e2, h3⟩ := lookI_mem hy
    obtain rfl : n = n' := by omega
    have := C.inj _ _ _ (H.good a' n (mem_swp.1 h3)) hl
    rw [hy, e2, this]
theorem AlkInv.look_new {f : List Nat} {l : List Ob} {cp : List (Nat × Nat)} {wd n m : Nat} {P todo : List (Nat × Nat)} (H : AlkInv f cp wd P todo) (C : CpOk f l cp) (hl : look cp m = some n) (hm : m ∉ P.map (·.1)) : lookI P (m : Int) = none ∧ lookI (swp P) (n : Int) = none := by
  constructor
  · cases hy : lookI P (m : Int) with
    | none => rfl
    | some y =>
      obtain ⟨a', p', e1, e2, h3⟩ := lookI_mem hy
      obtain rfl : m = a' := by omega
      exact absurd (List.mem_map.2 ⟨_, h3, rfl⟩) hm
  · cases hy : lookI (swp P) (n : Int) with
    | none => rfl
    | some y =>
      obtain ⟨n', a', e1, e2, h3⟩ := lookI_mem hy
      obtain rfl : n = n' := by omega
      have h4 := mem_swp.1 h3
      have := C.inj _ _ _ (H.good a' n h4) hl
      subst this
      exact absurd (List.mem_map.2 ⟨_, h4, rfl⟩) hm
/-- at the end: all that was seen is all that is meant -/
theorem AlkInv.done {f : List Nat} {cp : List (Nat × Nat)} {wd : Nat} {P : List (Nat × Nat)} (H : AlkInv f cp wd P []) : ClosedD f (fun a => a ∈ P.map (·.1)) ∧ (tagOf (wd : Int) = 4 → atOf wd ∈ P.map (·.1)) := by
  constructor
  · intro b hb p hp h4
    rcases H.closed b hb p hp h4 with h | ⟨q, h⟩
    · exact h
    · cases h
  · intro h4
    rcases H.start h4 with h | ⟨q, h⟩
    · exact h
    · cases h
theorem mem_of_look {l : List (Nat × Nat)} {a : Nat} (h : a ∈ l.map (·.1)) : ∃ p, look l a = some p := by
  induction l with
  | nil => cases h
  | cons x l ih =>
    obtain ⟨b, p⟩ := x
    simp only [look]
    by_cases e : a = b
    · rw [if_pos e]; exact ⟨p, rfl⟩
    · rw [if_neg e]
      rcases List.mem_cons.1 h with h | h
      · exact absurd h e
      · exact ih h
/-- as many were seen as were copied -/
theorem seen_count {f t : List Nat} {wd q : Nat} {st : CS} {P : List (Nat × Nat)} (e : carW f 40 wd ⟨t, [], []⟩ = some (q, st)) (H : AlkInv f st.cp wd P []) : P.length = st.cp.length := by
  have hc0 : ClosedS f ⟨t, [], []⟩ := fun b hb => absurd rfl hb
  have hnd := carW_nodup 40 wd _ q st hc0 (by simp) e
  obtain ⟨hD, hs⟩ := H.done
  have h1 : P.length ≤ st.cp.length := by
    have := nodup_le (m := st.cp.map (·.1)) H.nodup (fun x hx => by
      obtain ⟨⟨a, p⟩, h1, h2⟩ := List.mem_map.1 hx
      simp only at h2
      subst h2
      exact List.mem_map.2 ⟨_, look_mem (H.good a p h1), rfl⟩)
    simpa using this
  have h2 : st.cp.length ≤ P.length := by
    have := nodup_le (m := P.map (·.1)) hnd (fun x hx => by
      obtain ⟨p, hp⟩ := mem_of_look hx
      rcases carW_reach (D := fun a => a ∈ P.map (·.1)) hD 40 wd _ q st hs e x (by unfold Has; rw [hp]; simp) with h | h
      · exact absurd rfl h
      · exact h)
    simpa using this
  omega
end Go.Proofs.Ytmpeckjemgenbaa
namespace Go.Proofs.Ytmpeckjemgenbaa
open Go.RowKit
set_option linter.unusedVariables false
/-- a set of objects that holds what a word means, and all that its members mean -/
structure GoodD (f : List Nat) (wd : Nat) (D : Nat → Prop) : Prop where
  ok : okR (wd : Int) = true
  start : tagOf (wd : Int) = 4 → D (atOf wd)
  reads : ∀ a, D a → ReadsOb f a
  parts : ∀ a, D a → ∀ p ∈ paR f a, okR (p : Int) = true ∧ (tagOf (p : Int) = 4 → D (atOf p))
theorem GoodD.closed {f : List Nat} {wd : Nat} {D : Nat → Prop} (h : GoodD f wd D) : ClosedD f D := fun b hb p hp ht => (h.parts b hb p hp).2 ht
structure RInv (f : List Nat) (wd : Nat) (V q : List Nat) : Prop where
  nodup : V.Nodup
  reads : ∀ a, a ∈ V → ReadsOb f a
  parts : ∀ a, a ∈ V → ∀ p ∈ paR f a, (okR (p : Int) = true ∧ (tagOf (p : Int) = 4 → atOf p ∈ V)) ∨ p ∈ q
  start : (okR (wd : Int) = true ∧ (tagOf (wd : Int) = 4 → atOf wd ∈ V)) ∨ wd ∈ q
  reach : ∀ D, GoodD f wd D → (∀ a, a ∈ V → D a) ∧ ∀ p ∈ q, okR (p : Int) = true ∧ (tagOf (p : Int) = 4 → D (atOf p))
  u64 : ∀ p ∈ q, p < 18446744073709551616
theorem RInv.init {f : List Nat} {wd : Nat} (h : wd < 18446744073709551616) : RInv f wd [] [wd] :=
  ⟨List.nodup_nil, (fun a h => by cases h), (fun a h => by cases h), .inr List.mem_cons_self, fun D hD => ⟨(fun a h => by cases h), fun p hp => by
    obtain rfl : p = wd := by simpa using hp
    exact ⟨hD.ok, hD.start⟩⟩, fun p hp => by
    obtain rfl : p = wd := by simpa using hp
    exact h⟩
theorem RInv.drop {f : List Nat} {wd : Nat} {V q q' : List Nat} (H : RInv f wd V q) (p : Nat) (h1 : ∀ x ∈ q, x = p ∨ x ∈ q') (h2 : ∀ x ∈ q', x ∈ q) (hok : okR (p : Int) = true) (hat : tagOf (p : Int) = 4 → atOf p ∈ V) : RInv f wd V q' := by
  refine ⟨H.nodup, H.reads, fun a ha x hx => ?_, ?_, fun D hD => ⟨(H.reach D hD).1, fun x hx => (H.reach D hD).2 x (h2 x hx)⟩, fun x hx => H.u64 x (h2 x hx)⟩
  · rcases H.parts a ha x hx with h | h
    · exact .inl h
    · rcases h1 x h with rfl | h
      · exact .inl ⟨hok, hat⟩
      · exact .inr h
  · rcases H.start with h | h
    · exact .inl h
    · rcases h1 wd h with rfl | h
      · exact .inl ⟨hok, hat⟩
      · exact .inr h
theorem RInv.new {f : List Nat} {wd : Nat} {V q q' : List Nat} (H : RInv f wd V q) (f64 : All64 f) (p : Nat) (hp : p ∈ q) (h1 : ∀ x ∈ q, x = p ∨ x ∈ q') (h2 : ∀ x ∈ q', x ∈ q) (hok : okR (p : Int) = true) (ht : tagOf (p : Int) = 4) (hn : atOf p ∉ V) (hr : ReadsOb f (atOf p)) : RInv f wd (atOf p :: V) (q' ++ paR f (atOf p)) := by
  refine ⟨List.nodup_cons.2 ⟨hn, H.nodup⟩, fun a ha => ?_, fun a ha x hx => ?_, ?_, fun D hD => ⟨fun a ha => ?_, fun x hx => ?_⟩, fun x hx => ?_⟩
  · rcases List.mem_cons.1 ha with rfl | ha
    · exact hr
    · exact H.reads a ha
  · rcases List.mem_cons.1 ha with rfl | ha
    · exact .inr (List.mem_append_right _ hx)
    · rcases H.parts a ha x hx with h | h
      · exact .inl ⟨h.1, fun h4 => List.mem_cons_of_mem _ (h.2 h4)⟩
      · rcases h1 x h with rfl | h
        · exact .inl ⟨hok, fun _ => List.mem_cons_self⟩
        · exact .inr (List.mem_append_left _ h)
  · rcases H.start with h | h
    · exact .inl ⟨h.1, fun h4 => List.mem_cons_of_mem _ (h.2 h4)⟩
    · rcases h1 wd h with rfl | h
      · exact .inl ⟨hok, fun _ => List.mem_cons_self⟩
      · exact .inr (List.mem_append_left _ h)
  · rcases List.mem_cons.1 ha with rfl | ha
    · exact ((H.reach D hD).2 p hp).2 ht
    · exact (H.reach D hD).1 a ha
  · rcases List.mem_append.1 hx with hx | hx
    · exact (H.reach D hD).2 x (h2 x hx)
    · exact hD.parts _ (((H.reach D hD).2 p hp).2 ht) x hx
  · rcases List.mem_append.1 hx with hx | hx
    · exact H.u64 x (h2 x hx)
    · exact pa_all f64 _ x hx
theorem RInv.len {f : List Nat} {wd : Nat} {V q : List Nat} (H : RInv f wd V q) : V.length ≤ f.length := by
  have := nodup_le (m := List.range f.length) H.nodup (fun x hx => List.mem_range.2 (H.reads x hx).1)
  simpa using this
/-- at the end the set is good -/
theorem RInv.done {f : List Nat} {wd : Nat} {V : List Nat} (H : RInv f wd V []) : GoodD f wd (fun a => a ∈ V) := by
  refine ⟨?_, fun ht => ?_, H.reads, fun a ha p hp => ?_⟩
  · rcases H.start with h | h
    · exact h.1
    · cases h
  · rcases H.start with h | h
    · exact h.2 ht
    · cases h
  · rcases H.parts a ha p hp with h | h
    · exact h
    · cases h
/-- the cells that were seen, in their order -/
def cellsV (f : List Nat) (V : List Nat) : List Int := (V.filter fun a => kdR f a == 5).reverse.map fun (a : Nat) => (a : Int)
theorem cellsV_nil (f : List Nat) : cellsV f [] = [] := rfl
theorem cellsV_yes {f : List Nat} {a : Nat} (V : List Nat) (h : kdR f a = 5) : cellsV f (a :: V) = cellsV f V ++ [(a : Int)] := by
  unfold cellsV
  rw [List.filter_cons_of_pos (by simpa using h)]
  simp
theorem cellsV_no {f : List Nat} {a : Nat} (V : List Nat) (h : kdR f a ≠ 5) : cellsV f (a :: V) = cellsV f V := by
  unfold cellsV
  rw [List.filter_cons_of_neg (by simpa using h)]
theorem cellsV_len (f : List Nat) (V : List Nat) : (cellsV f V).length ≤ V.length := by
  unfold cellsV
  rw [List.length_map, List.length_reverse]
  exact List.length_filter_le _ _
theorem cellsV_mem {f : List Nat} {V : List Nat} {a : Nat} : ((a : Nat) : Int) ∈ cellsV f V ↔ a ∈ V ∧ kdR f a = 5 := by
  unfold cellsV
  rw [List.mem_map]
  constructor
  · rintro ⟨b, h1, h2⟩
    obtain rfl : b = a := by omega
    rw [List.mem_reverse, List.mem_filter] at h1
    exact ⟨h1.1, by simpa using h1.2⟩
  · rintro ⟨h1, h2⟩
    exact ⟨a, by rw [List.mem_reverse, List.mem_filter]; exact ⟨h1, by simpa using h2⟩, rfl⟩
end Go.Proofs.Ytmpeckjemgenbaa
namespace Go.Proofs.Ytmpeckjemgenbaa
open Go.RowKit
set_option linter.unusedVariables false
theorem inv_start {f t : List Nat} {was : List Ob} (h : ObsOf t was) : InvS f was ⟨t, [], []⟩ [] :=
  ⟨by rw [List.append_nil]; exact h, rfl, fun a pl h => by simp [look] at h, fun a b pl h => by simp [look] at h⟩
theorem okS_start {f t : List Nat} (h : t.length ≤ 4000) (h64 : All64 t) : OkS f ⟨t, [], []⟩ :=
  ⟨h, h64, by simp, (fun a p h => by cases h), (fun a h => by cases h), by simp⟩
/-- what a carried word leaves, all in one -/
theorem carried {f t : List Nat} {was : List Ob} {wd q : Nat} {st : CS} (hO : ObsOf t was) (ht4 : t.length ≤ 4000) (f64 : All64 f) (t64 : All64 t) (hwd : wd < 18446744073709551616) (e : carW f 40 wd ⟨t, [], []⟩ = some (q, st)) :
    okR (wd : Int) = true ∧ relP st.cp wd q ∧ OkS f st ∧ q < 18446744073709551616 ∧ ∃ more, ObsOf st.to (was ++ more) ∧ more.length = st.cp.length ∧ CpOk f (was ++ more) st.cp := by
  have hc0 : ClosedS f ⟨t, [], []⟩ := fun b hb => absurd rfl hb
  have hk0 := okS_start (f := f) ht4 t64
  obtain ⟨_, hr, hi⟩ := carW_inv (was := was) f64 40 wd _ q st hwd hk0 hc0 e
  obtain ⟨more, H⟩ := hi [] (inv_start hO)
  rw [List.nil_append] at H
  have hl := carW_left 40 wd _ q st e
  obtain ⟨hok, hq⟩ := carW_ok f64 40 wd _ q st hwd hk0 e
  refine ⟨hl.ok, hr, hok, hq, more, H.obs, H.len, H.copy, H.inj, fun a pl h p hp => ((hl.closed hc0) a (by unfold Has; rw [h]; simp) p hp).1⟩
/-- the objects that were copied are a good set -/
theorem has_good {f t : List Nat} {was : List Ob} {wd q : Nat} {st : CS} (hO : ObsOf t was) (ht4 : t.length ≤ 4000) (f64 : All64 f) (t64 : All64 t) (hwd : wd < 18446744073709551616) (e : carW f 40 wd ⟨t, [], []⟩ = some (q, st)) : GoodD f wd (Has st) := by
  obtain ⟨hok, _, _, _, more, _, _, hcp⟩ := carried hO ht4 f64 t64 hwd e
  have hc0 : ClosedS f ⟨t, [], []⟩ := fun b hb => absurd rfl hb
  have hl := carW_left 40 wd _ q st e
  refine ⟨hok, hl.has, fun a ha => ?_, fun a ha p hp => (hl.closed hc0) a ha p hp⟩
  cases h : look st.cp a with
  | none => exact absurd h ha
  | some pl => exact (hcp.copy a pl h).reads
/-- what is reached is what was copied -/
theorem reach_has {f t : List Nat} {was : List Ob} {wd q : Nat} {st : CS} {V : List Nat} (hO : ObsOf t was) (ht4 : t.length ≤ 4000) (f64 : All64 f) (t64 : All64 t) (hwd : wd < 18446744073709551616) (e : carW f 40 wd ⟨t, [], []⟩ = some (q, st)) (H : RInv f wd V []) (a : Nat) : a ∈ V ↔ Has st a := by
  constructor
  · exact (H.reach _ (has_good hO ht4 f64 t64 hwd e)).1 a
  · intro ha
    rcases carW_reach (D := fun a => a ∈ V) H.done.closed 40 wd _ q st H.done.start e a ha with h | h
    · exact absurd rfl h
    · exact h
/-- the cells that are emptied -/
def CellS (f : List Nat) (st : CS) : Prop := ∀ a, a ∈ st.cells ↔ Has st a ∧ (obR f a).kind = 5 ∧ 0 < (paR f a).length
theorem carL_cells {f : List Nat} {g : Nat → CS → Option (Nat × CS)} (hg : ∀ w st q st1, g w st = some (q, st1) → CellS f st → CellS f st1) : ∀ (l : List Nat) (st : CS) (qs : List Nat) (st1 : CS), carL g l st = some (qs, st1) → CellS f st → CellS f st1 := by
  intro l
  induction l with
  | nil =>
    intro st qs st1 e
    simp only [carL, Option.some.injEq, Prod.mk.injEq] at e
    obtain ⟨rfl, rfl⟩ := e
    exact id
  | cons a l ih =>
    intro st qs st1 e
    simp only [carL] at e
    cases e1 : g a st with
    | none => rw [e1] at e; cases e
    | some x =>
      obtain ⟨q, st2⟩ := x
      rw [e1] at e
      dsimp only at e
      cases e2 : carL g l st2 with
      | none => rw [e2] at e; cases e
      | some y =>
        obtain ⟨qs2, st3⟩ := y
        rw [e2] at e
        simp only [Option.some.injEq, Prod.mk.injEq] at e
        obtain ⟨rfl, rfl⟩ := e
        exact fun h => ih st2 qs2 st3 e2 (hg a st q st2 e1 h)
theorem stepC_cells {f : List Nat} {g : List Nat → CS → Option (List Nat × CS)} (hg : ∀ l st qs st1, g l st = some (qs, st1) → (CellS f st → CellS f st1) ∧ qs.length = l.length) (w : Nat) (st : CS) (q : Nat) (st1 : CS) (e : stepC f g w st = some (q, st1)) : CellS f st → CellS f st1 := by
  obtain ⟨hok, ⟨ht, rfl, rfl⟩ | ⟨ht, p, hp, rfl, rfl⟩ | ⟨ht, hn, hr, qs, st2, hgl, rfl, rfl, _⟩⟩ := stepC_cases e
  · exact id
  · exact id
  · intro h
    obtain ⟨h1, h2⟩ := hg _ _ _ _ hgl
    have h3 := h1 h
    intro a
    rw [has_add]
    show (a ∈ (if (obR f (atOf w)).kind = 5 ∧ 0 < qs.length then st2.cells ++ [atOf w] else st2.cells)) ↔ _
    rw [h2]
    by_cases hc : (obR f (atOf w)).kind = 5 ∧ 0 < (paR f (atOf w)).length
    · rw [if_pos hc, List.mem_append, h3 a]
      constructor
      · rintro (⟨k1, k2⟩ | k)
        · exact ⟨.inr k1, k2⟩
        · obtain rfl : a = atOf w := by simpa using k
          exact ⟨.inl rfl, hc⟩
      · rintro ⟨rfl | k1, k2⟩
        · exact .inr (by simp)
        · exact .inl ⟨k1, k2⟩
    · rw [if_neg hc, h3 a]
      constructor
      · rintro ⟨k1, k2⟩
        exact ⟨.inr k1, k2⟩
      · rintro ⟨rfl | k1, k2⟩
        · exact absurd k2 hc
        · exact ⟨k1, k2⟩
theorem carW_cells {f : List Nat} : ∀ (r w : Nat) (st : CS) (q : Nat) (st1 : CS), carW f r w st = some (q, st1) → CellS f st → CellS f st1 := by
  intro r
  induction r with
  | zero => intro w st q st1 e; exact stepC_cells (fun _ _ _ _ he => by cases he) w st q st1 e
  | succ r ih => intro w st q st1 e; exact stepC_cells (fun l st qs st1 he => ⟨carL_cells ih l st qs st1 he, carL_len he⟩) w st q st1 e
theorem cells_start {f t : List Nat} : CellS f ⟨t, [], []⟩ := fun a => ⟨fun h => (by cases h), fun h => absurd rfl h.1⟩
end Go.Proofs.Ytmpeckjemgenbaa
namespace Go.Proofs.Ytmpeckjemgenbaa
open Go.RowKit
set_option linter.unusedVariables false
theorem ldArgs_congr {F G : Nat → Int → LdR} {ps qs : List Nat} {left : Int} : ∀ (n : Nat), (∀ i, i < n → ∀ z, F (nth ps i) z = G (nth qs i) z) → ldArgs F ps left n = ldArgs G qs left n := by
  intro n
  induction n with
  | zero => intro _; rfl
  | succ n ih =>
    intro h
    have e := ih (fun i hi => h i (by omega))
    simp only [ldArgs, e, h n (by omega)]
theorem leafB_at {x : Nat} (ht : tagOf (x : Int) = 4) : leafB (x : Int) = false := by
  unfold leafB
  rw [ht]
  simp
theorem leafB_not {x : Nat} (hok : okR (x : Int) = true) (ht : tagOf (x : Int) ≠ 4) : leafB (x : Int) = true := by
  unfold leafB
  have h := hok
  unfold okR at h
  simp only [Bool.and_eq_true, decide_eq_true_eq] at h
  rw [hok, Bool.true_and, decide_eq_true_eq]
  have := h.1
  omega
theorem ldv_node {h : List Nat} {a d : Nat} {left : Int} {x : Nat} (hok : okR (x : Int) = true) (ht : tagOf (x : Int) = 4) (ha : atOf x = a) (hR : ReadsOb h a) (hl : ¬ left - 1 < 0) : ldv h (d + 1) x left = ldNode (obR h a) (ldArgs (ldv h d) (obR h a).parts (left - 1) (obR h a).parts.length) := by
  have e : (numOf (x : Int)).toNat = a := ha
  rw [ldv, if_neg hl, leafB_at ht, hok, e, if_neg (by simp), if_neg (by simp), if_pos (readsV_iff.2 hR)]
/-- a copy reads as its original -/
theorem ldv_carry {f b : List Nat} {l : List Ob} {cp : List (Nat × Nat)} (C : CpOk f l cp) (hob : ObsOf b l) (hb4 : b.length ≤ 4000) : ∀ (d p q : Nat) (left : Int), okR (p : Int) = true → relP cp p q → ldv b d q left = ldv f d p left := by
  intro d
  induction d with
  | zero => intro p q left _ _; rfl
  | succ d ih =>
    intro p q left hok hrel
    by_cases ht : tagOf (p : Int) = 4
    · obtain ⟨n, hl, rfl⟩ := hrel.1 ht
      have hcp := C.copy _ _ hl
      have hn : n < b.length := by
        have h1 := hcp.lt
        rw [← hob.1] at h1
        exact h1
      obtain ⟨hw1, hw2⟩ := cw_word (p := n) (by omega)
      obtain ⟨k1, k2, k3, k4⟩ := okR_word hw2
      rw [hw1] at k1 k2 k3
      obtain ⟨lA, lB, ps, hl1, hl2, hl3, hl4⟩ := hcp.obj
      obtain ⟨hrB, hoB⟩ := obs_reads (h := b) (l := lA) (m := lB) (o := withParts (obR f (atOf p)) ps) (by rw [← hl1]; exact hob)
      rw [hl2] at hrB hoB
      have hqa : atOf (cw n) = n := by unfold atOf; rw [k3]; simp
      by_cases h0 : left - 1 < 0
      · rw [ldv, ldv, if_pos h0, if_pos h0]
      · rw [ldv_node k1 k2 hqa hrB h0, ldv_node hok ht rfl hcp.reads h0, hoB]
        have e : ldArgs (ldv b d) ps (left - 1) ps.length = ldArgs (ldv f d) (paR f (atOf p)) (left - 1) (paR f (atOf p)).length := by
          rw [hl3]
          refine ldArgs_congr _ (fun i hi z => ?_)
          have hm : nth (paR f (atOf p)) i ∈ paR f (atOf p) := by rw [nth_get hi]; exact List.getElem_mem hi
          exact ih _ _ z (C.okp _ _ hl _ hm) (hl4 i (by omega))
        show ldNode (withParts (obR f (atOf p)) ps) (ldArgs (ldv b d) ps (left - 1) ps.length) = ldNode (obR f (atOf p)) (ldArgs (ldv f d) (paR f (atOf p)) (left - 1) (paR f (atOf p)).length)
        rw [e]
        rfl
    · have hq : q = p := hrel.2 ht
      subst hq
      rw [ldv, ldv, leafB_not hok ht]
      simp
end Go.Proofs.Ytmpeckjemgenbaa
namespace Go.Proofs.Ytmpeckjemgenbaa
open Go.RowKit
set_option linter.unusedVariables false
def posO (l : List Ob) (k : Nat) : Nat := (flatO (l.take k)).length
theorem posO_le (l : List Ob) (k : Nat) : posO l k ≤ (flatO l).length := by
  unfold posO
  conv => rhs; rw [← List.take_append_drop k l, flatO_append]
  rw [List.length_append]; omega
theorem posO_succ {l : List Ob} {k : Nat} {o : Ob} (h : l[k]? = some o) : posO l (k + 1) = posO l k + (wordsO o).length := by
  obtain ⟨hk, he⟩ := List.getElem?_eq_some_iff.1 h
  unfold posO
  rw [List.take_succ_eq_append_getElem hk, he, flatO_snoc, List.length_append]
theorem posO_lt {l : List Ob} {j : Nat} : ∀ k, j < k → k ≤ l.length → posO l j < posO l k := by
  intro k
  induction k with
  | zero => intro h; omega
  | succ k ih =>
    intro h hk
    have h1 := posO_succ (l := l) (k := k) (o := l[k]) (List.getElem?_eq_getElem (by omega))
    have h2 := wordsO_pos (l[k])
    rcases Nat.lt_or_ge j k with h3 | h3
    · have := ih h3 (by omega)
      omega
    · obtain rfl : j = k := by omega
      omega
theorem posO_inj {l : List Ob} {j k : Nat} (hj : j < l.length) (hk : k < l.length) (h : posO l j = posO l k) : j = k := by
  rcases Nat.lt_trichotomy j k with h1 | h1 | h1
  · have := posO_lt (l := l) k h1 (by omega); omega
  · exact h1
  · have := posO_lt (l := l) j h1 (by omega); omega
/-- what stands where a cell was -/
def goneO : Ob := ⟨1, 0, ⟨#[]⟩, []⟩
theorem goneO_words : wordsO goneO = [1, 0] := by decide +kernel
theorem goneO_good : GoodOb goneO := ⟨by decide +kernel, by decide +kernel, fun x hx => by cases hx⟩
theorem cell_words {o : Ob} (h : okOb o = true) (h5 : o.kind = 5) (hp : o.parts.length = 1) : (wordsO o).length = 2 := by
  obtain ⟨_, h2, _, _, _⟩ := okOb_iff.1 h
  rw [wordsO_len, hp]
  have h3 : o.text.size = 0 := by omega
  have h4 : (numW o).length = 0 := by unfold numW; rw [h5]; rfl
  omega
/-- one object is taken out -/
theorem empty_set {l : List Ob} {k : Nat} {o : Ob} (h : l[k]? = some o) (h2 : (wordsO o).length = 2) : emptyAt (flatO l) (posO l k) = flatO (l.set k goneO) := by
  obtain ⟨hk, he⟩ := List.getElem?_eq_some_iff.1 h
  have hs : l = l.take k ++ o :: l.drop (k + 1) := by
    conv => lhs; rw [← List.take_append_drop k l, List.drop_eq_getElem_cons hk, he]
  have hf : flatO l = flatO (l.take k) ++ (wordsO o ++ flatO (l.drop (k + 1))) := by
    conv => lhs; rw [hs]
    rw [flatO_append, flatO_cons]
  rw [List.set_eq_take_append_cons_drop, if_pos hk, flatO_append, flatO_cons, goneO_words]
  unfold emptyAt posO
  have hlen : (flatO l).length - (flatO (l.take k)).length = 2 + (flatO (l.drop (k + 1))).length := by
    rw [hf, List.length_append, List.length_append, h2]; omega
  have ht : ([1, 0] : List Nat).take ((flatO l).length - (flatO (l.take k)).length) = [1, 0] := by
    rw [hlen]
    exact List.take_of_length_le (by simp <;> omega)
  rw [ht]
  rw [hf, List.take_left]
  rw [← List.append_assoc (flatO (l.take k)), List.drop_append_of_le_length (by rw [List.length_append, h2]; simp), List.drop_of_length_le (by rw [List.length_append, h2]; simp)]
  simp only [List.nil_append, List.append_assoc]
theorem pos_set {l : List Ob} {k : Nat} {o : Ob} (h : l[k]? = some o) (h2 : (wordsO o).length = 2) (j : Nat) : posO (l.set k goneO) j = posO l j := by
  obtain ⟨hk, he⟩ := List.getElem?_eq_some_iff.1 h
  unfold posO
  rw [List.take_set]
  by_cases hj : k < j
  · have h1 : (l.take j)[k]? = some o := by rw [List.getElem?_take]; simp [hj, h]
    obtain ⟨hk', he'⟩ := List.getElem?_eq_some_iff.1 h1
    rw [List.set_eq_take_append_cons_drop, if_pos hk', flatO_append, flatO_cons, goneO_words]
    have hs : l.take j = (l.take j).take k ++ o :: (l.take j).drop (k + 1) := by
      conv => lhs; rw [← List.take_append_drop k (l.take j), List.drop_eq_getElem_cons hk', he']
    conv => rhs; rw [hs]
    rw [flatO_append, flatO_cons]
    simp only [List.length_append, h2]
    rfl
  · rw [List.set_eq_of_length_le (by rw [List.length_take]; omega)]
/-- all cells of a list are taken out -/
theorem emptied_obs : ∀ (cs : List Nat) (l : List Ob), (∀ o ∈ l, GoodOb o) → (∀ a ∈ cs, ∃ k o, l[k]? = some o ∧ posO l k = a ∧ (wordsO o).length = 2) →
    ∃ l', emptied (flatO l) cs = flatO l' ∧ (∀ o ∈ l', GoodOb o) ∧ l'.length = l.length ∧ (∀ k, posO l' k = posO l k) ∧ ∀ k o', l'[k]? = some o' → (posO l k ∈ cs → o' = goneO) ∧ (posO l k ∉ cs → l[k]? = some o') := by
  intro cs
  induction cs with
  | nil => intro l hg _; exact ⟨l, rfl, hg, rfl, fun _ => rfl, fun k o' h => ⟨fun h => (by cases h), fun _ => h⟩⟩
  | cons a m ih =>
    intro l hg hc
    obtain ⟨k, o, hk, hp, h2⟩ := hc a List.mem_cons_self
    have hkl := (List.getElem?_eq_some_iff.1 hk).1
    obtain ⟨l', e1, e2, e3, e4, e5⟩ := ih (l.set k goneO) (fun x hx => by
      rcases List.mem_or_eq_of_mem_set hx with h | h
      · exact hg x h
      · rw [h]; exact goneO_good) (fun b hb => by
      obtain ⟨j, oj, hj, hpj, h2j⟩ := hc b (List.mem_cons_of_mem _ hb)
      by_cases e : k = j
      · subst e
        exact ⟨k, goneO, by rw [List.getElem?_set_self hkl], by rw [pos_set hk h2]; exact hpj, by rw [goneO_words]; rfl⟩
      · exact ⟨j, oj, by rw [List.getElem?_set_ne e]; exact hj, by rw [pos_set hk h2]; exact hpj, h2j⟩)
    refine ⟨l', ?_, e2, by rw [e3, List.length_set], fun j => by rw [e4, pos_set hk h2], fun j o' hj => ?_⟩
    · show emptied (emptyAt (flatO l) a) m = _
      rw [← hp, empty_set hk h2]
      exact e1
    · have hjl : j < l.length := by
        have := (List.getElem?_eq_some_iff.1 hj).1
        rw [e3, List.length_set] at this
        exact this
      obtain ⟨f1, f2⟩ := e5 j o' hj
      rw [pos_set hk h2] at f1 f2
      refine ⟨fun h => ?_, fun h => ?_⟩
      · by_cases hm : posO l j ∈ m
        · exact f1 hm
        · have hja : posO l j = a := by
            rcases List.mem_cons.1 h with h | h
            · exact h
            · exact absurd h hm
          have hjk : j = k := posO_inj hjl hkl (by rw [hja, hp])
          subst hjk
          have h3 := f2 hm
          rw [List.getElem?_set_self hkl] at h3
          injection h3 with h3
          exact h3.symm
      · have hm : posO l j ∉ m := fun h' => h (List.mem_cons_of_mem _ h')
        have hjk : k ≠ j := fun e => h (by rw [← e, hp]; exact List.mem_cons_self)
        have h3 := f2 hm
        rw [List.getElem?_set_ne hjk] at h3
        exact h3
theorem obs_at {f : List Nat} {l : List Ob} (h : ObsOf f l) {k : Nat} {o : Ob} (hk : l[k]? = some o) : ReadsOb f (posO l k) ∧ obR f (posO l k) = o := by
  obtain ⟨hl, he⟩ := List.getElem?_eq_some_iff.1 hk
  have hs : l = l.take k ++ o :: l.drop (k + 1) := by
    conv => lhs; rw [← List.take_append_drop k l, List.drop_eq_getElem_cons hl, he]
  exact obs_reads (by rw [← hs]; exact h)
theorem nodup_map_on {g : Nat → Nat} : ∀ {l : List Nat}, l.Nodup → (∀ a ∈ l, ∀ b ∈ l, g a = g b → a = b) → (l.map g).Nodup := by
  intro l
  induction l with
  | nil => intro _ _; exact List.nodup_nil
  | cons a l ih =>
    intro h hi
    obtain ⟨h1, h2⟩ := List.nodup_cons.1 h
    rw [List.map_cons, List.nodup_cons]
    refine ⟨fun hm => ?_, ih h2 (fun x hx y hy => hi x (List.mem_cons_of_mem _ hx) y (List.mem_cons_of_mem _ hy))⟩
    obtain ⟨b, hb, hgb⟩ := List.mem_map.1 hm
    have := hi b (List.mem_cons_of_mem _ hb) a List.mem_cons_self hgb
    exact h1 (this ▸ hb)
theorem rel_word {f b : List Nat} {l : List Ob} {cp : List (Nat × Nat)} (C : CpOk f l cp) (hob : ObsOf b l) (hb4 : b.length ≤ 4000) {p q : Nat} (hok : okR (p : Int) = true) (hr : relP cp p q) : okR (q : Int) = true ∧ (tagOf (q : Int) = 4 → tagOf (p : Int) = 4) ∧ (tagOf (p : Int) = 4 → tagOf (q : Int) = 4 ∧ look cp (atOf p) = some (atOf q)) := by
  by_cases ht : tagOf (p : Int) = 4
  · obtain ⟨n, hl, rfl⟩ := hr.1 ht
    have hn : n < b.length := by
      have h1 := (C.copy _ _ hl).lt
      rw [← hob.1] at h1
      exact h1
    obtain ⟨hw1, hw2⟩ := cw_word (p := n) (by omega)
    obtain ⟨k1, k2, k3, k4⟩ := okR_word hw2
    rw [hw1] at k1 k2 k3
    have hqa : atOf (cw n) = n := by unfold atOf; rw [k3]; simp
    exact ⟨k1, fun _ => ht, fun _ => ⟨k2, by rw [hqa]; exact hl⟩⟩
  · have hq := hr.2 ht
    subst hq
    exact ⟨hok, fun h => absurd h ht, fun h => absurd h ht⟩
theorem copy_at {f b : List Nat} {l : List Ob} {cp : List (Nat × Nat)} (C : CpOk f l cp) (hob : ObsOf b l) {a n : Nat} (hl : look cp a = some n) : ReadsOb b n ∧ kdR b n = kdR f a ∧ (paR b n).length = (paR f a).length ∧ ∀ i, i < (paR b n).length → relP cp (nth (paR f a) i) (nth (paR b n) i) := by
  obtain ⟨lA, lB, ps, hl1, hl2, hl3, hl4⟩ := (C.copy _ _ hl).obj
  obtain ⟨hrB, hoB⟩ := obs_reads (h := b) (l := lA) (m := lB) (o := withParts (obR f a) ps) (by rw [← hl1]; exact hob)
  rw [hl2] at hrB hoB
  have hp : paR b n = ps := congrArg Ob.parts hoB
  have hk : ((kdR b n : Nat) : Int) = ((kdR f a : Nat) : Int) := congrArg Ob.kind hoB
  rw [hp]
  exact ⟨hrB, by omega, hl3, hl4⟩
/-- the copies are a good set -/
theorem copies_good {f b : List Nat} {l : List Ob} {cp : List (Nat × Nat)} {wd q : Nat} (C : CpOk f l cp) (hob : ObsOf b l) (hb4 : b.length ≤ 4000) (hok : okR (wd : Int) = true) (hr : relP cp wd q) : GoodD b q (fun n => ∃ a, look cp a = some n) := by
  obtain ⟨h1, h2, h3⟩ := rel_word C hob hb4 hok hr
  refine ⟨h1, fun ht => ⟨atOf wd, (h3 (h2 ht)).2⟩, fun n ⟨a, ha⟩ => (copy_at C hob ha).1, fun n ⟨a, ha⟩ p hp => ?_⟩
  obtain ⟨_, _, k3, k4⟩ := copy_at C hob ha
  obtain ⟨i, hi, rfl⟩ := List.getElem_of_mem hp
  have hm : nth (paR f a) i ∈ paR f a := by rw [nth_get (by omega)]; exact List.getElem_mem _
  have hrel := k4 i hi
  rw [nth_get hi] at hrel
  obtain ⟨g1, g2, g3⟩ := rel_word C hob hb4 (C.okp a n ha _ hm) hrel
  exact ⟨g1, fun ht => ⟨_, (g3 (g2 ht)).2⟩⟩
/-- as many cells are reached over there as here -/
theorem cells_count {f t b : List Nat} {l : List Ob} {wd q : Nat} {st : CS} {V U : List Nat} (hb : b = st.to) (C : CpOk f l st.cp) (hob : ObsOf b l) (hb4 : b.length ≤ 4000) (hok : okR (wd : Int) = true) (hr : relP st.cp wd q) (e : carW f 40 wd ⟨t, [], []⟩ = some (q, st)) (hV : ∀ a, a ∈ V ↔ Has st a) (hVn : V.Nodup) (H : RInv b q U []) :
    (cellsV b U).length = (cellsV f V).length := by
  have hUD := (H.reach _ (copies_good C hob hb4 hok hr)).1
  have hrw := rel_word C hob hb4 hok hr
  have hclosed : ClosedD f (fun a => ∃ n, look st.cp a = some n ∧ n ∈ U) := fun a ⟨n, ha, hn⟩ p hp ht => by
    obtain ⟨_, _, k3, k4⟩ := copy_at C hob ha
    obtain ⟨i, hi, rfl⟩ := List.getElem_of_mem hp
    have hrel := k4 i (by omega)
    rw [nth_get hi] at hrel
    obtain ⟨g1, g2, g3⟩ := rel_word C hob hb4 (C.okp a n ha _ hp) hrel
    have hmem : nth (paR b n) i ∈ paR b n := by rw [nth_get (by omega)]; exact List.getElem_mem _
    exact ⟨_, (g3 ht).2, (H.done.parts n hn _ hmem).2 (g3 ht).1⟩
  have hall : ∀ a, Has st a → ∃ n, look st.cp a = some n ∧ n ∈ U := fun a ha => by
    rcases carW_reach hclosed 40 wd _ q st (fun ht => ⟨_, (hrw.2.2 ht).2, H.done.start (hrw.2.2 ht).1⟩) e a ha with h | h
    · exact absurd rfl h
    · exact h
  unfold cellsV
  simp only [List.length_map, List.length_reverse]
  have hg : ∀ a n, look st.cp a = some n → (look st.cp a).getD 0 = n := fun a n h => by rw [h]; rfl
  have hinj : ∀ x ∈ V.filter (fun a => kdR f a == 5), ∀ y ∈ V.filter (fun a => kdR f a == 5), (look st.cp x).getD 0 = (look st.cp y).getD 0 → x = y := fun x hx y hy he => by
    obtain ⟨n, hn, _⟩ := hall x ((hV x).1 (List.mem_filter.1 hx).1)
    obtain ⟨m, hm, _⟩ := hall y ((hV y).1 (List.mem_filter.1 hy).1)
    rw [hg x n hn, hg y m hm] at he
    subst he
    exact C.inj _ _ _ hn hm
  have h1 : (V.filter (fun a => kdR f a == 5)).length ≤ (U.filter (fun a => kdR b a == 5)).length := by
    have := nodup_le (m := U.filter (fun a => kdR b a == 5)) (nodup_map_on (g := fun a => (look st.cp a).getD 0) (hVn.filter _) hinj) (fun x hx => by
      obtain ⟨a, ha, rfl⟩ := List.mem_map.1 hx
      obtain ⟨ha1, ha2⟩ := List.mem_filter.1 ha
      obtain ⟨n, hn, hnU⟩ := hall a ((hV a).1 ha1)
      rw [hg a n hn, List.mem_filter]
      refine ⟨hnU, ?_⟩
      rw [(copy_at C hob hn).2.1]
      exact ha2)
    simpa using this
  have h2 : (U.filter (fun a => kdR b a == 5)).length ≤ (V.filter (fun a => kdR f a == 5)).length := by
    have := nodup_le (m := (V.filter (fun a => kdR f a == 5)).map (fun a => (look st.cp a).getD 0)) (H.nodup.filter (fun a => kdR b a == 5)) (fun x hx => by
      obtain ⟨hx1, hx2⟩ := List.mem_filter.1 hx
      obtain ⟨a, ha⟩ := hUD x hx1
      refine List.mem_map.2 ⟨a, List.mem_filter.2 ⟨(hV a).2 (by unfold Has; rw [ha]; simp), ?_⟩, hg a x ha⟩
      rw [(copy_at C hob ha).2.1] at hx2
      exact hx2)
    simpa using this
  omega
end Go.Proofs.Ytmpeckjemgenbaa
namespace Go.Proofs.Ytmpeckjemgenbaa
open Go.RowKit
set_option linter.unusedVariables false
/-- one element more, as a step of a region that draws -/
theorem step_append_q {P : Program} {ops : Array Oper} {o : Oper} {a : Act} {w : World} {K : Act → World → Prop} {Q : Exit → Act → World → Prop} {E : Prop} (hgd : o.guard = none) (s x : Operand) (t : TypeId)
    (ho : o.op = .call { callee := .builtin .append, args := #[s, x], argTypes := #[t, t] }) (base : Nat) (e : TypeId) (i : TypeInfo) (z : Value) (sz bytes : Nat) (ht : P.underlying t = some (.slice e)) (hi : P.info? e = some i) (hz : i.zero = some z)
    (hsize : i.size = sz) (hby : i.bytes = bytes) (hzs : z.cells.size = sz) (hsz : 0 < sz) (v : Value) (n : Nat) (xs : List Value) (hs : a.eval s = v) (hq : QR w base e sz v n xs) (b : Nat) (news : List Value) (hx : a.eval x = .slice (some ⟨b, 0, none⟩) 1 1)
    (hl : news.length = sz) (hnews : ∀ j u, news[j]? = some u → w.cell? ((⟨b, 0, none⟩ : Addr).add j) = some u) (h1 : ∀ u ∈ news, u.oneCell' = true) (h63 : n + 1 ≤ maxLen) (hbytes : (n + 1) * bytes ≤ 140737488355328) (hbase : base ≤ w.heap.size)
    (h : ∀ v' w', QR w' base e sz v' (n + 1) (xs ++ news) → w.grownBy w' v.ownBlock → (v'.ownBlock = v.ownBlock ∨ ∃ g, v'.ownBlock = some g ∧ w.heap.size ≤ g ∧ g < w'.heap.size) → K (a.put o.dst v') w') :
    if Region.wanted o (yielded ops a.tmps) = true then Oper.wp P o a w K Q else E := by
  have hq0 := hq
  obtain ⟨hxl, ao, cap, rfl, h3, h4, h5, h6⟩ := hq
  by_cases hroom : n + 1 ≤ cap
  · obtain ⟨g, off, rfl, hgb, hlt, hcell, hfr, hsp⟩ := hq0.blk (by omega)
    have hm : (n + 1) * sz ≤ cap * sz := Nat.mul_le_mul_right _ hroom
    rw [Nat.succ_mul] at hm
    refine step_append_room hgd s x t ho e i sz ht hi hsize g off n cap hs ⟨b, 0, none⟩ 1 1 news hx (by rw [hl, Nat.one_mul]) hnews h1 hroom (fun j hj => ⟨by rw [Nat.add_assoc]; exact hsp _ (by omega), hfr _⟩) ?_
    obtain ⟨b', off', cur, hab, hb, hh, hss, hxx⟩ := h6 (by omega)
    injection hab with hab
    injection hab with e1 e2
    subst e1 e2
    have hblk : (w.setCells g (off + n * sz) news).heap[g]? = some (.cells (setRun cur (off + n * sz) news) e (0, 0)) := heap_setCells_run w g e news (off + n * sz) cur hh
    refine h _ _ ⟨by rw [List.length_append, hxl, hl, Nat.succ_mul], some ⟨g, off, none⟩, cap, rfl, hroom, h4, (fun hn => by cases hn), fun _ => ⟨g, off, _, rfl, hb, hblk, by rw [setRun_size]; exact hss, fun j hj => ?_⟩⟩ (grown_setCellsQ w g news _) (.inl rfl)
    rw [setRun_get _ _ _ (by omega)]
    by_cases hjn : j < n * sz
    · rw [if_neg (by omega), List.getElem?_append_left (by omega), hxx j hjn]
    · rw [Nat.succ_mul] at hj
      rw [if_pos (by omega), List.getElem?_append_right (by omega), hxl]
      congr 1
      omega
  · refine step_append_grows hgd s x t ho e i z sz bytes ht hi hz hsize hby hzs hsz ao n cap xs hs (fun hn => ⟨by have := h5 hn; omega, h5 hn⟩) hxl (fun bb hbb j u hj => ?_) ⟨b, 0, none⟩ 1 1 news hx (by rw [hl, Nat.one_mul]) hnews h1 (by omega) h63 hbytes (fun v' w' hown hg => ?_)
    · have h0 : 0 < cap := by
        rcases Nat.eq_zero_or_pos n with hn0 | hn0
        · subst hn0
          rw [List.getElem?_eq_none (by omega)] at hj; cases hj
        · omega
      obtain ⟨g, off, hab, _, _, hcell, _, _⟩ := hq0.blk h0
      rw [hbb] at hab
      injection hab with hab
      subst hab
      rw [Addr.add_lit]
      exact hcell j u hj
    · have hq' := QR.of_own (own_mono hown hbase)
      refine h v' w' hq' ⟨hg.os, hg.tape, hg.output, hg.size, fun k hk _ => hg.block k hk (by simp)⟩ ?_
      obtain ⟨A', c', hv', _⟩ := own_any hown
      cases hA : v'.ownBlock with
      | none =>
        rcases hown.2 with ⟨_, h0⟩ | ⟨g, _, _, hv, _⟩
        · omega
        · rw [hv] at hA; cases hA
      | some g => exact .inr ⟨g, rfl, (hown.lt g hA).1, (hown.lt g hA).2⟩
/-- a pair's cells -/
def pC (p : Nat × Nat) : List Value := [.int .u64 (p.1 : Int), .int .u64 (p.2 : Int)]
def encP : List (Nat × Nat) → List Value
  | [] => []
  | p :: l => pC p ++ encP l
theorem encP_append (l m : List (Nat × Nat)) : encP (l ++ m) = encP l ++ encP m := by
  induction l with
  | nil => rfl
  | cons p l ih => simp only [List.cons_append, encP, ih, List.append_assoc]
theorem encP_drop (p : Nat × Nat) (l : List (Nat × Nat)) : (encP (p :: l)).drop 2 = encP l := rfl
/-- a row of pairs of the call's own, from some place on -/
def QP (w : World) (base : Nat) (v : Value) (l : List (Nat × Nat)) : Prop := QR w base 81 2 v l.length (encP l) ∧ ∀ k, v.ownBlock = some k → base ≤ k ∧ k < w.heap.size
theorem infoP : (Try.prog.info? 81).map (fun i => (i.zero, i.size, i.bytes)) = some (some (.agg #[.int .u64 0, .int .u64 0]), 2, 16) := by kernel_rfl
theorem sizePs (w : World) : (sizeOf (Try.prog.elem 79)).run Try.prog w = .ok 2 w := by kernel_rfl
theorem elemPs : Try.prog.underlying 79 = some (.slice (Try.prog.elem 79)) := by kernel_rfl
theorem QP.nil (w : World) (base : Nat) : QP w base (.slice none 0 0) [] := ⟨⟨rfl, none, 0, rfl, Nat.le_refl _, by omega, fun _ => rfl, fun h => by omega⟩, fun k h => by cases h⟩
theorem QP.grown {w w' : World} {base : Nat} {v : Value} {l : List (Nat × Nat)} {row : Option Nat} (h : QP w base v l) (hg : w.grownBy w' row) (hne : ∀ k, v.ownBlock = some k → row ≠ some k) : QP w' base v l := ⟨QR.grown h.1 hg hne, fun k hk => ⟨(h.2 k hk).1, Nat.lt_of_lt_of_le (h.2 k hk).2 hg.size⟩⟩
theorem QP.below {w w' : World} {base : Nat} {v : Value} {l : List (Nat × Nat)} (h : QP w base v l) (hb : Below w.heap.size w w') : QP w' base v l := ⟨QR.below h.1 hb, fun k hk => ⟨(h.2 k hk).1, Nat.lt_of_lt_of_le (h.2 k hk).2 hb.size⟩⟩
theorem QP.form {w : World} {base : Nat} {v : Value} {l : List (Nat × Nat)} (h : QP w base v l) : ∃ ao cap, v = .slice ao l.length cap ∧ l.length ≤ cap ∧ cap ≤ 9223372036854775807 := QR.form h.1
theorem QP.snoc {w w' : World} {base : Nat} {v v' : Value} {l : List (Nat × Nat)} {p : Nat × Nat} (h : QP w base v l) (hq : QR w' base 81 2 v' (l.length + 1) (encP l ++ pC p)) (hg : w.grownBy w' v.ownBlock) (hat : v'.ownBlock = v.ownBlock ∨ ∃ g, v'.ownBlock = some g ∧ w.heap.size ≤ g ∧ g < w'.heap.size) (hb : base ≤ w.heap.size) : QP w' base v' (l ++ [p]) := by
  refine ⟨?_, fun k hk => ?_⟩
  · have e : encP (l ++ [p]) = encP l ++ pC p := by rw [encP_append]; simp [encP]
    rw [List.length_append, e]
    exact hq
  · rcases hat with ha | ⟨g, ha, h1, h2⟩
    · rw [ha] at hk
      exact ⟨(h.2 k hk).1, Nat.lt_of_lt_of_le (h.2 k hk).2 hg.size⟩
    · rw [ha] at hk
      injection hk with hk
      subst hk
      exact ⟨Nat.le_trans hb h1, h2⟩
/-- the first pair, and the rest -/
theorem QP.head {w : World} {base : Nat} {ao : Option Addr} {cap n : Nat} {p : Nat × Nat} {l : List (Nat × Nat)} (h : QP w base (.slice ao n cap) (p :: l)) : ∃ b off, ao = some ⟨b, off, none⟩ ∧ base ≤ b ∧ b < w.heap.size ∧ w.cell? ⟨b, off, none⟩ = some (.int .u64 (p.1 : Int)) ∧ w.cell? ⟨b, off + 1, none⟩ = some (.int .u64 (p.2 : Int)) ∧
    ∃ A, (∀ w', (Instr.sliceAt 79 (.slice ao n cap) (some (.int .i64 1)) none none).run Try.prog w' = .ok (.slice A l.length (cap - 1)) w') ∧ QP w base (.slice A l.length (cap - 1)) l ∧ (Value.slice A l.length (cap - 1)).ownBlock = some b := by
  have h' : QR w base 81 2 (.slice ao n cap) (p :: l).length (encP (p :: l)) := h.1
  obtain ⟨ao', cap', hv, hle, hm⟩ := h.form
  injection hv with e1 e2 e3
  subst e1 e2 e3
  have hc : 0 < cap := by simp at hle; omega
  obtain ⟨b, off, rfl, hb, hlt, hcell, _, _⟩ := h'.blk hc
  have hown : ∀ A : Option Addr, A = (if cap = 1 then some ⟨b, off, none⟩ else some ⟨b, off + 2, none⟩) → (Value.slice A l.length (cap - 1)).ownBlock = some b := fun A hA => by
    subst hA
    split <;> rfl
  refine ⟨b, off, rfl, hb, hlt, by simpa using hcell 0 _ rfl, by simpa using hcell 1 _ rfl, if cap = 1 then some ⟨b, off, none⟩ else some ⟨b, off + 2, none⟩, fun w' => ?_, ⟨?_, ?_⟩, ?_⟩
  · rw [run_sliceAt_slice _ _ _ _ _ _ elemPs, run_slice_l _ _ _ _ _ elemPs _ _ (by omega) (by simp at hle ⊢; omega), sizePs]
    simp only [Result.andThen, sliced]
    rfl
  · exact QR.tail h' _ rfl
  · intro k hk
    rw [hown _ rfl] at hk
    injection hk with hk
    subst hk
    exact ⟨hb, hlt⟩
  · exact hown _ rfl
end Go.Proofs.Ytmpeckjemgenbaa
namespace Go.Proofs.Ytmpeckjemgenbaa
open Go.RowKit
set_option linter.unusedVariables false
/-- a row of words of the call's own, from some place on -/
def QW (w : World) (base : Nat) (v : Value) (l : List Nat) : Prop := QR w base 34 1 v l.length (encU l) ∧ ∀ k, v.ownBlock = some k → base ≤ k ∧ k < w.heap.size
theorem QW.nil (w : World) (base : Nat) : QW w base (.slice none 0 0) [] := ⟨⟨rfl, none, 0, rfl, Nat.le_refl _, by omega, fun _ => rfl, fun h => by omega⟩, fun k h => by cases h⟩
theorem QW.of_own {w : World} {base : Nat} {v : Value} {l : List Nat} (h : OwnU w base v l) : QW w base v l := ⟨QR.of_own h, h.blk⟩
theorem QW.grown {w w' : World} {base : Nat} {v : Value} {l : List Nat} {row : Option Nat} (h : QW w base v l) (hg : w.grownBy w' row) (hne : ∀ k, v.ownBlock = some k → row ≠ some k) : QW w' base v l := ⟨QR.grown h.1 hg hne, fun k hk => ⟨(h.2 k hk).1, Nat.lt_of_lt_of_le (h.2 k hk).2 hg.size⟩⟩
theorem QW.below {w w' : World} {base : Nat} {v : Value} {l : List Nat} (h : QW w base v l) (hb : Below w.heap.size w w') : QW w' base v l := ⟨QR.below h.1 hb, fun k hk => ⟨(h.2 k hk).1, Nat.lt_of_lt_of_le (h.2 k hk).2 hb.size⟩⟩
theorem QW.form {w : World} {base : Nat} {v : Value} {l : List Nat} (h : QW w base v l) : ∃ ao cap, v = .slice ao l.length cap ∧ l.length ≤ cap ∧ cap ≤ 9223372036854775807 := QR.form h.1
theorem QW.cell {w : World} {base : Nat} {ao : Option Addr} {cap n : Nat} {l : List Nat} (h : QW w base (.slice ao n cap) l) (h0 : 0 < l.length) : ∃ b off, ao = some ⟨b, off, none⟩ ∧ base ≤ b ∧ b < w.heap.size ∧ ∀ k, k < l.length → w.cell? ⟨b, off + k, none⟩ = some (.int .u64 ((nth l k : Nat) : Int)) := by
  obtain ⟨ao', cap', hv, hle, hm⟩ := h.form
  injection hv with e1 e2 e3
  subst e1 e2 e3
  have h' : QR w base 34 1 (.slice ao l.length cap) l.length (encU l) := h.1
  obtain ⟨b, off, rfl, hb, hlt, hcell, _, _⟩ := h'.blk (by omega)
  exact ⟨b, off, rfl, hb, hlt, fun k hk => hcell k _ (encU_get hk)⟩
/-- the first word, and the rest -/
theorem QW.head {w : World} {base : Nat} {ao : Option Addr} {cap n : Nat} {p : Nat} {l : List Nat} (h : QW w base (.slice ao n cap) (p :: l)) : ∃ b off, ao = some ⟨b, off, none⟩ ∧ base ≤ b ∧ b < w.heap.size ∧ w.cell? ⟨b, off, none⟩ = some (.int .u64 (p : Int)) ∧
    ∃ A, (∀ w', (Instr.sliceAt 22 (.slice ao n cap) (some (.int .i64 1)) none none).run Try.prog w' = .ok (.slice A l.length (cap - 1)) w') ∧ QW w base (.slice A l.length (cap - 1)) l ∧ (Value.slice A l.length (cap - 1)).ownBlock = some b := by
  have h' : QR w base 34 1 (.slice ao n cap) (p :: l).length (encU (p :: l)) := h.1
  obtain ⟨ao', cap', hv, hle, hm⟩ := h.form
  injection hv with e1 e2 e3
  subst e1 e2 e3
  have hc : 0 < cap := by simp at hle; omega
  obtain ⟨b, off, rfl, hb, hlt, hcell, _, _⟩ := h'.blk hc
  have hown : ∀ A : Option Addr, A = (if cap = 1 then some ⟨b, off, none⟩ else some ⟨b, off + 1, none⟩) → (Value.slice A l.length (cap - 1)).ownBlock = some b := fun A hA => by
    subst hA
    split <;> rfl
  refine ⟨b, off, rfl, hb, hlt, by simpa using hcell 0 _ rfl, if cap = 1 then some ⟨b, off, none⟩ else some ⟨b, off + 1, none⟩, fun w' => ?_, ⟨?_, ?_⟩, ?_⟩
  · rw [run_sliceAt_slice _ _ _ _ _ _ elemUs, run_slice_l _ _ _ _ _ elemUs _ _ (by omega) (by simp at hle ⊢; omega), sizeUs]
    simp only [Result.andThen, sliced]
    rfl
  · exact QR.tail h' _ rfl
  · intro k hk
    rw [hown _ rfl] at hk
    injection hk with hk
    subst hk
    exact ⟨hb, hlt⟩
  · exact hown _ rfl
/-- the last word, and those in front -/
theorem QW.last {w : World} {base : Nat} {ao : Option Addr} {cap n : Nat} {p : Nat} {l : List Nat} (h : QW w base (.slice ao n cap) (l ++ [p])) : ∃ b off, ao = some ⟨b, off, none⟩ ∧ base ≤ b ∧ b < w.heap.size ∧ w.cell? ⟨b, off + l.length, none⟩ = some (.int .u64 (p : Int)) ∧
    QW w base (.slice ao l.length cap) l ∧ ∀ w', (Instr.sliceAt 22 (.slice ao n cap) none (some (.int .i64 (l.length : Int))) none).run Try.prog w' = .ok (.slice ao l.length cap) w' := by
  have h' : QR w base 34 1 (.slice ao n cap) (l ++ [p]).length (encU (l ++ [p])) := h.1
  obtain ⟨ao', cap', hv, hle, hm⟩ := h.form
  injection hv with e1 e2 e3
  subst e1 e2 e3
  have hl : (l ++ [p]).length = l.length + 1 := by simp
  have hc : 0 < cap := by omega
  obtain ⟨b, off, rfl, hb, hlt, hcell, _, _⟩ := h'.blk hc
  refine ⟨b, off, rfl, hb, hlt, hcell l.length _ (by simp [encU]), ⟨?_, fun k hk => h.2 k hk⟩, fun w' => ?_⟩
  rotate_left
  · rw [run_sliceAt_slice _ _ _ _ _ _ elemUs, run_slice_h _ _ _ _ _ elemUs _ _ (by omega) (by omega), sizeUs]
    simp only [Result.andThen, sliced, Int.toNat_natCast]
    rw [if_neg (by omega)]
    simp [Go.WideShapes.add_plain]
  obtain ⟨h1, ao1, cap1, hv1, h3, h4, h5, h6⟩ := h'
  injection hv1 with e1 _ e3
  subst e1 e3
  refine ⟨by simp [encU], _, cap, rfl, by omega, h4, (fun hn => by cases hn), fun h0 => ?_⟩
  obtain ⟨b', off', cur, hab, hb', hh, hs, hx⟩ := h6 h0
  refine ⟨b', off', cur, hab, hb', hh, hs, fun j hj => ?_⟩
  rw [hx j (by rw [hl]; omega)]
  rw [Nat.mul_one] at hj
  unfold encU
  rw [List.map_append, List.getElem?_append_left (by simpa using hj)]
set_option maxRecDepth 100000 in
theorem run_append_qw (w : World) (t ty : TypeId) (ht : Try.prog.underlying t = some (.slice 34)) (base : Nat) (v : Value) (l : List Nat) (hq : QW w base v l) (u : Value) (m : List Nat) (hS : Su w u m)
    (hl : l.length + m.length ≤ 10000000) (hbase : base ≤ w.heap.size) :
    ∃ v' w', (Builtin.append_ #[t, t] ty #[v, u]).run Try.prog w = .ok v' w' ∧ QW w' base v' (l ++ m) ∧ w.grownBy w' v.ownBlock ∧ (v'.ownBlock = v.ownBlock ∨ ∃ g, v'.ownBlock = some g ∧ w.heap.size ≤ g) := by
  obtain ⟨i0, hi, hz0, hz1, hz2⟩ := info_parts infoU
  obtain ⟨A, c, rfl, hmc, _, hA, hR⟩ := hS
  have hq0 := hq.1
  obtain ⟨hxl, ao, cap, rfl, h3, h4, h5, h6⟩ := hq.1
  by_cases hm0 : m.length = 0
  · obtain rfl : m = [] := List.eq_nil_of_length_eq_zero hm0
    refine ⟨_, w, ?_, by rw [List.append_nil]; exact hq, grown_self _ _, .inl rfl⟩
    refine run_append_nothing w t t ty 34 i0 ht hi ao l.length cap h3 _ ?_
    cases A with
    | none => exact Src.ofNil w ht c
    | some ad => exact Src.ofSlice w ht ad 0 c [] (by simp) (fun j u hu => by simp at hu) (fun u hu => by cases hu)
  · obtain ⟨sb, so, rfl, hsb, hsc⟩ := hR (by omega)
    have hcells : ∀ j u, (encU m)[j]? = some u → w.cell? ((⟨sb, so, none⟩ : Addr).add j) = some u := by
      intro j u hu
      have hj : j < m.length := by
        rcases Nat.lt_or_ge j m.length with h | h
        · exact h
        · rw [List.getElem?_eq_none (by simpa [encU] using h)] at hu; cases hu
      have h1 := hsc j hj 0 _ rfl
      rw [Addr.add_lit]
      rw [encU_get hj] at hu
      injection hu with hu
      subst hu
      simpa using h1
    have hle : (encU m).length = m.length := by simp [encU]
    by_cases hroom : l.length + m.length ≤ cap
    · obtain ⟨g, off, rfl, hgb, hlt, hcell, hfr, hsp⟩ := hq0.blk (by omega)
      have hrun := run_append_room_cells (P := Try.prog) w t ty 34 i0 ht hi g off l.length cap ⟨sb, so, none⟩ m.length c (encU m) (by rw [hz1, hle]; omega) hcells (encU_one m) hroom
        (fun j hj => by rw [hz1, Nat.add_assoc]; exact hsp _ (by rw [hle] at hj; omega)) (fun j hj => hfr _)
      obtain ⟨b', off', cur, hab, hb, hh, hss, hxx⟩ := h6 (by omega)
      injection hab with hab
      injection hab with e1 e2
      subst e1 e2
      rw [hz1] at hrun
      have hblk := heap_setCells_run w g 34 (encU m) (off + l.length * 1) cur hh
      refine ⟨_, _, hrun, ⟨⟨by simp [encU], some ⟨g, off, none⟩, cap, by rw [List.length_append], by rw [List.length_append]; exact hroom, h4, (fun hn => by cases hn), fun _ => ⟨g, off, _, rfl, hb, hblk, by rw [setRun_size]; exact hss, fun j hj => ?_⟩⟩, fun k hk => ?_⟩, grown_setCellsQ w g _ _, .inl rfl⟩
      · rw [setRun_get _ _ _ (by rw [hle]; omega)]
        rw [List.length_append] at hj
        have he : encU (l ++ m) = encU l ++ encU m := by simp [encU]
        have hl2 : (encU l).length = l.length := by simp [encU]
        by_cases hjn : j < l.length
        · rw [if_neg (by omega), he, List.getElem?_append_left (by omega), hxx j (by omega)]
        · rw [if_pos (by rw [hle]; omega), he, List.getElem?_append_right (by omega), hl2]
          congr 1
          omega
      · injection hk with hk
        subst hk
        exact ⟨hgb, Nat.lt_of_lt_of_le hlt (grown_setCellsQ w g (encU m) (off + l.length * 1)).size⟩
    · have fin : ∀ (v' : Value) (w' : World), w'.ownsRow w.heap.size 34 1 v' (l.length + m.length) (encU l ++ encU m) → w.grownBy w' none → QW w' base v' (l ++ m) ∧ w.grownBy w' (Value.slice ao l.length cap).ownBlock ∧ (v'.ownBlock = (Value.slice ao l.length cap).ownBlock ∨ ∃ g, v'.ownBlock = some g ∧ w.heap.size ≤ g) := by
        intro v' w' hown hg
        have h1 : OwnU w' base v' (l ++ m) := by
          unfold OwnU
          rw [List.length_append, show encU (l ++ m) = encU l ++ encU m by simp [encU]]
          exact own_mono hown hbase
        refine ⟨QW.of_own h1, ⟨hg.os, hg.tape, hg.output, hg.size, fun k hk _ => hg.block k hk (by simp)⟩, ?_⟩
        cases hA : v'.ownBlock with
        | none =>
          rcases hown.2 with ⟨_, h0⟩ | ⟨g, _, _, hv, _⟩
          · omega
          · rw [hv] at hA; cases hA
        | some g => exact .inr ⟨g, rfl, (hown.lt g hA).1⟩
      cases ao with
      | some ad =>
        have holds : ∀ j u, (encU l)[j]? = some u → w.cell? (ad.add j) = some u := by
          intro j u hj
          have hj' : j < l.length := by
            rcases Nat.lt_or_ge j l.length with h | h
            · exact h
            · rw [List.getElem?_eq_none (by simpa [encU] using h)] at hj; cases hj
          obtain ⟨g, off, hab, _, _, hcell, _, _⟩ := hq0.blk (by omega)
          injection hab with hab
          subst hab
          rw [Addr.add_lit]
          exact hcell j u hj
        obtain ⟨v', w', hrun, r1, r2⟩ := run_append_arg_grows (P := Try.prog) w t ty 34 i0 _ 1 8 ht hi hz0 hz1 hz2 rfl (by omega) ad l.length cap (encU l) (by simp [encU]) holds ⟨sb, so, none⟩ m.length c (encU m) (by simp [encU]) hcells (by omega) (by unfold maxLen; omega) (by omega)
        obtain ⟨k1, k2, k3⟩ := fin v' w' r1 r2
        exact ⟨v', w', hrun, k1, k2, k3⟩
      | none =>
        have hc0 := h5 rfl
        have hl0 : l = [] := List.eq_nil_of_length_eq_zero (by omega)
        subst hl0
        subst hc0
        obtain ⟨v', w', hrun, r1, r2, _⟩ := run_append_own (P := Try.prog) w w.heap.size t ty 34 i0 _ 1 8 ht hi hz0 hz1 hz2 rfl (by omega) (.slice none 0 0) 0 [] (World.ownsRow_nil w _ 34 1) ⟨sb, so, none⟩ m.length c (encU m) (by simp [encU]) hcells (encU_one m) (by unfold maxLen; simp at hl; omega) (by simp at hl; omega) (Nat.le_refl _)
        obtain ⟨k1, k2, k3⟩ := fin v' w' r1 r2
        exact ⟨v', w', hrun, k1, k2, k3⟩
set_option maxRecDepth 100000 in
theorem wpList_append_qw {ops : Array Oper} {rest : List Oper} {o : Oper} {a : Act} {w : World} {Q : Exit → Act → World → Prop} (hgd : o.guard = none) (s x : Operand) (t t' : TypeId)
    (ho : o.op = .call { callee := .builtin .append, args := #[s, x], argTypes := #[t, t'] }) (ht : Try.prog.underlying t = some (.slice 34)) (ht' : Try.prog.underlying t' = some (.slice 34)) (base : Nat) (v : Value) (l : List Nat) (hs : a.eval s = v) (hq : QW w base v l)
    (u : Value) (m : List Nat) (hx : a.eval x = u) (hS : Su w u m) (hl : l.length + m.length ≤ 10000000) (hbase : base ≤ w.heap.size)
    (h : ∀ v' w', QW w' base v' (l ++ m) → w.grownBy w' v.ownBlock → (v'.ownBlock = v.ownBlock ∨ ∃ g, v'.ownBlock = some g ∧ w.heap.size ≤ g) → wpList Try.prog ops Q rest (a.put o.dst v') w') :
    wpList Try.prog ops Q (o :: rest) a w := by
  obtain ⟨v', w', hrun, h2, h3, h4⟩ := run_append_qw w t o.type ht base v l hq u m hS hl hbase
  obtain ⟨A0, c0, rfl, _⟩ := hq.form
  refine wpList_plain hgd fun _ hK => ?_
  unfold Oper.wp execOp
  simp only [ho, resolve, invoke, builtin, Sem.run_bind, Sem.run_pure, Result.andThen_ok, List.map_toArray, List.map_cons, List.map_nil, hs, hx, append_types t t' o.type _ _ ht ht' A0 _ c0 u w, hrun]
  exact hK _ _ (h v' w' h2 h3 h4)
end Go.Proofs.Ytmpeckjemgenbaa
namespace Go.Proofs.Ytmpeckjemgenbaa
open Go.RowKit Go.Maps
set_option linter.unusedVariables false
theorem zeroI : ∀ w, (zeroValue 3).run Try.prog w = .ok (.int .i64 0) w := fun w => by kernel_rfl
/-- block b holds the map g, of n entries -/
def OwnMN (w : World) (b n : Nat) (g : Int → Option Int) : Prop :=
  ∃ D : DataW Unit, w.ownsMap Try.prog 3 (plainElem Try.prog 3) b n D ∧ Maps.size D = n ∧ ∀ x, Wf x → has D (.int .i64 x) = (g x).isSome ∧ D.atKey (.int .i64 x) (.lit (.int .i64 0)) = .lit (.int .i64 ((g x).getD 0))
theorem OwnMN.made (w : World) : OwnMN (w.alloc (.map #[] 0)) w.heap.size 0 (fun _ => none) := ⟨.map [], World.ownsMap_made w _ _ _, rfl, fun x _ => ⟨rfl, rfl⟩⟩
theorem OwnMN.kept {w w' : World} {b n : Nat} {g : Int → Option Int} {row : Option Nat} (h : OwnMN w b n g) (hg : w.grownBy w' row) (hne : some b ≠ row) : OwnMN w' b n g := by
  obtain ⟨D, h1, h2⟩ := h
  exact ⟨D, h1.kept hg hne, h2⟩
theorem OwnMN.below {w w' : World} {b n : Nat} {g : Int → Option Int} (h : OwnMN w b n g) (hb : Below w.heap.size w w') : OwnMN w' b n g := h.kept (grown_below (g := none) hb) (by simp)
theorem OwnMN.lt {w : World} {b n : Nat} {g : Int → Option Int} (h : OwnMN w b n g) : b < w.heap.size := by obtain ⟨D, h1, _⟩ := h; exact h1.lt
set_option maxRecDepth 100000 in
theorem OwnMN.look_ok {w : World} {b n : Nat} {g : Int → Option Int} (h : OwnMN w b n g) {x : Int} (hx : Wf x) : (Instr.lookup 55 (.map (some b)) (.int .i64 x) true).run Try.prog w = .ok (.tuple #[.int .i64 ((g x).getD 0), .bool (g x).isSome]) w := by
  obtain ⟨D, h1, _, h2⟩ := h
  obtain ⟨v, ps, hrun, hv⟩ := h1.look_ok lawI Try.underlying55 (zeroI w) (plainElem_int Try.underlying3 (by decide)) (keyI hx)
  rw [(h2 x hx).2] at hv
  obtain ⟨c, rfl, hc, _⟩ := plainElem_int_inv Try.underlying3 hv
  simp only [Prod.mk.injEq] at hc
  have hc1 := hc.1
  injection hc1 with hc1
  injection hc1 with _ hc1
  rw [hrun, (h2 x hx).1, hc1]
set_option maxRecDepth 100000 in
theorem OwnMN.len {w : World} {b n : Nat} {g : Int → Option Int} (h : OwnMN w b n g) (ty : TypeId) : (Builtin.len_ #[55] ty #[.map (some b)]).run Try.prog w = .ok (.int .i64 (n : Int)) w := by
  obtain ⟨D, h1, hs, _⟩ := h
  rw [h1.len Try.underlying55 ty, hs]
/-- how many entries a block's map has -/
def mapLen (w : World) (b : Nat) : Nat := match w.heap[b]? with
  | some (.map es _) => es.size
  | _ => 0
theorem OwnMN.cnt {w : World} {b n : Nat} {g : Int → Option Int} (h : OwnMN w b n g) : mapLen w b = n := by
  obtain ⟨D, ⟨es, clock, hb, F, _, rfl⟩, hs, _⟩ := h
  unfold mapLen
  rw [hb]
  rw [← hs]
  simp [Maps.size, length_sorted]
set_option maxRecDepth 100000 in
theorem wpList_store_N {ops : Array Oper} {rest : List Oper} {o : Oper} {a : Act} {w : World} {Q : Exit → Act → World → Prop} (hg : o.guard = none) (m x v : Operand) (hop : o.op = Op.mapUpdate 55 m x v) (b n : Nat) (g : Int → Option Int)
    (hm : a.eval m = .map (some b)) (hown : OwnMN w b n g) (hn : n < maxLen) (key val : Int) (hnew : g key = none) (hx : a.eval x = .int .i64 key) (hv : a.eval v = .int .i64 val) (hkey : Wf key) (hval : Wf val)
    (hK : ∀ w', OwnMN w' b (n + 1) (fun y => if y = key then some val else g y) → w.grownBy w' (some b) → wpList Try.prog ops Q rest (a.put o.dst undef) w') : wpList Try.prog ops Q (o :: rest) a w := by
  obtain ⟨D, h1, hs, h2⟩ := hown
  refine wpList_mapUpdate_own w hg m x v 55 hop 3 3 lawI Try.underlying55 _ b n D hm h1 hn _ _ _ hx hv (keyI hkey) _ [] (plainElem_int Try.underlying3 hval) fun w' r1 r2 => hK w' ⟨_, r1, ?_, fun y hy => ?_⟩ r2
  · have h3 := (h2 key hkey).1
    rw [hnew] at h3
    rw [size_put (h1.tidy lawI), h3, hs]
    rfl
  · have hKL : WideAt.IsKeyLit (Lit.int .i64 key) := lawI.key (keyI hkey)
    dsimp only
    by_cases e : y = key
    · subst e
      rw [if_pos rfl, has_put_same h1.isMap hKL, atKey_put_same h1.isMap hKL]
      exact ⟨rfl, rfl⟩
    · have hne : (Lit.int .i64 y) ≠ (Lit.int .i64 key) := fun h => e (by injection h)
      rw [if_neg e, has_put_other hne, atKey_put_other hne]
      exact h2 y hy
end Go.Proofs.Ytmpeckjemgenbaa
namespace Go.Proofs.Ytmpeckjemgenbaa
open Go.RowKit Go.Maps
set_option linter.unusedVariables false
theorem zeroB : ∀ w, (zeroValue 4).run Try.prog w = .ok (.bool false) w := fun w => by kernel_rfl
/-- block b holds the set p, of n numbers -/
def OwnMS (w : World) (b n : Nat) (p : Int → Bool) : Prop :=
  ∃ D : DataW Unit, w.ownsMap Try.prog 3 (plainElem Try.prog 4) b n D ∧ Maps.size D = n ∧ ∀ x, Wf x → has D (.int .i64 x) = p x ∧ D.atKey (.int .i64 x) (.lit (.bool false)) = .lit (.bool (p x))
theorem OwnMS.made (w : World) : OwnMS (w.alloc (.map #[] 0)) w.heap.size 0 (fun _ => false) := ⟨.map [], World.ownsMap_made w _ _ _, rfl, fun x _ => ⟨rfl, rfl⟩⟩
theorem OwnMS.kept {w w' : World} {b n : Nat} {p : Int → Bool} {row : Option Nat} (h : OwnMS w b n p) (hg : w.grownBy w' row) (hne : some b ≠ row) : OwnMS w' b n p := by
  obtain ⟨D, h1, h2⟩ := h
  exact ⟨D, h1.kept hg hne, h2⟩
theorem OwnMS.below {w w' : World} {b n : Nat} {p : Int → Bool} (h : OwnMS w b n p) (hb : Below w.heap.size w w') : OwnMS w' b n p := h.kept (grown_below (g := none) hb) (by simp)
theorem OwnMS.lt {w : World} {b n : Nat} {p : Int → Bool} (h : OwnMS w b n p) : b < w.heap.size := by obtain ⟨D, h1, _⟩ := h; exact h1.lt
theorem OwnMS.cnt {w : World} {b n : Nat} {p : Int → Bool} (h : OwnMS w b n p) : mapLen w b = n := by
  obtain ⟨D, ⟨es, clock, hb, F, _, rfl⟩, hs, _⟩ := h
  unfold mapLen
  rw [hb]
  rw [← hs]
  simp [Maps.size, length_sorted]
set_option maxRecDepth 100000 in
theorem plainElem_bool_inv {v : Value} {z : DataW Unit × List MemPlace} (h : plainElem Try.prog 4 v = some z) : ∃ x, v = .bool x ∧ z = (.lit (.bool x), []) := by
  unfold plainElem at h
  rw [Try.underlying4] at h
  cases v <;> simp at h
  exact ⟨_, rfl, h.symm⟩
set_option maxRecDepth 100000 in
theorem OwnMS.look {w : World} {b n : Nat} {p : Int → Bool} (h : OwnMS w b n p) {x : Int} (hx : Wf x) : (Instr.lookup 87 (.map (some b)) (.int .i64 x) false).run Try.prog w = .ok (.bool (p x)) w := by
  obtain ⟨D, h1, _, h2⟩ := h
  obtain ⟨v, ps, hrun, hv⟩ := h1.lookup lawI Try.underlying87 (zeroB w) (plainElem_bool Try.underlying4 false) (keyI hx)
  rw [(h2 x hx).2] at hv
  obtain ⟨c, rfl, hc⟩ := plainElem_bool_inv hv
  simp only [Prod.mk.injEq] at hc
  have hc1 := hc.1
  injection hc1 with hc1
  injection hc1 with hc1
  rw [hrun, hc1]
set_option maxRecDepth 100000 in
theorem wpList_store_S {ops : Array Oper} {rest : List Oper} {o : Oper} {a : Act} {w : World} {Q : Exit → Act → World → Prop} (hg : o.guard = none) (m x v : Operand) (hop : o.op = Op.mapUpdate 87 m x v) (b n : Nat) (p : Int → Bool)
    (hm : a.eval m = .map (some b)) (hown : OwnMS w b n p) (hn : n < maxLen) (key : Int) (hnew : p key = false) (hx : a.eval x = .int .i64 key) (hv : a.eval v = .bool true) (hkey : Wf key)
    (hK : ∀ w', OwnMS w' b (n + 1) (fun y => if y = key then true else p y) → w.grownBy w' (some b) → wpList Try.prog ops Q rest (a.put o.dst undef) w') : wpList Try.prog ops Q (o :: rest) a w := by
  obtain ⟨D, h1, hs, h2⟩ := hown
  refine wpList_mapUpdate_own w hg m x v 87 hop 3 4 lawI Try.underlying87 _ b n D hm h1 hn _ _ _ hx hv (keyI hkey) _ [] (plainElem_bool Try.underlying4 true) fun w' r1 r2 => hK w' ⟨_, r1, ?_, fun y hy => ?_⟩ r2
  · have h3 := (h2 key hkey).1
    rw [hnew] at h3
    rw [size_put (h1.tidy lawI), h3, hs]
    rfl
  · have hKL : WideAt.IsKeyLit (Lit.int .i64 key) := lawI.key (keyI hkey)
    dsimp only
    by_cases e : y = key
    · subst e
      rw [if_pos rfl, has_put_same h1.isMap hKL, atKey_put_same h1.isMap hKL]
      exact ⟨rfl, rfl⟩
    · have hne : (Lit.int .i64 y) ≠ (Lit.int .i64 key) := fun h => e (by injection h)
      rw [if_neg e, has_put_other hne, atKey_put_other hne]
      exact h2 y hy
/-- the set of a list of indices -/
def setI (V : List Nat) : Int → Bool := fun x => decide (0 ≤ x ∧ x.toNat ∈ V)
theorem setI_at (V : List Nat) (a : Nat) : setI V (a : Int) = decide (a ∈ V) := by
  unfold setI
  simp
theorem setI_nil : setI [] = fun _ => false := by funext x; simp [setI]
theorem setI_cons (a : Nat) (V : List Nat) : setI (a :: V) = fun y => if y = (a : Int) then true else setI V y := by
  funext y
  unfold setI
  by_cases e : y = (a : Int)
  · subst e; simp
  · rw [if_neg e]
    by_cases h0 : 0 ≤ y
    · have : y.toNat ≠ a := by omega
      simp [h0, this]
    · simp [h0]
end Go.Proofs.Ytmpeckjemgenbaa
namespace Go.Proofs.Ytmpeckjemgenbaa
open Go.RowKit
set_option linter.unusedVariables false
/-- the numbers in order -/
def srt (l : List Int) : List Int := l.mergeSort fun x y => decide (x ≤ y)
theorem srt_perm (l : List Int) : (srt l).Perm l := List.mergeSort_perm _ _
theorem srt_len (l : List Int) : (srt l).length = l.length := (srt_perm l).length_eq
theorem srt_pairwise (l : List Int) : (srt l).Pairwise (· ≤ ·) := by
  have h := List.pairwise_mergeSort (le := fun x y : Int => decide (x ≤ y)) (by intro a b c h1 h2; simp at *; omega) (by intro a b; simp; omega) l
  exact h.imp (by intro a b h; simpa using h)
theorem srt_eq {l m : List Int} (h : l.Perm m) : srt l = srt m := by
  refine List.Perm.eq_of_pairwise (le := fun a b : Int => a ≤ b) (fun a b _ _ h1 h2 => by omega) (srt_pairwise l) (srt_pairwise m) ?_
  exact (srt_perm l).trans (h.trans (srt_perm m).symm)
def SortPost (base : Nat) (v : Value) (l : List Int) (w : World) (e : Ending) (w' : World) : Prop := e = .returned (.tuple #[]) ∧ OwnI w' base v (srt l) ∧ w.grownBy w' v.ownBlock
theorem sortI_own (base : Nat) (v : Value) (l : List Int) (w : World) (h : OwnI w base v l) (hl : l.length < 4611686018427387904) : Calls Try.prog 38 #[v] w (SortPost base v l w) := by
  rcases h.2 with ⟨rfl, h0⟩ | ⟨g, cap, cur, rfl, hb, hg, hnc, hcm, hcs, htake⟩
  · obtain rfl : l = [] := List.eq_nil_of_length_eq_zero h0
    refine (Try.sort_int_none _ _ _).mono ?_
    rintro e w' ⟨rfl, rfl⟩
    exact ⟨rfl, by simpa [srt] using h, grown_self _ _⟩
  · have hH := holds_of_blockI (ss := l) hg (by simpa [encI] using htake)
    have hlt := (Array.getElem?_eq_some_iff.1 hg).1
    refine (Try.sort_int g 0 cap l w hH hlt hl).mono ?_
    rintro e w' ⟨rfl, n, os, rfl⟩
    refine ⟨rfl, ?_, grownBy_sortedI _⟩
    have := ownsRow_sortedI (w := w) (base := base) (n := n) (os := os) (ss := l) (ts := srt l) (srt_len l) hb hg hnc hcm hcs
    unfold OwnI
    rw [srt_len]
    exact this
end Go.Proofs.Ytmpeckjemgenbaa
namespace Go.Proofs.Ytmpeckjemgenbaa
open Go.RowKit
set_option linter.unusedVariables false
theorem box_nw (w : World) (a kd nm : Int) (tx : ByteArray) (v : Value) (t : TypeId) : BX (w.alloc (.cells #[.int .i64 a, .int .i64 kd, .int .i64 nm, .string tx, v] t)) w.heap.size a kd nm tx v := by
  constructor <;> simp [go_sem]
def lenW : Value → Nat
  | .slice _ n _ => n
  | _ => 0
structure CelW (f : List Nat) (wd mb base : Nat) (w wr : World) (qv ov : Value) (V q : List Nat) : Prop where
  inv : RInv f wd V q
  qu : QW wr base qv q
  m : OwnMS wr mb V.length (setI V)
  out : OwnI wr base ov (cellsV f V)
  ne : ∀ k, qv.ownBlock = some k → ov.ownBlock ≠ some k
  below : Below w.heap.size w wr
  hs : base ≤ wr.heap.size
  few : q.length ≤ 1 + 400 * V.length
theorem CelW.step {f : List Nat} {wd mb base : Nat} {w wx wy : World} {qv ov : Value} {V q : List Nat} (h : CelW f wd mb base w wx qv ov V q) (hb : Below wx.heap.size wx wy) : CelW f wd mb base w wy qv ov V q :=
  ⟨h.inv, h.qu.below hb, h.m.below hb, h.out.below hb, h.ne, h.below.trans (hb.mono h.below.size), Nat.le_trans h.hs hb.size, h.few⟩
theorem CelW.cut {f : List Nat} {wd mb base : Nat} {w wx : World} {qv v' ov : Value} {V q rest : List Nat} (h : CelW f wd mb base w wx qv ov V q) (hi : RInv f wd V rest) (hq : QW wx base v' rest) (hb : v'.ownBlock = qv.ownBlock) (hle : rest.length < q.length) : CelW f wd mb base w wx v' ov V rest :=
  ⟨hi, hq, h.m, h.out, fun k hk => h.ne k (by rw [← hb]; exact hk), h.below, h.hs, by have := h.few; omega⟩
/-- in the midst of a round: the object is read, the index is noted -/
structure CelM (f : List Nat) (mb base N bx : Nat) (w wx : World) (qv ov : Value) (V q : List Nat) (pA : Option Addr) (pc m : Nat) : Prop where
  qu : QW wx base qv q
  mp : OwnMS wx mb (V.length + 1) (setI (m :: V))
  out : OwnI wx base ov (cellsV f (m :: V))
  ne : ∀ k, qv.ownBlock = some k → ov.ownBlock ≠ some k
  below : Below w.heap.size w wx
  hs : base ≤ wx.heap.size
  cell : wx.cell? ⟨bx, 4, none⟩ = some (.slice pA (paR f m).length pc)
  own : OwnU wx N (.slice pA (paR f m).length pc) (paR f m)
def CelB (f : List Nat) (mb base N bx : Nat) (w wx : World) (qv x : Value) (V q : List Nat) (pA : Option Addr) (pc m : Nat) : Prop := ∃ oA oc, x = .slice oA (cellsV f (m :: V)).length oc ∧ CelM f mb base N bx w wx qv (.slice oA (cellsV f (m :: V)).length oc) V q pA pc m
def CellsYes (f : List Nat) (wd : Nat) (w : World) (e : Ending) (w' : World) : Prop := ∃ V v, RInv f wd V [] ∧ e = .returned (.tuple #[v, .int .i64 0]) ∧ OwnI w' w.heap.size v (srt (cellsV f V)) ∧ Below w.heap.size w w'
def CellsNo (f : List Nat) (wd : Nat) (w : World) (e : Ending) (w' : World) : Prop := (∀ D, GoodD f wd D → OkH f → False) ∧ ∃ x : Int, x ≠ 0 ∧ e = .returned (.tuple #[.slice none 0 0, .int .i64 x]) ∧ Below w.heap.size w w'
theorem cel_less {wx wy : World} {mb n r : Nat} {p p' : Int → Bool} (h : OwnMS wx mb n p) (h' : OwnMS wy mb n p') : 1000 * (4000 - mapLen wy mb) + r < 1000 * (4000 - mapLen wx mb) + (r + 1) := by
  rw [h.cnt, h'.cnt]
  omega
set_option maxRecDepth 100000 in
set_option maxHeartbeats 8000000 in
theorem cells_any (f : List Nat) (fA : Option Addr) (fc wd : Nat) (w : World) (hF : Su w (.slice fA f.length fc) f) (f64 : All64 f) (hfl : f.length ≤ 17592186044416) (hwd : wd < 18446744073709551616) :
    Calls Try.prog 24 #[.slice fA f.length fc, .int .u64 (wd : Int)] w fun e w' => CellsYes f wd w e w' ∨ CellsNo f wd w e w' := by
  have HF := Lib.hid hF
  have HF64 := Lib.hid f64
  have HWD := Lib.hid hwd
  clear hF f64 hwd
  have hmm := @run_makeMap Try.prog
  go_enter Try.func24, Try.ntmps24
  go_wp2_with fail
  refine (Objects_any f fA fc _ HF.out HF64.out hfl).mono ?_
  rintro e w1 (⟨hf4, l, hO, v, C, rfl, hrow, hb⟩ | ⟨hno, x, hx, rfl, hb⟩)
  · have HB1 := Lib.hid hb
    obtain ⟨A1, c1, rfl, _, _, _⟩ := own_any hrow.row
    clear hO hrow hb
    obtain ⟨mb, hmb⟩ : ∃ mb, w1.heap.size = mb := ⟨_, rfl⟩
    have HMB := Lib.hid hmb
    obtain ⟨W2, hW2⟩ : ∃ W2, W2 = (w1.alloc (.map #[] 0)).alloc (.cells #[.int .u64 ((wd : Nat) : Int)] 34) := ⟨_, rfl⟩
    have HA0 := Lib.hid (show CelW f wd mb (mb + 1) w W2 (.slice (some ⟨mb + 1, 0, none⟩) 1 1) (.slice none 0 0) [] [wd] from by
      rw [hW2, ← hmb]
      have h1 : OwnU ((w1.alloc (.map #[] 0)).alloc (.cells #[.int .u64 ((wd : Nat) : Int)] 34)) (w1.heap.size + 1) (.slice (some ⟨w1.heap.size + 1, 0, none⟩) 1 1) [wd] := by
        have := own_newU (w1.alloc (.map #[] 0)) wd (w1.heap.size + 1) (by simp)
        simpa using this
      refine ⟨RInv.init HWD.out, QW.of_own h1, ?_, OwnI.nil _ _, (fun k _ e => by cases e), ?_, by simp, by simp⟩
      · rw [setI_nil]
        exact (OwnMS.made w1).below ((Below.refl _ _).alloc (Nat.le_refl _) _)
      · exact HB1.out.trans ((((Below.refl _ _).alloc (Nat.le_refl _) _).alloc (by simp) _).mono HB1.out.size))
    clear hmb
    go_wp2_with fail
    rw [← hW2, HMB.out]
    have hz0 : w.heap.size ≤ mb := by rw [← HMB.out]; exact HB1.out.size
    clear hW2 hmm HB1
    go_loopw [8, 10, 11, 12, 13, 14] (fun x8 x10 _ _ _ _ wx => ∃ (V q : List Nat) (Av oA : Option Addr) (cv oc : Nat), x10 = .slice Av q.length cv ∧ x8 = .slice oA (cellsV f V).length oc ∧ CelW f wd mb (mb + 1) w wx (.slice Av q.length cv) (.slice oA (cellsV f V).length oc) V q) (fun _ x10 _ _ _ _ wx => 1000 * (4000 - mapLen wx mb) + lenW x10)
    case atStart => exact ⟨[], [wd], _, none, _, 0, rfl, rfl, HA0.out⟩
    case round =>
      obtain ⟨V, q, Av, oA, cv, oc, rfl, rfl, hA⟩ := hrel
      have HA := Lib.hid hA
      clear hA HA0
      obtain ⟨L8, hL8⟩ : ∃ L8, (cellsV f V).length = L8 := ⟨_, rfl⟩
      have HL8 := Lib.hid hL8
      rw [hL8] at HA
      rw [hL8]
      clear hL8
      cases q with
      | nil =>
        have hl8 : (cellsV f V).length ≤ 17592186044416 := by
          have h1 := cellsV_len f V
          have h2 := HA.out.inv.len
          omega
        go_wp2_with fail
        refine (sortI_own (mb + 1) (.slice oA L8 oc) (cellsV f V) wr HA.out.out (by omega)).mono ?_
        rintro e w4 ⟨rfl, hO4, hG4⟩
        have HO4 := Lib.hid hO4
        have HG4 := Lib.hid hG4
        clear hO4 hG4 hl8
        go_wp2_with fail
        go_ret2
        exact .inl ⟨V, _, HA.out.inv, rfl, HO4.out.mono (by omega), below_grown HA.out.below HA.out.below.size HG4.out (fun g hg => by have := (HA.out.out.blk g hg).1; omega)⟩
      | cons p rest =>
        obtain ⟨bQ, oQ, rfl, hbQ, hbQ2, c0, A2, hcut, hQ2, hown2⟩ := HA.out.qu.head
        have hp64 := HA.out.inv.u64 p List.mem_cons_self
        obtain ⟨r, hr⟩ : ∃ r, rest.length = r := ⟨_, rfl⟩
        have hcut1 : ∀ w', (Instr.sliceAt 22 (.slice (some ⟨bQ, oQ, none⟩) (r + 1) cv) (some (.int .i64 1)) none none).run Try.prog w' = .ok (.slice A2 r (cv - 1)) w' := fun w' => by
          have := hcut w'
          rw [List.length_cons, hr] at this
          exact this
        have HQ2 := Lib.hid hQ2
        have HO2 := Lib.hid hown2
        have HR := Lib.hid hr
        have hln : (p :: rest).length = r + 1 := by rw [List.length_cons, hr]
        rw [hln]
        have gn : (0 : Int) < (r : Int) + 1 := by omega
        clear hcut hQ2 hown2 hr hln
        cases hok : okR (p : Int) with
        | false =>
          have HRN := Lib.hid (fun W => read_no (p : Int) W ⟨by omega, by omega⟩ hok)
          have HOK := Lib.hid hok
          clear hok
          go_wp2_with fail
          refine (HRN.out _).mono ?_
          rintro e w1 ⟨rfl, rfl⟩
          go_wp2_with fail
          go_ret2
          refine .inr ⟨fun D hD _ => ?_, 3, by omega, rfl, HA.out.below⟩
          have h1 := ((HA.out.inv.reach D hD).2 p List.mem_cons_self).1
          rw [HOK.out] at h1
          cases h1
        | true =>
          have HRY := Lib.hid (fun W => read_ok (p : Int) W ⟨by omega, by omega⟩ hok)
          have HOK := Lib.hid hok
          by_cases ht : tagOf (p : Int) = 4
          · obtain ⟨hnm, hm60⟩ := okR_at hok ht
            rw [ht, hnm] at HRY
            have HT := Lib.hid ht
            obtain ⟨m, hm⟩ : ∃ m, atOf p = m := ⟨_, rfl⟩
            have HMM := Lib.hid hm
            rw [hm] at HRY hm60
            clear ht hnm hok hm
            have HWM := Lib.hid (show Wf ((m : Nat) : Int) from Wf.of (by omega) (by omega))
            clear hm60
            by_cases hin : m ∈ V
            · have HINV := Lib.hid (HA.out.inv.drop (q' := rest) p (fun x hx => List.mem_cons.1 hx) (fun x hx => List.mem_cons_of_mem _ hx) HOK.out (fun _ => by rw [HMM.out]; exact hin))
              have look1 : (Instr.lookup 87 (.map (some mb)) (.int .i64 ((m : Nat) : Int)) false).run Try.prog wr = .ok (.bool true) wr := by
                have := HA.out.m.look HWM.out
                rw [setI_at, decide_eq_true hin] at this
                exact this
              clear hin
              go_wp2_with fail
              refine (HRY.out _).mono ?_
              rintro e w1 ⟨rfl, rfl⟩
              go_wp2_with fail
              refine ⟨⟨V, rest, A2, oA, cv - 1, oc, by rw [HR.out], by rw [HL8.out], ?_⟩, ?_⟩
              · rw [HL8.out]
                exact HA.out.cut HINV.out HQ2.out HO2.out (by simp)
              · show _ + r < _ + (r + 1)
                omega
            · have HIN := Lib.hid hin
              have look1 : (Instr.lookup 87 (.map (some mb)) (.int .i64 ((m : Nat) : Int)) false).run Try.prog wr = .ok (.bool false) wr := by
                have := HA.out.m.look HWM.out
                rw [setI_at, decide_eq_false hin] at this
                exact this
              have hPl : V.length < maxLen := by
                have h1 := HA.out.inv.len
                unfold maxLen
                omega
              have HPL := Lib.hid hPl
              have HNO := Lib.hid (show setI V ((m : Nat) : Int) = false by rw [setI_at]; exact decide_eq_false hin)
              clear hin hPl
              go_wp2_with fail
              refine (HRY.out _).mono ?_
              rintro e w1 ⟨rfl, rfl⟩
              go_wp2_with (at_mapUpdate; (refine wpList_store_S rfl _ _ _ rfl mb V.length (setI V) rfl HA.out.m HPL.out ((m : Nat) : Int) HNO.out rfl rfl HWM.out ?_; intro w5 hM5 hg5; have HM5 := Lib.hid hM5; have HG5 := Lib.hid hg5; clear hM5 hg5))
              have HB5 := Lib.hid (show Below w.heap.size w w5 from below_grown HA.out.below HA.out.below.size HG5.out (fun g hg => by injection hg with hg; omega))
              refine (At_any f fA fc ((m : Nat) : Int) w5 (HF.out.below HB5.out) HF64.out hfl).mono ?_
              rintro e w6 (⟨a, ha, hrd, pA, pc, rfl, ho6, hb6⟩ | ⟨hno, x, hx, rfl, hb6, -⟩)
              · obtain rfl : m = a := by omega
                have HRD := Lib.hid hrd
                have HO6 := Lib.hid ho6
                have HB6 := Lib.hid hb6
                clear ho6 hb6 hrd ha
                have HQ5 := Lib.hid (show QW w5 (mb + 1) (.slice (some ⟨bQ, oQ, none⟩) (r + 1) cv) (p :: rest) from by
                  have := HA.out.qu.grown HG5.out (fun k hk e => by injection e with e; have := (HA.out.qu.2 k hk).1; omega)
                  rw [List.length_cons, HR.out] at this
                  exact this)
                have HO5 := Lib.hid (show OwnI w5 (mb + 1) (.slice oA L8 oc) (cellsV f V) from HA.out.out.grown HG5.out (fun k hk e => by injection e with e; have := (HA.out.out.blk k hk).1; omega))
                have HKB := Lib.hid (show ∀ k, (Value.slice (some (⟨bQ, oQ, none⟩ : Addr)) (r + 1) cv).ownBlock = some k → bQ = k from fun k hk => by injection hk)
                have HNE := Lib.hid (show ∀ k, (Value.slice oA L8 oc).ownBlock = some k → k ≠ bQ ∧ k < w5.heap.size from fun k hk => ⟨fun e => HA.out.ne bQ rfl (by rw [← e]; exact hk), (HO5.out.blk k hk).2⟩)
                have hz5 : wr.heap.size ≤ w5.heap.size := HG5.out.size
                have hz6 : w5.heap.size ≤ w6.heap.size := HB6.out.size
                have HM5' := Lib.hid (show OwnMS w5 mb (V.length + 1) (setI (m :: V)) from by rw [setI_cons]; exact HM5.out)
                have hbs := HA.out.hs
                have hL8 : (cellsV f V).length ≤ 1000000 := by
                  have h1 := cellsV_len f V
                  have h2 := HA.out.inv.len
                  omega
                have HLL8 := Lib.hid hL8
                clear hL8
                go_upto_if 61 with (fail)
                go_cut [8] (fun x8 wx => CelB f mb (mb + 1) w5.heap.size w6.heap.size w wx (.slice (some ⟨bQ, oQ, none⟩) (r + 1) cv) x8 V (p :: rest) pA pc m)
                case first =>
                  have h7 : Below w5.heap.size w5 (w6.alloc (.cells #[.int .i64 ((m : Nat) : Int), .int .i64 ((kdR f m : Nat) : Int), .int .i64 (nmR f m), .string (txR f m), .slice pA (paR f m).length pc] 30)) := HB6.out.alloc HB6.out.size _
                  have H7 := Lib.hid h7
                  have H67 := Lib.hid (show Below w6.heap.size w6 (w6.alloc (.cells #[.int .i64 ((m : Nat) : Int), .int .i64 ((kdR f m : Nat) : Int), .int .i64 (nmR f m), .string (txR f m), .slice pA (paR f m).length pc] 30)) from (Below.refl _ _).alloc (Nat.le_refl _) _)
                  have HC7 := Lib.hid (box_nw w6 m ((kdR f m : Nat) : Int) (nmR f m) (txR f m) (.slice pA (paR f m).length pc) 30)
                  clear h7
                  by_cases hk : kdR f m = 5
                  · have e1 : (((kdR f m : Nat) : Int) == 5) = true := by simp; omega
                    have e2 : decide (((kdR f m : Nat) : Int) = 5) = true := by simp; omega
                    have HK := Lib.hid hk
                    clear hk
                    go_wp2_with (at_builtin; (refine wpList_append_int rfl _ _ rfl (mb + 1) (.slice oA L8 oc) (cellsV f V) rfl (HO5.out.below H7.out) (w6.heap.size + 1) (by simp) ((m : Nat) : Int) rfl HLL8.out (by have := H7.out.size; omega) ?_; intro v8 w8 hO8 hg8 hat8; have HO8 := Lib.hid hO8; have HG8 := Lib.hid hg8; have HA8 := Lib.hid hat8; clear hO8 hg8 hat8))
                    go_meet
                    obtain ⟨A8, c8, hv8, _, _, _⟩ := own_any HO8.out
                    have hl8 : (cellsV f V ++ [((m : Nat) : Int)]).length = (cellsV f (m :: V)).length := by rw [cellsV_yes V HK.out]
                    rw [hl8] at hv8
                    refine ⟨A8, c8, hv8, ?_⟩
                    rw [← hv8]
                    have hg8 := HG8.out
                    have hz7 := H7.out.size
                    have hs7 := H67.out.size
                    exact ⟨(HQ5.out.below H7.out).grown hg8 (fun k hk e => (HNE.out k e).1 (by injection hk with hk; exact hk.symm)), (HM5'.out.below H7.out).kept hg8 (fun e => by have := (HO5.out.blk mb e.symm).1; omega), by rw [cellsV_yes V HK.out]; exact HO8.out,
                      fun k hk e => by
                        replace hk := HKB.out k hk
                        rcases HA8.out with h1 | h1
                        · exact (HNE.out k (by rw [← h1]; exact e)).1 hk.symm
                        · rw [h1] at e; injection e with e; omega,
                      below_grown (HB5.out.trans (H7.out.mono HB5.out.size)) (Nat.le_trans HB5.out.size hz7) hg8 (fun k hk => by have := (HO5.out.blk k hk).1; omega), by have := hg8.size; omega,
                      (grown_cell hg8 (by simp) (fun e => by have := (HNE.out _ e.symm).2; omega)).trans HC7.out.x4,
                      (HO6.out.below H67.out).grown hg8 (fun k hk e => by have h1 := (HO6.out.blk k hk).1; have h2 := (HNE.out k e).2; omega)⟩
                  · have e1 : (((kdR f m : Nat) : Int) == 5) = false := by simp; omega
                    have e2 : decide (((kdR f m : Nat) : Int) = 5) = false := by simp; omega
                    have HK := Lib.hid hk
                    clear hk
                    go_wp2_with fail
                    go_meet
                    refine ⟨oA, oc, by rw [cellsV_no V HK.out, HL8.out], ?_⟩
                    rw [cellsV_no V HK.out, HL8.out]
                    exact ⟨HQ5.out.below H7.out, HM5'.out.below H7.out, by rw [cellsV_no V HK.out]; exact HO5.out.below H7.out, fun k hk e => (HNE.out k e).1 (by injection hk with hk; exact hk.symm), HB5.out.trans (H7.out.mono HB5.out.size), by have := H7.out.size; omega, HC7.out.x4, HO6.out.below H67.out⟩
                case rest =>
                  obtain ⟨oB, od, rfl, hM⟩ := hcut
                  have HM := Lib.hid hM
                  have y4 := hM.cell
                  clear hM
                  have hV40 : V.length + 1 ≤ 4000 ∧ (paR f m).length ≤ 400 ∧ r ≤ 1600000 ∧ r ≤ 400 * V.length := by
                    have h1 := (HA.out.inv.new (q' := rest) HF64.out p List.mem_cons_self (fun x hx => List.mem_cons.1 hx) (fun x hx => List.mem_cons_of_mem _ hx) HOK.out HT.out (by rw [HMM.out]; exact HIN.out) (by rw [HMM.out]; exact HRD.out)).len
                    have h2 := HA.out.few
                    have h3 := HR.out
                    have h4 := HRD.out.2.1.2.1
                    have h5 : (paR f m).length ≤ plR f m := by unfold paR; rw [List.length_take]; omega
                    simp only [List.length_cons] at h1 h2
                    omega
                  have HV := Lib.hid hV40
                  have hlB : (p :: rest).length + (paR f m).length ≤ 10000000 := by
                    simp only [List.length_cons, HR.out]
                    omega
                  have HLB := Lib.hid hlB
                  clear hV40 hlB
                  go_wp2_with (at_builtin; (refine wpList_append_qw rfl _ _ 22 22 rfl Try.underlying22 Try.underlying22 (mb + 1) (.slice (some ⟨bQ, oQ, none⟩) (r + 1) cv) (p :: rest) rfl HM.out.qu (.slice pA (paR f m).length pc) (paR f m) rfl (Su.of_own HM.out.own) HLB.out HM.out.hs ?_; intro v4 w4 hq4 hg4 hat4; obtain ⟨A4, c4, hv4, -, -⟩ := hq4.form; obtain ⟨n4, hn4⟩ : ∃ n4, ((p :: rest) ++ paR f m).length = n4 := ⟨_, rfl⟩; rw [hn4] at hv4; subst hv4; obtain ⟨b4, o4, hA4, -, -, -, A5, hcut5, hq5, hown5⟩ := (show QW w4 (mb + 1) (.slice A4 n4 c4) (p :: (rest ++ paR f m)) from hq4).head; have HN4 := Lib.hid hn4; have HG4 := Lib.hid hg4; have HA4 := Lib.hid hat4; have HQ5' := Lib.hid hq5; have HO5' := Lib.hid hown5; have HAA := Lib.hid hA4; have HQ4 := Lib.hid hq4; clear hn4 hg4 hat4 hq5 hown5 hA4 hq4))
                  have hvv := HV.out
                  have hlen : (rest ++ paR f m).length = rest.length + (paR f m).length := List.length_append
                  refine ⟨⟨m :: V, rest ++ paR f m, A5, oB, c4 - 1, od, by rw [hlen], rfl, ?_⟩, ?_⟩
                  · refine ⟨?_, HQ5'.out, ?_, HM.out.out.grown HG4.out (fun k hk e => HM.out.ne k e hk), fun k hk e => ?_, below_grown HM.out.below HM.out.below.size HG4.out (fun g hg => by have := HKB.out g hg; omega), by have := HG4.out.size; have := HM.out.hs; omega, ?_⟩
                    · have := HA.out.inv.new (q' := rest) HF64.out p List.mem_cons_self (fun x hx => List.mem_cons.1 hx) (fun x hx => List.mem_cons_of_mem _ hx) HOK.out HT.out (by rw [HMM.out]; exact HIN.out) (by rw [HMM.out]; exact HRD.out)
                      rw [HMM.out] at this
                      exact this
                    · exact HM.out.mp.kept HG4.out (fun e => by have := HKB.out mb e.symm; omega)
                    · have h1 : (Value.slice A4 n4 c4).ownBlock = some k := by
                        rw [HAA.out]
                        have h2 := HO5'.out
                        rw [hk] at h2
                        injection h2 with h2
                        rw [h2]
                        rfl
                      rcases HA4.out with h2 | ⟨g, h2, h3⟩
                      · rw [h1] at h2
                        exact HM.out.ne k h2.symm e
                      · rw [h1] at h2
                        injection h2 with h2
                        have := (HM.out.out.blk k e).2
                        omega
                    · rw [hlen, HR.out, List.length_cons]
                      omega
                  · have h1 := (HM.out.mp.kept HG4.out (fun e => by have := HKB.out mb e.symm; omega)).cnt
                    rw [h1, HA.out.m.cnt]
                    show 1000 * (4000 - (V.length + 1)) + (rest.length + (paR f m).length) < 1000 * (4000 - V.length) + (r + 1)
                    rw [HR.out]
                    omega
              · have HB6 := Lib.hid hb6
                have x0 : (x != 0) = true := by simpa using hx
                clear hb6
                go_wp2_with fail
                go_ret2
                refine .inr ⟨fun D hD _ => hno ⟨m, rfl, ?_⟩, x, hx, rfl, ?_⟩
                · have h1 := ((HA.out.inv.reach D hD).2 p List.mem_cons_self).2 HT.out
                  rw [HMM.out] at h1
                  exact hD.reads m h1
                · exact (HB5.out.trans (HB6.out.mono HB5.out.size)).alloc (Nat.le_trans HB5.out.size HB6.out.size) _
          · have HINV := Lib.hid (HA.out.inv.drop (q' := rest) p (fun x hx => List.mem_cons.1 hx) (fun x hx => List.mem_cons_of_mem _ hx) hok (fun h => absurd h ht))
            obtain ⟨T, hT⟩ : ∃ T, tagOf (p : Int) = T := ⟨_, rfl⟩
            obtain ⟨N, hN⟩ : ∃ N, numOf (p : Int) = N := ⟨_, rfl⟩
            rw [hT, hN] at HRY
            rw [hT] at ht
            have d1 : decide (T = 4) = false := decide_eq_false ht
            have d2 : (T == 4) = false := by simpa using ht
            have d3 : (T != 4) = true := by simpa using ht
            clear hT hN hok
            go_wp2_with fail
            refine (HRY.out _).mono ?_
            rintro e w1 ⟨rfl, rfl⟩
            go_wp2_with fail
            refine ⟨⟨V, rest, A2, oA, cv - 1, oc, by rw [HR.out], by rw [HL8.out], ?_⟩, ?_⟩
            · rw [HL8.out]
              exact HA.out.cut HINV.out HQ2.out HO2.out (by simp)
            · show _ + r < _ + (r + 1)
              omega
  · have HB := Lib.hid hb
    have x0 : (x != 0) = true := by simpa using hx
    go_wp2_with fail
    go_ret2
    exact .inr ⟨fun D _ h => hno h, x, hx, rfl, HB.out⟩
end Go.Proofs.Ytmpeckjemgenbaa
namespace Go.Proofs.Ytmpeckjemgenbaa
open Go.RowKit
set_option linter.unusedVariables false
structure RchW (f : List Nat) (wd mb base : Nat) (w wr : World) (qv : Value) (V q : List Nat) : Prop where
  inv : RInv f wd V q
  qu : QW wr base qv q
  m : OwnMS wr mb V.length (setI V)
  below : Below w.heap.size w wr
  hs : base ≤ wr.heap.size
  few : q.length ≤ 1 + 400 * V.length
theorem RchW.cut {f : List Nat} {wd mb base : Nat} {w wx : World} {qv v' : Value} {V q rest : List Nat} (h : RchW f wd mb base w wx qv V q) (hi : RInv f wd V rest) (hq : QW wx base v' rest) (hle : rest.length < q.length) : RchW f wd mb base w wx v' V rest :=
  ⟨hi, hq, h.m, h.below, h.hs, by have := h.few; omega⟩
set_option maxRecDepth 100000 in
set_option maxHeartbeats 8000000 in
theorem reached_ok (f : List Nat) (fA xA : Option Addr) (fc xc wd : Nat) (w : World) (hF : Su w (.slice fA f.length fc) f) (hX : Su w (.slice xA 1 xc) [wd]) (f64 : All64 f) (hfl : f.length ≤ 4000) (hwd : wd < 18446744073709551616) (D : Nat → Prop) (hD : GoodD f wd D) :
    Calls Try.prog 39 #[.slice fA f.length fc, .slice xA 1 xc, .int .i64 0] w fun e w' => ∃ V mb, RInv f wd V [] ∧ e = .returned (.map (some mb)) ∧ OwnMS w' mb V.length (setI V) ∧ w.heap.size ≤ mb ∧ Below w.heap.size w w' := by
  have HF := Lib.hid hF
  have HX := Lib.hid hX
  have HF64 := Lib.hid f64
  have HWD := Lib.hid hwd
  have HD := Lib.hid hD
  clear hF f64 hwd hX hD
  have hmm := @run_makeMap Try.prog
  have hz0 : w.heap.size < (w.alloc (.map #[] 0)).heap.size := by simp
  have HX1 := Lib.hid (HX.out.below (show Below w.heap.size w (w.alloc (.map #[] 0)) from (Below.refl _ _).alloc (Nat.le_refl _) _))
  go_enter Try.func39, Try.ntmps39
  go_wp2_with (at_builtin; go_loud (refine wpList_append_us rfl _ _ 22 22 rfl Try.underlying22 Try.underlying22 (w.heap.size + 1) (.slice none 0 0) [] rfl (OwnU.nil _ _) (.slice xA 1 xc) [wd] rfl HX1.out (by simp) (by simp) ?_; intro v4 w4 hown4 hgrow4 hat4; have HO4 := Lib.hid hown4; have HG4 := Lib.hid hgrow4; clear hown4 hgrow4 hat4))
  obtain ⟨A4, c4, rfl, _, _, _⟩ := own_any HO4.out
  obtain ⟨mb, hmb⟩ : ∃ mb, w.heap.size = mb := ⟨_, rfl⟩
  have hB0 : Below w.heap.size w (w.alloc (.map #[] 0)) := (Below.refl _ _).alloc (Nat.le_refl _) _
  have HA0 := Lib.hid (show RchW f wd mb (mb + 1) w w4 (.slice A4 ([wd] : List Nat).length c4) [] [wd] from by
    rw [← hmb]
    refine ⟨RInv.init HWD.out, QW.of_own HO4.out, ?_, below_grown hB0 (by simp) HG4.out (fun g hg => by cases hg), by have := HG4.out.size; simp at this; omega, by simp⟩
    rw [setI_nil]
    exact (OwnMS.made w).kept HG4.out (fun e => by cases e))
  have el1 : ([] ++ [wd] : List Nat).length = 1 := rfl
  rw [hmb, el1]
  clear el1
  have HMB := Lib.hid hmb
  have hz1 : w.heap.size ≤ mb := by omega
  clear hB0 hz0 hmb hmm HX1
  go_loopw [8, 9, 10, 11, 12, 13] (fun x8 _ _ _ _ _ wx => ∃ (V q : List Nat) (Av : Option Addr) (cv : Nat), x8 = .slice Av q.length cv ∧ RchW f wd mb (mb + 1) w wx (.slice Av q.length cv) V q) (fun x8 _ _ _ _ _ wx => 1000 * (4000 - mapLen wx mb) + lenW x8)
  case atStart => exact ⟨[], [wd], A4, c4, rfl, HA0.out⟩
  case round =>
    obtain ⟨V, q, Av, cv, rfl, hA⟩ := hrel
    have HA := Lib.hid hA
    clear hA HA0 HO4 HG4
    rcases List.eq_nil_or_concat q with rfl | ⟨rest, p, rfl⟩
    · go_wp2_with fail
      go_ret
      exact ⟨V, mb, HA.out.inv, rfl, HA.out.m, hz1, HA.out.below⟩
    · rw [List.concat_eq_append] at HA ⊢
      obtain ⟨bQ, oQ, rfl, hbQ, hbQ2, c0, hQ2, hcut⟩ := HA.out.qu.last
      have hmem : p ∈ rest ++ [p] := List.mem_append_right _ List.mem_cons_self
      have hp64 := HA.out.inv.u64 p hmem
      obtain ⟨hok, hat⟩ := (HA.out.inv.reach D HD.out).2 p hmem
      obtain ⟨r, hr⟩ : ∃ r, rest.length = r := ⟨_, rfl⟩
      have HQ2 := Lib.hid hQ2
      have HR := Lib.hid hr
      have hln : (rest ++ [p]).length = r + 1 := by rw [List.length_append, hr]; rfl
      rw [hln]
      rw [hr] at c0
      have hcut1 : ∀ w', (Instr.sliceAt 22 (.slice (some ⟨bQ, oQ, none⟩) (r + 1) cv) none (some (.int .i64 (r : Int))) none).run Try.prog w' = .ok (.slice (some ⟨bQ, oQ, none⟩) r cv) w' := fun w' => by
        have := hcut w'
        rw [hln, hr] at this
        exact this
      have hsub1 : ∀ x ∈ rest ++ [p], x = p ∨ x ∈ rest := fun x hx => by
        rcases List.mem_append.1 hx with h | h
        · exact .inr h
        · exact .inl (by simpa using h)
      have hsub2 : ∀ x ∈ rest, x ∈ rest ++ [p] := fun x hx => List.mem_append_left _ hx
      have HS1 := Lib.hid hsub1
      have HS2 := Lib.hid hsub2
      have HMEM := Lib.hid hmem
      have hr16 : r ≤ 1600000 ∧ r ≤ 400 * V.length := by
        have h1 := HA.out.few
        have h2 := HA.out.inv.len
        rw [hln] at h1
        omega
      have HR16 := Lib.hid hr16
      have gb : (r : Int) ≤ 1600000 := by omega
      have gb0 : (0 : Int) ≤ (r : Int) := by omega
      have gn : (0 : Int) < (r : Int) + 1 := by omega
      clear hr16
      have gn2 : (r : Int) + 1 - 1 = (r : Int) := by omega
      have HTR := Lib.hid (fun W => tread_ok (p : Int) W ⟨by omega, by omega⟩ hok)
      have HOK := Lib.hid hok
      have HAT := Lib.hid hat
      clear hQ2 hcut hr hln hsub1 hsub2 hmem hok hat
      by_cases ht : tagOf (p : Int) = 4
      · have hrd := HD.out.reads _ (HAT.out ht)
        obtain ⟨hnm, hm60⟩ := okR_at HOK.out ht
        rw [ht, hnm] at HTR
        have HT := Lib.hid ht
        obtain ⟨m, hm⟩ : ∃ m, atOf p = m := ⟨_, rfl⟩
        have HMM := Lib.hid hm
        rw [hm] at HTR hm60 hrd
        have HRD := Lib.hid hrd
        clear ht hnm hm hrd
        have HWM := Lib.hid (show Wf ((m : Nat) : Int) from Wf.of (by omega) (by omega))
        clear hm60
        have gm0 : decide (((m : Nat) : Int) < 0) = false := decide_eq_false (by omega)
        by_cases hin : m ∈ V
        · have HINV := Lib.hid (HA.out.inv.drop (q' := rest) p HS1.out HS2.out HOK.out (fun _ => by rw [HMM.out]; exact hin))
          have look1 : (Instr.lookup 87 (.map (some mb)) (.int .i64 ((m : Nat) : Int)) false).run Try.prog wr = .ok (.bool true) wr := by
            have := HA.out.m.look HWM.out
            rw [setI_at, decide_eq_true hin] at this
            exact this
          clear hin
          go_wp2_with fail
          refine (HTR.out _).mono ?_
          rintro e w1 ⟨rfl, rfl⟩
          go_wp2_with fail
          exact ⟨⟨V, rest, _, cv, by rw [HR.out], HA.out.cut HINV.out HQ2.out (by simp)⟩, by show _ + r < _ + (r + 1); omega⟩
        · have HIN := Lib.hid hin
          have look1 : (Instr.lookup 87 (.map (some mb)) (.int .i64 ((m : Nat) : Int)) false).run Try.prog wr = .ok (.bool false) wr := by
            have := HA.out.m.look HWM.out
            rw [setI_at, decide_eq_false hin] at this
            exact this
          have HPL := Lib.hid (show V.length < maxLen by
            have h1 := HA.out.inv.len
            unfold maxLen
            omega)
          have HNO := Lib.hid (show setI V ((m : Nat) : Int) = false by rw [setI_at]; exact decide_eq_false hin)
          have HINV := Lib.hid (HA.out.inv.new (q' := rest) HF64.out p HMEM.out HS1.out HS2.out HOK.out HT.out (by rw [HMM.out]; exact hin) (by rw [HMM.out]; exact HRD.out))
          rw [HMM.out] at HINV
          have hV40 : V.length + 1 ≤ 4000 ∧ (paR f m).length ≤ 400 := by
            have h1 := HINV.out.len
            have h4 := HRD.out.2.1.2.1
            have h5 : (paR f m).length ≤ plR f m := by unfold paR; rw [List.length_take]; omega
            simp only [List.length_cons] at h1
            omega
          have HV := Lib.hid hV40
          have HLB := Lib.hid (show rest.length + (paR f m).length ≤ 10000000 from by rw [HR.out]; omega)
          have HKB := Lib.hid (show ∀ k, (Value.slice (some (⟨bQ, oQ, none⟩ : Addr)) r cv).ownBlock = some k → bQ = k from fun k hk => by injection hk)
          clear hin hV40
          go_wp2_with fail
          refine (HTR.out _).mono ?_
          rintro e w1 ⟨rfl, rfl⟩
          go_wp2_with (at_mapUpdate; (refine wpList_store_S rfl _ _ _ rfl mb V.length (setI V) rfl HA.out.m HPL.out ((m : Nat) : Int) HNO.out rfl rfl HWM.out ?_; intro w5 hM5 hg5; have HM5 := Lib.hid hM5; have HG5 := Lib.hid hg5; clear hM5 hg5))
          have HB5 := Lib.hid (show Below w.heap.size w w5 from below_grown HA.out.below HA.out.below.size HG5.out (fun g hg => by injection hg with hg; omega))
          have HQ5 := Lib.hid (show QW w5 (mb + 1) (.slice (some ⟨bQ, oQ, none⟩) r cv) rest from by
            have := HQ2.out.grown HG5.out (fun k hk e => by injection e with e; have := (HQ2.out.2 k hk).1; omega)
            rw [HR.out] at this
            exact this)
          have HM5' := Lib.hid (show OwnMS w5 mb (V.length + 1) (setI (m :: V)) from by rw [setI_cons]; exact HM5.out)
          have hz5 : wr.heap.size ≤ w5.heap.size := HG5.out.size
          refine (objAt_ok f fA fc m w5 (HF.out.below HB5.out) HF64.out hfl HRD.out).mono ?_
          rintro e w6 ⟨pA, pc, rfl, ho6, hb6⟩
          have HO6 := Lib.hid ho6
          have hb7 : ∀ o, Below w5.heap.size w5 (w6.alloc o) := fun o => hb6.alloc hb6.size o
          have HB7 := Lib.hid hb7
          have HOA := Lib.hid (fun o => ho6.alloc o)
          have hbs : ∀ o, mb + 1 ≤ (w6.alloc o).heap.size := fun o => by have h1 := (hb7 o).size; have h2 := HA.out.hs; omega
          have HBS := Lib.hid hbs
          clear ho6 hb6 hb7 hbs
          go_wp2_with (at_builtin; (refine wpList_append_qw rfl _ _ 22 22 rfl Try.underlying22 Try.underlying22 (mb + 1) (.slice (some ⟨bQ, oQ, none⟩) r cv) rest rfl (HQ5.out.below (HB7.out _)) (.slice pA (paR f m).length pc) (paR f m) rfl (Su.of_own (HOA.out _)) HLB.out (HBS.out _) ?_; intro v4 w4 hq4 hg4 hat4; have HQ4 := Lib.hid hq4; have HG4 := Lib.hid hg4; clear hq4 hg4 hat4))
          obtain ⟨A9, c9, hv9, _, _⟩ := HQ4.out.form
          have HB9 := Lib.hid (HB7.out (.cells #[.int .i64 ((m : Nat) : Int), .int .i64 ((obR f m).kind), .int .i64 ((obR f m).num), .string ((obR f m).text), .slice pA (paR f m).length pc] 30))
          have hq4 := HQ4.out
          rw [hv9] at hq4 ⊢
          have hvv := HV.out
          have hr2 := HR16.out
          have hm4 := (HM5'.out.below HB9.out).kept HG4.out (fun e => by have h1 := HKB.out mb e.symm; omega)
          refine ⟨⟨m :: V, rest ++ paR f m, A9, c9, rfl, HINV.out, hq4, hm4, below_grown (HB5.out.trans (HB9.out.mono HB5.out.size)) (Nat.le_trans HB5.out.size HB9.out.size) HG4.out (fun g hg => by have := HKB.out g hg; omega), by have h1 := HG4.out.size; have h2 := HBS.out (.cells #[.int .i64 ((m : Nat) : Int), .int .i64 ((obR f m).kind), .int .i64 ((obR f m).num), .string ((obR f m).text), .slice pA (paR f m).length pc] 30); omega, ?_⟩, ?_⟩
          · rw [List.length_append, HR.out, List.length_cons]
            omega
          · rw [hm4.cnt, HA.out.m.cnt]
            show 1000 * (4000 - (V.length + 1)) + (rest ++ paR f m).length < 1000 * (4000 - V.length) + (r + 1)
            rw [List.length_append, HR.out]
            omega
      · have HINV := Lib.hid (HA.out.inv.drop (q' := rest) p HS1.out HS2.out HOK.out (fun h => absurd h ht))
        obtain ⟨T, hT⟩ : ∃ T, tagOf (p : Int) = T := ⟨_, rfl⟩
        obtain ⟨N, hN⟩ : ∃ N, numOf (p : Int) = N := ⟨_, rfl⟩
        rw [hT, hN] at HTR
        rw [hT] at ht
        have d1 : decide (T = 4) = false := decide_eq_false ht
        have d2 : (T == 4) = false := by simpa using ht
        have d3 : (T != 4) = true := by simpa using ht
        clear hT hN
        go_wp2_with fail
        refine (HTR.out _).mono ?_
        rintro e w1 ⟨rfl, rfl⟩
        go_wp2_with fail
        exact ⟨⟨V, rest, _, cv, by rw [HR.out], HA.out.cut HINV.out HQ2.out (by simp)⟩, by show _ + r < _ + (r + 1); omega⟩
end Go.Proofs.Ytmpeckjemgenbaa
namespace Go.Proofs.Ytmpeckjemgenbaa
open Go.RowKit
set_option linter.unusedVariables false
/-- an object of the list begins at a place -/
def begB (l : List Ob) (x : Int) (n : Nat) : Bool := anyOf (fun k => (((flatO (l.take k)).length : Nat) : Int) == x) n
set_option maxHeartbeats 4000000 in
set_option maxRecDepth 100000 in
theorem begins_any (A : Option Addr) (c : Nat) (l : List Ob) (C : Nat → List Value) (base : Nat) (x : Int) (w : World) (hR : ObRow w base (.slice A l.length c) l C) :
    Calls Try.prog 40 #[.slice A l.length c, .int .i64 x] w fun e w' => e = .returned (.bool (begB l x l.length)) ∧ Below w.heap.size w w' := by
  have HR := Lib.hid hR
  obtain ⟨_, cap, _, hnc, hcm, _⟩ := own_any hR.row
  have hl9 : l.length ≤ 9223372036854775807 := by omega
  clear hR
  go_enter Try.func40, Try.ntmps40
  go_wp2_with fail
  go_loopw [6, 9] (fun _ x9 wr => ∃ k : Nat, k ≤ l.length ∧ x9 = .int .i64 (k : Int) ∧ begB l x k = false ∧ Below w.heap.size w wr) (fun _ x9 _ => l.length - (intOf x9).toNat)
  case atStart => exact ⟨0, Nat.zero_le _, rfl, rfl, Below.refl _ _⟩
  case round =>
    obtain ⟨k, hk, rfl, hno, hB⟩ := hrel
    have HB := Lib.hid hB
    have HNO := Lib.hid hno
    clear hB hno
    by_cases hlt : k < l.length
    · have HRW := Lib.hid (HR.out.below HB.out)
      obtain ⟨o, ho⟩ : ∃ o, l[k]? = some o := ⟨_, List.getElem?_eq_getElem hlt⟩
      obtain ⟨pA, pc, hC, hP, _⟩ := HRW.out.each k o ho
      obtain ⟨bk, cap, hv, hbk, hlt2, _⟩ := own_form HRW.out.row (by omega)
      injection hv with hv1 _ hv3
      subst hv1 hv3
      have hcell := fun j (hj : j < 5) => own_cellC HRW.out.row HRW.out.len hlt (j := j) hj
      rw [hC] at hcell
      obtain ⟨G, hG⟩ : ∃ G, (flatO (l.take k)).length = G := ⟨_, rfl⟩
      rw [hG] at hcell
      have HG := Lib.hid hG
      have c0 : wr.cell? ⟨bk, k * 5, none⟩ = some (.int .i64 ((G : Nat) : Int)) := hcell 0 (by omega)
      have c1 : wr.cell? ⟨bk, k * 5 + 1, none⟩ = some (.int .i64 o.kind) := hcell 1 (by omega)
      have c2 : wr.cell? ⟨bk, k * 5 + 2, none⟩ = some (.int .i64 o.num) := hcell 2 (by omega)
      have c3 : wr.cell? ⟨bk, k * 5 + 3, none⟩ = some (.string o.text) := hcell 3 (by omega)
      have c4 : wr.cell? ⟨bk, k * 5 + 4, none⟩ = some (.slice pA o.parts.length pc) := hcell 4 (by omega)
      clear hC hP hcell ho hG
      by_cases he : ((G : Nat) : Int) = x
      · have e1 : (((G : Nat) : Int) == x) = true := by simpa using he
        have e2 : decide (((G : Nat) : Int) = x) = true := decide_eq_true he
        have HE := Lib.hid e1
        clear he
        go_wp2_with fail
        go_ret
        refine ⟨ret_bool ?_, HB.out.alloc HB.out.size _⟩
        unfold begB
        exact (anyOf_true.2 ⟨k, hlt, by rw [HG.out]; exact HE.out⟩).symm
      · have e1 : (((G : Nat) : Int) == x) = false := by simpa using he
        have e2 : decide (((G : Nat) : Int) = x) = false := decide_eq_false he
        have HE := Lib.hid e1
        clear he
        go_wp2_with fail
        refine ⟨⟨k + 1, by omega, by go_num, ?_, HB.out.alloc HB.out.size _⟩, by simp [intOf]; omega⟩
        unfold begB
        rw [anyOf_false]
        intro j hj
        by_cases hjk : j = k
        · subst hjk
          rw [HG.out]
          exact HE.out
        · exact anyOf_false.1 HNO.out j (by omega)
    · have hkl : k = l.length := by omega
      have g0 : decide ((k : Int) < (l.length : Int)) = false := decide_eq_false (by omega)
      have HKL := Lib.hid hkl
      clear hkl
      go_wp2_with fail
      go_ret
      exact ⟨ret_bool (by rw [← HKL.out]; exact HNO.out.symm), HB.out⟩
set_option maxHeartbeats 4000000 in
set_option maxRecDepth 100000 in
theorem apart_any (f : List Nat) (fA : Option Addr) (fc wd : Nat) (w : World) (hF : Su w (.slice fA f.length fc) f) (f64 : All64 f) (hf4 : f.length ≤ 4000) (l : List Ob) (hO : ObsOf f l) (hwd : wd < 18446744073709551616) (D : Nat → Prop) (hD : GoodD f wd D) :
    Calls Try.prog 25 #[.slice fA f.length fc, .int .u64 (wd : Int)] w fun e w' => ∃ V res, RInv f wd V [] ∧ e = .returned (.bool res) ∧ (res = true → ∀ a, a ∈ V → begB l (a : Int) l.length = true) ∧ Below w.heap.size w w' := by
  have HF := Lib.hid hF
  have HF64 := Lib.hid f64
  have HO := Lib.hid hO
  have HWD := Lib.hid hwd
  have HD := Lib.hid hD
  clear hF f64 hO hwd hD
  go_enter Try.func25, Try.ntmps25
  go_wp2_with fail
  refine (Objects_any f fA fc _ HF.out HF64.out (by omega)).mono ?_
  rintro e w1 (⟨-, l1, hl1, v, C, rfl, hrow, hb⟩ | ⟨hno, -⟩)
  · obtain rfl := obs_inj HO.out hl1
    have HB1 := Lib.hid hb
    obtain ⟨A1, c1, rfl, _, _, _⟩ := own_any hrow.row
    have HROW := Lib.hid hrow
    clear hl1 hrow hb
    go_wp2_with fail
    have HBX := Lib.hid (show Below w1.heap.size w1 (w1.alloc (.cells #[.int .u64 ((wd : Nat) : Int)] 34)) from (Below.refl _ _).alloc (Nat.le_refl _) _)
    have HB2 := Lib.hid (HB1.out.trans (HBX.out.mono HB1.out.size))
    refine (reached_ok f fA _ fc 1 wd _ (HF.out.below HB2.out) (Su.one w1 wd) HF64.out hf4 HWD.out D HD.out).mono ?_
    rintro e w3 ⟨V, mb, hinv, rfl, hM, hmb, hb3⟩
    have HINV := Lib.hid hinv
    have HB3 := Lib.hid (HB2.out.trans (hb3.mono HB2.out.size))
    have HROW3 := Lib.hid ((HROW.out.below HBX.out).below hb3)
    have hmb1 : mb < w3.heap.size := hM.lt
    obtain ⟨DD, hDD, hDs, hDg⟩ := hM
    have HDD := Lib.hid hDD
    have HDG := Lib.hid hDg
    clear hinv hb3 hDD hDs hDg hmb
    go_wp2_with (first | (at_range; refine wpList_range_own _ rfl _ 87 rfl 3 4 lawI Try.underlying87 _ mb V.length DD rfl HDD.out ?_; intro w0 hrg0 hg0 hs0; have HRG := Lib.hid hrg0; have HG0 := Lib.hid hg0; have HS0 := Lib.hid hs0; clear hrg0 hg0 hs0) | go_in)
    go_frame
    obtain ⟨r, hr⟩ : ∃ r, w3.heap.size = r := ⟨_, rfl⟩
    have HR := Lib.hid hr
    rw [hr] at HRG hmb1
    rw [hr]
    clear hr
    go_loopw [7] (fun _ wr => ∃ left cnt, wr.ranges Try.prog 3 (plainElem Try.prog 4) mb r V.length DD left cnt ∧ (∀ a : Nat, Wf (a : Int) → a ∈ V → left (.int .i64 (a : Int)) = false → begB l (a : Int) l.length = true) ∧ Below w3.heap.size w3 wr) (fun _ wr => wr.rangeLeft mb r)
    case atStart =>
      refine ⟨_, _, HRG.out, fun a ha hV hl => ?_, ⟨HG0.out.os, HG0.out.tape, HG0.out.output, HG0.out.size, fun k hk => HG0.out.block k hk (by simp)⟩⟩
      have h1 := (HDG.out _ ha).1
      rw [setI_at, decide_eq_true hV] at h1
      rw [h1] at hl
      cases hl
    case round =>
      obtain ⟨left, cnt, hrg, hdone, hB⟩ := hrel
      have HRGr := Lib.hid hrg
      have HDONE := Lib.hid hdone
      have HBr := Lib.hid hB
      clear hrg hdone hB
      go_wp2_with (at_next; (refine wpList_next_ranges wr rfl _ rfl 3 lawI (plainElem Try.prog 4) (Value.int .i64) Value.bool (fun key kl hkey => by obtain ⟨x, rfl, _⟩ := Maps.keyOf_int_inv Try.underlying3 hkey; exact ⟨x, rfl⟩) (fun v y hv => by obtain ⟨c, rfl, _⟩ := plainElem_bool_inv hv; exact ⟨c, rfl⟩) mb r V.length DD left cnt rfl HRGr.out ?_ ?_; rotate_left; (intro x c kl y w5 cnt5 hkey hlk hRc hat hrg5 hlt5 hg5 hs5 hen; have HKEY := Lib.hid hkey; have HRG5 := Lib.hid hrg5; have HLT5 := Lib.hid hlt5; have HG5 := Lib.hid hg5; clear hkey hlk hRc hat hrg5 hlt5 hg5 hs5); rotate_left; (intro hc0 hl0; have HL0 := Lib.hid hl0; clear hc0 hl0)))
      · go_ret
        exact ⟨V, true, HINV.out, rfl, fun _ a ha => HDONE.out a (Wf.of (by omega) (by have := (HINV.out.reads a ha).1; omega)) ha (HL0.out _), HB3.out.trans (HBr.out.mono HB3.out.size)⟩
      · have HB5 := Lib.hid (show Below w3.heap.size w3 w5 from below_grown HBr.out HBr.out.size HG5.out (fun g hg => by injection hg with hg; have := HR.out; omega))
        obtain ⟨x', ex, rfl, hwx⟩ := Maps.keyOf_int_inv Try.underlying3 HKEY.out
        injection ex with _ ex
        subst ex
        refine (begins_any A1 c1 l C _ x w5 (HROW3.out.below HB5.out)).mono ?_
        rintro e w6 ⟨rfl, hb6⟩
        have HB6 := Lib.hid hb6
        clear hb6
        cases hbg : begB l x l.length with
        | false =>
          clear hbg
          go_wp2_with fail
          go_ret
          exact ⟨V, false, HINV.out, rfl, (fun h => by cases h), HB3.out.trans ((HB5.out.trans (HB6.out.mono HB5.out.size)).mono HB3.out.size)⟩
        | true =>
          have HBG := Lib.hid hbg
          clear hbg
          go_wp2_with fail
          have hrg6 := HRG5.out.kept (grown_below (g := none) HB6.out) (by simp) (by simp)
          refine ⟨⟨_, _, hrg6, fun a ha hV hl => ?_, HB5.out.trans (HB6.out.mono HB5.out.size)⟩, ?_⟩
          · cases hla : left (.int .i64 (a : Int)) with
            | false => exact HDONE.out a ha hV hla
            | true =>
              rw [hla] at hl
              have hax : (a : Int) = x := by simpa [Lit.sameKey] using hl
              rw [hax]
              exact HBG.out
          · rw [hrg6.left_eq, HRGr.out.left_eq]
            exact HLT5.out
  · exact absurd ⟨hf4, _, HO.out⟩ hno
end Go.Proofs.Ytmpeckjemgenbaa
namespace Go.Proofs.Ytmpeckjemgenbaa
open Go.RowKit
set_option linter.unusedVariables false
def ReadF (r : LdR) (w : World) (e : Ending) (w' : World) : Prop := ∃ (k n : Int) (s : ByteArray) (A : Option Addr) (m c : Nat) (ev : Int), e = .returned (.tuple #[.agg #[.int .i64 k, .int .i64 n, .string s, .slice A m c], .int .i64 ev]) ∧ Below w.heap.size w w' ∧ ev = r.err ∧ (ev = 0 → ∃ S : Nat → Prop, r.val.isV w' S [.int .i64 k, .int .i64 n, .string s, .slice A m c])
theorem read_form (h : List Nat) (hA : Option Addr) (hc x : Nat) (w : World) (hS : Su w (.slice hA h.length hc) h) (h64 : All64 h) (hlen : h.length ≤ 17592186044416) (hx : x < 18446744073709551616) :
    Calls Try.prog 19 #[.slice hA h.length hc, .int .u64 (x : Int)] w (ReadF (ldv h 40 x 400) w) := by
  refine (Read_any h hA hc x w hS h64 hlen hx).mono ?_
  rintro e w' ⟨hb, ⟨h0, cs, rfl, hV⟩ | ⟨h0, rfl⟩⟩
  · obtain ⟨k, n, s, A, m, c, rfl⟩ := isV_cells hV
    exact ⟨k, n, s, A, m, c, 0, rfl, hb, h0.symm, fun _ => ⟨_, hV⟩⟩
  · exact ⟨0, 0, ⟨#[]⟩, none, 0, 0, _, rfl, hb, rfl, fun h => absurd h h0⟩
def CellsF (f : List Nat) (wd : Nat) (w : World) (e : Ending) (w' : World) : Prop := ∃ (A : Option Addr) (n c : Nat) (ev : Int), e = .returned (.tuple #[.slice A n c, .int .i64 ev]) ∧ Below w.heap.size w w' ∧ (ev = 0 → ∃ V, RInv f wd V [] ∧ n = (cellsV f V).length ∧ OwnI w' w.heap.size (.slice A n c) (srt (cellsV f V))) ∧ (ev ≠ 0 → ∀ D, GoodD f wd D → OkH f → False)
theorem cells_form (f : List Nat) (fA : Option Addr) (fc wd : Nat) (w : World) (hF : Su w (.slice fA f.length fc) f) (f64 : All64 f) (hfl : f.length ≤ 17592186044416) (hwd : wd < 18446744073709551616) :
    Calls Try.prog 24 #[.slice fA f.length fc, .int .u64 (wd : Int)] w (CellsF f wd w) := by
  refine (cells_any f fA fc wd w hF f64 hfl hwd).mono ?_
  rintro e w' (⟨V, v, hV, rfl, hO, hb⟩ | ⟨hno, x, hx, rfl, hb⟩)
  · obtain ⟨A, c, rfl, _, _, _⟩ := own_any hO
    refine ⟨A, _, c, 0, rfl, hb, fun _ => ⟨V, hV, srt_len _, hO⟩, fun h => absurd rfl h⟩
  · exact ⟨none, 0, 0, x, rfl, hb, fun h => absurd h hx, fun _ => hno⟩
def OverF (f t : List Nat) (wd : Nat) (w : World) (e : Ending) (w' : World) : Prop := ∃ (A : Option Addr) (n c : Nat) (B : Option Addr) (m d q : Nat) (ev : Int), e = .returned (.tuple #[.slice A n c, .slice B m d, .int .u64 (q : Int), .int .i64 ev]) ∧ Below w.heap.size w w' ∧
  (ev = 0 → OkH f ∧ OkH t ∧ ∃ st, carW f 40 wd ⟨t, [], []⟩ = some (q, st) ∧ n = (emptied f st.cells).length ∧ m = st.to.length ∧ OwnU w' w.heap.size (.slice A n c) (emptied f st.cells) ∧ OwnU w' w.heap.size (.slice B m d) st.to)
theorem over_form (f t : List Nat) (fA tA : Option Addr) (fc tc wd : Nat) (w : World) (hF : Su w (.slice fA f.length fc) f) (hT : Su w (.slice tA t.length tc) t) (f64 : All64 f) (t64 : All64 t) (hfl : f.length ≤ 17592186044416) (htl : t.length ≤ 17592186044416) (hwd : wd < 18446744073709551616) :
    Calls Try.prog 21 #[.slice fA f.length fc, .slice tA t.length tc, .int .u64 (wd : Int)] w (OverF f t wd w) := by
  refine (over_any f t fA tA fc tc wd w hF hT f64 t64 hfl htl hwd).mono ?_
  rintro e w' (⟨_, x, hx, rfl, hb⟩ | ⟨hf, ht, q, st, hc, v1, v2, rfl, h1, h2, hb⟩)
  · exact ⟨none, 0, 0, none, 0, 0, 0, x, rfl, hb, fun h => absurd h hx⟩
  · obtain ⟨A, c, rfl, _, _, _⟩ := own_any h1
    obtain ⟨B, d, rfl, _, _, _⟩ := own_any h2
    exact ⟨A, _, c, B, _, d, q, 0, rfl, hb, fun _ => ⟨hf, ht, st, hc, rfl, rfl, h1, h2⟩⟩
end Go.Proofs.Ytmpeckjemgenbaa
namespace Go.Proofs.Ytmpeckjemgenbaa
open Go.RowKit Go.ChangeShapes Go.WideShapes Go.Deep
set_option linter.unusedVariables false
theorem all_flat {l : List Ob} (h : ∀ o ∈ l, GoodOb o) : All64 (flatO l) := by
  intro x hx
  unfold flatO at hx
  obtain ⟨ws, h1, h2⟩ := List.mem_flatten.1 hx
  obtain ⟨o, h3, rfl⟩ := List.mem_map.1 h1
  exact wordsO_all (h o h3).ok (h o h3).parts x h2
/-- what the source heap is when the cells are gone -/
theorem gone_heap {f t : List Nat} {lf was : List Ob} {wd q : Nat} {st : CS} {V V6 : List Nat} (hlf : ObsOf f lf) (hf4 : f.length ≤ 4000) (hwas : ObsOf t was) (ht4 : t.length ≤ 4000) (f64 : All64 f) (t64 : All64 t) (hwd : wd < 18446744073709551616) (hc : carW f 40 wd ⟨t, [], []⟩ = some (q, st)) (hV : RInv f wd V []) (hV6 : RInv f wd V6 []) (hb : ∀ a, a ∈ V6 → begB lf (a : Int) lf.length = true) :
    ∃ l', ObsOf (emptied f st.cells) l' ∧ (emptied f st.cells).length ≤ 4000 ∧ ∀ k o', l'[k]? = some o' → o'.kind = 5 → o'.parts.length = 1 → ((posO l' k : Nat) : Int) ∉ srt (cellsV f V) := by
  have hcell := carW_cells 40 wd _ q st hc cells_start
  have hhas := reach_has hwas ht4 f64 t64 hwd hc hV
  have hbeg : ∀ a, Has st a → ∃ k o, lf[k]? = some o ∧ posO lf k = a := fun a ha => by
    have h1 := (hV.reach _ hV6.done).1 a ((hhas a).2 ha)
    have h2 := hb a h1
    unfold begB at h2
    obtain ⟨k, hk, he⟩ := anyOf_true.1 h2
    have he' : (((flatO (lf.take k)).length : Nat) : Int) = (a : Int) := by simpa using he
    exact ⟨k, lf[k], List.getElem?_eq_getElem hk, by unfold posO; omega⟩
  obtain ⟨l', e1, e2, e3, e4, e5⟩ := emptied_obs st.cells lf hlf.2 (fun a ha => by
    obtain ⟨h1, h2, h3⟩ := (hcell a).1 ha
    obtain ⟨k, o, hk, hp⟩ := hbeg a h1
    obtain ⟨_, ho⟩ := obs_at hlf hk
    rw [hp] at ho
    have hg := hlf.2 o (List.mem_of_getElem? hk)
    rw [ho] at h2
    have hpl : (paR f a).length = o.parts.length := congrArg (fun z => z.parts.length) ho
    have hm := (okOb_iff.1 hg.ok).2.2.2.1
    rw [h2] at hm
    have h5 : mostP 5 = 1 := by decide
    exact ⟨k, o, hk, hp, cell_words hg.ok h2 (by omega)⟩)
  rw [← hlf.1] at e1
  refine ⟨l', ⟨e1, e2⟩, ?_, fun k o' hk h5 hp1 hmem => ?_⟩
  · rw [emptied_len f st.cells (fun a ha => by
      obtain ⟨h1, _⟩ := (hcell a).1 ha
      have := (hV.reads a ((hhas a).2 h1)).1
      omega)]
    exact hf4
  · have hmem2 := (srt_perm _).mem_iff.1 hmem
    rw [e4] at hmem2
    obtain ⟨m1, m2⟩ := cellsV_mem.1 hmem2
    obtain ⟨f1, f2⟩ := e5 k o' hk
    by_cases hin : posO lf k ∈ st.cells
    · have := f1 hin
      subst this
      exact absurd h5 (by decide)
    · have hk2 := f2 hin
      obtain ⟨_, ho⟩ := obs_at hlf hk2
      refine hin ((hcell _).2 ⟨(hhas _).1 m1, by rw [ho]; exact h5, ?_⟩)
      have hpl : (paR f (posO lf k)).length = o'.parts.length := congrArg (fun z => z.parts.length) ho
      omega
set_option maxHeartbeats 4000000 in
set_option maxRecDepth 100000 in
theorem carryGoes_go (fA tA : Option Addr) (fc tc : Nat) (f t : List Nat) (wd : Nat) (w : World) (hF : Su w (.slice fA f.length fc) f) (hT : Su w (.slice tA t.length tc) t) (f64 : All64 f) (t64 : All64 t) (hfl : f.length ≤ 17592186044416) (htl : t.length ≤ 17592186044416) (hwd : wd < 18446744073709551616) :
    Calls Try.prog 7 #[.slice fA f.length fc, .slice tA t.length tc, .int .u64 (wd : Int)] w fun e w' => e = .returned (.bool true) ∧ Below w.heap.size w w' := by
  have HF := Lib.hid hF
  have HT := Lib.hid hT
  have HF64 := Lib.hid f64
  have HT64 := Lib.hid t64
  have HWD := Lib.hid hwd
  clear hF hT f64 t64 hwd
  go_enter Try.func7, Try.ntmps7
  go_wp2_with fail
  refine (cells_form f fA fc wd _ HF.out HF64.out hfl HWD.out).mono ?_
  rintro e w2 ⟨cA, cn, cc, e2, rfl, hb2, hc2, -⟩
  have HB02 := Lib.hid hb2
  have HC2 := Lib.hid hc2
  clear hb2 hc2
  go_wp2_with fail
  refine (over_form f t fA tA fc tc wd _ (HF.out.below HB02.out) (HT.out.below HB02.out) HF64.out HT64.out hfl htl HWD.out).mono ?_
  rintro e w3 ⟨aA, an, ac, bA, bn, bc, q, e3, rfl, hb3, hc3⟩
  have HB3 := Lib.hid hb3
  have HC3 := Lib.hid hc3
  have HB03 := Lib.hid (HB02.out.trans (hb3.mono HB02.out.size))
  clear hb3 hc3
  go_wp2_with fail
  refine (carries_any _).mono ?_
  rintro e w4 ⟨rfl, hb4⟩
  have HB4 := Lib.hid hb4
  have HB04 := Lib.hid (HB03.out.trans (hb4.mono HB03.out.size))
  clear hb4
  go_wp2_with fail
  refine (good_two e2 e3 _ 2 w4.heap.size (by simp [go_sem]) (by simp [go_sem])).mono ?_
  rintro e w5 ⟨rfl, rfl⟩
  have HB5 := Lib.hid (show ∀ o, Below w4.heap.size w4 (w4.alloc o) from fun o => (Below.refl _ _).alloc (Nat.le_refl _) o)
  cases hg : (e2 == 0 && e3 == 0) with
  | false =>
    clear hg
    go_wp2_with fail
    refine (carries_any _).mono ?_
    rintro e w6 ⟨rfl, hb6⟩
    have HB6 := Lib.hid (HB04.out.trans (((HB5.out _).trans (hb6.mono (HB5.out _).size)).mono HB04.out.size))
    clear hb6
    go_wp2_with fail
    go_ret
    exact ⟨rfl, HB6.out⟩
  | true =>
    simp only [Bool.and_eq_true, beq_iff_eq] at hg
    obtain ⟨rfl, rfl⟩ := hg
    obtain ⟨V, hV, hcn, hcO⟩ := HC2.out rfl
    obtain ⟨⟨hf4, lf, hlf⟩, ⟨ht4, was, hwas⟩, st, hc, han, hbn, hoa, hob⟩ := HC3.out rfl
    obtain ⟨hok, hrel, hokS, hq, more, hobs, hlen, hcp⟩ := carried hwas ht4 HF64.out HT64.out HWD.out hc
    have HVV := Lib.hid hV
    have HCN := Lib.hid hcn
    have HCO := Lib.hid hcO
    have HBN := Lib.hid hbn
    have HOA := Lib.hid (Su.of_own hoa)
    have HOB := Lib.hid (Su.of_own hob)
    have HLF := Lib.hid hlf
    have HWAS := Lib.hid hwas
    have HC := Lib.hid hc
    have HOK := Lib.hid hok
    have HREL := Lib.hid hrel
    have HOKS := Lib.hid hokS
    have HQQ := Lib.hid hq
    have HOBS := Lib.hid hobs
    have HCP := Lib.hid hcp
    have HAN := Lib.hid han
    clear hV hcn hcO hbn hoa hob hlf hwas hc hok hrel hokS hq hobs hlen hcp HC2 HC3 han
    go_wp2_with fail
    obtain ⟨WE, hWE⟩ : ∃ WE, WE = w4.alloc (.cells #[.int .i64 0, .int .i64 0] 25) := ⟨_, rfl⟩
    have HBE := Lib.hid (show Below w4.heap.size w4 WE by rw [hWE]; exact HB5.out _)
    rw [← hWE]
    clear hWE HB5
    have HB0E := Lib.hid (HB04.out.trans (HBE.out.mono HB04.out.size))
    refine (apart_any f fA fc wd _ (HF.out.below HB0E.out) HF64.out hf4 lf HLF.out HWD.out _ HVV.out.done).mono ?_
    rintro e w6 ⟨V6, res, hV6, rfl, hres, hb6⟩
    have HB6 := Lib.hid hb6
    have HV6 := Lib.hid hV6
    have HB06 := Lib.hid (HB0E.out.trans (hb6.mono HB0E.out.size))
    clear hb6 hV6
    cases res with
    | false =>
      go_wp2_with fail
      refine (carries_any _).mono ?_
      rintro e w7 ⟨rfl, hb7⟩
      have HB7 := Lib.hid (HB06.out.trans (hb7.mono HB06.out.size))
      clear hb7
      go_wp2_with fail
      go_ret
      exact ⟨rfl, HB7.out⟩
    | true =>
      have HB36 := Lib.hid (HB4.out.trans ((HBE.out.trans (HB6.out.mono HBE.out.size)).mono HB4.out.size))
      obtain ⟨l', hl', hg4, hlaw⟩ := gone_heap HLF.out hf4 HWAS.out ht4 HF64.out HT64.out HWD.out HC.out HVV.out HV6.out (hres rfl)
      have HL' := Lib.hid hl'
      have HLAW := Lib.hid hlaw
      obtain ⟨G, hG⟩ : ∃ G, emptied f st.cells = G := ⟨_, rfl⟩
      rw [hG] at HL' HOA HAN hg4
      have hbn := HBN.out
      subst hbn
      have han := HAN.out
      subst han
      clear hG hl' hlaw hres
      go_wp2_with fail
      refine (Objects_any G aA ac _ (HOA.out.below HB36.out) (by rw [HL'.out.1]; exact all_flat HL'.out.2) (by omega)).mono ?_
      rintro e w7 (⟨-, l1, hl1, v, C, rfl, hrow, hb7⟩ | ⟨hno, -⟩)
      · obtain rfl := obs_inj HL'.out hl1
        have HB7 := Lib.hid hb7
        have HROW := Lib.hid hrow
        have HB07 := Lib.hid (HB06.out.trans (hb7.mono HB06.out.size))
        have HB37 := Lib.hid (HB36.out.trans (hb7.mono HB36.out.size))
        have HB27 := Lib.hid (HB3.out.trans (HB37.out.mono HB3.out.size))
        obtain ⟨Ao, co, rfl, _, _, _⟩ := own_any hrow.row
        have hl9 : l'.length ≤ 4000 := by
          have h1 := len_flatO l'
          rw [← HL'.out.1] at h1
          omega
        clear hl1 hrow hb7
        go_wp2_with fail
        go_loopw [15, 17, 60] (fun x15 _ x60 wr => ∃ k : Nat, k ≤ l'.length ∧ x60 = .int .i64 (k : Int) ∧ x15 = .int .i64 0 ∧ Below w7.heap.size w7 wr) (fun _ _ x60 _ => l'.length - (intOf x60).toNat)
        case atStart => exact ⟨0, Nat.zero_le _, rfl, rfl, Below.refl _ _⟩
        case round =>
          obtain ⟨k, hk, rfl, rfl, hB⟩ := hrel
          have HB := Lib.hid hB
          clear hB
          by_cases hlt : k < l'.length
          · have HRW := Lib.hid (HROW.out.below HB.out)
            obtain ⟨o, ho⟩ : ∃ o, l'[k]? = some o := ⟨_, List.getElem?_eq_getElem hlt⟩
            obtain ⟨pA, pc, hC, hP, _⟩ := HRW.out.each k o ho
            obtain ⟨bk, cap, hv, hbk, hlt2, _⟩ := own_form HRW.out.row (by omega)
            injection hv with hv1 _ hv3
            subst hv1 hv3
            have hcell := fun j (hj : j < 5) => own_cellC HRW.out.row HRW.out.len hlt (j := j) hj
            rw [hC] at hcell
            have hlw := HLAW.out k o ho
            obtain ⟨N, hN⟩ : ∃ N, posO l' k = N := ⟨_, rfl⟩
            have hN2 : (flatO (l'.take k)).length = N := hN
            rw [hN2] at hcell
            rw [hN] at hlw
            obtain ⟨kd, hkd⟩ : ∃ kd, o.kind = kd := ⟨_, rfl⟩
            obtain ⟨pl, hpl⟩ : ∃ pl, o.parts.length = pl := ⟨_, rfl⟩
            have c0 : wr.cell? ⟨bk, k * 5, none⟩ = some (.int .i64 ((N : Nat) : Int)) := hcell 0 (by omega)
            have c1 : wr.cell? ⟨bk, k * 5 + 1, none⟩ = some (.int .i64 kd) := by rw [← hkd]; exact hcell 1 (by omega)
            have c2 : wr.cell? ⟨bk, k * 5 + 2, none⟩ = some (.int .i64 o.num) := hcell 2 (by omega)
            have c3 : wr.cell? ⟨bk, k * 5 + 3, none⟩ = some (.string o.text) := hcell 3 (by omega)
            have c4 : wr.cell? ⟨bk, k * 5 + 4, none⟩ = some (.slice pA pl pc) := by rw [← hpl]; exact hcell 4 (by omega)
            rw [hkd, hpl] at hlw
            have HLW := Lib.hid hlw
            clear hC hP hcell ho hN hN2 hkd hpl hlw
            have HB' := Lib.hid (show ∀ o, Below w7.heap.size w7 (wr.alloc o) from fun o => HB.out.alloc HB.out.size o)
            by_cases hk5 : kd = 5
            · subst hk5
              by_cases hp1 : pl = 1
              · subst hp1
                have hno := HLW.out rfl rfl
                have hcl : (srt (cellsV f V)).length = cn := by rw [srt_len]; exact HCN.out.symm
                have HCO2 := Lib.hid (fun o => HCO.out.below (HB27.out.trans ((HB'.out o).mono HB27.out.size)))
                have HNO := Lib.hid hno
                have HCL := Lib.hid hcl
                have hcn9 : cn ≤ 4000 := by
                  have h1 := HCN.out
                  have h2 := cellsV_len f V
                  have h3 := HVV.out.len
                  omega
                clear hno hcl
                go_wp2_with fail
                refine (containsI_any cA cn cc (lst (srt (cellsV f V))) _ _ (by omega) (by
                  rw [← HCL.out]
                  exact (HCO2.out _).rd)).mono ?_
                rintro e w9 ⟨rfl, rfl⟩
                have hany := any_lst (srt (cellsV f V)) ((N : Nat) : Int)
                rw [HCL.out, decide_eq_false HNO.out] at hany
                rw [hany]
                clear hany
                go_wp2_with fail
                refine ⟨⟨k + 1, by omega, by go_num, rfl, HB'.out _⟩, by simp [intOf]; omega⟩
              · have e1 : (((pl : Nat) : Int) == 1) = false := by simp; omega
                have e2 : decide (((pl : Nat) : Int) = 1) = false := by simp; omega
                go_wp2_with fail
                refine ⟨⟨k + 1, by omega, by go_num, rfl, HB'.out _⟩, by simp [intOf]; omega⟩
            · have e1 : (kd == 5) = false := by simpa using hk5
              have e2 : decide (kd = 5) = false := decide_eq_false hk5
              go_wp2_with fail
              refine ⟨⟨k + 1, by omega, by go_num, rfl, HB'.out _⟩, by simp [intOf]; omega⟩
          · have hkl : k = l'.length := by omega
            have g0 : decide ((k : Int) < (l'.length : Int)) = false := decide_eq_false (by omega)
            have HB3r := Lib.hid (HB37.out.trans (HB.out.mono HB37.out.size))
            have HB0r := Lib.hid (HB07.out.trans (HB.out.mono HB07.out.size))
            clear hkl
            go_wp2_with fail
            refine (cells_form st.to bA bc q _ (HOB.out.below HB3r.out) HOKS.out.all (by have := HOKS.out.room; omega) HQQ.out).mono ?_
            rintro e w9 ⟨dA, dn, dc, e9, rfl, hb9, hy9, hn9⟩
            have HB09 := Lib.hid (HB0r.out.trans (hb9.mono HB0r.out.size))
            by_cases he9 : e9 = 0
            · subst he9
              obtain ⟨U, hU, hdn, -⟩ := hy9 rfl
              have hcnt := cells_count rfl HCP.out HOBS.out HOKS.out.room HOK.out HREL.out HC.out (fun a => reach_has HWAS.out ht4 HF64.out HT64.out HWD.out HC.out HVV.out a) HVV.out.nodup hU
              have hdc : dn = cn := by rw [hdn, hcnt]; exact HCN.out.symm
              subst hdc
              clear hb9 hy9 hn9 hU hdn hcnt
              go_wp2_with fail
              go_ret
              exact ⟨ret_bool (by simp), HB09.out⟩
            · exact (hn9 he9 _ (copies_good HCP.out HOBS.out HOKS.out.room HOK.out HREL.out) ⟨HOKS.out.room, _, HOBS.out⟩).elim
      · exact absurd ⟨hg4, _, HL'.out⟩ hno
set_option maxRecDepth 100000 in
theorem carryGoes_walk {H : Type} {enc : TypeId × Value → H} (W : World) (base : Nat) (v0 v1 v2 : Value) {d0 d1 d2 : DataW H} {p0 p1 p2 : List MemPlace}
    (k0 : Value.okWide Try.prog W .any base 23 v0) (k1 : Value.okWide Try.prog W .any base 23 v1) (k2 : Value.okWide Try.prog W .any base 34 v2)
    (h0 : DataW.Trod enc Try.prog W 0 (fun _ => true) true 23 v0 d0 p0) (h1 : DataW.Trod enc Try.prog W 0 (fun _ => true) true 23 v1 d1 p1) (h2 : DataW.Trod enc Try.prog W 0 (fun _ => true) true 34 v2 d2 p2)
    (hz0 : ∀ k ∈ d0.weights Try.prog 23, k ≤ reachBytes) (hz1 : ∀ k ∈ d1.weights Try.prog 23, k ≤ reachBytes) :
    Calls Try.prog 7 #[v0, v1, v2] W fun e W' => e = .returned (.bool true) ∧ Below W.heap.size W W' := by
  obtain ⟨A, c, h, rfl, hS, h64, hlen⟩ := open_heap k0 h0 hz0
  obtain ⟨A', c', h', rfl, hS', h64', hlen'⟩ := open_heap k1 h1 hz1
  obtain ⟨a2, rfl, _, _, w1⟩ := open_int Try.underlying34 k2 h2
  simp [Lit.wf, IntKind.min, IntKind.max, IntKind.signed, IntKind.bits] at w1
  obtain ⟨x, rfl⟩ : ∃ x : Nat, a2 = x := ⟨a2.toNat, by omega⟩
  exact carryGoes_go A A' c c' h h' x W hS hS' h64 h64' hlen hlen' (by omega)
end Go.Proofs.Ytmpeckjemgenbaa
