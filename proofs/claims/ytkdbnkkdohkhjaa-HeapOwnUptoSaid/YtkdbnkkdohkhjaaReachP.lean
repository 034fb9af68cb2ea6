/- What a word reaches in a heap: the plain facts of a search. -/
import Derived.Test.YtkdbnkkdohkhjaaAlikeP
namespace Go.Proofs.Ytkdbnkkdohkhjaa
open Go.RowKit
set_option linter.unusedVariables false
/-- a set of objects that holds what a word means, and all that its members mean -/
structure GoodD (f : List Nat) (wd : Nat) (D : Nat → Prop) : Prop where
  ok : okR (wd : Int) = true
  start : tagOf (wd : Int) = 4 → D (atOf wd)
  reads : ∀ a, D a → ReadsOb f a
  parts : ∀ a, D a → ∀ p ∈ paR f a, okR (p : Int) = true ∧ (tagOf (p : Int) = 4 → D (atOf p))
theorem GoodD.closed {f : List Nat} {wd : Nat} {D : Nat → Prop} (h : GoodD f wd D) : ClosedD f D := fun b hb p hp ht => (h.parts b hb p hp).2 ht
structure RInv (f : List Nat) (wd : Nat) (V q : List Nat) : Prop where
  nodup : V.Nodup
  reads : ∀ a, a ∈ V → ReadsOb f a
  parts : ∀ a, a ∈ V → ∀ p ∈ paR f a, (okR (p : Int) = true ∧ (tagOf (p : Int) = 4 → atOf p ∈ V)) ∨ p ∈ q
  start : (okR (wd : Int) = true ∧ (tagOf (wd : Int) = 4 → atOf wd ∈ V)) ∨ wd ∈ q
  reach : ∀ D, GoodD f wd D → (∀ a, a ∈ V → D a) ∧ ∀ p ∈ q, okR (p : Int) = true ∧ (tagOf (p : Int) = 4 → D (atOf p))
  u64 : ∀ p ∈ q, p < 18446744073709551616
theorem RInv.init {f : List Nat} {wd : Nat} (h : wd < 18446744073709551616) : RInv f wd [] [wd] :=
  ⟨List.nodup_nil, (fun a h => by cases h), (fun a h => by cases h), .inr List.mem_cons_self, fun D hD => ⟨(fun a h => by cases h), fun p hp => by
    obtain rfl : p = wd := by simpa using hp
    exact ⟨hD.ok, hD.start⟩⟩, fun p hp => by
    obtain rfl : p = wd := by simpa using hp
    exact h⟩
theorem RInv.drop {f : List Nat} {wd : Nat} {V q q' : List Nat} (H : RInv f wd V q) (p : Nat) (h1 : ∀ x ∈ q, x = p ∨ x ∈ q') (h2 : ∀ x ∈ q', x ∈ q) (hok : okR (p : Int) = true) (hat : tagOf (p : Int) = 4 → atOf p ∈ V) : RInv f wd V q' := by
  refine ⟨H.nodup, H.reads, fun a ha x hx => ?_, ?_, fun D hD => ⟨(H.reach D hD).1, fun x hx => (H.reach D hD).2 x (h2 x hx)⟩, fun x hx => H.u64 x (h2 x hx)⟩
  · rcases H.parts a ha x hx with h | h
    · exact .inl h
    · rcases h1 x h with rfl | h
      · exact .inl ⟨hok, hat⟩
      · exact .inr h
  · rcases H.start with h | h
    · exact .inl h
    · rcases h1 wd h with rfl | h
      · exact .inl ⟨hok, hat⟩
      · exact .inr h
theorem RInv.new {f : List Nat} {wd : Nat} {V q q' : List Nat} (H : RInv f wd V q) (f64 : All64 f) (p : Nat) (hp : p ∈ q) (h1 : ∀ x ∈ q, x = p ∨ x ∈ q') (h2 : ∀ x ∈ q', x ∈ q) (hok : okR (p : Int) = true) (ht : tagOf (p : Int) = 4) (hn : atOf p ∉ V) (hr : ReadsOb f (atOf p)) : RInv f wd (atOf p :: V) (q' ++ paR f (atOf p)) := by
  refine ⟨List.nodup_cons.2 ⟨hn, H.nodup⟩, fun a ha => ?_, fun a ha x hx => ?_, ?_, fun D hD => ⟨fun a ha => ?_, fun x hx => ?_⟩, fun x hx => ?_⟩
  · rcases List.mem_cons.1 ha with rfl | ha
    · exact hr
    · exact H.reads a ha
  · rcases List.mem_cons.1 ha with rfl | ha
    · exact .inr (List.mem_append_right _ hx)
    · rcases H.parts a ha x hx with h | h
      · exact .inl ⟨h.1, fun h4 => List.mem_cons_of_mem _ (h.2 h4)⟩
      · rcases h1 x h with rfl | h
        · exact .inl ⟨hok, fun _ => List.mem_cons_self⟩
        · exact .inr (List.mem_append_left _ h)
  · rcases H.start with h | h
    · exact .inl ⟨h.1, fun h4 => List.mem_cons_of_mem _ (h.2 h4)⟩
    · rcases h1 wd h with rfl | h
      · exact .inl ⟨hok, fun _ => List.mem_cons_self⟩
      · exact .inr (List.mem_append_left _ h)
  · rcases List.mem_cons.1 ha with rfl | ha
    · exact ((H.reach D hD).2 p hp).2 ht
    · exact (H.reach D hD).1 a ha
  · rcases List.mem_append.1 hx with hx | hx
    · exact (H.reach D hD).2 x (h2 x hx)
    · exact hD.parts _ (((H.reach D hD).2 p hp).2 ht) x hx
  · rcases List.mem_append.1 hx with hx | hx
    · exact H.u64 x (h2 x hx)
    · exact pa_all f64 _ x hx
theorem RInv.len {f : List Nat} {wd : Nat} {V q : List Nat} (H : RInv f wd V q) : V.length ≤ f.length := by
  have := nodup_le (m := List.range f.length) H.nodup (fun x hx => List.mem_range.2 (H.reads x hx).1)
  simpa using this
/-- at the end the set is good -/
theorem RInv.done {f : List Nat} {wd : Nat} {V : List Nat} (H : RInv f wd V []) : GoodD f wd (fun a => a ∈ V) := by
  refine ⟨?_, fun ht => ?_, H.reads, fun a ha p hp => ?_⟩
  · rcases H.start with h | h
    · exact h.1
    · cases h
  · rcases H.start with h | h
    · exact h.2 ht
    · cases h
  · rcases H.parts a ha p hp with h | h
    · exact h
    · cases h
/-- the cells that were seen, in their order -/
def cellsV (f : List Nat) (V : List Nat) : List Int := (V.filter fun a => kdR f a == 5).reverse.map fun (a : Nat) => (a : Int)
theorem cellsV_nil (f : List Nat) : cellsV f [] = [] := rfl
theorem cellsV_yes {f : List Nat} {a : Nat} (V : List Nat) (h : kdR f a = 5) : cellsV f (a :: V) = cellsV f V ++ [(a : Int)] := by
  unfold cellsV
  rw [List.filter_cons_of_pos (by simpa using h)]
  simp
theorem cellsV_no {f : List Nat} {a : Nat} (V : List Nat) (h : kdR f a ≠ 5) : cellsV f (a :: V) = cellsV f V := by
  unfold cellsV
  rw [List.filter_cons_of_neg (by simpa using h)]
theorem cellsV_len (f : List Nat) (V : List Nat) : (cellsV f V).length ≤ V.length := by
  unfold cellsV
  rw [List.length_map, List.length_reverse]
  exact List.length_filter_le _ _
theorem cellsV_mem {f : List Nat} {V : List Nat} {a : Nat} : ((a : Nat) : Int) ∈ cellsV f V ↔ a ∈ V ∧ kdR f a = 5 := by
  unfold cellsV
  rw [List.mem_map]
  constructor
  · rintro ⟨b, h1, h2⟩
    obtain rfl : b = a := by omega
    rw [List.mem_reverse, List.mem_filter] at h1
    exact ⟨h1.1, by simpa using h1.2⟩
  · rintro ⟨h1, h2⟩
    exact ⟨a, by rw [List.mem_reverse, List.mem_filter]; exact ⟨h1, by simpa using h2⟩, rfl⟩
end Go.Proofs.Ytkdbnkkdohkhjaa
