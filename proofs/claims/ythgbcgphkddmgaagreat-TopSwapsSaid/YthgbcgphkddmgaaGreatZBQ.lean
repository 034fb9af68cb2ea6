/- The plain law of TopSwaps: deeds of different nodes, one after the other, may be swapped. -/
import Derived.Test.YthgbcgphkddmgaaGreatZBN
import Derived.Test.YthgbcgphkddmgaaGreatZBP
namespace Go.Proofs.YthgbcgphkddmgaaGreat
open Go.RowKit
set_option linter.unusedVariables false
set_option linter.unusedSimpArgs false
theorem SameP.refl (s : PlS) : SameP s s := ⟨rfl, List.Perm.refl _⟩
theorem SameP.trans {s t u : PlS} (h : SameP s t) (k : SameP t u) : SameP s u := ⟨h.R.trans k.R, h.a.trans k.a⟩
/-- two scripts of which each does the same -/
def SwR (n : Nat) (L L' : List Int) : Prop := L'.length = L.length ∧ ∀ s, SameP (playP n s (L.map (opOf n))) (playP n s (L'.map (opOf n)))
theorem SwR.refl (n : Nat) (L : List Int) : SwR n L L := ⟨rfl, fun s => SameP.refl _⟩
theorem SwR.trans {n : Nat} {L M K : List Int} (h : SwR n L M) (k : SwR n M K) : SwR n L K := ⟨k.1.trans h.1, fun s => (h.2 s).trans (k.2 s)⟩
/-- two neighbours swapped -/
def swapL (L : List Int) (i : Nat) : List Int := (L.set i (lst L (i + 1))).set (i + 1) (lst L i)
theorem swapL_len (L : List Int) (i : Nat) : (swapL L i).length = L.length := by unfold swapL; simp
theorem swap_split (l m : List Int) (a b : Int) : swapL (l ++ a :: b :: m) l.length = l ++ b :: a :: m := by
  unfold swapL
  have h1 : lst (l ++ a :: b :: m) l.length = a := by unfold lst; simp
  have h2 : lst (l ++ a :: b :: m) (l.length + 1) = b := by
    unfold lst
    rw [List.getD_eq_getElem?_getD, List.getElem?_append_right (by omega)]
    simp
  rw [h1, h2, List.set_append_right _ _ (Nat.le_refl _), Nat.sub_self, List.set_cons_zero, List.set_append_right _ _ (by omega)]
  congr 1
  have : l.length + 1 - l.length = 1 := by omega
  rw [this]
  rfl
theorem split_at {L : List Int} {i : Nat} (h : i + 1 < L.length) : L = L.take i ++ lst L i :: lst L (i + 1) :: L.drop (i + 2) := by
  have e1 : lst L i = L[i] := by unfold lst; rw [List.getD_eq_getElem?_getD, List.getElem?_eq_getElem (by omega)]; rfl
  have e2 : lst L (i + 1) = L[i + 1] := by unfold lst; rw [List.getD_eq_getElem?_getD, List.getElem?_eq_getElem h]; rfl
  rw [e1, e2, List.getElem_cons_drop, List.getElem_cons_drop, List.take_append_drop]
theorem SwR.swap {n : Nat} {L : List Int} {i : Nat} (h : i + 1 < L.length) (hne : (opOf n (lst L i)).1 ≠ (opOf n (lst L (i + 1))).1) : SwR n L (swapL L i) := by
  refine ⟨swapL_len _ _, fun s => ?_⟩
  have e1 := split_at h
  obtain ⟨a, ha⟩ : ∃ a, lst L i = a := ⟨_, rfl⟩
  obtain ⟨b, hb⟩ : ∃ b, lst L (i + 1) = b := ⟨_, rfl⟩
  obtain ⟨l, hl⟩ : ∃ l, L.take i = l := ⟨_, rfl⟩
  obtain ⟨m, hm⟩ : ∃ m, L.drop (i + 2) = m := ⟨_, rfl⟩
  have hll : l.length = i := by rw [← hl, List.length_take]; omega
  rw [ha, hb, hl, hm] at e1
  rw [ha, hb] at hne
  have e2 : swapL L i = l ++ b :: a :: m := by
    rw [← hll, e1]
    exact swap_split l m a b
  rw [e2, e1, List.map_append, List.map_append, List.map_cons, List.map_cons, List.map_cons, List.map_cons]
  exact swapP_at _ _ hne
theorem playS_list (n : Nat) (L : List Int) (C : GcS) : playS n (lst L) C L.length = (L.map (opOf n)).foldl (fun C p => deedS p C) C := by
  rw [playS_fold]
  congr 1
  apply List.ext_getElem
  · simp
  · intro j h1 h2
    simp only [List.getElem_map, List.getElem_range]
    congr 1
    unfold lst
    rw [List.getD_eq_getElem?_getD, List.getElem?_eq_getElem (by simpa using h2)]
    rfl
theorem playS_row {n : Nat} {L : List Int} {C : GcS} (hn : 1 ≤ n ∧ n ≤ 4) (hL : L.length ≤ 12) (h : LvI n 0 C) : (∀ i, rowOf (playS n (lst L) C L.length) i = (playP n ⟨rowOf C, C.air⟩ (L.map (opOf n))).R i) ∧ (playS n (lst L) C L.length).air = (playP n ⟨rowOf C, C.air⟩ (L.map (opOf n))).a := by
  have hair := h.air
  have := play_row (L.map (opOf n)) (C := C) (s := ⟨rowOf C, C.air⟩) (fun p hp => by
    obtain ⟨k, -, e⟩ := List.mem_map.1 hp
    rw [← e, h.cn]
    exact restK_lt _ hn.1) (fun _ => rfl) rfl h.rb (by
    rw [List.length_map, h.cn]
    have h1 : 8 * (n - 1) * L.length ≤ 8 * 3 * 12 := Nat.mul_le_mul (by omega) hL
    omega)
  rw [playS_list, ← h.cn]
  rw [h.cn] at this ⊢
  exact ⟨this.1, this.2.1⟩
theorem swaps_law {n : Nat} {L L' : List Int} {C : GcS} (hn : 1 ≤ n ∧ n ≤ 4) (hL : L.length ≤ 12) (h : LvI n 0 C) (hs : SwR n L L') : (∀ i, rowOf (playS n (lst L) C L.length) i = rowOf (playS n (lst L') C L'.length) i) ∧ (playS n (lst L) C L.length).air.Perm (playS n (lst L') C L'.length).air := by
  obtain ⟨h1, h2⟩ := playS_row hn hL h
  obtain ⟨h3, h4⟩ := playS_row (L := L') hn (by rw [hs.1]; exact hL) h
  have h5 := hs.2 ⟨rowOf C, C.air⟩
  exact ⟨fun i => by rw [h1, h3, h5.R], by rw [h2, h4]; exact h5.a⟩
theorem refsG_same {C C' : GcS} (h : ∀ i, rowOf C i = rowOf C' i) : ∀ k, refsG C k = refsG C' k
  | 0 => rfl
  | k + 1 => by
    have e : C.nd k = C'.nd k := congrArg RowS.nd (h k)
    have ih : catTo (fun i => refsN (C.nd i)) k = catTo (fun i => refsN (C'.nd i)) k := refsG_same h k
    show catTo _ k ++ refsN (C.nd k) = catTo _ k ++ refsN (C'.nd k)
    rw [ih, e]
end Go.Proofs.YthgbcgphkddmgaaGreat
