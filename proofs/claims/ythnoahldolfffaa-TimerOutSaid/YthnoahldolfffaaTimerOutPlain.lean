/- Timers taken out, and set anew: plain facts. -/
import Derived.Test.YthnoahldolfffaaTimerPlain
namespace Go.Proofs.Ythnoahldolfffaa
open Go.RowKit
set_option linter.unusedVariables false
/-- one list in order of all that hold the same -/
theorem perm_ord_eq : ∀ {l m : List Du}, l.Perm m → l.Pairwise (fun x y => cmpD x y < 0) → m.Pairwise (fun x y => cmpD x y < 0) → l = m := by
  intro l
  induction l with
  | nil => intro m h _ _; exact h.nil_eq
  | cons x l ih =>
    intro m h h1 h2
    cases m with
    | nil => exact absurd h.length_eq (by simp)
    | cons y m =>
      rw [List.pairwise_cons] at h1 h2
      have e : x = y := by
        have hx : x ∈ y :: m := h.mem_iff.1 (List.mem_cons_self ..)
        have hy : y ∈ x :: l := h.mem_iff.2 (List.mem_cons_self ..)
        rw [List.mem_cons] at hx hy
        rcases hx with hx | hx
        · exact hx
        · rcases hy with hy | hy
          · exact hy.symm
          · have g1 := h1.1 y hy
            have g2 := h2.1 x hx
            rw [cmpD_neg] at g1 g2
            omega
      subst e
      rw [ih (List.Perm.cons_inv h) h1.2 h2.2]
theorem erase_others {l : List Du} {i : Nat} {x : Du} (h : (l.map Du.id).Nodup) (hi : l[i]? = some x) : others x.id (l.eraseIdx i) = l.eraseIdx i := by
  unfold others
  rw [List.filter_eq_self]
  intro y hy
  rw [List.nodup_iff_pairwise_ne, List.pairwise_map] at h
  obtain ⟨hlt, rfl⟩ := List.getElem?_eq_some_iff.1 hi
  obtain ⟨j, hj, hne, e⟩ := List.mem_eraseIdx_iff_getElem.1 hy
  subst e
  rw [List.pairwise_iff_getElem] at h
  have : l[j].id ≠ l[i].id := by
    by_cases h2 : j < i
    · exact h j i hj hlt h2
    · exact fun e => h i j hlt hj (by omega) e.symm
  simpa using this
theorem erase_none {l : List Du} {i : Nat} {x : Du} (h : (l.map Du.id).Nodup) (hi : l[i]? = some x) : ∀ y ∈ l.eraseIdx i, y.id ≠ x.id := by
  intro y hy
  have h1 := erase_others h hi
  rw [← h1] at hy
  exact (others_mem.1 hy).2
theorem erase_ok {now : Int} {l : List Du} (i : Nat) (h : OkLs now l) : OkLs now (l.eraseIdx i) :=
  ⟨Nat.le_trans (List.eraseIdx_sublist l i).length_le h.len, h.now0, h.now1, fun x hx => h.ats x ((List.eraseIdx_sublist l i).subset hx), h.ord.sublist (List.eraseIdx_sublist l i), ((List.eraseIdx_sublist l i).map Du.id).nodup h.ids⟩
theorem erase_perm {l : List Du} {i : Nat} {x : Du} (hi : l[i]? = some x) : (l.eraseIdx i ++ [x]).Perm l := by
  obtain ⟨hlt, rfl⟩ := List.getElem?_eq_some_iff.1 hi
  rw [List.eraseIdx_eq_take_drop_succ]
  have h1 : (l.take i ++ l.drop (i + 1) ++ [l[i]]).Perm (l.take i ++ (l[i] :: l.drop (i + 1))) := by
    rw [List.append_assoc]
    exact List.Perm.append_left _ List.perm_append_comm
  have h2 : l.take i ++ (l[i] :: l.drop (i + 1)) = l := by
    rw [← List.drop_eq_getElem_cons hlt, List.take_append_drop]
  rw [h2] at h1
  exact h1
/-- who is out and is set anew to what was left is where it was -/
theorem set_back {now : Int} {l : List Du} {i : Nat} {x : Du} (h : OkLs now l) (hi : l[i]? = some x) : setL now x.id (x.at_ - now) (l.eraseIdx i) = l := by
  have e1 : (⟨now + (x.at_ - now), x.id⟩ : Du) = x := by
    obtain ⟨a, b⟩ := x
    show Du.mk (now + (a - now)) b = Du.mk a b
    congr 1
    omega
  have hp : (setL now x.id (x.at_ - now) (l.eraseIdx i)).Perm l := by
    unfold setL
    rw [erase_others h.ids hi, e1]
    exact (srtD_perm _).trans (erase_perm hi)
  refine perm_ord_eq hp ?_ h.ord
  unfold setL
  refine srtD_ord (nodup_of_ids (set_ids ?_))
  exact (erase_ok i h).ids
/-- it can be set anew, unless too much was left -/
theorem set_back_ok {now : Int} {l : List Du} {i : Nat} {x : Du} (h : OkLs now l) (hi : l[i]? = some x) (hs : ¬ SetsT now x.id (x.at_ - now) (l.eraseIdx i)) : 1099511627776 < x.at_ - now := by
  obtain ⟨hlt, rfl⟩ := List.getElem?_eq_some_iff.1 hi
  have h1 := (h.ats _ (List.getElem_mem hlt)).1
  have h2 := h.len
  have h3 : (l.eraseIdx i).length = l.length - 1 := List.length_eraseIdx_of_lt hlt
  have h4 : (others l[i].id (l.eraseIdx i)).length ≤ (l.eraseIdx i).length := List.length_filter_le _ _
  by_cases h5 : l[i].at_ - now ≤ 1099511627776
  · exact absurd ⟨(erase_ok i h).tl, ⟨by omega, h5⟩, by omega⟩ hs
  · omega
/-- how many of a number there are -/
def cntD (id : Int) (l : List Du) : Nat := l.countP (fun x => x.id == id)
theorem set_count {now id ticks : Int} {l : List Du} : cntD id (setL now id ticks l) = 1 := by
  unfold cntD setL
  rw [(srtD_perm _).countP_eq, List.countP_append]
  have h1 : (others id l).countP (fun x => x.id == id) = 0 := by
    rw [List.countP_eq_zero]
    intro x hx
    simpa using (others_mem.1 hx).2
  rw [h1]
  simp
theorem cntD_succ {id : Int} {l : List Du} {k : Nat} {x : Du} (h : l[k]? = some x) : cntD id (l.take (k + 1)) = cntD id (l.take k) + if x.id = id then 1 else 0 := by
  obtain ⟨hlt, rfl⟩ := List.getElem?_eq_some_iff.1 h
  unfold cntD
  rw [← List.take_append_getElem hlt, List.countP_append]
  congr 1
  by_cases e : l[k].id = id
  · simp [e]
  · simp [e]
theorem cntD_le {id : Int} {l : List Du} {k : Nat} : cntD id (l.take k) ≤ k := Nat.le_trans List.countP_le_length (List.length_take_le ..)
end Go.Proofs.Ythnoahldolfffaa
