/- Timers in order: plain facts. -/
import Derived.Test.YthnoahldolfffaaTimerGo
namespace Go.Proofs.Ythnoahldolfffaa
open Go.RowKit
set_option linter.unusedVariables false
theorem cmpD_trans {x y z : Du} (h1 : cmpD x y < 0) (h2 : cmpD y z < 0) : cmpD x z < 0 := by
  rw [cmpD_neg] at *
  omega
theorem nthD_get {l : List Du} {k : Nat} (h : k < l.length) : nthD l k = l[k] := by simp [nthD, h]
/-- the same, said of the list -/
structure OkLs (now : Int) (l : List Du) : Prop where
  len : l.length ≤ 100
  now0 : 0 ≤ now
  now1 : now ≤ 1099511627776
  ats : ∀ x ∈ l, now < x.at_ ∧ x.at_ ≤ 2199023255552
  ord : l.Pairwise (fun x y => cmpD x y < 0)
  ids : (l.map Du.id).Nodup
theorem OkTl.ls {now : Int} {l : List Du} (h : OkTl now l) : OkLs now l := by
  obtain ⟨h1, ⟨h2, h3⟩, h4⟩ := h
  refine ⟨h1, h2, h3, fun x hx => ?_, ?_, ?_⟩
  · obtain ⟨i, hi, rfl⟩ := List.mem_iff_getElem.1 hx
    have := (h4 i hi).1
    rw [nthD_get hi] at this
    exact this
  · rw [List.pairwise_iff_getElem]
    intro i j hi hj hij
    have key : ∀ k, i < k → k < l.length → cmpD (nthD l i) (nthD l k) < 0 := by
      intro k
      induction k with
      | zero => intro h; omega
      | succ k ih =>
        intro hik hk
        have h5 := (h4 (k + 1) hk).2.1 (by omega)
        rw [Nat.add_sub_cancel] at h5
        by_cases e : i = k
        · subst e; exact h5
        · exact cmpD_trans (ih (by omega) (by omega)) h5
    have := key j hij hj
    rw [nthD_get hi, nthD_get hj] at this
    exact this
  · rw [List.nodup_iff_pairwise_ne, List.pairwise_map, List.pairwise_iff_getElem]
    intro i j hi hj hij
    have := (h4 j hj).2.2 i hij
    rw [nthD_get hi, nthD_get hj] at this
    exact this
theorem OkLs.tl {now : Int} {l : List Du} (h : OkLs now l) : OkTl now l := by
  refine ⟨h.len, ⟨h.now0, h.now1⟩, fun i hi => ⟨?_, fun h0 => ?_, fun j hj => ?_⟩⟩
  · rw [nthD_get hi]
    exact h.ats _ (List.getElem_mem hi)
  · rw [nthD_get hi, nthD_get (show i - 1 < l.length by omega)]
    exact List.pairwise_iff_getElem.1 h.ord (i - 1) i (by omega) hi (by omega)
  · rw [nthD_get hi, nthD_get (show j < l.length by omega)]
    have h1 := h.ids
    rw [List.nodup_iff_pairwise_ne, List.pairwise_map] at h1
    exact List.pairwise_iff_getElem.1 h1 j i (by omega) hi hj
theorem srtD_ord {l : List Du} (hn : l.Nodup) : (srtD l).Pairwise (fun x y => cmpD x y < 0) := by
  have h1 : (srtD l).Pairwise (fun x y => (!(Go.Proofs.ltOf cmpD) y x) = true) := by
    refine List.pairwise_mergeSort (le := fun x y => !(Go.Proofs.ltOf cmpD) y x) ?_ ?_ l
    · intro a b c h1 h2
      have e1 : ¬ cmpD b a < 0 := by simpa [Go.Proofs.ltOf] using h1
      have e2 : ¬ cmpD c b < 0 := by simpa [Go.Proofs.ltOf] using h2
      have : ¬ cmpD c a < 0 := by rw [cmpD_neg] at *; omega
      simpa [Go.Proofs.ltOf] using this
    · intro a b
      by_cases h : cmpD b a < 0
      · have : ¬ cmpD a b < 0 := by rw [cmpD_neg] at *; omega
        simp [Go.Proofs.ltOf, this]
      · simp [Go.Proofs.ltOf, h]
  have h2 : (srtD l).Nodup := (srtD_perm l).nodup_iff.2 hn
  have h3 := List.Pairwise.and h1 (List.nodup_iff_pairwise_ne.1 h2)
  refine h3.imp ?_
  rintro x y ⟨h4, h5⟩
  have e1 : ¬ cmpD y x < 0 := by simpa [Go.Proofs.ltOf] using h4
  have e2 : cmpD x y ≠ 0 := fun e => h5 ((cmpD_zero x y).1 e)
  have e3 : ¬ (x.at_ = y.at_ ∧ x.id = y.id) := fun ⟨ha, hb⟩ => h5 (by obtain ⟨_, _⟩ := x; obtain ⟨_, _⟩ := y; simp only at ha hb; subst ha hb; rfl)
  rw [cmpD_neg] at e1 ⊢
  omega
theorem nodup_of_ids {l : List Du} (h : (l.map Du.id).Nodup) : l.Nodup := by
  rw [List.nodup_iff_pairwise_ne, List.pairwise_map] at h
  rw [List.nodup_iff_pairwise_ne]
  exact h.imp (fun hne e => hne (by rw [e]))
theorem others_mem {id : Int} {l : List Du} {x : Du} : x ∈ others id l ↔ x ∈ l ∧ x.id ≠ id := by
  unfold others
  rw [List.mem_filter]
  simp
theorem set_ids {id : Int} {now ticks : Int} {l : List Du} (h : (l.map Du.id).Nodup) : ((others id l ++ [(⟨now + ticks, id⟩ : Du)]).map Du.id).Nodup := by
  rw [List.map_append, List.nodup_append]
  refine ⟨?_, by simp, ?_⟩
  · exact (List.filter_sublist.map Du.id).nodup h
  · intro a ha b hb e
    simp at hb
    obtain ⟨x, hx, rfl⟩ := List.mem_map.1 ha
    exact (others_mem.1 hx).2 (by rw [e, hb])
theorem set_mem {now id ticks : Int} {l : List Du} {x : Du} : x ∈ setL now id ticks l ↔ x ∈ others id l ∨ x = ⟨now + ticks, id⟩ := by
  unfold setL
  rw [(srtD_perm _).mem_iff]
  simp
/-- timers that are set are right -/
theorem set_ok {now id ticks : Int} {l : List Du} (h : SetsT now id ticks l) : OkLs now (setL now id ticks l) := by
  obtain ⟨h1, ⟨h2, h3⟩, h4⟩ := h
  have g := h1.ls
  have hi := set_ids (id := id) (now := now) (ticks := ticks) g.ids
  have hlen : (setL now id ticks l).length = (others id l).length + 1 := by
    unfold setL
    rw [srtD_len, List.length_append]; rfl
  have hle : (others id l).length ≤ l.length := List.length_filter_le _ _
  have := g.len
  have := g.now1
  refine ⟨by omega, g.now0, g.now1, fun x hx => ?_, ?_, ?_⟩
  · rcases set_mem.1 hx with hx | rfl
    · exact g.ats x (others_mem.1 hx).1
    · exact ⟨by show now < now + ticks; omega, by show now + ticks ≤ 2199023255552; omega⟩
  · exact srtD_ord (nodup_of_ids hi)
  · unfold setL
    exact ((srtD_perm _).map Du.id).nodup_iff.2 hi
/-- where time goes on the timers stay right -/
theorem go_ok {now ticks : Int} {l : List Du} {n : Nat} (h : OkLs now l) (h0 : 0 ≤ ticks) (h1 : ticks ≤ 1099511627776 - now) (hd : DueN (now + ticks) l n) : OkLs (now + ticks) (l.drop n) := by
  have h2 := h.now0
  refine ⟨by have := h.len; rw [List.length_drop]; omega, by omega, by omega, fun x hx => ⟨?_, (h.ats x (List.mem_of_mem_drop hx)).2⟩, h.ord.sublist (List.drop_sublist _ _), ((List.drop_sublist _ _).map Du.id).nodup h.ids⟩
  obtain ⟨i, hi, rfl⟩ := List.mem_iff_getElem.1 hx
  rw [List.length_drop] at hi
  rw [List.getElem_drop]
  have hn : n < l.length := by omega
  have h3 := hd.2.2 _ (List.getElem?_eq_getElem hn)
  by_cases e : i = 0
  · subst e
    simp only [Nat.add_zero]
    omega
  · have h4 := List.pairwise_iff_getElem.1 h.ord n (n + i) hn (by omega) (by omega)
    rw [cmpD_neg] at h4
    omega
/-- who is due is told -/
theorem due_mem {now t : Int} {l : List Du} {n : Nat} {x : Du} (h : OkLs now l) (hd : DueN t l n) (hx : x ∈ l) : x ∈ l.take n ↔ x.at_ ≤ t := by
  obtain ⟨i, hi, rfl⟩ := List.mem_iff_getElem.1 hx
  constructor
  · intro hm
    obtain ⟨j, hj, e⟩ := List.mem_iff_getElem.1 hm
    rw [List.length_take] at hj
    rw [List.getElem_take] at e
    rw [← e]
    exact hd.2.1 j _ (by omega) (List.getElem?_eq_getElem (by omega))
  · intro hle
    by_cases hin : i < n
    · exact List.mem_iff_getElem.2 ⟨i, by rw [List.length_take]; omega, by rw [List.getElem_take]⟩
    · have hn : n < l.length := by omega
      have h3 := hd.2.2 _ (List.getElem?_eq_getElem hn)
      by_cases e : i = n
      · subst e; exact absurd hle h3
      · have h4 := List.pairwise_iff_getElem.1 h.ord n i hn hi (by omega)
        rw [cmpD_neg] at h4
        omega
end Go.Proofs.Ythnoahldolfffaa
