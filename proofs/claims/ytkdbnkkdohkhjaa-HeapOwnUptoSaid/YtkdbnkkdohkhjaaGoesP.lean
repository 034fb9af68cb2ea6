/- Cells that were carried: the plain facts on the heap they left and on the copies. -/
import Derived.Test.YtkdbnkkdohkhjaaCarryDone
import Derived.Test.YtkdbnkkdohkhjaaCarryOver
namespace Go.Proofs.Ytkdbnkkdohkhjaa
open Go.RowKit
set_option linter.unusedVariables false
def posO (l : List Ob) (k : Nat) : Nat := (flatO (l.take k)).length
theorem posO_le (l : List Ob) (k : Nat) : posO l k ≤ (flatO l).length := by
  unfold posO
  conv => rhs; rw [← List.take_append_drop k l, flatO_append]
  rw [List.length_append]; omega
theorem posO_succ {l : List Ob} {k : Nat} {o : Ob} (h : l[k]? = some o) : posO l (k + 1) = posO l k + (wordsO o).length := by
  obtain ⟨hk, he⟩ := List.getElem?_eq_some_iff.1 h
  unfold posO
  rw [List.take_succ_eq_append_getElem hk, he, flatO_snoc, List.length_append]
theorem posO_lt {l : List Ob} {j : Nat} : ∀ k, j < k → k ≤ l.length → posO l j < posO l k := by
  intro k
  induction k with
  | zero => intro h; omega
  | succ k ih =>
    intro h hk
    have h1 := posO_succ (l := l) (k := k) (o := l[k]) (List.getElem?_eq_getElem (by omega))
    have h2 := wordsO_pos (l[k])
    rcases Nat.lt_or_ge j k with h3 | h3
    · have := ih h3 (by omega)
      omega
    · obtain rfl : j = k := by omega
      omega
theorem posO_inj {l : List Ob} {j k : Nat} (hj : j < l.length) (hk : k < l.length) (h : posO l j = posO l k) : j = k := by
  rcases Nat.lt_trichotomy j k with h1 | h1 | h1
  · have := posO_lt (l := l) k h1 (by omega); omega
  · exact h1
  · have := posO_lt (l := l) j h1 (by omega); omega
/-- what stands where a cell was -/
def goneO : Ob := ⟨1, 0, ⟨#[]⟩, []⟩
theorem goneO_words : wordsO goneO = [1, 0] := by decide +kernel
theorem goneO_good : GoodOb goneO := ⟨by decide +kernel, by decide +kernel, fun x hx => by cases hx⟩
theorem cell_words {o : Ob} (h : okOb o = true) (h5 : o.kind = 5) (hp : o.parts.length = 1) : (wordsO o).length = 2 := by
  obtain ⟨_, h2, _, _, _⟩ := okOb_iff.1 h
  rw [wordsO_len, hp]
  have h3 : o.text.size = 0 := by omega
  have h4 : (numW o).length = 0 := by unfold numW; rw [h5]; rfl
  omega
/-- one object is taken out -/
theorem empty_set {l : List Ob} {k : Nat} {o : Ob} (h : l[k]? = some o) (h2 : (wordsO o).length = 2) : emptyAt (flatO l) (posO l k) = flatO (l.set k goneO) := by
  obtain ⟨hk, he⟩ := List.getElem?_eq_some_iff.1 h
  have hs : l = l.take k ++ o :: l.drop (k + 1) := by
    conv => lhs; rw [← List.take_append_drop k l, List.drop_eq_getElem_cons hk, he]
  have hf : flatO l = flatO (l.take k) ++ (wordsO o ++ flatO (l.drop (k + 1))) := by
    conv => lhs; rw [hs]
    rw [flatO_append, flatO_cons]
  rw [List.set_eq_take_append_cons_drop, if_pos hk, flatO_append, flatO_cons, goneO_words]
  unfold emptyAt posO
  have hlen : (flatO l).length - (flatO (l.take k)).length = 2 + (flatO (l.drop (k + 1))).length := by
    rw [hf, List.length_append, List.length_append, h2]; omega
  have ht : ([1, 0] : List Nat).take ((flatO l).length - (flatO (l.take k)).length) = [1, 0] := by
    rw [hlen]
    exact List.take_of_length_le (by simp <;> omega)
  rw [ht]
  rw [hf, List.take_left]
  rw [← List.append_assoc (flatO (l.take k)), List.drop_append_of_le_length (by rw [List.length_append, h2]; simp), List.drop_of_length_le (by rw [List.length_append, h2]; simp)]
  simp only [List.nil_append, List.append_assoc]
theorem pos_set {l : List Ob} {k : Nat} {o : Ob} (h : l[k]? = some o) (h2 : (wordsO o).length = 2) (j : Nat) : posO (l.set k goneO) j = posO l j := by
  obtain ⟨hk, he⟩ := List.getElem?_eq_some_iff.1 h
  unfold posO
  rw [List.take_set]
  by_cases hj : k < j
  · have h1 : (l.take j)[k]? = some o := by rw [List.getElem?_take]; simp [hj, h]
    obtain ⟨hk', he'⟩ := List.getElem?_eq_some_iff.1 h1
    rw [List.set_eq_take_append_cons_drop, if_pos hk', flatO_append, flatO_cons, goneO_words]
    have hs : l.take j = (l.take j).take k ++ o :: (l.take j).drop (k + 1) := by
      conv => lhs; rw [← List.take_append_drop k (l.take j), List.drop_eq_getElem_cons hk', he']
    conv => rhs; rw [hs]
    rw [flatO_append, flatO_cons]
    simp only [List.length_append, h2]
    rfl
  · rw [List.set_eq_of_length_le (by rw [List.length_take]; omega)]
/-- all cells of a list are taken out -/
theorem emptied_obs : ∀ (cs : List Nat) (l : List Ob), (∀ o ∈ l, GoodOb o) → (∀ a ∈ cs, ∃ k o, l[k]? = some o ∧ posO l k = a ∧ (wordsO o).length = 2) →
    ∃ l', emptied (flatO l) cs = flatO l' ∧ (∀ o ∈ l', GoodOb o) ∧ l'.length = l.length ∧ (∀ k, posO l' k = posO l k) ∧ ∀ k o', l'[k]? = some o' → (posO l k ∈ cs → o' = goneO) ∧ (posO l k ∉ cs → l[k]? = some o') := by
  intro cs
  induction cs with
  | nil => intro l hg _; exact ⟨l, rfl, hg, rfl, fun _ => rfl, fun k o' h => ⟨fun h => (by cases h), fun _ => h⟩⟩
  | cons a m ih =>
    intro l hg hc
    obtain ⟨k, o, hk, hp, h2⟩ := hc a List.mem_cons_self
    have hkl := (List.getElem?_eq_some_iff.1 hk).1
    obtain ⟨l', e1, e2, e3, e4, e5⟩ := ih (l.set k goneO) (fun x hx => by
      rcases List.mem_or_eq_of_mem_set hx with h | h
      · exact hg x h
      · rw [h]; exact goneO_good) (fun b hb => by
      obtain ⟨j, oj, hj, hpj, h2j⟩ := hc b (List.mem_cons_of_mem _ hb)
      by_cases e : k = j
      · subst e
        exact ⟨k, goneO, by rw [List.getElem?_set_self hkl], by rw [pos_set hk h2]; exact hpj, by rw [goneO_words]; rfl⟩
      · exact ⟨j, oj, by rw [List.getElem?_set_ne e]; exact hj, by rw [pos_set hk h2]; exact hpj, h2j⟩)
    refine ⟨l', ?_, e2, by rw [e3, List.length_set], fun j => by rw [e4, pos_set hk h2], fun j o' hj => ?_⟩
    · show emptied (emptyAt (flatO l) a) m = _
      rw [← hp, empty_set hk h2]
      exact e1
    · have hjl : j < l.length := by
        have := (List.getElem?_eq_some_iff.1 hj).1
        rw [e3, List.length_set] at this
        exact this
      obtain ⟨f1, f2⟩ := e5 j o' hj
      rw [pos_set hk h2] at f1 f2
      refine ⟨fun h => ?_, fun h => ?_⟩
      · by_cases hm : posO l j ∈ m
        · exact f1 hm
        · have hja : posO l j = a := by
            rcases List.mem_cons.1 h with h | h
            · exact h
            · exact absurd h hm
          have hjk : j = k := posO_inj hjl hkl (by rw [hja, hp])
          subst hjk
          have h3 := f2 hm
          rw [List.getElem?_set_self hkl] at h3
          injection h3 with h3
          exact h3.symm
      · have hm : posO l j ∉ m := fun h' => h (List.mem_cons_of_mem _ h')
        have hjk : k ≠ j := fun e => h (by rw [← e, hp]; exact List.mem_cons_self)
        have h3 := f2 hm
        rw [List.getElem?_set_ne hjk] at h3
        exact h3
theorem obs_at {f : List Nat} {l : List Ob} (h : ObsOf f l) {k : Nat} {o : Ob} (hk : l[k]? = some o) : ReadsOb f (posO l k) ∧ obR f (posO l k) = o := by
  obtain ⟨hl, he⟩ := List.getElem?_eq_some_iff.1 hk
  have hs : l = l.take k ++ o :: l.drop (k + 1) := by
    conv => lhs; rw [← List.take_append_drop k l, List.drop_eq_getElem_cons hl, he]
  exact obs_reads (by rw [← hs]; exact h)
theorem nodup_map_on {g : Nat → Nat} : ∀ {l : List Nat}, l.Nodup → (∀ a ∈ l, ∀ b ∈ l, g a = g b → a = b) → (l.map g).Nodup := by
  intro l
  induction l with
  | nil => intro _ _; exact List.nodup_nil
  | cons a l ih =>
    intro h hi
    obtain ⟨h1, h2⟩ := List.nodup_cons.1 h
    rw [List.map_cons, List.nodup_cons]
    refine ⟨fun hm => ?_, ih h2 (fun x hx y hy => hi x (List.mem_cons_of_mem _ hx) y (List.mem_cons_of_mem _ hy))⟩
    obtain ⟨b, hb, hgb⟩ := List.mem_map.1 hm
    have := hi b (List.mem_cons_of_mem _ hb) a List.mem_cons_self hgb
    exact h1 (this ▸ hb)
theorem rel_word {f b : List Nat} {l : List Ob} {cp : List (Nat × Nat)} (C : CpOk f l cp) (hob : ObsOf b l) (hb4 : b.length ≤ 4000) {p q : Nat} (hok : okR (p : Int) = true) (hr : relP cp p q) : okR (q : Int) = true ∧ (tagOf (q : Int) = 4 → tagOf (p : Int) = 4) ∧ (tagOf (p : Int) = 4 → tagOf (q : Int) = 4 ∧ look cp (atOf p) = some (atOf q)) := by
  by_cases ht : tagOf (p : Int) = 4
  · obtain ⟨n, hl, rfl⟩ := hr.1 ht
    have hn : n < b.length := by
      have h1 := (C.copy _ _ hl).lt
      rw [← hob.1] at h1
      exact h1
    obtain ⟨hw1, hw2⟩ := cw_word (p := n) (by omega)
    obtain ⟨k1, k2, k3, k4⟩ := okR_word hw2
    rw [hw1] at k1 k2 k3
    have hqa : atOf (cw n) = n := by unfold atOf; rw [k3]; simp
    exact ⟨k1, fun _ => ht, fun _ => ⟨k2, by rw [hqa]; exact hl⟩⟩
  · have hq := hr.2 ht
    subst hq
    exact ⟨hok, fun h => absurd h ht, fun h => absurd h ht⟩
theorem copy_at {f b : List Nat} {l : List Ob} {cp : List (Nat × Nat)} (C : CpOk f l cp) (hob : ObsOf b l) {a n : Nat} (hl : look cp a = some n) : ReadsOb b n ∧ kdR b n = kdR f a ∧ (paR b n).length = (paR f a).length ∧ ∀ i, i < (paR b n).length → relP cp (nth (paR f a) i) (nth (paR b n) i) := by
  obtain ⟨lA, lB, ps, hl1, hl2, hl3, hl4⟩ := (C.copy _ _ hl).obj
  obtain ⟨hrB, hoB⟩ := obs_reads (h := b) (l := lA) (m := lB) (o := withParts (obR f a) ps) (by rw [← hl1]; exact hob)
  rw [hl2] at hrB hoB
  have hp : paR b n = ps := congrArg Ob.parts hoB
  have hk : ((kdR b n : Nat) : Int) = ((kdR f a : Nat) : Int) := congrArg Ob.kind hoB
  rw [hp]
  exact ⟨hrB, by omega, hl3, hl4⟩
/-- the copies are a good set -/
theorem copies_good {f b : List Nat} {l : List Ob} {cp : List (Nat × Nat)} {wd q : Nat} (C : CpOk f l cp) (hob : ObsOf b l) (hb4 : b.length ≤ 4000) (hok : okR (wd : Int) = true) (hr : relP cp wd q) : GoodD b q (fun n => ∃ a, look cp a = some n) := by
  obtain ⟨h1, h2, h3⟩ := rel_word C hob hb4 hok hr
  refine ⟨h1, fun ht => ⟨atOf wd, (h3 (h2 ht)).2⟩, fun n ⟨a, ha⟩ => (copy_at C hob ha).1, fun n ⟨a, ha⟩ p hp => ?_⟩
  obtain ⟨_, _, k3, k4⟩ := copy_at C hob ha
  obtain ⟨i, hi, rfl⟩ := List.getElem_of_mem hp
  have hm : nth (paR f a) i ∈ paR f a := by rw [nth_get (by omega)]; exact List.getElem_mem _
  have hrel := k4 i hi
  rw [nth_get hi] at hrel
  obtain ⟨g1, g2, g3⟩ := rel_word C hob hb4 (C.okp a n ha _ hm) hrel
  exact ⟨g1, fun ht => ⟨_, (g3 (g2 ht)).2⟩⟩
/-- as many cells are reached over there as here -/
theorem cells_count {f t b : List Nat} {l : List Ob} {wd q : Nat} {st : CS} {V U : List Nat} (hb : b = st.to) (C : CpOk f l st.cp) (hob : ObsOf b l) (hb4 : b.length ≤ 4000) (hok : okR (wd : Int) = true) (hr : relP st.cp wd q) (e : carW f 40 wd ⟨t, [], []⟩ = some (q, st)) (hV : ∀ a, a ∈ V ↔ Has st a) (hVn : V.Nodup) (H : RInv b q U []) :
    (cellsV b U).length = (cellsV f V).length := by
  have hUD := (H.reach _ (copies_good C hob hb4 hok hr)).1
  have hrw := rel_word C hob hb4 hok hr
  have hclosed : ClosedD f (fun a => ∃ n, look st.cp a = some n ∧ n ∈ U) := fun a ⟨n, ha, hn⟩ p hp ht => by
    obtain ⟨_, _, k3, k4⟩ := copy_at C hob ha
    obtain ⟨i, hi, rfl⟩ := List.getElem_of_mem hp
    have hrel := k4 i (by omega)
    rw [nth_get hi] at hrel
    obtain ⟨g1, g2, g3⟩ := rel_word C hob hb4 (C.okp a n ha _ hp) hrel
    have hmem : nth (paR b n) i ∈ paR b n := by rw [nth_get (by omega)]; exact List.getElem_mem _
    exact ⟨_, (g3 ht).2, (H.done.parts n hn _ hmem).2 (g3 ht).1⟩
  have hall : ∀ a, Has st a → ∃ n, look st.cp a = some n ∧ n ∈ U := fun a ha => by
    rcases carW_reach hclosed 40 wd _ q st (fun ht => ⟨_, (hrw.2.2 ht).2, H.done.start (hrw.2.2 ht).1⟩) e a ha with h | h
    · exact absurd rfl h
    · exact h
  unfold cellsV
  simp only [List.length_map, List.length_reverse]
  have hg : ∀ a n, look st.cp a = some n → (look st.cp a).getD 0 = n := fun a n h => by rw [h]; rfl
  have hinj : ∀ x ∈ V.filter (fun a => kdR f a == 5), ∀ y ∈ V.filter (fun a => kdR f a == 5), (look st.cp x).getD 0 = (look st.cp y).getD 0 → x = y := fun x hx y hy he => by
    obtain ⟨n, hn, _⟩ := hall x ((hV x).1 (List.mem_filter.1 hx).1)
    obtain ⟨m, hm, _⟩ := hall y ((hV y).1 (List.mem_filter.1 hy).1)
    rw [hg x n hn, hg y m hm] at he
    subst he
    exact C.inj _ _ _ hn hm
  have h1 : (V.filter (fun a => kdR f a == 5)).length ≤ (U.filter (fun a => kdR b a == 5)).length := by
    have := nodup_le (m := U.filter (fun a => kdR b a == 5)) (nodup_map_on (g := fun a => (look st.cp a).getD 0) (hVn.filter _) hinj) (fun x hx => by
      obtain ⟨a, ha, rfl⟩ := List.mem_map.1 hx
      obtain ⟨ha1, ha2⟩ := List.mem_filter.1 ha
      obtain ⟨n, hn, hnU⟩ := hall a ((hV a).1 ha1)
      rw [hg a n hn, List.mem_filter]
      refine ⟨hnU, ?_⟩
      rw [(copy_at C hob hn).2.1]
      exact ha2)
    simpa using this
  have h2 : (U.filter (fun a => kdR b a == 5)).length ≤ (V.filter (fun a => kdR f a == 5)).length := by
    have := nodup_le (m := (V.filter (fun a => kdR f a == 5)).map (fun a => (look st.cp a).getD 0)) (H.nodup.filter (fun a => kdR b a == 5)) (fun x hx => by
      obtain ⟨hx1, hx2⟩ := List.mem_filter.1 hx
      obtain ⟨a, ha⟩ := hUD x hx1
      refine List.mem_map.2 ⟨a, List.mem_filter.2 ⟨(hV a).2 (by unfold Has; rw [ha]; simp), ?_⟩, hg a x ha⟩
      rw [(copy_at C hob ha).2.1] at hx2
      exact hx2)
    simpa using this
  omega
end Go.Proofs.Ytkdbnkkdohkhjaa
