/- Ages: what adding and collecting keep, plain facts. Ages: a collection behind a collection, plain facts. young.Add. The closed fact heaps. The closed fact youths. roadkeep3.set. young.Minor. roadkeep3.grown. Minor and Major at ages that are right. Heaps, objects and values as arguments of a law in its second form. The arguments of the laws on ages: values, pairs, numbers. -/
import Derived.Test.YtkdbnkkdohkhjaaYMA
import Derived.Test.YtkdbnkkdohkhjaaHeapObsPlain
import Derived.Test.YtkdbnkkdohkhjaaCarryLd
import Derived.Test.YtkdbnkkdohkhjaaHeapRtPlain
import Derived.Test.YtkdbnkkdohkhjaaHeapBld
import Derived.BigQuiet
import Derived.Deep.RegionHeld3
import Derived.Deep.CutBlock
import Derived.Test.YtkdbnkkdohkhjaaDeep
import Derived.Deep.RegionLaw
import Derived.Deep.DeepCutAuto
import Derived.Test.YtkdbnkkdohkhjaaInts
namespace Go.Proofs.Ytkdbnkkdohkhjaa
open Go.RowKit
set_option linter.unusedVariables false
theorem posO_append {l r : List Ob} {k : Nat} (h : k ≤ l.length) : posO (l ++ r) k = posO l k := by
  unfold posO
  rw [List.take_append_of_le_length h]
theorem posO_end (l : List Ob) : posO l l.length = (flatO l).length := by unfold posO; rw [List.take_length]
theorem begO_append {l r : List Ob} {a : Nat} (h : begO l a) : begO (l ++ r) a := by
  obtain ⟨k, o, hk, hp⟩ := h
  have hl := (List.getElem?_eq_some_iff.1 hk).1
  exact ⟨k, o, by rw [List.getElem?_append_left hl]; exact hk, by rw [posO_append (by omega)]; exact hp⟩
theorem wordOk_append {l r : List Ob} {p : Nat} (h : wordOk l p) : wordOk (l ++ r) p := ⟨h.1, fun ht => begO_append (h.2 ht)⟩
theorem cw_at {n : Nat} (h : n < 4000) : okR (cw n : Nat) = true ∧ tagOf (cw n : Nat) = 4 ∧ atOf (cw n) = n ∧ cw n < 18446744073709551616 := by
  obtain ⟨h1, h2, h3⟩ := at_word (a := n) (by omega)
  exact ⟨h1, h2, by unfold atOf cw; rw [h3]; omega, cw_lt h⟩
theorem wordOk_leaf {l : List Ob} {p : Nat} (h : leafB (p : Int) = true) : wordOk l p := by
  unfold leafB at h
  simp only [Bool.and_eq_true, decide_eq_true_eq] at h
  exact ⟨h.1, fun ht => by omega⟩
/-- what a value's objects are, beside what was there -/
def WordStep (t : VT) : Prop := t.wf → ∀ (h g : List Nat) (l : List Ob) (x : Nat), ObsOf h l → h.length ≤ 4000 → t.bld h = some (g, x) → ∃ r, ObsOf g (l ++ r) ∧ wordOk (l ++ r) x ∧ x < 18446744073709551616 ∧ ∀ o ∈ r, ∀ p ∈ o.parts, wordOk (l ++ r) p
theorem bldArgs_4000 {arg : Nat → VT} : ∀ (n : Nat) (h g ps : List Nat), h.length ≤ 4000 → bldArgs (fun i => (arg i).bld) n h = some (g, ps) → g.length ≤ 4000 := by
  intro n
  induction n with
  | zero => intro h g ps hl e; simp [bldArgs] at e; obtain ⟨rfl, rfl⟩ := e; exact hl
  | succ n ih =>
    intro h g ps hl e
    simp only [bldArgs] at e
    split at e
    · cases e
    · rename_i g1 ps1 h1
      split at e
      · cases e
      · rename_i g2 x h2
        injection e with e
        injection e with e1 e2
        subst e1
        exact bld_4000 h2 (ih h g1 ps1 hl h1)
theorem word_args {arg : Nat → VT} (ih : ∀ i, WordStep (arg i)) : ∀ (n : Nat), (∀ i, i < n → (arg i).wf) → ∀ (h g ps : List Nat) (l : List Ob), ObsOf h l → h.length ≤ 4000 → bldArgs (fun i => (arg i).bld) n h = some (g, ps) → ∃ r, ObsOf g (l ++ r) ∧ (∀ p ∈ ps, wordOk (l ++ r) p ∧ p < 18446744073709551616) ∧ ∀ o ∈ r, ∀ p ∈ o.parts, wordOk (l ++ r) p := by
  intro n
  induction n with
  | zero =>
    intro _ h g ps l H _ e
    simp [bldArgs] at e
    obtain ⟨rfl, rfl⟩ := e
    exact ⟨[], by simpa using H, (fun x hx => by cases hx), fun o ho => by cases ho⟩
  | succ n ihn =>
    intro hw h g ps l H hl e
    simp only [bldArgs] at e
    split at e
    · cases e
    · rename_i g1 ps1 h1
      split at e
      · cases e
      · rename_i g2 x h2
        injection e with e
        injection e with e1 e2
        subst e1 e2
        obtain ⟨r, hr, hp, ho⟩ := ihn (fun i hi => hw i (by omega)) h g1 ps1 l H hl h1
        obtain ⟨r2, hr2, hx, hx2, ho2⟩ := ih n (hw n (by omega)) g1 g2 _ x hr (bldArgs_4000 n h g1 ps1 hl h1) h2
        refine ⟨r ++ r2, by rw [← List.append_assoc]; exact hr2, fun y hy => ?_, fun o hO => ?_⟩
        · rw [← List.append_assoc]
          rcases List.mem_append.1 hy with hy | hy
          · exact ⟨wordOk_append (hp y hy).1, (hp y hy).2⟩
          · rw [List.mem_singleton.1 hy]; exact ⟨hx, hx2⟩
        · rw [← List.append_assoc]
          rcases List.mem_append.1 hO with hO | hO
          · exact fun p hp => wordOk_append (ho o hO p hp)
          · exact ho2 o hO
theorem word_bld : ∀ t : VT, WordStep t := by
  intro t
  induction t with
  | none => intro _ h g l x H _ e; cases e
  | node k m s n arg ih =>
    intro hw h g l x H hl e
    simp only [VT.bld] at e
    split at e
    · rename_i hb
      injection e with e
      injection e with e1 e2
      subst e1 e2
      exact ⟨[], by simpa using H, wordOk_leaf (leaf_word hb).1, ofW_64 hb, fun o ho => by cases ho⟩
    · split at e
      · cases hb : bldArgs (fun i => (arg i).bld) n h with
        | none => rw [hb] at e; cases e
        | some p =>
          obtain ⟨g1, ps⟩ := p
          rw [hb] at e
          simp only [bldNode] at e
          split at e
          · rename_i hf
            injection e with e
            injection e with e1 e2
            subst e1 e2
            obtain ⟨r, hr, hp, ho⟩ := word_args ih n hw.2 h g1 ps l H hl hb
            have h2 := fitsB_iff.1 hf
            have hG : GoodOb ⟨kdOf k, m, s, ps⟩ := ⟨h2.1, hw.1, fun x hx => (hp x hx).2⟩
            have hpos := wordsO_pos ⟨kdOf k, m, s, ps⟩
            have hg1 : g1.length < 4000 := by omega
            obtain ⟨c1, c2, c3, c4⟩ := cw_at hg1
            refine ⟨r ++ [⟨kdOf k, m, s, ps⟩], by rw [← List.append_assoc]; exact obs_snoc hr hG, ⟨c1, fun _ => ?_⟩, c4, fun o hO p hp2 => ?_⟩
            · show begO _ (atOf (cw g1.length))
              rw [c3, ← List.append_assoc]
              refine ⟨(l ++ r).length, ⟨kdOf k, m, s, ps⟩, by simp, ?_⟩
              rw [posO_append (Nat.le_refl _), posO_end, ← hr.1]
            · rw [← List.append_assoc]
              rcases List.mem_append.1 hO with hO | hO
              · exact wordOk_append (ho o hO p hp2)
              · rw [List.mem_singleton.1 hO] at hp2
                exact wordOk_append (hp p hp2).1
          · cases e
      · cases e
theorem old_le {h : List Nat} {old : Int} {late : List Int} {l : List Ob} (H : OkA h old late l) : 0 ≤ old ∧ old ≤ (h.length : Int) := by
  rcases H.oldOk with e | ⟨a, e, hb⟩
  · omega
  · have := beg_lt H.obs hb; omega
/-- ages stay right when a value is added -/
theorem OkA.add {h g : List Nat} {old : Int} {late : List Int} {l : List Ob} {t : VT} {x : Nat} (H : OkA h old late l) (hw : t.wf) (e : t.bld h = some (g, x)) :
    ∃ r, OkA g old late (l ++ r) ∧ wordOk (l ++ r) x ∧ x < 18446744073709551616 := by
  obtain ⟨r, hr, hx, hx2, ho⟩ := word_bld t hw h g l x H.obs H.len e
  have h2 := old_le H
  have hlen : h.length = posO l l.length := by rw [posO_end, ← H.obs.1]
  refine ⟨r, ⟨bld_4000 e H.len, hr, ?_, fun i y hy => ?_, fun k o hk p hp => ?_⟩, hx, hx2⟩
  · rcases H.oldOk with e1 | ⟨a, e1, hb⟩
    · cases r with
      | nil => left; rw [e1, H.obs.1, hr.1]; simp
      | cons o r =>
        right
        refine ⟨h.length, e1, l.length, o, by simp, ?_⟩
        rw [posO_append (Nat.le_refl _), hlen]
    · exact .inr ⟨a, e1, begO_append hb⟩
  · obtain ⟨⟨a, e1, hb⟩, h3, h4⟩ := H.lateOk i y hy
    exact ⟨⟨a, e1, begO_append hb⟩, h3, h4⟩
  · by_cases hkl : k < l.length
    · rw [List.getElem?_append_left hkl] at hk
      obtain ⟨w1, w2⟩ := H.parts k o hk p hp
      rw [posO_append (by omega)]
      exact ⟨wordOk_append w1, w2⟩
    · rw [List.getElem?_append_right (by omega)] at hk
      refine ⟨ho o (List.mem_of_getElem? hk) p hp, fun _ _ hlt => ?_⟩
      have h5 : posO (l ++ r) l.length ≤ posO (l ++ r) k := by
        rcases Nat.lt_or_ge l.length k with h6 | h6
        · have hkr : k < (l ++ r).length := by have := (List.getElem?_eq_some_iff.1 hk).1; rw [List.length_append]; omega
          exact Nat.le_of_lt (posO_lt k h6 (by omega))
        · obtain rfl : k = l.length := by omega
          exact Nat.le_refl _
      rw [posO_append (Nat.le_refl _)] at h5
      omega
/-- what a collection reads: the objects kept at their places, and the ones copied -/
structure GcOk (l : List Ob) (kf : Nat) (lt : List Int) (K : List Nat) : Prop where
  good : ∀ o ∈ l, GoodOb o
  len : (flatO l).length ≤ 4000
  kfl : kf ≤ l.length
  nodup : K.Nodup
  klt : ∀ k ∈ K, k < l.length ∧ kf ≤ k
  word : ∀ (k : Nat) (o : Ob), l[k]? = some o → ∀ p ∈ o.parts, wordOk l p
  closed : ∀ k : Nat, k < kf ∨ k ∈ K → ∀ o : Ob, l[k]? = some o → (k < kf → ((posO l k : Nat) : Int) ∈ lt) → ∀ p ∈ o.parts, Hit ((posO l kf : Nat) : Int) p → atOf p ∈ K.map (posO l)
  calm : ∀ (k : Nat) (o : Ob), l[k]? = some o → k < kf → ((posO l k : Nat) : Int) ∉ lt → ∀ p ∈ o.parts, ¬ Hit ((posO l kf : Nat) : Int) p
theorem posO_ge {l : List Ob} {kf k : Nat} (hkf : kf ≤ l.length) (hk : k < l.length) (h : posO l kf ≤ posO l k) : kf ≤ k := by
  rcases Nat.lt_or_ge k kf with h1 | h1
  · have := posO_lt (l := l) kf h1 hkf; omega
  · exact h1
theorem posO_mono {l : List Ob} {j k : Nat} (h : j ≤ k) (hk : k ≤ l.length) : posO l j ≤ posO l k := by
  rcases Nat.lt_or_ge j k with h1 | h1
  · exact Nat.le_of_lt (posO_lt k h1 hk)
  · obtain rfl : j = k := by omega
    exact Nat.le_refl _
theorem GcOk.of {h : List Nat} {old : Int} {late : List Int} {l : List Ob} (H : OkA h old late l) {kf : Nat} (hk : kf ≤ l.length) (lt : List Int) (ws K : List Nat) (R : RK l ((posO l kf : Nat) : Int) ws K [])
    (hcalm : ∀ k o, l[k]? = some o → k < kf → ((posO l k : Nat) : Int) ∉ lt → ∀ p ∈ o.parts, ¬ Hit ((posO l kf : Nat) : Int) p)
    (hlate : ∀ k o, l[k]? = some o → k < kf → ((posO l k : Nat) : Int) ∈ lt → ∀ p ∈ o.parts, p ∈ ws) : GcOk l kf lt K := by
  refine ⟨H.obs.2, by rw [← H.obs.1]; exact H.len, hk, R.nodup, fun k hK => ⟨(R.lt k hK).1, posO_ge hk (R.lt k hK).1 (by have := (R.lt k hK).2; omega)⟩, fun k o ho p hp => (H.parts k o ho p hp).1, fun k hkk o ho hm p hp hh => ?_, hcalm⟩
  rcases hkk with hkk | hkk
  · rcases R.start p (hlate k o ho hkk (hm hkk) p hp) hh with h1 | h1
    · exact h1
    · cases h1
  · rcases R.closed k hkk o ho p hp hh with h1 | h1
    · exact h1
    · cases h1
theorem look_plc {l : List Ob} {g K : List Nat} (hn : K.Nodup) (hlt : ∀ k ∈ K, k < l.length) {j : Nat} : ∀ {n : Nat}, j < n → n ≤ K.length → look (plc l g K n) (posO l (K.getD j 0)) = some (cpH l g K j).length := by
  intro n
  induction n with
  | zero => intro h; omega
  | succ n ih =>
    intro h hnK
    simp only [plc, look]
    by_cases e : j = n
    · subst e; rw [if_pos rfl]
    · have hgn : K.getD n 0 = K[n] := by simp [List.getD, show n < K.length by omega]
      have hgj : K.getD j 0 = K[j] := by simp [List.getD, show j < K.length by omega]
      have hne : ¬ posO l (K.getD j 0) = posO l (K.getD n 0) := by
        intro h2
        rw [hgn, hgj] at h2
        have := posO_inj (hlt _ (List.getElem_mem _)) (hlt _ (List.getElem_mem _)) h2
        exact absurd this (List.pairwise_iff_getElem.1 hn j n (by omega) (by omega) (by omega))
      rw [if_neg hne]
      exact ih (by omega) (by omega)
theorem look_plc_none {l : List Ob} {g K : List Nat} {a : Nat} {n : Nat} (hnK : n ≤ K.length) (h : a ∉ K.map (posO l)) : look (plc l g K n) a = none := by
  cases hl : look (plc l g K n) a with
  | none => rfl
  | some y =>
    obtain ⟨j, hj, h1, _⟩ := plc_keys (look_mem hl)
    refine absurd (List.mem_map.2 ⟨K[j]'(by omega), List.getElem_mem _, ?_⟩) h
    rw [h1]
    simp [List.getD, show j < K.length by omega]
theorem mv_leaf {P : List (Nat × Nat)} {p : Nat} (ht : tagOf (p : Int) ≠ 4) : mv P p = p := by
  unfold mv
  rw [if_neg]
  unfold tgtB
  rw [decide_eq_false ht, Bool.and_false]
  simp
theorem tgtB_at {p : Nat} (hok : okR (p : Int) = true) (ht : tagOf (p : Int) = 4) : tgtB p = true := by
  unfold tgtB
  rw [hok, ht]
  rfl
/-- a word whose object is kept, or copied -/
def SafeW (l : List Ob) (kf : Nat) (K : List Nat) (p : Nat) : Prop := wordOk l p ∧ (Hit ((posO l kf : Nat) : Int) p → atOf p ∈ K.map (posO l))
theorem gcL_len0 (l : List Ob) (kf : Nat) (lt : List Int) (K : List Nat) : (flatO (gcL l kf K lt)).length = (flatO (l.take kf)).length + (flatO (oK l K)).length := by
  unfold gcL
  rw [aimF_flat_len, flatO_append, List.length_append]
section
variable {l : List Ob} {kf : Nat} {lt : List Int} {K : List Nat} (G : GcOk l kf lt K)
include G
theorem gcL_fit : (flatO (gcL l kf K lt)).length ≤ (flatO l).length := by
  rw [gcL_len0]
  exact copies_fit G.nodup (fun k hk => ⟨(G.klt k hk).2, (G.klt k hk).1⟩)
theorem gcL_length : (gcL l kf K lt).length = kf + K.length := by
  unfold gcL
  rw [aimF_len, List.length_append, List.length_take]
  have := G.kfl
  simp [oK]
  omega
theorem posO_gc_old {k : Nat} (hk : k ≤ kf) : posO (gcL l kf K lt) k = posO l k := by
  unfold gcL
  rw [posO_aimF, posO_old hk G.kfl]
theorem posO_gc_new {j : Nat} (hj : j ≤ K.length) : posO (gcL l kf K lt) (kf + j) = (cpH l (flatO (l.take kf)) K j).length := by
  unfold gcL
  rw [posO_aimF]
  exact (cpH_pos rfl G.kfl hj).symm
/-- where an object goes -/
theorem gc_place {k : Nat} {o : Ob} (ho : l[k]? = some o) (hk : k < kf ∨ k ∈ K) : ∃ k' S, (gcL l kf K lt)[k']? = some (if S = true then mvO (gcP l kf K) o else o) ∧ (S = false → k < kf ∧ ((posO l k : Nat) : Int) ∉ lt) ∧ (k < kf → k' = k) ∧ ∀ j, K[j]? = some k → k' = kf + j := by
  by_cases hkf : k < kf
  · refine ⟨k, gcS l kf lt k, aimF_get (by rw [L0_get_old' hkf G.kfl]; exact ho), fun hS => ⟨hkf, fun hm => ?_⟩, fun _ => rfl, fun j hj => ?_⟩
    · unfold gcS at hS
      rw [decide_eq_true hm, Bool.or_true] at hS
      cases hS
    · have := (G.klt k (List.mem_of_getElem? hj)).2
      omega
  · rcases hk with hk | hk
    · omega
    obtain ⟨j, hj⟩ := List.mem_iff_getElem?.1 hk
    refine ⟨kf + j, gcS l kf lt (kf + j), aimF_get (L0_get_copy G.kfl hj ho), fun hS => ?_, fun h => absurd h hkf, fun j2 hj2 => ?_⟩
    · unfold gcS at hS
      rw [decide_eq_true (by omega), Bool.true_or] at hS
      cases hS
    · have h1 := (List.getElem?_eq_some_iff.1 hj).1
      have h2 := (List.getElem?_eq_some_iff.1 hj2).1
      have : j = j2 := (List.getElem?_inj h1 G.nodup).1 (by rw [hj, hj2])
      omega
theorem gc_moved {p : Nat} (hs : SafeW l kf K p) : (tagOf (p : Int) = 4 → ∃ k o, l[k]? = some o ∧ posO l k = atOf p ∧ (k < kf ∨ k ∈ K) ∧ tagOf (mv (gcP l kf K) p : Nat) = 4 ∧ ∀ k', (k < kf → k' = k) → (∀ j, K[j]? = some k → k' = kf + j) → atOf (mv (gcP l kf K) p) = posO (gcL l kf K lt) k') ∧ okR (mv (gcP l kf K) p : Nat) = true := by
  by_cases ht : tagOf (p : Int) = 4
  · have htg := tgtB_at hs.1.1 ht
    obtain ⟨k, o, hk, hp⟩ := hs.1.2 ht
    have hkl := (List.getElem?_eq_some_iff.1 hk).1
    have hK : ∀ k ∈ K, k < l.length := fun k hk => (G.klt k hk).1
    by_cases hm : k ∈ K
    · obtain ⟨j, hj⟩ := List.mem_iff_getElem?.1 hm
      have hjl := (List.getElem?_eq_some_iff.1 hj).1
      have hgd : K.getD j 0 = k := by simp [List.getD, hj]
      have hlook : look (gcP l kf K) (atOf p) = some (cpH l (flatO (l.take kf)) K j).length := by
        have := look_plc (g := flatO (l.take kf)) G.nodup hK hjl (Nat.le_refl _)
        rw [hgd, hp] at this
        exact this
      have hmv : mv (gcP l kf K) p = cw (cpH l (flatO (l.take kf)) K j).length := by unfold mv; rw [if_pos htg, hlook]
      have hpos := posO_gc_new G (j := j) (by omega)
      have hlt : (cpH l (flatO (l.take kf)) K j).length < 4000 := by
        have h1 := posO_lt (l := gcL l kf K lt) (j := kf + j) (kf + K.length) (by omega) (by rw [gcL_length G]; exact Nat.le_refl _)
        have h2 := posO_le (gcL l kf K lt) (kf + K.length)
        have h3 := gcL_fit G
        have h4 := G.len
        omega
      obtain ⟨c1, c2, c3, c4⟩ := cw_at hlt
      rw [hmv]
      refine ⟨fun _ => ⟨k, o, hk, hp, .inr hm, c2, fun k' _ h2 => ?_⟩, c1⟩
      rw [c3, h2 j hj, hpos]
    · have hnm : atOf p ∉ K.map (posO l) := by
        intro h
        obtain ⟨k2, h1, h2⟩ := List.mem_map.1 h
        have := posO_inj (hK k2 h1) hkl (by omega)
        subst this
        exact hm h1
      have hmv : mv (gcP l kf K) p = p := by
        unfold mv
        have hlk : look (gcP l kf K) (atOf p) = none := look_plc_none (Nat.le_refl _) hnm
        rw [if_pos htg, hlk]
      have hkk : k < kf := by
        rcases Nat.lt_or_ge k kf with h1 | h1
        · exact h1
        · exact absurd (hs.2 ⟨ht, by have := posO_mono h1 (by omega : k ≤ l.length); omega⟩) hnm
      rw [hmv]
      exact ⟨fun _ => ⟨k, o, hk, hp, .inl hkk, ht, fun k' h1 _ => by rw [h1 hkk, posO_gc_old G (by omega), hp]⟩, hs.1.1⟩
  · rw [mv_leaf ht]
    exact ⟨fun h => absurd h ht, hs.1.1⟩
theorem gc_word {p : Nat} (hs : SafeW l kf K p) : wordOk (gcL l kf K lt) (mv (gcP l kf K) p) := by
  obtain ⟨h1, h2⟩ := gc_moved G hs
  refine ⟨h2, fun ht => ?_⟩
  by_cases hp : tagOf (p : Int) = 4
  · obtain ⟨k, o, hk, hpos, hkk, _, h3⟩ := h1 hp
    obtain ⟨k', S, hk', _, e1, e2⟩ := gc_place G hk hkk
    exact ⟨k', _, hk', (h3 k' e1 e2).symm⟩
  · rw [mv_leaf hp] at ht
    exact absurd ht hp
/-- the parts of an object that is kept, or copied -/
theorem gc_safe {k : Nat} {o : Ob} (ho : l[k]? = some o) (hk : k < kf ∨ k ∈ K) : ∀ p ∈ o.parts, SafeW l kf K p := by
  intro p hp
  refine ⟨G.word k o ho p hp, fun hh => ?_⟩
  by_cases hm : k < kf → ((posO l k : Nat) : Int) ∈ lt
  · exact G.closed k hk o ho hm p hp hh
  · have h1 : k < kf := by
      rcases Nat.lt_or_ge k kf with h1 | h1
      · exact h1
      · exact absurd (fun h => by omega) hm
    exact absurd hh (G.calm k o ho h1 (fun h => hm (fun _ => h)) p hp)
theorem mv_calm {p : Nat} (hs : SafeW l kf K p) (hh : ¬ Hit ((posO l kf : Nat) : Int) p) : mv (gcP l kf K) p = p := by
  by_cases ht : tagOf (p : Int) = 4
  · have htg := tgtB_at hs.1.1 ht
    have hnm : atOf p ∉ K.map (posO l) := by
      intro h
      obtain ⟨k2, h1, h2⟩ := List.mem_map.1 h
      refine hh ⟨ht, ?_⟩
      have := posO_mono (G.klt k2 h1).2 (Nat.le_of_lt (G.klt k2 h1).1)
      omega
    have hlk : look (gcP l kf K) (atOf p) = none := look_plc_none (Nat.le_refl _) hnm
    unfold mv
    rw [if_pos htg, hlk]
  · exact mv_leaf ht
/-- an object behind a collection is the moved one -/
theorem gc_ob {k : Nat} {o : Ob} (ho : l[k]? = some o) (hk : k < kf ∨ k ∈ K) : ∃ k', (gcL l kf K lt)[k']? = some (mvO (gcP l kf K) o) ∧ (k < kf → k' = k) ∧ ∀ j, K[j]? = some k → k' = kf + j := by
  obtain ⟨k', S, hk', hS, e1, e2⟩ := gc_place G ho hk
  refine ⟨k', ?_, e1, e2⟩
  rw [hk']
  cases S with
  | true => rfl
  | false =>
    obtain ⟨h1, h2⟩ := hS rfl
    congr 1
    show o = mvO (gcP l kf K) o
    unfold mvO withParts
    have : o.parts.map (mv (gcP l kf K)) = o.parts := by
      conv => rhs; rw [← List.map_id o.parts]
      exact List.map_congr_left (fun p hp => mv_calm G (gc_safe G ho hk p hp) (G.calm k o ho h1 h2 p hp))
    rw [this]
theorem gc_back {i : Nat} {q : Ob} (hq : (gcL l kf K lt)[i]? = some q) : ∃ k o, l[k]? = some o ∧ (k < kf ∨ k ∈ K) ∧ q = mvO (gcP l kf K) o := by
  have hi := (List.getElem?_eq_some_iff.1 hq).1
  rw [gcL_length G] at hi
  by_cases hik : i < kf
  · have hil : i < l.length := by have := G.kfl; omega
    obtain ⟨k', h1, h2, _⟩ := gc_ob G (List.getElem?_eq_getElem hil) (.inl hik)
    rw [h2 hik, hq] at h1
    injection h1 with h1
    exact ⟨i, _, List.getElem?_eq_getElem hil, .inl hik, h1⟩
  · have hj : K[i - kf]? = some K[i - kf] := List.getElem?_eq_getElem (by omega)
    have hm := List.mem_of_getElem? hj
    have hil := (G.klt _ hm).1
    obtain ⟨k', h1, _, h3⟩ := gc_ob G (List.getElem?_eq_getElem hil) (.inr hm)
    rw [h3 _ hj, show kf + (i - kf) = i by omega, hq] at h1
    injection h1 with h1
    exact ⟨_, _, List.getElem?_eq_getElem hil, .inr hm, h1⟩
theorem gcP_lt : ∀ a n, (a, n) ∈ gcP l kf K → n < 4000 := by
  intro a n h
  obtain ⟨j, hj, _, h2⟩ := plc_keys h
  rw [h2, ← posO_gc_new G (lt := lt) (by omega)]
  have h1 := posO_lt (l := gcL l kf K lt) (j := kf + j) (kf + K.length) (by omega) (by rw [gcL_length G]; exact Nat.le_refl _)
  have h2 := posO_le (gcL l kf K lt) (kf + K.length)
  have h3 := gcL_fit G
  have h4 := G.len
  omega
/-- ages stay right when they are collected -/
theorem gc_ok : OkA (flatO (gcL l kf K lt)) (((flatO (gcL l kf K lt)).length : Nat) : Int) [] (gcL l kf K lt) := by
  refine ⟨Nat.le_trans (gcL_fit G) G.len, ⟨rfl, fun q hq => ?_⟩, .inl rfl, (fun i x h => by cases h), fun i q hq p hp => ?_⟩
  · obtain ⟨i, hi⟩ := List.mem_iff_getElem?.1 hq
    obtain ⟨k, o, ho, hk, rfl⟩ := gc_back G hi
    exact mvO_good (gcP_lt G) (G.good o (List.mem_of_getElem? ho))
  · obtain ⟨k, o, ho, hk, rfl⟩ := gc_back G hq
    obtain ⟨p0, hp0, rfl⟩ := List.mem_map.1 (show p ∈ o.parts.map (mv (gcP l kf K)) from hp)
    have hw := gc_word G (gc_safe G ho hk p0 hp0)
    refine ⟨hw, fun ht hle _ => ?_⟩
    have := beg_lt (h := flatO (gcL l kf K lt)) ⟨rfl, fun q hq => by
      obtain ⟨i, hi⟩ := List.mem_iff_getElem?.1 hq
      obtain ⟨k, o, ho, hk, rfl⟩ := gc_back G hi
      exact mvO_good (gcP_lt G) (G.good o (List.mem_of_getElem? ho))⟩ (hw.2 ht)
    omega
/-- what is read behind a collection is what was read ahead of it -/
theorem gc_reads : ∀ (d p : Nat) (left : Int), SafeW l kf K p → ldv (flatO (gcL l kf K lt)) d (mv (gcP l kf K) p) left = ldv (flatO l) d p left := by
  have hob := (gc_ok G).obs
  intro d
  induction d with
  | zero => intro p left _; rfl
  | succ d ih =>
    intro p left hs
    by_cases ht : tagOf (p : Int) = 4
    · obtain ⟨h1, hok⟩ := gc_moved G hs
      obtain ⟨k, o, hk, hp, hkk, ht2, h3⟩ := h1 ht
      obtain ⟨k', hk', e1, e2⟩ := gc_ob G hk hkk
      have hat := h3 k' e1 e2
      obtain ⟨hR, hO⟩ := obs_at hob hk'
      obtain ⟨hR0, hO0⟩ := obs_at (f := flatO l) ⟨rfl, G.good⟩ hk
      rw [hp] at hR0 hO0
      by_cases h0 : left - 1 < 0
      · rw [ldv, ldv, if_pos h0, if_pos h0]
      · rw [ldv_node hok ht2 hat hR h0, ldv_node hs.1.1 ht rfl hR0 h0, hO, hO0]
        have hpl : (mvO (gcP l kf K) o).parts.length = o.parts.length := by simp [mvO, withParts]
        have e : ldArgs (ldv (flatO (gcL l kf K lt)) d) (mvO (gcP l kf K) o).parts (left - 1) (mvO (gcP l kf K) o).parts.length = ldArgs (ldv (flatO l) d) o.parts (left - 1) o.parts.length := by
          rw [hpl]
          refine ldArgs_congr _ (fun i hi z => ?_)
          have hm : nth o.parts i ∈ o.parts := by rw [nth_get hi]; exact List.getElem_mem hi
          have hnm : nth (mvO (gcP l kf K) o).parts i = mv (gcP l kf K) (nth o.parts i) := by
            rw [nth_get hi, nth_get (l := (mvO (gcP l kf K) o).parts) (by omega)]
            simp [mvO, withParts]
          rw [hnm]
          exact ih _ z (gc_safe G hk hkk _ hm)
        rw [e]
        rfl
    · rw [mv_leaf ht, ldv, ldv, leafB_not hs.1.1 ht]
      simp
end
end Go.Proofs.Ytkdbnkkdohkhjaa
namespace Go.Proofs.Ytkdbnkkdohkhjaa
open Go.RowKit
set_option linter.unusedVariables false
theorem major_gc {h : List Nat} {old : Int} {late : List Int} {l : List Ob} {roots K : List Nat} (H : OkA h old late l) (hr : ∀ p ∈ roots, wordOk l p) (R : RK l 0 roots K []) : GcOk l 0 [] K ∧ ∀ p ∈ roots, SafeW l 0 K p := by
  refine ⟨GcOk.of H (Nat.zero_le _) [] roots K R (fun k o _ hk => by omega) (fun k o _ hk => by omega), fun p hp => ⟨hr p hp, fun hh => ?_⟩⟩
  rcases R.start p hp hh with h1 | h1
  · exact h1
  · cases h1
theorem minor_gc {h : List Nat} {old : Int} {late : List Int} {l : List Ob} {roots K : List Nat} {kf : Nat} (H : OkA h old late l) (hk : kf ≤ l.length) (ho : old = ((posO l kf : Nat) : Int)) (hr : ∀ p ∈ roots, wordOk l p) (R : RK l ((posO l kf : Nat) : Int) (roots ++ ltW h late late.length) K []) : GcOk l kf late K ∧ ∀ p ∈ roots, SafeW l kf K p := by
  refine ⟨GcOk.of H hk late _ K R (fun k o hko hkk hm p hp hh => ?_) (fun k o hko hkk hm p hp => ?_), fun p hp => ⟨hr p hp, fun hh => ?_⟩⟩
  · refine hm ((H.parts k o hko p hp).2 hh.1 (by rw [ho]; exact hh.2) ?_)
    rw [ho]
    have := posO_lt (l := l) kf hkk hk
    omega
  · obtain ⟨i, hi⟩ := List.mem_iff_getElem?.1 hm
    obtain ⟨k2, o2, hk2, hx, hp2⟩ := late_at H hi
    have hkl := (List.getElem?_eq_some_iff.1 hko).1
    have hkl2 := (List.getElem?_eq_some_iff.1 hk2).1
    have : k = k2 := posO_inj hkl hkl2 (by omega)
    subst this
    rw [hko] at hk2
    injection hk2 with hk2
    subst hk2
    refine List.mem_append_right _ ?_
    unfold ltW
    rw [List.take_length]
    exact List.mem_flatMap.2 ⟨_, hm, by rw [hp2]; exact hp⟩
  · rcases R.start p (List.mem_append_left _ hp) hh with h1 | h1
    · exact h1
    · cases h1
theorem gc_roots {l : List Ob} {kf : Nat} {lt : List Int} {K roots : List Nat} (G : GcOk l kf lt K) (hs : ∀ p ∈ roots, SafeW l kf K p) : ∀ q ∈ roots.map (mv (gcP l kf K)), wordOk (gcL l kf K lt) q := by
  intro q hq
  obtain ⟨p, hp, rfl⟩ := List.mem_map.1 hq
  exact gc_word G (hs p hp)
theorem oK_all (L : List Ob) : oK L (List.range L.length) = L := by
  apply List.ext_getElem?
  intro i
  unfold oK
  by_cases hi : i < L.length
  · simp [hi, List.getD]
  · rw [List.getElem?_eq_none (by simp; omega), List.getElem?_eq_none (by omega)]
theorem flatO_sum (L : List Ob) : (flatO L).length = (L.map fun o => (wordsO o).length).sum := by
  induction L with
  | nil => rfl
  | cons o L ih => rw [flatO_cons, List.length_append, ih]; simp
/-- what was collected is collected again into as many words -/
theorem twice_len {l : List Ob} {K K2 roots : List Nat} (G : GcOk l 0 [] K) (R : RK l 0 roots K []) (hs : ∀ p ∈ roots, SafeW l 0 K p) (R2 : RK (gcL l 0 K []) 0 (roots.map (mv (gcP l 0 K))) K2 []) :
    (flatO (gcL (gcL l 0 K []) 0 K2 [])).length = (flatO (gcL l 0 K [])).length := by
  obtain ⟨G2, _⟩ := major_gc (gc_ok G) (gc_roots G hs) R2
  have hL := gcL_length G
  have hone : ∀ {i j k : Nat}, K[i]? = some k → K[j]? = some k → i = j := fun {i j k} h1 h2 => (List.getElem?_inj (List.getElem?_eq_some_iff.1 h1).1 G.nodup).1 (by rw [h1, h2])
  have key : ∀ p, SafeW l 0 K p → Hit 0 p → (Hit 0 (mv (gcP l 0 K) p) → atOf (mv (gcP l 0 K) p) ∈ K2.map (posO (gcL l 0 K []))) → ∃ k j, K[j]? = some k ∧ posO l k = atOf p ∧ j ∈ K2 := by
    intro p hp hh hm
    obtain ⟨h1, _⟩ := gc_moved G hp
    obtain ⟨k, o, hk, hpos, hkk, ht, h3⟩ := h1 hh.1
    rcases hkk with hkk | hkk
    · omega
    obtain ⟨j, hj⟩ := List.mem_iff_getElem?.1 hkk
    have hat := h3 (0 + j) (fun h => by omega) (fun j2 hj2 => by rw [hone hj hj2])
    obtain ⟨i, hi, hpi⟩ := List.mem_map.1 (hm ⟨ht, by omega⟩)
    have hjl := (List.getElem?_eq_some_iff.1 hj).1
    have : i = 0 + j := posO_inj (R2.lt i hi).1 (by omega) (by rw [hpi, hat])
    exact ⟨k, j, hj, hpos, by rw [show j = i by omega]; exact hi⟩
  have hall : ∀ j, j < K.length → j ∈ K2 := by
    intro j hj
    have hjk : K[j]? = some K[j] := List.getElem?_eq_getElem hj
    obtain ⟨hD, _⟩ := R.least (fun a => ∃ k j, K[j]? = some k ∧ posO l k = a ∧ j ∈ K2) (fun p hp hh => key p (hs p hp) hh (fun h2 => by
        rcases R2.start _ (List.mem_map_of_mem hp) h2 with h3 | h3
        · exact h3
        · cases h3)) (fun k o hk hDk p hp hh => by
        obtain ⟨k1, j1, hj1, hp1, hj2⟩ := hDk
        have hkl := (List.getElem?_eq_some_iff.1 hk).1
        have : k1 = k := posO_inj (R.lt k1 (List.mem_of_getElem? hj1)).1 hkl hp1
        subst this
        have hkK := List.mem_of_getElem? hj1
        obtain ⟨k', hk', _, e2⟩ := gc_ob G hk (.inr hkK)
        refine key p (gc_safe G hk (.inr hkK) p hp) hh (fun h2 => ?_)
        rcases R2.closed k' (by rw [e2 _ hj1, Nat.zero_add]; exact hj2) _ hk' _ (List.mem_map_of_mem hp) h2 with h3 | h3
        · exact h3
        · cases h3)
    obtain ⟨k1, j1, hj1, hp1, hj2⟩ := hD K[j] (List.getElem_mem _)
    have : k1 = K[j] := posO_inj (R.lt k1 (List.mem_of_getElem? hj1)).1 (R.lt _ (List.getElem_mem _)).1 hp1
    subst this
    rw [hone hjk hj1]
    exact hj2
  have hperm : K2.Perm (List.range (gcL l 0 K []).length) := by
    refine (List.perm_ext_iff_of_nodup R2.nodup List.nodup_range).2 (fun i => ⟨fun h => List.mem_range.2 (R2.lt i h).1, fun h => hall i ?_⟩)
    have := List.mem_range.1 h
    omega
  rw [gcL_len0]
  have h0 : (flatO ((gcL l 0 K []).take 0)).length = 0 := rfl
  rw [h0, Nat.zero_add, flatO_sum, flatO_sum]
  have h1 : ((oK (gcL l 0 K []) K2).map fun o => (wordsO o).length).Perm ((oK (gcL l 0 K []) (List.range (gcL l 0 K []).length)).map fun o => (wordsO o).length) := by
    unfold oK
    exact (hperm.map _).map _
  rw [h1.sum_nat, oK_all]
/-- a minor collection of all that are old changes nothing -/
theorem minor_old {h : List Nat} {l : List Ob} {K ws : List Nat} {kf : Nat} (H : ObsOf h l) (hk : kf ≤ l.length) (ho : ((h.length : Nat) : Int) = ((posO l kf : Nat) : Int)) (R : RK l ((posO l kf : Nat) : Int) ws K []) : flatO (gcL l kf K []) = h ∧ ∀ p, mv (gcP l kf K) p = p := by
  have hend := posO_end l
  rw [← H.1] at hend
  have hkf : kf = l.length := by
    rcases Nat.lt_or_ge kf l.length with h1 | h1
    · have := posO_lt (l := l) l.length h1 (Nat.le_refl _); omega
    · omega
  have hK : K = [] := List.eq_nil_iff_forall_not_mem.2 (fun k hm => by
    obtain ⟨h1, h2⟩ := R.lt k hm
    have := posO_lt (l := l) l.length h1 (Nat.le_refl _)
    omega)
  subst hK hkf
  constructor
  · unfold gcL
    rw [aimF_none]
    · rw [List.take_length]
      show flatO (l ++ []) = h
      rw [List.append_nil]
      exact H.1.symm
    · intro i hi
      unfold gcS
      have : i < l.length := by simpa [oK] using hi
      rw [decide_eq_false (by omega)]
      simp
  · intro p
    unfold mv
    show (if tgtB p = true then p else p) = p
    split <;> rfl
/-- without roots nothing is kept -/
theorem major_none {l : List Ob} {K : List Nat} (R : RK l 0 [] K []) : flatO (gcL l 0 K []) = [] := by
  have hK : K = [] := List.eq_nil_iff_forall_not_mem.2 (fun k hm => (R.least (fun _ => False) (fun p hp => by cases hp) (fun k o _ h => h.elim)).1 k hm)
  subst hK
  rfl
end Go.Proofs.Ytkdbnkkdohkhjaa
namespace Go.Proofs.Ytkdbnkkdohkhjaa
open Go.RowKit
set_option linter.unusedVariables false
def AddYes (h : List Nat) (old : Int) (late : List Int) (t : VT) (w : World) (e : Ending) (w' : World) : Prop := ∃ l g x A c B d, OkA h old late l ∧ t.bld h = some (g, x) ∧ e = .returned (.tuple #[.agg #[.slice A g.length c, .int .i64 old, .slice B late.length d], .int .u64 ((x : Nat) : Int), .int .i64 0]) ∧
  OwnU w' w.heap.size (.slice A g.length c) g ∧ OwnI w' w.heap.size (.slice B late.length d) late ∧ Below w.heap.size w w'
def AddNo (h : List Nat) (old : Int) (late : List Int) (t : VT) (w : World) (e : Ending) (w' : World) : Prop := (¬ ((∃ l, OkA h old late l) ∧ ∃ r, t.bld h = some r)) ∧ ∃ x : Int, x ≠ 0 ∧ e = .returned (.tuple #[.agg #[.slice none 0 0, .int .i64 0, .slice none 0 0], .int .u64 0, .int .i64 x]) ∧ Below w.heap.size w w'
theorem add_results {tmps : Array Value} {wz : World} {H : Nat} {u0 u1 u2 v5 v6 : Value} (t4 : tmps.getD 4 undef = .pointer (some ⟨H, 0, none⟩)) (t5 : tmps.getD 5 undef = v5) (t6 : tmps.getD 6 undef = v6)
    (z0 : wz.cell? ⟨H, 0, none⟩ = some u0) (z1 : wz.cell? ⟨H, 1, none⟩ = some u1) (z2 : wz.cell? ⟨H, 2, none⟩ = some u2) :
    (results Try.f40 tmps).run Try.prog wz = .ok (.tuple #[.agg #[u0, u1, u2], v5, v6]) wz := by
  simp only [Array.getD_eq_getD_getElem?] at t4 t5 t6
  simp [results, Try.results40, go_sem, t4, t5, t6, z0, z1, z2]
set_option maxHeartbeats 8000000 in
set_option maxRecDepth 100000 in
theorem add_any (h : List Nat) (hA lA vA : Option Addr) (hc lc n c : Nat) (old : Int) (late : List Int) (t : VT) (k m : Int) (s : ByteArray) (S : Nat → Prop) (w : World) (hH : Su w (.slice hA h.length hc) h) (h64 : All64 h) (hlen : h.length ≤ 4194304) (hL : Rd w 1 (tmC (lst late)) lA late.length) (hLn : lA = none → late.length = 0) (hll : late.length ≤ 17592186044416) (hwl : ∀ x ∈ late, Wf x) (hwo : Wf old) (hV : t.isV w S [.int .i64 k, .int .i64 m, .string s, .slice vA n c]) (hm : t.many ≤ 100000) :
    Calls Try.prog 40 #[.agg #[.slice hA h.length hc, .int .i64 old, .slice lA late.length lc], .agg #[.int .i64 k, .int .i64 m, .string s, .slice vA n c]] w fun e w' => AddYes h old late t w e w' ∨ AddNo h old late t w e w' := by
  have HH := Lib.hid hH
  have H64 := Lib.hid h64
  have HL := Lib.hid hL
  have HLN := Lib.hid hLn
  have HWL := Lib.hid hwl
  have HWO := Lib.hid hwo
  have HV := Lib.hid hV
  clear hH h64 hL hLn hwl hwo hV
  obtain ⟨W1, hW1⟩ : ∃ W1, W1 = ((w.alloc (.cells #[.slice hA h.length hc, .int .i64 old, .slice lA late.length lc] 26)).alloc (.cells #[.int .i64 k, .int .i64 m, .string s, .slice vA n c] 90)).alloc (.cells #[.slice none 0 0, .int .i64 0, .slice none 0 0] 26) := ⟨_, rfl⟩
  have HB1 := Lib.hid (show Below w.heap.size w W1 by rw [hW1]; exact (((Below.refl _ _).alloc (Nat.le_refl _) _).alloc (by simp) _).alloc (by simp; omega) _)
  have HZ1 := Lib.hid (show W1.heap.size = w.heap.size + 3 by rw [hW1]; simp)
  have HAG := Lib.hid (show AgB W1 w.heap.size hA h.length hc old lA late.length lc from by
    rw [hW1]
    exact ((AgB.new w hA h.length hc old lA late.length lc 26).below ((Below.refl _ _).alloc (Nat.le_refl _) _)).below ((Below.refl _ _).alloc (Nat.le_refl _) _))
  have HVB := Lib.hid (show W1.cell? ⟨w.heap.size + 1, 0, none⟩ = some (.int .i64 k) ∧ W1.cell? ⟨w.heap.size + 1, 1, none⟩ = some (.int .i64 m) ∧ W1.cell? ⟨w.heap.size + 1, 2, none⟩ = some (.string s) ∧ W1.cell? ⟨w.heap.size + 1, 3, none⟩ = some (.slice vA n c) from by
    rw [hW1]
    refine ⟨?_, ?_, ?_, ?_⟩ <;> simp [go_sem])
  have HBOX := Lib.hid (show AgB W1 (w.heap.size + 2) none 0 0 0 none 0 0 ∧ ∀ o, W1.frozen? ⟨w.heap.size + 2, o, none⟩ = false from by
    rw [hW1]
    have h1 := AgB.new ((w.alloc (.cells #[.slice hA h.length hc, .int .i64 old, .slice lA late.length lc] 26)).alloc (.cells #[.int .i64 k, .int .i64 m, .string s, .slice vA n c] 90)) none 0 0 0 none 0 0 26
    have h2 : ((w.alloc (.cells #[.slice hA h.length hc, .int .i64 old, .slice lA late.length lc] 26)).alloc (.cells #[.int .i64 k, .int .i64 m, .string s, .slice vA n c] 90)).heap.size = w.heap.size + 2 := by simp
    rw [h2] at h1
    exact ⟨h1, fun o => by simp [go_sem]⟩)
  obtain ⟨a0, a1, a2, a3⟩ := HAG.out
  go_enter Try.func40, Try.ntmps40
  go_wp2_with fail
  rw [← hW1]
  clear hW1
  refine (check_any h hA lA hc lc old late W1 (HH.out.below HB1.out) H64.out (by omega) (HL.out.below HB1.out) hll HWL.out HWO.out).mono ?_
  rintro e w2 ⟨x, rfl, hxi, hb⟩
  have HXI := Lib.hid hxi
  have HB2 := Lib.hid hb
  have HB02 := Lib.hid (HB1.out.trans (hb.mono HB1.out.size))
  have HBX2 := Lib.hid (HBOX.out.1.below hb)
  have HFZ := Lib.hid (show ∀ o, w2.frozen? ⟨w.heap.size + 2, o, none⟩ = false from fun o => (grown_frozen (grown_below (g := none) hb) (by have := HZ1.out; omega) (by simp)).trans (HBOX.out.2 o))
  have HZ2 := Lib.hid (show w.heap.size + 3 ≤ w2.heap.size by have h1 := HZ1.out; have h2 := hb.size; omega)
  have HAG2 := Lib.hid (HAG.out.below hb)
  have HVB2 := Lib.hid (show w2.cell? ⟨w.heap.size + 1, 0, none⟩ = some (.int .i64 k) ∧ w2.cell? ⟨w.heap.size + 1, 1, none⟩ = some (.int .i64 m) ∧ w2.cell? ⟨w.heap.size + 1, 2, none⟩ = some (.string s) ∧ w2.cell? ⟨w.heap.size + 1, 3, none⟩ = some (.slice vA n c) from by
    obtain ⟨q0, q1, q2, q3⟩ := HVB.out
    have hlt : w.heap.size + 1 < W1.heap.size := by have := HZ1.out; omega
    exact ⟨(hb.cell (p := ⟨w.heap.size + 1, 0, none⟩) hlt).trans q0, (hb.cell (p := ⟨w.heap.size + 1, 1, none⟩) hlt).trans q1, (hb.cell (p := ⟨w.heap.size + 1, 2, none⟩) hlt).trans q2, (hb.cell (p := ⟨w.heap.size + 1, 3, none⟩) hlt).trans q3⟩)
  clear hxi hb a0 a1 a2 a3
  by_cases hx0 : x = 0
  · subst hx0
    obtain ⟨l, hok⟩ := HXI.out.1 rfl
    have HOK := Lib.hid hok
    clear hok
    obtain ⟨a0, a1, a2, a3⟩ := HAG2.out
    obtain ⟨q0, q1, q2, q3⟩ := HVB2.out
    go_wp2_with fail
    refine (Build_any t k m s vA n c S h hA hc w2 (isV_below HV.out HB02.out) hm (HH.out.below HB02.out) hlen).mono ?_
    rintro e w3 (⟨g, y, A3, c3, hr, rfl, ho3, hb3⟩ | ⟨hr, y, hy, rfl, hb3⟩)
    · have HR := Lib.hid hr
      have HO3 := Lib.hid ho3
      have HB3 := Lib.hid hb3
      have HB03 := Lib.hid (HB02.out.trans (hb3.mono HB02.out.size))
      have HAG3 := Lib.hid (HAG2.out.below hb3)
      obtain ⟨a0, a1, a2, a3⟩ := HAG3.out
      have hz3 := hb3.size
      clear hr ho3 hb3 q0 q1 q2 q3
      go_wp2_with fail
      refine (dup_any h hA lA hc lc old late w3 (HH.out.below HB03.out) (by omega) (HL.out.below HB03.out) HLN.out hll).mono ?_
      rintro e w4 ⟨A4, c4, B4, d4, rfl, ho4, hi4, hb4, hne4⟩
      have HI4 := Lib.hid hi4
      have HB4 := Lib.hid hb4
      have hz4 := hb4.size
      have HB04 := Lib.hid (HB03.out.trans (hb4.mono HB03.out.size))
      have HO4 := Lib.hid (HO3.out.below hb4)
      have HB24 := Lib.hid (HB3.out.trans (hb4.mono HB3.out.size))
      obtain ⟨y0, y1, y2, y3⟩ := HBX2.out.below HB24.out
      have yf := fun o => (grown_frozen (o := o) (grown_below (g := none) HB24.out) HBX2.out.lt (by simp)).trans (HFZ.out o)
      have yf0 := yf 0
      have yf1 := yf 1
      have yf2 := yf 2
      have hz2 := HZ2.out
      clear ho4 hi4 hb4 hne4 yf a0 a1 a2 a3
      go_wp2_with fail
      obtain ⟨z0, z1, z2, zg⟩ := put3_cells y0 y1 y2 (.slice A3 g.length c3) (.int .i64 old) (.slice B4 late.length d4)
      have hzz : w.heap.size + 2 < (put3 w4 (w.heap.size + 2) (.slice A3 g.length c3) (.int .i64 old) (.slice B4 late.length d4)).heap.size := Nat.lt_of_lt_of_le y3 zg.size
      refine bodyPost_ret (add_results (H := w.heap.size + 2) (v5 := .int .u64 ((y : Nat) : Int)) (v6 := .int .i64 0) rfl rfl rfl ((keepA _ _ hzz 0).trans z0) ((keepA _ _ hzz 1).trans z1) ((keepA _ _ hzz 2).trans z2)) rfl (.inl ⟨l, g, y, A3, c3, B4, d4, HOK.out, HR.out, rfl, ?_, ?_, ?_⟩)
      · exact ((HO4.out.grown zg (fun k hk e => by injection e with e; have h1 := (HO4.out.blk k hk).1; omega)).alloc _).mono (by omega)
      · exact ((HI4.out.grown zg (fun k hk e => by injection e with e; have h1 := (HI4.out.blk k hk).1; omega)).alloc _).mono (by omega)
      · exact (below_grown HB04.out HB04.out.size zg (fun g hg => by injection hg with hg; omega)).alloc (Nat.le_trans HB04.out.size zg.size) _
    · have HR := Lib.hid hr
      have HB03 := Lib.hid (HB02.out.trans (hb3.mono HB02.out.size))
      obtain ⟨b0, b1, b2, b3⟩ := HBX2.out.below hb3
      have yf := fun o => (grown_frozen (o := o) (grown_below (g := none) hb3) HBX2.out.lt (by simp)).trans (HFZ.out o)
      have f0 := yf 0
      have f1 := yf 1
      have f2 := yf 2
      have x0 : (y != 0) = true := by simpa using hy
      have HPT3 := Lib.hid (fun u0 u1 u2 => put3_cells b0 b1 b2 u0 u1 u2)
      clear hr hb3 yf a0 a1 a2 a3 q0 q1 q2 q3
      go_wp2_with fail
      obtain ⟨z0, z1, z2, zg⟩ := HPT3.out (.slice none 0 0) (.int .i64 0) (.slice none 0 0)
      refine bodyPost_ret (add_results (H := w.heap.size + 2) (v5 := .int .u64 0) (v6 := .int .i64 y) rfl rfl rfl z0 z1 z2) rfl (.inr ⟨fun ⟨_, r, hr⟩ => (by rw [HR.out] at hr; cases hr), y, hy, rfl, below_grown HB03.out HB03.out.size zg (fun g hg => by injection hg with hg; omega)⟩)
  · obtain ⟨b0, b1, b2, b3⟩ := HBX2.out
    have f0 := HFZ.out 0
    have f1 := HFZ.out 1
    have f2 := HFZ.out 2
    have x0 : (x != 0) = true := by simpa using hx0
    have HPT3 := Lib.hid (fun u0 u1 u2 => put3_cells b0 b1 b2 u0 u1 u2)
    go_wp2_with fail
    obtain ⟨z0, z1, z2, zg⟩ := HPT3.out (.slice none 0 0) (.int .i64 0) (.slice none 0 0)
    refine bodyPost_ret (add_results (H := w.heap.size + 2) (v5 := .int .u64 0) (v6 := .int .i64 x) rfl rfl rfl z0 z1 z2) rfl (.inr ⟨fun ⟨hl, _⟩ => hx0 (HXI.out.2 hl), x, hx0, rfl, below_grown HB02.out HB02.out.size zg (fun g hg => by injection hg with hg; omega)⟩)
end Go.Proofs.Ytkdbnkkdohkhjaa
namespace Go.Proofs.Ytkdbnkkdohkhjaa
open Go.RowKit
set_option linter.unusedVariables false
def leafA : VT := .node 4 0 ⟨#[97]⟩ 0 (fun _ => .none)
theorem leafA_bld : leafA.bld [] = some ([258, 97], 4) := by decide +kernel
theorem leafA_isV (w : World) (S : Nat → Prop) : leafA.isV w S [.int .i64 4, .int .i64 0, .string ⟨#[97]⟩, .slice none 0 0] := ⟨none, 0, rfl, Nat.le_refl _, by omega, fun _ => rfl, fun h => by omega⟩
set_option maxHeartbeats 1000000 in
theorem heaps_any (w : World) : Calls Try.prog 24 #[] w fun e w' => e = .returned (.bool true) ∧ Below w.heap.size w w' := by
  go_enter Try.func24, Try.ntmps24
  go_wp2_with fail
  refine (Build_any leafA 4 0 ⟨#[97]⟩ none 0 0 (fun _ => True) [] none 0 w (leafA_isV _ _) (by decide +kernel) (Su.nil _) (by simp)).mono ?_
  rintro e w1 (⟨g, x, A, c, hr, rfl, hO, hb⟩ | ⟨hr, _⟩)
  · rw [leafA_bld] at hr
    injection hr with hr
    injection hr with e1 e2
    subst e1 e2
    have hR := hO.rd
    obtain ⟨b, off, rfl, hlt, hc⟩ := hR (by simp)
    have c0 : w1.cell? ⟨b, off, none⟩ = some (.int .u64 258) := by simpa [nth] using hc 0 (by simp) 0 _ rfl
    have c1 : w1.cell? ⟨b, off + 1, none⟩ = some (.int .u64 97) := by simpa [nth] using hc 1 (by simp) 0 _ rfl
    have HB := Lib.hid hb
    clear hR hc hO hb
    go_wp2_with fail
    go_ret
    exact ⟨rfl, HB.out⟩
  · rw [leafA_bld] at hr; cases hr
end Go.Proofs.Ytkdbnkkdohkhjaa
namespace Go.Proofs.Ytkdbnkkdohkhjaa
open Go.RowKit
set_option linter.unusedVariables false
theorem OkA.nil : OkA [] 0 [] [] := ⟨by simp, ObsOf.nil, .inl rfl, (fun i x h => by simp at h), fun k o h => by simp at h⟩
def obA : Ob := ⟨2, 0, ⟨#[97]⟩, []⟩
theorem obsA : ObsOf [258, 97] [obA] := by
  refine ⟨by decide +kernel, fun o ho => ?_⟩
  obtain rfl : o = obA := by simpa using ho
  exact ⟨by decide +kernel, by decide +kernel, fun p hp => by simp [obA] at hp⟩
theorem gcA_len : (flatO (gcL [obA] 0 [0] [])).length = 2 := by decide +kernel
theorem gcA_mv : mv (gcP [obA] 0 [0]) 4 = 4 := by decide +kernel
/-- what is left of a text that is a root -/
theorem youths_plain {l : List Ob} {K : List Nat} (hl : ObsOf [258, 97] l) (R : RK l 0 [4] K []) : (flatO (gcL l 0 K [])).length = 2 ∧ mv (gcP l 0 K) 4 = 4 := by
  obtain rfl := obs_inj hl obsA
  have h4 : Hit 0 4 := by unfold Hit; decide +kernel
  have hz : ∀ k ∈ K, k = 0 := fun k hk => by have := (R.lt k hk).1; simp at this; exact this
  have hK : K = [0] := by
    cases K with
    | nil =>
      rcases R.start 4 (by simp) h4 with h | h
      · simp at h
      · cases h
    | cons a K =>
      obtain rfl := hz a (by simp)
      cases K with
      | nil => rfl
      | cons b K =>
        obtain rfl := hz b (by simp)
        have := R.nodup
        simp at this
  subst hK
  exact ⟨gcA_len, gcA_mv⟩
theorem rd_nil (w : World) (sz : Nat) (C : Nat → List Value) (A : Option Addr) : Rd w sz C A 0 := fun h => by omega
set_option maxHeartbeats 4000000 in
set_option maxRecDepth 100000 in
theorem youths_any (w : World) : Calls Try.prog 10 #[] w fun e w' => e = .returned (.bool true) ∧ Below w.heap.size w w' := by
  go_enter Try.func10, Try.ntmps10
  go_wp2_with fail
  refine (add_any [] none none none 0 0 0 0 0 [] leafA 4 0 ⟨#[97]⟩ (fun _ => True) w (Su.nil _) (fun x hx => by cases hx) (by simp) (rd_nil _ _ _ _) (fun _ => rfl) (by simp) (fun x hx => by cases hx) (Wf.of (by omega) (by omega)) (leafA_isV _ _) (by decide +kernel)).mono ?_
  rintro e w1 (⟨l, g, x, A, c, B, d, hok, hr, rfl, hO, hI, hb⟩ | ⟨hno, -⟩)
  rotate_left
  · exact (hno ⟨⟨[], OkA.nil⟩, _, leafA_bld⟩).elim
  obtain ⟨r, hokg, -, -⟩ := hok.add (t := leafA) ⟨by decide, fun i hi => by omega⟩ hr
  rw [leafA_bld] at hr
  injection hr with hr
  injection hr with e1 e2
  subst e1 e2
  have HOKG := Lib.hid hokg
  have HH := Lib.hid (Su.of_own hO)
  have HI := Lib.hid hI
  have HB1 := Lib.hid hb
  clear hok hokg hO hI hb
  go_wp2_with fail
  obtain ⟨W2, hW2⟩ : ∃ W2, W2 = (w1.alloc (.cells #[.slice A 2 c, .int .i64 0, .slice B 0 d] 26)).alloc (.cells #[.int .u64 4] 27) := ⟨_, rfl⟩
  have HB12 := Lib.hid (show Below w1.heap.size w1 W2 by rw [hW2]; exact ((Below.refl _ _).alloc (Nat.le_refl _) _).alloc (by simp) _)
  have HB2 := Lib.hid (HB1.out.trans (HB12.out.mono HB1.out.size))
  have HS2 := Lib.hid (show Su W2 (.slice (some ⟨w1.heap.size + 1, 0, none⟩) [4].length 1) [4] from by
    rw [hW2]
    have h1 := Su.one (w1.alloc (.cells #[.slice A 2 c, .int .i64 0, .slice B 0 d] 26)) 4
    have h2 : (w1.alloc (.cells #[.slice A 2 c, .int .i64 0, .slice B 0 d] 26)).heap.size = w1.heap.size + 1 := by simp
    rw [h2] at h1
    exact h1)
  rw [← hW2]
  clear hW2
  refine (major_any [258, 97] [4] A B (some ⟨w1.heap.size + 1, 0, none⟩) c d 1 0 [] W2 (HH.out.below HB12.out) (fun x hx => by simp at hx; omega) (by decide) (rd_nil _ _ _ _) (by simp) (fun x hx => by cases hx) (Wf.of (by omega) (by omega)) HS2.out (fun x hx => by simp at hx; omega) (by decide)).mono ?_
  rintro e w3 (⟨l2, K, A3, c3, B3, d3, hok2, hro, hRK, rfl, hO3, hR3, hb3, hne3⟩ | ⟨hno, -⟩)
  rotate_left
  · refine (hno ⟨_, HOKG.out, fun p hp => ?_⟩).elim
    obtain rfl : p = 4 := by simpa using hp
    have e := obs_inj HOKG.out.obs obsA
    rw [e]
    exact ⟨by decide +kernel, fun _ => ⟨0, obA, rfl, by decide +kernel⟩⟩
  obtain ⟨e1, e2⟩ := youths_plain hok2.obs hRK
  have e3 : [4].map (mv (gcP l2 0 K)) = [4] := by simp [e2]
  rw [e3] at hR3
  rw [e1] at hO3 ⊢
  obtain ⟨b3, off3, rfl, hlt3, hc3⟩ := hR3.rd (by simp)
  have c0 : w3.cell? ⟨b3, off3, none⟩ = some (.int .u64 4) := by simpa [nth] using hc3 0 (by simp) 0 _ rfl
  have HB3 := Lib.hid (HB2.out.trans (hb3.mono HB2.out.size))
  clear hok2 hro hRK hO3 hR3 hb3 hne3 e1 e2 e3 hc3
  go_wp2_with fail
  refine (good_two 0 0 _ _ _ (by simp [go_sem]) (by simp [go_sem])).mono ?_
  rintro e w4 ⟨rfl, rfl⟩
  go_wp2_with fail
  go_ret
  exact ⟨rfl, (HB3.out.alloc HB3.out.size _).alloc (by have := HB3.out.size; simp; omega) _⟩
end Go.Proofs.Ytkdbnkkdohkhjaa
namespace Go.Proofs.Ytkdbnkkdohkhjaa
open Go.RowKit
set_option linter.unusedVariables false
/-- what a store into a cell yields, in one form -/
def SetOne (h : List Nat) (old : Int) (late : List Int) (l : List Ob) (w : World) (A : Option Addr) (n c : Nat) (o : Int) (B : Option Addr) (m d : Nat) (x : Int) (w' : World) : Prop :=
  x ≠ 0 ∨ (x = 0 ∧ ∃ h' late' l', OkA h' old late' l' ∧ (∀ p, wordOk l p → wordOk l' p) ∧ o = old ∧ n = h'.length ∧ m = late'.length ∧ OwnU w' w.heap.size (.slice A n c) h' ∧ OwnI w' w.heap.size (.slice B m d) late')
theorem set_one (h : List Nat) (hA lA : Option Addr) (hc lc : Nat) (old : Int) (late : List Int) (l : List Ob) (a : Int) (x : Nat) (w : World) (hok : OkA h old late l) (hH : Su w (.slice hA h.length hc) h) (h64 : All64 h) (hlen : h.length ≤ 17592186044416) (hL : Rd w 1 (tmC (lst late)) lA late.length) (hLn : lA = none → late.length = 0) (hll : late.length ≤ 17592186044416) (hwl : ∀ x ∈ late, Wf x) (hwo : Wf old) (hwa : Wf a) (hx : x < 18446744073709551616) :
    Calls Try.prog 9 #[.agg #[.slice hA h.length hc, .int .i64 old, .slice lA late.length lc], .int .i64 a, .int .u64 (x : Int)] w fun e w' => ∃ A n c o B m d y, e = .returned (.tuple #[.agg #[.slice A n c, .int .i64 o, .slice B m d], .int .i64 y]) ∧ Below w.heap.size w w' ∧ SetOne h old late l w A n c o B m d y w' := by
  refine (set_any h hA lA hc lc old late a x w hH h64 hlen hL hLn hll hwl hwo hwa hx).mono ?_
  rintro e w' (⟨l2, k, o, A, c, B, d, hok2, hcl, ha, hw, rfl, hO, hI, hb⟩ | ⟨y, hy, rfl, hb⟩)
  · obtain rfl := obs_inj hok2.obs hok.obs
    refine ⟨A, h.length, c, old, B, _, d, 0, rfl, hb, .inr ⟨rfl, h.set (posO l2 k + 1) x, _, l2.set k (withParts o [x]), ?_, fun p hp => wordOk_set hcl.at' (hcl.words hok.obs x) hp, rfl, by simp, rfl, hO, hI⟩⟩
    rw [ha]
    exact set_ages hok hcl hx hw
  · exact ⟨none, 0, 0, 0, none, 0, 0, y, rfl, hb, .inl hy⟩
theorem SetOne.grown {h : List Nat} {old : Int} {late : List Int} {l : List Ob} {w w' w'' : World} {A B : Option Addr} {n c m d : Nat} {o x : Int} {row : Option Nat} (H : SetOne h old late l w A n c o B m d x w') (hg : w'.grownBy w'' row) (hr : ∀ k, row = some k → k < w.heap.size ∨ w'.heap.size ≤ k) : SetOne h old late l w A n c o B m d x w'' := by
  rcases H with H | ⟨h0, h', late', l', k1, k2, k3, k4, k5, k6, k7⟩
  · exact .inl H
  · refine .inr ⟨h0, h', late', l', k1, k2, k3, k4, k5, ?_, ?_⟩
    · subst k4
      exact k6.grown hg (fun k hk e => by have := k6.blk k hk; rcases hr k e with h | h <;> omega)
    · subst k5
      exact k7.grown hg (fun k hk e => by have := k7.blk k hk; rcases hr k e with h | h <;> omega)
theorem SetOne.base {h : List Nat} {old : Int} {late : List Int} {l : List Ob} {w w0 w' : World} {A B : Option Addr} {n c m d : Nat} {o x : Int} (H : SetOne h old late l w A n c o B m d x w') (hw : w0.heap.size ≤ w.heap.size) : SetOne h old late l w0 A n c o B m d x w' := by
  rcases H with H | ⟨h0, h', late', l', k1, k2, k3, k4, k5, k6, k7⟩
  · exact .inl H
  · exact .inr ⟨h0, h', late', l', k1, k2, k3, k4, k5, k6.mono hw, k7.mono hw⟩
/-- behind the store: the box of what it yields -/
def KsMid (h : List Nat) (old : Int) (late : List Int) (l : List Ob) (w : World) (x y : Value) (wx : World) : Prop := ∃ b A n c o B m d z, x = .pointer (some ⟨b, 0, none⟩) ∧ y = .int .i64 z ∧ AgB wx b A n c o B m d ∧ Below w.heap.size w wx ∧ SetOne h old late l w A n c o B m d z wx
def KsPost (old : Int) (l : List Ob) (base0 : Nat) (w : World) (e : Ending) (w' : World) : Prop := ∃ h' late' l' A c B d, OkA h' old late' l' ∧ (∀ p, wordOk l p → wordOk l' p) ∧ e = .returned (.agg #[.slice A h'.length c, .int .i64 old, .slice B late'.length d]) ∧
  OwnU w' base0 (.slice A h'.length c) h' ∧ OwnI w' base0 (.slice B late'.length d) late' ∧ Below w.heap.size w w'
theorem kset_results {tmps : Array Value} {wz : World} {H : Nat} {u0 u1 u2 : Value} (t2 : tmps.getD 6 undef = .pointer (some ⟨H, 0, none⟩))
    (z0 : wz.cell? ⟨H, 0, none⟩ = some u0) (z1 : wz.cell? ⟨H, 1, none⟩ = some u1) (z2 : wz.cell? ⟨H, 2, none⟩ = some u2) :
    (results Try.f46 tmps).run Try.prog wz = .ok (.agg #[u0, u1, u2]) wz := by
  simp only [Array.getD_eq_getD_getElem?] at t2
  simp [results, Try.results46, go_sem, t2, z0, z1, z2]
theorem rem_idx (s : Int) (n : Nat) (hn : 0 < n) (hb : n ≤ 1000) : ∃ i : Nat, wrap64 ((IntKind.u64.wrap s).tmod (n : Int)) = (i : Int) ∧ i < n := by
  have h0 : 0 ≤ IntKind.u64.wrap s := by simp [IntKind.wrap, IntKind.signed, IntKind.bits]; omega
  obtain ⟨a, ha⟩ : ∃ a : Nat, IntKind.u64.wrap s = a := ⟨(IntKind.u64.wrap s).toNat, by omega⟩
  have hlt := Nat.mod_lt a hn
  refine ⟨a % n, ?_, hlt⟩
  rw [ha]
  have e : ((a : Int).tmod (n : Int)) = ((a % n : Nat) : Int) := by rw [Int.tmod_eq_emod_of_nonneg (by omega)]; rfl
  rw [e]
  unfold wrap64
  omega
set_option maxHeartbeats 8000000 in
set_option maxRecDepth 100000 in
theorem kset_any (h roots : List Nat) (hA lA rA : Option Addr) (hc lc rc : Nat) (old : Int) (late : List Int) (l : List Ob) (base0 : Nat) (s0 s1 : Int) (w : World) (hok : OkA h old late l) (hro : ∀ p ∈ roots, wordOk l p) (hH : OwnU w base0 (.slice hA h.length hc) h) (hL : OwnI w base0 (.slice lA late.length lc) late) (hb0 : base0 ≤ w.heap.size) (hR : Su w (.slice rA roots.length rc) roots) (r64 : All64 roots) (hr0 : 0 < roots.length) (hrl : roots.length ≤ 1000) :
    Calls Try.prog 46 #[.agg #[.slice hA h.length hc, .int .i64 old, .slice lA late.length lc], .slice rA roots.length rc, .agg #[.int .i64 s0, .int .i64 s1]] w (KsPost old l base0 w) := by
  have HOK := Lib.hid hok
  have HRO := Lib.hid hro
  have HH := Lib.hid hH
  have HL := Lib.hid hL
  have HR := Lib.hid hR
  have HR64 := Lib.hid r64
  have HLN := Lib.hid (show lA = none → late.length = 0 from by
    obtain ⟨A', c', hv, _, _, h3⟩ := own_any hL
    injection hv with e1 e2 e3
    subst e1
    exact h3)
  have hlf := late_few hok
  have HWL := Lib.hid (show ∀ x ∈ late, Wf x from fun x hx => by
    obtain ⟨i, hi⟩ := List.mem_iff_getElem?.1 hx
    obtain ⟨⟨a, ha, hb⟩, _, _⟩ := hok.lateOk i x hi
    have h1 := beg_lt hok.obs hb
    have h2 := hok.len
    exact Wf.of (by omega) (by omega))
  have HWO := Lib.hid (show Wf old from by
    have h1 := old_le hok
    have h2 := hok.len
    exact Wf.of (by omega) (by omega))
  have h4 := hok.len
  obtain ⟨i, hi, hil⟩ := rem_idx s0 roots.length hr0 hrl
  obtain ⟨j, hj, hjl⟩ := rem_idx s1 roots.length hr0 hrl
  have HI := Lib.hid hi
  have HJ := Lib.hid hj
  obtain ⟨rA', rc', e, x1, x2, x3, x4⟩ := hR
  injection e with e1 e2 e3
  clear e2
  subst e1 e3
  obtain ⟨bR, oR, rfl, hbR, hcR⟩ := x4 (by omega)
  have hci : w.cell? ⟨bR, oR + i, none⟩ = some (.int .u64 ((nth roots i : Nat) : Int)) := by simpa using hcR i hil 0 _ rfl
  have hcj : w.cell? ⟨bR, oR + j, none⟩ = some (.int .u64 ((nth roots j : Nat) : Int)) := by simpa using hcR j hjl 0 _ rfl
  have hpi : nth roots i < 18446744073709551616 := HR64.out.nth i
  have hpj : nth roots j < 18446744073709551616 := HR64.out.nth j
  have hwi : wordOk l (nth roots i) := hro _ (by rw [nth_get hil]; exact List.getElem_mem _)
  obtain ⟨p, hp⟩ : ∃ p, nth roots i = p := ⟨_, rfl⟩
  obtain ⟨q, hq⟩ : ∃ q, nth roots j = q := ⟨_, rfl⟩
  rw [hp] at hci hpi hwi
  rw [hq] at hcj hpj
  have HWI := Lib.hid hwi
  clear hok hro hH hL r64 hi hj hwi hp hq hcR x1 x2 x3 x4
  go_enter Try.func46, Try.ntmps46
  go_wp2_with fail
  go_quiet (fail)
  rw [HI.out, HJ.out]
  obtain ⟨W3, hW3⟩ : ∃ W3, W3 = World.drewN (((w.alloc (.cells #[.slice hA h.length hc, .int .i64 old, .slice lA late.length lc] 26)).alloc (.cells #[.int .i64 s0, .int .i64 s1] 99)).alloc (.cells #[.slice none 0 0, .int .i64 0, .slice none 0 0] 26)) nq := ⟨_, rfl⟩
  have HB3 := Lib.hid (show Below w.heap.size w W3 by rw [hW3]; exact below_drewN ((((Below.refl _ _).alloc (Nat.le_refl _) _).alloc (by simp) _).alloc (by simp; omega) _) _)
  have HZ3 := Lib.hid (show W3.heap.size = w.heap.size + 3 by rw [hW3]; simp)
  have HAG := Lib.hid (show AgB W3 w.heap.size hA h.length hc old lA late.length lc from by
    rw [hW3]
    refine (((AgB.new w hA h.length hc old lA late.length lc 26).below ((Below.refl _ _).alloc (Nat.le_refl _) _)).below ((Below.refl _ _).alloc (Nat.le_refl _) _)).below (below_drewN (Below.refl _ _) _))
  have HBX := Lib.hid (show AgB W3 (w.heap.size + 1 + 1) none 0 0 0 none 0 0 ∧ ∀ o, W3.frozen? ⟨w.heap.size + 1 + 1, o, none⟩ = false from by
    rw [hW3]
    have h1 := AgB.new ((w.alloc (.cells #[.slice hA h.length hc, .int .i64 old, .slice lA late.length lc] 26)).alloc (.cells #[.int .i64 s0, .int .i64 s1] 99)) none 0 0 0 none 0 0 26
    have h2 : ((w.alloc (.cells #[.slice hA h.length hc, .int .i64 old, .slice lA late.length lc] 26)).alloc (.cells #[.int .i64 s0, .int .i64 s1] 99)).heap.size = w.heap.size + 1 + 1 := by simp
    rw [h2] at h1
    exact ⟨h1.below (below_drewN (Below.refl _ _) _), fun o => by simp [go_sem]⟩)
  rw [← hW3]
  clear hW3 HI HJ
  have ci : W3.cell? ⟨bR, oR + i, none⟩ = some (.int .u64 (p : Int)) := (HB3.out.cell (p := ⟨bR, _, none⟩) hbR).trans hci
  have cj : W3.cell? ⟨bR, oR + j, none⟩ = some (.int .u64 (q : Int)) := (HB3.out.cell (p := ⟨bR, _, none⟩) hbR).trans hcj
  obtain ⟨a0, a1, a2, a3⟩ := HAG.out
  obtain ⟨b0, b1, b2, b3⟩ := HBX.out.1
  have f0 := HBX.out.2 0
  have f1 := HBX.out.2 1
  have f2 := HBX.out.2 2
  have HPT := Lib.hid (fun u0 u1 u2 => put3_cells b0 b1 b2 u0 u1 u2)
  have m0 : (0 : Int) ≤ (i : Int) := by omega
  have m1 : (i : Int) < (roots.length : Int) := by omega
  have HMJ := Lib.hid (show (0 : Int) ≤ (j : Int) ∧ (j : Int) < (roots.length : Int) from ⟨by omega, by omega⟩)
  have HBB := Lib.hid hbR
  clear hci hcj hil hjl hbR
  have hrd := read_ok (p : Int) W3 ⟨by omega, by omega⟩ HWI.out.1
  by_cases ht : tagOf (p : Int) = 4
  · obtain ⟨hnm, hat60⟩ := okR_at HWI.out.1 ht
    rw [ht, hnm] at hrd
    obtain ⟨a, ha⟩ : ∃ a, atOf p = a := ⟨_, rfl⟩
    rw [ha] at hrd hat60
    have HRD := Lib.hid hrd
    have HWA := Lib.hid (show Wf (a : Int) from Wf.of (by omega) (by omega))
    clear hrd ht hnm hat60 ha
    go_wp2_with fail
    refine HRD.out.mono ?_
    rintro e w4 ⟨rfl, rfl⟩
    go_upto_region 46 with (fail)
    have HSET := Lib.hid (fun (W : World) (hb : Below W3.heap.size W3 W) => set_one h hA lA hc lc old late l (a : Int) q W HOK.out (Su.of_own ((HH.out.below HB3.out).below hb)) HOK.out.obs.all64 (by have := HOK.out.len; omega) ((HL.out.below HB3.out).below hb).rd HLN.out (by have := late_few HOK.out; omega) HWL.out HWO.out HWA.out hpj)
    have HD := Lib.hid (show Below W3.heap.size W3 W3.drew from (Below.refl _ _).drew)
    have HDz := Lib.hid (show Below W3.heap.size W3 (W3.alloc (.cells #[.slice none 0 0, .int .i64 0, .slice none 0 0] 26)).drew from ((Below.refl _ _).alloc (Nat.le_refl _) _).drew)
    have HAGd := Lib.hid (HAG.out.below HD.out)
    have HAGz := Lib.hid (HAG.out.below HDz.out)
    have HAZ := Lib.hid (show AgB (W3.alloc (.cells #[.slice none 0 0, .int .i64 0, .slice none 0 0] 26)).drew W3.heap.size none 0 0 0 none 0 0 ∧ ∀ o, (W3.alloc (.cells #[.slice none 0 0, .int .i64 0, .slice none 0 0] 26)).drew.frozen? ⟨W3.heap.size, o, none⟩ = false from ⟨(AgB.new W3 none 0 0 0 none 0 0 26).below (Below.refl _ _).drew, fun o => by show (W3.alloc _).frozen? ⟨W3.heap.size, o, none⟩ = false; simp [go_sem]⟩)
    have HCJ := Lib.hid (show ∀ W, Below W3.heap.size W3 W → W.cell? ⟨bR, oR + j, none⟩ = some (.int .u64 (q : Int)) from fun W hb => (hb.cell (p := ⟨bR, _, none⟩) (by have := HBB.out; have := HB3.out.size; show bR < _; omega)).trans cj)
    have cjd := HCJ.out _ HD.out
    have cjz := HCJ.out _ HDz.out
    obtain ⟨d0, d1, d2, d3⟩ := HAGd.out
    obtain ⟨z0, z1, z2, z3⟩ := HAGz.out
    obtain ⟨mj0, mj1⟩ := HMJ.out
    go_cut [12, 13] (fun x y wx => KsMid h old late l W3 x y wx)
    case first =>
      have HZW := Lib.hid (show w.heap.size < W3.heap.size from by have := HZ3.out; omega)
      have HYW := Lib.hid (show bR < W3.heap.size from by have := HZ3.out; have := HBB.out; omega)
      go_region_held3 (fun W => W.cell? ⟨w.heap.size, 0, none⟩ = some (.slice hA h.length hc) ∧ W.cell? ⟨w.heap.size, 1, none⟩ = some (.int .i64 old) ∧ W.cell? ⟨w.heap.size, 2, none⟩ = some (.slice lA late.length lc) ∧ W.cell? ⟨bR, oR + j, none⟩ = some (.int .u64 (q : Int)))
        (first | with_reducible exact ⟨a0, a1, a2, cj⟩ | with_reducible exact ⟨d0, d1, d2, cjd⟩ | with_reducible exact ⟨z0, z1, z2, cjz⟩ | with_reducible exact ⟨r0, r1, r2, cjr⟩ | with_reducible exact ⟨(keepA _ _ HZ5.out _).trans r0, (keepA _ _ HZ5.out _).trans r1, (keepA _ _ HZ5.out _).trans r2, (keepA _ _ HY5.out _).trans cjr⟩ | with_reducible exact ⟨(keep3 _ (Nat.ne_of_gt HZ5.out) _ _ _ _).trans ((keepA _ _ HZ5.out _).trans r0), (keep3 _ (Nat.ne_of_gt HZ5.out) _ _ _ _).trans ((keepA _ _ HZ5.out _).trans r1), (keep3 _ (Nat.ne_of_gt HZ5.out) _ _ _ _).trans ((keepA _ _ HZ5.out _).trans r2), (keep3 _ (Nat.ne_of_gt HY5.out) _ _ _ _).trans ((keepA _ _ HY5.out _).trans cjr)⟩ | with_reducible exact ⟨(keep3 _ (Nat.ne_of_gt HZW.out) _ _ _ _).trans r0, (keep3 _ (Nat.ne_of_gt HZW.out) _ _ _ _).trans r1, (keep3 _ (Nat.ne_of_gt HZW.out) _ _ _ _).trans r2, (keep3 _ (Nat.ne_of_gt HYW.out) _ _ _ _).trans cjr⟩ | go_keep)
        (first
          | (go_at_call 9; refine (HSET.out W3.drew HD.out).mono ?_; rintro e w5 ⟨A5, n5, c5, o5, B5, m5, d5, y5, rfl, hb5, hone5⟩; have HZ5 := Lib.hid (Nat.lt_of_lt_of_le HAGd.out.lt hb5.size); have HB5 := Lib.hid hb5; have HONE5 := Lib.hid hone5; obtain ⟨r0, r1, r2, r3⟩ := HAGd.out.below hb5; have cjr := HCJ.out w5 (HD.out.trans (hb5.mono HD.out.size)); have HY5 := Lib.hid (Nat.lt_of_lt_of_le HYW.out (Nat.le_trans HD.out.size hb5.size)); clear hb5 hone5)
          | (go_at_call 9; refine (HSET.out (W3.alloc (.cells #[.slice none 0 0, .int .i64 0, .slice none 0 0] 26)).drew HDz.out).mono ?_; rintro e w5 ⟨A5, n5, c5, o5, B5, m5, d5, y5, rfl, hb5, hone5⟩; have HZ5 := Lib.hid (Nat.lt_of_lt_of_le HAGz.out.lt hb5.size); have HB5 := Lib.hid hb5; have HONE5 := Lib.hid hone5; obtain ⟨r0, r1, r2, r3⟩ := HAGz.out.below hb5; have cjr := HCJ.out w5 (HDz.out.trans (hb5.mono HDz.out.size)); obtain ⟨t0, t1, t2, t3⟩ := HAZ.out.1.below hb5; have tf := fun o => (grown_frozen (o := o) (grown_below (g := none) hb5) HAZ.out.1.lt (by simp)).trans (HAZ.out.2 o); have tf0 := tf 0; have tf1 := tf 1; have tf2 := tf 2; have HY5 := Lib.hid (Nat.lt_of_lt_of_le HYW.out (Nat.le_trans HDz.out.size hb5.size)); clear hb5 hone5 tf))
      · go_wp2_with fail
        go_meet
        refine ⟨w5.heap.size, A5, n5, c5, o5, B5, m5, d5, y5, rfl, rfl, AgB.new w5 A5 n5 c5 o5 B5 m5 d5 26, (HD.out.trans (HB5.out.mono HD.out.size)).alloc (Nat.le_trans HD.out.size HB5.out.size) _, (HONE5.out.grown (World.grownBy_alloc w5 _ none) (by simp)).base HD.out.size⟩
      · go_wp2_with fail
        go_meet
        obtain ⟨v0, v1, v2, vg⟩ := put3_cells t0 t1 t2 (.slice A5 n5 c5) (.int .i64 o5) (.slice B5 m5 d5)
        refine ⟨W3.heap.size, A5, n5, c5, o5, B5, m5, d5, y5, rfl, rfl, ⟨v0, v1, v2, Nat.lt_of_lt_of_le t3 vg.size⟩, below_grown (HDz.out.trans (HB5.out.mono HDz.out.size)) (Nat.le_trans HDz.out.size HB5.out.size) vg (fun k hk => by injection hk with hk; omega), (HONE5.out.grown vg (fun k hk => by injection hk with hk; have := HAZ.out.1.lt; omega)).base HDz.out.size⟩
    case rest =>
    obtain ⟨b, A5, n5, c5, o5, B5, m5, d5, y5, rfl, rfl, hag5, hbc, hone⟩ := hcut
    have HBC := Lib.hid hbc
    have HB0C := Lib.hid (HB3.out.trans (hbc.mono HB3.out.size))
    have HONE := Lib.hid hone
    obtain ⟨e0, e1, e2, e3⟩ := hag5
    have HZ := HZ3.out
    have b3c : w.heap.size + 1 + 1 < W3.heap.size := by omega
    have g0 := (hbc.cell (p := ⟨w.heap.size + 1 + 1, 0, none⟩) b3c).trans b0
    have g1 := (hbc.cell (p := ⟨w.heap.size + 1 + 1, 1, none⟩) b3c).trans b1
    have g2 := (hbc.cell (p := ⟨w.heap.size + 1 + 1, 2, none⟩) b3c).trans b2
    have gf := fun o => (grown_frozen (o := o) (grown_below (g := none) hbc) b3c (by simp)).trans (HBX.out.2 o)
    have gf0 := gf 0
    have gf1 := gf 1
    have gf2 := gf 2
    obtain ⟨v0, v1, v2, v3⟩ := HAG.out.below hbc
    have HPTC := Lib.hid (fun u0 u1 u2 => put3_cells g0 g1 g2 u0 u1 u2)
    clear hbc hone b3c gf cjd cjz d0 d1 d2 d3 z0 z1 z2 z3 mj0 mj1 a0 a1 a2 a3 b0 b1 b2 b3 f0 f1 f2 ci cj
    by_cases hy : y5 = 0
    · subst hy
      go_wp2_with fail
      rcases HONE.out with h0 | ⟨-, h', late', l', k1, k2, rfl, rfl, rfl, k6, k7⟩
      · exact absurd rfl h0
      obtain ⟨z0, z1, z2, zg⟩ := HPTC.out (.slice A5 h'.length c5) (.int .i64 o5) (.slice B5 late'.length d5)
      refine bodyPost_ret (kset_results (H := w.heap.size + 1 + 1) rfl z0 z1 z2) rfl ⟨h', late', l', A5, c5, B5, d5, k1, k2, rfl, ?_, ?_, ?_⟩
      · exact (k6.grown zg (fun k hk e => by injection e with e; have := (k6.blk k hk).1; omega)).mono (by omega)
      · exact (k7.grown zg (fun k hk e => by injection e with e; have := (k7.blk k hk).1; omega)).mono (by omega)
      · exact below_grown HB0C.out HB0C.out.size zg (fun k hk => by injection hk with hk; omega)
    · have y0 : (y5 == 0) = false := by simpa using hy
      clear hy
      go_wp2_with fail
      obtain ⟨z0, z1, z2, zg⟩ := HPTC.out (.slice hA h.length hc) (.int .i64 old) (.slice lA late.length lc)
      refine bodyPost_ret (kset_results (H := w.heap.size + 1 + 1) rfl z0 z1 z2) rfl ⟨h, late, l, hA, hc, lA, lc, HOK.out, fun p hp => hp, rfl, ?_, ?_, ?_⟩
      · exact (HH.out.below HB0C.out).grown zg (fun k hk e => by injection e with e; have := (HH.out.blk k hk).2; omega)
      · exact (HL.out.below HB0C.out).grown zg (fun k hk e => by injection e with e; have := (HL.out.blk k hk).2; omega)
      · exact below_grown HB0C.out HB0C.out.size zg (fun k hk => by injection hk with hk; omega)
  · obtain ⟨T, hT⟩ : ∃ T, tagOf (p : Int) = T := ⟨_, rfl⟩
    obtain ⟨M, hM⟩ : ∃ M, numOf (p : Int) = M := ⟨_, rfl⟩
    rw [hT, hM] at hrd
    rw [hT] at ht
    have HRD := Lib.hid hrd
    have t0 : (T == 4) = false := by simpa using ht
    have HZ := HZ3.out
    clear hrd hT hM ht
    go_wp2_with fail
    refine HRD.out.mono ?_
    rintro e w4 ⟨rfl, rfl⟩
    go_wp2_with fail
    obtain ⟨z0, z1, z2, zg⟩ := HPT.out (.slice hA h.length hc) (.int .i64 old) (.slice lA late.length lc)
    refine bodyPost_ret (kset_results (H := w.heap.size + 1 + 1) rfl z0 z1 z2) rfl ⟨h, late, l, hA, hc, lA, lc, HOK.out, fun p hp => hp, rfl, ?_, ?_, ?_⟩
    · exact (HH.out.below HB3.out).grown zg (fun k hk e => by injection e with e; have := (HH.out.blk k hk).2; omega)
    · exact (HL.out.below HB3.out).grown zg (fun k hk e => by injection e with e; have := (HL.out.blk k hk).2; omega)
    · exact below_grown HB3.out HB3.out.size zg (fun k hk => by injection hk with hk; omega)
end Go.Proofs.Ytkdbnkkdohkhjaa
namespace Go.Proofs.Ytkdbnkkdohkhjaa
open Go.RowKit
set_option linter.unusedVariables false
def MinYes (h : List Nat) (old : Int) (late : List Int) (roots : List Nat) (w : World) (e : Ending) (w' : World) : Prop := ∃ l kf K A c B d, OkA h old late l ∧ kf ≤ l.length ∧ old = ((posO l kf : Nat) : Int) ∧ (∀ p ∈ roots, wordOk l p) ∧ RK l ((posO l kf : Nat) : Int) (roots ++ ltW h late late.length) K [] ∧ e = .returned (.tuple #[.agg #[.slice A (flatO (gcL l kf K late)).length c, .int .i64 (((flatO (gcL l kf K late)).length : Nat) : Int), .slice none 0 0], .slice B roots.length d, .int .i64 0]) ∧
  OwnU w' w.heap.size (.slice A (flatO (gcL l kf K late)).length c) (flatO (gcL l kf K late)) ∧ OwnU w' w.heap.size (.slice B roots.length d) (roots.map (mv (gcP l kf K))) ∧ Below w.heap.size w w' ∧ ∀ k, (Value.slice A (flatO (gcL l kf K late)).length c).ownBlock = some k → (Value.slice B roots.length d).ownBlock ≠ some k
theorem minor_results {tmps : Array Value} {wz : World} {H : Nat} {u0 u1 u2 v5 v6 : Value} (t4 : tmps.getD 4 undef = .pointer (some ⟨H, 0, none⟩)) (t5 : tmps.getD 5 undef = v5) (t6 : tmps.getD 6 undef = v6)
    (z0 : wz.cell? ⟨H, 0, none⟩ = some u0) (z1 : wz.cell? ⟨H, 1, none⟩ = some u1) (z2 : wz.cell? ⟨H, 2, none⟩ = some u2) :
    (results Try.f18 tmps).run Try.prog wz = .ok (.tuple #[.agg #[u0, u1, u2], v5, v6]) wz := by
  simp only [Array.getD_eq_getD_getElem?] at t4 t5 t6
  simp [results, Try.results18, go_sem, t4, t5, t6, z0, z1, z2]
set_option maxHeartbeats 8000000 in
set_option maxRecDepth 100000 in
theorem minor_any (h roots : List Nat) (hA lA rA : Option Addr) (hc lc rc : Nat) (old : Int) (late : List Int) (w : World) (hH : Su w (.slice hA h.length hc) h) (h64 : All64 h) (hlen : h.length ≤ 17592186044416) (hL : Rd w 1 (tmC (lst late)) lA late.length) (hll : late.length ≤ 17592186044416) (hwl : ∀ x ∈ late, Wf x) (hwo : Wf old) (hR : Su w (.slice rA roots.length rc) roots) (r64 : All64 roots) (hrl : roots.length ≤ 100000) :
    Calls Try.prog 18 #[.agg #[.slice hA h.length hc, .int .i64 old, .slice lA late.length lc], .slice rA roots.length rc] w fun e w' => MinYes h old late roots w e w' ∨ GcNo h old late roots w e w' := by
  have HH := Lib.hid hH
  have H64 := Lib.hid h64
  have HL := Lib.hid hL
  have HWL := Lib.hid hwl
  have HWO := Lib.hid hwo
  have HR := Lib.hid hR
  have HR64 := Lib.hid r64
  clear hH h64 hL hwl hwo hR r64
  obtain ⟨W1, hW1⟩ : ∃ W1, W1 = (w.alloc (.cells #[.slice hA h.length hc, .int .i64 old, .slice lA late.length lc] 26)).alloc (.cells #[.slice none 0 0, .int .i64 0, .slice none 0 0] 26) := ⟨_, rfl⟩
  have HB1 := Lib.hid (show Below w.heap.size w W1 by rw [hW1]; exact ((Below.refl _ _).alloc (Nat.le_refl _) _).alloc (by simp) _)
  have HZ1 := Lib.hid (show W1.heap.size = w.heap.size + 2 by rw [hW1]; simp)
  have HAG := Lib.hid (show AgB W1 w.heap.size hA h.length hc old lA late.length lc from by
    rw [hW1]
    exact (AgB.new w hA h.length hc old lA late.length lc 26).below ((Below.refl _ _).alloc (Nat.le_refl _) _))
  have HBOX := Lib.hid (show AgB W1 (w.heap.size + 1) none 0 0 0 none 0 0 ∧ ∀ o, W1.frozen? ⟨w.heap.size + 1, o, none⟩ = false from by
    rw [hW1]
    have h1 := AgB.new (w.alloc (.cells #[.slice hA h.length hc, .int .i64 old, .slice lA late.length lc] 26)) none 0 0 0 none 0 0 26
    have h2 : (w.alloc (.cells #[.slice hA h.length hc, .int .i64 old, .slice lA late.length lc] 26)).heap.size = w.heap.size + 1 := by simp
    rw [h2] at h1
    exact ⟨h1, fun o => by simp [go_sem]⟩)
  obtain ⟨a0, a1, a2, a3⟩ := HAG.out
  go_enter Try.func18, Try.ntmps18
  go_wp2_with fail
  rw [← hW1]
  clear hW1
  refine (started_any h roots hA lA rA hc lc rc old late W1 (HH.out.below HB1.out) H64.out hlen (HL.out.below HB1.out) hll HWL.out HWO.out (HR.out.below HB1.out) HR64.out (by omega)).mono ?_
  rintro e w2 (⟨l, mb, C, hok, hro, rfl, hidx, hmb, hb⟩ | ⟨hno, x, hx, rfl, hb⟩)
  · have HB2 := Lib.hid hb
    have HB02 := Lib.hid (HB1.out.trans (hb.mono HB1.out.size))
    have hz2 := hb.size
    have HOK := Lib.hid hok
    have HRO := Lib.hid hro
    have HIT := Lib.hid (IdxT.of hidx)
    have HAG2 := Lib.hid (HAG.out.below hb)
    have HBX2 := Lib.hid (HBOX.out.1.below hb)
    have HFZ := Lib.hid (show ∀ o, w2.frozen? ⟨w.heap.size + 1, o, none⟩ = false from fun o => (grown_frozen (grown_below (g := none) hb) (by have := HZ1.out; omega) (by simp)).trans (HBOX.out.2 o))
    have hzz := HZ1.out
    have HZ2 := Lib.hid (show w.heap.size + 2 ≤ w2.heap.size by omega)
    have HRB := Lib.hid (show 0 < roots.length → ∀ k, (Value.slice rA roots.length rc).ownBlock = some k → k < w.heap.size from fun h0 k hk => by
      obtain ⟨A', c', e, _, _, _, h4⟩ := HR.out
      injection e with e1 _ _
      subst e1
      obtain ⟨b, off, rfl, hb', _⟩ := h4 h0
      injection hk with hk
      subst hk
      exact hb')
    have HLB := Lib.hid (show 0 < late.length → ∀ k, (Value.slice lA late.length lc).ownBlock = some k → k < w.heap.size from fun h0 k hk => by
      obtain ⟨b, off, rfl, hb', _⟩ := HL.out h0
      injection hk with hk
      subst hk
      exact hb')
    have HLF := Lib.hid (late_few hok)
    clear hb hok hro hidx a0 a1 a2 a3 hmb hzz hz2
    go_wp2_with fail
    refine (cloneU_any rA rc roots w2 (HR.out.below HB02.out) (by omega)).mono ?_
    rintro e w3 ⟨A3, c3, rfl, ho3, hb3⟩
    have HO3 := Lib.hid ho3
    have HB3 := Lib.hid hb3
    obtain ⟨a0, a1, a2, a3⟩ := HAG2.out.below hb3
    clear ho3 hb3
    go_wp2_with fail
    go_loopw [9, 11, 29] (fun x9 _ x29 wr => ∃ (i : Nat) (A : Option Addr) (d : Nat), i ≤ late.length ∧ x29 = .int .i64 (i : Int) ∧ x9 = .slice A (roots ++ ltW h late i).length d ∧ OwnU wr w2.heap.size (.slice A (roots ++ ltW h late i).length d) (roots ++ ltW h late i) ∧ Below w2.heap.size w2 wr) (fun _ _ x29 _ => late.length - (intOf x29).toNat)
    case atStart => exact ⟨0, A3, c3, Nat.zero_le _, rfl, by rw [ltW_zero, List.append_nil], by rw [ltW_zero, List.append_nil]; exact HO3.out, HB3.out⟩
    case round =>
      obtain ⟨i, A, d, hi, rfl, rfl, hOi, hBi⟩ := hrel
      have HOi := Lib.hid hOi
      have HBi := Lib.hid hBi
      have HBwi := Lib.hid (HB02.out.trans (hBi.mono HB02.out.size))
      have hzi := hBi.size
      obtain ⟨a0, a1, a2, a3⟩ := HAG2.out.below hBi
      have HIi := Lib.hid (HIT.out.below hBi)
      clear hOi hBi
      by_cases hlt : i < late.length
      · obtain ⟨x, hx⟩ : ∃ x, late[i]? = some x := ⟨_, List.getElem?_eq_getElem hlt⟩
        have hlx : lst late i = x := by simp [lst, hx]
        obtain ⟨bL, oL, rfl, hbL, hcL⟩ := HL.out (by omega)
        have hcx := hcL i hlt 0 _ rfl
        simp only [Nat.mul_one, Nat.add_zero] at hcx
        rw [hlx] at hcx
        have cx : wr.cell? ⟨bL, oL + i, none⟩ = some (.int .i64 x) := (HBwi.out.cell (p := ⟨bL, _, none⟩) hbL).trans hcx
        have hwx : Wf x := HWL.out x (List.mem_of_getElem? hx)
        have HLEN := Lib.hid (ltW_len HOK.out (i + 1) (by omega)).1
        have HSUC := Lib.hid (ltW_succ (h := h) hx)
        obtain ⟨k0, o0, hk0, hxk0, hpa⟩ := late_at HOK.out hx
        have HLOOK := Lib.hid (HIi.out.idx.look hwx)
        rcases HIi.out.idx.look hwx with ⟨k, o, pA, pc, hk, hxk, hOp, hlk, -⟩ | ⟨hno, -, -⟩
        · have hkk : k = k0 := posO_inj (List.getElem?_eq_some_iff.1 hk).1 (List.getElem?_eq_some_iff.1 hk0).1 (by omega)
          subst hkk
          rw [hk] at hk0
          injection hk0 with hk0
          subst hk0
          rw [hpa] at HSUC
          have HPO := Lib.hid hOp
          have HPU := Lib.hid (Su.of_own hOp)
          obtain ⟨pp, hpp⟩ : ∃ pp, o.parts = pp := ⟨_, rfl⟩
          obtain ⟨kd, hkd⟩ : ∃ kd, o.kind = kd := ⟨_, rfl⟩
          obtain ⟨nm, hnm⟩ : ∃ nm, o.num = nm := ⟨_, rfl⟩
          obtain ⟨tx, htx⟩ : ∃ tx, o.text = tx := ⟨_, rfl⟩
          rw [hkd, hnm, htx, hpp] at hlk
          rw [hpp] at HPU HSUC
          have hfld : ∀ w, (Instr.field 33 (.agg #[.int .i64 x, .int .i64 kd, .int .i64 nm, .string tx, .slice pA pp.length pc]) 4).run Try.prog w = .ok (.slice pA pp.length pc) w := fun w => field4 _ _ _ _ _ _ _ w
          obtain ⟨Li, hLi⟩ : ∃ Li, roots ++ ltW h late i = Li := ⟨_, rfl⟩
          have HLi := Lib.hid (show roots ++ ltW h late (i + 1) = Li ++ pp by rw [HSUC.out, ← List.append_assoc, hLi])
          have HLL := Lib.hid (show Li.length + pp.length ≤ 1000000 by
            rw [← List.length_append, ← HLi.out, List.length_append]
            have := HLEN.out
            omega)
          rw [hLi] at HOi
          rw [hLi]
          have j0 : (0 : Int) ≤ (i : Int) := by omega
          have j1 : (i : Int) < (late.length : Int) := by omega
          clear hcL hlx hcx hx hk hxk hxk0 hpa hOp hkd hnm htx hpp hLi hwx HLOOK HSUC
          go_wp2_with (at_builtin; (refine wpList_append_us rfl _ _ 22 22 rfl Try.underlying22 Try.underlying22 w2.heap.size (.slice A Li.length d) Li rfl HOi.out (.slice pA pp.length pc) pp rfl HPU.out HLL.out hzi ?_; intro v5 w5 hown5 hgrow5 hat5; have HO5 := Lib.hid hown5; have HG5 := Lib.hid hgrow5; clear hown5 hgrow5 hat5))
          obtain ⟨B5, d5, hv5, _, _, _⟩ := own_any HO5.out
          rw [← HLi.out] at hv5
          subst hv5
          refine ⟨⟨i + 1, B5, d5, by omega, by go_num, rfl, ?_, ?_⟩, by simp [intOf]; omega⟩
          · have h1 := HO5.out
            rw [← HLi.out] at h1
            exact h1
          · exact below_grown HBi.out hzi HG5.out (fun g hg => (HOi.out.blk g hg).1)
        · exact absurd ⟨posO l k0, hxk0, k0, o0, hk0, rfl⟩ hno
      · have hil : i = late.length := by omega
        have HIL := Lib.hid hil
        have d0 : decide ((i : Int) < (late.length : Int)) = false := decide_eq_false (by omega)
        obtain ⟨kf, hkf, hold⟩ := old_at HOK.out
        have HOLD := Lib.hid hold
        have HKF := Lib.hid hkf
        have HCOL := Lib.hid (show Calls Try.prog 48 #[.agg #[.slice hA h.length hc, .int .i64 old, .slice lA late.length lc], .map (some mb), .slice A (roots ++ ltW h late i).length d, .slice rA roots.length rc, .int .i64 old, .slice lA late.length lc] wr (GcPost l kf late (roots ++ ltW h late i) roots (Value.slice A (roots ++ ltW h late i).length d).ownBlock wr) from by
          have hz := HZ2.out
          have hlw := (ltW_len HOK.out i hi).1
          have := collect_any h l C old kf late (roots ++ ltW h late i) roots hA lA A rA lA hc late.length lc d rc lc W1.heap.size w2.heap.size mb wr (HH.out.below HBwi.out) HOK.out.obs HOK.out.len HIi.out hzi hkf (QW.of_own HOi.out) (fun p hp => by
            rcases List.mem_append.1 hp with hp | hp
            · exact ⟨HRO.out p hp, HR64.out p hp⟩
            · exact ltW_ok HOK.out i hi p hp) (fun k o hk p hp => (HOK.out.parts k o hk p hp).1) (by rw [List.length_append]; omega) (HR.out.below HBwi.out) (fun h0 k hk e => by have h1 := HRB.out h0 k hk; have h2 := (HOi.out.blk k e).1; omega) HR64.out hrl (HL.out.below HBwi.out) (fun h0 k hk e => by have h1 := HLB.out h0 k hk; have h2 := (HOi.out.blk k e).1; omega) (late_gc HOK.out hkf hold) (by have := HLF.out; omega)
          rw [← hold] at this
          exact this)
        obtain ⟨Li, hLi⟩ : ∃ Li, roots ++ ltW h late i = Li := ⟨_, rfl⟩
        have HLi := Lib.hid hLi
        rw [hLi] at HOi HCOL
        rw [hLi]
        clear hil hkf hold hLi
        go_wp2_with fail
        refine HCOL.out.mono ?_
        rintro e w4 ⟨K, A4, c4, B4, d4, hK, rfl, ho4, hB4, hg4, hne4⟩
        have HK := Lib.hid hK
        have HO4 := Lib.hid ho4
        have HB4 := Lib.hid hB4
        have HG4 := Lib.hid hg4
        have HNE4 := Lib.hid hne4
        have hz4 := hg4.size
        have HNB := Lib.hid (show ∀ b, b < w2.heap.size → some b ≠ (Value.slice A Li.length d).ownBlock from fun b hb e => by have := (HOi.out.blk b e.symm).1; omega)
        have hxi := HBX2.out.below HBi.out
        have hfi : ∀ o, wr.frozen? ⟨w.heap.size + 1, o, none⟩ = false := fun o => (grown_frozen (grown_below (g := none) HBi.out) (by have := HZ2.out; omega) (by simp)).trans (HFZ.out o)
        have hq3 : w.heap.size + 1 < wr.heap.size := by have := HZ2.out; omega
        have hna := HNB.out (w.heap.size + 1) (by have := HZ2.out; omega)
        have y0 := (grown_cell (o := 0) hg4 hq3 hna).trans hxi.a0
        have y1 := (grown_cell (o := 1) hg4 hq3 hna).trans hxi.a1
        have y2 := (grown_cell (o := 2) hg4 hq3 hna).trans hxi.a2
        have yf0 := (grown_frozen (o := 0) hg4 hq3 hna).trans (hfi 0)
        have yf1 := (grown_frozen (o := 1) hg4 hq3 hna).trans (hfi 1)
        have yf2 := (grown_frozen (o := 2) hg4 hq3 hna).trans (hfi 2)
        have y3 : w.heap.size + 1 < w4.heap.size := by omega
        have HBW4 := Lib.hid (show Below w.heap.size w w4 from below_grown HBwi.out HBwi.out.size hg4 (fun k hk => by have h1 := (HOi.out.blk k hk).1; have := HZ2.out; omega))
        have HQZ := Lib.hid (show w.heap.size + 2 ≤ wr.heap.size by have := HZ2.out; omega)
        clear hK ho4 hB4 hg4 hne4 hxi hfi hna a0 a1 a2 a3
        go_wp2_with fail
        obtain ⟨z0, z1, z2, zg⟩ := put3_cells y0 y1 y2 (.slice A4 (flatO (gcL l kf K late)).length c4) (.int .i64 (((flatO (gcL l kf K late)).length : Nat) : Int)) (.slice none 0 0)
        have hzz : w.heap.size + 1 < (put3 w4 (w.heap.size + 1) (.slice A4 (flatO (gcL l kf K late)).length c4) (.int .i64 (((flatO (gcL l kf K late)).length : Nat) : Int)) (.slice none 0 0)).heap.size := Nat.lt_of_lt_of_le y3 zg.size
        have hRK : RK l ((posO l kf : Nat) : Int) (roots ++ ltW h late late.length) K [] := by
          have h1 := HK.out
          rw [← HLi.out, HIL.out] at h1
          exact h1
        have hq := HQZ.out
        refine bodyPost_ret (minor_results (H := w.heap.size + 1) (v5 := .slice B4 roots.length d4) (v6 := .int .i64 0) rfl rfl rfl ((keepA _ _ hzz 0).trans z0) ((keepA _ _ hzz 1).trans z1) ((keepA _ _ hzz 2).trans z2)) rfl (.inl ⟨l, kf, K, A4, c4, B4, d4, HOK.out, HKF.out, HOLD.out, HRO.out, hRK, rfl, ?_, ?_, ?_, HNE4.out⟩)
        · exact ((HO4.out.grown zg (fun k hk e => by injection e with e; have h1 := (HO4.out.blk k hk).1; omega)).alloc _).mono (by omega)
        · exact ((HB4.out.grown zg (fun k hk e => by injection e with e; have h1 := (HB4.out.blk k hk).1; omega)).alloc _).mono (by omega)
        · exact (below_grown HBW4.out HBW4.out.size zg (fun g hg => by injection hg with hg; omega)).alloc (Nat.le_trans HBW4.out.size zg.size) _
  · have HB2 := Lib.hid hb
    have HB02 := Lib.hid (HB1.out.trans (hb.mono HB1.out.size))
    have HBX2 := Lib.hid (HBOX.out.1.below hb)
    have HFZ := Lib.hid (show ∀ o, w2.frozen? ⟨w.heap.size + 1, o, none⟩ = false from fun o => (grown_frozen (grown_below (g := none) hb) (by have := HZ1.out; omega) (by simp)).trans (HBOX.out.2 o))
    obtain ⟨b0, b1, b2, b3⟩ := HBX2.out
    have f0 := HFZ.out 0
    have f1 := HFZ.out 1
    have f2 := HFZ.out 2
    have x0 : (x != 0) = true := by simpa using hx
    have HPT3 := Lib.hid (fun u0 u1 u2 => put3_cells b0 b1 b2 u0 u1 u2)
    clear hb a0 a1 a2 a3
    go_wp2_with fail
    obtain ⟨z0, z1, z2, zg⟩ := HPT3.out (.slice none 0 0) (.int .i64 0) (.slice none 0 0)
    refine bodyPost_ret (minor_results (H := w.heap.size + 1) (v5 := .slice none 0 0) (v6 := .int .i64 x) rfl rfl rfl z0 z1 z2) rfl (.inr ⟨hno, x, hx, rfl, below_grown HB02.out HB02.out.size zg (fun g hg => by injection hg with hg; omega)⟩)
end Go.Proofs.Ytkdbnkkdohkhjaa
namespace Go.Proofs.Ytkdbnkkdohkhjaa
open Go.RowKit
set_option linter.unusedVariables false
set_option maxRecDepth 100000 in
theorem step_append_us {ops : Array Oper} {o : Oper} {a : Act} {w : World} {K : Act → World → Prop} {Q : Exit → Act → World → Prop} {E : Prop} (hgd : o.guard = none) (s x : Operand) (t t' : TypeId)
    (ho : o.op = .call { callee := .builtin .append, args := #[s, x], argTypes := #[t, t'] }) (ht : Try.prog.underlying t = some (.slice 27)) (ht' : Try.prog.underlying t' = some (.slice 27)) (base : Nat) (v : Value) (l : List Nat) (hs : a.eval s = v) (hown : OwnU w base v l)
    (u : Value) (m : List Nat) (hx : a.eval x = u) (hS : Su w u m) (hl : l.length + m.length ≤ 1000000) (hbase : base ≤ w.heap.size)
    (h : ∀ v' w', OwnU w' base v' (l ++ m) → w.grownBy w' v.ownBlock → (v'.ownBlock = v.ownBlock ∨ v'.ownBlock = some w.heap.size) → K (a.put o.dst v') w') :
    if Region.wanted o (yielded ops a.tmps) = true then Oper.wp Try.prog o a w K Q else E := by
  have hw : Region.wanted o (yielded ops a.tmps) = true := by simp [Region.wanted, hgd]
  rw [if_pos hw]
  obtain ⟨v', w', hrun, h2, h3, h4⟩ := run_append_us w t o.type ht base v l hown u m hS hl hbase
  obtain ⟨A0, c0, rfl, _⟩ := own_any hown
  unfold Oper.wp execOp
  simp only [ho, resolve, invoke, builtin, Sem.run_bind, Sem.run_pure, Result.andThen_ok, List.map_toArray, List.map_cons, List.map_nil, hs, hx, append_types t t' o.type _ _ ht ht' A0 _ c0 u w, hrun]
  exact h v' w' h2 h3 h4
/-- ages and roots as they grow; the box of the ages is H + 1, that of the result H, what they own lies from H + 2 on -/
structure GS (w wr : World) (h : List Nat) (old : Int) (late : List Int) (l : List Ob) (roots : List Nat) (A : Option Addr) (c : Nat) (B : Option Addr) (d : Nat) (R : Option Addr) (rc : Nat) : Prop where
  ok : OkA h old late l
  ro : ∀ p ∈ roots, wordOk l p ∧ p < 18446744073709551616
  box : AgB wr (w.heap.size + 1) A h.length c old B late.length d
  fr : ∀ o, wr.frozen? ⟨w.heap.size + 1, o, none⟩ = false
  res : AgB wr w.heap.size none 0 0 0 none 0 0
  rf : ∀ o, wr.frozen? ⟨w.heap.size, o, none⟩ = false
  oh : OwnU wr (w.heap.size + 2) (.slice A h.length c) h
  ol : OwnI wr (w.heap.size + 2) (.slice B late.length d) late
  rr : OwnU wr (w.heap.size + 2) (.slice R roots.length rc) roots
  bel : Below w.heap.size w wr
  sz : w.heap.size + 2 ≤ wr.heap.size
def GSt (w : World) (lo hi : Nat) (x : Value) (wr : World) : Prop := ∃ h old late l roots A c B d R rc, x = .slice R roots.length rc ∧ lo ≤ roots.length ∧ roots.length ≤ hi ∧ GS w wr h old late l roots A c B d R rc
theorem GS.below {w wr wx : World} {h : List Nat} {old : Int} {late : List Int} {l : List Ob} {roots : List Nat} {A : Option Addr} {c : Nat} {B : Option Addr} {d : Nat} {R : Option Addr} {rc : Nat} (H : GS w wr h old late l roots A c B d R rc) (hb : Below wr.heap.size wr wx) : GS w wx h old late l roots A c B d R rc := by
  have h1 := H.sz
  have g := grown_below (g := none) hb
  refine ⟨H.ok, H.ro, H.box.below hb, fun o => (grown_frozen g (by omega) (by simp)).trans (H.fr o), H.res.below hb, fun o => (grown_frozen g (by omega) (by simp)).trans (H.rf o), H.oh.below hb, H.ol.below hb, H.rr.below hb, H.bel.trans (hb.mono H.bel.size), Nat.le_trans h1 hb.size⟩
theorem GS.put {w wr : World} {h h5 : List Nat} {old old5 : Int} {late late5 : List Int} {l l5 : List Ob} {roots roots5 : List Nat} {A A5 : Option Addr} {c c5 : Nat} {B B5 : Option Addr} {d d5 : Nat} {R R5 : Option Addr} {rc rc5 : Nat} (H : GS w wr h old late l roots A c B d R rc)
    (hok : OkA h5 old5 late5 l5) (hro : ∀ p ∈ roots5, wordOk l5 p ∧ p < 18446744073709551616) (oh : OwnU wr (w.heap.size + 2) (.slice A5 h5.length c5) h5) (ol : OwnI wr (w.heap.size + 2) (.slice B5 late5.length d5) late5) (rr : OwnU wr (w.heap.size + 2) (.slice R5 roots5.length rc5) roots5) :
    GS w (put3 wr (w.heap.size + 1) (.slice A5 h5.length c5) (.int .i64 old5) (.slice B5 late5.length d5)) h5 old5 late5 l5 roots5 A5 c5 B5 d5 R5 rc5 := by
  obtain ⟨z0, z1, z2, zg⟩ := put3_cells H.box.a0 H.box.a1 H.box.a2 (.slice A5 h5.length c5) (.int .i64 old5) (.slice B5 late5.length d5)
  have h1 := H.sz
  have hne : some w.heap.size ≠ some (w.heap.size + 1) := fun e => by injection e with e; omega
  refine ⟨hok, hro, ⟨z0, z1, z2, Nat.lt_of_lt_of_le (by omega) zg.size⟩, fun o => ?_, ⟨(grown_cell zg (by omega) hne).trans H.res.a0, (grown_cell zg (by omega) hne).trans H.res.a1, (grown_cell zg (by omega) hne).trans H.res.a2, Nat.lt_of_lt_of_le (by omega) zg.size⟩, fun o => (grown_frozen zg (by omega) hne).trans (H.rf o), ?_, ?_, ?_, ?_, Nat.le_trans h1 zg.size⟩
  · simp [put3, go_sem]
    exact H.fr o
  · exact oh.grown zg (fun k hk e => by injection e with e; have := (oh.blk k hk).1; omega)
  · exact ol.grown zg (fun k hk e => by injection e with e; have := (ol.blk k hk).1; omega)
  · exact rr.grown zg (fun k hk e => by injection e with e; have := (rr.blk k hk).1; omega)
  · exact below_grown H.bel H.bel.size zg (fun k hk => by injection hk with hk; omega)
theorem OkA.wfl {h : List Nat} {old : Int} {late : List Int} {l : List Ob} (H : OkA h old late l) : ∀ x ∈ late, Wf x := fun x hx => by
  obtain ⟨i, hi⟩ := List.mem_iff_getElem?.1 hx
  obtain ⟨⟨a, ha, hb⟩, _, _⟩ := H.lateOk i x hi
  have h1 := beg_lt H.obs hb
  have h2 := H.len
  exact Wf.of (by omega) (by omega)
theorem OkA.wfo {h : List Nat} {old : Int} {late : List Int} {l : List Ob} (H : OkA h old late l) : Wf old := by
  have h1 := old_le H
  have h2 := H.len
  exact Wf.of (by omega) (by omega)
theorem own_none {w : World} {base n c : Nat} {A : Option Addr} {l : List Int} (h : OwnI w base (.slice A n c) l) : A = none → n = 0 := by
  obtain ⟨A', c', hv, _, _, h3⟩ := own_any h
  injection hv with e1 e2 e3
  subst e1 e2
  exact h3
theorem grown_results {tmps : Array Value} {wz : World} {H : Nat} {u0 u1 u2 v7 v8 : Value} (t6 : tmps.getD 6 undef = .pointer (some ⟨H, 0, none⟩)) (t7 : tmps.getD 7 undef = v7) (t8 : tmps.getD 8 undef = v8)
    (z0 : wz.cell? ⟨H, 0, none⟩ = some u0) (z1 : wz.cell? ⟨H, 1, none⟩ = some u1) (z2 : wz.cell? ⟨H, 2, none⟩ = some u2) :
    (results Try.f17 tmps).run Try.prog wz = .ok (.tuple #[.agg #[u0, u1, u2], v7, v8]) wz := by
  simp only [Array.getD_eq_getD_getElem?] at t6 t7 t8
  simp [results, Try.results17, go_sem, t6, t7, t8, z0, z1, z2]
def GrPost (w : World) (e : Ending) (w' : World) : Prop := ∃ h old late l roots A c B d R rc, e = .returned (.tuple #[.agg #[.slice A h.length c, .int .i64 old, .slice B late.length d], .slice R roots.length rc, .bool true]) ∧ roots.length ≤ 8 ∧ OkA h old late l ∧ (∀ p ∈ roots, wordOk l p ∧ p < 18446744073709551616) ∧
  OwnU w' w.heap.size (.slice A h.length c) h ∧ OwnI w' w.heap.size (.slice B late.length d) late ∧ OwnU w' w.heap.size (.slice R roots.length rc) roots ∧ Below w.heap.size w w'
set_option maxHeartbeats 8000000 in
set_option maxRecDepth 100000 in
theorem grown_any (n sn mn lc sc mc : Nat) (lA sA mA : Option Addr) (arg : Nat → VT) (T0 T1 : Nat → Int) (ms : List Int) (w : World) (hV : (VT.node 0 0 ⟨#[]⟩ n arg).isV w (fun _ => True) [.int .i64 0, .int .i64 0, .string ⟨#[]⟩, .slice lA n lc]) (hw : ∀ i, i < n → (arg i).wf) (hm : ∀ i, i < n → (arg i).many ≤ 4194304) (hn : n ≤ 17592186044416)
    (hS : Rd w 2 (fun i => [.int .i64 (T0 i), .int .i64 (T1 i)]) sA sn) (hsn : sn ≤ 17592186044416) (hM : Rd w 1 (tmC (lst ms)) mA ms.length) (hmn : ms.length ≤ 17592186044416) :
    Calls Try.prog 17 #[.slice lA n lc, .slice sA sn sc, .slice mA ms.length mc] w (GrPost w) := by
  have HV := Lib.hid hV
  have HW := Lib.hid hw
  have HM := Lib.hid hm
  have HS := Lib.hid hS
  have HMI := Lib.hid hM
  clear hV hw hm hS hM
  have HG0 := Lib.hid (show GS w ((w.alloc (.cells #[.slice none 0 0, .int .i64 0, .slice none 0 0] 26)).alloc (.cells #[.slice none 0 0, .int .i64 0, .slice none 0 0] 26)) [] 0 [] [] [] none 0 none 0 none 0 from by
    have h1 := AgB.new w none 0 0 0 none 0 0 26
    have h2 := AgB.new (w.alloc (.cells #[.slice none 0 0, .int .i64 0, .slice none 0 0] 26)) none 0 0 0 none 0 0 26
    have e : (w.alloc (.cells #[.slice none 0 0, .int .i64 0, .slice none 0 0] 26)).heap.size = w.heap.size + 1 := by simp
    rw [e] at h2
    exact ⟨OkA.nil, (fun p hp => by cases hp), h2, fun o => by simp [go_sem], h1.below ((Below.refl _ _).alloc (Nat.le_refl _) _), fun o => by simp [go_sem], OwnU.nil _ _, OwnI.nil _ _, OwnU.nil _ _, ((Below.refl _ _).alloc (Nat.le_refl _) _).alloc (by simp) _, by simp⟩)
  go_enter Try.func17, Try.ntmps17
  go_upto_block 0 with (fail)
  go_cut [10] (fun x wx => GSt w 0 8 x wx)
  case first =>
    go_wp2_with fail
    go_loopw [10, 11, 12, 13, 14, 15, 16, 17, 18, 21] (fun x10 _ _ _ _ _ _ _ _ x21 wr => ∃ i : Nat, i ≤ n ∧ i ≤ 8 ∧ x21 = .int .i64 (i : Int) ∧ GSt w 0 i x10 wr) (fun _ _ _ _ _ _ _ _ _ x21 _ => n - (intOf x21).toNat)
    case atStart => exact ⟨0, Nat.zero_le _, by omega, rfl, [], 0, [], [], [], none, 0, none, 0, none, 0, rfl, by simp, by simp, HG0.out⟩
    case round =>
      obtain ⟨i, hi, hi8, rfl, h, old, late, l, roots, A, c, B, d, R, rc, rfl, -, hrl, hG⟩ := hrel
      have HG := Lib.hid hG
      by_cases hlt : i < n
      · obtain ⟨bV, oV, hlA, hbV, -, C, hC⟩ := isV_arg HV.out (by omega)
        obtain ⟨hVi, hcell⟩ := hC i hlt
        obtain ⟨k, m, s, vA, vn, vc, hCi⟩ := isV_cells hVi
        rw [hCi] at hcell hVi
        have HVI := Lib.hid (isV_below hVi hG.bel)
        have cx := fun o => hG.bel.cell (p := ⟨bV, o, none⟩) hbV
        have v0 : wr.cell? ⟨bV, oV + i * 4, none⟩ = some (.int .i64 k) := (cx _).trans (hcell 0 _ rfl)
        have v1 : wr.cell? ⟨bV, oV + i * 4 + 1, none⟩ = some (.int .i64 m) := (cx _).trans (hcell 1 _ rfl)
        have v2 : wr.cell? ⟨bV, oV + i * 4 + 2, none⟩ = some (.string s) := (cx _).trans (hcell 2 _ rfl)
        have v3 : wr.cell? ⟨bV, oV + i * 4 + 3, none⟩ = some (.slice vA vn vc) := (cx _).trans (hcell 3 _ rfl)
        have HWI := Lib.hid (HW.out i hlt)
        have HMI1 := Lib.hid (HM.out i hlt)
        subst hlA
        have j0 : (0 : Int) ≤ (i : Int) := by omega
        have j1 : (i : Int) < (n : Int) := by omega
        have hsz := hG.bel.size
        clear hG hC hVi hcell cx hCi
        by_cases h8 : i = 8
        · subst h8
          go_wp2_with fail
          go_meet
          exact ⟨h, old, late, l, roots, A, c, B, d, R, rc, rfl, by omega, hrl, HG.out.below ((Below.refl _ _).alloc (Nat.le_refl _) _)⟩
        · have d8 : decide ((8 : Int) ≤ (i : Int)) = false := decide_eq_false (by omega)
          have H8 := Lib.hid h8
          clear h8
          go_wp2_with fail
          have HB1 := Lib.hid (show Below wr.heap.size wr (wr.alloc (.cells #[.int .i64 k, .int .i64 m, .string s, .slice vA vn vc] 90)) from (Below.refl _ _).alloc (Nat.le_refl _) _)
          refine (flat_any (arg i) [.int .i64 k, .int .i64 m, .string s, .slice vA vn vc] (fun _ => True) _ (isV_below HVI.out HB1.out) HMI1.out).mono ?_
          rintro e w1 ⟨rfl, hb1⟩
          have HB2 := Lib.hid (HB1.out.trans (hb1.mono HB1.out.size))
          have hzx : wr.heap.size < w1.heap.size := Nat.lt_of_lt_of_le (by simp) hb1.size
          have cy := fun o => hb1.cell (p := ⟨wr.heap.size, o, none⟩) (by simp)
          have q0 : w1.cell? ⟨wr.heap.size, 0, none⟩ = some (.int .i64 k) := (cy 0).trans (by simp)
          have q1 : w1.cell? ⟨wr.heap.size, 1, none⟩ = some (.int .i64 m) := (cy 1).trans (by simp)
          have q2 : w1.cell? ⟨wr.heap.size, 2, none⟩ = some (.string s) := (cy 2).trans (by simp)
          have q3 : w1.cell? ⟨wr.heap.size, 3, none⟩ = some (.slice vA vn vc) := (cy 3).trans (by simp)
          have HG1 := Lib.hid (HG.out.below HB2.out)
          have HVI1 := Lib.hid (isV_below HVI.out HB2.out)
          clear hb1 cy v0 v1 v2 v3
          cases hfb : flatB (arg i) with
          | false =>
            clear hfb
            go_wp2_with fail
            go_meet
            exact ⟨h, old, late, l, roots, A, c, B, d, R, rc, rfl, by omega, by omega, HG1.out⟩
          | true =>
            have hmm : (arg i).many ≤ 500 := by
              unfold flatB at hfb
              exact (of_decide_eq_true hfb).2
            have HMM := Lib.hid hmm
            obtain ⟨a0, a1, a2, a3⟩ := HG1.out.box
            clear hfb hmm
            go_wp2_with fail
            refine (add_any h A B vA c d vn vc old late (arg i) k m s (fun _ => True) w1 (Su.of_own HG1.out.oh) HG1.out.ok.obs.all64 (by have := HG1.out.ok.len; omega) HG1.out.ol.rd (own_none HG1.out.ol) (by have := late_few HG1.out.ok; omega) HG1.out.ok.wfl HG1.out.ok.wfo HVI1.out (by have := HMM.out; omega)).mono ?_
            rintro e w2 (⟨l', g, x, A3, c3, B3, d3, hok, hr, rfl, hO, hI, hb⟩ | ⟨-, x, hx, rfl, hb⟩)
            · obtain rfl := obs_inj hok.obs HG1.out.ok.obs
              obtain ⟨r, hok2, hwx, hx64⟩ := HG1.out.ok.add HWI.out hr
              have HOK2 := Lib.hid hok2
              have HWX := Lib.hid hwx
              have HO := Lib.hid hO
              have HI := Lib.hid hI
              have HG2 := Lib.hid (HG1.out.below hb)
              have HX64 := Lib.hid hx64
              have hz2 := hb.size
              have HRB := Lib.hid (show ∀ k, (Value.slice R roots.length rc).ownBlock = some k → w.heap.size + 2 ≤ k ∧ k < w1.heap.size from HG1.out.rr.blk)
              have HZ2 := Lib.hid (show w1.heap.size ≤ w2.heap.size from hz2)
              have hs1 := HG1.out.sz
              clear hok hr hok2 hwx hO hI hx64 a0 a1 a2 a3 q0 q1 q2 q3
              go_wp2_with fail
              obtain ⟨W2, hW2⟩ : ∃ W2, W2 = w2.alloc (.cells #[.slice A3 g.length c3, .int .i64 old, .slice B3 late.length d3] 26) := ⟨_, rfl⟩
              have HBX2 := Lib.hid (show AgB W2 w2.heap.size A3 g.length c3 old B3 late.length d3 by rw [hW2]; exact AgB.new w2 A3 g.length c3 old B3 late.length d3 26)
              have HB22 := Lib.hid (show Below w2.heap.size w2 W2 by rw [hW2]; exact (Below.refl _ _).alloc (Nat.le_refl _) _)
              have HSZ2 := Lib.hid (show W2.heap.size = w2.heap.size + 1 by rw [hW2]; simp)
              rw [← hW2]
              clear hW2
              have HGW := Lib.hid (HG2.out.below HB22.out)
              have HBA := Lib.hid (show ∀ o, Below W2.heap.size W2 (W2.alloc o).drew from fun o => ((Below.refl _ _).alloc (Nat.le_refl _) _).drew)
              have HOA := Lib.hid (show ∀ o, OwnU (W2.alloc o).drew (w.heap.size + 2) (.slice R roots.length rc) roots from fun o => (HGW.out.below (HBA.out o)).rr)
              have HSA := Lib.hid (show Su (W2.alloc (.cells #[.int .u64 ((x : Nat) : Int)] 27)).drew (.slice (some ⟨W2.heap.size, 0, none⟩) 1 1) [x] from (Su.one W2 x).below ((Below.refl _ _).drew))
              obtain ⟨t0, t1, t2, t3⟩ := HBX2.out
              have hrl8 : roots.length ≤ 8 := by omega
              go_cut [10] (fun x wx => GSt w 1 (i + 1) x wx)
              case first =>
                obtain ⟨y0, y1, y2, y3⟩ := HBX2.out.below (HBA.out (.cells #[.int .u64 ((x : Nat) : Int)] 27))
                obtain ⟨p0, p1, p2, p3⟩ := (HGW.out.below (HBA.out (.cells #[.int .u64 ((x : Nat) : Int)] 27))).box
                have pf := (HGW.out.below (HBA.out (.cells #[.int .u64 ((x : Nat) : Int)] 27))).fr
                have HPF := Lib.hid pf
                have HNR := Lib.hid (show ∀ b, b = w.heap.size ∨ b = w.heap.size + 1 ∨ b = w2.heap.size → some b ≠ (Value.slice R roots.length rc).ownBlock from fun b hb e => by
                  have h1 := HRB.out b e.symm
                  have h2 := HZ2.out
                  omega)
                clear pf
                go_region_law (refine step_append_us rfl _ _ 22 22 rfl Try.underlying22 Try.underlying22 (w.heap.size + 2) (.slice R roots.length rc) roots (by simp [Act.eval]) (HOA.out _) (.slice (some ⟨W2.heap.size, 0, none⟩) 1 1) [x] (by simp [Act.eval]) HSA.out (by simp only [List.length_cons, List.length_nil]; omega) (by have := (HBA.out (.cells #[.int .u64 ((x : Nat) : Int)] 27)).size; have := HGW.out.sz; omega) ?_; intro v4 w4 hown4 hgrow4 hat4; obtain ⟨A4, c4', hv4, -, -, -⟩ := own_any hown4; subst hv4; have HO4 := Lib.hid hown4; have HG4 := Lib.hid hgrow4; have n5 := HNR.out w2.heap.size (.inr (.inr rfl)); have n1 := HNR.out (w.heap.size + 1) (.inr (.inl rfl)); have e0 := (grown_cell hgrow4 y3 n5).trans y0; have e1 := (grown_cell hgrow4 y3 n5).trans y1; have e2 := (grown_cell hgrow4 y3 n5).trans y2; have k0 := (grown_cell hgrow4 p3 n1).trans p0; have k1 := (grown_cell hgrow4 p3 n1).trans p1; have k2 := (grown_cell hgrow4 p3 n1).trans p2; have kf := fun o => (grown_frozen (o := o) hgrow4 p3 n1).trans (HPF.out o); have kf0 := kf 0; have kf1 := kf 1; have kf2 := kf 2; have HPT := Lib.hid (fun u0 u1 u2 => put3_cells k0 k1 k2 u0 u1 u2); have HKF := Lib.hid kf; clear hown4 hgrow4 hat4 n5 n1 kf)
                all_goals
                  simp only [Act.put, List.getElem_toArray, List.getElem_cons_zero, List.getElem_cons_succ, List.setIfInBounds_toArray, List.set_cons_zero, List.set_cons_succ]
                  go_wp2_with fail
                  go_meet
                  obtain ⟨z0, z1, z2, zg⟩ := HPT.out (.slice A3 g.length c3) (.int .i64 old) (.slice B3 late.length d3)
                  have hba := HBA.out (.cells #[.int .u64 ((x : Nat) : Int)] 27)
                  have hG4 := HGW.out.below hba
                  have hz4 := HG4.out.size
                  have hzb := hba.size
                  have hz0 := hG4.sz
                  have n0 := HNR.out w.heap.size (.inl rfl)
                  have hz2 := HZ2.out
                  have hsw := HSZ2.out
                  have hres : AgB w4 w.heap.size none 0 0 0 none 0 0 := ⟨(grown_cell HG4.out (by omega) n0).trans hG4.res.a0, (grown_cell HG4.out (by omega) n0).trans hG4.res.a1, (grown_cell HG4.out (by omega) n0).trans hG4.res.a2, by omega⟩
                  have hne : some w.heap.size ≠ some (w.heap.size + 1) := fun e => by injection e with e; omega
                  have hbd := HB22.out.trans (hba.mono HB22.out.size)
                  have hRb := HRB.out
                  refine ⟨g, old, late, _, roots ++ [x], A3, c3, B3, d3, A4, c4', by rw [List.length_append]; rfl, by simp, by simp; omega, HOK2.out, fun p hp => ?_, ⟨z0, z1, z2, Nat.lt_of_lt_of_le (by omega) zg.size⟩, fun o => ?_, ⟨(grown_cell zg (by omega) hne).trans hres.a0, (grown_cell zg (by omega) hne).trans hres.a1, (grown_cell zg (by omega) hne).trans hres.a2, Nat.lt_of_lt_of_le hres.lt zg.size⟩, fun o => (grown_frozen zg (by omega) hne).trans ((grown_frozen HG4.out (by omega) n0).trans (hG4.rf o)), ?_, ?_, ?_, ?_, Nat.le_trans (Nat.le_trans hz0 hz4) zg.size⟩
                  · rcases List.mem_append.1 hp with hp | hp
                    · exact ⟨wordOk_append (HG1.out.ro p hp).1, (HG1.out.ro p hp).2⟩
                    · rw [List.mem_singleton.1 hp]; exact ⟨HWX.out, HX64.out⟩
                  · simp [go_sem]
                    exact HKF.out o
                  · exact (((HO.out.below hbd).grown HG4.out (fun k hk e => by have h1 := (HO.out.blk k hk).1; have h2 := (hRb k e).2; omega)).grown zg (fun k hk e => by injection e with e; have h1 := (HO.out.blk k hk).1; omega)).mono (by omega)
                  · exact (((HI.out.below hbd).grown HG4.out (fun k hk e => by have h1 := (HI.out.blk k hk).1; have h2 := (hRb k e).2; omega)).grown zg (fun k hk e => by injection e with e; have h1 := (HI.out.blk k hk).1; omega)).mono (by omega)
                  · exact HO4.out.grown zg (fun k hk e => by injection e with e; have := (HO4.out.blk k hk).1; omega)
                  · exact below_grown (below_grown hG4.bel hG4.bel.size HG4.out (fun k hk => by have := (hRb k hk).1; omega)) (by omega) zg (fun k hk => by injection hk with hk; omega)
              case rest =>
              obtain ⟨h', old', late', l', roots', A', c', B', d', R', rc', rfl, hr1, hr2, hGC⟩ := hcut
              have HGC := Lib.hid hGC
              clear hGC t0 t1 t2 t3
              go_upto_if 50 with (fail)
              go_cut [10] (fun x wx => GSt w 1 (i + 1) x wx)
              case first =>
                by_cases hsn' : i < sn
                · have d50 : decide ((i : Int) < (sn : Int)) = true := decide_eq_true (by omega)
                  obtain ⟨bS, oS, rfl, hbS, hcS⟩ := HS.out (by omega)
                  have s0 : w.cell? ⟨bS, oS + i * 2, none⟩ = some (.int .i64 (T0 i)) := hcS i hsn' 0 _ rfl
                  have s1 : w.cell? ⟨bS, oS + i * 2 + 1, none⟩ = some (.int .i64 (T1 i)) := hcS i hsn' 1 _ rfl
                  have u0 := (HGC.out.bel.cell (p := ⟨bS, oS + i * 2, none⟩) hbS).trans s0
                  have u1 := (HGC.out.bel.cell (p := ⟨bS, oS + i * 2 + 1, none⟩) hbS).trans s1
                  have j2 : (i : Int) < (sn : Int) := by omega
                  have HKS := Lib.hid (fun (W : World) (hb : Below wc.heap.size wc W) => kset_any h' roots' A' B' R' c' d' rc' old' late' l' (w.heap.size + 2) (T0 i) (T1 i) W HGC.out.ok (fun p hp => (HGC.out.ro p hp).1) (HGC.out.below hb).oh (HGC.out.below hb).ol (HGC.out.below hb).sz (Su.of_own (HGC.out.below hb).rr) (fun p hp => (HGC.out.ro p hp).2) hr1 (by omega))
                  have HDD := Lib.hid (show Below wc.heap.size wc wc.drew from (Below.refl _ _).drew)
                  obtain ⟨a0, a1, a2, a3⟩ := HGC.out.box
                  obtain ⟨g0, g1, g2, g3⟩ := HGC.out.box.below HDD.out
                  have w0 : wc.drew.cell? ⟨bS, oS + i * 2, none⟩ = some (.int .i64 (T0 i)) := u0
                  have w1' : wc.drew.cell? ⟨bS, oS + i * 2 + 1, none⟩ = some (.int .i64 (T1 i)) := u1
                  clear s0 s1 hcS
                  go_wp2_with fail
                  go_region_with (first | (go_at_call 46; refine (HKS.out wc.drew HDD.out).mono ?_; rintro e w5 ⟨h5, late5, l5, A5, c5, B5, d5, hok5, hm5, rfl, hO5, hI5, hb5⟩; have HOK5 := Lib.hid hok5; have HM5 := Lib.hid hm5; have HO5 := Lib.hid hO5; have HI5 := Lib.hid hI5; have HB5 := Lib.hid (HDD.out.trans (hb5.mono HDD.out.size)); obtain ⟨k0, k1, k2, k3⟩ := HGC.out.box.below HB5.out; have kf := (HGC.out.below HB5.out).fr; have kf0 := kf 0; have kf1 := kf 1; have kf2 := kf 2; have HPT := Lib.hid (fun u0 u1 u2 => put3_cells k0 k1 k2 u0 u1 u2); clear hok5 hm5 hO5 hI5 hb5 kf))
                  all_goals
                    go_wp2_with fail
                    go_meet
                    have hGC5 := HGC.out.below HB5.out
                    have hdz : wc.drew.heap.size = wc.heap.size := rfl
                    exact ⟨h5, old', late5, l5, roots', A5, c5, B5, d5, R', rc', rfl, hr1, hr2, hGC5.put HOK5.out (fun p hp => ⟨HM5.out p (HGC.out.ro p hp).1, (HGC.out.ro p hp).2⟩) HO5.out HI5.out hGC5.rr⟩
                · have d50 : decide ((i : Int) < (sn : Int)) = false := decide_eq_false (by omega)
                  go_wp2_with fail
                  go_meet
                  exact ⟨h', old', late', l', roots', A', c', B', d', R', rc', rfl, hr1, hr2, HGC.out⟩
              case rest =>
              obtain ⟨h1, old1, late1, l1, roots1, A1, c1, B1, d1, R1, rc1, rfl, hr3, hr4, hGC1⟩ := hcut
              have HG6 := Lib.hid hGC1
              have HCT := Lib.hid (containsI_any mA ms.length mc (lst ms) (i : Int) wc (by omega) (HMI.out.below HG6.out.bel))
              rw [any_lst] at HCT
              clear hGC1
              by_cases hmi : (i : Int) ∈ ms
              · rw [decide_eq_true hmi] at HCT
                clear hmi
                go_wp2_with fail
                refine HCT.out.mono ?_
                rintro e w6 ⟨rfl, rfl⟩
                obtain ⟨a0, a1, a2, a3⟩ := HG6.out.box
                go_wp2_with fail
                refine (minor_any h1 roots1 A1 B1 R1 c1 d1 rc1 old1 late1 wc (Su.of_own HG6.out.oh) HG6.out.ok.obs.all64 (by have := HG6.out.ok.len; omega) HG6.out.ol.rd (by have := late_few HG6.out.ok; omega) HG6.out.ok.wfl HG6.out.ok.wfo (Su.of_own HG6.out.rr) (fun p hp => (HG6.out.ro p hp).2) (by omega)).mono ?_
                rintro e w7 (⟨l2, kf, K, A7, c7, B7, d7, hok, hkf, hold, hro, hRK, rfl, hO7, hB7, hb7, hne7⟩ | ⟨hno, -⟩)
                rotate_left
                · exact (hno ⟨l1, HG6.out.ok, fun p hp => (HG6.out.ro p hp).1⟩).elim
                obtain ⟨hgc, hsafe⟩ := minor_gc hok hkf hold hro hRK
                have HGK := Lib.hid (gc_ok hgc)
                have HGR := Lib.hid (show ∀ p ∈ roots1.map (mv (gcP l2 kf K)), wordOk (gcL l2 kf K late1) p ∧ p < 18446744073709551616 from fun p hp => ⟨gc_roots hgc hsafe p hp, by
                  obtain ⟨q, hq, rfl⟩ := List.mem_map.1 hp
                  exact mv_lt (gcP_lt hgc) (HG6.out.ro q hq).2⟩)
                have HO7 := Lib.hid hO7
                have HB7 := Lib.hid hB7
                have hgl : (gcL l2 kf K late1).length = (gcL l2 kf K late1).length := rfl
                obtain ⟨L7, hL7⟩ : ∃ L7, gcL l2 kf K late1 = L7 := ⟨_, rfl⟩
                rw [hL7] at HGK HGR HO7 ⊢
                have HRL := Lib.hid (show (roots1.map (mv (gcP l2 kf K))).length = roots1.length by simp)
                obtain ⟨rs, hrs⟩ : ∃ rs, roots1.map (mv (gcP l2 kf K)) = rs := ⟨_, rfl⟩
                rw [hrs] at HGR HB7 HRL
                obtain ⟨fl7, hfl7⟩ : ∃ fl7, flatO L7 = fl7 := ⟨_, rfl⟩
                rw [hfl7] at HGK HO7 ⊢
                have HG7 := Lib.hid (HG6.out.below hb7)
                have hz7 := hb7.size
                obtain ⟨g0, g1, g2, g3⟩ := HG7.out.box
                have gf := HG7.out.fr
                have gf0 := gf 0
                have gf1 := gf 1
                have gf2 := gf 2
                have hs7 := HG7.out.sz
                have hs6 := HG6.out.sz
                clear hok hkf hold hro hRK hO7 hB7 hb7 hne7 hgc hsafe hgl hL7 hrs hfl7 gf a0 a1 a2 a3
                go_wp2_with fail
                go_roundw
                case rel =>
                  have hb0 := HRL.out
                  refine ⟨i + 1, by omega, by have := H8.out; omega, by go_num, fl7, _, [], L7, rs, A7, c7, none, 0, B7, d7, by rw [hb0], by omega, by omega, (HG7.out.put HGK.out HGR.out (HO7.out.mono (by omega)) (OwnI.nil _ _) (show OwnU w7 (w.heap.size + 2) (.slice B7 rs.length d7) rs from by rw [hb0]; exact HB7.out.mono (by omega))).below ((Below.refl _ _).alloc (Nat.le_refl _) _)⟩
                case measure => simp [intOf]; omega
              · rw [decide_eq_false hmi] at HCT
                clear hmi
                go_wp2_with fail
                refine HCT.out.mono ?_
                rintro e w6 ⟨rfl, rfl⟩
                go_wp2_with fail
                go_roundw
                case rel => exact ⟨i + 1, by omega, by have := H8.out; omega, by go_num, h1, old1, late1, l1, roots1, A1, c1, B1, d1, R1, rc1, rfl, by omega, hr4, HG6.out⟩
                case measure => simp [intOf]; omega
            · have HG2 := Lib.hid (HG1.out.below hb)
              have x0 : (x != 0) = true := by simpa using hx
              clear hx hb a0 a1 a2 a3 q0 q1 q2 q3
              go_wp2_with fail
              go_roundw
              case rel => exact ⟨i + 1, by omega, by have := H8.out; omega, by go_num, h, old, late, l, roots, A, c, B, d, R, rc, rfl, by omega, by omega, HG2.out.below ((Below.refl _ _).alloc (Nat.le_refl _) _)⟩
              case measure => simp [intOf]; omega
      · go_wp2_with fail
        go_meet
        exact ⟨h, old, late, l, roots, A, c, B, d, R, rc, rfl, by omega, by omega, HG.out⟩
  case rest =>
    obtain ⟨h, old, late, l, roots, A, c, B, d, R, rc, rfl, -, hrl, hG⟩ := hcut
    have HG := Lib.hid hG
    obtain ⟨a0, a1, a2, a3⟩ := hG.box
    obtain ⟨b0, b1, b2, b3⟩ := hG.res
    have f := hG.rf
    have f0 := f 0
    have f1 := f 1
    have f2 := f 2
    have HPT := Lib.hid (fun u0 u1 u2 => put3_cells b0 b1 b2 u0 u1 u2)
    clear hG f
    go_wp2_with fail
    obtain ⟨z0, z1, z2, zg⟩ := HPT.out (.slice A h.length c) (.int .i64 old) (.slice B late.length d)
    have hs := HG.out.sz
    refine bodyPost_ret (grown_results (H := w.heap.size) (v7 := .slice R roots.length rc) (v8 := .bool true) rfl rfl rfl z0 z1 z2) rfl ⟨h, old, late, l, roots, A, c, B, d, R, rc, rfl, hrl, HG.out.ok, HG.out.ro, ?_, ?_, ?_, ?_⟩
    · exact (HG.out.oh.grown zg (fun k hk e => by injection e with e; have := (HG.out.oh.blk k hk).1; omega)).mono (by omega)
    · exact (HG.out.ol.grown zg (fun k hk e => by injection e with e; have := (HG.out.ol.blk k hk).1; omega)).mono (by omega)
    · exact (HG.out.rr.grown zg (fun k hk e => by injection e with e; have := (HG.out.rr.blk k hk).1; omega)).mono (by omega)
    · exact below_grown HG.out.bel HG.out.bel.size zg (fun k hk => by injection hk with hk; omega)
end Go.Proofs.Ytkdbnkkdohkhjaa
namespace Go.Proofs.Ytkdbnkkdohkhjaa
open Go.RowKit
set_option linter.unusedVariables false
/-- what a collection of ages yields -/
structure GcRes (h roots h5 rs : List Nat) (L : List Ob) (f : Nat → Nat) : Prop where
  ok : OkA h5 ((h5.length : Nat) : Int) [] L
  map : rs = roots.map f
  len : rs.length = roots.length
  ro : ∀ p ∈ rs, wordOk L p ∧ p < 18446744073709551616
  fit : h5.length ≤ h.length
  reads : ∀ (d p : Nat) (left : Int), p ∈ roots → ldv h5 d (f p) left = ldv h d p left
def GcNice (h roots : List Nat) (P : List Nat → List Ob → (Nat → Nat) → Prop) (w : World) (e : Ending) (w' : World) : Prop := ∃ h5 rs L f A c B d, GcRes h roots h5 rs L f ∧ P h5 L f ∧
  e = .returned (.tuple #[.agg #[.slice A h5.length c, .int .i64 ((h5.length : Nat) : Int), .slice none 0 0], .slice B rs.length d, .int .i64 0]) ∧ OwnU w' w.heap.size (.slice A h5.length c) h5 ∧ OwnU w' w.heap.size (.slice B rs.length d) rs ∧ Below w.heap.size w w'
theorem gc_res {h roots : List Nat} {l : List Ob} {kf : Nat} {lt : List Int} {K : List Nat} (hh : h = flatO l) (G : GcOk l kf lt K) (hs : ∀ p ∈ roots, SafeW l kf K p) (h64 : ∀ p ∈ roots, p < 18446744073709551616) : GcRes h roots (flatO (gcL l kf K lt)) (roots.map (mv (gcP l kf K))) (gcL l kf K lt) (mv (gcP l kf K)) := by
  refine ⟨gc_ok G, rfl, by simp, fun p hp => ⟨gc_roots G hs p hp, ?_⟩, by rw [hh]; exact gcL_fit G, fun d p left hp => by rw [hh]; exact gc_reads G d p left (hs p hp)⟩
  obtain ⟨q, hq, rfl⟩ := List.mem_map.1 hp
  exact mv_lt (gcP_lt G) (h64 q hq)
/-- what a major collection of all yields -/
def MajOf (l : List Ob) (roots : List Nat) (h5 : List Nat) (L : List Ob) (f : Nat → Nat) : Prop := ∃ K, GcOk l 0 [] K ∧ (∀ p ∈ roots, SafeW l 0 K p) ∧ RK l 0 roots K [] ∧ h5 = flatO (gcL l 0 K []) ∧ L = gcL l 0 K [] ∧ f = mv (gcP l 0 K)
theorem majOf_twice {l L L2 : List Ob} {roots h5 h6 : List Nat} {f g : Nat → Nat} (H : MajOf l roots h5 L f) (H2 : MajOf L (roots.map f) h6 L2 g) : h6.length = h5.length := by
  obtain ⟨K, G, hs, R, rfl, rfl, rfl⟩ := H
  obtain ⟨K2, G2, hs2, R2, rfl, rfl, rfl⟩ := H2
  exact twice_len G R hs R2
theorem majOf_none {l L : List Ob} {h5 : List Nat} {f : Nat → Nat} (H : MajOf l [] h5 L f) : h5 = [] := by
  obtain ⟨K, G, hs, R, rfl, rfl, rfl⟩ := H
  exact major_none R
def MinOf (h : List Nat) (old : Int) (late : List Int) (h5 : List Nat) (L : List Ob) (f : Nat → Nat) : Prop := old = ((h.length : Nat) : Int) → late = [] → h5 = h ∧ ∀ p, f p = p
theorem major_nice (h roots : List Nat) (hA lA rA : Option Addr) (hc lc rc : Nat) (old : Int) (late : List Int) (l : List Ob) (w : World) (hok : OkA h old late l) (hro : ∀ p ∈ roots, wordOk l p ∧ p < 18446744073709551616) (hH : Su w (.slice hA h.length hc) h) (hL : Rd w 1 (tmC (lst late)) lA late.length) (hR : Su w (.slice rA roots.length rc) roots) (hrl : roots.length ≤ 100000) :
    Calls Try.prog 19 #[.agg #[.slice hA h.length hc, .int .i64 old, .slice lA late.length lc], .slice rA roots.length rc] w (GcNice h roots (MajOf l roots) w) := by
  refine (major_any h roots hA lA rA hc lc rc old late w hH hok.obs.all64 (by have := hok.len; omega) hL (by have := late_few hok; omega) hok.wfl hok.wfo hR (fun p hp => (hro p hp).2) hrl).mono ?_
  rintro e w' (⟨l2, K, A, c, B, d, hok2, hro2, hRK, rfl, hO, hB, hb, hne⟩ | ⟨hno, -⟩)
  · obtain rfl := obs_inj hok2.obs hok.obs
    obtain ⟨G, hs⟩ := major_gc hok hro2 hRK
    refine ⟨_, _, _, _, A, c, B, d, gc_res hok.obs.1 G hs (fun p hp => (hro p hp).2), ⟨K, G, hs, hRK, rfl, rfl, rfl⟩, by rw [List.length_map], hO, by rw [List.length_map]; exact hB, hb⟩
  · exact (hno ⟨l, hok, fun p hp => (hro p hp).1⟩).elim
theorem minor_nice (h roots : List Nat) (hA lA rA : Option Addr) (hc lc rc : Nat) (old : Int) (late : List Int) (l : List Ob) (w : World) (hok : OkA h old late l) (hro : ∀ p ∈ roots, wordOk l p ∧ p < 18446744073709551616) (hH : Su w (.slice hA h.length hc) h) (hL : Rd w 1 (tmC (lst late)) lA late.length) (hR : Su w (.slice rA roots.length rc) roots) (hrl : roots.length ≤ 100000) :
    Calls Try.prog 18 #[.agg #[.slice hA h.length hc, .int .i64 old, .slice lA late.length lc], .slice rA roots.length rc] w (GcNice h roots (MinOf h old late) w) := by
  refine (minor_any h roots hA lA rA hc lc rc old late w hH hok.obs.all64 (by have := hok.len; omega) hL (by have := late_few hok; omega) hok.wfl hok.wfo hR (fun p hp => (hro p hp).2) hrl).mono ?_
  rintro e w' (⟨l2, kf, K, A, c, B, d, hok2, hkf, hold, hro2, hRK, rfl, hO, hB, hb, hne⟩ | ⟨hno, -⟩)
  · obtain rfl := obs_inj hok2.obs hok.obs
    obtain ⟨G, hs⟩ := minor_gc hok hkf hold hro2 hRK
    refine ⟨_, _, _, _, A, c, B, d, gc_res hok.obs.1 G hs (fun p hp => (hro p hp).2), fun e1 e2 => ?_, by rw [List.length_map], hO, by rw [List.length_map]; exact hB, hb⟩
    subst e2
    exact minor_old hok.obs hkf (by rw [← e1, hold]) hRK
  · exact (hno ⟨l, hok, fun p hp => (hro p hp).1⟩).elim
end Go.Proofs.Ytkdbnkkdohkhjaa
namespace Go.Proofs.Ytkdbnkkdohkhjaa
open Go.RowKit Go.ChangeShapes Go.WideShapes Go.Deep
set_option linter.unusedVariables false
section
variable {H : Type} {enc : TypeId × Value → H} {W : World} {base : Nat} {p : List MemPlace} {d : DataW H}
theorem len_bulk {E : Nat → DataW H} {n N : Nat} (h : sumTo (fun i => Rows.uptoBulk (E i)) n + 1 ≤ N) : n + 1 ≤ N := by
  have h1 := len_sumTo (g := fun i => Rows.uptoBulk (E i)) (n := n) (fun i _ => bulk_one (E i))
  omega
set_option maxRecDepth 100000 in
/-- words that are read as data -/
theorem open_words {t fuel : Nat} {cs : List Value} {x : DataW H × List MemPlace} (ht : Try.prog.underlying t = some (.slice 27)) (h : DataW.trod enc Try.prog W 0 (fun _ => true) true fuel t cs = some x) :
    ∃ (A : Option Addr) (c : Nat) (l : List Nat), cs = [.slice A l.length c] ∧ Su W (.slice A l.length c) l ∧ All64 l ∧ l.length + 1 ≤ Rows.uptoBulk x.1 := by
  obtain ⟨A, n, c, C, E, e3, hnc, hcm, hA, hR, hlenC, hel, hbulk⟩ := open_rows_bulk (sz := 1) ht (by kernel_rfl) (by omega) h
  have hvi : ∀ j, ∃ z : Nat, j < n → C j = [.int .u64 (z : Int)] ∧ z < 18446744073709551616 := fun j => by
    by_cases hj : j < n
    · obtain ⟨m, pl, _, hy⟩ := hel j hj
      obtain ⟨z, e, _, hw⟩ := DataW.trod_int Try.underlying27 hy
      simp [Lit.wf, IntKind.min, IntKind.max, IntKind.signed, IntKind.bits] at hw
      exact ⟨z.toNat, fun _ => ⟨by rw [e]; congr 2; omega, by omega⟩⟩
    · exact ⟨0, fun h => absurd h hj⟩
  obtain ⟨Z, hZ⟩ := Classical.axiomOfChoice hvi
  have hl : ((List.range n).map Z).length = n := by simp
  have hb := len_bulk hbulk
  refine ⟨A, c, (List.range n).map Z, by rw [hl]; exact e3, ⟨A, c, rfl, by omega, hcm, fun h => by rw [hl]; exact hA h, fun h1 => ?_⟩, fun x hx => ?_, by rw [hl]; exact hb⟩
  · rw [hl] at h1 ⊢
    obtain ⟨b, off, e1, e2, e4⟩ := hR h1
    refine ⟨b, off, e1, e2, fun k hk j u hu => e4 k hk j u ?_⟩
    have : uC (nth ((List.range n).map Z)) k = C k := by
      unfold uC
      rw [(hZ k hk).1]
      simp [nth, hk]
    rw [this] at hu
    exact hu
  · obtain ⟨j, hj, rfl⟩ := List.mem_map.1 hx
    exact (hZ j (List.mem_range.1 hj)).2
set_option maxRecDepth 100000 in
theorem open_heapU {v : Value} (k0 : Value.okWide Try.prog W .any base 23 v) (h0 : DataW.Trod enc Try.prog W 0 (fun _ => true) true 23 v d p) :
    ∃ (A : Option Addr) (c : Nat) (h : List Nat), v = .slice A h.length c ∧ Su W (.slice A h.length c) h ∧ All64 h ∧ h.length + 1 ≤ Rows.uptoBulk d := by
  obtain ⟨a0, l0, cp0, rfl⟩ := okWide_slice Try.underlying23 k0
  obtain ⟨fuel, hf⟩ := h0
  obtain ⟨A, c, l, hcs, h1, h2, h3⟩ := open_words Try.underlying23 hf
  exact ⟨A, c, l, by simpa [Value.cells] using hcs, h1, h2, h3⟩
set_option maxRecDepth 100000 in
/-- an object that is read as data -/
theorem open_obj {v : Value} (k0 : Value.okWide Try.prog W .any base 33 v) (h0 : DataW.Trod enc Try.prog W 0 (fun _ => true) true 33 v d p) :
    ∃ (a : Int) (o : Ob) (pA : Option Addr) (pc : Nat), v = .agg #[.int .i64 a, .int .i64 o.kind, .int .i64 o.num, .string o.text, .slice pA o.parts.length pc] ∧ Su W (.slice pA o.parts.length pc) o.parts ∧ All64 o.parts ∧ (-9223372036854775808 ≤ o.num ∧ o.num < 9223372036854775808) ∧ o.parts.length + 1 ≤ Rows.uptoBulk d := by
  obtain ⟨⟨cs⟩, rfl, _⟩ := okWide_struct Try.underlying33 k0
  clear k0
  obtain ⟨fuel, hf⟩ := h0
  have hf : DataW.trod enc Try.prog W 0 (fun _ => true) true fuel 33 cs = some (d, p) := hf
  obtain ⟨xs, n, hfu, hx, hlen, hxl, hfl⟩ := trod_fields_all Try.underlying33 (by kernel_rfl) hf
  have hl5 : cs.length = 5 := hlen.trans (by kernel_rfl)
  have hx5 : xs.length = 5 := hxl
  match cs, hl5, xs, hx5 with
  | [c0, c1, c2, c3, c4], _, [x0, x1, x2, x3, x4], _ =>
    obtain ⟨y0, f0, h0⟩ := hfl 0 _ c0 rfl rfl
    obtain ⟨y1, f1, h1⟩ := hfl 1 _ c1 rfl rfl
    obtain ⟨y2, f2, h2⟩ := hfl 2 _ c2 rfl rfl
    obtain ⟨y3, f3, h3⟩ := hfl 3 _ c3 rfl rfl
    obtain ⟨y4, f4, h4⟩ := hfl 4 _ c4 rfl rfl
    simp at f0 f1 f2 f3 f4
    subst f0 f1 f2 f3 f4
    obtain ⟨z0, e0, _, _⟩ := DataW.trod_int Try.underlying3 h0
    obtain ⟨z1, e1, _, _⟩ := DataW.trod_int Try.underlying3 h1
    obtain ⟨z2, e2, _, hw2⟩ := DataW.trod_int Try.underlying3 h2
    obtain ⟨s, e3, _, _⟩ := DataW.trod_string Try.underlying9 h3
    obtain ⟨A, c, l, e4, g1, g2, g3⟩ := open_words Try.underlying22 h4
    simp at e0 e1 e2 e3 e4
    subst e0 e1 e2 e3 e4
    simp [Lit.wf, IntKind.min, IntKind.max, IntKind.signed, IntKind.bits] at hw2
    refine ⟨z0, ⟨z1, z2, s, l⟩, A, c, ?_, g1, g2, ⟨by show -9223372036854775808 ≤ z2; omega, by show z2 < 9223372036854775808; omega⟩, ?_⟩
    · rfl
    · rw [show d = (d, p).1 from rfl, hx]
      simp only [List.map, Rows.uptoBulk, Rows.uptoBulkAll]
      omega
set_option maxRecDepth 100000 in
/-- a value that is read as data -/
theorem open_val1W {v : Value} (k0 : Value.okWide Try.prog W .any base 90 v) (h0 : DataW.Trod enc Try.prog W 0 (fun _ => true) true 90 v d p) :
    ∃ (t : VT) (k m : Int) (s : ByteArray) (A : Option Addr) (n c : Nat), v = .agg #[.int .i64 k, .int .i64 m, .string s, .slice A n c] ∧ t.isV W (fun _ => True) [.int .i64 k, .int .i64 m, .string s, .slice A n c] ∧ t.many ≤ Rows.uptoBulk d ∧ t.wf := by
  obtain ⟨⟨cs⟩, rfl, _⟩ := okWide_struct Try.underlying90 k0
  obtain ⟨fuel, hf⟩ := h0
  have hf : DataW.trod enc Try.prog W 0 (fun _ => true) true fuel 90 cs = some (d, p) := hf
  obtain ⟨t, h1, h2, h3⟩ := open_valW _ _ _ hf
  obtain ⟨k, m, s, A, n, c, rfl⟩ := isV_cells h1
  exact ⟨t, k, m, s, A, n, c, rfl, h1, h2, h3⟩
end
theorem bulk_three {H : Type} {d0 d1 d2 : DataW H} (hk : Rows.uptoSmall H [d0, d1, d2] = true) : Rows.uptoBulk d0 ≤ 1048576 ∧ Rows.uptoBulk d1 ≤ 1048576 ∧ Rows.uptoBulk d2 ≤ 1048576 := by
  have h := of_decide_eq_true hk
  simp only [Rows.uptoBulkAll] at h
  omega
end Go.Proofs.Ytkdbnkkdohkhjaa
namespace Go.Proofs.Ytkdbnkkdohkhjaa
open Go.RowKit Go.ChangeShapes Go.WideShapes Go.Deep
set_option linter.unusedVariables false
section
variable {H : Type} {enc : TypeId × Value → H} {W : World} {base : Nat} {v : Value} {p : List MemPlace} {d : DataW H}
theorem bulk_le {E : Nat → DataW H} {n N i : Nat} (h : sumTo (fun i => Rows.uptoBulk (E i)) n + 1 ≤ N) (hi : i < n) : Rows.uptoBulk (E i) ≤ N := by
  have := le_sumTo (g := fun i => Rows.uptoBulk (E i)) hi
  omega
set_option maxRecDepth 100000 in
theorem open_vals (k0 : Value.okWide Try.prog W .any base 44 v) (h0 : DataW.Trod enc Try.prog W 0 (fun _ => true) true 44 v d p) :
    ∃ (A : Option Addr) (n c : Nat) (F : Nat → VT), v = .slice A n c ∧ (VT.node 0 0 ⟨#[]⟩ n F).isV W (fun _ => True) [.int .i64 0, .int .i64 0, .string ⟨#[]⟩, .slice A n c] ∧ (∀ i, i < n → (F i).wf) ∧ (∀ i, i < n → (F i).many ≤ Rows.uptoBulk d) ∧ n + 1 ≤ Rows.uptoBulk d := by
  obtain ⟨a0, l0, cp0, rfl⟩ := okWide_slice Try.underlying44 k0
  obtain ⟨fuel, hf⟩ := h0
  obtain ⟨A, n, c, C, E, hcs, hnc, hcm, hA, hR, hlen, hel, hbulk⟩ := open_rows_bulk Try.underlying44 (sz := 4) (by kernel_rfl) (by omega) hf
  have hv : Value.slice a0 l0 cp0 = .slice A n c := by simpa [Value.cells] using hcs
  have hch : ∀ i, ∃ t : VT, i < n → t.isV W (fun _ => True) (C i) ∧ t.many ≤ Rows.uptoBulk (E i) ∧ t.wf := fun i => by
    by_cases hi : i < n
    · obtain ⟨m, pl, hm, ht⟩ := hel i hi
      obtain ⟨t, h5, h6⟩ := open_valW m (C i) _ ht
      exact ⟨t, fun _ => ⟨h5, h6⟩⟩
    · exact ⟨.none, fun h => absurd h hi⟩
  obtain ⟨F, hF⟩ := Classical.axiomOfChoice hch
  refine ⟨A, n, c, F, hv, ⟨A, c, rfl, hnc, hcm, hA, fun h0 => ?_⟩, fun i hi => (hF i hi).2.2, fun i hi => Nat.le_trans (hF i hi).2.1 (bulk_le hbulk hi), len_bulk hbulk⟩
  obtain ⟨b, off, hAb, hb, hcell⟩ := hR h0
  exact ⟨b, off, hAb, hb, trivial, C, fun i hi => ⟨(hF i hi).1, hcell i hi⟩⟩
set_option maxRecDepth 100000 in
theorem open_pairs (k0 : Value.okWide Try.prog W .any base 45 v) (h0 : DataW.Trod enc Try.prog W 0 (fun _ => true) true 45 v d p) :
    ∃ (A : Option Addr) (n c : Nat) (T0 T1 : Nat → Int), v = .slice A n c ∧ Rd W 2 (fun i => [.int .i64 (T0 i), .int .i64 (T1 i)]) A n ∧ n + 1 ≤ Rows.uptoBulk d := by
  obtain ⟨a0, l0, cp0, rfl⟩ := okWide_slice Try.underlying45 k0
  obtain ⟨fuel, hf⟩ := h0
  obtain ⟨A, n, c, C, E, hcs, hnc, hcm, hA, hR, hlen, hel, hbulk⟩ := open_rows_bulk Try.underlying45 (sz := 2) (by kernel_rfl) (by omega) hf
  have hv : Value.slice a0 l0 cp0 = .slice A n c := by simpa [Value.cells] using hcs
  have hall : ∀ i, ∃ q : Int × Int, i < n → C i = [.int .i64 q.1, .int .i64 q.2] := fun i => by
    by_cases hi : i < n
    · obtain ⟨m, pl, hm, hy⟩ := hel i hi
      obtain ⟨xs, m2, _, _, _, hxl, hg⟩ := DataW.trod_array Try.underlying99 hy
      have h1 : Try.prog.cellsOf 3 = 1 := by kernel_rfl
      rw [h1] at hg
      match hC : C i, hlen i with
      | [u0, u1], _ =>
        rw [hC] at hg
        have key : ∀ j (u : Value), j < 2 → ([u0, u1].drop (j * 1)).take 1 = [u] → ∃ z : Int, u = .int .i64 z := fun j u hj hu => by
          have h2 := hg j hj
          rw [hu, List.getElem?_eq_getElem (by omega)] at h2
          obtain ⟨z, e, _⟩ := DataW.trod_int Try.underlying3 h2
          simp at e
          exact ⟨z, e⟩
        obtain ⟨z0, rfl⟩ := key 0 u0 (by omega) rfl
        obtain ⟨z1, rfl⟩ := key 1 u1 (by omega) rfl
        exact ⟨⟨z0, z1⟩, fun _ => rfl⟩
    · exact ⟨⟨0, 0⟩, fun h => absurd h hi⟩
  obtain ⟨Z, hZ⟩ := Classical.axiomOfChoice hall
  exact ⟨A, n, c, fun i => (Z i).1, fun i => (Z i).2, hv, hR.congr fun k hk => hZ k hk, len_bulk hbulk⟩
set_option maxRecDepth 100000 in
theorem open_intsU (k0 : Value.okWide Try.prog W .any base 24 v) (h0 : DataW.Trod enc Try.prog W 0 (fun _ => true) true 24 v d p) :
    ∃ (A : Option Addr) (l : List Int) (c : Nat), v = .slice A l.length c ∧ Rd W 1 (tmC (lst l)) A l.length ∧ l.length + 1 ≤ Rows.uptoBulk d := by
  obtain ⟨a0, l0, cp0, rfl⟩ := okWide_slice Try.underlying24 k0
  obtain ⟨fuel, hf⟩ := h0
  obtain ⟨A, n, c, C, E, hcs, hnc, hcm, hA, hR, hlen, hel, hbulk⟩ := open_rows_bulk Try.underlying24 (sz := 1) (by kernel_rfl) (by omega) hf
  have hv : Value.slice a0 l0 cp0 = .slice A n c := by simpa [Value.cells] using hcs
  have hvi : ∀ j, ∃ z : Int, j < n → C j = [.int .i64 z] := fun j => by
    by_cases hj : j < n
    · obtain ⟨m, pl, hm, hy⟩ := hel j hj
      obtain ⟨z, e, _, _⟩ := DataW.trod_int Try.underlying3 hy
      exact ⟨z, fun _ => e⟩
    · exact ⟨0, fun h => absurd h hj⟩
  obtain ⟨Z, hZ⟩ := Classical.axiomOfChoice hvi
  refine ⟨A, fl Z n, c, by rw [fl_len]; exact hv, ?_, by rw [fl_len]; exact len_bulk hbulk⟩
  rw [fl_len]
  refine hR.congr fun k hk => ?_
  unfold tmC lst
  rw [hZ k hk, List.getD_eq_getElem?_getD, fl_get _ hk]
  rfl
end
end Go.Proofs.Ytkdbnkkdohkhjaa
