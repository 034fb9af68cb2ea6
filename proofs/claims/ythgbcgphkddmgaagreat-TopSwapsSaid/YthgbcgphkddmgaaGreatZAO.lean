/- A node's actors: one turned, one more, one less. Rows of links as lists: Watch, Link, Linked, Gone, Add, None. Rows of links stay right; Add, None, change. A node as one: what its methods' walks need. Numbers of the machine, and kinds, throughout a run. -/
import Derived.Test.YthgbcgphkddmgaaGreatZAN
namespace Go.Proofs.YthgbcgphkddmgaaGreat
open Go.RowKit
set_option linter.unusedVariables false
set_option linter.unusedSimpArgs false
section
variable {N : NdS}
theorem find_some {r : Int} {a : ActS} (h : N.find r = some a) : a ∈ N.acts ∧ a.ref = r := by
  unfold NdS.find at h
  exact ⟨List.mem_of_find?_eq_some h, by simpa using List.find?_some h⟩
theorem has_iff {r : Int} : N.has r = true ↔ ∃ a, a ∈ N.acts ∧ a.ref = r := by
  unfold NdS.has NdS.find
  rw [List.find?_isSome]
  constructor
  · rintro ⟨a, h1, h2⟩; exact ⟨a, h1, by simpa using h2⟩
  · rintro ⟨a, h1, h2⟩; exact ⟨a, h1, by simpa using h2⟩
theorem srt_uniq (h : N.acts.Pairwise fun a b => a.ref < b.ref) : ∀ a b, a ∈ N.acts → b ∈ N.acts → a.ref = b.ref → a = b := by
  generalize N.acts = l at h
  induction l with
  | nil => intro a b h; cases h
  | cons x l ih =>
    rw [List.pairwise_cons] at h
    intro a b ha hb e
    rcases List.mem_cons.1 ha with h1 | h1
    · rcases List.mem_cons.1 hb with h2 | h2
      · rw [h1, h2]
      · have := h.1 b h2; rw [h1] at e; omega
    · rcases List.mem_cons.1 hb with h2 | h2
      · have := h.1 a h1; rw [h2] at e; omega
      · exact ih h.2 a b h1 h2 e
theorem find_of_mem (h : N.acts.Pairwise fun a b => a.ref < b.ref) {a : ActS} (ha : a ∈ N.acts) : N.find a.ref = some a := by
  have h1 : N.has a.ref = true := has_iff.2 ⟨a, ha, rfl⟩
  unfold NdS.has at h1
  obtain ⟨b, hb⟩ := Option.isSome_iff_exists.1 h1
  obtain ⟨h2, h3⟩ := find_some hb
  rw [hb, srt_uniq h b a h2 ha h3]
theorem mem_setA {a' b : ActS} : b ∈ (N.setA a').acts ↔ (∃ c, c ∈ N.acts ∧ c.ref = a'.ref ∧ b = a') ∨ (b ∈ N.acts ∧ b.ref ≠ a'.ref) := by
  unfold NdS.setA
  simp only [List.mem_map]
  constructor
  · rintro ⟨c, hc, rfl⟩
    by_cases e : c.ref = a'.ref
    · exact .inl ⟨c, hc, e, by simp [e]⟩
    · have : (c.ref == a'.ref) = false := by simpa using e
      rw [this]
      exact .inr ⟨hc, e⟩
  · rintro (⟨c, hc, e, rfl⟩ | ⟨hb, e⟩)
    · exact ⟨c, hc, by simp [e]⟩
    · exact ⟨b, hb, by
        have : (b.ref == a'.ref) = false := by simpa using e
        rw [this]; rfl⟩
theorem len_setA (a' : ActS) : (N.setA a').acts.length = N.acts.length := by unfold NdS.setA; simp
theorem refs_setA (a' : ActS) : (N.setA a').acts.map (·.ref) = N.acts.map (·.ref) := by
  unfold NdS.setA
  simp only [List.map_map]
  apply List.map_congr_left
  intro b _
  show (if b.ref == a'.ref then a' else b).ref = b.ref
  split
  · rename_i h; exact (by simpa using h : b.ref = a'.ref).symm
  · rfl
theorem has_refs {M : NdS} (h : M.acts.map (·.ref) = N.acts.map (·.ref)) (r : Int) : M.has r = N.has r := by
  rw [Bool.eq_iff_iff, has_iff, has_iff]
  constructor
  · rintro ⟨a, h1, rfl⟩
    have : a.ref ∈ M.acts.map (·.ref) := List.mem_map.2 ⟨a, h1, rfl⟩
    rw [h] at this
    obtain ⟨b, hb, e⟩ := List.mem_map.1 this
    exact ⟨b, hb, e⟩
  · rintro ⟨a, h1, rfl⟩
    have : a.ref ∈ N.acts.map (·.ref) := List.mem_map.2 ⟨a, h1, rfl⟩
    rw [← h] at this
    obtain ⟨b, hb, e⟩ := List.mem_map.1 this
    exact ⟨b, hb, e⟩
theorem has_setA (a' : ActS) (r : Int) : (N.setA a').has r = N.has r := has_refs (refs_setA a') r
theorem srt_refs {l l' : List ActS} (h : l'.map (·.ref) = l.map (·.ref)) (hs : l.Pairwise fun a b => a.ref < b.ref) : l'.Pairwise fun a b => a.ref < b.ref := by
  have h1 : (l.map (·.ref)).Pairwise (· < ·) := List.pairwise_map.2 hs
  rw [← h] at h1
  exact List.pairwise_map.1 h1
theorem mem_delA {r : Int} {b : ActS} : b ∈ (N.delA r).acts ↔ b ∈ N.acts ∧ b.ref ≠ r := by
  unfold NdS.delA
  simp [List.mem_filter]
theorem has_delA (r x : Int) : (N.delA r).has x = (if x = r then false else N.has x) := by
  by_cases e : x = r
  · subst e
    rw [if_pos rfl]
    rcases h : (N.delA x).has x with _ | _
    · rfl
    · obtain ⟨a, h1, h2⟩ := has_iff.1 h
      exact absurd h2 (mem_delA.1 h1).2
  · rw [if_neg e, Bool.eq_iff_iff, has_iff, has_iff]
    constructor
    · rintro ⟨a, h1, h2⟩; exact ⟨a, (mem_delA.1 h1).1, h2⟩
    · rintro ⟨a, h1, h2⟩; exact ⟨a, mem_delA.2 ⟨h1, by omega⟩, h2⟩
theorem len_delA (hs : N.acts.Pairwise fun a b => a.ref < b.ref) {r : Int} (h : N.has r = true) : (N.delA r).acts.length + 1 = N.acts.length := by
  obtain ⟨a, ha, hr⟩ := has_iff.1 h
  unfold NdS.delA
  show (N.acts.filter fun a => !(a.ref == r)).length + 1 = _
  clear h
  generalize N.acts = l at hs ha
  induction l with
  | nil => cases ha
  | cons x l ih =>
    rw [List.pairwise_cons] at hs
    rcases List.mem_cons.1 ha with rfl | ha
    · have : (l.filter fun b => !(b.ref == r)) = l := by
        rw [List.filter_eq_self]
        intro b hb
        have := hs.1 b hb
        simp; omega
      rw [List.filter_cons_of_neg (by simp [hr]), this, List.length_cons]
    · have := hs.1 a ha
      rw [List.filter_cons_of_pos (by simp; omega), List.length_cons, List.length_cons, ih hs.2 ha]
theorem mem_insA {a b : ActS} : ∀ {l : List ActS}, b ∈ insA a l ↔ b = a ∨ b ∈ l
  | [] => by simp [insA]
  | x :: l => by
    unfold insA
    split
    · simp
    · simp only [List.mem_cons, mem_insA (l := l)]
      constructor
      · rintro (h | h | h); exact .inr (.inl h); exact .inl h; exact .inr (.inr h)
      · rintro (h | h | h); exact .inr (.inl h); exact .inl h; exact .inr (.inr h)
theorem len_insA (a : ActS) : ∀ l : List ActS, (insA a l).length = l.length + 1
  | [] => rfl
  | x :: l => by
    unfold insA
    split
    · rfl
    · simp [len_insA a l]
theorem srt_insA {a : ActS} : ∀ {l : List ActS}, l.Pairwise (fun a b => a.ref < b.ref) → (∀ b, b ∈ l → b.ref ≠ a.ref) → (insA a l).Pairwise fun a b => a.ref < b.ref
  | [], _, _ => List.pairwise_singleton _ _
  | x :: l, h, hn => by
    unfold insA
    rw [List.pairwise_cons] at h
    split
    · rename_i hlt
      rw [List.pairwise_cons]
      refine ⟨fun b hb => ?_, List.pairwise_cons.2 h⟩
      rcases List.mem_cons.1 hb with rfl | hb
      · exact hlt
      · have := h.1 b hb; omega
    · rename_i hlt
      rw [List.pairwise_cons]
      refine ⟨fun b hb => ?_, srt_insA h.2 (fun b hb => hn b (List.mem_cons_of_mem _ hb))⟩
      rcases mem_insA.1 hb with rfl | hb
      · have := hn x (List.mem_cons_self ..); omega
      · exact h.1 b hb
end
section
variable {w w' : World} {X X' M : Nat → Prop} {base T T' p mb hb : Nat} {P : Int → Nat} {MA : Int → Nat → Prop} {ob sb : Option Nat} {N : NdS}
/-- one actor has turned -/
theorem NodeG.setA (h : NodeG w X base T p mb hb P MA ob sb N) (hs : N.acts.Pairwise fun a b => a.ref < b.ref) (hm : Mine M p mb hb MA ob sb N) (hMX : ∀ k, M k → X k ∧ base ≤ k) (hXl : ∀ k, X k → k < w.heap.size) {a a' : ActS} {b rb kb : Nat} {ib : Option Nat} {MA' : Nat → Prop} (ha : a ∈ N.acts) (hf : Fr (MA a.ref) w w') (hXX : ∀ k, X k → X' k) (hX : ∀ k, X' k → X k ∨ w.heap.size ≤ k) (hT : T ≤ T')
    (ha' : ActG w' X' base T' MA' (P a.ref) b rb kb ib a') (hM' : ∀ k, MA' k → MA a.ref k ∨ w.heap.size ≤ k) (hr : a'.ref = a.ref) : NodeG w' X' base T' p mb hb P (fun r => if r = a.ref then MA' else MA r) ob sb (N.setA a') := by
  have hS : ∀ k, MA a.ref k → X k ∧ base ≤ k := fun k hk => hMX k (hm.act a ha k hk)
  have ho := h.own a ha
  have hl := h.lt
  have hp : ¬ MA a.ref p := fun e => (ho p e).1 rfl
  obtain ⟨A2, c2, s1, s2⟩ := h.c2
  obtain ⟨v4, r1, r2⟩ := h.c4
  obtain ⟨v8, C, o1, o2⟩ := h.c8
  obtain ⟨v9, q1, q2, q3⟩ := h.c9
  obtain ⟨n, k1, k2⟩ := h.hm
  refine ⟨hf.cell h.c0 hp, hf.cell h.c1 hp, ⟨A2, c2, hf.cell s1 hp, s2.fr hf (fun k hk => (hS k hk).2)⟩, hf.cell h.c3 hp, ⟨v4, hf.cell r1 hp, r2.fr hf (fun k hk => (hS k hk).1) hX⟩, hf.cell h.c5 hp, hf.cell h.c6 hp, hf.cell h.c7 hp, ⟨v8, C, hf.cell o1 hp, o2.fr hf (fun k hk => (hS k hk).1) hX (fun k hk hs => (ho k hs).2.2.2.1 hk)⟩, ⟨v9, hf.cell q1 hp, hf.row q2 (fun k hk hs => (ho k hs).2.2.2.2 (q3.symm.trans hk)), q3⟩,
    fun o => (hf.frozen hl.1 hp).trans (h.fz o), ?_, ⟨n, k1.fr hf (fun e => (ho hb e).2.2.1 rfl), by omega⟩, fun c hc => ?_, fun c d hc hd hne k hk => ?_, fun c hc k hk => ?_, h.ap, ?_⟩
  · rw [len_setA]
    refine (h.am.fr hf (fun e => (ho mb e).2.1 rfl)).congr (fun x _ => ?_)
    rw [has_setA]
  · rcases mem_setA.1 hc with ⟨c', hc1, hc2, rfl⟩ | ⟨hc1, hc2⟩
    · rw [hr, if_pos rfl]
      exact ⟨b, rb, kb, ib, ha'⟩
    · rw [hr] at hc2
      rw [if_neg hc2]
      obtain ⟨b1, rb1, kb1, ib1, hh⟩ := h.acts c hc1
      exact ⟨b1, rb1, kb1, ib1, hh.fr hf (fun k hk => (hS k hk).1) hX (fun k hk => (hS k hk).2) hT (fun k hk hs => h.disj c a hc1 ha hc2 k hk hs)⟩
  · have key : ∀ c : ActS, c ∈ (N.setA a').acts → ∀ k, (if c.ref = a.ref then MA' else MA c.ref) k → (∃ c', c' ∈ N.acts ∧ c'.ref = c.ref ∧ MA c'.ref k) ∨ (c.ref = a.ref ∧ w.heap.size ≤ k) := fun c hc k hk => by
      by_cases e : c.ref = a.ref
      · rw [if_pos e] at hk
        rcases hM' k hk with hh | hh
        · exact .inl ⟨a, ha, e.symm, hh⟩
        · exact .inr ⟨e, hh⟩
      · rw [if_neg e] at hk
        rcases mem_setA.1 hc with ⟨c', hc1, hc2, rfl⟩ | ⟨hc1, hc2⟩
        · exact absurd hr e
        · exact .inl ⟨c, hc1, rfl, hk⟩
    intro hk2
    have lt : ∀ c' : ActS, c' ∈ N.acts → ∀ k, MA c'.ref k → k < w.heap.size := fun c' hc' k hk => hXl k (hMX k (hm.act c' hc' k hk)).1
    rcases key c hc k hk with ⟨c1, g1, g2, g3⟩ | ⟨g1, g2⟩
    · rcases key d hd k hk2 with ⟨d1, f1, f2, f3⟩ | ⟨f1, f2⟩
      · exact h.disj c1 d1 g1 f1 (by rw [g2, f2]; exact hne) k g3 f3
      · have := lt c1 g1 k g3; omega
    · rcases key d hd k hk2 with ⟨d1, f1, f2, f3⟩ | ⟨f1, f2⟩
      · have := lt d1 f1 k f3; omega
      · exact hne (g1.trans f1.symm)
  · rcases mem_setA.1 hc with ⟨c', hc1, hc2, rfl⟩ | ⟨hc1, hc2⟩
    · rw [hr, if_pos rfl] at hk
      rcases hM' k hk with hh | hh
      · exact ho k hh
      · exact ⟨by omega, by omega, by omega, fun e => by have := hl.2.2.2.1 k e; omega, fun e => by have := hl.2.2.2.2 k e; omega⟩
    · rw [hr] at hc2
      rw [if_neg hc2] at hk
      exact h.own c hc1 k hk
  · rw [len_setA]
    have := h.lim
    exact ⟨by show N.out.length + _ ≤ T'; omega, by show N.said.length ≤ T'; omega⟩
end
end Go.Proofs.YthgbcgphkddmgaaGreat
namespace Go.Proofs.YthgbcgphkddmgaaGreat
open Go.RowKit
set_option linter.unusedVariables false
set_option linter.unusedSimpArgs false
theorem OwnL.congr {w : World} {base n : Nat} {v : Value} {R R' : Nat → Li.LR} {vw vl : Nat → Value} (h : Li.OwnL w base v n R vw vl) (e : ∀ i, i < n → R' i = R i) : Li.OwnL w base v n R' vw vl := by
  have h1 : flatC (Li.rwC R' vw vl) n = flatC (Li.rwC R vw vl) n := flatC_congr fun k hk => by unfold Li.rwC; rw [e k hk]
  refine ⟨by rw [h1]; exact h.row, fun k hk s => ?_, h.apart, h.outer⟩
  have := h.each k hk s
  unfold Li.il at this ⊢
  rw [e k hk]
  exact this
theorem rowsAt_of {w : World} {X : Nat → Prop} {B n : Nat} {v : Value} {A : Option Addr} {c : Nat} {R : Nat → Li.LR} {vw vl : Nat → Value} {rows : List Li.LR} (h : Li.OwnL w B v n R vw vl) (hX : ∀ k, X k → k < B) (hv : v = .slice A n c) (hn : rows.length = n) (e : ∀ i, i < n → rowF rows i = R i) : RowsAt w X v rows := by
  subst hn
  refine ⟨A, c, vw, vl, hv, (OwnL.congr h e).mono (Nat.zero_le _), fun k hk hx => ?_, fun i hi s k hk hx => ?_⟩
  · have := (h.row.lt k hk).1; have := hX k hx; omega
  · have := ((h.each i hi s).lt k hk).1; have := hX k hx; omega
theorem rowF_get {rows : List Li.LR} {i : Nat} (h : i < rows.length) : rowF rows i = rows[i] := by
  unfold rowF
  rw [List.getD_eq_getElem?_getD, List.getElem?_eq_getElem h]
  rfl
theorem rowF_map {rows : List Li.LR} (f : Li.LR → Li.LR) {i : Nat} (h : i < rows.length) : rowF (rows.map f) i = f (rowF rows i) := by
  rw [rowF_get (by simpa using h), rowF_get h, List.getElem_map]
theorem rowF_mem {rows : List Li.LR} {i : Nat} (h : i < rows.length) : rowF rows i ∈ rows := by
  rw [rowF_get h]; exact List.getElem_mem h
/-- what a call on rows tells: rows', or an error where nothing changes -/
def LkPost (X : Nat → Prop) (rows rows' : List Li.LR) (w : World) (e : Ending) (w' : World) : Prop :=
  ∃ (A : Option Addr) (n c : Nat) (x : Int), e = .returned (.tuple #[.slice A n c, .int .i64 x]) ∧ Below w.heap.size w w' ∧ ((x = 0 ∧ RowsAt w' X (.slice A n c) rows') ∨ (x ≠ 0 ∧ rows' = rows))
theorem RowsAt.form {w : World} {X : Nat → Prop} {v : Value} {rows : List Li.LR} (h : RowsAt w X v rows) : ∃ A c vw vl, v = .slice A rows.length c ∧ rows.length ≤ c ∧ c ≤ 9223372036854775807 ∧ Li.RdL w A rows.length (rowF rows) vw vl := by
  obtain ⟨A, c, vw, vl, rfl, h1, h2, h3⟩ := h
  obtain ⟨A', c', e, g1, g2, _⟩ := own_any h1.row
  injection e with e1 e2 e3
  subst e1 e3
  exact ⟨A, c, vw, vl, rfl, g1, g2, h1.rd⟩
theorem lwatch_any (X : Nat → Prop) (v : Value) (rows : List Li.LR) (x ref : Int) (w : World) (h : RowsAt w X v rows) (ok : Li.OkL (rowF rows) rows.length) (hX : ∀ k, X k → k < w.heap.size) :
    Calls Tryz.prog 188 #[v, .int .i64 x, .int .i64 ref] w (LkPost X rows (watchL rows x ref) w) := by
  obtain ⟨A, c, vw, vl, rfl, g1, g2, g3⟩ := h.form
  by_cases hi : ∃ i, Li.WatchOk (rowF rows) rows.length ref i
  · obtain ⟨i, hi⟩ := hi
    refine (Li.watch_ok A _ c _ vw vl x ref i w g1 g2 g3 hi).mono ?_
    rintro e w' ⟨A', c', vw', vl', rfl, ho, hb⟩
    refine ⟨A', _, c', 0, rfl, hb, .inl ⟨rfl, rowsAt_of ho hX rfl (by unfold watchL; simp) (fun k hk => ?_)⟩⟩
    unfold watchL
    rw [rowF_map _ hk]
    unfold Li.updR
    by_cases e : k = i
    · subst e
      have e1 : ((rowF rows k).ref == ref) = true := by simpa using hi.1.2.2
      rw [if_pos rfl, if_pos (by simp [e1, hi.2])]
      rfl
    · have e1 : ((rowF rows k).ref == ref) = false := by
        rcases hb' : (rowF rows k).ref == ref with _ | _
        · rfl
        · exact absurd (Li.OkIx.uniq ⟨ok, hk, by simpa using hb'⟩ hi.1) e
      rw [if_neg e, if_neg (by simp [e1])]
  · refine (Li.watch_bad A _ c _ vw vl x ref w g1 g2 g3 hi).mono ?_
    rintro e w' ⟨y, hy, rfl, hb⟩
    refine ⟨none, 0, 0, y, rfl, hb, .inr ⟨hy, ?_⟩⟩
    unfold watchL
    refine (List.map_congr_left fun r hr => ?_).trans (List.map_id _)
    obtain ⟨k, hk, rfl⟩ := List.getElem_of_mem hr
    rw [if_neg fun h => hi ⟨k, ⟨ok, hk, ?_⟩, ?_⟩]
    · rfl
    · simp only [Bool.and_eq_true] at h
      rw [rowF_get hk]; simpa using h.1
    · simp only [Bool.and_eq_true] at h
      rw [rowF_get hk]; simpa using h.2
theorem llink_any (X : Nat → Prop) (v : Value) (rows : List Li.LR) (ref x : Int) (w : World) (h : RowsAt w X v rows) (ok : Li.OkL (rowF rows) rows.length) (hX : ∀ k, X k → k < w.heap.size) :
    Calls Tryz.prog 119 #[v, .int .i64 ref, .int .i64 x] w (LkPost X rows (linkL rows ref x) w) := by
  obtain ⟨A, c, vw, vl, rfl, g1, g2, g3⟩ := h.form
  by_cases hi : ∃ i, Li.LinkOk (rowF rows) rows.length ref x i
  · obtain ⟨i, hi⟩ := hi
    refine (Li.link_ok A _ c _ vw vl ref x i w g1 g2 g3 hi).mono ?_
    rintro e w' ⟨A', c', vw', vl', rfl, ho, hb⟩
    refine ⟨A', _, c', 0, rfl, hb, .inl ⟨rfl, rowsAt_of ho hX rfl (by unfold linkL; simp) (fun k hk => ?_)⟩⟩
    unfold linkL
    rw [rowF_map _ hk]
    have e2 : ∀ {q : Bool}, k ≠ i → ((rowF rows k).ref == ref && q) = false := fun e => by
      rcases hb' : (rowF rows k).ref == ref with _ | _
      · rfl
      · exact absurd (Li.OkIx.uniq ⟨ok, hk, by simpa using hb'⟩ hi.1) e
    unfold Li.linkR
    by_cases hx : x ∈ (rowF rows i).ls
    · rw [if_pos hx]
      by_cases e : k = i
      · subst e
        rw [if_neg (by simp [hx])]
      · rw [if_neg (by rw [Bool.and_assoc, e2 e]; decide)]
    · rw [if_neg hx]
      unfold Li.updR
      by_cases e : k = i
      · subst e
        have e1 : ((rowF rows k).ref == ref) = true := by simpa using hi.1.2.2
        have h1 := hi.2.resolve_left hx
        rw [if_pos rfl, if_pos (by simp [e1, hx, h1])]
        rfl
      · rw [if_neg e, if_neg (by rw [Bool.and_assoc, e2 e]; decide)]
  · refine (Li.link_bad A _ c _ vw vl ref x w g1 g2 g3 hi).mono ?_
    rintro e w' ⟨y, hy, rfl, hb⟩
    refine ⟨none, 0, 0, y, rfl, hb, .inr ⟨hy, ?_⟩⟩
    unfold linkL
    refine (List.map_congr_left fun r hr => ?_).trans (List.map_id _)
    obtain ⟨k, hk, rfl⟩ := List.getElem_of_mem hr
    rw [if_neg fun h => hi ⟨k, ⟨ok, hk, ?_⟩, .inr ?_⟩]
    · rfl
    · simp only [Bool.and_eq_true] at h
      rw [rowF_get hk]; simpa using h.1.1
    · simp only [Bool.and_eq_true] at h
      rw [rowF_get hk]; simpa using h.2
theorem okIx_iff {rows : List Li.LR} (ok : Li.OkL (rowF rows) rows.length) {ref : Int} {i : Nat} (h : Li.OkIx (rowF rows) rows.length ref i) : rowL rows ref = some (rowF rows i) := by
  unfold rowL
  have hm := rowF_mem h.2.1
  have hs : (rows.find? fun r => r.ref == ref).isSome = true := by
    rw [List.find?_isSome]
    exact ⟨_, hm, by simpa using h.2.2⟩
  obtain ⟨r, hr⟩ := Option.isSome_iff_exists.1 hs
  rw [hr]
  have h1 := List.mem_of_find?_eq_some hr
  have h2 : r.ref = ref := by simpa using List.find?_some hr
  obtain ⟨k, hk, rfl⟩ := List.getElem_of_mem h1
  have := Li.OkIx.uniq (i := k) ⟨ok, hk, by rw [rowF_get hk]; exact h2⟩ h
  subst this
  rw [rowF_get hk]
theorem rowL_none {rows : List Li.LR} (ok : Li.OkL (rowF rows) rows.length) {ref : Int} (h : ¬ ∃ i, Li.OkIx (rowF rows) rows.length ref i) : rowL rows ref = none := by
  unfold rowL
  rw [List.find?_eq_none]
  intro r hr e
  obtain ⟨k, hk, rfl⟩ := List.getElem_of_mem hr
  exact h ⟨k, ok, hk, by rw [rowF_get hk]; simpa using e⟩
set_option maxRecDepth 100000 in
set_option maxHeartbeats 4000000 in
theorem linked_any (X : Nat → Prop) (v : Value) (rows : List Li.LR) (ref x : Int) (w : World) (h : RowsAt w X v rows) (ok : Li.OkL (rowF rows) rows.length) :
    Calls Tryz.prog 189 #[v, .int .i64 ref, .int .i64 x] w fun e w' => ∃ (b : Bool) (y : Int), e = .returned (.tuple #[.bool b, .int .i64 y]) ∧ Below w.heap.size w w' ∧ ((y = 0 ∧ linkedL rows ref x = b) ∨ (y ≠ 0 ∧ linkedL rows ref x = false)) := by
  obtain ⟨A, c, vw, vl, rfl, g1, g2, g3⟩ := h.form
  by_cases hi : ∃ i, Li.OkIx (rowF rows) rows.length ref i
  · obtain ⟨i, hi⟩ := hi
    have hin := hi.2.1
    have hl100 := (ok.2 i hi.2.1).2.2.1
    have HL := Lib.hid (show linkedL rows ref x = decide (x ∈ (rowF rows i).ls) by unfold linkedL; rw [okIx_iff ok hi]; simp)
    have H := Lib.hid (Li.begin_ok A _ c _ vw vl ref i w g1 g2 g3 hi)
    clear g3 h hi ok
    go_enter Tryz.func189, Tryz.ntmps189
    go_wp2_with fail
    refine H.out.mono ?_
    rintro e w1 ⟨A1, c1, vw1, vl1, rfl, hO, hb⟩
    obtain ⟨g, cap, hv, hbase, hglt, hnc, hcm⟩ := own_form hO.row (by omega)
    injection hv with e1 _ e3
    subst e1 e3
    obtain ⟨wA, wc, hvw, q1, q2, _⟩ := own_any (hO.each i hin false)
    have hvw' : vl1 i = .slice wA (rowF rows i).ls.length wc := hvw
    have c0 : w1.cell? ⟨g, i * 3 + 2, none⟩ = some (.slice wA (rowF rows i).ls.length wc) := by
      rw [own_cellC hO.row (Li.rwC_len _ _ _) hin (j := 2) (by omega)]
      simp [Li.rwC, hvw']
    have HOI := Lib.hid (show OwnI w1 w.heap.size (.slice wA (rowF rows i).ls.length wc) (rowF rows i).ls by rw [← hvw']; exact hO.each i hin false)
    have HB := Lib.hid hb
    have j0 : (0 : Int) ≤ (i : Int) := by omega
    have j1 : (i : Int) < (rows.length : Int) := by omega
    clear hO hb hvw hvw'
    go_wp2_with fail
    refine (containsI_any wA (rowF rows i).ls.length wc (lst (rowF rows i).ls) x _ (by omega) HOI.out.rd).mono ?_
    rintro e w2 ⟨rfl, rfl⟩
    rw [any_lst, ← HL.out]
    go_wp2_with fail
    refine bodyPost_ret (results_two Tryz.results189 _ _) rfl ⟨_, 0, rfl, HB.out, .inl ⟨rfl, rfl⟩⟩
  · have HL := Lib.hid (show linkedL rows ref x = false by unfold linkedL; rw [rowL_none ok hi])
    have H := Lib.hid (Li.begin_bad A _ c _ vw vl ref w g1 g2 g3 hi)
    clear g3 h hi ok
    go_enter Tryz.func189, Tryz.ntmps189
    go_wp2_with fail
    refine H.out.mono ?_
    rintro e w1 ⟨y, hy, -, rfl, hb⟩
    have HB := Lib.hid hb
    have HY := Lib.hid hy
    have hy1 : (y != 0) = true := by simpa using hy
    clear hb hy
    go_wp2_with fail
    refine bodyPost_ret (results_two Tryz.results189 _ _) rfl ⟨_, y, rfl, HB.out, .inr ⟨HY.out, HL.out⟩⟩
theorem filter_erase {α : Type} {p : α → Bool} : ∀ {l : List α} {i : Nat}, (h : i < l.length) → p l[i] = false → (∀ j (hj : j < l.length), j ≠ i → p l[j] = true) → l.filter p = l.eraseIdx i
  | [], i, h, _, _ => by simp at h
  | x :: l, 0, h, h0, hn => by
    rw [List.filter_cons_of_neg (by simpa using h0), List.eraseIdx_cons_zero, List.filter_eq_self]
    intro a ha
    obtain ⟨k, hk, rfl⟩ := List.getElem_of_mem ha
    have := hn (k + 1) (by simpa using hk) (by omega)
    simpa using this
  | x :: l, i + 1, h, h0, hn => by
    rw [List.filter_cons_of_pos (show p x = true from hn 0 (by simp) (by omega)), List.eraseIdx_cons_succ, filter_erase (l := l) (i := i) (by simpa using h) (by simpa using h0) (fun j hj hne => by
      have := hn (j + 1) (by simpa using hj) (by omega)
      simpa using this)]
theorem goneL_erase {rows : List Li.LR} (ok : Li.OkL (rowF rows) rows.length) {ref : Int} {i : Nat} (h : Li.OkIx (rowF rows) rows.length ref i) : goneL rows ref = rows.eraseIdx i := by
  unfold goneL
  refine filter_erase h.2.1 ?_ fun j hj hne => ?_
  · have := h.2.2
    rw [rowF_get h.2.1] at this
    simp [this]
  · rcases hb : rows[j].ref == ref with _ | _
    · rfl
    · exact absurd (Li.OkIx.uniq (i := j) ⟨ok, hj, by rw [rowF_get hj]; simpa using hb⟩ h) hne
theorem rowF_erase {rows : List Li.LR} {i j : Nat} : rowF (rows.eraseIdx i) j = delF (rowF rows) i j := by
  unfold rowF delF
  simp only [List.getD_eq_getElem?_getD, List.getElem?_eraseIdx]
  split <;> rfl
theorem goneL_none {rows : List Li.LR} (ok : Li.OkL (rowF rows) rows.length) {ref : Int} (h : ¬ ∃ i, Li.OkIx (rowF rows) rows.length ref i) : goneL rows ref = rows := by
  unfold goneL
  rw [List.filter_eq_self]
  intro r hr
  obtain ⟨k, hk, rfl⟩ := List.getElem_of_mem hr
  rcases hb : rows[k].ref == ref with _ | _
  · rfl
  · exact absurd ⟨k, ok, hk, by rw [rowF_get hk]; simpa using hb⟩ h
/-- what Gone tells -/
def GonePost (X : Nat → Prop) (rows : List Li.LR) (ref : Int) (failed : Bool) (text : ByteArray) (w : World) (e : Ending) (w' : World) : Prop :=
  ∃ (A : Option Addr) (n c : Nat) (L : Option Addr) (d : Nat) (x : Int), e = .returned (.tuple #[.slice A n c, .slice L (tellL rows ref failed text).length d, .int .i64 x]) ∧ Below w.heap.size w w' ∧ ((x = 0 ∧ RowsAt w' X (.slice A n c) (goneL rows ref)) ∨ (x ≠ 0 ∧ goneL rows ref = rows)) ∧ (tellL rows ref failed text).length ≤ 200 ∧ RdL w' (fun k => w.heap.size ≤ k) L (tellL rows ref failed text).length (nthL (tellL rows ref failed text))
theorem tell_told {rows : List Li.LR} {ref : Int} {failed : Bool} {text : ByteArray} {r : Li.LR} (h : rowL rows ref = some r) : (tellL rows ref failed text).length = Li.manyTold failed r ∧ ∀ (w : World) (S : Nat → Prop) k, k < Li.manyTold failed r → (nthL (tellL rows ref failed text) k).isL w S (Li.told ref failed text r k) := by
  unfold tellL
  rw [h]
  dsimp only
  refine ⟨by unfold Li.manyTold; cases failed <;> simp, fun w S k hk => ?_⟩
  have leaf := leaf_V w S 0 0
  unfold Li.told nthL
  by_cases hw : k < r.ws.length
  · rw [if_pos hw, List.getD_eq_getElem?_getD, List.getElem?_append_left (by simpa using hw), List.getElem?_map, List.getElem?_eq_getElem hw]
    have e1 : lst r.ws k = r.ws[k] := by unfold lst; rw [List.getD_eq_getElem?_getD, List.getElem?_eq_getElem hw]; rfl
    rw [e1]
    exact ⟨0, 0, ⟨#[]⟩, none, 0, 0, rfl, leaf⟩
  · rw [if_neg hw]
    unfold Li.manyTold at hk
    cases failed with
    | false => simp at hk; omega
    | true =>
      simp only [if_true] at hk ⊢
      have hl : k - r.ws.length < r.ls.length := by omega
      rw [List.getD_eq_getElem?_getD, List.getElem?_append_right (by simpa using Nat.le_of_not_lt hw), List.length_map, List.getElem?_map, List.getElem?_eq_getElem hl]
      have e1 : lst r.ls (k - r.ws.length) = r.ls[k - r.ws.length] := by unfold lst; rw [List.getD_eq_getElem?_getD, List.getElem?_eq_getElem hl]; rfl
      rw [e1]
      exact ⟨0, 0, ⟨#[]⟩, none, 0, 0, rfl, leaf⟩
theorem lgone_any (X : Nat → Prop) (v : Value) (rows : List Li.LR) (ref : Int) (failed : Bool) (text : ByteArray) (w : World) (h : RowsAt w X v rows) (ok : Li.OkL (rowF rows) rows.length) (hX : ∀ k, X k → k < w.heap.size) :
    Calls Tryz.prog 93 #[v, .int .i64 ref, .bool failed, .string text] w (GonePost X rows ref failed text w) := by
  obtain ⟨A, c, vw, vl, rfl, g1, g2, g3⟩ := h.form
  by_cases hi : ∃ i, Li.OkIx (rowF rows) rows.length ref i
  · obtain ⟨i, hi⟩ := hi
    obtain ⟨t1, t2⟩ := tell_told (failed := failed) (text := text) (okIx_iff ok hi)
    refine (Li.gone_ok A _ c _ vw vl ref failed text i w g1 g2 g3 hi).mono ?_
    rintro e w' ⟨A', c', vw', vl', L, d, rfl, ho, hl, hb⟩
    have h100 := ok.2 i hi.2.1
    refine ⟨A', _, c', L, d, 0, by rw [t1], hb, .inl ⟨rfl, rowsAt_of ho hX rfl (by rw [goneL_erase ok hi, List.length_eraseIdx, if_pos hi.2.1]) (fun k hk => by rw [goneL_erase ok hi, rowF_erase])⟩, ?_, ?_⟩
    · rw [t1]
      have := h100.2.1
      have := h100.2.2.1
      unfold Li.manyTold
      split <;> omega
    · rw [t1]
      intro h0
      obtain ⟨g, cap, hv, hbg, hlt, _⟩ := own_form hl h0
      injection hv with e1 e2 e3
      subst e1 e3
      exact ⟨g, 0, rfl, hlt, hbg, Li.told ref failed text (rowF rows i), fun k hk => ⟨t2 _ _ k hk, fun j u hu => by
        have hj : j < 9 := by
          rcases Nat.lt_or_ge j 9 with hh | hh
          · exact hh
          · rw [List.getElem?_eq_none (by rw [Li.told_len]; exact hh)] at hu; cases hu
        rw [Nat.zero_add, own_cellC hl (Li.told_len _ _ _ _) hk hj]
        exact hu⟩⟩
  · have ht : tellL rows ref failed text = [] := by unfold tellL; rw [rowL_none ok hi]
    refine (Li.gone_bad A _ c _ vw vl ref failed text w g1 g2 g3 hi).mono ?_
    rintro e w' ⟨x, hx, _, rfl, hb⟩
    exact ⟨none, 0, 0, none, 0, x, by rw [ht]; rfl, hb, .inr ⟨hx, goneL_none ok hi⟩, by rw [ht]; decide, by rw [ht]; exact fun h => by simp at h⟩
end Go.Proofs.YthgbcgphkddmgaaGreat
namespace Go.Proofs.YthgbcgphkddmgaaGreat
open Go.RowKit
set_option linter.unusedVariables false
set_option linter.unusedSimpArgs false
def RowOk (r : Li.LR) : Prop := 1 ≤ r.ref ∧ r.ws.length ≤ 100 ∧ r.ls.length ≤ 100 ∧ Li.ClearL r.ls ∧ Wf r.ref ∧ (∀ x, x ∈ r.ws → Wf x) ∧ ∀ x, x ∈ r.ls → Wf x
theorem rowsOk_iff {l : List Li.LR} : RowsOk l ↔ l.length ≤ 100 ∧ l.Pairwise (fun a b => a.ref < b.ref) ∧ ∀ r, r ∈ l → RowOk r := by
  constructor
  · intro h
    refine ⟨h.ok.1, ?_, fun r hr => ?_⟩
    · rw [List.pairwise_iff_getElem]
      intro i j hi hj hij
      have := Li.OkL.mono h.ok i j hij hj
      rwa [rowF_get hi, rowF_get hj] at this
    · obtain ⟨k, hk, rfl⟩ := List.getElem_of_mem hr
      obtain ⟨a, b, c, _, d⟩ := h.ok.2 k hk
      rw [rowF_get hk] at a b c d
      exact ⟨a, b, c, d, h.wf _ hr⟩
  · rintro ⟨h1, h2, h3⟩
    rw [List.pairwise_iff_getElem] at h2
    refine ⟨⟨h1, fun k hk => ?_⟩, fun r hr => (h3 r hr).2.2.2.2⟩
    obtain ⟨a, b, c, d, _⟩ := h3 _ (rowF_mem hk)
    refine ⟨a, b, c, fun h0 => ?_, d⟩
    have := h2 (k - 1) k (by omega) hk (by omega)
    rwa [rowF_get hk, rowF_get (show k - 1 < l.length by omega)]
theorem pairwise_refs {l l' : List Li.LR} (h : l'.map (·.ref) = l.map (·.ref)) (hs : l.Pairwise fun a b => a.ref < b.ref) : l'.Pairwise fun a b => a.ref < b.ref := by
  have h1 : (l.map (·.ref)).Pairwise (· < ·) := List.pairwise_map.2 hs
  rw [← h] at h1
  exact List.pairwise_map.1 h1
theorem clear_snoc {l : List Int} {x : Int} (h : Li.ClearL l) (hx : x ∉ l) : Li.ClearL (l ++ [x]) := by
  intro q hq
  by_cases e : q = l.length
  · subst e
    have : lst (l ++ [x]) l.length = x := by unfold lst; simp [List.getD]
    rw [this, List.take_left']
    · exact hx
    · rfl
  · have hq' : q < l.length := by simp at hq; omega
    have e1 : lst (l ++ [x]) q = lst l q := by unfold lst; rw [List.getD_eq_getElem?_getD, List.getElem?_append_left hq', ← List.getD_eq_getElem?_getD]
    rw [e1, List.take_append_of_le_length (by omega)]
    exact h q hq'
theorem RowsOk.watch {l : List Li.LR} (h : RowsOk l) {x ref : Int} (hx : Wf x) : RowsOk (watchL l x ref) := by
  rw [rowsOk_iff] at h ⊢
  obtain ⟨h1, h2, h3⟩ := h
  refine ⟨by unfold watchL; simpa using h1, pairwise_refs (l := l) ?_ h2, fun r hr => ?_⟩
  · unfold watchL
    rw [List.map_map]
    apply List.map_congr_left
    intro r _
    show (if _ then _ else r).ref = r.ref
    split <;> rfl
  · unfold watchL at hr
    obtain ⟨s, hs, rfl⟩ := List.mem_map.1 hr
    obtain ⟨a, b, c, d, e, f, g⟩ := h3 s hs
    split
    · rename_i hh
      simp only [Bool.and_eq_true, decide_eq_true_eq] at hh
      refine ⟨a, by simp; omega, c, d, e, fun y hy => ?_, g⟩
      rcases List.mem_append.1 hy with hy | hy
      · exact f y hy
      · rw [List.mem_singleton.1 hy]; exact hx
    · exact ⟨a, b, c, d, e, f, g⟩
theorem RowsOk.link {l : List Li.LR} (h : RowsOk l) {x ref : Int} (hx : Wf x) : RowsOk (linkL l ref x) := by
  rw [rowsOk_iff] at h ⊢
  obtain ⟨h1, h2, h3⟩ := h
  refine ⟨by unfold linkL; simpa using h1, pairwise_refs (l := l) ?_ h2, fun r hr => ?_⟩
  · unfold linkL
    rw [List.map_map]
    apply List.map_congr_left
    intro r _
    show (if _ then _ else r).ref = r.ref
    split <;> rfl
  · unfold linkL at hr
    obtain ⟨s, hs, rfl⟩ := List.mem_map.1 hr
    obtain ⟨a, b, c, d, e, f, g⟩ := h3 s hs
    split
    · rename_i hh
      simp only [Bool.and_eq_true, decide_eq_true_eq] at hh
      refine ⟨a, b, by simp; omega, clear_snoc d (by simpa using hh.1.2), e, f, fun y hy => ?_⟩
      rcases List.mem_append.1 hy with hy | hy
      · exact g y hy
      · rw [List.mem_singleton.1 hy]; exact hx
    · exact ⟨a, b, c, d, e, f, g⟩
theorem RowsOk.gone {l : List Li.LR} (h : RowsOk l) (ref : Int) : RowsOk (goneL l ref) := by
  rw [rowsOk_iff] at h ⊢
  obtain ⟨h1, h2, h3⟩ := h
  refine ⟨Nat.le_trans (List.length_filter_le _ _) h1, h2.filter _, fun r hr => h3 r (List.mem_filter.1 hr).1⟩
theorem addL_pos {ref : Int} : ∀ {rows : List Li.LR} {p : Nat}, p ≤ rows.length → (∀ k, k < p → (rowF rows k).ref < ref) → (p < rows.length → ref < (rowF rows p).ref) → addL rows ref = rows.take p ++ ⟨ref, [], []⟩ :: rows.drop p
  | [], p, h, _, _ => by simp at h; subst h; rfl
  | b :: l, 0, _, _, h2 => by
    have := h2 (by simp)
    unfold addL
    rw [if_pos (show ref < b.ref from this)]
    rfl
  | b :: l, p + 1, h, h1, h2 => by
    have := h1 0 (by omega)
    unfold addL
    rw [if_neg (by have : b.ref < ref := this; omega), addL_pos (rows := l) (p := p) (by simpa using h) (fun k hk => h1 (k + 1) (by omega)) (fun hp => h2 (by simpa using hp))]
    rfl
theorem rowF_ins {rows : List Li.LR} {p j : Nat} {r : Li.LR} (hp : p ≤ rows.length) : rowF (rows.take p ++ r :: rows.drop p) j = insF (rowF rows) p r j := by
  unfold rowF insF
  simp only [List.getD_eq_getElem?_getD]
  by_cases h1 : j < p
  · rw [if_pos h1, List.getElem?_append_left (by rw [List.length_take]; omega), List.getElem?_take_of_lt h1]
  · rw [if_neg h1, List.getElem?_append_right (by rw [List.length_take]; omega), List.length_take, Nat.min_eq_left hp]
    by_cases h2 : j = p
    · subst h2; simp
    · rw [if_neg h2]
      obtain ⟨m, rfl⟩ : ∃ m, j = p + (m + 1) := ⟨j - p - 1, by omega⟩
      rw [show p + (m + 1) - p = m + 1 by omega, List.getElem?_cons_succ, List.getElem?_drop]
      rfl
theorem len_addL (ref : Int) : ∀ rows : List Li.LR, (addL rows ref).length = rows.length + 1
  | [] => rfl
  | b :: l => by
    unfold addL
    split
    · rfl
    · simp [len_addL ref l]
theorem ladd_any (X : Nat → Prop) (v : Value) (rows : List Li.LR) (ref : Int) (w : World) (h : RowsAt w X v rows) (ok : Li.OkL (rowF rows) rows.length) (hX : ∀ k, X k → k < w.heap.size) :
    Calls Tryz.prog 113 #[v, .int .i64 ref] w (LkPost X rows (addR rows ref) w) := by
  obtain ⟨A, c, vw, vl, rfl, g1, g2, g3⟩ := h.form
  have hno : ∀ {k}, k < rows.length → (rowF rows k).ref = ref → (rowL rows ref).isSome = true := fun {k} hk e => by
    unfold rowL
    rw [List.find?_isSome]
    exact ⟨_, rowF_mem hk, by simpa using e⟩
  refine (Li.add_any A _ c _ vw vl ref w g1 g2 g3).mono ?_
  rintro e w' (⟨hb, y, hy, rfl, hbl⟩ | ⟨ha, p, hp, A', c', vw', vl', rfl, ho, hbl⟩)
  · refine ⟨none, 0, 0, y, rfl, hbl, .inr ⟨hy, ?_⟩⟩
    unfold addR
    rw [if_pos]
    rcases Int.lt_or_le ref 1 with h1 | h1
    · exact .inl h1
    · by_cases h2 : rows.length = 100
      · exact .inr (.inr h2)
      · refine .inr (.inl ?_)
        rcases hs : (rowL rows ref).isSome with _ | _
        · exact absurd ⟨ok, h1, (fun k hk e => by rw [hno hk e] at hs; cases hs), h2⟩ hb
        · rfl
  · obtain ⟨_, h1, h2, h3⟩ := ha
    have hl : (addR rows ref) = addL rows ref := by
      unfold addR
      rw [if_neg]
      rintro (h | h | h)
      · omega
      · unfold rowL at h
        rw [List.find?_isSome] at h
        obtain ⟨r, hr, e⟩ := h
        obtain ⟨k, hk, rfl⟩ := List.getElem_of_mem hr
        exact h2 k hk (by rw [rowF_get hk]; simpa using e)
      · exact h3 h
    obtain ⟨p1, p2, p3⟩ := hp
    exact ⟨A', _, c', 0, rfl, hbl, .inl ⟨rfl, rowsAt_of ho hX rfl (by rw [hl, len_addL]) (fun k hk => by rw [hl, addL_pos p1 p2 p3, rowF_ins p1])⟩⟩
theorem mem_addL {ref : Int} {r : Li.LR} : ∀ {rows : List Li.LR}, r ∈ addL rows ref ↔ r = ⟨ref, [], []⟩ ∨ r ∈ rows
  | [] => by simp [addL]
  | x :: l => by
    unfold addL
    split
    · simp
    · simp only [List.mem_cons, mem_addL (rows := l)]
      constructor
      · rintro (h | h | h); exact .inr (.inl h); exact .inl h; exact .inr (.inr h)
      · rintro (h | h | h); exact .inr (.inl h); exact .inl h; exact .inr (.inr h)
theorem srt_addL {ref : Int} : ∀ {l : List Li.LR}, l.Pairwise (fun a b => a.ref < b.ref) → (∀ b, b ∈ l → b.ref ≠ ref) → (addL l ref).Pairwise fun a b => a.ref < b.ref
  | [], _, _ => List.pairwise_singleton _ _
  | x :: l, h, hn => by
    unfold addL
    rw [List.pairwise_cons] at h
    split
    · rename_i hlt
      rw [List.pairwise_cons]
      refine ⟨fun b hb => ?_, List.pairwise_cons.2 h⟩
      rcases List.mem_cons.1 hb with e | hb
      · rw [e]; exact hlt
      · have := h.1 b hb
        show ref < b.ref
        omega
    · rename_i hlt
      rw [List.pairwise_cons]
      refine ⟨fun b hb => ?_, srt_addL h.2 (fun b hb => hn b (List.mem_cons_of_mem _ hb))⟩
      rcases mem_addL.1 hb with e | hb
      · have := hn x (List.mem_cons_self ..)
        rw [e]
        show x.ref < ref
        omega
      · exact h.1 b hb
theorem RowsOk.add {l : List Li.LR} (h : RowsOk l) {ref : Int} (hr : Wf ref) : RowsOk (addR l ref) := by
  unfold addR
  split
  · exact h
  · rename_i hh
    rw [rowsOk_iff] at h ⊢
    obtain ⟨h1, h2, h3⟩ := h
    have n1 : ¬ ref < 1 := fun e => hh (.inl e)
    have n2 : ∀ b, b ∈ l → b.ref ≠ ref := fun b hb e => hh (.inr (.inl (by unfold rowL; rw [List.find?_isSome]; exact ⟨b, hb, by simpa using e⟩)))
    have n3 : l.length ≠ 100 := fun e => hh (.inr (.inr e))
    refine ⟨by rw [len_addL]; omega, srt_addL h2 n2, fun r hr' => ?_⟩
    rcases mem_addL.1 hr' with e | hb
    · rw [e]
      exact ⟨by show 1 ≤ ref; omega, by simp, by simp, fun q hq => by simp at hq, hr, fun x hx => by simp at hx, fun x hx => by simp at hx⟩
    · exact h3 r hb
end Go.Proofs.YthgbcgphkddmgaaGreat
namespace Go.Proofs.YthgbcgphkddmgaaGreat
open Go.RowKit
set_option linter.unusedVariables false
set_option linter.unusedSimpArgs false
theorem und_actors : Tryz.prog.underlying 129 = some (.map 3 143) := Tryz.underlying129
theorem zero_actor : ∀ w, (zeroValue 143).run Tryz.prog w = .ok (.pointer none) w := fun w => by kernel_rfl
theorem zero_int : ∀ w, (zeroValue 3).run Tryz.prog w = .ok (.int .i64 0) w := fun w => by kernel_rfl
theorem NdOk.setA {N : NdS} (h : NdOk N) {a' : ActS} (ha : ActOk a') : NdOk (N.setA a') :=
  { h with
    len := by rw [len_setA]; exact h.len
    srt := srt_refs (refs_setA a') h.srt
    act := fun b hb => by
      rcases mem_setA.1 hb with ⟨_, _, _, rfl⟩ | ⟨hb, _⟩
      · exact ha
      · exact h.act b hb }
theorem NdOk.delA {N : NdS} (h : NdOk N) (r : Int) : NdOk (N.delA r) :=
  { h with
    len := Nat.le_trans (List.length_filter_le _ _) h.len
    srt := h.srt.filter _
    act := fun b hb => h.act b (mem_delA.1 hb).1 }
theorem NdOk.setRows {N : NdS} (h : NdOk N) {rows : List Li.LR} (hr : RowsOk rows) : NdOk { N with rows := rows } := { h with rows := hr }
section
variable {w w' : World} {X M : Nat → Prop} {base T p : Nat} {P : Int → Nat} {N : NdS}
theorem NodeAt.ok (h : NodeAt w X M base T p P N) : NdOk N := h.1
theorem NodeAt.xlt (h : NodeAt w X M base T p P N) : ∀ k, X k → k < w.heap.size := h.2.1
theorem NodeAt.up (h : NodeAt w X M base T p P N) {T' : Nat} (hT : T ≤ T') : NodeAt w X M base T' p P N := by
  obtain ⟨h1, h2, h3, mb, hb, MA, ob, sb, h4, h5⟩ := h
  exact ⟨h1, h2, h3, mb, hb, MA, ob, sb, h4.up hT, h5⟩
/-- only new memory has come -/
theorem NodeAt.new (h : NodeAt w X M base T p P N) {S : Nat → Prop} (hf : Fr S w w') (hS : ∀ k, S k → False) : NodeAt w' X M base T p P N :=
  h.fr hf (fun k hk => (hS k hk).elim) (fun _ h => h) (fun k hk => .inl hk) (fun k _ hs => hS k hs)
theorem NodeAt.below (h : NodeAt w X M base T p P N) (hb : Below w.heap.size w w') : NodeAt w' X M base T p P N := h.new (Fr.of_below (S := fun _ => False) hb) (fun _ h => h)
theorem NodeAt.p_lt (h : NodeAt w X M base T p P N) : p < w.heap.size := by
  obtain ⟨h1, h2, h3, mb, hb, MA, ob, sb, h4, h5⟩ := h
  exact h4.lt.1
theorem NodeAt.pM (h : NodeAt w X M base T p P N) : M p ∧ X p ∧ base ≤ p := by
  obtain ⟨h1, h2, h3, mb, hb, MA, ob, sb, h4, h5⟩ := h
  exact ⟨h5.p, h3 p h5.p⟩
theorem NodeAt.setRows (h : NodeAt w X M base T p P N) {v : Value} {rows : List Li.LR} (hr : RowsAt w X v rows) (hk : RowsOk rows) : NodeAt (w.setCell ⟨p, 4, none⟩ v) X M base T p P { N with rows := rows } := by
  obtain ⟨h1, h2, h3, mb, hb, MA, ob, sb, h4, h5⟩ := h
  exact ⟨h1.setRows hk, fun k hk => by simpa using h2 k hk, h3, mb, hb, MA, ob, sb, h4.set4 (h3 p h5.p) hr, h5.p, h5.mb, h5.hb, h5.ob, h5.sb, h5.act⟩
theorem NodeAt.lim (h : NodeAt w X M base T p P N) : N.out.length + 201 * N.acts.length ≤ T := by
  obtain ⟨h1, h2, h3, mb, hb, MA, ob, sb, h4, h5⟩ := h
  exact h4.lim.1
/-- the map of the actors, as it is looked up -/
theorem NodeAt.look (h : NodeAt w X M base T p P N) : ∃ mb, w.cell? ⟨p, 3, none⟩ = some (.map (some mb)) ∧ mb < w.heap.size ∧ M mb ∧ (∀ x a, N.find x = some a → ∃ pa, pa = P x ∧ pa < w.heap.size ∧ M pa ∧ pa ≠ p ∧ pa ≠ mb ∧ ∀ W, Fr (fun k => M k ∧ k ≠ mb) w W → (Instr.lookup 129 (.map (some mb)) (.int .i64 x) false).run Tryz.prog W = .ok (.pointer (some ⟨pa, 0, none⟩)) W) ∧
    (∀ x, Wf x → N.has x = false → ∀ W, Fr (fun k => M k ∧ k ≠ mb) w W → (Instr.lookup 129 (.map (some mb)) (.int .i64 x) false).run Tryz.prog W = .ok (.pointer none) W) := by
  obtain ⟨h1, h2, h3, mb, hb, MA, ob, sb, h4, h5⟩ := h
  refine ⟨mb, h4.c3, h4.lt.2.1, h5.mb, fun x a ha => ?_, fun x hx hn W hf => ?_⟩
  · obtain ⟨hm, rfl⟩ := find_some ha
    obtain ⟨b, rb, kb, ib, hA⟩ := h4.acts a hm
    have hP := hA.mine.1
    refine ⟨P a.ref, rfl, hA.lt.1, h5.act a hm _ hP, (h4.own a hm _ hP).1, (h4.own a hm _ hP).2.1, fun W hf => ?_⟩
    have := (h4.am.fr hf (fun h => h.2 rfl)).look und_actors zero_actor (h1.act a hm).ref
    rw [if_pos (has_iff.2 ⟨a, hm, rfl⟩)] at this
    exact this
  · have := (h4.am.fr hf (fun h => h.2 rfl)).look und_actors zero_actor hx
    rw [hn] at this
    exact this
/-- an actor of the node: taken out, turned, put back -/
theorem NodeAt.act (h : NodeAt w X M base T p P N) {x : Int} {a : ActS} (ha : N.find x = some a) : ∃ pa b rb kb ib MA mb, pa = P x ∧ w.cell? ⟨p, 3, none⟩ = some (.map (some mb)) ∧ ActG w X base T MA pa b rb kb ib a ∧ (∀ k, MA k → M k ∧ k ≠ p ∧ k ≠ mb) ∧ (∀ W, Fr (fun k => M k ∧ k ≠ mb) w W → (Instr.lookup 129 (.map (some mb)) (.int .i64 x) false).run Tryz.prog W = .ok (.pointer (some ⟨pa, 0, none⟩)) W) ∧
    (∀ w' X' MA' T' a', (∀ k, X k → X' k) → (∀ k, X' k → X k ∨ w.heap.size ≤ k ∧ k < w'.heap.size) → (∀ k, MA' k → MA k ∨ w.heap.size ≤ k) → (∀ k, MA' k → X' k) → (∃ b rb kb ib, ActG w' X' base T' MA' pa b rb kb ib a') → Fr MA w w' → a'.ref = a.ref → ActOk a' → T ≤ T' →
      Gr X M w X' (fun k => M k ∨ MA' k) w' ∧ NodeAt w' X' (fun k => M k ∨ MA' k) base T' p P (N.setA a')) := by
  obtain ⟨h1, h2, h3, mb, hb, MA, ob, sb, h4, h5⟩ := h
  obtain ⟨hm, rfl⟩ := find_some ha
  obtain ⟨b, rb, kb, ib, hA⟩ := h4.acts a hm
  refine ⟨P a.ref, b, rb, kb, ib, MA a.ref, mb, rfl, h4.c3, hA, fun k hk => ⟨h5.act a hm k hk, (h4.own a hm k hk).1, (h4.own a hm k hk).2.1⟩, fun W hf => ?_, ?_⟩
  · have := (h4.am.fr hf (fun h => h.2 rfl)).look und_actors zero_actor (h1.act a hm).ref
    rw [if_pos (has_iff.2 ⟨a, hm, rfl⟩)] at this
    exact this
  · intro w' X' MA' T' a' g1 g2 g3 g4 ⟨b', rb', kb', ib', g5⟩ g6 g7 g8 g9
    have hz := g6.size
    have hlb : base ≤ w.heap.size := by have := (h3 p h5.p).2; have := h4.lt.1; omega
    refine ⟨⟨g6.weak (fun k hk => h5.act a hm k hk), g1, fun k hk => by rcases g2 k hk with h | h; exact .inl h; exact .inr h.1, fun k hk => ?_⟩, h1.setA g8, fun k hk => ?_, fun k hk => ?_, mb, hb, _, ob, sb, h4.setA h1.srt h5 h3 h2 hm g6 g1 (fun k hk => by rcases g2 k hk with h | h; exact .inl h; exact .inr h.1) g9 g5 g3 g7, ⟨.inl h5.p, .inl h5.mb, .inl h5.hb, fun k hk => .inl (h5.ob k hk), fun k hk => .inl (h5.sb k hk), fun c hc k hk => ?_⟩⟩
    · rcases hk with hk | hk
      · exact .inl hk
      · rcases g3 k hk with h | h
        · exact .inl (h5.act a hm k h)
        · exact .inr h
    · rcases g2 k hk with h | h
      · exact Nat.lt_of_lt_of_le (h2 k h) hz
      · exact h.2
    · rcases hk with hk | hk
      · exact ⟨g1 k (h3 k hk).1, (h3 k hk).2⟩
      · refine ⟨g4 k hk, ?_⟩
        rcases g3 k hk with h | h
        · exact (h3 k (h5.act a hm k h)).2
        · omega
    · by_cases e : c.ref = a.ref
      · rw [if_pos e] at hk
        exact .inr hk
      · rw [if_neg e] at hk
        rcases mem_setA.1 hc with ⟨_, _, _, rfl⟩ | ⟨hc, _⟩
        · exact absurd g7 e
        · exact .inl (h5.act c hc k hk)
end
set_option maxRecDepth 100000 in
set_option maxHeartbeats 4000000 in
theorem change_nd {w : World} {X M : Nat → Prop} {base T p : Nat} {P : Int → Nat} {N : NdS} {A : Option Addr} {n c : Nat} {x : Int} {rows : List Li.LR} (h : NodeAt w X M base T p P N) (hl : (x = 0 ∧ RowsAt w X (.slice A n c) rows) ∨ (x ≠ 0 ∧ rows = N.rows)) (hok : RowsOk rows) :
    Calls Tryz.prog 94 #[.pointer (some ⟨p, 0, none⟩), .slice A n c, .int .i64 x] w (NdPost X M base T p P { N with rows := rows } w (.tuple #[])) := by
  rcases hl with ⟨rfl, hr⟩ | ⟨hx, rfl⟩
  · have HS := Lib.hid (h.setRows hr hok)
    have hM := h.pM.1
    obtain ⟨h1, h2, h3, mb, hb, MA, ob, sb, h4, h5⟩ := h
    obtain ⟨v, c4, _⟩ := h4.c4
    have fz := h4.fz
    clear h1 h2 h3 h4 h5 hr hok
    go_enter Tryz.func94, Tryz.ntmps94
    go_wp2_with fail
    exact bodyPost_end (results_none rfl _ _ _) rfl ⟨rfl, X, M, ⟨(Fr.refl M w).set (.inl hM) _, fun _ h => h, fun _ h => .inl h, fun _ h => .inl h⟩, HS.out⟩
  · have HS := Lib.hid h
    have hx' : (x == 0) = false := by simpa using hx
    clear h hok hx
    go_enter Tryz.func94, Tryz.ntmps94
    go_wp2_with fail
    exact bodyPost_end (results_none rfl _ _ _) rfl ⟨rfl, X, M, Gr.refl X M w, HS.out⟩
end Go.Proofs.YthgbcgphkddmgaaGreat
namespace Go.Proofs.YthgbcgphkddmgaaGreat
open Go.RowKit
set_option linter.unusedVariables false
set_option linter.unusedSimpArgs false
structure OutW (o : OutS) : Prop where
  num : o.kind = 3 → Wf o.num
  vn : Wf o.vn
  kd : o.kind = 1 ∨ o.kind = 2 ∨ o.kind = 3 ∨ o.kind = 7
theorem wf0 : Wf 0 := Wf.of (by decide) (by decide)
theorem wf_wrap (x : Int) : Wf (wrap64 x) := by
  unfold wrap64
  exact Wf.of (by omega) (by omega)
theorem runR_w {r : RunS} (h : RunOk r) (f : Nat) : OutW (runR f r).2 := by
  unfold runR
  split
  · exact ⟨fun e => (by cases e), wf0, .inl rfl⟩
  split
  · exact ⟨fun _ => h.wf 0, wf_wrap _, .inr (.inr (.inl rfl))⟩
  split
  · exact ⟨fun e => (by cases e), wf0, .inr (.inl rfl)⟩
  · exact ⟨fun e => (by cases e), wf0, .inr (.inr (.inr rfl))⟩
theorem runD_r (f : Nat) (d : DiaS) : (runD f d).1.r = (runR f d.r).1 ∧ (runD f d).2 = (runR f d.r).2 ∧ (runD f d).1.nm = d.nm := by
  unfold runD
  dsimp only
  split <;> exact ⟨rfl, rfl, rfl⟩
/-- an actor that ran, and does not wait -/
theorem ActOk.ran {a : ActS} (h : ActOk a) (f : Nat) (hw : a.waits = false) : ActOk { a with d := (runD f a.d).1 } ∧ OutW (runD f a.d).2 := by
  obtain ⟨e1, e2, _⟩ := runD_r f a.d
  refine ⟨⟨h.box, h.ref, fun hh => ?_, ?_⟩, by rw [e2]; exact runR_w h.run f⟩
  · rw [show a.waits = true from hh] at hw; cases hw
  · show RunOk (runD f a.d).1.r
    rw [e1]
    exact h.run.run f
/-- what offers, ends of waits and references leave of a diary -/
structure SameD (d d' : DiaS) : Prop where
  st : d'.r.st = d.r.st
  pump : d'.r.pump = d.r.pump
theorem SameD.refl (d : DiaS) : SameD d d := ⟨rfl, rfl⟩
theorem offerD_same (d : DiaS) (v : VT) : SameD d (offerD d v).1 := by
  unfold offerD
  split
  · dsimp only
    split
    · unfold offerR
      split
      · exact ⟨rfl, rfl⟩
      · exact ⟨rfl, rfl⟩
    · exact SameD.refl d
  · exact SameD.refl d
theorem lateD_same (d : DiaS) : SameD d (lateD d) := by
  unfold lateD
  split
  · exact ⟨rfl, rfl⟩
  · exact SameD.refl d
theorem ActOk.same {a : ActS} (h : ActOk a) {d : DiaS} (hd : SameD a.d d) {box : List LT} {pos : Nat} {kn : Int → Bool} (hb : BoxOk box pos) : ActOk { a with d := d, box := box, pos := pos, waits := false, knows := kn } :=
  ⟨hb, h.ref, (fun e => by cases e), ⟨by show d.r.pump = true → d.r.st.length = 3; rw [hd.st, hd.pump]; exact h.run.p3, by show d.r.st.length ≤ 10; rw [hd.st]; exact h.run.len, by show ∀ i, (Lit.int .i64 (stN d.r.st i).2).wf = true; rw [hd.st]; exact h.run.wf⟩⟩
theorem wakeA_ok {a : ActS} (h : ActOk a) : ActOk (wakeA a).1 ∧ (wakeA a).1.ref = a.ref ∧ ((wakeA a).2 = true → (wakeA a).1.waits = false) := by
  obtain ⟨b1, b2, b3⟩ := h.box
  unfold wakeA
  split
  · rename_i i hi
    refine ⟨h.same (offerD_same _ _) ⟨?_, Nat.zero_le _, fun x hx => b3 x (List.mem_of_mem_eraseIdx hx)⟩, rfl, fun _ => rfl⟩
    exact Nat.le_trans (List.length_eraseIdx_le _ _) b1
  · split
    · exact ⟨h.same (lateD_same _) ⟨b1, Nat.le_refl _, b3⟩, rfl, fun _ => rfl⟩
    · exact ⟨{ h with box := ⟨b1, Nat.le_refl _, b3⟩ }, rfl, fun e => by cases e⟩
theorem waitA_ok {a : ActS} (h : ActOk a) (h7 : a.d.dk = 7) (n : Int) : ActOk (waitA a n) :=
  { h with box := ⟨h.box.1, Nat.zero_le _, h.box.2.2⟩, waits := fun _ => h7 }
end Go.Proofs.YthgbcgphkddmgaaGreat
