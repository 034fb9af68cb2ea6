/- A new cluster: what its rounds keep. -/
import Derived.Test.YtmjihhjcgkpmhaaTnSpawn
import Derived.DeepKeys4
namespace Go.Proofs.Ytmjihhjcgkpmhaa
open Go.RowKit Go.Maps
set_option linter.unusedVariables false
theorem infoNP : (Try.prog.info? 67).map (fun i => (i.zero, i.size, i.bytes)) = some (some (.pointer none), 1, 8) := by kernel_rfl
theorem infoTP : (Try.prog.info? 48).map (fun i => (i.zero, i.size, i.bytes)) = some (some (.pointer none), 1, 8) := by kernel_rfl
theorem keysW : ((List.range 9).all fun i => (List.range 9).all fun k => (keyOf Try.prog 76 (.agg #[.int .i64 (i : Int), .int .i64 (k : Int)])).isSome) = true := by kernel_rfl
theorem keyW (i k : Nat) (hi : i < 9) (hk : k < 9) : ∃ kl, keyOf Try.prog 76 (.agg #[.int .i64 (i : Int), .int .i64 (k : Int)]) = some kl := by
  have h := List.all_eq_true.1 (List.all_eq_true.1 keysW i (List.mem_range.2 hi)) k (List.mem_range.2 hk)
  exact Option.isSome_iff_exists.1 h
set_option maxRecDepth 100000 in
theorem lawW : Keyed Try.prog 76 := Keyed.of_law (deep_law_laid (P := Try.prog) (by kernel_rfl) (m := 2) (by omega) (of_decide_eq_true (by kernel_rfl)) (by kernel_rfl) (by kernel_rfl))
def ptrs (f : Nat → Nat) (i : Nat) : List Value := (List.range i).map fun k => .pointer (some ⟨f k, 0, none⟩)
theorem ptrs_succ (f : Nat → Nat) (i : Nat) : ptrs f (i + 1) = ptrs f i ++ [.pointer (some ⟨f i, 0, none⟩)] := by simp [ptrs, List.range_succ]
theorem ptrs_congr {f g : Nat → Nat} {i : Nat} (h : ∀ k, k < i → f k = g k) : ptrs f i = ptrs g i := by
  unfold ptrs
  refine List.map_congr_left fun k hk => ?_
  rw [h k (List.mem_range.1 hk)]
/-- a cluster under way: i nodes -/
structure CB (w : World) (p me mh i : Nat) (va vb : Value) (na nb mb tb L : Nat → Nat) : Prop where
  c0 : w.cell? ⟨p, 0, none⟩ = some va
  c1 : w.cell? ⟨p, 1, none⟩ = some vb
  c2 : w.cell? ⟨p, 2, none⟩ = some (.map (some me))
  c7 : w.cell? ⟨p, 7, none⟩ = some (.map (some mh))
  fz : ∀ o, w.frozen? ⟨p, o, none⟩ = false
  ra : w.ownsRow (p + 1) 67 1 va i (ptrs nb i)
  rb : w.ownsRow (p + 1) 48 1 vb i (ptrs tb i)
  nd : ∀ k, k < i → NdAt w (nb k) ((k : Int) + 1) (na k)
  nm : ∀ k, k < i → NmAt w (tb k) ((k : Int) + 1) 0 (mb k) (fun _ => none)
  lo : ∀ k, k < i → (L (2 * k) ≤ na k ∧ L (2 * k) ≤ nb k) ∧ (na k < L (2 * k + 1) ∧ nb k < L (2 * k + 1)) ∧ (L (2 * k + 1) ≤ mb k ∧ L (2 * k + 1) ≤ tb k) ∧ mb k < L (2 * k + 2) ∧ tb k < L (2 * k + 2)
  mono : ∀ j k, j ≤ k → k ≤ 2 * i → L j ≤ L k
  l0 : p < L 0
  lw : L (2 * i) ≤ w.heap.size
  mp : me < p ∧ mh < p ∧ me ≠ mh
  ga : ∀ g, va.ownBlock = some g → ∀ k, k < i → g ≠ na k ∧ g ≠ nb k ∧ g ≠ mb k ∧ g ≠ tb k
  gb : ∀ g, vb.ownBlock = some g → ∀ k, k < i → g ≠ na k ∧ g ≠ nb k ∧ g ≠ mb k ∧ g ≠ tb k
  gab : ∀ g, va.ownBlock = some g → vb.ownBlock ≠ some g
  hm : w.ownsMap Try.prog 3 anyElem mh 0 (.map [])
theorem CB.fr {S : Nat → Prop} {w w' : World} {p me mh i : Nat} {va vb : Value} {na nb mb tb L : Nat → Nat} (H : CB w p me mh i va vb na nb mb tb L) (hf : Fr S w w') (hp : ¬ S p) (hh : ¬ S mh) (ha : ∀ g, va.ownBlock = some g → ¬ S g) (hb : ∀ g, vb.ownBlock = some g → ¬ S g) (hk : ∀ k, k < i → ¬ S (na k) ∧ ¬ S (nb k) ∧ ¬ S (mb k) ∧ ¬ S (tb k)) : CB w' p me mh i va vb na nb mb tb L :=
  ⟨hf.cell H.c0 hp, hf.cell H.c1 hp, hf.cell H.c2 hp, hf.cell H.c7 hp, fun o => (hf.frozen (World.block_lt_of_cell? w _ H.c0) hp).trans (H.fz o), hf.row H.ra ha, hf.row H.rb hb,
    fun k h => (H.nd k h).fr hf (hk k h).2.1 (hk k h).1, fun k h => (H.nm k h).fr hf (hk k h).2.2.2 (hk k h).2.2.1, H.lo, H.mono, H.l0, Nat.le_trans H.lw hf.size, H.mp, H.ga, H.gb, H.gab, hf.map H.hm hh⟩
theorem CB.below {w w' : World} {p me mh i : Nat} {va vb : Value} {na nb mb tb L : Nat → Nat} (H : CB w p me mh i va vb na nb mb tb L) (hb : Below w.heap.size w w') : CB w' p me mh i va vb na nb mb tb L :=
  H.fr (S := fun _ => False) (Fr.of_below hb) (fun h => h) (fun h => h) (fun _ _ h => h) (fun _ _ h => h) (fun _ _ => ⟨fun h => h, fun h => h, fun h => h, fun h => h⟩)
/-- all blocks of the first nodes lie above p -/
theorem CB.gt {w : World} {p me mh i : Nat} {va vb : Value} {na nb mb tb L : Nat → Nat} (H : CB w p me mh i va vb na nb mb tb L) {k : Nat} (hk : k < i) : p < na k ∧ p < nb k ∧ p < mb k ∧ p < tb k := by
  have h0 := H.l0
  have h1 := H.mono 0 (2 * k) (by omega) (by omega)
  have h2 := H.mono (2 * k) (2 * k + 1) (by omega) (by omega)
  have := H.lo k hk
  omega
/-- the map of the lines is written -/
theorem CB.ends {w w' : World} {p me mh i : Nat} {va vb : Value} {na nb mb tb L : Nat → Nat} (H : CB w p me mh i va vb na nb mb tb L) (hg : w.grownBy w' (some me)) : CB w' p me mh i va vb na nb mb tb L := by
  have hm := H.mp
  refine H.fr (S := fun b => b = me) (Fr.of_grown hg fun b e => .inl (by injection e with e; exact e.symm)) (by omega) (fun e => hm.2.2 e.symm) (fun g hg e => ?_) (fun g hg e => ?_) (fun k hk => ?_)
  · have := (H.ra.lt g hg).1; omega
  · have := (H.rb.lt g hg).1; omega
  · have := H.gt hk
    exact ⟨by omega, by omega, by omega, by omega⟩
/-- one more node -/
theorem CB.more {w w1 w2 w' : World} {p me mh i : Nat} {va vb va' vb' : Value} {na nb mb tb L : Nat → Nat} {n b m t : Nat} (H : CB w p me mh i va vb na nb mb tb L) (h1 : Below w.heap.size w w1) (h2 : Below w1.heap.size w1 w2)
    (hn : w.heap.size ≤ n ∧ w.heap.size ≤ b) (hm : w1.heap.size ≤ m ∧ w1.heap.size ≤ t) (hN : NdAt w1 b ((i : Int) + 1) n) (hM : NmAt w2 t ((i : Int) + 1) 0 m (fun _ => none))
    (hf : Fr (fun x => x = p ∨ va.ownBlock = some x ∨ vb.ownBlock = some x) w2 w') (c0 : w'.cell? ⟨p, 0, none⟩ = some va') (c1 : w'.cell? ⟨p, 1, none⟩ = some vb') (c2 : w'.cell? ⟨p, 2, none⟩ = some (.map (some me))) (c7 : w'.cell? ⟨p, 7, none⟩ = some (.map (some mh))) (fz : ∀ o, w'.frozen? ⟨p, o, none⟩ = false)
    (ra : w'.ownsRow (p + 1) 67 1 va' (i + 1) (ptrs nb i ++ [.pointer (some ⟨b, 0, none⟩)])) (rb : w'.ownsRow (p + 1) 48 1 vb' (i + 1) (ptrs tb i ++ [.pointer (some ⟨t, 0, none⟩)]))
    (oa : ∀ g, va'.ownBlock = some g → va.ownBlock = some g ∨ w2.heap.size ≤ g) (ob : ∀ g, vb'.ownBlock = some g → vb.ownBlock = some g ∨ w2.heap.size ≤ g) (oab : ∀ g, va'.ownBlock = some g → vb'.ownBlock ≠ some g) :
    ∃ L', CB w' p me mh (i + 1) va' vb' (updN na i n) (updN nb i b) (updN mb i m) (updN tb i t) L' := by
  have H2 := (H.below h1).below h2
  have s1 := h1.size
  have s2 := h2.size
  have s3 := hf.size
  have ln : n < w1.heap.size := hN.tab.lt
  have lb : b < w1.heap.size := World.block_lt_of_cell? w1 _ hN.c0
  have lm : m < w2.heap.size := hM.tab.lt
  have lt : t < w2.heap.size := hM.lt
  have hlp : p < w.heap.size := World.block_lt_of_cell? w _ H.c0
  have hlw := H.lw
  have hS : ∀ x, w.heap.size ≤ x → ¬ (x = p ∨ va.ownBlock = some x ∨ vb.ownBlock = some x) := by
    rintro x hx (h | h | h)
    · omega
    · have := (H.ra.lt x h).2; omega
    · have := (H.rb.lt x h).2; omega
  have hK : ∀ x, p < x → (∀ g, va.ownBlock = some g → g ≠ x) → (∀ g, vb.ownBlock = some g → g ≠ x) → ¬ (x = p ∨ va.ownBlock = some x ∨ vb.ownBlock = some x) := by
    rintro x hx h1 h2 (h | h | h)
    · omega
    · exact h1 x h rfl
    · exact h2 x h rfl
  have hN2 : NdAt w' b ((i : Int) + 1) n := (hN.fr (S := fun _ => False) (Fr.of_below h2) (fun h => h) (fun h => h)).fr hf (hS _ hn.2) (hS _ hn.1)
  have hM2 : NmAt w' t ((i : Int) + 1) 0 m (fun _ => none) := hM.fr hf (hS _ (by omega)) (hS _ (by omega))
  refine ⟨fun j => if j ≤ 2 * i then L j else if j = 2 * i + 1 then w1.heap.size else w2.heap.size, c0, c1, c2, c7, fz, ?_, ?_, fun k hk => ?_, fun k hk => ?_, fun k hk => ?_, fun j k hj hk => ?_, ?_, ?_, H.mp, fun g hg k hk => ?_, fun g hg k hk => ?_, oab, ?_⟩
  · rw [ptrs_succ, updN_self, ptrs_congr (g := nb) (fun k hk => updN_ne _ _ (by omega))]
    exact ra
  · rw [ptrs_succ, updN_self, ptrs_congr (g := tb) (fun k hk => updN_ne _ _ (by omega))]
    exact rb
  · by_cases e : k = i
    · subst e
      rw [updN_self, updN_self]
      exact hN2
    · have hki : k < i := by omega
      rw [updN_ne _ _ e, updN_ne _ _ e]
      have hgt := H.gt hki
      exact (H2.nd k hki).fr hf (hK _ hgt.2.1 (fun g h => (H.ga g h k hki).2.1) (fun g h => (H.gb g h k hki).2.1)) (hK _ hgt.1 (fun g h => (H.ga g h k hki).1) (fun g h => (H.gb g h k hki).1))
  · by_cases e : k = i
    · subst e
      rw [updN_self, updN_self]
      exact hM2
    · have hki : k < i := by omega
      rw [updN_ne _ _ e, updN_ne _ _ e]
      have hgt := H.gt hki
      exact (H2.nm k hki).fr hf (hK _ hgt.2.2.2 (fun g h => (H.ga g h k hki).2.2.2) (fun g h => (H.gb g h k hki).2.2.2)) (hK _ hgt.2.2.1 (fun g h => (H.ga g h k hki).2.2.1) (fun g h => (H.gb g h k hki).2.2.1))
  · by_cases e : k = i
    · subst e
      rw [updN_self, updN_self, updN_self, updN_self]
      rw [if_pos (by omega), if_neg (by omega), if_pos rfl, if_neg (by omega), if_neg (by omega)]
      omega
    · have hki : k < i := by omega
      rw [updN_ne _ _ e, updN_ne _ _ e, updN_ne _ _ e, updN_ne _ _ e, if_pos (by omega), if_pos (by omega), if_pos (by omega)]
      exact H.lo k hki
  · try dsimp only
    by_cases hj2 : j ≤ 2 * i
    · rw [if_pos hj2]
      by_cases hk2 : k ≤ 2 * i
      · rw [if_pos hk2]; exact H.mono j k hj hk2
      · have := H.mono j (2 * i) hj2 (Nat.le_refl _)
        rw [if_neg hk2]
        split <;> omega
    · rw [if_neg hj2, if_neg (show ¬ k ≤ 2 * i by omega)]
      split <;> split <;> omega
  · try dsimp only
    rw [if_pos (by omega)]
    exact H.l0
  · try dsimp only
    rw [if_neg (by omega), if_neg (by omega)]
    exact s3
  · by_cases e : k = i
    · subst e
      rw [updN_self, updN_self, updN_self, updN_self]
      rcases oa g hg with h | h
      · have := (H.ra.lt g h).2; omega
      · omega
    · have hki : k < i := by omega
      rw [updN_ne _ _ e, updN_ne _ _ e, updN_ne _ _ e, updN_ne _ _ e]
      rcases oa g hg with h | h
      · exact H.ga g h k hki
      · have a1 := (H.nd k hki).tab.lt
        have a2 := World.block_lt_of_cell? w _ (H.nd k hki).c0
        have a3 := (H.nm k hki).tab.lt
        have a4 := (H.nm k hki).lt
        dsimp only at a2
        omega
  · by_cases e : k = i
    · subst e
      rw [updN_self, updN_self, updN_self, updN_self]
      rcases ob g hg with h | h
      · have := (H.rb.lt g h).2; omega
      · omega
    · have hki : k < i := by omega
      rw [updN_ne _ _ e, updN_ne _ _ e, updN_ne _ _ e, updN_ne _ _ e]
      rcases ob g hg with h | h
      · exact H.gb g h k hki
      · have a1 := (H.nd k hki).tab.lt
        have a2 := World.block_lt_of_cell? w _ (H.nd k hki).c0
        have a3 := (H.nm k hki).tab.lt
        have a4 := (H.nm k hki).lt
        dsimp only at a2
        omega
  · refine hf.map H2.hm ?_
    have hmp := H.mp
    rintro (h | h | h)
    · omega
    · have := (H.ra.lt _ h).1; omega
    · have := (H.rb.lt _ h).1; omega
end Go.Proofs.Ytmjihhjcgkpmhaa
