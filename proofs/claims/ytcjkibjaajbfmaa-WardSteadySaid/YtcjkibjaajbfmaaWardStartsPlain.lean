/- Plain facts on who lives, is stopped and is started by a termination. -/
import Derived.Test.YtcjkibjaajbfmaaWardPlain
namespace Go.Proofs.Ytcjkibjaajbfmaa
set_option linter.unusedVariables false
theorem ksUp_nodup (P : Nat → Bool) (fr to : Nat) : (ksUp P fr to).Nodup := (ksUp_sorted P fr to).imp (by intro a b h; omega)
theorem idsOf_off (R : Nat → Ch) (a b : Nat) (l : List Nat) : idsOf (offR R a b) l = idsOf R l := by
  unfold idsOf
  apply List.map_congr_left
  intro k _
  unfold offR
  split <;> rfl
theorem starts_perm {R : Nat → Ch} {i fr to : Nat} (h1 : fr ≤ i) (h2 : i < to) (hl : (R i).lives = true) : (stopIds (offR R i (i + 1)) fr to ++ [(R i).id]).Perm (startIds R fr to) := by
  unfold stopIds startIds
  rw [idsOf_off]
  have e : ∀ l : List Nat, idsOf R l ++ [(R i).id] = idsOf R (l ++ [i]) := fun l => by simp [idsOf]
  rw [e]
  unfold idsOf
  apply List.Perm.map
  have hn : i ∉ ksUp (livesB (offR R i (i + 1))) fr to := by
    rw [mem_ksUp]
    rintro ⟨_, _, h⟩
    simp [livesB, offR] at h
  rw [List.perm_ext_iff_of_nodup ?_ (ksUp_nodup _ _ _)]
  · intro k
    rw [List.mem_append, List.mem_reverse, mem_ksUp, mem_ksUp, List.mem_singleton]
    by_cases hk : k = i
    · subst hk
      simp [livesB, hl, h1, h2]
    · have : livesB (offR R i (i + 1)) k = livesB R k := by
        unfold livesB offR
        rw [if_neg (by omega)]
      rw [this]
      constructor
      · rintro (h | h)
        · exact h
        · exact absurd h hk
      · exact .inl
  · rw [List.nodup_append]
    refine ⟨by unfold List.Nodup; rw [List.pairwise_reverse]; exact (ksUp_nodup _ _ _).imp Ne.symm, by simp, ?_⟩
    intro a ha b hb
    rw [List.mem_singleton] at hb
    rw [List.mem_reverse] at ha
    rintro rfl
    subst hb
    exact hn ha
theorem frto {W : Wd} {i : Nat} (hi : i < W.n) : frOf W i ≤ i ∧ i < toOf W i := by
  unfold frOf toOf
  constructor
  · split <;> omega
  · split <;> omega
/-- who lives afterwards; whom the supervisor starts -/
theorem res_starts {W : Wd} {i : Nat} {failed : Bool} {now id : Int} {R' : Nat → Ch} {T' st sp : List Int} {g : Bool} (h : DownRes W i failed now R' T' sp st g) (hok : DownOk W id now i) :
    (∀ k, k < W.n → (R' k).id = (W.R k).id ∧ (R' k).lives = (if ((W.R k).id == id) = true then decide (0 < st.length) else ((W.R k).lives && !g))) ∧
    ((st = [] ∧ (sp = [] ∨ g = true)) ∨ (0 < st.length ∧ g = false ∧ (sp ++ [id]).Perm st)) ∧ sp.length ≤ 20 ∧ st.length ≤ 20 := by
  obtain ⟨ok, hi, hid, hl, _⟩ := hok
  have hn := ok.2.1
  have key : ∀ k, k < W.n → (((W.R k).id == id) = true ↔ k = i) := fun k hk => by
    rw [beq_iff_eq, ← hid]
    exact ⟨fun e => id_inj ok.2.2.2.1 hk hi e, fun e => by rw [e]⟩
  have hto : toOf W i ≤ W.n := by unfold toOf; split <;> omega
  rcases h with ⟨_, h1, _, rfl, rfl, rfl⟩ | ⟨_, _, h1, _, rfl, rfl, rfl⟩ | ⟨_, _, h1, _, rfl, rfl, rfl⟩
  · refine ⟨fun k hk => ?_, .inl ⟨rfl, .inl rfl⟩, by simp, by simp⟩
    rw [h1 k hk]
    by_cases e : k = i
    · rw [if_pos ((key k hk).2 e)]
      subst e
      simp [offR]
    · rw [if_neg (fun h => e ((key k hk).1 h))]
      unfold offR
      rw [if_neg (by omega)]
      simp
  · refine ⟨fun k hk => ?_, .inl ⟨rfl, .inr rfl⟩, ?_, by simp⟩
    · rw [h1 k hk]
      unfold offR
      rw [if_pos (by omega)]
      simp
    · have := stopIds_len (offR W.R i (i + 1)) 0 W.n
      omega
  · have hp := starts_perm (R := W.R) (frto hi).1 (frto hi).2 hl
    rw [hid] at hp
    have hlen : 0 < (startIds W.R (frOf W i) (toOf W i)).length := by
      have := hp.length_eq
      rw [List.length_append] at this
      simp at this
      omega
    refine ⟨fun k hk => ?_, .inr ⟨hlen, rfl, hp⟩, ?_, ?_⟩
    · rw [h1 k hk]
      by_cases e : k = i
      · rw [if_pos ((key k hk).2 e)]
        subst e
        simp [hl, hlen]
      · rw [if_neg (fun h => e ((key k hk).1 h))]
        simp
    · have := stopIds_len (offR W.R i (i + 1)) (frOf W i) (toOf W i)
      omega
    · have := startIds_len W.R (frOf W i) (toOf W i)
      omega
end Go.Proofs.Ytcjkibjaajbfmaa
