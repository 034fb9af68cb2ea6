/- Plain lemmas on stores of texts: what is held and let go stays a valid store. -/
import Derived.Test.YtelpommocgmdjaaBlobSize
namespace Go.Proofs.Ytelpommocgmdjaa
open Go.RowKit

def Dist (T : Nat → ByteArray) (M : Nat → Int) (n : Nat) : Prop := ∀ i j, i < j → j < n → 0 < M i → 0 < M j → (T i).toList ≠ (T j).toList
def Fine (t : ByteArray) (m : Int) : Prop := 0 ≤ m ∧ m ≤ 1000 ∧ t.size ≤ 64 ∧ (m = 0 → t.toList = [])
theorem bad_fine {t : ByteArray} {m : Int} : badB t m = false ↔ Fine t m := by
  unfold badB Fine
  simp only [Bool.or_eq_false_iff, decide_eq_false_iff_not, Bool.and_eq_false_iff, beq_eq_false_iff_ne, Bool.not_eq_false', List.isEmpty_iff]
  constructor
  · rintro ⟨⟨⟨h1, h2⟩, h3⟩, h4⟩
    exact ⟨by omega, by omega, by omega, fun e => by rcases h4 with h | h; exact absurd e h; exact h⟩
  · rintro ⟨h1, h2, h3, h4⟩
    refine ⟨⟨⟨by omega, by omega⟩, by omega⟩, ?_⟩
    by_cases e : m = 0
    · exact .inr (h4 e)
    · exact .inl e
theorem dup_dist {T : Nat → ByteArray} {M : Nat → Int} {n : Nat} : (∀ k, k < n → dupB T M k = false) ↔ Dist T M n := by
  unfold dupB Dist
  constructor
  · intro h i j hij hj hi hj0 e
    have h1 := h j hj
    rw [decide_eq_true hj0, Bool.true_and] at h1
    have h2 : anyOf (hitB T M (T j)) j = true := anyOf_true.2 ⟨i, hij, by simp [hitB, hi, e]⟩
    unfold anyOf at h2
    rw [h2] at h1
    cases h1
  · intro h k hk
    by_cases h0 : 0 < M k
    · rw [decide_eq_true h0, Bool.true_and]
      have h2 : anyOf (hitB T M (T k)) k = false := anyOf_false.2 fun i hi => by
        by_cases hi0 : 0 < M i
        · have := h i k hi hk hi0 h0
          simp [hitB, this]
        · simp [hitB, hi0]
      exact h2
    · rw [decide_eq_false h0, Bool.false_and]
theorem ok_iff {T : Nat → ByteArray} {M : Nat → Int} {n : Nat} : OkS T M n ↔ n ≤ 60 ∧ (∀ k, k < n → Fine (T k) (M k)) ∧ Dist T M n := by
  constructor
  · rintro ⟨h1, h2⟩
    exact ⟨h1, fun k hk => bad_fine.1 (h2 k hk).1, dup_dist.1 fun k hk => (h2 k hk).2⟩
  · rintro ⟨h1, h2, h3⟩
    exact ⟨h1, fun k hk => ⟨bad_fine.2 (h2 k hk), dup_dist.2 h3 k hk⟩⟩
/-- a text that no entry in use has may be put into one -/
theorem ok_put {T : Nat → ByteArray} {M : Nat → Int} {n k : Nat} {x : ByteArray} {y : Int} (h60 : n ≤ 60) (hF : ∀ i, i < n → i ≠ k → Fine (T i) (M i)) (hD : ∀ i j, i < j → j < n → i ≠ k → j ≠ k → 0 < M i → 0 < M j → (T i).toList ≠ (T j).toList)
    (hf : Fine x y) (hx : 0 < y → ∀ i, i < n → i ≠ k → 0 < M i → (T i).toList ≠ x.toList) : OkS (updF T k x) (updF M k y) n := by
  rw [ok_iff]
  refine ⟨h60, fun i hi => ?_, fun i j hij hj => ?_⟩
  · unfold updF
    by_cases e : i = k
    · simp only [e, if_true]; exact hf
    · simp only [e, if_false]; exact hF i hi e
  · unfold updF
    by_cases ei : i = k
    · have ej : j ≠ k := by omega
      simp only [ei, ej, if_true, if_false]
      intro h1 h2 h3
      exact hx h1 j hj ej h2 h3.symm
    · by_cases ej : j = k
      · simp only [ei, ej, if_true, if_false]
        intro h1 h2
        exact hx h2 i (by omega) ei h1
      · simp only [ei, ej, if_false]
        exact hD i j hij hj ei ej
theorem hit_iff {T : Nat → ByteArray} {M : Nat → Int} {x : ByteArray} {k : Nat} : hitB T M x k = true ↔ 0 < M k ∧ (T k).toList = x.toList := by
  simp [hitB]
theorem hit_not {T : Nat → ByteArray} {M : Nat → Int} {x : ByteArray} {k : Nat} (h : hitB T M x k = false) (h0 : 0 < M k) : (T k).toList ≠ x.toList := by
  intro e
  have := hit_iff.2 ⟨h0, e⟩
  rw [h] at this
  cases this
theorem fine_text {x : ByteArray} {y : Int} (hx : x.size ≤ 64) (h1 : 1 ≤ y) (h2 : y ≤ 1000) : Fine x y := ⟨by omega, h2, hx, fun e => by omega⟩
theorem ok_hit {T : Nat → ByteArray} {M : Nat → Int} {n k : Nat} {x : ByteArray} {y : Int} (ok : OkS T M n) (hk : k < n) (hh : 0 < M k ∧ (T k).toList = x.toList) (hf : Fine x y) : OkS (updF T k x) (updF M k y) n := by
  obtain ⟨h60, hF, hD⟩ := ok_iff.1 ok
  refine ok_put h60 (fun i hi _ => hF i hi) (fun i j hij hj _ _ => hD i j hij hj) hf fun _ i hi hne h0 e => ?_
  rcases Nat.lt_or_gt_of_ne hne with h | h
  · exact hD i k h hk h0 hh.1 (e.trans hh.2.symm)
  · exact hD k i h hi hh.1 h0 (hh.2.trans e.symm)
theorem ok_free {T : Nat → ByteArray} {M : Nat → Int} {n k : Nat} {x : ByteArray} {y : Int} (ok : OkS T M n) (hf : Fine x y) (hno : ∀ i, i < n → hitB T M x i = false) : OkS (updF T k x) (updF M k y) n := by
  obtain ⟨h60, hF, hD⟩ := ok_iff.1 ok
  exact ok_put h60 (fun i hi _ => hF i hi) (fun i j hij hj _ _ => hD i j hij hj) hf fun _ i hi _ h0 => hit_not (hno i hi) h0
theorem ok_new {T : Nat → ByteArray} {M : Nat → Int} {n : Nat} {x : ByteArray} {y : Int} (ok : OkS T M n) (h60 : n < 60) (hf : Fine x y) (hno : ∀ i, i < n → hitB T M x i = false) : OkS (updF T n x) (updF M n y) (n + 1) := by
  obtain ⟨_, hF, hD⟩ := ok_iff.1 ok
  exact ok_put (by omega) (fun i hi hne => hF i (by omega)) (fun i j hij hj _ hje => hD i j hij (by omega)) hf fun _ i hi hne h0 => hit_not (hno i (by omega)) h0
theorem ok_less {T : Nat → ByteArray} {M : Nat → Int} {n k : Nat} {y : Int} (ok : OkS T M n) (hk : k < n) (hf : Fine (T k) y) (h0 : 0 < M k) : OkS T (updF M k y) n := by
  have := ok_hit ok hk ⟨h0, rfl⟩ hf
  have e : updF T k (T k) = T := by funext i; unfold updF; by_cases e : i = k <;> simp [e]
  rwa [e] at this
theorem ok_gone {T : Nat → ByteArray} {M : Nat → Int} {n k : Nat} {x : ByteArray} (ok : OkS T M n) (hx : x.toList = []) (hs : x.size ≤ 64) : OkS (updF T k x) (updF M k 0) n := by
  obtain ⟨h60, hF, hD⟩ := ok_iff.1 ok
  exact ok_put h60 (fun i hi _ => hF i hi) (fun i j hij hj _ _ => hD i j hij hj) ⟨by omega, by omega, hs, fun _ => hx⟩ fun h => by omega
/-- the entry of a text that is held is found again -/
theorem hit_at {T : Nat → ByteArray} {M : Nat → Int} {n k : Nat} {x : ByteArray} (ok : OkS T M n) (hk : k < n) (h0 : 0 < M k) (hx : (T k).toList = x.toList) : ixOf (hitB T M x) n = k := by
  obtain ⟨_, _, hD⟩ := ok_iff.1 ok
  refine ixOf_found hk (hit_iff.2 ⟨h0, hx⟩) fun j hj => ?_
  by_cases hj0 : 0 < M j
  · have := hD j k hj hk hj0 h0
    simp only [hitB, Bool.and_eq_false_iff, beq_eq_false_iff_ne]
    exact .inr fun e => this (e.trans hx.symm)
  · simp [hitB, hj0]
theorem sums_upd {T : Nat → ByteArray} {M : Nat → Int} {k : Nat} (h0 : 0 < M k) (n : Nat) : usedN (updF M k (M k + 1)) n = usedN M n ∧ manyN (updF M k (M k + 1)) n = manyN M n + (if k < n then 1 else 0) ∧ bytesN T (updF M k (M k + 1)) n = bytesN T M n := by
  induction n with
  | zero => simp [usedN, manyN, bytesN]
  | succ n ih =>
    obtain ⟨e1, e2, e3⟩ := ih
    have hp : (0 < updF M k (M k + 1) n) ↔ 0 < M n := by
      unfold updF
      by_cases e : n = k
      · subst e; simp; omega
      · simp [e]
    simp only [usedN, manyN, bytesN, e1, e2, e3, hp]
    by_cases e : n = k
    · subst e
      simp [updF, h0]
      omega
    · have hu : updF M k (M k + 1) n = M n := by simp [updF, e]
      rw [hu]
      refine ⟨trivial, ?_, trivial⟩
      by_cases hkn : k < n
      · rw [if_pos hkn, if_pos (show k < n + 1 by omega)]
        split <;> omega
      · rw [if_neg hkn, if_neg (show ¬ k < n + 1 by omega)]
        split <;> omega
theorem emptyOk : OkS (fun _ => ⟨#[]⟩) (fun _ => 0) 0 := ⟨by omega, fun k hk => by omega⟩
theorem rd_nil (w : World) (sz : Nat) (g : Nat → List Value) (A : Option Addr) : Rd w sz g A 0 := fun h => by omega
def aText : ByteArray := ⟨#[97]⟩
set_option maxRecDepth 100000 in
set_option maxHeartbeats 1000000 in
theorem blobs_any (w : World) : Calls Try.prog 29 #[] w fun e w' => e = .returned (.bool true) ∧ Below w.heap.size w w' := by
  have H := Lib.hid (hold_new none 0 0 (fun _ => ⟨#[]⟩) (fun _ => 0) aText w (by omega) (by omega) (fun _ => rfl) (rd_nil _ _ _ _) emptyOk (by decide) rfl rfl (by omega))
  go_enter Try.func29, Try.ntmps29
  go_wp2_with fail
  refine H.out.mono ?_
  rintro e w1 ⟨v, rfl, hown, hb⟩
  obtain ⟨g, cap, rfl, hbase, hlt, hnc, hcm⟩ := own_form hown (by omega)
  have c1 : w1.cell? ⟨g, 1, none⟩ = some (.int .i64 1) := by
    rw [hown.cellAt _ (by omega)]; rfl
  clear hown
  go_wp2_with fail
  go_ret
  exact ⟨rfl, hb⟩
end Go.Proofs.Ytelpommocgmdjaa
