/- Plain facts on rows of quotas: one more, one less, their sums, their order. -/
import Derived.Test.YtjcegplockihfaaLimitTakeOk
namespace Go.Proofs.Ytjcegplockihfaa
set_option linter.unusedVariables false
theorem flatC_split (g : Nat → List Value) (p m : Nat) : flatC g (p + m) = flatC g p ++ flatC (fun k => g (p + k)) m := by
  induction m with
  | zero => simp [flatC]
  | succ m ih => rw [show p + (m + 1) = (p + m) + 1 by omega, flatC, ih, flatC, List.append_assoc]
theorem flatC_take {g : Nat → List Value} {sz n p : Nat} (h : ∀ k, (g k).length = sz) (hp : p ≤ n) : (flatC g n).take (p * sz) = flatC g p := by
  obtain ⟨m, rfl⟩ : ∃ m, n = p + m := ⟨n - p, by omega⟩
  rw [flatC_split, List.take_append_of_le_length (by rw [flatC_length h]; omega), List.take_of_length_le (by rw [flatC_length h]; omega)]
theorem flatC_drop {g : Nat → List Value} {sz n p : Nat} (h : ∀ k, (g k).length = sz) (hp : p ≤ n) : (flatC g n).drop (p * sz) = flatC (fun k => g (p + k)) (n - p) := by
  obtain ⟨m, rfl⟩ : ∃ m, n = p + m := ⟨n - p, by omega⟩
  have hl := flatC_length h p
  rw [flatC_split, List.drop_append_of_le_length (by omega), List.drop_eq_nil_of_le (by omega), List.nil_append, Nat.add_sub_cancel_left]
def insF {α : Type} (f : Nat → α) (p : Nat) (x : α) : Nat → α := fun k => if k < p then f k else if k = p then x else f (k - 1)
def delF {α : Type} (f : Nat → α) (i : Nat) : Nat → α := fun k => if k < i then f k else f (k + 1)
theorem ins_flatG {g g' : Nat → List Value} {sz n p : Nat} {x : List Value} (h : ∀ k, (g k).length = sz) (hp : p ≤ n) (hg : g' = insF g p x) :
    (flatC g n).take (p * sz) ++ x ++ (flatC g n).drop (p * sz) = flatC g' (n + 1) := by
  subst hg
  rw [flatC_take h hp, flatC_drop h hp]
  obtain ⟨m, rfl⟩ : ∃ m, n = p + m := ⟨n - p, by omega⟩
  rw [Nat.add_sub_cancel_left, show p + m + 1 = p + (1 + m) by omega, flatC_split, flatC_split, ← List.append_assoc]
  congr 1
  · congr 1
    · exact flatC_congr fun k hk => by simp [insF, hk]
    · simp [flatC, insF]
  · refine flatC_congr fun k hk => ?_
    simp only [insF]
    rw [if_neg (by omega), if_neg (by omega)]
    congr 1
    omega
theorem del_flatG {g : Nat → List Value} {sz n i : Nat} (h : ∀ k, (g k).length = sz) (hi : i < n) : (flatC g n).take (i * sz) ++ (flatC g n).drop ((i + 1) * sz) = flatC (delF g i) (n - 1) := by
  rw [flatC_take h (by omega), flatC_drop h (by omega)]
  obtain ⟨m, rfl⟩ : ∃ m, n = i + 1 + m := ⟨n - (i + 1), by omega⟩
  rw [Nat.add_sub_cancel_left, show i + 1 + m - 1 = i + m by omega, flatC_split]
  congr 1
  · exact flatC_congr fun k hk => by simp [delF, hk]
  · refine flatC_congr fun k hk => ?_
    simp only [delF]
    rw [if_neg (by omega)]
    congr 1
    omega
theorem rowC_ins (R : Nat → LRow) (p : Nat) (x : LRow) : rowC (insF R p x) = insF (rowC R) p (rowC (fun _ => x) 0) := by
  funext k
  simp only [rowC, insF]
  split
  · rfl
  · split <;> rfl
theorem rowC_del (R : Nat → LRow) (i : Nat) : rowC (delF R i) = delF (rowC R) i := by
  funext k
  simp only [rowC, delF]
  split <;> rfl
/-- sums -/
def sumF (f : Nat → Int) : Nat → Int
  | 0 => 0
  | n + 1 => sumF f n + f n
theorem sumF_congr {f g : Nat → Int} {n : Nat} (h : ∀ k, k < n → f k = g k) : sumF f n = sumF g n := by
  induction n with
  | zero => rfl
  | succ n ih => rw [sumF, sumF, ih (fun k hk => h k (by omega)), h n (by omega)]
theorem sumF_upd (f : Nat → Int) {k n : Nat} (hk : k < n) (x : Int) : sumF (updF f k x) n = sumF f n - f k + x := by
  induction n with
  | zero => omega
  | succ n ih =>
    rw [sumF, sumF]
    by_cases e : k = n
    · subst e
      rw [sumF_congr (g := f) (fun j hj => by simp [updF]; omega)]
      simp [updF]
    · rw [ih (by omega)]
      have : updF f k x n = f n := by simp [updF]; omega
      omega
theorem sumF_ins (f : Nat → Int) {p n : Nat} (hp : p ≤ n) (x : Int) : sumF (insF f p x) (n + 1) = sumF f n + x := by
  induction n with
  | zero => obtain rfl : p = 0 := by omega
            simp [sumF, insF]
  | succ n ih =>
    rw [sumF]
    by_cases e : p = n + 1
    · subst e
      rw [sumF_congr (g := f) (fun j hj => by simp [insF, hj])]
      simp [insF]
    · rw [ih (by omega), sumF]
      have : insF f p x (n + 1) = f n := by simp only [insF]; rw [if_neg (by omega), if_neg (by omega)]; rfl
      omega
theorem sumF_del (f : Nat → Int) {i n : Nat} (hi : i < n) : sumF (delF f i) (n - 1) = sumF f n - f i := by
  induction n with
  | zero => omega
  | succ n ih =>
    rw [Nat.add_sub_cancel]
    by_cases e : i = n
    · subst e
      rw [sumF_congr (g := f) (fun j hj => by simp [delF, hj]), sumF]
      omega
    · obtain ⟨m, rfl⟩ : ∃ m, n = m + 1 := ⟨n - 1, by omega⟩
      have h1 := ih (by omega)
      rw [Nat.add_sub_cancel] at h1
      show sumF (delF f i) m + delF f i m = sumF f m + f m + f (m + 1) - f i
      rw [h1]
      show sumF f m + f m - f i + _ = _
      have : delF f i m = f (m + 1) := by simp only [delF]; rw [if_neg (by omega)]
      rw [this]
      omega
def mL (R : Nat → LRow) : Nat → Int := fun k => (R k).maxL
def mC (R : Nat → LRow) : Nat → Int := fun k => (R k).maxC
theorem okL_lt {R : Nat → LRow} {n : Nat} (h : OkL R n) {j k : Nat} (hjk : j < k) (hk : k < n) : (R j).ref < (R k).ref := by
  induction k with
  | zero => omega
  | succ k ih =>
    have h1 := (h.2 (k + 1) hk).2 (by omega)
    rw [Nat.add_sub_cancel] at h1
    by_cases e : j = k
    · subst e; exact h1
    · have := ih (by omega) (by omega); omega
theorem okL_inj {R : Nat → LRow} {n : Nat} (h : OkL R n) {j k : Nat} (hj : j < n) (hk : k < n) (e : (R j).ref = (R k).ref) : j = k := by
  rcases Nat.lt_trichotomy j k with hlt | rfl | hlt
  · have := okL_lt h hlt hk; omega
  · rfl
  · have := okL_lt h hlt hj; omega
theorem okL_upd {R : Nat → LRow} {n k : Nat} (h : OkL R n) (r : LRow) (hr : r.ref = (R k).ref) (hf : FineL r) : OkL (updF R k r) n := by
  refine ⟨h.1, fun j hj => ?_⟩
  obtain ⟨h1, h2⟩ := h.2 j hj
  refine ⟨by unfold updF; split; exact hf; exact h1, fun h0 => ?_⟩
  have h3 := h2 h0
  have e : ∀ i, (updF R k r i).ref = (R i).ref := fun i => by
    unfold updF
    split
    · rename_i e; rw [e, hr]
    · rfl
  rw [e, e]; exact h3
theorem okL_ins {R : Nat → LRow} {n p : Nat} (h : OkL R n) (hn : n < 100) (x : LRow) (hf : FineL x) (hp : p ≤ n) (hlow : ∀ j, j < p → (R j).ref < x.ref) (hup : p < n → ¬ (R p).ref < x.ref) (hne : ∀ j, j < n → (R j).ref ≠ x.ref) : OkL (insF R p x) (n + 1) := by
  refine ⟨by omega, fun j hj => ?_⟩
  by_cases h1 : j < p
  · have e1 : insF R p x j = R j := by simp [insF, h1]
    have e2 : insF R p x (j - 1) = R (j - 1) := by simp only [insF]; rw [if_pos (by omega)]
    rw [e1, e2]
    exact h.2 j (by omega)
  · by_cases h2 : j = p
    · subst h2
      have e1 : insF R j x j = x := by simp [insF]
      rw [e1]
      refine ⟨hf, fun h0 => ?_⟩
      have e2 : insF R j x (j - 1) = R (j - 1) := by simp only [insF]; rw [if_pos (by omega)]
      rw [e2]
      exact hlow _ (by omega)
    · have e1 : insF R p x j = R (j - 1) := by simp only [insF]; rw [if_neg h1, if_neg h2]
      rw [e1]
      refine ⟨(h.2 (j - 1) (by omega)).1, fun h0 => ?_⟩
      by_cases h3 : j - 1 = p
      · have e2 : insF R p x (j - 1) = x := by simp [insF, h3]
        rw [e2, h3]
        have a1 := hup (by omega)
        have a2 := hne p (by omega)
        omega
      · have e2 : insF R p x (j - 1) = R (j - 1 - 1) := by simp only [insF]; rw [if_neg (by omega), if_neg h3]
        rw [e2]
        exact (h.2 (j - 1) (by omega)).2 (by omega)
theorem okL_del {R : Nat → LRow} {n i : Nat} (h : OkL R n) (hi : i < n) : OkL (delF R i) (n - 1) := by
  have := h.1
  refine ⟨by omega, fun j hj => ?_⟩
  by_cases h1 : j < i
  · have e1 : delF R i j = R j := by simp [delF, h1]
    have e2 : delF R i (j - 1) = R (j - 1) := by simp only [delF]; rw [if_pos (by omega)]
    rw [e1, e2]
    exact h.2 j (by omega)
  · have e1 : delF R i j = R (j + 1) := by simp [delF, h1]
    rw [e1]
    refine ⟨(h.2 _ (by omega)).1, fun h0 => ?_⟩
    by_cases h2 : j - 1 < i
    · have e2 : delF R i (j - 1) = R (j - 1) := by simp [delF, h2]
      rw [e2]
      exact okL_lt h (by omega) (by omega)
    · have e2 : delF R i (j - 1) = R j := by simp only [delF]; rw [if_neg h2]; congr 1; omega
      rw [e2]
      exact okL_lt h (by omega) (by omega)
/-- Give -/
def OkG (r : LRow) (l c : Int) : Prop := (0 ≤ l ∧ l ≤ 1073741824) ∧ (0 ≤ c ∧ c ≤ 1073741824) ∧ l ≤ r.letters ∧ c ≤ r.cells
def given (r : LRow) (l c : Int) : LRow := ⟨r.ref, r.letters - l, r.cells - c, r.maxL, r.maxC⟩
/-- Fork -/
def OkF (r : LRow) (l c : Int) : Prop := (0 ≤ l ∧ l ≤ 1073741824) ∧ (0 ≤ c ∧ c ≤ 1073741824) ∧ l ≤ r.maxL - r.letters ∧ c ≤ r.maxC - r.cells
def forked (r : LRow) (l c : Int) : LRow := ⟨r.ref, r.letters, r.cells, r.maxL - l, r.maxC - c⟩
def fkR (R : Nat → LRow) (k p : Nat) (to l c : Int) : Nat → LRow := insF (updF R k (forked (R k) l c)) p ⟨to, 0, 0, l, c⟩
def FkOk (R : Nat → LRow) (n : Nat) (ref to l c : Int) (k p : Nat) : Prop := OkL R n ∧ k < n ∧ (R k).ref = ref ∧ (∀ j, j < n → (R j).ref ≠ to) ∧ OkF (R k) l c ∧ n < 100 ∧
  p ≤ n ∧ (∀ j, j < p → (R j).ref < to) ∧ (p < n → ¬ (R p).ref < to)
/-- Join -/
def joined (r q : LRow) : LRow := ⟨r.ref, r.letters, r.cells, r.maxL + q.maxL, r.maxC + q.maxC⟩
def jnR (R : Nat → LRow) (k i : Nat) : Nat → LRow := delF (updF R k (joined (R k) (R i))) i
def JnOk (R : Nat → LRow) (n : Nat) (ref to : Int) (i k : Nat) : Prop := OkL R n ∧ i < n ∧ k < n ∧ (R i).ref = ref ∧ (R k).ref = to ∧ k ≠ i ∧ (R k).maxL + (R i).maxL ≤ 1073741824 ∧ (R k).maxC + (R i).maxC ≤ 1073741824
theorem upd_ref {R : Nat → LRow} {k : Nat} {r : LRow} (hr : r.ref = (R k).ref) (i : Nat) : (updF R k r i).ref = (R i).ref := by
  unfold updF
  split
  · rename_i e; rw [e, hr]
  · rfl
theorem fork_good {R : Nat → LRow} {n k p : Nat} {ref to l c : Int} (h : FkOk R n ref to l c k p) : OkL (fkR R k p to l c) (n + 1) ∧ sumF (mL (fkR R k p to l c)) (n + 1) = sumF (mL R) n ∧ sumF (mC (fkR R k p to l c)) (n + 1) = sumF (mC R) n := by
  obtain ⟨ok, hk, hr, hne, hf, hn, hp, hlow, hup⟩ := h
  obtain ⟨f1, f2, f3, f4⟩ := hf
  obtain ⟨g1, g2, g3, g4, g5, g6⟩ := (ok.2 k hk).1
  have e := upd_ref (R := R) (k := k) (r := forked (R k) l c) rfl
  refine ⟨okL_ins (okL_upd ok (forked (R k) l c) rfl ⟨g1, ?_, ?_, g4, ?_, ?_⟩) hn ⟨to, 0, 0, l, c⟩ ⟨?_, ?_, ?_, ?_, ?_, ?_⟩ hp (fun j hj => by rw [e]; exact hlow j hj) (fun h => by rw [e]; exact hup h) (fun j hj => by rw [e]; exact hne j hj), ?_, ?_⟩
  any_goals (simp only [forked]; omega)
  · have e1 : mL (fkR R k p to l c) = insF (updF (mL R) k ((R k).maxL - l)) p l := by
      funext j
      simp only [mL, fkR, insF, updF, forked]
      split
      · split <;> rfl
      · split
        · rfl
        · split <;> rfl
    rw [e1, sumF_ins _ hp, sumF_upd _ hk]
    simp only [mL]; omega
  · have e1 : mC (fkR R k p to l c) = insF (updF (mC R) k ((R k).maxC - c)) p c := by
      funext j
      simp only [mC, fkR, insF, updF, forked]
      split
      · split <;> rfl
      · split
        · rfl
        · split <;> rfl
    rw [e1, sumF_ins _ hp, sumF_upd _ hk]
    simp only [mC]; omega
theorem join_good {R : Nat → LRow} {n i k : Nat} {ref to : Int} (h : JnOk R n ref to i k) : OkL (jnR R k i) (n - 1) ∧ sumF (mL (jnR R k i)) (n - 1) = sumF (mL R) n ∧ sumF (mC (jnR R k i)) (n - 1) = sumF (mC R) n := by
  obtain ⟨ok, hi, hk, hri, hrk, hne, h1, h2⟩ := h
  obtain ⟨g1, g2, g3, g4, g5, g6⟩ := (ok.2 k hk).1
  obtain ⟨e1, e2, e3, e4, e5, e6⟩ := (ok.2 i hi).1
  refine ⟨okL_del (okL_upd ok (joined (R k) (R i)) rfl ⟨g1, ?_, ?_, g4, ?_, ?_⟩) hi, ?_, ?_⟩
  any_goals (simp only [joined]; omega)
  · have q : mL (jnR R k i) = delF (updF (mL R) k ((R k).maxL + (R i).maxL)) i := by
      funext j
      simp only [mL, jnR, delF, updF, joined]
      split <;> split <;> rfl
    rw [q, sumF_del _ hi, sumF_upd _ hk]
    have : updF (mL R) k ((R k).maxL + (R i).maxL) i = (R i).maxL := by simp [updF, mL, Ne.symm hne]
    rw [this]
    simp only [mL]; omega
  · have q : mC (jnR R k i) = delF (updF (mC R) k ((R k).maxC + (R i).maxC)) i := by
      funext j
      simp only [mC, jnR, delF, updF, joined]
      split <;> split <;> rfl
    rw [q, sumF_del _ hi, sumF_upd _ hk]
    have : updF (mC R) k ((R k).maxC + (R i).maxC) i = (R i).maxC := by simp [updF, mC, Ne.symm hne]
    rw [this]
    simp only [mC]; omega
theorem sum_bound {R : Nat → LRow} {n : Nat} (h : OkL R n) : ∀ j, j ≤ n → (0 ≤ sumF (mL R) j ∧ sumF (mL R) j ≤ j * 1073741824) ∧ (0 ≤ sumF (mC R) j ∧ sumF (mC R) j ≤ j * 1073741824) := by
  intro j
  induction j with
  | zero => intro _; simp [sumF]
  | succ j ih =>
    intro hj
    obtain ⟨a, b⟩ := ih (by omega)
    obtain ⟨g1, g2, g3, g4, g5, g6⟩ := (h.2 j (by omega)).1
    simp only [sumF, mL, mC] at *
    omega
end Go.Proofs.Ytjcegplockihfaa
