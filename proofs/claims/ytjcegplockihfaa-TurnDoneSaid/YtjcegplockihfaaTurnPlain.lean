/- Plain facts on a queue of jobs. -/
import Derived.Test.YtjcegplockihfaaQueue
namespace Go.Proofs.Ytjcegplockihfaa
set_option linter.unusedVariables false
structure Jb where
  id : Int
  st : Int
def sumSt : List Jb → Int
  | [] => 0
  | j :: l => j.st + sumSt l
theorem sumSt_append (a b : List Jb) : sumSt (a ++ b) = sumSt a + sumSt b := by
  induction a with
  | nil => simp [sumSt]
  | cons j l ih => simp only [List.cons_append, sumSt, ih]; omega
def idsJ (l : List Jb) : List Int := l.map (·.id)
theorem idsJ_append (a b : List Jb) : idsJ (a ++ b) = idsJ a ++ idsJ b := by simp [idsJ]
/-- job a is done, or will be, ahead of job b -/
def Ord (f : Int) (q out : List Jb) (a b : Int) : Prop :=
  (∃ (D E : List Jb) (t : Int), out = D ++ ⟨a, t⟩ :: E ∧ b ∉ idsJ D) ∨
  (∃ (A B C : List Jb) (x y : Int), q = A ++ ⟨a, x⟩ :: (B ++ ⟨b, y⟩ :: C) ∧ x ≤ y) ∨
  (∃ (A B C : List Jb) (x y : Int), q = A ++ ⟨b, y⟩ :: (B ++ ⟨a, x⟩ :: C) ∧ x + f ≤ y)
def LagOut (l : List Jb) (f : Int) (o : Jb) : Prop := ∃ x ∈ l, x.id = o.id ∧ o.st ≤ (x.st + f - 1) / f * f * (l.length : Int)
def Lag (l : List Jb) (f : Int) (q : List Jb) (tot : Int) : Prop :=
  ∃ (r : Nat) (A B : List Jb) (K : Int), q = A ++ B ∧ tot ≤ f * K ∧ K + A.length = (r + 1 : Int) * (l.length : Int) ∧ (∀ j ∈ A, ∃ o ∈ l, o.id = j.id ∧ j.st = o.st - r * f) ∧ (∀ j ∈ B, ∃ o ∈ l, o.id = j.id ∧ j.st = o.st - (r + 1 : Int) * f)
structure PI (l : List Jb) (f : Int) (q : List Jb) (tot : Int) (out : List Jb) : Prop where
  fine : ∀ j ∈ q, 1 ≤ j.st ∧ j.st ≤ 10000
  sum : tot + sumSt q = sumSt l
  tot0 : 0 ≤ tot
  len : q.length + out.length = l.length
  ids : (idsJ q ++ idsJ out).Perm (idsJ l)
  inc : (out.map (·.st)).Pairwise (· < ·)
  low : ∀ o ∈ out, 1 ≤ o.st ∧ o.st ≤ tot
  last : out ≠ [] → ∃ D t, out = D ++ [t] ∧ (q = [] → t.st = tot)
  ord : ∀ (i k : Nat) (a b : Jb), i < k → l[i]? = some a → l[k]? = some b → a.st ≤ b.st → Ord f q out a.id b.id
  lag : Lag l f q tot
  lagO : ∀ o ∈ out, LagOut l f o
theorem sumSt_nonneg {q : List Jb} (h : ∀ j ∈ q, 1 ≤ j.st ∧ j.st ≤ 10000) : (q.length : Int) ≤ sumSt q ∧ sumSt q ≤ 10000 * q.length := by
  induction q with
  | nil => simp [sumSt]
  | cons j q ih =>
    have h1 := h j (by simp)
    have h2 := ih fun x hx => h x (by simp [hx])
    simp only [sumSt, List.length_cons]
    omega
theorem split_pair {l : List Jb} {i k : Nat} {a b : Jb} (hik : i < k) (ha : l[i]? = some a) (hb : l[k]? = some b) : ∃ A B C, l = A ++ a :: (B ++ b :: C) := by
  obtain ⟨hi, rfl⟩ := List.getElem?_eq_some_iff.1 ha
  obtain ⟨hk, rfl⟩ := List.getElem?_eq_some_iff.1 hb
  refine ⟨l.take i, (l.take k).drop (i + 1), l.drop (k + 1), ?_⟩
  have h1 : l = l.take k ++ l[k] :: l.drop (k + 1) := by
    rw [← List.drop_eq_getElem_cons hk, List.take_append_drop]
  have h2 : l.take k = l.take i ++ l[i] :: (l.take k).drop (i + 1) := by
    have h3 : i < (l.take k).length := by rw [List.length_take]; omega
    have h4 : (l.take k)[i] = l[i] := List.getElem_take
    conv => lhs; rw [← List.take_append_drop i (l.take k), List.drop_eq_getElem_cons h3, h4]
    rw [List.take_take, show min i k = i by omega]
  conv => lhs; rw [h1, h2]
  simp
theorem PI.start {l : List Jb} {f : Int} (hf : 1 ≤ f) (h : ∀ j ∈ l, 1 ≤ j.st ∧ j.st ≤ 10000) : PI l f l 0 [] := by
  refine ⟨h, by simp, by omega, by simp, by simp [idsJ], by simp, by simp, fun h => absurd rfl h, fun i k a b hik ha hb hab => ?_, ?_, by simp⟩
  · obtain ⟨A, B, C, hl⟩ := split_pair hik ha hb
    exact .inr (.inl ⟨A, B, C, a.st, b.st, hl, hab⟩)
  · exact ⟨0, l, [], 0, by simp, by simp, by simp, fun j hj => ⟨j, hj, rfl, by simp⟩, by simp⟩
theorem Ord.cont {f : Int} {q out : List Jb} {j : Jb} {a b : Int} (hf : 1 ≤ f) (hfine : ∀ x ∈ j :: q, 1 ≤ x.st) (hgt : f < j.st) (h : Ord f (j :: q) out a b) : Ord f (q ++ [⟨j.id, j.st - f⟩]) out a b := by
  rcases h with h | ⟨A, B, C, x, y, hq, hxy⟩ | ⟨A, B, C, x, y, hq, hxy⟩
  · exact .inl h
  · cases A with
    | nil =>
      simp only [List.nil_append, List.cons.injEq] at hq
      obtain ⟨rfl, rfl⟩ := hq
      exact .inr (.inr ⟨B, C, [], x - f, y, by simp, by omega⟩)
    | cons z A =>
      simp only [List.cons_append, List.cons.injEq] at hq
      obtain ⟨rfl, rfl⟩ := hq
      exact .inr (.inl ⟨A, B, C ++ [⟨j.id, j.st - f⟩], x, y, by simp, hxy⟩)
  · cases A with
    | nil =>
      simp only [List.nil_append, List.cons.injEq] at hq
      obtain ⟨rfl, rfl⟩ := hq
      exact .inr (.inl ⟨B, C, [], x, y - f, by simp, by omega⟩)
    | cons z A =>
      simp only [List.cons_append, List.cons.injEq] at hq
      obtain ⟨rfl, rfl⟩ := hq
      exact .inr (.inr ⟨A, B, C ++ [⟨j.id, j.st - f⟩], x, y, by simp, hxy⟩)
theorem Ord.done {f : Int} {q out : List Jb} {j : Jb} {a b t : Int} (hf : 1 ≤ f) (hfine : ∀ x ∈ j :: q, 1 ≤ x.st) (hle : j.st ≤ f) (hnd : (idsJ (j :: q) ++ idsJ out).Nodup) (h : Ord f (j :: q) out a b) : Ord f q (out ++ [⟨j.id, t⟩]) a b := by
  rcases h with ⟨D, E, t', hout, hb⟩ | ⟨A, B, C, x, y, hq, hxy⟩ | ⟨A, B, C, x, y, hq, hxy⟩
  · exact .inl ⟨D, E ++ [⟨j.id, t⟩], t', by rw [hout]; simp, hb⟩
  · cases A with
    | nil =>
      simp only [List.nil_append, List.cons.injEq] at hq
      obtain ⟨rfl, rfl⟩ := hq
      refine .inl ⟨out, [], t, rfl, fun hb => ?_⟩
      rw [List.nodup_append] at hnd
      exact hnd.2.2 b (by simp [idsJ]) b hb rfl
    | cons z A =>
      simp only [List.cons_append, List.cons.injEq] at hq
      obtain ⟨rfl, rfl⟩ := hq
      exact .inr (.inl ⟨A, B, C, x, y, rfl, hxy⟩)
  · cases A with
    | nil =>
      simp only [List.nil_append, List.cons.injEq] at hq
      obtain ⟨rfl, rfl⟩ := hq
      have h1 := hfine ⟨a, x⟩ (by simp)
      simp only at hle h1
      omega
    | cons z A =>
      simp only [List.cons_append, List.cons.injEq] at hq
      obtain ⟨rfl, rfl⟩ := hq
      exact .inr (.inr ⟨A, B, C, x, y, rfl, hxy⟩)
/-- the queue's first job belongs to the round under way -/
theorem Lag.head {l : List Jb} {f : Int} {j : Jb} {q : List Jb} {tot : Int} (hf : 1 ≤ f) (hl : q.length + 1 ≤ l.length) (h : Lag l f (j :: q) tot) :
    ∃ (r : Nat) (A B : List Jb) (K : Int), q = A ++ B ∧ tot ≤ f * K ∧ K + (A.length + 1 : Int) = (r + 1 : Int) * (l.length : Int) ∧ (∃ o ∈ l, o.id = j.id ∧ j.st = o.st - r * f) ∧ (∀ j ∈ A, ∃ o ∈ l, o.id = j.id ∧ j.st = o.st - r * f) ∧ (∀ j ∈ B, ∃ o ∈ l, o.id = j.id ∧ j.st = o.st - (r + 1 : Int) * f) := by
  obtain ⟨r, A, B, K, hq, ht, hK, hA, hB⟩ := h
  cases A with
  | nil =>
    simp only [List.nil_append] at hq
    subst hq
    refine ⟨r + 1, q, [], K + l.length - (q.length + 1 : Int), by simp, ?_, ?_, ?_, fun x hx => ?_, by simp⟩
    · refine Int.le_trans ht (Int.mul_le_mul_of_nonneg_left ?_ (by omega))
      omega
    · simp only [List.length_nil] at hK
      have : ((r + 1 : Nat) + 1 : Int) * (l.length : Int) = (r + 1 : Int) * (l.length : Int) + (l.length : Int) := by
        rw [Int.add_mul, Int.one_mul]; simp
      rw [this]
      simp at hK
      omega
    · obtain ⟨o, ho, h1, h2⟩ := hB j (by simp)
      exact ⟨o, ho, h1, by rw [h2]; simp⟩
    · obtain ⟨o, ho, h1, h2⟩ := hB x (by simp [hx])
      exact ⟨o, ho, h1, by rw [h2]; simp⟩
  | cons z A =>
    simp only [List.cons_append, List.cons.injEq] at hq
    obtain ⟨rfl, rfl⟩ := hq
    exact ⟨r, A, B, K, rfl, ht, by simpa using hK, hA j (by simp), fun x hx => hA x (by simp [hx]), hB⟩
theorem PI.cont {l : List Jb} {f : Int} {j : Jb} {q : List Jb} {tot : Int} {out : List Jb} (hf : 1 ≤ f) (h : PI l f (j :: q) tot out) (hgt : f < j.st) : PI l f (q ++ [⟨j.id, j.st - f⟩]) (tot + f) out := by
  have hj := h.fine j (by simp)
  have hlen := h.len
  simp only [List.length_cons] at hlen
  refine ⟨fun x hx => ?_, ?_, by have := h.tot0; omega, by simp; omega, ?_, h.inc, fun o ho => by have := h.low o ho; omega, fun hne => ?_, fun i k a b hik ha hb hab => (h.ord i k a b hik ha hb hab).cont hf (fun x hx => (h.fine x hx).1) hgt, ?_, h.lagO⟩
  · rcases List.mem_append.1 hx with hx | hx
    · exact h.fine x (by simp [hx])
    · simp at hx; subst hx; simp only; omega
  · have hs := h.sum
    rw [sumSt_append]
    simp only [sumSt] at hs ⊢
    omega
  · have hp := h.ids
    have e : idsJ (q ++ [⟨j.id, j.st - f⟩]) = idsJ q ++ [j.id] := by simp [idsJ]
    rw [e]
    refine List.Perm.trans (List.Perm.append_right _ ?_) hp
    have : idsJ (j :: q) = j.id :: idsJ q := rfl
    rw [this]
    exact List.perm_append_singleton _ _
  · obtain ⟨D, t, h1, h2⟩ := h.last hne
    exact ⟨D, t, h1, fun e => by simp at e⟩
  · obtain ⟨r, A, B, K, hq, ht, hK, ho, hA, hB⟩ := Lag.head hf (by omega) h.lag
    refine ⟨r, A, B ++ [⟨j.id, j.st - f⟩], K + 1, by rw [hq]; simp, by rw [Int.mul_add, Int.mul_one]; omega, by rw [← hK]; omega, hA, fun x hx => ?_⟩
    rcases List.mem_append.1 hx with hx | hx
    · exact hB x hx
    · simp at hx
      subst hx
      obtain ⟨o, hol, h1, h2⟩ := ho
      refine ⟨o, hol, h1, ?_⟩
      simp only
      rw [h2, Int.add_mul, Int.one_mul]
      omega
theorem rounds_eq {s f : Int} {r : Nat} (hf : 1 ≤ f) (h1 : 1 ≤ s) (h2 : s ≤ f) : (s + r * f + f - 1) / f = (r : Int) + 1 := by
  rw [show s + r * f + f - 1 = (s - 1) + (r + 1 : Int) * f by rw [Int.add_mul, Int.one_mul]; omega, Int.add_mul_ediv_right _ _ (by omega), Int.ediv_eq_zero_of_lt (by omega) (by omega)]
  omega
theorem PI.done {l : List Jb} {f : Int} {j : Jb} {q : List Jb} {tot : Int} {out : List Jb} (hf : 1 ≤ f) (hd : (idsJ l).Nodup) (h : PI l f (j :: q) tot out) (hle : j.st ≤ f) : PI l f q (tot + j.st) (out ++ [⟨j.id, tot + j.st⟩]) := by
  have hj := h.fine j (by simp)
  have hlen := h.len
  simp only [List.length_cons] at hlen
  have hnd : (idsJ (j :: q) ++ idsJ out).Nodup := h.ids.symm.nodup hd
  obtain ⟨r, A, B, K, hq, ht, hK, ⟨o, hol, ho1, ho2⟩, hA, hB⟩ := Lag.head hf (by omega) h.lag
  refine ⟨fun x hx => h.fine x (by simp [hx]), ?_, by have := h.tot0; omega, by simp; omega, ?_, ?_, fun x hx => ?_, fun _ => ⟨out, _, rfl, fun _ => rfl⟩, fun i k a b hik ha hb hab => (h.ord i k a b hik ha hb hab).done hf (fun x hx => (h.fine x hx).1) hle hnd, ?_, fun x hx => ?_⟩
  · have hs := h.sum
    simp only [sumSt] at hs
    omega
  · refine List.Perm.trans ?_ h.ids
    have e1 : idsJ (out ++ [⟨j.id, tot + j.st⟩]) = idsJ out ++ [j.id] := by simp [idsJ]
    have e2 : idsJ (j :: q) = j.id :: idsJ q := rfl
    rw [e1, e2, ← List.append_assoc]
    exact List.perm_append_singleton _ _
  · rw [List.map_append, List.pairwise_append]
    refine ⟨h.inc, by simp, fun a ha b hb => ?_⟩
    simp at hb
    subst hb
    rw [List.mem_map] at ha
    obtain ⟨o', ho', rfl⟩ := ha
    have := (h.low o' ho').2
    omega
  · rcases List.mem_append.1 hx with hx | hx
    · have := h.low x hx; omega
    · simp at hx; subst hx; simp only; have := h.tot0; omega
  · refine ⟨r, A, B, K + 1, hq, by rw [Int.mul_add, Int.mul_one]; omega, by rw [← hK]; omega, hA, hB⟩
  · rcases List.mem_append.1 hx with hx | hx
    · exact h.lagO x hx
    · simp at hx
      subst hx
      refine ⟨o, hol, ho1, ?_⟩
      simp only
      have e : (o.st + f - 1) / f = (r : Int) + 1 := by
        rw [show o.st = j.st + r * f by omega]
        exact rounds_eq hf hj.1 hle
      rw [e]
      have h1 : tot + j.st ≤ f * (K + 1) := by rw [Int.mul_add, Int.mul_one]; omega
      have h2 : f * (K + 1) ≤ f * ((r + 1 : Int) * (l.length : Int)) := Int.mul_le_mul_of_nonneg_left (by omega) (by omega)
      have h3 : ((r : Int) + 1) * f * (l.length : Int) = f * ((r + 1 : Int) * (l.length : Int)) := by
        rw [Int.mul_comm ((r : Int) + 1) f, Int.mul_assoc]
      omega
end Go.Proofs.Ytjcegplockihfaa
