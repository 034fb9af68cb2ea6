/- Objects read back from their words: plain facts. -/
import Derived.Test.YtkdbnkkdohkhjaaHeapCut
namespace Go.Proofs.Ytkdbnkkdohkhjaa
open Go.RowKit
set_option linter.unusedVariables false
def All64 (h : List Nat) : Prop := ∀ x ∈ h, x < 18446744073709551616
theorem All64.nth {h : List Nat} (H : All64 h) (k : Nat) : nth h k < 18446744073709551616 := by
  by_cases hk : k < h.length
  · rw [nth_get hk]; exact H _ (List.getElem_mem hk)
  · simp [Go.Proofs.Ytkdbnkkdohkhjaa.nth, Nat.le_of_not_lt hk]
theorem All64.drop {h : List Nat} (H : All64 h) (k : Nat) : All64 (h.drop k) := fun x hx => H x (List.mem_of_mem_drop hx)
theorem All64.take {h : List Nat} (H : All64 h) (k : Nat) : All64 (h.take k) := fun x hx => H x (List.mem_of_mem_take hx)
theorem All64.append {h g : List Nat} (H : All64 h) (G : All64 g) : All64 (h ++ g) := fun x hx => by
  rcases List.mem_append.1 hx with h1 | h1
  · exact H x h1
  · exact G x h1
/-- the error where no object can be read -/
def errA (h : List Nat) (at_ : Int) : Int := if 0 ≤ at_ ∧ at_ < h.length then 3 else 4
theorem errA_ne (h : List Nat) (at_ : Int) : errA h at_ ≠ 0 := by
  unfold errA
  split <;> omega
theorem errA_in {h : List Nat} {a : Nat} (ha : a < h.length) : errA h a = 3 := by
  unfold errA
  rw [if_pos ⟨by omega, by omega⟩]
/-- an object that a heap can hold -/
structure GoodOb (o : Ob) : Prop where
  ok : okOb o = true
  num : -9223372036854775808 ≤ o.num ∧ o.num < 9223372036854775808
  parts : All64 o.parts
theorem bt_ext {s t : ByteArray} (h1 : s.size = t.size) (h2 : ∀ i, i < t.size → bt s i = bt t i) : s = t := by
  have e : s.data.toList = t.data.toList := by
    apply List.ext_getElem
    · exact h1
    · intro i hi hj
      have := h2 i hj
      unfold bt at this
      rw [List.getD_eq_getElem?_getD, List.getElem?_eq_getElem hi, List.getD_eq_getElem?_getD, List.getElem?_eq_getElem hj] at this
      exact UInt8.toNat_inj.1 this
  cases s; cases t
  simp only [ByteArray.mk.injEq]
  exact Array.toList_inj.1 e
theorem nth_append_left {l m : List Nat} {k : Nat} (h : k < l.length) : nth (l ++ m) k = nth l k := by
  unfold nth
  rw [List.getD_eq_getElem?_getD, List.getElem?_append_left h, ← List.getD_eq_getElem?_getD]
theorem nth_append_right {l m : List Nat} {k : Nat} (h : l.length ≤ k) : nth (l ++ m) k = nth m (k - l.length) := by
  unfold nth
  rw [List.getD_eq_getElem?_getD, List.getElem?_append_right h, ← List.getD_eq_getElem?_getD]
theorem nth_cons0 (x : Nat) (l : List Nat) : nth (x :: l) 0 = x := rfl
theorem nth_cons1 (x y : Nat) (l : List Nat) : nth (x :: y :: l) 1 = y := rfl
theorem head_at (o : Ob) (pre post : List Nat) : nth (pre ++ wordsO o ++ post) pre.length = headW o.kind o.text.size o.parts.length := by
  rw [List.append_assoc, nth_append_right (Nat.le_refl _), Nat.sub_self]
  unfold wordsO
  rw [List.cons_append, nth_cons0]
theorem uN_wrap {n : Int} (h : -9223372036854775808 ≤ n ∧ n < 9223372036854775808) : wrap64 ((uN n : Nat) : Int) = n := by
  have := uN_eq n
  unfold wrap64
  omega
/-- what is read at the place of an object is that object -/
theorem ob_back {o : Ob} (G : GoodOb o) (pre post : List Nat) : obR (pre ++ wordsO o ++ post) pre.length = o := by
  obtain ⟨k1, k2, k3, k4⟩ := headW_kind G.ok
  obtain ⟨q1, q2, q3, q4, q5⟩ := okOb_iff.1 G.ok
  have e0 := head_at o pre post
  have ek : kdR (pre ++ wordsO o ++ post) pre.length = o.kind.toNat := by unfold kdR; rw [e0, k1]
  have et : tbR (pre ++ wordsO o ++ post) pre.length = o.text.size := by unfold tbR; rw [e0, k2]
  have ep : plR (pre ++ wordsO o ++ post) pre.length = o.parts.length := by unfold plR; rw [e0, k3]
  have ekI : ((o.kind.toNat : Nat) : Int) = o.kind := by omega
  have hlen : (pre ++ wordsO o ++ post).length = pre.length + (1 + (numW o).length + (o.text.size + 7) / 8 + o.parts.length) + post.length := by
    rw [List.length_append, List.length_append, wordsO_len]
  have hnl : hasN o.kind = true → (numW o) = [uN o.num] := fun h => by unfold numW; rw [if_pos h]
  have hnl' : ¬ hasN o.kind = true → (numW o) = [] := fun h => by unfold numW; rw [if_neg h]
  have e1 : k1R (pre ++ wordsO o ++ post) pre.length = (numW o).length := by
    unfold k1R
    rw [ek, ekI]
    by_cases hn : hasN o.kind = true
    · have h2 := hnl hn
      rw [if_pos ⟨hn, by rw [hlen, h2]; simp; omega⟩, h2]; rfl
    · rw [if_neg (fun h => hn h.1), hnl' hn]; rfl
  have er : restR (pre ++ wordsO o ++ post) pre.length = tw (bt o.text) o.text.size ++ o.parts ++ post := by
    unfold restR
    rw [e1]
    unfold wordsO
    rw [List.append_assoc, List.drop_append, List.drop_eq_nil_of_le (by omega), List.nil_append, show pre.length + 1 + (numW o).length - pre.length = (numW o).length + 1 by omega, List.cons_append, List.drop_succ_cons,
      List.append_assoc, List.append_assoc, List.append_assoc, List.drop_append, List.drop_length, List.nil_append, Nat.sub_self, List.drop_zero]
  have hnum : nmR (pre ++ wordsO o ++ post) pre.length = o.num := by
    unfold nmR
    rw [ek, ekI]
    by_cases hn : hasN o.kind = true
    · have h2 := hnl hn
      rw [if_pos ⟨hn, by rw [hlen, h2]; simp; omega⟩, List.append_assoc, nth_append_right (by omega), show pre.length + 1 - pre.length = 1 by omega]
      have : nth (wordsO o ++ post) 1 = uN o.num := by
        unfold wordsO
        rw [h2, List.cons_append, List.append_assoc, List.append_assoc, List.cons_append, nth_cons1]
      rw [this]
      exact uN_wrap G.num
    · rw [if_neg (fun h => hn h.1)]
      rcases q5 with h | h
      · exact h.symm
      · exact absurd h hn
  have htx : txR (pre ++ wordsO o ++ post) pre.length = o.text := by
    unfold txR
    rw [et]
    have hsz : (⟨((List.range o.text.size).map fun i => UInt8.ofNat (byR (pre ++ wordsO o ++ post) pre.length i)).toArray⟩ : ByteArray).size = o.text.size := by
      show (List.toArray _).size = _
      simp
    refine bt_ext hsz fun i hi => ?_
    have hb : byR (pre ++ wordsO o ++ post) pre.length i = bt o.text i := by
      unfold byR
      rw [er, List.append_assoc, nth_append_left (by rw [tw_len]; omega)]
      exact tw_byte (bt_lt o.text) hi
    have : bt ⟨((List.range o.text.size).map fun i => UInt8.ofNat (byR (pre ++ wordsO o ++ post) pre.length i)).toArray⟩ i = (UInt8.ofNat (byR (pre ++ wordsO o ++ post) pre.length i)).toNat := by
      unfold bt
      simp [hi]
    rw [this, hb]
    have := bt_lt o.text i
    simp
    omega
  have hpa : paR (pre ++ wordsO o ++ post) pre.length = o.parts := by
    unfold paR n8R
    rw [er, et, ep, List.append_assoc, List.drop_append, List.drop_eq_nil_of_le (Nat.le_of_eq (tw_len _ _)), List.nil_append, tw_len, Nat.sub_self, List.drop_zero, List.take_left]
  unfold obR
  rw [hnum, htx, hpa, ek, ekI]
theorem reads_back {o : Ob} (G : GoodOb o) (pre post : List Nat) : ReadsOb (pre ++ wordsO o ++ post) pre.length := by
  have eb := ob_back G pre post
  obtain ⟨q1, q2, q3, q4, q5⟩ := okOb_iff.1 G.ok
  obtain ⟨k1, k2, k3, k4⟩ := headW_kind G.ok
  have hm := mostP_le o.kind
  have e0 := head_at o pre post
  have et : tbR (pre ++ wordsO o ++ post) pre.length = o.text.size := by unfold tbR; rw [e0, k2]
  have ep : plR (pre ++ wordsO o ++ post) pre.length = o.parts.length := by unfold plR; rw [e0, k3]
  have hwl := wordsO_len o
  refine ⟨by simp; omega, ⟨by omega, by omega, ?_⟩, by rw [eb]; exact G.ok, by rw [eb]; simp, ?_⟩
  · have epa : paR (pre ++ wordsO o ++ post) pre.length = o.parts := by
      have := congrArg Ob.parts eb
      exact this
    unfold n8R
    rw [et, ep]
    have hl := congrArg List.length epa
    unfold paR n8R at hl
    rw [et, ep] at hl
    rw [List.length_take, List.length_drop] at hl
    by_cases hp : o.parts.length = 0
    · have ek : kdR (pre ++ wordsO o ++ post) pre.length = o.kind.toNat := by unfold kdR; rw [e0, k1]
      have ekI : ((o.kind.toNat : Nat) : Int) = o.kind := by omega
      have : (restR (pre ++ wordsO o ++ post) pre.length).length = (pre ++ wordsO o ++ post).length - (pre.length + 1 + k1R (pre ++ wordsO o ++ post) pre.length) := by unfold restR; simp
      have hk : k1R (pre ++ wordsO o ++ post) pre.length ≤ (numW o).length := by
        unfold k1R
        rw [ek, ekI]
        split
        · rename_i h
          unfold numW
          rw [if_pos h.1]; simp
        · omega
      simp only [List.length_append] at this
      omega
    · omega
  · rw [eb, List.append_assoc, List.drop_left, List.take_left]
/-- the words of what is read are the heap's -/
theorem reads_split {h : List Nat} {a : Nat} (H : ReadsOb h a) : h.drop a = wordsO (obR h a) ++ h.drop (a + (wordsO (obR h a)).length) ∧ a + (wordsO (obR h a)).length ≤ h.length := by
  obtain ⟨h1, h2, h3, h4, h5⟩ := H
  refine ⟨?_, by omega⟩
  conv => lhs; rw [← List.take_append_drop (wordsO (obR h a)).length (h.drop a), ← h5, List.drop_drop]
theorem wrap64_in (x : Int) : -9223372036854775808 ≤ wrap64 x ∧ wrap64 x < 9223372036854775808 := by unfold wrap64; omega
theorem reads_good {h : List Nat} {a : Nat} (H : ReadsOb h a) (h64 : All64 h) : GoodOb (obR h a) := by
  refine ⟨H.2.2.1, ?_, ?_⟩
  · show -9223372036854775808 ≤ nmR h a ∧ nmR h a < 9223372036854775808
    unfold nmR
    split
    · exact wrap64_in _
    · omega
  · show All64 (paR h a)
    unfold paR restR
    exact ((h64.drop _).drop _).take _
/-- the words of some objects, one behind the other -/
def flatO (l : List Ob) : List Nat := (l.map wordsO).flatten
theorem flatO_nil : flatO [] = [] := rfl
theorem flatO_cons (o : Ob) (l : List Ob) : flatO (o :: l) = wordsO o ++ flatO l := by simp [flatO]
theorem flatO_append (l m : List Ob) : flatO (l ++ m) = flatO l ++ flatO m := by simp [flatO]
theorem flatO_snoc (l : List Ob) (o : Ob) : flatO (l ++ [o]) = flatO l ++ wordsO o := by simp [flatO]
theorem wordsO_pos (o : Ob) : 0 < (wordsO o).length := by rw [wordsO_len]; omega
/-- a heap of objects -/
def ObsOf (h : List Nat) (l : List Ob) : Prop := h = flatO l ∧ ∀ o ∈ l, GoodOb o
theorem obs_reads {h : List Nat} {l m : List Ob} {o : Ob} (H : ObsOf h (l ++ o :: m)) : ReadsOb h (flatO l).length ∧ obR h (flatO l).length = o := by
  obtain ⟨rfl, hg⟩ := H
  have G := hg o (by simp)
  rw [flatO_append, flatO_cons, ← List.append_assoc]
  exact ⟨reads_back G _ _, ob_back G _ _⟩
/-- objects ahead of a place, where a heap is one of objects -/
theorem obs_prefix : ∀ (l m : List Ob) {h : List Nat} {k : Nat}, ObsOf h m → flatO l = h.take k → k ≤ h.length → (∀ o ∈ l, GoodOb o) → ∃ r, m = l ++ r
  | [], m, h, k, _, _, _, _ => ⟨m, rfl⟩
  | o :: l, m, h, k, H, hk, hkl, hg => by
    obtain ⟨rfl, hm⟩ := H
    cases m with
    | nil =>
      have h1 := congrArg List.length hk
      have h2 := wordsO_pos o
      rw [flatO_cons, flatO_nil, List.length_append, List.length_take] at h1
      rw [flatO_nil, List.length_nil] at hkl
      simp only [List.length_nil] at h1
      omega
    | cons o' m =>
      have e : flatO (o' :: m) = wordsO o ++ (flatO l ++ (flatO (o' :: m)).drop k) := by
        rw [← List.append_assoc, ← flatO_cons, hk, List.take_append_drop]
      have h1 := ob_back (hg o (by simp)) [] (flatO l ++ (flatO (o' :: m)).drop k)
      have h2 := ob_back (hm o' (by simp)) [] (flatO m)
      rw [List.nil_append, ← flatO_cons] at h2
      rw [List.nil_append, ← e, h2] at h1
      subst h1
      rw [flatO_cons] at e
      have e2 := List.append_cancel_left e
      have hw := wordsO_pos o'
      have hkk : (wordsO o').length + (flatO l).length = k := by
        have := congrArg List.length hk
        rw [flatO_cons, List.length_append, List.length_take] at this
        omega
      obtain ⟨r, hr⟩ := obs_prefix l m (h := flatO m) (k := (flatO l).length) ⟨rfl, fun o ho => hm o (by simp [ho])⟩ (by rw [e2, List.take_left]) (by rw [e2, List.length_append]; omega) (fun o ho => hg o (by simp [ho]))
      exact ⟨r, by rw [hr]; rfl⟩
theorem obs_inj {h : List Nat} {l m : List Ob} (H : ObsOf h l) (G : ObsOf h m) : l = m := by
  obtain ⟨r, rfl⟩ := obs_prefix l m (k := h.length) G (by rw [List.take_length]; exact H.1.symm) (Nat.le_refl _) H.2
  cases r with
  | nil => simp
  | cons o r =>
    have h1 := H.1
    rw [G.1, flatO_append, flatO_cons] at h1
    have h2 := congrArg List.length h1
    have h3 := wordsO_pos o
    rw [List.length_append, List.length_append] at h2
    omega
theorem obs_snoc {h : List Nat} {l : List Ob} {o : Ob} (H : ObsOf h l) (G : GoodOb o) : ObsOf (h ++ wordsO o) (l ++ [o]) := by
  obtain ⟨rfl, hg⟩ := H
  refine ⟨(flatO_snoc l o).symm, fun x hx => ?_⟩
  rcases List.mem_append.1 hx with hx | hx
  · exact hg x hx
  · rw [List.mem_singleton.1 hx]; exact G
/-- where a read fails behind some objects there are none -/
theorem obs_none {h : List Nat} {l : List Ob} {a : Nat} (hl : flatO l = h.take a) (ha : a < h.length) (hg : ∀ o ∈ l, GoodOb o) (hno : ¬ ReadsOb h a) : ¬ ∃ m, ObsOf h m := by
  rintro ⟨m, H⟩
  obtain ⟨r, rfl⟩ := obs_prefix l m (k := a) H hl (by omega) hg
  cases r with
  | nil =>
    have h1 := H.1
    rw [List.append_nil, hl] at h1
    have := congrArg List.length h1
    rw [List.length_take] at this
    omega
  | cons o r =>
    have h1 := (obs_reads H).1
    have : (flatO l).length = a := by rw [hl, List.length_take]; omega
    rw [this] at h1
    exact hno h1
end Go.Proofs.Ytkdbnkkdohkhjaa
