/- What is read of a copy is what is read of the original. -/
import Derived.Test.YtkdbnkkdohkhjaaHeapLdPlain
import Derived.Test.YtkdbnkkdohkhjaaAlikeP
import Derived.Test.YtkdbnkkdohkhjaaCarryWord
namespace Go.Proofs.Ytkdbnkkdohkhjaa
open Go.RowKit
set_option linter.unusedVariables false
theorem ldArgs_congr {F G : Nat → Int → LdR} {ps qs : List Nat} {left : Int} : ∀ (n : Nat), (∀ i, i < n → ∀ z, F (nth ps i) z = G (nth qs i) z) → ldArgs F ps left n = ldArgs G qs left n := by
  intro n
  induction n with
  | zero => intro _; rfl
  | succ n ih =>
    intro h
    have e := ih (fun i hi => h i (by omega))
    simp only [ldArgs, e, h n (by omega)]
theorem leafB_at {x : Nat} (ht : tagOf (x : Int) = 4) : leafB (x : Int) = false := by
  unfold leafB
  rw [ht]
  simp
theorem leafB_not {x : Nat} (hok : okR (x : Int) = true) (ht : tagOf (x : Int) ≠ 4) : leafB (x : Int) = true := by
  unfold leafB
  have h := hok
  unfold okR at h
  simp only [Bool.and_eq_true, decide_eq_true_eq] at h
  rw [hok, Bool.true_and, decide_eq_true_eq]
  have := h.1
  omega
theorem ldv_node {h : List Nat} {a d : Nat} {left : Int} {x : Nat} (hok : okR (x : Int) = true) (ht : tagOf (x : Int) = 4) (ha : atOf x = a) (hR : ReadsOb h a) (hl : ¬ left - 1 < 0) : ldv h (d + 1) x left = ldNode (obR h a) (ldArgs (ldv h d) (obR h a).parts (left - 1) (obR h a).parts.length) := by
  have e : (numOf (x : Int)).toNat = a := ha
  rw [ldv, if_neg hl, leafB_at ht, hok, e, if_neg (by simp), if_neg (by simp), if_pos (readsV_iff.2 hR)]
/-- a copy reads as its original -/
theorem ldv_carry {f b : List Nat} {l : List Ob} {cp : List (Nat × Nat)} (C : CpOk f l cp) (hob : ObsOf b l) (hb4 : b.length ≤ 4000) : ∀ (d p q : Nat) (left : Int), okR (p : Int) = true → relP cp p q → ldv b d q left = ldv f d p left := by
  intro d
  induction d with
  | zero => intro p q left _ _; rfl
  | succ d ih =>
    intro p q left hok hrel
    by_cases ht : tagOf (p : Int) = 4
    · obtain ⟨n, hl, rfl⟩ := hrel.1 ht
      have hcp := C.copy _ _ hl
      have hn : n < b.length := by
        have h1 := hcp.lt
        rw [← hob.1] at h1
        exact h1
      obtain ⟨hw1, hw2⟩ := cw_word (p := n) (by omega)
      obtain ⟨k1, k2, k3, k4⟩ := okR_word hw2
      rw [hw1] at k1 k2 k3
      obtain ⟨lA, lB, ps, hl1, hl2, hl3, hl4⟩ := hcp.obj
      obtain ⟨hrB, hoB⟩ := obs_reads (h := b) (l := lA) (m := lB) (o := withParts (obR f (atOf p)) ps) (by rw [← hl1]; exact hob)
      rw [hl2] at hrB hoB
      have hqa : atOf (cw n) = n := by unfold atOf; rw [k3]; simp
      by_cases h0 : left - 1 < 0
      · rw [ldv, ldv, if_pos h0, if_pos h0]
      · rw [ldv_node k1 k2 hqa hrB h0, ldv_node hok ht rfl hcp.reads h0, hoB]
        have e : ldArgs (ldv b d) ps (left - 1) ps.length = ldArgs (ldv f d) (paR f (atOf p)) (left - 1) (paR f (atOf p)).length := by
          rw [hl3]
          refine ldArgs_congr _ (fun i hi z => ?_)
          have hm : nth (paR f (atOf p)) i ∈ paR f (atOf p) := by rw [nth_get hi]; exact List.getElem_mem hi
          exact ih _ _ z (C.okp _ _ hl _ hm) (hl4 i (by omega))
        show ldNode (withParts (obR f (atOf p)) ps) (ldArgs (ldv b d) ps (left - 1) ps.length) = ldNode (obR f (atOf p)) (ldArgs (ldv f d) (paR f (atOf p)) (left - 1) (paR f (atOf p)).length)
        rw [e]
        rfl
    · have hq : q = p := hrel.2 ht
      subst hq
      rw [ldv, ldv, leafB_not hok ht]
      simp
end Go.Proofs.Ytkdbnkkdohkhjaa
