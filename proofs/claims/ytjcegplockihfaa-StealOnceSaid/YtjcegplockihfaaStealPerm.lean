/- Pop takes one task out: what is left is a permutation of the rest. -/
import Derived.Test.YtjcegplockihfaaStealBusyWalk
namespace Go.Proofs.Ytjcegplockihfaa
open Go.RowKit
set_option linter.unusedVariables false
theorem catTo_congr {Q R : Nat → List Int} : ∀ {n : Nat}, (∀ i, i < n → Q i = R i) → catTo Q n = catTo R n := by
  intro n
  induction n with
  | zero => intro _; rfl
  | succ n ih => intro h; rw [catTo, catTo, ih fun i hi => h i (by omega), h n (by omega)]
theorem catTo_upd (Q : Nat → List Int) (L : List Int) {i : Nat} : ∀ {n : Nat}, i < n → (Q i ++ catTo (upd Q i L) n).Perm (L ++ catTo Q n) := by
  intro n
  induction n with
  | zero => intro h; omega
  | succ n ih =>
    intro h
    rw [catTo, catTo]
    by_cases e : i = n
    · subst e
      have h1 : catTo (upd Q i L) i = catTo Q i := catTo_congr fun j hj => by unfold upd; rw [if_neg (by omega)]
      have h2 : upd Q i L i = L := by unfold upd; rw [if_pos rfl]
      rw [h1, h2, ← List.append_assoc, ← List.append_assoc]
      exact (List.perm_append_comm (l₁ := Q i ++ catTo Q i) (l₂ := L)).trans (by rw [List.append_assoc]; exact List.Perm.append_left L List.perm_append_comm)
    · have h2 : upd Q i L n = Q n := by unfold upd; rw [if_neg (by omega)]
      rw [h2, ← List.append_assoc, ← List.append_assoc]
      exact (ih (by omega)).append_right _
theorem upd_same {α : Type} (f : Nat → α) (i : Nat) (x : α) : upd f i x i = x := by unfold upd; rw [if_pos rfl]
theorem upd_other {α : Type} (f : Nat → α) {i j : Nat} (x : α) (h : j ≠ i) : upd f i x j = f j := by unfold upd; rw [if_neg h]
theorem pop_perm {Q : Nat → List Int} {n cp : Nat} (hcp : cp < n) (hpos : 0 < (Q cp).length) : (lst (Q cp) ((Q cp).length - 1) :: catTo (upd Q cp (Q cp).dropLast) n).Perm (catTo Q n) := by
  have h := catTo_upd Q (Q cp).dropLast hcp
  have hne := List.ne_nil_of_length_pos hpos
  have e : Q cp = (Q cp).dropLast ++ [lst (Q cp) ((Q cp).length - 1)] := by rw [last_of hpos]; exact (List.dropLast_concat_getLast hne).symm
  have h' : ((Q cp).dropLast ++ (lst (Q cp) ((Q cp).length - 1) :: catTo (upd Q cp (Q cp).dropLast) n)).Perm ((Q cp).dropLast ++ catTo Q n) := by
    rw [← List.singleton_append, ← List.append_assoc, ← e]
    exact h
  exact (List.perm_append_left_iff _).1 h'
theorem steal_perm {Q : Nat → List Int} {n cp vv h : Nat} (hcp : cp < n) (hvv : vv < n) (hne : vv ≠ cp) (hz : (Q cp).length = 0) : (catTo (upd (upd Q cp ((Q vv).take h)) vv ((Q vv).drop h)) n).Perm (catTo Q n) := by
  have h1 := catTo_upd Q ((Q vv).take h) hcp
  rw [List.eq_nil_of_length_eq_zero hz, List.nil_append] at h1
  have h2 := catTo_upd (upd Q cp ((Q vv).take h)) ((Q vv).drop h) hvv
  rw [upd_other _ _ hne] at h2
  have h3 : (Q vv ++ catTo (upd (upd Q cp ((Q vv).take h)) vv ((Q vv).drop h)) n).Perm (Q vv ++ catTo Q n) := by
    refine h2.trans ((h1.append_left _).trans ?_)
    rw [← List.append_assoc]
    refine List.Perm.append_right _ ?_
    refine List.perm_append_comm.trans ?_
    rw [List.take_append_drop]
  exact (List.perm_append_left_iff _).1 h3
/-- lines with fewer tasks are in order too -/
theorem ok_of_perm {Q R : Nat → List Int} {n : Nat} {T : List Int} (ok : OkLs Q n) (hwf : WfQ Q n) (h : (T ++ catTo R n).Perm (catTo Q n)) : OkLs R n ∧ WfQ R n := by
  have hl := h.length_eq
  rw [List.length_append] at hl
  have h100 := ok.2.2.1
  have hnd : (T ++ catTo R n).Nodup := h.nodup_iff.2 ok.2.2.2
  refine ⟨⟨ok.1, ok.2.1, by omega, (List.nodup_append.1 hnd).2.1⟩, fun i hi => ⟨?_, fun x hx => ?_⟩⟩
  · have h1 := catTo_le R (show i + 1 ≤ n by omega)
    rw [catTo, List.length_append] at h1
    omega
  · have hm : x ∈ catTo Q n := h.mem_iff.1 (List.mem_append_right _ (mem_catTo.2 ⟨i, hi, hx⟩))
    obtain ⟨j, hj, hxj⟩ := mem_catTo.1 hm
    exact (hwf j hj).2 x hxj
def PopAny (Q : Nat → List Int) (n : Nat) (w : World) (e : Ending) (w' : World) : Prop := PopErr w e w' ∨
  ∃ A c vs t Q', e = .returned (.tuple #[.slice A n c, .int .i64 t, .int .i64 0]) ∧ OwnLs w' w.heap.size (.slice A n c) vs n Q' ∧ (t :: catTo Q' n).Perm (catTo Q n) ∧ Below w.heap.size w w'
theorem pop_any (A : Option Addr) (n c : Nat) (Q : Nat → List Int) (S : Nat → Prop) (cpu : Int) (w : World) (hn : n ≤ c) (hc : c ≤ 9223372036854775807) (hR : RdLs w S A n Q) (hwf : WfQ Q n) (ok : OkLs Q n) :
    Calls Try.prog 38 #[.slice A n c, .int .i64 cpu] w (PopAny Q n w) := by
  by_cases hcp : 0 ≤ cpu ∧ cpu < n
  rotate_left
  · exact (pop_bad A n c Q S cpu w hn hc hR hwf (fun h => hcp h.2)).mono fun e w' h => .inl h
  obtain ⟨cp, rfl⟩ : ∃ cp : Nat, cpu = cp := ⟨cpu.toNat, by omega⟩
  have hcn : cp < n := by omega
  by_cases hpos : 0 < (Q cp).length
  · refine (pop_own A n c cp Q S w hn hc hR hwf ok hcn hpos).mono ?_
    rintro e w' ⟨A', c', vs, rfl, hO, hb⟩
    exact .inr ⟨A', c', vs, _, _, rfl, hO, pop_perm hcn hpos, hb⟩
  · have hz : (Q cp).length = 0 := by omega
    by_cases hvic : vic Q n cp (n - 1) = -1
    · exact (pop_none A n c cp Q S w hn hc hR hwf ok hcn hz hvic).mono fun e w' h => .inl h
    · obtain ⟨vv, hvv, hvn, hvc, hvp⟩ := vic_some (Q := Q) (n := n) (cp := cp) (by omega) hcn hvic
      refine (pop_steal A n c cp Q S w hn hc hR hwf ok hcn hz vv hvv hvn hvc hvp).mono ?_
      rintro e w' ⟨A', c', vs, rfl, hO, hb⟩
      refine .inr ⟨A', c', vs, _, _, rfl, hO, ?_, hb⟩
      refine (pop_perm hcn ?_).trans (steal_perm hcn hvn hvc hz)
      rw [upd_other _ _ (fun e => hvc e.symm), upd_same, List.length_take]
      omega
end Go.Proofs.Ytjcegplockihfaa
