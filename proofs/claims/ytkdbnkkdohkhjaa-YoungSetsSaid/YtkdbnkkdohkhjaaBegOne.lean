/- roadref3.Begins. -/
import Derived.Test.YtkdbnkkdohkhjaaHeapObjs
namespace Go.Proofs.Ytkdbnkkdohkhjaa
open Go.RowKit
set_option linter.unusedVariables false
/-- an object of the list begins at a place -/
def begB (l : List Ob) (x : Int) (n : Nat) : Bool := anyOf (fun k => (((flatO (l.take k)).length : Nat) : Int) == x) n
set_option maxHeartbeats 4000000 in
set_option maxRecDepth 100000 in
theorem begins_any (A : Option Addr) (c : Nat) (l : List Ob) (C : Nat → List Value) (base : Nat) (x : Int) (w : World) (hR : ObRow w base (.slice A l.length c) l C) :
    Calls Try.prog 15 #[.slice A l.length c, .int .i64 x] w fun e w' => e = .returned (.bool (begB l x l.length)) ∧ Below w.heap.size w w' := by
  have HR := Lib.hid hR
  obtain ⟨_, cap, _, hnc, hcm, _⟩ := own_any hR.row
  have hl9 : l.length ≤ 9223372036854775807 := by omega
  clear hR
  go_enter Try.func15, Try.ntmps15
  go_wp2_with fail
  go_loopw [6, 9] (fun _ x9 wr => ∃ k : Nat, k ≤ l.length ∧ x9 = .int .i64 (k : Int) ∧ begB l x k = false ∧ Below w.heap.size w wr) (fun _ x9 _ => l.length - (intOf x9).toNat)
  case atStart => exact ⟨0, Nat.zero_le _, rfl, rfl, Below.refl _ _⟩
  case round =>
    obtain ⟨k, hk, rfl, hno, hB⟩ := hrel
    have HB := Lib.hid hB
    have HNO := Lib.hid hno
    clear hB hno
    by_cases hlt : k < l.length
    · have HRW := Lib.hid (HR.out.below HB.out)
      obtain ⟨o, ho⟩ : ∃ o, l[k]? = some o := ⟨_, List.getElem?_eq_getElem hlt⟩
      obtain ⟨pA, pc, hC, hP, _⟩ := HRW.out.each k o ho
      obtain ⟨bk, cap, hv, hbk, hlt2, _⟩ := own_form HRW.out.row (by omega)
      injection hv with hv1 _ hv3
      subst hv1 hv3
      have hcell := fun j (hj : j < 5) => own_cellC HRW.out.row HRW.out.len hlt (j := j) hj
      rw [hC] at hcell
      obtain ⟨G, hG⟩ : ∃ G, (flatO (l.take k)).length = G := ⟨_, rfl⟩
      rw [hG] at hcell
      have HG := Lib.hid hG
      have c0 : wr.cell? ⟨bk, k * 5, none⟩ = some (.int .i64 ((G : Nat) : Int)) := hcell 0 (by omega)
      have c1 : wr.cell? ⟨bk, k * 5 + 1, none⟩ = some (.int .i64 o.kind) := hcell 1 (by omega)
      have c2 : wr.cell? ⟨bk, k * 5 + 2, none⟩ = some (.int .i64 o.num) := hcell 2 (by omega)
      have c3 : wr.cell? ⟨bk, k * 5 + 3, none⟩ = some (.string o.text) := hcell 3 (by omega)
      have c4 : wr.cell? ⟨bk, k * 5 + 4, none⟩ = some (.slice pA o.parts.length pc) := hcell 4 (by omega)
      clear hC hP hcell ho hG
      by_cases he : ((G : Nat) : Int) = x
      · have e1 : (((G : Nat) : Int) == x) = true := by simpa using he
        have e2 : decide (((G : Nat) : Int) = x) = true := decide_eq_true he
        have HE := Lib.hid e1
        clear he
        go_wp2_with fail
        go_ret
        refine ⟨ret_bool ?_, HB.out.alloc HB.out.size _⟩
        unfold begB
        exact (anyOf_true.2 ⟨k, hlt, by rw [HG.out]; exact HE.out⟩).symm
      · have e1 : (((G : Nat) : Int) == x) = false := by simpa using he
        have e2 : decide (((G : Nat) : Int) = x) = false := decide_eq_false he
        have HE := Lib.hid e1
        clear he
        go_wp2_with fail
        refine ⟨⟨k + 1, by omega, by go_num, ?_, HB.out.alloc HB.out.size _⟩, by simp [intOf]; omega⟩
        unfold begB
        rw [anyOf_false]
        intro j hj
        by_cases hjk : j = k
        · subst hjk
          rw [HG.out]
          exact HE.out
        · exact anyOf_false.1 HNO.out j (by omega)
    · have hkl : k = l.length := by omega
      have g0 : decide ((k : Int) < (l.length : Int)) = false := decide_eq_false (by omega)
      have HKL := Lib.hid hkl
      clear hkl
      go_wp2_with fail
      go_ret
      exact ⟨ret_bool (by rw [← HKL.out]; exact HNO.out.symm), HB.out⟩
end Go.Proofs.Ytkdbnkkdohkhjaa
