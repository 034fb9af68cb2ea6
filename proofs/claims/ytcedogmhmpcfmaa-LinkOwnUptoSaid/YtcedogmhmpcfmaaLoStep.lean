/- A call of one argument at a step of a region that draws its order. -/
import Derived.Test.YtcedogmhmpcfmaaKeep
import Derived.Deep.RegionHeld3
namespace Go.Proofs.Ytcedogmhmpcfmaa
open Go.RowKit
set_option linter.unusedVariables false
theorem step_call1 {ops : Array Oper} {o : Oper} {a : Act} {w : World} {K : Act → World → Prop} {Q : Exit → Act → World → Prop} {E : Prop} (hgd : o.guard = none) (f : FuncId) (hen : ∀ args w, (callFunc f args).run Try.prog w = .ok (.enter f args) w) (s : Operand) (t : TypeId)
    (ho : o.op = .call { callee := .value (.func f), args := #[s], argTypes := #[t] }) (x : Value) (hs : a.eval s = x) {R : Ending → World → Prop} (hc : Calls Try.prog f #[x] w R)
    (h : ∀ e w', R e w' → ∃ v, e = .returned v ∧ K (a.put o.dst v) w') :
    if Region.wanted o (yielded ops a.tmps) = true then Oper.wp Try.prog o a w K Q else E := by
  have hw : Region.wanted o (yielded ops a.tmps) = true := by simp [Region.wanted, hgd]
  rw [if_pos hw]
  have key : (execOp a.eval o).run Try.prog w = .ok (.enter f #[x]) w := by
    unfold execOp
    have hf : a.eval (.func f) = .func (.func f) #[] #[] := by simp [Act.eval]
    simp only [ho, resolve, invoke, Sem.run_bind, List.map_toArray, List.map_cons, List.map_nil, hs, hf]
    simp [Deferred.ofValue, go_sem, hen]
  unfold Oper.wp
  rw [key, Oper.upon_enter]
  refine hc.mono ?_
  intro e w' hR
  obtain ⟨v, rfl, hK⟩ := h e w' hR
  exact hK
end Go.Proofs.Ytcedogmhmpcfmaa
