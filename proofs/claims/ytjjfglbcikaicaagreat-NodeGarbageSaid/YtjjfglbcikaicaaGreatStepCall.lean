/- Calls of two and of three arguments at a step of a region that draws its order. -/
import Derived.Test.YtjjfglbcikaicaaGreatRow
import Derived.Deep.RegionHeld3
namespace Go.Proofs.YtjjfglbcikaicaaGreat
open Go.RowKit
set_option linter.unusedVariables false
theorem step_call2 {ops : Array Oper} {o : Oper} {a : Act} {w : World} {K : Act → World → Prop} {Q : Exit → Act → World → Prop} {E : Prop} (hgd : o.guard = none) (f : FuncId) (hen : ∀ args w, (callFunc f args).run Tryz.prog w = .ok (.enter f args) w) (s1 s2 : Operand) (t1 t2 : TypeId)
    (ho : o.op = .call { callee := .value (.func f), args := #[s1, s2], argTypes := #[t1, t2] }) (x1 x2 : Value) (hs1 : a.eval s1 = x1) (hs2 : a.eval s2 = x2) {R : Ending → World → Prop} (hc : Calls Tryz.prog f #[x1, x2] w R)
    (h : ∀ e w', R e w' → ∃ v, e = .returned v ∧ K (a.put o.dst v) w') :
    if Region.wanted o (yielded ops a.tmps) = true then Oper.wp Tryz.prog o a w K Q else E := by
  have hw : Region.wanted o (yielded ops a.tmps) = true := by simp [Region.wanted, hgd]
  rw [if_pos hw]
  have key : (execOp a.eval o).run Tryz.prog w = .ok (.enter f #[x1, x2]) w := by
    unfold execOp
    have hf : a.eval (.func f) = .func (.func f) #[] #[] := by simp [Act.eval]
    simp only [ho, resolve, invoke, Sem.run_bind, List.map_toArray, List.map_cons, List.map_nil, hs1, hs2, hf]
    simp [Deferred.ofValue, go_sem, hen]
  unfold Oper.wp
  rw [key, Oper.upon_enter]
  refine hc.mono ?_
  intro e w' hR
  obtain ⟨v, rfl, hK⟩ := h e w' hR
  exact hK
theorem step_call3 {ops : Array Oper} {o : Oper} {a : Act} {w : World} {K : Act → World → Prop} {Q : Exit → Act → World → Prop} {E : Prop} (hgd : o.guard = none) (f : FuncId) (hen : ∀ args w, (callFunc f args).run Tryz.prog w = .ok (.enter f args) w) (s1 s2 s3 : Operand) (t1 t2 t3 : TypeId)
    (ho : o.op = .call { callee := .value (.func f), args := #[s1, s2, s3], argTypes := #[t1, t2, t3] }) (x1 x2 x3 : Value) (hs1 : a.eval s1 = x1) (hs2 : a.eval s2 = x2) (hs3 : a.eval s3 = x3) {R : Ending → World → Prop} (hc : Calls Tryz.prog f #[x1, x2, x3] w R)
    (h : ∀ e w', R e w' → ∃ v, e = .returned v ∧ K (a.put o.dst v) w') :
    if Region.wanted o (yielded ops a.tmps) = true then Oper.wp Tryz.prog o a w K Q else E := by
  have hw : Region.wanted o (yielded ops a.tmps) = true := by simp [Region.wanted, hgd]
  rw [if_pos hw]
  have key : (execOp a.eval o).run Tryz.prog w = .ok (.enter f #[x1, x2, x3]) w := by
    unfold execOp
    have hf : a.eval (.func f) = .func (.func f) #[] #[] := by simp [Act.eval]
    simp only [ho, resolve, invoke, Sem.run_bind, List.map_toArray, List.map_cons, List.map_nil, hs1, hs2, hs3, hf]
    simp [Deferred.ofValue, go_sem, hen]
  unfold Oper.wp
  rw [key, Oper.upon_enter]
  refine hc.mono ?_
  intro e w' hR
  obtain ⟨v, rfl, hK⟩ := h e w' hR
  exact hK
end Go.Proofs.YtjjfglbcikaicaaGreat
