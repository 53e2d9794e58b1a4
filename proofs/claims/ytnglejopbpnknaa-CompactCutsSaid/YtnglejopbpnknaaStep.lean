/- A law: a call of a Go function as a step of a region that draws its order. -/
import Derived.Test.YtnglejopbpnknaaUniq
namespace Go.Proofs.Ytnglejopbpnknaa
open Go.RowKit
theorem step_call1 {P : Program} {w : World} {ops : Array Oper} {o : Oper} {a : Act} {K : Act → World → Prop} {Q : Exit → Act → World → Prop} {E : Prop} (hgd : o.guard = none) (f : FuncId) (x : Operand) (ts : Array TypeId)
    (ho : o.op = .call { callee := .value (.func f), args := #[x], argTypes := ts }) (ef : ∀ args w, (callFunc f args).run P w = .ok (.enter f args) w) (v : Value) (hx : a.eval x = v)
    (h : Calls P f #[v] w fun e w' => ∃ r, e = .returned r ∧ K (a.put o.dst r) w') : if Region.wanted o (yielded ops a.tmps) = true then Oper.wp P o a w K Q else E := by
  have hw : Region.wanted o (yielded ops a.tmps) = true := by simp [Region.wanted, hgd]
  rw [if_pos hw]
  unfold Oper.wp execOp
  have hf : a.eval (.func f) = .func (.func f) #[] #[] := rfl
  simp only [ho, resolve, invoke, Sem.run_bind, List.map_toArray, List.map_cons, List.map_nil, hx, hf]
  have e : (Deferred.ofValue (.func (.func f) #[] #[]) #[v]).run P w = .ok { target := .fn (.func f) #[], args := #[v] } w := by simp [Deferred.ofValue, go_sem]
  rw [e]
  simp only [Result.andThen_ok, Array.append_empty, ef, Oper.upon_enter]
  refine h.mono ?_
  rintro e w' ⟨r, rfl, hk⟩
  exact hk
end Go.Proofs.Ytnglejopbpnknaa
