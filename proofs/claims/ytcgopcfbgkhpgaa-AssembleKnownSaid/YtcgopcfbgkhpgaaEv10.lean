/- The reckoner: calls, rounds of loops over functions, returns. No program is named. -/
import Derived.Test.YtcgopcfbgkhpgaaEv9
namespace Go.Proofs.Ytcgopcfbgkhpgaa.Ev
open Go.RowKit
variable {P : Program} {γ γ' : G} {w0 : Bs} {w : World} {H H' : Tr EK} {n n' : Nat} {T : Tr EV}

/-! ### more steps of the machine -/
section
variable {fn : FuncId} {tmps : Array Value} {k : List Item} {ds : List Deferred} {ro : Option Nat} {cs : List Frame}
theorem st_take {todo : List Item} {b : Nat} (hb : w.heap[b]? = some (.deferred (some []))) :
    step P (lone { fram fn tmps todo ({ target := .collected b, args := #[] } :: ds) ro with mode := .returning } cs w) = .next (lone { fram fn tmps todo ds ro with mode := .returning } cs (w.putObj b (.deferred none))) :=
  step_lone_go (by simp [stepG, unwind, Sem.runT_eq, run_takeDeferred hb])
theorem st_defer {ops : Array Oper} {i : Nat} {rest : List Nat} {o : Oper} {c : Call} {d : Deferred} (ho : ops[i]? = some o) (hw : Region.wanted o (yielded ops tmps) = true) (hop : o.op = .defer c) (hr : (execOp (opEval tmps) o).run P w = .ok (.defer d) w) :
    step P (lone (fram fn tmps (.inRegion ops (i :: rest) :: k) ds none) cs w) = .next (lone (fram fn (putD tmps o.dst undef) (.inRegion ops rest :: k) (d :: ds) none) cs w) := by
  have he : (fram fn tmps (.inRegion ops (i :: rest) :: k) ds none).eval = opEval tmps := funext fun c => by cases c <;> rfl
  simp only [fram] at he
  have hf := finish_op (fn := fn) (tmps := tmps) (k := k) (ds := d :: ds) (ro := none) (rest := rest) ho undef
  simp only [fram] at hf
  refine step_lone_go ?_
  simp [stepG, stepG.exec, stepG.oper, stepG.apply, Frame.oper?, fram, ho, hw, he, hr, hf]
theorem st_return {todo : List Item} {c : Frame} {v : Value} {F : Func} (hf : P.funcs[fn]? = some F) (hr : (results F tmps).run P w = .ok v w) :
    step P (lone { fram fn tmps todo [] ro with mode := .returning } (c :: cs) w) = .next (lone (c.finish v) cs w) :=
  step_leave_returned ⟨rfl, rfl, rfl, F, hf, hr⟩
theorem st_endRound {jump : Option Code} {todo : List Item} {l : Nat} {r : Loop} {c : Frame} (ht : (todo = [] ∧ jump = none) ∨ (∃ k, todo = .code .ret :: k ∧ jump = some .ret) ∨ (∃ id k, todo = .code (.exit id) :: k ∧ exitTo id k = none ∧ jump = some (.exit id))) (h : w.heap[l]? = some (.loop r)) :
    step P (lone (fram fn tmps todo ds (some l)) (c :: cs) w) = .next (lone (c.finish (.bool jump.isNone)) cs (w.putObj l (.loop { r with state := if jump.isNone then .ready else .done, pending := jump }))) := by
  refine step_lone_go ?_
  rcases ht with ⟨rfl, rfl⟩ | ⟨k, rfl, rfl⟩ | ⟨id, k, rfl, hx, rfl⟩
  · simp [stepG, stepG.exec, Sem.runT_eq, run_endRound _ h, doReturn]
  · simp [stepG, stepG.exec, Sem.runT_eq, run_endRound _ h, doReturn]
  · simp [stepG, stepG.exec, Sem.runT_eq, run_endRound _ h, doReturn, hx]
theorem st_beginRound {l : Nat} {r : Loop} (h : w.heap[l]? = some (.loop r)) (hr : r.state = .ready) :
    step P (lone (fram fn tmps (.beginRound :: k) ds (some l)) cs w) = .next (lone (fram fn tmps k ds (some l)) cs (w.putObj l (.loop { r with state := .busy }))) :=
  step_lone_go (by simp [stepG, stepG.exec, stepG.apply, Sem.runT_eq, run_beginRound h hr, Frame.finish])
theorem st_endLoop {l : Nat} {r : Loop} (h : w.heap[l]? = some (.loop r)) (hb : r.state ≠ .busy) :
    step P (lone (fram fn tmps (.endRangeFunc l :: k) ds ro) cs w) = .next (lone (fram fn tmps ((r.pending.map Item.code).toList ++ k) ds ro) cs (w.putObj l (.loop { r with state := .exhausted }))) :=
  step_lone_go (by simp [stepG, stepG.exec, Sem.runT_eq, run_endLoop h hb])
theorem st_rangeFunc {f : Operand} {ps : Array Tmp} {as bd : Code} {l : Nat} {mark : List Deferred} {w1 w2 : World} {g : FuncId} {args : Array Value}
    (he : (Instr.enterLoop fn tmps ps as bd ro).run P w = .ok (l, mark) w1)
    (hc : (do let d ← resolve (opEval tmps) { callee := .value f, args := #[.const (.func (.yield l) #[] #[])], argTypes := #[] } 0; invoke d.target d.args : Sem Next).run P w1 = .ok (.enter g args) w2) :
    step P (lone (fram fn tmps (.code (.rangeFunc f ps as bd) :: k) ds ro) cs w) = .next (lone (Frame.enter P g args .normal) (fram fn tmps (.inRangeFunc l :: k) (mark ++ ds) ro :: cs) w2) := by
  have e : (fram fn tmps (.inRangeFunc l :: k) (mark ++ ds) ro).eval = opEval tmps := funext fun c => by cases c <;> rfl
  simp only [fram] at e
  refine step_lone_go ?_
  simp only [stepG, stepG.exec, Sem.runT_eq, he]
  simp only [GStep.bare_after, stepG.apply, e, Sem.runT_eq, hc, if_true]
  simp
end
end Go.Proofs.Ytcgopcfbgkhpgaa.Ev
