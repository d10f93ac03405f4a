/- The reckoner: frames, the machine, and the steps of code. No program is named. -/
import Derived.Test.YtcgopcfbgkhpgaaEv8b
import Derived.Conc.MuLone
namespace Go.Proofs.Ytcgopcfbgkhpgaa.Ev
open Go.RowKit
variable {P : Program} {γ γ' : G} {w0 : Bs} {w : World} {H H' : Tr EK} {n n' : Nat}

inductive IM where
  | it (x : Item)
  | ops (ops : Array Oper) (l : List Oper)
  | inRF (i : Nat)
  | endRF (i : Nat)
inductive IR (γ : G) : IM → Item → Prop where
  | it (x : Item) : IR γ (.it x) x
  | ops (ops : Array Oper) (l : List Oper) (idx : List Nat) (h : idx.map (ops[·]?) = l.map some) : IR γ (.ops ops l) (.inRegion ops idx)
  | inRF (i : Nat) (b : Pl) (m : Nat) (h : γ i = some (b, m)) : IR γ (.inRF i) (.inRangeFunc b.k)
  | endRF (i : Nat) (b : Pl) (m : Nat) (h : γ i = some (b, m)) : IR γ (.endRF i) (.endRangeFunc b.k)
theorem IR.mono (hle : GLe γ γ') {e : IM} {x : Item} (h : IR γ e x) : IR γ' e x := by
  cases h with
  | it x => exact .it x
  | ops ops l idx h => exact .ops ops l idx h
  | inRF i b m h => exact .inRF i b m (hle _ _ h)
  | endRF i b m h => exact .endRF i b m (hle _ _ h)
inductive All2 {α β : Type} (R : α → β → Prop) : List α → List β → Prop where
  | nil : All2 R [] []
  | cons {a : α} {b : β} {l : List α} {m : List β} (h : R a b) (r : All2 R l m) : All2 R (a :: l) (b :: m)
theorem All2.mono {α β : Type} {R S : α → β → Prop} (hi : ∀ a b, R a b → S a b) {l : List α} {m : List β} (h : All2 R l m) : All2 S l m := by
  induction h with
  | nil => exact .nil
  | cons h _ ih => exact .cons (hi _ _ h) ih
/-- what a frame has yet to do when it returns: the deferred calls of a loop over a function, a call of a function with so many arguments -/
inductive DE where
  | mk (i : Nat)
  | cl (g : FuncId) (k : Nat)
inductive DR (γ : G) : DE → Deferred → Prop where
  | mk (i : Nat) (b : Pl) (m : Nat) (h : γ i = some (b, m)) : DR γ (.mk i) { target := .collected b.k, args := #[] }
  | cl (g : FuncId) (k : Nat) (cap args : Array Value) (h : (args ++ cap).size = k) : DR γ (.cl g k) { target := .fn (.func g) cap, args := args }
theorem DR.mono (hle : GLe γ γ') {i : DE} {d : Deferred} (h : DR γ i d) : DR γ' i d := by
  cases h with
  | mk i b m h => exact .mk i b m (hle _ _ h)
  | cl g k cap args h => exact .cl g k cap args h
def RR (γ : G) : Option Nat → Option Nat → Prop
  | none, r => r = none
  | some i, r => ∃ (b : Pl) (m : Nat), γ i = some (b, m) ∧ r = some b.k
structure EF where
  fn : FuncId
  N : Nat
  T : Tr EV
  todo : List IM
  dfs : List DE
  round : Option Nat
  ret : Bool
def modeOf (b : Bool) : FrameMode := if b then .returning else .run
def FR (γ : G) (f : EF) (fr : Frame) : Prop := ∃ tmps todo ds ro, fr = { fn := f.fn, tmps := tmps, todo := todo, defers := ds, mode := modeOf f.ret, kind := .normal, roundOf := ro } ∧
  tmps.size = f.N ∧ TOk γ f.T tmps ∧ All2 (IR γ) f.todo todo ∧ All2 (DR γ) f.dfs ds ∧ RR γ f.round ro
theorem FR.mono (hle : GLe γ γ') {f : EF} {fr : Frame} (h : FR γ f fr) : FR γ' f fr := by
  obtain ⟨tmps, todo, ds, ro, rfl, h1, h2, h3, h4, h5⟩ := h
  refine ⟨tmps, todo, ds, ro, rfl, h1, h2.mono hle, h3.mono fun _ _ h => h.mono hle, h4.mono fun _ _ h => h.mono hle, ?_⟩
  cases hr : f.round with
  | none => rw [hr] at h5; exact h5
  | some i => rw [hr] at h5; obtain ⟨b, m, e1, e2⟩ := h5; exact ⟨b, m, hle _ _ e1, e2⟩
structure ES where
  top : EF
  rest : List EF
  H : Tr EK
  n : Nat
/-- the machine that a state speaks of: behind its frames stand the callers that it knows nothing of -/
def MR (γ : G) (w0 : Bs) (cs : List Frame) (s : ES) (m : Machine) : Prop := ∃ fr frs w, m = lone fr (frs ++ cs) w ∧ FR γ s.top fr ∧ All2 (FR γ) s.rest frs ∧ HR γ w0 s.H s.n w
inductive EO where
  | go (s : ES)
  | done (a : EV) (H : Tr EK) (n : Nat)
  | doneR (b : Bool) (H : Tr EK) (n : Nat)     -- a round is over: this goes to whoever called yield
  | fail
/-- what a step promises -/
def SOk (P : Program) (γ : G) (w0 : Bs) (cs : List Frame) (fid : FuncId) (m : Machine) : EO → Prop
  | .go s => ∃ γ' m', GLe γ γ' ∧ Steps P m m' ∧ MR γ' w0 cs s m'
  | .done a H n => ∃ γ' fr' w' v, GLe γ γ' ∧ Steps P m (lone fr' cs w') ∧ fr'.fn = fid ∧ fr'.leaving P w' (.returned v) ∧ EC γ' a v ∧ HR γ' w0 H n w'
  | .doneR b H n => ∀ c r, cs = c :: r → ∃ γ' w', GLe γ γ' ∧ Steps P m (lone (c.finish (.bool b)) r w') ∧ HR γ' w0 H n w'
  | .fail => True

/-! ### steps of the machine -/
section
variable {fn : FuncId} {tmps : Array Value} {k : List Item} {ds : List Deferred} {ro : Option Nat} {cs : List Frame}
abbrev fram (fn : FuncId) (tmps : Array Value) (todo : List Item) (ds : List Deferred) (ro : Option Nat) : Frame := { fn := fn, tmps := tmps, todo := todo, defers := ds, mode := .run, kind := .normal, roundOf := ro }
theorem st_skip : step P (lone (fram fn tmps (.code .skip :: k) ds ro) cs w) = .next (lone (fram fn tmps k ds ro) cs w) := step_lone_go (by simp [stepG, stepG.exec])
theorem st_label {l : Nat} : step P (lone (fram fn tmps (.code (.label l) :: k) ds ro) cs w) = .next (lone (fram fn tmps k ds ro) cs w) := step_lone_go (by simp [stepG, stepG.exec])
theorem st_inBlock {l : Nat} : step P (lone (fram fn tmps (.inBlock l :: k) ds ro) cs w) = .next (lone (fram fn tmps k ds ro) cs w) := step_lone_go (by simp [stepG, stepG.exec])
theorem st_inScope {c : Code} : step P (lone (fram fn tmps (.inScope c :: k) ds ro) cs w) = .next (lone (fram fn tmps k ds ro) cs w) := step_lone_go (by simp [stepG, stepG.exec])
theorem st_seq {a b : Code} : step P (lone (fram fn tmps (.code (.seq a b) :: k) ds ro) cs w) = .next (lone (fram fn tmps (.code a :: .code b :: k) ds ro) cs w) := step_lone_go (by simp [stepG, stepG.exec])
theorem st_block {id : Nat} {c : Code} : step P (lone (fram fn tmps (.code (.block id c) :: k) ds ro) cs w) = .next (lone (fram fn tmps (.code c :: .inBlock id :: k) ds ro) cs w) := step_lone_go (by simp [stepG, stepG.exec])
theorem st_loop {c : Code} : step P (lone (fram fn tmps (.code (.loop c) :: k) ds ro) cs w) = .next (lone (fram fn tmps (.code c :: .inLoop c :: k) ds ro) cs w) := step_lone_go (by simp [stepG, stepG.exec])
theorem st_inLoop {c : Code} : step P (lone (fram fn tmps (.inLoop c :: k) ds ro) cs w) = .next (lone (fram fn tmps (.code c :: .inLoop c :: k) ds ro) cs w) := step_lone_go (by simp [stepG, stepG.exec])
theorem st_scope {c : Code} : step P (lone (fram fn tmps (.code (.scope c) :: k) ds ro) cs w) = .next (lone (fram fn tmps (.code c :: .inScope c :: k) ds ro) cs w) := step_lone_go (by simp [stepG, stepG.exec])
theorem st_cond {c : Operand} {a b : Code} {t : Bool} (h : opEval tmps c = .bool t) : step P (lone (fram fn tmps (.code (.cond c a b) :: k) ds ro) cs w) = .next (lone (fram fn tmps (.code (if t then a else b) :: k) ds ro) cs w) :=
  step_lone_go (by
    have e : ∀ todo, (fram fn tmps todo ds ro).eval c = opEval tmps c := fun todo => by cases c <;> rfl
    have e := e (.code (.cond c a b) :: k)
    simp only [fram] at e
    simp [stepG, stepG.exec, e, h])
theorem st_exit {id : Nat} {k' : List Item} (h : exitTo id k = some k') : step P (lone (fram fn tmps (.code (.exit id) :: k) ds ro) cs w) = .next (lone (fram fn tmps k' ds ro) cs w) := step_lone_go (by simp [stepG, stepG.exec, h])
theorem st_region {id : Nat} {ops : Array Oper} : step P (lone (fram fn tmps (.code (.region id ops false) :: k) ds ro) cs w) = .next (lone (fram fn tmps (.inRegion ops (List.range ops.size) :: k) ds ro) cs w) := step_lone_go (by simp [stepG, stepG.exec])
theorem st_regionEnd {ops : Array Oper} : step P (lone (fram fn tmps (.inRegion ops [] :: k) ds ro) cs w) = .next (lone (fram fn tmps k ds ro) cs w) := step_lone_go (by simp [stepG, stepG.exec])
theorem st_ret : step P (lone (fram fn tmps (.code .ret :: k) ds none) cs w) = .next (lone { fram fn tmps (.code .ret :: k) ds none with mode := .returning } cs w) := step_lone_go (by simp [stepG, stepG.exec])
theorem st_end : step P (lone (fram fn tmps [] ds none) cs w) = .next (lone { fram fn tmps [] ds none with mode := .returning } cs w) := step_lone_go (by simp [stepG, stepG.exec])
def putD (tmps : Array Value) (d : Option Tmp) (v : Value) : Array Value := match d with
  | some d => tmps.setIfInBounds d v
  | none => tmps
theorem finish_op {ops : Array Oper} {i : Nat} {rest : List Nat} {o : Oper} (ho : ops[i]? = some o) (v : Value) : (fram fn tmps (.inRegion ops (i :: rest) :: k) ds ro).finish v = fram fn (putD tmps o.dst v) (.inRegion ops rest :: k) ds ro := by
  simp only [Frame.finish, fram, ho, Option.bind_some, putD]
  cases o.dst <;> rfl
theorem st_opSkip {ops : Array Oper} {i : Nat} {rest : List Nat} {o : Oper} (ho : ops[i]? = some o) (hw : Region.wanted o (yielded ops tmps) = false) :
    step P (lone (fram fn tmps (.inRegion ops (i :: rest) :: k) ds ro) cs w) = .next (lone (fram fn (putD tmps o.dst undef) (.inRegion ops rest :: k) ds ro) cs w) := by
  rw [← finish_op ho]
  exact step_lone_go (by simp [stepG, stepG.exec, ho, hw])
def notDefer : Op → Bool
  | .defer _ => false
  | _ => true
theorem stepG_oper {ops : Array Oper} {i : Nat} {rest : List Nat} {o : Oper} (ho : ops[i]? = some o) (hw : Region.wanted o (yielded ops tmps) = true) (hd : notDefer o.op = true) :
    stepG P true { frame := fram fn tmps (.inRegion ops (i :: rest) :: k) ds ro, callers := cs, status := .running, dying := none } w =
      stepG.apply P true (fram fn tmps (.inRegion ops (i :: rest) :: k) ds ro) cs none (execOp (opEval tmps) o) w := by
  have he : (fram fn tmps (.inRegion ops (i :: rest) :: k) ds ro).eval = opEval tmps := funext fun c => by cases c <;> rfl
  simp only [fram] at he
  obtain ⟨dst, op, type, pos, after, guard⟩ := o
  have hd : notDefer op = true := hd
  cases ro with
  | none => simp [stepG, stepG.exec, stepG.oper, Frame.oper?, fram, ho, hw, he]
  | some l => cases op <;> first | (simp [notDefer] at hd; done) | simp [stepG, stepG.exec, stepG.oper, Frame.oper?, fram, ho, hw, he]
theorem st_opValue {ops : Array Oper} {i : Nat} {rest : List Nat} {o : Oper} (ho : ops[i]? = some o) (hw : Region.wanted o (yielded ops tmps) = true) (hd : notDefer o.op = true) {v : Value} {w' : World} (hr : (execOp (opEval tmps) o).run P w = .ok (.value v) w') :
    step P (lone (fram fn tmps (.inRegion ops (i :: rest) :: k) ds ro) cs w) = .next (lone (fram fn (putD tmps o.dst v) (.inRegion ops rest :: k) ds ro) cs w') := by
  rw [← finish_op ho]
  refine step_lone_go ?_
  rw [stepG_oper ho hw hd]
  simp [stepG.apply, hr]
theorem st_opDone {ops : Array Oper} {i : Nat} {rest : List Nat} {o : Oper} (ho : ops[i]? = some o) (hw : Region.wanted o (yielded ops tmps) = true) (hd : notDefer o.op = true) {w' : World} (hr : (execOp (opEval tmps) o).run P w = .ok .skip w') :
    step P (lone (fram fn tmps (.inRegion ops (i :: rest) :: k) ds ro) cs w) = .next (lone (fram fn (putD tmps o.dst undef) (.inRegion ops rest :: k) ds ro) cs w') := by
  rw [← finish_op ho]
  refine step_lone_go ?_
  rw [stepG_oper ho hw hd]
  simp [stepG.apply, hr]
theorem st_opEnter {ops : Array Oper} {i : Nat} {rest : List Nat} {o : Oper} (ho : ops[i]? = some o) (hw : Region.wanted o (yielded ops tmps) = true) (hd : notDefer o.op = true) {f : FuncId} {args : Array Value} {w' : World} (hr : (execOp (opEval tmps) o).run P w = .ok (.enter f args) w') :
    step P (lone (fram fn tmps (.inRegion ops (i :: rest) :: k) ds ro) cs w) = .next (lone (Frame.enter P f args .normal) (fram fn tmps (.inRegion ops (i :: rest) :: k) ds ro :: cs) w') := by
  refine step_lone_go ?_
  rw [stepG_oper ho hw hd]
  simp [stepG.apply, hr, fram]
theorem st_opRound {ops : Array Oper} {i : Nat} {rest : List Nat} {o : Oper} (ho : ops[i]? = some o) (hw : Region.wanted o (yielded ops tmps) = true) (hd : notDefer o.op = true) {l : Nat} {f : FuncId} {ts : Array Value} {as bd : Code} {w' : World} (hr : (execOp (opEval tmps) o).run P w = .ok (.round l f ts as bd) w') :
    step P (lone (fram fn tmps (.inRegion ops (i :: rest) :: k) ds ro) cs w) = .next (lone (Frame.round l f ts as bd .normal) (fram fn tmps (.inRegion ops (i :: rest) :: k) ds ro :: cs) w') := by
  refine step_lone_go ?_
  rw [stepG_oper ho hw hd]
  simp [stepG.apply, hr, fram]
end
end Go.Proofs.Ytcgopcfbgkhpgaa.Ev
