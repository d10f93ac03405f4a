/- Laid together: The reckoner: frames, the machine, and the steps of code. No program is named. The reckoner: calls, rounds of loops over functions, returns. No program is named. The reckoner: one step. No program is named. The reckoner: the step of a state, whole. No program is named. The reckoner: the step of a state is sound. No program is named. The reckoner: runs, and what a run that .. -/
import Derived.Conc.MuLone
import Derived.Defers
import Derived.Orders
import Derived.Test.YtepiiaeiogdphaaTTg1
set_option linter.unusedSimpArgs false
set_option linter.unusedVariables false
noncomputable section
namespace Go.Proofs.Ytepiiaeiogdphaa.Ev
section
open Go.RowKit
variable {P:Program} {γ γ':G} {w0:Bs} {w:World} {H H':Tr EK} {n n':Nat}
inductive IM where
 | it (x:Item)
 | ops (ops:Array Oper) (l:List Oper)
 | inRF (i:Nat)
 | endRF (i:Nat)
inductive IR (γ:G):IM→Item→Prop where
 | it (x:Item):IR γ (.it x) x
 | ops (ops:Array Oper) (l:List Oper) (idx:List Nat) (h:idx.map (ops[·]?)=l.map some):IR γ (.ops ops l) (.inRegion ops idx)
 | inRF (i:Nat) (b:Pl) (m:Nat) (h:γ i=some (b,m)):IR γ (.inRF i) (.inRangeFunc b.k)
 | endRF (i:Nat) (b:Pl) (m:Nat) (h:γ i=some (b,m)):IR γ (.endRF i) (.endRangeFunc b.k)
theorem IR.mono (hle:GLe γ γ') {e:IM} {x:Item} (h:IR γ e x):IR γ' e x:=by
 cases h with
 | it x=>exact .it x
 | ops ops l idx h=>exact .ops ops l idx h
 | inRF i b m h=>exact .inRF i b m (hle _ _ h)
 | endRF i b m h=>exact .endRF i b m (hle _ _ h)
inductive All2 {α β:Type} (R:α→β→Prop):List α→List β→Prop where
 | nil:All2 R [] []
 | cons {a:α} {b:β} {l:List α} {m:List β} (h:R a b) (r:All2 R l m):All2 R (a::l) (b::m)
theorem All2.mono {α β:Type} {R S:α→β→Prop} (hi:∀ a b,R a b→S a b) {l:List α} {m:List β} (h:All2 R l m):All2 S l m:=by
 induction h with
 | nil=>exact .nil
 | cons h _ ih=>exact .cons (hi _ _ h) ih
inductive DE where
 | mk (i:Nat)
 | cl (g:FuncId) (k:Nat)
inductive DR (γ:G):DE→Deferred→Prop where
 | mk (i:Nat) (b:Pl) (m:Nat) (h:γ i=some (b,m)):DR γ (.mk i) { target:=.collected b.k,args:=#[] }
 | cl (g:FuncId) (k:Nat) (cap args:Array Value) (h:(args++cap).size=k):DR γ (.cl g k) { target:=.fn (.func g) cap,args:=args }
theorem DR.mono (hle:GLe γ γ') {i:DE} {d:Deferred} (h:DR γ i d):DR γ' i d:=by
 cases h with
 | mk i b m h=>exact .mk i b m (hle _ _ h)
 | cl g k cap args h=>exact .cl g k cap args h
def RR (γ:G):Option Nat→Option Nat→Prop
 | none,r=>r=none
 | some i,r=>∃ (b:Pl) (m:Nat),γ i=some (b,m)∧r=some b.k
structure EF where
 fn:FuncId
 N:Nat
 T:Tr EV
 todo:List IM
 dfs:List DE
 round:Option Nat
 ret:Bool
def modeOf (b:Bool):FrameMode:=if b then .returning else .run
def FR (γ:G) (f:EF) (fr:Frame):Prop:=∃ tmps todo ds ro,fr={ fn:=f.fn,tmps:=tmps,todo:=todo,defers:=ds,mode:=modeOf f.ret,kind:=.normal,roundOf:=ro } ∧
 tmps.size=f.N∧TOk γ f.T tmps∧All2 (IR γ) f.todo todo∧All2 (DR γ) f.dfs ds∧RR γ f.round ro
theorem FR.mono (hle:GLe γ γ') {f:EF} {fr:Frame} (h:FR γ f fr):FR γ' f fr:=by
 obtain ⟨tmps,todo,ds,ro,rfl,h1,h2,h3,h4,h5⟩:=h;refine ⟨tmps,todo,ds,ro,rfl,h1,h2.mono hle,h3.mono fun _ _ h=>h.mono hle,h4.mono fun _ _ h=>h.mono hle,?_⟩
 cases hr:f.round with
 | none=>rw [hr] at h5;exact h5
 | some i=>rw [hr] at h5;obtain ⟨b,m,e1,e2⟩:=h5;exact ⟨b,m,hle _ _ e1,e2⟩
structure ES where
 top:EF
 rest:List EF
 H:Tr EK
 n:Nat
def MR (γ:G) (w0:Bs) (cs:List Frame) (s:ES) (m:Machine):Prop:=∃ fr frs w,m=lone fr (frs++cs) w∧FR γ s.top fr∧All2 (FR γ) s.rest frs∧HR γ w0 s.H s.n w
inductive EO where
 | go (s:ES)
 | done (a:EV) (H:Tr EK) (n:Nat)
 | doneR (b:Bool) (H:Tr EK) (n:Nat)     -- a round is over: this goes to whoever called yield
 | fail
def SOk (P:Program) (γ:G) (w0:Bs) (cs:List Frame) (fid:FuncId) (m:Machine):EO→Prop
 | .go s=>∃ γ' m',GLe γ γ'∧Steps P m m'∧MR γ' w0 cs s m'
 | .done a H n=>∃ γ' fr' w' v,GLe γ γ'∧Steps P m (lone fr' cs w')∧fr'.fn=fid∧fr'.leaving P w' (.returned v)∧EC γ' a v∧HR γ' w0 H n w'
 | .doneR b H n=>∀ c r,cs=c::r→∃ γ' w',GLe γ γ'∧Steps P m (lone (c.finish (.bool b)) r w')∧HR γ' w0 H n w'
 | .fail=>True
section
variable {fn:FuncId} {tmps:Array Value} {k:List Item} {ds:List Deferred} {ro:Option Nat} {cs:List Frame}
abbrev fram (fn:FuncId) (tmps:Array Value) (todo:List Item) (ds:List Deferred) (ro:Option Nat):Frame:={ fn:=fn,tmps:=tmps,todo:=todo,defers:=ds,mode:=.run,kind:=.normal,roundOf:=ro }
theorem zum:step P (lone (fram fn tmps (.code .skip::k) ds ro) cs w) = .next (lone (fram fn tmps k ds ro) cs w):=step_lone_go (by simp [stepG,stepG.exec])
theorem zrh {l:Nat}:step P (lone (fram fn tmps (.code (.label l)::k) ds ro) cs w) = .next (lone (fram fn tmps k ds ro) cs w):=step_lone_go (by simp [stepG,stepG.exec])
theorem zmp {l:Nat}:step P (lone (fram fn tmps (.inBlock l::k) ds ro) cs w) = .next (lone (fram fn tmps k ds ro) cs w):=step_lone_go (by simp [stepG,stepG.exec])
theorem zmo {c:Code}:step P (lone (fram fn tmps (.inScope c::k) ds ro) cs w) = .next (lone (fram fn tmps k ds ro) cs w):=step_lone_go (by simp [stepG,stepG.exec])
theorem zwg {a b:Code}:step P (lone (fram fn tmps (.code (.seq a b)::k) ds ro) cs w) = .next (lone (fram fn tmps (.code a :: .code b::k) ds ro) cs w):=step_lone_go (by simp [stepG,stepG.exec])
theorem zrj {id:Nat} {c:Code}:step P (lone (fram fn tmps (.code (.block id c)::k) ds ro) cs w) = .next (lone (fram fn tmps (.code c :: .inBlock id::k) ds ro) cs w):=step_lone_go (by simp [stepG,stepG.exec])
theorem zun {c:Code}:step P (lone (fram fn tmps (.code (.loop c)::k) ds ro) cs w) = .next (lone (fram fn tmps (.code c :: .inLoop c::k) ds ro) cs w):=step_lone_go (by simp [stepG,stepG.exec])
theorem zn5 {c:Code}:step P (lone (fram fn tmps (.inLoop c::k) ds ro) cs w) = .next (lone (fram fn tmps (.code c :: .inLoop c::k) ds ro) cs w):=step_lone_go (by simp [stepG,stepG.exec])
theorem zrg {c:Code}:step P (lone (fram fn tmps (.code (.scope c)::k) ds ro) cs w) = .next (lone (fram fn tmps (.code c :: .inScope c::k) ds ro) cs w):=step_lone_go (by simp [stepG,stepG.exec])
theorem zup {c:Operand} {a b:Code} {t:Bool} (h:opEval tmps c = .bool t):step P (lone (fram fn tmps (.code (.cond c a b)::k) ds ro) cs w) = .next (lone (fram fn tmps (.code (if t then a else b)::k) ds ro) cs w):=
 step_lone_go (by
  have e:∀ todo,(fram fn tmps todo ds ro).eval c=opEval tmps c:=fun todo=>by cases c <;> rfl
  have e:=e (.code (.cond c a b)::k);simp only [fram] at e;simp [stepG,stepG.exec,e,h])
theorem zuo {id:Nat} {k':List Item} (h:exitTo id k=some k'):step P (lone (fram fn tmps (.code (.exit id)::k) ds ro) cs w) = .next (lone (fram fn tmps k' ds ro) cs w):=step_lone_go (by simp [stepG,stepG.exec,h])
theorem zn4 {id:Nat} {ops:Array Oper}:step P (lone (fram fn tmps (.code (.region id ops false)::k) ds ro) cs w) = .next (lone (fram fn tmps (.inRegion ops (List.range ops.size)::k) ds ro) cs w):=step_lone_go (by simp [stepG,stepG.exec])
theorem zcy {ops:Array Oper}:step P (lone (fram fn tmps (.inRegion ops []::k) ds ro) cs w) = .next (lone (fram fn tmps k ds ro) cs w):=step_lone_go (by simp [stepG,stepG.exec])
theorem zwh:step P (lone (fram fn tmps (.code .ret::k) ds none) cs w) = .next (lone { fram fn tmps (.code .ret::k) ds none with mode:=.returning } cs w):=step_lone_go (by simp [stepG,stepG.exec])
theorem zwi:step P (lone (fram fn tmps [] ds none) cs w) = .next (lone { fram fn tmps [] ds none with mode:=.returning } cs w):=step_lone_go (by simp [stepG,stepG.exec])
def putD (tmps:Array Value) (d:Option Tmp) (v:Value):Array Value:=match d with
 | some d=>tmps.setIfInBounds d v
 | none=>tmps
theorem zba {ops:Array Oper} {i:Nat} {rest:List Nat} {o:Oper} (ho:ops[i]? = some o) (v:Value):(fram fn tmps (.inRegion ops (i::rest)::k) ds ro).finish v=fram fn (putD tmps o.dst v) (.inRegion ops rest::k) ds ro:=by
 simp only [Frame.finish,fram,ho,Option.bind_some,putD];cases o.dst <;> rfl
theorem zio {ops:Array Oper} {i:Nat} {rest:List Nat} {o:Oper} (ho:ops[i]? = some o) (hw:Region.wanted o (yielded ops tmps)=false) :
  step P (lone (fram fn tmps (.inRegion ops (i::rest)::k) ds ro) cs w) = .next (lone (fram fn (putD tmps o.dst undef) (.inRegion ops rest::k) ds ro) cs w):=by
 rw [← zba ho];exact step_lone_go (by simp [stepG,stepG.exec,ho,hw])
def notDefer:Op→Bool
 | .defer _=>false
 | _=>true
theorem zda {ops:Array Oper} {i:Nat} {rest:List Nat} {o:Oper} (ho:ops[i]? = some o) (hw:Region.wanted o (yielded ops tmps)=true) (hd:notDefer o.op=true) :
  stepG P true { frame:=fram fn tmps (.inRegion ops (i::rest)::k) ds ro,callers:=cs,status:=.running,dying:=none } w =
   stepG.apply P true (fram fn tmps (.inRegion ops (i::rest)::k) ds ro) cs none (execOp (opEval tmps) o) w:=by
 have he:(fram fn tmps (.inRegion ops (i::rest)::k) ds ro).eval=opEval tmps:=funext fun c=>by cases c <;> rfl
 simp only [fram] at he;obtain ⟨dst,op,type,pos,after,guard⟩:=o;have hd:notDefer op=true:=hd
 cases ro with
 | none=>simp [stepG,stepG.exec,stepG.oper,Frame.oper?,fram,ho,hw,he]
 | some l=>cases op <;> first|(simp [notDefer] at hd;done)|simp [stepG,stepG.exec,stepG.oper,Frame.oper?,fram,ho,hw,he]
theorem zbj {ops:Array Oper} {i:Nat} {rest:List Nat} {o:Oper} (ho:ops[i]? = some o) (hw:Region.wanted o (yielded ops tmps)=true) (hd:notDefer o.op=true) {v:Value} {w':World} (hr:(execOp (opEval tmps) o).run P w = .ok (.value v) w') :
  step P (lone (fram fn tmps (.inRegion ops (i::rest)::k) ds ro) cs w) = .next (lone (fram fn (putD tmps o.dst v) (.inRegion ops rest::k) ds ro) cs w'):=by
 rw [← zba ho];refine step_lone_go ?_;rw [zda ho hw hd];simp [stepG.apply,hr]
theorem zdy {ops:Array Oper} {i:Nat} {rest:List Nat} {o:Oper} (ho:ops[i]? = some o) (hw:Region.wanted o (yielded ops tmps)=true) (hd:notDefer o.op=true) {w':World} (hr:(execOp (opEval tmps) o).run P w = .ok .skip w') :
  step P (lone (fram fn tmps (.inRegion ops (i::rest)::k) ds ro) cs w) = .next (lone (fram fn (putD tmps o.dst undef) (.inRegion ops rest::k) ds ro) cs w'):=by
 rw [← zba ho];refine step_lone_go ?_;rw [zda ho hw hd];simp [stepG.apply,hr]
theorem zcd {ops:Array Oper} {i:Nat} {rest:List Nat} {o:Oper} (ho:ops[i]? = some o) (hw:Region.wanted o (yielded ops tmps)=true) (hd:notDefer o.op=true) {f:FuncId} {args:Array Value} {w':World} (hr:(execOp (opEval tmps) o).run P w = .ok (.enter f args) w') :
  step P (lone (fram fn tmps (.inRegion ops (i::rest)::k) ds ro) cs w) = .next (lone (Frame.enter P f args .normal) (fram fn tmps (.inRegion ops (i::rest)::k) ds ro::cs) w'):=by
 refine step_lone_go ?_;rw [zda ho hw hd];simp [stepG.apply,hr,fram]
theorem zgd {ops:Array Oper} {i:Nat} {rest:List Nat} {o:Oper} (ho:ops[i]? = some o) (hw:Region.wanted o (yielded ops tmps)=true) (hd:notDefer o.op=true) {l:Nat} {f:FuncId} {ts:Array Value} {ax bd:Code} {w':World} (hr:(execOp (opEval tmps) o).run P w = .ok (.round l f ts ax bd) w') :
  step P (lone (fram fn tmps (.inRegion ops (i::rest)::k) ds ro) cs w) = .next (lone (Frame.round l f ts ax bd .normal) (fram fn tmps (.inRegion ops (i::rest)::k) ds ro::cs) w'):=by
 refine step_lone_go ?_;rw [zda ho hw hd];simp [stepG.apply,hr,fram]
end
end
section
open Go.RowKit
variable {P:Program} {γ γ':G} {w0:Bs} {w:World} {H H':Tr EK} {n n':Nat} {T:Tr EV}
section
variable {fn:FuncId} {tmps:Array Value} {k:List Item} {ds:List Deferred} {ro:Option Nat} {cs:List Frame}
theorem zul {todo:List Item} {b:Nat} (hb:w.heap[b]? = some (.deferred (some []))) :
  step P (lone { fram fn tmps todo ({ target:=.collected b,args:=#[] }::ds) ro with mode:=.returning } cs w) = .next (lone { fram fn tmps todo ds ro with mode:=.returning } cs (w.putObj b (.deferred none))):=
 step_lone_go (by simp [stepG,unwind,Sem.runT_eq,run_takeDeferred hb])
theorem zri {ops:Array Oper} {i:Nat} {rest:List Nat} {o:Oper} {c:Call} {d:Deferred} (ho:ops[i]? = some o) (hw:Region.wanted o (yielded ops tmps)=true) (hop:o.op = .defer c) (hr:(execOp (opEval tmps) o).run P w = .ok (.defer d) w) :
  step P (lone (fram fn tmps (.inRegion ops (i::rest)::k) ds none) cs w) = .next (lone (fram fn (putD tmps o.dst undef) (.inRegion ops rest::k) (d::ds) none) cs w):=by
 have he:(fram fn tmps (.inRegion ops (i::rest)::k) ds none).eval=opEval tmps:=funext fun c=>by cases c <;> rfl
 simp only [fram] at he;have hf:=zba (fn:=fn) (tmps:=tmps) (k:=k) (ds:=d::ds) (ro:=none) (rest:=rest) ho undef;simp only [fram] at hf;refine step_lone_go ?_;simp [stepG,stepG.exec,stepG.oper,stepG.apply,Frame.oper?,fram,ho,hw,he,hr,hf]
theorem zim {todo:List Item} {c:Frame} {v:Value} {F:Func} (hf:P.funcs[fn]? = some F) (hr:(results F tmps).run P w = .ok v w) :
  step P (lone { fram fn tmps todo [] ro with mode:=.returning } (c::cs) w) = .next (lone (c.finish v) cs w):=
 step_leave_returned ⟨rfl,rfl,rfl,F,hf,hr⟩
theorem zjs {jump:Option Code} {todo:List Item} {l:Nat} {r:Loop} {c:Frame} (ht:(todo=[]∧jump=none)∨(∃ k,todo = .code .ret::k∧jump=some .ret)∨(∃ id k,todo = .code (.exit id)::k∧exitTo id k=none∧jump=some (.exit id))) (h:w.heap[l]? = some (.loop r)) :
  step P (lone (fram fn tmps todo ds (some l)) (c::cs) w) = .next (lone (c.finish (.bool jump.isNone)) cs (w.putObj l (.loop { r with state:=if jump.isNone then .ready else .done,pending:=jump }))):=by
 refine step_lone_go ?_;rcases ht with ⟨rfl,rfl⟩|⟨k,rfl,rfl⟩|⟨id,k,rfl,hx,rfl⟩
 ·simp [stepG,stepG.exec,Sem.runT_eq,run_endRound _ h,doReturn]
 ·simp [stepG,stepG.exec,Sem.runT_eq,run_endRound _ h,doReturn]
 ·simp [stepG,stepG.exec,Sem.runT_eq,run_endRound _ h,doReturn,hx]
theorem zg4 {l:Nat} {r:Loop} (h:w.heap[l]? = some (.loop r)) (hr:r.state = .ready) :
  step P (lone (fram fn tmps (.beginRound::k) ds (some l)) cs w) = .next (lone (fram fn tmps k ds (some l)) cs (w.putObj l (.loop { r with state:=.busy }))):=
 step_lone_go (by simp [stepG,stepG.exec,stepG.apply,Sem.runT_eq,run_beginRound h hr,Frame.finish])
theorem zmq {l:Nat} {r:Loop} (h:w.heap[l]? = some (.loop r)) (hb:r.state ≠ .busy) :
  step P (lone (fram fn tmps (.endRangeFunc l::k) ds ro) cs w) = .next (lone (fram fn tmps ((r.pending.map Item.code).toList++k) ds ro) cs (w.putObj l (.loop { r with state:=.exhausted }))):=
 step_lone_go (by simp [stepG,stepG.exec,Sem.runT_eq,run_endLoop h hb])
theorem zin {f:Operand} {ps:Array Tmp} {ax bd:Code} {l:Nat} {mark:List Deferred} {w1 w2:World} {g:FuncId} {args:Array Value}
  (he:(Instr.enterLoop fn tmps ps ax bd ro).run P w = .ok (l,mark) w1)
  (hc:(do let d ← resolve (opEval tmps) { callee:=.value f,args:=#[.const (.func (.yield l) #[] #[])],argTypes:=#[] } 0;invoke d.target d.args:Sem Next).run P w1 = .ok (.enter g args) w2) :
  step P (lone (fram fn tmps (.code (.rangeFunc f ps ax bd)::k) ds ro) cs w) = .next (lone (Frame.enter P g args .normal) (fram fn tmps (.inRangeFunc l::k) (mark++ds) ro::cs) w2):=by
 have e:(fram fn tmps (.inRangeFunc l::k) (mark++ds) ro).eval=opEval tmps:=funext fun c=>by cases c <;> rfl
 simp only [fram] at e;refine step_lone_go ?_;simp only [stepG,stepG.exec,Sem.runT_eq,he];simp only [GStep.bare_after,stepG.apply,e,Sem.runT_eq,hc,if_true];simp
end
end
section
open Go.RowKit
variable {P:Program} {γ γ':G} {w0:Bs} {w:World} {H H':Tr EK} {n n':Nat} {T:Tr EV}
abbrev CT:=List EV→Tr EK→Nat→Option (EV×Tr EK×Nat)
structure FI where
 N:Nat
 res:List ResultVar
 code:Code
 ct:Option CT
 dq:Option Nat
def CtOk (P:Program) (f:FuncId) (c:CT):Prop:=∀ (γ:G) (w0:Bs) (H:Tr EK) (n:Nat) (w:World) (ax:List EV) (us:Array Value) (a:EV) (H':Tr EK) (n':Nat),HR γ w0 H n w→ECL γ ax us.toList→c ax H n=some (a,H',n')→Calls P f us w fun e w'=>∃ γ' x,GLe γ γ'∧HR γ' w0 H' n' w'∧EC γ' a x∧e = .returned x
def DqOk (P:Program) (g:FuncId) (k:Nat):Prop:=∀ (args:Array Value) (w:World),args.size=k→CallsD P g args .returning w fun e u' w'=>(∃ v,e = .returned v)∧u' = .returning∧w'=w
def FTok (P:Program) (FT:Tr FI):Prop:=∀ f i,FT.get f=some i→(∃ fn,P.funcs[f]? = some fn∧fn.ntmps=i.N∧fn.results=i.res.toArray∧fn.body=some i.code∧(fn.name == "runtime.NumGoroutine")=false)∧(∀ c,i.ct=some c→CtOk P f c)∧∀ k,i.dq=some k→DqOk P f k
def ctOf (FT:Tr FI) (g:FuncId):Option CT:=match FT.get g with
 | some i=>i.ct
 | none=>none
theorem ct_ok {FT:Tr FI} (hF:FTok P FT) {g:FuncId} {c:CT} (hct:ctOf FT g=some c) {ax:List EV} {us:Array Value} {a:EV} (hH:HR γ w0 H n w) (hc:ECL γ ax us.toList) (hr:c ax H n=some (a,H',n')) (fr:Frame) (cs:List Frame) :
  ∃ γ' w' x,GLe γ γ'∧HR γ' w0 H' n' w'∧EC γ' a x∧(∀ w,(callFunc g us).run P w = .ok (.enter g us) w)∧Steps P (lone (Frame.enter P g us .normal) (fr::cs) w) (lone (fr.finish x) cs w'):=by
 unfold ctOf at hct;split at hct
 case h_2=>cases hct
 rename_i i hi;obtain ⟨⟨fn,hf,hN,hres,hb,hname⟩,hk,_⟩:=hF g i hi;obtain ⟨e,w',fr',⟨γ',x,h1,h2,h3,rfl⟩,h4,h5,h6⟩:=hk c hct γ w0 H n w ax us a H' n' hH hc hr (fr::cs);exact ⟨γ',w',x,h1,h2,h3,fun w=>by
  have h9:fn.name ≠ "runtime.NumGoroutine":=by simpa using hname
  simp [callFunc,hf,h9,hb],Steps.trans h4 (.one (step_leave_returned h6))⟩
theorem dq_ok {FT:Tr FI} (hF:FTok P FT) {g:FuncId} {i:FI} {k:Nat} (hg:FT.get g=some i) (hk:i.dq=some k) {fn:FuncId} {tmps:Array Value} {todo:List Item} {d:Deferred} {ds:List Deferred} {ro:Option Nat} {cs:List Frame} (hd:DR γ (.cl g k) d) :
  Steps P (lone { fram fn tmps todo (d::ds) ro with mode:=.returning } cs w) (lone { fram fn tmps todo ds ro with mode:=.returning } cs w):=by
 obtain ⟨⟨F,hf,hN,hres,hb,hname⟩,_,hq⟩:=hF g i hg
 cases hd with
 | cl _ _ cap args hs=>
 have h9:F.name ≠ "runtime.NumGoroutine":=by simpa using hname
 have hi:(invoke (.fn (.func g) cap) args:Sem Next).run P w = .ok (.enter g (args++cap)) w:=by simp [invoke,callFunc,hf,h9,hb]
 have h1:=step_defer (P:=P) (fr:={ fram fn tmps todo ({ target:=.fn (.func g) cap,args:=args }::ds) ro with mode:=.returning }) (cs:=cs) (w:=w) (by simp) rfl rfl hi
 obtain ⟨e,u',w',fr',⟨⟨v,rfl⟩,rfl,rfl⟩,h2,h3,h4⟩:=hq k hk (args++cap) w hs { fram fn tmps todo ds ro with mode:=.returning } cs rfl;exact (Steps.one h1).trans (Steps.trans h2 (.one (step_going_returned h3 h4)))
theorem TOk.put {tmps:Array Value} (h:TOk γ T tmps) {d:Nat} {a:EV} {x:Value} (hd:Nat.ble d 65535=true) (hl:d<tmps.size) (hc:EC γ a x):TOk γ (T.put d (some a)) (tmps.setIfInBounds d x):=by
 intro s b hs;rw [Tr.get_put hd] at hs
 by_cases e:s=d
 ·rw [if_pos e] at hs;injection hs with hs;subst hs;subst e
  exact ⟨x,by simp [hl],hc⟩
 ·rw [if_neg e] at hs;obtain ⟨y,hy,hcy⟩:=h s b hs;exact ⟨y,by rw [Array.getElem?_setIfInBounds_ne (fun e2=>e e2.symm)];exact hy,hcy⟩
theorem TOk.nil (γ:G) (tmps:Array Value):TOk γ .nil tmps:=fun s a h=>by cases h
def setD (T:Tr EV) (N:Nat) (d:Option Tmp) (a:EV):Option (Tr EV):=match d with
 | none=>some T
 | some d=>bc (Nat.blt d N) (bc (Nat.ble d 65535) (some (T.put d (some a))) none) none
theorem zcm {tmps:Array Value} {T':Tr EV} {N:Nat} {d:Option Tmp} {a:EV} {x:Value} (h:TOk γ T tmps) (hN:tmps.size=N) (hs:setD T N d a=some T') (hc:EC γ a x):TOk γ T' (putD tmps d x)∧(putD tmps d x).size=N:=by
 unfold setD at hs;split at hs
 ·injection hs with hs;subst hs;exact ⟨h,hN⟩
 ·rename_i d;rw [bc_eq,bc_eq] at hs;split at hs
  case isFalse=>cases hs
  rename_i h1;split at hs
  case isFalse=>cases hs
  rename_i h2;injection hs with hs;subst hs
  exact ⟨h.put h2 (by rw [hN];exact zad h1) hc,by simp [putD,hN]⟩
def setArgs (l:List EV):Nat→Tr EV→Tr EV:=List.rec (fun _ T=>T) (fun a _ ih k T=>ih (Nat.succ k) (T.put k (some a))) l
theorem zgf {tmps:Array Value}:∀ (l:List EV) (k:Nat) (T:Tr EV),TOk γ T tmps→k+l.length≤65536→(∀ j a,l[j]? = some a→∃ x,tmps[k+j]? = some x∧EC γ a x)→TOk γ (setArgs l k T) tmps
 | [],k,T,h,_,_=>h
 | a::l,k,T,h,hk,hl=>by
  show TOk γ (setArgs l (k+1) (T.put k (some a))) tmps;simp only [List.length_cons] at hk;refine zgf l (k+1) _ (fun s b hs=>?_) (by omega) (fun j b hb=>?_)
  ·rw [Tr.get_put (Nat.ble_eq_true_of_le (by omega))] at hs
   by_cases e:s=k
   ·rw [if_pos e] at hs;injection hs with hs;subst hs;subst e
    exact hl 0 a rfl
   ·rw [if_neg e] at hs;exact h s b hs
  ·have:=hl (j+1) b (by simpa using hb)
   rwa [show k+(j+1)=k+1+j by omega] at this
def exEnter (FT:Tr FI) (f:FuncId) (args:List EV):Option EF:=match FT.get f with
 | some i=>bc (Nat.ble (llen args) i.N) (bc (Nat.ble i.N 65535) (some ⟨f,i.N,setArgs args 0 .nil,[.it (.code i.code)],[],none,false⟩) none) none
 | none=>none
theorem zci {FT:Tr FI} (hF:FTok P FT) {f:FuncId} {args:List EV} {vs:Array Value} {e:EF} (hc:ECL γ args vs.toList) (h:exEnter FT f args=some e) :
  FR γ e (Frame.enter P f vs .normal)∧∀ w,(callFunc f vs).run P w = .ok (.enter f vs) w:=by
 unfold exEnter at h;split at h
 case h_2=>cases h
 rename_i i hi;rw [bc_eq,bc_eq] at h;split at h
 case isFalse=>cases h
 rename_i h1;split at h
 case isFalse=>cases h
 rename_i h2;injection h with h;subst h
 have h1:=Nat.le_of_ble_eq_true h1;have h2:=Nat.le_of_ble_eq_true h2;rw [zac] at h1;obtain ⟨⟨fn,hf,hN,hres,hb,hname⟩,_⟩:=hF f i hi;have hl:=hc.1;simp only [Array.length_toList] at hl;refine ⟨⟨vs++Array.replicate (i.N-vs.size) undef,[.code i.code],[],none,?_,?_,?_,.cons (.it _) .nil,.nil,rfl⟩,fun w=>by
  have h9:fn.name ≠ "runtime.NumGoroutine":=by simpa using hname
  simp [callFunc,hf,h9,hb]⟩
 ·simp [Frame.enter,hf,hN,hb,modeOf]
 ·simp;omega
 ·refine zgf args 0 .nil (TOk.nil γ _) (by omega) fun j a ha=>?_;obtain ⟨x,hx,hcx⟩:=hc.at ha;refine ⟨x,?_,hcx⟩;have hlt:j<vs.size:=by rw [← hl];exact (List.getElem?_eq_some_iff.1 ha).1
  rw [Nat.zero_add,Array.getElem?_append_left hlt];simpa using hx
inductive EC2 where
 | fn (f:FuncId) (args:List EV)
 | yl (l:Nat) (args:List EV)
def exCallee (T:Tr EV) (f:Operand) (args:List EV):Option EC2:=match exVal T f with
 | some (.fn g caps)=>some (.fn g (args++caps))
 | some (.v (.func (.func g) first caps))=>match first.toList with
  | []=>some (.fn g (args++caps.toList.map .v))
  | _=>none
 | some (.yl l)=>some (.yl l args)
 | some (.mt g first)=>some (.fn g (first++args))
 | _=>none
theorem za5 {tmps:Array Value} (hT:TOk γ T tmps) {f:Operand} {args:List EV} {vs:Array Value} {c:EC2} (ρ:Operand→Value) (hρ:ρ f=opEval tmps f) {xs:Array Operand} {ats:Array TypeId} {t:TypeId} (hx:xs.map ρ=vs) (hc:ECL γ args vs.toList) (h:exCallee T f args=some c) :
  (∃ g ax us,c = .fn g ax∧ECL γ ax us.toList∧∀ w,(do let d ← resolve ρ { callee:=.value f,args:=xs,argTypes:=ats } t;invoke d.target d.args:Sem Next).run P w=(callFunc g us).run P w) ∨
  (∃ (l:Nat) (b:Pl) (m:Nat),c = .yl l args∧γ l=some (b,m)∧∀ w,(do let d ← resolve ρ { callee:=.value f,args:=xs,argTypes:=ats } t;invoke d.target d.args:Sem Next).run P w=(Instr.yield b.k vs).run P w):=by
 unfold exCallee at h;split at h
 ·rename_i g caps hf;injection h with h;subst h
  have hcf:=zaa hT hf;generalize hy:opEval tmps f=y at hcf
  cases hcf with
  | fn _ _ us hl hcc=>
   refine .inl ⟨g,_,vs++us.toArray,rfl,by simpa using hc.append ⟨hl,hcc⟩,fun w=>?_⟩;simp [resolve,hρ,hy,Deferred.ofValue,hx,invoke]
 ·rename_i g first caps hf
  split at h
  case h_2=>cases h
  rename_i hfi;injection h with h;subst h
  have hcf:=ec_v (zaa hT hf);have hfi:first = #[]:=by apply Array.ext';simpa using hfi
  subst hfi;refine .inl ⟨g,_,vs++caps,rfl,by simpa using hc.append (ECL.vals γ caps.toList),fun w=>?_⟩;simp [resolve,hρ,hcf,Deferred.ofValue,hx,invoke]
 ·rename_i l hf;injection h with h;subst h
  have hcf:=zaa hT hf;generalize hy:opEval tmps f=y at hcf
  cases hcf with
  | yl _ b m hγ=>
   refine .inr ⟨l,b,m,rfl,hγ,fun w=>?_⟩;simp [resolve,hρ,hy,Deferred.ofValue,hx,invoke]
 ·rename_i g first hf
  injection h with h;subst h
  have hcf:=zaa hT hf;generalize hy:opEval tmps f=y at hcf
  cases hcf with
  | mt _ _ us hl hcc=>
   refine .inl ⟨g,_,us.toArray++vs,rfl,by simpa using ECL.append ⟨hl,hcc⟩ hc,fun w=>?_⟩;simp [resolve,hρ,hy,Deferred.ofValue,hx,invoke]
 ·cases h
def setPs (ps:List Tmp):List EV→Nat→Tr EV→Option (Tr EV):=List.rec (fun l _ T=>match l with
 | []=>some T
 | _=>none) (fun p _ ih l N T=>match l with
 | a::l=>match setD T N (some p) a with
  | some T'=>ih l N T'
  | none=>none
 | []=>none) ps
theorem zlc:∀ {ps:List Tmp} {l:List EV} {vs:List Value} {N:Nat} {T T':Tr EV} {tmps:Array Value},ECL γ l vs→TOk γ T tmps→tmps.size=N→setPs ps l N T=some T' →
  ps.length=vs.length∧TOk γ T' ((ps.zip vs).foldl (fun tmps (t,a)=>tmps.setIfInBounds t a) tmps)∧((ps.zip vs).foldl (fun tmps (t,a)=>tmps.setIfInBounds t a) tmps).size=N
 | [],l,vs,N,T,T',tmps,hc,hT,hN,h=>by
  cases l with
  | nil=>
   have h':some T=some T':=h;injection h' with h';subst h'
   have:vs=[]:=by apply List.eq_nil_of_length_eq_zero;have:=hc.1;simpa using this.symm
   subst this;exact ⟨rfl,hT,hN⟩
  | cons a l=>exact absurd (show (none:Option (Tr EV))=some T' from h) (by simp)
 | p::ps,l,vs,N,T,T',tmps,hc,hT,hN,h=>by
  cases l with
  | nil=>exact absurd (show (none:Option (Tr EV))=some T' from h) (by simp)
  | cons a l'=>
   have h':(match setD T N (some p) a with
    | some T'=>setPs ps l' N T'
    | none=>none)=some T':=h
   obtain ⟨x,ys,rfl,hcx,hcr⟩:=ECL.inv hc;split at h'
   case h_2=>cases h'
   rename_i T2 hT2;obtain ⟨h1,h2⟩:=zcm hT hN hT2 hcx;obtain ⟨h3,h4,h5⟩:=zlc hcr h1 h2 h';exact ⟨by simp [h3],h4,h5⟩
def exRound (H:Tr EK) (l:Nat) (args:List EV):Option EF:=match H.get l with
 | some (.loop _ _ fn N T ps ax bd _)=>match setPs ps.toList args N T with
  | some T'=>some ⟨fn,N,T',[.it (.code ax),.it .beginRound,.it (.code bd)],[],some l,false⟩
  | none=>none
 | _=>none
theorem zgq (hH:HR γ w0 H n w) {l:Nat} {b:Pl} {m:Nat} {args:List EV} {vs:Array Value} {e:EF} (hγ:γ l=some (b,m)) (hc:ECL γ args vs.toList) (h:exRound H l args=some e) :
  ∃ f ts ax bd,(Instr.yield b.k vs).run P w = .ok (.round b.k f ts ax bd) w∧FR γ e (Frame.round b.k f ts ax bd .normal):=by
 unfold exRound at h;split at h
 case h_2=>cases h
 rename_i st pend fn N T ps ax bd dd hl;split at h
 case h_2=>cases h
 rename_i T' hT';injection h with h;subst h
 obtain ⟨b2,m2,h1,_,tmps,d,q,h2,h3,h4,h5⟩:=hH.hp l _ hl;rw [hγ] at h1;simp only [Option.some.injEq,Prod.mk.injEq] at h1;obtain ⟨rfl,rfl⟩:=h1;obtain ⟨g1,g2,g3⟩:=zlc hc h4 h3 hT';have hz:((ps.zip vs).foldl (fun (tmps:Array Value) (p:Tmp×Value)=>tmps.setIfInBounds p.1 p.2) tmps)=(ps.toList.zip vs.toList).foldl (fun (tmps:Array Value) (p:Tmp×Value)=>tmps.setIfInBounds p.1 p.2) tmps:=by
  rw [← Array.foldl_toList,Array.toList_zip]
 refine ⟨fn,_,ax,bd,run_yield h2 (by simp at g1;exact g1.symm),_,_,[],some b.k,rfl,?_,?_,.cons (.it _) (.cons (.it _) (.cons (.it _) .nil)),.nil,⟨b,m,hγ,rfl⟩⟩
 ·show ((ps.zip vs).foldl (fun (tmps:Array Value) (p:Tmp×Value)=>tmps.setIfInBounds p.1 p.2) tmps).size=N;rw [hz];exact g3
 ·show TOk γ T' ((ps.zip vs).foldl (fun (tmps:Array Value) (p:Tmp×Value)=>tmps.setIfInBounds p.1 p.2) tmps);rw [hz];exact g2
def exGuard (T:Tr EV) (ops:Array Oper) (o:Oper):Option Bool:=match o.guard with
 | none=>some true
 | some (j,want)=>match lget ops.toList j with
  | some oj=>match oj.dst with
   | some d=>match T.get d with
    | some (.v (.bool b))=>some (bc b want (bc want false true))
    | some (.v (.tuple _))=>some false
    | _=>none
   | none=>none
  | none=>none
theorem zb2 {tmps:Array Value} (hT:TOk γ T tmps) {ops:Array Oper} {o:Oper} {r:Bool} (h:exGuard T ops o=some r):Region.wanted o (yielded ops tmps)=r:=by
 unfold exGuard at h;split at h
 ·rename_i hg;injection h with h;subst h;simp [Region.wanted,hg]
 ·rename_i j want hg;split at h
  case h_2=>cases h
  rename_i oj hoj;rw [zai] at hoj;have hoj:ops[j]? = some oj:=by simpa using hoj
  split at h
  case h_2=>cases h
  rename_i d hd;split at h
  ·rename_i b hb;injection h with h;subst h
   obtain ⟨x,hx,hc⟩:=hT d _ hb;have:=ec_v hc;subst this;have:yielded ops tmps j=some b:=by simp [yielded,hoj,hd,hx]
   simp only [Region.wanted,hg,this];cases b <;> cases want <;> rfl
  ·rename_i vs hb;injection h with h;subst h
   obtain ⟨x,hx,hc⟩:=hT d _ hb;have:=ec_v hc;subst this;have:yielded ops tmps j=none:=by simp [yielded,hoj,hd,hx]
   simp only [Region.wanted,hg,this];rfl
  ·cases h
def exFinish (c:EF) (a:EV):Option EF:=match c.ret with
 | true=>none
 | false=>match c.todo with
  | .ops ops (o::l)::k=>match setD c.T c.N o.dst a with
   | some T'=>some { c with T:=T',todo:=.ops ops l::k }
   | none=>none
  | .inRF l::k=>some { c with todo:=.endRF l::k }
  | _=>none
theorem zb8 {ops:Array Oper} {idx:List Nat} {o:Oper} {l:List Oper} (h:idx.map (ops[·]?)=(o::l).map some):∃ i rest,idx=i::rest∧ops[i]? = some o∧rest.map (ops[·]?)=l.map some:=by
 cases idx with
 | nil=>simp at h
 | cons i rest=>simp only [List.map_cons,List.cons.injEq] at h;exact ⟨i,rest,rfl,h.1,h.2⟩
theorem zke {c c':EF} {a:EV} {x:Value} {fr:Frame} (hf:FR γ c fr) (hc:EC γ a x) (h:exFinish c a=some c'):FR γ c' (fr.finish x):=by
 unfold exFinish at h;split at h
 ·cases h
 rename_i hret;obtain ⟨tmps,todo,ds,ro,rfl,h1,h2,h3,h4,h5⟩:=hf;rw [hret];split at h
 ·rename_i ops o l k htodo;rw [htodo] at h3;split at h
  case h_2=>cases h
  rename_i T' hT';injection h with h;subst h
  obtain ⟨g1,g2⟩:=zcm h2 h1 hT' hc
  cases h3 with
  | cons hi hk=>
   cases hi with
   | ops _ _ idx hidx=>
    obtain ⟨i,rest,rfl,ho,hrest⟩:=zb8 hidx;refine ⟨_,_,ds,ro,(zba (fn:=c.fn) (tmps:=tmps) (ds:=ds) (ro:=ro) (rest:=rest) ho x).trans ?_,g2,g1,.cons (.ops ops l rest hrest) hk,h4,h5⟩;simp [fram,hret,modeOf]
 ·rename_i l k htodo;rw [htodo] at h3;injection h with h;subst h
  cases h3 with
  | cons hi hk=>
   cases hi with
   | inRF _ b m hγ=>
    exact ⟨tmps,_,ds,ro,by simp [Frame.finish,hret],h1,h2,.cons (.endRF l b m hγ) hk,h4,h5⟩
 ·cases h
end
section
open Go.RowKit
variable {P:Program} {γ γ':G} {w0:Bs} {w:World} {H H':Tr EK} {n n':Nat} {T:Tr EV} {cs:List Frame} {fid:FuncId} {FT:Tr FI}
def loadE (P:Program) (t:TypeId) (i off:Nat) (H:Tr EK):Option EV:=match cellsAt H i with
 | some (_,cs,_)=>match aggOf P t with
  | some none=>lget cs off
  | some (some m)=>bc (Nat.ble (Nat.add off m) (llen cs)) (some (packE ((cs.drop off).take m))) none
  | none=>none
 | none=>none
theorem zlq (hH:HR γ w0 H n w) {t:TypeId} {i off:Nat} {b:Pl} {m:Nat} {a:EV} (hγ:γ i=some (b,m)) (h:loadE P t i off H=some a):∃ y,(loadVar t (b.at off)).run P w = .ok y w∧EC γ a y:=by
 unfold loadE at h;split at h
 case h_2=>cases h
 rename_i ty cs full hcs;obtain ⟨hg,b2,m2,c,hγ2,hb,hsz,hle,hfull,hc⟩:=za7 hH hcs;rw [hγ] at hγ2;simp only [Option.some.injEq,Prod.mk.injEq] at hγ2;obtain ⟨rfl,rfl⟩:=hγ2;split at h
 ·rename_i hag;rw [zai] at h;obtain ⟨y,hy,hcy⟩:=hc.at h;have hcell:w.cell? (b.at off)=some y:=by
   rw [(zae hb).1,← Array.getElem?_toList];rw [List.getElem?_take] at hy;split at hy
   ·rw [List.getElem?_drop] at hy;exact hy
   ·cases hy
  exact ⟨y,by simp [loadVar,zbx hag,load,Sem.run,hcell],hcy⟩
 ·rename_i k hag;rw [bc_eq] at h;split at h
  ·rename_i hlt;injection h with h;subst h
   have hlt:=Nat.le_of_ble_eq_true hlt;rw [zac] at hlt;have hlt:off+k≤cs.length:=hlt;obtain ⟨hagg,inf,hi,hs⟩:=zc9 hag;have hL:=(hc.drop off).take k;refine ⟨.agg ((((c.toList.drop b.s).take cs.length).drop off).take k).toArray,?_,zd4 hL⟩;have hlen:((((c.toList.drop b.s).take cs.length).drop off).take k).length=k:=by simp;omega
   have hl:=run_loadCells_list (P:=P) w (b.at off) ((((c.toList.drop b.s).take cs.length).drop off).take k) fun q y hy=>by
    rw [Pl.at_add,(zae hb).1,← Array.getElem?_toList];rw [List.getElem?_take] at hy;split at hy
    ·rw [List.getElem?_drop,List.getElem?_take] at hy;split at hy
     ·rw [List.getElem?_drop] at hy;exact hy
     ·cases hy
    ·cases hy
   rw [hlen] at hl;simp only [loadVar,Sem.run_bind,Sem.run_pure,Result.andThen_ok,hagg w,if_true,sizeOf,typeInfo];simp [hi,hs,hl]
  ·cases h
 ·cases h
def exRes1 (P:Program) (T:Tr EV) (H:Tr EK) (r:ResultVar):Option EV:=match r with
 | .tmp t=>T.get t
 | .cell a t=>match T.get a with
  | some (.ptr i off)=>loadE P t i off H
  | _=>none
def exResL (P:Program) (T:Tr EV) (H:Tr EK) (l:List ResultVar):Option (List EV):=List.rec (some []) (fun r _ ih=>match exRes1 P T H r with
 | some a=>match ih with
  | some l=>some (a::l)
  | none=>none
 | none=>none) l
def resE (l:List EV):EV:=match l with
 | [a]=>a
 | l=>.tup l
def resV (l:List Value):Value:=match l with
 | [a]=>a
 | l=>.tuple l.toArray
theorem zol {l:List EV} {vs:List Value} (h:ECL γ l vs):EC γ (resE l) (resV vs):=by
 unfold resE;split
 ·obtain ⟨x,ys,rfl,hc,hr⟩:=ECL.inv h;have:ys=[]:=by apply List.eq_nil_of_length_eq_zero;have:=hr.1;simpa using this.symm
  subst this;exact hc
 ·rename_i h1;have:resV vs = .tuple vs.toArray:=by
   unfold resV;split
   ·rename_i x
    cases l with
    | nil=>have:=h.1;simp at this
    | cons a l=>
     have:l=[]:=by apply List.eq_nil_of_length_eq_zero;have:=h.1;simpa using this
     subst this;exact absurd rfl (h1 a)
   ·rfl
  rw [this];exact .tup l vs h.1 h.2
def resF (tmps:Array Value) (r:ResultVar):Sem Value:=match r with
 | .tmp t=>pure (tmps.getD t undef)
 | .cell a t=>do loadVar t (← asAddr (tmps.getD a undef))
theorem zgi (fn:Func) (tmps:Array Value):results fn tmps=(do let vs ← fn.results.mapM (resF tmps);pure (if h:vs.size=1 then vs[0] else .tuple vs)):=rfl
theorem zld (hH:HR γ w0 H n w) {tmps:Array Value} (hT:TOk γ T tmps):∀ {rs:List ResultVar} {l:List EV},exResL P T H rs=some l →
  ∃ vs,(rs.mapM (resF tmps)).run P w = .ok vs w∧ECL γ l vs
 | [],l,h=>by
  have h':some []=some l:=h;injection h' with h';subst h'
  exact ⟨[],by simp,ECL.nil γ⟩
 | r::rs,l,h=>by
  have h':(match exRes1 P T H r with
   | some a=>match exResL P T H rs with
    | some l=>some (a::l)
    | none=>none
   | none=>none)=some l:=h
  split at h'
  case h_2=>cases h'
  rename_i a ha;split at h'
  case h_2=>cases h'
  rename_i l2 hl2;injection h' with h';subst h'
  obtain ⟨vs,hr,hc⟩:=zld hH hT hl2;have h1:∃ x,(resF tmps r).run P w = .ok x w∧EC γ a x:=by
   cases r with
   | tmp t=>
    obtain ⟨x,hx,hcx⟩:=hT t a ha;exact ⟨x,by simp [resF,getD_of hx],hcx⟩
   | cell ad t=>
    unfold exRes1 at ha;simp only at ha;split at ha
    case h_2=>cases ha
    rename_i i off hg;obtain ⟨x,hx,hcx⟩:=hT ad _ hg;obtain ⟨b,m,hγ,rfl⟩:=zcc hcx;obtain ⟨y,hy,hcy⟩:=zlq (P:=P) hH hγ ha;exact ⟨y,by simp [resF,getD_of hx,asAddr,hy],hcy⟩
  obtain ⟨x,hx,hcx⟩:=h1;refine ⟨x::vs,?_,ECL.cons hcx hc⟩;rw [List.mapM_cons];simp only [Sem.run_bind,hx,hr,Result.andThen_ok,Sem.run_pure]
theorem zjv (hH:HR γ w0 H n w) {tmps:Array Value} (hT:TOk γ T tmps) {fn:Func} {rs:List ResultVar} (hrs:fn.results=rs.toArray) {l:List EV} (h:exResL P T H rs=some l):∃ v,(results fn tmps).run P w = .ok v w∧EC γ (resE l) v:=by
 obtain ⟨vs,hr,hc⟩:=zld hH hT h;refine ⟨resV vs,?_,zol hc⟩;rw [zgi,hrs,Array.mapM_eq_mapM_toList];simp only [Sem.run_bind];have hm:(List.toArray <$> rs.toArray.toList.mapM (resF tmps)).run P w = .ok vs.toArray w:=by
  simp [hr]
 rw [hm]
 match vs with
 | []=>simp [resV]
 | [a]=>simp [resV]
 | a::b::l=>simp [resV]
def eExit (id:Nat) (k:List IM):Option (List IM):=List.rec none (fun e k ih=>match e with
 | .it (.inBlock id')=>bc (Nat.beq id' id) (some k) ih
 | _=>ih) k
theorem zl6 {id:Nat}:∀ {k:List IM} {todo:List Item},All2 (IR γ) k todo→(∀ k',eExit id k=some k'→∃ todo',exitTo id todo=some todo'∧All2 (IR γ) k' todo')∧(eExit id k=none→exitTo id todo=none)
 | [],_,.nil=>⟨fun k' h=>(by cases h),fun _=>rfl⟩
 | e::k,x::todo,.cons he hk=>by
  obtain ⟨h1,h2⟩:=zl6 (id:=id) hk
  cases he with
  | it x=>
   by_cases hx:∃ id',x = .inBlock id'
   ·obtain ⟨id',rfl⟩:=hx;have e1:eExit id (.it (.inBlock id')::k)=bc (Nat.beq id' id) (some k) (eExit id k):=rfl;have e2:exitTo id (.inBlock id'::todo)=if id'==id then some todo else exitTo id todo:=rfl
    rw [e1,e2,bc_eq]
    by_cases hid:id'=id
    ·subst hid;have:Nat.beq id' id'=true:=Nat.beq_refl id';simp only [this,if_true,beq_self_eq_true];exact ⟨fun k' h=>by injection h with h;subst h;exact ⟨todo,rfl,hk⟩,fun h=>by cases h⟩
    ·have:¬ (Nat.beq id' id=true):=fun e=>hid (Nat.eq_of_beq_eq_true e);have h3:(id'==id)=false:=by simpa using hid
     rw [if_neg this,h3];exact ⟨h1,h2⟩
   ·have e1:eExit id (.it x::k)=eExit id k:=by cases x <;> first|rfl|exact absurd ⟨_,rfl⟩ hx
    have e2:exitTo id (x::todo)=exitTo id todo:=by cases x <;> first|rfl|exact absurd ⟨_,rfl⟩ hx
    rw [e1,e2];exact ⟨h1,h2⟩
  | ops ops l idx h=>exact ⟨h1,h2⟩
  | inRF i b m h=>exact ⟨h1,h2⟩
  | endRF i b m h=>exact ⟨h1,h2⟩
def popTo (s:ES) (k:List IM):EO:=.go { s with top:={ s.top with todo:=k } }
theorem zwr {s:ES} {m:Machine} {frs:List Frame} {k:List IM} {todo':List Item} {tmps:Array Value} {ds:List Deferred} {ro:Option Nat} (hret:s.top.ret=false)
  (h1:tmps.size=s.top.N) (h2:TOk γ s.top.T tmps) (h3:All2 (IR γ) k todo') (h4:All2 (DR γ) s.top.dfs ds) (h5:RR γ s.top.round ro) (hfs:All2 (FR γ) s.rest frs) (hH:HR γ w0 s.H s.n w)
  (hs:Steps P m (lone (fram s.top.fn tmps todo' ds ro) (frs++cs) w)):SOk P γ w0 cs fid m (popTo s k):=
 ⟨γ,_,GLe.refl γ,hs,_,frs,w,rfl,⟨tmps,todo',ds,ro,by simp [fram,hret,modeOf],h1,h2,h3,h4,h5⟩,hfs,hH⟩
def pendTo (pend:Option Code) (k:List IM):List IM:=match pend with
 | some c=>.it (.code c)::k
 | none=>k
def giveTo (rest:List EF) (a:EV) (H:Tr EK) (n:Nat):EO:=match rest with
 | c::r=>match exFinish c a with
  | some c'=>.go ⟨c',r,H,n⟩
  | none=>.fail
 | []=>.fail
theorem zft {rest:List EF} {a:EV} {x:Value} {frs:List Frame} {m:Machine} (hfs:All2 (FR γ) rest frs) (hH:HR γ w0 H n w) (hc:EC γ a x) (hs:∀ c r,frs=c::r→Steps P m (lone (c.finish x) (r++cs) w)):SOk P γ w0 cs fid m (giveTo rest a H n):=by
 unfold giveTo;split
 ·rename_i c r;split
  ·rename_i c' hc'
   cases hfs with
   | @cons _ fr _ frs' hf hr=>
    exact ⟨γ,_,GLe.refl γ,hs fr frs' rfl,_,frs',w,rfl,zke hf hc hc',hr,hH⟩
  ·trivial
 ·trivial
def giveToR (rest:List EF) (b:Bool) (H:Tr EK) (n:Nat):EO:=match rest with
 | []=>.doneR b H n
 | _=>giveTo rest (.v (.bool b)) H n
theorem zm3 {rest:List EF} {b:Bool} {frs:List Frame} {m:Machine} (hfs:All2 (FR γ) rest frs) (hH:HR γ w0 H n w) (hs:∀ c r,frs++cs=c::r→Steps P m (lone (c.finish (.bool b)) r w)):SOk P γ w0 cs fid m (giveToR rest b H n):=by
 unfold giveToR;split
 ·cases hfs;intro c r hcr;exact ⟨γ,w,GLe.refl γ,hs c r hcr,hH⟩
 ·refine zft hfs hH (.v _) fun c r hcr=>hs c (r++cs) ?_;rw [hcr];rfl
def endSt (j:Option Code):LoopState:=match j with
 | none=>.ready
 | some _=>.done
def exLeave (s:ES) (jump:Option Code) (isRet:Bool):EO:=match s.top.round with
 | none=>bc isRet (.go { s with top:={ s.top with ret:=true } }) .fail
 | some l=>match s.H.get l with
  | some (.loop _ _ fn N T ps ax bd dd)=>bc (Nat.ble l 65535) (giveToR s.rest jump.isNone (s.H.put l (some (.loop (endSt jump) jump fn N T ps ax bd dd))) s.n) .fail
  | _=>.fail
end
section
open Go.RowKit
variable {P:Program} {γ γ':G} {w0:Bs} {w:World} {H H':Tr EK} {n n':Nat} {T:Tr EV} {cs:List Frame} {fid:FuncId} {FT:Tr FI}
theorem zdi (hH:HR γ w0 H n w) {l:Nat} {b:Pl} {m:Nat} {st:LoopState} {pend:Option Code} {fn:FuncId} {N:Nat} {T:Tr EV} {ps:Array Tmp} {ax bd:Code} {dd:Nat} (hg:H.get l=some (.loop st pend fn N T ps ax bd dd)) (hγ:γ l=some (b,m)) :
  ∃ (tmps:Array Value) (d:Pl) (q:Nat),w.heap[b.k]? = some (.loop { state:=st,pending:=pend,fn:=fn,tmps:=tmps,params:=ps,assign:=ax,body:=bd,defers:=d.k })∧tmps.size=N∧TOk γ T tmps∧γ dd=some (d,q):=by
 obtain ⟨b2,m2,h1,_,h2⟩:=hH.hp l _ hg;rw [hγ] at h1;simp only [Option.some.injEq,Prod.mk.injEq] at h1;obtain ⟨rfl,rfl⟩:=h1;exact h2
theorem HR.putObj (hH:HR γ w0 H n w) {l:Nat} {b:Pl} {m:Nat} {k0:EK} (hl:Nat.ble l 65535=true) (hg:H.get l=some k0) (hγ:γ l=some (b,m)) (o:Obj) (k:EK) (hb:b.k<w.heap.size) (hk:k.ok γ b m (w.putObj b.k o)) (hn0:¬ k0.Nil:=by exact id) (hnn:k.nestB=false:=by rfl):HR γ w0 (H.put l (some k)) n (w.putObj b.k o):=
 hH.turn (hn0:=hn0) (hnn:=hnn) hl hg hγ k (fun c hc=>World.putObj_heap_other hc) (by simp) rfl rfl rfl hk
theorem zhs {s:ES} {tmps:Array Value} {todo:List Item} {ds:List Deferred} {ro:Option Nat} {frs:List Frame} {jump:Option Code} {isRet:Bool}
  (hret:s.top.ret=false) (h1:tmps.size=s.top.N) (h2:TOk γ s.top.T tmps) (h3:All2 (IR γ) s.top.todo todo) (h4:All2 (DR γ) s.top.dfs ds) (h5:RR γ s.top.round ro) (hfs:All2 (FR γ) s.rest frs) (hH:HR γ w0 s.H s.n w)
  (hj:(todo=[]∧jump=none)∨(∃ k,todo = .code .ret::k∧jump=some .ret)∨(∃ id k,todo = .code (.exit id)::k∧exitTo id k=none∧jump=some (.exit id)))
  (hr:isRet=true→todo=[]∨∃ k,todo = .code .ret::k):SOk P γ w0 cs fid (lone (fram s.top.fn tmps todo ds ro) (frs++cs) w) (exLeave s jump isRet):=by
 unfold exLeave;split
 ·rename_i hround;rw [hround] at h5;have h5:ro=none:=h5;subst h5;rw [bc_eq];split
  ·rename_i hi;refine ⟨γ,_,GLe.refl γ,.one (m₁:=lone { fram s.top.fn tmps todo ds none with mode:=.returning } (frs++cs) w) ?_,_,frs,w,rfl,⟨tmps,todo,ds,none,rfl,h1,h2,h3,h4,by rw [hround];rfl⟩,hfs,hH⟩
   rcases hr hi with rfl|⟨k,rfl⟩
   ·exact zwi
   ·exact zwh
  ·trivial
 ·rename_i l hround;rw [hround] at h5;obtain ⟨b,m,hγ,rfl⟩:=h5;split
  ·rename_i st pend fn N T ps ax bd dd hg;rw [bc_eq];split
   case isFalse=>trivial
   rename_i hl;obtain ⟨ts,d,q,g1,g2,g3,g4⟩:=zdi hH hg hγ;have hb:=(Array.getElem?_eq_some_iff.1 g1).1;have hH2:=hH.putObj hl hg hγ (.loop { state:=if jump.isNone then .ready else .done,pending:=jump,fn:=fn,tmps:=ts,params:=ps,assign:=ax,body:=bd,defers:=d.k }) (.loop (endSt jump) jump fn N T ps ax bd dd) hb ⟨ts,d,q,by rw [World.putObj_heap_same hb];cases jump <;> rfl,g2,g3,g4⟩
   refine zm3 hfs hH2 fun c r hcr=>?_;rw [hcr];exact .one (zjs hj g1)
  ·trivial
def exRet (P:Program) (FT:Tr FI) (fid:FuncId) (s:ES):EO:=match s.top.dfs with
 | .mk d::ds=>match s.H.get d with
  | some (.dfr true)=>bc (Nat.ble d 65535) (.go { s with top:={ s.top with dfs:=ds },H:=s.H.put d (some (.dfr false)) }) .fail
  | _=>.fail
 | .cl g k::ds=>match FT.get g with
  | some i=>match i.dq with
   | some k'=>bc (Nat.beq k k') (.go { s with top:={ s.top with dfs:=ds } }) .fail
   | none=>.fail
  | none=>.fail
 | []=>match FT.get s.top.fn with
  | some i=>match exResL P s.top.T s.H i.res with
   | some l=>match s.rest with
    | []=>bc (Nat.beq s.top.fn fid) (.done (resE l) s.H s.n) .fail
    | _=>giveTo s.rest (resE l) s.H s.n
   | none=>.fail
  | none=>.fail
theorem zl0 (hF:FTok P FT) {s:ES} {tmps:Array Value} {todo:List Item} {ds:List Deferred} {ro:Option Nat} {frs:List Frame}
  (hret:s.top.ret=true) (h1:tmps.size=s.top.N) (h2:TOk γ s.top.T tmps) (h3:All2 (IR γ) s.top.todo todo) (h4:All2 (DR γ) s.top.dfs ds) (h5:RR γ s.top.round ro) (hfs:All2 (FR γ) s.rest frs) (hH:HR γ w0 s.H s.n w) :
  SOk P γ w0 cs fid (lone { fram s.top.fn tmps todo ds ro with mode:=.returning } (frs++cs) w) (exRet P FT fid s):=by
 unfold exRet;split
 ·rename_i d dr hdfs;rw [hdfs] at h4
  cases h4 with
  | @cons _ dd _ ds' hd hr=>
   cases hd with
   | mk _ b m hγ=>
   split
   ·rename_i hg;rw [bc_eq];split
    case isFalse=>trivial
    rename_i hl;obtain ⟨b2,m2,e1,_,e2⟩:=hH.hp d _ hg;rw [hγ] at e1;simp only [Option.some.injEq,Prod.mk.injEq] at e1;obtain ⟨rfl,rfl⟩:=e1;have e2:w.heap[b.k]? = some (.deferred (some [])):=e2;have hb:=(Array.getElem?_eq_some_iff.1 e2).1;have hH2:=hH.putObj hl hg hγ (.deferred none) (.dfr false) hb (World.putObj_heap_same hb);exact ⟨γ,_,GLe.refl γ,.one (zul e2),_,frs,_,rfl,⟨tmps,todo,ds',ro,by simp [fram,hret,modeOf],h1,h2,h3,hr,h5⟩,hfs,hH2⟩
   ·trivial
 ·rename_i g k dr hdfs;rw [hdfs] at h4
  cases h4 with
  | @cons _ dd _ ds' hd hr=>
   split
   case h_2=>trivial
   rename_i i hi;split
   case h_2=>trivial
   rename_i k' hk;rw [bc_eq];split
   case isFalse=>trivial
   rename_i hkk;have hkk:=Nat.eq_of_beq_eq_true hkk;subst hkk;exact ⟨γ,_,GLe.refl γ,dq_ok hF hi hk hd,_,frs,w,rfl,⟨tmps,todo,ds',ro,by simp [fram,hret,modeOf],h1,h2,h3,hr,h5⟩,hfs,hH⟩
 ·rename_i hdfs;rw [hdfs] at h4;cases h4;split
  ·rename_i i hi;split
   ·rename_i l hl;obtain ⟨⟨fn,hf,hN,hres,hb,hname⟩,_⟩:=hF _ i hi;obtain ⟨v,hv,hcv⟩:=zjv hH h2 hres hl;split
    ·rename_i hrest;rw [hrest] at hfs;cases hfs;rw [bc_eq];split
     ·rename_i hid;exact ⟨γ,_,w,v,GLe.refl γ,Steps.refl P _,Nat.eq_of_beq_eq_true hid,⟨rfl,rfl,rfl,fn,hf,hv⟩,hcv,hH⟩
     ·trivial
    ·refine zft hfs hH hcv fun c r hcr=>?_;subst hcr;exact .one (zim hf hv)
   ·trivial
  ·trivial
def extV (P:Program) (g:FuncId) (ax:List EV):Option Value:=match valsOf ax with
 | some vs=>match pureOf P (callFunc g vs.toArray) with
  | some (.value v)=>some v
  | _=>none
 | none=>none
def extGo (P:Program) (s:ES) (ops:Array Oper) (o:Oper) (l:List Oper) (k:List IM) (g:FuncId) (ax:List EV):EO:=match extV P g ax with
 | some v=>match setD s.top.T s.top.N o.dst (.v v) with
  | some T'=>.go { s with top:={ s.top with T:=T',todo:=.ops ops l::k } }
  | none=>.fail
 | none=>.fail
theorem zvq {g:FuncId} {ax:List EV} {us:Array Value} {v:Value} (h:extV P g ax=some v) (hc:ECL γ ax us.toList) (w:World):(callFunc g us).run P w = .ok (.value v) w:=by
 unfold extV at h;split at h
 case h_2=>cases h
 rename_i vs hvs;split at h
 case h_2=>cases h
 rename_i v' hv;injection h with h;subst h
 have e:=zfe hvs;subst e;have:us=vs.toArray:=by
  apply Array.ext';apply List.ext_getElem?;intro j;have hl:=hc.1;simp at hl
  by_cases hj:j<vs.length
  ·have h1:=hc.2 j (.v vs[j]) us.toList[j] (by simp [hj]) (List.getElem?_eq_getElem (by simp only [Array.length_toList];omega));have h2:=ec_v h1;simp [hj,show j<us.size by omega] at h2 ⊢;exact h2
  ·have h1:us.toList[j]? = none:=List.getElem?_eq_none (by simp only [Array.length_toList];omega);have h2:vs.toArray.toList[j]? = none:=List.getElem?_eq_none (by simp only [List.toList_toArray];omega);rw [h1,h2]
 rw [this];exact zdd hv w
def ctGo (s:ES) (ops:Array Oper) (o:Oper) (l:List Oper) (k:List IM) (r:Option (EV×Tr EK×Nat)):EO:=match r with
 | some (a,H,n)=>match setD s.top.T s.top.N o.dst a with
  | some T'=>.go { s with top:={ s.top with T:=T',todo:=.ops ops l::k },H:=H,n:=n }
  | none=>.fail
 | none=>.fail
def fnGo (P:Program) (FT:Tr FI) (s:ES) (ops:Array Oper) (o:Oper) (l:List Oper) (k:List IM) (g:FuncId) (ax:List EV):EO:=match ctOf FT g with
 | some c=>ctGo s ops o l k (c ax s.H s.n)
 | none=>match exEnter FT g ax with
  | some e=>.go ⟨e,s.top::s.rest,s.H,s.n⟩
  | none=>extGo P s ops o l k g ax
def dfGo (s:ES) (ops:Array Oper) (o:Oper) (l:List Oper) (k:List IM) (c:Call):EO:=match s.top.round with
 | some _=>.fail
 | none=>match c.callee with
  | .value f=>match exVal s.top.T f with
   | some (.fn g caps)=>match setD s.top.T s.top.N o.dst (.v undef) with
    | some T'=>.go { s with top:={ s.top with T:=T',todo:=.ops ops l::k,dfs:=.cl g (Nat.add (llen c.args.toList) (llen caps))::s.top.dfs } }
    | none=>.fail
   | _=>.fail
  | _=>.fail
def exOps0 (P:Program) (FT:Tr FI) (s:ES) (ops:Array Oper) (o:Oper) (l:List Oper) (k:List IM):EO:=match exGuard s.top.T ops o with
 | some true=>match o.op with
  | .call c=>match c.callee with
   | .value f=>match exVals s.top.T c.args.toList with
    | some args=>match exCallee s.top.T f args with
     | some (.fn g ax)=>fnGo P FT s ops o l k g ax
     | some (.yl i ax)=>match exRound s.H i ax with
      | some e=>.go ⟨e,s.top::s.rest,s.H,s.n⟩
      | none=>.fail
     | none=>.fail
    | none=>.fail
   | _=>match exOp P s.top.T o s.H s.n with
    | some er=>match setD s.top.T s.top.N o.dst (er.val.getD (.v undef)) with
     | some T'=>.go { s with top:={ s.top with T:=T',todo:=.ops ops l::k },H:=er.H,n:=er.n }
     | none=>.fail
    | none=>.fail
  | .defer c=>dfGo s ops o l k c
  | _=>match exOp P s.top.T o s.H s.n with
   | some er=>match setD s.top.T s.top.N o.dst (er.val.getD (.v undef)) with
    | some T'=>.go { s with top:={ s.top with T:=T',todo:=.ops ops l::k },H:=er.H,n:=er.n }
    | none=>.fail
   | none=>.fail
 | some false=>match setD s.top.T s.top.N o.dst (.v undef) with
  | some T'=>.go { s with top:={ s.top with T:=T',todo:=.ops ops l::k } }
  | none=>.fail
 | none=>.fail
def opGo (P:Program) (s:ES) (ops:Array Oper) (o:Oper) (l:List Oper) (k:List IM):EO:=match exOp P s.top.T o s.H s.n with
 | some er=>match setD s.top.T s.top.N o.dst (er.val.getD (.v undef)) with
  | some T'=>.go { s with top:={ s.top with T:=T',todo:=.ops ops l::k },H:=er.H,n:=er.n }
  | none=>.fail
 | none=>.fail
def callGo (P:Program) (FT:Tr FI) (s:ES) (ops:Array Oper) (o:Oper) (l:List Oper) (k:List IM) (c:Call):EO:=match c.callee with
 | .value f=>match exVals s.top.T c.args.toList with
  | some args=>match exCallee s.top.T f args with
   | some (.fn g ax)=>fnGo P FT s ops o l k g ax
   | some (.yl i ax)=>match exRound s.H i ax with
    | some e=>.go ⟨e,s.top::s.rest,s.H,s.n⟩
    | none=>.fail
   | none=>.fail
  | none=>.fail
 | _=>opGo P s ops o l k
def skipGo (s:ES) (ops:Array Oper) (o:Oper) (l:List Oper) (k:List IM):EO:=match setD s.top.T s.top.N o.dst (.v undef) with
 | some T'=>.go { s with top:={ s.top with T:=T',todo:=.ops ops l::k } }
 | none=>.fail
def opsArms (op:Op):Program→Tr FI→ES→Array Oper→Oper→List Oper→List IM→EO:=Op.rec (motive:=fun _=>Program→Tr FI→ES→Array Oper→Oper→List Oper→List IM→EO)
 (fun _ P _ s ops o l k=>opGo P s ops o l k)
 (fun _ P _ s ops o l k=>opGo P s ops o l k)
 (fun _ _ _ P _ s ops o l k=>opGo P s ops o l k)
 (fun _ P _ s ops o l k=>opGo P s ops o l k)
 (fun _ _ P _ s ops o l k=>opGo P s ops o l k)
 (fun _ _ P _ s ops o l k=>opGo P s ops o l k)
 (fun _ _ _ P _ s ops o l k=>opGo P s ops o l k)
 (fun _ _ _ _ P _ s ops o l k=>opGo P s ops o l k)
 (fun _ _ P _ s ops o l k=>opGo P s ops o l k)
 (fun _ _ _ P _ s ops o l k=>opGo P s ops o l k)
 (fun _ P _ s ops o l k=>opGo P s ops o l k)
 (fun _ P _ s ops o l k=>opGo P s ops o l k)
 (fun _ P _ s ops o l k=>opGo P s ops o l k)
 (fun _ _ _ _ _ P _ s ops o l k=>opGo P s ops o l k)
 (fun _ _ _ P _ s ops o l k=>opGo P s ops o l k)
 (fun _ _ _ P _ s ops o l k=>opGo P s ops o l k)
 (fun _ _ P _ s ops o l k=>opGo P s ops o l k)
 (fun _ _ P _ s ops o l k=>opGo P s ops o l k)
 (fun _ _ _ P _ s ops o l k=>opGo P s ops o l k)
 (fun _ _ P _ s ops o l k=>opGo P s ops o l k)
 (fun _ _ P _ s ops o l k=>opGo P s ops o l k)
 (fun _ _ _ P _ s ops o l k=>opGo P s ops o l k)
 (fun _ _ _ _ _ P _ s ops o l k=>opGo P s ops o l k)
 (fun _ _ _ P _ s ops o l k=>opGo P s ops o l k)
 (fun _ _ _ P _ s ops o l k=>opGo P s ops o l k)
 (fun _ _ _ P _ s ops o l k=>opGo P s ops o l k)
 (fun _ _ _ P _ s ops o l k=>opGo P s ops o l k)
 (fun _ _ _ _ P _ s ops o l k=>opGo P s ops o l k)
 (fun _ _ _ _ P _ s ops o l k=>opGo P s ops o l k)
 (fun _ _ _ P _ s ops o l k=>opGo P s ops o l k)
 (fun _ _ _ _ P _ s ops o l k=>opGo P s ops o l k)
 (fun _ _ P _ s ops o l k=>opGo P s ops o l k)
 (fun _ _ P _ s ops o l k=>opGo P s ops o l k)
 (fun _ P _ s ops o l k=>opGo P s ops o l k)
 (fun _ _ _ _ P _ s ops o l k=>opGo P s ops o l k)
 (fun _ _ P _ s ops o l k=>opGo P s ops o l k)
 (fun c P FT s ops o l k=>callGo P FT s ops o l k c)
 (fun _ P _ s ops o l k=>opGo P s ops o l k)
 (fun c _ _ s ops o l k=>dfGo s ops o l k c)
 (fun _ P _ s ops o l k=>opGo P s ops o l k)
 (fun _ _ P _ s ops o l k=>opGo P s ops o l k)
 (fun _ _ _ P _ s ops o l k=>opGo P s ops o l k)
 (fun _ _ P _ s ops o l k=>opGo P s ops o l k)
 op
def exOps (P:Program) (FT:Tr FI) (s:ES) (ops:Array Oper) (o:Oper) (l:List Oper) (k:List IM):EO:=match exGuard s.top.T ops o with
 | some b=>Bool.rec (skipGo s ops o l k) (opsArms o.op P FT s ops o l k) b
 | none=>.fail
theorem zsr {s:ES} {ops:Array Oper} {o:Oper} {l:List Oper} {k:List IM}:exOps P FT s ops o l k=exOps0 P FT s ops o l k:=by
 unfold exOps exOps0
 cases exGuard s.top.T ops o with
 | none=>rfl
 | some b=>
  cases b with
  | false=>rfl
  | true=>
   show opsArms o.op P FT s ops o l k=_;cases o.op <;> rfl
theorem op_ok {s:ES} {ops:Array Oper} {o:Oper} {l:List Oper} {k:List IM} {tmps:Array Value} {i:Nat} {rest:List Nat} {todo:List Item} {ds:List Deferred} {ro:Option Nat} {frs:List Frame}
  (hret:s.top.ret=false) (h1:tmps.size=s.top.N) (h2:TOk γ s.top.T tmps) (hk:All2 (IR γ) k todo) (h4:All2 (DR γ) s.top.dfs ds) (h5:RR γ s.top.round ro) (hfs:All2 (FR γ) s.rest frs) (hH:HR γ w0 s.H s.n w)
  (ho:ops[i]? = some o) (hrest:rest.map (ops[·]?)=l.map some) (hw:Region.wanted o (yielded ops tmps)=true) (hd:notDefer o.op=true) :
  SOk P γ w0 cs fid (lone (fram s.top.fn tmps (.inRegion ops (i::rest)::todo) ds ro) (frs++cs) w) (match exOp P s.top.T o s.H s.n with
   | some er=>match setD s.top.T s.top.N o.dst (er.val.getD (.v undef)) with
    | some T'=>.go { s with top:={ s.top with T:=T',todo:=.ops ops l::k },H:=er.H,n:=er.n }
    | none=>.fail
   | none=>.fail):=by
 split
 case h_2=>trivial
 rename_i er her;split
 case h_2=>trivial
 rename_i T' hT';obtain ⟨γ',w',hle,hH2,hv⟩:=zkc h2 hH er her
 cases hval:er.val with
 | some a=>
  rw [hval] at hv hT';obtain ⟨x,hx,hcx⟩:=hv;obtain ⟨g1,g2⟩:=zcm (h2.mono hle) h1 hT' hcx;refine ⟨γ',_,hle,.one (zbj ho hw hd hx),_,frs,w',rfl,⟨_,_,ds,ro,by simp [fram,hret,modeOf],g2,g1,.cons (.ops ops l rest hrest) (hk.mono fun _ _ h=>h.mono hle),?_,?_⟩,hfs.mono fun _ _ h=>h.mono hle,hH2⟩
  ·exact h4.mono fun _ _ h=>h.mono hle
  ·cases hr:s.top.round with
   | none=>rw [hr] at h5;exact h5
   | some i=>rw [hr] at h5;obtain ⟨b,m,e1,e2⟩:=h5;exact ⟨b,m,hle _ _ e1,e2⟩
 | none=>
  rw [hval] at hv hT';obtain ⟨g1,g2⟩:=zcm (h2.mono hle) h1 hT' (.v undef);refine ⟨γ',_,hle,.one (zdy ho hw hd hv),_,frs,w',rfl,⟨_,_,ds,ro,by simp [fram,hret,modeOf],g2,g1,.cons (.ops ops l rest hrest) (hk.mono fun _ _ h=>h.mono hle),?_,?_⟩,hfs.mono fun _ _ h=>h.mono hle,hH2⟩
  ·exact h4.mono fun _ _ h=>h.mono hle
  ·cases hr:s.top.round with
   | none=>rw [hr] at h5;exact h5
   | some i=>rw [hr] at h5;obtain ⟨b,m,e1,e2⟩:=h5;exact ⟨b,m,hle _ _ e1,e2⟩
theorem zsq (hF:FTok P FT) {s:ES} {ops:Array Oper} {o:Oper} {l:List Oper} {k:List IM} {tmps:Array Value} {todo:List Item} {ds:List Deferred} {ro:Option Nat} {frs:List Frame}
  (hret:s.top.ret=false) (htodo:s.top.todo = .ops ops (o::l)::k) (h1:tmps.size=s.top.N) (h2:TOk γ s.top.T tmps) (h3:All2 (IR γ) s.top.todo todo) (h4:All2 (DR γ) s.top.dfs ds) (h5:RR γ s.top.round ro) (hfs:All2 (FR γ) s.rest frs) (hH:HR γ w0 s.H s.n w) :
  SOk P γ w0 cs fid (lone (fram s.top.fn tmps todo ds ro) (frs++cs) w) (exOps P FT s ops o l k):=by
 have h3':=h3;rw [htodo] at h3'
 cases h3' with
 | @cons _ _ _ todo' hi hk=>
  cases hi with
  | ops _ _ idx hidx=>
   obtain ⟨i,rest,rfl,ho,hrest⟩:=zb8 hidx;have hfr:FR γ s.top (fram s.top.fn tmps (.inRegion ops (i::rest)::todo') ds ro):=⟨tmps,_,ds,ro,by simp [fram,hret,modeOf],h1,h2,h3,h4,h5⟩;rw [zsr];unfold exOps0;split
   ·rename_i hg;have hw:=zb2 h2 hg;split
    ·rename_i c hop;have hd:notDefer o.op=true:=by rw [hop];rfl
     split
     ·rename_i f hf;split
      case h_2=>trivial
      rename_i args hargs;have hca:=zch h2 hargs;have hca:ECL γ args (c.args.map (opEval tmps)).toList:=by simpa using hca
      have hex:∀ w,(execOp (opEval tmps) o).run P w=(do let d ← resolve (opEval tmps) { callee:=.value f,args:=c.args,argTypes:=c.argTypes } o.type;invoke d.target d.args:Sem Next).run P w:=fun w=>by
       obtain ⟨callee,ar,at2⟩:=c;simp only at hf;subst hf;unfold execOp;rw [hop]
      split
      ·rename_i g ax hcal;unfold fnGo;split
       ·rename_i ct hct;unfold ctGo;split
        case h_2=>trivial
        rename_i a H2 n2 hr;split
        case h_2=>trivial
        rename_i T' hT';rcases za5 (P:=P) h2 (opEval tmps) rfl (xs:=c.args) (ats:=c.argTypes) (t:=o.type) rfl hca hcal with ⟨g',ax',us,e1,e2,e3⟩|⟨l',b,m,e1,_⟩
        ·injection e1 with e4 e5;subst e4;subst e5
         obtain ⟨γ',w',x,hle,hH2,hcx,q2,hst⟩:=ct_ok (P:=P) hF hct hH e2 hr (fram s.top.fn tmps (.inRegion ops (i::rest)::todo') ds ro) (frs++cs);obtain ⟨g1,g2⟩:=zcm (h2.mono hle) h1 hT' hcx;rw [zba ho] at hst;refine ⟨γ',_,hle,(Steps.one (zcd ho hw hd (by rw [hex,e3,q2]))).trans hst,_,frs,w',rfl,⟨_,_,ds,ro,by simp [fram,hret,modeOf],g2,g1,.cons (.ops ops l rest hrest) (hk.mono fun _ _ h=>h.mono hle),?_,?_⟩,hfs.mono fun _ _ h=>h.mono hle,hH2⟩
         ·exact h4.mono fun _ _ h=>h.mono hle
         ·cases hr:s.top.round with
          | none=>rw [hr] at h5;exact h5
          | some i=>rw [hr] at h5;obtain ⟨b,m,e1,e2⟩:=h5;exact ⟨b,m,hle _ _ e1,e2⟩
        ·cases e1
       split
       rotate_left
       ·unfold extGo;split
        case h_2=>trivial
        rename_i v hv;split
        case h_2=>trivial
        rename_i T' hT';rcases za5 (P:=P) h2 (opEval tmps) rfl (xs:=c.args) (ats:=c.argTypes) (t:=o.type) rfl hca hcal with ⟨g',ax',us,e1,e2,e3⟩|⟨l',b,m,e1,_⟩
        ·injection e1 with e4 e5;subst e4;subst e5
         obtain ⟨g1,g2⟩:=zcm h2 h1 hT' (.v v);exact ⟨γ,_,GLe.refl γ,.one (zbj ho hw hd (by rw [hex,e3,zvq hv e2])),_,frs,w,rfl,⟨_,_,ds,ro,by simp [fram,hret,modeOf],g2,g1,.cons (.ops ops l rest hrest) hk,h4,h5⟩,hfs,hH⟩
        ·cases e1
       rename_i e he;rcases za5 (P:=P) h2 (opEval tmps) rfl (xs:=c.args) (ats:=c.argTypes) (t:=o.type) rfl hca hcal with ⟨g',ax',us,e1,e2,e3⟩|⟨l',b,m,e1,_⟩
       ·injection e1 with e4 e5;subst e4;subst e5
        obtain ⟨q1,q2⟩:=zci hF e2 he;refine ⟨γ,_,GLe.refl γ,.one (zcd ho hw hd (by rw [hex,e3,q2])),_,_::frs,w,rfl,q1,.cons hfr hfs,hH⟩
       ·cases e1
      ·rename_i i2 ax hcal;split
       case h_2=>trivial
       rename_i e he;rcases za5 (P:=P) h2 (opEval tmps) rfl (xs:=c.args) (ats:=c.argTypes) (t:=o.type) rfl hca hcal with ⟨g',ax',us,e1,_⟩|⟨l',b,m,e1,hγ,e3⟩
       ·cases e1
       ·injection e1 with e4 e5;subst e4;subst e5
        obtain ⟨f2,ts,as2,bd2,q1,q2⟩:=zgq (P:=P) hH hγ hca he;refine ⟨γ,_,GLe.refl γ,.one (zgd ho hw hd (by rw [hex,e3,q1])),_,_::frs,w,rfl,q2,.cons hfr hfs,hH⟩
      ·trivial
     ·exact op_ok hret h1 h2 hk h4 h5 hfs hH ho hrest hw hd
    ·rename_i c hop;unfold dfGo;split
     ·trivial
     rename_i hround;have h5':=h5;rw [hround] at h5;have h5:ro=none:=h5;subst h5;split
     case h_2=>trivial
     rename_i f hf;split
     case h_2=>trivial
     rename_i g caps hfv;split
     case h_2=>trivial
     rename_i T' hT';obtain ⟨g1,g2⟩:=zcm h2 h1 hT' (.v undef);have hcf:=zaa h2 hfv;generalize hy:opEval tmps f=y at hcf
     cases hcf with
     | fn _ _ vs hl hcc=>
     have hrun:(execOp (opEval tmps) o).run P w = .ok (.defer { target:=.fn (.func g) vs.toArray,args:=#[]++c.args.map (opEval tmps) }) w:=by
      obtain ⟨callee,ar,at2⟩:=c;simp only at hf;subst hf;unfold execOp;rw [hop];simp [resolve,hy,Deferred.ofValue]
     exact ⟨γ,_,GLe.refl γ,.one (zri ho hw hop hrun),_,frs,w,rfl,⟨_,_,_,none,by simp [fram,hret,modeOf],g2,g1,.cons (.ops ops l rest hrest) hk,.cons (.cl g _ vs.toArray (#[]++c.args.map (opEval tmps)) (by simp [zac,hl])) h4,h5'⟩,hfs,hH⟩
    ·rename_i hnc hnd;have hd:notDefer o.op=true:=by
      cases hop:o.op <;> first|rfl|exact absurd hop (hnd _)
     exact op_ok hret h1 h2 hk h4 h5 hfs hH ho hrest hw hd
   ·rename_i hg;have hw:=zb2 h2 hg;split
    ·rename_i T' hT';obtain ⟨g1,g2⟩:=zcm h2 h1 hT' (.v undef);exact ⟨γ,_,GLe.refl γ,.one (zio ho hw),_,frs,w,rfl,⟨_,_,ds,ro,by simp [fram,hret,modeOf],g2,g1,.cons (.ops ops l rest hrest) hk,h4,h5⟩,hfs,hH⟩
    ·trivial
   ·trivial
end
section
open Go.RowKit
variable {P:Program} {γ γ':G} {w0:Bs} {w:World} {H H':Tr EK} {n n':Nat} {T:Tr EV} {cs:List Frame} {fid:FuncId} {FT:Tr FI}
def DrOk (P:Program) (dr:ES→Nat→Array Oper→List IM→EO):Prop:=
 ∀ (γ:G) (w0:Bs) (w:World) (cs:List Frame) (fid:FuncId) (s:ES) (id:Nat) (ops:Array Oper) (k:List IM) (tmps:Array Value) (todo:List Item) (ds:List Deferred) (ro:Option Nat) (frs:List Frame),s.top.ret=false→tmps.size=s.top.N→TOk γ s.top.T tmps→All2 (IR γ) k todo →
  All2 (DR γ) s.top.dfs ds→RR γ s.top.round ro→All2 (FR γ) s.rest frs→HR γ w0 s.H s.n w→SOk P γ w0 cs fid (lone (fram s.top.fn tmps (.code (.region id ops true)::todo) ds ro) (frs++cs) w) (dr s id ops k)
def exRF (FT:Tr FI) (s:ES) (f:Operand) (ps:Array Tmp) (ax bd:Code) (k:List IM):EO:=bc (Nat.ble s.n 65534) (match s.top.round with
 | none=>match exCallee s.top.T f [.yl (Nat.succ s.n)] with
  | some (.fn g args)=>match exEnter FT g args with
   | some e=>.go ⟨e,{ s.top with todo:=.inRF (Nat.succ s.n)::k,dfs:=.mk s.n::s.top.dfs }::s.rest,(s.H.put s.n (some (.dfr true))).put (Nat.succ s.n) (some (.loop .ready none s.top.fn s.top.N s.top.T ps ax bd s.n)),Nat.succ (Nat.succ s.n)⟩
   | none=>.fail
  | _=>.fail
 | some l=>match s.H.get l with
  | some (.loop _ _ _ _ _ _ _ _ dd)=>match exCallee s.top.T f [.yl s.n] with
   | some (.fn g args)=>match exEnter FT g args with
    | some e=>.go ⟨e,{ s.top with todo:=.inRF s.n::k }::s.rest,s.H.put s.n (some (.loop .ready none s.top.fn s.top.N s.top.T ps ax bd dd)),Nat.succ s.n⟩
    | none=>.fail
   | _=>.fail
  | _=>.fail) .fail
theorem RR.mono (hle:GLe γ γ') {r:Option Nat} {ro:Option Nat} (h:RR γ r ro):RR γ' r ro:=by
 cases r with
 | none=>exact h
 | some i=>obtain ⟨b,m,e1,e2⟩:=h;exact ⟨b,m,hle _ _ e1,e2⟩
theorem All2.app {α β:Type} {R:α→β→Prop} {l l':List α} {m m':List β} (h:All2 R l m) (h':All2 R l' m'):All2 R (l++l') (m++m'):=by
 induction h with
 | nil=>exact h'
 | cons h _ ih=>exact .cons h ih
theorem ztl (hF:FTok P FT) {s:ES} {f:Operand} {ps:Array Tmp} {ax bd:Code} {k:List IM} {tmps:Array Value} {todo:List Item} {ds:List Deferred} {ro:Option Nat} {frs:List Frame}
  (hret:s.top.ret=false) (h1:tmps.size=s.top.N) (h2:TOk γ s.top.T tmps) (h3:All2 (IR γ) k todo) (h4:All2 (DR γ) s.top.dfs ds) (h5:RR γ s.top.round ro) (hfs:All2 (FR γ) s.rest frs)
  {γ2:G} {w2:World} {l li:Nat} {mark:List Deferred} {nd:List DE} {H2:Tr EK} {n2:Nat} {g:FuncId} {args:List EV} {e:EF}
  (hle:GLe γ γ2) (hel:(Instr.enterLoop s.top.fn tmps ps ax bd ro).run P w = .ok (l,mark) w2) (hl:γ2 li=some (⟨l,0⟩,0)) (hm:All2 (DR γ2) nd mark) (hH2:HR γ2 w0 H2 n2 w2)
  (hcal:exCallee s.top.T f [.yl li]=some (.fn g args)) (he:exEnter FT g args=some e) :
  SOk P γ w0 cs fid (lone (fram s.top.fn tmps (.code (.rangeFunc f ps ax bd)::todo) ds ro) (frs++cs) w) (.go ⟨e,{ s.top with todo:=.inRF li::k,dfs:=nd++s.top.dfs }::s.rest,H2,n2⟩):=by
 have hyl:ECL γ2 [.yl li] (#[.func (.yield l) #[] #[]]:Array Value).toList:=ECL.cons (.yl _ _ 0 hl) (ECL.nil _);have hmap:(#[.const (.func (.yield l) #[] #[])]:Array Operand).map (opEval tmps) = #[.func (.yield l) #[] #[]]:=by simp [opEval]
 rcases za5 (P:=P) (h2.mono hle) (opEval tmps) rfl (xs:=#[.const (.func (.yield l) #[] #[])]) (ats:=#[]) (t:=0) hmap hyl hcal with ⟨g',ax',us,e1,e2,e3⟩|⟨l',b,m,e1,_⟩
 ·injection e1 with e4 e5;subst e4;subst e5
  obtain ⟨q1,q2⟩:=zci hF e2 he;have hst:=zin (P:=P) (k:=todo) (ds:=ds) (cs:=frs++cs) hel ((e3 w2).trans (q2 w2));have hfr:FR γ2 { s.top with todo:=.inRF li::k,dfs:=nd++s.top.dfs } (fram s.top.fn tmps (.inRangeFunc l::todo) (mark++ds) ro):=
   ⟨tmps,_,_,ro,by simp [fram,hret,modeOf],h1,h2.mono hle,.cons (.inRF _ _ 0 hl) (h3.mono fun _ _ h=>h.mono hle),hm.app (h4.mono fun _ _ h=>h.mono hle),h5.mono hle⟩
  exact ⟨γ2,_,hle,.one hst,_,_::frs,_,rfl,q1,.cons hfr (hfs.mono fun _ _ h=>h.mono hle),hH2⟩
 ·cases e1
theorem zvs (hF:FTok P FT) {s:ES} {f:Operand} {ps:Array Tmp} {ax bd:Code} {k:List IM} {tmps:Array Value} {todo:List Item} {ds:List Deferred} {ro:Option Nat} {frs:List Frame}
  (hret:s.top.ret=false) (h1:tmps.size=s.top.N) (h2:TOk γ s.top.T tmps) (h3:All2 (IR γ) k todo) (h4:All2 (DR γ) s.top.dfs ds) (h5:RR γ s.top.round ro) (hfs:All2 (FR γ) s.rest frs) (hH:HR γ w0 s.H s.n w) :
  SOk P γ w0 cs fid (lone (fram s.top.fn tmps (.code (.rangeFunc f ps ax bd)::todo) ds ro) (frs++cs) w) (exRF FT s f ps ax bd k):=by
 unfold exRF;rw [bc_eq];split
 case isFalse=>trivial
 rename_i hn;have hn:=Nat.le_of_ble_eq_true hn;split
 ·rename_i hround;have h5':=h5;rw [hround] at h5;have h5:ro=none:=h5;subst h5;split
  case h_2=>trivial
  rename_i g args hcal;split
  case h_2=>trivial
  rename_i e he;have hH1:HR (γ.upd s.n (⟨w.heap.size,0⟩,0)) w0 (s.H.put s.n (some (.dfr true))) (s.n+1) (w.alloc (.deferred (some []))):=
   hH.new (Nat.ble_eq_true_of_le (by omega)) (.deferred (some [])) 0 (.dfr true) rfl rfl rfl rfl (World.alloc_heap_new w _)
  have hle1:GLe γ (γ.upd s.n (⟨w.heap.size,0⟩,0)):=G.upd_le (hH.fresh s.n (Nat.le_refl _));have hsn:(γ.upd s.n (⟨w.heap.size,0⟩,0)) s.n=some (⟨w.heap.size,0⟩,0):=G.upd_same;have hel:=run_enterLoop_outer (P:=P) (w:=w) s.top.fn tmps ps ax bd;have hsz:(w.alloc (.deferred (some []))).heap.size=w.heap.size+1:=World.size_alloc ..;generalize γ.upd s.n (⟨w.heap.size,0⟩,0)=γ1 at *;generalize w.alloc (.deferred (some []))=w1 at *;have hle2:GLe γ1 (γ1.upd (s.n+1) (⟨w1.heap.size,0⟩,0)):=G.upd_le (hH1.fresh (s.n+1) (Nat.le_refl _))
  have hH2:=hH1.new (w':=w1.alloc (.loop { state:=.ready,pending:=none,fn:=s.top.fn,tmps:=tmps,params:=ps,assign:=ax,body:=bd,defers:=w.heap.size })) (Nat.ble_eq_true_of_le (by omega)) (.loop { state:=.ready,pending:=none,fn:=s.top.fn,tmps:=tmps,params:=ps,assign:=ax,body:=bd,defers:=w.heap.size }) 0 (.loop .ready none s.top.fn s.top.N s.top.T ps ax bd s.n) rfl rfl rfl rfl
   ⟨tmps,⟨w.heap.size,0⟩,0,World.alloc_heap_new _ _,h1,h2.mono (hle1.trans hle2),hle2 _ _ hsn⟩
  have hl2:(γ1.upd (s.n+1) (⟨w1.heap.size,0⟩,0)) (s.n+1)=some (⟨w.heap.size+1,0⟩,0):=by rw [← hsz];exact G.upd_same
  exact ztl (nd:=[.mk s.n]) hF hret h1 h2 h3 h4 h5' hfs (hle1.trans hle2) hel hl2 (.cons (.mk _ ⟨w.heap.size,0⟩ 0 (hle2 _ _ hsn)) .nil) hH2 hcal he
 ·rename_i l hround;have h5':=h5;rw [hround] at h5;obtain ⟨bl,ml,hγl,rfl⟩:=h5;split
  case h_2=>trivial
  rename_i st pend fn N T0 ps0 as0 bd0 dd hg;split
  case h_2=>trivial
  rename_i g args hcal;split
  case h_2=>trivial
  rename_i e he;obtain ⟨ts,d,q,g1,g2,g3,g4⟩:=zdi hH hg hγl;have hle:GLe γ (γ.upd s.n (⟨w.heap.size,0⟩,0)):=G.upd_le (hH.fresh s.n (Nat.le_refl _));have hH1:=hH.new (w':=w.alloc (.loop { state:=.ready,pending:=none,fn:=s.top.fn,tmps:=tmps,params:=ps,assign:=ax,body:=bd,defers:=d.k })) (Nat.ble_eq_true_of_le (by omega)) (.loop { state:=.ready,pending:=none,fn:=s.top.fn,tmps:=tmps,params:=ps,assign:=ax,body:=bd,defers:=d.k }) 0 (.loop .ready none s.top.fn s.top.N s.top.T ps ax bd dd) rfl rfl rfl rfl
   ⟨tmps,d,q,World.alloc_heap_new _ _,h1,h2.mono hle,hle _ _ g4⟩
  have hel:(Instr.enterLoop s.top.fn tmps ps ax bd (some bl.k)).run P w = .ok (w.heap.size,[]) (w.alloc (.loop { state:=.ready,pending:=none,fn:=s.top.fn,tmps:=tmps,params:=ps,assign:=ax,body:=bd,defers:=d.k })):=by
   unfold Instr.enterLoop;simp only [Sem.run_bind,run_getLoop g1,run_newObj_alloc,Result.andThen,Sem.run_pure]
  exact ztl (nd:=[]) hF hret h1 h2 h3 h4 h5' hfs hle hel G.upd_same .nil hH1 hcal he
def exCode0 (P:Program) (FT:Tr FI) (dr:ES→Nat→Array Oper→List IM→EO) (s:ES) (c:Code) (k:List IM):EO:=match c with
 | .skip=>popTo s k
 | .label _=>popTo s k
 | .ret=>exLeave s (some .ret) true
 | .seq a b=>popTo s (.it (.code a) :: .it (.code b)::k)
 | .cond c a b=>match exVal s.top.T c with
  | some (.v (.bool t))=>popTo s (.it (.code (bc t a b))::k)
  | _=>.fail
 | .block id body=>popTo s (.it (.code body) :: .it (.inBlock id)::k)
 | .loop body=>popTo s (.it (.code body) :: .it (.inLoop body)::k)
 | .scope body=>popTo s (.it (.code body) :: .it (.inScope body)::k)
 | .exit id=>match eExit id k with
  | some k'=>popTo s k'
  | none=>exLeave s (some (.exit id)) false
 | .region id ops draw=>match draw with
  | false=>popTo s (.ops ops ops.toList::k)
  | true=>dr s id ops k
 | .rangeFunc f ps ax bd=>exRF FT s f ps ax bd k
 | _=>.fail
def exItem0 (P:Program) (FT:Tr FI) (dr:ES→Nat→Array Oper→List IM→EO) (s:ES):EO:=match s.top.todo with
 | []=>exLeave s none true
 | .it (.code c)::k=>exCode0 P FT dr s c k
 | .it (.inBlock _)::k=>popTo s k
 | .it (.inScope _)::k=>popTo s k
 | .it (.inLoop body)::k=>popTo s (.it (.code body) :: .it (.inLoop body)::k)
 | .it .beginRound::k=>match s.top.round with
  | some l=>match s.H.get l with
   | some (.loop .ready pend fn N T ps ax bd dd)=>bc (Nat.ble l 65535) (.go { s with top:={ s.top with todo:=k },H:=s.H.put l (some (.loop .busy pend fn N T ps ax bd dd)) }) .fail
   | _=>.fail
  | none=>.fail
 | .ops ops []::k=>popTo s k
 | .ops ops (o::l)::k=>exOps P FT s ops o l k
 | .endRF l::k=>match s.H.get l with
  | some (.loop st pend fn N T ps ax bd dd)=>match st with
   | .busy=>.fail
   | _=>bc (Nat.ble l 65535) (.go { s with top:={ s.top with todo:=pendTo pend k },H:=s.H.put l (some (.loop .exhausted pend fn N T ps ax bd dd)) }) .fail
  | _=>.fail
 | _=>.fail
def condGo (s:ES) (c:Operand) (a b:Code) (k:List IM):EO:=match exVal s.top.T c with
 | some (.v (.bool t))=>popTo s (.it (.code (bc t a b))::k)
 | _=>.fail
def exitGo (s:ES) (id:Nat) (k:List IM):EO:=match eExit id k with
 | some k'=>popTo s k'
 | none=>exLeave s (some (.exit id)) false
def beginGo (s:ES) (k:List IM):EO:=match s.top.round with
 | some l=>match s.H.get l with
  | some (.loop .ready pend fn N T ps ax bd dd)=>bc (Nat.ble l 65535) (.go { s with top:={ s.top with todo:=k },H:=s.H.put l (some (.loop .busy pend fn N T ps ax bd dd)) }) .fail
  | _=>.fail
 | none=>.fail
def endGo (s:ES) (l:Nat) (k:List IM):EO:=match s.H.get l with
 | some (.loop st pend fn N T ps ax bd dd)=>match st with
  | .busy=>.fail
  | _=>bc (Nat.ble l 65535) (.go { s with top:={ s.top with todo:=pendTo pend k },H:=s.H.put l (some (.loop .exhausted pend fn N T ps ax bd dd)) }) .fail
 | _=>.fail
abbrev CA:=Program→Tr FI→(ES→Nat→Array Oper→List IM→EO)→ES→List IM→EO
def codeArms (c:Code):CA:=Code.rec (motive:=fun _=>CA)
 (fun _ _ _ s k=>popTo s k)
 (fun id ops draw _ _ dr s k=>Bool.rec (popTo s (.ops ops ops.toList::k)) (dr s id ops k) draw)
 (fun a b _ _ _ _ _ s k=>popTo s (.it (.code a) :: .it (.code b)::k))
 (fun c a b _ _ _ _ _ s k=>condGo s c a b k)
 (fun id body _ _ _ _ s k=>popTo s (.it (.code body) :: .it (.inBlock id)::k))
 (fun body _ _ _ _ s k=>popTo s (.it (.code body) :: .it (.inLoop body)::k))
 (fun f ps ax bd _ _ _ FT _ s k=>exRF FT s f ps ax bd k)
 (fun id _ _ _ s k=>exitGo s id k)
 (fun body _ _ _ _ s k=>popTo s (.it (.code body) :: .it (.inScope body)::k))
 (fun _ _ _ _ s k=>popTo s k)
 (fun _ _ _ _ _ _=>.fail)
 (fun _ _ _ s _=>exLeave s (some .ret) true)
 (fun _ _ _ _ _ _=>.fail)
 c
def itemArms (x:Item):CA:=Item.rec (motive:=fun _=>CA)
 (fun c=>codeArms c)
 (fun _ _ _ _ s k=>popTo s k)
 (fun body _ _ _ s k=>popTo s (.it (.code body) :: .it (.inLoop body)::k))
 (fun _ _ _ _ s k=>popTo s k)
 (fun _ _ _ _ _ _ _=>.fail)
 (fun _ _ _ _ _ _=>.fail)
 (fun _ _ _ _ _ _=>.fail)
 (fun _ _ _ s k=>beginGo s k)
 (fun _ _ _ _ _ _ _ _ _=>.fail)
 (fun _ _ _ _ _ _ _=>.fail)
 x
def imArms (x:IM):CA:=IM.rec (motive:=fun _=>CA)
 (fun x=>itemArms x)
 (fun ops l P FT _ s k=>List.rec (popTo s k) (fun o l _=>exOps P FT s ops o l k) l)
 (fun _ _ _ _ _ _=>.fail)
 (fun l _ _ _ s k=>endGo s l k)
 x
def exItem (P:Program) (FT:Tr FI) (dr:ES→Nat→Array Oper→List IM→EO) (s:ES):EO:=List.rec (exLeave s none true) (fun x k _=>imArms x P FT dr s k) s.top.todo
theorem zp4 {dr:ES→Nat→Array Oper→List IM→EO} {s:ES} {c:Code} {k:List IM}:codeArms c P FT dr s k=exCode0 P FT dr s c k:=by
 cases c with
 | region id ops draw=>cases draw <;> rfl
 | _=>rfl
theorem zp1 {dr:ES→Nat→Array Oper→List IM→EO} {s:ES}:exItem P FT dr s=exItem0 P FT dr s:=by
 unfold exItem exItem0
 cases s.top.todo with
 | nil=>rfl
 | cons x k=>
  cases x with
  | it x=>
   cases x with
   | code c=>exact zp4
   | _=>rfl
  | ops ops l=>cases l <;> rfl
  | _=>rfl
def exStep (P:Program) (FT:Tr FI) (fid:FuncId) (dr:ES→Nat→Array Oper→List IM→EO) (s:ES):EO:=match s.top.ret with
 | true=>exRet P FT fid s
 | false=>exItem P FT dr s
theorem zoq (ops:Array Oper):(List.range ops.size).map (ops[·]?)=ops.toList.map some:=by
 apply List.ext_getElem?;intro j;rw [List.getElem?_map,List.getElem?_map]
 by_cases h:j<ops.size
 ·simp [h]
 ·simp [h]
theorem zc7 (hF:FTok P FT) {dr:ES→Nat→Array Oper→List IM→EO} (hdr:DrOk P dr) {s:ES} {m:Machine} (h:MR γ w0 cs s m):SOk P γ w0 cs fid m (exStep P FT fid dr s):=by
 obtain ⟨fr,frs,w,rfl,⟨tmps,todo,ds,ro,rfl,h1,h2,h3,h4,h5⟩,hfs,hH⟩:=h;unfold exStep;split
 ·rename_i hret;have:=zl0 (fid:=fid) (cs:=cs) hF hret h1 h2 h3 h4 h5 hfs hH;simpa [fram,hret,modeOf] using this
 rename_i hret;rw [show modeOf s.top.ret = .run from by rw [hret];rfl]
 show SOk P γ w0 cs fid (lone (fram s.top.fn tmps todo ds ro) (frs++cs) w) _;have pop:∀ {k:List IM} {todo':List Item},All2 (IR γ) k todo'→Steps P (lone (fram s.top.fn tmps todo ds ro) (frs++cs) w) (lone (fram s.top.fn tmps todo' ds ro) (frs++cs) w)→SOk P γ w0 cs fid (lone (fram s.top.fn tmps todo ds ro) (frs++cs) w) (popTo s k):=
  fun hk hs=>zwr hret h1 h2 hk h4 h5 hfs hH hs
 rw [zp1];unfold exItem0;split
 ·rename_i htodo;rw [htodo] at h3;cases h3;exact zhs hret h1 h2 (by rw [htodo];exact .nil) h4 h5 hfs hH (.inl ⟨rfl,rfl⟩) (fun _=>.inl rfl)
 ·rename_i c k htodo;have h3':=h3;rw [htodo] at h3'
  cases h3' with
  | @cons _ _ _ todo' hi hk=>
   cases hi;unfold exCode0;split
   ·exact pop hk (.one zum)
   ·exact pop hk (.one zrh)
   ·exact zhs hret h1 h2 h3 h4 h5 hfs hH (.inr (.inl ⟨_,rfl,rfl⟩)) (fun _=>.inr ⟨_,rfl⟩)
   ·exact pop (.cons (.it _) (.cons (.it _) hk)) (.one zwg)
   ·split
    ·rename_i c a b t hc;rw [bc_eq];exact pop (.cons (.it _) hk) (.one (zup (ec_v (zaa h2 hc))))
    ·trivial
   ·exact pop (.cons (.it _) (.cons (.it _) hk)) (.one zrj)
   ·exact pop (.cons (.it _) (.cons (.it _) hk)) (.one zun)
   ·exact pop (.cons (.it _) (.cons (.it _) hk)) (.one zrg)
   ·rename_i id;obtain ⟨q1,q2⟩:=zl6 (id:=id) hk;split
    ·rename_i k' hk';obtain ⟨todo2,e1,e2⟩:=q1 k' hk';exact pop e2 (.one (zuo e1))
    ·rename_i hk';exact zhs hret h1 h2 h3 h4 h5 hfs hH (.inr (.inr ⟨_,_,rfl,q2 hk',rfl⟩)) (fun e=>by cases e)
   ·split
    ·exact pop (.cons (.ops _ _ _ (zoq _)) hk) (.one zn4)
    ·exact hdr γ w0 w cs fid s _ _ k tmps _ ds ro frs hret h1 h2 hk h4 h5 hfs hH
   ·exact zvs hF hret h1 h2 hk h4 h5 hfs hH
   ·trivial
 ·rename_i id k htodo;rw [htodo] at h3
  cases h3 with
  | cons hi hk=>cases hi;exact pop hk (.one zmp)
 ·rename_i id k htodo;rw [htodo] at h3
  cases h3 with
  | cons hi hk=>cases hi;exact pop hk (.one zmo)
 ·rename_i id k htodo;rw [htodo] at h3
  cases h3 with
  | cons hi hk=>cases hi;exact pop (.cons (.it _) (.cons (.it _) hk)) (.one zn5)
 ·rename_i k htodo;rw [htodo] at h3
  cases h3 with
  | @cons _ _ _ todo' hi hk=>
   cases hi;split
   case h_2=>trivial
   rename_i l hround;have h5':=h5;rw [hround] at h5;obtain ⟨b,m,hγ,rfl⟩:=h5;split
   case h_2=>trivial
   rename_i pend fn N T ps ax bd dd hg;rw [bc_eq];split
   case isFalse=>trivial
   rename_i hl;obtain ⟨ts,d,q,g1,g2,g3,g4⟩:=zdi hH hg hγ;have hb:=(Array.getElem?_eq_some_iff.1 g1).1;have hH2:=hH.putObj hl hg hγ (.loop { state:=.busy,pending:=pend,fn:=fn,tmps:=ts,params:=ps,assign:=ax,body:=bd,defers:=d.k }) (.loop .busy pend fn N T ps ax bd dd) hb ⟨ts,d,q,World.putObj_heap_same hb,g2,g3,g4⟩;exact ⟨γ,_,GLe.refl γ,.one (zg4 g1 rfl),_,frs,_,rfl,⟨tmps,_,ds,some b.k,by simp [fram,hret,modeOf],h1,h2,hk,h4,h5'⟩,hfs,hH2⟩
 ·rename_i ops k htodo;rw [htodo] at h3
  cases h3 with
  | cons hi hk=>
   cases hi with
   | ops _ _ idx hidx=>
    have:idx=[]:=by cases idx with
     | nil=>rfl
     | cons i r=>simp at hidx
    subst this;exact pop hk (.one zcy)
 ·rename_i ops o l k htodo;exact zsq hF hret htodo h1 h2 h3 h4 h5 hfs hH
 ·rename_i l k htodo;rw [htodo] at h3
  cases h3 with
  | @cons _ _ _ todo' hi hk=>
   cases hi with
   | endRF _ b m hγ=>
    split
    case h_2=>trivial
    rename_i st pend fn N T ps ax bd dd hg;split
    ·trivial
    rename_i hst;rw [bc_eq];split
    case isFalse=>trivial
    rename_i hl;obtain ⟨ts,d,q,g1,g2,g3,g4⟩:=zdi hH hg hγ;have hb:=(Array.getElem?_eq_some_iff.1 g1).1;have hH2:=hH.putObj hl hg hγ (.loop { state:=.exhausted,pending:=pend,fn:=fn,tmps:=ts,params:=ps,assign:=ax,body:=bd,defers:=d.k }) (.loop .exhausted pend fn N T ps ax bd dd) hb ⟨ts,d,q,World.putObj_heap_same hb,g2,g3,g4⟩;refine ⟨γ,_,GLe.refl γ,.one (zmq g1 hst),_,frs,_,rfl,⟨tmps,(pend.map Item.code).toList++todo',ds,ro,by simp [fram,hret,modeOf],h1,h2,?_,h4,h5⟩,hfs,hH2⟩
    cases pend with
    | none=>exact hk
    | some c=>exact .cons (.it _) hk
 ·trivial
def exRun (st:ES→EO) (k:Nat):ES→EO:=Nat.rec (fun s=>st s) (fun _ ih s=>EO.rec (fun s'=>ih s') (fun a H n=>.done a H n) (fun b H n=>.doneR b H n) .fail (ih s)) k
theorem SOk.trans {γ γ':G} {m m':Machine} (hle:GLe γ γ') (hs:Steps P m m') {e:EO} (h:SOk P γ' w0 cs fid m' e):SOk P γ w0 cs fid m e:=by
 cases e with
 | go s=>obtain ⟨γ2,m2,h1,h2,h3⟩:=h;exact ⟨γ2,m2,hle.trans h1,hs.trans h2,h3⟩
 | done a H n=>obtain ⟨γ2,fr',w',v,h1,h2,h3⟩:=h;exact ⟨γ2,fr',w',v,hle.trans h1,hs.trans h2,h3⟩
 | doneR b H n=>intro c r hcr;obtain ⟨γ2,w',h1,h2,h3⟩:=h c r hcr;exact ⟨γ2,w',hle.trans h1,hs.trans h2,h3⟩
 | fail=>trivial
theorem zfd {st:ES→EO} (hst:∀ (γ:G) (s:ES) (m:Machine),MR γ w0 cs s m→SOk P γ w0 cs fid m (st s)):∀ (k:Nat) (γ:G) (s:ES) (m:Machine),MR γ w0 cs s m→SOk P γ w0 cs fid m (exRun st k s)
 | 0,γ,s,m,h=>hst γ s m h
 | k+1,γ,s,m,h=>by
  have h1:=zfd hst k γ s m h;show SOk P γ w0 cs fid m (EO.rec (fun s'=>exRun st k s') (fun a H n=>.done a H n) (fun b H n=>.doneR b H n) .fail (exRun st k s))
  cases hr:exRun st k s with
  | go s'=>
   rw [hr] at h1;obtain ⟨γ',m',hle,hs,hm⟩:=h1;exact SOk.trans hle hs (zfd hst k γ' s' m' hm)
  | done a H n=>rw [hr] at h1;exact h1
  | doneR b H n=>rw [hr] at h1;exact h1
  | fail=>trivial
def noDraw:ES→Nat→Array Oper→List IM→EO:=fun _ _ _ _=>.fail
theorem zow:DrOk P noDraw:=fun _ _ _ _ _ _ _ _ _ _ _ _ _ _ _ _ _ _ _ _ _ _=>trivial
end
section
variable {P:Program}
def ofFunc (F:Func):FI:=⟨F.ntmps,F.results.toList,F.body.getD .skip,none,none⟩
theorem FTok.nil (P:Program):FTok P .nil:=fun f i h=>by cases h
theorem FTok.add {FT:Tr FI} (h:FTok P FT) {f:Nat} {F:Func} (hb:Nat.ble f 65535=true) (hf:P.funcs[f]? = some F) (hs:F.body.isSome=true) (hn:(F.name == "runtime.NumGoroutine")=false):FTok P (FT.put f (some (ofFunc F))):=fun g i hg=>by
 rw [Tr.get_put hb] at hg
 by_cases e:g=f
 ·rw [if_pos e] at hg;injection hg with hg;subst hg;subst e
  obtain ⟨c,hc⟩:=Option.isSome_iff_exists.1 hs;exact ⟨⟨F,hf,rfl,by simp [ofFunc],by simp [ofFunc,hc],hn⟩,fun c hc=>(by cases hc),fun k hk=>(by cases hk)⟩
 ·rw [if_neg e] at hg;exact h g i hg
end
section
open Go.RowKit
variable {P:Program} {γ γ':G} {w0:Bs} {w:World} {H H':Tr EK} {n n':Nat} {T:Tr EV} {cs:List Frame} {fid:FuncId} {FT:Tr FI}
def eqL {α:Type} (f:α→α→Bool) (l:List α):List α→Bool:=List.rec (fun m=>match m with
 | []=>true
 | _=>false) (fun a _ ih m=>match m with
 | b::m=>bc (f a b) (ih m) false
 | []=>false) l
theorem zd8 {α:Type} {f:α→α→Bool} (hf:∀ a b,f a b=true→a=b):∀ {l m:List α},eqL f l m=true→l=m
 | [],[],_=>rfl
 | [],b::m,h=>by exact absurd (show false=true from h) (by simp)
 | a::l,[],h=>by exact absurd (show false=true from h) (by simp)
 | a::l,b::m,h=>by
  have h':bc (f a b) (eqL f l m) false=true:=h;rw [bc_eq] at h';split at h'
  ·rename_i e;rw [hf a b e,zd8 hf h']
  ·cases h'
def eqV0 (x y:Value):Bool:=match x with
 | .bool a=>match y with
  | .bool b=>bc a b (bc b false true)
  | _=>false
 | .int k a=>match y with
  | .int j b=>bc (decide (k=j)) (decide (a=b)) false
  | _=>false
 | .string a=>match y with
  | .string b=>eqL (fun (x y:UInt8)=>decide (x.toNat=y.toNat)) a.data.toList b.data.toList
  | _=>false
 | .slice none l c=>match y with
  | .slice none l' c'=>bc (Nat.beq l l') (Nat.beq c c') false
  | _=>false
 | .pointer none=>match y with
  | .pointer none=>true
  | _=>false
 | .nilFunc=>match y with
  | .nilFunc=>true
  | _=>false
 | .nilIface=>match y with
  | .nilIface=>true
  | _=>false
 | _=>false
theorem zev (x y:Value) (h:eqV0 x y=true):x=y:=by
 unfold eqV0 at h;split at h
 ·split at h
  ·rename_i a _ b;rw [bc_eq,bc_eq] at h;cases a <;> cases b <;> simp at h <;> rfl
  ·cases h
 ·split at h
  ·rw [bc_eq] at h;split at h
   ·rename_i h1;rw [of_decide_eq_true h1,of_decide_eq_true h]
   ·cases h
  ·cases h
 ·split at h
  ·rename_i a _ b;have:=zd8 (fun x y e=>UInt8.toNat_inj.1 (of_decide_eq_true e)) h;have h2:a=b:=by
    cases a with|mk d=>cases b with|mk d'=>exact congrArg ByteArray.mk (Array.ext' this)
   rw [h2]
  ·cases h
 ·split at h
  ·rw [bc_eq] at h;split at h
   ·rename_i h1;rw [Nat.eq_of_beq_eq_true h1,Nat.eq_of_beq_eq_true h]
   ·cases h
  ·cases h
 ·split at h <;> first|rfl|cases h
 ·split at h <;> first|rfl|cases h
 ·split at h <;> first|rfl|cases h
 ·cases h
def eqV (x y:Value):Bool:=match x with
 | .agg a=>match y with
  | .agg b=>eqL eqV0 a.toList b.toList
  | _=>false
 | .tuple a=>match y with
  | .tuple b=>eqL eqV0 a.toList b.toList
  | _=>false
 | _=>eqV0 x y
theorem zw3 (x y:Value) (h:eqV x y=true):x=y:=by
 unfold eqV at h;split at h
 ·split at h
  ·have:=Array.ext' (zd8 zev h);rw [this]
  ·cases h
 ·split at h
  ·have:=Array.ext' (zd8 zev h);rw [this]
  ·cases h
 ·exact zev x y h
def eqO (a b:Option Nat):Bool:=match a with
 | none=>match b with
  | none=>true
  | _=>false
 | some x=>match b with
  | some y=>Nat.beq x y
  | none=>false
theorem zw4 {a b:Option Nat} (h:eqO a b=true):a=b:=by
 unfold eqO at h;split at h
 ·split at h <;> first|rfl|cases h
 ·split at h
  ·rw [Nat.eq_of_beq_eq_true h]
  ·cases h
def eqSy (a b:SyC):Bool:=@decide (a=b) (Classical.propDecidable _)
theorem zf3 (a:SyC):eqSy a a=true:=@decide_eq_true _ (Classical.propDecidable _) rfl
theorem zkl {a b:SyC} (h:eqSy a b=true):a=b:=@of_decide_eq_true _ (Classical.propDecidable _) h
def eqN (a b:Bool):Bool:=bc a b (bc b false true)
theorem zl3 (a:Bool):eqN a a=true:=by cases a <;> rfl
theorem zjg {a b:Bool} (h:eqN a b=true):a=b:=by cases a <;> cases b <;> first|rfl|cases h
def eqE (k:Nat):EV→EV→Bool:=Nat.rec (fun _ _=>false) (fun _ ih x y=>match x with
 | .v a=>match y with
  | .v b=>eqV a b
  | _=>false
 | .ptr i o=>match y with
  | .ptr j o'=>bc (Nat.beq i j) (Nat.beq o o') false
  | _=>false
 | .sl i z o l c=>match y with
  | .sl i' z' o' l' c'=>bc (Nat.beq i i') (bc (Nat.beq z z') (bc (Nat.beq o o') (bc (Nat.beq l l') (eqO c c') false) false) false) false
  | _=>false
 | .agg l=>match y with
  | .agg m=>eqL ih l m
  | _=>false
 | .tup l=>match y with
  | .tup m=>eqL ih l m
  | _=>false
 | .fn f l=>match y with
  | .fn g m=>bc (Nat.beq f g) (eqL ih l m) false
  | _=>false
 | .yl i=>match y with
  | .yl j=>Nat.beq i j
  | _=>false
 | .mp i=>match y with
  | .mp j=>Nat.beq i j
  | _=>false
 | .slE i z o=>match y with
  | .slE j z' o'=>bc (Nat.beq i j) (bc (Nat.beq z z') (Nat.beq o o') false) false
  | _=>false
 | .mt f l=>match y with
  | .mt g m=>bc (Nat.beq f g) (eqL ih l m) false
  | _=>false
 | .slO i z l nn=>match y with
  | .slO i' z' l' nn'=>bc (Nat.beq i i') (bc (Nat.beq z z') (bc (Nat.beq l l') (eqN nn nn') false) false) false
  | _=>false
 | .lst c=>match y with
  | .lst c'=>eqSy c c'
  | _=>false
 | .lp c j f=>match y with
  | .lp c' j' f'=>bc (eqSy c c') (bc (Nat.beq j j') (Nat.beq f f') false) false
  | _=>false
 | .ptrE i z j f=>match y with
  | .ptrE i' z' j' f'=>bc (Nat.beq i i') (bc (Nat.beq z z') (bc (Nat.beq j j') (Nat.beq f f') false) false) false
  | _=>false
 | .arr c=>match y with
  | .arr c'=>eqSy c c'
  | _=>false
 | .row i v j f s z l=>match y with
  | .row i' v' j' f' s' z' l'=>bc (Nat.beq i i') (bc (Nat.beq v v') (bc (Nat.beq j j') (bc (Nat.beq f f') (bc (Nat.beq s s') (bc (Nat.beq z z') (Nat.beq l l') false) false) false) false) false) false
  | _=>false
 | .prow i v j f s z a g=>match y with
  | .prow i' v' j' f' s' z' a' g'=>bc (Nat.beq i i') (bc (Nat.beq v v') (bc (Nat.beq j j') (bc (Nat.beq f f') (bc (Nat.beq s s') (bc (Nat.beq z z') (bc (Nat.beq a a') (Nat.beq g g') false) false) false) false) false) false) false
  | _=>false
 | .slX i z o l=>match y with
  | .slX i' z' o' l'=>bc (Nat.beq i i') (bc (Nat.beq z z') (bc (Nat.beq o o') (Nat.beq l l') false) false) false
  | _=>false) k
theorem zl4:∀ (k:Nat) (x y:EV),eqE k x y=true→x=y
 | 0,x,y,h=>by exact absurd (show false=true from h) (by simp)
 | k+1,x,y,h=>by
  have ih:=zl4 k;cases x <;> cases y <;> first|(exact absurd (show false=true from h) (by simp))|skip
  ·rename_i a b;have h:eqV a b=true:=h;rw [zw3 _ _ h]
  ·rename_i i o j o';have h:bc (Nat.beq i j) (Nat.beq o o') false=true:=h;rw [bc_eq] at h;split at h
   ·rename_i h1;rw [Nat.eq_of_beq_eq_true h1,Nat.eq_of_beq_eq_true h]
   ·cases h
  ·rename_i i z o l c i' z' o' l' c';have h:bc (Nat.beq i i') (bc (Nat.beq z z') (bc (Nat.beq o o') (bc (Nat.beq l l') (eqO c c') false) false) false) false=true:=h;simp only [bc_eq] at h;split at h
   case isFalse=>cases h
   rename_i h1;split at h
   case isFalse=>cases h
   rename_i h2;split at h
   case isFalse=>cases h
   rename_i h3;split at h
   case isFalse=>cases h
   rename_i h4;rw [Nat.eq_of_beq_eq_true h1,Nat.eq_of_beq_eq_true h2,Nat.eq_of_beq_eq_true h3,Nat.eq_of_beq_eq_true h4,zw4 h]
  ·rename_i l m;have h:eqL (eqE k) l m=true:=h;rw [zd8 ih h]
  ·rename_i l m;have h:eqL (eqE k) l m=true:=h;rw [zd8 ih h]
  ·rename_i f l g m;have h:bc (Nat.beq f g) (eqL (eqE k) l m) false=true:=h;rw [bc_eq] at h;split at h
   ·rename_i h1;rw [Nat.eq_of_beq_eq_true h1,zd8 ih h]
   ·cases h
  ·rename_i i j;have h:Nat.beq i j=true:=h;rw [Nat.eq_of_beq_eq_true h]
  ·rename_i i j;have h:Nat.beq i j=true:=h;rw [Nat.eq_of_beq_eq_true h]
  ·rename_i i z o j z' o';have h:bc (Nat.beq i j) (bc (Nat.beq z z') (Nat.beq o o') false) false=true:=h;rw [bc_eq,bc_eq] at h;split at h
   case isFalse=>cases h
   rename_i h1;split at h
   case isFalse=>cases h
   rename_i h2;rw [Nat.eq_of_beq_eq_true h1,Nat.eq_of_beq_eq_true h2,Nat.eq_of_beq_eq_true h]
  ·rename_i f l g m;have h:bc (Nat.beq f g) (eqL (eqE k) l m) false=true:=h;rw [bc_eq] at h;split at h
   ·rename_i h1;rw [Nat.eq_of_beq_eq_true h1,zd8 ih h]
   ·cases h
  ·rename_i i z l nn i' z' l' nn';have h:bc (Nat.beq i i') (bc (Nat.beq z z') (bc (Nat.beq l l') (eqN nn nn') false) false) false=true:=h;rw [bc_eq,bc_eq,bc_eq] at h;split at h
   case isFalse=>cases h
   rename_i h1;split at h
   case isFalse=>cases h
   rename_i h2;split at h
   case isFalse=>cases h
   rename_i h3;rw [Nat.eq_of_beq_eq_true h1,Nat.eq_of_beq_eq_true h2,Nat.eq_of_beq_eq_true h3,zjg h]
  ·rename_i c c';have h:eqSy c c'=true:=h;rw [zkl h]
  ·rename_i c j f c' j' f';have h:bc (eqSy c c') (bc (Nat.beq j j') (Nat.beq f f') false) false=true:=h;rw [bc_eq,bc_eq] at h;split at h
   case isFalse=>cases h
   rename_i h1;split at h
   case isFalse=>cases h
   rename_i h2;rw [zkl h1,Nat.eq_of_beq_eq_true h2,Nat.eq_of_beq_eq_true h]
  ·rename_i i z j f i' z' j' f';have h:bc (Nat.beq i i') (bc (Nat.beq z z') (bc (Nat.beq j j') (Nat.beq f f') false) false) false=true:=h;rw [bc_eq,bc_eq,bc_eq] at h;split at h
   case isFalse=>cases h
   rename_i h1;split at h
   case isFalse=>cases h
   rename_i h2;split at h
   case isFalse=>cases h
   rename_i h3;rw [Nat.eq_of_beq_eq_true h1,Nat.eq_of_beq_eq_true h2,Nat.eq_of_beq_eq_true h3,Nat.eq_of_beq_eq_true h]
  ·rename_i c c';have h:eqSy c c'=true:=h;rw [zkl h]
  ·rename_i i v j f s z l i' v' j' f' s' z' l';have h:bc (Nat.beq i i') (bc (Nat.beq v v') (bc (Nat.beq j j') (bc (Nat.beq f f') (bc (Nat.beq s s') (bc (Nat.beq z z') (Nat.beq l l') false) false) false) false) false) false=true:=h;simp only [bc_eq] at h;split at h
   case isFalse=>cases h
   rename_i h1;split at h
   case isFalse=>cases h
   rename_i h2;split at h
   case isFalse=>cases h
   rename_i h3;split at h
   case isFalse=>cases h
   rename_i h4;split at h
   case isFalse=>cases h
   rename_i h5;split at h
   case isFalse=>cases h
   rename_i h6;rw [Nat.eq_of_beq_eq_true h1,Nat.eq_of_beq_eq_true h2,Nat.eq_of_beq_eq_true h3,Nat.eq_of_beq_eq_true h4,Nat.eq_of_beq_eq_true h5,Nat.eq_of_beq_eq_true h6,Nat.eq_of_beq_eq_true h]
  ·rename_i i v j f s z a g i' v' j' f' s' z' a' g';have h:bc (Nat.beq i i') (bc (Nat.beq v v') (bc (Nat.beq j j') (bc (Nat.beq f f') (bc (Nat.beq s s') (bc (Nat.beq z z') (bc (Nat.beq a a') (Nat.beq g g') false) false) false) false) false) false) false=true:=h;simp only [bc_eq] at h;split at h
   case isFalse=>cases h
   rename_i h1;split at h
   case isFalse=>cases h
   rename_i h2;split at h
   case isFalse=>cases h
   rename_i h3;split at h
   case isFalse=>cases h
   rename_i h4;split at h
   case isFalse=>cases h
   rename_i h5;split at h
   case isFalse=>cases h
   rename_i h6;split at h
   case isFalse=>cases h
   rename_i h7;rw [Nat.eq_of_beq_eq_true h1,Nat.eq_of_beq_eq_true h2,Nat.eq_of_beq_eq_true h3,Nat.eq_of_beq_eq_true h4,Nat.eq_of_beq_eq_true h5,Nat.eq_of_beq_eq_true h6,Nat.eq_of_beq_eq_true h7,Nat.eq_of_beq_eq_true h]
  ·rename_i i z o l i' z' o' l';have h:bc (Nat.beq i i') (bc (Nat.beq z z') (bc (Nat.beq o o') (Nat.beq l l') false) false) false=true:=h;simp only [bc_eq] at h;split at h
   case isFalse=>cases h
   rename_i h1;split at h
   case isFalse=>cases h
   rename_i h2;split at h
   case isFalse=>cases h
   rename_i h3;rw [Nat.eq_of_beq_eq_true h1,Nat.eq_of_beq_eq_true h2,Nat.eq_of_beq_eq_true h3,Nat.eq_of_beq_eq_true h]
end
section
open Go.RowKit
variable {P:Program} {γ γ':G} {w0:Bs} {w:World} {H H':Tr EK} {n n':Nat} {T:Tr EV} {cs:List Frame} {fid:FuncId} {FT:Tr FI} {o:Oper}
def quietB:Builtin→Bool
 | .append | .copy | .clear | .delete=>false
 | _=>true
def quiet:Op→Bool
 | .move _ | .assign _ | .pick _ _ _ | .build _ _ | .load _ _ | .nilCheck _ | .binOp _ _ _ _ _ | .unOp _ _ _ | .convert _ _ _ | .makeFunc _ _ _ | .slice _ _ _ _ _ | .fieldAddr _ _ _ | .field _ _ _ | .indexAddr _ _ _ | .index _ _ _ | .extract _ _ | .lookup _ _ _ _=>true
 | .call c=>match c.callee with
  | .builtin b=>quietB b
  | _=>false
 | _=>false
theorem zal {a:Option EV} {er:ER} (h:keep a H n=some er):er.H=H∧er.n=n∧er.val.isSome=true:=by
 unfold keep at h;split at h
 ·injection h with h;subst h;exact ⟨rfl,rfl,rfl⟩
 ·cases h
theorem zau {a:Option ER} {er:ER} (ha:∀ e,a=some e→e.H=H∧e.n=n∧e.val.isSome=true) (h:orPure a P T o H n=some er):er.H=H∧er.n=n∧er.val.isSome=true:=by
 unfold orPure at h;split at h
 ·injection h with h;subst h;exact ha _ rfl
 ·split at h
  ·injection h with h;subst h;exact ⟨rfl,rfl,rfl⟩
  ·cases h
def isToB (P:Program) (T:Tr EV) (o:Oper) (H:Tr EK) (n:Nat):Bool:=match o.op with
 | .convert src dst x=>Option.isSome (exToB P T src dst x H n)
 | _=>false
theorem zm6 (hq:quiet o.op=true) (hb:isToB P T o H n=false) {er:ER} (h:exOp P T o H n=some er):er.H=H∧er.n=n∧er.val.isSome=true:=by
 rw [zh3] at h;unfold exOp0 at h;split at h
 ·exact zal h
 ·exact zal h
 ·exact zal h
 ·rename_i ho;rw [ho] at hq;simp [quiet] at hq
 ·rename_i ho;rw [ho] at hq;simp [quiet] at hq
 ·exact zal h
 ·rename_i ho;rw [ho] at hq;simp [quiet] at hq
 ·exact zal h
 ·rename_i ho;rw [ho] at hq;simp [quiet] at hq
 ·exact zau (fun e he=>zal he) h
 ·refine zau (fun e he=>?_) h;split at he
  ·exact zal he
  ·exact zal he
 ·exact zal h
 ·rename_i ho;rw [ho] at hq;simp [quiet] at hq
 ·exact zau (fun e he=>zal he) h
 ·exact zal h
 ·exact zau (fun e he=>zal he) h
 ·exact zal h
 ·exact zau (fun e he=>zal he) h
 ·exact zau (fun e he=>zal he) h
 ·rename_i src dst x ho;unfold exConvert at h;split at h
  ·rename_i er' he;unfold isToB at hb;rw [ho] at hb;simp only [he] at hb;cases hb
  ·exact zau (fun e he=>zal he) h
 ·rename_i ho;rw [ho] at hq;simp [quiet] at hq
 ·rename_i ho;rw [ho] at hq;simp [quiet] at hq
 ·exact zau (fun e he=>zal he) h
 ·rename_i ho;rw [ho] at hq;simp [quiet] at hq
 ·rename_i c ho;rw [ho] at hq;split at h
  ·rename_i b hb;simp only [quiet,hb] at hq;refine zau (fun e he=>?_) h;unfold exBuiltin at he;split at he
   ·simp [quietB] at hq
   ·simp [quietB] at hq
   ·simp [quietB] at hq
   ·simp [quietB] at hq
   ·split at he
    ·split at he
     ·exact zal he
     ·cases he
    ·cases he
   ·cases he
  ·cases h
 ·exact zau (fun e he=>by cases he) h
theorem zax (hq:quiet o.op=true):notDefer o.op=true:=by
 cases hop:o.op <;> first|rfl|(rw [hop] at hq;simp [quiet] at hq)
def exQ (P:Program) (T:Tr EV) (o:Oper) (H:Tr EK) (n:Nat):Option EV:=bc (isToB P T o H n) none (match exOp P T o H n with
 | some er=>er.val
 | none=>none)
theorem zjc {tmps:Array Value} (hT:TOk γ T tmps) (hH:HR γ w0 H n w) (hq:quiet o.op=true) {a:EV} (h:exQ P T o H n=some a):∃ γ' w' x,GLe γ γ'∧HR γ' w0 H n w'∧(execOp (opEval tmps) o).run P w = .ok (.value x) w'∧EC γ' a x:=by
 unfold exQ at h;rw [bc_eq] at h;split at h
 case isTrue=>cases h
 rename_i hb;have hb:isToB P T o H n=false:=by simpa using hb
 split at h
 case h_2=>cases h
 rename_i er her;obtain ⟨e1,e2,_⟩:=zm6 hq hb her;obtain ⟨γ',w',hle,hH2,hv⟩:=zkc hT hH er her;rw [h] at hv;obtain ⟨x,hx,hc⟩:=hv;rw [e1,e2] at hH2;exact ⟨γ',w',x,hle,hH2,hx,hc⟩
abbrev Sub:=EC2→Tr EK→Nat→Option (EV×Tr EK×Nat)
def exSub (st:FuncId→ES→EO) (FT:Tr FI) (K:Nat):Sub:=fun c H n=>match c with
 | .fn g ax=>match ctOf FT g with
  | some c=>c ax H n
  | none=>match exEnter FT g ax with
   | some e=>match exRun (st g) K ⟨e,[],H,n⟩ with
    | .done a H' n'=>some (a,H',n')
    | _=>none
   | none=>none
 | .yl i ax=>match exRound H i ax with
  | some e=>match exRun (st e.fn) K ⟨e,[],H,n⟩ with
   | .doneR b H' n'=>some (.v (.bool b),H',n')
   | _=>none
  | none=>none
def exLoud (P:Program) (sub:Sub) (T:Tr EV) (o:Oper) (H:Tr EK) (n:Nat):Option (EV×Tr EK×Nat):=match o.op with
 | .call c=>match c.callee with
  | .value f=>match exVals T c.args.toList with
   | some args=>match exCallee T f args with
    | some c2=>sub c2 H n
    | none=>none
   | none=>none
  | _=>match exOp P T o H n with
   | some er=>some (er.val.getD (.v undef),er.H,er.n)
   | none=>none
 | .defer _=>none
 | _=>match exOp P T o H n with
  | some er=>some (er.val.getD (.v undef),er.H,er.n)
  | none=>none
def LoudOk (P:Program) (sub:Sub):Prop:=∀ (γ:G) (w0:Bs) (w:World) (T:Tr EV) (o:Oper) (H:Tr EK) (n:Nat) (a:EV) (H':Tr EK) (n':Nat) (fn:FuncId) (tmps:Array Value) (ops:Array Oper) (i:Nat) (rest:List Nat) (k:List Item) (ds:List Deferred) (ro:Option Nat) (cs:List Frame),
 TOk γ T tmps→HR γ w0 H n w→ops[i]? = some o→Region.wanted o (yielded ops tmps)=true→exLoud P sub T o H n=some (a,H',n') →
 ∃ γ' w' x,GLe γ γ'∧HR γ' w0 H' n' w'∧EC γ' a x∧Steps P (lone (fram fn tmps (.inRegion ops (i::rest)::k) ds ro) cs w) (lone (fram fn (putD tmps o.dst x) (.inRegion ops rest::k) ds ro) cs w')
theorem zpa {tmps:Array Value} (hT:TOk γ T tmps) (hH:HR γ w0 H n w) {a:EV} {H':Tr EK} {n':Nat} {fn:FuncId} {ops:Array Oper} {i:Nat} {rest:List Nat} {k:List Item} {ds:List Deferred} {ro:Option Nat} {cs:List Frame}
  (ho:ops[i]? = some o) (hw:Region.wanted o (yielded ops tmps)=true) (hd:notDefer o.op=true) (h:(match exOp P T o H n with
   | some er=>some (er.val.getD (.v undef),er.H,er.n)
   | none=>none)=some (a,H',n')) :
  ∃ γ' w' x,GLe γ γ'∧HR γ' w0 H' n' w'∧EC γ' a x∧Steps P (lone (fram fn tmps (.inRegion ops (i::rest)::k) ds ro) cs w) (lone (fram fn (putD tmps o.dst x) (.inRegion ops rest::k) ds ro) cs w'):=by
 split at h
 case h_2=>cases h
 rename_i er her;simp only [Option.some.injEq,Prod.mk.injEq] at h;obtain ⟨rfl,rfl,rfl⟩:=h;obtain ⟨γ',w',hle,hH2,hv⟩:=zkc hT hH er her
 cases hval:er.val with
 | some a=>
  rw [hval] at hv;obtain ⟨x,hx,hcx⟩:=hv;exact ⟨γ',w',x,hle,hH2,hcx,.one (zbj ho hw hd hx)⟩
 | none=>
  rw [hval] at hv;exact ⟨γ',w',undef,hle,hH2,.v _,.one (zdy ho hw hd hv)⟩
theorem loudOk (hF:FTok P FT) {st:FuncId→ES→EO} (hst:∀ (fid:FuncId) (cs:List Frame) (w0:Bs) (γ:G) (s:ES) (m:Machine),MR γ w0 cs s m→SOk P γ w0 cs fid m (st fid s)) (K:Nat):LoudOk P (exSub st FT K):=by
 intro γ w0 w T o H n a H' n' fn tmps ops i rest k ds ro cs hT hH ho hw h;unfold exLoud at h;split at h
 ·rename_i c hop;have hd:notDefer o.op=true:=by rw [hop];rfl
  split at h
  ·rename_i f hf;split at h
   case h_2=>cases h
   rename_i args hargs;split at h
   case h_2=>cases h
   rename_i c2 hcal;have hca:=zch hT hargs;have hca:ECL γ args (c.args.map (opEval tmps)).toList:=by simpa using hca
   have hex:∀ w,(execOp (opEval tmps) o).run P w=(do let d ← resolve (opEval tmps) { callee:=.value f,args:=c.args,argTypes:=c.argTypes } o.type;invoke d.target d.args:Sem Next).run P w:=fun w=>by
    obtain ⟨callee,ar,at2⟩:=c;simp only at hf;subst hf;unfold execOp;rw [hop]
   unfold exSub at h;split at h
   ·rename_i g ax;split at h
    ·rename_i ct hct;rcases za5 (P:=P) hT (opEval tmps) rfl (xs:=c.args) (ats:=c.argTypes) (t:=o.type) rfl hca hcal with ⟨g',ax',us,e1,e2,e3⟩|⟨l',b,m,e1,_⟩
     ·injection e1 with e4 e5;subst e4;subst e5
      obtain ⟨γ',w',x,hle,hH2,hcx,q2,hst⟩:=ct_ok (P:=P) hF hct hH e2 h (fram fn tmps (.inRegion ops (i::rest)::k) ds ro) cs;rw [zba ho] at hst;exact ⟨γ',w',x,hle,hH2,hcx,(Steps.one (zcd (P:=P) (w:=w) (k:=k) (ds:=ds) (ro:=ro) (cs:=cs) (fn:=fn) (rest:=rest) ho hw hd (by rw [hex,e3,q2]))).trans hst⟩
     ·cases e1
    split at h
    case h_2=>cases h
    rename_i e he;split at h
    case h_2=>cases h
    rename_i a2 H2 n2 hrun;simp only [Option.some.injEq,Prod.mk.injEq] at h;obtain ⟨rfl,rfl,rfl⟩:=h;rcases za5 (P:=P) hT (opEval tmps) rfl (xs:=c.args) (ats:=c.argTypes) (t:=o.type) rfl hca hcal with ⟨g',ax',us,e1,e2,e3⟩|⟨l',b,m,e1,_⟩
    ·injection e1 with e4 e5;subst e4;subst e5
     obtain ⟨q1,q2⟩:=zci hF e2 he;have hent:=zcd (P:=P) (w:=w) (k:=k) (ds:=ds) (ro:=ro) (cs:=cs) (fn:=fn) (rest:=rest) ho hw hd (by rw [hex,e3,q2]);have hM:MR γ w0 (fram fn tmps (.inRegion ops (i::rest)::k) ds ro::cs) ⟨e,[],H,n⟩ (lone (Frame.enter P g us .normal) (fram fn tmps (.inRegion ops (i::rest)::k) ds ro::cs) w):=⟨_,[],w,rfl,q1,.nil,hH⟩;have hr:=zfd (fid:=g) (fun γ s m hm=>hst g _ w0 γ s m hm) K _ _ _ hM;rw [hrun] at hr;obtain ⟨γ',fr',w',v,h1,h2,h3,h4,h5,h6⟩:=hr
     refine ⟨γ',w',v,h1,h6,h5,(Steps.one hent).trans (h2.trans (.one ?_))⟩;rw [← zba ho];exact step_leave_returned h4
    ·cases e1
   ·rename_i l ax;split at h
    case h_2=>cases h
    rename_i e he;split at h
    case h_2=>cases h
    rename_i b2 H2 n2 hrun;simp only [Option.some.injEq,Prod.mk.injEq] at h;obtain ⟨rfl,rfl,rfl⟩:=h;rcases za5 (P:=P) hT (opEval tmps) rfl (xs:=c.args) (ats:=c.argTypes) (t:=o.type) rfl hca hcal with ⟨g',ax',us,e1,_⟩|⟨l',b,m,e1,hγ,e3⟩
    ·cases e1
    ·injection e1 with e4 e5;subst e4;subst e5
     obtain ⟨f2,ts,as2,bd2,q1,q2⟩:=zgq (P:=P) hH hγ hca he;have hent:=zgd (P:=P) (w:=w) (k:=k) (ds:=ds) (ro:=ro) (cs:=cs) (fn:=fn) (rest:=rest) ho hw hd (by rw [hex,e3,q1]);have hM:MR γ w0 (fram fn tmps (.inRegion ops (i::rest)::k) ds ro::cs) ⟨e,[],H,n⟩ (lone (Frame.round b.k f2 ts as2 bd2 .normal) (fram fn tmps (.inRegion ops (i::rest)::k) ds ro::cs) w):=⟨_,[],w,rfl,q2,.nil,hH⟩;have hr:=zfd (fid:=e.fn) (fun γ s m hm=>hst e.fn _ w0 γ s m hm) K _ _ _ hM;rw [hrun] at hr
     obtain ⟨γ',w',h1,h2,h3⟩:=hr _ _ rfl;refine ⟨γ',w',_,h1,h3,.v _,(Steps.one hent).trans ?_⟩;rw [← zba ho];exact h2
  ·exact zpa hT hH ho hw hd h
 ·cases h
 ·rename_i hnc hnd;have hd:notDefer o.op=true:=by
   cases hop:o.op <;> first|rfl|exact absurd hop (hnd _)
  exact zpa hT hH ho hw hd h
end
section
open Go.RowKit
variable {P:Program} {γ γ':G} {w0:Bs} {w:World} {H H':Tr EK} {n n':Nat} {T:Tr EV} {cs:List Frame} {fid:FuncId} {FT:Tr FI} {o:Oper}
def tb (m i:Nat):Bool:=Nat.beq (Nat.land 1 (Nat.shiftRight m i)) 1
theorem tb_eq (m i:Nat):tb m i=m.testBit i:=by
 show Nat.beq (1 &&& (m >>> i)) 1=_;unfold Nat.testBit;have h:1 &&& (m >>> i)=0∨1 &&& (m >>> i)=1:=by
  rw [Nat.and_comm,Nat.and_one_is_mod];omega
 rcases h with h|h <;> rw [h] <;> rfl
def allI (m:Nat) (f:Nat→Bool):Bool:=Nat.rec true (fun k ih=>bc (f k) ih false) m
theorem zig {f:Nat→Bool}:∀ {m:Nat},allI m f=true→∀ i,i<m→f i=true
 | 0,_,i,hi=>by omega
 | m+1,h,i,hi=>by
  have h':bc (f m) (allI m f) false=true:=h;rw [bc_eq] at h';split at h'
  ·rename_i hf;rcases Nat.lt_or_ge i m with h1|h1
   ·exact zig h' i h1
   ·have:i=m:=by omega
    subst this;exact hf
  ·cases h'
def allL {α:Type} (f:α→Bool) (l:List α):Bool:=List.rec true (fun a _ ih=>bc (f a) ih false) l
theorem zak {α:Type} {f:α→Bool}:∀ {l:List α},allL f l=true→∀ a∈l,f a=true
 | [],_,a,ha=>by simp at ha
 | b::l,h,a,ha=>by
  have h':bc (f b) (allL f l) false=true:=h;rw [bc_eq] at h';split at h'
  ·rename_i hf;rcases List.mem_cons.1 ha with rfl|ha
   ·exact hf
   ·exact zak h' a ha
  ·cases h'
def deps (o:Oper):List Nat:=(o.after.toList.filter (Region.binds .any)).map (·.on)
def atA (A:List Nat) (i:Nat):Nat:=(lget A i).getD 0
def ancOf (A:List Nat) (l:List Nat):Nat:=List.rec 0 (fun d _ ih=>Nat.lor (Nat.lor (Nat.pow 2 d) (atA A d)) ih) l
theorem zec {A:List Nat}:∀ {l:List Nat} {j:Nat},tb (ancOf A l) j=true→j∈l∨∃ d∈l,tb (atA A d) j=true
 | [],j,h=>by rw [tb_eq] at h;simp [ancOf] at h
 | d::l,j,h=>by
  have e:ancOf A (d::l)=(2 ^ d ||| atA A d) ||| ancOf A l:=rfl
  rw [tb_eq,e,Nat.testBit_or,Nat.testBit_or] at h;simp only [Bool.or_eq_true] at h;rcases h with (h|h)|h
  ·rw [Nat.testBit_two_pow] at h;simp at h;exact .inl (by simp [h])
  ·exact .inr ⟨d,by simp,by rw [tb_eq];exact h⟩
  ·rcases zec (l:=l) (j:=j) (by rw [tb_eq];exact h) with h|⟨e,he,h⟩
   ·exact .inl (by simp [h])
   ·exact .inr ⟨e,by simp [he],h⟩
def ancs (l:List Oper):List Nat→List Nat:=List.rec (fun A=>A) (fun o _ ih A=>ih (A++[ancOf A (deps o)])) l
def eqS (a:Option Nat) (s:Nat):Bool:=match a with
 | some t=>Nat.beq t s
 | none=>false
theorem zh5 {a:Option Nat} {s:Nat}:eqS a s=true↔a=some s:=by
 unfold eqS
 cases a with
 | none=>simp
 | some t=>exact ⟨fun h=>by rw [Nat.eq_of_beq_eq_true h],fun h=>by injection h with h;subst h;exact Nat.beq_refl _⟩
def bor (a b:Bool):Bool:=bc a true b
theorem zbp {a b:Bool}:bor a b=true↔a=true∨b=true:=by unfold bor;rw [bc_eq];cases a <;> simp
def slotOk (A:List Nat) (i s:Nat) (l:List Oper):Nat→Bool:=List.rec (fun _=>true) (fun o _ ih j=>bc (eqS o.dst s) (bc (bor (tb (atA A i) j) (bor (tb (atA A j) i) (Nat.beq j i))) (ih (Nat.succ j)) false) (ih (Nat.succ j))) l
theorem ziu {A:List Nat} {i s:Nat}:∀ {l:List Oper} {k:Nat},slotOk A i s l k=true→∀ j o,l[j]? = some o→o.dst=some s→tb (atA A i) (k+j)=true∨tb (atA A (k+j)) i=true∨k+j=i
 | [],k,_,j,o,h,_=>by simp at h
 | b::l,k,h,j,o,hj,hd=>by
  have h':bc (eqS b.dst s) (bc (bor (tb (atA A i) k) (bor (tb (atA A k) i) (Nat.beq k i))) (slotOk A i s l (k+1)) false) (slotOk A i s l (k+1))=true:=h;rw [bc_eq,bc_eq] at h';have hrec:slotOk A i s l (k+1)=true:=by
   split at h'
   ·split at h'
    ·exact h'
    ·cases h'
   ·exact h'
  cases j with
  | zero=>
   simp at hj;subst hj;rw [if_pos (zh5.2 hd)] at h';split at h'
   ·rename_i h1;rcases zbp.1 h1 with h1|h1
    ·exact .inl h1
    ·rcases zbp.1 h1 with h1|h1
     ·exact .inr (.inl h1)
     ·exact .inr (.inr (Nat.eq_of_beq_eq_true h1))
   ·cases h'
  | succ j=>
   have:=ziu hrec j o (by simpa using hj) hd
   rwa [show k+1+j=k+(j+1) by omega] at this
def wrOk (A:List Nat) (i s:Nat) (l:List Oper):Nat→Bool:=List.rec (fun _=>true) (fun o _ ih j=>bc (Nat.blt j i) (bc (eqS o.dst s) (bc (tb (atA A i) j) (ih (Nat.succ j)) false) (ih (Nat.succ j))) true) l
theorem znz {A:List Nat} {i s:Nat}:∀ {l:List Oper} {k:Nat},wrOk A i s l k=true→∀ j o,l[j]? = some o→k+j<i→o.dst=some s→tb (atA A i) (k+j)=true
 | [],k,_,j,o,h,_,_=>by simp at h
 | b::l,k,h,j,o,hj,hlt,hd=>by
  have h':bc (Nat.blt k i) (bc (eqS b.dst s) (bc (tb (atA A i) k) (wrOk A i s l (k+1)) false) (wrOk A i s l (k+1))) true=true:=h;rw [bc_eq,if_pos (show Nat.blt k i=true from Nat.ble_eq_true_of_le (by omega)),bc_eq,bc_eq] at h'
  cases j with
  | zero=>
   simp at hj;subst hj;rw [if_pos (zh5.2 hd)] at h';split at h'
   ·rename_i h1;exact h1
   ·cases h'
  | succ j=>
   have hrec:wrOk A i s l (k+1)=true:=by
    split at h'
    ·split at h'
     ·exact h'
     ·cases h'
    ·exact h'
   have:=znz hrec j o (by simpa using hj) (by omega) hd
   rwa [show k+1+j=k+(j+1) by omega] at this
def looks (ops:Array Oper) (o:Oper):List Nat:=o.looksAt ops
def statB (ops:Array Oper) (A:List Nat):Bool:=allI (llen ops.toList) fun i=>match lget ops.toList i with
 | some o=>bc (allL (fun d=>Nat.blt d i) (deps o)) (bc (Nat.beq (atA A i) (ancOf A (deps o))) (bc (allL (fun s=>slotOk A i s ops.toList 0) (looks ops o)) (match o.dst with
  | some s=>wrOk A i s ops.toList 0
  | none=>true) false) false) false
 | none=>false
structure Stat (ops:Array Oper) (A:List Nat):Prop where
 lt:∀ i o,ops[i]? = some o→∀ d∈deps o,d<i
 anc:∀ i o,ops[i]? = some o→atA A i=ancOf A (deps o)
 slot:∀ i o,ops[i]? = some o→∀ s∈looks ops o,∀ j oj,ops[j]? = some oj→oj.dst=some s→tb (atA A i) j=true∨tb (atA A j) i=true∨j=i
 wr:∀ i j oi oj s,ops[i]? = some oi→ops[j]? = some oj→j<i→oi.dst=some s→oj.dst=some s→tb (atA A i) j=true
theorem zdx {ops:Array Oper} {A:List Nat} (h:statB ops A=true):Stat ops A:=by
 have key:∀ i o,ops[i]? = some o→(∀ d∈deps o,d<i)∧atA A i=ancOf A (deps o)∧(∀ s∈looks ops o,slotOk A i s ops.toList 0=true)∧(∀ s,o.dst=some s→wrOk A i s ops.toList 0=true):=fun i o ho=>by
  have hlt:i<ops.size:=(Array.getElem?_eq_some_iff.1 ho).1;have:=zig h i (by rw [zac];simpa using hlt);rw [zai,show ops.toList[i]? = some o by simpa using ho] at this;simp only [bc_eq] at this;split at this
  case isFalse=>cases this
  rename_i h1;split at this
  case isFalse=>cases this
  rename_i h2;split at this
  case isFalse=>cases this
  rename_i h3;refine ⟨fun d hd=>zad (zak h1 d hd),Nat.eq_of_beq_eq_true h2,zak h3,fun s hs=>?_⟩;rw [hs] at this;exact this
 refine ⟨fun i o ho=>(key i o ho).1,fun i o ho=>(key i o ho).2.1,fun i o ho s hs j oj hj hd=>?_,fun i j oi oj s hi hj hlt hd1 hd2=>?_⟩
 ·have:=ziu ((key i o ho).2.2.1 s hs) j oj (by simpa using hj) hd;simpa using this
 ·have:=znz ((key i oi hi).2.2.2 s hd1) j oj (by simpa using hj) (by omega) hd2;simpa using this
theorem Stat.below {ops:Array Oper} {A:List Nat} (h:Stat ops A):∀ i o,ops[i]? = some o→∀ j,tb (atA A i) j=true→j<i:=by
 intro i
 induction i using Nat.strongRecOn with
 | _ i ih=>
  intro o ho j hj;rw [h.anc i o ho] at hj;rcases zec hj with h1|⟨d,hd,h1⟩
  ·exact h.lt i o ho j h1
  ·have hlt:=h.lt i o ho d hd;have hi:i<ops.size:=(Array.getElem?_eq_some_iff.1 ho).1;have:=ih d hlt ops[d] (by simp [show d<ops.size by omega]) j h1;omega
def Good (A:List Nat) (m:Nat) (D:Nat→Bool):Prop:=∀ i,i<m→D i=true→∀ j,tb (atA A i) j=true→D j=true
theorem Stat.sub {ops:Array Oper} {A:List Nat} (h:Stat ops A) {D:Nat→Bool} (hg:Good A ops.size D) {i:Nat} {o:Oper} (ho:ops[i]? = some o) (hd:∀ d∈deps o,D d=true):∀ j,tb (atA A i) j=true→D j=true:=fun j hj=>by
 rw [h.anc i o ho] at hj;rcases zec hj with h1|⟨d,hdm,h1⟩
 ·exact hd j h1
 ·have hlt:=h.lt i o ho d hdm;have hi:i<ops.size:=(Array.getElem?_eq_some_iff.1 ho).1;exact hg d (by omega) (hd d hdm) j h1
end
section
open Go.RowKit
variable {P:Program} {γ γ':G} {w0:Bs} {w:World} {H H':Tr EK} {n n':Nat} {T:Tr EV} {cs:List Frame} {fid:FuncId} {FT:Tr FI} {tmps:Array Value} {o:Oper}
theorem zas (sh:List Sh):∀ r:List U,(recE sh r).length=sh.length:=by
 induction sh with
 | nil=>intro r;rfl
 | cons s sh ih=>intro r;show (s.ev (r.headD (.i 0))::recE sh r.tail).length=_;simp [ih]
theorem zd2 {sh:List Sh} {s:Sh}:∀ {f:Nat} (r:List U),sh[f]? = some s→(recE sh r)[f]? = some (s.ev (r.getD f (.i 0))):=by
 induction sh with
 | nil=>intro f r h;simp at h
 | cons s' sh ih=>
  intro f r h;have e:recE (s'::sh) r=s'.ev (r.headD (.i 0))::recE sh r.tail:=rfl;rw [e]
  cases f with
  | zero=>simp at h;subst h;cases r <;> rfl
  | succ f=>
   rw [List.getElem?_cons_succ,ih r.tail (by simpa using h)];cases r <;> rfl
theorem zlf (sh:List Sh) (l:List (List U)):(l.flatMap (recE sh)).length=l.length*sh.length:=by
 induction l with
 | nil=>simp
 | cons r l ih=>rw [List.flatMap_cons,List.length_append,zas,ih,List.length_cons,Nat.succ_mul];omega
theorem zlg {sh:List Sh} {s:Sh} {f:Nat} (hf:sh[f]? = some s):∀ {l:List (List U)} {j:Nat},j<l.length→(l.flatMap (recE sh))[j*sh.length+f]? = some (s.ev ((l.getD j []).getD f (.i 0))):=by
 have hlt:f<sh.length:=(List.getElem?_eq_some_iff.1 hf).1;intro l
 induction l with
 | nil=>intro j h;simp at h
 | cons r l ih=>
  intro j h;rw [List.flatMap_cons]
  cases j with
  | zero=>rw [List.getElem?_append_left (by rw [zas];omega),Nat.zero_mul,Nat.zero_add,zd2 r hf];rfl
  | succ j=>
   rw [List.getElem?_append_right (by rw [zas,Nat.succ_mul];omega),zas,Nat.succ_mul,show j*sh.length+sh.length+f-sh.length=j*sh.length+f by omega,ih (by simpa using h)];rfl
def ROk (γ:G) (w0:Bs) (RO:Tr (TypeId×SyC)):Prop:=∀ i ty c,RO.get i=some (ty,c)→c.enc=[]∨∃ (b:Pl) (m:Nat) (ca:Array Value) (fz:Nat×Nat),γ i=some (b,m)∧w0.F b.k∧(∃ ty':TypeId,w0.w.heap[b.k]? = some (.cells ca ty' fz))∧b.s+m≤ca.size∧c.enc.length≤m∧ECL γ c.enc ((ca.toList.drop b.s).take c.enc.length)
theorem ROk.mono {RO:Tr (TypeId×SyC)} (hle:GLe γ γ') (h:ROk γ w0 RO):ROk γ' w0 RO:=fun i ty c hi=>
 (h i ty c hi).imp id fun ⟨b,m,ca,fz,h1,h2,h3,h4,h5,h6⟩=>⟨b,m,ca,fz,hle _ _ h1,h2,h3,h4,h5,h6.mono hle⟩
theorem ROk.none (γ:G) (w0:Bs):ROk γ w0 .nil:=fun i ty c h=>by cases h
abbrev FrF:=Tr EV→Oper→Nat→Option (EV×EK)
def FrSnd (P:Program) (Ti:Tr EV) (o:Oper) (r:Nat) (a:EV) (k:EK):Prop:=notDefer o.op=true∧((∀ es,k = .mp es→es=[])∧k.nestB=false)∧∀ (γ:G) (tmps:Array Value),TOk γ Ti tmps→∀ w:World,
  ∃ (ob:Obj) (m:Nat) (x:Value),(execOp (opEval tmps) o).run P w = .ok (.value x) (w.alloc ob)∧∀ γ',GLe γ γ'→γ' r=some (⟨w.heap.size,0⟩,m)→EC γ' a x∧k.ok γ' ⟨w.heap.size,0⟩ m (w.alloc ob)
theorem zl2 {Ti:Tr EV} {r:Nat} {a:EV} {k:EK} (h:exFr P Ti o r=some (a,k)):FrSnd P Ti o r a k:=by
 refine ⟨?_,⟨fun es e=>zvv (by rw [e] at h;exact h),zvu h⟩,fun γ tmps hT w=>zvt hT h w⟩;unfold exFr at h;split at h
 all_goals first|(rename_i hop;simp [hop,notDefer];done)|cases h
abbrev LF:=Tr EV→Oper→Tr EK→Nat→Option (EV×Tr EK×Nat)
abbrev QF:=Tr EV→Oper→Tr EK→Nat→Option EV
end
section
open Go.RowKit
variable {P:Program} {γ γ':G} {w0:Bs} {w:World} {H H':Tr EK} {n n':Nat} {T T0:Tr EV} {cs:List Frame} {fid:FuncId} {FT:Tr FI} {o:Oper}
structure Mm where
 H:Tr EK
 n:Nat
 a:Nat
structure Rec where
 V:EV
 L:Bool
 M:Mm
 Fr:Option EK
 Mp:Bool     -- it made a map that entries of this region are put into
 In:Option (Nat×TypeDesc×Value×EV)     -- it put an entry into the map of that operation
def lw (D:Nat→Bool) (s:Nat) (l:List (Oper×Rec)):Nat→Option EV→Option EV:=List.rec (fun _ acc=>acc) (fun p _ ih k acc=>ih (Nat.succ k) (bc (D k) (bc (eqS p.1.dst s) (some p.2.V) acc) acc)) l
theorem zdp (D:Nat→Bool) (s:Nat) (p:Oper×Rec) (l:List (Oper×Rec)) (k:Nat) (acc:Option EV):lw D s (p::l) k acc=lw D s l (k+1) (if D k=true∧p.1.dst=some s then some p.2.V else acc):=by
 show lw D s l (k+1) (bc (D k) (bc (eqS p.1.dst s) (some p.2.V) acc) acc)=_;congr 1;rw [bc_eq,bc_eq]
 by_cases h1:D k=true
 ·by_cases h2:p.1.dst=some s
  ·rw [if_pos h1,if_pos (zh5.2 h2),if_pos ⟨h1,h2⟩]
  ·rw [if_pos h1,if_neg (fun e=>h2 (zh5.1 e)),if_neg (fun e=>h2 e.2)]
 ·rw [if_neg h1,if_neg (fun e=>h1 e.1)]
theorem zd6 (D:Nat→Bool) (s:Nat):∀ (a b:List (Oper×Rec)) (k:Nat) (acc:Option EV),lw D s (a++b) k acc=lw D s b (k+a.length) (lw D s a k acc)
 | [],b,k,acc=>rfl
 | p::a,b,k,acc=>by
  rw [List.cons_append,zdp,zdp,zd6 D s a b,List.length_cons];congr 1;omega
theorem zd5 {D D':Nat→Bool} {s:Nat}:∀ {l:List (Oper×Rec)} {k:Nat} {acc:Option EV},(∀ j p,l[j]? = some p→p.1.dst=some s→D (k+j)=D' (k+j))→lw D s l k acc=lw D' s l k acc
 | [],k,acc,_=>rfl
 | p::l,k,acc,h=>by
  rw [zdp,zdp];have e:(if D k=true∧p.1.dst=some s then some p.2.V else acc)=(if D' k=true∧p.1.dst=some s then some p.2.V else acc):=by
   by_cases h2:p.1.dst=some s
   ·have:=h 0 p rfl h2;rw [Nat.add_zero] at this;rw [this]
   ·rw [if_neg (fun e=>h2 e.2),if_neg (fun e=>h2 e.2)]
  rw [e];exact zd5 fun j q hj hd=>by
   have:=h (j+1) q (by simpa using hj) hd
   rwa [show k+(j+1)=k+1+j by omega] at this
theorem zei {D:Nat→Bool} {s:Nat}:∀ {l:List (Oper×Rec)} {k:Nat} {acc:Option EV},(∀ j p,l[j]? = some p→p.1.dst=some s→D (k+j)=false)→lw D s l k acc=acc
 | [],k,acc,_=>rfl
 | p::l,k,acc,h=>by
  rw [zdp,if_neg (fun e=>by
   have:=h 0 p rfl e.2;rw [Nat.add_zero,e.1] at this;cases this)]
  exact zei fun j q hj hd=>by
   have:=h (j+1) q (by simpa using hj) hd
   rwa [show k+(j+1)=k+1+j by omega] at this
def md (D:Nat→Bool) (l:List Rec):Nat→Mm→Mm:=List.rec (fun _ acc=>acc) (fun p _ ih k acc=>ih (Nat.succ k) (bc (D k) (bc p.L p.M acc) acc)) l
theorem zdo (D:Nat→Bool) (p:Rec) (l:List Rec) (k:Nat) (acc:Mm):md D (p::l) k acc=md D l (k+1) (if D k=true∧p.L=true then p.M else acc):=by
 show md D l (k+1) (bc (D k) (bc p.L p.M acc) acc)=_;congr 1;rw [bc_eq,bc_eq]
 by_cases h1:D k=true <;> by_cases h2:p.L=true <;> simp [h1,h2]
theorem zi5 (D:Nat→Bool):∀ (a b:List Rec) (k:Nat) (acc:Mm),md D (a++b) k acc=md D b (k+a.length) (md D a k acc)
 | [],b,k,acc=>rfl
 | p::a,b,k,acc=>by
  rw [List.cons_append,zdo,zdo,zi5 D a b,List.length_cons];congr 1;omega
theorem zde {D D':Nat→Bool}:∀ {l:List Rec} {k:Nat} {acc:Mm},(∀ j p,l[j]? = some p→p.L=true→D (k+j)=D' (k+j))→md D l k acc=md D' l k acc
 | [],k,acc,_=>rfl
 | p::l,k,acc,h=>by
  rw [zdo,zdo];have e:(if D k=true∧p.L=true then p.M else acc)=(if D' k=true∧p.L=true then p.M else acc):=by
   by_cases h2:p.L=true
   ·have:=h 0 p rfl h2;rw [Nat.add_zero] at this;rw [this]
   ·rw [if_neg (fun e=>h2 e.2),if_neg (fun e=>h2 e.2)]
  rw [e];exact zde fun j q hj hd=>by
   have:=h (j+1) q (by simpa using hj) hd
   rwa [show k+(j+1)=k+1+j by omega] at this
theorem zb4 {D:Nat→Bool}:∀ {l:List Rec} {k:Nat} {acc:Mm},(∀ j p,l[j]? = some p→p.L=true→D (k+j)=false)→md D l k acc=acc
 | [],k,acc,_=>rfl
 | p::l,k,acc,h=>by
  rw [zdo,if_neg (fun e=>by
   have:=h 0 p rfl e.2;rw [Nat.add_zero,e.1] at this;cases this)]
  exact zb4 fun j q hj hd=>by
   have:=h (j+1) q (by simpa using hj) hd
   rwa [show k+(j+1)=k+1+j by omega] at this
def restr (f:Nat→Option EV) (l:List Nat):Tr EV:=List.rec .nil (fun s _ ih=>bc (Nat.ble s 65535) (match f s with
 | some a=>ih.put s (some a)
 | none=>ih) ih) l
theorem zdz {f:Nat→Option EV}:∀ {l:List Nat} {s:Nat} {a:EV},(restr f l).get s=some a→s∈l∧f s=some a
 | [],s,a,h=>by cases h
 | t::l,s,a,h=>by
  have h':(bc (Nat.ble t 65535) (match f t with
   | some a=>(restr f l).put t (some a)
   | none=>restr f l) (restr f l)).get s=some a:=h
  rw [bc_eq] at h';split at h'
  ·rename_i ht;split at h'
   ·rename_i b hb;rw [Tr.get_put ht] at h'
    by_cases e:s=t
    ·rw [if_pos e] at h';injection h' with h';subst h';subst e;exact ⟨by simp,hb⟩
    ·rw [if_neg e] at h';obtain ⟨h1,h2⟩:=zdz h';exact ⟨by simp [h1],h2⟩
   ·obtain ⟨h1,h2⟩:=zdz h';exact ⟨by simp [h1],h2⟩
  ·obtain ⟨h1,h2⟩:=zdz h';exact ⟨by simp [h1],h2⟩
def tabAt (ops:Array Oper) (A:List Nat) (T0:Tr EV) (R:List Rec) (i:Nat) (o:Oper):Tr EV:=restr (fun s=>lw (fun j=>tb (atA A i) j) s (ops.toList.zip R) 0 (T0.get s)) (looks ops o)
def frT (D:Nat→Bool) (n0:Nat) (R:List Rec):Nat→Tr EK→Tr EK:=List.rec (fun _ H=>H) (fun p _ ih k H=>ih (Nat.succ k) (match p.Fr with
 | some c=>bc (D k) (H.put (Nat.add n0 k) (some c)) H
 | none=>H)) R
def frV (D:Nat→Bool) (n0 k:Nat) (R:List Rec) (b:Nat):Option EK:=if n0+k≤b then (R[b-(n0+k)]?).bind (fun r=>if D (b-n0)=true then r.Fr else none) else none
theorem zka {D:Nat→Bool} {n0:Nat}:∀ {R:List Rec} {k:Nat} {H:Tr EK} {b:Nat},n0+k+R.length≤65536→(frT D n0 R k H).get b=(frV D n0 k R b).or (H.get b)
 | [],k,H,b,_=>by
  show H.get b=_;unfold frV;split <;> simp
 | p::R,k,H,b,hl=>by
  have hl:n0+k+(R.length+1)≤65536:=hl;have e:frT D n0 (p::R) k H=frT D n0 R (k+1) (match p.Fr with
   | some c=>bc (D k) (H.put (n0+k) (some c)) H
   | none=>H):=rfl
  rw [e,zka (by omega)]
  by_cases h1:b=n0+k
  ·subst h1;have e2:frV D n0 (k+1) R (n0+k)=none:=by unfold frV;rw [if_neg (by omega)]
   have e3:frV D n0 k (p::R) (n0+k)=if D k=true then p.Fr else none:=by unfold frV;simp
   rw [e2,e3,Option.none_or]
   cases hp:p.Fr with
   | none=>simp
   | some c=>
    simp only [bc_eq]
    by_cases hD:D k=true
    ·rw [if_pos hD,if_pos hD,Tr.get_put (Nat.ble_eq_true_of_le (by omega)),if_pos rfl];rfl
    ·rw [if_neg hD,if_neg hD];rfl
  ·have e2:frV D n0 k (p::R) b=frV D n0 (k+1) R b:=by
    unfold frV
    by_cases h2:n0+k≤b
    ·rw [if_pos h2,if_pos (by omega),show b-(n0+k)=(b-(n0+(k+1)))+1 by omega,List.getElem?_cons_succ]
    ·rw [if_neg h2,if_neg (by omega)]
   rw [e2];have e3:(match p.Fr with
    | some c=>bc (D k) (H.put (n0+k) (some c)) H
    | none=>H).get b=H.get b:=by
    split
    ·rw [bc_eq];split
     ·rw [Tr.get_put (Nat.ble_eq_true_of_le (by omega)),if_neg h1]
     ·rfl
    ·rfl
   rw [e3]
theorem zan {D:Nat→Bool} {n0:Nat} {R:List Rec} {b:Nat} {c:EK}:frV D n0 0 R b=some c↔∃ j r,b=n0+j∧R[j]? = some r∧D j=true∧r.Fr=some c:=by
 unfold frV;constructor
 ·intro h;split at h
  ·rename_i h1;obtain ⟨r,hr,h2⟩:=Option.bind_eq_some_iff.1 h;split at h2
   ·rename_i hD;exact ⟨b-n0,r,by omega,by simpa using hr,hD,h2⟩
   ·cases h2
  ·cases h
 ·rintro ⟨j,r,rfl,hr,hD,hc⟩
  rw [if_pos (by omega),Nat.add_zero,Nat.add_sub_cancel_left,hr];simp [hD,hc]
def insL (D:Nat→Bool) (j:Nat) (R:List Rec):Nat→List (Value×EV):=List.rec (fun _=>[]) (fun p _ ih k=>match p.In with
 | some (j',_,kv,a)=>bc (Nat.beq j' j) (bc (D k) ((kv,a)::ih (Nat.succ k)) (ih (Nat.succ k))) (ih (Nat.succ k))
 | none=>ih (Nat.succ k)) R
theorem zb5 {D:Nat→Bool} {j k:Nat} {p:Rec} {R:List Rec}:insL D j (p::R) k=(match p.In with
  | some (j',_,kv,a)=>if j'=j∧D k=true then (kv,a)::insL D j R (k+1) else insL D j R (k+1)
  | none=>insL D j R (k+1)):=by
 show (match p.In with
  | some (j',_,kv,a)=>bc (Nat.beq j' j) (bc (D k) ((kv,a)::insL D j R (k+1)) (insL D j R (k+1))) (insL D j R (k+1))
  | none=>insL D j R (k+1))=_
 cases p.In with
 | none=>rfl
 | some q=>
  obtain ⟨j',d,kv,a⟩:=q;have hb:Nat.beq j' j=decide (j'=j):=by
   by_cases e:j'=j
   ·subst e;simp [Nat.beq_refl]
   ·have:Nat.beq j' j=false:=by
     cases h:Nat.beq j' j with
     | false=>rfl
     | true=>exact absurd (Nat.eq_of_beq_eq_true h) e
    rw [this];simp [e]
  simp only [bc_eq,hb]
  by_cases e:j'=j <;> by_cases hD:D k=true <;> simp [e,hD]
theorem zdq {D:Nat→Bool} {j:Nat}:∀ {a b:List Rec} {k:Nat},insL D j (a++b) k=insL D j a k++insL D j b (k+a.length)
 | [],b,k=>rfl
 | p::a,b,k=>by
  rw [List.cons_append,zb5,zb5,zdq (a:=a),List.length_cons,show k+1+a.length=k+(a.length+1) by omega]
  cases p.In with
  | none=>rfl
  | some q=>
   obtain ⟨j',d,kv,x⟩:=q;simp only;split <;> simp
theorem zbo {D D':Nat→Bool} {j:Nat}:∀ {R:List Rec} {k:Nat},(∀ z p d kv a,R[z]? = some p→p.In=some (j,d,kv,a)→D (k+z)=D' (k+z))→insL D j R k=insL D' j R k
 | [],k,_=>rfl
 | p::R,k,h=>by
  have ih:=zbo (R:=R) (k:=k+1) (j:=j) (D:=D) (D':=D') fun z q d kv a h1 h2=>by
   have:=h (z+1) q d kv a (by simpa using h1) h2
   rwa [show k+(z+1)=k+1+z by omega] at this
  rw [zb5,zb5,ih]
  cases hp:p.In with
  | none=>rfl
  | some q=>
   obtain ⟨j',d,kv,a⟩:=q;simp only
   by_cases e:j'=j
   ·subst e;have:=h 0 p d kv a rfl hp;rw [Nat.add_zero] at this;rw [this]
   ·simp [e]
theorem zhz {D:Nat→Bool} {j:Nat}:∀ {R:List Rec} {k:Nat} {p:Value×EV},p∈insL D j R k→∃ z r d,R[z]? = some r∧r.In=some (j,d,p.1,p.2)∧D (k+z)=true
 | [],k,p,h=>by cases h
 | q::R,k,p,h=>by
  have ih:=fun h=>zhz (R:=R) (k:=k+1) (j:=j) (D:=D) (p:=p) h;have up:(∃ z r d,R[z]? = some r∧r.In=some (j,d,p.1,p.2)∧D (k+1+z)=true)→∃ z r d,(q::R)[z]? = some r∧r.In=some (j,d,p.1,p.2)∧D (k+z)=true:=fun ⟨z,r,d,h1,h2,h3⟩=>
   ⟨z+1,r,d,by simpa using h1,h2,by rw [show k+(z+1)=k+1+z by omega];exact h3⟩
  rw [zb5] at h
  cases hq:q.In with
  | none=>rw [hq] at h;exact up (ih h)
  | some u=>
   obtain ⟨j',d,kv,a⟩:=u;rw [hq] at h;simp only at h;split at h
   ·rename_i hc;rcases List.mem_cons.1 h with rfl|h
    ·exact ⟨0,q,d,rfl,by rw [hq,hc.1],hc.2⟩
    ·exact up (ih h)
   ·exact up (ih h)
def fT (f:Nat→Rec→Option EK) (n0:Nat) (R:List Rec):Nat→Tr EK→Tr EK:=List.rec (fun _ H=>H) (fun p _ ih k H=>ih (Nat.succ k) (match f k p with
 | some c=>H.put (Nat.add n0 k) (some c)
 | none=>H)) R
def fV (f:Nat→Rec→Option EK) (n0 k:Nat) (R:List Rec) (b:Nat):Option EK:=if n0+k≤b then (R[b-(n0+k)]?).bind (fun r=>f (b-n0) r) else none
theorem ztw {f:Nat→Rec→Option EK} {n0:Nat}:∀ {R:List Rec} {k:Nat} {H:Tr EK} {b:Nat},n0+k+R.length≤65536→(fT f n0 R k H).get b=(fV f n0 k R b).or (H.get b)
 | [],k,H,b,_=>by
  show H.get b=_;unfold fV;split <;> simp
 | p::R,k,H,b,hl=>by
  have hl:n0+k+(R.length+1)≤65536:=hl;have e:fT f n0 (p::R) k H=fT f n0 R (k+1) (match f k p with
   | some c=>H.put (n0+k) (some c)
   | none=>H):=rfl
  rw [e,ztw (by omega)]
  by_cases h1:b=n0+k
  ·subst h1;have e2:fV f n0 (k+1) R (n0+k)=none:=by unfold fV;rw [if_neg (by omega)]
   have e3:fV f n0 k (p::R) (n0+k)=f k p:=by unfold fV;simp
   rw [e2,e3,Option.none_or]
   cases hp:f k p with
   | none=>simp
   | some c=>
    simp only;rw [Tr.get_put (Nat.ble_eq_true_of_le (by omega)),if_pos rfl];rfl
  ·have e2:fV f n0 k (p::R) b=fV f n0 (k+1) R b:=by
    unfold fV
    by_cases h2:n0+k≤b
    ·rw [if_pos h2,if_pos (by omega),show b-(n0+k)=(b-(n0+(k+1)))+1 by omega,List.getElem?_cons_succ]
    ·rw [if_neg h2,if_neg (by omega)]
   rw [e2];have e3:(match f k p with
    | some c=>H.put (n0+k) (some c)
    | none=>H).get b=H.get b:=by
    split
    ·rw [Tr.get_put (Nat.ble_eq_true_of_le (by omega)),if_neg h1]
    ·rfl
   rw [e3]
theorem zbz {f:Nat→Rec→Option EK} {n0:Nat} {R:List Rec} {b:Nat} {c:EK}:fV f n0 0 R b=some c↔∃ j r,b=n0+j∧R[j]? = some r∧f j r=some c:=by
 unfold fV;constructor
 ·intro h;split at h
  ·rename_i h1;obtain ⟨r,hr,h2⟩:=Option.bind_eq_some_iff.1 h;exact ⟨b-n0,r,by omega,by simpa using hr,h2⟩
  ·cases h
 ·rintro ⟨j,r,rfl,hr,hc⟩
  rw [if_pos (by omega),Nat.add_zero,Nat.add_sub_cancel_left,hr];simp [hc]
theorem zfc {f g:Nat→Rec→Option EK} {n0:Nat} {R:List Rec} {b:Nat} (h:∀ j r,b=n0+j→R[j]? = some r→f j r=g j r):fV f n0 0 R b=fV g n0 0 R b:=by
 apply Option.ext;intro c;rw [zbz,zbz];constructor
 ·rintro ⟨j,r,e,h1,h2⟩;exact ⟨j,r,e,h1,(h j r e h1).symm.trans h2⟩
 ·rintro ⟨j,r,e,h1,h2⟩;exact ⟨j,r,e,h1,(h j r e h1).trans h2⟩
def mpF (D:Nat→Bool) (R0:List Rec):Nat→Rec→Option EK:=fun k p=>bc p.Mp (bc (D k) (some (.mp (insL D k R0 0))) none) none
theorem zbq {D:Nat→Bool} {R0:List Rec} {k:Nat} {p:Rec} {c:EK}:mpF D R0 k p=some c↔p.Mp=true∧D k=true∧c = .mp (insL D k R0 0):=by
 unfold mpF;rw [bc_eq,bc_eq]
 by_cases h1:p.Mp=true <;> by_cases h2:D k=true <;> simp [h1,h2,eq_comm]
def vis (A:List Nat) (n0:Nat) (R:List Rec) (i:Nat) (M:Mm):Tr EK:=frT (fun j=>bc (tb M.a j) false (tb (atA A i) j)) n0 R 0 M.H
def recFr (M:Mm) (a:EV) (c:EK):Rec:=match c with
 | .mp _=>⟨a,false,M,none,true,none⟩
 | c=>⟨a,false,M,some c,false,none⟩
theorem zdn {M:Mm} {a:EV} {c:EK}:(recFr M a c).L=false∧(recFr M a c).V=a∧(recFr M a c).M=M∧(recFr M a c).In=none:=by
 unfold recFr;split <;> exact ⟨rfl,rfl,rfl,rfl⟩
def exRec (P:Program) (fr:FrF) (lo:LF) (q:QF) (ops:Array Oper) (A:List Nat) (T0:Tr EV) (n0:Nat) (R:List Rec) (i:Nat) (o:Oper) (M:Mm):Option Rec:=match exGuard (tabAt ops A T0 R i o) ops o with
 | some false=>some ⟨.v undef,false,M,none,false,none⟩
 | some true=>match fr (tabAt ops A T0 R i o) o (Nat.add n0 i) with
  | some (a,c)=>some (recFr M a c)
  | none=>match exIns P (tabAt ops A T0 R i o) o n0 with
   | some u=>some ⟨.v undef,false,M,none,false,some u⟩
   | none=>match q (tabAt ops A T0 R i o) o (vis A n0 R i M) M.n with
    | some a=>some ⟨a,false,M,none,false,none⟩
    | none=>match lo (tabAt ops A T0 R i o) o (vis A n0 R i M) M.n with
     | some (a,H,n)=>some ⟨a,true,⟨H,n,atA A i⟩,none,false,none⟩
     | none=>none
 | none=>none
def canon (P:Program) (fr:FrF) (lo:LF) (q:QF) (ops:Array Oper) (A:List Nat) (T0:Tr EV) (n0:Nat) (l:List Oper):Nat→List Rec→Mm→Option (List Rec):=List.rec (fun _ R _=>some R) (fun o _ ih i R M=>match exRec P fr lo q ops A T0 n0 R i o M with
 | some r=>ih (Nat.succ i) (R++[r]) r.M
 | none=>none) l
def memAt (M:Mm) (R:List Rec) (i:Nat):Mm:=match i with
 | 0=>M
 | i+1=>match R[i]? with
  | some r=>r.M
  | none=>M
theorem zme {fr:FrF} {lo:LF} {q:QF} {ops:Array Oper} {A:List Nat} {T0:Tr EV} {n0:Nat} {M0:Mm}:∀ {l:List Oper} {R R':List Rec} {M:Mm},canon P fr lo q ops A T0 n0 l R.length R M=some R'→M=memAt M0 R R.length →
  R'.length=R.length+l.length∧(∀ j,j<R.length→R'[j]? = R[j]?)∧∀ j o,l[j]? = some o→∃ r,R'[R.length+j]? = some r∧exRec P fr lo q ops A T0 n0 (R'.take (R.length+j)) (R.length+j) o (memAt M0 R' (R.length+j))=some r
 | [],R,R',M,h,hM=>by
  have h':some R=some R':=h;injection h' with h';subst h'
  exact ⟨rfl,fun _ _=>rfl,fun j o hj=>by simp at hj⟩
 | o::l,R,R',M,h,hM=>by
  have h':(match exRec P fr lo q ops A T0 n0 R R.length o M with
   | some r=>canon P fr lo q ops A T0 n0 l (R.length+1) (R++[r]) r.M
   | none=>none)=some R':=h
  split at h'
  case h_2=>cases h'
  rename_i r hr;have hlen:(R++[r]).length=R.length+1:=by simp
  rw [← hlen] at h';obtain ⟨h1,h2,h3⟩:=zme (R:=R++[r]) h' (by rw [hlen];simp [memAt]);have hpre:∀ j,j<R.length→R'[j]? = R[j]?:=fun j hj=>by
   rw [h2 j (by omega),List.getElem?_append_left hj]
  have hat:R'[R.length]? = some r:=by rw [h2 _ (by omega)];simp
  have htake:R'.take R.length=R:=by
   apply List.ext_getElem?;intro j;rw [List.getElem?_take]
   by_cases hj:j<R.length
   ·rw [if_pos hj,hpre j hj]
   ·rw [if_neg hj];simp;omega
  have hmem:memAt M0 R' R.length=M:=by
   rw [hM]
   cases hl:R.length with
   | zero=>rfl
   | succ q=>simp only [memAt];rw [hpre q (by omega)]
  refine ⟨by rw [h1,hlen];simp;omega,hpre,fun j o' hj=>?_⟩
  cases j with
  | zero=>
   simp at hj;subst hj;exact ⟨r,by simpa using hat,by simp only [Nat.add_zero];rw [htake,hmem];exact hr⟩
  | succ j=>
   have:=h3 j o' (by simpa using hj);rw [hlen,show R.length+1+j=R.length+(j+1) by omega] at this;exact this
end
section
open Go.RowKit
variable {P:Program} {γ γ':G} {w0:Bs} {w:World} {H H':Tr EK} {n n':Nat} {T T0:Tr EV} {cs:List Frame} {fid:FuncId} {FT:Tr FI} {o:Oper}
def Bs.withRes (B:Bs) (r:Nat→Prop):Bs:=⟨B.w,B.F,B.lt,r,B.fb⟩
theorem NstS.base' {w1:Bs} (h:NstS γ w0 H w) (hF:∀ k,w1.F k→w0.F k):NstS γ w1 H w:=
 ⟨h.rwg,h.me,fun i me ty sh rows v ho nn e j f sh' hj hf hh k m hk=>let ⟨h1,h2⟩:=h.at' i me ty sh rows v ho nn e j f sh' hj hf hh k m hk;⟨fun q=>h1 (hF k q),h2⟩⟩
theorem FZ.withRes {r:Nat→Prop} (h:FZ γ w0 H w):FZ γ (w0.withRes r) H w:=⟨h.at',h.base,h.nst.base' fun _ q=>q⟩
theorem FZ.lessRes {r r':Nat→Prop} (h:FZ γ (w0.withRes r) H w):FZ γ (w0.withRes r') H w:=⟨h.at',h.base,h.nst.base' fun _ q=>q⟩
theorem HR.reserve {r:Nat→Prop} (h:HR γ w0 H n w) (hr:∀ i,r i→γ i=none∧i<n):HR γ (w0.withRes r) H n w:=
 ⟨h.hp0,h.inj0,h.fresh,hr,h.lt,⟨h.stays.os,h.stays.tape,h.stays.output,h.stays.size,h.stays.block⟩,h.fzk.withRes⟩
def HR.part (h:HR γ w0 H n w) (K:Tr EK):Bs:=⟨w,fun c=>w0.F c∨∃ (b:Nat) (k:EK) (m:Nat) (p:Pl),H.get b=some k∧¬ k.Nil∧K.get b=none∧γ b=some (p,m)∧p.k=c,fun c hc=>by
 rcases hc with hc|⟨b,k,m,p,_,_,_,hc,rfl⟩
 ·have h1:=w0.lt c hc
  have h2:=h.stays.size
  omega
 ·exact h.lt b _ hc,w0.res,w0.fb⟩
theorem HR.partOk (h:HR γ w0 H n w) {K:Tr EK} (hK:∀ b k,K.get b=some k→H.get b=some k):HR γ (h.part K) K n w:=by
 refine ⟨fun i k hk=>?_,fun i j ki kj hi hj=>h.inj0 i j ki kj (hK _ _ hi) (hK _ _ hj),h.fresh,h.rsv,h.lt,⟨rfl,rfl,rfl,Nat.le_refl _,fun _ _=>rfl⟩,⟨fun c a hc=>?_,h.fzk.base,h.fzk.nst.rwg,fun i me ty sh rows v ho nn e=>h.fzk.nst.me i me ty sh rows v ho nn (hK _ _ e),fun i me ty sh rows v ho nn e j f sh' hj hf hh k m hk=>?_⟩⟩
 rotate_right
 ·obtain ⟨h1,h2,h3,h4,h5⟩:=h.fzk.nst.at' i me ty sh rows v ho nn (hK _ _ e) j f sh' hj hf hh k m hk;refine ⟨fun q=>?_,h2,fun i' ki b m' hi'=>h3 i' ki b m' (hK _ _ hi'),fun i2 me2 ty2 sh2 rows2 v2 ho2 nn2 e2=>h4 i2 me2 ty2 sh2 rows2 v2 ho2 nn2 (hK _ _ e2),h5⟩;rcases q with q|⟨b2,k2,m2,p2,e1,n2,_,e3,e4⟩
  ·exact h1 q
  ·exact h3 b2 k2 p2 m2 e1 n2 e3 e4
 rotate_right
 ·obtain ⟨h1,h2,h3⟩:=h.fzk.at' c a hc;refine ⟨h1,h2.imp id fun h2 hf=>?_,fun i ki b m hi=>h3 i ki b m (hK _ _ hi)⟩;rcases hf with hf|⟨b2,k2,m2,p2,e1,n2,_,e3,e4⟩
  ·exact h2 hf
  ·exact h3 b2 k2 p2 m2 e1 n2 e3 e4
 refine h.imp0 (hK _ _ hk) fun ni b m h1 h2 h3=>?_;refine ⟨b,m,h1,fun hf=>?_,h3⟩;rcases hf with hf|⟨b2,k2,m2,p2,e1,n2,e2,e3,e4⟩
 ·exact h2 hf
 ·have hne:i≠b2:=fun e=>by subst e;rw [hk] at e2;cases e2
  exact h.inj0 i b2 k k2 (hK _ _ hk) e1 ni n2 hne _ _ h1 e3 e4.symm
theorem HR.whole (h:HR γ w0 H n w) {K K' H':Tr EK} {w':World} (hle:GLe γ γ') (h':HR γ' (h.part K) K' n' w') (e:∀ b k,H'.get b=some k→K'.get b=some k∨(K.get b=none∧H.get b=some k∧k.nestB=false)):HR γ' w0 H' n' w':=by
 have old:∀ b k,K.get b=none→(H.get b=some k∧k.nestB=false)→k.Nil∨∃ (c:Pl) (m:Nat),γ b=some (c,m)∧γ' b=some (c,m)∧¬ w0.F c.k∧(h.part K).F c.k∧k.ok γ' c m w':=fun b k hb ⟨hk,hnb⟩=>by
  refine h.imp0 hk fun nk c m h1 h2 h3=>?_;have hf:(h.part K).F c.k:=.inr ⟨b,k,m,c,hk,nk,hb,h1,rfl⟩;exact ⟨c,m,h1,hle _ _ h1,h2,hf,EK.ok_monoB hnb hle (h'.stays.block c.k hf) h3⟩
 refine ⟨fun i k hk=>?_,fun i j ki kj hi hj ni nj hne bi bj ei ej=>?_,h'.fresh,h'.rsv,h'.lt,?_,⟨fun c a hc=>?_,h'.fzk.base,h'.fzk.nst.rwg,fun i me ty sh rows v ho nn ei=>?_,fun i me ty sh rows v ho nn ei j f sh' hj hf hh k m hk=>?_⟩⟩
 rotate_right
 rotate_right
 ·rcases e i _ ei with g1|⟨_,_,g3⟩
  ·exact h'.fzk.nst.me i me ty sh rows v ho nn g1
  ·cases g3
 ·have key:∀ i k,H'.get i=some k→k.nestB=true→K'.get i=some k:=fun i k hi hb=>by
   rcases e i k hi with g1|⟨_,_,g3⟩
   ·exact g1
   ·rw [hb] at g3;cases g3
  obtain ⟨h1,h2,h3,h4,h5⟩:=h'.fzk.nst.at' i me ty sh rows v ho nn (key i _ ei rfl) j f sh' hj hf hh k m hk;refine ⟨fun q=>h1 (.inl q),h2,fun i' ki b m' hi' ni ei'=>?_,fun i2 me2 ty2 sh2 rows2 v2 ho2 nn2 e2=>h4 i2 me2 ty2 sh2 rows2 v2 ho2 nn2 (key i2 _ e2 rfl),h5⟩;rcases e i' ki hi' with g1|⟨g1,g2⟩
  ·exact h3 i' ki b m' g1 ni ei'
  ·obtain ⟨c',m2,q0,q1,_,q3,_⟩:=(old i' ki g1 g2).resolve_left ni;rw [q1] at ei';injection ei' with ei';injection ei' with e1 e2;subst e1
   rintro rfl
   exact h1 q3
 rotate_right
 ·obtain ⟨h1,h2,h3⟩:=h'.fzk.at' c a hc;refine ⟨h1,h2.imp id fun h2 hf=>h2 (.inl hf),fun i ki b m hi ni ei=>?_⟩;rcases e i ki hi with g1|⟨g1,g2⟩
  ·exact h3 i ki b m g1 ni ei
  ·obtain ⟨c',m',q0,q1,_,q3,_⟩:=(old i ki g1 g2).resolve_left ni;rw [q1] at ei;injection ei with ei;injection ei with e1 e2;subst e1
   rintro rfl
   rcases h2 with h2|h2
   ·obtain ⟨a',h5⟩:=h.fzk.base _ h2;exact (h.fzk.at' _ _ h5).2.2 i ki c' m' g2.1 ni q0 rfl
   ·exact h2 q3
 ·rcases e i k hk with h1|⟨h1,h2⟩
  ·exact (h'.hp0 i k h1).imp id fun ⟨b,m,g1,g2,g3⟩=>⟨b,m,g1,fun hf=>g2 (.inl hf),g3⟩
  ·exact (old i k h1 h2).imp id fun ⟨c,m,_,g1,g2,_,g3⟩=>⟨c,m,g1,g2,g3⟩
 ·rcases e i ki hi with h1|⟨h1,h2⟩
  ·rcases e j kj hj with h3|⟨h3,h4⟩
   ·exact h'.inj0 i j ki kj h1 h3 ni nj hne bi bj ei ej
   ·obtain ⟨c,m,_,g1,_,g3,_⟩:=(old j kj h3 h4).resolve_left nj;obtain ⟨b,m2,q1,q2,_⟩:=h'.hp i ki h1 ni;rw [q1] at ei;injection ei with ei;subst ei;rw [g1] at ej;injection ej with ej;subst ej;exact fun e=>q2 (by rw [show b.k=c.k from e];exact g3)
  ·rcases e j kj hj with h3|⟨h3,h4⟩
   ·obtain ⟨c,m,_,g1,_,g3,_⟩:=(old i ki h1 h2).resolve_left ni;obtain ⟨b,m2,q1,q2,_⟩:=h'.hp j kj h3 nj;rw [q1] at ej;injection ej with ej;subst ej;rw [g1] at ei;injection ei with ei;subst ei;exact fun e=>q2 (by rw [show b.k=c.k from e.symm];exact g3)
   ·obtain ⟨c,m,g0,g1,_,_,_⟩:=(old i ki h1 h2).resolve_left ni;obtain ⟨c2,m2,q0,q1,_,_,_⟩:=(old j kj h3 h4).resolve_left nj;rw [g1] at ei;injection ei with ei;subst ei;rw [q1] at ej;injection ej with ej;subst ej;exact h.inj0 i j ki kj h2.1 h4.1 ni nj hne _ _ g0 q0
 ·exact ⟨h'.stays.os.trans h.stays.os,h'.stays.tape.trans h.stays.tape,h'.stays.output.trans h.stays.output,Nat.le_trans h.stays.size h'.stays.size,fun k hk=>(h'.stays.block k (.inl hk)).trans (h.stays.block k hk)⟩
theorem HR.newAt (h:HR γ w0 H n w) {r:Nat} (hr:γ r=none) (hrn:r<n) (hr2:Nat.ble r 65535=true) {res:Nat→Prop} (hres:∀ i,res i→w0.res i∧i≠r) {o:Obj} {m:Nat} {k:EK} (hk:k.ok (γ.upd r (⟨w.heap.size,0⟩,m)) ⟨w.heap.size,0⟩ m (w.alloc o)) (hnn:k.nestB=false:=by rfl) :
  HR (γ.upd r (⟨w.heap.size,0⟩,m)) (w0.withRes res) (H.put r (some k)) n (w.alloc o):=by
 have hle:GLe γ (γ.upd r (⟨w.heap.size,0⟩,m)):=G.upd_le hr;have hh:(w.alloc o).heap=w.heap.push o:=rfl;have hold:∀ b,b<w.heap.size→(w.alloc o).heap[b]? = w.heap[b]?:=fun b hb=>by rw [hh,Array.getElem?_push_lt hb];simp [hb]
 refine ⟨fun i ki hi=>?_,fun i j ki kj hi hj ni nj hne bi bj ei ej=>?_,fun i hi=>?_,fun i hi=>?_,fun i p e=>?_,?_,(h.fzq (γ':=γ.upd r (⟨w.heap.size,0⟩,m)) (H':=H.put r (some k)) (w':=w.alloc o) rfl (fun c hc _=>hold c hc) (fun i ki b2 m2 hi ni ei=>?_) (fun i ki hi hb=>?_)).withRes⟩
 rotate_right
 ·rw [Tr.get_put hr2] at hi
  by_cases e:i=r
  ·rw [if_pos e] at hi;injection hi with hi;subst hi;rw [hnn] at hb;cases hb
  ·rw [if_neg e] at hi;exact hi
 rotate_right
 ·rw [Tr.get_put hr2] at hi
  by_cases e:i=r
  ·subst e;rw [G.upd_same] at ei;injection ei with ei;injection ei with e1 e2;subst e1;exact .inl (Nat.le_refl _)
  ·rw [if_neg e] at hi;rw [G.upd_ne e] at ei;exact .inr ⟨i,ki,b2,m2,hi,ni,ei,rfl⟩
 ·rw [Tr.get_put hr2] at hi
  by_cases e:i=r
  ·rw [if_pos e] at hi;injection hi with hi;subst hi;subst e
   exact .inr ⟨_,_,G.upd_same,h.notF (Nat.le_refl _),hk⟩
  ·rw [if_neg e] at hi;refine (h.hp0 i ki hi).imp id fun ⟨b,m',h1,h2,h3⟩=>?_;exact ⟨b,m',hle _ _ h1,h2,EK.ok_mono hle (hold b.k (h.lt i _ h1)) h3⟩
 ·rw [Tr.get_put hr2] at hi hj
  by_cases e:i=r
  ·rw [e,G.upd_same] at ei;injection ei with ei;subst ei
   rw [if_neg (fun e2=>hne (e.trans e2.symm))] at hj;rw [G.upd_ne (fun e2=>hne (e.trans e2.symm))] at ej;have:=h.lt j _ ej;show w.heap.size≠bj.1.k;omega
  ·rw [if_neg e] at hi;rw [G.upd_ne e] at ei
   by_cases e2:j=r
   ·rw [e2,G.upd_same] at ej;injection ej with ej;subst ej
    have:=h.lt i _ ei;show bi.1.k≠w.heap.size;omega
   ·rw [if_neg e2] at hj;rw [G.upd_ne e2] at ej;exact h.inj0 i j ki kj hi hj ni nj hne bi bj ei ej
 ·rw [G.upd_ne (by omega)];exact h.fresh i hi
 ·obtain ⟨r1,r2⟩:=hres i hi;obtain ⟨r3,r4⟩:=h.rsv i r1;exact ⟨by rw [G.upd_ne r2];exact r3,r4⟩
 ·rw [hh,Array.size_push]
  by_cases e2:i=r
  ·rw [e2,G.upd_same] at e;injection e with e;subst e;show w.heap.size<_;omega
  ·rw [G.upd_ne e2] at e;have:=h.lt i p e;omega
 ·refine ⟨h.stays.os,h.stays.tape,h.stays.output,by have:=h.stays.size;rw [hh,Array.size_push];exact Nat.le_succ_of_le this,fun k hk=>?_⟩;have h1:=w0.lt k hk;have h2:=h.stays.size;rw [hold k (by omega)];exact h.stays.block k hk
theorem zdf (D:Nat→Bool):∀ (l:List Rec) (k:Nat) (acc:Mm),(md D l k acc=acc∧∀ j r,l[j]? = some r→r.L=true→D (k+j)=false) ∨
  ∃ q r,l[q]? = some r∧r.L=true∧D (k+q)=true∧(∀ j r',q<j→l[j]? = some r'→r'.L=true→D (k+j)=false)∧md D l k acc=r.M
 | [],k,acc=>.inl ⟨rfl,fun j r h=>by simp at h⟩
 | p::l,k,acc=>by
  rw [zdo];rcases zdf D l (k+1) (if D k=true∧p.L=true then p.M else acc) with ⟨h1,h2⟩|⟨q,r,h1,h2,h3,h4,h5⟩
  ·by_cases hp:D k=true∧p.L=true
   ·refine .inr ⟨0,p,rfl,hp.2,hp.1,fun j r' hj hr hl=>?_,by rw [h1,if_pos hp]⟩;obtain ⟨j',rfl⟩:∃ j',j=j'+1:=⟨j-1,by omega⟩;have:=h2 j' r' (by simpa using hr) hl
    rwa [show k+(j'+1)=k+1+j' by omega]
   ·refine .inl ⟨by rw [h1,if_neg hp],fun j r hj hl=>?_⟩
    cases j with
    | zero=>
     simp at hj;subst hj
     cases hD:D k with
     | true=>exact absurd ⟨hD,hl⟩ hp
     | false=>simp
    | succ j'=>
     have:=h2 j' r (by simpa using hj) hl
     rwa [show k+(j'+1)=k+1+j' by omega]
  ·refine .inr ⟨q+1,r,by simpa using h1,h2,by rwa [show k+(q+1)=k+1+q by omega],fun j r' hj hr hl=>?_,h5⟩;obtain ⟨j',rfl⟩:∃ j',j=j'+1:=⟨j-1,by omega⟩;have:=h4 j' r' (by omega) (by simpa using hr) hl
   rwa [show k+(j'+1)=k+1+j' by omega]
def SndL (P:Program) (RO:Tr (TypeId×SyC)) (Ti:Tr EV) (o:Oper) (H:Tr EK) (n:Nat) (a:EV) (H':Tr EK) (n':Nat):Prop:=∀ (γ:G) (w0:Bs) (w:World) (fn:FuncId) (tmps:Array Value) (ops:Array Oper) (i:Nat) (rest:List Nat) (k:List Item) (ds:List Deferred) (ro:Option Nat) (cs:List Frame),
 ROk γ w0 RO→TOk γ Ti tmps→HR γ w0 H n w→ops[i]? = some o→Region.wanted o (yielded ops tmps)=true →
 ∃ γ' w' x,GLe γ γ'∧HR γ' w0 H' n' w'∧EC γ' a x∧Steps P (lone (fram fn tmps (.inRegion ops (i::rest)::k) ds ro) cs w) (lone (fram fn (putD tmps o.dst x) (.inRegion ops rest::k) ds ro) cs w')
theorem SndL.quiet {RO:Tr (TypeId×SyC)} {Ti:Tr EV} {v:EV} (hd:notDefer o.op=true) (h:∀ (γ:G) (w0:Bs) (w:World) (tmps:Array Value),ROk γ w0 RO→TOk γ Ti tmps→HR γ w0 H n w→∃ γ' w' x,GLe γ γ'∧HR γ' w0 H n w'∧(execOp (opEval tmps) o).run P w = .ok (.value x) w'∧EC γ' v x):SndL P RO Ti o H n v H n:=
 fun γ w0 w fn tmps ops i rest k ds ro cs hR hT hH ho hw=>let ⟨γ',w',x,h1,h2,h3,h4⟩:=h γ w0 w tmps hR hT hH;⟨γ',w',x,h1,h2,h4,.one (zbj ho hw hd h3)⟩
theorem LoudOk.snd {sub:Sub} (h:LoudOk P sub) {RO:Tr (TypeId×SyC)} {Ti:Tr EV} {a:EV} (hx:exLoud P sub Ti o H n=some (a,H',n')):SndL P RO Ti o H n a H' n':=fun γ w0 w fn tmps ops i rest k ds ro cs _ hT hH ho hw=>h γ w0 w Ti o H n a H' n' fn tmps ops i rest k ds ro cs hT hH ho hw hx
structure Run (P:Program) (fr:FrF) (lo:LF) (q:QF) (RO:Tr (TypeId×SyC)) (ops:Array Oper) (A:List Nat) (T0:Tr EV) (n0:Nat) (M0:Mm) (R:List Rec):Prop where
 st:Stat ops A
 len:R.length=ops.size
 room:n0+ops.size≤65536
 a0:M0.a=0
 free:∀ (j:Nat) (r:Rec) (c:EK),R[j]? = some r→r.Fr=some c→M0.H.get (n0+j)=none∧∀ (q:Nat) (rq:Rec),R[q]? = some rq→rq.L=true→tb rq.M.a j=false→rq.M.H.get (n0+j)=none
 freeM:∀ (j:Nat) (r:Rec),R[j]? = some r→r.Mp=true→M0.H.get (n0+j)=none∧∀ (q:Nat) (rq:Rec),R[q]? = some rq→rq.L=true→rq.M.H.get (n0+j)=none
 insok:∀ (i:Nat) (r:Rec) (j:Nat) (d:TypeDesc) (k:Value) (a:EV),R[i]? = some r→r.In=some (j,d,k,a)→(∃ rj,R[j]? = some rj∧rj.Mp=true)∧tb (atA A i) j=true ∧
  ∀ (z:Nat) (rz:Rec) (d':TypeDesc) (k':Value) (a':EV),R[z]? = some rz→rz.In=some (j,d',k',a')→isKeyB d k'=true∧(z≠i→kEq d k k'=false)
 step:∀ i o,ops[i]? = some o→∃ r,R[i]? = some r∧exRec P fr lo q ops A T0 n0 (R.take i) i o (memAt M0 R i)=some r
 loud:∀ i j ri rj,j<i→R[i]? = some ri→R[j]? = some rj→ri.L=true→rj.L=true→tb (atA A i) j=true
 snd:∀ i o r,ops[i]? = some o→R[i]? = some r→r.L=false→exGuard (tabAt ops A T0 (R.take i) i o) ops o=some true→fr (tabAt ops A T0 (R.take i) i o) o (n0+i)=none →
  exIns P (tabAt ops A T0 (R.take i) i o) o n0=none→∀ D:Nat→Bool,Good A ops.size D→(∀ j,tb (atA A i) j=true→D j=true)→D i=false→SndL P RO (tabAt ops A T0 (R.take i) i o) o (vis A n0 (R.take i) i (md D R 0 M0)) (md D R 0 M0).n r.V (vis A n0 (R.take i) i (md D R 0 M0)) (md D R 0 M0).n
 fsnd:∀ i o,ops[i]? = some o→exGuard (tabAt ops A T0 (R.take i) i o) ops o=some true→∀ a k,fr (tabAt ops A T0 (R.take i) i o) o (n0+i)=some (a,k)→FrSnd P (tabAt ops A T0 (R.take i) i o) o (n0+i) a k
 lsnd:∀ i o r,ops[i]? = some o→R[i]? = some r→r.L=true→SndL P RO (tabAt ops A T0 (R.take i) i o) o (vis A n0 (R.take i) i (memAt M0 R i)) (memAt M0 R i).n r.V r.M.H r.M.n
theorem ROk.part {RO:Tr (TypeId×SyC)} (h:HR γ w0 H n w) (hR:ROk γ w0 RO) (K:Tr EK):ROk γ (h.part K) RO:=fun i ty c hi=>by
 refine (hR i ty c hi).imp id fun ⟨b,m,ca,fz,h1,h2,⟨ty',h3⟩,h4,h5,h6⟩=>?_;exact ⟨b,m,ca,fz,h1,.inl h2,⟨ty',(h.stays.block _ h2).trans h3⟩,h4,h5,h6⟩
theorem ROk.res {RO:Tr (TypeId×SyC)} (hR:ROk γ w0 RO) (r:Nat→Prop):ROk γ (w0.withRes r) RO:=hR
def KD (D:Nat→Bool) (n0:Nat) (R:List Rec) (M0:Mm):Tr EK:=fT (mpF D R) n0 R 0 <| frT (fun j=>bc (tb (md D R 0 M0).a j) false (D j)) n0 R 0 (md D R 0 M0).H
def HD (γ:G) (w0:Bs) (m:Nat) (D:Nat→Bool) (n0:Nat) (R:List Rec) (M0:Mm) (w:World):Prop:=HR γ (w0.withRes fun i=>w0.res i∨∃ j,j<m∧D j=false∧i=n0+j) (KD D n0 R M0) (md D R 0 M0).n w
def TD (γ:G) (ops:Array Oper) (T0:Tr EV) (R:List Rec) (D:Nat→Bool) (tmps:Array Value):Prop:=∀ s a,lw D s (ops.toList.zip R) 0 (T0.get s)=some a→∃ x,tmps[s]? = some x∧EC γ a x
def ins (D:Nat→Bool) (i:Nat):Nat→Bool:=fun j=>if j=i then true else D j
theorem zdl {ops:Array Oper} {R:List Rec} {j:Nat} {p:Oper×Rec}:(ops.toList.zip R)[j]? = some p↔ops[j]? = some p.1∧R[j]? = some p.2:=by
 rw [List.getElem?_zip_eq_some];simp
theorem zfy {fr:FrF} {lo:LF} {q:QF} {ops:Array Oper} {A:List Nat} {T0:Tr EV} {n0:Nat} {R:List Rec} {i:Nat} {M:Mm} {r:Rec} (h:exRec P fr lo q ops A T0 n0 R i o M=some r) (hl:r.L=false):r.M=M:=by
 unfold exRec at h;split at h
 ·injection h with h;subst h;rfl
 ·split at h
  ·injection h with h;subst h;exact zdn.2.2.1
  ·split at h
   ·injection h with h;subst h;rfl
   ·split at h
    ·injection h with h;subst h;rfl
    ·split at h
     ·injection h with h;subst h;cases hl
     ·cases h
 ·cases h
theorem zes {fr:FrF} {lo:LF} {q:QF} {ops:Array Oper} {A:List Nat} {T0:Tr EV} {n0:Nat} {R:List Rec} {i:Nat} {M:Mm} {r:Rec} (h:exRec P fr lo q ops A T0 n0 R i o M=some r) (hl:r.L=true):r.M.a=atA A i∧r.Fr=none:=by
 unfold exRec at h;split at h
 ·injection h with h;subst h;cases hl
 ·split at h
  ·injection h with h;subst h;rw [zdn.1] at hl;cases hl
  ·split at h
   ·injection h with h;subst h;cases hl
   ·split at h
    ·injection h with h;subst h;cases hl
    ·split at h
     ·injection h with h;subst h;exact ⟨rfl,rfl⟩
     ·cases h
 ·cases h
theorem zsp {fr:FrF} {lo:LF} {q:QF} {ops:Array Oper} {A:List Nat} {T0:Tr EV} {n0:Nat} {R:List Rec} {i:Nat} {M:Mm} {r:Rec} (h:exRec P fr lo q ops A T0 n0 R i o M=some r) (hm:r.Mp=true):r.Fr=none∧r.In=none:=by
 unfold exRec at h;split at h
 ·injection h with h;subst h;cases hm
 ·split at h
  ·rename_i a c _;injection h with h;subst h
   refine ⟨?_,zdn.2.2.2⟩;unfold recFr at hm ⊢;split
   ·rfl
   ·rename_i hne;cases c <;> first|exact absurd rfl (hne _)|(simp only at hm;cases hm)
  ·split at h
   ·injection h with h;subst h;cases hm
   ·split at h
    ·injection h with h;subst h;cases hm
    ·split at h
     ·injection h with h;subst h;cases hm
     ·cases h
 ·cases h
theorem zkx {α β:Type}:∀ (l:List α) (R:List β) (i:Nat),l.zip (R.take i)=(l.zip R).take i
 | [],_,_=>by simp
 | _::_,[],_=>by simp
 | _::_,_::_,0=>by simp
 | a::l,b::R,i+1=>by simp [zkx l R i]
theorem zg5 {α:Type} {l:List α} {i:Nat} {r:α} (h:l[i]? = some r):l=l.take i++r::l.drop (i+1)∧(l.take i).length=i:=by
 obtain ⟨hlt,he⟩:=List.getElem?_eq_some_iff.1 h;refine ⟨?_,by simp;omega⟩;rw [← he,← List.drop_eq_getElem_cons hlt,List.take_append_drop]
theorem zln {D:Nat→Bool} {R:List Rec} {M0:Mm} {i:Nat} {r:Rec} (hr:R[i]? = some r) (hl:r.L=true) (hD:∀ j rj,i<j→R[j]? = some rj→rj.L=true→D j=false) (hi:D i=true):md D R 0 M0=r.M:=by
 obtain ⟨e1,e2⟩:=zg5 hr;rw [e1,zi5,zdo,e2,Nat.zero_add,if_pos ⟨hi,hl⟩];refine zb4 fun j p hj hp=>hD _ p (by omega) ?_ hp;rw [List.getElem?_drop] at hj;exact hj
section
variable {fr:FrF} {lo:LF} {q:QF} {RO:Tr (TypeId×SyC)} {ops:Array Oper} {A:List Nat} {n0:Nat} {M0:Mm} {R:List Rec} (hR:Run P fr lo q RO ops A T0 n0 M0 R)
include hR
theorem Run.mem (i:Nat) (hi:i≤ops.size):memAt M0 R i=md (fun j=>decide (j<i)) R 0 M0:=by
 induction i with
 | zero=>rw [zb4 (fun j p _ _=>by simp)];rfl
 | succ i ih=>
  have hlt:i<ops.size:=by omega
  obtain ⟨r,hr,hx⟩:=hR.step i ops[i] (by simp [hlt]);have e0:memAt M0 R (i+1)=r.M:=by simp [memAt,hr]
  rw [e0]
  by_cases hl:r.L=true
  ·exact (zln hr hl (fun j rj hj _ _=>by simp;omega) (by simp)).symm
  ·have hl:r.L=false:=by simpa using hl
   rw [zfy hx hl,ih (by omega)];refine zde fun j p hj hp=>?_
   by_cases e:j=i
   ·subst e;rw [hr] at hj;injection hj with hj;subst hj;rw [hl] at hp;cases hp
   ·simp;omega
theorem Run.slots {D:Nat→Bool} (hg:Good A ops.size D) {i:Nat} {o:Oper} (ho:ops[i]? = some o) (hA:∀ j,tb (atA A i) j=true→D j=true) (hn:D i=false) {s:Nat} (hs:s∈looks ops o) :
  lw (fun j=>tb (atA A i) j) s (ops.toList.zip (R.take i)) 0 (T0.get s)=lw D s (ops.toList.zip R) 0 (T0.get s):=by
 have hi:i<ops.size:=(Array.getElem?_eq_some_iff.1 ho).1;have e:ops.toList.zip R=ops.toList.zip (R.take i)++(ops.toList.zip R).drop i:=by
  rw [zkx,List.take_append_drop]
 have hl:(ops.toList.zip (R.take i)).length=i:=by simp [hR.len];omega
 rw [e,zd6,hl];rw [zei (l:=(ops.toList.zip R).drop i)]
 ·refine zd5 fun j p hj hd=>?_;obtain ⟨h1,h2⟩:=zdl.1 hj;have hji:j<i:=by
   rw [List.getElem?_take] at h2;split at h2
   ·assumption
   ·cases h2
  rw [Nat.zero_add]
  by_cases hb:tb (atA A i) j=true
  ·rw [hb,hA j hb]
  ·have hb2:tb (atA A i) j=false:=by simpa using hb
   rw [hb2];rcases hR.st.slot i o ho s hs j p.1 h1 hd with h3|h3|h3
   ·exact absurd h3 hb
   ·cases hD:D j with
    | false=>rfl
    | true=>have:=hg j (by omega) hD i h3;rw [hn] at this;cases this
   ·omega
 ·intro j p hj hd;rw [List.getElem?_drop] at hj;obtain ⟨h1,h2⟩:=zdl.1 hj;rw [Nat.zero_add];have hlt:i+j<ops.size:=(Array.getElem?_eq_some_iff.1 h1).1;rcases hR.st.slot i o ho s hs (i+j) p.1 h1 hd with h3|h3|h3
  ·have:=hR.st.below i o ho _ h3;omega
  ·cases hD:D (i+j) with
   | false=>rfl
   | true=>have:=hg _ hlt hD i h3;rw [hn] at this;cases this
  ·rw [h3];exact hn
end
end
section
open Go.RowKit Go.MapKept
variable {P:Program} {γ γ':G} {w0:Bs} {w:World} {H H':Tr EK} {n n':Nat} {T T0:Tr EV} {cs:List Frame} {fid:FuncId} {FT:Tr FI} {o:Oper}
theorem ze2 {A:List Nat}:∀ {l:List Nat} {d j:Nat},d∈l→tb (atA A d) j=true→tb (ancOf A l) j=true
 | e::l,d,j,h,hj=>by
  have e1:ancOf A (e::l)=(2 ^ e ||| atA A e) ||| ancOf A l:=rfl
  rw [tb_eq,e1,Nat.testBit_or,Nat.testBit_or];rcases List.mem_cons.1 h with rfl|h
  ·rw [tb_eq] at hj;rw [hj];simp
  ·have:=ze2 (A:=A) h hj;rw [tb_eq] at this;rw [this];simp
theorem Stat.trans {ops:Array Oper} {A:List Nat} (h:Stat ops A):∀ (i:Nat) (o:Oper),ops[i]? = some o→∀ q j,tb (atA A i) q=true→tb (atA A q) j=true→tb (atA A i) j=true:=by
 intro i
 induction i using Nat.strongRecOn with
 | _ i ih=>
  intro o ho q j hq hj;have hq2:=hq;rw [h.anc i o ho] at hq ⊢;rcases zec hq with h1|⟨d,hd,h1⟩
  ·exact ze2 h1 hj
  ·have hlt:=h.lt i o ho d hd;have hi:i<ops.size:=(Array.getElem?_eq_some_iff.1 ho).1;exact ze2 hd (ih d hlt ops[d] (by simp [show d<ops.size by omega]) q j h1 hj)
theorem zl7 {d:TypeDesc} {k:Value}:∀ {es:List (Value×EV)},(∀ p∈es,kEq d k p.1=false)→dropE d k es=es
 | [],_=>rfl
 | p::es,h=>by
  have e:dropE d k (p::es)=bc (kEq d k p.1) (dropE d k es) (p::dropE d k es):=rfl;rw [e,h p (by simp),zl7 fun q hq=>h q (by simp [hq])];rfl
theorem ML.perm {es es':List (Value×EV)} {l:List (Value×Value)} (h:ML γ es l) (hp:es.Perm es'):∃ l',l.Perm l'∧ML γ es' l':=by
 induction hp generalizing l with
 | nil=>exact ⟨l,.refl _,h⟩
 | cons x _ ih=>
  cases h with
  | cons k hc hr=>
   obtain ⟨l',h1,h2⟩:=ih hr;exact ⟨_,h1.cons _,.cons k hc h2⟩
 | swap x y l0=>
  cases h with
  | cons k hc hr=>
   cases hr with
   | cons k2 hc2 hr2=>exact ⟨_,.swap ..,.cons k2 hc2 (.cons k hc hr2)⟩
 | trans _ _ ih1 ih2=>
  obtain ⟨l1,h1,h2⟩:=ih1 h;obtain ⟨l2,h3,h4⟩:=ih2 h2;exact ⟨l2,h1.trans h3,h4⟩
theorem zsk {D:Nat→Bool} {R:List Rec} {i j:Nat} {r:Rec} {d:TypeDesc} {k:Value} {a:EV} (hr:R[i]? = some r) (hi:r.In=some (j,d,k,a)) (hn:D i=false):(insL (ins D i) j R 0).Perm ((k,a)::insL D j R 0):=by
 obtain ⟨e1,e2⟩:=zg5 hr;have h1:insL (ins D i) j (R.take i) 0=insL D j (R.take i) 0:=zbo fun z p d kv a hz _=>by
  rw [Nat.zero_add];unfold ins;have:z<(R.take i).length:=(List.getElem?_eq_some_iff.1 hz).1;rw [if_neg (by omega)]
 have h2:insL (ins D i) j (R.drop (i+1)) (i+1)=insL D j (R.drop (i+1)) (i+1):=zbo fun z p d kv a hz _=>by
  unfold ins;rw [if_neg (by omega)]
 have h3:insL (ins D i) j R 0=insL D j (R.take i) 0++(k,a)::insL D j (R.drop (i+1)) (i+1):=by
  conv=>lhs;rw [e1]
  rw [zdq,e2,zb5,hi,Nat.zero_add];simp only;rw [if_pos ⟨trivial,by simp [ins]⟩,h1,h2]
 have h4:insL D j R 0=insL D j (R.take i) 0++insL D j (R.drop (i+1)) (i+1):=by
  conv=>lhs;rw [e1]
  rw [zdq,e2,zb5,hi,Nat.zero_add];simp only;rw [if_neg (fun e=>by rw [hn] at e;cases e.2)]
 rw [h3,h4];exact List.perm_middle
section
variable {fr:FrF} {lo:LF} {q:QF} {RO:Tr (TypeId×SyC)} {ops:Array Oper} {A:List Nat} {n0:Nat} {M0:Mm} {R:List Rec} (hR:Run P fr lo q RO ops A T0 n0 M0 R)
include hR
theorem Run.lw_ins {D:Nat→Bool} (hg:Good A ops.size D) {i:Nat} {r:Rec} (ho:ops[i]? = some o) (hr:R[i]? = some r) (hn:D i=false) (s:Nat) :
  lw (ins D i) s (ops.toList.zip R) 0 (T0.get s)=if o.dst=some s then some r.V else lw D s (ops.toList.zip R) 0 (T0.get s):=by
 by_cases hd:o.dst=some s
 ·rw [if_pos hd];have hz:(ops.toList.zip R)[i]? = some (o,r):=zdl.2 ⟨ho,hr⟩;obtain ⟨e1,e2⟩:=zg5 hz;rw [e1,zd6,zdp,e2,Nat.zero_add,if_pos ⟨by simp [ins],hd⟩];refine zei fun j p hj hp=>?_;rw [List.getElem?_drop] at hj;obtain ⟨h1,h2⟩:=zdl.1 hj;have hlt:i+1+j<ops.size:=(Array.getElem?_eq_some_iff.1 h1).1;have h3:=hR.st.wr (i+1+j) i p.1 o s h1 ho (by omega) hp hd;show ins D i (i+1+j)=false;unfold ins;rw [if_neg (by omega)]
  cases hD:D (i+1+j) with
  | false=>rfl
  | true=>have:=hg _ hlt hD i h3;rw [hn] at this;cases this
 ·rw [if_neg hd];refine zd5 fun j p hj hp=>?_;rw [Nat.zero_add];unfold ins
  by_cases e:j=i
  ·subst e;obtain ⟨h1,_⟩:=zdl.1 hj;rw [ho] at h1;injection h1 with h1;subst h1
   exact absurd hp hd
  ·rw [if_neg e]
theorem Run.mask {D:Nat→Bool} (hg:Good A ops.size D) {j:Nat} (h:tb (md D R 0 M0).a j=true):D j=true:=by
 rcases zdf D R 0 M0 with ⟨e,_⟩|⟨q,rq,h1,h2,h3,_,h5⟩
 ·rw [e,hR.a0,tb_eq] at h;simp at h
 ·rw [h5] at h;have hq:q<ops.size:=by rw [← hR.len];exact (List.getElem?_eq_some_iff.1 h1).1
  obtain ⟨r,hr,hx⟩:=hR.step q ops[q] (by simp [hq]);rw [h1] at hr;injection hr with hr;subst hr;rw [(zes hx h2).1] at h;exact hg q hq (by simpa using h3) j h
theorem Run.freeD {D:Nat→Bool} {j:Nat} {r:Rec} {c:EK} (hr:R[j]? = some r) (hc:r.Fr=some c) (h:tb (md D R 0 M0).a j=false):(md D R 0 M0).H.get (n0+j)=none:=by
 obtain ⟨h1,h2⟩:=hR.free j r c hr hc;rcases zdf D R 0 M0 with ⟨e,_⟩|⟨q,rq,g1,g2,g3,_,g5⟩
 ·rw [e];exact h1
 ·rw [g5] at h ⊢;exact h2 q rq g1 g2 h
theorem Run.kd {D:Nat→Bool} {b:Nat}:(KD D n0 R M0).get b=(fV (mpF D R) n0 0 R b).or ((frV (fun j=>bc (tb (md D R 0 M0).a j) false (D j)) n0 0 R b).or ((md D R 0 M0).H.get b)):=by
 unfold KD;rw [ztw (by rw [hR.len];exact hR.room),zka (by rw [hR.len];exact hR.room)]
theorem Run.mpRec {j:Nat} {r:Rec} (hr:R[j]? = some r) (hm:r.Mp=true):r.Fr=none∧r.In=none:=by
 have hj:j<ops.size:=by rw [← hR.len];exact (List.getElem?_eq_some_iff.1 hr).1
 obtain ⟨r2,h1,h2⟩:=hR.step j ops[j] (by simp [hj]);rw [hr] at h1;injection h1 with h1;subst h1;exact zsp h2 hm
theorem Run.mpNone {D:Nat→Bool} {j:Nat} {r:Rec} (hr:R[j]? = some r) (hm:r.Mp=true):(md D R 0 M0).H.get (n0+j)=none:=by
 obtain ⟨h1,h2⟩:=hR.freeM j r hr hm;rcases zdf D R 0 M0 with ⟨e,_⟩|⟨q,rq,g1,g2,g3,_,g5⟩
 ·rw [e];exact h1
 ·rw [g5];exact h2 q rq g1 g2
omit hR in
theorem Run.mpSame {D:Nat→Bool} {i:Nat} {r:Rec} (hr:R[i]? = some r) (hm:r.Mp=false) (hi:r.In=none) {b:Nat}:fV (mpF (ins D i) R) n0 0 R b=fV (mpF D R) n0 0 R b:=by
 refine zfc fun j p _ hp=>?_;have e:insL (ins D i) j R 0=insL D j R 0:=zbo fun z q d kv a hq hin=>by
  rw [Nat.zero_add];unfold ins;have hne:z≠i:=fun e=>by subst e;rw [hr] at hq;injection hq with hq;subst hq;rw [hi] at hin;cases hin
  rw [if_neg hne]
 unfold mpF;rw [e]
 by_cases hj:j=i
 ·subst hj;rw [hr] at hp;injection hp with hp;subst hp;rw [hm];rfl
 ·simp [ins,hj]
theorem Run.vis {i:Nat} {M:Mm} {b:Nat}:(vis A n0 (R.take i) i M).get b=(frV (fun j=>bc (tb M.a j) false (tb (atA A i) j)) n0 0 (R.take i) b).or (M.H.get b):=zka (by have:=hR.len;have:=hR.room;simp;omega)
theorem Run.visMp {D:Nat→Bool} {i j:Nat} {r:Rec} (hr:R[j]? = some r) (hm:r.Mp=true):(Ev.vis A n0 (R.take i) i (md D R 0 M0)).get (n0+j)=none:=by
 rw [hR.vis];have hz:frV (fun j=>bc (tb (md D R 0 M0).a j) false (tb (atA A i) j)) n0 0 (R.take i) (n0+j)=none:=by
  cases e:frV (fun j=>bc (tb (md D R 0 M0).a j) false (tb (atA A i) j)) n0 0 (R.take i) (n0+j) with
  | none=>rfl
  | some c=>
   obtain ⟨j2,r2,e1,e2,_,e3⟩:=zan.1 e;have:j2=j:=by omega
   subst this;rw [List.getElem?_take] at e2;split at e2
   ·rw [hr] at e2;injection e2 with e2;subst e2
    rw [(hR.mpRec hr hm).1] at e3;cases e3
   ·cases e2
 rw [hz,Option.none_or];exact hR.mpNone hr hm
theorem Run.sees {D:Nat→Bool} {i:Nat} (hA:∀ j,tb (atA A i) j=true→D j=true) {b:Nat} {k:EK} (h:(Ev.vis A n0 (R.take i) i (md D R 0 M0)).get b=some k):(KD D n0 R M0).get b=some k:=by
 rw [hR.kd];have hmp:fV (mpF D R) n0 0 R b=none:=by
  cases e:fV (mpF D R) n0 0 R b with
  | none=>rfl
  | some c=>
   obtain ⟨j,r,rfl,e1,e2⟩:=zbz.1 e;rw [hR.visMp e1 (zbq.1 e2).1] at h;cases h
 rw [hmp,Option.none_or];rw [hR.vis] at h
 cases hv:frV (fun j=>bc (tb (md D R 0 M0).a j) false (tb (atA A i) j)) n0 0 (R.take i) b with
 | some c=>
  rw [hv] at h;simp at h;subst h;obtain ⟨j,r,rfl,hr,hD,hc⟩:=zan.1 hv;have:frV (fun j=>bc (tb (md D R 0 M0).a j) false (D j)) n0 0 R (n0+j)=some c:=by
   refine zan.2 ⟨j,r,rfl,?_,?_,hc⟩
   ·rw [List.getElem?_take] at hr;split at hr
    ·exact hr
    ·cases hr
   ·simp only [bc_eq] at hD ⊢
    by_cases e:tb (md D R 0 M0).a j=true
    ·rw [if_pos e] at hD;cases hD
    ·rw [if_neg e] at hD ⊢;exact hA j hD
  rw [this];rfl
 | none=>
  rw [hv,Option.none_or] at h
  cases hv2:frV (fun j=>bc (tb (md D R 0 M0).a j) false (D j)) n0 0 R b with
  | none=>rw [Option.none_or];exact h
  | some c=>
   obtain ⟨j,r,rfl,hr,hD,hc⟩:=zan.1 hv2;simp only [bc_eq] at hD
   by_cases e:tb (md D R 0 M0).a j=true
   ·rw [if_pos e] at hD;cases hD
   ·have:=hR.freeD (D:=D) hr hc (by simpa using e);rw [this] at h;cases h
theorem Run.frNb {j:Nat} {r:Rec} {c:EK} (hr:R[j]? = some r) (hf:r.Fr=some c):c.nestB=false:=by
 have hj:j<ops.size:=by rw [← hR.len];exact (List.getElem?_eq_some_iff.1 hr).1
 have ho:ops[j]? = some ops[j]:=by simp [hj]
 obtain ⟨r2,h1,h2⟩:=hR.step j ops[j] ho;rw [hr] at h1;injection h1 with h1;subst h1;unfold exRec at h2;split at h2
 ·injection h2 with h2;subst h2;cases hf
 ·rename_i hgd;split at h2
  ·rename_i a c' hfr;injection h2 with h2;subst h2
   obtain ⟨_,⟨_,hnb⟩,_⟩:=hR.fsnd j _ ho hgd a c' hfr;unfold recFr at hf;split at hf
   ·cases hf
   ·injection hf with hf;subst hf;exact hnb
  ·split at h2
   ·injection h2 with h2;subst h2;cases hf
   ·split at h2
    ·injection h2 with h2;subst h2;cases hf
    ·split at h2
     ·injection h2 with h2;subst h2;cases hf
     ·cases h2
 ·cases h2
omit hR in
theorem ztq {D:Nat→Bool} {j:Nat} {rj:Rec} {c:EK} (h:mpF D R j rj=some c):c.nestB=false:=by
 rw [(zbq.1 h).2.2];rfl
theorem Run.outNb {D:Nat→Bool} {i b:Nat} {k:EK} (hk:(KD D n0 R M0).get b=some k) (hv:(Ev.vis A n0 (R.take i) i (md D R 0 M0)).get b=none):k.nestB=false:=by
 rw [hR.kd] at hk
 cases hvm:fV (mpF D R) n0 0 R b with
 | some c=>
  rw [hvm] at hk;simp at hk;subst hk;obtain ⟨j,rj,_,_,h2⟩:=zbz.1 hvm;exact ztq h2
 | none=>
 rw [hvm,Option.none_or] at hk
 cases hf:frV (fun j=>bc (tb (md D R 0 M0).a j) false (D j)) n0 0 R b with
 | some c=>
  rw [hf] at hk;simp at hk;subst hk;obtain ⟨j,rj,_,h1,_,h3⟩:=zan.1 hf;exact hR.frNb h1 h3
 | none=>
  rw [hf,Option.none_or] at hk;rw [hR.vis] at hv;rw [Option.or_eq_none_iff] at hv;rw [hv.2] at hk;cases hk
omit hR in
theorem HR.lessRes {r r':Nat→Prop} (h:HR γ (w0.withRes r) H n w) (e:∀ i,r' i→r i):HR γ (w0.withRes r') H n w:=
 ⟨h.hp0,h.inj0,h.fresh,fun i hi=>h.rsv i (e i hi),h.lt,⟨h.stays.os,h.stays.tape,h.stays.output,h.stays.size,h.stays.block⟩,h.fzk.lessRes⟩
theorem Run.any {D:Nat→Bool} (hRO:ROk γ w0 RO) (hres:∀ q,w0.res q→q<n0) {fn:FuncId} {tmps:Array Value} {i:Nat} {rest:List Nat} {k:List Item} {ds:List Deferred} {ro:Option Nat} {N:Nat}
  (hg:Good A ops.size D) (ho:ops[i]? = some o) (hn:D i=false) (hd:∀ d∈deps o,D d=true) (hT:TD γ ops T0 R D tmps) (hN:tmps.size=N) (hdst:∀ d,o.dst=some d→d<N) (hH:HD γ w0 ops.size D n0 R M0 w) {os:Array Oper} (hos:os[i]? = some o) (hyw:∀ b,Region.wanted o (yielded ops tmps)=b→Region.wanted o (yielded os tmps)=b) :
  ∃ γ' tmps' w',GLe γ γ'∧Steps P (lone (fram fn tmps (.inRegion os (i::rest)::k) ds ro) cs w) (lone (fram fn tmps' (.inRegion os rest::k) ds ro) cs w')∧TD γ' ops T0 R (ins D i) tmps'∧tmps'.size=N∧HD γ' w0 ops.size (ins D i) n0 R M0 w':=by
 obtain ⟨r,hr,hx⟩:=hR.step i o ho;have hA:=hR.st.sub hg ho hd;have hi:i<ops.size:=(Array.getElem?_eq_some_iff.1 ho).1;have hTi:TOk γ (tabAt ops A T0 (R.take i) i o) tmps:=fun s a hs=>by
  obtain ⟨h1,h2⟩:=zdz hs;rw [hR.slots hg ho hA hn h1] at h2;exact hT s a h2
 -- what the slots hold behind it
 have fin:∀ (γ':G) (x:Value),GLe γ γ'→EC γ' r.V x→TD γ' ops T0 R (ins D i) (putD tmps o.dst x)∧(putD tmps o.dst x).size=N:=fun γ' x hle hc=>by
  refine ⟨fun s a hs=>?_,by unfold putD;split <;> simp [hN]⟩;rw [hR.lw_ins hg ho hr hn s] at hs
  by_cases e:o.dst=some s
  ·rw [if_pos e] at hs;injection hs with hs;subst hs
   refine ⟨x,?_,hc⟩;have:=hdst s e;simp [putD,e,hN,this]
  ·rw [if_neg e] at hs;obtain ⟨y,hy,hcy⟩:=hT s a hs;refine ⟨y,?_,hcy.mono hle⟩
   cases hdd:o.dst with
   | none=>exact hy
   | some d=>
    have:d≠s:=fun e2=>e (by rw [hdd,e2]);show (tmps.setIfInBounds d x)[s]? = some y;rw [Array.getElem?_setIfInBounds_ne this];exact hy
 have same:r.L=false→md (ins D i) R 0 M0=md D R 0 M0:=fun hl=>zde fun j p hj hp=>by
  rw [Nat.zero_add];unfold ins
  by_cases e:j=i
  ·subst e;rw [hr] at hj;injection hj with hj;subst hj;rw [hl] at hp;cases hp
  ·rw [if_neg e]
 have less:∀ q,(w0.res q∨∃ j,j<ops.size∧ins D i j=false∧q=n0+j)→(w0.res q∨∃ j,j<ops.size∧D j=false∧q=n0+j):=fun q hq=>by
  rcases hq with hq|⟨j,h1,h2,h3⟩
  ·exact .inl hq
  ·refine .inr ⟨j,h1,?_,h3⟩;unfold ins at h2;split at h2
   ·cases h2
   ·exact h2
 -- nothing is made: the same table
 have sameK:r.L=false→r.Fr=none→r.Mp=false→r.In=none→∀ b k,(KD (ins D i) n0 R M0).get b=some k→(KD D n0 R M0).get b=some k:=fun hl hf hmp hin b k hk=>by
  rw [hR.kd,same hl,Run.mpSame hr hmp hin] at hk;rw [hR.kd];have:frV (fun j=>bc (tb (md D R 0 M0).a j) false (ins D i j)) n0 0 R b=frV (fun j=>bc (tb (md D R 0 M0).a j) false (D j)) n0 0 R b:=by
   apply Option.ext;intro c;rw [zan,zan];constructor
   ·rintro ⟨j,rj,rfl,h1,h2,h3⟩
    refine ⟨j,rj,rfl,h1,?_,h3⟩;have hne:j≠i:=fun e=>by subst e;rw [hr] at h1;injection h1 with h1;subst h1;rw [hf] at h3;cases h3
    simpa [ins,hne] using h2
   ·rintro ⟨j,rj,rfl,h1,h2,h3⟩
    refine ⟨j,rj,rfl,h1,?_,h3⟩;have hne:j≠i:=fun e=>by subst e;rw [hr] at h1;injection h1 with h1;subst h1;rw [hf] at h3;cases h3
    simpa [ins,hne] using h2
  rw [this] at hk;exact hk
 unfold exRec at hx;split at hx
 ·rename_i hgd;injection hx with hx
  have hw:=zb2 hTi hgd;have hV:r.V = .v undef:=by rw [← hx]
  have hL:r.L=false:=by rw [← hx]
  have hF:r.Fr=none:=by rw [← hx]
  have hMp:r.Mp=false:=by rw [← hx]
  have hIn:r.In=none:=by rw [← hx]
  obtain ⟨f1,f2⟩:=fin γ undef (GLe.refl γ) (by rw [hV];exact .v _);refine ⟨γ,_,w,GLe.refl γ,.one (zio hos (hyw _ hw)),f1,f2,?_⟩;unfold HD at hH ⊢;rw [same hL];exact (hH.congr (sameK hL hF hMp hIn)).lessRes less
 ·rename_i hgd;have hw:=zb2 hTi hgd;split at hx
  ·rename_i a c hfr;injection hx with hx
   have hL:r.L=false:=by rw [← hx];exact zdn.1
   have hV:r.V=a:=by rw [← hx];exact zdn.2.1
   have hIn:r.In=none:=by rw [← hx];exact zdn.2.2.2
   have hroom:=hR.room;obtain ⟨hd2,⟨hmp,hnb⟩,hfs⟩:=hR.fsnd i o ho hgd a c hfr;obtain ⟨ob,cm,x,hrun,hall⟩:=hfs γ tmps hTi w;obtain ⟨q1,q2⟩:=hH.rsv (n0+i) (.inr ⟨i,hi,hn,rfl⟩);have hle:GLe γ (γ.upd (n0+i) (⟨w.heap.size,0⟩,cm)):=G.upd_le q1;obtain ⟨g1,g2⟩:=hall _ hle G.upd_same;obtain ⟨f1,f2⟩:=fin _ x hle (by rw [hV];exact g1);refine ⟨_,_,w.alloc ob,hle,.one (zbj hos (hyw _ hw) hd2 hrun),f1,f2,?_⟩;unfold HD at hH ⊢;rw [same hL]
   have hnew:=hH.newAt (hnn:=hnb) q1 q2 (Nat.ble_eq_true_of_le (by omega)) (res:=fun q=>w0.res q∨∃ j,j<ops.size∧ins D i j=false∧q=n0+j) (fun q hq=>⟨less q hq,fun e=>by
    rcases hq with hq|⟨j,h1,h2,h3⟩
    ·have:=hres q hq;omega
    ·have:j=i:=by omega
     subst this;simp [ins] at h2⟩) g2
   refine hnew.congr fun b k hk=>?_;rw [hR.kd,same hL] at hk;rw [Tr.get_put (Nat.ble_eq_true_of_le (by omega)),hR.kd];have others:b≠n0+i→frV (fun j=>bc (tb (md D R 0 M0).a j) false (ins D i j)) n0 0 R b=frV (fun j=>bc (tb (md D R 0 M0).a j) false (D j)) n0 0 R b:=fun hb=>by
    apply Option.ext;intro c;rw [zan,zan];constructor
    ·rintro ⟨j,rj,rfl,h1,h2,h3⟩
     have hne:j≠i:=fun e=>hb (by rw [e]);exact ⟨j,rj,rfl,h1,by simpa [ins,hne] using h2,h3⟩
    ·rintro ⟨j,rj,rfl,h1,h2,h3⟩
     have hne:j≠i:=fun e=>hb (by rw [e]);exact ⟨j,rj,rfl,h1,by simpa [ins,hne] using h2,h3⟩
   have othersM:b≠n0+i→fV (mpF (ins D i) R) n0 0 R b=fV (mpF D R) n0 0 R b:=fun hb=>by
    refine zfc fun j p e hp=>?_;have hne:j≠i:=fun e2=>hb (by rw [e,e2]);have e:insL (ins D i) j R 0=insL D j R 0:=zbo fun z q d kv a hq hin=>by
     rw [Nat.zero_add];unfold ins;have hne:z≠i:=fun e=>by subst e;rw [hr] at hq;injection hq with hq;subst hq;rw [hIn] at hin;cases hin
     rw [if_neg hne]
    unfold mpF;rw [e];simp [ins,hne]
   by_cases hb:b=n0+i
   ·rw [if_pos hb]
    by_cases hMp:r.Mp=true
    ·have hc:c = .mp []:=by
      rw [← hx] at hMp;unfold recFr at hMp;split at hMp
      ·rename_i es;rw [hmp _ rfl]
      ·cases hMp
     have he:insL (ins D i) i R 0=[]:=by
      apply List.eq_nil_iff_forall_not_mem.2;intro p hp;obtain ⟨z,rz,d,h1,h2,h3⟩:=zhz hp;rw [Nat.zero_add] at h3;have hzi:z≠i:=fun e=>by subst e;rw [hr] at h1;injection h1 with h1;subst h1;rw [hIn] at h2;cases h2
      have hz:z<ops.size:=by rw [← hR.len];exact (List.getElem?_eq_some_iff.1 h1).1
      have:=hg z hz (by simpa [ins,hzi] using h3) i (hR.insok z rz i d p.1 p.2 h1 h2).2.1;rw [hn] at this;cases this
     have:fV (mpF (ins D i) R) n0 0 R b=some c:=zbz.2 ⟨i,r,hb,hr,zbq.2 ⟨hMp,by simp [ins],by rw [he,hc]⟩⟩;rw [this] at hk;simpa using hk
    ·have hMp:r.Mp=false:=by simpa using hMp
     have hF:r.Fr=some c:=by
      rw [← hx] at hMp ⊢;unfold recFr at hMp ⊢;split
      ·simp only at hMp;cases hMp
      ·rfl
     have hz:fV (mpF (ins D i) R) n0 0 R b=none:=by
      cases e:fV (mpF (ins D i) R) n0 0 R b with
      | none=>rfl
      | some c2=>
       obtain ⟨j,r2,e1,e2,e3⟩:=zbz.1 e;have:j=i:=by omega
       subst this;rw [hr] at e2;injection e2 with e2;subst e2
       rw [(zbq.1 e3).1] at hMp;cases hMp
     have:frV (fun j=>bc (tb (md D R 0 M0).a j) false (ins D i j)) n0 0 R b=some c:=by
      refine zan.2 ⟨i,r,hb,hr,?_,hF⟩;have:tb (md D R 0 M0).a i=false:=by
       cases e:tb (md D R 0 M0).a i with
       | false=>rfl
       | true=>have:=hR.mask hg e;rw [hn] at this;cases this
      simp [this,bc_eq,ins]
     rw [hz,Option.none_or,this] at hk;simpa using hk
   ·rw [if_neg hb];rw [others hb,othersM hb] at hk;exact hk
  ·rename_i hnf;split at hx
   ·rename_i u hu;obtain ⟨jm,d,kv,a⟩:=u;injection hx with hx
    have hL:r.L=false:=by rw [← hx]
    have hV:r.V = .v undef:=by rw [← hx]
    have hF:r.Fr=none:=by rw [← hx]
    have hMp:r.Mp=false:=by rw [← hx]
    have hIn:r.In=some (jm,d,kv,a):=by rw [← hx]
    have hroom:=hR.room;obtain ⟨⟨rj,hrj,hrm⟩,hanc,hkeys⟩:=hR.insok i r jm d kv a hr hIn;have hDj:=hA jm hanc;have hjl:jm<ops.size:=by rw [← hR.len];exact (List.getElem?_eq_some_iff.1 hrj).1
    obtain ⟨t,kt,et,b,q,x,⟨t2,m2,k2,x2,hop⟩,he,hγ,hcx,hK,hu1,hu2⟩:=zsu hTi hu;have hget:(KD D n0 R M0).get (n0+jm)=some (.mp (insL D jm R 0)):=by
     rw [hR.kd,zbz.2 ⟨jm,rj,rfl,hrj,zbq.2 ⟨hrm,hDj,rfl⟩⟩];rfl
    unfold HD at hH;obtain ⟨b2,m3,h1,_,ents,clock,l,h2,h3,h4,h5⟩:=hH.hp _ _ hget;rw [hγ] at h1;simp only [Option.some.injEq,Prod.mk.injEq] at h1;obtain ⟨rfl,rfl⟩:=h1;have hall:∀ p∈insL D jm R 0,IsKey d p.1∧kEq d kv p.1=false:=fun p hp=>by
     obtain ⟨z,rz,d',g1,g2,g3⟩:=zhz hp;rw [Nat.zero_add] at g3;obtain ⟨g4,g5⟩:=hkeys z rz d' p.1 p.2 g1 g2;exact ⟨zbu g4,g5 fun e=>by subst e;rw [hn] at g3;cases g3⟩
    obtain ⟨ents',clock',r1,r2,l',r3,r4⟩:=zo3 (w:=w) hu1 hu2 hK (fun p hp=>(hall p hp).1) h2 h3 h4 h5 hcx;have hperm:(insL (ins D i) jm R 0).Perm (setEnt d kv a (insL D jm R 0)):=by
     unfold setEnt;rw [zl7 fun p hp=>(hall p hp).2];exact zsk hr hIn hn
    obtain ⟨l2,hl2,hm2⟩:=ML.perm r4 hperm.symm;have hlt:=(Array.getElem?_eq_some_iff.1 h2).1;obtain ⟨f1,f2⟩:=fin γ undef (GLe.refl γ) (by rw [hV];exact .v _);have hrun:(execOp (opEval tmps) o).run P w = .ok .skip (w.putObj b.k (.map ents' clock')):=by
     rw [he];simp [r1,Result.andThen]
    refine ⟨γ,_,w.putObj b.k (.map ents' clock'),GLe.refl γ,.one (zdy hos (hyw _ hw) (by rw [hop];rfl) hrun),f1,f2,?_⟩;unfold HD;rw [same hL];have hble:Nat.ble (n0+jm) 65535=true:=Nat.ble_eq_true_of_le (by omega);have hturn:=hH.turn (w':=w.putObj b.k (.map ents' clock')) hble hget hγ (.mp (insL (ins D i) jm R 0)) (fun c hc=>World.putObj_heap_other hc) (by simp) rfl rfl rfl ⟨ents',clock',l2,World.putObj_heap_same hlt,r2,r3.trans hl2,hm2⟩;refine (hturn.congr fun b3 c hc=>?_).lessRes less;rw [Tr.get_put hble]
    by_cases hb:b3=n0+jm
    ·rw [if_pos hb];subst hb;rw [hR.kd,zbz.2 ⟨jm,rj,rfl,hrj,zbq.2 ⟨hrm,by simp [ins,hDj],rfl⟩⟩] at hc;simpa using hc
    ·rw [if_neg hb];rw [hR.kd,same hL] at hc;rw [hR.kd];have e1:fV (mpF (ins D i) R) n0 0 R b3=fV (mpF D R) n0 0 R b3:=zfc fun j p e hp=>by
      have hne:j≠jm:=fun e2=>hb (by rw [e,e2]);have e:insL (ins D i) j R 0=insL D j R 0:=zbo fun z q2 d2 kv2 a2 hq hin=>by
       rw [Nat.zero_add];unfold ins;have hnz:z≠i:=fun e=>by
        subst e;rw [hr] at hq;injection hq with hq;subst hq;rw [hIn] at hin
        injection hin with hin
        exact hne (congrArg (·.1) hin).symm
       rw [if_neg hnz]
      unfold mpF;rw [e]
      by_cases hj:j=i
      ·subst hj;rw [hr] at hp;injection hp with hp;subst hp;rw [hMp];rfl
      ·simp [ins,hj]
     have e2:frV (fun j=>bc (tb (md D R 0 M0).a j) false (ins D i j)) n0 0 R b3=frV (fun j=>bc (tb (md D R 0 M0).a j) false (D j)) n0 0 R b3:=by
      apply Option.ext;intro c;rw [zan,zan];constructor
      ·rintro ⟨j,rj,rfl,h1,h2,h3⟩
       refine ⟨j,rj,rfl,h1,?_,h3⟩;have hne:j≠i:=fun e=>by subst e;rw [hr] at h1;injection h1 with h1;subst h1;rw [hF] at h3;cases h3
       simpa [ins,hne] using h2
      ·rintro ⟨j,rj,rfl,h1,h2,h3⟩
       refine ⟨j,rj,rfl,h1,?_,h3⟩;have hne:j≠i:=fun e=>by subst e;rw [hr] at h1;injection h1 with h1;subst h1;rw [hF] at h3;cases h3
       simpa [ins,hne] using h2
     rw [e1,e2] at hc;exact hc
   rename_i hni;split at hx
   ·rename_i a ha;injection hx with hx
    have hL:r.L=false:=by rw [← hx]
    have hF:r.Fr=none:=by rw [← hx]
    have hMp:r.Mp=false:=by rw [← hx]
    have hIn:r.In=none:=by rw [← hx]
    have hsee:∀ b k,(Ev.vis A n0 (R.take i) i (md D R 0 M0)).get b=some k→(KD D n0 R M0).get b=some k:=fun b k=>hR.sees hA;unfold HD at hH;obtain ⟨γ',w',x,hle,hH2,hc,hst⟩:=hR.snd i o r ho hr hL hgd hnf hni D hg hA hn γ _ w fn tmps os i rest k ds ro cs (ROk.part hH (hRO.res _) _) hTi (hH.partOk hsee) hos (hyw _ hw);obtain ⟨f1,f2⟩:=fin γ' x hle hc;refine ⟨γ',_,w',hle,hst,f1,f2,?_⟩;unfold HD;rw [same hL];refine (hH.whole (H':=KD (ins D i) n0 R M0) hle hH2 fun b k hk=>?_).lessRes less;have hk:=sameK hL hF hMp hIn b k hk
    cases hv:(Ev.vis A n0 (R.take i) i (md D R 0 M0)).get b with
    | none=>exact .inr ⟨rfl,hk,hR.outNb hk hv⟩
    | some k2=>
     have:=hsee b k2 hv;rw [hk] at this;injection this with this;subst this
     exact .inl rfl
   ·split at hx
    case h_2=>cases hx
    rename_i a H2 n2 hlo;injection hx with hx
    have hL:r.L=true:=by rw [← hx]
    have hV:r.V=a:=by rw [← hx]
    have hF:r.Fr=none:=by rw [← hx]
    have hMp:r.Mp=false:=by rw [← hx]
    have hIn:r.In=none:=by rw [← hx]
    have hm:r.M=⟨H2,n2,atA A i⟩:=by rw [← hx]
    have hbef:∀ j p,R[j]? = some p→p.L=true→(D j=true↔j<i):=fun j p hj hp=>by
     constructor
     ·intro hDj;rcases Nat.lt_or_ge j i with h1|h1
      ·exact h1
      ·by_cases e:j=i
       ·subst e;rw [hn] at hDj;cases hDj
       ·have hjl:j<ops.size:=by rw [← hR.len];exact (List.getElem?_eq_some_iff.1 hj).1
        have:=hg j hjl hDj i (hR.loud j i p r (by omega) hj hr hp hL);rw [hn] at this;cases this
     ·intro h1;exact hA j (hR.loud i j r p h1 hr hj hL hp)
    have hmem:md D R 0 M0=memAt M0 R i:=by
     rw [hR.mem i (by omega)];refine zde fun j p hj hp=>?_;rw [Nat.zero_add];have:=hbef j p hj hp
     by_cases h1:j<i
     ·rw [this.2 h1];simp [h1]
     ·have:D j=false:=by
       cases hD:D j with
       | false=>rfl
       | true=>exact absurd (this.1 hD) h1
      rw [this];simp [h1]
    rw [← hmem] at hlo;have hsee:∀ b k,(Ev.vis A n0 (R.take i) i (md D R 0 M0)).get b=some k→(KD D n0 R M0).get b=some k:=fun b k=>hR.sees hA;unfold HD at hH;have hS:=hR.lsnd i o r ho hr hL;rw [← hmem,hV,show r.M.H=H2 by rw [hm],show r.M.n=n2 by rw [hm]] at hS;obtain ⟨γ',w',x,hle,hH2,hc,hst⟩:=hS γ _ w fn tmps os i rest k ds ro cs (ROk.part hH (hRO.res _) _) hTi (hH.partOk hsee) hos (hyw _ hw);obtain ⟨f1,f2⟩:=fin γ' x hle (by rw [hV];exact hc);refine ⟨γ',_,w',hle,hst,f1,f2,?_⟩;have hmi:md (ins D i) R 0 M0=⟨H2,n2,atA A i⟩:=by
     rw [zln hr hL (fun j rj hj hrj hlj=>?_) (by simp [ins]),hm];unfold ins;rw [if_neg (by omega)]
     cases hD:D j with
     | false=>rfl
     | true=>have:=(hbef j rj hrj hlj).1 hD;omega
    unfold HD;refine HR.lessRes ?_ less;rw [hmi];refine hH.whole hle hH2 fun b k hk=>?_;rw [hR.kd,hmi,Run.mpSame hr hMp hIn] at hk
    cases hvm:fV (mpF D R) n0 0 R b with
    | some c=>
     rw [hvm] at hk;simp at hk;subst hk;obtain ⟨j,rj,rfl,h1,h2⟩:=zbz.1 hvm;exact .inr ⟨hR.visMp h1 (zbq.1 h2).1,by rw [hR.kd,hvm];rfl,ztq h2⟩
    | none=>
    rw [hvm,Option.none_or] at hk
    cases hv:frV (fun j=>bc (tb (atA A i) j) false (ins D i j)) n0 0 R b with
    | none=>rw [hv,Option.none_or] at hk;exact .inl hk
    | some c=>
     rw [hv] at hk;simp at hk;subst hk;obtain ⟨j,rj,rfl,h1,h2,h3⟩:=zan.1 hv;simp only [bc_eq] at h2
     by_cases e1:tb (atA A i) j=true
     ·rw [if_pos e1] at h2;cases h2
     rw [if_neg e1] at h2;have hne:j≠i:=fun e=>by subst e;rw [hr] at h1;injection h1 with h1;subst h1;rw [hF] at h3;cases h3
     have hDj:D j=true:=by simpa [ins,hne] using h2
     have hma:tb (md D R 0 M0).a j=false:=by
      cases e:tb (md D R 0 M0).a j with
      | false=>rfl
      | true=>
       exfalso
       rcases zdf D R 0 M0 with ⟨e5,_⟩|⟨q,rq,g1,g2,g3,_,g5⟩
       ·rw [e5,hR.a0,tb_eq] at e;simp at e
       ·rw [g5] at e;have hq:q<ops.size:=by rw [← hR.len];exact (List.getElem?_eq_some_iff.1 g1).1
        obtain ⟨r5,hr5,hx5⟩:=hR.step q ops[q] (by simp [hq]);rw [g1] at hr5;injection hr5 with hr5;subst hr5;rw [(zes hx5 g2).1] at e;have hqi:q<i:=(hbef q rq g1 g2).1 (by simpa using g3);exact e1 (hR.st.trans i o ho q j (hR.loud i q r rq hqi hr g1 hL g2) e)
     refine .inr ⟨?_,?_⟩
     ·rw [hR.vis];have hz:frV (fun j=>bc (tb (md D R 0 M0).a j) false (tb (atA A i) j)) n0 0 (R.take i) (n0+j)=none:=by
       cases e:frV (fun j=>bc (tb (md D R 0 M0).a j) false (tb (atA A i) j)) n0 0 (R.take i) (n0+j) with
       | none=>rfl
       | some c2=>
        obtain ⟨j2,r2,e6,_,h6,_⟩:=zan.1 e;have:j2=j:=by omega
        subst this;simp only [bc_eq] at h6;rw [hma] at h6;simp at h6;exact absurd h6 e1
      rw [hz,Option.none_or];exact hR.freeD h1 h3 hma
     ·refine ⟨?_,hR.frNb h1 h3⟩;rw [hR.kd,hvm,Option.none_or];have:frV (fun j=>bc (tb (md D R 0 M0).a j) false (D j)) n0 0 R (n0+j)=some c:=zan.2 ⟨j,rj,rfl,h1,by simp [bc_eq,hma,hDj],h3⟩;rw [this];rfl
 ·cases hx
end
end
section
open Go.RowKit
variable {P:Program} {γ γ':G} {w0:Bs} {w:World} {H H':Tr EK} {n n':Nat} {T T0:Tr EV} {cs:List Frame} {fid:FuncId} {FT:Tr FI} {o:Oper}
theorem zfw {p p':Nat→Bool} (h:∀ x,p' x=true→p x=true) {i:Nat} (hp:p i=true) (hp':p' i=false):∀ {l:List Nat},i∈l→(l.filter p').length<(l.filter p).length:=by
 have le:∀ l:List Nat,(l.filter p').length≤(l.filter p).length:=fun l=>by
  induction l with
  | nil=>simp
  | cons a l ih=>
   rw [List.filter_cons,List.filter_cons]
   by_cases h1:p' a=true
   ·rw [if_pos h1,if_pos (h a h1)];simpa using ih
   ·rw [if_neg h1]
    by_cases h2:p a=true
    ·rw [if_pos h2];simp;omega
    ·rw [if_neg h2];exact ih
 intro l
 induction l with
 | nil=>intro hi;simp at hi
 | cons a l ih=>
  intro hi;rw [List.filter_cons,List.filter_cons];rcases List.mem_cons.1 hi with rfl|hi
  ·rw [if_neg (by rw [hp'];simp),if_pos hp];have:=le l;simp;omega
  ·have:=ih hi
   by_cases h1:p' a=true
   ·rw [if_pos h1,if_pos (h a h1)];simpa using this
   ·rw [if_neg h1]
    by_cases h2:p a=true
    ·rw [if_pos h2];simp;omega
    ·rw [if_neg h2];exact this
theorem zbt {l:Array Bool} {i j:Nat} {d:Bool} (h:j≠i):(l.setIfInBounds i true).getD j d=l.getD j d:=by
 rw [Array.getD_eq_getD_getElem?,Array.getD_eq_getD_getElem?,Array.getElem?_setIfInBounds_ne (Ne.symm h)]
theorem zgp {D:Nat→Bool}:∀ i,D i=false→∃ j,j≤i∧D j=false∧∀ k,k<j→D k=true:=by
 intro i
 induction i using Nat.strongRecOn with
 | _ i ih=>
  intro hi
  by_cases h:∃ k,k<i∧D k=false
  ·obtain ⟨k,hk,hd⟩:=h;obtain ⟨j,h1,h2,h3⟩:=ih k hk hd;exact ⟨j,by omega,h2,h3⟩
  ·refine ⟨i,Nat.le_refl _,hi,fun k hk=>?_⟩
   cases hD:D k with
   | true=>rfl
   | false=>exact absurd ⟨k,hk,hD⟩ h
theorem zjt {fn:FuncId} {tmps:Array Value} {id:Nat} {ops:Array Oper} {k:List Item} {ds:List Deferred} {ro:Option Nat} (hm:P.follows .mixedOrders=true) :
  ∃ t,step P (lone (fram fn tmps (.code (.region id ops true)::k) ds ro) cs w) = .next (lone (fram fn tmps (.inRegion ops (Region.linearise .any ops t)::k) ds ro) cs { w with drawn:=w.drawn+1 }):=
 ⟨w.tape w.drawn (.order fn id),step_lone_go (by simp [stepG,stepG.exec,choose,Sem.run,Question.forced,Question.cut,Region.schedule,hm])⟩
section
variable {fr:FrF} {lo:LF} {q:QF} {RO:Tr (TypeId×SyC)} {ops:Array Oper} {A:List Nat} {n0:Nat} {M0:Mm} {R:List Rec} (hR:Run P fr lo q RO ops A T0 n0 M0 R)
include hR
theorem Run.allD {listed:Array Bool} {γ:G} {tmps:Array Value} {w:World} (hall:∀ i,i<ops.size→listed.getD i false=true) (hT:TD γ ops T0 R (fun j=>listed.getD j false) tmps) (hH:HD γ w0 ops.size (fun j=>listed.getD j false) n0 R M0 w) :
  TD γ ops T0 R (fun _=>true) tmps∧HD γ w0 ops.size (fun _=>true) n0 R M0 w:=by
 refine ⟨fun s a hs=>hT s a ?_,?_⟩
 ·rw [← hs];refine zd5 fun j p hj _=>?_;obtain ⟨h1,_⟩:=zdl.1 hj;rw [Nat.zero_add,hall j (Array.getElem?_eq_some_iff.1 h1).1]
 ·have e1:md (fun j=>listed.getD j false) R 0 M0=md (fun _=>true) R 0 M0:=zde fun j p hj _=>by
   rw [Nat.zero_add,hall j (by rw [← hR.len];exact (List.getElem?_eq_some_iff.1 hj).1)]
  unfold HD at hH ⊢;rw [← e1];refine HR.lessRes (hH.congr fun b k hk=>?_) fun q hq=>?_
  ·rw [hR.kd,← e1] at hk;rw [hR.kd];have hmp:fV (mpF (fun _=>true) R) n0 0 R b=fV (mpF (fun j=>listed.getD j false) R) n0 0 R b:=by
    refine zfc fun j p _ hp=>?_;have e:insL (fun _=>true) j R 0=insL (fun j=>listed.getD j false) j R 0:=zbo fun z q d kv a hq _=>by
     rw [Nat.zero_add,hall z (by rw [← hR.len];exact (List.getElem?_eq_some_iff.1 hq).1)]
    unfold mpF;rw [e];simp only [];rw [hall j (by rw [← hR.len];exact (List.getElem?_eq_some_iff.1 hp).1)]
   rw [hmp] at hk;have:frV (fun j=>bc (tb (md (fun j=>listed.getD j false) R 0 M0).a j) false true) n0 0 R b=frV (fun j=>bc (tb (md (fun j=>listed.getD j false) R 0 M0).a j) false (listed.getD j false)) n0 0 R b:=by
    apply Option.ext;intro c;rw [zan,zan];constructor
    ·rintro ⟨j,rj,rfl,h1,h2,h3⟩
     exact ⟨j,rj,rfl,h1,by rw [hall j (by rw [← hR.len];exact (List.getElem?_eq_some_iff.1 h1).1)];exact h2,h3⟩
    ·rintro ⟨j,rj,rfl,h1,h2,h3⟩
     exact ⟨j,rj,rfl,h1,by rw [hall j (by rw [← hR.len];exact (List.getElem?_eq_some_iff.1 h1).1)] at h2;exact h2,h3⟩
   rw [this] at hk;exact hk
  ·rcases hq with hq|⟨j,_,h2,_⟩
   ·exact .inl hq
   ·cases h2
theorem Run.all (hres:∀ q,w0.res q→q<n0) {fn:FuncId} {k:List Item} {ds:List Deferred} {ro:Option Nat} {N:Nat} (hdst:∀ (i:Nat) (o:Oper),ops[i]? = some o→∀ d,o.dst=some d→d<N) :
  ∀ (fuel t:Nat) (listed:Array Bool) (γ:G) (tmps:Array Value) (w:World),ROk γ w0 RO→listed.size=ops.size→Good A ops.size (fun j=>listed.getD j false)→((List.range ops.size).filter fun i=>!listed.getD i true).length≤fuel →
   TD γ ops T0 R (fun j=>listed.getD j false) tmps→tmps.size=N→HD γ w0 ops.size (fun j=>listed.getD j false) n0 R M0 w →
   ∃ γ' tmps' w',GLe γ γ'∧Steps P (lone (fram fn tmps (.inRegion ops (Region.linearise.go .any ops fuel t listed [])::k) ds ro) cs w) (lone (fram fn tmps' (.inRegion ops []::k) ds ro) cs w')∧TD γ' ops T0 R (fun _=>true) tmps'∧tmps'.size=N∧HD γ' w0 ops.size (fun _=>true) n0 R M0 w':=by
 intro fuel
 induction fuel with
 | zero=>
  intro t listed γ tmps w hRO hsz hg hc hT hN hH;have hall:∀ i,i<ops.size→listed.getD i false=true:=fun i hi=>by
   cases hD:listed.getD i false with
   | true=>rfl
   | false=>
    have hmem:i∈(List.range ops.size).filter fun i=>!listed.getD i true:=by
     rw [List.mem_filter];refine ⟨List.mem_range.2 hi,?_⟩;have h1:i<listed.size:=by omega
     simp [Array.getD,h1] at hD ⊢;exact hD
    have:0<((List.range ops.size).filter fun i=>!listed.getD i true).length:=List.length_pos_of_mem hmem;omega
  obtain ⟨f1,f2⟩:=hR.allD hall hT hH;exact ⟨γ,tmps,w,GLe.refl γ,by simp [Region.linearise.go];exact Steps.refl P _,f1,hN,f2⟩
 | succ fuel ih=>
  intro t listed γ tmps w hRO hsz hg hc hT hN hH;simp only [Region.linearise.go]
  change ∃ γ' tmps' w',GLe γ γ'∧Steps P (lone (fram fn tmps (.inRegion ops (match (Region.ready .any ops listed)[t%(Region.ready .any ops listed).length]? with
   | some i=>Region.linearise.go .any ops fuel (t/(Region.ready .any ops listed).length) (listed.setIfInBounds i true) [i]
   | none=>[].reverse)::k) ds ro) cs w) _∧_
  cases hi:(Region.ready .any ops listed)[t%(Region.ready .any ops listed).length]? with
  | none=>
   have hnil:Region.ready .any ops listed=[]:=by
    cases hr:Region.ready .any ops listed with
    | nil=>rfl
    | cons x xs=>
     rw [hr] at hi;have hlt:t%(x::xs).length<(x::xs).length:=Nat.mod_lt _ (by simp);simp at hi;simp at hlt;omega
   have hall:∀ i,i<ops.size→listed.getD i false=true:=fun i hi=>by
    cases hD:listed.getD i false with
    | true=>rfl
    | false=>
     obtain ⟨j,h1,h2,h3⟩:=zgp (D:=fun j=>listed.getD j false) i hD;have hj:j<ops.size:=by omega
     have hjl:j<listed.size:=by omega
     have:j∈Region.ready .any ops listed:=by
      unfold Region.ready;rw [List.mem_filter];refine ⟨List.mem_range.2 hj,?_⟩;have h2':listed.getD j true=false:=by
       simp [Array.getD,hjl] at h2 ⊢;exact h2
      rw [h2'];have ho:ops[j]? = some ops[j]:=by simp [hj]
      rw [ho];simp only [Bool.not_false,Option.map_some,Option.getD_some,Bool.true_and];rw [Array.all_eq_true'];intro e he
      by_cases hb:Region.binds .any e=true
      ·have:=h3 e.on (hR.st.lt j ops[j] ho e.on (by unfold deps;exact List.mem_map.2 ⟨e,List.mem_filter.2 ⟨by simpa using he,hb⟩,rfl⟩));have this:listed.getD e.on false=true:=this;rw [this];simp
      ·simp at hb;simp [hb]
     rw [hnil] at this;simp at this
   obtain ⟨f1,f2⟩:=hR.allD hall hT hH;exact ⟨γ,tmps,w,GLe.refl γ,Steps.refl P _,f1,hN,f2⟩
  | some i=>
   simp only [];rw [linearise_go_acc,List.reverse_singleton,List.singleton_append];have hmem:i∈Region.ready .any ops listed:=List.mem_of_getElem? hi;unfold Region.ready at hmem;rw [List.mem_filter] at hmem;obtain ⟨hm1,hm2⟩:=hmem;have hil:i<ops.size:=List.mem_range.1 hm1;have hil2:i<listed.size:=by omega
   have ho:ops[i]? = some ops[i]:=by simp [hil]
   rw [ho] at hm2;simp only [Option.map_some,Option.getD_some,Bool.and_eq_true] at hm2;obtain ⟨hm3,hm4⟩:=hm2;have hnD:listed.getD i false=false:=by
    simp [Array.getD,hil2] at hm3 ⊢;exact hm3
   have hdeps:∀ d∈deps ops[i],listed.getD d false=true:=fun d hd=>by
    unfold deps at hd;obtain ⟨e,he,rfl⟩:=List.mem_map.1 hd;obtain ⟨he1,he2⟩:=List.mem_filter.1 he;rw [Array.all_eq_true'] at hm4;have:=hm4 e (by simpa using he1);rw [he2] at this;simpa using this
   obtain ⟨γ1,tmps1,w1,hle1,hs1,hT1,hN1,hH1⟩:=hR.any (w:=w) (cs:=cs) (w0:=w0) hRO hres (fn:=fn) (rest:=Region.linearise.go .any ops fuel (t/(Region.ready .any ops listed).length) (listed.setIfInBounds i true) []) (k:=k) (ds:=ds) (ro:=ro) hg ho hnD hdeps hT hN (hdst i _ ho) hH ho (fun _ h=>h);have hins:(fun j=>(listed.setIfInBounds i true).getD j false)=ins (fun j=>listed.getD j false) i:=funext fun j=>by
    unfold ins
    by_cases e:j=i
    ·subst e;rw [if_pos rfl];simp [Array.getD,hil2]
    ·rw [if_neg e];exact zbt e
   have hg1:Good A ops.size (fun j=>(listed.setIfInBounds i true).getD j false):=by
    rw [hins];intro q hq hDq j hj;unfold ins at hDq ⊢
    by_cases e2:j=i
    ·rw [if_pos e2]
    ·rw [if_neg e2]
     by_cases e:q=i
     ·subst e;exact hR.st.sub hg ho hdeps j hj
     ·rw [if_neg e] at hDq;exact hg q hq hDq j hj
   have hc1:((List.range ops.size).filter fun j=>!(listed.setIfInBounds i true).getD j true).length≤fuel:=by
    have:=zfw (p:=fun j=>!listed.getD j true) (p':=fun j=>!(listed.setIfInBounds i true).getD j true) (i:=i) (fun x hx=>by
     by_cases e:x=i
     ·subst e;exact hm3
     ·simp only [zbt e] at hx;exact hx) hm3 (by simp [Array.getD,hil2]) hm1
    omega
   obtain ⟨γ2,tmps2,w2,hle2,hs2,hT2,hN2,hH2⟩:=ih (t/(Region.ready .any ops listed).length) (listed.setIfInBounds i true) γ1 tmps1 w1 (hRO.mono hle1) (by simp [hsz]) hg1 hc1 (by rw [hins];exact hT1) hN1 (by rw [hins];exact hH1);exact ⟨γ2,tmps2,w2,hle1.trans hle2,hs1.trans hs2,hT2,hN2,hH2⟩
end
end
section
open Go.RowKit
variable {P:Program} {γ γ':G} {w0:Bs} {w:World} {H H':Tr EK} {n n':Nat} {T T0:Tr EV} {cs:List Frame} {fid:FuncId} {FT:Tr FI} {o:Oper}
def tabT (ops:Array Oper) (T:Tr EV) (o:Oper):Tr EV:=restr (fun s=>T.get s) (looks ops o)
theorem zfi {f g:Nat→Option EV}:∀ {l:List Nat},(∀ s∈l,f s=g s)→restr f l=restr g l
 | [],_=>rfl
 | s::l,h=>by
  show bc (Nat.ble s 65535) (match f s with
   | some a=>(restr f l).put s (some a)
   | none=>restr f l) (restr f l)=bc (Nat.ble s 65535) (match g s with
   | some a=>(restr g l).put s (some a)
   | none=>restr g l) (restr g l)
  rw [h s (by simp),zfi (l:=l) fun t ht=>h t (by simp [ht])]
def exRecT (P:Program) (fr:FrF) (lo:LF) (q:QF) (ops:Array Oper) (Ti:Tr EV) (A:List Nat) (n0:Nat) (V:Tr EK) (i:Nat) (o:Oper) (M:Mm):Option Rec:=match exGuard Ti ops o with
 | some false=>some ⟨.v undef,false,M,none,false,none⟩
 | some true=>match fr Ti o (Nat.add n0 i) with
  | some (a,c)=>some (recFr M a c)
  | none=>match exIns P Ti o n0 with
   | some u=>some ⟨.v undef,false,M,none,false,some u⟩
   | none=>match q Ti o V M.n with
    | some a=>some ⟨a,false,M,none,false,none⟩
    | none=>match lo Ti o V M.n with
     | some (a,H,n)=>some ⟨a,true,⟨H,n,atA A i⟩,none,false,none⟩
     | none=>none
 | none=>none
theorem zvr {fr:FrF} {lo:LF} {q:QF} {ops:Array Oper} {A:List Nat} {n0:Nat} {R:List Rec} {i:Nat} {M:Mm}:exRec P fr lo q ops A T0 n0 R i o M=exRecT P fr lo q ops (tabAt ops A T0 R i o) A n0 (vis A n0 R i M) i o M:=rfl
def frl:List Rec→Nat→List (Nat×EK)
 | [],_=>[]
 | r::R,k=>match r.Fr with
  | some c=>(k,c)::frl R (k+1)
  | none=>frl R (k+1)
def frF (D:Nat→Bool) (n0:Nat) (Fl:List (Nat×EK)):Tr EK→Tr EK:=List.rec (fun H=>H) (fun p _ ih H=>ih (bc (D p.1) (H.put (Nat.add n0 p.1) (some p.2)) H)) Fl
theorem zgm {D:Nat→Bool} {n0:Nat}:∀ {R:List Rec} {k:Nat} {H:Tr EK},frF D n0 (frl R k) H=frT D n0 R k H
 | [],k,H=>rfl
 | r::R,k,H=>by
  have e:frT D n0 (r::R) k H=frT D n0 R (k+1) (match r.Fr with
   | some c=>bc (D k) (H.put (n0+k) (some c)) H
   | none=>H):=rfl
  rw [e];unfold frl
  cases hr:r.Fr with
  | none=>exact zgm
  | some c=>exact zgm (R:=R) (k:=k+1) (H:=bc (D k) (H.put (n0+k) (some c)) H)
theorem zly {D:Nat→Bool} {n0:Nat}:∀ {R:List Rec} {k:Nat} {H:Tr EK},(∀ j,k≤j→D j=false)→frT D n0 R k H=H
 | [],k,H,_=>rfl
 | r::R,k,H,h=>by
  have e:frT D n0 (r::R) k H=frT D n0 R (k+1) (match r.Fr with
   | some c=>bc (D k) (H.put (n0+k) (some c)) H
   | none=>H):=rfl
  rw [e,zly fun j hj=>h j (by omega)]
  cases r.Fr with
  | none=>rfl
  | some c=>simp only [h k (Nat.le_refl _)];rfl
theorem zlx {D:Nat→Bool} {n0:Nat}:∀ {R:List Rec} {m k:Nat} {H:Tr EK},(∀ j,k+m≤j→D j=false)→frT D n0 (R.take m) k H=frT D n0 R k H
 | [],m,k,H,_=>by simp
 | r::R,0,k,H,h=>by
  rw [List.take_zero,zly (R:=r::R) (fun j hj=>h j (by omega))];rfl
 | r::R,m+1,k,H,h=>by
  rw [List.take_succ_cons];have e:∀ R:List Rec,frT D n0 (r::R) k H=frT D n0 R (k+1) (match r.Fr with
   | some c=>bc (D k) (H.put (n0+k) (some c)) H
   | none=>H):=fun _=>rfl
  rw [e,e];exact zlx fun j hj=>h j (by omega)
theorem zlw:∀ {R:List Rec} {r:Rec} {k:Nat},frl (R++[r]) k=frl R k++(match r.Fr with
  | some c=>[(k+R.length,c)]
  | none=>[])
 | [],r,k=>by
  simp only [List.nil_append,frl,List.length_nil,Nat.add_zero]
 | q::R,r,k=>by
  have ih:=zlw (R:=R) (r:=r) (k:=k+1);rw [show k+1+R.length=k+(q::R).length by simp;omega] at ih;rw [List.cons_append];unfold frl
  cases q.Fr with
  | none=>exact ih
  | some c=>simp only [ih,List.cons_append]
def visF (A:List Nat) (n0:Nat) (Fl:List (Nat×EK)) (i:Nat) (M:Mm):Tr EK:=frF (fun j=>bc (tb M.a j) false (tb (atA A i) j)) n0 Fl M.H
theorem zjq {A:List Nat} {n0:Nat} {R:List Rec} {i:Nat} {M:Mm}:visF A n0 (frl R 0) i M=vis A n0 R i M:=zgm
theorem zk6 {ops:Array Oper} {A:List Nat} {n0:Nat} {R:List Rec} {i:Nat} {M:Mm} (hst:Stat ops A) (ho:ops[i]? = some o):vis A n0 (R.take i) i M=vis A n0 R i M:=by
 unfold vis;refine zlx fun j hj=>?_;have:tb (atA A i) j=false:=by
  cases e:tb (atA A i) j with
  | false=>rfl
  | true=>have:=hst.below i o ho j e;omega
 rw [this,bc_eq];split <;> rfl
def revA {α:Type} (l:List α):List α→List α:=List.rec (fun acc=>acc) (fun a _ ih acc=>ih (a::acc)) l
theorem zhc {α:Type}:∀ (l acc:List α),revA l acc=l.reverse++acc
 | [],acc=>rfl
 | a::l,acc=>by
  show revA l (a::acc)=_;rw [zhc l];simp
structure CF where
 R:List Rec
 T:Tr EV
 Ts:List (Tr EV)
 Fl:List (Nat×EK)
 Vs:List (Tr EK×Nat)
def addFr (Fl:List (Nat×EK)) (i:Nat) (c:Option EK):List (Nat×EK):=match c with
 | some c=>Fl++[(i,c)]
 | none=>Fl
def canonF (P:Program) (fr:FrF) (lo:LF) (q:QF) (ops:Array Oper) (A:List Nat) (n0 N:Nat) (l:List Oper):Nat→List Rec→List (Nat×EK)→Mm→Tr EV→List (Tr EV)→List (Tr EK×Nat)→Option CF:=List.rec (fun _ Rr Fl _ T Tr Vr=>some ⟨revA Rr [],T,revA Tr [],Fl,revA Vr []⟩) (fun o _ ih i Rr Fl M T Tr Vr=>match exRecT P fr lo q ops (tabT ops T o) A n0 (visF A n0 Fl i M) i o M with
 | some r=>match setD T N o.dst r.V with
  | some T'=>ih (Nat.succ i) (r::Rr) (addFr Fl i r.Fr) r.M T' (tabT ops T o::Tr) ((visF A n0 Fl i M,M.n)::Vr)
  | none=>none
 | none=>none) l
theorem zr6 {T':Tr EV} {N:Nat} {d:Option Tmp} {a:EV} (h:setD T N d a=some T'):(∀ s,T'.get s=if d=some s then some a else T.get s)∧∀ t,d=some t→t<N:=by
 unfold setD at h;split at h
 ·injection h with h;subst h
  exact ⟨fun s=>by simp,fun t e=>by cases e⟩
 ·rename_i d;rw [bc_eq,bc_eq] at h;split at h
  case isFalse=>cases h
  rename_i h1;split at h
  case isFalse=>cases h
  rename_i h2;injection h with h;subst h
  refine ⟨fun s=>?_,fun t e=>by injection e with e;subst e;exact zad h1⟩
  rw [Tr.get_put h2]
  by_cases e:s=d
  ·subst e;simp
  ·rw [if_neg e,if_neg (fun e2=>e (by injection e2 with e2;exact e2.symm))]
theorem zky {α β:Type}:∀ {l:List α} {R:List β} {a:α} {b:β},l[R.length]? = some a→l.zip (R++[b])=l.zip R++[(a,b)]
 | [],R,a,b,h=>by simp at h
 | x::l,[],a,b,h=>by simp at h;subst h;simp
 | x::l,y::R,a,b,h=>by
  have:=zky (l:=l) (R:=R) (a:=a) (b:=b) (by simpa using h);simp [this]
theorem zea {fr:FrF} {lo:LF} {q:QF} {ops:Array Oper} {A:List Nat} {n0 N:Nat} (hst:Stat ops A):∀ {l:List Oper} {R:List Rec} {M:Mm} {T:Tr EV} {Ts:List (Tr EV)} {Vs:List (Tr EK×Nat)} {c:CF},canonF P fr lo q ops A n0 N l R.length R.reverse (frl R 0) M T Ts.reverse Vs.reverse=some c→∀ M0:Mm,M=memAt M0 R R.length→Vs.length=R.length →
  (∀ j o,l[j]? = some o→ops[R.length+j]? = some o)→(∀ s,T.get s=lw (fun _=>true) s (ops.toList.zip R) 0 (T0.get s))→Ts.length=R.length →
  canon P fr lo q ops A T0 n0 l R.length R M=some c.R∧(∀ s,c.T.get s=lw (fun _=>true) s (ops.toList.zip c.R) 0 (T0.get s))∧(∀ o∈l,∀ d,o.dst=some d→d<N)∧(∀ j,j<R.length→c.R[j]? = R[j]? ∧ c.Ts[j]? = Ts[j]?) ∧
   (∀ j o,l[j]? = some o→c.Ts[R.length+j]? = some (tabAt ops A T0 (c.R.take (R.length+j)) (R.length+j) o))∧c.Fl=frl c.R 0∧(∀ j,j<R.length→c.Vs[j]? = Vs[j]?)∧∀ j o,l[j]? = some o→c.Vs[R.length+j]? = some (vis A n0 (c.R.take (R.length+j)) (R.length+j) (memAt M0 c.R (R.length+j)),(memAt M0 c.R (R.length+j)).n)
 | [],R,M,T,Ts,Vs,c,h,M0,hM,hvl,_,hT,_=>by
  have h':some (⟨revA R.reverse [],T,revA Ts.reverse [],frl R 0,revA Vs.reverse []⟩:CF)=some c:=h;rw [zhc,zhc,zhc,List.reverse_reverse,List.reverse_reverse,List.reverse_reverse,List.append_nil,List.append_nil,List.append_nil] at h';injection h' with h';subst h'
  exact ⟨rfl,hT,fun o ho=>by simp at ho,fun _ _=>⟨rfl,rfl⟩,fun j o hj=>by simp at hj,rfl,fun _ _=>rfl,fun j o hj=>by simp at hj⟩
 | o::l,R,M,T,Ts,Vs,c,h,M0,hM,hvl,hl,hT,hlen=>by
  have h':(match exRecT P fr lo q ops (tabT ops T o) A n0 (visF A n0 (frl R 0) R.length M) R.length o M with
   | some r=>match setD T N o.dst r.V with
    | some T'=>canonF P fr lo q ops A n0 N l (R.length+1) (r::R.reverse) (addFr (frl R 0) R.length r.Fr) r.M T' (tabT ops T o::Ts.reverse) ((visF A n0 (frl R 0) R.length M,M.n)::Vs.reverse)
    | none=>none
   | none=>none)=some c:=h
  rw [zjq] at h';have ho:ops[R.length]? = some o:=by simpa using hl 0 o rfl
  -- the operation's own slots
  have htab:tabT ops T o=tabAt ops A T0 R R.length o:=by
   unfold tabT tabAt;refine zfi fun s hs=>?_;rw [hT s];refine zd5 fun j p hj hd=>?_;obtain ⟨h1,h2⟩:=zdl.1 hj;have hjl:j<R.length:=(List.getElem?_eq_some_iff.1 h2).1;rw [Nat.zero_add];rcases hst.slot R.length o ho s hs j p.1 h1 hd with h3|h3|h3
   ·exact h3.symm
   ·have:=hst.below j p.1 h1 _ h3;omega
   ·omega
  rw [htab] at h';split at h'
  case h_2=>cases h'
  rename_i r hr;split at h'
  case h_2=>cases h'
  rename_i T' hT';obtain ⟨g1,g2⟩:=zr6 hT';have hlen2:(R++[r]).length=R.length+1:=by simp
  have hfl:addFr (frl R 0) R.length r.Fr=frl (R++[r]) 0:=by
   rw [zlw];unfold addFr
   cases r.Fr with
   | none=>simp
   | some c=>simp
  rw [hfl,show r::R.reverse=(R++[r]).reverse by simp,show tabAt ops A T0 R R.length o::Ts.reverse=(Ts++[tabAt ops A T0 R R.length o]).reverse by simp,show (vis A n0 R R.length M,M.n)::Vs.reverse=(Vs++[(vis A n0 R R.length M,M.n)]).reverse by simp,← hlen2] at h';have hz:ops.toList.zip (R++[r])=ops.toList.zip R++[(o,r)]:=zky (by simpa using ho);obtain ⟨k1,k2,k3,k4,k5,k6,k7,k8⟩:=zea hst h' M0 (by rw [hlen2];simp [memAt]) (by simp [hvl]) (fun j o' hj=>by
   have:=hl (j+1) o' (by simpa using hj)
   rwa [hlen2,show R.length+1+j=R.length+(j+1) by omega]) (fun s=>by
   rw [g1,hz,zd6,hT];rw [zdp]
   by_cases e:o.dst=some s
   ·rw [if_pos e,if_pos ⟨rfl,e⟩];rfl
   ·rw [if_neg e,if_neg (fun x=>e x.2)];rfl) (by simp [hlen])
  have htake:c.R.take R.length=R:=by
   apply List.ext_getElem?;intro j;rw [List.getElem?_take]
   by_cases hj:j<R.length
   ·rw [if_pos hj,(k4 j (by omega)).1,List.getElem?_append_left hj]
   ·rw [if_neg hj];simp;omega
  have hmem:memAt M0 c.R R.length=M:=by
   rw [hM]
   cases hl:R.length with
   | zero=>rfl
   | succ q=>simp only [memAt];rw [(k4 q (by omega)).1,List.getElem?_append_left (by omega)]
  refine ⟨?_,k2,fun o' ho' d hd=>?_,fun j hj=>?_,fun j o' hj=>?_,k6,fun j hj=>?_,fun j o' hj=>?_⟩
  rotate_right
  ·cases j with
   | zero=>
    have q2:=k7 R.length (by omega);rw [List.getElem?_append_right (by omega),hvl,Nat.sub_self] at q2;simp only [Nat.add_zero];rw [q2,htake,hmem];rfl
   | succ j=>
    have:=k8 j o' (by simpa using hj)
    rwa [hlen2,show R.length+1+j=R.length+(j+1) by omega] at this
  rotate_right
  ·have q2:=k7 j (by omega)
   rwa [List.getElem?_append_left (by omega)] at q2
  ·show (match exRec P fr lo q ops A T0 n0 R R.length o M with
    | some r=>canon P fr lo q ops A T0 n0 l (R.length+1) (R++[r]) r.M
    | none=>none)=some c.R
   rw [zvr,hr];simp only;rw [← hlen2];exact k1
  ·rcases List.mem_cons.1 ho' with rfl|ho'
   ·exact g2 d hd
   ·exact k3 o' ho' d hd
  ·obtain ⟨q1,q2⟩:=k4 j (by omega);rw [List.getElem?_append_left hj] at q1;rw [List.getElem?_append_left (by omega)] at q2;exact ⟨q1,q2⟩
  ·cases j with
   | zero=>
    simp at hj;subst hj;obtain ⟨_,q2⟩:=k4 R.length (by omega);rw [List.getElem?_append_right (by omega),hlen,Nat.sub_self] at q2;simp only [Nat.add_zero];rw [q2];have htake:c.R.take R.length=R:=by
     apply List.ext_getElem?;intro j;rw [List.getElem?_take]
     by_cases hj:j<R.length
     ·rw [if_pos hj,(k4 j (by omega)).1,List.getElem?_append_left hj]
     ·rw [if_neg hj];simp;omega
    rw [htake];rfl
   | succ j=>
    have:=k5 j o' (by simpa using hj)
    rwa [hlen2,show R.length+1+j=R.length+(j+1) by omega] at this
end
section
open Go.RowKit
variable {P:Program} {γ γ':G} {w0:Bs} {w:World} {H H':Tr EK} {n n':Nat} {T T0:Tr EV} {cs:List Frame} {fid:FuncId} {FT:Tr FI} {o:Oper}
def loudIdx (R:List Rec):Nat→List Nat:=List.rec (fun _=>[]) (fun r _ ih k=>bc r.L (k::ih (Nat.succ k)) (ih (Nat.succ k))) R
theorem zfs:∀ {R:List Rec} {k i:Nat},i∈loudIdx R k↔∃ j r,i=k+j∧R[j]? = some r∧r.L=true
 | [],k,i=>by simp [loudIdx]
 | p::R,k,i=>by
  have e:loudIdx (p::R) k=bc p.L (k::loudIdx R (k+1)) (loudIdx R (k+1)):=rfl;have ih:=@zfs R (k+1) i;rw [e,bc_eq];constructor
  ·intro h
   by_cases hp:p.L=true
   ·rw [if_pos hp] at h;rcases List.mem_cons.1 h with rfl|h
    ·exact ⟨0,p,rfl,rfl,hp⟩
    ·obtain ⟨j,r,h1,h2,h3⟩:=ih.1 h;exact ⟨j+1,r,by omega,by simpa using h2,h3⟩
   ·rw [if_neg hp] at h;obtain ⟨j,r,h1,h2,h3⟩:=ih.1 h;exact ⟨j+1,r,by omega,by simpa using h2,h3⟩
  ·rintro ⟨j,r,h1,h2,h3⟩
   cases j with
   | zero=>
    simp at h2;subst h2;rw [if_pos h3];simp [h1]
   | succ j=>
    have:=ih.2 ⟨j,r,by omega,by simpa using h2,h3⟩
    by_cases hp:p.L=true
    ·rw [if_pos hp];simp [this]
    ·rw [if_neg hp];exact this
def anyL {α:Type} (f:α→Bool) (l:List α):Bool:=List.rec false (fun a _ ih=>bc (f a) true ih) l
theorem zif {α:Type} {f:α→Bool}:∀ {l:List α},anyL f l=true→∃ a∈l,f a=true
 | [],h=>by cases h
 | b::l,h=>by
  have h':bc (f b) true (anyL f l)=true:=h;rw [bc_eq] at h';split at h'
  ·rename_i hf;exact ⟨b,by simp,hf⟩
  ·obtain ⟨a,ha,hf⟩:=zif h';exact ⟨a,by simp [ha],hf⟩
def eqQ (x:Option EV) (v:EV):Bool:=match x with
 | some a=>eqE 12 a v
 | none=>false
theorem zp7 {x:Option EV} {v:EV} (h:eqQ x v=true):x=some v:=by
 unfold eqQ at h;split at h
 ·rw [zl4 12 _ _ h]
 ·cases h
def memOf (R:List Rec) (q:Nat):Mm:=match lget R q with
 | some r=>r.M
 | none=>⟨.nil,0,0⟩
def memless:Op→Bool
 | .move _ | .assign _ | .pick _ _ _ | .build _ _ | .nilCheck _ | .binOp _ _ _ _ _ | .unOp _ _ _ | .makeFunc _ _ _ | .fieldAddr _ _ _ | .field _ _ _ | .indexAddr _ _ _ | .index _ _ _ | .extract _ _=>true
 | _=>false
def evOf (e:Option ER):Option EV:=match e with
 | some er=>er.val
 | none=>none
theorem zp6 {a:Option EV}:evOf (keep a H n)=a:=by
 unfold keep evOf;cases a <;> rfl
def orV (a:Option EV) (b:Option Value):Option EV:=match a with
 | some x=>some x
 | none=>b.map .v
theorem zf2 {a:Option EV}:evOf (orPure (keep a H n) P T o H n)=orV a (exPure P T o):=by
 unfold orPure keep evOf orV
 cases a with
 | some x=>rfl
 | none=>
  simp only;cases exPure P T o <;> rfl
theorem zkk:evOf (orPure none P T o H n)=orV none (exPure P T o):=by
 unfold orPure evOf orV;simp only;cases exPure P T o <;> rfl
theorem zfz (hm:memless o.op=true):exQ P T o H n=exQ P T o H' n':=by
 have hb:∀ H n,isToB P T o H n=false:=fun H n=>by
  unfold isToB;cases hop:o.op <;> first|rfl|(rw [hop] at hm;cases hm)
 show bc (isToB P T o H n) none (evOf (exOp P T o H n))=bc (isToB P T o H' n') none (evOf (exOp P T o H' n'));rw [hb,hb];show evOf (exOp P T o H n)=evOf (exOp P T o H' n');rw [zh3,zh3];unfold exOp0;cases hop:o.op <;> rw [hop] at hm <;> first|(cases hm;done)|skip
 all_goals first
  | (simp only [zp6,zf2,zkk];done)
  | (rename_i op t x y t';simp only [];cases exBin T op x y <;> simp only [zf2])
abbrev CK:=Tr EV→Oper→Tr EK→Nat→EV→Bool
def chkQ (q:CK) (A:List Nat) (n0:Nat) (Fl:List (Nat×EK)) (M0:Mm) (R:List Rec) (louds:List Nat) (i:Nat) (o:Oper) (Ti:Tr EV) (v:EV):Bool:=
 bc (bor (allL (fun l=>Nat.ble i l) louds) (bor (anyL (fun l=>tb (atA A i) l) louds) (q Ti o (visF A n0 Fl i M0) M0.n v)))
  (allL (fun z=>bor (bc (Nat.blt z i) (allL (fun l=>bor (Nat.ble l z) (Nat.ble i l)) louds) false) (bor (tb (atA A z) i) (bor (anyL (fun l=>bc (Nat.blt z l) (tb (atA A i) l) false) louds) (q Ti o (visF A n0 Fl i (memOf R z)) (memOf R z).n v)))) louds) false
def qk:Op→Bool
 | .call c=>match c.callee with
  | .builtin b=>quietB b
  | _=>true
 | o=>quiet o
def chk1 (ml:Tr EV→Oper→Bool) (q:CK) (ops:Array Oper) (A:List Nat) (n0:Nat) (Fl:List (Nat×EK)) (M0:Mm) (R:List Rec) (louds:List Nat) (i:Nat) (o:Oper) (r:Rec) (Ti:Tr EV):Bool:=
 bc (qk o.op) (bc r.L true (bc (ml Ti o) true (match exGuard Ti ops o with
  | some true=>chkQ q A n0 Fl M0 R louds i o Ti r.V
  | _=>true))) true
def chkLoop (ml:Tr EV→Oper→Bool) (q:CK) (ops:Array Oper) (A:List Nat) (n0:Nat) (Fl:List (Nat×EK)) (M0:Mm) (R:List Rec) (louds:List Nat) (l:List Oper):Nat→List Rec→List (Tr EV)→Bool:=List.rec (fun _ _ _=>true) (fun o _ ih i Rs Ts=>match Rs with
 | r::Rs=>match Ts with
  | Ti::Ts=>bc (chk1 ml q ops A n0 Fl M0 R louds i o r Ti) (ih (Nat.succ i) Rs Ts) false
  | []=>false
 | []=>false) l
theorem zgw {ml:Tr EV→Oper→Bool} {q:CK} {ops:Array Oper} {A:List Nat} {n0:Nat} {Fl:List (Nat×EK)} {M0:Mm} {R:List Rec} {louds:List Nat}:∀ {l:List Oper} {i:Nat} {Rs:List Rec} {Ts:List (Tr EV)},chkLoop ml q ops A n0 Fl M0 R louds l i Rs Ts=true →
  ∀ j o r Ti,l[j]? = some o→Rs[j]? = some r→Ts[j]? = some Ti→chk1 ml q ops A n0 Fl M0 R louds (i+j) o r Ti=true
 | [],i,Rs,Ts,_,j,o,r,Ti,h1,_,_=>by simp at h1
 | b::l,i,[],Ts,_,j,o,r,Ti,_,h2,_=>by simp at h2
 | b::l,i,r0::Rs,[],_,j,o,r,Ti,_,_,h3=>by simp at h3
 | b::l,i,r0::Rs,T1::Ts,h,j,o,r,Ti,h1,h2,h3=>by
  have h':bc (chk1 ml q ops A n0 Fl M0 R louds i b r0 T1) (chkLoop ml q ops A n0 Fl M0 R louds l (i+1) Rs Ts) false=true:=h;rw [bc_eq] at h';split at h'
  case isFalse=>cases h'
  rename_i hc
  cases j with
  | zero=>simp at h1 h2 h3;subst h1;subst h2;subst h3;exact hc
  | succ j=>
   have:=zgw h' j o r Ti (by simpa using h1) (by simpa using h2) (by simpa using h3)
   rwa [show i+1+j=i+(j+1) by omega] at this
def chkAll (ml:Tr EV→Oper→Bool) (q:CK) (ops:Array Oper) (A:List Nat) (n0:Nat) (Fl:List (Nat×EK)) (M0:Mm) (R:List Rec) (Ts:List (Tr EV)) (louds:List Nat):Bool:=match louds with
 | []=>true
 | _=>chkLoop ml q ops A n0 Fl M0 R louds ops.toList 0 R Ts
def loudB (A:List Nat) (louds:List Nat):Bool:=allL (fun i=>allL (fun j=>bor (Nat.ble i j) (tb (atA A i) j)) louds) louds
def noEK (x:Option EK):Bool:=match x with
 | none=>true
 | _=>false
theorem zhn {x:Option EK} (h:noEK x=true):x=none:=by
 cases x with
 | none=>rfl
 | some c=>cases h
def bnot (b:Bool):Bool:=bc b false true
theorem zkt {b:Bool} (h:bnot b=true):b=false:=by cases b with
 | true=>cases h
 | false=>rfl
def apart (d:TypeDesc) (k:Value) (jm i:Nat) (R:List Rec):Nat→Bool:=List.rec (fun _=>true) (fun p _ ih z=>match p.In with
 | some (j',_,k',_)=>bc (Nat.beq j' jm) (bc (isKeyB d k') (bc (bor (Nat.beq z i) (bnot (kEq d k k'))) (ih (Nat.succ z)) false) false) (ih (Nat.succ z))
 | none=>ih (Nat.succ z)) R
theorem zmh {d:TypeDesc} {k:Value} {jm i:Nat}:∀ {R:List Rec} {z0:Nat},apart d k jm i R z0=true→∀ (z:Nat) (rz:Rec) (d':TypeDesc) (k':Value) (a':EV),R[z]? = some rz→rz.In=some (jm,d',k',a')→isKeyB d k'=true∧(z0+z≠i→kEq d k k'=false)
 | [],z0,_,z,rz,d',k',a',h,_=>by simp at h
 | p::R,z0,h,z,rz,d',k',a',hz,hin=>by
  have h':(match p.In with
   | some (j',_,k',_)=>bc (Nat.beq j' jm) (bc (isKeyB d k') (bc (bor (Nat.beq z0 i) (bnot (kEq d k k'))) (apart d k jm i R (z0+1)) false) false) (apart d k jm i R (z0+1))
   | none=>apart d k jm i R (z0+1))=true:=h
  have rest:apart d k jm i R (z0+1)=true:=by
   split at h'
   ·rw [bc_eq,bc_eq,bc_eq] at h';split at h'
    ·split at h'
     ·split at h'
      ·exact h'
      ·cases h'
     ·cases h'
    ·exact h'
   ·exact h'
  cases z with
  | succ z=>
   have:=zmh rest z rz d' k' a' (by simpa using hz) hin
   rwa [show z0+1+z=z0+(z+1) by omega] at this
  | zero=>
   simp at hz;subst hz;rw [hin] at h';simp only [bc_eq,Nat.beq_refl] at h';rw [if_pos trivial] at h';split at h'
   case isFalse=>cases h'
   rename_i hk;split at h'
   case isFalse=>cases h'
   rename_i hb;refine ⟨hk,fun hne=>?_⟩;rcases zbp.1 hb with h1|h1
   ·exact absurd (Nat.eq_of_beq_eq_true h1) (by omega)
   ·exact zkt h1
def isMpAt (R:List Rec) (j:Nat):Bool:=match lget R j with
 | some r=>r.Mp
 | none=>false
def chkFr (A:List Nat) (n0:Nat) (M0:Mm) (R:List Rec) (louds:List Nat) (j:Nat) (r:Rec):Bool:=match r.Fr with
 | some _=>bc (noEK (M0.H.get (Nat.add n0 j))) (allL (fun q=>bor (tb (atA A q) j) (noEK ((memOf R q).H.get (Nat.add n0 j)))) louds) false
 | none=>true
def chkMp (n0:Nat) (M0:Mm) (R:List Rec) (louds:List Nat) (j:Nat) (r:Rec):Bool:=bc r.Mp (bc (noEK (M0.H.get (Nat.add n0 j))) (allL (fun q=>noEK ((memOf R q).H.get (Nat.add n0 j))) louds) false) true
def chkIn (A:List Nat) (R:List Rec) (j:Nat) (r:Rec):Bool:=match r.In with
 | some (jm,d,k,_)=>bc (isMpAt R jm) (bc (tb (atA A j) jm) (apart d k jm j R 0) false) false
 | none=>true
def chkFree (A:List Nat) (n0:Nat) (M0:Mm) (R:List Rec) (louds:List Nat):Bool:=allI (llen R) fun j=>match lget R j with
 | some r=>bc (chkFr A n0 M0 R louds j r) (bc (chkMp n0 M0 R louds j r) (chkIn A R j r) false) false
 | none=>true
theorem ze0 {A:List Nat} {n0:Nat} {M0:Mm} {R:List Rec} {louds:List Nat} (h:chkFree A n0 M0 R louds=true) {j:Nat} {r:Rec} (hr:R[j]? = some r):chkFr A n0 M0 R louds j r=true∧chkMp n0 M0 R louds j r=true∧chkIn A R j r=true:=by
 have hj:j<R.length:=(List.getElem?_eq_some_iff.1 hr).1;have:=zig h j (by rw [zac];exact hj);rw [zai,hr] at this;simp only [bc_eq] at this;split at this
 case isFalse=>cases this
 rename_i h1;split at this
 case isFalse=>cases this
 rename_i h2;exact ⟨h1,h2,this⟩
theorem zoj {ml:Tr EV→Oper→Bool} {fr:FrF} {lo:LF} {q:QF} {q0:CK} {RO:Tr (TypeId×SyC)} {ops:Array Oper} {A:List Nat} {n0:Nat} {M0:Mm} {R:List Rec} (hs:statB ops A=true) (hc:canon P fr lo q ops A T0 n0 ops.toList 0 [] M0=some R) (hl:loudB A (loudIdx R 0)=true) {Ts:List (Tr EV)} (hq:chkAll ml q0 ops A n0 (frl R 0) M0 R Ts (loudIdx R 0)=true) (hTs:∀ i o,ops[i]? = some o→Ts[i]? = some (tabAt ops A T0 (R.take i) i o))
  (hsf:∀ (i:Nat) (o:Oper),ops[i]? = some o→exGuard (tabAt ops A T0 (R.take i) i o) ops o=some true→∀ a k,fr (tabAt ops A T0 (R.take i) i o) o (n0+i)=some (a,k)→FrSnd P (tabAt ops A T0 (R.take i) i o) o (n0+i) a k)
  (hqk:∀ T o H n a,q T o H n=some a→qk o.op=true)
  (hsq:∀ (i:Nat) (o:Oper),ops[i]? = some o→exGuard (tabAt ops A T0 (R.take i) i o) ops o=some true→fr (tabAt ops A T0 (R.take i) i o) o (n0+i)=none→∀ a,q (tabAt ops A T0 (R.take i) i o) o (vis A n0 (R.take i) i (memAt M0 R i)) (memAt M0 R i).n=some a→SndL P RO (tabAt ops A T0 (R.take i) i o) o (vis A n0 (R.take i) i (memAt M0 R i)) (memAt M0 R i).n a (vis A n0 (R.take i) i (memAt M0 R i)) (memAt M0 R i).n∧(ml (tabAt ops A T0 (R.take i) i o) o=true→∀ H n,SndL P RO (tabAt ops A T0 (R.take i) i o) o H n a H n))
  (hs0:∀ (i:Nat) (o:Oper),ops[i]? = some o→exGuard (tabAt ops A T0 (R.take i) i o) ops o=some true→∀ H n a,q0 (tabAt ops A T0 (R.take i) i o) o H n a=true→qk o.op=true→SndL P RO (tabAt ops A T0 (R.take i) i o) o H n a H n)
  (hsl:∀ (i:Nat) (o:Oper),ops[i]? = some o→exGuard (tabAt ops A T0 (R.take i) i o) ops o=some true→fr (tabAt ops A T0 (R.take i) i o) o (n0+i)=none→q (tabAt ops A T0 (R.take i) i o) o (vis A n0 (R.take i) i (memAt M0 R i)) (memAt M0 R i).n=none→∀ a H' n',lo (tabAt ops A T0 (R.take i) i o) o (vis A n0 (R.take i) i (memAt M0 R i)) (memAt M0 R i).n=some (a,H',n')→SndL P RO (tabAt ops A T0 (R.take i) i o) o (vis A n0 (R.take i) i (memAt M0 R i)) (memAt M0 R i).n a H' n')
  (hf:chkFree A n0 M0 R (loudIdx R 0)=true) (ha:M0.a=0) (hroom:n0+ops.size≤65536):Run P fr lo q RO ops A T0 n0 M0 R:=by
 have hst:=zdx hs;obtain ⟨h1,_,h3⟩:=zme (M0:=M0) (R:=[]) hc rfl;have hlen:R.length=ops.size:=by simpa using h1
 have hstep:∀ i o,ops[i]? = some o→∃ r,R[i]? = some r∧exRec P fr lo q ops A T0 n0 (R.take i) i o (memAt M0 R i)=some r:=fun i o ho=>by
  have:=h3 i o (by simpa using ho);simpa using this
 have mem:∀ {i:Nat},i∈loudIdx R 0↔∃ r,R[i]? = some r∧r.L=true:=fun {i}=>by
  rw [zfs];constructor
  ·rintro ⟨j,r,h1,h2,h3⟩;rw [Nat.zero_add] at h1;subst h1;exact ⟨r,h2,h3⟩
  ·rintro ⟨r,h2,h3⟩;exact ⟨i,r,by omega,h2,h3⟩
 have hloud:∀ i j ri rj,j<i→R[i]? = some ri→R[j]? = some rj→ri.L=true→rj.L=true→tb (atA A i) j=true:=fun i j ri rj hji hi hj hli hlj=>by
  have:=zak (zak hl i (mem.2 ⟨ri,hi,hli⟩)) j (mem.2 ⟨rj,hj,hlj⟩);rcases zbp.1 this with h|h
  ·have:=Nat.le_of_ble_eq_true h;omega
  ·exact h
 -- the memory before an operation,without the last field
 have hmem:∀ i,i≤ops.size→memAt M0 R i=md (fun j=>decide (j<i)) R 0 M0:=fun i=>by
  induction i with
  | zero=>intro _;rw [zb4 (fun j p _ _=>by simp)];rfl
  | succ i ih=>
   intro hi;have hlt:i<ops.size:=by omega
   obtain ⟨r,hr,hx⟩:=hstep i ops[i] (by simp [hlt]);have e0:memAt M0 R (i+1)=r.M:=by simp [memAt,hr]
   rw [e0]
   by_cases hl:r.L=true
   ·exact (zln hr hl (fun j rj hj _ _=>by simp;omega) (by simp)).symm
   ·have hl:r.L=false:=by simpa using hl
    rw [zfy hx hl,ih (by omega)];refine zde fun j p hj hp=>?_
    by_cases e:j=i
    ·subst e;rw [hr] at hj;injection hj with hj;subst hj;rw [hl] at hp;cases hp
    ·simp;omega
 have hmO:∀ q rq,R[q]? = some rq→memOf R q=rq.M:=fun q rq h=>by unfold memOf;rw [zai,h]
 have hfree:∀ (j:Nat) (r:Rec) (c:EK),R[j]? = some r→r.Fr=some c→M0.H.get (n0+j)=none∧∀ (q:Nat) (rq:Rec),R[q]? = some rq→rq.L=true→tb rq.M.a j=false→rq.M.H.get (n0+j)=none:=fun j r c hr hc=>by
  have hj:j<R.length:=(List.getElem?_eq_some_iff.1 hr).1;have:=(ze0 hf hr).1;unfold chkFr at this;simp only [hc,bc_eq] at this;split at this
  case isFalse=>cases this
  rename_i h5;refine ⟨zhn h5,fun q rq hq hl hb=>?_⟩;have h6:=zak this q (mem.2 ⟨rq,hq,hl⟩);have hqs:q<ops.size:=by rw [← hlen];exact (List.getElem?_eq_some_iff.1 hq).1
  obtain ⟨r7,hr7,hx7⟩:=hstep q ops[q] (by simp [hqs]);rw [hq] at hr7;injection hr7 with hr7;subst hr7;rw [(zes hx7 hl).1] at hb;rcases zbp.1 h6 with h6|h6
  ·rw [hb] at h6;cases h6
  ·rw [hmO q rq hq] at h6;exact zhn h6
 have hfreeM:∀ (j:Nat) (r:Rec),R[j]? = some r→r.Mp=true→M0.H.get (n0+j)=none∧∀ (q:Nat) (rq:Rec),R[q]? = some rq→rq.L=true→rq.M.H.get (n0+j)=none:=fun j r hr hm=>by
  have:=(ze0 hf hr).2.1;unfold chkMp at this;rw [hm,bc_eq,bc_eq,if_pos rfl] at this;split at this
  case isFalse=>cases this
  rename_i h5;refine ⟨zhn h5,fun q rq hq hl=>?_⟩;have h6:=zak this q (mem.2 ⟨rq,hq,hl⟩);rw [hmO q rq hq] at h6;exact zhn h6
 have hins:∀ (i:Nat) (r:Rec) (j:Nat) (d:TypeDesc) (k:Value) (a:EV),R[i]? = some r→r.In=some (j,d,k,a)→(∃ rj,R[j]? = some rj∧rj.Mp=true)∧tb (atA A i) j=true ∧
   ∀ (z:Nat) (rz:Rec) (d':TypeDesc) (k':Value) (a':EV),R[z]? = some rz→rz.In=some (j,d',k',a')→isKeyB d k'=true∧(z≠i→kEq d k k'=false):=fun i r j d k a hr hin=>by
  have:=(ze0 hf hr).2.2;unfold chkIn at this;rw [hin] at this;simp only [bc_eq] at this;split at this
  case isFalse=>cases this
  rename_i h5;split at this
  case isFalse=>cases this
  rename_i h6;refine ⟨?_,h6,fun z rz d' k' a' hz hi=>?_⟩
  ·unfold isMpAt at h5;rw [zai] at h5;split at h5
   ·rename_i rj hrj;exact ⟨rj,hrj,h5⟩
   ·cases h5
  ·have:=zmh this z rz d' k' a' hz hi
   rwa [Nat.zero_add] at this
 have hlsnd:∀ i o r,ops[i]? = some o→R[i]? = some r→r.L=true→SndL P RO (tabAt ops A T0 (R.take i) i o) o (vis A n0 (R.take i) i (memAt M0 R i)) (memAt M0 R i).n r.V r.M.H r.M.n:=fun i o r ho hr hl=>by
  obtain ⟨r2,hr2,hx⟩:=hstep i o ho;rw [hr] at hr2;injection hr2 with hr2;subst hr2;unfold exRec at hx;split at hx
  ·injection hx with hx;subst hx;cases hl
  ·rename_i hgd;split at hx
   ·injection hx with hx;subst hx;rw [zdn.1] at hl;cases hl
   ·rename_i hnf0;split at hx
    ·injection hx with hx;subst hx;cases hl
    ·split at hx
     ·injection hx with hx;subst hx;cases hl
     ·rename_i hnq0;split at hx
      ·rename_i a H2 n2 hlo;injection hx with hx;subst hx
       exact hsl i o ho hgd hnf0 hnq0 a H2 n2 hlo
      ·cases hx
  ·cases hx
 refine ⟨hst,hlen,hroom,ha,hfree,hfreeM,hins,hstep,hloud,fun i o r ho hr hrl hgd hnf hni D hg hA hn=>?_,hsf,hlsnd⟩;obtain ⟨r2,hr2,hx⟩:=hstep i o ho;rw [hr] at hr2;injection hr2 with hr2;subst hr2
 have hi:i<ops.size:=(Array.getElem?_eq_some_iff.1 ho).1;have hcan:q (tabAt ops A T0 (R.take i) i o) o (vis A n0 (R.take i) i (memAt M0 R i)) (memAt M0 R i).n=some r.V:=by
  unfold exRec at hx;rw [hgd] at hx;simp only [show Nat.add n0 i=n0+i from rfl,hnf,hni] at hx
  split at hx
  ·rename_i a ha;injection hx with hx;rw [← hx];exact ha
  ·split at hx
   ·injection hx with hx;rw [← hx] at hrl;cases hrl
   ·cases hx
 have hqo:=hqk _ _ _ _ _ hcan
 by_cases hml:ml (tabAt ops A T0 (R.take i) i o) o=true
 ·exact (hsq i o ho hgd hnf _ hcan).2 hml _ _
 have hcan2:=(hsq i o ho hgd hnf _ hcan).1;have hchk:loudIdx R 0=[]∨chkQ q0 A n0 (frl R 0) M0 R (loudIdx R 0) i o (tabAt ops A T0 (R.take i) i o) r.V=true:=by
  unfold chkAll at hq;split at hq
  ·rename_i e;exact .inl e
  ·have:=zgw hq i o r _ (by simpa using ho) hr (hTs i o ho);unfold chk1 at this;rw [Nat.zero_add,bc_eq,bc_eq,bc_eq,if_pos hqo,if_neg (by rw [hrl];simp),if_neg hml,hgd] at this;exact .inr this
 rcases zdf D R 0 M0 with ⟨e1,e2⟩|⟨z,rq,e1,e2,e3,e4,e5⟩
 ·-- no loud one has run
  rw [e1];have canI:(∀ l∈loudIdx R 0,i≤l)→SndL P RO (tabAt ops A T0 (R.take i) i o) o (vis A n0 (R.take i) i M0) M0.n r.V (vis A n0 (R.take i) i M0) M0.n:=fun h=>by
   rw [hmem i (by omega),zb4 (fun j p hj hp=>?_)] at hcan2
   ·exact hcan2
   ·have:=h j (mem.2 ⟨p,hj,hp⟩);simp;omega
  rcases hchk with hnil|hchk
  ·exact canI fun l hl=>by rw [hnil] at hl;simp at hl
  ·unfold chkQ at hchk;have hv:∀ M,visF A n0 (frl R 0) i M=vis A n0 (R.take i) i M:=fun M=>zjq.trans (zk6 hst ho).symm;simp only [hv] at hchk;rw [bc_eq] at hchk;split at hchk
   case isFalse=>cases hchk
   rename_i hc1;rcases zbp.1 hc1 with h|h
   ·exact canI fun l hl=>Nat.le_of_ble_eq_true (zak h l hl)
   ·rcases zbp.1 h with h|h
    ·obtain ⟨l,hl,hb⟩:=zif h;obtain ⟨rl,hrl,hll⟩:=mem.1 hl;have:=e2 l rl hrl hll;rw [Nat.zero_add,hA l hb] at this;cases this
    ·exact hs0 i o ho hgd _ _ _ h hqo
 ·rw [Nat.zero_add] at e3;rw [e5];have hqm:z∈loudIdx R 0:=mem.2 ⟨rq,e1,e2⟩;rcases hchk with hnil|hchk
  ·rw [hnil] at hqm;simp at hqm
  ·unfold chkQ at hchk;have hv:∀ M,visF A n0 (frl R 0) i M=vis A n0 (R.take i) i M:=fun M=>zjq.trans (zk6 hst ho).symm;simp only [hv] at hchk;rw [bc_eq] at hchk;split at hchk
   case isFalse=>cases hchk
   have h:=zak hchk z hqm;rcases zbp.1 h with h|h
   ·rw [bc_eq] at h;split at h
    case isFalse=>cases h
    rename_i hqi;have hqi:=zad hqi;rw [hmem i (by omega),zln e1 e2 (fun j rj hj hrj hlj=>?_) (by simp [hqi])] at hcan2
    ·exact hcan2
    ·have:=zak h j (mem.2 ⟨rj,hrj,hlj⟩);rcases zbp.1 this with h9|h9
     ·have:=Nat.le_of_ble_eq_true h9;omega
     ·have:=Nat.le_of_ble_eq_true h9;simp;omega
   ·rcases zbp.1 h with h|h
    ·have hqs:z<ops.size:=by rw [← hlen];exact (List.getElem?_eq_some_iff.1 e1).1
     have:=hg z hqs e3 i h;rw [hn] at this;cases this
    ·rcases zbp.1 h with h|h
     ·obtain ⟨l,hl,hb⟩:=zif h;rw [bc_eq] at hb;split at hb
      case isFalse=>cases hb
      rename_i hql;obtain ⟨rl,hrl,hll⟩:=mem.1 hl;have:=e4 l rl (zad hql) hrl hll;rw [Nat.zero_add,hA l hb] at this;cases this
     ·have:=h;rw [hmO z rq e1] at this;exact hs0 i o ho hgd _ _ _ this hqo
def drGo3 (s:ES) (k:List IM) (T':Tr EV) (n0:Nat) (Fl:List (Nat×EK)) (R:List Rec) (M:Mm):EO:=.go { s with top:={ s.top with T:=T',todo:=k },H:=fT (mpF (fun _=>true) R) n0 R 0 (frF (fun j=>bc (tb M.a j) false true) n0 Fl M.H),n:=M.n }
def qX (P:Program):QF:=fun T o H n=>bc (quiet o.op) (exQ P T o H n) none
theorem zdc {o:Op} (h:quiet o=true):qk o=true:=by
 unfold qk;split
 ·rename_i c;simp only [quiet] at h;split at h
  ·rename_i b hb;first|exact h|(rw [hb];exact h)
  ·cases h
 ·exact h
def qXc (P:Program):CK:=fun T o H n v=>eqQ (qX P T o H n) v
def drGo2 (P:Program) (s:ES) (ops:Array Oper) (k:List IM) (A:List Nat) (M0:Mm) (c:CF) (louds:List Nat):EO:=bc (loudB A louds) (bc (chkAll (fun _ o=>memless o.op) (qXc P) ops A s.n c.Fl M0 c.R c.Ts louds) (bc (chkFree A s.n M0 c.R louds) (drGo3 s k c.T s.n c.Fl c.R (md (fun _=>true) c.R 0 M0)) .fail) .fail) .fail
def drGo1 (P:Program) (sub:Sub) (s:ES) (ops:Array Oper) (k:List IM) (A:List Nat) (M0:Mm):EO:=match canonF P (exFr P) (exLoud P sub) (qX P) ops A s.n s.top.N ops.toList 0 [] [] M0 s.top.T [] [] with
 | some c=>drGo2 P s ops k A M0 c (loudIdx c.R 0)
 | none=>.fail
def drGo (P:Program) (sub:Sub) (s:ES) (ops:Array Oper) (k:List IM) (A:List Nat) (m:Nat):EO:=bc (statB ops A) (bc (Nat.ble (Nat.add s.n m) 65536) (drGo1 P sub s ops k A ⟨s.H,Nat.add s.n m,0⟩) .fail) .fail
def drAny (P:Program) (sub:Sub):ES→Nat→Array Oper→List IM→EO:=fun s _ ops k=>drGo P sub s ops k (ancs ops.toList []) (llen ops.toList)
theorem zs4 (hm:P.follows .mixedOrders=true) {sub:Sub} (hsub:LoudOk P sub):DrOk P (drAny P sub):=by
 intro γ w0 w cs fid s id ops k tmps todo ds ro frs hret h1 h2 hk h4 h5 hfs hH;unfold drAny drGo;rw [bc_eq,bc_eq];split
 case isFalse=>trivial
 rename_i hs;split
 case isFalse=>trivial
 rename_i hroom;have hroom:=Nat.le_of_ble_eq_true hroom;have hroom:s.n+llen ops.toList≤65536:=hroom;unfold drGo1;split
 case h_2=>trivial
 rename_i c hc;obtain ⟨R,T',Ts,Fl,Vs⟩:=c;have hst0:=zdx hs;obtain ⟨c1,c2,c3,_,c5,c6,_,_⟩:=zea (T0:=s.top.T) (R:=[]) (Ts:=[]) (Vs:=[]) hst0 hc ⟨s.H,Nat.add s.n (llen ops.toList),0⟩ rfl rfl (fun j o hj=>by simpa using hj) (fun s=>by simp [lw]) rfl;have c6:Fl=frl R 0:=c6;subst c6;unfold drGo2;rw [bc_eq,bc_eq,bc_eq];split
 case isFalse=>trivial
 rename_i hl;split
 case isFalse=>trivial
 rename_i hq;split
 case isFalse=>trivial
 rename_i hf;have hll:llen ops.toList=ops.size:=by rw [zac];simp
 rw [hll] at hroom;have qx:∀ {T:Tr EV} {o:Oper} {H:Tr EK} {n:Nat} {a:EV},qX P T o H n=some a→quiet o.op=true∧exQ P T o H n=some a:=fun {T o H n a} h=>by
  unfold qX at h;rw [bc_eq] at h;split at h
  ·rename_i hq;exact ⟨hq,h⟩
  ·cases h
 have hR:=zoj (q0:=qXc P) (RO:=.nil) hs c1 hl hq (fun i o ho=>by simpa using c5 i o (by simpa using ho)) (fun i o ho _ a k h=>zl2 h) (fun T o H n a h=>zdc (qx h).1) (fun i o ho _ _ a h=>⟨SndL.quiet (zax (qx h).1) fun γ w0 w tmps _ hT hH=>zjc hT hH (qx h).1 (qx h).2,fun hml H n=>SndL.quiet (zax (qx h).1) fun γ w0 w tmps _ hT hH=>zjc hT hH (qx h).1 (by rw [zfz hml (H':=vis _ _ _ _ _) (n':=Mm.n _)];exact (qx h).2)⟩) (fun i o ho _ H n a h _=>SndL.quiet (zax (qx (zp7 h)).1) fun γ w0 w tmps _ hT hH=>zjc hT hH (qx (zp7 h)).1 (qx (zp7 h)).2) (fun i o ho _ _ _ a H' n' h=>hsub.snd h) hf rfl hroom
 obtain ⟨t,ht⟩:=zjt (P:=P) (w:=w) (cs:=frs++cs) (fn:=s.top.fn) (tmps:=tmps) (id:=id) (ops:=ops) (k:=todo) (ds:=ds) (ro:=ro) hm;have hdst:∀ (i:Nat) (o:Oper),ops[i]? = some o→∀ d,o.dst=some d→d<s.top.N:=fun i o ho d hd=>by
  exact c3 o (List.mem_of_getElem? (show ops.toList[i]? = some o by simpa using ho)) d hd
 have hrep:(fun j=>(Array.replicate ops.size false).getD j false)=fun _=>false:=funext fun j=>by
  simp only [Array.getD];split
  ·simp
  ·rfl
 obtain ⟨γ',tmps',w',hle,hst,hT2,hN2,hH2⟩:=hR.all (w0:=w0) (cs:=frs++cs) (fun q hq=>(hH.rsv q hq).2) (fn:=s.top.fn) (k:=todo) (ds:=ds) (ro:=ro) (N:=s.top.N) hdst ops.size t (Array.replicate ops.size false) γ tmps { w with drawn:=w.drawn+1 } (ROk.none _ _) (by simp)
  (by rw [hrep];intro i _ hD;cases hD) (by exact Nat.le_trans (List.length_filter_le _ _) (by simp))
  (by rw [hrep];intro sl a hs;rw [zei (fun _ _ _ _=>rfl)] at hs;exact h2 sl a hs) h1
  (by
   rw [hrep];unfold HD;rw [zb4 (fun _ _ _ _=>rfl)];have h9:HR γ w0 s.H (s.n+llen ops.toList) { w with drawn:=w.drawn+1 }:=by
    have:=hH.step (w':={ w with drawn:=w.drawn+1 }) rfl rfl rfl rfl
    exact ⟨this.hp0,this.inj0,fun i hi=>this.fresh i (by omega),fun i hi=>let ⟨q1,q2⟩:=this.rsv i hi;⟨q1,by omega⟩,this.lt,this.stays,this.fzk⟩
   refine HR.reserve (h9.congr fun b c hb=>?_) fun i hi=>?_
   ·rw [hR.kd,zb4 (fun _ _ _ _=>rfl)] at hb;have hmp:fV (mpF (fun _=>false) R) s.n 0 R b=none:=by
     cases e:fV (mpF (fun _=>false) R) s.n 0 R b with
     | none=>rfl
     | some c=>
      obtain ⟨j,r,_,_,e2⟩:=zbz.1 e;have:=(zbq.1 e2).2.1;cases this
    rw [hmp,Option.none_or] at hb
    cases hv:frV (fun j=>bc (tb 0 j) false false) s.n 0 R b with
    | none=>rw [hv,Option.none_or] at hb;exact hb
    | some c2=>
     obtain ⟨j,r,_,_,h5,_⟩:=zan.1 hv;rw [bc_eq] at h5;split at h5 <;> cases h5
   ·rcases hi with hi|⟨j,h5,_,rfl⟩
    ·obtain ⟨q1,q2⟩:=hH.rsv i hi;exact ⟨q1,show i<s.n+llen ops.toList by omega⟩
    ·exact ⟨hH.fresh _ (by omega),show s.n+j<s.n+llen ops.toList by omega⟩)
 refine ⟨γ',_,hle,(Steps.one ht).trans (hst.trans (.one zcy)),_,frs,w',rfl,⟨tmps',todo,ds,ro,by simp [fram,hret,modeOf],hN2,fun sl a hs=>hT2 sl a ((c2 sl).symm.trans hs),hk.mono fun _ _ h=>h.mono hle,h4.mono fun _ _ h=>h.mono hle,h5.mono hle⟩,hfs.mono fun _ _ h=>h.mono hle,?_⟩;unfold HD at hH2;unfold KD at hH2;rw [← zgm] at hH2;exact (HR.lessRes (r':=w0.res) hH2 fun i hi=>.inl hi)
def drD (P:Program) (FT:Tr FI) (K:Nat) (d:Nat):ES→Nat→Array Oper→List IM→EO:=Nat.rec noDraw (fun _ ih=>drAny P (exSub (fun f=>exStep P FT f ih) FT K)) d
theorem zqe (hm:P.follows .mixedOrders=true) (hF:FTok P FT) (K:Nat):∀ d,DrOk P (drD P FT K d)
 | 0=>zow
 | d+1=>zs4 hm (loudOk hF (fun fid cs w0 γ s m hM=>zc7 hF (zqe hm hF K d) hM) K)
end
section
open Go.RowKit
variable {P:Program} {γ γ':G} {w0:Bs} {w:World} {H H':Tr EK} {n n':Nat} {T:Tr EV} {cs:List Frame} {fid:FuncId} {FT:Tr FI}
def atR (d f id:Nat) (s:ES):Bool:=bc (Nat.beq (llen s.rest) d) (bc (Nat.beq s.top.fn f) (match s.top.todo with
 | .it (.code (.seq (.region i _ _) _))::_=>Nat.beq i id
 | .it (.code (.region i _ _))::_=>Nat.beq i id
 | _=>false) false) false
def mkT {α:Type} (l:List (Nat×α)):Tr α:=List.rec .nil (fun p _ ih=>bc (Nat.ble p.1 65535) (ih.put p.1 (some p.2)) ih) l
theorem zcp {α:Type}:∀ {l:List (Nat×α)} {s:Nat} {a:α},(mkT l).get s=some a→(s,a)∈l
 | [],s,a,h=>by cases h
 | p::l,s,a,h=>by
  have h':(bc (Nat.ble p.1 65535) ((mkT l).put p.1 (some p.2)) (mkT l)).get s=some a:=h;rw [bc_eq] at h';split at h'
  ·rename_i hp;rw [Tr.get_put hp] at h'
   by_cases e:s=p.1
   ·rw [if_pos e] at h';injection h' with h';subst h';subst e;simp
   ·rw [if_neg e] at h';exact List.mem_cons_of_mem _ (zcp h')
  ·exact List.mem_cons_of_mem _ (zcp h')
def flatN {α:Type} (f:α→List Nat) (l:List α):List Nat:=List.rec [] (fun a _ ih=>f a++ih) l
def numsE (k:Nat):EV→List Nat:=Nat.rec (fun _=>[]) (fun _ ih a=>match a with
 | .ptr i _=>[i]
 | .ptrE i _ _ _=>[i]
 | .sl i _ _ _ _=>[i]
 | .slE i _ _=>[i]
 | .agg l=>flatN ih l
 | .tup l=>flatN ih l
 | .fn _ l=>flatN ih l
 | .mt _ l=>flatN ih l
 | .slO i _ _ _=>[i]
 | .yl i=>[i]
 | .mp i=>[i]
 | .row i _ _ _ _ _ _=>[i]
 | .prow i _ _ _ _ _ _ _=>[i]
 | .slX i _ _ _=>[i]
 | _=>[]) k
structure FS where
 fn:FuncId
 N:Nat
 T:List (Nat×EV)
 todo:List IM
 ds:List DE
 ro:Option Nat
structure NS where
 fs:List FS
 H:List (Nat×EK)
 n:Nat
def frOf (f:FS):EF:=⟨f.fn,f.N,mkT f.T,f.todo,f.ds,f.ro,false⟩
def frsOf (l:List FS):List EF:=List.rec [] (fun f _ ih=>frOf f::ih) l
def stOf (r:NS):ES:=match r.fs with
 | f::l=>⟨frOf f,frsOf l,mkT r.H,r.n⟩
 | []=>⟨⟨0,0,.nil,[],[],none,false⟩,[],.nil,0⟩
def nav:List Nat→Code→Code
 | [],c=>c
 | b::l,.seq x y=>nav l (if b=0 then x else y)
 | b::l,.cond _ x y=>nav l (if b=0 then x else y)
 | _::l,.block _ x=>nav l x
 | _::l,.loop x=>nav l x
 | _::l,.scope x=>nav l x
 | b::l,.rangeFunc _ _ x y=>nav l (if b=0 then x else y)
 | _::_,c=>c
def opsOf:Code→Array Oper
 | .region _ ops _=>ops
 | _=>#[]
def bodyOf (f:Func):Code:=f.body.getD .skip
end
section
open Go.RowKit
variable {P:Program} {γ γ':G} {w0:Bs} {w:World} {H H':Tr EK} {n n':Nat} {T:Tr EV} {cs:List Frame} {fid:FuncId} {FT:Tr FI} {tmps:Array Value} {o:Oper}
structure YR where
 c:Bool
 er:ER
def SyC.len (c:SyC):Nat:=match c with
 | .ints _ l=>l.length
 | .bools l=>l.length
 | .strs l=>l.length
 | .recs sh l=>Nat.mul l.length sh.length
theorem SyC.enc_len (c:SyC):c.enc.length=c.len:=by
 cases c with
 | ints k l=>show (l.map _).length=l.length;rw [List.length_map]
 | bools l=>show (l.map _).length=l.length;rw [List.length_map]
 | strs l=>show (l.map _).length=l.length;rw [List.length_map]
 | recs sh l=>exact zlf sh l
def intE (k:IntKind) (a:EV):Option Int:=match a with
 | .v (.int k' x)=>bc (decide (k'=k)) (some x) none
 | _=>none
theorem zpk {k:IntKind} {a:EV} {x:Int} (h:intE k a=some x):a = .v (.int k x):=by
 unfold intE at h;split at h
 case h_2=>cases h
 rw [bc_eq] at h;split at h
 case isFalse=>cases h
 rename_i hk;injection h with h;subst h
 have:=of_decide_eq_true hk;subst this;rfl
def intsE (k:IntKind) (ax:List EV):Option (List Int):=List.rec (some []) (fun a _ ih=>match intE k a with
 | some x=>match ih with
  | some l=>some (x::l)
  | none=>none
 | none=>none) ax
theorem zls {k:IntKind}:∀ {ax:List EV} {l:List Int},intsE k ax=some l→ax=l.map fun x=>.v (.int k x)
 | [],l,h=>by simp [intsE] at h;subst h;rfl
 | a::ax,l,h=>by
  have h':(match intE k a with
   | some x=>match intsE k ax with
    | some l=>some (x::l)
    | none=>none
   | none=>none)=some l:=h
  split at h'
  case h_2=>cases h'
  rename_i x hx;split at h'
  case h_2=>cases h'
  rename_i l' hl;injection h' with h';subst h'
  rw [zpk hx,zls hl];rfl
def shEq (a b:Sh):Bool:=Sh.rec (motive_1:=fun _=>Sh→Bool) (motive_2:=fun _=>List Sh→Bool) (fun k b=>match b with
 | .int q=>decide (k=q)
 | _=>false) (fun b=>match b with
 | .bool=>true
 | _=>false) (fun b=>match b with
 | .str=>true
 | _=>false) (fun _ ih b=>match b with
 | .list m=>ih m
 | _=>false) (fun m=>match m with
 | []=>true
 | _=>false) (fun _ _ ih1 ih2 m=>match m with
 | b::m=>bc (ih1 b) (ih2 m) false
 | _=>false) a b
def shsEq (a b:List Sh):Bool:=shEq (.list a) (.list b)
mutual
theorem zuw:∀ {a b:Sh},shEq a b=true→a=b
 | .int k,b,h=>by
  cases b with
  | int q=>rw [of_decide_eq_true (show decide (k=q)=true from h)]
  | _=>cases h
 | .bool,b,h=>by cases b <;> first|rfl|cases h
 | .str,b,h=>by cases b <;> first|rfl|cases h
 | .list l,b,h=>by
  cases b with
  | list m=>rw [shsEq_ok (show shsEq l m=true from h)]
  | _=>cases h
theorem shsEq_ok:∀ {a b:List Sh},shsEq a b=true→a=b
 | [],b,h=>by
  cases b with
  | nil=>rfl
  | cons b m=>cases h
 | a::l,b,h=>by
  cases b with
  | nil=>cases h
  | cons b m=>
   have h':bc (shEq a b) (shsEq l m) false=true:=h;rw [bc_eq] at h';split at h'
   ·rename_i h1;rw [zuw h1,shsEq_ok h']
   ·cases h'
end
def evU (s:Sh) (a:EV):Option U:=match s with
 | .int k=>match a with
  | .v (.int k' x)=>bc (decide (k'=k)) (some (.i x)) none
  | _=>none
 | .bool=>match a with
  | .v (.bool x)=>some (.b x)
  | _=>none
 | .str=>match a with
  | .v (.string x)=>some (.s x)
  | _=>none
 | .list sh=>match a with
  | .lst c=>bc (shsEq sh c.sh) (some (.l c.rows)) none
  | .v (.slice none 0 0)=>some (.l [])
  | _=>none
theorem zw2 {s:Sh} {a:EV} {u:U} (h:evU s a=some u) {x:Value} (ha:EC γ a x):EC γ (s.ev u) x∧a.one=true:=by
 unfold evU at h;split at h
 ·split at h
  case h_2=>cases h
  rw [bc_eq] at h;split at h
  case isFalse=>cases h
  rename_i hk;injection h with h;subst h
  have:=of_decide_eq_true hk;subst this;exact ⟨ha,rfl⟩
 ·split at h
  case h_2=>cases h
  injection h with h;subst h
  exact ⟨ha,rfl⟩
 ·split at h
  case h_2=>cases h
  injection h with h;subst h
  exact ⟨ha,rfl⟩
 ·split at h
  case h_3=>cases h
  ·rw [bc_eq] at h;split at h
   case isFalse=>cases h
   rename_i hk;injection h with h;subst h
   have:=shsEq_ok hk
   cases ha with
   | lst c x hx=>exact ⟨.lst _ _ (by rw [← this] at hx;exact UOk.mkC_iff.2 hx),rfl⟩
  ·injection h with h;subst h
   cases ha;exact ⟨.lst _ _ (UOk.mkC_iff.2 (UOk.empty _ _ none 0 rfl (Nat.zero_le _) fun _=>rfl)),rfl⟩
def recU (sh:List Sh):List EV→Option (List U×List EV):=List.rec (fun ax=>some ([],ax)) (fun s _ ih ax=>match ax with
 | a::ax=>match evU s a with
  | some u=>match ih ax with
   | some (r,l)=>some (u::r,l)
   | none=>none
  | none=>none
 | []=>none) sh
def recsU (sh:List Sh) (m:Nat):List EV→Option (List (List U)):=Nat.rec (fun ax=>match ax with
 | []=>some []
 | _=>none) (fun _ ih ax=>match recU sh ax with
 | some (r,l)=>match ih l with
  | some rs=>some (r::rs)
  | none=>none
 | none=>none) m
theorem zjz:∀ {sh:List Sh} {ax l:List EV} {r:List U},recU sh ax=some (r,l)→r.length=sh.length∧∃ bx,ax=bx++l∧bx.length=sh.length∧(∀ a,a∈bx→a.one=true)∧∀ (γ:G) (vs:List Value),ECL γ bx vs→ECL γ (recE sh r) vs
 | [],ax,l,r,h=>by
  have h':some ([],ax)=some (r,l):=h;simp only [Option.some.injEq,Prod.mk.injEq] at h';obtain ⟨rfl,rfl⟩:=h';exact ⟨rfl,[],rfl,rfl,by simp,fun γ vs h=>h⟩
 | s::sh,[],l,r,h=>by have h':(none:Option (List U×List EV))=some (r,l):=h;cases h'
 | s::sh,a::ax,l,r,h=>by
  have h':(match evU s a with
   | some u=>match recU sh ax with
    | some (r,l)=>some (u::r,l)
    | none=>none
   | none=>none)=some (r,l):=h
  split at h'
  case h_2=>cases h'
  rename_i u hu;split at h'
  case h_2=>cases h'
  rename_i r' l' hr;simp only [Option.some.injEq,Prod.mk.injEq] at h';obtain ⟨rfl,rfl⟩:=h';obtain ⟨h1,bx,rfl,h2,h3,h4⟩:=zjz hr;have one:a.one=true:=by
   unfold evU at hu;split at hu
   ·split at hu
    ·rfl
    ·cases hu
   ·split at hu
    ·rfl
    ·cases hu
   ·split at hu
    ·rfl
    ·cases hu
   ·split at hu
    ·rfl
    ·rfl
    ·cases hu
  refine ⟨by simp [h1],a::bx,rfl,by simp [h2],fun b hb=>?_,fun γ vs hv=>?_⟩
  ·rcases List.mem_cons.1 hb with rfl|hb
   ·exact one
   ·exact h3 b hb
  ·obtain ⟨x,ys,rfl,g1,g2⟩:=hv.inv;show ECL γ (s.ev u::recE sh r') (x::ys);exact .cons (zw2 hu g1).1 (h4 γ ys g2)
theorem zd1 {sh:List Sh}:∀ {m:Nat} {ax:List EV} {rs:List (List U)},recsU sh m ax=some rs→rs.length=m∧(∀ r,r∈rs→r.length=sh.length)∧ax.length=m*sh.length∧(∀ a,a∈ax→a.one=true)∧∀ (γ:G) (vs:List Value),ECL γ ax vs→ECL γ (rs.flatMap (recE sh)) vs
 | 0,ax,rs,h=>by
  cases ax with
  | cons a ax=>cases h
  | nil=>
   injection (show some []=some rs from h) with h';subst h'
   exact ⟨rfl,by simp,by simp,by simp,fun γ vs h=>h⟩
 | m+1,ax,rs,h=>by
  have h':(match recU sh ax with
   | some (r,l)=>match recsU sh m l with
    | some rs=>some (r::rs)
    | none=>none
   | none=>none)=some rs:=h
  split at h'
  case h_2=>cases h'
  rename_i r l hr;split at h'
  case h_2=>cases h'
  rename_i rs' hrs;injection h' with h';subst h'
  obtain ⟨h1,bx,rfl,h2,h3,h4⟩:=zjz hr;obtain ⟨g1,g2,g3,g4,g5⟩:=zd1 hrs;refine ⟨by simp [g1],fun r' hr'=>?_,by rw [List.length_append,h2,g3,Nat.succ_mul];omega,fun a ha=>?_,fun γ vs hv=>?_⟩
  ·rcases List.mem_cons.1 hr' with rfl|hr'
   ·exact h1
   ·exact g2 r' hr'
  ·rcases List.mem_append.1 ha with ha|ha
   ·exact h3 a ha
   ·exact g4 a ha
  ·have e:vs=vs.take bx.length++vs.drop bx.length:=(List.take_append_drop _ _).symm;have hL:=hv.1;have k1:=hv.take bx.length;have k2:=hv.drop bx.length;rw [List.take_left] at k1;rw [List.drop_left] at k2;rw [List.flatMap_cons,e];exact (h4 γ _ k1).append (g5 γ _ k2)
def boolE (a:EV):Option Bool:=match a with
 | .v (.bool x)=>some x
 | _=>none
theorem ztb {a:EV} {x:Bool} (h:boolE a=some x):a = .v (.bool x):=by
 unfold boolE at h;split at h
 ·injection h with h;subst h;rfl
 ·cases h
def strE (a:EV):Option ByteArray:=match a with
 | .v (.string x)=>some x
 | _=>none
theorem zuk {a:EV} {x:ByteArray} (h:strE a=some x):a = .v (.string x):=by
 unfold strE at h;split at h
 ·injection h with h;subst h;rfl
 ·cases h
def SyC.set (c:SyC) (off:Nat) (a:EV):Option SyC:=match c with
 | .bools l=>match boolE a with
  | some x=>some (.bools (l.set off x))
  | none=>none
 | .strs l=>match strE a with
  | some x=>some (.strs (l.set off x))
  | none=>none
 | .recs _ _=>none
 | .ints k l=>match intE k a with
  | some x=>some (.ints k (l.set off x))
  | none=>none
def U.ints:List (List U)→List Int:=List.rec [] (fun r _ ih=>(r.headD (.i 0)).int::ih)
def SyC.app (c:SyC) (m:Nat) (ax:List EV):Option SyC:=match recsU c.sh m ax with
 | some rs=>match c with
  | .ints k l=>some (.ints k (l++rs.map fun r=>(r.headD (.i 0)).int))
  | .bools l=>some (.bools (l++rs.map fun r=>(r.headD (.i 0)).bool))
  | .strs l=>some (.strs (l++rs.map fun r=>(r.headD (.i 0)).str))
  | .recs sh l=>some (.recs sh (l++rs))
 | none=>none
theorem SyC.enc_rows (c:SyC):c.enc=c.rows.flatMap (recE c.sh):=by
 cases c with
 | ints k l=>show l.map _=(l.map _).flatMap _;induction l with
  | nil=>rfl
  | cons a l ih=>rw [List.map_cons,List.map_cons,List.flatMap_cons,ih];rfl
 | bools l=>show l.map _=(l.map _).flatMap _;induction l with
  | nil=>rfl
  | cons a l ih=>rw [List.map_cons,List.map_cons,List.flatMap_cons,ih];rfl
 | strs l=>show l.map _=(l.map _).flatMap _;induction l with
  | nil=>rfl
  | cons a l ih=>rw [List.map_cons,List.map_cons,List.flatMap_cons,ih];rfl
 | recs sh l=>rfl
theorem zcu {α:Type} {g:α→EV} {s:Sh} {h:List U→α} (e:∀ r:List U,recE [s] r=[g (h r)]):∀ rs:List (List U),(rs.map h).map g=rs.flatMap (recE [s])
 | []=>rfl
 | r::rs=>by rw [List.map_cons,List.map_cons,List.flatMap_cons,e,zcu e rs];rfl
theorem SyC.app_ok {c c':SyC} {m:Nat} {ax:List EV} (h:c.app m ax=some c'):∃ bx,c'.enc=c.enc++bx∧(∀ a,a∈ax→a.one=true)∧∀ (γ:G) (vs:List Value),ECL γ ax vs→ECL γ bx vs:=by
 unfold SyC.app at h;split at h
 case h_2=>cases h
 rename_i rs hrs;obtain ⟨h1,h2,h3,h4,h5⟩:=zd1 hrs;refine ⟨rs.flatMap (recE c.sh),?_,h4,h5⟩;split at h <;> (injection h with h;subst h)
 ·rename_i k l;show (l++rs.map _).map _=l.map _++_;rw [List.map_append];congr 1;exact zcu (s:=.int k) (g:=fun x=>EV.v (.int k x)) (fun r=>rfl) rs
 ·rename_i l;show (l++rs.map _).map _=l.map _++_;rw [List.map_append];congr 1;exact zcu (s:=.bool) (g:=fun x=>EV.v (.bool x)) (fun r=>rfl) rs
 ·rename_i l;show (l++rs.map _).map _=l.map _++_;rw [List.map_append];congr 1;exact zcu (s:=.str) (g:=fun x=>EV.v (.string x)) (fun r=>rfl) rs
 ·rename_i sh l;show (l++rs).flatMap _=_;rw [List.flatMap_append];rfl
def SyC.take (c:SyC) (k:Nat):SyC:=match c with
 | .ints q l=>.ints q (l.take k)
 | .bools l=>.bools (l.take k)
 | .strs l=>.strs (l.take k)
 | .recs sh l=>.recs sh (l.take k)
def SyC.cz (c:SyC):Nat:=match c with
 | .recs sh _=>sh.length
 | _=>1
theorem zon (sh:List Sh) (l:List (List U)) (k:Nat):(l.take k).flatMap (recE sh)=(l.flatMap (recE sh)).take (k*sh.length):=by
 induction l generalizing k with
 | nil=>simp
 | cons r l ih=>
  cases k with
  | zero=>simp
  | succ k=>
   have e:(recE sh r).take ((k+1)*sh.length)=recE sh r:=List.take_of_length_le (by rw [zas,Nat.succ_mul];omega);rw [List.take_succ_cons,List.flatMap_cons,List.flatMap_cons,ih,List.take_append,e,zas,Nat.succ_mul,Nat.add_sub_cancel]
theorem SyC.take_enc2 (c:SyC) (k:Nat):(c.take k).enc=c.enc.take (k*c.cz):=by
 cases c with
 | ints q l=>show (l.take k).map _=(l.map _).take (k*1);rw [List.map_take,Nat.mul_one]
 | bools l=>show (l.take k).map _=(l.map _).take (k*1);rw [List.map_take,Nat.mul_one]
 | strs l=>show (l.take k).map _=(l.map _).take (k*1);rw [List.map_take,Nat.mul_one]
 | recs sh l=>exact zon sh l k
theorem SyC.len_cz (c:SyC):c.len=c.cnt*c.cz:=by
 cases c with
 | ints k l=>exact (Nat.mul_one _).symm
 | bools l=>exact (Nat.mul_one _).symm
 | strs l=>exact (Nat.mul_one _).symm
 | recs sh l=>rfl
theorem SyC.enc_one (c:SyC):allOne c.enc=true:=by
 rw [zbb]
 cases c with
 | recs sh l=>
  show (l.flatMap _).all _=true;rw [List.all_eq_true];intro a ha;obtain ⟨r,_,hr⟩:=List.mem_flatMap.1 ha;obtain ⟨f,hf,rfl⟩:=List.getElem_of_mem hr;rw [zas] at hf;have:=zd2 (s:=sh[f]) (f:=f) r (List.getElem?_eq_getElem hf);rw [List.getElem?_eq_getElem (by rw [zas];exact hf)] at this;injection this with this
  rw [this];cases sh[f] <;> rfl
 | strs l=>
  show (l.map _).all _=true;rw [List.all_eq_true];intro a ha;obtain ⟨x,_,rfl⟩:=List.mem_map.1 ha;rfl
 | bools l=>
  show (l.map _).all _=true;rw [List.all_eq_true];intro a ha;obtain ⟨x,_,rfl⟩:=List.mem_map.1 ha;rfl
 | ints k l=>
  show (l.map _).all _=true;rw [List.all_eq_true];intro a ha;obtain ⟨x,_,rfl⟩:=List.mem_map.1 ha;rfl
theorem HR.recast (h:HR γ w0 H n w) {i:Nat} (hi:Nat.ble i 65535=true) {k0 k:EK} (hg:H.get i=some k0) (hn:¬ k0.Nil) (hk:∀ b m,k0.ok γ b m w→k.ok γ b m w) (hnn:k.nestB=false:=by rfl):HR γ w0 (H.put i (some k)) n w:=by
 obtain ⟨b,m,h1,h2,h3⟩:=h.hp i k0 hg hn;exact h.turn hi hg h1 k (fun _ _=>rfl) rfl rfl rfl rfl (hk b m h3) hn hnn
theorem HR.nilSeq (h:HR γ w0 H n w) {i:Nat} (hi:Nat.ble i 65535=true) {ty:TypeId} {c:SyC} (hc:c.enc=[]):HR γ w0 (H.put i (some (.seq ty c false))) n w:=by
 refine ⟨fun j k hj=>?_,fun j l kj kl hj hl nj nl hne bj bl ej el=>?_,h.fresh,h.rsv,h.lt,h.stays,h.fzq rfl (fun _ _ _=>rfl) (fun j kj b m hj nj ej=>?_) (fun j kj hj hb=>?_)⟩
 rotate_right
 ·rw [Tr.get_put hi] at hj;split at hj
  ·injection hj with hj;subst hj;cases hb
  ·exact hj
 rotate_right
 ·rw [Tr.get_put hi] at hj;split at hj
  ·injection hj with hj;subst hj;exact absurd ⟨rfl,hc⟩ nj
  ·exact .inr ⟨j,kj,b,m,hj,nj,ej,rfl⟩
 ·rw [Tr.get_put hi] at hj;split at hj
  ·injection hj with hj;subst hj;exact .inl ⟨rfl,hc⟩
  ·exact h.hp0 j k hj
 ·rw [Tr.get_put hi] at hj hl;split at hj
  ·injection hj with hj;subst hj;exact absurd ⟨rfl,hc⟩ nj
  ·split at hl
   ·injection hl with hl;subst hl;exact absurd ⟨rfl,hc⟩ nl
   ·exact h.inj0 j l kj kl hj hl nj nl hne bj bl ej el
theorem zfg {ty:TypeId} {c:SyC} {nn:Bool} {b:Pl} {m:Nat} (h:(EK.seq ty c nn).ok γ b m w):(EK.cells ty c.enc false).ok γ b m w:=by
 obtain ⟨ca,h1,h2,h3,h4⟩:=h;exact ⟨ca,h1,h2,h3,(fun e=>by cases e),h4⟩
theorem zf8 {ty:TypeId} {c:SyC} {nn full:Bool} {l:List EV} (hl:l=c.enc) {b:Pl} {m:Nat} (h:(EK.cells ty l full).ok γ b m w):(EK.seq ty c nn).ok γ b m w:=by
 subst hl;obtain ⟨ca,h1,h2,h3,_,h4⟩:=h;exact ⟨ca,h1,h2,h3,h4⟩
theorem zam {ty:TypeId} {c:SyC} {nn:Bool} (h:0<c.len):¬ (EK.seq ty c nn).Nil:=fun e=>by
 have h1:c.enc=[]:=e.2;rw [← c.enc_len,h1] at h;simp at h
theorem zoe {i z len:Nat} {nn:Bool} {x:Value} (h:EC γ (.slO i z len nn) x) (hn:nn=true∨0<len):nn=true∧EC γ (.sl i z 0 len none) x:=by
 cases h with
 | slO _ _ _ _ _ h=>
  cases nn with
  | false=>
   have:=(h.1 rfl).2;rcases hn with hn|hn
   ·cases hn
   ·omega
  | true=>
   obtain ⟨b,m,c,h1,rfl,h2,h3,h4⟩:=h.2 rfl;have h5:0+c*z≤m:=by
    rcases h4 with h4|h4
    ·omega
    ·rw [h4];omega
   exact ⟨rfl,.sl i z 0 len none b m c h1 h2 h3 h5 (fun k e=>by cases e) (fun _=>by omega)⟩
theorem ze3 {i z len:Nat} {x:Value} (h:EC γ (.sl i z 0 len none) x):EC γ (.slO i z len true) x:=by
 cases h with
 | sl _ _ _ _ _ b m c h hl hm hn hc hu=>exact .slO i z len true _ ⟨(fun e=>by cases e),fun _=>⟨b,m,c,h,rfl,hl,hm,by have:=hu rfl;omega⟩⟩
theorem zju {i z len:Nat} {x:Value} (h:EC γ (.slO i z len false) x):x = .slice none 0 0∧len=0:=by
 cases h with
 | slO _ _ _ _ _ h=>exact h.1 rfl
theorem zog {α:Type} {l:List α} {off:Nat} {a:α} (h:off<l.length):Sx.putAt l off [a]=l.set off a:=by
 apply List.ext_getElem?;intro j;rw [Sx.putAt_get (by simp;omega),List.getElem?_set]
 by_cases e:off=j
 ·subst e;rw [if_pos (by simp),if_pos rfl,if_pos h];simp
 ·rw [if_neg (by simp;omega),if_neg e]
theorem zdv (hT:TOk γ T tmps) (hH:HR γ w0 H n w) {t ty:TypeId} {ei:EI} (hei:elemInfo P t=some ei) {i z len:Nat} {nn nn':Bool} {vs:Value} {c c':SyC} {m:Nat} {news:List EV} (hs:EC γ (.slO i z len nn) vs) (hg:H.get i=some (.seq ei.e c nn')) (h1':z=ei.z) (h3':0<m) (h5:Nat.ble i 65535=true) (h6:Nat.ble n 65535=true) (h7:allOne news=true) (hlen':len*z=c.len) (hroom:len+m≤65536) (hnn:nn'=true∨nn=false) (happ':c'.enc=c.enc++news)
  {a:Addr} {ca:Nat} {ns:List Value} (hcn:ECL γ news ns) (hnl:ns.length=m*ei.z) (hnc:∀ j u,ns[j]? = some u→w.cell? (a.add j)=some u) :
  ∃ γ' w' v',GLe γ γ'∧HR γ' w0 ((H.put i none).put n (some (.seq ei.e c' true))) (Nat.succ n) w'∧(Builtin.append_ #[t,t] ty #[vs,.slice (some a) m ca]).run P w = .ok v' w'∧EC γ' (.slO n z (len+m) true) v':=by
 cases nn with
 | false=>
  obtain ⟨rfl,hl0⟩:=zju hs;have hc0:c.enc=[]:=List.eq_nil_of_length_eq_zero (by rw [c.enc_len,← hlen',hl0,Nat.zero_mul]);have hap:exAppendN ei (.v (.slice none 0 0)) m news H n=some ⟨some (.sl n ei.z 0 (0+m) none),H.put n (some (.cells ei.e ([]++news) false)),Nat.succ n⟩:=by
   unfold exAppendN exGrow;simp only [bc_eq,show Nat.blt 0 m=true by (unfold Nat.blt;exact Nat.ble_eq_true_of_le h3'),Nat.beq_refl,h6,h7];have:Nat.ble (Nat.add 0 m) 65536=true:=Nat.ble_eq_true_of_le (show 0+m≤65536 by omega);simp only [this];rfl
  obtain ⟨γ',w',v',q1,q2,q3,a,q4,q5⟩:=zbd (ty:=ty) (c:=ca) hT hH hei (.v (γ:=γ) (.slice none 0 0)) hcn hnl hnc hap;refine ⟨γ',w',v',q1,?_,q3,?_⟩
  ·have hgn:(H.put n (some (EK.cells ei.e ([]++news) false))).get n=some (.cells ei.e ([]++news) false):=by rw [Tr.get_put h6,if_pos rfl]
   have:=q2.recast h6 (k:=.seq ei.e c' true) hgn id fun b m=>zf8 (by rw [happ',hc0]);refine this.congr fun j k hj=>?_;rw [Tr.get_put h6] at hj ⊢;split at hj
   ·rename_i e;rw [if_pos e];exact hj
   ·rename_i e;rw [if_neg e,Tr.get_put h6,if_neg e];rw [Tr.get_put h5] at hj;split at hj
    ·cases hj
    ·exact hj
  ·injection q4 with q4;subst q4
   have e:len+m=0+m:=by omega
   rw [e,h1'];exact ze3 q5
 | true=>
  have hnn':nn'=true:=by
   rcases hnn with h|h
   ·exact h
   ·cases h
  subst hnn';have hnil:¬ (EK.seq ei.e c true).Nil:=fun e=>by cases e.1
  have hR1:HR γ w0 (H.put i (some (.cells ei.e c.enc false))) n w:=hH.recast h5 hg hnil fun b m=>zfg;obtain ⟨_,hsl⟩:=zoe hs (.inl rfl);have hgi:(H.put i (some (EK.cells ei.e c.enc false))).get i=some (.cells ei.e c.enc false):=by rw [Tr.get_put h5,if_pos rfl]
  have hca:cellsAt (H.put i (some (.cells ei.e c.enc false))) i=some (ei.e,c.enc,false):=by unfold cellsAt;rw [hgi]
  have hlz:c.enc.length=len*ei.z:=by rw [c.enc_len,← hlen',h1']
  have hap:exAppendN ei (.sl i z 0 len none) m news (H.put i (some (.cells ei.e c.enc false))) n=some ⟨some (.sl n ei.z 0 (len+m) none),((H.put i (some (.cells ei.e c.enc false))).put i none).put n (some (.cells ei.e (((c.enc.drop 0).take (Nat.mul len ei.z))++news) false)),Nat.succ n⟩:=by
   unfold exAppendN;rw [h1'];simp only [bc_eq,Nat.beq_refl,hca];have e3:Nat.ble (Nat.add 0 (Nat.mul len ei.z)) (llen c.enc)=true:=by
    rw [zac,hlz];exact Nat.ble_eq_true_of_le (show 0+len*ei.z≤len*ei.z by omega)
   have hroom2:Nat.ble (Nat.add len m) 65536=true:=Nat.ble_eq_true_of_le hroom;simp only [e3,h5];unfold exGrow;simp only [bc_eq,h6,h7,hroom2,if_true];rfl
  obtain ⟨γ',w',v',q1,q2,q3,a,q4,q5⟩:=zbd (ty:=ty) (c:=ca) hT hR1 hei hsl hcn hnl hnc hap;refine ⟨γ',w',v',q1,?_,q3,?_⟩
  ·have hgn:(((H.put i (some (.cells ei.e c.enc false))).put i none).put n (some (.cells ei.e (((c.enc.drop 0).take (Nat.mul len ei.z))++news) false))).get n=some (.cells ei.e (((c.enc.drop 0).take (Nat.mul len ei.z))++news) false):=by rw [Tr.get_put h6,if_pos rfl]
   have:=q2.recast h6 (k:=.seq ei.e c' true) hgn id fun b m=>by
    refine zf8 ?_;rw [happ',List.drop_zero];congr 1;exact List.take_of_length_le (Nat.le_of_eq hlz)
   refine this.congr fun j k hj=>?_;rw [Tr.get_put h6] at hj ⊢;split at hj
   ·rename_i e;rw [if_pos e];exact hj
   ·rename_i e;rw [if_neg e,Tr.get_put h6,if_neg e,Tr.get_put h5];rw [Tr.get_put h5] at hj;split at hj
    ·cases hj
    ·rename_i e2;rw [if_neg e2,Tr.get_put h5,if_neg e2];exact hj
  ·injection q4 with q4;subst q4
   rw [h1'];exact ze3 q5
end
end Go.Proofs.Ytepiiaeiogdphaa.Ev
