/- Laid together: Drawn regions that end by a round of a loop over a function: all ahead of it in any order, then the round in the open. No program is named. Returns of arrays with open contents. No program is named. Maps of plain values whose entries are open. No program is named. A row of its own behind a nest. No program is named. Runs over open leaves that fork: one run says what comes .. -/
import Derived.Test.YtfffbioafhppiaaChecked
import Derived.Test.YtfffbioafhppiaaBAc4
set_option linter.unusedSimpArgs false
set_option linter.unusedVariables false
noncomputable section
namespace Go.Proofs.Ytfffbioafhppiaa.Ev
section
open Go.RowKit
variable {P:Program} {γ γ':G} {w0:Bs} {w:World} {H H':Tr EK} {n n':Nat} {T:Tr EV} {cs:List Frame} {fid:FuncId} {FT:Tr FI} {tmps:Array Value} {o:Oper}
def dynC (o:Oper):Option Operand:=match o.op with
 | .call c=>match c.callee with
  | .value x=>some x
  | _=>none
 | _=>none
def preL (l:List Oper):List Oper:=List.take (Nat.sub (llen l) 2) l
def preOk (l:List Oper) (A:List Nat):Bool:=match lget l (Nat.sub (llen l) 2) with
 | some _=>match lget l (Nat.succ (Nat.sub (llen l) 2)) with
  | some ol=>bc (Nat.beq (llen l) (Nat.succ (Nat.succ (Nat.sub (llen l) 2)))) (bc (anyL (fun d=>Nat.beq (Nat.sub (llen l) 2) d) (deps ol)) (bc (allI (Nat.sub (llen l) 2) fun j=>tb (atA A (Nat.sub (llen l) 2)) j) (allL (fun o=>match o.guard with
   | some (g,_)=>Nat.blt g (Nat.sub (llen l) 2)
   | none=>true) (preL l)) false) false) false
  | none=>false
 | none=>false
def drP1 (P:Program) (FT:Tr FI) (sub:Sub) (ct:Tr ZCC) (ov:List (Nat×Bool)) (s:ES) (os ops:Array Oper) (k:List IM) (A:List Nat) (M0:Mm) (x:Operand) (oc ol:Oper):Option (Bool×EO):=match canonF P (frF' P) (lF' P FT sub ct) (qF' P FT ct ov) ops A s.n s.top.N ops.toList 0 [] [] M0 s.top.T [] [] with
 | some c=>match exVal c.T x with
  | some (.yl _)=>some (bc (condsZ P FT sub ct ov ops s.n ops.toList 0 c.Ts c.Vs) (bc (chkAll (mlZ P FT ct) (ckZ P FT ct ov) ops A s.n c.Fl M0 c.R c.Ts (loudIdx c.R 0)) true false) false,drZ2 P FT ct s ops (.ops os [oc,ol]::k) A M0 c (loudIdx c.R 0))
  | _=>none
 | none=>none
def drP (P:Program) (FT:Tr FI) (sub:Sub) (ct:Tr ZCC) (ov:List (Nat×Bool)) (s:ES) (os:Array Oper) (k:List IM):Option (Bool×EO):=match lget os.toList (Nat.sub (llen os.toList) 2) with
 | some oc=>match dynC oc with
  | some x=>match lget os.toList (Nat.succ (Nat.sub (llen os.toList) 2)) with
   | some ol=>bc (preOk os.toList (ancs os.toList [])) (bc (statB os (ancs os.toList [])) (bc (statB (Array.mk (preL os.toList)) (ancs os.toList [])) (bc (Nat.ble (Nat.add s.n (llen (preL os.toList))) 65536)
     (drP1 P FT sub ct ov s os (Array.mk (preL os.toList)) k (ancs os.toList []) ⟨s.H,Nat.add s.n (llen (preL os.toList)),0⟩ x oc ol) none) none) none) none
   | none=>none
  | none=>none
 | none=>none
theorem zxp (hm:P.follows .mixedOrders=true) (hF:FTok P FT) {sub:Sub} (hsub:LoudOk P sub) {ct:Tr ZCC} (hct:ZCtsOk P ct) {ov:List (Nat×Bool)} {s:ES} {id:Nat} {os:Array Oper} {k:List IM} {todo:List Item} {ds:List Deferred} {ro:Option Nat} {frs:List Frame}
  (hret:s.top.ret=false) (h1:tmps.size=s.top.N) (h2:TOk γ s.top.T tmps) (hk:All2 (IR γ) k todo) (h4:All2 (DR γ) s.top.dfs ds) (h5:RR γ s.top.round ro) (hfs:All2 (FR γ) s.rest frs) (hH:HR γ w0 s.H s.n w) {r:Bool×EO}
  (h:drP P FT sub ct ov s os k=some r) (hcc:r.1=true) :
  SOk P γ w0 cs fid (lone (fram s.top.fn tmps (.code (.region id os true)::todo) ds ro) (frs++cs) w) r.2:=by
 unfold drP at h;split at h
 case h_2=>cases h
 rename_i oc hoc;split at h
 case h_2=>cases h
 rename_i x hdy;split at h
 case h_2=>cases h
 rename_i ol hol;rw [bc_eq] at h;split at h
 case isFalse=>cases h
 rename_i hpk;rw [bc_eq] at h;split at h
 case isFalse=>cases h
 rename_i hso;rw [bc_eq] at h;split at h
 case isFalse=>cases h
 rename_i hs;rw [bc_eq] at h;split at h
 case isFalse=>cases h
 rename_i hroom;have hroom:=Nat.le_of_ble_eq_true hroom;obtain ⟨A,hA⟩:∃ A,A=ancs os.toList []:=⟨_,rfl⟩;rw [← hA] at h hs hso hpk;obtain ⟨c0,hc0⟩:∃ c0,c0=Nat.sub (llen os.toList) 2:=⟨_,rfl⟩;rw [← hc0] at hoc hol;rw [zag] at hoc hol;have hoc':os[c0]? = some oc:=by simpa using hoc
 have hol':os[c0+1]? = some ol:=by simpa using hol
 -- what is asked of the region's shape
 have hshape:os.size=c0+2∧c0∈deps ol∧(∀ j,j<c0→tb (atA A c0) j=true)∧∀ o∈preL os.toList,∀ g b,o.guard=some (g,b)→g<c0:=by
  unfold preOk at hpk;rw [← hc0] at hpk;rw [zag,zag] at hpk;rw [hoc] at hpk;have hol2:os.toList[Nat.succ c0]? = some ol:=hol;rw [hol2] at hpk;simp only at hpk;obtain ⟨p1,hpk⟩:=bcT hpk;obtain ⟨p2,hpk⟩:=bcT hpk;obtain ⟨p3,p4⟩:=bcT hpk;refine ⟨?_,?_,fun j hj=>zig p3 j hj,fun o ho g b hgd=>?_⟩
  ·have:=Nat.eq_of_beq_eq_true p1;rw [zac] at this;simpa using this
  ·obtain ⟨d,hd,e⟩:=zie p2;rw [Nat.eq_of_beq_eq_true e];exact hd
  ·have:=zal p4 o ho;rw [hgd] at this;exact zad this
 obtain ⟨hsz,hdl,hanc,hgd⟩:=hshape;obtain ⟨ops,hops⟩:∃ ops:Array Oper,ops=Array.mk (preL os.toList):=⟨_,rfl⟩;rw [← hops] at h hs;have hopl:ops.toList=os.toList.take c0:=by rw [hops];show preL os.toList=_;unfold preL;rw [← hc0]
 have hosz:ops.size=c0:=by rw [← Array.length_toList,hopl,List.length_take];simp;omega
 have hpl:preL os.toList=ops.toList:=by rw [hops]
 rw [hpl] at h hroom hgd;have hpre:∀ i,i<ops.size→os[i]? = ops[i]?:=fun i hi=>by
  rw [← Array.getElem?_toList,← Array.getElem?_toList (xs:=ops),hopl,List.getElem?_take,if_pos (by omega)]
 unfold drP1 at h;split at h
 case h_2=>cases h
 rename_i c hc;split at h
 case h_2=>cases h
 injection h with h
 subst h;have hcc:bc (condsZ P FT sub ct ov ops s.n ops.toList 0 c.Ts c.Vs) (bc (chkAll (mlZ P FT ct) (ckZ P FT ct ov) ops (A) s.n c.Fl ⟨s.H,Nat.add s.n (llen ops.toList),0⟩ c.R c.Ts (loudIdx c.R 0)) true false) false=true:=hcc;obtain ⟨hcc,hcc2⟩:=bcT hcc;have hq:chkAll (mlZ P FT ct) (ckZ P FT ct ov) ops (A) s.n c.Fl ⟨s.H,Nat.add s.n (llen ops.toList),0⟩ c.R c.Ts (loudIdx c.R 0)=true:=(bcT hcc2).1;obtain ⟨R,T',Ts,Fl,Vs⟩:=c;have hst0:=zd5 hs
 obtain ⟨c1,c2,c3,_,c5,c6,_,c8⟩:=zeq (T0:=s.top.T) (R:=[]) (Ts:=[]) (Vs:=[]) hst0 hc ⟨s.H,Nat.add s.n (llen ops.toList),0⟩ rfl rfl (fun j o hj=>by simpa using hj) (fun s=>by simp [lw]) rfl;have c6:Fl=frl R 0:=c6;subst c6;show SOk P γ w0 cs fid _ (drZ2 P FT ct s ops (.ops os [oc,ol]::k) _ _ _ _);unfold drZ2;rw [bc_eq,bc_eq];split
 case isFalse=>trivial
 rename_i hl;split
 case isFalse=>trivial
 rename_i hf;have hll:llen ops.toList=ops.size:=by rw [zac];simp
 rw [hll] at hroom
 -- the condition of an operation
 have hcond:∀ (i:Nat) (o:Oper),ops[i]? = some o→condZ P FT sub ct ov ops (tabAt ops (A) s.top.T (R.take i) i o) o (vis (A) s.n (R.take i) i (memAt ⟨s.H,Nat.add s.n (llen ops.toList),0⟩ R i),(memAt ⟨s.H,Nat.add s.n (llen ops.toList),0⟩ R i).n) (s.n+i)=true:=fun i o ho=>by
  have h1:Ts[i]? = some (tabAt ops (A) s.top.T (R.take i) i o):=by simpa using c5 i o (by simpa using ho)
  have h2:Vs[i]? = some (vis (A) s.n (R.take i) i (memAt ⟨s.H,Nat.add s.n (llen ops.toList),0⟩ R i),(memAt ⟨s.H,Nat.add s.n (llen ops.toList),0⟩ R i).n):=by simpa using c8 i o (by simpa using ho)
  have:=zgf hcc i o _ _ (by simpa using ho) h1 h2
  rwa [Nat.zero_add] at this
 have hR:=zo8 (ml:=mlZ P FT ct) (q0:=ckZ P FT ct ov) (RO:=.nil) (T0:=s.top.T) hs c1 hl hq (fun i o ho=>by simpa using c5 i o (by simpa using ho))
  (fun i o ho hgd a k hfr=>by
   have hcd:=hcond i o ho;obtain ⟨c,hfc⟩:=zc3 hfr;unfold condZ at hcd;rw [hgd] at hcd;simp only [hfc] at hcd;exact zt8 hfc hcd)
  (fun T o H n a h=>by
   obtain ⟨c,hqc⟩:=zc3 h;exact zt0 hF hct hqc)
  (fun i o ho hgd hnf a h=>by
   have hcd:=hcond i o ho;obtain ⟨c,hqc⟩:=zc3 h;have hfn:fcZ P (tabAt ops (A) s.top.T (R.take i) i o) o (s.n+i)=none:=by
    cases e:fcZ P (tabAt ops (A) s.top.T (R.take i) i o) o (s.n+i) with
    | none=>rfl
    | some p=>have:frF' P (tabAt ops (A) s.top.T (R.take i) i o) o (s.n+i)=some p.2:=by unfold frF';rw [e];rfl
              rw [hnf] at this;cases this
   unfold condZ at hcd;rw [hgd] at hcd;simp only [hfn] at hcd;simp only [hqc] at hcd;obtain ⟨_,q1,q2⟩:=ziw (RO:=.nil) hF hct hqc hcd;exact ⟨q1,q2⟩)
  (fun i o ho _ H n a h _=>by
   unfold ckZ at h;split at h
   case h_2=>cases h
   rename_i p hp;obtain ⟨hc1,hc2⟩:=bcT h;rw [← zmo 12 _ _ hc2];exact (ziw (RO:=.nil) hF hct hp hc1).2.1)
  (fun i o ho hgd hnf hnq a H' n' h=>by
   have hcd:=hcond i o ho;obtain ⟨c,hlc⟩:=zc3 h;have hfn:fcZ P (tabAt ops (A) s.top.T (R.take i) i o) o (s.n+i)=none:=by
    cases e:fcZ P (tabAt ops (A) s.top.T (R.take i) i o) o (s.n+i) with
    | none=>rfl
    | some p=>have:frF' P (tabAt ops (A) s.top.T (R.take i) i o) o (s.n+i)=some p.2:=by unfold frF';rw [e];rfl
              rw [hnf] at this;cases this
   have hqn:qcZ P FT ct ov (tabAt ops (A) s.top.T (R.take i) i o) o (vis (A) s.n (R.take i) i (memAt ⟨s.H,Nat.add s.n (llen ops.toList),0⟩ R i)) (memAt ⟨s.H,Nat.add s.n (llen ops.toList),0⟩ R i).n=none:=by
    cases e:qcZ P FT ct ov (tabAt ops (A) s.top.T (R.take i) i o) o (vis (A) s.n (R.take i) i (memAt ⟨s.H,Nat.add s.n (llen ops.toList),0⟩ R i)) (memAt ⟨s.H,Nat.add s.n (llen ops.toList),0⟩ R i).n with
    | none=>rfl
    | some p=>have:qF' P FT ct ov (tabAt ops (A) s.top.T (R.take i) i o) o (vis (A) s.n (R.take i) i (memAt ⟨s.H,Nat.add s.n (llen ops.toList),0⟩ R i)) (memAt ⟨s.H,Nat.add s.n (llen ops.toList),0⟩ R i).n=some p.2:=by unfold qF';rw [e];rfl
              rw [hnq] at this;cases this
   unfold condZ at hcd;rw [hgd] at hcd;simp only [hfn] at hcd;simp only [hqn] at hcd;simp only [hlc] at hcd;exact zt5 hF hsub hct hlc hcd) hf rfl hroom
 obtain ⟨t,ht⟩:=zjp (P:=P) (w:=w) (cs:=frs++cs) (fn:=s.top.fn) (tmps:=tmps) (id:=id) (ops:=os) (k:=todo) (ds:=ds) (ro:=ro) hm;have hdst:∀ (i:Nat) (o:Oper),ops[i]? = some o→∀ d,o.dst=some d→d<s.top.N:=fun i o ho d hd=>by
  exact c3 o (List.mem_of_getElem? (show ops.toList[i]? = some o by simpa using ho)) d hd
 have hrep:(fun j=>(Array.replicate os.size false).getD j false)=fun _=>false:=funext fun j=>by
  simp only [Array.getD];split
  ·simp
  ·rfl
 obtain ⟨γ',tmps',w',hle,hst,hT2,hN2,hH2⟩:=hR.pre (w0:=w0) (cs:=frs++cs) (fun q hq=>(hH.rsv q hq).2) (fn:=s.top.fn) (k:=todo) (ds:=ds) (ro:=ro) (N:=s.top.N) hdst (zd5 hso) (by omega) hpre (by rw [hosz];exact hoc') (by rw [hosz];exact hol') (by rw [hosz];exact hdl) (by rw [hosz];exact hanc) (fun i o g b ho hgu=>by rw [hosz];exact hgd o (List.mem_of_getElem? (show ops.toList[i]? = some o by simpa using ho)) g b hgu) os.size t (Array.replicate os.size false) γ tmps { w with drawn:=w.drawn+1 } (ROk.none _ _) (by simp)
  (congrFun hrep _) (congrFun hrep _)
  (by rw [hrep];intro i _ hD;cases hD) (by exact Nat.le_trans (List.length_filter_le _ _) (by simp))
  (by rw [hrep];intro sl a hs;rw [zey (fun _ _ _ _=>rfl)] at hs;exact h2 sl a hs) h1
  (by
   rw [hrep];unfold HD;rw [zb6 (fun _ _ _ _=>rfl)];have h9:HR γ w0 s.H (s.n+llen ops.toList) { w with drawn:=w.drawn+1 }:=by
    have:=hH.step (w':={ w with drawn:=w.drawn+1 }) rfl rfl rfl rfl
    exact ⟨this.hp0,this.inj0,fun i hi=>this.fresh i (by omega),fun i hi=>let ⟨q1,q2⟩:=this.rsv i hi;⟨q1,by omega⟩,this.lt,this.stays,this.fzk⟩
   refine HR.reserve (h9.congr fun b c hb=>?_) fun i hi=>?_
   ·rw [hR.kd,zb6 (fun _ _ _ _=>rfl)] at hb;have hmp:fV (mpF (fun _=>false) R) s.n 0 R b=none:=by
     cases e:fV (mpF (fun _=>false) R) s.n 0 R b with
     | none=>rfl
     | some c=>
      obtain ⟨j,r,_,_,e2⟩:=zb0.1 e;have:=(zbu.1 e2).2.1;cases this
    rw [hmp,Option.none_or] at hb
    cases hv:frV (fun j=>bc (tb 0 j) false false) s.n 0 R b with
    | none=>rw [hv,Option.none_or] at hb;exact hb
    | some c2=>
     obtain ⟨j,r,_,_,h5,_⟩:=zao.1 hv;rw [bc_eq] at h5;split at h5 <;> cases h5
   ·rcases hi with hi|⟨j,h5,_,rfl⟩
    ·obtain ⟨q1,q2⟩:=hH.rsv i hi;exact ⟨q1,show i<s.n+llen ops.toList by omega⟩
    ·exact ⟨hH.fresh _ (by omega),show s.n+j<s.n+llen ops.toList by omega⟩)
 refine ⟨γ',_,hle,(Steps.one ht).trans hst,_,frs,w',rfl,⟨tmps',_,ds,ro,by simp [fram,hret,modeOf],hN2,fun sl a hs=>hT2 sl a ((c2 sl).symm.trans hs),.cons (.ops os [oc,ol] [ops.size,ops.size+1] (by rw [hosz];simp [hoc',hol'])) (hk.mono fun _ _ h=>h.mono hle),h4.mono fun _ _ h=>h.mono hle,h5.mono hle⟩,hfs.mono fun _ _ h=>h.mono hle,?_⟩;unfold HD at hH2;unfold KD at hH2;rw [← zgy] at hH2;exact (HR.lessRes (r':=w0.res) hH2 fun i hi=>.inl hi)
end
section
open Go.RowKit
variable {P:Program} {γ γ':G} {w0:Bs} {w:World} {H H':Tr EK} {n n':Nat} {T:Tr EV} {cs:List Frame} {fid:FuncId} {FT:Tr FI}
def zRes1 (P:Program) (T:Tr EV) (H:Tr EK) (r:ResultVar):Option (Bool×EV):=match r with
 | .tmp t=>match T.get t with
  | some a=>some (true,a)
  | none=>none
 | .cell a t=>match T.get a with
  | some (.ptr i off)=>match H.get i with
   | some (.seq _ c _)=>match aggOf P t with
    | some (some m)=>match c.vals with
     | some _=>bc (Nat.beq off 0) (some (Nat.beq m c.cnt,.arr c)) none
     | none=>none
    | _=>none
   | _=>match loadE P t i off H with
    | some a=>some (true,a)
    | none=>none
  | _=>none
def zResL (P:Program) (T:Tr EV) (H:Tr EK) (l:List ResultVar):Option (Bool×List EV):=List.rec (some (true,[])) (fun r _ ih=>match zRes1 P T H r with
 | some p=>match ih with
  | some q=>some (bc p.1 q.1 false,p.2::q.2)
  | none=>none
 | none=>none) l
theorem zwh (hH:HR γ w0 H n w) {t:TypeId} {i:Nat} {ty:TypeId} {c:SyC} {nn:Bool} {m:Nat} {vs:List Value} (hg:H.get i=some (.seq ty c nn)) {b:Pl} {m0:Nat} (hγ:γ i=some (b,m0)) (hag:aggOf P t=some (some m)) (hvs:c.vals=some vs) (hm:m=c.cnt):∃ x,(loadVar t (b.at 0)).run P w = .ok x w∧EC γ (.arr c) x:=by
 obtain ⟨hl,hz⟩:=SyC.vals_len hvs;have henc:=SyC.vals_enc hvs;obtain ⟨hagg,inf,hi,hs⟩:=zc9 hag;have key:∀ q y,vs[q]? = some y→w.cell? ((b.at 0).add q)=some y:=by
  intro q y hq
  by_cases h0:c.cnt=0
  ·have:vs=[]:=List.eq_nil_of_length_eq_zero (by omega);subst this;simp at hq
  ·have hlen:0<c.len:=by rw [c.len_cz,hz];omega
   obtain ⟨b2,m2,hγ2,_,ca,hb,hsz,hle,hcl⟩:=hH.hp i _ hg (zaq hlen);rw [hγ] at hγ2;simp only [Option.some.injEq,Prod.mk.injEq] at hγ2;obtain ⟨rfl,rfl⟩:=hγ2;rw [henc] at hcl;have e:=zdy hcl;rw [Pl.at_add,Nat.zero_add,(zaf hb).1,← Array.getElem?_toList];rw [← e,List.getElem?_take] at hq;split at hq
   ·rw [List.getElem?_drop] at hq;exact hq
   ·cases hq
 have hld:=run_loadCells_list (P:=P) w (b.at 0) vs key;rw [hl,← hm] at hld;refine ⟨.agg vs.toArray,?_,.arr c _ hvs⟩;simp only [loadVar,Sem.run_bind,Sem.run_pure,Result.andThen_ok,hagg w,if_true,sizeOf,typeInfo];simp [hi,hs,hld]
theorem zrm (hH:HR γ w0 H n w) {tmps:Array Value} (hT:TOk γ T tmps) {r:ResultVar} {p:Bool×EV} (h:zRes1 P T H r=some p) (hc:p.1=true):∃ x,(resF tmps r).run P w = .ok x w∧EC γ p.2 x:=by
 cases r with
 | tmp t=>
  unfold zRes1 at h;simp only at h;split at h
  case h_2=>cases h
  rename_i a ha;injection h with h;subst h
  obtain ⟨x,hx,hcx⟩:=hT t a ha;exact ⟨x,by simp [resF,getD_of hx],hcx⟩
 | cell ad t=>
  unfold zRes1 at h;simp only at h;split at h
  case h_2=>cases h
  rename_i i off hg;obtain ⟨x,hx,hcx⟩:=hT ad _ hg;obtain ⟨b,m,hγ,rfl⟩:=zcc hcx;split at h
  ·rename_i hk;split at h
   case h_2=>cases h
   rename_i hag;split at h
   case h_2=>cases h
   rename_i vs hvs;rw [bc_eq] at h;split at h
   case isFalse=>cases h
   rename_i hz;have hz:=Nat.eq_of_beq_eq_true hz;subst hz;injection h with h;subst h
   obtain ⟨y,hy,hcy⟩:=zwh hH hk hγ hag hvs (Nat.eq_of_beq_eq_true hc);exact ⟨y,by simp [resF,getD_of hx,asAddr,hy],hcy⟩
  ·split at h
   case h_2=>cases h
   rename_i a ha;injection h with h;subst h
   obtain ⟨y,hy,hcy⟩:=zl7 (P:=P) hH hγ ha;exact ⟨y,by simp [resF,getD_of hx,asAddr,hy],hcy⟩
theorem zk9 (hH:HR γ w0 H n w) {tmps:Array Value} (hT:TOk γ T tmps):∀ {rs:List ResultVar} {l:Bool×List EV},zResL P T H rs=some l→l.1=true→∃ vs,(rs.mapM (resF tmps)).run P w = .ok vs w∧ECL γ l.2 vs
 | [],l,h,_=>by
  have h':some (true,[])=some l:=h;injection h' with h';subst h'
  exact ⟨[],by simp,ECL.nil γ⟩
 | r::rs,l,h,hc=>by
  have h':(match zRes1 P T H r with
   | some p=>match zResL P T H rs with
    | some q=>some (bc p.1 q.1 false,p.2::q.2)
    | none=>none
   | none=>none)=some l:=h
  split at h'
  case h_2=>cases h'
  rename_i p hp;split at h'
  case h_2=>cases h'
  rename_i q hq;injection h' with h';subst h'
  have hc:bc p.1 q.1 false=true:=hc;have hp1:p.1=true:=by cases e:p.1 <;> rw [e] at hc <;> first|rfl|cases hc
  rw [hp1] at hc;obtain ⟨vs,hr,hcs⟩:=zk9 hH hT hq hc;obtain ⟨x,hx,hcx⟩:=zrm hH hT hp hp1;refine ⟨x::vs,?_,ECL.cons hcx hcs⟩;rw [List.mapM_cons];simp only [Sem.run_bind,hx,hr,Result.andThen_ok,Sem.run_pure]
theorem zResults (hH:HR γ w0 H n w) {tmps:Array Value} (hT:TOk γ T tmps) {fn:Func} {rs:List ResultVar} (hrs:fn.results=rs.toArray) {l:Bool×List EV} (h:zResL P T H rs=some l) (hc:l.1=true):∃ v,(results fn tmps).run P w = .ok v w∧EC γ (resE l.2) v:=by
 obtain ⟨vs,hr,hcs⟩:=zk9 hH hT h hc;refine ⟨resV vs,?_,zpa hcs⟩;rw [zgr,hrs,Array.mapM_eq_mapM_toList];simp only [Sem.run_bind];have hm:(List.toArray <$> rs.toArray.toList.mapM (resF tmps)).run P w = .ok vs.toArray w:=by
  simp [hr]
 rw [hm]
 match vs with
 | []=>simp [resV]
 | [a]=>simp [resV]
 | a::b::l=>simp [resV]
def zRet (P:Program) (FT:Tr FI) (fid:FuncId) (s:ES):Bool×EO:=match s.top.dfs with
 | []=>match FT.get s.top.fn with
  | some i=>match zResL P s.top.T s.H i.res with
   | some l=>(l.1,match s.rest with
    | []=>bc (Nat.beq s.top.fn fid) (.done (resE l.2) s.H s.n) .fail
    | _=>giveTo s.rest (resE l.2) s.H s.n)
   | none=>(true,.fail)
  | none=>(true,.fail)
 | _=>(true,exRet P FT fid s)
theorem zuo (hF:FTok P FT) {s:ES} {tmps:Array Value} {todo:List Item} {ds:List Deferred} {ro:Option Nat} {frs:List Frame}
  (hret:s.top.ret=true) (h1:tmps.size=s.top.N) (h2:TOk γ s.top.T tmps) (h3:All2 (IR γ) s.top.todo todo) (h4:All2 (DR γ) s.top.dfs ds) (h5:RR γ s.top.round ro) (hfs:All2 (FR γ) s.rest frs) (hH:HR γ w0 s.H s.n w) (hc:(zRet P FT fid s).1=true) :
  SOk P γ w0 cs fid (lone { fram s.top.fn tmps todo ds ro with mode:=.returning } (frs++cs) w) (zRet P FT fid s).2:=by
 unfold zRet at hc ⊢;split at hc
 ·rename_i hdfs;rw [hdfs] at h4;cases h4;split at hc
  ·rename_i i hi;split at hc
   ·rename_i l hl;obtain ⟨⟨fn,hf,hN,hres,hb,hname⟩,_⟩:=hF _ i hi;obtain ⟨v,hv,hcv⟩:=zResults hH h2 hres hl hc;show SOk P γ w0 cs fid _ (match s.rest with
     | []=>bc (Nat.beq s.top.fn fid) (.done (resE l.2) s.H s.n) .fail
     | _=>giveTo s.rest (resE l.2) s.H s.n)
    split
    ·rename_i hrest;rw [hrest] at hfs;cases hfs;rw [bc_eq];split
     ·rename_i hid;exact ⟨γ,_,w,v,GLe.refl γ,Steps.refl P _,Nat.eq_of_beq_eq_true hid,⟨rfl,rfl,rfl,fn,hf,hv⟩,hcv,hH⟩
     ·trivial
    ·refine zf3 hfs hH hcv fun c r hcr=>?_;subst hcr;exact .one (zim hf hv)
   ·trivial
  ·trivial
 ·exact zml hF hret h1 h2 h3 h4 h5 hfs hH
end
section
open Go.RowKit Go.MapKept
variable {P:Program} {γ γ':G} {w0:Bs} {w:World} {H H':Tr EK} {n n':Nat} {T:Tr EV} {tmps:Array Value} {o:Oper}
def liftV (es:List (Value×Value)):List (Value×EV):=List.rec [] (fun p _ ih=>(p.1,.v p.2)::ih) es
theorem ML.lift (γ:G):∀ es:List (Value×Value),ML γ (liftV es) es
 | []=>.nil
 | p::es=>.cons p.1 (.v p.2) (ML.lift γ es)
theorem ML.unlift:∀ {es l:List (Value×Value)},ML γ (liftV es) l→l=es
 | [],l,h=>by cases h;rfl
 | p::es,l,h=>by
  have h':ML γ ((p.1,EV.v p.2)::liftV es) l:=h
  cases h' with
  | cons _ hc hr=>rw [ML.unlift hr,ec_v hc]
def keysV (d:TypeDesc) (es:List (Value×Value)):Bool:=List.rec true (fun p _ ih=>bc (isKeyB d p.1) ih false) es
def dropV (d:TypeDesc) (k:Value) (es:List (Value×Value)):List (Value×Value):=List.rec [] (fun p _ ih=>bc (kEq d k p.1) ih (p::ih)) es
def setV (d:TypeDesc) (k x:Value) (es:List (Value×Value)):List (Value×Value):=(k,x)::dropV d k es
theorem zhv {d:TypeDesc}:∀ {es:List (Value×Value)},keysV d es=true→keysB d (liftV es)=true
 | [],_=>rfl
 | p::es,h=>by
  obtain ⟨h1,h2⟩:=bcT (show bc (isKeyB d p.1) (keysV d es) false=true from h);show bc (isKeyB d p.1) (keysB d (liftV es)) false=true;rw [h1];exact zhv h2
theorem ze5 (d:TypeDesc) (k:Value):∀ es:List (Value×Value),dropE d k (liftV es)=liftV (dropV d k es)
 | []=>rfl
 | p::es=>by
  show bc (kEq d k p.1) (dropE d k (liftV es)) ((p.1,EV.v p.2)::dropE d k (liftV es))=liftV (bc (kEq d k p.1) (dropV d k es) (p::dropV d k es));rw [ze5 d k es];cases kEq d k p.1 <;> rfl
theorem zo6 (d:TypeDesc) (k x:Value) (es:List (Value×Value)):setEnt d k (.v x) (liftV es)=liftV (setV d k x es):=by
 show (k,EV.v x)::dropE d k (liftV es)=(k,EV.v x)::liftV (dropV d k es);rw [ze5]
def mpoAt (T:Tr EV) (H:Tr EK) (m:Operand):Option (Nat×List (Value×Value)):=match exVal T m with
 | some (.mp i)=>match H.get i with
  | some (.mpo es)=>some (i,es)
  | _=>none
 | _=>none
theorem zl1 (hT:TOk γ T tmps) (hH:HR γ w0 H n w) {m:Operand} {i:Nat} {es:List (Value×Value)} (h:mpoAt T H m=some (i,es)) :
  ∃ (b:Pl) (q:Nat) (ents:Array MapEntry) (clock:Nat),γ i=some (b,q)∧opEval tmps m = .map (some b.k)∧H.get i=some (.mpo es)∧w.heap[b.k]? = some (.map ents clock)∧Stamped ents clock∧(kvs ents).Perm es:=by
 unfold mpoAt at h;split at h
 case h_2=>cases h
 rename_i j hm;split at h
 case h_2=>cases h
 rename_i es' hg;simp only [Option.some.injEq,Prod.mk.injEq] at h;obtain ⟨rfl,rfl⟩:=h;have hc:=zaa hT hm;generalize hy:opEval tmps m=y at hc
 cases hc with
 | mp _ b q hγ=>
  obtain ⟨b2,q2,h1,_,ents,clock,h2,h3,h4⟩:=hH.hp j _ hg (by exact id);rw [hγ] at h1;simp only [Option.some.injEq,Prod.mk.injEq] at h1;obtain ⟨rfl,rfl⟩:=h1;exact ⟨b,q,ents,clock,hγ,rfl,hg,h2,h3,h4⟩
def zMapUpd (P:Program) (T:Tr EV) (t:TypeId) (m k x:Operand) (H:Tr EK) (n:Nat):Option YR:=match mpoAt T H m with
 | some (i,es)=>match mapOf P t with
  | some (_,_,d)=>match exVal T k with
   | some (.v kv)=>match exVal T x with
    | some (.v xv)=>bc (Nat.ble i 65535) (some ⟨bc (isKeyB d kv) (keysV d es) false,⟨none,H.put i (some (.mpo (setV d kv xv es))),n⟩⟩) none
    | _=>none
   | _=>none
  | none=>none
 | none=>none
theorem zm8 (hT:TOk γ T tmps) (hH:HR γ w0 H n w) {t:TypeId} {m k x:Operand} {r:YR} (ho:execOp (opEval tmps) o=(do Instr.mapUpdate t (opEval tmps m) (opEval tmps k) (opEval tmps x);pure Next.skip:Sem Next)) (h:zMapUpd P T t m k x H n=some r) (hc:r.c=true):Gives P γ w0 w (execOp (opEval tmps) o) r.er.val r.er.H r.er.n:=by
 unfold zMapUpd at h;split at h
 case h_2=>cases h
 rename_i i es hm;split at h
 case h_2=>cases h
 rename_i kt e d ht;split at h
 case h_2=>cases h
 rename_i kv hk;split at h
 case h_2=>cases h
 rename_i xv hx;rw [bc_eq] at h;split at h
 case isFalse=>cases h
 rename_i hi;injection h with h;subst h
 obtain ⟨hkey,hkeys⟩:=bcT hc;obtain ⟨b,q,ents,clock,hγ,hv,hg,hb,hs,hp⟩:=zl1 hT hH hm;obtain ⟨hu,hd⟩:=zdg ht;have hkv:=ec_v (zaa hT hk);obtain ⟨ents',clock',r1,r2,l',r3,r4⟩:=zpq (w:=w) hu hd (zbw hkey) (zdh (zhv hkeys)) hb hs hp (ML.lift γ es) (zaa hT hx);rw [zo6] at r4;have e4:=ML.unlift r4;subst e4;have hlt:=(Array.getElem?_eq_some_iff.1 hb).1
 refine ⟨γ,w.putObj b.k (.map ents' clock'),GLe.refl γ,hH.turn hi hg hγ _ (fun c hc=>World.putObj_heap_other hc) (by simp) rfl rfl rfl ⟨ents',clock',World.putObj_heap_same hlt,r2,r3⟩,?_⟩;show (execOp (opEval tmps) o).run P w = .ok .skip _;rw [ho,hv,hkv];simp [r1,Result.andThen]
def zMapDel (P:Program) (T:Tr EV) (args:List Operand) (ats:List TypeId) (H:Tr EK) (n:Nat):Option YR:=match args with
 | [m,k]=>match ats with
  | t::_=>match mpoAt T H m with
   | some (i,es)=>match mapOf P t with
    | some (_,_,d)=>match exVal T k with
     | some (.v kv)=>bc (Nat.ble i 65535) (some ⟨bc (isKeyB d kv) (keysV d es) false,⟨some (.v (.tuple #[])),H.put i (some (.mpo (dropV d kv es))),n⟩⟩) none
     | _=>none
    | none=>none
   | none=>none
  | _=>none
 | _=>none
theorem zm9 (hT:TOk γ T tmps) (hH:HR γ w0 H n w) {args:Array Operand} {ats:Array TypeId} {r:YR} (ho:o.op = .call { callee:=.builtin .delete,args:=args,argTypes:=ats }) (h:zMapDel P T args.toList ats.toList H n=some r) (hc:r.c=true) :
  Gives P γ w0 w (execOp (opEval tmps) o) r.er.val r.er.H r.er.n:=by
 unfold zMapDel at h;split at h
 case h_2=>cases h
 rename_i m k hargs;split at h
 case h_2=>cases h
 rename_i t ts hats;split at h
 case h_2=>cases h
 rename_i i es hm;split at h
 case h_2=>cases h
 rename_i kt e d ht;split at h
 case h_2=>cases h
 rename_i kv hk;rw [bc_eq] at h;split at h
 case isFalse=>cases h
 rename_i hi;injection h with h;subst h
 obtain ⟨hkey,hkeys⟩:=bcT hc;have ha2:args = #[m,k]:=by apply Array.ext';simpa using hargs
 have ha3:ats=(t::ts).toArray:=by apply Array.ext';simpa using hats
 subst ha2;subst ha3;obtain ⟨b,q,ents,clock,hγ,hv,hg,hb,hs,hp⟩:=zl1 hT hH hm;obtain ⟨hu,hd⟩:=zdg ht;have hkv:=ec_v (zaa hT hk);obtain ⟨ents',r1,r2,l',r3,r4⟩:=zt3 (w:=w) (ty:=o.type) (ts:=ts) hu hd (zbw hkey) (zdh (zhv hkeys)) hb hs hp (ML.lift γ es);rw [ze5] at r4;have e4:=ML.unlift r4;subst e4;have hlt:=(Array.getElem?_eq_some_iff.1 hb).1
 refine ⟨γ,w.putObj b.k (.map ents' clock),GLe.refl γ,hH.turn hi hg hγ _ (fun c hc=>World.putObj_heap_other hc) (by simp) rfl rfl rfl ⟨ents',clock,World.putObj_heap_same hlt,r2,r3⟩,.tuple #[],?_,.v _⟩;simp [execOp,ho,resolve,invoke,builtin,hv,hkv,r1]
def flM (ct:Tr ZCC):Bool:=Option.isSome (ct.get 1)
def zMapMk (ct:Tr ZCC) (hint:Option Operand) (H:Tr EK) (n:Nat):Option YR:=match hint with
 | none=>bc (flM ct) (bc (Nat.ble n 65535) (some ⟨true,⟨some (.mp n),H.put n (some (.mpo [])),Nat.succ n⟩⟩) none) none
 | some _=>none
theorem zn4 {ct:Tr ZCC} (hH:HR γ w0 H n w) {t:TypeId} {hint:Option Operand} {r:YR} (ho:o.op = .makeMap t hint) (h:zMapMk ct hint H n=some r):Gives P γ w0 w (execOp (opEval tmps) o) r.er.val r.er.H r.er.n:=by
 unfold zMapMk at h;split at h
 case h_2=>cases h
 rw [bc_eq] at h;split at h
 case isFalse=>cases h
 rw [bc_eq] at h;split at h
 case isFalse=>cases h
 rename_i hn;injection h with h;subst h
 have hnew:HR (γ.upd n (⟨w.heap.size,0⟩,0)) w0 (H.put n (some (.mpo []))) (n+1) (w.alloc (.map #[] 0)):=hH.new hn (.map #[] 0) 0 (.mpo []) rfl rfl rfl rfl ⟨#[],0,World.alloc_heap_new w (.map #[] 0),stamped_empty 0,by simp [kvs]⟩;exact ⟨_,w.alloc (.map #[] 0),G.upd_le (hH.fresh n (Nat.le_refl _)),hnew,.map (some w.heap.size),zds ho w,.mp n ⟨w.heap.size,0⟩ 0 G.upd_same⟩
def zMapO (P:Program) (ct:Tr ZCC) (T:Tr EV) (o:Oper) (H:Tr EK) (n:Nat):Option YR:=match o.op with
 | .makeMap _ hint=>zMapMk ct hint H n
 | .mapUpdate t m k x=>zMapUpd P T t m k x H n
 | .call c=>match c.callee with
  | .builtin .delete=>zMapDel P T c.args.toList c.argTypes.toList H n
  | _=>none
 | _=>none
theorem zrq {ct:Tr ZCC} {r:YR} (h:zMapO P ct T o H n=some r):notDefer o.op=true:=by
 unfold zMapO at h;split at h
 all_goals first|(rename_i ho;rw [ho];rfl)|cases h
theorem zrp {ct:Tr ZCC} (hT:TOk γ T tmps) (hH:HR γ w0 H n w) {r:YR} (h:zMapO P ct T o H n=some r) (hc:r.c=true):Gives P γ w0 w (execOp (opEval tmps) o) r.er.val r.er.H r.er.n:=by
 unfold zMapO at h;split at h
 ·rename_i t hint ho;exact zn4 hH ho h
 ·rename_i t m k x ho;exact zm8 hT hH (by unfold execOp;rw [ho]) h hc
 ·rename_i c ho;split at h
  case h_2=>cases h
  rename_i hcal;obtain ⟨callee,args,ats⟩:=c;simp only at hcal;subst hcal;exact zm9 hT hH ho h hc
 ·cases h
end
section
open Go.RowKit
variable {P:Program} {γ γ':G} {w0:Bs} {w:World} {H H':Tr EK} {n n':Nat} {T:Tr EV} {tmps:Array Value} {o:Oper}
def RowB (γ:G) (i v:Nat) (sh:List Sh) (rows:List (List U)) (k:Nat):Prop:=∃ (j f:Nat) (s:List Sh) (m:Nat×Nat),j<rows.length∧sh[f]? = some (.list s)∧γ.rw i v (j*sh.length+f)=some (k,m)
def HR.baseN (h:HR γ w0 H n w) {i v:Nat} {ty:TypeId×List TypeId} {sh:List Sh} {rows:List (List U)} {nn:Bool} (hg:H.get i=some (.nest i ty sh rows v [] nn)):Bs:=⟨w,fun c=>w0.F c∨RowB γ i v sh rows c,fun c hc=>by
 rcases hc with hc|⟨j,f,s,m,h1,h2,h3⟩
 ·have h1:=w0.lt c hc
  have h2:=h.stays.size
  omega
 ·obtain ⟨_,_,_,_,arr,ty',⟨fz,h5,_⟩,_⟩:=h.fzk.nst.at' i i ty sh rows v [] nn hg j f s h1 h2 (by simp) c m h3
  exact (Array.getElem?_eq_some_iff.1 h5).1,w0.res,w0.fb⟩
theorem HR.nestCells (h:HR γ w0 H n w) {i v:Nat} (hi:Nat.ble i 65535=true) {ty:TypeId×List TypeId} {sh:List Sh} {rows:List (List U)} {nn:Bool} (hg:H.get i=some (.nest i ty sh rows v [] nn)) (hnil:¬ (EK.nest i ty sh rows v [] nn).Nil) {CS:List EV} (hk:∀ b m,γ i=some (b,m)→(EK.nest i ty sh rows v [] nn).ok γ b m w→(EK.cells ty.1 CS false).ok γ b m w) :
  HR γ (h.baseN hg) (H.put i (some (.cells ty.1 CS false))) n w:=by
 have look:∀ q kq,(H.put i (some (.cells ty.1 CS false))).get q=some kq→(q=i∧kq = .cells ty.1 CS false)∨(q≠i∧H.get q=some kq):=fun q kq hq=>by
  rw [Tr.get_put hi] at hq;split at hq
  ·rename_i e;injection hq with hq;exact .inl ⟨e,hq.symm⟩
  ·rename_i e;exact .inr ⟨e,hq⟩
 have back:∀ q kq,(H.put i (some (.cells ty.1 CS false))).get q=some kq→¬ kq.Nil→∃ k1,H.get q=some k1∧¬ k1.Nil:=fun q kq hq nq=>by
  rcases look q kq hq with ⟨rfl,_⟩|⟨_,g2⟩
  ·exact ⟨_,hg,hnil⟩
  ·exact ⟨kq,g2,nq⟩
 have nF:∀ q k1 b m,H.get q=some k1→¬ k1.Nil→γ q=some (b,m)→¬ w0.F b.k→¬ (h.baseN hg).F b.k:=fun q k1 b m h1 h2 h3 h4 hf=>by
  rcases hf with hf|⟨j,f,s,m2,r1,r2,r3⟩
  ·exact h4 hf
  ·obtain ⟨_,_,g3,_⟩:=h.fzk.nst.at' i i ty sh rows v [] nn hg j f s r1 r2 (by simp) _ m2 r3;exact g3 q k1 b m h1 h2 h3 rfl
 refine ⟨fun q kq hq=>?_,fun q l kq kl hq hl nq nl hne bq bl eq el=>?_,h.fresh,h.rsv,h.lt,⟨rfl,rfl,rfl,Nat.le_refl _,fun _ _=>rfl⟩,⟨fun k a hk'=>?_,h.fzk.base,h.fzk.nst.rwg,fun q me2 ty2 sh2 rows2 v2 ho2 nn2 e=>?_,fun q me2 ty2 sh2 rows2 v2 ho2 nn2 e j1 f1 x1 hj1 hf1 hh1 k1 m1 hk1=>?_⟩⟩
 ·rcases look q kq hq with ⟨rfl,rfl⟩|⟨_,g2⟩
  ·obtain ⟨b,m,h1,h2,h3⟩:=h.hp q _ hg hnil;exact .inr ⟨b,m,h1,nF q _ b m hg hnil h1 h2,hk b m h1 h3⟩
  ·refine h.imp0 g2 fun nk b m h1 h2 h3=>⟨b,m,h1,nF q kq b m g2 nk h1 h2,h3⟩
 ·obtain ⟨k1,q1,q2⟩:=back q kq hq nq;obtain ⟨k2,r1,r2⟩:=back l kl hl nl;exact h.inj0 q l k1 k2 q1 r1 q2 r2 hne bq bl eq el
 ·obtain ⟨q1,q2,q3⟩:=h.fzk.at' k a hk';refine ⟨q1,?_,fun q kq b m hq nq eq=>?_⟩
  ·rcases q2 with q2|q2
   ·exact .inl q2
   ·refine .inr fun hf=>?_;rcases hf with hf|⟨j,f,s,m2,r1,r2,r3⟩
    ·exact q2 hf
    ·obtain ⟨_,g2,_⟩:=h.fzk.nst.at' i i ty sh rows v [] nn hg j f s r1 r2 (by simp) _ m2 r3;rw [hk'] at g2;cases g2
  ·obtain ⟨k1,r1,r2⟩:=back q kq hq nq;exact q3 q k1 b m r1 r2 eq
 ·rcases look q _ e with ⟨_,h2⟩|⟨_,g2⟩
  ·cases h2
  ·exact h.fzk.nst.me q me2 ty2 sh2 rows2 v2 ho2 nn2 g2
 ·rcases look q _ e with ⟨_,h2⟩|⟨hqi,g2⟩
  ·cases h2
  ·obtain ⟨q1,q2,q3,q4,q5⟩:=h.fzk.nst.at' q me2 ty2 sh2 rows2 v2 ho2 nn2 g2 j1 f1 x1 hj1 hf1 hh1 k1 m1 hk1;refine ⟨fun hf=>?_,q2,fun i' ki b m' hi' ni ei=>?_,fun i2 me3 ty3 sh3 rows3 v3 ho3 nn3 e2 j2 f2 s2 hj2 hf2 hh2 m2 hk2=>?_,q5⟩
   ·rcases hf with hf|⟨j,f,s,m2,r1,r2,r3⟩
    ·exact q1 hf
    ·have:=q4 i i ty sh rows v [] nn hg j f s r1 r2 (by simp) m2 r3;exact hqi this.1.symm
   ·obtain ⟨k2,r1,r2⟩:=back i' ki hi' ni;exact q3 i' k2 b m' r1 r2 ei
   ·rcases look i2 _ e2 with ⟨_,h2⟩|⟨_,r2⟩
    ·cases h2
    ·exact q4 i2 me3 ty3 sh3 rows3 v3 ho3 nn3 r2 j2 f2 s2 hj2 hf2 hh2 m2 hk2
def G.nestAt (γ γ':G) (n i v L:Nat):G:=⟨fun a=>if a=n+1 then γ' n else γ' a,γ'.fz,fun a v' q=>if a=n+1 then (if v'=0∧q<L then γ.rw i v q else none) else γ'.rw a v' q⟩
theorem HR.nestBack {B:Bs} {i v:Nat} {ty:TypeId×List TypeId} {s1:List Sh} {rows:List (List U)} (hnb:Nat.ble n 65535=true) (hnb2:Nat.ble (n+1) 65535=true) {H1:Tr EK} {w':World} (h':HR γ' B H1 (n+1) w') (hst:w0.Stays w') (sub:∀ k,w0.F k→B.F k) (hfb:∀ k,B.fb k↔w0.fb k) (hrsv:∀ q,w0.res q→B.res q)
  (hrow:∀ j k m,j<rows.length→γ.rw i v j=some (k,m)→B.F k∧¬ w0.F k∧¬ w0.fb k∧(∀ j2 m2,j2<rows.length→γ.rw i v j2=some (k,m2)→j2=j)∧∃ (arr:Array Value) (ty':TypeId),Cl w' k arr ty'∧(arr.size=m.1+m.2∧ty'=ty.2.getD 0 0)∧∀ (a g:Nat) (s:Sh),a<(((rows.getD j []).getD 0 (.i 0)).list).length→s1[g]? = some s→∃ x,arr[m.1+(a*s1.length+g)]? = some x∧EC γ' (s.ev (((((rows.getD j []).getD 0 (.i 0)).list).getD a []).getD g (.i 0))) x)
  {CS:List EV} (hg1:H1.get n=some (.cells ty.1 CS false)) {r0:List U}
  (hok:∀ b m,γ' n=some (b,m)→(EK.cells ty.1 CS false).ok γ' b m w'→(EK.nest (n+1) ty [.list s1] (rows++[r0]) 0 [(rows.length,0)] true).ok (G.nestAt γ γ' n i v rows.length) b m w') :
  GLe γ' (G.nestAt γ γ' n i v rows.length)∧HR (G.nestAt γ γ' n i v rows.length) w0 ((H1.put n none).put (n+1) (some (.nest (n+1) ty [.list s1] (rows++[r0]) 0 [(rows.length,0)] true))) (n+2) w':=by
 have hfr:γ' (n+1)=none:=h'.fresh _ (Nat.le_refl _);have hrwn:∀ v' q,γ'.rw (n+1) v' q=none:=fun v' q=>by
  cases e:γ'.rw (n+1) v' q with
  | none=>rfl
  | some p=>obtain ⟨b,hb⟩:=h'.fzk.nst.rwg _ _ _ _ e;rw [hfr] at hb;cases hb
 have gN:(G.nestAt γ γ' n i v rows.length) (n+1)=γ' n:=if_pos rfl;have gO:∀ a,a≠n+1→(G.nestAt γ γ' n i v rows.length) a=γ' a:=fun a ha=>if_neg ha;have rO:∀ a v' q,a≠n+1→(G.nestAt γ γ' n i v rows.length).rw a v' q=γ'.rw a v' q:=fun a v' q ha=>if_neg ha;have rN:∀ v' q,(G.nestAt γ γ' n i v rows.length).rw (n+1) v' q=if v'=0∧q<rows.length then γ.rw i v q else none:=fun v' q=>if_pos rfl
 have hle2:GLe γ' (G.nestAt γ γ' n i v rows.length):=by
  refine ⟨fun a p e=>?_,fun k a e=>e,fun a v' q p e=>?_⟩
  ·have:a≠n+1:=fun x=>by rw [x,hfr] at e;cases e
   rw [gO a this];exact e
  ·have:a≠n+1:=fun x=>by rw [x,hrwn] at e;cases e
   rw [rO a v' q this];exact e
 refine ⟨hle2,?_⟩;have look:∀ q kq,((H1.put n none).put (n+1) (some (.nest (n+1) ty [.list s1] (rows++[r0]) 0 [(rows.length,0)] true))).get q=some kq→(q=n+1∧kq = .nest (n+1) ty [.list s1] (rows++[r0]) 0 [(rows.length,0)] true)∨(q≠n+1∧q≠n∧H1.get q=some kq):=fun q kq hq=>by
  rw [Tr.get_put hnb2] at hq;split at hq
  ·rename_i e;injection hq with hq;exact .inl ⟨e,hq.symm⟩
  ·rename_i e;rw [Tr.get_put hnb] at hq;split at hq
   ·cases hq
   ·rename_i e2;exact .inr ⟨e,e2,hq⟩
 have cn:¬ (EK.cells ty.1 CS false).Nil:=id;have back:∀ q kq,((H1.put n none).put (n+1) (some (.nest (n+1) ty [.list s1] (rows++[r0]) 0 [(rows.length,0)] true))).get q=some kq→¬ kq.Nil→∃ q1 k1,H1.get q1=some k1∧¬ k1.Nil∧(G.nestAt γ γ' n i v rows.length) q=γ' q1∧(q=n+1∧q1=n∨q≠n+1∧q≠n∧q1=q):=fun q kq hq nq=>by
  rcases look q kq hq with ⟨rfl,_⟩|⟨g1,g2,g3⟩
  ·exact ⟨n,_,hg1,cn,gN,.inl ⟨rfl,rfl⟩⟩
  ·exact ⟨q,kq,g3,nq,gO q g1,.inr ⟨g1,g2,rfl⟩⟩
 refine ⟨fun q kq hq=>?_,fun q l kq kl hq hl nq nl hne bq bl eq el=>?_,fun q hq=>?_,fun q hq=>?_,fun q p e=>?_,hst,⟨fun k a hk=>?_,fun k hk=>h'.fzk.base k ((hfb k).2 hk),fun a v' q p e=>?_,fun q me2 ty2 sh2 rows2 v2 ho2 nn2 e=>?_,fun q me2 ty2 sh2 rows2 v2 ho2 nn2 e j1 f1 x1 hj1 hf1 hh1 k1 m1 hk1=>?_⟩⟩
 ·rcases look q kq hq with ⟨rfl,rfl⟩|⟨g1,g2,g3⟩
  ·obtain ⟨b,m,e1,e2,e3⟩:=h'.hp n _ hg1 cn;exact .inr ⟨b,m,gN.trans e1,fun hf=>e2 (sub _ hf),hok b m e1 e3⟩
  ·refine h'.imp0 g3 fun nk b m e1 e2 e3=>⟨b,m,(gO q g1).trans e1,fun hf=>e2 (sub _ hf),?_⟩
   cases kq with
   | nest me2 ty2 sh2 rows2 v2 ho2 nn2=>
    obtain ⟨rfl,_⟩:=h'.fzk.nst.me q me2 ty2 sh2 rows2 v2 ho2 nn2 g3;obtain ⟨c,c1,c2,c3,c4⟩:=e3;refine ⟨c,c1,c2,c3,fun j f s hj hf hh=>?_⟩;obtain ⟨x,x1,x2⟩:=c4 j f s hj hf hh;refine ⟨x,x1,?_⟩
    cases s with
    | list sh=>
     rcases x2 with ⟨y1,y2⟩|⟨k,m,c',y1,y2⟩
     ·exact .inl ⟨trivial,y2⟩
     ·exact .inr ⟨k,m,c',(rO _ _ _ g1).trans y1,y2⟩
    | int k=>exact EC.mono hle2 x2
    | bool=>exact EC.mono hle2 x2
    | str=>exact EC.mono hle2 x2
   | _=>exact EK.ok_monoB rfl hle2 rfl e3
 ·obtain ⟨q1,k1,a1,a2,a3,a4⟩:=back q kq hq nq;obtain ⟨q2,k2,b1,b2,b3,b4⟩:=back l kl hl nl;rw [a3] at eq;rw [b3] at el;refine h'.inj0 q1 q2 k1 k2 a1 b1 a2 b2 ?_ bq bl eq el;rcases a4 with ⟨r1,r2⟩|⟨r1,r2,r3⟩ <;> rcases b4 with ⟨t1,t2⟩|⟨t1,t2,t3⟩ <;> omega
 ·rw [gO q (by omega)];exact h'.fresh q (by omega)
 ·have:=h'.rsv q (hrsv q hq);exact ⟨(gO q (by omega)).trans this.1,by omega⟩
 ·by_cases hq:q=n+1
  ·rw [hq,gN] at e;exact h'.lt n p e
  ·rw [gO q hq] at e;exact h'.lt q p e
 ·obtain ⟨q1,q2,q3⟩:=h'.fzk.at' k a hk;refine ⟨q1,q2.imp (hfb k).1 fun q2 hf=>q2 (sub k hf),fun q kq b m hq nq eq=>?_⟩;obtain ⟨r1,k1,a1,a2,a3,_⟩:=back q kq hq nq;rw [a3] at eq;exact q3 r1 k1 b m a1 a2 eq
 ·by_cases ha:a=n+1
  ·subst ha;obtain ⟨b,m,e1,_⟩:=h'.hp n _ hg1 cn;exact ⟨(b,m),gN.trans e1⟩
  ·rw [rO a v' q ha] at e;obtain ⟨b,hb⟩:=h'.fzk.nst.rwg a v' q p e;exact ⟨b,(gO a ha).trans hb⟩
 ·rcases look q _ e with ⟨rfl,h2⟩|⟨g1,g2,g3⟩
  ·injection h2 with y1 y2 y3 y4 y5 y6 y7
   subst y1;subst y5;refine ⟨rfl,fun v' q hv=>?_⟩;rw [rN,if_neg (by omega)]
  ·obtain ⟨r1,r2⟩:=h'.fzk.nst.me q me2 ty2 sh2 rows2 v2 ho2 nn2 g3;exact ⟨r1,fun v' q' hv=>(rO q v' q' g1).trans (r2 v' q' hv)⟩
 ·rcases look q _ e with ⟨rfl,h2⟩|⟨g1,g2,g3⟩
  ·injection h2 with y1 y2 y3 y4 y5 y6 y7
   subst y1;subst y2;subst y3;subst y4;subst y5;subst y6;subst y7;have hf0:f1=0∧x1=s1:=by
    cases f1 with
    | zero=>exact ⟨rfl,by simpa using hf1.symm⟩
    | succ f1=>cases hf1
   obtain ⟨rfl,rfl⟩:=hf0;have hj:j1<rows.length:=by
    rw [List.length_append,List.length_singleton] at hj1;have:j1≠rows.length:=fun x=>hh1 (by rw [x];exact List.mem_singleton.2 rfl);omega
   have hr:γ.rw i v j1=some (k1,m1):=by
    rw [rN] at hk1;split at hk1
    ·simpa using hk1
    ·cases hk1
   obtain ⟨hF,q1,qb,q4,arr,ty',q5,q6,q7⟩:=hrow j1 k1 m1 hj hr;refine ⟨q1,?_,fun a ka b m' ha na ea hb=>?_,fun i2 me2 ty2 sh2 rows2 v2 ho2 nn2 e2 j2 f2 s2 hj2 hf2 hh2 m2 hk2=>?_,arr,ty',q5,q6,fun a g s ha hs=>?_⟩
   ·show γ'.fz k1=none
    cases z:γ'.fz k1 with
    | none=>rfl
    | some a=>
     obtain ⟨_,z2,_⟩:=h'.fzk.at' k1 a z;rcases z2 with z2|z2
     ·exact absurd ((hfb k1).1 z2) qb
     ·exact absurd hF z2
   ·obtain ⟨r1,k2,a1,a2,a3,_⟩:=back a ka ha na;rw [a3] at ea;obtain ⟨b3,m3,e4,e5,_⟩:=h'.hp r1 k2 a1 a2;rw [ea] at e4;simp only [Option.some.injEq,Prod.mk.injEq] at e4;obtain ⟨rfl,_⟩:=e4;rw [hb] at e5;exact e5 hF
   ·rcases look i2 _ e2 with ⟨rfl,h2⟩|⟨t1,t2,t3⟩
    ·injection h2 with y1 y2 y3 y4 y5 y6 y7
     subst y1;subst y2;subst y3;subst y4;subst y5;subst y6;subst y7;have hf0:f2=0:=by
      cases f2 with
      | zero=>rfl
      | succ f2=>cases hf2
     subst hf0;rw [rN] at hk2;split at hk2
     ·rename_i hc;exact ⟨rfl,q4 j2 m2 (by simpa using hc.2) (by simpa using hk2),rfl⟩
     ·cases hk2
    ·rw [rO _ _ _ t1] at hk2;obtain ⟨u1,_⟩:=h'.fzk.nst.at' i2 me2 ty2 sh2 rows2 v2 ho2 nn2 t3 j2 f2 s2 hj2 hf2 hh2 k1 m2 hk2;exact absurd hF u1
   ·have e1:(rows++[r0]).getD j1 []=rows.getD j1 []:=by
     rw [List.getD_eq_getElem?_getD,List.getD_eq_getElem?_getD,List.getElem?_append_left hj]
    rw [e1] at ha ⊢;obtain ⟨x,x1,x2⟩:=q7 a g s ha hs;exact ⟨x,x1,x2.mono hle2⟩
  ·rw [rO q _ _ g1] at hk1;obtain ⟨q1,q2,q3,q4,arr,ty',q5,q6,q7⟩:=h'.fzk.nst.at' q me2 ty2 sh2 rows2 v2 ho2 nn2 g3 j1 f1 x1 hj1 hf1 hh1 k1 m1 hk1;refine ⟨fun hf=>q1 (sub _ hf),q2,fun a ka b m' ha na ea=>?_,fun i2 me3 ty3 sh3 rows3 v3 ho3 nn3 e2 j2 f2 s2 hj2 hf2 hh2 m2 hk2=>?_,arr,ty',q5,q6,fun a g s ha hs=>?_⟩
   ·obtain ⟨r1,k2,a1,a2,a3,_⟩:=back a ka ha na;rw [a3] at ea;exact q3 r1 k2 b m' a1 a2 ea
   ·rcases look i2 _ e2 with ⟨rfl,h2⟩|⟨t1,t2,t3⟩
    ·injection h2 with y1 y2 y3 y4 y5 y6 y7
     subst y1;subst y2;subst y3;subst y4;subst y5;subst y6;subst y7;have hf0:f2=0:=by
      cases f2 with
      | zero=>rfl
      | succ f2=>cases hf2
     subst hf0;rw [rN] at hk2;split at hk2
     ·rename_i hc;exact absurd (hrow (j2*[Sh.list s1].length+0) k1 m2 hc.2 hk2).1 q1
     ·cases hk2
    ·rw [rO _ _ _ t1] at hk2;exact q4 i2 me3 ty3 sh3 rows3 v3 ho3 nn3 t3 j2 f2 s2 hj2 hf2 hh2 m2 hk2
   ·obtain ⟨x,x1,x2⟩:=q7 a g s ha hs;exact ⟨x,x1,x2.mono hle2⟩
theorem zhr {B:Bs} {i v r:Nat} {ty:TypeId×List TypeId} {s1:List Sh} {rows:List (List U)} {c:SyC} {xr v':Value} (hnb:Nat.ble n 65535=true) (hnb2:Nat.ble (n+1) 65535=true) (hrb:Nat.ble r 65535=true) {H1:Tr EK} {w':World} (h':HR γ' B H1 (n+1) w') (hst:w0.Stays w') (sub:∀ k,w0.F k→B.F k) (hfb:∀ k,B.fb k↔w0.fb k) (hrsv:∀ q,w0.res q→B.res q)
  (hrow:∀ j k m,j<rows.length→γ.rw i v j=some (k,m)→B.F k∧¬ w0.F k∧¬ w0.fb k∧(∀ j2 m2,j2<rows.length→γ.rw i v j2=some (k,m2)→j2=j)∧∃ (arr:Array Value) (ty':TypeId),Cl w' k arr ty'∧(arr.size=m.1+m.2∧ty'=ty.2.getD 0 0)∧∀ (a g:Nat) (s:Sh),a<(((rows.getD j []).getD 0 (.i 0)).list).length→s1[g]? = some s→∃ x,arr[m.1+(a*s1.length+g)]? = some x∧EC γ' (s.ev (((((rows.getD j []).getD 0 (.i 0)).list).getD a []).getD g (.i 0))) x)
  {CS:List EV} (hg1:H1.get n=some (.cells ty.1 (CS++[.v xr]) false)) (hCl:CS.length=rows.length) (hCS:∀ j,j<rows.length→∃ x,CS[j]? = some (.v x)∧SlR γ i v j s1.length ((rows.getD j []).getD 0 (.i 0)).list.length x)
  (hgr:H1.get r=some (.seq (ty.2.getD 0 0) c true)) (hrn:r<n) (hsh:c.sh=s1) (hxr:EC γ' (.slO r s1.length c.cnt true) xr) (hv:EC γ' (.slO n 1 (rows.length+1) true) v') :
  ∃ γ3,GLe γ' γ3∧HR γ3 w0 (((H1.put n none).put r none).put (n+1) (some (.nest (n+1) ty [.list s1] (rows++[[.l c.rows]]) 1 [] true))) (n+2) w'∧EC γ3 (.slO (n+1) 1 (rows.length+1) true) v':=by
 have one:∀ j:Nat,j*[Sh.list s1].length+0=j:=fun j=>by show j*1+0=j;omega
 obtain ⟨hle,h2⟩:=HR.nestBack (γ:=γ) (i:=i) (v:=v) (rows:=rows) (s1:=s1) hnb hnb2 h' hst sub hfb hrsv hrow hg1 (r0:=[.l []]) fun b m hb ⟨ca,c1,c2,c3,c4,c5⟩=>by
  refine ⟨ca,c1,c2,?_,fun j f s hj hf hh=>?_⟩
  ·rw [List.length_append,List.length_singleton] at c3 ⊢;show (rows.length+1)*1≤m;omega
  ·have hf0:f=0∧s = .list s1:=by
    cases f with
    | zero=>exact ⟨rfl,by simpa using hf.symm⟩
    | succ f=>cases hf
   obtain ⟨rfl,rfl⟩:=hf0;have hj:j<rows.length:=by
    rw [List.length_append,List.length_singleton] at hj;have:j≠rows.length:=fun x=>hh (by rw [x];exact List.mem_singleton.2 rfl);omega
   obtain ⟨x,x1,x2⟩:=hCS j hj;have x3:(CS++[EV.v xr])[j]? = some (.v x):=by rw [List.getElem?_append_left (by omega)];exact x1
   obtain ⟨u,hu,hcu⟩:=c5.at x3;have:u=x:=by cases hcu;rfl
   subst this;rw [List.getElem?_take] at hu;split at hu
   case isFalse=>cases hu
   rw [List.getElem?_drop,Array.getElem?_toList] at hu;refine ⟨u,by rw [one];exact hu,?_⟩;rw [one];have e1:(rows++[[U.l []]]).getD j []=rows.getD j []:=by
    rw [List.getD_eq_getElem?_getD,List.getD_eq_getElem?_getD,List.getElem?_append_left hj]
   rw [e1];have e2:(G.nestAt γ γ' n i v rows.length).rw (n+1) 0 j=γ.rw i v j:=by
    show (if n+1=n+1 then (if (0:Nat)=0∧j<rows.length then γ.rw i v j else none) else _)=_
    rw [if_pos rfl,if_pos ⟨rfl,hj⟩]
   rcases x2 with ⟨y1,y2⟩|⟨k,m2,c',y1,y2⟩
   ·exact .inl ⟨trivial,y2⟩
   ·exact .inr ⟨k,m2,c',e2.trans y1,y2⟩
 have hcl:(rows++[[U.l []]]).length=rows.length+1:=by rw [List.length_append,List.length_singleton]
 have hg2:((H1.put n none).put (n+1) (some (.nest (n+1) ty [.list s1] (rows++[[U.l []]]) 0 [(rows.length,0)] true))).get (n+1)=some (.nest (n+1) ty [.list s1] (rows++[[U.l []]]) 0 [(rows.length,0)] true):=by rw [Tr.get_put hnb2,if_pos rfl]
 have hgr2:((H1.put n none).put (n+1) (some (.nest (n+1) ty [.list s1] (rows++[[U.l []]]) 0 [(rows.length,0)] true))).get r=some (.seq (ty.2.getD 0 0) c true):=by rw [Tr.get_put hnb2,if_neg (by omega),Tr.get_put hnb,if_neg (by omega)];exact hgr
 have hnil2:¬ (EK.nest (n+1) ty [.list s1] (rows++[[U.l []]]) 0 [(rows.length,0)] true).Nil:=fun e=>by cases e.1
 have hxr2:=hxr.mono hle
 cases hxr2 with
 | slO _ _ _ _ _ hs=>
 obtain ⟨b2,m2,cp,q1,rfl,q2,q3,q4⟩:=hs.2 rfl;obtain ⟨hle3,h3⟩:=h2.rowIn hnb2 hrb (by omega) hg2 hnil2 (j:=rows.length) (f:=0) (sh':=s1) (ho':=[]) (by rw [hcl];omega) rfl (fun p hp=>by
   by_cases e:p=(rows.length,0)
   ·exact .inr e
   ·exact .inl fun hm=>e (List.mem_singleton.1 hm)) (L:=c.rows) hgr2 q1 (fun ca g1 g2 g3 a g s ha hs=>by
   have ha2:a<c.cnt:=by rw [c.cnt_eq];exact ha
   have hs':c.sh[g]? = some s:=by rw [hsh];exact hs
   have hg2:g<c.cz:=by rw [c.cz_sh];exact (List.getElem?_eq_some_iff.1 hs').1
   have hcell:=SyC.cellE_enc ha2 hg2;obtain ⟨u,hu,hcu⟩:=g3.at hcell;rw [List.getElem?_take] at hu;split at hu
   case isFalse=>cases hu
   rw [List.getElem?_drop,Array.getElem?_toList] at hu;rw [← hsh,← c.cz_sh];exact ⟨u,hu,by rw [SyC.ev_cellE ha hs'];exact hcu⟩) (fun bi mi ci e1 e2=>by
   have e1':γ' n=some (bi,mi):=by
    have:(G.nestAt γ γ' n i v rows.length) (n+1)=γ' n:=if_pos rfl;rw [← this];exact e1
   obtain ⟨b3,m3,k1,k2,ca,c1,c2,c3,c4,c5⟩:=h'.hp n _ hg1 id;rw [e1'] at k1;simp only [Option.some.injEq,Prod.mk.injEq] at k1;obtain ⟨rfl,rfl⟩:=k1;have x3:(CS++[EV.v (Value.slice (some (b2.at 0)) c.cnt cp)])[rows.length]? = some (.v (Value.slice (some (b2.at 0)) c.cnt cp)):=by rw [← hCl,List.getElem?_append_right (Nat.le_refl _),Nat.sub_self];rfl
   obtain ⟨u,hu,hcu⟩:=c5.at x3;have hu2:u=Value.slice (some (b2.at 0)) c.cnt cp:=by cases hcu;rfl
   subst hu2;rw [List.getElem?_take] at hu;split at hu
   case isFalse=>cases hu
   rw [List.getElem?_drop,Array.getElem?_toList] at hu;obtain ⟨fz1,g4,_⟩:=e2;obtain ⟨fz2,g5,_⟩:=c1;rw [g4] at g5;simp only [Option.some.injEq,Obj.cells.injEq] at g5;refine ⟨cp,?_,by rw [← c.cnt_eq];exact q2,q3,q4⟩;rw [one,g5.1,hu,← c.cnt_eq];rfl)
 refine ⟨_,hle.trans hle3,?_,?_⟩
 ·refine h3.congr fun q kq hq=>?_;have er:(rows++[[U.l []]]).set rows.length (rset 0 (.l c.rows) ((rows++[[U.l []]]).getD rows.length []))=rows++[[.l c.rows]]:=by
   have e5:(rows++[[U.l []]]).getD rows.length []=[U.l []]:=by
    rw [List.getD_eq_getElem?_getD,List.getElem?_append_right (Nat.le_refl _),Nat.sub_self];rfl
   rw [e5,List.set_append_right _ _ (Nat.le_refl _),Nat.sub_self];rfl
  rw [er];rw [Tr.get_put hnb2] at hq ⊢;split at hq
  ·rename_i e;rw [if_pos e];exact hq
  ·rename_i e;rw [if_neg e];rw [Tr.get_put hrb] at hq ⊢;split at hq
   ·cases hq
   ·rename_i e2;rw [if_neg e2,Tr.get_put hnb2,if_neg e];exact hq
 ·have hv2:=hv.mono hle;refine EC.mono hle3 ?_
  cases hv with
  | slO _ _ _ _ _ hs2=>
   obtain ⟨b5,m5,c5,t1,t2⟩:=hs2.2 rfl;exact .slO _ _ _ _ _ ⟨nofun,fun _=>⟨b5,m5,c5,(if_pos rfl:(G.nestAt γ γ' n i v rows.length) (n+1)=γ' n).trans t1,t2⟩⟩
def apNst (ei:EI) (i z len:Nat) (nn:Bool) (m:Nat) (news:List EV) (H:Tr EK) (n:Nat):Option YR:=match H.get i,news with
 | some (.nest _ ty [.list s1] rows v [] nn'),[.slO r z2 len2 nn2]=>match H.get r with
  | some (.seq tyr c nnr)=>bc (Nat.beq m 1) (bc (Nat.beq z 1) (bc (Nat.beq ei.z 1) (bc (Nat.beq ei.e ty.1) (bc (Nat.beq z2 (llen s1)) (bc (shsEq c.sh s1) (bc (Nat.beq tyr (ty.2.getD 0 0)) (bc (Nat.ble i 65535) (bc (Nat.ble r 65535) (bc (Nat.ble (n+1) 65535) (bc (Nat.beq r i) none
    (some ⟨bc nn2 (bc nnr (bc (Nat.beq len2 c.cnt) (bc (Nat.beq len rows.length) (bc (Nat.ble (len+1) 65536) (bc nn' true (bc nn false true)) false) false) false) false) false,⟨some (.slO (n+1) 1 (len+1) true),(((H.put i none).put n none).put r none).put (n+1) (some (.nest (n+1) ty [.list s1] (rows++[[.l c.rows]]) 1 [] true)),n+2⟩⟩)) none) none) none) none) none) none) none) none) none) none
  | _=>none
 | _,_=>none
theorem bcN {α:Type} {b:Bool} {x e y:α} (h:bc b x e=y) (hn:e≠y):b=true∧x=y:=by
 cases b with
 | false=>exact absurd h hn
 | true=>exact ⟨rfl,h⟩
theorem ecl_v (γ:G) (l:List Value):ECL γ (l.map EV.v) l:=⟨by simp,fun j a y ha hy=>by
 rw [List.getElem?_map,hy] at ha;injection ha with ha;subst ha
 exact .v _⟩
theorem zts (hT:TOk γ T tmps) (hH:HR γ w0 H n w) {t ty:TypeId} {ei:EI} (hei:elemInfo P t=some ei) {i z len:Nat} {nn:Bool} {vs:Value} {m:Nat} {news:List EV} {r:YR} (hs:EC γ (.slO i z len nn) vs) {a:Addr} {ca:Nat} {ns:List Value} (hcn:ECL γ news ns) (hnl:ns.length=m*ei.z) (hnc:∀ j u,ns[j]? = some u→w.cell? (a.add j)=some u) (h:apNst ei i z len nn m news H n=some r) (hc:r.c=true) :
  ∃ γ' w' v',GLe γ γ'∧HR γ' w0 r.er.H r.er.n w'∧(Builtin.append_ #[t,t] ty #[vs,.slice (some a) m ca]).run P w = .ok v' w'∧∃ a,r.er.val=some a∧EC γ' a v':=by
 unfold apNst at h;split at h
 case h_2=>cases h
 rename_i me tyN s1 rows v nn' r0 z2 len2 nn2 hg;split at h
 case h_2=>cases h
 rename_i tyr c nnr hgr;obtain ⟨k1,h⟩:=bcN h nofun;obtain ⟨k2,h⟩:=bcN h nofun;obtain ⟨k3,h⟩:=bcN h nofun;obtain ⟨k4,h⟩:=bcN h nofun;obtain ⟨k5,h⟩:=bcN h nofun;obtain ⟨k6,h⟩:=bcN h nofun;obtain ⟨k7,h⟩:=bcN h nofun;obtain ⟨hi,h⟩:=bcN h nofun;obtain ⟨hrb,h⟩:=bcN h nofun;obtain ⟨hnb2,h⟩:=bcN h nofun;rw [bc_eq] at h;split at h
 case isTrue=>cases h
 rename_i hri;injection h with h;subst h
 obtain ⟨d1,hc⟩:=bcN (show bc nn2 _ _=true from hc) nofun;obtain ⟨d2,hc⟩:=bcN hc nofun;obtain ⟨d3,hc⟩:=bcN hc nofun;obtain ⟨d4,hc⟩:=bcN hc nofun;obtain ⟨d5,d6⟩:=bcN hc nofun;have k1:=Nat.eq_of_beq_eq_true k1;have k2:=Nat.eq_of_beq_eq_true k2;have k3:=Nat.eq_of_beq_eq_true k3;have k4:=Nat.eq_of_beq_eq_true k4;have k5:=Nat.eq_of_beq_eq_true k5;rw [zac] at k5;have k6:=shsEq_ok k6;have k7:=Nat.eq_of_beq_eq_true k7;have d3:=Nat.eq_of_beq_eq_true d3;have d4:=Nat.eq_of_beq_eq_true d4
 have hri:r0≠i:=fun e=>hri (by rw [e];exact Nat.beq_refl i);subst k1;subst k2;subst k5;subst k7;subst d1;subst d2;subst d3;subst d4;have hnb:Nat.ble n 65535=true:=Nat.ble_eq_true_of_le (by have:=Nat.le_of_ble_eq_true hnb2;omega);obtain ⟨hme,_⟩:=hH.fzk.nst.me i me tyN [.list s1] rows v [] nn' hg;have hme:=hme.symm;subst hme;obtain ⟨xr,us,rfl,hxr,hus⟩:=ECL.inv hcn;have hus:us=[]:=List.eq_nil_of_length_eq_zero (by have:=hus.1;simpa using this.symm);subst hus;have hrnil:¬ (EK.seq (tyN.2.getD 0 0) c true).Nil:=fun e=>by cases e.1
 have hrn:r0<n:=by
  obtain ⟨b,mm,e1,_⟩:=hH.hp r0 _ hgr hrnil;rcases Nat.lt_or_ge r0 n with h|h
  ·exact h
  ·rw [hH.fresh r0 h] at e1;cases e1
 have hone:allOne [EV.v xr]=true:=by
  cases hxr with
  | slO _ _ _ _ _ hs=>obtain ⟨b2,m2,cp,q1,rfl,_⟩:=hs.2 rfl;rfl
 have hcv:ECL γ [EV.v xr] [xr]:=ecl_v γ [xr]
 cases nn with
 | false=>
  obtain ⟨rfl,hl0⟩:=zjx hs;have hr0:rows=[]:=List.eq_nil_of_length_eq_zero hl0;subst hr0;have hap:exAppendN ei (.v (.slice none 0 0)) 1 [EV.v xr] H n=some ⟨some (.sl n ei.z 0 (0+1) none),H.put n (some (.cells ei.e ([]++[EV.v xr]) false)),Nat.succ n⟩:=by
   unfold exAppendN exGrow;simp only [bc_eq,Nat.beq_refl,hnb,hone];rfl
  obtain ⟨γ',w',v',q1,q2,q3,a2,q4,q5⟩:=zbj (ty:=ty) (c:=ca) hT hH hei (.v (γ:=γ) (.slice none 0 0)) hcv hnl hnc hap;injection q4 with q4;subst q4;have q6:=ze9 q5;rw [k3] at q6;rw [k4] at q2
  obtain ⟨γ3,g1,g2,g3⟩:=zhr (γ:=γ) (i:=i) (v:=v) (rows:=[]) (r:=r0) (c:=c) (s1:=s1) (ty:=tyN) (CS:=[]) hnb hnb2 hrb q2 q2.stays (fun _ h=>h) (fun _=>Iff.rfl) (fun _ h=>h) (fun j k m hj=>absurd hj (Nat.not_lt_zero _)) (by rw [Tr.get_put hnb,if_pos rfl]) rfl (fun j hj=>absurd hj (Nat.not_lt_zero _)) (by rw [Tr.get_put hnb,if_neg (by omega)];exact hgr) hrn k6 (hxr.mono q1) q6;refine ⟨γ3,w',v',q1.trans g1,g2.congr fun q kq hq=>?_,q3,_,rfl,g3⟩;rw [Tr.get_put hnb2] at hq ⊢;split at hq
  ·rename_i e;rw [if_pos e];exact hq
  ·rename_i e;rw [if_neg e];rw [Tr.get_put hrb] at hq ⊢;split at hq
   ·cases hq
   ·rename_i e2;rw [if_neg e2];rw [Tr.get_put hnb] at hq ⊢;split at hq
    ·cases hq
    ·rename_i e3;rw [if_neg e3,Tr.get_put hnb,if_neg e3];rw [Tr.get_put hi] at hq;split at hq
     ·cases hq
     ·exact hq
 | true=>
  have hnn':nn'=true:=by
   cases nn' with
   | true=>rfl
   | false=>cases d6
  subst hnn';have hnil:¬ (EK.nest i tyN [.list s1] rows v [] true).Nil:=fun e=>by cases e.1
  obtain ⟨b,mm,e1,e2,cc,c1,c2,c3,c4⟩:=hH.hp i _ hg hnil;have c3:rows.length*1≤mm:=c3;have hlenx:((cc.toList.drop b.s).take rows.length).length=rows.length:=by
   have h9:cc.toList.length=b.s+mm:=by rw [Array.length_toList,c2]
   rw [List.length_take,List.length_drop];omega
  have hCl:(((cc.toList.drop b.s).take rows.length).map EV.v).length=rows.length:=by rw [List.length_map,hlenx]
  have hCS:∀ j,j<rows.length→∃ x,(((cc.toList.drop b.s).take rows.length).map EV.v)[j]? = some (.v x)∧SlR γ i v j s1.length ((rows.getD j []).getD 0 (.i 0)).list.length x:=fun j hj=>by
   obtain ⟨x,x1,x2⟩:=c4 j 0 (.list s1) hj rfl (by simp);have e5:j*[Sh.list s1].length+0=j:=by show j*1+0=j;omega
   rw [e5] at x1 x2;refine ⟨x,?_,x2⟩;rw [List.getElem?_map,List.getElem?_take,if_pos hj,List.getElem?_drop,Array.getElem?_toList,x1];rfl
  generalize hCSd:((cc.toList.drop b.s).take rows.length).map EV.v=CS at hCl hCS;have hR1:=hH.nestCells hi hg hnil (CS:=CS) fun b' m' hb _=>by
   rw [e1] at hb;simp only [Option.some.injEq,Prod.mk.injEq] at hb;obtain ⟨rfl,rfl⟩:=hb;refine ⟨cc,c1,c2,by omega,(fun e=>by cases e),?_⟩;rw [hCl,← hCSd];exact ecl_v γ _
  obtain ⟨_,hsl⟩:=zo2 hs (.inl rfl);have hgi:(H.put i (some (EK.cells tyN.1 CS false))).get i=some (.cells tyN.1 CS false):=by rw [Tr.get_put hi,if_pos rfl]
  have hca:cellsAt (H.put i (some (.cells tyN.1 CS false))) i=some (tyN.1,CS,false):=by unfold cellsAt;rw [hgi]
  have hap:exAppendN ei (.sl i 1 0 rows.length none) 1 [EV.v xr] (H.put i (some (.cells tyN.1 CS false))) n=some ⟨some (.sl n ei.z 0 (rows.length+1) none),((H.put i (some (.cells tyN.1 CS false))).put i none).put n (some (.cells ei.e (((CS.drop 0).take (Nat.mul rows.length 1))++[EV.v xr]) false)),Nat.succ n⟩:=by
   unfold exAppendN;simp only [bc_eq,k3,k4,Nat.beq_refl,hca];have e3:Nat.ble (Nat.add 0 (Nat.mul rows.length 1)) (llen CS)=true:=by
    rw [zac,hCl];exact Nat.ble_eq_true_of_le (show 0+rows.length*1≤rows.length by omega)
   simp only [e3,hi];unfold exGrow;simp only [bc_eq,hnb,hone,show Nat.ble (Nat.add rows.length 1) 65536=true from d5,if_true]
  obtain ⟨γ',w',v',q1,q2,q3,a2,q4,q5⟩:=zbj (ty:=ty) (c:=ca) hT hR1 hei hsl hcv hnl hnc hap;injection q4 with q4;subst q4;have q6:=ze9 q5;rw [k3] at q6;have e6:(CS.drop 0).take (Nat.mul rows.length 1)=CS:=by
   rw [List.drop_zero,show Nat.mul rows.length 1=CS.length by rw [hCl];exact Nat.mul_one _,List.take_length]
  rw [k4,e6] at q2;have q2:HR γ' (hH.baseN hg) (((H.put i (some (.cells tyN.1 CS false))).put i none).put n (some (.cells tyN.1 (CS++[EV.v xr]) false))) (n+1) w':=q2;have hst:w0.Stays w':=⟨q2.stays.os.trans hH.stays.os,q2.stays.tape.trans hH.stays.tape,q2.stays.output.trans hH.stays.output,Nat.le_trans hH.stays.size q2.stays.size,fun k hk=>(q2.stays.block k (.inl hk)).trans (hH.stays.block k hk)⟩
  obtain ⟨γ3,g1,g2,g3⟩:=zhr (γ:=γ) (i:=i) (v:=v) (rows:=rows) (r:=r0) (c:=c) (s1:=s1) (ty:=tyN) (CS:=CS) hnb hnb2 hrb q2 hst (fun _ h=>.inl h) (fun _=>Iff.rfl) (fun _ h=>h) (fun j k m hj hr=>by
   have hr2:γ.rw i v (j*[Sh.list s1].length+0)=some (k,m):=by show γ.rw i v (j*1+0)=_;rw [Nat.mul_one,Nat.add_zero];exact hr
   obtain ⟨p1,p2,p3,p4,arr,ty',p5,p6,p7⟩:=hH.fzk.nst.at' i i _ [.list s1] rows v [] true hg j 0 s1 hj rfl (by simp) k m hr2;have hF:(hH.baseN hg).F k:=.inr ⟨j,0,s1,m,hj,rfl,hr2⟩;refine ⟨hF,p1,fun hb=>?_,fun j2 m2 hj2 hr3=>?_,arr,ty',p5.mono (q2.stays.block k hF),p6,fun a g s ha hs=>?_⟩
   ·obtain ⟨a3,z⟩:=hH.fzk.base k hb;rw [p2] at z;cases z
   ·exact (p4 i i _ [.list s1] rows v [] true hg j2 0 s1 hj2 rfl (by simp) m2 (by show γ.rw i v (j2*1+0)=_;rw [Nat.mul_one,Nat.add_zero];exact hr3)).2.1
   ·obtain ⟨x,x1,x2⟩:=p7 a g s ha hs;exact ⟨x,x1,x2.mono q1⟩) (by rw [Tr.get_put hnb,if_pos rfl]) hCl hCS (by rw [Tr.get_put hnb,if_neg (by omega),Tr.get_put hi,if_neg hri,Tr.get_put hi,if_neg hri];exact hgr) hrn k6 (hxr.mono q1) q6
  refine ⟨γ3,w',v',q1.trans g1,g2.congr fun q kq hq=>?_,q3,_,rfl,g3⟩;rw [Tr.get_put hnb2] at hq ⊢;split at hq
  ·rename_i e;rw [if_pos e];exact hq
  ·rename_i e;rw [if_neg e];rw [Tr.get_put hrb] at hq ⊢;split at hq
   ·cases hq
   ·rename_i e2;rw [if_neg e2];rw [Tr.get_put hnb] at hq ⊢;split at hq
    ·cases hq
    ·rename_i e3;rw [if_neg e3,Tr.get_put hnb,if_neg e3];rw [Tr.get_put hi] at hq ⊢;split at hq
     ·cases hq
     ·rename_i e4;rw [if_neg e4,Tr.get_put hi,if_neg e4];exact hq
def apNs0 (ei:EI) (m:Nat) (news:List EV) (H:Tr EK) (n:Nat):Option YR:=match news with
 | [.slO r z2 len2 nn2]=>match H.get r with
  | some (.seq tyr c nnr)=>bc (Nat.beq m 1) (bc (Nat.beq ei.z 1) (bc (Nat.beq z2 (llen c.sh)) (bc (Nat.ble r 65535) (bc (Nat.ble (n+1) 65535)
    (some ⟨bc nn2 (bc nnr (Nat.beq len2 c.cnt) false) false,⟨some (.slO (n+1) 1 (0+1) true),((H.put n none).put r none).put (n+1) (some (.nest (n+1) (ei.e,[tyr]) [.list c.sh] [[.l c.rows]] 1 [] true)),n+2⟩⟩) none) none) none) none) none
  | _=>none
 | _=>none
theorem ztt (hT:TOk γ T tmps) (hH:HR γ w0 H n w) {t ty:TypeId} {ei:EI} (hei:elemInfo P t=some ei) {m:Nat} {news:List EV} {r:YR} {a:Addr} {ca:Nat} {ns:List Value} (hcn:ECL γ news ns) (hnl:ns.length=m*ei.z) (hnc:∀ j u,ns[j]? = some u→w.cell? (a.add j)=some u) (h:apNs0 ei m news H n=some r) (hc:r.c=true) :
  ∃ γ' w' v',GLe γ γ'∧HR γ' w0 r.er.H r.er.n w'∧(Builtin.append_ #[t,t] ty #[.slice none 0 0,.slice (some a) m ca]).run P w = .ok v' w'∧∃ a,r.er.val=some a∧EC γ' a v':=by
 unfold apNs0 at h;split at h
 case h_2=>cases h
 rename_i r0 z2 len2 nn2;split at h
 case h_2=>cases h
 rename_i tyr c nnr hgr;obtain ⟨k1,h⟩:=bcN h nofun;obtain ⟨k3,h⟩:=bcN h nofun;obtain ⟨k5,h⟩:=bcN h nofun;obtain ⟨hrb,h⟩:=bcN h nofun;obtain ⟨hnb2,h⟩:=bcN h nofun;injection h with h;subst h
 obtain ⟨d1,hc⟩:=bcN (show bc nn2 _ _=true from hc) nofun;obtain ⟨d2,d3⟩:=bcN hc nofun;have k1:=Nat.eq_of_beq_eq_true k1;have k3:=Nat.eq_of_beq_eq_true k3;have k5:=Nat.eq_of_beq_eq_true k5;rw [zac] at k5;have d3:=Nat.eq_of_beq_eq_true d3;subst k1;subst k5;subst d1;subst d2;subst d3;have hnb:Nat.ble n 65535=true:=Nat.ble_eq_true_of_le (by have:=Nat.le_of_ble_eq_true hnb2;omega);obtain ⟨xr,us,rfl,hxr,hus⟩:=ECL.inv hcn;have hus:us=[]:=List.eq_nil_of_length_eq_zero (by have:=hus.1;simpa using this.symm);subst hus
 have hrnil:¬ (EK.seq tyr c true).Nil:=fun e=>by cases e.1
 have hrn:r0<n:=by
  obtain ⟨b,mm,e1,_⟩:=hH.hp r0 _ hgr hrnil;rcases Nat.lt_or_ge r0 n with h|h
  ·exact h
  ·rw [hH.fresh r0 h] at e1;cases e1
 have hone:allOne [EV.v xr]=true:=by
  cases hxr with
  | slO _ _ _ _ _ hs=>obtain ⟨b2,m2,cp,q1,rfl,_⟩:=hs.2 rfl;rfl
 have hcv:ECL γ [EV.v xr] [xr]:=ecl_v γ [xr];have hap:exAppendN ei (.v (.slice none 0 0)) 1 [EV.v xr] H n=some ⟨some (.sl n ei.z 0 (0+1) none),H.put n (some (.cells ei.e ([]++[EV.v xr]) false)),Nat.succ n⟩:=by
  unfold exAppendN exGrow;simp only [bc_eq,Nat.beq_refl,hnb,hone];rfl
 obtain ⟨γ',w',v',q1,q2,q3,a2,q4,q5⟩:=zbj (ty:=ty) (c:=ca) hT hH hei (.v (γ:=γ) (.slice none 0 0)) hcv hnl hnc hap;injection q4 with q4;subst q4;have q6:=ze9 q5;rw [k3] at q6
 obtain ⟨γ3,g1,g2,g3⟩:=zhr (γ:=γ) (i:=0) (v:=0) (rows:=[]) (r:=r0) (c:=c) (s1:=c.sh) (ty:=(ei.e,[tyr])) (CS:=[]) hnb hnb2 hrb q2 q2.stays (fun _ h=>h) (fun _=>Iff.rfl) (fun _ h=>h) (fun j k m hj=>absurd hj (Nat.not_lt_zero _)) (by rw [Tr.get_put hnb,if_pos rfl]) rfl (fun j hj=>absurd hj (Nat.not_lt_zero _)) (by rw [Tr.get_put hnb,if_neg (by omega)];exact hgr) hrn rfl (hxr.mono q1) q6;refine ⟨γ3,w',v',q1.trans g1,g2.congr fun q kq hq=>?_,q3,_,rfl,g3⟩;rw [Tr.get_put hnb2] at hq ⊢;split at hq
 ·rename_i e;rw [if_pos e];exact hq
 ·rename_i e;rw [if_neg e];rw [Tr.get_put hrb] at hq ⊢;split at hq
  ·cases hq
  ·rename_i e2;rw [if_neg e2];rw [Tr.get_put hnb] at hq ⊢;split at hq
   ·cases hq
   ·rename_i e3;rw [if_neg e3,Tr.get_put hnb,if_neg e3];exact hq
def zNapO (P:Program) (T:Tr EV) (args:List Operand) (ats:List TypeId) (H:Tr EK) (n:Nat):Option YR:=match args,ats with
 | [x,y],[t,u]=>bc (Nat.beq t u) (match elemInfo P t with
  | some ei=>match exVal T x with
   | some a=>match exVal T y with
    | some b=>match newsOf H ei.z b with
     | some (m,news)=>match a with
      | .slO i z len nn=>apNst ei i z len nn m news H n
      | .v (.slice none 0 0)=>apNs0 ei m news H n
      | _=>none
     | none=>none
    | none=>none
   | none=>none
  | none=>none) none
 | _,_=>none
theorem zro (hT:TOk γ T tmps) (hH:HR γ w0 H n w) {args:Array Operand} {ats:Array TypeId} {r:YR} (ho:o.op = .call { callee:=.builtin .append,args:=args,argTypes:=ats }) (h:zNapO P T args.toList ats.toList H n=some r) (hc:r.c=true):Gives P γ w0 w (execOp (opEval tmps) o) r.er.val r.er.H r.er.n:=by
 unfold zNapO at h;split at h
 case h_2=>cases h
 rename_i x y t u hargs hats;have ha2:args = #[x,y]:=by apply Array.ext';simpa using hargs
 have ha3:ats = #[t,u]:=by apply Array.ext';simpa using hats
 subst ha2;subst ha3;obtain ⟨htu,hh⟩:=bcN h nofun;clear h;have htu:=Nat.eq_of_beq_eq_true htu;subst htu;split at hh
 case h_2=>cases hh
 rename_i ei hei;split at hh
 case h_2=>cases hh
 rename_i a ha;split at hh
 case h_2=>cases hh
 rename_i b hb;split at hh
 case h_2=>cases hh
 rename_i m news hnw;have hy:=zaa hT hb;obtain ⟨ad,cap,vs,hvx,hcn,hnl,hnc⟩:=zc5 hH hy hnw;have main:∃ γ' w' v',GLe γ γ'∧HR γ' w0 r.er.H r.er.n w'∧(Builtin.append_ #[t,t] o.type #[opEval tmps x,opEval tmps y]).run P w = .ok v' w'∧∃ a,r.er.val=some a∧EC γ' a v':=by
  rw [hvx];split at hh
  case h_3=>cases hh
  ·exact zts hT hH hei (zaa hT ha) hcn hnl hnc hh hc
  ·rw [ec_v (zaa hT ha)];exact ztt hT hH hei hcn hnl hnc hh hc
 obtain ⟨γ',w',v',h1,h2,h3,av,h4,h5⟩:=main;refine ⟨γ',w',h1,h2,?_⟩;rw [h4];refine ⟨v',?_,h5⟩;simp [execOp,ho,resolve,invoke,builtin,h3]
end
section
open Go.RowKit
variable {P:Program} {γ γ':G} {w0:Bs} {w:World} {H H':Tr EK} {n n':Nat} {T:Tr EV} {cs:List Frame} {fid:FuncId} {FT:Tr FI} {tmps:Array Value} {o:Oper} {α:Type}
def opG (s:ES) (ops:Array Oper) (o:Oper) (l:List Oper) (k:List IM) (er:ER):EO:=match setD s.top.T s.top.N o.dst (er.val.getD (.v undef)) with
 | some T'=>.go { s with top:={ s.top with T:=T',todo:=.ops ops l::k },H:=er.H,n:=er.n }
 | none=>.fail
theorem zt1 {s:ES} {ops:Array Oper} {l:List Oper} {k:List IM} {i:Nat} {rest:List Nat} {todo:List Item} {ds:List Deferred} {ro:Option Nat} {frs:List Frame} {er:ER}
  (hret:s.top.ret=false) (h1:tmps.size=s.top.N) (h2:TOk γ s.top.T tmps) (hk:All2 (IR γ) k todo) (h4:All2 (DR γ) s.top.dfs ds) (h5:RR γ s.top.round ro) (hfs:All2 (FR γ) s.rest frs) (hH:HR γ w0 s.H s.n w)
  (ho:ops[i]? = some o) (hrest:rest.map (ops[·]?)=l.map some) (hw:Region.wanted o (yielded ops tmps)=true) (hs:SndL P .nil s.top.T o s.H s.n (er.val.getD (.v undef)) er.H er.n) :
  SOk P γ w0 cs fid (lone (fram s.top.fn tmps (.inRegion ops (i::rest)::todo) ds ro) (frs++cs) w) (opG s ops o l k er):=by
 unfold opG;split
 case h_2=>trivial
 rename_i T' hT';obtain ⟨γ',w',x,hle,hH2,hcx,hst⟩:=hs γ w0 w s.top.fn tmps ops i rest todo ds ro (frs++cs) (ROk.none _ _) h2 hH ho hw;obtain ⟨g1,g2⟩:=zcm (h2.mono hle) h1 hT' hcx;exact ⟨γ',_,hle,hst,_,frs,w',rfl,⟨_,_,ds,ro,by simp [fram,hret,modeOf],g2,g1,.cons (.ops ops l rest hrest) (hk.mono fun _ _ h=>h.mono hle),h4.mono fun _ _ h=>h.mono hle,h5.mono hle⟩,hfs.mono fun _ _ h=>h.mono hle,hH2⟩
def flRw (ct:Tr ZCC):Bool:=Option.isSome (ct.get 2)
def rowPart (T:Tr EV) (l:List (Nat×Operand)):Bool:=match l with
 | [(_,x)]=>match exVal T x with
  | some (.slO _ _ _ _)=>true
  | _=>false
 | _=>false
def zMkF (P:Program) (ct:Tr ZCC) (T:Tr EV) (o:Oper) (H:Tr EK) (n:Nat):Option YR:=match o.op with
 | .makeSlice t l c=>bc (flC ct) (zMakeR P T t l c H n) none
 | .call c=>match c.callee with
  | .builtin .append=>bc (flRw ct) (zNapO P T c.args.toList c.argTypes.toList H n) none
  | _=>none
 | .buildSlice t len parts=>bc (flRw ct) (bc (rowPart T parts.toList) (match exBuildSlice P T t len parts H n with
  | some er=>some ⟨true,er⟩
  | none=>none) none) none
 | _=>none
theorem zur {ct:Tr ZCC} (hT:TOk γ T tmps) (hH:HR γ w0 H n w) {r:YR} (h:zMkF P ct T o H n=some r) (hc:r.c=true):Gives P γ w0 w (execOp (opEval tmps) o) r.er.val r.er.H r.er.n:=by
 unfold zMkF at h;split at h
 case h_4=>cases h
 ·rename_i t l c ho;rw [bc_eq] at h;split at h
  case isFalse=>cases h
  exact zih hT hH ho h hc
 ·rename_i c ho;split at h
  case h_2=>cases h
  rename_i hcal;obtain ⟨callee,args,ats⟩:=c;simp only at hcal h;subst hcal;rw [bc_eq] at h;split at h
  case isFalse=>cases h
  exact zro hT hH ho h hc
 ·rename_i t len parts ho;rw [bc_eq] at h;split at h
  case isFalse=>cases h
  rw [bc_eq] at h;split at h
  case isFalse=>cases h
  split at h
  case h_2=>cases h
  rename_i er he;injection h with h;subst h
  exact zc8 hT hH ho he
theorem zus {ct:Tr ZCC} {r:YR} (h:zMkF P ct T o H n=some r):notDefer o.op=true:=by
 unfold zMkF at h;split at h
 case h_4=>cases h
 ·rename_i ho;rw [ho];rfl
 ·rename_i ho;split at h
  case h_2=>cases h
  rename_i hcal;rw [ho];unfold notDefer;simp [hcal]
 ·rename_i ho;rw [ho];rfl
def stZ (P:Program) (FT:Tr FI) (ct:Tr ZCC) (T:Tr EV) (o:Oper) (H:Tr EK) (n:Nat):Option YR:=match zToBo P T o H n with
 | some r=>some r
 | none=>match zMkF P ct T o H n with
  | some r=>some r
  | none=>match zMapO P ct T o H n with
  | some r=>some r
  | none=>match qcZ P FT ct [] T o H n with
   | some p=>some ⟨p.1,⟨some p.2,H,n⟩⟩
   | none=>match zCt FT ct T o with
    | some (sp,ax)=>match zCallA sp ax H n with
     | some r=>some ⟨r.1,⟨some r.2.1,r.2.2.1,r.2.2.2⟩⟩
     | none=>none
    | none=>zOwn P T o H n
theorem zwy (hF:FTok P FT) {ct:Tr ZCC} (hct:ZCtsOk P ct) {r:YR} (h:stZ P FT ct T o H n=some r) (hc:r.c=true):SndL P .nil T o H n (r.er.val.getD (.v undef)) r.er.H r.er.n:=by
 unfold stZ at h;split at h
 ·rename_i r' hr;injection h with h;subst h
  exact zce (zrk hr) fun γ w0 w tmps hT hH=>zrj hT hH hr hc
 split at h
 ·rename_i r' hr;injection h with h;subst h
  exact zce (zus hr) fun γ w0 w tmps hT hH=>zur hT hH hr hc
 split at h
 ·rename_i r' hr;injection h with h;subst h
  exact zce (zrq hr) fun γ w0 w tmps hT hH=>zrp hT hH hr hc
 split at h
 ·rename_i p hp;injection h with h;subst h
  exact (ziw hF hct hp hc).2.1
 ·split at h
  ·rename_i sp ax hctx;obtain ⟨_,g,k1,k2⟩:=zii hF hct hctx;split at h
   case h_2=>cases h
   rename_i q hq;injection h with h;subst h
   exact k2 fun γ w0 w us hH ha=>zik k1 hH ha hq hc
  ·have hd:notDefer o.op=true:=by
    have hr:=h;unfold zOwn at hr;split at hr
    all_goals first|(rename_i ho;rw [ho];rfl)|cases hr
   exact zce hd fun γ w0 w tmps hT hH=>(zn2 hT hH h hc).2
def zOps (P:Program) (FT:Tr FI) (fid:FuncId) (dr:ES→Nat→Array Oper→List IM→EO) (ct:Tr ZCC) (s:ES) (ops:Array Oper) (o:Oper) (l:List Oper) (k:List IM):Bool×EO:=match exGuard s.top.T ops o with
 | some true=>match stZ P FT ct s.top.T o s.H s.n with
  | some r=>(r.c,opG s ops o l k r.er)
  | none=>(true,exStep P FT fid dr s)
 | _=>(true,exStep P FT fid dr s)
def zMain (P:Program) (FT:Tr FI) (fid:FuncId) (dr:ES→Nat→Array Oper→List IM→EO) (sub:Sub) (ct:Tr ZCC) (ov:List (Nat×Bool)) (s:ES):Bool×EO:=match s.top.ret with
 | false=>match s.top.todo with
  | .ops ops (o::l)::k=>zOps P FT fid dr ct s ops o l k
  | .it (.code (.region _ ops true))::k=>match drP P FT sub ct ov s ops k with
   | some r=>r
   | none=>drZ P FT sub ct ov s ops k (ancs ops.toList []) (llen ops.toList)
  | _=>(true,exStep P FT fid dr s)
 | true=>zRet P FT fid s
theorem zrs (hm0:P.follows .mixedOrders=true) (hF:FTok P FT) {dr:ES→Nat→Array Oper→List IM→EO} (hdr:DrOk P dr) {sub:Sub} (hsub:LoudOk P sub) {ct:Tr ZCC} (hct:ZCtsOk P ct) {ov:List (Nat×Bool)} {s:ES} {m:Machine} (hm:MR γ w0 cs s m) (hc:(zMain P FT fid dr sub ct ov s).1=true):SOk P γ w0 cs fid m (zMain P FT fid dr sub ct ov s).2:=by
 unfold zMain at hc ⊢;split at hc
 ·rename_i hret;split at hc
  ·rename_i ops o l k htodo;unfold zOps at hc ⊢;split at hc
   ·rename_i hg;split at hc
    ·rename_i r hr;obtain ⟨fr,frs,w,rfl,⟨tmps,todo,ds,ro,rfl,h1,h2,h3,h4,h5⟩,hfs,hH⟩:=hm;rw [htodo] at h3
     cases h3 with
     | @cons _ _ _ todo' hi hk=>
      cases hi with
      | ops _ _ idx hidx=>
       obtain ⟨i,rest,rfl,ho,hrest⟩:=zcb hidx;have hfr:(lone { fn:=s.top.fn,tmps:=tmps,todo:=.inRegion ops (i::rest)::todo',defers:=ds,mode:=modeOf s.top.ret,kind:=.normal,roundOf:=ro } (frs++cs) w)=lone (fram s.top.fn tmps (.inRegion ops (i::rest)::todo') ds ro) (frs++cs) w:=by rw [hret];rfl
       rw [hfr];exact zt1 hret h1 h2 hk h4 h5 hfs hH ho hrest (zb3 h2 hg) (zwy hF hct hr hc)
    ·exact zci hF hdr hm
   ·exact zci hF hdr hm
  ·rename_i id ops k htodo;obtain ⟨fr,frs,w,rfl,⟨tmps,todo,ds,ro,rfl,h1,h2,h3,h4,h5⟩,hfs,hH⟩:=hm;rw [htodo] at h3
   cases h3 with
   | @cons _ _ _ todo' hi hk=>
    cases hi with
    | it x=>
     have hfr:(lone { fn:=s.top.fn,tmps:=tmps,todo:=.code (.region id ops true)::todo',defers:=ds,mode:=modeOf s.top.ret,kind:=.normal,roundOf:=ro } (frs++cs) w)=lone (fram s.top.fn tmps (.code (.region id ops true)::todo') ds ro) (frs++cs) w:=by rw [hret];rfl
     rw [hfr];split at hc
     ·rename_i r hr;exact zxp hm0 hF hsub hct hret h1 h2 hk h4 h5 hfs hH hr hc
     ·exact zxo hm0 hF hsub hct hret h1 h2 hk h4 h5 hfs hH hc
  ·exact zci hF hdr hm
 ·rename_i hret;obtain ⟨fr,frs,w,rfl,⟨tmps,todo,ds,ro,rfl,h1,h2,h3,h4,h5⟩,hfs,hH⟩:=hm;have:=zuo (fid:=fid) (cs:=cs) hF hret h1 h2 h3 h4 h5 hfs hH hc;simpa [fram,hret,modeOf] using this
def fixC (d:Nat) (b:Bool) (s:ES):ES:=bc (Nat.ble d 65535) { s with top:={ s.top with T:=s.top.T.put d (some (.v (.bool b))) } } s
def forkC (d:Nat) (s:ES) (κ:ES→α):α:=match s.top.T.get d with
 | some (.v (.bool t))=>Bool.rec (κ (fixC d false s)) (κ (fixC d true s)) t
 | _=>κ s
theorem zqb {d:Nat} {t:Bool} {s:ES} {m:Machine} (hm:MR γ w0 cs s m) (ht:s.top.T.get d=some (.v (.bool t))):MR γ w0 cs (fixC d t s) m:=by
 unfold fixC;rw [bc_eq];split
 ·rename_i hd;obtain ⟨fr,frs,w,rfl,⟨tmps,todo,ds,ro,rfl,h1,h2,h3,h4,h5⟩,hfs,hH⟩:=hm;refine ⟨_,frs,w,rfl,⟨tmps,todo,ds,ro,rfl,h1,fun sl a hs=>?_,h3,h4,h5⟩,hfs,hH⟩;have hs2:(s.top.T.put d (some (.v (.bool t)))).get sl=some a:=hs;clear hs;rw [Tr.get_put hd] at hs2;split at hs2
  ·rename_i e;subst e;exact h2 _ a (ht.trans hs2)
  ·exact h2 sl a hs2
 ·exact hm
theorem zh2 {d:Nat} {s:ES} {m:Machine} (hm:MR γ w0 cs s m) (κ:ES→α):∃ s',MR γ w0 cs s' m∧forkC d s κ=κ s':=by
 unfold forkC;split
 ·rename_i t ht
  cases t with
  | false=>exact ⟨_,zqb hm ht,rfl⟩
  | true=>exact ⟨_,zqb hm ht,rfl⟩
 ·exact ⟨s,hm,rfl⟩
def preCodeC (c:Code) (s:ES) (κ:ES→α):α:=match c with
 | .cond (.tmp d) _ _=>forkC d s κ
 | _=>κ s
def preOpC (ops:Array Oper) (o:Oper) (s:ES) (κ:ES→α):α:=match o.guard with
 | some (j,_)=>match lget ops.toList j with
  | some oj=>match oj.dst with
   | some d=>forkC d s κ
   | none=>κ s
  | none=>κ s
 | none=>match o.op with
  | .pick (.tmp d) _ _=>forkC d s κ
  | _=>κ s
def preC (s:ES) (κ:ES→α):α:=match s.top.todo with
 | .it (.code c)::_=>preCodeC c s κ
 | .ops ops (o::_)::_=>preOpC ops o s κ
 | _=>κ s
theorem zvh {s:ES} {m:Machine} (hm:MR γ w0 cs s m) (κ:ES→α):∃ s',MR γ w0 cs s' m∧preC s κ=κ s':=by
 unfold preC;split
 ·unfold preCodeC;split
  ·exact zh2 hm κ
  ·exact ⟨s,hm,rfl⟩
 ·unfold preOpC;split
  ·split
   ·split
    ·exact zh2 hm κ
    ·exact ⟨s,hm,rfl⟩
   ·exact ⟨s,hm,rfl⟩
  ·split
   ·exact zh2 hm κ
   ·exact ⟨s,hm,rfl⟩
 ·exact ⟨s,hm,rfl⟩
def mainC (r:Bool×EO) (κ:EO→α):α:=Prod.rec (fun c e=>bc c (κ e) (κ .fail)) r
def memG (j:Nat) (l:List Nat):Bool:=List.rec false (fun k _ ih=>bc (Nat.beq k j) true ih) l
def pickG (ops:List Oper) (d:Nat):Nat→Option Nat:=List.rec (fun _=>none) (fun o _ ih i=>match o.dst with
 | some e=>bc (Nat.beq e d) (some i) (ih (Nat.succ i))
 | none=>ih (Nat.succ i)) ops
def guardsOf (all ops:List Oper):List Nat:=List.rec [] (fun o _ ih=>match o.guard with
 | some (j,_)=>bc (memG j ih) ih (j::ih)
 | none=>match o.op with
  | .pick (.tmp d) _ _=>match pickG all d 0 with
   | some j=>bc (memG j ih) ih (j::ih)
   | none=>ih
  | _=>ih) ops
def insN (j:Nat) (l:List Nat):List Nat:=List.rec [j] (fun k t ih=>bc (Nat.ble j k) (j::k::t) (k::ih)) l
def sortN (l:List Nat):List Nat:=List.rec [] (fun j _ ih=>insN j ih) l
def boolAt (P:Program) (FT:Tr FI) (sub:Sub) (ct:Tr ZCC) (s:ES) (ops:Array Oper) (A:List Nat) (m:Nat) (ov:List (Nat×Bool)) (j:Nat):Option (Nat×Bool):=match lget ops.toList j with
 | some oj=>match oj.dst with
  | some d=>match canonF P (frF' P) (lF' P FT sub ct) (qF' P FT ct ov) ops A s.n s.top.N (ops.toList.take (Nat.succ j)) 0 [] [] ⟨s.H,Nat.add s.n m,0⟩ s.top.T [] [] with
   | some c=>match c.T.get d with
    | some (.v (.bool t))=>some (d,t)
    | _=>none
   | none=>none
  | none=>none
 | none=>none
def forkG (P:Program) (FT:Tr FI) (sub:Sub) (ct:Tr ZCC) (s:ES) (ops:Array Oper) (A:List Nat) (m:Nat) (κ:List (Nat×Bool)→α) (G:List Nat):List (Nat×Bool)→α:=List.rec (fun ov=>κ ov) (fun j _ ih ov=>match boolAt P FT sub ct s ops A m ov j with
 | some (d,t)=>Bool.rec (ih (ov++[(d,false)])) (ih (ov++[(d,true)])) t
 | none=>ih ov) G
theorem zfh {sub:Sub} {ct:Tr ZCC} {s:ES} {ops:Array Oper} {A:List Nat} {m:Nat} (κ:List (Nat×Bool)→α):∀ (G:List Nat) (ov:List (Nat×Bool)),∃ ov',forkG P FT sub ct s ops A m κ G ov=κ ov'
 | [],ov=>⟨ov,rfl⟩
 | j::G,ov=>by
  have e:forkG P FT sub ct s ops A m κ (j::G) ov=(match boolAt P FT sub ct s ops A m ov j with
   | some (d,t)=>Bool.rec (forkG P FT sub ct s ops A m κ G (ov++[(d,false)])) (forkG P FT sub ct s ops A m κ G (ov++[(d,true)])) t
   | none=>forkG P FT sub ct s ops A m κ G ov):=rfl
  rw [e];split
  ·rename_i d t ht
   cases t with
   | false=>exact zfh κ G _
   | true=>exact zfh κ G _
  ·exact zfh κ G _
def forkR (P:Program) (FT:Tr FI) (sub:Sub) (ct:Tr ZCC) (s:ES) (κ:List (Nat×Bool)→α):α:=match s.top.todo with
 | .it (.code (.region _ ops true))::_=>forkG P FT sub ct s ops (ancs ops.toList []) (llen ops.toList) κ (sortN (guardsOf ops.toList ops.toList)) []
 | _=>κ []
theorem zs0 {sub:Sub} {ct:Tr ZCC} {s:ES} (κ:List (Nat×Bool)→α):∃ ov,forkR P FT sub ct s κ=κ ov:=by
 unfold forkR;split
 ·exact zfh κ _ _
 ·exact ⟨[],rfl⟩
def lookL (d:TypeDesc) (kv:Value) (ok:Bool) (z:Value) (s:ES) (ops:Array Oper) (o:Oper) (l:List Oper) (k:List IM) (κ:EO→α) (es:List (Value×EV)):α:=List.rec (κ (opG s ops o l k ⟨some (bc ok (.v (.tuple #[z,.bool false])) (.v z)),s.H,s.n⟩))
 (fun p _ ih=>Bool.rec ih (κ (opG s ops o l k ⟨some (bc ok (.tup [p.2,.v (.bool true)]) p.2),s.H,s.n⟩)) (kEq d kv p.1)) es
def lookF (P:Program) (s:ES) (dflt:α) (κ:EO→α):α:=match s.top.ret with
 | false=>match s.top.todo with
  | .ops ops (o::l)::k=>match o.op with
   | .lookup t m x ok=>match exGuard s.top.T ops o with
    | some true=>match mpAt s.top.T s.H m with
     | some (_,es)=>match mapOf P t with
      | some (_,e,d)=>match exVal s.top.T x with
       | some (.v kv)=>bc (isKeyB d kv) (bc (keysB d es) (match pureOf P (zeroValue e) with
        | some z=>lookL d kv ok z s ops o l k κ es
        | none=>dflt) dflt) dflt
       | _=>dflt
      | none=>dflt
     | none=>dflt
    | _=>dflt
   | _=>dflt
  | _=>dflt
 | true=>dflt
theorem zl6 {d:TypeDesc} {kv:Value} {ok:Bool} {z:Value} {s:ES} {ops:Array Oper} {l:List Oper} {k:List IM} {κ:EO→α} {es0:List (Value×EV)} {Q:EO→Prop}
  (hA:findE d kv es0=none→Q (opG s ops o l k ⟨some (bc ok (.v (.tuple #[z,.bool false])) (.v z)),s.H,s.n⟩))
  (hF:∀ a,findE d kv es0=some a→Q (opG s ops o l k ⟨some (bc ok (.tup [a,.v (.bool true)]) a),s.H,s.n⟩)) :
  ∀ es,findE d kv es0=findE d kv es→∃ e,lookL d kv ok z s ops o l k κ es=κ e∧Q e
 | [],h=>⟨_,rfl,hA h⟩
 | p::es,h=>by
  have e1:lookL d kv ok z s ops o l k κ (p::es)=Bool.rec (lookL d kv ok z s ops o l k κ es) (κ (opG s ops o l k ⟨some (bc ok (.tup [p.2,.v (.bool true)]) p.2),s.H,s.n⟩)) (kEq d kv p.1):=rfl;have e2:findE d kv (p::es)=bc (kEq d kv p.1) (some p.2) (findE d kv es):=rfl;rw [e2] at h;rw [e1]
  cases hk:kEq d kv p.1 with
  | false=>
   rw [hk] at h;exact zl6 hA hF es h
  | true=>
   rw [hk] at h;exact ⟨_,rfl,hF _ h⟩
theorem zss {s:ES} {m:Machine} (hm:MR γ w0 cs s m) (dflt:α) (κ:EO→α):lookF P s dflt κ=dflt∨∃ e,lookF P s dflt κ=κ e∧SOk P γ w0 cs fid m e:=by
 unfold lookF;split
 case h_2=>exact .inl rfl
 rename_i hret;split
 case h_2=>exact .inl rfl
 rename_i ops o l k htodo;split
 case h_2=>exact .inl rfl
 rename_i t mp x ok ho;split
 case h_2=>exact .inl rfl
 rename_i hg;split
 case h_2=>exact .inl rfl
 rename_i i es hmp;split
 case h_2=>exact .inl rfl
 rename_i kt e d hmo;split
 case h_2=>exact .inl rfl
 rename_i kv hx;rw [bc_eq];split
 case isFalse=>exact .inl rfl
 rename_i h1;rw [bc_eq];split
 case isFalse=>exact .inl rfl
 rename_i h2;split
 case h_2=>exact .inl rfl
 rename_i z hz;right;have hd:notDefer o.op=true:=by rw [ho];rfl
 have key:∀ a,exLookup P s.top.T t mp x ok s.H=some a→SOk P γ w0 cs fid m (opG s ops o l k ⟨some a,s.H,s.n⟩):=fun a ha=>by
  obtain ⟨fr,frs,w,rfl,⟨tmps,todo,ds,ro,rfl,g1,g2,g3,g4,g5⟩,hfs,hH⟩:=hm;rw [htodo] at g3
  cases g3 with
  | @cons _ _ _ todo' hi hk=>
   cases hi with
   | ops _ _ idx hidx=>
    obtain ⟨i,rest,rfl,ho',hrest⟩:=zcb hidx;have hfr:(lone { fn:=s.top.fn,tmps:=tmps,todo:=.inRegion ops (i::rest)::todo',defers:=ds,mode:=modeOf s.top.ret,kind:=.normal,roundOf:=ro } (frs++cs) w)=lone (fram s.top.fn tmps (.inRegion ops (i::rest)::todo') ds ro) (frs++cs) w:=by rw [hret];rfl
    rw [hfr];exact zt1 (er:=⟨some a,s.H,s.n⟩) hret g1 g2 hk g4 g5 hfs hH ho' hrest (zb3 g2 hg) (ziq hd fun γ w0 w tmps hT hH=>zgc hT hH ho ha)
 refine zl6 (Q:=fun e=>SOk P γ w0 cs fid m e) (fun hn=>key _ ?_) (fun a hn=>key _ ?_) es rfl
 ·unfold exLookup;simp only [hmp,hmo,hx,bc_eq,h1,h2,hn,hz,if_true]
 ·unfold exLookup;simp only [hmp,hmo,hx,bc_eq,h1,h2,hn,if_true]
def stepZ (P:Program) (FT:Tr FI) (fid:FuncId) (dr:ES→Nat→Array Oper→List IM→EO) (sub:Sub) (ct:Tr ZCC) (s:ES) (κ:EO→α):α:=preC s (fun s'=>lookF P s' (forkR P FT sub ct s' (fun ov=>mainC (zMain P FT fid dr sub ct ov s') κ)) κ)
theorem zfb (hm0:P.follows .mixedOrders=true) (hF:FTok P FT) {dr:ES→Nat→Array Oper→List IM→EO} (hdr:DrOk P dr) {sub:Sub} (hsub:LoudOk P sub) {ct:Tr ZCC} (hct:ZCtsOk P ct) {s:ES} {m:Machine} (hm:MR γ w0 cs s m) (κ:EO→α):∃ e,stepZ P FT fid dr sub ct s κ=κ e∧SOk P γ w0 cs fid m e:=by
 unfold stepZ;obtain ⟨s',hm',e1⟩:=zvh hm (fun s'=>lookF P s' (forkR P FT sub ct s' (fun ov=>mainC (zMain P FT fid dr sub ct ov s') κ)) κ);rw [e1];rcases zss (P:=P) (fid:=fid) hm' (forkR P FT sub ct s' (fun ov=>mainC (zMain P FT fid dr sub ct ov s') κ)) κ with e0|⟨e,e0,h0⟩
 rotate_left
 ·exact ⟨e,e0,h0⟩
 rw [e0];obtain ⟨ov,e2⟩:=zs0 (P:=P) (FT:=FT) (sub:=sub) (ct:=ct) (s:=s') (fun ov=>mainC (zMain P FT fid dr sub ct ov s') κ);rw [e2]
 cases hy:zMain P FT fid dr sub ct ov s' with
 | mk c e=>
  show ∃ e',bc c (κ e) (κ .fail)=κ e'∧_
  cases c with
  | false=>exact ⟨.fail,rfl,trivial⟩
  | true=>
   refine ⟨e,rfl,?_⟩;have:=zrs (fid:=fid) (ov:=ov) hm0 hF hdr hsub hct hm' (by rw [hy]);rw [hy] at this;exact this
def runZ (st:ES→(EO→α)→α) (p:ES→Bool) (κ:EO→α) (k:Nat):ES→α:=Nat.rec (fun _=>κ .fail) (fun _ ih s=>st s (fun e=>EO.rec (fun s'=>Bool.rec (ih s') (κ (.go s')) (p s')) (fun a H n=>κ (.done a H n)) (fun b H n=>κ (.doneR b H n)) (κ .fail) e)) k
theorem zfs {st:ES→(EO→α)→α} {p:ES→Bool} {κ:EO→α} (hst:∀ (γ:G) (s:ES) (m:Machine) (κ':EO→α),MR γ w0 cs s m→∃ e,st s κ'=κ' e∧SOk P γ w0 cs fid m e) :
  ∀ (k:Nat) (γ:G) (s:ES) (m:Machine),MR γ w0 cs s m→∃ e,runZ st p κ k s=κ e∧SOk P γ w0 cs fid m e
 | 0,γ,s,m,_=>⟨.fail,rfl,trivial⟩
 | k+1,γ,s,m,hm=>by
  obtain ⟨e,h1,h2⟩:=hst γ s m (fun e=>EO.rec (fun s'=>Bool.rec (runZ st p κ k s') (κ (.go s')) (p s')) (fun a H n=>κ (.done a H n)) (fun b H n=>κ (.doneR b H n)) (κ .fail) e) hm;have fin:∃ e',(EO.rec (fun s'=>Bool.rec (runZ st p κ k s') (κ (.go s')) (p s')) (fun a H n=>κ (.done a H n)) (fun b H n=>κ (.doneR b H n)) (κ .fail) e:α)=κ e'∧SOk P γ w0 cs fid m e':=by
   cases e with
   | go s'=>
    show ∃ e',(Bool.rec (runZ st p κ k s') (κ (.go s')) (p s'):α)=κ e'∧_
    cases hp:p s' with
    | true=>exact ⟨.go s',rfl,h2⟩
    | false=>
     obtain ⟨γ',m',hle,hs,hm'⟩:=h2;obtain ⟨e2,q1,q2⟩:=zfs hst k γ' s' m' hm';exact ⟨e2,q1,SOk.trans hle hs q2⟩
   | done a H n=>exact ⟨_,rfl,h2⟩
   | doneR b H n=>exact ⟨_,rfl,h2⟩
   | fail=>exact ⟨_,rfl,h2⟩
  obtain ⟨e',q1,q2⟩:=fin;exact ⟨e',h1.trans q1,q2⟩
def atS (d f id:Nat) (s:ES):Bool:=bc (Nat.beq (llen s.rest) d) (bc (Nat.beq s.top.fn f) (match s.top.todo with
 | .it (.code (.seq (.region i _ _) _))::_=>Nat.beq i id
 | _=>false) false) false
end
section
open Go.RowKit
variable {P:Program} {γ γ':G} {w0:Bs} {w:World} {H H':Tr EK} {n n':Nat} {T:Tr EV} {cs:List Frame} {fid:FuncId} {FT:Tr FI} {tmps:Array Value} {o:Oper} {α:Type}
theorem zpk {ρ:List (Nat×Nat)} {N:Nat} (hρ:okN ρ N=true) {l:SL} {f:EF} {a:FS} {fr:Frame} (h:normFR ρ l f=some a) (hf:FR γ f fr):FR (γ.ren ρ) (frOf a) fr:=by
 unfold normFR at h;split at h
 case h_2=>cases h
 rename_i hret;split at h
 case h_2=>cases h
 rename_i ds' hds;split at h
 case h_2=>cases h
 rename_i ro' hro;split at h
 case h_2=>cases h
 rename_i td htd;split at h
 case h_2=>cases h
 rename_i T hT;injection h with h;subst h
 obtain ⟨tmps,todo,ds,ro,rfl,h1,h2,h3,h4,h5⟩:=hf;refine ⟨tmps,todo,ds,ro,by rw [hret];rfl,h1,fun sl a hs=>?_,zkd (R:=IR γ) (S:=IR (γ.ren ρ)) (fun _ _ _ h1 h2=>zvf hρ h1 h2) htd h3,zkd (R:=DR γ) (S:=DR (γ.ren ρ)) (fun _ _ _ h1 h2=>zvg hρ h1 h2) hds h4,zvd hρ hro h5⟩;obtain ⟨c,a0,q1,q2⟩:=zhn hT sl a (zdu hs);obtain ⟨x,hx,hc⟩:=h2 sl a0 q1;exact ⟨x,hx,zpb hρ q2 hc⟩
theorem zew {ρ:List (Nat×Nat)} {N:Nat} (hρ:okN ρ N=true):∀ {ls:List SL} {l:List EF} {r:List FS} {frs:List Frame},normFsR ρ ls l=some r→All2 (FR γ) l frs→All2 (FR (γ.ren ρ)) (frsOf r) frs
 | [],[],r,frs,h,hf=>by
  have h':some []=some r:=h;injection h' with h';subst h'
  cases hf;exact .nil
 | [],f::l,r,frs,h,_=>by exact absurd (show (none:Option (List FS))=some r from h) (by simp)
 | q::ls,[],r,frs,h,_=>by exact absurd (show (none:Option (List FS))=some r from h) (by simp)
 | q::ls,f::l,r,frs,h,hf=>by
  have h':(match normFR ρ q f with
   | some a=>match normFsR ρ ls l with
    | some r=>some (a::r)
    | none=>none
   | none=>none)=some r:=h
  split at h'
  case h_2=>cases h'
  rename_i a ha;split at h'
  case h_2=>cases h'
  rename_i r' hr';injection h' with h';subst h'
  cases hf with
  | cons h1 h2=>exact .cons (zpk hρ ha h1) (zew hρ hr' h2)
theorem HR.ren (hH:HR γ w0 H n w) (hres:∀ i,¬ w0.res i) {ρ keep:List (Nat×Nat)} {nils:List (Nat×TypeId×SyC)} {N:Nat} {lk:List Nat} {K:List (Nat×EK)} (hρ:okN ρ N=true) (hkeep:allL (fun p=>isSomeN (lookN ρ p.1) p.2) keep=true) (hnil:allL (fun p=>isNilS p.2.2) nils=true) (hK:pickK ρ H lk keep=some K) {K2:List (Nat×EK)} (hK2:∀ x,x∈K2→x∈nilsK nils++K):HR (γ.ren ρ) w0 (mkT K2) N w:=by
 have get:∀ j k,(mkT K2).get j=some k→(k.Nil∧k.nestB=false)∨∃ i k0,lookN ρ i=some j∧H.get i=some k0∧renK ρ lk k0=some k:=fun j k hk=>by
  rcases List.mem_append.1 (hK2 _ (zdu hk)) with hm|hm
  ·left;unfold nilsK at hm;obtain ⟨p,hp,e⟩:=List.mem_map.1 hm;injection e with e1 e2;subst e2
   exact ⟨⟨rfl,zi4 (zal hnil p hp)⟩,rfl⟩
  ·right;obtain ⟨i,k0,q1,q2,q3⟩:=zlu hK j k hm;exact ⟨i,k0,zbi (zal hkeep (i,j) q1),q2,q3⟩
 refine ⟨fun j k hk=>?_,fun j1 j2 k1 k2 hj1 hj2 n1 n2 hne b1 b2 e1 e2=>?_,fun j hj=>?_,fun i hi=>absurd hi (hres i),fun j p e=>?_,hH.stays,⟨fun k a hk=>?_,hH.fzk.base,fun j v q p e=>G.ren_rw hH.fzk.nst.rwg e,fun j me ty sh rows v ho nn e=>?_,fun j me ty sh rows v ho nn e j1 f sh' hj1 hf hh k m hk=>?_⟩⟩
 ·rcases get j k hk with h5|⟨i,k0,q1,q2,q3⟩
  ·exact .inl h5.1
  ·rcases hH.hp0 i k0 q2 with h6|⟨b,m2,e1,e2,e3⟩
   ·exact .inl ((zd9 q3).2 h6)
   ·exact .inr ⟨b,m2,by rw [G.ren_look hρ q1];exact e1,e2,zve hρ q3 e3⟩
 ·rcases get j1 k1 hj1 with h5|⟨i1,k01,q1,q2,q3⟩
  ·exact absurd h5.1 n1
  rcases get j2 k2 hj2 with h6|⟨i2,k02,q4,q5,q6⟩
  ·exact absurd h6.1 n2
  rw [G.ren_look hρ q1] at e1;rw [G.ren_look hρ q4] at e2;have hne2:i1≠i2:=fun e=>by
   subst e;rw [q1] at q4;injection q4 with q4;exact hne q4
  exact hH.inj0 i1 i2 k01 k02 q2 q5 (fun e=>n1 ((zd9 q3).2 e)) (fun e=>n2 ((zd9 q6).2 e)) hne2 b1 b2 e1 e2
 ·show (invN ρ j).bind γ=none
  cases hi:invN ρ j with
  | none=>rfl
  | some i=>
   have:=(zgw hρ (zdi hi)).2.2;omega
 ·obtain ⟨i,_,q2⟩:=G.ren_some e;exact hH.lt i p q2
 ·obtain ⟨g1,g2,g3⟩:=hH.fzk.at' k a hk;refine ⟨g1,g2,fun j kj b m hj nj ej=>?_⟩;rcases get j kj hj with h5|⟨i1,k01,q1,q2,q3⟩
  ·exact absurd h5.1 nj
  rw [G.ren_look hρ q1] at ej;exact g3 i1 k01 b m q2 (fun e=>nj ((zd9 q3).2 e)) ej
 ·rcases get j _ e with h5|⟨i1,k01,q1,q2,q3⟩
  ·cases h5.2
  obtain ⟨me0,rfl,q4⟩:=zfu q3;obtain ⟨q5,q6⟩:=hH.fzk.nst.me i1 me0 ty sh rows v ho nn q2;subst q5;rw [q1] at q4;injection q4 with q4
  exact ⟨q4.symm,fun v' q hv=>(G.ren_rwL hρ q1 v' q).trans (q6 v' q hv)⟩
 ·rcases get j _ e with h5|⟨i1,k01,q1,q2,q3⟩
  ·cases h5.2
  obtain ⟨me0,rfl,_⟩:=zfu q3;obtain ⟨g1,g2,g3,g4,arr,ty3,g5,g6,g7⟩:=hH.fzk.nst.at' i1 me0 ty sh rows v ho nn q2 j1 f sh' hj1 hf hh k m ((G.ren_rwL hρ q1 _ _).symm.trans hk);refine ⟨g1,g2,fun j' kj b m' hj nj ej=>?_,fun j2 me2 ty2 sh2 rows2 v2 ho2 nn2 e2 j3 f2 s2 hj2 hf2 hh2 m2 hk2=>?_,arr,ty3,g5,g6,fun a g s ha hs=>let ⟨x,hx,hc⟩:=g7 a g s ha hs;⟨x,hx,ev_fz hc fun _ _ h=>h⟩⟩
  ·rcases get j' kj hj with h5|⟨i2,k02,r1,r2,r3⟩
   ·exact absurd h5.1 nj
   rw [G.ren_look hρ r1] at ej;exact g3 i2 k02 b m' r2 (fun e=>nj ((zd9 r3).2 e)) ej
  ·rcases get j2 _ e2 with h5|⟨i2,k02,r1,r2,r3⟩
   ·cases h5.2
   obtain ⟨me3,rfl,_⟩:=zfu r3;obtain ⟨y1,y2,y3⟩:=g4 i2 me3 ty2 sh2 rows2 v2 ho2 nn2 r2 j3 f2 s2 hj2 hf2 hh2 m2 ((G.ren_rwL hρ r1 _ _).symm.trans hk2);subst y1;rw [q1] at r1;injection r1 with r1
   exact ⟨r1.symm,y2,y3⟩
def LeadsZ (P:Program) (s s':ES):Prop:=∀ (γ:G) (w0:Bs) (cs:List Frame) (m:Machine),(∀ i,¬ w0.res i)→MR γ w0 cs s m→∃ γ' m',Steps P m m'∧MR γ' w0 cs s' m'
theorem LeadsZ.trans {a b c:ES} (h:LeadsZ P a b) (k:LeadsZ P b c):LeadsZ P a c:=fun γ w0 cs m hr hm=>by
 obtain ⟨γ1,m1,h1,h3⟩:=h γ w0 cs m hr hm;obtain ⟨γ2,m2,k1,k3⟩:=k γ1 w0 cs m1 hr h3;exact ⟨γ2,m2,h1.trans k1,k3⟩
theorem LeadsZ.refl (a:ES):LeadsZ P a a:=fun γ _ _ m _ hm=>⟨γ,m,Steps.refl P _,hm⟩
theorem zpz {s:ES} {lk:List Nat} {r:NS} {f:FuncId}
  (h:∀ (γ:G) (w0:Bs) (cs:List Frame) (m:Machine),MR γ w0 cs s m→∃ e ls ρ keep nils N,normR lk ls ρ keep nils N e=some r∧SOk P γ w0 cs f m e):LeadsZ P s (stOf r):=fun γ w0 cs m hres hm=>by
 obtain ⟨e,ls,ρ,keep,nils,N,h,this⟩:=h γ w0 cs m hm;unfold normR at h;split at h
 case h_2=>cases h
 rename_i s';obtain ⟨γ',m',h1,h2,h3⟩:=this;split at h
 case h_2=>cases h
 rename_i l hl;split at h
 case h_2=>cases h
 rename_i K hK;rw [bc_eq] at h;split at h
 case isFalse=>cases h
 rename_i hρ;rw [bc_eq] at h;split at h
 case isFalse=>cases h
 rename_i hkeep;rw [bc_eq] at h;split at h
 case isFalse=>cases h
 rename_i hnil;injection h with h;subst h
 obtain ⟨fr,frs,w,rfl,g1,hfs,hH⟩:=h3;have g3:=zew hρ hl (.cons g1 hfs);have hHn:=hH.ren hres hρ hkeep hnil hK (K2:=sortK (nilsK nils++K)) (fun _=>zc2)
 cases l with
 | nil=>have g3:All2 (FR (γ'.ren ρ)) [] (fr::frs):=g3;cases g3
 | cons f l=>
  have g3:All2 (FR (γ'.ren ρ)) (frOf f::frsOf l) (fr::frs):=g3
  cases g3 with
  | cons e1 e2=>exact ⟨γ'.ren ρ,_,h2,fr,frs,w,rfl,e1,e2,hHn⟩
inductive ZF where
 | at (r:NS)
 | done (a:EV) (K:List (Nat×EK)) (n:Nat)
 | bad
def doneO (q:NN) (a:EV) (H:Tr EK):ZF:=match renE q.ρ 8 a with
 | some a'=>match pickK q.ρ H [] (keepN H q.ρ) with
  | some K=>bc (okN q.ρ q.N) (bc (allL (fun p=>isSomeN (lookN q.ρ p.1) p.2) (keepN H q.ρ)) (.done a' K q.N) .bad) .bad
  | none=>.bad
 | none=>.bad
def doneD (a:EV) (H:Tr EK):ZF:=match frzE 8 a H with
 | some (c,a',_)=>bc c (.done a' [] 0) .bad
 | none=>.bad
def doneZ (own:Bool) (a:EV) (H:Tr EK):ZF:=bc own (doneO (addL (numsE 6 a) ⟨[],[],0⟩) a H) (doneD a H)
theorem ztl {own:Bool} {a:EV} {r:NS} (h:doneZ own a H = .at r):False:=by
 unfold doneZ at h;rw [bc_eq] at h;split at h
 ·unfold doneO at h;split at h
  ·split at h
   ·rw [bc_eq] at h;split at h
    ·rw [bc_eq] at h;split at h <;> cases h
    ·cases h
   ·cases h
  ·cases h
 ·unfold doneD at h;split at h
  ·rw [bc_eq] at h;split at h <;> cases h
  ·cases h
def endZ (lk:List Nat) (ls:List SZ) (own:Bool) (e:EO):ZF:=match e with
 | .done a H n=>doneZ own a H
 | .go s=>match normZ lk ls (.go (nilS ls s)) with
  | some r=>.at r
  | none=>.bad
 | _=>.bad
abbrev PLs:=List ((ES→Bool)×List SZ)
def lsAt (ps:PLs) (s:ES):List SZ:=List.rec [] (fun q _ ih=>bc (q.1 s) q.2 ih) ps
def atPs (ps:PLs) (s:ES):Bool:=List.rec false (fun q _ ih=>bc (q.1 s) true ih) ps
def endP (lk:List Nat) (ps:PLs) (own:Bool) (e:EO):ZF:=match e with
 | .go s=>endZ lk (lsAt ps s) own (.go s)
 | .done a H n=>endZ lk [] own (.done a H n)
 | _=>.bad
theorem zqv {lk:List Nat} {ps:PLs} {own:Bool} (e:EO):∃ ls,endP lk ps own e=endZ lk ls own e:=by
 cases e with
 | go s=>exact ⟨_,rfl⟩
 | done a H n=>exact ⟨[],rfl⟩
 | _=>exact ⟨[],rfl⟩
theorem ztk {own:Bool} {a:EV} {a':EV} {K:List (Nat×EK)} {N:Nat} (h:doneZ own a H = .done a' K N) (hH:HR γ w0 H n w) (hres:∀ i,¬ w0.res i) {x:Value} (ha:EC γ a x):∃ γ',EC γ' a' x∧HR γ' w0 (mkT K) N w:=by
 unfold doneZ at h;rw [bc_eq] at h;split at h
 ·unfold doneO at h;split at h
  case h_2=>cases h
  rename_i a2 ha2;split at h
  case h_2=>cases h
  rename_i K2 hK;rw [bc_eq] at h;split at h
  case isFalse=>cases h
  rename_i hρ;rw [bc_eq] at h;split at h
  case isFalse=>cases h
  rename_i hkeep;injection h with e1 e2 e3
  subst e1;subst e2;subst e3;exact ⟨_,EC.ren hρ ha2 ha,hH.ren (nils:=[]) hres hρ hkeep rfl hK (fun _ h=>h)⟩
 ·unfold doneD at h;split at h
  case h_2=>cases h
  rename_i c a2 H2 hf;rw [bc_eq] at h;split at h
  case isFalse=>cases h
  rename_i hc;injection h with e1 e2 e3
  subst e1;subst e2;subst e3;obtain ⟨γ',g1,g2,g3⟩:=zcv hH ha hf hc;have hd:HR (γ'.ren []) w0 (mkT ([]++[])) 0 w:=g2.ren (ρ:=[]) (keep:=[]) (nils:=[]) (lk:=[]) hres rfl rfl rfl rfl (fun _ h=>h);have hdata:dataB 8 a2=true:=by
   have key:∀ (k:Nat),(∀ (a:EV) (H:Tr EK) (c:Bool) (a':EV) (H':Tr EK),frzE k a H=some (c,a',H')→dataB k a'=true)∧∀ (l:List EV) (H:Tr EK) (c:Bool) (l':List EV) (H':Tr EK),frzL (frzE k) l H=some (c,l',H')→allL (dataB k) l'=true:=fun k=>by
    induction k with
    | zero=>
     have h0:∀ (a:EV) (H:Tr EK) (c:Bool) (a':EV) (H':Tr EK),frzE 0 a H=some (c,a',H')→dataB 0 a'=true:=fun a H c a' H' h=>by cases h
     refine ⟨h0,fun l=>?_⟩
     induction l with
     | nil=>intro H c l' H' h;have h':some (true,[],H)=some (c,l',H'):=h;simp only [Option.some.injEq,Prod.mk.injEq] at h';obtain ⟨_,rfl,_⟩:=h';rfl
     | cons b l ih=>intro H c l' H' h;cases (show (match (none:Option (Bool×EV×Tr EK)) with
       | some (c,a',H')=>match frzL (frzE 0) l H' with
        | some (c2,l',H2)=>some (bc c c2 false,a'::l',H2)
        | none=>none
       | none=>none)=some (c,l',H') from h)
    | succ k ih=>
     have h1:∀ (a:EV) (H:Tr EK) (c:Bool) (a':EV) (H':Tr EK),frzE (k+1) a H=some (c,a',H')→dataB (k+1) a'=true:=fun a H c a' H' h=>by
      cases a with
      | v x=>have h':some (true,EV.v x,H)=some (c,a',H'):=h;simp only [Option.some.injEq,Prod.mk.injEq] at h';obtain ⟨_,rfl,_⟩:=h';rfl
      | lst x=>have h':some (true,EV.lst x,H)=some (c,a',H'):=h;simp only [Option.some.injEq,Prod.mk.injEq] at h';obtain ⟨_,rfl,_⟩:=h';rfl
      | arr x=>have h':some (true,EV.arr x,H)=some (c,a',H'):=h;simp only [Option.some.injEq,Prod.mk.injEq] at h';obtain ⟨_,rfl,_⟩:=h';rfl
      | lp x j f=>have h':some (true,EV.lp x j f,H)=some (c,a',H'):=h;simp only [Option.some.injEq,Prod.mk.injEq] at h';obtain ⟨_,rfl,_⟩:=h';rfl
      | ptrE i z j f=>
       obtain ⟨c0,rfl⟩:=zvt (show frzP i z j f H=some (c,a',H') from h);rfl
      | slO i z len nn=>
       obtain ⟨c0,rfl⟩:=zme (show frzS i z len H=some (c,a',H') from h);rfl
      | sl i z off len cap=>
       cases cap with
       | some q=>cases h
       | none=>
       cases off with
       | succ q=>cases h
       | zero=>
       obtain ⟨c0,rfl⟩:=zme (show frzS i z len H=some (c,a',H') from h);rfl
      | agg l=>
       have h':(match frzL (frzE k) l H with
        | some (c,l',H')=>some (c,EV.agg l',H')
        | none=>none)=some (c,a',H'):=h
       split at h'
       case h_2=>cases h'
       rename_i e1;simp only [Option.some.injEq,Prod.mk.injEq] at h';obtain ⟨_,rfl,_⟩:=h';exact ih.2 _ _ _ _ _ e1
      | tup l=>
       have h':(match frzL (frzE k) l H with
        | some (c,l',H')=>some (c,EV.tup l',H')
        | none=>none)=some (c,a',H'):=h
       split at h'
       case h_2=>cases h'
       rename_i e1;simp only [Option.some.injEq,Prod.mk.injEq] at h';obtain ⟨_,rfl,_⟩:=h';exact ih.2 _ _ _ _ _ e1
      | fn f l=>
       have h':(match frzL (frzE k) l H with
        | some (c,l',H')=>some (c,EV.fn f l',H')
        | none=>none)=some (c,a',H'):=h
       split at h'
       case h_2=>cases h'
       rename_i e1;simp only [Option.some.injEq,Prod.mk.injEq] at h';obtain ⟨_,rfl,_⟩:=h';exact ih.2 _ _ _ _ _ e1
      | _=>cases h
     refine ⟨h1,fun l=>?_⟩
     induction l with
     | nil=>intro H c l' H' h;have h':some (true,[],H)=some (c,l',H'):=h;simp only [Option.some.injEq,Prod.mk.injEq] at h';obtain ⟨_,rfl,_⟩:=h';rfl
     | cons b l ihl=>
      intro H c l' H' h;have h':(match frzE (k+1) b H with
       | some (c,a',H')=>match frzL (frzE (k+1)) l H' with
        | some (c2,l',H2)=>some (bc c c2 false,a'::l',H2)
        | none=>none
       | none=>none)=some (c,l',H'):=h
      split at h'
      case h_2=>cases h'
      rename_i e1;split at h'
      case h_2=>cases h'
      rename_i e2;simp only [Option.some.injEq,Prod.mk.injEq] at h';obtain ⟨_,rfl,_⟩:=h';show bc (dataB (k+1) _) (allL (dataB (k+1)) _) false=true;rw [h1 _ _ _ _ _ e1,ihl _ _ _ _ e2];rfl
   exact (key 8).1 _ _ _ _ _ hf
  exact ⟨γ'.ren [],g3.data hdata fun _ _ h=>h,hd⟩
theorem leadsF (hm0:P.follows .mixedOrders=true) (hF:FTok P FT) {dr:ES→Nat→Array Oper→List IM→EO} (hdr:DrOk P dr) {sub:Sub} (hsub:LoudOk P sub) {ct:Tr ZCC} (hct:ZCtsOk P ct) {f k:Nat} {p:ES→Bool} {s:ES} {lk:List Nat} {κ:EO→ZF} {own:Bool} {r:NS} (hκ:∀ e,∃ ls,κ e=endZ lk ls own e)
  (h:runZ (stepZ P FT f dr sub ct) p κ k s = .at r):LeadsZ P s (stOf r):=
 zpz (f:=f) (lk:=lk) fun γ w0 cs m hm=>by
  obtain ⟨e,h1,h2⟩:=zfs (p:=p) (κ:=κ) (fun γ s m κ' hm=>zfb (fid:=f) hm0 hF hdr hsub hct hm κ') k γ s m hm;obtain ⟨ls,hls⟩:=hκ e;have h3:endZ lk ls own e = .at r:=hls.symm.trans (h1.symm.trans h);unfold endZ at h3;split at h3
  ·exact (ztl h3).elim
  ·split at h3
   ·rename_i s' r' hr;injection h3 with h3;subst h3
    unfold normZ at hr;simp only at hr;obtain ⟨γ',m',hle,hst,hM⟩:=h2;exact ⟨_,_,_,_,_,_,hr,⟨γ',m',hle,hst,zpm hM⟩⟩
   ·cases h3
  ·cases h3
theorem callsF (hm0:P.follows .mixedOrders=true) (hF:FTok P FT) {dr:ES→Nat→Array Oper→List IM→EO} (hdr:DrOk P dr) {sub:Sub} (hsub:LoudOk P sub) {ct:Tr ZCC} (hct:ZCtsOk P ct) {f k:Nat} {p:ES→Bool} {s:ES} {lk:List Nat} {κ:EO→ZF} {own:Bool} {args:List EV} {us:Array Value} {e:EF} {a:EV} {K:List (Nat×EK)} {n':Nat} (hκ:∀ e,∃ ls,κ e=endZ lk ls own e)
  (he:exEnter FT f args=some e) (hargs:ECL γ args us.toList) (hN:∀ i,γ i=none) (hfz:FzAt γ w)
  (hl:LeadsZ P ⟨e,[],.nil,0⟩ s) (hd:runZ (stepZ P FT f dr sub ct) p κ k s = .done a K n') :
  Calls P f us w fun e w'=>∃ γ' x,e = .returned x∧EC γ' a x∧HR γ' (Bs.ofG w γ) (mkT K) n' w':=by
 intro cs;obtain ⟨q1,_⟩:=zb4 hF hargs he;have hM:MR γ (Bs.ofG w γ) cs ⟨e,[],.nil,0⟩ (lone (Frame.enter P f us .normal) cs w):=
  ⟨_,[],w,rfl,q1,.nil,⟨(fun i k hk=>by cases hk),(fun i j ki kj hi=>by cases hi),(fun i _=>hN i),(fun i hi=>hi.elim),(fun i p hp=>by rw [hN i] at hp;cases hp),⟨rfl,rfl,rfl,Nat.le_refl _,fun _ _=>rfl⟩,FZ.init hfz⟩⟩
 obtain ⟨γ1,m1,g1,g3⟩:=hl γ (Bs.ofG w γ) cs _ (fun i hi=>hi) hM;obtain ⟨eo,h1,this⟩:=zfs (p:=p) (κ:=κ) (fun γ s m κ' hm=>zfb (fid:=f) hm0 hF hdr hsub hct hm κ') k γ1 s m1 g3;obtain ⟨ls,hls⟩:=hκ eo;have h3:endZ lk ls own eo = .done a K n':=hls.symm.trans (h1.symm.trans hd);unfold endZ at h3;split at h3
 ·rename_i a0 H0 n0;obtain ⟨γ',fr',w',v,_,h2,h4,h5,h6,h7⟩:=this;obtain ⟨γ2,k1,k2⟩:=ztk h3 h7 (fun i hi=>hi) h6;exact ⟨.returned v,w',fr',⟨γ2,v,rfl,k1,k2⟩,g1.trans h2,h4,h5⟩
 ·split at h3 <;> cases h3
 ·cases h3
end
section
open Go.RowKit
variable {P:Program} {γ γ':G} {w0:Bs} {w:World} {H H':Tr EK} {n n':Nat} {T:Tr EV} {cs:List Frame} {fid:FuncId} {FT:Tr FI} {tmps:Array Value} {o:Oper} {α:Type}
def idL (k:Nat):List (Nat×Nat):=Nat.rec [] (fun j ih=>ih++[(j,j)]) k
theorem zp5:∀ {k j:Nat},j<k→(j,j)∈idL k
 | k+1,j,h=>by
  show (j,j)∈idL k++[(k,k)]
  by_cases e:j=k
  ·subst e;simp
  ·exact List.mem_append.2 (.inl (zp5 (by omega)))
def pinsB (k:Nat) (ρ:List (Nat×Nat)):Bool:=allL (fun p=>isSomeN (lookN ρ p.1) p.2) (idL k)
theorem zlt {k:Nat} {ρ:List (Nat×Nat)} (h:pinsB k ρ=true) {j:Nat} (hj:j<k):lookN ρ j=some j:=zbi (zal h (j,j) (zp5 hj))
def normK (k:Nat) (lk:List Nat) (ls:List SZ) (e:EO):Option NS:=match e with
 | .go s=>match framesN (s.top::s.rest) ls ⟨idL k,[],k⟩ with
  | (q0,sl)=>match closeN lk s.H 60 0 q0 with
   | q=>bc (pinsB k q.ρ) (normR lk sl q.ρ (keepN s.H q.ρ) q.nils q.N (.go s)) none
 | _=>none
def doneM (k:Nat) (a:EV) (H:Tr EK):ZF:=match closeN [] H 60 0 (addL (numsE 6 a) ⟨idL k,[],k⟩) with
 | q=>match renE q.ρ 8 a with
  | some a'=>match pickK q.ρ H [] (keepN H q.ρ) with
   | some K=>bc (okN q.ρ q.N) (bc (allL (fun p=>isSomeN (lookN q.ρ p.1) p.2) (keepN H q.ρ)) (bc (pinsB k q.ρ) (.done a' (sortK K) q.N) .bad) .bad) .bad
   | none=>.bad
  | none=>.bad
abbrev NLs:=List (Nat×Nat×TypeId×SyC)
def nilD (nl:NLs):Tr EK×Nat→Tr EK×Nat:=List.rec (fun q=>q) (fun p _ ih q=>match q.1.get p.1 with
 | some (.cells _ l _)=>ih (nilL p.2.1 p.2.2.1 p.2.2.2 p.1 (nilJ l 0) q)
 | _=>ih q) nl
theorem zj9:∀ {nl:NLs} {q:Tr EK×Nat},HR γ w0 q.1 q.2 w→HR γ w0 (nilD nl q).1 (nilD nl q).2 w
 | [],_,h=>h
 | p::nl,q,h=>by
  show HR γ w0 (match q.1.get p.1 with
   | some (.cells _ l _)=>nilD nl (nilL p.2.1 p.2.2.1 p.2.2.2 p.1 (nilJ l 0) q)
   | _=>nilD nl q).1 (match q.1.get p.1 with
   | some (.cells _ l _)=>nilD nl (nilL p.2.1 p.2.2.1 p.2.2.2 p.1 (nilJ l 0) q)
   | _=>nilD nl q).2 w
  split
  ·exact zj9 (zj8 h)
  ·exact zj9 h
def endM (k:Nat) (lk:List Nat) (ps:PLs) (nl:NLs) (e:EO):ZF:=match e with
 | .go s=>match normK k lk (lsAt ps s) (.go (nilS (lsAt ps s) s)) with
  | some r=>.at r
  | none=>.bad
 | .done a H n=>doneM k a (nilD nl (H,n)).1
 | _=>.bad
def LeadsM (P:Program) (k:Nat) (s s':ES):Prop:=∀ (γ:G) (w0:Bs) (cs:List Frame) (m:Machine),(∀ i,¬ w0.res i)→MR γ w0 cs s m→∃ γ' m',Steps P m m'∧MR γ' w0 cs s' m'∧∀ j p,j<k→γ j=some p→γ' j=some p
theorem LeadsM.trans {k:Nat} {a b c:ES} (h:LeadsM P k a b) (g:LeadsM P k b c):LeadsM P k a c:=fun γ w0 cs m hr hm=>by
 obtain ⟨γ1,m1,h1,h2,h3⟩:=h γ w0 cs m hr hm;obtain ⟨γ2,m2,k1,k2,k3⟩:=g γ1 w0 cs m1 hr h2;exact ⟨γ2,m2,h1.trans k1,k2,fun j p hj e=>k3 j p hj (h3 j p hj e)⟩
theorem LeadsM.refl (k:Nat) (a:ES):LeadsM P k a a:=fun γ _ _ m _ hm=>⟨γ,m,Steps.refl P _,hm,fun _ _ _ e=>e⟩
theorem zp0 {s:ES} {lk:List Nat} {r:NS} {f:FuncId} {k:Nat}
  (h:∀ (γ:G) (w0:Bs) (cs:List Frame) (m:Machine),MR γ w0 cs s m→∃ e ls ρ keep nils N,normR lk ls ρ keep nils N e=some r∧pinsB k ρ=true∧SOk P γ w0 cs f m e):LeadsM P k s (stOf r):=fun γ w0 cs m hres hm=>by
 obtain ⟨e,ls,ρ,keep,nils,N,h,hpk,this⟩:=h γ w0 cs m hm;unfold normR at h;split at h
 case h_2=>cases h
 rename_i s';obtain ⟨γ',m',h1,h2,h3⟩:=this;split at h
 case h_2=>cases h
 rename_i l hl;split at h
 case h_2=>cases h
 rename_i K hK;rw [bc_eq] at h;split at h
 case isFalse=>cases h
 rename_i hρ;rw [bc_eq] at h;split at h
 case isFalse=>cases h
 rename_i hkeep;rw [bc_eq] at h;split at h
 case isFalse=>cases h
 rename_i hnil;injection h with h;subst h
 obtain ⟨fr,frs,w,rfl,g1,hfs,hH⟩:=h3;have g3:=zew hρ hl (.cons g1 hfs);have hHn:=hH.ren hres hρ hkeep hnil hK (K2:=sortK (nilsK nils++K)) (fun _=>zc2)
 cases l with
 | nil=>have g3:All2 (FR (γ'.ren ρ)) [] (fr::frs):=g3;cases g3
 | cons f l=>
  have g3:All2 (FR (γ'.ren ρ)) (frOf f::frsOf l) (fr::frs):=g3
  cases g3 with
  | cons e1 e2=>exact ⟨γ'.ren ρ,_,h2,⟨fr,frs,w,rfl,e1,e2,hHn⟩,fun j p hj ej=>by rw [G.ren_look hρ (zlt hpk hj)];exact h1 j p ej⟩
theorem leadsM (hm0:P.follows .mixedOrders=true) (hF:FTok P FT) {dr:ES→Nat→Array Oper→List IM→EO} (hdr:DrOk P dr) {sub:Sub} (hsub:LoudOk P sub) {ct:Tr ZCC} (hct:ZCtsOk P ct) {f k c:Nat} {p:ES→Bool} {s:ES} {lk:List Nat} {ps:PLs} {nl:NLs} {r:NS}
  (h:runZ (stepZ P FT f dr sub ct) p (endM k lk ps nl) c s = .at r):LeadsM P k s (stOf r):=
 zp0 (f:=f) (lk:=lk) fun γ w0 cs m hm=>by
  obtain ⟨e,h1,h2⟩:=zfs (p:=p) (κ:=endM k lk ps nl) (fun γ s m κ' hm=>zfb (fid:=f) hm0 hF hdr hsub hct hm κ') c γ s m hm;have h3:endM k lk ps nl e = .at r:=h1.symm.trans h;unfold endM at h3;split at h3
  ·split at h3
   ·rename_i s' r' hr;injection h3 with h3;subst h3
    unfold normK at hr;simp only at hr;rw [bc_eq] at hr;split at hr
    case isFalse=>cases hr
    rename_i hpk;obtain ⟨γ',m',hle,hst,hM⟩:=h2;exact ⟨_,_,_,_,_,_,hr,hpk,⟨γ',m',hle,hst,zpm hM⟩⟩
   ·cases h3
  ·unfold doneM at h3;simp only at h3;split at h3
   ·split at h3
    ·rw [bc_eq,bc_eq,bc_eq] at h3;split at h3
     ·split at h3
      ·split at h3 <;> cases h3
      ·cases h3
     ·cases h3
    ·cases h3
   ·cases h3
  ·cases h3
theorem callsM (hm0:P.follows .mixedOrders=true) (hF:FTok P FT) {dr:ES→Nat→Array Oper→List IM→EO} (hdr:DrOk P dr) {sub:Sub} (hsub:LoudOk P sub) {ct:Tr ZCC} (hct:ZCtsOk P ct) {f k c:Nat} {p:ES→Bool} {s:ES} {lk:List Nat} {ps:PLs} {nl:NLs} {args:List EV} {us:Array Value} {e:EF} {K0:List (Nat×EK)} {m0:Nat} {a:EV} {K:List (Nat×EK)} {n':Nat}
  (he:exEnter FT f args=some e) (hres:∀ i,¬ w0.res i) (hargs:ECL γ args us.toList) (hH:HR γ w0 (mkT K0) m0 w)
  (hl:LeadsM P k ⟨e,[],mkT K0,m0⟩ s) (hd:runZ (stepZ P FT f dr sub ct) p (endM k lk ps nl) c s = .done a K n') :
  Calls P f us w fun e w'=>∃ γ' x,e = .returned x∧EC γ' a x∧HR γ' w0 (mkT K) n' w'∧∀ j p,j<k→γ j=some p→γ' j=some p:=by
 intro cs;obtain ⟨q1,_⟩:=zb4 hF hargs he;have hM:MR γ w0 cs ⟨e,[],mkT K0,m0⟩ (lone (Frame.enter P f us .normal) cs w):=⟨_,[],w,rfl,q1,.nil,hH⟩;obtain ⟨γ1,m1,g1,g3,g4⟩:=hl γ w0 cs _ hres hM;obtain ⟨eo,h1,this⟩:=zfs (p:=p) (κ:=endM k lk ps nl) (fun γ s m κ' hm=>zfb (fid:=f) hm0 hF hdr hsub hct hm κ') c γ1 s m1 g3;have h3:endM k lk ps nl eo = .done a K n':=h1.symm.trans hd;unfold endM at h3;split at h3
 ·split at h3 <;> cases h3
 ·rename_i a0 H0 n0;obtain ⟨γ',fr',w',v,hle,h2,h4,h5,h6,h7⟩:=this;unfold doneM at h3;simp only at h3;split at h3
  case h_2=>cases h3
  rename_i a2 ha2;split at h3
  case h_2=>cases h3
  rename_i K2 hK2;rw [bc_eq] at h3;split at h3
  case isFalse=>cases h3
  rename_i hρ;rw [bc_eq] at h3;split at h3
  case isFalse=>cases h3
  rename_i hkeep;rw [bc_eq] at h3;split at h3
  case isFalse=>cases h3
  rename_i hpk;injection h3 with e1 e2 e3;subst e1;subst e2;subst e3
  exact ⟨.returned v,w',fr',⟨_,v,rfl,EC.ren hρ ha2 h6,(zj9 (nl:=nl) (q:=(H0,n0)) h7).ren (nils:=[]) hres hρ hkeep rfl hK2 (K2:=sortK K2) (fun _=>zc2),fun j p hj ej=>by rw [G.ren_look hρ (zlt hpk hj)];exact hle j p (g4 j p hj ej)⟩,g1.trans h2,h4,h5⟩
 ·cases h3
end
noncomputable def ft0:Tr FI:=.nil
theorem ft0Ok:FTok Try.prog ft0:=FTok.nil _
noncomputable def ft1:Tr FI:=ft0.put 5 (some (ofFunc Try.f5))
theorem ft1Ok:FTok Try.prog ft1:=ft0Ok.add (by kernel_rfl) Try.func5 (by kernel_rfl) (by kernel_rfl)
noncomputable def ft2:Tr FI:=ft1.put 21 (some (ofFunc Try.f21))
theorem ft2Ok:FTok Try.prog ft2:=ft1Ok.add (by kernel_rfl) Try.func21 (by kernel_rfl) (by kernel_rfl)
noncomputable def ft3:Tr FI:=ft2.put 22 (some (ofFunc Try.f22))
theorem ft3Ok:FTok Try.prog ft3:=ft2Ok.add (by kernel_rfl) Try.func22 (by kernel_rfl) (by kernel_rfl)
noncomputable def ft4:Tr FI:=ft3.put 23 (some (ofFunc Try.f23))
theorem ft4Ok:FTok Try.prog ft4:=ft3Ok.add (by kernel_rfl) Try.func23 (by kernel_rfl) (by kernel_rfl)
noncomputable def ft5:Tr FI:=ft4.put 24 (some (ofFunc Try.f24))
theorem ft5Ok:FTok Try.prog ft5:=ft4Ok.add (by kernel_rfl) Try.func24 (by kernel_rfl) (by kernel_rfl)
noncomputable def ft6:Tr FI:=ft5.put 25 (some (ofFunc Try.f25))
theorem ft6Ok:FTok Try.prog ft6:=ft5Ok.add (by kernel_rfl) Try.func25 (by kernel_rfl) (by kernel_rfl)
noncomputable def ft7:Tr FI:=ft6.put 45 (some (ofFunc Try.f45))
theorem ft7Ok:FTok Try.prog ft7:=ft6Ok.add (by kernel_rfl) Try.func45 (by kernel_rfl) (by kernel_rfl)
noncomputable def ft8:Tr FI:=ft7.put 46 (some (ofFunc Try.f46))
theorem ft8Ok:FTok Try.prog ft8:=ft7Ok.add (by kernel_rfl) Try.func46 (by kernel_rfl) (by kernel_rfl)
noncomputable def ft9:Tr FI:=ft8.put 61 (some (ofFunc Try.f61))
theorem ft9Ok:FTok Try.prog ft9:=ft8Ok.add (by kernel_rfl) Try.func61 (by kernel_rfl) (by kernel_rfl)
noncomputable def ft10:Tr FI:=ft9.put 62 (some (ofFunc Try.f62))
theorem ft10Ok:FTok Try.prog ft10:=ft9Ok.add (by kernel_rfl) Try.func62 (by kernel_rfl) (by kernel_rfl)
noncomputable def ft11:Tr FI:=ft10.put 63 (some (ofFunc Try.f63))
theorem ft11Ok:FTok Try.prog ft11:=ft10Ok.add (by kernel_rfl) Try.func63 (by kernel_rfl) (by kernel_rfl)
noncomputable def ft12:Tr FI:=ft11.put 64 (some (ofFunc Try.f64))
theorem ft12Ok:FTok Try.prog ft12:=ft11Ok.add (by kernel_rfl) Try.func64 (by kernel_rfl) (by kernel_rfl)
noncomputable def ft13:Tr FI:=ft12.put 65 (some (ofFunc Try.f65))
theorem ft13Ok:FTok Try.prog ft13:=ft12Ok.add (by kernel_rfl) Try.func65 (by kernel_rfl) (by kernel_rfl)
noncomputable def ft14:Tr FI:=ft13.put 66 (some (ofFunc Try.f66))
theorem ft14Ok:FTok Try.prog ft14:=ft13Ok.add (by kernel_rfl) Try.func66 (by kernel_rfl) (by kernel_rfl)
noncomputable def ft15:Tr FI:=ft14.put 67 (some (ofFunc Try.f67))
theorem ft15Ok:FTok Try.prog ft15:=ft14Ok.add (by kernel_rfl) Try.func67 (by kernel_rfl) (by kernel_rfl)
noncomputable def ft16:Tr FI:=ft15.put 68 (some (ofFunc Try.f68))
theorem ft16Ok:FTok Try.prog ft16:=ft15Ok.add (by kernel_rfl) Try.func68 (by kernel_rfl) (by kernel_rfl)
noncomputable def ft17:Tr FI:=ft16.put 95 (some (ofFunc Try.f95))
theorem ft17Ok:FTok Try.prog ft17:=ft16Ok.add (by kernel_rfl) Try.func95 (by kernel_rfl) (by kernel_rfl)
noncomputable def ft18:Tr FI:=ft17.put 99 (some (ofFunc Try.f99))
theorem ft18Ok:FTok Try.prog ft18:=ft17Ok.add (by kernel_rfl) Try.func99 (by kernel_rfl) (by kernel_rfl)
noncomputable def ft19:Tr FI:=ft18.put 110 (some (ofFunc Try.f110))
theorem ft19Ok:FTok Try.prog ft19:=ft18Ok.add (by kernel_rfl) Try.func110 (by kernel_rfl) (by kernel_rfl)
noncomputable def ft20:Tr FI:=ft19.put 111 (some (ofFunc Try.f111))
theorem ft20Ok:FTok Try.prog ft20:=ft19Ok.add (by kernel_rfl) Try.func111 (by kernel_rfl) (by kernel_rfl)
noncomputable def ft21:Tr FI:=ft20.put 112 (some (ofFunc Try.f112))
theorem ft21Ok:FTok Try.prog ft21:=ft20Ok.add (by kernel_rfl) Try.func112 (by kernel_rfl) (by kernel_rfl)
noncomputable def ft22:Tr FI:=ft21.put 113 (some (ofFunc Try.f113))
theorem ft22Ok:FTok Try.prog ft22:=ft21Ok.add (by kernel_rfl) Try.func113 (by kernel_rfl) (by kernel_rfl)
noncomputable def ft23:Tr FI:=ft22.put 114 (some (ofFunc Try.f114))
theorem ft23Ok:FTok Try.prog ft23:=ft22Ok.add (by kernel_rfl) Try.func114 (by kernel_rfl) (by kernel_rfl)
noncomputable def ft24:Tr FI:=ft23.put 115 (some (ofFunc Try.f115))
theorem ft24Ok:FTok Try.prog ft24:=ft23Ok.add (by kernel_rfl) Try.func115 (by kernel_rfl) (by kernel_rfl)
noncomputable def ft25:Tr FI:=ft24.put 116 (some (ofFunc Try.f116))
theorem ft25Ok:FTok Try.prog ft25:=ft24Ok.add (by kernel_rfl) Try.func116 (by kernel_rfl) (by kernel_rfl)
noncomputable def ft26:Tr FI:=ft25.put 117 (some (ofFunc Try.f117))
theorem ft26Ok:FTok Try.prog ft26:=ft25Ok.add (by kernel_rfl) Try.func117 (by kernel_rfl) (by kernel_rfl)
noncomputable def ft27:Tr FI:=ft26.put 126 (some (ofFunc Try.f126))
theorem ft27Ok:FTok Try.prog ft27:=ft26Ok.add (by kernel_rfl) Try.func126 (by kernel_rfl) (by kernel_rfl)
noncomputable def ft:Tr FI:=(.node none (.node none (.node none (.node none (.node none (.node none (.node none .nil (.node (some (ofFunc Try.f64)) .nil .nil)) .nil) (.node none .nil (.node none .nil (.node (some (ofFunc Try.f112)) .nil .nil)))) (.node none .nil (.node (some (ofFunc Try.f24)) .nil .nil))) (.node none (.node none (.node none (.node none .nil (.node (some (ofFunc Try.f68)) .nil .nil)) .nil) (.node none .nil (.node none .nil (.node (some (ofFunc Try.f116)) .nil .nil)))) .nil)) (.node none (.node none (.node none (.node none (.node none .nil (.node (some (ofFunc Try.f66)) .nil .nil)) .nil) (.node none .nil (.node none .nil (.node (some (ofFunc Try.f114)) .nil .nil)))) .nil) (.node none (.node none .nil (.node (some (ofFunc Try.f22)) .nil .nil)) (.node none (.node none .nil (.node (some (ofFunc Try.f46)) .nil (.node (some (ofFunc Try.f110)) .nil .nil))) (.node none .nil (.node (some (ofFunc Try.f62)) .nil (.node (some (ofFunc Try.f126)) .nil .nil))))))) (.node none (.node none (.node none (.node none (.node none (.node none .nil (.node (some (ofFunc Try.f65)) .nil .nil)) .nil) (.node none .nil (.node none .nil (.node (some (ofFunc Try.f113)) .nil .nil)))) (.node none .nil (.node (some (ofFunc Try.f25)) .nil .nil))) (.node (some (ofFunc Try.f5)) (.node none .nil (.node (some (ofFunc Try.f21)) .nil (.node none .nil (.node (some (ofFunc Try.f117)) .nil .nil)))) (.node none (.node none .nil (.node (some (ofFunc Try.f45)) .nil .nil)) (.node none .nil (.node (some (ofFunc Try.f61)) .nil .nil))))) (.node none (.node none (.node none (.node none (.node none .nil (.node (some (ofFunc Try.f67)) .nil .nil)) (.node none .nil (.node (some (ofFunc Try.f99)) .nil .nil))) (.node none .nil (.node none .nil (.node (some (ofFunc Try.f115)) .nil .nil)))) .nil) (.node none (.node none .nil (.node (some (ofFunc Try.f23)) .nil .nil)) (.node none (.node none .nil (.node none .nil (.node (some (ofFunc Try.f111)) .nil .nil))) (.node none (.node none .nil (.node (some (ofFunc Try.f95)) .nil .nil)) (.node (some (ofFunc Try.f63)) .nil .nil)))))))
theorem ftOk:FTok Try.prog ft:=(show ft27=ft by kernel_rfl) ▸ ft27Ok
section
noncomputable def dr4:=drD Try.prog ft 16 4
noncomputable def sub4:Sub:=exSub (fun f=>exStep Try.prog ft f (drD Try.prog ft 16 3)) ft 16
theorem mix:Try.prog.follows .mixedOrders=true:=by kernel_rfl
theorem dr4Ok:DrOk Try.prog dr4:=zmr mix ftOk 16 4
theorem sub4Ok:LoudOk Try.prog sub4:=loudOk ftOk (fun fid cs w0 γ s m hM=>zci ftOk (zmr mix ftOk 16 3) hM) 16
theorem bc_t {α:Type} (x y:α):bc true x y=x:=rfl
theorem bc_f {α:Type} (x y:α):bc false x y=y:=rfl
theorem nn_ok (b:Bool):bc b true (bc b false true)=true:=by cases b <;> rfl
theorem dt {p:Prop} [Decidable p] (h:p):decide p=true:=decide_eq_true h
theorem df {p:Prop} [Decidable p] (h:¬ p):decide p=false:=decide_eq_false h
theorem bltD {a b:Nat} (h:a<b):Nat.blt a b=true:=by unfold Nat.blt;exact Nat.ble_eq_true_of_le h
theorem bltN {a b:Nat} (h:¬ a<b):Nat.blt a b=false:=by
 cases e:Nat.blt a b with
 | false=>rfl
 | true=>exact absurd (zad e) h
theorem zxt {a b:Nat} (h:a≤b):Nat.ble a b=true:=Nat.ble_eq_true_of_le h
theorem bleN {a b:Nat} (h:¬ a≤b):Nat.ble a b=false:=by
 cases e:Nat.ble a b with
 | false=>rfl
 | true=>exact absurd (Nat.le_of_ble_eq_true e) h
theorem beqD {a b:Nat} (h:a=b):Nat.beq a b=true:=by subst h;exact Nat.beq_refl a
theorem ofn (n:Nat):Int.ofNat n=(n:Int):=rfl
theorem zol (i:Nat):Int.toNat (i:Int)=i:=Int.toNat_natCast i
theorem zah (x:Int) (h1:-4611686018427387904≤x) (h2:x<4611686018427387904):IntKind.i64.wrap x=x:=IntWalk.i64_in _ (by omega)
theorem zar {α:Type} {l:List α} {d:α} {i:Nat} (h:i<l.length):l.getD i d=l[i]:=by rw [List.getD_eq_getElem?_getD,List.getElem?_eq_getElem h];rfl
noncomputable def ent (f:FuncId) (args:List EV):EF:=Option.rec ⟨f,0,.nil,[],[],none,false⟩ (fun e=>e) (exEnter ft f args)
noncomputable def st0 (f:FuncId) (args:List EV):ES:=⟨ent f args,[],.nil,0⟩
noncomputable abbrev iv (n:Int):EV:=.v (.int .i64 n)
noncomputable abbrev bv (b:Bool):EV:=.v (.bool b)
noncomputable abbrev il (l:List Int):EV:=.lst (.ints .i64 l)
noncomputable def RZs (f:FuncId) (ct:Tr ZCC) (ps:PLs) (lk:List Nat) (own:Bool) (s:ES):ZF:=runZ (stepZ Try.prog ft f dr4 sub4 ct) (atPs ps) (endP lk ps own) 600 s
noncomputable abbrev RZ (f:FuncId) (ct:Tr ZCC) (p:ES→Bool) (lk:List Nat) (ls:List SZ) (own:Bool) (s:ES):ZF:=RZs f ct [(p,ls)] lk own s
theorem leadsZ {f:FuncId} {ct:Tr ZCC} (hct:ZCtsOk Try.prog ct) {ps:PLs} {lk:List Nat} {own:Bool} {s:ES} {r:NS} (h:RZs f ct ps lk own s = .at r):LeadsZ Try.prog s (stOf r):=
 leadsF (f:=f) mix ftOk dr4Ok sub4Ok hct zqv h
theorem callsZ {γ:G} {w:World} {f:FuncId} {ct:Tr ZCC} (hct:ZCtsOk Try.prog ct) {ps:PLs} {lk:List Nat} {own:Bool} {s:ES} {args:List EV} {us:Array Value} {a:EV} {K:List (Nat×EK)} {n':Nat} (he:(exEnter ft f args).isSome=true) (hargs:ECL γ args us.toList) (hN:∀ i,γ i=none) (hfz:FzAt γ w)
  (hl:LeadsZ Try.prog (st0 f args) s) (hd:RZs f ct ps lk own s = .done a K n') :
  Calls Try.prog f us w fun e w'=>∃ γ' x,e = .returned x∧EC γ' a x∧HR γ' (Bs.ofG w γ) (mkT K) n' w':=by
 obtain ⟨e,he⟩:=Option.isSome_iff_exists.1 he;have:ent f args=e:=by unfold ent;rw [he]
 unfold st0 at hl;rw [this] at hl;exact callsF mix ftOk dr4Ok sub4Ok hct zqv he hargs hN hfz hl hd
def Weak (a a':EV):Prop:=∀ γ x,EC γ a x→EC γ a' x
theorem Weak.refl (a:EV):Weak a a:=fun _ _ h=>h
theorem Weak.nil (sh:List Sh):Weak (.v (.slice none 0 0)) (.lst (.recs sh [])):=fun γ x h=>by
 rw [ec_v h];exact .lst _ _ (.empty _ _ none 0 rfl (Nat.zero_le _) fun _=>rfl)
inductive WeakL:List EV→List EV→Prop
 | nil:WeakL [] []
 | cons {a b:EV} {l r:List EV} (h:Weak a b) (t:WeakL l r):WeakL (a::l) (b::r)
theorem WeakL.ok {γ:G}:∀ {l r:List EV} {vs:List Value},WeakL l r→ECL γ l vs→ECL γ r vs
 | _,_,vs,.nil,h=>h
 | _,_,vs,.cons h t,k=>by
  obtain ⟨x,ys,rfl,h1,h2⟩:=ECL.inv k;exact ECL.cons (h _ _ h1) (t.ok h2)
theorem Weak.tup {l r:List EV} (h:WeakL l r):Weak (.tup l) (.tup r):=fun γ x k=>by
 cases k with
 | tup _ vs h1 h2=>have:=h.ok (γ:=γ) ⟨h1,h2⟩;exact .tup _ vs this.1 this.2
theorem Weak.trans {a b c:EV} (h:Weak a b) (k:Weak b c):Weak a c:=fun γ x e=>k γ x (h γ x e)
def EndZ (f:FuncId) (ct:Tr ZCC) (own:Bool) (s:ES) (a:EV) (K:List (Nat×EK)) (n:Nat):Prop:=∃ ps lk s' a',LeadsZ Try.prog s s'∧RZs f ct ps lk own s' = .done a' K n∧Weak a' a
theorem EndZ.done {f:FuncId} {ct:Tr ZCC} {own:Bool} {s:ES} {a:EV} {K:List (Nat×EK)} {n:Nat} {ps:PLs} {lk:List Nat} (h:RZs f ct ps lk own s = .done a K n):EndZ f ct own s a K n:=⟨ps,lk,s,a,LeadsZ.refl s,h,Weak.refl a⟩
theorem EndZ.weak {f:FuncId} {ct:Tr ZCC} {own:Bool} {s:ES} {a b:EV} {K:List (Nat×EK)} {n:Nat} (h:EndZ f ct own s a K n) (k:Weak a b):EndZ f ct own s b K n:=by
 obtain ⟨ps,lk,t,a',h1,h2,h3⟩:=h;exact ⟨ps,lk,t,a',h1,h2,h3.trans k⟩
theorem EndZ.lead {f:FuncId} {ct:Tr ZCC} {own:Bool} {s s':ES} {a:EV} {K:List (Nat×EK)} {n:Nat} (h:LeadsZ Try.prog s s') (k:EndZ f ct own s' a K n):EndZ f ct own s a K n:=by
 obtain ⟨ps,lk,t,a',h1,h2,h3⟩:=k;exact ⟨ps,lk,t,a',h.trans h1,h2,h3⟩
theorem EndZ.at {f:FuncId} {ct:Tr ZCC} (hct:ZCtsOk Try.prog ct) {own own':Bool} {s:ES} {r:NS} {a:EV} {K:List (Nat×EK)} {n:Nat} {ps:PLs} {lk:List Nat} (h:RZs f ct ps lk own' s = .at r) (k:EndZ f ct own (stOf r) a K n):EndZ f ct own s a K n:=k.lead (leadsZ hct h)
theorem EndZ.calls {γ:G} {w:World} {f:FuncId} {ct:Tr ZCC} {own:Bool} {args:List EV} {a:EV} {K:List (Nat×EK)} {n':Nat} (h:EndZ f ct own (st0 f args) a K n') (hct:ZCtsOk Try.prog ct) {us:Array Value} (he:(exEnter ft f args).isSome=true) (hargs:ECL γ args us.toList) (hN:∀ i,γ i=none) (hfz:FzAt γ w) :
  Calls Try.prog f us w fun e w'=>∃ γ' x,e = .returned x∧EC γ' a x∧HR γ' (Bs.ofG w γ) (mkT K) n' w':=by
 obtain ⟨ps,lk,t,a',h1,h2,h3⟩:=h;refine (callsZ hct he hargs hN hfz h1 h2).mono fun e w' ⟨γ',x,k1,k2,k3⟩=>⟨γ',x,k1,h3 γ' x k2,k3⟩
noncomputable def st0m (f:FuncId) (args:List EV) (K0:List (Nat×EK)) (m:Nat):ES:=⟨ent f args,[],mkT K0,m⟩
noncomputable def RMs (k:Nat) (f:FuncId) (ct:Tr ZCC) (ps:PLs) (lk:List Nat) (nl:NLs) (s:ES):ZF:=runZ (stepZ Try.prog ft f dr4 sub4 ct) (atPs ps) (endM k lk ps nl) 600 s
theorem leadsMZ {k:Nat} {f:FuncId} {ct:Tr ZCC} (hct:ZCtsOk Try.prog ct) {ps:PLs} {lk:List Nat} {s:ES} {r:NS} {nl:NLs} (h:RMs k f ct ps lk nl s = .at r):LeadsM Try.prog k s (stOf r):=
 leadsM (f:=f) mix ftOk dr4Ok sub4Ok hct h
def EndM (k:Nat) (f:FuncId) (ct:Tr ZCC) (s:ES) (a:EV) (K:List (Nat×EK)) (n:Nat):Prop:=∃ ps lk nl s',LeadsM Try.prog k s s'∧RMs k f ct ps lk nl s' = .done a K n
theorem EndM.done {k:Nat} {f:FuncId} {ct:Tr ZCC} {s:ES} {a:EV} {K:List (Nat×EK)} {n:Nat} {ps:PLs} {lk:List Nat} {nl:NLs} (h:RMs k f ct ps lk nl s = .done a K n):EndM k f ct s a K n:=⟨ps,lk,nl,s,LeadsM.refl k s,h⟩
theorem EndM.lead {k:Nat} {f:FuncId} {ct:Tr ZCC} {s s':ES} {a:EV} {K:List (Nat×EK)} {n:Nat} (h:LeadsM Try.prog k s s') (g:EndM k f ct s' a K n):EndM k f ct s a K n:=by
 obtain ⟨ps,lk,nl,t,h1,h2⟩:=g;exact ⟨ps,lk,nl,t,h.trans h1,h2⟩
theorem EndM.at {k:Nat} {f:FuncId} {ct:Tr ZCC} (hct:ZCtsOk Try.prog ct) {s:ES} {r:NS} {a:EV} {K:List (Nat×EK)} {n:Nat} {ps:PLs} {lk:List Nat} {nl:NLs} (h:RMs k f ct ps lk nl s = .at r) (g:EndM k f ct (stOf r) a K n):EndM k f ct s a K n:=g.lead (leadsMZ hct h)
theorem EndM.calls {k:Nat} {γ:G} {w0:Bs} {w:World} {f:FuncId} {ct:Tr ZCC} {args:List EV} {K0:List (Nat×EK)} {m0:Nat} {a:EV} {K:List (Nat×EK)} {n':Nat} (h:EndM k f ct (st0m f args K0 m0) a K n') (hct:ZCtsOk Try.prog ct) {us:Array Value} (he:(exEnter ft f args).isSome=true) (hres:∀ i,¬ w0.res i) (hargs:ECL γ args us.toList) (hH:HR γ w0 (mkT K0) m0 w) :
  Calls Try.prog f us w fun e w'=>∃ γ' x,e = .returned x∧EC γ' a x∧HR γ' w0 (mkT K) n' w'∧∀ j p,j<k→γ j=some p→γ' j=some p:=by
 obtain ⟨ps,lk,nl,t,h1,h2⟩:=h;obtain ⟨e,he⟩:=Option.isSome_iff_exists.1 he;have:ent f args=e:=by unfold ent;rw [he]
 unfold st0m at h1;rw [this] at h1;exact callsM mix ftOk dr4Ok sub4Ok hct he hres hargs hH h1 h2
theorem bc_b (b:Bool):bc b true false=b:=by cases b <;> rfl
theorem zwg {α:Type} (b:Bool) (x:α):bc b x x=x:=by cases b <;> rfl
noncomputable def ZMT.or (a b:ZMT):ZMT:=fun ax K m=>match a ax K m with
 | some r=>some r
 | none=>b ax K m
theorem ZMtOk.or {P:Program} {g:FuncId} {a b:ZMT} (ha:ZMtOk P g a) (hb:ZMtOk P g b):ZMtOk P g (a.or b):=fun γ w0 w us ax K0 m r hs=>by
 unfold ZMT.or at hs;split at hs
 ·rename_i r' hr;injection hs with hs;subst hs
  exact ha γ w0 w us ax K0 m _ hr
 ·exact hb γ w0 w us ax K0 m r hs
noncomputable def ZCT.or (a b:ZCT):ZCT:=fun ax=>match a ax with
 | some r=>some r
 | none=>b ax
theorem ZCtOk.or {P:Program} {g:FuncId} {a b:ZCT} (ha:ZCtOk P g a) (hb:ZCtOk P g b):ZCtOk P g (a.or b):=fun γ w us ax r hs=>by
 unfold ZCT.or at hs;split at hs
 ·rename_i r' hr;injection hs with hs;subst hs
  exact ha γ w us ax _ hr
 ·exact hb γ w us ax r hs
theorem noN {α:Type} {x r:α} {b:Bool} (h:bc b (some x) none=some r):b=true∧x=r:=by
 cases b
 ·cases h
 ·exact ⟨rfl,Option.some.inj h⟩
set_option linter.defProp false in
def yS:=And.intro @Nat.add_eq (And.intro @zqp (And.intro @ztc (And.intro @zwg (And.intro @List.length_cons.{0} (And.intro @ofn (And.intro @zah (And.intro @dt (And.intro @df (And.intro @bltD (And.intro @bltN (And.intro @zxt (And.intro @bleN (And.intro @beqD (And.intro @bc_t (And.intro @bc_f (And.intro @nn_ok (And.intro @Nat.zero_add (And.intro @zol (And.intro @Int.zero_add (And.intro @Int.sub_zero (And.intro @Int.sub_self (And.intro @Int.cast_ofNat_Int (And.intro @Int.natCast_zero (And.intro @Int.toNat_zero (And.intro @List.take_zero.{0} (And.intro @List.nil_append.{0} (And.intro @List.length_append.{0} (@List.length_nil.{0}))))))))))))))))))))))))))))
end
theorem zq3 {P:Program} {f:FuncId} {γ:G} {w:World} {us:Array Value} (h:Calls P f #[] w fun e w'=>e = .returned (.bool true)∧Stays w w') (hax:ECL γ [] us.toList) (hfz:FzAt γ w):Calls P f us w fun e w'=>∃ γ' x,e = .returned x∧EC γ' (bv true) x∧HR γ' (Bs.ofG w γ) (mkT (zseqs [])) 0 w':=by
 have hu:us = #[]:=by
  have:=hax.1;apply Array.toList_inj.1;exact List.eq_nil_of_length_eq_zero this.symm
 subst hu;refine h.mono ?_
 rintro e w' ⟨rfl,hs⟩
 refine ⟨⟨fun _=>none,γ.fz,fun _ _ _=>none⟩,_,rfl,.v _,⟨(fun i k hk=>by cases hk),(fun i j ki kj hi=>by cases hi),(fun _ _=>rfl),(fun i hi=>hi.elim),(fun i p hp=>by cases hp),⟨hs.os,hs.tape,hs.output,hs.size,hs.block⟩,⟨fun k a hk=>?_,fun k hk=>hk,.none (fun _ _ _ p e=>by cases (show (none:Option (Nat×Nat×Nat))=some p from e)) (fun i k hi=>by cases hi)⟩⟩⟩
 obtain ⟨ty,fz,h1⟩:=hfz k a hk;have hk2:=(Array.getElem?_eq_some_iff.1 h1).1;exact ⟨⟨ty,fz,(hs.block k hk2).trans h1⟩,.inl ⟨a,hk⟩,fun i ki b m hi=>by cases hi⟩
noncomputable def spTrue:ZCT:=fun ax=>match ax with
 | []=>some ⟨true,bv true,[],0⟩
 | _=>none
theorem zot {P:Program} {f:FuncId} (h:∀ w,Calls P f #[] w fun e w'=>e = .returned (.bool true)∧Stays w w'):ZCtOk P f spTrue:=fun γ w us ax r hs hc hax hN hfz=>by
 unfold spTrue at hs;split at hs
 case h_2=>cases hs
 obtain ⟨rfl⟩:=Option.some.inj hs;exact zq3 (h w) hax hfz
theorem zxf {P:Program} {f:FuncId} {γ:G} {w:World} {us:Array Value} {K:List (Nat×EK)} {n:Nat} (h:Calls P f us w fun e w'=>∃ γ' x,e = .returned x∧EC γ' (bv true) x∧HR γ' (Bs.ofG w γ) (mkT K) n w'):Calls P f us w fun e w'=>e = .returned (.bool true)∧Stays w w':=h.mono fun e w' ⟨γ',x,h1,h2,h3⟩=>⟨by rw [h1,ec_v h2],staysOf h3.stays⟩
section
variable {n:Nat}
namespace Pm
def inv (p:Pm n):Pm n:=⟨p.g,p.f,p.gf,p.fg,p.outg⟩
end Pm
noncomputable def pA (p:Pm n):List Int:=(List.range 12).map fun x=>((p.f x:Nat):Int)
theorem zaw (p:Pm n):(pA p).length=12:=by unfold pA;rw [List.length_map,List.length_range]
theorem zbm (p:Pm n) {x:Nat} (hx:x<12):(pA p).getD x 0=(p.f x:Int):=by
 unfold pA;rw [List.getD_eq_getElem?_getD,List.getElem?_map,List.getElem?_range hx];rfl
theorem zgs {p:Pm n} {l:List Int} (hl:l.length=12) (h:∀ x,x<12→l.getD x 0=(p.f x:Int)):l=pA p:=by
 apply List.ext_getElem (by rw [hl,zaw]);intro x h1 h2;have h3:=h x (by omega);rw [← zbm p (by omega),zar h1,zar h2] at h3;exact h3
theorem zj5 {m:Nat} {p:Pm n} {q:Pm m} (h:∀ x,x<12→p.f x=q.f x):pA p=pA q:=zgs (zaw p) fun x hx=>by rw [zbm p hx,h x hx]
theorem zlx (hn:n≤12) {p q:Pm n} (h:pA p=pA q):p=q:=Pm.ext fun x=>by
 by_cases hx:x<n
 ·have h1:=zbm p (show x<12 by omega);rw [h,zbm q (by omega)] at h1;omega
 ·rw [p.out x (by omega),q.out x (by omega)]
noncomputable def encF (F:List (Pm n)):List Int:=F.flatMap pA
theorem zti:encF ([]:List (Pm n))=[]:=rfl
theorem za6 (p:Pm n) (F:List (Pm n)):encF (p::F)=pA p++encF F:=rfl
theorem zb1 (F G:List (Pm n)):encF (F++G)=encF F++encF G:=List.flatMap_append
theorem zth (p:Pm n):encF [p]=pA p:=by rw [za6,zti,List.append_nil]
theorem zae:∀ F:List (Pm n),(encF F).length=F.length*12
 | []=>rfl
 | p::F=>by rw [za6,List.length_append,zaw,zae F,List.length_cons];omega
theorem zje (F G:List (Pm n)):(encF (F++G)).take (F.length*12)=encF F:=by
 rw [zb1];exact List.take_left' (zae F)
theorem zge (F G:List (Pm n)):(encF (F++G)).drop (F.length*12)=encF G:=by
 rw [zb1];exact List.drop_left' (zae F)
theorem zdl (F G:List (Pm n)) (p:Pm n):((encF (F++p::G)).drop (F.length*12)).take 12=pA p:=by
 rw [zge,za6];exact List.take_left' (zaw p)
theorem zfl (F G:List (Pm n)) (p:Pm n) {x:Nat} (hx:x<12):(encF (F++p::G)).getD (F.length*12+x) 0=(p.f x:Int):=by
 rw [zb1,List.getD_eq_getElem?_getD,List.getElem?_append_right (by rw [zae];omega),zae,show F.length*12+x-F.length*12=x by omega,za6,List.getElem?_append_left (by rw [zaw];exact hx),← List.getD_eq_getElem?_getD,zbm p hx]
theorem zjy {α:Type} (A B C:List α) (x:Nat) (v:α) (hx:x<B.length):(A++(B++C)).set (A.length+x) v=A++(B.set x v++C):=by
 rw [List.set_append_right _ _ (by omega),show A.length+x-A.length=x by omega,List.set_append_left _ _ hx]
theorem zqw (F G:List (Pm n)) (p q:Pm n) (x y:Nat) (v u:Int) (hx:x<12) (hy:y<12) (h:((pA p).set x v).set y u=pA q):((encF (F++p::G)).set (F.length*12+x) v).set (F.length*12+y) u=encF (F++q::G):=by
 rw [zb1,zb1,za6,za6,← zae F,zjy _ _ _ _ _ (by rw [zaw];exact hx),zjy _ _ _ _ _ (by rw [List.length_set,zaw];exact hy),h]
theorem zh9 (hn:n≤12):∀ {F G:List (Pm n)},encF F=encF G→F=G
 | [],[],_=>rfl
 | [],q::G,h=>by
  have:=congrArg List.length h;rw [zae,zae] at this;simp at this
 | p::F,[],h=>by
  have:=congrArg List.length h;rw [zae,zae] at this;simp at this
 | p::F,q::G,h=>by
  rw [za6,za6] at h;have h1:=congrArg (List.take 12) h;have h2:=congrArg (List.drop 12) h;rw [List.take_left' (zaw p),List.take_left' (zaw q)] at h1;rw [List.drop_left' (zaw p),List.drop_left' (zaw q)] at h2;rw [zlx hn h1,zh9 hn h2]
open Classical in
noncomputable def decF (n:Nat) (l:List Int):List (Pm n):=if h:∃ F:List (Pm n),l=encF F then Classical.choose h else []
theorem zcy (hn:n≤12) (F:List (Pm n)):decF n (encF F)=F:=by
 have h:∃ G:List (Pm n),encF F=encF G:=⟨F,rfl⟩;unfold decF;rw [dif_pos h];exact (zh9 hn (Classical.choose_spec h)).symm
open Classical in
noncomputable def decP (n:Nat) (l:List Int):Pm n:=if h:∃ p:Pm n,l=pA p then Classical.choose h else Pm.one n
theorem zeo (hn:n≤12) (p:Pm n):decP n (pA p)=p:=by
 have h:∃ q:Pm n,pA p=pA q:=⟨p,rfl⟩;unfold decP;rw [dif_pos h];exact (zlx hn (Classical.choose_spec h)).symm
theorem gset2 (l:List Int) (i x:Nat) (v:Int):(l.set i v).getD x 0=if x=i∧i<l.length then v else l.getD x 0:=by
 rw [List.getD_eq_getElem?_getD,List.getD_eq_getElem?_getD,List.getElem?_set]
 by_cases h:i=x
 ·subst h
  by_cases h2:i<l.length
  ·simp [h2]
  ·simp [h2]
 ·rw [if_neg h,if_neg (by omega)]
noncomputable def invS (e:List Int):Nat→List Int
 | 0=>zerosL 12
 | i+1=>(invS e i).set (e.getD i 0).toNat (i:Int)
theorem zcs (e:List Int):∀ i,(invS e i).length=12
 | 0=>by unfold invS zerosL;simp
 | i+1=>by unfold invS;rw [List.length_set,zcs e i]
theorem zl9 (hn:n≤12) (p:Pm n):∀ (i:Nat),i≤12→∀ x,x<12→p.g x<i→(invS (pA p) i).getD x 0=(p.g x:Int)
 | 0,_,x,_,h=>by omega
 | i+1,hi,x,hx,h=>by
  unfold invS;rw [gset2,zcs,zbm p (by omega),Int.toNat_natCast]
  by_cases e:x=p.f i
  ·subst e;rw [if_pos ⟨rfl,hx⟩,p.gf]
  ·rw [if_neg (fun h=>e h.1)];refine zl9 hn p i (by omega) x hx ?_;have:p.g x≠i:=fun e2=>e (by rw [← e2,p.fg]);omega
theorem Pm.lt12 (hn:n≤12) (p:Pm n) {x:Nat} (hx:x<12):p.f x<12:=by
 by_cases h:x<n
 ·have:=p.lt h;omega
 ·rw [p.out x (by omega)];exact hx
theorem zf2 (hn:n≤12) (p:Pm n):invS (pA p) 12=pA p.inv:=zgs (zcs _ 12) fun x hx=>by
 rw [zl9 hn p 12 (Nat.le_refl _) x hx (p.inv.lt12 hn hx)];rfl
def In12 (e:List Int):Prop:=e.length=12∧∀ i,i<12→0≤e.getD i 0∧e.getD i 0<12
noncomputable instance (e:List Int):Decidable (In12 e):=Classical.propDecidable _
theorem In12.pA (hn:n≤12) (p:Pm n):In12 (pA p):=⟨zaw p,fun i hi=>by
 rw [zbm p hi];have:=p.lt12 hn hi;omega⟩
theorem pA_L (p:Pm n) {i:Nat} (hi:0<i∧i<n) (hn:n≤12):((pA p).set (i-1) (p.f i:Int)).set i (p.f (i-1):Int)=pA (p.L i hi):=zgs (by rw [List.length_set,List.length_set,zaw]) fun x hx=>by
 show _=((p.f (sw i x):Nat):Int);rw [gset2,gset2,List.length_set,zaw]
 by_cases h1:x=i
 ·rw [if_pos ⟨h1,by omega⟩,h1,Pm.sw_at]
 ·rw [if_neg (fun h=>h1 h.1)]
  by_cases h2:x=i-1
  ·rw [if_pos ⟨h2,by omega⟩,h2,Pm.sw_pre hi.1]
  ·rw [if_neg (fun h=>h2 h.1),zbm p hx,Pm.sw_ne h1 (by omega)]
theorem inv_R (p:Pm n) {i:Nat} (hi:0<i∧i<n):(p.R i hi).inv=p.inv.L i hi:=rfl
def FormOk (n:Int) (L:List Int) (len:Nat):Prop:=0≤n∧n≤12∧∃ F:List (Pm n.toNat),L=encF F∧len=F.length∧len≤5000
noncomputable instance (n:Int) (L:List Int) (len:Nat):Decidable (FormOk n L len):=Classical.propDecidable _
theorem formOk {n:Nat} (hn:n≤12) {F:List (Pm n)} (hF:F.length≤5000):FormOk n (encF F) F.length:=⟨by omega,by omega,F,rfl,rfl,hF⟩
end
section
variable {n:Nat}
def Shp (S:List (Pm n)) (x:Nat×List (Pm n)):Prop:=∃ r,S=List.replicate x.1 (Pm.del n)++(x.2++List.replicate r (Pm.one n))∧(∀ p,p∈x.2→p≠Pm.one n)∧∀ p,p∈x.2→p≠Pm.del n
theorem zw7 {S:List (Pm n)} (h:Nrm S):∃ x,Shp S x:=by
 obtain ⟨m,F,r,h1,h2,h3⟩:=zee h;exact ⟨(m,F),r,h1,h2,h3⟩
open Classical in
noncomputable def shp (S:List (Pm n)):Nat×List (Pm n):=if h:∃ x,Shp S x then Classical.choose h else (0,[])
theorem zw6 {S:List (Pm n)} (h:Nrm S):Shp S (shp S):=by
 have h1:=zw7 h;unfold shp;rw [dif_pos h1];exact Classical.choose_spec h1
noncomputable def tmD (F:List (Pm n)) (p:Pm n):Nat:=(shp (NF (F++[p]))).1
noncomputable def tmF (F:List (Pm n)) (p:Pm n):List (Pm n):=(shp (NF (F++[p]))).2
theorem tm_ok (F:List (Pm n)) (p:Pm n):∃ r,NF (F++[p])=List.replicate (tmD F p) (Pm.del n)++(tmF F p++List.replicate r (Pm.one n))∧(∀ q,q∈tmF F p→q≠Pm.one n)∧∀ q,q∈tmF F p→q≠Pm.del n:=zw6 (zda _)
theorem zom (F:List (Pm n)) (p:Pm n):tmD F p+(tmF F p).length≤F.length+1:=by
 obtain ⟨r,h,_⟩:=tm_ok F p;have h1:=congrArg List.length h;rw [zuj,List.length_append,List.length_append,List.length_append,List.length_replicate,List.length_replicate] at h1;simp at h1;omega
structure Frm (n:Nat) where
 pw:Int
 F:List (Pm n)
noncomputable instance (s t:Frm n):Decidable (s=t):=Classical.propDecidable _
noncomputable def Frm.tim (s:Frm n) (p:Pm n):Frm n:=⟨s.pw+tmD s.F p,tmF s.F p⟩
noncomputable def Frm.step (s:Frm n) (i:Int):Frm n:=
 if h:0<i.natAbs∧i.natAbs<n then (if 0<i then s.tim (ltr i.natAbs h) else (⟨s.pw-1,s.F.map Pm.trn⟩:Frm n).tim (ctr i.natAbs h)) else s
noncomputable def nfW (n:Nat) (w:List Int):Frm n:=w.foldl Frm.step ⟨0,[]⟩
noncomputable def rowW (n:Nat) (w:List Int):Int×List (Pm n):=w.foldl stepW (0,[])
def FRep (s:Frm n) (t:Int×List (Pm n)):Prop:=∃ m,Rep t.2 m s.F∧s.pw=t.1+m
theorem FRep.tim {s:Frm n} {t:Int×List (Pm n)} (h:FRep s t) (p:Pm n):FRep (s.tim p) (t.1,t.2++[p]):=by
 obtain ⟨m,h1,h2⟩:=h;obtain ⟨r,g1,g2,g3⟩:=tm_ok s.F p;exact ⟨m+tmD s.F p,h1.more p g1 g2 g3,by show s.pw+(tmD s.F p:Int)=t.1+((m+tmD s.F p:Nat):Int);omega⟩
theorem FRep.trn {s:Frm n} {t:Int×List (Pm n)} (h:FRep s t):FRep ⟨s.pw-1,s.F.map Pm.trn⟩ (t.1-1,t.2.map Pm.trn):=by
 obtain ⟨m,h1,h2⟩:=h;exact ⟨m,h1.trn,by show s.pw-1=t.1-1+m;omega⟩
theorem FRep.step {s:Frm n} {t:Int×List (Pm n)} (h:FRep s t) (i:Int):FRep (s.step i) (stepW t i):=by
 unfold Frm.step stepW;split
 ·split
  ·exact h.tim _
  ·exact h.trn.tim _
 ·exact h
theorem FRep.word {s:Frm n} {t:Int×List (Pm n)} (h:FRep s t) (w:List Int):FRep (w.foldl Frm.step s) (w.foldl stepW t):=by
 induction w generalizing s t with
 | nil=>exact h
 | cons i w ih=>exact ih (h.step i)
theorem zka (n:Nat) (w:List Int):FRep (nfW n w) (rowW n w):=FRep.word ⟨0,Rep.nil,rfl⟩ w
theorem Frm.ext {s t:Frm n} (h1:s.pw=t.pw) (h2:s.F=t.F):s=t:=by cases s;cases t;congr
theorem frm_E (hn:2≤n) {s s':Frm n} {t t':Int×List (Pm n)} (h:FRep s t) (h':FRep s' t'):E t t'↔s=s':=by
 obtain ⟨m,h1,h2⟩:=h;obtain ⟨m',h3,h4⟩:=h';constructor
 ·rintro ⟨q,q',F,k1,k2,k3⟩
  obtain ⟨e1,e2⟩:=zj2 hn h1 k1;obtain ⟨e3,e4⟩:=zj2 hn h3 k2;subst e1;subst e3;exact Frm.ext (by omega) (by rw [e2,e4])
 ·intro e;subst e;exact ⟨m,m',s.F,h1,h3,by omega⟩
theorem zg9 (s:Frm n) (p:Pm n):(s.tim p).F.length≤s.F.length+1:=by
 have:=zom s.F p;show (tmF s.F p).length≤_;omega
theorem zlg (s:Frm n) (p:Pm n):s.pw≤(s.tim p).pw∧(s.tim p).pw≤s.pw+s.F.length+1:=by
 have:=zom s.F p;show s.pw≤s.pw+(tmD s.F p:Int)∧s.pw+(tmD s.F p:Int)≤_;omega
theorem zr5 (s:Frm n) (i:Int):(s.step i).F.length≤s.F.length+1∧s.pw-1≤(s.step i).pw∧(s.step i).pw≤s.pw+s.F.length+1:=by
 unfold Frm.step;split
 ·split
  ·have h1:=zg9 s (ltr i.natAbs (by assumption));have h2:=zlg s (ltr i.natAbs (by assumption));omega
  ·have h1:=zg9 (⟨s.pw-1,s.F.map Pm.trn⟩:Frm n) (ctr i.natAbs (by assumption));have h2:=zlg (⟨s.pw-1,s.F.map Pm.trn⟩:Frm n) (ctr i.natAbs (by assumption));simp only [List.length_map] at h1 h2;omega
 ·omega
theorem zoo (s:Frm n) (p:Pm n):Nrm (s.tim p).F:=by
 obtain ⟨r,h,_⟩:=tm_ok s.F p;have h1:=zda (s.F++[p]);rw [h] at h1;exact zvm (zvl h1)
theorem zon (s:Frm n) (p:Pm n):(s.tim p).pw+((s.tim p).F.length:Int)≤s.pw+(s.F.length:Int)+1:=by
 have:=zom s.F p;show s.pw+(tmD s.F p:Int)+((tmF s.F p).length:Int)≤_;omega
def Vld (n:Nat) (w:List Int):Prop:=∀ x,x∈w→x≠0 ∧ -(n:Int)<x∧x<n
theorem zr3 (s:Frm n) {k:Nat} (hk:0<k∧k<n):s.step (k:Int)=s.tim (ltr k hk):=by
 unfold Frm.step;have e:((k:Int)).natAbs=k:=rfl;rw [dif_pos (show 0<((k:Int)).natAbs∧((k:Int)).natAbs<n from hk),if_pos (by omega)];rfl
theorem zr4 (s:Frm n) {k:Nat} (hk:0<k∧k<n):s.step (-(k:Int))=(⟨s.pw-1,s.F.map Pm.trn⟩:Frm n).tim (ctr k hk):=by
 unfold Frm.step;have e:(-(k:Int)).natAbs=k:=by omega
 simp only [e];rw [dif_pos hk,if_neg (by omega)]
end
section
variable {n:Nat}
def gW:List Int→Nat→Nat
 | [],x=>x
 | l::w,x=>gW w (sw l.natAbs x)
theorem zi7:∀ (u v:List Int) (x:Nat),gW (u++v) x=gW v (gW u x)
 | [],_,_=>rfl
 | l::u,v,x=>zi7 u v (sw l.natAbs x)
theorem Vld.head {x:Int} {w:List Int} (h:Vld n (x::w)):0<x.natAbs∧x.natAbs<n:=by
 obtain ⟨h1,h2,h3⟩:=h x List.mem_cons_self;omega
theorem Vld.tail {x:Int} {w:List Int} (h:Vld n (x::w)):Vld n w:=fun y hy=>h y (List.mem_cons_of_mem _ hy)
theorem Vld.app {u v:List Int} (h:Vld n u) (k:Vld n v):Vld n (u++v):=fun x hx=>by
 rcases List.mem_append.1 hx with e|e
 ·exact h x e
 ·exact k x e
def invW (w:List Int):List Int:=(w.map fun x=>-x).reverse
theorem zei (w:List Int):(invW w).length=w.length:=by unfold invW;rw [List.length_reverse,List.length_map]
theorem zff {w:List Int} (h:Vld n w):Vld n (invW w):=fun x hx=>by
 unfold invW at hx;rw [List.mem_reverse] at hx;obtain ⟨y,hy,rfl⟩:=List.mem_map.1 hx;obtain ⟨h1,h2,h3⟩:=h y hy;omega
theorem zcf (w:List Int):invW (invW w)=w:=by
 unfold invW;rw [List.map_reverse,List.reverse_reverse,List.map_map];refine (List.map_congr_left (g:=id) fun x _=>?_).trans (List.map_id _);show - -x=x;omega
theorem E.cancel (hn:2≤n) {x:Int} (hx:0<x.natAbs∧x.natAbs<n) (s:Int×List (Pm n)):E (stepW (stepW s x) (-x)) s:=by
 rcases Int.lt_or_le x 0 with h|h
 ·obtain ⟨k,hk⟩:=Int.eq_ofNat_of_zero_le (show 0 ≤ -x by omega);have e:x = -(k:Int):=by omega
  subst e;rw [show - -(k:Int)=(k:Int) by omega];exact E.negpos hn s (by omega)
 ·obtain ⟨k,rfl⟩:=Int.eq_ofNat_of_zero_le h;exact E.posneg hn s (by omega)
theorem zvp (hn:2≤n) {u v:List Int} (h:E (rowW n u) (rowW n v)):nfW n u=nfW n v:=(frm_E hn (zka n u) (zka n v)).1 h
end
section
variable {n:Nat}
def lnF:List Int→(Nat→Nat)→Nat→Nat
 | [],p=>p
 | x::u,p=>lnF u (fun y=>p (sw x.natAbs y))
def sgL (x:Int):Int:=if x<0 then -1 else 1
def lk:List Int→(Nat→Nat)→Nat→Nat→Int
 | [],_,_,_=>0
 | x::u,p,a,b=>(if a=p (x.natAbs-1)∧b=p x.natAbs∨a=p x.natAbs∧b=p (x.natAbs-1) then sgL x else 0)+lk u (fun y=>p (sw x.natAbs y)) a b
def sgW:List Int→Int
 | []=>0
 | x::u=>sgL x+sgW u
theorem zf1:∀ (u v:List Int) (p:Nat→Nat),lnF (u++v) p=lnF v (lnF u p)
 | [],_,_=>rfl
 | _::u,v,_=>zf1 u v _
theorem zi3:∀ (u v:List Int) (p:Nat→Nat) (a b:Nat),lk (u++v) p a b=lk u p a b+lk v (lnF u p) a b
 | [],v,p,a,b=>by show _=0+_;rw [Int.zero_add];rfl
 | x::u,v,p,a,b=>by
  show _+lk (u++v) _ a b=_+lk u _ a b+lk v _ a b;rw [zi3 u v,Int.add_assoc];rfl
theorem zfq:∀ (u v:List Int),sgW (u++v)=sgW u+sgW v
 | [],v=>by show _=0+_;rw [Int.zero_add];rfl
 | x::u,v=>by
  show _+sgW (u++v)=_+sgW u+sgW v;rw [zfq u v,Int.add_assoc]
structure Alk (n:Nat) (u v:List Int):Prop where
 e:2≤n→∀ s:Int×List (Pm n),E (u.foldl stepW s) (v.foldl stepW s)
 g:∀ x,gW u x=gW v x
 l:∀ p,lnF u p=lnF v p
 k:∀ p a b,lk u p a b=lk v p a b
 s:sgW u=sgW v
theorem Alk.refl (u:List Int):Alk n u u:=⟨fun _ s=>E.refl _,fun _=>rfl,fun _=>rfl,fun _ _ _=>rfl,rfl⟩
theorem Alk.trans {u v w:List Int} (h:Alk n u v) (q:Alk n v w):Alk n u w:=⟨fun hn s=>(h.e hn s).trans hn (q.e hn s),fun x=>(h.g x).trans (q.g x),fun p=>(h.l p).trans (q.l p),fun p a b=>(h.k p a b).trans (q.k p a b),h.s.trans q.s⟩
theorem Alk.ctx {u v:List Int} (h:Alk n u v) (a b:List Int):Alk n (a++(u++b)) (a++(v++b)):=by
 refine ⟨fun hn s=>?_,fun x=>?_,fun p=>?_,fun p x y=>?_,?_⟩
 ·rw [List.foldl_append,List.foldl_append,List.foldl_append,List.foldl_append];exact E.word (h.e hn _) b
 ·rw [zi7,zi7,zi7,zi7,h.g]
 ·rw [zf1,zf1,zf1,zf1,h.l]
 ·rw [zi3,zi3,zi3,zi3,h.k,h.l]
 ·rw [zfq,zfq,zfq,zfq,h.s]
theorem sw_in (k x:Nat) (h:0<k):sw k (sw k x)=x:=sw_sw h x
theorem sw_at {k:Nat} (h:0<k):sw k k=k-1:=by unfold sw;rw [if_pos rfl]
theorem sw_lo {k:Nat} (h:0<k):sw k (k-1)=k:=by unfold sw;rw [if_neg (by omega),if_pos (by omega)]
theorem Alk.undo {i:Int} (h:0<i.natAbs∧i.natAbs<n):Alk n [i,-i] []:=by
 have ea:(-i).natAbs=i.natAbs:=by omega
 refine ⟨fun hn s=>E.cancel hn h s,fun x=>?_,fun p=>?_,fun p a b=>?_,?_⟩
 ·show sw (-i).natAbs (sw i.natAbs x)=x;rw [ea,sw_in _ _ h.1]
 ·show (fun y=>p (sw i.natAbs (sw (-i).natAbs y)))=p
  funext y
  rw [ea,sw_in _ _ h.1]
 ·show (if _ then _ else _)+((if a=p (sw i.natAbs ((-i).natAbs-1))∧b=p (sw i.natAbs (-i).natAbs)∨a=p (sw i.natAbs (-i).natAbs)∧b=p (sw i.natAbs ((-i).natAbs-1)) then sgL (-i) else 0)+0)=0
  rw [ea,sw_at h.1,sw_lo h.1];have es:sgL (-i) = - sgL i:=by unfold sgL;split <;> split <;> omega
  rw [es]
  by_cases c:a=p (i.natAbs-1)∧b=p i.natAbs∨a=p i.natAbs∧b=p (i.natAbs-1)
  ·rw [if_pos c,if_pos c.symm];omega
  ·rw [if_neg c,if_neg fun d=>c d.symm];rfl
 ·show sgL i+(sgL (-i)+0)=0;unfold sgL;split <;> split <;> omega
theorem Alk.far {i j:Int} (hi:0<i.natAbs∧i.natAbs<n) (hj:0<j.natAbs∧j.natAbs<n) (h:Far i.natAbs j.natAbs):Alk n [i,j] [j,i]:=by
 have h':=h;unfold Far at h;have e1:sw i.natAbs j.natAbs=j.natAbs:=Pm.sw_ne (by omega) (by omega);have e2:sw i.natAbs (j.natAbs-1)=j.natAbs-1:=Pm.sw_ne (by omega) (by omega);have e3:sw j.natAbs i.natAbs=i.natAbs:=Pm.sw_ne (by omega) (by omega);have e4:sw j.natAbs (i.natAbs-1)=i.natAbs-1:=Pm.sw_ne (by omega) (by omega);have com:∀ x,sw j.natAbs (sw i.natAbs x)=sw i.natAbs (sw j.natAbs x):=fun x=>by
  unfold sw
  repeat' split
  all_goals omega
 refine ⟨fun hn s=>E.far s hi hj h',fun x=>com x,fun p=>?_,fun p a b=>?_,?_⟩
 ·funext y
  show p (sw i.natAbs (sw j.natAbs y))=p (sw j.natAbs (sw i.natAbs y));rw [com]
 ·show (if _ then _ else _)+((if a=p (sw i.natAbs (j.natAbs-1))∧b=p (sw i.natAbs j.natAbs)∨a=p (sw i.natAbs j.natAbs)∧b=p (sw i.natAbs (j.natAbs-1)) then sgL j else 0)+0)=(if _ then _ else _)+((if a=p (sw j.natAbs (i.natAbs-1))∧b=p (sw j.natAbs i.natAbs)∨a=p (sw j.natAbs i.natAbs)∧b=p (sw j.natAbs (i.natAbs-1)) then sgL i else 0)+0)
  rw [e1,e2,e3,e4];omega
 ·show sgL i+(sgL j+0)=sgL j+(sgL i+0);omega
theorem lk3 (p:Nat→Nat) (a b i j:Nat):lk [(i:Int),(j:Int),(i:Int)] p a b=(if a=p (i-1)∧b=p i∨a=p i∧b=p (i-1) then 1 else 0)+((if a=p (sw i (j-1))∧b=p (sw i j)∨a=p (sw i j)∧b=p (sw i (j-1)) then 1 else 0)+((if a=p (sw i (sw j (i-1)))∧b=p (sw i (sw j i))∨a=p (sw i (sw j i))∧b=p (sw i (sw j (i-1))) then 1 else 0)+0)):=by
 have e:∀ k:Nat,sgL (k:Int)=1:=fun k=>by unfold sgL;rw [if_neg (by omega)]
 show (if a=p (i-1)∧b=p i∨a=p i∧b=p (i-1) then sgL (i:Int) else 0)+((if a=p (sw i (j-1))∧b=p (sw i j)∨a=p (sw i j)∧b=p (sw i (j-1)) then sgL (j:Int) else 0)+((if a=p (sw i (sw j (i-1)))∧b=p (sw i (sw j i))∨a=p (sw i (sw j i))∧b=p (sw i (sw j (i-1))) then sgL (i:Int) else 0)+0))=_
 rw [e,e]
theorem Alk.braid0 {i j:Nat} (hi:0<i∧i<n) (hj:0<j∧j<n) (h:j=i+1):Alk n [(i:Int),(j:Int),(i:Int)] [(j:Int),(i:Int),(j:Int)]:=by
 have e:∀ k:Nat,sgL (k:Int)=1:=fun k=>by unfold sgL;rw [if_neg (by omega)]
 have com:∀ x,sw i (sw j (sw i x))=sw j (sw i (sw j x)):=fun x=>by
  subst h;have s2:sw i (i+1)=i+1:=Pm.sw_ne (by omega) (by omega);have s3:sw (i+1) (i-1)=i-1:=Pm.sw_ne (by omega) (by omega);have s4:sw (i+1) i=i+1:=by unfold sw;rw [if_neg (by omega),if_pos rfl]
  have s5:sw (i+1) (i+1)=i:=by rw [sw_at (by omega)];rfl
  by_cases c1:x=i-1
  ·rw [c1,sw_lo hi.1,s4,s2,s3,sw_lo hi.1,s4]
  by_cases c2:x=i
  ·rw [c2,sw_at hi.1,s3,sw_lo hi.1,s4,s2,s5]
  by_cases c3:x=i+1
  ·rw [c3,s2,s5,sw_at hi.1,s3]
  ·have s6:sw i x=x:=Pm.sw_ne (by omega) (by omega);have s7:sw (i+1) x=x:=Pm.sw_ne (by omega) (by omega);rw [s6,s7,s6,s7]
 refine ⟨fun hn s=>E.braid s hi hj (.inl h),fun x=>com x,fun p=>?_,fun p a b=>?_,?_⟩
 ·funext y
  show p (sw i (sw j (sw i y)))=p (sw j (sw i (sw j y)));rw [com]
 ·rw [lk3,lk3];subst h;have s1:sw i (i+1-1)=i-1:=by rw [Nat.add_sub_cancel,sw_at hi.1]
  have s2:sw i (i+1)=i+1:=Pm.sw_ne (by omega) (by omega);have s3:sw (i+1) (i-1)=i-1:=Pm.sw_ne (by omega) (by omega);have s4:sw (i+1) i=i+1:=by unfold sw;rw [if_neg (by omega),if_pos rfl]
  have s5:sw (i+1) (i+1)=i:=by rw [sw_at (by omega)];rfl
  rw [s1,s2,s3,s4,s2,sw_lo hi.1,Nat.add_sub_cancel,s5];omega
 ·show sgL i+(sgL j+(sgL i+0))=sgL j+(sgL i+(sgL j+0));rw [e,e]
theorem Alk.symm (hn:2≤n) {u v:List Int} (h:Alk n u v):Alk n v u:=⟨fun _ s=>(h.e hn s).symm,fun x=>(h.g x).symm,fun p=>(h.l p).symm,fun p a b=>(h.k p a b).symm,h.s.symm⟩
theorem Alk.braid {i j:Nat} (hi:0<i∧i<n) (hj:0<j∧j<n) (h:j=i+1∨i=j+1):Alk n [(i:Int),(j:Int),(i:Int)] [(j:Int),(i:Int),(j:Int)]:=by
 rcases h with h|h
 ·exact Alk.braid0 hi hj h
 ·exact (Alk.braid0 hj hi h).symm (by omega)
theorem Alk.nf {u v:List Int} (hn:2≤n) (h:Alk n u v):nfW n u=nfW n v:=zvp hn (h.e hn (0,[]))
end
section
variable {n:Nat}
inductive Cn (n:Nat):List Int→List Int→Prop
 | refl (u:List Int):Cn n u u
 | symm {u v:List Int} (h:Cn n u v):Cn n v u
 | trans {u v w:List Int} (h:Cn n u v) (k:Cn n v w):Cn n u w
 | undo (a b:List Int) (i:Int) (h:0<i.natAbs∧i.natAbs<n):Cn n (a++([i,-i]++b)) (a++b)
 | far (a b:List Int) (i j:Nat) (hi:0<i) (hij:i+2≤j) (hj:j<n):Cn n (a++([(i:Int),(j:Int)]++b)) (a++([(j:Int),(i:Int)]++b))
 | braid (a b:List Int) (i:Nat) (hi:0<i) (hj:i+1<n):Cn n (a++([(i:Int),((i+1:Nat):Int),(i:Int)]++b)) (a++([((i+1:Nat):Int),(i:Int),((i+1:Nat):Int)]++b))
theorem Cn.pre {u v:List Int} (h:Cn n u v) (a:List Int):Cn n (a++u) (a++v):=by
 induction h with
 | refl u=>exact .refl _
 | symm _ ih=>exact ih.symm
 | trans _ _ h1 h2=>exact h1.trans h2
 | undo c d i h=>
  have:=Cn.undo (n:=n) (a++c) d i h;rw [List.append_assoc,List.append_assoc] at this;exact this
 | far c d i j h1 h2 h3=>
  have:=Cn.far (n:=n) (a++c) d i j h1 h2 h3;rw [List.append_assoc,List.append_assoc] at this;exact this
 | braid c d i h1 h2=>
  have:=Cn.braid (n:=n) (a++c) d i h1 h2;rw [List.append_assoc,List.append_assoc] at this;exact this
theorem Cn.post {u v:List Int} (h:Cn n u v) (b:List Int):Cn n (u++b) (v++b):=by
 induction h with
 | refl u=>exact .refl _
 | symm _ ih=>exact ih.symm
 | trans _ _ h1 h2=>exact h1.trans h2
 | undo c d i h=>rw [List.append_assoc,List.append_assoc,List.append_assoc];exact .undo _ _ i h
 | far c d i j h1 h2 h3=>rw [List.append_assoc,List.append_assoc,List.append_assoc,List.append_assoc];exact .far _ _ i j h1 h2 h3
 | braid c d i h1 h2=>rw [List.append_assoc,List.append_assoc,List.append_assoc,List.append_assoc];exact .braid _ _ i h1 h2
theorem Cn.app {u v x y:List Int} (h:Cn n u v) (k:Cn n x y):Cn n (u++x) (v++y):=(h.post x).trans (k.pre v)
theorem Cn.cons {u v:List Int} (h:Cn n u v) (x:Int):Cn n (x::u) (x::v):=h.pre [x]
theorem Cn.inv1:∀ {u:List Int},Vld n u→Cn n (u++invW u) []
 | [],_=>.refl _
 | x::u,h=>by
  have e:(x::u)++invW (x::u)=[x]++((u++invW u)++[-x]):=by
   unfold invW;rw [List.map_cons,List.reverse_cons,List.cons_append,List.append_assoc];rfl
  rw [e];exact (((Cn.inv1 h.tail).post [-x]).pre [x]).trans (.undo [] [] x h.head)
theorem Cn.inv2 {u:List Int} (h:Vld n u):Cn n (invW u++u) []:=by
 have:=Cn.inv1 (zff h)
 rwa [zcf] at this
theorem Cn.invC {u v:List Int} (hu:Vld n u) (hv:Vld n v) (h:Cn n u v):Cn n (invW u) (invW v):=by
 have h1:Cn n (invW u) (invW u++(v++invW v)):=by
  have:=((Cn.inv1 hv).pre (invW u)).symm
  rwa [List.append_nil] at this
 have h2:Cn n (invW u++(v++invW v)) (invW u++(u++invW v)):=((h.symm.post (invW v)).pre (invW u));have h3:Cn n (invW u++(u++invW v)) (invW v):=by
  rw [← List.append_assoc];exact (Cn.inv2 hu).post (invW v)
 exact h1.trans (h2.trans h3)
theorem Cn.alk (hn:2≤n) {u v:List Int} (h:Cn n u v):Alk n u v:=by
 induction h with
 | refl u=>exact .refl _
 | symm _ ih=>exact ih.symm hn
 | trans _ _ h1 h2=>exact h1.trans h2
 | undo c d i h=>exact (Alk.undo h).ctx c d
 | far c d i j h1 h2 h3=>exact (Alk.far (i:=(i:Int)) (j:=(j:Int)) (by omega) (by omega) (.inl (by omega))).ctx c d
 | braid c d i h1 h2=>exact (Alk.braid (i:=i) (j:=i+1) ⟨h1,by omega⟩ ⟨by omega,h2⟩ (.inl rfl)).ctx c d
namespace Pm
theorem W_L (p:Pm n) {i:Nat} (hi:0<i∧i<n) (h:p.beg i):p.W<(p.L i hi).W:=by
 have h3:=zk4 (F:=fun x=>x*(p.L i hi).f x) (G:=fun x=>x*p.f x) n (p:=i-1) (q:=i) (by omega) hi.2 (fun x hx n1 n2=>by
  show x*p.f (sw i x)=x*p.f x;rw [Pm.sw_ne n2 (by omega)])
 have e1:(p.L i hi).f (i-1)=p.f i:=by show p.f (sw i (i-1))=_;rw [Pm.sw_pre hi.1]
 have e2:(p.L i hi).f i=p.f (i-1):=by show p.f (sw i i)=_;rw [Pm.sw_at]
 simp only [e1,e2] at h3;show Sum _ n<Sum _ n;have h:p.f i<p.f (i-1):=h;obtain ⟨k,rfl⟩:∃ k,i=k+1:=⟨i-1,by omega⟩;rw [Nat.add_sub_cancel] at h h3;rw [Nat.succ_mul,Nat.succ_mul] at h3;omega
theorem RR (p:Pm n) {i:Nat} (hi:0<i∧i<n):(p.R i hi).R i hi=p:=ext fun x=>by
 show sw i (sw i (p.f x))=_;rw [sw_sw hi.1]
end Pm
inductive Rd {n:Nat}:Pm n→List Int→Prop
 | one:Rd (Pm.one n) []
 | cons (p:Pm n) (i:Nat) (hi:0<i∧i<n) (hb:p.beg i) {u:List Int} (h:Rd (p.L i hi) u):Rd p ((i:Int)::u)
theorem Rd.ex:∀ (k:Nat) (p:Pm n),n*(n*n)-p.W≤k→∃ u,Rd p u
 | k,p,hk=>by
  by_cases h:∃ i,0<i∧i<n∧p.beg i
  ·obtain ⟨i,h1,h2,h3⟩:=h;have h4:=p.W_L ⟨h1,h2⟩ h3;have h5:=(p.L i ⟨h1,h2⟩).W_le
   match k with
   | 0=>omega
   | k+1=>
    obtain ⟨u,hu⟩:=Rd.ex k (p.L i ⟨h1,h2⟩) (by omega);exact ⟨_,.cons p i ⟨h1,h2⟩ h3 hu⟩
  ·have:p=Pm.one n:=Pm.one_of fun i h1 h2 h3=>h ⟨i,h1,h2,h3⟩;subst this;exact ⟨[],.one⟩
theorem Rd.ex' (p:Pm n):∃ u,Rd p u:=Rd.ex _ p (Nat.le_refl _)
theorem Rd.vld {p:Pm n} {u:List Int} (h:Rd p u):Vld n u:=by
 induction h with
 | one=>intro x hx;cases hx
 | cons p i hi hb _ ih=>
  intro x hx;rcases List.mem_cons.1 hx with rfl|hx
  ·omega
  ·exact ih x hx
theorem Rd.nil {u:List Int} (h:Rd (Pm.one n) u):u=[]:=by
 generalize hp:Pm.one n=p at h
 cases h with
 | one=>rfl
 | cons p i hi hb h=>subst hp;exact absurd hb (Pm.one_beg i hi.1)
theorem Rd.snoc {p:Pm n} {u:List Int} (h:Rd p u) {i:Nat} (hi:0<i∧i<n) (hf:¬ p.fin i):Rd (p.R i hi) (u++[(i:Int)]):=by
 induction h with
 | one=>
  have e:((Pm.one n).R i hi).L i hi=Pm.one n:=Pm.ext fun x=>by
   show sw i (sw i x)=x;rw [sw_sw hi.1]
  refine .cons _ i hi ?_ ?_
  ·show sw i i<sw i (i-1);rw [Pm.sw_at,Pm.sw_pre hi.1];omega
  ·rw [e];exact .one
 | cons p j hj hb _ ih=>
  refine .cons _ j hj (Pm.beg_R hi hj.1 hb hf) ?_;exact ih fun q=>hf (Pm.fin_of_L hj hi.1 hb q)
theorem Rd.two {p:Pm n} {i j:Nat} {u v:List Int} (hij:i<j) (hi:0<i∧i<n) (hj:0<j∧j<n) (bi:p.beg i) (bj:p.beg j) (hu:Rd (p.L i hi) u) (hv:Rd (p.L j hj) v) (ihu:∀ x,Rd (p.L i hi) x→Cn n u x) (ihv:∀ x,Rd (p.L j hj) x→Cn n v x):Cn n ((i:Int)::u) ((j:Int)::v):=by
 have bi':p.f i<p.f (i-1):=bi;have bj':p.f j<p.f (j-1):=bj
 by_cases hf:i+2≤j
 ·have e:(p.L i hi).L j hj=(p.L j hj).L i hi:=Pm.ext fun x=>by
   show p.f (sw i (sw j x))=p.f (sw j (sw i x));rw [Pm.sw_comm hf hi.1]
  obtain ⟨x,hx⟩:=Rd.ex' ((p.L i hi).L j hj);have b1:(p.L i hi).beg j:=by
   show p.f (sw i j)<p.f (sw i (j-1));rw [Pm.sw_ne (by omega) (by omega),Pm.sw_ne (by omega) (by omega)];exact bj'
  have b2:(p.L j hj).beg i:=by
   show p.f (sw j i)<p.f (sw j (i-1));rw [Pm.sw_ne (by omega) (by omega),Pm.sw_ne (by omega) (by omega)];exact bi'
  have h1:=(ihu _ (.cons _ j hj b1 hx)).cons (i:Int);have h2:=(ihv _ (.cons _ i hi b2 (e ▸ hx))).cons (j:Int);exact h1.trans ((Cn.far [] x i j hi.1 hf hj.2).trans h2.symm)
 ·obtain rfl:j=i+1:=by omega
  rw [Nat.add_sub_cancel] at bj';have e:((p.L i hi).L (i+1) hj).L i hi=((p.L (i+1) hj).L i hi).L (i+1) hj:=Pm.ext fun x=>by
   show p.f (sw i (sw (i+1) (sw i x)))=p.f (sw (i+1) (sw i (sw (i+1) x)));rw [Pm.sw_braid hi.1]
  obtain ⟨x,hx⟩:=Rd.ex' (((p.L i hi).L (i+1) hj).L i hi);have s1:sw i (i+1)=i+1:=Pm.sw_ne (by omega) (by omega);have s2:sw (i+1) i=i+1:=by have:=Pm.sw_pre (i:=i+1) (by omega);rwa [Nat.add_sub_cancel] at this
  have s3:sw (i+1) (i+1)=i:=by have:=Pm.sw_at (i+1);rwa [Nat.add_sub_cancel] at this
  have s4:sw (i+1) (i-1)=i-1:=Pm.sw_ne (by omega) (by omega);have b1:(p.L i hi).beg (i+1):=by
   show p.f (sw i (i+1))<p.f (sw i (i+1-1));rw [Nat.add_sub_cancel,s1,Pm.sw_at];omega
  have b2:((p.L i hi).L (i+1) hj).beg i:=by
   show p.f (sw i (sw (i+1) i))<p.f (sw i (sw (i+1) (i-1)));rw [s2,s4,s1,Pm.sw_pre hi.1];exact bj'
  have b3:(p.L (i+1) hj).beg i:=by
   show p.f (sw (i+1) i)<p.f (sw (i+1) (i-1));rw [s2,s4];omega
  have b4:((p.L (i+1) hj).L i hi).beg (i+1):=by
   show p.f (sw (i+1) (sw i (i+1)))<p.f (sw (i+1) (sw i (i+1-1)));rw [Nat.add_sub_cancel,s1,s3,Pm.sw_at,s4];exact bi'
  have h1:=(ihu _ (.cons _ (i+1) hj b1 (.cons _ i hi b2 hx))).cons (i:Int);have h2:=(ihv _ (.cons _ i hi b3 (.cons _ (i+1) hj b4 (e ▸ hx)))).cons ((i+1:Nat):Int);exact h1.trans ((Cn.braid [] x i hi.1 hj.2).trans h2.symm)
theorem Rd.cn0:∀ (k:Nat) {p:Pm n} {u v:List Int},n*(n*n)-p.W≤k→Rd p u→Rd p v→Cn n u v
 | k,p,_,_,hk,hu,hv=>by
  cases hu with
  | one=>rw [hv.nil];exact .refl _
  | cons _ i hi bi hu=>
   rename_i u
   cases hv with
   | one=>exact absurd bi (Pm.one_beg i hi.1)
   | cons _ j hj bj hv=>
    rename_i v;have w1:=p.W_L hi bi;have w2:=(p.L i hi).W_le;have w3:=p.W_L hj bj
    match k with
    | 0=>omega
    | k+1=>
     have ihu:∀ x,Rd (p.L i hi) x→Cn n u x:=fun x hx=>Rd.cn0 k (by omega) hu hx;have ihv:∀ x,Rd (p.L j hj) x→Cn n v x:=fun x hx=>Rd.cn0 k (by omega) hv hx;rcases Nat.lt_trichotomy i j with h|h|h
     ·exact Rd.two h hi hj bi bj hu hv ihu ihv
     ·subst h;exact (ihu _ hv).cons _
     ·exact (Rd.two h hj hi bj bi hv hu ihv ihu).symm
theorem Rd.cn {p:Pm n} {u v:List Int} (hu:Rd p u) (hv:Rd p v):Cn n u v:=Rd.cn0 _ (Nat.le_refl _) hu hv
noncomputable def wd (p:Pm n):List Int:=Classical.choose (Rd.ex' p)
theorem wd_ok (p:Pm n):Rd p (wd p):=Classical.choose_spec (Rd.ex' p)
noncomputable def wdR (l:List (Pm n)):List Int:=l.flatMap wd
theorem zfm (l m:List (Pm n)):wdR (l++m)=wdR l++wdR m:=List.flatMap_append
theorem zd2 (a:Pm n) (l:List (Pm n)):wdR (a::l)=wd a++wdR l:=rfl
theorem zwt:wd (Pm.one n)=[]:=(wd_ok _).nil
theorem Mv.cn {s t:List (Pm n)} (h:Mv s t):Cn n (wdR s) (wdR t):=by
 induction h with
 | here a b l i hi hb hf=>
  simp only [zd2];have h1:Cn n (wd b) ([(i:Int)]++wd (b.L i hi)):=(wd_ok b).cn (.cons b i hi hb (wd_ok _));have h2:Cn n (wd a++[(i:Int)]) (wd (a.R i hi)):=((wd_ok a).snoc hi hf).cn (wd_ok _);have h3:=(h1.post (wdR l)).pre (wd a);have h4:=h2.post (wd (b.L i hi)++wdR l);rw [List.append_assoc] at h4;rw [List.append_assoc] at h3;exact h3.trans h4
 | there a _ ih=>simp only [zd2];exact ih.pre _
theorem Mvs.cn {s t:List (Pm n)} (h:Mvs s t):Cn n (wdR s) (wdR t):=by
 induction h with
 | refl s=>exact .refl _
 | step h _ ih=>exact h.cn.trans ih
theorem NF_cn (l:List (Pm n)):Cn n (wdR l) (wdR (NF l)):=(NF_mv l).cn
noncomputable def dl (n:Nat):List Int:=wd (Pm.del n)
theorem dl_ok:Rd (Pm.del n) (dl n):=wd_ok _
theorem zxq:Vld n (dl n):=dl_ok.vld
theorem zkz {i:Nat} (hi:0<i∧i<n):Cn n ([(i:Int)]++dl n) (dl n++[((n-i:Nat):Int)]):=by
 have hi2:0<n-i∧n-i<n:=by omega
 have r1:Pm.rv n (n-i)=i-1:=by unfold Pm.rv;rw [if_pos hi2.2];omega
 have r2:Pm.rv n (n-i-1)=i:=by unfold Pm.rv;rw [if_pos (by omega)];omega
 have hb:(Pm.del n).beg i:=Pm.del_fin hi.1 hi.2;have e:((Pm.del n).L i hi).R (n-i) hi2=Pm.del n:=Pm.ext fun x=>by
  show sw (n-i) (Pm.rv n (sw i x))=Pm.rv n x;rw [rv_sw hi,sw_sw hi2.1]
 have hf:¬ ((Pm.del n).L i hi).fin (n-i):=by
  rw [Pm.nfin hi2.1];show sw i (Pm.rv n (n-i-1))<sw i (Pm.rv n (n-i));rw [r1,r2,Pm.sw_at,Pm.sw_pre hi.1];omega
 have h1:Cn n (dl n) ([(i:Int)]++wd ((Pm.del n).L i hi)):=dl_ok.cn (.cons _ i hi hb (wd_ok _));have h2:Rd (Pm.del n) (wd ((Pm.del n).L i hi)++[((n-i:Nat):Int)]):=by
  have:=(wd_ok ((Pm.del n).L i hi)).snoc hi2 hf
  rwa [e] at this
 have h3:=(dl_ok.cn h2).pre [(i:Int)];rw [← List.append_assoc] at h3;exact h3.trans (h1.symm.post _)
def trW (n:Nat) (u:List Int):List Int:=u.map fun x=>if 0<x then (n:Int)-x else -(n:Int)-x
theorem zu2 (u v:List Int):trW n (u++v)=trW n u++trW n v:=List.map_append
theorem ztm {x:Int} (hx:0<x.natAbs∧x.natAbs<n):Cn n ([x]++dl n) (dl n++trW n [x]):=by
 rcases Int.lt_or_le 0 x with h|h
 ·obtain ⟨k,rfl⟩:=Int.eq_ofNat_of_zero_le (Int.le_of_lt h);have e:trW n [(k:Int)]=[((n-k:Nat):Int)]:=by
   show [if 0<(k:Int) then (n:Int)-k else -(n:Int)-k]=_
   rw [if_pos h];congr 1;omega
  rw [e];exact zkz (by omega)
 ·obtain ⟨k,hk⟩:=Int.eq_ofNat_of_zero_le (show 0 ≤ -x by omega);obtain rfl:x = -(k:Int):=by omega
  have hk2:0<k∧k<n:=by omega
  have e:trW n [-(k:Int)]=[-((n-k:Nat):Int)]:=by
   show [if 0 < -(k:Int) then (n:Int) - -k else -(n:Int) - -k]=_
   rw [if_neg (by omega)];congr 1;omega
  rw [e];have h1:=((zkz hk2).post [-((n-k:Nat):Int)]).pre [-(k:Int)];have h2:=Cn.undo (n:=n) ([-(k:Int)]++([(k:Int)]++dl n)) [] ((n-k:Nat):Int) (by omega);have h3:=Cn.undo (n:=n) [] (dl n++[-((n-k:Nat):Int)]) (-(k:Int)) (by omega);rw [show - -(k:Int)=(k:Int) by omega] at h3;simp only [List.append_assoc,List.append_nil,List.nil_append,List.cons_append] at h1 h2 h3 ⊢;have h4:=Cn.undo (n:=n) (-(k:Int)::dl n) [] ((n-k:Nat):Int) (by omega)
  simp only [List.append_assoc,List.append_nil,List.nil_append,List.cons_append] at h4;exact h4.symm.trans ((Cn.refl _).trans (by
   have h5:=(zkz hk2).symm.pre [-(k:Int)];simp only [List.append_assoc,List.append_nil,List.nil_append,List.cons_append] at h5;have h6:=h5.post [-((n-k:Nat):Int)];simp only [List.append_assoc,List.append_nil,List.nil_append,List.cons_append] at h6;exact h6.trans h3))
theorem zqy:∀ {u:List Int},Vld n u→Cn n (u++dl n) (dl n++trW n u)
 | [],_=>by
  show Cn n (dl n) (dl n++[]);rw [List.append_nil];exact .refl _
 | x::u,h=>by
  have h1:=(zqy h.tail).pre [x];have h2:=(ztm h.head).post (trW n u);simp only [List.append_assoc] at h1 h2;have e:trW n (x::u)=trW n [x]++trW n u:=rfl;rw [e];exact (show Cn n ([x]++(u++dl n)) _ from h1).trans h2
theorem Rd.trn {p:Pm n} {u:List Int} (h:Rd p u):Rd p.trn (trW n u):=by
 induction h with
 | one=>rw [zjn];exact .one
 | cons p i hi hb _ ih=>
  have hi2:0<n-i∧n-i<n:=by omega
  have r1:Pm.rv n (n-i)=i-1:=by unfold Pm.rv;rw [if_pos hi2.2];omega
  have r2:Pm.rv n (n-i-1)=i:=by unfold Pm.rv;rw [if_pos (by omega)];omega
  have e2:(p.L i hi).trn=p.trn.L (n-i) hi2:=Pm.ext fun x=>by
   show Pm.rv n (p.f (sw i (Pm.rv n x)))=Pm.rv n (p.f (Pm.rv n (sw (n-i) x)));rw [rv_sw hi2,show n-(n-i)=i by omega]
  rename_i u _;have e:trW n ((i:Int)::u)=((n-i:Nat):Int)::trW n u:=by
   show (if 0<(i:Int) then (n:Int)-i else -(n:Int)-i)::trW n u=_
   rw [if_pos (by omega)];congr 1;omega
  rw [e];refine .cons _ (n-i) hi2 ?_ (e2 ▸ ih);show Pm.rv n (p.f (Pm.rv n (n-i)))<Pm.rv n (p.f (Pm.rv n (n-i-1)));rw [r1,r2,rv_lt (p.lt (by omega)) (p.lt hi.2)];exact hb
theorem zu1 (l:List (Pm n)):Vld n (wdR l):=by
 induction l with
 | nil=>intro x hx;cases hx
 | cons a l ih=>exact (wd_ok a).vld.app ih
theorem zoi:∀ l:List (Pm n),Cn n (trW n (wdR l)) (wdR (l.map Pm.trn))
 | []=>.refl _
 | a::l=>by
  rw [zd2,zu2,List.map_cons,zd2];exact ((wd_ok a).trn.cn (wd_ok _)).app (zoi l)
theorem zxr (l:List (Pm n)):Cn n (dl n++wdR l) (wdR (l.map Pm.trn)++dl n):=by
 have h1:=zqy (zu1 (l.map Pm.trn));have h2:=(zoi (l.map Pm.trn)).pre (dl n);rw [zpt] at h2;exact (h1.trans h2).symm
noncomputable def dlP (n:Nat):Int→List Int
 | .ofNat k=>(List.replicate k (dl n)).flatten
 | .negSucc k=>(List.replicate (k+1) (invW (dl n))).flatten
theorem zhh (a:List Int):∀ k:Nat,(List.replicate k a).flatten++a=a++(List.replicate k a).flatten
 | 0=>by simp
 | k+1=>by
  rw [List.replicate_succ,List.flatten_cons,List.append_assoc,zhh a k]
theorem zms (k:Int):Cn n (dlP n k++dl n) (dlP n (k+1)):=by
 cases k with
 | ofNat k=>
  show Cn n ((List.replicate k (dl n)).flatten++dl n) ((List.replicate (k+1) (dl n)).flatten);rw [zhh,List.replicate_succ,List.flatten_cons];exact .refl _
 | negSucc k=>
  show Cn n ((List.replicate (k+1) (invW (dl n))).flatten++dl n) _;have e:dlP n (Int.negSucc k+1)=(List.replicate k (invW (dl n))).flatten:=by
   cases k with
   | zero=>rfl
   | succ k=>rfl
  rw [e,List.replicate_succ,List.flatten_cons,← zhh,List.append_assoc];have:=(Cn.inv2 (n:=n) zxq).pre (List.replicate k (invW (dl n))).flatten
  rwa [List.append_nil] at this
theorem zqz (k:Int):∀ m:Nat,Cn n (dlP n k++wdR (List.replicate m (Pm.del n))) (dlP n (k+m))
 | 0=>by
  show Cn n (dlP n k++[]) (dlP n (k+0));rw [List.append_nil,Int.add_zero];exact .refl _
 | m+1=>by
  have e:wdR (List.replicate (m+1) (Pm.del n))=wdR (List.replicate m (Pm.del n))++dl n:=by
   rw [List.replicate_succ',zfm];show _++(wd (Pm.del n)++[])=_;rw [List.append_nil];rfl
  rw [e,← List.append_assoc,show k+((m+1:Nat):Int)=(k+m)+1 by omega];exact ((zqz k m).post _).trans (zms _)
noncomputable def wdV (s:Int×List (Pm n)):List Int:=dlP n s.1++wdR s.2
theorem zr0 (s:Int×List (Pm n)) {x:Int} (hx:0<x.natAbs∧x.natAbs<n):Cn n (wdV s++[x]) (wdV (stepW s x)):=by
 rcases Int.lt_or_le 0 x with h|h
 ·obtain ⟨k,rfl⟩:=Int.eq_ofNat_of_zero_le (Int.le_of_lt h);have hk:0<k∧k<n:=by omega
  rw [zan hk];show Cn n (dlP n s.1++wdR s.2++[(k:Int)]) (dlP n s.1++wdR (s.2++[ltr k hk]));rw [zfm,← List.append_assoc];refine Cn.pre ?_ _;show Cn n [(k:Int)] (wd (ltr k hk)++[]);rw [List.append_nil];exact Rd.cn (Rd.one.snoc hk fun q=>by
   have:k<k-1:=q;omega) (wd_ok _)
 ·obtain ⟨k,hk⟩:=Int.eq_ofNat_of_zero_le (show 0 ≤ -x by omega);obtain rfl:x = -(k:Int):=by omega
  have hk:0<k∧k<n:=by omega
  rw [za3 hk];show Cn n (dlP n s.1++wdR s.2++[-(k:Int)]) (dlP n (s.1-1)++wdR (s.2.map Pm.trn++[ctr k hk]));have h1:=((zms (n:=n) (s.1-1)).symm.post (wdR s.2)).post [-(k:Int)];rw [show s.1-1+1=s.1 by omega] at h1;have h2:=((zxr s.2).pre (dlP n (s.1-1))).post [-(k:Int)];have hf:¬ (ctr k hk).fin k:=by
   rw [Pm.nfin hk.1];show Pm.rv n (sw k (k-1))<Pm.rv n (sw k k);rw [Pm.sw_at,Pm.sw_pre hk.1,rv_lt hk.2 (by omega)];omega
  have h3:Cn n (dl n) (wd (ctr k hk)++[(k:Int)]):=dl_ok.cn (by
   have:=(wd_ok (ctr k hk)).snoc hk hf
   rwa [show (ctr k hk).R k hk=Pm.del n from Pm.RR _ hk] at this)
  have h4:=((h3.pre (wdR (s.2.map Pm.trn))).pre (dlP n (s.1-1))).post [-(k:Int)];have h5:=Cn.undo (n:=n) (dlP n (s.1-1)++(wdR (s.2.map Pm.trn)++wd (ctr k hk))) [] (k:Int) (by omega);have e:wdR (s.2.map Pm.trn++[ctr k hk])=wdR (s.2.map Pm.trn)++wd (ctr k hk):=by
   rw [zfm];show _++(wd (ctr k hk)++[])=_;rw [List.append_nil]
  rw [e];simp only [List.append_assoc,List.append_nil,List.nil_append,List.cons_append] at h1 h2 h4 h5 ⊢;exact h1.trans (h2.trans (h4.trans h5))
theorem zlc:∀ {w:List Int},Vld n w→∀ s:Int×List (Pm n),Cn n (wdV s++w) (wdV (w.foldl stepW s))
 | [],_,s=>by rw [List.append_nil];exact .refl _
 | x::w,h,s=>by
  have h1:=(zr0 s h.head).post w;rw [List.append_assoc] at h1;exact h1.trans (zlc h.tail _)
noncomputable def wdN (s:Frm n):List Int:=dlP n s.pw++wdR s.F
theorem zld:∀ r:Nat,wdR (List.replicate r (Pm.one n))=[]
 | 0=>rfl
 | r+1=>by rw [List.replicate_succ,zd2,zwt,zld r];rfl
theorem cn_nf {w:List Int} (h:Vld n w):Cn n w (wdN (nfW n w)):=by
 have h1:Cn n w (wdV (rowW n w)):=zlc h (0,[]);obtain ⟨m,⟨⟨r,e⟩,_,_⟩,h3⟩:=zka n w;have h4:=(NF_cn (rowW n w).2).pre (dlP n (rowW n w).1);rw [e,zfm,zfm,zld,List.append_nil,← List.append_assoc] at h4;have h5:=(zqz (n:=n) (rowW n w).1 m).post (wdR (nfW n w).F);rw [← h3] at h5;exact h1.trans (h4.trans h5)
theorem zmv {u v:List Int} (hu:Vld n u) (hv:Vld n v) (h:nfW n u=nfW n v):Cn n u v:=(cn_nf hu).trans (h ▸ (cn_nf hv).symm)
theorem zsq {u v:List Int} (hu:Vld n u) (hv:Vld n v) (h:Cn n u v):nfW n u=nfW n v:=by
 by_cases hn:2≤n
 ·exact (h.alk hn).nf hn
 ·have nil:∀ {w:List Int},Vld n w→w=[]:=fun {w} hw=>by
   cases w with
   | nil=>rfl
   | cons x w=>have:=hw.head;omega
  rw [nil hu,nil hv]
end
def fgR (s:List Int) (x:Int):List Int:=match s with
 | []=>[x]
 | y::s=>if y = -x then s else x::y::s
def redF (w:List Int):List Int:=(w.foldl fgR []).reverse
theorem zvz (s:List Int) (x:Int):(fgR s x).reverse=if 0<s.reverse.length∧s.reverse.getD (s.reverse.length-1) 0 = -x then s.reverse.take (s.reverse.length-1) else s.reverse++[x]:=by
 cases s with
 | nil=>rfl
 | cons y s=>
  have e:(y::s).reverse=s.reverse++[y]:=List.reverse_cons;have hl:(s.reverse++[y]).length=s.length+1:=by simp
  have hg:(s.reverse++[y]).getD (s.length+1-1) 0=y:=by
   rw [Nat.add_sub_cancel,List.getD_eq_getElem?_getD,List.getElem?_append_right (by rw [List.length_reverse];exact Nat.le_refl _),List.length_reverse,Nat.sub_self];rfl
  rw [e,hl,hg];show (if y = -x then s else x::y::s).reverse=_
  by_cases c:y = -x
  ·rw [if_pos c,if_pos ⟨by omega,c⟩,Nat.add_sub_cancel,List.take_append_of_le_length (by rw [List.length_reverse];exact Nat.le_refl _),List.take_of_length_le (by rw [List.length_reverse];exact Nat.le_refl _)]
  ·rw [if_neg c,if_neg (fun h=>c h.2),List.reverse_cons,List.reverse_cons]
theorem zv0 (s:List Int) (x:Int):(fgR s x).length≤s.length+1:=by
 cases s with
 | nil=>exact Nat.le_refl _
 | cons y s=>
  show (if y = -x then s else x::y::s).length≤_
  split <;> simp <;> omega
theorem zh4:∀ (w s:List Int),(w.foldl fgR s).length≤s.length+w.length
 | [],s=>Nat.le_refl _
 | x::w,s=>by
  have h1:=zh4 w (fgR s x);have h2:=zv0 s x;show (w.foldl fgR (fgR s x)).length≤_;rw [List.length_cons];omega
theorem zqc {s:List Int} {x z:Int} (h:z∈fgR s x):z=x∨z∈s:=by
 cases s with
 | nil=>exact .inl (List.mem_singleton.1 h)
 | cons y s=>
  have h:z∈(if y = -x then s else x::y::s):=h
  split at h
  ·exact .inr (List.mem_cons_of_mem _ h)
  ·exact List.mem_cons.1 h
theorem zi8:∀ (w s:List Int) {z:Int},z∈w.foldl fgR s→z∈s∨z∈w
 | [],s,z,h=>.inl h
 | x::w,s,z,h=>by
  rcases zi8 w (fgR s x) h with h|h
  ·rcases zqc h with h|h
   ·rw [h];exact .inr List.mem_cons_self
   ·exact .inl h
  ·exact .inr (List.mem_cons_of_mem _ h)
theorem zlp (w:List Int):(redF w).length≤w.length:=by
 have:=zh4 w [];unfold redF;rw [List.length_reverse];rw [List.length_nil] at this;omega
theorem zfc {w:List Int} {z:Int} (h:z∈redF w):z∈w:=by
 rcases zi8 w [] (List.mem_reverse.1 h) with h|h
 ·cases h
 ·exact h
def RedOk (l:List Int):Prop:=l.length≤60000∧∀ x,x∈l → -1000≤x∧x≤1000
noncomputable instance RedOk.dec (l:List Int):Decidable (RedOk l):=Classical.propDecidable _
theorem oneF (x:Int):[x]=[x]:=rfl
namespace RRed
noncomputable def RUN (s:ES):ZF:=RZ 110 .nil (atS 0 110 3) [] [[(0,none),(3,some (1,3,.ints .i64 [])),(4,none)]] false s
noncomputable def sL (l q:List Int) (nn:Bool) (i:Int):NS:=⟨[⟨110,41,[(0,(il l)),(3,EV.slO 0 1 q.length nn),(4,iv i)],[.it (.code (nav [1,1,0,1,0,0,0] (bodyOf Try.f110))),.it (.code (nav [1,1,0,1,0,0,1] (bodyOf Try.f110))),.it (.inLoop (nav [1,1,0,1,0,0] (bodyOf Try.f110))),.it (.inBlock 0),.it (.code (nav [1,1,1] (bodyOf Try.f110)))],[],Option.none⟩],[(0,EK.seq 3 (.ints .i64 q) nn)],1⟩
theorem in_t (l:List Int):RUN (st0 110 [il l])=(.at (sL l [] false 0)):=by kernel_rfl
theorem l_t (l q:List Int) (nn:Bool) (i:Int):RUN (stOf (sL l q nn i))=(bc (decide (i<Int.ofNat l.length)) (bc (decide (0<Int.ofNat q.length)) (bc (bc (bc (eqB (decide (0<Int.ofNat q.length)) true) (bc (bc (bc (decide (0≤IntKind.i64.wrap (Int.ofNat q.length-(1:Int)))) (Nat.blt (IntKind.i64.wrap (Int.ofNat q.length-(1:Int))).toNat q.length) false) true false) (bc (bc (Nat.blt (IntKind.i64.wrap (Int.ofNat q.length-(1:Int))).toNat q.length) true false) (bc (bc (bc (decide (0≤i)) (Nat.blt i.toNat l.length) false) true false) (bc (bc (Nat.blt i.toNat l.length) true false) true false) false) false) false) false) true false) (bc (q.getD (IntKind.i64.wrap (Int.ofNat q.length-(1:Int))).toNat 0==IntKind.i64.wrap ((0:Int)-l.getD i.toNat 0)) (bc (bc (decide (0≤IntKind.i64.wrap (Int.ofNat q.length-(1:Int)))) (bc (Nat.ble (IntKind.i64.wrap (Int.ofNat q.length-(1:Int))).toNat q.length) (Nat.beq q.length q.length) false) false) (.at (sL l (List.take (IntKind.i64.wrap (Int.ofNat q.length-(1:Int))).toNat q) nn (IntKind.i64.wrap (i+1)))) .bad) (bc (bc (bc (decide (0≤i)) (Nat.blt i.toNat l.length) false) true false) (bc (bc (Nat.blt i.toNat l.length) true false) (bc (bc (Nat.beq q.length q.length) (bc (Nat.ble (q.length+([l.getD i.toNat 0]).length) 65536) (bc nn true (bc nn false true)) false) false) (.at (sL l (q++[l.getD i.toNat 0]) (bc nn true (Nat.blt 0 ([l.getD i.toNat 0]).length)) (IntKind.i64.wrap (i+1)))) .bad) .bad) .bad)) .bad) (bc (bc (bc (eqB (decide (0<Int.ofNat q.length)) false) true false) true false) (bc (bc (bc (decide (0≤i)) (Nat.blt i.toNat l.length) false) true false) (bc (bc (Nat.blt i.toNat l.length) true false) (bc (bc (Nat.beq q.length q.length) (bc (Nat.ble (q.length+([l.getD i.toNat 0]).length) 65536) (bc nn true (bc nn false true)) false) false) (.at (sL l (q++[l.getD i.toNat 0]) (bc nn true (Nat.blt 0 ([l.getD i.toNat 0]).length)) (IntKind.i64.wrap (i+1)))) .bad) .bad) .bad) .bad)) (bc (Nat.beq q.length q.length) (.done (il q) [] 0) .bad)):=by kernel_rfl
theorem step {l:List Int} (h:RedOk l) {i:Nat} {nn:Bool} (hi:i<l.length) (hn:nn=false→((l.take i).foldl fgR []).reverse=[]):∃ nn',(nn'=false→((l.take (i+1)).foldl fgR []).reverse=[])∧RUN (stOf (sL l ((l.take i).foldl fgR []).reverse nn i)) = .at (sL l ((l.take (i+1)).foldl fgR []).reverse nn' (i+1:Nat)):=by
 have q:=l_t l ((l.take i).foldl fgR []).reverse nn i;have hlen:((l.take i).foldl fgR []).reverse.length≤i:=by
  have:=zh4 (l.take i) [];rw [List.length_take,List.length_nil] at this;rw [List.length_reverse];omega
 have e0:Int.toNat (i:Int)=i:=rfl;have hx:=h.2 (l.getD i 0) (by rw [zar hi];exact List.getElem_mem hi);have hl:=h.1;have w4:IntKind.wrap IntKind.i64 ((i:Int)+1)=((i+1:Nat):Int):=by rw [zah _ (by omega) (by omega)];omega
 have w5:IntKind.wrap IntKind.i64 (0-l.getD i 0) = -(l.getD i 0):=by rw [zah _ (by omega) (by omega)];omega
 have en:((l.take (i+1)).foldl fgR []).reverse=(fgR ((l.take i).foldl fgR []) (l.getD i 0)).reverse:=by
  rw [List.take_succ_eq_append_getElem hi,List.foldl_append,zar hi];rfl
 rw [zvz] at en;rw [oneF,e0,w4,w5] at q;generalize ((l.take i).foldl fgR []).reverse=s at q hlen en hn ⊢;rw [en];have w1:bc nn true (Nat.blt 0 (List.length [l.getD i 0]))=true:=by cases nn <;> rfl
 have w2:bc nn true (bc nn false true)=true:=by cases nn <;> rfl
 rw [w1,w2] at q
 by_cases c:0<s.length
 ·have w6:IntKind.wrap IntKind.i64 (Int.ofNat s.length-1)=((s.length-1:Nat):Int):=by rw [ofn,zah _ (by omega) (by omega)];omega
  have e1:Int.toNat ((s.length-1:Nat):Int)=s.length-1:=rfl;rw [w6,e1,dt (show (0:Int)<Int.ofNat s.length by rw [ofn];omega)] at q
  by_cases d:s.getD (s.length-1) 0 = -(l.getD i 0)
  ·rw [if_pos ⟨c,d⟩];rw [show (s.getD (s.length-1) 0 == -(l.getD i 0))=true from beq_iff_eq.2 d] at q
   simp (disch:=omega) only [yS,eqB] at q;refine ⟨nn,fun z=>?_,q⟩;have:=hn z;rw [this] at c;exact absurd c (by simp)
  ·rw [if_neg (fun z=>d z.2)];rw [show (s.getD (s.length-1) 0 == -(l.getD i 0))=false from beq_eq_false_iff_ne.2 d] at q
   simp (disch:=omega) only [yS,eqB] at q;exact ⟨true,fun z=>(by cases z),q⟩
 ·rw [if_neg (fun z=>c z.1)];rw [df (show ¬ (0:Int)<Int.ofNat s.length by rw [ofn];omega)] at q;simp (disch:=omega) only [yS,eqB] at q;exact ⟨true,fun z=>(by cases z),q⟩
theorem loop {l:List Int} (h:RedOk l):∀ (d i:Nat) (nn:Bool),i+d=l.length→(nn=false→((l.take i).foldl fgR []).reverse=[])→EndZ 110 .nil false (stOf (sL l ((l.take i).foldl fgR []).reverse nn i)) (il (redF l)) [] 0
 | 0,i,nn,hi,hn=>by
  obtain rfl:i=l.length:=by omega
  have q:=l_t l ((l.take l.length).foldl fgR []).reverse nn l.length;rw [List.take_length] at q ⊢;rw [df (show ¬ (l.length:Int)<Int.ofNat l.length by rw [ofn];omega),bc_f] at q;simp (disch:=omega) only [yS] at q;exact .done q
 | d+1,i,nn,hi,hn=>by
  obtain ⟨nn',h1,h2⟩:=step h (show i<l.length by omega) hn;exact .at (.nil _) h2 (loop h d (i+1) nn' (by omega) h1)
theorem ends {l:List Int} (h:RedOk l):EndZ 110 .nil false (st0 110 [il l]) (il (redF l)) [] 0:=.at (.nil _) (in_t l) (loop h l.length 0 false (by omega) fun _=>rfl)
end RRed
noncomputable def spRRed:ZCT:=fun ax=>match ax with
 | [.lst (.ints .i64 l)]=>some ⟨decide (RedOk l),il (redF l),[],0⟩
 | _=>none
theorem zow:ZCtOk Try.prog 110 spRRed:=fun γ w us ax r hs hc hax hN hfz=>by
 unfold spRRed at hs;split at hs
 case h_2=>cases hs
 rename_i l;obtain ⟨rfl⟩:=Option.some.inj hs;have hc_0:decide (RedOk l)=true:=hc;have hc:=of_decide_eq_true hc_0;exact EndZ.calls (RRed.ends hc) (.nil _) (by kernel_rfl) hax hN hfz
namespace RIvs
noncomputable def RUN (s:ES):ZF:=RZ 63 .nil (atS 0 63 3) [] [[(0,none),(3,some (1,3,.ints .i64 [])),(4,none)]] false s
noncomputable def sL (l q:List Int) (nn:Bool) (i:Int):NS:=⟨[⟨63,21,[(0,(il l)),(3,EV.slO 0 1 q.length nn),(4,iv i)],[.it (.code (nav [1,1,0,1,0,0,0] (bodyOf Try.f63))),.it (.code (nav [1,1,0,1,0,0,1] (bodyOf Try.f63))),.it (.inLoop (nav [1,1,0,1,0,0] (bodyOf Try.f63))),.it (.inBlock 0),.it (.code (nav [1,1,1] (bodyOf Try.f63)))],[],Option.none⟩],[(0,EK.seq 3 (.ints .i64 q) nn)],1⟩
theorem in_t (l:List Int):RUN (st0 63 [il l])=(.at (sL l [] false (IntKind.i64.wrap (Int.ofNat l.length-(1:Int))))):=by kernel_rfl
theorem l_t (l q:List Int) (nn:Bool) (i:Int):RUN (stOf (sL l q nn i))=(bc (decide (0≤i)) (bc (bc (bc (decide (0≤i)) (Nat.blt i.toNat l.length) false) true false) (bc (bc (Nat.blt i.toNat l.length) true false) (bc (bc (Nat.beq q.length q.length) (bc (Nat.ble (q.length+([IntKind.i64.wrap ((0:Int)-l.getD i.toNat 0)]).length) 65536) (bc nn true (bc nn false true)) false) false) (.at (sL l (q++[IntKind.i64.wrap ((0:Int)-l.getD i.toNat 0)]) (bc nn true (Nat.blt 0 ([IntKind.i64.wrap ((0:Int)-l.getD i.toNat 0)]).length)) (IntKind.i64.wrap (i-(1:Int))))) .bad) .bad) .bad) (bc (Nat.beq q.length q.length) (.done (il q) [] 0) .bad)):=by kernel_rfl
theorem zsv (x:Int) (l:List Int):invW (x::l)=invW l++[-x]:=by unfold invW;rw [List.map_cons,List.reverse_cons]
theorem loop {l:List Int} (h:RedOk l):∀ (j:Nat) (nn:Bool),j≤l.length→EndZ 63 .nil false (stOf (sL l (invW (l.drop j)) nn ((j:Int)-1))) (il (invW l)) [] 0
 | 0,nn,hj=>by
  have q:=l_t l (invW (l.drop 0)) nn (((0:Nat):Int)-1);rw [df (show ¬ (0:Int)≤((0:Nat):Int)-1 by omega),bc_f] at q;rw [List.drop_zero] at q ⊢;simp (disch:=omega) only [yS] at q;exact .done q
 | j+1,nn,hj=>by
  have hi:j<l.length:=by omega
  have q:=l_t l (invW (l.drop (j+1))) nn (((j+1:Nat):Int)-1);have ej:((j+1:Nat):Int)-1=(j:Int):=by omega
  have e0:Int.toNat (j:Int)=j:=rfl;have hl:=h.1;have hx:=h.2 (l.getD j 0) (by rw [zar hi];exact List.getElem_mem hi);have w4:IntKind.wrap IntKind.i64 ((j:Int)-1)=(j:Int)-1:=zah _ (by omega) (by omega);have w5:IntKind.wrap IntKind.i64 (0-l.getD j 0) = -(l.getD j 0):=by rw [zah _ (by omega) (by omega)];omega
  have w1:bc nn true (Nat.blt 0 (List.length [-(l.getD j 0)]))=true:=by cases nn <;> rfl
  have w2:bc nn true (bc nn false true)=true:=by cases nn <;> rfl
  have en:invW (l.drop j)=invW (l.drop (j+1))++[-(l.getD j 0)]:=by rw [List.drop_eq_getElem_cons hi,zsv,zar hi]
  have hln:(invW (l.drop (j+1))).length≤l.length:=by rw [zei,List.length_drop];omega
  rw [ej] at q ⊢;rw [oneF,e0,w4,w5,w1,w2,← en] at q;simp (disch:=omega) only [yS] at q;exact .at (.nil _) q (loop h j true (by omega))
theorem ends {l:List Int} (h:RedOk l):EndZ 63 .nil false (st0 63 [il l]) (il (invW l)) [] 0:=by
 have q:=in_t l;have hl:=h.1;have w:IntKind.wrap IntKind.i64 (Int.ofNat l.length-1)=(l.length:Int)-1:=by rw [ofn];exact zah _ (by omega) (by omega)
 rw [w] at q;have:=loop h l.length false (Nat.le_refl _);rw [List.drop_length] at this;exact .at (.nil _) q this
end RIvs
noncomputable def spRIvs:ZCT:=fun ax=>match ax with
 | [.lst (.ints .i64 l)]=>some ⟨decide (RedOk l),il (invW l),[],0⟩
 | _=>none
theorem zoy:ZCtOk Try.prog 63 spRIvs:=fun γ w us ax r hs hc hax hN hfz=>by
 unfold spRIvs at hs;split at hs
 case h_2=>cases hs
 rename_i l;obtain ⟨rfl⟩:=Option.some.inj hs;have hc_0:decide (RedOk l)=true:=hc;have hc:=of_decide_eq_true hc_0;exact EndZ.calls (RIvs.ends hc) (.nil _) (by kernel_rfl) hax hN hfz
noncomputable def ctPd:Tr ZCC:=Tr.nil.put 110 (some (dC spRRed))
theorem zwb:ZCtsOk Try.prog ctPd:=(ZCtsOk.nil _).add rfl zow
namespace RPrd
noncomputable def RUN (s:ES):ZF:=RZ 62 ctPd (fun _=>false) [] [] false s
theorem in_t (a b c:List Int):RUN (st0 62 [il a,il b,il c])=(bc (bc (Nat.ble (0+a.length) 65536) true false) (bc (bc (Nat.beq ([]++a).length ([]++a).length) (bc (Nat.ble (([]++a).length+b.length) 65536) true false) false) (bc (bc (Nat.beq ([]++a++b).length ([]++a++b).length) (bc (Nat.ble (([]++a++b).length+c.length) 65536) true false) false) (bc (bc (bc (Nat.beq ([]++a++b++c).length ([]++a++b++c).length) true false) (decide (RedOk ([]++a++b++c))) false) (.done (il (redF ([]++a++b++c))) [] 0) .bad) .bad) .bad) .bad):=by kernel_rfl
theorem ends {a b c:List Int} (h:RedOk (a++b++c)):EndZ 62 ctPd false (st0 62 [il a,il b,il c]) (il (redF (a++b++c))) [] 0:=by
 have q:=in_t a b c;have hl:=h.1;rw [List.length_append,List.length_append] at hl;rw [List.nil_append,dt h] at q;simp only [List.length_append] at q;simp (disch:=omega) only [yS] at q;exact .done q
end RPrd
noncomputable def spRPrd:ZCT:=fun ax=>match ax with
 | [.lst (.ints .i64 a),.lst (.ints .i64 b),.lst (.ints .i64 c)]=>some ⟨decide (RedOk (a++b++c)),il (redF (a++b++c)),[],0⟩
 | _=>none
theorem zox:ZCtOk Try.prog 62 spRPrd:=fun γ w us ax r hs hc hax hN hfz=>by
 unfold spRPrd at hs;split at hs
 case h_2=>cases hs
 rename_i a b c;obtain ⟨rfl⟩:=Option.some.inj hs;have hc_0:decide (RedOk (a++b++c))=true:=hc;have hc:=of_decide_eq_true hc_0;exact EndZ.calls (RPrd.ends hc) zwb (by kernel_rfl) hax hN hfz
noncomputable abbrev e12:List Int:=[0,1,2,3,4,5,6,7,8,9,10,11]
theorem zky (n:Nat):e12=pA (Pm.one n):=zgs rfl fun x hx=>by
 show e12.getD x 0=(x:Int)
 match x,hx with
 | 0,_=>rfl
 | 1,_=>rfl
 | 2,_=>rfl
 | 3,_=>rfl
 | 4,_=>rfl
 | 5,_=>rfl
 | 6,_=>rfl
 | 7,_=>rfl
 | 8,_=>rfl
 | 9,_=>rfl
 | 10,_=>rfl
 | 11,_=>rfl
namespace PPln
noncomputable def RUN (s:ES):ZF:=RZ 114 .nil (fun _=>false) [] [] false s
theorem in_t (d:Int):RUN (st0 114 [])=(.done (EV.arr (SyC.ints IntKind.u8 [(0),(1),(2),(3),(4),(5),(6),(7),(8),(9),(10),(11)])) [] 0):=by kernel_rfl
end PPln
noncomputable def spPln:ZCT:=fun ax=>match ax with
 | []=>some ⟨decide (True),.arr (.ints .u8 e12),[],0⟩
 | _=>none
theorem zlj:ZCtOk Try.prog 114 spPln:=fun γ w us ax r hs hc hax hN hfz=>by
 unfold spPln at hs;split at hs
 case h_2=>cases hs
 obtain ⟨rfl⟩:=Option.some.inj hs;have hc_0:decide (True)=true:=hc;have hc:=of_decide_eq_true hc_0;exact EndZ.calls (.done (PPln.in_t 0)) (.nil _) (by kernel_rfl) hax hN hfz
namespace PInv
noncomputable def RA (s:ES):ZF:=RMs 1 116 .nil [(atS 0 116 3,[[(2,none),(3,none),(6,none),(7,none)]])] [] [] s
noncomputable def sA (e q:List Int) (i:Int):NS:=⟨[⟨116,19,[(2,(EV.ptr 1 0)),(3,(EV.ptr 2 0)),(6,(EV.ptr 0 0)),(7,iv i)],[.it (.code (nav [1,1,0,1,0,0] (bodyOf Try.f116))),.it (.inLoop (nav [1,1,0,1,0,0] (bodyOf Try.f116))),.it (.inBlock 0),.it (.code (nav [1,1,1] (bodyOf Try.f116)))],[],Option.none⟩],[(0,(EK.seq 95 (SyC.ints IntKind.u8 e) true)),(1,(EK.seq 95 (SyC.ints IntKind.u8 [(0),(0),(0),(0),(0),(0),(0),(0),(0),(0),(0),(0)]) true)),(2,EK.seq 95 (.ints .u8 q) true)],3⟩
noncomputable def sB (L q:List Int) (m:Nat) (nn:Bool) (i:Int):NS:=⟨[⟨116,19,[(2,(EV.ptr 1 0)),(3,(EV.ptr 2 0)),(6,(EV.ptrE 0 12 m 0)),(7,iv i)],[.it (.code (nav [1,1,0,1,0,0] (bodyOf Try.f116))),.it (.inLoop (nav [1,1,0,1,0,0] (bodyOf Try.f116))),.it (.inBlock 0),.it (.code (nav [1,1,1] (bodyOf Try.f116)))],[],Option.none⟩],[(0,(EK.seq 95 (SyC.ints IntKind.u8 L) nn)),(1,(EK.seq 95 (SyC.ints IntKind.u8 [(0),(0),(0),(0),(0),(0),(0),(0),(0),(0),(0),(0)]) true)),(2,EK.seq 95 (.ints .u8 q) true)],3⟩
theorem inA_t (e:List Int):RA (st0m 116 [.ptr 0 0] [(0,.seq 95 (.ints .u8 e) true)] 1)=(.at (sA (e) (zerosL (12:Nat)) ((0:Int)))):=by kernel_rfl
theorem inB_t (L:List Int) (m:Nat) (nn:Bool):RA (st0m 116 [.ptrE 0 12 m 0] [(0,.seq 95 (.ints .u8 L) nn)] 1)=(.at (sB (L) (zerosL (12:Nat)) (m) (nn) ((0:Int)))):=by kernel_rfl
theorem stA_t (e q:List Int) (i:Int):RA (stOf (sA e q i))=(bc (decide (i<(12:Int))) (bc (bc (bc (bc (bc (decide ((0:Int)≤i)) (Nat.blt (Int.toNat i) (12:Nat)) false) true false) (bc (bc (Nat.blt (Int.toNat i) (List.length e)) true false) true false) false) true false) (bc (bc (bc (decide ((0:Int)≤List.getD e (Int.toNat i) (0:Int))) (Nat.blt (Int.toNat (List.getD e (Int.toNat i) (0:Int))) (12:Nat)) false) true false) (bc (Nat.blt (Int.toNat (List.getD e (Int.toNat i) (0:Int))) (List.length q)) (.at (sA (e) (List.set q (Int.toNat (List.getD e (Int.toNat i) (0:Int))) (IntKind.wrap IntKind.u8 i)) (IntKind.wrap IntKind.i64 (i+(1:Int))))) .bad) .bad) .bad) (bc (bc (Nat.beq (12:Nat) (List.length q)) true false) (bc (bc (Nat.beq (List.length q) (12:Nat)) (Nat.beq (List.length [(0:Int),(0:Int),(0:Int),(0:Int),(0:Int),(0:Int),(0:Int),(0:Int),(0:Int),(0:Int),(0:Int),(0:Int)]) (12:Nat)) false) (bc (bc (Nat.beq (12:Nat) (List.length q)) true false) (.done (EV.arr (SyC.ints IntKind.u8 (q))) [(0,(EK.seq 95 (SyC.ints IntKind.u8 (e)) true))] 1) .bad) .bad) .bad)):=by kernel_rfl
theorem stB_t (L q:List Int) (m:Nat) (nn:Bool) (i:Int):RA (stOf (sB L q m nn i))=(bc (decide (i<(12:Int))) (bc (bc (bc (bc (bc (decide ((0:Int)≤i)) (Nat.blt (Int.toNat i) (12:Nat)) false) true false) (bc (bc (Nat.blt (Nat.add (Nat.mul m (12:Nat)) (Nat.add (0:Nat) (Nat.mul (Int.toNat i) (1:Nat)))) (List.length L)) true false) true false) false) true false) (bc (bc (bc (decide ((0:Int)≤List.getD L (Nat.add (Nat.mul m (12:Nat)) (Nat.add (0:Nat) (Nat.mul (Int.toNat i) (1:Nat)))) (0:Int))) (Nat.blt (Int.toNat (List.getD L (Nat.add (Nat.mul m (12:Nat)) (Nat.add (0:Nat) (Nat.mul (Int.toNat i) (1:Nat)))) (0:Int))) (12:Nat)) false) true false) (bc (Nat.blt (Int.toNat (List.getD L (Nat.add (Nat.mul m (12:Nat)) (Nat.add (0:Nat) (Nat.mul (Int.toNat i) (1:Nat)))) (0:Int))) (List.length q)) (.at (sB (L) (List.set q (Int.toNat (List.getD L (Nat.add (Nat.mul m (12:Nat)) (Nat.add (0:Nat) (Nat.mul (Int.toNat i) (1:Nat)))) (0:Int))) (IntKind.wrap IntKind.u8 i)) (m) (nn) (IntKind.wrap IntKind.i64 (i+(1:Int))))) .bad) .bad) .bad) (bc (bc (Nat.beq (12:Nat) (List.length q)) true false) (bc (bc (Nat.beq (List.length q) (12:Nat)) (Nat.beq (List.length [(0:Int),(0:Int),(0:Int),(0:Int),(0:Int),(0:Int),(0:Int),(0:Int),(0:Int),(0:Int),(0:Int),(0:Int)]) (12:Nat)) false) (bc (bc (Nat.beq (12:Nat) (List.length q)) true false) (.done (EV.arr (SyC.ints IntKind.u8 (q))) [(0,(EK.seq 95 (SyC.ints IntKind.u8 (L)) (nn)))] 1) .bad) .bad) .bad)):=by kernel_rfl
theorem wrap8 (x:Int) (h1:0≤x) (h2:x<256):IntKind.u8.wrap x=x:=by
 rw [IntKind.wrap_u8];omega
theorem stepA {e q:List Int} {i:Nat} (hi:i<12) (he:In12 e) (hq:q.length=12):RA (stOf (sA e q i)) = .at (sA e (q.set (e.getD i 0).toNat (i:Int)) (i+1:Nat)):=by
 rw [stA_t];obtain ⟨h1,h2⟩:=he.2 i hi;have h3:=he.1;have e1:((i:Int)).toNat=i:=rfl;rw [e1];generalize hx:e.getD i 0=x at *;obtain ⟨x,rfl⟩:=Int.eq_ofNat_of_zero_le h1;simp (disch:=omega) only [yS,wrap8];rfl
theorem lastA {e q:List Int} {i:Nat} (hi:12≤i) (hq:q.length=12):RA (stOf (sA e q i)) = .done (.arr (.ints .u8 q)) [(0,.seq 95 (.ints .u8 e) true)] 1:=by
 rw [stA_t];have e1:(Nat.beq (List.length [(0:Int),0,0,0,0,0,0,0,0,0,0,0]) 12)=true:=rfl;simp (disch:=omega) only [yS,e1]
theorem loopA {e:List Int} (he:In12 e):∀ (k i:Nat),i+k=12→EndM 1 116 .nil (stOf (sA e (invS e i) i)) (.arr (.ints .u8 (invS e 12))) [(0,.seq 95 (.ints .u8 e) true)] 1
 | 0,i,h=>by
  obtain rfl:i=12:=by omega
  exact .done (lastA (Nat.le_refl _) (zcs e 12))
 | k+1,i,h=>.at (.nil _) (stepA (by omega) he (zcs e i)) (loopA he k (i+1) (by omega))
theorem stepB {L q:List Int} {m:Nat} {nn:Bool} {i:Nat} (hi:i<12) (hm:m*12+12≤L.length) (he:In12 ((L.drop (m*12)).take 12)) (hq:q.length=12):RA (stOf (sB L q m nn i)) = .at (sB L (q.set (((L.drop (m*12)).take 12).getD i 0).toNat (i:Int)) m nn (i+1:Nat)):=by
 rw [stB_t];obtain ⟨h1,h2⟩:=he.2 i hi;have h4:((L.drop (m*12)).take 12).getD i 0=L.getD (Nat.add (Nat.mul m 12) (Nat.add 0 (Nat.mul (Int.toNat (i:Int)) 1))) 0:=by
  rw [List.getD_eq_getElem?_getD,List.getD_eq_getElem?_getD,List.getElem?_take,if_pos hi,List.getElem?_drop];show L[m*12+i]?.getD 0=L[m*12+(0+i*1)]?.getD 0;rw [show m*12+(0+i*1)=m*12+i by omega]
 rw [← h4];have e1:Nat.add (Nat.mul m 12) (Nat.add 0 (Nat.mul (Int.toNat (i:Int)) 1))=m*12+i:=by
  show m*12+(0+i*1)=_;omega
 rw [e1];generalize ((L.drop (m*12)).take 12).getD i 0=x at *;obtain ⟨x,rfl⟩:=Int.eq_ofNat_of_zero_le h1;simp (disch:=omega) only [yS,wrap8];rfl
theorem lastB {L q:List Int} {m:Nat} {nn:Bool} {i:Nat} (hi:12≤i) (hq:q.length=12):RA (stOf (sB L q m nn i)) = .done (.arr (.ints .u8 q)) [(0,.seq 95 (.ints .u8 L) nn)] 1:=by
 rw [stB_t];have e1:(Nat.beq (List.length [(0:Int),0,0,0,0,0,0,0,0,0,0,0]) 12)=true:=rfl;simp (disch:=omega) only [yS,e1]
theorem loopB {L:List Int} {m:Nat} {nn:Bool} (hm:m*12+12≤L.length) (he:In12 ((L.drop (m*12)).take 12)):∀ (k i:Nat),i+k=12→EndM 1 116 .nil (stOf (sB L (invS ((L.drop (m*12)).take 12) i) m nn i)) (.arr (.ints .u8 (invS ((L.drop (m*12)).take 12) 12))) [(0,.seq 95 (.ints .u8 L) nn)] 1
 | 0,i,h=>by
  obtain rfl:i=12:=by omega
  exact .done (lastB (Nat.le_refl _) (zcs _ 12))
 | k+1,i,h=>.at (.nil _) (stepB (by omega) hm he (zcs _ i)) (loopB hm he k (i+1) (by omega))
end PInv
noncomputable def spInv_0:ZMT:=fun ax K0 m=>match ax,K0 with
 | [.ptr 0 0],[(0,.seq 95 (.ints .u8 e) v_0)]=>bc (Nat.beq m (1)) (some ⟨bc (eqN v_0 (true)) (decide (In12 e)) false,.arr (.ints .u8 (invS e 12)),[(0,.seq 95 (.ints .u8 e) true)],1,1⟩) none
 | _,_=>none
theorem zni:ZMtOk Try.prog 116 spInv_0:=fun γ w0 w us ax K0 m r hs hc hres hax hH=>by
 unfold spInv_0 at hs;split at hs
 case h_2=>cases hs
 rename_i e v_0;obtain ⟨hm,rfl⟩:=noN hs;have hm:=Nat.eq_of_beq_eq_true hm;subst hm;have hc_0:bc (eqN v_0 (true)) (decide (In12 e)) false=true:=hc;obtain ⟨q_0,hc_1⟩:=bcT hc_0;have p_0:=(zdp q_0).symm;subst p_0;have hc:=of_decide_eq_true hc_1;exact EndM.calls (.at (.nil _) (PInv.inA_t e) (PInv.loopA hc 12 0 rfl)) (.nil _) (by kernel_rfl) hres hax hH
noncomputable def spInv_1:ZMT:=fun ax K0 m=>match ax,K0 with
 | [.ptrE 0 12 g 0],[(0,.seq 95 (.ints .u8 L) nn)]=>bc (Nat.beq m (1)) (some ⟨decide (g*12+12≤L.length∧In12 ((L.drop (g*12)).take 12)),.arr (.ints .u8 (invS ((L.drop (g*12)).take 12) 12)),[(0,.seq 95 (.ints .u8 L) nn)],1,1⟩) none
 | _,_=>none
theorem znh:ZMtOk Try.prog 116 spInv_1:=fun γ w0 w us ax K0 m r hs hc hres hax hH=>by
 unfold spInv_1 at hs;split at hs
 case h_2=>cases hs
 rename_i g L nn;obtain ⟨hm,rfl⟩:=noN hs;have hm:=Nat.eq_of_beq_eq_true hm;subst hm;have hc_0:decide (g*12+12≤L.length∧In12 ((L.drop (g*12)).take 12))=true:=hc;have hc:=of_decide_eq_true hc_0;exact EndM.calls (.at (.nil _) (PInv.inB_t L g nn) (PInv.loopB hc.1 hc.2 12 0 rfl)) (.nil _) (by kernel_rfl) hres hax hH
noncomputable def spInv:ZMT:=ZMT.or spInv_0 (spInv_1)
theorem zse:ZMtOk Try.prog 116 spInv:=zni.or (znh)
namespace PDel
noncomputable def ct:Tr ZCC:=Tr.nil.put 114 (some (dC spPln))
theorem ct_ok:ZCtsOk Try.prog ct:=(ZCtsOk.nil _).add rfl zlj
noncomputable def RD (s:ES):ZF:=RMs 1 99 ct [(atS 0 99 3,[[(0,none),(2,none),(3,none),(9,none),(10,none)]])] [] [] s
noncomputable def K0 (n pw:Int) (L:List Int) (len:Nat) (nn:Bool):List (Nat×EK):=[(0,.cells 92 [iv n,iv pw,.slO 1 12 len nn] true),(1,.seq 95 (.ints .u8 L) nn)]
noncomputable def sD (n pw:Int) (L q:List Int) (len:Nat) (nn:Bool) (i:Int):NS:=⟨[⟨99,25,[(0,(EV.ptr 0 0)),(2,(EV.ptr 1 0)),(3,(EV.ptr 2 0)),(9,(iv n)),(10,iv i)],[.it (.code (nav [1,1,0,1,0,0] (bodyOf Try.f99))),.it (.inLoop (nav [1,1,0,1,0,0] (bodyOf Try.f99))),.it (.inBlock 0),.it (.code (nav [1,1,1] (bodyOf Try.f99)))],[],Option.none⟩],[(0,(EK.cells 92 [(iv n),(iv pw),(EV.slO 3 12 len nn)] true)),(1,(EK.seq 95 (SyC.ints IntKind.u8 [(0),(0),(0),(0),(0),(0),(0),(0),(0),(0),(0),(0)]) true)),(2,EK.seq 95 (.ints .u8 q) true),(3,(EK.seq 95 (SyC.ints IntKind.u8 L) nn))],4⟩
theorem in_t (n pw:Int) (L:List Int) (len:Nat) (nn:Bool):RD (st0m 99 [.ptr 0 0] (K0 n pw L len nn) 2)=(.at (sD (n) (pw) (L) (e12) (len) (nn) ((0:Int)))):=by kernel_rfl
theorem st_t (n pw:Int) (L q:List Int) (len:Nat) (nn:Bool) (i:Int):RD (stOf (sD n pw L q len nn i))=(bc (decide (i<n)) (bc (bc (bc (decide ((0:Int)≤i)) (Nat.blt (Int.toNat i) (12:Nat)) false) true false) (bc (Nat.blt (Int.toNat i) (List.length q)) (.at (sD (n) (pw) (L) (List.set q (Int.toNat i) (IntKind.wrap IntKind.u8 (IntKind.wrap IntKind.i64 (IntKind.wrap IntKind.i64 (n-(1:Int))-i)))) (len) (nn) (IntKind.wrap IntKind.i64 (i+(1:Int))))) .bad) .bad) (bc (bc (Nat.beq (12:Nat) (List.length q)) true false) (bc (bc (Nat.beq (List.length q) (12:Nat)) (Nat.beq (List.length [(0:Int),(0:Int),(0:Int),(0:Int),(0:Int),(0:Int),(0:Int),(0:Int),(0:Int),(0:Int),(0:Int),(0:Int)]) (12:Nat)) false) (bc (bc (Nat.beq (12:Nat) (List.length q)) true false) (.done (EV.arr (SyC.ints IntKind.u8 (q))) [(0,(EK.cells 92 [(EV.v (Value.int IntKind.i64 (n))),(EV.v (Value.int IntKind.i64 (pw))),(EV.slO 1 12 (len) (nn))] true)),(1,(EK.seq 95 (SyC.ints IntKind.u8 (L)) (nn)))] 2) .bad) .bad) .bad)):=by kernel_rfl
noncomputable def delS (n:Nat):Nat→List Int
 | 0=>e12
 | i+1=>(delS n i).set i ((n:Int)-1-(i:Int))
theorem zen (n:Nat):∀ i,(delS n i).length=12
 | 0=>rfl
 | i+1=>by unfold delS;rw [List.length_set,zen n i]
theorem zmt {n:Nat} (hn:n≤12):∀ (i:Nat),i≤n→∀ x,x<12→(delS n i).getD x 0=if x<i then (n:Int)-1-(x:Int) else (x:Int)
 | 0,_,x,hx=>by
  rw [if_neg (by omega)];show e12.getD x 0=_;rw [zky 12,zbm _ hx];rfl
 | i+1,hi,x,hx=>by
  unfold delS;rw [gset2,zen,zmt hn i (by omega) x hx]
  by_cases e:x=i
  ·subst e;rw [if_pos ⟨rfl,hx⟩,if_pos (by omega)]
  ·rw [if_neg (fun h=>e h.1)]
   by_cases h:x<i
   ·rw [if_pos h,if_pos (by omega)]
   ·rw [if_neg h,if_neg (by omega)]
theorem zv9 {n:Nat} (hn:n≤12):delS n n=pA (Pm.del n):=zgs (zen n n) fun x hx=>by
 rw [zmt hn n (Nat.le_refl _) x hx];show _=((Pm.rv n x:Nat):Int);unfold Pm.rv
 by_cases h:x<n
 ·rw [if_pos h,if_pos h];omega
 ·rw [if_neg h,if_neg h]
theorem step {n:Nat} {pw:Int} {L q:List Int} {len:Nat} {nn:Bool} {i:Nat} (hi:i<n) (hn:n≤12) (hq:q.length=12):RD (stOf (sD n pw L q len nn i)) = .at (sD n pw L (q.set i ((n:Int)-1-(i:Int))) len nn (i+1:Nat)):=by
 rw [st_t];simp (disch:=omega) only [yS,PInv.wrap8];rfl
theorem last {n:Nat} {pw:Int} {L q:List Int} {len:Nat} {nn:Bool} {i:Nat} (hi:n≤i) (hq:q.length=12):RD (stOf (sD n pw L q len nn i)) = .done (.arr (.ints .u8 q)) (K0 n pw L len nn) 2:=by
 rw [st_t];have e1:(Nat.beq (List.length [(0:Int),0,0,0,0,0,0,0,0,0,0,0]) 12)=true:=rfl;simp (disch:=omega) only [yS,e1];rfl
theorem loop {n:Nat} {pw:Int} {L:List Int} {len:Nat} {nn:Bool} (hn:n≤12):∀ (k i:Nat),i+k=n→EndM 1 99 ct (stOf (sD n pw L (delS n i) len nn i)) (.arr (.ints .u8 (pA (Pm.del n)))) (K0 n pw L len nn) 2
 | 0,i,h=>by
  obtain rfl:i=n:=by omega
  rw [← zv9 hn];exact .done (last (Nat.le_refl _) (zen i i))
 | k+1,i,h=>.at ct_ok (step (by omega) hn (zen n i)) (loop hn k (i+1) (by omega))
theorem ends {n pw:Int} {L:List Int} {len:Nat} {nn:Bool} (h0:0≤n) (hn:n≤12):EndM 1 99 ct (st0m 99 [.ptr 0 0] (K0 n pw L len nn) 2) (.arr (.ints .u8 (pA (Pm.del n.toNat)))) (K0 n pw L len nn) 2:=by
 obtain ⟨n,rfl⟩:=Int.eq_ofNat_of_zero_le h0;exact .at ct_ok (in_t n pw L len nn) (loop (by omega) n 0 (by omega))
end PDel
noncomputable def spDel:ZMT:=fun ax K0 m=>match ax,K0 with
 | [.ptr 0 0],[(0,.cells 92 [.v (.int .i64 n),.v (.int .i64 pw),.slO 1 12 len nn] v_0),(1,.seq 95 (.ints .u8 L) v_1)]=>bc (Nat.beq m (2)) (some ⟨bc (eqN v_0 (true)) (bc (eqN v_1 (nn)) (decide (0≤n∧n≤12)) false) false,.arr (.ints .u8 (pA (Pm.del n.toNat))),PDel.K0 n pw L len nn,2,1⟩) none
 | _,_=>none
theorem zsg:ZMtOk Try.prog 99 spDel:=fun γ w0 w us ax K0 m r hs hc hres hax hH=>by
 unfold spDel at hs;split at hs
 case h_2=>cases hs
 rename_i n pw len nn v_0 L v_1;obtain ⟨hm,rfl⟩:=noN hs;have hm:=Nat.eq_of_beq_eq_true hm;subst hm;have hc_0:bc (eqN v_0 (true)) (bc (eqN v_1 (nn)) (decide (0≤n∧n≤12)) false) false=true:=hc;obtain ⟨q_0,hc_1⟩:=bcT hc_0;have p_0:=(zdp q_0).symm;subst p_0;obtain ⟨q_1,hc_2⟩:=bcT hc_1;have p_1:=(zdp q_1).symm;subst p_1;have hc:=of_decide_eq_true hc_2;exact EndM.calls (PDel.ends hc.1 hc.2) PDel.ct_ok (by kernel_rfl) hres hax hH
namespace PTrn
noncomputable def RT (s:ES):ZF:=RMs 1 115 .nil [(atS 0 115 1,[[(0,none),(8,none),(9,none),(10,none)]]),(atS 0 115 4,[[(0,none),(2,none),(3,none),(8,none),(9,none),(10,none),(18,none),(19,none)]])] [] [] s
noncomputable def sA (n pw:Int) (L:List Int) (len:Nat) (nn:Bool) (z i:Int):NS:=⟨[⟨115,48,[(0,(EV.ptr 0 0)),(8,(EV.slO 1 12 len nn)),(9,iv z),(10,iv i)],[.it (.code (nav [1,0,0] (bodyOf Try.f115))),.it (.inLoop (nav [1,0,0] (bodyOf Try.f115))),.it (.inBlock 0)],[],Option.none⟩],[(0,(EK.cells 92 [(iv n),(iv pw),(EV.slO 1 12 len nn)] true)),(1,(EK.seq 95 (SyC.ints IntKind.u8 L) nn))],2⟩
noncomputable def sB (n pw:Int) (L q:List Int) (len:Nat) (nn:Bool) (z i k j:Int):NS:=⟨[⟨115,48,[(0,(EV.ptr 0 0)),(2,iv k),(3,(EV.ptr 1 0)),(8,(EV.slO 2 12 len nn)),(9,iv z),(10,iv i),(18,(iv n)),(19,iv j)],[.it (.code (nav [1,0,0,1,1,0,0,1,1,0,0] (bodyOf Try.f115))),.it (.inLoop (nav [1,0,0,1,1,0,0,1,1,0,0] (bodyOf Try.f115))),.it (.inBlock 2),.it (.inBlock 1),.it (.code (nav [1,0,0,1,1,1] (bodyOf Try.f115))),.it (.inLoop (nav [1,0,0] (bodyOf Try.f115))),.it (.inBlock 0)],[],Option.none⟩],[(0,(EK.cells 92 [(iv n),(iv pw),(EV.slO 2 12 len nn)] true)),(1,EK.seq 95 (.ints .u8 q) true),(2,(EK.seq 95 (SyC.ints IntKind.u8 L) nn))],3⟩
theorem in_t (n pw:Int) (L:List Int) (len:Nat) (nn:Bool):RT (st0m 115 [.ptr 0 0] (PDel.K0 n pw L len nn) 2)=(.at (sA (n) (pw) (L) (len) (nn) (Int.ofNat len) ((0:Int)))):=by kernel_rfl
theorem a_t (n pw:Int) (L:List Int) (len:Nat) (nn:Bool) (z i:Int):RT (stOf (sA n pw L len nn z i))=(bc (decide (i<z)) (bc (bc (bc (decide ((0:Int)≤i)) (Nat.blt (Int.toNat i) len) false) true false) (bc (bc (Nat.ble (Nat.add (Nat.add (Nat.mul (Int.toNat i) (12:Nat)) (0:Nat)) (12:Nat)) (List.length L)) true false) (bc (bc (Nat.beq (List.length (List.take (12:Nat) (List.drop (Nat.add (Nat.mul (Int.toNat i) (12:Nat)) (0:Nat)) L))) (12:Nat)) (Nat.beq (List.length (zerosL (12:Nat))) (12:Nat)) false) (.at (sB (n) (pw) (L) (List.take (12:Nat) (List.drop (Nat.add (Nat.mul (Int.toNat i) (12:Nat)) (0:Nat)) L)) (len) (nn) (z) (i) (i) ((0:Int)))) .bad) .bad) .bad) (.done (EV.tup []) [(0,(EK.cells 92 [(EV.v (Value.int IntKind.i64 (n))),(EV.v (Value.int IntKind.i64 (pw))),(EV.slO 1 12 (len) (nn))] true)),(1,(EK.seq 95 (SyC.ints IntKind.u8 (L)) (nn)))] 2)):=by kernel_rfl
theorem b_t (n pw:Int) (L q:List Int) (len:Nat) (nn:Bool) (z i k j:Int):RT (stOf (sB n pw L q len nn z i k j))=(bc (decide (j<n)) (bc (bc (bc (bc (bc (decide ((0:Int)≤j)) (Nat.blt (Int.toNat j) (12:Nat)) false) true false) (bc (bc (Nat.blt (Int.toNat j) (List.length q)) true false) (bc (bc (bc (decide ((0:Int)≤k)) (Nat.blt (Int.toNat k) len) false) true false) (bc (bc (bc (decide ((0:Int)≤IntKind.wrap IntKind.i64 (IntKind.wrap IntKind.i64 (n-(1:Int))-j))) (Nat.blt (Int.toNat (IntKind.wrap IntKind.i64 (IntKind.wrap IntKind.i64 (n-(1:Int))-j))) (12:Nat)) false) true false) (bc (Nat.blt (Nat.add (Nat.mul (Int.toNat k) (12:Nat)) (Nat.add (0:Nat) (Nat.mul (Int.toNat (IntKind.wrap IntKind.i64 (IntKind.wrap IntKind.i64 (n-(1:Int))-j))) (1:Nat)))) (List.length L)) true false) false) false) false) false) true false) (.at (sB (n) (pw) (List.set L (Nat.add (Nat.mul (Int.toNat k) (12:Nat)) (Nat.add (0:Nat) (Nat.mul (Int.toNat (IntKind.wrap IntKind.i64 (IntKind.wrap IntKind.i64 (n-(1:Int))-j))) (1:Nat)))) (IntKind.wrap IntKind.u8 (IntKind.wrap IntKind.u8 (IntKind.wrap IntKind.i64 (n-(1:Int)))-List.getD q (Int.toNat j) (0:Int)))) (q) (len) (nn) (z) (i) (k) (IntKind.wrap IntKind.i64 (j+(1:Int))))) .bad) (.at (sA (n) (pw) (L) (len) (nn) (z) (IntKind.wrap IntKind.i64 (i+(1:Int)))))):=by kernel_rfl
noncomputable def trS {n:Nat} (p:Pm n):Nat→List Int
 | 0=>pA p
 | i+1=>(trS p i).set (n-1-i) ((n:Int)-1-(p.f i:Int))
theorem zfo {n:Nat} (p:Pm n):∀ i,(trS p i).length=12
 | 0=>zaw p
 | i+1=>by unfold trS;rw [List.length_set,zfo p i]
theorem zok {n:Nat} (hn:n≤12) (p:Pm n):∀ i,i≤n→∀ x,x<12→(trS p i).getD x 0=if x<n∧n-1-x<i then (n:Int)-1-(p.f (n-1-x):Int) else (p.f x:Int)
 | 0,_,x,hx=>by
  rw [if_neg (by omega)];exact zbm p hx
 | i+1,hi,x,hx=>by
  unfold trS;rw [gset2,zfo,zok hn p i (by omega) x hx]
  by_cases e:x=n-1-i
  ·rw [if_pos ⟨e,by omega⟩,if_pos (by omega),show n-1-x=i by omega]
  ·rw [if_neg (fun h=>e h.1)]
   by_cases h:x<n∧n-1-x<i
   ·rw [if_pos h,if_pos (by omega)]
   ·rw [if_neg h,if_neg (by omega)]
theorem zwu {n:Nat} (hn:n≤12) (p:Pm n):trS p n=pA p.trn:=zgs (zfo p n) fun x hx=>by
 rw [zok hn p n (Nat.le_refl _) x hx];show _=((Pm.rv n (p.f (Pm.rv n x)):Nat):Int)
 by_cases h:x<n
 ·have h1:Pm.rv n x=n-1-x:=by unfold Pm.rv;rw [if_pos h]
  have h2:=p.lt (show n-1-x<n by omega);rw [if_pos (by omega),h1];unfold Pm.rv;rw [if_pos h2];omega
 ·have h1:Pm.rv n x=x:=by unfold Pm.rv;rw [if_neg h]
  rw [if_neg (by omega),h1,p.out x (by omega)];unfold Pm.rv;rw [if_neg (by omega)]
theorem zkx {n:Nat} (A B:List (Pm n)) {M:List Int} (h:M.length=12):(encF A++(M++encF B)).length=(A.length+1+B.length)*12:=by
 rw [List.length_append,List.length_append,zae,zae,h];omega
theorem stepB {n:Nat} (hn:n≤12) {pw:Int} {A B:List (Pm n)} {p:Pm n} {len:Nat} {nn:Bool} {z:Int} {j:Nat} (hj:j<n) (hl:len=A.length+1+B.length):RT (stOf (sB n pw (encF A++(trS p j++encF B)) (pA p) len nn z A.length A.length j)) = .at (sB n pw (encF A++(trS p (j+1)++encF B)) (pA p) len nn z A.length A.length (j+1:Nat)):=by
 rw [b_t];have h1:=p.lt hj;have e0:((j:Int)).toNat=j:=rfl;have e1:(pA p).getD j 0=(p.f j:Int):=zbm p (by omega);rw [e0,e1];have w1:IntKind.wrap IntKind.i64 (IntKind.wrap IntKind.i64 ((n:Int)-1)-(j:Int))=((n-1-j:Nat):Int):=by
  rw [zah ((n:Int)-1) (by omega) (by omega),zah _ (by omega) (by omega)];omega
 have w2:IntKind.wrap IntKind.u8 (IntKind.wrap IntKind.u8 (IntKind.wrap IntKind.i64 ((n:Int)-1))-(p.f j:Int))=(n:Int)-1-(p.f j:Int):=by
  rw [zah ((n:Int)-1) (by omega) (by omega),PInv.wrap8 ((n:Int)-1) (by omega) (by omega),PInv.wrap8 _ (by omega) (by omega)]
 rw [w1,w2];have e2:(((n-1-j:Nat):Int)).toNat=n-1-j:=rfl;have e3:((A.length:Int)).toNat=A.length:=rfl;rw [e2,e3];have e4:Nat.add (Nat.mul A.length 12) (Nat.add 0 (Nat.mul (n-1-j) 1))=(encF A).length+(n-1-j):=by
  rw [zae];show A.length*12+(0+(n-1-j)*1)=_;omega
 rw [e4,zjy _ _ _ _ _ (by rw [zfo];omega),zkx A B (zfo p j),zae,zaw];have e5:trS p (j+1)=(trS p j).set (n-1-j) ((n:Int)-1-(p.f j:Int)):=rfl;rw [← e5];simp (disch:=omega) only [yS];rfl
theorem lastB {n:Nat} {pw:Int} {L q:List Int} {len:Nat} {nn:Bool} {z:Int} {i k j:Nat} (hj:n≤j) (hi:i<60000):RT (stOf (sB n pw L q len nn z i k j)) = .at (sA n pw L len nn z (i+1:Nat)):=by
 rw [b_t];simp (disch:=omega) only [yS];rfl
theorem loopB {n:Nat} (hn:n≤12) {pw:Int} {A B:List (Pm n)} {p:Pm n} {len:Nat} {nn:Bool} {z:Int} (hl:len=A.length+1+B.length) (hz:len≤5000):∀ (k j:Nat),j+k=n→LeadsM Try.prog 1 (stOf (sB n pw (encF A++(trS p j++encF B)) (pA p) len nn z A.length A.length j)) (stOf (sA n pw (encF (A++p.trn::B)) len nn z (A.length+1:Nat)))
 | 0,j,h=>by
  obtain rfl:j=n:=by omega
  rw [zwu hn,zb1,za6];exact leadsMZ (.nil _) (lastB (Nat.le_refl _) (by omega))
 | k+1,j,h=>(leadsMZ (.nil _) (stepB hn (by omega) hl)).trans (loopB hn hl hz k (j+1) (by omega))
theorem stepA {n:Nat} {pw:Int} {A B:List (Pm n)} {p:Pm n} {len:Nat} {nn:Bool} (hl:len=A.length+1+B.length) (hz:len≤5000):RT (stOf (sA n pw (encF (A++p::B)) len nn len A.length)) = .at (sB n pw (encF A++(trS p 0++encF B)) (pA p) len nn len A.length A.length (0:Nat)):=by
 rw [a_t];have e3:((A.length:Int)).toNat=A.length:=rfl;have e4:Nat.add (Nat.mul A.length 12) 0=A.length*12:=rfl;rw [e3,e4,zdl,zae,zaw];have e5:(A++p::B).length=len:=by rw [List.length_append,List.length_cons];omega
 have e6:(zerosL 12).length=12:=rfl;rw [e5,e6,zb1,za6];simp (disch:=omega) only [yS];rfl
theorem lastA {n:Nat} {pw:Int} {L:List Int} {len:Nat} {nn:Bool} {z:Int} {i:Nat} (hi:z≤i):RT (stOf (sA n pw L len nn z i)) = .done (.tup []) (PDel.K0 n pw L len nn) 2:=by
 rw [a_t];simp (disch:=omega) only [yS];rfl
theorem loopA {n:Nat} (hn:n≤12) {pw:Int} {len:Nat} {nn:Bool} (hz:len≤5000):∀ (B A:List (Pm n)),len=A.length+B.length→EndM 1 115 .nil (stOf (sA n pw (encF (A.map Pm.trn++B)) len nn len A.length)) (.tup []) (PDel.K0 n pw (encF ((A++B).map Pm.trn)) len nn) 2
 | [],A,h=>by
  rw [List.append_nil,List.append_nil];exact .done (lastA (by simp at h;omega))
 | p::B,A,h=>by
  rw [List.length_cons] at h;have h1:=stepA (pw:=pw) (A:=A.map Pm.trn) (B:=B) (p:=p) (len:=len) (nn:=nn) (by rw [List.length_map];omega) hz;have h2:=loopB hn (pw:=pw) (A:=A.map Pm.trn) (B:=B) (p:=p) (len:=len) (nn:=nn) (z:=len) (by rw [List.length_map];omega) hz n 0 (by omega);rw [List.length_map] at h1 h2;refine .at (.nil _) h1 (.lead h2 ?_);have h3:=loopA hn (pw:=pw) (nn:=nn) hz B (A++[p]) (by rw [List.length_append,List.length_singleton];omega)
  rw [List.length_append,List.length_singleton,List.map_append,List.append_assoc,List.append_assoc] at h3;exact h3
noncomputable def turL (n:Int) (L:List Int):List Int:=encF ((decF n.toNat L).map Pm.trn)
theorem ends {n pw:Int} {L:List Int} {len:Nat} {nn:Bool} (h:FormOk n L len):EndM 1 115 .nil (st0m 115 [.ptr 0 0] (PDel.K0 n pw L len nn) 2) (.tup []) (PDel.K0 n pw (turL n L) len nn) 2:=by
 obtain ⟨h0,hn,F,rfl,rfl,hF⟩:=h;obtain ⟨n,rfl⟩:=Int.eq_ofNat_of_zero_le h0;have hn:n≤12:=by omega
 unfold turL;have e:(decF ((n:Int)).toNat (encF F))=F:=zcy hn F;rw [e];exact .at (.nil _) (in_t n pw _ _ nn) (loopA hn hF F [] (by simp))
end PTrn
noncomputable def spTrn:ZMT:=fun ax K0 m=>match ax,K0 with
 | [.ptr 0 0],[(0,.cells 92 [.v (.int .i64 n),.v (.int .i64 pw),.slO 1 12 len nn] v_0),(1,.seq 95 (.ints .u8 L) v_1)]=>bc (Nat.beq m (2)) (some ⟨bc (eqN v_0 (true)) (bc (eqN v_1 (nn)) (decide (FormOk n L len)) false) false,.tup [],PDel.K0 n pw (PTrn.turL n L) len nn,2,1⟩) none
 | _,_=>none
theorem zsa:ZMtOk Try.prog 115 spTrn:=fun γ w0 w us ax K0 m r hs hc hres hax hH=>by
 unfold spTrn at hs;split at hs
 case h_2=>cases hs
 rename_i n pw len nn v_0 L v_1;obtain ⟨hm,rfl⟩:=noN hs;have hm:=Nat.eq_of_beq_eq_true hm;subst hm;have hc_0:bc (eqN v_0 (true)) (bc (eqN v_1 (nn)) (decide (FormOk n L len)) false) false=true:=hc;obtain ⟨q_0,hc_1⟩:=bcT hc_0;have p_0:=(zdp q_0).symm;subst p_0;obtain ⟨q_1,hc_2⟩:=bcT hc_1;have p_1:=(zdp q_1).symm;subst p_1;have hc:=of_decide_eq_true hc_2;exact EndM.calls (PTrn.ends hc) (.nil _) (by kernel_rfl) hres hax hH
namespace PTim
noncomputable def ct:Tr ZCC:=((Tr.nil.put 114 (some (dC spPln))).put 116 (some (mC spInv))).put 99 (some (mC spDel))
theorem ct_ok:ZCtsOk Try.prog ct:=(((ZCtsOk.nil _).add rfl zlj).addM rfl zse).addM rfl zsg
noncomputable def RT (s:ES):ZF:=RMs 1 117 ct [(atS 0 117 3,[[(0,none),(4,none)]]),(atS 0 117 8,[[(0,none),(4,none),(5,none),(6,none),(7,none),(8,none)]]),(atS 0 117 17,[[(0,none),(9,none),(10,none)]]),(atS 0 117 19,[[(0,none),(10,none)]])] [] [] s
noncomputable def sA (n pw:Int) (L:List Int) (len:Nat) (k:Int):NS:=⟨[⟨117,187,[(0,(EV.ptr 0 0)),(4,iv k)],[.it (.code (nav [1,0,1,1,0,1,0,0,0] (bodyOf Try.f117))),.it (.code (nav [1,0,1,1,0,1,0,0,1] (bodyOf Try.f117))),.it (.inLoop (nav [1,0,1,1,0,1,0,0] (bodyOf Try.f117))),.it (.inBlock 0),.it (.code (nav [1,0,1,1,1] (bodyOf Try.f117))),.it (.inScope (nav [1,0] (bodyOf Try.f117)))],[],Option.none⟩],[(0,EK.cells 92 [iv n,iv pw,.slO 1 12 len true] true),(1,EK.seq 95 (.ints .u8 L) true)],2⟩
noncomputable def sB (n pw:Int) (L q:List Int) (len:Nat) (k:Int) (m:Nat) (tk:Bool) (i:Int):NS:=⟨[⟨117,187,[(0,(EV.ptr 0 0)),(4,iv k),(5,(EV.ptr 1 0)),(6,EV.ptrE 2 12 m 0),(7,bv tk),(8,iv i)],[.it (.code (nav [1,0,1,1,0,1,0,0,1,0,0,1,1,0,1,0,0,0] (bodyOf Try.f117))),.it (.code (nav [1,0,1,1,0,1,0,0,1,0,0,1,1,0,1,0,0,1] (bodyOf Try.f117))),.it (.inLoop (nav [1,0,1,1,0,1,0,0,1,0,0,1,1,0,1,0,0] (bodyOf Try.f117))),.it (.inBlock 2),.it (.code (nav [1,0,1,1,0,1,0,0,1,0,0,1,1,1] (bodyOf Try.f117))),.it (.inBlock 1),.it (.code (nav [1,0,1,1,0,1,0,0,1,1] (bodyOf Try.f117))),.it (.inLoop (nav [1,0,1,1,0,1,0,0] (bodyOf Try.f117))),.it (.inBlock 0),.it (.code (nav [1,0,1,1,1] (bodyOf Try.f117))),.it (.inScope (nav [1,0] (bodyOf Try.f117)))],[],Option.none⟩],[(0,(EK.cells 92 [(iv n),(iv pw),(EV.slO 2 12 len true)] true)),(1,EK.seq 95 (.ints .u8 q) true),(2,(EK.seq 95 (SyC.ints IntKind.u8 L) true))],3⟩
noncomputable def sC (n pw:Int) (L D:List Int) (len:Nat):NS:=⟨[⟨117,187,[(0,(EV.ptr 0 0)),(9,(EV.ptr 1 0)),(10,(EV.ptr 2 0))],[.it (.code (nav [1,0,1,1,1,1,0,0,0,0] (bodyOf Try.f117))),.it (.code (nav [1,0,1,1,1,1,0,0,0,1] (bodyOf Try.f117))),.it (.inLoop (nav [1,0,1,1,1,1,0,0,0] (bodyOf Try.f117))),.it (.inBlock 4),.it (.code (nav [1,0,1,1,1,1,1] (bodyOf Try.f117))),.it (.inScope (nav [1,0] (bodyOf Try.f117)))],[],Option.none⟩],[(0,(EK.cells 92 [(iv n),(iv pw),(EV.slO 3 12 len true)] true)),(1,(EK.seq 95 (SyC.ints IntKind.u8 [(0),(1),(2),(3),(4),(5),(6),(7),(8),(9),(10),(11)]) true)),(2,EK.seq 95 (.ints .u8 D) true),(3,(EK.seq 95 (SyC.ints IntKind.u8 L) true))],4⟩
noncomputable def sD (n pw:Int) (L D:List Int) (len:Nat):NS:=⟨[⟨117,187,[(0,(EV.ptr 0 0)),(10,(EV.ptr 1 0))],[.it (.code (nav [1,0,1,1,1,1,1,0,0,0] (bodyOf Try.f117))),.it (.code (nav [1,0,1,1,1,1,1,0,0,1] (bodyOf Try.f117))),.it (.inLoop (nav [1,0,1,1,1,1,1,0,0] (bodyOf Try.f117))),.it (.inBlock 6),.it (.inScope (nav [1,0] (bodyOf Try.f117)))],[],Option.none⟩],[(0,EK.cells 92 [iv n,iv pw,.slO 2 12 len true] true),(1,(EK.seq 95 (SyC.ints IntKind.u8 D) true)),(2,EK.seq 95 (.ints .u8 L) true)],3⟩
theorem in_t (n pw:Int) (L e:List Int) (len:Nat) (nn:Bool):RT (st0m 117 [.ptr 0 0,.arr (.ints .u8 e)] (PDel.K0 n pw L len nn) 2)=(bc (bc (bc (bc (Nat.beq (12:Nat) (List.length e)) true false) (bc (Nat.beq (List.length e) (12:Nat)) (bc (bc (Nat.beq (Nat.mul len (12:Nat)) (List.length L)) (bc (Nat.beq (Nat.mul (1:Nat) (12:Nat)) (List.length e)) (bc (Nat.ble (len+(1:Nat)) (65536:Nat)) (bc nn true (bc nn false true)) false) false) false) true false) false) false) true false) (.at (sA (n) (pw) (L++e) (len+(1:Nat)) (IntKind.wrap IntKind.i64 (Int.ofNat (len+(1:Nat))-(1:Int))))) .bad):=by kernel_rfl
theorem a_t (n pw:Int) (L:List Int) (len:Nat) (k:Int):RT (stOf (sA n pw L len k))=(bc (decide ((0:Int)<k)) (bc (bc (bc (bc (bc (decide ((0:Int)≤IntKind.wrap IntKind.i64 (k-(1:Int)))) (Nat.blt (Int.toNat (IntKind.wrap IntKind.i64 (k-(1:Int)))) len) false) true false) (bc (bc (decide (Int.toNat (IntKind.wrap IntKind.i64 (k-(1:Int)))*(12:Nat)+(12:Nat)≤List.length L∧In12 (List.take (12:Nat) (List.drop (Int.toNat (IntKind.wrap IntKind.i64 (k-(1:Int)))*(12:Nat)) L)))) true false) (bc (bc (bc (decide ((0:Int)≤k)) (Nat.blt (Int.toNat k) len) false) true false) (bc (bc (Nat.beq (List.length (invS (List.take (12:Nat) (List.drop (Int.toNat (IntKind.wrap IntKind.i64 (k-(1:Int)))*(12:Nat)) L)) (12:Nat))) (12:Nat)) (Nat.beq (List.length (zerosL (12:Nat))) (12:Nat)) false) true false) false) false) false) (bc (bc (bc (bc (Nat.beq len len) (eqN true true) false) true false) true false) true false) false) (.at (sB (n) (pw) (L) (invS (List.take (12:Nat) (List.drop (Int.toNat (IntKind.wrap IntKind.i64 (k-(1:Int)))*(12:Nat)) L)) (12:Nat)) (len) (k) (Int.toNat k) (false) ((1:Int)))) .bad) (bc (bc (decide ((0:Int)≤n∧n≤(12:Int))) true false) (.at (sC (n) (pw) (L) (pA (Pm.del (Int.toNat n))) (len))) .bad)):=by kernel_rfl
theorem b_t (n pw:Int) (L q:List Int) (len:Nat) (k:Int) (m:Nat) (tk:Bool) (i:Int):RT (stOf (sB n pw L q len k m tk i))=(bc (decide (i<n)) (bc (decide (List.getD L (Nat.add (Nat.mul m (12:Nat)) (Nat.add (0:Nat) (Nat.mul (Int.toNat i) (1:Nat)))) (0:Int)<List.getD L (Nat.add (Nat.mul m (12:Nat)) (Nat.add (0:Nat) (Nat.mul (Int.toNat (IntKind.wrap IntKind.i64 (i-(1:Int)))) (1:Nat)))) (0:Int))) (bc (bc (bc (bc (bc (decide ((0:Int)≤IntKind.wrap IntKind.i64 (i-(1:Int)))) (Nat.blt (Int.toNat (IntKind.wrap IntKind.i64 (i-(1:Int)))) (12:Nat)) false) true false) (bc (bc (Nat.blt (Nat.add (Nat.mul m (12:Nat)) (Nat.add (0:Nat) (Nat.mul (Int.toNat (IntKind.wrap IntKind.i64 (i-(1:Int)))) (1:Nat)))) (List.length L)) true false) (bc (bc (bc (decide ((0:Int)≤i)) (Nat.blt (Int.toNat i) (12:Nat)) false) true false) (bc (bc (Nat.blt (Nat.add (Nat.mul m (12:Nat)) (Nat.add (0:Nat) (Nat.mul (Int.toNat i) (1:Nat)))) (List.length L)) true false) (bc (eqB (decide (List.getD L (Nat.add (Nat.mul m (12:Nat)) (Nat.add (0:Nat) (Nat.mul (Int.toNat i) (1:Nat)))) (0:Int)<List.getD L (Nat.add (Nat.mul m (12:Nat)) (Nat.add (0:Nat) (Nat.mul (Int.toNat (IntKind.wrap IntKind.i64 (i-(1:Int)))) (1:Nat)))) (0:Int))) true) (bc (bc (bc (decide ((0:Int)≤IntKind.wrap IntKind.i64 (i-(1:Int)))) (Nat.blt (Int.toNat (IntKind.wrap IntKind.i64 (i-(1:Int)))) (12:Nat)) false) true false) (bc (bc (Nat.blt (Int.toNat (IntKind.wrap IntKind.i64 (i-(1:Int)))) (List.length q)) true false) (bc (bc (bc (decide ((0:Int)≤i)) (Nat.blt (Int.toNat i) (12:Nat)) false) true false) (bc (bc (Nat.blt (Int.toNat i) (List.length q)) true false) true false) false) false) false) false) false) false) false) false) true false) (bc (decide (List.getD q (Int.toNat (IntKind.wrap IntKind.i64 (i-(1:Int)))) (0:Int)<List.getD q (Int.toNat i) (0:Int))) (bc (bc (bc (bc (bc (decide ((0:Int)≤i)) (Nat.blt (Int.toNat i) (12:Nat)) false) true false) (bc (bc (Nat.blt (Int.toNat i) (List.length q)) true false) (bc (bc (bc (decide ((0:Int)≤IntKind.wrap IntKind.i64 (i-(1:Int)))) (Nat.blt (Int.toNat (IntKind.wrap IntKind.i64 (i-(1:Int)))) (12:Nat)) false) true false) (bc (bc (Nat.blt (Int.toNat (IntKind.wrap IntKind.i64 (i-(1:Int)))) (List.length q)) true false) (bc (bc (bc (decide ((0:Int)≤IntKind.wrap IntKind.i64 (i-(1:Int)))) (Nat.blt (Int.toNat (IntKind.wrap IntKind.i64 (i-(1:Int)))) (12:Nat)) false) true false) (bc (Nat.blt (Int.toNat (IntKind.wrap IntKind.i64 (i-(1:Int)))) (List.length q)) (bc (bc (bc (decide ((0:Int)≤i)) (Nat.blt (Int.toNat i) (12:Nat)) false) true false) (bc (Nat.blt (Int.toNat i) (List.length (List.set q (Int.toNat (IntKind.wrap IntKind.i64 (i-(1:Int)))) (List.getD q (Int.toNat i) (0:Int))))) true false) false) false) false) false) false) false) false) true false) (bc (bc (bc (bc (bc (decide ((0:Int)≤i)) (Nat.blt (Int.toNat i) (12:Nat)) false) true false) (bc (bc (Nat.blt (Nat.add (Nat.mul m (12:Nat)) (Nat.add (0:Nat) (Nat.mul (Int.toNat i) (1:Nat)))) (List.length L)) true false) (bc (bc (bc (decide ((0:Int)≤IntKind.wrap IntKind.i64 (i-(1:Int)))) (Nat.blt (Int.toNat (IntKind.wrap IntKind.i64 (i-(1:Int)))) (12:Nat)) false) true false) (bc (bc (Nat.blt (Nat.add (Nat.mul m (12:Nat)) (Nat.add (0:Nat) (Nat.mul (Int.toNat (IntKind.wrap IntKind.i64 (i-(1:Int)))) (1:Nat)))) (List.length L)) true false) (bc (bc (bc (decide ((0:Int)≤IntKind.wrap IntKind.i64 (i-(1:Int)))) (Nat.blt (Int.toNat (IntKind.wrap IntKind.i64 (i-(1:Int)))) (12:Nat)) false) true false) (bc (Nat.blt (Nat.add (Nat.mul m (12:Nat)) (Nat.add (0:Nat) (Nat.mul (Int.toNat (IntKind.wrap IntKind.i64 (i-(1:Int)))) (1:Nat)))) (List.length L)) (bc (bc (bc (decide ((0:Int)≤i)) (Nat.blt (Int.toNat i) (12:Nat)) false) true false) (bc (Nat.blt (Nat.add (Nat.mul m (12:Nat)) (Nat.add (0:Nat) (Nat.mul (Int.toNat i) (1:Nat)))) (List.length (List.set L (Nat.add (Nat.mul m (12:Nat)) (Nat.add (0:Nat) (Nat.mul (Int.toNat (IntKind.wrap IntKind.i64 (i-(1:Int)))) (1:Nat)))) (List.getD L (Nat.add (Nat.mul m (12:Nat)) (Nat.add (0:Nat) (Nat.mul (Int.toNat i) (1:Nat)))) (0:Int))))) true false) false) false) false) false) false) false) false) true false) (.at (sB (n) (pw) (List.set (List.set L (Nat.add (Nat.mul m (12:Nat)) (Nat.add (0:Nat) (Nat.mul (Int.toNat (IntKind.wrap IntKind.i64 (i-(1:Int)))) (1:Nat)))) (List.getD L (Nat.add (Nat.mul m (12:Nat)) (Nat.add (0:Nat) (Nat.mul (Int.toNat i) (1:Nat)))) (0:Int))) (Nat.add (Nat.mul m (12:Nat)) (Nat.add (0:Nat) (Nat.mul (Int.toNat i) (1:Nat)))) (List.getD L (Nat.add (Nat.mul m (12:Nat)) (Nat.add (0:Nat) (Nat.mul (Int.toNat (IntKind.wrap IntKind.i64 (i-(1:Int)))) (1:Nat)))) (0:Int))) (List.set (List.set q (Int.toNat (IntKind.wrap IntKind.i64 (i-(1:Int)))) (List.getD q (Int.toNat i) (0:Int))) (Int.toNat i) (List.getD q (Int.toNat (IntKind.wrap IntKind.i64 (i-(1:Int)))) (0:Int))) (len) (k) (m) (true) (IntKind.wrap IntKind.i64 ((0:Int)+(1:Int))))) .bad) .bad) (.at (sB (n) (pw) (L) (q) (len) (k) (m) (tk) (IntKind.wrap IntKind.i64 (i+(1:Int)))))) .bad) (bc (bc (bc (bc (bc (decide ((0:Int)≤IntKind.wrap IntKind.i64 (i-(1:Int)))) (Nat.blt (Int.toNat (IntKind.wrap IntKind.i64 (i-(1:Int)))) (12:Nat)) false) true false) (bc (bc (Nat.blt (Nat.add (Nat.mul m (12:Nat)) (Nat.add (0:Nat) (Nat.mul (Int.toNat (IntKind.wrap IntKind.i64 (i-(1:Int)))) (1:Nat)))) (List.length L)) true false) (bc (bc (bc (decide ((0:Int)≤i)) (Nat.blt (Int.toNat i) (12:Nat)) false) true false) (bc (bc (Nat.blt (Nat.add (Nat.mul m (12:Nat)) (Nat.add (0:Nat) (Nat.mul (Int.toNat i) (1:Nat)))) (List.length L)) true false) (bc (eqB (decide (List.getD L (Nat.add (Nat.mul m (12:Nat)) (Nat.add (0:Nat) (Nat.mul (Int.toNat i) (1:Nat)))) (0:Int)<List.getD L (Nat.add (Nat.mul m (12:Nat)) (Nat.add (0:Nat) (Nat.mul (Int.toNat (IntKind.wrap IntKind.i64 (i-(1:Int)))) (1:Nat)))) (0:Int))) false) true false) false) false) false) false) true false) (.at (sB (n) (pw) (L) (q) (len) (k) (m) (tk) (IntKind.wrap IntKind.i64 (i+(1:Int))))) .bad)) (bc (!tk) (bc (bc (decide ((0:Int)≤n∧n≤(12:Int))) true false) (.at (sC (n) (pw) (L) (pA (Pm.del (Int.toNat n))) (len))) .bad) (bc (bc (bc (bc (decide (In12 q)) true false) (bc (bc (bc (decide ((0:Int)≤IntKind.wrap IntKind.i64 (k-(1:Int)))) (Nat.blt (Int.toNat (IntKind.wrap IntKind.i64 (k-(1:Int)))) len) false) true false) (bc (bc (Nat.beq (List.length (invS q (12:Nat))) (12:Nat)) (Nat.ble (Nat.add (Nat.add (Nat.mul (Int.toNat (IntKind.wrap IntKind.i64 (k-(1:Int)))) (12:Nat)) (0:Nat)) (12:Nat)) (List.length L)) false) true false) false) false) (bc (bc (bc (bc (Nat.beq len len) (eqN true true) false) true false) true false) true false) false) (.at (sA (n) (pw) (List.take (Nat.add (Nat.mul (Int.toNat (IntKind.wrap IntKind.i64 (k-(1:Int)))) (12:Nat)) (0:Nat)) (List.drop (0:Nat) L)++invS q (12:Nat)++List.take (List.length L) (List.drop (Nat.add (Nat.add (Nat.mul (Int.toNat (IntKind.wrap IntKind.i64 (k-(1:Int)))) (12:Nat)) (0:Nat)) (List.length (invS q (12:Nat)))) L)) (len) (IntKind.wrap IntKind.i64 (k-(1:Int))))) .bad))):=by kernel_rfl
theorem c_t (n pw:Int) (L D:List Int) (len:Nat):RT (stOf (sC n pw L D len))=(bc (decide ((0:Int)<Int.ofNat len)) (bc (bc (bc (eqB (decide ((0:Int)<Int.ofNat len)) true) (bc (bc (bc (decide ((0:Int)≤IntKind.wrap IntKind.i64 (Int.ofNat len-(1:Int)))) (Nat.blt (Int.toNat (IntKind.wrap IntKind.i64 (Int.ofNat len-(1:Int)))) len) false) true false) (bc (bc (Nat.ble (Nat.add (Nat.add (Nat.mul (Int.toNat (IntKind.wrap IntKind.i64 (Int.ofNat len-(1:Int)))) (12:Nat)) (0:Nat)) (12:Nat)) (List.length L)) true false) (bc (bc (bc (Nat.beq (List.length (List.take (12:Nat) (List.drop (Nat.add (Nat.mul (Int.toNat (IntKind.wrap IntKind.i64 (Int.ofNat len-(1:Int)))) (12:Nat)) (0:Nat)) L))) (12:Nat)) (Nat.beq (List.length [(0:Int),(1:Int),(2:Int),(3:Int),(4:Int),(5:Int),(6:Int),(7:Int),(8:Int),(9:Int),(10:Int),(11:Int)]) (12:Nat)) false) true false) true false) false) false) false) true false) (bc (eqLI (List.take (12:Nat) (List.drop (Nat.add (Nat.mul (Int.toNat (IntKind.wrap IntKind.i64 (Int.ofNat len-(1:Int)))) (12:Nat)) (0:Nat)) L)) [(0:Int),(1:Int),(2:Int),(3:Int),(4:Int),(5:Int),(6:Int),(7:Int),(8:Int),(9:Int),(10:Int),(11:Int)]) (bc (bc (bc (bc (decide ((0:Int)≤IntKind.wrap IntKind.i64 (Int.ofNat len-(1:Int)))) (bc (Nat.ble (Int.toNat (IntKind.wrap IntKind.i64 (Int.ofNat len-(1:Int)))) len) (Nat.beq (Nat.mul len (12:Nat)) (List.length L)) false) false) true false) true false) (.at (sC (n) (pw) (List.take (Int.toNat (IntKind.wrap IntKind.i64 (Int.ofNat len-(1:Int)))*(12:Nat)) L) (D) (Int.toNat (IntKind.wrap IntKind.i64 (Int.ofNat len-(1:Int)))))) .bad) (.at (sD (n) (pw) (L) (D) (len)))) .bad) (bc (bc (bc (eqB (decide ((0:Int)<Int.ofNat len)) false) true false) true false) (.at (sD (n) (pw) (L) (D) (len))) .bad)):=by kernel_rfl
theorem d_t (n pw:Int) (L D:List Int) (len:Nat):RT (stOf (sD n pw L D len))=(bc (decide ((0:Int)<Int.ofNat len)) (bc (bc (bc (eqB (decide ((0:Int)<Int.ofNat len)) true) (bc (bc (Nat.blt (Int.toNat (0:Int)) len) true false) (bc (bc (Nat.ble (Nat.add (Nat.add (Nat.mul (Int.toNat (0:Int)) (12:Nat)) (0:Nat)) (12:Nat)) (List.length L)) true false) (bc (bc (Nat.beq (12:Nat) (List.length D)) true false) (bc (bc (bc (Nat.beq (List.length (List.take (12:Nat) (List.drop (Nat.add (Nat.mul (Int.toNat (0:Int)) (12:Nat)) (0:Nat)) L))) (12:Nat)) (Nat.beq (List.length D) (12:Nat)) false) true false) true false) false) false) false) false) true false) (bc (eqLI (List.take (12:Nat) (List.drop (Nat.add (Nat.mul (Int.toNat (0:Int)) (12:Nat)) (0:Nat)) L)) D) (bc (bc (Nat.ble (Int.toNat (1:Int)) len) (Nat.beq (Nat.mul len (12:Nat)) (List.length L)) false) (.at (sD (n) (IntKind.wrap IntKind.i64 (pw+(1:Int))) (List.drop (Int.toNat (1:Int)*(12:Nat)) L) (D) (len-Int.toNat (1:Int)))) .bad) (.done (EV.tup []) [(0,(EK.cells 92 [(EV.v (Value.int IntKind.i64 (n))),(EV.v (Value.int IntKind.i64 (pw))),(EV.slO 1 12 (len) true)] true)),(1,(EK.seq 95 (SyC.ints IntKind.u8 (L)) true))] 2)) .bad) (bc (bc (bc (eqB (decide ((0:Int)<Int.ofNat len)) false) true false) true false) (.done (EV.tup []) [(0,(EK.cells 92 [(EV.v (Value.int IntKind.i64 (n))),(EV.v (Value.int IntKind.i64 (pw))),(EV.slO 1 12 (len) true)] true)),(1,(EK.seq 95 (SyC.ints IntKind.u8 (L)) true))] 2) .bad)):=by kernel_rfl
end PTim
section
namespace PTim
variable {n:Nat}
theorem step1 {pw:Int} {A B:List (Pm n)} {a b:Pm n} {len:Nat} {k:Int} {tk:Bool} {i:Nat} (hn:n≤12) (hi:0<i∧i<n) (hb:b.beg i) (hf:¬ a.fin i):RT (stOf (sB n pw (encF (A++b::B)) (pA a.inv) len k A.length tk i)) = .at (sB n pw (encF (A++b.L i hi::B)) (pA (a.R i hi).inv) len k A.length true (1:Nat)):=by
 obtain ⟨j,rfl⟩:∃ j,i=j+1:=⟨i-1,by omega⟩;rw [b_t];have w:IntKind.i64.wrap (((j+1:Nat):Int)-1)=(j:Int):=by rw [zah _ (by omega) (by omega)];omega
 have e1:((j:Int)).toNat=j:=rfl;have e2:(((j+1:Nat):Int)).toNat=j+1:=rfl;rw [w,e1,e2];have i1:Nat.add (Nat.mul A.length 12) (Nat.add 0 (Nat.mul j 1))=A.length*12+j:=by show A.length*12+(0+j*1)=_;omega
 have i2:Nat.add (Nat.mul A.length 12) (Nat.add 0 (Nat.mul (j+1) 1))=A.length*12+(j+1):=by show A.length*12+(0+(j+1)*1)=_;omega
 rw [i1,i2,zfl A B b (show j<12 by omega),zfl A B b (show j+1<12 by omega),zbm a.inv (show j<12 by omega),zbm a.inv (show j+1<12 by omega)];have l1:=pA_L b hi hn;have l2:=pA_L a.inv hi hn;rw [show j+1-1=j by omega] at l1 l2;rw [zqw A B b (b.L (j+1) hi) j (j+1) _ _ (by omega) (by omega) l1,l2,← inv_R a hi];have f1:(b.f (j+1):Int)<(b.f j:Int):=by
  unfold Pm.beg at hb;rw [show j+1-1=j by omega] at hb;omega
 have f2:(a.inv.f j:Int)<(a.inv.f (j+1):Int):=by
  have:=(Pm.nfin hi.1).1 hf;rw [show j+1-1=j by omega] at this;show (a.g j:Int)<(a.g (j+1):Int);omega
 have hlen:(encF (A++b::B)).length=A.length*12+12+B.length*12:=by rw [zae,List.length_append,List.length_cons];omega
 have z1:(Int.ofNat 0+1:Int)=((1:Nat):Int):=rfl;rw [List.length_set,List.length_set,hlen,zaw];simp (disch:=omega) only [yS,eqB]
theorem step2 {pw:Int} {A B:List (Pm n)} {a b:Pm n} {len:Nat} {k:Int} {tk:Bool} {i:Nat} (hn:n≤12) (hi:0<i∧i<n) (h:¬ (b.beg i∧¬ a.fin i)):RT (stOf (sB n pw (encF (A++b::B)) (pA a.inv) len k A.length tk i)) = .at (sB n pw (encF (A++b::B)) (pA a.inv) len k A.length tk (i+1:Nat)):=by
 obtain ⟨j,rfl⟩:∃ j,i=j+1:=⟨i-1,by omega⟩;rw [b_t];have w:IntKind.i64.wrap (((j+1:Nat):Int)-1)=(j:Int):=by rw [zah _ (by omega) (by omega)];omega
 have e1:((j:Int)).toNat=j:=rfl;have e2:(((j+1:Nat):Int)).toNat=j+1:=rfl;rw [w,e1,e2];have i1:Nat.add (Nat.mul A.length 12) (Nat.add 0 (Nat.mul j 1))=A.length*12+j:=by show A.length*12+(0+j*1)=_;omega
 have i2:Nat.add (Nat.mul A.length 12) (Nat.add 0 (Nat.mul (j+1) 1))=A.length*12+(j+1):=by show A.length*12+(0+(j+1)*1)=_;omega
 rw [i1,i2,zfl A B b (show j<12 by omega),zfl A B b (show j+1<12 by omega),zbm a.inv (show j<12 by omega),zbm a.inv (show j+1<12 by omega)];have hlen:(encF (A++b::B)).length=A.length*12+12+B.length*12:=by rw [zae,List.length_append,List.length_cons];omega
 rw [List.length_set,List.length_set,hlen,zaw]
 by_cases hb:b.beg (j+1)
 ·have hf:a.fin (j+1):=Classical.byContradiction fun hf=>h ⟨hb,hf⟩;have f1:(b.f (j+1):Int)<(b.f j:Int):=by
   unfold Pm.beg at hb;rw [show j+1-1=j by omega] at hb;omega
  have f2:¬ (a.inv.f j:Int)<(a.inv.f (j+1):Int):=by
   unfold Pm.fin at hf;rw [show j+1-1=j by omega] at hf;show ¬ (a.g j:Int)<(a.g (j+1):Int);omega
  simp (disch:=omega) only [yS,eqB];rfl
 ·have f1:¬ (b.f (j+1):Int)<(b.f j:Int):=by
   unfold Pm.beg at hb;rw [show j+1-1=j by omega] at hb;omega
  simp (disch:=omega) only [yS,eqB];rfl
theorem loopB {pw:Int} {A B:List (Pm n)} {len:Nat} {k:Int} (hn:n≤12):∀ (μ:Nat) (a b:Pm n) (i:Nat) (tk:Bool),a.W*(n+1)+(n-i)≤μ→1≤i→i≤n→(∀ j,0<j→j<i→¬ (b.beg j∧¬ a.fin j)) →
  ∃ a' b' tk',Mvs [a,b] [a',b']∧Lw a' b'∧(tk'=false→tk=false∧a'=a∧b'=b)∧(tk'=true→tk=true∨a'.W<a.W)∧LeadsM Try.prog 1 (stOf (sB n pw (encF (A++b::B)) (pA a.inv) len k A.length tk i)) (stOf (sB n pw (encF (A++b'::B)) (pA a'.inv) len k A.length tk' n))
 | μ,a,b,i,tk,hμ,h1,h2,hj=>by
  by_cases hi:i=n
  ·subst hi;exact ⟨a,b,tk,.refl _,fun j g1 g2 hb=>Classical.byContradiction fun hf=>hj j g1 g2 ⟨hb,hf⟩,fun h=>⟨h,rfl,rfl⟩,fun h=>.inl h,LeadsM.refl _ _⟩
  ·have hin:0<i∧i<n:=⟨h1,by omega⟩
   by_cases hs:b.beg i∧¬ a.fin i
   ·obtain ⟨hb,hf⟩:=hs;have hW:=a.W_R hin hf
    match μ with
    | 0=>omega
    | μ+1=>
     have hm:(a.R i hin).W*(n+1)+(n+1)≤a.W*(n+1):=by rw [← Nat.succ_mul];exact Nat.mul_le_mul_right _ hW
     obtain ⟨a',b',tk',g1,g2,g3,g4,g5⟩:=loopB (pw:=pw) (A:=A) (B:=B) (len:=len) (k:=k) hn μ (a.R i hin) (b.L i hin) 1 true (by omega) (Nat.le_refl _) (by omega) (fun j q1 q2=>by omega);refine ⟨a',b',tk',.step (.here a b [] i hin hb hf) g1,g2,fun h=>absurd (g3 h).1 (by decide),fun h=>.inr ?_,(leadsMZ ct_ok (step1 hn hin hb hf)).trans g5⟩;have hle:a'.W≤(a.R i hin).W:=by
      rcases Bool.eq_false_or_eq_true tk' with e|e
      ·have hmv:∀ {s t:List (Pm n)},Mvs s t→∀ {x y x' y':Pm n},s=[x,y]→t=[x',y']→x'.W≤x.W:=by
        intro s t h
        induction h with
        | refl s=>intro x y x' y' e1 e2;rw [e1] at e2;injection e2 with e2;rw [e2];exact Nat.le_refl _
        | step h1 h2 ih=>
         intro x y x' y' e1 e2;subst e1
         cases h1 with
         | here _ _ _ q hq hb2 hf2=>
          have:=ih rfl e2;have:=x.W_R hq hf2;omega
         | there _ h3=>cases h3 with
          | there _ h4=>cases h4
       exact hmv g1 rfl rfl
      ·exact absurd (g3 e).1 (by decide)
     omega
   ·match μ with
    | 0=>omega
    | μ+1=>
     obtain ⟨a',b',tk',g1,g2,g3,g4,g5⟩:=loopB (pw:=pw) (A:=A) (B:=B) (len:=len) (k:=k) hn μ a b (i+1) tk (by omega) (by omega) (by omega) (fun j q1 q2=>by
      by_cases e:j=i
      ·rw [e];exact hs
      ·exact hj j q1 (by omega))
     exact ⟨a',b',tk',g1,g2,g3,g4,(leadsMZ ct_ok (step2 hn hin hs)).trans g5⟩
theorem pair {pw:Int} {A B:List (Pm n)} {a b:Pm n} {len:Nat} {k:Int} (hn1:1≤n) (hn:n≤12) :
  (nf1 a b=a∧LeadsM Try.prog 1 (stOf (sB n pw (encF (A++b::B)) (pA a.inv) len k A.length false (1:Nat))) (stOf (sB n pw (encF (A++b::B)) (pA a.inv) len k A.length false n))) ∨
  (nf1 a b≠a∧LeadsM Try.prog 1 (stOf (sB n pw (encF (A++b::B)) (pA a.inv) len k A.length false (1:Nat))) (stOf (sB n pw (encF (A++nf2 a b::B)) (pA (nf1 a b).inv) len k A.length true n))):=by
 obtain ⟨a',b',tk',g1,g2,g3,g4,g5⟩:=loopB (pw:=pw) (A:=A) (B:=B) (len:=len) (k:=k) hn _ a b 1 false (Nat.le_refl _) (Nat.le_refl _) hn1 (fun j q1 q2=>by omega);have hN:NF [a,b]=[a',b']:=NF_of g1 (zbb.2 ⟨g2,zba _⟩);have e1:nf1 a b=a':=by unfold nf1;rw [hN];rfl
 have e2:nf2 a b=b':=by unfold nf2;rw [hN];rfl
 cases tk' with
 | false=>
  obtain ⟨_,h1,h2⟩:=g3 rfl;subst h1;subst h2;exact .inl ⟨e1,g5⟩
 | true=>
  rcases g4 rfl with h|h
  ·cases h
  ·right;rw [e1,e2];exact ⟨fun e=>by rw [e] at h;omega,g5⟩
theorem lastB0 {pw:Int} {L q:List Int} {len:Nat} {k:Int} {m:Nat} (hn:n≤12):RT (stOf (sB n pw L q len k m false n)) = .at (sC n pw L (pA (Pm.del n)) len):=by
 rw [b_t,df (show ¬ (n:Int)<n by omega),bc_f];have e1:((n:Int)).toNat=n:=rfl;rw [e1,dt (show 0≤(n:Int)∧(n:Int)≤12 from ⟨by omega,by omega⟩)]
 rfl
theorem lastB1 {pw:Int} {A B:List (Pm n)} {x a':Pm n} {len:Nat} {m:Nat} (hn:n≤12) (hl:len=A.length+1+B.length) (hz:len≤6000):RT (stOf (sB n pw (encF (A++x::B)) (pA a'.inv) len (A.length+1:Nat) m true n)) = .at (sA n pw (encF (A++a'::B)) len A.length):=by
 rw [b_t,df (show ¬ (n:Int)<n by omega),bc_f];have w:IntKind.i64.wrap (((A.length+1:Nat):Int)-1)=(A.length:Int):=by rw [zah _ (by omega) (by omega)];omega
 have e1:((A.length:Int)).toNat=A.length:=rfl;rw [w,e1,dt (In12.pA hn a'.inv),zf2 hn a'.inv,zaw];have e2:Nat.add (Nat.mul A.length 12) 0=A.length*12:=rfl;have e3:Nat.add (A.length*12) 12=(A++[x]).length*12:=by rw [List.length_append,List.length_singleton];show A.length*12+12=_;omega
 rw [e2,e3,List.drop_zero,zje];have hB:encF (A++x::B)=encF ((A++[x])++B):=by rw [List.append_assoc];rfl
 rw [hB,zge,List.take_of_length_le (by rw [zae,zae,List.length_append];omega)];have hd:(pA a'.inv.inv:List Int)=pA a':=zj5 fun _ _=>rfl;have e8:encF A++pA a'++encF B=encF (A++a'::B):=by rw [zb1,za6,List.append_assoc]
 rw [hd,e8];have hlen:(encF ((A++[x])++B)).length=A.length*12+12+B.length*12:=by rw [zae,List.length_append,List.length_append,List.length_singleton];omega
 rw [hlen,List.length_append,List.length_singleton];simp (disch:=omega) only [yS];rfl
theorem stepA {pw:Int} {A B:List (Pm n)} {a b:Pm n} {len:Nat} (hn:n≤12) (hl:len=A.length+2+B.length) (hz:len≤6000):RT (stOf (sA n pw (encF (A++a::b::B)) len (A.length+1:Nat))) = .at (sB n pw (encF ((A++[a])++b::B)) (pA a.inv) len (A.length+1:Nat) (A++[a]).length false (1:Nat)):=by
 rw [a_t];have w:IntKind.i64.wrap (((A.length+1:Nat):Int)-1)=(A.length:Int):=by rw [zah _ (by omega) (by omega)];omega
 have e1:((A.length:Int)).toNat=A.length:=rfl;have e2:(((A.length+1:Nat):Int)).toNat=A.length+1:=rfl;have e3:(A++[a]).length=A.length+1:=by rw [List.length_append];rfl
 rw [w,e1,e2,e3,zdl,zf2 hn,zaw];have hlen:(encF (A++a::b::B)).length=A.length*12+24+B.length*12:=by rw [zae,List.length_append,List.length_cons,List.length_cons];omega
 have hin:A.length*12+12≤(encF (A++a::b::B)).length∧In12 (pA a):=⟨by omega,In12.pA hn a⟩;rw [dt hin];have e6:(zerosL 12).length=12:=rfl;have e7:encF ((A++[a])++b::B)=encF (A++a::b::B):=by rw [List.append_assoc];rfl
 rw [e6,e7];simp (disch:=omega) only [yS]
theorem lastA {pw:Int} {L:List Int} {len:Nat} (hn:n≤12):RT (stOf (sA n pw L len (0:Nat))) = .at (sC n pw L (pA (Pm.del n)) len):=by
 rw [a_t,df (show ¬ (0:Int)<((0:Nat):Int) by omega),bc_f];have e1:((n:Int)).toNat=n:=rfl;rw [e1,dt (show 0≤(n:Int)∧(n:Int)≤12 from ⟨by omega,by omega⟩)]
 rfl
theorem loopA {pw:Int} {len:Nat} (hn1:1≤n) (hn:n≤12) (hz:len≤6000):∀ (r:List (Pm n)) (p:Pm n) (D:List (Pm n)),len=r.length+1+D.length→LeadsM Try.prog 1 (stOf (sA n pw (encF (r.reverse++p::D)) len r.length)) (stOf (sC n pw (encF ((pasR r p).reverse++D)) (pA (Pm.del n)) len))
 | [],p,D,h=>leadsMZ ct_ok (lastA hn)
 | x::r,p,D,h=>by
  rw [List.length_cons] at h;have hA:r.reverse.length=r.length:=List.length_reverse;have h1:=stepA (pw:=pw) (A:=r.reverse) (B:=D) (a:=x) (b:=p) (len:=len) hn (by omega) hz;have e1:(x::r).reverse++p::D=r.reverse++x::p::D:=by rw [List.reverse_cons,List.append_assoc];rfl
  rw [e1];rw [hA] at h1;refine LeadsM.trans (leadsMZ ct_ok h1) ?_;rcases pair (pw:=pw) (A:=r.reverse++[x]) (B:=D) (a:=x) (b:=p) (len:=len) (k:=(r.length+1:Nat)) hn1 hn with ⟨g1,g2⟩|⟨g1,g2⟩
  ·refine g2.trans ?_;unfold pasR;rw [if_pos g1];have e2:(p::x::r).reverse++D=(r.reverse++[x])++p::D:=by rw [List.reverse_cons,List.reverse_cons,List.append_assoc];rfl
   rw [e2];exact leadsMZ ct_ok (lastB0 hn)
  ·refine g2.trans ?_;unfold pasR;rw [if_neg g1];have h2:=lastB1 (pw:=pw) (A:=r.reverse) (B:=nf2 x p::D) (x:=x) (a':=nf1 x p) (len:=len) (m:=(r.reverse++[x]).length) hn (by rw [List.length_cons];omega) hz;rw [hA] at h2;have e3:r.reverse++x::nf2 x p::D=(r.reverse++[x])++nf2 x p::D:=by rw [List.append_assoc];rfl
   rw [e3] at h2;have e4:(nf2 x p::pasR r (nf1 x p)).reverse++D=(pasR r (nf1 x p)).reverse++nf2 x p::D:=by rw [List.reverse_cons,List.append_assoc];rfl
   rw [e4];exact (leadsMZ ct_ok h2).trans (loopA hn1 hn hz r (nf1 x p) (nf2 x p::D) (by rw [List.length_cons];omega))
theorem ofPA (p:Pm n) (hn:n≤12):eqLI (pA p) e12=true↔p=Pm.one n:=by
 rw [zaj,zky n];exact ⟨fun h=>zlx hn h,fun h=>by rw [h]⟩
theorem stepC1 {pw:Int} {F:List (Pm n)} {D:List Int} (hn:n≤12) (hz:F.length≤6000):RT (stOf (sC n pw (encF (F++[Pm.one n])) D (F.length+1))) = .at (sC n pw (encF F) D F.length):=by
 rw [c_t];have w:IntKind.i64.wrap (Int.ofNat (F.length+1)-1)=(F.length:Int):=by
  rw [ofn,zah _ (by omega) (by omega)];omega
 have e1:((F.length:Int)).toNat=F.length:=rfl;have e2:Nat.add (Nat.mul F.length 12) 0=F.length*12:=rfl;rw [w,e1,e2,zdl F [],zje,(ofPA (Pm.one n) hn).2 rfl,zaw];have hlen:(encF (F++[Pm.one n])).length=F.length*12+12:=by rw [zae,List.length_append,List.length_singleton];omega
 have e3:([0,1,2,3,4,5,6,7,8,9,10,11]:List Int).length=12:=rfl;have m12:Nat.mul (F.length+1) 12=F.length*12+12:=by show (F.length+1)*12=_;omega
 rw [hlen,e3,m12];simp (disch:=omega) only [yS,eqB]
theorem stepC2 {pw:Int} {F:List (Pm n)} {D:List Int} {p:Pm n} (hn:n≤12) (hz:F.length≤6000) (hp:p≠Pm.one n):RT (stOf (sC n pw (encF (F++[p])) D (F.length+1))) = .at (sD n pw (encF (F++[p])) D (F.length+1)):=by
 rw [c_t];have w:IntKind.i64.wrap (Int.ofNat (F.length+1)-1)=(F.length:Int):=by
  rw [ofn,zah _ (by omega) (by omega)];omega
 have e1:((F.length:Int)).toNat=F.length:=rfl;have e2:Nat.add (Nat.mul F.length 12) 0=F.length*12:=rfl;have hb:eqLI (pA p) e12=false:=by
  cases h:eqLI (pA p) e12 with
  | false=>rfl
  | true=>exact absurd ((ofPA p hn).1 h) hp
 rw [w,e1,e2,zdl F [],hb,zaw];have hlen:(encF (F++[p])).length=F.length*12+12:=by rw [zae,List.length_append,List.length_singleton];omega
 have e3:([0,1,2,3,4,5,6,7,8,9,10,11]:List Int).length=12:=rfl;rw [hlen,e3];simp (disch:=omega) only [yS,eqB]
theorem stepC0 {pw:Int} {D:List Int}:RT (stOf (sC n pw [] D 0)) = .at (sD n pw [] D 0):=by
 rw [c_t];rfl
theorem loopC {pw:Int} {D:List Int} {T:List (Pm n)} (hn:n≤12) (hT:T=[]∨∃ F p,T=F++[p]∧p≠Pm.one n):∀ r:Nat,T.length+r≤6000→LeadsM Try.prog 1 (stOf (sC n pw (encF (T++List.replicate r (Pm.one n))) D (T.length+r))) (stOf (sD n pw (encF T) D T.length))
 | 0,hr=>by
  rw [List.replicate_zero,List.append_nil];rcases hT with rfl|⟨F,p,rfl,hp⟩
  ·exact leadsMZ ct_ok stepC0
  ·rw [List.length_append,List.length_singleton] at hr ⊢;exact leadsMZ ct_ok (stepC2 hn (by omega) hp)
 | r+1,hr=>by
  rw [List.replicate_succ',← List.append_assoc];have h:=stepC1 (pw:=pw) (F:=T++List.replicate r (Pm.one n)) (D:=D) hn (by rw [List.length_append,List.length_replicate];omega);rw [List.length_append,List.length_replicate] at h;exact (leadsMZ ct_ok h).trans (loopC hn hT r (by omega))
theorem stepD1 {pw:Int} {F:List (Pm n)} (hz:F.length≤6000) (h1:-100000≤pw) (h2:pw≤100000):RT (stOf (sD n pw (encF (Pm.del n::F)) (pA (Pm.del n)) (F.length+1))) = .at (sD n (pw+1) (encF F) (pA (Pm.del n)) F.length):=by
 rw [d_t];have e2:Nat.add (Nat.mul (Int.toNat 0) 12) 0=([]:List (Pm n)).length*12:=rfl;have e3:Int.toNat 1*12=[Pm.del n].length*12:=rfl;have e4:encF (Pm.del n::F)=encF ([]++Pm.del n::F):=rfl;have e5:encF (Pm.del n::F)=encF ([Pm.del n]++F):=rfl;have hlen:(encF (Pm.del n::F)).length=F.length*12+12:=by rw [zae,List.length_cons];omega
 have d1:(encF (Pm.del n::F)).drop ([Pm.del n].length*12)=encF F:=by rw [e5];exact zge _ _
 have t1:((encF (Pm.del n::F)).drop (([]:List (Pm n)).length*12)).take 12=pA (Pm.del n):=by rw [e4];exact zdl _ _ _
 rw [e2,e3,d1,t1,zaw,hlen,zaj.2 rfl];have e6:Int.toNat 1=1:=rfl;have e7:Int.toNat 0=0:=rfl;have e8:([]:List (Pm n)).length*12=0:=rfl;have m12:Nat.mul (F.length+1) 12=F.length*12+12:=by show (F.length+1)*12=_;omega
 rw [e6,e7,e8,Nat.add_sub_cancel,m12];simp (disch:=omega) only [yS,eqB]
noncomputable def K1 (n:Nat) (pw:Int) (F:List (Pm n)):List (Nat×EK):=PDel.K0 n pw (encF F) F.length true
theorem stepD2 {pw:Int} {F:List (Pm n)} (hn:n≤12) (hz:F.length≤6000) (hF:∀ p,p∈F→p≠Pm.del n):RT (stOf (sD n pw (encF F) (pA (Pm.del n)) F.length)) = .done (.tup []) (K1 n pw F) 2:=by
 rw [d_t]
 cases F with
 | nil=>rfl
 | cons p F=>
  have e2:Nat.add (Nat.mul (Int.toNat 0) 12) 0=([]:List (Pm n)).length*12:=rfl;have t1:((encF (p::F)).drop (([]:List (Pm n)).length*12)).take 12=pA p:=zdl [] F p;have hlen:(encF (p::F)).length=F.length*12+12:=by rw [zae,List.length_cons];omega
  have hb:eqLI (pA p) (pA (Pm.del n))=false:=by
   cases h:eqLI (pA p) (pA (Pm.del n)) with
   | false=>rfl
   | true=>exact absurd (zlx hn (zaj.1 h)) (hF p List.mem_cons_self)
  rw [e2,t1,zaw,zaw,hlen,hb];have e7:Int.toNat 0=0:=rfl;have e8:([]:List (Pm n)).length*12=0:=rfl;rw [List.length_cons] at hz;rw [e7,e8,List.length_cons];simp (disch:=omega) only [yS,eqB];rfl
theorem loopD {F:List (Pm n)} (hn:n≤12) (hF:∀ p,p∈F→p≠Pm.del n):∀ (m:Nat) (pw:Int),F.length+m≤6000 → -90000≤pw→pw+m≤90000→EndM 1 117 ct (stOf (sD n pw (encF (List.replicate m (Pm.del n)++F)) (pA (Pm.del n)) (m+F.length))) (.tup []) (K1 n (pw+m) F) 2
 | 0,pw,h,h1,h2=>by
  rw [List.replicate_zero,List.nil_append,Nat.zero_add,show pw+((0:Nat):Int)=pw by omega];exact .done (stepD2 hn (by omega) hF)
 | m+1,pw,h,h1,h2=>by
  have h3:=stepD1 (pw:=pw) (F:=List.replicate m (Pm.del n)++F) (by rw [List.length_append,List.length_replicate];omega) (by omega) (by omega);rw [List.length_append,List.length_replicate,show m+F.length+1=m+1+F.length by omega] at h3;rw [List.replicate_succ,List.cons_append];have h4:=loopD hn hF m (pw+1) (by omega) (by omega) (by omega);rw [show pw+1+(m:Int)=pw+((m+1:Nat):Int) by omega] at h4;exact .at ct_ok h3 h4
theorem ends {pw:Int} {F:List (Pm n)} {p:Pm n} {nn:Bool} (hn2:2≤n) (hn:n≤12) (hN:Nrm F) (hz:F.length≤5000) (hnn:nn=true∨F=[]) (h1:-60000≤pw) (h2:pw≤60000):EndM 1 117 ct (st0m 117 [.ptr 0 0,.arr (.ints .u8 (pA p))] (PDel.K0 n pw (encF F) F.length nn) 2) (.tup []) (K1 n (pw+tmD F p) (tmF F p)) 2:=by
 have h:=in_t n pw (encF F) (pA p) F.length nn;have e1:encF F++pA p=encF (F++[p]):=by rw [zb1,zth]
 rw [e1,zaw,zae,nn_ok] at h;have w:IntKind.i64.wrap (Int.ofNat (F.length+1)-1)=(F.length:Int):=by rw [ofn,zah _ (by omega) (by omega)];omega
 have m1:Nat.mul F.length 12=F.length*12:=rfl;have m2:Nat.mul 1 12=12:=rfl;rw [w,m1,m2] at h;simp (disch:=omega) only [yS] at h;obtain ⟨r,g1,g2,g3⟩:=tm_ok F p;have hl:=congrArg List.length g1
 rw [zuj,List.length_append,List.length_append,List.length_append,List.length_replicate,List.length_replicate,List.length_singleton] at hl;have hP:=loopA (pw:=pw) (len:=F.length+1) (by omega) hn (by omega) F.reverse p [] (by rw [List.length_reverse];rfl);rw [List.reverse_reverse,List.length_reverse,List.append_nil,← zvj hN p,g1,← List.append_assoc] at hP;refine .at ct_ok h (.lead hP ?_);have hT:(List.replicate (tmD F p) (Pm.del n)++tmF F p=[])∨∃ G q,List.replicate (tmD F p) (Pm.del n)++tmF F p=G++[q]∧q≠Pm.one n:=by
  rcases List.eq_nil_or_concat (tmF F p) with e|⟨G,q,e⟩
  ·rw [e,List.append_nil]
   cases hd:tmD F p with
   | zero=>exact .inl rfl
   | succ k=>exact .inr ⟨_,_,List.replicate_succ',zuc hn2⟩
  ·exact .inr ⟨List.replicate (tmD F p) (Pm.del n)++G,q,by rw [e,List.concat_eq_append,List.append_assoc],g2 q (by rw [e];simp)⟩
 have hC:=loopC (pw:=pw) (D:=pA (Pm.del n)) hn hT r (by rw [List.length_append,List.length_replicate];omega);have e2:(List.replicate (tmD F p) (Pm.del n)++tmF F p).length=tmD F p+(tmF F p).length:=by rw [List.length_append,List.length_replicate]
 rw [e2,show tmD F p+(tmF F p).length+r=F.length+1 by omega] at hC;exact .lead hC (loopD hn g3 (tmD F p) pw (by omega) (by omega) (by omega))
end PTim
def TimOk (n pw:Int) (L:List Int) (len:Nat) (nn:Bool) (e:List Int):Prop:=2≤n∧n≤12 ∧ -60000≤pw∧pw≤60000∧∃ (F:List (Pm n.toNat)) (p:Pm n.toNat),L=encF F∧e=pA p∧len=F.length∧len≤5000∧Nrm F∧(nn=true∨F=[])
noncomputable instance (n pw:Int) (L:List Int) (len:Nat) (nn:Bool) (e:List Int):Decidable (TimOk n pw L len nn e):=Classical.propDecidable _
noncomputable def timD (n:Int) (L e:List Int):Nat:=tmD (decF n.toNat L) (decP n.toNat e)
noncomputable def timF (n:Int) (L e:List Int):List (Pm n.toNat):=tmF (decF n.toNat L) (decP n.toNat e)
theorem znb {n pw:Int} {L e:List Int} {len:Nat} {nn:Bool} (h:TimOk n pw L len nn e):EndM 1 117 PTim.ct (st0m 117 [.ptr 0 0,.arr (.ints .u8 e)] (PDel.K0 n pw L len nn) 2) (.tup []) (PDel.K0 n (pw+timD n L e) (encF (timF n L e)) (timF n L e).length true) 2:=by
 obtain ⟨h1,h2,h3,h4,F,p,rfl,rfl,rfl,h5,h6,h7⟩:=h;obtain ⟨n,rfl⟩:=Int.eq_ofNat_of_zero_le (show 0≤n by omega);have hn:n≤12:=by omega
 have e1:decF ((n:Int)).toNat (encF F)=F:=zcy hn F;have e2:decP ((n:Int)).toNat (pA p)=p:=zeo hn p;unfold timD timF;rw [e1,e2];exact PTim.ends (n:=n) (by omega) hn h6 h5 h7 h3 h4
noncomputable def spTim:ZMT:=fun ax K0 m=>match ax,K0 with
 | [.ptr 0 0,.arr (.ints .u8 e)],[(0,.cells 92 [.v (.int .i64 n),.v (.int .i64 pw),.slO 1 12 len nn] v_0),(1,.seq 95 (.ints .u8 L) v_1)]=>bc (Nat.beq m (2)) (some ⟨bc (eqN v_0 (true)) (bc (eqN v_1 (nn)) (decide (TimOk n pw L len nn e)) false) false,.tup [],PDel.K0 n (pw+timD n L e) (encF (timF n L e)) (timF n L e).length true,2,1⟩) none
 | _,_=>none
theorem zsb:ZMtOk Try.prog 117 spTim:=fun γ w0 w us ax K0 m r hs hc hres hax hH=>by
 unfold spTim at hs;split at hs
 case h_2=>cases hs
 rename_i e n pw len nn v_0 L v_1;obtain ⟨hm,rfl⟩:=noN hs;have hm:=Nat.eq_of_beq_eq_true hm;subst hm;have hc_0:bc (eqN v_0 (true)) (bc (eqN v_1 (nn)) (decide (TimOk n pw L len nn e)) false) false=true:=hc;obtain ⟨q_0,hc_1⟩:=bcT hc_0;have p_0:=(zdp q_0).symm;subst p_0;obtain ⟨q_1,hc_2⟩:=bcT hc_1;have p_1:=(zdp q_1).symm;subst p_1;have hc:=of_decide_eq_true hc_2;exact EndM.calls (znb hc) PTim.ct_ok (by kernel_rfl) hres hax hH
end
end Go.Proofs.Ytfffbioafhppiaa.Ev
