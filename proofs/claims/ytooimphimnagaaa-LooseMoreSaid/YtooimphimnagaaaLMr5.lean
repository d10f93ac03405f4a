/- Laid together: Runs over open leaves that fork: one run says what comes of all cases. No program is named. Runs over open leaves to a place, with new numbers there; calls. No program is named. Runs of a call whose arguments lead to memory that it changes: the first k numbers stay what they are. No program is named. The table of functions for the reckoner. What all functions of a seat .. -/
import Derived.Test.YtooimphimnagaaaChecked
import Derived.Test.YtooimphimnagaaaLMr4
set_option linter.unusedSimpArgs false
set_option linter.unusedVariables false
noncomputable section
namespace Go.Proofs.Ytooimphimnagaaa.Ev
section
open Go.RowKit
variable {P:Program} {γ γ':G} {w0:Bs} {w:World} {H H':Tr EK} {n n':Nat} {T:Tr EV} {cs:List Frame} {fid:FuncId} {FT:Tr FI} {tmps:Array Value} {o:Oper} {α:Type}
def opG (s:ES) (ops:Array Oper) (o:Oper) (l:List Oper) (k:List IM) (er:ER):EO:=match setD s.top.T s.top.N o.dst (er.val.getD (.v undef)) with
 | some T'=>.go { s with top:={ s.top with T:=T',todo:=.ops ops l::k },H:=er.H,n:=er.n }
 | none=>.fail
theorem ztu {s:ES} {ops:Array Oper} {l:List Oper} {k:List IM} {i:Nat} {rest:List Nat} {todo:List Item} {ds:List Deferred} {ro:Option Nat} {frs:List Frame} {er:ER}
  (hret:s.top.ret=false) (h1:tmps.size=s.top.N) (h2:TOk γ s.top.T tmps) (hk:All2 (IR γ) k todo) (h4:All2 (DR γ) s.top.dfs ds) (h5:RR γ s.top.round ro) (hfs:All2 (FR γ) s.rest frs) (hH:HR γ w0 s.H s.n w)
  (ho:ops[i]? = some o) (hrest:rest.map (ops[·]?)=l.map some) (hw:Region.wanted o (yielded ops tmps)=true) (hs:SndL P .nil s.top.T o s.H s.n (er.val.getD (.v undef)) er.H er.n) :
  SOk P γ w0 cs fid (lone (fram s.top.fn tmps (.inRegion ops (i::rest)::todo) ds ro) (frs++cs) w) (opG s ops o l k er):=by
 unfold opG;split
 case h_2=>trivial
 rename_i T' hT';obtain ⟨γ',w',x,hle,hH2,hcx,hst⟩:=hs γ w0 w s.top.fn tmps ops i rest todo ds ro (frs++cs) (ROk.none _ _) h2 hH ho hw;obtain ⟨g1,g2⟩:=zcv (h2.mono hle) h1 hT' hcx;exact ⟨γ',_,hle,hst,_,frs,w',rfl,⟨_,_,ds,ro,by simp [fram,hret,modeOf],g2,g1,.cons (.ops ops l rest hrest) (hk.mono fun _ _ h=>h.mono hle),h4.mono fun _ _ h=>h.mono hle,h5.mono hle⟩,hfs.mono fun _ _ h=>h.mono hle,hH2⟩
def flRw (ct:Tr ZCC):Bool:=Option.isSome (ct.get 2)
def rowPart (T:Tr EV) (l:List (Nat×Operand)):Bool:=match l with
 | [(_,x)]=>match exVal T x with
  | some (.slO _ _ _ _)=>true
  | _=>false
 | _=>false
def zMkF (P:Program) (ct:Tr ZCC) (T:Tr EV) (o:Oper) (H:Tr EK) (n:Nat):Option YR:=match o.op with
 | .makeSlice t l c=>bc (flC ct) (zMakeR P T t l c H n) none
 | .call c=>match c.callee with
  | .builtin .append=>bc (flRw ct) (zNapO P T c.args.toList c.argTypes.toList H n) none
  | _=>none
 | .buildSlice t len parts=>bc (flRw ct) (bc (rowPart T parts.toList) (match exBuildSlice P T t len parts H n with
  | some er=>some ⟨true,er⟩
  | none=>none) none) none
 | _=>none
theorem zuk {ct:Tr ZCC} (hT:TOk γ T tmps) (hH:HR γ w0 H n w) {r:YR} (h:zMkF P ct T o H n=some r) (hc:r.c=true):Gives P γ w0 w (execOp (opEval tmps) o) r.er.val r.er.H r.er.n:=by
 unfold zMkF at h;split at h
 case h_4=>cases h
 ·rename_i t l c ho;rw [bc_eq] at h;split at h
  case isFalse=>cases h
  exact zim hT hH ho h hc
 ·rename_i c ho;split at h
  case h_2=>cases h
  rename_i hcal;obtain ⟨callee,args,ats⟩:=c;simp only at hcal h;subst hcal;rw [bc_eq] at h;split at h
  case isFalse=>cases h
  exact zq2 hT hH ho h hc
 ·rename_i t len parts ho;rw [bc_eq] at h;split at h
  case isFalse=>cases h
  rw [bc_eq] at h;split at h
  case isFalse=>cases h
  split at h
  case h_2=>cases h
  rename_i er he;injection h with h;subst h
  exact zdf hT hH ho he
theorem zul {ct:Tr ZCC} {r:YR} (h:zMkF P ct T o H n=some r):notDefer o.op=true:=by
 unfold zMkF at h;split at h
 case h_4=>cases h
 ·rename_i ho;rw [ho];rfl
 ·rename_i ho;split at h
  case h_2=>cases h
  rename_i hcal;rw [ho];unfold notDefer;simp [hcal]
 ·rename_i ho;rw [ho];rfl
def stZ (P:Program) (FT:Tr FI) (ct:Tr ZCC) (T:Tr EV) (o:Oper) (H:Tr EK) (n:Nat):Option YR:=match zToBo P T o H n with
 | some r=>some r
 | none=>match zMkF P ct T o H n with
  | some r=>some r
  | none=>match zMapO P ct T o H n with
  | some r=>some r
  | none=>match qcZ P FT ct [] T o H n with
   | some p=>some ⟨p.1,⟨some p.2,H,n⟩⟩
   | none=>match zCt FT ct T o with
    | some (sp,ax)=>match zCallA sp ax H n with
     | some r=>some ⟨r.1,⟨some r.2.1,r.2.2.1,r.2.2.2⟩⟩
     | none=>none
    | none=>zOwn P T o H n
theorem zw3 (hF:FTok P FT) {ct:Tr ZCC} (hct:ZCtsOk P ct) {r:YR} (h:stZ P FT ct T o H n=some r) (hc:r.c=true):SndL P .nil T o H n (r.er.val.getD (.v undef)) r.er.H r.er.n:=by
 unfold stZ at h;split at h
 ·rename_i r' hr;injection h with h;subst h
  exact zcm (zqy hr) fun γ w0 w tmps hT hH=>zqx hT hH hr hc
 split at h
 ·rename_i r' hr;injection h with h;subst h
  exact zcm (zul hr) fun γ w0 w tmps hT hH=>zuk hT hH hr hc
 split at h
 ·rename_i r' hr;injection h with h;subst h
  exact zcm (zq4 hr) fun γ w0 w tmps hT hH=>zq3 hT hH hr hc
 split at h
 ·rename_i p hp;injection h with h;subst h
  exact (zi4 hF hct hp hc).2.1
 ·split at h
  ·rename_i sp ax hctx;obtain ⟨_,g,k1,k2⟩:=zin hF hct hctx;split at h
   case h_2=>cases h
   rename_i q hq;injection h with h;subst h
   exact k2 fun γ w0 w us hH ha=>ziq k1 hH ha hq hc
  ·have hd:notDefer o.op=true:=by
    have hr:=h;unfold zOwn at hr;split at hr
    all_goals first|(rename_i ho;rw [ho];rfl)|cases hr
   exact zcm hd fun γ w0 w tmps hT hH=>(znm hT hH h hc).2
def zOps (P:Program) (FT:Tr FI) (fid:FuncId) (dr:ES→Nat→Array Oper→List IM→EO) (ct:Tr ZCC) (s:ES) (ops:Array Oper) (o:Oper) (l:List Oper) (k:List IM):Bool×EO:=match exGuard s.top.T ops o with
 | some true=>match stZ P FT ct s.top.T o s.H s.n with
  | some r=>(r.c,opG s ops o l k r.er)
  | none=>(true,exStep P FT fid dr s)
 | _=>(true,exStep P FT fid dr s)
def zMain (P:Program) (FT:Tr FI) (fid:FuncId) (dr:ES→Nat→Array Oper→List IM→EO) (sub:Sub) (ct:Tr ZCC) (ov:List (Nat×Bool)) (s:ES):Bool×EO:=match s.top.ret with
 | false=>match s.top.todo with
  | .ops ops (o::l)::k=>zOps P FT fid dr ct s ops o l k
  | .it (.code (.region _ ops true))::k=>match drP P FT sub ct ov s ops k with
   | some r=>r
   | none=>drZ P FT sub ct ov s ops k (ancs ops.toList []) (llen ops.toList)
  | _=>(true,exStep P FT fid dr s)
 | true=>zRet P FT fid s
theorem zq6 (hm0:P.follows .mixedOrders=true) (hF:FTok P FT) {dr:ES→Nat→Array Oper→List IM→EO} (hdr:DrOk P dr) {sub:Sub} (hsub:LoudOk P sub) {ct:Tr ZCC} (hct:ZCtsOk P ct) {ov:List (Nat×Bool)} {s:ES} {m:Machine} (hm:MR γ w0 cs s m) (hc:(zMain P FT fid dr sub ct ov s).1=true):SOk P γ w0 cs fid m (zMain P FT fid dr sub ct ov s).2:=by
 unfold zMain at hc ⊢;split at hc
 ·rename_i hret;split at hc
  ·rename_i ops o l k htodo;unfold zOps at hc ⊢;split at hc
   ·rename_i hg;split at hc
    ·rename_i r hr;obtain ⟨fr,frs,w,rfl,⟨tmps,todo,ds,ro,rfl,h1,h2,h3,h4,h5⟩,hfs,hH⟩:=hm;rw [htodo] at h3
     cases h3 with
     | @cons _ _ _ todo' hi hk=>
      cases hi with
      | ops _ _ idx hidx=>
       obtain ⟨i,rest,rfl,ho,hrest⟩:=zci hidx;have hfr:(lone { fn:=s.top.fn,tmps:=tmps,todo:=.inRegion ops (i::rest)::todo',defers:=ds,mode:=modeOf s.top.ret,kind:=.normal,roundOf:=ro } (frs++cs) w)=lone (fram s.top.fn tmps (.inRegion ops (i::rest)::todo') ds ro) (frs++cs) w:=by rw [hret];rfl
       rw [hfr];exact ztu hret h1 h2 hk h4 h5 hfs hH ho hrest (zb6 h2 hg) (zw3 hF hct hr hc)
    ·exact zcr hF hdr hm
   ·exact zcr hF hdr hm
  ·rename_i id ops k htodo;obtain ⟨fr,frs,w,rfl,⟨tmps,todo,ds,ro,rfl,h1,h2,h3,h4,h5⟩,hfs,hH⟩:=hm;rw [htodo] at h3
   cases h3 with
   | @cons _ _ _ todo' hi hk=>
    cases hi with
    | it x=>
     have hfr:(lone { fn:=s.top.fn,tmps:=tmps,todo:=.code (.region id ops true)::todo',defers:=ds,mode:=modeOf s.top.ret,kind:=.normal,roundOf:=ro } (frs++cs) w)=lone (fram s.top.fn tmps (.code (.region id ops true)::todo') ds ro) (frs++cs) w:=by rw [hret];rfl
     rw [hfr];split at hc
     ·rename_i r hr;exact zxs hm0 hF hsub hct hret h1 h2 hk h4 h5 hfs hH hr hc
     ·exact zxr hm0 hF hsub hct hret h1 h2 hk h4 h5 hfs hH hc
  ·exact zcr hF hdr hm
 ·rename_i hret;obtain ⟨fr,frs,w,rfl,⟨tmps,todo,ds,ro,rfl,h1,h2,h3,h4,h5⟩,hfs,hH⟩:=hm;have:=zuh (fid:=fid) (cs:=cs) hF hret h1 h2 h3 h4 h5 hfs hH hc;simpa [fram,hret,modeOf] using this
def fixC (d:Nat) (b:Bool) (s:ES):ES:=bc (Nat.ble d 65535) { s with top:={ s.top with T:=s.top.T.put d (some (.v (.bool b))) } } s
def forkC (d:Nat) (s:ES) (κ:ES→α):α:=match s.top.T.get d with
 | some (.v (.bool t))=>Bool.rec (κ (fixC d false s)) (κ (fixC d true s)) t
 | _=>κ s
theorem zp0 {d:Nat} {t:Bool} {s:ES} {m:Machine} (hm:MR γ w0 cs s m) (ht:s.top.T.get d=some (.v (.bool t))):MR γ w0 cs (fixC d t s) m:=by
 unfold fixC;rw [bc_eq];split
 ·rename_i hd;obtain ⟨fr,frs,w,rfl,⟨tmps,todo,ds,ro,rfl,h1,h2,h3,h4,h5⟩,hfs,hH⟩:=hm;refine ⟨_,frs,w,rfl,⟨tmps,todo,ds,ro,rfl,h1,fun sl a hs=>?_,h3,h4,h5⟩,hfs,hH⟩;have hs2:(s.top.T.put d (some (.v (.bool t)))).get sl=some a:=hs;clear hs;rw [Tr.get_put hd] at hs2;split at hs2
  ·rename_i e;subst e;exact h2 _ a (ht.trans hs2)
  ·exact h2 sl a hs2
 ·exact hm
theorem zh8 {d:Nat} {s:ES} {m:Machine} (hm:MR γ w0 cs s m) (κ:ES→α):∃ s',MR γ w0 cs s' m∧forkC d s κ=κ s':=by
 unfold forkC;split
 ·rename_i t ht
  cases t with
  | false=>exact ⟨_,zp0 hm ht,rfl⟩
  | true=>exact ⟨_,zp0 hm ht,rfl⟩
 ·exact ⟨s,hm,rfl⟩
def preCodeC (c:Code) (s:ES) (κ:ES→α):α:=match c with
 | .cond (.tmp d) _ _=>forkC d s κ
 | _=>κ s
def preOpC (ops:Array Oper) (o:Oper) (s:ES) (κ:ES→α):α:=match o.guard with
 | some (j,_)=>match lget ops.toList j with
  | some oj=>match oj.dst with
   | some d=>forkC d s κ
   | none=>κ s
  | none=>κ s
 | none=>match o.op with
  | .pick (.tmp d) _ _=>forkC d s κ
  | _=>κ s
def preC (s:ES) (κ:ES→α):α:=match s.top.todo with
 | .it (.code c)::_=>preCodeC c s κ
 | .ops ops (o::_)::_=>preOpC ops o s κ
 | _=>κ s
theorem zvh {s:ES} {m:Machine} (hm:MR γ w0 cs s m) (κ:ES→α):∃ s',MR γ w0 cs s' m∧preC s κ=κ s':=by
 unfold preC;split
 ·unfold preCodeC;split
  ·exact zh8 hm κ
  ·exact ⟨s,hm,rfl⟩
 ·unfold preOpC;split
  ·split
   ·split
    ·exact zh8 hm κ
    ·exact ⟨s,hm,rfl⟩
   ·exact ⟨s,hm,rfl⟩
  ·split
   ·exact zh8 hm κ
   ·exact ⟨s,hm,rfl⟩
 ·exact ⟨s,hm,rfl⟩
def mainC (r:Bool×EO) (κ:EO→α):α:=Prod.rec (fun c e=>bc c (κ e) (κ .fail)) r
def memG (j:Nat) (l:List Nat):Bool:=List.rec false (fun k _ ih=>bc (Nat.beq k j) true ih) l
def pickG (ops:List Oper) (d:Nat):Nat→Option Nat:=List.rec (fun _=>none) (fun o _ ih i=>match o.dst with
 | some e=>bc (Nat.beq e d) (some i) (ih (Nat.succ i))
 | none=>ih (Nat.succ i)) ops
def guardsOf (all ops:List Oper):List Nat:=List.rec [] (fun o _ ih=>match o.guard with
 | some (j,_)=>bc (memG j ih) ih (j::ih)
 | none=>match o.op with
  | .pick (.tmp d) _ _=>match pickG all d 0 with
   | some j=>bc (memG j ih) ih (j::ih)
   | none=>ih
  | _=>ih) ops
def insN (j:Nat) (l:List Nat):List Nat:=List.rec [j] (fun k t ih=>bc (Nat.ble j k) (j::k::t) (k::ih)) l
def sortN (l:List Nat):List Nat:=List.rec [] (fun j _ ih=>insN j ih) l
def boolAt (P:Program) (FT:Tr FI) (sub:Sub) (ct:Tr ZCC) (s:ES) (ops:Array Oper) (A:List Nat) (m:Nat) (ov:List (Nat×Bool)) (j:Nat):Option (Nat×Bool):=match lget ops.toList j with
 | some oj=>match oj.dst with
  | some d=>match canonF P (frF' P) (lF' P FT sub ct) (qF' P FT ct ov) ops A s.n s.top.N (ops.toList.take (Nat.succ j)) 0 [] [] ⟨s.H,Nat.add s.n m,0⟩ s.top.T [] [] with
   | some c=>match c.T.get d with
    | some (.v (.bool t))=>some (d,t)
    | _=>none
   | none=>none
  | none=>none
 | none=>none
def forkG (P:Program) (FT:Tr FI) (sub:Sub) (ct:Tr ZCC) (s:ES) (ops:Array Oper) (A:List Nat) (m:Nat) (κ:List (Nat×Bool)→α) (G:List Nat):List (Nat×Bool)→α:=List.rec (fun ov=>κ ov) (fun j _ ih ov=>match boolAt P FT sub ct s ops A m ov j with
 | some (d,t)=>Bool.rec (ih (ov++[(d,false)])) (ih (ov++[(d,true)])) t
 | none=>ih ov) G
theorem zfl {sub:Sub} {ct:Tr ZCC} {s:ES} {ops:Array Oper} {A:List Nat} {m:Nat} (κ:List (Nat×Bool)→α):∀ (G:List Nat) (ov:List (Nat×Bool)),∃ ov',forkG P FT sub ct s ops A m κ G ov=κ ov'
 | [],ov=>⟨ov,rfl⟩
 | j::G,ov=>by
  have e:forkG P FT sub ct s ops A m κ (j::G) ov=(match boolAt P FT sub ct s ops A m ov j with
   | some (d,t)=>Bool.rec (forkG P FT sub ct s ops A m κ G (ov++[(d,false)])) (forkG P FT sub ct s ops A m κ G (ov++[(d,true)])) t
   | none=>forkG P FT sub ct s ops A m κ G ov):=rfl
  rw [e];split
  ·rename_i d t ht
   cases t with
   | false=>exact zfl κ G _
   | true=>exact zfl κ G _
  ·exact zfl κ G _
def forkR (P:Program) (FT:Tr FI) (sub:Sub) (ct:Tr ZCC) (s:ES) (κ:List (Nat×Bool)→α):α:=match s.top.todo with
 | .it (.code (.region _ ops true))::_=>forkG P FT sub ct s ops (ancs ops.toList []) (llen ops.toList) κ (sortN (guardsOf ops.toList ops.toList)) []
 | _=>κ []
theorem zsn {sub:Sub} {ct:Tr ZCC} {s:ES} (κ:List (Nat×Bool)→α):∃ ov,forkR P FT sub ct s κ=κ ov:=by
 unfold forkR;split
 ·exact zfl κ _ _
 ·exact ⟨[],rfl⟩
def lookL (d:TypeDesc) (kv:Value) (ok:Bool) (z:Value) (s:ES) (ops:Array Oper) (o:Oper) (l:List Oper) (k:List IM) (κ:EO→α) (es:List (Value×EV)):α:=List.rec (κ (opG s ops o l k ⟨some (bc ok (.v (.tuple #[z,.bool false])) (.v z)),s.H,s.n⟩))
 (fun p _ ih=>Bool.rec ih (κ (opG s ops o l k ⟨some (bc ok (.tup [p.2,.v (.bool true)]) p.2),s.H,s.n⟩)) (kEq d kv p.1)) es
def lookF (P:Program) (s:ES) (dflt:α) (κ:EO→α):α:=match s.top.ret with
 | false=>match s.top.todo with
  | .ops ops (o::l)::k=>match o.op with
   | .lookup t m x ok=>match exGuard s.top.T ops o with
    | some true=>match mpAt s.top.T s.H m with
     | some (_,es)=>match mapOf P t with
      | some (_,e,d)=>match exVal s.top.T x with
       | some (.v kv)=>bc (isKeyB d kv) (bc (keysB d es) (match pureOf P (zeroValue e) with
        | some z=>lookL d kv ok z s ops o l k κ es
        | none=>dflt) dflt) dflt
       | _=>dflt
      | none=>dflt
     | none=>dflt
    | _=>dflt
   | _=>dflt
  | _=>dflt
 | true=>dflt
theorem zl5 {d:TypeDesc} {kv:Value} {ok:Bool} {z:Value} {s:ES} {ops:Array Oper} {l:List Oper} {k:List IM} {κ:EO→α} {es0:List (Value×EV)} {Q:EO→Prop}
  (hA:findE d kv es0=none→Q (opG s ops o l k ⟨some (bc ok (.v (.tuple #[z,.bool false])) (.v z)),s.H,s.n⟩))
  (hF:∀ a,findE d kv es0=some a→Q (opG s ops o l k ⟨some (bc ok (.tup [a,.v (.bool true)]) a),s.H,s.n⟩)) :
  ∀ es,findE d kv es0=findE d kv es→∃ e,lookL d kv ok z s ops o l k κ es=κ e∧Q e
 | [],h=>⟨_,rfl,hA h⟩
 | p::es,h=>by
  have e1:lookL d kv ok z s ops o l k κ (p::es)=Bool.rec (lookL d kv ok z s ops o l k κ es) (κ (opG s ops o l k ⟨some (bc ok (.tup [p.2,.v (.bool true)]) p.2),s.H,s.n⟩)) (kEq d kv p.1):=rfl;have e2:findE d kv (p::es)=bc (kEq d kv p.1) (some p.2) (findE d kv es):=rfl;rw [e2] at h;rw [e1]
  cases hk:kEq d kv p.1 with
  | false=>
   rw [hk] at h;exact zl5 hA hF es h
  | true=>
   rw [hk] at h;exact ⟨_,rfl,hF _ h⟩
theorem zsf {s:ES} {m:Machine} (hm:MR γ w0 cs s m) (dflt:α) (κ:EO→α):lookF P s dflt κ=dflt∨∃ e,lookF P s dflt κ=κ e∧SOk P γ w0 cs fid m e:=by
 unfold lookF;split
 case h_2=>exact .inl rfl
 rename_i hret;split
 case h_2=>exact .inl rfl
 rename_i ops o l k htodo;split
 case h_2=>exact .inl rfl
 rename_i t mp x ok ho;split
 case h_2=>exact .inl rfl
 rename_i hg;split
 case h_2=>exact .inl rfl
 rename_i i es hmp;split
 case h_2=>exact .inl rfl
 rename_i kt e d hmo;split
 case h_2=>exact .inl rfl
 rename_i kv hx;rw [bc_eq];split
 case isFalse=>exact .inl rfl
 rename_i h1;rw [bc_eq];split
 case isFalse=>exact .inl rfl
 rename_i h2;split
 case h_2=>exact .inl rfl
 rename_i z hz;right;have hd:notDefer o.op=true:=by rw [ho];rfl
 have key:∀ a,exLookup P s.top.T t mp x ok s.H=some a→SOk P γ w0 cs fid m (opG s ops o l k ⟨some a,s.H,s.n⟩):=fun a ha=>by
  obtain ⟨fr,frs,w,rfl,⟨tmps,todo,ds,ro,rfl,g1,g2,g3,g4,g5⟩,hfs,hH⟩:=hm;rw [htodo] at g3
  cases g3 with
  | @cons _ _ _ todo' hi hk=>
   cases hi with
   | ops _ _ idx hidx=>
    obtain ⟨i,rest,rfl,ho',hrest⟩:=zci hidx;have hfr:(lone { fn:=s.top.fn,tmps:=tmps,todo:=.inRegion ops (i::rest)::todo',defers:=ds,mode:=modeOf s.top.ret,kind:=.normal,roundOf:=ro } (frs++cs) w)=lone (fram s.top.fn tmps (.inRegion ops (i::rest)::todo') ds ro) (frs++cs) w:=by rw [hret];rfl
    rw [hfr];exact ztu (er:=⟨some a,s.H,s.n⟩) hret g1 g2 hk g4 g5 hfs hH ho' hrest (zb6 g2 hg) (ziy hd fun γ w0 w tmps hT hH=>zgh hT hH ho ha)
 refine zl5 (Q:=fun e=>SOk P γ w0 cs fid m e) (fun hn=>key _ ?_) (fun a hn=>key _ ?_) es rfl
 ·unfold exLookup;simp only [hmp,hmo,hx,bc_eq,h1,h2,hn,hz,if_true]
 ·unfold exLookup;simp only [hmp,hmo,hx,bc_eq,h1,h2,hn,if_true]
def stepZ (P:Program) (FT:Tr FI) (fid:FuncId) (dr:ES→Nat→Array Oper→List IM→EO) (sub:Sub) (ct:Tr ZCC) (s:ES) (κ:EO→α):α:=preC s (fun s'=>lookF P s' (forkR P FT sub ct s' (fun ov=>mainC (zMain P FT fid dr sub ct ov s') κ)) κ)
theorem zff (hm0:P.follows .mixedOrders=true) (hF:FTok P FT) {dr:ES→Nat→Array Oper→List IM→EO} (hdr:DrOk P dr) {sub:Sub} (hsub:LoudOk P sub) {ct:Tr ZCC} (hct:ZCtsOk P ct) {s:ES} {m:Machine} (hm:MR γ w0 cs s m) (κ:EO→α):∃ e,stepZ P FT fid dr sub ct s κ=κ e∧SOk P γ w0 cs fid m e:=by
 unfold stepZ;obtain ⟨s',hm',e1⟩:=zvh hm (fun s'=>lookF P s' (forkR P FT sub ct s' (fun ov=>mainC (zMain P FT fid dr sub ct ov s') κ)) κ);rw [e1];rcases zsf (P:=P) (fid:=fid) hm' (forkR P FT sub ct s' (fun ov=>mainC (zMain P FT fid dr sub ct ov s') κ)) κ with e0|⟨e,e0,h0⟩
 rotate_left
 ·exact ⟨e,e0,h0⟩
 rw [e0];obtain ⟨ov,e2⟩:=zsn (P:=P) (FT:=FT) (sub:=sub) (ct:=ct) (s:=s') (fun ov=>mainC (zMain P FT fid dr sub ct ov s') κ);rw [e2]
 cases hy:zMain P FT fid dr sub ct ov s' with
 | mk c e=>
  show ∃ e',bc c (κ e) (κ .fail)=κ e'∧_
  cases c with
  | false=>exact ⟨.fail,rfl,trivial⟩
  | true=>
   refine ⟨e,rfl,?_⟩;have:=zq6 (fid:=fid) (ov:=ov) hm0 hF hdr hsub hct hm' (by rw [hy]);rw [hy] at this;exact this
def runZ (st:ES→(EO→α)→α) (p:ES→Bool) (κ:EO→α) (k:Nat):ES→α:=Nat.rec (fun _=>κ .fail) (fun _ ih s=>st s (fun e=>EO.rec (fun s'=>Bool.rec (ih s') (κ (.go s')) (p s')) (fun a H n=>κ (.done a H n)) (fun b H n=>κ (.doneR b H n)) (κ .fail) e)) k
theorem zfu {st:ES→(EO→α)→α} {p:ES→Bool} {κ:EO→α} (hst:∀ (γ:G) (s:ES) (m:Machine) (κ':EO→α),MR γ w0 cs s m→∃ e,st s κ'=κ' e∧SOk P γ w0 cs fid m e) :
  ∀ (k:Nat) (γ:G) (s:ES) (m:Machine),MR γ w0 cs s m→∃ e,runZ st p κ k s=κ e∧SOk P γ w0 cs fid m e
 | 0,γ,s,m,_=>⟨.fail,rfl,trivial⟩
 | k+1,γ,s,m,hm=>by
  obtain ⟨e,h1,h2⟩:=hst γ s m (fun e=>EO.rec (fun s'=>Bool.rec (runZ st p κ k s') (κ (.go s')) (p s')) (fun a H n=>κ (.done a H n)) (fun b H n=>κ (.doneR b H n)) (κ .fail) e) hm;have fin:∃ e',(EO.rec (fun s'=>Bool.rec (runZ st p κ k s') (κ (.go s')) (p s')) (fun a H n=>κ (.done a H n)) (fun b H n=>κ (.doneR b H n)) (κ .fail) e:α)=κ e'∧SOk P γ w0 cs fid m e':=by
   cases e with
   | go s'=>
    show ∃ e',(Bool.rec (runZ st p κ k s') (κ (.go s')) (p s'):α)=κ e'∧_
    cases hp:p s' with
    | true=>exact ⟨.go s',rfl,h2⟩
    | false=>
     obtain ⟨γ',m',hle,hs,hm'⟩:=h2;obtain ⟨e2,q1,q2⟩:=zfu hst k γ' s' m' hm';exact ⟨e2,q1,SOk.trans hle hs q2⟩
   | done a H n=>exact ⟨_,rfl,h2⟩
   | doneR b H n=>exact ⟨_,rfl,h2⟩
   | fail=>exact ⟨_,rfl,h2⟩
  obtain ⟨e',q1,q2⟩:=fin;exact ⟨e',h1.trans q1,q2⟩
def atS (d f id:Nat) (s:ES):Bool:=bc (Nat.beq (llen s.rest) d) (bc (Nat.beq s.top.fn f) (match s.top.todo with
 | .it (.code (.seq (.region i _ _) _))::_=>Nat.beq i id
 | _=>false) false) false
end
section
open Go.RowKit
variable {P:Program} {γ γ':G} {w0:Bs} {w:World} {H H':Tr EK} {n n':Nat} {T:Tr EV} {cs:List Frame} {fid:FuncId} {FT:Tr FI} {tmps:Array Value} {o:Oper} {α:Type}
theorem zpc {ρ:List (Nat×Nat)} {N:Nat} (hρ:okN ρ N=true) {l:SL} {f:EF} {a:FS} {fr:Frame} (h:normFR ρ l f=some a) (hf:FR γ f fr):FR (γ.ren ρ) (frOf a) fr:=by
 unfold normFR at h;split at h
 case h_2=>cases h
 rename_i hret;split at h
 case h_2=>cases h
 rename_i ds' hds;split at h
 case h_2=>cases h
 rename_i ro' hro;split at h
 case h_2=>cases h
 rename_i td htd;split at h
 case h_2=>cases h
 rename_i T hT;injection h with h;subst h
 obtain ⟨tmps,todo,ds,ro,rfl,h1,h2,h3,h4,h5⟩:=hf;refine ⟨tmps,todo,ds,ro,by rw [hret];rfl,h1,fun sl a hs=>?_,zkj (R:=IR γ) (S:=IR (γ.ren ρ)) (fun _ _ _ h1 h2=>zvf hρ h1 h2) htd h3,zkj (R:=DR γ) (S:=DR (γ.ren ρ)) (fun _ _ _ h1 h2=>zvg hρ h1 h2) hds h4,zvd hρ hro h5⟩;obtain ⟨c,a0,q1,q2⟩:=zht hT sl a (zdy hs);obtain ⟨x,hx,hc⟩:=h2 sl a0 q1;exact ⟨x,hx,zo3 hρ q2 hc⟩
theorem zez {ρ:List (Nat×Nat)} {N:Nat} (hρ:okN ρ N=true):∀ {ls:List SL} {l:List EF} {r:List FS} {frs:List Frame},normFsR ρ ls l=some r→All2 (FR γ) l frs→All2 (FR (γ.ren ρ)) (frsOf r) frs
 | [],[],r,frs,h,hf=>by
  have h':some []=some r:=h;injection h' with h';subst h'
  cases hf;exact .nil
 | [],f::l,r,frs,h,_=>by exact absurd (show (none:Option (List FS))=some r from h) (by simp)
 | q::ls,[],r,frs,h,_=>by exact absurd (show (none:Option (List FS))=some r from h) (by simp)
 | q::ls,f::l,r,frs,h,hf=>by
  have h':(match normFR ρ q f with
   | some a=>match normFsR ρ ls l with
    | some r=>some (a::r)
    | none=>none
   | none=>none)=some r:=h
  split at h'
  case h_2=>cases h'
  rename_i a ha;split at h'
  case h_2=>cases h'
  rename_i r' hr';injection h' with h';subst h'
  cases hf with
  | cons h1 h2=>exact .cons (zpc hρ ha h1) (zez hρ hr' h2)
theorem HR.ren (hH:HR γ w0 H n w) (hres:∀ i,¬ w0.res i) {ρ keep:List (Nat×Nat)} {nils:List (Nat×TypeId×SyC)} {N:Nat} {lk:List Nat} {K:List (Nat×EK)} (hρ:okN ρ N=true) (hkeep:allL (fun p=>isSomeN (lookN ρ p.1) p.2) keep=true) (hnil:allL (fun p=>isNilS p.2.2) nils=true) (hK:pickK ρ H lk keep=some K) {K2:List (Nat×EK)} (hK2:∀ x,x∈K2→x∈nilsK nils++K):HR (γ.ren ρ) w0 (mkT K2) N w:=by
 have get:∀ j k,(mkT K2).get j=some k→(k.Nil∧k.nestB=false)∨∃ i k0,lookN ρ i=some j∧H.get i=some k0∧renK ρ lk k0=some k:=fun j k hk=>by
  rcases List.mem_append.1 (hK2 _ (zdy hk)) with hm|hm
  ·left;unfold nilsK at hm;obtain ⟨p,hp,e⟩:=List.mem_map.1 hm;injection e with e1 e2;subst e2
   exact ⟨⟨rfl,zjf (zam hnil p hp)⟩,rfl⟩
  ·right;obtain ⟨i,k0,q1,q2,q3⟩:=zlu hK j k hm;exact ⟨i,k0,zbm (zam hkeep (i,j) q1),q2,q3⟩
 refine ⟨fun j k hk=>?_,fun j1 j2 k1 k2 hj1 hj2 n1 n2 hne b1 b2 e1 e2=>?_,fun j hj=>?_,fun i hi=>absurd hi (hres i),fun j p e=>?_,hH.stays,⟨fun k a hk=>?_,hH.fzk.base,fun j v q p e=>G.ren_rw hH.fzk.nst.rwg e,fun j me ty sh rows v ho nn e=>?_,fun j me ty sh rows v ho nn e j1 f sh' hj1 hf hh k m hk=>?_⟩⟩
 ·rcases get j k hk with h5|⟨i,k0,q1,q2,q3⟩
  ·exact .inl h5.1
  ·rcases hH.hp0 i k0 q2 with h6|⟨b,m2,e1,e2,e3⟩
   ·exact .inl ((zea q3).2 h6)
   ·exact .inr ⟨b,m2,by rw [G.ren_look hρ q1];exact e1,e2,zve hρ q3 e3⟩
 ·rcases get j1 k1 hj1 with h5|⟨i1,k01,q1,q2,q3⟩
  ·exact absurd h5.1 n1
  rcases get j2 k2 hj2 with h6|⟨i2,k02,q4,q5,q6⟩
  ·exact absurd h6.1 n2
  rw [G.ren_look hρ q1] at e1;rw [G.ren_look hρ q4] at e2;have hne2:i1≠i2:=fun e=>by
   subst e;rw [q1] at q4;injection q4 with q4;exact hne q4
  exact hH.inj0 i1 i2 k01 k02 q2 q5 (fun e=>n1 ((zea q3).2 e)) (fun e=>n2 ((zea q6).2 e)) hne2 b1 b2 e1 e2
 ·show (invN ρ j).bind γ=none
  cases hi:invN ρ j with
  | none=>rfl
  | some i=>
   have:=(zgy hρ (zdo hi)).2.2;omega
 ·obtain ⟨i,_,q2⟩:=G.ren_some e;exact hH.lt i p q2
 ·obtain ⟨g1,g2,g3⟩:=hH.fzk.at' k a hk;refine ⟨g1,g2,fun j kj b m hj nj ej=>?_⟩;rcases get j kj hj with h5|⟨i1,k01,q1,q2,q3⟩
  ·exact absurd h5.1 nj
  rw [G.ren_look hρ q1] at ej;exact g3 i1 k01 b m q2 (fun e=>nj ((zea q3).2 e)) ej
 ·rcases get j _ e with h5|⟨i1,k01,q1,q2,q3⟩
  ·cases h5.2
  obtain ⟨me0,rfl,q4⟩:=zfy q3;obtain ⟨q5,q6⟩:=hH.fzk.nst.me i1 me0 ty sh rows v ho nn q2;subst q5;rw [q1] at q4;injection q4 with q4
  exact ⟨q4.symm,fun v' q hv=>(G.ren_rwL hρ q1 v' q).trans (q6 v' q hv)⟩
 ·rcases get j _ e with h5|⟨i1,k01,q1,q2,q3⟩
  ·cases h5.2
  obtain ⟨me0,rfl,_⟩:=zfy q3;obtain ⟨g1,g2,g3,g4,arr,ty3,g5,g6,g7⟩:=hH.fzk.nst.at' i1 me0 ty sh rows v ho nn q2 j1 f sh' hj1 hf hh k m ((G.ren_rwL hρ q1 _ _).symm.trans hk);refine ⟨g1,g2,fun j' kj b m' hj nj ej=>?_,fun j2 me2 ty2 sh2 rows2 v2 ho2 nn2 e2 j3 f2 s2 hj2 hf2 hh2 m2 hk2=>?_,arr,ty3,g5,g6,fun a g s ha hs=>let ⟨x,hx,hc⟩:=g7 a g s ha hs;⟨x,hx,ev_fz hc fun _ _ h=>h⟩⟩
  ·rcases get j' kj hj with h5|⟨i2,k02,r1,r2,r3⟩
   ·exact absurd h5.1 nj
   rw [G.ren_look hρ r1] at ej;exact g3 i2 k02 b m' r2 (fun e=>nj ((zea r3).2 e)) ej
  ·rcases get j2 _ e2 with h5|⟨i2,k02,r1,r2,r3⟩
   ·cases h5.2
   obtain ⟨me3,rfl,_⟩:=zfy r3;obtain ⟨y1,y2,y3⟩:=g4 i2 me3 ty2 sh2 rows2 v2 ho2 nn2 r2 j3 f2 s2 hj2 hf2 hh2 m2 ((G.ren_rwL hρ r1 _ _).symm.trans hk2);subst y1;rw [q1] at r1;injection r1 with r1
   exact ⟨r1.symm,y2,y3⟩
def LeadsZ (P:Program) (s s':ES):Prop:=∀ (γ:G) (w0:Bs) (cs:List Frame) (m:Machine),(∀ i,¬ w0.res i)→MR γ w0 cs s m→∃ γ' m',Steps P m m'∧MR γ' w0 cs s' m'
theorem LeadsZ.trans {a b c:ES} (h:LeadsZ P a b) (k:LeadsZ P b c):LeadsZ P a c:=fun γ w0 cs m hr hm=>by
 obtain ⟨γ1,m1,h1,h3⟩:=h γ w0 cs m hr hm;obtain ⟨γ2,m2,k1,k3⟩:=k γ1 w0 cs m1 hr h3;exact ⟨γ2,m2,h1.trans k1,k3⟩
theorem LeadsZ.refl (a:ES):LeadsZ P a a:=fun γ _ _ m _ hm=>⟨γ,m,Steps.refl P _,hm⟩
theorem zpq {s:ES} {lk:List Nat} {r:NS} {f:FuncId}
  (h:∀ (γ:G) (w0:Bs) (cs:List Frame) (m:Machine),MR γ w0 cs s m→∃ e ls ρ keep nils N,normR lk ls ρ keep nils N e=some r∧SOk P γ w0 cs f m e):LeadsZ P s (stOf r):=fun γ w0 cs m hres hm=>by
 obtain ⟨e,ls,ρ,keep,nils,N,h,this⟩:=h γ w0 cs m hm;unfold normR at h;split at h
 case h_2=>cases h
 rename_i s';obtain ⟨γ',m',h1,h2,h3⟩:=this;split at h
 case h_2=>cases h
 rename_i l hl;split at h
 case h_2=>cases h
 rename_i K hK;rw [bc_eq] at h;split at h
 case isFalse=>cases h
 rename_i hρ;rw [bc_eq] at h;split at h
 case isFalse=>cases h
 rename_i hkeep;rw [bc_eq] at h;split at h
 case isFalse=>cases h
 rename_i hnil;injection h with h;subst h
 obtain ⟨fr,frs,w,rfl,g1,hfs,hH⟩:=h3;have g3:=zez hρ hl (.cons g1 hfs);have hHn:=hH.ren hres hρ hkeep hnil hK (K2:=sortK (nilsK nils++K)) (fun _=>zc8)
 cases l with
 | nil=>have g3:All2 (FR (γ'.ren ρ)) [] (fr::frs):=g3;cases g3
 | cons f l=>
  have g3:All2 (FR (γ'.ren ρ)) (frOf f::frsOf l) (fr::frs):=g3
  cases g3 with
  | cons e1 e2=>exact ⟨γ'.ren ρ,_,h2,fr,frs,w,rfl,e1,e2,hHn⟩
inductive ZF where
 | at (r:NS)
 | done (a:EV) (K:List (Nat×EK)) (n:Nat)
 | bad
def doneO (q:NN) (a:EV) (H:Tr EK):ZF:=match renE q.ρ 8 a with
 | some a'=>match pickK q.ρ H [] (keepN H q.ρ) with
  | some K=>bc (okN q.ρ q.N) (bc (allL (fun p=>isSomeN (lookN q.ρ p.1) p.2) (keepN H q.ρ)) (.done a' K q.N) .bad) .bad
  | none=>.bad
 | none=>.bad
def doneD (a:EV) (H:Tr EK):ZF:=match frzE 8 a H with
 | some (c,a',_)=>bc c (.done a' [] 0) .bad
 | none=>.bad
def doneZ (own:Bool) (a:EV) (H:Tr EK):ZF:=bc own (doneO (addL (numsE 6 a) ⟨[],[],0⟩) a H) (doneD a H)
theorem zs6 {own:Bool} {a:EV} {r:NS} (h:doneZ own a H = .at r):False:=by
 unfold doneZ at h;rw [bc_eq] at h;split at h
 ·unfold doneO at h;split at h
  ·split at h
   ·rw [bc_eq] at h;split at h
    ·rw [bc_eq] at h;split at h <;> cases h
    ·cases h
   ·cases h
  ·cases h
 ·unfold doneD at h;split at h
  ·rw [bc_eq] at h;split at h <;> cases h
  ·cases h
def endZ (lk:List Nat) (ls:List SZ) (own:Bool) (e:EO):ZF:=match e with
 | .done a H n=>doneZ own a H
 | .go s=>match normZ lk ls (.go (nilS ls s)) with
  | some r=>.at r
  | none=>.bad
 | _=>.bad
abbrev PLs:=List ((ES→Bool)×List SZ)
def lsAt (ps:PLs) (s:ES):List SZ:=List.rec [] (fun q _ ih=>bc (q.1 s) q.2 ih) ps
def atPs (ps:PLs) (s:ES):Bool:=List.rec false (fun q _ ih=>bc (q.1 s) true ih) ps
def endP (lk:List Nat) (ps:PLs) (own:Bool) (e:EO):ZF:=match e with
 | .go s=>endZ lk (lsAt ps s) own (.go s)
 | .done a H n=>endZ lk [] own (.done a H n)
 | _=>.bad
theorem zqh {lk:List Nat} {ps:PLs} {own:Bool} (e:EO):∃ ls,endP lk ps own e=endZ lk ls own e:=by
 cases e with
 | go s=>exact ⟨_,rfl⟩
 | done a H n=>exact ⟨[],rfl⟩
 | _=>exact ⟨[],rfl⟩
theorem zs5 {own:Bool} {a:EV} {a':EV} {K:List (Nat×EK)} {N:Nat} (h:doneZ own a H = .done a' K N) (hH:HR γ w0 H n w) (hres:∀ i,¬ w0.res i) {x:Value} (ha:EC γ a x):∃ γ',EC γ' a' x∧HR γ' w0 (mkT K) N w:=by
 unfold doneZ at h;rw [bc_eq] at h;split at h
 ·unfold doneO at h;split at h
  case h_2=>cases h
  rename_i a2 ha2;split at h
  case h_2=>cases h
  rename_i K2 hK;rw [bc_eq] at h;split at h
  case isFalse=>cases h
  rename_i hρ;rw [bc_eq] at h;split at h
  case isFalse=>cases h
  rename_i hkeep;injection h with e1 e2 e3
  subst e1;subst e2;subst e3;exact ⟨_,EC.ren hρ ha2 ha,hH.ren (nils:=[]) hres hρ hkeep rfl hK (fun _ h=>h)⟩
 ·unfold doneD at h;split at h
  case h_2=>cases h
  rename_i c a2 H2 hf;rw [bc_eq] at h;split at h
  case isFalse=>cases h
  rename_i hc;injection h with e1 e2 e3
  subst e1;subst e2;subst e3;obtain ⟨γ',g1,g2,g3⟩:=zc3 hH ha hf hc;have hd:HR (γ'.ren []) w0 (mkT ([]++[])) 0 w:=g2.ren (ρ:=[]) (keep:=[]) (nils:=[]) (lk:=[]) hres rfl rfl rfl rfl (fun _ h=>h);have hdata:dataB 8 a2=true:=by
   have key:∀ (k:Nat),(∀ (a:EV) (H:Tr EK) (c:Bool) (a':EV) (H':Tr EK),frzE k a H=some (c,a',H')→dataB k a'=true)∧∀ (l:List EV) (H:Tr EK) (c:Bool) (l':List EV) (H':Tr EK),frzL (frzE k) l H=some (c,l',H')→allL (dataB k) l'=true:=fun k=>by
    induction k with
    | zero=>
     have h0:∀ (a:EV) (H:Tr EK) (c:Bool) (a':EV) (H':Tr EK),frzE 0 a H=some (c,a',H')→dataB 0 a'=true:=fun a H c a' H' h=>by cases h
     refine ⟨h0,fun l=>?_⟩
     induction l with
     | nil=>intro H c l' H' h;have h':some (true,[],H)=some (c,l',H'):=h;simp only [Option.some.injEq,Prod.mk.injEq] at h';obtain ⟨_,rfl,_⟩:=h';rfl
     | cons b l ih=>intro H c l' H' h;cases (show (match (none:Option (Bool×EV×Tr EK)) with
       | some (c,a',H')=>match frzL (frzE 0) l H' with
        | some (c2,l',H2)=>some (bc c c2 false,a'::l',H2)
        | none=>none
       | none=>none)=some (c,l',H') from h)
    | succ k ih=>
     have h1:∀ (a:EV) (H:Tr EK) (c:Bool) (a':EV) (H':Tr EK),frzE (k+1) a H=some (c,a',H')→dataB (k+1) a'=true:=fun a H c a' H' h=>by
      cases a with
      | v x=>have h':some (true,EV.v x,H)=some (c,a',H'):=h;simp only [Option.some.injEq,Prod.mk.injEq] at h';obtain ⟨_,rfl,_⟩:=h';rfl
      | lst x=>have h':some (true,EV.lst x,H)=some (c,a',H'):=h;simp only [Option.some.injEq,Prod.mk.injEq] at h';obtain ⟨_,rfl,_⟩:=h';rfl
      | arr x=>have h':some (true,EV.arr x,H)=some (c,a',H'):=h;simp only [Option.some.injEq,Prod.mk.injEq] at h';obtain ⟨_,rfl,_⟩:=h';rfl
      | lp x j f=>have h':some (true,EV.lp x j f,H)=some (c,a',H'):=h;simp only [Option.some.injEq,Prod.mk.injEq] at h';obtain ⟨_,rfl,_⟩:=h';rfl
      | ptrE i z j f=>
       obtain ⟨c0,rfl⟩:=zvz (show frzP i z j f H=some (c,a',H') from h);rfl
      | slO i z len nn=>
       obtain ⟨c0,rfl⟩:=zl9 (show frzS i z len H=some (c,a',H') from h);rfl
      | sl i z off len cap=>
       cases cap with
       | some q=>cases h
       | none=>
       cases off with
       | succ q=>cases h
       | zero=>
       obtain ⟨c0,rfl⟩:=zl9 (show frzS i z len H=some (c,a',H') from h);rfl
      | agg l=>
       have h':(match frzL (frzE k) l H with
        | some (c,l',H')=>some (c,EV.agg l',H')
        | none=>none)=some (c,a',H'):=h
       split at h'
       case h_2=>cases h'
       rename_i e1;simp only [Option.some.injEq,Prod.mk.injEq] at h';obtain ⟨_,rfl,_⟩:=h';exact ih.2 _ _ _ _ _ e1
      | tup l=>
       have h':(match frzL (frzE k) l H with
        | some (c,l',H')=>some (c,EV.tup l',H')
        | none=>none)=some (c,a',H'):=h
       split at h'
       case h_2=>cases h'
       rename_i e1;simp only [Option.some.injEq,Prod.mk.injEq] at h';obtain ⟨_,rfl,_⟩:=h';exact ih.2 _ _ _ _ _ e1
      | fn f l=>
       have h':(match frzL (frzE k) l H with
        | some (c,l',H')=>some (c,EV.fn f l',H')
        | none=>none)=some (c,a',H'):=h
       split at h'
       case h_2=>cases h'
       rename_i e1;simp only [Option.some.injEq,Prod.mk.injEq] at h';obtain ⟨_,rfl,_⟩:=h';exact ih.2 _ _ _ _ _ e1
      | _=>cases h
     refine ⟨h1,fun l=>?_⟩
     induction l with
     | nil=>intro H c l' H' h;have h':some (true,[],H)=some (c,l',H'):=h;simp only [Option.some.injEq,Prod.mk.injEq] at h';obtain ⟨_,rfl,_⟩:=h';rfl
     | cons b l ihl=>
      intro H c l' H' h;have h':(match frzE (k+1) b H with
       | some (c,a',H')=>match frzL (frzE (k+1)) l H' with
        | some (c2,l',H2)=>some (bc c c2 false,a'::l',H2)
        | none=>none
       | none=>none)=some (c,l',H'):=h
      split at h'
      case h_2=>cases h'
      rename_i e1;split at h'
      case h_2=>cases h'
      rename_i e2;simp only [Option.some.injEq,Prod.mk.injEq] at h';obtain ⟨_,rfl,_⟩:=h';show bc (dataB (k+1) _) (allL (dataB (k+1)) _) false=true;rw [h1 _ _ _ _ _ e1,ihl _ _ _ _ e2];rfl
   exact (key 8).1 _ _ _ _ _ hf
  exact ⟨γ'.ren [],g3.data hdata fun _ _ h=>h,hd⟩
theorem leadsF (hm0:P.follows .mixedOrders=true) (hF:FTok P FT) {dr:ES→Nat→Array Oper→List IM→EO} (hdr:DrOk P dr) {sub:Sub} (hsub:LoudOk P sub) {ct:Tr ZCC} (hct:ZCtsOk P ct) {f k:Nat} {p:ES→Bool} {s:ES} {lk:List Nat} {κ:EO→ZF} {own:Bool} {r:NS} (hκ:∀ e,∃ ls,κ e=endZ lk ls own e)
  (h:runZ (stepZ P FT f dr sub ct) p κ k s = .at r):LeadsZ P s (stOf r):=
 zpq (f:=f) (lk:=lk) fun γ w0 cs m hm=>by
  obtain ⟨e,h1,h2⟩:=zfu (p:=p) (κ:=κ) (fun γ s m κ' hm=>zff (fid:=f) hm0 hF hdr hsub hct hm κ') k γ s m hm;obtain ⟨ls,hls⟩:=hκ e;have h3:endZ lk ls own e = .at r:=hls.symm.trans (h1.symm.trans h);unfold endZ at h3;split at h3
  ·exact (zs6 h3).elim
  ·split at h3
   ·rename_i s' r' hr;injection h3 with h3;subst h3
    unfold normZ at hr;simp only at hr;obtain ⟨γ',m',hle,hst,hM⟩:=h2;exact ⟨_,_,_,_,_,_,hr,⟨γ',m',hle,hst,zpe hM⟩⟩
   ·cases h3
  ·cases h3
theorem callsF (hm0:P.follows .mixedOrders=true) (hF:FTok P FT) {dr:ES→Nat→Array Oper→List IM→EO} (hdr:DrOk P dr) {sub:Sub} (hsub:LoudOk P sub) {ct:Tr ZCC} (hct:ZCtsOk P ct) {f k:Nat} {p:ES→Bool} {s:ES} {lk:List Nat} {κ:EO→ZF} {own:Bool} {args:List EV} {us:Array Value} {e:EF} {a:EV} {K:List (Nat×EK)} {n':Nat} (hκ:∀ e,∃ ls,κ e=endZ lk ls own e)
  (he:exEnter FT f args=some e) (hargs:ECL γ args us.toList) (hN:∀ i,γ i=none) (hfz:FzAt γ w)
  (hl:LeadsZ P ⟨e,[],.nil,0⟩ s) (hd:runZ (stepZ P FT f dr sub ct) p κ k s = .done a K n') :
  Calls P f us w fun e w'=>∃ γ' x,e = .returned x∧EC γ' a x∧HR γ' (Bs.ofG w γ) (mkT K) n' w':=by
 intro cs;obtain ⟨q1,_⟩:=zb7 hF hargs he;have hM:MR γ (Bs.ofG w γ) cs ⟨e,[],.nil,0⟩ (lone (Frame.enter P f us .normal) cs w):=
  ⟨_,[],w,rfl,q1,.nil,⟨(fun i k hk=>by cases hk),(fun i j ki kj hi=>by cases hi),(fun i _=>hN i),(fun i hi=>hi.elim),(fun i p hp=>by rw [hN i] at hp;cases hp),⟨rfl,rfl,rfl,Nat.le_refl _,fun _ _=>rfl⟩,FZ.init hfz⟩⟩
 obtain ⟨γ1,m1,g1,g3⟩:=hl γ (Bs.ofG w γ) cs _ (fun i hi=>hi) hM;obtain ⟨eo,h1,this⟩:=zfu (p:=p) (κ:=κ) (fun γ s m κ' hm=>zff (fid:=f) hm0 hF hdr hsub hct hm κ') k γ1 s m1 g3;obtain ⟨ls,hls⟩:=hκ eo;have h3:endZ lk ls own eo = .done a K n':=hls.symm.trans (h1.symm.trans hd);unfold endZ at h3;split at h3
 ·rename_i a0 H0 n0;obtain ⟨γ',fr',w',v,_,h2,h4,h5,h6,h7⟩:=this;obtain ⟨γ2,k1,k2⟩:=zs5 h3 h7 (fun i hi=>hi) h6;exact ⟨.returned v,w',fr',⟨γ2,v,rfl,k1,k2⟩,g1.trans h2,h4,h5⟩
 ·split at h3 <;> cases h3
 ·cases h3
end
section
open Go.RowKit
variable {P:Program} {γ γ':G} {w0:Bs} {w:World} {H H':Tr EK} {n n':Nat} {T:Tr EV} {cs:List Frame} {fid:FuncId} {FT:Tr FI} {tmps:Array Value} {o:Oper} {α:Type}
def idL (k:Nat):List (Nat×Nat):=Nat.rec [] (fun j ih=>ih++[(j,j)]) k
theorem zpu:∀ {k j:Nat},j<k→(j,j)∈idL k
 | k+1,j,h=>by
  show (j,j)∈idL k++[(k,k)]
  by_cases e:j=k
  ·subst e;simp
  ·exact List.mem_append.2 (.inl (zpu (by omega)))
def pinsB (k:Nat) (ρ:List (Nat×Nat)):Bool:=allL (fun p=>isSomeN (lookN ρ p.1) p.2) (idL k)
theorem zlt {k:Nat} {ρ:List (Nat×Nat)} (h:pinsB k ρ=true) {j:Nat} (hj:j<k):lookN ρ j=some j:=zbm (zam h (j,j) (zpu hj))
def normK (k:Nat) (lk:List Nat) (ls:List SZ) (e:EO):Option NS:=match e with
 | .go s=>match framesN (s.top::s.rest) ls ⟨idL k,[],k⟩ with
  | (q0,sl)=>match closeN lk s.H 60 0 q0 with
   | q=>bc (pinsB k q.ρ) (normR lk sl q.ρ (keepN s.H q.ρ) q.nils q.N (.go s)) none
 | _=>none
def doneM (k:Nat) (a:EV) (H:Tr EK):ZF:=match closeN [] H 60 0 (addL (numsE 6 a) ⟨idL k,[],k⟩) with
 | q=>match renE q.ρ 8 a with
  | some a'=>match pickK q.ρ H [] (keepN H q.ρ) with
   | some K=>bc (okN q.ρ q.N) (bc (allL (fun p=>isSomeN (lookN q.ρ p.1) p.2) (keepN H q.ρ)) (bc (pinsB k q.ρ) (.done a' (sortK K) q.N) .bad) .bad) .bad
   | none=>.bad
  | none=>.bad
abbrev NLs:=List (Nat×Nat×TypeId×SyC)
def nilD (nl:NLs):Tr EK×Nat→Tr EK×Nat:=List.rec (fun q=>q) (fun p _ ih q=>match q.1.get p.1 with
 | some (.cells _ l _)=>ih (nilL p.2.1 p.2.2.1 p.2.2.2 p.1 (nilJ l 0) q)
 | _=>ih q) nl
theorem zke:∀ {nl:NLs} {q:Tr EK×Nat},HR γ w0 q.1 q.2 w→HR γ w0 (nilD nl q).1 (nilD nl q).2 w
 | [],_,h=>h
 | p::nl,q,h=>by
  show HR γ w0 (match q.1.get p.1 with
   | some (.cells _ l _)=>nilD nl (nilL p.2.1 p.2.2.1 p.2.2.2 p.1 (nilJ l 0) q)
   | _=>nilD nl q).1 (match q.1.get p.1 with
   | some (.cells _ l _)=>nilD nl (nilL p.2.1 p.2.2.1 p.2.2.2 p.1 (nilJ l 0) q)
   | _=>nilD nl q).2 w
  split
  ·exact zke (zkd h)
  ·exact zke h
def endM (k:Nat) (lk:List Nat) (ps:PLs) (nl:NLs) (e:EO):ZF:=match e with
 | .go s=>match normK k lk (lsAt ps s) (.go (nilS (lsAt ps s) s)) with
  | some r=>.at r
  | none=>.bad
 | .done a H n=>doneM k a (nilD nl (H,n)).1
 | _=>.bad
def LeadsM (P:Program) (k:Nat) (s s':ES):Prop:=∀ (γ:G) (w0:Bs) (cs:List Frame) (m:Machine),(∀ i,¬ w0.res i)→MR γ w0 cs s m→∃ γ' m',Steps P m m'∧MR γ' w0 cs s' m'∧∀ j p,j<k→γ j=some p→γ' j=some p
theorem LeadsM.trans {k:Nat} {a b c:ES} (h:LeadsM P k a b) (g:LeadsM P k b c):LeadsM P k a c:=fun γ w0 cs m hr hm=>by
 obtain ⟨γ1,m1,h1,h2,h3⟩:=h γ w0 cs m hr hm;obtain ⟨γ2,m2,k1,k2,k3⟩:=g γ1 w0 cs m1 hr h2;exact ⟨γ2,m2,h1.trans k1,k2,fun j p hj e=>k3 j p hj (h3 j p hj e)⟩
theorem LeadsM.refl (k:Nat) (a:ES):LeadsM P k a a:=fun γ _ _ m _ hm=>⟨γ,m,Steps.refl P _,hm,fun _ _ _ e=>e⟩
theorem zpr {s:ES} {lk:List Nat} {r:NS} {f:FuncId} {k:Nat}
  (h:∀ (γ:G) (w0:Bs) (cs:List Frame) (m:Machine),MR γ w0 cs s m→∃ e ls ρ keep nils N,normR lk ls ρ keep nils N e=some r∧pinsB k ρ=true∧SOk P γ w0 cs f m e):LeadsM P k s (stOf r):=fun γ w0 cs m hres hm=>by
 obtain ⟨e,ls,ρ,keep,nils,N,h,hpk,this⟩:=h γ w0 cs m hm;unfold normR at h;split at h
 case h_2=>cases h
 rename_i s';obtain ⟨γ',m',h1,h2,h3⟩:=this;split at h
 case h_2=>cases h
 rename_i l hl;split at h
 case h_2=>cases h
 rename_i K hK;rw [bc_eq] at h;split at h
 case isFalse=>cases h
 rename_i hρ;rw [bc_eq] at h;split at h
 case isFalse=>cases h
 rename_i hkeep;rw [bc_eq] at h;split at h
 case isFalse=>cases h
 rename_i hnil;injection h with h;subst h
 obtain ⟨fr,frs,w,rfl,g1,hfs,hH⟩:=h3;have g3:=zez hρ hl (.cons g1 hfs);have hHn:=hH.ren hres hρ hkeep hnil hK (K2:=sortK (nilsK nils++K)) (fun _=>zc8)
 cases l with
 | nil=>have g3:All2 (FR (γ'.ren ρ)) [] (fr::frs):=g3;cases g3
 | cons f l=>
  have g3:All2 (FR (γ'.ren ρ)) (frOf f::frsOf l) (fr::frs):=g3
  cases g3 with
  | cons e1 e2=>exact ⟨γ'.ren ρ,_,h2,⟨fr,frs,w,rfl,e1,e2,hHn⟩,fun j p hj ej=>by rw [G.ren_look hρ (zlt hpk hj)];exact h1 j p ej⟩
theorem leadsM (hm0:P.follows .mixedOrders=true) (hF:FTok P FT) {dr:ES→Nat→Array Oper→List IM→EO} (hdr:DrOk P dr) {sub:Sub} (hsub:LoudOk P sub) {ct:Tr ZCC} (hct:ZCtsOk P ct) {f k c:Nat} {p:ES→Bool} {s:ES} {lk:List Nat} {ps:PLs} {nl:NLs} {r:NS}
  (h:runZ (stepZ P FT f dr sub ct) p (endM k lk ps nl) c s = .at r):LeadsM P k s (stOf r):=
 zpr (f:=f) (lk:=lk) fun γ w0 cs m hm=>by
  obtain ⟨e,h1,h2⟩:=zfu (p:=p) (κ:=endM k lk ps nl) (fun γ s m κ' hm=>zff (fid:=f) hm0 hF hdr hsub hct hm κ') c γ s m hm;have h3:endM k lk ps nl e = .at r:=h1.symm.trans h;unfold endM at h3;split at h3
  ·split at h3
   ·rename_i s' r' hr;injection h3 with h3;subst h3
    unfold normK at hr;simp only at hr;rw [bc_eq] at hr;split at hr
    case isFalse=>cases hr
    rename_i hpk;obtain ⟨γ',m',hle,hst,hM⟩:=h2;exact ⟨_,_,_,_,_,_,hr,hpk,⟨γ',m',hle,hst,zpe hM⟩⟩
   ·cases h3
  ·unfold doneM at h3;simp only at h3;split at h3
   ·split at h3
    ·rw [bc_eq,bc_eq,bc_eq] at h3;split at h3
     ·split at h3
      ·split at h3 <;> cases h3
      ·cases h3
     ·cases h3
    ·cases h3
   ·cases h3
  ·cases h3
theorem callsM (hm0:P.follows .mixedOrders=true) (hF:FTok P FT) {dr:ES→Nat→Array Oper→List IM→EO} (hdr:DrOk P dr) {sub:Sub} (hsub:LoudOk P sub) {ct:Tr ZCC} (hct:ZCtsOk P ct) {f k c:Nat} {p:ES→Bool} {s:ES} {lk:List Nat} {ps:PLs} {nl:NLs} {args:List EV} {us:Array Value} {e:EF} {K0:List (Nat×EK)} {m0:Nat} {a:EV} {K:List (Nat×EK)} {n':Nat}
  (he:exEnter FT f args=some e) (hres:∀ i,¬ w0.res i) (hargs:ECL γ args us.toList) (hH:HR γ w0 (mkT K0) m0 w)
  (hl:LeadsM P k ⟨e,[],mkT K0,m0⟩ s) (hd:runZ (stepZ P FT f dr sub ct) p (endM k lk ps nl) c s = .done a K n') :
  Calls P f us w fun e w'=>∃ γ' x,e = .returned x∧EC γ' a x∧HR γ' w0 (mkT K) n' w'∧∀ j p,j<k→γ j=some p→γ' j=some p:=by
 intro cs;obtain ⟨q1,_⟩:=zb7 hF hargs he;have hM:MR γ w0 cs ⟨e,[],mkT K0,m0⟩ (lone (Frame.enter P f us .normal) cs w):=⟨_,[],w,rfl,q1,.nil,hH⟩;obtain ⟨γ1,m1,g1,g3,g4⟩:=hl γ w0 cs _ hres hM;obtain ⟨eo,h1,this⟩:=zfu (p:=p) (κ:=endM k lk ps nl) (fun γ s m κ' hm=>zff (fid:=f) hm0 hF hdr hsub hct hm κ') c γ1 s m1 g3;have h3:endM k lk ps nl eo = .done a K n':=h1.symm.trans hd;unfold endM at h3;split at h3
 ·split at h3 <;> cases h3
 ·rename_i a0 H0 n0;obtain ⟨γ',fr',w',v,hle,h2,h4,h5,h6,h7⟩:=this;unfold doneM at h3;simp only at h3;split at h3
  case h_2=>cases h3
  rename_i a2 ha2;split at h3
  case h_2=>cases h3
  rename_i K2 hK2;rw [bc_eq] at h3;split at h3
  case isFalse=>cases h3
  rename_i hρ;rw [bc_eq] at h3;split at h3
  case isFalse=>cases h3
  rename_i hkeep;rw [bc_eq] at h3;split at h3
  case isFalse=>cases h3
  rename_i hpk;injection h3 with e1 e2 e3;subst e1;subst e2;subst e3
  exact ⟨.returned v,w',fr',⟨_,v,rfl,EC.ren hρ ha2 h6,(zke (nl:=nl) (q:=(H0,n0)) h7).ren (nils:=[]) hres hρ hkeep rfl hK2 (K2:=sortK K2) (fun _=>zc8),fun j p hj ej=>by rw [G.ren_look hρ (zlt hpk hj)];exact hle j p (g4 j p hj ej)⟩,g1.trans h2,h4,h5⟩
 ·cases h3
end
noncomputable def ft0:Tr FI:=.nil
theorem ft0Ok:FTok Try.prog ft0:=FTok.nil _
noncomputable def ft1:Tr FI:=ft0.put 7 (some (ofFunc Try.f7))
theorem ft1Ok:FTok Try.prog ft1:=ft0Ok.add (by kernel_rfl) Try.func7 (by kernel_rfl) (by kernel_rfl)
noncomputable def ft2:Tr FI:=ft1.put 16 (some (ofFunc Try.f16))
theorem ft2Ok:FTok Try.prog ft2:=ft1Ok.add (by kernel_rfl) Try.func16 (by kernel_rfl) (by kernel_rfl)
noncomputable def ft3:Tr FI:=ft2.put 17 (some (ofFunc Try.f17))
theorem ft3Ok:FTok Try.prog ft3:=ft2Ok.add (by kernel_rfl) Try.func17 (by kernel_rfl) (by kernel_rfl)
noncomputable def ft4:Tr FI:=ft3.put 19 (some (ofFunc Try.f19))
theorem ft4Ok:FTok Try.prog ft4:=ft3Ok.add (by kernel_rfl) Try.func19 (by kernel_rfl) (by kernel_rfl)
noncomputable def ft5:Tr FI:=ft4.put 20 (some (ofFunc Try.f20))
theorem ft5Ok:FTok Try.prog ft5:=ft4Ok.add (by kernel_rfl) Try.func20 (by kernel_rfl) (by kernel_rfl)
noncomputable def ft6:Tr FI:=ft5.put 22 (some (ofFunc Try.f22))
theorem ft6Ok:FTok Try.prog ft6:=ft5Ok.add (by kernel_rfl) Try.func22 (by kernel_rfl) (by kernel_rfl)
noncomputable def ft7:Tr FI:=ft6.put 24 (some (ofFunc Try.f24))
theorem ft7Ok:FTok Try.prog ft7:=ft6Ok.add (by kernel_rfl) Try.func24 (by kernel_rfl) (by kernel_rfl)
noncomputable def ft8:Tr FI:=ft7.put 28 (some (ofFunc Try.f28))
theorem ft8Ok:FTok Try.prog ft8:=ft7Ok.add (by kernel_rfl) Try.func28 (by kernel_rfl) (by kernel_rfl)
noncomputable def ft9:Tr FI:=ft8.put 32 (some (ofFunc Try.f32))
theorem ft9Ok:FTok Try.prog ft9:=ft8Ok.add (by kernel_rfl) Try.func32 (by kernel_rfl) (by kernel_rfl)
noncomputable def ft10:Tr FI:=ft9.put 35 (some (ofFunc Try.f35))
theorem ft10Ok:FTok Try.prog ft10:=ft9Ok.add (by kernel_rfl) Try.func35 (by kernel_rfl) (by kernel_rfl)
noncomputable def ft11:Tr FI:=ft10.put 36 (some (ofFunc Try.f36))
theorem ft11Ok:FTok Try.prog ft11:=ft10Ok.add (by kernel_rfl) Try.func36 (by kernel_rfl) (by kernel_rfl)
noncomputable def ft12:Tr FI:=ft11.put 37 (some (ofFunc Try.f37))
theorem ft12Ok:FTok Try.prog ft12:=ft11Ok.add (by kernel_rfl) Try.func37 (by kernel_rfl) (by kernel_rfl)
noncomputable def ft13:Tr FI:=ft12.put 38 (some (ofFunc Try.f38))
theorem ft13Ok:FTok Try.prog ft13:=ft12Ok.add (by kernel_rfl) Try.func38 (by kernel_rfl) (by kernel_rfl)
noncomputable def ft14:Tr FI:=ft13.put 39 (some (ofFunc Try.f39))
theorem ft14Ok:FTok Try.prog ft14:=ft13Ok.add (by kernel_rfl) Try.func39 (by kernel_rfl) (by kernel_rfl)
noncomputable def ft15:Tr FI:=ft14.put 40 (some (ofFunc Try.f40))
theorem ft15Ok:FTok Try.prog ft15:=ft14Ok.add (by kernel_rfl) Try.func40 (by kernel_rfl) (by kernel_rfl)
noncomputable def ft16:Tr FI:=ft15.put 41 (some (ofFunc Try.f41))
theorem ft16Ok:FTok Try.prog ft16:=ft15Ok.add (by kernel_rfl) Try.func41 (by kernel_rfl) (by kernel_rfl)
noncomputable def ft17:Tr FI:=ft16.put 42 (some (ofFunc Try.f42))
theorem ft17Ok:FTok Try.prog ft17:=ft16Ok.add (by kernel_rfl) Try.func42 (by kernel_rfl) (by kernel_rfl)
noncomputable def ft18:Tr FI:=ft17.put 47 (some (ofFunc Try.f47))
theorem ft18Ok:FTok Try.prog ft18:=ft17Ok.add (by kernel_rfl) Try.func47 (by kernel_rfl) (by kernel_rfl)
noncomputable def ft19:Tr FI:=ft18.put 67 (some (ofFunc Try.f67))
theorem ft19Ok:FTok Try.prog ft19:=ft18Ok.add (by kernel_rfl) Try.func67 (by kernel_rfl) (by kernel_rfl)
noncomputable def ft20:Tr FI:=ft19.put 68 (some (ofFunc Try.f68))
theorem ft20Ok:FTok Try.prog ft20:=ft19Ok.add (by kernel_rfl) Try.func68 (by kernel_rfl) (by kernel_rfl)
noncomputable def ft21:Tr FI:=ft20.put 69 (some (ofFunc Try.f69))
theorem ft21Ok:FTok Try.prog ft21:=ft20Ok.add (by kernel_rfl) Try.func69 (by kernel_rfl) (by kernel_rfl)
noncomputable def ft22:Tr FI:=ft21.put 70 (some (ofFunc Try.f70))
theorem ft22Ok:FTok Try.prog ft22:=ft21Ok.add (by kernel_rfl) Try.func70 (by kernel_rfl) (by kernel_rfl)
noncomputable def ft23:Tr FI:=ft22.put 71 (some (ofFunc Try.f71))
theorem ft23Ok:FTok Try.prog ft23:=ft22Ok.add (by kernel_rfl) Try.func71 (by kernel_rfl) (by kernel_rfl)
noncomputable def ft24:Tr FI:=ft23.put 73 (some (ofFunc Try.f73))
theorem ft24Ok:FTok Try.prog ft24:=ft23Ok.add (by kernel_rfl) Try.func73 (by kernel_rfl) (by kernel_rfl)
noncomputable def ft25:Tr FI:=ft24.put 74 (some (ofFunc Try.f74))
theorem ft25Ok:FTok Try.prog ft25:=ft24Ok.add (by kernel_rfl) Try.func74 (by kernel_rfl) (by kernel_rfl)
noncomputable def ft26:Tr FI:=ft25.put 75 (some (ofFunc Try.f75))
theorem ft26Ok:FTok Try.prog ft26:=ft25Ok.add (by kernel_rfl) Try.func75 (by kernel_rfl) (by kernel_rfl)
noncomputable def ft27:Tr FI:=ft26.put 76 (some (ofFunc Try.f76))
theorem ft27Ok:FTok Try.prog ft27:=ft26Ok.add (by kernel_rfl) Try.func76 (by kernel_rfl) (by kernel_rfl)
noncomputable def ft28:Tr FI:=ft27.put 78 (some (ofFunc Try.f78))
theorem ft28Ok:FTok Try.prog ft28:=ft27Ok.add (by kernel_rfl) Try.func78 (by kernel_rfl) (by kernel_rfl)
noncomputable def ft29:Tr FI:=ft28.put 87 (some (ofFunc Try.f87))
theorem ft29Ok:FTok Try.prog ft29:=ft28Ok.add (by kernel_rfl) Try.func87 (by kernel_rfl) (by kernel_rfl)
noncomputable def ft30:Tr FI:=ft29.put 89 (some (ofFunc Try.f89))
theorem ft30Ok:FTok Try.prog ft30:=ft29Ok.add (by kernel_rfl) Try.func89 (by kernel_rfl) (by kernel_rfl)
noncomputable def ft31:Tr FI:=ft30.put 90 (some (ofFunc Try.f90))
theorem ft31Ok:FTok Try.prog ft31:=ft30Ok.add (by kernel_rfl) Try.func90 (by kernel_rfl) (by kernel_rfl)
noncomputable def ft32:Tr FI:=ft31.put 96 (some (ofFunc Try.f96))
theorem ft32Ok:FTok Try.prog ft32:=ft31Ok.add (by kernel_rfl) Try.func96 (by kernel_rfl) (by kernel_rfl)
noncomputable def ft33:Tr FI:=ft32.put 104 (some (ofFunc Try.f104))
theorem ft33Ok:FTok Try.prog ft33:=ft32Ok.add (by kernel_rfl) Try.func104 (by kernel_rfl) (by kernel_rfl)
noncomputable def ft34:Tr FI:=ft33.put 108 (some (ofFunc Try.f108))
theorem ft34Ok:FTok Try.prog ft34:=ft33Ok.add (by kernel_rfl) Try.func108 (by kernel_rfl) (by kernel_rfl)
noncomputable def ft35:Tr FI:=ft34.put 115 (some (ofFunc Try.f115))
theorem ft35Ok:FTok Try.prog ft35:=ft34Ok.add (by kernel_rfl) Try.func115 (by kernel_rfl) (by kernel_rfl)
noncomputable def ft36:Tr FI:=ft35.put 116 (some (ofFunc Try.f116))
theorem ft36Ok:FTok Try.prog ft36:=ft35Ok.add (by kernel_rfl) Try.func116 (by kernel_rfl) (by kernel_rfl)
noncomputable def ft37:Tr FI:=ft36.put 117 (some (ofFunc Try.f117))
theorem ft37Ok:FTok Try.prog ft37:=ft36Ok.add (by kernel_rfl) Try.func117 (by kernel_rfl) (by kernel_rfl)
noncomputable def ft38:Tr FI:=ft37.put 118 (some (ofFunc Try.f118))
theorem ft38Ok:FTok Try.prog ft38:=ft37Ok.add (by kernel_rfl) Try.func118 (by kernel_rfl) (by kernel_rfl)
noncomputable def ft39:Tr FI:=ft38.put 120 (some (ofFunc Try.f120))
theorem ft39Ok:FTok Try.prog ft39:=ft38Ok.add (by kernel_rfl) Try.func120 (by kernel_rfl) (by kernel_rfl)
noncomputable def ft40:Tr FI:=ft39.put 127 (some (ofFunc Try.f127))
theorem ft40Ok:FTok Try.prog ft40:=ft39Ok.add (by kernel_rfl) Try.func127 (by kernel_rfl) (by kernel_rfl)
noncomputable def ft41:Tr FI:=ft40.put 128 (some (ofFunc Try.f128))
theorem ft41Ok:FTok Try.prog ft41:=ft40Ok.add (by kernel_rfl) Try.func128 (by kernel_rfl) (by kernel_rfl)
noncomputable def ft42:Tr FI:=ft41.put 129 (some (ofFunc Try.f129))
theorem ft42Ok:FTok Try.prog ft42:=ft41Ok.add (by kernel_rfl) Try.func129 (by kernel_rfl) (by kernel_rfl)
noncomputable def ft43:Tr FI:=ft42.put 130 (some (ofFunc Try.f130))
theorem ft43Ok:FTok Try.prog ft43:=ft42Ok.add (by kernel_rfl) Try.func130 (by kernel_rfl) (by kernel_rfl)
noncomputable def ft44:Tr FI:=ft43.put 131 (some (ofFunc Try.f131))
theorem ft44Ok:FTok Try.prog ft44:=ft43Ok.add (by kernel_rfl) Try.func131 (by kernel_rfl) (by kernel_rfl)
noncomputable def ft45:Tr FI:=ft44.put 132 (some (ofFunc Try.f132))
theorem ft45Ok:FTok Try.prog ft45:=ft44Ok.add (by kernel_rfl) Try.func132 (by kernel_rfl) (by kernel_rfl)
noncomputable def ft46:Tr FI:=ft45.put 142 (some (ofFunc Try.f142))
theorem ft46Ok:FTok Try.prog ft46:=ft45Ok.add (by kernel_rfl) Try.func142 (by kernel_rfl) (by kernel_rfl)
noncomputable def ft47:Tr FI:=ft46.put 144 (some (ofFunc Try.f144))
theorem ft47Ok:FTok Try.prog ft47:=ft46Ok.add (by kernel_rfl) Try.func144 (by kernel_rfl) (by kernel_rfl)
noncomputable def ft:Tr FI:=(.node none (.node none (.node none (.node none (.node none (.node none (.node none (.node none .nil (.node (some (ofFunc Try.f128)) .nil .nil)) .nil) (.node (some (ofFunc Try.f32)) .nil (.node (some (ofFunc Try.f96)) .nil .nil))) (.node (some (ofFunc Try.f16)) (.node none (.node none .nil (.node (some (ofFunc Try.f144)) .nil .nil)) .nil) .nil)) (.node none (.node none .nil (.node (some (ofFunc Try.f40)) .nil (.node (some (ofFunc Try.f104)) .nil .nil))) (.node (some (ofFunc Try.f24)) .nil (.node none .nil (.node (some (ofFunc Try.f120)) .nil .nil))))) (.node none (.node none (.node none (.node none (.node none .nil (.node (some (ofFunc Try.f132)) .nil .nil)) (.node (some (ofFunc Try.f68)) .nil .nil)) (.node (some (ofFunc Try.f36)) .nil .nil)) (.node (some (ofFunc Try.f20)) .nil (.node none .nil (.node (some (ofFunc Try.f116)) .nil .nil)))) (.node none (.node none (.node none .nil (.node (some (ofFunc Try.f76)) .nil .nil)) (.node none .nil (.node (some (ofFunc Try.f108)) .nil .nil))) (.node (some (ofFunc Try.f28)) .nil .nil)))) (.node none (.node none (.node none (.node none (.node none (.node none .nil (.node (some (ofFunc Try.f130)) .nil .nil)) .nil) .nil) .nil) (.node none (.node none (.node none .nil (.node (some (ofFunc Try.f74)) .nil .nil)) (.node (some (ofFunc Try.f42)) .nil .nil)) (.node none (.node none .nil (.node (some (ofFunc Try.f90)) .nil .nil)) .nil))) (.node none (.node none (.node none (.node none .nil (.node (some (ofFunc Try.f70)) .nil .nil)) (.node (some (ofFunc Try.f38)) .nil .nil)) (.node (some (ofFunc Try.f22)) .nil (.node none .nil (.node (some (ofFunc Try.f118)) .nil .nil)))) (.node none (.node none (.node none (.node none .nil (.node (some (ofFunc Try.f142)) .nil .nil)) (.node (some (ofFunc Try.f78)) .nil .nil)) .nil) .nil)))) (.node none (.node none (.node none (.node none (.node none (.node none (.node none .nil (.node (some (ofFunc Try.f129)) .nil .nil)) .nil) .nil) (.node (some (ofFunc Try.f17)) .nil .nil)) (.node none (.node none (.node none .nil (.node (some (ofFunc Try.f73)) .nil .nil)) (.node (some (ofFunc Try.f41)) .nil .nil)) (.node none (.node none .nil (.node (some (ofFunc Try.f89)) .nil .nil)) .nil))) (.node none (.node none (.node none (.node none .nil (.node (some (ofFunc Try.f69)) .nil .nil)) (.node (some (ofFunc Try.f37)) .nil .nil)) (.node none .nil (.node none .nil (.node (some (ofFunc Try.f117)) .nil .nil)))) .nil)) (.node none (.node none (.node none (.node none (.node none (.node none .nil (.node (some (ofFunc Try.f131)) .nil .nil)) (.node (some (ofFunc Try.f67)) .nil .nil)) (.node (some (ofFunc Try.f35)) .nil .nil)) (.node (some (ofFunc Try.f19)) .nil (.node none .nil (.node (some (ofFunc Try.f115)) .nil .nil)))) (.node none (.node none (.node none .nil (.node (some (ofFunc Try.f75)) .nil .nil)) .nil) .nil)) (.node (some (ofFunc Try.f7)) (.node none (.node none (.node none .nil (.node (some (ofFunc Try.f71)) .nil .nil)) (.node (some (ofFunc Try.f39)) .nil .nil)) (.node none (.node none .nil (.node (some (ofFunc Try.f87)) .nil .nil)) .nil)) (.node none (.node none .nil (.node (some (ofFunc Try.f47)) .nil .nil)) (.node none .nil (.node none .nil (.node (some (ofFunc Try.f127)) .nil .nil))))))))
theorem ftOk:FTok Try.prog ft:=(show ft47=ft by kernel_rfl) ▸ ft47Ok
section
noncomputable def dr4:=drD Try.prog ft 16 4
noncomputable def sub4:Sub:=exSub (fun f=>exStep Try.prog ft f (drD Try.prog ft 16 3)) ft 16
theorem mix:Try.prog.follows .mixedOrders=true:=by kernel_rfl
theorem dr4Ok:DrOk Try.prog dr4:=zml mix ftOk 16 4
theorem sub4Ok:LoudOk Try.prog sub4:=loudOk ftOk (fun fid cs w0 γ s m hM=>zcr ftOk (zml mix ftOk 16 3) hM) 16
theorem bc_t {α:Type} (x y:α):bc true x y=x:=rfl
theorem bc_f {α:Type} (x y:α):bc false x y=y:=rfl
theorem nn_ok (b:Bool):bc b true (bc b false true)=true:=by cases b <;> rfl
theorem dt {p:Prop} [Decidable p] (h:p):decide p=true:=decide_eq_true h
theorem df {p:Prop} [Decidable p] (h:¬ p):decide p=false:=decide_eq_false h
theorem bltD {a b:Nat} (h:a<b):Nat.blt a b=true:=by unfold Nat.blt;exact Nat.ble_eq_true_of_le h
theorem bltN {a b:Nat} (h:¬ a<b):Nat.blt a b=false:=by
 cases e:Nat.blt a b with
 | false=>rfl
 | true=>exact absurd (zaf e) h
theorem zxw {a b:Nat} (h:a≤b):Nat.ble a b=true:=Nat.ble_eq_true_of_le h
theorem bleN {a b:Nat} (h:¬ a≤b):Nat.ble a b=false:=by
 cases e:Nat.ble a b with
 | false=>rfl
 | true=>exact absurd (Nat.le_of_ble_eq_true e) h
theorem beqD {a b:Nat} (h:a=b):Nat.beq a b=true:=by subst h;exact Nat.beq_refl a
theorem ofn (n:Nat):Int.ofNat n=(n:Int):=rfl
theorem zn7 (i:Nat):Int.toNat (i:Int)=i:=Int.toNat_natCast i
theorem zad (x:Int) (h1:-4611686018427387904≤x) (h2:x<4611686018427387904):IntKind.i64.wrap x=x:=IntWalk.i64_in _ (by omega)
theorem zae {α:Type} {l:List α} {d:α} {i:Nat} (h:i<l.length):l.getD i d=l[i]:=by rw [List.getD_eq_getElem?_getD,List.getElem?_eq_getElem h];rfl
noncomputable def ent (f:FuncId) (args:List EV):EF:=Option.rec ⟨f,0,.nil,[],[],none,false⟩ (fun e=>e) (exEnter ft f args)
noncomputable def st0 (f:FuncId) (args:List EV):ES:=⟨ent f args,[],.nil,0⟩
noncomputable abbrev iv (n:Int):EV:=.v (.int .i64 n)
noncomputable abbrev bv (b:Bool):EV:=.v (.bool b)
noncomputable abbrev il (l:List Int):EV:=.lst (.ints .i64 l)
noncomputable def RZs (f:FuncId) (ct:Tr ZCC) (ps:PLs) (lk:List Nat) (own:Bool) (s:ES):ZF:=runZ (stepZ Try.prog ft f dr4 sub4 ct) (atPs ps) (endP lk ps own) 600 s
noncomputable abbrev RZ (f:FuncId) (ct:Tr ZCC) (p:ES→Bool) (lk:List Nat) (ls:List SZ) (own:Bool) (s:ES):ZF:=RZs f ct [(p,ls)] lk own s
theorem leadsZ {f:FuncId} {ct:Tr ZCC} (hct:ZCtsOk Try.prog ct) {ps:PLs} {lk:List Nat} {own:Bool} {s:ES} {r:NS} (h:RZs f ct ps lk own s = .at r):LeadsZ Try.prog s (stOf r):=
 leadsF (f:=f) mix ftOk dr4Ok sub4Ok hct zqh h
theorem callsZ {γ:G} {w:World} {f:FuncId} {ct:Tr ZCC} (hct:ZCtsOk Try.prog ct) {ps:PLs} {lk:List Nat} {own:Bool} {s:ES} {args:List EV} {us:Array Value} {a:EV} {K:List (Nat×EK)} {n':Nat} (he:(exEnter ft f args).isSome=true) (hargs:ECL γ args us.toList) (hN:∀ i,γ i=none) (hfz:FzAt γ w)
  (hl:LeadsZ Try.prog (st0 f args) s) (hd:RZs f ct ps lk own s = .done a K n') :
  Calls Try.prog f us w fun e w'=>∃ γ' x,e = .returned x∧EC γ' a x∧HR γ' (Bs.ofG w γ) (mkT K) n' w':=by
 obtain ⟨e,he⟩:=Option.isSome_iff_exists.1 he;have:ent f args=e:=by unfold ent;rw [he]
 unfold st0 at hl;rw [this] at hl;exact callsF mix ftOk dr4Ok sub4Ok hct zqh he hargs hN hfz hl hd
def Weak (a a':EV):Prop:=∀ γ x,EC γ a x→EC γ a' x
theorem Weak.refl (a:EV):Weak a a:=fun _ _ h=>h
theorem Weak.nil (sh:List Sh):Weak (.v (.slice none 0 0)) (.lst (.recs sh [])):=fun γ x h=>by
 rw [ec_v h];exact .lst _ _ (.empty _ _ none 0 rfl (Nat.zero_le _) fun _=>rfl)
theorem Weak.nilI (k:IntKind):Weak (.v (.slice none 0 0)) (.lst (.ints k [])):=fun γ x h=>by
 rw [ec_v h];exact .lst _ _ (.empty _ _ none 0 rfl (Nat.zero_le _) fun _=>rfl)
inductive WeakL:List EV→List EV→Prop
 | nil:WeakL [] []
 | cons {a b:EV} {l r:List EV} (h:Weak a b) (t:WeakL l r):WeakL (a::l) (b::r)
theorem WeakL.ok {γ:G}:∀ {l r:List EV} {vs:List Value},WeakL l r→ECL γ l vs→ECL γ r vs
 | _,_,vs,.nil,h=>h
 | _,_,vs,.cons h t,k=>by
  obtain ⟨x,ys,rfl,h1,h2⟩:=ECL.inv k;exact ECL.cons (h _ _ h1) (t.ok h2)
theorem Weak.tup {l r:List EV} (h:WeakL l r):Weak (.tup l) (.tup r):=fun γ x k=>by
 cases k with
 | tup _ vs h1 h2=>have:=h.ok (γ:=γ) ⟨h1,h2⟩;exact .tup _ vs this.1 this.2
theorem Weak.trans {a b c:EV} (h:Weak a b) (k:Weak b c):Weak a c:=fun γ x e=>k γ x (h γ x e)
def EndZ (f:FuncId) (ct:Tr ZCC) (own:Bool) (s:ES) (a:EV) (K:List (Nat×EK)) (n:Nat):Prop:=∃ ps lk s' a',LeadsZ Try.prog s s'∧RZs f ct ps lk own s' = .done a' K n∧Weak a' a
theorem EndZ.done {f:FuncId} {ct:Tr ZCC} {own:Bool} {s:ES} {a:EV} {K:List (Nat×EK)} {n:Nat} {ps:PLs} {lk:List Nat} (h:RZs f ct ps lk own s = .done a K n):EndZ f ct own s a K n:=⟨ps,lk,s,a,LeadsZ.refl s,h,Weak.refl a⟩
theorem EndZ.weak {f:FuncId} {ct:Tr ZCC} {own:Bool} {s:ES} {a b:EV} {K:List (Nat×EK)} {n:Nat} (h:EndZ f ct own s a K n) (k:Weak a b):EndZ f ct own s b K n:=by
 obtain ⟨ps,lk,t,a',h1,h2,h3⟩:=h;exact ⟨ps,lk,t,a',h1,h2,h3.trans k⟩
theorem EndZ.lead {f:FuncId} {ct:Tr ZCC} {own:Bool} {s s':ES} {a:EV} {K:List (Nat×EK)} {n:Nat} (h:LeadsZ Try.prog s s') (k:EndZ f ct own s' a K n):EndZ f ct own s a K n:=by
 obtain ⟨ps,lk,t,a',h1,h2,h3⟩:=k;exact ⟨ps,lk,t,a',h.trans h1,h2,h3⟩
theorem EndZ.at {f:FuncId} {ct:Tr ZCC} (hct:ZCtsOk Try.prog ct) {own own':Bool} {s:ES} {r:NS} {a:EV} {K:List (Nat×EK)} {n:Nat} {ps:PLs} {lk:List Nat} (h:RZs f ct ps lk own' s = .at r) (k:EndZ f ct own (stOf r) a K n):EndZ f ct own s a K n:=k.lead (leadsZ hct h)
theorem EndZ.calls {γ:G} {w:World} {f:FuncId} {ct:Tr ZCC} {own:Bool} {args:List EV} {a:EV} {K:List (Nat×EK)} {n':Nat} (h:EndZ f ct own (st0 f args) a K n') (hct:ZCtsOk Try.prog ct) {us:Array Value} (he:(exEnter ft f args).isSome=true) (hargs:ECL γ args us.toList) (hN:∀ i,γ i=none) (hfz:FzAt γ w) :
  Calls Try.prog f us w fun e w'=>∃ γ' x,e = .returned x∧EC γ' a x∧HR γ' (Bs.ofG w γ) (mkT K) n' w':=by
 obtain ⟨ps,lk,t,a',h1,h2,h3⟩:=h;refine (callsZ hct he hargs hN hfz h1 h2).mono fun e w' ⟨γ',x,k1,k2,k3⟩=>⟨γ',x,k1,h3 γ' x k2,k3⟩
noncomputable def st0m (f:FuncId) (args:List EV) (K0:List (Nat×EK)) (m:Nat):ES:=⟨ent f args,[],mkT K0,m⟩
noncomputable def RMs (k:Nat) (f:FuncId) (ct:Tr ZCC) (ps:PLs) (lk:List Nat) (nl:NLs) (s:ES):ZF:=runZ (stepZ Try.prog ft f dr4 sub4 ct) (atPs ps) (endM k lk ps nl) 600 s
theorem leadsMZ {k:Nat} {f:FuncId} {ct:Tr ZCC} (hct:ZCtsOk Try.prog ct) {ps:PLs} {lk:List Nat} {s:ES} {r:NS} {nl:NLs} (h:RMs k f ct ps lk nl s = .at r):LeadsM Try.prog k s (stOf r):=
 leadsM (f:=f) mix ftOk dr4Ok sub4Ok hct h
def EndM (k:Nat) (f:FuncId) (ct:Tr ZCC) (s:ES) (a:EV) (K:List (Nat×EK)) (n:Nat):Prop:=∃ ps lk nl s',LeadsM Try.prog k s s'∧RMs k f ct ps lk nl s' = .done a K n
theorem EndM.done {k:Nat} {f:FuncId} {ct:Tr ZCC} {s:ES} {a:EV} {K:List (Nat×EK)} {n:Nat} {ps:PLs} {lk:List Nat} {nl:NLs} (h:RMs k f ct ps lk nl s = .done a K n):EndM k f ct s a K n:=⟨ps,lk,nl,s,LeadsM.refl k s,h⟩
theorem EndM.lead {k:Nat} {f:FuncId} {ct:Tr ZCC} {s s':ES} {a:EV} {K:List (Nat×EK)} {n:Nat} (h:LeadsM Try.prog k s s') (g:EndM k f ct s' a K n):EndM k f ct s a K n:=by
 obtain ⟨ps,lk,nl,t,h1,h2⟩:=g;exact ⟨ps,lk,nl,t,h.trans h1,h2⟩
theorem EndM.at {k:Nat} {f:FuncId} {ct:Tr ZCC} (hct:ZCtsOk Try.prog ct) {s:ES} {r:NS} {a:EV} {K:List (Nat×EK)} {n:Nat} {ps:PLs} {lk:List Nat} {nl:NLs} (h:RMs k f ct ps lk nl s = .at r) (g:EndM k f ct (stOf r) a K n):EndM k f ct s a K n:=g.lead (leadsMZ hct h)
theorem EndM.calls {k:Nat} {γ:G} {w0:Bs} {w:World} {f:FuncId} {ct:Tr ZCC} {args:List EV} {K0:List (Nat×EK)} {m0:Nat} {a:EV} {K:List (Nat×EK)} {n':Nat} (h:EndM k f ct (st0m f args K0 m0) a K n') (hct:ZCtsOk Try.prog ct) {us:Array Value} (he:(exEnter ft f args).isSome=true) (hres:∀ i,¬ w0.res i) (hargs:ECL γ args us.toList) (hH:HR γ w0 (mkT K0) m0 w) :
  Calls Try.prog f us w fun e w'=>∃ γ' x,e = .returned x∧EC γ' a x∧HR γ' w0 (mkT K) n' w'∧∀ j p,j<k→γ j=some p→γ' j=some p:=by
 obtain ⟨ps,lk,nl,t,h1,h2⟩:=h;obtain ⟨e,he⟩:=Option.isSome_iff_exists.1 he;have:ent f args=e:=by unfold ent;rw [he]
 unfold st0m at h1;rw [this] at h1;exact callsM mix ftOk dr4Ok sub4Ok hct he hres hargs hH h1 h2
theorem zwo {α:Type} (b:Bool) (x:α):bc b x x=x:=by cases b <;> rfl
noncomputable def ZMT.or (a b:ZMT):ZMT:=fun ax K m=>match a ax K m with
 | some r=>some r
 | none=>b ax K m
theorem ZMtOk.or {P:Program} {g:FuncId} {a b:ZMT} (ha:ZMtOk P g a) (hb:ZMtOk P g b):ZMtOk P g (a.or b):=fun γ w0 w us ax K0 m r hs=>by
 unfold ZMT.or at hs;split at hs
 ·rename_i r' hr;injection hs with hs;subst hs
  exact ha γ w0 w us ax K0 m _ hr
 ·exact hb γ w0 w us ax K0 m r hs
noncomputable def ZCT.or (a b:ZCT):ZCT:=fun ax=>match a ax with
 | some r=>some r
 | none=>b ax
theorem ZCtOk.or {P:Program} {g:FuncId} {a b:ZCT} (ha:ZCtOk P g a) (hb:ZCtOk P g b):ZCtOk P g (a.or b):=fun γ w us ax r hs=>by
 unfold ZCT.or at hs;split at hs
 ·rename_i r' hr;injection hs with hs;subst hs
  exact ha γ w us ax _ hr
 ·exact hb γ w us ax r hs
theorem noN {α:Type} {x r:α} {b:Bool} (h:bc b (some x) none=some r):b=true∧x=r:=by
 cases b
 ·cases h
 ·exact ⟨rfl,Option.some.inj h⟩
set_option linter.defProp false in
def yS:=And.intro @Nat.add_eq (And.intro @zqb (And.intro @zsz (And.intro @zwo (And.intro @List.length_cons.{0} (And.intro @ofn (And.intro @zad (And.intro @dt (And.intro @df (And.intro @bltD (And.intro @bltN (And.intro @zxw (And.intro @bleN (And.intro @beqD (And.intro @bc_t (And.intro @bc_f (And.intro @nn_ok (And.intro @Nat.zero_add (And.intro @zn7 (And.intro @Int.zero_add (And.intro @Int.sub_zero (And.intro @Int.sub_self (And.intro @Int.cast_ofNat_Int (And.intro @Int.natCast_zero (And.intro @Int.toNat_zero (And.intro @List.take_zero.{0} (And.intro @List.nil_append.{0} (And.intro @List.length_append.{0} (@List.length_nil.{0}))))))))))))))))))))))))))))
end
theorem zqm {P:Program} {f:FuncId} {γ:G} {w:World} {us:Array Value} (h:Calls P f #[] w fun e w'=>e = .returned (.bool true)∧Stays w w') (hax:ECL γ [] us.toList) (hfz:FzAt γ w):Calls P f us w fun e w'=>∃ γ' x,e = .returned x∧EC γ' (bv true) x∧HR γ' (Bs.ofG w γ) (mkT (zseqs [])) 0 w':=by
 have hu:us = #[]:=by
  have:=hax.1;apply Array.toList_inj.1;exact List.eq_nil_of_length_eq_zero this.symm
 subst hu;refine h.mono ?_
 rintro e w' ⟨rfl,hs⟩
 refine ⟨⟨fun _=>none,γ.fz,fun _ _ _=>none⟩,_,rfl,.v _,⟨(fun i k hk=>by cases hk),(fun i j ki kj hi=>by cases hi),(fun _ _=>rfl),(fun i hi=>hi.elim),(fun i p hp=>by cases hp),⟨hs.os,hs.tape,hs.output,hs.size,hs.block⟩,⟨fun k a hk=>?_,fun k hk=>hk,.none (fun _ _ _ p e=>by cases (show (none:Option (Nat×Nat×Nat))=some p from e)) (fun i k hi=>by cases hi)⟩⟩⟩
 obtain ⟨ty,fz,h1⟩:=hfz k a hk;have hk2:=(Array.getElem?_eq_some_iff.1 h1).1;exact ⟨⟨ty,fz,(hs.block k hk2).trans h1⟩,.inl ⟨a,hk⟩,fun i ki b m hi=>by cases hi⟩
noncomputable def spTrue:ZCT:=fun ax=>match ax with
 | []=>some ⟨true,bv true,[],0⟩
 | _=>none
theorem zof {P:Program} {f:FuncId} (h:∀ w,Calls P f #[] w fun e w'=>e = .returned (.bool true)∧Stays w w'):ZCtOk P f spTrue:=fun γ w us ax r hs hc hax hN hfz=>by
 unfold spTrue at hs;split at hs
 case h_2=>cases hs
 obtain ⟨rfl⟩:=Option.some.inj hs;exact zqm (h w) hax hfz
theorem zxk {P:Program} {f:FuncId} {γ:G} {w:World} {us:Array Value} {K:List (Nat×EK)} {n:Nat} (h:Calls P f us w fun e w'=>∃ γ' x,e = .returned x∧EC γ' (bv true) x∧HR γ' (Bs.ofG w γ) (mkT K) n w'):Calls P f us w fun e w'=>e = .returned (.bool true)∧Stays w w':=h.mono fun e w' ⟨γ',x,h1,h2,h3⟩=>⟨by rw [h1,ec_v h2],staysOf h3.stays⟩
noncomputable def badH (t x:Int):Bool:=bc (decide (x ≤ -t)) true (bc (x==0) true (bc (decide (t≤x)) (bc (decide (x≤1000)) true (decide (1000+t≤x))) false))
noncomputable def anyI (p:Int→Bool):List Int→Bool
 | []=>false
 | x::l=>bc (p x) true (anyI p l)
noncomputable def chkL (t:Int) (l:List Int):Int:=bc (decide (t<2)) 2 (bc (decide (48<t)) 2 (bc (decide (2000<(l.length:Int))) 3 (bc (anyI (badH t) l) 7 0)))
def In64 (l:List Int):Prop:=∀ j,j<l.length → -9223372036854775808≤l.getD j 0∧l.getD j 0≤9223372036854775807
noncomputable instance In64.dec (l:List Int):Decidable (In64 l):=Classical.propDecidable _
theorem w64 {x:Int} (h:-9223372036854775808≤x∧x≤9223372036854775807):IntKind.wrap IntKind.i64 x=x:=IntWalk.i64_in _ h
theorem eqF {x y:Int} (h:x≠y):(x==y)=false:=by simp [h]
theorem eqT {x y:Int} (h:x=y):(x==y)=true:=by simp [h]
namespace PChL
noncomputable def RUN (s:ES):ZF:=RZ 68 .nil (atS 0 68 6) [] [[(1,none),(19,none),(20,none),(21,none)]] false s
noncomputable def sC (t:Int) (l:List Int) (i:Int):NS:=⟨[⟨68,44,[(1,(EV.ptr 0 0)),(19,(il l)),(20,(iv (Int.ofNat (List.length l)))),(21,iv i)],[.it (.code (nav [1,1,1,0,1,0,0] (bodyOf Try.f68))),.it (.inLoop (nav [1,1,1,0,1,0,0] (bodyOf Try.f68))),.it (.inBlock 0),.it (.code (nav [1,1,1,1] (bodyOf Try.f68)))],[],Option.none⟩],[(0,(EK.cells 24 [(iv t),(il l)] true))],1⟩
theorem in_t (t:Int) (l:List Int):RUN (st0 68 [.agg [iv t,il l]])=(bc (decide (t<2)) (.done (iv (2)) [] 0) (bc (decide (48<t)) (.done (iv (2)) [] 0) (bc (decide (2000<Int.ofNat l.length)) (.done (iv (3)) [] 0) (.at (sC t l 0))))):=by kernel_rfl
theorem step_t (t:Int) (l:List Int) (i:Int):RUN (stOf (sC t l i))=(bc (decide (i<Int.ofNat l.length)) (bc (bc (bc (decide (0≤i)) (Nat.blt i.toNat l.length) false) true false) (bc (bc (Nat.blt i.toNat l.length) true false) (bc (decide (1000<l.getD i.toNat 0)) (bc (l.getD i.toNat 0==0) (.done (iv (7)) [] 0) (bc (decide (l.getD i.toNat 0<(-48:Int))) (.done (iv (7)) [] 0) (bc (decide (IntKind.i64.wrap (l.getD i.toNat 0-(1000:Int))<1)) (.done (iv (7)) [] 0) (bc (decide (t≤IntKind.i64.wrap (l.getD i.toNat 0-(1000:Int)))) (.done (iv (7)) [] 0) (.at (sC t l (IntKind.i64.wrap (i+1)))))))) (bc (decide (l.getD i.toNat 0<0)) (bc (l.getD i.toNat 0==0) (.done (iv (7)) [] 0) (bc (decide (l.getD i.toNat 0<(-48:Int))) (.done (iv (7)) [] 0) (bc (decide (IntKind.i64.wrap ((0:Int)-l.getD i.toNat 0)<1)) (.done (iv (7)) [] 0) (bc (decide (t≤IntKind.i64.wrap ((0:Int)-l.getD i.toNat 0))) (.done (iv (7)) [] 0) (.at (sC t l (IntKind.i64.wrap (i+1)))))))) (bc (l.getD i.toNat 0==0) (.done (iv (7)) [] 0) (bc (decide (l.getD i.toNat 0<(-48:Int))) (.done (iv (7)) [] 0) (bc (decide (l.getD i.toNat 0<1)) (.done (iv (7)) [] 0) (bc (decide (t≤l.getD i.toNat 0)) (.done (iv (7)) [] 0) (.at (sC t l (IntKind.i64.wrap (i+1)))))))))) .bad) .bad) (.done (iv (0)) [] 0)):=by kernel_rfl
theorem step {t:Int} {l:List Int} {i:Nat} (ht:2≤t∧t≤48) (hi:i<l.length) (hl:l.length≤3000) (hx:In64 l):RUN (stOf (sC t l i))=bc (badH t (l.getD i 0)) (.done (iv 7) [] 0) (.at (sC t l (i+1:Nat))):=by
 rw [step_t];have hx:=hx i hi;have e:(i:Int).toNat=i:=rfl;have e2:IntKind.i64.wrap ((i:Int)+1)=((i+1:Nat):Int):=by rw [w64 (by omega)];rfl
 have g1:decide ((i:Int)<Int.ofNat l.length)=true:=dt (show (i:Int)<(l.length:Int) by omega);have g2:decide (0≤(i:Int))=true:=dt (by omega);have g3:Nat.blt i l.length=true:=bltD hi;simp only [e,e2,g1,g2,g3,bc_t];unfold badH;generalize l.getD i 0=x at hx ⊢
 by_cases h1:1000<x
 ·have w:IntKind.i64.wrap (x-1000)=x-1000:=w64 (by omega);simp only [w,dt h1,eqF (show x≠0 by omega),df (show ¬ x < -48 by omega),df (show ¬ x-1000<1 by omega),df (show ¬ x ≤ -t by omega),dt (show t≤x by omega),df (show ¬ x≤1000 by omega),bc_t,bc_f]
  by_cases h2:t≤x-1000
  ·simp only [dt h2,dt (show 1000+t≤x by omega),bc_t]
  ·simp only [df h2,df (show ¬ 1000+t≤x by omega),bc_f]
 ·by_cases h2:x<0
  ·simp only [df h1,dt h2,eqF (show x≠0 by omega),bc_t,bc_f]
   by_cases h3:x < -48
   ·simp only [dt h3,dt (show x ≤ -t by omega),bc_t]
   ·have w:IntKind.i64.wrap (0-x)=0-x:=w64 (by omega);simp only [w,df h3,df (show ¬ 0-x<1 by omega),df (show ¬ t≤x by omega),bc_f]
    by_cases h4:t≤0-x
    ·simp only [dt h4,dt (show x ≤ -t by omega),bc_t]
    ·simp only [df h4,df (show ¬ x ≤ -t by omega),bc_f]
  ·simp only [df h1,df h2,df (show ¬ x < -48 by omega),df (show ¬ x ≤ -t by omega),dt (show x≤1000 by omega),bc_t,bc_f]
   by_cases h3:x=0
   ·simp only [eqT h3,bc_t]
   ·simp only [eqF h3,df (show ¬ x<1 by omega),bc_f]
    by_cases h4:t≤x
    ·simp only [dt h4,bc_t]
    ·simp only [df h4,bc_f]
theorem last {t:Int} {l:List Int} {i:Nat} (hi:l.length≤i):RUN (stOf (sC t l i)) = .done (iv 0) [] 0:=by
 rw [step_t];simp (disch:=omega) only [yS]
theorem loop {t:Int} {l:List Int} (ht:2≤t∧t≤48) (hl:l.length≤3000) (hx:In64 l):∀ (k i:Nat),i+k=l.length→EndZ 68 .nil false (stOf (sC t l i)) (iv (bc (anyI (badH t) (l.drop i)) 7 0)) [] 0
 | 0,i,h=>by
  rw [List.drop_eq_nil_of_le (by omega)];exact .done (last (by omega))
 | k+1,i,h=>by
  have hi:i<l.length:=by omega
  have hs:=step ht hi hl hx;rw [List.drop_eq_getElem_cons hi,← zae (d:=0) hi];unfold anyI;cases hb:badH t (l.getD i 0) <;> rw [hb] at hs
  ·exact .at (.nil _) hs (loop ht hl hx k (i+1) (by omega))
  ·exact .done hs
theorem ends (t:Int) (l:List Int) (hx:In64 l):EndZ 68 .nil false (st0 68 [.agg [iv t,il l]]) (iv (chkL t l)) [] 0:=by
 have h:=in_t t l;unfold chkL
 by_cases h1:t<2
 ·rw [dt h1,bc_t] at h ⊢;exact .done h
 by_cases h2:48<t
 ·rw [df h1,bc_f,dt h2,bc_t] at h ⊢;exact .done h
 by_cases h3:2000<(l.length:Int)
 ·simp only [df h1,df h2,ofn,dt h3,bc_t,bc_f] at h ⊢;exact .done h
 simp only [df h1,df h2,ofn,df h3,bc_t,bc_f] at h ⊢;exact .at (.nil _) h (loop ⟨by omega,by omega⟩ (by omega) hx l.length 0 (by omega))
end PChL
noncomputable def spPChL:ZCT:=fun ax=>match ax with
 | [.agg [.v (.int .i64 t),.lst (.ints .i64 l)]]=>some ⟨decide (In64 l),iv (chkL t l),[],0⟩
 | _=>none
theorem zoq:ZCtOk Try.prog 68 spPChL:=fun γ w us ax r hs hc hax hN hfz=>by
 unfold spPChL at hs;split at hs
 case h_2=>cases hs
 rename_i t l;obtain ⟨rfl⟩:=Option.some.inj hs;have hc_0:decide (In64 l)=true:=hc;have hc:=of_decide_eq_true hc_0;exact EndZ.calls (PChL.ends t l hc) (.nil _) (by kernel_rfl) hax hN hfz
namespace RChL
noncomputable def RUN (s:ES):ZF:=RZ 35 .nil (atS 0 35 6) [] [[(1,none),(3,none)]] false s
noncomputable def sR (t:Int) (l:List Int) (i:Int):NS:=⟨[⟨35,55,[(1,(EV.ptr 0 0)),(3,iv i)],[.it (.code (nav [1,1,1,0,1,0,0,0] (bodyOf Try.f35))),.it (.code (nav [1,1,1,0,1,0,0,1] (bodyOf Try.f35))),.it (.inLoop (nav [1,1,1,0,1,0,0] (bodyOf Try.f35))),.it (.inBlock 0),.it (.code (nav [1,1,1,1] (bodyOf Try.f35)))],[],Option.none⟩],[(0,(EK.cells 24 [(iv t),(il l)] true))],1⟩
theorem in_t (t:Int) (l:List Int):RUN (st0 35 [.agg [iv t,il l]])=(bc (decide (t<2)) (.done (iv (2)) [] 0) (bc (decide (48<t)) (.done (iv (2)) [] 0) (bc (decide (2000<Int.ofNat l.length)) (.done (iv (3)) [] 0) (.at (sR t l 0))))):=by kernel_rfl
theorem step_t (t:Int) (l:List Int) (i:Int):RUN (stOf (sR t l i))=(bc (decide (i<Int.ofNat l.length)) (bc (bc (bc (decide (0≤i)) (Nat.blt i.toNat l.length) false) true false) (bc (bc (Nat.blt i.toNat l.length) true false) (bc (decide (l.getD i.toNat 0≤IntKind.i64.wrap ((0:Int)-t))) (.done (iv (7)) [] 0) (bc (l.getD i.toNat 0==0) (.done (iv (7)) [] 0) (bc (decide (t≤l.getD i.toNat 0)) (bc (decide (l.getD i.toNat 0≤1000)) (.done (iv (7)) [] 0) (bc (decide (IntKind.i64.wrap (1000+t)≤l.getD i.toNat 0)) (.done (iv (7)) [] 0) (.at (sR t l (IntKind.i64.wrap (i+1)))))) (.at (sR t l (IntKind.i64.wrap (i+1))))))) .bad) .bad) (.done (iv (0)) [] 0)):=by kernel_rfl
theorem step {t:Int} {l:List Int} {i:Nat} (ht:2≤t∧t≤48) (hi:i<l.length) (hl:l.length≤3000):RUN (stOf (sR t l i))=bc (badH t (l.getD i 0)) (.done (iv 7) [] 0) (.at (sR t l (i+1:Nat))):=by
 rw [step_t];have e:Int.toNat (i:Int)=i:=rfl;have e2:IntKind.wrap IntKind.i64 ((i:Int)+1)=((i+1:Nat):Int):=by rw [w64 (by omega)];rfl
 have g1:decide ((i:Int)<Int.ofNat l.length)=true:=dt (show (i:Int)<(l.length:Int) by omega);have g2:decide ((0:Int)≤(i:Int))=true:=dt (by omega);have g3:Nat.blt i l.length=true:=bltD hi;have w1:IntKind.wrap IntKind.i64 (0-t) = -t:=by rw [w64 (by omega)];omega
 have w2:IntKind.wrap IntKind.i64 (1000+t)=1000+t:=w64 (by omega);simp only [e,e2,g1,g2,g3,w1,w2,bc_t];unfold badH;generalize l.getD i 0=x;cases decide (x ≤ -t)
 ·cases x==0
  ·cases decide (t≤x)
   ·rfl
   ·cases decide (x≤1000)
    ·cases decide (1000+t≤x) <;> rfl
    ·rfl
  ·rfl
 ·rfl
theorem last {t:Int} {l:List Int} {i:Nat} (hi:l.length≤i):RUN (stOf (sR t l i)) = .done (iv 0) [] 0:=by
 rw [step_t];simp (disch:=omega) only [yS]
theorem loop {t:Int} {l:List Int} (ht:2≤t∧t≤48) (hl:l.length≤3000):∀ (k i:Nat),i+k=l.length→EndZ 35 .nil false (stOf (sR t l i)) (iv (bc (anyI (badH t) (l.drop i)) 7 0)) [] 0
 | 0,i,h=>by
  rw [List.drop_eq_nil_of_le (by omega)];exact .done (last (by omega))
 | k+1,i,h=>by
  have hi:i<l.length:=by omega
  have hs:=step ht hi hl;rw [List.drop_eq_getElem_cons hi,← zae (d:=0) hi];unfold anyI;cases hb:badH t (l.getD i 0) <;> rw [hb] at hs
  ·exact .at (.nil _) hs (loop ht hl k (i+1) (by omega))
  ·exact .done hs
theorem ends (t:Int) (l:List Int):EndZ 35 .nil false (st0 35 [.agg [iv t,il l]]) (iv (chkL t l)) [] 0:=by
 have h:=in_t t l;unfold chkL
 by_cases h1:t<2
 ·rw [dt h1,bc_t] at h ⊢;exact .done h
 by_cases h2:48<t
 ·rw [df h1,bc_f,dt h2,bc_t] at h ⊢;exact .done h
 by_cases h3:2000<(l.length:Int)
 ·simp only [df h1,df h2,ofn,dt h3,bc_t,bc_f] at h ⊢;exact .done h
 simp only [df h1,df h2,ofn,df h3,bc_t,bc_f] at h ⊢;exact .at (.nil _) h (loop ⟨by omega,by omega⟩ (by omega) l.length 0 (by omega))
end RChL
noncomputable def spRChL:ZCT:=fun ax=>match ax with
 | [.agg [.v (.int .i64 t),.lst (.ints .i64 l)]]=>some ⟨decide (True),iv (chkL t l),[],0⟩
 | _=>none
theorem zop:ZCtOk Try.prog 35 spRChL:=fun γ w us ax r hs hc hax hN hfz=>by
 unfold spRChL at hs;split at hs
 case h_2=>cases hs
 rename_i t l;obtain ⟨rfl⟩:=Option.some.inj hs;have hc_0:decide (True)=true:=hc;have hc:=of_decide_eq_true hc_0;exact EndZ.calls (RChL.ends t l) (.nil _) (by kernel_rfl) hax hN hfz
section
def numL (x:Int):Int:=if 1000<x then x-1000 else if x<0 then -x else x
def isPn (x:Int):Bool:=decide (1000<x)
def tchL (x y:Int):Bool:=decide (-1≤numL x-numL y)&&decide (numL x-numL y≤1) && !(isPn x&&isPn y)
noncomputable def lastI (l:List Int):Int:=bc (decide (0<l.length)) (l.getD (l.length-1) 0) (-1)
def ofNs (L:List Nat):List Int:=L.map fun (y:Nat)=>(y:Int)
theorem zai (L:List Nat):(ofNs L).length=L.length:=List.length_map ..
theorem zch (L M:List Nat):ofNs (L++M)=ofNs L++ofNs M:=List.map_append
def IsTop (m:Int) (p:Nat→Prop):Prop:=(∀ y,p y→(y:Int)≤m)∧(m = -1∨∃ y:Nat,m=y∧p y)
theorem zm7 (A:List Int) (b:Int):lastI (A++[b])=b:=by
 unfold lastI;have h:0<(A++[b]).length:=by simp
 rw [show decide (0<(A++[b]).length)=true from decide_eq_true h]
 show (A++[b]).getD ((A++[b]).length-1) 0=b;rw [List.length_append,List.length_singleton,Nat.add_sub_cancel,List.getD_eq_getElem?_getD,List.getElem?_append_right (Nat.le_refl _),Nat.sub_self];rfl
theorem zhb {L:List Nat} (h:L.Pairwise (· < ·)):IsTop (lastI (ofNs L)) (· ∈ L):=by
 rcases List.eq_nil_or_concat L with rfl|⟨A,b,rfl⟩
 ·exact ⟨fun y hy=>(by cases hy),.inl rfl⟩
 ·rw [List.concat_eq_append] at h ⊢;rw [zch,show ofNs [b]=[(b:Int)] from rfl,zm7]
  have h2:=(List.pairwise_append.1 h).2.2;refine ⟨fun y hy=>?_,.inr ⟨b,rfl,by simp⟩⟩;rcases List.mem_append.1 hy with hy|hy
  ·have:=h2 y hy b (by simp);omega
  ·have:y=b:=by simpa using hy
   omega
def mxL (e a b:Int):Int:=if b > (if a > e then a else e) then b else (if a > e then a else e)
theorem zn6 {e a b:Int} {p q r:Nat→Prop} (h1:IsTop e p) (h2:IsTop a q) (h3:IsTop b r):IsTop (mxL e a b) (fun y=>p y∨q y∨r y):=by
 obtain ⟨a1,a2⟩:=h1;obtain ⟨b1,b2⟩:=h2;obtain ⟨c1,c2⟩:=h3;have lo:∀ {m:Int} {p:Nat→Prop},(m = -1∨∃ y:Nat,m=y∧p y) → -1≤m:=fun h=>by
  rcases h with h|⟨y,h,_⟩ <;> omega
 have l1:=lo a2;have l2:=lo b2;have l3:=lo c2;have up:e≤mxL e a b∧a≤mxL e a b∧b≤mxL e a b∧(mxL e a b=e∨mxL e a b=a∨mxL e a b=b):=by
  unfold mxL
  by_cases c:a > e
  ·rw [if_pos c]
   by_cases d:b > a
   ·rw [if_pos d];omega
   ·rw [if_neg d];omega
  ·rw [if_neg c]
   by_cases d:b > e
   ·rw [if_pos d];omega
   ·rw [if_neg d];omega
 obtain ⟨u1,u2,u3,u4⟩:=up;refine ⟨fun y hy=>?_,?_⟩
 ·rcases hy with hy|hy|hy
  ·have:=a1 y hy;omega
  ·have:=b1 y hy;omega
  ·have:=c1 y hy;omega
 ·rcases u4 with u4|u4|u4 <;> rw [u4]
  ·exact a2.imp id fun ⟨y,h,k⟩=>⟨y,h,.inl k⟩
  ·exact b2.imp id fun ⟨y,h,k⟩=>⟨y,h,.inr (.inl k)⟩
  ·exact c2.imp id fun ⟨y,h,k⟩=>⟨y,h,.inr (.inr k)⟩
theorem zuv {m m':Int} {p p':Nat→Prop} (h:IsTop m p) (k:IsTop m' p') (e:∀ y,p y↔p' y):m=m':=by
 obtain ⟨a1,a2⟩:=h;obtain ⟨b1,b2⟩:=k;rcases a2 with a2|⟨y,a2,a3⟩
 ·rcases b2 with b2|⟨z,b2,b3⟩
  ·omega
  ·have:=a1 z ((e z).2 b3);omega
 ·have h1:=b1 y ((e y).1 a3);rcases b2 with b2|⟨z,b2,b3⟩
  ·omega
  ·have:=a1 z ((e z).2 b3);omega
def fcL (l:List Int) (k:Nat) (y:Nat):Bool:=!isPn (l.getD y 0)&&decide (numL (l.getD y 0)=(k:Int))
def fpL (l:List Int) (k:Nat) (y:Nat):Bool:=isPn (l.getD y 0)&&decide (numL (l.getD y 0)=(k:Int))
noncomputable def tpO (l:List Int) (out:List Nat) (x:Int):Int:=lastI (ofNs (out.filter fun y=>tchL (l.getD y 0) x))
noncomputable def outS (l:List Int) (out:List Nat) (i:Nat):List Nat:=
 if 0≤tpO l out (l.getD i 0)∧isPn (l.getD i 0)=false∧l.getD (tpO l out (l.getD i 0)).toNat 0 = -(l.getD i 0) then out.filter (fun y=>decide (y≠(tpO l out (l.getD i 0)).toNat)) else out++[i]
theorem zha {l:List Int} {out:List Nat} (h:out.Pairwise (· < ·)) (x:Int):IsTop (tpO l out x) (fun y=>y∈out∧tchL (l.getD y 0) x=true):=by
 have:=zhb (L:=out.filter fun y=>tchL (l.getD y 0) x) (h.sublist List.filter_sublist);obtain ⟨a,b⟩:=this;exact ⟨fun y hy=>a y (List.mem_filter.2 hy),b.imp id fun ⟨y,h1,h2⟩=>⟨y,h1,List.mem_filter.1 h2⟩⟩
def updC (C:Nat→List Int) (k:Nat) (v:List Int) (a:Nat):List Int:=if a=k then v else C a
structure RelT (l:List Int) (i m:Nat) (out:List Nat) (q:List Bool) (C P:Nat→List Int):Prop where
 asc:out.Pairwise (· < ·)
 lt:∀ y,y∈out→y<i
 ql:q.length=m
 qa:∀ j,q.getD j false=true↔j∈out
 c:∀ k,C k=ofNs (out.filter (fcL l k))
 p:∀ k,P k=ofNs (out.filter (fpL l k))
 ln:out.length≤i
variable {l:List Int} {i m:Nat} {out:List Nat} {q:List Bool} {C P:Nat→List Int}
noncomputable def lst3 (C P:Nat→List Int) (n:Nat):Int:=mxL (mxL (mxL (-1) (lastI (C (n-1))) (lastI (P (n-1)))) (lastI (C n)) (lastI (P n))) (lastI (C (n+1))) (lastI (P (n+1)))
theorem RelT.top (h:RelT l i m out q C P) {x:Int} {n:Nat} (hx:isPn x=false) (hn:numL x=n) (h1:1≤n):lst3 C P n=tpO l out x:=by
 have fc:∀ k,IsTop (lastI (C k)) (fun y=>y∈out∧fcL l k y=true):=fun k=>by
  rw [h.c k];obtain ⟨a,b⟩:=zhb (L:=out.filter (fcL l k)) (h.asc.sublist List.filter_sublist);exact ⟨fun y hy=>a y (List.mem_filter.2 hy),b.imp id fun ⟨y,h1,h2⟩=>⟨y,h1,List.mem_filter.1 h2⟩⟩
 have fp:∀ k,IsTop (lastI (P k)) (fun y=>y∈out∧fpL l k y=true):=fun k=>by
  rw [h.p k];obtain ⟨a,b⟩:=zhb (L:=out.filter (fpL l k)) (h.asc.sublist List.filter_sublist);exact ⟨fun y hy=>a y (List.mem_filter.2 hy),b.imp id fun ⟨y,h1,h2⟩=>⟨y,h1,List.mem_filter.1 h2⟩⟩
 have h0:IsTop (-1) (fun _=>False):=⟨fun y hy=>hy.elim,.inl rfl⟩;refine zuv (zn6 (zn6 (zn6 h0 (fc (n-1)) (fp (n-1))) (fc n) (fp n)) (fc (n+1)) (fp (n+1))) (zha h.asc x) fun y=>?_;unfold tchL fcL fpL;rw [hx,hn];generalize l.getD y 0=z;simp only [Bool.and_false,Bool.not_false,Bool.and_true,Bool.and_eq_true,decide_eq_true_eq,Bool.not_eq_true'];constructor
 ·rintro (((hf|⟨a,b,c⟩|⟨a,b,c⟩)|⟨a,b,c⟩|⟨a,b,c⟩)|⟨a,b,c⟩|⟨a,b,c⟩)
  ·exact hf.elim
  all_goals exact ⟨a,by omega,by omega⟩
 ·rintro ⟨a,b,c⟩
  have hk:numL z=((n-1:Nat):Int)∨numL z=(n:Int)∨numL z=((n+1:Nat):Int):=by omega
  cases hp:isPn z with
  | true=>rcases hk with hk|hk|hk <;> simp [hk,a]
  | false=>rcases hk with hk|hk|hk <;> simp [hk,a]
theorem za7 {α:Type} (p:α→Bool) (L:List α) (x:α):(L++[x]).filter p=L.filter p++(if p x then [x] else []):=by
 rw [List.filter_append];congr 1
 by_cases h:p x=true
 ·rw [if_pos h,List.filter_cons_of_pos h];rfl
 ·rw [if_neg h,List.filter_cons_of_neg h];rfl
theorem gsB {l:List Bool} {i j:Nat} {v:Bool}:(l.set i v).getD j false=if j=i∧i<l.length then v else l.getD j false:=by
 rw [List.getD_eq_getElem?_getD,List.getD_eq_getElem?_getD,List.getElem?_set]
 by_cases h:i=j
 ·subst h
  by_cases h2:i<l.length
  ·simp [h2]
  ·simp [h2]
 ·rw [if_neg h,if_neg (fun e=>h e.1.symm)]
theorem RelT.keep (h:RelT l i m out q C P) (hi:i<m) {C' P':Nat→List Int} (hc:∀ k,C' k=C k++(if fcL l k i then [(i:Int)] else [])) (hp:∀ k,P' k=P k++(if fpL l k i then [(i:Int)] else [])):RelT l (i+1) m (out++[i]) (q.set i true) C' P':=by
 refine ⟨?_,fun y hy=>?_,by rw [List.length_set];exact h.ql,fun j=>?_,fun k=>?_,fun k=>?_,by have:=h.ln;rw [List.length_append,List.length_singleton];omega⟩
 ·refine List.pairwise_append.2 ⟨h.asc,List.pairwise_singleton _ _,fun a ha b hb=>?_⟩;have:=h.lt a ha;have:b=i:=by simpa using hb
  omega
 ·rcases List.mem_append.1 hy with hy|hy
  ·have:=h.lt y hy;omega
  ·have:y=i:=by simpa using hy
   omega
 ·rw [gsB]
  by_cases e:j=i
  ·rw [if_pos ⟨e,by rw [h.ql];exact hi⟩];simp [e]
  ·rw [if_neg fun q=>e q.1,h.qa j];simp [e]
 ·rw [hc k,h.c k,za7,zch];congr 1;split <;> rfl
 ·rw [hp k,h.p k,za7,zch];congr 1;split <;> rfl
theorem RelT.pin (h:RelT l i m out q C P) (hi:i<m) {n:Nat} (hx:isPn (l.getD i 0)=true) (hn:numL (l.getD i 0)=n):RelT l (i+1) m (outS l out i) (q.set i true) C (updC P n (P n++[(i:Int)])):=by
 have e:outS l out i=out++[i]:=by
  unfold outS;rw [if_neg fun q=>by rw [hx] at q;cases q.2.1]
 rw [e];refine h.keep hi (fun k=>?_) fun k=>?_
 ·unfold fcL;rw [hx];simp
 ·unfold fpL updC;rw [hx,hn]
  by_cases c:k=n
  ·subst c;simp
  ·have:¬ (n:Int)=k:=by omega
   simp [c,this]
theorem RelT.app (h:RelT l i m out q C P) (hi:i<m) {n:Nat} (hx:isPn (l.getD i 0)=false) (hn:numL (l.getD i 0)=n) (hno:¬ (0≤tpO l out (l.getD i 0)∧l.getD (tpO l out (l.getD i 0)).toNat 0 = -(l.getD i 0))):RelT l (i+1) m (outS l out i) (q.set i true) (updC C n (C n++[(i:Int)])) P:=by
 have e:outS l out i=out++[i]:=by
  unfold outS;rw [if_neg fun q=>hno ⟨q.1,q.2.2⟩]
 rw [e];refine h.keep hi (fun k=>?_) fun k=>?_
 ·unfold fcL updC;rw [hx,hn]
  by_cases c:k=n
  ·subst c;simp
  ·have:¬ (n:Int)=k:=by omega
   simp [c,this]
 ·unfold fpL;rw [hx];simp
theorem zka {x:Int} (h:isPn x=false) (h2:isPn (-x)=false):numL (-x)=numL x:=by
 unfold isPn at h h2;have h:=of_decide_eq_false h;have h2:=of_decide_eq_false h2;unfold numL;rw [if_neg h,if_neg h2];split <;> split <;> omega
theorem RelT.last (h:RelT l i m out q C P) {n:Nat} (hx:isPn (l.getD i 0)=false) (hb:-1000≤l.getD i 0) (hn:numL (l.getD i 0)=n) (h0:0≤tpO l out (l.getD i 0)) (he:l.getD (tpO l out (l.getD i 0)).toNat 0 = -(l.getD i 0)):∃ A:List Nat,out.filter (fcL l n)=A++[(tpO l out (l.getD i 0)).toNat]∧(tpO l out (l.getD i 0)).toNat∈out∧(tpO l out (l.getD i 0)).toNat<i:=by
 obtain ⟨t1,t2⟩:=zha (l:=l) h.asc (l.getD i 0);generalize tpO l out (l.getD i 0)=e at *;rcases t2 with t2|⟨y,rfl,hy,ht⟩
 ·omega
 have e0:((y:Int)).toNat=y:=rfl;rw [e0] at he ⊢;have hx2:isPn (-(l.getD i 0))=false:=by unfold isPn;exact decide_eq_false (by omega)
 have hf:fcL l n y=true:=by
  unfold fcL;rw [he,hx2,zka hx hx2,hn];simp
 have hm:y∈out.filter (fcL l n):=List.mem_filter.2 ⟨hy,hf⟩;rcases List.eq_nil_or_concat (out.filter (fcL l n)) with h1|⟨A,b,h1⟩
 ·rw [h1] at hm;cases hm
 ·rw [List.concat_eq_append] at h1;refine ⟨A,?_,hy,h.lt y hy⟩;have hb2:b∈out.filter (fcL l n):=by rw [h1];simp
  obtain ⟨g1,g2⟩:=List.mem_filter.1 hb2;have hle:=t1 b ⟨g1,by
   unfold fcL at g2;simp only [Bool.and_eq_true,Bool.not_eq_true',decide_eq_true_eq] at g2;unfold tchL;rw [hx,g2.2,hn,g2.1];simp⟩
  have hasc:(A++[b]).Pairwise (· < ·):=by rw [← h1];exact h.asc.sublist List.filter_sublist
  have hyb:y≤b:=by
   rw [h1] at hm;rcases List.mem_append.1 hm with hm|hm
   ·exact Nat.le_of_lt ((List.pairwise_append.1 hasc).2.2 y hm b (by simp))
   ·have:y=b:=by simpa using hm
    omega
  have:b=y:=by omega
  rw [h1,this]
theorem zgp {A:List Nat} {e:Nat} (h:(A++[e]).Pairwise (· < ·)):(A++[e]).filter (fun y=>decide (y≠e))=A:=by
 rw [za7];have:A.filter (fun y=>decide (y≠e))=A:=List.filter_eq_self.2 fun a ha=>by
  have:=(List.pairwise_append.1 h).2.2 a ha e (by simp);exact decide_eq_true (by omega)
 rw [this];simp
theorem RelT.rem (h:RelT l i m out q C P) (hi:i<m) {n:Nat} (hx:isPn (l.getD i 0)=false) (hb:-1000≤l.getD i 0) (hn:numL (l.getD i 0)=n) (h0:0≤tpO l out (l.getD i 0)) (he:l.getD (tpO l out (l.getD i 0)).toNat 0 = -(l.getD i 0)):0<(C n).length∧(tpO l out (l.getD i 0)).toNat<i∧RelT l (i+1) m (outS l out i) (((q.set i true).set i false).set (tpO l out (l.getD i 0)).toNat false) (updC C n ((C n).take ((C n).length-1))) P:=by
 obtain ⟨A,h1,h2,h3⟩:=h.last hx hb hn h0 he;have ee:outS l out i=out.filter (fun y=>decide (y≠(tpO l out (l.getD i 0)).toNat)):=by
  unfold outS;rw [if_pos ⟨h0,hx,he⟩]
 have hx2:isPn (-(l.getD i 0))=false:=by unfold isPn;exact decide_eq_false (by omega)
 have en:numL (l.getD (tpO l out (l.getD i 0)).toNat 0)=n:=by rw [he,zka hx hx2,hn]
 have ep:isPn (l.getD (tpO l out (l.getD i 0)).toNat 0)=false:=by rw [he,hx2]
 rw [ee];generalize (tpO l out (l.getD i 0)).toNat=e at *;have hasc:(A++[e]).Pairwise (· < ·):=by rw [← h1];exact h.asc.sublist List.filter_sublist
 have hcn:C n=ofNs (A++[e]):=by rw [h.c n,h1]
 have comm:∀ p:Nat→Bool,(out.filter fun y=>decide (y≠e)).filter p=(out.filter p).filter fun y=>decide (y≠e):=fun p=>by
  rw [List.filter_filter,List.filter_filter];exact List.filter_congr fun y _=>by rw [Bool.and_comm]
 refine ⟨by rw [hcn,zai];simp,h3,⟨h.asc.sublist List.filter_sublist,fun y hy=>?_,by rw [List.length_set,List.length_set,List.length_set];exact h.ql,fun j=>?_,fun k=>?_,fun k=>?_,by have:=h.ln;have:=List.length_filter_le (fun y=>decide (y≠e)) out;omega⟩⟩
 ·have:=h.lt y (List.mem_filter.1 hy).1;omega
 ·rw [gsB,gsB,gsB];simp only [List.length_set,h.ql,List.mem_filter,decide_eq_true_eq]
  by_cases c1:j=e
  ·rw [if_pos ⟨c1,by omega⟩];simp [c1]
  ·rw [if_neg fun q=>c1 q.1]
   by_cases c2:j=i
   ·rw [if_pos ⟨c2,hi⟩];have:¬ i∈out:=fun q=>by have:=h.lt i q;omega
    simp [c2,this]
   ·rw [if_neg fun q=>c2 q.1,if_neg fun q=>c2 q.1,h.qa j];simp [c1]
 ·rw [comm];unfold updC
  by_cases c:k=n
  ·subst c;rw [if_pos rfl,h1,zgp hasc,hcn,zch,List.length_append,zai];show List.take (A.length+1-1) _=_;rw [Nat.add_sub_cancel,← zai A,List.take_left]
  ·rw [if_neg c,h.c k];congr 1;refine (List.filter_eq_self.2 fun a ha=>decide_eq_true (p:=a≠e) fun q=>?_).symm;subst q;have:=(List.mem_filter.1 ha).2;unfold fcL at this;rw [en] at this;simp at this;omega
 ·rw [comm,h.p k];congr 1;refine (List.filter_eq_self.2 fun a ha=>decide_eq_true (p:=a≠e) fun q=>?_).symm;subst q;have:=(List.mem_filter.1 ha).2;unfold fpL at this;rw [ep] at this;simp at this
theorem RelT.skip (h:RelT l i m out q C P):RelT l (i+1) m out q C P:=⟨h.asc,fun y hy=>Nat.lt_succ_of_lt (h.lt y hy),h.ql,h.qa,h.c,h.p,by have:=h.ln;omega⟩
theorem RelT.eLt (h:RelT l i m out q C P) {x:Int} (h0:0≤tpO l out x):(tpO l out x).toNat<i:=by
 obtain ⟨_,t2⟩:=zha (l:=l) h.asc x;rcases t2 with t2|⟨y,t2,hy,_⟩
 ·omega
 ·rw [t2];exact h.lt y hy
theorem RelT.cl (h:RelT l i m out q C P) (k:Nat):(C k).length≤i:=by
 rw [h.c k,zai];have:=List.length_filter_le (fcL l k) out;have:=h.ln;omega
theorem RelT.pl (h:RelT l i m out q C P) (k:Nat):(P k).length≤i:=by
 rw [h.p k,zai];have:=List.length_filter_le (fpL l k) out;have:=h.ln;omega
def mrk (m:Nat) (out:List Nat):List Bool:=(List.range m).map fun j=>decide (j∈out)
theorem ze0 (m:Nat) (out:List Nat):(mrk m out).length=m:=by unfold mrk;rw [List.length_map,List.length_range]
theorem zf4 {m:Nat} {out:List Nat} {j:Nat} (h:j<m):(mrk m out).getD j false=decide (j∈out):=by
 unfold mrk;rw [List.getD_eq_getElem?_getD,List.getElem?_map,List.getElem?_range h];rfl
theorem RelT.mrk (h:RelT l i m out q C P):q=mrk m out:=by
 apply List.ext_getElem (by rw [ze0,h.ql]);intro j h1 h2;rw [ze0] at h2;have e1:=zae (d:=false) h1;have e2:=zf4 (out:=out) h2;rw [zae (by rw [ze0];exact h2)] at e2;rw [e2,← e1];rw [Bool.eq_iff_iff,h.qa j,decide_eq_true_iff]
theorem RelT.zero (l:List Int) (m:Nat):RelT l 0 m [] (List.replicate m false) (fun _=>[]) (fun _=>[]):=⟨.nil,fun y hy=>(by cases hy),List.length_replicate ..,fun j=>by
 rw [List.getD_eq_getElem?_getD,List.getElem?_replicate]
 by_cases h:j<m
 ·rw [if_pos h];simp
 ·rw [if_neg h];simp,fun _=>rfl,fun _=>rfl,Nat.le_refl _⟩
def LetOk (x:Int):Prop:=(1000<x∧x<1048)∨(0<x∧x<48)∨(-48<x∧x<0)
noncomputable def tigL (l:List Int) (idx:List Nat):List Nat:=idx.foldl (outS l) []
end
namespace PTop
noncomputable def RUN (s:ES):ZF:=RZ 142 .nil (fun _=>false) [] [] false s
theorem in_t (rows:List (List U)) (k:Int):RUN (st0 142 [.lp (.recs [.list [.int .i64]] rows) 0 0,iv k])=(bc (bc (bc (decide (0≤k)) (Nat.blt k.toNat 49) false) true false) (bc (bc (Nat.blt (Nat.add 0 k.toNat) rows.length) true false) (bc (decide (0<Int.ofNat (List.map (fun r=>U.int (List.headD r (U.i 0))) (U.list ((rows.getD (Nat.add 0 k.toNat) []).getD 0 (U.i 0)))).length)) (bc (bc (bc (decide (0≤k)) (Nat.blt k.toNat 49) false) true false) (bc (bc (Nat.blt (Nat.add 0 k.toNat) rows.length) true false) (bc (bc (bc (decide (0≤IntKind.i64.wrap (Int.ofNat (List.map (fun r=>U.int (List.headD r (U.i 0))) (U.list ((rows.getD (Nat.add 0 k.toNat) []).getD 0 (U.i 0)))).length-(1:Int)))) (Nat.blt (IntKind.i64.wrap (Int.ofNat (List.map (fun r=>U.int (List.headD r (U.i 0))) (U.list ((rows.getD (Nat.add 0 k.toNat) []).getD 0 (U.i 0)))).length-(1:Int))).toNat (List.map (fun r=>U.int (List.headD r (U.i 0))) (U.list ((rows.getD (Nat.add 0 k.toNat) []).getD 0 (U.i 0)))).length) false) true false) (bc (bc (Nat.blt (IntKind.i64.wrap (Int.ofNat (List.map (fun r=>U.int (List.headD r (U.i 0))) (U.list ((rows.getD (Nat.add 0 k.toNat) []).getD 0 (U.i 0)))).length-(1:Int))).toNat (List.map (fun r=>U.int (List.headD r (U.i 0))) (U.list ((rows.getD (Nat.add 0 k.toNat) []).getD 0 (U.i 0)))).length) true false) (.done (iv ((List.map (fun r=>U.int (List.headD r (U.i 0))) (U.list ((rows.getD (Nat.add 0 k.toNat) []).getD 0 (U.i 0)))).getD (IntKind.i64.wrap (Int.ofNat (List.map (fun r=>U.int (List.headD r (U.i 0))) (U.list ((rows.getD (Nat.add 0 k.toNat) []).getD 0 (U.i 0)))).length-(1:Int))).toNat 0)) [] 0) .bad) .bad) .bad) .bad) (.done (iv (-1)) [] 0)) .bad) .bad):=by kernel_rfl
noncomputable def facN (rows:List (List U)) (k:Nat):List Int:=List.map (fun r=>U.int (List.headD r (U.i 0))) (U.list (List.getD (List.getD rows k []) 0 (U.i 0)))
theorem ends {rows:List (List U)} {k:Int} (h0:0≤k∧k<49) (hr:rows.length=49) (hl:(facN rows k.toNat).length≤5000):EndZ 142 .nil false (st0 142 [.lp (.recs [.list [.int .i64]] rows) 0 0,iv k]) (iv (lastI (facN rows k.toNat))) [] 0:=by
 obtain ⟨k,rfl⟩:=Int.eq_ofNat_of_zero_le h0.1;have h:=in_t rows k;have e0:Int.toNat (k:Int)=k:=rfl;have e1:Nat.add 0 k=k:=Nat.zero_add k;rw [e0] at hl ⊢;rw [e0,e1,hr] at h;have e2:List.map (fun r=>U.int (List.headD r (U.i 0))) (U.list (List.getD (List.getD rows k []) 0 (U.i 0)))=facN rows k:=rfl;rw [e2] at h;generalize facN rows k=l at *;unfold lastI
 by_cases c:0<l.length
 ·have w:IntKind.wrap IntKind.i64 (Int.ofNat l.length-1)=((l.length-1:Nat):Int):=by rw [ofn,zad _ (by omega) (by omega)];omega
  have e3:Int.toNat ((l.length-1:Nat):Int)=l.length-1:=rfl;rw [w,e3] at h;rw [dt c,bc_t];simp (disch:=omega) only [yS] at h;exact .done h
 ·rw [df c,bc_f];simp (disch:=omega) only [yS] at h;exact .done h
end PTop
noncomputable def spTop:ZCT:=fun ax=>match ax with
 | [.lp (.recs [.list [.int .i64]] rows) 0 0,.v (.int .i64 k)]=>some ⟨decide ((0≤k∧k<49)∧rows.length=49∧(PTop.facN rows k.toNat).length≤5000),iv (lastI (PTop.facN rows k.toNat)),[],0⟩
 | _=>none
theorem zrk:ZCtOk Try.prog 142 spTop:=fun γ w us ax r hs hc hax hN hfz=>by
 unfold spTop at hs;split at hs
 case h_2=>cases hs
 rename_i rows k;obtain ⟨rfl⟩:=Option.some.inj hs;have hc_0:decide ((0≤k∧k<49)∧rows.length=49∧(PTop.facN rows k.toNat).length≤5000)=true:=hc;have hc:=of_decide_eq_true hc_0;exact EndZ.calls (PTop.ends hc.1 hc.2.1 hc.2.2) (.nil _) (by kernel_rfl) hax hN hfz
noncomputable def ctTp:Tr ZCC:=Tr.nil.put 142 (some (dC spTop))
theorem zaw:ZCtsOk Try.prog ctTp:=(ZCtsOk.nil _).add rfl zrk
namespace PTgA
noncomputable def K0 (t:Int) (l:List Int):List (Nat×EK):=[(0,.cells 77 [.ptr 1 0] true),(1,.cells 24 [iv t,il l] true)]
noncomputable def RUN (s:ES):ZF:=RMs 2 117 ctTp [(atS 1 118 1,[[(0,none),(8,none),(9,none)],[(5,none)]]),(atS 2 117 12,[[(2,none),(5,none),(6,none),(7,none),(8,none),(9,none),(10,none),(11,none),(12,none)],[(0,none),(8,none),(9,none)],[(5,none)]])] [2,5,6,7] [] s
noncomputable def sA (t:Int) (l:List Int) (q:List Bool) (m:Nat) (c p:List (List U)) (vc vp:Nat) (i:Int):NS:=⟨[⟨118,17,[(0,(EV.yl 2)),(8,(iv (Int.ofNat (List.length l)))),(9,iv i)],[.it (.code (nav [1,0,0] (bodyOf Try.f118))),.it (.inLoop (nav [1,0,0] (bodyOf Try.f118))),.it (.inBlock 0)],[],Option.none⟩,⟨117,108,[(5,(EV.ptr 3 0))],[(.inRF 2),.it (.inBlock 0),.it (.code (nav [1,1,1,1] (bodyOf Try.f117)))],[(DE.mk 4)],Option.none⟩],[(0,(EK.cells 77 [(EV.ptr 1 0)] true)),(1,(EK.cells 24 [(iv t),(il l)] true)),(2,(EK.loop LoopState.ready Option.none 117 108 (Tr.node Option.none (Tr.node Option.none Tr.nil (Tr.node (Option.some (EV.ptr 5 0)) Tr.nil (Tr.node (Option.some (EV.ptr 6 0)) Tr.nil Tr.nil))) (Tr.node Option.none (Tr.node Option.none Tr.nil (Tr.node (Option.some (EV.ptr 3 0)) Tr.nil Tr.nil)) (Tr.node Option.none Tr.nil (Tr.node (Option.some (EV.ptr 7 0)) Tr.nil Tr.nil)))) (Array.mk [21]) (nav [1,1,1,0,1,0,0] (bodyOf Try.f117)) (nav [1,1,1,0,1,0,1] (bodyOf Try.f117)) 4)),(3,EK.cells 45 [EV.slO 8 1 m true] true),(4,(EK.dfr true)),(5,(EK.cells 22 [(il l)] true)),(6,(EK.cells 129 [(EV.ptrE 9 1 0 0)] true)),(7,(EK.cells 129 [(EV.ptrE 10 1 0 0)] true)),(8,EK.seq 4 (.bools q) true),(9,EK.nest 9 (131,[3]) [.list [.int .i64]] c vc [] true),(10,EK.nest 10 (131,[3]) [.list [.int .i64]] p vp [] true)],11⟩
noncomputable def sB (t:Int) (l:List Int) (q:List Bool) (m:Nat) (c p:List (List U)) (vc vp:Nat) (i x n e k:Int):NS:=⟨[⟨117,108,[(2,(EV.ptr 2 0)),(5,(EV.ptr 3 0)),(6,(EV.ptr 4 0)),(7,(EV.ptr 5 0)),(8,iv i),(9,iv x),(10,iv n),(11,iv e),(12,iv k)],[.it (.code (nav [1,1,1,0,1,0,1,0,1,1,1,1,1,0,1,0,0,0] (bodyOf Try.f117))),.it (.code (nav [1,1,1,0,1,0,1,0,1,1,1,1,1,0,1,0,0,1] (bodyOf Try.f117))),.it (.inLoop (nav [1,1,1,0,1,0,1,0,1,1,1,1,1,0,1,0,0] (bodyOf Try.f117))),.it (.inBlock 2),.it (.code (nav [1,1,1,0,1,0,1,0,1,1,1,1,1,1] (bodyOf Try.f117))),.it (.inBlock 1)],[],(Option.some 6)⟩,⟨118,17,[(0,(EV.yl 6)),(8,iv (Int.ofNat (List.length l))),(9,iv i)],[.ops (opsOf (nav [1,0,0,1,1,0,0,1,0] (bodyOf Try.f118))) ((opsOf (nav [1,0,0,1,1,0,0,1,0] (bodyOf Try.f118))).toList.drop 2),.it (.code (nav [1,0,0,1,1,0,0,1,1] (bodyOf Try.f118))),.it (.inBlock 1),.it (.code (nav [1,0,0,1,1,1] (bodyOf Try.f118))),.it (.inLoop (nav [1,0,0] (bodyOf Try.f118))),.it (.inBlock 0)],[],Option.none⟩,⟨117,108,[(5,(EV.ptr 3 0))],[(.inRF 6),.it (.inBlock 0),.it (.code (nav [1,1,1,1] (bodyOf Try.f117)))],[(DE.mk 7)],Option.none⟩],[(0,(EK.cells 77 [(EV.ptr 1 0)] true)),(1,EK.cells 24 [iv t,il l] true),(2,EK.cells 22 [il l] true),(3,EK.cells 45 [EV.slO 8 1 m true] true),(4,(EK.cells 129 [(EV.ptrE 9 1 0 0)] true)),(5,(EK.cells 129 [(EV.ptrE 10 1 0 0)] true)),(6,(EK.loop LoopState.busy Option.none 117 108 (Tr.node Option.none (Tr.node Option.none Tr.nil (Tr.node (Option.some (EV.ptr 2 0)) Tr.nil (Tr.node (Option.some (EV.ptr 4 0)) Tr.nil Tr.nil))) (Tr.node Option.none (Tr.node Option.none Tr.nil (Tr.node (Option.some (EV.ptr 3 0)) Tr.nil Tr.nil)) (Tr.node Option.none Tr.nil (Tr.node (Option.some (EV.ptr 5 0)) Tr.nil Tr.nil)))) (Array.mk [21]) (nav [1,1,1,0,1,0,0] (bodyOf Try.f117)) (nav [1,1,1,0,1,0,1] (bodyOf Try.f117)) 7)),(7,(EK.dfr true)),(8,EK.seq 4 (.bools q) true),(9,EK.nest 9 (131,[3]) [.list [.int .i64]] c vc [] true),(10,EK.nest 10 (131,[3]) [.list [.int .i64]] p vp [] true)],11⟩
theorem in_t (t:Int) (l:List Int):RUN (st0m 117 [il l,.fn 118 [.ptr 0 0]] (K0 t l) 2)=(bc (bc (decide (Int.ofNat l.length≤Int.ofNat l.length)) (decide (Int.ofNat l.length≤65536)) false) (.at (sA t l (List.replicate (Int.ofNat l.length).toNat false) (List.replicate (Int.ofNat l.length).toNat false).length (List.replicate 49 [U.l []]) (List.replicate 49 [U.l []]) (0) (0) 0)) .bad):=by kernel_rfl
theorem a_t (t:Int) (l:List Int) (q:List Bool) (m:Nat) (c p:List (List U)) (vc vp:Nat) (i:Int):RUN (stOf (sA t l q m c p vc vp i))=(bc (decide (i<Int.ofNat l.length)) (bc (bc (bc (decide (0≤i)) (Nat.blt i.toNat l.length) false) true false) (bc (bc (Nat.blt i.toNat l.length) true false) (bc (decide (1000<l.getD i.toNat 0)) (bc (bc (bc (decide (0≤i)) (Nat.blt i.toNat m) false) true false) (bc (Nat.blt i.toNat q.length) (bc (decide (1000<l.getD i.toNat 0)) (bc (bc (bc (bc (bc (decide (0≤IntKind.i64.wrap (l.getD i.toNat 0-(1000:Int)))) (Nat.blt (IntKind.i64.wrap (l.getD i.toNat 0-(1000:Int))).toNat 49) false) true false) (bc (bc (bc (Nat.blt (Nat.add 0 (IntKind.i64.wrap (l.getD i.toNat 0-(1000:Int))).toNat) p.length) true false) true false) (bc (bc (Nat.beq vp vp) (bc (Nat.blt (Nat.add 0 (IntKind.i64.wrap (l.getD i.toNat 0-(1000:Int))).toNat) p.length) (bc (Nat.beq (U.list ((p.getD (Nat.add 0 (IntKind.i64.wrap (l.getD i.toNat 0-(1000:Int))).toNat) []).getD 0 (U.i 0))).length (U.list ((p.getD (Nat.add 0 (IntKind.i64.wrap (l.getD i.toNat 0-(1000:Int))).toNat) []).getD 0 (U.i 0))).length) (Nat.ble ((U.list ((p.getD (Nat.add 0 (IntKind.i64.wrap (l.getD i.toNat 0-(1000:Int))).toNat) []).getD 0 (U.i 0))).length+([i]).length) 65536) false) false) false) (bc (bc (bc (decide (0≤IntKind.i64.wrap (l.getD i.toNat 0-(1000:Int)))) (Nat.blt (IntKind.i64.wrap (l.getD i.toNat 0-(1000:Int))).toNat 49) false) true false) (bc (bc (Nat.blt (Nat.add 0 (IntKind.i64.wrap (l.getD i.toNat 0-(1000:Int))).toNat) p.length) (bc (Nat.beq (List.map (fun r=>U.int (List.headD r (U.i 0))) (U.list ((p.getD (Nat.add 0 (IntKind.i64.wrap (l.getD i.toNat 0-(1000:Int))).toNat) []).getD 0 (U.i 0)))++[i]).length (List.map (fun r=>U.int (List.headD r (U.i 0))) (U.list ((p.getD (Nat.add 0 (IntKind.i64.wrap (l.getD i.toNat 0-(1000:Int))).toNat) []).getD 0 (U.i 0)))++[i]).length) (unHoleC (Nat.add 0 (IntKind.i64.wrap (l.getD i.toNat 0-(1000:Int))).toNat) 0 [(Nat.add 0 (IntKind.i64.wrap (l.getD i.toNat 0-(1000:Int))).toNat,0)]) false) false) true false) false) false) false) false) true false) (.at (sA t l (List.set q i.toNat true) m c (List.set p (Nat.add 0 (IntKind.i64.wrap (l.getD i.toNat 0-(1000:Int))).toNat) (rset 0 (U.l (List.map (fun x=>[U.i x]) (List.map (fun r=>U.int (List.headD r (U.i 0))) (U.list ((p.getD (Nat.add 0 (IntKind.i64.wrap (l.getD i.toNat 0-(1000:Int))).toNat) []).getD 0 (U.i 0)))++[i]))) (p.getD (Nat.add 0 (IntKind.i64.wrap (l.getD i.toNat 0-(1000:Int))).toNat) []))) vc (vp+1) (IntKind.i64.wrap (i+1)))) .bad) (.at (sB t l (List.set q i.toNat true) m c p vc vp i (l.getD i.toNat 0) (IntKind.i64.wrap (l.getD i.toNat 0-(1000:Int))) ((-1:Int)) (IntKind.i64.wrap (IntKind.i64.wrap (l.getD i.toNat 0-(1000:Int))-(1:Int)))))) .bad) .bad) (bc (decide (l.getD i.toNat 0<0)) (bc (bc (bc (decide (0≤i)) (Nat.blt i.toNat m) false) true false) (bc (Nat.blt i.toNat q.length) (bc (decide (1000<l.getD i.toNat 0)) (bc (bc (bc (bc (bc (decide (0≤IntKind.i64.wrap ((0:Int)-l.getD i.toNat 0))) (Nat.blt (IntKind.i64.wrap ((0:Int)-l.getD i.toNat 0)).toNat 49) false) true false) (bc (bc (bc (Nat.blt (Nat.add 0 (IntKind.i64.wrap ((0:Int)-l.getD i.toNat 0)).toNat) p.length) true false) true false) (bc (bc (Nat.beq vp vp) (bc (Nat.blt (Nat.add 0 (IntKind.i64.wrap ((0:Int)-l.getD i.toNat 0)).toNat) p.length) (bc (Nat.beq (U.list ((p.getD (Nat.add 0 (IntKind.i64.wrap ((0:Int)-l.getD i.toNat 0)).toNat) []).getD 0 (U.i 0))).length (U.list ((p.getD (Nat.add 0 (IntKind.i64.wrap ((0:Int)-l.getD i.toNat 0)).toNat) []).getD 0 (U.i 0))).length) (Nat.ble ((U.list ((p.getD (Nat.add 0 (IntKind.i64.wrap ((0:Int)-l.getD i.toNat 0)).toNat) []).getD 0 (U.i 0))).length+([i]).length) 65536) false) false) false) (bc (bc (bc (decide (0≤IntKind.i64.wrap ((0:Int)-l.getD i.toNat 0))) (Nat.blt (IntKind.i64.wrap ((0:Int)-l.getD i.toNat 0)).toNat 49) false) true false) (bc (bc (Nat.blt (Nat.add 0 (IntKind.i64.wrap ((0:Int)-l.getD i.toNat 0)).toNat) p.length) (bc (Nat.beq (List.map (fun r=>U.int (List.headD r (U.i 0))) (U.list ((p.getD (Nat.add 0 (IntKind.i64.wrap ((0:Int)-l.getD i.toNat 0)).toNat) []).getD 0 (U.i 0)))++[i]).length (List.map (fun r=>U.int (List.headD r (U.i 0))) (U.list ((p.getD (Nat.add 0 (IntKind.i64.wrap ((0:Int)-l.getD i.toNat 0)).toNat) []).getD 0 (U.i 0)))++[i]).length) (unHoleC (Nat.add 0 (IntKind.i64.wrap ((0:Int)-l.getD i.toNat 0)).toNat) 0 [(Nat.add 0 (IntKind.i64.wrap ((0:Int)-l.getD i.toNat 0)).toNat,0)]) false) false) true false) false) false) false) false) true false) (.at (sA t l (List.set q i.toNat true) m c (List.set p (Nat.add 0 (IntKind.i64.wrap ((0:Int)-l.getD i.toNat 0)).toNat) (rset 0 (U.l (List.map (fun x=>[U.i x]) (List.map (fun r=>U.int (List.headD r (U.i 0))) (U.list ((p.getD (Nat.add 0 (IntKind.i64.wrap ((0:Int)-l.getD i.toNat 0)).toNat) []).getD 0 (U.i 0)))++[i]))) (p.getD (Nat.add 0 (IntKind.i64.wrap ((0:Int)-l.getD i.toNat 0)).toNat) []))) vc (vp+1) (IntKind.i64.wrap (i+1)))) .bad) (.at (sB t l (List.set q i.toNat true) m c p vc vp i (l.getD i.toNat 0) (IntKind.i64.wrap ((0:Int)-l.getD i.toNat 0)) ((-1:Int)) (IntKind.i64.wrap (IntKind.i64.wrap ((0:Int)-l.getD i.toNat 0)-(1:Int)))))) .bad) .bad) (bc (bc (bc (decide (0≤i)) (Nat.blt i.toNat m) false) true false) (bc (Nat.blt i.toNat q.length) (bc (decide (1000<l.getD i.toNat 0)) (bc (bc (bc (bc (bc (decide (0≤l.getD i.toNat 0)) (Nat.blt (l.getD i.toNat 0).toNat 49) false) true false) (bc (bc (bc (Nat.blt (Nat.add 0 (l.getD i.toNat 0).toNat) p.length) true false) true false) (bc (bc (Nat.beq vp vp) (bc (Nat.blt (Nat.add 0 (l.getD i.toNat 0).toNat) p.length) (bc (Nat.beq (U.list ((p.getD (Nat.add 0 (l.getD i.toNat 0).toNat) []).getD 0 (U.i 0))).length (U.list ((p.getD (Nat.add 0 (l.getD i.toNat 0).toNat) []).getD 0 (U.i 0))).length) (Nat.ble ((U.list ((p.getD (Nat.add 0 (l.getD i.toNat 0).toNat) []).getD 0 (U.i 0))).length+([i]).length) 65536) false) false) false) (bc (bc (bc (decide (0≤l.getD i.toNat 0)) (Nat.blt (l.getD i.toNat 0).toNat 49) false) true false) (bc (bc (Nat.blt (Nat.add 0 (l.getD i.toNat 0).toNat) p.length) (bc (Nat.beq (List.map (fun r=>U.int (List.headD r (U.i 0))) (U.list ((p.getD (Nat.add 0 (l.getD i.toNat 0).toNat) []).getD 0 (U.i 0)))++[i]).length (List.map (fun r=>U.int (List.headD r (U.i 0))) (U.list ((p.getD (Nat.add 0 (l.getD i.toNat 0).toNat) []).getD 0 (U.i 0)))++[i]).length) (unHoleC (Nat.add 0 (l.getD i.toNat 0).toNat) 0 [(Nat.add 0 (l.getD i.toNat 0).toNat,0)]) false) false) true false) false) false) false) false) true false) (.at (sA t l (List.set q i.toNat true) m c (List.set p (Nat.add 0 (l.getD i.toNat 0).toNat) (rset 0 (U.l (List.map (fun x=>[U.i x]) (List.map (fun r=>U.int (List.headD r (U.i 0))) (U.list ((p.getD (Nat.add 0 (l.getD i.toNat 0).toNat) []).getD 0 (U.i 0)))++[i]))) (p.getD (Nat.add 0 (l.getD i.toNat 0).toNat) []))) vc (vp+1) (IntKind.i64.wrap (i+1)))) .bad) (.at (sB t l (List.set q i.toNat true) m c p vc vp i (l.getD i.toNat 0) (l.getD i.toNat 0) ((-1:Int)) (IntKind.i64.wrap (l.getD i.toNat 0-(1:Int)))))) .bad) .bad))) .bad) .bad) (.done (EV.slO 2 1 m true) [(0,(EK.cells 77 [(EV.ptr 1 0)] true)),(1,(EK.cells 24 [(iv t),(il l)] true)),(2,(EK.seq 4 (SyC.bools q) true))] 3)):=by kernel_rfl
theorem b_t (t:Int) (l:List Int) (q:List Bool) (m:Nat) (c p:List (List U)) (vc vp:Nat) (i x n e k:Int):RUN (stOf (sB t l q m c p vc vp i x n e k))=(bc (decide (k≤IntKind.i64.wrap (n+1))) (bc (bc (bc (bc (bc (bc (bc (Nat.blt 0 c.length) (Nat.ble c.length 65536) false) true false) (decide ((0≤k∧k<49)∧c.length=49∧(PTop.facN c k.toNat).length≤5000)) false) true false) (bc (bc (bc (bc (bc (Nat.blt 0 p.length) (Nat.ble p.length 65536) false) true false) (decide ((0≤k∧k<49)∧p.length=49∧(PTop.facN p k.toNat).length≤5000)) false) true false) true false) false) true false) (.at (sB t l q m c p vc vp i x n (if lastI (PTop.facN p k.toNat) > if lastI (PTop.facN c k.toNat) > e then lastI (PTop.facN c k.toNat) else e then lastI (PTop.facN p k.toNat) else if lastI (PTop.facN c k.toNat) > e then lastI (PTop.facN c k.toNat) else e) (IntKind.i64.wrap (k+1)))) .bad) (bc (decide (0≤e)) (bc (bc (bc (decide (0≤e)) (Nat.blt e.toNat l.length) false) true false) (bc (bc (Nat.blt e.toNat l.length) true false) (bc (l.getD e.toNat 0==IntKind.i64.wrap ((0:Int)-x)) (bc (bc (bc (bc (bc (decide (0≤i)) (Nat.blt i.toNat m) false) true false) (bc (Nat.blt i.toNat q.length) (bc (bc (bc (decide (0≤e)) (Nat.blt e.toNat m) false) true false) (bc (Nat.blt e.toNat (List.set q i.toNat false).length) true false) false) false) false) (bc (bc (bc (bc (Nat.beq m m) (eqN true true) false) true false) true false) true false) false) (bc (bc (bc (bc (bc (decide (0≤n)) (Nat.blt n.toNat 49) false) true false) (bc (bc (bc (Nat.blt (Nat.add 0 n.toNat) c.length) true false) true false) (bc (bc (bc (decide (0≤n)) (Nat.blt n.toNat 49) false) true false) (bc (bc (bc (Nat.blt (Nat.add 0 n.toNat) c.length) true false) true false) (bc (bc (bc (decide (0≤IntKind.i64.wrap (Int.ofNat (U.list ((c.getD (Nat.add 0 n.toNat) []).getD 0 (U.i 0))).length-(1:Int)))) (decide (IntKind.i64.wrap (Int.ofNat (U.list ((c.getD (Nat.add 0 n.toNat) []).getD 0 (U.i 0))).length-(1:Int))≤Int.ofNat (U.list ((c.getD (Nat.add 0 n.toNat) []).getD 0 (U.i 0))).length)) false) true false) (bc (bc (bc (decide (0≤n)) (Nat.blt n.toNat 49) false) true false) (bc (bc (Nat.beq vc vc) (bc (bc (Nat.beq (Nat.add 0 n.toNat) (Nat.add 0 n.toNat)) (Nat.beq 0 0) false) (bc (Nat.blt (Nat.add 0 n.toNat) c.length) (Nat.ble (IntKind.i64.wrap (Int.ofNat (U.list ((c.getD (Nat.add 0 n.toNat) []).getD 0 (U.i 0))).length-(1:Int))).toNat (U.list ((c.getD (Nat.add 0 n.toNat) []).getD 0 (U.i 0))).length) false) false) false) true false) false) false) false) false) false) false) true false) (.at (sA t l (List.set (List.set q i.toNat false) e.toNat false) m (List.set c (Nat.add 0 n.toNat) (rset 0 (U.l (List.take (IntKind.i64.wrap (Int.ofNat (U.list ((c.getD (Nat.add 0 n.toNat) []).getD 0 (U.i 0))).length-(1:Int))).toNat (U.list ((c.getD (Nat.add 0 n.toNat) []).getD 0 (U.i 0))))) (c.getD (Nat.add 0 n.toNat) []))) p vc vp (IntKind.i64.wrap (i+1)))) .bad) .bad) (bc (bc (bc (bc (bc (decide (0≤n)) (Nat.blt n.toNat 49) false) true false) (bc (bc (bc (Nat.blt (Nat.add 0 n.toNat) c.length) true false) true false) (bc (bc (Nat.beq vc vc) (bc (Nat.blt (Nat.add 0 n.toNat) c.length) (bc (Nat.beq (U.list ((c.getD (Nat.add 0 n.toNat) []).getD 0 (U.i 0))).length (U.list ((c.getD (Nat.add 0 n.toNat) []).getD 0 (U.i 0))).length) (Nat.ble ((U.list ((c.getD (Nat.add 0 n.toNat) []).getD 0 (U.i 0))).length+([i]).length) 65536) false) false) false) (bc (bc (bc (decide (0≤n)) (Nat.blt n.toNat 49) false) true false) (bc (bc (Nat.blt (Nat.add 0 n.toNat) c.length) (bc (Nat.beq (List.map (fun r=>U.int (List.headD r (U.i 0))) (U.list ((c.getD (Nat.add 0 n.toNat) []).getD 0 (U.i 0)))++[i]).length (List.map (fun r=>U.int (List.headD r (U.i 0))) (U.list ((c.getD (Nat.add 0 n.toNat) []).getD 0 (U.i 0)))++[i]).length) (unHoleC (Nat.add 0 n.toNat) 0 [(Nat.add 0 n.toNat,0)]) false) false) true false) false) false) false) false) true false) (.at (sA t l q m (List.set c (Nat.add 0 n.toNat) (rset 0 (U.l (List.map (fun x=>[U.i x]) (List.map (fun r=>U.int (List.headD r (U.i 0))) (U.list ((c.getD (Nat.add 0 n.toNat) []).getD 0 (U.i 0)))++[i]))) (c.getD (Nat.add 0 n.toNat) []))) p (vc+1) vp (IntKind.i64.wrap (i+1)))) .bad)) .bad) .bad) (bc (bc (bc (bc (bc (decide (0≤n)) (Nat.blt n.toNat 49) false) true false) (bc (bc (bc (Nat.blt (Nat.add 0 n.toNat) c.length) true false) true false) (bc (bc (Nat.beq vc vc) (bc (Nat.blt (Nat.add 0 n.toNat) c.length) (bc (Nat.beq (U.list ((c.getD (Nat.add 0 n.toNat) []).getD 0 (U.i 0))).length (U.list ((c.getD (Nat.add 0 n.toNat) []).getD 0 (U.i 0))).length) (Nat.ble ((U.list ((c.getD (Nat.add 0 n.toNat) []).getD 0 (U.i 0))).length+([i]).length) 65536) false) false) false) (bc (bc (bc (decide (0≤n)) (Nat.blt n.toNat 49) false) true false) (bc (bc (Nat.blt (Nat.add 0 n.toNat) c.length) (bc (Nat.beq (List.map (fun r=>U.int (List.headD r (U.i 0))) (U.list ((c.getD (Nat.add 0 n.toNat) []).getD 0 (U.i 0)))++[i]).length (List.map (fun r=>U.int (List.headD r (U.i 0))) (U.list ((c.getD (Nat.add 0 n.toNat) []).getD 0 (U.i 0)))++[i]).length) (unHoleC (Nat.add 0 n.toNat) 0 [(Nat.add 0 n.toNat,0)]) false) false) true false) false) false) false) false) true false) (.at (sA t l q m (List.set c (Nat.add 0 n.toNat) (rset 0 (U.l (List.map (fun x=>[U.i x]) (List.map (fun r=>U.int (List.headD r (U.i 0))) (U.list ((c.getD (Nat.add 0 n.toNat) []).getD 0 (U.i 0)))++[i]))) (c.getD (Nat.add 0 n.toNat) []))) p (vc+1) vp (IntKind.i64.wrap (i+1)))) .bad))):=by kernel_rfl
end PTgA
namespace PTgB
noncomputable def K0 (b:List Bool) (nb:Bool):List (Nat×EK):=[(0,.cells 45 [.slO 1 1 b.length nb] true),(1,.seq 4 (.bools b) nb)]
noncomputable def RUN (s:ES):ZF:=RMs 2 117 ctTp [(atS 1 116 1,[[(0,none),(5,none),(6,none),(7,none)],[(5,none)]]),(atS 2 117 12,[[(2,none),(5,none),(6,none),(7,none),(8,none),(9,none),(10,none),(11,none),(12,none)],[(0,none),(5,none),(6,none),(7,none),(13,none)],[(5,none)]])] [2,5,6,7] [] s
noncomputable def sA (b:List Bool) (nb:Bool) (l:List Int) (q:List Bool) (m:Nat) (c p:List (List U)) (vc vp:Nat) (i:Int):NS:=⟨[⟨116,20,[(0,(EV.yl 2)),(5,(EV.slO 1 1 (List.length b) nb)),(6,(iv (Int.ofNat (List.length b)))),(7,iv i)],[.it (.code (nav [1,0,0] (bodyOf Try.f116))),.it (.inLoop (nav [1,0,0] (bodyOf Try.f116))),.it (.inBlock 0)],[],Option.none⟩,⟨117,108,[(5,(EV.ptr 3 0))],[(.inRF 2),.it (.inBlock 0),.it (.code (nav [1,1,1,1] (bodyOf Try.f117)))],[(DE.mk 4)],Option.none⟩],[(0,(EK.cells 45 [(EV.slO 1 1 (List.length b) nb)] true)),(1,(EK.seq 4 (SyC.bools b) nb)),(2,(EK.loop LoopState.ready Option.none 117 108 (Tr.node Option.none (Tr.node Option.none Tr.nil (Tr.node (Option.some (EV.ptr 5 0)) Tr.nil (Tr.node (Option.some (EV.ptr 6 0)) Tr.nil Tr.nil))) (Tr.node Option.none (Tr.node Option.none Tr.nil (Tr.node (Option.some (EV.ptr 3 0)) Tr.nil Tr.nil)) (Tr.node Option.none Tr.nil (Tr.node (Option.some (EV.ptr 7 0)) Tr.nil Tr.nil)))) (Array.mk [21]) (nav [1,1,1,0,1,0,0] (bodyOf Try.f117)) (nav [1,1,1,0,1,0,1] (bodyOf Try.f117)) 4)),(3,EK.cells 45 [EV.slO 8 1 m true] true),(4,(EK.dfr true)),(5,(EK.cells 22 [(il l)] true)),(6,(EK.cells 129 [(EV.ptrE 9 1 0 0)] true)),(7,(EK.cells 129 [(EV.ptrE 10 1 0 0)] true)),(8,EK.seq 4 (.bools q) true),(9,EK.nest 9 (131,[3]) [.list [.int .i64]] c vc [] true),(10,EK.nest 10 (131,[3]) [.list [.int .i64]] p vp [] true)],11⟩
noncomputable def sB (b:List Bool) (nb:Bool) (l:List Int) (q:List Bool) (m:Nat) (c p:List (List U)) (vc vp:Nat) (i x n e k:Int):NS:=⟨[⟨117,108,[(2,(EV.ptr 2 0)),(5,(EV.ptr 3 0)),(6,(EV.ptr 4 0)),(7,(EV.ptr 5 0)),(8,iv i),(9,iv x),(10,iv n),(11,iv e),(12,iv k)],[.it (.code (nav [1,1,1,0,1,0,1,0,1,1,1,1,1,0,1,0,0,0] (bodyOf Try.f117))),.it (.code (nav [1,1,1,0,1,0,1,0,1,1,1,1,1,0,1,0,0,1] (bodyOf Try.f117))),.it (.inLoop (nav [1,1,1,0,1,0,1,0,1,1,1,1,1,0,1,0,0] (bodyOf Try.f117))),.it (.inBlock 2),.it (.code (nav [1,1,1,0,1,0,1,0,1,1,1,1,1,1] (bodyOf Try.f117))),.it (.inBlock 1)],[],(Option.some 6)⟩,⟨116,20,[(0,(EV.yl 6)),(5,EV.slO 1 1 (List.length b) nb),(6,iv (Int.ofNat (List.length b))),(7,iv i),(13,(bv true))],[.ops (opsOf (nav [1,0,0,1,1,0,0,1,0] (bodyOf Try.f116))) ((opsOf (nav [1,0,0,1,1,0,0,1,0] (bodyOf Try.f116))).toList.drop 4),.it (.code (nav [1,0,0,1,1,0,0,1,1] (bodyOf Try.f116))),.it (.inBlock 1),.it (.code (nav [1,0,0,1,1,1] (bodyOf Try.f116))),.it (.inLoop (nav [1,0,0] (bodyOf Try.f116))),.it (.inBlock 0)],[],Option.none⟩,⟨117,108,[(5,(EV.ptr 3 0))],[(.inRF 6),.it (.inBlock 0),.it (.code (nav [1,1,1,1] (bodyOf Try.f117)))],[(DE.mk 7)],Option.none⟩],[(0,EK.cells 45 [.slO 1 1 (List.length b) nb] true),(1,EK.seq 4 (.bools b) nb),(2,EK.cells 22 [il l] true),(3,EK.cells 45 [EV.slO 8 1 m true] true),(4,(EK.cells 129 [(EV.ptrE 9 1 0 0)] true)),(5,(EK.cells 129 [(EV.ptrE 10 1 0 0)] true)),(6,(EK.loop LoopState.busy Option.none 117 108 (Tr.node Option.none (Tr.node Option.none Tr.nil (Tr.node (Option.some (EV.ptr 2 0)) Tr.nil (Tr.node (Option.some (EV.ptr 4 0)) Tr.nil Tr.nil))) (Tr.node Option.none (Tr.node Option.none Tr.nil (Tr.node (Option.some (EV.ptr 3 0)) Tr.nil Tr.nil)) (Tr.node Option.none Tr.nil (Tr.node (Option.some (EV.ptr 5 0)) Tr.nil Tr.nil)))) (Array.mk [21]) (nav [1,1,1,0,1,0,0] (bodyOf Try.f117)) (nav [1,1,1,0,1,0,1] (bodyOf Try.f117)) 7)),(7,(EK.dfr true)),(8,EK.seq 4 (.bools q) true),(9,EK.nest 9 (131,[3]) [.list [.int .i64]] c vc [] true),(10,EK.nest 10 (131,[3]) [.list [.int .i64]] p vp [] true)],11⟩
theorem in_t (b:List Bool) (nb:Bool) (l:List Int):RUN (st0m 117 [il l,.fn 116 [.ptr 0 0]] (K0 b nb) 2)=(bc (bc (decide (Int.ofNat l.length≤Int.ofNat l.length)) (decide (Int.ofNat l.length≤65536)) false) (.at (sA b nb l (List.replicate (Int.ofNat l.length).toNat false) (List.replicate (Int.ofNat l.length).toNat false).length (List.replicate 49 [U.l []]) (List.replicate 49 [U.l []]) (0) (0) 0)) .bad):=by kernel_rfl
theorem a_t (b:List Bool) (nb:Bool) (l:List Int) (q:List Bool) (m:Nat) (c p:List (List U)) (vc vp:Nat) (i:Int):RUN (stOf (sA b nb l q m c p vc vp i))=(bc (decide (i<Int.ofNat b.length)) (bc (bc (bc (decide (0≤i)) (Nat.blt i.toNat b.length) false) true false) (bc (bc (Nat.blt i.toNat b.length) true false) (bc (b.getD i.toNat false) (bc (bc (bc (decide (0≤i)) (Nat.blt i.toNat l.length) false) true false) (bc (bc (Nat.blt i.toNat l.length) true false) (bc (decide (1000<l.getD i.toNat 0)) (bc (bc (bc (decide (0≤i)) (Nat.blt i.toNat m) false) true false) (bc (Nat.blt i.toNat q.length) (bc (decide (1000<l.getD i.toNat 0)) (bc (bc (bc (bc (bc (decide (0≤IntKind.i64.wrap (l.getD i.toNat 0-(1000:Int)))) (Nat.blt (IntKind.i64.wrap (l.getD i.toNat 0-(1000:Int))).toNat 49) false) true false) (bc (bc (bc (Nat.blt (Nat.add 0 (IntKind.i64.wrap (l.getD i.toNat 0-(1000:Int))).toNat) p.length) true false) true false) (bc (bc (Nat.beq vp vp) (bc (Nat.blt (Nat.add 0 (IntKind.i64.wrap (l.getD i.toNat 0-(1000:Int))).toNat) p.length) (bc (Nat.beq (U.list ((p.getD (Nat.add 0 (IntKind.i64.wrap (l.getD i.toNat 0-(1000:Int))).toNat) []).getD 0 (U.i 0))).length (U.list ((p.getD (Nat.add 0 (IntKind.i64.wrap (l.getD i.toNat 0-(1000:Int))).toNat) []).getD 0 (U.i 0))).length) (Nat.ble ((U.list ((p.getD (Nat.add 0 (IntKind.i64.wrap (l.getD i.toNat 0-(1000:Int))).toNat) []).getD 0 (U.i 0))).length+([i]).length) 65536) false) false) false) (bc (bc (bc (decide (0≤IntKind.i64.wrap (l.getD i.toNat 0-(1000:Int)))) (Nat.blt (IntKind.i64.wrap (l.getD i.toNat 0-(1000:Int))).toNat 49) false) true false) (bc (bc (Nat.blt (Nat.add 0 (IntKind.i64.wrap (l.getD i.toNat 0-(1000:Int))).toNat) p.length) (bc (Nat.beq (List.map (fun r=>U.int (List.headD r (U.i 0))) (U.list ((p.getD (Nat.add 0 (IntKind.i64.wrap (l.getD i.toNat 0-(1000:Int))).toNat) []).getD 0 (U.i 0)))++[i]).length (List.map (fun r=>U.int (List.headD r (U.i 0))) (U.list ((p.getD (Nat.add 0 (IntKind.i64.wrap (l.getD i.toNat 0-(1000:Int))).toNat) []).getD 0 (U.i 0)))++[i]).length) (unHoleC (Nat.add 0 (IntKind.i64.wrap (l.getD i.toNat 0-(1000:Int))).toNat) 0 [(Nat.add 0 (IntKind.i64.wrap (l.getD i.toNat 0-(1000:Int))).toNat,0)]) false) false) true false) false) false) false) false) true false) (.at (sA b nb l (List.set q i.toNat true) m c (List.set p (Nat.add 0 (IntKind.i64.wrap (l.getD i.toNat 0-(1000:Int))).toNat) (rset 0 (U.l (List.map (fun x=>[U.i x]) (List.map (fun r=>U.int (List.headD r (U.i 0))) (U.list ((p.getD (Nat.add 0 (IntKind.i64.wrap (l.getD i.toNat 0-(1000:Int))).toNat) []).getD 0 (U.i 0)))++[i]))) (p.getD (Nat.add 0 (IntKind.i64.wrap (l.getD i.toNat 0-(1000:Int))).toNat) []))) vc (vp+1) (IntKind.i64.wrap (i+1)))) .bad) (.at (sB b nb l (List.set q i.toNat true) m c p vc vp i (l.getD i.toNat 0) (IntKind.i64.wrap (l.getD i.toNat 0-(1000:Int))) ((-1:Int)) (IntKind.i64.wrap (IntKind.i64.wrap (l.getD i.toNat 0-(1000:Int))-(1:Int)))))) .bad) .bad) (bc (decide (l.getD i.toNat 0<0)) (bc (bc (bc (decide (0≤i)) (Nat.blt i.toNat m) false) true false) (bc (Nat.blt i.toNat q.length) (bc (decide (1000<l.getD i.toNat 0)) (bc (bc (bc (bc (bc (decide (0≤IntKind.i64.wrap ((0:Int)-l.getD i.toNat 0))) (Nat.blt (IntKind.i64.wrap ((0:Int)-l.getD i.toNat 0)).toNat 49) false) true false) (bc (bc (bc (Nat.blt (Nat.add 0 (IntKind.i64.wrap ((0:Int)-l.getD i.toNat 0)).toNat) p.length) true false) true false) (bc (bc (Nat.beq vp vp) (bc (Nat.blt (Nat.add 0 (IntKind.i64.wrap ((0:Int)-l.getD i.toNat 0)).toNat) p.length) (bc (Nat.beq (U.list ((p.getD (Nat.add 0 (IntKind.i64.wrap ((0:Int)-l.getD i.toNat 0)).toNat) []).getD 0 (U.i 0))).length (U.list ((p.getD (Nat.add 0 (IntKind.i64.wrap ((0:Int)-l.getD i.toNat 0)).toNat) []).getD 0 (U.i 0))).length) (Nat.ble ((U.list ((p.getD (Nat.add 0 (IntKind.i64.wrap ((0:Int)-l.getD i.toNat 0)).toNat) []).getD 0 (U.i 0))).length+([i]).length) 65536) false) false) false) (bc (bc (bc (decide (0≤IntKind.i64.wrap ((0:Int)-l.getD i.toNat 0))) (Nat.blt (IntKind.i64.wrap ((0:Int)-l.getD i.toNat 0)).toNat 49) false) true false) (bc (bc (Nat.blt (Nat.add 0 (IntKind.i64.wrap ((0:Int)-l.getD i.toNat 0)).toNat) p.length) (bc (Nat.beq (List.map (fun r=>U.int (List.headD r (U.i 0))) (U.list ((p.getD (Nat.add 0 (IntKind.i64.wrap ((0:Int)-l.getD i.toNat 0)).toNat) []).getD 0 (U.i 0)))++[i]).length (List.map (fun r=>U.int (List.headD r (U.i 0))) (U.list ((p.getD (Nat.add 0 (IntKind.i64.wrap ((0:Int)-l.getD i.toNat 0)).toNat) []).getD 0 (U.i 0)))++[i]).length) (unHoleC (Nat.add 0 (IntKind.i64.wrap ((0:Int)-l.getD i.toNat 0)).toNat) 0 [(Nat.add 0 (IntKind.i64.wrap ((0:Int)-l.getD i.toNat 0)).toNat,0)]) false) false) true false) false) false) false) false) true false) (.at (sA b nb l (List.set q i.toNat true) m c (List.set p (Nat.add 0 (IntKind.i64.wrap ((0:Int)-l.getD i.toNat 0)).toNat) (rset 0 (U.l (List.map (fun x=>[U.i x]) (List.map (fun r=>U.int (List.headD r (U.i 0))) (U.list ((p.getD (Nat.add 0 (IntKind.i64.wrap ((0:Int)-l.getD i.toNat 0)).toNat) []).getD 0 (U.i 0)))++[i]))) (p.getD (Nat.add 0 (IntKind.i64.wrap ((0:Int)-l.getD i.toNat 0)).toNat) []))) vc (vp+1) (IntKind.i64.wrap (i+1)))) .bad) (.at (sB b nb l (List.set q i.toNat true) m c p vc vp i (l.getD i.toNat 0) (IntKind.i64.wrap ((0:Int)-l.getD i.toNat 0)) ((-1:Int)) (IntKind.i64.wrap (IntKind.i64.wrap ((0:Int)-l.getD i.toNat 0)-(1:Int)))))) .bad) .bad) (bc (bc (bc (decide (0≤i)) (Nat.blt i.toNat m) false) true false) (bc (Nat.blt i.toNat q.length) (bc (decide (1000<l.getD i.toNat 0)) (bc (bc (bc (bc (bc (decide (0≤l.getD i.toNat 0)) (Nat.blt (l.getD i.toNat 0).toNat 49) false) true false) (bc (bc (bc (Nat.blt (Nat.add 0 (l.getD i.toNat 0).toNat) p.length) true false) true false) (bc (bc (Nat.beq vp vp) (bc (Nat.blt (Nat.add 0 (l.getD i.toNat 0).toNat) p.length) (bc (Nat.beq (U.list ((p.getD (Nat.add 0 (l.getD i.toNat 0).toNat) []).getD 0 (U.i 0))).length (U.list ((p.getD (Nat.add 0 (l.getD i.toNat 0).toNat) []).getD 0 (U.i 0))).length) (Nat.ble ((U.list ((p.getD (Nat.add 0 (l.getD i.toNat 0).toNat) []).getD 0 (U.i 0))).length+([i]).length) 65536) false) false) false) (bc (bc (bc (decide (0≤l.getD i.toNat 0)) (Nat.blt (l.getD i.toNat 0).toNat 49) false) true false) (bc (bc (Nat.blt (Nat.add 0 (l.getD i.toNat 0).toNat) p.length) (bc (Nat.beq (List.map (fun r=>U.int (List.headD r (U.i 0))) (U.list ((p.getD (Nat.add 0 (l.getD i.toNat 0).toNat) []).getD 0 (U.i 0)))++[i]).length (List.map (fun r=>U.int (List.headD r (U.i 0))) (U.list ((p.getD (Nat.add 0 (l.getD i.toNat 0).toNat) []).getD 0 (U.i 0)))++[i]).length) (unHoleC (Nat.add 0 (l.getD i.toNat 0).toNat) 0 [(Nat.add 0 (l.getD i.toNat 0).toNat,0)]) false) false) true false) false) false) false) false) true false) (.at (sA b nb l (List.set q i.toNat true) m c (List.set p (Nat.add 0 (l.getD i.toNat 0).toNat) (rset 0 (U.l (List.map (fun x=>[U.i x]) (List.map (fun r=>U.int (List.headD r (U.i 0))) (U.list ((p.getD (Nat.add 0 (l.getD i.toNat 0).toNat) []).getD 0 (U.i 0)))++[i]))) (p.getD (Nat.add 0 (l.getD i.toNat 0).toNat) []))) vc (vp+1) (IntKind.i64.wrap (i+1)))) .bad) (.at (sB b nb l (List.set q i.toNat true) m c p vc vp i (l.getD i.toNat 0) (l.getD i.toNat 0) ((-1:Int)) (IntKind.i64.wrap (l.getD i.toNat 0-(1:Int)))))) .bad) .bad))) .bad) .bad) (.at (sA b nb l q m c p vc vp (IntKind.i64.wrap (i+1))))) .bad) .bad) (.done (EV.slO 2 1 m true) [(0,(EK.cells 45 [(EV.slO 1 1 b.length nb)] true)),(1,(EK.seq 4 (SyC.bools b) nb)),(2,(EK.seq 4 (SyC.bools q) true))] 3)):=by kernel_rfl
theorem b_t (b:List Bool) (nb:Bool) (l:List Int) (q:List Bool) (m:Nat) (c p:List (List U)) (vc vp:Nat) (i x n e k:Int):RUN (stOf (sB b nb l q m c p vc vp i x n e k))=(bc (decide (k≤IntKind.i64.wrap (n+1))) (bc (bc (bc (bc (bc (bc (bc (Nat.blt 0 c.length) (Nat.ble c.length 65536) false) true false) (decide ((0≤k∧k<49)∧c.length=49∧(PTop.facN c k.toNat).length≤5000)) false) true false) (bc (bc (bc (bc (bc (Nat.blt 0 p.length) (Nat.ble p.length 65536) false) true false) (decide ((0≤k∧k<49)∧p.length=49∧(PTop.facN p k.toNat).length≤5000)) false) true false) true false) false) true false) (.at (sB b nb l q m c p vc vp i x n (if lastI (PTop.facN p k.toNat) > if lastI (PTop.facN c k.toNat) > e then lastI (PTop.facN c k.toNat) else e then lastI (PTop.facN p k.toNat) else if lastI (PTop.facN c k.toNat) > e then lastI (PTop.facN c k.toNat) else e) (IntKind.i64.wrap (k+1)))) .bad) (bc (decide (0≤e)) (bc (bc (bc (decide (0≤e)) (Nat.blt e.toNat l.length) false) true false) (bc (bc (Nat.blt e.toNat l.length) true false) (bc (l.getD e.toNat 0==IntKind.i64.wrap ((0:Int)-x)) (bc (bc (bc (bc (bc (decide (0≤i)) (Nat.blt i.toNat m) false) true false) (bc (Nat.blt i.toNat q.length) (bc (bc (bc (decide (0≤e)) (Nat.blt e.toNat m) false) true false) (bc (Nat.blt e.toNat (List.set q i.toNat false).length) true false) false) false) false) (bc (bc (bc (bc (Nat.beq m m) (eqN true true) false) true false) true false) true false) false) (bc (bc (bc (bc (bc (decide (0≤n)) (Nat.blt n.toNat 49) false) true false) (bc (bc (bc (Nat.blt (Nat.add 0 n.toNat) c.length) true false) true false) (bc (bc (bc (decide (0≤n)) (Nat.blt n.toNat 49) false) true false) (bc (bc (bc (Nat.blt (Nat.add 0 n.toNat) c.length) true false) true false) (bc (bc (bc (decide (0≤IntKind.i64.wrap (Int.ofNat (U.list ((c.getD (Nat.add 0 n.toNat) []).getD 0 (U.i 0))).length-(1:Int)))) (decide (IntKind.i64.wrap (Int.ofNat (U.list ((c.getD (Nat.add 0 n.toNat) []).getD 0 (U.i 0))).length-(1:Int))≤Int.ofNat (U.list ((c.getD (Nat.add 0 n.toNat) []).getD 0 (U.i 0))).length)) false) true false) (bc (bc (bc (decide (0≤n)) (Nat.blt n.toNat 49) false) true false) (bc (bc (Nat.beq vc vc) (bc (bc (Nat.beq (Nat.add 0 n.toNat) (Nat.add 0 n.toNat)) (Nat.beq 0 0) false) (bc (Nat.blt (Nat.add 0 n.toNat) c.length) (Nat.ble (IntKind.i64.wrap (Int.ofNat (U.list ((c.getD (Nat.add 0 n.toNat) []).getD 0 (U.i 0))).length-(1:Int))).toNat (U.list ((c.getD (Nat.add 0 n.toNat) []).getD 0 (U.i 0))).length) false) false) false) true false) false) false) false) false) false) false) true false) (.at (sA b nb l (List.set (List.set q i.toNat false) e.toNat false) m (List.set c (Nat.add 0 n.toNat) (rset 0 (U.l (List.take (IntKind.i64.wrap (Int.ofNat (U.list ((c.getD (Nat.add 0 n.toNat) []).getD 0 (U.i 0))).length-(1:Int))).toNat (U.list ((c.getD (Nat.add 0 n.toNat) []).getD 0 (U.i 0))))) (c.getD (Nat.add 0 n.toNat) []))) p vc vp (IntKind.i64.wrap (i+1)))) .bad) .bad) (bc (bc (bc (bc (bc (decide (0≤n)) (Nat.blt n.toNat 49) false) true false) (bc (bc (bc (Nat.blt (Nat.add 0 n.toNat) c.length) true false) true false) (bc (bc (Nat.beq vc vc) (bc (Nat.blt (Nat.add 0 n.toNat) c.length) (bc (Nat.beq (U.list ((c.getD (Nat.add 0 n.toNat) []).getD 0 (U.i 0))).length (U.list ((c.getD (Nat.add 0 n.toNat) []).getD 0 (U.i 0))).length) (Nat.ble ((U.list ((c.getD (Nat.add 0 n.toNat) []).getD 0 (U.i 0))).length+([i]).length) 65536) false) false) false) (bc (bc (bc (decide (0≤n)) (Nat.blt n.toNat 49) false) true false) (bc (bc (Nat.blt (Nat.add 0 n.toNat) c.length) (bc (Nat.beq (List.map (fun r=>U.int (List.headD r (U.i 0))) (U.list ((c.getD (Nat.add 0 n.toNat) []).getD 0 (U.i 0)))++[i]).length (List.map (fun r=>U.int (List.headD r (U.i 0))) (U.list ((c.getD (Nat.add 0 n.toNat) []).getD 0 (U.i 0)))++[i]).length) (unHoleC (Nat.add 0 n.toNat) 0 [(Nat.add 0 n.toNat,0)]) false) false) true false) false) false) false) false) true false) (.at (sA b nb l q m (List.set c (Nat.add 0 n.toNat) (rset 0 (U.l (List.map (fun x=>[U.i x]) (List.map (fun r=>U.int (List.headD r (U.i 0))) (U.list ((c.getD (Nat.add 0 n.toNat) []).getD 0 (U.i 0)))++[i]))) (c.getD (Nat.add 0 n.toNat) []))) p (vc+1) vp (IntKind.i64.wrap (i+1)))) .bad)) .bad) .bad) (bc (bc (bc (bc (bc (decide (0≤n)) (Nat.blt n.toNat 49) false) true false) (bc (bc (bc (Nat.blt (Nat.add 0 n.toNat) c.length) true false) true false) (bc (bc (Nat.beq vc vc) (bc (Nat.blt (Nat.add 0 n.toNat) c.length) (bc (Nat.beq (U.list ((c.getD (Nat.add 0 n.toNat) []).getD 0 (U.i 0))).length (U.list ((c.getD (Nat.add 0 n.toNat) []).getD 0 (U.i 0))).length) (Nat.ble ((U.list ((c.getD (Nat.add 0 n.toNat) []).getD 0 (U.i 0))).length+([i]).length) 65536) false) false) false) (bc (bc (bc (decide (0≤n)) (Nat.blt n.toNat 49) false) true false) (bc (bc (Nat.blt (Nat.add 0 n.toNat) c.length) (bc (Nat.beq (List.map (fun r=>U.int (List.headD r (U.i 0))) (U.list ((c.getD (Nat.add 0 n.toNat) []).getD 0 (U.i 0)))++[i]).length (List.map (fun r=>U.int (List.headD r (U.i 0))) (U.list ((c.getD (Nat.add 0 n.toNat) []).getD 0 (U.i 0)))++[i]).length) (unHoleC (Nat.add 0 n.toNat) 0 [(Nat.add 0 n.toNat,0)]) false) false) true false) false) false) false) false) true false) (.at (sA b nb l q m (List.set c (Nat.add 0 n.toNat) (rset 0 (U.l (List.map (fun x=>[U.i x]) (List.map (fun r=>U.int (List.headD r (U.i 0))) (U.list ((c.getD (Nat.add 0 n.toNat) []).getD 0 (U.i 0)))++[i]))) (c.getD (Nat.add 0 n.toNat) []))) p (vc+1) vp (IntKind.i64.wrap (i+1)))) .bad))):=by kernel_rfl
end PTgB
noncomputable def stk (C:Nat→List Int):List (List U):=(List.range 49).map fun a=>[U.l ((C a).map fun x=>[U.i x])]
theorem zck (C:Nat→List Int):(stk C).length=49:=by unfold stk;rw [List.length_map,List.length_range]
theorem zoa (C:Nat→List Int) {k:Nat} (hk:k<49):(stk C).getD k []=[U.l ((C k).map fun x=>[U.i x])]:=by
 unfold stk;rw [List.getD_eq_getElem?_getD,List.getElem?_map,List.getElem?_range hk];rfl
theorem zcu (C:Nat→List Int) {k:Nat} (hk:k<49):U.list (((stk C).getD k []).getD 0 (U.i 0))=(C k).map fun x=>[U.i x]:=by rw [zoa C hk];rfl
theorem zei (v:List Int):List.map (fun r=>U.int (List.headD r (U.i 0))) (v.map fun x=>[U.i x])=v:=by
 rw [List.map_map];exact (List.map_congr_left fun x _=>rfl).trans (List.map_id v)
theorem zhc (C:Nat→List Int) {k:Nat} (hk:k<49):PTop.facN (stk C) k=C k:=by
 unfold PTop.facN;rw [zcu C hk,zei]
theorem zlh {α:Type} {n:Nat} {g g':Nat→α} {x:Nat} {v:α} (h1:g' x=v) (h2:∀ a,a≠x→g' a=g a):((List.range n).map g).set x v=(List.range n).map g':=by
 apply List.ext_getElem (by rw [List.length_set,List.length_map,List.length_map]);intro i hi hi2;rw [List.getElem_set,List.getElem_map];split
 ·rename_i e;rw [← h1,List.getElem_map,List.getElem_range,e]
 ·rename_i e;rw [List.getElem_map,List.getElem_range,h2 i (fun q=>e q.symm)]
theorem zet (C:Nat→List Int) {k:Nat} (hk:k<49) (v:List Int):(stk C).set k (rset 0 (U.l (v.map fun x=>[U.i x])) ((stk C).getD k []))=stk (updC C k v):=by
 rw [zoa C hk];unfold stk;refine zlh ?_ fun a ha=>?_
 ·unfold updC;rw [if_pos rfl];rfl
 ·unfold updC;rw [if_neg ha]
theorem zob:List.replicate 49 [U.l []]=stk fun _=>[]:=by
 unfold stk;show _=List.map (fun _=>[U.l []]) (List.range 49);rw [List.map_const',List.length_range]
theorem z00 (n:Nat):Nat.add 0 n=n:=by show 0*1+0+n=n;omega
theorem unh1 (n:Nat):unHoleC n 0 [(n,0)]=true:=Nat.beq_refl n
theorem m1i (i:Int):[i]=[i]:=rfl
theorem mx_eq (e a b:Int):(if b > if a > e then a else e then b else if a > e then a else e)=mxL e a b:=rfl
namespace PTgA
theorem pin {t:Int} {l:List Int} {q:List Bool} {m:Nat} {c:List (List U)} {P:Nat→List Int} {vc vp i n:Nat}  (hi:i<l.length) (hl:l.length≤3000) (hq:q.length=m) (him:i<m) (hx:l.getD i 0=1000+(n:Int)) (hn:0<n∧n<49) (hp:(P n).length≤3000):RUN (stOf (sA t l q m c (stk P) vc vp i)) = .at (sA t l (q.set i true) m c (stk (updC P n (P n++[(i:Int)]))) vc (vp+1) (i+1:Nat)):=by
 have e0:Int.toNat (i:Int)=i:=rfl;have e1:Int.toNat (n:Int)=n:=rfl;have w:IntKind.i64.wrap (1000+(n:Int)-1000)=(n:Int):=by rw [zad _ (by omega) (by omega)];omega
 rw [a_t,e0,hx,w,e1,z00 n,zcu P hn.2,zei,m1i,zet P hn.2,zck,unh1,hq,List.length_map];have lp:((P n).map fun x=>[U.i x]).length=(P n).length:=List.length_map ..;simp (disch:=omega) only [yS];rfl
theorem crs {t:Int} {l:List Int} {q:List Bool} {m:Nat} {c p:List (List U)} {vc vp i n:Nat}  (hi:i<l.length) (hl:l.length≤3000) (hq:q.length=m) (him:i<m) {x:Int} (hx:l.getD i 0=x) (hxn:x=n∨x = -(n:Int)) (hn:0<n∧n<48):RUN (stOf (sA t l q m c p vc vp i)) = .at (sB t l (q.set i true) m c p vc vp i x n (-1) (n-1:Nat)):=by
 have e0:Int.toNat (i:Int)=i:=rfl;have w2:IntKind.i64.wrap ((n:Int)-1)=((n-1:Nat):Int):=by rw [zad _ (by omega) (by omega)];omega
 rw [a_t,e0,hx,hq];rcases hxn with h|h
 ·subst h;rw [w2];simp (disch:=omega) only [yS]
 ·subst h;have w:IntKind.i64.wrap (0 - -(n:Int))=(n:Int):=by rw [zad _ (by omega) (by omega)];omega
  rw [w,w2];simp (disch:=omega) only [yS]
theorem inn {t:Int} {l:List Int} {q:List Bool} {m:Nat} {C P:Nat→List Int} {vc vp:Nat} {i x e:Int} {n k:Nat} (hk:k≤n+1) (hn:n<48) (hC:(C k).length≤3000) (hP:(P k).length≤3000):RUN (stOf (sB t l q m (stk C) (stk P) vc vp i x n e k)) = .at (sB t l q m (stk C) (stk P) vc vp i x n (mxL e (lastI (C k)) (lastI (P k))) (k+1:Nat)):=by
 have e0:Int.toNat (k:Int)=k:=rfl;have hk2:k<49:=by omega
 have w:IntKind.i64.wrap ((n:Int)+1)=((n+1:Nat):Int):=by rw [zad _ (by omega) (by omega)];rfl
 have w2:IntKind.i64.wrap ((k:Int)+1)=((k+1:Nat):Int):=by rw [zad _ (by omega) (by omega)];rfl
 rw [b_t,w,w2,e0,zck,zck,zhc C hk2,zhc P hk2,mx_eq,dt (show (k:Int)≤((n+1:Nat):Int) by omega),dt (show (0≤(k:Int)∧(k:Int)<49)∧49=49∧(C k).length≤5000 from ⟨by omega,rfl,by omega⟩),dt (show (0≤(k:Int)∧(k:Int)<49)∧49=49∧(P k).length≤5000 from ⟨by omega,rfl,by omega⟩)]
 rfl
theorem keep {t:Int} {l:List Int} {q:List Bool} {m:Nat} {C P:Nat→List Int} {vc vp i n:Nat} {x e:Int} (hi:i<3000) (hl:l.length≤3000) (hn:0<n∧n<48) (hC:(C n).length≤3000) (hx:-1000≤x∧x≤1000) (he:0≤e→e.toNat<l.length) (hno:¬ (0≤e∧l.getD e.toNat 0 = -x)):RUN (stOf (sB t l q m (stk C) (stk P) vc vp i x n e (n+1+1:Nat))) = .at (sA t l q m (stk (updC C n (C n++[(i:Int)]))) (stk P) (vc+1) vp (i+1:Nat)):=by
 have e1:Int.toNat (n:Int)=n:=rfl;have hn2:n<49:=by omega
 have w:IntKind.i64.wrap ((n:Int)+1)=((n+1:Nat):Int):=by rw [zad _ (by omega) (by omega)];rfl
 have w3:IntKind.i64.wrap (0-x) = -x:=by rw [zad _ (by omega) (by omega)];omega
 have lp:((C n).map fun x=>[U.i x]).length=(C n).length:=List.length_map ..;rw [b_t,w,w3,e1,z00 n,zcu C hn2,zei,m1i,zet C hn2,zck,unh1,df (show ¬ ((n+1+1:Nat):Int)≤((n+1:Nat):Int) by omega),bc_f]
 by_cases h0:0≤e
 ·have h1:l.getD e.toNat 0 ≠ -x:=fun q=>hno ⟨h0,q⟩;have h2:=he h0;rw [eqF h1,dt h0];simp (disch:=omega) only [yS,lp];rfl
 ·rw [df h0];simp (disch:=omega) only [yS,lp];rfl
theorem rem {t:Int} {l:List Int} {q:List Bool} {m:Nat} {C P:Nat→List Int} {vc vp i n:Nat} {x e:Int} (hi:i<m) (hm:m≤3000) (hq:q.length=m) (hl:l.length=m) (hn:0<n∧n<48) (hC:0<(C n).length∧(C n).length≤3000) (hx:-1000≤x∧x≤1000) (h0:0≤e) (he:e.toNat<m) (hno:l.getD e.toNat 0 = -x):RUN (stOf (sB t l q m (stk C) (stk P) vc vp i x n e (n+1+1:Nat))) = .at (sA t l ((q.set i false).set e.toNat false) m (stk (updC C n ((C n).take ((C n).length-1)))) (stk P) vc vp (i+1:Nat)):=by
 have e1:Int.toNat (n:Int)=n:=rfl;have e2:Int.toNat (i:Int)=i:=rfl;have hn2:n<49:=by omega
 have w:IntKind.i64.wrap ((n:Int)+1)=((n+1:Nat):Int):=by rw [zad _ (by omega) (by omega)];rfl
 have w3:IntKind.i64.wrap (0-x) = -x:=by rw [zad _ (by omega) (by omega)];omega
 have lp:((C n).map fun x=>[U.i x]).length=(C n).length:=List.length_map ..;have w4:IntKind.i64.wrap (Int.ofNat (C n).length-1)=(((C n).length-1:Nat):Int):=by rw [ofn,zad _ (by omega) (by omega)];omega
 have e3:Int.toNat ((((C n).length-1:Nat)):Int)=(C n).length-1:=rfl;have e4:List.take ((C n).length-1) ((C n).map fun x=>[U.i x])=((C n).take ((C n).length-1)).map fun x=>[U.i x]:=List.map_take.symm;have lq:(q.set i false).length=m:=by rw [List.length_set,hq]
 rw [b_t,w,w3,e1,e2,z00 n,zcu C hn2,lp,w4,e3,e4,zet C hn2,zck,df (show ¬ ((n+1+1:Nat):Int)≤((n+1:Nat):Int) by omega),bc_f,hno,dt h0,show (-x == -x)=true by simp,hq,lq,hl];simp (disch:=omega) only [yS];rfl
theorem round {t:Int} {l:List Int} {i:Nat} {out:List Nat} {q:List Bool} {C P:Nat→List Int} {vc vp:Nat}  (h:RelT l i l.length out q C P) (hi:i<l.length) (hl:l.length≤3000) (hx:LetOk (l.getD i 0)) {z:EV} {K:List (Nat×EK)} {n':Nat}
  (hz:∀ q' C' P' vc' vp',RelT l (i+1) l.length (outS l out i) q' C' P'→EndM 2 117 ctTp (stOf (sA t l q' l.length (stk C') (stk P') vc' vp' (i+1:Nat))) z K n'):EndM 2 117 ctTp (stOf (sA t l q l.length (stk C) (stk P) vc vp i)) z K n':=by
 have hcl:=h.cl;have hpl:=h.pl
 by_cases hp:1000<l.getD i 0
 ·obtain ⟨n,hn⟩:=Int.eq_ofNat_of_zero_le (show 0≤l.getD i 0-1000 by omega);have hx1:isPn (l.getD i 0)=true:=decide_eq_true hp;have hx2:numL (l.getD i 0)=n:=by unfold numL;rw [if_pos hp,hn]
  have hb3:0<n∧n<49:=by unfold LetOk at hx;omega
  have:=hpl n;exact .at zaw (pin hi hl h.ql hi (by omega) hb3 (by omega)) (hz _ _ _ _ _ (h.pin hi hx1 hx2))
 ·have hx1:isPn (l.getD i 0)=false:=decide_eq_false hp;have hx3:¬ l.getD i 0=0:=by unfold LetOk at hx;omega
  have hx4:-48<l.getD i 0∧l.getD i 0<48:=by unfold LetOk at hx;omega
  have hx5:numL (l.getD i 0)=((l.getD i 0).natAbs:Nat):=by unfold numL;rw [if_neg hp];split <;> omega
  have hxn:l.getD i 0=((l.getD i 0).natAbs:Nat)∨l.getD i 0 = -(((l.getD i 0).natAbs:Nat):Int):=by omega
  have hb3:0<(l.getD i 0).natAbs∧(l.getD i 0).natAbs<48:=by omega
  have ht:=h.top hx1 hx5 hb3.1;have h1:=crs (c:=stk C) (p:=stk P) (vc:=vc) (vp:=vp) (t:=t) hi hl h.ql hi rfl hxn hb3;generalize hn:(l.getD i 0).natAbs=n at *;have c1:=hcl (n-1);have c2:=hcl n;have c3:=hcl (n+1);have p1:=hpl (n-1);have p2:=hpl n;have p3:=hpl (n+1);have i1:=inn (t:=t) (l:=l) (q:=q.set i true) (m:=l.length) (C:=C) (P:=P) (vc:=vc) (vp:=vp) (i:=i) (x:=l.getD i 0) (e:=-1) (n:=n) (k:=n-1) (by omega) (by omega) (by omega) (by omega);rw [show n-1+1=n by omega] at i1
  have i2:=inn (t:=t) (l:=l) (q:=q.set i true) (m:=l.length) (C:=C) (P:=P) (vc:=vc) (vp:=vp) (i:=i) (x:=l.getD i 0) (e:=mxL (-1) (lastI (C (n-1))) (lastI (P (n-1)))) (n:=n) (k:=n) (by omega) (by omega) (by omega) (by omega);have i3:=inn (t:=t) (l:=l) (q:=q.set i true) (m:=l.length) (C:=C) (P:=P) (vc:=vc) (vp:=vp) (i:=i) (x:=l.getD i 0) (e:=mxL (mxL (-1) (lastI (C (n-1))) (lastI (P (n-1)))) (lastI (C n)) (lastI (P n))) (n:=n) (k:=n+1) (by omega) (by omega) (by omega) (by omega)
  rw [show mxL (mxL (mxL (-1) (lastI (C (n-1))) (lastI (P (n-1)))) (lastI (C n)) (lastI (P n))) (lastI (C (n+1))) (lastI (P (n+1)))=tpO l out (l.getD i 0) from ht] at i3
  refine .at zaw h1 (.at zaw i1 (.at zaw i2 (.at zaw i3 ?_)))
  by_cases hr:0≤tpO l out (l.getD i 0)∧l.getD (tpO l out (l.getD i 0)).toNat 0 = -(l.getD i 0)
  ·obtain ⟨r1,r2,r3⟩:=h.rem hi hx1 (by omega) hx5 hr.1 hr.2;exact .at zaw (rem hi hl (by rw [List.length_set];exact h.ql) rfl hb3 ⟨r1,by omega⟩ (by omega) hr.1 (by omega) hr.2) (hz _ _ _ _ _ r3)
  ·exact .at zaw (keep (by omega) hl hb3 (by omega) (by omega) (fun g=>by have:=h.eLt g;omega) hr) (hz _ _ _ _ _ (h.app hi hx1 hx5 hr))
theorem loop {t:Int} {l:List Int} (hl:l.length≤3000) (hx:∀ x,x∈l→LetOk x):∀ (k i:Nat) (out:List Nat) (q:List Bool) (C P:Nat→List Int) (vc vp:Nat),i+k=l.length→RelT l i l.length out q C P→EndM 2 117 ctTp (stOf (sA t l q l.length (stk C) (stk P) vc vp i)) (.slO 2 1 l.length true) (K0 t l++[(2,.seq 4 (.bools (mrk l.length ((List.range' i k).foldl (outS l) out))) true)]) 3
 | 0,i,out,q,C,P,vc,vp,h,hr=>by
  have h1:=a_t t l q l.length (stk C) (stk P) vc vp i;rw [df (show ¬ (i:Int)<Int.ofNat l.length by rw [ofn];omega),bc_f,hr.mrk] at h1;rw [hr.mrk];exact .done h1
 | k+1,i,out,q,C,P,vc,vp,h,hr=>by
  refine round hr (by omega) hl (hx _ (by rw [zae (show i<l.length by omega)];exact List.getElem_mem _)) fun q' C' P' vc' vp' hr'=>?_;exact loop hl hx k (i+1) _ q' C' P' vc' vp' (by omega) hr'
theorem ends {t:Int} {l:List Int} (hl:l.length≤3000) (hx:∀ x,x∈l→LetOk x):EndM 2 117 ctTp (st0m 117 [il l,.fn 118 [.ptr 0 0]] (K0 t l) 2) (.slO 2 1 l.length true) (K0 t l++[(2,.seq 4 (.bools (mrk l.length (tigL l (List.range l.length)))) true)]) 3:=by
 have h:=in_t t l;have e:Int.toNat (Int.ofNat l.length)=l.length:=rfl;rw [e,dt (show Int.ofNat l.length≤Int.ofNat l.length from Int.le_refl _),dt (show Int.ofNat l.length≤65536 by rw [ofn];omega),bc_t,bc_t,List.length_replicate,zob] at h
 have h2:=loop (t:=t) hl hx l.length 0 [] _ _ _ 0 0 (by omega) (RelT.zero l l.length);rw [← List.range_eq_range'] at h2;exact .at zaw h h2
end PTgA
namespace PTgB
theorem pin {b:List Bool} {nb:Bool} {l:List Int} {q:List Bool} {m:Nat} {c:List (List U)} {P:Nat→List Int} {vc vp i n:Nat} (hb:b.getD i false=true) (hb2:b.length=l.length) (hi:i<l.length) (hl:l.length≤3000) (hq:q.length=m) (him:i<m) (hx:l.getD i 0=1000+(n:Int)) (hn:0<n∧n<49) (hp:(P n).length≤3000):RUN (stOf (sA b nb l q m c (stk P) vc vp i)) = .at (sA b nb l (q.set i true) m c (stk (updC P n (P n++[(i:Int)]))) vc (vp+1) (i+1:Nat)):=by
 have e0:Int.toNat (i:Int)=i:=rfl;have e1:Int.toNat (n:Int)=n:=rfl;have w:IntKind.i64.wrap (1000+(n:Int)-1000)=(n:Int):=by rw [zad _ (by omega) (by omega)];omega
 rw [a_t,e0,hx,w,e1,z00 n,zcu P hn.2,zei,m1i,zet P hn.2,zck,unh1,hq,List.length_map];have lp:((P n).map fun x=>[U.i x]).length=(P n).length:=List.length_map ..;simp (disch:=omega) only [yS,hb,hb2];rfl
theorem crs {b:List Bool} {nb:Bool} {l:List Int} {q:List Bool} {m:Nat} {c p:List (List U)} {vc vp i n:Nat} (hb:b.getD i false=true) (hb2:b.length=l.length) (hi:i<l.length) (hl:l.length≤3000) (hq:q.length=m) (him:i<m) {x:Int} (hx:l.getD i 0=x) (hxn:x=n∨x = -(n:Int)) (hn:0<n∧n<48):RUN (stOf (sA b nb l q m c p vc vp i)) = .at (sB b nb l (q.set i true) m c p vc vp i x n (-1) (n-1:Nat)):=by
 have e0:Int.toNat (i:Int)=i:=rfl;have w2:IntKind.i64.wrap ((n:Int)-1)=((n-1:Nat):Int):=by rw [zad _ (by omega) (by omega)];omega
 rw [a_t,e0,hx,hq];rcases hxn with h|h
 ·subst h;rw [w2];simp (disch:=omega) only [yS,hb,hb2]
 ·subst h;have w:IntKind.i64.wrap (0 - -(n:Int))=(n:Int):=by rw [zad _ (by omega) (by omega)];omega
  rw [w,w2];simp (disch:=omega) only [yS,hb,hb2]
theorem inn {b:List Bool} {nb:Bool} {l:List Int} {q:List Bool} {m:Nat} {C P:Nat→List Int} {vc vp:Nat} {i x e:Int} {n k:Nat} (hk:k≤n+1) (hn:n<48) (hC:(C k).length≤3000) (hP:(P k).length≤3000):RUN (stOf (sB b nb l q m (stk C) (stk P) vc vp i x n e k)) = .at (sB b nb l q m (stk C) (stk P) vc vp i x n (mxL e (lastI (C k)) (lastI (P k))) (k+1:Nat)):=by
 have e0:Int.toNat (k:Int)=k:=rfl;have hk2:k<49:=by omega
 have w:IntKind.i64.wrap ((n:Int)+1)=((n+1:Nat):Int):=by rw [zad _ (by omega) (by omega)];rfl
 have w2:IntKind.i64.wrap ((k:Int)+1)=((k+1:Nat):Int):=by rw [zad _ (by omega) (by omega)];rfl
 rw [b_t,w,w2,e0,zck,zck,zhc C hk2,zhc P hk2,mx_eq,dt (show (k:Int)≤((n+1:Nat):Int) by omega),dt (show (0≤(k:Int)∧(k:Int)<49)∧49=49∧(C k).length≤5000 from ⟨by omega,rfl,by omega⟩),dt (show (0≤(k:Int)∧(k:Int)<49)∧49=49∧(P k).length≤5000 from ⟨by omega,rfl,by omega⟩)]
 rfl
theorem keep {b:List Bool} {nb:Bool} {l:List Int} {q:List Bool} {m:Nat} {C P:Nat→List Int} {vc vp i n:Nat} {x e:Int} (hi:i<3000) (hl:l.length≤3000) (hn:0<n∧n<48) (hC:(C n).length≤3000) (hx:-1000≤x∧x≤1000) (he:0≤e→e.toNat<l.length) (hno:¬ (0≤e∧l.getD e.toNat 0 = -x)):RUN (stOf (sB b nb l q m (stk C) (stk P) vc vp i x n e (n+1+1:Nat))) = .at (sA b nb l q m (stk (updC C n (C n++[(i:Int)]))) (stk P) (vc+1) vp (i+1:Nat)):=by
 have e1:Int.toNat (n:Int)=n:=rfl;have hn2:n<49:=by omega
 have w:IntKind.i64.wrap ((n:Int)+1)=((n+1:Nat):Int):=by rw [zad _ (by omega) (by omega)];rfl
 have w3:IntKind.i64.wrap (0-x) = -x:=by rw [zad _ (by omega) (by omega)];omega
 have lp:((C n).map fun x=>[U.i x]).length=(C n).length:=List.length_map ..;rw [b_t,w,w3,e1,z00 n,zcu C hn2,zei,m1i,zet C hn2,zck,unh1,df (show ¬ ((n+1+1:Nat):Int)≤((n+1:Nat):Int) by omega),bc_f]
 by_cases h0:0≤e
 ·have h1:l.getD e.toNat 0 ≠ -x:=fun q=>hno ⟨h0,q⟩;have h2:=he h0;rw [eqF h1,dt h0];simp (disch:=omega) only [yS,lp];rfl
 ·rw [df h0];simp (disch:=omega) only [yS,lp];rfl
theorem rem {b:List Bool} {nb:Bool} {l:List Int} {q:List Bool} {m:Nat} {C P:Nat→List Int} {vc vp i n:Nat} {x e:Int} (hi:i<m) (hm:m≤3000) (hq:q.length=m) (hl:l.length=m) (hn:0<n∧n<48) (hC:0<(C n).length∧(C n).length≤3000) (hx:-1000≤x∧x≤1000) (h0:0≤e) (he:e.toNat<m) (hno:l.getD e.toNat 0 = -x):RUN (stOf (sB b nb l q m (stk C) (stk P) vc vp i x n e (n+1+1:Nat))) = .at (sA b nb l ((q.set i false).set e.toNat false) m (stk (updC C n ((C n).take ((C n).length-1)))) (stk P) vc vp (i+1:Nat)):=by
 have e1:Int.toNat (n:Int)=n:=rfl;have e2:Int.toNat (i:Int)=i:=rfl;have hn2:n<49:=by omega
 have w:IntKind.i64.wrap ((n:Int)+1)=((n+1:Nat):Int):=by rw [zad _ (by omega) (by omega)];rfl
 have w3:IntKind.i64.wrap (0-x) = -x:=by rw [zad _ (by omega) (by omega)];omega
 have lp:((C n).map fun x=>[U.i x]).length=(C n).length:=List.length_map ..;have w4:IntKind.i64.wrap (Int.ofNat (C n).length-1)=(((C n).length-1:Nat):Int):=by rw [ofn,zad _ (by omega) (by omega)];omega
 have e3:Int.toNat ((((C n).length-1:Nat)):Int)=(C n).length-1:=rfl;have e4:List.take ((C n).length-1) ((C n).map fun x=>[U.i x])=((C n).take ((C n).length-1)).map fun x=>[U.i x]:=List.map_take.symm;have lq:(q.set i false).length=m:=by rw [List.length_set,hq]
 rw [b_t,w,w3,e1,e2,z00 n,zcu C hn2,lp,w4,e3,e4,zet C hn2,zck,df (show ¬ ((n+1+1:Nat):Int)≤((n+1:Nat):Int) by omega),bc_f,hno,dt h0,show (-x == -x)=true by simp,hq,lq,hl];simp (disch:=omega) only [yS];rfl
theorem round {b:List Bool} {nb:Bool} {l:List Int} {i:Nat} {out:List Nat} {q:List Bool} {C P:Nat→List Int} {vc vp:Nat} (hb:b.getD i false=true) (hb2:b.length=l.length) (h:RelT l i l.length out q C P) (hi:i<l.length) (hl:l.length≤3000) (hx:LetOk (l.getD i 0)) {z:EV} {K:List (Nat×EK)} {n':Nat}
  (hz:∀ q' C' P' vc' vp',RelT l (i+1) l.length (outS l out i) q' C' P'→EndM 2 117 ctTp (stOf (sA b nb l q' l.length (stk C') (stk P') vc' vp' (i+1:Nat))) z K n'):EndM 2 117 ctTp (stOf (sA b nb l q l.length (stk C) (stk P) vc vp i)) z K n':=by
 have hcl:=h.cl;have hpl:=h.pl
 by_cases hp:1000<l.getD i 0
 ·obtain ⟨n,hn⟩:=Int.eq_ofNat_of_zero_le (show 0≤l.getD i 0-1000 by omega);have hx1:isPn (l.getD i 0)=true:=decide_eq_true hp;have hx2:numL (l.getD i 0)=n:=by unfold numL;rw [if_pos hp,hn]
  have hb3:0<n∧n<49:=by unfold LetOk at hx;omega
  have:=hpl n;exact .at zaw (pin hb hb2 hi hl h.ql hi (by omega) hb3 (by omega)) (hz _ _ _ _ _ (h.pin hi hx1 hx2))
 ·have hx1:isPn (l.getD i 0)=false:=decide_eq_false hp;have hx3:¬ l.getD i 0=0:=by unfold LetOk at hx;omega
  have hx4:-48<l.getD i 0∧l.getD i 0<48:=by unfold LetOk at hx;omega
  have hx5:numL (l.getD i 0)=((l.getD i 0).natAbs:Nat):=by unfold numL;rw [if_neg hp];split <;> omega
  have hxn:l.getD i 0=((l.getD i 0).natAbs:Nat)∨l.getD i 0 = -(((l.getD i 0).natAbs:Nat):Int):=by omega
  have hb3:0<(l.getD i 0).natAbs∧(l.getD i 0).natAbs<48:=by omega
  have ht:=h.top hx1 hx5 hb3.1;have h1:=crs (c:=stk C) (p:=stk P) (vc:=vc) (vp:=vp) (b:=b) (nb:=nb) hb hb2 hi hl h.ql hi rfl hxn hb3;generalize hn:(l.getD i 0).natAbs=n at *;have c1:=hcl (n-1);have c2:=hcl n;have c3:=hcl (n+1);have p1:=hpl (n-1);have p2:=hpl n;have p3:=hpl (n+1);have i1:=inn (b:=b) (nb:=nb) (l:=l) (q:=q.set i true) (m:=l.length) (C:=C) (P:=P) (vc:=vc) (vp:=vp) (i:=i) (x:=l.getD i 0) (e:=-1) (n:=n) (k:=n-1) (by omega) (by omega) (by omega) (by omega);rw [show n-1+1=n by omega] at i1
  have i2:=inn (b:=b) (nb:=nb) (l:=l) (q:=q.set i true) (m:=l.length) (C:=C) (P:=P) (vc:=vc) (vp:=vp) (i:=i) (x:=l.getD i 0) (e:=mxL (-1) (lastI (C (n-1))) (lastI (P (n-1)))) (n:=n) (k:=n) (by omega) (by omega) (by omega) (by omega);have i3:=inn (b:=b) (nb:=nb) (l:=l) (q:=q.set i true) (m:=l.length) (C:=C) (P:=P) (vc:=vc) (vp:=vp) (i:=i) (x:=l.getD i 0) (e:=mxL (mxL (-1) (lastI (C (n-1))) (lastI (P (n-1)))) (lastI (C n)) (lastI (P n))) (n:=n) (k:=n+1) (by omega) (by omega) (by omega) (by omega)
  rw [show mxL (mxL (mxL (-1) (lastI (C (n-1))) (lastI (P (n-1)))) (lastI (C n)) (lastI (P n))) (lastI (C (n+1))) (lastI (P (n+1)))=tpO l out (l.getD i 0) from ht] at i3
  refine .at zaw h1 (.at zaw i1 (.at zaw i2 (.at zaw i3 ?_)))
  by_cases hr:0≤tpO l out (l.getD i 0)∧l.getD (tpO l out (l.getD i 0)).toNat 0 = -(l.getD i 0)
  ·obtain ⟨r1,r2,r3⟩:=h.rem hi hx1 (by omega) hx5 hr.1 hr.2;exact .at zaw (rem hi hl (by rw [List.length_set];exact h.ql) rfl hb3 ⟨r1,by omega⟩ (by omega) hr.1 (by omega) hr.2) (hz _ _ _ _ _ r3)
  ·exact .at zaw (keep (by omega) hl hb3 (by omega) (by omega) (fun g=>by have:=h.eLt g;omega) hr) (hz _ _ _ _ _ (h.app hi hx1 hx5 hr))
theorem skip {b:List Bool} {nb:Bool} {l:List Int} {q:List Bool} {m:Nat} {c p:List (List U)} {vc vp i:Nat} (hb:b.getD i false=false) (hi:i<b.length) (hl:b.length≤3000):RUN (stOf (sA b nb l q m c p vc vp i)) = .at (sA b nb l q m c p vc vp (i+1:Nat)):=by
 have e0:Int.toNat (i:Int)=i:=rfl;rw [a_t,e0,hb];simp (disch:=omega) only [yS];rfl
theorem loop {b:List Bool} {nb:Bool} {l:List Int} (hl:l.length≤3000) (hb2:b.length=l.length) (hx:∀ x,x∈l→LetOk x):∀ (k i:Nat) (out:List Nat) (q:List Bool) (C P:Nat→List Int) (vc vp:Nat),i+k=l.length→RelT l i l.length out q C P→EndM 2 117 ctTp (stOf (sA b nb l q l.length (stk C) (stk P) vc vp i)) (.slO 2 1 l.length true) (K0 b nb++[(2,.seq 4 (.bools (mrk l.length (((List.range' i k).filter fun j=>b.getD j false).foldl (outS l) out))) true)]) 3
 | 0,i,out,q,C,P,vc,vp,h,hr=>by
  have h1:=a_t b nb l q l.length (stk C) (stk P) vc vp i;rw [df (show ¬ (i:Int)<Int.ofNat b.length by rw [ofn];omega),bc_f,hr.mrk] at h1;rw [hr.mrk];exact .done h1
 | k+1,i,out,q,C,P,vc,vp,h,hr=>by
  rw [List.range'_succ]
  cases hb:b.getD i false with
  | true=>
   rw [List.filter_cons_of_pos (p:=fun j=>b.getD j false) hb];refine round hb hb2 hr (by omega) hl (hx _ (by rw [zae (show i<l.length by omega)];exact List.getElem_mem _)) fun q' C' P' vc' vp' hr'=>?_;exact loop hl hb2 hx k (i+1) _ q' C' P' vc' vp' (by omega) hr'
  | false=>
   rw [List.filter_cons_of_neg (p:=fun j=>b.getD j false) (by rw [hb];simp)];exact .at zaw (skip hb (by omega) (by omega)) (loop hl hb2 hx k (i+1) _ q C P vc vp (by omega) hr.skip)
theorem ends {b:List Bool} {nb:Bool} {l:List Int} (hl:l.length≤3000) (hb2:b.length=l.length) (hx:∀ x,x∈l→LetOk x):EndM 2 117 ctTp (st0m 117 [il l,.fn 116 [.ptr 0 0]] (K0 b nb) 2) (.slO 2 1 l.length true) (K0 b nb++[(2,.seq 4 (.bools (mrk l.length (tigL l ((List.range l.length).filter fun j=>b.getD j false)))) true)]) 3:=by
 have h:=in_t b nb l;have e:Int.toNat (Int.ofNat l.length)=l.length:=rfl;rw [e,dt (show Int.ofNat l.length≤Int.ofNat l.length from Int.le_refl _),dt (show Int.ofNat l.length≤65536 by rw [ofn];omega),bc_t,bc_t,List.length_replicate,zob] at h
 have h2:=loop (b:=b) (nb:=nb) hl hb2 hx l.length 0 [] _ _ _ 0 0 (by omega) (RelT.zero l l.length);rw [← List.range_eq_range'] at h2;exact .at zaw h h2
end PTgB
def TigOk (l l2:List Int) (a b:Nat):Prop:=l2=l∧a=b∧l.length≤3000∧∀ x,x∈l→LetOk x
noncomputable instance TigOk.dec (l l2:List Int) (a b:Nat):Decidable (TigOk l l2 a b):=Classical.propDecidable _
def idxB (b:List Bool):List Nat:=(List.range b.length).filter fun j=>b.getD j false
noncomputable def tgA (l:List Int):List Bool:=mrk l.length (tigL l (List.range l.length))
noncomputable def tgB (l:List Int) (b:List Bool):List Bool:=mrk l.length (tigL l (idxB b))
theorem zc6 (l:List Int):(tgA l).length=l.length:=ze0 _ _
theorem zjt (l:List Int) (b:List Bool):(tgB l b).length=l.length:=ze0 _ _
theorem tigA {t:Int} {l l2:List Int} (h:TigOk l l2 0 0):EndM 2 117 ctTp (st0m 117 [il l,.fn 118 [.ptr 0 0]] (PTgA.K0 t l2) 2) (.slO 2 1 l.length true) (PTgA.K0 t l2++[(2,.seq 4 (.bools (tgA l)) true)]) 3:=by
 obtain ⟨rfl,_,h1,h2⟩:=h;exact PTgA.ends h1 h2
theorem tigB {b:List Bool} {nb:Bool} {l:List Int} (h:TigOk l l b.length l.length):EndM 2 117 ctTp (st0m 117 [il l,.fn 116 [.ptr 0 0]] (PTgB.K0 b nb) 2) (.slO 2 1 l.length true) (PTgB.K0 b nb++[(2,.seq 4 (.bools (tgB l b)) true)]) 3:=by
 obtain ⟨_,h0,h1,h2⟩:=h;have:=PTgB.ends (b:=b) (nb:=nb) h1 h0 h2;unfold tgB idxB;rw [h0];exact this
noncomputable def spTig_0:ZMT:=fun ax K0 m=>match ax,K0 with
 | [.lst (.ints .i64 l),.fn 118 [.ptr 0 0]],[(0,.cells 77 [.ptr 1 0] v_0),(1,.cells 24 [.v (.int .i64 t),.lst (.ints .i64 l2)] v_1)]=>bc (Nat.beq m (2)) (some ⟨bc (eqN v_0 (true)) (bc (eqN v_1 (true)) (decide (TigOk l l2 0 0)) false) false,.slO 2 1 l.length true,PTgA.K0 t l2++[(2,.seq 4 (.bools (tgA l)) true)],3,2⟩) none
 | _,_=>none
theorem zmz:ZMtOk Try.prog 117 spTig_0:=fun γ w0 w us ax K0 m r hs hc hres hax hH=>by
 unfold spTig_0 at hs;split at hs
 case h_2=>cases hs
 rename_i l v_0 t l2 v_1;obtain ⟨hm,rfl⟩:=noN hs;have hm:=Nat.eq_of_beq_eq_true hm;subst hm;have hc_0:bc (eqN v_0 (true)) (bc (eqN v_1 (true)) (decide (TigOk l l2 0 0)) false) false=true:=hc;obtain ⟨q_0,hc_1⟩:=bcT hc_0;have p_0:=(zbo q_0).symm;subst p_0;obtain ⟨q_1,hc_2⟩:=bcT hc_1;have p_1:=(zbo q_1).symm;subst p_1;have hc:=of_decide_eq_true hc_2;exact EndM.calls (tigA hc) zaw (by kernel_rfl) hres hax hH
noncomputable def spTig_1:ZMT:=fun ax K0 m=>match ax,K0 with
 | [.lst (.ints .i64 l),.fn 116 [.ptr 0 0]],[(0,.cells 45 [.slO 1 1 v_0 v_1] v_2),(1,.seq 4 (.bools b) nb)]=>bc (Nat.beq m (2)) (some ⟨bc (Nat.beq v_0 (b.length)) (bc (eqN v_1 (nb)) (bc (eqN v_2 (true)) (decide (TigOk l l b.length l.length)) false) false) false,.slO 2 1 l.length true,PTgB.K0 b nb++[(2,.seq 4 (.bools (tgB l b)) true)],3,2⟩) none
 | _,_=>none
theorem zmy:ZMtOk Try.prog 117 spTig_1:=fun γ w0 w us ax K0 m r hs hc hres hax hH=>by
 unfold spTig_1 at hs;split at hs
 case h_2=>cases hs
 rename_i l v_0 v_1 v_2 b nb;obtain ⟨hm,rfl⟩:=noN hs;have hm:=Nat.eq_of_beq_eq_true hm;subst hm;have hc_0:bc (Nat.beq v_0 (b.length)) (bc (eqN v_1 (nb)) (bc (eqN v_2 (true)) (decide (TigOk l l b.length l.length)) false) false) false=true:=hc;obtain ⟨q_0,hc_1⟩:=bcT hc_0;have p_0:=(Nat.eq_of_beq_eq_true q_0).symm;subst p_0;obtain ⟨q_1,hc_2⟩:=bcT hc_1;have p_1:=(zbo q_1).symm;subst p_1;obtain ⟨q_2,hc_3⟩:=bcT hc_2;have p_2:=(zbo q_2).symm;subst p_2;have hc:=of_decide_eq_true hc_3;exact EndM.calls (tigB hc) zaw (by kernel_rfl) hres hax hH
noncomputable def spTig:ZMT:=ZMT.or spTig_0 (spTig_1)
theorem zrl:ZMtOk Try.prog 117 spTig:=zmz.or (zmy)
noncomputable def ctTg:Tr ZCC:=Tr.nil.put 117 (some (mC spTig))
theorem zbg:ZCtsOk Try.prog ctTg:=(ZCtsOk.nil _).addM rfl zrl
namespace PTgt
noncomputable def K0 (t:Int) (l:List Int):List (Nat×EK):=[(0,.cells 24 [iv t,il l] true)]
noncomputable def RUN (s:ES):ZF:=RMs 1 71 ctTg [] [] [] s
theorem in_t (t:Int) (l:List Int):RUN (st0m 71 [.ptr 0 0] (K0 t l) 1)=(bc (bc (decide (TigOk l l 0 0)) true false) (.done (EV.slO 1 1 l.length true) [(0,(EK.cells 24 [(iv t),(il l)] true)),(1,(EK.seq 4 (SyC.bools (tgA l)) true))] 2) .bad):=by kernel_rfl
theorem ends {t:Int} {l:List Int} (h:TigOk l l 0 0):EndM 1 71 ctTg (st0m 71 [.ptr 0 0] (K0 t l) 1) (.slO 1 1 l.length true) (K0 t l++[(1,.seq 4 (.bools (tgA l)) true)]) 2:=by
 have h1:=in_t t l;rw [dt h] at h1;simp (disch:=omega) only [yS] at h1;exact .done h1
end PTgt
noncomputable def spTgt:ZMT:=fun ax K0 m=>match ax,K0 with
 | [.ptr 0 0],[(0,.cells 24 [.v (.int .i64 t),.lst (.ints .i64 l)] v_0)]=>bc (Nat.beq m (1)) (some ⟨bc (eqN v_0 (true)) (decide (TigOk l l 0 0)) false,.slO 1 1 l.length true,PTgt.K0 t l++[(1,.seq 4 (.bools (tgA l)) true)],2,1⟩) none
 | _,_=>none
theorem zrm:ZMtOk Try.prog 71 spTgt:=fun γ w0 w us ax K0 m r hs hc hres hax hH=>by
 unfold spTgt at hs;split at hs
 case h_2=>cases hs
 rename_i t l v_0;obtain ⟨hm,rfl⟩:=noN hs;have hm:=Nat.eq_of_beq_eq_true hm;subst hm;have hc_0:bc (eqN v_0 (true)) (decide (TigOk l l 0 0)) false=true:=hc;obtain ⟨q_0,hc_1⟩:=bcT hc_0;have p_0:=(zbo q_0).symm;subst p_0;have hc:=of_decide_eq_true hc_1;exact EndM.calls (PTgt.ends hc) zbg (by kernel_rfl) hres hax hH
namespace PFrA
noncomputable def K0 (t:Int) (l:List Int) (b:List Bool)  : List (Nat×EK):=[(0,.cells 24 [iv t,il l] true),(1,.seq 4 (.bools b) true)]
noncomputable def RUN (s:ES):ZF:=RMs 2 75 ctTg [(atS 0 75 3,[[(0,none),(2,none),(7,none),(15,none),(16,none)]]),(atS 1 116 1,[[(0,none),(5,none),(6,none),(7,none)],[(10,some (1,3,.ints .i64 []))]])] [9,10] [] s
noncomputable def sR (t:Int) (l:List Int) (b:List Bool)  (q:List Bool) (i:Int):NS:=⟨[⟨75,63,[(0,(EV.ptr 0 0)),(2,(EV.fn 78 [])),(7,EV.slO 2 1 b.length true),(15,iv (b.length:Nat)),(16,iv i)],[.it (.code (nav [1,1,0,1,0,0] (bodyOf Try.f75))),.it (.inLoop (nav [1,1,0,1,0,0] (bodyOf Try.f75))),.it (.inBlock 0),.it (.code (nav [1,1,1] (bodyOf Try.f75)))],[],Option.none⟩],[(0,(EK.cells 24 [(iv t),(il l)] true)),(1,(EK.seq 4 (SyC.bools b) true)),(2,EK.seq 4 (.bools q) true)],3⟩
noncomputable def sG (t:Int) (l:List Int) (b:List Bool)  (q s:List Bool) (ms:Nat) (g:List Int) (nn:Bool) (i:Int):NS:=⟨[⟨116,20,[(0,(EV.yl 2)),(5,EV.slO 3 1 b.length true),(6,iv (b.length:Nat)),(7,iv i)],[.it (.code (nav [1,0,0] (bodyOf Try.f116))),.it (.inLoop (nav [1,0,0] (bodyOf Try.f116))),.it (.inBlock 0)],[],Option.none⟩,⟨75,63,[(10,(EV.ptr 4 0))],[(.inRF 2),.it (.inBlock 2),.it (.code (nav [1,1,1,1,1,1] (bodyOf Try.f75)))],[(DE.mk 5)],Option.none⟩],[(0,(EK.cells 24 [(iv t),(il l)] true)),(1,(EK.seq 4 (SyC.bools b) true)),(2,(EK.loop LoopState.ready Option.none 75 63 (Tr.node Option.none (Tr.node Option.none Tr.nil (Tr.node Option.none (Tr.node Option.none Tr.nil (Tr.node (Option.some (EV.ptr 4 0)) Tr.nil Tr.nil)) Tr.nil)) (Tr.node Option.none (Tr.node Option.none (Tr.node Option.none Tr.nil (Tr.node (Option.some (EV.ptr 6 0)) Tr.nil Tr.nil)) Tr.nil) Tr.nil)) (Array.mk [52]) (nav [1,1,1,1,1,0,1,0,0] (bodyOf Try.f75)) (nav [1,1,1,1,1,0,1,0,1] (bodyOf Try.f75)) 5)),(3,EK.seq 4 (.bools q) true),(4,EK.cells 22 [EV.slO 7 1 g.length nn] true),(5,(EK.dfr true)),(6,EK.cells 45 [EV.slO 8 1 ms true] true),(7,EK.seq 3 (.ints .i64 g) nn),(8,EK.seq 4 (.bools s) true)],9⟩
theorem in_t (t:Int) (l:List Int) (b:List Bool)  : RUN (st0m 75 [.ptr 0 0,.slO 1 1 b.length true,.fn 78 []] (K0 t l b) 2)=(bc (bc (Nat.beq (List.length b) (List.length b)) (bc (Nat.ble ((0:Nat)+List.length b) (65536:Nat)) true false) false) (.at (sR (t) (l) (b) (List.map (fun r=>U.bool (List.headD r (U.i (0:Int)))) []++b) ((0:Int)))) .bad):=by kernel_rfl
theorem r_t (t:Int) (l:List Int) (b:List Bool)  (q:List Bool) (i:Int):RUN (stOf (sR t l b q i))=(bc (decide (i<(Nat.cast b.length:Int))) (bc (bc (bc (decide (0≤i)) (Nat.blt i.toNat b.length) false) true false) (bc (bc (Nat.blt i.toNat q.length) true false) (bc (q.getD i.toNat false) (bc (bc (bc (decide (0≤i)) (Nat.blt i.toNat l.length) false) true false) (bc (bc (Nat.blt i.toNat l.length) true false) (bc (decide (1000<l.getD i.toNat 0)) (bc (bc (bc (decide (0≤i)) (Nat.blt i.toNat b.length) false) true false) (bc (Nat.blt i.toNat q.length) (.at (sR t l b (List.set q i.toNat !true) (IntKind.i64.wrap (i+1)))) .bad) .bad) (bc (bc (bc (decide (0≤i)) (Nat.blt i.toNat b.length) false) true false) (bc (Nat.blt i.toNat q.length) (.at (sR t l b (List.set q i.toNat !false) (IntKind.i64.wrap (i+1)))) .bad) .bad)) .bad) .bad) (bc (bc (bc (decide (0≤i)) (Nat.blt i.toNat b.length) false) true false) (bc (Nat.blt i.toNat q.length) (.at (sR t l b (List.set q i.toNat false) (IntKind.i64.wrap (i+1)))) .bad) .bad)) .bad) .bad) (bc (bc (bc (bc (bc (Nat.beq b.length q.length) (decide (TigOk l l q.length l.length)) false) true false) true false) (bc (bc (bc (eqSy (SyC.ints IntKind.i64 l) (SyC.ints IntKind.i64 l)) true false) true false) true false) false) (.at (sG t l b q (tgB l q) l.length [] false 0)) .bad)):=by kernel_rfl
theorem g_t (t:Int) (l:List Int) (b:List Bool)  (q s:List Bool) (ms:Nat) (g:List Int) (nn:Bool) (i:Int):RUN (stOf (sG t l b q s ms g nn i))=(bc (decide (i<(Nat.cast b.length:Int))) (bc (bc (bc (decide (0≤i)) (Nat.blt i.toNat b.length) false) true false) (bc (bc (Nat.blt i.toNat q.length) true false) (bc (q.getD i.toNat false) (bc (bc (bc (decide (0≤i)) (Nat.blt i.toNat ms) false) true false) (bc (bc (Nat.blt i.toNat s.length) true false) (bc (!s.getD i.toNat false) (bc (bc (Nat.beq g.length g.length) (bc (Nat.ble (g.length+([i]).length) 65536) (bc nn true (bc nn false true)) false) false) (.at (sG t l b q s ms (g++[i]) (bc nn true (Nat.blt 0 ([i]).length)) (IntKind.i64.wrap (i+1)))) .bad) (.at (sG t l b q s ms g nn (IntKind.i64.wrap (i+1))))) .bad) .bad) (.at (sG t l b q s ms g nn (IntKind.i64.wrap (i+1))))) .bad) .bad) (.done (EV.slO 2 1 g.length nn) [(0,(EK.cells 24 [(iv t),(il l)] true)),(1,(EK.seq 4 (SyC.bools b) true)),(2,(EK.seq 3 (SyC.ints IntKind.i64 g) nn))] 3)):=by kernel_rfl
end PFrA
namespace PFrB
noncomputable def K0 (t:Int) (l:List Int) (b:List Bool) (o:List Bool) (no:Bool):List (Nat×EK):=[(0,.cells 24 [iv t,il l] true),(1,.seq 4 (.bools b) true),(2,.cells 45 [.slO 3 1 o.length no] true),(3,.seq 4 (.bools o) no)]
noncomputable def RUN (s:ES):ZF:=RMs 2 75 ctTg [(atS 0 75 3,[[(0,none),(2,none),(7,none),(15,none),(16,none)]]),(atS 1 116 1,[[(0,none),(5,none),(6,none),(7,none)],[(10,some (1,3,.ints .i64 []))]])] [9,10] [] s
noncomputable def sR (t:Int) (l:List Int) (b:List Bool) (o:List Bool) (no:Bool) (q:List Bool) (i:Int):NS:=⟨[⟨75,63,[(0,(EV.ptr 0 0)),(2,(EV.fn 76 [(EV.ptr 2 0)])),(7,EV.slO 3 1 b.length true),(15,iv (b.length:Nat)),(16,iv i)],[.it (.code (nav [1,1,0,1,0,0] (bodyOf Try.f75))),.it (.inLoop (nav [1,1,0,1,0,0] (bodyOf Try.f75))),.it (.inBlock 0),.it (.code (nav [1,1,1] (bodyOf Try.f75)))],[],Option.none⟩],[(0,(EK.cells 24 [(iv t),(il l)] true)),(1,(EK.seq 4 (SyC.bools b) true)),(2,(EK.cells 45 [(EV.slO 4 1 (List.length o) no)] true)),(3,EK.seq 4 (.bools q) true),(4,(EK.seq 4 (SyC.bools o) no))],5⟩
noncomputable def sG (t:Int) (l:List Int) (b:List Bool)  (q s:List Bool) (ms:Nat) (g:List Int) (nn:Bool) (i:Int):NS:=⟨[⟨116,20,[(0,(EV.yl 2)),(5,EV.slO 3 1 b.length true),(6,iv (b.length:Nat)),(7,iv i)],[.it (.code (nav [1,0,0] (bodyOf Try.f116))),.it (.inLoop (nav [1,0,0] (bodyOf Try.f116))),.it (.inBlock 0)],[],Option.none⟩,⟨75,63,[(10,(EV.ptr 4 0))],[(.inRF 2),.it (.inBlock 2),.it (.code (nav [1,1,1,1,1,1] (bodyOf Try.f75)))],[(DE.mk 5)],Option.none⟩],[(0,(EK.cells 24 [(iv t),(il l)] true)),(1,(EK.seq 4 (SyC.bools b) true)),(2,(EK.loop LoopState.ready Option.none 75 63 (Tr.node Option.none (Tr.node Option.none Tr.nil (Tr.node Option.none (Tr.node Option.none Tr.nil (Tr.node (Option.some (EV.ptr 4 0)) Tr.nil Tr.nil)) Tr.nil)) (Tr.node Option.none (Tr.node Option.none (Tr.node Option.none Tr.nil (Tr.node (Option.some (EV.ptr 6 0)) Tr.nil Tr.nil)) Tr.nil) Tr.nil)) (Array.mk [52]) (nav [1,1,1,1,1,0,1,0,0] (bodyOf Try.f75)) (nav [1,1,1,1,1,0,1,0,1] (bodyOf Try.f75)) 5)),(3,EK.seq 4 (.bools q) true),(4,EK.cells 22 [EV.slO 7 1 g.length nn] true),(5,(EK.dfr true)),(6,EK.cells 45 [EV.slO 8 1 ms true] true),(7,EK.seq 3 (.ints .i64 g) nn),(8,EK.seq 4 (.bools s) true)],9⟩
theorem in_t (t:Int) (l:List Int) (b:List Bool) (o:List Bool) (no:Bool):RUN (st0m 75 [.ptr 0 0,.slO 1 1 b.length true,.fn 76 [.ptr 2 0]] (K0 t l b o no) 4)=(bc (bc (Nat.beq b.length b.length) (bc (Nat.ble (0+b.length) 65536) true false) false) (.at (sR t l b o no (List.map (fun r=>U.bool (List.headD r (U.i 0))) []++b) 0)) .bad):=by kernel_rfl
theorem r_t (t:Int) (l:List Int) (b:List Bool) (o:List Bool) (no:Bool) (q:List Bool) (i:Int):RUN (stOf (sR t l b o no q i))=(bc (decide (i<(Nat.cast b.length:Int))) (bc (bc (bc (decide (0≤i)) (Nat.blt i.toNat b.length) false) true false) (bc (bc (Nat.blt i.toNat q.length) true false) (bc (q.getD i.toNat false) (bc (bc (bc (decide (0≤i)) (Nat.blt i.toNat l.length) false) true false) (bc (bc (Nat.blt i.toNat l.length) true false) (bc (decide (1000<l.getD i.toNat 0)) (bc (bc (bc (decide (0≤i)) (Nat.blt i.toNat o.length) false) true false) (bc (bc (Nat.blt i.toNat o.length) true false) (bc (bc (bc (decide (0≤i)) (Nat.blt i.toNat b.length) false) true false) (bc (Nat.blt i.toNat q.length) (.at (sR t l b o no (List.set q i.toNat !o.getD i.toNat false) (IntKind.i64.wrap (i+1)))) .bad) .bad) .bad) .bad) (bc (bc (bc (decide (0≤i)) (Nat.blt i.toNat b.length) false) true false) (bc (Nat.blt i.toNat q.length) (.at (sR t l b o no (List.set q i.toNat !false) (IntKind.i64.wrap (i+1)))) .bad) .bad)) .bad) .bad) (bc (bc (bc (decide (0≤i)) (Nat.blt i.toNat b.length) false) true false) (bc (Nat.blt i.toNat q.length) (.at (sR t l b o no (List.set q i.toNat false) (IntKind.i64.wrap (i+1)))) .bad) .bad)) .bad) .bad) (bc (bc (bc (bc (bc (Nat.beq b.length q.length) (decide (TigOk l l q.length l.length)) false) true false) true false) (bc (bc (bc (eqSy (SyC.ints IntKind.i64 l) (SyC.ints IntKind.i64 l)) true false) true false) true false) false) (.at (sG t l b q (tgB l q) l.length [] false 0)) .bad)):=by kernel_rfl
theorem g_t (t:Int) (l:List Int) (b:List Bool)  (q s:List Bool) (ms:Nat) (g:List Int) (nn:Bool) (i:Int):RUN (stOf (sG t l b q s ms g nn i))=(bc (decide (i<(Nat.cast b.length:Int))) (bc (bc (bc (decide (0≤i)) (Nat.blt i.toNat b.length) false) true false) (bc (bc (Nat.blt i.toNat q.length) true false) (bc (q.getD i.toNat false) (bc (bc (bc (decide (0≤i)) (Nat.blt i.toNat ms) false) true false) (bc (bc (Nat.blt i.toNat s.length) true false) (bc (!s.getD i.toNat false) (bc (bc (Nat.beq g.length g.length) (bc (Nat.ble (g.length+([i]).length) 65536) (bc nn true (bc nn false true)) false) false) (.at (sG t l b q s ms (g++[i]) (bc nn true (Nat.blt 0 ([i]).length)) (IntKind.i64.wrap (i+1)))) .bad) (.at (sG t l b q s ms g nn (IntKind.i64.wrap (i+1))))) .bad) .bad) (.at (sG t l b q s ms g nn (IntKind.i64.wrap (i+1))))) .bad) .bad) (.done (EV.slO 2 1 g.length nn) [(0,(EK.cells 24 [(iv t),(il l)] true)),(1,(EK.seq 4 (SyC.bools b) true)),(2,(EK.seq 3 (SyC.ints IntKind.i64 g) nn))] 3)):=by kernel_rfl
end PFrB
namespace PFrC
noncomputable def K0 (t:Int) (l:List Int) (b:List Bool) (kk:Int):List (Nat×EK):=[(0,.cells 24 [iv t,il l] true),(1,.seq 4 (.bools b) true),(2,.cells 3 [iv kk] true)]
noncomputable def RUN (s:ES):ZF:=RMs 3 75 ctTg [(atS 0 75 3,[[(0,none),(2,none),(7,none),(15,none),(16,none)]]),(atS 1 116 1,[[(0,none),(5,none),(6,none),(7,none)],[(10,some (1,3,.ints .i64 []))]])] [9,10] [] s
noncomputable def sR (t:Int) (l:List Int) (b:List Bool) (kk:Int) (q:List Bool) (i:Int):NS:=⟨[⟨75,63,[(0,(EV.ptr 0 0)),(2,(EV.fn 90 [(EV.ptr 2 0)])),(7,EV.slO 3 1 b.length true),(15,iv (b.length:Nat)),(16,iv i)],[.it (.code (nav [1,1,0,1,0,0] (bodyOf Try.f75))),.it (.inLoop (nav [1,1,0,1,0,0] (bodyOf Try.f75))),.it (.inBlock 0),.it (.code (nav [1,1,1] (bodyOf Try.f75)))],[],Option.none⟩],[(0,(EK.cells 24 [(iv t),(il l)] true)),(1,(EK.seq 4 (SyC.bools b) true)),(2,(EK.cells 3 [(iv kk)] true)),(3,EK.seq 4 (.bools q) true)],4⟩
noncomputable def sG (t:Int) (l:List Int) (b:List Bool) (kk:Int) (q s:List Bool) (ms:Nat) (g:List Int) (nn:Bool) (i:Int):NS:=⟨[⟨116,20,[(0,(EV.yl 3)),(5,EV.slO 4 1 b.length true),(6,iv (b.length:Nat)),(7,iv i)],[.it (.code (nav [1,0,0] (bodyOf Try.f116))),.it (.inLoop (nav [1,0,0] (bodyOf Try.f116))),.it (.inBlock 0)],[],Option.none⟩,⟨75,63,[(10,(EV.ptr 5 0))],[(.inRF 3),.it (.inBlock 2),.it (.code (nav [1,1,1,1,1,1] (bodyOf Try.f75)))],[(DE.mk 6)],Option.none⟩],[(0,(EK.cells 24 [(iv t),(il l)] true)),(1,(EK.seq 4 (SyC.bools b) true)),(2,(EK.cells 3 [(iv kk)] true)),(3,(EK.loop LoopState.ready Option.none 75 63 (Tr.node Option.none (Tr.node Option.none Tr.nil (Tr.node Option.none (Tr.node Option.none Tr.nil (Tr.node (Option.some (EV.ptr 5 0)) Tr.nil Tr.nil)) Tr.nil)) (Tr.node Option.none (Tr.node Option.none (Tr.node Option.none Tr.nil (Tr.node (Option.some (EV.ptr 7 0)) Tr.nil Tr.nil)) Tr.nil) Tr.nil)) (Array.mk [52]) (nav [1,1,1,1,1,0,1,0,0] (bodyOf Try.f75)) (nav [1,1,1,1,1,0,1,0,1] (bodyOf Try.f75)) 6)),(4,EK.seq 4 (.bools q) true),(5,EK.cells 22 [EV.slO 8 1 g.length nn] true),(6,(EK.dfr true)),(7,EK.cells 45 [EV.slO 9 1 ms true] true),(8,EK.seq 3 (.ints .i64 g) nn),(9,EK.seq 4 (.bools s) true)],10⟩
theorem in_t (t:Int) (l:List Int) (b:List Bool) (kk:Int):RUN (st0m 75 [.ptr 0 0,.slO 1 1 b.length true,.fn 90 [.ptr 2 0]] (K0 t l b kk) 3)=(bc (bc (Nat.beq b.length b.length) (bc (Nat.ble (0+b.length) 65536) true false) false) (.at (sR t l b kk (List.map (fun r=>U.bool (List.headD r (U.i 0))) []++b) 0)) .bad):=by kernel_rfl
theorem r_t (t:Int) (l:List Int) (b:List Bool) (kk:Int) (q:List Bool) (i:Int):RUN (stOf (sR t l b kk q i))=(bc (decide (i<(Nat.cast b.length:Int))) (bc (bc (bc (decide (0≤i)) (Nat.blt i.toNat b.length) false) true false) (bc (bc (Nat.blt i.toNat q.length) true false) (bc (q.getD i.toNat false) (bc (bc (bc (decide (0≤i)) (Nat.blt i.toNat l.length) false) true false) (bc (bc (Nat.blt i.toNat l.length) true false) (bc (decide (1000<l.getD i.toNat 0)) (bc (bc (bc (decide (0≤i)) (Nat.blt i.toNat b.length) false) true false) (bc (Nat.blt i.toNat q.length) (.at (sR t l b kk (List.set q i.toNat !i==kk) (IntKind.i64.wrap (i+1)))) .bad) .bad) (bc (bc (bc (decide (0≤i)) (Nat.blt i.toNat b.length) false) true false) (bc (Nat.blt i.toNat q.length) (.at (sR t l b kk (List.set q i.toNat !false) (IntKind.i64.wrap (i+1)))) .bad) .bad)) .bad) .bad) (bc (bc (bc (decide (0≤i)) (Nat.blt i.toNat b.length) false) true false) (bc (Nat.blt i.toNat q.length) (.at (sR t l b kk (List.set q i.toNat false) (IntKind.i64.wrap (i+1)))) .bad) .bad)) .bad) .bad) (bc (bc (bc (bc (bc (Nat.beq b.length q.length) (decide (TigOk l l q.length l.length)) false) true false) true false) (bc (bc (bc (eqSy (SyC.ints IntKind.i64 l) (SyC.ints IntKind.i64 l)) true false) true false) true false) false) (.at (sG t l b kk q (tgB l q) l.length [] false 0)) .bad)):=by kernel_rfl
theorem g_t (t:Int) (l:List Int) (b:List Bool) (kk:Int) (q s:List Bool) (ms:Nat) (g:List Int) (nn:Bool) (i:Int):RUN (stOf (sG t l b kk q s ms g nn i))=(bc (decide (i<(Nat.cast b.length:Int))) (bc (bc (bc (decide (0≤i)) (Nat.blt i.toNat b.length) false) true false) (bc (bc (Nat.blt i.toNat q.length) true false) (bc (q.getD i.toNat false) (bc (bc (bc (decide (0≤i)) (Nat.blt i.toNat ms) false) true false) (bc (bc (Nat.blt i.toNat s.length) true false) (bc (!s.getD i.toNat false) (bc (bc (Nat.beq g.length g.length) (bc (Nat.ble (g.length+([i]).length) 65536) (bc nn true (bc nn false true)) false) false) (.at (sG t l b kk q s ms (g++[i]) (bc nn true (Nat.blt 0 ([i]).length)) (IntKind.i64.wrap (i+1)))) .bad) (.at (sG t l b kk q s ms g nn (IntKind.i64.wrap (i+1))))) .bad) .bad) (.at (sG t l b kk q s ms g nn (IntKind.i64.wrap (i+1))))) .bad) .bad) (.done (EV.slO 3 1 g.length nn) [(0,(EK.cells 24 [(iv t),(il l)] true)),(1,(EK.seq 4 (SyC.bools b) true)),(2,(EK.cells 3 [(iv kk)] true)),(3,(EK.seq 3 (SyC.ints IntKind.i64 g) nn))] 4)):=by kernel_rfl
end PFrC
def rstS (l:List Int) (b:List Bool) (o:Nat→Bool) (i:Nat):List Bool:=(List.range b.length).map fun j=>if j<i then b.getD j false && !(isPn (l.getD j 0)&&o j) else b.getD j false
def rstF (l:List Int) (b:List Bool) (o:Nat→Bool):List Bool:=(List.range b.length).map fun j=>b.getD j false && !(isPn (l.getD j 0)&&o j)
theorem zhk (l:List Int) (b:List Bool) (o:Nat→Bool) (i:Nat):(rstS l b o i).length=b.length:=by unfold rstS;rw [List.length_map,List.length_range]
theorem za2 (l:List Int) (b:List Bool) (o:Nat→Bool):(rstF l b o).length=b.length:=by unfold rstF;rw [List.length_map,List.length_range]
theorem zj6 (l:List Int) (b:List Bool) (o:Nat→Bool) {i:Nat} (hi:i<b.length):(rstS l b o i).getD i false=b.getD i false:=by
 unfold rstS;rw [List.getD_eq_getElem?_getD,List.getElem?_map,List.getElem?_range hi];show (if i<i then _ else _)=_
 rw [if_neg (by omega)]
theorem zfv (l:List Int) (b:List Bool) (o:Nat→Bool):rstS l b o 0=b:=by
 apply List.ext_getElem?;intro i;unfold rstS;rw [List.getElem?_map]
 by_cases h:i<b.length
 ·rw [List.getElem?_range h,List.getElem?_eq_getElem h];show some (if i<0 then _ else _)=_
  rw [if_neg (by omega),zae h]
 ·rw [List.getElem?_eq_none (by rw [List.length_range];omega),List.getElem?_eq_none (by omega)];rfl
theorem zhl (l:List Int) (b:List Bool) (o:Nat→Bool):rstS l b o b.length=rstF l b o:=by
 unfold rstS rstF;exact List.map_congr_left fun j hj=>by rw [if_pos (List.mem_range.1 hj)]
theorem zb4 (l:List Int) (b:List Bool) (o:Nat→Bool) {i:Nat} {v:Bool} (hv:(b.getD i false && !(isPn (l.getD i 0)&&o i))=v):(rstS l b o i).set i v=rstS l b o (i+1):=by
 unfold rstS;refine zlh ?_ fun a ha=>?_
 ·rw [if_pos (by omega)];exact hv
 ·by_cases c:a<i
  ·rw [if_pos c,if_pos (by omega)]
  ·rw [if_neg c,if_neg (by omega)]
def gonF (q s:List Bool):List Int:=ofNs ((idxB q).filter fun j=>!s.getD j false)
noncomputable def gF (l:List Int) (b:List Bool) (o:Nat→Bool):List Int:=gonF (rstF l b o) (tgB l (rstF l b o))
theorem b_nil (b:List Bool):List.map (fun r=>U.bool (List.headD r (U.i 0))) []++b=b:=rfl
theorem zhx (g:List Int) (v:Int):bc (decide (0<g.length)) true (Nat.blt 0 (List.length [v]))=decide (0<(g++[v]).length):=by
 rw [show decide (0<(g++[v]).length)=true from decide_eq_true (by simp)]
 cases decide (0<g.length) <;> rfl
theorem zly (nn:Bool):bc nn true (bc nn false true)=true:=by cases nn <;> rfl
def FrOk (l:List Int) (b:List Bool):Prop:=b.length=l.length∧l.length≤3000∧∀ x,x∈l→LetOk x
noncomputable instance FrOk.dec (l:List Int) (b:List Bool):Decidable (FrOk l b):=Classical.propDecidable _
def FrOkO (l:List Int) (b o:List Bool):Prop:=FrOk l b∧o.length=l.length
noncomputable instance FrOkO.dec (l:List Int) (b o:List Bool):Decidable (FrOkO l b o):=Classical.propDecidable _
theorem TigOk.of {l:List Int} {b:List Bool} (h:FrOk l b) (o:Nat→Bool):TigOk l l (rstF l b o).length l.length:=⟨rfl,by rw [za2];exact h.1,h.2.1,h.2.2⟩
namespace PFrA
abbrev O  : Nat→Bool:=fun _=>true
theorem stR {t:Int} {l:List Int} {b:List Bool}  {i:Nat} (hi:i<b.length) (hl:b.length=l.length) (hb:l.length≤3000)  : RUN (stOf (sR t l b (rstS l b (O) i) i)) = .at (sR t l b (rstS l b (O) (i+1)) (i+1:Nat)):=by
 have e0:Int.toNat (i:Int)=i:=rfl;rw [r_t,e0,zj6 l b _ hi,zhk]
 cases hbi:b.getD i false with
 | false=>
  rw [zb4 l b (O) (v:=false) (by rw [hbi];rfl)];simp (disch:=omega) only [yS];rfl
 | true=>
  by_cases hp:1000<l.getD i 0
  ·rw [dt hp,zb4 l b (O) (v:=!true) (by rw [hbi,show isPn (l.getD i 0)=true from decide_eq_true hp];rfl)]
   simp (disch:=omega) only [yS];rfl
  ·rw [df hp,zb4 l b (O) (v:=!false) (by rw [hbi,show isPn (l.getD i 0)=false from decide_eq_false hp];rfl)]
   simp (disch:=omega) only [yS];rfl
theorem endR {t:Int} {l:List Int} {b:List Bool}  (h:FrOk l b):RUN (stOf (sR t l b (rstF l b (O)) b.length)) = .at (sG t l b (rstF l b (O)) (tgB l (rstF l b (O))) l.length [] false 0):=by
 rw [r_t,za2,df (show ¬ (b.length:Int)<(b.length:Int) by omega),bc_f];have h1:=TigOk.of h (O);rw [za2] at h1;rw [dt h1];simp (disch:=omega) only [yS]
theorem stG {t:Int} {l:List Int} {b:List Bool}  {q s:List Bool} {ms:Nat} {g:List Int} {i:Nat} (hi:i<b.length) (hq:q.length=b.length) (hs:s.length=ms) (hm:ms=b.length) (hb:b.length≤3000) (hg:g.length≤i):RUN (stOf (sG t l b q s ms g (decide (0<g.length)) i)) = .at (sG t l b q s ms (g++(if q.getD i false && !s.getD i false then [(i:Int)] else [])) (decide (0<(g++(if q.getD i false && !s.getD i false then [(i:Int)] else [])).length)) (i+1:Nat)):=by
 have e0:Int.toNat (i:Int)=i:=rfl;have m1:[(i:Int)]=[(i:Int)]:=rfl;rw [g_t,e0,m1,zhx,zly,hq,hs]
 cases q.getD i false with
 | false=>
  rw [show (false && !s.getD i false)=false from rfl,if_neg (by simp),List.append_nil]
  simp (disch:=omega) only [yS];rfl
 | true=>
  cases s.getD i false with
  | false=>
   rw [show (true && !false)=true from rfl,if_pos rfl]
   simp (disch:=omega) only [yS,Bool.not_false];rfl
  | true=>
   rw [show (true && !true)=false from rfl,if_neg (by simp),List.append_nil]
   simp (disch:=omega) only [yS,Bool.not_true];rfl
theorem loopG {t:Int} {l:List Int} {b:List Bool}  {q s:List Bool} {ms:Nat} (hq:q.length=b.length) (hs:s.length=ms) (hm:ms=b.length) (hb:b.length≤3000):∀ (k i:Nat) (g:List Int),i+k=b.length→g.length≤i→EndM 2 75 ctTg (stOf (sG t l b q s ms g (decide (0<g.length)) i)) (.slO 2 1 (g++ofNs (((List.range' i k).filter fun j=>q.getD j false).filter fun j=>!s.getD j false)).length (decide (0<(g++ofNs (((List.range' i k).filter fun j=>q.getD j false).filter fun j=>!s.getD j false)).length))) (K0 t l b++[(2,.seq 3 (.ints .i64 (g++ofNs (((List.range' i k).filter fun j=>q.getD j false).filter fun j=>!s.getD j false))) (decide (0<(g++ofNs (((List.range' i k).filter fun j=>q.getD j false).filter fun j=>!s.getD j false)).length)))]) 3
 | 0,i,g,h,hg=>by
  have h1:=g_t t l b q s ms g (decide (0<g.length)) i;rw [df (show ¬ (i:Int)<(b.length:Int) by omega),bc_f] at h1;have e:g++ofNs (((List.range' i 0).filter fun j=>q.getD j false).filter fun j=>!s.getD j false)=g:=List.append_nil g;rw [e];exact .done h1
 | k+1,i,g,h,hg=>by
  have h1:=stG (t:=t) (l:=l) (b:=b)  (q:=q) (s:=s) (ms:=ms) (g:=g) (i:=i) (by omega) hq hs hm hb hg;have e:∀ g:List Int,g++ofNs (((List.range' i (k+1)).filter fun j=>q.getD j false).filter fun j=>!s.getD j false)=(g++(if q.getD i false && !s.getD i false then [(i:Int)] else []))++ofNs (((List.range' (i+1) k).filter fun j=>q.getD j false).filter fun j=>!s.getD j false):=fun g=>by
   rw [List.range'_succ,List.append_assoc];congr 1
   cases hqi:q.getD i false with
   | false=>rw [List.filter_cons_of_neg (p:=fun j=>q.getD j false) (by rw [hqi];simp)];rfl
   | true=>
    rw [List.filter_cons_of_pos (p:=fun j=>q.getD j false) hqi]
    cases hsi:s.getD i false with
    | false=>rw [List.filter_cons_of_pos (p:=fun j=>!s.getD j false) (by rw [hsi];rfl)];rfl
    | true=>rw [List.filter_cons_of_neg (p:=fun j=>!s.getD j false) (by rw [hsi];simp)];rfl
  rw [e];exact .at zbg h1 (loopG hq hs hm hb k (i+1) _ (by omega) (by rw [List.length_append];split <;> simp <;> omega))
theorem loopR {t:Int} {l:List Int} {b:List Bool}  (h:FrOk l b)  : ∀ (k i:Nat),i+k=b.length→EndM 2 75 ctTg (stOf (sR t l b (rstS l b (O) i) i)) (.slO 2 1 (gF l b (O)).length (decide (0<(gF l b (O)).length))) (K0 t l b++[(2,.seq 3 (.ints .i64 (gF l b (O))) (decide (0<(gF l b (O)).length)))]) 3
 | 0,i,hi=>by
  obtain rfl:i=b.length:=by omega
  rw [zhl];have h2:=loopG (t:=t) (l:=l) (b:=b)  (q:=rstF l b (O)) (s:=tgB l (rstF l b (O))) (ms:=l.length) (za2 _ _ _) (zjt _ _) h.1.symm (by have:=h.1;have:=h.2.1;omega) b.length 0 [] (by omega) (Nat.le_refl _);rw [← List.range_eq_range',List.nil_append] at h2;have e:ofNs (((List.range b.length).filter fun j=>(rstF l b (O)).getD j false).filter fun j=>!(tgB l (rstF l b (O))).getD j false)=gF l b (O):=by
   unfold gF gonF idxB;rw [za2]
  rw [e] at h2;exact .at zbg (endR h) h2
 | k+1,i,hi=>.at zbg (stR (by omega) h.1 h.2.1 ) (loopR h k (i+1) (by omega))
theorem ends {t:Int} {l:List Int} {b:List Bool}  (h:FrOk l b)  : EndM 2 75 ctTg (st0m 75 [.ptr 0 0,.slO 1 1 b.length true,.fn 78 []] (K0 t l b) 2) (.slO 2 1 (gF l b (O)).length (decide (0<(gF l b (O)).length))) (K0 t l b++[(2,.seq 3 (.ints .i64 (gF l b (O))) (decide (0<(gF l b (O)).length)))]) 3:=by
 have h1:=in_t t l b;have hb:b.length≤3000:=by have:=h.1;have:=h.2.1;omega
 rw [b_nil] at h1;simp (disch:=omega) only [yS] at h1;have h2:=loopR (t:=t)  h b.length 0 (by omega);rw [zfv] at h2;exact .at zbg h1 h2
end PFrA
namespace PFrB
abbrev O (o:List Bool):Nat→Bool:=fun j=>o.getD j false
theorem stR {t:Int} {l:List Int} {b:List Bool} {o:List Bool} {no:Bool} {i:Nat} (hi:i<b.length) (hl:b.length=l.length) (hb:l.length≤3000) (ho:i<o.length):RUN (stOf (sR t l b o no (rstS l b (O o) i) i)) = .at (sR t l b o no (rstS l b (O o) (i+1)) (i+1:Nat)):=by
 have e0:Int.toNat (i:Int)=i:=rfl;rw [r_t,e0,zj6 l b _ hi,zhk]
 cases hbi:b.getD i false with
 | false=>
  rw [zb4 l b (O o) (v:=false) (by rw [hbi];rfl)];simp (disch:=omega) only [yS];rfl
 | true=>
  by_cases hp:1000<l.getD i 0
  ·rw [dt hp,zb4 l b (O o) (v:=!o.getD i false) (by rw [hbi,show isPn (l.getD i 0)=true from decide_eq_true hp];rfl)]
   simp (disch:=omega) only [yS];rfl
  ·rw [df hp,zb4 l b (O o) (v:=!false) (by rw [hbi,show isPn (l.getD i 0)=false from decide_eq_false hp];rfl)]
   simp (disch:=omega) only [yS];rfl
theorem endR {t:Int} {l:List Int} {b:List Bool} {o:List Bool} {no:Bool} (h:FrOk l b):RUN (stOf (sR t l b o no (rstF l b (O o)) b.length)) = .at (sG t l b (rstF l b (O o)) (tgB l (rstF l b (O o))) l.length [] false 0):=by
 rw [r_t,za2,df (show ¬ (b.length:Int)<(b.length:Int) by omega),bc_f];have h1:=TigOk.of h (O o);rw [za2] at h1;rw [dt h1];simp (disch:=omega) only [yS]
theorem stG {t:Int} {l:List Int} {b:List Bool}  {q s:List Bool} {ms:Nat} {g:List Int} {i:Nat} (hi:i<b.length) (hq:q.length=b.length) (hs:s.length=ms) (hm:ms=b.length) (hb:b.length≤3000) (hg:g.length≤i):RUN (stOf (sG t l b q s ms g (decide (0<g.length)) i)) = .at (sG t l b q s ms (g++(if q.getD i false && !s.getD i false then [(i:Int)] else [])) (decide (0<(g++(if q.getD i false && !s.getD i false then [(i:Int)] else [])).length)) (i+1:Nat)):=by
 have e0:Int.toNat (i:Int)=i:=rfl;have m1:[(i:Int)]=[(i:Int)]:=rfl;rw [g_t,e0,m1,zhx,zly,hq,hs]
 cases q.getD i false with
 | false=>
  rw [show (false && !s.getD i false)=false from rfl,if_neg (by simp),List.append_nil]
  simp (disch:=omega) only [yS];rfl
 | true=>
  cases s.getD i false with
  | false=>
   rw [show (true && !false)=true from rfl,if_pos rfl]
   simp (disch:=omega) only [yS,Bool.not_false];rfl
  | true=>
   rw [show (true && !true)=false from rfl,if_neg (by simp),List.append_nil]
   simp (disch:=omega) only [yS,Bool.not_true];rfl
theorem loopG {t:Int} {l:List Int} {b:List Bool}  {q s:List Bool} {ms:Nat} (hq:q.length=b.length) (hs:s.length=ms) (hm:ms=b.length) (hb:b.length≤3000):∀ (k i:Nat) (g:List Int),i+k=b.length→g.length≤i→EndM 2 75 ctTg (stOf (sG t l b q s ms g (decide (0<g.length)) i)) (.slO 2 1 (g++ofNs (((List.range' i k).filter fun j=>q.getD j false).filter fun j=>!s.getD j false)).length (decide (0<(g++ofNs (((List.range' i k).filter fun j=>q.getD j false).filter fun j=>!s.getD j false)).length))) (PFrA.K0 t l b++[(2,.seq 3 (.ints .i64 (g++ofNs (((List.range' i k).filter fun j=>q.getD j false).filter fun j=>!s.getD j false))) (decide (0<(g++ofNs (((List.range' i k).filter fun j=>q.getD j false).filter fun j=>!s.getD j false)).length)))]) 3
 | 0,i,g,h,hg=>by
  have h1:=g_t t l b q s ms g (decide (0<g.length)) i;rw [df (show ¬ (i:Int)<(b.length:Int) by omega),bc_f] at h1;have e:g++ofNs (((List.range' i 0).filter fun j=>q.getD j false).filter fun j=>!s.getD j false)=g:=List.append_nil g;rw [e];exact .done h1
 | k+1,i,g,h,hg=>by
  have h1:=stG (t:=t) (l:=l) (b:=b)  (q:=q) (s:=s) (ms:=ms) (g:=g) (i:=i) (by omega) hq hs hm hb hg;have e:∀ g:List Int,g++ofNs (((List.range' i (k+1)).filter fun j=>q.getD j false).filter fun j=>!s.getD j false)=(g++(if q.getD i false && !s.getD i false then [(i:Int)] else []))++ofNs (((List.range' (i+1) k).filter fun j=>q.getD j false).filter fun j=>!s.getD j false):=fun g=>by
   rw [List.range'_succ,List.append_assoc];congr 1
   cases hqi:q.getD i false with
   | false=>rw [List.filter_cons_of_neg (p:=fun j=>q.getD j false) (by rw [hqi];simp)];rfl
   | true=>
    rw [List.filter_cons_of_pos (p:=fun j=>q.getD j false) hqi]
    cases hsi:s.getD i false with
    | false=>rw [List.filter_cons_of_pos (p:=fun j=>!s.getD j false) (by rw [hsi];rfl)];rfl
    | true=>rw [List.filter_cons_of_neg (p:=fun j=>!s.getD j false) (by rw [hsi];simp)];rfl
  rw [e];exact .at zbg h1 (loopG hq hs hm hb k (i+1) _ (by omega) (by rw [List.length_append];split <;> simp <;> omega))
theorem loopR {t:Int} {l:List Int} {b:List Bool} {o:List Bool} {no:Bool} (h:FrOk l b) (ho:o.length=l.length):∀ (k i:Nat),i+k=b.length→EndM 2 75 ctTg (stOf (sR t l b o no (rstS l b (O o) i) i)) (.slO 2 1 (gF l b (O o)).length (decide (0<(gF l b (O o)).length))) (PFrA.K0 t l b++[(2,.seq 3 (.ints .i64 (gF l b (O o))) (decide (0<(gF l b (O o)).length)))]) 3
 | 0,i,hi=>by
  obtain rfl:i=b.length:=by omega
  rw [zhl];have h2:=loopG (t:=t) (l:=l) (b:=b)  (q:=rstF l b (O o)) (s:=tgB l (rstF l b (O o))) (ms:=l.length) (za2 _ _ _) (zjt _ _) h.1.symm (by have:=h.1;have:=h.2.1;omega) b.length 0 [] (by omega) (Nat.le_refl _);rw [← List.range_eq_range',List.nil_append] at h2;have e:ofNs (((List.range b.length).filter fun j=>(rstF l b (O o)).getD j false).filter fun j=>!(tgB l (rstF l b (O o))).getD j false)=gF l b (O o):=by
   unfold gF gonF idxB;rw [za2]
  rw [e] at h2;exact .at zbg (endR h) h2
 | k+1,i,hi=>.at zbg (stR (by omega) h.1 h.2.1 (by have:=h.1;omega)) (loopR h ho k (i+1) (by omega))
theorem ends {t:Int} {l:List Int} {b:List Bool} {o:List Bool} {no:Bool} (h:FrOk l b) (ho:o.length=l.length):EndM 2 75 ctTg (st0m 75 [.ptr 0 0,.slO 1 1 b.length true,.fn 76 [.ptr 2 0]] (K0 t l b o no) 4) (.slO 2 1 (gF l b (O o)).length (decide (0<(gF l b (O o)).length))) (PFrA.K0 t l b++[(2,.seq 3 (.ints .i64 (gF l b (O o))) (decide (0<(gF l b (O o)).length)))]) 3:=by
 have h1:=in_t t l b o no;have hb:b.length≤3000:=by have:=h.1;have:=h.2.1;omega
 rw [b_nil] at h1;simp (disch:=omega) only [yS] at h1;have h2:=loopR (t:=t) (no:=no) h ho b.length 0 (by omega);rw [zfv] at h2;exact .at zbg h1 h2
end PFrB
namespace PFrC
abbrev O (kk:Int):Nat→Bool:=fun j=>((j:Int)==kk)
theorem stR {t:Int} {l:List Int} {b:List Bool} {kk:Int} {i:Nat} (hi:i<b.length) (hl:b.length=l.length) (hb:l.length≤3000)  : RUN (stOf (sR t l b kk (rstS l b (O kk) i) i)) = .at (sR t l b kk (rstS l b (O kk) (i+1)) (i+1:Nat)):=by
 have e0:Int.toNat (i:Int)=i:=rfl;rw [r_t,e0,zj6 l b _ hi,zhk]
 cases hbi:b.getD i false with
 | false=>
  rw [zb4 l b (O kk) (v:=false) (by rw [hbi];rfl)];simp (disch:=omega) only [yS];rfl
 | true=>
  by_cases hp:1000<l.getD i 0
  ·rw [dt hp,zb4 l b (O kk) (v:=!((i:Int)==kk)) (by rw [hbi,show isPn (l.getD i 0)=true from decide_eq_true hp];rfl)]
   simp (disch:=omega) only [yS];rfl
  ·rw [df hp,zb4 l b (O kk) (v:=!false) (by rw [hbi,show isPn (l.getD i 0)=false from decide_eq_false hp];rfl)]
   simp (disch:=omega) only [yS];rfl
theorem endR {t:Int} {l:List Int} {b:List Bool} {kk:Int} (h:FrOk l b):RUN (stOf (sR t l b kk (rstF l b (O kk)) b.length)) = .at (sG t l b kk (rstF l b (O kk)) (tgB l (rstF l b (O kk))) l.length [] false 0):=by
 rw [r_t,za2,df (show ¬ (b.length:Int)<(b.length:Int) by omega),bc_f];have h1:=TigOk.of h (O kk);rw [za2] at h1;rw [dt h1];simp (disch:=omega) only [yS]
theorem stG {t:Int} {l:List Int} {b:List Bool} {kk:Int} {q s:List Bool} {ms:Nat} {g:List Int} {i:Nat} (hi:i<b.length) (hq:q.length=b.length) (hs:s.length=ms) (hm:ms=b.length) (hb:b.length≤3000) (hg:g.length≤i):RUN (stOf (sG t l b kk q s ms g (decide (0<g.length)) i)) = .at (sG t l b kk q s ms (g++(if q.getD i false && !s.getD i false then [(i:Int)] else [])) (decide (0<(g++(if q.getD i false && !s.getD i false then [(i:Int)] else [])).length)) (i+1:Nat)):=by
 have e0:Int.toNat (i:Int)=i:=rfl;have m1:[(i:Int)]=[(i:Int)]:=rfl;rw [g_t,e0,m1,zhx,zly,hq,hs]
 cases q.getD i false with
 | false=>
  rw [show (false && !s.getD i false)=false from rfl,if_neg (by simp),List.append_nil]
  simp (disch:=omega) only [yS];rfl
 | true=>
  cases s.getD i false with
  | false=>
   rw [show (true && !false)=true from rfl,if_pos rfl]
   simp (disch:=omega) only [yS,Bool.not_false];rfl
  | true=>
   rw [show (true && !true)=false from rfl,if_neg (by simp),List.append_nil]
   simp (disch:=omega) only [yS,Bool.not_true];rfl
theorem loopG {t:Int} {l:List Int} {b:List Bool} {kk:Int} {q s:List Bool} {ms:Nat} (hq:q.length=b.length) (hs:s.length=ms) (hm:ms=b.length) (hb:b.length≤3000):∀ (k i:Nat) (g:List Int),i+k=b.length→g.length≤i→EndM 3 75 ctTg (stOf (sG t l b kk q s ms g (decide (0<g.length)) i)) (.slO 3 1 (g++ofNs (((List.range' i k).filter fun j=>q.getD j false).filter fun j=>!s.getD j false)).length (decide (0<(g++ofNs (((List.range' i k).filter fun j=>q.getD j false).filter fun j=>!s.getD j false)).length))) (K0 t l b kk++[(3,.seq 3 (.ints .i64 (g++ofNs (((List.range' i k).filter fun j=>q.getD j false).filter fun j=>!s.getD j false))) (decide (0<(g++ofNs (((List.range' i k).filter fun j=>q.getD j false).filter fun j=>!s.getD j false)).length)))]) 4
 | 0,i,g,h,hg=>by
  have h1:=g_t t l b kk q s ms g (decide (0<g.length)) i;rw [df (show ¬ (i:Int)<(b.length:Int) by omega),bc_f] at h1;have e:g++ofNs (((List.range' i 0).filter fun j=>q.getD j false).filter fun j=>!s.getD j false)=g:=List.append_nil g;rw [e];exact .done h1
 | k+1,i,g,h,hg=>by
  have h1:=stG (t:=t) (l:=l) (b:=b) (kk:=kk) (q:=q) (s:=s) (ms:=ms) (g:=g) (i:=i) (by omega) hq hs hm hb hg;have e:∀ g:List Int,g++ofNs (((List.range' i (k+1)).filter fun j=>q.getD j false).filter fun j=>!s.getD j false)=(g++(if q.getD i false && !s.getD i false then [(i:Int)] else []))++ofNs (((List.range' (i+1) k).filter fun j=>q.getD j false).filter fun j=>!s.getD j false):=fun g=>by
   rw [List.range'_succ,List.append_assoc];congr 1
   cases hqi:q.getD i false with
   | false=>rw [List.filter_cons_of_neg (p:=fun j=>q.getD j false) (by rw [hqi];simp)];rfl
   | true=>
    rw [List.filter_cons_of_pos (p:=fun j=>q.getD j false) hqi]
    cases hsi:s.getD i false with
    | false=>rw [List.filter_cons_of_pos (p:=fun j=>!s.getD j false) (by rw [hsi];rfl)];rfl
    | true=>rw [List.filter_cons_of_neg (p:=fun j=>!s.getD j false) (by rw [hsi];simp)];rfl
  rw [e];exact .at zbg h1 (loopG hq hs hm hb k (i+1) _ (by omega) (by rw [List.length_append];split <;> simp <;> omega))
theorem loopR {t:Int} {l:List Int} {b:List Bool} {kk:Int} (h:FrOk l b)  : ∀ (k i:Nat),i+k=b.length→EndM 3 75 ctTg (stOf (sR t l b kk (rstS l b (O kk) i) i)) (.slO 3 1 (gF l b (O kk)).length (decide (0<(gF l b (O kk)).length))) (K0 t l b kk++[(3,.seq 3 (.ints .i64 (gF l b (O kk))) (decide (0<(gF l b (O kk)).length)))]) 4
 | 0,i,hi=>by
  obtain rfl:i=b.length:=by omega
  rw [zhl];have h2:=loopG (t:=t) (l:=l) (b:=b) (kk:=kk) (q:=rstF l b (O kk)) (s:=tgB l (rstF l b (O kk))) (ms:=l.length) (za2 _ _ _) (zjt _ _) h.1.symm (by have:=h.1;have:=h.2.1;omega) b.length 0 [] (by omega) (Nat.le_refl _);rw [← List.range_eq_range',List.nil_append] at h2;have e:ofNs (((List.range b.length).filter fun j=>(rstF l b (O kk)).getD j false).filter fun j=>!(tgB l (rstF l b (O kk))).getD j false)=gF l b (O kk):=by
   unfold gF gonF idxB;rw [za2]
  rw [e] at h2;exact .at zbg (endR h) h2
 | k+1,i,hi=>.at zbg (stR (by omega) h.1 h.2.1 ) (loopR h k (i+1) (by omega))
theorem ends {t:Int} {l:List Int} {b:List Bool} {kk:Int} (h:FrOk l b)  : EndM 3 75 ctTg (st0m 75 [.ptr 0 0,.slO 1 1 b.length true,.fn 90 [.ptr 2 0]] (K0 t l b kk) 3) (.slO 3 1 (gF l b (O kk)).length (decide (0<(gF l b (O kk)).length))) (K0 t l b kk++[(3,.seq 3 (.ints .i64 (gF l b (O kk))) (decide (0<(gF l b (O kk)).length)))]) 4:=by
 have h1:=in_t t l b kk;have hb:b.length≤3000:=by have:=h.1;have:=h.2.1;omega
 rw [b_nil] at h1;simp (disch:=omega) only [yS] at h1;have h2:=loopR (t:=t) (kk:=kk) h b.length 0 (by omega);rw [zfv] at h2;exact .at zbg h1 h2
end PFrC
noncomputable def spFre_0:ZMT:=fun ax K0 m=>match ax,K0 with
 | [.ptr 0 0,.slO 1 1 v_0 v_1,.fn 78 []],[(0,.cells 24 [.v (.int .i64 t),.lst (.ints .i64 l)] v_2),(1,.seq 4 (.bools b) v_3)]=>bc (Nat.beq m (2)) (some ⟨bc (Nat.beq v_0 (b.length)) (bc (eqN v_1 (true)) (bc (eqN v_2 (true)) (bc (eqN v_3 (true)) (decide (FrOk l b)) false) false) false) false,.slO 2 1 (gF l b PFrA.O).length (decide (0<(gF l b PFrA.O).length)),PFrA.K0 t l b++[(2,.seq 3 (.ints .i64 (gF l b PFrA.O)) (decide (0<(gF l b PFrA.O).length)))],3,2⟩) none
 | _,_=>none
theorem zm2:ZMtOk Try.prog 75 spFre_0:=fun γ w0 w us ax K0 m r hs hc hres hax hH=>by
 unfold spFre_0 at hs;split at hs
 case h_2=>cases hs
 rename_i v_0 v_1 t l v_2 b v_3;obtain ⟨hm,rfl⟩:=noN hs;have hm:=Nat.eq_of_beq_eq_true hm;subst hm;have hc_0:bc (Nat.beq v_0 (b.length)) (bc (eqN v_1 (true)) (bc (eqN v_2 (true)) (bc (eqN v_3 (true)) (decide (FrOk l b)) false) false) false) false=true:=hc;obtain ⟨q_0,hc_1⟩:=bcT hc_0;have p_0:=(Nat.eq_of_beq_eq_true q_0).symm;subst p_0;obtain ⟨q_1,hc_2⟩:=bcT hc_1;have p_1:=(zbo q_1).symm;subst p_1;obtain ⟨q_2,hc_3⟩:=bcT hc_2;have p_2:=(zbo q_2).symm;subst p_2;obtain ⟨q_3,hc_4⟩:=bcT hc_3;have p_3:=(zbo q_3).symm;subst p_3
 have hc:=of_decide_eq_true hc_4;exact EndM.calls (PFrA.ends hc) zbg (by kernel_rfl) hres hax hH
noncomputable def spFre_1:ZMT:=fun ax K0 m=>match ax,K0 with
 | [.ptr 0 0,.slO 1 1 v_0 v_1,.fn 76 [.ptr 2 0]],[(0,.cells 24 [.v (.int .i64 t),.lst (.ints .i64 l)] v_2),(1,.seq 4 (.bools b) v_3),(2,.cells 45 [.slO 3 1 v_4 v_5] v_6),(3,.seq 4 (.bools o) no)]=>bc (Nat.beq m (4)) (some ⟨bc (Nat.beq v_0 (b.length)) (bc (eqN v_1 (true)) (bc (eqN v_2 (true)) (bc (eqN v_3 (true)) (bc (Nat.beq v_4 (o.length)) (bc (eqN v_5 (no)) (bc (eqN v_6 (true)) (decide (FrOkO l b o)) false) false) false) false) false) false) false,.slO 2 1 (gF l b (PFrB.O o)).length (decide (0<(gF l b (PFrB.O o)).length)),PFrA.K0 t l b++[(2,.seq 3 (.ints .i64 (gF l b (PFrB.O o))) (decide (0<(gF l b (PFrB.O o)).length)))],3,2⟩) none
 | _,_=>none
theorem zm1:ZMtOk Try.prog 75 spFre_1:=fun γ w0 w us ax K0 m r hs hc hres hax hH=>by
 unfold spFre_1 at hs;split at hs
 case h_2=>cases hs
 rename_i v_0 v_1 t l v_2 b v_3 v_4 v_5 v_6 o no;obtain ⟨hm,rfl⟩:=noN hs;have hm:=Nat.eq_of_beq_eq_true hm;subst hm;have hc_0:bc (Nat.beq v_0 (b.length)) (bc (eqN v_1 (true)) (bc (eqN v_2 (true)) (bc (eqN v_3 (true)) (bc (Nat.beq v_4 (o.length)) (bc (eqN v_5 (no)) (bc (eqN v_6 (true)) (decide (FrOkO l b o)) false) false) false) false) false) false) false=true:=hc;obtain ⟨q_0,hc_1⟩:=bcT hc_0;have p_0:=(Nat.eq_of_beq_eq_true q_0).symm;subst p_0;obtain ⟨q_1,hc_2⟩:=bcT hc_1;have p_1:=(zbo q_1).symm;subst p_1;obtain ⟨q_2,hc_3⟩:=bcT hc_2
 have p_2:=(zbo q_2).symm;subst p_2;obtain ⟨q_3,hc_4⟩:=bcT hc_3;have p_3:=(zbo q_3).symm;subst p_3;obtain ⟨q_4,hc_5⟩:=bcT hc_4;have p_4:=(Nat.eq_of_beq_eq_true q_4).symm;subst p_4;obtain ⟨q_5,hc_6⟩:=bcT hc_5;have p_5:=(zbo q_5).symm;subst p_5;obtain ⟨q_6,hc_7⟩:=bcT hc_6;have p_6:=(zbo q_6).symm;subst p_6;have hc:=of_decide_eq_true hc_7;exact EndM.calls (PFrB.ends hc.1 hc.2) zbg (by kernel_rfl) hres hax hH
noncomputable def spFre_2:ZMT:=fun ax K0 m=>match ax,K0 with
 | [.ptr 0 0,.slO 1 1 v_0 v_1,.fn 90 [.ptr 2 0]],[(0,.cells 24 [.v (.int .i64 t),.lst (.ints .i64 l)] v_2),(1,.seq 4 (.bools b) v_3),(2,.cells 3 [.v (.int .i64 kk)] v_4)]=>bc (Nat.beq m (3)) (some ⟨bc (Nat.beq v_0 (b.length)) (bc (eqN v_1 (true)) (bc (eqN v_2 (true)) (bc (eqN v_3 (true)) (bc (eqN v_4 (true)) (decide (FrOk l b)) false) false) false) false) false,.slO 3 1 (gF l b (PFrC.O kk)).length (decide (0<(gF l b (PFrC.O kk)).length)),PFrC.K0 t l b kk++[(3,.seq 3 (.ints .i64 (gF l b (PFrC.O kk))) (decide (0<(gF l b (PFrC.O kk)).length)))],4,3⟩) none
 | _,_=>none
theorem zm0:ZMtOk Try.prog 75 spFre_2:=fun γ w0 w us ax K0 m r hs hc hres hax hH=>by
 unfold spFre_2 at hs;split at hs
 case h_2=>cases hs
 rename_i v_0 v_1 t l v_2 b v_3 kk v_4;obtain ⟨hm,rfl⟩:=noN hs;have hm:=Nat.eq_of_beq_eq_true hm;subst hm;have hc_0:bc (Nat.beq v_0 (b.length)) (bc (eqN v_1 (true)) (bc (eqN v_2 (true)) (bc (eqN v_3 (true)) (bc (eqN v_4 (true)) (decide (FrOk l b)) false) false) false) false) false=true:=hc;obtain ⟨q_0,hc_1⟩:=bcT hc_0;have p_0:=(Nat.eq_of_beq_eq_true q_0).symm;subst p_0;obtain ⟨q_1,hc_2⟩:=bcT hc_1;have p_1:=(zbo q_1).symm;subst p_1;obtain ⟨q_2,hc_3⟩:=bcT hc_2;have p_2:=(zbo q_2).symm;subst p_2;obtain ⟨q_3,hc_4⟩:=bcT hc_3
 have p_3:=(zbo q_3).symm;subst p_3;obtain ⟨q_4,hc_5⟩:=bcT hc_4;have p_4:=(zbo q_4).symm;subst p_4;have hc:=of_decide_eq_true hc_5;exact EndM.calls (PFrC.ends hc) zbg (by kernel_rfl) hres hax hH
noncomputable def spFre:ZMT:=ZMT.or spFre_0 (ZMT.or spFre_1 (spFre_2))
theorem zrv:ZMtOk Try.prog 75 spFre:=zm2.or (zm1.or (zm0))
namespace PCol
noncomputable def K0 (b:List Bool) (nb:Bool):List (Nat×EK):=[(0,.cells 45 [.slO 1 1 b.length nb] true),(1,.seq 4 (.bools b) nb)]
noncomputable def RUN (s:ES):ZF:=RMs 2 69 .nil [(atS 2 116 1,[[(0,none),(5,none),(6,none),(7,none)],[(2,some (1,3,.ints .i64 []))],[]])] [2] [] s
noncomputable def sL (b:List Bool) (nb:Bool) (g:List Int) (nn:Bool) (i:Int):NS:=⟨[⟨116,20,[(0,(EV.yl 2)),(5,(EV.slO 1 1 (List.length b) nb)),(6,(iv (Int.ofNat (List.length b)))),(7,iv i)],[.it (.code (nav [1,0,0] (bodyOf Try.f116))),.it (.inLoop (nav [1,0,0] (bodyOf Try.f116))),.it (.inBlock 0)],[],Option.none⟩,⟨115,13,[(2,(EV.ptr 3 0))],[(.inRF 2),.it (.inBlock 0),.it (.code (nav [1,1] (bodyOf Try.f115)))],[(DE.mk 4)],Option.none⟩,⟨69,5,[],[.ops (opsOf (nav [1,0] (bodyOf Try.f69))) ((opsOf (nav [1,0] (bodyOf Try.f69))).toList.drop 1),.it (.code (nav [1,1] (bodyOf Try.f69)))],[],Option.none⟩],[(0,(EK.cells 45 [(EV.slO 1 1 (List.length b) nb)] true)),(1,(EK.seq 4 (SyC.bools b) nb)),(2,(EK.loop LoopState.ready Option.none 115 13 (Tr.node Option.none (Tr.node Option.none Tr.nil (Tr.node (Option.some (EV.ptr 3 0)) Tr.nil Tr.nil)) Tr.nil) (Array.mk [7]) (nav [1,0,1,0,0] (bodyOf Try.f115)) (nav [1,0,1,0,1] (bodyOf Try.f115)) 4)),(3,EK.cells 22 [EV.slO 5 1 g.length nn] true),(4,(EK.dfr true)),(5,EK.seq 3 (.ints .i64 g) nn)],6⟩
theorem in_t (b:List Bool) (nb:Bool):RUN (st0m 69 [.fn 116 [.ptr 0 0]] (K0 b nb) 2)=(.at (sL b nb [] false 0)):=by kernel_rfl
theorem l_t (b:List Bool) (nb:Bool) (g:List Int) (nn:Bool) (i:Int):RUN (stOf (sL b nb g nn i))=(bc (decide (i<Int.ofNat b.length)) (bc (bc (bc (decide (0≤i)) (Nat.blt i.toNat b.length) false) true false) (bc (bc (Nat.blt i.toNat b.length) true false) (bc (b.getD i.toNat false) (bc (bc (Nat.beq g.length g.length) (bc (Nat.ble (g.length+([i]).length) 65536) (bc nn true (bc nn false true)) false) false) (.at (sL b nb (g++[i]) (bc nn true (Nat.blt 0 ([i]).length)) (IntKind.i64.wrap (i+1)))) .bad) (.at (sL b nb g nn (IntKind.i64.wrap (i+1))))) .bad) .bad) (.done (EV.slO 2 1 g.length nn) [(0,(EK.cells 45 [(EV.slO 1 1 b.length nb)] true)),(1,(EK.seq 4 (SyC.bools b) nb)),(2,(EK.seq 3 (SyC.ints IntKind.i64 g) nn))] 3)):=by kernel_rfl
theorem step {b:List Bool} {nb:Bool} {g:List Int} {i:Nat} (hi:i<b.length) (hb:b.length≤3000) (hg:g.length≤i):RUN (stOf (sL b nb g (decide (0<g.length)) i)) = .at (sL b nb (g++(if b.getD i false then [(i:Int)] else [])) (decide (0<(g++(if b.getD i false then [(i:Int)] else [])).length)) (i+1:Nat)):=by
 have e0:(i:Int).toNat=i:=rfl;have m1:[(i:Int)]=[(i:Int)]:=rfl;rw [l_t,e0,m1,zhx,zly]
 cases b.getD i false with
 | false=>
  rw [if_neg (by simp),List.append_nil];simp (disch:=omega) only [yS];rfl
 | true=>
  rw [if_pos rfl];simp (disch:=omega) only [yS];rfl
theorem loop {b:List Bool} {nb:Bool} (hb:b.length≤3000):∀ (k i:Nat) (g:List Int),i+k=b.length→g.length≤i→EndM 2 69 .nil (stOf (sL b nb g (decide (0<g.length)) i)) (.slO 2 1 (g++ofNs ((List.range' i k).filter fun j=>b.getD j false)).length (decide (0<(g++ofNs ((List.range' i k).filter fun j=>b.getD j false)).length))) (K0 b nb++[(2,.seq 3 (.ints .i64 (g++ofNs ((List.range' i k).filter fun j=>b.getD j false))) (decide (0<(g++ofNs ((List.range' i k).filter fun j=>b.getD j false)).length)))]) 3
 | 0,i,g,h,hg=>by
  have h1:=l_t b nb g (decide (0<g.length)) i;rw [df (show ¬ (i:Int)<Int.ofNat b.length by rw [ofn];omega),bc_f] at h1;have e:g++ofNs ((List.range' i 0).filter fun j=>b.getD j false)=g:=List.append_nil g;rw [e];exact .done h1
 | k+1,i,g,h,hg=>by
  have h1:=step (b:=b) (nb:=nb) (g:=g) (i:=i) (by omega) hb hg;have e:g++ofNs ((List.range' i (k+1)).filter fun j=>b.getD j false)=(g++(if b.getD i false then [(i:Int)] else []))++ofNs ((List.range' (i+1) k).filter fun j=>b.getD j false):=by
   rw [List.range'_succ,List.append_assoc];congr 1
   cases hqi:b.getD i false with
   | false=>rw [List.filter_cons_of_neg (p:=fun j=>b.getD j false) (by rw [hqi];simp)];rfl
   | true=>rw [List.filter_cons_of_pos (p:=fun j=>b.getD j false) hqi];rfl
  rw [e];exact .at (.nil _) h1 (loop hb k (i+1) _ (by omega) (by rw [List.length_append];split <;> simp <;> omega))
theorem ends {b:List Bool} {nb:Bool} (hb:b.length≤3000):EndM 2 69 .nil (st0m 69 [.fn 116 [.ptr 0 0]] (K0 b nb) 2) (.slO 2 1 (ofNs (idxB b)).length (decide (0<(ofNs (idxB b)).length))) (K0 b nb++[(2,.seq 3 (.ints .i64 (ofNs (idxB b))) (decide (0<(ofNs (idxB b)).length)))]) 3:=by
 have h1:=in_t b nb;have h2:=loop (b:=b) (nb:=nb) hb b.length 0 [] (by omega) (Nat.le_refl _);rw [← List.range_eq_range',List.nil_append] at h2;exact .at (.nil _) h1 h2
end PCol
noncomputable def spCol:ZMT:=fun ax K0 m=>match ax,K0 with
 | [.fn 116 [.ptr 0 0]],[(0,.cells 45 [.slO 1 1 v_0 v_1] v_2),(1,.seq 4 (.bools b) nb)]=>bc (Nat.beq m (2)) (some ⟨bc (Nat.beq v_0 (b.length)) (bc (eqN v_1 nb) (bc (eqN v_2 true) (decide (b.length≤3000)) false) false) false,.slO 2 1 (ofNs (idxB b)).length (decide (0<(ofNs (idxB b)).length)),PCol.K0 b nb++[(2,.seq 3 (.ints .i64 (ofNs (idxB b))) (decide (0<(ofNs (idxB b)).length)))],3,2⟩) none
 | _,_=>none
theorem zrx:ZMtOk Try.prog 69 spCol:=fun γ w0 w us ax K0 m r hs hc hres hax hH=>by
 unfold spCol at hs;split at hs
 case h_2=>cases hs
 rename_i v_0 v_1 v_2 b nb;obtain ⟨hm,rfl⟩:=noN hs;have hm:=Nat.eq_of_beq_eq_true hm;subst hm;have hc_0:bc (Nat.beq v_0 (b.length)) (bc (eqN v_1 nb) (bc (eqN v_2 true) (decide (b.length≤3000)) false) false) false=true:=hc;obtain ⟨q_0,hc_1⟩:=bcT hc_0;have p_0:=(Nat.eq_of_beq_eq_true q_0).symm;subst p_0;obtain ⟨q_1,hc_2⟩:=bcT hc_1;have p_1:=(zbo q_1).symm;subst p_1;obtain ⟨q_2,hc_3⟩:=bcT hc_2;have p_2:=(zbo q_2).symm;subst p_2;have hc:=of_decide_eq_true hc_3;exact EndM.calls (PCol.ends hc) (.nil _) (by kernel_rfl) hres hax hH
noncomputable def ctLo:Tr ZCC:=(((Tr.nil.put 68 (some (dC spPChL))).put 71 (some (mC spTgt))).put 75 (some (mC spFre))).put 69 (some (mC spCol))
theorem zcd:ZCtsOk Try.prog ctLo:=((((ZCtsOk.nil _).add rfl zoq).addM rfl zrm).addM rfl zrv).addM rfl zrx
noncomputable abbrev hE (t:Int) (l:List Int):EV:=.agg [iv t,il l]
noncomputable abbrev rsL (e:Int) (l:List Int):EV:=.tup [il (bc (e != 0) [] l),iv e]
theorem zfw {e:Int} (l:List Int) (h:e≠0):Weak (.tup [.v (.slice none 0 0),iv e]) (rsL e l):=by
 unfold rsL;rw [show (e != 0)=true by simp [h],bc_t];exact Weak.tup (.cons (Weak.nilI _) (.cons (Weak.refl _) .nil))
theorem zk4 {p:Int→Bool}:∀ {l:List Int},anyI p l=false→∀ x,x∈l→p x=false
 | [],_,x,hx=>by cases hx
 | y::l,h,x,hx=>by
  unfold anyI at h
  cases hy:p y with
  | true=>rw [hy,bc_t] at h;cases h
  | false=>
   rw [hy,bc_f] at h;rcases List.mem_cons.1 hx with rfl|hx
   ·exact hy
   ·exact zk4 h x hx
theorem zwp {t x:Int} (ht:2≤t∧t≤48) (h:badH t x=false):LetOk x:=by
 unfold badH at h
 by_cases h1:x ≤ -t
 ·rw [dt h1,bc_t] at h;cases h
 rw [df h1,bc_f] at h
 by_cases h2:x=0
 ·rw [eqT h2,bc_t] at h;cases h
 rw [eqF h2,bc_f] at h;unfold LetOk
 by_cases h3:t≤x
 ·rw [dt h3,bc_t] at h
  by_cases h4:x≤1000
  ·rw [dt h4,bc_t] at h;cases h
  rw [df h4,bc_f] at h;have:=of_decide_eq_false h;omega
 ·omega
theorem ze9 {t:Int} {l:List Int} (h:chkL t l=0):(2≤t∧t≤48)∧l.length≤2000∧∀ x,x∈l→LetOk x:=by
 unfold chkL at h
 by_cases h1:t<2
 ·rw [dt h1,bc_t] at h;cases h
 rw [df h1,bc_f] at h
 by_cases h2:48<t
 ·rw [dt h2,bc_t] at h;cases h
 rw [df h2,bc_f] at h
 by_cases h3:2000<(l.length:Int)
 ·rw [dt h3,bc_t] at h;cases h
 rw [df h3,bc_f] at h
 cases hb:anyI (badH t) l with
 | true=>rw [hb,bc_t] at h;cases h
 | false=>exact ⟨by omega,by omega,fun x hx=>zwp (by omega) (zk4 hb x hx)⟩
theorem zeo {t:Int} {l:List Int} (h:chkL t l=0):TigOk l l 0 0∧FrOk l (tgA l):=by
 obtain ⟨_,h1,h2⟩:=ze9 h;exact ⟨⟨rfl,rfl,by omega,h2⟩,zc6 l,by omega,h2⟩
namespace PTight
noncomputable def RUN (s:ES):ZF:=RZ 17 ctLo (fun _=>false) [] [] false s
theorem in_t (t:Int) (l:List Int):RUN (st0 17 [hE t l])=(bc (bc (decide (In64 l)) true false) (bc (chkL t l != 0) (.done (EV.tup [(EV.v (Value.slice Option.none 0 0)),(iv (chkL t l))]) [] 0) (bc (bc (decide (TigOk l l 0 0)) true false) (bc (bc (bc (Nat.beq l.length (tgA l).length) (decide ((tgA l).length≤3000)) false) true false) (bc (bc (Nat.beq (ofNs (idxB (tgA l))).length (ofNs (idxB (tgA l))).length) true false) (.done (EV.tup [(il (ofNs (idxB (tgA l)))),(iv (0))]) [] 0) .bad) .bad) .bad)) .bad):=by kernel_rfl
theorem ends {t:Int} {l:List Int} (hx:In64 l):EndZ 17 ctLo false (st0 17 [hE t l]) (rsL (chkL t l) (ofNs (idxB (tgA l)))) [] 0:=by
 have h:=in_t t l;rw [dt hx,bc_t,bc_t] at h
 by_cases z:chkL t l=0
 ·obtain ⟨h1,h2⟩:=zeo z;have h3:=zc6 l;have h4:=h1.2.2.1;unfold rsL;rw [z,show ((0:Int) != 0)=false from rfl,bc_f,dt h1,h3] at h
  rw [z,show ((0:Int) != 0)=false from rfl,bc_f]
  simp (disch:=omega) only [yS] at h;exact .done h
 ·rw [show (chkL t l != 0)=true by simp [z],bc_t] at h;exact (EndZ.done h).weak (zfw _ z)
end PTight
noncomputable def spPTi:ZCT:=fun ax=>match ax with
 | [.agg [.v (.int .i64 t),.lst (.ints .i64 l)]]=>some ⟨decide (In64 l),rsL (chkL t l) (ofNs (idxB (tgA l))),[],0⟩
 | _=>none
theorem zrq:ZCtOk Try.prog 17 spPTi:=fun γ w us ax r hs hc hax hN hfz=>by
 unfold spPTi at hs;split at hs
 case h_2=>cases hs
 rename_i t l;obtain ⟨rfl⟩:=Option.some.inj hs;have hc_0:decide (In64 l)=true:=hc;have hc:=of_decide_eq_true hc_0;exact EndZ.calls (PTight.ends hc) zcd (by kernel_rfl) hax hN hfz
namespace PFreed
noncomputable def RUN (s:ES):ZF:=RZ 22 ctLo (fun _=>false) [] [] false s
theorem in_t (t:Int) (l:List Int):RUN (st0 22 [hE t l])=(bc (bc (decide (In64 l)) true false) (bc (chkL t l != 0) (.done (EV.tup [(EV.v (Value.slice Option.none 0 0)),(iv (chkL t l))]) [] 0) (bc (bc (decide (TigOk l l 0 0)) true false) (bc (bc (bc (Nat.beq l.length (tgA l).length) (decide (FrOk l (tgA l))) false) true false) (bc (bc (Nat.beq (gF l (tgA l) PFrA.O).length (gF l (tgA l) PFrA.O).length) true false) (.done (EV.tup [(il (gF l (tgA l) PFrA.O)),(iv (0))]) [] 0) .bad) .bad) .bad)) .bad):=by kernel_rfl
theorem ends {t:Int} {l:List Int} (hx:In64 l):EndZ 22 ctLo false (st0 22 [hE t l]) (rsL (chkL t l) (gF l (tgA l) fun _=>true)) [] 0:=by
 have h:=in_t t l;rw [dt hx,bc_t,bc_t] at h
 by_cases z:chkL t l=0
 ·obtain ⟨h1,h2⟩:=zeo z;have h3:=zc6 l;unfold rsL;rw [z,show ((0:Int) != 0)=false from rfl,bc_f,dt h1,h3,dt h2] at h
  rw [z,show ((0:Int) != 0)=false from rfl,bc_f]
  simp (disch:=omega) only [yS] at h;exact .done h
 ·rw [show (chkL t l != 0)=true by simp [z],bc_t] at h;exact (EndZ.done h).weak (zfw _ z)
end PFreed
noncomputable def spPFd:ZCT:=fun ax=>match ax with
 | [.agg [.v (.int .i64 t),.lst (.ints .i64 l)]]=>some ⟨decide (In64 l),rsL (chkL t l) (gF l (tgA l) fun _=>true),[],0⟩
 | _=>none
theorem zlj:ZCtOk Try.prog 22 spPFd:=fun γ w us ax r hs hc hax hN hfz=>by
 unfold spPFd at hs;split at hs
 case h_2=>cases hs
 rename_i t l;obtain ⟨rfl⟩:=Option.some.inj hs;have hc_0:decide (In64 l)=true:=hc;have hc:=of_decide_eq_true hc_0;exact EndZ.calls (PFreed.ends hc) zcd (by kernel_rfl) hax hN hfz
noncomputable def wokF (l p:List Int) (i:Nat):Bool:=bc (decide (p.getD i 0<0)) false (bc (decide ((l.length:Int)≤p.getD i 0)) false (bc (isPn (l.getD (p.getD i 0).toNat 0)) (bc (decide (0<i)) (!decide (p.getD i 0≤p.getD (i-1) 0)) true) false))
noncomputable def wokA (l p:List Int):Bool:=(List.range p.length).all (wokF l p)
noncomputable def withE (t:Int) (l p:List Int):Int:=bc (chkL t l != 0) (chkL t l) (bc (wokA l p) 0 2)
def PinO (p:List Int) (j:Nat):Bool:=decide ((j:Int)∈p)
def InvO (o:List Bool) (n:Nat) (p:List Int) (i:Nat):Prop:=o.length=n∧∀ j,o.getD j false=true↔(j:Int)∈p.take i
namespace PWith
noncomputable def RUN (s:ES):ZF:=RZ 20 ctLo (atS 0 20 6) [] [[(1,none),(2,none),(7,none),(19,none),(20,none),(21,none)]] false s
noncomputable def sL (t:Int) (l p:List Int) (o:List Bool) (m:Nat) (i:Int):NS:=⟨[⟨20,63,[(1,(il p)),(2,(EV.ptr 0 0)),(7,(EV.ptr 1 0)),(19,(il p)),(20,(iv (Int.ofNat (List.length p)))),(21,iv i)],[.it (.code (nav [1,1,1,0,1,0,0] (bodyOf Try.f20))),.it (.inLoop (nav [1,1,1,0,1,0,0] (bodyOf Try.f20))),.it (.inBlock 0),.it (.code (nav [1,1,1,1] (bodyOf Try.f20)))],[],Option.none⟩],[(0,(EK.cells 24 [(iv t),(il l)] true)),(1,EK.cells 45 [EV.slO 2 1 m true] true),(2,EK.seq 4 (.bools o) true)],3⟩
theorem in_t (t:Int) (l p:List Int):RUN (st0 20 [hE t l,il p])=(bc (bc (decide (In64 l)) true false) (bc (chkL t l != 0) (.done (EV.tup [(EV.v (Value.slice Option.none 0 0)),(iv (chkL t l))]) [] 0) (bc (bc (decide (Int.ofNat l.length≤Int.ofNat l.length)) (decide (Int.ofNat l.length≤65536)) false) (.at (sL t l p (List.replicate (Int.ofNat l.length).toNat false) (List.replicate (Int.ofNat l.length).toNat false).length 0)) .bad)) .bad):=by kernel_rfl
theorem l_t (t:Int) (l p:List Int) (o:List Bool) (m:Nat) (i:Int):RUN (stOf (sL t l p o m i))=(bc (decide (i<Int.ofNat p.length)) (bc (bc (bc (decide (0≤i)) (Nat.blt i.toNat p.length) false) true false) (bc (bc (Nat.blt i.toNat p.length) true false) (bc (decide (p.getD i.toNat 0<0)) (.done (EV.tup [(EV.v (Value.slice Option.none 0 0)),(iv (2))]) [] 0) (bc (decide (Int.ofNat m≤p.getD i.toNat 0)) (.done (EV.tup [(EV.v (Value.slice Option.none 0 0)),(iv (2))]) [] 0) (bc (bc (bc (decide (0≤p.getD i.toNat 0)) (Nat.blt (p.getD i.toNat 0).toNat l.length) false) true false) (bc (bc (Nat.blt (p.getD i.toNat 0).toNat l.length) true false) (bc (!decide (1000<l.getD (p.getD i.toNat 0).toNat 0)) (.done (EV.tup [(EV.v (Value.slice Option.none 0 0)),(iv (2))]) [] 0) (bc (decide (0<i)) (bc (bc (bc (decide (0≤IntKind.i64.wrap (i-(1:Int)))) (Nat.blt (IntKind.i64.wrap (i-(1:Int))).toNat p.length) false) true false) (bc (bc (Nat.blt (IntKind.i64.wrap (i-(1:Int))).toNat p.length) true false) (bc (decide (p.getD i.toNat 0≤p.getD (IntKind.i64.wrap (i-(1:Int))).toNat 0)) (.done (EV.tup [(EV.v (Value.slice Option.none 0 0)),(iv (2))]) [] 0) (bc (bc (bc (decide (0≤p.getD i.toNat 0)) (Nat.blt (p.getD i.toNat 0).toNat m) false) true false) (bc (Nat.blt (p.getD i.toNat 0).toNat o.length) (.at (sL t l p (List.set o (p.getD i.toNat 0).toNat true) m (IntKind.i64.wrap (i+1)))) .bad) .bad)) .bad) .bad) (bc (bc (bc (decide (0≤p.getD i.toNat 0)) (Nat.blt (p.getD i.toNat 0).toNat m) false) true false) (bc (Nat.blt (p.getD i.toNat 0).toNat o.length) (.at (sL t l p (List.set o (p.getD i.toNat 0).toNat true) m (IntKind.i64.wrap (i+1)))) .bad) .bad))) .bad) .bad))) .bad) .bad) (bc (bc (decide (TigOk l l 0 0)) true false) (bc (bc (bc (Nat.beq l.length (tgA l).length) (bc (Nat.beq m o.length) (decide (FrOkO l (tgA l) o)) false) false) true false) (bc (bc (Nat.beq (gF l (tgA l) (PFrB.O o)).length (gF l (tgA l) (PFrB.O o)).length) true false) (.done (EV.tup [(il (gF l (tgA l) (PFrB.O o))),(iv (0))]) [] 0) .bad) .bad) .bad)):=by kernel_rfl
theorem step {t:Int} {l p:List Int} {o:List Bool} {i:Nat} (hi:i<p.length) (hp:p.length≤3000) (ho:o.length=l.length):RUN (stOf (sL t l p o l.length i))=bc (wokF l p i) (.at (sL t l p (o.set (p.getD i 0).toNat true) l.length (i+1:Nat))) (.done (.tup [.v (.slice none 0 0),iv 2]) [] 0):=by
 have e0:Int.toNat (i:Int)=i:=rfl;have e1:IntKind.i64.wrap ((i:Int)+1)=((i+1:Nat):Int):=by rw [zad _ (by omega) (by omega)];rfl
 rw [l_t,e0,e1,ho];unfold wokF;have c0:decide ((i:Int)<Int.ofNat p.length)=true:=dt (by rw [ofn];omega);have c1:decide (0≤(i:Int))=true:=dt (by omega);have c2:Nat.blt i p.length=true:=bltD hi;simp only [c0,c1,c2,bc_t];generalize hx:p.getD i 0=x
 by_cases h1:x<0
 ·simp only [dt h1,bc_t,bc_f]
 simp only [df h1,bc_f]
 by_cases h2:(l.length:Int)≤x
 ·simp only [ofn,dt h2,bc_t,bc_f]
 have h2':¬ Int.ofNat l.length≤x:=by rw [ofn];exact h2
 have c3:decide (0≤x)=true:=dt (by omega);have c4:Nat.blt x.toNat l.length=true:=bltD (by omega);simp only [df h2,df h2',bc_f,c3,c4,bc_t];unfold isPn
 cases decide (1000<l.getD x.toNat 0) with
 | false=>rfl
 | true=>
  simp only [Bool.not_true,bc_f,bc_t]
  by_cases h3:0<i
  ·have w:IntKind.i64.wrap ((i:Int)-1)=((i-1:Nat):Int):=by rw [zad _ (by omega) (by omega)];omega
   have e2:Int.toNat ((i-1:Nat):Int)=i-1:=rfl;have c5:Nat.blt (i-1) p.length=true:=bltD (by omega);have c6:decide (0≤((i-1:Nat):Int))=true:=dt (by omega);rw [dt h3,dt (show (0:Int)<(i:Int) by omega),w,e2];simp only [bc_t,c5,c6];cases decide (x≤p.getD (i-1) 0) <;> rfl
  ·rw [df h3,df (show ¬ (0:Int)<(i:Int) by omega)];rfl
theorem zwx {l p:List Int} {i:Nat} (h:wokF l p i=true):0≤p.getD i 0∧p.getD i 0<l.length∧isPn (l.getD (p.getD i 0).toNat 0)=true:=by
 unfold wokF at h
 by_cases h1:p.getD i 0<0
 ·rw [dt h1,bc_t] at h;cases h
 rw [df h1,bc_f] at h
 by_cases h2:(l.length:Int)≤p.getD i 0
 ·rw [dt h2,bc_t] at h;cases h
 rw [df h2,bc_f] at h
 cases hp:isPn (l.getD (p.getD i 0).toNat 0) with
 | false=>rw [hp,bc_f] at h;cases h
 | true=>exact ⟨by omega,by omega,rfl⟩
theorem zsk {o:List Bool} {n:Nat} {p:List Int} {i:Nat} (h:InvO o n p i) (hi:i<p.length) (h0:0≤p.getD i 0) (h1:p.getD i 0<n):InvO (o.set (p.getD i 0).toNat true) n p (i+1):=by
 refine ⟨by rw [List.length_set];exact h.1,fun j=>?_⟩;rw [gsB,List.take_succ_eq_append_getElem hi,List.mem_append,List.mem_singleton,← zae (d:=0) hi,← h.2 j]
 by_cases c:j=(p.getD i 0).toNat
 ·rw [if_pos ⟨c,by rw [h.1];omega⟩];have:(j:Int)=p.getD i 0:=by omega
  simp [this]
 ·rw [if_neg fun q=>c q.1];have:¬ (j:Int)=p.getD i 0:=by omega
  exact ⟨.inl,fun q=>q.resolve_right this⟩
theorem loop {t:Int} {l p:List Int} (z:chkL t l=0) (hp:p.length≤3000):∀ (k i:Nat) (o:List Bool),i+k=p.length→InvO o l.length p i→EndZ 20 ctLo false (stOf (sL t l p o l.length i)) (rsL (bc ((List.range' i k).all (wokF l p)) 0 2) (gF l (tgA l) (PinO p))) [] 0
 | 0,i,o,h,ho=>by
  obtain rfl:i=p.length:=by omega
  have h1:=l_t t l p o l.length p.length;obtain ⟨g1,g2⟩:=zeo z;have e:PFrB.O o=PinO p:=by
   funext j
   show o.getD j false=decide ((j:Int)∈p);have:=ho.2 j;rw [List.take_length] at this;rw [Bool.eq_iff_iff,this,decide_eq_true_iff]
  rw [df (show ¬ (p.length:Int)<Int.ofNat p.length by rw [ofn];omega),bc_f,dt g1,zc6,ho.1,dt (show FrOkO l (tgA l) o from ⟨g2,ho.1⟩),e] at h1
  simp (disch:=omega) only [yS] at h1;exact .done h1
 | k+1,i,o,h,ho=>by
  have h1:=step (t:=t) (l:=l) (p:=p) (o:=o) (i:=i) (by omega) hp ho.1;rw [List.range'_succ]
  cases hw:wokF l p i with
  | false=>
   rw [hw,bc_f] at h1;rw [List.all_cons,hw,Bool.false_and,bc_f];exact (EndZ.done h1).weak (zfw _ (by decide))
  | true=>
   rw [hw,bc_t] at h1;rw [List.all_cons,hw,Bool.true_and];obtain ⟨q1,q2,_⟩:=zwx hw;exact .at zcd h1 (loop z hp k (i+1) _ (by omega) (zsk ho (by omega) q1 q2))
theorem ends {t:Int} {l p:List Int} (hx:In64 l) (hp:p.length≤3000):EndZ 20 ctLo false (st0 20 [hE t l,il p]) (rsL (withE t l p) (gF l (tgA l) (PinO p))) [] 0:=by
 have h:=in_t t l p;unfold withE;rw [dt hx,bc_t,bc_t] at h
 by_cases z:chkL t l=0
 ·obtain ⟨_,g1,_⟩:=ze9 z;have e:Int.toNat (Int.ofNat l.length)=l.length:=rfl;have e2:(chkL t l != 0)=false:=by rw [z];rfl
  rw [e2,bc_f,e,dt (show Int.ofNat l.length≤Int.ofNat l.length from Int.le_refl _),dt (show Int.ofNat l.length≤65536 by rw [ofn];omega),bc_t,bc_t,List.length_replicate] at h
  rw [e2,bc_f];have h2:=loop (t:=t) (l:=l) (p:=p) z hp p.length 0 (List.replicate l.length false) (by omega) ⟨List.length_replicate ..,fun j=>by
   rw [List.getD_eq_getElem?_getD,List.getElem?_replicate,List.take_zero]
   by_cases h:j<l.length
   ·rw [if_pos h];simp
   ·rw [if_neg h];simp⟩
  rw [← List.range_eq_range'] at h2;exact .at zcd h h2
 ·rw [show (chkL t l != 0)=true by simp [z],bc_t] at h;rw [show (chkL t l != 0)=true by simp [z],bc_t];exact (EndZ.done h).weak (zfw _ z)
end PWith
noncomputable def spPWi:ZCT:=fun ax=>match ax with
 | [.agg [.v (.int .i64 t),.lst (.ints .i64 l)],.lst (.ints .i64 p)]=>some ⟨decide (In64 l∧p.length≤3000),rsL (withE t l p) (gF l (tgA l) (PinO p)),[],0⟩
 | _=>none
theorem zrp:ZCtOk Try.prog 20 spPWi:=fun γ w us ax r hs hc hax hN hfz=>by
 unfold spPWi at hs;split at hs
 case h_2=>cases hs
 rename_i t l p;obtain ⟨rfl⟩:=Option.some.inj hs;have hc_0:decide (In64 l∧p.length≤3000)=true:=hc;have hc:=of_decide_eq_true hc_0;exact EndZ.calls (PWith.ends hc.1 hc.2) zcd (by kernel_rfl) hax hN hfz
noncomputable def spTch:ZCT:=fun ax=>match ax with
 | [.v (.int .i64 x),.v (.int .i64 y)]=>some ⟨decide ((-1000000≤x∧x≤1000000)∧(-1000000≤y∧y≤1000000)),bv (tchL x y),[],0⟩
 | _=>none
namespace RIsP
noncomputable def RUN (s:ES):ZF:=RZ 41 .nil (fun _=>false) [] [] false s
theorem in_t (x:Int):RUN (st0 41 [iv x])=(.done (bv (decide (1000<x))) [] 0):=by kernel_rfl
end RIsP
noncomputable def spIsP:ZCT:=fun ax=>match ax with
 | [.v (.int .i64 x)]=>some ⟨decide (True),bv (isPn x),[],0⟩
 | _=>none
theorem zrt:ZCtOk Try.prog 41 spIsP:=fun γ w us ax r hs hc hax hN hfz=>by
 unfold spIsP at hs;split at hs
 case h_2=>cases hs
 rename_i x;obtain ⟨rfl⟩:=Option.some.inj hs;have hc_0:decide (True)=true:=hc;have hc:=of_decide_eq_true hc_0;exact EndZ.calls (.done (RIsP.in_t x)) (.nil _) (by kernel_rfl) hax hN hfz
namespace RPns
noncomputable def RUN (s:ES):ZF:=RZ 36 .nil (atS 0 36 3) [] [[(1,none),(3,some (1,3,.ints .i64 [])),(4,none)]] false s
noncomputable def sL (t:Int) (l g:List Int) (nn:Bool) (i:Int):NS:=⟨[⟨36,23,[(1,(EV.ptr 0 0)),(3,EV.slO 1 1 g.length nn),(4,iv i)],[.it (.code (nav [1,1,0,1,0,0,0] (bodyOf Try.f36))),.it (.code (nav [1,1,0,1,0,0,1] (bodyOf Try.f36))),.it (.inLoop (nav [1,1,0,1,0,0] (bodyOf Try.f36))),.it (.inBlock 0),.it (.code (nav [1,1,1] (bodyOf Try.f36)))],[],Option.none⟩],[(0,(EK.cells 24 [(iv t),(il l)] true)),(1,EK.seq 3 (.ints .i64 g) nn)],2⟩
theorem in_t (t:Int) (l:List Int):RUN (st0 36 [hE t l])=(.at (sL t l [] false 0)):=by kernel_rfl
theorem l_t (t:Int) (l g:List Int) (nn:Bool) (i:Int):RUN (stOf (sL t l g nn i))=(bc (decide (i<Int.ofNat l.length)) (bc (bc (bc (decide (0≤i)) (Nat.blt i.toNat l.length) false) true false) (bc (bc (Nat.blt i.toNat l.length) true false) (bc (decide (1000<l.getD i.toNat 0)) (bc (bc (Nat.beq g.length g.length) (bc (Nat.ble (g.length+([i]).length) 65536) (bc nn true (bc nn false true)) false) false) (.at (sL t l (g++[i]) (bc nn true (Nat.blt 0 ([i]).length)) (IntKind.i64.wrap (i+1)))) .bad) (.at (sL t l g nn (IntKind.i64.wrap (i+1))))) .bad) .bad) (bc (Nat.beq g.length g.length) (.done (il g) [] 0) .bad)):=by kernel_rfl
def pinI (l:List Int) (i:Nat):List Nat:=(List.range i).filter fun j=>isPn (l.getD j 0)
theorem zpa (l:List Int) (i:Nat):pinI l (i+1)=pinI l i++(if isPn (l.getD i 0) then [i] else []):=by
 unfold pinI;rw [List.range_succ,za7]
theorem zr8 (l:List Int) (i:Nat):(pinI l i).length≤i:=by
 have:=List.length_filter_le (fun j=>isPn (l.getD j 0)) (List.range i);rw [List.length_range] at this;exact this
theorem loop {t:Int} {l:List Int} (hl:l.length≤3000):∀ (k i:Nat) (nn:Bool),i+k=l.length→EndZ 36 .nil false (stOf (sL t l (ofNs (pinI l i)) nn i)) (il (ofNs (pinI l l.length))) [] 0
 | 0,i,nn,h=>by
  obtain rfl:i=l.length:=by omega
  have h1:=l_t t l (ofNs (pinI l l.length)) nn l.length;rw [df (show ¬ (l.length:Int)<Int.ofNat l.length by rw [ofn];omega),bc_f] at h1;simp (disch:=omega) only [yS] at h1;exact .done h1
 | k+1,i,nn,h=>by
  have h1:=l_t t l (ofNs (pinI l i)) nn i;have m1:[(i:Int)]=[(i:Int)]:=rfl;have e0:Int.toNat (i:Int)=i:=rfl;have lg:(ofNs (pinI l i)).length≤i:=by rw [zai];exact zr8 l i
  have w:bc nn true (Nat.blt 0 (List.length [(i:Int)]))=true:=by cases nn <;> rfl
  have w2:bc nn true (bc nn false true)=true:=by cases nn <;> rfl
  have e:=congrArg ofNs (zpa l i);rw [zch] at e;rw [m1,w,w2,e0] at h1
  by_cases c:1000<l.getD i 0
  ·rw [show isPn (l.getD i 0)=true from decide_eq_true c,if_pos rfl] at e
   rw [show ofNs [i]=[(i:Int)] from rfl] at e
   rw [← e,dt c] at h1;simp (disch:=omega) only [yS] at h1;exact .at (.nil _) h1 (loop hl k (i+1) true (by omega))
  ·rw [show isPn (l.getD i 0)=false from decide_eq_false c,if_neg (by simp),show ofNs []=([]:List Int) from rfl,List.append_nil] at e
   rw [← e,df c] at h1;simp (disch:=omega) only [yS] at h1;rw [← e];have h2:=loop (t:=t) hl k (i+1) nn (by omega);exact .at (.nil _) h1 h2
theorem ends {t:Int} {l:List Int} (hl:l.length≤3000):EndZ 36 .nil false (st0 36 [hE t l]) (il (ofNs (pinI l l.length))) [] 0:=
 .at (.nil _) (in_t t l) (loop hl l.length 0 false (by omega))
end RPns
noncomputable def spPns:ZCT:=fun ax=>match ax with
 | [.agg [.v (.int .i64 t),.lst (.ints .i64 l)]]=>some ⟨decide (l.length≤3000),il (ofNs (RPns.pinI l l.length)),[],0⟩
 | _=>none
theorem zro:ZCtOk Try.prog 36 spPns:=fun γ w us ax r hs hc hax hN hfz=>by
 unfold spPns at hs;split at hs
 case h_2=>cases hs
 rename_i t l;obtain ⟨rfl⟩:=Option.some.inj hs;have hc_0:decide (l.length≤3000)=true:=hc;have hc:=of_decide_eq_true hc_0;exact EndZ.calls (RPns.ends hc) (.nil _) (by kernel_rfl) hax hN hfz
section
variable {l:List Int} {out:List Nat}
theorem zcx {L:List Nat} {j:Nat} (h:j<L.length):(ofNs L).getD j 0=((L.getD j 0:Nat):Int):=by
 unfold ofNs;rw [List.getD_eq_getElem?_getD,List.getD_eq_getElem?_getD,List.getElem?_map,List.getElem?_eq_getElem h];rfl
def AscI (n:Nat) (out:List Nat):Prop:=out.Pairwise (· < ·)∧∀ z,z∈out→z<n
theorem zr9 {i n:Nat} (h:AscI n out) (hlt:∀ z,z∈out→z<i) (hi:i<n):AscI n (outS l out i)∧(∀ z,z∈outS l out i→z<i+1)∧(outS l out i).length≤out.length+1:=by
 unfold outS;split
 ·refine ⟨⟨h.1.sublist List.filter_sublist,fun z hz=>h.2 z (List.mem_filter.1 hz).1⟩,fun z hz=>?_,?_⟩
  ·have:=hlt z (List.mem_filter.1 hz).1;omega
  ·exact Nat.le_trans (List.length_filter_le _ _) (Nat.le_succ _)
 ·refine ⟨⟨List.pairwise_append.2 ⟨h.1,List.pairwise_singleton _ _,fun a ha b hb=>?_⟩,fun z hz=>?_⟩,fun z hz=>?_,by simp⟩
  ·have:b=i:=by simpa using hb
   rw [this];exact hlt a ha
  ·rcases List.mem_append.1 hz with hz|hz
   ·exact h.2 z hz
   ·have:z=i:=by simpa using hz
    omega
  ·rcases List.mem_append.1 hz with hz|hz
   ·have:=hlt z hz;omega
   ·have:z=i:=by simpa using hz
    omega
theorem zlf {n:Nat}:∀ (idx:List Nat) (out:List Nat),AscI n out→AscI n idx→(∀ z w,z∈out→w∈idx→z<w)→AscI n (idx.foldl (outS l) out)∧(idx.foldl (outS l) out).length≤out.length+idx.length
 | [],out,h,_,_=>⟨h,Nat.le_refl _⟩
 | i::idx,out,h,hi,hz=>by
  obtain ⟨a1,a2⟩:=List.pairwise_cons.1 hi.1;obtain ⟨b1,b2,b3⟩:=zr9 (l:=l) (i:=i) h (fun z hz2=>hz z i hz2 List.mem_cons_self) (hi.2 i List.mem_cons_self);obtain ⟨c1,c2⟩:=zlf idx (outS l out i) b1 ⟨a2,fun z hz=>hi.2 z (List.mem_cons_of_mem _ hz)⟩ fun z w hz1 hw=>by
   have:=b2 z hz1;have:=a1 w hw;omega
  refine ⟨c1,?_⟩;rw [List.length_cons];show ((idx.foldl (outS l) (outS l out i))).length≤_;omega
theorem zdb (n:Nat):AscI n (List.range n):=⟨List.pairwise_lt_range,fun z hz=>List.mem_range.1 hz⟩
theorem AscI.sub {n:Nat} {out:List Nat} (h:AscI n out) (p:Nat→Bool):AscI n (out.filter p):=⟨h.1.sublist List.filter_sublist,fun z hz=>h.2 z (List.mem_filter.1 hz).1⟩
theorem zfr {n:Nat} {idx:List Nat} (h:AscI n idx):AscI n (tigL l idx)∧(tigL l idx).length≤idx.length:=by
 obtain ⟨a,b⟩:=zlf (l:=l) (n:=n) idx [] ⟨.nil,fun z hz=>by cases hz⟩ h fun z w hz=>by cases hz
 refine ⟨a,?_⟩;rw [List.length_nil,Nat.zero_add] at b;exact b
theorem zfb:∀ {n:Nat} {out:List Nat},AscI n out→out.length≤n:=by
 intro n out h;have key:∀ (L:List Nat) (a:Nat),L.Pairwise (· < ·)→(∀ z,z∈L→a≤z∧z<n)→a+L.length≤n∨L=[]:=by
  intro L
  induction L with
  | nil=>intro a _ _;exact .inr rfl
  | cons y L ih=>
   intro a hp hz;obtain ⟨p1,p2⟩:=List.pairwise_cons.1 hp;obtain ⟨q1,q2⟩:=hz y List.mem_cons_self;left;rcases ih (y+1) p2 (fun z hz2=>⟨p1 z hz2,(hz z (List.mem_cons_of_mem _ hz2)).2⟩) with h|h
   ·rw [List.length_cons];omega
   ·rw [h];simp;omega
 rcases key out 0 h.1 (fun z hz=>⟨Nat.zero_le _,h.2 z hz⟩) with h|h
 ·omega
 ·rw [h];exact Nat.zero_le _
end
end Go.Proofs.Ytooimphimnagaaa.Ev

namespace Go.Proofs.Ytooimphimnagaaa.Ev
section
variable {l:List Int}
theorem zfc:∀ {A B:List Nat},A.Pairwise (· < ·)→B.Pairwise (· < ·)→(∀ z,z∈A↔z∈B)→A=B
 | [],[],_,_,_=>rfl
 | [],b::B,_,_,h=>absurd ((h b).2 List.mem_cons_self) (by simp)
 | a::A,[],_,_,h=>absurd ((h a).1 List.mem_cons_self) (by simp)
 | a::A,b::B,ha,hb,h=>by
  obtain ⟨a1,a2⟩:=List.pairwise_cons.1 ha;obtain ⟨b1,b2⟩:=List.pairwise_cons.1 hb;have e:a=b:=by
   rcases List.mem_cons.1 ((h a).1 List.mem_cons_self) with q|q
   ·exact q
   ·have:=b1 a q;rcases List.mem_cons.1 ((h b).2 List.mem_cons_self) with r|r
    ·exact r.symm
    ·have:=a1 b r;omega
  subst e;rw [zfc a2 b2 fun z=>?_];have hz:=h z;rw [List.mem_cons,List.mem_cons] at hz;constructor
  ·intro q;rcases hz.1 (.inr q) with r|r
   ·have:=a1 z q;omega
   ·exact r
  ·intro q;rcases hz.2 (.inr q) with r|r
   ·have:=b1 z q;omega
   ·exact r
theorem zvs {n:Nat} {T:List Nat} (h:AscI n T):idxB (mrk n T)=T:=by
 unfold idxB;rw [ze0];refine zfc ((zdb n).sub _).1 h.1 fun z=>?_;rw [List.mem_filter,List.mem_range];constructor
 ·rintro ⟨h1,h2⟩
  rw [zf4 h1] at h2;exact of_decide_eq_true h2
 ·intro q;have h1:=h.2 z q;refine ⟨h1,?_⟩;rw [zf4 h1];exact decide_eq_true q
noncomputable def tigT (l:List Int):List Nat:=tigL l (List.range l.length)
theorem zd5 (l:List Int):AscI l.length (tigT l):=(zfr (zdb l.length)).1
theorem zux (l:List Int):idxB (tgA l)=tigT l:=zvs (zd5 l)
noncomputable def resT (l:List Int) (o:Nat→Bool):List Nat:=(tigT l).filter fun j=>!(isPn (l.getD j 0)&&o j)
noncomputable def goT (l:List Int) (o:Nat→Bool):List Nat:=(resT l o).filter fun j=>!decide (j∈tigL l (resT l o))
theorem zb5 (l:List Int) (o:Nat→Bool):AscI l.length (resT l o):=(zd5 l).sub _
theorem zoz (l:List Int) (o:Nat→Bool):idxB (rstF l (tgA l) o)=resT l o:=by
 unfold idxB;rw [za2,zc6];refine zfc ((zdb _).sub _).1 (zb5 l o).1 fun z=>?_;unfold resT;rw [List.mem_filter,List.mem_range,List.mem_filter];have key:z<l.length→(rstF l (tgA l) o).getD z false=(decide (z∈tigT l) && !(isPn (l.getD z 0)&&o z)):=fun h1=>by
  unfold rstF;rw [zc6,List.getD_eq_getElem?_getD,List.getElem?_map,List.getElem?_range h1];show ((tgA l).getD z false&&_)=_;unfold tgA;rw [zf4 h1];rfl
 constructor
 ·rintro ⟨h1,h2⟩
  rw [key h1,Bool.and_eq_true] at h2;exact ⟨of_decide_eq_true h2.1,h2.2⟩
 ·rintro ⟨h1,h2⟩
  have h3:=(zd5 l).2 z h1;refine ⟨h3,?_⟩;rw [key h3,Bool.and_eq_true];exact ⟨decide_eq_true h1,h2⟩
theorem zgz (l:List Int) (o:Nat→Bool):gF l (tgA l) o=ofNs (goT l o):=by
 unfold gF gonF goT;rw [zoz];congr 1;refine List.filter_congr fun j hj=>?_;have h3:=(zb5 l o).2 j hj;unfold tgB;rw [zoz,zf4 h3]
theorem zl1 {L:List Nat} {y:Nat}:(y:Int)∈ofNs L↔y∈L:=by
 unfold ofNs;rw [List.mem_map];constructor
 ·rintro ⟨z,hz,e⟩
  have:z=y:=by omega
  rwa [← this]
 ·intro h;exact ⟨y,h,rfl⟩
end
end Go.Proofs.Ytooimphimnagaaa.Ev

namespace Go.Proofs.Ytooimphimnagaaa.Ev
theorem zcg (x y:Int):tchL x y=tchL y x:=by
 unfold tchL;rw [Bool.eq_iff_iff];simp only [Bool.and_eq_true,decide_eq_true_eq,Bool.not_eq_true'];rw [Bool.and_comm (isPn y)];constructor
 ·rintro ⟨⟨a,b⟩,c⟩;exact ⟨⟨by omega,by omega⟩,c⟩
 ·rintro ⟨⟨a,b⟩,c⟩;exact ⟨⟨by omega,by omega⟩,c⟩
theorem zes {x:Int} (h:isPn x=false) (h2:isPn (-x)=false) (y:Int):tchL y (-x)=tchL y x:=by
 unfold tchL;rw [zka h h2,h,h2]
theorem zre {x:Int} (h:isPn x=false):tchL x x=true:=by
 unfold tchL;rw [h];simp
def rmL (x:Int):List Int→Option (List Int)
 | []=>none
 | y::q=>if tchL y x=true then (if y = -x∧isPn x=false∧isPn y=false then some q else none) else (rmL x q).map (y :: ·)
def stpL (q:List Int) (x:Int):List Int:=(rmL x q).getD (x::q)
def redL (q w:List Int):List Int:=w.foldl stpL q
inductive Tq:List Int→List Int→Prop
 | refl (q:List Int):Tq q q
 | swap (u v:Int) (q:List Int) (h:tchL u v=false):Tq (u::v::q) (v::u::q)
 | cons (y:Int) {q q':List Int} (h:Tq q q'):Tq (y::q) (y::q')
 | trans {a b c:List Int} (h:Tq a b) (k:Tq b c):Tq a c
theorem Tq.symm {a b:List Int} (h:Tq a b):Tq b a:=by
 induction h with
 | refl q=>exact .refl q
 | swap u v q h=>exact .swap v u q (by rw [zcg];exact h)
 | cons y _ ih=>exact .cons y ih
 | trans _ _ h k=>exact k.trans h
theorem Tq.len {a b:List Int} (h:Tq a b):a.length=b.length:=by
 induction h with
 | refl q=>rfl
 | swap u v q h=>rfl
 | cons y _ ih=>rw [List.length_cons,List.length_cons,ih]
 | trans _ _ h k=>rw [h,k]
inductive OT:Option (List Int)→Option (List Int)→Prop
 | none:OT none none
 | some {a b:List Int} (h:Tq a b):OT (some a) (some b)
theorem OT.map {a b:Option (List Int)} (h:OT a b) (y:Int):OT (a.map (y :: ·)) (b.map (y :: ·)):=by
 cases h with
 | none=>exact .none
 | some h=>exact .some (.cons y h)
theorem OT.trans {a b c:Option (List Int)} (h:OT a b) (k:OT b c):OT a c:=by
 cases h with
 | none=>exact k
 | some h=>cases k with
  | some k=>exact .some (h.trans k)
theorem OT.refl:∀ a:Option (List Int),OT a a
 | .none=>.none
 | .some a=>.some (.refl a)
theorem rm_t {x y:Int} {q:List Int} (h:tchL y x=true):rmL x (y::q)=if y = -x∧isPn x=false∧isPn y=false then some q else none:=by
 show (if tchL y x=true then _ else _)=_
 rw [if_pos h]
theorem rm_f {x y:Int} {q:List Int} (h:tchL y x=false):rmL x (y::q)=(rmL x q).map (y :: ·):=by
 show (if tchL y x=true then _ else _)=_
 rw [if_neg (by rw [h];simp)]
theorem zo1 {x:Int} {q:List Int} (h1:isPn x=false) (h2:isPn (-x)=false):rmL x (-x::q)=some q:=by
 have:tchL (-x) x=true:=by rw [zcg,zes h1 h2];exact zre h1
 rw [rm_t this,if_pos ⟨rfl,h1,h2⟩]
theorem zvc {u v x:Int} (h:tchL u v=false) (q:List Int):OT (rmL x (u::v::q)) (rmL x (v::u::q)):=by
 cases hu:tchL u x with
 | true=>
  cases hv:tchL v x with
  | true=>
   have no:∀ {a b:Int},tchL a b=false→tchL b x=true→¬ (a = -x∧isPn x=false∧isPn a=false):=by
    rintro a b h1 h2 ⟨rfl,h3,h4⟩
    rw [zcg,zes h3 h4,h2] at h1;cases h1
   rw [rm_t hu,rm_t hv,if_neg (no h hv),if_neg (no (by rw [zcg];exact h) hu)];exact .none
  | false=>
   rw [rm_t hu,rm_f hv,rm_t hu];split
   ·exact .some (.refl _)
   ·exact .none
 | false=>
  cases hv:tchL v x with
  | true=>
   rw [rm_f hu,rm_t hv,rm_t hv];split
   ·exact .some (.refl _)
   ·exact .none
  | false=>
   rw [rm_f hu,rm_f hv,rm_f hv,rm_f hu]
   cases rmL x q with
   | none=>exact .none
   | some a=>exact .some (.swap u v a h)
theorem rm_tq {a b:List Int} (h:Tq a b) (x:Int):OT (rmL x a) (rmL x b):=by
 induction h with
 | refl q=>exact .refl _
 | swap u v q h=>exact zvc h q
 | @cons y q q' h ih=>
  cases hy:tchL y x with
  | true=>
   rw [rm_t hy,rm_t hy];split
   ·exact .some h
   ·exact .none
  | false=>
   rw [rm_f hy,rm_f hy];exact ih.map y
 | trans _ _ h k=>exact h.trans k
theorem zti {a b:List Int} (h:Tq a b) (x:Int):Tq (stpL a x) (stpL b x):=by
 have:=rm_tq h x;unfold stpL
 cases ha:rmL x a with
 | none=>
  rw [ha] at this
  cases hb:rmL x b with
  | none=>exact .cons x h
  | some c=>rw [hb] at this;cases this
 | some c=>
  rw [ha] at this
  cases hb:rmL x b with
  | none=>rw [hb] at this;cases this
  | some d=>rw [hb] at this;cases this;assumption
theorem zlp:∀ (w:List Int) {a b:List Int},Tq a b→Tq (redL a w) (redL b w)
 | [],_,_,h=>h
 | x::w,_,_,h=>zlp w (zti h x)
theorem rm_cm {x y:Int} (h:tchL x y=false):∀ q:List Int,(∀ q1 q2,rmL x q=some q1→rmL y q=some q2→∃ q3,rmL y q1=some q3∧rmL x q2=some q3)∧(∀ q1,rmL x q=some q1→rmL y q=none→rmL y q1=none)
 | []=>⟨fun q1 q2 h1 _=>(by cases h1),fun q1 h1 _=>(by cases h1)⟩
 | z::q=>by
  obtain ⟨i1,i2⟩:=rm_cm h q
  cases hx:tchL z x with
  | true=>
   rw [rm_t hx]
   by_cases c:z = -x∧isPn x=false∧isPn z=false
   ·rw [if_pos c];obtain ⟨rfl,c1,c2⟩:=c;have hy:tchL (-x) y=false:=by rw [zcg,zes c1 c2,zcg];exact h
    rw [rm_f hy];refine ⟨fun q1 q2 h1 h2=>?_,fun q1 h1 h2=>?_⟩
    ·obtain rfl:=Option.some.inj h1
     cases hq:rmL y q with
     | none=>rw [hq] at h2;cases h2
     | some a=>
      rw [hq] at h2;obtain rfl:=Option.some.inj h2;exact ⟨a,rfl,zo1 c1 c2⟩
    ·obtain rfl:=Option.some.inj h1
     cases hq:rmL y q with
     | none=>rfl
     | some a=>rw [hq] at h2;cases h2
   ·rw [if_neg c];exact ⟨fun q1 q2 h1 _=>(by cases h1),fun q1 h1 _=>(by cases h1)⟩
  | false=>
   rw [rm_f hx]
   cases hq:rmL x q with
   | none=>exact ⟨fun q1 q2 h1 _=>(by cases h1),fun q1 h1 _=>(by cases h1)⟩
   | some a=>
    cases hy:tchL z y with
    | true=>
     rw [rm_t hy];refine ⟨fun q1 q2 h1 h2=>?_,fun q1 h1 h2=>?_⟩
     ·obtain rfl:=Option.some.inj h1
      by_cases c:z = -y∧isPn y=false∧isPn z=false
      ·rw [if_pos c] at h2;obtain rfl:=Option.some.inj h2;exact ⟨a,by rw [rm_t hy,if_pos c],hq⟩
      ·rw [if_neg c] at h2;cases h2
     ·obtain rfl:=Option.some.inj h1;show rmL y (z::a)=none;rw [rm_t hy]
      by_cases c:z = -y∧isPn y=false∧isPn z=false
      ·rw [if_pos c] at h2;cases h2
      ·rw [if_neg c]
    | false=>
     rw [rm_f hy];refine ⟨fun q1 q2 h1 h2=>?_,fun q1 h1 h2=>?_⟩
     ·obtain rfl:=Option.some.inj h1
      cases hb:rmL y q with
      | none=>rw [hb] at h2;cases h2
      | some b=>
       rw [hb] at h2;obtain rfl:=Option.some.inj h2;obtain ⟨q3,e1,e2⟩:=i1 a b hq hb;refine ⟨z::q3,?_,?_⟩
       ·show rmL y (z::a)=_;rw [rm_f hy,e1];rfl
       ·show rmL x (z::b)=_;rw [rm_f hx,e2];rfl
     ·obtain rfl:=Option.some.inj h1;show rmL y (z::a)=none
      cases hb:rmL y q with
      | none=>rw [rm_f hy,i2 a hq hb];rfl
      | some b=>rw [hb] at h2;cases h2
theorem za9 {x:Int} {q a:List Int} (h:rmL x q=some a):stpL q x=a:=by unfold stpL;rw [h];rfl
theorem zba {x:Int} {q:List Int} (h:rmL x q=none):stpL q x=x::q:=by unfold stpL;rw [h];rfl
theorem zwz {x y:Int} (h:tchL x y=false) (q:List Int):Tq (stpL (stpL q x) y) (stpL (stpL q y) x):=by
 have h':tchL y x=false:=by rw [zcg];exact h
 cases hx:rmL x q with
 | none=>
  cases hy:rmL y q with
  | none=>
   have e1:rmL y (x::q)=none:=by rw [rm_f h,hy];rfl
   have e2:rmL x (y::q)=none:=by rw [rm_f h',hx];rfl
   rw [zba hx,zba hy,zba e1,zba e2];exact .swap y x q h'
  | some b=>
   have e1:rmL y (x::q)=some (x::b):=by rw [rm_f h,hy];rfl
   have e2:=(rm_cm h' q).2 b hy hx;rw [zba hx,za9 hy,za9 e1,zba e2];exact .refl _
 | some a=>
  cases hy:rmL y q with
  | none=>
   have e1:=(rm_cm h q).2 a hx hy;have e2:rmL x (y::q)=some (y::a):=by rw [rm_f h',hx];rfl
   rw [za9 hx,zba hy,zba e1,za9 e2];exact .refl _
  | some b=>
   obtain ⟨c,e1,e2⟩:=(rm_cm h q).1 a b hx hy;rw [za9 hx,za9 hy,za9 e1,za9 e2];exact .refl _
def Rdc:List Int→Prop
 | []=>True
 | x::q=>rmL x q=none∧Rdc q
theorem rm_n {a b:List Int} {x:Int} (h:Tq a b) (k:rmL x a=none):rmL x b=none:=by
 have:=rm_tq h x;rw [k] at this
 cases hb:rmL x b with
 | none=>rfl
 | some c=>rw [hb] at this;cases this
theorem map_n {a:Option (List Int)} {y:Int} (h:a.map (y :: ·)=none):a=none:=by
 cases a with
 | none=>rfl
 | some b=>cases h
theorem ztq {a b:List Int} (h:Tq a b):Rdc a→Rdc b:=by
 induction h with
 | refl q=>exact id
 | swap u v q h=>
  rintro ⟨h1,h2,h3⟩
  have h':tchL v u=false:=by rw [zcg];exact h
  rw [rm_f h'] at h1;exact ⟨by rw [rm_f h,h2];rfl,map_n h1,h3⟩
 | cons y h ih=>exact fun ⟨h1,h2⟩=>⟨rm_n h h1,ih h2⟩
 | trans _ _ h k=>exact fun q=>k (h q)
theorem rm_pn {x:Int}:∀ {q a:List Int},rmL x q=some a→isPn x=false∧isPn (-x)=false
 | [],_,h=>by cases h
 | y::q,a,h=>by
  cases hy:tchL y x with
  | true=>
   rw [rm_t hy] at h
   by_cases c:y = -x∧isPn x=false∧isPn y=false
   ·obtain ⟨rfl,c1,c2⟩:=c;exact ⟨c1,c2⟩
   ·rw [if_neg c] at h;cases h
  | false=>
   rw [rm_f hy] at h
   cases hq:rmL x q with
   | none=>rw [hq] at h;cases h
   | some b=>exact rm_pn hq
theorem zhm {x:Int}:∀ {q a:List Int},rmL x q=some a→Tq q (-x::a)
 | [],_,h=>by cases h
 | y::q,a,h=>by
  obtain ⟨p1,p2⟩:=rm_pn h
  cases hy:tchL y x with
  | true=>
   rw [rm_t hy] at h
   by_cases c:y = -x∧isPn x=false∧isPn y=false
   ·rw [if_pos c] at h;obtain rfl:=Option.some.inj h;rw [c.1];exact .refl _
   ·rw [if_neg c] at h;cases h
  | false=>
   rw [rm_f hy] at h
   cases hq:rmL x q with
   | none=>rw [hq] at h;cases h
   | some b=>
    rw [hq] at h;obtain rfl:=Option.some.inj h;exact (Tq.cons y (zhm hq)).trans (.swap y (-x) b (by rw [zes p1 p2];exact hy))
theorem zu1 {x:Int} {q:List Int} (h:Rdc q) (h1:isPn x=false) (h2:isPn (-x)=false):Tq (stpL (stpL q x) (-x)) q:=by
 cases hx:rmL x q with
 | none=>
  have e:rmL (-x) (x::q)=some q:=by
   have:=zo1 (x:=-x) (q:=q) h2 (by rw [Int.neg_neg];exact h1)
   rwa [Int.neg_neg] at this
  rw [zba hx,za9 e];exact .refl _
 | some a=>
  have e:=zhm hx;rw [za9 hx,zba (ztq e h).1];exact e.symm
theorem zu0 {x:Int} {q:List Int} (h:Rdc q):Rdc (stpL q x):=by
 cases hx:rmL x q with
 | none=>rw [zba hx];exact ⟨hx,h⟩
 | some a=>rw [za9 hx];exact (ztq (zhm hx) h).2
theorem zo4:∀ (w:List Int) {q:List Int},Rdc q→Rdc (redL q w)
 | [],_,h=>h
 | x::w,_,h=>zo4 w (zu0 h)
theorem zdw (q a b:List Int):redL q (a++b)=redL (redL q a) b:=List.foldl_append ..
theorem ztp {x:Int}:∀ (M q:List Int),(∀ y,y∈M→tchL y x=false)→Tq (stpL (redL q M) x) (redL (stpL q x) M)
 | [],q,_=>.refl _
 | m::M,q,h=>(ztp M (stpL q m) fun y hy=>h y (List.mem_cons_of_mem _ hy)).trans (zlp M (zwz (h m List.mem_cons_self) q))
theorem zr5 {x:Int} {q M C:List Int} (hq:Rdc q) (h1:isPn x=false) (h2:isPn (-x)=false) (hM:∀ y,y∈M→tchL y x=false):Tq (redL q (x::M ++ -x::C)) (redL q (M++C)):=by
 show Tq (redL q ((x::M)++(-x::C))) _;rw [zdw,zdw];show Tq (redL (stpL (redL (stpL q x) M) (-x)) C) _;refine zlp C ?_;refine (ztp M (stpL q x) fun y hy=>by rw [zes h1 h2];exact hM y hy).trans ?_;exact zlp M (zu1 hq h1 h2)
theorem zxg {x:Int} {q a:List Int} (h:rmL x q=some a):q.length=a.length+1:=by
 have:=(zhm h).len
 rwa [List.length_cons] at this
theorem zto:∀ (w q:List Int),(redL q w).length≤q.length+w.length
 | [],q=>Nat.le_refl _
 | x::w,q=>by
  have h1:=zto w (stpL q x);have h2:(stpL q x).length≤q.length+1:=by
   cases hx:rmL x q with
   | none=>rw [zba hx];exact Nat.le_refl _
   | some a=>rw [za9 hx];have:=zxg hx;omega
  show (redL (stpL q x) w).length≤_;rw [List.length_cons];omega
end Go.Proofs.Ytooimphimnagaaa.Ev
