/- Laid together: Runs over open leaves that fork: one run says what comes of all cases. No program is named. Runs over open leaves to a place, with new numbers there; calls. No program is named. Runs of a call whose arguments lead to memory that it changes: the first k numbers stay what they are. No program is named. The table of functions for the reckoner. What all functions of a seat .. -/
import Derived.Test.YtfffbioafhppiaaChecked
import Derived.Shelf.Strings.Builder1
import Derived.Shelf.Strings.Builder2
import Derived.Shelf.Small.Bits
import Derived.Shelf.Strconv.Itoa0
import Derived.Shelf.Sort.Plain
import Derived.Shelf.Bits.Mul64
import Derived.Shelf.Slices.Reverse
import Derived.Shelf.Slices.Clone
import Derived.Shelf.Slices.CompactI
import Derived.Shelf.Slices.SearchI
import Derived.Shelf.Slices.Cells
import Derived.Shelf.Slices.In.SortNone
import Derived.Shelf.SlicesE.Compact
import Derived.Shelf.SlicesE.Clone
import Derived.Shelf.SlicesE.IndexFunc
import Derived.Shelf.SlicesE.DeleteFunc
import Derived.Test.YtfffbioafhppiaaProg
import Derived.Below
import Derived.Lib.Join
import Derived.Lib.Repeat
import Derived.Tactics
import Derived.Tactics2
import Derived.Test.YtfffbioafhppiaaLLk4
set_option linter.unusedSimpArgs false
set_option linter.unusedVariables false
noncomputable section
namespace Go.Proofs.Ytfffbioafhppiaa.Ev
section
open Go.RowKit
variable {P:Program} {γ γ':G} {w0:Bs} {w:World} {H H':Tr EK} {n n':Nat} {T:Tr EV} {cs:List Frame} {fid:FuncId} {FT:Tr FI} {tmps:Array Value} {o:Oper} {α:Type}
def opG (s:ES) (ops:Array Oper) (o:Oper) (l:List Oper) (k:List IM) (er:ER):EO:=match setD s.top.T s.top.N o.dst (er.val.getD (.v undef)) with
 | some T'=>.go { s with top:={ s.top with T:=T',todo:=.ops ops l::k },H:=er.H,n:=er.n }
 | none=>.fail
theorem zsm {s:ES} {ops:Array Oper} {l:List Oper} {k:List IM} {i:Nat} {rest:List Nat} {todo:List Item} {ds:List Deferred} {ro:Option Nat} {frs:List Frame} {er:ER}
  (hret:s.top.ret=false) (h1:tmps.size=s.top.N) (h2:TOk γ s.top.T tmps) (hk:All2 (IR γ) k todo) (h4:All2 (DR γ) s.top.dfs ds) (h5:RR γ s.top.round ro) (hfs:All2 (FR γ) s.rest frs) (hH:HR γ w0 s.H s.n w)
  (ho:ops[i]? = some o) (hrest:rest.map (ops[·]?)=l.map some) (hw:Region.wanted o (yielded ops tmps)=true) (hs:SndL P .nil s.top.T o s.H s.n (er.val.getD (.v undef)) er.H er.n) :
  SOk P γ w0 cs fid (lone (fram s.top.fn tmps (.inRegion ops (i::rest)::todo) ds ro) (frs++cs) w) (opG s ops o l k er):=by
 unfold opG;split
 case h_2=>trivial
 rename_i T' hT';obtain ⟨γ',w',x,hle,hH2,hcx,hst⟩:=hs γ w0 w s.top.fn tmps ops i rest todo ds ro (frs++cs) (ROk.none _ _) h2 hH ho hw;obtain ⟨g1,g2⟩:=zce (h2.mono hle) h1 hT' hcx;exact ⟨γ',_,hle,hst,_,frs,w',rfl,⟨_,_,ds,ro,by simp [fram,hret,modeOf],g2,g1,.cons (.ops ops l rest hrest) (hk.mono fun _ _ h=>h.mono hle),h4.mono fun _ _ h=>h.mono hle,h5.mono hle⟩,hfs.mono fun _ _ h=>h.mono hle,hH2⟩
def flRw (ct:Tr ZCC):Bool:=Option.isSome (ct.get 2)
def rowPart (T:Tr EV) (l:List (Nat×Operand)):Bool:=match l with
 | [(_,x)]=>match exVal T x with
  | some (.slO _ _ _ _)=>true
  | _=>false
 | _=>false
def zMkF (P:Program) (ct:Tr ZCC) (T:Tr EV) (o:Oper) (H:Tr EK) (n:Nat):Option YR:=match o.op with
 | .makeSlice t l c=>bc (flC ct) (zMakeR P T t l c H n) none
 | .call c=>match c.callee with
  | .builtin .append=>bc (flRw ct) (zNapO P T c.args.toList c.argTypes.toList H n) none
  | _=>none
 | .buildSlice t len parts=>bc (flRw ct) (bc (rowPart T parts.toList) (match exBuildSlice P T t len parts H n with
  | some er=>some ⟨true,er⟩
  | none=>none) none) none
 | _=>none
theorem ztd {ct:Tr ZCC} (hT:TOk γ T tmps) (hH:HR γ w0 H n w) {r:YR} (h:zMkF P ct T o H n=some r) (hc:r.c=true):Gives P γ w0 w (execOp (opEval tmps) o) r.er.val r.er.H r.er.n:=by
 unfold zMkF at h;split at h
 case h_4=>cases h
 ·rename_i t l c ho;rw [bc_eq] at h;split at h
  case isFalse=>cases h
  exact zhq hT hH ho h hc
 ·rename_i c ho;split at h
  case h_2=>cases h
  rename_i hcal;obtain ⟨callee,args,ats⟩:=c;simp only at hcal h;subst hcal;rw [bc_eq] at h;split at h
  case isFalse=>cases h
  exact zqc hT hH ho h hc
 ·rename_i t len parts ho;rw [bc_eq] at h;split at h
  case isFalse=>cases h
  rw [bc_eq] at h;split at h
  case isFalse=>cases h
  split at h
  case h_2=>cases h
  rename_i er he;injection h with h;subst h
  exact zcy hT hH ho he
theorem zte {ct:Tr ZCC} {r:YR} (h:zMkF P ct T o H n=some r):notDefer o.op=true:=by
 unfold zMkF at h;split at h
 case h_4=>cases h
 ·rename_i ho;rw [ho];rfl
 ·rename_i ho;split at h
  case h_2=>cases h
  rename_i hcal;rw [ho];unfold notDefer;simp [hcal]
 ·rename_i ho;rw [ho];rfl
def stZ (P:Program) (FT:Tr FI) (ct:Tr ZCC) (T:Tr EV) (o:Oper) (H:Tr EK) (n:Nat):Option YR:=match zToBo P T o H n with
 | some r=>some r
 | none=>match zMkF P ct T o H n with
  | some r=>some r
  | none=>match zMapO P ct T o H n with
  | some r=>some r
  | none=>match qcZ P FT ct [] T o H n with
   | some p=>some ⟨p.1,⟨some p.2,H,n⟩⟩
   | none=>match zCt FT ct T o with
    | some (sp,ax)=>match zCallA sp ax H n with
     | some r=>some ⟨r.1,⟨some r.2.1,r.2.2.1,r.2.2.2⟩⟩
     | none=>none
    | none=>zOwn P T o H n
theorem zvj (hF:FTok P FT) {ct:Tr ZCC} (hct:ZCtsOk P ct) {r:YR} (h:stZ P FT ct T o H n=some r) (hc:r.c=true):SndL P .nil T o H n (r.er.val.getD (.v undef)) r.er.H r.er.n:=by
 unfold stZ at h;split at h
 ·rename_i r' hr;injection h with h;subst h
  exact zb8 (zp8 hr) fun γ w0 w tmps hT hH=>zp7 hT hH hr hc
 split at h
 ·rename_i r' hr;injection h with h;subst h
  exact zb8 (zte hr) fun γ w0 w tmps hT hH=>ztd hT hH hr hc
 split at h
 ·rename_i r' hr;injection h with h;subst h
  exact zb8 (zqe hr) fun γ w0 w tmps hT hH=>zqd hT hH hr hc
 split at h
 ·rename_i p hp;injection h with h;subst h
  exact (zh8 hF hct hp hc).2.1
 ·split at h
  ·rename_i sp ax hctx;obtain ⟨_,g,k1,k2⟩:=zhr hF hct hctx;split at h
   case h_2=>cases h
   rename_i q hq;injection h with h;subst h
   exact k2 fun γ w0 w us hH ha=>zht k1 hH ha hq hc
  ·have hd:notDefer o.op=true:=by
    have hr:=h;unfold zOwn at hr;split at hr
    all_goals first|(rename_i ho;rw [ho];rfl)|cases hr
   exact zb8 hd fun γ w0 w tmps hT hH=>(zm2 hT hH h hc).2
def zOps (P:Program) (FT:Tr FI) (fid:FuncId) (dr:ES→Nat→Array Oper→List IM→EO) (ct:Tr ZCC) (s:ES) (ops:Array Oper) (o:Oper) (l:List Oper) (k:List IM):Bool×EO:=match exGuard s.top.T ops o with
 | some true=>match stZ P FT ct s.top.T o s.H s.n with
  | some r=>(r.c,opG s ops o l k r.er)
  | none=>(true,exStep P FT fid dr s)
 | _=>(true,exStep P FT fid dr s)
def zMain (P:Program) (FT:Tr FI) (fid:FuncId) (dr:ES→Nat→Array Oper→List IM→EO) (sub:Sub) (ct:Tr ZCC) (ov:List (Nat×Bool)) (s:ES):Bool×EO:=match s.top.ret with
 | false=>match s.top.todo with
  | .ops ops (o::l)::k=>zOps P FT fid dr ct s ops o l k
  | .it (.code (.region _ ops true))::k=>match drP P FT sub ct ov s ops k with
   | some r=>r
   | none=>drZ P FT sub ct ov s ops k (ancs ops.toList []) (llen ops.toList)
  | _=>(true,exStep P FT fid dr s)
 | true=>zRet P FT fid s
theorem zqg (hm0:P.follows .mixedOrders=true) (hF:FTok P FT) {dr:ES→Nat→Array Oper→List IM→EO} (hdr:DrOk P dr) {sub:Sub} (hsub:LoudOk P sub) {ct:Tr ZCC} (hct:ZCtsOk P ct) {ov:List (Nat×Bool)} {s:ES} {m:Machine} (hm:MR γ w0 cs s m) (hc:(zMain P FT fid dr sub ct ov s).1=true):SOk P γ w0 cs fid m (zMain P FT fid dr sub ct ov s).2:=by
 unfold zMain at hc ⊢;split at hc
 ·rename_i hret;split at hc
  ·rename_i ops o l k htodo;unfold zOps at hc ⊢;split at hc
   ·rename_i hg;split at hc
    ·rename_i r hr;obtain ⟨fr,frs,w,rfl,⟨tmps,todo,ds,ro,rfl,h1,h2,h3,h4,h5⟩,hfs,hH⟩:=hm;rw [htodo] at h3
     cases h3 with
     | @cons _ _ _ todo' hi hk=>
      cases hi with
      | ops _ _ idx hidx=>
       obtain ⟨i,rest,rfl,ho,hrest⟩:=zb5 hidx;have hfr:(lone { fn:=s.top.fn,tmps:=tmps,todo:=.inRegion ops (i::rest)::todo',defers:=ds,mode:=modeOf s.top.ret,kind:=.normal,roundOf:=ro } (frs++cs) w)=lone (fram s.top.fn tmps (.inRegion ops (i::rest)::todo') ds ro) (frs++cs) w:=by rw [hret];rfl
       rw [hfr];exact zsm hret h1 h2 hk h4 h5 hfs hH ho hrest (zby h2 hg) (zvj hF hct hr hc)
    ·exact zcb hF hdr hm
   ·exact zcb hF hdr hm
  ·rename_i id ops k htodo;obtain ⟨fr,frs,w,rfl,⟨tmps,todo,ds,ro,rfl,h1,h2,h3,h4,h5⟩,hfs,hH⟩:=hm;rw [htodo] at h3
   cases h3 with
   | @cons _ _ _ todo' hi hk=>
    cases hi with
    | it x=>
     have hfr:(lone { fn:=s.top.fn,tmps:=tmps,todo:=.code (.region id ops true)::todo',defers:=ds,mode:=modeOf s.top.ret,kind:=.normal,roundOf:=ro } (frs++cs) w)=lone (fram s.top.fn tmps (.code (.region id ops true)::todo') ds ro) (frs++cs) w:=by rw [hret];rfl
     rw [hfr];split at hc
     ·rename_i r hr;exact zwa hm0 hF hsub hct hret h1 h2 hk h4 h5 hfs hH hr hc
     ·exact zv9 hm0 hF hsub hct hret h1 h2 hk h4 h5 hfs hH hc
  ·exact zcb hF hdr hm
 ·rename_i hret;obtain ⟨fr,frs,w,rfl,⟨tmps,todo,ds,ro,rfl,h1,h2,h3,h4,h5⟩,hfs,hH⟩:=hm;have:=zta (fid:=fid) (cs:=cs) hF hret h1 h2 h3 h4 h5 hfs hH hc;simpa [fram,hret,modeOf] using this
def fixC (d:Nat) (b:Bool) (s:ES):ES:=bc (Nat.ble d 65535) { s with top:={ s.top with T:=s.top.T.put d (some (.v (.bool b))) } } s
def forkC (d:Nat) (s:ES) (κ:ES→α):α:=match s.top.T.get d with
 | some (.v (.bool t))=>Bool.rec (κ (fixC d false s)) (κ (fixC d true s)) t
 | _=>κ s
theorem zo8 {d:Nat} {t:Bool} {s:ES} {m:Machine} (hm:MR γ w0 cs s m) (ht:s.top.T.get d=some (.v (.bool t))):MR γ w0 cs (fixC d t s) m:=by
 unfold fixC;rw [bc_eq];split
 ·rename_i hd;obtain ⟨fr,frs,w,rfl,⟨tmps,todo,ds,ro,rfl,h1,h2,h3,h4,h5⟩,hfs,hH⟩:=hm;refine ⟨_,frs,w,rfl,⟨tmps,todo,ds,ro,rfl,h1,fun sl a hs=>?_,h3,h4,h5⟩,hfs,hH⟩;have hs2:(s.top.T.put d (some (.v (.bool t)))).get sl=some a:=hs;clear hs;rw [Tr.get_put hd] at hs2;split at hs2
  ·rename_i e;subst e;exact h2 _ a (ht.trans hs2)
  ·exact h2 sl a hs2
 ·exact hm
theorem zhf {d:Nat} {s:ES} {m:Machine} (hm:MR γ w0 cs s m) (κ:ES→α):∃ s',MR γ w0 cs s' m∧forkC d s κ=κ s':=by
 unfold forkC;split
 ·rename_i t ht
  cases t with
  | false=>exact ⟨_,zo8 hm ht,rfl⟩
  | true=>exact ⟨_,zo8 hm ht,rfl⟩
 ·exact ⟨s,hm,rfl⟩
def preCodeC (c:Code) (s:ES) (κ:ES→α):α:=match c with
 | .cond (.tmp d) _ _=>forkC d s κ
 | _=>κ s
def preOpC (ops:Array Oper) (o:Oper) (s:ES) (κ:ES→α):α:=match o.guard with
 | some (j,_)=>match lget ops.toList j with
  | some oj=>match oj.dst with
   | some d=>forkC d s κ
   | none=>κ s
  | none=>κ s
 | none=>match o.op with
  | .pick (.tmp d) _ _=>forkC d s κ
  | _=>κ s
def preC (s:ES) (κ:ES→α):α:=match s.top.todo with
 | .it (.code c)::_=>preCodeC c s κ
 | .ops ops (o::_)::_=>preOpC ops o s κ
 | _=>κ s
theorem zt6 {s:ES} {m:Machine} (hm:MR γ w0 cs s m) (κ:ES→α):∃ s',MR γ w0 cs s' m∧preC s κ=κ s':=by
 unfold preC;split
 ·unfold preCodeC;split
  ·exact zhf hm κ
  ·exact ⟨s,hm,rfl⟩
 ·unfold preOpC;split
  ·split
   ·split
    ·exact zhf hm κ
    ·exact ⟨s,hm,rfl⟩
   ·exact ⟨s,hm,rfl⟩
  ·split
   ·exact zhf hm κ
   ·exact ⟨s,hm,rfl⟩
 ·exact ⟨s,hm,rfl⟩
def mainC (r:Bool×EO) (κ:EO→α):α:=Prod.rec (fun c e=>bc c (κ e) (κ .fail)) r
def memG (j:Nat) (l:List Nat):Bool:=List.rec false (fun k _ ih=>bc (Nat.beq k j) true ih) l
def pickG (ops:List Oper) (d:Nat):Nat→Option Nat:=List.rec (fun _=>none) (fun o _ ih i=>match o.dst with
 | some e=>bc (Nat.beq e d) (some i) (ih (Nat.succ i))
 | none=>ih (Nat.succ i)) ops
def guardsOf (all ops:List Oper):List Nat:=List.rec [] (fun o _ ih=>match o.guard with
 | some (j,_)=>bc (memG j ih) ih (j::ih)
 | none=>match o.op with
  | .pick (.tmp d) _ _=>match pickG all d 0 with
   | some j=>bc (memG j ih) ih (j::ih)
   | none=>ih
  | _=>ih) ops
def insN (j:Nat) (l:List Nat):List Nat:=List.rec [j] (fun k t ih=>bc (Nat.ble j k) (j::k::t) (k::ih)) l
def sortN (l:List Nat):List Nat:=List.rec [] (fun j _ ih=>insN j ih) l
def boolAt (P:Program) (FT:Tr FI) (sub:Sub) (ct:Tr ZCC) (s:ES) (ops:Array Oper) (A:List Nat) (m:Nat) (ov:List (Nat×Bool)) (j:Nat):Option (Nat×Bool):=match lget ops.toList j with
 | some oj=>match oj.dst with
  | some d=>match canonF P (frF' P) (lF' P FT sub ct) (qF' P FT ct ov) ops A s.n s.top.N (ops.toList.take (Nat.succ j)) 0 [] [] ⟨s.H,Nat.add s.n m,0⟩ s.top.T [] [] with
   | some c=>match c.T.get d with
    | some (.v (.bool t))=>some (d,t)
    | _=>none
   | none=>none
  | none=>none
 | none=>none
def forkG (P:Program) (FT:Tr FI) (sub:Sub) (ct:Tr ZCC) (s:ES) (ops:Array Oper) (A:List Nat) (m:Nat) (κ:List (Nat×Bool)→α) (G:List Nat):List (Nat×Bool)→α:=List.rec (fun ov=>κ ov) (fun j _ ih ov=>match boolAt P FT sub ct s ops A m ov j with
 | some (d,t)=>Bool.rec (ih (ov++[(d,false)])) (ih (ov++[(d,true)])) t
 | none=>ih ov) G
theorem zey {sub:Sub} {ct:Tr ZCC} {s:ES} {ops:Array Oper} {A:List Nat} {m:Nat} (κ:List (Nat×Bool)→α):∀ (G:List Nat) (ov:List (Nat×Bool)),∃ ov',forkG P FT sub ct s ops A m κ G ov=κ ov'
 | [],ov=>⟨ov,rfl⟩
 | j::G,ov=>by
  have e:forkG P FT sub ct s ops A m κ (j::G) ov=(match boolAt P FT sub ct s ops A m ov j with
   | some (d,t)=>Bool.rec (forkG P FT sub ct s ops A m κ G (ov++[(d,false)])) (forkG P FT sub ct s ops A m κ G (ov++[(d,true)])) t
   | none=>forkG P FT sub ct s ops A m κ G ov):=rfl
  rw [e];split
  ·rename_i d t ht
   cases t with
   | false=>exact zey κ G _
   | true=>exact zey κ G _
  ·exact zey κ G _
def forkR (P:Program) (FT:Tr FI) (sub:Sub) (ct:Tr ZCC) (s:ES) (κ:List (Nat×Bool)→α):α:=match s.top.todo with
 | .it (.code (.region _ ops true))::_=>forkG P FT sub ct s ops (ancs ops.toList []) (llen ops.toList) κ (sortN (guardsOf ops.toList ops.toList)) []
 | _=>κ []
theorem zrs {sub:Sub} {ct:Tr ZCC} {s:ES} (κ:List (Nat×Bool)→α):∃ ov,forkR P FT sub ct s κ=κ ov:=by
 unfold forkR;split
 ·exact zey κ _ _
 ·exact ⟨[],rfl⟩
def lookL (d:TypeDesc) (kv:Value) (ok:Bool) (z:Value) (s:ES) (ops:Array Oper) (o:Oper) (l:List Oper) (k:List IM) (κ:EO→α) (es:List (Value×EV)):α:=List.rec (κ (opG s ops o l k ⟨some (bc ok (.v (.tuple #[z,.bool false])) (.v z)),s.H,s.n⟩))
 (fun p _ ih=>Bool.rec ih (κ (opG s ops o l k ⟨some (bc ok (.tup [p.2,.v (.bool true)]) p.2),s.H,s.n⟩)) (kEq d kv p.1)) es
def lookF (P:Program) (s:ES) (dflt:α) (κ:EO→α):α:=match s.top.ret with
 | false=>match s.top.todo with
  | .ops ops (o::l)::k=>match o.op with
   | .lookup t m x ok=>match exGuard s.top.T ops o with
    | some true=>match mpAt s.top.T s.H m with
     | some (_,es)=>match mapOf P t with
      | some (_,e,d)=>match exVal s.top.T x with
       | some (.v kv)=>bc (isKeyB d kv) (bc (keysB d es) (match pureOf P (zeroValue e) with
        | some z=>lookL d kv ok z s ops o l k κ es
        | none=>dflt) dflt) dflt
       | _=>dflt
      | none=>dflt
     | none=>dflt
    | _=>dflt
   | _=>dflt
  | _=>dflt
 | true=>dflt
theorem zli {d:TypeDesc} {kv:Value} {ok:Bool} {z:Value} {s:ES} {ops:Array Oper} {l:List Oper} {k:List IM} {κ:EO→α} {es0:List (Value×EV)} {Q:EO→Prop}
  (hA:findE d kv es0=none→Q (opG s ops o l k ⟨some (bc ok (.v (.tuple #[z,.bool false])) (.v z)),s.H,s.n⟩))
  (hF:∀ a,findE d kv es0=some a→Q (opG s ops o l k ⟨some (bc ok (.tup [a,.v (.bool true)]) a),s.H,s.n⟩)) :
  ∀ es,findE d kv es0=findE d kv es→∃ e,lookL d kv ok z s ops o l k κ es=κ e∧Q e
 | [],h=>⟨_,rfl,hA h⟩
 | p::es,h=>by
  have e1:lookL d kv ok z s ops o l k κ (p::es)=Bool.rec (lookL d kv ok z s ops o l k κ es) (κ (opG s ops o l k ⟨some (bc ok (.tup [p.2,.v (.bool true)]) p.2),s.H,s.n⟩)) (kEq d kv p.1):=rfl;have e2:findE d kv (p::es)=bc (kEq d kv p.1) (some p.2) (findE d kv es):=rfl;rw [e2] at h;rw [e1]
  cases hk:kEq d kv p.1 with
  | false=>
   rw [hk] at h;exact zli hA hF es h
  | true=>
   rw [hk] at h;exact ⟨_,rfl,hF _ h⟩
theorem zrl {s:ES} {m:Machine} (hm:MR γ w0 cs s m) (dflt:α) (κ:EO→α):lookF P s dflt κ=dflt∨∃ e,lookF P s dflt κ=κ e∧SOk P γ w0 cs fid m e:=by
 unfold lookF;split
 case h_2=>exact .inl rfl
 rename_i hret;split
 case h_2=>exact .inl rfl
 rename_i ops o l k htodo;split
 case h_2=>exact .inl rfl
 rename_i t mp x ok ho;split
 case h_2=>exact .inl rfl
 rename_i hg;split
 case h_2=>exact .inl rfl
 rename_i i es hmp;split
 case h_2=>exact .inl rfl
 rename_i kt e d hmo;split
 case h_2=>exact .inl rfl
 rename_i kv hx;rw [bc_eq];split
 case isFalse=>exact .inl rfl
 rename_i h1;rw [bc_eq];split
 case isFalse=>exact .inl rfl
 rename_i h2;split
 case h_2=>exact .inl rfl
 rename_i z hz;right;have hd:notDefer o.op=true:=by rw [ho];rfl
 have key:∀ a,exLookup P s.top.T t mp x ok s.H=some a→SOk P γ w0 cs fid m (opG s ops o l k ⟨some a,s.H,s.n⟩):=fun a ha=>by
  obtain ⟨fr,frs,w,rfl,⟨tmps,todo,ds,ro,rfl,g1,g2,g3,g4,g5⟩,hfs,hH⟩:=hm;rw [htodo] at g3
  cases g3 with
  | @cons _ _ _ todo' hi hk=>
   cases hi with
   | ops _ _ idx hidx=>
    obtain ⟨i,rest,rfl,ho',hrest⟩:=zb5 hidx;have hfr:(lone { fn:=s.top.fn,tmps:=tmps,todo:=.inRegion ops (i::rest)::todo',defers:=ds,mode:=modeOf s.top.ret,kind:=.normal,roundOf:=ro } (frs++cs) w)=lone (fram s.top.fn tmps (.inRegion ops (i::rest)::todo') ds ro) (frs++cs) w:=by rw [hret];rfl
    rw [hfr];exact zsm (er:=⟨some a,s.H,s.n⟩) hret g1 g2 hk g4 g5 hfs hH ho' hrest (zby g2 hg) (zh2 hd fun γ w0 w tmps hT hH=>zft hT hH ho ha)
 refine zli (Q:=fun e=>SOk P γ w0 cs fid m e) (fun hn=>key _ ?_) (fun a hn=>key _ ?_) es rfl
 ·unfold exLookup;simp only [hmp,hmo,hx,bc_eq,h1,h2,hn,hz,if_true]
 ·unfold exLookup;simp only [hmp,hmo,hx,bc_eq,h1,h2,hn,if_true]
def stepZ (P:Program) (FT:Tr FI) (fid:FuncId) (dr:ES→Nat→Array Oper→List IM→EO) (sub:Sub) (ct:Tr ZCC) (s:ES) (κ:EO→α):α:=preC s (fun s'=>lookF P s' (forkR P FT sub ct s' (fun ov=>mainC (zMain P FT fid dr sub ct ov s') κ)) κ)
theorem zes (hm0:P.follows .mixedOrders=true) (hF:FTok P FT) {dr:ES→Nat→Array Oper→List IM→EO} (hdr:DrOk P dr) {sub:Sub} (hsub:LoudOk P sub) {ct:Tr ZCC} (hct:ZCtsOk P ct) {s:ES} {m:Machine} (hm:MR γ w0 cs s m) (κ:EO→α):∃ e,stepZ P FT fid dr sub ct s κ=κ e∧SOk P γ w0 cs fid m e:=by
 unfold stepZ;obtain ⟨s',hm',e1⟩:=zt6 hm (fun s'=>lookF P s' (forkR P FT sub ct s' (fun ov=>mainC (zMain P FT fid dr sub ct ov s') κ)) κ);rw [e1];rcases zrl (P:=P) (fid:=fid) hm' (forkR P FT sub ct s' (fun ov=>mainC (zMain P FT fid dr sub ct ov s') κ)) κ with e0|⟨e,e0,h0⟩
 rotate_left
 ·exact ⟨e,e0,h0⟩
 rw [e0];obtain ⟨ov,e2⟩:=zrs (P:=P) (FT:=FT) (sub:=sub) (ct:=ct) (s:=s') (fun ov=>mainC (zMain P FT fid dr sub ct ov s') κ);rw [e2]
 cases hy:zMain P FT fid dr sub ct ov s' with
 | mk c e=>
  show ∃ e',bc c (κ e) (κ .fail)=κ e'∧_
  cases c with
  | false=>exact ⟨.fail,rfl,trivial⟩
  | true=>
   refine ⟨e,rfl,?_⟩;have:=zqg (fid:=fid) (ov:=ov) hm0 hF hdr hsub hct hm' (by rw [hy]);rw [hy] at this;exact this
def runZ (st:ES→(EO→α)→α) (p:ES→Bool) (κ:EO→α) (k:Nat):ES→α:=Nat.rec (fun _=>κ .fail) (fun _ ih s=>st s (fun e=>EO.rec (fun s'=>Bool.rec (ih s') (κ (.go s')) (p s')) (fun a H n=>κ (.done a H n)) (fun b H n=>κ (.doneR b H n)) (κ .fail) e)) k
theorem ze8 {st:ES→(EO→α)→α} {p:ES→Bool} {κ:EO→α} (hst:∀ (γ:G) (s:ES) (m:Machine) (κ':EO→α),MR γ w0 cs s m→∃ e,st s κ'=κ' e∧SOk P γ w0 cs fid m e) :
  ∀ (k:Nat) (γ:G) (s:ES) (m:Machine),MR γ w0 cs s m→∃ e,runZ st p κ k s=κ e∧SOk P γ w0 cs fid m e
 | 0,γ,s,m,_=>⟨.fail,rfl,trivial⟩
 | k+1,γ,s,m,hm=>by
  obtain ⟨e,h1,h2⟩:=hst γ s m (fun e=>EO.rec (fun s'=>Bool.rec (runZ st p κ k s') (κ (.go s')) (p s')) (fun a H n=>κ (.done a H n)) (fun b H n=>κ (.doneR b H n)) (κ .fail) e) hm;have fin:∃ e',(EO.rec (fun s'=>Bool.rec (runZ st p κ k s') (κ (.go s')) (p s')) (fun a H n=>κ (.done a H n)) (fun b H n=>κ (.doneR b H n)) (κ .fail) e:α)=κ e'∧SOk P γ w0 cs fid m e':=by
   cases e with
   | go s'=>
    show ∃ e',(Bool.rec (runZ st p κ k s') (κ (.go s')) (p s'):α)=κ e'∧_
    cases hp:p s' with
    | true=>exact ⟨.go s',rfl,h2⟩
    | false=>
     obtain ⟨γ',m',hle,hs,hm'⟩:=h2;obtain ⟨e2,q1,q2⟩:=ze8 hst k γ' s' m' hm';exact ⟨e2,q1,SOk.trans hle hs q2⟩
   | done a H n=>exact ⟨_,rfl,h2⟩
   | doneR b H n=>exact ⟨_,rfl,h2⟩
   | fail=>exact ⟨_,rfl,h2⟩
  obtain ⟨e',q1,q2⟩:=fin;exact ⟨e',h1.trans q1,q2⟩
def atS (d f id:Nat) (s:ES):Bool:=bc (Nat.beq (llen s.rest) d) (bc (Nat.beq s.top.fn f) (match s.top.todo with
 | .it (.code (.seq (.region i _ _) _))::_=>Nat.beq i id
 | _=>false) false) false
end
section
open Go.RowKit
variable {P:Program} {γ γ':G} {w0:Bs} {w:World} {H H':Tr EK} {n n':Nat} {T:Tr EV} {cs:List Frame} {fid:FuncId} {FT:Tr FI} {tmps:Array Value} {o:Oper} {α:Type}
theorem zoj {ρ:List (Nat×Nat)} {N:Nat} (hρ:okN ρ N=true) {l:SL} {f:EF} {a:FS} {fr:Frame} (h:normFR ρ l f=some a) (hf:FR γ f fr):FR (γ.ren ρ) (frOf a) fr:=by
 unfold normFR at h;split at h
 case h_2=>cases h
 rename_i hret;split at h
 case h_2=>cases h
 rename_i ds' hds;split at h
 case h_2=>cases h
 rename_i ro' hro;split at h
 case h_2=>cases h
 rename_i td htd;split at h
 case h_2=>cases h
 rename_i T hT;injection h with h;subst h
 obtain ⟨tmps,todo,ds,ro,rfl,h1,h2,h3,h4,h5⟩:=hf;refine ⟨tmps,todo,ds,ro,by rw [hret];rfl,h1,fun sl a hs=>?_,zjm (R:=IR γ) (S:=IR (γ.ren ρ)) (fun _ _ _ h1 h2=>zt4 hρ h1 h2) htd h3,zjm (R:=DR γ) (S:=DR (γ.ren ρ)) (fun _ _ _ h1 h2=>zt5 hρ h1 h2) hds h4,zt2 hρ hro h5⟩;obtain ⟨c,a0,q1,q2⟩:=zg0 hT sl a (zcv hs);obtain ⟨x,hx,hc⟩:=h2 sl a0 q1;exact ⟨x,hx,zob hρ q2 hc⟩
theorem zed {ρ:List (Nat×Nat)} {N:Nat} (hρ:okN ρ N=true):∀ {ls:List SL} {l:List EF} {r:List FS} {frs:List Frame},normFsR ρ ls l=some r→All2 (FR γ) l frs→All2 (FR (γ.ren ρ)) (frsOf r) frs
 | [],[],r,frs,h,hf=>by
  have h':some []=some r:=h;injection h' with h';subst h'
  cases hf;exact .nil
 | [],f::l,r,frs,h,_=>by exact absurd (show (none:Option (List FS))=some r from h) (by simp)
 | q::ls,[],r,frs,h,_=>by exact absurd (show (none:Option (List FS))=some r from h) (by simp)
 | q::ls,f::l,r,frs,h,hf=>by
  have h':(match normFR ρ q f with
   | some a=>match normFsR ρ ls l with
    | some r=>some (a::r)
    | none=>none
   | none=>none)=some r:=h
  split at h'
  case h_2=>cases h'
  rename_i a ha;split at h'
  case h_2=>cases h'
  rename_i r' hr';injection h' with h';subst h'
  cases hf with
  | cons h1 h2=>exact .cons (zoj hρ ha h1) (zed hρ hr' h2)
theorem HR.ren (hH:HR γ w0 H n w) (hres:∀ i,¬ w0.res i) {ρ keep:List (Nat×Nat)} {nils:List (Nat×TypeId×SyC)} {N:Nat} {lk:List Nat} {K:List (Nat×EK)} (hρ:okN ρ N=true) (hkeep:allL (fun p=>isSomeN (lookN ρ p.1) p.2) keep=true) (hnil:allL (fun p=>isNilS p.2.2) nils=true) (hK:pickK ρ H lk keep=some K) {K2:List (Nat×EK)} (hK2:∀ x,x∈K2→x∈nilsK nils++K):HR (γ.ren ρ) w0 (mkT K2) N w:=by
 have get:∀ j k,(mkT K2).get j=some k→(k.Nil∧k.nestB=false)∨∃ i k0,lookN ρ i=some j∧H.get i=some k0∧renK ρ lk k0=some k:=fun j k hk=>by
  rcases List.mem_append.1 (hK2 _ (zcv hk)) with hm|hm
  ·left;unfold nilsK at hm;obtain ⟨p,hp,e⟩:=List.mem_map.1 hm;injection e with e1 e2;subst e2
   exact ⟨⟨rfl,zij (zak hnil p hp)⟩,rfl⟩
  ·right;obtain ⟨i,k0,q1,q2,q3⟩:=zk3 hK j k hm;exact ⟨i,k0,zbf (zak hkeep (i,j) q1),q2,q3⟩
 refine ⟨fun j k hk=>?_,fun j1 j2 k1 k2 hj1 hj2 n1 n2 hne b1 b2 e1 e2=>?_,fun j hj=>?_,fun i hi=>absurd hi (hres i),fun j p e=>?_,hH.stays,⟨fun k a hk=>?_,hH.fzk.base,fun j v q p e=>G.ren_rw hH.fzk.nst.rwg e,fun j me ty sh rows v ho nn e=>?_,fun j me ty sh rows v ho nn e j1 f sh' hj1 hf hh k m hk=>?_⟩⟩
 ·rcases get j k hk with h5|⟨i,k0,q1,q2,q3⟩
  ·exact .inl h5.1
  ·rcases hH.hp0 i k0 q2 with h6|⟨b,m2,e1,e2,e3⟩
   ·exact .inl ((zdt q3).2 h6)
   ·exact .inr ⟨b,m2,by rw [G.ren_look hρ q1];exact e1,e2,zt3 hρ q3 e3⟩
 ·rcases get j1 k1 hj1 with h5|⟨i1,k01,q1,q2,q3⟩
  ·exact absurd h5.1 n1
  rcases get j2 k2 hj2 with h6|⟨i2,k02,q4,q5,q6⟩
  ·exact absurd h6.1 n2
  rw [G.ren_look hρ q1] at e1;rw [G.ren_look hρ q4] at e2;have hne2:i1≠i2:=fun e=>by
   subst e;rw [q1] at q4;injection q4 with q4;exact hne q4
  exact hH.inj0 i1 i2 k01 k02 q2 q5 (fun e=>n1 ((zdt q3).2 e)) (fun e=>n2 ((zdt q6).2 e)) hne2 b1 b2 e1 e2
 ·show (invN ρ j).bind γ=none
  cases hi:invN ρ j with
  | none=>rfl
  | some i=>
   have:=(zgc hρ (zc8 hi)).2.2;omega
 ·obtain ⟨i,_,q2⟩:=G.ren_some e;exact hH.lt i p q2
 ·obtain ⟨g1,g2,g3⟩:=hH.fzk.at' k a hk;refine ⟨g1,g2,fun j kj b m hj nj ej=>?_⟩;rcases get j kj hj with h5|⟨i1,k01,q1,q2,q3⟩
  ·exact absurd h5.1 nj
  rw [G.ren_look hρ q1] at ej;exact g3 i1 k01 b m q2 (fun e=>nj ((zdt q3).2 e)) ej
 ·rcases get j _ e with h5|⟨i1,k01,q1,q2,q3⟩
  ·cases h5.2
  obtain ⟨me0,rfl,q4⟩:=zfa q3;obtain ⟨q5,q6⟩:=hH.fzk.nst.me i1 me0 ty sh rows v ho nn q2;subst q5;rw [q1] at q4;injection q4 with q4
  exact ⟨q4.symm,fun v' q hv=>(G.ren_rwL hρ q1 v' q).trans (q6 v' q hv)⟩
 ·rcases get j _ e with h5|⟨i1,k01,q1,q2,q3⟩
  ·cases h5.2
  obtain ⟨me0,rfl,_⟩:=zfa q3;obtain ⟨g1,g2,g3,g4,arr,ty3,g5,g6,g7⟩:=hH.fzk.nst.at' i1 me0 ty sh rows v ho nn q2 j1 f sh' hj1 hf hh k m ((G.ren_rwL hρ q1 _ _).symm.trans hk);refine ⟨g1,g2,fun j' kj b m' hj nj ej=>?_,fun j2 me2 ty2 sh2 rows2 v2 ho2 nn2 e2 j3 f2 s2 hj2 hf2 hh2 m2 hk2=>?_,arr,ty3,g5,g6,fun a g s ha hs=>let ⟨x,hx,hc⟩:=g7 a g s ha hs;⟨x,hx,ev_fz hc fun _ _ h=>h⟩⟩
  ·rcases get j' kj hj with h5|⟨i2,k02,r1,r2,r3⟩
   ·exact absurd h5.1 nj
   rw [G.ren_look hρ r1] at ej;exact g3 i2 k02 b m' r2 (fun e=>nj ((zdt r3).2 e)) ej
  ·rcases get j2 _ e2 with h5|⟨i2,k02,r1,r2,r3⟩
   ·cases h5.2
   obtain ⟨me3,rfl,_⟩:=zfa r3;obtain ⟨y1,y2,y3⟩:=g4 i2 me3 ty2 sh2 rows2 v2 ho2 nn2 r2 j3 f2 s2 hj2 hf2 hh2 m2 ((G.ren_rwL hρ r1 _ _).symm.trans hk2);subst y1;rw [q1] at r1;injection r1 with r1
   exact ⟨r1.symm,y2,y3⟩
def LeadsZ (P:Program) (s s':ES):Prop:=∀ (γ:G) (w0:Bs) (cs:List Frame) (m:Machine),(∀ i,¬ w0.res i)→MR γ w0 cs s m→∃ γ' m',Steps P m m'∧MR γ' w0 cs s' m'
theorem LeadsZ.trans {a b c:ES} (h:LeadsZ P a b) (k:LeadsZ P b c):LeadsZ P a c:=fun γ w0 cs m hr hm=>by
 obtain ⟨γ1,m1,h1,h3⟩:=h γ w0 cs m hr hm;obtain ⟨γ2,m2,k1,k3⟩:=k γ1 w0 cs m1 hr h3;exact ⟨γ2,m2,h1.trans k1,k3⟩
theorem LeadsZ.refl (a:ES):LeadsZ P a a:=fun γ _ _ m _ hm=>⟨γ,m,Steps.refl P _,hm⟩
theorem zoz {s:ES} {lk:List Nat} {r:NS} {f:FuncId}
  (h:∀ (γ:G) (w0:Bs) (cs:List Frame) (m:Machine),MR γ w0 cs s m→∃ e ls ρ keep nils N,normR lk ls ρ keep nils N e=some r∧SOk P γ w0 cs f m e):LeadsZ P s (stOf r):=fun γ w0 cs m hres hm=>by
 obtain ⟨e,ls,ρ,keep,nils,N,h,this⟩:=h γ w0 cs m hm;unfold normR at h;split at h
 case h_2=>cases h
 rename_i s';obtain ⟨γ',m',h1,h2,h3⟩:=this;split at h
 case h_2=>cases h
 rename_i l hl;split at h
 case h_2=>cases h
 rename_i K hK;rw [bc_eq] at h;split at h
 case isFalse=>cases h
 rename_i hρ;rw [bc_eq] at h;split at h
 case isFalse=>cases h
 rename_i hkeep;rw [bc_eq] at h;split at h
 case isFalse=>cases h
 rename_i hnil;injection h with h;subst h
 obtain ⟨fr,frs,w,rfl,g1,hfs,hH⟩:=h3;have g3:=zed hρ hl (.cons g1 hfs);have hHn:=hH.ren hres hρ hkeep hnil hK (K2:=sortK (nilsK nils++K)) (fun _=>zcr)
 cases l with
 | nil=>have g3:All2 (FR (γ'.ren ρ)) [] (fr::frs):=g3;cases g3
 | cons f l=>
  have g3:All2 (FR (γ'.ren ρ)) (frOf f::frsOf l) (fr::frs):=g3
  cases g3 with
  | cons e1 e2=>exact ⟨γ'.ren ρ,_,h2,fr,frs,w,rfl,e1,e2,hHn⟩
inductive ZF where
 | at (r:NS)
 | done (a:EV) (K:List (Nat×EK)) (n:Nat)
 | bad
def doneO (q:NN) (a:EV) (H:Tr EK):ZF:=match renE q.ρ 8 a with
 | some a'=>match pickK q.ρ H [] (keepN H q.ρ) with
  | some K=>bc (okN q.ρ q.N) (bc (allL (fun p=>isSomeN (lookN q.ρ p.1) p.2) (keepN H q.ρ)) (.done a' K q.N) .bad) .bad
  | none=>.bad
 | none=>.bad
def doneD (a:EV) (H:Tr EK):ZF:=match frzE 8 a H with
 | some (c,a',_)=>bc c (.done a' [] 0) .bad
 | none=>.bad
def doneZ (own:Bool) (a:EV) (H:Tr EK):ZF:=bc own (doneO (addL (numsE 6 a) ⟨[],[],0⟩) a H) (doneD a H)
theorem zsa {own:Bool} {a:EV} {r:NS} (h:doneZ own a H = .at r):False:=by
 unfold doneZ at h;rw [bc_eq] at h;split at h
 ·unfold doneO at h;split at h
  ·split at h
   ·rw [bc_eq] at h;split at h
    ·rw [bc_eq] at h;split at h <;> cases h
    ·cases h
   ·cases h
  ·cases h
 ·unfold doneD at h;split at h
  ·rw [bc_eq] at h;split at h <;> cases h
  ·cases h
def endZ (lk:List Nat) (ls:List SZ) (own:Bool) (e:EO):ZF:=match e with
 | .done a H n=>doneZ own a H
 | .go s=>match normZ lk ls (.go (nilS ls s)) with
  | some r=>.at r
  | none=>.bad
 | _=>.bad
abbrev PLs:=List ((ES→Bool)×List SZ)
def lsAt (ps:PLs) (s:ES):List SZ:=List.rec [] (fun q _ ih=>bc (q.1 s) q.2 ih) ps
def atPs (ps:PLs) (s:ES):Bool:=List.rec false (fun q _ ih=>bc (q.1 s) true ih) ps
def endP (lk:List Nat) (ps:PLs) (own:Bool) (e:EO):ZF:=match e with
 | .go s=>endZ lk (lsAt ps s) own (.go s)
 | .done a H n=>endZ lk [] own (.done a H n)
 | _=>.bad
theorem zpo {lk:List Nat} {ps:PLs} {own:Bool} (e:EO):∃ ls,endP lk ps own e=endZ lk ls own e:=by
 cases e with
 | go s=>exact ⟨_,rfl⟩
 | done a H n=>exact ⟨[],rfl⟩
 | _=>exact ⟨[],rfl⟩
theorem zr9 {own:Bool} {a:EV} {a':EV} {K:List (Nat×EK)} {N:Nat} (h:doneZ own a H = .done a' K N) (hH:HR γ w0 H n w) (hres:∀ i,¬ w0.res i) {x:Value} (ha:EC γ a x):∃ γ',EC γ' a' x∧HR γ' w0 (mkT K) N w:=by
 unfold doneZ at h;rw [bc_eq] at h;split at h
 ·unfold doneO at h;split at h
  case h_2=>cases h
  rename_i a2 ha2;split at h
  case h_2=>cases h
  rename_i K2 hK;rw [bc_eq] at h;split at h
  case isFalse=>cases h
  rename_i hρ;rw [bc_eq] at h;split at h
  case isFalse=>cases h
  rename_i hkeep;injection h with e1 e2 e3
  subst e1;subst e2;subst e3;exact ⟨_,EC.ren hρ ha2 ha,hH.ren (nils:=[]) hres hρ hkeep rfl hK (fun _ h=>h)⟩
 ·unfold doneD at h;split at h
  case h_2=>cases h
  rename_i c a2 H2 hf;rw [bc_eq] at h;split at h
  case isFalse=>cases h
  rename_i hc;injection h with e1 e2 e3
  subst e1;subst e2;subst e3;obtain ⟨γ',g1,g2,g3⟩:=zcm hH ha hf hc;have hd:HR (γ'.ren []) w0 (mkT ([]++[])) 0 w:=g2.ren (ρ:=[]) (keep:=[]) (nils:=[]) (lk:=[]) hres rfl rfl rfl rfl (fun _ h=>h);have hdata:dataB 8 a2=true:=by
   have key:∀ (k:Nat),(∀ (a:EV) (H:Tr EK) (c:Bool) (a':EV) (H':Tr EK),frzE k a H=some (c,a',H')→dataB k a'=true)∧∀ (l:List EV) (H:Tr EK) (c:Bool) (l':List EV) (H':Tr EK),frzL (frzE k) l H=some (c,l',H')→allL (dataB k) l'=true:=fun k=>by
    induction k with
    | zero=>
     have h0:∀ (a:EV) (H:Tr EK) (c:Bool) (a':EV) (H':Tr EK),frzE 0 a H=some (c,a',H')→dataB 0 a'=true:=fun a H c a' H' h=>by cases h
     refine ⟨h0,fun l=>?_⟩
     induction l with
     | nil=>intro H c l' H' h;have h':some (true,[],H)=some (c,l',H'):=h;simp only [Option.some.injEq,Prod.mk.injEq] at h';obtain ⟨_,rfl,_⟩:=h';rfl
     | cons b l ih=>intro H c l' H' h;cases (show (match (none:Option (Bool×EV×Tr EK)) with
       | some (c,a',H')=>match frzL (frzE 0) l H' with
        | some (c2,l',H2)=>some (bc c c2 false,a'::l',H2)
        | none=>none
       | none=>none)=some (c,l',H') from h)
    | succ k ih=>
     have h1:∀ (a:EV) (H:Tr EK) (c:Bool) (a':EV) (H':Tr EK),frzE (k+1) a H=some (c,a',H')→dataB (k+1) a'=true:=fun a H c a' H' h=>by
      cases a with
      | v x=>have h':some (true,EV.v x,H)=some (c,a',H'):=h;simp only [Option.some.injEq,Prod.mk.injEq] at h';obtain ⟨_,rfl,_⟩:=h';rfl
      | lst x=>have h':some (true,EV.lst x,H)=some (c,a',H'):=h;simp only [Option.some.injEq,Prod.mk.injEq] at h';obtain ⟨_,rfl,_⟩:=h';rfl
      | arr x=>have h':some (true,EV.arr x,H)=some (c,a',H'):=h;simp only [Option.some.injEq,Prod.mk.injEq] at h';obtain ⟨_,rfl,_⟩:=h';rfl
      | lp x j f=>have h':some (true,EV.lp x j f,H)=some (c,a',H'):=h;simp only [Option.some.injEq,Prod.mk.injEq] at h';obtain ⟨_,rfl,_⟩:=h';rfl
      | ptrE i z j f=>
       obtain ⟨c0,rfl⟩:=zun (show frzP i z j f H=some (c,a',H') from h);rfl
      | slO i z len nn=>
       obtain ⟨c0,rfl⟩:=zlp (show frzS i z len H=some (c,a',H') from h);rfl
      | sl i z off len cap=>
       cases cap with
       | some q=>cases h
       | none=>
       cases off with
       | succ q=>cases h
       | zero=>
       obtain ⟨c0,rfl⟩:=zlp (show frzS i z len H=some (c,a',H') from h);rfl
      | agg l=>
       have h':(match frzL (frzE k) l H with
        | some (c,l',H')=>some (c,EV.agg l',H')
        | none=>none)=some (c,a',H'):=h
       split at h'
       case h_2=>cases h'
       rename_i e1;simp only [Option.some.injEq,Prod.mk.injEq] at h';obtain ⟨_,rfl,_⟩:=h';exact ih.2 _ _ _ _ _ e1
      | tup l=>
       have h':(match frzL (frzE k) l H with
        | some (c,l',H')=>some (c,EV.tup l',H')
        | none=>none)=some (c,a',H'):=h
       split at h'
       case h_2=>cases h'
       rename_i e1;simp only [Option.some.injEq,Prod.mk.injEq] at h';obtain ⟨_,rfl,_⟩:=h';exact ih.2 _ _ _ _ _ e1
      | fn f l=>
       have h':(match frzL (frzE k) l H with
        | some (c,l',H')=>some (c,EV.fn f l',H')
        | none=>none)=some (c,a',H'):=h
       split at h'
       case h_2=>cases h'
       rename_i e1;simp only [Option.some.injEq,Prod.mk.injEq] at h';obtain ⟨_,rfl,_⟩:=h';exact ih.2 _ _ _ _ _ e1
      | _=>cases h
     refine ⟨h1,fun l=>?_⟩
     induction l with
     | nil=>intro H c l' H' h;have h':some (true,[],H)=some (c,l',H'):=h;simp only [Option.some.injEq,Prod.mk.injEq] at h';obtain ⟨_,rfl,_⟩:=h';rfl
     | cons b l ihl=>
      intro H c l' H' h;have h':(match frzE (k+1) b H with
       | some (c,a',H')=>match frzL (frzE (k+1)) l H' with
        | some (c2,l',H2)=>some (bc c c2 false,a'::l',H2)
        | none=>none
       | none=>none)=some (c,l',H'):=h
      split at h'
      case h_2=>cases h'
      rename_i e1;split at h'
      case h_2=>cases h'
      rename_i e2;simp only [Option.some.injEq,Prod.mk.injEq] at h';obtain ⟨_,rfl,_⟩:=h';show bc (dataB (k+1) _) (allL (dataB (k+1)) _) false=true;rw [h1 _ _ _ _ _ e1,ihl _ _ _ _ e2];rfl
   exact (key 8).1 _ _ _ _ _ hf
  exact ⟨γ'.ren [],g3.data hdata fun _ _ h=>h,hd⟩
theorem leadsF (hm0:P.follows .mixedOrders=true) (hF:FTok P FT) {dr:ES→Nat→Array Oper→List IM→EO} (hdr:DrOk P dr) {sub:Sub} (hsub:LoudOk P sub) {ct:Tr ZCC} (hct:ZCtsOk P ct) {f k:Nat} {p:ES→Bool} {s:ES} {lk:List Nat} {κ:EO→ZF} {own:Bool} {r:NS} (hκ:∀ e,∃ ls,κ e=endZ lk ls own e)
  (h:runZ (stepZ P FT f dr sub ct) p κ k s = .at r):LeadsZ P s (stOf r):=
 zoz (f:=f) (lk:=lk) fun γ w0 cs m hm=>by
  obtain ⟨e,h1,h2⟩:=ze8 (p:=p) (κ:=κ) (fun γ s m κ' hm=>zes (fid:=f) hm0 hF hdr hsub hct hm κ') k γ s m hm;obtain ⟨ls,hls⟩:=hκ e;have h3:endZ lk ls own e = .at r:=hls.symm.trans (h1.symm.trans h);unfold endZ at h3;split at h3
  ·exact (zsa h3).elim
  ·split at h3
   ·rename_i s' r' hr;injection h3 with h3;subst h3
    unfold normZ at hr;simp only at hr;obtain ⟨γ',m',hle,hst,hM⟩:=h2;exact ⟨_,_,_,_,_,_,hr,⟨γ',m',hle,hst,zol hM⟩⟩
   ·cases h3
  ·cases h3
theorem callsF (hm0:P.follows .mixedOrders=true) (hF:FTok P FT) {dr:ES→Nat→Array Oper→List IM→EO} (hdr:DrOk P dr) {sub:Sub} (hsub:LoudOk P sub) {ct:Tr ZCC} (hct:ZCtsOk P ct) {f k:Nat} {p:ES→Bool} {s:ES} {lk:List Nat} {κ:EO→ZF} {own:Bool} {args:List EV} {us:Array Value} {e:EF} {a:EV} {K:List (Nat×EK)} {n':Nat} (hκ:∀ e,∃ ls,κ e=endZ lk ls own e)
  (he:exEnter FT f args=some e) (hargs:ECL γ args us.toList) (hN:∀ i,γ i=none) (hfz:FzAt γ w)
  (hl:LeadsZ P ⟨e,[],.nil,0⟩ s) (hd:runZ (stepZ P FT f dr sub ct) p κ k s = .done a K n') :
  Calls P f us w fun e w'=>∃ γ' x,e = .returned x∧EC γ' a x∧HR γ' (Bs.ofG w γ) (mkT K) n' w':=by
 intro cs;obtain ⟨q1,_⟩:=zbz hF hargs he;have hM:MR γ (Bs.ofG w γ) cs ⟨e,[],.nil,0⟩ (lone (Frame.enter P f us .normal) cs w):=
  ⟨_,[],w,rfl,q1,.nil,⟨(fun i k hk=>by cases hk),(fun i j ki kj hi=>by cases hi),(fun i _=>hN i),(fun i hi=>hi.elim),(fun i p hp=>by rw [hN i] at hp;cases hp),⟨rfl,rfl,rfl,Nat.le_refl _,fun _ _=>rfl⟩,FZ.init hfz⟩⟩
 obtain ⟨γ1,m1,g1,g3⟩:=hl γ (Bs.ofG w γ) cs _ (fun i hi=>hi) hM;obtain ⟨eo,h1,this⟩:=ze8 (p:=p) (κ:=κ) (fun γ s m κ' hm=>zes (fid:=f) hm0 hF hdr hsub hct hm κ') k γ1 s m1 g3;obtain ⟨ls,hls⟩:=hκ eo;have h3:endZ lk ls own eo = .done a K n':=hls.symm.trans (h1.symm.trans hd);unfold endZ at h3;split at h3
 ·rename_i a0 H0 n0;obtain ⟨γ',fr',w',v,_,h2,h4,h5,h6,h7⟩:=this;obtain ⟨γ2,k1,k2⟩:=zr9 h3 h7 (fun i hi=>hi) h6;exact ⟨.returned v,w',fr',⟨γ2,v,rfl,k1,k2⟩,g1.trans h2,h4,h5⟩
 ·split at h3 <;> cases h3
 ·cases h3
end
section
open Go.RowKit
variable {P:Program} {γ γ':G} {w0:Bs} {w:World} {H H':Tr EK} {n n':Nat} {T:Tr EV} {cs:List Frame} {fid:FuncId} {FT:Tr FI} {tmps:Array Value} {o:Oper} {α:Type}
def idL (k:Nat):List (Nat×Nat):=Nat.rec [] (fun j ih=>ih++[(j,j)]) k
theorem zo4:∀ {k j:Nat},j<k→(j,j)∈idL k
 | k+1,j,h=>by
  show (j,j)∈idL k++[(k,k)]
  by_cases e:j=k
  ·subst e;simp
  ·exact List.mem_append.2 (.inl (zo4 (by omega)))
def pinsB (k:Nat) (ρ:List (Nat×Nat)):Bool:=allL (fun p=>isSomeN (lookN ρ p.1) p.2) (idL k)
theorem zk2 {k:Nat} {ρ:List (Nat×Nat)} (h:pinsB k ρ=true) {j:Nat} (hj:j<k):lookN ρ j=some j:=zbf (zak h (j,j) (zo4 hj))
def normK (k:Nat) (lk:List Nat) (ls:List SZ) (e:EO):Option NS:=match e with
 | .go s=>match framesN (s.top::s.rest) ls ⟨idL k,[],k⟩ with
  | (q0,sl)=>match closeN lk s.H 60 0 q0 with
   | q=>bc (pinsB k q.ρ) (normR lk sl q.ρ (keepN s.H q.ρ) q.nils q.N (.go s)) none
 | _=>none
def doneM (k:Nat) (a:EV) (H:Tr EK):ZF:=match closeN [] H 60 0 (addL (numsE 6 a) ⟨idL k,[],k⟩) with
 | q=>match renE q.ρ 8 a with
  | some a'=>match pickK q.ρ H [] (keepN H q.ρ) with
   | some K=>bc (okN q.ρ q.N) (bc (allL (fun p=>isSomeN (lookN q.ρ p.1) p.2) (keepN H q.ρ)) (bc (pinsB k q.ρ) (.done a' (sortK K) q.N) .bad) .bad) .bad
   | none=>.bad
  | none=>.bad
abbrev NLs:=List (Nat×Nat×TypeId×SyC)
def nilD (nl:NLs):Tr EK×Nat→Tr EK×Nat:=List.rec (fun q=>q) (fun p _ ih q=>match q.1.get p.1 with
 | some (.cells _ l _)=>ih (nilL p.2.1 p.2.2.1 p.2.2.2 p.1 (nilJ l 0) q)
 | _=>ih q) nl
theorem zjj:∀ {nl:NLs} {q:Tr EK×Nat},HR γ w0 q.1 q.2 w→HR γ w0 (nilD nl q).1 (nilD nl q).2 w
 | [],_,h=>h
 | p::nl,q,h=>by
  show HR γ w0 (match q.1.get p.1 with
   | some (.cells _ l _)=>nilD nl (nilL p.2.1 p.2.2.1 p.2.2.2 p.1 (nilJ l 0) q)
   | _=>nilD nl q).1 (match q.1.get p.1 with
   | some (.cells _ l _)=>nilD nl (nilL p.2.1 p.2.2.1 p.2.2.2 p.1 (nilJ l 0) q)
   | _=>nilD nl q).2 w
  split
  ·exact zjj (zji h)
  ·exact zjj h
def endM (k:Nat) (lk:List Nat) (ps:PLs) (nl:NLs) (e:EO):ZF:=match e with
 | .go s=>match normK k lk (lsAt ps s) (.go (nilS (lsAt ps s) s)) with
  | some r=>.at r
  | none=>.bad
 | .done a H n=>doneM k a (nilD nl (H,n)).1
 | _=>.bad
def LeadsM (P:Program) (k:Nat) (s s':ES):Prop:=∀ (γ:G) (w0:Bs) (cs:List Frame) (m:Machine),(∀ i,¬ w0.res i)→MR γ w0 cs s m→∃ γ' m',Steps P m m'∧MR γ' w0 cs s' m'∧∀ j p,j<k→γ j=some p→γ' j=some p
theorem LeadsM.trans {k:Nat} {a b c:ES} (h:LeadsM P k a b) (g:LeadsM P k b c):LeadsM P k a c:=fun γ w0 cs m hr hm=>by
 obtain ⟨γ1,m1,h1,h2,h3⟩:=h γ w0 cs m hr hm;obtain ⟨γ2,m2,k1,k2,k3⟩:=g γ1 w0 cs m1 hr h2;exact ⟨γ2,m2,h1.trans k1,k2,fun j p hj e=>k3 j p hj (h3 j p hj e)⟩
theorem LeadsM.refl (k:Nat) (a:ES):LeadsM P k a a:=fun γ _ _ m _ hm=>⟨γ,m,Steps.refl P _,hm,fun _ _ _ e=>e⟩
theorem zo0 {s:ES} {lk:List Nat} {r:NS} {f:FuncId} {k:Nat}
  (h:∀ (γ:G) (w0:Bs) (cs:List Frame) (m:Machine),MR γ w0 cs s m→∃ e ls ρ keep nils N,normR lk ls ρ keep nils N e=some r∧pinsB k ρ=true∧SOk P γ w0 cs f m e):LeadsM P k s (stOf r):=fun γ w0 cs m hres hm=>by
 obtain ⟨e,ls,ρ,keep,nils,N,h,hpk,this⟩:=h γ w0 cs m hm;unfold normR at h;split at h
 case h_2=>cases h
 rename_i s';obtain ⟨γ',m',h1,h2,h3⟩:=this;split at h
 case h_2=>cases h
 rename_i l hl;split at h
 case h_2=>cases h
 rename_i K hK;rw [bc_eq] at h;split at h
 case isFalse=>cases h
 rename_i hρ;rw [bc_eq] at h;split at h
 case isFalse=>cases h
 rename_i hkeep;rw [bc_eq] at h;split at h
 case isFalse=>cases h
 rename_i hnil;injection h with h;subst h
 obtain ⟨fr,frs,w,rfl,g1,hfs,hH⟩:=h3;have g3:=zed hρ hl (.cons g1 hfs);have hHn:=hH.ren hres hρ hkeep hnil hK (K2:=sortK (nilsK nils++K)) (fun _=>zcr)
 cases l with
 | nil=>have g3:All2 (FR (γ'.ren ρ)) [] (fr::frs):=g3;cases g3
 | cons f l=>
  have g3:All2 (FR (γ'.ren ρ)) (frOf f::frsOf l) (fr::frs):=g3
  cases g3 with
  | cons e1 e2=>exact ⟨γ'.ren ρ,_,h2,⟨fr,frs,w,rfl,e1,e2,hHn⟩,fun j p hj ej=>by rw [G.ren_look hρ (zk2 hpk hj)];exact h1 j p ej⟩
theorem leadsM (hm0:P.follows .mixedOrders=true) (hF:FTok P FT) {dr:ES→Nat→Array Oper→List IM→EO} (hdr:DrOk P dr) {sub:Sub} (hsub:LoudOk P sub) {ct:Tr ZCC} (hct:ZCtsOk P ct) {f k c:Nat} {p:ES→Bool} {s:ES} {lk:List Nat} {ps:PLs} {nl:NLs} {r:NS}
  (h:runZ (stepZ P FT f dr sub ct) p (endM k lk ps nl) c s = .at r):LeadsM P k s (stOf r):=
 zo0 (f:=f) (lk:=lk) fun γ w0 cs m hm=>by
  obtain ⟨e,h1,h2⟩:=ze8 (p:=p) (κ:=endM k lk ps nl) (fun γ s m κ' hm=>zes (fid:=f) hm0 hF hdr hsub hct hm κ') c γ s m hm;have h3:endM k lk ps nl e = .at r:=h1.symm.trans h;unfold endM at h3;split at h3
  ·split at h3
   ·rename_i s' r' hr;injection h3 with h3;subst h3
    unfold normK at hr;simp only at hr;rw [bc_eq] at hr;split at hr
    case isFalse=>cases hr
    rename_i hpk;obtain ⟨γ',m',hle,hst,hM⟩:=h2;exact ⟨_,_,_,_,_,_,hr,hpk,⟨γ',m',hle,hst,zol hM⟩⟩
   ·cases h3
  ·unfold doneM at h3;simp only at h3;split at h3
   ·split at h3
    ·rw [bc_eq,bc_eq,bc_eq] at h3;split at h3
     ·split at h3
      ·split at h3 <;> cases h3
      ·cases h3
     ·cases h3
    ·cases h3
   ·cases h3
  ·cases h3
theorem callsM (hm0:P.follows .mixedOrders=true) (hF:FTok P FT) {dr:ES→Nat→Array Oper→List IM→EO} (hdr:DrOk P dr) {sub:Sub} (hsub:LoudOk P sub) {ct:Tr ZCC} (hct:ZCtsOk P ct) {f k c:Nat} {p:ES→Bool} {s:ES} {lk:List Nat} {ps:PLs} {nl:NLs} {args:List EV} {us:Array Value} {e:EF} {K0:List (Nat×EK)} {m0:Nat} {a:EV} {K:List (Nat×EK)} {n':Nat}
  (he:exEnter FT f args=some e) (hres:∀ i,¬ w0.res i) (hargs:ECL γ args us.toList) (hH:HR γ w0 (mkT K0) m0 w)
  (hl:LeadsM P k ⟨e,[],mkT K0,m0⟩ s) (hd:runZ (stepZ P FT f dr sub ct) p (endM k lk ps nl) c s = .done a K n') :
  Calls P f us w fun e w'=>∃ γ' x,e = .returned x∧EC γ' a x∧HR γ' w0 (mkT K) n' w'∧∀ j p,j<k→γ j=some p→γ' j=some p:=by
 intro cs;obtain ⟨q1,_⟩:=zbz hF hargs he;have hM:MR γ w0 cs ⟨e,[],mkT K0,m0⟩ (lone (Frame.enter P f us .normal) cs w):=⟨_,[],w,rfl,q1,.nil,hH⟩;obtain ⟨γ1,m1,g1,g3,g4⟩:=hl γ w0 cs _ hres hM;obtain ⟨eo,h1,this⟩:=ze8 (p:=p) (κ:=endM k lk ps nl) (fun γ s m κ' hm=>zes (fid:=f) hm0 hF hdr hsub hct hm κ') c γ1 s m1 g3;have h3:endM k lk ps nl eo = .done a K n':=h1.symm.trans hd;unfold endM at h3;split at h3
 ·split at h3 <;> cases h3
 ·rename_i a0 H0 n0;obtain ⟨γ',fr',w',v,hle,h2,h4,h5,h6,h7⟩:=this;unfold doneM at h3;simp only at h3;split at h3
  case h_2=>cases h3
  rename_i a2 ha2;split at h3
  case h_2=>cases h3
  rename_i K2 hK2;rw [bc_eq] at h3;split at h3
  case isFalse=>cases h3
  rename_i hρ;rw [bc_eq] at h3;split at h3
  case isFalse=>cases h3
  rename_i hkeep;rw [bc_eq] at h3;split at h3
  case isFalse=>cases h3
  rename_i hpk;injection h3 with e1 e2 e3;subst e1;subst e2;subst e3
  exact ⟨.returned v,w',fr',⟨_,v,rfl,EC.ren hρ ha2 h6,(zjj (nl:=nl) (q:=(H0,n0)) h7).ren (nils:=[]) hres hρ hkeep rfl hK2 (K2:=sortK K2) (fun _=>zcr),fun j p hj ej=>by rw [G.ren_look hρ (zk2 hpk hj)];exact hle j p (g4 j p hj ej)⟩,g1.trans h2,h4,h5⟩
 ·cases h3
end
noncomputable def ft0:Tr FI:=.nil
theorem ft0Ok:FTok Try.prog ft0:=FTok.nil _
noncomputable def ft1:Tr FI:=ft0.put 8 (some (ofFunc Try.f8))
theorem ft1Ok:FTok Try.prog ft1:=ft0Ok.add (by kernel_rfl) Try.func8 (by kernel_rfl) (by kernel_rfl)
noncomputable def ft2:Tr FI:=ft1.put 11 (some (ofFunc Try.f11))
theorem ft2Ok:FTok Try.prog ft2:=ft1Ok.add (by kernel_rfl) Try.func11 (by kernel_rfl) (by kernel_rfl)
noncomputable def ft3:Tr FI:=ft2.put 12 (some (ofFunc Try.f12))
theorem ft3Ok:FTok Try.prog ft3:=ft2Ok.add (by kernel_rfl) Try.func12 (by kernel_rfl) (by kernel_rfl)
noncomputable def ft4:Tr FI:=ft3.put 13 (some (ofFunc Try.f13))
theorem ft4Ok:FTok Try.prog ft4:=ft3Ok.add (by kernel_rfl) Try.func13 (by kernel_rfl) (by kernel_rfl)
noncomputable def ft5:Tr FI:=ft4.put 18 (some (ofFunc Try.f18))
theorem ft5Ok:FTok Try.prog ft5:=ft4Ok.add (by kernel_rfl) Try.func18 (by kernel_rfl) (by kernel_rfl)
noncomputable def ft6:Tr FI:=ft5.put 19 (some (ofFunc Try.f19))
theorem ft6Ok:FTok Try.prog ft6:=ft5Ok.add (by kernel_rfl) Try.func19 (by kernel_rfl) (by kernel_rfl)
noncomputable def ft7:Tr FI:=ft6.put 24 (some (ofFunc Try.f24))
theorem ft7Ok:FTok Try.prog ft7:=ft6Ok.add (by kernel_rfl) Try.func24 (by kernel_rfl) (by kernel_rfl)
noncomputable def ft8:Tr FI:=ft7.put 33 (some (ofFunc Try.f33))
theorem ft8Ok:FTok Try.prog ft8:=ft7Ok.add (by kernel_rfl) Try.func33 (by kernel_rfl) (by kernel_rfl)
noncomputable def ft9:Tr FI:=ft8.put 34 (some (ofFunc Try.f34))
theorem ft9Ok:FTok Try.prog ft9:=ft8Ok.add (by kernel_rfl) Try.func34 (by kernel_rfl) (by kernel_rfl)
noncomputable def ft10:Tr FI:=ft9.put 36 (some (ofFunc Try.f36))
theorem ft10Ok:FTok Try.prog ft10:=ft9Ok.add (by kernel_rfl) Try.func36 (by kernel_rfl) (by kernel_rfl)
noncomputable def ft11:Tr FI:=ft10.put 37 (some (ofFunc Try.f37))
theorem ft11Ok:FTok Try.prog ft11:=ft10Ok.add (by kernel_rfl) Try.func37 (by kernel_rfl) (by kernel_rfl)
noncomputable def ft12:Tr FI:=ft11.put 45 (some (ofFunc Try.f45))
theorem ft12Ok:FTok Try.prog ft12:=ft11Ok.add (by kernel_rfl) Try.func45 (by kernel_rfl) (by kernel_rfl)
noncomputable def ft13:Tr FI:=ft12.put 50 (some (ofFunc Try.f50))
theorem ft13Ok:FTok Try.prog ft13:=ft12Ok.add (by kernel_rfl) Try.func50 (by kernel_rfl) (by kernel_rfl)
noncomputable def ft14:Tr FI:=ft13.put 51 (some (ofFunc Try.f51))
theorem ft14Ok:FTok Try.prog ft14:=ft13Ok.add (by kernel_rfl) Try.func51 (by kernel_rfl) (by kernel_rfl)
noncomputable def ft15:Tr FI:=ft14.put 52 (some (ofFunc Try.f52))
theorem ft15Ok:FTok Try.prog ft15:=ft14Ok.add (by kernel_rfl) Try.func52 (by kernel_rfl) (by kernel_rfl)
noncomputable def ft16:Tr FI:=ft15.put 53 (some (ofFunc Try.f53))
theorem ft16Ok:FTok Try.prog ft16:=ft15Ok.add (by kernel_rfl) Try.func53 (by kernel_rfl) (by kernel_rfl)
noncomputable def ft17:Tr FI:=ft16.put 54 (some (ofFunc Try.f54))
theorem ft17Ok:FTok Try.prog ft17:=ft16Ok.add (by kernel_rfl) Try.func54 (by kernel_rfl) (by kernel_rfl)
noncomputable def ft18:Tr FI:=ft17.put 55 (some (ofFunc Try.f55))
theorem ft18Ok:FTok Try.prog ft18:=ft17Ok.add (by kernel_rfl) Try.func55 (by kernel_rfl) (by kernel_rfl)
noncomputable def ft19:Tr FI:=ft18.put 58 (some (ofFunc Try.f58))
theorem ft19Ok:FTok Try.prog ft19:=ft18Ok.add (by kernel_rfl) Try.func58 (by kernel_rfl) (by kernel_rfl)
noncomputable def ft20:Tr FI:=ft19.put 59 (some (ofFunc Try.f59))
theorem ft20Ok:FTok Try.prog ft20:=ft19Ok.add (by kernel_rfl) Try.func59 (by kernel_rfl) (by kernel_rfl)
noncomputable def ft21:Tr FI:=ft20.put 60 (some (ofFunc Try.f60))
theorem ft21Ok:FTok Try.prog ft21:=ft20Ok.add (by kernel_rfl) Try.func60 (by kernel_rfl) (by kernel_rfl)
noncomputable def ft22:Tr FI:=ft21.put 61 (some (ofFunc Try.f61))
theorem ft22Ok:FTok Try.prog ft22:=ft21Ok.add (by kernel_rfl) Try.func61 (by kernel_rfl) (by kernel_rfl)
noncomputable def ft23:Tr FI:=ft22.put 64 (some (ofFunc Try.f64))
theorem ft23Ok:FTok Try.prog ft23:=ft22Ok.add (by kernel_rfl) Try.func64 (by kernel_rfl) (by kernel_rfl)
noncomputable def ft24:Tr FI:=ft23.put 65 (some (ofFunc Try.f65))
theorem ft24Ok:FTok Try.prog ft24:=ft23Ok.add (by kernel_rfl) Try.func65 (by kernel_rfl) (by kernel_rfl)
noncomputable def ft25:Tr FI:=ft24.put 66 (some (ofFunc Try.f66))
theorem ft25Ok:FTok Try.prog ft25:=ft24Ok.add (by kernel_rfl) Try.func66 (by kernel_rfl) (by kernel_rfl)
noncomputable def ft26:Tr FI:=ft25.put 67 (some (ofFunc Try.f67))
theorem ft26Ok:FTok Try.prog ft26:=ft25Ok.add (by kernel_rfl) Try.func67 (by kernel_rfl) (by kernel_rfl)
noncomputable def ft27:Tr FI:=ft26.put 78 (some (ofFunc Try.f78))
theorem ft27Ok:FTok Try.prog ft27:=ft26Ok.add (by kernel_rfl) Try.func78 (by kernel_rfl) (by kernel_rfl)
noncomputable def ft28:Tr FI:=ft27.put 79 (some (ofFunc Try.f79))
theorem ft28Ok:FTok Try.prog ft28:=ft27Ok.add (by kernel_rfl) Try.func79 (by kernel_rfl) (by kernel_rfl)
noncomputable def ft29:Tr FI:=ft28.put 80 (some (ofFunc Try.f80))
theorem ft29Ok:FTok Try.prog ft29:=ft28Ok.add (by kernel_rfl) Try.func80 (by kernel_rfl) (by kernel_rfl)
noncomputable def ft30:Tr FI:=ft29.put 81 (some (ofFunc Try.f81))
theorem ft30Ok:FTok Try.prog ft30:=ft29Ok.add (by kernel_rfl) Try.func81 (by kernel_rfl) (by kernel_rfl)
noncomputable def ft31:Tr FI:=ft30.put 82 (some (ofFunc Try.f82))
theorem ft31Ok:FTok Try.prog ft31:=ft30Ok.add (by kernel_rfl) Try.func82 (by kernel_rfl) (by kernel_rfl)
noncomputable def ft32:Tr FI:=ft31.put 85 (some (ofFunc Try.f85))
theorem ft32Ok:FTok Try.prog ft32:=ft31Ok.add (by kernel_rfl) Try.func85 (by kernel_rfl) (by kernel_rfl)
noncomputable def ft33:Tr FI:=ft32.put 86 (some (ofFunc Try.f86))
theorem ft33Ok:FTok Try.prog ft33:=ft32Ok.add (by kernel_rfl) Try.func86 (by kernel_rfl) (by kernel_rfl)
noncomputable def ft34:Tr FI:=ft33.put 89 (some (ofFunc Try.f89))
theorem ft34Ok:FTok Try.prog ft34:=ft33Ok.add (by kernel_rfl) Try.func89 (by kernel_rfl) (by kernel_rfl)
noncomputable def ft35:Tr FI:=ft34.put 99 (some (ofFunc Try.f99))
theorem ft35Ok:FTok Try.prog ft35:=ft34Ok.add (by kernel_rfl) Try.func99 (by kernel_rfl) (by kernel_rfl)
noncomputable def ft36:Tr FI:=ft35.put 103 (some (ofFunc Try.f103))
theorem ft36Ok:FTok Try.prog ft36:=ft35Ok.add (by kernel_rfl) Try.func103 (by kernel_rfl) (by kernel_rfl)
noncomputable def ft37:Tr FI:=ft36.put 104 (some (ofFunc Try.f104))
theorem ft37Ok:FTok Try.prog ft37:=ft36Ok.add (by kernel_rfl) Try.func104 (by kernel_rfl) (by kernel_rfl)
noncomputable def ft38:Tr FI:=ft37.put 105 (some (ofFunc Try.f105))
theorem ft38Ok:FTok Try.prog ft38:=ft37Ok.add (by kernel_rfl) Try.func105 (by kernel_rfl) (by kernel_rfl)
noncomputable def ft39:Tr FI:=ft38.put 106 (some (ofFunc Try.f106))
theorem ft39Ok:FTok Try.prog ft39:=ft38Ok.add (by kernel_rfl) Try.func106 (by kernel_rfl) (by kernel_rfl)
noncomputable def ft40:Tr FI:=ft39.put 107 (some (ofFunc Try.f107))
theorem ft40Ok:FTok Try.prog ft40:=ft39Ok.add (by kernel_rfl) Try.func107 (by kernel_rfl) (by kernel_rfl)
noncomputable def ft41:Tr FI:=ft40.put 109 (some (ofFunc Try.f109))
theorem ft41Ok:FTok Try.prog ft41:=ft40Ok.add (by kernel_rfl) Try.func109 (by kernel_rfl) (by kernel_rfl)
noncomputable def ft42:Tr FI:=ft41.put 111 (some (ofFunc Try.f111))
theorem ft42Ok:FTok Try.prog ft42:=ft41Ok.add (by kernel_rfl) Try.func111 (by kernel_rfl) (by kernel_rfl)
noncomputable def ft43:Tr FI:=ft42.put 112 (some (ofFunc Try.f112))
theorem ft43Ok:FTok Try.prog ft43:=ft42Ok.add (by kernel_rfl) Try.func112 (by kernel_rfl) (by kernel_rfl)
noncomputable def ft44:Tr FI:=ft43.put 113 (some (ofFunc Try.f113))
theorem ft44Ok:FTok Try.prog ft44:=ft43Ok.add (by kernel_rfl) Try.func113 (by kernel_rfl) (by kernel_rfl)
noncomputable def ft45:Tr FI:=ft44.put 114 (some (ofFunc Try.f114))
theorem ft45Ok:FTok Try.prog ft45:=ft44Ok.add (by kernel_rfl) Try.func114 (by kernel_rfl) (by kernel_rfl)
noncomputable def ft46:Tr FI:=ft45.put 115 (some (ofFunc Try.f115))
theorem ft46Ok:FTok Try.prog ft46:=ft45Ok.add (by kernel_rfl) Try.func115 (by kernel_rfl) (by kernel_rfl)
noncomputable def ft47:Tr FI:=ft46.put 116 (some (ofFunc Try.f116))
theorem ft47Ok:FTok Try.prog ft47:=ft46Ok.add (by kernel_rfl) Try.func116 (by kernel_rfl) (by kernel_rfl)
noncomputable def ft48:Tr FI:=ft47.put 117 (some (ofFunc Try.f117))
theorem ft48Ok:FTok Try.prog ft48:=ft47Ok.add (by kernel_rfl) Try.func117 (by kernel_rfl) (by kernel_rfl)
noncomputable def ft49:Tr FI:=ft48.put 126 (some (ofFunc Try.f126))
theorem ft49Ok:FTok Try.prog ft49:=ft48Ok.add (by kernel_rfl) Try.func126 (by kernel_rfl) (by kernel_rfl)
noncomputable def ft50:Tr FI:=ft49.put 127 (some (ofFunc Try.f127))
theorem ft50Ok:FTok Try.prog ft50:=ft49Ok.add (by kernel_rfl) Try.func127 (by kernel_rfl) (by kernel_rfl)
noncomputable def ft51:Tr FI:=ft50.put 140 (some (ofFunc Try.f140))
theorem ft51Ok:FTok Try.prog ft51:=ft50Ok.add (by kernel_rfl) Try.func140 (by kernel_rfl) (by kernel_rfl)
noncomputable def ft:Tr FI:=(.node none (.node none (.node none (.node none (.node none (.node none (.node none .nil (.node (some (ofFunc Try.f64)) .nil .nil)) .nil) (.node none (.node none .nil (.node (some (ofFunc Try.f80)) .nil .nil)) (.node none .nil (.node (some (ofFunc Try.f112)) .nil .nil)))) (.node (some (ofFunc Try.f8)) (.node none .nil (.node none .nil (.node (some (ofFunc Try.f104)) .nil .nil))) (.node (some (ofFunc Try.f24)) .nil .nil))) (.node none (.node none (.node none .nil (.node (some (ofFunc Try.f36)) .nil .nil)) (.node none .nil (.node (some (ofFunc Try.f52)) .nil (.node (some (ofFunc Try.f116)) .nil .nil)))) (.node (some (ofFunc Try.f12)) (.node none (.node none (.node none .nil (.node (some (ofFunc Try.f140)) .nil .nil)) .nil) .nil) (.node none .nil (.node (some (ofFunc Try.f60)) .nil .nil))))) (.node none (.node none (.node none (.node none (.node none .nil (.node (some (ofFunc Try.f66)) .nil .nil)) (.node (some (ofFunc Try.f34)) .nil .nil)) (.node (some (ofFunc Try.f18)) (.node none .nil (.node (some (ofFunc Try.f82)) .nil .nil)) (.node (some (ofFunc Try.f50)) .nil (.node (some (ofFunc Try.f114)) .nil .nil)))) (.node none (.node none .nil (.node none .nil (.node (some (ofFunc Try.f106)) .nil .nil))) (.node none .nil (.node (some (ofFunc Try.f58)) .nil .nil)))) (.node none (.node none .nil (.node none (.node none .nil (.node (some (ofFunc Try.f86)) .nil .nil)) (.node (some (ofFunc Try.f54)) .nil .nil))) (.node none (.node none (.node none .nil (.node (some (ofFunc Try.f78)) .nil .nil)) .nil) (.node none .nil (.node none .nil (.node (some (ofFunc Try.f126)) .nil .nil))))))) (.node none (.node none (.node none (.node none (.node none (.node none .nil (.node (some (ofFunc Try.f65)) .nil .nil)) (.node (some (ofFunc Try.f33)) .nil .nil)) (.node none (.node none .nil (.node (some (ofFunc Try.f81)) .nil .nil)) (.node none .nil (.node (some (ofFunc Try.f113)) .nil .nil)))) (.node none (.node none .nil (.node none .nil (.node (some (ofFunc Try.f105)) .nil .nil))) (.node none (.node none .nil (.node (some (ofFunc Try.f89)) .nil .nil)) .nil))) (.node none (.node none (.node none .nil (.node (some (ofFunc Try.f37)) .nil .nil)) (.node none (.node none .nil (.node (some (ofFunc Try.f85)) .nil .nil)) (.node (some (ofFunc Try.f53)) .nil (.node (some (ofFunc Try.f117)) .nil .nil)))) (.node (some (ofFunc Try.f13)) (.node none .nil (.node (some (ofFunc Try.f45)) .nil (.node (some (ofFunc Try.f109)) .nil .nil))) (.node none .nil (.node (some (ofFunc Try.f61)) .nil .nil))))) (.node none (.node none (.node none (.node none (.node none .nil (.node (some (ofFunc Try.f67)) .nil .nil)) (.node none .nil (.node (some (ofFunc Try.f99)) .nil .nil))) (.node (some (ofFunc Try.f19)) .nil (.node (some (ofFunc Try.f51)) .nil (.node (some (ofFunc Try.f115)) .nil .nil)))) (.node (some (ofFunc Try.f11)) (.node none .nil (.node none .nil (.node (some (ofFunc Try.f107)) .nil .nil))) (.node none .nil (.node (some (ofFunc Try.f59)) .nil .nil)))) (.node none (.node none (.node none .nil (.node none .nil (.node (some (ofFunc Try.f103)) .nil .nil))) (.node none .nil (.node (some (ofFunc Try.f55)) .nil .nil))) (.node none (.node none (.node none .nil (.node (some (ofFunc Try.f79)) .nil .nil)) (.node none .nil (.node (some (ofFunc Try.f111)) .nil .nil))) (.node none .nil (.node none .nil (.node (some (ofFunc Try.f127)) .nil .nil))))))))
theorem ftOk:FTok Try.prog ft:=(show ft51=ft by kernel_rfl) ▸ ft51Ok
section
noncomputable def dr4:=drD Try.prog ft 16 4
noncomputable def sub4:Sub:=exSub (fun f=>exStep Try.prog ft f (drD Try.prog ft 16 3)) ft 16
theorem mix:Try.prog.follows .mixedOrders=true:=by kernel_rfl
theorem dr4Ok:DrOk Try.prog dr4:=zl0 mix ftOk 16 4
theorem sub4Ok:LoudOk Try.prog sub4:=loudOk ftOk (fun fid cs w0 γ s m hM=>zcb ftOk (zl0 mix ftOk 16 3) hM) 16
theorem bc_t {α:Type} (x y:α):bc true x y=x:=rfl
theorem bc_f {α:Type} (x y:α):bc false x y=y:=rfl
theorem nn_ok (b:Bool):bc b true (bc b false true)=true:=by cases b <;> rfl
theorem dt {p:Prop} [Decidable p] (h:p):decide p=true:=decide_eq_true h
theorem df {p:Prop} [Decidable p] (h:¬ p):decide p=false:=decide_eq_false h
theorem bltD {a b:Nat} (h:a<b):Nat.blt a b=true:=by unfold Nat.blt;exact Nat.ble_eq_true_of_le h
theorem bltN {a b:Nat} (h:¬ a<b):Nat.blt a b=false:=by
 cases e:Nat.blt a b with
 | false=>rfl
 | true=>exact absurd (zad e) h
theorem zwd {a b:Nat} (h:a≤b):Nat.ble a b=true:=Nat.ble_eq_true_of_le h
theorem bleN {a b:Nat} (h:¬ a≤b):Nat.ble a b=false:=by
 cases e:Nat.ble a b with
 | false=>rfl
 | true=>exact absurd (Nat.le_of_ble_eq_true e) h
theorem beqD {a b:Nat} (h:a=b):Nat.beq a b=true:=by subst h;exact Nat.beq_refl a
theorem ofn (n:Nat):Int.ofNat n=(n:Int):=rfl
theorem zvf (i:Nat):Int.toNat (i:Int)=i:=Int.toNat_natCast i
theorem zae (x:Int) (h1:-4611686018427387904≤x) (h2:x<4611686018427387904):IntKind.i64.wrap x=x:=IntWalk.i64_in _ (by omega)
theorem zav {α:Type} {l:List α} {d:α} {i:Nat} (h:i<l.length):l.getD i d=l[i]:=by rw [List.getD_eq_getElem?_getD,List.getElem?_eq_getElem h];rfl
noncomputable def ent (f:FuncId) (args:List EV):EF:=Option.rec ⟨f,0,.nil,[],[],none,false⟩ (fun e=>e) (exEnter ft f args)
noncomputable def st0 (f:FuncId) (args:List EV):ES:=⟨ent f args,[],.nil,0⟩
noncomputable abbrev iv (n:Int):EV:=.v (.int .i64 n)
noncomputable abbrev bv (b:Bool):EV:=.v (.bool b)
noncomputable abbrev il (l:List Int):EV:=.lst (.ints .i64 l)
noncomputable def RZs (f:FuncId) (ct:Tr ZCC) (ps:PLs) (lk:List Nat) (own:Bool) (s:ES):ZF:=runZ (stepZ Try.prog ft f dr4 sub4 ct) (atPs ps) (endP lk ps own) 600 s
noncomputable abbrev RZ (f:FuncId) (ct:Tr ZCC) (p:ES→Bool) (lk:List Nat) (ls:List SZ) (own:Bool) (s:ES):ZF:=RZs f ct [(p,ls)] lk own s
theorem leadsZ {f:FuncId} {ct:Tr ZCC} (hct:ZCtsOk Try.prog ct) {ps:PLs} {lk:List Nat} {own:Bool} {s:ES} {r:NS} (h:RZs f ct ps lk own s = .at r):LeadsZ Try.prog s (stOf r):=
 leadsF (f:=f) mix ftOk dr4Ok sub4Ok hct zpo h
theorem callsZ {γ:G} {w:World} {f:FuncId} {ct:Tr ZCC} (hct:ZCtsOk Try.prog ct) {ps:PLs} {lk:List Nat} {own:Bool} {s:ES} {args:List EV} {us:Array Value} {a:EV} {K:List (Nat×EK)} {n':Nat} (he:(exEnter ft f args).isSome=true) (hargs:ECL γ args us.toList) (hN:∀ i,γ i=none) (hfz:FzAt γ w)
  (hl:LeadsZ Try.prog (st0 f args) s) (hd:RZs f ct ps lk own s = .done a K n') :
  Calls Try.prog f us w fun e w'=>∃ γ' x,e = .returned x∧EC γ' a x∧HR γ' (Bs.ofG w γ) (mkT K) n' w':=by
 obtain ⟨e,he⟩:=Option.isSome_iff_exists.1 he;have:ent f args=e:=by unfold ent;rw [he]
 unfold st0 at hl;rw [this] at hl;exact callsF mix ftOk dr4Ok sub4Ok hct zpo he hargs hN hfz hl hd
def Weak (a a':EV):Prop:=∀ γ x,EC γ a x→EC γ a' x
theorem Weak.refl (a:EV):Weak a a:=fun _ _ h=>h
theorem Weak.nil (sh:List Sh):Weak (.v (.slice none 0 0)) (.lst (.recs sh [])):=fun γ x h=>by
 rw [ec_v h];exact .lst _ _ (.empty _ _ none 0 rfl (Nat.zero_le _) fun _=>rfl)
theorem Weak.nilI (k:IntKind):Weak (.v (.slice none 0 0)) (.lst (.ints k [])):=fun γ x h=>by
 rw [ec_v h];exact .lst _ _ (.empty _ _ none 0 rfl (Nat.zero_le _) fun _=>rfl)
inductive WeakL:List EV→List EV→Prop
 | nil:WeakL [] []
 | cons {a b:EV} {l r:List EV} (h:Weak a b) (t:WeakL l r):WeakL (a::l) (b::r)
theorem WeakL.ok {γ:G}:∀ {l r:List EV} {vs:List Value},WeakL l r→ECL γ l vs→ECL γ r vs
 | _,_,vs,.nil,h=>h
 | _,_,vs,.cons h t,k=>by
  obtain ⟨x,ys,rfl,h1,h2⟩:=ECL.inv k;exact ECL.cons (h _ _ h1) (t.ok h2)
theorem Weak.tup {l r:List EV} (h:WeakL l r):Weak (.tup l) (.tup r):=fun γ x k=>by
 cases k with
 | tup _ vs h1 h2=>have:=h.ok (γ:=γ) ⟨h1,h2⟩;exact .tup _ vs this.1 this.2
theorem Weak.trans {a b c:EV} (h:Weak a b) (k:Weak b c):Weak a c:=fun γ x e=>k γ x (h γ x e)
def EndZ (f:FuncId) (ct:Tr ZCC) (own:Bool) (s:ES) (a:EV) (K:List (Nat×EK)) (n:Nat):Prop:=∃ ps lk s' a',LeadsZ Try.prog s s'∧RZs f ct ps lk own s' = .done a' K n∧Weak a' a
theorem EndZ.done {f:FuncId} {ct:Tr ZCC} {own:Bool} {s:ES} {a:EV} {K:List (Nat×EK)} {n:Nat} {ps:PLs} {lk:List Nat} (h:RZs f ct ps lk own s = .done a K n):EndZ f ct own s a K n:=⟨ps,lk,s,a,LeadsZ.refl s,h,Weak.refl a⟩
theorem EndZ.weak {f:FuncId} {ct:Tr ZCC} {own:Bool} {s:ES} {a b:EV} {K:List (Nat×EK)} {n:Nat} (h:EndZ f ct own s a K n) (k:Weak a b):EndZ f ct own s b K n:=by
 obtain ⟨ps,lk,t,a',h1,h2,h3⟩:=h;exact ⟨ps,lk,t,a',h1,h2,h3.trans k⟩
theorem EndZ.lead {f:FuncId} {ct:Tr ZCC} {own:Bool} {s s':ES} {a:EV} {K:List (Nat×EK)} {n:Nat} (h:LeadsZ Try.prog s s') (k:EndZ f ct own s' a K n):EndZ f ct own s a K n:=by
 obtain ⟨ps,lk,t,a',h1,h2,h3⟩:=k;exact ⟨ps,lk,t,a',h.trans h1,h2,h3⟩
theorem EndZ.at {f:FuncId} {ct:Tr ZCC} (hct:ZCtsOk Try.prog ct) {own own':Bool} {s:ES} {r:NS} {a:EV} {K:List (Nat×EK)} {n:Nat} {ps:PLs} {lk:List Nat} (h:RZs f ct ps lk own' s = .at r) (k:EndZ f ct own (stOf r) a K n):EndZ f ct own s a K n:=k.lead (leadsZ hct h)
theorem EndZ.calls {γ:G} {w:World} {f:FuncId} {ct:Tr ZCC} {own:Bool} {args:List EV} {a:EV} {K:List (Nat×EK)} {n':Nat} (h:EndZ f ct own (st0 f args) a K n') (hct:ZCtsOk Try.prog ct) {us:Array Value} (he:(exEnter ft f args).isSome=true) (hargs:ECL γ args us.toList) (hN:∀ i,γ i=none) (hfz:FzAt γ w) :
  Calls Try.prog f us w fun e w'=>∃ γ' x,e = .returned x∧EC γ' a x∧HR γ' (Bs.ofG w γ) (mkT K) n' w':=by
 obtain ⟨ps,lk,t,a',h1,h2,h3⟩:=h;refine (callsZ hct he hargs hN hfz h1 h2).mono fun e w' ⟨γ',x,k1,k2,k3⟩=>⟨γ',x,k1,h3 γ' x k2,k3⟩
noncomputable def st0m (f:FuncId) (args:List EV) (K0:List (Nat×EK)) (m:Nat):ES:=⟨ent f args,[],mkT K0,m⟩
noncomputable def RMs (k:Nat) (f:FuncId) (ct:Tr ZCC) (ps:PLs) (lk:List Nat) (nl:NLs) (s:ES):ZF:=runZ (stepZ Try.prog ft f dr4 sub4 ct) (atPs ps) (endM k lk ps nl) 600 s
theorem leadsMZ {k:Nat} {f:FuncId} {ct:Tr ZCC} (hct:ZCtsOk Try.prog ct) {ps:PLs} {lk:List Nat} {s:ES} {r:NS} {nl:NLs} (h:RMs k f ct ps lk nl s = .at r):LeadsM Try.prog k s (stOf r):=
 leadsM (f:=f) mix ftOk dr4Ok sub4Ok hct h
def EndM (k:Nat) (f:FuncId) (ct:Tr ZCC) (s:ES) (a:EV) (K:List (Nat×EK)) (n:Nat):Prop:=∃ ps lk nl s',LeadsM Try.prog k s s'∧RMs k f ct ps lk nl s' = .done a K n
theorem EndM.done {k:Nat} {f:FuncId} {ct:Tr ZCC} {s:ES} {a:EV} {K:List (Nat×EK)} {n:Nat} {ps:PLs} {lk:List Nat} {nl:NLs} (h:RMs k f ct ps lk nl s = .done a K n):EndM k f ct s a K n:=⟨ps,lk,nl,s,LeadsM.refl k s,h⟩
theorem EndM.lead {k:Nat} {f:FuncId} {ct:Tr ZCC} {s s':ES} {a:EV} {K:List (Nat×EK)} {n:Nat} (h:LeadsM Try.prog k s s') (g:EndM k f ct s' a K n):EndM k f ct s a K n:=by
 obtain ⟨ps,lk,nl,t,h1,h2⟩:=g;exact ⟨ps,lk,nl,t,h.trans h1,h2⟩
theorem EndM.at {k:Nat} {f:FuncId} {ct:Tr ZCC} (hct:ZCtsOk Try.prog ct) {s:ES} {r:NS} {a:EV} {K:List (Nat×EK)} {n:Nat} {ps:PLs} {lk:List Nat} {nl:NLs} (h:RMs k f ct ps lk nl s = .at r) (g:EndM k f ct (stOf r) a K n):EndM k f ct s a K n:=g.lead (leadsMZ hct h)
theorem EndM.calls {k:Nat} {γ:G} {w0:Bs} {w:World} {f:FuncId} {ct:Tr ZCC} {args:List EV} {K0:List (Nat×EK)} {m0:Nat} {a:EV} {K:List (Nat×EK)} {n':Nat} (h:EndM k f ct (st0m f args K0 m0) a K n') (hct:ZCtsOk Try.prog ct) {us:Array Value} (he:(exEnter ft f args).isSome=true) (hres:∀ i,¬ w0.res i) (hargs:ECL γ args us.toList) (hH:HR γ w0 (mkT K0) m0 w) :
  Calls Try.prog f us w fun e w'=>∃ γ' x,e = .returned x∧EC γ' a x∧HR γ' w0 (mkT K) n' w'∧∀ j p,j<k→γ j=some p→γ' j=some p:=by
 obtain ⟨ps,lk,nl,t,h1,h2⟩:=h;obtain ⟨e,he⟩:=Option.isSome_iff_exists.1 he;have:ent f args=e:=by unfold ent;rw [he]
 unfold st0m at h1;rw [this] at h1;exact callsM mix ftOk dr4Ok sub4Ok hct he hres hargs hH h1 h2
theorem bc_b (b:Bool):bc b true false=b:=by cases b <;> rfl
theorem zu5 {α:Type} (b:Bool) (x:α):bc b x x=x:=by cases b <;> rfl
noncomputable def ZMT.or (a b:ZMT):ZMT:=fun ax K m=>match a ax K m with
 | some r=>some r
 | none=>b ax K m
theorem ZMtOk.or {P:Program} {g:FuncId} {a b:ZMT} (ha:ZMtOk P g a) (hb:ZMtOk P g b):ZMtOk P g (a.or b):=fun γ w0 w us ax K0 m r hs=>by
 unfold ZMT.or at hs;split at hs
 ·rename_i r' hr;injection hs with hs;subst hs
  exact ha γ w0 w us ax K0 m _ hr
 ·exact hb γ w0 w us ax K0 m r hs
noncomputable def ZCT.or (a b:ZCT):ZCT:=fun ax=>match a ax with
 | some r=>some r
 | none=>b ax
theorem ZCtOk.or {P:Program} {g:FuncId} {a b:ZCT} (ha:ZCtOk P g a) (hb:ZCtOk P g b):ZCtOk P g (a.or b):=fun γ w us ax r hs=>by
 unfold ZCT.or at hs;split at hs
 ·rename_i r' hr;injection hs with hs;subst hs
  exact ha γ w us ax _ hr
 ·exact hb γ w us ax r hs
theorem noN {α:Type} {x r:α} {b:Bool} (h:bc b (some x) none=some r):b=true∧x=r:=by
 cases b
 ·cases h
 ·exact ⟨rfl,Option.some.inj h⟩
set_option linter.defProp false in
def yS:=And.intro @Nat.add_eq (And.intro @zpj (And.intro @zr2 (And.intro @zu5 (And.intro @List.length_cons.{0} (And.intro @ofn (And.intro @zae (And.intro @dt (And.intro @df (And.intro @bltD (And.intro @bltN (And.intro @zwd (And.intro @bleN (And.intro @beqD (And.intro @bc_t (And.intro @bc_f (And.intro @nn_ok (And.intro @Nat.zero_add (And.intro @zvf (And.intro @Int.zero_add (And.intro @Int.sub_zero (And.intro @Int.sub_self (And.intro @Int.cast_ofNat_Int (And.intro @Int.natCast_zero (And.intro @Int.toNat_zero (And.intro @List.take_zero.{0} (And.intro @List.nil_append.{0} (And.intro @List.length_append.{0} (@List.length_nil.{0}))))))))))))))))))))))))))))
end
end Go.Proofs.Ytfffbioafhppiaa.Ev
namespace Go.Proofs
open Go.Shelf
def Try.laysNm215_ren:Go.Shelf.Ren:=⟨fun|15=>79|n=>n,fun|22=>22|3=>3|4=>4|n=>n,fun|n=>n⟩
theorem Try.laysNm215:Go.Proofs.Lays2.n15 Try.prog Try.laysNm215_ren:={
 mixed:=by kernel_rfl
 f15:=Try.func79.trans (congrArg some (by kernel_rfl))
 t3:=Try.underlying3
 a3:=Try.isAgg3
 z3:=Try.sizeOf3
 v3:=Try.zeroValue3
 t4:=Try.underlying4
 a4:=Try.isAgg4
 z4:=Try.sizeOf4
 v4:=Try.zeroValue4
 t22:=Try.underlying22
 a22:=Try.isAgg22
 z22:=Try.sizeOf22
 v22:=Try.zeroValue22
 i3:=by kernel_rfl }
open Go.RowKit Go.Lib in
theorem Try.slices_Clone_int_nil (n c:Nat) (w:World) :
  Calls Try.prog 79 #[.slice none n c] w fun e w'=>e = .returned (.slice none 0 0)∧w'=w:=Any.slices_Clone_int_nil Try.laysNm215 n c w
open Go.RowKit Go.Lib in
theorem Try.slices_Clone_int_zero (a:Addr) (c:Nat) (w:World) :
  Calls Try.prog 79 #[.slice (some a) 0 c] w fun e w'=>∃ v',e = .returned v'∧w'.ownsRow w.heap.size 3 1 v' 0 []∧v' ≠ .slice none 0 0∧Below w.heap.size w w':=Any.slices_Clone_int_zero Try.laysNm215 a c w
def Try.laysSlH10_f78_ren:Go.Shelf.Ren:=⟨fun|10=>78|6=>126|n=>n,fun|22=>22|23=>3|25=>83|3=>3|4=>4|0=>0|n=>n,fun|n=>n⟩
theorem Try.laysSlH10_f78:Go.Proofs.SlLaysH.n10 Try.prog Try.laysSlH10_f78_ren:={
 mixed:=by kernel_rfl
 f6:=⟨Try.f126.name,by decide,Try.func126.trans (congrArg some (by kernel_rfl))⟩
 f10:=⟨Try.f78.name,by decide,Try.func78.trans (congrArg some (by kernel_rfl))⟩
 t0:=Try.underlying0
 a0:=Try.isAgg0
 z0:=Try.sizeOf0
 v0:=Try.zeroValue0
 t3:=Try.underlying3
 a3:=Try.isAgg3
 z3:=Try.sizeOf3
 v3:=Try.zeroValue3
 t4:=Try.underlying4
 a4:=Try.isAgg4
 z4:=Try.sizeOf4
 v4:=Try.zeroValue4
 t22:=Try.underlying22
 a22:=Try.isAgg22
 z22:=Try.sizeOf22
 v22:=Try.zeroValue22
 a23:=Try.isAgg3
 z23:=Try.sizeOf3
 t25:=Try.underlying83
 a25:=Try.isAgg83
 z25:=Try.sizeOf83
 v25:=Try.zeroValue83 }
open Go.RowKit Go.Lib Go.Sort in
theorem Try.slices_DeleteFunc {α:Type} [Inhabited α] (enc:α→Value) (hO:OneCell enc) (p:α→Bool) (g:Nat) (lb:Array Value) (eg:∀ args w,(callFunc g args).run Try.prog w = .ok (.enter g args) w) (zr:α) (v23:∀ w,(zeroValue 3).run Try.prog w = .ok (enc zr) w) (blk off cap:Nat) (d:Array α) (w:World) (hp:PredAt Try.prog g lb enc p w) (hpo:PredOver Try.prog g lb enc p blk off d.size w) (hH:Holds enc w blk off d) (hsz:d.size≤9223372036854775807) (hcap:d.size≤cap) :
  Calls Try.prog 78 #[.slice (some ⟨blk,off,none⟩) d.size cap,.func (.func g) #[] lb] w fun e w'=>e = .returned (.slice (some ⟨blk,off,none⟩) (d.toList.filter fun x=>!p x).length cap)∧∃ q,w'=putRow enc (Sort.ahead w q) blk off ((d.toList.filter fun x=>!p x)++List.replicate (d.size-(d.toList.filter fun x=>!p x).length) zr).toArray:=AnyE.slices_DeleteFunc Try.laysSlH10_f78 enc hO p g lb eg zr v23 blk off cap d w hp hpo hH hsz hcap
end Go.Proofs
namespace Go.Proofs.Ytfffbioafhppiaa.Ev
section
open Go.RowKit
variable {P:Program} {γ γ':G} {w0:Bs} {w w':World} {H H':Tr EK} {n n':Nat}
theorem HR.below (h:HR γ w0 H n w) (b:Below w.heap.size w w'):HR γ w0 H n w':=by
 refine ⟨fun i k hk=>?_,h.inj0,h.fresh,h.rsv,fun i p e=>Nat.lt_of_lt_of_le (h.lt i p e) b.size,?_,h.fzq rfl (fun k hk _=>b.block k hk) (fun i ki b m hi ni ei=>.inr ⟨i,ki,b,m,hi,ni,ei,rfl⟩) fun _ _ hk _=>hk⟩
 ·refine (h.hp0 i k hk).imp id fun ⟨c,m,h1,h2,h3⟩=>?_;exact ⟨c,m,h1,h2,EK.ok_mono (GLe.refl γ) (b.block c.k (h.lt i _ h1)) h3⟩
 ·refine ⟨b.os.trans h.stays.os,b.tape.trans h.stays.tape,b.output.trans h.stays.output,Nat.le_trans h.stays.size b.size,fun k hk=>?_⟩;have h1:=w0.lt k hk;have h2:=h.stays.size;exact (b.block k (by omega)).trans (h.stays.block k hk)
end
end Go.Proofs.Ytfffbioafhppiaa.Ev

namespace Go.Proofs.Ytfffbioafhppiaa.Ev
section
open Go.Proofs Go.RowKit Go.Sort
theorem zbr (k:IntKind) (l:List Int):(SyC.ints k l).enc=l.map fun x=>EV.v (.int k x):=rfl
theorem HR.putInts {γ:G} {w0:Bs} {H:Tr EK} {n:Nat} {w:World} (h:HR γ w0 H n w) {i:Nat} (hi:Nat.ble i 65535=true) {ty:TypeId} {k:IntKind} {l l':List Int} {nn:Bool} (hg:H.get i=some (.seq ty (.ints k l) nn)) {b:Pl} {m:Nat} (hγ:γ i=some (b,m)) (hl:l'.length=l.length) (hn:¬ (EK.seq ty (.ints k l) nn).Nil) (q:Nat) :
  HR γ w0 (H.put i (some (.seq ty (.ints k l') nn))) n (Go.Sort.putRow (Value.int k) (Go.Sort.ahead w q) b.k b.s l'.toArray):=by
 obtain ⟨b2,m2,e1,e2,ca,⟨fz,e3,e3'⟩,e4,e5,e6⟩:=h.hp i _ hg hn;rw [hγ] at e1;simp only [Option.some.injEq,Prod.mk.injEq] at e1;obtain ⟨rfl,rfl⟩:=e1;have hw:∀ c,(Go.Sort.putRow (Value.int k) (Go.Sort.ahead w q) b.k b.s l'.toArray).heap[c]? = if b.k=c then some (.cells (Go.Sort.putCells (Value.int k) b.s l'.toArray ca) ty fz) else w.heap[c]?:=fun c=>by
  unfold Go.Sort.putRow Go.Sort.mapBlock;show (w.heap.modify b.k _)[c]? = _;rw [Array.getElem?_modify]
  by_cases hc:b.k=c
  ·subst hc;rw [if_pos rfl,if_pos rfl,e3];rfl
  ·rw [if_neg hc,if_neg hc]
 have hsz:(Go.Sort.putRow (Value.int k) (Go.Sort.ahead w q) b.k b.s l'.toArray).heap.size=w.heap.size:=by
  unfold Go.Sort.putRow Go.Sort.mapBlock;show (w.heap.modify b.k _).size=_;simp [Go.Sort.ahead]
 have hcs:(Go.Sort.putCells (Value.int k) b.s l'.toArray ca).size=ca.size:=by unfold Go.Sort.putCells;simp
 have hle:(SyC.ints k l').enc.length=(SyC.ints k l).enc.length:=by rw [zbr,zbr,List.length_map,List.length_map,hl]
 refine h.turn hi hg hγ _ (fun c hc=>by rw [hw,if_neg (fun e=>hc e.symm)]) hsz rfl rfl rfl ?_ hn;refine ⟨_,⟨fz,by rw [hw,if_pos rfl],e3'.imp id fun e=>by rw [hcs];exact e⟩,by rw [hcs];exact e4,by rw [hle];exact e5,?_,?_⟩
 ·have hcl:(Go.Sort.putCells (Value.int k) b.s l'.toArray ca).toList.length=ca.size:=(Array.length_toList).trans hcs;rw [List.length_take,List.length_drop,hcl,hle];omega
 ·intro j a x ha hx;rw [zbr,List.getElem?_map] at ha;have hj:j<l'.length:=by
   rcases Nat.lt_or_ge j l'.length with hj|hj
   ·exact hj
   ·rw [List.getElem?_eq_none hj] at ha;cases ha
  rw [List.getElem?_eq_getElem hj] at ha;injection ha with ha
  subst ha;rw [List.getElem?_take,if_pos (by rw [zbr,List.length_map];exact hj),List.getElem?_drop,Array.getElem?_toList] at hx;unfold Go.Sort.putCells at hx;rw [Array.getElem?_mapIdx] at hx;have hlt:b.s+j<ca.size:=by
   rw [zbr,List.length_map] at e5;omega
  rw [Array.getElem?_eq_getElem hlt] at hx;simp only [Option.map_some,Option.some.injEq] at hx;rw [if_pos ⟨by omega,by simp;omega⟩] at hx;have:l'.toArray[b.s+j-b.s]! = l'[j]:=by
   rw [show b.s+j-b.s=j by omega];simp [hj]
  rw [this] at hx;subst hx;exact .v _
end
section
def numL (x:Int):Int:=if 1000<x then x-1000 else if x<0 then -x else x
def isPn (x:Int):Bool:=decide (1000<x)
def tchL (x y:Int):Bool:=decide (-1≤numL x-numL y)&&decide (numL x-numL y≤1) && !(isPn x&&isPn y)
def ofNs (L:List Nat):List Int:=L.map fun (y:Nat)=>(y:Int)
theorem zdy (L:List Nat):(ofNs L).length=L.length:=List.length_map ..
theorem zg2 (L M:List Nat):ofNs (L++M)=ofNs L++ofNs M:=List.map_append
variable {l:List Int} {i m:Nat} {out:List Nat} {q:List Bool} {C P:Nat→List Int}
theorem zfn {α:Type} (p:α→Bool) (L:List α) (x:α):(L++[x]).filter p=L.filter p++(if p x then [x] else []):=by
 rw [List.filter_append];congr 1
 by_cases h:p x=true
 ·rw [if_pos h,List.filter_cons_of_pos h];rfl
 ·rw [if_neg h,List.filter_cons_of_neg h];rfl
theorem zub {x:Int} (h:isPn x=false) (h2:isPn (-x)=false):numL (-x)=numL x:=by
 unfold isPn at h h2;have h:=of_decide_eq_false h;have h2:=of_decide_eq_false h2;unfold numL;rw [if_neg h,if_neg h2];split <;> split <;> omega
end
section
open Go.Proofs Go.RowKit Go.Sort
theorem zjq (x:Int) (W:World):Calls Try.prog 80 #[.int .i64 x] W fun e w'=>e = .returned (.bool (isPn x))∧∃ q,w'=W.drewN q:=by
 have h:Calls Try.prog 80 #[.int .i64 x] W fun e w'=>e = .returned (.bool (decide (x > 1000)))∧w'=W:=by
  go_enter Try.func80,Try.ntmps80
  go_wp2
  go_ret
  exact ⟨rfl,rfl⟩
 refine h.mono ?_
 rintro e w' ⟨rfl,rfl⟩
 exact ⟨rfl,0,rfl⟩
theorem zii:Enters Try.prog 80:=enters_of Try.func80 (by kernel_rfl) rfl
theorem zrq:∀ w,(zeroValue 3).run Try.prog w = .ok (Value.int .i64 0) w:=Try.zeroValue3
def nop (l:List Int):List Int:=l.filter fun x=>!isPn x
theorem zsn (l:List Int):(nop l).length≤l.length:=List.length_filter_le _ _
noncomputable def spDlf:ZMT:=fun ax K0 m=>match ax,K0 with
 | [.slO 0 1 len nn,.fn g []],[(0,.seq ty (.ints .i64 l) nn')]=>bc (Nat.beq g 80) (bc (Nat.beq m 1) (some ⟨bc (Nat.beq len l.length) (bc (Nat.ble len 65536) (bc nn nn' false) false) false,.lst (.ints .i64 (nop l)),[],1,0⟩) none) none
 | _,_=>none
theorem zq8:ZMtOk Try.prog 78 spDlf:=fun γ w0 w us ax K0 m r hs hc hres hax hH=>by
 unfold spDlf at hs;split at hs
 case h_2=>cases hs
 rename_i len nn g ty l nn';rw [bc_eq] at hs;split at hs
 case isFalse=>cases hs
 rename_i hg0;obtain ⟨hm,rfl⟩:=noN hs;have hg0:=Nat.eq_of_beq_eq_true hg0;have hm:=Nat.eq_of_beq_eq_true hm;subst hm;subst hg0;obtain ⟨hc1,hc2⟩:=bcT (show bc (Nat.beq len l.length) (bc (Nat.ble len 65536) (bc nn nn' false) false) false=true from hc)
 obtain ⟨hc2,hc3⟩:=bcT hc2;obtain ⟨hn1,hn2⟩:=bcT hc3;have hc1:=Nat.eq_of_beq_eq_true hc1;have hc2:=Nat.le_of_ble_eq_true hc2;subst hc1;subst hn1;subst hn2;obtain ⟨x,r1,e1,hx,hcr⟩:=ECL.inv hax;obtain ⟨y,r2,e2,hy,hcr2⟩:=ECL.inv hcr;have e3:r2=[]:=by apply List.eq_nil_of_length_eq_zero;have:=hcr2.1;simpa using this.symm
 subst e3;have eu:us = #[x,y]:=by apply Array.ext';rw [e1,e2]
 rw [eu]
 cases hy with
 | fn _ _ vs hvl hvv=>
 have ev:vs=[]:=List.eq_nil_of_length_eq_zero hvl.symm;subst ev;have hg:(mkT [(0,EK.seq ty (.ints .i64 l) true)]).get 0=some (.seq ty (.ints .i64 l) true):=rfl
 cases hx with
 | slO _ _ _ _ _ hx=>
 obtain ⟨b,mm,c,g1,rfl,g2,g3,g4⟩:=hx.2 rfl;have hn:¬ (EK.seq ty (.ints .i64 l) true).Nil:=fun e=>by cases e.1
 obtain ⟨b2,m2,q1,q2,ca,q3,q4,q5,q6⟩:=hH.hp 0 _ hg hn;rw [g1] at q1;simp only [Option.some.injEq,Prod.mk.injEq] at q1;obtain ⟨rfl,rfl⟩:=q1;have hholds:Go.Sort.Holds (Value.int .i64) w b.k b.s l.toArray:=fun j hj=>by
  have hj:j<l.length:=by simpa using hj
  obtain ⟨c1,c2⟩:=zag (off:=j) q3;have hlt:b.s+j<ca.size:=by rw [zbr,List.length_map] at q5;omega
  refine ⟨?_,c2 hlt⟩;rw [show (⟨b.k,b.s+j,none⟩:Addr)=b.at j from rfl,c1,Array.getElem?_eq_getElem hlt]
  have h1:=q6.2 j (.v (.int .i64 l[j])) ca[b.s+j] (by rw [zbr,List.getElem?_map,List.getElem?_eq_getElem hj];rfl) (by
   rw [List.getElem?_take,if_pos (by rw [zbr,List.length_map];exact hj),List.getElem?_drop,Array.getElem?_toList,Array.getElem?_eq_getElem hlt])
  rw [ec_v h1];simp [hj]
 have hgive:∀ (W:World) (z:Int),FnGives Try.prog 80 #[] #[Value.int .i64 z] (.bool (isPn z)) W:=fun W z=>by
  show Calls Try.prog 80 (#[Value.int .i64 z] ++ #[]) W _;rw [Array.append_empty];exact zjq z W
 have hcall:=Try.slices_DeleteFunc (α:=Int) (Value.int .i64) (by intro _;rfl) isPn 80 #[] (fun args w=>zii args w) 0 zrq b.k b.s c l.toArray w (fun W z _=>hgive W z) (fun n os dk z _=>hgive _ z) hholds (by simp;omega) (by simpa using g2);have hsz:l.toArray.size=l.length:=by simp
 rw [hsz] at hcall;refine hcall.mono ?_
 rintro e w' ⟨rfl,q,rfl⟩
 have hle:=zsn l;have h1:=hH.putInts (l':=nop l++List.replicate (l.length-(nop l).length) 0) rfl hg g1 (by
  rw [List.length_append,List.length_replicate];omega) hn q
 have h2:=h1.recast (i:=0) (by rfl) (k:=.seq ty (.ints .i64 (nop l)) true) (by rw [Tr.get_put (by rfl),if_pos rfl]) (fun e=>by cases e.1) fun b m hk=>by
  obtain ⟨c',z1,z2,z3,z4⟩:=hk;refine ⟨c',z1,z2,?_,?_⟩
  ·rw [zbr,List.length_map] at z3 ⊢;rw [List.length_append] at z3;omega
  ·rw [zbr] at z4 ⊢;rw [List.map_append] at z4;rw [List.length_append,List.length_map,List.length_map] at z4;rw [List.length_map];refine ⟨by
    have h9:=z4.1;rw [List.length_append,List.length_map,List.length_map,List.length_take,List.length_drop] at h9;rw [List.length_map,List.length_take,List.length_drop];omega,fun j a y ha hy=>?_⟩
   have hj:j<(nop l).length:=by
    rcases Nat.lt_or_ge j (nop l).length with hj|hj
    ·exact hj
    ·rw [List.getElem?_eq_none (by rw [List.length_map];exact hj)] at ha;cases ha
   refine z4.2 j a y (by rw [List.getElem?_append_left (by rw [List.length_map];exact hj)];exact ha) ?_;rw [List.getElem?_take] at hy ⊢;rw [if_pos hj] at hy;rw [if_pos (by omega)];exact hy
 obtain ⟨γ',f1,f2,f3⟩:=h2.freeze (i:=0) (by rfl) (ty:=ty) (c:=.ints .i64 (nop l)) (nn:=true) (nn':=true) (by rw [Tr.get_put (by rfl),if_pos rfl]) (Nat.one_pos) (x:=.slice (some ⟨b.k,b.s,none⟩) (nop l).length c)
  (.slO 0 1 _ true _ ⟨fun e=>(by cases e),fun _=>⟨b,mm,c,g1,rfl,(by show (nop l).length≤c;omega),g3,g4⟩⟩)
 refine ⟨γ',_,rfl,f3,?_,fun j p hj _=>by cases hj⟩;exact f2.congr fun j k hj=>by have:=zcv hj;cases this
end
section
open Go.RowKit
variable {P:Program} {γ γ':G} {w0:Bs} {w w':World} {H H':Tr EK} {n n':Nat}
theorem HR.start (hN:∀ i,γ i=none) (hfz:FzAt γ w):HR γ (Bs.ofG w γ) .nil 0 w:=
 ⟨(fun i k hk=>by cases hk),(fun i j ki kj hi=>by cases hi),(fun i _=>hN i),(fun i hi=>hi.elim),(fun i p hp=>by rw [hN i] at hp;cases hp),⟨rfl,rfl,rfl,Nat.le_refl _,fun _ _=>rfl⟩,FZ.init hfz⟩
end
section
open Go.Proofs Go.RowKit
noncomputable def spClo0:ZCT:=fun ax=>match ax with
 | [.lst (.ints .i64 l)]=>some ⟨Nat.beq l.length 0,.lst (.ints .i64 []),[],0⟩
 | _=>none
theorem zn1:ZCtOk Try.prog 79 spClo0:=fun γ w us ax r hs hc hax hN hfz=>by
 unfold spClo0 at hs;split at hs
 case h_2=>cases hs
 rename_i l;obtain ⟨rfl⟩:=Option.some.inj hs;have hc:Nat.beq l.length 0=true:=hc;obtain rfl:l=[]:=List.eq_nil_of_length_eq_zero (Nat.eq_of_beq_eq_true hc);obtain ⟨x,r1,e1,hx,hc1⟩:=ECL.inv hax;have e3:r1=[]:=by apply List.eq_nil_of_length_eq_zero;have:=hc1.1;simpa using this.symm
 subst e3;have eu:us = #[x]:=by apply Array.ext';simpa using e1
 rw [eu];have hx:UOk γ.fz (.list [.int .i64]) (.l []) x:=by
  cases hx with
  | lst c x h=>exact h
 have hx':∃ a c,x = .slice a 0 c:=by
  obtain ⟨a,c,h⟩:=hx.slice;exact ⟨a,c,h⟩
 obtain ⟨a,c,rfl⟩:=hx'
 cases a with
 | none=>
  refine (Try.slices_Clone_int_nil 0 c w).mono ?_
  rintro e w' ⟨rfl,rfl⟩
  exact ⟨γ,_,rfl,.lst _ _ (.empty _ _ none 0 rfl (Nat.zero_le _) fun _=>rfl),HR.start hN hfz⟩
 | some a=>
  refine (Try.slices_Clone_int_zero a c w).mono ?_
  rintro e w' ⟨v',rfl,h1,h2,hb⟩
  rcases h1.2 with h3|⟨g,cap,cur,rfl,_,_,_,h4,_⟩
  ·exact absurd h3.1 h2
  ·exact ⟨γ,_,rfl,.lst _ _ (.empty _ _ _ cap rfl h4 fun h=>by cases h),(HR.start hN hfz).below hb⟩
end
theorem zpv {P:Program} {f:FuncId} {γ:G} {w:World} {us:Array Value} (h:Calls P f #[] w fun e w'=>e = .returned (.bool true)∧Stays w w') (hax:ECL γ [] us.toList) (hfz:FzAt γ w):Calls P f us w fun e w'=>∃ γ' x,e = .returned x∧EC γ' (bv true) x∧HR γ' (Bs.ofG w γ) (mkT (zseqs [])) 0 w':=by
 have hu:us = #[]:=by
  have:=hax.1;apply Array.toList_inj.1;exact List.eq_nil_of_length_eq_zero this.symm
 subst hu;refine h.mono ?_
 rintro e w' ⟨rfl,hs⟩
 refine ⟨⟨fun _=>none,γ.fz,fun _ _ _=>none⟩,_,rfl,.v _,⟨(fun i k hk=>by cases hk),(fun i j ki kj hi=>by cases hi),(fun _ _=>rfl),(fun i hi=>hi.elim),(fun i p hp=>by cases hp),⟨hs.os,hs.tape,hs.output,hs.size,hs.block⟩,⟨fun k a hk=>?_,fun k hk=>hk,.none (fun _ _ _ p e=>by cases (show (none:Option (Nat×Nat×Nat))=some p from e)) (fun i k hi=>by cases hi)⟩⟩⟩
 obtain ⟨ty,fz,h1⟩:=hfz k a hk;have hk2:=(Array.getElem?_eq_some_iff.1 h1).1;exact ⟨⟨ty,fz,(hs.block k hk2).trans h1⟩,.inl ⟨a,hk⟩,fun i ki b m hi=>by cases hi⟩
noncomputable def spTrue:ZCT:=fun ax=>match ax with
 | []=>some ⟨true,bv true,[],0⟩
 | _=>none
theorem znv {P:Program} {f:FuncId} (h:∀ w,Calls P f #[] w fun e w'=>e = .returned (.bool true)∧Stays w w'):ZCtOk P f spTrue:=fun γ w us ax r hs hc hax hN hfz=>by
 unfold spTrue at hs;split at hs
 case h_2=>cases hs
 obtain ⟨rfl⟩:=Option.some.inj hs;exact zpv (h w) hax hfz
theorem zv1 {P:Program} {f:FuncId} {γ:G} {w:World} {us:Array Value} {K:List (Nat×EK)} {n:Nat} (h:Calls P f us w fun e w'=>∃ γ' x,e = .returned x∧EC γ' (bv true) x∧HR γ' (Bs.ofG w γ) (mkT K) n w'):Calls P f us w fun e w'=>e = .returned (.bool true)∧Stays w w':=h.mono fun e w' ⟨γ',x,h1,h2,h3⟩=>⟨by rw [h1,ec_v h2],staysOf h3.stays⟩
noncomputable def badH (t x:Int):Bool:=bc (decide (x ≤ -t)) true (bc (x==0) true (bc (decide (t≤x)) (bc (decide (x≤1000)) true (decide (1000+t≤x))) false))
noncomputable def anyI (p:Int→Bool):List Int→Bool
 | []=>false
 | x::l=>bc (p x) true (anyI p l)
noncomputable def chkL (t:Int) (l:List Int):Int:=bc (decide (t<2)) 2 (bc (decide (48<t)) 2 (bc (decide (2000<(l.length:Int))) 3 (bc (anyI (badH t) l) 7 0)))
def In64 (l:List Int):Prop:=∀ j,j<l.length → -9223372036854775808≤l.getD j 0∧l.getD j 0≤9223372036854775807
noncomputable instance In64.dec (l:List Int):Decidable (In64 l):=Classical.propDecidable _
theorem w64 {x:Int} (h:-9223372036854775808≤x∧x≤9223372036854775807):IntKind.wrap IntKind.i64 x=x:=IntWalk.i64_in _ h
theorem eqF {x y:Int} (h:x≠y):(x==y)=false:=by simp [h]
theorem eqT {x y:Int} (h:x=y):(x==y)=true:=by simp [h]
namespace PChL
noncomputable def RUN (s:ES):ZF:=RZ 52 .nil (atS 0 52 6) [] [[(1,none),(19,none),(20,none),(21,none)]] false s
noncomputable def sC (t:Int) (l:List Int) (i:Int):NS:=⟨[⟨52,44,[(1,(EV.ptr 0 0)),(19,(il l)),(20,(iv (Int.ofNat (List.length l)))),(21,iv i)],[.it (.code (nav [1,1,1,0,1,0,0] (bodyOf Try.f52))),.it (.inLoop (nav [1,1,1,0,1,0,0] (bodyOf Try.f52))),.it (.inBlock 0),.it (.code (nav [1,1,1,1] (bodyOf Try.f52)))],[],Option.none⟩],[(0,(EK.cells 24 [(iv t),(il l)] true))],1⟩
theorem in_t (t:Int) (l:List Int):RUN (st0 52 [.agg [iv t,il l]])=(bc (decide (t<2)) (.done (iv (2)) [] 0) (bc (decide (48<t)) (.done (iv (2)) [] 0) (bc (decide (2000<Int.ofNat l.length)) (.done (iv (3)) [] 0) (.at (sC t l 0))))):=by kernel_rfl
theorem step_t (t:Int) (l:List Int) (i:Int):RUN (stOf (sC t l i))=(bc (decide (i<Int.ofNat l.length)) (bc (bc (bc (decide (0≤i)) (Nat.blt i.toNat l.length) false) true false) (bc (bc (Nat.blt i.toNat l.length) true false) (bc (decide (1000<l.getD i.toNat 0)) (bc (l.getD i.toNat 0==0) (.done (iv (7)) [] 0) (bc (decide (l.getD i.toNat 0<(-48:Int))) (.done (iv (7)) [] 0) (bc (decide (IntKind.i64.wrap (l.getD i.toNat 0-(1000:Int))<1)) (.done (iv (7)) [] 0) (bc (decide (t≤IntKind.i64.wrap (l.getD i.toNat 0-(1000:Int)))) (.done (iv (7)) [] 0) (.at (sC t l (IntKind.i64.wrap (i+1)))))))) (bc (decide (l.getD i.toNat 0<0)) (bc (l.getD i.toNat 0==0) (.done (iv (7)) [] 0) (bc (decide (l.getD i.toNat 0<(-48:Int))) (.done (iv (7)) [] 0) (bc (decide (IntKind.i64.wrap ((0:Int)-l.getD i.toNat 0)<1)) (.done (iv (7)) [] 0) (bc (decide (t≤IntKind.i64.wrap ((0:Int)-l.getD i.toNat 0))) (.done (iv (7)) [] 0) (.at (sC t l (IntKind.i64.wrap (i+1)))))))) (bc (l.getD i.toNat 0==0) (.done (iv (7)) [] 0) (bc (decide (l.getD i.toNat 0<(-48:Int))) (.done (iv (7)) [] 0) (bc (decide (l.getD i.toNat 0<1)) (.done (iv (7)) [] 0) (bc (decide (t≤l.getD i.toNat 0)) (.done (iv (7)) [] 0) (.at (sC t l (IntKind.i64.wrap (i+1)))))))))) .bad) .bad) (.done (iv (0)) [] 0)):=by kernel_rfl
theorem step {t:Int} {l:List Int} {i:Nat} (ht:2≤t∧t≤48) (hi:i<l.length) (hl:l.length≤3000) (hx:In64 l):RUN (stOf (sC t l i))=bc (badH t (l.getD i 0)) (.done (iv 7) [] 0) (.at (sC t l (i+1:Nat))):=by
 rw [step_t];have hx:=hx i hi;have e:(i:Int).toNat=i:=rfl;have e2:IntKind.i64.wrap ((i:Int)+1)=((i+1:Nat):Int):=by rw [w64 (by omega)];rfl
 have g1:decide ((i:Int)<Int.ofNat l.length)=true:=dt (show (i:Int)<(l.length:Int) by omega);have g2:decide (0≤(i:Int))=true:=dt (by omega);have g3:Nat.blt i l.length=true:=bltD hi;simp only [e,e2,g1,g2,g3,bc_t];unfold badH;generalize l.getD i 0=x at hx ⊢
 by_cases h1:1000<x
 ·have w:IntKind.i64.wrap (x-1000)=x-1000:=w64 (by omega);simp only [w,dt h1,eqF (show x≠0 by omega),df (show ¬ x < -48 by omega),df (show ¬ x-1000<1 by omega),df (show ¬ x ≤ -t by omega),dt (show t≤x by omega),df (show ¬ x≤1000 by omega),bc_t,bc_f]
  by_cases h2:t≤x-1000
  ·simp only [dt h2,dt (show 1000+t≤x by omega),bc_t]
  ·simp only [df h2,df (show ¬ 1000+t≤x by omega),bc_f]
 ·by_cases h2:x<0
  ·simp only [df h1,dt h2,eqF (show x≠0 by omega),bc_t,bc_f]
   by_cases h3:x < -48
   ·simp only [dt h3,dt (show x ≤ -t by omega),bc_t]
   ·have w:IntKind.i64.wrap (0-x)=0-x:=w64 (by omega);simp only [w,df h3,df (show ¬ 0-x<1 by omega),df (show ¬ t≤x by omega),bc_f]
    by_cases h4:t≤0-x
    ·simp only [dt h4,dt (show x ≤ -t by omega),bc_t]
    ·simp only [df h4,df (show ¬ x ≤ -t by omega),bc_f]
  ·simp only [df h1,df h2,df (show ¬ x < -48 by omega),df (show ¬ x ≤ -t by omega),dt (show x≤1000 by omega),bc_t,bc_f]
   by_cases h3:x=0
   ·simp only [eqT h3,bc_t]
   ·simp only [eqF h3,df (show ¬ x<1 by omega),bc_f]
    by_cases h4:t≤x
    ·simp only [dt h4,bc_t]
    ·simp only [df h4,bc_f]
theorem last {t:Int} {l:List Int} {i:Nat} (hi:l.length≤i):RUN (stOf (sC t l i)) = .done (iv 0) [] 0:=by
 rw [step_t];simp (disch:=omega) only [yS]
theorem loop {t:Int} {l:List Int} (ht:2≤t∧t≤48) (hl:l.length≤3000) (hx:In64 l):∀ (k i:Nat),i+k=l.length→EndZ 52 .nil false (stOf (sC t l i)) (iv (bc (anyI (badH t) (l.drop i)) 7 0)) [] 0
 | 0,i,h=>by
  rw [List.drop_eq_nil_of_le (by omega)];exact .done (last (by omega))
 | k+1,i,h=>by
  have hi:i<l.length:=by omega
  have hs:=step ht hi hl hx;rw [List.drop_eq_getElem_cons hi,← zav (d:=0) hi];unfold anyI;cases hb:badH t (l.getD i 0) <;> rw [hb] at hs
  ·exact .at (.nil _) hs (loop ht hl hx k (i+1) (by omega))
  ·exact .done hs
theorem ends (t:Int) (l:List Int) (hx:In64 l):EndZ 52 .nil false (st0 52 [.agg [iv t,il l]]) (iv (chkL t l)) [] 0:=by
 have h:=in_t t l;unfold chkL
 by_cases h1:t<2
 ·rw [dt h1,bc_t] at h ⊢;exact .done h
 by_cases h2:48<t
 ·rw [df h1,bc_f,dt h2,bc_t] at h ⊢;exact .done h
 by_cases h3:2000<(l.length:Int)
 ·simp only [df h1,df h2,ofn,dt h3,bc_t,bc_f] at h ⊢;exact .done h
 simp only [df h1,df h2,ofn,df h3,bc_t,bc_f] at h ⊢;exact .at (.nil _) h (loop ⟨by omega,by omega⟩ (by omega) hx l.length 0 (by omega))
end PChL
noncomputable def spPChL:ZCT:=fun ax=>match ax with
 | [.agg [.v (.int .i64 t),.lst (.ints .i64 l)]]=>some ⟨decide (In64 l),iv (chkL t l),[],0⟩
 | _=>none
theorem zh1:ZCtOk Try.prog 52 spPChL:=fun γ w us ax r hs hc hax hN hfz=>by
 unfold spPChL at hs;split at hs
 case h_2=>cases hs
 rename_i t l;obtain ⟨rfl⟩:=Option.some.inj hs;have hc_0:decide (In64 l)=true:=hc;have hc:=of_decide_eq_true hc_0;exact EndZ.calls (PChL.ends t l hc) (.nil _) (by kernel_rfl) hax hN hfz
namespace RChL
noncomputable def RUN (s:ES):ZF:=RZ 11 .nil (atS 0 11 6) [] [[(1,none),(3,none)]] false s
noncomputable def sR (t:Int) (l:List Int) (i:Int):NS:=⟨[⟨11,55,[(1,(EV.ptr 0 0)),(3,iv i)],[.it (.code (nav [1,1,1,0,1,0,0,0] (bodyOf Try.f11))),.it (.code (nav [1,1,1,0,1,0,0,1] (bodyOf Try.f11))),.it (.inLoop (nav [1,1,1,0,1,0,0] (bodyOf Try.f11))),.it (.inBlock 0),.it (.code (nav [1,1,1,1] (bodyOf Try.f11)))],[],Option.none⟩],[(0,(EK.cells 24 [(iv t),(il l)] true))],1⟩
theorem in_t (t:Int) (l:List Int):RUN (st0 11 [.agg [iv t,il l]])=(bc (decide (t<2)) (.done (iv (2)) [] 0) (bc (decide (48<t)) (.done (iv (2)) [] 0) (bc (decide (2000<Int.ofNat l.length)) (.done (iv (3)) [] 0) (.at (sR t l 0))))):=by kernel_rfl
theorem step_t (t:Int) (l:List Int) (i:Int):RUN (stOf (sR t l i))=(bc (decide (i<Int.ofNat l.length)) (bc (bc (bc (decide (0≤i)) (Nat.blt i.toNat l.length) false) true false) (bc (bc (Nat.blt i.toNat l.length) true false) (bc (decide (l.getD i.toNat 0≤IntKind.i64.wrap ((0:Int)-t))) (.done (iv (7)) [] 0) (bc (l.getD i.toNat 0==0) (.done (iv (7)) [] 0) (bc (decide (t≤l.getD i.toNat 0)) (bc (decide (l.getD i.toNat 0≤1000)) (.done (iv (7)) [] 0) (bc (decide (IntKind.i64.wrap (1000+t)≤l.getD i.toNat 0)) (.done (iv (7)) [] 0) (.at (sR t l (IntKind.i64.wrap (i+1)))))) (.at (sR t l (IntKind.i64.wrap (i+1))))))) .bad) .bad) (.done (iv (0)) [] 0)):=by kernel_rfl
theorem step {t:Int} {l:List Int} {i:Nat} (ht:2≤t∧t≤48) (hi:i<l.length) (hl:l.length≤3000):RUN (stOf (sR t l i))=bc (badH t (l.getD i 0)) (.done (iv 7) [] 0) (.at (sR t l (i+1:Nat))):=by
 rw [step_t];have e:Int.toNat (i:Int)=i:=rfl;have e2:IntKind.wrap IntKind.i64 ((i:Int)+1)=((i+1:Nat):Int):=by rw [w64 (by omega)];rfl
 have g1:decide ((i:Int)<Int.ofNat l.length)=true:=dt (show (i:Int)<(l.length:Int) by omega);have g2:decide ((0:Int)≤(i:Int))=true:=dt (by omega);have g3:Nat.blt i l.length=true:=bltD hi;have w1:IntKind.wrap IntKind.i64 (0-t) = -t:=by rw [w64 (by omega)];omega
 have w2:IntKind.wrap IntKind.i64 (1000+t)=1000+t:=w64 (by omega);simp only [e,e2,g1,g2,g3,w1,w2,bc_t];unfold badH;generalize l.getD i 0=x;cases decide (x ≤ -t)
 ·cases x==0
  ·cases decide (t≤x)
   ·rfl
   ·cases decide (x≤1000)
    ·cases decide (1000+t≤x) <;> rfl
    ·rfl
  ·rfl
 ·rfl
theorem last {t:Int} {l:List Int} {i:Nat} (hi:l.length≤i):RUN (stOf (sR t l i)) = .done (iv 0) [] 0:=by
 rw [step_t];simp (disch:=omega) only [yS]
theorem loop {t:Int} {l:List Int} (ht:2≤t∧t≤48) (hl:l.length≤3000):∀ (k i:Nat),i+k=l.length→EndZ 11 .nil false (stOf (sR t l i)) (iv (bc (anyI (badH t) (l.drop i)) 7 0)) [] 0
 | 0,i,h=>by
  rw [List.drop_eq_nil_of_le (by omega)];exact .done (last (by omega))
 | k+1,i,h=>by
  have hi:i<l.length:=by omega
  have hs:=step ht hi hl;rw [List.drop_eq_getElem_cons hi,← zav (d:=0) hi];unfold anyI;cases hb:badH t (l.getD i 0) <;> rw [hb] at hs
  ·exact .at (.nil _) hs (loop ht hl k (i+1) (by omega))
  ·exact .done hs
theorem ends (t:Int) (l:List Int):EndZ 11 .nil false (st0 11 [.agg [iv t,il l]]) (iv (chkL t l)) [] 0:=by
 have h:=in_t t l;unfold chkL
 by_cases h1:t<2
 ·rw [dt h1,bc_t] at h ⊢;exact .done h
 by_cases h2:48<t
 ·rw [df h1,bc_f,dt h2,bc_t] at h ⊢;exact .done h
 by_cases h3:2000<(l.length:Int)
 ·simp only [df h1,df h2,ofn,dt h3,bc_t,bc_f] at h ⊢;exact .done h
 simp only [df h1,df h2,ofn,df h3,bc_t,bc_f] at h ⊢;exact .at (.nil _) h (loop ⟨by omega,by omega⟩ (by omega) l.length 0 (by omega))
end RChL
noncomputable def spRChL:ZCT:=fun ax=>match ax with
 | [.agg [.v (.int .i64 t),.lst (.ints .i64 l)]]=>some ⟨decide (True),iv (chkL t l),[],0⟩
 | _=>none
theorem zny:ZCtOk Try.prog 11 spRChL:=fun γ w us ax r hs hc hax hN hfz=>by
 unfold spRChL at hs;split at hs
 case h_2=>cases hs
 rename_i t l;obtain ⟨rfl⟩:=Option.some.inj hs;have hc_0:decide (True)=true:=hc;have hc:=of_decide_eq_true hc_0;exact EndZ.calls (RChL.ends t l) (.nil _) (by kernel_rfl) hax hN hfz
end Go.Proofs.Ytfffbioafhppiaa.Ev







namespace Go.Proofs.Ytfffbioafhppiaa.Ev
noncomputable abbrev hE (t:Int) (l:List Int):EV:=.agg [iv t,il l]
end Go.Proofs.Ytfffbioafhppiaa.Ev

namespace Go.Proofs.Ytfffbioafhppiaa.Ev
section
variable {l:List Int} {out:List Nat}
theorem zk8 {L:List Nat} {j:Nat} (h:j<L.length):(ofNs L).getD j 0=((L.getD j 0:Nat):Int):=by
 unfold ofNs;rw [List.getD_eq_getElem?_getD,List.getD_eq_getElem?_getD,List.getElem?_map,List.getElem?_eq_getElem h];rfl
end
end Go.Proofs.Ytfffbioafhppiaa.Ev

namespace Go.Proofs.Ytfffbioafhppiaa.Ev
section
variable {l:List Int}
end
end Go.Proofs.Ytfffbioafhppiaa.Ev

namespace Go.Proofs.Ytfffbioafhppiaa.Ev
theorem ztq {x:Int} (h:isPn x=false) (h2:isPn (-x)=false) (y:Int):tchL y (-x)=tchL y x:=by
 unfold tchL;rw [zub h h2,h,h2]
def rmL (x:Int):List Int→Option (List Int)
 | []=>none
 | y::q=>if tchL y x=true then (if y = -x∧isPn x=false∧isPn y=false then some q else none) else (rmL x q).map (y :: ·)
def stpL (q:List Int) (x:Int):List Int:=(rmL x q).getD (x::q)
def redL (q w:List Int):List Int:=w.foldl stpL q
inductive Tq:List Int→List Int→Prop
 | refl (q:List Int):Tq q q
 | swap (u v:Int) (q:List Int) (h:tchL u v=false):Tq (u::v::q) (v::u::q)
 | cons (y:Int) {q q':List Int} (h:Tq q q'):Tq (y::q) (y::q')
 | trans {a b c:List Int} (h:Tq a b) (k:Tq b c):Tq a c
theorem Tq.len {a b:List Int} (h:Tq a b):a.length=b.length:=by
 induction h with
 | refl q=>rfl
 | swap u v q h=>rfl
 | cons y _ ih=>rw [List.length_cons,List.length_cons,ih]
 | trans _ _ h k=>rw [h,k]
theorem rm_t {x y:Int} {q:List Int} (h:tchL y x=true):rmL x (y::q)=if y = -x∧isPn x=false∧isPn y=false then some q else none:=by
 show (if tchL y x=true then _ else _)=_
 rw [if_pos h]
theorem rm_f {x y:Int} {q:List Int} (h:tchL y x=false):rmL x (y::q)=(rmL x q).map (y :: ·):=by
 show (if tchL y x=true then _ else _)=_
 rw [if_neg (by rw [h];simp)]
theorem zqs {x:Int} {q a:List Int} (h:rmL x q=some a):stpL q x=a:=by unfold stpL;rw [h];rfl
theorem zqt {x:Int} {q:List Int} (h:rmL x q=none):stpL q x=x::q:=by unfold stpL;rw [h];rfl
theorem rm_pn {x:Int}:∀ {q a:List Int},rmL x q=some a→isPn x=false∧isPn (-x)=false
 | [],_,h=>by cases h
 | y::q,a,h=>by
  cases hy:tchL y x with
  | true=>
   rw [rm_t hy] at h
   by_cases c:y = -x∧isPn x=false∧isPn y=false
   ·obtain ⟨rfl,c1,c2⟩:=c;exact ⟨c1,c2⟩
   ·rw [if_neg c] at h;cases h
  | false=>
   rw [rm_f hy] at h
   cases hq:rmL x q with
   | none=>rw [hq] at h;cases h
   | some b=>exact rm_pn hq
theorem zn9 {x:Int}:∀ {q a:List Int},rmL x q=some a→Tq q (-x::a)
 | [],_,h=>by cases h
 | y::q,a,h=>by
  obtain ⟨p1,p2⟩:=rm_pn h
  cases hy:tchL y x with
  | true=>
   rw [rm_t hy] at h
   by_cases c:y = -x∧isPn x=false∧isPn y=false
   ·rw [if_pos c] at h;obtain rfl:=Option.some.inj h;rw [c.1];exact .refl _
   ·rw [if_neg c] at h;cases h
  | false=>
   rw [rm_f hy] at h
   cases hq:rmL x q with
   | none=>rw [hq] at h;cases h
   | some b=>
    rw [hq] at h;obtain rfl:=Option.some.inj h;exact (Tq.cons y (zn9 hq)).trans (.swap y (-x) b (by rw [ztq p1 p2];exact hy))
section
variable {l:List Int}
end
section
def sw (i x:Nat):Nat:=if x=i then i-1 else if x+1=i then i else x
theorem sw_sw {i:Nat} (h:0<i) (x:Nat):sw i (sw i x)=x:=by
 unfold sw;repeat' split
 all_goals omega
structure Pm (n:Nat) where
 f:Nat→Nat
 g:Nat→Nat
 fg:∀ x,f (g x)=x
 gf:∀ x,g (f x)=x
 out:∀ x,n≤x→f x=x
namespace Pm
variable {n:Nat}
theorem inj (p:Pm n) {x y:Nat} (h:p.f x=p.f y):x=y:=by rw [← p.gf x,← p.gf y,h]
theorem injg (p:Pm n) {x y:Nat} (h:p.g x=p.g y):x=y:=by rw [← p.fg x,← p.fg y,h]
theorem outg (p:Pm n) (x:Nat) (h:n≤x):p.g x=x:=by
 have:=p.out x h;have h2:=p.gf x;rw [this] at h2;exact h2
theorem lt (p:Pm n) {x:Nat} (h:x<n):p.f x<n:=by
 rcases Nat.lt_or_ge (p.f x) n with h1|h1
 ·exact h1
 ·have h2:=p.outg _ h1;rw [p.gf] at h2;omega
theorem ltg (p:Pm n) {x:Nat} (h:x<n):p.g x<n:=by
 rcases Nat.lt_or_ge (p.g x) n with h1|h1
 ·exact h1
 ·have h2:=p.out _ h1;rw [p.fg] at h2;omega
theorem ext {p q:Pm n} (h:∀ x,p.f x=q.f x):p=q:=by
 have h2:∀ x,p.g x=q.g x:=fun x=>by
  apply p.inj;rw [p.fg,h,q.fg]
 cases p;cases q;congr
 ·exact funext h
 ·exact funext h2
def L (i:Nat) (h:0<i∧i<n) (p:Pm n):Pm n:=⟨fun x=>p.f (sw i x),fun x=>sw i (p.g x),fun x=>by rw [sw_sw h.1,p.fg],fun x=>by rw [p.gf,sw_sw h.1],fun x hx=>by
 have:sw i x=x:=by unfold sw;rw [if_neg (by omega),if_neg (by omega)]
 rw [this];exact p.out x hx⟩
def R (i:Nat) (h:0<i∧i<n) (p:Pm n):Pm n:=⟨fun x=>sw i (p.f x),fun x=>p.g (sw i x),fun x=>by rw [p.fg,sw_sw h.1],fun x=>by rw [sw_sw h.1,p.gf],fun x hx=>by
 rw [p.out x hx];unfold sw;rw [if_neg (by omega),if_neg (by omega)]⟩
def beg (p:Pm n) (i:Nat):Prop:=p.f i<p.f (i-1)
def fin (p:Pm n) (i:Nat):Prop:=p.g i<p.g (i-1)
theorem nbeg {p:Pm n} {i:Nat} (h:0<i):¬ p.beg i↔p.f (i-1)<p.f i:=by
 unfold beg;constructor
 ·intro h1;rcases Nat.lt_or_ge (p.f (i-1)) (p.f i) with h2|h2
  ·exact h2
  ·have:p.f (i-1)=p.f i:=by omega
   have:=p.inj this;omega
 ·intro h1;omega
theorem nfin {p:Pm n} {i:Nat} (h:0<i):¬ p.fin i↔p.g (i-1)<p.g i:=by
 unfold fin;constructor
 ·intro h1;rcases Nat.lt_or_ge (p.g (i-1)) (p.g i) with h2|h2
  ·exact h2
  ·have:p.g (i-1)=p.g i:=by omega
   have:=p.injg this;omega
 ·intro h1;omega
theorem sw_lt {i x y:Nat} (h:0<i) (hxy:x<y) (hs:sw i y<sw i x):x+1=i∧y=i:=by
 unfold sw at hs
 repeat' split at hs
 all_goals omega
theorem sw_keep {i x y:Nat} (h:0<i) (hxy:x<y) (hn:¬ (x+1=i∧y=i)):sw i x<sw i y:=by
 unfold sw
 repeat' split
 all_goals omega
theorem fin_of_L {p:Pm n} {i j:Nat} (hi:0<i∧i<n) (hj:0<j) (hb:p.beg i) (h:(L i hi p).fin j):p.fin j:=by
 apply Classical.byContradiction;intro hn;have h1:=(nfin hj).1 hn;have h2:sw i (p.g j)<sw i (p.g (j-1)):=h;obtain ⟨h3,h4⟩:=sw_lt hi.1 h1 h2;have h5:p.f i=j:=by rw [← h4,p.fg]
 have h6:p.f (i-1)=j-1:=by rw [show i-1=p.g (j-1) by omega,p.fg]
 unfold beg at hb;omega
theorem beg_R {p:Pm n} {i j:Nat} (hj:0<j∧j<n) (hi:0<i) (hb:p.beg i) (hf:¬ p.fin j):(R j hj p).beg i:=by
 show sw j (p.f i)<sw j (p.f (i-1));apply sw_keep hj.1 hb
 rintro ⟨h1,h2⟩
 have h3:p.g j=i-1:=by rw [← h2,p.gf]
 have h4:p.g (j-1)=i:=by rw [show j-1=p.f i by omega,p.gf]
 have:=(nfin hj.1).1 hf;omega
end Pm
inductive Mv {n:Nat}:List (Pm n)→List (Pm n)→Prop
 | here (a b:Pm n) (l:List (Pm n)) (i:Nat) (hi:0<i∧i<n) (hb:b.beg i) (hf:¬ a.fin i):Mv (a::b::l) (a.R i hi::b.L i hi::l)
 | there (a:Pm n) {l m:List (Pm n)} (h:Mv l m):Mv (a::l) (a::m)
inductive Mvs {n:Nat}:List (Pm n)→List (Pm n)→Prop
 | refl (s:List (Pm n)):Mvs s s
 | step {s t u:List (Pm n)} (h:Mv s t) (k:Mvs t u):Mvs s u
variable {n:Nat}
theorem Mvs.trans {s t u:List (Pm n)} (h:Mvs s t) (k:Mvs t u):Mvs s u:=by
 induction h with
 | refl s=>exact k
 | step h _ ih=>exact .step h (ih k)
theorem Mvs.one {s t:List (Pm n)} (h:Mv s t):Mvs s t:=.step h (.refl _)
theorem Mvs.there (a:Pm n) {s t:List (Pm n)} (h:Mvs s t):Mvs (a::s) (a::t):=by
 induction h with
 | refl s=>exact .refl _
 | step h _ ih=>exact .step (.there a h) ih
theorem Mv.app {s t:List (Pm n)} (r:List (Pm n)) (h:Mv s t):Mv (s++r) (t++r):=by
 induction h with
 | here a b l i hi hb hf=>exact .here a b (l++r) i hi hb hf
 | there a _ ih=>exact .there a ih
theorem Mvs.app {s t:List (Pm n)} (r:List (Pm n)) (h:Mvs s t):Mvs (s++r) (t++r):=by
 induction h with
 | refl s=>exact .refl _
 | step h _ ih=>exact .step (h.app r) ih
theorem Mvs.pre (r:List (Pm n)) {s t:List (Pm n)} (h:Mvs s t):Mvs (r++s) (r++t):=by
 induction r with
 | nil=>exact h
 | cons a r ih=>exact ih.there a
theorem Mv.len {s t:List (Pm n)} (h:Mv s t):t.length=s.length:=by
 induction h with
 | here=>rfl
 | there a _ ih=>simp [ih]
theorem Mvs.len {s t:List (Pm n)} (h:Mvs s t):t.length=s.length:=by
 induction h with
 | refl=>rfl
 | step h _ ih=>rw [ih,h.len]
namespace Pm
theorem sw_comm {i j:Nat} (h:i+2≤j) (hi:0<i) (x:Nat):sw i (sw j x)=sw j (sw i x):=by
 unfold sw
 repeat' split
 all_goals omega
theorem sw_at (i:Nat):sw i i=i-1:=by unfold sw;rw [if_pos rfl]
theorem sw_pre {i:Nat} (h:0<i):sw i (i-1)=i:=by unfold sw;rw [if_neg (by omega),if_pos (by omega)]
theorem sw_ne {i x:Nat} (h1:x≠i) (h2:x+1≠i):sw i x=x:=by unfold sw;rw [if_neg h1,if_neg h2]
theorem sw_braid {i:Nat} (hi:0<i) (x:Nat):sw i (sw (i+1) (sw i x))=sw (i+1) (sw i (sw (i+1) x)):=by
 have s1:sw i (i+1)=i+1:=sw_ne (by omega) (by omega);have s2:sw (i+1) (i-1)=i-1:=sw_ne (by omega) (by omega);have s3:sw (i+1) (i+1)=i:=sw_at (i+1);have s4:sw (i+1) i=i+1:=sw_pre (i:=i+1) (by omega);have s5:=sw_at i;have s6:=sw_pre hi
 by_cases h1:x=i-1
 ·rw [h1,s6,s4,s1,s2,s6,s4]
 ·by_cases h2:x=i
  ·rw [h2,s5,s2,s6,s4,s1,s3]
  ·by_cases h3:x=i+1
   ·rw [h3,s1,s3,s5,s2]
   ·rw [sw_ne (i:=i) (x:=x) (by omega) (by omega),sw_ne (i:=i+1) (x:=x) (by omega) (by omega),sw_ne (i:=i) (x:=x) (by omega) (by omega),sw_ne (i:=i+1) (x:=x) (by omega) (by omega)]
theorem here2 (a b:Pm n) (l:List (Pm n)) {i j:Nat} (hi:0<i∧i<n) (hj:0<j∧j<n) (hij:i<j) (hb:b.beg i) (hb2:b.beg j) (hf:¬ a.fin i) (hf2:¬ a.fin j) :
  ∃ u,Mvs (a.R i hi::b.L i hi::l) u∧Mvs (a.R j hj::b.L j hj::l) u:=by
 have f1:=(nfin hi.1).1 hf;have f2:=(nfin hj.1).1 hf2;unfold beg at hb hb2
 by_cases h:i+2≤j
 ·refine ⟨(a.R i hi).R j hj::(b.L i hi).L j hj::l,.one (.here _ _ _ j hj ?_ ?_),?_⟩
  ·show b.f (sw i j)<b.f (sw i (j-1));rw [sw_ne (by omega) (by omega),sw_ne (by omega) (by omega)];exact hb2
  ·rw [nfin hj.1];show a.g (sw i (j-1))<a.g (sw i j);rw [sw_ne (by omega) (by omega),sw_ne (by omega) (by omega)];exact f2
  ·have e1:(a.R i hi).R j hj=(a.R j hj).R i hi:=ext fun x=>(sw_comm h hi.1 _).symm;have e2:(b.L i hi).L j hj=(b.L j hj).L i hi:=ext fun x=>by
    show b.f (sw i (sw j x))=b.f (sw j (sw i x));rw [sw_comm h hi.1]
   rw [e1,e2];refine .one (.here _ _ _ i hi ?_ ?_)
   ·show b.f (sw j i)<b.f (sw j (i-1));rw [sw_ne (by omega) (by omega),sw_ne (by omega) (by omega)];exact hb
   ·rw [nfin hi.1];show a.g (sw j (i-1))<a.g (sw j i);rw [sw_ne (by omega) (by omega),sw_ne (by omega) (by omega)];exact f1
 ·have hj2:j=i+1:=by omega
  subst hj2;rw [show i+1-1=i by omega] at f2 hb2;have s1:sw i (i+1)=i+1:=sw_ne (by omega) (by omega);have s2:sw (i+1) (i-1)=i-1:=sw_ne (by omega) (by omega);have s3:sw (i+1) (i+1)=i:=sw_at (i+1);have s4:sw (i+1) i=i+1:=sw_pre (i:=i+1) (by omega);have s5:=sw_at i;have s6:=sw_pre hi.1;refine ⟨((a.R i hi).R (i+1) hj).R i hi::((b.L i hi).L (i+1) hj).L i hi::l,.step (.here _ _ _ (i+1) hj ?_ ?_) (.one (.here _ _ _ i hi ?_ ?_)),?_⟩
  ·show b.f (sw i (i+1))<b.f (sw i i);rw [s1,s5];omega
  ·rw [nfin hj.1];show a.g (sw i i)<a.g (sw i (i+1));rw [s1,s5];omega
  ·show b.f (sw i (sw (i+1) i))<b.f (sw i (sw (i+1) (i-1)));rw [s4,s2,s1,s6];exact hb2
  ·rw [nfin hi.1];show a.g (sw i (sw (i+1) (i-1)))<a.g (sw i (sw (i+1) i));rw [s4,s2,s1,s6];exact f2
  ·have e1:((a.R i hi).R (i+1) hj).R i hi=((a.R (i+1) hj).R i hi).R (i+1) hj:=ext fun x=>sw_braid hi.1 _;have e2:((b.L i hi).L (i+1) hj).L i hi=((b.L (i+1) hj).L i hi).L (i+1) hj:=ext fun x=>by
    show b.f (sw i (sw (i+1) (sw i x)))=b.f (sw (i+1) (sw i (sw (i+1) x)));rw [sw_braid hi.1]
   rw [e1,e2];refine .step (.here _ _ _ i hi ?_ ?_) (.one (.here _ _ _ (i+1) hj ?_ ?_))
   ·show b.f (sw (i+1) i)<b.f (sw (i+1) (i-1));rw [s4,s2];omega
   ·rw [nfin hi.1];show a.g (sw (i+1) (i-1))<a.g (sw (i+1) i);rw [s4,s2];omega
   ·show b.f (sw (i+1) (sw i (i+1)))<b.f (sw (i+1) (sw i i));rw [s1,s5,s3,s2];exact hb
   ·rw [nfin hj.1];show a.g (sw (i+1) (sw i i))<a.g (sw (i+1) (sw i (i+1)));rw [s1,s5,s3,s2];exact f1
end Pm
theorem Mv.join {s t1 t2:List (Pm n)} (h:Mv s t1) (k:Mv s t2):∃ u,Mvs t1 u∧Mvs t2 u:=by
 induction h generalizing t2 with
 | here a b l i hi hb hf=>
  cases k with
  | here _ _ _ j hj hb2 hf2=>
   rcases Nat.lt_trichotomy i j with h|h|h
   ·exact Pm.here2 a b l hi hj h hb hb2 hf hf2
   ·subst h;exact ⟨_,.refl _,.refl _⟩
   ·obtain ⟨u,h1,h2⟩:=Pm.here2 a b l hj hi h hb2 hb hf2 hf;exact ⟨u,h2,h1⟩
  | there _ k=>
   cases k with
   | here _ c m j hj hb2 hf2=>exact ⟨a.R i hi::(b.L i hi).R j hj::c.L j hj::m,.one (.there _ (.here _ _ _ j hj hb2 (fun e=>hf2 (Pm.fin_of_L hi hj.1 hb e)))),.one (.here a (b.R j hj) _ i hi (Pm.beg_R hj hi.1 hb hf2) hf)⟩
   | there _ k=>exact ⟨a.R i hi::b.L i hi::_,.one (.there _ (.there _ k)),.one (.here a b _ i hi hb hf)⟩
 | there a h ih=>
  cases k with
  | here _ b l i hi hb hf=>
   cases h with
   | here _ c m j hj hb2 hf2=>exact ⟨a.R i hi::(b.L i hi).R j hj::c.L j hj::m,.one (.here a (b.R j hj) _ i hi (Pm.beg_R hj hi.1 hb hf2) hf),.one (.there _ (.here _ _ _ j hj hb2 (fun e=>hf2 (Pm.fin_of_L hi hj.1 hb e))))⟩
   | there _ k=>exact ⟨a.R i hi::b.L i hi::_,.one (.here a b _ i hi hb hf),.one (.there _ (.there _ k))⟩
  | there _ k=>
   obtain ⟨u,k1,k2⟩:=ih k;exact ⟨a::u,k1.there a,k2.there a⟩
def Sum (F:Nat→Nat):Nat→Nat
 | 0=>0
 | k+1=>Sum F k+F k
theorem zs3 {F G:Nat→Nat}:∀ k:Nat,(∀ x,x<k→F x=G x)→Sum F k=Sum G k
 | 0,_=>rfl
 | k+1,h=>by
  show Sum F k+F k=Sum G k+G k;rw [zs3 k (fun x hx=>h x (by omega)),h k (by omega)]
theorem zp2 {F G:Nat→Nat} {p:Nat}:∀ k:Nat,p<k→(∀ x,x<k→x≠p→F x=G x)→Sum F k+G p=Sum G k+F p
 | k+1,hp,h=>by
  show Sum F k+F k+G p=Sum G k+G k+F p
  by_cases e:p=k
  ·subst e;rw [zs3 (G:=G) p (fun x hx=>h x (by omega) (by omega))];omega
  ·have:=zp2 (F:=F) (G:=G) k (by omega) (fun x hx=>h x (by omega));rw [h k (by omega) (by omega)];omega
theorem zkf {F G:Nat→Nat} {p q:Nat}:∀ k:Nat,p<q→q<k→(∀ x,x<k→x≠p→x≠q→F x=G x)→Sum F k+G p+G q=Sum G k+F p+F q
 | k+1,hp,hq,h=>by
  show Sum F k+F k+G p+G q=Sum G k+G k+F p+F q
  by_cases e:q=k
  ·subst e;have:=zp2 (F:=F) (G:=G) q hp (fun x hx hn=>h x (by omega) hn (by omega));omega
  ·have:=zkf (F:=F) (G:=G) k hp (by omega) (fun x hx=>h x (by omega));rw [h k (by omega) (by omega) (by omega)];omega
theorem zs2 {F:Nat→Nat} {b:Nat}:∀ k:Nat,(∀ x,x<k→F x≤b)→Sum F k≤k*b
 | 0,_=>Nat.zero_le _
 | k+1,h=>by
  show Sum F k+F k≤_;have h1:=zs2 k (fun x hx=>h x (by omega));have h2:=h k (by omega);rw [Nat.succ_mul];omega
namespace Pm
def W (p:Pm n):Nat:=Sum (fun x=>x*p.f x) n
theorem W_le (p:Pm n):p.W≤n*(n*n):=zs2 n fun x hx=>Nat.mul_le_mul (by omega) (by have:=p.lt hx;omega)
theorem W_R (p:Pm n) {i:Nat} (hi:0<i∧i<n) (h:¬ p.fin i):(p.R i hi).W<p.W:=by
 have h1:=(nfin hi.1).1 h;have h2:=p.ltg hi.2;have h3:=zkf (F:=fun x=>x*(p.R i hi).f x) (G:=fun x=>x*p.f x) n h1 h2 (fun x hx n1 n2=>by
  show x*sw i (p.f x)=x*p.f x;rw [sw_ne (fun e=>n2 (by rw [← e,p.gf])) (fun e=>n1 (by rw [show i-1=p.f x by omega,p.gf]))])
 have e1:(p.R i hi).f (p.g (i-1))=i:=by show sw i (p.f (p.g (i-1)))=i;rw [p.fg,sw_pre hi.1]
 have e2:(p.R i hi).f (p.g i)=i-1:=by show sw i (p.f (p.g i))=_;rw [p.fg,sw_at]
 simp only [e1,e2,p.fg] at h3;show Sum _ n<Sum _ n;have m1:p.g (i-1)*i=p.g (i-1)*(i-1)+p.g (i-1):=by
  conv=>lhs;rw [show i=(i-1)+1 by omega]
  rw [Nat.mul_succ];rfl
 have m2:p.g i*i=p.g i*(i-1)+p.g i:=by
  conv=>lhs;rw [show i=(i-1)+1 by omega]
  rw [Nat.mul_succ,show i-1+1=i by omega]
 omega
end Pm
def mu:List (Pm n)→Nat
 | []=>0
 | a::l=>a.W*(n*(n*n)+1) ^ l.length+mu l
theorem mu_lt:∀ l:List (Pm n),mu l<(n*(n*n)+1) ^ l.length
 | []=>by simp [mu]
 | a::l=>by
  show a.W*_+mu l<(n*(n*n)+1) ^ (l.length+1);have h1:=mu_lt l;have h2:=a.W_le;have h3:=Nat.mul_le_mul_right ((n*(n*n)+1) ^ l.length) h2;rw [Nat.pow_succ,Nat.mul_comm _ (n*(n*n)+1),Nat.succ_mul];omega
theorem Mv.mu {s t:List (Pm n)} (h:Mv s t):Ev.mu t<Ev.mu s:=by
 induction h with
 | here a b l i hi hb hf=>
  show (a.R i hi).W*(n*(n*n)+1) ^ (l.length+1)+Ev.mu (b.L i hi::l)<a.W*(n*(n*n)+1) ^ (l.length+1)+Ev.mu (b::l);have h1:=mu_lt (b.L i hi::l);have h2:=a.W_R hi hf;have h3:=Nat.mul_le_mul_right ((n*(n*n)+1) ^ (l.length+1)) (Nat.succ_le_of_lt h2);rw [Nat.succ_mul] at h3;rw [List.length_cons] at h1;omega
 | there a h ih=>
  show a.W*_+_<a.W*_+_;rw [h.len];omega
def Nrm (s:List (Pm n)):Prop:=∀ t,¬ Mv s t
theorem zue {s t:List (Pm n)} (hs:Nrm s) (h:Mvs s t):t=s:=by
 cases h with
 | refl=>rfl
 | step h _=>exact absurd h (hs _)
theorem zig:∀ (k:Nat) (s:List (Pm n)),mu s≤k→∃ t,Mvs s t∧Nrm t
 | k,s,h=>by
  by_cases hs:Nrm s
  ·exact ⟨s,.refl _,hs⟩
  ·have hs:∃ t,Mv s t:=Classical.byContradiction fun e=>hs fun t ht=>e ⟨t,ht⟩;obtain ⟨t,ht⟩:=hs;have:=ht.mu
   match k with
   | 0=>omega
   | k+1=>
    obtain ⟨u,h1,h2⟩:=zig k t (by omega);exact ⟨u,.step ht h1,h2⟩
theorem zjg:∀ (k:Nat) (s:List (Pm n)),mu s≤k→∀ {t u:List (Pm n)},Mvs s t→Mvs s u→Nrm t→Nrm u→t=u
 | k,s,hk,t,u,h1,h2,n1,n2=>by
  cases h1 with
  | refl=>exact (zue n1 h2).symm
  | step m1 r1=>
   cases h2 with
   | refl=>exact absurd m1 (n2 _)
   | step m2 r2=>
    obtain ⟨v,j1,j2⟩:=m1.join m2;obtain ⟨w,w1,w2⟩:=zig _ v (Nat.le_refl _);have q1:=m1.mu;have q2:=m2.mu
    match k with
    | 0=>omega
    | k+1=>exact (zjg k _ (by omega) r1 (j1.trans w1) n1 w2).trans (zjg k _ (by omega) (j2.trans w1) r2 w2 n2)
noncomputable def NF (s:List (Pm n)):List (Pm n):=Classical.choose (zig (mu s) s (Nat.le_refl _))
theorem NF_mv (s:List (Pm n)):Mvs s (NF s):=(Classical.choose_spec (zig (mu s) s (Nat.le_refl _))).1
theorem zc0 (s:List (Pm n)):Nrm (NF s):=(Classical.choose_spec (zig (mu s) s (Nat.le_refl _))).2
theorem NF_of {s t:List (Pm n)} (h:Mvs s t) (k:Nrm t):NF s=t:=zjg _ s (Nat.le_refl _) (NF_mv s) h (zc0 s) k
theorem NF_eq {s t:List (Pm n)} (h:Mvs s t):NF t=NF s:=(NF_of (h.trans (NF_mv t)) (zc0 t)).symm
theorem zs6 (s:List (Pm n)):(NF s).length=s.length:=(NF_mv s).len
def Lw (a b:Pm n):Prop:=∀ i:Nat,0<i→i<n→b.beg i→a.fin i
theorem za9 {a b:Pm n} {l:List (Pm n)}:Nrm (a::b::l)↔Lw a b∧Nrm (b::l):=by
 constructor
 ·intro h;refine ⟨fun i h1 h2 hb=>Classical.byContradiction fun hf=>h _ (.here a b l i ⟨h1,h2⟩ hb hf),fun t ht=>h _ (.there a ht)⟩
 ·rintro ⟨h1,h2⟩ t ht
  cases ht with
  | here _ _ _ i hi hb hf=>exact hf (h1 i hi.1 hi.2 hb)
  | there _ h=>exact h2 _ h
theorem za8 (a:Pm n):Nrm [a]:=fun t ht=>by
 cases ht with
 | there _ h=>cases h
theorem zjh:Nrm ([]:List (Pm n)):=fun t ht=>by cases ht
structure Sl (a b a' b':Pm n):Prop where
 prod:∀ x,b'.f (a'.f x)=b.f (a.f x)
 inv:∀ x y,x<y→a.f y<a.f x→a'.f y<a'.f x
 sub:∀ x y,x<y→a'.f (a.g y)<a'.f (a.g x)→b.f y<b.f x
theorem Sl.refl (a b:Pm n):Sl a b a b:=⟨fun _=>rfl,fun _ _ _ h=>h,fun x y h k=>by rw [a.fg,a.fg] at k;omega⟩
theorem Sl.step {a b a' b':Pm n} {i:Nat} (hi:0<i∧i<n) (h:Sl a b a' b') (hb:b'.beg i) (hf:¬ a'.fin i):Sl a b (a'.R i hi) (b'.L i hi):=by
 refine ⟨fun x=>?_,fun x y hxy hx=>?_,fun x y hxy hx=>?_⟩
 ·show b'.f (sw i (sw i (a'.f x)))=_;rw [sw_sw hi.1];exact h.prod x
 ·have h1:=h.inv x y hxy hx;show sw i (a'.f y)<sw i (a'.f x);apply Pm.sw_keep hi.1 h1
  rintro ⟨e1,e2⟩
  have f1:=(Pm.nfin hi.1).1 hf;have g1:a'.g i=x:=by rw [← e2,a'.gf]
  have g2:a'.g (i-1)=y:=by rw [show i-1=a'.f y by omega,a'.gf]
  omega
 ·have hx:sw i (a'.f (a.g y))<sw i (a'.f (a.g x)):=hx;rcases Nat.lt_or_ge (a'.f (a.g y)) (a'.f (a.g x)) with h1|h1
  ·exact h.sub x y hxy h1
  ·have h2:a'.f (a.g x)<a'.f (a.g y):=by
    have:a'.f (a.g x)≠a'.f (a.g y):=fun e=>by
     have:=a.injg (a'.inj e);omega
    omega
   obtain ⟨e1,e2⟩:=Pm.sw_lt hi.1 h2 hx;have p1:=h.prod (a.g x);have p2:=h.prod (a.g y);rw [a.fg] at p1 p2;rw [← p1,← p2,e2,show a'.f (a.g x)=i-1 by omega];exact hb
theorem Mvs.pair {a b:Pm n}:∀ {s t:List (Pm n)},Mvs s t→∀ {a' b':Pm n},s=[a',b']→Sl a b a' b'→∃ c d,t=[c,d]∧Sl a b c d:=by
 intro s t h
 induction h with
 | refl s=>intro a' b' e k;exact ⟨a',b',e,k⟩
 | step h _ ih=>
  intro a' b' e k;subst e
  cases h with
  | here _ _ _ i hi hb hf=>exact ih rfl (k.step hi hb hf)
  | there _ h=>
   cases h with
   | there _ h=>cases h
theorem zp3 (a b:Pm n):∃ c d,NF [a,b]=[c,d]∧Sl a b c d∧Lw c d:=by
 obtain ⟨c,d,h1,h2⟩:=(NF_mv [a,b]).pair rfl (Sl.refl a b);have:=zc0 [a,b];rw [h1] at this;exact ⟨c,d,h1,h2,(za9.1 this).1⟩
theorem domino {a x p y p' a' w:Pm n} (h1:Lw a x) (s1:Sl x p y p') (l1:Lw y p') (s2:Sl a y a' w):Lw w p':=by
 intro i hi hin hb;apply Classical.byContradiction;intro hf;have f1:=(Pm.nfin hi).1 hf;have fy:=l1 i hi hin hb;unfold Pm.fin at fy
 -- v=a' after a⁻¹:y=w after v
 have hv:∀ z,w.f (a'.f (a.g z))=y.f z:=fun z=>by rw [s2.prod,a.fg]
 have vg:∀ z,a'.f (a.g (y.g z))=w.g z:=fun z=>by rw [← w.gf (a'.f (a.g (y.g z))),hv,y.fg]
 have iv:a'.f (a.g (y.g (i-1)))<a'.f (a.g (y.g i)):=by rw [vg,vg];exact f1
 -- u=y after x⁻¹:p=p' after u
 have hu:∀ z,p'.f (y.f (x.g z))=p.f z:=fun z=>by rw [s1.prod,x.fg]
 have ix:x.f (y.g (i-1))<x.f (y.g i):=by
  rcases Nat.lt_or_ge (x.f (y.g (i-1))) (x.f (y.g i)) with h|h
  ·exact h
  ·have h:x.f (y.g i)<x.f (y.g (i-1)):=by
    have:x.f (y.g i)≠x.f (y.g (i-1)):=fun e=>by
     have:=y.injg (x.inj e);omega
    omega
   have k:=s1.sub _ _ h (by rw [x.gf,x.gf,y.fg,y.fg];omega);rw [← hu,← hu,x.gf,x.gf,y.fg,y.fg] at k;unfold Pm.beg at hb;omega
 have yx:∀ s t,s<t→x.f t<x.f s→y.f t<y.f s:=s1.inv;have yv:∀ s t,s<t→a'.f (a.g t)<a'.f (a.g s)→y.f t<y.f s:=s2.sub
 -- a place where both begin
 have find:∀ k:Nat,k≤y.g (i-1)-y.g i→i≤y.f (y.g (i-1)-k)∨∃ j,y.g i<j∧j≤y.g (i-1)∧i≤y.f (j-1)∧y.f j<i:=by
  intro k hk;have:∀ m,m≤y.g (i-1)-y.g i→(∀ z,y.g i≤z→z≤y.g i+m→i≤y.f z)∨∃ j,y.g i<j∧j≤y.g (i-1)∧i≤y.f (j-1)∧y.f j<i:=by
   intro m
   induction m with
   | zero=>
    intro _;refine .inl fun z h1 h2=>?_;have:z=y.g i:=by omega
    rw [this,y.fg];exact Nat.le_refl _
   | succ m ih=>
    intro hm;rcases ih (by omega) with h|h
    ·by_cases e:y.f (y.g i+(m+1))<i
     ·exact .inr ⟨y.g i+(m+1),by omega,by omega,h _ (by omega) (by omega),e⟩
     ·refine .inl fun z h1 h2=>?_
      by_cases e2:z=y.g i+(m+1)
      ·rw [e2];omega
      ·exact h z h1 (by omega)
    ·exact .inr h
  rcases this (y.g (i-1)-y.g i) (Nat.le_refl _) with h|h
  ·exact .inl (h _ (by omega) (by omega))
  ·exact .inr h
 obtain ⟨j,j1,j2,j3,j4⟩:∃ j,y.g i<j∧j≤y.g (i-1)∧i≤y.f (j-1)∧y.f j<i:=by
  rcases find 0 (by omega) with h|h
  ·rw [Nat.sub_zero,y.fg] at h;omega
  ·exact h
 have key:∀ q:Nat→Nat,(∀ s t,s<t→q t<q s→y.f t<y.f s)→(∀ s t,q s=q t→s=t)→q (y.g (i-1))<q (y.g i)→q j<q (j-1):=by
  intro q hq hqi hq2;have r1:q (y.g i)≤q (j-1):=by
   rcases Nat.lt_or_ge (q (j-1)) (q (y.g i)) with h|h
   ·have hne:y.g i≠j-1:=fun e=>by rw [e] at h;omega
    have:=hq (y.g i) (j-1) (by omega) h;rw [y.fg] at this;omega
   ·exact h
  have r2:q j≤q (y.g (i-1)):=by
   rcases Nat.lt_or_ge (q (y.g (i-1))) (q j) with h|h
   ·have hne:j≠y.g (i-1):=fun e=>by rw [e] at h;omega
    have:=hq j (y.g (i-1)) (by omega) h;rw [y.fg] at this;have hne2:y.f j≠i-1:=fun e=>hne (by rw [← e,y.gf]);omega
   ·exact h
  omega
 have bx:x.f j<x.f (j-1):=key x.f yx (fun s t e=>x.inj e) ix;have bv:a'.f (a.g j)<a'.f (a.g (j-1)):=key (fun z=>a'.f (a.g z)) yv (fun s t e=>a.injg (a'.inj e)) iv;have hjn:j<n:=by
  have:=y.ltg (show i-1<n by omega);omega
 have fa:=h1 j (by omega) hjn bx;unfold Pm.fin at fa;have:=s2.inv (a.g j) (a.g (j-1)) fa (by rw [a.fg,a.fg];omega);omega
end
section
variable {n:Nat}
namespace Pm
def one (n:Nat):Pm n:=⟨fun x=>x,fun x=>x,fun _=>rfl,fun _=>rfl,fun _ _=>rfl⟩
def rv (n x:Nat):Nat:=if x<n then n-1-x else x
theorem rv_rv (n x:Nat):rv n (rv n x)=x:=by
 unfold rv
 by_cases h:x<n
 ·rw [if_pos h,if_pos (by omega)];omega
 ·rw [if_neg h,if_neg h]
def del (n:Nat):Pm n:=⟨rv n,rv n,rv_rv n,rv_rv n,fun x h=>by unfold rv;rw [if_neg (by omega)]⟩
def trn (p:Pm n):Pm n:=⟨fun x=>rv n (p.f (rv n x)),fun x=>rv n (p.g (rv n x)),fun x=>by rw [rv_rv,p.fg,rv_rv],fun x=>by rw [rv_rv,p.gf,rv_rv],fun x h=>by
 have:rv n x=x:=by unfold rv;rw [if_neg (by omega)]
 rw [this,p.out x h,this]⟩
theorem trn_trn (p:Pm n):p.trn.trn=p:=ext fun x=>by
 show rv n (rv n (p.f (rv n (rv n x))))=_;rw [rv_rv,rv_rv]
theorem del_fin {i:Nat} (h:0<i) (h2:i<n):(del n).fin i:=by
 show rv n i<rv n (i-1);unfold rv;rw [if_pos h2,if_pos (by omega)];omega
theorem one_beg (i:Nat) (h:0<i):¬ (one n).beg i:=by
 rw [nbeg h];show i-1<i;omega
theorem inc_id {f:Nat→Nat} (hf:∀ x,x<n→f x<n) (h:∀ i,0<i→i<n→f (i-1)<f i):∀ x,x<n→f x=x:=by
 have lo:∀ x,x<n→x≤f x:=by
  intro x
  induction x with
  | zero=>intro _;exact Nat.zero_le _
  | succ x ih=>
   intro hx;have h1:=ih (by omega);have h2:=h (x+1) (by omega) hx;rw [Nat.add_sub_cancel] at h2;omega
 have hi:∀ d x,x+d=n→0<d→f x≤x:=by
  intro d
  induction d with
  | zero=>intro x _ h0;omega
  | succ d ih=>
   intro x hx _
   by_cases hd:d=0
   ·have:=hf x (by omega);omega
   ·have h1:=ih (x+1) (by omega) (by omega);have h2:=h (x+1) (by omega) (by omega);rw [Nat.add_sub_cancel] at h2;omega
 intro x hx;have:=lo x hx;have:=hi (n-x) x (by omega) (by omega);omega
theorem one_of {p:Pm n} (h:∀ i,0<i→i<n→¬ p.beg i):p=one n:=ext fun x=>by
 by_cases hx:x<n
 ·exact inc_id (fun x h=>p.lt h) (fun i h1 h2=>(nbeg h1).1 (h i h1 h2)) x hx
 ·exact p.out x (by omega)
theorem del_of {p:Pm n} (h:∀ i,0<i→i<n→p.fin i):p=del n:=by
 have key:∀ x,p.g x=rv n x:=by
  intro x
  by_cases hx:x<n
  ·have h1:=inc_id (n:=n) (f:=fun y=>p.g (n-1-y)) (fun y hy=>p.ltg (by omega)) (fun i h1 h2=>by
    have h3:=h (n-i) (by omega) (by omega);unfold fin at h3;show p.g (n-1-(i-1))<p.g (n-1-i);rw [show n-1-(i-1)=n-i by omega,show n-1-i=n-i-1 by omega];exact h3) (n-1-x) (by omega)
   have h2:p.g (n-1-(n-1-x))=n-1-x:=h1;rw [show n-1-(n-1-x)=x by omega] at h2;unfold rv;rw [if_pos hx];exact h2
  ·rw [p.outg x (by omega)];unfold rv;rw [if_neg hx]
 apply ext;intro x;apply p.injg;rw [p.gf,key];exact (rv_rv n x).symm
end Pm
theorem zwk (b:Pm n):Lw (Pm.del n) b:=fun i h1 h2 _=>Pm.del_fin h1 h2
theorem zs7 (a:Pm n):Lw a (Pm.one n):=fun i h1 _ hb=>absurd hb (Pm.one_beg i h1)
theorem zvy {b:Pm n} (h:Lw (Pm.one n) b):b=Pm.one n:=Pm.one_of fun i h1 h2 hb=>by
 have h3:i<i-1:=h i h1 h2 hb;omega
theorem zp4 {a:Pm n} (h:Lw a (Pm.del n)):a=Pm.del n:=Pm.del_of fun i h1 h2=>h i h1 h2 (by
 show Pm.rv n i<Pm.rv n (i-1);unfold Pm.rv;rw [if_pos h2,if_pos (by omega)];omega)
theorem zs5 (p:Pm n):NF [Pm.one n,p]=[p,Pm.one n]:=by
 obtain ⟨c,d,h1,h2,h3⟩:=zp3 (Pm.one n) p;have hd:d=Pm.one n:=Pm.one_of fun i i1 i2 hb=>by
  have hf:=h3 i i1 i2 hb;unfold Pm.fin at hf;unfold Pm.beg at hb;have:=h2.sub (c.g i) (c.g (i-1)) hf (by show c.f (c.g (i-1))<c.f (c.g i);rw [c.fg,c.fg];omega);rw [show p.f (c.g (i-1))=d.f (c.f (c.g (i-1))) from (h2.prod _).symm,show p.f (c.g i)=d.f (c.f (c.g i)) from (h2.prod _).symm,c.fg,c.fg] at this
  omega
 have hc:c=p:=Pm.ext fun x=>by
  have:=h2.prod x;rw [hd] at this;exact this
 rw [h1,hc,hd]
theorem rv_sw {i:Nat} (h:0<i∧i<n) (x:Nat):Pm.rv n (sw i x)=sw (n-i) (Pm.rv n x):=by
 by_cases h1:x=i
 ·subst h1;rw [Pm.sw_at];unfold Pm.rv;rw [if_pos (by omega),if_pos h.2,show n-1-x=n-x-1 by omega,Pm.sw_pre (by omega)];omega
 ·by_cases h2:x+1=i
  ·have:x=i-1:=by omega
   subst this;rw [Pm.sw_pre h.1];unfold Pm.rv;rw [if_pos h.2,if_pos (by omega),show n-1-(i-1)=n-i by omega,Pm.sw_at];omega
  ·rw [Pm.sw_ne h1 h2];have h3:Pm.rv n x≠n-i:=by
    unfold Pm.rv
    by_cases hx:x<n
    ·rw [if_pos hx];omega
    ·rw [if_neg hx];omega
   have h4:Pm.rv n x+1≠n-i:=by
    unfold Pm.rv
    by_cases hx:x<n
    ·rw [if_pos hx];omega
    ·rw [if_neg hx];omega
   rw [Pm.sw_ne h3 h4]
theorem rv_lt {x y:Nat} (hx:x<n) (hy:y<n):Pm.rv n x<Pm.rv n y↔y<x:=by
 unfold Pm.rv;rw [if_pos hx,if_pos hy];omega
theorem Mv.trn {s t:List (Pm n)} (h:Mv s t):Mv (s.map Pm.trn) (t.map Pm.trn):=by
 induction h with
 | here a b l i hi hb hf=>
  have hi2:0<n-i∧n-i<n:=by omega
  have e1:(a.R i hi).trn=a.trn.R (n-i) hi2:=Pm.ext fun x=>by
   show Pm.rv n (sw i (a.f (Pm.rv n x)))=sw (n-i) (Pm.rv n (a.f (Pm.rv n x)));rw [rv_sw hi]
  have e2:(b.L i hi).trn=b.trn.L (n-i) hi2:=Pm.ext fun x=>by
   show Pm.rv n (b.f (sw i (Pm.rv n x)))=Pm.rv n (b.f (Pm.rv n (sw (n-i) x)));rw [rv_sw hi2,show n-(n-i)=i by omega]
  show Mv (a.trn::b.trn::l.map Pm.trn) ((a.R i hi).trn::(b.L i hi).trn::l.map Pm.trn);rw [e1,e2];have r1:Pm.rv n (n-i)=i-1:=by unfold Pm.rv;rw [if_pos hi2.2];omega
  have r2:Pm.rv n (n-i-1)=i:=by unfold Pm.rv;rw [if_pos (by omega)];omega
  refine .here _ _ _ _ hi2 ?_ ?_
  ·show Pm.rv n (b.f (Pm.rv n (n-i)))<Pm.rv n (b.f (Pm.rv n (n-i-1)));rw [r1,r2,rv_lt (b.lt (by omega)) (b.lt hi.2)];exact hb
  ·rw [Pm.nfin hi2.1];show Pm.rv n (a.g (Pm.rv n (n-i-1)))<Pm.rv n (a.g (Pm.rv n (n-i)));rw [r1,r2,rv_lt (a.ltg hi.2) (a.ltg (by omega))];exact (Pm.nfin hi.1).1 hf
 | there a _ ih=>exact .there _ ih
theorem Mvs.trn {s t:List (Pm n)} (h:Mvs s t):Mvs (s.map Pm.trn) (t.map Pm.trn):=by
 induction h with
 | refl s=>exact .refl _
 | step h _ ih=>exact .step h.trn ih
theorem zot (s:List (Pm n)):(s.map Pm.trn).map Pm.trn=s:=by
 rw [List.map_map]
 conv=>rhs;rw [← List.map_id s]
 exact List.map_congr_left fun p _=>p.trn_trn
theorem Nrm.trn {s:List (Pm n)} (h:Nrm s):Nrm (s.map Pm.trn):=fun t ht=>by
 have:=ht.trn;rw [zot] at this;exact h _ this
theorem zwi (s:List (Pm n)):NF (s.map Pm.trn)=(NF s).map Pm.trn:=NF_of (NF_mv s).trn (zc0 s).trn
theorem znk:(Pm.del n).trn=Pm.del n:=Pm.ext fun x=>by
 show Pm.rv n (Pm.rv n (Pm.rv n x))=Pm.rv n x;rw [Pm.rv_rv]
theorem ziz:(Pm.one n).trn=Pm.one n:=Pm.ext fun x=>Pm.rv_rv n x
def Chn:List (Pm n)→Prop
 | []=>True
 | [_]=>True
 | b::a::l=>Lw a b∧Chn (a::l)
theorem zoi {a b:Pm n} {l:List (Pm n)}:Nrm (l++[a,b])↔Nrm (l++[a])∧Lw a b:=by
 induction l with
 | nil=>exact ⟨fun h=>⟨za8 a,(za9.1 h).1⟩,fun h=>za9.2 ⟨h.2,za8 b⟩⟩
 | cons x l ih=>
  cases l with
  | nil=>
   show Nrm (x::a::[b])↔Nrm [x,a]∧_;rw [za9,za9,za9];exact ⟨fun h=>⟨⟨h.1,za8 a⟩,h.2.1⟩,fun h=>⟨h.1.1,h.2,za8 b⟩⟩
  | cons y l=>
   show Nrm (x::y::(l++[a,b]))↔Nrm (x::y::(l++[a]))∧_;rw [za9,za9,show y::(l++[a,b])=y::l++[a,b] from rfl,ih]
   exact ⟨fun h=>⟨⟨h.1,h.2.1⟩,h.2.2⟩,fun h=>⟨h.1.1,h.1.2,h.2⟩⟩
theorem zj8:∀ l:List (Pm n),Chn l↔Nrm l.reverse
 | []=>⟨fun _=>zjh,fun _=>trivial⟩
 | [a]=>⟨fun _=>za8 a,fun _=>trivial⟩
 | b::a::l=>by
  have ih:=zj8 (a::l);rw [List.reverse_cons] at ih;rw [List.reverse_cons,List.reverse_cons];show Lw a b∧Chn (a::l)↔Nrm ((l.reverse++[a])++[b]);rw [List.append_assoc,show [a]++[b]=[a,b] from rfl,zoi,ih]
  exact ⟨fun h=>⟨h.2,h.1⟩,fun h=>⟨h.2,h.1⟩⟩
noncomputable def nf1 (a b:Pm n):Pm n:=(NF [a,b]).headD (Pm.one n)
noncomputable def nf2 (a b:Pm n):Pm n:=(NF [a,b]).tail.headD (Pm.one n)
theorem nf12 (a b:Pm n):NF [a,b]=[nf1 a b,nf2 a b]∧Sl a b (nf1 a b) (nf2 a b)∧Lw (nf1 a b) (nf2 a b):=by
 obtain ⟨c,d,h1,h2,h3⟩:=zp3 a b;have e1:nf1 a b=c:=by unfold nf1;rw [h1];rfl
 have e2:nf2 a b=d:=by unfold nf2;rw [h1];rfl
 rw [e1,e2];exact ⟨h1,h2,h3⟩
theorem zlb {a b:Pm n} (h:nf1 a b=a):nf2 a b=b:=Pm.ext fun x=>by
 have h2:=(nf12 a b).2.1.prod (a.g x);rw [h,a.fg] at h2;exact h2
open Classical in
noncomputable def pasR:List (Pm n)→Pm n→List (Pm n)
 | [],p=>[p]
 | x::r,p=>if nf1 x p=x then p::x::r else nf2 x p::pasR r (nf1 x p)
theorem zog:∀ (r:List (Pm n)) (p:Pm n),Mvs (r.reverse++[p]) (pasR r p).reverse
 | [],p=>.refl _
 | x::r,p=>by
  unfold pasR;split
  ·rw [List.reverse_cons,List.reverse_cons,List.reverse_cons];exact .refl _
  ·rw [List.reverse_cons,List.reverse_cons,List.append_assoc];have h1:=(NF_mv [x,p]).pre r.reverse;rw [(nf12 x p).1] at h1;have h2:=(zog r (nf1 x p)).app [nf2 x p];rw [List.append_assoc] at h2;exact h1.trans h2
theorem zk4:∀ (r:List (Pm n)) (p:Pm n),Chn r→Chn (pasR r p)
 | [],p,_=>trivial
 | [x],p,_=>by
  obtain ⟨_,s,l⟩:=nf12 x p;unfold pasR;split
  ·rename_i h;rw [h,zlb h] at l;exact ⟨l,trivial⟩
  ·unfold pasR;exact ⟨l,trivial⟩
 | x::a::r,p,hc=>by
  obtain ⟨_,s,l⟩:=nf12 x p;unfold pasR;split
  ·rename_i h;rw [h,zlb h] at l;exact ⟨l,hc⟩
  ·have ih:=zk4 (a::r) (nf1 x p) hc.2;obtain ⟨_,s2,l2⟩:=nf12 a (nf1 x p);revert ih;unfold pasR;split
   ·exact fun ih=>⟨l,ih⟩
   ·exact fun ih=>by
     cases hr:pasR r (nf1 a (nf1 x p)) with
     | nil=>exact ⟨domino hc.1 s l s2,trivial⟩
     | cons b q=>rw [hr] at ih;exact ⟨domino hc.1 s l s2,ih⟩
theorem zt8 {F:List (Pm n)} (h:Nrm F) (p:Pm n):NF (F++[p])=(pasR F.reverse p).reverse:=by
 refine NF_of ?_ ((zj8 _).1 (zk4 _ _ ((zj8 _).2 (by rw [List.reverse_reverse];exact h))));have:=zog F.reverse p
 rwa [List.reverse_reverse] at this
structure Rep (l:List (Pm n)) (m:Nat) (F:List (Pm n)):Prop where
 eq:∃ r,NF l=List.replicate m (Pm.del n)++(F++List.replicate r (Pm.one n))
 no1:∀ p,p∈F→p≠Pm.one n
 noD:∀ p,p∈F→p≠Pm.del n
theorem zud {s t:List (Pm n)} (h:Nrm (s++t)):Nrm s:=fun u hu=>h _ (hu.app t)
theorem zuc {s t:List (Pm n)} (h:Nrm (s++t)):Nrm t:=by
 induction s with
 | nil=>exact h
 | cons a s ih=>exact ih fun u hu=>h _ (.there a hu)
theorem zg4 {F:List (Pm n)} (h:Nrm F):∀ m:Nat,Nrm (List.replicate m (Pm.del n)++F)
 | 0=>h
 | m+1=>by
  have ih:=zg4 h m;rw [List.replicate_succ]
  cases hx:List.replicate m (Pm.del n)++F with
  | nil=>rw [List.cons_append,hx];exact za8 _
  | cons b l=>rw [List.cons_append,hx];rw [hx] at ih;exact za9.2 ⟨zwk b,ih⟩
theorem zg3 {F:List (Pm n)} (h:Nrm F):∀ r:Nat,Nrm (F++List.replicate r (Pm.one n))
 | 0=>by rw [List.replicate_zero,List.append_nil];exact h
 | r+1=>by
  have ih:=zg3 h r;rw [List.replicate_succ'];rw [← List.append_assoc]
  cases hx:(F++List.replicate r (Pm.one n)).reverse with
  | nil=>
   have:F++List.replicate r (Pm.one n)=[]:=by rw [← List.reverse_reverse (F++_),hx];rfl
   rw [this];exact za8 _
  | cons b l=>
   have:F++List.replicate r (Pm.one n)=l.reverse++[b]:=by rw [← List.reverse_reverse (F++_),hx,List.reverse_cons]
   rw [this] at ih ⊢;rw [List.append_assoc];exact zoi.2 ⟨ih,zs7 b⟩
theorem zga (p:Pm n):∀ r:Nat,Mvs (List.replicate r (Pm.one n)++[p]) (p::List.replicate r (Pm.one n))
 | 0=>.refl _
 | r+1=>by
  rw [List.replicate_succ,List.cons_append];have h1:=(zga p r).there (Pm.one n);have h2:=(NF_mv [Pm.one n,p]).app (List.replicate r (Pm.one n));rw [zs5] at h2;exact h1.trans h2
theorem zva {l:List (Pm n)} {m r:Nat} {F:List (Pm n)} (h:NF l=List.replicate m (Pm.del n)++(F++List.replicate r (Pm.one n))) (p:Pm n):NF (l++[p])=List.replicate m (Pm.del n)++(NF (F++[p])++List.replicate r (Pm.one n)):=by
 refine NF_of ?_ (zg4 (zg3 (zc0 _) r) m);have h1:=(NF_mv l).app [p];rw [h] at h1;refine h1.trans ?_;rw [List.append_assoc,List.append_assoc];refine Mvs.pre _ ?_;have h2:=(zga p r).pre F;refine h2.trans ?_;rw [show F++p::List.replicate r (Pm.one n)=(F++[p])++List.replicate r (Pm.one n) by simp];exact (NF_mv _).app _
theorem zdz:∀ {s:List (Pm n)},Nrm s→∃ (m:Nat) (F:List (Pm n)) (r:Nat),s=List.replicate m (Pm.del n)++(F++List.replicate r (Pm.one n))∧(∀ p,p∈F→p≠Pm.one n)∧∀ p,p∈F→p≠Pm.del n
 | [],_=>⟨0,[],0,rfl,fun p hp=>(by cases hp),fun p hp=>(by cases hp)⟩
 | a::s,h=>by
  obtain ⟨m,F,r,h1,h2,h3⟩:=zdz (fun t ht=>h _ (.there a ht):Nrm s)
  by_cases ha:a=Pm.del n
  ·exact ⟨m+1,F,r,by rw [h1,ha,List.replicate_succ];rfl,h2,h3⟩
  ·have hm:m=0:=by
    cases m with
    | zero=>rfl
    | succ m=>
     rw [h1,List.replicate_succ,List.cons_append] at h;exact absurd (zp4 (za9.1 h).1) ha
   subst hm
   by_cases hb:a=Pm.one n
   ·have hF:F=[]:=by
     cases F with
     | nil=>rfl
     | cons b F=>
      rw [h1,List.replicate_zero,List.nil_append,List.cons_append,hb] at h;exact absurd (zvy (za9.1 h).1) (h2 b List.mem_cons_self)
    subst hF;exact ⟨0,[],r+1,by rw [h1,hb];rfl,fun p hp=>(by cases hp),fun p hp=>(by cases hp)⟩
   ·refine ⟨0,a::F,r,by rw [h1];rfl,fun p hp=>?_,fun p hp=>?_⟩
    ·rcases List.mem_cons.1 hp with rfl|hp
     ·exact hb
     ·exact h2 p hp
    ·rcases List.mem_cons.1 hp with rfl|hp
     ·exact ha
     ·exact h3 p hp
theorem zkx (l:List (Pm n)):∃ m F,Rep l m F:=by
 obtain ⟨m,F,r,h1,h2,h3⟩:=zdz (zc0 l);exact ⟨m,F,⟨r,h1⟩,h2,h3⟩
theorem zs1 (h:2≤n):Pm.del n≠Pm.one n:=fun e=>by
 have h1:(Pm.del n).f 0=0:=by rw [e];rfl
 have h2:(Pm.del n).f 0=n-1:=by show Pm.rv n 0=_;unfold Pm.rv;rw [if_pos (by omega)];rfl
 omega
open Classical in
theorem zt1 (hn:2≤n) {l:List (Pm n)} {m m':Nat} {F F':List (Pm n)} (h:Rep l m F) (k:Rep l m' F'):m=m'∧F=F':=by
 have hne:=zs1 hn;have key:∀ {m:Nat} {F:List (Pm n)},Rep l m F→(NF l).filter (fun p=>decide (p≠Pm.one n∧p≠Pm.del n))=F∧((NF l).filter (fun p=>decide (p=Pm.del n))).length=m:=by
  intro m F h;obtain ⟨⟨r,h1⟩,h2,h3⟩:=h;rw [h1];constructor
  ·rw [List.filter_append,List.filter_append,List.filter_eq_nil_iff.2,List.filter_eq_self.2,List.filter_eq_nil_iff.2,List.nil_append,List.append_nil]
   ·intro p hp;rw [List.eq_of_mem_replicate hp];simp
   ·intro p hp;simp only [decide_eq_true_eq];exact ⟨h2 p hp,h3 p hp⟩
   ·intro p hp;rw [List.eq_of_mem_replicate hp];simp
  ·rw [List.filter_append,List.filter_append,List.filter_eq_self.2,List.filter_eq_nil_iff.2,List.filter_eq_nil_iff.2,List.append_nil,List.append_nil,List.length_replicate]
   ·intro p hp;rw [List.eq_of_mem_replicate hp];simp only [decide_eq_true_eq];exact fun e=>hne e.symm
   ·intro p hp;simp only [decide_eq_true_eq];exact h3 p hp
   ·intro p hp;rw [List.eq_of_mem_replicate hp];simp
 obtain ⟨a1,a2⟩:=key h;obtain ⟨b1,b2⟩:=key k;exact ⟨a2.symm.trans b2,a1.symm.trans b1⟩
theorem Rep.nil:Rep ([]:List (Pm n)) 0 []:=⟨⟨0,NF_of (.refl _) zjh⟩,fun p hp=>(by cases hp),fun p hp=>(by cases hp)⟩
theorem Rep.trn {l:List (Pm n)} {m:Nat} {F:List (Pm n)} (h:Rep l m F):Rep (l.map Pm.trn) m (F.map Pm.trn):=by
 obtain ⟨⟨r,h1⟩,h2,h3⟩:=h;refine ⟨⟨r,?_⟩,fun p hp e=>?_,fun p hp e=>?_⟩
 ·rw [zwi,h1,List.map_append,List.map_append,List.map_replicate,List.map_replicate,znk,ziz]
 ·obtain ⟨q,hq,rfl⟩:=List.mem_map.1 hp;exact h2 q hq (by rw [← q.trn_trn,e,ziz])
 ·obtain ⟨q,hq,rfl⟩:=List.mem_map.1 hp;exact h3 q hq (by rw [← q.trn_trn,e,znk])
theorem Rep.more {l:List (Pm n)} {m m' r':Nat} {F F':List (Pm n)} (h:Rep l m F) (p:Pm n) (h1:NF (F++[p])=List.replicate m' (Pm.del n)++(F'++List.replicate r' (Pm.one n))) (h2:∀ p,p∈F'→p≠Pm.one n) (h3:∀ p,p∈F'→p≠Pm.del n):Rep (l++[p]) (m+m') F':=by
 obtain ⟨⟨r,e⟩,_⟩:=h;refine ⟨⟨r'+r,?_⟩,h2,h3⟩;rw [zva e p,h1,← List.replicate_append_replicate,← List.replicate_append_replicate];simp only [List.append_assoc]
def ltr (i:Nat) (h:0<i∧i<n):Pm n:=(Pm.one n).R i h
def ctr (i:Nat) (h:0<i∧i<n):Pm n:=(Pm.del n).R i h
end
section
variable {n:Nat}
theorem zs4:∀ (k:Nat) {a b c d:Pm n},a.W≤k→Sl a b c d→Mvs [a,b] [c,d]
 | k,a,b,c,d,hk,h=>by
  by_cases hv:∃ i,0<i∧i<n∧c.f (a.g i)<c.f (a.g (i-1))
  ·obtain ⟨i,i1,i2,i3⟩:=hv;have hi:0<i∧i<n:=⟨i1,i2⟩;have hb:b.beg i:=h.sub (i-1) i (by omega) i3;have hf:¬ a.fin i:=fun hf=>by
    have:=h.inv (a.g i) (a.g (i-1)) hf (by rw [a.fg,a.fg];omega);omega
   have hW:=a.W_R hi hf;have h2:Sl (a.R i hi) (b.L i hi) c d:=by
    refine ⟨fun x=>?_,fun x y hxy hx=>?_,fun x y hxy hx=>?_⟩
    ·show d.f (c.f x)=b.f (sw i (sw i (a.f x)));rw [sw_sw i1];exact h.prod x
    ·have hx:sw i (a.f y)<sw i (a.f x):=hx;rcases Nat.lt_or_ge (a.f y) (a.f x) with g|g
     ·exact h.inv x y hxy g
     ·have g:a.f x<a.f y:=by
       have:a.f x≠a.f y:=fun e=>by have:=a.inj e;omega
       omega
      obtain ⟨e1,e2⟩:=Pm.sw_lt i1 g hx;have f1:a.g i=y:=by rw [← e2,a.gf]
      have f2:a.g (i-1)=x:=by rw [show i-1=a.f x by omega,a.gf]
      rw [f1,f2] at i3;exact i3
    ·have hx:c.f (a.g (sw i y))<c.f (a.g (sw i x)):=hx;show b.f (sw i y)<b.f (sw i x);rcases Nat.lt_or_ge (sw i x) (sw i y) with g|g
     ·exact h.sub _ _ g hx
     ·have hne:sw i x≠sw i y:=fun e=>by
       have:x=y:=by rw [← sw_sw i1 x,e,sw_sw i1]
       omega
      obtain ⟨e1,e2⟩:=Pm.sw_lt i1 hxy (show sw i y<sw i x by omega);have s1:sw i y=i-1:=by rw [e2,Pm.sw_at]
      have s2:sw i x=i:=by rw [show x=i-1 by omega,Pm.sw_pre i1]
      rw [s1,s2] at hx;omega
   match k with
   | 0=>omega
   | k+1=>exact .step (.here a b [] i hi hb hf) (zs4 k (by omega) h2)
  ·have hv:∀ i,0<i→i<n→c.f (a.g (i-1))<c.f (a.g i):=fun i h1 h2=>by
    rcases Nat.lt_or_ge (c.f (a.g (i-1))) (c.f (a.g i)) with g|g
    ·exact g
    ·have:c.f (a.g (i-1))≠c.f (a.g i):=fun e=>by have:=a.injg (c.inj e);omega
     exact absurd ⟨i,h1,h2,by omega⟩ hv
   have hid:=Pm.inc_id (n:=n) (f:=fun x=>c.f (a.g x)) (fun x hx=>c.lt (a.ltg hx)) hv;have hc:c=a:=Pm.ext fun x=>by
    by_cases hx:x<n
    ·have:=hid (a.f x) (a.lt hx);have:c.f (a.g (a.f x))=a.f x:=this
     rwa [a.gf] at this
    ·rw [c.out x (by omega),a.out x (by omega)]
   have hd:d=b:=Pm.ext fun x=>by
    have:=h.prod (a.g x);rw [hc,a.fg] at this;exact this
   rw [hc,hd];exact .refl _
theorem NF_Sl {a b c d:Pm n} (h:Sl a b c d):NF [c,d]=NF [a,b]:=NF_eq (zs4 _ (Nat.le_refl _) h)
theorem zc1 {s t:List (Pm n)} (r u:List (Pm n)) (h:NF s=NF t):NF (r++(s++u))=NF (r++(t++u)):=by
 rw [← NF_eq (((NF_mv s).app u).pre r),h,NF_eq (((NF_mv t).app u).pre r)]
def E (s t:Int×List (Pm n)):Prop:=∃ (m m':Nat) (F:List (Pm n)),Rep s.2 m F∧Rep t.2 m' F∧s.1+m=t.1+m'
theorem E.refl (s:Int×List (Pm n)):E s s:=by
 obtain ⟨m,F,h⟩:=zkx s.2;exact ⟨m,m,F,h,h,rfl⟩
theorem E.symm {s t:Int×List (Pm n)} (h:E s t):E t s:=by
 obtain ⟨m,m',F,h1,h2,h3⟩:=h;exact ⟨m',m,F,h2,h1,h3.symm⟩
theorem E.trans (hn:2≤n) {s t u:Int×List (Pm n)} (h:E s t) (k:E t u):E s u:=by
 obtain ⟨m,m',F,h1,h2,h3⟩:=h;obtain ⟨q,q',G,k1,k2,k3⟩:=k;obtain ⟨e1,e2⟩:=zt1 hn h2 k1;subst e1;subst e2;exact ⟨m,q',F,h1,k2,h3.trans k3⟩
theorem E.app {s t:Int×List (Pm n)} (h:E s t) (p:Pm n):E (s.1,s.2++[p]) (t.1,t.2++[p]):=by
 obtain ⟨m,m',F,h1,h2,h3⟩:=h;obtain ⟨k,G,r,g1,g2,g3⟩:=zdz (zc0 (F++[p]));exact ⟨m+k,m'+k,G,h1.more p g1 g2 g3,h2.more p g1 g2 g3,by show s.1+((m+k:Nat):Int)=t.1+((m'+k:Nat):Int);omega⟩
theorem E.trn {s t:Int×List (Pm n)} (h:E s t) (c:Int):E (s.1+c,s.2.map Pm.trn) (t.1+c,t.2.map Pm.trn):=by
 obtain ⟨m,m',F,h1,h2,h3⟩:=h;exact ⟨m,m',_,h1.trn,h2.trn,by show s.1+c+m=t.1+c+m';omega⟩
theorem E.nf {pw:Int} {l l':List (Pm n)} (h:NF l=NF l'):E (pw,l) (pw,l'):=by
 obtain ⟨m,F,⟨r,h1⟩,h2,h3⟩:=zkx l;exact ⟨m,m,F,⟨⟨r,h1⟩,h2,h3⟩,⟨⟨r,by rw [← h];exact h1⟩,h2,h3⟩,rfl⟩
theorem zwj (l:List (Pm n)):NF (Pm.del n::l)=Pm.del n::NF l:=NF_of ((NF_mv l).there _) (zg4 (zc0 l) 1)
theorem E.del (pw:Int) (l:List (Pm n)):E (pw,Pm.del n::l) (pw+1,l):=by
 obtain ⟨m,F,⟨r,h1⟩,h2,h3⟩:=zkx l;exact ⟨m+1,m,F,⟨⟨r,by rw [zwj,h1,List.replicate_succ];rfl⟩,h2,h3⟩,⟨⟨r,h1⟩,h2,h3⟩,by show pw+((m+1:Nat):Int)=pw+1+m;omega⟩
theorem E.one (pw:Int) (l:List (Pm n)):E (pw,l++[Pm.one n]) (pw,l):=by
 obtain ⟨m,F,⟨r,h1⟩,h2,h3⟩:=zkx l;refine ⟨m,m,F,⟨⟨r+1,?_⟩,h2,h3⟩,⟨⟨r,h1⟩,h2,h3⟩,rfl⟩;have h4:NF (l++[Pm.one n])=NF l++List.replicate 1 (Pm.one n):=NF_of ((NF_mv l).app _) (zg3 (zc0 l) 1);rw [h4,h1,← List.replicate_append_replicate];simp only [List.append_assoc]
theorem zpt (a:Pm n):Sl a.trn (Pm.del n) (Pm.del n) a:=by
 refine ⟨fun x=>?_,fun x y hxy hx=>?_,fun x y hxy hx=>?_⟩
 ·show a.f (Pm.rv n x)=Pm.rv n (Pm.rv n (a.f (Pm.rv n x)));rw [Pm.rv_rv]
 ·show Pm.rv n y<Pm.rv n x
  by_cases hy:y<n
  ·exact (rv_lt hy (by omega)).2 hxy
  ·have h1:a.trn.f y=y:=a.trn.out y (by omega);rw [h1] at hx
   by_cases h2:x<n
   ·have:=a.trn.lt h2;omega
   ·rw [a.trn.out x (by omega)] at hx;omega
 ·have hx:Pm.rv n (a.trn.g y)<Pm.rv n (a.trn.g x):=hx;show Pm.rv n y<Pm.rv n x
  by_cases hy:y<n
  ·exact (rv_lt hy (by omega)).2 hxy
  ·rw [a.trn.outg y (by omega)] at hx;have h3:Pm.rv n y=y:=by unfold Pm.rv;rw [if_neg hy]
   rw [h3] at hx
   by_cases h2:x<n
   ·have h4:=a.trn.ltg h2;have:Pm.rv n (a.trn.g x)<n:=by unfold Pm.rv;rw [if_pos h4];omega
    omega
   ·rw [a.trn.outg x (by omega)] at hx;have h5:Pm.rv n x=x:=by unfold Pm.rv;rw [if_neg h2]
    omega
theorem ziu:∀ l:List (Pm n),NF (l.map Pm.trn++[Pm.del n])=NF (Pm.del n::l)
 | []=>rfl
 | a::l=>by
  have h1:=NF_eq (NF_mv (l.map Pm.trn++[Pm.del n])) |>.symm
  have h2:NF ((a::l).map Pm.trn++[Pm.del n])=NF (a.trn::Pm.del n::l):=by
   have:=zc1 [a.trn] [] (ziu l);rw [List.append_nil,List.append_nil] at this;exact this
  rw [h2];have:=zc1 [] l (NF_Sl (zpt a));exact this.symm
noncomputable def stepW (s:Int×List (Pm n)) (i:Int):Int×List (Pm n):=
 if h:0<i.natAbs∧i.natAbs<n then (if 0<i then (s.1,s.2++[ltr i.natAbs h]) else (s.1-1,s.2.map Pm.trn++[ctr i.natAbs h])) else s
theorem zam {s:Int×List (Pm n)} {k:Nat} (h:0<k∧k<n):stepW s (k:Int)=(s.1,s.2++[ltr k h]):=by
 unfold stepW;have e:((k:Int)).natAbs=k:=rfl;rw [dif_pos (show 0<((k:Int)).natAbs∧((k:Int)).natAbs<n from h),if_pos (by omega)];rfl
theorem za1 {s:Int×List (Pm n)} {k:Nat} (h:0<k∧k<n):stepW s (-(k:Int))=(s.1-1,s.2.map Pm.trn++[ctr k h]):=by
 unfold stepW;have e:(-(k:Int)).natAbs=k:=by omega
 simp only [e];rw [dif_pos h,if_neg (by omega)]
theorem E.step {s t:Int×List (Pm n)} (h:E s t) (i:Int):E (stepW s i) (stepW t i):=by
 unfold stepW;split
 ·split
  ·exact h.app _
  ·exact (h.trn (-1)).app _
 ·exact h
theorem E.word {s t:Int×List (Pm n)} (h:E s t) (w:List Int):E (w.foldl stepW s) (w.foldl stepW t):=by
 induction w generalizing s t with
 | nil=>exact h
 | cons i w ih=>exact ih (h.step i)
theorem Pm.top (p:Pm n) {x y:Nat} (hxy:x<y) (hy:n≤y):p.f x<p.f y:=by
 rw [p.out y hy]
 by_cases hx:x<n
 ·have:=p.lt hx;omega
 ·rw [p.out x (by omega)];exact hxy
theorem Sl.mk' {a b c d:Pm n} (prod:∀ x,d.f (c.f x)=b.f (a.f x)) (inv:∀ x y,x<y→y<n→a.f y<a.f x→c.f y<c.f x) (sub:∀ x y,x<y→y<n→c.f (a.g y)<c.f (a.g x)→b.f y<b.f x):Sl a b c d:=by
 refine ⟨prod,fun x y hxy hx=>?_,fun x y hxy hx=>?_⟩
 ·by_cases hy:y<n
  ·exact inv x y hxy hy hx
  ·have:=a.top hxy (by omega);omega
 ·by_cases hy:y<n
  ·exact sub x y hxy hy hx
  ·have h1:c.f (a.g y)=y:=by rw [a.outg y (by omega),c.out y (by omega)]
   have h2:c.f (a.g x)<y:=by
    by_cases h:x<n
    ·have:=c.lt (a.ltg h);omega
    ·rw [a.outg x (by omega),c.out x (by omega)];exact hxy
   omega
theorem zwh {a b:Pm n} (h:∀ x,b.f (a.f x)=Pm.rv n x):Sl a b (Pm.del n) (Pm.one n):=by
 refine Sl.mk' (fun x=>(h x).symm) (fun x y hxy hy _=>(rv_lt hy (by omega)).2 hxy) (fun x y _ _ hx=>?_);rw [← a.fg y,← a.fg x,h,h];exact hx
theorem E.undo (hn:2≤n) {pw:Int} {l:List (Pm n)} {a b:Pm n} (h:∀ x,b.f (a.f x)=Pm.rv n x):E (pw-1,l.map Pm.trn++[a,b]) (pw,l):=by
 have h1:E (pw-1,l.map Pm.trn++[a,b]) (pw-1,l.map Pm.trn++[Pm.del n,Pm.one n]):=by
  refine E.nf ?_;have:=zc1 (l.map Pm.trn) [] (NF_Sl (zwh h)).symm;rw [List.append_nil,List.append_nil] at this;exact this
 have h2:E (pw-1,l.map Pm.trn++[Pm.del n,Pm.one n]) (pw-1,l.map Pm.trn++[Pm.del n]):=by
  have:=E.one (pw-1) (l.map Pm.trn++[Pm.del n])
  rwa [List.append_assoc] at this
 have h3:E (pw-1,l.map Pm.trn++[Pm.del n]) (pw-1,Pm.del n::l):=E.nf (ziu l);have h4:E (pw-1,Pm.del n::l) (pw,l):=by
  have:=E.del (pw-1) l
  rwa [Int.sub_add_cancel] at this
 exact ((h1.trans hn h2).trans hn h3).trans hn h4
theorem E.posneg (hn:2≤n) (s:Int×List (Pm n)) {k:Nat} (h:0<k∧k<n):E (stepW (stepW s (k:Int)) (-(k:Int))) s:=by
 rw [zam h,za1 h];show E (s.1-1,(s.2++[ltr k h]).map Pm.trn++[ctr k h]) s;rw [List.map_append,List.append_assoc];refine E.undo hn (pw:=s.1) (l:=s.2) (a:=(ltr k h).trn) (b:=ctr k h) fun x=>?_;show sw k (Pm.rv n (Pm.rv n (sw k (Pm.rv n x))))=_;rw [Pm.rv_rv,sw_sw h.1]
theorem E.negpos (hn:2≤n) (s:Int×List (Pm n)) {k:Nat} (h:0<k∧k<n):E (stepW (stepW s (-(k:Int))) (k:Int)) s:=by
 rw [za1 h,zam h];show E (s.1-1,(s.2.map Pm.trn++[ctr k h])++[ltr k h]) s;rw [List.append_assoc];refine E.undo hn (pw:=s.1) (l:=s.2) (a:=ctr k h) (b:=ltr k h) fun x=>?_;show sw k (sw k (Pm.rv n x))=_;rw [sw_sw h.1]
theorem zl5 {a:Pm n} {k:Nat} (h:0<k∧k<n) (hf:¬ a.fin k):NF [a,ltr k h]=NF [a.R k h,Pm.one n]:=by
 have e:(ltr k h).L k h=Pm.one n:=Pm.ext fun x=>sw_sw h.1 x;have hb:(ltr k h).beg k:=by
  show sw k k<sw k (k-1);rw [Pm.sw_at,Pm.sw_pre h.1];omega
 have:=Mvs.one (.here a (ltr k h) [] k h hb hf);rw [e] at this;exact (NF_eq this).symm
def Far (a b:Nat):Prop:=a+2≤b∨b+2≤a
theorem Far.symm {a b:Nat} (h:Far a b):Far b a:=h.elim .inr .inl
theorem znr {a b:Nat} (h:Far a b) (ha:0<a) (hb:0<b) (x:Nat):sw a (sw b x)=sw b (sw a x):=by
 rcases h with h|h
 ·exact Pm.sw_comm h ha x
 ·exact (Pm.sw_comm h hb x).symm
theorem zlh {a b:Nat} (ha:0<a∧a<n) (hb:0<b∧b<n) (h:Far a b):¬ (ltr a ha).fin b:=by
 rw [Pm.nfin hb.1];show sw a (b-1)<sw a b;unfold Far at h;rw [Pm.sw_ne (by omega) (by omega),Pm.sw_ne (by omega) (by omega)];omega
theorem zv4 {a b:Nat} (ha:0<a∧a<n) (hb:0<b∧b<n) (h:Far a b):NF [ltr a ha,ltr b hb]=NF [ltr b hb,ltr a ha]:=by
 rw [zl5 hb (zlh ha hb h),zl5 ha (zlh hb ha h.symm)];have e:(ltr a ha).R b hb=(ltr b hb).R a ha:=Pm.ext fun x=>(znr h ha.1 hb.1 x).symm;rw [e]
theorem zsy {a b:Nat} (ha:0<a∧a<n) (hb:0<b∧b<n) (h:Far a b):NF [(ltr a ha).trn,ctr b hb]=NF [ctr b hb,ltr a ha]:=by
 have hl:∀ x,(ltr a ha).trn.f x=Pm.rv n (sw a (Pm.rv n x)):=fun _=>rfl;have hlg:∀ x,(ltr a ha).trn.g x=Pm.rv n (sw a (Pm.rv n x)):=fun _=>rfl;refine (NF_Sl (Sl.mk' (fun x=>?_) (fun x y hxy hy hx=>?_) (fun x y hxy hy hx=>?_))).symm
 ·show sw a (sw b (Pm.rv n x))=sw b (Pm.rv n (Pm.rv n (sw a (Pm.rv n x))));rw [Pm.rv_rv,znr h ha.1 hb.1]
 ·show sw b (Pm.rv n y)<sw b (Pm.rv n x);have h1:=(rv_lt hy (show x<n by omega)).2 hxy;refine Pm.sw_keep hb.1 h1 fun ⟨e1,e2⟩=>?_;rw [hl,hl] at hx;unfold Far at h;rw [Pm.sw_ne (i:=a) (by omega) (by omega),Pm.sw_ne (i:=a) (by omega) (by omega),Pm.rv_rv,Pm.rv_rv] at hx;omega
 ·show sw b (Pm.rv n y)<sw b (Pm.rv n x);have h1:=(rv_lt hy (show x<n by omega)).2 hxy;refine Pm.sw_keep hb.1 h1 fun ⟨e1,e2⟩=>?_;have hx:sw b (Pm.rv n ((ltr a ha).trn.g y))<sw b (Pm.rv n ((ltr a ha).trn.g x)):=hx;rw [hlg,hlg,Pm.rv_rv,Pm.rv_rv] at hx;unfold Far at h;rw [Pm.sw_ne (i:=a) (by omega) (by omega),Pm.sw_ne (i:=a) (by omega) (by omega),e2,show Pm.rv n y=b-1 by omega,Pm.sw_at,Pm.sw_pre hb.1] at hx;omega
theorem zsz {a b:Nat} (ha:0<a∧a<n) (hb:0<b∧b<n) (h:Far a b):NF [(ctr a ha).trn,ctr b hb]=NF [Pm.del n,(ctr a ha).R b hb]:=by
 have hg:∀ x,(ctr a ha).trn.g x=sw a (Pm.rv n x):=fun x=>by
  show Pm.rv n (Pm.rv n (sw a (Pm.rv n x)))=_;rw [Pm.rv_rv]
 refine (NF_Sl (Sl.mk' (fun x=>?_) (fun x y hxy hy _=>(rv_lt hy (by omega)).2 hxy) (fun x y hxy hy hx=>?_))).symm
 ·show sw b (sw a (Pm.rv n (Pm.rv n x)))=sw b (Pm.rv n (Pm.rv n (sw a (Pm.rv n (Pm.rv n x)))));rw [Pm.rv_rv,Pm.rv_rv]
 ·have hx:Pm.rv n ((ctr a ha).trn.g y)<Pm.rv n ((ctr a ha).trn.g x):=hx;show sw b (Pm.rv n y)<sw b (Pm.rv n x);have h1:=(rv_lt hy (show x<n by omega)).2 hxy;refine Pm.sw_keep hb.1 h1 fun ⟨e1,e2⟩=>?_;rw [hg,hg] at hx;unfold Far at h;rw [Pm.sw_ne (i:=a) (by omega) (by omega),Pm.sw_ne (i:=a) (by omega) (by omega),rv_lt (by omega) (by omega)] at hx;omega
theorem E.far (s:Int×List (Pm n)) {i j:Int} (hi:0<i.natAbs∧i.natAbs<n) (hj:0<j.natAbs∧j.natAbs<n) (h:Far i.natAbs j.natAbs):E (stepW (stepW s i) j) (stepW (stepW s j) i):=by
 have sgn:∀ i:Int,0<i.natAbs→i=(i.natAbs:Int)∨i = -(i.natAbs:Int):=fun i h=>by omega
 have ap:∀ {pw:Int} {l s t:List (Pm n)},NF s=NF t→E (pw,l++s) (pw,l++t):=fun {pw l s t} h=>by
  refine E.nf ?_;have:=zc1 l [] h
  rwa [List.append_nil,List.append_nil] at this
 generalize ha:i.natAbs=a at *;generalize hb:j.natAbs=b at *;rcases sgn i (by omega) with e1|e1 <;> rcases sgn j (by omega) with e2|e2 <;> rw [ha] at e1 <;> rw [hb] at e2 <;> subst e1 <;> subst e2
 ·rw [zam hi,zam hj,zam hj,zam hi];show E (s.1,(s.2++[ltr a hi])++[ltr b hj]) (s.1,(s.2++[ltr b hj])++[ltr a hi]);rw [List.append_assoc,List.append_assoc];exact ap (zv4 hi hj h)
 ·rw [zam hi,za1 hj,za1 hj,zam hi];show E (s.1-1,(s.2++[ltr a hi]).map Pm.trn++[ctr b hj]) (s.1-1,(s.2.map Pm.trn++[ctr b hj])++[ltr a hi]);rw [List.map_append,List.append_assoc,List.append_assoc];exact ap (zsy hi hj h)
 ·rw [za1 hi,zam hj,zam hj,za1 hi];show E (s.1-1,(s.2.map Pm.trn++[ctr a hi])++[ltr b hj]) (s.1-1,(s.2++[ltr b hj]).map Pm.trn++[ctr a hi]);rw [List.map_append,List.append_assoc,List.append_assoc];exact ap (zsy hj hi h.symm).symm
 ·rw [za1 hi,za1 hj,za1 hj,za1 hi];show E (s.1-1-1,(s.2.map Pm.trn++[ctr a hi]).map Pm.trn++[ctr b hj]) (s.1-1-1,(s.2.map Pm.trn++[ctr b hj]).map Pm.trn++[ctr a hi]);rw [List.map_append,List.map_append,List.append_assoc,List.append_assoc];refine ap ((zsz hi hj h).trans ?_);have e:(ctr a hi).R b hj=(ctr b hj).R a hi:=Pm.ext fun x=>(znr h hi.1 hj.1 _).symm;rw [e];exact (zsz hj hi h.symm).symm
theorem zl6 {i j:Nat} (hi:0<i∧i<n) (hj:0<j∧j<n) (h:j=i+1∨i=j+1):NF [ltr i hi,ltr j hj,ltr i hi]=NF [((ltr i hi).R j hj).R i hi,Pm.one n,Pm.one n]:=by
 have f1:¬ (ltr i hi).fin j:=by
  rw [Pm.nfin hj.1];show sw i (j-1)<sw i j;unfold sw
  repeat' split
  all_goals omega
 have f2:¬ ((ltr i hi).R j hj).fin i:=by
  rw [Pm.nfin hi.1];show sw i (sw j (i-1))<sw i (sw j i);rcases h with h|h
  ·subst h;rw [Pm.sw_ne (i:=i+1) (x:=i-1) (by omega) (by omega),Pm.sw_pre hi.1,show sw (i+1) i=i+1 from Pm.sw_pre (i:=i+1) (by omega),Pm.sw_ne (by omega) (by omega)];omega
  ·subst h;rw [show j+1-1=j by omega,Pm.sw_at,Pm.sw_ne (i:=j) (x:=j+1) (by omega) (by omega),Pm.sw_at,Pm.sw_ne (i:=j+1) (x:=j-1) (by omega) (by omega)];omega
 have a1:=zc1 [] [ltr i hi] (zl5 hj f1);have a2:=zc1 [(ltr i hi).R j hj] [] (show NF [Pm.one n,ltr i hi]=NF [ltr i hi,Pm.one n] by
  rw [zs5,NF_of (.refl _) (za9.2 ⟨zs7 _,za8 _⟩)])
 have a3:=zc1 [] [Pm.one n] (zl5 hi f2);exact a1.trans (a2.trans a3)
theorem E.braid (s:Int×List (Pm n)) {i j:Nat} (hi:0<i∧i<n) (hj:0<j∧j<n) (h:j=i+1∨i=j+1):E (stepW (stepW (stepW s i) j) i) (stepW (stepW (stepW s j) i) j):=by
 rw [zam hi,zam hj,zam hi,zam hj,zam hi,zam hj];show E (s.1,((s.2++[ltr i hi])++[ltr j hj])++[ltr i hi]) (s.1,((s.2++[ltr j hj])++[ltr i hi])++[ltr j hj]);rw [List.append_assoc,List.append_assoc,List.append_assoc,List.append_assoc];refine E.nf ?_;have e:((ltr i hi).R j hj).R i hi=((ltr j hj).R i hi).R j hj:=Pm.ext fun x=>by
  show sw i (sw j (sw i x))=sw j (sw i (sw j x));rcases h with h|h
  ·subst h;exact Pm.sw_braid hi.1 x
  ·subst h;exact (Pm.sw_braid hj.1 x).symm
 have h1:=zl6 hi hj h;have h2:=zl6 hj hi (h.elim .inr .inl);rw [← e] at h2;have:=zc1 s.2 [] (h1.trans h2.symm)
 rwa [List.append_nil,List.append_nil] at this
end
section
variable {n:Nat}
namespace Pm
def inv (p:Pm n):Pm n:=⟨p.g,p.f,p.gf,p.fg,p.outg⟩
end Pm
noncomputable def pA (p:Pm n):List Int:=(List.range 12).map fun x=>((p.f x:Nat):Int)
theorem zas (p:Pm n):(pA p).length=12:=by unfold pA;rw [List.length_map,List.length_range]
theorem zbj (p:Pm n) {x:Nat} (hx:x<12):(pA p).getD x 0=(p.f x:Int):=by
 unfold pA;rw [List.getD_eq_getElem?_getD,List.getElem?_map,List.getElem?_range hx];rfl
theorem zf8 {p:Pm n} {l:List Int} (hl:l.length=12) (h:∀ x,x<12→l.getD x 0=(p.f x:Int)):l=pA p:=by
 apply List.ext_getElem (by rw [hl,zas]);intro x h1 h2;have h3:=h x (by omega);rw [← zbj p (by omega),zav h1,zav h2] at h3;exact h3
theorem zjf {m:Nat} {p:Pm n} {q:Pm m} (h:∀ x,x<12→p.f x=q.f x):pA p=pA q:=zf8 (zas p) fun x hx=>by rw [zbj p hx,h x hx]
theorem zk7 (hn:n≤12) {p q:Pm n} (h:pA p=pA q):p=q:=Pm.ext fun x=>by
 by_cases hx:x<n
 ·have h1:=zbj p (show x<12 by omega);rw [h,zbj q (by omega)] at h1;omega
 ·rw [p.out x (by omega),q.out x (by omega)]
noncomputable def encF (F:List (Pm n)):List Int:=F.flatMap pA
theorem zr7:encF ([]:List (Pm n))=[]:=rfl
theorem za4 (p:Pm n) (F:List (Pm n)):encF (p::F)=pA p++encF F:=rfl
theorem zbx (F G:List (Pm n)):encF (F++G)=encF F++encF G:=List.flatMap_append
theorem zr6 (p:Pm n):encF [p]=pA p:=by rw [za4,zr7,List.append_nil]
theorem zaf:∀ F:List (Pm n),(encF F).length=F.length*12
 | []=>rfl
 | p::F=>by rw [za4,List.length_append,zas,zaf F,List.length_cons];omega
theorem zis (F G:List (Pm n)):(encF (F++G)).take (F.length*12)=encF F:=by
 rw [zbx];exact List.take_left' (zaf F)
theorem zfv (F G:List (Pm n)):(encF (F++G)).drop (F.length*12)=encF G:=by
 rw [zbx];exact List.drop_left' (zaf F)
theorem zdc (F G:List (Pm n)) (p:Pm n):((encF (F++p::G)).drop (F.length*12)).take 12=pA p:=by
 rw [zfv,za4];exact List.take_left' (zas p)
theorem ze1 (F G:List (Pm n)) (p:Pm n) {x:Nat} (hx:x<12):(encF (F++p::G)).getD (F.length*12+x) 0=(p.f x:Int):=by
 rw [zbx,List.getD_eq_getElem?_getD,List.getElem?_append_right (by rw [zaf];omega),zaf,show F.length*12+x-F.length*12=x by omega,za4,List.getElem?_append_left (by rw [zas];exact hx),← List.getD_eq_getElem?_getD,zbj p hx]
theorem zja {α:Type} (A B C:List α) (x:Nat) (v:α) (hx:x<B.length):(A++(B++C)).set (A.length+x) v=A++(B.set x v++C):=by
 rw [List.set_append_right _ _ (by omega),show A.length+x-A.length=x by omega,List.set_append_left _ _ hx]
theorem zpp (F G:List (Pm n)) (p q:Pm n) (x y:Nat) (v u:Int) (hx:x<12) (hy:y<12) (h:((pA p).set x v).set y u=pA q):((encF (F++p::G)).set (F.length*12+x) v).set (F.length*12+y) u=encF (F++q::G):=by
 rw [zbx,zbx,za4,za4,← zaf F,zja _ _ _ _ _ (by rw [zas];exact hx),zja _ _ _ _ _ (by rw [List.length_set,zas];exact hy),h]
theorem zhk (hn:n≤12):∀ {F G:List (Pm n)},encF F=encF G→F=G
 | [],[],_=>rfl
 | [],q::G,h=>by
  have:=congrArg List.length h;rw [zaf,zaf] at this;simp at this
 | p::F,[],h=>by
  have:=congrArg List.length h;rw [zaf,zaf] at this;simp at this
 | p::F,q::G,h=>by
  rw [za4,za4] at h;have h1:=congrArg (List.take 12) h;have h2:=congrArg (List.drop 12) h;rw [List.take_left' (zas p),List.take_left' (zas q)] at h1;rw [List.drop_left' (zas p),List.drop_left' (zas q)] at h2;rw [zk7 hn h1,zhk hn h2]
open Classical in
noncomputable def decF (n:Nat) (l:List Int):List (Pm n):=if h:∃ F:List (Pm n),l=encF F then Classical.choose h else []
theorem zco (hn:n≤12) (F:List (Pm n)):decF n (encF F)=F:=by
 have h:∃ G:List (Pm n),encF F=encF G:=⟨F,rfl⟩;unfold decF;rw [dif_pos h];exact (zhk hn (Classical.choose_spec h)).symm
open Classical in
noncomputable def decP (n:Nat) (l:List Int):Pm n:=if h:∃ p:Pm n,l=pA p then Classical.choose h else Pm.one n
theorem zd6 (hn:n≤12) (p:Pm n):decP n (pA p)=p:=by
 have h:∃ q:Pm n,pA p=pA q:=⟨p,rfl⟩;unfold decP;rw [dif_pos h];exact (zk7 hn (Classical.choose_spec h)).symm
theorem gset2 (l:List Int) (i x:Nat) (v:Int):(l.set i v).getD x 0=if x=i∧i<l.length then v else l.getD x 0:=by
 rw [List.getD_eq_getElem?_getD,List.getD_eq_getElem?_getD,List.getElem?_set]
 by_cases h:i=x
 ·subst h
  by_cases h2:i<l.length
  ·simp [h2]
  ·simp [h2]
 ·rw [if_neg h,if_neg (by omega)]
noncomputable def invS (e:List Int):Nat→List Int
 | 0=>zerosL 12
 | i+1=>(invS e i).set (e.getD i 0).toNat (i:Int)
theorem zck (e:List Int):∀ i,(invS e i).length=12
 | 0=>by unfold invS zerosL;simp
 | i+1=>by unfold invS;rw [List.length_set,zck e i]
theorem zlm (hn:n≤12) (p:Pm n):∀ (i:Nat),i≤12→∀ x,x<12→p.g x<i→(invS (pA p) i).getD x 0=(p.g x:Int)
 | 0,_,x,_,h=>by omega
 | i+1,hi,x,hx,h=>by
  unfold invS;rw [gset2,zck,zbj p (by omega),Int.toNat_natCast]
  by_cases e:x=p.f i
  ·subst e;rw [if_pos ⟨rfl,hx⟩,p.gf]
  ·rw [if_neg (fun h=>e h.1)];refine zlm hn p i (by omega) x hx ?_;have:p.g x≠i:=fun e2=>e (by rw [← e2,p.fg]);omega
theorem Pm.lt12 (hn:n≤12) (p:Pm n) {x:Nat} (hx:x<12):p.f x<12:=by
 by_cases h:x<n
 ·have:=p.lt h;omega
 ·rw [p.out x (by omega)];exact hx
theorem zfj (hn:n≤12) (p:Pm n):invS (pA p) 12=pA p.inv:=zf8 (zck _ 12) fun x hx=>by
 rw [zlm hn p 12 (Nat.le_refl _) x hx (p.inv.lt12 hn hx)];rfl
def In12 (e:List Int):Prop:=e.length=12∧∀ i,i<12→0≤e.getD i 0∧e.getD i 0<12
noncomputable instance (e:List Int):Decidable (In12 e):=Classical.propDecidable _
theorem In12.pA (hn:n≤12) (p:Pm n):In12 (pA p):=⟨zas p,fun i hi=>by
 rw [zbj p hi];have:=p.lt12 hn hi;omega⟩
theorem pA_L (p:Pm n) {i:Nat} (hi:0<i∧i<n) (hn:n≤12):((pA p).set (i-1) (p.f i:Int)).set i (p.f (i-1):Int)=pA (p.L i hi):=zf8 (by rw [List.length_set,List.length_set,zas]) fun x hx=>by
 show _=((p.f (sw i x):Nat):Int);rw [gset2,gset2,List.length_set,zas]
 by_cases h1:x=i
 ·rw [if_pos ⟨h1,by omega⟩,h1,Pm.sw_at]
 ·rw [if_neg (fun h=>h1 h.1)]
  by_cases h2:x=i-1
  ·rw [if_pos ⟨h2,by omega⟩,h2,Pm.sw_pre hi.1]
  ·rw [if_neg (fun h=>h2 h.1),zbj p hx,Pm.sw_ne h1 (by omega)]
theorem inv_R (p:Pm n) {i:Nat} (hi:0<i∧i<n):(p.R i hi).inv=p.inv.L i hi:=rfl
def FormOk (n:Int) (L:List Int) (len:Nat):Prop:=0≤n∧n≤12∧∃ F:List (Pm n.toNat),L=encF F∧len=F.length∧len≤5000
noncomputable instance (n:Int) (L:List Int) (len:Nat):Decidable (FormOk n L len):=Classical.propDecidable _
theorem formOk {n:Nat} (hn:n≤12) {F:List (Pm n)} (hF:F.length≤5000):FormOk n (encF F) F.length:=⟨by omega,by omega,F,rfl,rfl,hF⟩
end
section
variable {n:Nat}
def Shp (S:List (Pm n)) (x:Nat×List (Pm n)):Prop:=∃ r,S=List.replicate x.1 (Pm.del n)++(x.2++List.replicate r (Pm.one n))∧(∀ p,p∈x.2→p≠Pm.one n)∧∀ p,p∈x.2→p≠Pm.del n
theorem zvr {S:List (Pm n)} (h:Nrm S):∃ x,Shp S x:=by
 obtain ⟨m,F,r,h1,h2,h3⟩:=zdz h;exact ⟨(m,F),r,h1,h2,h3⟩
open Classical in
noncomputable def shp (S:List (Pm n)):Nat×List (Pm n):=if h:∃ x,Shp S x then Classical.choose h else (0,[])
theorem zvq {S:List (Pm n)} (h:Nrm S):Shp S (shp S):=by
 have h1:=zvr h;unfold shp;rw [dif_pos h1];exact Classical.choose_spec h1
noncomputable def tmD (F:List (Pm n)) (p:Pm n):Nat:=(shp (NF (F++[p]))).1
noncomputable def tmF (F:List (Pm n)) (p:Pm n):List (Pm n):=(shp (NF (F++[p]))).2
theorem tm_ok (F:List (Pm n)) (p:Pm n):∃ r,NF (F++[p])=List.replicate (tmD F p) (Pm.del n)++(tmF F p++List.replicate r (Pm.one n))∧(∀ q,q∈tmF F p→q≠Pm.one n)∧∀ q,q∈tmF F p→q≠Pm.del n:=zvq (zc0 _)
theorem znm (F:List (Pm n)) (p:Pm n):tmD F p+(tmF F p).length≤F.length+1:=by
 obtain ⟨r,h,_⟩:=tm_ok F p;have h1:=congrArg List.length h;rw [zs6,List.length_append,List.length_append,List.length_append,List.length_replicate,List.length_replicate] at h1;simp at h1;omega
structure Frm (n:Nat) where
 pw:Int
 F:List (Pm n)
noncomputable instance (s t:Frm n):Decidable (s=t):=Classical.propDecidable _
noncomputable def Frm.tim (s:Frm n) (p:Pm n):Frm n:=⟨s.pw+tmD s.F p,tmF s.F p⟩
noncomputable def Frm.step (s:Frm n) (i:Int):Frm n:=
 if h:0<i.natAbs∧i.natAbs<n then (if 0<i then s.tim (ltr i.natAbs h) else (⟨s.pw-1,s.F.map Pm.trn⟩:Frm n).tim (ctr i.natAbs h)) else s
noncomputable def nfW (n:Nat) (w:List Int):Frm n:=w.foldl Frm.step ⟨0,[]⟩
noncomputable def rowW (n:Nat) (w:List Int):Int×List (Pm n):=w.foldl stepW (0,[])
def FRep (s:Frm n) (t:Int×List (Pm n)):Prop:=∃ m,Rep t.2 m s.F∧s.pw=t.1+m
theorem FRep.tim {s:Frm n} {t:Int×List (Pm n)} (h:FRep s t) (p:Pm n):FRep (s.tim p) (t.1,t.2++[p]):=by
 obtain ⟨m,h1,h2⟩:=h;obtain ⟨r,g1,g2,g3⟩:=tm_ok s.F p;exact ⟨m+tmD s.F p,h1.more p g1 g2 g3,by show s.pw+(tmD s.F p:Int)=t.1+((m+tmD s.F p:Nat):Int);omega⟩
theorem FRep.trn {s:Frm n} {t:Int×List (Pm n)} (h:FRep s t):FRep ⟨s.pw-1,s.F.map Pm.trn⟩ (t.1-1,t.2.map Pm.trn):=by
 obtain ⟨m,h1,h2⟩:=h;exact ⟨m,h1.trn,by show s.pw-1=t.1-1+m;omega⟩
theorem FRep.step {s:Frm n} {t:Int×List (Pm n)} (h:FRep s t) (i:Int):FRep (s.step i) (stepW t i):=by
 unfold Frm.step stepW;split
 ·split
  ·exact h.tim _
  ·exact h.trn.tim _
 ·exact h
theorem FRep.word {s:Frm n} {t:Int×List (Pm n)} (h:FRep s t) (w:List Int):FRep (w.foldl Frm.step s) (w.foldl stepW t):=by
 induction w generalizing s t with
 | nil=>exact h
 | cons i w ih=>exact ih (h.step i)
theorem zug (n:Nat) (w:List Int):FRep (nfW n w) (rowW n w):=FRep.word ⟨0,Rep.nil,rfl⟩ w
theorem Frm.ext {s t:Frm n} (h1:s.pw=t.pw) (h2:s.F=t.F):s=t:=by cases s;cases t;congr
theorem zgn (s:Frm n) (p:Pm n):(s.tim p).F.length≤s.F.length+1:=by
 have:=znm s.F p;show (tmF s.F p).length≤_;omega
theorem zkr (s:Frm n) (p:Pm n):s.pw≤(s.tim p).pw∧(s.tim p).pw≤s.pw+s.F.length+1:=by
 have:=znm s.F p;show s.pw≤s.pw+(tmD s.F p:Int)∧s.pw+(tmD s.F p:Int)≤_;omega
theorem zqw (s:Frm n) (i:Int):(s.step i).F.length≤s.F.length+1∧s.pw-1≤(s.step i).pw∧(s.step i).pw≤s.pw+s.F.length+1:=by
 unfold Frm.step;split
 ·split
  ·have h1:=zgn s (ltr i.natAbs (by assumption));have h2:=zkr s (ltr i.natAbs (by assumption));omega
  ·have h1:=zgn (⟨s.pw-1,s.F.map Pm.trn⟩:Frm n) (ctr i.natAbs (by assumption));have h2:=zkr (⟨s.pw-1,s.F.map Pm.trn⟩:Frm n) (ctr i.natAbs (by assumption));simp only [List.length_map] at h1 h2;omega
 ·omega
theorem zno (s:Frm n) (p:Pm n):Nrm (s.tim p).F:=by
 obtain ⟨r,h,_⟩:=tm_ok s.F p;have h1:=zc0 (s.F++[p]);rw [h] at h1;exact zud (zuc h1)
theorem znn (s:Frm n) (p:Pm n):(s.tim p).pw+((s.tim p).F.length:Int)≤s.pw+(s.F.length:Int)+1:=by
 have:=znm s.F p;show s.pw+(tmD s.F p:Int)+((tmF s.F p).length:Int)≤_;omega
def Vld (n:Nat) (w:List Int):Prop:=∀ x,x∈w→x≠0 ∧ -(n:Int)<x∧x<n
theorem zqu (s:Frm n) {k:Nat} (hk:0<k∧k<n):s.step (k:Int)=s.tim (ltr k hk):=by
 unfold Frm.step;have e:((k:Int)).natAbs=k:=rfl;rw [dif_pos (show 0<((k:Int)).natAbs∧((k:Int)).natAbs<n from hk),if_pos (by omega)];rfl
theorem zqv (s:Frm n) {k:Nat} (hk:0<k∧k<n):s.step (-(k:Int))=(⟨s.pw-1,s.F.map Pm.trn⟩:Frm n).tim (ctr k hk):=by
 unfold Frm.step;have e:(-(k:Int)).natAbs=k:=by omega
 simp only [e];rw [dif_pos hk,if_neg (by omega)]
end
section
variable {n:Nat}
def gW:List Int→Nat→Nat
 | [],x=>x
 | l::w,x=>gW w (sw l.natAbs x)
theorem zil:∀ (u v:List Int) (x:Nat),gW (u++v) x=gW v (gW u x)
 | [],_,_=>rfl
 | l::u,v,x=>zil u v (sw l.natAbs x)
theorem znq {i x:Nat} (hi:0<i∧i<n) (hx:x<n):sw i x<n:=by
 unfold sw;split
 ·omega
 ·split <;> omega
theorem Vld.head {x:Int} {w:List Int} (h:Vld n (x::w)):0<x.natAbs∧x.natAbs<n:=by
 obtain ⟨h1,h2,h3⟩:=h x List.mem_cons_self;omega
theorem Vld.tail {x:Int} {w:List Int} (h:Vld n (x::w)):Vld n w:=fun y hy=>h y (List.mem_cons_of_mem _ hy)
theorem Vld.app {u v:List Int} (h:Vld n u) (k:Vld n v):Vld n (u++v):=fun x hx=>by
 rcases List.mem_append.1 hx with e|e
 ·exact h x e
 ·exact k x e
theorem gW_lt:∀ {w:List Int},Vld n w→∀ {x:Nat},x<n→gW w x<n
 | [],_,_,hx=>hx
 | _::_,h,_,hx=>gW_lt h.tail (znq h.head hx)
def lowL (x:Int):Int:=if x<0 then x+1 else x-1
def oth:Nat→List Int→List Int×Nat
 | p,[]=>([],p)
 | p,x::w=>if p+1=x.natAbs∨p=x.natAbs then oth (sw x.natAbs p) w else if p<x.natAbs then (lowL x::(oth p w).1,(oth p w).2) else (x::(oth p w).1,(oth p w).2)
theorem zev (p:Nat) (x:Int) (w:List Int):oth p (x::w)=if p+1=x.natAbs∨p=x.natAbs then oth (sw x.natAbs p) w else if p<x.natAbs then (lowL x::(oth p w).1,(oth p w).2) else (x::(oth p w).1,(oth p w).2):=rfl
theorem zic:∀ (w:List Int) (p:Nat),(oth p w).2=gW w p
 | [],_=>rfl
 | x::w,p=>by
  rw [zev];show _=gW w (sw x.natAbs p);split
  ·exact zic w _
  ·rename_i h;have e:sw x.natAbs p=p:=Pm.sw_ne (by omega) (by omega);rw [e];split
   ·exact zic w p
   ·exact zic w p
theorem zfe:∀ (w:List Int) (p:Nat),(oth p w).1.length≤w.length
 | [],_=>Nat.le_refl _
 | x::w,p=>by
  rw [zev];split
  ·have:=zfe w (sw x.natAbs p);simp only [List.length_cons];omega
  ·split
   ·have:=zfe w p;simp only [List.length_cons];omega
   ·have:=zfe w p;simp only [List.length_cons];omega
theorem zg1:∀ {w:List Int} {p:Nat},Vld n w→p<n→Vld (n-1) (oth p w).1
 | [],_,_,_=>fun x hx=>by cases hx
 | x::w,p,h,hp=>by
  have hx:=h.head;rw [zev];split
  ·exact zg1 h.tail (znq hx hp)
  ·rename_i h1;split
   ·rename_i h2;refine fun y hy=>?_;rcases List.mem_cons.1 hy with e|e
    ·subst e;unfold lowL;split <;> omega
    ·exact zg1 h.tail hp y e
   ·refine fun y hy=>?_;rcases List.mem_cons.1 hy with e|e
    ·subst e;omega
    ·exact zg1 h.tail hp y e
def upW (s:Int) (a:Nat):Nat→List Int
 | 0=>[]
 | d+1=>s*((a+1:Nat):Int)::upW s (a+1) d
def dnW (s:Int) (a:Nat):Nat→List Int
 | 0=>[]
 | d+1=>s*((a+d+1:Nat):Int)::dnW s a d
theorem zke {s:Int} (hs:s=1∨s = -1) (k:Nat):(s*(k:Int)).natAbs=k:=by
 rcases hs with h|h <;> subst h <;> omega
theorem zto {s:Int} (hs:s=1∨s = -1) {k:Nat} (h1:0<k) (h2:k<n):s*(k:Int)≠0 ∧ -(n:Int)<s*(k:Int)∧s*(k:Int)<n:=by
 rcases hs with h|h <;> subst h <;> omega
theorem znj {s:Int} (hs:s=1∨s = -1):∀ (d a:Nat),a+d<n→Vld n (upW s a d)
 | 0,_,_=>fun x hx=>by cases hx
 | d+1,a,h=>fun x hx=>by
  rcases List.mem_cons.1 hx with e|e
  ·subst e;exact zto hs (by omega) (by omega)
  ·exact znj hs d (a+1) (by omega) x e
def layW (n:Nat) (w:List Int) (p:Nat) (s:Int):List Int:=upW s p (n-1-p)++(oth p w).1++dnW (-s) (oth p w).2 (n-1-(oth p w).2)
theorem zop {s:Int} (hs:s=1∨s = -1):-s=1 ∨ -s = -1:=by omega
theorem zqq {m:Nat} (h:m≤n) {w:List Int} (hv:Vld m w):Vld n w:=fun x hx=>by
 obtain ⟨h1,h2,h3⟩:=hv x hx;omega
def invW (w:List Int):List Int:=(w.map fun x=>-x).reverse
theorem zrn {w:List Int} (h:Vld n w):Vld n (invW w):=fun x hx=>by
 unfold invW at hx;rw [List.mem_reverse] at hx;obtain ⟨y,hy,rfl⟩:=List.mem_map.1 hx;obtain ⟨h1,h2,h3⟩:=h y hy;omega
theorem zo2 (w:List Int):invW (invW w)=w:=by
 unfold invW;rw [List.map_reverse,List.reverse_reverse,List.map_map];refine (List.map_congr_left (g:=id) fun x _=>?_).trans (List.map_id _);show - -x=x;omega
theorem E.cancel (hn:2≤n) {x:Int} (hx:0<x.natAbs∧x.natAbs<n) (s:Int×List (Pm n)):E (stepW (stepW s x) (-x)) s:=by
 rcases Int.lt_or_le x 0 with h|h
 ·obtain ⟨k,hk⟩:=Int.eq_ofNat_of_zero_le (show 0 ≤ -x by omega);have e:x = -(k:Int):=by omega
  subst e;rw [show - -(k:Int)=(k:Int) by omega];exact E.negpos hn s (by omega)
 ·obtain ⟨k,rfl⟩:=Int.eq_ofNat_of_zero_le h;exact E.posneg hn s (by omega)
end
section
variable {n:Nat}
def lnF:List Int→(Nat→Nat)→Nat→Nat
 | [],p=>p
 | x::u,p=>lnF u (fun y=>p (sw x.natAbs y))
def sgL (x:Int):Int:=if x<0 then -1 else 1
def lk:List Int→(Nat→Nat)→Nat→Nat→Int
 | [],_,_,_=>0
 | x::u,p,a,b=>(if a=p (x.natAbs-1)∧b=p x.natAbs∨a=p x.natAbs∧b=p (x.natAbs-1) then sgL x else 0)+lk u (fun y=>p (sw x.natAbs y)) a b
def sgW:List Int→Int
 | []=>0
 | x::u=>sgL x+sgW u
theorem zeg:∀ (u v:List Int) (p:Nat→Nat),lnF (u++v) p=lnF v (lnF u p)
 | [],_,_=>rfl
 | _::u,v,_=>zeg u v _
theorem zer:∀ (u v:List Int) (p:Nat→Nat) (a b:Nat),lk (u++v) p a b=lk u p a b+lk v (lnF u p) a b
 | [],v,p,a,b=>by show _=0+_;rw [Int.zero_add];rfl
 | x::u,v,p,a,b=>by
  show _+lk (u++v) _ a b=_+lk u _ a b+lk v _ a b;rw [zer u v,Int.add_assoc];rfl
theorem ze6:∀ (u v:List Int),sgW (u++v)=sgW u+sgW v
 | [],v=>by show _=0+_;rw [Int.zero_add];rfl
 | x::u,v=>by
  show _+sgW (u++v)=_+sgW u+sgW v;rw [ze6 u v,Int.add_assoc]
structure Alk (n:Nat) (u v:List Int):Prop where
 e:2≤n→∀ s:Int×List (Pm n),E (u.foldl stepW s) (v.foldl stepW s)
 g:∀ x,gW u x=gW v x
 l:∀ p,lnF u p=lnF v p
 k:∀ p a b,lk u p a b=lk v p a b
 s:sgW u=sgW v
theorem Alk.refl (u:List Int):Alk n u u:=⟨fun _ s=>E.refl _,fun _=>rfl,fun _=>rfl,fun _ _ _=>rfl,rfl⟩
theorem Alk.trans {u v w:List Int} (h:Alk n u v) (q:Alk n v w):Alk n u w:=⟨fun hn s=>(h.e hn s).trans hn (q.e hn s),fun x=>(h.g x).trans (q.g x),fun p=>(h.l p).trans (q.l p),fun p a b=>(h.k p a b).trans (q.k p a b),h.s.trans q.s⟩
theorem Alk.ctx {u v:List Int} (h:Alk n u v) (a b:List Int):Alk n (a++(u++b)) (a++(v++b)):=by
 refine ⟨fun hn s=>?_,fun x=>?_,fun p=>?_,fun p x y=>?_,?_⟩
 ·rw [List.foldl_append,List.foldl_append,List.foldl_append,List.foldl_append];exact E.word (h.e hn _) b
 ·rw [zil,zil,zil,zil,h.g]
 ·rw [zeg,zeg,zeg,zeg,h.l]
 ·rw [zer,zer,zer,zer,h.k,h.l]
 ·rw [ze6,ze6,ze6,ze6,h.s]
theorem sw_in (k x:Nat) (h:0<k):sw k (sw k x)=x:=sw_sw h x
theorem sw_at {k:Nat} (h:0<k):sw k k=k-1:=by unfold sw;rw [if_pos rfl]
theorem sw_lo {k:Nat} (h:0<k):sw k (k-1)=k:=by unfold sw;rw [if_neg (by omega),if_pos (by omega)]
theorem Alk.undo {i:Int} (h:0<i.natAbs∧i.natAbs<n):Alk n [i,-i] []:=by
 have ea:(-i).natAbs=i.natAbs:=by omega
 refine ⟨fun hn s=>E.cancel hn h s,fun x=>?_,fun p=>?_,fun p a b=>?_,?_⟩
 ·show sw (-i).natAbs (sw i.natAbs x)=x;rw [ea,sw_in _ _ h.1]
 ·show (fun y=>p (sw i.natAbs (sw (-i).natAbs y)))=p
  funext y
  rw [ea,sw_in _ _ h.1]
 ·show (if _ then _ else _)+((if a=p (sw i.natAbs ((-i).natAbs-1))∧b=p (sw i.natAbs (-i).natAbs)∨a=p (sw i.natAbs (-i).natAbs)∧b=p (sw i.natAbs ((-i).natAbs-1)) then sgL (-i) else 0)+0)=0
  rw [ea,sw_at h.1,sw_lo h.1];have es:sgL (-i) = - sgL i:=by unfold sgL;split <;> split <;> omega
  rw [es]
  by_cases c:a=p (i.natAbs-1)∧b=p i.natAbs∨a=p i.natAbs∧b=p (i.natAbs-1)
  ·rw [if_pos c,if_pos c.symm];omega
  ·rw [if_neg c,if_neg fun d=>c d.symm];rfl
 ·show sgL i+(sgL (-i)+0)=0;unfold sgL;split <;> split <;> omega
theorem Alk.far {i j:Int} (hi:0<i.natAbs∧i.natAbs<n) (hj:0<j.natAbs∧j.natAbs<n) (h:Far i.natAbs j.natAbs):Alk n [i,j] [j,i]:=by
 have h':=h;unfold Far at h;have e1:sw i.natAbs j.natAbs=j.natAbs:=Pm.sw_ne (by omega) (by omega);have e2:sw i.natAbs (j.natAbs-1)=j.natAbs-1:=Pm.sw_ne (by omega) (by omega);have e3:sw j.natAbs i.natAbs=i.natAbs:=Pm.sw_ne (by omega) (by omega);have e4:sw j.natAbs (i.natAbs-1)=i.natAbs-1:=Pm.sw_ne (by omega) (by omega);have com:∀ x,sw j.natAbs (sw i.natAbs x)=sw i.natAbs (sw j.natAbs x):=fun x=>by
  unfold sw
  repeat' split
  all_goals omega
 refine ⟨fun hn s=>E.far s hi hj h',fun x=>com x,fun p=>?_,fun p a b=>?_,?_⟩
 ·funext y
  show p (sw i.natAbs (sw j.natAbs y))=p (sw j.natAbs (sw i.natAbs y));rw [com]
 ·show (if _ then _ else _)+((if a=p (sw i.natAbs (j.natAbs-1))∧b=p (sw i.natAbs j.natAbs)∨a=p (sw i.natAbs j.natAbs)∧b=p (sw i.natAbs (j.natAbs-1)) then sgL j else 0)+0)=(if _ then _ else _)+((if a=p (sw j.natAbs (i.natAbs-1))∧b=p (sw j.natAbs i.natAbs)∨a=p (sw j.natAbs i.natAbs)∧b=p (sw j.natAbs (i.natAbs-1)) then sgL i else 0)+0)
  rw [e1,e2,e3,e4];omega
 ·show sgL i+(sgL j+0)=sgL j+(sgL i+0);omega
theorem lk3 (p:Nat→Nat) (a b i j:Nat):lk [(i:Int),(j:Int),(i:Int)] p a b=(if a=p (i-1)∧b=p i∨a=p i∧b=p (i-1) then 1 else 0)+((if a=p (sw i (j-1))∧b=p (sw i j)∨a=p (sw i j)∧b=p (sw i (j-1)) then 1 else 0)+((if a=p (sw i (sw j (i-1)))∧b=p (sw i (sw j i))∨a=p (sw i (sw j i))∧b=p (sw i (sw j (i-1))) then 1 else 0)+0)):=by
 have e:∀ k:Nat,sgL (k:Int)=1:=fun k=>by unfold sgL;rw [if_neg (by omega)]
 show (if a=p (i-1)∧b=p i∨a=p i∧b=p (i-1) then sgL (i:Int) else 0)+((if a=p (sw i (j-1))∧b=p (sw i j)∨a=p (sw i j)∧b=p (sw i (j-1)) then sgL (j:Int) else 0)+((if a=p (sw i (sw j (i-1)))∧b=p (sw i (sw j i))∨a=p (sw i (sw j i))∧b=p (sw i (sw j (i-1))) then sgL (i:Int) else 0)+0))=_
 rw [e,e]
theorem Alk.braid0 {i j:Nat} (hi:0<i∧i<n) (hj:0<j∧j<n) (h:j=i+1):Alk n [(i:Int),(j:Int),(i:Int)] [(j:Int),(i:Int),(j:Int)]:=by
 have e:∀ k:Nat,sgL (k:Int)=1:=fun k=>by unfold sgL;rw [if_neg (by omega)]
 have com:∀ x,sw i (sw j (sw i x))=sw j (sw i (sw j x)):=fun x=>by
  subst h;have s2:sw i (i+1)=i+1:=Pm.sw_ne (by omega) (by omega);have s3:sw (i+1) (i-1)=i-1:=Pm.sw_ne (by omega) (by omega);have s4:sw (i+1) i=i+1:=by unfold sw;rw [if_neg (by omega),if_pos rfl]
  have s5:sw (i+1) (i+1)=i:=by rw [sw_at (by omega)];rfl
  by_cases c1:x=i-1
  ·rw [c1,sw_lo hi.1,s4,s2,s3,sw_lo hi.1,s4]
  by_cases c2:x=i
  ·rw [c2,sw_at hi.1,s3,sw_lo hi.1,s4,s2,s5]
  by_cases c3:x=i+1
  ·rw [c3,s2,s5,sw_at hi.1,s3]
  ·have s6:sw i x=x:=Pm.sw_ne (by omega) (by omega);have s7:sw (i+1) x=x:=Pm.sw_ne (by omega) (by omega);rw [s6,s7,s6,s7]
 refine ⟨fun hn s=>E.braid s hi hj (.inl h),fun x=>com x,fun p=>?_,fun p a b=>?_,?_⟩
 ·funext y
  show p (sw i (sw j (sw i y)))=p (sw j (sw i (sw j y)));rw [com]
 ·rw [lk3,lk3];subst h;have s1:sw i (i+1-1)=i-1:=by rw [Nat.add_sub_cancel,sw_at hi.1]
  have s2:sw i (i+1)=i+1:=Pm.sw_ne (by omega) (by omega);have s3:sw (i+1) (i-1)=i-1:=Pm.sw_ne (by omega) (by omega);have s4:sw (i+1) i=i+1:=by unfold sw;rw [if_neg (by omega),if_pos rfl]
  have s5:sw (i+1) (i+1)=i:=by rw [sw_at (by omega)];rfl
  rw [s1,s2,s3,s4,s2,sw_lo hi.1,Nat.add_sub_cancel,s5];omega
 ·show sgL i+(sgL j+(sgL i+0))=sgL j+(sgL i+(sgL j+0));rw [e,e]
theorem Alk.symm (hn:2≤n) {u v:List Int} (h:Alk n u v):Alk n v u:=⟨fun _ s=>(h.e hn s).symm,fun x=>(h.g x).symm,fun p=>(h.l p).symm,fun p a b=>(h.k p a b).symm,h.s.symm⟩
theorem Alk.braid {i j:Nat} (hi:0<i∧i<n) (hj:0<j∧j<n) (h:j=i+1∨i=j+1):Alk n [(i:Int),(j:Int),(i:Int)] [(j:Int),(i:Int),(j:Int)]:=by
 rcases h with h|h
 ·exact Alk.braid0 hi hj h
 ·exact (Alk.braid0 hj hi h).symm (by omega)
theorem Vld.sub {u v:List Int} (h:Vld n u) (hs:∀ x,x∈v→x∈u):Vld n v:=fun x hx=>h x (hs x hx)
end
section
variable {n:Nat}
inductive Cn (n:Nat):List Int→List Int→Prop
 | refl (u:List Int):Cn n u u
 | symm {u v:List Int} (h:Cn n u v):Cn n v u
 | trans {u v w:List Int} (h:Cn n u v) (k:Cn n v w):Cn n u w
 | undo (a b:List Int) (i:Int) (h:0<i.natAbs∧i.natAbs<n):Cn n (a++([i,-i]++b)) (a++b)
 | far (a b:List Int) (i j:Nat) (hi:0<i) (hij:i+2≤j) (hj:j<n):Cn n (a++([(i:Int),(j:Int)]++b)) (a++([(j:Int),(i:Int)]++b))
 | braid (a b:List Int) (i:Nat) (hi:0<i) (hj:i+1<n):Cn n (a++([(i:Int),((i+1:Nat):Int),(i:Int)]++b)) (a++([((i+1:Nat):Int),(i:Int),((i+1:Nat):Int)]++b))
theorem Cn.pre {u v:List Int} (h:Cn n u v) (a:List Int):Cn n (a++u) (a++v):=by
 induction h with
 | refl u=>exact .refl _
 | symm _ ih=>exact ih.symm
 | trans _ _ h1 h2=>exact h1.trans h2
 | undo c d i h=>
  have:=Cn.undo (n:=n) (a++c) d i h;rw [List.append_assoc,List.append_assoc] at this;exact this
 | far c d i j h1 h2 h3=>
  have:=Cn.far (n:=n) (a++c) d i j h1 h2 h3;rw [List.append_assoc,List.append_assoc] at this;exact this
 | braid c d i h1 h2=>
  have:=Cn.braid (n:=n) (a++c) d i h1 h2;rw [List.append_assoc,List.append_assoc] at this;exact this
theorem Cn.post {u v:List Int} (h:Cn n u v) (b:List Int):Cn n (u++b) (v++b):=by
 induction h with
 | refl u=>exact .refl _
 | symm _ ih=>exact ih.symm
 | trans _ _ h1 h2=>exact h1.trans h2
 | undo c d i h=>rw [List.append_assoc,List.append_assoc,List.append_assoc];exact .undo _ _ i h
 | far c d i j h1 h2 h3=>rw [List.append_assoc,List.append_assoc,List.append_assoc,List.append_assoc];exact .far _ _ i j h1 h2 h3
 | braid c d i h1 h2=>rw [List.append_assoc,List.append_assoc,List.append_assoc,List.append_assoc];exact .braid _ _ i h1 h2
theorem Cn.app {u v x y:List Int} (h:Cn n u v) (k:Cn n x y):Cn n (u++x) (v++y):=(h.post x).trans (k.pre v)
theorem Cn.cons {u v:List Int} (h:Cn n u v) (x:Int):Cn n (x::u) (x::v):=h.pre [x]
theorem Cn.inv1:∀ {u:List Int},Vld n u→Cn n (u++invW u) []
 | [],_=>.refl _
 | x::u,h=>by
  have e:(x::u)++invW (x::u)=[x]++((u++invW u)++[-x]):=by
   unfold invW;rw [List.map_cons,List.reverse_cons,List.cons_append,List.append_assoc];rfl
  rw [e];exact (((Cn.inv1 h.tail).post [-x]).pre [x]).trans (.undo [] [] x h.head)
theorem Cn.inv2 {u:List Int} (h:Vld n u):Cn n (invW u++u) []:=by
 have:=Cn.inv1 (zrn h)
 rwa [zo2] at this
theorem Cn.alk (hn:2≤n) {u v:List Int} (h:Cn n u v):Alk n u v:=by
 induction h with
 | refl u=>exact .refl _
 | symm _ ih=>exact ih.symm hn
 | trans _ _ h1 h2=>exact h1.trans h2
 | undo c d i h=>exact (Alk.undo h).ctx c d
 | far c d i j h1 h2 h3=>exact (Alk.far (i:=(i:Int)) (j:=(j:Int)) (by omega) (by omega) (.inl (by omega))).ctx c d
 | braid c d i h1 h2=>exact (Alk.braid (i:=i) (j:=i+1) ⟨h1,by omega⟩ ⟨by omega,h2⟩ (.inl rfl)).ctx c d
namespace Pm
theorem W_L (p:Pm n) {i:Nat} (hi:0<i∧i<n) (h:p.beg i):p.W<(p.L i hi).W:=by
 have h3:=zkf (F:=fun x=>x*(p.L i hi).f x) (G:=fun x=>x*p.f x) n (p:=i-1) (q:=i) (by omega) hi.2 (fun x hx n1 n2=>by
  show x*p.f (sw i x)=x*p.f x;rw [Pm.sw_ne n2 (by omega)])
 have e1:(p.L i hi).f (i-1)=p.f i:=by show p.f (sw i (i-1))=_;rw [Pm.sw_pre hi.1]
 have e2:(p.L i hi).f i=p.f (i-1):=by show p.f (sw i i)=_;rw [Pm.sw_at]
 simp only [e1,e2] at h3;show Sum _ n<Sum _ n;have h:p.f i<p.f (i-1):=h;obtain ⟨k,rfl⟩:∃ k,i=k+1:=⟨i-1,by omega⟩;rw [Nat.add_sub_cancel] at h h3;rw [Nat.succ_mul,Nat.succ_mul] at h3;omega
theorem RR (p:Pm n) {i:Nat} (hi:0<i∧i<n):(p.R i hi).R i hi=p:=ext fun x=>by
 show sw i (sw i (p.f x))=_;rw [sw_sw hi.1]
end Pm
inductive Rd {n:Nat}:Pm n→List Int→Prop
 | one:Rd (Pm.one n) []
 | cons (p:Pm n) (i:Nat) (hi:0<i∧i<n) (hb:p.beg i) {u:List Int} (h:Rd (p.L i hi) u):Rd p ((i:Int)::u)
theorem Rd.ex:∀ (k:Nat) (p:Pm n),n*(n*n)-p.W≤k→∃ u,Rd p u
 | k,p,hk=>by
  by_cases h:∃ i,0<i∧i<n∧p.beg i
  ·obtain ⟨i,h1,h2,h3⟩:=h;have h4:=p.W_L ⟨h1,h2⟩ h3;have h5:=(p.L i ⟨h1,h2⟩).W_le
   match k with
   | 0=>omega
   | k+1=>
    obtain ⟨u,hu⟩:=Rd.ex k (p.L i ⟨h1,h2⟩) (by omega);exact ⟨_,.cons p i ⟨h1,h2⟩ h3 hu⟩
  ·have:p=Pm.one n:=Pm.one_of fun i h1 h2 h3=>h ⟨i,h1,h2,h3⟩;subst this;exact ⟨[],.one⟩
theorem Rd.ex' (p:Pm n):∃ u,Rd p u:=Rd.ex _ p (Nat.le_refl _)
theorem Rd.vld {p:Pm n} {u:List Int} (h:Rd p u):Vld n u:=by
 induction h with
 | one=>intro x hx;cases hx
 | cons p i hi hb _ ih=>
  intro x hx;rcases List.mem_cons.1 hx with rfl|hx
  ·omega
  ·exact ih x hx
theorem Rd.nil {u:List Int} (h:Rd (Pm.one n) u):u=[]:=by
 generalize hp:Pm.one n=p at h
 cases h with
 | one=>rfl
 | cons p i hi hb h=>subst hp;exact absurd hb (Pm.one_beg i hi.1)
theorem Rd.snoc {p:Pm n} {u:List Int} (h:Rd p u) {i:Nat} (hi:0<i∧i<n) (hf:¬ p.fin i):Rd (p.R i hi) (u++[(i:Int)]):=by
 induction h with
 | one=>
  have e:((Pm.one n).R i hi).L i hi=Pm.one n:=Pm.ext fun x=>by
   show sw i (sw i x)=x;rw [sw_sw hi.1]
  refine .cons _ i hi ?_ ?_
  ·show sw i i<sw i (i-1);rw [Pm.sw_at,Pm.sw_pre hi.1];omega
  ·rw [e];exact .one
 | cons p j hj hb _ ih=>
  refine .cons _ j hj (Pm.beg_R hi hj.1 hb hf) ?_;exact ih fun q=>hf (Pm.fin_of_L hj hi.1 hb q)
theorem Rd.two {p:Pm n} {i j:Nat} {u v:List Int} (hij:i<j) (hi:0<i∧i<n) (hj:0<j∧j<n) (bi:p.beg i) (bj:p.beg j) (hu:Rd (p.L i hi) u) (hv:Rd (p.L j hj) v) (ihu:∀ x,Rd (p.L i hi) x→Cn n u x) (ihv:∀ x,Rd (p.L j hj) x→Cn n v x):Cn n ((i:Int)::u) ((j:Int)::v):=by
 have bi':p.f i<p.f (i-1):=bi;have bj':p.f j<p.f (j-1):=bj
 by_cases hf:i+2≤j
 ·have e:(p.L i hi).L j hj=(p.L j hj).L i hi:=Pm.ext fun x=>by
   show p.f (sw i (sw j x))=p.f (sw j (sw i x));rw [Pm.sw_comm hf hi.1]
  obtain ⟨x,hx⟩:=Rd.ex' ((p.L i hi).L j hj);have b1:(p.L i hi).beg j:=by
   show p.f (sw i j)<p.f (sw i (j-1));rw [Pm.sw_ne (by omega) (by omega),Pm.sw_ne (by omega) (by omega)];exact bj'
  have b2:(p.L j hj).beg i:=by
   show p.f (sw j i)<p.f (sw j (i-1));rw [Pm.sw_ne (by omega) (by omega),Pm.sw_ne (by omega) (by omega)];exact bi'
  have h1:=(ihu _ (.cons _ j hj b1 hx)).cons (i:Int);have h2:=(ihv _ (.cons _ i hi b2 (e ▸ hx))).cons (j:Int);exact h1.trans ((Cn.far [] x i j hi.1 hf hj.2).trans h2.symm)
 ·obtain rfl:j=i+1:=by omega
  rw [Nat.add_sub_cancel] at bj';have e:((p.L i hi).L (i+1) hj).L i hi=((p.L (i+1) hj).L i hi).L (i+1) hj:=Pm.ext fun x=>by
   show p.f (sw i (sw (i+1) (sw i x)))=p.f (sw (i+1) (sw i (sw (i+1) x)));rw [Pm.sw_braid hi.1]
  obtain ⟨x,hx⟩:=Rd.ex' (((p.L i hi).L (i+1) hj).L i hi);have s1:sw i (i+1)=i+1:=Pm.sw_ne (by omega) (by omega);have s2:sw (i+1) i=i+1:=by have:=Pm.sw_pre (i:=i+1) (by omega);rwa [Nat.add_sub_cancel] at this
  have s3:sw (i+1) (i+1)=i:=by have:=Pm.sw_at (i+1);rwa [Nat.add_sub_cancel] at this
  have s4:sw (i+1) (i-1)=i-1:=Pm.sw_ne (by omega) (by omega);have b1:(p.L i hi).beg (i+1):=by
   show p.f (sw i (i+1))<p.f (sw i (i+1-1));rw [Nat.add_sub_cancel,s1,Pm.sw_at];omega
  have b2:((p.L i hi).L (i+1) hj).beg i:=by
   show p.f (sw i (sw (i+1) i))<p.f (sw i (sw (i+1) (i-1)));rw [s2,s4,s1,Pm.sw_pre hi.1];exact bj'
  have b3:(p.L (i+1) hj).beg i:=by
   show p.f (sw (i+1) i)<p.f (sw (i+1) (i-1));rw [s2,s4];omega
  have b4:((p.L (i+1) hj).L i hi).beg (i+1):=by
   show p.f (sw (i+1) (sw i (i+1)))<p.f (sw (i+1) (sw i (i+1-1)));rw [Nat.add_sub_cancel,s1,s3,Pm.sw_at,s4];exact bi'
  have h1:=(ihu _ (.cons _ (i+1) hj b1 (.cons _ i hi b2 hx))).cons (i:Int);have h2:=(ihv _ (.cons _ i hi b3 (.cons _ (i+1) hj b4 (e ▸ hx)))).cons ((i+1:Nat):Int);exact h1.trans ((Cn.braid [] x i hi.1 hj.2).trans h2.symm)
theorem Rd.cn0:∀ (k:Nat) {p:Pm n} {u v:List Int},n*(n*n)-p.W≤k→Rd p u→Rd p v→Cn n u v
 | k,p,_,_,hk,hu,hv=>by
  cases hu with
  | one=>rw [hv.nil];exact .refl _
  | cons _ i hi bi hu=>
   rename_i u
   cases hv with
   | one=>exact absurd bi (Pm.one_beg i hi.1)
   | cons _ j hj bj hv=>
    rename_i v;have w1:=p.W_L hi bi;have w2:=(p.L i hi).W_le;have w3:=p.W_L hj bj
    match k with
    | 0=>omega
    | k+1=>
     have ihu:∀ x,Rd (p.L i hi) x→Cn n u x:=fun x hx=>Rd.cn0 k (by omega) hu hx;have ihv:∀ x,Rd (p.L j hj) x→Cn n v x:=fun x hx=>Rd.cn0 k (by omega) hv hx;rcases Nat.lt_trichotomy i j with h|h|h
     ·exact Rd.two h hi hj bi bj hu hv ihu ihv
     ·subst h;exact (ihu _ hv).cons _
     ·exact (Rd.two h hj hi bj bi hv hu ihv ihu).symm
theorem Rd.cn {p:Pm n} {u v:List Int} (hu:Rd p u) (hv:Rd p v):Cn n u v:=Rd.cn0 _ (Nat.le_refl _) hu hv
noncomputable def wd (p:Pm n):List Int:=Classical.choose (Rd.ex' p)
theorem wd_ok (p:Pm n):Rd p (wd p):=Classical.choose_spec (Rd.ex' p)
noncomputable def wdR (l:List (Pm n)):List Int:=l.flatMap wd
theorem ze2 (l m:List (Pm n)):wdR (l++m)=wdR l++wdR m:=List.flatMap_append
theorem zdo (a:Pm n) (l:List (Pm n)):wdR (a::l)=wd a++wdR l:=rfl
theorem zvd:wd (Pm.one n)=[]:=(wd_ok _).nil
theorem Mv.cn {s t:List (Pm n)} (h:Mv s t):Cn n (wdR s) (wdR t):=by
 induction h with
 | here a b l i hi hb hf=>
  simp only [zdo];have h1:Cn n (wd b) ([(i:Int)]++wd (b.L i hi)):=(wd_ok b).cn (.cons b i hi hb (wd_ok _));have h2:Cn n (wd a++[(i:Int)]) (wd (a.R i hi)):=((wd_ok a).snoc hi hf).cn (wd_ok _);have h3:=(h1.post (wdR l)).pre (wd a);have h4:=h2.post (wd (b.L i hi)++wdR l);rw [List.append_assoc] at h4;rw [List.append_assoc] at h3;exact h3.trans h4
 | there a _ ih=>simp only [zdo];exact ih.pre _
theorem Mvs.cn {s t:List (Pm n)} (h:Mvs s t):Cn n (wdR s) (wdR t):=by
 induction h with
 | refl s=>exact .refl _
 | step h _ ih=>exact h.cn.trans ih
theorem NF_cn (l:List (Pm n)):Cn n (wdR l) (wdR (NF l)):=(NF_mv l).cn
noncomputable def dl (n:Nat):List Int:=wd (Pm.del n)
theorem dl_ok:Rd (Pm.del n) (dl n):=wd_ok _
theorem zwb:Vld n (dl n):=dl_ok.vld
theorem zj7 {i:Nat} (hi:0<i∧i<n):Cn n ([(i:Int)]++dl n) (dl n++[((n-i:Nat):Int)]):=by
 have hi2:0<n-i∧n-i<n:=by omega
 have r1:Pm.rv n (n-i)=i-1:=by unfold Pm.rv;rw [if_pos hi2.2];omega
 have r2:Pm.rv n (n-i-1)=i:=by unfold Pm.rv;rw [if_pos (by omega)];omega
 have hb:(Pm.del n).beg i:=Pm.del_fin hi.1 hi.2;have e:((Pm.del n).L i hi).R (n-i) hi2=Pm.del n:=Pm.ext fun x=>by
  show sw (n-i) (Pm.rv n (sw i x))=Pm.rv n x;rw [rv_sw hi,sw_sw hi2.1]
 have hf:¬ ((Pm.del n).L i hi).fin (n-i):=by
  rw [Pm.nfin hi2.1];show sw i (Pm.rv n (n-i-1))<sw i (Pm.rv n (n-i));rw [r1,r2,Pm.sw_at,Pm.sw_pre hi.1];omega
 have h1:Cn n (dl n) ([(i:Int)]++wd ((Pm.del n).L i hi)):=dl_ok.cn (.cons _ i hi hb (wd_ok _));have h2:Rd (Pm.del n) (wd ((Pm.del n).L i hi)++[((n-i:Nat):Int)]):=by
  have:=(wd_ok ((Pm.del n).L i hi)).snoc hi2 hf
  rwa [e] at this
 have h3:=(dl_ok.cn h2).pre [(i:Int)];rw [← List.append_assoc] at h3;exact h3.trans (h1.symm.post _)
def trW (n:Nat) (u:List Int):List Int:=u.map fun x=>if 0<x then (n:Int)-x else -(n:Int)-x
theorem ztp (u v:List Int):trW n (u++v)=trW n u++trW n v:=List.map_append
theorem zsb {x:Int} (hx:0<x.natAbs∧x.natAbs<n):Cn n ([x]++dl n) (dl n++trW n [x]):=by
 rcases Int.lt_or_le 0 x with h|h
 ·obtain ⟨k,rfl⟩:=Int.eq_ofNat_of_zero_le (Int.le_of_lt h);have e:trW n [(k:Int)]=[((n-k:Nat):Int)]:=by
   show [if 0<(k:Int) then (n:Int)-k else -(n:Int)-k]=_
   rw [if_pos h];congr 1;omega
  rw [e];exact zj7 (by omega)
 ·obtain ⟨k,hk⟩:=Int.eq_ofNat_of_zero_le (show 0 ≤ -x by omega);obtain rfl:x = -(k:Int):=by omega
  have hk2:0<k∧k<n:=by omega
  have e:trW n [-(k:Int)]=[-((n-k:Nat):Int)]:=by
   show [if 0 < -(k:Int) then (n:Int) - -k else -(n:Int) - -k]=_
   rw [if_neg (by omega)];congr 1;omega
  rw [e];have h1:=((zj7 hk2).post [-((n-k:Nat):Int)]).pre [-(k:Int)];have h2:=Cn.undo (n:=n) ([-(k:Int)]++([(k:Int)]++dl n)) [] ((n-k:Nat):Int) (by omega);have h3:=Cn.undo (n:=n) [] (dl n++[-((n-k:Nat):Int)]) (-(k:Int)) (by omega);rw [show - -(k:Int)=(k:Int) by omega] at h3;simp only [List.append_assoc,List.append_nil,List.nil_append,List.cons_append] at h1 h2 h3 ⊢;have h4:=Cn.undo (n:=n) (-(k:Int)::dl n) [] ((n-k:Nat):Int) (by omega)
  simp only [List.append_assoc,List.append_nil,List.nil_append,List.cons_append] at h4;exact h4.symm.trans ((Cn.refl _).trans (by
   have h5:=(zj7 hk2).symm.pre [-(k:Int)];simp only [List.append_assoc,List.append_nil,List.nil_append,List.cons_append] at h5;have h6:=h5.post [-((n-k:Nat):Int)];simp only [List.append_assoc,List.append_nil,List.nil_append,List.cons_append] at h6;exact h6.trans h3))
theorem zpr:∀ {u:List Int},Vld n u→Cn n (u++dl n) (dl n++trW n u)
 | [],_=>by
  show Cn n (dl n) (dl n++[]);rw [List.append_nil];exact .refl _
 | x::u,h=>by
  have h1:=(zpr h.tail).pre [x];have h2:=(zsb h.head).post (trW n u);simp only [List.append_assoc] at h1 h2;have e:trW n (x::u)=trW n [x]++trW n u:=rfl;rw [e];exact (show Cn n ([x]++(u++dl n)) _ from h1).trans h2
theorem Rd.trn {p:Pm n} {u:List Int} (h:Rd p u):Rd p.trn (trW n u):=by
 induction h with
 | one=>rw [ziz];exact .one
 | cons p i hi hb _ ih=>
  have hi2:0<n-i∧n-i<n:=by omega
  have r1:Pm.rv n (n-i)=i-1:=by unfold Pm.rv;rw [if_pos hi2.2];omega
  have r2:Pm.rv n (n-i-1)=i:=by unfold Pm.rv;rw [if_pos (by omega)];omega
  have e2:(p.L i hi).trn=p.trn.L (n-i) hi2:=Pm.ext fun x=>by
   show Pm.rv n (p.f (sw i (Pm.rv n x)))=Pm.rv n (p.f (Pm.rv n (sw (n-i) x)));rw [rv_sw hi2,show n-(n-i)=i by omega]
  rename_i u _;have e:trW n ((i:Int)::u)=((n-i:Nat):Int)::trW n u:=by
   show (if 0<(i:Int) then (n:Int)-i else -(n:Int)-i)::trW n u=_
   rw [if_pos (by omega)];congr 1;omega
  rw [e];refine .cons _ (n-i) hi2 ?_ (e2 ▸ ih);show Pm.rv n (p.f (Pm.rv n (n-i)))<Pm.rv n (p.f (Pm.rv n (n-i-1)));rw [r1,r2,rv_lt (p.lt (by omega)) (p.lt hi.2)];exact hb
theorem ztn (l:List (Pm n)):Vld n (wdR l):=by
 induction l with
 | nil=>intro x hx;cases hx
 | cons a l ih=>exact (wd_ok a).vld.app ih
theorem zni:∀ l:List (Pm n),Cn n (trW n (wdR l)) (wdR (l.map Pm.trn))
 | []=>.refl _
 | a::l=>by
  rw [zdo,ztp,List.map_cons,zdo];exact ((wd_ok a).trn.cn (wd_ok _)).app (zni l)
theorem zwc (l:List (Pm n)):Cn n (dl n++wdR l) (wdR (l.map Pm.trn)++dl n):=by
 have h1:=zpr (ztn (l.map Pm.trn));have h2:=(zni (l.map Pm.trn)).pre (dl n);rw [zot] at h2;exact (h1.trans h2).symm
noncomputable def dlP (n:Nat):Int→List Int
 | .ofNat k=>(List.replicate k (dl n)).flatten
 | .negSucc k=>(List.replicate (k+1) (invW (dl n))).flatten
theorem zgu (a:List Int):∀ k:Nat,(List.replicate k a).flatten++a=a++(List.replicate k a).flatten
 | 0=>by simp
 | k+1=>by
  rw [List.replicate_succ,List.flatten_cons,List.append_assoc,zgu a k]
theorem zl1 (k:Int):Cn n (dlP n k++dl n) (dlP n (k+1)):=by
 cases k with
 | ofNat k=>
  show Cn n ((List.replicate k (dl n)).flatten++dl n) ((List.replicate (k+1) (dl n)).flatten);rw [zgu,List.replicate_succ,List.flatten_cons];exact .refl _
 | negSucc k=>
  show Cn n ((List.replicate (k+1) (invW (dl n))).flatten++dl n) _;have e:dlP n (Int.negSucc k+1)=(List.replicate k (invW (dl n))).flatten:=by
   cases k with
   | zero=>rfl
   | succ k=>rfl
  rw [e,List.replicate_succ,List.flatten_cons,← zgu,List.append_assoc];have:=(Cn.inv2 (n:=n) zwb).pre (List.replicate k (invW (dl n))).flatten
  rwa [List.append_nil] at this
theorem zps (k:Int):∀ m:Nat,Cn n (dlP n k++wdR (List.replicate m (Pm.del n))) (dlP n (k+m))
 | 0=>by
  show Cn n (dlP n k++[]) (dlP n (k+0));rw [List.append_nil,Int.add_zero];exact .refl _
 | m+1=>by
  have e:wdR (List.replicate (m+1) (Pm.del n))=wdR (List.replicate m (Pm.del n))++dl n:=by
   rw [List.replicate_succ',ze2];show _++(wd (Pm.del n)++[])=_;rw [List.append_nil];rfl
  rw [e,← List.append_assoc,show k+((m+1:Nat):Int)=(k+m)+1 by omega];exact ((zps k m).post _).trans (zl1 _)
noncomputable def wdV (s:Int×List (Pm n)):List Int:=dlP n s.1++wdR s.2
theorem zqo (s:Int×List (Pm n)) {x:Int} (hx:0<x.natAbs∧x.natAbs<n):Cn n (wdV s++[x]) (wdV (stepW s x)):=by
 rcases Int.lt_or_le 0 x with h|h
 ·obtain ⟨k,rfl⟩:=Int.eq_ofNat_of_zero_le (Int.le_of_lt h);have hk:0<k∧k<n:=by omega
  rw [zam hk];show Cn n (dlP n s.1++wdR s.2++[(k:Int)]) (dlP n s.1++wdR (s.2++[ltr k hk]));rw [ze2,← List.append_assoc];refine Cn.pre ?_ _;show Cn n [(k:Int)] (wd (ltr k hk)++[]);rw [List.append_nil];exact Rd.cn (Rd.one.snoc hk fun q=>by
   have:k<k-1:=q;omega) (wd_ok _)
 ·obtain ⟨k,hk⟩:=Int.eq_ofNat_of_zero_le (show 0 ≤ -x by omega);obtain rfl:x = -(k:Int):=by omega
  have hk:0<k∧k<n:=by omega
  rw [za1 hk];show Cn n (dlP n s.1++wdR s.2++[-(k:Int)]) (dlP n (s.1-1)++wdR (s.2.map Pm.trn++[ctr k hk]));have h1:=((zl1 (n:=n) (s.1-1)).symm.post (wdR s.2)).post [-(k:Int)];rw [show s.1-1+1=s.1 by omega] at h1;have h2:=((zwc s.2).pre (dlP n (s.1-1))).post [-(k:Int)];have hf:¬ (ctr k hk).fin k:=by
   rw [Pm.nfin hk.1];show Pm.rv n (sw k (k-1))<Pm.rv n (sw k k);rw [Pm.sw_at,Pm.sw_pre hk.1,rv_lt hk.2 (by omega)];omega
  have h3:Cn n (dl n) (wd (ctr k hk)++[(k:Int)]):=dl_ok.cn (by
   have:=(wd_ok (ctr k hk)).snoc hk hf
   rwa [show (ctr k hk).R k hk=Pm.del n from Pm.RR _ hk] at this)
  have h4:=((h3.pre (wdR (s.2.map Pm.trn))).pre (dlP n (s.1-1))).post [-(k:Int)];have h5:=Cn.undo (n:=n) (dlP n (s.1-1)++(wdR (s.2.map Pm.trn)++wd (ctr k hk))) [] (k:Int) (by omega);have e:wdR (s.2.map Pm.trn++[ctr k hk])=wdR (s.2.map Pm.trn)++wd (ctr k hk):=by
   rw [ze2];show _++(wd (ctr k hk)++[])=_;rw [List.append_nil]
  rw [e];simp only [List.append_assoc,List.append_nil,List.nil_append,List.cons_append] at h1 h2 h4 h5 ⊢;exact h1.trans (h2.trans (h4.trans h5))
theorem zkn:∀ {w:List Int},Vld n w→∀ s:Int×List (Pm n),Cn n (wdV s++w) (wdV (w.foldl stepW s))
 | [],_,s=>by rw [List.append_nil];exact .refl _
 | x::w,h,s=>by
  have h1:=(zqo s h.head).post w;rw [List.append_assoc] at h1;exact h1.trans (zkn h.tail _)
noncomputable def wdN (s:Frm n):List Int:=dlP n s.pw++wdR s.F
theorem zko:∀ r:Nat,wdR (List.replicate r (Pm.one n))=[]
 | 0=>rfl
 | r+1=>by rw [List.replicate_succ,zdo,zvd,zko r];rfl
theorem cn_nf {w:List Int} (h:Vld n w):Cn n w (wdN (nfW n w)):=by
 have h1:Cn n w (wdV (rowW n w)):=zkn h (0,[]);obtain ⟨m,⟨⟨r,e⟩,_,_⟩,h3⟩:=zug n w;have h4:=(NF_cn (rowW n w).2).pre (dlP n (rowW n w).1);rw [e,ze2,ze2,zko,List.append_nil,← List.append_assoc] at h4;have h5:=(zps (n:=n) (rowW n w).1 m).post (wdR (nfW n w).F);rw [← h3] at h5;exact h1.trans (h4.trans h5)
theorem zse {u v:List Int} (hu:Vld n u) (hv:Vld n v) (h:nfW n u=nfW n v):Cn n u v:=(cn_nf hu).trans (h ▸ (cn_nf hv).symm)
end
section
variable {l:List Int} {n:Nat}
end
namespace RCrs
noncomputable def RUN (s:ES):ZF:=RZ 33 .nil (atS 0 33 3) [] [[(1,none),(3,some (1,3,.ints .i64 [])),(4,none)]] false s
noncomputable def sL (t:Int) (l g:List Int) (nn:Bool) (i:Int):NS:=⟨[⟨33,28,[(1,(EV.ptr 0 0)),(3,EV.slO 1 1 g.length nn),(4,iv i)],[.it (.code (nav [1,1,0,1,0,0,0] (bodyOf Try.f33))),.it (.code (nav [1,1,0,1,0,0,1] (bodyOf Try.f33))),.it (.inLoop (nav [1,1,0,1,0,0] (bodyOf Try.f33))),.it (.inBlock 0),.it (.code (nav [1,1,1] (bodyOf Try.f33)))],[],Option.none⟩],[(0,(EK.cells 24 [(iv t),(il l)] true)),(1,EK.seq 3 (.ints .i64 g) nn)],2⟩
theorem in_t (t:Int) (l:List Int):RUN (st0 33 [hE t l])=(.at (sL t l [] false 0)):=by kernel_rfl
theorem l_t (t:Int) (l g:List Int) (nn:Bool) (i:Int):RUN (stOf (sL t l g nn i))=(bc (decide (i<Int.ofNat l.length)) (bc (bc (bc (decide (0≤i)) (Nat.blt i.toNat l.length) false) true false) (bc (bc (Nat.blt i.toNat l.length) true false) (bc (!decide (1000<l.getD i.toNat 0)) (bc (bc (bc (decide (0≤i)) (Nat.blt i.toNat l.length) false) true false) (bc (bc (Nat.blt i.toNat l.length) true false) (bc (bc (Nat.beq g.length g.length) (bc (Nat.ble (g.length+([l.getD i.toNat 0]).length) 65536) (bc nn true (bc nn false true)) false) false) (.at (sL t l (g++[l.getD i.toNat 0]) (bc nn true (Nat.blt 0 ([l.getD i.toNat 0]).length)) (IntKind.i64.wrap (i+1)))) .bad) .bad) .bad) (.at (sL t l g nn (IntKind.i64.wrap (i+1))))) .bad) .bad) (bc (Nat.beq g.length g.length) (.done (il g) [] 0) .bad)):=by kernel_rfl
theorem oneC (x:Int):[x]=[x]:=rfl
def crI (l:List Int) (i:Nat):List Int:=(l.take i).filter fun x=>!isPn x
theorem zu2 (l:List Int) (i:Nat):(crI l i).length≤i:=by
 have h1:=List.length_filter_le (fun x=>!isPn x) (l.take i);have h2:=List.length_take_le i l;unfold crI;omega
theorem loop {t:Int} {l:List Int} (hl:l.length≤3000):∀ (k i:Nat) (nn:Bool),i+k=l.length→EndZ 33 .nil false (stOf (sL t l (crI l i) nn i)) (il (l.filter fun x=>!isPn x)) [] 0
 | 0,i,nn,h=>by
  obtain rfl:i=l.length:=by omega
  have h1:=l_t t l (crI l l.length) nn l.length;have e:crI l l.length=l.filter fun x=>!isPn x:=by unfold crI;rw [List.take_length]
  rw [df (show ¬ (l.length:Int)<Int.ofNat l.length by rw [ofn];omega),bc_f] at h1;simp (disch:=omega) only [yS] at h1;rw [← e];exact .done h1
 | k+1,i,nn,h=>by
  have hi:i<l.length:=by omega
  have h1:=l_t t l (crI l i) nn i;have e0:Int.toNat (i:Int)=i:=rfl;have lg:=zu2 l i;have w:bc nn true (Nat.blt 0 (List.length [l.getD i 0]))=true:=by cases nn <;> rfl
  have w2:bc nn true (bc nn false true)=true:=by cases nn <;> rfl
  have e:crI l (i+1)=crI l i++(if !isPn (l.getD i 0) then [l.getD i 0] else []):=by
   unfold crI;rw [List.take_succ_eq_append_getElem hi,zfn,zav hi]
  rw [oneC,e0,w,w2,ofn] at h1
  by_cases c:1000<l.getD i 0
  ·rw [show isPn (l.getD i 0)=true from decide_eq_true c,if_neg (by simp),List.append_nil] at e
   rw [dt c,← e] at h1;simp (disch:=omega) only [yS,Bool.not_true] at h1;rw [← e];exact .at (.nil _) h1 (loop hl k (i+1) nn (by omega))
  ·rw [show isPn (l.getD i 0)=false from decide_eq_false c,if_pos (show (!false)=true from rfl)] at e
   rw [df c,← e] at h1;simp (disch:=omega) only [yS,Bool.not_false] at h1;exact .at (.nil _) h1 (loop hl k (i+1) true (by omega))
theorem ends {t:Int} {l:List Int} (hl:l.length≤3000):EndZ 33 .nil false (st0 33 [hE t l]) (il (l.filter fun x=>!isPn x)) [] 0:=
 .at (.nil _) (in_t t l) (loop hl l.length 0 false (by omega))
end RCrs
noncomputable def spCrs:ZCT:=fun ax=>match ax with
 | [.agg [.v (.int .i64 t),.lst (.ints .i64 l)]]=>some ⟨decide (l.length≤3000),il (l.filter fun x=>!isPn x),[],0⟩
 | _=>none
theorem zra:ZCtOk Try.prog 33 spCrs:=fun γ w us ax r hs hc hax hN hfz=>by
 unfold spCrs at hs;split at hs
 case h_2=>cases hs
 rename_i t l;obtain ⟨rfl⟩:=Option.some.inj hs;have hc_0:decide (l.length≤3000)=true:=hc;have hc:=of_decide_eq_true hc_0;exact EndZ.calls (RCrs.ends hc) (.nil _) (by kernel_rfl) hax hN hfz
section
theorem Tq.mem {a b:List Int} (h:Tq a b) (z:Int):z∈a↔z∈b:=by
 induction h with
 | refl q=>exact Iff.rfl
 | swap u v q h=>simp only [List.mem_cons];constructor <;> (rintro (q|q|q) <;> simp [q])
 | cons y _ ih=>rw [List.mem_cons,List.mem_cons,ih]
 | trans _ _ i1 i2=>exact i1.trans i2
theorem zts {q:List Int} {x z:Int} (h:z∈stpL q x):z=x∨z∈q:=by
 cases hx:rmL x q with
 | none=>rw [zqt hx] at h;exact List.mem_cons.1 h
 | some a=>
  rw [zqs hx] at h;exact .inr (((zn9 hx).mem z).2 (List.mem_cons_of_mem _ h))
structure SeeF (D:Int→Prop) (f:Int→Int):Prop where
 pn:∀ x,D x→isPn (f x)=isPn x
 tch:∀ x y,D x→D y→tchL (f x) (f y)=tchL x y
 opp:∀ x y,D x→D y→isPn x=false→isPn y=false→(f y = -(f x)↔y = -x)
section
variable {D:Int→Prop} {f:Int→Int}
theorem SeeF.rm (H:SeeF D f) {x:Int} (hx:D x):∀ q:List Int,(∀ y,y∈q→D y)→rmL (f x) (q.map f)=(rmL x q).map (·.map f)
 | [],_=>rfl
 | y::q,hq=>by
  have hy:=hq y List.mem_cons_self;have ih:=H.rm hx q fun z hz=>hq z (List.mem_cons_of_mem _ hz);rw [List.map_cons]
  cases c:tchL y x with
  | true=>
   rw [rm_t c,rm_t (by rw [H.tch y x hy hx];exact c)]
   by_cases d:y = -x∧isPn x=false∧isPn y=false
   ·rw [if_pos d,if_pos ⟨(H.opp x y hx hy d.2.1 d.2.2).2 d.1,by rw [H.pn x hx];exact d.2.1,by rw [H.pn y hy];exact d.2.2⟩];rfl
   ·rw [if_neg d,if_neg]
    ·rfl
    ·rintro ⟨q1,q2,q3⟩
     rw [H.pn x hx] at q2;rw [H.pn y hy] at q3;exact d ⟨(H.opp x y hx hy q2 q3).1 q1,q2,q3⟩
  | false=>
   rw [rm_f c,rm_f (by rw [H.tch y x hy hx];exact c),ih];cases rmL x q <;> rfl
theorem SeeF.stp (H:SeeF D f) {x:Int} (hx:D x) {q:List Int} (hq:∀ y,y∈q→D y):stpL (q.map f) (f x)=(stpL q x).map f:=by
 unfold stpL;rw [H.rm hx q hq];cases rmL x q <;> rfl
theorem SeeF.red (H:SeeF D f):∀ (w q:List Int),(∀ y,y∈q→D y)→(∀ y,y∈w→D y)→redL (q.map f) (w.map f)=(redL q w).map f
 | [],q,_,_=>rfl
 | x::w,q,hq,hw=>by
  have hx:=hw x List.mem_cons_self;show redL (stpL (q.map f) (f x)) (w.map f)=_;rw [H.stp hx hq];exact H.red w (stpL q x) (fun z hz=>by
   rcases zts hz with e|e
   ·rw [e];exact hx
   ·exact hq z e) fun z hz=>hw z (List.mem_cons_of_mem _ hz)
theorem SeeF.len (H:SeeF D f) {w:List Int} (hw:∀ y,y∈w→D y):(redL [] (w.map f)).length=(redL [] w).length:=by
 have:=H.red w [] (fun _ h=>(by cases h)) hw;rw [show redL [] (w.map f)=redL ([].map f) (w.map f) from rfl,this,List.length_map]
end
section
variable {l:List Int}
end
end
def LetD (t x:Int):Prop:=(1000<x∧x<1000+t)∨(0<x∧x<t)∨(-t<x∧x<0)
theorem zpx {t x:Int} (ht:2≤t∧t≤48):badH t x=false↔LetD t x:=by
 unfold badH LetD
 by_cases h1:x ≤ -t
 ·rw [dt h1,bc_t];constructor
  ·intro h;cases h
  ·intro h;omega
 rw [df h1,bc_f]
 by_cases h2:x=0
 ·rw [h2];constructor
  ·intro h;cases h
  ·intro h;omega
 rw [show (x==0)=false by simp [h2],bc_f]
 by_cases h3:t≤x
 ·rw [dt h3,bc_t]
  by_cases h4:x≤1000
  ·rw [dt h4,bc_t];constructor
   ·intro h;cases h
   ·intro h;omega
  ·rw [df h4,bc_f,decide_eq_false_iff_not];constructor <;> intro h <;> omega
 ·rw [df h3,bc_f];exact ⟨fun _=>by omega,fun _=>rfl⟩
theorem zkd {p:Int→Bool}:∀ {l:List Int},anyI p l=false↔∀ x,x∈l→p x=false
 | []=>⟨fun _ x h=>(by cases h),fun _=>rfl⟩
 | y::l=>by
  have ih:=zkd (p:=p) (l:=l);show bc (p y) true (anyI p l)=false↔_
  cases c:p y with
  | true=>rw [bc_t];exact ⟨fun h=>(by cases h),fun h=>(by rw [h y List.mem_cons_self] at c;cases c)⟩
  | false=>
   rw [bc_f,ih];exact ⟨fun h x hx=>(List.mem_cons.1 hx).elim (fun e=>e ▸ c) (h x),fun h x hx=>h x (List.mem_cons_of_mem _ hx)⟩
theorem zj9 {t:Int} {l:List Int}:chkL t l=0↔(2≤t∧t≤48)∧l.length≤2000∧∀ x,x∈l→LetD t x:=by
 unfold chkL
 by_cases h1:t<2
 ·rw [dt h1,bc_t];constructor
  ·intro h;cases h
  ·intro h;omega
 rw [df h1,bc_f]
 by_cases h2:48<t
 ·rw [dt h2,bc_t];constructor
  ·intro h;cases h
  ·intro h;omega
 rw [df h2,bc_f]
 by_cases h3:(2000:Int)<(l.length:Int)
 ·rw [dt h3,bc_t];constructor
  ·intro h;cases h
  ·intro h;omega
 rw [df h3,bc_f];have ht:2≤t∧t≤48:=by omega
 cases c:anyI (badH t) l with
 | true=>
  rw [bc_t];constructor
  ·intro h;cases h
  ·intro h;rw [zkd.2 fun x hx=>(zpx ht).2 (h.2.2 x hx)] at c;cases c
 | false=>exact ⟨fun _=>⟨ht,by omega,fun x hx=>(zpx ht).1 (zkd.1 c x hx)⟩,fun _=>rfl⟩
noncomputable abbrev e12:List Int:=[0,1,2,3,4,5,6,7,8,9,10,11]
theorem zj6 (n:Nat):e12=pA (Pm.one n):=zf8 rfl fun x hx=>by
 show e12.getD x 0=(x:Int)
 match x,hx with
 | 0,_=>rfl
 | 1,_=>rfl
 | 2,_=>rfl
 | 3,_=>rfl
 | 4,_=>rfl
 | 5,_=>rfl
 | 6,_=>rfl
 | 7,_=>rfl
 | 8,_=>rfl
 | 9,_=>rfl
 | 10,_=>rfl
 | 11,_=>rfl
namespace PPln
noncomputable def RUN (s:ES):ZF:=RZ 114 .nil (fun _=>false) [] [] false s
theorem in_t (d:Int):RUN (st0 114 [])=(.done (EV.arr (SyC.ints IntKind.u8 [(0),(1),(2),(3),(4),(5),(6),(7),(8),(9),(10),(11)])) [] 0):=by kernel_rfl
end PPln
noncomputable def spPln:ZCT:=fun ax=>match ax with
 | []=>some ⟨decide (True),.arr (.ints .u8 e12),[],0⟩
 | _=>none
theorem zkt:ZCtOk Try.prog 114 spPln:=fun γ w us ax r hs hc hax hN hfz=>by
 unfold spPln at hs;split at hs
 case h_2=>cases hs
 obtain ⟨rfl⟩:=Option.some.inj hs;have hc_0:decide (True)=true:=hc;have hc:=of_decide_eq_true hc_0;exact EndZ.calls (.done (PPln.in_t 0)) (.nil _) (by kernel_rfl) hax hN hfz
namespace PInv
noncomputable def RA (s:ES):ZF:=RMs 1 116 .nil [(atS 0 116 3,[[(2,none),(3,none),(6,none),(7,none)]])] [] [] s
noncomputable def sA (e q:List Int) (i:Int):NS:=⟨[⟨116,19,[(2,(EV.ptr 1 0)),(3,(EV.ptr 2 0)),(6,(EV.ptr 0 0)),(7,iv i)],[.it (.code (nav [1,1,0,1,0,0] (bodyOf Try.f116))),.it (.inLoop (nav [1,1,0,1,0,0] (bodyOf Try.f116))),.it (.inBlock 0),.it (.code (nav [1,1,1] (bodyOf Try.f116)))],[],Option.none⟩],[(0,(EK.seq 95 (SyC.ints IntKind.u8 e) true)),(1,(EK.seq 95 (SyC.ints IntKind.u8 [(0),(0),(0),(0),(0),(0),(0),(0),(0),(0),(0),(0)]) true)),(2,EK.seq 95 (.ints .u8 q) true)],3⟩
noncomputable def sB (L q:List Int) (m:Nat) (nn:Bool) (i:Int):NS:=⟨[⟨116,19,[(2,(EV.ptr 1 0)),(3,(EV.ptr 2 0)),(6,(EV.ptrE 0 12 m 0)),(7,iv i)],[.it (.code (nav [1,1,0,1,0,0] (bodyOf Try.f116))),.it (.inLoop (nav [1,1,0,1,0,0] (bodyOf Try.f116))),.it (.inBlock 0),.it (.code (nav [1,1,1] (bodyOf Try.f116)))],[],Option.none⟩],[(0,(EK.seq 95 (SyC.ints IntKind.u8 L) nn)),(1,(EK.seq 95 (SyC.ints IntKind.u8 [(0),(0),(0),(0),(0),(0),(0),(0),(0),(0),(0),(0)]) true)),(2,EK.seq 95 (.ints .u8 q) true)],3⟩
theorem inA_t (e:List Int):RA (st0m 116 [.ptr 0 0] [(0,.seq 95 (.ints .u8 e) true)] 1)=(.at (sA (e) (zerosL (12:Nat)) ((0:Int)))):=by kernel_rfl
theorem inB_t (L:List Int) (m:Nat) (nn:Bool):RA (st0m 116 [.ptrE 0 12 m 0] [(0,.seq 95 (.ints .u8 L) nn)] 1)=(.at (sB (L) (zerosL (12:Nat)) (m) (nn) ((0:Int)))):=by kernel_rfl
theorem stA_t (e q:List Int) (i:Int):RA (stOf (sA e q i))=(bc (decide (i<(12:Int))) (bc (bc (bc (bc (bc (decide ((0:Int)≤i)) (Nat.blt (Int.toNat i) (12:Nat)) false) true false) (bc (bc (Nat.blt (Int.toNat i) (List.length e)) true false) true false) false) true false) (bc (bc (bc (decide ((0:Int)≤List.getD e (Int.toNat i) (0:Int))) (Nat.blt (Int.toNat (List.getD e (Int.toNat i) (0:Int))) (12:Nat)) false) true false) (bc (Nat.blt (Int.toNat (List.getD e (Int.toNat i) (0:Int))) (List.length q)) (.at (sA (e) (List.set q (Int.toNat (List.getD e (Int.toNat i) (0:Int))) (IntKind.wrap IntKind.u8 i)) (IntKind.wrap IntKind.i64 (i+(1:Int))))) .bad) .bad) .bad) (bc (bc (Nat.beq (12:Nat) (List.length q)) true false) (bc (bc (Nat.beq (List.length q) (12:Nat)) (Nat.beq (List.length [(0:Int),(0:Int),(0:Int),(0:Int),(0:Int),(0:Int),(0:Int),(0:Int),(0:Int),(0:Int),(0:Int),(0:Int)]) (12:Nat)) false) (bc (bc (Nat.beq (12:Nat) (List.length q)) true false) (.done (EV.arr (SyC.ints IntKind.u8 (q))) [(0,(EK.seq 95 (SyC.ints IntKind.u8 (e)) true))] 1) .bad) .bad) .bad)):=by kernel_rfl
theorem stB_t (L q:List Int) (m:Nat) (nn:Bool) (i:Int):RA (stOf (sB L q m nn i))=(bc (decide (i<(12:Int))) (bc (bc (bc (bc (bc (decide ((0:Int)≤i)) (Nat.blt (Int.toNat i) (12:Nat)) false) true false) (bc (bc (Nat.blt (Nat.add (Nat.mul m (12:Nat)) (Nat.add (0:Nat) (Nat.mul (Int.toNat i) (1:Nat)))) (List.length L)) true false) true false) false) true false) (bc (bc (bc (decide ((0:Int)≤List.getD L (Nat.add (Nat.mul m (12:Nat)) (Nat.add (0:Nat) (Nat.mul (Int.toNat i) (1:Nat)))) (0:Int))) (Nat.blt (Int.toNat (List.getD L (Nat.add (Nat.mul m (12:Nat)) (Nat.add (0:Nat) (Nat.mul (Int.toNat i) (1:Nat)))) (0:Int))) (12:Nat)) false) true false) (bc (Nat.blt (Int.toNat (List.getD L (Nat.add (Nat.mul m (12:Nat)) (Nat.add (0:Nat) (Nat.mul (Int.toNat i) (1:Nat)))) (0:Int))) (List.length q)) (.at (sB (L) (List.set q (Int.toNat (List.getD L (Nat.add (Nat.mul m (12:Nat)) (Nat.add (0:Nat) (Nat.mul (Int.toNat i) (1:Nat)))) (0:Int))) (IntKind.wrap IntKind.u8 i)) (m) (nn) (IntKind.wrap IntKind.i64 (i+(1:Int))))) .bad) .bad) .bad) (bc (bc (Nat.beq (12:Nat) (List.length q)) true false) (bc (bc (Nat.beq (List.length q) (12:Nat)) (Nat.beq (List.length [(0:Int),(0:Int),(0:Int),(0:Int),(0:Int),(0:Int),(0:Int),(0:Int),(0:Int),(0:Int),(0:Int),(0:Int)]) (12:Nat)) false) (bc (bc (Nat.beq (12:Nat) (List.length q)) true false) (.done (EV.arr (SyC.ints IntKind.u8 (q))) [(0,(EK.seq 95 (SyC.ints IntKind.u8 (L)) (nn)))] 1) .bad) .bad) .bad)):=by kernel_rfl
theorem wrap8 (x:Int) (h1:0≤x) (h2:x<256):IntKind.u8.wrap x=x:=by
 rw [IntKind.wrap_u8];omega
theorem stepA {e q:List Int} {i:Nat} (hi:i<12) (he:In12 e) (hq:q.length=12):RA (stOf (sA e q i)) = .at (sA e (q.set (e.getD i 0).toNat (i:Int)) (i+1:Nat)):=by
 rw [stA_t];obtain ⟨h1,h2⟩:=he.2 i hi;have h3:=he.1;have e1:((i:Int)).toNat=i:=rfl;rw [e1];generalize hx:e.getD i 0=x at *;obtain ⟨x,rfl⟩:=Int.eq_ofNat_of_zero_le h1;simp (disch:=omega) only [yS,wrap8];rfl
theorem lastA {e q:List Int} {i:Nat} (hi:12≤i) (hq:q.length=12):RA (stOf (sA e q i)) = .done (.arr (.ints .u8 q)) [(0,.seq 95 (.ints .u8 e) true)] 1:=by
 rw [stA_t];have e1:(Nat.beq (List.length [(0:Int),0,0,0,0,0,0,0,0,0,0,0]) 12)=true:=rfl;simp (disch:=omega) only [yS,e1]
theorem loopA {e:List Int} (he:In12 e):∀ (k i:Nat),i+k=12→EndM 1 116 .nil (stOf (sA e (invS e i) i)) (.arr (.ints .u8 (invS e 12))) [(0,.seq 95 (.ints .u8 e) true)] 1
 | 0,i,h=>by
  obtain rfl:i=12:=by omega
  exact .done (lastA (Nat.le_refl _) (zck e 12))
 | k+1,i,h=>.at (.nil _) (stepA (by omega) he (zck e i)) (loopA he k (i+1) (by omega))
theorem stepB {L q:List Int} {m:Nat} {nn:Bool} {i:Nat} (hi:i<12) (hm:m*12+12≤L.length) (he:In12 ((L.drop (m*12)).take 12)) (hq:q.length=12):RA (stOf (sB L q m nn i)) = .at (sB L (q.set (((L.drop (m*12)).take 12).getD i 0).toNat (i:Int)) m nn (i+1:Nat)):=by
 rw [stB_t];obtain ⟨h1,h2⟩:=he.2 i hi;have h4:((L.drop (m*12)).take 12).getD i 0=L.getD (Nat.add (Nat.mul m 12) (Nat.add 0 (Nat.mul (Int.toNat (i:Int)) 1))) 0:=by
  rw [List.getD_eq_getElem?_getD,List.getD_eq_getElem?_getD,List.getElem?_take,if_pos hi,List.getElem?_drop];show L[m*12+i]?.getD 0=L[m*12+(0+i*1)]?.getD 0;rw [show m*12+(0+i*1)=m*12+i by omega]
 rw [← h4];have e1:Nat.add (Nat.mul m 12) (Nat.add 0 (Nat.mul (Int.toNat (i:Int)) 1))=m*12+i:=by
  show m*12+(0+i*1)=_;omega
 rw [e1];generalize ((L.drop (m*12)).take 12).getD i 0=x at *;obtain ⟨x,rfl⟩:=Int.eq_ofNat_of_zero_le h1;simp (disch:=omega) only [yS,wrap8];rfl
theorem lastB {L q:List Int} {m:Nat} {nn:Bool} {i:Nat} (hi:12≤i) (hq:q.length=12):RA (stOf (sB L q m nn i)) = .done (.arr (.ints .u8 q)) [(0,.seq 95 (.ints .u8 L) nn)] 1:=by
 rw [stB_t];have e1:(Nat.beq (List.length [(0:Int),0,0,0,0,0,0,0,0,0,0,0]) 12)=true:=rfl;simp (disch:=omega) only [yS,e1]
theorem loopB {L:List Int} {m:Nat} {nn:Bool} (hm:m*12+12≤L.length) (he:In12 ((L.drop (m*12)).take 12)):∀ (k i:Nat),i+k=12→EndM 1 116 .nil (stOf (sB L (invS ((L.drop (m*12)).take 12) i) m nn i)) (.arr (.ints .u8 (invS ((L.drop (m*12)).take 12) 12))) [(0,.seq 95 (.ints .u8 L) nn)] 1
 | 0,i,h=>by
  obtain rfl:i=12:=by omega
  exact .done (lastB (Nat.le_refl _) (zck _ 12))
 | k+1,i,h=>.at (.nil _) (stepB (by omega) hm he (zck _ i)) (loopB hm he k (i+1) (by omega))
end PInv
noncomputable def spInv_0:ZMT:=fun ax K0 m=>match ax,K0 with
 | [.ptr 0 0],[(0,.seq 95 (.ints .u8 e) v_0)]=>bc (Nat.beq m (1)) (some ⟨bc (eqN v_0 (true)) (decide (In12 e)) false,.arr (.ints .u8 (invS e 12)),[(0,.seq 95 (.ints .u8 e) true)],1,1⟩) none
 | _,_=>none
theorem zmi:ZMtOk Try.prog 116 spInv_0:=fun γ w0 w us ax K0 m r hs hc hres hax hH=>by
 unfold spInv_0 at hs;split at hs
 case h_2=>cases hs
 rename_i e v_0;obtain ⟨hm,rfl⟩:=noN hs;have hm:=Nat.eq_of_beq_eq_true hm;subst hm;have hc_0:bc (eqN v_0 (true)) (decide (In12 e)) false=true:=hc;obtain ⟨q_0,hc_1⟩:=bcT hc_0;have p_0:=(zde q_0).symm;subst p_0;have hc:=of_decide_eq_true hc_1;exact EndM.calls (.at (.nil _) (PInv.inA_t e) (PInv.loopA hc 12 0 rfl)) (.nil _) (by kernel_rfl) hres hax hH
noncomputable def spInv_1:ZMT:=fun ax K0 m=>match ax,K0 with
 | [.ptrE 0 12 g 0],[(0,.seq 95 (.ints .u8 L) nn)]=>bc (Nat.beq m (1)) (some ⟨decide (g*12+12≤L.length∧In12 ((L.drop (g*12)).take 12)),.arr (.ints .u8 (invS ((L.drop (g*12)).take 12) 12)),[(0,.seq 95 (.ints .u8 L) nn)],1,1⟩) none
 | _,_=>none
theorem zmh:ZMtOk Try.prog 116 spInv_1:=fun γ w0 w us ax K0 m r hs hc hres hax hH=>by
 unfold spInv_1 at hs;split at hs
 case h_2=>cases hs
 rename_i g L nn;obtain ⟨hm,rfl⟩:=noN hs;have hm:=Nat.eq_of_beq_eq_true hm;subst hm;have hc_0:decide (g*12+12≤L.length∧In12 ((L.drop (g*12)).take 12))=true:=hc;have hc:=of_decide_eq_true hc_0;exact EndM.calls (.at (.nil _) (PInv.inB_t L g nn) (PInv.loopB hc.1 hc.2 12 0 rfl)) (.nil _) (by kernel_rfl) hres hax hH
noncomputable def spInv:ZMT:=ZMT.or spInv_0 (spInv_1)
theorem zq6:ZMtOk Try.prog 116 spInv:=zmi.or (zmh)
namespace PDel
noncomputable def ct:Tr ZCC:=Tr.nil.put 114 (some (dC spPln))
theorem ct_ok:ZCtsOk Try.prog ct:=(ZCtsOk.nil _).add rfl zkt
noncomputable def RD (s:ES):ZF:=RMs 1 99 ct [(atS 0 99 3,[[(0,none),(2,none),(3,none),(9,none),(10,none)]])] [] [] s
noncomputable def K0 (n pw:Int) (L:List Int) (len:Nat) (nn:Bool):List (Nat×EK):=[(0,.cells 92 [iv n,iv pw,.slO 1 12 len nn] true),(1,.seq 95 (.ints .u8 L) nn)]
noncomputable def sD (n pw:Int) (L q:List Int) (len:Nat) (nn:Bool) (i:Int):NS:=⟨[⟨99,25,[(0,(EV.ptr 0 0)),(2,(EV.ptr 1 0)),(3,(EV.ptr 2 0)),(9,(iv n)),(10,iv i)],[.it (.code (nav [1,1,0,1,0,0] (bodyOf Try.f99))),.it (.inLoop (nav [1,1,0,1,0,0] (bodyOf Try.f99))),.it (.inBlock 0),.it (.code (nav [1,1,1] (bodyOf Try.f99)))],[],Option.none⟩],[(0,(EK.cells 92 [(iv n),(iv pw),(EV.slO 3 12 len nn)] true)),(1,(EK.seq 95 (SyC.ints IntKind.u8 [(0),(0),(0),(0),(0),(0),(0),(0),(0),(0),(0),(0)]) true)),(2,EK.seq 95 (.ints .u8 q) true),(3,(EK.seq 95 (SyC.ints IntKind.u8 L) nn))],4⟩
theorem in_t (n pw:Int) (L:List Int) (len:Nat) (nn:Bool):RD (st0m 99 [.ptr 0 0] (K0 n pw L len nn) 2)=(.at (sD (n) (pw) (L) (e12) (len) (nn) ((0:Int)))):=by kernel_rfl
theorem st_t (n pw:Int) (L q:List Int) (len:Nat) (nn:Bool) (i:Int):RD (stOf (sD n pw L q len nn i))=(bc (decide (i<n)) (bc (bc (bc (decide ((0:Int)≤i)) (Nat.blt (Int.toNat i) (12:Nat)) false) true false) (bc (Nat.blt (Int.toNat i) (List.length q)) (.at (sD (n) (pw) (L) (List.set q (Int.toNat i) (IntKind.wrap IntKind.u8 (IntKind.wrap IntKind.i64 (IntKind.wrap IntKind.i64 (n-(1:Int))-i)))) (len) (nn) (IntKind.wrap IntKind.i64 (i+(1:Int))))) .bad) .bad) (bc (bc (Nat.beq (12:Nat) (List.length q)) true false) (bc (bc (Nat.beq (List.length q) (12:Nat)) (Nat.beq (List.length [(0:Int),(0:Int),(0:Int),(0:Int),(0:Int),(0:Int),(0:Int),(0:Int),(0:Int),(0:Int),(0:Int),(0:Int)]) (12:Nat)) false) (bc (bc (Nat.beq (12:Nat) (List.length q)) true false) (.done (EV.arr (SyC.ints IntKind.u8 (q))) [(0,(EK.cells 92 [(EV.v (Value.int IntKind.i64 (n))),(EV.v (Value.int IntKind.i64 (pw))),(EV.slO 1 12 (len) (nn))] true)),(1,(EK.seq 95 (SyC.ints IntKind.u8 (L)) (nn)))] 2) .bad) .bad) .bad)):=by kernel_rfl
noncomputable def delS (n:Nat):Nat→List Int
 | 0=>e12
 | i+1=>(delS n i).set i ((n:Int)-1-(i:Int))
theorem zd5 (n:Nat):∀ i,(delS n i).length=12
 | 0=>rfl
 | i+1=>by unfold delS;rw [List.length_set,zd5 n i]
theorem zl2 {n:Nat} (hn:n≤12):∀ (i:Nat),i≤n→∀ x,x<12→(delS n i).getD x 0=if x<i then (n:Int)-1-(x:Int) else (x:Int)
 | 0,_,x,hx=>by
  rw [if_neg (by omega)];show e12.getD x 0=_;rw [zj6 12,zbj _ hx];rfl
 | i+1,hi,x,hx=>by
  unfold delS;rw [gset2,zd5,zl2 hn i (by omega) x hx]
  by_cases e:x=i
  ·subst e;rw [if_pos ⟨rfl,hx⟩,if_pos (by omega)]
  ·rw [if_neg (fun h=>e h.1)]
   by_cases h:x<i
   ·rw [if_pos h,if_pos (by omega)]
   ·rw [if_neg h,if_neg (by omega)]
theorem zuz {n:Nat} (hn:n≤12):delS n n=pA (Pm.del n):=zf8 (zd5 n n) fun x hx=>by
 rw [zl2 hn n (Nat.le_refl _) x hx];show _=((Pm.rv n x:Nat):Int);unfold Pm.rv
 by_cases h:x<n
 ·rw [if_pos h,if_pos h];omega
 ·rw [if_neg h,if_neg h]
theorem step {n:Nat} {pw:Int} {L q:List Int} {len:Nat} {nn:Bool} {i:Nat} (hi:i<n) (hn:n≤12) (hq:q.length=12):RD (stOf (sD n pw L q len nn i)) = .at (sD n pw L (q.set i ((n:Int)-1-(i:Int))) len nn (i+1:Nat)):=by
 rw [st_t];simp (disch:=omega) only [yS,PInv.wrap8];rfl
theorem last {n:Nat} {pw:Int} {L q:List Int} {len:Nat} {nn:Bool} {i:Nat} (hi:n≤i) (hq:q.length=12):RD (stOf (sD n pw L q len nn i)) = .done (.arr (.ints .u8 q)) (K0 n pw L len nn) 2:=by
 rw [st_t];have e1:(Nat.beq (List.length [(0:Int),0,0,0,0,0,0,0,0,0,0,0]) 12)=true:=rfl;simp (disch:=omega) only [yS,e1];rfl
theorem loop {n:Nat} {pw:Int} {L:List Int} {len:Nat} {nn:Bool} (hn:n≤12):∀ (k i:Nat),i+k=n→EndM 1 99 ct (stOf (sD n pw L (delS n i) len nn i)) (.arr (.ints .u8 (pA (Pm.del n)))) (K0 n pw L len nn) 2
 | 0,i,h=>by
  obtain rfl:i=n:=by omega
  rw [← zuz hn];exact .done (last (Nat.le_refl _) (zd5 i i))
 | k+1,i,h=>.at ct_ok (step (by omega) hn (zd5 n i)) (loop hn k (i+1) (by omega))
theorem ends {n pw:Int} {L:List Int} {len:Nat} {nn:Bool} (h0:0≤n) (hn:n≤12):EndM 1 99 ct (st0m 99 [.ptr 0 0] (K0 n pw L len nn) 2) (.arr (.ints .u8 (pA (Pm.del n.toNat)))) (K0 n pw L len nn) 2:=by
 obtain ⟨n,rfl⟩:=Int.eq_ofNat_of_zero_le h0;exact .at ct_ok (in_t n pw L len nn) (loop (by omega) n 0 (by omega))
end PDel
noncomputable def spDel:ZMT:=fun ax K0 m=>match ax,K0 with
 | [.ptr 0 0],[(0,.cells 92 [.v (.int .i64 n),.v (.int .i64 pw),.slO 1 12 len nn] v_0),(1,.seq 95 (.ints .u8 L) v_1)]=>bc (Nat.beq m (2)) (some ⟨bc (eqN v_0 (true)) (bc (eqN v_1 (nn)) (decide (0≤n∧n≤12)) false) false,.arr (.ints .u8 (pA (Pm.del n.toNat))),PDel.K0 n pw L len nn,2,1⟩) none
 | _,_=>none
theorem zq9:ZMtOk Try.prog 99 spDel:=fun γ w0 w us ax K0 m r hs hc hres hax hH=>by
 unfold spDel at hs;split at hs
 case h_2=>cases hs
 rename_i n pw len nn v_0 L v_1;obtain ⟨hm,rfl⟩:=noN hs;have hm:=Nat.eq_of_beq_eq_true hm;subst hm;have hc_0:bc (eqN v_0 (true)) (bc (eqN v_1 (nn)) (decide (0≤n∧n≤12)) false) false=true:=hc;obtain ⟨q_0,hc_1⟩:=bcT hc_0;have p_0:=(zde q_0).symm;subst p_0;obtain ⟨q_1,hc_2⟩:=bcT hc_1;have p_1:=(zde q_1).symm;subst p_1;have hc:=of_decide_eq_true hc_2;exact EndM.calls (PDel.ends hc.1 hc.2) PDel.ct_ok (by kernel_rfl) hres hax hH
namespace PTrn
noncomputable def RT (s:ES):ZF:=RMs 1 115 .nil [(atS 0 115 1,[[(0,none),(8,none),(9,none),(10,none)]]),(atS 0 115 4,[[(0,none),(2,none),(3,none),(8,none),(9,none),(10,none),(18,none),(19,none)]])] [] [] s
noncomputable def sA (n pw:Int) (L:List Int) (len:Nat) (nn:Bool) (z i:Int):NS:=⟨[⟨115,48,[(0,(EV.ptr 0 0)),(8,(EV.slO 1 12 len nn)),(9,iv z),(10,iv i)],[.it (.code (nav [1,0,0] (bodyOf Try.f115))),.it (.inLoop (nav [1,0,0] (bodyOf Try.f115))),.it (.inBlock 0)],[],Option.none⟩],[(0,(EK.cells 92 [(iv n),(iv pw),(EV.slO 1 12 len nn)] true)),(1,(EK.seq 95 (SyC.ints IntKind.u8 L) nn))],2⟩
noncomputable def sB (n pw:Int) (L q:List Int) (len:Nat) (nn:Bool) (z i k j:Int):NS:=⟨[⟨115,48,[(0,(EV.ptr 0 0)),(2,iv k),(3,(EV.ptr 1 0)),(8,(EV.slO 2 12 len nn)),(9,iv z),(10,iv i),(18,(iv n)),(19,iv j)],[.it (.code (nav [1,0,0,1,1,0,0,1,1,0,0] (bodyOf Try.f115))),.it (.inLoop (nav [1,0,0,1,1,0,0,1,1,0,0] (bodyOf Try.f115))),.it (.inBlock 2),.it (.inBlock 1),.it (.code (nav [1,0,0,1,1,1] (bodyOf Try.f115))),.it (.inLoop (nav [1,0,0] (bodyOf Try.f115))),.it (.inBlock 0)],[],Option.none⟩],[(0,(EK.cells 92 [(iv n),(iv pw),(EV.slO 2 12 len nn)] true)),(1,EK.seq 95 (.ints .u8 q) true),(2,(EK.seq 95 (SyC.ints IntKind.u8 L) nn))],3⟩
theorem in_t (n pw:Int) (L:List Int) (len:Nat) (nn:Bool):RT (st0m 115 [.ptr 0 0] (PDel.K0 n pw L len nn) 2)=(.at (sA (n) (pw) (L) (len) (nn) (Int.ofNat len) ((0:Int)))):=by kernel_rfl
theorem a_t (n pw:Int) (L:List Int) (len:Nat) (nn:Bool) (z i:Int):RT (stOf (sA n pw L len nn z i))=(bc (decide (i<z)) (bc (bc (bc (decide ((0:Int)≤i)) (Nat.blt (Int.toNat i) len) false) true false) (bc (bc (Nat.ble (Nat.add (Nat.add (Nat.mul (Int.toNat i) (12:Nat)) (0:Nat)) (12:Nat)) (List.length L)) true false) (bc (bc (Nat.beq (List.length (List.take (12:Nat) (List.drop (Nat.add (Nat.mul (Int.toNat i) (12:Nat)) (0:Nat)) L))) (12:Nat)) (Nat.beq (List.length (zerosL (12:Nat))) (12:Nat)) false) (.at (sB (n) (pw) (L) (List.take (12:Nat) (List.drop (Nat.add (Nat.mul (Int.toNat i) (12:Nat)) (0:Nat)) L)) (len) (nn) (z) (i) (i) ((0:Int)))) .bad) .bad) .bad) (.done (EV.tup []) [(0,(EK.cells 92 [(EV.v (Value.int IntKind.i64 (n))),(EV.v (Value.int IntKind.i64 (pw))),(EV.slO 1 12 (len) (nn))] true)),(1,(EK.seq 95 (SyC.ints IntKind.u8 (L)) (nn)))] 2)):=by kernel_rfl
theorem b_t (n pw:Int) (L q:List Int) (len:Nat) (nn:Bool) (z i k j:Int):RT (stOf (sB n pw L q len nn z i k j))=(bc (decide (j<n)) (bc (bc (bc (bc (bc (decide ((0:Int)≤j)) (Nat.blt (Int.toNat j) (12:Nat)) false) true false) (bc (bc (Nat.blt (Int.toNat j) (List.length q)) true false) (bc (bc (bc (decide ((0:Int)≤k)) (Nat.blt (Int.toNat k) len) false) true false) (bc (bc (bc (decide ((0:Int)≤IntKind.wrap IntKind.i64 (IntKind.wrap IntKind.i64 (n-(1:Int))-j))) (Nat.blt (Int.toNat (IntKind.wrap IntKind.i64 (IntKind.wrap IntKind.i64 (n-(1:Int))-j))) (12:Nat)) false) true false) (bc (Nat.blt (Nat.add (Nat.mul (Int.toNat k) (12:Nat)) (Nat.add (0:Nat) (Nat.mul (Int.toNat (IntKind.wrap IntKind.i64 (IntKind.wrap IntKind.i64 (n-(1:Int))-j))) (1:Nat)))) (List.length L)) true false) false) false) false) false) true false) (.at (sB (n) (pw) (List.set L (Nat.add (Nat.mul (Int.toNat k) (12:Nat)) (Nat.add (0:Nat) (Nat.mul (Int.toNat (IntKind.wrap IntKind.i64 (IntKind.wrap IntKind.i64 (n-(1:Int))-j))) (1:Nat)))) (IntKind.wrap IntKind.u8 (IntKind.wrap IntKind.u8 (IntKind.wrap IntKind.i64 (n-(1:Int)))-List.getD q (Int.toNat j) (0:Int)))) (q) (len) (nn) (z) (i) (k) (IntKind.wrap IntKind.i64 (j+(1:Int))))) .bad) (.at (sA (n) (pw) (L) (len) (nn) (z) (IntKind.wrap IntKind.i64 (i+(1:Int)))))):=by kernel_rfl
noncomputable def trS {n:Nat} (p:Pm n):Nat→List Int
 | 0=>pA p
 | i+1=>(trS p i).set (n-1-i) ((n:Int)-1-(p.f i:Int))
theorem ze4 {n:Nat} (p:Pm n):∀ i,(trS p i).length=12
 | 0=>zas p
 | i+1=>by unfold trS;rw [List.length_set,ze4 p i]
theorem znl {n:Nat} (hn:n≤12) (p:Pm n):∀ i,i≤n→∀ x,x<12→(trS p i).getD x 0=if x<n∧n-1-x<i then (n:Int)-1-(p.f (n-1-x):Int) else (p.f x:Int)
 | 0,_,x,hx=>by
  rw [if_neg (by omega)];exact zbj p hx
 | i+1,hi,x,hx=>by
  unfold trS;rw [gset2,ze4,znl hn p i (by omega) x hx]
  by_cases e:x=n-1-i
  ·rw [if_pos ⟨e,by omega⟩,if_pos (by omega),show n-1-x=i by omega]
  ·rw [if_neg (fun h=>e h.1)]
   by_cases h:x<n∧n-1-x<i
   ·rw [if_pos h,if_pos (by omega)]
   ·rw [if_neg h,if_neg (by omega)]
theorem zve {n:Nat} (hn:n≤12) (p:Pm n):trS p n=pA p.trn:=zf8 (ze4 p n) fun x hx=>by
 rw [znl hn p n (Nat.le_refl _) x hx];show _=((Pm.rv n (p.f (Pm.rv n x)):Nat):Int)
 by_cases h:x<n
 ·have h1:Pm.rv n x=n-1-x:=by unfold Pm.rv;rw [if_pos h]
  have h2:=p.lt (show n-1-x<n by omega);rw [if_pos (by omega),h1];unfold Pm.rv;rw [if_pos h2];omega
 ·have h1:Pm.rv n x=x:=by unfold Pm.rv;rw [if_neg h]
  rw [if_neg (by omega),h1,p.out x (by omega)];unfold Pm.rv;rw [if_neg (by omega)]
theorem zj5 {n:Nat} (A B:List (Pm n)) {M:List Int} (h:M.length=12):(encF A++(M++encF B)).length=(A.length+1+B.length)*12:=by
 rw [List.length_append,List.length_append,zaf,zaf,h];omega
theorem stepB {n:Nat} (hn:n≤12) {pw:Int} {A B:List (Pm n)} {p:Pm n} {len:Nat} {nn:Bool} {z:Int} {j:Nat} (hj:j<n) (hl:len=A.length+1+B.length):RT (stOf (sB n pw (encF A++(trS p j++encF B)) (pA p) len nn z A.length A.length j)) = .at (sB n pw (encF A++(trS p (j+1)++encF B)) (pA p) len nn z A.length A.length (j+1:Nat)):=by
 rw [b_t];have h1:=p.lt hj;have e0:((j:Int)).toNat=j:=rfl;have e1:(pA p).getD j 0=(p.f j:Int):=zbj p (by omega);rw [e0,e1];have w1:IntKind.wrap IntKind.i64 (IntKind.wrap IntKind.i64 ((n:Int)-1)-(j:Int))=((n-1-j:Nat):Int):=by
  rw [zae ((n:Int)-1) (by omega) (by omega),zae _ (by omega) (by omega)];omega
 have w2:IntKind.wrap IntKind.u8 (IntKind.wrap IntKind.u8 (IntKind.wrap IntKind.i64 ((n:Int)-1))-(p.f j:Int))=(n:Int)-1-(p.f j:Int):=by
  rw [zae ((n:Int)-1) (by omega) (by omega),PInv.wrap8 ((n:Int)-1) (by omega) (by omega),PInv.wrap8 _ (by omega) (by omega)]
 rw [w1,w2];have e2:(((n-1-j:Nat):Int)).toNat=n-1-j:=rfl;have e3:((A.length:Int)).toNat=A.length:=rfl;rw [e2,e3];have e4:Nat.add (Nat.mul A.length 12) (Nat.add 0 (Nat.mul (n-1-j) 1))=(encF A).length+(n-1-j):=by
  rw [zaf];show A.length*12+(0+(n-1-j)*1)=_;omega
 rw [e4,zja _ _ _ _ _ (by rw [ze4];omega),zj5 A B (ze4 p j),zaf,zas];have e5:trS p (j+1)=(trS p j).set (n-1-j) ((n:Int)-1-(p.f j:Int)):=rfl;rw [← e5];simp (disch:=omega) only [yS];rfl
theorem lastB {n:Nat} {pw:Int} {L q:List Int} {len:Nat} {nn:Bool} {z:Int} {i k j:Nat} (hj:n≤j) (hi:i<60000):RT (stOf (sB n pw L q len nn z i k j)) = .at (sA n pw L len nn z (i+1:Nat)):=by
 rw [b_t];simp (disch:=omega) only [yS];rfl
theorem loopB {n:Nat} (hn:n≤12) {pw:Int} {A B:List (Pm n)} {p:Pm n} {len:Nat} {nn:Bool} {z:Int} (hl:len=A.length+1+B.length) (hz:len≤5000):∀ (k j:Nat),j+k=n→LeadsM Try.prog 1 (stOf (sB n pw (encF A++(trS p j++encF B)) (pA p) len nn z A.length A.length j)) (stOf (sA n pw (encF (A++p.trn::B)) len nn z (A.length+1:Nat)))
 | 0,j,h=>by
  obtain rfl:j=n:=by omega
  rw [zve hn,zbx,za4];exact leadsMZ (.nil _) (lastB (Nat.le_refl _) (by omega))
 | k+1,j,h=>(leadsMZ (.nil _) (stepB hn (by omega) hl)).trans (loopB hn hl hz k (j+1) (by omega))
theorem stepA {n:Nat} {pw:Int} {A B:List (Pm n)} {p:Pm n} {len:Nat} {nn:Bool} (hl:len=A.length+1+B.length) (hz:len≤5000):RT (stOf (sA n pw (encF (A++p::B)) len nn len A.length)) = .at (sB n pw (encF A++(trS p 0++encF B)) (pA p) len nn len A.length A.length (0:Nat)):=by
 rw [a_t];have e3:((A.length:Int)).toNat=A.length:=rfl;have e4:Nat.add (Nat.mul A.length 12) 0=A.length*12:=rfl;rw [e3,e4,zdc,zaf,zas];have e5:(A++p::B).length=len:=by rw [List.length_append,List.length_cons];omega
 have e6:(zerosL 12).length=12:=rfl;rw [e5,e6,zbx,za4];simp (disch:=omega) only [yS];rfl
theorem lastA {n:Nat} {pw:Int} {L:List Int} {len:Nat} {nn:Bool} {z:Int} {i:Nat} (hi:z≤i):RT (stOf (sA n pw L len nn z i)) = .done (.tup []) (PDel.K0 n pw L len nn) 2:=by
 rw [a_t];simp (disch:=omega) only [yS];rfl
theorem loopA {n:Nat} (hn:n≤12) {pw:Int} {len:Nat} {nn:Bool} (hz:len≤5000):∀ (B A:List (Pm n)),len=A.length+B.length→EndM 1 115 .nil (stOf (sA n pw (encF (A.map Pm.trn++B)) len nn len A.length)) (.tup []) (PDel.K0 n pw (encF ((A++B).map Pm.trn)) len nn) 2
 | [],A,h=>by
  rw [List.append_nil,List.append_nil];exact .done (lastA (by simp at h;omega))
 | p::B,A,h=>by
  rw [List.length_cons] at h;have h1:=stepA (pw:=pw) (A:=A.map Pm.trn) (B:=B) (p:=p) (len:=len) (nn:=nn) (by rw [List.length_map];omega) hz;have h2:=loopB hn (pw:=pw) (A:=A.map Pm.trn) (B:=B) (p:=p) (len:=len) (nn:=nn) (z:=len) (by rw [List.length_map];omega) hz n 0 (by omega);rw [List.length_map] at h1 h2;refine .at (.nil _) h1 (.lead h2 ?_);have h3:=loopA hn (pw:=pw) (nn:=nn) hz B (A++[p]) (by rw [List.length_append,List.length_singleton];omega)
  rw [List.length_append,List.length_singleton,List.map_append,List.append_assoc,List.append_assoc] at h3;exact h3
noncomputable def turL (n:Int) (L:List Int):List Int:=encF ((decF n.toNat L).map Pm.trn)
theorem ends {n pw:Int} {L:List Int} {len:Nat} {nn:Bool} (h:FormOk n L len):EndM 1 115 .nil (st0m 115 [.ptr 0 0] (PDel.K0 n pw L len nn) 2) (.tup []) (PDel.K0 n pw (turL n L) len nn) 2:=by
 obtain ⟨h0,hn,F,rfl,rfl,hF⟩:=h;obtain ⟨n,rfl⟩:=Int.eq_ofNat_of_zero_le h0;have hn:n≤12:=by omega
 unfold turL;have e:(decF ((n:Int)).toNat (encF F))=F:=zco hn F;rw [e];exact .at (.nil _) (in_t n pw _ _ nn) (loopA hn hF F [] (by simp))
end PTrn
noncomputable def spTrn:ZMT:=fun ax K0 m=>match ax,K0 with
 | [.ptr 0 0],[(0,.cells 92 [.v (.int .i64 n),.v (.int .i64 pw),.slO 1 12 len nn] v_0),(1,.seq 95 (.ints .u8 L) v_1)]=>bc (Nat.beq m (2)) (some ⟨bc (eqN v_0 (true)) (bc (eqN v_1 (nn)) (decide (FormOk n L len)) false) false,.tup [],PDel.K0 n pw (PTrn.turL n L) len nn,2,1⟩) none
 | _,_=>none
theorem zq1:ZMtOk Try.prog 115 spTrn:=fun γ w0 w us ax K0 m r hs hc hres hax hH=>by
 unfold spTrn at hs;split at hs
 case h_2=>cases hs
 rename_i n pw len nn v_0 L v_1;obtain ⟨hm,rfl⟩:=noN hs;have hm:=Nat.eq_of_beq_eq_true hm;subst hm;have hc_0:bc (eqN v_0 (true)) (bc (eqN v_1 (nn)) (decide (FormOk n L len)) false) false=true:=hc;obtain ⟨q_0,hc_1⟩:=bcT hc_0;have p_0:=(zde q_0).symm;subst p_0;obtain ⟨q_1,hc_2⟩:=bcT hc_1;have p_1:=(zde q_1).symm;subst p_1;have hc:=of_decide_eq_true hc_2;exact EndM.calls (PTrn.ends hc) (.nil _) (by kernel_rfl) hres hax hH
namespace PTim
noncomputable def ct:Tr ZCC:=((Tr.nil.put 114 (some (dC spPln))).put 116 (some (mC spInv))).put 99 (some (mC spDel))
theorem ct_ok:ZCtsOk Try.prog ct:=(((ZCtsOk.nil _).add rfl zkt).addM rfl zq6).addM rfl zq9
noncomputable def RT (s:ES):ZF:=RMs 1 117 ct [(atS 0 117 3,[[(0,none),(4,none)]]),(atS 0 117 8,[[(0,none),(4,none),(5,none),(6,none),(7,none),(8,none)]]),(atS 0 117 17,[[(0,none),(9,none),(10,none)]]),(atS 0 117 19,[[(0,none),(10,none)]])] [] [] s
noncomputable def sA (n pw:Int) (L:List Int) (len:Nat) (k:Int):NS:=⟨[⟨117,187,[(0,(EV.ptr 0 0)),(4,iv k)],[.it (.code (nav [1,0,1,1,0,1,0,0,0] (bodyOf Try.f117))),.it (.code (nav [1,0,1,1,0,1,0,0,1] (bodyOf Try.f117))),.it (.inLoop (nav [1,0,1,1,0,1,0,0] (bodyOf Try.f117))),.it (.inBlock 0),.it (.code (nav [1,0,1,1,1] (bodyOf Try.f117))),.it (.inScope (nav [1,0] (bodyOf Try.f117)))],[],Option.none⟩],[(0,EK.cells 92 [iv n,iv pw,.slO 1 12 len true] true),(1,EK.seq 95 (.ints .u8 L) true)],2⟩
noncomputable def sB (n pw:Int) (L q:List Int) (len:Nat) (k:Int) (m:Nat) (tk:Bool) (i:Int):NS:=⟨[⟨117,187,[(0,(EV.ptr 0 0)),(4,iv k),(5,(EV.ptr 1 0)),(6,EV.ptrE 2 12 m 0),(7,bv tk),(8,iv i)],[.it (.code (nav [1,0,1,1,0,1,0,0,1,0,0,1,1,0,1,0,0,0] (bodyOf Try.f117))),.it (.code (nav [1,0,1,1,0,1,0,0,1,0,0,1,1,0,1,0,0,1] (bodyOf Try.f117))),.it (.inLoop (nav [1,0,1,1,0,1,0,0,1,0,0,1,1,0,1,0,0] (bodyOf Try.f117))),.it (.inBlock 2),.it (.code (nav [1,0,1,1,0,1,0,0,1,0,0,1,1,1] (bodyOf Try.f117))),.it (.inBlock 1),.it (.code (nav [1,0,1,1,0,1,0,0,1,1] (bodyOf Try.f117))),.it (.inLoop (nav [1,0,1,1,0,1,0,0] (bodyOf Try.f117))),.it (.inBlock 0),.it (.code (nav [1,0,1,1,1] (bodyOf Try.f117))),.it (.inScope (nav [1,0] (bodyOf Try.f117)))],[],Option.none⟩],[(0,(EK.cells 92 [(iv n),(iv pw),(EV.slO 2 12 len true)] true)),(1,EK.seq 95 (.ints .u8 q) true),(2,(EK.seq 95 (SyC.ints IntKind.u8 L) true))],3⟩
noncomputable def sC (n pw:Int) (L D:List Int) (len:Nat):NS:=⟨[⟨117,187,[(0,(EV.ptr 0 0)),(9,(EV.ptr 1 0)),(10,(EV.ptr 2 0))],[.it (.code (nav [1,0,1,1,1,1,0,0,0,0] (bodyOf Try.f117))),.it (.code (nav [1,0,1,1,1,1,0,0,0,1] (bodyOf Try.f117))),.it (.inLoop (nav [1,0,1,1,1,1,0,0,0] (bodyOf Try.f117))),.it (.inBlock 4),.it (.code (nav [1,0,1,1,1,1,1] (bodyOf Try.f117))),.it (.inScope (nav [1,0] (bodyOf Try.f117)))],[],Option.none⟩],[(0,(EK.cells 92 [(iv n),(iv pw),(EV.slO 3 12 len true)] true)),(1,(EK.seq 95 (SyC.ints IntKind.u8 [(0),(1),(2),(3),(4),(5),(6),(7),(8),(9),(10),(11)]) true)),(2,EK.seq 95 (.ints .u8 D) true),(3,(EK.seq 95 (SyC.ints IntKind.u8 L) true))],4⟩
noncomputable def sD (n pw:Int) (L D:List Int) (len:Nat):NS:=⟨[⟨117,187,[(0,(EV.ptr 0 0)),(10,(EV.ptr 1 0))],[.it (.code (nav [1,0,1,1,1,1,1,0,0,0] (bodyOf Try.f117))),.it (.code (nav [1,0,1,1,1,1,1,0,0,1] (bodyOf Try.f117))),.it (.inLoop (nav [1,0,1,1,1,1,1,0,0] (bodyOf Try.f117))),.it (.inBlock 6),.it (.inScope (nav [1,0] (bodyOf Try.f117)))],[],Option.none⟩],[(0,EK.cells 92 [iv n,iv pw,.slO 2 12 len true] true),(1,(EK.seq 95 (SyC.ints IntKind.u8 D) true)),(2,EK.seq 95 (.ints .u8 L) true)],3⟩
theorem in_t (n pw:Int) (L e:List Int) (len:Nat) (nn:Bool):RT (st0m 117 [.ptr 0 0,.arr (.ints .u8 e)] (PDel.K0 n pw L len nn) 2)=(bc (bc (bc (bc (Nat.beq (12:Nat) (List.length e)) true false) (bc (Nat.beq (List.length e) (12:Nat)) (bc (bc (Nat.beq (Nat.mul len (12:Nat)) (List.length L)) (bc (Nat.beq (Nat.mul (1:Nat) (12:Nat)) (List.length e)) (bc (Nat.ble (len+(1:Nat)) (65536:Nat)) (bc nn true (bc nn false true)) false) false) false) true false) false) false) true false) (.at (sA (n) (pw) (L++e) (len+(1:Nat)) (IntKind.wrap IntKind.i64 (Int.ofNat (len+(1:Nat))-(1:Int))))) .bad):=by kernel_rfl
theorem a_t (n pw:Int) (L:List Int) (len:Nat) (k:Int):RT (stOf (sA n pw L len k))=(bc (decide ((0:Int)<k)) (bc (bc (bc (bc (bc (decide ((0:Int)≤IntKind.wrap IntKind.i64 (k-(1:Int)))) (Nat.blt (Int.toNat (IntKind.wrap IntKind.i64 (k-(1:Int)))) len) false) true false) (bc (bc (decide (Int.toNat (IntKind.wrap IntKind.i64 (k-(1:Int)))*(12:Nat)+(12:Nat)≤List.length L∧In12 (List.take (12:Nat) (List.drop (Int.toNat (IntKind.wrap IntKind.i64 (k-(1:Int)))*(12:Nat)) L)))) true false) (bc (bc (bc (decide ((0:Int)≤k)) (Nat.blt (Int.toNat k) len) false) true false) (bc (bc (Nat.beq (List.length (invS (List.take (12:Nat) (List.drop (Int.toNat (IntKind.wrap IntKind.i64 (k-(1:Int)))*(12:Nat)) L)) (12:Nat))) (12:Nat)) (Nat.beq (List.length (zerosL (12:Nat))) (12:Nat)) false) true false) false) false) false) (bc (bc (bc (bc (Nat.beq len len) (eqN true true) false) true false) true false) true false) false) (.at (sB (n) (pw) (L) (invS (List.take (12:Nat) (List.drop (Int.toNat (IntKind.wrap IntKind.i64 (k-(1:Int)))*(12:Nat)) L)) (12:Nat)) (len) (k) (Int.toNat k) (false) ((1:Int)))) .bad) (bc (bc (decide ((0:Int)≤n∧n≤(12:Int))) true false) (.at (sC (n) (pw) (L) (pA (Pm.del (Int.toNat n))) (len))) .bad)):=by kernel_rfl
theorem b_t (n pw:Int) (L q:List Int) (len:Nat) (k:Int) (m:Nat) (tk:Bool) (i:Int):RT (stOf (sB n pw L q len k m tk i))=(bc (decide (i<n)) (bc (decide (List.getD L (Nat.add (Nat.mul m (12:Nat)) (Nat.add (0:Nat) (Nat.mul (Int.toNat i) (1:Nat)))) (0:Int)<List.getD L (Nat.add (Nat.mul m (12:Nat)) (Nat.add (0:Nat) (Nat.mul (Int.toNat (IntKind.wrap IntKind.i64 (i-(1:Int)))) (1:Nat)))) (0:Int))) (bc (bc (bc (bc (bc (decide ((0:Int)≤IntKind.wrap IntKind.i64 (i-(1:Int)))) (Nat.blt (Int.toNat (IntKind.wrap IntKind.i64 (i-(1:Int)))) (12:Nat)) false) true false) (bc (bc (Nat.blt (Nat.add (Nat.mul m (12:Nat)) (Nat.add (0:Nat) (Nat.mul (Int.toNat (IntKind.wrap IntKind.i64 (i-(1:Int)))) (1:Nat)))) (List.length L)) true false) (bc (bc (bc (decide ((0:Int)≤i)) (Nat.blt (Int.toNat i) (12:Nat)) false) true false) (bc (bc (Nat.blt (Nat.add (Nat.mul m (12:Nat)) (Nat.add (0:Nat) (Nat.mul (Int.toNat i) (1:Nat)))) (List.length L)) true false) (bc (eqB (decide (List.getD L (Nat.add (Nat.mul m (12:Nat)) (Nat.add (0:Nat) (Nat.mul (Int.toNat i) (1:Nat)))) (0:Int)<List.getD L (Nat.add (Nat.mul m (12:Nat)) (Nat.add (0:Nat) (Nat.mul (Int.toNat (IntKind.wrap IntKind.i64 (i-(1:Int)))) (1:Nat)))) (0:Int))) true) (bc (bc (bc (decide ((0:Int)≤IntKind.wrap IntKind.i64 (i-(1:Int)))) (Nat.blt (Int.toNat (IntKind.wrap IntKind.i64 (i-(1:Int)))) (12:Nat)) false) true false) (bc (bc (Nat.blt (Int.toNat (IntKind.wrap IntKind.i64 (i-(1:Int)))) (List.length q)) true false) (bc (bc (bc (decide ((0:Int)≤i)) (Nat.blt (Int.toNat i) (12:Nat)) false) true false) (bc (bc (Nat.blt (Int.toNat i) (List.length q)) true false) true false) false) false) false) false) false) false) false) false) true false) (bc (decide (List.getD q (Int.toNat (IntKind.wrap IntKind.i64 (i-(1:Int)))) (0:Int)<List.getD q (Int.toNat i) (0:Int))) (bc (bc (bc (bc (bc (decide ((0:Int)≤i)) (Nat.blt (Int.toNat i) (12:Nat)) false) true false) (bc (bc (Nat.blt (Int.toNat i) (List.length q)) true false) (bc (bc (bc (decide ((0:Int)≤IntKind.wrap IntKind.i64 (i-(1:Int)))) (Nat.blt (Int.toNat (IntKind.wrap IntKind.i64 (i-(1:Int)))) (12:Nat)) false) true false) (bc (bc (Nat.blt (Int.toNat (IntKind.wrap IntKind.i64 (i-(1:Int)))) (List.length q)) true false) (bc (bc (bc (decide ((0:Int)≤IntKind.wrap IntKind.i64 (i-(1:Int)))) (Nat.blt (Int.toNat (IntKind.wrap IntKind.i64 (i-(1:Int)))) (12:Nat)) false) true false) (bc (Nat.blt (Int.toNat (IntKind.wrap IntKind.i64 (i-(1:Int)))) (List.length q)) (bc (bc (bc (decide ((0:Int)≤i)) (Nat.blt (Int.toNat i) (12:Nat)) false) true false) (bc (Nat.blt (Int.toNat i) (List.length (List.set q (Int.toNat (IntKind.wrap IntKind.i64 (i-(1:Int)))) (List.getD q (Int.toNat i) (0:Int))))) true false) false) false) false) false) false) false) false) true false) (bc (bc (bc (bc (bc (decide ((0:Int)≤i)) (Nat.blt (Int.toNat i) (12:Nat)) false) true false) (bc (bc (Nat.blt (Nat.add (Nat.mul m (12:Nat)) (Nat.add (0:Nat) (Nat.mul (Int.toNat i) (1:Nat)))) (List.length L)) true false) (bc (bc (bc (decide ((0:Int)≤IntKind.wrap IntKind.i64 (i-(1:Int)))) (Nat.blt (Int.toNat (IntKind.wrap IntKind.i64 (i-(1:Int)))) (12:Nat)) false) true false) (bc (bc (Nat.blt (Nat.add (Nat.mul m (12:Nat)) (Nat.add (0:Nat) (Nat.mul (Int.toNat (IntKind.wrap IntKind.i64 (i-(1:Int)))) (1:Nat)))) (List.length L)) true false) (bc (bc (bc (decide ((0:Int)≤IntKind.wrap IntKind.i64 (i-(1:Int)))) (Nat.blt (Int.toNat (IntKind.wrap IntKind.i64 (i-(1:Int)))) (12:Nat)) false) true false) (bc (Nat.blt (Nat.add (Nat.mul m (12:Nat)) (Nat.add (0:Nat) (Nat.mul (Int.toNat (IntKind.wrap IntKind.i64 (i-(1:Int)))) (1:Nat)))) (List.length L)) (bc (bc (bc (decide ((0:Int)≤i)) (Nat.blt (Int.toNat i) (12:Nat)) false) true false) (bc (Nat.blt (Nat.add (Nat.mul m (12:Nat)) (Nat.add (0:Nat) (Nat.mul (Int.toNat i) (1:Nat)))) (List.length (List.set L (Nat.add (Nat.mul m (12:Nat)) (Nat.add (0:Nat) (Nat.mul (Int.toNat (IntKind.wrap IntKind.i64 (i-(1:Int)))) (1:Nat)))) (List.getD L (Nat.add (Nat.mul m (12:Nat)) (Nat.add (0:Nat) (Nat.mul (Int.toNat i) (1:Nat)))) (0:Int))))) true false) false) false) false) false) false) false) false) true false) (.at (sB (n) (pw) (List.set (List.set L (Nat.add (Nat.mul m (12:Nat)) (Nat.add (0:Nat) (Nat.mul (Int.toNat (IntKind.wrap IntKind.i64 (i-(1:Int)))) (1:Nat)))) (List.getD L (Nat.add (Nat.mul m (12:Nat)) (Nat.add (0:Nat) (Nat.mul (Int.toNat i) (1:Nat)))) (0:Int))) (Nat.add (Nat.mul m (12:Nat)) (Nat.add (0:Nat) (Nat.mul (Int.toNat i) (1:Nat)))) (List.getD L (Nat.add (Nat.mul m (12:Nat)) (Nat.add (0:Nat) (Nat.mul (Int.toNat (IntKind.wrap IntKind.i64 (i-(1:Int)))) (1:Nat)))) (0:Int))) (List.set (List.set q (Int.toNat (IntKind.wrap IntKind.i64 (i-(1:Int)))) (List.getD q (Int.toNat i) (0:Int))) (Int.toNat i) (List.getD q (Int.toNat (IntKind.wrap IntKind.i64 (i-(1:Int)))) (0:Int))) (len) (k) (m) (true) (IntKind.wrap IntKind.i64 ((0:Int)+(1:Int))))) .bad) .bad) (.at (sB (n) (pw) (L) (q) (len) (k) (m) (tk) (IntKind.wrap IntKind.i64 (i+(1:Int)))))) .bad) (bc (bc (bc (bc (bc (decide ((0:Int)≤IntKind.wrap IntKind.i64 (i-(1:Int)))) (Nat.blt (Int.toNat (IntKind.wrap IntKind.i64 (i-(1:Int)))) (12:Nat)) false) true false) (bc (bc (Nat.blt (Nat.add (Nat.mul m (12:Nat)) (Nat.add (0:Nat) (Nat.mul (Int.toNat (IntKind.wrap IntKind.i64 (i-(1:Int)))) (1:Nat)))) (List.length L)) true false) (bc (bc (bc (decide ((0:Int)≤i)) (Nat.blt (Int.toNat i) (12:Nat)) false) true false) (bc (bc (Nat.blt (Nat.add (Nat.mul m (12:Nat)) (Nat.add (0:Nat) (Nat.mul (Int.toNat i) (1:Nat)))) (List.length L)) true false) (bc (eqB (decide (List.getD L (Nat.add (Nat.mul m (12:Nat)) (Nat.add (0:Nat) (Nat.mul (Int.toNat i) (1:Nat)))) (0:Int)<List.getD L (Nat.add (Nat.mul m (12:Nat)) (Nat.add (0:Nat) (Nat.mul (Int.toNat (IntKind.wrap IntKind.i64 (i-(1:Int)))) (1:Nat)))) (0:Int))) false) true false) false) false) false) false) true false) (.at (sB (n) (pw) (L) (q) (len) (k) (m) (tk) (IntKind.wrap IntKind.i64 (i+(1:Int))))) .bad)) (bc (!tk) (bc (bc (decide ((0:Int)≤n∧n≤(12:Int))) true false) (.at (sC (n) (pw) (L) (pA (Pm.del (Int.toNat n))) (len))) .bad) (bc (bc (bc (bc (decide (In12 q)) true false) (bc (bc (bc (decide ((0:Int)≤IntKind.wrap IntKind.i64 (k-(1:Int)))) (Nat.blt (Int.toNat (IntKind.wrap IntKind.i64 (k-(1:Int)))) len) false) true false) (bc (bc (Nat.beq (List.length (invS q (12:Nat))) (12:Nat)) (Nat.ble (Nat.add (Nat.add (Nat.mul (Int.toNat (IntKind.wrap IntKind.i64 (k-(1:Int)))) (12:Nat)) (0:Nat)) (12:Nat)) (List.length L)) false) true false) false) false) (bc (bc (bc (bc (Nat.beq len len) (eqN true true) false) true false) true false) true false) false) (.at (sA (n) (pw) (List.take (Nat.add (Nat.mul (Int.toNat (IntKind.wrap IntKind.i64 (k-(1:Int)))) (12:Nat)) (0:Nat)) (List.drop (0:Nat) L)++invS q (12:Nat)++List.take (List.length L) (List.drop (Nat.add (Nat.add (Nat.mul (Int.toNat (IntKind.wrap IntKind.i64 (k-(1:Int)))) (12:Nat)) (0:Nat)) (List.length (invS q (12:Nat)))) L)) (len) (IntKind.wrap IntKind.i64 (k-(1:Int))))) .bad))):=by kernel_rfl
theorem c_t (n pw:Int) (L D:List Int) (len:Nat):RT (stOf (sC n pw L D len))=(bc (decide ((0:Int)<Int.ofNat len)) (bc (bc (bc (eqB (decide ((0:Int)<Int.ofNat len)) true) (bc (bc (bc (decide ((0:Int)≤IntKind.wrap IntKind.i64 (Int.ofNat len-(1:Int)))) (Nat.blt (Int.toNat (IntKind.wrap IntKind.i64 (Int.ofNat len-(1:Int)))) len) false) true false) (bc (bc (Nat.ble (Nat.add (Nat.add (Nat.mul (Int.toNat (IntKind.wrap IntKind.i64 (Int.ofNat len-(1:Int)))) (12:Nat)) (0:Nat)) (12:Nat)) (List.length L)) true false) (bc (bc (bc (Nat.beq (List.length (List.take (12:Nat) (List.drop (Nat.add (Nat.mul (Int.toNat (IntKind.wrap IntKind.i64 (Int.ofNat len-(1:Int)))) (12:Nat)) (0:Nat)) L))) (12:Nat)) (Nat.beq (List.length [(0:Int),(1:Int),(2:Int),(3:Int),(4:Int),(5:Int),(6:Int),(7:Int),(8:Int),(9:Int),(10:Int),(11:Int)]) (12:Nat)) false) true false) true false) false) false) false) true false) (bc (eqLI (List.take (12:Nat) (List.drop (Nat.add (Nat.mul (Int.toNat (IntKind.wrap IntKind.i64 (Int.ofNat len-(1:Int)))) (12:Nat)) (0:Nat)) L)) [(0:Int),(1:Int),(2:Int),(3:Int),(4:Int),(5:Int),(6:Int),(7:Int),(8:Int),(9:Int),(10:Int),(11:Int)]) (bc (bc (bc (bc (decide ((0:Int)≤IntKind.wrap IntKind.i64 (Int.ofNat len-(1:Int)))) (bc (Nat.ble (Int.toNat (IntKind.wrap IntKind.i64 (Int.ofNat len-(1:Int)))) len) (Nat.beq (Nat.mul len (12:Nat)) (List.length L)) false) false) true false) true false) (.at (sC (n) (pw) (List.take (Int.toNat (IntKind.wrap IntKind.i64 (Int.ofNat len-(1:Int)))*(12:Nat)) L) (D) (Int.toNat (IntKind.wrap IntKind.i64 (Int.ofNat len-(1:Int)))))) .bad) (.at (sD (n) (pw) (L) (D) (len)))) .bad) (bc (bc (bc (eqB (decide ((0:Int)<Int.ofNat len)) false) true false) true false) (.at (sD (n) (pw) (L) (D) (len))) .bad)):=by kernel_rfl
theorem d_t (n pw:Int) (L D:List Int) (len:Nat):RT (stOf (sD n pw L D len))=(bc (decide ((0:Int)<Int.ofNat len)) (bc (bc (bc (eqB (decide ((0:Int)<Int.ofNat len)) true) (bc (bc (Nat.blt (Int.toNat (0:Int)) len) true false) (bc (bc (Nat.ble (Nat.add (Nat.add (Nat.mul (Int.toNat (0:Int)) (12:Nat)) (0:Nat)) (12:Nat)) (List.length L)) true false) (bc (bc (Nat.beq (12:Nat) (List.length D)) true false) (bc (bc (bc (Nat.beq (List.length (List.take (12:Nat) (List.drop (Nat.add (Nat.mul (Int.toNat (0:Int)) (12:Nat)) (0:Nat)) L))) (12:Nat)) (Nat.beq (List.length D) (12:Nat)) false) true false) true false) false) false) false) false) true false) (bc (eqLI (List.take (12:Nat) (List.drop (Nat.add (Nat.mul (Int.toNat (0:Int)) (12:Nat)) (0:Nat)) L)) D) (bc (bc (Nat.ble (Int.toNat (1:Int)) len) (Nat.beq (Nat.mul len (12:Nat)) (List.length L)) false) (.at (sD (n) (IntKind.wrap IntKind.i64 (pw+(1:Int))) (List.drop (Int.toNat (1:Int)*(12:Nat)) L) (D) (len-Int.toNat (1:Int)))) .bad) (.done (EV.tup []) [(0,(EK.cells 92 [(EV.v (Value.int IntKind.i64 (n))),(EV.v (Value.int IntKind.i64 (pw))),(EV.slO 1 12 (len) true)] true)),(1,(EK.seq 95 (SyC.ints IntKind.u8 (L)) true))] 2)) .bad) (bc (bc (bc (eqB (decide ((0:Int)<Int.ofNat len)) false) true false) true false) (.done (EV.tup []) [(0,(EK.cells 92 [(EV.v (Value.int IntKind.i64 (n))),(EV.v (Value.int IntKind.i64 (pw))),(EV.slO 1 12 (len) true)] true)),(1,(EK.seq 95 (SyC.ints IntKind.u8 (L)) true))] 2) .bad)):=by kernel_rfl
end PTim
end Go.Proofs.Ytfffbioafhppiaa.Ev
