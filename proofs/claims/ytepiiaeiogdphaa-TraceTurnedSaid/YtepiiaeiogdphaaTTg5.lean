/- Laid together: Open maps whose keys are arrays (or strings) and whose values are plain: set, look up, by equality of keys. No program is named. Structs built of arrays with open contents. No program is named. A row of its own behind a nest. No program is named. Runs over open leaves that fork: one run says what comes of all cases. No program is named. Runs over open leaves to a place, .. -/
import Derived.DeepKeys3
import Derived.WideKeyArr
import Derived.StringKeys
import Derived.Test.YtepiiaeiogdphaaChecked
import Derived.Below
import Derived.Lib.Join
import Derived.Lib.Repeat
import Derived.Shelf.Small.Bits
import Derived.Shelf.Small.Strs
import Derived.Shelf.Strconv.Itoa0
import Derived.Shelf.Strings.Search1
import Derived.Shelf.Sort.Plain
import Derived.Shelf.Slices.Reverse
import Derived.Shelf.Slices.Clone
import Derived.Shelf.Slices.CompactI
import Derived.Shelf.Slices.SearchI
import Derived.Shelf.Slices.Cells
import Derived.Shelf.Slices.In.SortNone
import Derived.Shelf.SlicesE.Reverse
import Derived.Shelf.SlicesE.Compact
import Derived.Shelf.SlicesE.Clone
import Derived.Shelf.SlicesE.IndexFunc
import Derived.Test.YtepiiaeiogdphaaProg
import Derived.Test.YtepiiaeiogdphaaTTg4
set_option linter.unusedSimpArgs false
set_option linter.unusedVariables false
noncomputable section
namespace Go.Proofs.Ytepiiaeiogdphaa.Ev
section
open Go.RowKit Go.MapKept Go.WideMaps
variable {P:Program} {γ γ':G} {w0:Bs} {w:World} {H H':Tr EK} {n n':Nat} {T:Tr EV} {tmps:Array Value} {o:Oper}
def eqW (a b:Value):Bool:=@decide (a=b) (Classical.propDecidable _)
theorem za8 {a b:Value}:eqW a b=true↔a=b:=by unfold eqW;simp
def dropW (k:Value) (es:List (Value×Value)):List (Value×Value):=List.rec [] (fun p _ ih=>bc (eqW k p.1) ih (p::ih)) es
def setW (k x:Value) (es:List (Value×Value)):List (Value×Value):=(k,x)::dropW k es
def findW (k:Value) (es:List (Value×Value)):Option Value:=List.rec none (fun p _ ih=>bc (eqW k p.1) (some p.2) ih) es
def hasW (k:Value) (es:List (Value×Value)):Bool:=Option.isSome (findW k es)
def numW (k:Value) (es:List (Value×Value)):Int:=match findW k es with
 | some (.int _ x)=>x
 | _=>0
def keyW (P:Program) (kt:TypeId) (k:Value):Bool:=Option.isSome (keyOf P kt k)
def intV (v:Value):Bool:=match v with
 | .int .i64 _=>true
 | _=>false
def keysW (P:Program) (kt:TypeId) (es:List (Value×Value)):Bool:=List.rec true (fun p _ ih=>bc (keyW P kt p.1) (bc (intV p.2) ih false) false) es
theorem zht {kt:TypeId}:∀ {es:List (Value×Value)},keysW P kt es=true→∀ p∈es,(∃ l,keyOf P kt p.1=some l)∧∃ x,p.2 = .int .i64 x
 | [],_,p,hp=>by simp at hp
 | q::es,h,p,hp=>by
  obtain ⟨h1,h2⟩:=bcT (show bc (keyW P kt q.1) (bc (intV q.2) (keysW P kt es) false) false=true from h);obtain ⟨h2,h3⟩:=bcT h2;rcases List.mem_cons.1 hp with rfl|hp
  ·refine ⟨Option.isSome_iff_exists.1 h1,?_⟩;unfold intV at h2;split at h2
   ·rename_i x hx;exact ⟨x,hx⟩
   ·cases h2
  ·exact zht h3 p hp
theorem zcg (k:Value) (q:Value×Value) (es:List (Value×Value)):findW k (q::es)=bc (eqW k q.1) (some q.2) (findW k es):=rfl
theorem zew (k:Value) (q:Value×Value) (es:List (Value×Value)):dropW k (q::es)=bc (eqW k q.1) (dropW k es) (q::dropW k es):=rfl
theorem zgn {k:Value}:∀ {es:List (Value×Value)},findW k es=none→∀ p∈es,p.1≠k
 | [],_,p,hp=>by simp at hp
 | q::es,h,p,hp=>by
  rw [zcg,bc_eq] at h
  by_cases e:k=q.1
  ·rw [if_pos (za8.2 e)] at h;cases h
  ·rw [if_neg (fun h=>e (za8.1 h))] at h;rcases List.mem_cons.1 hp with rfl|hp
   ·exact fun h=>e h.symm
   ·exact zgn h p hp
theorem zeq {k x:Value}:∀ {es:List (Value×Value)},findW k es=some x→(k,x)∈es
 | [],h=>by cases h
 | q::es,h=>by
  rw [zcg,bc_eq] at h
  by_cases e:k=q.1
  ·rw [if_pos (za8.2 e)] at h;injection h with h
   subst h;subst e;exact List.mem_cons_self ..
  ·rw [if_neg (fun h=>e (za8.1 h))] at h;exact List.mem_cons_of_mem _ (zeq h)
theorem zgt {k:Value}:∀ (es:List (Value×Value)),(∀ p,p∈dropW k es↔p∈es∧p.1≠k)∧List.Sublist (dropW k es) es
 | []=>⟨fun p=>by simp [dropW],.slnil⟩
 | q::es=>by
  obtain ⟨i1,i2⟩:=zgt (k:=k) es;rw [zew,bc_eq]
  by_cases e:k=q.1
  ·rw [if_pos (za8.2 e)];refine ⟨fun p=>?_,i2.cons _⟩;rw [i1 p];constructor
   ·rintro ⟨h1,h2⟩;exact ⟨List.mem_cons_of_mem _ h1,h2⟩
   ·rintro ⟨h1,h2⟩
    rcases List.mem_cons.1 h1 with rfl|h1
    ·exact absurd e.symm h2
    ·exact ⟨h1,h2⟩
  ·rw [if_neg (fun h=>e (za8.1 h))];refine ⟨fun p=>?_,i2.cons_cons _⟩;rw [List.mem_cons,List.mem_cons,i1 p];constructor
   ·rintro (rfl|⟨h1,h2⟩)
    ·exact ⟨.inl rfl,fun h=>e h.symm⟩
    ·exact ⟨.inr h1,h2⟩
   ·rintro ⟨rfl|h1,h2⟩
    ·exact .inl rfl
    ·exact .inr ⟨h1,h2⟩
def wideB (P:Program) (kt:TypeId):Bool:=match P.underlying kt with
 | some .string=>true
 | some (.array m e)=>bc (P.plainKey e) (bc (Nat.beq (P.cellsOf e) 1) (Nat.beq (P.cellsOf kt) m) false) false
 | _=>false
theorem zk5 {kt:TypeId} (h:wideB P kt=true):KeyLaw P kt:=by
 unfold wideB at h;split at h
 case h_3=>cases h
 ·rename_i hu;exact string_law hu
 ·rename_i m e hu;obtain ⟨h1,h2⟩:=bcT h;obtain ⟨h2,h3⟩:=bcT h2;exact ArrKey.law ⟨hu,h1,Nat.eq_of_beq_eq_true h2,Nat.eq_of_beq_eq_true h3⟩
def vsOf (cs:List EV):Option (List Value):=List.rec (some []) (fun a _ ih=>match a with
 | .v x=>match ih with
  | some l=>some (x::l)
  | none=>none
 | _=>none) cs
theorem zn2:∀ {cs:List EV} {l:List Value},vsOf cs=some l→cs=l.map .v
 | [],l,h=>by injection h with h;subst h;rfl
 | a::cs,l,h=>by
  cases a
  case v x=>
   have h':(match vsOf cs with
    | some l=>some (x::l)
    | none=>none)=some l:=h
   clear h;split at h'
   ·rename_i l' hl;injection h' with h';subst h'
    rw [zn2 hl];rfl
   ·cases h'
  all_goals cases h
def pv (a:EV):Option Value:=match a with
 | .v x=>some x
 | .agg cs=>match vsOf cs with
  | some l=>some (.agg (Array.mk l))
  | none=>none
 | .arr c=>match c.vals with
  | some l=>some (.agg (Array.mk l))
  | none=>none
 | _=>none
theorem pv_ok {a:EV} {x v:Value} (h:EC γ a x) (hp:pv a=some v):x=v:=by
 cases h with
 | v x=>exact Option.some.inj hp
 | agg cs vs hl hh=>
  unfold pv at hp;simp only at hp;split at hp
  ·rename_i l hv;injection hp with hp;subst hp
   have:=zn2 hv;subst this;rw [zcv ⟨hl,hh⟩]
  ·cases hp
 | arr c vs hv=>
  unfold pv at hp;simp only at hp;rw [hv] at hp;exact Option.some.inj hp
 | _=>cases hp
theorem zi7 {kt:TypeId} {ents:Array MapEntry} {es:List (Value×Value)} (hp:(kvs ents).Perm es) (h:keysW P kt es=true):∀ e∈ents.toList,∃ l,keyOf P kt e.key=some l:=fun e he=>by
 have h1:(e.key,e.val)∈kvs ents:=zaq.2 ⟨e,he,rfl,rfl⟩;exact (zht h _ (hp.mem_iff.1 h1)).1
theorem zu9 {k x:Value} {es:List (Value×Value)} {ents:Array MapEntry} {clock:Nat} {kt mt et:TypeId} {r:Nat} {lk:Lit} (K:KeyLaw P kt) (hu:P.underlying mt=some (.map kt et)) (hK:keyOf P kt k=some lk) (hKs:keysW P kt es=true) (hb:w.heap[r]? = some (.map ents clock)) (hs:Stamped ents clock) (hp:(kvs ents).Perm es) :
  ∃ ents' clock',(Instr.mapUpdate mt (.map (some r)) k x).run P w = .ok () (w.putObj r (.map ents' clock'))∧Stamped ents' clock'∧(kvs ents').Perm (setW k x es):=by
 have hE:=zi7 hp hKs;obtain ⟨g2,g3⟩:=zgt (k:=k) es;have hnl:(es.map (·.1)).Nodup:=((hp.map (·.1)).nodup_iff).1 (by rw [zbr];exact hs.2.2);have hnd:((setW k x es).map (·.1)).Nodup:=by
  show (((k,x)::dropW k es).map (·.1)).Nodup;simp only [List.map_cons,List.nodup_cons];refine ⟨fun h=>?_,(g3.map _).nodup hnl⟩;obtain ⟨p,h1,h2⟩:=List.mem_map.1 h;exact ((g2 p).1 h1).2 h2
 rcases K.find w hK ents.toList hE with ⟨h1,h2⟩|⟨j,e,h1,h2,h3⟩
 ·refine ⟨ents.push { key:=k,val:=x,born:=clock },clock+1,?_,stamped_push hs h2,?_⟩
  ·simp [Instr.mapUpdate,run_underlying hu,MapKept.run_getObj_map hb,K.check w false hK,h1,MapKept.run_setObj_map _ hb,Result.andThen] <;> rfl
  ·have hs':=stamped_push (val:=x) hs h2;refine zbl (zah (by rw [zbr];exact hs'.2.2)) (zah hnd) fun p=>?_;rw [zaq];constructor
   ·rintro ⟨e,q1,q2,q3⟩
    simp only [Array.toList_push,List.mem_append,List.mem_singleton] at q1;rcases q1 with q1|rfl
    ·exact List.mem_cons.2 (.inr ((g2 p).2 ⟨hp.mem_iff.1 (zaq.2 ⟨e,q1,q2,q3⟩),fun h=>h2 e q1 (q2.trans h)⟩))
    ·exact List.mem_cons.2 (.inl (Prod.ext q2.symm q3.symm))
   ·intro h;rcases List.mem_cons.1 h with rfl|h
    ·exact ⟨{ key:=k,val:=x,born:=clock },by simp,rfl,rfl⟩
    ·obtain ⟨e,q1,q2,q3⟩:=zaq.1 (hp.mem_iff.2 ((g2 p).1 h).1);exact ⟨e,by simp [q1],q2,q3⟩
 ·have hj:ents[j]? = some e:=by simpa using h2
  have hmem:e∈ents.toList:=List.mem_of_getElem? h2;have hkey:∀ e',ents[j]? = some e'→({ e' with key:=k,val:=x }:MapEntry).key=e'.key:=fun e' he'=>by rw [hj] at he';cases he';exact h3.symm
  have hs':=stamped_modify hs j (fun e=>{ e with key:=k,val:=x }) (fun _ _=>rfl) (fun e' _ he'=>hkey e' he')
  refine ⟨ents.modify j fun e=>{ e with key:=k,val:=x },clock,?_,hs',?_⟩
  ·simp [Instr.mapUpdate,run_underlying hu,MapKept.run_getObj_map hb,K.check w false hK,h1,hj,h3,K.stays w hK,MapKept.run_setObj_map _ hb,Result.andThen] <;> rfl
  ·refine zbl (zah (by rw [zbr];exact hs'.2.2)) (zah hnd) fun p=>?_;rw [zaq];have hget:∀ i:Nat,(ents.modify j fun e=>{ e with key:=k,val:=x })[i]? = if j=i then (ents[i]?).map (fun e=>{ e with key:=k,val:=x }) else ents[i]?:=fun i=>Array.getElem?_modify ..
   constructor
   ·rintro ⟨f,q1,q2,q3⟩
    obtain ⟨i,hi⟩:=List.mem_iff_getElem?.1 q1;rw [Array.getElem?_toList,hget i] at hi
    by_cases hij:j=i
    ·subst hij;rw [if_pos rfl,hj] at hi;simp at hi;subst hi;exact List.mem_cons.2 (.inl (Prod.ext q2.symm q3.symm))
    ·rw [if_neg hij] at hi;have hf:f∈ents.toList:=List.mem_of_getElem? (by rw [Array.getElem?_toList];exact hi);refine List.mem_cons.2 (.inr ((g2 p).2 ⟨hp.mem_iff.1 (zaq.2 ⟨f,hf,q2,q3⟩),fun h=>?_⟩));have:f=e:=zll hs hf hmem (by rw [h3,q2,h]);subst this;have hpw:=((stamped_iff ents clock).1 hs).2.2;rw [List.pairwise_iff_getElem] at hpw;obtain ⟨a1,a2⟩:=List.getElem?_eq_some_iff.1 h2;have hi':ents.toList[i]? = some f:=by rw [Array.getElem?_toList];exact hi
     obtain ⟨b1,b2⟩:=List.getElem?_eq_some_iff.1 hi';rcases Nat.lt_or_gt_of_ne hij with hlt|hlt
     ·exact hpw j i a1 b1 hlt (by rw [a2,b2])
     ·exact hpw i j b1 a1 hlt (by rw [a2,b2])
   ·intro h;rcases List.mem_cons.1 h with rfl|h
    ·refine ⟨{ e with key:=k,val:=x },List.mem_iff_getElem?.2 ⟨j,?_⟩,rfl,rfl⟩
     rw [Array.getElem?_toList,hget j,if_pos rfl,hj];rfl
    ·obtain ⟨q0,q4⟩:=(g2 p).1 h;obtain ⟨f,q1,q2,q3⟩:=zaq.1 (hp.mem_iff.2 q0);obtain ⟨i,hi⟩:=List.mem_iff_getElem?.1 q1;rw [Array.getElem?_toList] at hi;have hij:j≠i:=fun e=>by
      subst e;rw [hj] at hi;injection hi with hi;subst hi
      exact q4 (q2.symm.trans h3)
     refine ⟨f,List.mem_iff_getElem?.2 ⟨i,?_⟩,q2,q3⟩;rw [Array.getElem?_toList,hget i,if_neg hij];exact hi
def zSpUpd (P:Program) (T:Tr EV) (t:TypeId) (m k x:Operand) (H:Tr EK) (n:Nat):Option YR:=match mpoAt T H m with
 | some (i,es)=>match mapOf P t with
  | some (kt,_,_)=>bc (wideB P kt) (match exVal T k with
   | some ka=>match pv ka with
    | some kv=>match exVal T x with
     | some (.v xv)=>bc (Nat.ble i 65535) (some ⟨bc (keyW P kt kv) (keysW P kt es) false,⟨none,H.put i (some (.mpo (setW kv xv es))),n⟩⟩) none
     | _=>none
    | none=>none
   | none=>none) none
  | none=>none
 | none=>none
theorem znj (hT:TOk γ T tmps) (hH:HR γ w0 H n w) {t:TypeId} {m k x:Operand} {r:YR} (ho:execOp (opEval tmps) o=(do Instr.mapUpdate t (opEval tmps m) (opEval tmps k) (opEval tmps x);pure Next.skip:Sem Next)) (h:zSpUpd P T t m k x H n=some r) (hc:r.c=true):Gives P γ w0 w (execOp (opEval tmps) o) r.er.val r.er.H r.er.n:=by
 unfold zSpUpd at h;split at h
 case h_2=>cases h
 rename_i i es hm;split at h
 case h_2=>cases h
 rename_i kt e d ht;rw [bc_eq] at h;split at h
 case isFalse=>cases h
 rename_i hw;split at h
 case h_2=>cases h
 rename_i ka hka;split at h
 case h_2=>cases h
 rename_i kv hpv;split at h
 case h_2=>cases h
 rename_i xv hx;rw [bc_eq] at h;split at h
 case isFalse=>cases h
 rename_i hi;injection h with h;subst h
 obtain ⟨hkey,hkeys⟩:=bcT hc;obtain ⟨b,q,ents,clock,hγ,hv,hg,hb,hs,hp⟩:=ze8 hT hH hm;obtain ⟨hu,hd⟩:=zb9 ht;have hkv:=pv_ok (zaa hT hka) hpv;have hxv:=ec_v (zaa hT hx);obtain ⟨lk,hlk⟩:=Option.isSome_iff_exists.1 hkey;obtain ⟨ents',clock',r1,r2,r3⟩:=zu9 (w:=w) (x:=xv) (zk5 hw) hu hlk hkeys hb hs hp;have hlt:=(Array.getElem?_eq_some_iff.1 hb).1
 refine ⟨γ,w.putObj b.k (.map ents' clock'),GLe.refl γ,hH.turn hi hg hγ _ (fun c hc=>World.putObj_heap_other hc) (by simp) rfl rfl rfl ⟨ents',clock',World.putObj_heap_same hlt,r2,r3⟩,?_⟩;show (execOp (opEval tmps) o).run P w = .ok .skip _;rw [ho,hv,hkv,hxv];simp [r1,Result.andThen]
def zeroI (P:Program) (e:TypeId):Bool:=match pureOf P (zeroValue e) with
 | some (.int .i64 q)=>decide (q=0)
 | _=>false
theorem zqr {e:TypeId} (h:zeroI P e=true) (w:World):(zeroValue e).run P w = .ok (.int .i64 0) w:=by
 unfold zeroI at h;split at h
 case h_2=>cases h
 rename_i q hq;have:=of_decide_eq_true h;subst this;exact zdd hq w
def zSpLook (P:Program) (T:Tr EV) (t:TypeId) (m k:Operand) (ok:Bool) (H:Tr EK):Option (Bool×EV):=match mpoAt T H m with
 | some (_,es)=>match mapOf P t with
  | some (kt,e,_)=>bc (wideB P kt) (bc (zeroI P e) (match exVal T k with
   | some ka=>match pv ka with
    | some kv=>some (bc (keyW P kt kv) (keysW P kt es) false,bc ok (.tup [.v (.int .i64 (numW kv es)),.v (.bool (hasW kv es))]) (.v (.int .i64 (numW kv es))))
    | none=>none
   | none=>none) none) none
  | none=>none
 | none=>none
theorem zmj (hT:TOk γ T tmps) (hH:HR γ w0 H n w) {t:TypeId} {m k:Operand} {ok:Bool} {p:Bool×EV} (ho:o.op = .lookup t m k ok) (h:zSpLook P T t m k ok H=some p) (hc:p.1=true):Gives P γ w0 w (execOp (opEval tmps) o) (some p.2) H n:=by
 unfold zSpLook at h;split at h
 case h_2=>cases h
 rename_i i es hm;split at h
 case h_2=>cases h
 rename_i kt e d ht;rw [bc_eq] at h;split at h
 case isFalse=>cases h
 rename_i hw;rw [bc_eq] at h;split at h
 case isFalse=>cases h
 rename_i hz;split at h
 case h_2=>cases h
 rename_i ka hka;split at h
 case h_2=>cases h
 rename_i kv hpv;injection h with h;subst h
 obtain ⟨hkey,hkeys⟩:=bcT hc;obtain ⟨b,q,ents,clock,hγ,hv,hg,hb,hs,hp⟩:=ze8 hT hH hm;obtain ⟨hu,hd⟩:=zb9 ht;have hkv:=pv_ok (zaa hT hka) hpv;obtain ⟨lk,hlk⟩:=Option.isSome_iff_exists.1 hkey;have K:=zk5 hw;have hE:=zi7 hp hkeys;have he:execOp (opEval tmps) o=(do pure (Next.value (← Instr.lookup t (opEval tmps m) (opEval tmps k) ok)):Sem Next):=by unfold execOp;rw [ho]
 rcases K.find w hlk ents.toList hE with ⟨h1,h2⟩|⟨j,e0,h1,h2,h3⟩
 ·have hnone:findW kv es=none:=by
   cases hf:findW kv es with
   | none=>rfl
   | some a'=>
    obtain ⟨e1,g2,g3,_⟩:=zaq.1 (hp.mem_iff.2 (zeq hf));exact absurd g3 (h2 e1 g2)
  have e1:numW kv es=0:=by unfold numW;rw [hnone]
  have e2:hasW kv es=false:=by unfold hasW;rw [hnone];rfl
  refine zab (x:=if ok then .tuple #[.int .i64 0,.bool false] else .int .i64 0) ?_ ?_ hH
  ·rw [he];refine run_v ?_;cases ok <;> simp [Instr.lookup,hv,hkv,run_underlying hu,MapKept.run_getObj_map hb,K.check w ents.isEmpty hlk,h1,zqr hz,Result.andThen]
  ·show EC γ (bc ok _ _) _;rw [bc_eq,e1,e2];cases ok
   ·exact .v _
   ·exact .tup _ [.int .i64 0,.bool false] rfl (ECL.cons (.v _) (ECL.cons (.v _) (ECL.nil γ))).2
 ·have hmem:e0∈ents.toList:=List.mem_of_getElem? h2;have hin:(kv,e0.val)∈es:=hp.mem_iff.1 (zaq.2 ⟨e0,hmem,h3,rfl⟩);obtain ⟨_,x,hx⟩:=zht hkeys _ hin;have hx:e0.val = .int .i64 x:=hx
  cases hf:findW kv es with
  | none=>exact absurd rfl (zgn hf _ hin)
  | some a'=>
   obtain ⟨e1,g3,g4,g5⟩:=zaq.1 (hp.mem_iff.2 (zeq hf));have:=zll hs g3 hmem (by rw [h3];exact g4);subst this;have g5:e1.val=a':=g5;have e1':numW kv es=x:=by unfold numW;rw [hf,← g5,hx]
   have e2:hasW kv es=true:=by unfold hasW;rw [hf];rfl
   refine zab (x:=if ok then .tuple #[.int .i64 x,.bool true] else .int .i64 x) ?_ ?_ hH
   ·rw [he];refine run_v ?_;cases ok <;> simp [Instr.lookup,hv,hkv,run_underlying hu,MapKept.run_getObj_map hb,K.check w ents.isEmpty hlk,h1,hx,Result.andThen]
   ·show EC γ (bc ok _ _) _;rw [bc_eq,e1',e2];cases ok
    ·exact .v _
    ·exact .tup _ [.int .i64 x,.bool true] rfl (ECL.cons (.v _) (ECL.cons (.v _) (ECL.nil γ))).2
def zArrP (P:Program) (T:Tr EV) (arr:TypeId) (x:Operand):Option (Bool×EV):=match P.underlying arr with
 | some (.array m _)=>bc (Nat.blt 0 m) (match exVal T x with
  | some (.slX i z off len)=>bc (Nat.beq z 1) (some (Nat.ble m len,.ptrE i 1 off 0)) none
  | _=>none) none
 | _=>none
theorem zrc (hT:TOk γ T tmps) (hH:HR γ w0 H n w) {arr:TypeId} {x:Operand} {p:Bool×EV} (ho:o.op = .sliceToArrayPointer arr x) (h:zArrP P T arr x=some p) (hc:p.1=true):Gives P γ w0 w (execOp (opEval tmps) o) (some p.2) H n:=by
 unfold zArrP at h;split at h
 case h_2=>cases h
 rename_i m e hu;rw [bc_eq] at h;split at h
 case isFalse=>cases h
 rename_i hm;have hm:=zad hm;split at h
 case h_2=>cases h
 rename_i i z off len hx;rw [bc_eq] at h;split at h
 case isFalse=>cases h
 rename_i hz;have hz:=Nat.eq_of_beq_eq_true hz;subst hz;injection h with h;subst h
 have hl:m≤len:=Nat.le_of_ble_eq_true hc;have hv:=zaa hT hx;generalize hxx:opEval tmps x=xx at hv;have he:execOp (opEval tmps) o=(do pure (Next.value (← Instr.arrayAt arr xx)):Sem Next):=by unfold execOp;rw [ho];simp only [hxx]
 cases hv with
 | slX _ _ _ _ b mm c off' g1 g2 g3 g4 g5=>
  have g5:=g5 (by omega);subst g5;refine zab (x:=.pointer (some (b.at off'))) ?_ ?_ hH
  ·rw [he];refine run_v ?_;simp [Instr.arrayAt,run_underlying hu,Nat.not_lt.2 hl]
  ·have:=EC.ptrE (γ:=γ) i 1 off' 0 b mm g1
   rwa [show off'*1+0=off' by omega] at this
def flW (ct:Tr ZCC):Bool:=Option.isSome (ct.get 60003)
def zSpO (P:Program) (ct:Tr ZCC) (T:Tr EV) (o:Oper) (H:Tr EK) (n:Nat):Option YR:=match o.op with
 | .makeMap _ hint=>match hint with
  | none=>bc (flW ct) (bc (Nat.ble n 65535) (some ⟨true,⟨some (.mp n),H.put n (some (.mpo [])),Nat.succ n⟩⟩) none) none
  | some _=>none
 | .mapUpdate t m k x=>bc (flW ct) (zSpUpd P T t m k x H n) none
 | .lookup t m k ok=>bc (flW ct) (match zSpLook P T t m k ok H with
  | some p=>some ⟨p.1,⟨some p.2,H,n⟩⟩
  | none=>none) none
 | .sliceToArrayPointer arr x=>match zArrP P T arr x with
  | some p=>some ⟨p.1,⟨some p.2,H,n⟩⟩
  | none=>none
 | _=>none
theorem zt4 {ct:Tr ZCC} {r:YR} (h:zSpO P ct T o H n=some r):notDefer o.op=true:=by
 unfold zSpO at h;split at h
 all_goals first|(rename_i ho;rw [ho];rfl)|cases h
theorem zt3 {ct:Tr ZCC} (hT:TOk γ T tmps) (hH:HR γ w0 H n w) {r:YR} (h:zSpO P ct T o H n=some r) (hc:r.c=true):Gives P γ w0 w (execOp (opEval tmps) o) r.er.val r.er.H r.er.n:=by
 unfold zSpO at h;split at h
 ·rename_i t hint ho;split at h
  case h_2=>cases h
  rw [bc_eq] at h;split at h
  case isFalse=>cases h
  rw [bc_eq] at h;split at h
  case isFalse=>cases h
  rename_i hn;injection h with h;subst h
  have hnew:HR (γ.upd n (⟨w.heap.size,0⟩,0)) w0 (H.put n (some (.mpo []))) (n+1) (w.alloc (.map #[] 0)):=hH.new hn (.map #[] 0) 0 (.mpo []) rfl rfl rfl rfl ⟨#[],0,World.alloc_heap_new w (.map #[] 0),stamped_empty 0,by simp [kvs]⟩;exact ⟨_,w.alloc (.map #[] 0),G.upd_le (hH.fresh n (Nat.le_refl _)),hnew,.map (some w.heap.size),zcn ho w,.mp n ⟨w.heap.size,0⟩ 0 G.upd_same⟩
 ·rename_i t m k x ho;rw [bc_eq] at h;split at h
  case isFalse=>cases h
  exact znj hT hH (by unfold execOp;rw [ho]) h hc
 ·rename_i t m k ok ho;rw [bc_eq] at h;split at h
  case isFalse=>cases h
  split at h
  case h_2=>cases h
  rename_i p hp;injection h with h;subst h
  exact zmj hT hH ho hp hc
 ·rename_i arr x ho;split at h
  case h_2=>cases h
  rename_i p hp;injection h with h;subst h
  exact zrc hT hH ho hp hc
 ·cases h
end
section
open Go.RowKit
variable {P:Program} {γ γ':G} {w0:Bs} {w:World} {H H':Tr EK} {n n':Nat} {T:Tr EV} {tmps:Array Value} {o:Oper}
def celI (k:IntKind) (l:List Int) (m:Nat):Nat→List EV:=Nat.rec (motive:=fun _=>Nat→List EV) (fun _=>[]) (fun _ ih j=>.v (.int k (l.getD j 0))::ih (j+1)) m
theorem zie (k:IntKind) (l:List Int):∀ (m j:Nat),(celI k l m j).length=m
 | 0,_=>rfl
 | m+1,j=>by show (celI k l m (j+1)).length+1=_;rw [zie]
theorem zmd (k:IntKind) (l:List Int):∀ (m j q:Nat),q<m→(celI k l m j)[q]? = some (.v (.int k (l.getD (j+q) 0)))
 | 0,j,q,h=>by omega
 | m+1,j,0,h=>rfl
 | m+1,j,q+1,h=>by
  show (celI k l m (j+1))[q]? = _;rw [zmd k l m (j+1) q (by omega),show j+1+q=j+(q+1) by omega]
def opA (m:Nat) (a:EV):Option (Bool×EV):=match a with
 | .arr c=>match c with
  | .ints k l=>some (Nat.beq l.length m,.agg (celI k l m 0))
  | _=>none
 | _=>none
theorem zwu {m:Nat} {a a':EV} {c:Bool} {x:Value} (h:opA m a=some (c,a')) (hc:c=true) (ha:EC γ a x):EC γ a' x:=by
 unfold opA at h;split at h
 case h_2=>cases h
 split at h
 case h_2=>cases h
 rename_i k l;simp only [Option.some.injEq,Prod.mk.injEq] at h;obtain ⟨h1,rfl⟩:=h;have hl:=Nat.eq_of_beq_eq_true (h1.trans hc)
 cases ha with
 | arr _ vs hv=>
  injection (show some (l.map (Value.int k))=some vs from hv) with hv
  subst hv;refine .agg _ _ (by rw [zie,List.length_map];exact hl.symm) fun j a y hj hy=>?_;have hm:=(List.getElem?_eq_some_iff.1 hj).1;rw [zie] at hm;rw [zmd k l m 0 j hm] at hj;injection hj with hj;subst hj
  rw [List.getElem?_map,List.getElem?_eq_getElem (by omega)] at hy;injection hy with hy;subst hy
  rw [Nat.zero_add,List.getD_eq_getElem?_getD,List.getElem?_eq_getElem (by omega)];exact .v _
structure OpT where
 f:Bool
 c:Bool
 T:Tr EV
def opT (T:Tr EV) (pl:List (Nat×Nat)) (l:List (Nat×Operand)):OpT:=List.rec ⟨false,true,T⟩ (fun p _ ih=>match p.2 with
 | .tmp d=>match T.get d with
  | some a=>match lget pl p.1 with
   | some q=>match opA q.2 a with
    | some r=>bc (Nat.ble d 65535) ⟨true,bc ih.c r.1 false,ih.T.put d (some r.2)⟩ ih
    | none=>ih
   | none=>ih
  | none=>ih
 | _=>ih) l
theorem zfo (hT:TOk γ T tmps) {pl:List (Nat×Nat)}:∀ {l:List (Nat×Operand)},(opT T pl l).c=true→TOk γ (opT T pl l).T tmps
 | [],_=>hT
 | p::l,hc=>by
  have e:opT T pl (p::l)=(match p.2 with
   | .tmp d=>match T.get d with
    | some a=>match lget pl p.1 with
     | some q=>match opA q.2 a with
      | some r=>bc (Nat.ble d 65535) ⟨true,bc (opT T pl l).c r.1 false,(opT T pl l).T.put d (some r.2)⟩ (opT T pl l)
      | none=>opT T pl l
     | none=>opT T pl l
    | none=>opT T pl l
   | _=>opT T pl l):=rfl
  rw [e] at hc ⊢;split
  case h_2=>rename_i hne;exact zfo hT (by split at hc <;> first|exact hc|(rename_i he;exact absurd he (hne _)))
  rename_i d hd;rw [hd] at hc;simp only at hc;split
  case h_2=>rename_i he;rw [he] at hc;exact zfo hT hc
  rename_i a ha;rw [ha] at hc;simp only at hc;split
  case h_2=>rename_i he;rw [he] at hc;exact zfo hT hc
  rename_i q hq;rw [hq] at hc;simp only at hc;split
  case h_2=>rename_i he;rw [he] at hc;exact zfo hT hc
  rename_i r hr;rw [hr] at hc;simp only at hc;rw [bc_eq] at hc ⊢;split
  case isFalse=>rename_i he;rw [if_neg he] at hc;exact zfo hT hc
  rename_i hb;rw [if_pos hb] at hc;obtain ⟨c1,c2⟩:=bcT hc;intro s a' hs;have hs:((opT T pl l).T.put d (some r.2)).get s=some a':=hs;rw [Tr.get_put hb] at hs;split at hs
  ·rename_i e;injection hs with hs;subst hs;subst e
   obtain ⟨x,hx,hcx⟩:=hT _ a ha;exact ⟨x,hx,zwu (show opA q.2 a=some (r.1,r.2) from hr) c2 hcx⟩
  ·exact zfo hT c1 s a' hs
def zBldO (P:Program) (T:Tr EV) (o:Oper) (H:Tr EK) (n:Nat):Option YR:=match o.op with
 | .build t parts=>match P.underlying t with
  | some (.struct fs)=>match placesOf P fs.toList with
   | some pl=>bc (opT T pl parts.toList).f (match exBuild P (opT T pl parts.toList).T t parts with
    | some a=>some ⟨(opT T pl parts.toList).c,⟨some a,H,n⟩⟩
    | none=>none) none
   | none=>none
  | _=>none
 | _=>none
theorem zra (hT:TOk γ T tmps) (hH:HR γ w0 H n w) {r:YR} (h:zBldO P T o H n=some r) (hc:r.c=true):Gives P γ w0 w (execOp (opEval tmps) o) r.er.val r.er.H r.er.n:=by
 unfold zBldO at h;split at h
 case h_2=>cases h
 rename_i t parts ho;split at h
 case h_2=>cases h
 split at h
 case h_2=>cases h
 rename_i pl hpl;rw [bc_eq] at h;split at h
 case isFalse=>cases h
 split at h
 case h_2=>cases h
 rename_i a ha;injection h with h;subst h
 exact zgr (zfo hT hc) hH ho ha
theorem zrb {r:YR} (h:zBldO P T o H n=some r):notDefer o.op=true:=by
 unfold zBldO at h;split at h
 ·rename_i ho;rw [ho];rfl
 ·cases h
end
section
open Go.RowKit
variable {P:Program} {γ γ':G} {w0:Bs} {w:World} {H H':Tr EK} {n n':Nat} {T:Tr EV} {tmps:Array Value} {o:Oper}
def RowB (γ:G) (i v:Nat) (sh:List Sh) (rows:List (List U)) (k:Nat):Prop:=∃ (j f:Nat) (s:List Sh) (m:Nat×Nat),j<rows.length∧sh[f]? = some (.list s)∧γ.rw i v (j*sh.length+f)=some (k,m)
def HR.baseN (h:HR γ w0 H n w) {i v:Nat} {ty:TypeId×List TypeId} {sh:List Sh} {rows:List (List U)} {nn:Bool} (hg:H.get i=some (.nest i ty sh rows v [] nn)):Bs:=⟨w,fun c=>w0.F c∨RowB γ i v sh rows c,fun c hc=>by
 rcases hc with hc|⟨j,f,s,m,h1,h2,h3⟩
 ·have h1:=w0.lt c hc
  have h2:=h.stays.size
  omega
 ·obtain ⟨_,_,_,_,arr,ty',⟨fz,h5,_⟩,_⟩:=h.fzk.nst.at' i i ty sh rows v [] nn hg j f s h1 h2 (by simp) c m h3
  exact (Array.getElem?_eq_some_iff.1 h5).1,w0.res,w0.fb⟩
theorem HR.nestCells (h:HR γ w0 H n w) {i v:Nat} (hi:Nat.ble i 65535=true) {ty:TypeId×List TypeId} {sh:List Sh} {rows:List (List U)} {nn:Bool} (hg:H.get i=some (.nest i ty sh rows v [] nn)) (hnil:¬ (EK.nest i ty sh rows v [] nn).Nil) {CS:List EV} (hk:∀ b m,γ i=some (b,m)→(EK.nest i ty sh rows v [] nn).ok γ b m w→(EK.cells ty.1 CS false).ok γ b m w) :
  HR γ (h.baseN hg) (H.put i (some (.cells ty.1 CS false))) n w:=by
 have look:∀ q kq,(H.put i (some (.cells ty.1 CS false))).get q=some kq→(q=i∧kq = .cells ty.1 CS false)∨(q≠i∧H.get q=some kq):=fun q kq hq=>by
  rw [Tr.get_put hi] at hq;split at hq
  ·rename_i e;injection hq with hq;exact .inl ⟨e,hq.symm⟩
  ·rename_i e;exact .inr ⟨e,hq⟩
 have back:∀ q kq,(H.put i (some (.cells ty.1 CS false))).get q=some kq→¬ kq.Nil→∃ k1,H.get q=some k1∧¬ k1.Nil:=fun q kq hq nq=>by
  rcases look q kq hq with ⟨rfl,_⟩|⟨_,g2⟩
  ·exact ⟨_,hg,hnil⟩
  ·exact ⟨kq,g2,nq⟩
 have nF:∀ q k1 b m,H.get q=some k1→¬ k1.Nil→γ q=some (b,m)→¬ w0.F b.k→¬ (h.baseN hg).F b.k:=fun q k1 b m h1 h2 h3 h4 hf=>by
  rcases hf with hf|⟨j,f,s,m2,r1,r2,r3⟩
  ·exact h4 hf
  ·obtain ⟨_,_,g3,_⟩:=h.fzk.nst.at' i i ty sh rows v [] nn hg j f s r1 r2 (by simp) _ m2 r3;exact g3 q k1 b m h1 h2 h3 rfl
 refine ⟨fun q kq hq=>?_,fun q l kq kl hq hl nq nl hne bq bl eq el=>?_,h.fresh,h.rsv,h.lt,⟨rfl,rfl,rfl,Nat.le_refl _,fun _ _=>rfl⟩,⟨fun k a hk'=>?_,h.fzk.base,h.fzk.nst.rwg,fun q me2 ty2 sh2 rows2 v2 ho2 nn2 e=>?_,fun q me2 ty2 sh2 rows2 v2 ho2 nn2 e j1 f1 x1 hj1 hf1 hh1 k1 m1 hk1=>?_⟩⟩
 ·rcases look q kq hq with ⟨rfl,rfl⟩|⟨_,g2⟩
  ·obtain ⟨b,m,h1,h2,h3⟩:=h.hp q _ hg hnil;exact .inr ⟨b,m,h1,nF q _ b m hg hnil h1 h2,hk b m h1 h3⟩
  ·refine h.imp0 g2 fun nk b m h1 h2 h3=>⟨b,m,h1,nF q kq b m g2 nk h1 h2,h3⟩
 ·obtain ⟨k1,q1,q2⟩:=back q kq hq nq;obtain ⟨k2,r1,r2⟩:=back l kl hl nl;exact h.inj0 q l k1 k2 q1 r1 q2 r2 hne bq bl eq el
 ·obtain ⟨q1,q2,q3⟩:=h.fzk.at' k a hk';refine ⟨q1,?_,fun q kq b m hq nq eq=>?_⟩
  ·rcases q2 with q2|q2
   ·exact .inl q2
   ·refine .inr fun hf=>?_;rcases hf with hf|⟨j,f,s,m2,r1,r2,r3⟩
    ·exact q2 hf
    ·obtain ⟨_,g2,_⟩:=h.fzk.nst.at' i i ty sh rows v [] nn hg j f s r1 r2 (by simp) _ m2 r3;rw [hk'] at g2;cases g2
  ·obtain ⟨k1,r1,r2⟩:=back q kq hq nq;exact q3 q k1 b m r1 r2 eq
 ·rcases look q _ e with ⟨_,h2⟩|⟨_,g2⟩
  ·cases h2
  ·exact h.fzk.nst.me q me2 ty2 sh2 rows2 v2 ho2 nn2 g2
 ·rcases look q _ e with ⟨_,h2⟩|⟨hqi,g2⟩
  ·cases h2
  ·obtain ⟨q1,q2,q3,q4,q5⟩:=h.fzk.nst.at' q me2 ty2 sh2 rows2 v2 ho2 nn2 g2 j1 f1 x1 hj1 hf1 hh1 k1 m1 hk1;refine ⟨fun hf=>?_,q2,fun i' ki b m' hi' ni ei=>?_,fun i2 me3 ty3 sh3 rows3 v3 ho3 nn3 e2 j2 f2 s2 hj2 hf2 hh2 m2 hk2=>?_,q5⟩
   ·rcases hf with hf|⟨j,f,s,m2,r1,r2,r3⟩
    ·exact q1 hf
    ·have:=q4 i i ty sh rows v [] nn hg j f s r1 r2 (by simp) m2 r3;exact hqi this.1.symm
   ·obtain ⟨k2,r1,r2⟩:=back i' ki hi' ni;exact q3 i' k2 b m' r1 r2 ei
   ·rcases look i2 _ e2 with ⟨_,h2⟩|⟨_,r2⟩
    ·cases h2
    ·exact q4 i2 me3 ty3 sh3 rows3 v3 ho3 nn3 r2 j2 f2 s2 hj2 hf2 hh2 m2 hk2
def G.nestAt (γ γ':G) (n i v L:Nat):G:=⟨fun a=>if a=n+1 then γ' n else γ' a,γ'.fz,fun a v' q=>if a=n+1 then (if v'=0∧q<L then γ.rw i v q else none) else γ'.rw a v' q⟩
theorem HR.nestBack {B:Bs} {i v:Nat} {ty:TypeId×List TypeId} {s1:List Sh} {rows:List (List U)} (hnb:Nat.ble n 65535=true) (hnb2:Nat.ble (n+1) 65535=true) {H1:Tr EK} {w':World} (h':HR γ' B H1 (n+1) w') (hst:w0.Stays w') (sub:∀ k,w0.F k→B.F k) (hfb:∀ k,B.fb k↔w0.fb k) (hrsv:∀ q,w0.res q→B.res q)
  (hrow:∀ j k m,j<rows.length→γ.rw i v j=some (k,m)→B.F k∧¬ w0.F k∧¬ w0.fb k∧(∀ j2 m2,j2<rows.length→γ.rw i v j2=some (k,m2)→j2=j)∧∃ (arr:Array Value) (ty':TypeId),Cl w' k arr ty'∧(arr.size=m.1+m.2∧ty'=ty.2.getD 0 0)∧∀ (a g:Nat) (s:Sh),a<(((rows.getD j []).getD 0 (.i 0)).list).length→s1[g]? = some s→∃ x,arr[m.1+(a*s1.length+g)]? = some x∧EC γ' (s.ev (((((rows.getD j []).getD 0 (.i 0)).list).getD a []).getD g (.i 0))) x)
  {CS:List EV} (hg1:H1.get n=some (.cells ty.1 CS false)) {r0:List U}
  (hok:∀ b m,γ' n=some (b,m)→(EK.cells ty.1 CS false).ok γ' b m w'→(EK.nest (n+1) ty [.list s1] (rows++[r0]) 0 [(rows.length,0)] true).ok (G.nestAt γ γ' n i v rows.length) b m w') :
  GLe γ' (G.nestAt γ γ' n i v rows.length)∧HR (G.nestAt γ γ' n i v rows.length) w0 ((H1.put n none).put (n+1) (some (.nest (n+1) ty [.list s1] (rows++[r0]) 0 [(rows.length,0)] true))) (n+2) w':=by
 have hfr:γ' (n+1)=none:=h'.fresh _ (Nat.le_refl _);have hrwn:∀ v' q,γ'.rw (n+1) v' q=none:=fun v' q=>by
  cases e:γ'.rw (n+1) v' q with
  | none=>rfl
  | some p=>obtain ⟨b,hb⟩:=h'.fzk.nst.rwg _ _ _ _ e;rw [hfr] at hb;cases hb
 have gN:(G.nestAt γ γ' n i v rows.length) (n+1)=γ' n:=if_pos rfl;have gO:∀ a,a≠n+1→(G.nestAt γ γ' n i v rows.length) a=γ' a:=fun a ha=>if_neg ha;have rO:∀ a v' q,a≠n+1→(G.nestAt γ γ' n i v rows.length).rw a v' q=γ'.rw a v' q:=fun a v' q ha=>if_neg ha;have rN:∀ v' q,(G.nestAt γ γ' n i v rows.length).rw (n+1) v' q=if v'=0∧q<rows.length then γ.rw i v q else none:=fun v' q=>if_pos rfl
 have hle2:GLe γ' (G.nestAt γ γ' n i v rows.length):=by
  refine ⟨fun a p e=>?_,fun k a e=>e,fun a v' q p e=>?_⟩
  ·have:a≠n+1:=fun x=>by rw [x,hfr] at e;cases e
   rw [gO a this];exact e
  ·have:a≠n+1:=fun x=>by rw [x,hrwn] at e;cases e
   rw [rO a v' q this];exact e
 refine ⟨hle2,?_⟩;have look:∀ q kq,((H1.put n none).put (n+1) (some (.nest (n+1) ty [.list s1] (rows++[r0]) 0 [(rows.length,0)] true))).get q=some kq→(q=n+1∧kq = .nest (n+1) ty [.list s1] (rows++[r0]) 0 [(rows.length,0)] true)∨(q≠n+1∧q≠n∧H1.get q=some kq):=fun q kq hq=>by
  rw [Tr.get_put hnb2] at hq;split at hq
  ·rename_i e;injection hq with hq;exact .inl ⟨e,hq.symm⟩
  ·rename_i e;rw [Tr.get_put hnb] at hq;split at hq
   ·cases hq
   ·rename_i e2;exact .inr ⟨e,e2,hq⟩
 have cn:¬ (EK.cells ty.1 CS false).Nil:=id;have back:∀ q kq,((H1.put n none).put (n+1) (some (.nest (n+1) ty [.list s1] (rows++[r0]) 0 [(rows.length,0)] true))).get q=some kq→¬ kq.Nil→∃ q1 k1,H1.get q1=some k1∧¬ k1.Nil∧(G.nestAt γ γ' n i v rows.length) q=γ' q1∧(q=n+1∧q1=n∨q≠n+1∧q≠n∧q1=q):=fun q kq hq nq=>by
  rcases look q kq hq with ⟨rfl,_⟩|⟨g1,g2,g3⟩
  ·exact ⟨n,_,hg1,cn,gN,.inl ⟨rfl,rfl⟩⟩
  ·exact ⟨q,kq,g3,nq,gO q g1,.inr ⟨g1,g2,rfl⟩⟩
 refine ⟨fun q kq hq=>?_,fun q l kq kl hq hl nq nl hne bq bl eq el=>?_,fun q hq=>?_,fun q hq=>?_,fun q p e=>?_,hst,⟨fun k a hk=>?_,fun k hk=>h'.fzk.base k ((hfb k).2 hk),fun a v' q p e=>?_,fun q me2 ty2 sh2 rows2 v2 ho2 nn2 e=>?_,fun q me2 ty2 sh2 rows2 v2 ho2 nn2 e j1 f1 x1 hj1 hf1 hh1 k1 m1 hk1=>?_⟩⟩
 ·rcases look q kq hq with ⟨rfl,rfl⟩|⟨g1,g2,g3⟩
  ·obtain ⟨b,m,e1,e2,e3⟩:=h'.hp n _ hg1 cn;exact .inr ⟨b,m,gN.trans e1,fun hf=>e2 (sub _ hf),hok b m e1 e3⟩
  ·refine h'.imp0 g3 fun nk b m e1 e2 e3=>⟨b,m,(gO q g1).trans e1,fun hf=>e2 (sub _ hf),?_⟩
   cases kq with
   | nest me2 ty2 sh2 rows2 v2 ho2 nn2=>
    obtain ⟨rfl,_⟩:=h'.fzk.nst.me q me2 ty2 sh2 rows2 v2 ho2 nn2 g3;obtain ⟨c,c1,c2,c3,c4⟩:=e3;refine ⟨c,c1,c2,c3,fun j f s hj hf hh=>?_⟩;obtain ⟨x,x1,x2⟩:=c4 j f s hj hf hh;refine ⟨x,x1,?_⟩
    cases s with
    | list sh=>
     rcases x2 with ⟨y1,y2⟩|⟨k,m,c',y1,y2⟩
     ·exact .inl ⟨trivial,y2⟩
     ·exact .inr ⟨k,m,c',(rO _ _ _ g1).trans y1,y2⟩
    | int k=>exact EC.mono hle2 x2
    | bool=>exact EC.mono hle2 x2
    | str=>exact EC.mono hle2 x2
   | _=>exact EK.ok_monoB rfl hle2 rfl e3
 ·obtain ⟨q1,k1,a1,a2,a3,a4⟩:=back q kq hq nq;obtain ⟨q2,k2,b1,b2,b3,b4⟩:=back l kl hl nl;rw [a3] at eq;rw [b3] at el;refine h'.inj0 q1 q2 k1 k2 a1 b1 a2 b2 ?_ bq bl eq el;rcases a4 with ⟨r1,r2⟩|⟨r1,r2,r3⟩ <;> rcases b4 with ⟨t1,t2⟩|⟨t1,t2,t3⟩ <;> omega
 ·rw [gO q (by omega)];exact h'.fresh q (by omega)
 ·have:=h'.rsv q (hrsv q hq);exact ⟨(gO q (by omega)).trans this.1,by omega⟩
 ·by_cases hq:q=n+1
  ·rw [hq,gN] at e;exact h'.lt n p e
  ·rw [gO q hq] at e;exact h'.lt q p e
 ·obtain ⟨q1,q2,q3⟩:=h'.fzk.at' k a hk;refine ⟨q1,q2.imp (hfb k).1 fun q2 hf=>q2 (sub k hf),fun q kq b m hq nq eq=>?_⟩;obtain ⟨r1,k1,a1,a2,a3,_⟩:=back q kq hq nq;rw [a3] at eq;exact q3 r1 k1 b m a1 a2 eq
 ·by_cases ha:a=n+1
  ·subst ha;obtain ⟨b,m,e1,_⟩:=h'.hp n _ hg1 cn;exact ⟨(b,m),gN.trans e1⟩
  ·rw [rO a v' q ha] at e;obtain ⟨b,hb⟩:=h'.fzk.nst.rwg a v' q p e;exact ⟨b,(gO a ha).trans hb⟩
 ·rcases look q _ e with ⟨rfl,h2⟩|⟨g1,g2,g3⟩
  ·injection h2 with y1 y2 y3 y4 y5 y6 y7
   subst y1;subst y5;refine ⟨rfl,fun v' q hv=>?_⟩;rw [rN,if_neg (by omega)]
  ·obtain ⟨r1,r2⟩:=h'.fzk.nst.me q me2 ty2 sh2 rows2 v2 ho2 nn2 g3;exact ⟨r1,fun v' q' hv=>(rO q v' q' g1).trans (r2 v' q' hv)⟩
 ·rcases look q _ e with ⟨rfl,h2⟩|⟨g1,g2,g3⟩
  ·injection h2 with y1 y2 y3 y4 y5 y6 y7
   subst y1;subst y2;subst y3;subst y4;subst y5;subst y6;subst y7;have hf0:f1=0∧x1=s1:=by
    cases f1 with
    | zero=>exact ⟨rfl,by simpa using hf1.symm⟩
    | succ f1=>cases hf1
   obtain ⟨rfl,rfl⟩:=hf0;have hj:j1<rows.length:=by
    rw [List.length_append,List.length_singleton] at hj1;have:j1≠rows.length:=fun x=>hh1 (by rw [x];exact List.mem_singleton.2 rfl);omega
   have hr:γ.rw i v j1=some (k1,m1):=by
    rw [rN] at hk1;split at hk1
    ·simpa using hk1
    ·cases hk1
   obtain ⟨hF,q1,qb,q4,arr,ty',q5,q6,q7⟩:=hrow j1 k1 m1 hj hr;refine ⟨q1,?_,fun a ka b m' ha na ea hb=>?_,fun i2 me2 ty2 sh2 rows2 v2 ho2 nn2 e2 j2 f2 s2 hj2 hf2 hh2 m2 hk2=>?_,arr,ty',q5,q6,fun a g s ha hs=>?_⟩
   ·show γ'.fz k1=none
    cases z:γ'.fz k1 with
    | none=>rfl
    | some a=>
     obtain ⟨_,z2,_⟩:=h'.fzk.at' k1 a z;rcases z2 with z2|z2
     ·exact absurd ((hfb k1).1 z2) qb
     ·exact absurd hF z2
   ·obtain ⟨r1,k2,a1,a2,a3,_⟩:=back a ka ha na;rw [a3] at ea;obtain ⟨b3,m3,e4,e5,_⟩:=h'.hp r1 k2 a1 a2;rw [ea] at e4;simp only [Option.some.injEq,Prod.mk.injEq] at e4;obtain ⟨rfl,_⟩:=e4;rw [hb] at e5;exact e5 hF
   ·rcases look i2 _ e2 with ⟨rfl,h2⟩|⟨t1,t2,t3⟩
    ·injection h2 with y1 y2 y3 y4 y5 y6 y7
     subst y1;subst y2;subst y3;subst y4;subst y5;subst y6;subst y7;have hf0:f2=0:=by
      cases f2 with
      | zero=>rfl
      | succ f2=>cases hf2
     subst hf0;rw [rN] at hk2;split at hk2
     ·rename_i hc;exact ⟨rfl,q4 j2 m2 (by simpa using hc.2) (by simpa using hk2),rfl⟩
     ·cases hk2
    ·rw [rO _ _ _ t1] at hk2;obtain ⟨u1,_⟩:=h'.fzk.nst.at' i2 me2 ty2 sh2 rows2 v2 ho2 nn2 t3 j2 f2 s2 hj2 hf2 hh2 k1 m2 hk2;exact absurd hF u1
   ·have e1:(rows++[r0]).getD j1 []=rows.getD j1 []:=by
     rw [List.getD_eq_getElem?_getD,List.getD_eq_getElem?_getD,List.getElem?_append_left hj]
    rw [e1] at ha ⊢;obtain ⟨x,x1,x2⟩:=q7 a g s ha hs;exact ⟨x,x1,x2.mono hle2⟩
  ·rw [rO q _ _ g1] at hk1;obtain ⟨q1,q2,q3,q4,arr,ty',q5,q6,q7⟩:=h'.fzk.nst.at' q me2 ty2 sh2 rows2 v2 ho2 nn2 g3 j1 f1 x1 hj1 hf1 hh1 k1 m1 hk1;refine ⟨fun hf=>q1 (sub _ hf),q2,fun a ka b m' ha na ea=>?_,fun i2 me3 ty3 sh3 rows3 v3 ho3 nn3 e2 j2 f2 s2 hj2 hf2 hh2 m2 hk2=>?_,arr,ty',q5,q6,fun a g s ha hs=>?_⟩
   ·obtain ⟨r1,k2,a1,a2,a3,_⟩:=back a ka ha na;rw [a3] at ea;exact q3 r1 k2 b m' a1 a2 ea
   ·rcases look i2 _ e2 with ⟨rfl,h2⟩|⟨t1,t2,t3⟩
    ·injection h2 with y1 y2 y3 y4 y5 y6 y7
     subst y1;subst y2;subst y3;subst y4;subst y5;subst y6;subst y7;have hf0:f2=0:=by
      cases f2 with
      | zero=>rfl
      | succ f2=>cases hf2
     subst hf0;rw [rN] at hk2;split at hk2
     ·rename_i hc;exact absurd (hrow (j2*[Sh.list s1].length+0) k1 m2 hc.2 hk2).1 q1
     ·cases hk2
    ·rw [rO _ _ _ t1] at hk2;exact q4 i2 me3 ty3 sh3 rows3 v3 ho3 nn3 t3 j2 f2 s2 hj2 hf2 hh2 m2 hk2
   ·obtain ⟨x,x1,x2⟩:=q7 a g s ha hs;exact ⟨x,x1,x2.mono hle2⟩
theorem zho {B:Bs} {i v r:Nat} {ty:TypeId×List TypeId} {s1:List Sh} {rows:List (List U)} {c:SyC} {xr v':Value} (hnb:Nat.ble n 65535=true) (hnb2:Nat.ble (n+1) 65535=true) (hrb:Nat.ble r 65535=true) {H1:Tr EK} {w':World} (h':HR γ' B H1 (n+1) w') (hst:w0.Stays w') (sub:∀ k,w0.F k→B.F k) (hfb:∀ k,B.fb k↔w0.fb k) (hrsv:∀ q,w0.res q→B.res q)
  (hrow:∀ j k m,j<rows.length→γ.rw i v j=some (k,m)→B.F k∧¬ w0.F k∧¬ w0.fb k∧(∀ j2 m2,j2<rows.length→γ.rw i v j2=some (k,m2)→j2=j)∧∃ (arr:Array Value) (ty':TypeId),Cl w' k arr ty'∧(arr.size=m.1+m.2∧ty'=ty.2.getD 0 0)∧∀ (a g:Nat) (s:Sh),a<(((rows.getD j []).getD 0 (.i 0)).list).length→s1[g]? = some s→∃ x,arr[m.1+(a*s1.length+g)]? = some x∧EC γ' (s.ev (((((rows.getD j []).getD 0 (.i 0)).list).getD a []).getD g (.i 0))) x)
  {CS:List EV} (hg1:H1.get n=some (.cells ty.1 (CS++[.v xr]) false)) (hCl:CS.length=rows.length) (hCS:∀ j,j<rows.length→∃ x,CS[j]? = some (.v x)∧SlR γ i v j s1.length ((rows.getD j []).getD 0 (.i 0)).list.length x)
  (hgr:H1.get r=some (.seq (ty.2.getD 0 0) c true)) (hrn:r<n) (hsh:c.sh=s1) (hxr:EC γ' (.slO r s1.length c.cnt true) xr) (hv:EC γ' (.slO n 1 (rows.length+1) true) v') :
  ∃ γ3,GLe γ' γ3∧HR γ3 w0 (((H1.put n none).put r none).put (n+1) (some (.nest (n+1) ty [.list s1] (rows++[[.l c.rows]]) 1 [] true))) (n+2) w'∧EC γ3 (.slO (n+1) 1 (rows.length+1) true) v':=by
 have one:∀ j:Nat,j*[Sh.list s1].length+0=j:=fun j=>by show j*1+0=j;omega
 obtain ⟨hle,h2⟩:=HR.nestBack (γ:=γ) (i:=i) (v:=v) (rows:=rows) (s1:=s1) hnb hnb2 h' hst sub hfb hrsv hrow hg1 (r0:=[.l []]) fun b m hb ⟨ca,c1,c2,c3,c4,c5⟩=>by
  refine ⟨ca,c1,c2,?_,fun j f s hj hf hh=>?_⟩
  ·rw [List.length_append,List.length_singleton] at c3 ⊢;show (rows.length+1)*1≤m;omega
  ·have hf0:f=0∧s = .list s1:=by
    cases f with
    | zero=>exact ⟨rfl,by simpa using hf.symm⟩
    | succ f=>cases hf
   obtain ⟨rfl,rfl⟩:=hf0;have hj:j<rows.length:=by
    rw [List.length_append,List.length_singleton] at hj;have:j≠rows.length:=fun x=>hh (by rw [x];exact List.mem_singleton.2 rfl);omega
   obtain ⟨x,x1,x2⟩:=hCS j hj;have x3:(CS++[EV.v xr])[j]? = some (.v x):=by rw [List.getElem?_append_left (by omega)];exact x1
   obtain ⟨u,hu,hcu⟩:=c5.at x3;have:u=x:=by cases hcu;rfl
   subst this;rw [List.getElem?_take] at hu;split at hu
   case isFalse=>cases hu
   rw [List.getElem?_drop,Array.getElem?_toList] at hu;refine ⟨u,by rw [one];exact hu,?_⟩;rw [one];have e1:(rows++[[U.l []]]).getD j []=rows.getD j []:=by
    rw [List.getD_eq_getElem?_getD,List.getD_eq_getElem?_getD,List.getElem?_append_left hj]
   rw [e1];have e2:(G.nestAt γ γ' n i v rows.length).rw (n+1) 0 j=γ.rw i v j:=by
    show (if n+1=n+1 then (if (0:Nat)=0∧j<rows.length then γ.rw i v j else none) else _)=_
    rw [if_pos rfl,if_pos ⟨rfl,hj⟩]
   rcases x2 with ⟨y1,y2⟩|⟨k,m2,c',y1,y2⟩
   ·exact .inl ⟨trivial,y2⟩
   ·exact .inr ⟨k,m2,c',e2.trans y1,y2⟩
 have hcl:(rows++[[U.l []]]).length=rows.length+1:=by rw [List.length_append,List.length_singleton]
 have hg2:((H1.put n none).put (n+1) (some (.nest (n+1) ty [.list s1] (rows++[[U.l []]]) 0 [(rows.length,0)] true))).get (n+1)=some (.nest (n+1) ty [.list s1] (rows++[[U.l []]]) 0 [(rows.length,0)] true):=by rw [Tr.get_put hnb2,if_pos rfl]
 have hgr2:((H1.put n none).put (n+1) (some (.nest (n+1) ty [.list s1] (rows++[[U.l []]]) 0 [(rows.length,0)] true))).get r=some (.seq (ty.2.getD 0 0) c true):=by rw [Tr.get_put hnb2,if_neg (by omega),Tr.get_put hnb,if_neg (by omega)];exact hgr
 have hnil2:¬ (EK.nest (n+1) ty [.list s1] (rows++[[U.l []]]) 0 [(rows.length,0)] true).Nil:=fun e=>by cases e.1
 have hxr2:=hxr.mono hle
 cases hxr2 with
 | slO _ _ _ _ _ hs=>
 obtain ⟨b2,m2,cp,q1,rfl,q2,q3,q4⟩:=hs.2 rfl;obtain ⟨hle3,h3⟩:=h2.rowIn hnb2 hrb (by omega) hg2 hnil2 (j:=rows.length) (f:=0) (sh':=s1) (ho':=[]) (by rw [hcl];omega) rfl (fun p hp=>by
   by_cases e:p=(rows.length,0)
   ·exact .inr e
   ·exact .inl fun hm=>e (List.mem_singleton.1 hm)) (L:=c.rows) hgr2 q1 (fun ca g1 g2 g3 a g s ha hs=>by
   have ha2:a<c.cnt:=by rw [c.cnt_eq];exact ha
   have hs':c.sh[g]? = some s:=by rw [hsh];exact hs
   have hg2:g<c.cz:=by rw [c.cz_sh];exact (List.getElem?_eq_some_iff.1 hs').1
   have hcell:=SyC.cellE_enc ha2 hg2;obtain ⟨u,hu,hcu⟩:=g3.at hcell;rw [List.getElem?_take] at hu;split at hu
   case isFalse=>cases hu
   rw [List.getElem?_drop,Array.getElem?_toList] at hu;rw [← hsh,← c.cz_sh];exact ⟨u,hu,by rw [SyC.ev_cellE ha hs'];exact hcu⟩) (fun bi mi ci e1 e2=>by
   have e1':γ' n=some (bi,mi):=by
    have:(G.nestAt γ γ' n i v rows.length) (n+1)=γ' n:=if_pos rfl;rw [← this];exact e1
   obtain ⟨b3,m3,k1,k2,ca,c1,c2,c3,c4,c5⟩:=h'.hp n _ hg1 id;rw [e1'] at k1;simp only [Option.some.injEq,Prod.mk.injEq] at k1;obtain ⟨rfl,rfl⟩:=k1;have x3:(CS++[EV.v (Value.slice (some (b2.at 0)) c.cnt cp)])[rows.length]? = some (.v (Value.slice (some (b2.at 0)) c.cnt cp)):=by rw [← hCl,List.getElem?_append_right (Nat.le_refl _),Nat.sub_self];rfl
   obtain ⟨u,hu,hcu⟩:=c5.at x3;have hu2:u=Value.slice (some (b2.at 0)) c.cnt cp:=by cases hcu;rfl
   subst hu2;rw [List.getElem?_take] at hu;split at hu
   case isFalse=>cases hu
   rw [List.getElem?_drop,Array.getElem?_toList] at hu;obtain ⟨fz1,g4,_⟩:=e2;obtain ⟨fz2,g5,_⟩:=c1;rw [g4] at g5;simp only [Option.some.injEq,Obj.cells.injEq] at g5;refine ⟨cp,?_,by rw [← c.cnt_eq];exact q2,q3,q4⟩;rw [one,g5.1,hu,← c.cnt_eq];rfl)
 refine ⟨_,hle.trans hle3,?_,?_⟩
 ·refine h3.congr fun q kq hq=>?_;have er:(rows++[[U.l []]]).set rows.length (rset 0 (.l c.rows) ((rows++[[U.l []]]).getD rows.length []))=rows++[[.l c.rows]]:=by
   have e5:(rows++[[U.l []]]).getD rows.length []=[U.l []]:=by
    rw [List.getD_eq_getElem?_getD,List.getElem?_append_right (Nat.le_refl _),Nat.sub_self];rfl
   rw [e5,List.set_append_right _ _ (Nat.le_refl _),Nat.sub_self];rfl
  rw [er];rw [Tr.get_put hnb2] at hq ⊢;split at hq
  ·rename_i e;rw [if_pos e];exact hq
  ·rename_i e;rw [if_neg e];rw [Tr.get_put hrb] at hq ⊢;split at hq
   ·cases hq
   ·rename_i e2;rw [if_neg e2,Tr.get_put hnb2,if_neg e];exact hq
 ·have hv2:=hv.mono hle;refine EC.mono hle3 ?_
  cases hv with
  | slO _ _ _ _ _ hs2=>
   obtain ⟨b5,m5,c5,t1,t2⟩:=hs2.2 rfl;exact .slO _ _ _ _ _ ⟨nofun,fun _=>⟨b5,m5,c5,(if_pos rfl:(G.nestAt γ γ' n i v rows.length) (n+1)=γ' n).trans t1,t2⟩⟩
def apNst (ei:EI) (i z len:Nat) (nn:Bool) (m:Nat) (news:List EV) (H:Tr EK) (n:Nat):Option YR:=match H.get i,news with
 | some (.nest _ ty [.list s1] rows v [] nn'),[.slO r z2 len2 nn2]=>match H.get r with
  | some (.seq tyr c nnr)=>bc (Nat.beq m 1) (bc (Nat.beq z 1) (bc (Nat.beq ei.z 1) (bc (Nat.beq ei.e ty.1) (bc (Nat.beq z2 (llen s1)) (bc (shsEq c.sh s1) (bc (Nat.beq tyr (ty.2.getD 0 0)) (bc (Nat.ble i 65535) (bc (Nat.ble r 65535) (bc (Nat.ble (n+1) 65535) (bc (Nat.beq r i) none
    (some ⟨bc nn2 (bc nnr (bc (Nat.beq len2 c.cnt) (bc (Nat.beq len rows.length) (bc (Nat.ble (len+1) 65536) (bc nn' true (bc nn false true)) false) false) false) false) false,⟨some (.slO (n+1) 1 (len+1) true),(((H.put i none).put n none).put r none).put (n+1) (some (.nest (n+1) ty [.list s1] (rows++[[.l c.rows]]) 1 [] true)),n+2⟩⟩)) none) none) none) none) none) none) none) none) none) none
  | _=>none
 | _,_=>none
theorem bcN {α:Type} {b:Bool} {x e y:α} (h:bc b x e=y) (hn:e≠y):b=true∧x=y:=by
 cases b with
 | false=>exact absurd h hn
 | true=>exact ⟨rfl,h⟩
theorem ecl_v (γ:G) (l:List Value):ECL γ (l.map EV.v) l:=⟨by simp,fun j a y ha hy=>by
 rw [List.getElem?_map,hy] at ha;injection ha with ha;subst ha
 exact .v _⟩
theorem ztf (hT:TOk γ T tmps) (hH:HR γ w0 H n w) {t ty:TypeId} {ei:EI} (hei:elemInfo P t=some ei) {i z len:Nat} {nn:Bool} {vs:Value} {m:Nat} {news:List EV} {r:YR} (hs:EC γ (.slO i z len nn) vs) {a:Addr} {ca:Nat} {ns:List Value} (hcn:ECL γ news ns) (hnl:ns.length=m*ei.z) (hnc:∀ j u,ns[j]? = some u→w.cell? (a.add j)=some u) (h:apNst ei i z len nn m news H n=some r) (hc:r.c=true) :
  ∃ γ' w' v',GLe γ γ'∧HR γ' w0 r.er.H r.er.n w'∧(Builtin.append_ #[t,t] ty #[vs,.slice (some a) m ca]).run P w = .ok v' w'∧∃ a,r.er.val=some a∧EC γ' a v':=by
 unfold apNst at h;split at h
 case h_2=>cases h
 rename_i me tyN s1 rows v nn' r0 z2 len2 nn2 hg;split at h
 case h_2=>cases h
 rename_i tyr c nnr hgr;obtain ⟨k1,h⟩:=bcN h nofun;obtain ⟨k2,h⟩:=bcN h nofun;obtain ⟨k3,h⟩:=bcN h nofun;obtain ⟨k4,h⟩:=bcN h nofun;obtain ⟨k5,h⟩:=bcN h nofun;obtain ⟨k6,h⟩:=bcN h nofun;obtain ⟨k7,h⟩:=bcN h nofun;obtain ⟨hi,h⟩:=bcN h nofun;obtain ⟨hrb,h⟩:=bcN h nofun;obtain ⟨hnb2,h⟩:=bcN h nofun;rw [bc_eq] at h;split at h
 case isTrue=>cases h
 rename_i hri;injection h with h;subst h
 obtain ⟨d1,hc⟩:=bcN (show bc nn2 _ _=true from hc) nofun;obtain ⟨d2,hc⟩:=bcN hc nofun;obtain ⟨d3,hc⟩:=bcN hc nofun;obtain ⟨d4,hc⟩:=bcN hc nofun;obtain ⟨d5,d6⟩:=bcN hc nofun;have k1:=Nat.eq_of_beq_eq_true k1;have k2:=Nat.eq_of_beq_eq_true k2;have k3:=Nat.eq_of_beq_eq_true k3;have k4:=Nat.eq_of_beq_eq_true k4;have k5:=Nat.eq_of_beq_eq_true k5;rw [zac] at k5;have k6:=shsEq_ok k6;have k7:=Nat.eq_of_beq_eq_true k7;have d3:=Nat.eq_of_beq_eq_true d3;have d4:=Nat.eq_of_beq_eq_true d4
 have hri:r0≠i:=fun e=>hri (by rw [e];exact Nat.beq_refl i);subst k1;subst k2;subst k5;subst k7;subst d1;subst d2;subst d3;subst d4;have hnb:Nat.ble n 65535=true:=Nat.ble_eq_true_of_le (by have:=Nat.le_of_ble_eq_true hnb2;omega);obtain ⟨hme,_⟩:=hH.fzk.nst.me i me tyN [.list s1] rows v [] nn' hg;have hme:=hme.symm;subst hme;obtain ⟨xr,us,rfl,hxr,hus⟩:=ECL.inv hcn;have hus:us=[]:=List.eq_nil_of_length_eq_zero (by have:=hus.1;simpa using this.symm);subst hus;have hrnil:¬ (EK.seq (tyN.2.getD 0 0) c true).Nil:=fun e=>by cases e.1
 have hrn:r0<n:=by
  obtain ⟨b,mm,e1,_⟩:=hH.hp r0 _ hgr hrnil;rcases Nat.lt_or_ge r0 n with h|h
  ·exact h
  ·rw [hH.fresh r0 h] at e1;cases e1
 have hone:allOne [EV.v xr]=true:=by
  cases hxr with
  | slO _ _ _ _ _ hs=>obtain ⟨b2,m2,cp,q1,rfl,_⟩:=hs.2 rfl;rfl
 have hcv:ECL γ [EV.v xr] [xr]:=ecl_v γ [xr]
 cases nn with
 | false=>
  obtain ⟨rfl,hl0⟩:=zju hs;have hr0:rows=[]:=List.eq_nil_of_length_eq_zero hl0;subst hr0;have hap:exAppendN ei (.v (.slice none 0 0)) 1 [EV.v xr] H n=some ⟨some (.sl n ei.z 0 (0+1) none),H.put n (some (.cells ei.e ([]++[EV.v xr]) false)),Nat.succ n⟩:=by
   unfold exAppendN exGrow;simp only [bc_eq,Nat.beq_refl,hnb,hone];rfl
  obtain ⟨γ',w',v',q1,q2,q3,a2,q4,q5⟩:=zbd (ty:=ty) (c:=ca) hT hH hei (.v (γ:=γ) (.slice none 0 0)) hcv hnl hnc hap;injection q4 with q4;subst q4;have q6:=ze3 q5;rw [k3] at q6;rw [k4] at q2
  obtain ⟨γ3,g1,g2,g3⟩:=zho (γ:=γ) (i:=i) (v:=v) (rows:=[]) (r:=r0) (c:=c) (s1:=s1) (ty:=tyN) (CS:=[]) hnb hnb2 hrb q2 q2.stays (fun _ h=>h) (fun _=>Iff.rfl) (fun _ h=>h) (fun j k m hj=>absurd hj (Nat.not_lt_zero _)) (by rw [Tr.get_put hnb,if_pos rfl]) rfl (fun j hj=>absurd hj (Nat.not_lt_zero _)) (by rw [Tr.get_put hnb,if_neg (by omega)];exact hgr) hrn k6 (hxr.mono q1) q6;refine ⟨γ3,w',v',q1.trans g1,g2.congr fun q kq hq=>?_,q3,_,rfl,g3⟩;rw [Tr.get_put hnb2] at hq ⊢;split at hq
  ·rename_i e;rw [if_pos e];exact hq
  ·rename_i e;rw [if_neg e];rw [Tr.get_put hrb] at hq ⊢;split at hq
   ·cases hq
   ·rename_i e2;rw [if_neg e2];rw [Tr.get_put hnb] at hq ⊢;split at hq
    ·cases hq
    ·rename_i e3;rw [if_neg e3,Tr.get_put hnb,if_neg e3];rw [Tr.get_put hi] at hq;split at hq
     ·cases hq
     ·exact hq
 | true=>
  have hnn':nn'=true:=by
   cases nn' with
   | true=>rfl
   | false=>cases d6
  subst hnn';have hnil:¬ (EK.nest i tyN [.list s1] rows v [] true).Nil:=fun e=>by cases e.1
  obtain ⟨b,mm,e1,e2,cc,c1,c2,c3,c4⟩:=hH.hp i _ hg hnil;have c3:rows.length*1≤mm:=c3;have hlenx:((cc.toList.drop b.s).take rows.length).length=rows.length:=by
   have h9:cc.toList.length=b.s+mm:=by rw [Array.length_toList,c2]
   rw [List.length_take,List.length_drop];omega
  have hCl:(((cc.toList.drop b.s).take rows.length).map EV.v).length=rows.length:=by rw [List.length_map,hlenx]
  have hCS:∀ j,j<rows.length→∃ x,(((cc.toList.drop b.s).take rows.length).map EV.v)[j]? = some (.v x)∧SlR γ i v j s1.length ((rows.getD j []).getD 0 (.i 0)).list.length x:=fun j hj=>by
   obtain ⟨x,x1,x2⟩:=c4 j 0 (.list s1) hj rfl (by simp);have e5:j*[Sh.list s1].length+0=j:=by show j*1+0=j;omega
   rw [e5] at x1 x2;refine ⟨x,?_,x2⟩;rw [List.getElem?_map,List.getElem?_take,if_pos hj,List.getElem?_drop,Array.getElem?_toList,x1];rfl
  generalize hCSd:((cc.toList.drop b.s).take rows.length).map EV.v=CS at hCl hCS;have hR1:=hH.nestCells hi hg hnil (CS:=CS) fun b' m' hb _=>by
   rw [e1] at hb;simp only [Option.some.injEq,Prod.mk.injEq] at hb;obtain ⟨rfl,rfl⟩:=hb;refine ⟨cc,c1,c2,by omega,(fun e=>by cases e),?_⟩;rw [hCl,← hCSd];exact ecl_v γ _
  obtain ⟨_,hsl⟩:=zoe hs (.inl rfl);have hgi:(H.put i (some (EK.cells tyN.1 CS false))).get i=some (.cells tyN.1 CS false):=by rw [Tr.get_put hi,if_pos rfl]
  have hca:cellsAt (H.put i (some (.cells tyN.1 CS false))) i=some (tyN.1,CS,false):=by unfold cellsAt;rw [hgi]
  have hap:exAppendN ei (.sl i 1 0 rows.length none) 1 [EV.v xr] (H.put i (some (.cells tyN.1 CS false))) n=some ⟨some (.sl n ei.z 0 (rows.length+1) none),((H.put i (some (.cells tyN.1 CS false))).put i none).put n (some (.cells ei.e (((CS.drop 0).take (Nat.mul rows.length 1))++[EV.v xr]) false)),Nat.succ n⟩:=by
   unfold exAppendN;simp only [bc_eq,k3,k4,Nat.beq_refl,hca];have e3:Nat.ble (Nat.add 0 (Nat.mul rows.length 1)) (llen CS)=true:=by
    rw [zac,hCl];exact Nat.ble_eq_true_of_le (show 0+rows.length*1≤rows.length by omega)
   simp only [e3,hi];unfold exGrow;simp only [bc_eq,hnb,hone,show Nat.ble (Nat.add rows.length 1) 65536=true from d5,if_true]
  obtain ⟨γ',w',v',q1,q2,q3,a2,q4,q5⟩:=zbd (ty:=ty) (c:=ca) hT hR1 hei hsl hcv hnl hnc hap;injection q4 with q4;subst q4;have q6:=ze3 q5;rw [k3] at q6;have e6:(CS.drop 0).take (Nat.mul rows.length 1)=CS:=by
   rw [List.drop_zero,show Nat.mul rows.length 1=CS.length by rw [hCl];exact Nat.mul_one _,List.take_length]
  rw [k4,e6] at q2;have q2:HR γ' (hH.baseN hg) (((H.put i (some (.cells tyN.1 CS false))).put i none).put n (some (.cells tyN.1 (CS++[EV.v xr]) false))) (n+1) w':=q2;have hst:w0.Stays w':=⟨q2.stays.os.trans hH.stays.os,q2.stays.tape.trans hH.stays.tape,q2.stays.output.trans hH.stays.output,Nat.le_trans hH.stays.size q2.stays.size,fun k hk=>(q2.stays.block k (.inl hk)).trans (hH.stays.block k hk)⟩
  obtain ⟨γ3,g1,g2,g3⟩:=zho (γ:=γ) (i:=i) (v:=v) (rows:=rows) (r:=r0) (c:=c) (s1:=s1) (ty:=tyN) (CS:=CS) hnb hnb2 hrb q2 hst (fun _ h=>.inl h) (fun _=>Iff.rfl) (fun _ h=>h) (fun j k m hj hr=>by
   have hr2:γ.rw i v (j*[Sh.list s1].length+0)=some (k,m):=by show γ.rw i v (j*1+0)=_;rw [Nat.mul_one,Nat.add_zero];exact hr
   obtain ⟨p1,p2,p3,p4,arr,ty',p5,p6,p7⟩:=hH.fzk.nst.at' i i _ [.list s1] rows v [] true hg j 0 s1 hj rfl (by simp) k m hr2;have hF:(hH.baseN hg).F k:=.inr ⟨j,0,s1,m,hj,rfl,hr2⟩;refine ⟨hF,p1,fun hb=>?_,fun j2 m2 hj2 hr3=>?_,arr,ty',p5.mono (q2.stays.block k hF),p6,fun a g s ha hs=>?_⟩
   ·obtain ⟨a3,z⟩:=hH.fzk.base k hb;rw [p2] at z;cases z
   ·exact (p4 i i _ [.list s1] rows v [] true hg j2 0 s1 hj2 rfl (by simp) m2 (by show γ.rw i v (j2*1+0)=_;rw [Nat.mul_one,Nat.add_zero];exact hr3)).2.1
   ·obtain ⟨x,x1,x2⟩:=p7 a g s ha hs;exact ⟨x,x1,x2.mono q1⟩) (by rw [Tr.get_put hnb,if_pos rfl]) hCl hCS (by rw [Tr.get_put hnb,if_neg (by omega),Tr.get_put hi,if_neg hri,Tr.get_put hi,if_neg hri];exact hgr) hrn k6 (hxr.mono q1) q6
  refine ⟨γ3,w',v',q1.trans g1,g2.congr fun q kq hq=>?_,q3,_,rfl,g3⟩;rw [Tr.get_put hnb2] at hq ⊢;split at hq
  ·rename_i e;rw [if_pos e];exact hq
  ·rename_i e;rw [if_neg e];rw [Tr.get_put hrb] at hq ⊢;split at hq
   ·cases hq
   ·rename_i e2;rw [if_neg e2];rw [Tr.get_put hnb] at hq ⊢;split at hq
    ·cases hq
    ·rename_i e3;rw [if_neg e3,Tr.get_put hnb,if_neg e3];rw [Tr.get_put hi] at hq ⊢;split at hq
     ·cases hq
     ·rename_i e4;rw [if_neg e4,Tr.get_put hi,if_neg e4];exact hq
def apNs0 (ei:EI) (m:Nat) (news:List EV) (H:Tr EK) (n:Nat):Option YR:=match news with
 | [.slO r z2 len2 nn2]=>match H.get r with
  | some (.seq tyr c nnr)=>bc (Nat.beq m 1) (bc (Nat.beq ei.z 1) (bc (Nat.beq z2 (llen c.sh)) (bc (Nat.ble r 65535) (bc (Nat.ble (n+1) 65535)
    (some ⟨bc nn2 (bc nnr (Nat.beq len2 c.cnt) false) false,⟨some (.slO (n+1) 1 (0+1) true),((H.put n none).put r none).put (n+1) (some (.nest (n+1) (ei.e,[tyr]) [.list c.sh] [[.l c.rows]] 1 [] true)),n+2⟩⟩) none) none) none) none) none
  | _=>none
 | _=>none
theorem ztg (hT:TOk γ T tmps) (hH:HR γ w0 H n w) {t ty:TypeId} {ei:EI} (hei:elemInfo P t=some ei) {m:Nat} {news:List EV} {r:YR} {a:Addr} {ca:Nat} {ns:List Value} (hcn:ECL γ news ns) (hnl:ns.length=m*ei.z) (hnc:∀ j u,ns[j]? = some u→w.cell? (a.add j)=some u) (h:apNs0 ei m news H n=some r) (hc:r.c=true) :
  ∃ γ' w' v',GLe γ γ'∧HR γ' w0 r.er.H r.er.n w'∧(Builtin.append_ #[t,t] ty #[.slice none 0 0,.slice (some a) m ca]).run P w = .ok v' w'∧∃ a,r.er.val=some a∧EC γ' a v':=by
 unfold apNs0 at h;split at h
 case h_2=>cases h
 rename_i r0 z2 len2 nn2;split at h
 case h_2=>cases h
 rename_i tyr c nnr hgr;obtain ⟨k1,h⟩:=bcN h nofun;obtain ⟨k3,h⟩:=bcN h nofun;obtain ⟨k5,h⟩:=bcN h nofun;obtain ⟨hrb,h⟩:=bcN h nofun;obtain ⟨hnb2,h⟩:=bcN h nofun;injection h with h;subst h
 obtain ⟨d1,hc⟩:=bcN (show bc nn2 _ _=true from hc) nofun;obtain ⟨d2,d3⟩:=bcN hc nofun;have k1:=Nat.eq_of_beq_eq_true k1;have k3:=Nat.eq_of_beq_eq_true k3;have k5:=Nat.eq_of_beq_eq_true k5;rw [zac] at k5;have d3:=Nat.eq_of_beq_eq_true d3;subst k1;subst k5;subst d1;subst d2;subst d3;have hnb:Nat.ble n 65535=true:=Nat.ble_eq_true_of_le (by have:=Nat.le_of_ble_eq_true hnb2;omega);obtain ⟨xr,us,rfl,hxr,hus⟩:=ECL.inv hcn;have hus:us=[]:=List.eq_nil_of_length_eq_zero (by have:=hus.1;simpa using this.symm);subst hus
 have hrnil:¬ (EK.seq tyr c true).Nil:=fun e=>by cases e.1
 have hrn:r0<n:=by
  obtain ⟨b,mm,e1,_⟩:=hH.hp r0 _ hgr hrnil;rcases Nat.lt_or_ge r0 n with h|h
  ·exact h
  ·rw [hH.fresh r0 h] at e1;cases e1
 have hone:allOne [EV.v xr]=true:=by
  cases hxr with
  | slO _ _ _ _ _ hs=>obtain ⟨b2,m2,cp,q1,rfl,_⟩:=hs.2 rfl;rfl
 have hcv:ECL γ [EV.v xr] [xr]:=ecl_v γ [xr];have hap:exAppendN ei (.v (.slice none 0 0)) 1 [EV.v xr] H n=some ⟨some (.sl n ei.z 0 (0+1) none),H.put n (some (.cells ei.e ([]++[EV.v xr]) false)),Nat.succ n⟩:=by
  unfold exAppendN exGrow;simp only [bc_eq,Nat.beq_refl,hnb,hone];rfl
 obtain ⟨γ',w',v',q1,q2,q3,a2,q4,q5⟩:=zbd (ty:=ty) (c:=ca) hT hH hei (.v (γ:=γ) (.slice none 0 0)) hcv hnl hnc hap;injection q4 with q4;subst q4;have q6:=ze3 q5;rw [k3] at q6
 obtain ⟨γ3,g1,g2,g3⟩:=zho (γ:=γ) (i:=0) (v:=0) (rows:=[]) (r:=r0) (c:=c) (s1:=c.sh) (ty:=(ei.e,[tyr])) (CS:=[]) hnb hnb2 hrb q2 q2.stays (fun _ h=>h) (fun _=>Iff.rfl) (fun _ h=>h) (fun j k m hj=>absurd hj (Nat.not_lt_zero _)) (by rw [Tr.get_put hnb,if_pos rfl]) rfl (fun j hj=>absurd hj (Nat.not_lt_zero _)) (by rw [Tr.get_put hnb,if_neg (by omega)];exact hgr) hrn rfl (hxr.mono q1) q6;refine ⟨γ3,w',v',q1.trans g1,g2.congr fun q kq hq=>?_,q3,_,rfl,g3⟩;rw [Tr.get_put hnb2] at hq ⊢;split at hq
 ·rename_i e;rw [if_pos e];exact hq
 ·rename_i e;rw [if_neg e];rw [Tr.get_put hrb] at hq ⊢;split at hq
  ·cases hq
  ·rename_i e2;rw [if_neg e2];rw [Tr.get_put hnb] at hq ⊢;split at hq
   ·cases hq
   ·rename_i e3;rw [if_neg e3,Tr.get_put hnb,if_neg e3];exact hq
def zNapO (P:Program) (T:Tr EV) (args:List Operand) (ats:List TypeId) (H:Tr EK) (n:Nat):Option YR:=match args,ats with
 | [x,y],[t,u]=>bc (Nat.beq t u) (match elemInfo P t with
  | some ei=>match exVal T x with
   | some a=>match exVal T y with
    | some b=>match newsOf H ei.z b with
     | some (m,news)=>match a with
      | .slO i z len nn=>apNst ei i z len nn m news H n
      | .v (.slice none 0 0)=>apNs0 ei m news H n
      | _=>none
     | none=>none
    | none=>none
   | none=>none
  | none=>none) none
 | _,_=>none
theorem zqy (hT:TOk γ T tmps) (hH:HR γ w0 H n w) {args:Array Operand} {ats:Array TypeId} {r:YR} (ho:o.op = .call { callee:=.builtin .append,args:=args,argTypes:=ats }) (h:zNapO P T args.toList ats.toList H n=some r) (hc:r.c=true):Gives P γ w0 w (execOp (opEval tmps) o) r.er.val r.er.H r.er.n:=by
 unfold zNapO at h;split at h
 case h_2=>cases h
 rename_i x y t u hargs hats;have ha2:args = #[x,y]:=by apply Array.ext';simpa using hargs
 have ha3:ats = #[t,u]:=by apply Array.ext';simpa using hats
 subst ha2;subst ha3;obtain ⟨htu,hh⟩:=bcN h nofun;clear h;have htu:=Nat.eq_of_beq_eq_true htu;subst htu;split at hh
 case h_2=>cases hh
 rename_i ei hei;split at hh
 case h_2=>cases hh
 rename_i a ha;split at hh
 case h_2=>cases hh
 rename_i b hb;split at hh
 case h_2=>cases hh
 rename_i m news hnw;have hy:=zaa hT hb;obtain ⟨ad,cap,vs,hvx,hcn,hnl,hnc⟩:=zc2 hH hy hnw;have main:∃ γ' w' v',GLe γ γ'∧HR γ' w0 r.er.H r.er.n w'∧(Builtin.append_ #[t,t] o.type #[opEval tmps x,opEval tmps y]).run P w = .ok v' w'∧∃ a,r.er.val=some a∧EC γ' a v':=by
  rw [hvx];split at hh
  case h_3=>cases hh
  ·exact ztf hT hH hei (zaa hT ha) hcn hnl hnc hh hc
  ·rw [ec_v (zaa hT ha)];exact ztg hT hH hei hcn hnl hnc hh hc
 obtain ⟨γ',w',v',h1,h2,h3,av,h4,h5⟩:=main;refine ⟨γ',w',h1,h2,?_⟩;rw [h4];refine ⟨v',?_,h5⟩;simp [execOp,ho,resolve,invoke,builtin,h3]
end
section
open Go.RowKit
variable {P:Program} {γ γ':G} {w0:Bs} {w:World} {H H':Tr EK} {n n':Nat} {T:Tr EV} {cs:List Frame} {fid:FuncId} {FT:Tr FI} {tmps:Array Value} {o:Oper} {α:Type}
def opG (s:ES) (ops:Array Oper) (o:Oper) (l:List Oper) (k:List IM) (er:ER):EO:=match setD s.top.T s.top.N o.dst (er.val.getD (.v undef)) with
 | some T'=>.go { s with top:={ s.top with T:=T',todo:=.ops ops l::k },H:=er.H,n:=er.n }
 | none=>.fail
theorem ztn {s:ES} {ops:Array Oper} {l:List Oper} {k:List IM} {i:Nat} {rest:List Nat} {todo:List Item} {ds:List Deferred} {ro:Option Nat} {frs:List Frame} {er:ER}
  (hret:s.top.ret=false) (h1:tmps.size=s.top.N) (h2:TOk γ s.top.T tmps) (hk:All2 (IR γ) k todo) (h4:All2 (DR γ) s.top.dfs ds) (h5:RR γ s.top.round ro) (hfs:All2 (FR γ) s.rest frs) (hH:HR γ w0 s.H s.n w)
  (ho:ops[i]? = some o) (hrest:rest.map (ops[·]?)=l.map some) (hw:Region.wanted o (yielded ops tmps)=true) (hs:SndL P .nil s.top.T o s.H s.n (er.val.getD (.v undef)) er.H er.n) :
  SOk P γ w0 cs fid (lone (fram s.top.fn tmps (.inRegion ops (i::rest)::todo) ds ro) (frs++cs) w) (opG s ops o l k er):=by
 unfold opG;split
 case h_2=>trivial
 rename_i T' hT';obtain ⟨γ',w',x,hle,hH2,hcx,hst⟩:=hs γ w0 w s.top.fn tmps ops i rest todo ds ro (frs++cs) (ROk.none _ _) h2 hH ho hw;obtain ⟨g1,g2⟩:=zcm (h2.mono hle) h1 hT' hcx;exact ⟨γ',_,hle,hst,_,frs,w',rfl,⟨_,_,ds,ro,by simp [fram,hret,modeOf],g2,g1,.cons (.ops ops l rest hrest) (hk.mono fun _ _ h=>h.mono hle),h4.mono fun _ _ h=>h.mono hle,h5.mono hle⟩,hfs.mono fun _ _ h=>h.mono hle,hH2⟩
def flRw (ct:Tr ZCC):Bool:=Option.isSome (ct.get 2)
def rowPart (T:Tr EV) (l:List (Nat×Operand)):Bool:=match l with
 | [(_,x)]=>match exVal T x with
  | some (.slO _ _ _ _)=>true
  | _=>false
 | _=>false
def zMkF (P:Program) (ct:Tr ZCC) (T:Tr EV) (o:Oper) (H:Tr EK) (n:Nat):Option YR:=match o.op with
 | .makeSlice t l c=>bc (flC ct) (zMakeR P T t l c H n) none
 | .call c=>match c.callee with
  | .builtin .append=>bc (flRw ct) (zNapO P T c.args.toList c.argTypes.toList H n) none
  | _=>none
 | .buildSlice t len parts=>bc (flRw ct) (bc (rowPart T parts.toList) (match exBuildSlice P T t len parts H n with
  | some er=>some ⟨true,er⟩
  | none=>none) none) none
 | _=>none
theorem zt8 {ct:Tr ZCC} (hT:TOk γ T tmps) (hH:HR γ w0 H n w) {r:YR} (h:zMkF P ct T o H n=some r) (hc:r.c=true):Gives P γ w0 w (execOp (opEval tmps) o) r.er.val r.er.H r.er.n:=by
 unfold zMkF at h;split at h
 case h_4=>cases h
 ·rename_i t l c ho;rw [bc_eq] at h;split at h
  case isFalse=>cases h
  exact zih hT hH ho h hc
 ·rename_i c ho;split at h
  case h_2=>cases h
  rename_i hcal;obtain ⟨callee,args,ats⟩:=c;simp only at hcal h;subst hcal;rw [bc_eq] at h;split at h
  case isFalse=>cases h
  exact zqy hT hH ho h hc
 ·rename_i t len parts ho;rw [bc_eq] at h;split at h
  case isFalse=>cases h
  rw [bc_eq] at h;split at h
  case isFalse=>cases h
  split at h
  case h_2=>cases h
  rename_i er he;injection h with h;subst h
  exact zc8 hT hH ho he
theorem zt9 {ct:Tr ZCC} {r:YR} (h:zMkF P ct T o H n=some r):notDefer o.op=true:=by
 unfold zMkF at h;split at h
 case h_4=>cases h
 ·rename_i ho;rw [ho];rfl
 ·rename_i ho;split at h
  case h_2=>cases h
  rename_i hcal;rw [ho];unfold notDefer;simp [hcal]
 ·rename_i ho;rw [ho];rfl
def stZ (P:Program) (FT:Tr FI) (ct:Tr ZCC) (T:Tr EV) (o:Oper) (H:Tr EK) (n:Nat):Option YR:=match zToBo P T o H n with
 | some r=>some r
 | none=>match zMkF P ct T o H n with
  | some r=>some r
  | none=>match zSpO P ct T o H n with
  | some r=>some r
  | none=>match zMapO P ct T o H n with
  | some r=>some r
  | none=>match zBldO P T o H n with
  | some r=>some r
  | none=>match qcZ P FT ct [] T o H n with
   | some p=>some ⟨p.1,⟨some p.2,H,n⟩⟩
   | none=>match zCt FT ct T o with
    | some (sp,ax)=>match zCallA sp ax H n with
     | some r=>some ⟨r.1,⟨some r.2.1,r.2.2.1,r.2.2.2⟩⟩
     | none=>none
    | none=>zOwn P T o H n
theorem zwj (hF:FTok P FT) {ct:Tr ZCC} (hct:ZCtsOk P ct) {r:YR} (h:stZ P FT ct T o H n=some r) (hc:r.c=true):SndL P .nil T o H n (r.er.val.getD (.v undef)) r.er.H r.er.n:=by
 unfold stZ at h;split at h
 ·rename_i r' hr;injection h with h;subst h
  exact zbk (zqu hr) fun γ w0 w tmps hT hH=>zqt hT hH hr hc
 split at h
 ·rename_i r' hr;injection h with h;subst h
  exact zbk (zt9 hr) fun γ w0 w tmps hT hH=>zt8 hT hH hr hc
 split at h
 ·rename_i r' hr;injection h with h;subst h
  exact zbk (zt4 hr) fun γ w0 w tmps hT hH=>zt3 hT hH hr hc
 split at h
 ·rename_i r' hr;injection h with h;subst h
  exact zbk (zq0 hr) fun γ w0 w tmps hT hH=>zqz hT hH hr hc
 split at h
 ·rename_i r' hr;injection h with h;subst h
  exact zbk (zrb hr) fun γ w0 w tmps hT hH=>zra hT hH hr hc
 split at h
 ·rename_i p hp;injection h with h;subst h
  exact (ziz hF hct hp hc).2.1
 ·split at h
  ·rename_i sp ax hctx;obtain ⟨_,g,k1,k2⟩:=zii hF hct hctx;split at h
   case h_2=>cases h
   rename_i q hq;injection h with h;subst h
   exact k2 fun γ w0 w us hH ha=>zik k1 hH ha hq hc
  ·have hd:notDefer o.op=true:=by
    have hr:=h;unfold zOwn at hr;split at hr
    all_goals first|(rename_i ho;rw [ho];rfl)|cases hr
   exact zbk hd fun γ w0 w tmps hT hH=>(znk hT hH h hc).2
def zOps (P:Program) (FT:Tr FI) (fid:FuncId) (dr:ES→Nat→Array Oper→List IM→EO) (ct:Tr ZCC) (s:ES) (ops:Array Oper) (o:Oper) (l:List Oper) (k:List IM):Bool×EO:=match exGuard s.top.T ops o with
 | some true=>match stZ P FT ct s.top.T o s.H s.n with
  | some r=>(r.c,opG s ops o l k r.er)
  | none=>(true,exStep P FT fid dr s)
 | _=>(true,exStep P FT fid dr s)
def zMain (P:Program) (FT:Tr FI) (fid:FuncId) (dr:ES→Nat→Array Oper→List IM→EO) (sub:Sub) (ct:Tr ZCC) (ov:List (Nat×Bool)) (s:ES):Bool×EO:=match s.top.ret with
 | false=>match s.top.todo with
  | .ops ops (o::l)::k=>zOps P FT fid dr ct s ops o l k
  | .it (.code (.region _ ops true))::k=>match drP P FT sub ct ov s ops k with
   | some r=>r
   | none=>drZ P FT sub ct ov s ops k (ancs ops.toList []) (llen ops.toList)
  | _=>(true,exStep P FT fid dr s)
 | true=>zRet P FT fid s
theorem zq2 (hm0:P.follows .mixedOrders=true) (hF:FTok P FT) {dr:ES→Nat→Array Oper→List IM→EO} (hdr:DrOk P dr) {sub:Sub} (hsub:LoudOk P sub) {ct:Tr ZCC} (hct:ZCtsOk P ct) {ov:List (Nat×Bool)} {s:ES} {m:Machine} (hm:MR γ w0 cs s m) (hc:(zMain P FT fid dr sub ct ov s).1=true):SOk P γ w0 cs fid m (zMain P FT fid dr sub ct ov s).2:=by
 unfold zMain at hc ⊢;split at hc
 ·rename_i hret;split at hc
  ·rename_i ops o l k htodo;unfold zOps at hc ⊢;split at hc
   ·rename_i hg;split at hc
    ·rename_i r hr;obtain ⟨fr,frs,w,rfl,⟨tmps,todo,ds,ro,rfl,h1,h2,h3,h4,h5⟩,hfs,hH⟩:=hm;rw [htodo] at h3
     cases h3 with
     | @cons _ _ _ todo' hi hk=>
      cases hi with
      | ops _ _ idx hidx=>
       obtain ⟨i,rest,rfl,ho,hrest⟩:=zb8 hidx;have hfr:(lone { fn:=s.top.fn,tmps:=tmps,todo:=.inRegion ops (i::rest)::todo',defers:=ds,mode:=modeOf s.top.ret,kind:=.normal,roundOf:=ro } (frs++cs) w)=lone (fram s.top.fn tmps (.inRegion ops (i::rest)::todo') ds ro) (frs++cs) w:=by rw [hret];rfl
       rw [hfr];exact ztn hret h1 h2 hk h4 h5 hfs hH ho hrest (zb2 h2 hg) (zwj hF hct hr hc)
    ·exact zc7 hF hdr hm
   ·exact zc7 hF hdr hm
  ·rename_i id ops k htodo;obtain ⟨fr,frs,w,rfl,⟨tmps,todo,ds,ro,rfl,h1,h2,h3,h4,h5⟩,hfs,hH⟩:=hm;rw [htodo] at h3
   cases h3 with
   | @cons _ _ _ todo' hi hk=>
    cases hi with
    | it x=>
     have hfr:(lone { fn:=s.top.fn,tmps:=tmps,todo:=.code (.region id ops true)::todo',defers:=ds,mode:=modeOf s.top.ret,kind:=.normal,roundOf:=ro } (frs++cs) w)=lone (fram s.top.fn tmps (.code (.region id ops true)::todo') ds ro) (frs++cs) w:=by rw [hret];rfl
     rw [hfr];split at hc
     ·rename_i r hr;exact zw7 hm0 hF hsub hct hret h1 h2 hk h4 h5 hfs hH hr hc
     ·exact zw6 hm0 hF hsub hct hret h1 h2 hk h4 h5 hfs hH hc
  ·exact zc7 hF hdr hm
 ·rename_i hret;obtain ⟨fr,frs,w,rfl,⟨tmps,todo,ds,ro,rfl,h1,h2,h3,h4,h5⟩,hfs,hH⟩:=hm;have:=zt5 (fid:=fid) (cs:=cs) hF hret h1 h2 h3 h4 h5 hfs hH hc;simpa [fram,hret,modeOf] using this
def fixC (d:Nat) (b:Bool) (s:ES):ES:=bc (Nat.ble d 65535) { s with top:={ s.top with T:=s.top.T.put d (some (.v (.bool b))) } } s
def forkC (d:Nat) (s:ES) (κ:ES→α):α:=match s.top.T.get d with
 | some (.v (.bool t))=>Bool.rec (κ (fixC d false s)) (κ (fixC d true s)) t
 | _=>κ s
theorem zpt {d:Nat} {t:Bool} {s:ES} {m:Machine} (hm:MR γ w0 cs s m) (ht:s.top.T.get d=some (.v (.bool t))):MR γ w0 cs (fixC d t s) m:=by
 unfold fixC;rw [bc_eq];split
 ·rename_i hd;obtain ⟨fr,frs,w,rfl,⟨tmps,todo,ds,ro,rfl,h1,h2,h3,h4,h5⟩,hfs,hH⟩:=hm;refine ⟨_,frs,w,rfl,⟨tmps,todo,ds,ro,rfl,h1,fun sl a hs=>?_,h3,h4,h5⟩,hfs,hH⟩;have hs2:(s.top.T.put d (some (.v (.bool t)))).get sl=some a:=hs;clear hs;rw [Tr.get_put hd] at hs2;split at hs2
  ·rename_i e;subst e;exact h2 _ a (ht.trans hs2)
  ·exact h2 sl a hs2
 ·exact hm
theorem zh1 {d:Nat} {s:ES} {m:Machine} (hm:MR γ w0 cs s m) (κ:ES→α):∃ s',MR γ w0 cs s' m∧forkC d s κ=κ s':=by
 unfold forkC;split
 ·rename_i t ht
  cases t with
  | false=>exact ⟨_,zpt hm ht,rfl⟩
  | true=>exact ⟨_,zpt hm ht,rfl⟩
 ·exact ⟨s,hm,rfl⟩
def preCodeC (c:Code) (s:ES) (κ:ES→α):α:=match c with
 | .cond (.tmp d) _ _=>forkC d s κ
 | _=>κ s
def preOpC (ops:Array Oper) (o:Oper) (s:ES) (κ:ES→α):α:=match o.guard with
 | some (j,_)=>match lget ops.toList j with
  | some oj=>match oj.dst with
   | some d=>forkC d s κ
   | none=>κ s
  | none=>κ s
 | none=>match o.op with
  | .pick (.tmp d) _ _=>forkC d s κ
  | _=>κ s
def preC (s:ES) (κ:ES→α):α:=match s.top.todo with
 | .it (.code c)::_=>preCodeC c s κ
 | .ops ops (o::_)::_=>preOpC ops o s κ
 | _=>κ s
theorem zu1 {s:ES} {m:Machine} (hm:MR γ w0 cs s m) (κ:ES→α):∃ s',MR γ w0 cs s' m∧preC s κ=κ s':=by
 unfold preC;split
 ·unfold preCodeC;split
  ·exact zh1 hm κ
  ·exact ⟨s,hm,rfl⟩
 ·unfold preOpC;split
  ·split
   ·split
    ·exact zh1 hm κ
    ·exact ⟨s,hm,rfl⟩
   ·exact ⟨s,hm,rfl⟩
  ·split
   ·exact zh1 hm κ
   ·exact ⟨s,hm,rfl⟩
 ·exact ⟨s,hm,rfl⟩
def mainC (r:Bool×EO) (κ:EO→α):α:=Prod.rec (fun c e=>bc c (κ e) (κ .fail)) r
def memG (j:Nat) (l:List Nat):Bool:=List.rec false (fun k _ ih=>bc (Nat.beq k j) true ih) l
def pickG (ops:List Oper) (d:Nat):Nat→Option Nat:=List.rec (fun _=>none) (fun o _ ih i=>match o.dst with
 | some e=>bc (Nat.beq e d) (some i) (ih (Nat.succ i))
 | none=>ih (Nat.succ i)) ops
def guardsOf (all ops:List Oper):List Nat:=List.rec [] (fun o _ ih=>match o.guard with
 | some (j,_)=>bc (memG j ih) ih (j::ih)
 | none=>match o.op with
  | .pick (.tmp d) _ _=>match pickG all d 0 with
   | some j=>bc (memG j ih) ih (j::ih)
   | none=>ih
  | _=>ih) ops
def insN (j:Nat) (l:List Nat):List Nat:=List.rec [j] (fun k t ih=>bc (Nat.ble j k) (j::k::t) (k::ih)) l
def sortN (l:List Nat):List Nat:=List.rec [] (fun j _ ih=>insN j ih) l
def boolAt (P:Program) (FT:Tr FI) (sub:Sub) (ct:Tr ZCC) (s:ES) (ops:Array Oper) (A:List Nat) (m:Nat) (ov:List (Nat×Bool)) (j:Nat):Option (Nat×Bool):=match lget ops.toList j with
 | some oj=>match oj.dst with
  | some d=>match canonF P (frF' P) (lF' P FT sub ct) (qF' P FT ct ov) ops A s.n s.top.N (ops.toList.take (Nat.succ j)) 0 [] [] ⟨s.H,Nat.add s.n m,0⟩ s.top.T [] [] with
   | some c=>match c.T.get d with
    | some (.v (.bool t))=>some (d,t)
    | _=>none
   | none=>none
  | none=>none
 | none=>none
def forkG (P:Program) (FT:Tr FI) (sub:Sub) (ct:Tr ZCC) (s:ES) (ops:Array Oper) (A:List Nat) (m:Nat) (κ:List (Nat×Bool)→α) (G:List Nat):List (Nat×Bool)→α:=List.rec (fun ov=>κ ov) (fun j _ ih ov=>match boolAt P FT sub ct s ops A m ov j with
 | some (d,t)=>Bool.rec (ih (ov++[(d,false)])) (ih (ov++[(d,true)])) t
 | none=>ih ov) G
theorem zfa {sub:Sub} {ct:Tr ZCC} {s:ES} {ops:Array Oper} {A:List Nat} {m:Nat} (κ:List (Nat×Bool)→α):∀ (G:List Nat) (ov:List (Nat×Bool)),∃ ov',forkG P FT sub ct s ops A m κ G ov=κ ov'
 | [],ov=>⟨ov,rfl⟩
 | j::G,ov=>by
  have e:forkG P FT sub ct s ops A m κ (j::G) ov=(match boolAt P FT sub ct s ops A m ov j with
   | some (d,t)=>Bool.rec (forkG P FT sub ct s ops A m κ G (ov++[(d,false)])) (forkG P FT sub ct s ops A m κ G (ov++[(d,true)])) t
   | none=>forkG P FT sub ct s ops A m κ G ov):=rfl
  rw [e];split
  ·rename_i d t ht
   cases t with
   | false=>exact zfa κ G _
   | true=>exact zfa κ G _
  ·exact zfa κ G _
def forkR (P:Program) (FT:Tr FI) (sub:Sub) (ct:Tr ZCC) (s:ES) (κ:List (Nat×Bool)→α):α:=match s.top.todo with
 | .it (.code (.region _ ops true))::_=>forkG P FT sub ct s ops (ancs ops.toList []) (llen ops.toList) κ (sortN (guardsOf ops.toList ops.toList)) []
 | _=>κ []
theorem zso {sub:Sub} {ct:Tr ZCC} {s:ES} (κ:List (Nat×Bool)→α):∃ ov,forkR P FT sub ct s κ=κ ov:=by
 unfold forkR;split
 ·exact zfa κ _ _
 ·exact ⟨[],rfl⟩
def lookL (d:TypeDesc) (kv:Value) (ok:Bool) (z:Value) (s:ES) (ops:Array Oper) (o:Oper) (l:List Oper) (k:List IM) (κ:EO→α) (es:List (Value×EV)):α:=List.rec (κ (opG s ops o l k ⟨some (bc ok (.v (.tuple #[z,.bool false])) (.v z)),s.H,s.n⟩))
 (fun p _ ih=>Bool.rec ih (κ (opG s ops o l k ⟨some (bc ok (.tup [p.2,.v (.bool true)]) p.2),s.H,s.n⟩)) (kEq d kv p.1)) es
def lookF (P:Program) (s:ES) (dflt:α) (κ:EO→α):α:=match s.top.ret with
 | false=>match s.top.todo with
  | .ops ops (o::l)::k=>match o.op with
   | .lookup t m x ok=>match exGuard s.top.T ops o with
    | some true=>match mpAt s.top.T s.H m with
     | some (_,es)=>match mapOf P t with
      | some (_,e,d)=>match exVal s.top.T x with
       | some (.v kv)=>bc (isKeyB d kv) (bc (keysB d es) (match pureOf P (zeroValue e) with
        | some z=>lookL d kv ok z s ops o l k κ es
        | none=>dflt) dflt) dflt
       | _=>dflt
      | none=>dflt
     | none=>dflt
    | _=>dflt
   | _=>dflt
  | _=>dflt
 | true=>dflt
theorem zlp {d:TypeDesc} {kv:Value} {ok:Bool} {z:Value} {s:ES} {ops:Array Oper} {l:List Oper} {k:List IM} {κ:EO→α} {es0:List (Value×EV)} {Q:EO→Prop}
  (hA:findE d kv es0=none→Q (opG s ops o l k ⟨some (bc ok (.v (.tuple #[z,.bool false])) (.v z)),s.H,s.n⟩))
  (hF:∀ a,findE d kv es0=some a→Q (opG s ops o l k ⟨some (bc ok (.tup [a,.v (.bool true)]) a),s.H,s.n⟩)) :
  ∀ es,findE d kv es0=findE d kv es→∃ e,lookL d kv ok z s ops o l k κ es=κ e∧Q e
 | [],h=>⟨_,rfl,hA h⟩
 | p::es,h=>by
  have e1:lookL d kv ok z s ops o l k κ (p::es)=Bool.rec (lookL d kv ok z s ops o l k κ es) (κ (opG s ops o l k ⟨some (bc ok (.tup [p.2,.v (.bool true)]) p.2),s.H,s.n⟩)) (kEq d kv p.1):=rfl;have e2:findE d kv (p::es)=bc (kEq d kv p.1) (some p.2) (findE d kv es):=rfl;rw [e2] at h;rw [e1]
  cases hk:kEq d kv p.1 with
  | false=>
   rw [hk] at h;exact zlp hA hF es h
  | true=>
   rw [hk] at h;exact ⟨_,rfl,hF _ h⟩
theorem zsh {s:ES} {m:Machine} (hm:MR γ w0 cs s m) (dflt:α) (κ:EO→α):lookF P s dflt κ=dflt∨∃ e,lookF P s dflt κ=κ e∧SOk P γ w0 cs fid m e:=by
 unfold lookF;split
 case h_2=>exact .inl rfl
 rename_i hret;split
 case h_2=>exact .inl rfl
 rename_i ops o l k htodo;split
 case h_2=>exact .inl rfl
 rename_i t mp x ok ho;split
 case h_2=>exact .inl rfl
 rename_i hg;split
 case h_2=>exact .inl rfl
 rename_i i es hmp;split
 case h_2=>exact .inl rfl
 rename_i kt e d hmo;split
 case h_2=>exact .inl rfl
 rename_i kv hx;rw [bc_eq];split
 case isFalse=>exact .inl rfl
 rename_i h1;rw [bc_eq];split
 case isFalse=>exact .inl rfl
 rename_i h2;split
 case h_2=>exact .inl rfl
 rename_i z hz;right;have hd:notDefer o.op=true:=by rw [ho];rfl
 have key:∀ a,exLookup P s.top.T t mp x ok s.H=some a→SOk P γ w0 cs fid m (opG s ops o l k ⟨some a,s.H,s.n⟩):=fun a ha=>by
  obtain ⟨fr,frs,w,rfl,⟨tmps,todo,ds,ro,rfl,g1,g2,g3,g4,g5⟩,hfs,hH⟩:=hm;rw [htodo] at g3
  cases g3 with
  | @cons _ _ _ todo' hi hk=>
   cases hi with
   | ops _ _ idx hidx=>
    obtain ⟨i,rest,rfl,ho',hrest⟩:=zb8 hidx;have hfr:(lone { fn:=s.top.fn,tmps:=tmps,todo:=.inRegion ops (i::rest)::todo',defers:=ds,mode:=modeOf s.top.ret,kind:=.normal,roundOf:=ro } (frs++cs) w)=lone (fram s.top.fn tmps (.inRegion ops (i::rest)::todo') ds ro) (frs++cs) w:=by rw [hret];rfl
    rw [hfr];exact ztn (er:=⟨some a,s.H,s.n⟩) hret g1 g2 hk g4 g5 hfs hH ho' hrest (zb2 g2 hg) (zit hd fun γ w0 w tmps hT hH=>zf1 hT hH ho ha)
 refine zlp (Q:=fun e=>SOk P γ w0 cs fid m e) (fun hn=>key _ ?_) (fun a hn=>key _ ?_) es rfl
 ·unfold exLookup;simp only [hmp,hmo,hx,bc_eq,h1,h2,hn,hz,if_true]
 ·unfold exLookup;simp only [hmp,hmo,hx,bc_eq,h1,h2,hn,if_true]
def stepZ (P:Program) (FT:Tr FI) (fid:FuncId) (dr:ES→Nat→Array Oper→List IM→EO) (sub:Sub) (ct:Tr ZCC) (s:ES) (κ:EO→α):α:=preC s (fun s'=>lookF P s' (forkR P FT sub ct s' (fun ov=>mainC (zMain P FT fid dr sub ct ov s') κ)) κ)
theorem ze6 (hm0:P.follows .mixedOrders=true) (hF:FTok P FT) {dr:ES→Nat→Array Oper→List IM→EO} (hdr:DrOk P dr) {sub:Sub} (hsub:LoudOk P sub) {ct:Tr ZCC} (hct:ZCtsOk P ct) {s:ES} {m:Machine} (hm:MR γ w0 cs s m) (κ:EO→α):∃ e,stepZ P FT fid dr sub ct s κ=κ e∧SOk P γ w0 cs fid m e:=by
 unfold stepZ;obtain ⟨s',hm',e1⟩:=zu1 hm (fun s'=>lookF P s' (forkR P FT sub ct s' (fun ov=>mainC (zMain P FT fid dr sub ct ov s') κ)) κ);rw [e1];rcases zsh (P:=P) (fid:=fid) hm' (forkR P FT sub ct s' (fun ov=>mainC (zMain P FT fid dr sub ct ov s') κ)) κ with e0|⟨e,e0,h0⟩
 rotate_left
 ·exact ⟨e,e0,h0⟩
 rw [e0];obtain ⟨ov,e2⟩:=zso (P:=P) (FT:=FT) (sub:=sub) (ct:=ct) (s:=s') (fun ov=>mainC (zMain P FT fid dr sub ct ov s') κ);rw [e2]
 cases hy:zMain P FT fid dr sub ct ov s' with
 | mk c e=>
  show ∃ e',bc c (κ e) (κ .fail)=κ e'∧_
  cases c with
  | false=>exact ⟨.fail,rfl,trivial⟩
  | true=>
   refine ⟨e,rfl,?_⟩;have:=zq2 (fid:=fid) (ov:=ov) hm0 hF hdr hsub hct hm' (by rw [hy]);rw [hy] at this;exact this
def runZ (st:ES→(EO→α)→α) (p:ES→Bool) (κ:EO→α) (k:Nat):ES→α:=Nat.rec (fun _=>κ .fail) (fun _ ih s=>st s (fun e=>EO.rec (fun s'=>Bool.rec (ih s') (κ (.go s')) (p s')) (fun a H n=>κ (.done a H n)) (fun b H n=>κ (.doneR b H n)) (κ .fail) e)) k
theorem zfh {st:ES→(EO→α)→α} {p:ES→Bool} {κ:EO→α} (hst:∀ (γ:G) (s:ES) (m:Machine) (κ':EO→α),MR γ w0 cs s m→∃ e,st s κ'=κ' e∧SOk P γ w0 cs fid m e) :
  ∀ (k:Nat) (γ:G) (s:ES) (m:Machine),MR γ w0 cs s m→∃ e,runZ st p κ k s=κ e∧SOk P γ w0 cs fid m e
 | 0,γ,s,m,_=>⟨.fail,rfl,trivial⟩
 | k+1,γ,s,m,hm=>by
  obtain ⟨e,h1,h2⟩:=hst γ s m (fun e=>EO.rec (fun s'=>Bool.rec (runZ st p κ k s') (κ (.go s')) (p s')) (fun a H n=>κ (.done a H n)) (fun b H n=>κ (.doneR b H n)) (κ .fail) e) hm;have fin:∃ e',(EO.rec (fun s'=>Bool.rec (runZ st p κ k s') (κ (.go s')) (p s')) (fun a H n=>κ (.done a H n)) (fun b H n=>κ (.doneR b H n)) (κ .fail) e:α)=κ e'∧SOk P γ w0 cs fid m e':=by
   cases e with
   | go s'=>
    show ∃ e',(Bool.rec (runZ st p κ k s') (κ (.go s')) (p s'):α)=κ e'∧_
    cases hp:p s' with
    | true=>exact ⟨.go s',rfl,h2⟩
    | false=>
     obtain ⟨γ',m',hle,hs,hm'⟩:=h2;obtain ⟨e2,q1,q2⟩:=zfh hst k γ' s' m' hm';exact ⟨e2,q1,SOk.trans hle hs q2⟩
   | done a H n=>exact ⟨_,rfl,h2⟩
   | doneR b H n=>exact ⟨_,rfl,h2⟩
   | fail=>exact ⟨_,rfl,h2⟩
  obtain ⟨e',q1,q2⟩:=fin;exact ⟨e',h1.trans q1,q2⟩
def atS (d f id:Nat) (s:ES):Bool:=bc (Nat.beq (llen s.rest) d) (bc (Nat.beq s.top.fn f) (match s.top.todo with
 | .it (.code (.seq (.region i _ _) _))::_=>Nat.beq i id
 | _=>false) false) false
end
section
open Go.RowKit
variable {P:Program} {γ γ':G} {w0:Bs} {w:World} {H H':Tr EK} {n n':Nat} {T:Tr EV} {cs:List Frame} {fid:FuncId} {FT:Tr FI} {tmps:Array Value} {o:Oper} {α:Type}
theorem zov {ρ:List (Nat×Nat)} {N:Nat} (hρ:okN ρ N=true) {l:SL} {f:EF} {a:FS} {fr:Frame} (h:normFR ρ l f=some a) (hf:FR γ f fr):FR (γ.ren ρ) (frOf a) fr:=by
 unfold normFR at h;split at h
 case h_2=>cases h
 rename_i hret;split at h
 case h_2=>cases h
 rename_i ds' hds;split at h
 case h_2=>cases h
 rename_i ro' hro;split at h
 case h_2=>cases h
 rename_i td htd;split at h
 case h_2=>cases h
 rename_i T hT;injection h with h;subst h
 obtain ⟨tmps,todo,ds,ro,rfl,h1,h2,h3,h4,h5⟩:=hf;refine ⟨tmps,todo,ds,ro,by rw [hret];rfl,h1,fun sl a hs=>?_,zj6 (R:=IR γ) (S:=IR (γ.ren ρ)) (fun _ _ _ h1 h2=>zuz hρ h1 h2) htd h3,zj6 (R:=DR γ) (S:=DR (γ.ren ρ)) (fun _ _ _ h1 h2=>zu0 hρ h1 h2) hds h4,zux hρ hro h5⟩;obtain ⟨c,a0,q1,q2⟩:=zhl hT sl a (zcp hs);obtain ⟨x,hx,hc⟩:=h2 sl a0 q1;exact ⟨x,hx,zom hρ q2 hc⟩
theorem zef {ρ:List (Nat×Nat)} {N:Nat} (hρ:okN ρ N=true):∀ {ls:List SL} {l:List EF} {r:List FS} {frs:List Frame},normFsR ρ ls l=some r→All2 (FR γ) l frs→All2 (FR (γ.ren ρ)) (frsOf r) frs
 | [],[],r,frs,h,hf=>by
  have h':some []=some r:=h;injection h' with h';subst h'
  cases hf;exact .nil
 | [],f::l,r,frs,h,_=>by exact absurd (show (none:Option (List FS))=some r from h) (by simp)
 | q::ls,[],r,frs,h,_=>by exact absurd (show (none:Option (List FS))=some r from h) (by simp)
 | q::ls,f::l,r,frs,h,hf=>by
  have h':(match normFR ρ q f with
   | some a=>match normFsR ρ ls l with
    | some r=>some (a::r)
    | none=>none
   | none=>none)=some r:=h
  split at h'
  case h_2=>cases h'
  rename_i a ha;split at h'
  case h_2=>cases h'
  rename_i r' hr';injection h' with h';subst h'
  cases hf with
  | cons h1 h2=>exact .cons (zov hρ ha h1) (zef hρ hr' h2)
theorem HR.ren (hH:HR γ w0 H n w) (hres:∀ i,¬ w0.res i) {ρ keep:List (Nat×Nat)} {nils:List (Nat×TypeId×SyC)} {N:Nat} {lk:List Nat} {K:List (Nat×EK)} (hρ:okN ρ N=true) (hkeep:allL (fun p=>isSomeN (lookN ρ p.1) p.2) keep=true) (hnil:allL (fun p=>isNilS p.2.2) nils=true) (hK:pickK ρ H lk keep=some K) {K2:List (Nat×EK)} (hK2:∀ x,x∈K2→x∈nilsK nils++K):HR (γ.ren ρ) w0 (mkT K2) N w:=by
 have get:∀ j k,(mkT K2).get j=some k→(k.Nil∧k.nestB=false)∨∃ i k0,lookN ρ i=some j∧H.get i=some k0∧renK ρ lk k0=some k:=fun j k hk=>by
  rcases List.mem_append.1 (hK2 _ (zcp hk)) with hm|hm
  ·left;unfold nilsK at hm;obtain ⟨p,hp,e⟩:=List.mem_map.1 hm;injection e with e1 e2;subst e2
   exact ⟨⟨rfl,zi8 (zak hnil p hp)⟩,rfl⟩
  ·right;obtain ⟨i,k0,q1,q2,q3⟩:=zlj hK j k hm;exact ⟨i,k0,zbc (zak hkeep (i,j) q1),q2,q3⟩
 refine ⟨fun j k hk=>?_,fun j1 j2 k1 k2 hj1 hj2 n1 n2 hne b1 b2 e1 e2=>?_,fun j hj=>?_,fun i hi=>absurd hi (hres i),fun j p e=>?_,hH.stays,⟨fun k a hk=>?_,hH.fzk.base,fun j v q p e=>G.ren_rw hH.fzk.nst.rwg e,fun j me ty sh rows v ho nn e=>?_,fun j me ty sh rows v ho nn e j1 f sh' hj1 hf hh k m hk=>?_⟩⟩
 ·rcases get j k hk with h5|⟨i,k0,q1,q2,q3⟩
  ·exact .inl h5.1
  ·rcases hH.hp0 i k0 q2 with h6|⟨b,m2,e1,e2,e3⟩
   ·exact .inl ((zd0 q3).2 h6)
   ·exact .inr ⟨b,m2,by rw [G.ren_look hρ q1];exact e1,e2,zuy hρ q3 e3⟩
 ·rcases get j1 k1 hj1 with h5|⟨i1,k01,q1,q2,q3⟩
  ·exact absurd h5.1 n1
  rcases get j2 k2 hj2 with h6|⟨i2,k02,q4,q5,q6⟩
  ·exact absurd h6.1 n2
  rw [G.ren_look hρ q1] at e1;rw [G.ren_look hρ q4] at e2;have hne2:i1≠i2:=fun e=>by
   subst e;rw [q1] at q4;injection q4 with q4;exact hne q4
  exact hH.inj0 i1 i2 k01 k02 q2 q5 (fun e=>n1 ((zd0 q3).2 e)) (fun e=>n2 ((zd0 q6).2 e)) hne2 b1 b2 e1 e2
 ·show (invN ρ j).bind γ=none
  cases hi:invN ρ j with
  | none=>rfl
  | some i=>
   have:=(zgl hρ (zdh hi)).2.2;omega
 ·obtain ⟨i,_,q2⟩:=G.ren_some e;exact hH.lt i p q2
 ·obtain ⟨g1,g2,g3⟩:=hH.fzk.at' k a hk;refine ⟨g1,g2,fun j kj b m hj nj ej=>?_⟩;rcases get j kj hj with h5|⟨i1,k01,q1,q2,q3⟩
  ·exact absurd h5.1 nj
  rw [G.ren_look hρ q1] at ej;exact g3 i1 k01 b m q2 (fun e=>nj ((zd0 q3).2 e)) ej
 ·rcases get j _ e with h5|⟨i1,k01,q1,q2,q3⟩
  ·cases h5.2
  obtain ⟨me0,rfl,q4⟩:=zfj q3;obtain ⟨q5,q6⟩:=hH.fzk.nst.me i1 me0 ty sh rows v ho nn q2;subst q5;rw [q1] at q4;injection q4 with q4
  exact ⟨q4.symm,fun v' q hv=>(G.ren_rwL hρ q1 v' q).trans (q6 v' q hv)⟩
 ·rcases get j _ e with h5|⟨i1,k01,q1,q2,q3⟩
  ·cases h5.2
  obtain ⟨me0,rfl,_⟩:=zfj q3;obtain ⟨g1,g2,g3,g4,arr,ty3,g5,g6,g7⟩:=hH.fzk.nst.at' i1 me0 ty sh rows v ho nn q2 j1 f sh' hj1 hf hh k m ((G.ren_rwL hρ q1 _ _).symm.trans hk);refine ⟨g1,g2,fun j' kj b m' hj nj ej=>?_,fun j2 me2 ty2 sh2 rows2 v2 ho2 nn2 e2 j3 f2 s2 hj2 hf2 hh2 m2 hk2=>?_,arr,ty3,g5,g6,fun a g s ha hs=>let ⟨x,hx,hc⟩:=g7 a g s ha hs;⟨x,hx,ev_fz hc fun _ _ h=>h⟩⟩
  ·rcases get j' kj hj with h5|⟨i2,k02,r1,r2,r3⟩
   ·exact absurd h5.1 nj
   rw [G.ren_look hρ r1] at ej;exact g3 i2 k02 b m' r2 (fun e=>nj ((zd0 r3).2 e)) ej
  ·rcases get j2 _ e2 with h5|⟨i2,k02,r1,r2,r3⟩
   ·cases h5.2
   obtain ⟨me3,rfl,_⟩:=zfj r3;obtain ⟨y1,y2,y3⟩:=g4 i2 me3 ty2 sh2 rows2 v2 ho2 nn2 r2 j3 f2 s2 hj2 hf2 hh2 m2 ((G.ren_rwL hρ r1 _ _).symm.trans hk2);subst y1;rw [q1] at r1;injection r1 with r1
   exact ⟨r1.symm,y2,y3⟩
def LeadsZ (P:Program) (s s':ES):Prop:=∀ (γ:G) (w0:Bs) (cs:List Frame) (m:Machine),(∀ i,¬ w0.res i)→MR γ w0 cs s m→∃ γ' m',Steps P m m'∧MR γ' w0 cs s' m'
theorem LeadsZ.trans {a b c:ES} (h:LeadsZ P a b) (k:LeadsZ P b c):LeadsZ P a c:=fun γ w0 cs m hr hm=>by
 obtain ⟨γ1,m1,h1,h3⟩:=h γ w0 cs m hr hm;obtain ⟨γ2,m2,k1,k3⟩:=k γ1 w0 cs m1 hr h3;exact ⟨γ2,m2,h1.trans k1,k3⟩
theorem LeadsZ.refl (a:ES):LeadsZ P a a:=fun γ _ _ m _ hm=>⟨γ,m,Steps.refl P _,hm⟩
theorem zpc {s:ES} {lk:List Nat} {r:NS} {f:FuncId}
  (h:∀ (γ:G) (w0:Bs) (cs:List Frame) (m:Machine),MR γ w0 cs s m→∃ e ls ρ keep nils N,normR lk ls ρ keep nils N e=some r∧SOk P γ w0 cs f m e):LeadsZ P s (stOf r):=fun γ w0 cs m hres hm=>by
 obtain ⟨e,ls,ρ,keep,nils,N,h,this⟩:=h γ w0 cs m hm;unfold normR at h;split at h
 case h_2=>cases h
 rename_i s';obtain ⟨γ',m',h1,h2,h3⟩:=this;split at h
 case h_2=>cases h
 rename_i l hl;split at h
 case h_2=>cases h
 rename_i K hK;rw [bc_eq] at h;split at h
 case isFalse=>cases h
 rename_i hρ;rw [bc_eq] at h;split at h
 case isFalse=>cases h
 rename_i hkeep;rw [bc_eq] at h;split at h
 case isFalse=>cases h
 rename_i hnil;injection h with h;subst h
 obtain ⟨fr,frs,w,rfl,g1,hfs,hH⟩:=h3;have g3:=zef hρ hl (.cons g1 hfs);have hHn:=hH.ren hres hρ hkeep hnil hK (K2:=sortK (nilsK nils++K)) (fun _=>zcz)
 cases l with
 | nil=>have g3:All2 (FR (γ'.ren ρ)) [] (fr::frs):=g3;cases g3
 | cons f l=>
  have g3:All2 (FR (γ'.ren ρ)) (frOf f::frsOf l) (fr::frs):=g3
  cases g3 with
  | cons e1 e2=>exact ⟨γ'.ren ρ,_,h2,fr,frs,w,rfl,e1,e2,hHn⟩
inductive ZF where
 | at (r:NS)
 | done (a:EV) (K:List (Nat×EK)) (n:Nat)
 | bad
def doneO (q:NN) (a:EV) (H:Tr EK):ZF:=match renE q.ρ 8 a with
 | some a'=>match pickK q.ρ H [] (keepN H q.ρ) with
  | some K=>bc (okN q.ρ q.N) (bc (allL (fun p=>isSomeN (lookN q.ρ p.1) p.2) (keepN H q.ρ)) (.done a' K q.N) .bad) .bad
  | none=>.bad
 | none=>.bad
def doneD (a:EV) (H:Tr EK):ZF:=match frzE 8 a H with
 | some (c,a',_)=>bc c (.done a' [] 0) .bad
 | none=>.bad
def doneZ (own:Bool) (a:EV) (H:Tr EK):ZF:=bc own (doneO (addL (numsE 6 a) ⟨[],[],0⟩) a H) (doneD a H)
theorem zs6 {own:Bool} {a:EV} {r:NS} (h:doneZ own a H = .at r):False:=by
 unfold doneZ at h;rw [bc_eq] at h;split at h
 ·unfold doneO at h;split at h
  ·split at h
   ·rw [bc_eq] at h;split at h
    ·rw [bc_eq] at h;split at h <;> cases h
    ·cases h
   ·cases h
  ·cases h
 ·unfold doneD at h;split at h
  ·rw [bc_eq] at h;split at h <;> cases h
  ·cases h
def endZ (lk:List Nat) (ls:List SZ) (own:Bool) (e:EO):ZF:=match e with
 | .done a H n=>doneZ own a H
 | .go s=>match normZ lk ls (.go (nilS ls s)) with
  | some r=>.at r
  | none=>.bad
 | _=>.bad
abbrev PLs:=List ((ES→Bool)×List SZ)
def lsAt (ps:PLs) (s:ES):List SZ:=List.rec [] (fun q _ ih=>bc (q.1 s) q.2 ih) ps
def atPs (ps:PLs) (s:ES):Bool:=List.rec false (fun q _ ih=>bc (q.1 s) true ih) ps
def endP (lk:List Nat) (ps:PLs) (own:Bool) (e:EO):ZF:=match e with
 | .go s=>endZ lk (lsAt ps s) own (.go s)
 | .done a H n=>endZ lk [] own (.done a H n)
 | _=>.bad
theorem zqb {lk:List Nat} {ps:PLs} {own:Bool} (e:EO):∃ ls,endP lk ps own e=endZ lk ls own e:=by
 cases e with
 | go s=>exact ⟨_,rfl⟩
 | done a H n=>exact ⟨[],rfl⟩
 | _=>exact ⟨[],rfl⟩
theorem zs5 {own:Bool} {a:EV} {a':EV} {K:List (Nat×EK)} {N:Nat} (h:doneZ own a H = .done a' K N) (hH:HR γ w0 H n w) (hres:∀ i,¬ w0.res i) {x:Value} (ha:EC γ a x):∃ γ',EC γ' a' x∧HR γ' w0 (mkT K) N w:=by
 unfold doneZ at h;rw [bc_eq] at h;split at h
 ·unfold doneO at h;split at h
  case h_2=>cases h
  rename_i a2 ha2;split at h
  case h_2=>cases h
  rename_i K2 hK;rw [bc_eq] at h;split at h
  case isFalse=>cases h
  rename_i hρ;rw [bc_eq] at h;split at h
  case isFalse=>cases h
  rename_i hkeep;injection h with e1 e2 e3
  subst e1;subst e2;subst e3;exact ⟨_,EC.ren hρ ha2 ha,hH.ren (nils:=[]) hres hρ hkeep rfl hK (fun _ h=>h)⟩
 ·unfold doneD at h;split at h
  case h_2=>cases h
  rename_i c a2 H2 hf;rw [bc_eq] at h;split at h
  case isFalse=>cases h
  rename_i hc;injection h with e1 e2 e3
  subst e1;subst e2;subst e3;obtain ⟨γ',g1,g2,g3⟩:=zct hH ha hf hc;have hd:HR (γ'.ren []) w0 (mkT ([]++[])) 0 w:=g2.ren (ρ:=[]) (keep:=[]) (nils:=[]) (lk:=[]) hres rfl rfl rfl rfl (fun _ h=>h);have hdata:dataB 8 a2=true:=by
   have key:∀ (k:Nat),(∀ (a:EV) (H:Tr EK) (c:Bool) (a':EV) (H':Tr EK),frzE k a H=some (c,a',H')→dataB k a'=true)∧∀ (l:List EV) (H:Tr EK) (c:Bool) (l':List EV) (H':Tr EK),frzL (frzE k) l H=some (c,l',H')→allL (dataB k) l'=true:=fun k=>by
    induction k with
    | zero=>
     have h0:∀ (a:EV) (H:Tr EK) (c:Bool) (a':EV) (H':Tr EK),frzE 0 a H=some (c,a',H')→dataB 0 a'=true:=fun a H c a' H' h=>by cases h
     refine ⟨h0,fun l=>?_⟩
     induction l with
     | nil=>intro H c l' H' h;have h':some (true,[],H)=some (c,l',H'):=h;simp only [Option.some.injEq,Prod.mk.injEq] at h';obtain ⟨_,rfl,_⟩:=h';rfl
     | cons b l ih=>intro H c l' H' h;cases (show (match (none:Option (Bool×EV×Tr EK)) with
       | some (c,a',H')=>match frzL (frzE 0) l H' with
        | some (c2,l',H2)=>some (bc c c2 false,a'::l',H2)
        | none=>none
       | none=>none)=some (c,l',H') from h)
    | succ k ih=>
     have h1:∀ (a:EV) (H:Tr EK) (c:Bool) (a':EV) (H':Tr EK),frzE (k+1) a H=some (c,a',H')→dataB (k+1) a'=true:=fun a H c a' H' h=>by
      cases a with
      | v x=>have h':some (true,EV.v x,H)=some (c,a',H'):=h;simp only [Option.some.injEq,Prod.mk.injEq] at h';obtain ⟨_,rfl,_⟩:=h';rfl
      | lst x=>have h':some (true,EV.lst x,H)=some (c,a',H'):=h;simp only [Option.some.injEq,Prod.mk.injEq] at h';obtain ⟨_,rfl,_⟩:=h';rfl
      | arr x=>have h':some (true,EV.arr x,H)=some (c,a',H'):=h;simp only [Option.some.injEq,Prod.mk.injEq] at h';obtain ⟨_,rfl,_⟩:=h';rfl
      | lp x j f=>have h':some (true,EV.lp x j f,H)=some (c,a',H'):=h;simp only [Option.some.injEq,Prod.mk.injEq] at h';obtain ⟨_,rfl,_⟩:=h';rfl
      | ptrE i z j f=>
       obtain ⟨c0,rfl⟩:=zvj (show frzP i z j f H=some (c,a',H') from h);rfl
      | row i v j f y z len=>
       obtain ⟨c0,rfl⟩:=zsm (show frzW i v j f y z len H=some (c,a',H') from h);rfl
      | slO i z len nn=>
       obtain ⟨c0,rfl⟩:=zlv (show frzS i z len H=some (c,a',H') from h);rfl
      | sl i z off len cap=>
       cases cap with
       | some q=>cases h
       | none=>
       cases off with
       | succ q=>cases h
       | zero=>
       obtain ⟨c0,rfl⟩:=zlv (show frzS i z len H=some (c,a',H') from h);rfl
      | agg l=>
       have h':(match frzL (frzE k) l H with
        | some (c,l',H')=>some (c,EV.agg l',H')
        | none=>none)=some (c,a',H'):=h
       split at h'
       case h_2=>cases h'
       rename_i e1;simp only [Option.some.injEq,Prod.mk.injEq] at h';obtain ⟨_,rfl,_⟩:=h';exact ih.2 _ _ _ _ _ e1
      | tup l=>
       have h':(match frzL (frzE k) l H with
        | some (c,l',H')=>some (c,EV.tup l',H')
        | none=>none)=some (c,a',H'):=h
       split at h'
       case h_2=>cases h'
       rename_i e1;simp only [Option.some.injEq,Prod.mk.injEq] at h';obtain ⟨_,rfl,_⟩:=h';exact ih.2 _ _ _ _ _ e1
      | fn f l=>
       have h':(match frzL (frzE k) l H with
        | some (c,l',H')=>some (c,EV.fn f l',H')
        | none=>none)=some (c,a',H'):=h
       split at h'
       case h_2=>cases h'
       rename_i e1;simp only [Option.some.injEq,Prod.mk.injEq] at h';obtain ⟨_,rfl,_⟩:=h';exact ih.2 _ _ _ _ _ e1
      | _=>cases h
     refine ⟨h1,fun l=>?_⟩
     induction l with
     | nil=>intro H c l' H' h;have h':some (true,[],H)=some (c,l',H'):=h;simp only [Option.some.injEq,Prod.mk.injEq] at h';obtain ⟨_,rfl,_⟩:=h';rfl
     | cons b l ihl=>
      intro H c l' H' h;have h':(match frzE (k+1) b H with
       | some (c,a',H')=>match frzL (frzE (k+1)) l H' with
        | some (c2,l',H2)=>some (bc c c2 false,a'::l',H2)
        | none=>none
       | none=>none)=some (c,l',H'):=h
      split at h'
      case h_2=>cases h'
      rename_i e1;split at h'
      case h_2=>cases h'
      rename_i e2;simp only [Option.some.injEq,Prod.mk.injEq] at h';obtain ⟨_,rfl,_⟩:=h';show bc (dataB (k+1) _) (allL (dataB (k+1)) _) false=true;rw [h1 _ _ _ _ _ e1,ihl _ _ _ _ e2];rfl
   exact (key 8).1 _ _ _ _ _ hf
  exact ⟨γ'.ren [],g3.data hdata fun _ _ h=>h,hd⟩
theorem leadsF (hm0:P.follows .mixedOrders=true) (hF:FTok P FT) {dr:ES→Nat→Array Oper→List IM→EO} (hdr:DrOk P dr) {sub:Sub} (hsub:LoudOk P sub) {ct:Tr ZCC} (hct:ZCtsOk P ct) {f k:Nat} {p:ES→Bool} {s:ES} {lk:List Nat} {κ:EO→ZF} {own:Bool} {r:NS} (hκ:∀ e,∃ ls,κ e=endZ lk ls own e)
  (h:runZ (stepZ P FT f dr sub ct) p κ k s = .at r):LeadsZ P s (stOf r):=
 zpc (f:=f) (lk:=lk) fun γ w0 cs m hm=>by
  obtain ⟨e,h1,h2⟩:=zfh (p:=p) (κ:=κ) (fun γ s m κ' hm=>ze6 (fid:=f) hm0 hF hdr hsub hct hm κ') k γ s m hm;obtain ⟨ls,hls⟩:=hκ e;have h3:endZ lk ls own e = .at r:=hls.symm.trans (h1.symm.trans h);unfold endZ at h3;split at h3
  ·exact (zs6 h3).elim
  ·split at h3
   ·rename_i s' r' hr;injection h3 with h3;subst h3
    unfold normZ at hr;simp only at hr;obtain ⟨γ',m',hle,hst,hM⟩:=h2;exact ⟨_,_,_,_,_,_,hr,⟨γ',m',hle,hst,zox hM⟩⟩
   ·cases h3
  ·cases h3
theorem callsF (hm0:P.follows .mixedOrders=true) (hF:FTok P FT) {dr:ES→Nat→Array Oper→List IM→EO} (hdr:DrOk P dr) {sub:Sub} (hsub:LoudOk P sub) {ct:Tr ZCC} (hct:ZCtsOk P ct) {f k:Nat} {p:ES→Bool} {s:ES} {lk:List Nat} {κ:EO→ZF} {own:Bool} {args:List EV} {us:Array Value} {e:EF} {a:EV} {K:List (Nat×EK)} {n':Nat} (hκ:∀ e,∃ ls,κ e=endZ lk ls own e)
  (he:exEnter FT f args=some e) (hargs:ECL γ args us.toList) (hN:∀ i,γ i=none) (hfz:FzAt γ w)
  (hl:LeadsZ P ⟨e,[],.nil,0⟩ s) (hd:runZ (stepZ P FT f dr sub ct) p κ k s = .done a K n') :
  Calls P f us w fun e w'=>∃ γ' x,e = .returned x∧EC γ' a x∧HR γ' (Bs.ofG w γ) (mkT K) n' w':=by
 intro cs;obtain ⟨q1,_⟩:=zci hF hargs he;have hM:MR γ (Bs.ofG w γ) cs ⟨e,[],.nil,0⟩ (lone (Frame.enter P f us .normal) cs w):=
  ⟨_,[],w,rfl,q1,.nil,⟨(fun i k hk=>by cases hk),(fun i j ki kj hi=>by cases hi),(fun i _=>hN i),(fun i hi=>hi.elim),(fun i p hp=>by rw [hN i] at hp;cases hp),⟨rfl,rfl,rfl,Nat.le_refl _,fun _ _=>rfl⟩,FZ.init hfz⟩⟩
 obtain ⟨γ1,m1,g1,g3⟩:=hl γ (Bs.ofG w γ) cs _ (fun i hi=>hi) hM;obtain ⟨eo,h1,this⟩:=zfh (p:=p) (κ:=κ) (fun γ s m κ' hm=>ze6 (fid:=f) hm0 hF hdr hsub hct hm κ') k γ1 s m1 g3;obtain ⟨ls,hls⟩:=hκ eo;have h3:endZ lk ls own eo = .done a K n':=hls.symm.trans (h1.symm.trans hd);unfold endZ at h3;split at h3
 ·rename_i a0 H0 n0;obtain ⟨γ',fr',w',v,_,h2,h4,h5,h6,h7⟩:=this;obtain ⟨γ2,k1,k2⟩:=zs5 h3 h7 (fun i hi=>hi) h6;exact ⟨.returned v,w',fr',⟨γ2,v,rfl,k1,k2⟩,g1.trans h2,h4,h5⟩
 ·split at h3 <;> cases h3
 ·cases h3
end
section
open Go.RowKit
variable {P:Program} {γ γ':G} {w0:Bs} {w:World} {H H':Tr EK} {n n':Nat} {T:Tr EV} {cs:List Frame} {fid:FuncId} {FT:Tr FI} {tmps:Array Value} {o:Oper} {α:Type}
def idL (k:Nat):List (Nat×Nat):=Nat.rec [] (fun j ih=>ih++[(j,j)]) k
theorem zpm:∀ {k j:Nat},j<k→(j,j)∈idL k
 | k+1,j,h=>by
  show (j,j)∈idL k++[(k,k)]
  by_cases e:j=k
  ·subst e;simp
  ·exact List.mem_append.2 (.inl (zpm (by omega)))
def pinsB (k:Nat) (ρ:List (Nat×Nat)):Bool:=allL (fun p=>isSomeN (lookN ρ p.1) p.2) (idL k)
theorem zli {k:Nat} {ρ:List (Nat×Nat)} (h:pinsB k ρ=true) {j:Nat} (hj:j<k):lookN ρ j=some j:=zbc (zak h (j,j) (zpm hj))
def normK (k:Nat) (lk:List Nat) (ls:List SZ) (e:EO):Option NS:=match e with
 | .go s=>match framesN (s.top::s.rest) ls ⟨idL k,[],k⟩ with
  | (q0,sl)=>match closeN lk s.H 60 0 q0 with
   | q=>bc (pinsB k q.ρ) (normR lk sl q.ρ (keepN s.H q.ρ) q.nils q.N (.go s)) none
 | _=>none
def doneM (k:Nat) (a:EV) (H:Tr EK):ZF:=match closeN [] H 60 0 (addL (numsE 6 a) ⟨idL k,[],k⟩) with
 | q=>match renE q.ρ 8 a with
  | some a'=>match pickK q.ρ H [] (keepN H q.ρ) with
   | some K=>bc (okN q.ρ q.N) (bc (allL (fun p=>isSomeN (lookN q.ρ p.1) p.2) (keepN H q.ρ)) (bc (pinsB k q.ρ) (.done a' (sortK K) q.N) .bad) .bad) .bad
   | none=>.bad
  | none=>.bad
abbrev NLs:=List (Nat×Nat×TypeId×SyC)
def nilD (nl:NLs):Tr EK×Nat→Tr EK×Nat:=List.rec (fun q=>q) (fun p _ ih q=>match q.1.get p.1 with
 | some (.cells _ l _)=>ih (nilL p.2.1 p.2.2.1 p.2.2.2 p.1 (nilJ l 0) q)
 | _=>ih q) nl
theorem zj2:∀ {nl:NLs} {q:Tr EK×Nat},HR γ w0 q.1 q.2 w→HR γ w0 (nilD nl q).1 (nilD nl q).2 w
 | [],_,h=>h
 | p::nl,q,h=>by
  show HR γ w0 (match q.1.get p.1 with
   | some (.cells _ l _)=>nilD nl (nilL p.2.1 p.2.2.1 p.2.2.2 p.1 (nilJ l 0) q)
   | _=>nilD nl q).1 (match q.1.get p.1 with
   | some (.cells _ l _)=>nilD nl (nilL p.2.1 p.2.2.1 p.2.2.2 p.1 (nilJ l 0) q)
   | _=>nilD nl q).2 w
  split
  ·exact zj2 (zj1 h)
  ·exact zj2 h
def endM (k:Nat) (lk:List Nat) (ps:PLs) (nl:NLs) (e:EO):ZF:=match e with
 | .go s=>match normK k lk (lsAt ps s) (.go (nilS (lsAt ps s) s)) with
  | some r=>.at r
  | none=>.bad
 | .done a H n=>doneM k a (nilD nl (H,n)).1
 | _=>.bad
def LeadsM (P:Program) (k:Nat) (s s':ES):Prop:=∀ (γ:G) (w0:Bs) (cs:List Frame) (m:Machine),(∀ i,¬ w0.res i)→MR γ w0 cs s m→∃ γ' m',Steps P m m'∧MR γ' w0 cs s' m'∧∀ j p,j<k→γ j=some p→γ' j=some p
theorem LeadsM.trans {k:Nat} {a b c:ES} (h:LeadsM P k a b) (g:LeadsM P k b c):LeadsM P k a c:=fun γ w0 cs m hr hm=>by
 obtain ⟨γ1,m1,h1,h2,h3⟩:=h γ w0 cs m hr hm;obtain ⟨γ2,m2,k1,k2,k3⟩:=g γ1 w0 cs m1 hr h2;exact ⟨γ2,m2,h1.trans k1,k2,fun j p hj e=>k3 j p hj (h3 j p hj e)⟩
theorem LeadsM.refl (k:Nat) (a:ES):LeadsM P k a a:=fun γ _ _ m _ hm=>⟨γ,m,Steps.refl P _,hm,fun _ _ _ e=>e⟩
theorem zpd {s:ES} {lk:List Nat} {r:NS} {f:FuncId} {k:Nat}
  (h:∀ (γ:G) (w0:Bs) (cs:List Frame) (m:Machine),MR γ w0 cs s m→∃ e ls ρ keep nils N,normR lk ls ρ keep nils N e=some r∧pinsB k ρ=true∧SOk P γ w0 cs f m e):LeadsM P k s (stOf r):=fun γ w0 cs m hres hm=>by
 obtain ⟨e,ls,ρ,keep,nils,N,h,hpk,this⟩:=h γ w0 cs m hm;unfold normR at h;split at h
 case h_2=>cases h
 rename_i s';obtain ⟨γ',m',h1,h2,h3⟩:=this;split at h
 case h_2=>cases h
 rename_i l hl;split at h
 case h_2=>cases h
 rename_i K hK;rw [bc_eq] at h;split at h
 case isFalse=>cases h
 rename_i hρ;rw [bc_eq] at h;split at h
 case isFalse=>cases h
 rename_i hkeep;rw [bc_eq] at h;split at h
 case isFalse=>cases h
 rename_i hnil;injection h with h;subst h
 obtain ⟨fr,frs,w,rfl,g1,hfs,hH⟩:=h3;have g3:=zef hρ hl (.cons g1 hfs);have hHn:=hH.ren hres hρ hkeep hnil hK (K2:=sortK (nilsK nils++K)) (fun _=>zcz)
 cases l with
 | nil=>have g3:All2 (FR (γ'.ren ρ)) [] (fr::frs):=g3;cases g3
 | cons f l=>
  have g3:All2 (FR (γ'.ren ρ)) (frOf f::frsOf l) (fr::frs):=g3
  cases g3 with
  | cons e1 e2=>exact ⟨γ'.ren ρ,_,h2,⟨fr,frs,w,rfl,e1,e2,hHn⟩,fun j p hj ej=>by rw [G.ren_look hρ (zli hpk hj)];exact h1 j p ej⟩
theorem leadsM (hm0:P.follows .mixedOrders=true) (hF:FTok P FT) {dr:ES→Nat→Array Oper→List IM→EO} (hdr:DrOk P dr) {sub:Sub} (hsub:LoudOk P sub) {ct:Tr ZCC} (hct:ZCtsOk P ct) {f k c:Nat} {p:ES→Bool} {s:ES} {lk:List Nat} {ps:PLs} {nl:NLs} {r:NS}
  (h:runZ (stepZ P FT f dr sub ct) p (endM k lk ps nl) c s = .at r):LeadsM P k s (stOf r):=
 zpd (f:=f) (lk:=lk) fun γ w0 cs m hm=>by
  obtain ⟨e,h1,h2⟩:=zfh (p:=p) (κ:=endM k lk ps nl) (fun γ s m κ' hm=>ze6 (fid:=f) hm0 hF hdr hsub hct hm κ') c γ s m hm;have h3:endM k lk ps nl e = .at r:=h1.symm.trans h;unfold endM at h3;split at h3
  ·split at h3
   ·rename_i s' r' hr;injection h3 with h3;subst h3
    unfold normK at hr;simp only at hr;rw [bc_eq] at hr;split at hr
    case isFalse=>cases hr
    rename_i hpk;obtain ⟨γ',m',hle,hst,hM⟩:=h2;exact ⟨_,_,_,_,_,_,hr,hpk,⟨γ',m',hle,hst,zox hM⟩⟩
   ·cases h3
  ·unfold doneM at h3;simp only at h3;split at h3
   ·split at h3
    ·rw [bc_eq,bc_eq,bc_eq] at h3;split at h3
     ·split at h3
      ·split at h3 <;> cases h3
      ·cases h3
     ·cases h3
    ·cases h3
   ·cases h3
  ·cases h3
theorem callsM (hm0:P.follows .mixedOrders=true) (hF:FTok P FT) {dr:ES→Nat→Array Oper→List IM→EO} (hdr:DrOk P dr) {sub:Sub} (hsub:LoudOk P sub) {ct:Tr ZCC} (hct:ZCtsOk P ct) {f k c:Nat} {p:ES→Bool} {s:ES} {lk:List Nat} {ps:PLs} {nl:NLs} {args:List EV} {us:Array Value} {e:EF} {K0:List (Nat×EK)} {m0:Nat} {a:EV} {K:List (Nat×EK)} {n':Nat}
  (he:exEnter FT f args=some e) (hres:∀ i,¬ w0.res i) (hargs:ECL γ args us.toList) (hH:HR γ w0 (mkT K0) m0 w)
  (hl:LeadsM P k ⟨e,[],mkT K0,m0⟩ s) (hd:runZ (stepZ P FT f dr sub ct) p (endM k lk ps nl) c s = .done a K n') :
  Calls P f us w fun e w'=>∃ γ' x,e = .returned x∧EC γ' a x∧HR γ' w0 (mkT K) n' w'∧∀ j p,j<k→γ j=some p→γ' j=some p:=by
 intro cs;obtain ⟨q1,_⟩:=zci hF hargs he;have hM:MR γ w0 cs ⟨e,[],mkT K0,m0⟩ (lone (Frame.enter P f us .normal) cs w):=⟨_,[],w,rfl,q1,.nil,hH⟩;obtain ⟨γ1,m1,g1,g3,g4⟩:=hl γ w0 cs _ hres hM;obtain ⟨eo,h1,this⟩:=zfh (p:=p) (κ:=endM k lk ps nl) (fun γ s m κ' hm=>ze6 (fid:=f) hm0 hF hdr hsub hct hm κ') c γ1 s m1 g3;have h3:endM k lk ps nl eo = .done a K n':=h1.symm.trans hd;unfold endM at h3;split at h3
 ·split at h3 <;> cases h3
 ·rename_i a0 H0 n0;obtain ⟨γ',fr',w',v,hle,h2,h4,h5,h6,h7⟩:=this;unfold doneM at h3;simp only at h3;split at h3
  case h_2=>cases h3
  rename_i a2 ha2;split at h3
  case h_2=>cases h3
  rename_i K2 hK2;rw [bc_eq] at h3;split at h3
  case isFalse=>cases h3
  rename_i hρ;rw [bc_eq] at h3;split at h3
  case isFalse=>cases h3
  rename_i hkeep;rw [bc_eq] at h3;split at h3
  case isFalse=>cases h3
  rename_i hpk;injection h3 with e1 e2 e3;subst e1;subst e2;subst e3
  exact ⟨.returned v,w',fr',⟨_,v,rfl,EC.ren hρ ha2 h6,(zj2 (nl:=nl) (q:=(H0,n0)) h7).ren (nils:=[]) hres hρ hkeep rfl hK2 (K2:=sortK K2) (fun _=>zcz),fun j p hj ej=>by rw [G.ren_look hρ (zli hpk hj)];exact hle j p (g4 j p hj ej)⟩,g1.trans h2,h4,h5⟩
 ·cases h3
end
noncomputable def ft0:Tr FI:=.nil
theorem ft0Ok:FTok Try.prog ft0:=FTok.nil _
noncomputable def ft1:Tr FI:=ft0.put 4 (some (ofFunc Try.f4))
theorem ft1Ok:FTok Try.prog ft1:=ft0Ok.add (by kernel_rfl) Try.func4 (by kernel_rfl) (by kernel_rfl)
noncomputable def ft2:Tr FI:=ft1.put 5 (some (ofFunc Try.f5))
theorem ft2Ok:FTok Try.prog ft2:=ft1Ok.add (by kernel_rfl) Try.func5 (by kernel_rfl) (by kernel_rfl)
noncomputable def ft3:Tr FI:=ft2.put 6 (some (ofFunc Try.f6))
theorem ft3Ok:FTok Try.prog ft3:=ft2Ok.add (by kernel_rfl) Try.func6 (by kernel_rfl) (by kernel_rfl)
noncomputable def ft4:Tr FI:=ft3.put 7 (some (ofFunc Try.f7))
theorem ft4Ok:FTok Try.prog ft4:=ft3Ok.add (by kernel_rfl) Try.func7 (by kernel_rfl) (by kernel_rfl)
noncomputable def ft5:Tr FI:=ft4.put 9 (some (ofFunc Try.f9))
theorem ft5Ok:FTok Try.prog ft5:=ft4Ok.add (by kernel_rfl) Try.func9 (by kernel_rfl) (by kernel_rfl)
noncomputable def ft6:Tr FI:=ft5.put 10 (some (ofFunc Try.f10))
theorem ft6Ok:FTok Try.prog ft6:=ft5Ok.add (by kernel_rfl) Try.func10 (by kernel_rfl) (by kernel_rfl)
noncomputable def ft7:Tr FI:=ft6.put 16 (some (ofFunc Try.f16))
theorem ft7Ok:FTok Try.prog ft7:=ft6Ok.add (by kernel_rfl) Try.func16 (by kernel_rfl) (by kernel_rfl)
noncomputable def ft8:Tr FI:=ft7.put 18 (some (ofFunc Try.f18))
theorem ft8Ok:FTok Try.prog ft8:=ft7Ok.add (by kernel_rfl) Try.func18 (by kernel_rfl) (by kernel_rfl)
noncomputable def ft9:Tr FI:=ft8.put 19 (some (ofFunc Try.f19))
theorem ft9Ok:FTok Try.prog ft9:=ft8Ok.add (by kernel_rfl) Try.func19 (by kernel_rfl) (by kernel_rfl)
noncomputable def ft10:Tr FI:=ft9.put 20 (some (ofFunc Try.f20))
theorem ft10Ok:FTok Try.prog ft10:=ft9Ok.add (by kernel_rfl) Try.func20 (by kernel_rfl) (by kernel_rfl)
noncomputable def ft11:Tr FI:=ft10.put 21 (some (ofFunc Try.f21))
theorem ft11Ok:FTok Try.prog ft11:=ft10Ok.add (by kernel_rfl) Try.func21 (by kernel_rfl) (by kernel_rfl)
noncomputable def ft12:Tr FI:=ft11.put 22 (some (ofFunc Try.f22))
theorem ft12Ok:FTok Try.prog ft12:=ft11Ok.add (by kernel_rfl) Try.func22 (by kernel_rfl) (by kernel_rfl)
noncomputable def ft13:Tr FI:=ft12.put 23 (some (ofFunc Try.f23))
theorem ft13Ok:FTok Try.prog ft13:=ft12Ok.add (by kernel_rfl) Try.func23 (by kernel_rfl) (by kernel_rfl)
noncomputable def ft14:Tr FI:=ft13.put 24 (some (ofFunc Try.f24))
theorem ft14Ok:FTok Try.prog ft14:=ft13Ok.add (by kernel_rfl) Try.func24 (by kernel_rfl) (by kernel_rfl)
noncomputable def ft15:Tr FI:=ft14.put 25 (some (ofFunc Try.f25))
theorem ft15Ok:FTok Try.prog ft15:=ft14Ok.add (by kernel_rfl) Try.func25 (by kernel_rfl) (by kernel_rfl)
noncomputable def ft16:Tr FI:=ft15.put 26 (some (ofFunc Try.f26))
theorem ft16Ok:FTok Try.prog ft16:=ft15Ok.add (by kernel_rfl) Try.func26 (by kernel_rfl) (by kernel_rfl)
noncomputable def ft17:Tr FI:=ft16.put 27 (some (ofFunc Try.f27))
theorem ft17Ok:FTok Try.prog ft17:=ft16Ok.add (by kernel_rfl) Try.func27 (by kernel_rfl) (by kernel_rfl)
noncomputable def ft18:Tr FI:=ft17.put 28 (some (ofFunc Try.f28))
theorem ft18Ok:FTok Try.prog ft18:=ft17Ok.add (by kernel_rfl) Try.func28 (by kernel_rfl) (by kernel_rfl)
noncomputable def ft19:Tr FI:=ft18.put 29 (some (ofFunc Try.f29))
theorem ft19Ok:FTok Try.prog ft19:=ft18Ok.add (by kernel_rfl) Try.func29 (by kernel_rfl) (by kernel_rfl)
noncomputable def ft20:Tr FI:=ft19.put 30 (some (ofFunc Try.f30))
theorem ft20Ok:FTok Try.prog ft20:=ft19Ok.add (by kernel_rfl) Try.func30 (by kernel_rfl) (by kernel_rfl)
noncomputable def ft21:Tr FI:=ft20.put 31 (some (ofFunc Try.f31))
theorem ft21Ok:FTok Try.prog ft21:=ft20Ok.add (by kernel_rfl) Try.func31 (by kernel_rfl) (by kernel_rfl)
noncomputable def ft22:Tr FI:=ft21.put 32 (some (ofFunc Try.f32))
theorem ft22Ok:FTok Try.prog ft22:=ft21Ok.add (by kernel_rfl) Try.func32 (by kernel_rfl) (by kernel_rfl)
noncomputable def ft23:Tr FI:=ft22.put 33 (some (ofFunc Try.f33))
theorem ft23Ok:FTok Try.prog ft23:=ft22Ok.add (by kernel_rfl) Try.func33 (by kernel_rfl) (by kernel_rfl)
noncomputable def ft24:Tr FI:=ft23.put 34 (some (ofFunc Try.f34))
theorem ft24Ok:FTok Try.prog ft24:=ft23Ok.add (by kernel_rfl) Try.func34 (by kernel_rfl) (by kernel_rfl)
noncomputable def ft25:Tr FI:=ft24.put 35 (some (ofFunc Try.f35))
theorem ft25Ok:FTok Try.prog ft25:=ft24Ok.add (by kernel_rfl) Try.func35 (by kernel_rfl) (by kernel_rfl)
noncomputable def ft26:Tr FI:=ft25.put 36 (some (ofFunc Try.f36))
theorem ft26Ok:FTok Try.prog ft26:=ft25Ok.add (by kernel_rfl) Try.func36 (by kernel_rfl) (by kernel_rfl)
noncomputable def ft27:Tr FI:=ft26.put 52 (some (ofFunc Try.f52))
theorem ft27Ok:FTok Try.prog ft27:=ft26Ok.add (by kernel_rfl) Try.func52 (by kernel_rfl) (by kernel_rfl)
noncomputable def ft28:Tr FI:=ft27.put 56 (some (ofFunc Try.f56))
theorem ft28Ok:FTok Try.prog ft28:=ft27Ok.add (by kernel_rfl) Try.func56 (by kernel_rfl) (by kernel_rfl)
noncomputable def ft29:Tr FI:=ft28.put 57 (some (ofFunc Try.f57))
theorem ft29Ok:FTok Try.prog ft29:=ft28Ok.add (by kernel_rfl) Try.func57 (by kernel_rfl) (by kernel_rfl)
noncomputable def ft30:Tr FI:=ft29.put 58 (some (ofFunc Try.f58))
theorem ft30Ok:FTok Try.prog ft30:=ft29Ok.add (by kernel_rfl) Try.func58 (by kernel_rfl) (by kernel_rfl)
noncomputable def ft31:Tr FI:=ft30.put 59 (some (ofFunc Try.f59))
theorem ft31Ok:FTok Try.prog ft31:=ft30Ok.add (by kernel_rfl) Try.func59 (by kernel_rfl) (by kernel_rfl)
noncomputable def ft32:Tr FI:=ft31.put 60 (some (ofFunc Try.f60))
theorem ft32Ok:FTok Try.prog ft32:=ft31Ok.add (by kernel_rfl) Try.func60 (by kernel_rfl) (by kernel_rfl)
noncomputable def ft33:Tr FI:=ft32.put 61 (some (ofFunc Try.f61))
theorem ft33Ok:FTok Try.prog ft33:=ft32Ok.add (by kernel_rfl) Try.func61 (by kernel_rfl) (by kernel_rfl)
noncomputable def ft34:Tr FI:=ft33.put 62 (some (ofFunc Try.f62))
theorem ft34Ok:FTok Try.prog ft34:=ft33Ok.add (by kernel_rfl) Try.func62 (by kernel_rfl) (by kernel_rfl)
noncomputable def ft35:Tr FI:=ft34.put 63 (some (ofFunc Try.f63))
theorem ft35Ok:FTok Try.prog ft35:=ft34Ok.add (by kernel_rfl) Try.func63 (by kernel_rfl) (by kernel_rfl)
noncomputable def ft36:Tr FI:=ft35.put 64 (some (ofFunc Try.f64))
theorem ft36Ok:FTok Try.prog ft36:=ft35Ok.add (by kernel_rfl) Try.func64 (by kernel_rfl) (by kernel_rfl)
noncomputable def ft37:Tr FI:=ft36.put 65 (some (ofFunc Try.f65))
theorem ft37Ok:FTok Try.prog ft37:=ft36Ok.add (by kernel_rfl) Try.func65 (by kernel_rfl) (by kernel_rfl)
noncomputable def ft38:Tr FI:=ft37.put 66 (some (ofFunc Try.f66))
theorem ft38Ok:FTok Try.prog ft38:=ft37Ok.add (by kernel_rfl) Try.func66 (by kernel_rfl) (by kernel_rfl)
noncomputable def ft39:Tr FI:=ft38.put 67 (some (ofFunc Try.f67))
theorem ft39Ok:FTok Try.prog ft39:=ft38Ok.add (by kernel_rfl) Try.func67 (by kernel_rfl) (by kernel_rfl)
noncomputable def ft40:Tr FI:=ft39.put 68 (some (ofFunc Try.f68))
theorem ft40Ok:FTok Try.prog ft40:=ft39Ok.add (by kernel_rfl) Try.func68 (by kernel_rfl) (by kernel_rfl)
noncomputable def ft41:Tr FI:=ft40.put 69 (some (ofFunc Try.f69))
theorem ft41Ok:FTok Try.prog ft41:=ft40Ok.add (by kernel_rfl) Try.func69 (by kernel_rfl) (by kernel_rfl)
noncomputable def ft42:Tr FI:=ft41.put 70 (some (ofFunc Try.f70))
theorem ft42Ok:FTok Try.prog ft42:=ft41Ok.add (by kernel_rfl) Try.func70 (by kernel_rfl) (by kernel_rfl)
noncomputable def ft43:Tr FI:=ft42.put 71 (some (ofFunc Try.f71))
theorem ft43Ok:FTok Try.prog ft43:=ft42Ok.add (by kernel_rfl) Try.func71 (by kernel_rfl) (by kernel_rfl)
noncomputable def ft44:Tr FI:=ft43.put 72 (some (ofFunc Try.f72))
theorem ft44Ok:FTok Try.prog ft44:=ft43Ok.add (by kernel_rfl) Try.func72 (by kernel_rfl) (by kernel_rfl)
noncomputable def ft45:Tr FI:=ft44.put 73 (some (ofFunc Try.f73))
theorem ft45Ok:FTok Try.prog ft45:=ft44Ok.add (by kernel_rfl) Try.func73 (by kernel_rfl) (by kernel_rfl)
noncomputable def ft46:Tr FI:=ft45.put 74 (some (ofFunc Try.f74))
theorem ft46Ok:FTok Try.prog ft46:=ft45Ok.add (by kernel_rfl) Try.func74 (by kernel_rfl) (by kernel_rfl)
noncomputable def ft47:Tr FI:=ft46.put 75 (some (ofFunc Try.f75))
theorem ft47Ok:FTok Try.prog ft47:=ft46Ok.add (by kernel_rfl) Try.func75 (by kernel_rfl) (by kernel_rfl)
noncomputable def ft48:Tr FI:=ft47.put 76 (some (ofFunc Try.f76))
theorem ft48Ok:FTok Try.prog ft48:=ft47Ok.add (by kernel_rfl) Try.func76 (by kernel_rfl) (by kernel_rfl)
noncomputable def ft49:Tr FI:=ft48.put 77 (some (ofFunc Try.f77))
theorem ft49Ok:FTok Try.prog ft49:=ft48Ok.add (by kernel_rfl) Try.func77 (by kernel_rfl) (by kernel_rfl)
noncomputable def ft50:Tr FI:=ft49.put 78 (some (ofFunc Try.f78))
theorem ft50Ok:FTok Try.prog ft50:=ft49Ok.add (by kernel_rfl) Try.func78 (by kernel_rfl) (by kernel_rfl)
noncomputable def ft51:Tr FI:=ft50.put 79 (some (ofFunc Try.f79))
theorem ft51Ok:FTok Try.prog ft51:=ft50Ok.add (by kernel_rfl) Try.func79 (by kernel_rfl) (by kernel_rfl)
noncomputable def ft52:Tr FI:=ft51.put 82 (some (ofFunc Try.f82))
theorem ft52Ok:FTok Try.prog ft52:=ft51Ok.add (by kernel_rfl) Try.func82 (by kernel_rfl) (by kernel_rfl)
noncomputable def ft53:Tr FI:=ft52.put 90 (some (ofFunc Try.f90))
theorem ft53Ok:FTok Try.prog ft53:=ft52Ok.add (by kernel_rfl) Try.func90 (by kernel_rfl) (by kernel_rfl)
noncomputable def ft54:Tr FI:=ft53.put 91 (some (ofFunc Try.f91))
theorem ft54Ok:FTok Try.prog ft54:=ft53Ok.add (by kernel_rfl) Try.func91 (by kernel_rfl) (by kernel_rfl)
noncomputable def ft55:Tr FI:=ft54.put 92 (some (ofFunc Try.f92))
theorem ft55Ok:FTok Try.prog ft55:=ft54Ok.add (by kernel_rfl) Try.func92 (by kernel_rfl) (by kernel_rfl)
noncomputable def ft56:Tr FI:=ft55.put 93 (some (ofFunc Try.f93))
theorem ft56Ok:FTok Try.prog ft56:=ft55Ok.add (by kernel_rfl) Try.func93 (by kernel_rfl) (by kernel_rfl)
noncomputable def ft57:Tr FI:=ft56.put 94 (some (ofFunc Try.f94))
theorem ft57Ok:FTok Try.prog ft57:=ft56Ok.add (by kernel_rfl) Try.func94 (by kernel_rfl) (by kernel_rfl)
noncomputable def ft58:Tr FI:=ft57.put 95 (some (ofFunc Try.f95))
theorem ft58Ok:FTok Try.prog ft58:=ft57Ok.add (by kernel_rfl) Try.func95 (by kernel_rfl) (by kernel_rfl)
noncomputable def ft59:Tr FI:=ft58.put 96 (some (ofFunc Try.f96))
theorem ft59Ok:FTok Try.prog ft59:=ft58Ok.add (by kernel_rfl) Try.func96 (by kernel_rfl) (by kernel_rfl)
noncomputable def ft60:Tr FI:=ft59.put 97 (some (ofFunc Try.f97))
theorem ft60Ok:FTok Try.prog ft60:=ft59Ok.add (by kernel_rfl) Try.func97 (by kernel_rfl) (by kernel_rfl)
noncomputable def ft61:Tr FI:=ft60.put 98 (some (ofFunc Try.f98))
theorem ft61Ok:FTok Try.prog ft61:=ft60Ok.add (by kernel_rfl) Try.func98 (by kernel_rfl) (by kernel_rfl)
noncomputable def ft62:Tr FI:=ft61.put 99 (some (ofFunc Try.f99))
theorem ft62Ok:FTok Try.prog ft62:=ft61Ok.add (by kernel_rfl) Try.func99 (by kernel_rfl) (by kernel_rfl)
noncomputable def ft63:Tr FI:=ft62.put 100 (some (ofFunc Try.f100))
theorem ft63Ok:FTok Try.prog ft63:=ft62Ok.add (by kernel_rfl) Try.func100 (by kernel_rfl) (by kernel_rfl)
noncomputable def ft64:Tr FI:=ft63.put 103 (some (ofFunc Try.f103))
theorem ft64Ok:FTok Try.prog ft64:=ft63Ok.add (by kernel_rfl) Try.func103 (by kernel_rfl) (by kernel_rfl)
noncomputable def ft65:Tr FI:=ft64.put 109 (some (ofFunc Try.f109))
theorem ft65Ok:FTok Try.prog ft65:=ft64Ok.add (by kernel_rfl) Try.func109 (by kernel_rfl) (by kernel_rfl)
noncomputable def ft66:Tr FI:=ft65.put 110 (some (ofFunc Try.f110))
theorem ft66Ok:FTok Try.prog ft66:=ft65Ok.add (by kernel_rfl) Try.func110 (by kernel_rfl) (by kernel_rfl)
noncomputable def ft67:Tr FI:=ft66.put 111 (some (ofFunc Try.f111))
theorem ft67Ok:FTok Try.prog ft67:=ft66Ok.add (by kernel_rfl) Try.func111 (by kernel_rfl) (by kernel_rfl)
noncomputable def ft68:Tr FI:=ft67.put 112 (some (ofFunc Try.f112))
theorem ft68Ok:FTok Try.prog ft68:=ft67Ok.add (by kernel_rfl) Try.func112 (by kernel_rfl) (by kernel_rfl)
noncomputable def ft69:Tr FI:=ft68.put 113 (some (ofFunc Try.f113))
theorem ft69Ok:FTok Try.prog ft69:=ft68Ok.add (by kernel_rfl) Try.func113 (by kernel_rfl) (by kernel_rfl)
noncomputable def ft70:Tr FI:=ft69.put 114 (some (ofFunc Try.f114))
theorem ft70Ok:FTok Try.prog ft70:=ft69Ok.add (by kernel_rfl) Try.func114 (by kernel_rfl) (by kernel_rfl)
noncomputable def ft71:Tr FI:=ft70.put 115 (some (ofFunc Try.f115))
theorem ft71Ok:FTok Try.prog ft71:=ft70Ok.add (by kernel_rfl) Try.func115 (by kernel_rfl) (by kernel_rfl)
noncomputable def ft72:Tr FI:=ft71.put 116 (some (ofFunc Try.f116))
theorem ft72Ok:FTok Try.prog ft72:=ft71Ok.add (by kernel_rfl) Try.func116 (by kernel_rfl) (by kernel_rfl)
noncomputable def ft73:Tr FI:=ft72.put 117 (some (ofFunc Try.f117))
theorem ft73Ok:FTok Try.prog ft73:=ft72Ok.add (by kernel_rfl) Try.func117 (by kernel_rfl) (by kernel_rfl)
noncomputable def ft74:Tr FI:=ft73.put 118 (some (ofFunc Try.f118))
theorem ft74Ok:FTok Try.prog ft74:=ft73Ok.add (by kernel_rfl) Try.func118 (by kernel_rfl) (by kernel_rfl)
noncomputable def ft75:Tr FI:=ft74.put 119 (some (ofFunc Try.f119))
theorem ft75Ok:FTok Try.prog ft75:=ft74Ok.add (by kernel_rfl) Try.func119 (by kernel_rfl) (by kernel_rfl)
noncomputable def ft76:Tr FI:=ft75.put 120 (some (ofFunc Try.f120))
theorem ft76Ok:FTok Try.prog ft76:=ft75Ok.add (by kernel_rfl) Try.func120 (by kernel_rfl) (by kernel_rfl)
noncomputable def ft77:Tr FI:=ft76.put 121 (some (ofFunc Try.f121))
theorem ft77Ok:FTok Try.prog ft77:=ft76Ok.add (by kernel_rfl) Try.func121 (by kernel_rfl) (by kernel_rfl)
noncomputable def ft78:Tr FI:=ft77.put 122 (some (ofFunc Try.f122))
theorem ft78Ok:FTok Try.prog ft78:=ft77Ok.add (by kernel_rfl) Try.func122 (by kernel_rfl) (by kernel_rfl)
noncomputable def ft79:Tr FI:=ft78.put 124 (some (ofFunc Try.f124))
theorem ft79Ok:FTok Try.prog ft79:=ft78Ok.add (by kernel_rfl) Try.func124 (by kernel_rfl) (by kernel_rfl)
noncomputable def ft80:Tr FI:=ft79.put 125 (some (ofFunc Try.f125))
theorem ft80Ok:FTok Try.prog ft80:=ft79Ok.add (by kernel_rfl) Try.func125 (by kernel_rfl) (by kernel_rfl)
noncomputable def ft81:Tr FI:=ft80.put 126 (some (ofFunc Try.f126))
theorem ft81Ok:FTok Try.prog ft81:=ft80Ok.add (by kernel_rfl) Try.func126 (by kernel_rfl) (by kernel_rfl)
noncomputable def ft82:Tr FI:=ft81.put 127 (some (ofFunc Try.f127))
theorem ft82Ok:FTok Try.prog ft82:=ft81Ok.add (by kernel_rfl) Try.func127 (by kernel_rfl) (by kernel_rfl)
noncomputable def ft83:Tr FI:=ft82.put 128 (some (ofFunc Try.f128))
theorem ft83Ok:FTok Try.prog ft83:=ft82Ok.add (by kernel_rfl) Try.func128 (by kernel_rfl) (by kernel_rfl)
noncomputable def ft84:Tr FI:=ft83.put 129 (some (ofFunc Try.f129))
theorem ft84Ok:FTok Try.prog ft84:=ft83Ok.add (by kernel_rfl) Try.func129 (by kernel_rfl) (by kernel_rfl)
noncomputable def ft85:Tr FI:=ft84.put 130 (some (ofFunc Try.f130))
theorem ft85Ok:FTok Try.prog ft85:=ft84Ok.add (by kernel_rfl) Try.func130 (by kernel_rfl) (by kernel_rfl)
noncomputable def ft86:Tr FI:=ft85.put 131 (some (ofFunc Try.f131))
theorem ft86Ok:FTok Try.prog ft86:=ft85Ok.add (by kernel_rfl) Try.func131 (by kernel_rfl) (by kernel_rfl)
noncomputable def ft87:Tr FI:=ft86.put 132 (some (ofFunc Try.f132))
theorem ft87Ok:FTok Try.prog ft87:=ft86Ok.add (by kernel_rfl) Try.func132 (by kernel_rfl) (by kernel_rfl)
noncomputable def ft88:Tr FI:=ft87.put 134 (some (ofFunc Try.f134))
theorem ft88Ok:FTok Try.prog ft88:=ft87Ok.add (by kernel_rfl) Try.func134 (by kernel_rfl) (by kernel_rfl)
noncomputable def ft89:Tr FI:=ft88.put 135 (some (ofFunc Try.f135))
theorem ft89Ok:FTok Try.prog ft89:=ft88Ok.add (by kernel_rfl) Try.func135 (by kernel_rfl) (by kernel_rfl)
noncomputable def ft90:Tr FI:=ft89.put 136 (some (ofFunc Try.f136))
theorem ft90Ok:FTok Try.prog ft90:=ft89Ok.add (by kernel_rfl) Try.func136 (by kernel_rfl) (by kernel_rfl)
noncomputable def ft91:Tr FI:=ft90.put 137 (some (ofFunc Try.f137))
theorem ft91Ok:FTok Try.prog ft91:=ft90Ok.add (by kernel_rfl) Try.func137 (by kernel_rfl) (by kernel_rfl)
noncomputable def ft92:Tr FI:=ft91.put 138 (some (ofFunc Try.f138))
theorem ft92Ok:FTok Try.prog ft92:=ft91Ok.add (by kernel_rfl) Try.func138 (by kernel_rfl) (by kernel_rfl)
noncomputable def ft93:Tr FI:=ft92.put 139 (some (ofFunc Try.f139))
theorem ft93Ok:FTok Try.prog ft93:=ft92Ok.add (by kernel_rfl) Try.func139 (by kernel_rfl) (by kernel_rfl)
noncomputable def ft94:Tr FI:=ft93.put 141 (some (ofFunc Try.f141))
theorem ft94Ok:FTok Try.prog ft94:=ft93Ok.add (by kernel_rfl) Try.func141 (by kernel_rfl) (by kernel_rfl)
noncomputable def ft95:Tr FI:=ft94.put 142 (some (ofFunc Try.f142))
theorem ft95Ok:FTok Try.prog ft95:=ft94Ok.add (by kernel_rfl) Try.func142 (by kernel_rfl) (by kernel_rfl)
noncomputable def ft96:Tr FI:=ft95.put 143 (some (ofFunc Try.f143))
theorem ft96Ok:FTok Try.prog ft96:=ft95Ok.add (by kernel_rfl) Try.func143 (by kernel_rfl) (by kernel_rfl)
noncomputable def ft97:Tr FI:=ft96.put 144 (some (ofFunc Try.f144))
theorem ft97Ok:FTok Try.prog ft97:=ft96Ok.add (by kernel_rfl) Try.func144 (by kernel_rfl) (by kernel_rfl)
noncomputable def ft98:Tr FI:=ft97.put 145 (some (ofFunc Try.f145))
theorem ft98Ok:FTok Try.prog ft98:=ft97Ok.add (by kernel_rfl) Try.func145 (by kernel_rfl) (by kernel_rfl)
noncomputable def ft99:Tr FI:=ft98.put 146 (some (ofFunc Try.f146))
theorem ft99Ok:FTok Try.prog ft99:=ft98Ok.add (by kernel_rfl) Try.func146 (by kernel_rfl) (by kernel_rfl)
noncomputable def ft:Tr FI:=(.node none (.node none (.node none (.node none (.node none (.node none (.node none (.node none .nil (.node (some (ofFunc Try.f128)) .nil .nil)) (.node (some (ofFunc Try.f64)) .nil .nil)) (.node (some (ofFunc Try.f32)) .nil (.node (some (ofFunc Try.f96)) .nil .nil))) (.node (some (ofFunc Try.f16)) (.node none (.node none .nil (.node (some (ofFunc Try.f144)) .nil .nil)) .nil) (.node none .nil (.node (some (ofFunc Try.f112)) .nil .nil)))) (.node none (.node none (.node none (.node none .nil (.node (some (ofFunc Try.f136)) .nil .nil)) (.node (some (ofFunc Try.f72)) .nil .nil)) .nil) (.node (some (ofFunc Try.f24)) .nil (.node (some (ofFunc Try.f56)) .nil (.node (some (ofFunc Try.f120)) .nil .nil))))) (.node (some (ofFunc Try.f4)) (.node none (.node none (.node none (.node none .nil (.node (some (ofFunc Try.f132)) .nil .nil)) (.node (some (ofFunc Try.f68)) .nil .nil)) (.node (some (ofFunc Try.f36)) .nil (.node (some (ofFunc Try.f100)) .nil .nil))) (.node (some (ofFunc Try.f20)) .nil (.node (some (ofFunc Try.f52)) .nil (.node (some (ofFunc Try.f116)) .nil .nil)))) (.node none (.node none (.node none .nil (.node (some (ofFunc Try.f76)) .nil .nil)) .nil) (.node (some (ofFunc Try.f28)) (.node none .nil (.node (some (ofFunc Try.f92)) .nil .nil)) (.node (some (ofFunc Try.f60)) .nil (.node (some (ofFunc Try.f124)) .nil .nil)))))) (.node none (.node none (.node none (.node none (.node none (.node none .nil (.node (some (ofFunc Try.f130)) .nil .nil)) (.node (some (ofFunc Try.f66)) .nil .nil)) (.node (some (ofFunc Try.f34)) .nil (.node (some (ofFunc Try.f98)) .nil .nil))) (.node (some (ofFunc Try.f18)) (.node none (.node none .nil (.node (some (ofFunc Try.f146)) .nil .nil)) (.node (some (ofFunc Try.f82)) .nil .nil)) (.node none .nil (.node (some (ofFunc Try.f114)) .nil .nil)))) (.node (some (ofFunc Try.f10)) (.node none (.node none (.node none .nil (.node (some (ofFunc Try.f138)) .nil .nil)) (.node (some (ofFunc Try.f74)) .nil .nil)) .nil) (.node (some (ofFunc Try.f26)) (.node none .nil (.node (some (ofFunc Try.f90)) .nil .nil)) (.node (some (ofFunc Try.f58)) .nil (.node (some (ofFunc Try.f122)) .nil .nil))))) (.node (some (ofFunc Try.f6)) (.node none (.node none (.node none (.node none .nil (.node (some (ofFunc Try.f134)) .nil .nil)) (.node (some (ofFunc Try.f70)) .nil .nil)) .nil) (.node (some (ofFunc Try.f22)) .nil (.node none .nil (.node (some (ofFunc Try.f118)) .nil .nil)))) (.node none (.node none (.node none (.node none .nil (.node (some (ofFunc Try.f142)) .nil .nil)) (.node (some (ofFunc Try.f78)) .nil .nil)) (.node none .nil (.node (some (ofFunc Try.f110)) .nil .nil))) (.node (some (ofFunc Try.f30)) (.node none .nil (.node (some (ofFunc Try.f94)) .nil .nil)) (.node (some (ofFunc Try.f62)) .nil (.node (some (ofFunc Try.f126)) .nil .nil))))))) (.node none (.node none (.node none (.node none (.node none (.node none (.node none .nil (.node (some (ofFunc Try.f129)) .nil .nil)) (.node (some (ofFunc Try.f65)) .nil .nil)) (.node (some (ofFunc Try.f33)) .nil (.node (some (ofFunc Try.f97)) .nil .nil))) (.node none (.node none (.node none .nil (.node (some (ofFunc Try.f145)) .nil .nil)) .nil) (.node none .nil (.node (some (ofFunc Try.f113)) .nil .nil)))) (.node (some (ofFunc Try.f9)) (.node none (.node none (.node none .nil (.node (some (ofFunc Try.f137)) .nil .nil)) (.node (some (ofFunc Try.f73)) .nil .nil)) .nil) (.node (some (ofFunc Try.f25)) .nil (.node (some (ofFunc Try.f57)) .nil (.node (some (ofFunc Try.f121)) .nil .nil))))) (.node (some (ofFunc Try.f5)) (.node none (.node none (.node none .nil (.node (some (ofFunc Try.f69)) .nil .nil)) .nil) (.node (some (ofFunc Try.f21)) .nil (.node none .nil (.node (some (ofFunc Try.f117)) .nil .nil)))) (.node none (.node none (.node none (.node none .nil (.node (some (ofFunc Try.f141)) .nil .nil)) (.node (some (ofFunc Try.f77)) .nil .nil)) (.node none .nil (.node (some (ofFunc Try.f109)) .nil .nil))) (.node (some (ofFunc Try.f29)) (.node none .nil (.node (some (ofFunc Try.f93)) .nil .nil)) (.node (some (ofFunc Try.f61)) .nil (.node (some (ofFunc Try.f125)) .nil .nil)))))) (.node none (.node none (.node none (.node none (.node none (.node none .nil (.node (some (ofFunc Try.f131)) .nil .nil)) (.node (some (ofFunc Try.f67)) .nil .nil)) (.node (some (ofFunc Try.f35)) .nil (.node (some (ofFunc Try.f99)) .nil .nil))) (.node (some (ofFunc Try.f19)) .nil (.node none .nil (.node (some (ofFunc Try.f115)) .nil .nil)))) (.node none (.node none (.node none (.node none .nil (.node (some (ofFunc Try.f139)) .nil .nil)) (.node (some (ofFunc Try.f75)) .nil .nil)) .nil) (.node (some (ofFunc Try.f27)) (.node none .nil (.node (some (ofFunc Try.f91)) .nil .nil)) (.node (some (ofFunc Try.f59)) .nil .nil)))) (.node (some (ofFunc Try.f7)) (.node none (.node none (.node none (.node none .nil (.node (some (ofFunc Try.f135)) .nil .nil)) (.node (some (ofFunc Try.f71)) .nil .nil)) (.node none .nil (.node (some (ofFunc Try.f103)) .nil .nil))) (.node (some (ofFunc Try.f23)) .nil (.node none .nil (.node (some (ofFunc Try.f119)) .nil .nil)))) (.node none (.node none (.node none (.node none .nil (.node (some (ofFunc Try.f143)) .nil .nil)) (.node (some (ofFunc Try.f79)) .nil .nil)) (.node none .nil (.node (some (ofFunc Try.f111)) .nil .nil))) (.node (some (ofFunc Try.f31)) (.node none .nil (.node (some (ofFunc Try.f95)) .nil .nil)) (.node (some (ofFunc Try.f63)) .nil (.node (some (ofFunc Try.f127)) .nil .nil))))))))
theorem ftOk:FTok Try.prog ft:=(show ft99=ft by kernel_rfl) ▸ ft99Ok
section
noncomputable def dr4:=drD Try.prog ft 16 4
noncomputable def sub4:Sub:=exSub (fun f=>exStep Try.prog ft f (drD Try.prog ft 16 3)) ft 16
theorem mix:Try.prog.follows .mixedOrders=true:=by kernel_rfl
theorem dr4Ok:DrOk Try.prog dr4:=zqe mix ftOk 16 4
theorem sub4Ok:LoudOk Try.prog sub4:=loudOk ftOk (fun fid cs w0 γ s m hM=>zc7 ftOk (zqe mix ftOk 16 3) hM) 16
theorem bc_t {α:Type} (x y:α):bc true x y=x:=rfl
theorem bc_f {α:Type} (x y:α):bc false x y=y:=rfl
theorem nn_ok (b:Bool):bc b true (bc b false true)=true:=by cases b <;> rfl
theorem dt {p:Prop} [Decidable p] (h:p):decide p=true:=decide_eq_true h
theorem df {p:Prop} [Decidable p] (h:¬ p):decide p=false:=decide_eq_false h
theorem bltD {a b:Nat} (h:a<b):Nat.blt a b=true:=by unfold Nat.blt;exact Nat.ble_eq_true_of_le h
theorem bltN {a b:Nat} (h:¬ a<b):Nat.blt a b=false:=by
 cases e:Nat.blt a b with
 | false=>rfl
 | true=>exact absurd (zad e) h
theorem zjm {a b:Nat} (h:a≤b):Nat.ble a b=true:=Nat.ble_eq_true_of_le h
theorem bleN {a b:Nat} (h:¬ a≤b):Nat.ble a b=false:=by
 cases e:Nat.ble a b with
 | false=>rfl
 | true=>exact absurd (Nat.le_of_ble_eq_true e) h
theorem beqD {a b:Nat} (h:a=b):Nat.beq a b=true:=by subst h;exact Nat.beq_refl a
theorem ofn (n:Nat):Int.ofNat n=(n:Int):=rfl
theorem za1 (i:Nat):Int.toNat (i:Int)=i:=Int.toNat_natCast i
theorem zao (x:Int) (h1:-4611686018427387904≤x) (h2:x<4611686018427387904):IntKind.i64.wrap x=x:=IntWalk.i64_in _ (by omega)
theorem zaf {α:Type} {l:List α} {d:α} {i:Nat} (h:i<l.length):l.getD i d=l[i]:=by rw [List.getD_eq_getElem?_getD,List.getElem?_eq_getElem h];rfl
noncomputable def ent (f:FuncId) (args:List EV):EF:=Option.rec ⟨f,0,.nil,[],[],none,false⟩ (fun e=>e) (exEnter ft f args)
noncomputable def st0 (f:FuncId) (args:List EV):ES:=⟨ent f args,[],.nil,0⟩
noncomputable abbrev iv (n:Int):EV:=.v (.int .i64 n)
noncomputable abbrev bv (b:Bool):EV:=.v (.bool b)
noncomputable abbrev sv (s:ByteArray):EV:=.v (.string s)
noncomputable abbrev il (l:List Int):EV:=.lst (.ints .i64 l)
noncomputable def RZs (f:FuncId) (ct:Tr ZCC) (ps:PLs) (lk:List Nat) (own:Bool) (s:ES):ZF:=runZ (stepZ Try.prog ft f dr4 sub4 ct) (atPs ps) (endP lk ps own) 600 s
noncomputable abbrev RZ (f:FuncId) (ct:Tr ZCC) (p:ES→Bool) (lk:List Nat) (ls:List SZ) (own:Bool) (s:ES):ZF:=RZs f ct [(p,ls)] lk own s
theorem leadsZ {f:FuncId} {ct:Tr ZCC} (hct:ZCtsOk Try.prog ct) {ps:PLs} {lk:List Nat} {own:Bool} {s:ES} {r:NS} (h:RZs f ct ps lk own s = .at r):LeadsZ Try.prog s (stOf r):=
 leadsF (f:=f) mix ftOk dr4Ok sub4Ok hct zqb h
theorem callsZ {γ:G} {w:World} {f:FuncId} {ct:Tr ZCC} (hct:ZCtsOk Try.prog ct) {ps:PLs} {lk:List Nat} {own:Bool} {s:ES} {args:List EV} {us:Array Value} {a:EV} {K:List (Nat×EK)} {n':Nat} (he:(exEnter ft f args).isSome=true) (hargs:ECL γ args us.toList) (hN:∀ i,γ i=none) (hfz:FzAt γ w)
  (hl:LeadsZ Try.prog (st0 f args) s) (hd:RZs f ct ps lk own s = .done a K n') :
  Calls Try.prog f us w fun e w'=>∃ γ' x,e = .returned x∧EC γ' a x∧HR γ' (Bs.ofG w γ) (mkT K) n' w':=by
 obtain ⟨e,he⟩:=Option.isSome_iff_exists.1 he;have:ent f args=e:=by unfold ent;rw [he]
 unfold st0 at hl;rw [this] at hl;exact callsF mix ftOk dr4Ok sub4Ok hct zqb he hargs hN hfz hl hd
def Weak (a a':EV):Prop:=∀ γ x,EC γ a x→EC γ a' x
theorem Weak.refl (a:EV):Weak a a:=fun _ _ h=>h
theorem Weak.nil (sh:List Sh):Weak (.v (.slice none 0 0)) (.lst (.recs sh [])):=fun γ x h=>by
 rw [ec_v h];exact .lst _ _ (.empty _ _ none 0 rfl (Nat.zero_le _) fun _=>rfl)
theorem Weak.nilI (k:IntKind):Weak (.v (.slice none 0 0)) (.lst (.ints k [])):=fun γ x h=>by
 rw [ec_v h];exact .lst _ _ (.empty _ _ none 0 rfl (Nat.zero_le _) fun _=>rfl)
inductive WeakL:List EV→List EV→Prop
 | nil:WeakL [] []
 | cons {a b:EV} {l r:List EV} (h:Weak a b) (t:WeakL l r):WeakL (a::l) (b::r)
theorem WeakL.ok {γ:G}:∀ {l r:List EV} {vs:List Value},WeakL l r→ECL γ l vs→ECL γ r vs
 | _,_,vs,.nil,h=>h
 | _,_,vs,.cons h t,k=>by
  obtain ⟨x,ys,rfl,h1,h2⟩:=ECL.inv k;exact ECL.cons (h _ _ h1) (t.ok h2)
theorem Weak.tup {l r:List EV} (h:WeakL l r):Weak (.tup l) (.tup r):=fun γ x k=>by
 cases k with
 | tup _ vs h1 h2=>have:=h.ok (γ:=γ) ⟨h1,h2⟩;exact .tup _ vs this.1 this.2
theorem Weak.trans {a b c:EV} (h:Weak a b) (k:Weak b c):Weak a c:=fun γ x e=>k γ x (h γ x e)
def EndZ (f:FuncId) (ct:Tr ZCC) (own:Bool) (s:ES) (a:EV) (K:List (Nat×EK)) (n:Nat):Prop:=∃ ps lk s' a',LeadsZ Try.prog s s'∧RZs f ct ps lk own s' = .done a' K n∧Weak a' a
theorem EndZ.done {f:FuncId} {ct:Tr ZCC} {own:Bool} {s:ES} {a:EV} {K:List (Nat×EK)} {n:Nat} {ps:PLs} {lk:List Nat} (h:RZs f ct ps lk own s = .done a K n):EndZ f ct own s a K n:=⟨ps,lk,s,a,LeadsZ.refl s,h,Weak.refl a⟩
theorem EndZ.weak {f:FuncId} {ct:Tr ZCC} {own:Bool} {s:ES} {a b:EV} {K:List (Nat×EK)} {n:Nat} (h:EndZ f ct own s a K n) (k:Weak a b):EndZ f ct own s b K n:=by
 obtain ⟨ps,lk,t,a',h1,h2,h3⟩:=h;exact ⟨ps,lk,t,a',h1,h2,h3.trans k⟩
theorem EndZ.lead {f:FuncId} {ct:Tr ZCC} {own:Bool} {s s':ES} {a:EV} {K:List (Nat×EK)} {n:Nat} (h:LeadsZ Try.prog s s') (k:EndZ f ct own s' a K n):EndZ f ct own s a K n:=by
 obtain ⟨ps,lk,t,a',h1,h2,h3⟩:=k;exact ⟨ps,lk,t,a',h.trans h1,h2,h3⟩
theorem EndZ.at {f:FuncId} {ct:Tr ZCC} (hct:ZCtsOk Try.prog ct) {own own':Bool} {s:ES} {r:NS} {a:EV} {K:List (Nat×EK)} {n:Nat} {ps:PLs} {lk:List Nat} (h:RZs f ct ps lk own' s = .at r) (k:EndZ f ct own (stOf r) a K n):EndZ f ct own s a K n:=k.lead (leadsZ hct h)
theorem EndZ.calls {γ:G} {w:World} {f:FuncId} {ct:Tr ZCC} {own:Bool} {args:List EV} {a:EV} {K:List (Nat×EK)} {n':Nat} (h:EndZ f ct own (st0 f args) a K n') (hct:ZCtsOk Try.prog ct) {us:Array Value} (he:(exEnter ft f args).isSome=true) (hargs:ECL γ args us.toList) (hN:∀ i,γ i=none) (hfz:FzAt γ w) :
  Calls Try.prog f us w fun e w'=>∃ γ' x,e = .returned x∧EC γ' a x∧HR γ' (Bs.ofG w γ) (mkT K) n' w':=by
 obtain ⟨ps,lk,t,a',h1,h2,h3⟩:=h;refine (callsZ hct he hargs hN hfz h1 h2).mono fun e w' ⟨γ',x,k1,k2,k3⟩=>⟨γ',x,k1,h3 γ' x k2,k3⟩
noncomputable def st0m (f:FuncId) (args:List EV) (K0:List (Nat×EK)) (m:Nat):ES:=⟨ent f args,[],mkT K0,m⟩
noncomputable def RMs (k:Nat) (f:FuncId) (ct:Tr ZCC) (ps:PLs) (lk:List Nat) (nl:NLs) (s:ES):ZF:=runZ (stepZ Try.prog ft f dr4 sub4 ct) (atPs ps) (endM k lk ps nl) 600 s
theorem leadsMZ {k:Nat} {f:FuncId} {ct:Tr ZCC} (hct:ZCtsOk Try.prog ct) {ps:PLs} {lk:List Nat} {s:ES} {r:NS} {nl:NLs} (h:RMs k f ct ps lk nl s = .at r):LeadsM Try.prog k s (stOf r):=
 leadsM (f:=f) mix ftOk dr4Ok sub4Ok hct h
def EndM (k:Nat) (f:FuncId) (ct:Tr ZCC) (s:ES) (a:EV) (K:List (Nat×EK)) (n:Nat):Prop:=∃ ps lk nl s',LeadsM Try.prog k s s'∧RMs k f ct ps lk nl s' = .done a K n
theorem EndM.done {k:Nat} {f:FuncId} {ct:Tr ZCC} {s:ES} {a:EV} {K:List (Nat×EK)} {n:Nat} {ps:PLs} {lk:List Nat} {nl:NLs} (h:RMs k f ct ps lk nl s = .done a K n):EndM k f ct s a K n:=⟨ps,lk,nl,s,LeadsM.refl k s,h⟩
theorem EndM.lead {k:Nat} {f:FuncId} {ct:Tr ZCC} {s s':ES} {a:EV} {K:List (Nat×EK)} {n:Nat} (h:LeadsM Try.prog k s s') (g:EndM k f ct s' a K n):EndM k f ct s a K n:=by
 obtain ⟨ps,lk,nl,t,h1,h2⟩:=g;exact ⟨ps,lk,nl,t,h.trans h1,h2⟩
theorem EndM.at {k:Nat} {f:FuncId} {ct:Tr ZCC} (hct:ZCtsOk Try.prog ct) {s:ES} {r:NS} {a:EV} {K:List (Nat×EK)} {n:Nat} {ps:PLs} {lk:List Nat} {nl:NLs} (h:RMs k f ct ps lk nl s = .at r) (g:EndM k f ct (stOf r) a K n):EndM k f ct s a K n:=g.lead (leadsMZ hct h)
theorem EndM.calls {k:Nat} {γ:G} {w0:Bs} {w:World} {f:FuncId} {ct:Tr ZCC} {args:List EV} {K0:List (Nat×EK)} {m0:Nat} {a:EV} {K:List (Nat×EK)} {n':Nat} (h:EndM k f ct (st0m f args K0 m0) a K n') (hct:ZCtsOk Try.prog ct) {us:Array Value} (he:(exEnter ft f args).isSome=true) (hres:∀ i,¬ w0.res i) (hargs:ECL γ args us.toList) (hH:HR γ w0 (mkT K0) m0 w) :
  Calls Try.prog f us w fun e w'=>∃ γ' x,e = .returned x∧EC γ' a x∧HR γ' w0 (mkT K) n' w'∧∀ j p,j<k→γ j=some p→γ' j=some p:=by
 obtain ⟨ps,lk,nl,t,h1,h2⟩:=h;obtain ⟨e,he⟩:=Option.isSome_iff_exists.1 he;have:ent f args=e:=by unfold ent;rw [he]
 unfold st0m at h1;rw [this] at h1;exact callsM mix ftOk dr4Ok sub4Ok hct he hres hargs hH h1 h2
theorem bc_b (b:Bool):bc b true false=b:=by cases b <;> rfl
theorem zqk {α:Type} (b:Bool) (x:α):bc b x x=x:=by cases b <;> rfl
noncomputable def ZMT.or (a b:ZMT):ZMT:=fun ax K m=>match a ax K m with
 | some r=>some r
 | none=>b ax K m
theorem ZMtOk.or {P:Program} {g:FuncId} {a b:ZMT} (ha:ZMtOk P g a) (hb:ZMtOk P g b):ZMtOk P g (a.or b):=fun γ w0 w us ax K0 m r hs=>by
 unfold ZMT.or at hs;split at hs
 ·rename_i r' hr;injection hs with hs;subst hs
  exact ha γ w0 w us ax K0 m _ hr
 ·exact hb γ w0 w us ax K0 m r hs
noncomputable def ZCT.or (a b:ZCT):ZCT:=fun ax=>match a ax with
 | some r=>some r
 | none=>b ax
theorem ZCtOk.or {P:Program} {g:FuncId} {a b:ZCT} (ha:ZCtOk P g a) (hb:ZCtOk P g b):ZCtOk P g (a.or b):=fun γ w us ax r hs=>by
 unfold ZCT.or at hs;split at hs
 ·rename_i r' hr;injection hs with hs;subst hs
  exact ha γ w us ax _ hr
 ·exact hb γ w us ax r hs
theorem noN {α:Type} {x r:α} {b:Bool} (h:bc b (some x) none=some r):b=true∧x=r:=by
 cases b
 ·cases h
 ·exact ⟨rfl,Option.some.inj h⟩
set_option linter.defProp false in
def yS:=And.intro @Nat.add_eq (And.intro @zf3 (And.intro @zl3 (And.intro @zqk (And.intro @List.length_cons.{0} (And.intro @ofn (And.intro @zao (And.intro @dt (And.intro @df (And.intro @bltD (And.intro @bltN (And.intro @zjm (And.intro @bleN (And.intro @beqD (And.intro @bc_t (And.intro @bc_f (And.intro @nn_ok (And.intro @Nat.zero_add (And.intro @za1 (And.intro @Int.zero_add (And.intro @Int.sub_zero (And.intro @Int.sub_self (And.intro @Int.cast_ofNat_Int (And.intro @Int.natCast_zero (And.intro @Int.toNat_zero (And.intro @List.take_zero.{0} (And.intro @List.nil_append.{0} (And.intro @List.length_append.{0} (@List.length_nil.{0}))))))))))))))))))))))))))))
end
theorem zww {P:Program} {f:FuncId} {γ:G} {w:World} {us:Array Value} {K:List (Nat×EK)} {n:Nat} (h:Calls P f us w fun e w'=>∃ γ' x,e = .returned x∧EC γ' (bv true) x∧HR γ' (Bs.ofG w γ) (mkT K) n w'):Calls P f us w fun e w'=>e = .returned (.bool true)∧Stays w w':=h.mono fun e w' ⟨γ',x,h1,h2,h3⟩=>⟨by rw [h1,ec_v h2],staysOf h3.stays⟩
noncomputable def shW:List Sh:=[.int .i64,.int .i64,.str]
noncomputable abbrev wl (l:List (List U)):EV:=.lst (.recs shW l)
noncomputable abbrev bLet:ByteArray:=ByteArray.mk #[67,84,76,82,80,99,116,108,114]
theorem bc_bc {α:Type} (a b c:Bool) (x y:α):bc (bc a b c) x y=bc a (bc b x y) (bc c x y):=by cases a <;> rfl
noncomputable def rK (r:List U):Int:=U.int (r.getD 0 (.i 0))
noncomputable def rA (r:List U):Int:=U.int (r.getD 1 (.i 0))
noncomputable def rW (r:List U):ByteArray:=U.str (r.getD 2 (.i 0))
theorem fK0 (r:List U):U.int (r.getD 0 (.i 0))=rK r:=rfl
theorem fA0 (r:List U):U.int (r.getD (Nat.succ 0) (.i 0))=rA r:=rfl
theorem fA1 (r:List U):U.int (r.getD (Nat.add 0 1) (.i 0))=rA r:=rfl
theorem fA2 (r:List U):U.int (r.getD 1 (.i 0))=rA r:=rfl
theorem fW0 (r:List U):U.str (r.getD (Nat.succ (Nat.succ 0)) (.i 0))=rW r:=rfl
theorem fW1 (r:List U):U.str (r.getD (Nat.add 0 2) (.i 0))=rW r:=rfl
theorem fW2 (r:List U):U.str (r.getD 2 (.i 0))=rW r:=rfl
theorem fK1 (r:List U):U.int (r.getD (Nat.add 0 0) (.i 0))=rK r:=rfl
noncomputable def idxB (s:ByteArray) (c:Int) (i:Nat):Nat→Int
 | 0=>-1
 | k+1=>bc (byteAt s i==c) (i:Int) (idxB s c (i+1) k)
noncomputable def idx (s:ByteArray) (c:Int):Int:=idxB s c 0 s.size
namespace RIdx
noncomputable def RUN (s:ES):ZF:=RZ 72 .nil (atS 0 72 2) [] [[(0,none),(1,none),(5,none)]] false s
noncomputable def sI (s:ByteArray) (c i:Int):NS:=⟨[⟨72,18,[(0,(EV.v (Value.string s))),(1,(EV.v (Value.int IntKind.u8 c))),(5,iv i)],[.it (.code (nav [1,0,1,0,0,0] (bodyOf Try.f72))),.it (.code (nav [1,0,1,0,0,1] (bodyOf Try.f72))),.it (.inLoop (nav [1,0,1,0,0] (bodyOf Try.f72))),.it (.inBlock 0),.it (.code (nav [1,1] (bodyOf Try.f72)))],[],Option.none⟩],[],0⟩
theorem in_t (s:ByteArray) (c:Int):RUN (st0 72 [sv s,.v (.int .u8 c)])=(.at (sI s c 0)):=by kernel_rfl
theorem step_t (s:ByteArray) (c i:Int):RUN (stOf (sI s c i))=(bc (decide (i<Int.ofNat (ByteArray.size s))) (bc (bc (bc (decide (0≤i)) (Nat.blt i.toNat (ByteArray.size s)) false) true false) (bc (byteAt s i.toNat==c) (.done (iv i) [] 0) (.at (sI s c (IntKind.i64.wrap (i+1))))) .bad) (.done (iv (-1)) [] 0)):=by kernel_rfl
theorem step {s:ByteArray} {c:Int} {i:Nat} (hi:i<s.size) (hs:s.size≤100000):RUN (stOf (sI s c i))=bc (byteAt s i==c) (.done (iv i) [] 0) (.at (sI s c (i+1:Nat))):=by
 rw [step_t];simp (disch:=omega) only [yS];rfl
theorem last {s:ByteArray} {c:Int} {i:Nat} (hi:s.size≤i):RUN (stOf (sI s c i)) = .done (iv (-1)) [] 0:=by
 rw [step_t];simp (disch:=omega) only [yS]
theorem loop {s:ByteArray} {c:Int} (hs:s.size≤100000):∀ (k i:Nat),i+k=s.size→EndZ 72 .nil false (stOf (sI s c i)) (iv (idxB s c i k)) [] 0
 | 0,i,h=>.done (last (by omega))
 | k+1,i,h=>by
  have:=step (c:=c) (show i<s.size by omega) hs;unfold idxB;cases hb:byteAt s i==c <;> rw [hb] at this
  ·exact .at (.nil _) this (loop hs k (i+1) (by omega))
  ·exact .done this
end RIdx
noncomputable def spIdx:ZCT:=fun ax=>match ax with
 | [.v (.string s),.v (.int .u8 c)]=>some ⟨decide (s.size≤100000),iv (idx s c),[],0⟩
 | _=>none
theorem zr2:ZCtOk Try.prog 72 spIdx:=fun γ w us ax r hs hc hax hN hfz=>by
 unfold spIdx at hs;split at hs
 case h_2=>cases hs
 rename_i s c;obtain ⟨rfl⟩:=Option.some.inj hs;have hc_0:decide (s.size≤100000)=true:=hc;have hc:=of_decide_eq_true hc_0;exact EndZ.calls (.at (.nil _) (RIdx.in_t s c) (RIdx.loop hc s.size 0 (by omega))) (.nil _) (by kernel_rfl) hax hN hfz
noncomputable def ctI:Tr ZCC:=Tr.nil.put 72 (some (dC spIdx))
theorem zl8:ZCtsOk Try.prog ctI:=(ZCtsOk.nil _).add rfl zr2
noncomputable def badF (w:ByteArray) (i:Nat):Nat→Bool
 | 0=>false
 | k+1=>bc (decide (idx bLet (byteAt w i)<0)) true (badF w (i+1) k)
noncomputable def chk3 (w:ByteArray):Int:=bc (decide (16<(w.size:Int))) 3 (bc (badF w 0 w.size) 6 0)
namespace RChk3
noncomputable def RUN (s:ES):ZF:=RZ 29 ctI (atS 0 29 4) [] [[(0,none),(3,none)]] false s
noncomputable def sC (s:ByteArray) (i:Int):NS:=⟨[⟨29,18,[(0,(EV.v (Value.string s))),(3,iv i)],[.it (.code (nav [1,1,0,1,0,0,0] (bodyOf Try.f29))),.it (.code (nav [1,1,0,1,0,0,1] (bodyOf Try.f29))),.it (.inLoop (nav [1,1,0,1,0,0] (bodyOf Try.f29))),.it (.inBlock 0),.it (.code (nav [1,1,1] (bodyOf Try.f29)))],[],Option.none⟩],[],0⟩
theorem in_t (s:ByteArray):RUN (st0 29 [sv s])=(bc (decide (16<Int.ofNat (ByteArray.size s))) (.done (iv (3)) [] 0) (.at (sC s 0))):=by kernel_rfl
theorem step_t (s:ByteArray) (i:Int):RUN (stOf (sC s i))=(bc (decide (i<Int.ofNat (ByteArray.size s))) (bc (bc (bc (decide (0≤i)) (Nat.blt i.toNat (ByteArray.size s)) false) true false) (bc (decide (idx { data:=#[(67:UInt8),(84:UInt8),(76:UInt8),(82:UInt8),(80:UInt8),(99:UInt8),(116:UInt8),(108:UInt8),(114:UInt8)] } (byteAt s i.toNat)<0)) (.done (iv (6)) [] 0) (.at (sC s (IntKind.i64.wrap (i+1))))) .bad) (.done (iv (0)) [] 0)):=by kernel_rfl
theorem step {s:ByteArray} {i:Nat} (hi:i<s.size) (hs:s.size≤1000):RUN (stOf (sC s i))=bc (decide (idx bLet (byteAt s i)<0)) (.done (iv 6) [] 0) (.at (sC s (i+1:Nat))):=by
 rw [step_t];simp (disch:=omega) only [yS];rfl
theorem last {s:ByteArray} {i:Nat} (hi:s.size≤i):RUN (stOf (sC s i)) = .done (iv 0) [] 0:=by
 rw [step_t];simp (disch:=omega) only [yS]
theorem loop {s:ByteArray} (hs:s.size≤1000):∀ (k i:Nat),i+k=s.size→EndZ 29 ctI false (stOf (sC s i)) (iv (bc (badF s i k) 6 0)) [] 0
 | 0,i,h=>.done (last (by omega))
 | k+1,i,h=>by
  have:=step (show i<s.size by omega) hs;unfold badF;cases hb:decide (idx bLet (byteAt s i)<0) <;> rw [hb] at this
  ·exact .at zl8 this (loop hs k (i+1) (by omega))
  ·exact .done this
theorem ends (s:ByteArray):EndZ 29 ctI false (st0 29 [sv s]) (iv (chk3 s)) [] 0:=by
 have h:=in_t s;unfold chk3
 by_cases h1:16<(s.size:Int)
 ·simp only [ofn,dt h1,bc_t] at h ⊢;exact .done h
 ·simp only [ofn,df h1,bc_f] at h ⊢;exact .at zl8 h (loop (by omega) s.size 0 (by omega))
end RChk3
noncomputable def spChk3:ZCT:=fun ax=>match ax with
 | [.v (.string s)]=>some ⟨decide True,iv (chk3 s),[],0⟩
 | _=>none
theorem zis:ZCtOk Try.prog 29 spChk3:=fun γ w us ax r hs hc hax hN hfz=>by
 unfold spChk3 at hs;split at hs
 case h_2=>cases hs
 rename_i s;obtain ⟨rfl⟩:=Option.some.inj hs;have hc_0:decide True=true:=hc;have hc:=of_decide_eq_true hc_0;exact EndZ.calls (RChk3.ends s) zl8 (by kernel_rfl) hax hN hfz
noncomputable def ctC:Tr ZCC:=ctI.put 29 (some (dC spChk3))
theorem ze4:ZCtsOk Try.prog ctC:=zl8.add rfl zis
noncomputable def longR (r:List U):Bool:=decide (16<((rW r).size:Int))
noncomputable def badR (n:Int) (r:List U):Bool:=bc (rK r != 1)
 (bc (rK r != 2) true (bc (decide (rA r<0)) true (bc (decide (n-2<rA r)) true (bc (rK r==2) (bc (!((rW r).toList==(ByteArray.mk #[]).toList)) true false) false))))
 (bc (decide (rA r<0)) true (bc (decide (n-2<rA r)) true (bc (rK r==2) (bc (!((rW r).toList==(ByteArray.mk #[]).toList)) true false) false)))
noncomputable def formR (r:List U):Bool:=chk3 (rW r) != 0
noncomputable def anyR (p:List U→Bool):List (List U)→Bool
 | []=>false
 | r::l=>bc (p r) true (anyR p l)
theorem zbw (p:List U→Bool) (r:List U) (l:List (List U)):anyR p (r::l)=bc (p r) true (anyR p l):=rfl
noncomputable def chk4 (n:Int) (l:List (List U)):Int:=bc (decide (24<n)) 3 (bc (decide (400<(l.length:Int))) 3 (bc (anyR longR l) 3 (bc (decide (n<2)) 2 (bc (anyR (badR n) l) 2 (bc (anyR formR l) 6 0)))))
namespace RChk4
noncomputable def RUN (s:ES):ZF:=RZs 9 ctC [(atS 0 9 4,[[(1,none),(3,none)]]),(atS 0 9 11,[[(1,none),(4,none)]]),(atS 0 9 17,[[(1,none),(6,none)]])] [] false s
noncomputable def sA (n:Int) (l:List (List U)) (i:Int):NS:=⟨[⟨9,92,[(1,(EV.ptr 0 0)),(3,iv i)],[.it (.code (nav [1,1,0,1,0,0,0] (bodyOf Try.f9))),.it (.code (nav [1,1,0,1,0,0,1] (bodyOf Try.f9))),.it (.inLoop (nav [1,1,0,1,0,0] (bodyOf Try.f9))),.it (.inBlock 0),.it (.code (nav [1,1,1] (bodyOf Try.f9)))],[],Option.none⟩],[(0,(EK.cells 24 [(iv n),(EV.lst (SyC.recs [(Sh.int IntKind.i64),(Sh.int IntKind.i64),Sh.str] l))] true))],1⟩
noncomputable def sB (n:Int) (l:List (List U)) (i:Int):NS:=⟨[⟨9,92,[(1,(EV.ptr 0 0)),(4,iv i)],[.it (.code (nav [1,1,1,1,0,1,0,0,0] (bodyOf Try.f9))),.it (.code (nav [1,1,1,1,0,1,0,0,1] (bodyOf Try.f9))),.it (.inLoop (nav [1,1,1,1,0,1,0,0] (bodyOf Try.f9))),.it (.inBlock 2),.it (.code (nav [1,1,1,1,1] (bodyOf Try.f9)))],[],Option.none⟩],[(0,EK.cells 24 [iv n,wl l] true)],1⟩
noncomputable def sC (n:Int) (l:List (List U)) (i:Int):NS:=⟨[⟨9,92,[(1,(EV.ptr 0 0)),(6,iv i)],[.it (.code (nav [1,1,1,1,1,0,1,0,0,0] (bodyOf Try.f9))),.it (.code (nav [1,1,1,1,1,0,1,0,0,1] (bodyOf Try.f9))),.it (.inLoop (nav [1,1,1,1,1,0,1,0,0] (bodyOf Try.f9))),.it (.inBlock 4),.it (.code (nav [1,1,1,1,1,1] (bodyOf Try.f9)))],[],Option.none⟩],[(0,EK.cells 24 [iv n,wl l] true)],1⟩
theorem in_t (n:Int) (l:List (List U)):RUN (st0 9 [.agg [iv n,wl l]])=(bc (decide (24<n)) (.done (iv (3)) [] 0) (bc (decide (400<Int.ofNat l.length)) (.done (iv (3)) [] 0) (.at (sA n l 0)))):=by kernel_rfl
theorem a_t (n:Int) (l:List (List U)) (i:Int):RUN (stOf (sA n l i))=(bc (decide (i<Int.ofNat l.length)) (bc (bc (bc (decide (0≤i)) (Nat.blt i.toNat l.length) false) true false) (bc (bc (Nat.blt i.toNat l.length) true false) (bc (decide (16<Int.ofNat (ByteArray.size (U.str ((l.getD i.toNat []).getD (Nat.add 0 2) (U.i 0)))))) (.done (iv (3)) [] 0) (.at (sA n l (IntKind.i64.wrap (i+1))))) .bad) .bad) (bc (decide (n<2)) (.done (iv (2)) [] 0) (.at (sB n l 0)))):=by kernel_rfl
theorem b_t (n:Int) (l:List (List U)) (i:Int):RUN (stOf (sB n l i))=(bc (decide (i<Int.ofNat l.length)) (bc (bc (bc (decide (0≤i)) (Nat.blt i.toNat l.length) false) true false) (bc (bc (Nat.blt i.toNat l.length) true false) (bc (U.int ((l.getD i.toNat []).getD 0 (U.i 0)) != 1) (bc (U.int ((l.getD i.toNat []).getD 0 (U.i 0)) != 2) (.done (iv (2)) [] 0) (bc (decide (U.int ((l.getD i.toNat []).getD (Nat.succ 0) (U.i 0))<0)) (.done (iv (2)) [] 0) (bc (decide (IntKind.i64.wrap (n-(2:Int))<U.int ((l.getD i.toNat []).getD (Nat.succ 0) (U.i 0)))) (.done (iv (2)) [] 0) (bc (U.int ((l.getD i.toNat []).getD 0 (U.i 0))==2) (bc (!ByteArray.toList (U.str ((l.getD i.toNat []).getD (Nat.succ (Nat.succ 0)) (U.i 0)))==ByteArray.toList { data:=#[] }) (.done (iv (2)) [] 0) (.at (sB n l (IntKind.i64.wrap (i+1))))) (.at (sB n l (IntKind.i64.wrap (i+1)))))))) (bc (decide (U.int ((l.getD i.toNat []).getD (Nat.succ 0) (U.i 0))<0)) (.done (iv (2)) [] 0) (bc (decide (IntKind.i64.wrap (n-(2:Int))<U.int ((l.getD i.toNat []).getD (Nat.succ 0) (U.i 0)))) (.done (iv (2)) [] 0) (bc (U.int ((l.getD i.toNat []).getD 0 (U.i 0))==2) (bc (!ByteArray.toList (U.str ((l.getD i.toNat []).getD (Nat.succ (Nat.succ 0)) (U.i 0)))==ByteArray.toList { data:=#[] }) (.done (iv (2)) [] 0) (.at (sB n l (IntKind.i64.wrap (i+1))))) (.at (sB n l (IntKind.i64.wrap (i+1)))))))) .bad) .bad) (.at (sC n l 0))):=by kernel_rfl
theorem c_t (n:Int) (l:List (List U)) (i:Int):RUN (stOf (sC n l i))=(bc (decide (i<Int.ofNat l.length)) (bc (bc (bc (decide (0≤i)) (Nat.blt i.toNat l.length) false) true false) (bc (bc (Nat.blt i.toNat l.length) true false) (bc (chk3 (U.str ((l.getD i.toNat []).getD (Nat.add 0 2) (U.i 0))) != 0) (.done (iv (6)) [] 0) (.at (sC n l (IntKind.i64.wrap (i+1))))) .bad) .bad) (.done (iv (0)) [] 0)):=by kernel_rfl
theorem aStep {n:Int} {l:List (List U)} {i:Nat} (hi:i<l.length) (hl:l.length≤400):RUN (stOf (sA n l i))=bc (longR l[i]) (.done (iv 3) [] 0) (.at (sA n l (i+1:Nat))):=by
 rw [a_t];have e:l.getD i []=l[i]:=zaf hi;simp (disch:=omega) only [yS,e,fK0,fK1,fA0,fA1,fA2,fW0,fW1,fW2];rfl
theorem aLast {n:Int} {l:List (List U)} {i:Nat} (hi:l.length≤i):RUN (stOf (sA n l i))=bc (decide (n<2)) (.done (iv 2) [] 0) (.at (sB n l 0)):=by
 rw [a_t];simp (disch:=omega) only [yS]
theorem bStep {n:Int} {l:List (List U)} {i:Nat} (hi:i<l.length) (hl:l.length≤400) (h2:2≤n) (h3:n≤24):RUN (stOf (sB n l i))=bc (badR n l[i]) (.done (iv 2) [] 0) (.at (sB n l (i+1:Nat))):=by
 rw [b_t];have e:l.getD i []=l[i]:=zaf hi;unfold badR;simp (disch:=omega) only [yS,e,fK0,fK1,fA0,fA1,fA2,fW0,fW1,fW2,bc_bc];rfl
theorem bLast {n:Int} {l:List (List U)} {i:Nat} (hi:l.length≤i):RUN (stOf (sB n l i)) = .at (sC n l 0):=by
 rw [b_t];simp (disch:=omega) only [yS]
theorem cStep {n:Int} {l:List (List U)} {i:Nat} (hi:i<l.length) (hl:l.length≤400):RUN (stOf (sC n l i))=bc (formR l[i]) (.done (iv 6) [] 0) (.at (sC n l (i+1:Nat))):=by
 rw [c_t];have e:l.getD i []=l[i]:=zaf hi;simp (disch:=omega) only [yS,e,fK0,fK1,fA0,fA1,fA2,fW0,fW1,fW2];rfl
theorem cLast {n:Int} {l:List (List U)} {i:Nat} (hi:l.length≤i):RUN (stOf (sC n l i)) = .done (iv 0) [] 0:=by
 rw [c_t];simp (disch:=omega) only [yS]
theorem cLoop {n:Int} {l:List (List U)} (hl:l.length≤400):∀ (k i:Nat),i+k=l.length→EndZ 9 ctC false (stOf (sC n l i)) (iv (bc (anyR formR (l.drop i)) 6 0)) [] 0
 | 0,i,h=>by
  rw [List.drop_eq_nil_of_le (by omega)];exact .done (cLast (by omega))
 | k+1,i,h=>by
  have hi:i<l.length:=by omega
  have:=cStep (n:=n) hi hl;rw [List.drop_eq_getElem_cons hi,zbw];cases hb:formR l[i] <;> rw [hb] at this
  ·exact .at ze4 this (cLoop hl k (i+1) (by omega))
  ·exact .done this
theorem bLoop {n:Int} {l:List (List U)} (hl:l.length≤400) (h2:2≤n) (h3:n≤24):∀ (k i:Nat),i+k=l.length→EndZ 9 ctC false (stOf (sB n l i)) (iv (bc (anyR (badR n) (l.drop i)) 2 (bc (anyR formR l) 6 0))) [] 0
 | 0,i,h=>by
  rw [List.drop_eq_nil_of_le (by omega)];exact .at ze4 (bLast (by omega)) (cLoop hl l.length 0 (by omega))
 | k+1,i,h=>by
  have hi:i<l.length:=by omega
  have:=bStep (n:=n) hi hl h2 h3;rw [List.drop_eq_getElem_cons hi,zbw];cases hb:badR n l[i] <;> rw [hb] at this
  ·exact .at ze4 this (bLoop hl h2 h3 k (i+1) (by omega))
  ·exact .done this
theorem aLoop {n:Int} {l:List (List U)} (hl:l.length≤400) (h3:n≤24):∀ (k i:Nat),i+k=l.length→EndZ 9 ctC false (stOf (sA n l i)) (iv (bc (anyR longR (l.drop i)) 3 (bc (decide (n<2)) 2 (bc (anyR (badR n) l) 2 (bc (anyR formR l) 6 0))))) [] 0
 | 0,i,h=>by
  rw [List.drop_eq_nil_of_le (by omega)];have:=aLast (n:=n) (l:=l) (i:=i) (by omega)
  by_cases h2:n<2
  ·rw [dt h2,bc_t] at this ⊢;exact .done this
  ·rw [df h2,bc_f] at this ⊢;exact .at ze4 this (bLoop hl (by omega) h3 l.length 0 (by omega))
 | k+1,i,h=>by
  have hi:i<l.length:=by omega
  have:=aStep (n:=n) hi hl;rw [List.drop_eq_getElem_cons hi,zbw];cases hb:longR l[i] <;> rw [hb] at this
  ·exact .at ze4 this (aLoop hl h3 k (i+1) (by omega))
  ·exact .done this
theorem ends (n:Int) (l:List (List U)):EndZ 9 ctC false (st0 9 [.agg [iv n,wl l]]) (iv (chk4 n l)) [] 0:=by
 have h:=in_t n l;unfold chk4
 by_cases h1:24<n
 ·simp only [dt h1,bc_t] at h ⊢;exact .done h
 by_cases h2:400<(l.length:Int)
 ·simp only [ofn,df h1,dt h2,bc_t,bc_f] at h ⊢;exact .done h
 ·simp only [ofn,df h1,df h2,bc_f] at h ⊢;exact .at ze4 h (aLoop (by omega) (by omega) l.length 0 (by omega))
end RChk4
noncomputable def spChk4:ZCT:=fun ax=>match ax with
 | [.agg [.v (.int .i64 n),.lst (.recs [.int .i64,.int .i64,.str] l)]]=>some ⟨decide (True),iv (chk4 n l),[],0⟩
 | _=>none
theorem zod:ZCtOk Try.prog 9 spChk4:=fun γ w us ax r hs hc hax hN hfz=>by
 unfold spChk4 at hs;split at hs
 case h_2=>cases hs
 rename_i n l;obtain ⟨rfl⟩:=Option.some.inj hs;have hc_0:decide (True)=true:=hc;have hc:=of_decide_eq_true hc_0;exact EndZ.calls (RChk4.ends n l) ze4 (by kernel_rfl) hax hN hfz
section
open Go.RowKit
variable {P:Program} {γ γ':G} {w0:Bs} {w w':World} {H H':Tr EK} {n n':Nat}
theorem HR.below (h:HR γ w0 H n w) (b:Below w.heap.size w w'):HR γ w0 H n w':=by
 refine ⟨fun i k hk=>?_,h.inj0,h.fresh,h.rsv,fun i p e=>Nat.lt_of_lt_of_le (h.lt i p e) b.size,?_,h.fzq rfl (fun k hk _=>b.block k hk) (fun i ki b m hi ni ei=>.inr ⟨i,ki,b,m,hi,ni,ei,rfl⟩) fun _ _ hk _=>hk⟩
 ·refine (h.hp0 i k hk).imp id fun ⟨c,m,h1,h2,h3⟩=>?_;exact ⟨c,m,h1,h2,EK.ok_mono (GLe.refl γ) (b.block c.k (h.lt i _ h1)) h3⟩
 ·refine ⟨b.os.trans h.stays.os,b.tape.trans h.stays.tape,b.output.trans h.stays.output,Nat.le_trans h.stays.size b.size,fun k hk=>?_⟩;have h1:=w0.lt k hk;have h2:=h.stays.size;exact (b.block k (by omega)).trans (h.stays.block k hk)
end
section
open Go.RowKit
variable {P:Program} {γ γ':G} {w0:Bs} {w w':World} {H H':Tr EK} {n n':Nat}
theorem HR.start (hN:∀ i,γ i=none) (hfz:FzAt γ w):HR γ (Bs.ofG w γ) .nil 0 w:=
 ⟨(fun i k hk=>by cases hk),(fun i j ki kj hi=>by cases hi),(fun i _=>hN i),(fun i hi=>hi.elim),(fun i p hp=>by rw [hN i] at hp;cases hp),⟨rfl,rfl,rfl,Nat.le_refl _,fun _ _=>rfl⟩,FZ.init hfz⟩
end
end Go.Proofs.Ytepiiaeiogdphaa.Ev
namespace Go.Proofs
open Go.Shelf
def Try.lays137_ren:Go.Shelf.Ren:=⟨fun|137=>99|217=>122|266=>140|n=>n,fun|9=>9|5=>5|3=>3|n=>n,fun|n=>n⟩
theorem Try.lays137:Go.Proofs.Lays.n137 Try.prog Try.lays137_ren:={
 mixed:=by kernel_rfl
 f137:=Try.func99.trans (congrArg some (by kernel_rfl))
 f217:=Try.func122.trans (congrArg some (by kernel_rfl))
 f266:=Try.func140.trans (congrArg some (by kernel_rfl))
 t3:=Try.underlying3
 a3:=Try.isAgg3
 z3:=Try.sizeOf3
 v3:=Try.zeroValue3
 t5:=Try.underlying5
 a5:=Try.isAgg5
 z5:=Try.sizeOf5
 v5:=Try.zeroValue5
 t9:=Try.underlying9
 a9:=Try.isAgg9
 z9:=Try.sizeOf9
 v9:=Try.zeroValue9 }
open Go.RowKit in
theorem Try.strings_IndexByte (s:ByteArray) (c:Int) (w:World) :
  Calls Try.prog 99 #[.string s,.int .u8 c] w fun e w'=>e = .returned (.int .i64 (Lib.indexByte s.data.toList c.toNat.toUInt8))∧w'=w:=Any.strings_IndexByte Try.lays137 s c w
def Try.lays189_ren:Go.Shelf.Ren:=⟨fun|189=>82|125=>91|257=>103|128=>117|129=>118|294=>124|295=>125|296=>126|297=>127|298=>128|299=>129|216=>130|300=>131|301=>132|328=>141|329=>135|330=>136|331=>142|332=>143|215=>144|343=>146|n=>n,fun|28=>28|3=>3|46=>157|0=>0|51=>184|53=>100|4=>4|183=>178|182=>177|131=>136|5=>5|9=>9|218=>195|222=>199|228=>203|229=>204|n=>n,fun|n=>n⟩
theorem Try.lays189:Go.Proofs.Lays.n189 Try.prog Try.lays189_ren:={
 mixed:=by kernel_rfl
 f125:=Try.func91.trans (congrArg some (by kernel_rfl))
 f128:=Try.func117.trans (congrArg some (by kernel_rfl))
 f129:=Try.func118.trans (congrArg some (by kernel_rfl))
 f189:=Try.func82.trans (congrArg some (by kernel_rfl))
 f215:=Try.func144.trans (congrArg some (by kernel_rfl))
 f216:=Try.func130.trans (congrArg some (by kernel_rfl))
 f257:=Try.func103.trans (congrArg some (by kernel_rfl))
 f294:=Try.func124.trans (congrArg some (by kernel_rfl))
 f295:=Try.func125.trans (congrArg some (by kernel_rfl))
 f296:=Try.func126.trans (congrArg some (by kernel_rfl))
 f297:=Try.func127.trans (congrArg some (by kernel_rfl))
 f298:=Try.func128.trans (congrArg some (by kernel_rfl))
 f299:=Try.func129.trans (congrArg some (by kernel_rfl))
 f300:=Try.func131.trans (congrArg some (by kernel_rfl))
 f301:=Try.func132.trans (congrArg some (by kernel_rfl))
 f328:=Try.func141.trans (congrArg some (by kernel_rfl))
 f329:=Try.func135.trans (congrArg some (by kernel_rfl))
 f330:=Try.func136.trans (congrArg some (by kernel_rfl))
 f331:=Try.func142.trans (congrArg some (by kernel_rfl))
 f332:=Try.func143.trans (congrArg some (by kernel_rfl))
 f343:=Try.func146.trans (congrArg some (by kernel_rfl))
 t0:=Try.underlying0
 a0:=Try.isAgg0
 z0:=Try.sizeOf0
 v0:=Try.zeroValue0
 t3:=Try.underlying3
 a3:=Try.isAgg3
 z3:=Try.sizeOf3
 v3:=Try.zeroValue3
 t4:=Try.underlying4
 a4:=Try.isAgg4
 z4:=Try.sizeOf4
 v4:=Try.zeroValue4
 t5:=Try.underlying5
 a5:=Try.isAgg5
 z5:=Try.sizeOf5
 v5:=Try.zeroValue5
 t9:=Try.underlying9
 a9:=Try.isAgg9
 z9:=Try.sizeOf9
 v9:=Try.zeroValue9
 t28:=Try.underlying28
 a28:=Try.isAgg28
 z28:=Try.sizeOf28
 v28:=Try.zeroValue28
 t46:=Try.underlying157
 a46:=Try.isAgg157
 z46:=Try.sizeOf157
 v46:=Try.zeroValue157
 t51:=Try.underlying184
 a51:=Try.isAgg184
 z51:=Try.sizeOf184
 v51:=Try.zeroValue184
 t53:=Try.underlying100
 a53:=Try.isAgg100
 z53:=Try.sizeOf100
 v53:=Try.zeroValue100
 t131:=Try.underlying136
 a131:=Try.isAgg136
 z131:=Try.sizeOf136
 v131:=Try.zeroValue136
 t182:=Try.underlying177
 a182:=Try.isAgg177
 z182:=Try.sizeOf177
 v182:=Try.zeroValue177
 t183:=Try.underlying178
 a183:=Try.isAgg178
 z183:=Try.sizeOf178
 v183:=Try.zeroValue178
 t218:=Try.underlying195
 a218:=Try.isAgg195
 z218:=Try.sizeOf195
 v218:=Try.zeroValue195
 t222:=Try.underlying199
 a222:=Try.isAgg199
 z222:=Try.sizeOf199
 v222:=Try.zeroValue199
 t228:=Try.underlying203
 a228:=Try.isAgg203
 z228:=Try.sizeOf203
 v228:=Try.zeroValue203
 t229:=Try.underlying204
 a229:=Try.isAgg204
 z229:=Try.sizeOf204
 v229:=Try.zeroValue204 }
open Go.Sort Go.RowKit in
theorem Try.slices_Sort_int (blk off cap:Nat) (zs:List Int) (w:World) (hH:Holds (Value.int .i64) w blk off zs.toArray) (hblk:blk<w.heap.size) (hsz:zs.length<4611686018427387904) :
  Calls Try.prog 82 #[.slice (some ⟨blk,off,none⟩) zs.length cap] w fun e w'=>
   e = .returned (.tuple #[])∧∃ n os,w'=grow (putRow (Value.int .i64) (Sort.ahead w n) blk off (zs.mergeSort fun x y=>decide (x≤y)).toArray) os:=Any.slices_Sort_int Try.lays189 blk off cap zs w hH hblk hsz
open Go.RowKit Go.Sort in
theorem Try.slices_Sort_int_none (p:Option Addr) (cap:Nat) (w:World) :
  Calls Try.prog 82 #[.slice p 0 cap] w fun e w'=>e = .returned (.tuple #[])∧w'=w:=Any.slices_Sort_int_none Try.lays189 p cap w
end Go.Proofs
namespace Go.Proofs.Ytepiiaeiogdphaa.Ev
theorem zqg (s:ByteArray) (i:Nat):0≤byteAt s i:=by unfold byteAt;exact Int.natCast_nonneg _
theorem zqh (s:ByteArray) (i:Nat):byteAt s i<256:=by
 unfold byteAt;have:=(s.data.toList.getD i 0).toNat_lt;show ((s.data.toList.getD i 0).toNat:Int)<256;omega
theorem zlu (s:ByteArray) (b:UInt8):∀ (k i:Nat),i+k=s.size→idxB s (b.toNat:Int) i k=if Lib.indexByte (s.data.toList.drop i) b = -1 then -1 else Lib.indexByte (s.data.toList.drop i) b+i
 | 0,i,h=>by
  rw [List.drop_eq_nil_of_le (by have:s.data.toList.length=s.size:=by rw [Array.length_toList];rfl
                                 omega)]
  rfl
 | k+1,i,h=>by
  have hl:s.data.toList.length=s.size:=by rw [Array.length_toList];rfl
  have hi:i<s.data.toList.length:=by omega
  rw [List.drop_eq_getElem_cons hi];unfold idxB;rw [zlu s b k (i+1) (by omega)];have e:(byteAt s i==(b.toNat:Int))=(s.data.toList[i]==b):=by
   unfold byteAt;rw [zaf hi];apply Bool.eq_iff_iff.2;simp only [beq_iff_eq];constructor
   ·intro h;exact UInt8.toNat_inj.1 (by have h:((s.data.toList[i]).toNat:Int)=b.toNat:=h;omega)
   ·intro h;rw [h];rfl
  rw [e];rw [show Lib.indexByte (s.data.toList[i]::s.data.toList.drop (i+1)) b=if (s.data.toList[i]==b)=true then 0 else if (Lib.indexByte (s.data.toList.drop (i+1)) b == -1)=true then -1 else Lib.indexByte (s.data.toList.drop (i+1)) b+1 from rfl]
  have ge:=Lib.indexByte_ge (s.data.toList.drop (i+1)) b
  by_cases h1:(s.data.toList[i]==b)=true
  ·rw [h1];simp [bc]
  ·have h1:(s.data.toList[i]==b)=false:=by simpa using h1
   rw [h1]
   by_cases h2:Lib.indexByte (s.data.toList.drop (i+1)) b = -1
   ·simp [bc,h2]
   ·have h3:(Lib.indexByte (s.data.toList.drop (i+1)) b == -1)=false:=by simpa using h2
    simp only [bc,h3,if_neg h2];rw [if_neg (by simp;omega)];simp;omega
theorem zve (s:ByteArray) (c:Int) (h1:0≤c) (h2:c<256):Lib.indexByte s.data.toList c.toNat.toUInt8=idx s c:=by
 have e:((c.toNat.toUInt8).toNat:Int)=c:=by
  have:c.toNat%256=c.toNat:=Nat.mod_eq_of_lt (by omega);show ((c.toNat%256:Nat):Int)=c;omega
 unfold idx;rw [← e,zlu s _ s.size 0 (by omega),List.drop_zero,e];split
 ·rename_i h;rw [h]
 ·simp
noncomputable def spIB:ZCT:=fun ax=>match ax with
 | [.v (.string s),.v (.int .u8 c)]=>some ⟨bc (decide (0≤c)) (decide (c<256)) false,iv (idx s c),[],0⟩
 | _=>none
theorem zut:ZCtOk Try.prog 99 spIB:=fun γ w us ax r hs hc hax hN hfz=>by
 unfold spIB at hs;split at hs
 case h_2=>cases hs
 rename_i s c;obtain ⟨rfl⟩:=Option.some.inj hs;obtain ⟨h1,h2⟩:=bcT (show bc (decide (0≤c)) (decide (c<256)) false=true from hc)
 have h1:=of_decide_eq_true h1;have h2:=of_decide_eq_true h2;obtain ⟨x,r1,e1,hx,hc1⟩:=ECL.inv hax;obtain ⟨y,r2,e2,hy,hc2⟩:=ECL.inv hc1;have e3:r2=[]:=by apply List.eq_nil_of_length_eq_zero;have:=hc2.1;simpa using this.symm
 have hx:=ec_v hx;have hy:=ec_v hy;subst hx;subst hy;subst e3;subst e2;have eu:us = #[.string s,.int .u8 c]:=by apply Array.ext';simpa using e1
 rw [eu];refine (Try.strings_IndexByte s c w).mono ?_
 rintro e w' ⟨rfl,rfl⟩
 exact ⟨γ,_,rfl,by rw [zve s c h1 h2];exact .v _,HR.start hN hfz⟩
noncomputable def ctP1:Tr ZCC:=Tr.nil.put 99 (some (dC spIB))
theorem zib:ZCtsOk Try.prog ctP1:=(ZCtsOk.nil _).add rfl zut
namespace PChk3
noncomputable def RUN (s:ES):ZF:=RZ 78 ctP1 (atS 0 78 4) [] [[(0,none),(8,none),(9,none)]] false s
noncomputable def sC (s:ByteArray) (i:Int):NS:=⟨[⟨78,18,[(0,(EV.v (Value.string s))),(8,(iv (Int.ofNat (ByteArray.size s)))),(9,iv i)],[.it (.code (nav [1,1,0,1,0,0] (bodyOf Try.f78))),.it (.inLoop (nav [1,1,0,1,0,0] (bodyOf Try.f78))),.it (.inBlock 0),.it (.code (nav [1,1,1] (bodyOf Try.f78)))],[],Option.none⟩],[],0⟩
theorem in_t (s:ByteArray):RUN (st0 78 [sv s])=(bc (decide (16<Int.ofNat (ByteArray.size s))) (.done (iv (3)) [] 0) (.at (sC s 0))):=by kernel_rfl
theorem step_t (s:ByteArray) (i:Int):RUN (stOf (sC s i))=(bc (decide (i<Int.ofNat (ByteArray.size s))) (bc (bc (bc (decide (0≤i)) (Nat.blt i.toNat (ByteArray.size s)) false) true false) (bc (bc (decide (byteAt s i.toNat<256)) true false) (bc (decide (idx { data:=#[(67:UInt8),(84:UInt8),(76:UInt8),(82:UInt8),(80:UInt8),(99:UInt8),(116:UInt8),(108:UInt8),(114:UInt8)] } (byteAt s i.toNat)<0)) (.done (iv (6)) [] 0) (.at (sC s (IntKind.i64.wrap (i+1))))) .bad) .bad) (.done (iv (0)) [] 0)):=by kernel_rfl
theorem step {s:ByteArray} {i:Nat} (hi:i<s.size) (hs:s.size≤1000):RUN (stOf (sC s i))=bc (decide (idx bLet (byteAt s i)<0)) (.done (iv 6) [] 0) (.at (sC s (i+1:Nat))):=by
 rw [step_t];have h1:=zqg s i;have h2:=zqh s i;simp (disch:=omega) only [yS];rfl
theorem last {s:ByteArray} {i:Nat} (hi:s.size≤i):RUN (stOf (sC s i)) = .done (iv 0) [] 0:=by
 rw [step_t];simp (disch:=omega) only [yS]
theorem loop {s:ByteArray} (hs:s.size≤1000):∀ (k i:Nat),i+k=s.size→EndZ 78 ctP1 false (stOf (sC s i)) (iv (bc (badF s i k) 6 0)) [] 0
 | 0,i,h=>.done (last (by omega))
 | k+1,i,h=>by
  have:=step (show i<s.size by omega) hs;unfold badF;cases hb:decide (idx bLet (byteAt s i)<0) <;> rw [hb] at this
  ·exact .at zib this (loop hs k (i+1) (by omega))
  ·exact .done this
theorem ends (s:ByteArray):EndZ 78 ctP1 false (st0 78 [sv s]) (iv (chk3 s)) [] 0:=by
 have h:=in_t s;unfold chk3
 by_cases h1:16<(s.size:Int)
 ·simp only [ofn,dt h1,bc_t] at h ⊢;exact .done h
 ·simp only [ofn,df h1,bc_f] at h ⊢;exact .at zib h (loop (by omega) s.size 0 (by omega))
end PChk3
noncomputable def spPChk3:ZCT:=fun ax=>match ax with
 | [.v (.string s)]=>some ⟨decide True,iv (chk3 s),[],0⟩
 | _=>none
theorem zge:ZCtOk Try.prog 78 spPChk3:=fun γ w us ax r hs hc hax hN hfz=>by
 unfold spPChk3 at hs;split at hs
 case h_2=>cases hs
 rename_i s;obtain ⟨rfl⟩:=Option.some.inj hs;have hc_0:decide True=true:=hc;have hc:=of_decide_eq_true hc_0;exact EndZ.calls (PChk3.ends s) zib (by kernel_rfl) hax hN hfz
noncomputable def ctP2:Tr ZCC:=ctP1.put 78 (some (dC spPChk3))
theorem zvz:ZCtsOk Try.prog ctP2:=zib.add rfl zge
namespace PAny
noncomputable def RUN (s:ES):ZF:=RZ 98 .nil (atS 0 98 2) [] [[(0,none),(1,none),(7,none),(8,none)]] false s
noncomputable abbrev args (l:List (List U)):List EV:=[wl l,.fn 77 []]
noncomputable def sF (l:List (List U)) (i:Int):NS:=⟨[⟨98,19,[(0,(EV.lst (SyC.recs [(Sh.int IntKind.i64),(Sh.int IntKind.i64),Sh.str] l))),(1,(EV.fn 77 [])),(7,(iv (Int.ofNat l.length))),(8,iv i)],[.it (.code (nav [1,0,1,0,0] (bodyOf Try.f98))),.it (.inLoop (nav [1,0,1,0,0] (bodyOf Try.f98))),.it (.inBlock 0),.it (.code (nav [1,1] (bodyOf Try.f98)))],[],Option.none⟩],[],0⟩
theorem in_t (l:List (List U)):RUN (st0 98 (args l))=(.at (sF l 0)):=by kernel_rfl
theorem step_t (l:List (List U)) (i:Int):RUN (stOf (sF l i))=(bc (decide (i<Int.ofNat l.length)) (bc (bc (bc (decide (0≤i)) (Nat.blt i.toNat l.length) false) true false) (bc (bc (Nat.blt i.toNat l.length) true false) (bc (decide (16<Int.ofNat (ByteArray.size (U.str ((l.getD i.toNat []).getD (Nat.succ (Nat.succ 0)) (U.i 0)))))) (.done (iv i) [] 0) (.at (sF l (IntKind.i64.wrap (i+1))))) .bad) .bad) (.done (iv (-1)) [] 0)):=by kernel_rfl
noncomputable def at' (l:List (List U)) (i:Nat):List (List U)→Int
 | []=>-1
 | r::q=>bc (longR r) (i:Int) (at' l (i+1) q)
theorem step {l:List (List U)} {i:Nat} (hi:i<l.length) (hl:l.length≤100000):RUN (stOf (sF l i))=bc (longR l[i]) (.done (iv i) [] 0) (.at (sF l (i+1:Nat))):=by
 rw [step_t];have e:l.getD i []=l[i]:=zaf hi;simp (disch:=omega) only [yS,e,fK0,fK1,fA0,fA1,fA2,fW0,fW1,fW2];rfl
theorem last {l:List (List U)} {i:Nat} (hi:l.length≤i):RUN (stOf (sF l i)) = .done (iv (-1)) [] 0:=by
 rw [step_t];simp (disch:=omega) only [yS]
theorem loop {l:List (List U)} (hl:l.length≤100000):∀ (k i:Nat),i+k=l.length→EndZ 98 .nil false (stOf (sF l i)) (iv (at' l i (l.drop i))) [] 0
 | 0,i,h=>by
  rw [List.drop_eq_nil_of_le (by omega)];exact .done (last (by omega))
 | k+1,i,h=>by
  have hi:i<l.length:=by omega
  have:=step hi hl;rw [List.drop_eq_getElem_cons hi];unfold at';cases hb:longR l[i] <;> rw [hb] at this
  ·exact .at (.nil _) this (loop hl k (i+1) (by omega))
  ·exact .done this
theorem sign (l:List (List U)):∀ (q:List (List U)) (i:Nat),decide (0≤at' l i q)=anyR longR q
 | [],i=>rfl
 | r::q,i=>by
  rw [zbw];unfold at';cases longR r
  ·exact sign l q (i+1)
  ·exact dt (Int.natCast_nonneg i)
end PAny
noncomputable def spIxF:ZCT:=fun ax=>match ax with
 | [.lst (.recs [.int .i64,.int .i64,.str] l),.fn 77 []]=>some ⟨decide (l.length≤100000),iv (PAny.at' l 0 l),[],0⟩
 | _=>none
theorem zr1:ZCtOk Try.prog 98 spIxF:=fun γ w us ax r hs hc hax hN hfz=>by
 unfold spIxF at hs;split at hs
 case h_2=>cases hs
 rename_i l;obtain ⟨rfl⟩:=Option.some.inj hs;have hc_0:decide (l.length≤100000)=true:=hc;have hc:=of_decide_eq_true hc_0;exact EndZ.calls (.at (.nil _) (PAny.in_t l) (PAny.loop hc l.length 0 (by omega))) (.nil _) (by kernel_rfl) hax hN hfz
noncomputable def ctP3:Tr ZCC:=ctP2.put 98 (some (dC spIxF))
theorem zkp:ZCtsOk Try.prog ctP3:=zvz.add rfl zr1
namespace PChk4
noncomputable def RUN (s:ES):ZF:=RZ 36 ctP3 (atS 0 36 7) [] [[(1,none),(3,none),(24,none),(25,none),(26,none)]] false s
noncomputable def sB (n:Int) (l:List (List U)) (f i:Int):NS:=⟨[⟨36,63,[(1,(EV.ptr 0 0)),(3,iv f),(24,(EV.lst (SyC.recs [(Sh.int IntKind.i64),(Sh.int IntKind.i64),Sh.str] l))),(25,(iv (Int.ofNat l.length))),(26,iv i)],[.it (.code (nav [1,1,1,1,0,1,0,0] (bodyOf Try.f36))),.it (.inLoop (nav [1,1,1,1,0,1,0,0] (bodyOf Try.f36))),.it (.inBlock 0),.it (.code (nav [1,1,1,1,1] (bodyOf Try.f36)))],[],Option.none⟩],[(0,(EK.cells 24 [(iv n),(EV.lst (SyC.recs [(Sh.int IntKind.i64),(Sh.int IntKind.i64),Sh.str] l))] true))],1⟩
theorem in_t (n:Int) (l:List (List U)):RUN (st0 36 [.agg [iv n,wl l]])=(bc (decide (24<n)) (.done (iv (3)) [] 0) (bc (decide (400<Int.ofNat l.length)) (.done (iv (3)) [] 0) (bc (bc (decide (l.length≤100000)) true false) (bc (decide (0≤PAny.at' l 0 l)) (.done (iv (3)) [] 0) (bc (decide (n<2)) (.done (iv (2)) [] 0) (.at (sB n l 0 0)))) .bad))):=by kernel_rfl
theorem b_t (n:Int) (l:List (List U)) (f i:Int):RUN (stOf (sB n l f i))=(bc (decide (i<Int.ofNat l.length)) (bc (bc (bc (decide (0≤i)) (Nat.blt i.toNat l.length) false) true false) (bc (bc (Nat.blt i.toNat l.length) true false) (bc (U.int ((l.getD i.toNat []).getD 0 (U.i 0)) != 1) (bc (U.int ((l.getD i.toNat []).getD 0 (U.i 0)) != 2) (.done (iv (2)) [] 0) (bc (!ByteArray.toList (U.str ((l.getD i.toNat []).getD (Nat.succ (Nat.succ 0)) (U.i 0)))==ByteArray.toList { data:=#[] }) (.done (iv (2)) [] 0) (bc (decide (U.int ((l.getD i.toNat []).getD (Nat.succ 0) (U.i 0))<0)) (.done (iv (2)) [] 0) (bc (decide (IntKind.i64.wrap (n-(2:Int))<U.int ((l.getD i.toNat []).getD (Nat.succ 0) (U.i 0)))) (.done (iv (2)) [] 0) (.at (sB n l (if chk3 (U.str ((l.getD i.toNat []).getD (Nat.succ (Nat.succ 0)) (U.i 0))) > f then chk3 (U.str ((l.getD i.toNat []).getD (Nat.succ (Nat.succ 0)) (U.i 0))) else f) (IntKind.i64.wrap (i+1)))))))) (bc (decide (U.int ((l.getD i.toNat []).getD (Nat.succ 0) (U.i 0))<0)) (.done (iv (2)) [] 0) (bc (decide (IntKind.i64.wrap (n-(2:Int))<U.int ((l.getD i.toNat []).getD (Nat.succ 0) (U.i 0)))) (.done (iv (2)) [] 0) (.at (sB n l (if chk3 (U.str ((l.getD i.toNat []).getD (Nat.succ (Nat.succ 0)) (U.i 0))) > f then chk3 (U.str ((l.getD i.toNat []).getD (Nat.succ (Nat.succ 0)) (U.i 0))) else f) (IntKind.i64.wrap (i+1))))))) .bad) .bad) (.done (iv f) [] 0)):=by kernel_rfl
noncomputable def badP (n:Int) (r:List U):Bool:=bc (rK r != 1)
 (bc (rK r != 2) true (bc (!((rW r).toList==(ByteArray.mk #[]).toList)) true (bc (decide (rA r<0)) true (bc (decide (n-2<rA r)) true false))))
 (bc (decide (rA r<0)) true (bc (decide (n-2<rA r)) true false))
theorem zv8 (n:Int) (r:List U):badP n r=badR n r:=by
 unfold badP badR
 by_cases h1:rK r=1
 ·have e1:(rK r != 1)=false:=by simp [h1]
  have e2:(rK r==2)=false:=by simp [h1]
  rw [e1,e2];simp only [bc_f]
 ·have e1:(rK r != 1)=true:=by simp [h1]
  by_cases h2:rK r=2
  ·have e2:(rK r != 2)=false:=by simp [h2]
   have e3:(rK r==2)=true:=by simp [h2]
   rw [e1,e2,e3];simp only [bc_t,bc_f];cases decide (rA r<0) <;> cases decide (n-2<rA r) <;> cases ((rW r).toList==(ByteArray.mk #[]).toList) <;> rfl
  ·have e2:(rK r != 2)=true:=by simp [h2]
   rw [e1,e2];simp only [bc_t]
theorem step {n f:Int} {l:List (List U)} {i:Nat} (hi:i<l.length) (hl:l.length≤400) (h2:2≤n) (h3:n≤24):RUN (stOf (sB n l f i))=bc (badR n l[i]) (.done (iv 2) [] 0) (.at (sB n l (if chk3 (rW l[i]) > f then chk3 (rW l[i]) else f) (i+1:Nat))):=by
 rw [b_t,← zv8];have e:l.getD i []=l[i]:=zaf hi;unfold badP;simp (disch:=omega) only [yS,e,fK0,fK1,fA0,fA1,fA2,fW0,fW1,fW2,bc_bc];rfl
theorem last {n f:Int} {l:List (List U)} {i:Nat} (hi:l.length≤i):RUN (stOf (sB n l f i)) = .done (iv f) [] 0:=by
 rw [b_t];simp (disch:=omega) only [yS]
theorem zps {r:List U} {f:Int} (hr:longR r=false) (hf:f=0∨f=6):(if chk3 (rW r) > f then chk3 (rW r) else f)=bc (formR r) 6 f:=by
 unfold longR at hr;unfold formR chk3;rw [hr,bc_f];cases badF (rW r) 0 (rW r).size
 ·rw [bc_f];have e:((0:Int) != 0)=false:=rfl;rw [e,bc_f];rcases hf with rfl|rfl <;> rfl
 ·rw [bc_t];have e:((6:Int) != 0)=true:=rfl;rw [e,bc_t];rcases hf with rfl|rfl <;> rfl
theorem loop {n:Int} {l:List (List U)} (hl:l.length≤400) (h2:2≤n) (h3:n≤24):∀ (k i:Nat) (f:Int),i+k=l.length→anyR longR (l.drop i)=false→f=0∨f=6→EndZ 36 ctP3 false (stOf (sB n l f i)) (iv (bc (anyR (badR n) (l.drop i)) 2 (bc (anyR formR (l.drop i)) 6 f))) [] 0
 | 0,i,f,h,_,_=>by
  rw [List.drop_eq_nil_of_le (by omega)];exact .done (last (by omega))
 | k+1,i,f,h,hg,hf=>by
  have hi:i<l.length:=by omega
  have:=step (n:=n) (f:=f) hi hl h2 h3;rw [List.drop_eq_getElem_cons hi] at hg ⊢;rw [zbw] at hg;rw [zbw,zbw]
  cases hlr:longR l[i] with
  | true=>rw [hlr,bc_t] at hg;cases hg
  | false=>
   rw [hlr,bc_f] at hg;rw [zps hlr hf] at this;cases hb:badR n l[i] <;> rw [hb] at this
   ·rw [bc_f] at this;have key:=loop hl h2 h3 k (i+1) (bc (formR l[i]) 6 f) (by omega) hg (by cases formR l[i];exact hf;exact .inr rfl);have e:bc (anyR formR (l.drop (i+1))) 6 (bc (formR l[i]) 6 f)=bc (bc (formR l[i]) true (anyR formR (l.drop (i+1)))) 6 f:=by
     cases formR l[i] <;> cases anyR formR (l.drop (i+1)) <;> rfl
    rw [e] at key;exact .at zkp this key
   ·exact .done this
theorem ends (n:Int) (l:List (List U)):EndZ 36 ctP3 false (st0 36 [.agg [iv n,wl l]]) (iv (chk4 n l)) [] 0:=by
 have h:=in_t n l;rw [PAny.sign] at h;unfold chk4
 by_cases h1:24<n
 ·simp only [dt h1,bc_t] at h ⊢;exact .done h
 by_cases h2:400<(l.length:Int)
 ·simp only [ofn,df h1,dt h2,bc_t,bc_f] at h ⊢;exact .done h
 have h3:l.length≤100000:=by omega
 simp only [ofn,df h1,df h2,dt h3,bc_f,bc_t] at h ⊢;cases h4:anyR longR l <;> rw [h4] at h
 ·by_cases h5:n<2
  ·simp only [dt h5,bc_f,bc_t] at h ⊢;exact .done h
  ·simp only [df h5,bc_f] at h ⊢;exact .at zkp h (loop (by omega) (by omega) (by omega) l.length 0 0 (by omega) h4 (.inl rfl))
 ·exact .done h
end PChk4
noncomputable def spPChk4:ZCT:=fun ax=>match ax with
 | [.agg [.v (.int .i64 n),.lst (.recs [.int .i64,.int .i64,.str] l)]]=>some ⟨decide (True),iv (chk4 n l),[],0⟩
 | _=>none
theorem zed:ZCtOk Try.prog 36 spPChk4:=fun γ w us ax r hs hc hax hN hfz=>by
 unfold spPChk4 at hs;split at hs
 case h_2=>cases hs
 rename_i n l;obtain ⟨rfl⟩:=Option.some.inj hs;have hc_0:decide (True)=true:=hc;have hc:=of_decide_eq_true hc_0;exact EndZ.calls (PChk4.ends n l) zkp (by kernel_rfl) hax hN hfz
theorem ze1 {p:List U→Bool}:∀ {l:List (List U)},anyR p l=false→∀ r,r∈l→p r=false
 | [],_,r,h=>by simp at h
 | x::l,h,r,hr=>by
  rw [zbw] at h
  cases hx:p x with
  | true=>rw [hx,bc_t] at h;cases h
  | false=>
   rw [hx,bc_f] at h;rcases List.mem_cons.1 hr with rfl|hr
   ·exact hx
   ·exact ze1 h r hr
structure ValR (n:Int) (r:List U):Prop where
 kind:rK r=1∨rK r=2
 lo:0≤rA r
 hi:rA r≤n-2
 sew:rK r=2→(rW r).toList=(ByteArray.mk #[]).toList
 long:(rW r).size≤16
 form:badF (rW r) 0 (rW r).size=false
theorem zv4 {w:ByteArray} (h:chk3 w=0):w.size≤16∧badF w 0 w.size=false:=by
 unfold chk3 at h
 by_cases h1:16<(w.size:Int)
 ·rw [dt h1,bc_t] at h;cases h
 ·rw [df h1,bc_f] at h;refine ⟨by omega,?_⟩;cases hb:badF w 0 w.size
  ·rfl
  ·rw [hb,bc_t] at h;cases h
theorem zv5 {w:ByteArray} (h1:w.size≤16) (h2:badF w 0 w.size=false):chk3 w=0:=by
 unfold chk3;rw [df (by omega),bc_f,h2,bc_f]
theorem zng {n:Int} {r:List U} (h:badR n r=false):(rK r=1∨rK r=2)∧0≤rA r∧rA r≤n-2∧(rK r=2→(rW r).toList=(ByteArray.mk #[]).toList):=by
 unfold badR at h
 by_cases h1:rK r=1
 ·rw [show (rK r != 1)=false by simp [h1],bc_f] at h
  by_cases h2:rA r<0
  ·rw [dt h2,bc_t] at h;cases h
  rw [df h2,bc_f] at h
  by_cases h3:n-2<rA r
  ·rw [dt h3,bc_t] at h;cases h
  exact ⟨.inl h1,by omega,by omega,fun h4=>by omega⟩
 ·rw [show (rK r != 1)=true by simp [h1],bc_t] at h
  by_cases h0:rK r=2
  ·rw [show (rK r != 2)=false by simp [h0],bc_f] at h
   by_cases h2:rA r<0
   ·rw [dt h2,bc_t] at h;cases h
   rw [df h2,bc_f] at h
   by_cases h3:n-2<rA r
   ·rw [dt h3,bc_t] at h;cases h
   rw [df h3,bc_f,show (rK r==2)=true by simp [h0],bc_t] at h;refine ⟨.inr h0,by omega,by omega,fun _=>?_⟩
   cases h4:((rW r).toList==(ByteArray.mk #[]).toList) with
   | true=>simpa using h4
   | false=>rw [h4] at h;cases h
  ·rw [show (rK r != 2)=true by simp [h0],bc_t] at h;cases h
structure ValS (n:Int) (l:List (List U)):Prop where
 lo:2≤n
 hi:n≤24
 len:l.length≤400
 val:∀ r,r∈l→ValR n r
theorem zcx {n:Int} {l:List (List U)} (h:chk4 n l=0):ValS n l:=by
 unfold chk4 at h
 by_cases h1:24<n
 ·rw [dt h1,bc_t] at h;cases h
 rw [df h1,bc_f] at h
 by_cases h2:400<(l.length:Int)
 ·rw [dt h2,bc_t] at h;cases h
 rw [df h2,bc_f] at h
 cases h3:anyR longR l with
 | true=>rw [h3,bc_t] at h;cases h
 | false=>
  rw [h3,bc_f] at h
  by_cases h4:n<2
  ·rw [dt h4,bc_t] at h;cases h
  rw [df h4,bc_f] at h
  cases h5:anyR (badR n) l with
  | true=>rw [h5,bc_t] at h;cases h
  | false=>
   rw [h5,bc_f] at h
   cases h6:anyR formR l with
   | true=>rw [h6,bc_t] at h;cases h
   | false=>
    refine ⟨by omega,by omega,by omega,fun r hr=>?_⟩;obtain ⟨k1,k2,k3,k4⟩:=zng (ze1 h5 r hr);have k5:=ze1 h6 r hr;unfold formR at k5;obtain ⟨k6,k7⟩:=zv4 (w:=rW r) (by simpa using k5);exact ⟨k1,k2,k3,k4,k6,k7⟩
noncomputable def rowEq (x y:List U):Bool:=bc (rK x==rK y) (bc (rA x==rA y) (bc ((rW x).toList==(rW y).toList) true false) false) false
noncomputable def both (n m:Int) (l k:List (List U)):Int:=bc (chk4 n l != 0) (chk4 n l) (chk4 m k)
theorem zmc {w:ByteArray} (h:chk3 w=0):w.size≤16∧badF w 0 w.size=false:=by
 unfold chk3 at h
 by_cases h1:16<(w.size:Int)
 ·rw [dt h1,bc_t] at h;cases h
 rw [df h1,bc_f] at h;refine ⟨by omega,?_⟩;cases hb:badF w 0 w.size
 ·rfl
 ·rw [hb,bc_t] at h;cases h
noncomputable abbrev l2 (l k:List (List U)):EV:=.lst (.recs [.list shW] [[.l l],[.l k]])
end Go.Proofs.Ytepiiaeiogdphaa.Ev

namespace Go.Proofs.Ytepiiaeiogdphaa.Ev
theorem zsl (c:Int):idx bLet c=bc (67==c) 0 (bc (84==c) 1 (bc (76==c) 2 (bc (82==c) 3 (bc (80==c) 4 (bc (99==c) 5 (bc (116==c) 6 (bc (108==c) 7 (bc (114==c) 8 (-1))))))))):=by kernel_rfl
theorem zeb {a c:Int} (h:a≠c):(a==c)=false:=by simp [h]
def Let (c:Int):Prop:=c=67∨c=84∨c=76∨c=82∨c=80∨c=99∨c=116∨c=108∨c=114
noncomputable instance Let.dec (c:Int):Decidable (Let c):=Classical.propDecidable _
theorem zwv {c:Int} (h:0≤idx bLet c):Let c:=by
 unfold Let;rw [zsl] at h
 by_cases h0:(67:Int)=c
 ·omega
 by_cases h1:(84:Int)=c
 ·omega
 by_cases h2:(76:Int)=c
 ·omega
 by_cases h3:(82:Int)=c
 ·omega
 by_cases h4:(80:Int)=c
 ·omega
 by_cases h5:(99:Int)=c
 ·omega
 by_cases h6:(116:Int)=c
 ·omega
 by_cases h7:(108:Int)=c
 ·omega
 by_cases h8:(114:Int)=c
 ·omega
 rw [zeb h0,zeb h1,zeb h2,zeb h3,zeb h4,zeb h5,zeb h6,zeb h7,zeb h8] at h;cases h
theorem zmg {w:ByteArray}:∀ (k i:Nat),badF w i k=false→∀ j,i≤j→j<i+k→Let (byteAt w j)
 | 0,i,_,j,h1,h2=>by omega
 | k+1,i,h,j,h1,h2=>by
  unfold badF at h
  by_cases h0:idx bLet (byteAt w i)<0
  ·rw [dt h0,bc_t] at h;cases h
  rw [df h0,bc_f] at h
  by_cases e:j=i
  ·subst e;exact zwv (by omega)
  ·exact zmg k (i+1) h j (by omega) (by omega)
theorem zre {w:ByteArray} (h:chk3 w=0) {j:Nat} (hj:j<w.size):Let (byteAt w j):=zmg w.size 0 (zmc h).2 j (Nat.zero_le _) (by omega)
noncomputable def crL (c:Int):List Int:=bc (c==67) [2] (bc (c==76) [-1] (bc (c==82) [-3] (bc (c==84) [-1,-3] (bc (c==99) [-2] (bc (c==108) [1] (bc (c==114) [3] (bc (c==116) [1,3] [])))))))
noncomputable def crB (w:ByteArray) (i:Nat):Nat→List Int
 | 0=>[]
 | k+1=>crL (byteAt w i)++crB w (i+1) k
noncomputable def crW (w:ByteArray):List Int:=crB w 0 w.size
theorem zic {c:Int}:(crL c).length≤2:=by
 unfold crL;cases c==67 <;> cases c==76 <;> cases c==82 <;> cases c==84 <;> cases c==99 <;> cases c==108 <;> cases c==114 <;> cases c==116 <;> decide
theorem zkr {w:ByteArray}:∀ (k i:Nat),(crB w i k).length≤2*k
 | 0,i=>by unfold crB;exact Nat.zero_le _
 | k+1,i=>by
  unfold crB;rw [List.length_append];have:=zkr (w:=w) k (i+1);have:=zic (c:=byteAt w i);omega
namespace RCrg
noncomputable def RUN (s:ES):ZF:=RZ 97 .nil (fun _=>false) [] [] false s
theorem in_t (c:Int):RUN (st0 97 [.v (.int .u8 c)])=(bc (c==67) (.done (il [(2)]) [] 0) (bc (c==76) (.done (il [(-1)]) [] 0) (bc (c==82) (.done (il [(-3)]) [] 0) (bc (c==84) (.done (il [(-1),(-3)]) [] 0) (bc (c==99) (.done (il [(-2)]) [] 0) (bc (c==108) (.done (il [(1)]) [] 0) (bc (c==114) (.done (il [(3)]) [] 0) (bc (c==116) (.done (il [(1),(3)]) [] 0) (.done (EV.v (Value.slice Option.none 0 0)) [] 0))))))))):=by kernel_rfl
theorem ends (c:Int):EndZ 97 .nil false (st0 97 [.v (.int .u8 c)]) (il (crL c)) [] 0:=by
 have h:=in_t c;unfold crL;cases h1:c==67 <;> rw [h1] at h
 ·cases h2:c==76 <;> rw [h2] at h
  ·cases h3:c==82 <;> rw [h3] at h
   ·cases h4:c==84 <;> rw [h4] at h
    ·cases h5:c==99 <;> rw [h5] at h
     ·cases h6:c==108 <;> rw [h6] at h
      ·cases h7:c==114 <;> rw [h7] at h
       ·cases h8:c==116 <;> rw [h8] at h
        ·exact (EndZ.done h).weak (Weak.nilI _)
        ·exact .done h
       ·exact .done h
      ·exact .done h
     ·exact .done h
    ·exact .done h
   ·exact .done h
  ·exact .done h
 ·exact .done h
end RCrg
noncomputable def spCrg:ZCT:=fun ax=>match ax with
 | [.v (.int .u8 c)]=>some ⟨decide (True),il (crL c),[],0⟩
 | _=>none
theorem zr5:ZCtOk Try.prog 97 spCrg:=fun γ w us ax r hs hc hax hN hfz=>by
 unfold spCrg at hs;split at hs
 case h_2=>cases hs
 rename_i c;obtain ⟨rfl⟩:=Option.some.inj hs;have hc_0:decide (True)=true:=hc;have hc:=of_decide_eq_true hc_0;exact EndZ.calls (RCrg.ends c) (.nil _) (by kernel_rfl) hax hN hfz
noncomputable def ctCg:Tr ZCC:=ctC.put 97 (some (dC spCrg))
theorem zkq:ZCtsOk Try.prog ctCg:=ze4.add rfl zr5
noncomputable def nnx (nn:Bool) (c:Int):Bool:=bc nn true (Nat.blt 0 (crL c).length)
namespace RCrs
noncomputable def RUN (s:ES):ZF:=RZ 75 ctCg (atS 0 75 3) [] [[(0,none),(3,some (1,3,.ints .i64 [])),(4,none)]] false s
noncomputable def sR (s:ByteArray) (q:List Int) (nn:Bool) (i:Int):NS:=⟨[⟨75,18,[(0,(EV.v (Value.string s))),(3,EV.slO 0 1 q.length nn),(4,iv i)],[.it (.code (nav [1,1,0,1,0,0,0] (bodyOf Try.f75))),.it (.code (nav [1,1,0,1,0,0,1] (bodyOf Try.f75))),.it (.inLoop (nav [1,1,0,1,0,0] (bodyOf Try.f75))),.it (.inBlock 0),.it (.code (nav [1,1,1] (bodyOf Try.f75)))],[],Option.none⟩],[(0,EK.seq 3 (.ints .i64 q) nn)],1⟩
theorem in_t (s:ByteArray):RUN (st0 75 [sv s])=(.at (sR s [] false 0)):=by kernel_rfl
theorem step_t (s:ByteArray) (q:List Int) (nn:Bool) (i:Int):RUN (stOf (sR s q nn i))=(bc (decide (i<Int.ofNat (ByteArray.size s))) (bc (bc (bc (decide (0≤i)) (Nat.blt i.toNat (ByteArray.size s)) false) true false) (bc (bc (Nat.beq q.length q.length) (bc (Nat.ble (q.length+(crL (byteAt s i.toNat)).length) 65536) (bc nn true (bc nn false true)) false) false) (.at (sR s (q++crL (byteAt s i.toNat)) (bc nn true (Nat.blt 0 (crL (byteAt s i.toNat)).length)) (IntKind.i64.wrap (i+1)))) .bad) .bad) (bc (Nat.beq q.length q.length) (.done (il q) [] 0) .bad)):=by kernel_rfl
theorem step {s:ByteArray} {q:List Int} {nn:Bool} {i:Nat} (hi:i<s.size) (hs:s.size≤1000) (hq:q.length≤2*i):RUN (stOf (sR s q nn i)) = .at (sR s (q++crL (byteAt s i)) (nnx nn (byteAt s i)) (i+1:Nat)):=by
 rw [step_t];have:=zic (c:=byteAt s i);simp (disch:=omega) only [yS];rfl
theorem last {s:ByteArray} {q:List Int} {nn:Bool} {i:Nat} (hi:s.size≤i):RUN (stOf (sR s q nn i)) = .done (il q) [] 0:=by
 rw [step_t];simp (disch:=omega) only [yS]
theorem loop {s:ByteArray} (hs:s.size≤1000):∀ (k i:Nat) (q:List Int) (nn:Bool),i+k=s.size→q.length≤2*i→EndZ 75 ctCg false (stOf (sR s q nn i)) (il (q++crB s i k)) [] 0
 | 0,i,q,nn,h,hq=>by
  show EndZ _ _ _ _ (il (q++[])) _ _;rw [List.append_nil];exact .done (last (by omega))
 | k+1,i,q,nn,h,hq=>by
  unfold crB;rw [← List.append_assoc];have:=zic (c:=byteAt s i);exact .at zkq (step (by omega) hs hq) (loop hs k (i+1) _ _ (by omega) (by rw [List.length_append];omega))
end RCrs
noncomputable def spRCrs:ZCT:=fun ax=>match ax with
 | [.v (.string s)]=>some ⟨decide (s.size≤1000),il (crW s),[],0⟩
 | _=>none
theorem zoa:ZCtOk Try.prog 75 spRCrs:=fun γ w us ax r hs hc hax hN hfz=>by
 unfold spRCrs at hs;split at hs
 case h_2=>cases hs
 rename_i s;obtain ⟨rfl⟩:=Option.some.inj hs;have hc_0:decide (s.size≤1000)=true:=hc;have hc:=of_decide_eq_true hc_0;exact EndZ.calls (.at zkq (RCrs.in_t s) (RCrs.loop hc s.size 0 [] false (by omega) (Nat.le_refl _))) zkq (by kernel_rfl) hax hN hfz
noncomputable def tw0 (c:Int):Int:=bc (c==76) (-1) (bc (c==84) (-1) (bc (c==108) 1 (bc (c==116) 1 0)))
noncomputable def tw1 (c:Int):Int:=bc (c==67) 1 (bc (c==99) (-1) 0)
noncomputable def tw2 (c:Int):Int:=bc (c==82) (-1) (bc (c==84) (-1) (bc (c==114) 1 (bc (c==116) 1 0)))
noncomputable def twR (c:Int):EV:=.arr (.ints .i64 [tw0 c,tw1 c,tw2 c])
noncomputable abbrev twA (c:Int):EV:=.agg [iv (tw0 c),iv (tw1 c),iv (tw2 c)]
theorem zui (a b c:Int):Weak (.arr (.ints .i64 [a,b,c])) (.agg [iv a,iv b,iv c]):=fun γ x h=>by
 cases h with
 | arr _ vs h=>
  injection (show some [Value.int .i64 a,.int .i64 b,.int .i64 c]=some vs from h) with h
  subst h;exact .agg _ _ rfl (ECL.cons (.v _) (ECL.cons (.v _) (ECL.cons (.v _) (ECL.nil γ)))).2
namespace PTws
noncomputable def RUN (s:ES):ZF:=RZ 100 .nil (fun _=>false) [] [] false s
theorem ends (c:Int) (h:Let c):EndZ 100 .nil false (st0 100 [.v (.int .u8 c)]) (twR c) [] 0:=by
 rcases h with rfl|rfl|rfl|rfl|rfl|rfl|rfl|rfl|rfl
 ·exact .done (show RUN (st0 100 [.v (.int .u8 67)]) = .done (twR 67) [] 0 by kernel_rfl)
 ·exact .done (show RUN (st0 100 [.v (.int .u8 84)]) = .done (twR 84) [] 0 by kernel_rfl)
 ·exact .done (show RUN (st0 100 [.v (.int .u8 76)]) = .done (twR 76) [] 0 by kernel_rfl)
 ·exact .done (show RUN (st0 100 [.v (.int .u8 82)]) = .done (twR 82) [] 0 by kernel_rfl)
 ·exact .done (show RUN (st0 100 [.v (.int .u8 80)]) = .done (twR 80) [] 0 by kernel_rfl)
 ·exact .done (show RUN (st0 100 [.v (.int .u8 99)]) = .done (twR 99) [] 0 by kernel_rfl)
 ·exact .done (show RUN (st0 100 [.v (.int .u8 116)]) = .done (twR 116) [] 0 by kernel_rfl)
 ·exact .done (show RUN (st0 100 [.v (.int .u8 108)]) = .done (twR 108) [] 0 by kernel_rfl)
 ·exact .done (show RUN (st0 100 [.v (.int .u8 114)]) = .done (twR 114) [] 0 by kernel_rfl)
end PTws
noncomputable def spTws:ZCT:=fun ax=>match ax with
 | [.v (.int .u8 c)]=>some ⟨decide (Let c),twA c,[],0⟩
 | _=>none
theorem zrq:ZCtOk Try.prog 100 spTws:=fun γ w us ax r hs hc hax hN hfz=>by
 unfold spTws at hs;split at hs
 case h_2=>cases hs
 rename_i c;obtain ⟨rfl⟩:=Option.some.inj hs;have hc_0:decide (Let c)=true:=hc;have hc:=of_decide_eq_true hc_0;exact EndZ.calls ((PTws.ends c hc).weak (zui _ _ _)) (.nil _) (by kernel_rfl) hax hN hfz
noncomputable def ctTw:Tr ZCC:=Tr.nil.put 100 (some (dC spTws))
theorem zko:ZCtsOk Try.prog ctTw:=(ZCtsOk.nil _).add rfl zrq
namespace PCrs
noncomputable def RUN (s:ES):ZF:=RZ 79 ctTw (atS 0 79 3) [] [[(0,none),(3,some (1,3,.ints .i64 [])),(8,none),(9,none)]] false s
noncomputable def sR (s:ByteArray) (q:List Int) (nn:Bool) (i:Int):NS:=⟨[⟨79,32,[(0,(EV.v (Value.string s))),(3,EV.slO 0 1 q.length nn),(8,(iv (Int.ofNat (ByteArray.size s)))),(9,iv i)],[.it (.code (nav [1,1,0,1,0,0] (bodyOf Try.f79))),.it (.inLoop (nav [1,1,0,1,0,0] (bodyOf Try.f79))),.it (.inBlock 0),.it (.code (nav [1,1,1] (bodyOf Try.f79)))],[],Option.none⟩],[(0,EK.seq 3 (.ints .i64 q) nn)],1⟩
theorem in_t (s:ByteArray):RUN (st0 79 [sv s])=(.at (sR s [] false 0)):=by kernel_rfl
theorem step_t (s:ByteArray) (q:List Int) (nn:Bool) (i:Int):RUN (stOf (sR s q nn i))=(bc (decide (i<Int.ofNat (ByteArray.size s))) (bc (bc (bc (decide (0≤i)) (Nat.blt i.toNat (ByteArray.size s)) false) true false) (bc (bc (decide (Let (byteAt s i.toNat))) true false) (bc (tw0 (byteAt s i.toNat) != 0) (bc (bc (Nat.beq q.length q.length) (bc (Nat.ble (q.length+([IntKind.i64.wrap (tw0 (byteAt s i.toNat)*IntKind.i64.wrap ((0:Int)+1))]).length) 65536) (bc nn true (bc nn false true)) false) false) (bc (tw1 (byteAt s i.toNat) != 0) (bc (bc (Nat.beq (q++[IntKind.i64.wrap (tw0 (byteAt s i.toNat)*IntKind.i64.wrap ((0:Int)+1))]).length (q++[IntKind.i64.wrap (tw0 (byteAt s i.toNat)*IntKind.i64.wrap ((0:Int)+1))]).length) (bc (Nat.ble ((q++[IntKind.i64.wrap (tw0 (byteAt s i.toNat)*IntKind.i64.wrap ((0:Int)+1))]).length+([IntKind.i64.wrap (tw1 (byteAt s i.toNat)*IntKind.i64.wrap (IntKind.i64.wrap ((0:Int)+1)+1))]).length) 65536) (bc (bc nn true (Nat.blt 0 ([IntKind.i64.wrap (tw0 (byteAt s i.toNat)*IntKind.i64.wrap ((0:Int)+1))]).length)) true (bc (bc nn true (Nat.blt 0 ([IntKind.i64.wrap (tw0 (byteAt s i.toNat)*IntKind.i64.wrap ((0:Int)+1))]).length)) false true)) false) false) (bc (tw2 (byteAt s i.toNat) != 0) (bc (bc (Nat.beq (q++[IntKind.i64.wrap (tw0 (byteAt s i.toNat)*IntKind.i64.wrap ((0:Int)+1))]++[IntKind.i64.wrap (tw1 (byteAt s i.toNat)*IntKind.i64.wrap (IntKind.i64.wrap ((0:Int)+1)+1))]).length (q++[IntKind.i64.wrap (tw0 (byteAt s i.toNat)*IntKind.i64.wrap ((0:Int)+1))]++[IntKind.i64.wrap (tw1 (byteAt s i.toNat)*IntKind.i64.wrap (IntKind.i64.wrap ((0:Int)+1)+1))]).length) (bc (Nat.ble ((q++[IntKind.i64.wrap (tw0 (byteAt s i.toNat)*IntKind.i64.wrap ((0:Int)+1))]++[IntKind.i64.wrap (tw1 (byteAt s i.toNat)*IntKind.i64.wrap (IntKind.i64.wrap ((0:Int)+1)+1))]).length+([IntKind.i64.wrap (tw2 (byteAt s i.toNat)*IntKind.i64.wrap (IntKind.i64.wrap (IntKind.i64.wrap ((0:Int)+1)+1)+1))]).length) 65536) (bc (bc (bc nn true (Nat.blt 0 ([IntKind.i64.wrap (tw0 (byteAt s i.toNat)*IntKind.i64.wrap ((0:Int)+1))]).length)) true (Nat.blt 0 ([IntKind.i64.wrap (tw1 (byteAt s i.toNat)*IntKind.i64.wrap (IntKind.i64.wrap ((0:Int)+1)+1))]).length)) true (bc (bc (bc nn true (Nat.blt 0 ([IntKind.i64.wrap (tw0 (byteAt s i.toNat)*IntKind.i64.wrap ((0:Int)+1))]).length)) true (Nat.blt 0 ([IntKind.i64.wrap (tw1 (byteAt s i.toNat)*IntKind.i64.wrap (IntKind.i64.wrap ((0:Int)+1)+1))]).length)) false true)) false) false) (.at (sR s (q++[IntKind.i64.wrap (tw0 (byteAt s i.toNat)*IntKind.i64.wrap ((0:Int)+1))]++[IntKind.i64.wrap (tw1 (byteAt s i.toNat)*IntKind.i64.wrap (IntKind.i64.wrap ((0:Int)+1)+1))]++[IntKind.i64.wrap (tw2 (byteAt s i.toNat)*IntKind.i64.wrap (IntKind.i64.wrap (IntKind.i64.wrap ((0:Int)+1)+1)+1))]) (bc (bc (bc nn true (Nat.blt 0 ([IntKind.i64.wrap (tw0 (byteAt s i.toNat)*IntKind.i64.wrap ((0:Int)+1))]).length)) true (Nat.blt 0 ([IntKind.i64.wrap (tw1 (byteAt s i.toNat)*IntKind.i64.wrap (IntKind.i64.wrap ((0:Int)+1)+1))]).length)) true (Nat.blt 0 ([IntKind.i64.wrap (tw2 (byteAt s i.toNat)*IntKind.i64.wrap (IntKind.i64.wrap (IntKind.i64.wrap ((0:Int)+1)+1)+1))]).length)) (IntKind.i64.wrap (i+1)))) .bad) (.at (sR s (q++[IntKind.i64.wrap (tw0 (byteAt s i.toNat)*IntKind.i64.wrap ((0:Int)+1))]++[IntKind.i64.wrap (tw1 (byteAt s i.toNat)*IntKind.i64.wrap (IntKind.i64.wrap ((0:Int)+1)+1))]) (bc (bc nn true (Nat.blt 0 ([IntKind.i64.wrap (tw0 (byteAt s i.toNat)*IntKind.i64.wrap ((0:Int)+1))]).length)) true (Nat.blt 0 ([IntKind.i64.wrap (tw1 (byteAt s i.toNat)*IntKind.i64.wrap (IntKind.i64.wrap ((0:Int)+1)+1))]).length)) (IntKind.i64.wrap (i+1))))) .bad) (bc (tw2 (byteAt s i.toNat) != 0) (bc (bc (Nat.beq (q++[IntKind.i64.wrap (tw0 (byteAt s i.toNat)*IntKind.i64.wrap ((0:Int)+1))]).length (q++[IntKind.i64.wrap (tw0 (byteAt s i.toNat)*IntKind.i64.wrap ((0:Int)+1))]).length) (bc (Nat.ble ((q++[IntKind.i64.wrap (tw0 (byteAt s i.toNat)*IntKind.i64.wrap ((0:Int)+1))]).length+([IntKind.i64.wrap (tw2 (byteAt s i.toNat)*IntKind.i64.wrap (IntKind.i64.wrap (IntKind.i64.wrap ((0:Int)+1)+1)+1))]).length) 65536) (bc (bc nn true (Nat.blt 0 ([IntKind.i64.wrap (tw0 (byteAt s i.toNat)*IntKind.i64.wrap ((0:Int)+1))]).length)) true (bc (bc nn true (Nat.blt 0 ([IntKind.i64.wrap (tw0 (byteAt s i.toNat)*IntKind.i64.wrap ((0:Int)+1))]).length)) false true)) false) false) (.at (sR s (q++[IntKind.i64.wrap (tw0 (byteAt s i.toNat)*IntKind.i64.wrap ((0:Int)+1))]++[IntKind.i64.wrap (tw2 (byteAt s i.toNat)*IntKind.i64.wrap (IntKind.i64.wrap (IntKind.i64.wrap ((0:Int)+1)+1)+1))]) (bc (bc nn true (Nat.blt 0 ([IntKind.i64.wrap (tw0 (byteAt s i.toNat)*IntKind.i64.wrap ((0:Int)+1))]).length)) true (Nat.blt 0 ([IntKind.i64.wrap (tw2 (byteAt s i.toNat)*IntKind.i64.wrap (IntKind.i64.wrap (IntKind.i64.wrap ((0:Int)+1)+1)+1))]).length)) (IntKind.i64.wrap (i+1)))) .bad) (.at (sR s (q++[IntKind.i64.wrap (tw0 (byteAt s i.toNat)*IntKind.i64.wrap ((0:Int)+1))]) (bc nn true (Nat.blt 0 ([IntKind.i64.wrap (tw0 (byteAt s i.toNat)*IntKind.i64.wrap ((0:Int)+1))]).length)) (IntKind.i64.wrap (i+1)))))) .bad) (bc (tw1 (byteAt s i.toNat) != 0) (bc (bc (Nat.beq q.length q.length) (bc (Nat.ble (q.length+([IntKind.i64.wrap (tw1 (byteAt s i.toNat)*IntKind.i64.wrap (IntKind.i64.wrap ((0:Int)+1)+1))]).length) 65536) (bc nn true (bc nn false true)) false) false) (bc (tw2 (byteAt s i.toNat) != 0) (bc (bc (Nat.beq (q++[IntKind.i64.wrap (tw1 (byteAt s i.toNat)*IntKind.i64.wrap (IntKind.i64.wrap ((0:Int)+1)+1))]).length (q++[IntKind.i64.wrap (tw1 (byteAt s i.toNat)*IntKind.i64.wrap (IntKind.i64.wrap ((0:Int)+1)+1))]).length) (bc (Nat.ble ((q++[IntKind.i64.wrap (tw1 (byteAt s i.toNat)*IntKind.i64.wrap (IntKind.i64.wrap ((0:Int)+1)+1))]).length+([IntKind.i64.wrap (tw2 (byteAt s i.toNat)*IntKind.i64.wrap (IntKind.i64.wrap (IntKind.i64.wrap ((0:Int)+1)+1)+1))]).length) 65536) (bc (bc nn true (Nat.blt 0 ([IntKind.i64.wrap (tw1 (byteAt s i.toNat)*IntKind.i64.wrap (IntKind.i64.wrap ((0:Int)+1)+1))]).length)) true (bc (bc nn true (Nat.blt 0 ([IntKind.i64.wrap (tw1 (byteAt s i.toNat)*IntKind.i64.wrap (IntKind.i64.wrap ((0:Int)+1)+1))]).length)) false true)) false) false) (.at (sR s (q++[IntKind.i64.wrap (tw1 (byteAt s i.toNat)*IntKind.i64.wrap (IntKind.i64.wrap ((0:Int)+1)+1))]++[IntKind.i64.wrap (tw2 (byteAt s i.toNat)*IntKind.i64.wrap (IntKind.i64.wrap (IntKind.i64.wrap ((0:Int)+1)+1)+1))]) (bc (bc nn true (Nat.blt 0 ([IntKind.i64.wrap (tw1 (byteAt s i.toNat)*IntKind.i64.wrap (IntKind.i64.wrap ((0:Int)+1)+1))]).length)) true (Nat.blt 0 ([IntKind.i64.wrap (tw2 (byteAt s i.toNat)*IntKind.i64.wrap (IntKind.i64.wrap (IntKind.i64.wrap ((0:Int)+1)+1)+1))]).length)) (IntKind.i64.wrap (i+1)))) .bad) (.at (sR s (q++[IntKind.i64.wrap (tw1 (byteAt s i.toNat)*IntKind.i64.wrap (IntKind.i64.wrap ((0:Int)+1)+1))]) (bc nn true (Nat.blt 0 ([IntKind.i64.wrap (tw1 (byteAt s i.toNat)*IntKind.i64.wrap (IntKind.i64.wrap ((0:Int)+1)+1))]).length)) (IntKind.i64.wrap (i+1))))) .bad) (bc (tw2 (byteAt s i.toNat) != 0) (bc (bc (Nat.beq q.length q.length) (bc (Nat.ble (q.length+([IntKind.i64.wrap (tw2 (byteAt s i.toNat)*IntKind.i64.wrap (IntKind.i64.wrap (IntKind.i64.wrap ((0:Int)+1)+1)+1))]).length) 65536) (bc nn true (bc nn false true)) false) false) (.at (sR s (q++[IntKind.i64.wrap (tw2 (byteAt s i.toNat)*IntKind.i64.wrap (IntKind.i64.wrap (IntKind.i64.wrap ((0:Int)+1)+1)+1))]) (bc nn true (Nat.blt 0 ([IntKind.i64.wrap (tw2 (byteAt s i.toNat)*IntKind.i64.wrap (IntKind.i64.wrap (IntKind.i64.wrap ((0:Int)+1)+1)+1))]).length)) (IntKind.i64.wrap (i+1)))) .bad) (.at (sR s q nn (IntKind.i64.wrap (i+1))))))) .bad) .bad) (bc (Nat.beq q.length q.length) (.done (il q) [] 0) .bad)):=by kernel_rfl
theorem zz:((0:Int) != 0)=false:=rfl
theorem o1:((1:Int) != 0)=true:=rfl
theorem m1:((-1:Int) != 0)=true:=rfl
theorem step {s:ByteArray} {q:List Int} {nn:Bool} {i:Nat} (hi:i<s.size) (hs:s.size≤1000) (hq:q.length≤2*i) (hl:Let (byteAt s i)):RUN (stOf (sR s q nn i)) = .at (sR s (q++crL (byteAt s i)) (nnx nn (byteAt s i)) (i+1:Nat)):=by
 rw [step_t];have e:Int.toNat (i:Int)=i:=rfl;simp only [e,dt hl];generalize byteAt s i=c at hl ⊢;rcases hl with rfl|rfl|rfl|rfl|rfl|rfl|rfl|rfl|rfl
 ·have a0:tw0 67=0:=rfl;have a1:tw1 67=1:=rfl;have a2:tw2 67=0:=rfl;simp (disch:=omega) only [yS,a0,a1,a2,zz,o1,m1,List.map_cons,List.map_nil,List.append_assoc,List.cons_append];cases nn <;> rfl
 ·have a0:tw0 84 = -1:=rfl;have a1:tw1 84=0:=rfl;have a2:tw2 84 = -1:=rfl;simp (disch:=omega) only [yS,a0,a1,a2,zz,o1,m1,List.map_cons,List.map_nil,List.append_assoc,List.cons_append];cases nn <;> rfl
 ·have a0:tw0 76 = -1:=rfl;have a1:tw1 76=0:=rfl;have a2:tw2 76=0:=rfl;simp (disch:=omega) only [yS,a0,a1,a2,zz,o1,m1,List.map_cons,List.map_nil,List.append_assoc,List.cons_append];cases nn <;> rfl
 ·have a0:tw0 82=0:=rfl;have a1:tw1 82=0:=rfl;have a2:tw2 82 = -1:=rfl;simp (disch:=omega) only [yS,a0,a1,a2,zz,o1,m1,List.map_cons,List.map_nil,List.append_assoc,List.cons_append];cases nn <;> rfl
 ·have a0:tw0 80=0:=rfl;have a1:tw1 80=0:=rfl;have a2:tw2 80=0:=rfl;simp (disch:=omega) only [yS,a0,a1,a2,zz,o1,m1,List.map_cons,List.map_nil,List.append_assoc,List.cons_append];rw [show crL 80=[] from rfl,List.append_nil]
  cases nn <;> rfl
 ·have a0:tw0 99=0:=rfl;have a1:tw1 99 = -1:=rfl;have a2:tw2 99=0:=rfl;simp (disch:=omega) only [yS,a0,a1,a2,zz,o1,m1,List.map_cons,List.map_nil,List.append_assoc,List.cons_append];cases nn <;> rfl
 ·have a0:tw0 116=1:=rfl;have a1:tw1 116=0:=rfl;have a2:tw2 116=1:=rfl;simp (disch:=omega) only [yS,a0,a1,a2,zz,o1,m1,List.map_cons,List.map_nil,List.append_assoc,List.cons_append];cases nn <;> rfl
 ·have a0:tw0 108=1:=rfl;have a1:tw1 108=0:=rfl;have a2:tw2 108=0:=rfl;simp (disch:=omega) only [yS,a0,a1,a2,zz,o1,m1,List.map_cons,List.map_nil,List.append_assoc,List.cons_append];cases nn <;> rfl
 ·have a0:tw0 114=0:=rfl;have a1:tw1 114=0:=rfl;have a2:tw2 114=1:=rfl;simp (disch:=omega) only [yS,a0,a1,a2,zz,o1,m1,List.map_cons,List.map_nil,List.append_assoc,List.cons_append];cases nn <;> rfl
theorem last {s:ByteArray} {q:List Int} {nn:Bool} {i:Nat} (hi:s.size≤i):RUN (stOf (sR s q nn i)) = .done (il q) [] 0:=by
 rw [step_t];simp (disch:=omega) only [yS]
theorem loop {s:ByteArray} (hs:s.size≤1000) (hl:∀ j,j<s.size→Let (byteAt s j)):∀ (k i:Nat) (q:List Int) (nn:Bool),i+k=s.size→q.length≤2*i→EndZ 79 ctTw false (stOf (sR s q nn i)) (il (q++crB s i k)) [] 0
 | 0,i,q,nn,h,hq=>by
  show EndZ _ _ _ _ (il (q++[])) _ _;rw [List.append_nil];exact .done (last (by omega))
 | k+1,i,q,nn,h,hq=>by
  unfold crB;rw [← List.append_assoc];have:=zic (c:=byteAt s i);exact .at zko (step (by omega) hs hq (hl i (by omega))) (loop hs hl k (i+1) _ _ (by omega) (by rw [List.length_append];omega))
end PCrs
noncomputable def spPCrs:ZCT:=fun ax=>match ax with
 | [.v (.string s)]=>some ⟨decide (chk3 s=0),il (crW s),[],0⟩
 | _=>none
theorem zoc:ZCtOk Try.prog 79 spPCrs:=fun γ w us ax r hs hc hax hN hfz=>by
 unfold spPCrs at hs;split at hs
 case h_2=>cases hs
 rename_i s;obtain ⟨rfl⟩:=Option.some.inj hs;have hc_0:decide (chk3 s=0)=true:=hc;have hc:=of_decide_eq_true hc_0;exact EndZ.calls (.at zko (PCrs.in_t s) (PCrs.loop (by have:=(zmc hc).1;omega) (fun j hj=>zre hc hj) s.size 0 [] false (by omega) (Nat.le_refl _))) zko (by kernel_rfl) hax hN hfz
noncomputable def spNoP:ZCT:=fun _=>none
theorem zg6:ZCtOk Try.prog 0 spNoP:=fun _ _ _ _ _ h=>by cases h
noncomputable def ctPl:Tr ZCC:=((Tr.nil.put 78 (some (dC spPChk3))).put 79 (some (dC spPCrs))).put 0 (some (dC spNoP))
theorem zia:ZCtsOk Try.prog ctPl:=(((ZCtsOk.nil _).add rfl zge).add rfl zoc).add rfl zg6
namespace PPl3
noncomputable def RUN (s:ES):ZF:=RZs 121 ctPl [(atS 0 121 6,[[(5,none),(16,none),(17,none),(18,none)]]),(atR 0 121 9,[[(5,none),(8,none),(16,none),(17,none),(18,none)]])] [] false s
noncomputable def sP (L q:List Int) (z:Nat) (i:Int):NS:=⟨[⟨121,37,[(5,EV.slO 0 1 z true),(16,il L),(17,iv L.length),(18,iv i)],[.it (.code (nav [1,1,1,0,1,0,0] (bodyOf Try.f121))),.it (.inLoop (nav [1,1,1,0,1,0,0] (bodyOf Try.f121))),.it (.inBlock 0),.it (.code (nav [1,1,1,1] (bodyOf Try.f121)))],[],Option.none⟩],[(0,EK.seq 3 (.ints .i64 q) true)],1⟩
noncomputable def sS (L q:List Int) (z:Nat) (i a:Int):NS:=⟨[⟨121,37,[(5,(EV.slO 0 1 z true)),(8,iv a),(16,il L),(17,iv L.length),(18,iv i)],[.it (.code (nav [1,1,1,0,1,0,0,1,1,0,0,1,1] (bodyOf Try.f121))),.it (.inBlock 1),.it (.code (nav [1,1,1,0,1,0,0,1,1,1] (bodyOf Try.f121))),.it (.inLoop (nav [1,1,1,0,1,0,0] (bodyOf Try.f121))),.it (.inBlock 0),.it (.code (nav [1,1,1,1] (bodyOf Try.f121)))],[],Option.none⟩],[(0,(EK.seq 3 (SyC.ints IntKind.i64 q) true))],1⟩
theorem in_t (s:ByteArray):RUN (st0 121 [sv s])=(bc (chk3 s != 0) (.done (EV.tup [(EV.v (Value.slice Option.none 0 0)),(iv (chk3 s))]) [] 0) (bc (decide (chk3 s=(0:Int))) (.at (sP (crW s) (List.map (fun r=>U.int (List.headD r (U.i 0))) [[U.i 1],[U.i 2],[U.i 3],[U.i 4]]) (4) 0)) .bad)):=by kernel_rfl
theorem p_t (L q:List Int) (z:Nat) (i:Int):RUN (stOf (sP L q z i))=(bc (decide (i<(Nat.cast L.length:Int))) (bc (bc (bc (decide (0≤i)) (Nat.blt i.toNat L.length) false) true false) (bc (bc (Nat.blt i.toNat L.length) true false) (.at (sS L q z i (if IntKind.i64.wrap ((0:Int)-L.getD i.toNat 0) > L.getD i.toNat 0 then IntKind.i64.wrap ((0:Int)-L.getD i.toNat 0) else L.getD i.toNat 0))) .bad) .bad) (bc (bc (Nat.beq z q.length) true false) (.done (EV.tup [(il q),(iv (0))]) [] 0) .bad)):=by kernel_rfl
theorem s1_t (L q:List Int) (z:Nat) (i:Int):RUN (stOf (sS L q z i 1))=(bc (bc (decide (IntKind.i64.wrap ((1:Int)+1)≤Int.ofNat z)) true false) (bc (bc (bc (bc (Nat.blt (Nat.add (IntKind.i64.wrap ((1:Int)-(1:Int))).toNat (IntKind.i64.wrap (Int.ofNat ((IntKind.i64.wrap ((1:Int)+1)).toNat-(IntKind.i64.wrap ((1:Int)-(1:Int))).toNat)-(1:Int))).toNat) q.length) true false) (bc (bc (Nat.blt (Nat.add (IntKind.i64.wrap ((1:Int)-(1:Int))).toNat (0:Int).toNat) q.length) true false) (bc (Nat.blt (Nat.add (IntKind.i64.wrap ((1:Int)-(1:Int))).toNat (0:Int).toNat) q.length) (bc (Nat.blt (Nat.add (IntKind.i64.wrap ((1:Int)-(1:Int))).toNat (IntKind.i64.wrap (Int.ofNat ((IntKind.i64.wrap ((1:Int)+1)).toNat-(IntKind.i64.wrap ((1:Int)-(1:Int))).toNat)-(1:Int))).toNat) (List.set q (Nat.add (IntKind.i64.wrap ((1:Int)-(1:Int))).toNat (0:Int).toNat) (q.getD (Nat.add (IntKind.i64.wrap ((1:Int)-(1:Int))).toNat (IntKind.i64.wrap (Int.ofNat ((IntKind.i64.wrap ((1:Int)+1)).toNat-(IntKind.i64.wrap ((1:Int)-(1:Int))).toNat)-(1:Int))).toNat) (0:Int))).length) true false) false) false) false) true false) (.at (sP L (List.set (List.set q (Nat.add (IntKind.i64.wrap ((1:Int)-(1:Int))).toNat (0:Int).toNat) (q.getD (Nat.add (IntKind.i64.wrap ((1:Int)-(1:Int))).toNat (IntKind.i64.wrap (Int.ofNat ((IntKind.i64.wrap ((1:Int)+1)).toNat-(IntKind.i64.wrap ((1:Int)-(1:Int))).toNat)-(1:Int))).toNat) (0:Int))) (Nat.add (IntKind.i64.wrap ((1:Int)-(1:Int))).toNat (IntKind.i64.wrap (Int.ofNat ((IntKind.i64.wrap ((1:Int)+1)).toNat-(IntKind.i64.wrap ((1:Int)-(1:Int))).toNat)-(1:Int))).toNat) (q.getD (Nat.add (IntKind.i64.wrap ((1:Int)-(1:Int))).toNat (0:Int).toNat) (0:Int))) z (IntKind.i64.wrap (i+1)))) .bad) .bad):=by kernel_rfl
theorem s2_t (L q:List Int) (z:Nat) (i:Int):RUN (stOf (sS L q z i 2))=(bc (bc (decide (IntKind.i64.wrap ((2:Int)+1)≤Int.ofNat z)) true false) (bc (bc (bc (bc (Nat.blt (Nat.add (IntKind.i64.wrap ((2:Int)-(1:Int))).toNat (IntKind.i64.wrap (Int.ofNat ((IntKind.i64.wrap ((2:Int)+1)).toNat-(IntKind.i64.wrap ((2:Int)-(1:Int))).toNat)-(1:Int))).toNat) q.length) true false) (bc (bc (Nat.blt (Nat.add (IntKind.i64.wrap ((2:Int)-(1:Int))).toNat (0:Int).toNat) q.length) true false) (bc (Nat.blt (Nat.add (IntKind.i64.wrap ((2:Int)-(1:Int))).toNat (0:Int).toNat) q.length) (bc (Nat.blt (Nat.add (IntKind.i64.wrap ((2:Int)-(1:Int))).toNat (IntKind.i64.wrap (Int.ofNat ((IntKind.i64.wrap ((2:Int)+1)).toNat-(IntKind.i64.wrap ((2:Int)-(1:Int))).toNat)-(1:Int))).toNat) (List.set q (Nat.add (IntKind.i64.wrap ((2:Int)-(1:Int))).toNat (0:Int).toNat) (q.getD (Nat.add (IntKind.i64.wrap ((2:Int)-(1:Int))).toNat (IntKind.i64.wrap (Int.ofNat ((IntKind.i64.wrap ((2:Int)+1)).toNat-(IntKind.i64.wrap ((2:Int)-(1:Int))).toNat)-(1:Int))).toNat) (0:Int))).length) true false) false) false) false) true false) (.at (sP L (List.set (List.set q (Nat.add (IntKind.i64.wrap ((2:Int)-(1:Int))).toNat (0:Int).toNat) (q.getD (Nat.add (IntKind.i64.wrap ((2:Int)-(1:Int))).toNat (IntKind.i64.wrap (Int.ofNat ((IntKind.i64.wrap ((2:Int)+1)).toNat-(IntKind.i64.wrap ((2:Int)-(1:Int))).toNat)-(1:Int))).toNat) (0:Int))) (Nat.add (IntKind.i64.wrap ((2:Int)-(1:Int))).toNat (IntKind.i64.wrap (Int.ofNat ((IntKind.i64.wrap ((2:Int)+1)).toNat-(IntKind.i64.wrap ((2:Int)-(1:Int))).toNat)-(1:Int))).toNat) (q.getD (Nat.add (IntKind.i64.wrap ((2:Int)-(1:Int))).toNat (0:Int).toNat) (0:Int))) z (IntKind.i64.wrap (i+1)))) .bad) .bad):=by kernel_rfl
theorem s3_t (L q:List Int) (z:Nat) (i:Int):RUN (stOf (sS L q z i 3))=(bc (bc (decide (IntKind.i64.wrap ((3:Int)+1)≤Int.ofNat z)) true false) (bc (bc (bc (bc (Nat.blt (Nat.add (IntKind.i64.wrap ((3:Int)-(1:Int))).toNat (IntKind.i64.wrap (Int.ofNat ((IntKind.i64.wrap ((3:Int)+1)).toNat-(IntKind.i64.wrap ((3:Int)-(1:Int))).toNat)-(1:Int))).toNat) q.length) true false) (bc (bc (Nat.blt (Nat.add (IntKind.i64.wrap ((3:Int)-(1:Int))).toNat (0:Int).toNat) q.length) true false) (bc (Nat.blt (Nat.add (IntKind.i64.wrap ((3:Int)-(1:Int))).toNat (0:Int).toNat) q.length) (bc (Nat.blt (Nat.add (IntKind.i64.wrap ((3:Int)-(1:Int))).toNat (IntKind.i64.wrap (Int.ofNat ((IntKind.i64.wrap ((3:Int)+1)).toNat-(IntKind.i64.wrap ((3:Int)-(1:Int))).toNat)-(1:Int))).toNat) (List.set q (Nat.add (IntKind.i64.wrap ((3:Int)-(1:Int))).toNat (0:Int).toNat) (q.getD (Nat.add (IntKind.i64.wrap ((3:Int)-(1:Int))).toNat (IntKind.i64.wrap (Int.ofNat ((IntKind.i64.wrap ((3:Int)+1)).toNat-(IntKind.i64.wrap ((3:Int)-(1:Int))).toNat)-(1:Int))).toNat) (0:Int))).length) true false) false) false) false) true false) (.at (sP L (List.set (List.set q (Nat.add (IntKind.i64.wrap ((3:Int)-(1:Int))).toNat (0:Int).toNat) (q.getD (Nat.add (IntKind.i64.wrap ((3:Int)-(1:Int))).toNat (IntKind.i64.wrap (Int.ofNat ((IntKind.i64.wrap ((3:Int)+1)).toNat-(IntKind.i64.wrap ((3:Int)-(1:Int))).toNat)-(1:Int))).toNat) (0:Int))) (Nat.add (IntKind.i64.wrap ((3:Int)-(1:Int))).toNat (IntKind.i64.wrap (Int.ofNat ((IntKind.i64.wrap ((3:Int)+1)).toNat-(IntKind.i64.wrap ((3:Int)-(1:Int))).toNat)-(1:Int))).toNat) (q.getD (Nat.add (IntKind.i64.wrap ((3:Int)-(1:Int))).toNat (0:Int).toNat) (0:Int))) z (IntKind.i64.wrap (i+1)))) .bad) .bad):=by kernel_rfl
end PPl3
noncomputable def ctRl:Tr ZCC:=(Tr.nil.put 29 (some (dC spChk3))).put 75 (some (dC spRCrs))
theorem zh9:ZCtsOk Try.prog ctRl:=((ZCtsOk.nil _).add rfl zis).add rfl zoa
namespace RPl3
noncomputable def RUN (s:ES):ZF:=RZs 33 ctRl [(atS 0 33 7,[[(5,none),(6,none),(7,none)]]),(atR 0 33 10,[[(5,none),(6,none),(7,none),(8,none)]])] [] false s
noncomputable def sP (L q:List Int) (z:Nat) (i:Int):NS:=⟨[⟨33,51,[(5,EV.slO 0 1 z true),(6,il L),(7,iv i)],[.it (.code (nav [1,1,1,1,1,0,1,0,0,0] (bodyOf Try.f33))),.it (.code (nav [1,1,1,1,1,0,1,0,0,1] (bodyOf Try.f33))),.it (.inLoop (nav [1,1,1,1,1,0,1,0,0] (bodyOf Try.f33))),.it (.inBlock 0),.it (.code (nav [1,1,1,1,1,1] (bodyOf Try.f33)))],[],Option.none⟩],[(0,EK.seq 3 (.ints .i64 q) true)],1⟩
noncomputable def sS (L q:List Int) (z:Nat) (i a:Int):NS:=⟨[⟨33,51,[(5,(EV.slO 0 1 z true)),(6,il L),(7,iv i),(8,iv a)],[.it (.code (nav [1,1,1,1,1,0,1,0,0,1,0,0,1] (bodyOf Try.f33))),.it (.inBlock 1),.it (.code (nav [1,1,1,1,1,0,1,0,0,1,1] (bodyOf Try.f33))),.it (.inLoop (nav [1,1,1,1,1,0,1,0,0] (bodyOf Try.f33))),.it (.inBlock 0),.it (.code (nav [1,1,1,1,1,1] (bodyOf Try.f33)))],[],Option.none⟩],[(0,(EK.seq 3 (SyC.ints IntKind.i64 q) true))],1⟩
theorem in_t (s:ByteArray):RUN (st0 33 [sv s])=(bc (chk3 s != 0) (.done (EV.tup [(EV.v (Value.slice Option.none 0 0)),(iv (chk3 s))]) [] 0) (bc (decide (ByteArray.size s≤1000)) (.at (sP (crW s) (List.map (fun r=>U.int (List.headD r (U.i 0))) [[U.i 1],[U.i 2],[U.i 3],[U.i 4]]) (4) 0)) .bad)):=by kernel_rfl
theorem p_t (L q:List Int) (z:Nat) (i:Int):RUN (stOf (sP L q z i))=(bc (decide (i<Int.ofNat L.length)) (bc (bc (bc (bc (bc (decide (0≤i)) (Nat.blt i.toNat L.length) false) true false) (bc (bc (Nat.blt i.toNat L.length) true false) (bc (bc (bc (decide (0≤i)) (Nat.blt i.toNat L.length) false) true false) (bc (bc (Nat.blt i.toNat L.length) true false) true false) false) false) false) true false) (.at (sS L q z i (IntKind.i64.wrap ((if IntKind.i64.wrap ((0:Int)-L.getD i.toNat 0) > L.getD i.toNat 0 then IntKind.i64.wrap ((0:Int)-L.getD i.toNat 0) else L.getD i.toNat 0)-(1:Int))))) .bad) (bc (bc (Nat.beq z q.length) true false) (.done (EV.tup [(il q),(iv (0))]) [] 0) .bad)):=by kernel_rfl
theorem s_t (L q:List Int) (z:Nat) (i a:Int):RUN (stOf (sS L q z i a))=(bc (bc (bc (bc (bc (decide (0≤IntKind.i64.wrap (a+1))) (Nat.blt (IntKind.i64.wrap (a+1)).toNat z) false) true false) (bc (bc (Nat.blt (IntKind.i64.wrap (a+1)).toNat q.length) true false) (bc (bc (bc (decide (0≤a)) (Nat.blt a.toNat z) false) true false) (bc (bc (Nat.blt a.toNat q.length) true false) (bc (bc (bc (decide (0≤a)) (Nat.blt a.toNat z) false) true false) (bc (Nat.blt a.toNat q.length) (bc (bc (bc (decide (0≤IntKind.i64.wrap (a+1))) (Nat.blt (IntKind.i64.wrap (a+1)).toNat z) false) true false) (bc (Nat.blt (IntKind.i64.wrap (a+1)).toNat (List.set q a.toNat (q.getD (IntKind.i64.wrap (a+1)).toNat 0)).length) true false) false) false) false) false) false) false) false) true false) (.at (sP L (List.set (List.set q a.toNat (q.getD (IntKind.i64.wrap (a+1)).toNat 0)) (IntKind.i64.wrap (a+1)).toNat (q.getD a.toNat 0)) z (IntKind.i64.wrap (i+1)))) .bad):=by kernel_rfl
end RPl3
def CrN (n:Int):Prop:=n=1∨n=2∨n=3∨n = -1∨n = -2∨n = -3
theorem zw8 (c:Int):∀ x,x∈crL c→CrN x:=by
 unfold crL CrN;intro x;cases c==67 <;> cases c==76 <;> cases c==82 <;> cases c==84 <;> cases c==99 <;> cases c==108 <;> cases c==114 <;> cases c==116 <;> simp [bc] <;> omega
theorem zl9 (s:ByteArray):∀ (k i:Nat) (x:Int),x∈crB s i k→CrN x
 | 0,i,x,h=>by simp [crB] at h
 | k+1,i,x,h=>by
  unfold crB at h;rcases List.mem_append.1 h with h|h
  ·exact zw8 _ x h
  ·exact zl9 s k (i+1) x h
def swpQ (q:List Int) (p:Nat):List Int:=(q.set p (q.getD (p+1) 0)).set (p+1) (q.getD p 0)
theorem zg2 (q:List Int) (p:Nat):(swpQ q p).length=q.length:=by unfold swpQ;rw [List.length_set,List.length_set]
def plcQ (q L:List Int):List Int:=L.foldl (fun q n=>swpQ q (n.natAbs-1)) q
noncomputable def plWd (w:ByteArray):List Int:=plcQ [1,2,3,4] (crW w)
noncomputable def plEd (w:ByteArray):List Int:=bc (chk3 w != 0) [] (plWd w)
theorem absI {n:Int} (h:CrN n):(if IntKind.i64.wrap (0-n) > n then IntKind.i64.wrap (0-n) else n)=(n.natAbs:Int):=by
 rcases h with rfl|rfl|rfl|rfl|rfl|rfl <;> decide
theorem CrN.abs {n:Int} (h:CrN n):n.natAbs=1∨n.natAbs=2∨n.natAbs=3:=by
 rcases h with rfl|rfl|rfl|rfl|rfl|rfl <;> decide
namespace PPl3
theorem sStep {L q:List Int} {i a:Nat} (hq:q.length=4) (hL:L.length≤1000) (hi:i≤1000) (ha:a=1∨a=2∨a=3):RUN (stOf (sS L q 4 i a)) = .at (sP L (swpQ q (a-1)) 4 (i+1:Nat)):=by
 have w11:IntKind.i64.wrap (1-1)=0:=by decide
 have w1p:IntKind.i64.wrap (1+1)=2:=by decide
 have w21:IntKind.i64.wrap (2-1)=1:=by decide
 have w2p:IntKind.i64.wrap (2+1)=3:=by decide
 have w31:IntKind.i64.wrap (3-1)=2:=by decide
 have w3p:IntKind.i64.wrap (3+1)=4:=by decide
 have t0:Int.toNat 0=0:=rfl;have t1:Int.toNat 1=1:=rfl;have t2:Int.toNat 2=2:=rfl;have t3:Int.toNat 3=3:=rfl;have t4:Int.toNat 4=4:=rfl;have s1:IntKind.i64.wrap (Int.ofNat (2-0)-1)=1:=by decide
 have s2:IntKind.i64.wrap (Int.ofNat (3-1)-1)=1:=by decide
 have s3:IntKind.i64.wrap (Int.ofNat (4-2)-1)=1:=by decide
 rcases ha with rfl|rfl|rfl
 ·have h:=s1_t L q 4 i;simp only [w11,w1p,t0,t1,t2,s1] at h;simp (disch:=omega) only [yS,hq,List.length_set] at h;exact h
 ·have h:=s2_t L q 4 i;simp only [w21,w2p,t0,t1,t2,t3,s2] at h;simp (disch:=omega) only [yS,hq,List.length_set] at h;exact h
 ·have h:=s3_t L q 4 i;simp only [w31,w3p,t0,t1,t2,t3,t4,s3] at h;simp (disch:=omega) only [yS,hq,List.length_set] at h;exact h
theorem loop {L:List Int} (hL:L.length≤1000) (hc:∀ x,x∈L→CrN x):∀ (k i:Nat) (q:List Int),i+k=L.length→q.length=4→EndZ 121 ctPl false (stOf (sP L q 4 i)) (.tup [il (plcQ q (L.drop i)),iv 0]) [] 0
 | 0,i,q,h,hq=>by
  have h1:=p_t L q 4 i;rw [List.drop_eq_nil_of_le (by omega)];simp (disch:=omega) only [yS,hq] at h1;exact .done h1
 | k+1,i,q,h,hq=>by
  have hi:i<L.length:=by omega
  have hn:=hc L[i] (List.getElem_mem hi);have h1:=p_t L q 4 i;have e:L.getD i 0=L[i]:=zaf hi;rw [za1,e,absI hn] at h1;simp (disch:=omega) only [ofn,dt,bltD,bc_t,bc_b] at h1;rw [List.drop_eq_getElem_cons hi];exact .at zia h1 (.at zia (sStep hq hL (by omega) hn.abs) (loop hL hc k (i+1) _ (by omega) (by rw [zg2];exact hq)))
theorem ends (s:ByteArray):EndZ 121 ctPl false (st0 121 [sv s]) (.tup [il (plEd s),iv (chk3 s)]) [] 0:=by
 have h:=in_t s;unfold plEd;cases h1:(chk3 s != 0) <;> rw [h1] at h
 ·have e:chk3 s=0:=by simpa using h1
  rw [bc_f,dt e,bc_t] at h;rw [e];have hl:(crW s).length≤1000:=by
   have h1:=(zmc e).1;have h2:(crW s).length≤2*s.size:=zkr s.size 0;omega
  exact .at zia h (loop hl (zl9 s s.size 0) (crW s).length 0 [1,2,3,4] (Nat.zero_add _) rfl)
 ·exact (EndZ.done h).weak (.tup (.cons (Weak.nilI _) (.cons (Weak.refl _) .nil)))
end PPl3
noncomputable def spPPl3:ZCT:=fun ax=>match ax with
 | [.v (.string s)]=>some ⟨decide (True),.tup [il (plEd s),iv (chk3 s)],[],0⟩
 | _=>none
theorem zob:ZCtOk Try.prog 121 spPPl3:=fun γ w us ax r hs hc hax hN hfz=>by
 unfold spPPl3 at hs;split at hs
 case h_2=>cases hs
 rename_i s;obtain ⟨rfl⟩:=Option.some.inj hs;have hc_0:decide (True)=true:=hc;have hc:=of_decide_eq_true hc_0;exact EndZ.calls (PPl3.ends s) zia (by kernel_rfl) hax hN hfz
namespace RPl3
theorem sStep {L q:List Int} {i a:Nat} (hq:q.length=4) (hi:i≤1000) (ha:a≤2):RUN (stOf (sS L q 4 i a)) = .at (sP L (swpQ q a) 4 (i+1:Nat)):=by
 rw [s_t];simp (disch:=omega) only [yS,hq,List.length_set];rfl
theorem loop {L:List Int} (hL:L.length≤1000) (hc:∀ x,x∈L→CrN x):∀ (k i:Nat) (q:List Int),i+k=L.length→q.length=4→EndZ 33 ctRl false (stOf (sP L q 4 i)) (.tup [il (plcQ q (L.drop i)),iv 0]) [] 0
 | 0,i,q,h,hq=>by
  have h1:=p_t L q 4 i;rw [List.drop_eq_nil_of_le (by omega)];simp (disch:=omega) only [yS,hq] at h1;exact .done h1
 | k+1,i,q,h,hq=>by
  have hi:i<L.length:=by omega
  have hn:=hc L[i] (List.getElem_mem hi);have h1:=p_t L q 4 i;have e:L.getD i 0=L[i]:=zaf hi;have hb:=hn.abs;have e2:IntKind.i64.wrap ((L[i].natAbs:Int)-1)=((L[i].natAbs-1:Nat):Int):=by
   rw [zao _ (by omega) (by omega)];omega
  rw [za1,e,absI hn,e2] at h1;simp (disch:=omega) only [ofn,dt,bltD,bc_t,bc_b] at h1;rw [List.drop_eq_getElem_cons hi];exact .at zh9 h1 (.at zh9 (sStep hq (by omega) (by omega)) (loop hL hc k (i+1) _ (by omega) (by rw [zg2];exact hq)))
theorem ends (s:ByteArray):EndZ 33 ctRl false (st0 33 [sv s]) (.tup [il (plEd s),iv (chk3 s)]) [] 0:=by
 have h:=in_t s;unfold plEd;cases h1:(chk3 s != 0) <;> rw [h1] at h
 ·have e:chk3 s=0:=by simpa using h1
  have hs:=(zmc e).1;rw [bc_f,dt (show s.size≤1000 by omega),bc_t] at h;rw [e];have hl:(crW s).length≤1000:=by
   have h2:(crW s).length≤2*s.size:=zkr s.size 0;omega
  exact .at zh9 h (loop hl (zl9 s s.size 0) (crW s).length 0 [1,2,3,4] (Nat.zero_add _) rfl)
 ·exact (EndZ.done h).weak (.tup (.cons (Weak.nilI _) (.cons (Weak.refl _) .nil)))
end RPl3
noncomputable def spRPl3:ZCT:=fun ax=>match ax with
 | [.v (.string s)]=>some ⟨decide (True),.tup [il (plEd s),iv (chk3 s)],[],0⟩
 | _=>none
theorem zir:ZCtOk Try.prog 33 spRPl3:=fun γ w us ax r hs hc hax hN hfz=>by
 unfold spRPl3 at hs;split at hs
 case h_2=>cases hs
 rename_i s;obtain ⟨rfl⟩:=Option.some.inj hs;have hc_0:decide (True)=true:=hc;have hc:=of_decide_eq_true hc_0;exact EndZ.calls (RPl3.ends s) zh9 (by kernel_rfl) hax hN hfz
noncomputable def ctMv:Tr ZCC:=(Tr.nil.put 121 (some (dC spPPl3))).put 0 (some (dC spNoP))
theorem zez:ZCtsOk Try.prog ctMv:=((ZCtsOk.nil _).add rfl zob).add rfl zg6
namespace PMov
noncomputable abbrev args (n:Nat) (k a:Int) (w:ByteArray) (u:Bool):List EV:=[.slO 0 1 n true,.agg [iv k,iv a,sv w],bv u]
noncomputable abbrev argv (n:Nat) (k a:Int) (w:ByteArray) (u:Bool):List EV:=[.slO 0 1 n true,.v (.agg ⟨[.int .i64 k,.int .i64 a,.string w]⟩),bv u]
noncomputable def RUN (s:ES):ZF:=RMs 1 95 ctMv [(atS 0 95 5,[[(2,none),(8,none),(9,none),(30,none),(31,none),(32,none)]])] [] [] s
noncomputable abbrev K0 (q:List Int):List (Nat×EK):=[(0,.seq 3 (.ints .i64 q) true)]
noncomputable def sM (q was P:List Int) (u:Bool) (o n:Nat) (i:Int):NS:=⟨[⟨95,53,[(2,bv u),(8,EV.slX 0 1 o n),(9,(EV.ptr 1 0)),(30,il P),(31,iv P.length),(32,iv i)],[.it (.code (nav [1,1,1,1,1,0,0] (bodyOf Try.f95))),.it (.inLoop (nav [1,1,1,1,1,0,0] (bodyOf Try.f95))),.it (.inBlock 0)],[],Option.none⟩],[(0,(EK.seq 3 (SyC.ints IntKind.i64 q) true)),(1,EK.seq 53 (.ints .i64 was) true)],2⟩
theorem in_t (k a:Int) (w:ByteArray) (u:Bool) (q:List Int):RUN (st0m 95 (args q.length k a w u) (K0 q) 1)=(bc (bc (bc (decide (0≤IntKind.i64.wrap ((2:Int)*a))) (bc (decide (IntKind.i64.wrap ((2:Int)*a)≤IntKind.i64.wrap (IntKind.i64.wrap ((2:Int)*a)+4))) (decide (IntKind.i64.wrap (IntKind.i64.wrap ((2:Int)*a)+4)≤Int.ofNat q.length)) false) false) true false) (bc (Nat.ble 4 ((IntKind.i64.wrap (IntKind.i64.wrap ((2:Int)*a)+4)).toNat-(IntKind.i64.wrap ((2:Int)*a)).toNat)) (bc (bc (Nat.ble (Nat.add (Nat.add (Nat.mul (IntKind.i64.wrap ((2:Int)*a)).toNat 1) 0) 4) q.length) true false) (bc (bc (Nat.beq (List.take 4 (List.drop (Nat.add (Nat.mul (IntKind.i64.wrap ((2:Int)*a)).toNat 1) 0) q)).length 4) (Nat.beq (zerosL 4).length 4) false) (.at (sM q (List.take 4 (List.drop (Nat.add (Nat.mul (IntKind.i64.wrap ((2:Int)*a)).toNat 1) 0) q)) (plEd w) u (IntKind.i64.wrap ((2:Int)*a)).toNat ((IntKind.i64.wrap (IntKind.i64.wrap ((2:Int)*a)+4)).toNat-(IntKind.i64.wrap ((2:Int)*a)).toNat) 0)) .bad) .bad) .bad) .bad):=by kernel_rfl
theorem in2_t (k a:Int) (w:ByteArray) (u:Bool) (q:List Int):RUN (st0m 95 (argv q.length k a w u) (K0 q) 1)=(bc (bc (bc (decide (0≤IntKind.i64.wrap ((2:Int)*a))) (bc (decide (IntKind.i64.wrap ((2:Int)*a)≤IntKind.i64.wrap (IntKind.i64.wrap ((2:Int)*a)+4))) (decide (IntKind.i64.wrap (IntKind.i64.wrap ((2:Int)*a)+4)≤Int.ofNat q.length)) false) false) true false) (bc (Nat.ble 4 ((IntKind.i64.wrap (IntKind.i64.wrap ((2:Int)*a)+4)).toNat-(IntKind.i64.wrap ((2:Int)*a)).toNat)) (bc (bc (Nat.ble (Nat.add (Nat.add (Nat.mul (IntKind.i64.wrap ((2:Int)*a)).toNat 1) 0) 4) q.length) true false) (bc (bc (Nat.beq (List.take 4 (List.drop (Nat.add (Nat.mul (IntKind.i64.wrap ((2:Int)*a)).toNat 1) 0) q)).length 4) (Nat.beq (zerosL 4).length 4) false) (.at (sM q (List.take 4 (List.drop (Nat.add (Nat.mul (IntKind.i64.wrap ((2:Int)*a)).toNat 1) 0) q)) (plEd w) u (IntKind.i64.wrap ((2:Int)*a)).toNat ((IntKind.i64.wrap (IntKind.i64.wrap ((2:Int)*a)+4)).toNat-(IntKind.i64.wrap ((2:Int)*a)).toNat) 0)) .bad) .bad) .bad) .bad):=by kernel_rfl
theorem m_t (q was P:List Int) (u:Bool) (o n:Nat) (i:Int):RUN (stOf (sM q was P u o n i))=(bc (decide (i<(Nat.cast P.length:Int))) (bc (bc (bc (decide (0≤i)) (Nat.blt i.toNat P.length) false) true false) (bc (bc (Nat.blt i.toNat P.length) true false) (bc u (bc (bc (bc (decide (0≤i)) (Nat.blt i.toNat 4) false) true false) (bc (bc (Nat.blt i.toNat was.length) true false) (bc (bc (bc (decide (0≤IntKind.i64.wrap (P.getD i.toNat 0-(1:Int)))) (Nat.blt (IntKind.i64.wrap (P.getD i.toNat 0-(1:Int))).toNat n) false) true false) (bc (Nat.blt (Nat.add o (IntKind.i64.wrap (P.getD i.toNat 0-(1:Int))).toNat) q.length) (.at (sM (List.set q (Nat.add o (IntKind.i64.wrap (P.getD i.toNat 0-(1:Int))).toNat) (was.getD i.toNat 0)) was P u o n (IntKind.i64.wrap (i+1)))) .bad) .bad) .bad) .bad) (bc (bc (bc (decide (0≤IntKind.i64.wrap (P.getD i.toNat 0-(1:Int)))) (Nat.blt (IntKind.i64.wrap (P.getD i.toNat 0-(1:Int))).toNat 4) false) true false) (bc (bc (Nat.blt (IntKind.i64.wrap (P.getD i.toNat 0-(1:Int))).toNat was.length) true false) (bc (bc (bc (decide (0≤i)) (Nat.blt i.toNat n) false) true false) (bc (Nat.blt (Nat.add o i.toNat) q.length) (.at (sM (List.set q (Nat.add o i.toNat) (was.getD (IntKind.i64.wrap (P.getD i.toNat 0-(1:Int))).toNat 0)) was P u o n (IntKind.i64.wrap (i+1)))) .bad) .bad) .bad) .bad)) .bad) .bad) (.done (EV.tup []) [(0,(EK.seq 3 (SyC.ints IntKind.i64 q) true))] 1)):=by kernel_rfl
end PMov
def Pm4 (P:List Int):Prop:=P.Perm [1,2,3,4]
theorem Pm4.len {P:List Int} (h:Pm4 P):P.length=4:=h.length_eq
theorem Pm4.mem {P:List Int} (h:Pm4 P) {k:Nat} (hk:k<4):1≤P.getD k 0∧P.getD k 0≤4:=by
 have hl:=h.len;rw [zaf (by omega)];have:=h.mem_iff.1 (List.getElem_mem (show k<P.length by omega));simp at this;omega
theorem list4 {α:Type} {q:List α} (h:q.length=4):∃ a b c d,q=[a,b,c,d]:=by
 match q,h with
 | [a,b,c,d],_=>exact ⟨a,b,c,d,rfl⟩
theorem zn3 {q:List Int} {p:Nat} (h:q.length=4) (hp:p≤2):(swpQ q p).Perm q:=by
 obtain ⟨a,b,c,d,rfl⟩:=list4 h;have:p=0∨p=1∨p=2:=by omega
 rcases this with rfl|rfl|rfl
 ·exact .swap a b [c,d]
 ·exact .cons a (.swap b c [d])
 ·exact .cons a (.cons b (.swap c d []))
theorem zi2:∀ (L q:List Int),(∀ x,x∈L→CrN x)→q.length=4→(plcQ q L).Perm q
 | [],q,_,_=>.refl _
 | n::L,q,hc,hq=>by
  have hn:=(hc n (by simp)).abs;exact (zi2 L (swpQ q (n.natAbs-1)) (fun x hx=>hc x (by simp [hx])) (by rw [zg2];exact hq)).trans (zn3 hq (by omega))
theorem zhk (w:ByteArray):Pm4 (plWd w):=zi2 _ _ (zl9 w w.size 0) rfl
noncomputable def fwB (o:Nat) (was P:List Int) (q:List Int) (k:Nat):Nat→List Int
 | 0=>q
 | j+1=>fwB o was P (q.set (o+k) (was.getD (P.getD k 0-1).toNat 0)) (k+1) j
noncomputable def bkB (o:Nat) (was P:List Int) (q:List Int) (k:Nat):Nat→List Int
 | 0=>q
 | j+1=>bkB o was P (q.set (o+(P.getD k 0-1).toNat) (was.getD k 0)) (k+1) j
noncomputable def mvQ (u:Bool) (o:Nat) (P q:List Int):List Int:=bc u (bkB o ((q.drop o).take 4) P q 0 4) (fwB o ((q.drop o).take 4) P q 0 4)
theorem zpn (o:Nat) (was P:List Int):∀ (j k:Nat) (q:List Int),(fwB o was P q k j).length=q.length
 | 0,k,q=>rfl
 | j+1,k,q=>by unfold fwB;rw [zpn o was P j,List.length_set]
theorem zqi (o:Nat) (was P:List Int):∀ (j k:Nat) (q:List Int),(bkB o was P q k j).length=q.length
 | 0,k,q=>rfl
 | j+1,k,q=>by unfold bkB;rw [zqi o was P j,List.length_set]
theorem zbm (u:Bool) (o:Nat) (P q:List Int):(mvQ u o P q).length=q.length:=by
 unfold mvQ;cases u
 ·exact zpn ..
 ·exact zqi ..
namespace PMov
theorem loop {was P:List Int} {o:Nat} {u:Bool} (hP:Pm4 P) (hw:was.length=4) (ho:o≤1000):∀ (j k:Nat) (q:List Int),k+j=4→o+4≤q.length→EndM 1 95 ctMv (stOf (sM q was P u o 4 k)) (.tup []) (K0 (bc u (bkB o was P q k j) (fwB o was P q k j))) 1
 | 0,k,q,h,hq=>by
  have h1:=m_t q was P u o 4 k;have hl:=hP.len;simp (disch:=omega) only [yS,hl] at h1;have e:bc u (bkB o was P q k 0) (fwB o was P q k 0)=q:=by cases u <;> rfl
  rw [e];exact .done h1
 | j+1,k,q,h,hq=>by
  have h1:=m_t q was P u o 4 k;have hl:=hP.len;have hk:=hP.mem (show k<4 by omega);obtain ⟨p,hp⟩:=Int.eq_ofNat_of_zero_le (show 0≤P.getD k 0-1 by omega);have hp4:p<4:=by omega
  have w1:IntKind.i64.wrap (P.getD k 0-1)=(p:Int):=by rw [zao _ (by omega) (by omega)];exact hp
  rw [za1,w1] at h1;have e:bc u (bkB o was P q k (j+1)) (fwB o was P q k (j+1))=bc u (bkB o was P (q.set (o+p) (was.getD k 0)) (k+1) j) (fwB o was P (q.set (o+k) (was.getD p 0)) (k+1) j):=by
   show bc u (bkB o was P (q.set (o+(P.getD k 0-1).toNat) (was.getD k 0)) (k+1) j) (fwB o was P (q.set (o+k) (was.getD (P.getD k 0-1).toNat 0)) (k+1) j)=_;rw [hp];rfl
  rw [e];cases u
  ·simp (disch:=omega) only [yS,hl,hw] at h1;have key:=loop (u:=false) hP hw ho j (k+1) (q.set (o+k) (was.getD p 0)) (by omega) (by rw [List.length_set];exact hq);exact .at zez h1 key
  ·simp (disch:=omega) only [yS,hl,hw] at h1;have key:=loop (u:=true) hP hw ho j (k+1) (q.set (o+p) (was.getD k 0)) (by omega) (by rw [List.length_set];exact hq);exact .at zez h1 key
theorem ends {k a:Int} {w:ByteArray} {u:Bool} {q:List Int} (h1:chk3 w=0) (h2:0≤a) (h3:2*a+4≤(q.length:Int)) (h4:q.length≤1000):EndM 1 95 ctMv (st0m 95 (args q.length k a w u) (K0 q) 1) (.tup []) (K0 (mvQ u (2*a).toNat (plWd w) q)) 1:=by
 have h:=in_t k a w u q;obtain ⟨a,rfl⟩:=Int.eq_ofNat_of_zero_le h2;have w1:IntKind.i64.wrap (2*(a:Int))=((2*a:Nat):Int):=by rw [zao _ (by omega) (by omega)];omega
 have w2:IntKind.i64.wrap (((2*a:Nat):Int)+4)=((2*a+4:Nat):Int):=by rw [zao _ (by omega) (by omega)];omega
 have e1:Nat.add (Nat.mul (2*a) 1) 0=2*a:=by show 2*a*1+0=_;omega
 have e2:2*a+4-2*a=4:=by omega
 have e3:((q.drop (2*a)).take 4).length=4:=by rw [List.length_take,List.length_drop];omega
 have e4:(zerosL 4).length=4:=by unfold zerosL;simp
 have e5:plEd w=plWd w:=by unfold plEd;rw [h1];rfl
 rw [w1,w2] at h;simp only [za1] at h;rw [e1,e2,e5] at h;have e6:Nat.ble (Nat.add (2*a) 4) q.length=true:=zjm (show 2*a+4≤q.length by omega);simp (disch:=omega) only [yS,e3,e4,e6] at h;have e7:(2*(a:Int)).toNat=2*a:=by omega
 rw [e7];exact .at zez h (loop (zhk w) e3 (by omega) 4 0 q rfl (by omega))
theorem endv {k a:Int} {w:ByteArray} {u:Bool} {q:List Int} (h1:chk3 w=0) (h2:0≤a) (h3:2*a+4≤(q.length:Int)) (h4:q.length≤1000):EndM 1 95 ctMv (st0m 95 (argv q.length k a w u) (K0 q) 1) (.tup []) (K0 (mvQ u (2*a).toNat (plWd w) q)) 1:=by
 have h:=in2_t k a w u q;obtain ⟨a,rfl⟩:=Int.eq_ofNat_of_zero_le h2;have w1:IntKind.i64.wrap (2*(a:Int))=((2*a:Nat):Int):=by rw [zao _ (by omega) (by omega)];omega
 have w2:IntKind.i64.wrap (((2*a:Nat):Int)+4)=((2*a+4:Nat):Int):=by rw [zao _ (by omega) (by omega)];omega
 have e1:Nat.add (Nat.mul (2*a) 1) 0=2*a:=by show 2*a*1+0=_;omega
 have e2:2*a+4-2*a=4:=by omega
 have e3:((q.drop (2*a)).take 4).length=4:=by rw [List.length_take,List.length_drop];omega
 have e4:(zerosL 4).length=4:=by unfold zerosL;simp
 have e5:plEd w=plWd w:=by unfold plEd;rw [h1];rfl
 rw [w1,w2] at h;simp only [za1] at h;rw [e1,e2,e5] at h;have e6:Nat.ble (Nat.add (2*a) 4) q.length=true:=zjm (show 2*a+4≤q.length by omega);simp (disch:=omega) only [yS,e3,e4,e6] at h;have e7:(2*(a:Int)).toNat=2*a:=by omega
 rw [e7];exact .at zez h (loop (zhk w) e3 (by omega) 4 0 q rfl (by omega))
end PMov
noncomputable def spMov_0:ZMT:=fun ax K0 m=>match ax,K0 with
 | [.slO 0 1 v_0 v_1,.agg [.v (.int .i64 k),.v (.int .i64 a),.v (.string w)],.v (.bool u)],[(0,.seq 3 (.ints .i64 q) v_2)]=>bc (Nat.beq m (1)) (some ⟨bc (Nat.beq v_0 (q.length)) (bc (eqN v_1 (true)) (bc (eqN v_2 (true)) (decide (chk3 w=0∧0≤a∧2*a+4≤(q.length:Int)∧q.length≤1000)) false) false) false,.tup [],PMov.K0 (mvQ u (2*a).toNat (plWd w) q),1,1⟩) none
 | _,_=>none
theorem zmx:ZMtOk Try.prog 95 spMov_0:=fun γ w0 w us ax K0 m r hs hc hres hax hH=>by
 unfold spMov_0 at hs;split at hs
 case h_2=>cases hs
 rename_i v_0 v_1 k a w u q v_2;obtain ⟨hm,rfl⟩:=noN hs;have hm:=Nat.eq_of_beq_eq_true hm;subst hm;have hc_0:bc (Nat.beq v_0 (q.length)) (bc (eqN v_1 (true)) (bc (eqN v_2 (true)) (decide (chk3 w=0∧0≤a∧2*a+4≤(q.length:Int)∧q.length≤1000)) false) false) false=true:=hc;obtain ⟨q_0,hc_1⟩:=bcT hc_0;have p_0:=(Nat.eq_of_beq_eq_true q_0).symm;subst p_0;obtain ⟨q_1,hc_2⟩:=bcT hc_1;have p_1:=(zjg q_1).symm;subst p_1;obtain ⟨q_2,hc_3⟩:=bcT hc_2;have p_2:=(zjg q_2).symm;subst p_2;have hc:=of_decide_eq_true hc_3
 exact EndM.calls (PMov.ends hc.1 hc.2.1 hc.2.2.1 hc.2.2.2) zez (by kernel_rfl) hres hax hH
noncomputable def spMov_1:ZMT:=fun ax K0 m=>match ax,K0 with
 | [.slO 0 1 v_0 v_1,.v (.agg ⟨[.int .i64 k,.int .i64 a,.string w]⟩),.v (.bool u)],[(0,.seq 3 (.ints .i64 q) v_2)]=>bc (Nat.beq m (1)) (some ⟨bc (Nat.beq v_0 (q.length)) (bc (eqN v_1 (true)) (bc (eqN v_2 (true)) (decide (chk3 w=0∧0≤a∧2*a+4≤(q.length:Int)∧q.length≤1000)) false) false) false,.tup [],PMov.K0 (mvQ u (2*a).toNat (plWd w) q),1,1⟩) none
 | _,_=>none
theorem zmw:ZMtOk Try.prog 95 spMov_1:=fun γ w0 w us ax K0 m r hs hc hres hax hH=>by
 unfold spMov_1 at hs;split at hs
 case h_2=>cases hs
 rename_i v_0 v_1 k a w u q v_2;obtain ⟨hm,rfl⟩:=noN hs;have hm:=Nat.eq_of_beq_eq_true hm;subst hm;have hc_0:bc (Nat.beq v_0 (q.length)) (bc (eqN v_1 (true)) (bc (eqN v_2 (true)) (decide (chk3 w=0∧0≤a∧2*a+4≤(q.length:Int)∧q.length≤1000)) false) false) false=true:=hc;obtain ⟨q_0,hc_1⟩:=bcT hc_0;have p_0:=(Nat.eq_of_beq_eq_true q_0).symm;subst p_0;obtain ⟨q_1,hc_2⟩:=bcT hc_1;have p_1:=(zjg q_1).symm;subst p_1;obtain ⟨q_2,hc_3⟩:=bcT hc_2;have p_2:=(zjg q_2).symm;subst p_2;have hc:=of_decide_eq_true hc_3
 exact EndM.calls (PMov.endv hc.1 hc.2.1 hc.2.2.1 hc.2.2.2) zez (by kernel_rfl) hres hax hH
noncomputable def spMov:ZMT:=ZMT.or spMov_0 (spMov_1)
theorem zr0:ZMtOk Try.prog 95 spMov:=zmx.or (zmw)
end Go.Proofs.Ytepiiaeiogdphaa.Ev
namespace Go.Proofs.Ytepiiaeiogdphaa.Tr7
def tk (a:Nat→Int) (p:Int) (j:Nat):Bool:=p==a j || p==a j+1
def bf (a:Nat→Int) (p:Int) (i:Nat):List Nat:=(List.range i).filter (tk a p)
theorem zv6 (a:Nat→Int) (p:Int):bf a p 0=[]:=rfl
theorem zdu (a:Nat→Int) (p:Int) (i:Nat):bf a p (i+1)=bf a p i++(if tk a p i=true then [i] else []):=by
 unfold bf;rw [List.range_succ,List.filter_append]
 by_cases h:tk a p i=true <;> simp [h]
theorem bf_le {a:Nat→Int} {p:Int} {i:Nat}:∀ {n:Nat},i≤n→∃ q,bf a p n=bf a p i++q
 | 0,h=>by
  have:i=0:=by omega
  subst this;exact ⟨[],by simp⟩
 | n+1,h=>by
  by_cases e:i=n+1
  ·subst e;exact ⟨[],by simp⟩
  ·obtain ⟨q,hq⟩:=bf_le (a:=a) (p:=p) (show i≤n by omega);exact ⟨q++(if tk a p n=true then [n] else []),by rw [zdu,hq,List.append_assoc]⟩
theorem zf9 (a:Nat→Int) (p:Int):∀ i,(bf a p i).length≤i
 | 0=>Nat.le_refl _
 | i+1=>by
  have:=zf9 a p i;rw [zdu,List.length_append];split <;> simp <;> omega
theorem bf_at {a:Nat→Int} {p:Int} {i n:Nat} (h:i<n) (ht:tk a p i=true):(bf a p n)[(bf a p i).length]? = some i:=by
 obtain ⟨q,hq⟩:=bf_le (a:=a) (p:=p) (show i+1≤n by omega);rw [hq,zdu,if_pos ht,List.append_assoc,List.getElem?_append_right (Nat.le_refl _)];simp
theorem bf_of {a:Nat→Int} {p:Int} {i c:Nat}:∀ {n:Nat},(bf a p n)[c]? = some i→i<n∧tk a p i=true∧(bf a p i).length=c
 | 0,h=>by simp [zv6] at h
 | n+1,h=>by
  rw [zdu] at h
  by_cases hc:c<(bf a p n).length
  ·rw [List.getElem?_append_left hc] at h;obtain ⟨h1,h2,h3⟩:=bf_of h;exact ⟨by omega,h2,h3⟩
  ·rw [List.getElem?_append_right (by omega)] at h
   by_cases ht:tk a p n=true
   ·rw [if_pos ht] at h
    by_cases e:c-(bf a p n).length=0
    ·rw [e] at h;simp at h;subst h;exact ⟨by omega,ht,by omega⟩
    ·rw [List.getElem?_eq_none (by simp;omega)] at h;cases h
   ·rw [if_neg ht] at h;simp at h
theorem bf_lt {a:Nat→Int} {p:Int} {i n c:Nat} (h:i≤n) (hc:c<(bf a p i).length):(bf a p i)[c]? = (bf a p n)[c]?:=by
 obtain ⟨q,hq⟩:=bf_le (a:=a) (p:=p) h;rw [hq,List.getElem?_append_left hc]
def gd (a b:Nat→Int) (out:List Int) (i k:Nat) (p:Int):Prop:=(bf a p i).length=(bf b p k).length∧∀ c,c<(bf a p i).length→out.getD ((bf b p k).getD c 0) 0=((bf a p i).getD c 0:Int)
section
variable (n:Nat) (a b:Nat→Int) (e:Nat→Nat→Bool)
def ok (out:List Int) (k i:Nat):Prop:=e i k=true∧gd a b out i k (b k)∧gd a b out i k (b k+1)
open Classical in
noncomputable def fdG (out:List Int) (k i:Nat) (f:Int):Nat→Int
 | 0=>f
 | m+1=>fdG out k (i+1) (if ok a b e out k i then (i:Int) else f) m
noncomputable def fd (out:List Int) (k:Nat):Int:=fdG a b e out k 0 (-1) n
noncomputable def ag:Nat→List Int
 | 0=>[]
 | k+1=>ag k++[fd n a b e (ag k) k]
theorem ag_len:∀ k,(ag n a b e k).length=k
 | 0=>rfl
 | k+1=>by show (ag n a b e k++[_]).length=_;rw [List.length_append,ag_len k];rfl
theorem zty {k:Nat}:∀ {m:Nat},k≤m→∃ q,ag n a b e m=ag n a b e k++q
 | 0,h=>by
  have:k=0:=by omega
  subst this;exact ⟨[],by simp⟩
 | m+1,h=>by
  by_cases e1:k=m+1
  ·subst e1;exact ⟨[],by simp⟩
  ·obtain ⟨q,hq⟩:=zty (show k≤m by omega);exact ⟨q++[fd n a b e (ag n a b e m) m],by show ag n a b e m++_=_;rw [hq,List.append_assoc]⟩
structure Ent (i k:Nat):Prop where
 lt:i<n
 eq:e i k=true
 l:(bf a (b k) i).length=(bf b (b k) k).length
 r:(bf a (b k+1) i).length=(bf b (b k+1) k).length
variable {n a b e}
open Classical in
theorem ztt {out:List Int} {k:Nat}:∀ (m i:Nat) (f:Int),(fdG a b e out k i f m=f∧(∀ j,i≤j→j<i+m→¬ ok a b e out k j))∨∃ j,i≤j∧j<i+m∧ok a b e out k j∧fdG a b e out k i f m=(j:Int)
 | 0,i,f=>.inl ⟨rfl,fun j h1 h2=>by omega⟩
 | m+1,i,f=>by
  unfold fdG;rcases ztt m (i+1) (if ok a b e out k i then (i:Int) else f) with ⟨h1,h2⟩|⟨j,h1,h2,h3,h4⟩
  ·by_cases h:ok a b e out k i
   ·rw [if_pos h] at h1 ⊢;exact .inr ⟨i,Nat.le_refl _,by omega,h,h1⟩
   ·rw [if_neg h] at h1 ⊢;refine .inl ⟨h1,fun j hj1 hj2=>?_⟩
    by_cases ej:j=i
    ·subst ej;exact h
    ·exact h2 j (by omega) (by omega)
  ·exact .inr ⟨j,by omega,by omega,h3,h4⟩
theorem fd_of (out:List Int) (k:Nat):(fd n a b e out k = -1∧∀ j,j<n→¬ ok a b e out k j)∨∃ j,j<n∧ok a b e out k j∧fd n a b e out k=(j:Int):=by
 rcases ztt (a:=a) (b:=b) (e:=e) (out:=out) (k:=k) n 0 (-1) with ⟨h1,h2⟩|⟨j,h1,h2,h3,h4⟩
 ·exact .inl ⟨h1,fun j hj=>h2 j (Nat.zero_le _) (by omega)⟩
 ·exact .inr ⟨j,by omega,h3,h4⟩
theorem ag_at {k m:Nat} (h:k<m):(ag n a b e m).getD k 0=fd n a b e (ag n a b e k) k:=by
 obtain ⟨q,hq⟩:=zty n a b e (show k+1≤m by omega);rw [hq];show ((ag n a b e k++[fd n a b e (ag n a b e k) k])++q).getD k 0=_;rw [List.append_assoc,List.getD_eq_getElem?_getD,List.getElem?_append_right (by rw [ag_len];exact Nat.le_refl _),ag_len];simp
theorem ag_ent {k m:Nat} (h:k<m):(ag n a b e m).getD k 0 = -1∨∃ i:Nat,(ag n a b e m).getD k 0=(i:Int)∧Ent n a b e i k:=by
 rw [ag_at h];rcases fd_of (n:=n) (a:=a) (b:=b) (e:=e) (ag n a b e k) k with ⟨h1,_⟩|⟨j,h1,h2,h3⟩
 ·exact .inl h1
 ·exact .inr ⟨j,h3,h1,h2.1,h2.2.1.1,h2.2.2.1⟩
theorem tk_l (hE:∀ i k,e i k=true→a i=b k) {i k:Nat} (h:e i k=true):tk a (b k) i=true:=by
 have:=hE i k h;unfold tk;simp [this]
theorem tk_r (hE:∀ i k,e i k=true→a i=b k) {i k:Nat} (h:e i k=true):tk a (b k+1) i=true:=by
 have:=hE i k h;unfold tk;simp [this]
theorem Ent.at {i k:Nat} (h:Ent n a b e i k) {p:Int} (hp:tk b p k=true) (hE:∀ i k,e i k=true→a i=b k):tk a p i=true∧(bf a p i).length=(bf b p k).length:=by
 unfold tk at hp;rcases Bool.or_eq_true _ _ ▸ hp with h1|h1
 ·have:p=b k:=by simpa using h1
  subst this;exact ⟨tk_l hE h.eq,h.l⟩
 ·have:p=b k+1:=by simpa using h1
  subst this;exact ⟨tk_r hE h.eq,h.r⟩
theorem Ent.inj {i k k':Nat} (hE:∀ i k,e i k=true→a i=b k) (h:Ent n a b e i k) (h':Ent n a b e i k'):k=k':=by
 have e1:=hE _ _ h.eq;have e2:=hE _ _ h'.eq;have hb:b k=b k':=by omega
 have l1:=h.l;have l2:=h'.l;rw [← hb] at l2;have t1:tk b (b k) k=true:=by unfold tk;simp
 have t2:tk b (b k) k'=true:=by unfold tk;simp [hb]
 have g1:=bf_at (a:=b) (p:=b k) (show k<k+k'+1 by omega) t1;have g2:=bf_at (a:=b) (p:=b k) (show k'<k+k'+1 by omega) t2;rw [show (bf b (b k) k).length=(bf b (b k) k').length by omega] at g1;rw [g1] at g2;exact Option.some.inj g2
def wr (b:Nat→Int) (out:List Int) (k:Nat) (p:Int):Prop:=∃ j,j<k∧tk b p j=true∧out.getD j 0 = -1
def pk (n:Nat) (a b:Nat→Int) (e:Nat→Nat→Bool) (out:List Int) (k i:Nat):Prop:=(bf a (b k) n)[(bf b (b k) k).length]? = some i∧(bf a (b k+1) n)[(bf b (b k+1) k).length]? = some i∧e i k=true∧¬ wr b out k (b k)∧¬ wr b out k (b k+1)
theorem gd_of (hE:∀ i k,e i k=true→a i=b k) {i k:Nat} {p:Int} (hi:i≤n) (hl:(bf a p i).length=(bf b p k).length):gd a b (ag n a b e k) i k p↔¬ wr b (ag n a b e k) k p:=by
 constructor
 ·rintro ⟨_,h⟩ ⟨j,h1,h2,h3⟩
  have hb:=bf_at (a:=b) (p:=p) h1 h2;have hc:(bf b p j).length<(bf b p k).length:=(List.getElem?_eq_some_iff.1 hb).1;have:=h (bf b p j).length (by omega);rw [List.getD_eq_getElem?_getD (l:=bf b p k),hb] at this;rw [show (some j).getD 0=j from rfl,h3] at this
  omega
 ·intro h;refine ⟨hl,fun c hc=>?_⟩;obtain ⟨j,hj⟩:∃ j,(bf b p k)[c]? = some j:=⟨_,List.getElem?_eq_getElem (by omega)⟩;obtain ⟨i',hi'⟩:∃ j,(bf a p i)[c]? = some j:=⟨_,List.getElem?_eq_getElem hc⟩;rw [List.getD_eq_getElem?_getD (l:=bf b p k),List.getD_eq_getElem?_getD (l:=bf a p i),hj,hi'];show (ag n a b e k).getD j 0=(i':Int);obtain ⟨j1,j2,j3⟩:=bf_of hj;rcases ag_ent (n:=n) (a:=a) (b:=b) (e:=e) j1 with h1|⟨x,h1,h2⟩
  ·exact absurd ⟨j,j1,j2,h1⟩ h
  ·rw [h1];obtain ⟨x1,x2⟩:=h2.at j2 hE;have g:=bf_at (a:=a) (p:=p) h2.lt x1;rw [bf_lt hi hc] at hi';rw [x2,j3,hi'] at g;rw [Option.some.inj g]
theorem ok_pk (hE:∀ i k,e i k=true→a i=b k) {k i:Nat}:(i<n∧ok a b e (ag n a b e k) k i)↔pk n a b e (ag n a b e k) k i:=by
 constructor
 ·rintro ⟨h0,h1,h2,h3⟩
  have g1:=bf_at (a:=a) (p:=b k) h0 (tk_l hE h1);have g2:=bf_at (a:=a) (p:=b k+1) h0 (tk_r hE h1);rw [h2.1] at g1;rw [h3.1] at g2;exact ⟨g1,g2,h1,(gd_of hE (by omega) h2.1).1 h2,(gd_of hE (by omega) h3.1).1 h3⟩
 ·rintro ⟨h1,h2,h3,h4,h5⟩
  obtain ⟨i1,i2,i3⟩:=bf_of h1;obtain ⟨_,j2,j3⟩:=bf_of h2;exact ⟨i1,h3,(gd_of hE (by omega) i3).2 h4,(gd_of hE (by omega) j3).2 h5⟩
theorem fd_pk (hE:∀ i k,e i k=true→a i=b k) {k:Nat}:(∀ i,pk n a b e (ag n a b e k) k i→fd n a b e (ag n a b e k) k=(i:Int))∧((∀ i,¬ pk n a b e (ag n a b e k) k i)→fd n a b e (ag n a b e k) k = -1):=by
 rcases fd_of (n:=n) (a:=a) (b:=b) (e:=e) (ag n a b e k) k with ⟨h1,h2⟩|⟨j,h1,h2,h3⟩
 ·refine ⟨fun i hi=>?_,fun _=>h1⟩;obtain ⟨i1,i2⟩:=(ok_pk hE).2 hi;exact absurd i2 (h2 i i1)
 ·have hj:=(ok_pk hE).1 ⟨h1,h2⟩;refine ⟨fun i hi=>?_,fun h=>absurd hj (h j)⟩;have:=hi.1.symm.trans hj.1;rw [h3,Option.some.inj this]
end
end Go.Proofs.Ytepiiaeiogdphaa.Tr7
namespace Go.Proofs.Ytepiiaeiogdphaa.Ev
noncomputable abbrev bl (l:List Bool):EV:=.lst (.bools l)
theorem eqBt:eqB true true=true:=rfl
theorem eqBf:eqB false false=true:=rfl
end Go.Proofs.Ytepiiaeiogdphaa.Ev
