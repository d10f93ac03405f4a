/- Laid together: A row of its own behind a nest. No program is named. Runs over open leaves that fork: one run says what comes of all cases. No program is named. Runs over open leaves to a place, with new numbers there; calls. No program is named. Runs of a call whose arguments lead to memory that it changes: the first k numbers stay what they are. No program is named. The table of .. -/
import Derived.Test.YtfffbioafhppiaaChecked
import Derived.Below
import Derived.Lib.Join
import Derived.Lib.Repeat
import Derived.Shelf.Strings.Builder1
import Derived.Shelf.Strings.Builder2
import Derived.Shelf.Strings.OnBuilder
import Derived.Shelf.Small.Bits
import Derived.Shelf.Strings.BuilderF
import Derived.Shelf.Strings.Builder2Cap
import Derived.Shelf.Strconv.Itoa0
import Derived.Shelf.Sort.Plain
import Derived.Shelf.Strings.Prefix
import Derived.Shelf.Bits.Mul64
import Derived.Shelf.Strings.Repeat
import Derived.Shelf.Slices.Reverse
import Derived.Shelf.Slices.Clone
import Derived.Shelf.Slices.CompactI
import Derived.Shelf.Slices.SearchI
import Derived.Shelf.Slices.Cells
import Derived.Shelf.Slices.In.SortNone
import Derived.Shelf.SlicesE.Compact
import Derived.Shelf.SlicesE.Clone
import Derived.Shelf.SlicesE.IndexFunc
import Derived.Shelf.SlicesE.DeleteFunc
import Derived.Test.YtfffbioafhppiaaProg
import Derived.Test.YtfffbioafhppiaaMPs4
set_option linter.unusedSimpArgs false
set_option linter.unusedVariables false
namespace Go.Proofs.Ytfffbioafhppiaa.Ev
open Go.RowKit
variable {P:Program} {γ γ':G} {w0:Bs} {w:World} {H H':Tr EK} {n n':Nat} {T:Tr EV} {tmps:Array Value} {o:Oper}

def RowB (γ:G) (i v:Nat) (sh:List Sh) (rows:List (List U)) (k:Nat):Prop:=∃ (j f:Nat) (s:List Sh) (m:Nat × Nat),j < rows.length∧sh[f]? = some (.list s)∧γ.rw i v (j * sh.length+f)=some (k,m)

def HR.baseN (h:HR γ w0 H n w) {i v:Nat} {ty:TypeId × List TypeId} {sh:List Sh} {rows:List (List U)} {nn:Bool} (hg:H.get i=some (.nest i ty sh rows v [] nn)):Bs:=⟨w,fun c=>w0.F c∨RowB γ i v sh rows c,fun c hc=>by
 rcases hc with hc | ⟨j,f,s,m,h1,h2,h3⟩
 ·have h1:=w0.lt c hc
  have h2:=h.stays.size
  omega
 ·obtain ⟨_,_,_,_,arr,ty',⟨fz,h5,_⟩,_⟩:=h.fzk.nst.at' i i ty sh rows v [] nn hg j f s h1 h2 (by simp) c m h3
  exact (Array.getElem?_eq_some_iff.1 h5).1,w0.res,w0.fb⟩
theorem HR.nestCells (h:HR γ w0 H n w) {i v:Nat} (hi:Nat.ble i 65535=true) {ty:TypeId × List TypeId} {sh:List Sh} {rows:List (List U)} {nn:Bool} (hg:H.get i=some (.nest i ty sh rows v [] nn)) (hnil:¬ (EK.nest i ty sh rows v [] nn).Nil) {CS:List EV} (hk:∀ b m,γ i=some (b,m)→(EK.nest i ty sh rows v [] nn).ok γ b m w→(EK.cells ty.1 CS false).ok γ b m w) :
  HR γ (h.baseN hg) (H.put i (some (.cells ty.1 CS false))) n w:=by
 have look:∀ q kq,(H.put i (some (.cells ty.1 CS false))).get q=some kq→(q=i∧kq = .cells ty.1 CS false)∨(q≠i∧H.get q=some kq):=fun q kq hq=>by
  rw [Tr.get_put hi] at hq;split at hq
  ·rename_i e;injection hq with hq;exact .inl ⟨e,hq.symm⟩
  ·rename_i e;exact .inr ⟨e,hq⟩
 have back:∀ q kq,(H.put i (some (.cells ty.1 CS false))).get q=some kq→¬ kq.Nil→∃ k1,H.get q=some k1∧¬ k1.Nil:=fun q kq hq nq=>by
  rcases look q kq hq with ⟨rfl,_⟩ | ⟨_,g2⟩
  ·exact ⟨_,hg,hnil⟩
  ·exact ⟨kq,g2,nq⟩
 have nF:∀ q k1 b m,H.get q=some k1→¬ k1.Nil→γ q=some (b,m)→¬ w0.F b.k→¬ (h.baseN hg).F b.k:=fun q k1 b m h1 h2 h3 h4 hf=>by
  rcases hf with hf | ⟨j,f,s,m2,r1,r2,r3⟩
  ·exact h4 hf
  ·obtain ⟨_,_,g3,_⟩:=h.fzk.nst.at' i i ty sh rows v [] nn hg j f s r1 r2 (by simp) _ m2 r3;exact g3 q k1 b m h1 h2 h3 rfl
 refine ⟨fun q kq hq=>?_,fun q l kq kl hq hl nq nl hne bq bl eq el=>?_,h.fresh,h.rsv,h.lt,⟨rfl,rfl,rfl,Nat.le_refl _,fun _ _=>rfl⟩,⟨fun k a hk'=>?_,h.fzk.base,h.fzk.nst.rwg,fun q me2 ty2 sh2 rows2 v2 ho2 nn2 e=>?_,fun q me2 ty2 sh2 rows2 v2 ho2 nn2 e j1 f1 x1 hj1 hf1 hh1 k1 m1 hk1=>?_⟩⟩
 ·rcases look q kq hq with ⟨rfl,rfl⟩ | ⟨_,g2⟩
  ·obtain ⟨b,m,h1,h2,h3⟩:=h.hp q _ hg hnil;exact .inr ⟨b,m,h1,nF q _ b m hg hnil h1 h2,hk b m h1 h3⟩
  ·refine h.imp0 g2 fun nk b m h1 h2 h3=>⟨b,m,h1,nF q kq b m g2 nk h1 h2,h3⟩
 ·obtain ⟨k1,q1,q2⟩:=back q kq hq nq;obtain ⟨k2,r1,r2⟩:=back l kl hl nl;exact h.inj0 q l k1 k2 q1 r1 q2 r2 hne bq bl eq el
 ·obtain ⟨q1,q2,q3⟩:=h.fzk.at' k a hk';refine ⟨q1,?_,fun q kq b m hq nq eq=>?_⟩
  ·rcases q2 with q2 | q2
   ·exact .inl q2
   ·refine .inr fun hf=>?_;rcases hf with hf | ⟨j,f,s,m2,r1,r2,r3⟩
    ·exact q2 hf
    ·obtain ⟨_,g2,_⟩:=h.fzk.nst.at' i i ty sh rows v [] nn hg j f s r1 r2 (by simp) _ m2 r3;rw [hk'] at g2;cases g2
  ·obtain ⟨k1,r1,r2⟩:=back q kq hq nq;exact q3 q k1 b m r1 r2 eq
 ·rcases look q _ e with ⟨_,h2⟩ | ⟨_,g2⟩
  ·cases h2
  ·exact h.fzk.nst.me q me2 ty2 sh2 rows2 v2 ho2 nn2 g2
 ·rcases look q _ e with ⟨_,h2⟩ | ⟨hqi,g2⟩
  ·cases h2
  ·obtain ⟨q1,q2,q3,q4,q5⟩:=h.fzk.nst.at' q me2 ty2 sh2 rows2 v2 ho2 nn2 g2 j1 f1 x1 hj1 hf1 hh1 k1 m1 hk1;refine ⟨fun hf=>?_,q2,fun i' ki b m' hi' ni ei=>?_,fun i2 me3 ty3 sh3 rows3 v3 ho3 nn3 e2 j2 f2 s2 hj2 hf2 hh2 m2 hk2=>?_,q5⟩
   ·rcases hf with hf | ⟨j,f,s,m2,r1,r2,r3⟩
    ·exact q1 hf
    ·have:=q4 i i ty sh rows v [] nn hg j f s r1 r2 (by simp) m2 r3;exact hqi this.1.symm
   ·obtain ⟨k2,r1,r2⟩:=back i' ki hi' ni;exact q3 i' k2 b m' r1 r2 ei
   ·rcases look i2 _ e2 with ⟨_,h2⟩ | ⟨_,r2⟩
    ·cases h2
    ·exact q4 i2 me3 ty3 sh3 rows3 v3 ho3 nn3 r2 j2 f2 s2 hj2 hf2 hh2 m2 hk2

def G.nestAt (γ γ':G) (n i v L:Nat):G:=⟨fun a=>if a=n+1 then γ' n else γ' a,γ'.fz,fun a v' q=>if a=n+1 then (if v'=0∧q < L then γ.rw i v q else none) else γ'.rw a v' q⟩
theorem HR.nestBack {B:Bs} {i v:Nat} {ty:TypeId × List TypeId} {s1:List Sh} {rows:List (List U)} (hnb:Nat.ble n 65535=true) (hnb2:Nat.ble (n+1) 65535=true) {H1:Tr EK} {w':World} (h':HR γ' B H1 (n+1) w') (hst:w0.Stays w') (sub:∀ k,w0.F k→B.F k) (hfb:∀ k,B.fb k↔w0.fb k) (hrsv:∀ q,w0.res q→B.res q)
  (hrow:∀ j k m,j < rows.length→γ.rw i v j=some (k,m)→B.F k∧¬ w0.F k∧¬ w0.fb k∧(∀ j2 m2,j2 < rows.length→γ.rw i v j2=some (k,m2)→j2=j)∧∃ (arr:Array Value) (ty':TypeId),Cl w' k arr ty'∧(arr.size=m.1+m.2∧ty'=ty.2.getD 0 0)∧∀ (a g:Nat) (s:Sh),a < (((rows.getD j []).getD 0 (.i 0)).list).length→s1[g]? = some s→∃ x,arr[m.1+(a * s1.length+g)]? = some x∧EC γ' (s.ev (((((rows.getD j []).getD 0 (.i 0)).list).getD a []).getD g (.i 0))) x)
  {CS:List EV} (hg1:H1.get n=some (.cells ty.1 CS false)) {r0:List U}
  (hok:∀ b m,γ' n=some (b,m)→(EK.cells ty.1 CS false).ok γ' b m w'→(EK.nest (n+1) ty [.list s1] (rows ++ [r0]) 0 [(rows.length,0)] true).ok (G.nestAt γ γ' n i v rows.length) b m w') :
  GLe γ' (G.nestAt γ γ' n i v rows.length)∧HR (G.nestAt γ γ' n i v rows.length) w0 ((H1.put n none).put (n+1) (some (.nest (n+1) ty [.list s1] (rows ++ [r0]) 0 [(rows.length,0)] true))) (n+2) w':=by
 have hfr:γ' (n+1)=none:=h'.fresh _ (Nat.le_refl _);have hrwn:∀ v' q,γ'.rw (n+1) v' q=none:=fun v' q=>by
  cases e:γ'.rw (n+1) v' q with
  | none=>rfl
  | some p=>obtain ⟨b,hb⟩:=h'.fzk.nst.rwg _ _ _ _ e;rw [hfr] at hb;cases hb
 have gN:(G.nestAt γ γ' n i v rows.length) (n+1)=γ' n:=if_pos rfl;have gO:∀ a,a≠n+1→(G.nestAt γ γ' n i v rows.length) a=γ' a:=fun a ha=>if_neg ha;have rO:∀ a v' q,a≠n+1→(G.nestAt γ γ' n i v rows.length).rw a v' q=γ'.rw a v' q:=fun a v' q ha=>if_neg ha;have rN:∀ v' q,(G.nestAt γ γ' n i v rows.length).rw (n+1) v' q=if v'=0∧q < rows.length then γ.rw i v q else none:=fun v' q=>if_pos rfl
 have hle2:GLe γ' (G.nestAt γ γ' n i v rows.length):=by
  refine ⟨fun a p e=>?_,fun k a e=>e,fun a v' q p e=>?_⟩
  ·have:a≠n+1:=fun x=>by rw [x,hfr] at e;cases e
   rw [gO a this];exact e
  ·have:a≠n+1:=fun x=>by rw [x,hrwn] at e;cases e
   rw [rO a v' q this];exact e
 refine ⟨hle2,?_⟩;have look:∀ q kq,((H1.put n none).put (n+1) (some (.nest (n+1) ty [.list s1] (rows ++ [r0]) 0 [(rows.length,0)] true))).get q=some kq→(q=n+1∧kq = .nest (n+1) ty [.list s1] (rows ++ [r0]) 0 [(rows.length,0)] true)∨(q≠n+1∧q≠n∧H1.get q=some kq):=fun q kq hq=>by
  rw [Tr.get_put hnb2] at hq;split at hq
  ·rename_i e;injection hq with hq;exact .inl ⟨e,hq.symm⟩
  ·rename_i e;rw [Tr.get_put hnb] at hq;split at hq
   ·cases hq
   ·rename_i e2;exact .inr ⟨e,e2,hq⟩
 have cn:¬ (EK.cells ty.1 CS false).Nil:=id;have back:∀ q kq,((H1.put n none).put (n+1) (some (.nest (n+1) ty [.list s1] (rows ++ [r0]) 0 [(rows.length,0)] true))).get q=some kq→¬ kq.Nil→∃ q1 k1,H1.get q1=some k1∧¬ k1.Nil∧(G.nestAt γ γ' n i v rows.length) q=γ' q1∧(q=n+1∧q1=n∨q≠n+1∧q≠n∧q1=q):=fun q kq hq nq=>by
  rcases look q kq hq with ⟨rfl,_⟩ | ⟨g1,g2,g3⟩
  ·exact ⟨n,_,hg1,cn,gN,.inl ⟨rfl,rfl⟩⟩
  ·exact ⟨q,kq,g3,nq,gO q g1,.inr ⟨g1,g2,rfl⟩⟩
 refine ⟨fun q kq hq=>?_,fun q l kq kl hq hl nq nl hne bq bl eq el=>?_,fun q hq=>?_,fun q hq=>?_,fun q p e=>?_,hst,⟨fun k a hk=>?_,fun k hk=>h'.fzk.base k ((hfb k).2 hk),fun a v' q p e=>?_,fun q me2 ty2 sh2 rows2 v2 ho2 nn2 e=>?_,fun q me2 ty2 sh2 rows2 v2 ho2 nn2 e j1 f1 x1 hj1 hf1 hh1 k1 m1 hk1=>?_⟩⟩
 ·rcases look q kq hq with ⟨rfl,rfl⟩ | ⟨g1,g2,g3⟩
  ·obtain ⟨b,m,e1,e2,e3⟩:=h'.hp n _ hg1 cn;exact .inr ⟨b,m,gN.trans e1,fun hf=>e2 (sub _ hf),hok b m e1 e3⟩
  ·refine h'.imp0 g3 fun nk b m e1 e2 e3=>⟨b,m,(gO q g1).trans e1,fun hf=>e2 (sub _ hf),?_⟩
   cases kq with
   | nest me2 ty2 sh2 rows2 v2 ho2 nn2=>
    obtain ⟨rfl,_⟩:=h'.fzk.nst.me q me2 ty2 sh2 rows2 v2 ho2 nn2 g3;obtain ⟨c,c1,c2,c3,c4⟩:=e3;refine ⟨c,c1,c2,c3,fun j f s hj hf hh=>?_⟩;obtain ⟨x,x1,x2⟩:=c4 j f s hj hf hh;refine ⟨x,x1,?_⟩
    cases s with
    | list sh=>
     rcases x2 with ⟨y1,y2⟩ | ⟨k,m,c',y1,y2⟩
     ·exact .inl ⟨trivial,y2⟩
     ·exact .inr ⟨k,m,c',(rO _ _ _ g1).trans y1,y2⟩
    | int k=>exact EC.mono hle2 x2
    | bool=>exact EC.mono hle2 x2
    | str=>exact EC.mono hle2 x2
   | _=>exact EK.ok_monoB rfl hle2 rfl e3
 ·obtain ⟨q1,k1,a1,a2,a3,a4⟩:=back q kq hq nq;obtain ⟨q2,k2,b1,b2,b3,b4⟩:=back l kl hl nl;rw [a3] at eq;rw [b3] at el;refine h'.inj0 q1 q2 k1 k2 a1 b1 a2 b2 ?_ bq bl eq el;rcases a4 with ⟨r1,r2⟩ | ⟨r1,r2,r3⟩ <;> rcases b4 with ⟨t1,t2⟩ | ⟨t1,t2,t3⟩ <;> omega
 ·rw [gO q (by omega)];exact h'.fresh q (by omega)
 ·have:=h'.rsv q (hrsv q hq);exact ⟨(gO q (by omega)).trans this.1,by omega⟩
 ·by_cases hq:q=n+1
  ·rw [hq,gN] at e;exact h'.lt n p e
  ·rw [gO q hq] at e;exact h'.lt q p e
 ·obtain ⟨q1,q2,q3⟩:=h'.fzk.at' k a hk;refine ⟨q1,q2.imp (hfb k).1 fun q2 hf=>q2 (sub k hf),fun q kq b m hq nq eq=>?_⟩;obtain ⟨r1,k1,a1,a2,a3,_⟩:=back q kq hq nq;rw [a3] at eq;exact q3 r1 k1 b m a1 a2 eq
 ·by_cases ha:a=n+1
  ·subst ha;obtain ⟨b,m,e1,_⟩:=h'.hp n _ hg1 cn;exact ⟨(b,m),gN.trans e1⟩
  ·rw [rO a v' q ha] at e;obtain ⟨b,hb⟩:=h'.fzk.nst.rwg a v' q p e;exact ⟨b,(gO a ha).trans hb⟩
 ·rcases look q _ e with ⟨rfl,h2⟩ | ⟨g1,g2,g3⟩
  ·injection h2 with y1 y2 y3 y4 y5 y6 y7
   subst y1;subst y5;refine ⟨rfl,fun v' q hv=>?_⟩;rw [rN,if_neg (by omega)]
  ·obtain ⟨r1,r2⟩:=h'.fzk.nst.me q me2 ty2 sh2 rows2 v2 ho2 nn2 g3;exact ⟨r1,fun v' q' hv=>(rO q v' q' g1).trans (r2 v' q' hv)⟩
 ·rcases look q _ e with ⟨rfl,h2⟩ | ⟨g1,g2,g3⟩
  ·injection h2 with y1 y2 y3 y4 y5 y6 y7
   subst y1;subst y2;subst y3;subst y4;subst y5;subst y6;subst y7;have hf0:f1=0∧x1=s1:=by
    cases f1 with
    | zero=>exact ⟨rfl,by simpa using hf1.symm⟩
    | succ f1=>cases hf1
   obtain ⟨rfl,rfl⟩:=hf0;have hj:j1 < rows.length:=by
    rw [List.length_append,List.length_singleton] at hj1;have:j1≠rows.length:=fun x=>hh1 (by rw [x];exact List.mem_singleton.2 rfl);omega
   have hr:γ.rw i v j1=some (k1,m1):=by
    rw [rN] at hk1;split at hk1
    ·simpa using hk1
    ·cases hk1
   obtain ⟨hF,q1,qb,q4,arr,ty',q5,q6,q7⟩:=hrow j1 k1 m1 hj hr;refine ⟨q1,?_,fun a ka b m' ha na ea hb=>?_,fun i2 me2 ty2 sh2 rows2 v2 ho2 nn2 e2 j2 f2 s2 hj2 hf2 hh2 m2 hk2=>?_,arr,ty',q5,q6,fun a g s ha hs=>?_⟩
   ·show γ'.fz k1=none
    cases z:γ'.fz k1 with
    | none=>rfl
    | some a=>
     obtain ⟨_,z2,_⟩:=h'.fzk.at' k1 a z;rcases z2 with z2 | z2
     ·exact absurd ((hfb k1).1 z2) qb
     ·exact absurd hF z2
   ·obtain ⟨r1,k2,a1,a2,a3,_⟩:=back a ka ha na;rw [a3] at ea;obtain ⟨b3,m3,e4,e5,_⟩:=h'.hp r1 k2 a1 a2;rw [ea] at e4;simp only [Option.some.injEq,Prod.mk.injEq] at e4;obtain ⟨rfl,_⟩:=e4;rw [hb] at e5;exact e5 hF
   ·rcases look i2 _ e2 with ⟨rfl,h2⟩ | ⟨t1,t2,t3⟩
    ·injection h2 with y1 y2 y3 y4 y5 y6 y7
     subst y1;subst y2;subst y3;subst y4;subst y5;subst y6;subst y7;have hf0:f2=0:=by
      cases f2 with
      | zero=>rfl
      | succ f2=>cases hf2
     subst hf0;rw [rN] at hk2;split at hk2
     ·rename_i hc;exact ⟨rfl,q4 j2 m2 (by simpa using hc.2) (by simpa using hk2),rfl⟩
     ·cases hk2
    ·rw [rO _ _ _ t1] at hk2;obtain ⟨u1,_⟩:=h'.fzk.nst.at' i2 me2 ty2 sh2 rows2 v2 ho2 nn2 t3 j2 f2 s2 hj2 hf2 hh2 k1 m2 hk2;exact absurd hF u1
   ·have e1:(rows ++ [r0]).getD j1 []=rows.getD j1 []:=by
     rw [List.getD_eq_getElem?_getD,List.getD_eq_getElem?_getD,List.getElem?_append_left hj]
    rw [e1] at ha ⊢;obtain ⟨x,x1,x2⟩:=q7 a g s ha hs;exact ⟨x,x1,x2.mono hle2⟩
  ·rw [rO q _ _ g1] at hk1;obtain ⟨q1,q2,q3,q4,arr,ty',q5,q6,q7⟩:=h'.fzk.nst.at' q me2 ty2 sh2 rows2 v2 ho2 nn2 g3 j1 f1 x1 hj1 hf1 hh1 k1 m1 hk1;refine ⟨fun hf=>q1 (sub _ hf),q2,fun a ka b m' ha na ea=>?_,fun i2 me3 ty3 sh3 rows3 v3 ho3 nn3 e2 j2 f2 s2 hj2 hf2 hh2 m2 hk2=>?_,arr,ty',q5,q6,fun a g s ha hs=>?_⟩
   ·obtain ⟨r1,k2,a1,a2,a3,_⟩:=back a ka ha na;rw [a3] at ea;exact q3 r1 k2 b m' a1 a2 ea
   ·rcases look i2 _ e2 with ⟨rfl,h2⟩ | ⟨t1,t2,t3⟩
    ·injection h2 with y1 y2 y3 y4 y5 y6 y7
     subst y1;subst y2;subst y3;subst y4;subst y5;subst y6;subst y7;have hf0:f2=0:=by
      cases f2 with
      | zero=>rfl
      | succ f2=>cases hf2
     subst hf0;rw [rN] at hk2;split at hk2
     ·rename_i hc;exact absurd (hrow (j2 * [Sh.list s1].length+0) k1 m2 hc.2 hk2).1 q1
     ·cases hk2
    ·rw [rO _ _ _ t1] at hk2;exact q4 i2 me3 ty3 sh3 rows3 v3 ho3 nn3 t3 j2 f2 s2 hj2 hf2 hh2 m2 hk2
   ·obtain ⟨x,x1,x2⟩:=q7 a g s ha hs;exact ⟨x,x1,x2.mono hle2⟩
theorem nest_fin {B:Bs} {i v r:Nat} {ty:TypeId × List TypeId} {s1:List Sh} {rows:List (List U)} {c:SyC} {xr v':Value} (hnb:Nat.ble n 65535=true) (hnb2:Nat.ble (n+1) 65535=true) (hrb:Nat.ble r 65535=true) {H1:Tr EK} {w':World} (h':HR γ' B H1 (n+1) w') (hst:w0.Stays w') (sub:∀ k,w0.F k→B.F k) (hfb:∀ k,B.fb k↔w0.fb k) (hrsv:∀ q,w0.res q→B.res q)
  (hrow:∀ j k m,j < rows.length→γ.rw i v j=some (k,m)→B.F k∧¬ w0.F k∧¬ w0.fb k∧(∀ j2 m2,j2 < rows.length→γ.rw i v j2=some (k,m2)→j2=j)∧∃ (arr:Array Value) (ty':TypeId),Cl w' k arr ty'∧(arr.size=m.1+m.2∧ty'=ty.2.getD 0 0)∧∀ (a g:Nat) (s:Sh),a < (((rows.getD j []).getD 0 (.i 0)).list).length→s1[g]? = some s→∃ x,arr[m.1+(a * s1.length+g)]? = some x∧EC γ' (s.ev (((((rows.getD j []).getD 0 (.i 0)).list).getD a []).getD g (.i 0))) x)
  {CS:List EV} (hg1:H1.get n=some (.cells ty.1 (CS ++ [.v xr]) false)) (hCl:CS.length=rows.length) (hCS:∀ j,j < rows.length→∃ x,CS[j]? = some (.v x)∧SlR γ i v j s1.length ((rows.getD j []).getD 0 (.i 0)).list.length x)
  (hgr:H1.get r=some (.seq (ty.2.getD 0 0) c true)) (hrn:r < n) (hsh:c.sh=s1) (hxr:EC γ' (.slO r s1.length c.cnt true) xr) (hv:EC γ' (.slO n 1 (rows.length+1) true) v') :
  ∃ γ3,GLe γ' γ3∧HR γ3 w0 (((H1.put n none).put r none).put (n+1) (some (.nest (n+1) ty [.list s1] (rows ++ [[.l c.rows]]) 1 [] true))) (n+2) w'∧EC γ3 (.slO (n+1) 1 (rows.length+1) true) v':=by
 have one:∀ j:Nat,j * [Sh.list s1].length+0=j:=fun j=>by show j * 1+0=j;omega
 obtain ⟨hle,h2⟩:=HR.nestBack (γ:=γ) (i:=i) (v:=v) (rows:=rows) (s1:=s1) hnb hnb2 h' hst sub hfb hrsv hrow hg1 (r0:=[.l []]) fun b m hb ⟨ca,c1,c2,c3,c4,c5⟩=>by
  refine ⟨ca,c1,c2,?_,fun j f s hj hf hh=>?_⟩
  ·rw [List.length_append,List.length_singleton] at c3 ⊢;show (rows.length+1) * 1≤m;omega
  ·have hf0:f=0∧s = .list s1:=by
    cases f with
    | zero=>exact ⟨rfl,by simpa using hf.symm⟩
    | succ f=>cases hf
   obtain ⟨rfl,rfl⟩:=hf0;have hj:j < rows.length:=by
    rw [List.length_append,List.length_singleton] at hj;have:j≠rows.length:=fun x=>hh (by rw [x];exact List.mem_singleton.2 rfl);omega
   obtain ⟨x,x1,x2⟩:=hCS j hj;have x3:(CS ++ [EV.v xr])[j]? = some (.v x):=by rw [List.getElem?_append_left (by omega)];exact x1
   obtain ⟨u,hu,hcu⟩:=c5.at x3;have:u=x:=by cases hcu;rfl
   subst this;rw [List.getElem?_take] at hu;split at hu
   case isFalse=>cases hu
   rw [List.getElem?_drop,Array.getElem?_toList] at hu;refine ⟨u,by rw [one];exact hu,?_⟩;rw [one];have e1:(rows ++ [[U.l []]]).getD j []=rows.getD j []:=by
    rw [List.getD_eq_getElem?_getD,List.getD_eq_getElem?_getD,List.getElem?_append_left hj]
   rw [e1];have e2:(G.nestAt γ γ' n i v rows.length).rw (n+1) 0 j=γ.rw i v j:=by
    show (if n+1=n+1 then (if (0:Nat)=0∧j < rows.length then γ.rw i v j else none) else _)=_
    rw [if_pos rfl,if_pos ⟨rfl,hj⟩]
   rcases x2 with ⟨y1,y2⟩ | ⟨k,m2,c',y1,y2⟩
   ·exact .inl ⟨trivial,y2⟩
   ·exact .inr ⟨k,m2,c',e2.trans y1,y2⟩
 have hcl:(rows ++ [[U.l []]]).length=rows.length+1:=by rw [List.length_append,List.length_singleton]
 have hg2:((H1.put n none).put (n+1) (some (.nest (n+1) ty [.list s1] (rows ++ [[U.l []]]) 0 [(rows.length,0)] true))).get (n+1)=some (.nest (n+1) ty [.list s1] (rows ++ [[U.l []]]) 0 [(rows.length,0)] true):=by rw [Tr.get_put hnb2,if_pos rfl]
 have hgr2:((H1.put n none).put (n+1) (some (.nest (n+1) ty [.list s1] (rows ++ [[U.l []]]) 0 [(rows.length,0)] true))).get r=some (.seq (ty.2.getD 0 0) c true):=by rw [Tr.get_put hnb2,if_neg (by omega),Tr.get_put hnb,if_neg (by omega)];exact hgr
 have hnil2:¬ (EK.nest (n+1) ty [.list s1] (rows ++ [[U.l []]]) 0 [(rows.length,0)] true).Nil:=fun e=>by cases e.1
 have hxr2:=hxr.mono hle
 cases hxr2 with
 | slO _ _ _ _ _ hs=>
 obtain ⟨b2,m2,cp,q1,rfl,q2,q3,q4⟩:=hs.2 rfl;obtain ⟨hle3,h3⟩:=h2.rowIn hnb2 hrb (by omega) hg2 hnil2 (j:=rows.length) (f:=0) (sh':=s1) (ho':=[]) (by rw [hcl];omega) rfl (fun p hp=>by
   by_cases e:p=(rows.length,0)
   ·exact .inr e
   ·exact .inl fun hm=>e (List.mem_singleton.1 hm)) (L:=c.rows) hgr2 q1 (fun ca g1 g2 g3 a g s ha hs=>by
   have ha2:a < c.cnt:=by rw [c.cnt_eq];exact ha
   have hs':c.sh[g]? = some s:=by rw [hsh];exact hs
   have hg2:g < c.cz:=by rw [c.cz_sh];exact (List.getElem?_eq_some_iff.1 hs').1
   have hcell:=SyC.cellE_enc ha2 hg2;obtain ⟨u,hu,hcu⟩:=g3.at hcell;rw [List.getElem?_take] at hu;split at hu
   case isFalse=>cases hu
   rw [List.getElem?_drop,Array.getElem?_toList] at hu;rw [← hsh,← c.cz_sh];exact ⟨u,hu,by rw [SyC.ev_cellE ha hs'];exact hcu⟩) (fun bi mi ci e1 e2=>by
   have e1':γ' n=some (bi,mi):=by
    have:(G.nestAt γ γ' n i v rows.length) (n+1)=γ' n:=if_pos rfl;rw [← this];exact e1
   obtain ⟨b3,m3,k1,k2,ca,c1,c2,c3,c4,c5⟩:=h'.hp n _ hg1 id;rw [e1'] at k1;simp only [Option.some.injEq,Prod.mk.injEq] at k1;obtain ⟨rfl,rfl⟩:=k1;have x3:(CS ++ [EV.v (Value.slice (some (b2.at 0)) c.cnt cp)])[rows.length]? = some (.v (Value.slice (some (b2.at 0)) c.cnt cp)):=by rw [← hCl,List.getElem?_append_right (Nat.le_refl _),Nat.sub_self];rfl
   obtain ⟨u,hu,hcu⟩:=c5.at x3;have hu2:u=Value.slice (some (b2.at 0)) c.cnt cp:=by cases hcu;rfl
   subst hu2;rw [List.getElem?_take] at hu;split at hu
   case isFalse=>cases hu
   rw [List.getElem?_drop,Array.getElem?_toList] at hu;obtain ⟨fz1,g4,_⟩:=e2;obtain ⟨fz2,g5,_⟩:=c1;rw [g4] at g5;simp only [Option.some.injEq,Obj.cells.injEq] at g5;refine ⟨cp,?_,by rw [← c.cnt_eq];exact q2,q3,q4⟩;rw [one,g5.1,hu,← c.cnt_eq];rfl)
 refine ⟨_,hle.trans hle3,?_,?_⟩
 ·refine h3.congr fun q kq hq=>?_;have er:(rows ++ [[U.l []]]).set rows.length (rset 0 (.l c.rows) ((rows ++ [[U.l []]]).getD rows.length []))=rows ++ [[.l c.rows]]:=by
   have e5:(rows ++ [[U.l []]]).getD rows.length []=[U.l []]:=by
    rw [List.getD_eq_getElem?_getD,List.getElem?_append_right (Nat.le_refl _),Nat.sub_self];rfl
   rw [e5,List.set_append_right _ _ (Nat.le_refl _),Nat.sub_self];rfl
  rw [er];rw [Tr.get_put hnb2] at hq ⊢;split at hq
  ·rename_i e;rw [if_pos e];exact hq
  ·rename_i e;rw [if_neg e];rw [Tr.get_put hrb] at hq ⊢;split at hq
   ·cases hq
   ·rename_i e2;rw [if_neg e2,Tr.get_put hnb2,if_neg e];exact hq
 ·have hv2:=hv.mono hle;refine EC.mono hle3 ?_
  cases hv with
  | slO _ _ _ _ _ hs2=>
   obtain ⟨b5,m5,c5,t1,t2⟩:=hs2.2 rfl;exact .slO _ _ _ _ _ ⟨nofun,fun _=>⟨b5,m5,c5,(if_pos rfl:(G.nestAt γ γ' n i v rows.length) (n+1)=γ' n).trans t1,t2⟩⟩

noncomputable def apNst (ei:EI) (i z len:Nat) (nn:Bool) (m:Nat) (news:List EV) (H:Tr EK) (n:Nat):Option YR:=match H.get i,news with
 | some (.nest _ ty [.list s1] rows v [] nn'),[.slO r z2 len2 nn2]=>match H.get r with
  | some (.seq tyr c nnr)=>bc (Nat.beq m 1) (bc (Nat.beq z 1) (bc (Nat.beq ei.z 1) (bc (Nat.beq ei.e ty.1) (bc (Nat.beq z2 (llen s1)) (bc (shsEq c.sh s1) (bc (Nat.beq tyr (ty.2.getD 0 0)) (bc (Nat.ble i 65535) (bc (Nat.ble r 65535) (bc (Nat.ble (n+1) 65535) (bc (Nat.beq r i) none
    (some ⟨bc nn2 (bc nnr (bc (Nat.beq len2 c.cnt) (bc (Nat.beq len rows.length) (bc (Nat.ble (len+1) 65536) (bc nn' true (bc nn false true)) false) false) false) false) false,⟨some (.slO (n+1) 1 (len+1) true),(((H.put i none).put n none).put r none).put (n+1) (some (.nest (n+1) ty [.list s1] (rows ++ [[.l c.rows]]) 1 [] true)),n+2⟩⟩)) none) none) none) none) none) none) none) none) none) none
  | _=>none
 | _,_=>none
theorem bcN {α:Type} {b:Bool} {x e y:α} (h:bc b x e=y) (hn:e≠y):b=true∧x=y:=by
 cases b with
 | false=>exact absurd h hn
 | true=>exact ⟨rfl,h⟩
theorem ecl_v (γ:G) (l:List Value):ECL γ (l.map EV.v) l:=⟨by simp,fun j a y ha hy=>by
 rw [List.getElem?_map,hy] at ha;injection ha with ha;subst ha
 exact .v _⟩
theorem apNst_ok (hT:TOk γ T tmps) (hH:HR γ w0 H n w) {t ty:TypeId} {ei:EI} (hei:elemInfo P t=some ei) {i z len:Nat} {nn:Bool} {vs:Value} {m:Nat} {news:List EV} {r:YR} (hs:EC γ (.slO i z len nn) vs) {a:Addr} {ca:Nat} {ns:List Value} (hcn:ECL γ news ns) (hnl:ns.length=m * ei.z) (hnc:∀ j u,ns[j]? = some u→w.cell? (a.add j)=some u) (h:apNst ei i z len nn m news H n=some r) (hc:r.c=true) :
  ∃ γ' w' v',GLe γ γ'∧HR γ' w0 r.er.H r.er.n w'∧(Builtin.append_ #[t,t] ty #[vs,.slice (some a) m ca]).run P w = .ok v' w'∧∃ a,r.er.val=some a∧EC γ' a v':=by
 unfold apNst at h;split at h
 case h_2=>cases h
 rename_i me tyN s1 rows v nn' r0 z2 len2 nn2 hg;split at h
 case h_2=>cases h
 rename_i tyr c nnr hgr;obtain ⟨k1,h⟩:=bcN h nofun;obtain ⟨k2,h⟩:=bcN h nofun;obtain ⟨k3,h⟩:=bcN h nofun;obtain ⟨k4,h⟩:=bcN h nofun;obtain ⟨k5,h⟩:=bcN h nofun;obtain ⟨k6,h⟩:=bcN h nofun;obtain ⟨k7,h⟩:=bcN h nofun;obtain ⟨hi,h⟩:=bcN h nofun;obtain ⟨hrb,h⟩:=bcN h nofun;obtain ⟨hnb2,h⟩:=bcN h nofun;rw [bc_eq] at h;split at h
 case isTrue=>cases h
 rename_i hri;injection h with h;subst h
 obtain ⟨d1,hc⟩:=bcN (show bc nn2 _ _=true from hc) nofun;obtain ⟨d2,hc⟩:=bcN hc nofun;obtain ⟨d3,hc⟩:=bcN hc nofun;obtain ⟨d4,hc⟩:=bcN hc nofun;obtain ⟨d5,d6⟩:=bcN hc nofun;have k1:=Nat.eq_of_beq_eq_true k1;have k2:=Nat.eq_of_beq_eq_true k2;have k3:=Nat.eq_of_beq_eq_true k3;have k4:=Nat.eq_of_beq_eq_true k4;have k5:=Nat.eq_of_beq_eq_true k5;rw [llen_eq] at k5;have k6:=shsEq_ok k6;have k7:=Nat.eq_of_beq_eq_true k7;have d3:=Nat.eq_of_beq_eq_true d3;have d4:=Nat.eq_of_beq_eq_true d4
 have hri:r0≠i:=fun e=>hri (by rw [e];exact Nat.beq_refl i);subst k1;subst k2;subst k5;subst k7;subst d1;subst d2;subst d3;subst d4;have hnb:Nat.ble n 65535=true:=Nat.ble_eq_true_of_le (by have:=Nat.le_of_ble_eq_true hnb2;omega);obtain ⟨hme,_⟩:=hH.fzk.nst.me i me tyN [.list s1] rows v [] nn' hg;have hme:=hme.symm;subst hme;obtain ⟨xr,us,rfl,hxr,hus⟩:=ECL.inv hcn;have hus:us=[]:=List.eq_nil_of_length_eq_zero (by have:=hus.1;simpa using this.symm);subst hus;have hrnil:¬ (EK.seq (tyN.2.getD 0 0) c true).Nil:=fun e=>by cases e.1
 have hrn:r0 < n:=by
  obtain ⟨b,mm,e1,_⟩:=hH.hp r0 _ hgr hrnil;rcases Nat.lt_or_ge r0 n with h | h
  ·exact h
  ·rw [hH.fresh r0 h] at e1;cases e1
 have hone:allOne [EV.v xr]=true:=by
  cases hxr with
  | slO _ _ _ _ _ hs=>obtain ⟨b2,m2,cp,q1,rfl,_⟩:=hs.2 rfl;rfl
 have hcv:ECL γ [EV.v xr] [xr]:=ecl_v γ [xr]
 cases nn with
 | false=>
  obtain ⟨rfl,hl0⟩:=slO_nil hs;have hr0:rows=[]:=List.eq_nil_of_length_eq_zero hl0;subst hr0;have hap:exAppendN ei (.v (.slice none 0 0)) 1 [EV.v xr] H n=some ⟨some (.sl n ei.z 0 (0+1) none),H.put n (some (.cells ei.e ([] ++ [EV.v xr]) false)),Nat.succ n⟩:=by
   unfold exAppendN exGrow;simp only [bc_eq,Nat.beq_refl,hnb,hone];rfl
  obtain ⟨γ',w',v',q1,q2,q3,a2,q4,q5⟩:=exAppendN_ok (ty:=ty) (c:=ca) hT hH hei (.v (γ:=γ) (.slice none 0 0)) hcv hnl hnc hap;injection q4 with q4;subst q4;have q6:=sl_slO q5;rw [k3] at q6;rw [k4] at q2
  obtain ⟨γ3,g1,g2,g3⟩:=nest_fin (γ:=γ) (i:=i) (v:=v) (rows:=[]) (r:=r0) (c:=c) (s1:=s1) (ty:=tyN) (CS:=[]) hnb hnb2 hrb q2 q2.stays (fun _ h=>h) (fun _=>Iff.rfl) (fun _ h=>h) (fun j k m hj=>absurd hj (Nat.not_lt_zero _)) (by rw [Tr.get_put hnb,if_pos rfl]) rfl (fun j hj=>absurd hj (Nat.not_lt_zero _)) (by rw [Tr.get_put hnb,if_neg (by omega)];exact hgr) hrn k6 (hxr.mono q1) q6;refine ⟨γ3,w',v',q1.trans g1,g2.congr fun q kq hq=>?_,q3,_,rfl,g3⟩;rw [Tr.get_put hnb2] at hq ⊢;split at hq
  ·rename_i e;rw [if_pos e];exact hq
  ·rename_i e;rw [if_neg e];rw [Tr.get_put hrb] at hq ⊢;split at hq
   ·cases hq
   ·rename_i e2;rw [if_neg e2];rw [Tr.get_put hnb] at hq ⊢;split at hq
    ·cases hq
    ·rename_i e3;rw [if_neg e3,Tr.get_put hnb,if_neg e3];rw [Tr.get_put hi] at hq;split at hq
     ·cases hq
     ·exact hq
 | true=>
  have hnn':nn'=true:=by
   cases nn' with
   | true=>rfl
   | false=>cases d6
  subst hnn';have hnil:¬ (EK.nest i tyN [.list s1] rows v [] true).Nil:=fun e=>by cases e.1
  obtain ⟨b,mm,e1,e2,cc,c1,c2,c3,c4⟩:=hH.hp i _ hg hnil;have c3:rows.length * 1≤mm:=c3;have hlenx:((cc.toList.drop b.s).take rows.length).length=rows.length:=by
   have h9:cc.toList.length=b.s+mm:=by rw [Array.length_toList,c2]
   rw [List.length_take,List.length_drop];omega
  have hCl:(((cc.toList.drop b.s).take rows.length).map EV.v).length=rows.length:=by rw [List.length_map,hlenx]
  have hCS:∀ j,j < rows.length→∃ x,(((cc.toList.drop b.s).take rows.length).map EV.v)[j]? = some (.v x)∧SlR γ i v j s1.length ((rows.getD j []).getD 0 (.i 0)).list.length x:=fun j hj=>by
   obtain ⟨x,x1,x2⟩:=c4 j 0 (.list s1) hj rfl (by simp);have e5:j * [Sh.list s1].length+0=j:=by show j * 1+0=j;omega
   rw [e5] at x1 x2;refine ⟨x,?_,x2⟩;rw [List.getElem?_map,List.getElem?_take,if_pos hj,List.getElem?_drop,Array.getElem?_toList,x1];rfl
  generalize hCSd:((cc.toList.drop b.s).take rows.length).map EV.v=CS at hCl hCS;have hR1:=hH.nestCells hi hg hnil (CS:=CS) fun b' m' hb _=>by
   rw [e1] at hb;simp only [Option.some.injEq,Prod.mk.injEq] at hb;obtain ⟨rfl,rfl⟩:=hb;refine ⟨cc,c1,c2,by omega,(fun e=>by cases e),?_⟩;rw [hCl,← hCSd];exact ecl_v γ _
  obtain ⟨_,hsl⟩:=slO_sl hs (.inl rfl);have hgi:(H.put i (some (EK.cells tyN.1 CS false))).get i=some (.cells tyN.1 CS false):=by rw [Tr.get_put hi,if_pos rfl]
  have hca:cellsAt (H.put i (some (.cells tyN.1 CS false))) i=some (tyN.1,CS,false):=by unfold cellsAt;rw [hgi]
  have hap:exAppendN ei (.sl i 1 0 rows.length none) 1 [EV.v xr] (H.put i (some (.cells tyN.1 CS false))) n=some ⟨some (.sl n ei.z 0 (rows.length+1) none),((H.put i (some (.cells tyN.1 CS false))).put i none).put n (some (.cells ei.e (((CS.drop 0).take (Nat.mul rows.length 1)) ++ [EV.v xr]) false)),Nat.succ n⟩:=by
   unfold exAppendN;simp only [bc_eq,k3,k4,Nat.beq_refl,hca];have e3:Nat.ble (Nat.add 0 (Nat.mul rows.length 1)) (llen CS)=true:=by
    rw [llen_eq,hCl];exact Nat.ble_eq_true_of_le (show 0+rows.length * 1≤rows.length by omega)
   simp only [e3,hi];unfold exGrow;simp only [bc_eq,hnb,hone,show Nat.ble (Nat.add rows.length 1) 65536=true from d5,if_true]
  obtain ⟨γ',w',v',q1,q2,q3,a2,q4,q5⟩:=exAppendN_ok (ty:=ty) (c:=ca) hT hR1 hei hsl hcv hnl hnc hap;injection q4 with q4;subst q4;have q6:=sl_slO q5;rw [k3] at q6;have e6:(CS.drop 0).take (Nat.mul rows.length 1)=CS:=by
   rw [List.drop_zero,show Nat.mul rows.length 1=CS.length by rw [hCl];exact Nat.mul_one _,List.take_length]
  rw [k4,e6] at q2;have q2:HR γ' (hH.baseN hg) (((H.put i (some (.cells tyN.1 CS false))).put i none).put n (some (.cells tyN.1 (CS ++ [EV.v xr]) false))) (n+1) w':=q2;have hst:w0.Stays w':=⟨q2.stays.os.trans hH.stays.os,q2.stays.tape.trans hH.stays.tape,q2.stays.output.trans hH.stays.output,Nat.le_trans hH.stays.size q2.stays.size,fun k hk=>(q2.stays.block k (.inl hk)).trans (hH.stays.block k hk)⟩
  obtain ⟨γ3,g1,g2,g3⟩:=nest_fin (γ:=γ) (i:=i) (v:=v) (rows:=rows) (r:=r0) (c:=c) (s1:=s1) (ty:=tyN) (CS:=CS) hnb hnb2 hrb q2 hst (fun _ h=>.inl h) (fun _=>Iff.rfl) (fun _ h=>h) (fun j k m hj hr=>by
   have hr2:γ.rw i v (j * [Sh.list s1].length+0)=some (k,m):=by show γ.rw i v (j * 1+0)=_;rw [Nat.mul_one,Nat.add_zero];exact hr
   obtain ⟨p1,p2,p3,p4,arr,ty',p5,p6,p7⟩:=hH.fzk.nst.at' i i _ [.list s1] rows v [] true hg j 0 s1 hj rfl (by simp) k m hr2;have hF:(hH.baseN hg).F k:=.inr ⟨j,0,s1,m,hj,rfl,hr2⟩;refine ⟨hF,p1,fun hb=>?_,fun j2 m2 hj2 hr3=>?_,arr,ty',p5.mono (q2.stays.block k hF),p6,fun a g s ha hs=>?_⟩
   ·obtain ⟨a3,z⟩:=hH.fzk.base k hb;rw [p2] at z;cases z
   ·exact (p4 i i _ [.list s1] rows v [] true hg j2 0 s1 hj2 rfl (by simp) m2 (by show γ.rw i v (j2 * 1+0)=_;rw [Nat.mul_one,Nat.add_zero];exact hr3)).2.1
   ·obtain ⟨x,x1,x2⟩:=p7 a g s ha hs;exact ⟨x,x1,x2.mono q1⟩) (by rw [Tr.get_put hnb,if_pos rfl]) hCl hCS (by rw [Tr.get_put hnb,if_neg (by omega),Tr.get_put hi,if_neg hri,Tr.get_put hi,if_neg hri];exact hgr) hrn k6 (hxr.mono q1) q6
  refine ⟨γ3,w',v',q1.trans g1,g2.congr fun q kq hq=>?_,q3,_,rfl,g3⟩;rw [Tr.get_put hnb2] at hq ⊢;split at hq
  ·rename_i e;rw [if_pos e];exact hq
  ·rename_i e;rw [if_neg e];rw [Tr.get_put hrb] at hq ⊢;split at hq
   ·cases hq
   ·rename_i e2;rw [if_neg e2];rw [Tr.get_put hnb] at hq ⊢;split at hq
    ·cases hq
    ·rename_i e3;rw [if_neg e3,Tr.get_put hnb,if_neg e3];rw [Tr.get_put hi] at hq ⊢;split at hq
     ·cases hq
     ·rename_i e4;rw [if_neg e4,Tr.get_put hi,if_neg e4];exact hq

noncomputable def apNs0 (ei:EI) (m:Nat) (news:List EV) (H:Tr EK) (n:Nat):Option YR:=match news with
 | [.slO r z2 len2 nn2]=>match H.get r with
  | some (.seq tyr c nnr)=>bc (Nat.beq m 1) (bc (Nat.beq ei.z 1) (bc (Nat.beq z2 (llen c.sh)) (bc (Nat.ble r 65535) (bc (Nat.ble (n+1) 65535)
    (some ⟨bc nn2 (bc nnr (Nat.beq len2 c.cnt) false) false,⟨some (.slO (n+1) 1 (0+1) true),((H.put n none).put r none).put (n+1) (some (.nest (n+1) (ei.e,[tyr]) [.list c.sh] [[.l c.rows]] 1 [] true)),n+2⟩⟩) none) none) none) none) none
  | _=>none
 | _=>none
theorem apNs0_ok (hT:TOk γ T tmps) (hH:HR γ w0 H n w) {t ty:TypeId} {ei:EI} (hei:elemInfo P t=some ei) {m:Nat} {news:List EV} {r:YR} {a:Addr} {ca:Nat} {ns:List Value} (hcn:ECL γ news ns) (hnl:ns.length=m * ei.z) (hnc:∀ j u,ns[j]? = some u→w.cell? (a.add j)=some u) (h:apNs0 ei m news H n=some r) (hc:r.c=true) :
  ∃ γ' w' v',GLe γ γ'∧HR γ' w0 r.er.H r.er.n w'∧(Builtin.append_ #[t,t] ty #[.slice none 0 0,.slice (some a) m ca]).run P w = .ok v' w'∧∃ a,r.er.val=some a∧EC γ' a v':=by
 unfold apNs0 at h;split at h
 case h_2=>cases h
 rename_i r0 z2 len2 nn2;split at h
 case h_2=>cases h
 rename_i tyr c nnr hgr;obtain ⟨k1,h⟩:=bcN h nofun;obtain ⟨k3,h⟩:=bcN h nofun;obtain ⟨k5,h⟩:=bcN h nofun;obtain ⟨hrb,h⟩:=bcN h nofun;obtain ⟨hnb2,h⟩:=bcN h nofun;injection h with h;subst h
 obtain ⟨d1,hc⟩:=bcN (show bc nn2 _ _=true from hc) nofun;obtain ⟨d2,d3⟩:=bcN hc nofun;have k1:=Nat.eq_of_beq_eq_true k1;have k3:=Nat.eq_of_beq_eq_true k3;have k5:=Nat.eq_of_beq_eq_true k5;rw [llen_eq] at k5;have d3:=Nat.eq_of_beq_eq_true d3;subst k1;subst k5;subst d1;subst d2;subst d3;have hnb:Nat.ble n 65535=true:=Nat.ble_eq_true_of_le (by have:=Nat.le_of_ble_eq_true hnb2;omega);obtain ⟨xr,us,rfl,hxr,hus⟩:=ECL.inv hcn;have hus:us=[]:=List.eq_nil_of_length_eq_zero (by have:=hus.1;simpa using this.symm);subst hus
 have hrnil:¬ (EK.seq tyr c true).Nil:=fun e=>by cases e.1
 have hrn:r0 < n:=by
  obtain ⟨b,mm,e1,_⟩:=hH.hp r0 _ hgr hrnil;rcases Nat.lt_or_ge r0 n with h | h
  ·exact h
  ·rw [hH.fresh r0 h] at e1;cases e1
 have hone:allOne [EV.v xr]=true:=by
  cases hxr with
  | slO _ _ _ _ _ hs=>obtain ⟨b2,m2,cp,q1,rfl,_⟩:=hs.2 rfl;rfl
 have hcv:ECL γ [EV.v xr] [xr]:=ecl_v γ [xr];have hap:exAppendN ei (.v (.slice none 0 0)) 1 [EV.v xr] H n=some ⟨some (.sl n ei.z 0 (0+1) none),H.put n (some (.cells ei.e ([] ++ [EV.v xr]) false)),Nat.succ n⟩:=by
  unfold exAppendN exGrow;simp only [bc_eq,Nat.beq_refl,hnb,hone];rfl
 obtain ⟨γ',w',v',q1,q2,q3,a2,q4,q5⟩:=exAppendN_ok (ty:=ty) (c:=ca) hT hH hei (.v (γ:=γ) (.slice none 0 0)) hcv hnl hnc hap;injection q4 with q4;subst q4;have q6:=sl_slO q5;rw [k3] at q6
 obtain ⟨γ3,g1,g2,g3⟩:=nest_fin (γ:=γ) (i:=0) (v:=0) (rows:=[]) (r:=r0) (c:=c) (s1:=c.sh) (ty:=(ei.e,[tyr])) (CS:=[]) hnb hnb2 hrb q2 q2.stays (fun _ h=>h) (fun _=>Iff.rfl) (fun _ h=>h) (fun j k m hj=>absurd hj (Nat.not_lt_zero _)) (by rw [Tr.get_put hnb,if_pos rfl]) rfl (fun j hj=>absurd hj (Nat.not_lt_zero _)) (by rw [Tr.get_put hnb,if_neg (by omega)];exact hgr) hrn rfl (hxr.mono q1) q6;refine ⟨γ3,w',v',q1.trans g1,g2.congr fun q kq hq=>?_,q3,_,rfl,g3⟩;rw [Tr.get_put hnb2] at hq ⊢;split at hq
 ·rename_i e;rw [if_pos e];exact hq
 ·rename_i e;rw [if_neg e];rw [Tr.get_put hrb] at hq ⊢;split at hq
  ·cases hq
  ·rename_i e2;rw [if_neg e2];rw [Tr.get_put hnb] at hq ⊢;split at hq
   ·cases hq
   ·rename_i e3;rw [if_neg e3,Tr.get_put hnb,if_neg e3];exact hq

noncomputable def zNapO (P:Program) (T:Tr EV) (args:List Operand) (ats:List TypeId) (H:Tr EK) (n:Nat):Option YR:=match args,ats with
 | [x,y],[t,u]=>bc (Nat.beq t u) (match elemInfo P t with
  | some ei=>match exVal T x with
   | some a=>match exVal T y with
    | some b=>match newsOf H ei.z b with
     | some (m,news)=>match a with
      | .slO i z len nn=>apNst ei i z len nn m news H n
      | .v (.slice none 0 0)=>apNs0 ei m news H n
      | _=>none
     | none=>none
    | none=>none
   | none=>none
  | none=>none) none
 | _,_=>none
theorem zNapO_ok (hT:TOk γ T tmps) (hH:HR γ w0 H n w) {args:Array Operand} {ats:Array TypeId} {r:YR} (ho:o.op = .call { callee:=.builtin .append,args:=args,argTypes:=ats }) (h:zNapO P T args.toList ats.toList H n=some r) (hc:r.c=true):Gives P γ w0 w (execOp (opEval tmps) o) r.er.val r.er.H r.er.n:=by
 unfold zNapO at h;split at h
 case h_2=>cases h
 rename_i x y t u hargs hats;have ha2:args = #[x,y]:=by apply Array.ext';simpa using hargs
 have ha3:ats = #[t,u]:=by apply Array.ext';simpa using hats
 subst ha2;subst ha3;obtain ⟨htu,hh⟩:=bcN h nofun;clear h;have htu:=Nat.eq_of_beq_eq_true htu;subst htu;split at hh
 case h_2=>cases hh
 rename_i ei hei;split at hh
 case h_2=>cases hh
 rename_i a ha;split at hh
 case h_2=>cases hh
 rename_i b hb;split at hh
 case h_2=>cases hh
 rename_i m news hnw;have hy:=exVal_ok hT hb;obtain ⟨ad,cap,vs,hvx,hcn,hnl,hnc⟩:=newsOf_ok hH hy hnw;have main:∃ γ' w' v',GLe γ γ'∧HR γ' w0 r.er.H r.er.n w'∧(Builtin.append_ #[t,t] o.type #[opEval tmps x,opEval tmps y]).run P w = .ok v' w'∧∃ a,r.er.val=some a∧EC γ' a v':=by
  rw [hvx];split at hh
  case h_3=>cases hh
  ·exact apNst_ok hT hH hei (exVal_ok hT ha) hcn hnl hnc hh hc
  ·rw [ec_v (exVal_ok hT ha)];exact apNs0_ok hT hH hei hcn hnl hnc hh hc
 obtain ⟨γ',w',v',h1,h2,h3,av,h4,h5⟩:=main;refine ⟨γ',w',h1,h2,?_⟩;rw [h4];refine ⟨v',?_,h5⟩;simp [execOp,ho,resolve,invoke,builtin,h3]
end Go.Proofs.Ytfffbioafhppiaa.Ev
namespace Go.Proofs.Ytfffbioafhppiaa.Ev
open Go.RowKit
variable {P:Program} {γ γ':G} {w0:Bs} {w:World} {H H':Tr EK} {n n':Nat} {T:Tr EV} {cs:List Frame} {fid:FuncId} {FT:Tr FI} {tmps:Array Value} {o:Oper} {α:Type}


noncomputable def opG (s:ES) (ops:Array Oper) (o:Oper) (l:List Oper) (k:List IM) (er:ER):EO:=match setD s.top.T s.top.N o.dst (er.val.getD (.v undef)) with
 | some T'=>.go { s with top:={ s.top with T:=T',todo:=.ops ops l :: k },H:=er.H,n:=er.n }
 | none=>.fail
theorem opG_ok {s:ES} {ops:Array Oper} {l:List Oper} {k:List IM} {i:Nat} {rest:List Nat} {todo:List Item} {ds:List Deferred} {ro:Option Nat} {frs:List Frame} {er:ER}
  (hret:s.top.ret=false) (h1:tmps.size=s.top.N) (h2:TOk γ s.top.T tmps) (hk:All2 (IR γ) k todo) (h4:All2 (DR γ) s.top.dfs ds) (h5:RR γ s.top.round ro) (hfs:All2 (FR γ) s.rest frs) (hH:HR γ w0 s.H s.n w)
  (ho:ops[i]? = some o) (hrest:rest.map (ops[·]?)=l.map some) (hw:Region.wanted o (yielded ops tmps)=true) (hs:SndL P .nil s.top.T o s.H s.n (er.val.getD (.v undef)) er.H er.n) :
  SOk P γ w0 cs fid (lone (fram s.top.fn tmps (.inRegion ops (i :: rest) :: todo) ds ro) (frs ++ cs) w) (opG s ops o l k er):=by
 unfold opG;split
 case h_2=>trivial
 rename_i T' hT';obtain ⟨γ',w',x,hle,hH2,hcx,hst⟩:=hs γ w0 w s.top.fn tmps ops i rest todo ds ro (frs ++ cs) (ROk.none _ _) h2 hH ho hw;obtain ⟨g1,g2⟩:=setD_ok (h2.mono hle) h1 hT' hcx;exact ⟨γ',_,hle,hst,_,frs,w',rfl,⟨_,_,ds,ro,by simp [fram,hret,modeOf],g2,g1,.cons (.ops ops l rest hrest) (hk.mono fun _ _ h=>h.mono hle),h4.mono fun _ _ h=>h.mono hle,h5.mono hle⟩,hfs.mono fun _ _ h=>h.mono hle,hH2⟩

noncomputable def flRw (ct:Tr ZCC):Bool:=Option.isSome (ct.get 2)
noncomputable def rowPart (T:Tr EV) (l:List (Nat × Operand)):Bool:=match l with
 | [(_,x)]=>match exVal T x with
  | some (.slO _ _ _ _)=>true
  | _=>false
 | _=>false

noncomputable def zMkF (P:Program) (ct:Tr ZCC) (T:Tr EV) (o:Oper) (H:Tr EK) (n:Nat):Option YR:=match o.op with
 | .makeSlice t l c=>bc (flC ct) (zMakeR P T t l c H n) none
 | .call c=>match c.callee with
  | .builtin .append=>bc (flRw ct) (zNapO P T c.args.toList c.argTypes.toList H n) none
  | _=>none
 | .buildSlice t len parts=>bc (flRw ct) (bc (rowPart T parts.toList) (match exBuildSlice P T t len parts H n with
  | some er=>some ⟨true,er⟩
  | none=>none) none) none
 | _=>none
theorem zMkF_ok {ct:Tr ZCC} (hT:TOk γ T tmps) (hH:HR γ w0 H n w) {r:YR} (h:zMkF P ct T o H n=some r) (hc:r.c=true):Gives P γ w0 w (execOp (opEval tmps) o) r.er.val r.er.H r.er.n:=by
 unfold zMkF at h;split at h
 case h_4=>cases h
 ·rename_i t l c ho;rw [bc_eq] at h;split at h
  case isFalse=>cases h
  exact zMakeR_ok hT hH ho h hc
 ·rename_i c ho;split at h
  case h_2=>cases h
  rename_i hcal;obtain ⟨callee,args,ats⟩:=c;simp only at hcal h;subst hcal;rw [bc_eq] at h;split at h
  case isFalse=>cases h
  exact zNapO_ok hT hH ho h hc
 ·rename_i t len parts ho;rw [bc_eq] at h;split at h
  case isFalse=>cases h
  rw [bc_eq] at h;split at h
  case isFalse=>cases h
  split at h
  case h_2=>cases h
  rename_i er he;injection h with h;subst h
  exact exBuildSlice_ok hT hH ho he
theorem zMkF_nd {ct:Tr ZCC} {r:YR} (h:zMkF P ct T o H n=some r):notDefer o.op=true:=by
 unfold zMkF at h;split at h
 case h_4=>cases h
 ·rename_i ho;rw [ho];rfl
 ·rename_i ho;split at h
  case h_2=>cases h
  rename_i hcal;rw [ho];unfold notDefer;simp [hcal]
 ·rename_i ho;rw [ho];rfl
noncomputable def stZ (P:Program) (FT:Tr FI) (ct:Tr ZCC) (T:Tr EV) (o:Oper) (H:Tr EK) (n:Nat):Option YR:=match zToBo P T o H n with
 | some r=>some r
 | none=>match zMkF P ct T o H n with
  | some r=>some r
  | none=>match zMapO P ct T o H n with
  | some r=>some r
  | none=>match qcZ P FT ct [] T o H n with
   | some p=>some ⟨p.1,⟨some p.2,H,n⟩⟩
   | none=>match zCt FT ct T o with
    | some (sp,ax)=>match zCallA sp ax H n with
     | some r=>some ⟨r.1,⟨some r.2.1,r.2.2.1,r.2.2.2⟩⟩
     | none=>none
    | none=>zOwn P T o H n
theorem stZ_ok (hF:FTok P FT) {ct:Tr ZCC} (hct:ZCtsOk P ct) {r:YR} (h:stZ P FT ct T o H n=some r) (hc:r.c=true):SndL P .nil T o H n (r.er.val.getD (.v undef)) r.er.H r.er.n:=by
 unfold stZ at h;split at h
 ·rename_i r' hr;injection h with h;subst h
  exact snd_givesO (zToBo_nd hr) fun γ w0 w tmps hT hH=>zToBo_ok hT hH hr hc
 split at h
 ·rename_i r' hr;injection h with h;subst h
  exact snd_givesO (zMkF_nd hr) fun γ w0 w tmps hT hH=>zMkF_ok hT hH hr hc
 split at h
 ·rename_i r' hr;injection h with h;subst h
  exact snd_givesO (zMapO_nd hr) fun γ w0 w tmps hT hH=>zMapO_ok hT hH hr hc
 split at h
 ·rename_i p hp;injection h with h;subst h
  exact (qcZ_ok hF hct hp hc).2.1
 ·split at h
  ·rename_i sp ax hctx;obtain ⟨_,g,k1,k2⟩:=zCt_ok hF hct hctx;split at h
   case h_2=>cases h
   rename_i q hq;injection h with h;subst h
   exact k2 fun γ w0 w us hH ha=>zCallA_ok k1 hH ha hq hc
  ·have hd:notDefer o.op=true:=by
    have hr:=h;unfold zOwn at hr;split at hr
    all_goals first | (rename_i ho;rw [ho];rfl) | cases hr
   exact snd_givesO hd fun γ w0 w tmps hT hH=>(zOwn_ok hT hH h hc).2
noncomputable def zOps (P:Program) (FT:Tr FI) (fid:FuncId) (dr:ES→Nat→Array Oper→List IM→EO) (ct:Tr ZCC) (s:ES) (ops:Array Oper) (o:Oper) (l:List Oper) (k:List IM):Bool × EO:=match exGuard s.top.T ops o with
 | some true=>match stZ P FT ct s.top.T o s.H s.n with
  | some r=>(r.c,opG s ops o l k r.er)
  | none=>(true,exStep P FT fid dr s)
 | _=>(true,exStep P FT fid dr s)
noncomputable def zMain (P:Program) (FT:Tr FI) (fid:FuncId) (dr:ES→Nat→Array Oper→List IM→EO) (sub:Sub) (ct:Tr ZCC) (ov:List (Nat × Bool)) (s:ES):Bool × EO:=match s.top.ret with
 | false=>match s.top.todo with
  | .ops ops (o :: l) :: k=>zOps P FT fid dr ct s ops o l k
  | .it (.code (.region _ ops true)) :: k=>match drP P FT sub ct ov s ops k with
   | some r=>r
   | none=>drZ P FT sub ct ov s ops k (ancs ops.toList []) (llen ops.toList)
  | _=>(true,exStep P FT fid dr s)
 | true=>zRet P FT fid s
theorem zMain_ok (hm0:P.follows .mixedOrders=true) (hF:FTok P FT) {dr:ES→Nat→Array Oper→List IM→EO} (hdr:DrOk P dr) {sub:Sub} (hsub:LoudOk P sub) {ct:Tr ZCC} (hct:ZCtsOk P ct) {ov:List (Nat × Bool)} {s:ES} {m:Machine} (hm:MR γ w0 cs s m) (hc:(zMain P FT fid dr sub ct ov s).1=true):SOk P γ w0 cs fid m (zMain P FT fid dr sub ct ov s).2:=by
 unfold zMain at hc ⊢;split at hc
 ·rename_i hret;split at hc
  ·rename_i ops o l k htodo;unfold zOps at hc ⊢;split at hc
   ·rename_i hg;split at hc
    ·rename_i r hr;obtain ⟨fr,frs,w,rfl,⟨tmps,todo,ds,ro,rfl,h1,h2,h3,h4,h5⟩,hfs,hH⟩:=hm;rw [htodo] at h3
     cases h3 with
     | @cons _ _ _ todo' hi hk=>
      cases hi with
      | ops _ _ idx hidx=>
       obtain ⟨i,rest,rfl,ho,hrest⟩:=map_cons_inv hidx;have hfr:(lone { fn:=s.top.fn,tmps:=tmps,todo:=.inRegion ops (i :: rest) :: todo',defers:=ds,mode:=modeOf s.top.ret,kind:=.normal,roundOf:=ro } (frs ++ cs) w)=lone (fram s.top.fn tmps (.inRegion ops (i :: rest) :: todo') ds ro) (frs ++ cs) w:=by rw [hret];rfl
       rw [hfr];exact opG_ok hret h1 h2 hk h4 h5 hfs hH ho hrest (exGuard_ok h2 hg) (stZ_ok hF hct hr hc)
    ·exact exStep_ok hF hdr hm
   ·exact exStep_ok hF hdr hm
  ·rename_i id ops k htodo;obtain ⟨fr,frs,w,rfl,⟨tmps,todo,ds,ro,rfl,h1,h2,h3,h4,h5⟩,hfs,hH⟩:=hm;rw [htodo] at h3
   cases h3 with
   | @cons _ _ _ todo' hi hk=>
    cases hi with
    | it x=>
     have hfr:(lone { fn:=s.top.fn,tmps:=tmps,todo:=.code (.region id ops true) :: todo',defers:=ds,mode:=modeOf s.top.ret,kind:=.normal,roundOf:=ro } (frs ++ cs) w)=lone (fram s.top.fn tmps (.code (.region id ops true) :: todo') ds ro) (frs ++ cs) w:=by rw [hret];rfl
     rw [hfr];split at hc
     ·rename_i r hr;exact drP_ok hm0 hF hsub hct hret h1 h2 hk h4 h5 hfs hH hr hc
     ·exact drZ_ok hm0 hF hsub hct hret h1 h2 hk h4 h5 hfs hH hc
  ·exact exStep_ok hF hdr hm
 ·rename_i hret;obtain ⟨fr,frs,w,rfl,⟨tmps,todo,ds,ro,rfl,h1,h2,h3,h4,h5⟩,hfs,hH⟩:=hm;have:=zRet_ok (fid:=fid) (cs:=cs) hF hret h1 h2 h3 h4 h5 hfs hH hc;simpa [fram,hret,modeOf] using this

noncomputable def fixC (d:Nat) (b:Bool) (s:ES):ES:=bc (Nat.ble d 65535) { s with top:={ s.top with T:=s.top.T.put d (some (.v (.bool b))) } } s

noncomputable def forkC (d:Nat) (s:ES) (κ:ES→α):α:=match s.top.T.get d with
 | some (.v (.bool t))=>Bool.rec (κ (fixC d false s)) (κ (fixC d true s)) t
 | _=>κ s
theorem fixC_ok {d:Nat} {t:Bool} {s:ES} {m:Machine} (hm:MR γ w0 cs s m) (ht:s.top.T.get d=some (.v (.bool t))):MR γ w0 cs (fixC d t s) m:=by
 unfold fixC;rw [bc_eq];split
 ·rename_i hd;obtain ⟨fr,frs,w,rfl,⟨tmps,todo,ds,ro,rfl,h1,h2,h3,h4,h5⟩,hfs,hH⟩:=hm;refine ⟨_,frs,w,rfl,⟨tmps,todo,ds,ro,rfl,h1,fun sl a hs=>?_,h3,h4,h5⟩,hfs,hH⟩;have hs2:(s.top.T.put d (some (.v (.bool t)))).get sl=some a:=hs;clear hs;rw [Tr.get_put hd] at hs2;split at hs2
  ·rename_i e;subst e;exact h2 _ a (ht.trans hs2)
  ·exact h2 sl a hs2
 ·exact hm
theorem forkC_ok {d:Nat} {s:ES} {m:Machine} (hm:MR γ w0 cs s m) (κ:ES→α):∃ s',MR γ w0 cs s' m∧forkC d s κ=κ s':=by
 unfold forkC;split
 ·rename_i t ht
  cases t with
  | false=>exact ⟨_,fixC_ok hm ht,rfl⟩
  | true=>exact ⟨_,fixC_ok hm ht,rfl⟩
 ·exact ⟨s,hm,rfl⟩
noncomputable def preCodeC (c:Code) (s:ES) (κ:ES→α):α:=match c with
 | .cond (.tmp d) _ _=>forkC d s κ
 | _=>κ s
noncomputable def preOpC (ops:Array Oper) (o:Oper) (s:ES) (κ:ES→α):α:=match o.guard with
 | some (j,_)=>match lget ops.toList j with
  | some oj=>match oj.dst with
   | some d=>forkC d s κ
   | none=>κ s
  | none=>κ s
 | none=>match o.op with
  | .pick (.tmp d) _ _=>forkC d s κ
  | _=>κ s
noncomputable def preC (s:ES) (κ:ES→α):α:=match s.top.todo with
 | .it (.code c) :: _=>preCodeC c s κ
 | .ops ops (o :: _) :: _=>preOpC ops o s κ
 | _=>κ s
theorem preC_ok {s:ES} {m:Machine} (hm:MR γ w0 cs s m) (κ:ES→α):∃ s',MR γ w0 cs s' m∧preC s κ=κ s':=by
 unfold preC;split
 ·unfold preCodeC;split
  ·exact forkC_ok hm κ
  ·exact ⟨s,hm,rfl⟩
 ·unfold preOpC;split
  ·split
   ·split
    ·exact forkC_ok hm κ
    ·exact ⟨s,hm,rfl⟩
   ·exact ⟨s,hm,rfl⟩
  ·split
   ·exact forkC_ok hm κ
   ·exact ⟨s,hm,rfl⟩
 ·exact ⟨s,hm,rfl⟩
noncomputable def mainC (r:Bool × EO) (κ:EO→α):α:=Prod.rec (fun c e=>bc c (κ e) (κ .fail)) r

noncomputable def memG (j:Nat) (l:List Nat):Bool:=List.rec false (fun k _ ih=>bc (Nat.beq k j) true ih) l
noncomputable def pickG (ops:List Oper) (d:Nat):Nat→Option Nat:=List.rec (fun _=>none) (fun o _ ih i=>match o.dst with
 | some e=>bc (Nat.beq e d) (some i) (ih (Nat.succ i))
 | none=>ih (Nat.succ i)) ops

noncomputable def guardsOf (all ops:List Oper):List Nat:=List.rec [] (fun o _ ih=>match o.guard with
 | some (j,_)=>bc (memG j ih) ih (j :: ih)
 | none=>match o.op with
  | .pick (.tmp d) _ _=>match pickG all d 0 with
   | some j=>bc (memG j ih) ih (j :: ih)
   | none=>ih
  | _=>ih) ops
noncomputable def insN (j:Nat) (l:List Nat):List Nat:=List.rec [j] (fun k t ih=>bc (Nat.ble j k) (j :: k :: t) (k :: ih)) l
noncomputable def sortN (l:List Nat):List Nat:=List.rec [] (fun j _ ih=>insN j ih) l
noncomputable def boolAt (P:Program) (FT:Tr FI) (sub:Sub) (ct:Tr ZCC) (s:ES) (ops:Array Oper) (A:List Nat) (m:Nat) (ov:List (Nat × Bool)) (j:Nat):Option (Nat × Bool):=match lget ops.toList j with
 | some oj=>match oj.dst with
  | some d=>match canonF P (frF' P) (lF' P FT sub ct) (qF' P FT ct ov) ops A s.n s.top.N (ops.toList.take (Nat.succ j)) 0 [] [] ⟨s.H,Nat.add s.n m,0⟩ s.top.T [] [] with
   | some c=>match c.T.get d with
    | some (.v (.bool t))=>some (d,t)
    | _=>none
   | none=>none
  | none=>none
 | none=>none
noncomputable def forkG (P:Program) (FT:Tr FI) (sub:Sub) (ct:Tr ZCC) (s:ES) (ops:Array Oper) (A:List Nat) (m:Nat) (κ:List (Nat × Bool)→α) (G:List Nat):List (Nat × Bool)→α:=List.rec (fun ov=>κ ov) (fun j _ ih ov=>match boolAt P FT sub ct s ops A m ov j with
 | some (d,t)=>Bool.rec (ih (ov ++ [(d,false)])) (ih (ov ++ [(d,true)])) t
 | none=>ih ov) G
theorem forkG_ok {sub:Sub} {ct:Tr ZCC} {s:ES} {ops:Array Oper} {A:List Nat} {m:Nat} (κ:List (Nat × Bool)→α):∀ (G:List Nat) (ov:List (Nat × Bool)),∃ ov',forkG P FT sub ct s ops A m κ G ov=κ ov'
 | [],ov=>⟨ov,rfl⟩
 | j :: G,ov=>by
  have e:forkG P FT sub ct s ops A m κ (j :: G) ov=(match boolAt P FT sub ct s ops A m ov j with
   | some (d,t)=>Bool.rec (forkG P FT sub ct s ops A m κ G (ov ++ [(d,false)])) (forkG P FT sub ct s ops A m κ G (ov ++ [(d,true)])) t
   | none=>forkG P FT sub ct s ops A m κ G ov):=rfl
  rw [e];split
  ·rename_i d t ht
   cases t with
   | false=>exact forkG_ok κ G _
   | true=>exact forkG_ok κ G _
  ·exact forkG_ok κ G _
noncomputable def forkR (P:Program) (FT:Tr FI) (sub:Sub) (ct:Tr ZCC) (s:ES) (κ:List (Nat × Bool)→α):α:=match s.top.todo with
 | .it (.code (.region _ ops true)) :: _=>forkG P FT sub ct s ops (ancs ops.toList []) (llen ops.toList) κ (sortN (guardsOf ops.toList ops.toList)) []
 | _=>κ []
theorem forkR_ok {sub:Sub} {ct:Tr ZCC} {s:ES} (κ:List (Nat × Bool)→α):∃ ov,forkR P FT sub ct s κ=κ ov:=by
 unfold forkR;split
 ·exact forkG_ok κ _ _
 ·exact ⟨[],rfl⟩

noncomputable def lookL (d:TypeDesc) (kv:Value) (ok:Bool) (z:Value) (s:ES) (ops:Array Oper) (o:Oper) (l:List Oper) (k:List IM) (κ:EO→α) (es:List (Value × EV)):α:=List.rec (κ (opG s ops o l k ⟨some (bc ok (.v (.tuple #[z,.bool false])) (.v z)),s.H,s.n⟩))
 (fun p _ ih=>Bool.rec ih (κ (opG s ops o l k ⟨some (bc ok (.tup [p.2,.v (.bool true)]) p.2),s.H,s.n⟩)) (kEq d kv p.1)) es
noncomputable def lookF (P:Program) (s:ES) (dflt:α) (κ:EO→α):α:=match s.top.ret with
 | false=>match s.top.todo with
  | .ops ops (o :: l) :: k=>match o.op with
   | .lookup t m x ok=>match exGuard s.top.T ops o with
    | some true=>match mpAt s.top.T s.H m with
     | some (_,es)=>match mapOf P t with
      | some (_,e,d)=>match exVal s.top.T x with
       | some (.v kv)=>bc (isKeyB d kv) (bc (keysB d es) (match pureOf P (zeroValue e) with
        | some z=>lookL d kv ok z s ops o l k κ es
        | none=>dflt) dflt) dflt
       | _=>dflt
      | none=>dflt
     | none=>dflt
    | _=>dflt
   | _=>dflt
  | _=>dflt
 | true=>dflt
theorem lookL_ok {d:TypeDesc} {kv:Value} {ok:Bool} {z:Value} {s:ES} {ops:Array Oper} {l:List Oper} {k:List IM} {κ:EO→α} {es0:List (Value × EV)} {Q:EO→Prop}
  (hA:findE d kv es0=none→Q (opG s ops o l k ⟨some (bc ok (.v (.tuple #[z,.bool false])) (.v z)),s.H,s.n⟩))
  (hF:∀ a,findE d kv es0=some a→Q (opG s ops o l k ⟨some (bc ok (.tup [a,.v (.bool true)]) a),s.H,s.n⟩)) :
  ∀ es,findE d kv es0=findE d kv es→∃ e,lookL d kv ok z s ops o l k κ es=κ e∧Q e
 | [],h=>⟨_,rfl,hA h⟩
 | p :: es,h=>by
  have e1:lookL d kv ok z s ops o l k κ (p :: es)=Bool.rec (lookL d kv ok z s ops o l k κ es) (κ (opG s ops o l k ⟨some (bc ok (.tup [p.2,.v (.bool true)]) p.2),s.H,s.n⟩)) (kEq d kv p.1):=rfl;have e2:findE d kv (p :: es)=bc (kEq d kv p.1) (some p.2) (findE d kv es):=rfl;rw [e2] at h;rw [e1]
  cases hk:kEq d kv p.1 with
  | false=>
   rw [hk] at h;exact lookL_ok hA hF es h
  | true=>
   rw [hk] at h;exact ⟨_,rfl,hF _ h⟩
theorem lookF_ok {s:ES} {m:Machine} (hm:MR γ w0 cs s m) (dflt:α) (κ:EO→α):lookF P s dflt κ=dflt∨∃ e,lookF P s dflt κ=κ e∧SOk P γ w0 cs fid m e:=by
 unfold lookF;split
 case h_2=>exact .inl rfl
 rename_i hret;split
 case h_2=>exact .inl rfl
 rename_i ops o l k htodo;split
 case h_2=>exact .inl rfl
 rename_i t mp x ok ho;split
 case h_2=>exact .inl rfl
 rename_i hg;split
 case h_2=>exact .inl rfl
 rename_i i es hmp;split
 case h_2=>exact .inl rfl
 rename_i kt e d hmo;split
 case h_2=>exact .inl rfl
 rename_i kv hx;rw [bc_eq];split
 case isFalse=>exact .inl rfl
 rename_i h1;rw [bc_eq];split
 case isFalse=>exact .inl rfl
 rename_i h2;split
 case h_2=>exact .inl rfl
 rename_i z hz;right;have hd:notDefer o.op=true:=by rw [ho];rfl
 have key:∀ a,exLookup P s.top.T t mp x ok s.H=some a→SOk P γ w0 cs fid m (opG s ops o l k ⟨some a,s.H,s.n⟩):=fun a ha=>by
  obtain ⟨fr,frs,w,rfl,⟨tmps,todo,ds,ro,rfl,g1,g2,g3,g4,g5⟩,hfs,hH⟩:=hm;rw [htodo] at g3
  cases g3 with
  | @cons _ _ _ todo' hi hk=>
   cases hi with
   | ops _ _ idx hidx=>
    obtain ⟨i,rest,rfl,ho',hrest⟩:=map_cons_inv hidx;have hfr:(lone { fn:=s.top.fn,tmps:=tmps,todo:=.inRegion ops (i :: rest) :: todo',defers:=ds,mode:=modeOf s.top.ret,kind:=.normal,roundOf:=ro } (frs ++ cs) w)=lone (fram s.top.fn tmps (.inRegion ops (i :: rest) :: todo') ds ro) (frs ++ cs) w:=by rw [hret];rfl
    rw [hfr];exact opG_ok (er:=⟨some a,s.H,s.n⟩) hret g1 g2 hk g4 g5 hfs hH ho' hrest (exGuard_ok g2 hg) (snd_gives hd fun γ w0 w tmps hT hH=>exLookup_ok hT hH ho ha)
 refine lookL_ok (Q:=fun e=>SOk P γ w0 cs fid m e) (fun hn=>key _ ?_) (fun a hn=>key _ ?_) es rfl
 ·unfold exLookup;simp only [hmp,hmo,hx,bc_eq,h1,h2,hn,hz,if_true]
 ·unfold exLookup;simp only [hmp,hmo,hx,bc_eq,h1,h2,hn,if_true]
noncomputable def stepZ (P:Program) (FT:Tr FI) (fid:FuncId) (dr:ES→Nat→Array Oper→List IM→EO) (sub:Sub) (ct:Tr ZCC) (s:ES) (κ:EO→α):α:=preC s (fun s'=>lookF P s' (forkR P FT sub ct s' (fun ov=>mainC (zMain P FT fid dr sub ct ov s') κ)) κ)
theorem stepZ_ok (hm0:P.follows .mixedOrders=true) (hF:FTok P FT) {dr:ES→Nat→Array Oper→List IM→EO} (hdr:DrOk P dr) {sub:Sub} (hsub:LoudOk P sub) {ct:Tr ZCC} (hct:ZCtsOk P ct) {s:ES} {m:Machine} (hm:MR γ w0 cs s m) (κ:EO→α):∃ e,stepZ P FT fid dr sub ct s κ=κ e∧SOk P γ w0 cs fid m e:=by
 unfold stepZ;obtain ⟨s',hm',e1⟩:=preC_ok hm (fun s'=>lookF P s' (forkR P FT sub ct s' (fun ov=>mainC (zMain P FT fid dr sub ct ov s') κ)) κ);rw [e1];rcases lookF_ok (P:=P) (fid:=fid) hm' (forkR P FT sub ct s' (fun ov=>mainC (zMain P FT fid dr sub ct ov s') κ)) κ with e0 | ⟨e,e0,h0⟩
 rotate_left
 ·exact ⟨e,e0,h0⟩
 rw [e0];obtain ⟨ov,e2⟩:=forkR_ok (P:=P) (FT:=FT) (sub:=sub) (ct:=ct) (s:=s') (fun ov=>mainC (zMain P FT fid dr sub ct ov s') κ);rw [e2]
 cases hy:zMain P FT fid dr sub ct ov s' with
 | mk c e=>
  show ∃ e',bc c (κ e) (κ .fail)=κ e'∧_
  cases c with
  | false=>exact ⟨.fail,rfl,trivial⟩
  | true=>
   refine ⟨e,rfl,?_⟩;have:=zMain_ok (fid:=fid) (ov:=ov) hm0 hF hdr hsub hct hm' (by rw [hy]);rw [hy] at this;exact this

noncomputable def runZ (st:ES→(EO→α)→α) (p:ES→Bool) (κ:EO→α) (k:Nat):ES→α:=Nat.rec (fun _=>κ .fail) (fun _ ih s=>st s (fun e=>EO.rec (fun s'=>Bool.rec (ih s') (κ (.go s')) (p s')) (fun a H n=>κ (.done a H n)) (fun b H n=>κ (.doneR b H n)) (κ .fail) e)) k
theorem runZ_ok {st:ES→(EO→α)→α} {p:ES→Bool} {κ:EO→α} (hst:∀ (γ:G) (s:ES) (m:Machine) (κ':EO→α),MR γ w0 cs s m→∃ e,st s κ'=κ' e∧SOk P γ w0 cs fid m e) :
  ∀ (k:Nat) (γ:G) (s:ES) (m:Machine),MR γ w0 cs s m→∃ e,runZ st p κ k s=κ e∧SOk P γ w0 cs fid m e
 | 0,γ,s,m,_=>⟨.fail,rfl,trivial⟩
 | k+1,γ,s,m,hm=>by
  obtain ⟨e,h1,h2⟩:=hst γ s m (fun e=>EO.rec (fun s'=>Bool.rec (runZ st p κ k s') (κ (.go s')) (p s')) (fun a H n=>κ (.done a H n)) (fun b H n=>κ (.doneR b H n)) (κ .fail) e) hm;have fin:∃ e',(EO.rec (fun s'=>Bool.rec (runZ st p κ k s') (κ (.go s')) (p s')) (fun a H n=>κ (.done a H n)) (fun b H n=>κ (.doneR b H n)) (κ .fail) e:α)=κ e'∧SOk P γ w0 cs fid m e':=by
   cases e with
   | go s'=>
    show ∃ e',(Bool.rec (runZ st p κ k s') (κ (.go s')) (p s'):α)=κ e'∧_
    cases hp:p s' with
    | true=>exact ⟨.go s',rfl,h2⟩
    | false=>
     obtain ⟨γ',m',hle,hs,hm'⟩:=h2;obtain ⟨e2,q1,q2⟩:=runZ_ok hst k γ' s' m' hm';exact ⟨e2,q1,SOk.trans hle hs q2⟩
   | done a H n=>exact ⟨_,rfl,h2⟩
   | doneR b H n=>exact ⟨_,rfl,h2⟩
   | fail=>exact ⟨_,rfl,h2⟩
  obtain ⟨e',q1,q2⟩:=fin;exact ⟨e',h1.trans q1,q2⟩

noncomputable def atS (d f id:Nat) (s:ES):Bool:=bc (Nat.beq (llen s.rest) d) (bc (Nat.beq s.top.fn f) (match s.top.todo with
 | .it (.code (.seq (.region i _ _) _)) :: _=>Nat.beq i id
 | _=>false) false) false
end Go.Proofs.Ytfffbioafhppiaa.Ev
namespace Go.Proofs.Ytfffbioafhppiaa.Ev
open Go.RowKit
variable {P:Program} {γ γ':G} {w0:Bs} {w:World} {H H':Tr EK} {n n':Nat} {T:Tr EV} {cs:List Frame} {fid:FuncId} {FT:Tr FI} {tmps:Array Value} {o:Oper} {α:Type}

theorem normFR_ok {ρ:List (Nat × Nat)} {N:Nat} (hρ:okN ρ N=true) {l:SL} {f:EF} {a:FS} {fr:Frame} (h:normFR ρ l f=some a) (hf:FR γ f fr):FR (γ.ren ρ) (frOf a) fr:=by
 unfold normFR at h;split at h
 case h_2=>cases h
 rename_i hret;split at h
 case h_2=>cases h
 rename_i ds' hds;split at h
 case h_2=>cases h
 rename_i ro' hro;split at h
 case h_2=>cases h
 rename_i td htd;split at h
 case h_2=>cases h
 rename_i T hT;injection h with h;subst h
 obtain ⟨tmps,todo,ds,ro,rfl,h1,h2,h3,h4,h5⟩:=hf;refine ⟨tmps,todo,ds,ro,by rw [hret];rfl,h1,fun sl a hs=>?_,mapL_ok (R:=IR γ) (S:=IR (γ.ren ρ)) (fun _ _ _ h1 h2=>renI_ok hρ h1 h2) htd h3,mapL_ok (R:=DR γ) (S:=DR (γ.ren ρ)) (fun _ _ _ h1 h2=>renD_ok hρ h1 h2) hds h4,renR_ok hρ hro h5⟩;obtain ⟨c,a0,q1,q2⟩:=pickS_ok hT sl a (mkT_get hs);obtain ⟨x,hx,hc⟩:=h2 sl a0 q1;exact ⟨x,hx,renS_ok hρ q2 hc⟩
theorem normFsR_ok {ρ:List (Nat × Nat)} {N:Nat} (hρ:okN ρ N=true):∀ {ls:List SL} {l:List EF} {r:List FS} {frs:List Frame},normFsR ρ ls l=some r→All2 (FR γ) l frs→All2 (FR (γ.ren ρ)) (frsOf r) frs
 | [],[],r,frs,h,hf=>by
  have h':some []=some r:=h;injection h' with h';subst h'
  cases hf;exact .nil
 | [],f :: l,r,frs,h,_=>by exact absurd (show (none:Option (List FS))=some r from h) (by simp)
 | q :: ls,[],r,frs,h,_=>by exact absurd (show (none:Option (List FS))=some r from h) (by simp)
 | q :: ls,f :: l,r,frs,h,hf=>by
  have h':(match normFR ρ q f with
   | some a=>match normFsR ρ ls l with
    | some r=>some (a :: r)
    | none=>none
   | none=>none)=some r:=h
  split at h'
  case h_2=>cases h'
  rename_i a ha;split at h'
  case h_2=>cases h'
  rename_i r' hr';injection h' with h';subst h'
  cases hf with
  | cons h1 h2=>exact .cons (normFR_ok hρ ha h1) (normFsR_ok hρ hr' h2)
theorem HR.ren (hH:HR γ w0 H n w) (hres:∀ i,¬ w0.res i) {ρ keep:List (Nat × Nat)} {nils:List (Nat × TypeId × SyC)} {N:Nat} {lk:List Nat} {K:List (Nat × EK)} (hρ:okN ρ N=true) (hkeep:allL (fun p=>isSomeN (lookN ρ p.1) p.2) keep=true) (hnil:allL (fun p=>isNilS p.2.2) nils=true) (hK:pickK ρ H lk keep=some K) {K2:List (Nat × EK)} (hK2:∀ x,x ∈ K2→x ∈ nilsK nils ++ K):HR (γ.ren ρ) w0 (mkT K2) N w:=by
 have get:∀ j k,(mkT K2).get j=some k→(k.Nil∧k.nestB=false)∨∃ i k0,lookN ρ i=some j∧H.get i=some k0∧renK ρ lk k0=some k:=fun j k hk=>by
  rcases List.mem_append.1 (hK2 _ (mkT_get hk)) with hm | hm
  ·left;unfold nilsK at hm;obtain ⟨p,hp,e⟩:=List.mem_map.1 hm;injection e with e1 e2;subst e2
   exact ⟨⟨rfl,isNilS_ok (allL_ok hnil p hp)⟩,rfl⟩
  ·right;obtain ⟨i,k0,q1,q2,q3⟩:=pickK_ok hK j k hm;exact ⟨i,k0,isSomeN_ok (allL_ok hkeep (i,j) q1),q2,q3⟩
 refine ⟨fun j k hk=>?_,fun j1 j2 k1 k2 hj1 hj2 n1 n2 hne b1 b2 e1 e2=>?_,fun j hj=>?_,fun i hi=>absurd hi (hres i),fun j p e=>?_,hH.stays,⟨fun k a hk=>?_,hH.fzk.base,fun j v q p e=>G.ren_rw hH.fzk.nst.rwg e,fun j me ty sh rows v ho nn e=>?_,fun j me ty sh rows v ho nn e j1 f sh' hj1 hf hh k m hk=>?_⟩⟩
 ·rcases get j k hk with h5 | ⟨i,k0,q1,q2,q3⟩
  ·exact .inl h5.1
  ·rcases hH.hp0 i k0 q2 with h6 | ⟨b,m2,e1,e2,e3⟩
   ·exact .inl ((renK_nil q3).2 h6)
   ·exact .inr ⟨b,m2,by rw [G.ren_look hρ q1];exact e1,e2,renK_ok hρ q3 e3⟩
 ·rcases get j1 k1 hj1 with h5 | ⟨i1,k01,q1,q2,q3⟩
  ·exact absurd h5.1 n1
  rcases get j2 k2 hj2 with h6 | ⟨i2,k02,q4,q5,q6⟩
  ·exact absurd h6.1 n2
  rw [G.ren_look hρ q1] at e1;rw [G.ren_look hρ q4] at e2;have hne2:i1≠i2:=fun e=>by
   subst e;rw [q1] at q4;injection q4 with q4;exact hne q4
  exact hH.inj0 i1 i2 k01 k02 q2 q5 (fun e=>n1 ((renK_nil q3).2 e)) (fun e=>n2 ((renK_nil q6).2 e)) hne2 b1 b2 e1 e2
 ·show (invN ρ j).bind γ=none
  cases hi:invN ρ j with
  | none=>rfl
  | some i=>
   have:=(okN_ok hρ (invN_mem hi)).2.2;omega
 ·obtain ⟨i,_,q2⟩:=G.ren_some e;exact hH.lt i p q2
 ·obtain ⟨g1,g2,g3⟩:=hH.fzk.at' k a hk;refine ⟨g1,g2,fun j kj b m hj nj ej=>?_⟩;rcases get j kj hj with h5 | ⟨i1,k01,q1,q2,q3⟩
  ·exact absurd h5.1 nj
  rw [G.ren_look hρ q1] at ej;exact g3 i1 k01 b m q2 (fun e=>nj ((renK_nil q3).2 e)) ej
 ·rcases get j _ e with h5 | ⟨i1,k01,q1,q2,q3⟩
  ·cases h5.2
  obtain ⟨me0,rfl,q4⟩:=renK_nest q3;obtain ⟨q5,q6⟩:=hH.fzk.nst.me i1 me0 ty sh rows v ho nn q2;subst q5;rw [q1] at q4;injection q4 with q4
  exact ⟨q4.symm,fun v' q hv=>(G.ren_rwL hρ q1 v' q).trans (q6 v' q hv)⟩
 ·rcases get j _ e with h5 | ⟨i1,k01,q1,q2,q3⟩
  ·cases h5.2
  obtain ⟨me0,rfl,_⟩:=renK_nest q3;obtain ⟨g1,g2,g3,g4,arr,ty3,g5,g6,g7⟩:=hH.fzk.nst.at' i1 me0 ty sh rows v ho nn q2 j1 f sh' hj1 hf hh k m ((G.ren_rwL hρ q1 _ _).symm.trans hk);refine ⟨g1,g2,fun j' kj b m' hj nj ej=>?_,fun j2 me2 ty2 sh2 rows2 v2 ho2 nn2 e2 j3 f2 s2 hj2 hf2 hh2 m2 hk2=>?_,arr,ty3,g5,g6,fun a g s ha hs=>let ⟨x,hx,hc⟩:=g7 a g s ha hs;⟨x,hx,ev_fz hc fun _ _ h=>h⟩⟩
  ·rcases get j' kj hj with h5 | ⟨i2,k02,r1,r2,r3⟩
   ·exact absurd h5.1 nj
   rw [G.ren_look hρ r1] at ej;exact g3 i2 k02 b m' r2 (fun e=>nj ((renK_nil r3).2 e)) ej
  ·rcases get j2 _ e2 with h5 | ⟨i2,k02,r1,r2,r3⟩
   ·cases h5.2
   obtain ⟨me3,rfl,_⟩:=renK_nest r3;obtain ⟨y1,y2,y3⟩:=g4 i2 me3 ty2 sh2 rows2 v2 ho2 nn2 r2 j3 f2 s2 hj2 hf2 hh2 m2 ((G.ren_rwL hρ r1 _ _).symm.trans hk2);subst y1;rw [q1] at r1;injection r1 with r1
   exact ⟨r1.symm,y2,y3⟩
def LeadsZ (P:Program) (s s':ES):Prop:=∀ (γ:G) (w0:Bs) (cs:List Frame) (m:Machine),(∀ i,¬ w0.res i)→MR γ w0 cs s m→∃ γ' m',Steps P m m'∧MR γ' w0 cs s' m'
theorem LeadsZ.trans {a b c:ES} (h:LeadsZ P a b) (k:LeadsZ P b c):LeadsZ P a c:=fun γ w0 cs m hr hm=>by
 obtain ⟨γ1,m1,h1,h3⟩:=h γ w0 cs m hr hm;obtain ⟨γ2,m2,k1,k3⟩:=k γ1 w0 cs m1 hr h3;exact ⟨γ2,m2,h1.trans k1,k3⟩
theorem LeadsZ.refl (a:ES):LeadsZ P a a:=fun γ _ _ m _ hm=>⟨γ,m,Steps.refl P _,hm⟩
theorem leads_ofR {s:ES} {lk:List Nat} {r:NS} {f:FuncId}
  (h:∀ (γ:G) (w0:Bs) (cs:List Frame) (m:Machine),MR γ w0 cs s m→∃ e ls ρ keep nils N,normR lk ls ρ keep nils N e=some r∧SOk P γ w0 cs f m e):LeadsZ P s (stOf r):=fun γ w0 cs m hres hm=>by
 obtain ⟨e,ls,ρ,keep,nils,N,h,this⟩:=h γ w0 cs m hm;unfold normR at h;split at h
 case h_2=>cases h
 rename_i s';obtain ⟨γ',m',h1,h2,h3⟩:=this;split at h
 case h_2=>cases h
 rename_i l hl;split at h
 case h_2=>cases h
 rename_i K hK;rw [bc_eq] at h;split at h
 case isFalse=>cases h
 rename_i hρ;rw [bc_eq] at h;split at h
 case isFalse=>cases h
 rename_i hkeep;rw [bc_eq] at h;split at h
 case isFalse=>cases h
 rename_i hnil;injection h with h;subst h
 obtain ⟨fr,frs,w,rfl,g1,hfs,hH⟩:=h3;have g3:=normFsR_ok hρ hl (.cons g1 hfs);have hHn:=hH.ren hres hρ hkeep hnil hK (K2:=sortK (nilsK nils ++ K)) (fun _=>sortK_mem)
 cases l with
 | nil=>have g3:All2 (FR (γ'.ren ρ)) [] (fr :: frs):=g3;cases g3
 | cons f l=>
  have g3:All2 (FR (γ'.ren ρ)) (frOf f :: frsOf l) (fr :: frs):=g3
  cases g3 with
  | cons e1 e2=>exact ⟨γ'.ren ρ,_,h2,fr,frs,w,rfl,e1,e2,hHn⟩

inductive ZF where
 | at (r:NS)
 | done (a:EV) (K:List (Nat × EK)) (n:Nat)
 | bad

noncomputable def doneO (q:NN) (a:EV) (H:Tr EK):ZF:=match renE q.ρ 8 a with
 | some a'=>match pickK q.ρ H [] (keepN H q.ρ) with
  | some K=>bc (okN q.ρ q.N) (bc (allL (fun p=>isSomeN (lookN q.ρ p.1) p.2) (keepN H q.ρ)) (.done a' K q.N) .bad) .bad
  | none=>.bad
 | none=>.bad
noncomputable def doneD (a:EV) (H:Tr EK):ZF:=match frzE 8 a H with
 | some (c,a',_)=>bc c (.done a' [] 0) .bad
 | none=>.bad
noncomputable def doneZ (own:Bool) (a:EV) (H:Tr EK):ZF:=bc own (doneO (addL (numsE 6 a) ⟨[],[],0⟩) a H) (doneD a H)
theorem doneZ_at {own:Bool} {a:EV} {r:NS} (h:doneZ own a H = .at r):False:=by
 unfold doneZ at h;rw [bc_eq] at h;split at h
 ·unfold doneO at h;split at h
  ·split at h
   ·rw [bc_eq] at h;split at h
    ·rw [bc_eq] at h;split at h <;> cases h
    ·cases h
   ·cases h
  ·cases h
 ·unfold doneD at h;split at h
  ·rw [bc_eq] at h;split at h <;> cases h
  ·cases h
noncomputable def endZ (lk:List Nat) (ls:List SZ) (own:Bool) (e:EO):ZF:=match e with
 | .done a H n=>doneZ own a H
 | .go s=>match normZ lk ls (.go (nilS ls s)) with
  | some r=>.at r
  | none=>.bad
 | _=>.bad

abbrev PLs:=List ((ES→Bool) × List SZ)
noncomputable def lsAt (ps:PLs) (s:ES):List SZ:=List.rec [] (fun q _ ih=>bc (q.1 s) q.2 ih) ps
noncomputable def atPs (ps:PLs) (s:ES):Bool:=List.rec false (fun q _ ih=>bc (q.1 s) true ih) ps
noncomputable def endP (lk:List Nat) (ps:PLs) (own:Bool) (e:EO):ZF:=match e with
 | .go s=>endZ lk (lsAt ps s) own (.go s)
 | .done a H n=>endZ lk [] own (.done a H n)
 | _=>.bad
theorem endP_ok {lk:List Nat} {ps:PLs} {own:Bool} (e:EO):∃ ls,endP lk ps own e=endZ lk ls own e:=by
 cases e with
 | go s=>exact ⟨_,rfl⟩
 | done a H n=>exact ⟨[],rfl⟩
 | _=>exact ⟨[],rfl⟩
theorem doneZ_ok {own:Bool} {a:EV} {a':EV} {K:List (Nat × EK)} {N:Nat} (h:doneZ own a H = .done a' K N) (hH:HR γ w0 H n w) (hres:∀ i,¬ w0.res i) {x:Value} (ha:EC γ a x):∃ γ',EC γ' a' x∧HR γ' w0 (mkT K) N w:=by
 unfold doneZ at h;rw [bc_eq] at h;split at h
 ·unfold doneO at h;split at h
  case h_2=>cases h
  rename_i a2 ha2;split at h
  case h_2=>cases h
  rename_i K2 hK;rw [bc_eq] at h;split at h
  case isFalse=>cases h
  rename_i hρ;rw [bc_eq] at h;split at h
  case isFalse=>cases h
  rename_i hkeep;injection h with e1 e2 e3
  subst e1;subst e2;subst e3;exact ⟨_,EC.ren hρ ha2 ha,hH.ren (nils:=[]) hres hρ hkeep rfl hK (fun _ h=>h)⟩
 ·unfold doneD at h;split at h
  case h_2=>cases h
  rename_i c a2 H2 hf;rw [bc_eq] at h;split at h
  case isFalse=>cases h
  rename_i hc;injection h with e1 e2 e3
  subst e1;subst e2;subst e3;obtain ⟨γ',g1,g2,g3⟩:=frzE_ok hH ha hf hc;have hd:HR (γ'.ren []) w0 (mkT ([] ++ [])) 0 w:=g2.ren (ρ:=[]) (keep:=[]) (nils:=[]) (lk:=[]) hres rfl rfl rfl rfl (fun _ h=>h);have hdata:dataB 8 a2=true:=by
   have key:∀ (k:Nat),(∀ (a:EV) (H:Tr EK) (c:Bool) (a':EV) (H':Tr EK),frzE k a H=some (c,a',H')→dataB k a'=true)∧∀ (l:List EV) (H:Tr EK) (c:Bool) (l':List EV) (H':Tr EK),frzL (frzE k) l H=some (c,l',H')→allL (dataB k) l'=true:=fun k=>by
    induction k with
    | zero=>
     have h0:∀ (a:EV) (H:Tr EK) (c:Bool) (a':EV) (H':Tr EK),frzE 0 a H=some (c,a',H')→dataB 0 a'=true:=fun a H c a' H' h=>by cases h
     refine ⟨h0,fun l=>?_⟩
     induction l with
     | nil=>intro H c l' H' h;have h':some (true,[],H)=some (c,l',H'):=h;simp only [Option.some.injEq,Prod.mk.injEq] at h';obtain ⟨_,rfl,_⟩:=h';rfl
     | cons b l ih=>intro H c l' H' h;cases (show (match (none:Option (Bool × EV × Tr EK)) with
       | some (c,a',H')=>match frzL (frzE 0) l H' with
        | some (c2,l',H2)=>some (bc c c2 false,a' :: l',H2)
        | none=>none
       | none=>none)=some (c,l',H') from h)
    | succ k ih=>
     have h1:∀ (a:EV) (H:Tr EK) (c:Bool) (a':EV) (H':Tr EK),frzE (k+1) a H=some (c,a',H')→dataB (k+1) a'=true:=fun a H c a' H' h=>by
      cases a with
      | v x=>have h':some (true,EV.v x,H)=some (c,a',H'):=h;simp only [Option.some.injEq,Prod.mk.injEq] at h';obtain ⟨_,rfl,_⟩:=h';rfl
      | lst x=>have h':some (true,EV.lst x,H)=some (c,a',H'):=h;simp only [Option.some.injEq,Prod.mk.injEq] at h';obtain ⟨_,rfl,_⟩:=h';rfl
      | arr x=>have h':some (true,EV.arr x,H)=some (c,a',H'):=h;simp only [Option.some.injEq,Prod.mk.injEq] at h';obtain ⟨_,rfl,_⟩:=h';rfl
      | lp x j f=>have h':some (true,EV.lp x j f,H)=some (c,a',H'):=h;simp only [Option.some.injEq,Prod.mk.injEq] at h';obtain ⟨_,rfl,_⟩:=h';rfl
      | ptrE i z j f=>
       obtain ⟨c0,rfl⟩:=frzP_lp (show frzP i z j f H=some (c,a',H') from h);rfl
      | slO i z len nn=>
       obtain ⟨c0,rfl⟩:=frzS_lst (show frzS i z len H=some (c,a',H') from h);rfl
      | sl i z off len cap=>
       cases cap with
       | some q=>cases h
       | none=>
       cases off with
       | succ q=>cases h
       | zero=>
       obtain ⟨c0,rfl⟩:=frzS_lst (show frzS i z len H=some (c,a',H') from h);rfl
      | agg l=>
       have h':(match frzL (frzE k) l H with
        | some (c,l',H')=>some (c,EV.agg l',H')
        | none=>none)=some (c,a',H'):=h
       split at h'
       case h_2=>cases h'
       rename_i e1;simp only [Option.some.injEq,Prod.mk.injEq] at h';obtain ⟨_,rfl,_⟩:=h';exact ih.2 _ _ _ _ _ e1
      | tup l=>
       have h':(match frzL (frzE k) l H with
        | some (c,l',H')=>some (c,EV.tup l',H')
        | none=>none)=some (c,a',H'):=h
       split at h'
       case h_2=>cases h'
       rename_i e1;simp only [Option.some.injEq,Prod.mk.injEq] at h';obtain ⟨_,rfl,_⟩:=h';exact ih.2 _ _ _ _ _ e1
      | fn f l=>
       have h':(match frzL (frzE k) l H with
        | some (c,l',H')=>some (c,EV.fn f l',H')
        | none=>none)=some (c,a',H'):=h
       split at h'
       case h_2=>cases h'
       rename_i e1;simp only [Option.some.injEq,Prod.mk.injEq] at h';obtain ⟨_,rfl,_⟩:=h';exact ih.2 _ _ _ _ _ e1
      | _=>cases h
     refine ⟨h1,fun l=>?_⟩
     induction l with
     | nil=>intro H c l' H' h;have h':some (true,[],H)=some (c,l',H'):=h;simp only [Option.some.injEq,Prod.mk.injEq] at h';obtain ⟨_,rfl,_⟩:=h';rfl
     | cons b l ihl=>
      intro H c l' H' h;have h':(match frzE (k+1) b H with
       | some (c,a',H')=>match frzL (frzE (k+1)) l H' with
        | some (c2,l',H2)=>some (bc c c2 false,a' :: l',H2)
        | none=>none
       | none=>none)=some (c,l',H'):=h
      split at h'
      case h_2=>cases h'
      rename_i e1;split at h'
      case h_2=>cases h'
      rename_i e2;simp only [Option.some.injEq,Prod.mk.injEq] at h';obtain ⟨_,rfl,_⟩:=h';show bc (dataB (k+1) _) (allL (dataB (k+1)) _) false=true;rw [h1 _ _ _ _ _ e1,ihl _ _ _ _ e2];rfl
   exact (key 8).1 _ _ _ _ _ hf
  exact ⟨γ'.ren [],g3.data hdata fun _ _ h=>h,hd⟩
theorem leadsF (hm0:P.follows .mixedOrders=true) (hF:FTok P FT) {dr:ES→Nat→Array Oper→List IM→EO} (hdr:DrOk P dr) {sub:Sub} (hsub:LoudOk P sub) {ct:Tr ZCC} (hct:ZCtsOk P ct) {f k:Nat} {p:ES→Bool} {s:ES} {lk:List Nat} {κ:EO→ZF} {own:Bool} {r:NS} (hκ:∀ e,∃ ls,κ e=endZ lk ls own e)
  (h:runZ (stepZ P FT f dr sub ct) p κ k s = .at r):LeadsZ P s (stOf r):=
 leads_ofR (f:=f) (lk:=lk) fun γ w0 cs m hm=>by
  obtain ⟨e,h1,h2⟩:=runZ_ok (p:=p) (κ:=κ) (fun γ s m κ' hm=>stepZ_ok (fid:=f) hm0 hF hdr hsub hct hm κ') k γ s m hm;obtain ⟨ls,hls⟩:=hκ e;have h3:endZ lk ls own e = .at r:=hls.symm.trans (h1.symm.trans h);unfold endZ at h3;split at h3
  ·exact (doneZ_at h3).elim
  ·split at h3
   ·rename_i s' r' hr;injection h3 with h3;subst h3
    unfold normZ at hr;simp only at hr;obtain ⟨γ',m',hle,hst,hM⟩:=h2;exact ⟨_,_,_,_,_,_,hr,⟨γ',m',hle,hst,nilS_ok hM⟩⟩
   ·cases h3
  ·cases h3

theorem callsF (hm0:P.follows .mixedOrders=true) (hF:FTok P FT) {dr:ES→Nat→Array Oper→List IM→EO} (hdr:DrOk P dr) {sub:Sub} (hsub:LoudOk P sub) {ct:Tr ZCC} (hct:ZCtsOk P ct) {f k:Nat} {p:ES→Bool} {s:ES} {lk:List Nat} {κ:EO→ZF} {own:Bool} {args:List EV} {us:Array Value} {e:EF} {a:EV} {K:List (Nat × EK)} {n':Nat} (hκ:∀ e,∃ ls,κ e=endZ lk ls own e)
  (he:exEnter FT f args=some e) (hargs:ECL γ args us.toList) (hN:∀ i,γ i=none) (hfz:FzAt γ w)
  (hl:LeadsZ P ⟨e,[],.nil,0⟩ s) (hd:runZ (stepZ P FT f dr sub ct) p κ k s = .done a K n') :
  Calls P f us w fun e w'=>∃ γ' x,e = .returned x∧EC γ' a x∧HR γ' (Bs.ofG w γ) (mkT K) n' w':=by
 intro cs;obtain ⟨q1,_⟩:=exEnter_ok hF hargs he;have hM:MR γ (Bs.ofG w γ) cs ⟨e,[],.nil,0⟩ (lone (Frame.enter P f us .normal) cs w):=
  ⟨_,[],w,rfl,q1,.nil,⟨(fun i k hk=>by cases hk),(fun i j ki kj hi=>by cases hi),(fun i _=>hN i),(fun i hi=>hi.elim),(fun i p hp=>by rw [hN i] at hp;cases hp),⟨rfl,rfl,rfl,Nat.le_refl _,fun _ _=>rfl⟩,FZ.init hfz⟩⟩
 obtain ⟨γ1,m1,g1,g3⟩:=hl γ (Bs.ofG w γ) cs _ (fun i hi=>hi) hM;obtain ⟨eo,h1,this⟩:=runZ_ok (p:=p) (κ:=κ) (fun γ s m κ' hm=>stepZ_ok (fid:=f) hm0 hF hdr hsub hct hm κ') k γ1 s m1 g3;obtain ⟨ls,hls⟩:=hκ eo;have h3:endZ lk ls own eo = .done a K n':=hls.symm.trans (h1.symm.trans hd);unfold endZ at h3;split at h3
 ·rename_i a0 H0 n0;obtain ⟨γ',fr',w',v,_,h2,h4,h5,h6,h7⟩:=this;obtain ⟨γ2,k1,k2⟩:=doneZ_ok h3 h7 (fun i hi=>hi) h6;exact ⟨.returned v,w',fr',⟨γ2,v,rfl,k1,k2⟩,g1.trans h2,h4,h5⟩
 ·split at h3 <;> cases h3
 ·cases h3
end Go.Proofs.Ytfffbioafhppiaa.Ev
namespace Go.Proofs.Ytfffbioafhppiaa.Ev
open Go.RowKit
variable {P:Program} {γ γ':G} {w0:Bs} {w:World} {H H':Tr EK} {n n':Nat} {T:Tr EV} {cs:List Frame} {fid:FuncId} {FT:Tr FI} {tmps:Array Value} {o:Oper} {α:Type}
noncomputable def idL (k:Nat):List (Nat × Nat):=Nat.rec [] (fun j ih=>ih ++ [(j,j)]) k
theorem idL_mem:∀ {k j:Nat},j < k→(j,j) ∈ idL k
 | k+1,j,h=>by
  show (j,j) ∈ idL k ++ [(k,k)]
  by_cases e:j=k
  ·subst e;simp
  ·exact List.mem_append.2 (.inl (idL_mem (by omega)))
noncomputable def pinsB (k:Nat) (ρ:List (Nat × Nat)):Bool:=allL (fun p=>isSomeN (lookN ρ p.1) p.2) (idL k)
theorem pinsB_ok {k:Nat} {ρ:List (Nat × Nat)} (h:pinsB k ρ=true) {j:Nat} (hj:j < k):lookN ρ j=some j:=isSomeN_ok (allL_ok h (j,j) (idL_mem hj))
noncomputable def normK (k:Nat) (lk:List Nat) (ls:List SZ) (e:EO):Option NS:=match e with
 | .go s=>match framesN (s.top :: s.rest) ls ⟨idL k,[],k⟩ with
  | (q0,sl)=>match closeN lk s.H 60 0 q0 with
   | q=>bc (pinsB k q.ρ) (normR lk sl q.ρ (keepN s.H q.ρ) q.nils q.N (.go s)) none
 | _=>none
noncomputable def doneM (k:Nat) (a:EV) (H:Tr EK):ZF:=match closeN [] H 60 0 (addL (numsE 6 a) ⟨idL k,[],k⟩) with
 | q=>match renE q.ρ 8 a with
  | some a'=>match pickK q.ρ H [] (keepN H q.ρ) with
   | some K=>bc (okN q.ρ q.N) (bc (allL (fun p=>isSomeN (lookN q.ρ p.1) p.2) (keepN H q.ρ)) (bc (pinsB k q.ρ) (.done a' (sortK K) q.N) .bad) .bad) .bad
   | none=>.bad
  | none=>.bad

abbrev NLs:=List (Nat × Nat × TypeId × SyC)
noncomputable def nilD (nl:NLs):Tr EK × Nat→Tr EK × Nat:=List.rec (fun q=>q) (fun p _ ih q=>match q.1.get p.1 with
 | some (.cells _ l _)=>ih (nilL p.2.1 p.2.2.1 p.2.2.2 p.1 (nilJ l 0) q)
 | _=>ih q) nl
theorem nilD_ok:∀ {nl:NLs} {q:Tr EK × Nat},HR γ w0 q.1 q.2 w→HR γ w0 (nilD nl q).1 (nilD nl q).2 w
 | [],_,h=>h
 | p :: nl,q,h=>by
  show HR γ w0 (match q.1.get p.1 with
   | some (.cells _ l _)=>nilD nl (nilL p.2.1 p.2.2.1 p.2.2.2 p.1 (nilJ l 0) q)
   | _=>nilD nl q).1 (match q.1.get p.1 with
   | some (.cells _ l _)=>nilD nl (nilL p.2.1 p.2.2.1 p.2.2.2 p.1 (nilJ l 0) q)
   | _=>nilD nl q).2 w
  split
  ·exact nilD_ok (nilL_ok h)
  ·exact nilD_ok h
noncomputable def endM (k:Nat) (lk:List Nat) (ps:PLs) (nl:NLs) (e:EO):ZF:=match e with
 | .go s=>match normK k lk (lsAt ps s) (.go (nilS (lsAt ps s) s)) with
  | some r=>.at r
  | none=>.bad
 | .done a H n=>doneM k a (nilD nl (H,n)).1
 | _=>.bad
def LeadsM (P:Program) (k:Nat) (s s':ES):Prop:=∀ (γ:G) (w0:Bs) (cs:List Frame) (m:Machine),(∀ i,¬ w0.res i)→MR γ w0 cs s m→∃ γ' m',Steps P m m'∧MR γ' w0 cs s' m'∧∀ j p,j < k→γ j=some p→γ' j=some p
theorem LeadsM.trans {k:Nat} {a b c:ES} (h:LeadsM P k a b) (g:LeadsM P k b c):LeadsM P k a c:=fun γ w0 cs m hr hm=>by
 obtain ⟨γ1,m1,h1,h2,h3⟩:=h γ w0 cs m hr hm;obtain ⟨γ2,m2,k1,k2,k3⟩:=g γ1 w0 cs m1 hr h2;exact ⟨γ2,m2,h1.trans k1,k2,fun j p hj e=>k3 j p hj (h3 j p hj e)⟩
theorem LeadsM.refl (k:Nat) (a:ES):LeadsM P k a a:=fun γ _ _ m _ hm=>⟨γ,m,Steps.refl P _,hm,fun _ _ _ e=>e⟩
theorem leads_ofM {s:ES} {lk:List Nat} {r:NS} {f:FuncId} {k:Nat}
  (h:∀ (γ:G) (w0:Bs) (cs:List Frame) (m:Machine),MR γ w0 cs s m→∃ e ls ρ keep nils N,normR lk ls ρ keep nils N e=some r∧pinsB k ρ=true∧SOk P γ w0 cs f m e):LeadsM P k s (stOf r):=fun γ w0 cs m hres hm=>by
 obtain ⟨e,ls,ρ,keep,nils,N,h,hpk,this⟩:=h γ w0 cs m hm;unfold normR at h;split at h
 case h_2=>cases h
 rename_i s';obtain ⟨γ',m',h1,h2,h3⟩:=this;split at h
 case h_2=>cases h
 rename_i l hl;split at h
 case h_2=>cases h
 rename_i K hK;rw [bc_eq] at h;split at h
 case isFalse=>cases h
 rename_i hρ;rw [bc_eq] at h;split at h
 case isFalse=>cases h
 rename_i hkeep;rw [bc_eq] at h;split at h
 case isFalse=>cases h
 rename_i hnil;injection h with h;subst h
 obtain ⟨fr,frs,w,rfl,g1,hfs,hH⟩:=h3;have g3:=normFsR_ok hρ hl (.cons g1 hfs);have hHn:=hH.ren hres hρ hkeep hnil hK (K2:=sortK (nilsK nils ++ K)) (fun _=>sortK_mem)
 cases l with
 | nil=>have g3:All2 (FR (γ'.ren ρ)) [] (fr :: frs):=g3;cases g3
 | cons f l=>
  have g3:All2 (FR (γ'.ren ρ)) (frOf f :: frsOf l) (fr :: frs):=g3
  cases g3 with
  | cons e1 e2=>exact ⟨γ'.ren ρ,_,h2,⟨fr,frs,w,rfl,e1,e2,hHn⟩,fun j p hj ej=>by rw [G.ren_look hρ (pinsB_ok hpk hj)];exact h1 j p ej⟩
theorem leadsM (hm0:P.follows .mixedOrders=true) (hF:FTok P FT) {dr:ES→Nat→Array Oper→List IM→EO} (hdr:DrOk P dr) {sub:Sub} (hsub:LoudOk P sub) {ct:Tr ZCC} (hct:ZCtsOk P ct) {f k c:Nat} {p:ES→Bool} {s:ES} {lk:List Nat} {ps:PLs} {nl:NLs} {r:NS}
  (h:runZ (stepZ P FT f dr sub ct) p (endM k lk ps nl) c s = .at r):LeadsM P k s (stOf r):=
 leads_ofM (f:=f) (lk:=lk) fun γ w0 cs m hm=>by
  obtain ⟨e,h1,h2⟩:=runZ_ok (p:=p) (κ:=endM k lk ps nl) (fun γ s m κ' hm=>stepZ_ok (fid:=f) hm0 hF hdr hsub hct hm κ') c γ s m hm;have h3:endM k lk ps nl e = .at r:=h1.symm.trans h;unfold endM at h3;split at h3
  ·split at h3
   ·rename_i s' r' hr;injection h3 with h3;subst h3
    unfold normK at hr;simp only at hr;rw [bc_eq] at hr;split at hr
    case isFalse=>cases hr
    rename_i hpk;obtain ⟨γ',m',hle,hst,hM⟩:=h2;exact ⟨_,_,_,_,_,_,hr,hpk,⟨γ',m',hle,hst,nilS_ok hM⟩⟩
   ·cases h3
  ·unfold doneM at h3;simp only at h3;split at h3
   ·split at h3
    ·rw [bc_eq,bc_eq,bc_eq] at h3;split at h3
     ·split at h3
      ·split at h3 <;> cases h3
      ·cases h3
     ·cases h3
    ·cases h3
   ·cases h3
  ·cases h3

theorem callsM (hm0:P.follows .mixedOrders=true) (hF:FTok P FT) {dr:ES→Nat→Array Oper→List IM→EO} (hdr:DrOk P dr) {sub:Sub} (hsub:LoudOk P sub) {ct:Tr ZCC} (hct:ZCtsOk P ct) {f k c:Nat} {p:ES→Bool} {s:ES} {lk:List Nat} {ps:PLs} {nl:NLs} {args:List EV} {us:Array Value} {e:EF} {K0:List (Nat × EK)} {m0:Nat} {a:EV} {K:List (Nat × EK)} {n':Nat}
  (he:exEnter FT f args=some e) (hres:∀ i,¬ w0.res i) (hargs:ECL γ args us.toList) (hH:HR γ w0 (mkT K0) m0 w)
  (hl:LeadsM P k ⟨e,[],mkT K0,m0⟩ s) (hd:runZ (stepZ P FT f dr sub ct) p (endM k lk ps nl) c s = .done a K n') :
  Calls P f us w fun e w'=>∃ γ' x,e = .returned x∧EC γ' a x∧HR γ' w0 (mkT K) n' w'∧∀ j p,j < k→γ j=some p→γ' j=some p:=by
 intro cs;obtain ⟨q1,_⟩:=exEnter_ok hF hargs he;have hM:MR γ w0 cs ⟨e,[],mkT K0,m0⟩ (lone (Frame.enter P f us .normal) cs w):=⟨_,[],w,rfl,q1,.nil,hH⟩;obtain ⟨γ1,m1,g1,g3,g4⟩:=hl γ w0 cs _ hres hM;obtain ⟨eo,h1,this⟩:=runZ_ok (p:=p) (κ:=endM k lk ps nl) (fun γ s m κ' hm=>stepZ_ok (fid:=f) hm0 hF hdr hsub hct hm κ') c γ1 s m1 g3;have h3:endM k lk ps nl eo = .done a K n':=h1.symm.trans hd;unfold endM at h3;split at h3
 ·split at h3 <;> cases h3
 ·rename_i a0 H0 n0;obtain ⟨γ',fr',w',v,hle,h2,h4,h5,h6,h7⟩:=this;unfold doneM at h3;simp only at h3;split at h3
  case h_2=>cases h3
  rename_i a2 ha2;split at h3
  case h_2=>cases h3
  rename_i K2 hK2;rw [bc_eq] at h3;split at h3
  case isFalse=>cases h3
  rename_i hρ;rw [bc_eq] at h3;split at h3
  case isFalse=>cases h3
  rename_i hkeep;rw [bc_eq] at h3;split at h3
  case isFalse=>cases h3
  rename_i hpk;injection h3 with e1 e2 e3;subst e1;subst e2;subst e3
  exact ⟨.returned v,w',fr',⟨_,v,rfl,EC.ren hρ ha2 h6,(nilD_ok (nl:=nl) (q:=(H0,n0)) h7).ren (nils:=[]) hres hρ hkeep rfl hK2 (K2:=sortK K2) (fun _=>sortK_mem),fun j p hj ej=>by rw [G.ren_look hρ (pinsB_ok hpk hj)];exact hle j p (g4 j p hj ej)⟩,g1.trans h2,h4,h5⟩
 ·cases h3
end Go.Proofs.Ytfffbioafhppiaa.Ev
namespace Go.Proofs.Ytfffbioafhppiaa.Ev
open Go.Proofs
noncomputable def ft0:Tr FI:=.nil
theorem ft0Ok:FTok Try.prog ft0:=FTok.nil _
noncomputable def ft1:Tr FI:=ft0.put 6 (some (ofFunc Try.f6))
theorem ft1Ok:FTok Try.prog ft1:=ft0Ok.add (by kernel_rfl) Try.func6 (by kernel_rfl) (by kernel_rfl)
noncomputable def ft2:Tr FI:=ft1.put 8 (some (ofFunc Try.f8))
theorem ft2Ok:FTok Try.prog ft2:=ft1Ok.add (by kernel_rfl) Try.func8 (by kernel_rfl) (by kernel_rfl)
noncomputable def ft3:Tr FI:=ft2.put 11 (some (ofFunc Try.f11))
theorem ft3Ok:FTok Try.prog ft3:=ft2Ok.add (by kernel_rfl) Try.func11 (by kernel_rfl) (by kernel_rfl)
noncomputable def ft4:Tr FI:=ft3.put 12 (some (ofFunc Try.f12))
theorem ft4Ok:FTok Try.prog ft4:=ft3Ok.add (by kernel_rfl) Try.func12 (by kernel_rfl) (by kernel_rfl)
noncomputable def ft5:Tr FI:=ft4.put 13 (some (ofFunc Try.f13))
theorem ft5Ok:FTok Try.prog ft5:=ft4Ok.add (by kernel_rfl) Try.func13 (by kernel_rfl) (by kernel_rfl)
noncomputable def ft6:Tr FI:=ft5.put 18 (some (ofFunc Try.f18))
theorem ft6Ok:FTok Try.prog ft6:=ft5Ok.add (by kernel_rfl) Try.func18 (by kernel_rfl) (by kernel_rfl)
noncomputable def ft7:Tr FI:=ft6.put 19 (some (ofFunc Try.f19))
theorem ft7Ok:FTok Try.prog ft7:=ft6Ok.add (by kernel_rfl) Try.func19 (by kernel_rfl) (by kernel_rfl)
noncomputable def ft8:Tr FI:=ft7.put 24 (some (ofFunc Try.f24))
theorem ft8Ok:FTok Try.prog ft8:=ft7Ok.add (by kernel_rfl) Try.func24 (by kernel_rfl) (by kernel_rfl)
noncomputable def ft9:Tr FI:=ft8.put 26 (some (ofFunc Try.f26))
theorem ft9Ok:FTok Try.prog ft9:=ft8Ok.add (by kernel_rfl) Try.func26 (by kernel_rfl) (by kernel_rfl)
noncomputable def ft10:Tr FI:=ft9.put 27 (some (ofFunc Try.f27))
theorem ft10Ok:FTok Try.prog ft10:=ft9Ok.add (by kernel_rfl) Try.func27 (by kernel_rfl) (by kernel_rfl)
noncomputable def ft11:Tr FI:=ft10.put 28 (some (ofFunc Try.f28))
theorem ft11Ok:FTok Try.prog ft11:=ft10Ok.add (by kernel_rfl) Try.func28 (by kernel_rfl) (by kernel_rfl)
noncomputable def ft12:Tr FI:=ft11.put 29 (some (ofFunc Try.f29))
theorem ft12Ok:FTok Try.prog ft12:=ft11Ok.add (by kernel_rfl) Try.func29 (by kernel_rfl) (by kernel_rfl)
noncomputable def ft13:Tr FI:=ft12.put 30 (some (ofFunc Try.f30))
theorem ft13Ok:FTok Try.prog ft13:=ft12Ok.add (by kernel_rfl) Try.func30 (by kernel_rfl) (by kernel_rfl)
noncomputable def ft14:Tr FI:=ft13.put 31 (some (ofFunc Try.f31))
theorem ft14Ok:FTok Try.prog ft14:=ft13Ok.add (by kernel_rfl) Try.func31 (by kernel_rfl) (by kernel_rfl)
noncomputable def ft15:Tr FI:=ft14.put 32 (some (ofFunc Try.f32))
theorem ft15Ok:FTok Try.prog ft15:=ft14Ok.add (by kernel_rfl) Try.func32 (by kernel_rfl) (by kernel_rfl)
noncomputable def ft16:Tr FI:=ft15.put 33 (some (ofFunc Try.f33))
theorem ft16Ok:FTok Try.prog ft16:=ft15Ok.add (by kernel_rfl) Try.func33 (by kernel_rfl) (by kernel_rfl)
noncomputable def ft17:Tr FI:=ft16.put 34 (some (ofFunc Try.f34))
theorem ft17Ok:FTok Try.prog ft17:=ft16Ok.add (by kernel_rfl) Try.func34 (by kernel_rfl) (by kernel_rfl)
noncomputable def ft18:Tr FI:=ft17.put 36 (some (ofFunc Try.f36))
theorem ft18Ok:FTok Try.prog ft18:=ft17Ok.add (by kernel_rfl) Try.func36 (by kernel_rfl) (by kernel_rfl)
noncomputable def ft19:Tr FI:=ft18.put 37 (some (ofFunc Try.f37))
theorem ft19Ok:FTok Try.prog ft19:=ft18Ok.add (by kernel_rfl) Try.func37 (by kernel_rfl) (by kernel_rfl)
noncomputable def ft20:Tr FI:=ft19.put 45 (some (ofFunc Try.f45))
theorem ft20Ok:FTok Try.prog ft20:=ft19Ok.add (by kernel_rfl) Try.func45 (by kernel_rfl) (by kernel_rfl)
noncomputable def ft21:Tr FI:=ft20.put 46 (some (ofFunc Try.f46))
theorem ft21Ok:FTok Try.prog ft21:=ft20Ok.add (by kernel_rfl) Try.func46 (by kernel_rfl) (by kernel_rfl)
noncomputable def ft22:Tr FI:=ft21.put 50 (some (ofFunc Try.f50))
theorem ft22Ok:FTok Try.prog ft22:=ft21Ok.add (by kernel_rfl) Try.func50 (by kernel_rfl) (by kernel_rfl)
noncomputable def ft23:Tr FI:=ft22.put 51 (some (ofFunc Try.f51))
theorem ft23Ok:FTok Try.prog ft23:=ft22Ok.add (by kernel_rfl) Try.func51 (by kernel_rfl) (by kernel_rfl)
noncomputable def ft24:Tr FI:=ft23.put 52 (some (ofFunc Try.f52))
theorem ft24Ok:FTok Try.prog ft24:=ft23Ok.add (by kernel_rfl) Try.func52 (by kernel_rfl) (by kernel_rfl)
noncomputable def ft25:Tr FI:=ft24.put 53 (some (ofFunc Try.f53))
theorem ft25Ok:FTok Try.prog ft25:=ft24Ok.add (by kernel_rfl) Try.func53 (by kernel_rfl) (by kernel_rfl)
noncomputable def ft26:Tr FI:=ft25.put 54 (some (ofFunc Try.f54))
theorem ft26Ok:FTok Try.prog ft26:=ft25Ok.add (by kernel_rfl) Try.func54 (by kernel_rfl) (by kernel_rfl)
noncomputable def ft27:Tr FI:=ft26.put 55 (some (ofFunc Try.f55))
theorem ft27Ok:FTok Try.prog ft27:=ft26Ok.add (by kernel_rfl) Try.func55 (by kernel_rfl) (by kernel_rfl)
noncomputable def ft28:Tr FI:=ft27.put 58 (some (ofFunc Try.f58))
theorem ft28Ok:FTok Try.prog ft28:=ft27Ok.add (by kernel_rfl) Try.func58 (by kernel_rfl) (by kernel_rfl)
noncomputable def ft29:Tr FI:=ft28.put 59 (some (ofFunc Try.f59))
theorem ft29Ok:FTok Try.prog ft29:=ft28Ok.add (by kernel_rfl) Try.func59 (by kernel_rfl) (by kernel_rfl)
noncomputable def ft30:Tr FI:=ft29.put 60 (some (ofFunc Try.f60))
theorem ft30Ok:FTok Try.prog ft30:=ft29Ok.add (by kernel_rfl) Try.func60 (by kernel_rfl) (by kernel_rfl)
noncomputable def ft31:Tr FI:=ft30.put 61 (some (ofFunc Try.f61))
theorem ft31Ok:FTok Try.prog ft31:=ft30Ok.add (by kernel_rfl) Try.func61 (by kernel_rfl) (by kernel_rfl)
noncomputable def ft32:Tr FI:=ft31.put 64 (some (ofFunc Try.f64))
theorem ft32Ok:FTok Try.prog ft32:=ft31Ok.add (by kernel_rfl) Try.func64 (by kernel_rfl) (by kernel_rfl)
noncomputable def ft33:Tr FI:=ft32.put 65 (some (ofFunc Try.f65))
theorem ft33Ok:FTok Try.prog ft33:=ft32Ok.add (by kernel_rfl) Try.func65 (by kernel_rfl) (by kernel_rfl)
noncomputable def ft34:Tr FI:=ft33.put 66 (some (ofFunc Try.f66))
theorem ft34Ok:FTok Try.prog ft34:=ft33Ok.add (by kernel_rfl) Try.func66 (by kernel_rfl) (by kernel_rfl)
noncomputable def ft35:Tr FI:=ft34.put 67 (some (ofFunc Try.f67))
theorem ft35Ok:FTok Try.prog ft35:=ft34Ok.add (by kernel_rfl) Try.func67 (by kernel_rfl) (by kernel_rfl)
noncomputable def ft36:Tr FI:=ft35.put 69 (some (ofFunc Try.f69))
theorem ft36Ok:FTok Try.prog ft36:=ft35Ok.add (by kernel_rfl) Try.func69 (by kernel_rfl) (by kernel_rfl)
noncomputable def ft37:Tr FI:=ft36.put 70 (some (ofFunc Try.f70))
theorem ft37Ok:FTok Try.prog ft37:=ft36Ok.add (by kernel_rfl) Try.func70 (by kernel_rfl) (by kernel_rfl)
noncomputable def ft38:Tr FI:=ft37.put 71 (some (ofFunc Try.f71))
theorem ft38Ok:FTok Try.prog ft38:=ft37Ok.add (by kernel_rfl) Try.func71 (by kernel_rfl) (by kernel_rfl)
noncomputable def ft39:Tr FI:=ft38.put 72 (some (ofFunc Try.f72))
theorem ft39Ok:FTok Try.prog ft39:=ft38Ok.add (by kernel_rfl) Try.func72 (by kernel_rfl) (by kernel_rfl)
noncomputable def ft40:Tr FI:=ft39.put 73 (some (ofFunc Try.f73))
theorem ft40Ok:FTok Try.prog ft40:=ft39Ok.add (by kernel_rfl) Try.func73 (by kernel_rfl) (by kernel_rfl)
noncomputable def ft41:Tr FI:=ft40.put 74 (some (ofFunc Try.f74))
theorem ft41Ok:FTok Try.prog ft41:=ft40Ok.add (by kernel_rfl) Try.func74 (by kernel_rfl) (by kernel_rfl)
noncomputable def ft42:Tr FI:=ft41.put 75 (some (ofFunc Try.f75))
theorem ft42Ok:FTok Try.prog ft42:=ft41Ok.add (by kernel_rfl) Try.func75 (by kernel_rfl) (by kernel_rfl)
noncomputable def ft43:Tr FI:=ft42.put 76 (some (ofFunc Try.f76))
theorem ft43Ok:FTok Try.prog ft43:=ft42Ok.add (by kernel_rfl) Try.func76 (by kernel_rfl) (by kernel_rfl)
noncomputable def ft44:Tr FI:=ft43.put 77 (some (ofFunc Try.f77))
theorem ft44Ok:FTok Try.prog ft44:=ft43Ok.add (by kernel_rfl) Try.func77 (by kernel_rfl) (by kernel_rfl)
noncomputable def ft45:Tr FI:=ft44.put 78 (some (ofFunc Try.f78))
theorem ft45Ok:FTok Try.prog ft45:=ft44Ok.add (by kernel_rfl) Try.func78 (by kernel_rfl) (by kernel_rfl)
noncomputable def ft46:Tr FI:=ft45.put 79 (some (ofFunc Try.f79))
theorem ft46Ok:FTok Try.prog ft46:=ft45Ok.add (by kernel_rfl) Try.func79 (by kernel_rfl) (by kernel_rfl)
noncomputable def ft47:Tr FI:=ft46.put 80 (some (ofFunc Try.f80))
theorem ft47Ok:FTok Try.prog ft47:=ft46Ok.add (by kernel_rfl) Try.func80 (by kernel_rfl) (by kernel_rfl)
noncomputable def ft48:Tr FI:=ft47.put 81 (some (ofFunc Try.f81))
theorem ft48Ok:FTok Try.prog ft48:=ft47Ok.add (by kernel_rfl) Try.func81 (by kernel_rfl) (by kernel_rfl)
noncomputable def ft49:Tr FI:=ft48.put 82 (some (ofFunc Try.f82))
theorem ft49Ok:FTok Try.prog ft49:=ft48Ok.add (by kernel_rfl) Try.func82 (by kernel_rfl) (by kernel_rfl)
noncomputable def ft50:Tr FI:=ft49.put 85 (some (ofFunc Try.f85))
theorem ft50Ok:FTok Try.prog ft50:=ft49Ok.add (by kernel_rfl) Try.func85 (by kernel_rfl) (by kernel_rfl)
noncomputable def ft51:Tr FI:=ft50.put 86 (some (ofFunc Try.f86))
theorem ft51Ok:FTok Try.prog ft51:=ft50Ok.add (by kernel_rfl) Try.func86 (by kernel_rfl) (by kernel_rfl)
noncomputable def ft52:Tr FI:=ft51.put 89 (some (ofFunc Try.f89))
theorem ft52Ok:FTok Try.prog ft52:=ft51Ok.add (by kernel_rfl) Try.func89 (by kernel_rfl) (by kernel_rfl)
noncomputable def ft53:Tr FI:=ft52.put 95 (some (ofFunc Try.f95))
theorem ft53Ok:FTok Try.prog ft53:=ft52Ok.add (by kernel_rfl) Try.func95 (by kernel_rfl) (by kernel_rfl)
noncomputable def ft54:Tr FI:=ft53.put 99 (some (ofFunc Try.f99))
theorem ft54Ok:FTok Try.prog ft54:=ft53Ok.add (by kernel_rfl) Try.func99 (by kernel_rfl) (by kernel_rfl)
noncomputable def ft55:Tr FI:=ft54.put 103 (some (ofFunc Try.f103))
theorem ft55Ok:FTok Try.prog ft55:=ft54Ok.add (by kernel_rfl) Try.func103 (by kernel_rfl) (by kernel_rfl)
noncomputable def ft56:Tr FI:=ft55.put 104 (some (ofFunc Try.f104))
theorem ft56Ok:FTok Try.prog ft56:=ft55Ok.add (by kernel_rfl) Try.func104 (by kernel_rfl) (by kernel_rfl)
noncomputable def ft57:Tr FI:=ft56.put 105 (some (ofFunc Try.f105))
theorem ft57Ok:FTok Try.prog ft57:=ft56Ok.add (by kernel_rfl) Try.func105 (by kernel_rfl) (by kernel_rfl)
noncomputable def ft58:Tr FI:=ft57.put 106 (some (ofFunc Try.f106))
theorem ft58Ok:FTok Try.prog ft58:=ft57Ok.add (by kernel_rfl) Try.func106 (by kernel_rfl) (by kernel_rfl)
noncomputable def ft59:Tr FI:=ft58.put 107 (some (ofFunc Try.f107))
theorem ft59Ok:FTok Try.prog ft59:=ft58Ok.add (by kernel_rfl) Try.func107 (by kernel_rfl) (by kernel_rfl)
noncomputable def ft60:Tr FI:=ft59.put 109 (some (ofFunc Try.f109))
theorem ft60Ok:FTok Try.prog ft60:=ft59Ok.add (by kernel_rfl) Try.func109 (by kernel_rfl) (by kernel_rfl)
noncomputable def ft61:Tr FI:=ft60.put 111 (some (ofFunc Try.f111))
theorem ft61Ok:FTok Try.prog ft61:=ft60Ok.add (by kernel_rfl) Try.func111 (by kernel_rfl) (by kernel_rfl)
noncomputable def ft62:Tr FI:=ft61.put 112 (some (ofFunc Try.f112))
theorem ft62Ok:FTok Try.prog ft62:=ft61Ok.add (by kernel_rfl) Try.func112 (by kernel_rfl) (by kernel_rfl)
noncomputable def ft63:Tr FI:=ft62.put 113 (some (ofFunc Try.f113))
theorem ft63Ok:FTok Try.prog ft63:=ft62Ok.add (by kernel_rfl) Try.func113 (by kernel_rfl) (by kernel_rfl)
noncomputable def ft64:Tr FI:=ft63.put 114 (some (ofFunc Try.f114))
theorem ft64Ok:FTok Try.prog ft64:=ft63Ok.add (by kernel_rfl) Try.func114 (by kernel_rfl) (by kernel_rfl)
noncomputable def ft65:Tr FI:=ft64.put 115 (some (ofFunc Try.f115))
theorem ft65Ok:FTok Try.prog ft65:=ft64Ok.add (by kernel_rfl) Try.func115 (by kernel_rfl) (by kernel_rfl)
noncomputable def ft66:Tr FI:=ft65.put 116 (some (ofFunc Try.f116))
theorem ft66Ok:FTok Try.prog ft66:=ft65Ok.add (by kernel_rfl) Try.func116 (by kernel_rfl) (by kernel_rfl)
noncomputable def ft67:Tr FI:=ft66.put 117 (some (ofFunc Try.f117))
theorem ft67Ok:FTok Try.prog ft67:=ft66Ok.add (by kernel_rfl) Try.func117 (by kernel_rfl) (by kernel_rfl)
noncomputable def ft68:Tr FI:=ft67.put 118 (some (ofFunc Try.f118))
theorem ft68Ok:FTok Try.prog ft68:=ft67Ok.add (by kernel_rfl) Try.func118 (by kernel_rfl) (by kernel_rfl)
noncomputable def ft69:Tr FI:=ft68.put 119 (some (ofFunc Try.f119))
theorem ft69Ok:FTok Try.prog ft69:=ft68Ok.add (by kernel_rfl) Try.func119 (by kernel_rfl) (by kernel_rfl)
noncomputable def ft70:Tr FI:=ft69.put 120 (some (ofFunc Try.f120))
theorem ft70Ok:FTok Try.prog ft70:=ft69Ok.add (by kernel_rfl) Try.func120 (by kernel_rfl) (by kernel_rfl)
noncomputable def ft71:Tr FI:=ft70.put 121 (some (ofFunc Try.f121))
theorem ft71Ok:FTok Try.prog ft71:=ft70Ok.add (by kernel_rfl) Try.func121 (by kernel_rfl) (by kernel_rfl)
noncomputable def ft72:Tr FI:=ft71.put 122 (some (ofFunc Try.f122))
theorem ft72Ok:FTok Try.prog ft72:=ft71Ok.add (by kernel_rfl) Try.func122 (by kernel_rfl) (by kernel_rfl)
noncomputable def ft73:Tr FI:=ft72.put 123 (some (ofFunc Try.f123))
theorem ft73Ok:FTok Try.prog ft73:=ft72Ok.add (by kernel_rfl) Try.func123 (by kernel_rfl) (by kernel_rfl)
noncomputable def ft74:Tr FI:=ft73.put 124 (some (ofFunc Try.f124))
theorem ft74Ok:FTok Try.prog ft74:=ft73Ok.add (by kernel_rfl) Try.func124 (by kernel_rfl) (by kernel_rfl)
noncomputable def ft75:Tr FI:=ft74.put 125 (some (ofFunc Try.f125))
theorem ft75Ok:FTok Try.prog ft75:=ft74Ok.add (by kernel_rfl) Try.func125 (by kernel_rfl) (by kernel_rfl)
noncomputable def ft76:Tr FI:=ft75.put 126 (some (ofFunc Try.f126))
theorem ft76Ok:FTok Try.prog ft76:=ft75Ok.add (by kernel_rfl) Try.func126 (by kernel_rfl) (by kernel_rfl)
noncomputable def ft77:Tr FI:=ft76.put 127 (some (ofFunc Try.f127))
theorem ft77Ok:FTok Try.prog ft77:=ft76Ok.add (by kernel_rfl) Try.func127 (by kernel_rfl) (by kernel_rfl)
noncomputable def ft78:Tr FI:=ft77.put 140 (some (ofFunc Try.f140))
theorem ft78Ok:FTok Try.prog ft78:=ft77Ok.add (by kernel_rfl) Try.func140 (by kernel_rfl) (by kernel_rfl)
noncomputable def ft79:Tr FI:=ft78.put 141 (some (ofFunc Try.f141))
theorem ft79Ok:FTok Try.prog ft79:=ft78Ok.add (by kernel_rfl) Try.func141 (by kernel_rfl) (by kernel_rfl)
noncomputable def ft80:Tr FI:=ft79.put 142 (some (ofFunc Try.f142))
theorem ft80Ok:FTok Try.prog ft80:=ft79Ok.add (by kernel_rfl) Try.func142 (by kernel_rfl) (by kernel_rfl)
noncomputable def ft81:Tr FI:=ft80.put 143 (some (ofFunc Try.f143))
theorem ft81Ok:FTok Try.prog ft81:=ft80Ok.add (by kernel_rfl) Try.func143 (by kernel_rfl) (by kernel_rfl)
noncomputable def ft82:Tr FI:=ft81.put 144 (some (ofFunc Try.f144))
theorem ft82Ok:FTok Try.prog ft82:=ft81Ok.add (by kernel_rfl) Try.func144 (by kernel_rfl) (by kernel_rfl)
noncomputable def ft83:Tr FI:=ft82.put 145 (some (ofFunc Try.f145))
theorem ft83Ok:FTok Try.prog ft83:=ft82Ok.add (by kernel_rfl) Try.func145 (by kernel_rfl) (by kernel_rfl)
noncomputable def ft:Tr FI:=(.node none (.node none (.node none (.node none (.node none (.node none (.node none .nil (.node (some (ofFunc Try.f64)) .nil .nil)) (.node (some (ofFunc Try.f32)) .nil .nil)) (.node none (.node none (.node none .nil (.node (some (ofFunc Try.f144)) .nil .nil)) (.node (some (ofFunc Try.f80)) .nil .nil)) (.node none .nil (.node (some (ofFunc Try.f112)) .nil .nil)))) (.node (some (ofFunc Try.f8)) (.node none (.node none .nil (.node (some (ofFunc Try.f72)) .nil .nil)) (.node none .nil (.node (some (ofFunc Try.f104)) .nil .nil))) (.node (some (ofFunc Try.f24)) .nil (.node none .nil (.node (some (ofFunc Try.f120)) .nil .nil))))) (.node none (.node none (.node none .nil (.node (some (ofFunc Try.f36)) .nil .nil)) (.node none .nil (.node (some (ofFunc Try.f52)) .nil (.node (some (ofFunc Try.f116)) .nil .nil)))) (.node (some (ofFunc Try.f12)) (.node none (.node none (.node none .nil (.node (some (ofFunc Try.f140)) .nil .nil)) (.node (some (ofFunc Try.f76)) .nil .nil)) .nil) (.node (some (ofFunc Try.f28)) .nil (.node (some (ofFunc Try.f60)) .nil (.node (some (ofFunc Try.f124)) .nil .nil)))))) (.node none (.node none (.node none (.node none (.node none .nil (.node (some (ofFunc Try.f66)) .nil .nil)) (.node (some (ofFunc Try.f34)) .nil .nil)) (.node (some (ofFunc Try.f18)) (.node none .nil (.node (some (ofFunc Try.f82)) .nil .nil)) (.node (some (ofFunc Try.f50)) .nil (.node (some (ofFunc Try.f114)) .nil .nil)))) (.node none (.node none (.node none .nil (.node (some (ofFunc Try.f74)) .nil .nil)) (.node none .nil (.node (some (ofFunc Try.f106)) .nil .nil))) (.node (some (ofFunc Try.f26)) .nil (.node (some (ofFunc Try.f58)) .nil (.node (some (ofFunc Try.f122)) .nil .nil))))) (.node (some (ofFunc Try.f6)) (.node none (.node none (.node none .nil (.node (some (ofFunc Try.f70)) .nil .nil)) .nil) (.node none (.node none .nil (.node (some (ofFunc Try.f86)) .nil .nil)) (.node (some (ofFunc Try.f54)) .nil (.node (some (ofFunc Try.f118)) .nil .nil)))) (.node none (.node none (.node none (.node none .nil (.node (some (ofFunc Try.f142)) .nil .nil)) (.node (some (ofFunc Try.f78)) .nil .nil)) (.node (some (ofFunc Try.f46)) .nil .nil)) (.node (some (ofFunc Try.f30)) .nil (.node none .nil (.node (some (ofFunc Try.f126)) .nil .nil))))))) (.node none (.node none (.node none (.node none (.node none (.node none .nil (.node (some (ofFunc Try.f65)) .nil .nil)) (.node (some (ofFunc Try.f33)) .nil .nil)) (.node none (.node none (.node none .nil (.node (some (ofFunc Try.f145)) .nil .nil)) (.node (some (ofFunc Try.f81)) .nil .nil)) (.node none .nil (.node (some (ofFunc Try.f113)) .nil .nil)))) (.node none (.node none (.node none .nil (.node (some (ofFunc Try.f73)) .nil .nil)) (.node none .nil (.node (some (ofFunc Try.f105)) .nil .nil))) (.node none (.node none .nil (.node (some (ofFunc Try.f89)) .nil .nil)) (.node none .nil (.node (some (ofFunc Try.f121)) .nil .nil))))) (.node none (.node none (.node none (.node none .nil (.node (some (ofFunc Try.f69)) .nil .nil)) (.node (some (ofFunc Try.f37)) .nil .nil)) (.node none (.node none .nil (.node (some (ofFunc Try.f85)) .nil .nil)) (.node (some (ofFunc Try.f53)) .nil (.node (some (ofFunc Try.f117)) .nil .nil)))) (.node (some (ofFunc Try.f13)) (.node none (.node none (.node none .nil (.node (some (ofFunc Try.f141)) .nil .nil)) (.node (some (ofFunc Try.f77)) .nil .nil)) (.node (some (ofFunc Try.f45)) .nil (.node (some (ofFunc Try.f109)) .nil .nil))) (.node (some (ofFunc Try.f29)) .nil (.node (some (ofFunc Try.f61)) .nil (.node (some (ofFunc Try.f125)) .nil .nil)))))) (.node none (.node none (.node none (.node none (.node none .nil (.node (some (ofFunc Try.f67)) .nil .nil)) (.node none .nil (.node (some (ofFunc Try.f99)) .nil .nil))) (.node (some (ofFunc Try.f19)) .nil (.node (some (ofFunc Try.f51)) .nil (.node (some (ofFunc Try.f115)) .nil .nil)))) (.node (some (ofFunc Try.f11)) (.node none (.node none .nil (.node (some (ofFunc Try.f75)) .nil .nil)) (.node none .nil (.node (some (ofFunc Try.f107)) .nil .nil))) (.node (some (ofFunc Try.f27)) .nil (.node (some (ofFunc Try.f59)) .nil (.node (some (ofFunc Try.f123)) .nil .nil))))) (.node none (.node none (.node none (.node none .nil (.node (some (ofFunc Try.f71)) .nil .nil)) (.node none .nil (.node (some (ofFunc Try.f103)) .nil .nil))) (.node none .nil (.node (some (ofFunc Try.f55)) .nil (.node (some (ofFunc Try.f119)) .nil .nil)))) (.node none (.node none (.node none (.node none .nil (.node (some (ofFunc Try.f143)) .nil .nil)) (.node (some (ofFunc Try.f79)) .nil .nil)) (.node none .nil (.node (some (ofFunc Try.f111)) .nil .nil))) (.node (some (ofFunc Try.f31)) (.node none .nil (.node (some (ofFunc Try.f95)) .nil .nil)) (.node none .nil (.node (some (ofFunc Try.f127)) .nil .nil))))))))
theorem ftOk:FTok Try.prog ft:=(show ft83=ft by kernel_rfl) ▸ ft83Ok
end Go.Proofs.Ytfffbioafhppiaa.Ev
namespace Go.Proofs.Ytfffbioafhppiaa.Ev
open Go.Proofs
noncomputable def dr4:=drD Try.prog ft 16 4
noncomputable def sub4:Sub:=exSub (fun f=>exStep Try.prog ft f (drD Try.prog ft 16 3)) ft 16
theorem mix:Try.prog.follows .mixedOrders=true:=by kernel_rfl
theorem dr4Ok:DrOk Try.prog dr4:=drD_ok mix ftOk 16 4
theorem sub4Ok:LoudOk Try.prog sub4:=loudOk ftOk (fun fid cs w0 γ s m hM=>exStep_ok ftOk (drD_ok mix ftOk 16 3) hM) 16
theorem bc_t {α:Type} (x y:α):bc true x y=x:=rfl
theorem bc_f {α:Type} (x y:α):bc false x y=y:=rfl
theorem nn_ok (b:Bool):bc b true (bc b false true)=true:=by cases b <;> rfl
theorem dt {p:Prop} [Decidable p] (h:p):decide p=true:=decide_eq_true h
theorem df {p:Prop} [Decidable p] (h:¬ p):decide p=false:=decide_eq_false h
theorem bltD {a b:Nat} (h:a < b):Nat.blt a b=true:=by unfold Nat.blt;exact Nat.ble_eq_true_of_le h
theorem bltN {a b:Nat} (h:¬ a < b):Nat.blt a b=false:=by
 cases e:Nat.blt a b with
 | false=>rfl
 | true=>exact absurd (blt_lt e) h
theorem ble_of {a b:Nat} (h:a≤b):Nat.ble a b=true:=Nat.ble_eq_true_of_le h
theorem bleN {a b:Nat} (h:¬ a≤b):Nat.ble a b=false:=by
 cases e:Nat.ble a b with
 | false=>rfl
 | true=>exact absurd (Nat.le_of_ble_eq_true e) h
theorem beqD {a b:Nat} (h:a=b):Nat.beq a b=true:=by subst h;exact Nat.beq_refl a
theorem ofn (n:Nat):Int.ofNat n=(n:Int):=rfl
theorem to_nat (i:Nat):Int.toNat (i:Int)=i:=Int.toNat_natCast i
theorem wrap_in (x:Int) (h1:-4611686018427387904≤x) (h2:x < 4611686018427387904):IntKind.i64.wrap x=x:=IntWalk.i64_in _ (by omega)
theorem getD_at {α:Type} {l:List α} {d:α} {i:Nat} (h:i < l.length):l.getD i d=l[i]:=by rw [List.getD_eq_getElem?_getD,List.getElem?_eq_getElem h];rfl

noncomputable def ent (f:FuncId) (args:List EV):EF:=Option.rec ⟨f,0,.nil,[],[],none,false⟩ (fun e=>e) (exEnter ft f args)
noncomputable def st0 (f:FuncId) (args:List EV):ES:=⟨ent f args,[],.nil,0⟩

noncomputable abbrev iv (n:Int):EV:=.v (.int .i64 n)
noncomputable abbrev bv (b:Bool):EV:=.v (.bool b)
noncomputable abbrev sv (s:ByteArray):EV:=.v (.string s)
noncomputable abbrev il (l:List Int):EV:=.lst (.ints .i64 l)

noncomputable def RZs (f:FuncId) (ct:Tr ZCC) (ps:PLs) (lk:List Nat) (own:Bool) (s:ES):ZF:=runZ (stepZ Try.prog ft f dr4 sub4 ct) (atPs ps) (endP lk ps own) 600 s

noncomputable abbrev RZ (f:FuncId) (ct:Tr ZCC) (p:ES→Bool) (lk:List Nat) (ls:List SZ) (own:Bool) (s:ES):ZF:=RZs f ct [(p,ls)] lk own s
theorem leadsZ {f:FuncId} {ct:Tr ZCC} (hct:ZCtsOk Try.prog ct) {ps:PLs} {lk:List Nat} {own:Bool} {s:ES} {r:NS} (h:RZs f ct ps lk own s = .at r):LeadsZ Try.prog s (stOf r):=
 leadsF (f:=f) mix ftOk dr4Ok sub4Ok hct endP_ok h
theorem callsZ {γ:G} {w:World} {f:FuncId} {ct:Tr ZCC} (hct:ZCtsOk Try.prog ct) {ps:PLs} {lk:List Nat} {own:Bool} {s:ES} {args:List EV} {us:Array Value} {a:EV} {K:List (Nat × EK)} {n':Nat} (he:(exEnter ft f args).isSome=true) (hargs:ECL γ args us.toList) (hN:∀ i,γ i=none) (hfz:FzAt γ w)
  (hl:LeadsZ Try.prog (st0 f args) s) (hd:RZs f ct ps lk own s = .done a K n') :
  Calls Try.prog f us w fun e w'=>∃ γ' x,e = .returned x∧EC γ' a x∧HR γ' (Bs.ofG w γ) (mkT K) n' w':=by
 obtain ⟨e,he⟩:=Option.isSome_iff_exists.1 he;have:ent f args=e:=by unfold ent;rw [he]
 unfold st0 at hl;rw [this] at hl;exact callsF mix ftOk dr4Ok sub4Ok hct endP_ok he hargs hN hfz hl hd

def Weak (a a':EV):Prop:=∀ γ x,EC γ a x→EC γ a' x
theorem Weak.refl (a:EV):Weak a a:=fun _ _ h=>h
theorem Weak.nil (sh:List Sh):Weak (.v (.slice none 0 0)) (.lst (.recs sh [])):=fun γ x h=>by
 rw [ec_v h];exact .lst _ _ (.empty _ _ none 0 rfl (Nat.zero_le _) fun _=>rfl)
inductive WeakL:List EV→List EV→Prop
 | nil:WeakL [] []
 | cons {a b:EV} {l r:List EV} (h:Weak a b) (t:WeakL l r):WeakL (a :: l) (b :: r)
theorem WeakL.ok {γ:G}:∀ {l r:List EV} {vs:List Value},WeakL l r→ECL γ l vs→ECL γ r vs
 | _,_,vs,.nil,h=>h
 | _,_,vs,.cons h t,k=>by
  obtain ⟨x,ys,rfl,h1,h2⟩:=ECL.inv k;exact ECL.cons (h _ _ h1) (t.ok h2)
theorem Weak.tup {l r:List EV} (h:WeakL l r):Weak (.tup l) (.tup r):=fun γ x k=>by
 cases k with
 | tup _ vs h1 h2=>have:=h.ok (γ:=γ) ⟨h1,h2⟩;exact .tup _ vs this.1 this.2
theorem Weak.aggV {vs:List Value} {r:List EV} (h:WeakL (vs.map .v) r):Weak (.v (.agg (Array.mk vs))) (.agg r):=fun γ x k=>by
 rw [ec_v k];have:=h.ok (γ:=γ) (ECL.vals γ vs);exact .agg _ vs this.1 this.2
theorem Weak.trans {a b c:EV} (h:Weak a b) (k:Weak b c):Weak a c:=fun γ x e=>k γ x (h γ x e)

def EndZ (f:FuncId) (ct:Tr ZCC) (own:Bool) (s:ES) (a:EV) (K:List (Nat × EK)) (n:Nat):Prop:=∃ ps lk s' a',LeadsZ Try.prog s s'∧RZs f ct ps lk own s' = .done a' K n∧Weak a' a
theorem EndZ.done {f:FuncId} {ct:Tr ZCC} {own:Bool} {s:ES} {a:EV} {K:List (Nat × EK)} {n:Nat} {ps:PLs} {lk:List Nat} (h:RZs f ct ps lk own s = .done a K n):EndZ f ct own s a K n:=⟨ps,lk,s,a,LeadsZ.refl s,h,Weak.refl a⟩
theorem EndZ.weak {f:FuncId} {ct:Tr ZCC} {own:Bool} {s:ES} {a b:EV} {K:List (Nat × EK)} {n:Nat} (h:EndZ f ct own s a K n) (k:Weak a b):EndZ f ct own s b K n:=by
 obtain ⟨ps,lk,t,a',h1,h2,h3⟩:=h;exact ⟨ps,lk,t,a',h1,h2,h3.trans k⟩
theorem EndZ.lead {f:FuncId} {ct:Tr ZCC} {own:Bool} {s s':ES} {a:EV} {K:List (Nat × EK)} {n:Nat} (h:LeadsZ Try.prog s s') (k:EndZ f ct own s' a K n):EndZ f ct own s a K n:=by
 obtain ⟨ps,lk,t,a',h1,h2,h3⟩:=k;exact ⟨ps,lk,t,a',h.trans h1,h2,h3⟩
theorem EndZ.at {f:FuncId} {ct:Tr ZCC} (hct:ZCtsOk Try.prog ct) {own own':Bool} {s:ES} {r:NS} {a:EV} {K:List (Nat × EK)} {n:Nat} {ps:PLs} {lk:List Nat} (h:RZs f ct ps lk own' s = .at r) (k:EndZ f ct own (stOf r) a K n):EndZ f ct own s a K n:=k.lead (leadsZ hct h)
theorem EndZ.calls {γ:G} {w:World} {f:FuncId} {ct:Tr ZCC} {own:Bool} {args:List EV} {a:EV} {K:List (Nat × EK)} {n':Nat} (h:EndZ f ct own (st0 f args) a K n') (hct:ZCtsOk Try.prog ct) {us:Array Value} (he:(exEnter ft f args).isSome=true) (hargs:ECL γ args us.toList) (hN:∀ i,γ i=none) (hfz:FzAt γ w) :
  Calls Try.prog f us w fun e w'=>∃ γ' x,e = .returned x∧EC γ' a x∧HR γ' (Bs.ofG w γ) (mkT K) n' w':=by
 obtain ⟨ps,lk,t,a',h1,h2,h3⟩:=h;refine (callsZ hct he hargs hN hfz h1 h2).mono fun e w' ⟨γ',x,k1,k2,k3⟩=>⟨γ',x,k1,h3 γ' x k2,k3⟩

noncomputable def st0m (f:FuncId) (args:List EV) (K0:List (Nat × EK)) (m:Nat):ES:=⟨ent f args,[],mkT K0,m⟩

noncomputable def RMs (k:Nat) (f:FuncId) (ct:Tr ZCC) (ps:PLs) (lk:List Nat) (nl:NLs) (s:ES):ZF:=runZ (stepZ Try.prog ft f dr4 sub4 ct) (atPs ps) (endM k lk ps nl) 600 s
theorem leadsMZ {k:Nat} {f:FuncId} {ct:Tr ZCC} (hct:ZCtsOk Try.prog ct) {ps:PLs} {lk:List Nat} {s:ES} {r:NS} {nl:NLs} (h:RMs k f ct ps lk nl s = .at r):LeadsM Try.prog k s (stOf r):=
 leadsM (f:=f) mix ftOk dr4Ok sub4Ok hct h
def EndM (k:Nat) (f:FuncId) (ct:Tr ZCC) (s:ES) (a:EV) (K:List (Nat × EK)) (n:Nat):Prop:=∃ ps lk nl s',LeadsM Try.prog k s s'∧RMs k f ct ps lk nl s' = .done a K n
theorem EndM.done {k:Nat} {f:FuncId} {ct:Tr ZCC} {s:ES} {a:EV} {K:List (Nat × EK)} {n:Nat} {ps:PLs} {lk:List Nat} {nl:NLs} (h:RMs k f ct ps lk nl s = .done a K n):EndM k f ct s a K n:=⟨ps,lk,nl,s,LeadsM.refl k s,h⟩
theorem EndM.lead {k:Nat} {f:FuncId} {ct:Tr ZCC} {s s':ES} {a:EV} {K:List (Nat × EK)} {n:Nat} (h:LeadsM Try.prog k s s') (g:EndM k f ct s' a K n):EndM k f ct s a K n:=by
 obtain ⟨ps,lk,nl,t,h1,h2⟩:=g;exact ⟨ps,lk,nl,t,h.trans h1,h2⟩
theorem EndM.at {k:Nat} {f:FuncId} {ct:Tr ZCC} (hct:ZCtsOk Try.prog ct) {s:ES} {r:NS} {a:EV} {K:List (Nat × EK)} {n:Nat} {ps:PLs} {lk:List Nat} {nl:NLs} (h:RMs k f ct ps lk nl s = .at r) (g:EndM k f ct (stOf r) a K n):EndM k f ct s a K n:=g.lead (leadsMZ hct h)
theorem EndM.calls {k:Nat} {γ:G} {w0:Bs} {w:World} {f:FuncId} {ct:Tr ZCC} {args:List EV} {K0:List (Nat × EK)} {m0:Nat} {a:EV} {K:List (Nat × EK)} {n':Nat} (h:EndM k f ct (st0m f args K0 m0) a K n') (hct:ZCtsOk Try.prog ct) {us:Array Value} (he:(exEnter ft f args).isSome=true) (hres:∀ i,¬ w0.res i) (hargs:ECL γ args us.toList) (hH:HR γ w0 (mkT K0) m0 w) :
  Calls Try.prog f us w fun e w'=>∃ γ' x,e = .returned x∧EC γ' a x∧HR γ' w0 (mkT K) n' w'∧∀ j p,j < k→γ j=some p→γ' j=some p:=by
 obtain ⟨ps,lk,nl,t,h1,h2⟩:=h;obtain ⟨e,he⟩:=Option.isSome_iff_exists.1 he;have:ent f args=e:=by unfold ent;rw [he]
 unfold st0m at h1;rw [this] at h1;exact callsM mix ftOk dr4Ok sub4Ok hct he hres hargs hH h1 h2
theorem bc_same {α:Type} (b:Bool) (x:α):bc b x x=x:=by cases b <;> rfl

noncomputable def ZMT.or (a b:ZMT):ZMT:=fun ax K m=>match a ax K m with
 | some r=>some r
 | none=>b ax K m
noncomputable def ZCT.or (a b:ZCT):ZCT:=fun ax=>match a ax with
 | some r=>some r
 | none=>b ax
theorem noN {α:Type} {x r:α} {b:Bool} (h:bc b (some x) none=some r):b=true∧x=r:=by
 cases b
 ·cases h
 ·exact ⟨rfl,Option.some.inj h⟩
end Go.Proofs.Ytfffbioafhppiaa.Ev
namespace Go.Proofs.Ytfffbioafhppiaa.EvM
open Go.Proofs Go.Proofs.Ytfffbioafhppiaa.Ev

noncomputable def shW:List Sh:=[.int .i64,.int .i64,.str]
noncomputable abbrev wl (l:List (List U)):EV:=.lst (.recs shW l)
noncomputable def wk (w:ByteArray) (k:Int):List U:=[.i 1,.i k,.s w]
noncomputable abbrev shE (p:Int) (l:List (List U)) (e:Int):EV:=.tup [.agg [iv p,wl l],iv e]
noncomputable def shN (e:Int):EV:=(EV.tup [(EV.v (Value.agg (Array.mk [(Value.int IntKind.i64 (0)),(Value.slice Option.none 0 0)]))),(EV.v (Value.int IntKind.i64 e))])
namespace MPlait

end MPlait
theorem shN_weak (e:Int):Weak (shN e) (shE 0 [] e):=.tup (.cons (.aggV (.cons (Weak.refl _) (.cons (Weak.nil _) .nil))) (.cons (Weak.refl _) .nil))
end Go.Proofs.Ytfffbioafhppiaa.EvM
namespace Go.Proofs.Ytfffbioafhppiaa.Ev

def sw (i x:Nat):Nat:=if x=i then i - 1 else if x+1=i then i else x
theorem sw_sw {i:Nat} (h:0 < i) (x:Nat):sw i (sw i x)=x:=by
 unfold sw;repeat' split
 all_goals omega

structure Pm (n:Nat) where
 f:Nat→Nat
 g:Nat→Nat
 fg:∀ x,f (g x)=x
 gf:∀ x,g (f x)=x
 out:∀ x,n≤x→f x=x
namespace Pm
variable {n:Nat}
theorem inj (p:Pm n) {x y:Nat} (h:p.f x=p.f y):x=y:=by rw [← p.gf x,← p.gf y,h]
theorem injg (p:Pm n) {x y:Nat} (h:p.g x=p.g y):x=y:=by rw [← p.fg x,← p.fg y,h]
theorem outg (p:Pm n) (x:Nat) (h:n≤x):p.g x=x:=by
 have:=p.out x h;have h2:=p.gf x;rw [this] at h2;exact h2
theorem lt (p:Pm n) {x:Nat} (h:x < n):p.f x < n:=by
 rcases Nat.lt_or_ge (p.f x) n with h1 | h1
 ·exact h1
 ·have h2:=p.outg _ h1;rw [p.gf] at h2;omega
theorem ltg (p:Pm n) {x:Nat} (h:x < n):p.g x < n:=by
 rcases Nat.lt_or_ge (p.g x) n with h1 | h1
 ·exact h1
 ·have h2:=p.out _ h1;rw [p.fg] at h2;omega
theorem ext {p q:Pm n} (h:∀ x,p.f x=q.f x):p=q:=by
 have h2:∀ x,p.g x=q.g x:=fun x=>by
  apply p.inj;rw [p.fg,h,q.fg]
 cases p;cases q;congr
 ·exact funext h
 ·exact funext h2

def L (i:Nat) (h:0 < i∧i < n) (p:Pm n):Pm n:=⟨fun x=>p.f (sw i x),fun x=>sw i (p.g x),fun x=>by rw [sw_sw h.1,p.fg],fun x=>by rw [p.gf,sw_sw h.1],fun x hx=>by
 have:sw i x=x:=by unfold sw;rw [if_neg (by omega),if_neg (by omega)]
 rw [this];exact p.out x hx⟩

def R (i:Nat) (h:0 < i∧i < n) (p:Pm n):Pm n:=⟨fun x=>sw i (p.f x),fun x=>p.g (sw i x),fun x=>by rw [p.fg,sw_sw h.1],fun x=>by rw [sw_sw h.1,p.gf],fun x hx=>by
 rw [p.out x hx];unfold sw;rw [if_neg (by omega),if_neg (by omega)]⟩

def beg (p:Pm n) (i:Nat):Prop:=p.f i < p.f (i - 1)

def fin (p:Pm n) (i:Nat):Prop:=p.g i < p.g (i - 1)
theorem nbeg {p:Pm n} {i:Nat} (h:0 < i):¬ p.beg i↔p.f (i - 1) < p.f i:=by
 unfold beg;constructor
 ·intro h1;rcases Nat.lt_or_ge (p.f (i - 1)) (p.f i) with h2 | h2
  ·exact h2
  ·have:p.f (i - 1)=p.f i:=by omega
   have:=p.inj this;omega
 ·intro h1;omega
theorem nfin {p:Pm n} {i:Nat} (h:0 < i):¬ p.fin i↔p.g (i - 1) < p.g i:=by
 unfold fin;constructor
 ·intro h1;rcases Nat.lt_or_ge (p.g (i - 1)) (p.g i) with h2 | h2
  ·exact h2
  ·have:p.g (i - 1)=p.g i:=by omega
   have:=p.injg this;omega
 ·intro h1;omega

theorem sw_lt {i x y:Nat} (h:0 < i) (hxy:x < y) (hs:sw i y < sw i x):x+1=i∧y=i:=by
 unfold sw at hs
 repeat' split at hs
 all_goals omega
theorem sw_keep {i x y:Nat} (h:0 < i) (hxy:x < y) (hn:¬ (x+1=i∧y=i)):sw i x < sw i y:=by
 unfold sw
 repeat' split
 all_goals omega

theorem fin_of_L {p:Pm n} {i j:Nat} (hi:0 < i∧i < n) (hj:0 < j) (hb:p.beg i) (h:(L i hi p).fin j):p.fin j:=by
 apply Classical.byContradiction;intro hn;have h1:=(nfin hj).1 hn;have h2:sw i (p.g j) < sw i (p.g (j - 1)):=h;obtain ⟨h3,h4⟩:=sw_lt hi.1 h1 h2;have h5:p.f i=j:=by rw [← h4,p.fg]
 have h6:p.f (i - 1)=j - 1:=by rw [show i - 1=p.g (j - 1) by omega,p.fg]
 unfold beg at hb;omega

theorem beg_R {p:Pm n} {i j:Nat} (hj:0 < j∧j < n) (hi:0 < i) (hb:p.beg i) (hf:¬ p.fin j):(R j hj p).beg i:=by
 show sw j (p.f i) < sw j (p.f (i - 1));apply sw_keep hj.1 hb
 rintro ⟨h1,h2⟩
 have h3:p.g j=i - 1:=by rw [← h2,p.gf]
 have h4:p.g (j - 1)=i:=by rw [show j - 1=p.f i by omega,p.gf]
 have:=(nfin hj.1).1 hf;omega
end Pm


inductive Mv {n:Nat}:List (Pm n)→List (Pm n)→Prop
 | here (a b:Pm n) (l:List (Pm n)) (i:Nat) (hi:0 < i∧i < n) (hb:b.beg i) (hf:¬ a.fin i):Mv (a :: b :: l) (a.R i hi :: b.L i hi :: l)
 | there (a:Pm n) {l m:List (Pm n)} (h:Mv l m):Mv (a :: l) (a :: m)
inductive Mvs {n:Nat}:List (Pm n)→List (Pm n)→Prop
 | refl (s:List (Pm n)):Mvs s s
 | step {s t u:List (Pm n)} (h:Mv s t) (k:Mvs t u):Mvs s u
variable {n:Nat}
theorem Mvs.trans {s t u:List (Pm n)} (h:Mvs s t) (k:Mvs t u):Mvs s u:=by
 induction h with
 | refl s=>exact k
 | step h _ ih=>exact .step h (ih k)
theorem Mvs.one {s t:List (Pm n)} (h:Mv s t):Mvs s t:=.step h (.refl _)
theorem Mvs.there (a:Pm n) {s t:List (Pm n)} (h:Mvs s t):Mvs (a :: s) (a :: t):=by
 induction h with
 | refl s=>exact .refl _
 | step h _ ih=>exact .step (.there a h) ih
theorem Mv.app {s t:List (Pm n)} (r:List (Pm n)) (h:Mv s t):Mv (s ++ r) (t ++ r):=by
 induction h with
 | here a b l i hi hb hf=>exact .here a b (l ++ r) i hi hb hf
 | there a _ ih=>exact .there a ih
theorem Mvs.app {s t:List (Pm n)} (r:List (Pm n)) (h:Mvs s t):Mvs (s ++ r) (t ++ r):=by
 induction h with
 | refl s=>exact .refl _
 | step h _ ih=>exact .step (h.app r) ih
theorem Mv.len {s t:List (Pm n)} (h:Mv s t):t.length=s.length:=by
 induction h with
 | here=>rfl
 | there a _ ih=>simp [ih]
theorem Mvs.len {s t:List (Pm n)} (h:Mvs s t):t.length=s.length:=by
 induction h with
 | refl=>rfl
 | step h _ ih=>rw [ih,h.len]
namespace Pm
theorem sw_comm {i j:Nat} (h:i+2≤j) (hi:0 < i) (x:Nat):sw i (sw j x)=sw j (sw i x):=by
 unfold sw
 repeat' split
 all_goals omega
theorem sw_at (i:Nat):sw i i=i - 1:=by unfold sw;rw [if_pos rfl]
theorem sw_pre {i:Nat} (h:0 < i):sw i (i - 1)=i:=by unfold sw;rw [if_neg (by omega),if_pos (by omega)]
theorem sw_ne {i x:Nat} (h1:x≠i) (h2:x+1≠i):sw i x=x:=by unfold sw;rw [if_neg h1,if_neg h2]
theorem sw_braid {i:Nat} (hi:0 < i) (x:Nat):sw i (sw (i+1) (sw i x))=sw (i+1) (sw i (sw (i+1) x)):=by
 have s1:sw i (i+1)=i+1:=sw_ne (by omega) (by omega);have s2:sw (i+1) (i - 1)=i - 1:=sw_ne (by omega) (by omega);have s3:sw (i+1) (i+1)=i:=sw_at (i+1);have s4:sw (i+1) i=i+1:=sw_pre (i:=i+1) (by omega);have s5:=sw_at i;have s6:=sw_pre hi
 by_cases h1:x=i - 1
 ·rw [h1,s6,s4,s1,s2,s6,s4]
 ·by_cases h2:x=i
  ·rw [h2,s5,s2,s6,s4,s1,s3]
  ·by_cases h3:x=i+1
   ·rw [h3,s1,s3,s5,s2]
   ·rw [sw_ne (i:=i) (x:=x) (by omega) (by omega),sw_ne (i:=i+1) (x:=x) (by omega) (by omega),sw_ne (i:=i) (x:=x) (by omega) (by omega),sw_ne (i:=i+1) (x:=x) (by omega) (by omega)]

theorem here2 (a b:Pm n) (l:List (Pm n)) {i j:Nat} (hi:0 < i∧i < n) (hj:0 < j∧j < n) (hij:i < j) (hb:b.beg i) (hb2:b.beg j) (hf:¬ a.fin i) (hf2:¬ a.fin j) :
  ∃ u,Mvs (a.R i hi :: b.L i hi :: l) u∧Mvs (a.R j hj :: b.L j hj :: l) u:=by
 have f1:=(nfin hi.1).1 hf;have f2:=(nfin hj.1).1 hf2;unfold beg at hb hb2
 by_cases h:i+2≤j
 ·refine ⟨(a.R i hi).R j hj :: (b.L i hi).L j hj :: l,.one (.here _ _ _ j hj ?_ ?_),?_⟩
  ·show b.f (sw i j) < b.f (sw i (j - 1));rw [sw_ne (by omega) (by omega),sw_ne (by omega) (by omega)];exact hb2
  ·rw [nfin hj.1];show a.g (sw i (j - 1)) < a.g (sw i j);rw [sw_ne (by omega) (by omega),sw_ne (by omega) (by omega)];exact f2
  ·have e1:(a.R i hi).R j hj=(a.R j hj).R i hi:=ext fun x=>(sw_comm h hi.1 _).symm;have e2:(b.L i hi).L j hj=(b.L j hj).L i hi:=ext fun x=>by
    show b.f (sw i (sw j x))=b.f (sw j (sw i x));rw [sw_comm h hi.1]
   rw [e1,e2];refine .one (.here _ _ _ i hi ?_ ?_)
   ·show b.f (sw j i) < b.f (sw j (i - 1));rw [sw_ne (by omega) (by omega),sw_ne (by omega) (by omega)];exact hb
   ·rw [nfin hi.1];show a.g (sw j (i - 1)) < a.g (sw j i);rw [sw_ne (by omega) (by omega),sw_ne (by omega) (by omega)];exact f1
 ·have hj2:j=i+1:=by omega
  subst hj2;rw [show i+1 - 1=i by omega] at f2 hb2;have s1:sw i (i+1)=i+1:=sw_ne (by omega) (by omega);have s2:sw (i+1) (i - 1)=i - 1:=sw_ne (by omega) (by omega);have s3:sw (i+1) (i+1)=i:=sw_at (i+1);have s4:sw (i+1) i=i+1:=sw_pre (i:=i+1) (by omega);have s5:=sw_at i;have s6:=sw_pre hi.1;refine ⟨((a.R i hi).R (i+1) hj).R i hi :: ((b.L i hi).L (i+1) hj).L i hi :: l,.step (.here _ _ _ (i+1) hj ?_ ?_) (.one (.here _ _ _ i hi ?_ ?_)),?_⟩
  ·show b.f (sw i (i+1)) < b.f (sw i i);rw [s1,s5];omega
  ·rw [nfin hj.1];show a.g (sw i i) < a.g (sw i (i+1));rw [s1,s5];omega
  ·show b.f (sw i (sw (i+1) i)) < b.f (sw i (sw (i+1) (i - 1)));rw [s4,s2,s1,s6];exact hb2
  ·rw [nfin hi.1];show a.g (sw i (sw (i+1) (i - 1))) < a.g (sw i (sw (i+1) i));rw [s4,s2,s1,s6];exact f2
  ·have e1:((a.R i hi).R (i+1) hj).R i hi=((a.R (i+1) hj).R i hi).R (i+1) hj:=ext fun x=>sw_braid hi.1 _;have e2:((b.L i hi).L (i+1) hj).L i hi=((b.L (i+1) hj).L i hi).L (i+1) hj:=ext fun x=>by
    show b.f (sw i (sw (i+1) (sw i x)))=b.f (sw (i+1) (sw i (sw (i+1) x)));rw [sw_braid hi.1]
   rw [e1,e2];refine .step (.here _ _ _ i hi ?_ ?_) (.one (.here _ _ _ (i+1) hj ?_ ?_))
   ·show b.f (sw (i+1) i) < b.f (sw (i+1) (i - 1));rw [s4,s2];omega
   ·rw [nfin hi.1];show a.g (sw (i+1) (i - 1)) < a.g (sw (i+1) i);rw [s4,s2];omega
   ·show b.f (sw (i+1) (sw i (i+1))) < b.f (sw (i+1) (sw i i));rw [s1,s5,s3,s2];exact hb
   ·rw [nfin hj.1];show a.g (sw (i+1) (sw i i)) < a.g (sw (i+1) (sw i (i+1)));rw [s1,s5,s3,s2];exact f1
end Pm

theorem Mv.join {s t1 t2:List (Pm n)} (h:Mv s t1) (k:Mv s t2):∃ u,Mvs t1 u∧Mvs t2 u:=by
 induction h generalizing t2 with
 | here a b l i hi hb hf=>
  cases k with
  | here _ _ _ j hj hb2 hf2=>
   rcases Nat.lt_trichotomy i j with h | h | h
   ·exact Pm.here2 a b l hi hj h hb hb2 hf hf2
   ·subst h;exact ⟨_,.refl _,.refl _⟩
   ·obtain ⟨u,h1,h2⟩:=Pm.here2 a b l hj hi h hb2 hb hf2 hf;exact ⟨u,h2,h1⟩
  | there _ k=>
   cases k with
   | here _ c m j hj hb2 hf2=>exact ⟨a.R i hi :: (b.L i hi).R j hj :: c.L j hj :: m,.one (.there _ (.here _ _ _ j hj hb2 (fun e=>hf2 (Pm.fin_of_L hi hj.1 hb e)))),.one (.here a (b.R j hj) _ i hi (Pm.beg_R hj hi.1 hb hf2) hf)⟩
   | there _ k=>exact ⟨a.R i hi :: b.L i hi :: _,.one (.there _ (.there _ k)),.one (.here a b _ i hi hb hf)⟩
 | there a h ih=>
  cases k with
  | here _ b l i hi hb hf=>
   cases h with
   | here _ c m j hj hb2 hf2=>exact ⟨a.R i hi :: (b.L i hi).R j hj :: c.L j hj :: m,.one (.here a (b.R j hj) _ i hi (Pm.beg_R hj hi.1 hb hf2) hf),.one (.there _ (.here _ _ _ j hj hb2 (fun e=>hf2 (Pm.fin_of_L hi hj.1 hb e))))⟩
   | there _ k=>exact ⟨a.R i hi :: b.L i hi :: _,.one (.here a b _ i hi hb hf),.one (.there _ (.there _ k))⟩
  | there _ k=>
   obtain ⟨u,k1,k2⟩:=ih k;exact ⟨a :: u,k1.there a,k2.there a⟩

def Sum (F:Nat→Nat):Nat→Nat
 | 0=>0
 | k+1=>Sum F k+F k
theorem Sum_eq {F G:Nat→Nat}:∀ k:Nat,(∀ x,x < k→F x=G x)→Sum F k=Sum G k
 | 0,_=>rfl
 | k+1,h=>by
  show Sum F k+F k=Sum G k+G k;rw [Sum_eq k (fun x hx=>h x (by omega)),h k (by omega)]
theorem Sum_one {F G:Nat→Nat} {p:Nat}:∀ k:Nat,p < k→(∀ x,x < k→x≠p→F x=G x)→Sum F k+G p=Sum G k+F p
 | k+1,hp,h=>by
  show Sum F k+F k+G p=Sum G k+G k+F p
  by_cases e:p=k
  ·subst e;rw [Sum_eq (G:=G) p (fun x hx=>h x (by omega) (by omega))];omega
  ·have:=Sum_one (F:=F) (G:=G) k (by omega) (fun x hx=>h x (by omega));rw [h k (by omega) (by omega)];omega
theorem Sum_two {F G:Nat→Nat} {p q:Nat}:∀ k:Nat,p < q→q < k→(∀ x,x < k→x≠p→x≠q→F x=G x)→Sum F k+G p+G q=Sum G k+F p+F q
 | k+1,hp,hq,h=>by
  show Sum F k+F k+G p+G q=Sum G k+G k+F p+F q
  by_cases e:q=k
  ·subst e;have:=Sum_one (F:=F) (G:=G) q hp (fun x hx hn=>h x (by omega) hn (by omega));omega
  ·have:=Sum_two (F:=F) (G:=G) k hp (by omega) (fun x hx=>h x (by omega));rw [h k (by omega) (by omega) (by omega)];omega
theorem Sum_le {F:Nat→Nat} {b:Nat}:∀ k:Nat,(∀ x,x < k→F x≤b)→Sum F k≤k * b
 | 0,_=>Nat.zero_le _
 | k+1,h=>by
  show Sum F k+F k≤_;have h1:=Sum_le k (fun x hx=>h x (by omega));have h2:=h k (by omega);rw [Nat.succ_mul];omega
namespace Pm
def W (p:Pm n):Nat:=Sum (fun x=>x * p.f x) n
theorem W_le (p:Pm n):p.W≤n * (n * n):=Sum_le n fun x hx=>Nat.mul_le_mul (by omega) (by have:=p.lt hx;omega)

theorem W_R (p:Pm n) {i:Nat} (hi:0 < i∧i < n) (h:¬ p.fin i):(p.R i hi).W < p.W:=by
 have h1:=(nfin hi.1).1 h;have h2:=p.ltg hi.2;have h3:=Sum_two (F:=fun x=>x * (p.R i hi).f x) (G:=fun x=>x * p.f x) n h1 h2 (fun x hx n1 n2=>by
  show x * sw i (p.f x)=x * p.f x;rw [sw_ne (fun e=>n2 (by rw [← e,p.gf])) (fun e=>n1 (by rw [show i - 1=p.f x by omega,p.gf]))])
 have e1:(p.R i hi).f (p.g (i - 1))=i:=by show sw i (p.f (p.g (i - 1)))=i;rw [p.fg,sw_pre hi.1]
 have e2:(p.R i hi).f (p.g i)=i - 1:=by show sw i (p.f (p.g i))=_;rw [p.fg,sw_at]
 simp only [e1,e2,p.fg] at h3;show Sum _ n < Sum _ n;have m1:p.g (i - 1) * i=p.g (i - 1) * (i - 1)+p.g (i - 1):=by
  conv=>lhs;rw [show i=(i - 1)+1 by omega]
  rw [Nat.mul_succ];rfl
 have m2:p.g i * i=p.g i * (i - 1)+p.g i:=by
  conv=>lhs;rw [show i=(i - 1)+1 by omega]
  rw [Nat.mul_succ,show i - 1+1=i by omega]
 omega
end Pm

def mu:List (Pm n)→Nat
 | []=>0
 | a :: l=>a.W * (n * (n * n)+1) ^ l.length+mu l
theorem mu_lt:∀ l:List (Pm n),mu l < (n * (n * n)+1) ^ l.length
 | []=>by simp [mu]
 | a :: l=>by
  show a.W * _+mu l < (n * (n * n)+1) ^ (l.length+1);have h1:=mu_lt l;have h2:=a.W_le;have h3:=Nat.mul_le_mul_right ((n * (n * n)+1) ^ l.length) h2;rw [Nat.pow_succ,Nat.mul_comm _ (n * (n * n)+1),Nat.succ_mul];omega
theorem Mv.mu {s t:List (Pm n)} (h:Mv s t):Ev.mu t < Ev.mu s:=by
 induction h with
 | here a b l i hi hb hf=>
  show (a.R i hi).W * (n * (n * n)+1) ^ (l.length+1)+Ev.mu (b.L i hi :: l) < a.W * (n * (n * n)+1) ^ (l.length+1)+Ev.mu (b :: l);have h1:=mu_lt (b.L i hi :: l);have h2:=a.W_R hi hf;have h3:=Nat.mul_le_mul_right ((n * (n * n)+1) ^ (l.length+1)) (Nat.succ_le_of_lt h2);rw [Nat.succ_mul] at h3;rw [List.length_cons] at h1;omega
 | there a h ih=>
  show a.W * _+_ < a.W * _+_;rw [h.len];omega

def Nrm (s:List (Pm n)):Prop:=∀ t,¬ Mv s t
theorem nrm_one {s t:List (Pm n)} (hs:Nrm s) (h:Mvs s t):t=s:=by
 cases h with
 | refl=>rfl
 | step h _=>exact absurd h (hs _)
theorem nrm_ex:∀ (k:Nat) (s:List (Pm n)),mu s≤k→∃ t,Mvs s t∧Nrm t
 | k,s,h=>by
  by_cases hs:Nrm s
  ·exact ⟨s,.refl _,hs⟩
  ·have hs:∃ t,Mv s t:=Classical.byContradiction fun e=>hs fun t ht=>e ⟨t,ht⟩;obtain ⟨t,ht⟩:=hs;have:=ht.mu
   match k with
   | 0=>omega
   | k+1=>
    obtain ⟨u,h1,h2⟩:=nrm_ex k t (by omega);exact ⟨u,.step ht h1,h2⟩

theorem nrm_uni:∀ (k:Nat) (s:List (Pm n)),mu s≤k→∀ {t u:List (Pm n)},Mvs s t→Mvs s u→Nrm t→Nrm u→t=u
 | k,s,hk,t,u,h1,h2,n1,n2=>by
  cases h1 with
  | refl=>exact (nrm_one n1 h2).symm
  | step m1 r1=>
   cases h2 with
   | refl=>exact absurd m1 (n2 _)
   | step m2 r2=>
    obtain ⟨v,j1,j2⟩:=m1.join m2;obtain ⟨w,w1,w2⟩:=nrm_ex _ v (Nat.le_refl _);have q1:=m1.mu;have q2:=m2.mu
    match k with
    | 0=>omega
    | k+1=>exact (nrm_uni k _ (by omega) r1 (j1.trans w1) n1 w2).trans (nrm_uni k _ (by omega) (j2.trans w1) r2 w2 n2)
noncomputable def NF (s:List (Pm n)):List (Pm n):=Classical.choose (nrm_ex (mu s) s (Nat.le_refl _))
theorem NF_mv (s:List (Pm n)):Mvs s (NF s):=(Classical.choose_spec (nrm_ex (mu s) s (Nat.le_refl _))).1
theorem NF_nrm (s:List (Pm n)):Nrm (NF s):=(Classical.choose_spec (nrm_ex (mu s) s (Nat.le_refl _))).2
theorem NF_of {s t:List (Pm n)} (h:Mvs s t) (k:Nrm t):NF s=t:=nrm_uni _ s (Nat.le_refl _) (NF_mv s) h (NF_nrm s) k
def Lw (a b:Pm n):Prop:=∀ i:Nat,0 < i→i < n→b.beg i→a.fin i
theorem nrm_cons {a b:Pm n} {l:List (Pm n)}:Nrm (a :: b :: l)↔Lw a b∧Nrm (b :: l):=by
 constructor
 ·intro h;refine ⟨fun i h1 h2 hb=>Classical.byContradiction fun hf=>h _ (.here a b l i ⟨h1,h2⟩ hb hf),fun t ht=>h _ (.there a ht)⟩
 ·rintro ⟨h1,h2⟩ t ht
  cases ht with
  | here _ _ _ i hi hb hf=>exact hf (h1 i hi.1 hi.2 hb)
  | there _ h=>exact h2 _ h
theorem nrm_single (a:Pm n):Nrm [a]:=fun t ht=>by
 cases ht with
 | there _ h=>cases h
end Go.Proofs.Ytfffbioafhppiaa.Ev
namespace Go.Proofs.Ytfffbioafhppiaa.Ev
variable {n:Nat}
namespace Pm

def one (n:Nat):Pm n:=⟨fun x=>x,fun x=>x,fun _=>rfl,fun _=>rfl,fun _ _=>rfl⟩
def rv (n x:Nat):Nat:=if x < n then n - 1 - x else x
theorem rv_rv (n x:Nat):rv n (rv n x)=x:=by
 unfold rv
 by_cases h:x < n
 ·rw [if_pos h,if_pos (by omega)];omega
 ·rw [if_neg h,if_neg h]

def del (n:Nat):Pm n:=⟨rv n,rv n,rv_rv n,rv_rv n,fun x h=>by unfold rv;rw [if_neg (by omega)]⟩

theorem del_fin {i:Nat} (h:0 < i) (h2:i < n):(del n).fin i:=by
 show rv n i < rv n (i - 1);unfold rv;rw [if_pos h2,if_pos (by omega)];omega
theorem one_beg (i:Nat) (h:0 < i):¬ (one n).beg i:=by
 rw [nbeg h];show i - 1 < i;omega

theorem inc_id {f:Nat→Nat} (hf:∀ x,x < n→f x < n) (h:∀ i,0 < i→i < n→f (i - 1) < f i):∀ x,x < n→f x=x:=by
 have lo:∀ x,x < n→x≤f x:=by
  intro x
  induction x with
  | zero=>intro _;exact Nat.zero_le _
  | succ x ih=>
   intro hx;have h1:=ih (by omega);have h2:=h (x+1) (by omega) hx;rw [Nat.add_sub_cancel] at h2;omega
 have hi:∀ d x,x+d=n→0 < d→f x≤x:=by
  intro d
  induction d with
  | zero=>intro x _ h0;omega
  | succ d ih=>
   intro x hx _
   by_cases hd:d=0
   ·have:=hf x (by omega);omega
   ·have h1:=ih (x+1) (by omega) (by omega);have h2:=h (x+1) (by omega) (by omega);rw [Nat.add_sub_cancel] at h2;omega
 intro x hx;have:=lo x hx;have:=hi (n - x) x (by omega) (by omega);omega
theorem one_of {p:Pm n} (h:∀ i,0 < i→i < n→¬ p.beg i):p=one n:=ext fun x=>by
 by_cases hx:x < n
 ·exact inc_id (fun x h=>p.lt h) (fun i h1 h2=>(nbeg h1).1 (h i h1 h2)) x hx
 ·exact p.out x (by omega)
theorem del_of {p:Pm n} (h:∀ i,0 < i→i < n→p.fin i):p=del n:=by
 have key:∀ x,p.g x=rv n x:=by
  intro x
  by_cases hx:x < n
  ·have h1:=inc_id (n:=n) (f:=fun y=>p.g (n - 1 - y)) (fun y hy=>p.ltg (by omega)) (fun i h1 h2=>by
    have h3:=h (n - i) (by omega) (by omega);unfold fin at h3;show p.g (n - 1 - (i - 1)) < p.g (n - 1 - i);rw [show n - 1 - (i - 1)=n - i by omega,show n - 1 - i=n - i - 1 by omega];exact h3) (n - 1 - x) (by omega)
   have h2:p.g (n - 1 - (n - 1 - x))=n - 1 - x:=h1;rw [show n - 1 - (n - 1 - x)=x by omega] at h2;unfold rv;rw [if_pos hx];exact h2
  ·rw [p.outg x (by omega)];unfold rv;rw [if_neg hx]
 apply ext;intro x;apply p.injg;rw [p.gf,key];exact (rv_rv n x).symm
end Pm
theorem Lw_del (b:Pm n):Lw (Pm.del n) b:=fun i h1 h2 _=>Pm.del_fin h1 h2
theorem Lw_one (a:Pm n):Lw a (Pm.one n):=fun i h1 _ hb=>absurd hb (Pm.one_beg i h1)
theorem one_Lw {b:Pm n} (h:Lw (Pm.one n) b):b=Pm.one n:=Pm.one_of fun i h1 h2 hb=>by
 have h3:i < i - 1:=h i h1 h2 hb;omega
theorem Lw_is_del {a:Pm n} (h:Lw a (Pm.del n)):a=Pm.del n:=Pm.del_of fun i h1 h2=>h i h1 h2 (by
 show Pm.rv n i < Pm.rv n (i - 1);unfold Pm.rv;rw [if_pos h2,if_pos (by omega)];omega)

theorem nrm_app {a b:Pm n} {l:List (Pm n)}:Nrm (l ++ [a,b])↔Nrm (l ++ [a])∧Lw a b:=by
 induction l with
 | nil=>exact ⟨fun h=>⟨nrm_single a,(nrm_cons.1 h).1⟩,fun h=>nrm_cons.2 ⟨h.2,nrm_single b⟩⟩
 | cons x l ih=>
  cases l with
  | nil=>
   show Nrm (x :: a :: [b])↔Nrm [x,a]∧_;rw [nrm_cons,nrm_cons,nrm_cons];exact ⟨fun h=>⟨⟨h.1,nrm_single a⟩,h.2.1⟩,fun h=>⟨h.1.1,h.2,nrm_single b⟩⟩
  | cons y l=>
   show Nrm (x :: y :: (l ++ [a,b]))↔Nrm (x :: y :: (l ++ [a]))∧_;rw [nrm_cons,nrm_cons,show y :: (l ++ [a,b])=y :: l ++ [a,b] from rfl,ih]
   exact ⟨fun h=>⟨⟨h.1,h.2.1⟩,h.2.2⟩,fun h=>⟨h.1.1,h.1.2,h.2⟩⟩
structure Rep (l:List (Pm n)) (m:Nat) (F:List (Pm n)):Prop where
 eq:∃ r,NF l=List.replicate m (Pm.del n) ++ (F ++ List.replicate r (Pm.one n))
 no1:∀ p,p ∈ F→p≠Pm.one n
 noD:∀ p,p ∈ F→p≠Pm.del n
theorem nrm_dels {F:List (Pm n)} (h:Nrm F):∀ m:Nat,Nrm (List.replicate m (Pm.del n) ++ F)
 | 0=>h
 | m+1=>by
  have ih:=nrm_dels h m;rw [List.replicate_succ]
  cases hx:List.replicate m (Pm.del n) ++ F with
  | nil=>rw [List.cons_append,hx];exact nrm_single _
  | cons b l=>rw [List.cons_append,hx];rw [hx] at ih;exact nrm_cons.2 ⟨Lw_del b,ih⟩
theorem nrm_ones {F:List (Pm n)} (h:Nrm F):∀ r:Nat,Nrm (F ++ List.replicate r (Pm.one n))
 | 0=>by rw [List.replicate_zero,List.append_nil];exact h
 | r+1=>by
  have ih:=nrm_ones h r;rw [List.replicate_succ'];rw [← List.append_assoc]
  cases hx:(F ++ List.replicate r (Pm.one n)).reverse with
  | nil=>
   have:F ++ List.replicate r (Pm.one n)=[]:=by rw [← List.reverse_reverse (F ++ _),hx];rfl
   rw [this];exact nrm_single _
  | cons b l=>
   have:F ++ List.replicate r (Pm.one n)=l.reverse ++ [b]:=by rw [← List.reverse_reverse (F ++ _),hx,List.reverse_cons]
   rw [this] at ih ⊢;rw [List.append_assoc];exact nrm_app.2 ⟨ih,Lw_one b⟩
theorem nrm_shape:∀ {s:List (Pm n)},Nrm s→∃ (m:Nat) (F:List (Pm n)) (r:Nat),s=List.replicate m (Pm.del n) ++ (F ++ List.replicate r (Pm.one n))∧(∀ p,p ∈ F→p≠Pm.one n)∧∀ p,p ∈ F→p≠Pm.del n
 | [],_=>⟨0,[],0,rfl,fun p hp=>(by cases hp),fun p hp=>(by cases hp)⟩
 | a :: s,h=>by
  obtain ⟨m,F,r,h1,h2,h3⟩:=nrm_shape (fun t ht=>h _ (.there a ht):Nrm s)
  by_cases ha:a=Pm.del n
  ·exact ⟨m+1,F,r,by rw [h1,ha,List.replicate_succ];rfl,h2,h3⟩
  ·have hm:m=0:=by
    cases m with
    | zero=>rfl
    | succ m=>
     rw [h1,List.replicate_succ,List.cons_append] at h;exact absurd (Lw_is_del (nrm_cons.1 h).1) ha
   subst hm
   by_cases hb:a=Pm.one n
   ·have hF:F=[]:=by
     cases F with
     | nil=>rfl
     | cons b F=>
      rw [h1,List.replicate_zero,List.nil_append,List.cons_append,hb] at h;exact absurd (one_Lw (nrm_cons.1 h).1) (h2 b List.mem_cons_self)
    subst hF;exact ⟨0,[],r+1,by rw [h1,hb];rfl,fun p hp=>(by cases hp),fun p hp=>(by cases hp)⟩
   ·refine ⟨0,a :: F,r,by rw [h1];rfl,fun p hp=>?_,fun p hp=>?_⟩
    ·rcases List.mem_cons.1 hp with rfl | hp
     ·exact hb
     ·exact h2 p hp
    ·rcases List.mem_cons.1 hp with rfl | hp
     ·exact ha
     ·exact h3 p hp
theorem rep_ex (l:List (Pm n)):∃ m F,Rep l m F:=by
 obtain ⟨m,F,r,h1,h2,h3⟩:=nrm_shape (NF_nrm l);exact ⟨m,F,⟨r,h1⟩,h2,h3⟩
end Go.Proofs.Ytfffbioafhppiaa.Ev
namespace Go.Proofs.Ytfffbioafhppiaa.Ev
variable {n:Nat}

def E (s t:Int × List (Pm n)):Prop:=∃ (m m':Nat) (F:List (Pm n)),Rep s.2 m F∧Rep t.2 m' F∧s.1+m=t.1+m'
theorem E.one (pw:Int) (l:List (Pm n)):E (pw,l ++ [Pm.one n]) (pw,l):=by
 obtain ⟨m,F,⟨r,h1⟩,h2,h3⟩:=rep_ex l;refine ⟨m,m,F,⟨⟨r+1,?_⟩,h2,h3⟩,⟨⟨r,h1⟩,h2,h3⟩,rfl⟩;have h4:NF (l ++ [Pm.one n])=NF l ++ List.replicate 1 (Pm.one n):=NF_of ((NF_mv l).app _) (nrm_ones (NF_nrm l) 1);rw [h4,h1,← List.replicate_append_replicate];simp only [List.append_assoc]

end Go.Proofs.Ytfffbioafhppiaa.Ev
namespace Go.Proofs.Ytfffbioafhppiaa.Ev
open Go.Proofs
theorem closed_ct {P:Program} {f:FuncId} {γ:G} {w:World} {us:Array Value} (h:Calls P f #[] w fun e w'=>e = .returned (.bool true)∧Stays w w') (hax:ECL γ [] us.toList) (hfz:FzAt γ w):Calls P f us w fun e w'=>∃ γ' x,e = .returned x∧EC γ' (bv true) x∧HR γ' (Bs.ofG w γ) (mkT (zseqs [])) 0 w':=by
 have hu:us = #[]:=by
  have:=hax.1;apply Array.toList_inj.1;exact List.eq_nil_of_length_eq_zero this.symm
 subst hu;refine h.mono ?_
 rintro e w' ⟨rfl,hs⟩
 refine ⟨⟨fun _=>none,γ.fz,fun _ _ _=>none⟩,_,rfl,.v _,⟨(fun i k hk=>by cases hk),(fun i j ki kj hi=>by cases hi),(fun _ _=>rfl),(fun i hi=>hi.elim),(fun i p hp=>by cases hp),⟨hs.os,hs.tape,hs.output,hs.size,hs.block⟩,⟨fun k a hk=>?_,fun k hk=>hk,.none (fun _ _ _ p e=>by cases (show (none:Option (Nat × Nat × Nat))=some p from e)) (fun i k hi=>by cases hi)⟩⟩⟩
 obtain ⟨ty,fz,h1⟩:=hfz k a hk;have hk2:=(Array.getElem?_eq_some_iff.1 h1).1;exact ⟨⟨ty,fz,(hs.block k hk2).trans h1⟩,.inl ⟨a,hk⟩,fun i ki b m hi=>by cases hi⟩
noncomputable def spTrue:ZCT:=fun ax=>match ax with
 | []=>some ⟨true,bv true,[],0⟩
 | _=>none
theorem spTrue_ok {P:Program} {f:FuncId} (h:∀ w,Calls P f #[] w fun e w'=>e = .returned (.bool true)∧Stays w w'):ZCtOk P f spTrue:=fun γ w us ax r hs hc hax hN hfz=>by
 unfold spTrue at hs;split at hs
 case h_2=>cases hs
 obtain ⟨rfl⟩:=Option.some.inj hs;exact closed_ct (h w) hax hfz
theorem law_of {P:Program} {f:FuncId} {γ:G} {w:World} {us:Array Value} {K:List (Nat × EK)} {n:Nat} (h:Calls P f us w fun e w'=>∃ γ' x,e = .returned x∧EC γ' (bv true) x∧HR γ' (Bs.ofG w γ) (mkT K) n w'):Calls P f us w fun e w'=>e = .returned (.bool true)∧Stays w w':=h.mono fun e w' ⟨γ',x,h1,h2,h3⟩=>⟨by rw [h1,ec_v h2],staysOf h3.stays⟩
end Go.Proofs.Ytfffbioafhppiaa.Ev
namespace Go.Proofs.Ytfffbioafhppiaa.Ev
variable {n:Nat}
namespace Pm
end Pm

theorem gset2 (l:List Int) (i x:Nat) (v:Int):(l.set i v).getD x 0=if x=i∧i < l.length then v else l.getD x 0:=by
 rw [List.getD_eq_getElem?_getD,List.getD_eq_getElem?_getD,List.getElem?_set]
 by_cases h:i=x
 ·subst h
  by_cases h2:i < l.length
  ·simp [h2]
  ·simp [h2]
 ·rw [if_neg h,if_neg (by omega)]

end Go.Proofs.Ytfffbioafhppiaa.Ev
namespace Go.Proofs.Ytfffbioafhppiaa.Ev
open Go.Proofs

namespace PPln
end PPln
namespace PInv
end PInv
namespace PDel
end PDel
end Go.Proofs.Ytfffbioafhppiaa.Ev
namespace Go.Proofs.Ytfffbioafhppiaa.Ev
open Go.Proofs
namespace PTrn
end PTrn
end Go.Proofs.Ytfffbioafhppiaa.Ev
namespace Go.Proofs.Ytfffbioafhppiaa.Ev
open Go.Proofs
namespace PTim
end PTim
end Go.Proofs.Ytfffbioafhppiaa.Ev
namespace Go.Proofs.Ytfffbioafhppiaa.Ev
variable {n:Nat}
def Vld (n:Nat) (w:List Int):Prop:=∀ x,x ∈ w→x≠0 ∧ -(n:Int) < x∧x < n
end Go.Proofs.Ytfffbioafhppiaa.Ev
namespace Go.Proofs.Ytfffbioafhppiaa.Ev
open Go.Proofs
namespace PTim
variable {n:Nat}
end PTim

end Go.Proofs.Ytfffbioafhppiaa.Ev
namespace Go.Proofs.Ytfffbioafhppiaa.Ev
open Go.Proofs
namespace PNrm
variable {n:Nat}
end PNrm

end Go.Proofs.Ytfffbioafhppiaa.Ev
namespace Go.Proofs.Ytfffbioafhppiaa.Ev
open Go.Proofs

namespace RChk
end RChk
namespace PChk
end PChk
namespace PEqP
end PEqP
end Go.Proofs.Ytfffbioafhppiaa.Ev
namespace Go.Proofs.Ytfffbioafhppiaa.Ev
open Go.Proofs
namespace PSam
end PSam
namespace PTri
end PTri
end Go.Proofs.Ytfffbioafhppiaa.Ev
namespace Go.Proofs.Ytfffbioafhppiaa.Ev
variable {n:Nat}

theorem Vld.head {x:Int} {w:List Int} (h:Vld n (x :: w)):0 < x.natAbs∧x.natAbs < n:=by
 obtain ⟨h1,h2,h3⟩:=h x List.mem_cons_self;omega
theorem Vld.tail {x:Int} {w:List Int} (h:Vld n (x :: w)):Vld n w:=fun y hy=>h y (List.mem_cons_of_mem _ hy)
end Go.Proofs.Ytfffbioafhppiaa.Ev
namespace Go.Proofs.Ytfffbioafhppiaa.Ev
open Go.Proofs

namespace PUnd
end PUnd
namespace PIvr
end PIvr

namespace PCat
end PCat
namespace PTms

end PTms
end Go.Proofs.Ytfffbioafhppiaa.Ev
namespace Go.Proofs.Ytfffbioafhppiaa.Ev
open Go.Proofs
variable {n:Nat}
theorem zeros_len (k:Nat):(zerosL k).length=k:=by unfold zerosL;simp
namespace PLis
end PLis
noncomputable def swP (p:Pm n) (k:Nat):Pm n:=if h:0 < k∧k < n then p.L k h else p
noncomputable def lnP (n:Nat) (w:List Int):Pm n:=w.foldl (fun p x=>swP p x.natAbs) (Pm.one n)
theorem lnP_app (w:List Int) (x:Int):lnP n (w ++ [x])=swP (lnP n w) x.natAbs:=by unfold lnP;rw [List.foldl_append];rfl
namespace PPrm
end PPrm
end Go.Proofs.Ytfffbioafhppiaa.Ev
namespace Go.Proofs.Ytfffbioafhppiaa.Ev
open Go.Proofs
variable {n:Nat}
namespace POth
end POth

end Go.Proofs.Ytfffbioafhppiaa.Ev
namespace Go.Proofs.Ytfffbioafhppiaa.Ev
open Go.Proofs
variable {n:Nat}
namespace PDrp
end PDrp
namespace PLay
theorem hb (nn:Bool) (v:Int):bc nn true (Nat.blt 0 (List.length [v]))=true:=by cases nn <;> rfl
end PLay
end Go.Proofs.Ytfffbioafhppiaa.Ev
namespace Go.Proofs.Ytfffbioafhppiaa.Ev
variable {n:Nat}

def lnF:List Int→(Nat→Nat)→Nat→Nat
 | [],p=>p
 | x :: u,p=>lnF u (fun y=>p (sw x.natAbs y))

def sgL (x:Int):Int:=if x < 0 then -1 else 1

def lk:List Int→(Nat→Nat)→Nat→Nat→Int
 | [],_,_,_=>0
 | x :: u,p,a,b=>(if a=p (x.natAbs - 1)∧b=p x.natAbs∨a=p x.natAbs∧b=p (x.natAbs - 1) then sgL x else 0)+lk u (fun y=>p (sw x.natAbs y)) a b

theorem lk_app:∀ (u v:List Int) (p:Nat→Nat) (a b:Nat),lk (u ++ v) p a b=lk u p a b+lk v (lnF u p) a b
 | [],v,p,a,b=>by show _=0+_;rw [Int.zero_add];rfl
 | x :: u,v,p,a,b=>by
  show _+lk (u ++ v) _ a b=_+lk u _ a b+lk v _ a b;rw [lk_app u v,Int.add_assoc];rfl
theorem sw_at {k:Nat} (h:0 < k):sw k k=k - 1:=by unfold sw;rw [if_pos rfl]
theorem sw_lo {k:Nat} (h:0 < k):sw k (k - 1)=k:=by unfold sw;rw [if_neg (by omega),if_pos (by omega)]
end Go.Proofs.Ytfffbioafhppiaa.Ev
namespace Go.Proofs.Ytfffbioafhppiaa.Ev
open Go.Proofs
namespace LApa
end LApa
namespace LChg

end LChg

namespace LSig


end LSig
end Go.Proofs.Ytfffbioafhppiaa.Ev
namespace Go.Proofs.Ytfffbioafhppiaa.Ev
open Go.Proofs
variable {n:Nat}

noncomputable def mx (n:Nat) (f:Nat→Nat→Int):List (List U):=(List.range n).map fun a=>[U.l ((List.range n).map fun b=>[U.i (f a b)])]
theorem mx_len (n:Nat) (f:Nat→Nat→Int):(mx n f).length=n:=by unfold mx;rw [List.length_map,List.length_range]
theorem mx_row {f:Nat→Nat→Int} {x:Nat} (hx:x < n):(mx n f).getD x []=[U.l ((List.range n).map fun b=>[U.i (f x b)])]:=by
 unfold mx;rw [List.getD_eq_getElem?_getD,List.getElem?_map,List.getElem?_range hx];rfl
theorem mx_list {f:Nat→Nat→Int} {x:Nat} (hx:x < n):U.list (((mx n f).getD x []).getD 0 (U.i 0))=(List.range n).map fun b=>[U.i (f x b)]:=by rw [mx_row hx];rfl
theorem mx_get {f:Nat→Nat→Int} {x y:Nat} (hx:x < n) (hy:y < n):U.int ((List.getD (U.list (((mx n f).getD x []).getD 0 (U.i 0))) y []).getD 0 (U.i 0))=f x y:=by
 have e:((List.range n).map fun b=>[U.i (f x b)]).getD y []=[U.i (f x y)]:=by
  rw [List.getD_eq_getElem?_getD,List.getElem?_map,List.getElem?_range hy];rfl
 rw [mx_list hx,e];rfl
def upd (f:Nat→Nat→Int) (x y:Nat) (v:Int) (a b:Nat):Int:=if a=x∧b=y then v else f a b
theorem range_set {α:Type} {g g':Nat→α} {x:Nat} {v:α} (h1:g' x=v) (h2:∀ a,a≠x→g' a=g a):((List.range n).map g).set x v=(List.range n).map g':=by
 apply List.ext_getElem (by rw [List.length_set,List.length_map,List.length_map]);intro i hi hi2;rw [List.getElem_set,List.getElem_map];split
 ·rename_i e;rw [← h1,List.getElem_map,List.getElem_range,e]
 ·rename_i e;rw [List.getElem_map,List.getElem_range,h2 i (fun q=>e q.symm)]
theorem mx_set {f:Nat→Nat→Int} {x y:Nat} (v:Int) (hx:x < n):(mx n f).set x (rset 0 (U.l (List.map (fun x=>[U.i x]) (List.set (List.map (fun r=>U.int (List.headD r (U.i 0))) (U.list (List.getD (List.getD (mx n f) x []) 0 (U.i 0)))) y v))) (List.getD (mx n f) x []))=mx n (upd f x y v):=by
 rw [mx_list hx,mx_row hx,List.map_map];refine range_set ?_ fun a ha=>?_
 ·show [U.l _]=[U.l _];congr 2;have e:List.map ((fun r=>U.int (List.headD r (U.i 0))) ∘ fun b=>[U.i (f x b)]) (List.range n)=(List.range n).map fun b=>f x b:=List.map_congr_left fun b _=>rfl;rw [e,range_set (g':=fun b=>upd f x y v x b) (by unfold upd;rw [if_pos ⟨rfl,rfl⟩]) (fun b hb=>by unfold upd;rw [if_neg fun h=>hb h.2]),List.map_map];rfl
 ·show [U.l _]=[U.l _];congr 2;refine List.map_congr_left fun b _=>?_;unfold upd;rw [if_neg fun h=>ha h.1]
theorem mx_congr {f g:Nat→Nat→Int} (h:∀ a b,f a b=g a b):mx n f=mx n g:=by
 have:f=g:=by funext a b;exact h a b
 rw [this]
theorem lk_bound:∀ (u:List Int) (p:Nat→Nat) (a b:Nat),-(u.length:Int)≤lk u p a b∧lk u p a b≤u.length
 | [],_,_,_=>by show -((0:Nat):Int)≤0∧(0:Int)≤((0:Nat):Int);omega
 | x :: u,p,a,b=>by
  have h:=lk_bound u (fun y=>p (sw x.natAbs y)) a b;have e:lk (x :: u) p a b=(if a=p (x.natAbs - 1)∧b=p x.natAbs∨a=p x.natAbs∧b=p (x.natAbs - 1) then sgL x else 0)+lk u (fun y=>p (sw x.natAbs y)) a b:=rfl
  rw [e,List.length_cons];have s:-1≤sgL x∧sgL x≤1:=by unfold sgL;split <;> omega
  split <;> omega
theorem lnP_f:∀ {w:List Int},Vld n w→∀ (p:Pm n),(w.foldl (fun p x=>swP p x.natAbs) p).f=lnF w p.f
 | [],_,_=>rfl
 | l :: w,h,p=>by
  show (w.foldl (fun p x=>swP p x.natAbs) (swP p l.natAbs)).f=lnF w (fun y=>p.f (sw l.natAbs y));rw [lnP_f h.tail];unfold swP;rw [dif_pos h.head];rfl
theorem lk_snoc (u:List Int) (x:Int) (p:Nat→Nat) (a b:Nat):lk (u ++ [x]) p a b=lk u p a b+(if a=lnF u p (x.natAbs - 1)∧b=lnF u p x.natAbs∨a=lnF u p x.natAbs∧b=lnF u p (x.natAbs - 1) then sgL x else 0):=by
 rw [lk_app];show _+(_+0)=_;rw [Int.add_zero]
namespace PNml
end PNml
namespace PLnk
noncomputable abbrev lkN (w:List Int):Nat→Nat→Int:=lk w id

end PLnk
end Go.Proofs.Ytfffbioafhppiaa.Ev
namespace Go.Proofs.Ytfffbioafhppiaa.Ev
variable {n:Nat}

noncomputable def pR (p:Pm n):List Int:=(List.range n).map fun x=>((p.f x:Nat):Int)
theorem pR_len (p:Pm n):(pR p).length=n:=by unfold pR;rw [List.length_map,List.length_range]
theorem pR_get (p:Pm n) {x:Nat} (hx:x < n):(pR p).getD x 0=(p.f x:Int):=by
 unfold pR;rw [List.getD_eq_getElem?_getD,List.getElem?_map,List.getElem?_range hx];rfl
theorem pR_ext {p:Pm n} {l:List Int} (hl:l.length=n) (h:∀ x,x < n→l.getD x 0=(p.f x:Int)):l=pR p:=by
 apply List.ext_getElem (by rw [hl,pR_len]);intro x h1 h2;have h3:=h x (by omega);rw [← pR_get p (by omega),getD_at h1,getD_at h2] at h3;exact h3
noncomputable instance pmDec (p q:Pm n):Decidable (p=q):=Classical.propDecidable _
theorem pR_L (p:Pm n) {i:Nat} (hi:0 < i∧i < n):((pR p).set (i - 1) (p.f i:Int)).set i (p.f (i - 1):Int)=pR (p.L i hi):=pR_ext (by rw [List.length_set,List.length_set,pR_len]) fun x hx=>by
 show _=((p.f (sw i x):Nat):Int);rw [gset2,gset2,List.length_set,pR_len]
 by_cases h1:x=i
 ·rw [if_pos ⟨h1,by omega⟩,h1,Pm.sw_at]
 ·rw [if_neg (fun h=>h1 h.1)]
  by_cases h2:x=i - 1
  ·rw [if_pos ⟨h2,by omega⟩,h2,Pm.sw_pre hi.1]
  ·rw [if_neg (fun h=>h2 h.1),pR_get p hx,Pm.sw_ne h1 (by omega)]

end Go.Proofs.Ytfffbioafhppiaa.Ev
namespace Go.Proofs.Ytfffbioafhppiaa.Ev
open Go.Proofs
namespace RLin
end RLin
namespace RAft
end RAft
namespace RFin
end RFin
namespace RTrn
end RTrn
namespace RFlt
end RFlt
end Go.Proofs.Ytfffbioafhppiaa.Ev
namespace Go.Proofs.Ytfffbioafhppiaa.Ev
open Go.Proofs
variable {n:Nat}
namespace RLin
noncomputable def rng (i:Nat):List Int:=(List.range i).map fun x=>((x:Nat):Int)
theorem rng_len (i:Nat):(rng i).length=i:=by unfold rng;rw [List.length_map,List.length_range]
theorem rng_succ (i:Nat):rng i ++ [(i:Int)]=rng (i+1):=by unfold rng;rw [List.range_succ,List.map_append];rfl
end RLin
namespace RAft
end RAft
namespace RFin
end RFin
namespace RTrn
end RTrn
namespace RFlt
end RFlt
end Go.Proofs.Ytfffbioafhppiaa.Ev
namespace Go.Proofs.Ytfffbioafhppiaa.Ev
open Go.Proofs
namespace RWo
end RWo
namespace RSli
end RSli
end Go.Proofs.Ytfffbioafhppiaa.Ev
namespace Go.Proofs.Ytfffbioafhppiaa.Ev
open Go.Proofs
variable {n:Nat}
namespace RWo
end RWo
namespace RSli
end RSli
end Go.Proofs.Ytfffbioafhppiaa.Ev
namespace Go.Proofs.Ytfffbioafhppiaa.Ev
open Go.Proofs
namespace RNrm
end RNrm
end Go.Proofs.Ytfffbioafhppiaa.Ev
namespace Go.Proofs.Ytfffbioafhppiaa.Ev
open Go.Proofs
variable {n:Nat}
namespace RNrm
end RNrm
end Go.Proofs.Ytfffbioafhppiaa.Ev
namespace Go.Proofs.Ytfffbioafhppiaa.Ev
open Go.Proofs
namespace RSin
end RSin
namespace RSfo
end RSfo
namespace RSam
end RSam
namespace RTri
end RTri
end Go.Proofs.Ytfffbioafhppiaa.Ev
namespace Go.Proofs.Ytfffbioafhppiaa.Ev
open Go.Proofs
variable {n:Nat}
namespace RSiz
end RSiz
namespace RPrm
end RPrm
namespace RDrp
end RDrp
end Go.Proofs.Ytfffbioafhppiaa.Ev
namespace Go.Proofs.Ytfffbioafhppiaa.Ev
open Go.Proofs
variable {n:Nat}
namespace RDpp
end RDpp
namespace RLay
end RLay
end Go.Proofs.Ytfffbioafhppiaa.Ev
namespace Go.Proofs.Ytfffbioafhppiaa.Ev
open Go.Proofs
variable {n:Nat}
noncomputable def spNo2:ZCT:=fun _=>none
theorem spNo2_ok:ZCtOk Try.prog 2 spNo2:=fun _ _ _ _ _ h=>by cases h
namespace RLnk
theorem mx_zero (i:Nat):List.replicate i [U.l (List.map (fun x=>[U.i x]) (zerosL i))]=mx i fun _ _=>0:=by
 unfold mx;show _=List.map (fun _=>[U.l (List.map (fun _=>[U.i 0]) (List.range i))]) (List.range i);rw [List.map_const',List.map_const',List.length_range];unfold zerosL;rw [List.map_replicate]
end RLnk
end Go.Proofs.Ytfffbioafhppiaa.Ev
namespace Go.Proofs.Ytfffbioafhppiaa.EvM
open Go.Proofs Go.Proofs.Ytfffbioafhppiaa.Ev
noncomputable def ctPs:Tr ZCC:=Tr.nil.put 2 (some (dC spNo2))
theorem ctPs_ok:ZCtsOk Try.prog ctPs:=(ZCtsOk.nil _).add rfl spNo2_ok
noncomputable def kK (r:List U):Int:=U.int (r.getD 0 (U.i 0))
noncomputable def kA (r:List U):Int:=U.int (r.getD 1 (U.i 0))
noncomputable def kW (r:List U):ByteArray:=U.str (r.getD 2 (U.i 0))

noncomputable def isC (r:List U):Bool:=(kW r).toList == ByteArray.toList (ByteArray.mk #[67,84,67])

structure PasR (n:Nat) (r:List U):Prop where
 k:kK r=1
 a0:0≤kA r
 a1:kA r+2≤n
 s:(kW r).size≤16
 w:isC r=true∨(isC r=false∧∀ j,j < (kW r).size→byteAt (kW r) j=84∨byteAt (kW r) j=76∨byteAt (kW r) j=82∨byteAt (kW r) j=80)

noncomputable def wdC (W:List (List U)):List Int:=W.flatMap fun r=>if isC r then [kA r+1] else []
theorem wdC_snoc (W:List (List U)) (r:List U):wdC (W ++ [r])=wdC W ++ (if isC r then [kA r+1] else []):=by
 unfold wdC;rw [List.flatMap_append];simp
theorem wdC_vld {n:Nat} {W:List (List U)} (h:∀ r,r ∈ W→PasR n r):Vld n (wdC W):=fun x hx=>by
 obtain ⟨r,hr,hx⟩:=List.mem_flatMap.1 hx;have:=(h r hr).a0;have:=(h r hr).a1;split at hx
 ·obtain rfl:=List.mem_singleton.1 hx;omega
 ·cases hx
theorem wdC_len:∀ W:List (List U),(wdC W).length≤W.length
 | []=>Nat.le_refl _
 | r :: W=>by
  have:=wdC_len W;show ((if isC r then [kA r+1] else []) ++ wdC W).length≤_
  rw [List.length_append,List.length_cons];split <;> simp <;> omega
def PasOk (n:Int) (W:List (List U)):Prop:=1≤n∧n≤24∧W.length≤400∧∀ r,r ∈ W→PasR n.toNat r
noncomputable instance PasOk.dec (n:Int) (W:List (List U)):Decidable (PasOk n W):=Classical.propDecidable _
namespace LPas
noncomputable def RUN (s:ES):ZF:=RZs 27 ctPs [(atS 0 27 6,[[(1,none),(5,some (1,3,.ints .i64 [])),(6,none),(7,none)]]),(atS 0 27 11,[[(1,none),(5,none),(6,none),(8,none)]]),(atS 0 27 14,[[(1,none),(5,none),(6,none),(8,none),(9,none)]]),(atS 0 27 18,[[(1,none),(5,none),(6,none),(8,none),(9,none),(10,none),(11,none)]]),(atS 0 27 19,[[(1,none),(5,none),(6,none),(8,none),(10,none),(11,none)]]),(atS 0 27 20,[[(1,none),(5,none),(6,none),(8,none),(10,none),(11,none)]]),(atS 0 27 22,[[(1,none),(5,none),(6,none),(8,none),(9,none),(12,none)]])] [] false s

noncomputable def sA (n:Int) (W:List (List U)) (q:List Int) (nq:Bool) (i:Int):NS:=⟨[⟨27,148,[(1,(EV.ptr 0 0)),(5,EV.slO 1 1 q.length nq),(6,(EV.v (Value.slice Option.none 0 0))),(7,iv i)],[.it (.code (nav [1,1,1,1,0,1,0,0,0] (bodyOf Try.f27))),.it (.code (nav [1,1,1,1,0,1,0,0,1] (bodyOf Try.f27))),.it (.inLoop (nav [1,1,1,1,0,1,0,0] (bodyOf Try.f27))),.it (.inBlock 0),.it (.code (nav [1,1,1,1,1] (bodyOf Try.f27)))],[],Option.none⟩],[(0,(EK.cells 49 [(EV.v (Value.int IntKind.i64 (n))),(EV.lst (SyC.recs [(Sh.int IntKind.i64),(Sh.int IntKind.i64),Sh.str] (W)))] true)),(1,EK.seq 3 (.ints .i64 q) nq)],2⟩
noncomputable def sB (n:Int) (W:List (List U)) (q:List Int) (nq:Bool) (m:Nat) (rows:List (List U)) (v:Nat) (i:Int):NS:=⟨[⟨27,148,[(1,(EV.ptr 0 0)),(5,EV.slO 1 1 q.length nq),(6,EV.slO 2 1 m true),(7,iv i)],[.it (.code (nav [1,1,1,1,0,1,0,0,0] (bodyOf Try.f27))),.it (.code (nav [1,1,1,1,0,1,0,0,1] (bodyOf Try.f27))),.it (.inLoop (nav [1,1,1,1,0,1,0,0] (bodyOf Try.f27))),.it (.inBlock 0),.it (.code (nav [1,1,1,1,1] (bodyOf Try.f27)))],[],Option.none⟩],[(0,EK.cells 49 [iv n,wl W] true),(1,EK.seq 3 (.ints .i64 q) nq),(2,EK.nest 2 (22,[3]) [.list [.int .i64]] rows v [] true)],3⟩
noncomputable def sC (n:Int) (W:List (List U)) (q:List Int) (k:Nat) (nq:Bool) (m:Nat) (rows:List (List U)) (v:Nat) (i:Int):NS:=⟨[⟨27,148,[(1,(EV.ptr 0 0)),(5,EV.slO 1 1 k nq),(6,EV.slO 2 1 m true),(8,iv i)],[.it (.code (nav [1,1,1,1,1,0,1,0,0,0] (bodyOf Try.f27))),.it (.code (nav [1,1,1,1,1,0,1,0,0,1] (bodyOf Try.f27))),.it (.inLoop (nav [1,1,1,1,1,0,1,0,0] (bodyOf Try.f27))),.it (.inBlock 2),.it (.code (nav [1,1,1,1,1,1] (bodyOf Try.f27)))],[],Option.none⟩],[(0,EK.cells 49 [iv n,wl W] true),(1,EK.seq 3 (.ints .i64 q) nq),(2,EK.nest 2 (22,[3]) [.list [.int .i64]] rows v [] true)],3⟩
noncomputable def sX (n:Int) (W:List (List U)) (q:List Int) (k:Nat) (nq:Bool) (m:Nat) (rows:List (List U)) (v:Nat) (i:Int) (kd at_:Int) (s:ByteArray):NS:=⟨[⟨27,148,[(1,(EV.ptr 0 0)),(5,EV.slO 1 1 k nq),(6,EV.slO 2 1 m true),(8,iv i),(9,(EV.ptr 3 0))],[.it (.code (nav [1,1,1,1,1,0,1,0,0,1,0,0,1,0] (bodyOf Try.f27))),.it (.code (nav [1,1,1,1,1,0,1,0,0,1,0,0,1,1] (bodyOf Try.f27))),.it (.inBlock 3),.it (.code (nav [1,1,1,1,1,0,1,0,0,1,1] (bodyOf Try.f27))),.it (.inLoop (nav [1,1,1,1,1,0,1,0,0] (bodyOf Try.f27))),.it (.inBlock 2),.it (.code (nav [1,1,1,1,1,1] (bodyOf Try.f27)))],[],Option.none⟩],[(0,EK.cells 49 [iv n,wl W] true),(1,EK.seq 3 (.ints .i64 q) nq),(2,EK.nest 2 (22,[3]) [.list [.int .i64]] rows v [] true),(3,EK.cells 103 [iv kd,iv at_,sv s] true)],4⟩
noncomputable def sD (n:Int) (W:List (List U)) (q:List Int) (k:Nat) (nq:Bool) (m:Nat) (rows:List (List U)) (v:Nat) (i:Int) (kd at_:Int) (s:ByteArray) (a b:Int):NS:=⟨[⟨27,148,[(1,(EV.ptr 0 0)),(5,EV.slO 1 1 k nq),(6,EV.slO 2 1 m true),(8,iv i),(9,(EV.ptr 3 0)),(10,iv a),(11,iv b)],[.it (.code (nav [1,1,1,1,1,0,1,0,0,1,0,0,1,1,0,1,0,1] (bodyOf Try.f27))),.it (.code (nav [1,1,1,1,1,0,1,0,0,1,0,0,1,1,1] (bodyOf Try.f27))),.it (.inBlock 3),.it (.code (nav [1,1,1,1,1,0,1,0,0,1,1] (bodyOf Try.f27))),.it (.inLoop (nav [1,1,1,1,1,0,1,0,0] (bodyOf Try.f27))),.it (.inBlock 2),.it (.code (nav [1,1,1,1,1,1] (bodyOf Try.f27)))],[],Option.none⟩],[(0,EK.cells 49 [iv n,wl W] true),(1,EK.seq 3 (.ints .i64 q) nq),(2,EK.nest 2 (22,[3]) [.list [.int .i64]] rows v [] true),(3,EK.cells 103 [iv kd,iv at_,sv s] true)],4⟩
noncomputable def sE (n:Int) (W:List (List U)) (q:List Int) (k:Nat) (nq:Bool) (m:Nat) (rows:List (List U)) (v:Nat) (i:Int) (a b:Int):NS:=⟨[⟨27,148,[(1,(EV.ptr 0 0)),(5,EV.slO 1 1 k nq),(6,EV.slO 2 1 m true),(8,iv i),(10,iv a),(11,iv b)],[.it (.code (nav [1,1,1,1,1,0,1,0,0,1,0,0,1,1,0,1,0,1,1] (bodyOf Try.f27))),.it (.code (nav [1,1,1,1,1,0,1,0,0,1,0,0,1,1,1] (bodyOf Try.f27))),.it (.inBlock 3),.it (.code (nav [1,1,1,1,1,0,1,0,0,1,1] (bodyOf Try.f27))),.it (.inLoop (nav [1,1,1,1,1,0,1,0,0] (bodyOf Try.f27))),.it (.inBlock 2),.it (.code (nav [1,1,1,1,1,1] (bodyOf Try.f27)))],[],Option.none⟩],[(0,EK.cells 49 [iv n,wl W] true),(1,EK.seq 3 (.ints .i64 q) nq),(2,EK.nest 2 (22,[3]) [.list [.int .i64]] rows v [] true)],3⟩
noncomputable def sF (n:Int) (W:List (List U)) (q:List Int) (k:Nat) (nq:Bool) (m:Nat) (rows:List (List U)) (v:Nat) (i:Int) (a b:Int):NS:=⟨[⟨27,148,[(1,(EV.ptr 0 0)),(5,EV.slO 1 1 k nq),(6,EV.slO 2 1 m true),(8,iv i),(10,iv a),(11,iv b)],[.it (.code (nav [1,1,1,1,1,0,1,0,0,1,0,0,1,1,0,1,0,1,1,1] (bodyOf Try.f27))),.it (.code (nav [1,1,1,1,1,0,1,0,0,1,0,0,1,1,1] (bodyOf Try.f27))),.it (.inBlock 3),.it (.code (nav [1,1,1,1,1,0,1,0,0,1,1] (bodyOf Try.f27))),.it (.inLoop (nav [1,1,1,1,1,0,1,0,0] (bodyOf Try.f27))),.it (.inBlock 2),.it (.code (nav [1,1,1,1,1,1] (bodyOf Try.f27)))],[],Option.none⟩],[(0,EK.cells 49 [iv n,wl W] true),(1,EK.seq 3 (.ints .i64 q) nq),(2,EK.nest 2 (22,[3]) [.list [.int .i64]] rows v [] true)],3⟩
noncomputable def sG (n:Int) (W:List (List U)) (q:List Int) (k:Nat) (nq:Bool) (m:Nat) (rows:List (List U)) (v:Nat) (i:Int) (kd at_:Int) (s:ByteArray) (j:Int):NS:=⟨[⟨27,148,[(1,(EV.ptr 0 0)),(5,EV.slO 1 1 k nq),(6,EV.slO 2 1 m true),(8,iv i),(9,(EV.ptr 3 0)),(12,iv j)],[.it (.code (nav [1,1,1,1,1,0,1,0,0,1,0,0,1,1,1,1,0,0,0] (bodyOf Try.f27))),.it (.code (nav [1,1,1,1,1,0,1,0,0,1,0,0,1,1,1,1,0,0,1] (bodyOf Try.f27))),.it (.inLoop (nav [1,1,1,1,1,0,1,0,0,1,0,0,1,1,1,1,0,0] (bodyOf Try.f27))),.it (.inBlock 4),.it (.inBlock 3),.it (.code (nav [1,1,1,1,1,0,1,0,0,1,1] (bodyOf Try.f27))),.it (.inLoop (nav [1,1,1,1,1,0,1,0,0] (bodyOf Try.f27))),.it (.inBlock 2),.it (.code (nav [1,1,1,1,1,1] (bodyOf Try.f27)))],[],Option.none⟩],[(0,EK.cells 49 [iv n,wl W] true),(1,EK.seq 3 (.ints .i64 q) nq),(2,EK.nest 2 (22,[3]) [.list [.int .i64]] rows v [] true),(3,EK.cells 103 [iv kd,iv at_,sv s] true)],4⟩
theorem c_t (n:Int) (W:List (List U)) (q:List Int) (k:Nat) (nq:Bool) (m:Nat) (rows:List (List U)) (v:Nat) (i:Int):RUN (stOf (sC n W q k nq m rows v i))=(bc (decide (i < Int.ofNat (List.length W))) (bc (bc (bc (decide ((0:Int)≤i)) (Nat.blt (Int.toNat i) (List.length W)) false) true false) (bc (bc (Nat.blt (Int.toNat i) (List.length W)) true false) (.at (sX (n) (W) (q) (k) (nq) (m) (rows) (v) (i) (U.int (List.getD (List.getD W (Int.toNat i) []) (0:Nat) (U.i (0:Int)))) (U.int (List.getD (List.getD W (Int.toNat i) []) (Nat.succ (0:Nat)) (U.i (0:Int)))) (U.str (List.getD (List.getD W (Int.toNat i) []) (Nat.succ (Nat.succ (0:Nat))) (U.i (0:Int)))))) .bad) .bad) (bc (bc (Nat.beq k (List.length q)) (bc (Nat.beq m (List.length rows)) true false) false) (.done (EV.tup [(EV.lst (SyC.ints IntKind.i64 (q))),(EV.lst (SyC.recs [(Sh.list [(Sh.int IntKind.i64)])] (rows))),(EV.v (Value.bool true))]) [] 0) .bad)):=by kernel_rfl
theorem x_t (n:Int) (W:List (List U)) (q:List Int) (k:Nat) (nq:Bool) (m:Nat) (rows:List (List U)) (v:Nat) (i:Int) (kd at_:Int) (s:ByteArray):RUN (stOf (sX n W q k nq m rows v i kd at_ s))=(bc (kd != (1:Int)) (.done (EV.tup [(EV.v (Value.slice Option.none 0 0)),(EV.v (Value.slice Option.none 0 0)),(EV.v (Value.bool false))]) [] 0) (bc (decide (at_ < (0:Int))) (.done (EV.tup [(EV.v (Value.slice Option.none 0 0)),(EV.v (Value.slice Option.none 0 0)),(EV.v (Value.bool false))]) [] 0) (bc (decide (IntKind.wrap IntKind.i64 (n - (2:Int)) < at_)) (.done (EV.tup [(EV.v (Value.slice Option.none 0 0)),(EV.v (Value.slice Option.none 0 0)),(EV.v (Value.bool false))]) [] 0) (bc (decide ((16:Int) < Int.ofNat (ByteArray.size s))) (.done (EV.tup [(EV.v (Value.slice Option.none 0 0)),(EV.v (Value.slice Option.none 0 0)),(EV.v (Value.bool false))]) [] 0) (bc (ByteArray.toList s == ByteArray.toList { data:=#[(67:UInt8),(84:UInt8),(67:UInt8)] }) (bc (bc (bc (bc (bc (decide ((0:Int)≤at_)) (Nat.blt (Int.toNat at_) k) false) true false) (bc (bc (Nat.blt (Int.toNat at_) (List.length q)) true false) (bc (bc (bc (decide ((0:Int)≤IntKind.wrap IntKind.i64 (at_+(1:Int)))) (Nat.blt (Int.toNat (IntKind.wrap IntKind.i64 (at_+(1:Int)))) k) false) true false) (bc (bc (Nat.blt (Int.toNat (IntKind.wrap IntKind.i64 (at_+(1:Int)))) (List.length q)) true false) true false) false) false) false) true false) (.at (sD (n) (W) (q) (k) (nq) (m) (rows) (v) (i) (kd) (at_) (s) (List.getD q (Int.toNat at_) (0:Int)) (List.getD q (Int.toNat (IntKind.wrap IntKind.i64 (at_+(1:Int)))) (0:Int)))) .bad) (.at (sG (n) (W) (q) (k) (nq) (m) (rows) (v) (i) (kd) (at_) (s) ((0:Int))))))))):=by kernel_rfl
theorem d_t (n:Int) (W:List (List U)) (q:List Int) (k:Nat) (nq:Bool) (m:Nat) (rows:List (List U)) (v:Nat) (i:Int) (kd at_:Int) (s:ByteArray) (a b:Int):RUN (stOf (sD n W q k nq m rows v i kd at_ s a b))=(bc (bc (bc (bc (bc (decide ((0:Int)≤at_)) (Nat.blt (Int.toNat at_) k) false) true false) (bc (Nat.blt (Int.toNat at_) (List.length q)) (bc (bc (bc (decide ((0:Int)≤IntKind.wrap IntKind.i64 (at_+(1:Int)))) (Nat.blt (Int.toNat (IntKind.wrap IntKind.i64 (at_+(1:Int)))) k) false) true false) (bc (Nat.blt (Int.toNat (IntKind.wrap IntKind.i64 (at_+(1:Int)))) (List.length (List.set q (Int.toNat at_) b))) true false) false) false) false) (bc (bc (bc (decide (at_=at_)) true false) true false) true false) false) (.at (sE (n) (W) (List.set (List.set q (Int.toNat at_) b) (Int.toNat (IntKind.wrap IntKind.i64 (at_+(1:Int)))) a) (k) (nq) (m) (rows) (v) (i) (a) (b))) .bad):=by kernel_rfl
theorem e_t (n:Int) (W:List (List U)) (q:List Int) (k:Nat) (nq:Bool) (m:Nat) (rows:List (List U)) (v:Nat) (i:Int) (a b:Int):RUN (stOf (sE n W q k nq m rows v i a b))=(bc (bc (bc (decide ((0:Int)≤a)) (Nat.blt (Int.toNat a) m) false) true false) (bc (bc (bc (Nat.blt (Int.toNat a) (List.length rows)) true false) true false) (bc (bc (bc (decide ((0:Int)≤b)) (Nat.blt (Int.toNat b) (List.length (U.list (List.getD (List.getD rows (Int.toNat a) []) (0:Nat) (U.i (0:Int)))))) false) true false) (bc (bc (bc (Nat.beq v v) (bc (Nat.blt (Int.toNat a) (List.length rows)) (Nat.blt (Int.toNat b) (List.length (U.list (List.getD (List.getD rows (Int.toNat a) []) (0:Nat) (U.i (0:Int)))))) false) false) true false) (bc (bc (bc (decide ((0:Int)≤b)) (Nat.blt (Int.toNat b) (List.length (U.list (List.getD (List.getD rows (Int.toNat a) []) (0:Nat) (U.i (0:Int)))))) false) true false) (bc (bc (Nat.beq v v) (bc (Nat.blt (Int.toNat a) (List.length rows)) (Nat.blt (Int.toNat b) (List.length (U.list (List.getD (List.getD rows (Int.toNat a) []) (0:Nat) (U.i (0:Int)))))) false) false) (.at (sF (n) (W) (q) (k) (nq) (m) (List.set rows (Int.toNat a) (rset (0:Nat) (U.l (List.map (fun x=>[U.i x]) (List.set (List.map (fun r=>U.int (List.headD r (U.i (0:Int)))) (U.list (List.getD (List.getD rows (Int.toNat a) []) (0:Nat) (U.i (0:Int))))) (Int.toNat b) (IntKind.wrap IntKind.i64 (U.int (List.getD (List.getD (U.list (List.getD (List.getD rows (Int.toNat a) []) (0:Nat) (U.i (0:Int)))) (Int.toNat b) []) (0:Nat) (U.i (0:Int)))+(1:Int)))))) (List.getD rows (Int.toNat a) []))) (v) (i) (a) (b))) .bad) .bad) .bad) .bad) .bad) .bad):=by kernel_rfl
theorem f_t (n:Int) (W:List (List U)) (q:List Int) (k:Nat) (nq:Bool) (m:Nat) (rows:List (List U)) (v:Nat) (i:Int) (a b:Int):RUN (stOf (sF n W q k nq m rows v i a b))=(bc (bc (bc (decide ((0:Int)≤b)) (Nat.blt (Int.toNat b) m) false) true false) (bc (bc (bc (Nat.blt (Int.toNat b) (List.length rows)) true false) true false) (bc (bc (bc (decide ((0:Int)≤a)) (Nat.blt (Int.toNat a) (List.length (U.list (List.getD (List.getD rows (Int.toNat b) []) (0:Nat) (U.i (0:Int)))))) false) true false) (bc (bc (bc (Nat.beq v v) (bc (Nat.blt (Int.toNat b) (List.length rows)) (Nat.blt (Int.toNat a) (List.length (U.list (List.getD (List.getD rows (Int.toNat b) []) (0:Nat) (U.i (0:Int)))))) false) false) true false) (bc (bc (bc (decide ((0:Int)≤a)) (Nat.blt (Int.toNat a) (List.length (U.list (List.getD (List.getD rows (Int.toNat b) []) (0:Nat) (U.i (0:Int)))))) false) true false) (bc (bc (Nat.beq v v) (bc (Nat.blt (Int.toNat b) (List.length rows)) (Nat.blt (Int.toNat a) (List.length (U.list (List.getD (List.getD rows (Int.toNat b) []) (0:Nat) (U.i (0:Int)))))) false) false) (.at (sC (n) (W) (q) (k) (nq) (m) (List.set rows (Int.toNat b) (rset (0:Nat) (U.l (List.map (fun x=>[U.i x]) (List.set (List.map (fun r=>U.int (List.headD r (U.i (0:Int)))) (U.list (List.getD (List.getD rows (Int.toNat b) []) (0:Nat) (U.i (0:Int))))) (Int.toNat a) (IntKind.wrap IntKind.i64 (U.int (List.getD (List.getD (U.list (List.getD (List.getD rows (Int.toNat b) []) (0:Nat) (U.i (0:Int)))) (Int.toNat a) []) (0:Nat) (U.i (0:Int)))+(1:Int)))))) (List.getD rows (Int.toNat b) []))) (v) (IntKind.wrap IntKind.i64 (i+(1:Int))))) .bad) .bad) .bad) .bad) .bad) .bad):=by kernel_rfl
theorem g_t (n:Int) (W:List (List U)) (q:List Int) (k:Nat) (nq:Bool) (m:Nat) (rows:List (List U)) (v:Nat) (i:Int) (kd at_:Int) (s:ByteArray) (j:Int):RUN (stOf (sG n W q k nq m rows v i kd at_ s j))=(bc (decide (j < Int.ofNat (ByteArray.size s))) (bc (bc (bc (decide ((0:Int)≤j)) (Nat.blt (Int.toNat j) (ByteArray.size s)) false) true false) (bc (byteAt s (Int.toNat j) != (84:Int)) (bc (byteAt s (Int.toNat j) != (76:Int)) (bc (byteAt s (Int.toNat j) != (82:Int)) (bc (byteAt s (Int.toNat j) != (80:Int)) (.done (EV.tup [(EV.v (Value.slice Option.none 0 0)),(EV.v (Value.slice Option.none 0 0)),(EV.v (Value.bool false))]) [] 0) (.at (sG (n) (W) (q) (k) (nq) (m) (rows) (v) (i) (kd) (at_) (s) (IntKind.wrap IntKind.i64 (j+(1:Int)))))) (.at (sG (n) (W) (q) (k) (nq) (m) (rows) (v) (i) (kd) (at_) (s) (IntKind.wrap IntKind.i64 (j+(1:Int)))))) (.at (sG (n) (W) (q) (k) (nq) (m) (rows) (v) (i) (kd) (at_) (s) (IntKind.wrap IntKind.i64 (j+(1:Int)))))) (.at (sG (n) (W) (q) (k) (nq) (m) (rows) (v) (i) (kd) (at_) (s) (IntKind.wrap IntKind.i64 (j+(1:Int)))))) .bad) (.at (sC (n) (W) (q) (k) (nq) (m) (rows) (v) (IntKind.wrap IntKind.i64 (i+(1:Int)))))):=by kernel_rfl
theorem in_t (n:Int) (W:List (List U)):RUN (st0 27 [.agg [iv n,wl W]])=(bc (decide (n < (0:Int))) (.done (EV.tup [(EV.v (Value.slice Option.none 0 0)),(EV.v (Value.slice Option.none 0 0)),(EV.v (Value.bool false))]) [] 0) (bc (decide ((24:Int) < n)) (.done (EV.tup [(EV.v (Value.slice Option.none 0 0)),(EV.v (Value.slice Option.none 0 0)),(EV.v (Value.bool false))]) [] 0) (bc (decide ((400:Int) < Int.ofNat (List.length W))) (.done (EV.tup [(EV.v (Value.slice Option.none 0 0)),(EV.v (Value.slice Option.none 0 0)),(EV.v (Value.bool false))]) [] 0) (.at (sA (n) (W) ([]) (false) ((0:Int))))))):=by kernel_rfl
theorem a_t (n:Int) (W:List (List U)) (q:List Int) (nq:Bool) (i:Int):RUN (stOf (sA n W q nq i))=(bc (decide (i < n)) (bc (bc (Nat.beq (List.length q) (List.length q)) (bc (Nat.ble (List.length q+List.length (List.map (fun r=>U.int (List.headD r (U.i (0:Int)))) [[U.i i]])) (65536:Nat)) (bc nq true (bc nq false true)) false) false) (bc (bc (decide ((0:Int)≤n)) (bc (decide (n≤n)) (decide (n≤(65536:Int))) false) false) (bc (Nat.beq (List.length (zerosL (Int.toNat n))) (List.length (zerosL (Int.toNat n)))) (.at (sB (n) (W) (q ++ List.map (fun r=>U.int (List.headD r (U.i (0:Int)))) [[U.i i]]) (bc nq true (Nat.blt (0:Nat) (List.length (List.map (fun r=>U.int (List.headD r (U.i (0:Int)))) [[U.i i]])))) ((0:Nat)+(1:Nat)) ([[U.l (List.map (fun x=>[U.i x]) (zerosL (Int.toNat n)))]]) ((1:Nat)) (IntKind.wrap IntKind.i64 (i+(1:Int))))) .bad) .bad) .bad) (.at ⟨[⟨27,148,[(1,(EV.ptr 0 0)),(5,(EV.slO 1 1 (List.length q) (nq))),(6,(EV.v (Value.slice Option.none 0 0))),(8,(EV.v (Value.int IntKind.i64 (0))))],[.it (.code (nav [1,1,1,1,1,0,1,0,0,0] (bodyOf Try.f27))),.it (.code (nav [1,1,1,1,1,0,1,0,0,1] (bodyOf Try.f27))),.it (.inLoop (nav [1,1,1,1,1,0,1,0,0] (bodyOf Try.f27))),.it (.inBlock 2),.it (.code (nav [1,1,1,1,1,1] (bodyOf Try.f27)))],[],Option.none⟩],[(0,(EK.cells 49 [(EV.v (Value.int IntKind.i64 (n))),(EV.lst (SyC.recs [(Sh.int IntKind.i64),(Sh.int IntKind.i64),Sh.str] (W)))] true)),(1,(EK.seq 3 (SyC.ints IntKind.i64 (q)) (nq)))],2⟩)):=by kernel_rfl
theorem b_t (n:Int) (W:List (List U)) (q:List Int) (nq:Bool) (m:Nat) (rows:List (List U)) (v:Nat) (i:Int):RUN (stOf (sB n W q nq m rows v i))=(bc (decide (i < n)) (bc (bc (Nat.beq (List.length q) (List.length q)) (bc (Nat.ble (List.length q+List.length (List.map (fun r=>U.int (List.headD r (U.i (0:Int)))) [[U.i i]])) (65536:Nat)) (bc nq true (bc nq false true)) false) false) (bc (bc (decide ((0:Int)≤n)) (bc (decide (n≤n)) (decide (n≤(65536:Int))) false) false) (bc (bc (Nat.beq (List.length (zerosL (Int.toNat n))) (List.length (zerosL (Int.toNat n)))) (bc (Nat.beq m (List.length rows)) (bc (Nat.ble (m+(1:Nat)) (65536:Nat)) true false) false) false) (.at (sB (n) (W) (q ++ List.map (fun r=>U.int (List.headD r (U.i (0:Int)))) [[U.i i]]) (bc nq true (Nat.blt (0:Nat) (List.length (List.map (fun r=>U.int (List.headD r (U.i (0:Int)))) [[U.i i]])))) (m+(1:Nat)) (rows ++ [[U.l (List.map (fun x=>[U.i x]) (zerosL (Int.toNat n)))]]) ((1:Nat)) (IntKind.wrap IntKind.i64 (i+(1:Int))))) .bad) .bad) .bad) (.at (sC (n) (W) (q) (List.length q) (nq) (m) (rows) (v) ((0:Int))))):=by kernel_rfl
variable {n:Nat} {W:List (List U)}
theorem onePs (x:Int):List.map (fun r=>U.int (List.headD r (U.i (0:Int)))) [[U.i x]]=[x]:=rfl

noncomputable abbrev res (n:Nat) (W:List (List U)):EV:=.tup [il (pR (lnP n (wdC W))),.lst (.recs [.list [.int .i64]] (mx n (PLnk.lkN (wdC W)))),bv true]
theorem stepE {f:Nat→Nat→Int} {q:List Int} {k:Nat} {nq:Bool} {v:Nat} {i:Int} {x y:Nat} (hn:n≤24) (hx:x < n) (hy:y < n) (hf:-3000≤f x y∧f x y≤3000):RUN (stOf (sE n W q k nq n (mx n f) v i x y)) = .at (sF n W q k nq n (mx n (upd f x y (f x y+1))) v i x y):=by
 have e0:∀ x:Nat,Int.toNat (x:Int)=x:=fun _=>rfl;have l1:(U.list (((mx n f).getD x []).getD 0 (U.i 0))).length=n:=by rw [mx_list hx,List.length_map,List.length_range]
 have l2:=mx_len n f;rw [e_t,e0,e0,mx_get hx hy,wrap_in (f x y+1) (by omega) (by omega),mx_set _ hx,l1,l2];simp (disch:=omega) only [Nat.add_eq,eqSy_self,eqN_self,bc_same,List.length_cons,ofn,wrap_in,dt,df,bltD,bltN,ble_of,bleN,beqD,bc_t,bc_f,nn_ok,Nat.zero_add,to_nat,Int.zero_add,Int.sub_zero,Int.sub_self,Int.cast_ofNat_Int,Int.natCast_zero,Int.toNat_zero,List.take_zero,List.nil_append,List.length_append,List.length_nil]
theorem stepF {f:Nat→Nat→Int} {q:List Int} {k:Nat} {nq:Bool} {v:Nat} {i:Nat} {x y:Nat} (hn:n≤24) (hx:x < n) (hy:y < n) (hi:i≤3000) (hf:-3000≤f y x∧f y x≤3000):RUN (stOf (sF n W q k nq n (mx n f) v i x y)) = .at (sC n W q k nq n (mx n (upd f y x (f y x+1))) v (i+1:Nat)):=by
 have e0:∀ x:Nat,Int.toNat (x:Int)=x:=fun _=>rfl;have l1:(U.list (((mx n f).getD y []).getD 0 (U.i 0))).length=n:=by rw [mx_list hy,List.length_map,List.length_range]
 have l2:=mx_len n f;have w4:IntKind.wrap IntKind.i64 ((i:Int)+1)=((i+1:Nat):Int):=by rw [wrap_in _ (by omega) (by omega)];omega
 rw [f_t,e0,e0,mx_get hy hx,wrap_in (f y x+1) (by omega) (by omega),mx_set _ hy,l1,l2,w4];simp (disch:=omega) only [Nat.add_eq,eqSy_self,eqN_self,bc_same,List.length_cons,ofn,wrap_in,dt,df,bltD,bltN,ble_of,bleN,beqD,bc_t,bc_f,nn_ok,Nat.zero_add,to_nat,Int.zero_add,Int.sub_zero,Int.sub_self,Int.cast_ofNat_Int,Int.natCast_zero,Int.toNat_zero,List.take_zero,List.nil_append,List.length_append,List.length_nil]

theorem loopG {q:List Int} {k:Nat} {nq:Bool} {m:Nat} {rows:List (List U)} {v i:Nat} {kd at_:Int} {s:ByteArray} {R:EV} (hs:s.size≤16) (hi:i≤3000) (hb:∀ j,j < s.size→byteAt s j=84∨byteAt s j=76∨byteAt s j=82∨byteAt s j=80)
  (H:EndZ 27 ctPs false (stOf (sC n W q k nq m rows v (i+1:Nat))) R [] 0):∀ (d j:Nat),j+d=s.size→EndZ 27 ctPs false (stOf (sG n W q k nq m rows v i kd at_ s j)) R [] 0
 | 0,j,h=>by
  have g:=g_t n W q k nq m rows v i kd at_ s j;have w4:IntKind.wrap IntKind.i64 ((i:Int)+1)=((i+1:Nat):Int):=by rw [wrap_in _ (by omega) (by omega)];omega
  rw [w4,df (show ¬ (j:Int) < Int.ofNat s.size by rw [ofn];omega),bc_f] at g;exact .at ctPs_ok g H
 | d+1,j,h=>by
  have hj:j < s.size:=by omega
  have g:=g_t n W q k nq m rows v i kd at_ s j;have e0:Int.toNat (j:Int)=j:=rfl;have w4:IntKind.wrap IntKind.i64 ((j:Int)+1)=((j+1:Nat):Int):=by rw [wrap_in _ (by omega) (by omega)];omega
  have g2:RUN (stOf (sG n W q k nq m rows v i kd at_ s j)) = .at (sG n W q k nq m rows v i kd at_ s (j+1:Nat)):=by
   rw [g,e0,w4,dt (show (j:Int) < Int.ofNat s.size by rw [ofn];omega),dt (show (0:Int)≤(j:Int) by omega),bltD hj];rcases hb j hj with h | h | h | h <;> rw [h] <;> rfl
  exact .at ctPs_ok g2 (loopG hs hi hb H d (j+1) (by omega))
theorem stepC {q:List Int} {k:Nat} {nq:Bool} {m:Nat} {rows:List (List U)} {v i:Nat} (hi:i < W.length):RUN (stOf (sC n W q k nq m rows v i)) = .at (sX n W q k nq m rows v i (kK W[i]) (kA W[i]) (kW W[i])):=by
 have c:=c_t n W q k nq m rows v i;have e0:Int.toNat (i:Int)=i:=rfl;rw [e0,getD_at hi] at c;simp (disch:=omega) only [Nat.add_eq,eqSy_self,eqN_self,bc_same,List.length_cons,ofn,wrap_in,dt,df,bltD,bltN,ble_of,bleN,beqD,bc_t,bc_f,nn_ok,Nat.zero_add,to_nat,Int.zero_add,Int.sub_zero,Int.sub_self,Int.cast_ofNat_Int,Int.natCast_zero,Int.toNat_zero,List.take_zero,List.nil_append,List.length_append,List.length_nil] at c;exact c
theorem round {nq:Bool} {v i:Nat} (hn:n≤24) (hW:W.length≤400) (hP:∀ r,r ∈ W→PasR n r) (hi:i < W.length)
  (H:∀ nq v,EndZ 27 ctPs false (stOf (sC n W (pR (lnP n (wdC (W.take (i+1))))) n nq n (mx n (PLnk.lkN (wdC (W.take (i+1))))) v (i+1:Nat))) (res n W) [] 0):EndZ 27 ctPs false (stOf (sC n W (pR (lnP n (wdC (W.take i)))) n nq n (mx n (PLnk.lkN (wdC (W.take i)))) v i)) (res n W) [] 0:=by
 have hR:=hP W[i] (List.getElem_mem hi);refine .at ctPs_ok (stepC hi) ?_;have hX:=x_t n W (pR (lnP n (wdC (W.take i)))) n nq n (mx n (PLnk.lkN (wdC (W.take i)))) v i (kK W[i]) (kA W[i]) (kW W[i]);have hk:=hR.k;have h0:=hR.a0;have h1:=hR.a1;have hs:=hR.s;have et:W.take (i+1)=W.take i ++ [W[i]]:=List.take_succ_eq_append_getElem hi;have w2:IntKind.wrap IntKind.i64 ((n:Int) - 2)=(n:Int) - 2:=wrap_in _ (by omega) (by omega)
 rw [hk,show ((1:Int) != 1)=false from rfl,bc_f,df (show ¬ kA W[i] < 0 by omega),bc_f,w2,df (show ¬ (n:Int) - 2 < kA W[i] by omega),bc_f,df (show ¬ (16:Int) < Int.ofNat (kW W[i]).size by rw [ofn];omega),bc_f] at hX
 rcases hR.w with hC | ⟨hC,hb⟩
 ·have hC':((kW W[i]).toList == ByteArray.toList { data:=#[67,84,67] })=true:=hC;obtain ⟨j,hj⟩:=Int.eq_ofNat_of_zero_le h0;have hj2:j+1 < n:=by omega
  have hjj:(Int.ofNat j:Int)=(j:Int):=rfl;have hvt:Vld n (wdC (W.take i)):=wdC_vld fun r hr=>hP r (List.mem_of_mem_take hr);have hf:(lnP n (wdC (W.take i))).f=lnF (wdC (W.take i)) id:=lnP_f hvt (Pm.one n);have hlt:(wdC (W.take i)).length≤400:=by
   have:=wdC_len (W.take i);rw [List.length_take] at this;omega
  have hlk:∀ a b,-2000≤PLnk.lkN (wdC (W.take i)) a b∧PLnk.lkN (wdC (W.take i)) a b≤2000:=fun a b=>by
   have:=lk_bound (wdC (W.take i)) id a b;show -2000≤lk (wdC (W.take i)) id a b∧lk (wdC (W.take i)) id a b≤2000;omega
  have ew:wdC (W.take (i+1))=wdC (W.take i) ++ [((j+1:Nat):Int)]:=by
   rw [et,wdC_snoc,hC,if_pos rfl,hj];rfl
  have eP:lnP n (wdC (W.take (i+1)))=swP (lnP n (wdC (W.take i))) (j+1):=by rw [ew,lnP_app];rfl
  have eL:∀ a b,PLnk.lkN (wdC (W.take (i+1))) a b=PLnk.lkN (wdC (W.take i)) a b+(if a=(lnP n (wdC (W.take i))).f j∧b=(lnP n (wdC (W.take i))).f (j+1)∨a=(lnP n (wdC (W.take i))).f (j+1)∧b=(lnP n (wdC (W.take i))).f j then 1 else 0):=fun a b=>by
   show lk (wdC (W.take (i+1))) id a b=_;rw [ew,lk_snoc,hf];have:sgL ((j+1:Nat):Int)=1:=by unfold sgL;rw [if_neg (by omega)]
   rw [this];rfl
  generalize hp:lnP n (wdC (W.take i))=p at *;generalize hg:PLnk.lkN (wdC (W.take i))=f at *;have x1:=p.lt (show j < n by omega);have x2:=p.lt hj2;have hne:p.f j≠p.f (j+1):=fun e=>by have:=p.inj e;omega
  have e0:∀ x:Nat,Int.toNat (x:Int)=x:=fun _=>rfl;have wj:IntKind.wrap IntKind.i64 ((j:Int)+1)=((j+1:Nat):Int):=by rw [wrap_in _ (by omega) (by omega)];omega
  have hj:kA W[i]=(j:Int):=hj;rw [hj] at hX ⊢;rw [hk];rw [hC',e0,wj,e0,pR_get p (show j < n by omega),pR_get p hj2,pR_len] at hX;simp (disch:=omega) only [Nat.add_eq,eqSy_self,eqN_self,bc_same,List.length_cons,ofn,wrap_in,dt,df,bltD,bltN,ble_of,bleN,beqD,bc_t,bc_f,nn_ok,Nat.zero_add,to_nat,Int.zero_add,Int.sub_zero,Int.sub_self,Int.cast_ofNat_Int,Int.natCast_zero,Int.toNat_zero,List.take_zero,List.nil_append,List.length_append,List.length_nil] at hX;refine .at ctPs_ok hX ?_
  have hD:=d_t n W (pR p) n nq n (mx n f) v i 1 j (kW W[i]) (p.f j:Nat) (p.f (j+1):Nat);have l3:((pR p).set j (p.f (j+1):Int)).length=n:=by rw [List.length_set,pR_len]
  rw [e0,wj,e0,pR_len,l3,dt (rfl:(j:Int)=j)] at hD;simp (disch:=omega) only [Nat.add_eq,eqSy_self,eqN_self,bc_same,List.length_cons,ofn,wrap_in,dt,df,bltD,bltN,ble_of,bleN,beqD,bc_t,bc_f,nn_ok,Nat.zero_add,to_nat,Int.zero_add,Int.sub_zero,Int.sub_self,Int.cast_ofNat_Int,Int.natCast_zero,Int.toNat_zero,List.take_zero,List.nil_append,List.length_append,List.length_nil] at hD;have g0:((pR p).set j (p.f (j+1):Int)).set (j+1) (p.f j:Int)=pR (lnP n (wdC (W.take (i+1)))):=by
   rw [eP];unfold swP;rw [dif_pos ⟨by omega,hj2⟩,← pR_L p ⟨by omega,hj2⟩,Nat.add_sub_cancel]
  rw [g0] at hD;refine .at ctPs_ok hD ?_;refine .at ctPs_ok (stepE hn x1 x2 (by have:=hlk (p.f j) (p.f (j+1));omega)) ?_;have hyx:upd f (p.f j) (p.f (j+1)) (f (p.f j) (p.f (j+1))+1) (p.f (j+1)) (p.f j)=f (p.f (j+1)) (p.f j):=by
   unfold upd;rw [if_neg fun h=>hne h.2]
  refine .at ctPs_ok (stepF hn x1 x2 (by omega) (by rw [hyx];have:=hlk (p.f (j+1)) (p.f j);omega)) ?_;have g1:mx n (upd (upd f (p.f j) (p.f (j+1)) (f (p.f j) (p.f (j+1))+1)) (p.f (j+1)) (p.f j) (upd f (p.f j) (p.f (j+1)) (f (p.f j) (p.f (j+1))+1) (p.f (j+1)) (p.f j)+1))=mx n (PLnk.lkN (wdC (W.take (i+1)))):=by
   refine mx_congr fun a b=>?_;rw [eL,hyx];unfold upd
   by_cases c1:a=p.f (j+1)∧b=p.f j
   ·obtain ⟨rfl,rfl⟩:=c1;rw [if_pos ⟨rfl,rfl⟩,if_pos (.inr ⟨rfl,rfl⟩)]
   ·rw [if_neg c1]
    by_cases c2:a=p.f j∧b=p.f (j+1)
    ·obtain ⟨rfl,rfl⟩:=c2;rw [if_pos ⟨rfl,rfl⟩,if_pos (.inl ⟨rfl,rfl⟩)]
    ·rw [if_neg c2,if_neg fun h=>h.elim c2 c1,Int.add_zero]
  rw [g1];exact H nq v
 ·have hC':((kW W[i]).toList == ByteArray.toList { data:=#[67,84,67] })=false:=hC;have ew:wdC (W.take (i+1))=wdC (W.take i):=by
   rw [et,wdC_snoc,hC,if_neg (by simp),List.append_nil]
  rw [hC',bc_f] at hX;have hH:=H nq v;rw [ew] at hH;rw [hk];exact .at ctPs_ok hX (loopG hs (by omega) hb hH (kW W[i]).size 0 (by omega))
theorem loopC (hn:n≤24) (hW:W.length≤400) (hP:∀ r,r ∈ W→PasR n r):∀ (d i:Nat) (nq:Bool) (v:Nat),i+d=W.length→EndZ 27 ctPs false (stOf (sC n W (pR (lnP n (wdC (W.take i)))) n nq n (mx n (PLnk.lkN (wdC (W.take i)))) v i)) (res n W) [] 0
 | 0,i,nq,v,h=>by
  obtain rfl:i=W.length:=by omega
  rw [List.take_length];have c:=c_t n W (pR (lnP n (wdC W))) n nq n (mx n (PLnk.lkN (wdC W))) v W.length;rw [df (show ¬ (W.length:Int) < Int.ofNat W.length by rw [ofn];omega),bc_f,pR_len,mx_len] at c;simp (disch:=omega) only [Nat.add_eq,eqSy_self,eqN_self,bc_same,List.length_cons,ofn,wrap_in,dt,df,bltD,bltN,ble_of,bleN,beqD,bc_t,bc_f,nn_ok,Nat.zero_add,to_nat,Int.zero_add,Int.sub_zero,Int.sub_self,Int.cast_ofNat_Int,Int.natCast_zero,Int.toNat_zero,List.take_zero,List.nil_append,List.length_append,List.length_nil] at c;exact .done c
 | d+1,i,nq,v,h=>round hn hW hP (by omega) fun nq' v'=>loopC hn hW hP d (i+1) nq' v' (by omega)
theorem stepB {nq:Bool} {v i:Nat} (hi:i < n) (hn:n≤24):RUN (stOf (sB n W (RLin.rng i) nq i (List.replicate i [U.l (List.map (fun x=>[U.i x]) (zerosL n))]) v i)) = .at (sB n W (RLin.rng (i+1)) true (i+1) (List.replicate (i+1) [U.l (List.map (fun x=>[U.i x]) (zerosL n))]) 1 (i+1:Nat)):=by
 have b:=b_t n W (RLin.rng i) nq i (List.replicate i [U.l (List.map (fun x=>[U.i x]) (zerosL n))]) v i;have e0:Int.toNat (n:Int)=n:=rfl;have e:List.replicate i [U.l (List.map (fun x=>[U.i x]) (zerosL n))] ++ [[U.l (List.map (fun x=>[U.i x]) (zerosL n))]]=List.replicate (i+1) [U.l (List.map (fun x=>[U.i x]) (zerosL n))]:=(List.replicate_succ' (n:=i)).symm;have w1:bc nq true (Nat.blt 0 (List.length [(i:Int)]))=true:=by cases nq <;> rfl
 have w2:bc nq true (bc nq false true)=true:=by cases nq <;> rfl
 have w4:IntKind.wrap IntKind.i64 ((i:Int)+1)=((i+1:Nat):Int):=by rw [wrap_in _ (by omega) (by omega)];omega
 rw [onePs,e0,e,RLin.rng_succ,RLin.rng_len,w1,w2,w4,List.length_replicate,zeros_len] at b;simp (disch:=omega) only [Nat.add_eq,eqSy_self,eqN_self,bc_same,List.length_cons,ofn,wrap_in,dt,df,bltD,bltN,ble_of,bleN,beqD,bc_t,bc_f,nn_ok,Nat.zero_add,to_nat,Int.zero_add,Int.sub_zero,Int.sub_self,Int.cast_ofNat_Int,Int.natCast_zero,Int.toNat_zero,List.take_zero,List.nil_append,List.length_append,List.length_nil] at b;exact b
theorem loopB (hn:n≤24) (hW:W.length≤400) (hP:∀ r,r ∈ W→PasR n r):∀ (d i:Nat) (nq:Bool) (v:Nat),i+d=n→EndZ 27 ctPs false (stOf (sB n W (RLin.rng i) nq i (List.replicate i [U.l (List.map (fun x=>[U.i x]) (zerosL n))]) v i)) (res n W) [] 0
 | 0,i,nq,v,h=>by
  obtain rfl:i=n:=by omega
  have b:=b_t i W (RLin.rng i) nq i (List.replicate i [U.l (List.map (fun x=>[U.i x]) (zerosL i))]) v i;rw [df (show ¬ (i:Int) < (i:Int) by omega),bc_f,RLin.rng_len,RLnk.mx_zero] at b;have c:=loopC (n:=i) hn hW hP W.length 0 nq v (by omega);have e1:pR (lnP i (wdC (W.take 0)))=RLin.rng i:=rfl;have e2:mx i (PLnk.lkN (wdC (W.take 0)))=mx i fun _ _=>0:=rfl;rw [e1,e2] at c;rw [RLnk.mx_zero];exact .at ctPs_ok b c
 | d+1,i,nq,v,h=>.at ctPs_ok (stepB (by omega) hn) (loopB hn hW hP d (i+1) true 1 (by omega))
theorem ends {n:Int} {W:List (List U)} (h:PasOk n W):EndZ 27 ctPs false (st0 27 [.agg [iv n,wl W]]) (res n.toNat W) [] 0:=by
 obtain ⟨h1,h2,h3,h4⟩:=h;obtain ⟨n,rfl⟩:=Int.eq_ofNat_of_zero_le (show 0≤n by omega);have q:=in_t n W;rw [df (show ¬ (n:Int) < 0 by omega),bc_f,df (show ¬ (24:Int) < n by omega),bc_f,df (show ¬ (400:Int) < Int.ofNat W.length by rw [ofn];omega),bc_f] at q;refine .at ctPs_ok q ?_;have a:=a_t n W [] false 0;have e0:Int.toNat (n:Int)=n:=rfl;have w4:IntKind.wrap IntKind.i64 ((0:Int)+1)=((1:Nat):Int):=rfl;rw [onePs,e0,w4,zeros_len,dt (show (0:Int) < n by omega)] at a
 simp (disch:=omega) only [Nat.add_eq,eqSy_self,eqN_self,bc_same,List.length_cons,ofn,wrap_in,dt,df,bltD,bltN,ble_of,bleN,beqD,bc_t,bc_f,nn_ok,Nat.zero_add,to_nat,Int.zero_add,Int.sub_zero,Int.sub_self,Int.cast_ofNat_Int,Int.natCast_zero,Int.toNat_zero,List.take_zero,List.nil_append,List.length_append,List.length_nil] at a;exact .at ctPs_ok a (loopB (n:=n) (by omega) h3 h4 (n - 1) 1 true 1 (by omega))
end LPas
noncomputable def spPas:ZCT:=fun ax=>match ax with
 | [.agg [.v (.int .i64 n),.lst (.recs [.int .i64,.int .i64,.str] W)]]=>some ⟨decide (PasOk n W),LPas.res n.toNat W,[],0⟩
 | _=>none
theorem spPas_ok:ZCtOk Try.prog 27 spPas:=fun γ w us ax r hs hc hax hN hfz=>by
 unfold spPas at hs;split at hs
 case h_2=>cases hs
 rename_i n W;obtain ⟨rfl⟩:=Option.some.inj hs;have hc_0:decide (PasOk n W)=true:=hc;have hc:=of_decide_eq_true hc_0;exact EndZ.calls (LPas.ends hc) ctPs_ok (by kernel_rfl) hax hN hfz
end Go.Proofs.Ytfffbioafhppiaa.EvM
namespace Go.Proofs.Ytfffbioafhppiaa.EvM
open Go.Proofs Go.Proofs.Ytfffbioafhppiaa.Ev

namespace MSame
end MSame
noncomputable def catN (o s:ByteArray):Nat→ByteArray
 | 0=>o
 | k+1=>catN (o ++ s) s k
namespace MLet

end MLet
noncomputable def lets (s:ByteArray) (n:Int):ByteArray:=catN (ByteArray.mk #[]) s n.toNat
noncomputable abbrev bCTC:ByteArray:=ByteArray.mk #[67,84,67]
noncomputable def rowR (k:Int) (i:Nat):Nat→List (List U)
 | 0=>[]
 | m+1=>wk bCTC (k+i) :: rowR k (i+1) m
noncomputable def bodyR (n:Nat):Nat→List (List U)
 | 0=>[]
 | k+1=>rowR k 0 n ++ bodyR n k
namespace MBody

end MBody
noncomputable def bodyL (n:Int):List (List U):=bodyR n.toNat n.toNat
namespace MRPlait

end MRPlait

namespace MRPic
end MRPic
namespace MRWin
end MRWin
namespace MRSp

end MRSp
end Go.Proofs.Ytfffbioafhppiaa.EvM
namespace Go.Proofs.Ytfffbioafhppiaa.EvM
open Go.Proofs Go.Proofs.Ytfffbioafhppiaa.Ev
noncomputable abbrev bP:ByteArray:=ByteArray.mk #[80]
noncomputable abbrev bL:ByteArray:=ByteArray.mk #[76]
noncomputable abbrev bT:ByteArray:=ByteArray.mk #[84]
noncomputable def picW (n:Int):ByteArray:=lets bL n ++ bP ++ lets bL n
noncomputable def picL (n:Int):List (List U):=bc (decide (n < 1)) [] (bc (decide (7 < n)) [] [wk (picW n) 0])
noncomputable def picP (n:Int):Int:=bc (decide (n < 1)) 0 (bc (decide (7 < n)) 0 2)
noncomputable def picE (n:Int):Int:=bc (decide (n < 1)) 7 (bc (decide (7 < n)) 7 0)
noncomputable def spPic:ZCT:=fun ax=>match ax with
 | [.v (.int .i64 n)]=>some ⟨true,shE (picP n) (picL n) (picE n),[],0⟩
 | _=>none
noncomputable def winL:List (List U):=[wk bCTC 1,wk bCTC 0,wk bCTC 2,wk bP 1,wk bCTC 1]
noncomputable def spWin:ZCT:=fun ax=>match ax with
 | []=>some ⟨true,.agg [iv 4,wl winL],[],0⟩
 | _=>none

noncomputable def twR (t:Int) (i:Nat):Nat→List (List U)
 | 0=>[]
 | m+1=>wk (lets bT t) (2 * (i:Int)) :: twR t (i+1) m
noncomputable def tws (n t:Int):List (List U):=bc (decide (0 < t)) (twR t 0 n.toNat) []
noncomputable def spiL (n:Int) (q:List (List U)):List (List U):=q ++ bodyL n ++ [wk bP (n - 1)] ++ bodyL n ++ q
namespace MRSp
end MRSp
noncomputable def spiOk (n t:Int):Bool:=bc (decide (n < 1)) false (bc (decide (6 < n)) false (bc (decide (t < 0)) false (bc (decide (16 < t)) false true)))
noncomputable def spSpi:ZCT:=fun ax=>match ax with
 | [.v (.int .i64 n),.v (.int .i64 t)]=>some ⟨true,shE (bc (spiOk n t) (2 * n) 0) (bc (spiOk n t) (spiL n (tws n t)) []) (bc (spiOk n t) 0 7),[],0⟩
 | _=>none

noncomputable abbrev bRP:ByteArray:=ByteArray.mk #[82,80]
noncomputable abbrev bLLP:ByteArray:=ByteArray.mk #[76,76,80]
noncomputable def upR (i:Nat):Nat→List (List U)
 | 0=>[]
 | m+1=>wk bCTC (i:Int) :: upR (i+1) m
noncomputable def downR:Nat→List (List U)
 | 0=>[]
 | j+1=>wk bCTC (j:Int) :: downR j
theorem upR_len:∀ (m i:Nat),(upR i m).length=m
 | 0,_=>rfl
 | m+1,i=>by unfold upR;simp [upR_len m]
theorem downR_len:∀ (j:Nat),(downR j).length=j
 | 0=>rfl
 | j+1=>by unfold downR;simp [downR_len j]
noncomputable def thereL (w:ByteArray) (k:Nat):List (List U):=upR 0 k ++ [wk w ((k:Int) - 1)] ++ downR k
def kk (n r:Nat):Nat:=if 2 * n - r < r then 2 * n - r else r
noncomputable def fanR (n r:Nat):Nat→List (List U)
 | 0=>[]
 | m+1=>thereL bRP (kk n r) ++ fanR n (r+1) m
namespace MRFan

end MRFan
noncomputable def fanL (n:Int):List (List U):=bc (decide (n < 1)) [] (bc (decide (12 < n)) [] (fanR n.toNat 1 (2 * n.toNat - 1)))
noncomputable def fanP (n:Int):Int:=bc (decide (n < 1)) 0 (bc (decide (12 < n)) 0 (n+1))
noncomputable def fanE (n:Int):Int:=bc (decide (n < 1)) 7 (bc (decide (12 < n)) 7 0)
noncomputable def footL1 (n:Nat):List (List U):=downR n ++ [wk bLLP 0] ++ upR 0 n
noncomputable def footR (n:Nat):Nat→List (List U)
 | 0=>[]
 | m+1=>footL1 n ++ footR n m
namespace MRFoot

end MRFoot
noncomputable def footE (n m:Int):Int:=bc (decide (n < 1)) 7 (bc (decide (23 < n)) 7 (bc (decide (m < 1)) 7 (bc (decide (Int.tdiv 400 (2 * n+1) < m)) 3 0)))
noncomputable def footP (n m:Int):Int:=bc (footE n m == 0) (n+1) 0
noncomputable def footL (n m:Int):List (List U):=bc (footE n m == 0) (footR n.toNat m.toNat) []
end Go.Proofs.Ytfffbioafhppiaa.EvM
namespace Go.Proofs.Ytfffbioafhppiaa.Ev
open Go.RowKit
variable {P:Program} {γ γ':G} {w0:Bs} {w w':World} {H H':Tr EK} {n n':Nat}


theorem HR.below (h:HR γ w0 H n w) (b:Below w.heap.size w w'):HR γ w0 H n w':=by
 refine ⟨fun i k hk=>?_,h.inj0,h.fresh,h.rsv,fun i p e=>Nat.lt_of_lt_of_le (h.lt i p e) b.size,?_,h.fzq rfl (fun k hk _=>b.block k hk) (fun i ki b m hi ni ei=>.inr ⟨i,ki,b,m,hi,ni,ei,rfl⟩) fun _ _ hk _=>hk⟩
 ·refine (h.hp0 i k hk).imp id fun ⟨c,m,h1,h2,h3⟩=>?_;exact ⟨c,m,h1,h2,EK.ok_mono (GLe.refl γ) (b.block c.k (h.lt i _ h1)) h3⟩
 ·refine ⟨b.os.trans h.stays.os,b.tape.trans h.stays.tape,b.output.trans h.stays.output,Nat.le_trans h.stays.size b.size,fun k hk=>?_⟩;have h1:=w0.lt k hk;have h2:=h.stays.size;exact (b.block k (by omega)).trans (h.stays.block k hk)
noncomputable def ctRepeat:CT:=fun args H n=>match args with
 | [.v (.string s),.v (.int .i64 (.ofNat c))]=>bc (Nat.ble c 65536) (bc (Nat.ble s.size 65536) (some (.v (.string ⟨(Lib.repeatL s.data.toList c).toArray⟩),H,n)) none) none
 | _=>none
theorem ctRepeat_ok {f:FuncId} (h:∀ (s:ByteArray) (c:Nat) (w:World),c≤9223372036854775807→s.size * c≤140737488355328→Calls P f #[.string s,.int .i64 c] w fun e w'=>e = .returned (.string ⟨(Lib.repeatL s.data.toList c).toArray⟩)∧Below w.heap.size w w'):CtOk P f ctRepeat:=by
 intro γ w0 H n w args us a H' n' hH hc hr;unfold ctRepeat at hr;split at hr
 case h_2=>cases hr
 rename_i s c;rw [bc_eq,bc_eq] at hr;split at hr
 case isFalse=>cases hr
 rename_i h1;split at hr
 case isFalse=>cases hr
 rename_i h2;simp only [Option.some.injEq,Prod.mk.injEq] at hr;obtain ⟨rfl,rfl,rfl⟩:=hr;have h1:=Nat.le_of_ble_eq_true h1;have h2:=Nat.le_of_ble_eq_true h2;obtain ⟨x,r1,e1,hx,hc1⟩:=ECL.inv hc;obtain ⟨y,r2,e2,hy,hc2⟩:=ECL.inv hc1;have e3:r2=[]:=by apply List.eq_nil_of_length_eq_zero;have:=hc2.1;simpa using this.symm
 have hx:=ec_v hx;have hy:=ec_v hy;subst hx;subst hy;subst e3;subst e2;have eu:us = #[.string s,.int .i64 (c:Int)]:=by apply Array.ext';simpa using e1
 rw [eu];refine (h s c w (by omega) (by have:=Nat.mul_le_mul h2 h1;omega)).mono ?_
 rintro e w' ⟨rfl,hb⟩
 exact ⟨γ,_,GLe.refl γ,hH.below hb,.v _,rfl⟩
noncomputable def strOf (a:EV):Option ByteArray:=match a with
 | .v (.string s)=>some s
 | _=>none

noncomputable def strsOf (cs:List EV):Option (List ByteArray):=List.rec (some []) (fun a _ ih=>match strOf a with
 | some s=>match ih with
  | some l=>some (s :: l)
  | none=>none
 | none=>none) cs
theorem strsOf_eq:∀ {cs:List EV} {l:List ByteArray},strsOf cs=some l→cs=l.map fun s=>.v (.string s)
 | [],l,h=>by simp [strsOf] at h;subst h;rfl
 | a :: cs,l,h=>by
  have h':(match strOf a with
   | some s=>match strsOf cs with
    | some l=>some (s :: l)
    | none=>none
   | none=>none)=some l:=h
  split at h'
  case h_2=>cases h'
  rename_i s hs;split at h'
  case h_2=>cases h'
  rename_i l' hl;injection h' with h';subst h'
  unfold strOf at hs;split at hs
  case h_2=>cases hs
  injection hs with hs;subst hs
  rw [strsOf_eq hl];rfl
noncomputable def ctJoin:CT:=fun args H n=>match args with
 | [.v (.slice none 0 0),.v (.string _)]=>some (.v (.string ⟨#[]⟩),H,n)
 | [.sl i _ off len _,.v (.string sep)]=>match H.get i with
  | some (.cells _ cs _)=>match strsOf ((cs.drop off).take len) with
   | some xs=>bc (Nat.beq (llen xs) len) (bc (Nat.ble (llen (Lib.join (xs.map (·.data.toList)) sep.data.toList)) 65536) (bc (Nat.ble len 65536) (some (.v (.string ⟨(Lib.join (xs.map (·.data.toList)) sep.data.toList).toArray⟩),H,n)) none) none) none
   | none=>none
  | _=>none
 | _=>none
theorem ctJoin_ok {f:FuncId} (h0:∀ (a:Option Addr) (c:Nat) (sep:ByteArray) (w:World),Calls P f #[.slice a 0 c,.string sep] w fun e w'=>e = .returned (.string ⟨#[]⟩)∧w'=w)
  (h:∀ (bk o c:Nat) (xs:List ByteArray) (sep:ByteArray) (w:World),(∀ (j:Nat) x,xs[j]? = some x→w.cell? ⟨bk,o+j,none⟩=some (.string x))→bk < w.heap.size→xs.length≤140737488355328→xs.length≤c→(Lib.join (xs.map (·.data.toList)) sep.data.toList).length≤140737488355328 →
   Calls P f #[.slice (some ⟨bk,o,none⟩) xs.length c,.string sep] w fun e w'=>e = .returned (.string ⟨(Lib.join (xs.map (·.data.toList)) sep.data.toList).toArray⟩)∧Below w.heap.size w w'):CtOk P f ctJoin:=by
 intro γ w0 H n w args us a H' n' hH hc hr;unfold ctJoin at hr;split at hr
 ·simp only [Option.some.injEq,Prod.mk.injEq] at hr;obtain ⟨rfl,rfl,rfl⟩:=hr;obtain ⟨x,r1,e1,hx,hc1⟩:=ECL.inv hc;obtain ⟨y,r2,e2,hy,hc2⟩:=ECL.inv hc1;have e3:r2=[]:=by apply List.eq_nil_of_length_eq_zero;have:=hc2.1;simpa using this.symm
  have hx:=ec_v hx;have hy:=ec_v hy;subst hx;subst hy;subst e3;subst e2;rename_i sep;have eu:us = #[.slice none 0 0,.string sep]:=by apply Array.ext';simpa using e1
  rw [eu];refine (h0 none 0 sep w).mono ?_
  rintro e w' ⟨rfl,rfl⟩
  exact ⟨γ,_,GLe.refl γ,hH,.v _,rfl⟩
 ·rename_i i z off len cap sep;split at hr
  case h_2=>cases hr
  rename_i ty cs full hg;split at hr
  case h_2=>cases hr
  rename_i xs hxs;rw [bc_eq,bc_eq,bc_eq] at hr;split at hr
  case isFalse=>cases hr
  rename_i hl1;split at hr
  case isFalse=>cases hr
  rename_i hl2;split at hr
  case isFalse=>cases hr
  rename_i hl3;simp only [Option.some.injEq,Prod.mk.injEq] at hr;obtain ⟨rfl,rfl,rfl⟩:=hr;have hl1:=Nat.eq_of_beq_eq_true hl1;have hl2:=Nat.le_of_ble_eq_true hl2;have hl3:=Nat.le_of_ble_eq_true hl3;rw [llen_eq] at hl1 hl2;obtain ⟨x,r1,e1,hx,hc1⟩:=ECL.inv hc;obtain ⟨y,r2,e2,hy,hc2⟩:=ECL.inv hc1;have e3:r2=[]:=by apply List.eq_nil_of_length_eq_zero;have:=hc2.1;simpa using this.symm
  have hy:=ec_v hy
  cases hx with
  | sl _ _ _ _ _ b m c hγ hle hm hn hcc hu=>
  subst hy;subst e3;subst e2;have eu:us = #[.slice (some (b.at off)) len c,.string sep]:=by apply Array.ext';simpa using e1
  obtain ⟨b2,m2,g1,g2,ca,g3,g4,g5,_,g6⟩:=hH.hp i _ hg;rw [hγ] at g1;simp only [Option.some.injEq,Prod.mk.injEq] at g1;obtain ⟨rfl,rfl⟩:=g1;have hbk:b.k < w.heap.size:=hH.lt i _ hγ;rw [eu,← hl1];refine (h b.k (b.s+off) c xs sep w (fun j x hj=>?_) hbk (by omega) (by omega) (by omega)).mono ?_
  ·have hcs:=strsOf_eq hxs;have h1:((cs.drop off).take len)[j]? = some (.v (.string x)):=by rw [hcs,List.getElem?_map,hj];rfl
   rw [List.getElem?_take] at h1;split at h1
   case isFalse=>cases h1
   rw [List.getElem?_drop] at h1;obtain ⟨u,hu1,hu2⟩:=g6.at h1;rw [List.getElem?_take] at hu1;split at hu1
   case isFalse=>cases hu1
   rw [List.getElem?_drop] at hu1;have hu2:=ec_v hu2;subst hu2;have e4:b.s+off+j=b.s+(off+j):=by omega
   have:=(cell_of (off:=off+j) g3).1;unfold Pl.at at this;rw [e4,this];simpa using hu1
  ·rintro e w' ⟨rfl,hb⟩
   exact ⟨γ,_,GLe.refl γ,hH.below hb,.v _,rfl⟩
 ·cases hr
end Go.Proofs.Ytfffbioafhppiaa.Ev
namespace Go.Proofs.Ytfffbioafhppiaa.Ev
open Go.RowKit
variable {P:Program} {γ γ':G} {w0:Bs} {w w':World} {H H':Tr EK} {n n':Nat}
theorem HR.start (hN:∀ i,γ i=none) (hfz:FzAt γ w):HR γ (Bs.ofG w γ) .nil 0 w:=
 ⟨(fun i k hk=>by cases hk),(fun i j ki kj hi=>by cases hi),(fun i _=>hN i),(fun i hi=>hi.elim),(fun i p hp=>by rw [hN i] at hp;cases hp),⟨rfl,rfl,rfl,Nat.le_refl _,fun _ _=>rfl⟩,FZ.init hfz⟩
theorem UOk.list_cases {fz:Nat→Option (Array Value)} {sh:List Sh} {u:U} {x:Value} (h:UOk fz (.list sh) u x):(∃ a c,u.list=[]∧x = .slice a 0 c)∨∃ k off c,x = .slice (some ⟨k,off,none⟩) u.list.length c∧u.list.length≤c∧c≤maxLen∧∃ arr,fz k=some arr:=by
 cases h with
 | empty _ _ a c hl hc hn=>exact .inl ⟨a,c,hl,rfl⟩
 | list _ _ k off c arr hk hl hc hs hh=>exact .inr ⟨k,off,c,rfl,hl,hc,arr,hk⟩

noncomputable def zrep (s:ByteArray) (k:Nat):ByteArray:=⟨(Lib.repeatL s.data.toList k).toArray⟩
noncomputable def zjoin (l:List ByteArray) (sep:ByteArray):ByteArray:=⟨(Lib.join (l.map (·.data.toList)) sep.data.toList).toArray⟩
noncomputable def spRepeat:ZCT:=fun ax=>match ax with
 | [.v (.string s),.v (.int .i64 n)]=>some ⟨bc (decide (0≤n)) (bc (decide (n≤65536)) (Nat.ble s.size 65536) false) false,.v (.string (zrep s n.toNat)),[],0⟩
 | _=>none
theorem spRepeat_ok {f:FuncId} (h:∀ (s:ByteArray) (c:Nat) (w:World),c≤9223372036854775807→s.size * c≤140737488355328→Calls P f #[.string s,.int .i64 c] w fun e w'=>e = .returned (.string ⟨(Lib.repeatL s.data.toList c).toArray⟩)∧Below w.heap.size w w'):ZCtOk P f spRepeat:=fun γ w us ax r hs hc hax hN hfz=>by
 unfold spRepeat at hs;split at hs
 case h_2=>cases hs
 rename_i s n;obtain ⟨rfl⟩:=Option.some.inj hs;obtain ⟨h1,hc⟩:=bcT (show bc (decide (0≤n)) (bc (decide (n≤65536)) (Nat.ble s.size 65536) false) false=true from hc)
 obtain ⟨h2,h3⟩:=bcT hc;have h1:=of_decide_eq_true h1;have h2:=of_decide_eq_true h2;have h3:=Nat.le_of_ble_eq_true h3;obtain ⟨x,r1,e1,hx,hc1⟩:=ECL.inv hax;obtain ⟨y,r2,e2,hy,hc2⟩:=ECL.inv hc1;have e3:r2=[]:=by apply List.eq_nil_of_length_eq_zero;have:=hc2.1;simpa using this.symm
 have hx:=ec_v hx;have hy:=ec_v hy;subst hx;subst hy;subst e3;subst e2;obtain ⟨c,rfl⟩:∃ c:Nat,n=(c:Int):=⟨n.toNat,by omega⟩;have eu:us = #[.string s,.int .i64 (c:Int)]:=by apply Array.ext';simpa using e1
 rw [eu];refine (h s c w (by omega) (by have:=Nat.mul_le_mul h3 (show c≤65536 by omega);omega)).mono ?_
 rintro e w' ⟨rfl,hb⟩
 exact ⟨γ,_,rfl,.v _,(HR.start hN hfz).below hb⟩
noncomputable def spJoin:ZCT:=fun ax=>match ax with
 | [.lst (.strs l),.v (.string sep)]=>some ⟨bc (Nat.ble l.length 65536) (Nat.ble (Lib.join (l.map (·.data.toList)) sep.data.toList).length 65536) false,.v (.string (zjoin l sep)),[],0⟩
 | _=>none
theorem spJoin_ok {f:FuncId} (h0:∀ (a:Option Addr) (c:Nat) (sep:ByteArray) (w:World),Calls P f #[.slice a 0 c,.string sep] w fun e w'=>e = .returned (.string ⟨#[]⟩)∧w'=w)
  (h:∀ (bk o c:Nat) (xs:List ByteArray) (sep:ByteArray) (w:World),(∀ (j:Nat) x,xs[j]? = some x→w.cell? ⟨bk,o+j,none⟩=some (.string x))→bk < w.heap.size→xs.length≤140737488355328→xs.length≤c→(Lib.join (xs.map (·.data.toList)) sep.data.toList).length≤140737488355328 →
   Calls P f #[.slice (some ⟨bk,o,none⟩) xs.length c,.string sep] w fun e w'=>e = .returned (.string ⟨(Lib.join (xs.map (·.data.toList)) sep.data.toList).toArray⟩)∧Below w.heap.size w w'):ZCtOk P f spJoin:=fun γ w us ax r hs hc hax hN hfz=>by
 unfold spJoin at hs;split at hs
 case h_2=>cases hs
 rename_i l sep;obtain ⟨rfl⟩:=Option.some.inj hs;obtain ⟨h1,h2⟩:=bcT (show bc (Nat.ble l.length 65536) (Nat.ble (Lib.join (l.map (·.data.toList)) sep.data.toList).length 65536) false=true from hc)
 have h1:=Nat.le_of_ble_eq_true h1;have h2:=Nat.le_of_ble_eq_true h2;obtain ⟨x,r1,e1,hx,hc1⟩:=ECL.inv hax;obtain ⟨y,r2,e2,hy,hc2⟩:=ECL.inv hc1;have e3:r2=[]:=by apply List.eq_nil_of_length_eq_zero;have:=hc2.1;simpa using this.symm
 have hy:=ec_v hy;subst hy;subst e3;subst e2;have eu:us = #[x,.string sep]:=by apply Array.ext';simpa using e1
 rw [eu]
 cases hx with
 | lst _ _ hu=>
  have hlen:(SyC.strs l).rows.length=l.length:=by simp [SyC.rows]
  have hget:∀ (fz:Nat→Option (Array Value)) (k off c j:Nat),γ.fz=fz→UOk fz (.list (SyC.strs l).sh) (.l (SyC.strs l).rows) (.slice (some ⟨k,off,none⟩) (SyC.strs l).rows.length c)→∀ s,l[j]? = some s→∃ arr,fz k=some arr∧arr[off+j]? = some (.string s):=fun fz k off c j _ hu s hs=>by
   have hj:j < (SyC.strs l).rows.length:=by rw [hlen];exact (List.getElem?_eq_some_iff.1 hs).1
   obtain ⟨arr,y,q1,q2,q3⟩:=UOk.get (f:=0) (s:=.str) hu (show j < (U.list (.l (SyC.strs l).rows)).length from hj) rfl;have q2:arr[off+(j * 1+0)]? = some y:=q2;rw [show off+(j * 1+0)=off+j by omega] at q2;refine ⟨arr,q1,?_⟩;rw [q2];have e:(((U.list (.l (SyC.strs l).rows)).getD j []).getD 0 (.i 0)).str=s:=by
    show (((SyC.strs l).rows.getD j []).getD 0 (.i 0)).str=s;simp [SyC.rows,List.getD_eq_getElem?_getD,hs];rfl
   cases q3 with
   | str=>rw [e]
  rcases UOk.list_cases hu with ⟨a,c,hl,rfl⟩ | ⟨k,off,c,rfl,hlc,hcm,arr,hk⟩
  ·have:l=[]:=List.eq_nil_of_length_eq_zero (by rw [← hlen];exact congrArg List.length hl);subst this;refine (h0 a c sep w).mono ?_
   rintro e w' ⟨rfl,rfl⟩
   exact ⟨γ,_,rfl,.v _,HR.start hN hfz⟩
  ·have hle:(U.l (SyC.strs l).rows).list.length=l.length:=hlen;obtain ⟨ty,fz,hb⟩:=hfz k arr hk;have hkl:k < w.heap.size:=(Array.getElem?_eq_some_iff.1 hb).1;have hcells:∀ (j:Nat) s,l[j]? = some s→w.cell? ⟨k,off+j,none⟩=some (.string s):=fun j s hs=>by
    obtain ⟨arr2,q1,q2⟩:=hget γ.fz k off c j rfl hu s hs;rw [hk] at q1;injection q1 with q1;subst q1;simp [World.cell?,hb,q2]
   rw [hle] at hlc;have:=h k off c l sep w hcells hkl (by omega) hlc (by omega);rw [← hle] at this;refine this.mono ?_
   rintro e w' ⟨rfl,hbw⟩
   exact ⟨γ,_,rfl,.v _,(HR.start hN hfz).below hbw⟩
end Go.Proofs.Ytfffbioafhppiaa.Ev
namespace Go.Proofs
open Go.Shelf
def Try.lays156_ren:Go.Shelf.Ren:=⟨fun | 156=>125 | 165=>120 | 166=>121 | 169=>123 | 240=>144 | 241=>145 | 276=>165 | 277=>166 | n=>n,fun | 31=>108 | 9=>9 | 3=>3 | 4=>4 | 0=>0 | 20=>20 | 72=>132 | 76=>136 | 70=>130 | 37=>25 | 75=>135 | 127=>164 | 164=>176 | 5=>5 | 80=>139 | n=>n,fun | n=>n⟩
theorem Try.lays156:Go.Proofs.Lays.n156 Try.prog Try.lays156_ren:={
 mixed:=by kernel_rfl
 f156:=Try.func125.trans (congrArg some (by kernel_rfl))
 f165:=Try.func120.trans (congrArg some (by kernel_rfl))
 f166:=Try.func121.trans (congrArg some (by kernel_rfl))
 f169:=Try.func123.trans (congrArg some (by kernel_rfl))
 f240:=Try.func144.trans (congrArg some (by kernel_rfl))
 f241:=Try.func145.trans (congrArg some (by kernel_rfl))
 f276:=Try.func165.trans (congrArg some (by kernel_rfl))
 f277:=Try.func166.trans (congrArg some (by kernel_rfl))
 t0:=Try.underlying0
 a0:=Try.isAgg0
 z0:=Try.sizeOf0
 v0:=Try.zeroValue0
 t3:=Try.underlying3
 a3:=Try.isAgg3
 z3:=Try.sizeOf3
 v3:=Try.zeroValue3
 t4:=Try.underlying4
 a4:=Try.isAgg4
 z4:=Try.sizeOf4
 v4:=Try.zeroValue4
 t9:=Try.underlying9
 a9:=Try.isAgg9
 z9:=Try.sizeOf9
 v9:=Try.zeroValue9
 t20:=Try.underlying20
 a20:=Try.isAgg20
 z20:=Try.sizeOf20
 v20:=Try.zeroValue20
 t31:=Try.underlying108
 a31:=Try.isAgg108
 z31:=Try.sizeOf108
 v31:=Try.zeroValue108
 t37:=Try.underlying25
 a37:=Try.isAgg25
 z37:=Try.sizeOf25
 v37:=Try.zeroValue25
 t70:=Try.underlying130
 a70:=Try.isAgg130
 z70:=Try.sizeOf130
 v70:=Try.zeroValue130
 t72:=Try.underlying132
 a72:=Try.isAgg132
 z72:=Try.sizeOf132
 v72:=Try.zeroValue132
 t75:=Try.underlying135
 a75:=Try.isAgg135
 z75:=Try.sizeOf135
 v75:=Try.zeroValue135
 t76:=Try.underlying136
 a76:=Try.isAgg136
 z76:=Try.sizeOf136
 v76:=Try.zeroValue136
 t127:=Try.underlying164
 a127:=Try.isAgg164
 z127:=Try.sizeOf164
 v127:=Try.zeroValue164
 t164:=Try.underlying176
 a164:=Try.isAgg176
 z164:=Try.sizeOf176
 v164:=Try.zeroValue176 }
theorem Try.Builder_Extra_156:Builder.Extra Try.prog Try.lays156_ren:={
 sizeBuilder:=by kernel_rfl
 liesBuilder:=by kernel_rfl
 t5:=Try.underlying5
 a5:=Try.isAgg5
 z5:=Try.sizeOf5
 v5:=Try.zeroValue5
 infoByte:=by kernel_rfl
 cellsByte:=by kernel_rfl
 sizeByte:=by kernel_rfl
 neB5:=by decide }
open Go.RowKit in
theorem Try.strings_Join_none (a:Option Addr) (c:Nat) (sep:ByteArray) (w:World) :
  Calls Try.prog 125 #[.slice a 0 c,.string sep] w fun e w'=>e = .returned (.string ⟨#[]⟩)∧w'=w:=Any.strings_Join_none Try.lays156 Try.Builder_Extra_156 a c sep w
open Go.RowKit in
theorem Try.strings_Join (bk o c:Nat) (xs:List ByteArray) (sep:ByteArray) (w:World) (hcells:∀ (j:Nat) x,xs[j]? = some x→w.cell? ⟨bk,o+j,none⟩=some (.string x)) (hbk:bk < w.heap.size) (hN:xs.length≤140737488355328) (hcap:xs.length≤c) (hlen:(Lib.join (xs.map (·.data.toList)) sep.data.toList).length≤140737488355328) :
  Calls Try.prog 125 #[.slice (some ⟨bk,o,none⟩) xs.length c,.string sep] w fun e w'=>e = .returned (.string ⟨(Lib.join (xs.map (·.data.toList)) sep.data.toList).toArray⟩)∧Below w.heap.size w w':=Any.strings_Join Try.lays156 Try.Builder_Extra_156 bk o c xs sep w hcells hbk hN hcap hlen
def Try.lays105_ren:Go.Shelf.Ren:=⟨fun | 105=>71 | 212=>118 | 99=>119 | 165=>120 | 166=>121 | 170=>122 | 169=>123 | 263=>141 | 264=>142 | 206=>143 | 240=>144 | 241=>145 | 276=>165 | 277=>166 | n=>n,fun | 9=>9 | 3=>3 | 4=>4 | 20=>20 | 0=>0 | 46=>126 | 109=>127 | 5=>5 | 72=>132 | 76=>136 | 51=>158 | 146=>159 | 53=>161 | 148=>162 | 70=>130 | 37=>25 | 75=>135 | 127=>164 | 164=>176 | 80=>139 | n=>n,fun | n=>n⟩
theorem Try.lays105:Go.Proofs.Lays.n105 Try.prog Try.lays105_ren:={
 mixed:=by kernel_rfl
 f99:=Try.func119.trans (congrArg some (by kernel_rfl))
 f105:=Try.func71.trans (congrArg some (by kernel_rfl))
 f165:=Try.func120.trans (congrArg some (by kernel_rfl))
 f166:=Try.func121.trans (congrArg some (by kernel_rfl))
 f169:=Try.func123.trans (congrArg some (by kernel_rfl))
 f170:=Try.func122.trans (congrArg some (by kernel_rfl))
 f206:=Try.func143.trans (congrArg some (by kernel_rfl))
 f212:=Try.func118.trans (congrArg some (by kernel_rfl))
 f240:=Try.func144.trans (congrArg some (by kernel_rfl))
 f241:=Try.func145.trans (congrArg some (by kernel_rfl))
 f263:=Try.func141.trans (congrArg some (by kernel_rfl))
 f264:=Try.func142.trans (congrArg some (by kernel_rfl))
 f276:=Try.func165.trans (congrArg some (by kernel_rfl))
 f277:=Try.func166.trans (congrArg some (by kernel_rfl))
 t0:=Try.underlying0
 a0:=Try.isAgg0
 z0:=Try.sizeOf0
 v0:=Try.zeroValue0
 t3:=Try.underlying3
 a3:=Try.isAgg3
 z3:=Try.sizeOf3
 v3:=Try.zeroValue3
 t4:=Try.underlying4
 a4:=Try.isAgg4
 z4:=Try.sizeOf4
 v4:=Try.zeroValue4
 t5:=Try.underlying5
 a5:=Try.isAgg5
 z5:=Try.sizeOf5
 v5:=Try.zeroValue5
 t9:=Try.underlying9
 a9:=Try.isAgg9
 z9:=Try.sizeOf9
 v9:=Try.zeroValue9
 t20:=Try.underlying20
 a20:=Try.isAgg20
 z20:=Try.sizeOf20
 v20:=Try.zeroValue20
 t37:=Try.underlying25
 a37:=Try.isAgg25
 z37:=Try.sizeOf25
 v37:=Try.zeroValue25
 t46:=Try.underlying126
 a46:=Try.isAgg126
 z46:=Try.sizeOf126
 v46:=Try.zeroValue126
 t51:=Try.underlying158
 a51:=Try.isAgg158
 z51:=Try.sizeOf158
 v51:=Try.zeroValue158
 t53:=Try.underlying161
 a53:=Try.isAgg161
 z53:=Try.sizeOf161
 v53:=Try.zeroValue161
 t70:=Try.underlying130
 a70:=Try.isAgg130
 z70:=Try.sizeOf130
 v70:=Try.zeroValue130
 t72:=Try.underlying132
 a72:=Try.isAgg132
 z72:=Try.sizeOf132
 v72:=Try.zeroValue132
 t75:=Try.underlying135
 a75:=Try.isAgg135
 z75:=Try.sizeOf135
 v75:=Try.zeroValue135
 t76:=Try.underlying136
 a76:=Try.isAgg136
 z76:=Try.sizeOf136
 v76:=Try.zeroValue136
 t109:=Try.underlying127
 a109:=Try.isAgg127
 z109:=Try.sizeOf127
 v109:=Try.zeroValue127
 t127:=Try.underlying164
 a127:=Try.isAgg164
 z127:=Try.sizeOf164
 v127:=Try.zeroValue164
 t146:=Try.underlying159
 a146:=Try.isAgg159
 z146:=Try.sizeOf159
 v146:=Try.zeroValue159
 t148:=Try.underlying162
 a148:=Try.isAgg162
 z148:=Try.sizeOf162
 v148:=Try.zeroValue162
 t164:=Try.underlying176
 a164:=Try.isAgg176
 z164:=Try.sizeOf176
 v164:=Try.zeroValue176 }
theorem Try.Builder_Extra_105:Builder.Extra Try.prog Try.lays105_ren:={
 sizeBuilder:=by kernel_rfl
 liesBuilder:=by kernel_rfl
 t5:=Try.underlying5
 a5:=Try.isAgg5
 z5:=Try.sizeOf5
 v5:=Try.zeroValue5
 infoByte:=by kernel_rfl
 cellsByte:=by kernel_rfl
 sizeByte:=by kernel_rfl
 neB5:=by decide }
open Go.RowKit Go.Lib in
theorem Try.strings_Repeat (s:ByteArray) (c:Nat) (w:World) (hc:c≤9223372036854775807) (hlen:s.size * c≤140737488355328) :
  Calls Try.prog 71 #[.string s,.int .i64 c] w fun e w'=>e = .returned (.string ⟨(Lib.repeatL s.data.toList c).toArray⟩)∧Below w.heap.size w w':=Any.strings_Repeat Try.lays105 Try.Builder_Extra_105 s c w hc hlen
end Go.Proofs
namespace Go.Proofs.Ytfffbioafhppiaa.EvM
open Go.Proofs Go.Proofs.Ytfffbioafhppiaa.Ev
theorem spRep_ok:ZCtOk Try.prog 71 spRepeat:=spRepeat_ok Try.strings_Repeat
theorem spJo_ok:ZCtOk Try.prog 125 spJoin:=spJoin_ok Try.strings_Join_none Try.strings_Join

noncomputable def upI (a:Int):Nat→List Int
 | 0=>[]
 | k+1=>(a+1) :: upI (a+1) k
noncomputable def dnI (a:Int):Nat→List Int
 | 0=>[]
 | k+1=>(a - 1) :: dnI (a - 1) k
noncomputable def wayL (a b:Int):List Int:=a :: bc (decide (a < b)) (upI a (b - a).toNat) (dnI a (a - b).toNat)
namespace MWay
noncomputable def RUN (s:ES):ZF:=RZ 73 .nil (atS 0 73 3) [] [[(1,none),(5,none),(6,none)]] false s

noncomputable def sD (n:Int) (i:Int) (q:List Int):NS:=⟨[⟨73,25,[(1,(EV.v (Value.int IntKind.i64 (n)))),(5,EV.slO 0 1 q.length true),(6,iv i)],[.it (.code (nav [1,1,0,1,0,0,0] (bodyOf Try.f73))),.it (.code (nav [1,1,0,1,0,0,1] (bodyOf Try.f73))),.it (.inLoop (nav [1,1,0,1,0,0] (bodyOf Try.f73))),.it (.inBlock 0),.it (.code (nav [1,1,1] (bodyOf Try.f73)))],[],Option.none⟩],[(0,EK.seq 3 (.ints .i64 q) true)],1⟩
theorem in_t (n m:Int):RUN (st0 73 [iv n,iv m])=(.at (sD (m) (n) (List.map (fun r=>U.int (List.headD r (U.i (0:Int)))) [[U.i n]]))):=by kernel_rfl
theorem step_t (n:Int) (i:Int) (q:List Int):RUN (stOf (sD n i q))=(bc (i != n) (bc (decide (i < n)) (bc (bc (Nat.beq (List.length q) (List.length q)) (bc (Nat.ble (List.length q+List.length (List.map (fun r=>U.int (List.headD r (U.i (0:Int)))) [[U.i (IntKind.wrap IntKind.i64 (i+(1:Int)))]])) (65536:Nat)) true false) false) (.at (sD (n) (IntKind.wrap IntKind.i64 (i+(1:Int))) (q ++ List.map (fun r=>U.int (List.headD r (U.i (0:Int)))) [[U.i (IntKind.wrap IntKind.i64 (i+(1:Int)))]]))) .bad) (bc (bc (Nat.beq (List.length q) (List.length q)) (bc (Nat.ble (List.length q+List.length (List.map (fun r=>U.int (List.headD r (U.i (0:Int)))) [[U.i (IntKind.wrap IntKind.i64 (i - (1:Int)))]])) (65536:Nat)) true false) false) (.at (sD (n) (IntKind.wrap IntKind.i64 (i - (1:Int))) (q ++ List.map (fun r=>U.int (List.headD r (U.i (0:Int)))) [[U.i (IntKind.wrap IntKind.i64 (i - (1:Int)))]]))) .bad)) (bc (Nat.beq (List.length q) (List.length q)) (.done (EV.lst (SyC.ints IntKind.i64 (q))) [] 0) .bad)):=by kernel_rfl
theorem up {n i:Int} {q:List Int} (h:i < n) (hi:-1000≤i) (hn:n≤1000) (hq:q.length≤5000):RUN (stOf (sD n i q)) = .at (sD n (i+1) (q ++ [i+1])):=by
 rw [step_t];have e:(i != n)=true:=by simp;omega
 simp (disch:=omega) only [Nat.add_eq,eqSy_self,eqN_self,bc_same,List.length_cons,ofn,wrap_in,dt,df,bltD,bltN,ble_of,bleN,beqD,bc_t,bc_f,nn_ok,Nat.zero_add,to_nat,Int.zero_add,Int.sub_zero,Int.sub_self,Int.cast_ofNat_Int,Int.natCast_zero,Int.toNat_zero,List.take_zero,List.nil_append,List.length_append,List.length_nil,e,List.length_map];rfl
theorem dn {n i:Int} {q:List Int} (h:n < i) (hi:i≤1000) (hn:-1000≤n) (hq:q.length≤5000):RUN (stOf (sD n i q)) = .at (sD n (i - 1) (q ++ [i - 1])):=by
 rw [step_t];have e:(i != n)=true:=by simp;omega
 simp (disch:=omega) only [Nat.add_eq,eqSy_self,eqN_self,bc_same,List.length_cons,ofn,wrap_in,dt,df,bltD,bltN,ble_of,bleN,beqD,bc_t,bc_f,nn_ok,Nat.zero_add,to_nat,Int.zero_add,Int.sub_zero,Int.sub_self,Int.cast_ofNat_Int,Int.natCast_zero,Int.toNat_zero,List.take_zero,List.nil_append,List.length_append,List.length_nil,e,List.length_map];rfl
theorem last {n:Int} {q:List Int}:RUN (stOf (sD n n q)) = .done (il q) [] 0:=by
 rw [step_t];have e:(n != n)=false:=by simp
 simp (disch:=omega) only [Nat.add_eq,eqSy_self,eqN_self,bc_same,List.length_cons,ofn,wrap_in,dt,df,bltD,bltN,ble_of,bleN,beqD,bc_t,bc_f,nn_ok,Nat.zero_add,to_nat,Int.zero_add,Int.sub_zero,Int.sub_self,Int.cast_ofNat_Int,Int.natCast_zero,Int.toNat_zero,List.take_zero,List.nil_append,List.length_append,List.length_nil,e]
theorem ups {n:Int} (hn:n≤1000):∀ (k:Nat) (i:Int) (q:List Int),i+k=n → -1000≤i→q.length+k≤5000→EndZ 73 .nil false (stOf (sD n i q)) (il (q ++ upI i k)) [] 0
 | 0,i,q,h,_,hq=>by
  have:i=n:=by omega
  subst this;show EndZ _ _ _ _ (il (q ++ [])) _ _;rw [List.append_nil];exact .done last
 | k+1,i,q,h,hi,hq=>by
  show EndZ _ _ _ _ (il (q ++ ((i+1) :: upI (i+1) k))) _ _;rw [show q ++ (i+1) :: upI (i+1) k=(q ++ [i+1]) ++ upI (i+1) k by simp];exact .at (.nil _) (up (by omega) hi hn (by omega)) (ups hn k (i+1) _ (by omega) (by omega) (by simp;omega))
theorem dns {n:Int} (hn:-1000≤n):∀ (k:Nat) (i:Int) (q:List Int),i - k=n→i≤1000→q.length+k≤5000→EndZ 73 .nil false (stOf (sD n i q)) (il (q ++ dnI i k)) [] 0
 | 0,i,q,h,_,hq=>by
  have:i=n:=by omega
  subst this;show EndZ _ _ _ _ (il (q ++ [])) _ _;rw [List.append_nil];exact .done last
 | k+1,i,q,h,hi,hq=>by
  show EndZ _ _ _ _ (il (q ++ ((i - 1) :: dnI (i - 1) k))) _ _;rw [show q ++ (i - 1) :: dnI (i - 1) k=(q ++ [i - 1]) ++ dnI (i - 1) k by simp];exact .at (.nil _) (dn (by omega) hi hn (by omega)) (dns hn k (i - 1) _ (by omega) (by omega) (by simp;omega))
theorem ends {a b:Int} (ha:-1000≤a) (ha2:a≤1000) (hb:-1000≤b) (hb2:b≤1000):EndZ 73 .nil false (st0 73 [iv a,iv b]) (il (wayL a b)) [] 0:=by
 unfold wayL;have h:=in_t a b
 by_cases hab:a < b
 ·rw [dt hab,bc_t];exact .at (.nil _) h (ups hb2 (b - a).toNat a [a] (by omega) ha (by simp;omega))
 ·rw [df hab,bc_f];exact .at (.nil _) h (dns hb (a - b).toNat a [a] (by omega) ha2 (by simp;omega))
end MWay
noncomputable def spWay:ZCT:=fun ax=>match ax with
 | [.v (.int .i64 a),.v (.int .i64 b)]=>some ⟨bc (decide (-1000≤a)) (bc (decide (a≤1000)) (bc (decide (-1000≤b)) (decide (b≤1000)) false) false) false,il (wayL a b),[],0⟩
 | _=>none
theorem spWay_ok:ZCtOk Try.prog 73 spWay:=fun γ w us ax r hs hc hax hN hfz=>by
 unfold spWay at hs;split at hs
 ·rename_i a b;obtain ⟨rfl⟩:=Option.some.inj hs;obtain ⟨h1,hc⟩:=bcT (show bc (decide (-1000≤a)) (bc (decide (a≤1000)) (bc (decide (-1000≤b)) (decide (b≤1000)) false) false) false=true from hc)
  obtain ⟨h2,hc⟩:=bcT hc;obtain ⟨h3,h4⟩:=bcT hc;exact (MWay.ends (of_decide_eq_true h1) (of_decide_eq_true h2) (of_decide_eq_true h3) (of_decide_eq_true h4)).calls (.nil _) (by kernel_rfl) hax hN hfz
 ·cases hs
noncomputable def ctP:Tr ZCC:=((Tr.nil.put 71 (some (dC spRepeat))).put 125 (some (dC spJoin))).put 73 (some (dC spWay))
theorem ctP_ok:ZCtsOk Try.prog ctP:=(((ZCtsOk.nil _).add rfl spRep_ok).add rfl spJo_ok).add rfl spWay_ok
namespace MPic
end MPic
namespace MWin
noncomputable def RUN (s:ES):ZF:=RZ 31 ctP (fun _=>false) [] [] false s
theorem in_t (u:Nat):RUN (st0 31 [])=(.done (EV.agg [(EV.v (Value.int IntKind.i64 (4))),(EV.lst (SyC.recs [(Sh.int IntKind.i64),(Sh.int IntKind.i64),Sh.str] [[(U.i (1:Int)),(U.i (List.getD (List.map (fun r=>U.int (List.headD r (U.i (0:Int)))) [[U.i (1:Int)],[U.i (0:Int)],[U.i (2:Int)]]) (Int.toNat (0:Int)) (0:Int))),(U.s { data:=#[(67:UInt8),(84:UInt8),(67:UInt8)] })],[(U.i (1:Int)),(U.i (List.getD (List.map (fun r=>U.int (List.headD r (U.i (0:Int)))) [[U.i (1:Int)],[U.i (0:Int)],[U.i (2:Int)]]) (Int.toNat (IntKind.wrap IntKind.i64 ((0:Int)+(1:Int)))) (0:Int))),(U.s { data:=#[(67:UInt8),(84:UInt8),(67:UInt8)] })],[(U.i (1:Int)),(U.i (List.getD (List.map (fun r=>U.int (List.headD r (U.i (0:Int)))) [[U.i (1:Int)],[U.i (0:Int)],[U.i (2:Int)]]) (Int.toNat (IntKind.wrap IntKind.i64 (IntKind.wrap IntKind.i64 ((0:Int)+(1:Int))+(1:Int)))) (0:Int))),(U.s { data:=#[(67:UInt8),(84:UInt8),(67:UInt8)] })],[(U.i (1:Int)),(U.i (List.getD (List.map (fun r=>U.int (List.headD r (U.i (0:Int)))) [[U.i (1:Int)]]) (Int.toNat (0:Int)) (0:Int))),(U.s { data:=#[(80:UInt8)] })],[(U.i (1:Int)),(U.i (List.getD (List.map (fun r=>U.int (List.headD r (U.i (0:Int)))) [[U.i (1:Int)]]) (Int.toNat (0:Int)) (0:Int))),(U.s { data:=#[(67:UInt8),(84:UInt8),(67:UInt8)] })]]))]) [] 0):=by kernel_rfl
end MWin
namespace MSp

end MSp
end Go.Proofs.Ytfffbioafhppiaa.EvM
namespace Go.Proofs.Ytfffbioafhppiaa.EvM
open Go.Proofs Go.Proofs.Ytfffbioafhppiaa.Ev
namespace MWith

noncomputable def RT (s:ES):ZF:=RMs 1 70 .nil [(atS 0 70 1,[[(0,some (3,103,.recs shW [])),(1,none),(8,none),(9,none),(10,none)]])] [] [] s

noncomputable def RO (s:ES):ZF:=RMs 2 70 .nil [(atS 0 70 1,[[(0,some (3,103,.recs shW [])),(1,none),(8,none),(9,none),(10,none)]])] [] [] s
noncomputable abbrev pc (p:Int):List EV:=[iv p,.v (.slice none 0 0)]
noncomputable abbrev ps (p:Int) (j len:Nat) (nn:Bool):List EV:=[iv p,.slO j 3 len nn]

noncomputable def sT (p:Int) (w:ByteArray) (l:List Int) (i:Int) (q:List (List U)) (nn:Bool):NS:=⟨[⟨70,29,[(0,(EV.ptr 0 0)),(1,(EV.v (Value.string (w)))),(8,(EV.lst (SyC.ints IntKind.i64 (l)))),(9,(EV.v (Value.int IntKind.i64 (Int.ofNat (List.length l))))),(10,iv i)],[.it (.code (nav [1,0,0] (bodyOf Try.f70))),.it (.inLoop (nav [1,0,0] (bodyOf Try.f70))),.it (.inBlock 0)],[],Option.none⟩],[(0,EK.cells 98 (ps p 1 q.length nn) true),(1,EK.seq 103 (.recs shW q) nn)],2⟩
theorem inTn (p:Int) (w:ByteArray) (l:List Int):RT (st0m 70 [.ptr 0 0,sv w,il l] [(0,.cells 98 (pc p) true)] 1)=(.at (sT (p) (w) (l) ((0:Int)) ([]) (false))):=by kernel_rfl
theorem inTs (p:Int) (w:ByteArray) (l:List Int) (q:List (List U)) (nn:Bool):RT (st0m 70 [.ptr 0 0,sv w,il l] [(0,.cells 98 (ps p 1 q.length nn) true),(1,.seq 103 (.recs shW q) nn)] 2)=(.at (sT (p) (w) (l) ((0:Int)) (q) (nn))):=by kernel_rfl
theorem stT (p:Int) (w:ByteArray) (l:List Int) (i:Int) (q:List (List U)) (nn:Bool):RT (stOf (sT p w l i q nn))=(bc (decide (i < Int.ofNat (List.length l)))
 (bc (bc (bc (decide ((0:Int)≤i)) (Nat.blt (Int.toNat i) (List.length l)) false) true false)
  (bc (bc (Nat.blt (Int.toNat i) (List.length l)) true false)
   (bc (bc (Nat.beq (List.length q) (List.length q)) (bc (Nat.ble (List.length q+List.length [[U.i (1:Int),U.i (List.getD l (Int.toNat i) (0:Int)),U.s w]]) (65536:Nat)) (bc nn true (bc nn false true)) false) false)
    (.at (sT (p) (w) (l) (IntKind.wrap IntKind.i64 (i+(1:Int))) (q ++ [[U.i (1:Int),U.i (List.getD l (Int.toNat i) (0:Int)),U.s w]]) (bc nn true (Nat.blt (0:Nat) (List.length [[U.i (1:Int),U.i (List.getD l (Int.toNat i) (0:Int)),U.s w]])))))
    .bad)
   .bad)
  .bad)
 (.done (EV.tup []) [(0,(EK.cells 98 [(EV.v (Value.int IntKind.i64 (p))),(EV.slO 1 3 (List.length q) (nn))] true)),(1,(EK.seq 103 (SyC.recs [(Sh.int IntKind.i64),(Sh.int IntKind.i64),Sh.str] (q)) (nn)))] 2)):=by kernel_rfl

noncomputable def sO (p:Int) (w:ByteArray) (l:List Int) (i:Int) (q:List (List U)) (nn:Bool):NS:=⟨[⟨70,29,[(0,(EV.ptr 0 0)),(1,(EV.v (Value.string (w)))),(8,(EV.slO 1 1 (List.length l) true)),(9,(EV.v (Value.int IntKind.i64 (Int.ofNat (List.length l))))),(10,iv i)],[.it (.code (nav [1,0,0] (bodyOf Try.f70))),.it (.inLoop (nav [1,0,0] (bodyOf Try.f70))),.it (.inBlock 0)],[],Option.none⟩],[(0,EK.cells 98 (ps p 2 q.length nn) true),(1,(EK.seq 3 (SyC.ints IntKind.i64 (l)) true)),(2,EK.seq 103 (.recs shW q) nn)],3⟩
theorem inOn (p:Int) (w:ByteArray) (l:List Int):RO (st0m 70 [.ptr 0 0,sv w,.slO 1 1 l.length true] [(0,.cells 98 (pc p) true),(1,.seq 3 (.ints .i64 l) true)] 2)=(.at (sO (p) (w) (l) ((0:Int)) ([]) (false))):=by kernel_rfl
theorem inOs (p:Int) (w:ByteArray) (l:List Int) (q:List (List U)) (nn:Bool):RO (st0m 70 [.ptr 0 0,sv w,.slO 1 1 l.length true] [(0,.cells 98 (ps p 2 q.length nn) true),(1,.seq 3 (.ints .i64 l) true),(2,.seq 103 (.recs shW q) nn)] 3)=(.at (sO (p) (w) (l) ((0:Int)) (q) (nn))):=by kernel_rfl
theorem stO (p:Int) (w:ByteArray) (l:List Int) (i:Int) (q:List (List U)) (nn:Bool):RO (stOf (sO p w l i q nn))=(bc (decide (i < Int.ofNat (List.length l)))
 (bc (bc (bc (decide ((0:Int)≤i)) (Nat.blt (Int.toNat i) (List.length l)) false) true false)
  (bc (bc (Nat.blt (Int.toNat i) (List.length l)) true false)
   (bc (bc (Nat.beq (List.length q) (List.length q)) (bc (Nat.ble (List.length q+List.length [[U.i (1:Int),U.i (List.getD l (Int.toNat i) (0:Int)),U.s w]]) (65536:Nat)) (bc nn true (bc nn false true)) false) false)
    (.at (sO (p) (w) (l) (IntKind.wrap IntKind.i64 (i+(1:Int))) (q ++ [[U.i (1:Int),U.i (List.getD l (Int.toNat i) (0:Int)),U.s w]]) (bc nn true (Nat.blt (0:Nat) (List.length [[U.i (1:Int),U.i (List.getD l (Int.toNat i) (0:Int)),U.s w]])))))
    .bad)
   .bad)
  .bad)
 (.done (EV.tup []) [(0,(EK.cells 98 [(EV.v (Value.int IntKind.i64 (p))),(EV.slO 2 3 (List.length q) (nn))] true)),(1,(EK.seq 3 (SyC.ints IntKind.i64 (l)) true)),(2,(EK.seq 103 (SyC.recs [(Sh.int IntKind.i64),(Sh.int IntKind.i64),Sh.str] (q)) (nn)))] 3)):=by kernel_rfl
theorem stepT {p:Int} {w:ByteArray} {l:List Int} {i:Nat} {q:List (List U)} {nn:Bool} (hi:i < l.length) (hl:l.length≤60000) (hq:q.length < 65536):RT (stOf (sT p w l i q nn)) = .at (sT p w l (i+1:Nat) (q ++ [wk w l[i]]) true):=by
 rw [stT];have e:l.getD i 0=l[i]:=getD_at hi;simp (disch:=omega) only [Nat.add_eq,eqSy_self,eqN_self,bc_same,List.length_cons,ofn,wrap_in,dt,df,bltD,bltN,ble_of,bleN,beqD,bc_t,bc_f,nn_ok,Nat.zero_add,to_nat,Int.zero_add,Int.sub_zero,Int.sub_self,Int.cast_ofNat_Int,Int.natCast_zero,Int.toNat_zero,List.take_zero,List.nil_append,List.length_append,List.length_nil,e];rfl
noncomputable abbrev KT (p:Int) (l:List Int) (q:List (List U)) (nn:Bool):List (Nat × EK):=[(0,.cells 98 (ps p 1 q.length nn) true),(1,.seq 103 (.recs shW q) nn)]
theorem lastT {p:Int} {w:ByteArray} {l:List Int} {i:Nat} {q:List (List U)} {nn:Bool} (hi:l.length≤i):RT (stOf (sT p w l i q nn)) = .done (.tup []) (KT p l q nn) 2:=by
 rw [stT];simp (disch:=omega) only [Nat.add_eq,eqSy_self,eqN_self,bc_same,List.length_cons,ofn,wrap_in,dt,df,bltD,bltN,ble_of,bleN,beqD,bc_t,bc_f,nn_ok,Nat.zero_add,to_nat,Int.zero_add,Int.sub_zero,Int.sub_self,Int.cast_ofNat_Int,Int.natCast_zero,Int.toNat_zero,List.take_zero,List.nil_append,List.length_append,List.length_nil];rfl
theorem loopT {p:Int} {w:ByteArray} {l:List Int} (hl:l.length≤60000):∀ (k i:Nat) (q:List (List U)) (nn:Bool),i+k=l.length→q.length+k < 65536→EndM 1 70 .nil (stOf (sT p w l i q nn)) (.tup []) (KT p l (q ++ (l.drop i).map (wk w)) (bc nn true (Nat.blt 0 k))) 2
 | 0,i,q,nn,h,hq=>by
  rw [List.drop_eq_nil_of_le (by omega),List.map_nil,List.append_nil,show bc nn true (Nat.blt 0 0)=nn by cases nn <;> rfl];exact .done (lastT (by omega))
 | k+1,i,q,nn,h,hq=>by
  have hi:i < l.length:=by omega
  rw [List.drop_eq_getElem_cons hi,List.map_cons,show q ++ wk w l[i] :: (l.drop (i+1)).map (wk w)=(q ++ [wk w l[i]]) ++ (l.drop (i+1)).map (wk w) by simp,show bc nn true (Nat.blt 0 (k+1))=bc true true (Nat.blt 0 k) by cases nn <;> rfl];exact .at (.nil _) (stepT hi hl (by omega)) (loopT hl k (i+1) _ true (by omega) (by rw [List.length_append];simp only [List.length_cons,List.length_nil];omega))
theorem stepO {p:Int} {w:ByteArray} {l:List Int} {i:Nat} {q:List (List U)} {nn:Bool} (hi:i < l.length) (hl:l.length≤60000) (hq:q.length < 65536):RO (stOf (sO p w l i q nn)) = .at (sO p w l (i+1:Nat) (q ++ [wk w l[i]]) true):=by
 rw [stO];have e:l.getD i 0=l[i]:=getD_at hi;simp (disch:=omega) only [Nat.add_eq,eqSy_self,eqN_self,bc_same,List.length_cons,ofn,wrap_in,dt,df,bltD,bltN,ble_of,bleN,beqD,bc_t,bc_f,nn_ok,Nat.zero_add,to_nat,Int.zero_add,Int.sub_zero,Int.sub_self,Int.cast_ofNat_Int,Int.natCast_zero,Int.toNat_zero,List.take_zero,List.nil_append,List.length_append,List.length_nil,e];rfl
noncomputable abbrev KO (p:Int) (l:List Int) (q:List (List U)) (nn:Bool):List (Nat × EK):=[(0,.cells 98 (ps p 2 q.length nn) true),(1,.seq 3 (.ints .i64 l) true),(2,.seq 103 (.recs shW q) nn)]
theorem lastO {p:Int} {w:ByteArray} {l:List Int} {i:Nat} {q:List (List U)} {nn:Bool} (hi:l.length≤i):RO (stOf (sO p w l i q nn)) = .done (.tup []) (KO p l q nn) 3:=by
 rw [stO];simp (disch:=omega) only [Nat.add_eq,eqSy_self,eqN_self,bc_same,List.length_cons,ofn,wrap_in,dt,df,bltD,bltN,ble_of,bleN,beqD,bc_t,bc_f,nn_ok,Nat.zero_add,to_nat,Int.zero_add,Int.sub_zero,Int.sub_self,Int.cast_ofNat_Int,Int.natCast_zero,Int.toNat_zero,List.take_zero,List.nil_append,List.length_append,List.length_nil];rfl
theorem loopO {p:Int} {w:ByteArray} {l:List Int} (hl:l.length≤60000):∀ (k i:Nat) (q:List (List U)) (nn:Bool),i+k=l.length→q.length+k < 65536→EndM 2 70 .nil (stOf (sO p w l i q nn)) (.tup []) (KO p l (q ++ (l.drop i).map (wk w)) (bc nn true (Nat.blt 0 k))) 3
 | 0,i,q,nn,h,hq=>by
  rw [List.drop_eq_nil_of_le (by omega),List.map_nil,List.append_nil,show bc nn true (Nat.blt 0 0)=nn by cases nn <;> rfl];exact .done (lastO (by omega))
 | k+1,i,q,nn,h,hq=>by
  have hi:i < l.length:=by omega
  rw [List.drop_eq_getElem_cons hi,List.map_cons,show q ++ wk w l[i] :: (l.drop (i+1)).map (wk w)=(q ++ [wk w l[i]]) ++ (l.drop (i+1)).map (wk w) by simp,show bc nn true (Nat.blt 0 (k+1))=bc true true (Nat.blt 0 k) by cases nn <;> rfl];exact .at (.nil _) (stepO hi hl (by omega)) (loopO hl k (i+1) _ true (by omega) (by rw [List.length_append];simp only [List.length_cons,List.length_nil];omega))
end MWith
open MWith in
noncomputable def spWith:ZMT:=fun ax K0 m=>match ax with
 | [.ptr 0 0,.v (.string w),.lst (.ints .i64 l)]=>match K0 with
  | [(0,.cells 98 [.v (.int .i64 p),.v (.slice none 0 0)] true)]=>bc (Nat.beq m 1) (some ⟨Nat.ble l.length 60000,.tup [],KT p l ([] ++ l.map (wk w)) (bc false true (Nat.blt 0 l.length)),2,1⟩) none
  | [(0,.cells 98 [.v (.int .i64 p),.slO 1 3 len nn] true),(1,.seq 103 (.recs [.int .i64,.int .i64,.str] q) nn2)]=>bc (Nat.beq m 2) (some ⟨bc (Nat.beq len q.length) (bc (eqN nn nn2) (bc (Nat.ble l.length 60000) (Nat.blt (Nat.add q.length l.length) 65536) false) false) false,.tup [],KT p l (q ++ l.map (wk w)) (bc nn2 true (Nat.blt 0 l.length)),2,1⟩) none
  | _=>none
 | [.ptr 0 0,.v (.string w),.slO 1 1 len1 n1]=>match K0 with
  | [(0,.cells 98 [.v (.int .i64 p),.v (.slice none 0 0)] true),(1,.seq 3 (.ints .i64 l) n2)]=>bc (Nat.beq m 2) (some ⟨bc n1 (bc n2 (bc (Nat.beq len1 l.length) (Nat.ble l.length 60000) false) false) false,.tup [],KO p l ([] ++ l.map (wk w)) (bc false true (Nat.blt 0 l.length)),3,2⟩) none
  | [(0,.cells 98 [.v (.int .i64 p),.slO 2 3 len nn] true),(1,.seq 3 (.ints .i64 l) n2),(2,.seq 103 (.recs [.int .i64,.int .i64,.str] q) nn2)]=>bc (Nat.beq m 3) (some ⟨bc n1 (bc n2 (bc (Nat.beq len1 l.length) (bc (Nat.beq len q.length) (bc (eqN nn nn2) (bc (Nat.ble l.length 60000) (Nat.blt (Nat.add q.length l.length) 65536) false) false) false) false) false) false,.tup [],KO p l (q ++ l.map (wk w)) (bc nn2 true (Nat.blt 0 l.length)),3,2⟩) none
  | _=>none
 | _=>none
open MWith in
theorem spWith_ok:ZMtOk Try.prog 70 spWith:=fun γ w0 w us ax K0 m r hs hc hres hax hH=>by
 have noN:∀ {x:ZMR} {b:Bool},bc b (some x) none=some r→b=true∧x=r:=fun {x b} h=>by
  cases b
  ·cases h
  ·exact ⟨rfl,Option.some.inj h⟩
 unfold spWith at hs;split at hs
 ·rename_i wd l;split at hs
  ·rename_i p;obtain ⟨hm,rfl⟩:=noN hs;have hm:=Nat.eq_of_beq_eq_true hm;subst hm;have hl:=Nat.le_of_ble_eq_true hc;have g:EndM 1 70 .nil (st0m 70 [.ptr 0 0,sv wd,il l] [(0,.cells 98 (pc p) true)] 1) (.tup []) (KT p l ([] ++ l.map (wk wd)) (bc false true (Nat.blt 0 l.length))) 2:=.at (.nil _) (inTn p wd l) (loopT hl l.length 0 [] false (by omega) (by simp only [List.length_nil];omega));exact g.calls (.nil _) (by kernel_rfl) hres hax hH
  ·rename_i p len nn q nn2;obtain ⟨hm,rfl⟩:=noN hs;have hm:=Nat.eq_of_beq_eq_true hm;subst hm;obtain ⟨h1,hc⟩:=bcT (show bc (Nat.beq len q.length) (bc (eqN nn nn2) (bc (Nat.ble l.length 60000) (Nat.blt (Nat.add q.length l.length) 65536) false) false) false=true from hc)
   obtain ⟨h2,hc⟩:=bcT hc;obtain ⟨h3,h4⟩:=bcT hc;have h1:=Nat.eq_of_beq_eq_true h1;have h2:=eqN_ok h2;subst h1;subst h2;have h3:=Nat.le_of_ble_eq_true h3;have h4:q.length+l.length < 65536:=blt_lt h4;have g:EndM 1 70 .nil (st0m 70 [.ptr 0 0,sv wd,il l] [(0,.cells 98 (ps p 1 q.length nn) true),(1,.seq 103 (.recs shW q) nn)] 2) (.tup []) (KT p l (q ++ l.map (wk wd)) (bc nn true (Nat.blt 0 l.length))) 2:=.at (.nil _) (inTs p wd l q nn) (loopT h3 l.length 0 q nn (by omega) (by omega));exact g.calls (.nil _) (by kernel_rfl) hres hax hH
  ·cases hs
 ·rename_i wd len1 n1;split at hs
  ·rename_i p l n2;obtain ⟨hm,rfl⟩:=noN hs;have hm:=Nat.eq_of_beq_eq_true hm;subst hm;obtain ⟨h1,hc⟩:=bcT (show bc n1 (bc n2 (bc (Nat.beq len1 l.length) (Nat.ble l.length 60000) false) false) false=true from hc)
   obtain ⟨h2,hc⟩:=bcT hc;obtain ⟨h3,h4⟩:=bcT hc;have h3:=Nat.eq_of_beq_eq_true h3;subst h1;subst h2;subst h3;have h4:=Nat.le_of_ble_eq_true h4;have g:EndM 2 70 .nil (st0m 70 [.ptr 0 0,sv wd,.slO 1 1 l.length true] [(0,.cells 98 (pc p) true),(1,.seq 3 (.ints .i64 l) true)] 2) (.tup []) (KO p l ([] ++ l.map (wk wd)) (bc false true (Nat.blt 0 l.length))) 3:=.at (.nil _) (inOn p wd l) (loopO h4 l.length 0 [] false (by omega) (by simp only [List.length_nil];omega));exact g.calls (.nil _) (by kernel_rfl) hres hax hH
  ·rename_i p len nn l n2 q nn2;obtain ⟨hm,rfl⟩:=noN hs;have hm:=Nat.eq_of_beq_eq_true hm;subst hm;obtain ⟨h1,hc⟩:=bcT (show bc n1 (bc n2 (bc (Nat.beq len1 l.length) (bc (Nat.beq len q.length) (bc (eqN nn nn2) (bc (Nat.ble l.length 60000) (Nat.blt (Nat.add q.length l.length) 65536) false) false) false) false) false) false=true from hc)
   obtain ⟨h2,hc⟩:=bcT hc;obtain ⟨h3,hc⟩:=bcT hc;obtain ⟨h4,hc⟩:=bcT hc;obtain ⟨h5,hc⟩:=bcT hc;obtain ⟨h6,h7⟩:=bcT hc;have h3:=Nat.eq_of_beq_eq_true h3;have h4:=Nat.eq_of_beq_eq_true h4;have h5:=eqN_ok h5;subst h1;subst h2;subst h3;subst h4;subst h5;have h6:=Nat.le_of_ble_eq_true h6;have h7:q.length+l.length < 65536:=blt_lt h7
   have g:EndM 2 70 .nil (st0m 70 [.ptr 0 0,sv wd,.slO 1 1 l.length true] [(0,.cells 98 (ps p 2 q.length nn) true),(1,.seq 3 (.ints .i64 l) true),(2,.seq 103 (.recs shW q) nn)] 3) (.tup []) (KO p l (q ++ l.map (wk wd)) (bc nn true (Nat.blt 0 l.length))) 3:=.at (.nil _) (inOs p wd l q nn) (loopO h6 l.length 0 q nn (by omega) (by omega));exact g.calls (.nil _) (by kernel_rfl) hres hax hH
  ·cases hs
 ·cases hs
noncomputable def ctW:Tr ZCC:=ctP.put 70 (some (mC spWith))
theorem ctW_ok:ZCtsOk Try.prog ctW:=ctP_ok.addM rfl spWith_ok
end Go.Proofs.Ytfffbioafhppiaa.EvM
namespace Go.Proofs.Ytfffbioafhppiaa.EvM
open Go.Proofs Go.Proofs.Ytfffbioafhppiaa.Ev
namespace MTw
noncomputable def R (s:ES):ZF:=RMs 4 69 ctW [(atS 0 69 1,[[(0,none),(1,none),(2,none),(3,none)]])] [] [(3,3,103,.recs shW [])] s
noncomputable abbrev K0 (t n p:Int) (x:EV) (r:List (Nat × EK)):List (Nat × EK):=[(0,.cells 3 [iv t] true),(1,.cells 3 [iv n] true),(2,.cells 96 [.ptr 3 0] true),(3,.cells 98 [iv p,x] true)] ++ r
noncomputable abbrev ax:List EV:=[.ptr 0 0,.ptr 1 0,.ptr 2 0]

noncomputable def sN (t n p i:Int):NS:=⟨[⟨69,20,[(0,(EV.ptr 0 0)),(1,(EV.ptr 1 0)),(2,(EV.ptr 2 0)),(3,iv i)],[.it (.code (nav [1,0,0,0] (bodyOf Try.f69))),.it (.code (nav [1,0,0,1] (bodyOf Try.f69))),.it (.inLoop (nav [1,0,0] (bodyOf Try.f69))),.it (.inBlock 0)],[],Option.none⟩],[(0,(EK.cells 3 [(EV.v (Value.int IntKind.i64 (t)))] true)),(1,(EK.cells 3 [(EV.v (Value.int IntKind.i64 (n)))] true)),(2,(EK.cells 96 [(EV.ptr 3 0)] true)),(3,(EK.cells 98 [(EV.v (Value.int IntKind.i64 (p))),(EV.v (Value.slice Option.none 0 0))] true))],4⟩
noncomputable def sS (t n p i:Int) (q:List (List U)) (nn:Bool):NS:=⟨[⟨69,20,[(0,(EV.ptr 0 0)),(1,(EV.ptr 1 0)),(2,(EV.ptr 2 0)),(3,iv i)],[.it (.code (nav [1,0,0,0] (bodyOf Try.f69))),.it (.code (nav [1,0,0,1] (bodyOf Try.f69))),.it (.inLoop (nav [1,0,0] (bodyOf Try.f69))),.it (.inBlock 0)],[],Option.none⟩],[(0,(EK.cells 3 [(EV.v (Value.int IntKind.i64 (t)))] true)),(1,(EK.cells 3 [(EV.v (Value.int IntKind.i64 (n)))] true)),(2,(EK.cells 96 [(EV.ptr 3 0)] true)),(3,(EK.cells 98 [(EV.v (Value.int IntKind.i64 (p))),(EV.slO 4 3 (List.length q) (nn))] true)),(4,(EK.seq 103 (SyC.recs [(Sh.int IntKind.i64),(Sh.int IntKind.i64),Sh.str] (q)) (nn)))],5⟩
theorem inN (t n p:Int):R (st0m 69 ax (K0 t n p (.v (.slice none 0 0)) []) 4)=(.at (sN (t) (n) (p) ((0:Int)))):=by kernel_rfl
theorem inS (t n p:Int) (q:List (List U)) (nn:Bool):R (st0m 69 ax (K0 t n p (.slO 4 3 q.length nn) [(4,.seq 103 (.recs shW q) nn)]) 5)=(.at (sS (t) (n) (p) ((0:Int)) (q) (nn))):=by kernel_rfl
theorem stN (t n p i:Int):R (stOf (sN t n p i))=(bc (decide ((0:Int) < t))
 (bc (decide (i < n))
  (bc (bc (bc (bc (bc (decide ((0:Int)≤t)) (bc (decide (t≤(65536:Int))) (Nat.ble (ByteArray.size { data:=#[(84:UInt8)] }) (65536:Nat)) false) false) true false) true false) true false)
   (.at (sS (t) (n) (p) (IntKind.wrap IntKind.i64 (i+(1:Int))) ([] ++ List.map (wk (zrep { data:=#[(84:UInt8)] } (Int.toNat t))) (List.map (fun r=>U.int (List.headD r (U.i (0:Int)))) [[U.i (IntKind.wrap IntKind.i64 ((2:Int) * i))]])) (Nat.blt (0:Nat) (List.length (List.map (fun r=>U.int (List.headD r (U.i (0:Int)))) [[U.i (IntKind.wrap IntKind.i64 ((2:Int) * i))]])))))
   .bad)
  (.done (EV.tup []) [(0,(EK.cells 3 [(EV.v (Value.int IntKind.i64 (t)))] true)),(1,(EK.cells 3 [(EV.v (Value.int IntKind.i64 (n)))] true)),(2,(EK.cells 96 [(EV.ptr 3 0)] true)),(3,(EK.cells 98 [(EV.v (Value.int IntKind.i64 (p))),(EV.slO 4 3 0 false)] true)),(4,(EK.seq 103 (SyC.recs [(Sh.int IntKind.i64),(Sh.int IntKind.i64),Sh.str] []) false))] 5))
 (.done (EV.tup []) [(0,(EK.cells 3 [(EV.v (Value.int IntKind.i64 (t)))] true)),(1,(EK.cells 3 [(EV.v (Value.int IntKind.i64 (n)))] true)),(2,(EK.cells 96 [(EV.ptr 3 0)] true)),(3,(EK.cells 98 [(EV.v (Value.int IntKind.i64 (p))),(EV.slO 4 3 0 false)] true)),(4,(EK.seq 103 (SyC.recs [(Sh.int IntKind.i64),(Sh.int IntKind.i64),Sh.str] []) false))] 5)):=by kernel_rfl
theorem stS (t n p i:Int) (q:List (List U)) (nn:Bool):R (stOf (sS t n p i q nn))=(bc (decide ((0:Int) < t))
 (bc (decide (i < n))
  (bc (bc (bc (bc (bc (decide ((0:Int)≤t)) (bc (decide (t≤(65536:Int))) (Nat.ble (ByteArray.size { data:=#[(84:UInt8)] }) (65536:Nat)) false) false) true false) (bc (bc (bc (Nat.beq (List.length q) (List.length q)) (bc (eqN nn nn) (Nat.blt (Nat.add (List.length q) (List.length (List.map (fun r=>U.int (List.headD r (U.i (0:Int)))) [[U.i (IntKind.wrap IntKind.i64 ((2:Int) * i))]]))) (65536:Nat)) false) false) true false) true false) false) true false)
   (.at (sS (t) (n) (p) (IntKind.wrap IntKind.i64 (i+(1:Int))) (q ++ List.map (wk (zrep { data:=#[(84:UInt8)] } (Int.toNat t))) (List.map (fun r=>U.int (List.headD r (U.i (0:Int)))) [[U.i (IntKind.wrap IntKind.i64 ((2:Int) * i))]])) (bc nn true (Nat.blt (0:Nat) (List.length (List.map (fun r=>U.int (List.headD r (U.i (0:Int)))) [[U.i (IntKind.wrap IntKind.i64 ((2:Int) * i))]]))))))
   .bad)
  (.done (EV.tup []) [(0,(EK.cells 3 [(EV.v (Value.int IntKind.i64 (t)))] true)),(1,(EK.cells 3 [(EV.v (Value.int IntKind.i64 (n)))] true)),(2,(EK.cells 96 [(EV.ptr 3 0)] true)),(3,(EK.cells 98 [(EV.v (Value.int IntKind.i64 (p))),(EV.slO 4 3 (List.length q) (nn))] true)),(4,(EK.seq 103 (SyC.recs [(Sh.int IntKind.i64),(Sh.int IntKind.i64),Sh.str] (q)) (nn)))] 5))
 (.done (EV.tup []) [(0,(EK.cells 3 [(EV.v (Value.int IntKind.i64 (t)))] true)),(1,(EK.cells 3 [(EV.v (Value.int IntKind.i64 (n)))] true)),(2,(EK.cells 96 [(EV.ptr 3 0)] true)),(3,(EK.cells 98 [(EV.v (Value.int IntKind.i64 (p))),(EV.slO 4 3 (List.length q) (nn))] true)),(4,(EK.seq 103 (SyC.recs [(Sh.int IntKind.i64),(Sh.int IntKind.i64),Sh.str] (q)) (nn)))] 5)):=by kernel_rfl

noncomputable def twQ (t:Int) (i:Nat):Nat→List (List U)
 | 0=>[]
 | m+1=>wk (zrep bT t.toNat) (2 * (i:Int)) :: twQ t (i+1) m
noncomputable abbrev KT (t n p:Int) (q:List (List U)) (nn:Bool):List (Nat × EK):=K0 t n p (.slO 4 3 q.length nn) [(4,.seq 103 (.recs shW q) nn)]
theorem goS {t n p:Int} {i:Nat} {q:List (List U)} {nn:Bool} (ht:0 < t) (ht2:t≤100) (hi:(i:Int) < n) (hn:n≤100) (hq:q.length≤1000):R (stOf (sS t n p i q nn)) = .at (sS t n p (i+1:Nat) (q ++ [wk (zrep bT t.toNat) (2 * (i:Int))]) true):=by
 rw [stS];have e1:(ByteArray.mk #[84]).size=1:=rfl;simp (disch:=omega) only [Nat.add_eq,eqSy_self,eqN_self,bc_same,List.length_cons,ofn,wrap_in,dt,df,bltD,bltN,ble_of,bleN,beqD,bc_t,bc_f,nn_ok,Nat.zero_add,to_nat,Int.zero_add,Int.sub_zero,Int.sub_self,Int.cast_ofNat_Int,Int.natCast_zero,Int.toNat_zero,List.take_zero,List.nil_append,List.length_append,List.length_nil,e1,List.map_cons,List.map_nil,dt ht,dt hi];rfl
theorem goN {t n p:Int} {i:Nat} (ht:0 < t) (ht2:t≤100) (hi:(i:Int) < n) (hn:n≤100):R (stOf (sN t n p i)) = .at (sS t n p (i+1:Nat) [wk (zrep bT t.toNat) (2 * (i:Int))] true):=by
 rw [stN];have e1:(ByteArray.mk #[84]).size=1:=rfl;simp (disch:=omega) only [Nat.add_eq,eqSy_self,eqN_self,bc_same,List.length_cons,ofn,wrap_in,dt,df,bltD,bltN,ble_of,bleN,beqD,bc_t,bc_f,nn_ok,Nat.zero_add,to_nat,Int.zero_add,Int.sub_zero,Int.sub_self,Int.cast_ofNat_Int,Int.natCast_zero,Int.toNat_zero,List.take_zero,List.nil_append,List.length_append,List.length_nil,e1,List.map_cons,List.map_nil,dt ht,dt hi];rfl
theorem finS {t n p:Int} {i:Nat} {q:List (List U)} {nn:Bool} (h:t≤0∨n≤(i:Int)):R (stOf (sS t n p i q nn)) = .done (.tup []) (KT t n p q nn) 5:=by
 rw [stS]
 by_cases ht:0 < t
 ·simp (disch:=omega) only [Nat.add_eq,eqSy_self,eqN_self,bc_same,List.length_cons,ofn,wrap_in,dt,df,bltD,bltN,ble_of,bleN,beqD,bc_t,bc_f,nn_ok,Nat.zero_add,to_nat,Int.zero_add,Int.sub_zero,Int.sub_self,Int.cast_ofNat_Int,Int.natCast_zero,Int.toNat_zero,List.take_zero,List.nil_append,List.length_append,List.length_nil,dt ht,df (show ¬ (i:Int) < n by omega)];rfl
 ·simp (disch:=omega) only [Nat.add_eq,eqSy_self,eqN_self,bc_same,List.length_cons,ofn,wrap_in,dt,df,bltD,bltN,ble_of,bleN,beqD,bc_t,bc_f,nn_ok,Nat.zero_add,to_nat,Int.zero_add,Int.sub_zero,Int.sub_self,Int.cast_ofNat_Int,Int.natCast_zero,Int.toNat_zero,List.take_zero,List.nil_append,List.length_append,List.length_nil,df ht];rfl
theorem finN {t n p:Int} {i:Nat} (h:t≤0∨n≤(i:Int)):R (stOf (sN t n p i)) = .done (.tup []) (KT t n p [] false) 5:=by
 rw [stN]
 by_cases ht:0 < t
 ·simp (disch:=omega) only [Nat.add_eq,eqSy_self,eqN_self,bc_same,List.length_cons,ofn,wrap_in,dt,df,bltD,bltN,ble_of,bleN,beqD,bc_t,bc_f,nn_ok,Nat.zero_add,to_nat,Int.zero_add,Int.sub_zero,Int.sub_self,Int.cast_ofNat_Int,Int.natCast_zero,Int.toNat_zero,List.take_zero,List.nil_append,List.length_append,List.length_nil,dt ht,df (show ¬ (i:Int) < n by omega)];rfl
 ·simp (disch:=omega) only [Nat.add_eq,eqSy_self,eqN_self,bc_same,List.length_cons,ofn,wrap_in,dt,df,bltD,bltN,ble_of,bleN,beqD,bc_t,bc_f,nn_ok,Nat.zero_add,to_nat,Int.zero_add,Int.sub_zero,Int.sub_self,Int.cast_ofNat_Int,Int.natCast_zero,Int.toNat_zero,List.take_zero,List.nil_append,List.length_append,List.length_nil,df ht];rfl
theorem loopS {t n p:Int} (ht:0 < t) (ht2:t≤100) (hn:n≤100):∀ (k i:Nat) (q:List (List U)) (nn:Bool),(i:Int)+k=n→q.length+k≤1000→EndM 4 69 ctW (stOf (sS t n p i q nn)) (.tup []) (KT t n p (q ++ twQ t i k) (bc nn true (Nat.blt 0 k))) 5
 | 0,i,q,nn,h,hq=>by
  rw [show twQ t i 0=[] from rfl,List.append_nil,show bc nn true (Nat.blt 0 0)=nn by cases nn <;> rfl]
  exact .done (finS (by omega))
 | k+1,i,q,nn,h,hq=>by
  rw [show twQ t i (k+1)=wk (zrep bT t.toNat) (2 * (i:Int)) :: twQ t (i+1) k from rfl,show q ++ wk (zrep bT t.toNat) (2 * (i:Int)) :: twQ t (i+1) k=(q ++ [wk (zrep bT t.toNat) (2 * (i:Int))]) ++ twQ t (i+1) k by simp,show bc nn true (Nat.blt 0 (k+1))=bc true true (Nat.blt 0 k) by cases nn <;> rfl]
  exact .at ctW_ok (goS ht ht2 (by omega) hn (by omega)) (loopS ht ht2 hn k (i+1) _ true (by omega) (by rw [List.length_append];simp only [List.length_cons,List.length_nil];omega))
end MTw
noncomputable def twsQ (n t:Int):List (List U):=bc (decide (0 < t)) (MTw.twQ t 0 n.toNat) []
open MTw in
theorem MTw.endS {t n p:Int} {q:List (List U)} {nn:Bool} (ht:t≤100) (h0:0≤n) (hn:n≤100) (hq:q.length≤800):EndM 4 69 ctW (st0m 69 ax (K0 t n p (.slO 4 3 q.length nn) [(4,.seq 103 (.recs shW q) nn)]) 5) (.tup []) (KT t n p (q ++ twsQ n t) (bc (decide (0 < t)) (bc nn true (Nat.blt 0 n.toNat)) nn)) 5:=by
 unfold twsQ
 by_cases h:0 < t
 ·rw [dt h,bc_t,bc_t];exact .at ctW_ok (inS t n p q nn) (loopS h ht hn n.toNat 0 q nn (by omega) (by omega))
 ·rw [df h,bc_f,bc_f,List.append_nil];exact .at ctW_ok (inS t n p q nn) (.done (finS (i:=0) (by omega)))
open MTw in
theorem MTw.endN {t n p:Int} (ht:t≤100) (h0:0≤n) (hn:n≤100):EndM 4 69 ctW (st0m 69 ax (K0 t n p (.v (.slice none 0 0)) []) 4) (.tup []) (KT t n p (twsQ n t) (bc (decide (0 < t)) (Nat.blt 0 n.toNat) false)) 5:=by
 unfold twsQ
 by_cases h:0 < t
 ·rw [dt h,bc_t,bc_t]
  by_cases h1:0 < n
  ·obtain ⟨k,rfl⟩:∃ k:Nat,n=((k+1:Nat):Int):=⟨(n - 1).toNat,by omega⟩;rw [Int.toNat_natCast];refine .at ctW_ok (inN t _ p) (.at ctW_ok (goN (i:=0) h ht (by omega) hn) ?_);have:=loopS (p:=p) h ht hn k 1 [wk (zrep bT t.toNat) (2 * ((0:Nat):Int))] true (by omega) (by simp only [List.length_cons,List.length_nil];omega);exact this
  ·have:n=0:=by omega
   subst this;exact .at ctW_ok (inN t _ p) (.done (finN (i:=0) (by omega)))
 ·rw [df h,bc_f,bc_f];exact .at ctW_ok (inN t n p) (.done (finN (i:=0) (by omega)))
open MTw in
noncomputable def spTw:ZMT:=fun ax K0 m=>match ax with
 | [.ptr 0 0,.ptr 1 0,.ptr 2 0]=>match K0 with
  | [(0,.cells 3 [.v (.int .i64 t)] true),(1,.cells 3 [.v (.int .i64 n)] true),(2,.cells 96 [.ptr 3 0] true),(3,.cells 98 [.v (.int .i64 p),.v (.slice none 0 0)] true)]=>bc (Nat.beq m 4) (some ⟨bc (decide (t≤100)) (bc (decide (0≤n)) (decide (n≤100)) false) false,.tup [],KT t n p (twsQ n t) (bc (decide (0 < t)) (Nat.blt 0 n.toNat) false),5,4⟩) none
  | [(0,.cells 3 [.v (.int .i64 t)] true),(1,.cells 3 [.v (.int .i64 n)] true),(2,.cells 96 [.ptr 3 0] true),(3,.cells 98 [.v (.int .i64 p),.slO 4 3 len nn] true),(4,.seq 103 (.recs [.int .i64,.int .i64,.str] q) nn2)]=>bc (Nat.beq m 5) (some ⟨bc (Nat.beq len q.length) (bc (eqN nn nn2) (bc (Nat.ble q.length 800) (bc (decide (t≤100)) (bc (decide (0≤n)) (decide (n≤100)) false) false) false) false) false,.tup [],KT t n p (q ++ twsQ n t) (bc (decide (0 < t)) (bc nn2 true (Nat.blt 0 n.toNat)) nn2),5,4⟩) none
  | _=>none
 | _=>none
open MTw in
theorem spTw_ok:ZMtOk Try.prog 69 spTw:=fun γ w0 w us ax K0 m r hs hc hres hax hH=>by
 have noN:∀ {x:ZMR} {b:Bool},bc b (some x) none=some r→b=true∧x=r:=fun {x b} h=>by
  cases b
  ·cases h
  ·exact ⟨rfl,Option.some.inj h⟩
 unfold spTw at hs;split at hs
 ·split at hs
  ·rename_i t n p;obtain ⟨hm,rfl⟩:=noN hs;have hm:=Nat.eq_of_beq_eq_true hm;subst hm;obtain ⟨h1,hc⟩:=bcT (show bc (decide (t≤100)) (bc (decide (0≤n)) (decide (n≤100)) false) false=true from hc)
   obtain ⟨h2,h3⟩:=bcT hc;exact (endN (p:=p) (of_decide_eq_true h1) (of_decide_eq_true h2) (of_decide_eq_true h3)).calls ctW_ok (by kernel_rfl) hres hax hH
  ·rename_i t n p len nn q nn2;obtain ⟨hm,rfl⟩:=noN hs;have hm:=Nat.eq_of_beq_eq_true hm;subst hm;obtain ⟨h1,hc⟩:=bcT (show bc (Nat.beq len q.length) (bc (eqN nn nn2) (bc (Nat.ble q.length 800) (bc (decide (t≤100)) (bc (decide (0≤n)) (decide (n≤100)) false) false) false) false) false=true from hc)
   obtain ⟨h2,hc⟩:=bcT hc;obtain ⟨h3,hc⟩:=bcT hc;obtain ⟨h4,hc⟩:=bcT hc;obtain ⟨h5,h6⟩:=bcT hc;have h1:=Nat.eq_of_beq_eq_true h1;have h2:=eqN_ok h2;subst h1;subst h2;exact (endS (p:=p) (q:=q) (nn:=nn) (of_decide_eq_true h4) (of_decide_eq_true h5) (of_decide_eq_true h6) (Nat.le_of_ble_eq_true h3)).calls ctW_ok (by kernel_rfl) hres hax hH
  ·cases hs
 ·cases hs

namespace MBo
noncomputable def R (s:ES):ZF:=RMs 3 72 ctW [(atS 0 72 1,[[(0,none),(1,none),(2,none)]])] [] [(2,3,103,.recs shW [])] s
noncomputable abbrev K0 (n p:Int) (x:EV) (r:List (Nat × EK)):List (Nat × EK):=[(0,.cells 3 [iv n] true),(1,.cells 96 [.ptr 2 0] true),(2,.cells 98 [iv p,x] true)] ++ r
noncomputable abbrev ax:List EV:=[.ptr 0 0,.ptr 1 0]

noncomputable def sN (n p k:Int):NS:=⟨[⟨72,17,[(0,(EV.ptr 0 0)),(1,(EV.ptr 1 0)),(2,iv k)],[.it (.code (nav [1,0,0,0] (bodyOf Try.f72))),.it (.code (nav [1,0,0,1] (bodyOf Try.f72))),.it (.inLoop (nav [1,0,0] (bodyOf Try.f72))),.it (.inBlock 0)],[],Option.none⟩],[(0,(EK.cells 3 [(EV.v (Value.int IntKind.i64 (n)))] true)),(1,(EK.cells 96 [(EV.ptr 2 0)] true)),(2,(EK.cells 98 [(EV.v (Value.int IntKind.i64 (p))),(EV.v (Value.slice Option.none 0 0))] true))],3⟩
noncomputable def sS (n p k:Int) (q:List (List U)) (nn:Bool):NS:=⟨[⟨72,17,[(0,(EV.ptr 0 0)),(1,(EV.ptr 1 0)),(2,iv k)],[.it (.code (nav [1,0,0,0] (bodyOf Try.f72))),.it (.code (nav [1,0,0,1] (bodyOf Try.f72))),.it (.inLoop (nav [1,0,0] (bodyOf Try.f72))),.it (.inBlock 0)],[],Option.none⟩],[(0,(EK.cells 3 [(EV.v (Value.int IntKind.i64 (n)))] true)),(1,(EK.cells 96 [(EV.ptr 2 0)] true)),(2,(EK.cells 98 [(EV.v (Value.int IntKind.i64 (p))),(EV.slO 3 3 (List.length q) (nn))] true)),(3,(EK.seq 103 (SyC.recs [(Sh.int IntKind.i64),(Sh.int IntKind.i64),Sh.str] (q)) (nn)))],4⟩
theorem inN (n p:Int):R (st0m 72 ax (K0 n p (.v (.slice none 0 0)) []) 3)=(.at (sN (n) (p) (IntKind.wrap IntKind.i64 (n - (1:Int))))):=by kernel_rfl
theorem inS (n p:Int) (q:List (List U)) (nn:Bool):R (st0m 72 ax (K0 n p (.slO 3 3 q.length nn) [(3,.seq 103 (.recs shW q) nn)]) 4)=(.at (sS (n) (p) (IntKind.wrap IntKind.i64 (n - (1:Int))) (q) (nn))):=by kernel_rfl
theorem stN (n p k:Int):R (stOf (sN n p k))=(bc (decide ((0:Int)≤k))
 (bc (bc (bc (bc (decide ((-1000:Int)≤k)) (bc (decide (k≤(1000:Int))) (bc (decide ((-1000:Int)≤IntKind.wrap IntKind.i64 (IntKind.wrap IntKind.i64 (k+n) - (1:Int)))) (decide (IntKind.wrap IntKind.i64 (IntKind.wrap IntKind.i64 (k+n) - (1:Int))≤(1000:Int))) false) false) false) (bc (bc (Nat.ble (List.length (wayL k (IntKind.wrap IntKind.i64 (IntKind.wrap IntKind.i64 (k+n) - (1:Int))))) (60000:Nat)) true false) true false) false) true false)
  (.at (sS (n) (p) (IntKind.wrap IntKind.i64 (k - (1:Int))) ([] ++ List.map (wk { data:=#[(67:UInt8),(84:UInt8),(67:UInt8)] }) (wayL k (IntKind.wrap IntKind.i64 (IntKind.wrap IntKind.i64 (k+n) - (1:Int))))) (Nat.blt (0:Nat) (List.length (wayL k (IntKind.wrap IntKind.i64 (IntKind.wrap IntKind.i64 (k+n) - (1:Int))))))))
  .bad)
 (.done (EV.tup []) [(0,(EK.cells 3 [(EV.v (Value.int IntKind.i64 (n)))] true)),(1,(EK.cells 96 [(EV.ptr 2 0)] true)),(2,(EK.cells 98 [(EV.v (Value.int IntKind.i64 (p))),(EV.slO 3 3 0 false)] true)),(3,(EK.seq 103 (SyC.recs [(Sh.int IntKind.i64),(Sh.int IntKind.i64),Sh.str] []) false))] 4)):=by kernel_rfl
theorem stS (n p k:Int) (q:List (List U)) (nn:Bool):R (stOf (sS n p k q nn))=(bc (decide ((0:Int)≤k))
 (bc (bc (bc (bc (decide ((-1000:Int)≤k)) (bc (decide (k≤(1000:Int))) (bc (decide ((-1000:Int)≤IntKind.wrap IntKind.i64 (IntKind.wrap IntKind.i64 (k+n) - (1:Int)))) (decide (IntKind.wrap IntKind.i64 (IntKind.wrap IntKind.i64 (k+n) - (1:Int))≤(1000:Int))) false) false) false) (bc (bc (bc (Nat.beq (List.length q) (List.length q)) (bc (eqN nn nn) (bc (Nat.ble (List.length (wayL k (IntKind.wrap IntKind.i64 (IntKind.wrap IntKind.i64 (k+n) - (1:Int))))) (60000:Nat)) (Nat.blt (Nat.add (List.length q) (List.length (wayL k (IntKind.wrap IntKind.i64 (IntKind.wrap IntKind.i64 (k+n) - (1:Int)))))) (65536:Nat)) false) false) false) true false) true false) false) true false)
  (.at (sS (n) (p) (IntKind.wrap IntKind.i64 (k - (1:Int))) (q ++ List.map (wk { data:=#[(67:UInt8),(84:UInt8),(67:UInt8)] }) (wayL k (IntKind.wrap IntKind.i64 (IntKind.wrap IntKind.i64 (k+n) - (1:Int))))) (bc nn true (Nat.blt (0:Nat) (List.length (wayL k (IntKind.wrap IntKind.i64 (IntKind.wrap IntKind.i64 (k+n) - (1:Int)))))))))
  .bad)
 (.done (EV.tup []) [(0,(EK.cells 3 [(EV.v (Value.int IntKind.i64 (n)))] true)),(1,(EK.cells 96 [(EV.ptr 2 0)] true)),(2,(EK.cells 98 [(EV.v (Value.int IntKind.i64 (p))),(EV.slO 3 3 (List.length q) (nn))] true)),(3,(EK.seq 103 (SyC.recs [(Sh.int IntKind.i64),(Sh.int IntKind.i64),Sh.str] (q)) (nn)))] 4)):=by kernel_rfl
theorem upI_len:∀ (k:Nat) (a:Int),(upI a k).length=k
 | 0,_=>rfl
 | k+1,a=>by unfold upI;simp [upI_len k]
theorem wayL_len {k n:Int} (h:1≤n):(wayL k (k+n - 1)).length=n.toNat:=by
 unfold wayL
 by_cases h1:k < k+n - 1
 ·rw [dt h1,bc_t,List.length_cons,upI_len];omega
 ·rw [df h1,bc_f];have e:(k - (k+n - 1)).toNat=0:=by omega
  rw [e];show 1=_;omega
noncomputable def rowQ (n:Int) (k:Nat):List (List U):=(wayL k ((k:Int)+n - 1)).map (wk bCTC)
noncomputable def bodyQ (n:Int):Nat→List (List U)
 | 0=>[]
 | k+1=>rowQ n k ++ bodyQ n k
theorem goS {n p:Int} {k:Nat} {q:List (List U)} {nn:Bool} (hk:k≤100) (h1:1≤n) (hn:n≤100) (hq:q.length≤60000):R (stOf (sS n p k q nn)) = .at (sS n p ((k:Int) - 1) (q ++ rowQ n k) true):=by
 rw [stS];have hl:=wayL_len (k:=k) h1;simp (disch:=omega) only [Nat.add_eq,eqSy_self,eqN_self,bc_same,List.length_cons,ofn,wrap_in,dt,df,bltD,bltN,ble_of,bleN,beqD,bc_t,bc_f,nn_ok,Nat.zero_add,to_nat,Int.zero_add,Int.sub_zero,Int.sub_self,Int.cast_ofNat_Int,Int.natCast_zero,Int.toNat_zero,List.take_zero,List.nil_append,List.length_append,List.length_nil,hl];rfl
theorem goN {n p:Int} {k:Nat} (hk:k≤100) (h1:1≤n) (hn:n≤100):R (stOf (sN n p k)) = .at (sS n p ((k:Int) - 1) (rowQ n k) true):=by
 rw [stN];have hl:=wayL_len (k:=k) h1;simp (disch:=omega) only [Nat.add_eq,eqSy_self,eqN_self,bc_same,List.length_cons,ofn,wrap_in,dt,df,bltD,bltN,ble_of,bleN,beqD,bc_t,bc_f,nn_ok,Nat.zero_add,to_nat,Int.zero_add,Int.sub_zero,Int.sub_self,Int.cast_ofNat_Int,Int.natCast_zero,Int.toNat_zero,List.take_zero,List.nil_append,List.length_append,List.length_nil,hl];rfl
noncomputable abbrev KB (n p:Int) (q:List (List U)) (nn:Bool):List (Nat × EK):=K0 n p (.slO 3 3 q.length nn) [(3,.seq 103 (.recs shW q) nn)]
theorem finS {n p:Int} {q:List (List U)} {nn:Bool}:R (stOf (sS n p (-1) q nn)) = .done (.tup []) (KB n p q nn) 4:=by
 rw [stS];simp (disch:=omega) only [Nat.add_eq,eqSy_self,eqN_self,bc_same,List.length_cons,ofn,wrap_in,dt,df,bltD,bltN,ble_of,bleN,beqD,bc_t,bc_f,nn_ok,Nat.zero_add,to_nat,Int.zero_add,Int.sub_zero,Int.sub_self,Int.cast_ofNat_Int,Int.natCast_zero,Int.toNat_zero,List.take_zero,List.nil_append,List.length_append,List.length_nil];rfl
theorem loopS {n p:Int} (h1:1≤n) (hn:n≤100):∀ (k:Nat) (q:List (List U)) ,k≤100→q.length+k * 100≤60000→EndM 3 72 ctW (stOf (sS n p ((k:Int) - 1) q true)) (.tup []) (KB n p (q ++ bodyQ n k) true) 4
 | 0,q,hk,hq=>by
  rw [show bodyQ n 0=[] from rfl,List.append_nil]
  exact .done finS
 | k+1,q,hk,hq=>by
  rw [show bodyQ n (k+1)=rowQ n k ++ bodyQ n k from rfl,← List.append_assoc,show ((k+1:Nat):Int) - 1=k by omega]
  have hl:(rowQ n k).length=n.toNat:=by unfold rowQ;rw [List.length_map,wayL_len h1]
  exact .at ctW_ok (goS (by omega) h1 hn (by omega)) (loopS h1 hn k _ (by omega) (by rw [List.length_append,hl];omega))
end MBo
noncomputable def bodQ (n:Int):List (List U):=MBo.bodyQ n n.toNat
open MBo in
theorem MBo.endS {n p:Int} {q:List (List U)} {nn:Bool} (h1:1≤n) (hn:n≤100) (hq:q.length≤1000):EndM 3 72 ctW (st0m 72 ax (K0 n p (.slO 3 3 q.length nn) [(3,.seq 103 (.recs shW q) nn)]) 4) (.tup []) (KB n p (q ++ bodQ n) true) 4:=by
 obtain ⟨k,rfl⟩:∃ k:Nat,n=((k+1:Nat):Int):=⟨(n - 1).toNat,by omega⟩;have h:=inS ((k+1:Nat):Int) p q nn;rw [wrap_in _ (by omega) (by omega),show ((k+1:Nat):Int) - 1=k by omega] at h;have hl:(rowQ ((k+1:Nat):Int) k).length=k+1:=by unfold rowQ;rw [List.length_map,wayL_len h1];omega
 have e:q ++ bodQ ((k+1:Nat):Int)=(q ++ rowQ ((k+1:Nat):Int) k) ++ bodyQ ((k+1:Nat):Int) k:=by
  unfold bodQ;rw [Int.toNat_natCast];show q ++ (rowQ _ k ++ bodyQ _ k)=_;simp
 rw [e];exact .at ctW_ok h (.at ctW_ok (goS (by omega) h1 hn (by omega)) (loopS h1 hn k _ (by omega) (by rw [List.length_append,hl];omega)))
open MBo in
theorem MBo.endN {n p:Int} (h1:1≤n) (hn:n≤100):EndM 3 72 ctW (st0m 72 ax (K0 n p (.v (.slice none 0 0)) []) 3) (.tup []) (KB n p (bodQ n) true) 4:=by
 obtain ⟨k,rfl⟩:∃ k:Nat,n=((k+1:Nat):Int):=⟨(n - 1).toNat,by omega⟩;have h:=inN ((k+1:Nat):Int) p;rw [wrap_in _ (by omega) (by omega),show ((k+1:Nat):Int) - 1=k by omega] at h;have hl:(rowQ ((k+1:Nat):Int) k).length=k+1:=by unfold rowQ;rw [List.length_map,wayL_len h1];omega
 have e:bodQ ((k+1:Nat):Int)=rowQ ((k+1:Nat):Int) k ++ bodyQ ((k+1:Nat):Int) k:=by
  unfold bodQ;rw [Int.toNat_natCast];rfl
 rw [e];exact .at ctW_ok h (.at ctW_ok (goN (by omega) h1 hn) (loopS h1 hn k _ (by omega) (by rw [hl];omega)))
open MBo in
noncomputable def spBo:ZMT:=fun ax K0 m=>match ax with
 | [.ptr 0 0,.ptr 1 0]=>match K0 with
  | [(0,.cells 3 [.v (.int .i64 n)] true),(1,.cells 96 [.ptr 2 0] true),(2,.cells 98 [.v (.int .i64 p),.v (.slice none 0 0)] true)]=>bc (Nat.beq m 3) (some ⟨bc (decide (1≤n)) (decide (n≤100)) false,.tup [],KB n p (bodQ n) true,4,3⟩) none
  | [(0,.cells 3 [.v (.int .i64 n)] true),(1,.cells 96 [.ptr 2 0] true),(2,.cells 98 [.v (.int .i64 p),.slO 3 3 len nn] true),(3,.seq 103 (.recs [.int .i64,.int .i64,.str] q) nn2)]=>bc (Nat.beq m 4) (some ⟨bc (Nat.beq len q.length) (bc (eqN nn nn2) (bc (Nat.ble q.length 1000) (bc (decide (1≤n)) (decide (n≤100)) false) false) false) false,.tup [],KB n p (q ++ bodQ n) true,4,3⟩) none
  | _=>none
 | _=>none
open MBo in
theorem spBo_ok:ZMtOk Try.prog 72 spBo:=fun γ w0 w us ax K0 m r hs hc hres hax hH=>by
 have noN:∀ {x:ZMR} {b:Bool},bc b (some x) none=some r→b=true∧x=r:=fun {x b} h=>by
  cases b
  ·cases h
  ·exact ⟨rfl,Option.some.inj h⟩
 unfold spBo at hs;split at hs
 ·split at hs
  ·rename_i n p;obtain ⟨hm,rfl⟩:=noN hs;have hm:=Nat.eq_of_beq_eq_true hm;subst hm;obtain ⟨h1,h2⟩:=bcT (show bc (decide (1≤n)) (decide (n≤100)) false=true from hc)
   exact (endN (p:=p) (of_decide_eq_true h1) (of_decide_eq_true h2)).calls ctW_ok (by kernel_rfl) hres hax hH
  ·rename_i n p len nn q nn2;obtain ⟨hm,rfl⟩:=noN hs;have hm:=Nat.eq_of_beq_eq_true hm;subst hm;obtain ⟨h1,hc⟩:=bcT (show bc (Nat.beq len q.length) (bc (eqN nn nn2) (bc (Nat.ble q.length 1000) (bc (decide (1≤n)) (decide (n≤100)) false) false) false) false=true from hc)
   obtain ⟨h2,hc⟩:=bcT hc;obtain ⟨h3,hc⟩:=bcT hc;obtain ⟨h4,h5⟩:=bcT hc;have h1:=Nat.eq_of_beq_eq_true h1;have h2:=eqN_ok h2;subst h1;subst h2;exact (endS (p:=p) (q:=q) (nn:=nn) (of_decide_eq_true h4) (of_decide_eq_true h5) (Nat.le_of_ble_eq_true h3)).calls ctW_ok (by kernel_rfl) hres hax hH
  ·cases hs
 ·cases hs
noncomputable def ctS:Tr ZCC:=(ctW.put 69 (some (mC spTw))).put 72 (some (mC spBo))
theorem ctS_ok:ZCtsOk Try.prog ctS:=(ctW_ok.addM rfl spTw_ok).addM rfl spBo_ok
end Go.Proofs.Ytfffbioafhppiaa.EvM
