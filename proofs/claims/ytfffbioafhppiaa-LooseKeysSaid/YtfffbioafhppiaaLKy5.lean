/- Laid together: A row of its own behind a nest. No program is named. Runs over open leaves that fork: one run says what comes of all cases. No program is named. Runs over open leaves to a place, with new numbers there; calls. No program is named. Runs of a call whose arguments lead to memory that it changes: the first k numbers stay what they are. No program is named. The table of .. -/
import Derived.Test.YtfffbioafhppiaaChecked
import Derived.Test.YtfffbioafhppiaaLKy4
set_option linter.unusedSimpArgs false
set_option linter.unusedVariables false
namespace Go.Proofs.Ytfffbioafhppiaa.Ev
open Go.RowKit
variable {P:Program} {γ γ':G} {w0:Bs} {w:World} {H H':Tr EK} {n n':Nat} {T:Tr EV} {tmps:Array Value} {o:Oper}

def RowB (γ:G) (i v:Nat) (sh:List Sh) (rows:List (List U)) (k:Nat):Prop:=∃ (j f:Nat) (s:List Sh) (m:Nat × Nat),j < rows.length∧sh[f]? = some (.list s)∧γ.rw i v (j * sh.length+f)=some (k,m)

def HR.baseN (h:HR γ w0 H n w) {i v:Nat} {ty:TypeId × List TypeId} {sh:List Sh} {rows:List (List U)} {nn:Bool} (hg:H.get i=some (.nest i ty sh rows v [] nn)):Bs:=⟨w,fun c=>w0.F c∨RowB γ i v sh rows c,fun c hc=>by
 rcases hc with hc | ⟨j,f,s,m,h1,h2,h3⟩
 ·have h1:=w0.lt c hc
  have h2:=h.stays.size
  omega
 ·obtain ⟨_,_,_,_,arr,ty',⟨fz,h5,_⟩,_⟩:=h.fzk.nst.at' i i ty sh rows v [] nn hg j f s h1 h2 (by simp) c m h3
  exact (Array.getElem?_eq_some_iff.1 h5).1,w0.res,w0.fb⟩
theorem HR.nestCells (h:HR γ w0 H n w) {i v:Nat} (hi:Nat.ble i 65535=true) {ty:TypeId × List TypeId} {sh:List Sh} {rows:List (List U)} {nn:Bool} (hg:H.get i=some (.nest i ty sh rows v [] nn)) (hnil:¬ (EK.nest i ty sh rows v [] nn).Nil) {CS:List EV} (hk:∀ b m,γ i=some (b,m)→(EK.nest i ty sh rows v [] nn).ok γ b m w→(EK.cells ty.1 CS false).ok γ b m w) :
  HR γ (h.baseN hg) (H.put i (some (.cells ty.1 CS false))) n w:=by
 have look:∀ q kq,(H.put i (some (.cells ty.1 CS false))).get q=some kq→(q=i∧kq = .cells ty.1 CS false)∨(q≠i∧H.get q=some kq):=fun q kq hq=>by
  rw [Tr.get_put hi] at hq;split at hq
  ·rename_i e;injection hq with hq;exact .inl ⟨e,hq.symm⟩
  ·rename_i e;exact .inr ⟨e,hq⟩
 have back:∀ q kq,(H.put i (some (.cells ty.1 CS false))).get q=some kq→¬ kq.Nil→∃ k1,H.get q=some k1∧¬ k1.Nil:=fun q kq hq nq=>by
  rcases look q kq hq with ⟨rfl,_⟩ | ⟨_,g2⟩
  ·exact ⟨_,hg,hnil⟩
  ·exact ⟨kq,g2,nq⟩
 have nF:∀ q k1 b m,H.get q=some k1→¬ k1.Nil→γ q=some (b,m)→¬ w0.F b.k→¬ (h.baseN hg).F b.k:=fun q k1 b m h1 h2 h3 h4 hf=>by
  rcases hf with hf | ⟨j,f,s,m2,r1,r2,r3⟩
  ·exact h4 hf
  ·obtain ⟨_,_,g3,_⟩:=h.fzk.nst.at' i i ty sh rows v [] nn hg j f s r1 r2 (by simp) _ m2 r3;exact g3 q k1 b m h1 h2 h3 rfl
 refine ⟨fun q kq hq=>?_,fun q l kq kl hq hl nq nl hne bq bl eq el=>?_,h.fresh,h.rsv,h.lt,⟨rfl,rfl,rfl,Nat.le_refl _,fun _ _=>rfl⟩,⟨fun k a hk'=>?_,h.fzk.base,h.fzk.nst.rwg,fun q me2 ty2 sh2 rows2 v2 ho2 nn2 e=>?_,fun q me2 ty2 sh2 rows2 v2 ho2 nn2 e j1 f1 x1 hj1 hf1 hh1 k1 m1 hk1=>?_⟩⟩
 ·rcases look q kq hq with ⟨rfl,rfl⟩ | ⟨_,g2⟩
  ·obtain ⟨b,m,h1,h2,h3⟩:=h.hp q _ hg hnil;exact .inr ⟨b,m,h1,nF q _ b m hg hnil h1 h2,hk b m h1 h3⟩
  ·refine h.imp0 g2 fun nk b m h1 h2 h3=>⟨b,m,h1,nF q kq b m g2 nk h1 h2,h3⟩
 ·obtain ⟨k1,q1,q2⟩:=back q kq hq nq;obtain ⟨k2,r1,r2⟩:=back l kl hl nl;exact h.inj0 q l k1 k2 q1 r1 q2 r2 hne bq bl eq el
 ·obtain ⟨q1,q2,q3⟩:=h.fzk.at' k a hk';refine ⟨q1,?_,fun q kq b m hq nq eq=>?_⟩
  ·rcases q2 with q2 | q2
   ·exact .inl q2
   ·refine .inr fun hf=>?_;rcases hf with hf | ⟨j,f,s,m2,r1,r2,r3⟩
    ·exact q2 hf
    ·obtain ⟨_,g2,_⟩:=h.fzk.nst.at' i i ty sh rows v [] nn hg j f s r1 r2 (by simp) _ m2 r3;rw [hk'] at g2;cases g2
  ·obtain ⟨k1,r1,r2⟩:=back q kq hq nq;exact q3 q k1 b m r1 r2 eq
 ·rcases look q _ e with ⟨_,h2⟩ | ⟨_,g2⟩
  ·cases h2
  ·exact h.fzk.nst.me q me2 ty2 sh2 rows2 v2 ho2 nn2 g2
 ·rcases look q _ e with ⟨_,h2⟩ | ⟨hqi,g2⟩
  ·cases h2
  ·obtain ⟨q1,q2,q3,q4,q5⟩:=h.fzk.nst.at' q me2 ty2 sh2 rows2 v2 ho2 nn2 g2 j1 f1 x1 hj1 hf1 hh1 k1 m1 hk1;refine ⟨fun hf=>?_,q2,fun i' ki b m' hi' ni ei=>?_,fun i2 me3 ty3 sh3 rows3 v3 ho3 nn3 e2 j2 f2 s2 hj2 hf2 hh2 m2 hk2=>?_,q5⟩
   ·rcases hf with hf | ⟨j,f,s,m2,r1,r2,r3⟩
    ·exact q1 hf
    ·have:=q4 i i ty sh rows v [] nn hg j f s r1 r2 (by simp) m2 r3;exact hqi this.1.symm
   ·obtain ⟨k2,r1,r2⟩:=back i' ki hi' ni;exact q3 i' k2 b m' r1 r2 ei
   ·rcases look i2 _ e2 with ⟨_,h2⟩ | ⟨_,r2⟩
    ·cases h2
    ·exact q4 i2 me3 ty3 sh3 rows3 v3 ho3 nn3 r2 j2 f2 s2 hj2 hf2 hh2 m2 hk2

def G.nestAt (γ γ':G) (n i v L:Nat):G:=⟨fun a=>if a=n+1 then γ' n else γ' a,γ'.fz,fun a v' q=>if a=n+1 then (if v'=0∧q < L then γ.rw i v q else none) else γ'.rw a v' q⟩
theorem HR.nestBack {B:Bs} {i v:Nat} {ty:TypeId × List TypeId} {s1:List Sh} {rows:List (List U)} (hnb:Nat.ble n 65535=true) (hnb2:Nat.ble (n+1) 65535=true) {H1:Tr EK} {w':World} (h':HR γ' B H1 (n+1) w') (hst:w0.Stays w') (sub:∀ k,w0.F k→B.F k) (hfb:∀ k,B.fb k↔w0.fb k) (hrsv:∀ q,w0.res q→B.res q)
  (hrow:∀ j k m,j < rows.length→γ.rw i v j=some (k,m)→B.F k∧¬ w0.F k∧¬ w0.fb k∧(∀ j2 m2,j2 < rows.length→γ.rw i v j2=some (k,m2)→j2=j)∧∃ (arr:Array Value) (ty':TypeId),Cl w' k arr ty'∧(arr.size=m.1+m.2∧ty'=ty.2.getD 0 0)∧∀ (a g:Nat) (s:Sh),a < (((rows.getD j []).getD 0 (.i 0)).list).length→s1[g]? = some s→∃ x,arr[m.1+(a * s1.length+g)]? = some x∧EC γ' (s.ev (((((rows.getD j []).getD 0 (.i 0)).list).getD a []).getD g (.i 0))) x)
  {CS:List EV} (hg1:H1.get n=some (.cells ty.1 CS false)) {r0:List U}
  (hok:∀ b m,γ' n=some (b,m)→(EK.cells ty.1 CS false).ok γ' b m w'→(EK.nest (n+1) ty [.list s1] (rows ++ [r0]) 0 [(rows.length,0)] true).ok (G.nestAt γ γ' n i v rows.length) b m w') :
  GLe γ' (G.nestAt γ γ' n i v rows.length)∧HR (G.nestAt γ γ' n i v rows.length) w0 ((H1.put n none).put (n+1) (some (.nest (n+1) ty [.list s1] (rows ++ [r0]) 0 [(rows.length,0)] true))) (n+2) w':=by
 have hfr:γ' (n+1)=none:=h'.fresh _ (Nat.le_refl _);have hrwn:∀ v' q,γ'.rw (n+1) v' q=none:=fun v' q=>by
  cases e:γ'.rw (n+1) v' q with
  | none=>rfl
  | some p=>obtain ⟨b,hb⟩:=h'.fzk.nst.rwg _ _ _ _ e;rw [hfr] at hb;cases hb
 have gN:(G.nestAt γ γ' n i v rows.length) (n+1)=γ' n:=if_pos rfl;have gO:∀ a,a≠n+1→(G.nestAt γ γ' n i v rows.length) a=γ' a:=fun a ha=>if_neg ha;have rO:∀ a v' q,a≠n+1→(G.nestAt γ γ' n i v rows.length).rw a v' q=γ'.rw a v' q:=fun a v' q ha=>if_neg ha;have rN:∀ v' q,(G.nestAt γ γ' n i v rows.length).rw (n+1) v' q=if v'=0∧q < rows.length then γ.rw i v q else none:=fun v' q=>if_pos rfl
 have hle2:GLe γ' (G.nestAt γ γ' n i v rows.length):=by
  refine ⟨fun a p e=>?_,fun k a e=>e,fun a v' q p e=>?_⟩
  ·have:a≠n+1:=fun x=>by rw [x,hfr] at e;cases e
   rw [gO a this];exact e
  ·have:a≠n+1:=fun x=>by rw [x,hrwn] at e;cases e
   rw [rO a v' q this];exact e
 refine ⟨hle2,?_⟩;have look:∀ q kq,((H1.put n none).put (n+1) (some (.nest (n+1) ty [.list s1] (rows ++ [r0]) 0 [(rows.length,0)] true))).get q=some kq→(q=n+1∧kq = .nest (n+1) ty [.list s1] (rows ++ [r0]) 0 [(rows.length,0)] true)∨(q≠n+1∧q≠n∧H1.get q=some kq):=fun q kq hq=>by
  rw [Tr.get_put hnb2] at hq;split at hq
  ·rename_i e;injection hq with hq;exact .inl ⟨e,hq.symm⟩
  ·rename_i e;rw [Tr.get_put hnb] at hq;split at hq
   ·cases hq
   ·rename_i e2;exact .inr ⟨e,e2,hq⟩
 have cn:¬ (EK.cells ty.1 CS false).Nil:=id;have back:∀ q kq,((H1.put n none).put (n+1) (some (.nest (n+1) ty [.list s1] (rows ++ [r0]) 0 [(rows.length,0)] true))).get q=some kq→¬ kq.Nil→∃ q1 k1,H1.get q1=some k1∧¬ k1.Nil∧(G.nestAt γ γ' n i v rows.length) q=γ' q1∧(q=n+1∧q1=n∨q≠n+1∧q≠n∧q1=q):=fun q kq hq nq=>by
  rcases look q kq hq with ⟨rfl,_⟩ | ⟨g1,g2,g3⟩
  ·exact ⟨n,_,hg1,cn,gN,.inl ⟨rfl,rfl⟩⟩
  ·exact ⟨q,kq,g3,nq,gO q g1,.inr ⟨g1,g2,rfl⟩⟩
 refine ⟨fun q kq hq=>?_,fun q l kq kl hq hl nq nl hne bq bl eq el=>?_,fun q hq=>?_,fun q hq=>?_,fun q p e=>?_,hst,⟨fun k a hk=>?_,fun k hk=>h'.fzk.base k ((hfb k).2 hk),fun a v' q p e=>?_,fun q me2 ty2 sh2 rows2 v2 ho2 nn2 e=>?_,fun q me2 ty2 sh2 rows2 v2 ho2 nn2 e j1 f1 x1 hj1 hf1 hh1 k1 m1 hk1=>?_⟩⟩
 ·rcases look q kq hq with ⟨rfl,rfl⟩ | ⟨g1,g2,g3⟩
  ·obtain ⟨b,m,e1,e2,e3⟩:=h'.hp n _ hg1 cn;exact .inr ⟨b,m,gN.trans e1,fun hf=>e2 (sub _ hf),hok b m e1 e3⟩
  ·refine h'.imp0 g3 fun nk b m e1 e2 e3=>⟨b,m,(gO q g1).trans e1,fun hf=>e2 (sub _ hf),?_⟩
   cases kq with
   | nest me2 ty2 sh2 rows2 v2 ho2 nn2=>
    obtain ⟨rfl,_⟩:=h'.fzk.nst.me q me2 ty2 sh2 rows2 v2 ho2 nn2 g3;obtain ⟨c,c1,c2,c3,c4⟩:=e3;refine ⟨c,c1,c2,c3,fun j f s hj hf hh=>?_⟩;obtain ⟨x,x1,x2⟩:=c4 j f s hj hf hh;refine ⟨x,x1,?_⟩
    cases s with
    | list sh=>
     rcases x2 with ⟨y1,y2⟩ | ⟨k,m,c',y1,y2⟩
     ·exact .inl ⟨trivial,y2⟩
     ·exact .inr ⟨k,m,c',(rO _ _ _ g1).trans y1,y2⟩
    | int k=>exact EC.mono hle2 x2
    | bool=>exact EC.mono hle2 x2
    | str=>exact EC.mono hle2 x2
   | _=>exact EK.ok_monoB rfl hle2 rfl e3
 ·obtain ⟨q1,k1,a1,a2,a3,a4⟩:=back q kq hq nq;obtain ⟨q2,k2,b1,b2,b3,b4⟩:=back l kl hl nl;rw [a3] at eq;rw [b3] at el;refine h'.inj0 q1 q2 k1 k2 a1 b1 a2 b2 ?_ bq bl eq el;rcases a4 with ⟨r1,r2⟩ | ⟨r1,r2,r3⟩ <;> rcases b4 with ⟨t1,t2⟩ | ⟨t1,t2,t3⟩ <;> omega
 ·rw [gO q (by omega)];exact h'.fresh q (by omega)
 ·have:=h'.rsv q (hrsv q hq);exact ⟨(gO q (by omega)).trans this.1,by omega⟩
 ·by_cases hq:q=n+1
  ·rw [hq,gN] at e;exact h'.lt n p e
  ·rw [gO q hq] at e;exact h'.lt q p e
 ·obtain ⟨q1,q2,q3⟩:=h'.fzk.at' k a hk;refine ⟨q1,q2.imp (hfb k).1 fun q2 hf=>q2 (sub k hf),fun q kq b m hq nq eq=>?_⟩;obtain ⟨r1,k1,a1,a2,a3,_⟩:=back q kq hq nq;rw [a3] at eq;exact q3 r1 k1 b m a1 a2 eq
 ·by_cases ha:a=n+1
  ·subst ha;obtain ⟨b,m,e1,_⟩:=h'.hp n _ hg1 cn;exact ⟨(b,m),gN.trans e1⟩
  ·rw [rO a v' q ha] at e;obtain ⟨b,hb⟩:=h'.fzk.nst.rwg a v' q p e;exact ⟨b,(gO a ha).trans hb⟩
 ·rcases look q _ e with ⟨rfl,h2⟩ | ⟨g1,g2,g3⟩
  ·injection h2 with y1 y2 y3 y4 y5 y6 y7
   subst y1;subst y5;refine ⟨rfl,fun v' q hv=>?_⟩;rw [rN,if_neg (by omega)]
  ·obtain ⟨r1,r2⟩:=h'.fzk.nst.me q me2 ty2 sh2 rows2 v2 ho2 nn2 g3;exact ⟨r1,fun v' q' hv=>(rO q v' q' g1).trans (r2 v' q' hv)⟩
 ·rcases look q _ e with ⟨rfl,h2⟩ | ⟨g1,g2,g3⟩
  ·injection h2 with y1 y2 y3 y4 y5 y6 y7
   subst y1;subst y2;subst y3;subst y4;subst y5;subst y6;subst y7;have hf0:f1=0∧x1=s1:=by
    cases f1 with
    | zero=>exact ⟨rfl,by simpa using hf1.symm⟩
    | succ f1=>cases hf1
   obtain ⟨rfl,rfl⟩:=hf0;have hj:j1 < rows.length:=by
    rw [List.length_append,List.length_singleton] at hj1;have:j1≠rows.length:=fun x=>hh1 (by rw [x];exact List.mem_singleton.2 rfl);omega
   have hr:γ.rw i v j1=some (k1,m1):=by
    rw [rN] at hk1;split at hk1
    ·simpa using hk1
    ·cases hk1
   obtain ⟨hF,q1,qb,q4,arr,ty',q5,q6,q7⟩:=hrow j1 k1 m1 hj hr;refine ⟨q1,?_,fun a ka b m' ha na ea hb=>?_,fun i2 me2 ty2 sh2 rows2 v2 ho2 nn2 e2 j2 f2 s2 hj2 hf2 hh2 m2 hk2=>?_,arr,ty',q5,q6,fun a g s ha hs=>?_⟩
   ·show γ'.fz k1=none
    cases z:γ'.fz k1 with
    | none=>rfl
    | some a=>
     obtain ⟨_,z2,_⟩:=h'.fzk.at' k1 a z;rcases z2 with z2 | z2
     ·exact absurd ((hfb k1).1 z2) qb
     ·exact absurd hF z2
   ·obtain ⟨r1,k2,a1,a2,a3,_⟩:=back a ka ha na;rw [a3] at ea;obtain ⟨b3,m3,e4,e5,_⟩:=h'.hp r1 k2 a1 a2;rw [ea] at e4;simp only [Option.some.injEq,Prod.mk.injEq] at e4;obtain ⟨rfl,_⟩:=e4;rw [hb] at e5;exact e5 hF
   ·rcases look i2 _ e2 with ⟨rfl,h2⟩ | ⟨t1,t2,t3⟩
    ·injection h2 with y1 y2 y3 y4 y5 y6 y7
     subst y1;subst y2;subst y3;subst y4;subst y5;subst y6;subst y7;have hf0:f2=0:=by
      cases f2 with
      | zero=>rfl
      | succ f2=>cases hf2
     subst hf0;rw [rN] at hk2;split at hk2
     ·rename_i hc;exact ⟨rfl,q4 j2 m2 (by simpa using hc.2) (by simpa using hk2),rfl⟩
     ·cases hk2
    ·rw [rO _ _ _ t1] at hk2;obtain ⟨u1,_⟩:=h'.fzk.nst.at' i2 me2 ty2 sh2 rows2 v2 ho2 nn2 t3 j2 f2 s2 hj2 hf2 hh2 k1 m2 hk2;exact absurd hF u1
   ·have e1:(rows ++ [r0]).getD j1 []=rows.getD j1 []:=by
     rw [List.getD_eq_getElem?_getD,List.getD_eq_getElem?_getD,List.getElem?_append_left hj]
    rw [e1] at ha ⊢;obtain ⟨x,x1,x2⟩:=q7 a g s ha hs;exact ⟨x,x1,x2.mono hle2⟩
  ·rw [rO q _ _ g1] at hk1;obtain ⟨q1,q2,q3,q4,arr,ty',q5,q6,q7⟩:=h'.fzk.nst.at' q me2 ty2 sh2 rows2 v2 ho2 nn2 g3 j1 f1 x1 hj1 hf1 hh1 k1 m1 hk1;refine ⟨fun hf=>q1 (sub _ hf),q2,fun a ka b m' ha na ea=>?_,fun i2 me3 ty3 sh3 rows3 v3 ho3 nn3 e2 j2 f2 s2 hj2 hf2 hh2 m2 hk2=>?_,arr,ty',q5,q6,fun a g s ha hs=>?_⟩
   ·obtain ⟨r1,k2,a1,a2,a3,_⟩:=back a ka ha na;rw [a3] at ea;exact q3 r1 k2 b m' a1 a2 ea
   ·rcases look i2 _ e2 with ⟨rfl,h2⟩ | ⟨t1,t2,t3⟩
    ·injection h2 with y1 y2 y3 y4 y5 y6 y7
     subst y1;subst y2;subst y3;subst y4;subst y5;subst y6;subst y7;have hf0:f2=0:=by
      cases f2 with
      | zero=>rfl
      | succ f2=>cases hf2
     subst hf0;rw [rN] at hk2;split at hk2
     ·rename_i hc;exact absurd (hrow (j2 * [Sh.list s1].length+0) k1 m2 hc.2 hk2).1 q1
     ·cases hk2
    ·rw [rO _ _ _ t1] at hk2;exact q4 i2 me3 ty3 sh3 rows3 v3 ho3 nn3 t3 j2 f2 s2 hj2 hf2 hh2 m2 hk2
   ·obtain ⟨x,x1,x2⟩:=q7 a g s ha hs;exact ⟨x,x1,x2.mono hle2⟩
theorem nest_fin {B:Bs} {i v r:Nat} {ty:TypeId × List TypeId} {s1:List Sh} {rows:List (List U)} {c:SyC} {xr v':Value} (hnb:Nat.ble n 65535=true) (hnb2:Nat.ble (n+1) 65535=true) (hrb:Nat.ble r 65535=true) {H1:Tr EK} {w':World} (h':HR γ' B H1 (n+1) w') (hst:w0.Stays w') (sub:∀ k,w0.F k→B.F k) (hfb:∀ k,B.fb k↔w0.fb k) (hrsv:∀ q,w0.res q→B.res q)
  (hrow:∀ j k m,j < rows.length→γ.rw i v j=some (k,m)→B.F k∧¬ w0.F k∧¬ w0.fb k∧(∀ j2 m2,j2 < rows.length→γ.rw i v j2=some (k,m2)→j2=j)∧∃ (arr:Array Value) (ty':TypeId),Cl w' k arr ty'∧(arr.size=m.1+m.2∧ty'=ty.2.getD 0 0)∧∀ (a g:Nat) (s:Sh),a < (((rows.getD j []).getD 0 (.i 0)).list).length→s1[g]? = some s→∃ x,arr[m.1+(a * s1.length+g)]? = some x∧EC γ' (s.ev (((((rows.getD j []).getD 0 (.i 0)).list).getD a []).getD g (.i 0))) x)
  {CS:List EV} (hg1:H1.get n=some (.cells ty.1 (CS ++ [.v xr]) false)) (hCl:CS.length=rows.length) (hCS:∀ j,j < rows.length→∃ x,CS[j]? = some (.v x)∧SlR γ i v j s1.length ((rows.getD j []).getD 0 (.i 0)).list.length x)
  (hgr:H1.get r=some (.seq (ty.2.getD 0 0) c true)) (hrn:r < n) (hsh:c.sh=s1) (hxr:EC γ' (.slO r s1.length c.cnt true) xr) (hv:EC γ' (.slO n 1 (rows.length+1) true) v') :
  ∃ γ3,GLe γ' γ3∧HR γ3 w0 (((H1.put n none).put r none).put (n+1) (some (.nest (n+1) ty [.list s1] (rows ++ [[.l c.rows]]) 1 [] true))) (n+2) w'∧EC γ3 (.slO (n+1) 1 (rows.length+1) true) v':=by
 have one:∀ j:Nat,j * [Sh.list s1].length+0=j:=fun j=>by show j * 1+0=j;omega
 obtain ⟨hle,h2⟩:=HR.nestBack (γ:=γ) (i:=i) (v:=v) (rows:=rows) (s1:=s1) hnb hnb2 h' hst sub hfb hrsv hrow hg1 (r0:=[.l []]) fun b m hb ⟨ca,c1,c2,c3,c4,c5⟩=>by
  refine ⟨ca,c1,c2,?_,fun j f s hj hf hh=>?_⟩
  ·rw [List.length_append,List.length_singleton] at c3 ⊢;show (rows.length+1) * 1≤m;omega
  ·have hf0:f=0∧s = .list s1:=by
    cases f with
    | zero=>exact ⟨rfl,by simpa using hf.symm⟩
    | succ f=>cases hf
   obtain ⟨rfl,rfl⟩:=hf0;have hj:j < rows.length:=by
    rw [List.length_append,List.length_singleton] at hj;have:j≠rows.length:=fun x=>hh (by rw [x];exact List.mem_singleton.2 rfl);omega
   obtain ⟨x,x1,x2⟩:=hCS j hj;have x3:(CS ++ [EV.v xr])[j]? = some (.v x):=by rw [List.getElem?_append_left (by omega)];exact x1
   obtain ⟨u,hu,hcu⟩:=c5.at x3;have:u=x:=by cases hcu;rfl
   subst this;rw [List.getElem?_take] at hu;split at hu
   case isFalse=>cases hu
   rw [List.getElem?_drop,Array.getElem?_toList] at hu;refine ⟨u,by rw [one];exact hu,?_⟩;rw [one];have e1:(rows ++ [[U.l []]]).getD j []=rows.getD j []:=by
    rw [List.getD_eq_getElem?_getD,List.getD_eq_getElem?_getD,List.getElem?_append_left hj]
   rw [e1];have e2:(G.nestAt γ γ' n i v rows.length).rw (n+1) 0 j=γ.rw i v j:=by
    show (if n+1=n+1 then (if (0:Nat)=0∧j < rows.length then γ.rw i v j else none) else _)=_
    rw [if_pos rfl,if_pos ⟨rfl,hj⟩]
   rcases x2 with ⟨y1,y2⟩ | ⟨k,m2,c',y1,y2⟩
   ·exact .inl ⟨trivial,y2⟩
   ·exact .inr ⟨k,m2,c',e2.trans y1,y2⟩
 have hcl:(rows ++ [[U.l []]]).length=rows.length+1:=by rw [List.length_append,List.length_singleton]
 have hg2:((H1.put n none).put (n+1) (some (.nest (n+1) ty [.list s1] (rows ++ [[U.l []]]) 0 [(rows.length,0)] true))).get (n+1)=some (.nest (n+1) ty [.list s1] (rows ++ [[U.l []]]) 0 [(rows.length,0)] true):=by rw [Tr.get_put hnb2,if_pos rfl]
 have hgr2:((H1.put n none).put (n+1) (some (.nest (n+1) ty [.list s1] (rows ++ [[U.l []]]) 0 [(rows.length,0)] true))).get r=some (.seq (ty.2.getD 0 0) c true):=by rw [Tr.get_put hnb2,if_neg (by omega),Tr.get_put hnb,if_neg (by omega)];exact hgr
 have hnil2:¬ (EK.nest (n+1) ty [.list s1] (rows ++ [[U.l []]]) 0 [(rows.length,0)] true).Nil:=fun e=>by cases e.1
 have hxr2:=hxr.mono hle
 cases hxr2 with
 | slO _ _ _ _ _ hs=>
 obtain ⟨b2,m2,cp,q1,rfl,q2,q3,q4⟩:=hs.2 rfl;obtain ⟨hle3,h3⟩:=h2.rowIn hnb2 hrb (by omega) hg2 hnil2 (j:=rows.length) (f:=0) (sh':=s1) (ho':=[]) (by rw [hcl];omega) rfl (fun p hp=>by
   by_cases e:p=(rows.length,0)
   ·exact .inr e
   ·exact .inl fun hm=>e (List.mem_singleton.1 hm)) (L:=c.rows) hgr2 q1 (fun ca g1 g2 g3 a g s ha hs=>by
   have ha2:a < c.cnt:=by rw [c.cnt_eq];exact ha
   have hs':c.sh[g]? = some s:=by rw [hsh];exact hs
   have hg2:g < c.cz:=by rw [c.cz_sh];exact (List.getElem?_eq_some_iff.1 hs').1
   have hcell:=SyC.cellE_enc ha2 hg2;obtain ⟨u,hu,hcu⟩:=g3.at hcell;rw [List.getElem?_take] at hu;split at hu
   case isFalse=>cases hu
   rw [List.getElem?_drop,Array.getElem?_toList] at hu;rw [← hsh,← c.cz_sh];exact ⟨u,hu,by rw [SyC.ev_cellE ha hs'];exact hcu⟩) (fun bi mi ci e1 e2=>by
   have e1':γ' n=some (bi,mi):=by
    have:(G.nestAt γ γ' n i v rows.length) (n+1)=γ' n:=if_pos rfl;rw [← this];exact e1
   obtain ⟨b3,m3,k1,k2,ca,c1,c2,c3,c4,c5⟩:=h'.hp n _ hg1 id;rw [e1'] at k1;simp only [Option.some.injEq,Prod.mk.injEq] at k1;obtain ⟨rfl,rfl⟩:=k1;have x3:(CS ++ [EV.v (Value.slice (some (b2.at 0)) c.cnt cp)])[rows.length]? = some (.v (Value.slice (some (b2.at 0)) c.cnt cp)):=by rw [← hCl,List.getElem?_append_right (Nat.le_refl _),Nat.sub_self];rfl
   obtain ⟨u,hu,hcu⟩:=c5.at x3;have hu2:u=Value.slice (some (b2.at 0)) c.cnt cp:=by cases hcu;rfl
   subst hu2;rw [List.getElem?_take] at hu;split at hu
   case isFalse=>cases hu
   rw [List.getElem?_drop,Array.getElem?_toList] at hu;obtain ⟨fz1,g4,_⟩:=e2;obtain ⟨fz2,g5,_⟩:=c1;rw [g4] at g5;simp only [Option.some.injEq,Obj.cells.injEq] at g5;refine ⟨cp,?_,by rw [← c.cnt_eq];exact q2,q3,q4⟩;rw [one,g5.1,hu,← c.cnt_eq];rfl)
 refine ⟨_,hle.trans hle3,?_,?_⟩
 ·refine h3.congr fun q kq hq=>?_;have er:(rows ++ [[U.l []]]).set rows.length (rset 0 (.l c.rows) ((rows ++ [[U.l []]]).getD rows.length []))=rows ++ [[.l c.rows]]:=by
   have e5:(rows ++ [[U.l []]]).getD rows.length []=[U.l []]:=by
    rw [List.getD_eq_getElem?_getD,List.getElem?_append_right (Nat.le_refl _),Nat.sub_self];rfl
   rw [e5,List.set_append_right _ _ (Nat.le_refl _),Nat.sub_self];rfl
  rw [er];rw [Tr.get_put hnb2] at hq ⊢;split at hq
  ·rename_i e;rw [if_pos e];exact hq
  ·rename_i e;rw [if_neg e];rw [Tr.get_put hrb] at hq ⊢;split at hq
   ·cases hq
   ·rename_i e2;rw [if_neg e2,Tr.get_put hnb2,if_neg e];exact hq
 ·have hv2:=hv.mono hle;refine EC.mono hle3 ?_
  cases hv with
  | slO _ _ _ _ _ hs2=>
   obtain ⟨b5,m5,c5,t1,t2⟩:=hs2.2 rfl;exact .slO _ _ _ _ _ ⟨nofun,fun _=>⟨b5,m5,c5,(if_pos rfl:(G.nestAt γ γ' n i v rows.length) (n+1)=γ' n).trans t1,t2⟩⟩

noncomputable def apNst (ei:EI) (i z len:Nat) (nn:Bool) (m:Nat) (news:List EV) (H:Tr EK) (n:Nat):Option YR:=match H.get i,news with
 | some (.nest _ ty [.list s1] rows v [] nn'),[.slO r z2 len2 nn2]=>match H.get r with
  | some (.seq tyr c nnr)=>bc (Nat.beq m 1) (bc (Nat.beq z 1) (bc (Nat.beq ei.z 1) (bc (Nat.beq ei.e ty.1) (bc (Nat.beq z2 (llen s1)) (bc (shsEq c.sh s1) (bc (Nat.beq tyr (ty.2.getD 0 0)) (bc (Nat.ble i 65535) (bc (Nat.ble r 65535) (bc (Nat.ble (n+1) 65535) (bc (Nat.beq r i) none
    (some ⟨bc nn2 (bc nnr (bc (Nat.beq len2 c.cnt) (bc (Nat.beq len rows.length) (bc (Nat.ble (len+1) 65536) (bc nn' true (bc nn false true)) false) false) false) false) false,⟨some (.slO (n+1) 1 (len+1) true),(((H.put i none).put n none).put r none).put (n+1) (some (.nest (n+1) ty [.list s1] (rows ++ [[.l c.rows]]) 1 [] true)),n+2⟩⟩)) none) none) none) none) none) none) none) none) none) none
  | _=>none
 | _,_=>none
theorem bcN {α:Type} {b:Bool} {x e y:α} (h:bc b x e=y) (hn:e≠y):b=true∧x=y:=by
 cases b with
 | false=>exact absurd h hn
 | true=>exact ⟨rfl,h⟩
theorem ecl_v (γ:G) (l:List Value):ECL γ (l.map EV.v) l:=⟨by simp,fun j a y ha hy=>by
 rw [List.getElem?_map,hy] at ha;injection ha with ha;subst ha
 exact .v _⟩
theorem apNst_ok (hT:TOk γ T tmps) (hH:HR γ w0 H n w) {t ty:TypeId} {ei:EI} (hei:elemInfo P t=some ei) {i z len:Nat} {nn:Bool} {vs:Value} {m:Nat} {news:List EV} {r:YR} (hs:EC γ (.slO i z len nn) vs) {a:Addr} {ca:Nat} {ns:List Value} (hcn:ECL γ news ns) (hnl:ns.length=m * ei.z) (hnc:∀ j u,ns[j]? = some u→w.cell? (a.add j)=some u) (h:apNst ei i z len nn m news H n=some r) (hc:r.c=true) :
  ∃ γ' w' v',GLe γ γ'∧HR γ' w0 r.er.H r.er.n w'∧(Builtin.append_ #[t,t] ty #[vs,.slice (some a) m ca]).run P w = .ok v' w'∧∃ a,r.er.val=some a∧EC γ' a v':=by
 unfold apNst at h;split at h
 case h_2=>cases h
 rename_i me tyN s1 rows v nn' r0 z2 len2 nn2 hg;split at h
 case h_2=>cases h
 rename_i tyr c nnr hgr;obtain ⟨k1,h⟩:=bcN h nofun;obtain ⟨k2,h⟩:=bcN h nofun;obtain ⟨k3,h⟩:=bcN h nofun;obtain ⟨k4,h⟩:=bcN h nofun;obtain ⟨k5,h⟩:=bcN h nofun;obtain ⟨k6,h⟩:=bcN h nofun;obtain ⟨k7,h⟩:=bcN h nofun;obtain ⟨hi,h⟩:=bcN h nofun;obtain ⟨hrb,h⟩:=bcN h nofun;obtain ⟨hnb2,h⟩:=bcN h nofun;rw [bc_eq] at h;split at h
 case isTrue=>cases h
 rename_i hri;injection h with h;subst h
 obtain ⟨d1,hc⟩:=bcN (show bc nn2 _ _=true from hc) nofun;obtain ⟨d2,hc⟩:=bcN hc nofun;obtain ⟨d3,hc⟩:=bcN hc nofun;obtain ⟨d4,hc⟩:=bcN hc nofun;obtain ⟨d5,d6⟩:=bcN hc nofun;have k1:=Nat.eq_of_beq_eq_true k1;have k2:=Nat.eq_of_beq_eq_true k2;have k3:=Nat.eq_of_beq_eq_true k3;have k4:=Nat.eq_of_beq_eq_true k4;have k5:=Nat.eq_of_beq_eq_true k5;rw [llen_eq] at k5;have k6:=shsEq_ok k6;have k7:=Nat.eq_of_beq_eq_true k7;have d3:=Nat.eq_of_beq_eq_true d3;have d4:=Nat.eq_of_beq_eq_true d4
 have hri:r0≠i:=fun e=>hri (by rw [e];exact Nat.beq_refl i);subst k1;subst k2;subst k5;subst k7;subst d1;subst d2;subst d3;subst d4;have hnb:Nat.ble n 65535=true:=Nat.ble_eq_true_of_le (by have:=Nat.le_of_ble_eq_true hnb2;omega);obtain ⟨hme,_⟩:=hH.fzk.nst.me i me tyN [.list s1] rows v [] nn' hg;have hme:=hme.symm;subst hme;obtain ⟨xr,us,rfl,hxr,hus⟩:=ECL.inv hcn;have hus:us=[]:=List.eq_nil_of_length_eq_zero (by have:=hus.1;simpa using this.symm);subst hus;have hrnil:¬ (EK.seq (tyN.2.getD 0 0) c true).Nil:=fun e=>by cases e.1
 have hrn:r0 < n:=by
  obtain ⟨b,mm,e1,_⟩:=hH.hp r0 _ hgr hrnil;rcases Nat.lt_or_ge r0 n with h | h
  ·exact h
  ·rw [hH.fresh r0 h] at e1;cases e1
 have hone:allOne [EV.v xr]=true:=by
  cases hxr with
  | slO _ _ _ _ _ hs=>obtain ⟨b2,m2,cp,q1,rfl,_⟩:=hs.2 rfl;rfl
 have hcv:ECL γ [EV.v xr] [xr]:=ecl_v γ [xr]
 cases nn with
 | false=>
  obtain ⟨rfl,hl0⟩:=slO_nil hs;have hr0:rows=[]:=List.eq_nil_of_length_eq_zero hl0;subst hr0;have hap:exAppendN ei (.v (.slice none 0 0)) 1 [EV.v xr] H n=some ⟨some (.sl n ei.z 0 (0+1) none),H.put n (some (.cells ei.e ([] ++ [EV.v xr]) false)),Nat.succ n⟩:=by
   unfold exAppendN exGrow;simp only [bc_eq,Nat.beq_refl,hnb,hone];rfl
  obtain ⟨γ',w',v',q1,q2,q3,a2,q4,q5⟩:=exAppendN_ok (ty:=ty) (c:=ca) hT hH hei (.v (γ:=γ) (.slice none 0 0)) hcv hnl hnc hap;injection q4 with q4;subst q4;have q6:=sl_slO q5;rw [k3] at q6;rw [k4] at q2
  obtain ⟨γ3,g1,g2,g3⟩:=nest_fin (γ:=γ) (i:=i) (v:=v) (rows:=[]) (r:=r0) (c:=c) (s1:=s1) (ty:=tyN) (CS:=[]) hnb hnb2 hrb q2 q2.stays (fun _ h=>h) (fun _=>Iff.rfl) (fun _ h=>h) (fun j k m hj=>absurd hj (Nat.not_lt_zero _)) (by rw [Tr.get_put hnb,if_pos rfl]) rfl (fun j hj=>absurd hj (Nat.not_lt_zero _)) (by rw [Tr.get_put hnb,if_neg (by omega)];exact hgr) hrn k6 (hxr.mono q1) q6;refine ⟨γ3,w',v',q1.trans g1,g2.congr fun q kq hq=>?_,q3,_,rfl,g3⟩;rw [Tr.get_put hnb2] at hq ⊢;split at hq
  ·rename_i e;rw [if_pos e];exact hq
  ·rename_i e;rw [if_neg e];rw [Tr.get_put hrb] at hq ⊢;split at hq
   ·cases hq
   ·rename_i e2;rw [if_neg e2];rw [Tr.get_put hnb] at hq ⊢;split at hq
    ·cases hq
    ·rename_i e3;rw [if_neg e3,Tr.get_put hnb,if_neg e3];rw [Tr.get_put hi] at hq;split at hq
     ·cases hq
     ·exact hq
 | true=>
  have hnn':nn'=true:=by
   cases nn' with
   | true=>rfl
   | false=>cases d6
  subst hnn';have hnil:¬ (EK.nest i tyN [.list s1] rows v [] true).Nil:=fun e=>by cases e.1
  obtain ⟨b,mm,e1,e2,cc,c1,c2,c3,c4⟩:=hH.hp i _ hg hnil;have c3:rows.length * 1≤mm:=c3;have hlenx:((cc.toList.drop b.s).take rows.length).length=rows.length:=by
   have h9:cc.toList.length=b.s+mm:=by rw [Array.length_toList,c2]
   rw [List.length_take,List.length_drop];omega
  have hCl:(((cc.toList.drop b.s).take rows.length).map EV.v).length=rows.length:=by rw [List.length_map,hlenx]
  have hCS:∀ j,j < rows.length→∃ x,(((cc.toList.drop b.s).take rows.length).map EV.v)[j]? = some (.v x)∧SlR γ i v j s1.length ((rows.getD j []).getD 0 (.i 0)).list.length x:=fun j hj=>by
   obtain ⟨x,x1,x2⟩:=c4 j 0 (.list s1) hj rfl (by simp);have e5:j * [Sh.list s1].length+0=j:=by show j * 1+0=j;omega
   rw [e5] at x1 x2;refine ⟨x,?_,x2⟩;rw [List.getElem?_map,List.getElem?_take,if_pos hj,List.getElem?_drop,Array.getElem?_toList,x1];rfl
  generalize hCSd:((cc.toList.drop b.s).take rows.length).map EV.v=CS at hCl hCS;have hR1:=hH.nestCells hi hg hnil (CS:=CS) fun b' m' hb _=>by
   rw [e1] at hb;simp only [Option.some.injEq,Prod.mk.injEq] at hb;obtain ⟨rfl,rfl⟩:=hb;refine ⟨cc,c1,c2,by omega,(fun e=>by cases e),?_⟩;rw [hCl,← hCSd];exact ecl_v γ _
  obtain ⟨_,hsl⟩:=slO_sl hs (.inl rfl);have hgi:(H.put i (some (EK.cells tyN.1 CS false))).get i=some (.cells tyN.1 CS false):=by rw [Tr.get_put hi,if_pos rfl]
  have hca:cellsAt (H.put i (some (.cells tyN.1 CS false))) i=some (tyN.1,CS,false):=by unfold cellsAt;rw [hgi]
  have hap:exAppendN ei (.sl i 1 0 rows.length none) 1 [EV.v xr] (H.put i (some (.cells tyN.1 CS false))) n=some ⟨some (.sl n ei.z 0 (rows.length+1) none),((H.put i (some (.cells tyN.1 CS false))).put i none).put n (some (.cells ei.e (((CS.drop 0).take (Nat.mul rows.length 1)) ++ [EV.v xr]) false)),Nat.succ n⟩:=by
   unfold exAppendN;simp only [bc_eq,k3,k4,Nat.beq_refl,hca];have e3:Nat.ble (Nat.add 0 (Nat.mul rows.length 1)) (llen CS)=true:=by
    rw [llen_eq,hCl];exact Nat.ble_eq_true_of_le (show 0+rows.length * 1≤rows.length by omega)
   simp only [e3,hi];unfold exGrow;simp only [bc_eq,hnb,hone,show Nat.ble (Nat.add rows.length 1) 65536=true from d5,if_true]
  obtain ⟨γ',w',v',q1,q2,q3,a2,q4,q5⟩:=exAppendN_ok (ty:=ty) (c:=ca) hT hR1 hei hsl hcv hnl hnc hap;injection q4 with q4;subst q4;have q6:=sl_slO q5;rw [k3] at q6;have e6:(CS.drop 0).take (Nat.mul rows.length 1)=CS:=by
   rw [List.drop_zero,show Nat.mul rows.length 1=CS.length by rw [hCl];exact Nat.mul_one _,List.take_length]
  rw [k4,e6] at q2;have q2:HR γ' (hH.baseN hg) (((H.put i (some (.cells tyN.1 CS false))).put i none).put n (some (.cells tyN.1 (CS ++ [EV.v xr]) false))) (n+1) w':=q2;have hst:w0.Stays w':=⟨q2.stays.os.trans hH.stays.os,q2.stays.tape.trans hH.stays.tape,q2.stays.output.trans hH.stays.output,Nat.le_trans hH.stays.size q2.stays.size,fun k hk=>(q2.stays.block k (.inl hk)).trans (hH.stays.block k hk)⟩
  obtain ⟨γ3,g1,g2,g3⟩:=nest_fin (γ:=γ) (i:=i) (v:=v) (rows:=rows) (r:=r0) (c:=c) (s1:=s1) (ty:=tyN) (CS:=CS) hnb hnb2 hrb q2 hst (fun _ h=>.inl h) (fun _=>Iff.rfl) (fun _ h=>h) (fun j k m hj hr=>by
   have hr2:γ.rw i v (j * [Sh.list s1].length+0)=some (k,m):=by show γ.rw i v (j * 1+0)=_;rw [Nat.mul_one,Nat.add_zero];exact hr
   obtain ⟨p1,p2,p3,p4,arr,ty',p5,p6,p7⟩:=hH.fzk.nst.at' i i _ [.list s1] rows v [] true hg j 0 s1 hj rfl (by simp) k m hr2;have hF:(hH.baseN hg).F k:=.inr ⟨j,0,s1,m,hj,rfl,hr2⟩;refine ⟨hF,p1,fun hb=>?_,fun j2 m2 hj2 hr3=>?_,arr,ty',p5.mono (q2.stays.block k hF),p6,fun a g s ha hs=>?_⟩
   ·obtain ⟨a3,z⟩:=hH.fzk.base k hb;rw [p2] at z;cases z
   ·exact (p4 i i _ [.list s1] rows v [] true hg j2 0 s1 hj2 rfl (by simp) m2 (by show γ.rw i v (j2 * 1+0)=_;rw [Nat.mul_one,Nat.add_zero];exact hr3)).2.1
   ·obtain ⟨x,x1,x2⟩:=p7 a g s ha hs;exact ⟨x,x1,x2.mono q1⟩) (by rw [Tr.get_put hnb,if_pos rfl]) hCl hCS (by rw [Tr.get_put hnb,if_neg (by omega),Tr.get_put hi,if_neg hri,Tr.get_put hi,if_neg hri];exact hgr) hrn k6 (hxr.mono q1) q6
  refine ⟨γ3,w',v',q1.trans g1,g2.congr fun q kq hq=>?_,q3,_,rfl,g3⟩;rw [Tr.get_put hnb2] at hq ⊢;split at hq
  ·rename_i e;rw [if_pos e];exact hq
  ·rename_i e;rw [if_neg e];rw [Tr.get_put hrb] at hq ⊢;split at hq
   ·cases hq
   ·rename_i e2;rw [if_neg e2];rw [Tr.get_put hnb] at hq ⊢;split at hq
    ·cases hq
    ·rename_i e3;rw [if_neg e3,Tr.get_put hnb,if_neg e3];rw [Tr.get_put hi] at hq ⊢;split at hq
     ·cases hq
     ·rename_i e4;rw [if_neg e4,Tr.get_put hi,if_neg e4];exact hq

noncomputable def apNs0 (ei:EI) (m:Nat) (news:List EV) (H:Tr EK) (n:Nat):Option YR:=match news with
 | [.slO r z2 len2 nn2]=>match H.get r with
  | some (.seq tyr c nnr)=>bc (Nat.beq m 1) (bc (Nat.beq ei.z 1) (bc (Nat.beq z2 (llen c.sh)) (bc (Nat.ble r 65535) (bc (Nat.ble (n+1) 65535)
    (some ⟨bc nn2 (bc nnr (Nat.beq len2 c.cnt) false) false,⟨some (.slO (n+1) 1 (0+1) true),((H.put n none).put r none).put (n+1) (some (.nest (n+1) (ei.e,[tyr]) [.list c.sh] [[.l c.rows]] 1 [] true)),n+2⟩⟩) none) none) none) none) none
  | _=>none
 | _=>none
theorem apNs0_ok (hT:TOk γ T tmps) (hH:HR γ w0 H n w) {t ty:TypeId} {ei:EI} (hei:elemInfo P t=some ei) {m:Nat} {news:List EV} {r:YR} {a:Addr} {ca:Nat} {ns:List Value} (hcn:ECL γ news ns) (hnl:ns.length=m * ei.z) (hnc:∀ j u,ns[j]? = some u→w.cell? (a.add j)=some u) (h:apNs0 ei m news H n=some r) (hc:r.c=true) :
  ∃ γ' w' v',GLe γ γ'∧HR γ' w0 r.er.H r.er.n w'∧(Builtin.append_ #[t,t] ty #[.slice none 0 0,.slice (some a) m ca]).run P w = .ok v' w'∧∃ a,r.er.val=some a∧EC γ' a v':=by
 unfold apNs0 at h;split at h
 case h_2=>cases h
 rename_i r0 z2 len2 nn2;split at h
 case h_2=>cases h
 rename_i tyr c nnr hgr;obtain ⟨k1,h⟩:=bcN h nofun;obtain ⟨k3,h⟩:=bcN h nofun;obtain ⟨k5,h⟩:=bcN h nofun;obtain ⟨hrb,h⟩:=bcN h nofun;obtain ⟨hnb2,h⟩:=bcN h nofun;injection h with h;subst h
 obtain ⟨d1,hc⟩:=bcN (show bc nn2 _ _=true from hc) nofun;obtain ⟨d2,d3⟩:=bcN hc nofun;have k1:=Nat.eq_of_beq_eq_true k1;have k3:=Nat.eq_of_beq_eq_true k3;have k5:=Nat.eq_of_beq_eq_true k5;rw [llen_eq] at k5;have d3:=Nat.eq_of_beq_eq_true d3;subst k1;subst k5;subst d1;subst d2;subst d3;have hnb:Nat.ble n 65535=true:=Nat.ble_eq_true_of_le (by have:=Nat.le_of_ble_eq_true hnb2;omega);obtain ⟨xr,us,rfl,hxr,hus⟩:=ECL.inv hcn;have hus:us=[]:=List.eq_nil_of_length_eq_zero (by have:=hus.1;simpa using this.symm);subst hus
 have hrnil:¬ (EK.seq tyr c true).Nil:=fun e=>by cases e.1
 have hrn:r0 < n:=by
  obtain ⟨b,mm,e1,_⟩:=hH.hp r0 _ hgr hrnil;rcases Nat.lt_or_ge r0 n with h | h
  ·exact h
  ·rw [hH.fresh r0 h] at e1;cases e1
 have hone:allOne [EV.v xr]=true:=by
  cases hxr with
  | slO _ _ _ _ _ hs=>obtain ⟨b2,m2,cp,q1,rfl,_⟩:=hs.2 rfl;rfl
 have hcv:ECL γ [EV.v xr] [xr]:=ecl_v γ [xr];have hap:exAppendN ei (.v (.slice none 0 0)) 1 [EV.v xr] H n=some ⟨some (.sl n ei.z 0 (0+1) none),H.put n (some (.cells ei.e ([] ++ [EV.v xr]) false)),Nat.succ n⟩:=by
  unfold exAppendN exGrow;simp only [bc_eq,Nat.beq_refl,hnb,hone];rfl
 obtain ⟨γ',w',v',q1,q2,q3,a2,q4,q5⟩:=exAppendN_ok (ty:=ty) (c:=ca) hT hH hei (.v (γ:=γ) (.slice none 0 0)) hcv hnl hnc hap;injection q4 with q4;subst q4;have q6:=sl_slO q5;rw [k3] at q6
 obtain ⟨γ3,g1,g2,g3⟩:=nest_fin (γ:=γ) (i:=0) (v:=0) (rows:=[]) (r:=r0) (c:=c) (s1:=c.sh) (ty:=(ei.e,[tyr])) (CS:=[]) hnb hnb2 hrb q2 q2.stays (fun _ h=>h) (fun _=>Iff.rfl) (fun _ h=>h) (fun j k m hj=>absurd hj (Nat.not_lt_zero _)) (by rw [Tr.get_put hnb,if_pos rfl]) rfl (fun j hj=>absurd hj (Nat.not_lt_zero _)) (by rw [Tr.get_put hnb,if_neg (by omega)];exact hgr) hrn rfl (hxr.mono q1) q6;refine ⟨γ3,w',v',q1.trans g1,g2.congr fun q kq hq=>?_,q3,_,rfl,g3⟩;rw [Tr.get_put hnb2] at hq ⊢;split at hq
 ·rename_i e;rw [if_pos e];exact hq
 ·rename_i e;rw [if_neg e];rw [Tr.get_put hrb] at hq ⊢;split at hq
  ·cases hq
  ·rename_i e2;rw [if_neg e2];rw [Tr.get_put hnb] at hq ⊢;split at hq
   ·cases hq
   ·rename_i e3;rw [if_neg e3,Tr.get_put hnb,if_neg e3];exact hq

noncomputable def zNapO (P:Program) (T:Tr EV) (args:List Operand) (ats:List TypeId) (H:Tr EK) (n:Nat):Option YR:=match args,ats with
 | [x,y],[t,u]=>bc (Nat.beq t u) (match elemInfo P t with
  | some ei=>match exVal T x with
   | some a=>match exVal T y with
    | some b=>match newsOf H ei.z b with
     | some (m,news)=>match a with
      | .slO i z len nn=>apNst ei i z len nn m news H n
      | .v (.slice none 0 0)=>apNs0 ei m news H n
      | _=>none
     | none=>none
    | none=>none
   | none=>none
  | none=>none) none
 | _,_=>none
theorem zNapO_ok (hT:TOk γ T tmps) (hH:HR γ w0 H n w) {args:Array Operand} {ats:Array TypeId} {r:YR} (ho:o.op = .call { callee:=.builtin .append,args:=args,argTypes:=ats }) (h:zNapO P T args.toList ats.toList H n=some r) (hc:r.c=true):Gives P γ w0 w (execOp (opEval tmps) o) r.er.val r.er.H r.er.n:=by
 unfold zNapO at h;split at h
 case h_2=>cases h
 rename_i x y t u hargs hats;have ha2:args = #[x,y]:=by apply Array.ext';simpa using hargs
 have ha3:ats = #[t,u]:=by apply Array.ext';simpa using hats
 subst ha2;subst ha3;obtain ⟨htu,hh⟩:=bcN h nofun;clear h;have htu:=Nat.eq_of_beq_eq_true htu;subst htu;split at hh
 case h_2=>cases hh
 rename_i ei hei;split at hh
 case h_2=>cases hh
 rename_i a ha;split at hh
 case h_2=>cases hh
 rename_i b hb;split at hh
 case h_2=>cases hh
 rename_i m news hnw;have hy:=exVal_ok hT hb;obtain ⟨ad,cap,vs,hvx,hcn,hnl,hnc⟩:=newsOf_ok hH hy hnw;have main:∃ γ' w' v',GLe γ γ'∧HR γ' w0 r.er.H r.er.n w'∧(Builtin.append_ #[t,t] o.type #[opEval tmps x,opEval tmps y]).run P w = .ok v' w'∧∃ a,r.er.val=some a∧EC γ' a v':=by
  rw [hvx];split at hh
  case h_3=>cases hh
  ·exact apNst_ok hT hH hei (exVal_ok hT ha) hcn hnl hnc hh hc
  ·rw [ec_v (exVal_ok hT ha)];exact apNs0_ok hT hH hei hcn hnl hnc hh hc
 obtain ⟨γ',w',v',h1,h2,h3,av,h4,h5⟩:=main;refine ⟨γ',w',h1,h2,?_⟩;rw [h4];refine ⟨v',?_,h5⟩;simp [execOp,ho,resolve,invoke,builtin,h3]
end Go.Proofs.Ytfffbioafhppiaa.Ev
namespace Go.Proofs.Ytfffbioafhppiaa.Ev
open Go.RowKit
variable {P:Program} {γ γ':G} {w0:Bs} {w:World} {H H':Tr EK} {n n':Nat} {T:Tr EV} {cs:List Frame} {fid:FuncId} {FT:Tr FI} {tmps:Array Value} {o:Oper} {α:Type}


noncomputable def opG (s:ES) (ops:Array Oper) (o:Oper) (l:List Oper) (k:List IM) (er:ER):EO:=match setD s.top.T s.top.N o.dst (er.val.getD (.v undef)) with
 | some T'=>.go { s with top:={ s.top with T:=T',todo:=.ops ops l :: k },H:=er.H,n:=er.n }
 | none=>.fail
theorem opG_ok {s:ES} {ops:Array Oper} {l:List Oper} {k:List IM} {i:Nat} {rest:List Nat} {todo:List Item} {ds:List Deferred} {ro:Option Nat} {frs:List Frame} {er:ER}
  (hret:s.top.ret=false) (h1:tmps.size=s.top.N) (h2:TOk γ s.top.T tmps) (hk:All2 (IR γ) k todo) (h4:All2 (DR γ) s.top.dfs ds) (h5:RR γ s.top.round ro) (hfs:All2 (FR γ) s.rest frs) (hH:HR γ w0 s.H s.n w)
  (ho:ops[i]? = some o) (hrest:rest.map (ops[·]?)=l.map some) (hw:Region.wanted o (yielded ops tmps)=true) (hs:SndL P .nil s.top.T o s.H s.n (er.val.getD (.v undef)) er.H er.n) :
  SOk P γ w0 cs fid (lone (fram s.top.fn tmps (.inRegion ops (i :: rest) :: todo) ds ro) (frs ++ cs) w) (opG s ops o l k er):=by
 unfold opG;split
 case h_2=>trivial
 rename_i T' hT';obtain ⟨γ',w',x,hle,hH2,hcx,hst⟩:=hs γ w0 w s.top.fn tmps ops i rest todo ds ro (frs ++ cs) (ROk.none _ _) h2 hH ho hw;obtain ⟨g1,g2⟩:=setD_ok (h2.mono hle) h1 hT' hcx;exact ⟨γ',_,hle,hst,_,frs,w',rfl,⟨_,_,ds,ro,by simp [fram,hret,modeOf],g2,g1,.cons (.ops ops l rest hrest) (hk.mono fun _ _ h=>h.mono hle),h4.mono fun _ _ h=>h.mono hle,h5.mono hle⟩,hfs.mono fun _ _ h=>h.mono hle,hH2⟩

noncomputable def flRw (ct:Tr ZCC):Bool:=Option.isSome (ct.get 2)
noncomputable def rowPart (T:Tr EV) (l:List (Nat × Operand)):Bool:=match l with
 | [(_,x)]=>match exVal T x with
  | some (.slO _ _ _ _)=>true
  | _=>false
 | _=>false

noncomputable def zMkF (P:Program) (ct:Tr ZCC) (T:Tr EV) (o:Oper) (H:Tr EK) (n:Nat):Option YR:=match o.op with
 | .makeSlice t l c=>bc (flC ct) (zMakeR P T t l c H n) none
 | .call c=>match c.callee with
  | .builtin .append=>bc (flRw ct) (zNapO P T c.args.toList c.argTypes.toList H n) none
  | _=>none
 | .buildSlice t len parts=>bc (flRw ct) (bc (rowPart T parts.toList) (match exBuildSlice P T t len parts H n with
  | some er=>some ⟨true,er⟩
  | none=>none) none) none
 | _=>none
theorem zMkF_ok {ct:Tr ZCC} (hT:TOk γ T tmps) (hH:HR γ w0 H n w) {r:YR} (h:zMkF P ct T o H n=some r) (hc:r.c=true):Gives P γ w0 w (execOp (opEval tmps) o) r.er.val r.er.H r.er.n:=by
 unfold zMkF at h;split at h
 case h_4=>cases h
 ·rename_i t l c ho;rw [bc_eq] at h;split at h
  case isFalse=>cases h
  exact zMakeR_ok hT hH ho h hc
 ·rename_i c ho;split at h
  case h_2=>cases h
  rename_i hcal;obtain ⟨callee,args,ats⟩:=c;simp only at hcal h;subst hcal;rw [bc_eq] at h;split at h
  case isFalse=>cases h
  exact zNapO_ok hT hH ho h hc
 ·rename_i t len parts ho;rw [bc_eq] at h;split at h
  case isFalse=>cases h
  rw [bc_eq] at h;split at h
  case isFalse=>cases h
  split at h
  case h_2=>cases h
  rename_i er he;injection h with h;subst h
  exact exBuildSlice_ok hT hH ho he
theorem zMkF_nd {ct:Tr ZCC} {r:YR} (h:zMkF P ct T o H n=some r):notDefer o.op=true:=by
 unfold zMkF at h;split at h
 case h_4=>cases h
 ·rename_i ho;rw [ho];rfl
 ·rename_i ho;split at h
  case h_2=>cases h
  rename_i hcal;rw [ho];unfold notDefer;simp [hcal]
 ·rename_i ho;rw [ho];rfl
noncomputable def stZ (P:Program) (FT:Tr FI) (ct:Tr ZCC) (T:Tr EV) (o:Oper) (H:Tr EK) (n:Nat):Option YR:=match zToBo P T o H n with
 | some r=>some r
 | none=>match zMkF P ct T o H n with
  | some r=>some r
  | none=>match zMapO P ct T o H n with
  | some r=>some r
  | none=>match qcZ P FT ct [] T o H n with
   | some p=>some ⟨p.1,⟨some p.2,H,n⟩⟩
   | none=>match zCt FT ct T o with
    | some (sp,ax)=>match zCallA sp ax H n with
     | some r=>some ⟨r.1,⟨some r.2.1,r.2.2.1,r.2.2.2⟩⟩
     | none=>none
    | none=>zOwn P T o H n
theorem stZ_ok (hF:FTok P FT) {ct:Tr ZCC} (hct:ZCtsOk P ct) {r:YR} (h:stZ P FT ct T o H n=some r) (hc:r.c=true):SndL P .nil T o H n (r.er.val.getD (.v undef)) r.er.H r.er.n:=by
 unfold stZ at h;split at h
 ·rename_i r' hr;injection h with h;subst h
  exact snd_givesO (zToBo_nd hr) fun γ w0 w tmps hT hH=>zToBo_ok hT hH hr hc
 split at h
 ·rename_i r' hr;injection h with h;subst h
  exact snd_givesO (zMkF_nd hr) fun γ w0 w tmps hT hH=>zMkF_ok hT hH hr hc
 split at h
 ·rename_i r' hr;injection h with h;subst h
  exact snd_givesO (zMapO_nd hr) fun γ w0 w tmps hT hH=>zMapO_ok hT hH hr hc
 split at h
 ·rename_i p hp;injection h with h;subst h
  exact (qcZ_ok hF hct hp hc).2.1
 ·split at h
  ·rename_i sp ax hctx;obtain ⟨_,g,k1,k2⟩:=zCt_ok hF hct hctx;split at h
   case h_2=>cases h
   rename_i q hq;injection h with h;subst h
   exact k2 fun γ w0 w us hH ha=>zCallA_ok k1 hH ha hq hc
  ·have hd:notDefer o.op=true:=by
    have hr:=h;unfold zOwn at hr;split at hr
    all_goals first | (rename_i ho;rw [ho];rfl) | cases hr
   exact snd_givesO hd fun γ w0 w tmps hT hH=>(zOwn_ok hT hH h hc).2
noncomputable def zOps (P:Program) (FT:Tr FI) (fid:FuncId) (dr:ES→Nat→Array Oper→List IM→EO) (ct:Tr ZCC) (s:ES) (ops:Array Oper) (o:Oper) (l:List Oper) (k:List IM):Bool × EO:=match exGuard s.top.T ops o with
 | some true=>match stZ P FT ct s.top.T o s.H s.n with
  | some r=>(r.c,opG s ops o l k r.er)
  | none=>(true,exStep P FT fid dr s)
 | _=>(true,exStep P FT fid dr s)
noncomputable def zMain (P:Program) (FT:Tr FI) (fid:FuncId) (dr:ES→Nat→Array Oper→List IM→EO) (sub:Sub) (ct:Tr ZCC) (ov:List (Nat × Bool)) (s:ES):Bool × EO:=match s.top.ret with
 | false=>match s.top.todo with
  | .ops ops (o :: l) :: k=>zOps P FT fid dr ct s ops o l k
  | .it (.code (.region _ ops true)) :: k=>match drP P FT sub ct ov s ops k with
   | some r=>r
   | none=>drZ P FT sub ct ov s ops k (ancs ops.toList []) (llen ops.toList)
  | _=>(true,exStep P FT fid dr s)
 | true=>zRet P FT fid s
theorem zMain_ok (hm0:P.follows .mixedOrders=true) (hF:FTok P FT) {dr:ES→Nat→Array Oper→List IM→EO} (hdr:DrOk P dr) {sub:Sub} (hsub:LoudOk P sub) {ct:Tr ZCC} (hct:ZCtsOk P ct) {ov:List (Nat × Bool)} {s:ES} {m:Machine} (hm:MR γ w0 cs s m) (hc:(zMain P FT fid dr sub ct ov s).1=true):SOk P γ w0 cs fid m (zMain P FT fid dr sub ct ov s).2:=by
 unfold zMain at hc ⊢;split at hc
 ·rename_i hret;split at hc
  ·rename_i ops o l k htodo;unfold zOps at hc ⊢;split at hc
   ·rename_i hg;split at hc
    ·rename_i r hr;obtain ⟨fr,frs,w,rfl,⟨tmps,todo,ds,ro,rfl,h1,h2,h3,h4,h5⟩,hfs,hH⟩:=hm;rw [htodo] at h3
     cases h3 with
     | @cons _ _ _ todo' hi hk=>
      cases hi with
      | ops _ _ idx hidx=>
       obtain ⟨i,rest,rfl,ho,hrest⟩:=map_cons_inv hidx;have hfr:(lone { fn:=s.top.fn,tmps:=tmps,todo:=.inRegion ops (i :: rest) :: todo',defers:=ds,mode:=modeOf s.top.ret,kind:=.normal,roundOf:=ro } (frs ++ cs) w)=lone (fram s.top.fn tmps (.inRegion ops (i :: rest) :: todo') ds ro) (frs ++ cs) w:=by rw [hret];rfl
       rw [hfr];exact opG_ok hret h1 h2 hk h4 h5 hfs hH ho hrest (exGuard_ok h2 hg) (stZ_ok hF hct hr hc)
    ·exact exStep_ok hF hdr hm
   ·exact exStep_ok hF hdr hm
  ·rename_i id ops k htodo;obtain ⟨fr,frs,w,rfl,⟨tmps,todo,ds,ro,rfl,h1,h2,h3,h4,h5⟩,hfs,hH⟩:=hm;rw [htodo] at h3
   cases h3 with
   | @cons _ _ _ todo' hi hk=>
    cases hi with
    | it x=>
     have hfr:(lone { fn:=s.top.fn,tmps:=tmps,todo:=.code (.region id ops true) :: todo',defers:=ds,mode:=modeOf s.top.ret,kind:=.normal,roundOf:=ro } (frs ++ cs) w)=lone (fram s.top.fn tmps (.code (.region id ops true) :: todo') ds ro) (frs ++ cs) w:=by rw [hret];rfl
     rw [hfr];split at hc
     ·rename_i r hr;exact drP_ok hm0 hF hsub hct hret h1 h2 hk h4 h5 hfs hH hr hc
     ·exact drZ_ok hm0 hF hsub hct hret h1 h2 hk h4 h5 hfs hH hc
  ·exact exStep_ok hF hdr hm
 ·rename_i hret;obtain ⟨fr,frs,w,rfl,⟨tmps,todo,ds,ro,rfl,h1,h2,h3,h4,h5⟩,hfs,hH⟩:=hm;have:=zRet_ok (fid:=fid) (cs:=cs) hF hret h1 h2 h3 h4 h5 hfs hH hc;simpa [fram,hret,modeOf] using this

noncomputable def fixC (d:Nat) (b:Bool) (s:ES):ES:=bc (Nat.ble d 65535) { s with top:={ s.top with T:=s.top.T.put d (some (.v (.bool b))) } } s

noncomputable def forkC (d:Nat) (s:ES) (κ:ES→α):α:=match s.top.T.get d with
 | some (.v (.bool t))=>Bool.rec (κ (fixC d false s)) (κ (fixC d true s)) t
 | _=>κ s
theorem fixC_ok {d:Nat} {t:Bool} {s:ES} {m:Machine} (hm:MR γ w0 cs s m) (ht:s.top.T.get d=some (.v (.bool t))):MR γ w0 cs (fixC d t s) m:=by
 unfold fixC;rw [bc_eq];split
 ·rename_i hd;obtain ⟨fr,frs,w,rfl,⟨tmps,todo,ds,ro,rfl,h1,h2,h3,h4,h5⟩,hfs,hH⟩:=hm;refine ⟨_,frs,w,rfl,⟨tmps,todo,ds,ro,rfl,h1,fun sl a hs=>?_,h3,h4,h5⟩,hfs,hH⟩;have hs2:(s.top.T.put d (some (.v (.bool t)))).get sl=some a:=hs;clear hs;rw [Tr.get_put hd] at hs2;split at hs2
  ·rename_i e;subst e;exact h2 _ a (ht.trans hs2)
  ·exact h2 sl a hs2
 ·exact hm
theorem forkC_ok {d:Nat} {s:ES} {m:Machine} (hm:MR γ w0 cs s m) (κ:ES→α):∃ s',MR γ w0 cs s' m∧forkC d s κ=κ s':=by
 unfold forkC;split
 ·rename_i t ht
  cases t with
  | false=>exact ⟨_,fixC_ok hm ht,rfl⟩
  | true=>exact ⟨_,fixC_ok hm ht,rfl⟩
 ·exact ⟨s,hm,rfl⟩
noncomputable def preCodeC (c:Code) (s:ES) (κ:ES→α):α:=match c with
 | .cond (.tmp d) _ _=>forkC d s κ
 | _=>κ s
noncomputable def preOpC (ops:Array Oper) (o:Oper) (s:ES) (κ:ES→α):α:=match o.guard with
 | some (j,_)=>match lget ops.toList j with
  | some oj=>match oj.dst with
   | some d=>forkC d s κ
   | none=>κ s
  | none=>κ s
 | none=>match o.op with
  | .pick (.tmp d) _ _=>forkC d s κ
  | _=>κ s
noncomputable def preC (s:ES) (κ:ES→α):α:=match s.top.todo with
 | .it (.code c) :: _=>preCodeC c s κ
 | .ops ops (o :: _) :: _=>preOpC ops o s κ
 | _=>κ s
theorem preC_ok {s:ES} {m:Machine} (hm:MR γ w0 cs s m) (κ:ES→α):∃ s',MR γ w0 cs s' m∧preC s κ=κ s':=by
 unfold preC;split
 ·unfold preCodeC;split
  ·exact forkC_ok hm κ
  ·exact ⟨s,hm,rfl⟩
 ·unfold preOpC;split
  ·split
   ·split
    ·exact forkC_ok hm κ
    ·exact ⟨s,hm,rfl⟩
   ·exact ⟨s,hm,rfl⟩
  ·split
   ·exact forkC_ok hm κ
   ·exact ⟨s,hm,rfl⟩
 ·exact ⟨s,hm,rfl⟩
noncomputable def mainC (r:Bool × EO) (κ:EO→α):α:=Prod.rec (fun c e=>bc c (κ e) (κ .fail)) r

noncomputable def memG (j:Nat) (l:List Nat):Bool:=List.rec false (fun k _ ih=>bc (Nat.beq k j) true ih) l
noncomputable def pickG (ops:List Oper) (d:Nat):Nat→Option Nat:=List.rec (fun _=>none) (fun o _ ih i=>match o.dst with
 | some e=>bc (Nat.beq e d) (some i) (ih (Nat.succ i))
 | none=>ih (Nat.succ i)) ops

noncomputable def guardsOf (all ops:List Oper):List Nat:=List.rec [] (fun o _ ih=>match o.guard with
 | some (j,_)=>bc (memG j ih) ih (j :: ih)
 | none=>match o.op with
  | .pick (.tmp d) _ _=>match pickG all d 0 with
   | some j=>bc (memG j ih) ih (j :: ih)
   | none=>ih
  | _=>ih) ops
noncomputable def insN (j:Nat) (l:List Nat):List Nat:=List.rec [j] (fun k t ih=>bc (Nat.ble j k) (j :: k :: t) (k :: ih)) l
noncomputable def sortN (l:List Nat):List Nat:=List.rec [] (fun j _ ih=>insN j ih) l
noncomputable def boolAt (P:Program) (FT:Tr FI) (sub:Sub) (ct:Tr ZCC) (s:ES) (ops:Array Oper) (A:List Nat) (m:Nat) (ov:List (Nat × Bool)) (j:Nat):Option (Nat × Bool):=match lget ops.toList j with
 | some oj=>match oj.dst with
  | some d=>match canonF P (frF' P) (lF' P FT sub ct) (qF' P FT ct ov) ops A s.n s.top.N (ops.toList.take (Nat.succ j)) 0 [] [] ⟨s.H,Nat.add s.n m,0⟩ s.top.T [] [] with
   | some c=>match c.T.get d with
    | some (.v (.bool t))=>some (d,t)
    | _=>none
   | none=>none
  | none=>none
 | none=>none
noncomputable def forkG (P:Program) (FT:Tr FI) (sub:Sub) (ct:Tr ZCC) (s:ES) (ops:Array Oper) (A:List Nat) (m:Nat) (κ:List (Nat × Bool)→α) (G:List Nat):List (Nat × Bool)→α:=List.rec (fun ov=>κ ov) (fun j _ ih ov=>match boolAt P FT sub ct s ops A m ov j with
 | some (d,t)=>Bool.rec (ih (ov ++ [(d,false)])) (ih (ov ++ [(d,true)])) t
 | none=>ih ov) G
theorem forkG_ok {sub:Sub} {ct:Tr ZCC} {s:ES} {ops:Array Oper} {A:List Nat} {m:Nat} (κ:List (Nat × Bool)→α):∀ (G:List Nat) (ov:List (Nat × Bool)),∃ ov',forkG P FT sub ct s ops A m κ G ov=κ ov'
 | [],ov=>⟨ov,rfl⟩
 | j :: G,ov=>by
  have e:forkG P FT sub ct s ops A m κ (j :: G) ov=(match boolAt P FT sub ct s ops A m ov j with
   | some (d,t)=>Bool.rec (forkG P FT sub ct s ops A m κ G (ov ++ [(d,false)])) (forkG P FT sub ct s ops A m κ G (ov ++ [(d,true)])) t
   | none=>forkG P FT sub ct s ops A m κ G ov):=rfl
  rw [e];split
  ·rename_i d t ht
   cases t with
   | false=>exact forkG_ok κ G _
   | true=>exact forkG_ok κ G _
  ·exact forkG_ok κ G _
noncomputable def forkR (P:Program) (FT:Tr FI) (sub:Sub) (ct:Tr ZCC) (s:ES) (κ:List (Nat × Bool)→α):α:=match s.top.todo with
 | .it (.code (.region _ ops true)) :: _=>forkG P FT sub ct s ops (ancs ops.toList []) (llen ops.toList) κ (sortN (guardsOf ops.toList ops.toList)) []
 | _=>κ []
theorem forkR_ok {sub:Sub} {ct:Tr ZCC} {s:ES} (κ:List (Nat × Bool)→α):∃ ov,forkR P FT sub ct s κ=κ ov:=by
 unfold forkR;split
 ·exact forkG_ok κ _ _
 ·exact ⟨[],rfl⟩

noncomputable def lookL (d:TypeDesc) (kv:Value) (ok:Bool) (z:Value) (s:ES) (ops:Array Oper) (o:Oper) (l:List Oper) (k:List IM) (κ:EO→α) (es:List (Value × EV)):α:=List.rec (κ (opG s ops o l k ⟨some (bc ok (.v (.tuple #[z,.bool false])) (.v z)),s.H,s.n⟩))
 (fun p _ ih=>Bool.rec ih (κ (opG s ops o l k ⟨some (bc ok (.tup [p.2,.v (.bool true)]) p.2),s.H,s.n⟩)) (kEq d kv p.1)) es
noncomputable def lookF (P:Program) (s:ES) (dflt:α) (κ:EO→α):α:=match s.top.ret with
 | false=>match s.top.todo with
  | .ops ops (o :: l) :: k=>match o.op with
   | .lookup t m x ok=>match exGuard s.top.T ops o with
    | some true=>match mpAt s.top.T s.H m with
     | some (_,es)=>match mapOf P t with
      | some (_,e,d)=>match exVal s.top.T x with
       | some (.v kv)=>bc (isKeyB d kv) (bc (keysB d es) (match pureOf P (zeroValue e) with
        | some z=>lookL d kv ok z s ops o l k κ es
        | none=>dflt) dflt) dflt
       | _=>dflt
      | none=>dflt
     | none=>dflt
    | _=>dflt
   | _=>dflt
  | _=>dflt
 | true=>dflt
theorem lookL_ok {d:TypeDesc} {kv:Value} {ok:Bool} {z:Value} {s:ES} {ops:Array Oper} {l:List Oper} {k:List IM} {κ:EO→α} {es0:List (Value × EV)} {Q:EO→Prop}
  (hA:findE d kv es0=none→Q (opG s ops o l k ⟨some (bc ok (.v (.tuple #[z,.bool false])) (.v z)),s.H,s.n⟩))
  (hF:∀ a,findE d kv es0=some a→Q (opG s ops o l k ⟨some (bc ok (.tup [a,.v (.bool true)]) a),s.H,s.n⟩)) :
  ∀ es,findE d kv es0=findE d kv es→∃ e,lookL d kv ok z s ops o l k κ es=κ e∧Q e
 | [],h=>⟨_,rfl,hA h⟩
 | p :: es,h=>by
  have e1:lookL d kv ok z s ops o l k κ (p :: es)=Bool.rec (lookL d kv ok z s ops o l k κ es) (κ (opG s ops o l k ⟨some (bc ok (.tup [p.2,.v (.bool true)]) p.2),s.H,s.n⟩)) (kEq d kv p.1):=rfl;have e2:findE d kv (p :: es)=bc (kEq d kv p.1) (some p.2) (findE d kv es):=rfl;rw [e2] at h;rw [e1]
  cases hk:kEq d kv p.1 with
  | false=>
   rw [hk] at h;exact lookL_ok hA hF es h
  | true=>
   rw [hk] at h;exact ⟨_,rfl,hF _ h⟩
theorem lookF_ok {s:ES} {m:Machine} (hm:MR γ w0 cs s m) (dflt:α) (κ:EO→α):lookF P s dflt κ=dflt∨∃ e,lookF P s dflt κ=κ e∧SOk P γ w0 cs fid m e:=by
 unfold lookF;split
 case h_2=>exact .inl rfl
 rename_i hret;split
 case h_2=>exact .inl rfl
 rename_i ops o l k htodo;split
 case h_2=>exact .inl rfl
 rename_i t mp x ok ho;split
 case h_2=>exact .inl rfl
 rename_i hg;split
 case h_2=>exact .inl rfl
 rename_i i es hmp;split
 case h_2=>exact .inl rfl
 rename_i kt e d hmo;split
 case h_2=>exact .inl rfl
 rename_i kv hx;rw [bc_eq];split
 case isFalse=>exact .inl rfl
 rename_i h1;rw [bc_eq];split
 case isFalse=>exact .inl rfl
 rename_i h2;split
 case h_2=>exact .inl rfl
 rename_i z hz;right;have hd:notDefer o.op=true:=by rw [ho];rfl
 have key:∀ a,exLookup P s.top.T t mp x ok s.H=some a→SOk P γ w0 cs fid m (opG s ops o l k ⟨some a,s.H,s.n⟩):=fun a ha=>by
  obtain ⟨fr,frs,w,rfl,⟨tmps,todo,ds,ro,rfl,g1,g2,g3,g4,g5⟩,hfs,hH⟩:=hm;rw [htodo] at g3
  cases g3 with
  | @cons _ _ _ todo' hi hk=>
   cases hi with
   | ops _ _ idx hidx=>
    obtain ⟨i,rest,rfl,ho',hrest⟩:=map_cons_inv hidx;have hfr:(lone { fn:=s.top.fn,tmps:=tmps,todo:=.inRegion ops (i :: rest) :: todo',defers:=ds,mode:=modeOf s.top.ret,kind:=.normal,roundOf:=ro } (frs ++ cs) w)=lone (fram s.top.fn tmps (.inRegion ops (i :: rest) :: todo') ds ro) (frs ++ cs) w:=by rw [hret];rfl
    rw [hfr];exact opG_ok (er:=⟨some a,s.H,s.n⟩) hret g1 g2 hk g4 g5 hfs hH ho' hrest (exGuard_ok g2 hg) (snd_gives hd fun γ w0 w tmps hT hH=>exLookup_ok hT hH ho ha)
 refine lookL_ok (Q:=fun e=>SOk P γ w0 cs fid m e) (fun hn=>key _ ?_) (fun a hn=>key _ ?_) es rfl
 ·unfold exLookup;simp only [hmp,hmo,hx,bc_eq,h1,h2,hn,hz,if_true]
 ·unfold exLookup;simp only [hmp,hmo,hx,bc_eq,h1,h2,hn,if_true]
noncomputable def stepZ (P:Program) (FT:Tr FI) (fid:FuncId) (dr:ES→Nat→Array Oper→List IM→EO) (sub:Sub) (ct:Tr ZCC) (s:ES) (κ:EO→α):α:=preC s (fun s'=>lookF P s' (forkR P FT sub ct s' (fun ov=>mainC (zMain P FT fid dr sub ct ov s') κ)) κ)
theorem stepZ_ok (hm0:P.follows .mixedOrders=true) (hF:FTok P FT) {dr:ES→Nat→Array Oper→List IM→EO} (hdr:DrOk P dr) {sub:Sub} (hsub:LoudOk P sub) {ct:Tr ZCC} (hct:ZCtsOk P ct) {s:ES} {m:Machine} (hm:MR γ w0 cs s m) (κ:EO→α):∃ e,stepZ P FT fid dr sub ct s κ=κ e∧SOk P γ w0 cs fid m e:=by
 unfold stepZ;obtain ⟨s',hm',e1⟩:=preC_ok hm (fun s'=>lookF P s' (forkR P FT sub ct s' (fun ov=>mainC (zMain P FT fid dr sub ct ov s') κ)) κ);rw [e1];rcases lookF_ok (P:=P) (fid:=fid) hm' (forkR P FT sub ct s' (fun ov=>mainC (zMain P FT fid dr sub ct ov s') κ)) κ with e0 | ⟨e,e0,h0⟩
 rotate_left
 ·exact ⟨e,e0,h0⟩
 rw [e0];obtain ⟨ov,e2⟩:=forkR_ok (P:=P) (FT:=FT) (sub:=sub) (ct:=ct) (s:=s') (fun ov=>mainC (zMain P FT fid dr sub ct ov s') κ);rw [e2]
 cases hy:zMain P FT fid dr sub ct ov s' with
 | mk c e=>
  show ∃ e',bc c (κ e) (κ .fail)=κ e'∧_
  cases c with
  | false=>exact ⟨.fail,rfl,trivial⟩
  | true=>
   refine ⟨e,rfl,?_⟩;have:=zMain_ok (fid:=fid) (ov:=ov) hm0 hF hdr hsub hct hm' (by rw [hy]);rw [hy] at this;exact this

noncomputable def runZ (st:ES→(EO→α)→α) (p:ES→Bool) (κ:EO→α) (k:Nat):ES→α:=Nat.rec (fun _=>κ .fail) (fun _ ih s=>st s (fun e=>EO.rec (fun s'=>Bool.rec (ih s') (κ (.go s')) (p s')) (fun a H n=>κ (.done a H n)) (fun b H n=>κ (.doneR b H n)) (κ .fail) e)) k
theorem runZ_ok {st:ES→(EO→α)→α} {p:ES→Bool} {κ:EO→α} (hst:∀ (γ:G) (s:ES) (m:Machine) (κ':EO→α),MR γ w0 cs s m→∃ e,st s κ'=κ' e∧SOk P γ w0 cs fid m e) :
  ∀ (k:Nat) (γ:G) (s:ES) (m:Machine),MR γ w0 cs s m→∃ e,runZ st p κ k s=κ e∧SOk P γ w0 cs fid m e
 | 0,γ,s,m,_=>⟨.fail,rfl,trivial⟩
 | k+1,γ,s,m,hm=>by
  obtain ⟨e,h1,h2⟩:=hst γ s m (fun e=>EO.rec (fun s'=>Bool.rec (runZ st p κ k s') (κ (.go s')) (p s')) (fun a H n=>κ (.done a H n)) (fun b H n=>κ (.doneR b H n)) (κ .fail) e) hm;have fin:∃ e',(EO.rec (fun s'=>Bool.rec (runZ st p κ k s') (κ (.go s')) (p s')) (fun a H n=>κ (.done a H n)) (fun b H n=>κ (.doneR b H n)) (κ .fail) e:α)=κ e'∧SOk P γ w0 cs fid m e':=by
   cases e with
   | go s'=>
    show ∃ e',(Bool.rec (runZ st p κ k s') (κ (.go s')) (p s'):α)=κ e'∧_
    cases hp:p s' with
    | true=>exact ⟨.go s',rfl,h2⟩
    | false=>
     obtain ⟨γ',m',hle,hs,hm'⟩:=h2;obtain ⟨e2,q1,q2⟩:=runZ_ok hst k γ' s' m' hm';exact ⟨e2,q1,SOk.trans hle hs q2⟩
   | done a H n=>exact ⟨_,rfl,h2⟩
   | doneR b H n=>exact ⟨_,rfl,h2⟩
   | fail=>exact ⟨_,rfl,h2⟩
  obtain ⟨e',q1,q2⟩:=fin;exact ⟨e',h1.trans q1,q2⟩

noncomputable def atS (d f id:Nat) (s:ES):Bool:=bc (Nat.beq (llen s.rest) d) (bc (Nat.beq s.top.fn f) (match s.top.todo with
 | .it (.code (.seq (.region i _ _) _)) :: _=>Nat.beq i id
 | _=>false) false) false
end Go.Proofs.Ytfffbioafhppiaa.Ev
namespace Go.Proofs.Ytfffbioafhppiaa.Ev
open Go.RowKit
variable {P:Program} {γ γ':G} {w0:Bs} {w:World} {H H':Tr EK} {n n':Nat} {T:Tr EV} {cs:List Frame} {fid:FuncId} {FT:Tr FI} {tmps:Array Value} {o:Oper} {α:Type}

theorem normFR_ok {ρ:List (Nat × Nat)} {N:Nat} (hρ:okN ρ N=true) {l:SL} {f:EF} {a:FS} {fr:Frame} (h:normFR ρ l f=some a) (hf:FR γ f fr):FR (γ.ren ρ) (frOf a) fr:=by
 unfold normFR at h;split at h
 case h_2=>cases h
 rename_i hret;split at h
 case h_2=>cases h
 rename_i ds' hds;split at h
 case h_2=>cases h
 rename_i ro' hro;split at h
 case h_2=>cases h
 rename_i td htd;split at h
 case h_2=>cases h
 rename_i T hT;injection h with h;subst h
 obtain ⟨tmps,todo,ds,ro,rfl,h1,h2,h3,h4,h5⟩:=hf;refine ⟨tmps,todo,ds,ro,by rw [hret];rfl,h1,fun sl a hs=>?_,mapL_ok (R:=IR γ) (S:=IR (γ.ren ρ)) (fun _ _ _ h1 h2=>renI_ok hρ h1 h2) htd h3,mapL_ok (R:=DR γ) (S:=DR (γ.ren ρ)) (fun _ _ _ h1 h2=>renD_ok hρ h1 h2) hds h4,renR_ok hρ hro h5⟩;obtain ⟨c,a0,q1,q2⟩:=pickS_ok hT sl a (mkT_get hs);obtain ⟨x,hx,hc⟩:=h2 sl a0 q1;exact ⟨x,hx,renS_ok hρ q2 hc⟩
theorem normFsR_ok {ρ:List (Nat × Nat)} {N:Nat} (hρ:okN ρ N=true):∀ {ls:List SL} {l:List EF} {r:List FS} {frs:List Frame},normFsR ρ ls l=some r→All2 (FR γ) l frs→All2 (FR (γ.ren ρ)) (frsOf r) frs
 | [],[],r,frs,h,hf=>by
  have h':some []=some r:=h;injection h' with h';subst h'
  cases hf;exact .nil
 | [],f :: l,r,frs,h,_=>by exact absurd (show (none:Option (List FS))=some r from h) (by simp)
 | q :: ls,[],r,frs,h,_=>by exact absurd (show (none:Option (List FS))=some r from h) (by simp)
 | q :: ls,f :: l,r,frs,h,hf=>by
  have h':(match normFR ρ q f with
   | some a=>match normFsR ρ ls l with
    | some r=>some (a :: r)
    | none=>none
   | none=>none)=some r:=h
  split at h'
  case h_2=>cases h'
  rename_i a ha;split at h'
  case h_2=>cases h'
  rename_i r' hr';injection h' with h';subst h'
  cases hf with
  | cons h1 h2=>exact .cons (normFR_ok hρ ha h1) (normFsR_ok hρ hr' h2)
theorem HR.ren (hH:HR γ w0 H n w) (hres:∀ i,¬ w0.res i) {ρ keep:List (Nat × Nat)} {nils:List (Nat × TypeId × SyC)} {N:Nat} {lk:List Nat} {K:List (Nat × EK)} (hρ:okN ρ N=true) (hkeep:allL (fun p=>isSomeN (lookN ρ p.1) p.2) keep=true) (hnil:allL (fun p=>isNilS p.2.2) nils=true) (hK:pickK ρ H lk keep=some K) {K2:List (Nat × EK)} (hK2:∀ x,x ∈ K2→x ∈ nilsK nils ++ K):HR (γ.ren ρ) w0 (mkT K2) N w:=by
 have get:∀ j k,(mkT K2).get j=some k→(k.Nil∧k.nestB=false)∨∃ i k0,lookN ρ i=some j∧H.get i=some k0∧renK ρ lk k0=some k:=fun j k hk=>by
  rcases List.mem_append.1 (hK2 _ (mkT_get hk)) with hm | hm
  ·left;unfold nilsK at hm;obtain ⟨p,hp,e⟩:=List.mem_map.1 hm;injection e with e1 e2;subst e2
   exact ⟨⟨rfl,isNilS_ok (allL_ok hnil p hp)⟩,rfl⟩
  ·right;obtain ⟨i,k0,q1,q2,q3⟩:=pickK_ok hK j k hm;exact ⟨i,k0,isSomeN_ok (allL_ok hkeep (i,j) q1),q2,q3⟩
 refine ⟨fun j k hk=>?_,fun j1 j2 k1 k2 hj1 hj2 n1 n2 hne b1 b2 e1 e2=>?_,fun j hj=>?_,fun i hi=>absurd hi (hres i),fun j p e=>?_,hH.stays,⟨fun k a hk=>?_,hH.fzk.base,fun j v q p e=>G.ren_rw hH.fzk.nst.rwg e,fun j me ty sh rows v ho nn e=>?_,fun j me ty sh rows v ho nn e j1 f sh' hj1 hf hh k m hk=>?_⟩⟩
 ·rcases get j k hk with h5 | ⟨i,k0,q1,q2,q3⟩
  ·exact .inl h5.1
  ·rcases hH.hp0 i k0 q2 with h6 | ⟨b,m2,e1,e2,e3⟩
   ·exact .inl ((renK_nil q3).2 h6)
   ·exact .inr ⟨b,m2,by rw [G.ren_look hρ q1];exact e1,e2,renK_ok hρ q3 e3⟩
 ·rcases get j1 k1 hj1 with h5 | ⟨i1,k01,q1,q2,q3⟩
  ·exact absurd h5.1 n1
  rcases get j2 k2 hj2 with h6 | ⟨i2,k02,q4,q5,q6⟩
  ·exact absurd h6.1 n2
  rw [G.ren_look hρ q1] at e1;rw [G.ren_look hρ q4] at e2;have hne2:i1≠i2:=fun e=>by
   subst e;rw [q1] at q4;injection q4 with q4;exact hne q4
  exact hH.inj0 i1 i2 k01 k02 q2 q5 (fun e=>n1 ((renK_nil q3).2 e)) (fun e=>n2 ((renK_nil q6).2 e)) hne2 b1 b2 e1 e2
 ·show (invN ρ j).bind γ=none
  cases hi:invN ρ j with
  | none=>rfl
  | some i=>
   have:=(okN_ok hρ (invN_mem hi)).2.2;omega
 ·obtain ⟨i,_,q2⟩:=G.ren_some e;exact hH.lt i p q2
 ·obtain ⟨g1,g2,g3⟩:=hH.fzk.at' k a hk;refine ⟨g1,g2,fun j kj b m hj nj ej=>?_⟩;rcases get j kj hj with h5 | ⟨i1,k01,q1,q2,q3⟩
  ·exact absurd h5.1 nj
  rw [G.ren_look hρ q1] at ej;exact g3 i1 k01 b m q2 (fun e=>nj ((renK_nil q3).2 e)) ej
 ·rcases get j _ e with h5 | ⟨i1,k01,q1,q2,q3⟩
  ·cases h5.2
  obtain ⟨me0,rfl,q4⟩:=renK_nest q3;obtain ⟨q5,q6⟩:=hH.fzk.nst.me i1 me0 ty sh rows v ho nn q2;subst q5;rw [q1] at q4;injection q4 with q4
  exact ⟨q4.symm,fun v' q hv=>(G.ren_rwL hρ q1 v' q).trans (q6 v' q hv)⟩
 ·rcases get j _ e with h5 | ⟨i1,k01,q1,q2,q3⟩
  ·cases h5.2
  obtain ⟨me0,rfl,_⟩:=renK_nest q3;obtain ⟨g1,g2,g3,g4,arr,ty3,g5,g6,g7⟩:=hH.fzk.nst.at' i1 me0 ty sh rows v ho nn q2 j1 f sh' hj1 hf hh k m ((G.ren_rwL hρ q1 _ _).symm.trans hk);refine ⟨g1,g2,fun j' kj b m' hj nj ej=>?_,fun j2 me2 ty2 sh2 rows2 v2 ho2 nn2 e2 j3 f2 s2 hj2 hf2 hh2 m2 hk2=>?_,arr,ty3,g5,g6,fun a g s ha hs=>let ⟨x,hx,hc⟩:=g7 a g s ha hs;⟨x,hx,ev_fz hc fun _ _ h=>h⟩⟩
  ·rcases get j' kj hj with h5 | ⟨i2,k02,r1,r2,r3⟩
   ·exact absurd h5.1 nj
   rw [G.ren_look hρ r1] at ej;exact g3 i2 k02 b m' r2 (fun e=>nj ((renK_nil r3).2 e)) ej
  ·rcases get j2 _ e2 with h5 | ⟨i2,k02,r1,r2,r3⟩
   ·cases h5.2
   obtain ⟨me3,rfl,_⟩:=renK_nest r3;obtain ⟨y1,y2,y3⟩:=g4 i2 me3 ty2 sh2 rows2 v2 ho2 nn2 r2 j3 f2 s2 hj2 hf2 hh2 m2 ((G.ren_rwL hρ r1 _ _).symm.trans hk2);subst y1;rw [q1] at r1;injection r1 with r1
   exact ⟨r1.symm,y2,y3⟩
def LeadsZ (P:Program) (s s':ES):Prop:=∀ (γ:G) (w0:Bs) (cs:List Frame) (m:Machine),(∀ i,¬ w0.res i)→MR γ w0 cs s m→∃ γ' m',Steps P m m'∧MR γ' w0 cs s' m'
theorem LeadsZ.trans {a b c:ES} (h:LeadsZ P a b) (k:LeadsZ P b c):LeadsZ P a c:=fun γ w0 cs m hr hm=>by
 obtain ⟨γ1,m1,h1,h3⟩:=h γ w0 cs m hr hm;obtain ⟨γ2,m2,k1,k3⟩:=k γ1 w0 cs m1 hr h3;exact ⟨γ2,m2,h1.trans k1,k3⟩
theorem LeadsZ.refl (a:ES):LeadsZ P a a:=fun γ _ _ m _ hm=>⟨γ,m,Steps.refl P _,hm⟩
theorem leads_ofR {s:ES} {lk:List Nat} {r:NS} {f:FuncId}
  (h:∀ (γ:G) (w0:Bs) (cs:List Frame) (m:Machine),MR γ w0 cs s m→∃ e ls ρ keep nils N,normR lk ls ρ keep nils N e=some r∧SOk P γ w0 cs f m e):LeadsZ P s (stOf r):=fun γ w0 cs m hres hm=>by
 obtain ⟨e,ls,ρ,keep,nils,N,h,this⟩:=h γ w0 cs m hm;unfold normR at h;split at h
 case h_2=>cases h
 rename_i s';obtain ⟨γ',m',h1,h2,h3⟩:=this;split at h
 case h_2=>cases h
 rename_i l hl;split at h
 case h_2=>cases h
 rename_i K hK;rw [bc_eq] at h;split at h
 case isFalse=>cases h
 rename_i hρ;rw [bc_eq] at h;split at h
 case isFalse=>cases h
 rename_i hkeep;rw [bc_eq] at h;split at h
 case isFalse=>cases h
 rename_i hnil;injection h with h;subst h
 obtain ⟨fr,frs,w,rfl,g1,hfs,hH⟩:=h3;have g3:=normFsR_ok hρ hl (.cons g1 hfs);have hHn:=hH.ren hres hρ hkeep hnil hK (K2:=sortK (nilsK nils ++ K)) (fun _=>sortK_mem)
 cases l with
 | nil=>have g3:All2 (FR (γ'.ren ρ)) [] (fr :: frs):=g3;cases g3
 | cons f l=>
  have g3:All2 (FR (γ'.ren ρ)) (frOf f :: frsOf l) (fr :: frs):=g3
  cases g3 with
  | cons e1 e2=>exact ⟨γ'.ren ρ,_,h2,fr,frs,w,rfl,e1,e2,hHn⟩

inductive ZF where
 | at (r:NS)
 | done (a:EV) (K:List (Nat × EK)) (n:Nat)
 | bad

noncomputable def doneO (q:NN) (a:EV) (H:Tr EK):ZF:=match renE q.ρ 8 a with
 | some a'=>match pickK q.ρ H [] (keepN H q.ρ) with
  | some K=>bc (okN q.ρ q.N) (bc (allL (fun p=>isSomeN (lookN q.ρ p.1) p.2) (keepN H q.ρ)) (.done a' K q.N) .bad) .bad
  | none=>.bad
 | none=>.bad
noncomputable def doneD (a:EV) (H:Tr EK):ZF:=match frzE 8 a H with
 | some (c,a',_)=>bc c (.done a' [] 0) .bad
 | none=>.bad
noncomputable def doneZ (own:Bool) (a:EV) (H:Tr EK):ZF:=bc own (doneO (addL (numsE 6 a) ⟨[],[],0⟩) a H) (doneD a H)
theorem doneZ_at {own:Bool} {a:EV} {r:NS} (h:doneZ own a H = .at r):False:=by
 unfold doneZ at h;rw [bc_eq] at h;split at h
 ·unfold doneO at h;split at h
  ·split at h
   ·rw [bc_eq] at h;split at h
    ·rw [bc_eq] at h;split at h <;> cases h
    ·cases h
   ·cases h
  ·cases h
 ·unfold doneD at h;split at h
  ·rw [bc_eq] at h;split at h <;> cases h
  ·cases h
noncomputable def endZ (lk:List Nat) (ls:List SZ) (own:Bool) (e:EO):ZF:=match e with
 | .done a H n=>doneZ own a H
 | .go s=>match normZ lk ls (.go (nilS ls s)) with
  | some r=>.at r
  | none=>.bad
 | _=>.bad

abbrev PLs:=List ((ES→Bool) × List SZ)
noncomputable def lsAt (ps:PLs) (s:ES):List SZ:=List.rec [] (fun q _ ih=>bc (q.1 s) q.2 ih) ps
noncomputable def atPs (ps:PLs) (s:ES):Bool:=List.rec false (fun q _ ih=>bc (q.1 s) true ih) ps
noncomputable def endP (lk:List Nat) (ps:PLs) (own:Bool) (e:EO):ZF:=match e with
 | .go s=>endZ lk (lsAt ps s) own (.go s)
 | .done a H n=>endZ lk [] own (.done a H n)
 | _=>.bad
theorem endP_ok {lk:List Nat} {ps:PLs} {own:Bool} (e:EO):∃ ls,endP lk ps own e=endZ lk ls own e:=by
 cases e with
 | go s=>exact ⟨_,rfl⟩
 | done a H n=>exact ⟨[],rfl⟩
 | _=>exact ⟨[],rfl⟩
theorem doneZ_ok {own:Bool} {a:EV} {a':EV} {K:List (Nat × EK)} {N:Nat} (h:doneZ own a H = .done a' K N) (hH:HR γ w0 H n w) (hres:∀ i,¬ w0.res i) {x:Value} (ha:EC γ a x):∃ γ',EC γ' a' x∧HR γ' w0 (mkT K) N w:=by
 unfold doneZ at h;rw [bc_eq] at h;split at h
 ·unfold doneO at h;split at h
  case h_2=>cases h
  rename_i a2 ha2;split at h
  case h_2=>cases h
  rename_i K2 hK;rw [bc_eq] at h;split at h
  case isFalse=>cases h
  rename_i hρ;rw [bc_eq] at h;split at h
  case isFalse=>cases h
  rename_i hkeep;injection h with e1 e2 e3
  subst e1;subst e2;subst e3;exact ⟨_,EC.ren hρ ha2 ha,hH.ren (nils:=[]) hres hρ hkeep rfl hK (fun _ h=>h)⟩
 ·unfold doneD at h;split at h
  case h_2=>cases h
  rename_i c a2 H2 hf;rw [bc_eq] at h;split at h
  case isFalse=>cases h
  rename_i hc;injection h with e1 e2 e3
  subst e1;subst e2;subst e3;obtain ⟨γ',g1,g2,g3⟩:=frzE_ok hH ha hf hc;have hd:HR (γ'.ren []) w0 (mkT ([] ++ [])) 0 w:=g2.ren (ρ:=[]) (keep:=[]) (nils:=[]) (lk:=[]) hres rfl rfl rfl rfl (fun _ h=>h);have hdata:dataB 8 a2=true:=by
   have key:∀ (k:Nat),(∀ (a:EV) (H:Tr EK) (c:Bool) (a':EV) (H':Tr EK),frzE k a H=some (c,a',H')→dataB k a'=true)∧∀ (l:List EV) (H:Tr EK) (c:Bool) (l':List EV) (H':Tr EK),frzL (frzE k) l H=some (c,l',H')→allL (dataB k) l'=true:=fun k=>by
    induction k with
    | zero=>
     have h0:∀ (a:EV) (H:Tr EK) (c:Bool) (a':EV) (H':Tr EK),frzE 0 a H=some (c,a',H')→dataB 0 a'=true:=fun a H c a' H' h=>by cases h
     refine ⟨h0,fun l=>?_⟩
     induction l with
     | nil=>intro H c l' H' h;have h':some (true,[],H)=some (c,l',H'):=h;simp only [Option.some.injEq,Prod.mk.injEq] at h';obtain ⟨_,rfl,_⟩:=h';rfl
     | cons b l ih=>intro H c l' H' h;cases (show (match (none:Option (Bool × EV × Tr EK)) with
       | some (c,a',H')=>match frzL (frzE 0) l H' with
        | some (c2,l',H2)=>some (bc c c2 false,a' :: l',H2)
        | none=>none
       | none=>none)=some (c,l',H') from h)
    | succ k ih=>
     have h1:∀ (a:EV) (H:Tr EK) (c:Bool) (a':EV) (H':Tr EK),frzE (k+1) a H=some (c,a',H')→dataB (k+1) a'=true:=fun a H c a' H' h=>by
      cases a with
      | v x=>have h':some (true,EV.v x,H)=some (c,a',H'):=h;simp only [Option.some.injEq,Prod.mk.injEq] at h';obtain ⟨_,rfl,_⟩:=h';rfl
      | lst x=>have h':some (true,EV.lst x,H)=some (c,a',H'):=h;simp only [Option.some.injEq,Prod.mk.injEq] at h';obtain ⟨_,rfl,_⟩:=h';rfl
      | arr x=>have h':some (true,EV.arr x,H)=some (c,a',H'):=h;simp only [Option.some.injEq,Prod.mk.injEq] at h';obtain ⟨_,rfl,_⟩:=h';rfl
      | lp x j f=>have h':some (true,EV.lp x j f,H)=some (c,a',H'):=h;simp only [Option.some.injEq,Prod.mk.injEq] at h';obtain ⟨_,rfl,_⟩:=h';rfl
      | ptrE i z j f=>
       obtain ⟨c0,rfl⟩:=frzP_lp (show frzP i z j f H=some (c,a',H') from h);rfl
      | slO i z len nn=>
       obtain ⟨c0,rfl⟩:=frzS_lst (show frzS i z len H=some (c,a',H') from h);rfl
      | sl i z off len cap=>
       cases cap with
       | some q=>cases h
       | none=>
       cases off with
       | succ q=>cases h
       | zero=>
       obtain ⟨c0,rfl⟩:=frzS_lst (show frzS i z len H=some (c,a',H') from h);rfl
      | agg l=>
       have h':(match frzL (frzE k) l H with
        | some (c,l',H')=>some (c,EV.agg l',H')
        | none=>none)=some (c,a',H'):=h
       split at h'
       case h_2=>cases h'
       rename_i e1;simp only [Option.some.injEq,Prod.mk.injEq] at h';obtain ⟨_,rfl,_⟩:=h';exact ih.2 _ _ _ _ _ e1
      | tup l=>
       have h':(match frzL (frzE k) l H with
        | some (c,l',H')=>some (c,EV.tup l',H')
        | none=>none)=some (c,a',H'):=h
       split at h'
       case h_2=>cases h'
       rename_i e1;simp only [Option.some.injEq,Prod.mk.injEq] at h';obtain ⟨_,rfl,_⟩:=h';exact ih.2 _ _ _ _ _ e1
      | fn f l=>
       have h':(match frzL (frzE k) l H with
        | some (c,l',H')=>some (c,EV.fn f l',H')
        | none=>none)=some (c,a',H'):=h
       split at h'
       case h_2=>cases h'
       rename_i e1;simp only [Option.some.injEq,Prod.mk.injEq] at h';obtain ⟨_,rfl,_⟩:=h';exact ih.2 _ _ _ _ _ e1
      | _=>cases h
     refine ⟨h1,fun l=>?_⟩
     induction l with
     | nil=>intro H c l' H' h;have h':some (true,[],H)=some (c,l',H'):=h;simp only [Option.some.injEq,Prod.mk.injEq] at h';obtain ⟨_,rfl,_⟩:=h';rfl
     | cons b l ihl=>
      intro H c l' H' h;have h':(match frzE (k+1) b H with
       | some (c,a',H')=>match frzL (frzE (k+1)) l H' with
        | some (c2,l',H2)=>some (bc c c2 false,a' :: l',H2)
        | none=>none
       | none=>none)=some (c,l',H'):=h
      split at h'
      case h_2=>cases h'
      rename_i e1;split at h'
      case h_2=>cases h'
      rename_i e2;simp only [Option.some.injEq,Prod.mk.injEq] at h';obtain ⟨_,rfl,_⟩:=h';show bc (dataB (k+1) _) (allL (dataB (k+1)) _) false=true;rw [h1 _ _ _ _ _ e1,ihl _ _ _ _ e2];rfl
   exact (key 8).1 _ _ _ _ _ hf
  exact ⟨γ'.ren [],g3.data hdata fun _ _ h=>h,hd⟩
theorem leadsF (hm0:P.follows .mixedOrders=true) (hF:FTok P FT) {dr:ES→Nat→Array Oper→List IM→EO} (hdr:DrOk P dr) {sub:Sub} (hsub:LoudOk P sub) {ct:Tr ZCC} (hct:ZCtsOk P ct) {f k:Nat} {p:ES→Bool} {s:ES} {lk:List Nat} {κ:EO→ZF} {own:Bool} {r:NS} (hκ:∀ e,∃ ls,κ e=endZ lk ls own e)
  (h:runZ (stepZ P FT f dr sub ct) p κ k s = .at r):LeadsZ P s (stOf r):=
 leads_ofR (f:=f) (lk:=lk) fun γ w0 cs m hm=>by
  obtain ⟨e,h1,h2⟩:=runZ_ok (p:=p) (κ:=κ) (fun γ s m κ' hm=>stepZ_ok (fid:=f) hm0 hF hdr hsub hct hm κ') k γ s m hm;obtain ⟨ls,hls⟩:=hκ e;have h3:endZ lk ls own e = .at r:=hls.symm.trans (h1.symm.trans h);unfold endZ at h3;split at h3
  ·exact (doneZ_at h3).elim
  ·split at h3
   ·rename_i s' r' hr;injection h3 with h3;subst h3
    unfold normZ at hr;simp only at hr;obtain ⟨γ',m',hle,hst,hM⟩:=h2;exact ⟨_,_,_,_,_,_,hr,⟨γ',m',hle,hst,nilS_ok hM⟩⟩
   ·cases h3
  ·cases h3

theorem callsF (hm0:P.follows .mixedOrders=true) (hF:FTok P FT) {dr:ES→Nat→Array Oper→List IM→EO} (hdr:DrOk P dr) {sub:Sub} (hsub:LoudOk P sub) {ct:Tr ZCC} (hct:ZCtsOk P ct) {f k:Nat} {p:ES→Bool} {s:ES} {lk:List Nat} {κ:EO→ZF} {own:Bool} {args:List EV} {us:Array Value} {e:EF} {a:EV} {K:List (Nat × EK)} {n':Nat} (hκ:∀ e,∃ ls,κ e=endZ lk ls own e)
  (he:exEnter FT f args=some e) (hargs:ECL γ args us.toList) (hN:∀ i,γ i=none) (hfz:FzAt γ w)
  (hl:LeadsZ P ⟨e,[],.nil,0⟩ s) (hd:runZ (stepZ P FT f dr sub ct) p κ k s = .done a K n') :
  Calls P f us w fun e w'=>∃ γ' x,e = .returned x∧EC γ' a x∧HR γ' (Bs.ofG w γ) (mkT K) n' w':=by
 intro cs;obtain ⟨q1,_⟩:=exEnter_ok hF hargs he;have hM:MR γ (Bs.ofG w γ) cs ⟨e,[],.nil,0⟩ (lone (Frame.enter P f us .normal) cs w):=
  ⟨_,[],w,rfl,q1,.nil,⟨(fun i k hk=>by cases hk),(fun i j ki kj hi=>by cases hi),(fun i _=>hN i),(fun i hi=>hi.elim),(fun i p hp=>by rw [hN i] at hp;cases hp),⟨rfl,rfl,rfl,Nat.le_refl _,fun _ _=>rfl⟩,FZ.init hfz⟩⟩
 obtain ⟨γ1,m1,g1,g3⟩:=hl γ (Bs.ofG w γ) cs _ (fun i hi=>hi) hM;obtain ⟨eo,h1,this⟩:=runZ_ok (p:=p) (κ:=κ) (fun γ s m κ' hm=>stepZ_ok (fid:=f) hm0 hF hdr hsub hct hm κ') k γ1 s m1 g3;obtain ⟨ls,hls⟩:=hκ eo;have h3:endZ lk ls own eo = .done a K n':=hls.symm.trans (h1.symm.trans hd);unfold endZ at h3;split at h3
 ·rename_i a0 H0 n0;obtain ⟨γ',fr',w',v,_,h2,h4,h5,h6,h7⟩:=this;obtain ⟨γ2,k1,k2⟩:=doneZ_ok h3 h7 (fun i hi=>hi) h6;exact ⟨.returned v,w',fr',⟨γ2,v,rfl,k1,k2⟩,g1.trans h2,h4,h5⟩
 ·split at h3 <;> cases h3
 ·cases h3
end Go.Proofs.Ytfffbioafhppiaa.Ev
namespace Go.Proofs.Ytfffbioafhppiaa.Ev
open Go.RowKit
variable {P:Program} {γ γ':G} {w0:Bs} {w:World} {H H':Tr EK} {n n':Nat} {T:Tr EV} {cs:List Frame} {fid:FuncId} {FT:Tr FI} {tmps:Array Value} {o:Oper} {α:Type}
noncomputable def idL (k:Nat):List (Nat × Nat):=Nat.rec [] (fun j ih=>ih ++ [(j,j)]) k
theorem idL_mem:∀ {k j:Nat},j < k→(j,j) ∈ idL k
 | k+1,j,h=>by
  show (j,j) ∈ idL k ++ [(k,k)]
  by_cases e:j=k
  ·subst e;simp
  ·exact List.mem_append.2 (.inl (idL_mem (by omega)))
noncomputable def pinsB (k:Nat) (ρ:List (Nat × Nat)):Bool:=allL (fun p=>isSomeN (lookN ρ p.1) p.2) (idL k)
theorem pinsB_ok {k:Nat} {ρ:List (Nat × Nat)} (h:pinsB k ρ=true) {j:Nat} (hj:j < k):lookN ρ j=some j:=isSomeN_ok (allL_ok h (j,j) (idL_mem hj))
noncomputable def normK (k:Nat) (lk:List Nat) (ls:List SZ) (e:EO):Option NS:=match e with
 | .go s=>match framesN (s.top :: s.rest) ls ⟨idL k,[],k⟩ with
  | (q0,sl)=>match closeN lk s.H 60 0 q0 with
   | q=>bc (pinsB k q.ρ) (normR lk sl q.ρ (keepN s.H q.ρ) q.nils q.N (.go s)) none
 | _=>none
noncomputable def doneM (k:Nat) (a:EV) (H:Tr EK):ZF:=match closeN [] H 60 0 (addL (numsE 6 a) ⟨idL k,[],k⟩) with
 | q=>match renE q.ρ 8 a with
  | some a'=>match pickK q.ρ H [] (keepN H q.ρ) with
   | some K=>bc (okN q.ρ q.N) (bc (allL (fun p=>isSomeN (lookN q.ρ p.1) p.2) (keepN H q.ρ)) (bc (pinsB k q.ρ) (.done a' (sortK K) q.N) .bad) .bad) .bad
   | none=>.bad
  | none=>.bad

abbrev NLs:=List (Nat × Nat × TypeId × SyC)
noncomputable def nilD (nl:NLs):Tr EK × Nat→Tr EK × Nat:=List.rec (fun q=>q) (fun p _ ih q=>match q.1.get p.1 with
 | some (.cells _ l _)=>ih (nilL p.2.1 p.2.2.1 p.2.2.2 p.1 (nilJ l 0) q)
 | _=>ih q) nl
theorem nilD_ok:∀ {nl:NLs} {q:Tr EK × Nat},HR γ w0 q.1 q.2 w→HR γ w0 (nilD nl q).1 (nilD nl q).2 w
 | [],_,h=>h
 | p :: nl,q,h=>by
  show HR γ w0 (match q.1.get p.1 with
   | some (.cells _ l _)=>nilD nl (nilL p.2.1 p.2.2.1 p.2.2.2 p.1 (nilJ l 0) q)
   | _=>nilD nl q).1 (match q.1.get p.1 with
   | some (.cells _ l _)=>nilD nl (nilL p.2.1 p.2.2.1 p.2.2.2 p.1 (nilJ l 0) q)
   | _=>nilD nl q).2 w
  split
  ·exact nilD_ok (nilL_ok h)
  ·exact nilD_ok h
noncomputable def endM (k:Nat) (lk:List Nat) (ps:PLs) (nl:NLs) (e:EO):ZF:=match e with
 | .go s=>match normK k lk (lsAt ps s) (.go (nilS (lsAt ps s) s)) with
  | some r=>.at r
  | none=>.bad
 | .done a H n=>doneM k a (nilD nl (H,n)).1
 | _=>.bad
def LeadsM (P:Program) (k:Nat) (s s':ES):Prop:=∀ (γ:G) (w0:Bs) (cs:List Frame) (m:Machine),(∀ i,¬ w0.res i)→MR γ w0 cs s m→∃ γ' m',Steps P m m'∧MR γ' w0 cs s' m'∧∀ j p,j < k→γ j=some p→γ' j=some p
theorem LeadsM.trans {k:Nat} {a b c:ES} (h:LeadsM P k a b) (g:LeadsM P k b c):LeadsM P k a c:=fun γ w0 cs m hr hm=>by
 obtain ⟨γ1,m1,h1,h2,h3⟩:=h γ w0 cs m hr hm;obtain ⟨γ2,m2,k1,k2,k3⟩:=g γ1 w0 cs m1 hr h2;exact ⟨γ2,m2,h1.trans k1,k2,fun j p hj e=>k3 j p hj (h3 j p hj e)⟩
theorem LeadsM.refl (k:Nat) (a:ES):LeadsM P k a a:=fun γ _ _ m _ hm=>⟨γ,m,Steps.refl P _,hm,fun _ _ _ e=>e⟩
theorem leads_ofM {s:ES} {lk:List Nat} {r:NS} {f:FuncId} {k:Nat}
  (h:∀ (γ:G) (w0:Bs) (cs:List Frame) (m:Machine),MR γ w0 cs s m→∃ e ls ρ keep nils N,normR lk ls ρ keep nils N e=some r∧pinsB k ρ=true∧SOk P γ w0 cs f m e):LeadsM P k s (stOf r):=fun γ w0 cs m hres hm=>by
 obtain ⟨e,ls,ρ,keep,nils,N,h,hpk,this⟩:=h γ w0 cs m hm;unfold normR at h;split at h
 case h_2=>cases h
 rename_i s';obtain ⟨γ',m',h1,h2,h3⟩:=this;split at h
 case h_2=>cases h
 rename_i l hl;split at h
 case h_2=>cases h
 rename_i K hK;rw [bc_eq] at h;split at h
 case isFalse=>cases h
 rename_i hρ;rw [bc_eq] at h;split at h
 case isFalse=>cases h
 rename_i hkeep;rw [bc_eq] at h;split at h
 case isFalse=>cases h
 rename_i hnil;injection h with h;subst h
 obtain ⟨fr,frs,w,rfl,g1,hfs,hH⟩:=h3;have g3:=normFsR_ok hρ hl (.cons g1 hfs);have hHn:=hH.ren hres hρ hkeep hnil hK (K2:=sortK (nilsK nils ++ K)) (fun _=>sortK_mem)
 cases l with
 | nil=>have g3:All2 (FR (γ'.ren ρ)) [] (fr :: frs):=g3;cases g3
 | cons f l=>
  have g3:All2 (FR (γ'.ren ρ)) (frOf f :: frsOf l) (fr :: frs):=g3
  cases g3 with
  | cons e1 e2=>exact ⟨γ'.ren ρ,_,h2,⟨fr,frs,w,rfl,e1,e2,hHn⟩,fun j p hj ej=>by rw [G.ren_look hρ (pinsB_ok hpk hj)];exact h1 j p ej⟩
theorem leadsM (hm0:P.follows .mixedOrders=true) (hF:FTok P FT) {dr:ES→Nat→Array Oper→List IM→EO} (hdr:DrOk P dr) {sub:Sub} (hsub:LoudOk P sub) {ct:Tr ZCC} (hct:ZCtsOk P ct) {f k c:Nat} {p:ES→Bool} {s:ES} {lk:List Nat} {ps:PLs} {nl:NLs} {r:NS}
  (h:runZ (stepZ P FT f dr sub ct) p (endM k lk ps nl) c s = .at r):LeadsM P k s (stOf r):=
 leads_ofM (f:=f) (lk:=lk) fun γ w0 cs m hm=>by
  obtain ⟨e,h1,h2⟩:=runZ_ok (p:=p) (κ:=endM k lk ps nl) (fun γ s m κ' hm=>stepZ_ok (fid:=f) hm0 hF hdr hsub hct hm κ') c γ s m hm;have h3:endM k lk ps nl e = .at r:=h1.symm.trans h;unfold endM at h3;split at h3
  ·split at h3
   ·rename_i s' r' hr;injection h3 with h3;subst h3
    unfold normK at hr;simp only at hr;rw [bc_eq] at hr;split at hr
    case isFalse=>cases hr
    rename_i hpk;obtain ⟨γ',m',hle,hst,hM⟩:=h2;exact ⟨_,_,_,_,_,_,hr,hpk,⟨γ',m',hle,hst,nilS_ok hM⟩⟩
   ·cases h3
  ·unfold doneM at h3;simp only at h3;split at h3
   ·split at h3
    ·rw [bc_eq,bc_eq,bc_eq] at h3;split at h3
     ·split at h3
      ·split at h3 <;> cases h3
      ·cases h3
     ·cases h3
    ·cases h3
   ·cases h3
  ·cases h3

theorem callsM (hm0:P.follows .mixedOrders=true) (hF:FTok P FT) {dr:ES→Nat→Array Oper→List IM→EO} (hdr:DrOk P dr) {sub:Sub} (hsub:LoudOk P sub) {ct:Tr ZCC} (hct:ZCtsOk P ct) {f k c:Nat} {p:ES→Bool} {s:ES} {lk:List Nat} {ps:PLs} {nl:NLs} {args:List EV} {us:Array Value} {e:EF} {K0:List (Nat × EK)} {m0:Nat} {a:EV} {K:List (Nat × EK)} {n':Nat}
  (he:exEnter FT f args=some e) (hres:∀ i,¬ w0.res i) (hargs:ECL γ args us.toList) (hH:HR γ w0 (mkT K0) m0 w)
  (hl:LeadsM P k ⟨e,[],mkT K0,m0⟩ s) (hd:runZ (stepZ P FT f dr sub ct) p (endM k lk ps nl) c s = .done a K n') :
  Calls P f us w fun e w'=>∃ γ' x,e = .returned x∧EC γ' a x∧HR γ' w0 (mkT K) n' w'∧∀ j p,j < k→γ j=some p→γ' j=some p:=by
 intro cs;obtain ⟨q1,_⟩:=exEnter_ok hF hargs he;have hM:MR γ w0 cs ⟨e,[],mkT K0,m0⟩ (lone (Frame.enter P f us .normal) cs w):=⟨_,[],w,rfl,q1,.nil,hH⟩;obtain ⟨γ1,m1,g1,g3,g4⟩:=hl γ w0 cs _ hres hM;obtain ⟨eo,h1,this⟩:=runZ_ok (p:=p) (κ:=endM k lk ps nl) (fun γ s m κ' hm=>stepZ_ok (fid:=f) hm0 hF hdr hsub hct hm κ') c γ1 s m1 g3;have h3:endM k lk ps nl eo = .done a K n':=h1.symm.trans hd;unfold endM at h3;split at h3
 ·split at h3 <;> cases h3
 ·rename_i a0 H0 n0;obtain ⟨γ',fr',w',v,hle,h2,h4,h5,h6,h7⟩:=this;unfold doneM at h3;simp only at h3;split at h3
  case h_2=>cases h3
  rename_i a2 ha2;split at h3
  case h_2=>cases h3
  rename_i K2 hK2;rw [bc_eq] at h3;split at h3
  case isFalse=>cases h3
  rename_i hρ;rw [bc_eq] at h3;split at h3
  case isFalse=>cases h3
  rename_i hkeep;rw [bc_eq] at h3;split at h3
  case isFalse=>cases h3
  rename_i hpk;injection h3 with e1 e2 e3;subst e1;subst e2;subst e3
  exact ⟨.returned v,w',fr',⟨_,v,rfl,EC.ren hρ ha2 h6,(nilD_ok (nl:=nl) (q:=(H0,n0)) h7).ren (nils:=[]) hres hρ hkeep rfl hK2 (K2:=sortK K2) (fun _=>sortK_mem),fun j p hj ej=>by rw [G.ren_look hρ (pinsB_ok hpk hj)];exact hle j p (g4 j p hj ej)⟩,g1.trans h2,h4,h5⟩
 ·cases h3
end Go.Proofs.Ytfffbioafhppiaa.Ev
namespace Go.Proofs.Ytfffbioafhppiaa.Ev
open Go.Proofs
noncomputable def ft0:Tr FI:=.nil
theorem ft0Ok:FTok Try.prog ft0:=FTok.nil _
noncomputable def ft1:Tr FI:=ft0.put 9 (some (ofFunc Try.f9))
theorem ft1Ok:FTok Try.prog ft1:=ft0Ok.add (by kernel_rfl) Try.func9 (by kernel_rfl) (by kernel_rfl)
noncomputable def ft2:Tr FI:=ft1.put 11 (some (ofFunc Try.f11))
theorem ft2Ok:FTok Try.prog ft2:=ft1Ok.add (by kernel_rfl) Try.func11 (by kernel_rfl) (by kernel_rfl)
noncomputable def ft3:Tr FI:=ft2.put 12 (some (ofFunc Try.f12))
theorem ft3Ok:FTok Try.prog ft3:=ft2Ok.add (by kernel_rfl) Try.func12 (by kernel_rfl) (by kernel_rfl)
noncomputable def ft4:Tr FI:=ft3.put 13 (some (ofFunc Try.f13))
theorem ft4Ok:FTok Try.prog ft4:=ft3Ok.add (by kernel_rfl) Try.func13 (by kernel_rfl) (by kernel_rfl)
noncomputable def ft5:Tr FI:=ft4.put 18 (some (ofFunc Try.f18))
theorem ft5Ok:FTok Try.prog ft5:=ft4Ok.add (by kernel_rfl) Try.func18 (by kernel_rfl) (by kernel_rfl)
noncomputable def ft6:Tr FI:=ft5.put 19 (some (ofFunc Try.f19))
theorem ft6Ok:FTok Try.prog ft6:=ft5Ok.add (by kernel_rfl) Try.func19 (by kernel_rfl) (by kernel_rfl)
noncomputable def ft7:Tr FI:=ft6.put 36 (some (ofFunc Try.f36))
theorem ft7Ok:FTok Try.prog ft7:=ft6Ok.add (by kernel_rfl) Try.func36 (by kernel_rfl) (by kernel_rfl)
noncomputable def ft8:Tr FI:=ft7.put 38 (some (ofFunc Try.f38))
theorem ft8Ok:FTok Try.prog ft8:=ft7Ok.add (by kernel_rfl) Try.func38 (by kernel_rfl) (by kernel_rfl)
noncomputable def ft9:Tr FI:=ft8.put 39 (some (ofFunc Try.f39))
theorem ft9Ok:FTok Try.prog ft9:=ft8Ok.add (by kernel_rfl) Try.func39 (by kernel_rfl) (by kernel_rfl)
noncomputable def ft10:Tr FI:=ft9.put 40 (some (ofFunc Try.f40))
theorem ft10Ok:FTok Try.prog ft10:=ft9Ok.add (by kernel_rfl) Try.func40 (by kernel_rfl) (by kernel_rfl)
noncomputable def ft11:Tr FI:=ft10.put 41 (some (ofFunc Try.f41))
theorem ft11Ok:FTok Try.prog ft11:=ft10Ok.add (by kernel_rfl) Try.func41 (by kernel_rfl) (by kernel_rfl)
noncomputable def ft12:Tr FI:=ft11.put 42 (some (ofFunc Try.f42))
theorem ft12Ok:FTok Try.prog ft12:=ft11Ok.add (by kernel_rfl) Try.func42 (by kernel_rfl) (by kernel_rfl)
noncomputable def ft13:Tr FI:=ft12.put 43 (some (ofFunc Try.f43))
theorem ft13Ok:FTok Try.prog ft13:=ft12Ok.add (by kernel_rfl) Try.func43 (by kernel_rfl) (by kernel_rfl)
noncomputable def ft14:Tr FI:=ft13.put 50 (some (ofFunc Try.f50))
theorem ft14Ok:FTok Try.prog ft14:=ft13Ok.add (by kernel_rfl) Try.func50 (by kernel_rfl) (by kernel_rfl)
noncomputable def ft15:Tr FI:=ft14.put 51 (some (ofFunc Try.f51))
theorem ft15Ok:FTok Try.prog ft15:=ft14Ok.add (by kernel_rfl) Try.func51 (by kernel_rfl) (by kernel_rfl)
noncomputable def ft16:Tr FI:=ft15.put 52 (some (ofFunc Try.f52))
theorem ft16Ok:FTok Try.prog ft16:=ft15Ok.add (by kernel_rfl) Try.func52 (by kernel_rfl) (by kernel_rfl)
noncomputable def ft17:Tr FI:=ft16.put 53 (some (ofFunc Try.f53))
theorem ft17Ok:FTok Try.prog ft17:=ft16Ok.add (by kernel_rfl) Try.func53 (by kernel_rfl) (by kernel_rfl)
noncomputable def ft18:Tr FI:=ft17.put 54 (some (ofFunc Try.f54))
theorem ft18Ok:FTok Try.prog ft18:=ft17Ok.add (by kernel_rfl) Try.func54 (by kernel_rfl) (by kernel_rfl)
noncomputable def ft19:Tr FI:=ft18.put 55 (some (ofFunc Try.f55))
theorem ft19Ok:FTok Try.prog ft19:=ft18Ok.add (by kernel_rfl) Try.func55 (by kernel_rfl) (by kernel_rfl)
noncomputable def ft20:Tr FI:=ft19.put 56 (some (ofFunc Try.f56))
theorem ft20Ok:FTok Try.prog ft20:=ft19Ok.add (by kernel_rfl) Try.func56 (by kernel_rfl) (by kernel_rfl)
noncomputable def ft21:Tr FI:=ft20.put 58 (some (ofFunc Try.f58))
theorem ft21Ok:FTok Try.prog ft21:=ft20Ok.add (by kernel_rfl) Try.func58 (by kernel_rfl) (by kernel_rfl)
noncomputable def ft22:Tr FI:=ft21.put 59 (some (ofFunc Try.f59))
theorem ft22Ok:FTok Try.prog ft22:=ft21Ok.add (by kernel_rfl) Try.func59 (by kernel_rfl) (by kernel_rfl)
noncomputable def ft23:Tr FI:=ft22.put 60 (some (ofFunc Try.f60))
theorem ft23Ok:FTok Try.prog ft23:=ft22Ok.add (by kernel_rfl) Try.func60 (by kernel_rfl) (by kernel_rfl)
noncomputable def ft24:Tr FI:=ft23.put 80 (some (ofFunc Try.f80))
theorem ft24Ok:FTok Try.prog ft24:=ft23Ok.add (by kernel_rfl) Try.func80 (by kernel_rfl) (by kernel_rfl)
noncomputable def ft25:Tr FI:=ft24.put 86 (some (ofFunc Try.f86))
theorem ft25Ok:FTok Try.prog ft25:=ft24Ok.add (by kernel_rfl) Try.func86 (by kernel_rfl) (by kernel_rfl)
noncomputable def ft26:Tr FI:=ft25.put 87 (some (ofFunc Try.f87))
theorem ft26Ok:FTok Try.prog ft26:=ft25Ok.add (by kernel_rfl) Try.func87 (by kernel_rfl) (by kernel_rfl)
noncomputable def ft27:Tr FI:=ft26.put 88 (some (ofFunc Try.f88))
theorem ft27Ok:FTok Try.prog ft27:=ft26Ok.add (by kernel_rfl) Try.func88 (by kernel_rfl) (by kernel_rfl)
noncomputable def ft28:Tr FI:=ft27.put 89 (some (ofFunc Try.f89))
theorem ft28Ok:FTok Try.prog ft28:=ft27Ok.add (by kernel_rfl) Try.func89 (by kernel_rfl) (by kernel_rfl)
noncomputable def ft29:Tr FI:=ft28.put 90 (some (ofFunc Try.f90))
theorem ft29Ok:FTok Try.prog ft29:=ft28Ok.add (by kernel_rfl) Try.func90 (by kernel_rfl) (by kernel_rfl)
noncomputable def ft30:Tr FI:=ft29.put 91 (some (ofFunc Try.f91))
theorem ft30Ok:FTok Try.prog ft30:=ft29Ok.add (by kernel_rfl) Try.func91 (by kernel_rfl) (by kernel_rfl)
noncomputable def ft31:Tr FI:=ft30.put 92 (some (ofFunc Try.f92))
theorem ft31Ok:FTok Try.prog ft31:=ft30Ok.add (by kernel_rfl) Try.func92 (by kernel_rfl) (by kernel_rfl)
noncomputable def ft32:Tr FI:=ft31.put 93 (some (ofFunc Try.f93))
theorem ft32Ok:FTok Try.prog ft32:=ft31Ok.add (by kernel_rfl) Try.func93 (by kernel_rfl) (by kernel_rfl)
noncomputable def ft33:Tr FI:=ft32.put 94 (some (ofFunc Try.f94))
theorem ft33Ok:FTok Try.prog ft33:=ft32Ok.add (by kernel_rfl) Try.func94 (by kernel_rfl) (by kernel_rfl)
noncomputable def ft34:Tr FI:=ft33.put 103 (some (ofFunc Try.f103))
theorem ft34Ok:FTok Try.prog ft34:=ft33Ok.add (by kernel_rfl) Try.func103 (by kernel_rfl) (by kernel_rfl)
noncomputable def ft35:Tr FI:=ft34.put 104 (some (ofFunc Try.f104))
theorem ft35Ok:FTok Try.prog ft35:=ft34Ok.add (by kernel_rfl) Try.func104 (by kernel_rfl) (by kernel_rfl)
noncomputable def ft36:Tr FI:=ft35.put 105 (some (ofFunc Try.f105))
theorem ft36Ok:FTok Try.prog ft36:=ft35Ok.add (by kernel_rfl) Try.func105 (by kernel_rfl) (by kernel_rfl)
noncomputable def ft37:Tr FI:=ft36.put 106 (some (ofFunc Try.f106))
theorem ft37Ok:FTok Try.prog ft37:=ft36Ok.add (by kernel_rfl) Try.func106 (by kernel_rfl) (by kernel_rfl)
noncomputable def ft38:Tr FI:=ft37.put 107 (some (ofFunc Try.f107))
theorem ft38Ok:FTok Try.prog ft38:=ft37Ok.add (by kernel_rfl) Try.func107 (by kernel_rfl) (by kernel_rfl)
noncomputable def ft39:Tr FI:=ft38.put 108 (some (ofFunc Try.f108))
theorem ft39Ok:FTok Try.prog ft39:=ft38Ok.add (by kernel_rfl) Try.func108 (by kernel_rfl) (by kernel_rfl)
noncomputable def ft40:Tr FI:=ft39.put 109 (some (ofFunc Try.f109))
theorem ft40Ok:FTok Try.prog ft40:=ft39Ok.add (by kernel_rfl) Try.func109 (by kernel_rfl) (by kernel_rfl)
noncomputable def ft41:Tr FI:=ft40.put 131 (some (ofFunc Try.f131))
theorem ft41Ok:FTok Try.prog ft41:=ft40Ok.add (by kernel_rfl) Try.func131 (by kernel_rfl) (by kernel_rfl)
noncomputable def ft42:Tr FI:=ft41.put 132 (some (ofFunc Try.f132))
theorem ft42Ok:FTok Try.prog ft42:=ft41Ok.add (by kernel_rfl) Try.func132 (by kernel_rfl) (by kernel_rfl)
noncomputable def ft43:Tr FI:=ft42.put 133 (some (ofFunc Try.f133))
theorem ft43Ok:FTok Try.prog ft43:=ft42Ok.add (by kernel_rfl) Try.func133 (by kernel_rfl) (by kernel_rfl)
noncomputable def ft44:Tr FI:=ft43.put 134 (some (ofFunc Try.f134))
theorem ft44Ok:FTok Try.prog ft44:=ft43Ok.add (by kernel_rfl) Try.func134 (by kernel_rfl) (by kernel_rfl)
noncomputable def ft45:Tr FI:=ft44.put 135 (some (ofFunc Try.f135))
theorem ft45Ok:FTok Try.prog ft45:=ft44Ok.add (by kernel_rfl) Try.func135 (by kernel_rfl) (by kernel_rfl)
noncomputable def ft46:Tr FI:=ft45.put 140 (some (ofFunc Try.f140))
theorem ft46Ok:FTok Try.prog ft46:=ft45Ok.add (by kernel_rfl) Try.func140 (by kernel_rfl) (by kernel_rfl)
noncomputable def ft47:Tr FI:=ft46.put 152 (some (ofFunc Try.f152))
theorem ft47Ok:FTok Try.prog ft47:=ft46Ok.add (by kernel_rfl) Try.func152 (by kernel_rfl) (by kernel_rfl)
noncomputable def ft48:Tr FI:=ft47.put 153 (some (ofFunc Try.f153))
theorem ft48Ok:FTok Try.prog ft48:=ft47Ok.add (by kernel_rfl) Try.func153 (by kernel_rfl) (by kernel_rfl)
noncomputable def ft49:Tr FI:=ft48.put 154 (some (ofFunc Try.f154))
theorem ft49Ok:FTok Try.prog ft49:=ft48Ok.add (by kernel_rfl) Try.func154 (by kernel_rfl) (by kernel_rfl)
noncomputable def ft50:Tr FI:=ft49.put 155 (some (ofFunc Try.f155))
theorem ft50Ok:FTok Try.prog ft50:=ft49Ok.add (by kernel_rfl) Try.func155 (by kernel_rfl) (by kernel_rfl)
noncomputable def ft51:Tr FI:=ft50.put 156 (some (ofFunc Try.f156))
theorem ft51Ok:FTok Try.prog ft51:=ft50Ok.add (by kernel_rfl) Try.func156 (by kernel_rfl) (by kernel_rfl)
noncomputable def ft52:Tr FI:=ft51.put 157 (some (ofFunc Try.f157))
theorem ft52Ok:FTok Try.prog ft52:=ft51Ok.add (by kernel_rfl) Try.func157 (by kernel_rfl) (by kernel_rfl)
noncomputable def ft53:Tr FI:=ft52.put 158 (some (ofFunc Try.f158))
theorem ft53Ok:FTok Try.prog ft53:=ft52Ok.add (by kernel_rfl) Try.func158 (by kernel_rfl) (by kernel_rfl)
noncomputable def ft54:Tr FI:=ft53.put 159 (some (ofFunc Try.f159))
theorem ft54Ok:FTok Try.prog ft54:=ft53Ok.add (by kernel_rfl) Try.func159 (by kernel_rfl) (by kernel_rfl)
noncomputable def ft55:Tr FI:=ft54.put 160 (some (ofFunc Try.f160))
theorem ft55Ok:FTok Try.prog ft55:=ft54Ok.add (by kernel_rfl) Try.func160 (by kernel_rfl) (by kernel_rfl)
noncomputable def ft56:Tr FI:=ft55.put 161 (some (ofFunc Try.f161))
theorem ft56Ok:FTok Try.prog ft56:=ft55Ok.add (by kernel_rfl) Try.func161 (by kernel_rfl) (by kernel_rfl)
noncomputable def ft57:Tr FI:=ft56.put 162 (some (ofFunc Try.f162))
theorem ft57Ok:FTok Try.prog ft57:=ft56Ok.add (by kernel_rfl) Try.func162 (by kernel_rfl) (by kernel_rfl)
noncomputable def ft58:Tr FI:=ft57.put 169 (some (ofFunc Try.f169))
theorem ft58Ok:FTok Try.prog ft58:=ft57Ok.add (by kernel_rfl) Try.func169 (by kernel_rfl) (by kernel_rfl)
noncomputable def ft59:Tr FI:=ft58.put 170 (some (ofFunc Try.f170))
theorem ft59Ok:FTok Try.prog ft59:=ft58Ok.add (by kernel_rfl) Try.func170 (by kernel_rfl) (by kernel_rfl)
noncomputable def ft60:Tr FI:=ft59.put 171 (some (ofFunc Try.f171))
theorem ft60Ok:FTok Try.prog ft60:=ft59Ok.add (by kernel_rfl) Try.func171 (by kernel_rfl) (by kernel_rfl)
noncomputable def ft61:Tr FI:=ft60.put 172 (some (ofFunc Try.f172))
theorem ft61Ok:FTok Try.prog ft61:=ft60Ok.add (by kernel_rfl) Try.func172 (by kernel_rfl) (by kernel_rfl)
noncomputable def ft62:Tr FI:=ft61.put 173 (some (ofFunc Try.f173))
theorem ft62Ok:FTok Try.prog ft62:=ft61Ok.add (by kernel_rfl) Try.func173 (by kernel_rfl) (by kernel_rfl)
noncomputable def ft63:Tr FI:=ft62.put 174 (some (ofFunc Try.f174))
theorem ft63Ok:FTok Try.prog ft63:=ft62Ok.add (by kernel_rfl) Try.func174 (by kernel_rfl) (by kernel_rfl)
noncomputable def ft64:Tr FI:=ft63.put 175 (some (ofFunc Try.f175))
theorem ft64Ok:FTok Try.prog ft64:=ft63Ok.add (by kernel_rfl) Try.func175 (by kernel_rfl) (by kernel_rfl)
noncomputable def ft:Tr FI:=(.node none (.node none (.node none (.node none (.node none (.node none .nil (.node none (.node none .nil (.node (some (ofFunc Try.f160)) .nil .nil)) .nil)) (.node none (.node none .nil (.node (some (ofFunc Try.f80)) .nil .nil)) .nil)) (.node none (.node none .nil (.node (some (ofFunc Try.f40)) .nil (.node (some (ofFunc Try.f104)) .nil .nil))) (.node none (.node none (.node none .nil (.node (some (ofFunc Try.f152)) .nil .nil)) (.node (some (ofFunc Try.f88)) .nil .nil)) (.node (some (ofFunc Try.f56)) .nil .nil)))) (.node none (.node none (.node none (.node none (.node none .nil (.node (some (ofFunc Try.f132)) .nil .nil)) .nil) (.node (some (ofFunc Try.f36)) .nil .nil)) (.node none .nil (.node (some (ofFunc Try.f52)) .nil .nil))) (.node (some (ofFunc Try.f12)) (.node none (.node none (.node none .nil (.node (some (ofFunc Try.f140)) .nil .nil)) .nil) (.node none (.node none .nil (.node (some (ofFunc Try.f172)) .nil .nil)) (.node (some (ofFunc Try.f108)) .nil .nil))) (.node none (.node none (.node none .nil (.node (some (ofFunc Try.f156)) .nil .nil)) (.node (some (ofFunc Try.f92)) .nil .nil)) (.node (some (ofFunc Try.f60)) .nil .nil))))) (.node none (.node none (.node none (.node none .nil (.node none (.node none .nil (.node (some (ofFunc Try.f162)) .nil .nil)) .nil)) (.node (some (ofFunc Try.f18)) .nil (.node (some (ofFunc Try.f50)) .nil .nil))) (.node none (.node none .nil (.node (some (ofFunc Try.f42)) (.node none .nil (.node (some (ofFunc Try.f170)) .nil .nil)) (.node (some (ofFunc Try.f106)) .nil .nil))) (.node none (.node none (.node none .nil (.node (some (ofFunc Try.f154)) .nil .nil)) (.node (some (ofFunc Try.f90)) .nil .nil)) (.node (some (ofFunc Try.f58)) .nil .nil)))) (.node none (.node none (.node none (.node none (.node none .nil (.node (some (ofFunc Try.f134)) .nil .nil)) .nil) (.node (some (ofFunc Try.f38)) .nil .nil)) (.node none (.node none .nil (.node (some (ofFunc Try.f86)) .nil .nil)) (.node (some (ofFunc Try.f54)) .nil .nil))) (.node none (.node none .nil (.node none (.node none .nil (.node (some (ofFunc Try.f174)) .nil .nil)) .nil)) (.node none (.node none (.node none .nil (.node (some (ofFunc Try.f158)) .nil .nil)) (.node (some (ofFunc Try.f94)) .nil .nil)) .nil))))) (.node none (.node none (.node none (.node none (.node none .nil (.node none (.node none .nil (.node (some (ofFunc Try.f161)) .nil .nil)) .nil)) .nil) (.node (some (ofFunc Try.f9)) (.node none .nil (.node (some (ofFunc Try.f41)) (.node none .nil (.node (some (ofFunc Try.f169)) .nil .nil)) (.node (some (ofFunc Try.f105)) .nil .nil))) (.node none (.node none (.node none .nil (.node (some (ofFunc Try.f153)) .nil .nil)) (.node (some (ofFunc Try.f89)) .nil .nil)) .nil))) (.node none (.node none (.node none (.node none (.node none .nil (.node (some (ofFunc Try.f133)) .nil .nil)) .nil) .nil) (.node none .nil (.node (some (ofFunc Try.f53)) .nil .nil))) (.node (some (ofFunc Try.f13)) (.node none .nil (.node none (.node none .nil (.node (some (ofFunc Try.f173)) .nil .nil)) (.node (some (ofFunc Try.f109)) .nil .nil))) (.node none (.node none (.node none .nil (.node (some (ofFunc Try.f157)) .nil .nil)) (.node (some (ofFunc Try.f93)) .nil .nil)) .nil)))) (.node none (.node none (.node none (.node none (.node none (.node none .nil (.node (some (ofFunc Try.f131)) .nil .nil)) .nil) .nil) (.node (some (ofFunc Try.f19)) .nil (.node (some (ofFunc Try.f51)) .nil .nil))) (.node (some (ofFunc Try.f11)) (.node none .nil (.node (some (ofFunc Try.f43)) (.node none .nil (.node (some (ofFunc Try.f171)) .nil .nil)) (.node (some (ofFunc Try.f107)) .nil .nil))) (.node none (.node none (.node none .nil (.node (some (ofFunc Try.f155)) .nil .nil)) (.node (some (ofFunc Try.f91)) .nil .nil)) (.node (some (ofFunc Try.f59)) .nil .nil)))) (.node none (.node none (.node none (.node none (.node none .nil (.node (some (ofFunc Try.f135)) .nil .nil)) .nil) (.node (some (ofFunc Try.f39)) .nil (.node (some (ofFunc Try.f103)) .nil .nil))) (.node none (.node none .nil (.node (some (ofFunc Try.f87)) .nil .nil)) (.node (some (ofFunc Try.f55)) .nil .nil))) (.node none (.node none .nil (.node none (.node none .nil (.node (some (ofFunc Try.f175)) .nil .nil)) .nil)) (.node none (.node none (.node none .nil (.node (some (ofFunc Try.f159)) .nil .nil)) .nil) .nil))))))
theorem ftOk:FTok Try.prog ft:=(show ft64=ft by kernel_rfl) ▸ ft64Ok
end Go.Proofs.Ytfffbioafhppiaa.Ev
namespace Go.Proofs.Ytfffbioafhppiaa.Ev
open Go.Proofs
noncomputable def dr4:=drD Try.prog ft 16 4
noncomputable def sub4:Sub:=exSub (fun f=>exStep Try.prog ft f (drD Try.prog ft 16 3)) ft 16
theorem mix:Try.prog.follows .mixedOrders=true:=by kernel_rfl
theorem dr4Ok:DrOk Try.prog dr4:=drD_ok mix ftOk 16 4
theorem sub4Ok:LoudOk Try.prog sub4:=loudOk ftOk (fun fid cs w0 γ s m hM=>exStep_ok ftOk (drD_ok mix ftOk 16 3) hM) 16
theorem bc_t {α:Type} (x y:α):bc true x y=x:=rfl
theorem bc_f {α:Type} (x y:α):bc false x y=y:=rfl
theorem nn_ok (b:Bool):bc b true (bc b false true)=true:=by cases b <;> rfl
theorem dt {p:Prop} [Decidable p] (h:p):decide p=true:=decide_eq_true h
theorem df {p:Prop} [Decidable p] (h:¬ p):decide p=false:=decide_eq_false h
theorem bltD {a b:Nat} (h:a < b):Nat.blt a b=true:=by unfold Nat.blt;exact Nat.ble_eq_true_of_le h
theorem bltN {a b:Nat} (h:¬ a < b):Nat.blt a b=false:=by
 cases e:Nat.blt a b with
 | false=>rfl
 | true=>exact absurd (blt_lt e) h
theorem ble_of {a b:Nat} (h:a≤b):Nat.ble a b=true:=Nat.ble_eq_true_of_le h
theorem bleN {a b:Nat} (h:¬ a≤b):Nat.ble a b=false:=by
 cases e:Nat.ble a b with
 | false=>rfl
 | true=>exact absurd (Nat.le_of_ble_eq_true e) h
theorem beqD {a b:Nat} (h:a=b):Nat.beq a b=true:=by subst h;exact Nat.beq_refl a
theorem ofn (n:Nat):Int.ofNat n=(n:Int):=rfl
theorem to_nat (i:Nat):Int.toNat (i:Int)=i:=Int.toNat_natCast i
theorem wrap_in (x:Int) (h1:-4611686018427387904≤x) (h2:x < 4611686018427387904):IntKind.i64.wrap x=x:=IntWalk.i64_in _ (by omega)
theorem getD_at {α:Type} {l:List α} {d:α} {i:Nat} (h:i < l.length):l.getD i d=l[i]:=by rw [List.getD_eq_getElem?_getD,List.getElem?_eq_getElem h];rfl

noncomputable def ent (f:FuncId) (args:List EV):EF:=Option.rec ⟨f,0,.nil,[],[],none,false⟩ (fun e=>e) (exEnter ft f args)
noncomputable def st0 (f:FuncId) (args:List EV):ES:=⟨ent f args,[],.nil,0⟩

noncomputable abbrev iv (n:Int):EV:=.v (.int .i64 n)
noncomputable abbrev bv (b:Bool):EV:=.v (.bool b)
noncomputable abbrev il (l:List Int):EV:=.lst (.ints .i64 l)

noncomputable def RZs (f:FuncId) (ct:Tr ZCC) (ps:PLs) (lk:List Nat) (own:Bool) (s:ES):ZF:=runZ (stepZ Try.prog ft f dr4 sub4 ct) (atPs ps) (endP lk ps own) 600 s

noncomputable abbrev RZ (f:FuncId) (ct:Tr ZCC) (p:ES→Bool) (lk:List Nat) (ls:List SZ) (own:Bool) (s:ES):ZF:=RZs f ct [(p,ls)] lk own s
theorem leadsZ {f:FuncId} {ct:Tr ZCC} (hct:ZCtsOk Try.prog ct) {ps:PLs} {lk:List Nat} {own:Bool} {s:ES} {r:NS} (h:RZs f ct ps lk own s = .at r):LeadsZ Try.prog s (stOf r):=
 leadsF (f:=f) mix ftOk dr4Ok sub4Ok hct endP_ok h
theorem callsZ {γ:G} {w:World} {f:FuncId} {ct:Tr ZCC} (hct:ZCtsOk Try.prog ct) {ps:PLs} {lk:List Nat} {own:Bool} {s:ES} {args:List EV} {us:Array Value} {a:EV} {K:List (Nat × EK)} {n':Nat} (he:(exEnter ft f args).isSome=true) (hargs:ECL γ args us.toList) (hN:∀ i,γ i=none) (hfz:FzAt γ w)
  (hl:LeadsZ Try.prog (st0 f args) s) (hd:RZs f ct ps lk own s = .done a K n') :
  Calls Try.prog f us w fun e w'=>∃ γ' x,e = .returned x∧EC γ' a x∧HR γ' (Bs.ofG w γ) (mkT K) n' w':=by
 obtain ⟨e,he⟩:=Option.isSome_iff_exists.1 he;have:ent f args=e:=by unfold ent;rw [he]
 unfold st0 at hl;rw [this] at hl;exact callsF mix ftOk dr4Ok sub4Ok hct endP_ok he hargs hN hfz hl hd

def Weak (a a':EV):Prop:=∀ γ x,EC γ a x→EC γ a' x
theorem Weak.refl (a:EV):Weak a a:=fun _ _ h=>h
theorem Weak.nilI (k:IntKind):Weak (.v (.slice none 0 0)) (.lst (.ints k [])):=fun γ x h=>by
 rw [ec_v h];exact .lst _ _ (.empty _ _ none 0 rfl (Nat.zero_le _) fun _=>rfl)
inductive WeakL:List EV→List EV→Prop
 | nil:WeakL [] []
 | cons {a b:EV} {l r:List EV} (h:Weak a b) (t:WeakL l r):WeakL (a :: l) (b :: r)
theorem WeakL.ok {γ:G}:∀ {l r:List EV} {vs:List Value},WeakL l r→ECL γ l vs→ECL γ r vs
 | _,_,vs,.nil,h=>h
 | _,_,vs,.cons h t,k=>by
  obtain ⟨x,ys,rfl,h1,h2⟩:=ECL.inv k;exact ECL.cons (h _ _ h1) (t.ok h2)
theorem Weak.tup {l r:List EV} (h:WeakL l r):Weak (.tup l) (.tup r):=fun γ x k=>by
 cases k with
 | tup _ vs h1 h2=>have:=h.ok (γ:=γ) ⟨h1,h2⟩;exact .tup _ vs this.1 this.2
theorem Weak.trans {a b c:EV} (h:Weak a b) (k:Weak b c):Weak a c:=fun γ x e=>k γ x (h γ x e)

def EndZ (f:FuncId) (ct:Tr ZCC) (own:Bool) (s:ES) (a:EV) (K:List (Nat × EK)) (n:Nat):Prop:=∃ ps lk s' a',LeadsZ Try.prog s s'∧RZs f ct ps lk own s' = .done a' K n∧Weak a' a
theorem EndZ.done {f:FuncId} {ct:Tr ZCC} {own:Bool} {s:ES} {a:EV} {K:List (Nat × EK)} {n:Nat} {ps:PLs} {lk:List Nat} (h:RZs f ct ps lk own s = .done a K n):EndZ f ct own s a K n:=⟨ps,lk,s,a,LeadsZ.refl s,h,Weak.refl a⟩
theorem EndZ.weak {f:FuncId} {ct:Tr ZCC} {own:Bool} {s:ES} {a b:EV} {K:List (Nat × EK)} {n:Nat} (h:EndZ f ct own s a K n) (k:Weak a b):EndZ f ct own s b K n:=by
 obtain ⟨ps,lk,t,a',h1,h2,h3⟩:=h;exact ⟨ps,lk,t,a',h1,h2,h3.trans k⟩
theorem EndZ.lead {f:FuncId} {ct:Tr ZCC} {own:Bool} {s s':ES} {a:EV} {K:List (Nat × EK)} {n:Nat} (h:LeadsZ Try.prog s s') (k:EndZ f ct own s' a K n):EndZ f ct own s a K n:=by
 obtain ⟨ps,lk,t,a',h1,h2,h3⟩:=k;exact ⟨ps,lk,t,a',h.trans h1,h2,h3⟩
theorem EndZ.at {f:FuncId} {ct:Tr ZCC} (hct:ZCtsOk Try.prog ct) {own own':Bool} {s:ES} {r:NS} {a:EV} {K:List (Nat × EK)} {n:Nat} {ps:PLs} {lk:List Nat} (h:RZs f ct ps lk own' s = .at r) (k:EndZ f ct own (stOf r) a K n):EndZ f ct own s a K n:=k.lead (leadsZ hct h)
theorem EndZ.calls {γ:G} {w:World} {f:FuncId} {ct:Tr ZCC} {own:Bool} {args:List EV} {a:EV} {K:List (Nat × EK)} {n':Nat} (h:EndZ f ct own (st0 f args) a K n') (hct:ZCtsOk Try.prog ct) {us:Array Value} (he:(exEnter ft f args).isSome=true) (hargs:ECL γ args us.toList) (hN:∀ i,γ i=none) (hfz:FzAt γ w) :
  Calls Try.prog f us w fun e w'=>∃ γ' x,e = .returned x∧EC γ' a x∧HR γ' (Bs.ofG w γ) (mkT K) n' w':=by
 obtain ⟨ps,lk,t,a',h1,h2,h3⟩:=h;refine (callsZ hct he hargs hN hfz h1 h2).mono fun e w' ⟨γ',x,k1,k2,k3⟩=>⟨γ',x,k1,h3 γ' x k2,k3⟩

noncomputable def st0m (f:FuncId) (args:List EV) (K0:List (Nat × EK)) (m:Nat):ES:=⟨ent f args,[],mkT K0,m⟩

noncomputable def RMs (k:Nat) (f:FuncId) (ct:Tr ZCC) (ps:PLs) (lk:List Nat) (nl:NLs) (s:ES):ZF:=runZ (stepZ Try.prog ft f dr4 sub4 ct) (atPs ps) (endM k lk ps nl) 600 s
theorem leadsMZ {k:Nat} {f:FuncId} {ct:Tr ZCC} (hct:ZCtsOk Try.prog ct) {ps:PLs} {lk:List Nat} {s:ES} {r:NS} {nl:NLs} (h:RMs k f ct ps lk nl s = .at r):LeadsM Try.prog k s (stOf r):=
 leadsM (f:=f) mix ftOk dr4Ok sub4Ok hct h
def EndM (k:Nat) (f:FuncId) (ct:Tr ZCC) (s:ES) (a:EV) (K:List (Nat × EK)) (n:Nat):Prop:=∃ ps lk nl s',LeadsM Try.prog k s s'∧RMs k f ct ps lk nl s' = .done a K n
theorem EndM.done {k:Nat} {f:FuncId} {ct:Tr ZCC} {s:ES} {a:EV} {K:List (Nat × EK)} {n:Nat} {ps:PLs} {lk:List Nat} {nl:NLs} (h:RMs k f ct ps lk nl s = .done a K n):EndM k f ct s a K n:=⟨ps,lk,nl,s,LeadsM.refl k s,h⟩
theorem EndM.lead {k:Nat} {f:FuncId} {ct:Tr ZCC} {s s':ES} {a:EV} {K:List (Nat × EK)} {n:Nat} (h:LeadsM Try.prog k s s') (g:EndM k f ct s' a K n):EndM k f ct s a K n:=by
 obtain ⟨ps,lk,nl,t,h1,h2⟩:=g;exact ⟨ps,lk,nl,t,h.trans h1,h2⟩
theorem EndM.at {k:Nat} {f:FuncId} {ct:Tr ZCC} (hct:ZCtsOk Try.prog ct) {s:ES} {r:NS} {a:EV} {K:List (Nat × EK)} {n:Nat} {ps:PLs} {lk:List Nat} {nl:NLs} (h:RMs k f ct ps lk nl s = .at r) (g:EndM k f ct (stOf r) a K n):EndM k f ct s a K n:=g.lead (leadsMZ hct h)
theorem EndM.calls {k:Nat} {γ:G} {w0:Bs} {w:World} {f:FuncId} {ct:Tr ZCC} {args:List EV} {K0:List (Nat × EK)} {m0:Nat} {a:EV} {K:List (Nat × EK)} {n':Nat} (h:EndM k f ct (st0m f args K0 m0) a K n') (hct:ZCtsOk Try.prog ct) {us:Array Value} (he:(exEnter ft f args).isSome=true) (hres:∀ i,¬ w0.res i) (hargs:ECL γ args us.toList) (hH:HR γ w0 (mkT K0) m0 w) :
  Calls Try.prog f us w fun e w'=>∃ γ' x,e = .returned x∧EC γ' a x∧HR γ' w0 (mkT K) n' w'∧∀ j p,j < k→γ j=some p→γ' j=some p:=by
 obtain ⟨ps,lk,nl,t,h1,h2⟩:=h;obtain ⟨e,he⟩:=Option.isSome_iff_exists.1 he;have:ent f args=e:=by unfold ent;rw [he]
 unfold st0m at h1;rw [this] at h1;exact callsM mix ftOk dr4Ok sub4Ok hct he hres hargs hH h1 h2
theorem bc_same {α:Type} (b:Bool) (x:α):bc b x x=x:=by cases b <;> rfl

noncomputable def ZMT.or (a b:ZMT):ZMT:=fun ax K m=>match a ax K m with
 | some r=>some r
 | none=>b ax K m
theorem ZMtOk.or {P:Program} {g:FuncId} {a b:ZMT} (ha:ZMtOk P g a) (hb:ZMtOk P g b):ZMtOk P g (a.or b):=fun γ w0 w us ax K0 m r hs=>by
 unfold ZMT.or at hs;split at hs
 ·rename_i r' hr;injection hs with hs;subst hs
  exact ha γ w0 w us ax K0 m _ hr
 ·exact hb γ w0 w us ax K0 m r hs
noncomputable def ZCT.or (a b:ZCT):ZCT:=fun ax=>match a ax with
 | some r=>some r
 | none=>b ax
theorem noN {α:Type} {x r:α} {b:Bool} (h:bc b (some x) none=some r):b=true∧x=r:=by
 cases b
 ·cases h
 ·exact ⟨rfl,Option.some.inj h⟩
end Go.Proofs.Ytfffbioafhppiaa.Ev
namespace Go.Proofs.Ytfffbioafhppiaa.Ev
open Go.Proofs
theorem closed_ct {P:Program} {f:FuncId} {γ:G} {w:World} {us:Array Value} (h:Calls P f #[] w fun e w'=>e = .returned (.bool true)∧Stays w w') (hax:ECL γ [] us.toList) (hfz:FzAt γ w):Calls P f us w fun e w'=>∃ γ' x,e = .returned x∧EC γ' (bv true) x∧HR γ' (Bs.ofG w γ) (mkT (zseqs [])) 0 w':=by
 have hu:us = #[]:=by
  have:=hax.1;apply Array.toList_inj.1;exact List.eq_nil_of_length_eq_zero this.symm
 subst hu;refine h.mono ?_
 rintro e w' ⟨rfl,hs⟩
 refine ⟨⟨fun _=>none,γ.fz,fun _ _ _=>none⟩,_,rfl,.v _,⟨(fun i k hk=>by cases hk),(fun i j ki kj hi=>by cases hi),(fun _ _=>rfl),(fun i hi=>hi.elim),(fun i p hp=>by cases hp),⟨hs.os,hs.tape,hs.output,hs.size,hs.block⟩,⟨fun k a hk=>?_,fun k hk=>hk,.none (fun _ _ _ p e=>by cases (show (none:Option (Nat × Nat × Nat))=some p from e)) (fun i k hi=>by cases hi)⟩⟩⟩
 obtain ⟨ty,fz,h1⟩:=hfz k a hk;have hk2:=(Array.getElem?_eq_some_iff.1 h1).1;exact ⟨⟨ty,fz,(hs.block k hk2).trans h1⟩,.inl ⟨a,hk⟩,fun i ki b m hi=>by cases hi⟩
noncomputable def spTrue:ZCT:=fun ax=>match ax with
 | []=>some ⟨true,bv true,[],0⟩
 | _=>none
theorem spTrue_ok {P:Program} {f:FuncId} (h:∀ w,Calls P f #[] w fun e w'=>e = .returned (.bool true)∧Stays w w'):ZCtOk P f spTrue:=fun γ w us ax r hs hc hax hN hfz=>by
 unfold spTrue at hs;split at hs
 case h_2=>cases hs
 obtain ⟨rfl⟩:=Option.some.inj hs;exact closed_ct (h w) hax hfz
theorem law_of {P:Program} {f:FuncId} {γ:G} {w:World} {us:Array Value} {K:List (Nat × EK)} {n:Nat} (h:Calls P f us w fun e w'=>∃ γ' x,e = .returned x∧EC γ' (bv true) x∧HR γ' (Bs.ofG w γ) (mkT K) n w'):Calls P f us w fun e w'=>e = .returned (.bool true)∧Stays w w':=h.mono fun e w' ⟨γ',x,h1,h2,h3⟩=>⟨by rw [h1,ec_v h2],staysOf h3.stays⟩
end Go.Proofs.Ytfffbioafhppiaa.Ev
namespace Go.Proofs.Ytfffbioafhppiaa.Ev
open Go.Proofs
noncomputable def badH (t x:Int):Bool:=bc (decide (x ≤ -t)) true (bc (x == 0) true (bc (decide (t≤x)) (bc (decide (x≤1000)) true (decide (1000+t≤x))) false))
noncomputable def anyI (p:Int→Bool):List Int→Bool
 | []=>false
 | x :: l=>bc (p x) true (anyI p l)
noncomputable def chkL (t:Int) (l:List Int):Int:=bc (decide (t < 2)) 2 (bc (decide (48 < t)) 2 (bc (decide (2000 < (l.length:Int))) 3 (bc (anyI (badH t) l) 7 0)))

def In64 (l:List Int):Prop:=∀ j,j < l.length → -9223372036854775808≤l.getD j 0∧l.getD j 0≤9223372036854775807
noncomputable instance In64.dec (l:List Int):Decidable (In64 l):=Classical.propDecidable _
theorem w64 {x:Int} (h:-9223372036854775808≤x∧x≤9223372036854775807):IntKind.wrap IntKind.i64 x=x:=IntWalk.i64_in _ h
theorem eqF {x y:Int} (h:x≠y):(x == y)=false:=by simp [h]
theorem eqT {x y:Int} (h:x=y):(x == y)=true:=by simp [h]
namespace PChL
noncomputable def RUN (s:ES):ZF:=RZ 52 .nil (atS 0 52 6) [] [[(1,none),(19,none),(20,none),(21,none)]] false s

noncomputable def sC (t:Int) (l:List Int) (i:Int):NS:=⟨[⟨52,44,[(1,(EV.ptr 0 0)),(19,(EV.lst (SyC.ints IntKind.i64 (l)))),(20,(EV.v (Value.int IntKind.i64 (Int.ofNat (List.length l))))),(21,iv i)],[.it (.code (nav [1,1,1,0,1,0,0] (bodyOf Try.f52))),.it (.inLoop (nav [1,1,1,0,1,0,0] (bodyOf Try.f52))),.it (.inBlock 0),.it (.code (nav [1,1,1,1] (bodyOf Try.f52)))],[],Option.none⟩],[(0,(EK.cells 24 [(EV.v (Value.int IntKind.i64 (t))),(EV.lst (SyC.ints IntKind.i64 (l)))] true))],1⟩
theorem in_t (t:Int) (l:List Int):RUN (st0 52 [.agg [iv t,il l]])=(bc (decide (t < (2:Int))) (.done (EV.v (Value.int IntKind.i64 (2))) [] 0) (bc (decide ((48:Int) < t)) (.done (EV.v (Value.int IntKind.i64 (2))) [] 0) (bc (decide ((2000:Int) < Int.ofNat (List.length l))) (.done (EV.v (Value.int IntKind.i64 (3))) [] 0) (.at (sC (t) (l) ((0:Int))))))):=by kernel_rfl
theorem step_t (t:Int) (l:List Int) (i:Int):RUN (stOf (sC t l i))=(bc (decide (i < Int.ofNat (List.length l))) (bc (bc (bc (decide ((0:Int)≤i)) (Nat.blt (Int.toNat i) (List.length l)) false) true false) (bc (bc (Nat.blt (Int.toNat i) (List.length l)) true false) (bc (decide ((1000:Int) < List.getD l (Int.toNat i) (0:Int))) (bc (List.getD l (Int.toNat i) (0:Int) == (0:Int)) (.done (EV.v (Value.int IntKind.i64 (7))) [] 0) (bc (decide (List.getD l (Int.toNat i) (0:Int) < (-48:Int))) (.done (EV.v (Value.int IntKind.i64 (7))) [] 0) (bc (decide (IntKind.wrap IntKind.i64 (List.getD l (Int.toNat i) (0:Int) - (1000:Int)) < (1:Int))) (.done (EV.v (Value.int IntKind.i64 (7))) [] 0) (bc (decide (t≤IntKind.wrap IntKind.i64 (List.getD l (Int.toNat i) (0:Int) - (1000:Int)))) (.done (EV.v (Value.int IntKind.i64 (7))) [] 0) (.at (sC (t) (l) (IntKind.wrap IntKind.i64 (i+(1:Int))))))))) (bc (decide (List.getD l (Int.toNat i) (0:Int) < (0:Int))) (bc (List.getD l (Int.toNat i) (0:Int) == (0:Int)) (.done (EV.v (Value.int IntKind.i64 (7))) [] 0) (bc (decide (List.getD l (Int.toNat i) (0:Int) < (-48:Int))) (.done (EV.v (Value.int IntKind.i64 (7))) [] 0) (bc (decide (IntKind.wrap IntKind.i64 ((0:Int) - List.getD l (Int.toNat i) (0:Int)) < (1:Int))) (.done (EV.v (Value.int IntKind.i64 (7))) [] 0) (bc (decide (t≤IntKind.wrap IntKind.i64 ((0:Int) - List.getD l (Int.toNat i) (0:Int)))) (.done (EV.v (Value.int IntKind.i64 (7))) [] 0) (.at (sC (t) (l) (IntKind.wrap IntKind.i64 (i+(1:Int))))))))) (bc (List.getD l (Int.toNat i) (0:Int) == (0:Int)) (.done (EV.v (Value.int IntKind.i64 (7))) [] 0) (bc (decide (List.getD l (Int.toNat i) (0:Int) < (-48:Int))) (.done (EV.v (Value.int IntKind.i64 (7))) [] 0) (bc (decide (List.getD l (Int.toNat i) (0:Int) < (1:Int))) (.done (EV.v (Value.int IntKind.i64 (7))) [] 0) (bc (decide (t≤List.getD l (Int.toNat i) (0:Int))) (.done (EV.v (Value.int IntKind.i64 (7))) [] 0) (.at (sC (t) (l) (IntKind.wrap IntKind.i64 (i+(1:Int))))))))))) .bad) .bad) (.done (EV.v (Value.int IntKind.i64 (0))) [] 0)):=by kernel_rfl
theorem step {t:Int} {l:List Int} {i:Nat} (ht:2≤t∧t≤48) (hi:i < l.length) (hl:l.length≤3000) (hx:In64 l):RUN (stOf (sC t l i))=bc (badH t (l.getD i 0)) (.done (iv 7) [] 0) (.at (sC t l (i+1:Nat))):=by
 rw [step_t];have hx:=hx i hi;have e:Int.toNat (i:Int)=i:=rfl;have e2:IntKind.wrap IntKind.i64 ((i:Int)+1)=((i+1:Nat):Int):=by rw [w64 (by omega)];rfl
 have g1:decide ((i:Int) < Int.ofNat l.length)=true:=dt (show (i:Int) < (l.length:Int) by omega);have g2:decide ((0:Int)≤(i:Int))=true:=dt (by omega);have g3:Nat.blt i l.length=true:=bltD hi;simp only [e,e2,g1,g2,g3,bc_t];unfold badH;generalize l.getD i 0=x at hx ⊢
 by_cases h1:1000 < x
 ·have w:IntKind.wrap IntKind.i64 (x - 1000)=x - 1000:=w64 (by omega);simp only [w,dt h1,eqF (show x≠0 by omega),df (show ¬ x < -48 by omega),df (show ¬ x - 1000 < 1 by omega),df (show ¬ x ≤ -t by omega),dt (show t≤x by omega),df (show ¬ x≤1000 by omega),bc_t,bc_f]
  by_cases h2:t≤x - 1000
  ·simp only [dt h2,dt (show 1000+t≤x by omega),bc_t]
  ·simp only [df h2,df (show ¬ 1000+t≤x by omega),bc_f]
 ·by_cases h2:x < 0
  ·simp only [df h1,dt h2,eqF (show x≠0 by omega),bc_t,bc_f]
   by_cases h3:x < -48
   ·simp only [dt h3,dt (show x ≤ -t by omega),bc_t]
   ·have w:IntKind.wrap IntKind.i64 (0 - x)=0 - x:=w64 (by omega);simp only [w,df h3,df (show ¬ 0 - x < 1 by omega),df (show ¬ t≤x by omega),bc_f]
    by_cases h4:t≤0 - x
    ·simp only [dt h4,dt (show x ≤ -t by omega),bc_t]
    ·simp only [df h4,df (show ¬ x ≤ -t by omega),bc_f]
  ·simp only [df h1,df h2,df (show ¬ x < -48 by omega),df (show ¬ x ≤ -t by omega),dt (show x≤1000 by omega),bc_t,bc_f]
   by_cases h3:x=0
   ·simp only [eqT h3,bc_t]
   ·simp only [eqF h3,df (show ¬ x < 1 by omega),bc_f]
    by_cases h4:t≤x
    ·simp only [dt h4,bc_t]
    ·simp only [df h4,bc_f]
theorem last {t:Int} {l:List Int} {i:Nat} (hi:l.length≤i):RUN (stOf (sC t l i)) = .done (iv 0) [] 0:=by
 rw [step_t];simp (disch:=omega) only [Nat.add_eq,eqSy_self,eqN_self,bc_same,List.length_cons,ofn,wrap_in,dt,df,bltD,bltN,ble_of,bleN,beqD,bc_t,bc_f,nn_ok,Nat.zero_add,to_nat,Int.zero_add,Int.sub_zero,Int.sub_self,Int.cast_ofNat_Int,Int.natCast_zero,Int.toNat_zero,List.take_zero,List.nil_append,List.length_append,List.length_nil]
theorem loop {t:Int} {l:List Int} (ht:2≤t∧t≤48) (hl:l.length≤3000) (hx:In64 l):∀ (k i:Nat),i+k=l.length→EndZ 52 .nil false (stOf (sC t l i)) (iv (bc (anyI (badH t) (l.drop i)) 7 0)) [] 0
 | 0,i,h=>by
  rw [List.drop_eq_nil_of_le (by omega)];exact .done (last (by omega))
 | k+1,i,h=>by
  have hi:i < l.length:=by omega
  have hs:=step ht hi hl hx;rw [List.drop_eq_getElem_cons hi,← getD_at (d:=0) hi];unfold anyI;cases hb:badH t (l.getD i 0) <;> rw [hb] at hs
  ·exact .at (.nil _) hs (loop ht hl hx k (i+1) (by omega))
  ·exact .done hs
theorem ends (t:Int) (l:List Int) (hx:In64 l):EndZ 52 .nil false (st0 52 [.agg [iv t,il l]]) (iv (chkL t l)) [] 0:=by
 have h:=in_t t l;unfold chkL
 by_cases h1:t < 2
 ·rw [dt h1,bc_t] at h ⊢;exact .done h
 by_cases h2:48 < t
 ·rw [df h1,bc_f,dt h2,bc_t] at h ⊢;exact .done h
 by_cases h3:2000 < (l.length:Int)
 ·simp only [df h1,df h2,ofn,dt h3,bc_t,bc_f] at h ⊢;exact .done h
 simp only [df h1,df h2,ofn,df h3,bc_t,bc_f] at h ⊢;exact .at (.nil _) h (loop ⟨by omega,by omega⟩ (by omega) hx l.length 0 (by omega))
end PChL
noncomputable def spPChL:ZCT:=fun ax=>match ax with
 | [.agg [.v (.int .i64 t),.lst (.ints .i64 l)]]=>some ⟨decide (In64 l),iv (chkL t l),[],0⟩
 | _=>none
theorem spPChL_ok:ZCtOk Try.prog 52 spPChL:=fun γ w us ax r hs hc hax hN hfz=>by
 unfold spPChL at hs;split at hs
 case h_2=>cases hs
 rename_i t l;obtain ⟨rfl⟩:=Option.some.inj hs;have hc_0:decide (In64 l)=true:=hc;have hc:=of_decide_eq_true hc_0;exact EndZ.calls (PChL.ends t l hc) (.nil _) (by kernel_rfl) hax hN hfz
namespace RChL
noncomputable def RUN (s:ES):ZF:=RZ 11 .nil (atS 0 11 6) [] [[(1,none),(3,none)]] false s

noncomputable def sR (t:Int) (l:List Int) (i:Int):NS:=⟨[⟨11,55,[(1,(EV.ptr 0 0)),(3,iv i)],[.it (.code (nav [1,1,1,0,1,0,0,0] (bodyOf Try.f11))),.it (.code (nav [1,1,1,0,1,0,0,1] (bodyOf Try.f11))),.it (.inLoop (nav [1,1,1,0,1,0,0] (bodyOf Try.f11))),.it (.inBlock 0),.it (.code (nav [1,1,1,1] (bodyOf Try.f11)))],[],Option.none⟩],[(0,(EK.cells 24 [(EV.v (Value.int IntKind.i64 (t))),(EV.lst (SyC.ints IntKind.i64 (l)))] true))],1⟩
theorem in_t (t:Int) (l:List Int):RUN (st0 11 [.agg [iv t,il l]])=(bc (decide (t < (2:Int))) (.done (EV.v (Value.int IntKind.i64 (2))) [] 0) (bc (decide ((48:Int) < t)) (.done (EV.v (Value.int IntKind.i64 (2))) [] 0) (bc (decide ((2000:Int) < Int.ofNat (List.length l))) (.done (EV.v (Value.int IntKind.i64 (3))) [] 0) (.at (sR (t) (l) ((0:Int))))))):=by kernel_rfl
theorem step_t (t:Int) (l:List Int) (i:Int):RUN (stOf (sR t l i))=(bc (decide (i < Int.ofNat (List.length l))) (bc (bc (bc (decide ((0:Int)≤i)) (Nat.blt (Int.toNat i) (List.length l)) false) true false) (bc (bc (Nat.blt (Int.toNat i) (List.length l)) true false) (bc (decide (List.getD l (Int.toNat i) (0:Int)≤IntKind.wrap IntKind.i64 ((0:Int) - t))) (.done (EV.v (Value.int IntKind.i64 (7))) [] 0) (bc (List.getD l (Int.toNat i) (0:Int) == (0:Int)) (.done (EV.v (Value.int IntKind.i64 (7))) [] 0) (bc (decide (t≤List.getD l (Int.toNat i) (0:Int))) (bc (decide (List.getD l (Int.toNat i) (0:Int)≤(1000:Int))) (.done (EV.v (Value.int IntKind.i64 (7))) [] 0) (bc (decide (IntKind.wrap IntKind.i64 ((1000:Int)+t)≤List.getD l (Int.toNat i) (0:Int))) (.done (EV.v (Value.int IntKind.i64 (7))) [] 0) (.at (sR (t) (l) (IntKind.wrap IntKind.i64 (i+(1:Int))))))) (.at (sR (t) (l) (IntKind.wrap IntKind.i64 (i+(1:Int)))))))) .bad) .bad) (.done (EV.v (Value.int IntKind.i64 (0))) [] 0)):=by kernel_rfl
theorem step {t:Int} {l:List Int} {i:Nat} (ht:2≤t∧t≤48) (hi:i < l.length) (hl:l.length≤3000):RUN (stOf (sR t l i))=bc (badH t (l.getD i 0)) (.done (iv 7) [] 0) (.at (sR t l (i+1:Nat))):=by
 rw [step_t];have e:Int.toNat (i:Int)=i:=rfl;have e2:IntKind.wrap IntKind.i64 ((i:Int)+1)=((i+1:Nat):Int):=by rw [w64 (by omega)];rfl
 have g1:decide ((i:Int) < Int.ofNat l.length)=true:=dt (show (i:Int) < (l.length:Int) by omega);have g2:decide ((0:Int)≤(i:Int))=true:=dt (by omega);have g3:Nat.blt i l.length=true:=bltD hi;have w1:IntKind.wrap IntKind.i64 (0 - t) = -t:=by rw [w64 (by omega)];omega
 have w2:IntKind.wrap IntKind.i64 (1000+t)=1000+t:=w64 (by omega);simp only [e,e2,g1,g2,g3,w1,w2,bc_t];unfold badH;generalize l.getD i 0=x;cases decide (x ≤ -t)
 ·cases x == 0
  ·cases decide (t≤x)
   ·rfl
   ·cases decide (x≤1000)
    ·cases decide (1000+t≤x) <;> rfl
    ·rfl
  ·rfl
 ·rfl
theorem last {t:Int} {l:List Int} {i:Nat} (hi:l.length≤i):RUN (stOf (sR t l i)) = .done (iv 0) [] 0:=by
 rw [step_t];simp (disch:=omega) only [Nat.add_eq,eqSy_self,eqN_self,bc_same,List.length_cons,ofn,wrap_in,dt,df,bltD,bltN,ble_of,bleN,beqD,bc_t,bc_f,nn_ok,Nat.zero_add,to_nat,Int.zero_add,Int.sub_zero,Int.sub_self,Int.cast_ofNat_Int,Int.natCast_zero,Int.toNat_zero,List.take_zero,List.nil_append,List.length_append,List.length_nil]
theorem loop {t:Int} {l:List Int} (ht:2≤t∧t≤48) (hl:l.length≤3000):∀ (k i:Nat),i+k=l.length→EndZ 11 .nil false (stOf (sR t l i)) (iv (bc (anyI (badH t) (l.drop i)) 7 0)) [] 0
 | 0,i,h=>by
  rw [List.drop_eq_nil_of_le (by omega)];exact .done (last (by omega))
 | k+1,i,h=>by
  have hi:i < l.length:=by omega
  have hs:=step ht hi hl;rw [List.drop_eq_getElem_cons hi,← getD_at (d:=0) hi];unfold anyI;cases hb:badH t (l.getD i 0) <;> rw [hb] at hs
  ·exact .at (.nil _) hs (loop ht hl k (i+1) (by omega))
  ·exact .done hs
theorem ends (t:Int) (l:List Int):EndZ 11 .nil false (st0 11 [.agg [iv t,il l]]) (iv (chkL t l)) [] 0:=by
 have h:=in_t t l;unfold chkL
 by_cases h1:t < 2
 ·rw [dt h1,bc_t] at h ⊢;exact .done h
 by_cases h2:48 < t
 ·rw [df h1,bc_f,dt h2,bc_t] at h ⊢;exact .done h
 by_cases h3:2000 < (l.length:Int)
 ·simp only [df h1,df h2,ofn,dt h3,bc_t,bc_f] at h ⊢;exact .done h
 simp only [df h1,df h2,ofn,df h3,bc_t,bc_f] at h ⊢;exact .at (.nil _) h (loop ⟨by omega,by omega⟩ (by omega) l.length 0 (by omega))
end RChL
noncomputable def spRChL:ZCT:=fun ax=>match ax with
 | [.agg [.v (.int .i64 t),.lst (.ints .i64 l)]]=>some ⟨decide (True),iv (chkL t l),[],0⟩
 | _=>none
theorem spRChL_ok:ZCtOk Try.prog 11 spRChL:=fun γ w us ax r hs hc hax hN hfz=>by
 unfold spRChL at hs;split at hs
 case h_2=>cases hs
 rename_i t l;obtain ⟨rfl⟩:=Option.some.inj hs;have hc_0:decide (True)=true:=hc;have hc:=of_decide_eq_true hc_0;exact EndZ.calls (RChL.ends t l) (.nil _) (by kernel_rfl) hax hN hfz
end Go.Proofs.Ytfffbioafhppiaa.Ev
namespace Go.Proofs.Ytfffbioafhppiaa.Ev

def numL (x:Int):Int:=if 1000 < x then x - 1000 else if x < 0 then -x else x
def isPn (x:Int):Bool:=decide (1000 < x)

def tchL (x y:Int):Bool:=decide (-1≤numL x - numL y) && decide (numL x - numL y≤1) && !(isPn x && isPn y)

noncomputable def lastI (l:List Int):Int:=bc (decide (0 < l.length)) (l.getD (l.length - 1) 0) (-1)
def ofNs (L:List Nat):List Int:=L.map fun (y:Nat)=>(y:Int)
theorem ofNs_len (L:List Nat):(ofNs L).length=L.length:=List.length_map ..
theorem ofNs_app (L M:List Nat):ofNs (L ++ M)=ofNs L ++ ofNs M:=List.map_append

def IsTop (m:Int) (p:Nat→Prop):Prop:=(∀ y,p y→(y:Int)≤m)∧(m = -1∨∃ y:Nat,m=y∧p y)
theorem lastI_snoc (A:List Int) (b:Int):lastI (A ++ [b])=b:=by
 unfold lastI;have h:0 < (A ++ [b]).length:=by simp
 rw [show decide (0 < (A ++ [b]).length)=true from decide_eq_true h]
 show (A ++ [b]).getD ((A ++ [b]).length - 1) 0=b;rw [List.length_append,List.length_singleton,Nat.add_sub_cancel,List.getD_eq_getElem?_getD,List.getElem?_append_right (Nat.le_refl _),Nat.sub_self];rfl
theorem top_last {L:List Nat} (h:L.Pairwise (· < ·)):IsTop (lastI (ofNs L)) (· ∈ L):=by
 rcases List.eq_nil_or_concat L with rfl | ⟨A,b,rfl⟩
 ·exact ⟨fun y hy=>(by cases hy),.inl rfl⟩
 ·rw [List.concat_eq_append] at h ⊢;rw [ofNs_app,show ofNs [b]=[(b:Int)] from rfl,lastI_snoc]
  have h2:=(List.pairwise_append.1 h).2.2;refine ⟨fun y hy=>?_,.inr ⟨b,rfl,by simp⟩⟩;rcases List.mem_append.1 hy with hy | hy
  ·have:=h2 y hy b (by simp);omega
  ·have:y=b:=by simpa using hy
   omega
def mxL (e a b:Int):Int:=if b > (if a > e then a else e) then b else (if a > e then a else e)
theorem top_mx {e a b:Int} {p q r:Nat→Prop} (h1:IsTop e p) (h2:IsTop a q) (h3:IsTop b r):IsTop (mxL e a b) (fun y=>p y∨q y∨r y):=by
 obtain ⟨a1,a2⟩:=h1;obtain ⟨b1,b2⟩:=h2;obtain ⟨c1,c2⟩:=h3;have lo:∀ {m:Int} {p:Nat→Prop},(m = -1∨∃ y:Nat,m=y∧p y) → -1≤m:=fun h=>by
  rcases h with h | ⟨y,h,_⟩ <;> omega
 have l1:=lo a2;have l2:=lo b2;have l3:=lo c2;have up:e≤mxL e a b∧a≤mxL e a b∧b≤mxL e a b∧(mxL e a b=e∨mxL e a b=a∨mxL e a b=b):=by
  unfold mxL
  by_cases c:a > e
  ·rw [if_pos c]
   by_cases d:b > a
   ·rw [if_pos d];omega
   ·rw [if_neg d];omega
  ·rw [if_neg c]
   by_cases d:b > e
   ·rw [if_pos d];omega
   ·rw [if_neg d];omega
 obtain ⟨u1,u2,u3,u4⟩:=up;refine ⟨fun y hy=>?_,?_⟩
 ·rcases hy with hy | hy | hy
  ·have:=a1 y hy;omega
  ·have:=b1 y hy;omega
  ·have:=c1 y hy;omega
 ·rcases u4 with u4 | u4 | u4 <;> rw [u4]
  ·exact a2.imp id fun ⟨y,h,k⟩=>⟨y,h,.inl k⟩
  ·exact b2.imp id fun ⟨y,h,k⟩=>⟨y,h,.inr (.inl k)⟩
  ·exact c2.imp id fun ⟨y,h,k⟩=>⟨y,h,.inr (.inr k)⟩
theorem top_uni {m m':Int} {p p':Nat→Prop} (h:IsTop m p) (k:IsTop m' p') (e:∀ y,p y↔p' y):m=m':=by
 obtain ⟨a1,a2⟩:=h;obtain ⟨b1,b2⟩:=k;rcases a2 with a2 | ⟨y,a2,a3⟩
 ·rcases b2 with b2 | ⟨z,b2,b3⟩
  ·omega
  ·have:=a1 z ((e z).2 b3);omega
 ·have h1:=b1 y ((e y).1 a3);rcases b2 with b2 | ⟨z,b2,b3⟩
  ·omega
  ·have:=a1 z ((e z).2 b3);omega

def fcL (l:List Int) (k:Nat) (y:Nat):Bool:=!isPn (l.getD y 0) && decide (numL (l.getD y 0)=(k:Int))
def fpL (l:List Int) (k:Nat) (y:Nat):Bool:=isPn (l.getD y 0) && decide (numL (l.getD y 0)=(k:Int))

noncomputable def tpO (l:List Int) (out:List Nat) (x:Int):Int:=lastI (ofNs (out.filter fun y=>tchL (l.getD y 0) x))
noncomputable def outS (l:List Int) (out:List Nat) (i:Nat):List Nat:=
 if 0≤tpO l out (l.getD i 0)∧isPn (l.getD i 0)=false∧l.getD (tpO l out (l.getD i 0)).toNat 0 = -(l.getD i 0) then out.filter (fun y=>decide (y≠(tpO l out (l.getD i 0)).toNat)) else out ++ [i]
theorem tpO_top {l:List Int} {out:List Nat} (h:out.Pairwise (· < ·)) (x:Int):IsTop (tpO l out x) (fun y=>y ∈ out∧tchL (l.getD y 0) x=true):=by
 have:=top_last (L:=out.filter fun y=>tchL (l.getD y 0) x) (h.sublist List.filter_sublist);obtain ⟨a,b⟩:=this;exact ⟨fun y hy=>a y (List.mem_filter.2 hy),b.imp id fun ⟨y,h1,h2⟩=>⟨y,h1,List.mem_filter.1 h2⟩⟩
def updC (C:Nat→List Int) (k:Nat) (v:List Int) (a:Nat):List Int:=if a=k then v else C a

structure RelT (l:List Int) (i m:Nat) (out:List Nat) (q:List Bool) (C P:Nat→List Int):Prop where
 asc:out.Pairwise (· < ·)
 lt:∀ y,y ∈ out→y < i
 ql:q.length=m
 qa:∀ j,q.getD j false=true↔j ∈ out
 c:∀ k,C k=ofNs (out.filter (fcL l k))
 p:∀ k,P k=ofNs (out.filter (fpL l k))
 ln:out.length≤i
variable {l:List Int} {i m:Nat} {out:List Nat} {q:List Bool} {C P:Nat→List Int}
noncomputable def lst3 (C P:Nat→List Int) (n:Nat):Int:=mxL (mxL (mxL (-1) (lastI (C (n - 1))) (lastI (P (n - 1)))) (lastI (C n)) (lastI (P n))) (lastI (C (n+1))) (lastI (P (n+1)))
theorem RelT.top (h:RelT l i m out q C P) {x:Int} {n:Nat} (hx:isPn x=false) (hn:numL x=n) (h1:1≤n):lst3 C P n=tpO l out x:=by
 have fc:∀ k,IsTop (lastI (C k)) (fun y=>y ∈ out∧fcL l k y=true):=fun k=>by
  rw [h.c k];obtain ⟨a,b⟩:=top_last (L:=out.filter (fcL l k)) (h.asc.sublist List.filter_sublist);exact ⟨fun y hy=>a y (List.mem_filter.2 hy),b.imp id fun ⟨y,h1,h2⟩=>⟨y,h1,List.mem_filter.1 h2⟩⟩
 have fp:∀ k,IsTop (lastI (P k)) (fun y=>y ∈ out∧fpL l k y=true):=fun k=>by
  rw [h.p k];obtain ⟨a,b⟩:=top_last (L:=out.filter (fpL l k)) (h.asc.sublist List.filter_sublist);exact ⟨fun y hy=>a y (List.mem_filter.2 hy),b.imp id fun ⟨y,h1,h2⟩=>⟨y,h1,List.mem_filter.1 h2⟩⟩
 have h0:IsTop (-1) (fun _=>False):=⟨fun y hy=>hy.elim,.inl rfl⟩;refine top_uni (top_mx (top_mx (top_mx h0 (fc (n - 1)) (fp (n - 1))) (fc n) (fp n)) (fc (n+1)) (fp (n+1))) (tpO_top h.asc x) fun y=>?_;unfold tchL fcL fpL;rw [hx,hn];generalize l.getD y 0=z;simp only [Bool.and_false,Bool.not_false,Bool.and_true,Bool.and_eq_true,decide_eq_true_eq,Bool.not_eq_true'];constructor
 ·rintro (((hf | ⟨a,b,c⟩ | ⟨a,b,c⟩) | ⟨a,b,c⟩ | ⟨a,b,c⟩) | ⟨a,b,c⟩ | ⟨a,b,c⟩)
  ·exact hf.elim
  all_goals exact ⟨a,by omega,by omega⟩
 ·rintro ⟨a,b,c⟩
  have hk:numL z=((n - 1:Nat):Int)∨numL z=(n:Int)∨numL z=((n+1:Nat):Int):=by omega
  cases hp:isPn z with
  | true=>rcases hk with hk | hk | hk <;> simp [hk,a]
  | false=>rcases hk with hk | hk | hk <;> simp [hk,a]
theorem filter_snoc {α:Type} (p:α→Bool) (L:List α) (x:α):(L ++ [x]).filter p=L.filter p ++ (if p x then [x] else []):=by
 rw [List.filter_append];congr 1
 by_cases h:p x=true
 ·rw [if_pos h,List.filter_cons_of_pos h];rfl
 ·rw [if_neg h,List.filter_cons_of_neg h];rfl
theorem gsB {l:List Bool} {i j:Nat} {v:Bool}:(l.set i v).getD j false=if j=i∧i < l.length then v else l.getD j false:=by
 rw [List.getD_eq_getElem?_getD,List.getD_eq_getElem?_getD,List.getElem?_set]
 by_cases h:i=j
 ·subst h
  by_cases h2:i < l.length
  ·simp [h2]
  ·simp [h2]
 ·rw [if_neg h,if_neg (fun e=>h e.1.symm)]

theorem RelT.keep (h:RelT l i m out q C P) (hi:i < m) {C' P':Nat→List Int} (hc:∀ k,C' k=C k ++ (if fcL l k i then [(i:Int)] else [])) (hp:∀ k,P' k=P k ++ (if fpL l k i then [(i:Int)] else [])):RelT l (i+1) m (out ++ [i]) (q.set i true) C' P':=by
 refine ⟨?_,fun y hy=>?_,by rw [List.length_set];exact h.ql,fun j=>?_,fun k=>?_,fun k=>?_,by have:=h.ln;rw [List.length_append,List.length_singleton];omega⟩
 ·refine List.pairwise_append.2 ⟨h.asc,List.pairwise_singleton _ _,fun a ha b hb=>?_⟩;have:=h.lt a ha;have:b=i:=by simpa using hb
  omega
 ·rcases List.mem_append.1 hy with hy | hy
  ·have:=h.lt y hy;omega
  ·have:y=i:=by simpa using hy
   omega
 ·rw [gsB]
  by_cases e:j=i
  ·rw [if_pos ⟨e,by rw [h.ql];exact hi⟩];simp [e]
  ·rw [if_neg fun q=>e q.1,h.qa j];simp [e]
 ·rw [hc k,h.c k,filter_snoc,ofNs_app];congr 1;split <;> rfl
 ·rw [hp k,h.p k,filter_snoc,ofNs_app];congr 1;split <;> rfl
theorem RelT.pin (h:RelT l i m out q C P) (hi:i < m) {n:Nat} (hx:isPn (l.getD i 0)=true) (hn:numL (l.getD i 0)=n):RelT l (i+1) m (outS l out i) (q.set i true) C (updC P n (P n ++ [(i:Int)])):=by
 have e:outS l out i=out ++ [i]:=by
  unfold outS;rw [if_neg fun q=>by rw [hx] at q;cases q.2.1]
 rw [e];refine h.keep hi (fun k=>?_) fun k=>?_
 ·unfold fcL;rw [hx];simp
 ·unfold fpL updC;rw [hx,hn]
  by_cases c:k=n
  ·subst c;simp
  ·have:¬ (n:Int)=k:=by omega
   simp [c,this]
theorem RelT.app (h:RelT l i m out q C P) (hi:i < m) {n:Nat} (hx:isPn (l.getD i 0)=false) (hn:numL (l.getD i 0)=n) (hno:¬ (0≤tpO l out (l.getD i 0)∧l.getD (tpO l out (l.getD i 0)).toNat 0 = -(l.getD i 0))):RelT l (i+1) m (outS l out i) (q.set i true) (updC C n (C n ++ [(i:Int)])) P:=by
 have e:outS l out i=out ++ [i]:=by
  unfold outS;rw [if_neg fun q=>hno ⟨q.1,q.2.2⟩]
 rw [e];refine h.keep hi (fun k=>?_) fun k=>?_
 ·unfold fcL updC;rw [hx,hn]
  by_cases c:k=n
  ·subst c;simp
  ·have:¬ (n:Int)=k:=by omega
   simp [c,this]
 ·unfold fpL;rw [hx];simp
theorem num_neg {x:Int} (h:isPn x=false) (h2:isPn (-x)=false):numL (-x)=numL x:=by
 unfold isPn at h h2;have h:=of_decide_eq_false h;have h2:=of_decide_eq_false h2;unfold numL;rw [if_neg h,if_neg h2];split <;> split <;> omega

theorem RelT.last (h:RelT l i m out q C P) {n:Nat} (hx:isPn (l.getD i 0)=false) (hb:-1000≤l.getD i 0) (hn:numL (l.getD i 0)=n) (h0:0≤tpO l out (l.getD i 0)) (he:l.getD (tpO l out (l.getD i 0)).toNat 0 = -(l.getD i 0)):∃ A:List Nat,out.filter (fcL l n)=A ++ [(tpO l out (l.getD i 0)).toNat]∧(tpO l out (l.getD i 0)).toNat ∈ out∧(tpO l out (l.getD i 0)).toNat < i:=by
 obtain ⟨t1,t2⟩:=tpO_top (l:=l) h.asc (l.getD i 0);generalize tpO l out (l.getD i 0)=e at *;rcases t2 with t2 | ⟨y,rfl,hy,ht⟩
 ·omega
 have e0:((y:Int)).toNat=y:=rfl;rw [e0] at he ⊢;have hx2:isPn (-(l.getD i 0))=false:=by unfold isPn;exact decide_eq_false (by omega)
 have hf:fcL l n y=true:=by
  unfold fcL;rw [he,hx2,num_neg hx hx2,hn];simp
 have hm:y ∈ out.filter (fcL l n):=List.mem_filter.2 ⟨hy,hf⟩;rcases List.eq_nil_or_concat (out.filter (fcL l n)) with h1 | ⟨A,b,h1⟩
 ·rw [h1] at hm;cases hm
 ·rw [List.concat_eq_append] at h1;refine ⟨A,?_,hy,h.lt y hy⟩;have hb2:b ∈ out.filter (fcL l n):=by rw [h1];simp
  obtain ⟨g1,g2⟩:=List.mem_filter.1 hb2;have hle:=t1 b ⟨g1,by
   unfold fcL at g2;simp only [Bool.and_eq_true,Bool.not_eq_true',decide_eq_true_eq] at g2;unfold tchL;rw [hx,g2.2,hn,g2.1];simp⟩
  have hasc:(A ++ [b]).Pairwise (· < ·):=by rw [← h1];exact h.asc.sublist List.filter_sublist
  have hyb:y≤b:=by
   rw [h1] at hm;rcases List.mem_append.1 hm with hm | hm
   ·exact Nat.le_of_lt ((List.pairwise_append.1 hasc).2.2 y hm b (by simp))
   ·have:y=b:=by simpa using hm
    omega
  have:b=y:=by omega
  rw [h1,this]
theorem filter_ne_last {A:List Nat} {e:Nat} (h:(A ++ [e]).Pairwise (· < ·)):(A ++ [e]).filter (fun y=>decide (y≠e))=A:=by
 rw [filter_snoc];have:A.filter (fun y=>decide (y≠e))=A:=List.filter_eq_self.2 fun a ha=>by
  have:=(List.pairwise_append.1 h).2.2 a ha e (by simp);exact decide_eq_true (by omega)
 rw [this];simp
theorem RelT.rem (h:RelT l i m out q C P) (hi:i < m) {n:Nat} (hx:isPn (l.getD i 0)=false) (hb:-1000≤l.getD i 0) (hn:numL (l.getD i 0)=n) (h0:0≤tpO l out (l.getD i 0)) (he:l.getD (tpO l out (l.getD i 0)).toNat 0 = -(l.getD i 0)):0 < (C n).length∧(tpO l out (l.getD i 0)).toNat < i∧RelT l (i+1) m (outS l out i) (((q.set i true).set i false).set (tpO l out (l.getD i 0)).toNat false) (updC C n ((C n).take ((C n).length - 1))) P:=by
 obtain ⟨A,h1,h2,h3⟩:=h.last hx hb hn h0 he;have ee:outS l out i=out.filter (fun y=>decide (y≠(tpO l out (l.getD i 0)).toNat)):=by
  unfold outS;rw [if_pos ⟨h0,hx,he⟩]
 have hx2:isPn (-(l.getD i 0))=false:=by unfold isPn;exact decide_eq_false (by omega)
 have en:numL (l.getD (tpO l out (l.getD i 0)).toNat 0)=n:=by rw [he,num_neg hx hx2,hn]
 have ep:isPn (l.getD (tpO l out (l.getD i 0)).toNat 0)=false:=by rw [he,hx2]
 rw [ee];generalize (tpO l out (l.getD i 0)).toNat=e at *;have hasc:(A ++ [e]).Pairwise (· < ·):=by rw [← h1];exact h.asc.sublist List.filter_sublist
 have hcn:C n=ofNs (A ++ [e]):=by rw [h.c n,h1]
 have comm:∀ p:Nat→Bool,(out.filter fun y=>decide (y≠e)).filter p=(out.filter p).filter fun y=>decide (y≠e):=fun p=>by
  rw [List.filter_filter,List.filter_filter];exact List.filter_congr fun y _=>by rw [Bool.and_comm]
 refine ⟨by rw [hcn,ofNs_len];simp,h3,⟨h.asc.sublist List.filter_sublist,fun y hy=>?_,by rw [List.length_set,List.length_set,List.length_set];exact h.ql,fun j=>?_,fun k=>?_,fun k=>?_,by have:=h.ln;have:=List.length_filter_le (fun y=>decide (y≠e)) out;omega⟩⟩
 ·have:=h.lt y (List.mem_filter.1 hy).1;omega
 ·rw [gsB,gsB,gsB];simp only [List.length_set,h.ql,List.mem_filter,decide_eq_true_eq]
  by_cases c1:j=e
  ·rw [if_pos ⟨c1,by omega⟩];simp [c1]
  ·rw [if_neg fun q=>c1 q.1]
   by_cases c2:j=i
   ·rw [if_pos ⟨c2,hi⟩];have:¬ i ∈ out:=fun q=>by have:=h.lt i q;omega
    simp [c2,this]
   ·rw [if_neg fun q=>c2 q.1,if_neg fun q=>c2 q.1,h.qa j];simp [c1]
 ·rw [comm];unfold updC
  by_cases c:k=n
  ·subst c;rw [if_pos rfl,h1,filter_ne_last hasc,hcn,ofNs_app,List.length_append,ofNs_len];show List.take (A.length+1 - 1) _=_;rw [Nat.add_sub_cancel,← ofNs_len A,List.take_left]
  ·rw [if_neg c,h.c k];congr 1;refine (List.filter_eq_self.2 fun a ha=>decide_eq_true (p:=a≠e) fun q=>?_).symm;subst q;have:=(List.mem_filter.1 ha).2;unfold fcL at this;rw [en] at this;simp at this;omega
 ·rw [comm,h.p k];congr 1;refine (List.filter_eq_self.2 fun a ha=>decide_eq_true (p:=a≠e) fun q=>?_).symm;subst q;have:=(List.mem_filter.1 ha).2;unfold fpL at this;rw [ep] at this;simp at this
theorem RelT.skip (h:RelT l i m out q C P):RelT l (i+1) m out q C P:=⟨h.asc,fun y hy=>Nat.lt_succ_of_lt (h.lt y hy),h.ql,h.qa,h.c,h.p,by have:=h.ln;omega⟩
theorem RelT.eLt (h:RelT l i m out q C P) {x:Int} (h0:0≤tpO l out x):(tpO l out x).toNat < i:=by
 obtain ⟨_,t2⟩:=tpO_top (l:=l) h.asc x;rcases t2 with t2 | ⟨y,t2,hy,_⟩
 ·omega
 ·rw [t2];exact h.lt y hy
theorem RelT.cl (h:RelT l i m out q C P) (k:Nat):(C k).length≤i:=by
 rw [h.c k,ofNs_len];have:=List.length_filter_le (fcL l k) out;have:=h.ln;omega
theorem RelT.pl (h:RelT l i m out q C P) (k:Nat):(P k).length≤i:=by
 rw [h.p k,ofNs_len];have:=List.length_filter_le (fpL l k) out;have:=h.ln;omega

def mrk (m:Nat) (out:List Nat):List Bool:=(List.range m).map fun j=>decide (j ∈ out)
theorem mrk_len (m:Nat) (out:List Nat):(mrk m out).length=m:=by unfold mrk;rw [List.length_map,List.length_range]
theorem mrk_get {m:Nat} {out:List Nat} {j:Nat} (h:j < m):(mrk m out).getD j false=decide (j ∈ out):=by
 unfold mrk;rw [List.getD_eq_getElem?_getD,List.getElem?_map,List.getElem?_range h];rfl
theorem RelT.mrk (h:RelT l i m out q C P):q=mrk m out:=by
 apply List.ext_getElem (by rw [mrk_len,h.ql]);intro j h1 h2;rw [mrk_len] at h2;have e1:=getD_at (d:=false) h1;have e2:=mrk_get (out:=out) h2;rw [getD_at (by rw [mrk_len];exact h2)] at e2;rw [e2,← e1];rw [Bool.eq_iff_iff,h.qa j,decide_eq_true_iff]
theorem RelT.zero (l:List Int) (m:Nat):RelT l 0 m [] (List.replicate m false) (fun _=>[]) (fun _=>[]):=⟨.nil,fun y hy=>(by cases hy),List.length_replicate ..,fun j=>by
 rw [List.getD_eq_getElem?_getD,List.getElem?_replicate]
 by_cases h:j < m
 ·rw [if_pos h];simp
 ·rw [if_neg h];simp,fun _=>rfl,fun _=>rfl,Nat.le_refl _⟩

def LetOk (x:Int):Prop:=(1000 < x∧x < 1048)∨(0 < x∧x < 48)∨(-48 < x∧x < 0)

noncomputable def tigL (l:List Int) (idx:List Nat):List Nat:=idx.foldl (outS l) []
end Go.Proofs.Ytfffbioafhppiaa.Ev
namespace Go.Proofs.Ytfffbioafhppiaa.Ev
open Go.Proofs
namespace PTop
noncomputable def RUN (s:ES):ZF:=RZ 140 .nil (fun _=>false) [] [] false s
theorem in_t (rows:List (List U)) (k:Int):RUN (st0 140 [.lp (.recs [.list [.int .i64]] rows) 0 0,iv k])=(bc (bc (bc (decide ((0:Int)≤k)) (Nat.blt (Int.toNat k) (49:Nat)) false) true false) (bc (bc (Nat.blt (Nat.add (0:Nat) (Int.toNat k)) (List.length rows)) true false) (bc (decide ((0:Int) < Int.ofNat (List.length (List.map (fun r=>U.int (List.headD r (U.i (0:Int)))) (U.list (List.getD (List.getD rows (Nat.add (0:Nat) (Int.toNat k)) []) (0:Nat) (U.i (0:Int)))))))) (bc (bc (bc (decide ((0:Int)≤k)) (Nat.blt (Int.toNat k) (49:Nat)) false) true false) (bc (bc (Nat.blt (Nat.add (0:Nat) (Int.toNat k)) (List.length rows)) true false) (bc (bc (bc (decide ((0:Int)≤IntKind.wrap IntKind.i64 (Int.ofNat (List.length (List.map (fun r=>U.int (List.headD r (U.i (0:Int)))) (U.list (List.getD (List.getD rows (Nat.add (0:Nat) (Int.toNat k)) []) (0:Nat) (U.i (0:Int)))))) - (1:Int)))) (Nat.blt (Int.toNat (IntKind.wrap IntKind.i64 (Int.ofNat (List.length (List.map (fun r=>U.int (List.headD r (U.i (0:Int)))) (U.list (List.getD (List.getD rows (Nat.add (0:Nat) (Int.toNat k)) []) (0:Nat) (U.i (0:Int)))))) - (1:Int)))) (List.length (List.map (fun r=>U.int (List.headD r (U.i (0:Int)))) (U.list (List.getD (List.getD rows (Nat.add (0:Nat) (Int.toNat k)) []) (0:Nat) (U.i (0:Int))))))) false) true false) (bc (bc (Nat.blt (Int.toNat (IntKind.wrap IntKind.i64 (Int.ofNat (List.length (List.map (fun r=>U.int (List.headD r (U.i (0:Int)))) (U.list (List.getD (List.getD rows (Nat.add (0:Nat) (Int.toNat k)) []) (0:Nat) (U.i (0:Int)))))) - (1:Int)))) (List.length (List.map (fun r=>U.int (List.headD r (U.i (0:Int)))) (U.list (List.getD (List.getD rows (Nat.add (0:Nat) (Int.toNat k)) []) (0:Nat) (U.i (0:Int))))))) true false) (.done (EV.v (Value.int IntKind.i64 (List.getD (List.map (fun r=>U.int (List.headD r (U.i (0:Int)))) (U.list (List.getD (List.getD rows (Nat.add (0:Nat) (Int.toNat k)) []) (0:Nat) (U.i (0:Int))))) (Int.toNat (IntKind.wrap IntKind.i64 (Int.ofNat (List.length (List.map (fun r=>U.int (List.headD r (U.i (0:Int)))) (U.list (List.getD (List.getD rows (Nat.add (0:Nat) (Int.toNat k)) []) (0:Nat) (U.i (0:Int)))))) - (1:Int)))) (0:Int)))) [] 0) .bad) .bad) .bad) .bad) (.done (EV.v (Value.int IntKind.i64 (-1))) [] 0)) .bad) .bad):=by kernel_rfl

noncomputable def facN (rows:List (List U)) (k:Nat):List Int:=List.map (fun r=>U.int (List.headD r (U.i 0))) (U.list (List.getD (List.getD rows k []) 0 (U.i 0)))
theorem ends {rows:List (List U)} {k:Int} (h0:0≤k∧k < 49) (hr:rows.length=49) (hl:(facN rows k.toNat).length≤5000):EndZ 140 .nil false (st0 140 [.lp (.recs [.list [.int .i64]] rows) 0 0,iv k]) (iv (lastI (facN rows k.toNat))) [] 0:=by
 obtain ⟨k,rfl⟩:=Int.eq_ofNat_of_zero_le h0.1;have h:=in_t rows k;have e0:Int.toNat (k:Int)=k:=rfl;have e1:Nat.add 0 k=k:=Nat.zero_add k;rw [e0] at hl ⊢;rw [e0,e1,hr] at h;have e2:List.map (fun r=>U.int (List.headD r (U.i 0))) (U.list (List.getD (List.getD rows k []) 0 (U.i 0)))=facN rows k:=rfl;rw [e2] at h;generalize facN rows k=l at *;unfold lastI
 by_cases c:0 < l.length
 ·have w:IntKind.wrap IntKind.i64 (Int.ofNat l.length - 1)=((l.length - 1:Nat):Int):=by rw [ofn,wrap_in _ (by omega) (by omega)];omega
  have e3:Int.toNat ((l.length - 1:Nat):Int)=l.length - 1:=rfl;rw [w,e3] at h;rw [dt c,bc_t];simp (disch:=omega) only [Nat.add_eq,eqSy_self,eqN_self,bc_same,List.length_cons,ofn,wrap_in,dt,df,bltD,bltN,ble_of,bleN,beqD,bc_t,bc_f,nn_ok,Nat.zero_add,to_nat,Int.zero_add,Int.sub_zero,Int.sub_self,Int.cast_ofNat_Int,Int.natCast_zero,Int.toNat_zero,List.take_zero,List.nil_append,List.length_append,List.length_nil] at h;exact .done h
 ·rw [df c,bc_f];simp (disch:=omega) only [Nat.add_eq,eqSy_self,eqN_self,bc_same,List.length_cons,ofn,wrap_in,dt,df,bltD,bltN,ble_of,bleN,beqD,bc_t,bc_f,nn_ok,Nat.zero_add,to_nat,Int.zero_add,Int.sub_zero,Int.sub_self,Int.cast_ofNat_Int,Int.natCast_zero,Int.toNat_zero,List.take_zero,List.nil_append,List.length_append,List.length_nil] at h;exact .done h
end PTop
noncomputable def spTop:ZCT:=fun ax=>match ax with
 | [.lp (.recs [.list [.int .i64]] rows) 0 0,.v (.int .i64 k)]=>some ⟨decide ((0≤k∧k < 49)∧rows.length=49∧(PTop.facN rows k.toNat).length≤5000),iv (lastI (PTop.facN rows k.toNat)),[],0⟩
 | _=>none
theorem spTop_ok:ZCtOk Try.prog 140 spTop:=fun γ w us ax r hs hc hax hN hfz=>by
 unfold spTop at hs;split at hs
 case h_2=>cases hs
 rename_i rows k;obtain ⟨rfl⟩:=Option.some.inj hs;have hc_0:decide ((0≤k∧k < 49)∧rows.length=49∧(PTop.facN rows k.toNat).length≤5000)=true:=hc;have hc:=of_decide_eq_true hc_0;exact EndZ.calls (PTop.ends hc.1 hc.2.1 hc.2.2) (.nil _) (by kernel_rfl) hax hN hfz
noncomputable def ctTp:Tr ZCC:=Tr.nil.put 140 (some (dC spTop))
theorem ctTp_ok:ZCtsOk Try.prog ctTp:=(ZCtsOk.nil _).add rfl spTop_ok
end Go.Proofs.Ytfffbioafhppiaa.Ev
namespace Go.Proofs.Ytfffbioafhppiaa.Ev
open Go.Proofs
namespace PTgA
noncomputable def K0 (t:Int) (l:List Int):List (Nat × EK):=[(0,.cells 77 [.ptr 1 0] true),(1,.cells 24 [iv t,il l] true)]
noncomputable def RUN (s:ES):ZF:=RMs 2 106 ctTp [(atS 1 107 1,[[(0,none),(8,none),(9,none)],[(5,none)]]),(atS 2 106 12,[[(2,none),(5,none),(6,none),(7,none),(8,none),(9,none),(10,none),(11,none),(12,none)],[(0,none),(8,none),(9,none)],[(5,none)]])] [2,5,6,7] [] s

noncomputable def sA (t:Int) (l:List Int) (q:List Bool) (m:Nat) (c p:List (List U)) (vc vp:Nat) (i:Int):NS:=⟨[⟨107,17,[(0,(EV.yl 2)),(8,(EV.v (Value.int IntKind.i64 (Int.ofNat (List.length l))))),(9,iv i)],[.it (.code (nav [1,0,0] (bodyOf Try.f107))),.it (.inLoop (nav [1,0,0] (bodyOf Try.f107))),.it (.inBlock 0)],[],Option.none⟩,⟨106,108,[(5,(EV.ptr 3 0))],[(.inRF 2),.it (.inBlock 0),.it (.code (nav [1,1,1,1] (bodyOf Try.f106)))],[(DE.mk 4)],Option.none⟩],[(0,(EK.cells 77 [(EV.ptr 1 0)] true)),(1,(EK.cells 24 [(EV.v (Value.int IntKind.i64 (t))),(EV.lst (SyC.ints IntKind.i64 (l)))] true)),(2,(EK.loop LoopState.ready Option.none 106 108 (Tr.node Option.none (Tr.node Option.none Tr.nil (Tr.node (Option.some (EV.ptr 5 0)) Tr.nil (Tr.node (Option.some (EV.ptr 6 0)) Tr.nil Tr.nil))) (Tr.node Option.none (Tr.node Option.none Tr.nil (Tr.node (Option.some (EV.ptr 3 0)) Tr.nil Tr.nil)) (Tr.node Option.none Tr.nil (Tr.node (Option.some (EV.ptr 7 0)) Tr.nil Tr.nil)))) (Array.mk [21]) (nav [1,1,1,0,1,0,0] (bodyOf Try.f106)) (nav [1,1,1,0,1,0,1] (bodyOf Try.f106)) 4)),(3,EK.cells 75 [EV.slO 8 1 m true] true),(4,(EK.dfr true)),(5,(EK.cells 22 [(EV.lst (SyC.ints IntKind.i64 (l)))] true)),(6,(EK.cells 155 [(EV.ptrE 9 1 0 0)] true)),(7,(EK.cells 155 [(EV.ptrE 10 1 0 0)] true)),(8,EK.seq 4 (.bools q) true),(9,EK.nest 9 (157,[3]) [.list [.int .i64]] c vc [] true),(10,EK.nest 10 (157,[3]) [.list [.int .i64]] p vp [] true)],11⟩
noncomputable def sB (t:Int) (l:List Int) (q:List Bool) (m:Nat) (c p:List (List U)) (vc vp:Nat) (i x n e k:Int):NS:=⟨[⟨106,108,[(2,(EV.ptr 2 0)),(5,(EV.ptr 3 0)),(6,(EV.ptr 4 0)),(7,(EV.ptr 5 0)),(8,iv i),(9,iv x),(10,iv n),(11,iv e),(12,iv k)],[.it (.code (nav [1,1,1,0,1,0,1,0,1,1,1,1,1,0,1,0,0,0] (bodyOf Try.f106))),.it (.code (nav [1,1,1,0,1,0,1,0,1,1,1,1,1,0,1,0,0,1] (bodyOf Try.f106))),.it (.inLoop (nav [1,1,1,0,1,0,1,0,1,1,1,1,1,0,1,0,0] (bodyOf Try.f106))),.it (.inBlock 2),.it (.code (nav [1,1,1,0,1,0,1,0,1,1,1,1,1,1] (bodyOf Try.f106))),.it (.inBlock 1)],[],(Option.some 6)⟩,⟨107,17,[(0,(EV.yl 6)),(8,EV.v (Value.int IntKind.i64 (Int.ofNat (List.length l)))),(9,iv i)],[.ops (opsOf (nav [1,0,0,1,1,0,0,1,0] (bodyOf Try.f107))) ((opsOf (nav [1,0,0,1,1,0,0,1,0] (bodyOf Try.f107))).toList.drop 2),.it (.code (nav [1,0,0,1,1,0,0,1,1] (bodyOf Try.f107))),.it (.inBlock 1),.it (.code (nav [1,0,0,1,1,1] (bodyOf Try.f107))),.it (.inLoop (nav [1,0,0] (bodyOf Try.f107))),.it (.inBlock 0)],[],Option.none⟩,⟨106,108,[(5,(EV.ptr 3 0))],[(.inRF 6),.it (.inBlock 0),.it (.code (nav [1,1,1,1] (bodyOf Try.f106)))],[(DE.mk 7)],Option.none⟩],[(0,(EK.cells 77 [(EV.ptr 1 0)] true)),(1,EK.cells 24 [iv t,il l] true),(2,EK.cells 22 [il l] true),(3,EK.cells 75 [EV.slO 8 1 m true] true),(4,(EK.cells 155 [(EV.ptrE 9 1 0 0)] true)),(5,(EK.cells 155 [(EV.ptrE 10 1 0 0)] true)),(6,(EK.loop LoopState.busy Option.none 106 108 (Tr.node Option.none (Tr.node Option.none Tr.nil (Tr.node (Option.some (EV.ptr 2 0)) Tr.nil (Tr.node (Option.some (EV.ptr 4 0)) Tr.nil Tr.nil))) (Tr.node Option.none (Tr.node Option.none Tr.nil (Tr.node (Option.some (EV.ptr 3 0)) Tr.nil Tr.nil)) (Tr.node Option.none Tr.nil (Tr.node (Option.some (EV.ptr 5 0)) Tr.nil Tr.nil)))) (Array.mk [21]) (nav [1,1,1,0,1,0,0] (bodyOf Try.f106)) (nav [1,1,1,0,1,0,1] (bodyOf Try.f106)) 7)),(7,(EK.dfr true)),(8,EK.seq 4 (.bools q) true),(9,EK.nest 9 (157,[3]) [.list [.int .i64]] c vc [] true),(10,EK.nest 10 (157,[3]) [.list [.int .i64]] p vp [] true)],11⟩
theorem in_t (t:Int) (l:List Int):RUN (st0m 106 [il l,.fn 107 [.ptr 0 0]] (K0 t l) 2)=(bc (bc (decide (Int.ofNat (List.length l)≤Int.ofNat (List.length l))) (decide (Int.ofNat (List.length l)≤(65536:Int))) false) (.at (sA (t) (l) (List.replicate (Int.toNat (Int.ofNat (List.length l))) false) (List.length (List.replicate (Int.toNat (Int.ofNat (List.length l))) false)) (List.replicate (49:Nat) [U.l []]) (List.replicate (49:Nat) [U.l []]) ((0:Nat)) ((0:Nat)) ((0:Int)))) .bad):=by kernel_rfl
theorem a_t (t:Int) (l:List Int) (q:List Bool) (m:Nat) (c p:List (List U)) (vc vp:Nat) (i:Int):RUN (stOf (sA t l q m c p vc vp i))=(bc (decide (i < Int.ofNat (List.length l))) (bc (bc (bc (decide ((0:Int)≤i)) (Nat.blt (Int.toNat i) (List.length l)) false) true false) (bc (bc (Nat.blt (Int.toNat i) (List.length l)) true false) (bc (decide ((1000:Int) < List.getD l (Int.toNat i) (0:Int))) (bc (bc (bc (decide ((0:Int)≤i)) (Nat.blt (Int.toNat i) m) false) true false) (bc (Nat.blt (Int.toNat i) (List.length q)) (bc (decide ((1000:Int) < List.getD l (Int.toNat i) (0:Int))) (bc (bc (bc (bc (bc (decide ((0:Int)≤IntKind.wrap IntKind.i64 (List.getD l (Int.toNat i) (0:Int) - (1000:Int)))) (Nat.blt (Int.toNat (IntKind.wrap IntKind.i64 (List.getD l (Int.toNat i) (0:Int) - (1000:Int)))) (49:Nat)) false) true false) (bc (bc (bc (Nat.blt (Nat.add (Nat.add (Nat.mul (0:Nat) (1:Nat)) (0:Nat)) (Int.toNat (IntKind.wrap IntKind.i64 (List.getD l (Int.toNat i) (0:Int) - (1000:Int))))) (List.length p)) true false) true false) (bc (bc (Nat.beq vp vp) (bc (Nat.blt (Nat.add (Nat.add (Nat.mul (0:Nat) (1:Nat)) (0:Nat)) (Int.toNat (IntKind.wrap IntKind.i64 (List.getD l (Int.toNat i) (0:Int) - (1000:Int))))) (List.length p)) (bc (Nat.beq (List.length (U.list (List.getD (List.getD p (Nat.add (Nat.add (Nat.mul (0:Nat) (1:Nat)) (0:Nat)) (Int.toNat (IntKind.wrap IntKind.i64 (List.getD l (Int.toNat i) (0:Int) - (1000:Int))))) []) (0:Nat) (U.i (0:Int))))) (List.length (U.list (List.getD (List.getD p (Nat.add (Nat.add (Nat.mul (0:Nat) (1:Nat)) (0:Nat)) (Int.toNat (IntKind.wrap IntKind.i64 (List.getD l (Int.toNat i) (0:Int) - (1000:Int))))) []) (0:Nat) (U.i (0:Int)))))) (Nat.ble (List.length (U.list (List.getD (List.getD p (Nat.add (Nat.add (Nat.mul (0:Nat) (1:Nat)) (0:Nat)) (Int.toNat (IntKind.wrap IntKind.i64 (List.getD l (Int.toNat i) (0:Int) - (1000:Int))))) []) (0:Nat) (U.i (0:Int))))+List.length (List.map (fun r=>U.int (List.headD r (U.i (0:Int)))) [[U.i i]])) (65536:Nat)) false) false) false) (bc (bc (bc (decide ((0:Int)≤IntKind.wrap IntKind.i64 (List.getD l (Int.toNat i) (0:Int) - (1000:Int)))) (Nat.blt (Int.toNat (IntKind.wrap IntKind.i64 (List.getD l (Int.toNat i) (0:Int) - (1000:Int)))) (49:Nat)) false) true false) (bc (bc (Nat.blt (Nat.add (Nat.add (Nat.mul (0:Nat) (1:Nat)) (0:Nat)) (Int.toNat (IntKind.wrap IntKind.i64 (List.getD l (Int.toNat i) (0:Int) - (1000:Int))))) (List.length p)) (bc (Nat.beq (List.length (List.map (fun r=>U.int (List.headD r (U.i (0:Int)))) (U.list (List.getD (List.getD p (Nat.add (Nat.add (Nat.mul (0:Nat) (1:Nat)) (0:Nat)) (Int.toNat (IntKind.wrap IntKind.i64 (List.getD l (Int.toNat i) (0:Int) - (1000:Int))))) []) (0:Nat) (U.i (0:Int)))) ++ List.map (fun r=>U.int (List.headD r (U.i (0:Int)))) [[U.i i]])) (List.length (List.map (fun r=>U.int (List.headD r (U.i (0:Int)))) (U.list (List.getD (List.getD p (Nat.add (Nat.add (Nat.mul (0:Nat) (1:Nat)) (0:Nat)) (Int.toNat (IntKind.wrap IntKind.i64 (List.getD l (Int.toNat i) (0:Int) - (1000:Int))))) []) (0:Nat) (U.i (0:Int)))) ++ List.map (fun r=>U.int (List.headD r (U.i (0:Int)))) [[U.i i]]))) (unHoleC (Nat.add (Nat.add (Nat.mul (0:Nat) (1:Nat)) (0:Nat)) (Int.toNat (IntKind.wrap IntKind.i64 (List.getD l (Int.toNat i) (0:Int) - (1000:Int))))) (0:Nat) [(Nat.add (Nat.add (Nat.mul (0:Nat) (1:Nat)) (0:Nat)) (Int.toNat (IntKind.wrap IntKind.i64 (List.getD l (Int.toNat i) (0:Int) - (1000:Int)))),(0:Nat))]) false) false) true false) false) false) false) false) true false) (.at (sA (t) (l) (List.set q (Int.toNat i) true) (m) (c) (List.set p (Nat.add (Nat.add (Nat.mul (0:Nat) (1:Nat)) (0:Nat)) (Int.toNat (IntKind.wrap IntKind.i64 (List.getD l (Int.toNat i) (0:Int) - (1000:Int))))) (rset (0:Nat) (U.l (List.map (fun x=>[U.i x]) (List.map (fun r=>U.int (List.headD r (U.i (0:Int)))) (U.list (List.getD (List.getD p (Nat.add (Nat.add (Nat.mul (0:Nat) (1:Nat)) (0:Nat)) (Int.toNat (IntKind.wrap IntKind.i64 (List.getD l (Int.toNat i) (0:Int) - (1000:Int))))) []) (0:Nat) (U.i (0:Int)))) ++ List.map (fun r=>U.int (List.headD r (U.i (0:Int)))) [[U.i i]]))) (List.getD p (Nat.add (Nat.add (Nat.mul (0:Nat) (1:Nat)) (0:Nat)) (Int.toNat (IntKind.wrap IntKind.i64 (List.getD l (Int.toNat i) (0:Int) - (1000:Int))))) []))) (vc) (vp+(1:Nat)) (IntKind.wrap IntKind.i64 (i+(1:Int))))) .bad) (.at (sB (t) (l) (List.set q (Int.toNat i) true) (m) (c) (p) (vc) (vp) (i) (List.getD l (Int.toNat i) (0:Int)) (IntKind.wrap IntKind.i64 (List.getD l (Int.toNat i) (0:Int) - (1000:Int))) ((-1:Int)) (IntKind.wrap IntKind.i64 (IntKind.wrap IntKind.i64 (List.getD l (Int.toNat i) (0:Int) - (1000:Int)) - (1:Int)))))) .bad) .bad) (bc (decide (List.getD l (Int.toNat i) (0:Int) < (0:Int))) (bc (bc (bc (decide ((0:Int)≤i)) (Nat.blt (Int.toNat i) m) false) true false) (bc (Nat.blt (Int.toNat i) (List.length q)) (bc (decide ((1000:Int) < List.getD l (Int.toNat i) (0:Int))) (bc (bc (bc (bc (bc (decide ((0:Int)≤IntKind.wrap IntKind.i64 ((0:Int) - List.getD l (Int.toNat i) (0:Int)))) (Nat.blt (Int.toNat (IntKind.wrap IntKind.i64 ((0:Int) - List.getD l (Int.toNat i) (0:Int)))) (49:Nat)) false) true false) (bc (bc (bc (Nat.blt (Nat.add (Nat.add (Nat.mul (0:Nat) (1:Nat)) (0:Nat)) (Int.toNat (IntKind.wrap IntKind.i64 ((0:Int) - List.getD l (Int.toNat i) (0:Int))))) (List.length p)) true false) true false) (bc (bc (Nat.beq vp vp) (bc (Nat.blt (Nat.add (Nat.add (Nat.mul (0:Nat) (1:Nat)) (0:Nat)) (Int.toNat (IntKind.wrap IntKind.i64 ((0:Int) - List.getD l (Int.toNat i) (0:Int))))) (List.length p)) (bc (Nat.beq (List.length (U.list (List.getD (List.getD p (Nat.add (Nat.add (Nat.mul (0:Nat) (1:Nat)) (0:Nat)) (Int.toNat (IntKind.wrap IntKind.i64 ((0:Int) - List.getD l (Int.toNat i) (0:Int))))) []) (0:Nat) (U.i (0:Int))))) (List.length (U.list (List.getD (List.getD p (Nat.add (Nat.add (Nat.mul (0:Nat) (1:Nat)) (0:Nat)) (Int.toNat (IntKind.wrap IntKind.i64 ((0:Int) - List.getD l (Int.toNat i) (0:Int))))) []) (0:Nat) (U.i (0:Int)))))) (Nat.ble (List.length (U.list (List.getD (List.getD p (Nat.add (Nat.add (Nat.mul (0:Nat) (1:Nat)) (0:Nat)) (Int.toNat (IntKind.wrap IntKind.i64 ((0:Int) - List.getD l (Int.toNat i) (0:Int))))) []) (0:Nat) (U.i (0:Int))))+List.length (List.map (fun r=>U.int (List.headD r (U.i (0:Int)))) [[U.i i]])) (65536:Nat)) false) false) false) (bc (bc (bc (decide ((0:Int)≤IntKind.wrap IntKind.i64 ((0:Int) - List.getD l (Int.toNat i) (0:Int)))) (Nat.blt (Int.toNat (IntKind.wrap IntKind.i64 ((0:Int) - List.getD l (Int.toNat i) (0:Int)))) (49:Nat)) false) true false) (bc (bc (Nat.blt (Nat.add (Nat.add (Nat.mul (0:Nat) (1:Nat)) (0:Nat)) (Int.toNat (IntKind.wrap IntKind.i64 ((0:Int) - List.getD l (Int.toNat i) (0:Int))))) (List.length p)) (bc (Nat.beq (List.length (List.map (fun r=>U.int (List.headD r (U.i (0:Int)))) (U.list (List.getD (List.getD p (Nat.add (Nat.add (Nat.mul (0:Nat) (1:Nat)) (0:Nat)) (Int.toNat (IntKind.wrap IntKind.i64 ((0:Int) - List.getD l (Int.toNat i) (0:Int))))) []) (0:Nat) (U.i (0:Int)))) ++ List.map (fun r=>U.int (List.headD r (U.i (0:Int)))) [[U.i i]])) (List.length (List.map (fun r=>U.int (List.headD r (U.i (0:Int)))) (U.list (List.getD (List.getD p (Nat.add (Nat.add (Nat.mul (0:Nat) (1:Nat)) (0:Nat)) (Int.toNat (IntKind.wrap IntKind.i64 ((0:Int) - List.getD l (Int.toNat i) (0:Int))))) []) (0:Nat) (U.i (0:Int)))) ++ List.map (fun r=>U.int (List.headD r (U.i (0:Int)))) [[U.i i]]))) (unHoleC (Nat.add (Nat.add (Nat.mul (0:Nat) (1:Nat)) (0:Nat)) (Int.toNat (IntKind.wrap IntKind.i64 ((0:Int) - List.getD l (Int.toNat i) (0:Int))))) (0:Nat) [(Nat.add (Nat.add (Nat.mul (0:Nat) (1:Nat)) (0:Nat)) (Int.toNat (IntKind.wrap IntKind.i64 ((0:Int) - List.getD l (Int.toNat i) (0:Int)))),(0:Nat))]) false) false) true false) false) false) false) false) true false) (.at (sA (t) (l) (List.set q (Int.toNat i) true) (m) (c) (List.set p (Nat.add (Nat.add (Nat.mul (0:Nat) (1:Nat)) (0:Nat)) (Int.toNat (IntKind.wrap IntKind.i64 ((0:Int) - List.getD l (Int.toNat i) (0:Int))))) (rset (0:Nat) (U.l (List.map (fun x=>[U.i x]) (List.map (fun r=>U.int (List.headD r (U.i (0:Int)))) (U.list (List.getD (List.getD p (Nat.add (Nat.add (Nat.mul (0:Nat) (1:Nat)) (0:Nat)) (Int.toNat (IntKind.wrap IntKind.i64 ((0:Int) - List.getD l (Int.toNat i) (0:Int))))) []) (0:Nat) (U.i (0:Int)))) ++ List.map (fun r=>U.int (List.headD r (U.i (0:Int)))) [[U.i i]]))) (List.getD p (Nat.add (Nat.add (Nat.mul (0:Nat) (1:Nat)) (0:Nat)) (Int.toNat (IntKind.wrap IntKind.i64 ((0:Int) - List.getD l (Int.toNat i) (0:Int))))) []))) (vc) (vp+(1:Nat)) (IntKind.wrap IntKind.i64 (i+(1:Int))))) .bad) (.at (sB (t) (l) (List.set q (Int.toNat i) true) (m) (c) (p) (vc) (vp) (i) (List.getD l (Int.toNat i) (0:Int)) (IntKind.wrap IntKind.i64 ((0:Int) - List.getD l (Int.toNat i) (0:Int))) ((-1:Int)) (IntKind.wrap IntKind.i64 (IntKind.wrap IntKind.i64 ((0:Int) - List.getD l (Int.toNat i) (0:Int)) - (1:Int)))))) .bad) .bad) (bc (bc (bc (decide ((0:Int)≤i)) (Nat.blt (Int.toNat i) m) false) true false) (bc (Nat.blt (Int.toNat i) (List.length q)) (bc (decide ((1000:Int) < List.getD l (Int.toNat i) (0:Int))) (bc (bc (bc (bc (bc (decide ((0:Int)≤List.getD l (Int.toNat i) (0:Int))) (Nat.blt (Int.toNat (List.getD l (Int.toNat i) (0:Int))) (49:Nat)) false) true false) (bc (bc (bc (Nat.blt (Nat.add (Nat.add (Nat.mul (0:Nat) (1:Nat)) (0:Nat)) (Int.toNat (List.getD l (Int.toNat i) (0:Int)))) (List.length p)) true false) true false) (bc (bc (Nat.beq vp vp) (bc (Nat.blt (Nat.add (Nat.add (Nat.mul (0:Nat) (1:Nat)) (0:Nat)) (Int.toNat (List.getD l (Int.toNat i) (0:Int)))) (List.length p)) (bc (Nat.beq (List.length (U.list (List.getD (List.getD p (Nat.add (Nat.add (Nat.mul (0:Nat) (1:Nat)) (0:Nat)) (Int.toNat (List.getD l (Int.toNat i) (0:Int)))) []) (0:Nat) (U.i (0:Int))))) (List.length (U.list (List.getD (List.getD p (Nat.add (Nat.add (Nat.mul (0:Nat) (1:Nat)) (0:Nat)) (Int.toNat (List.getD l (Int.toNat i) (0:Int)))) []) (0:Nat) (U.i (0:Int)))))) (Nat.ble (List.length (U.list (List.getD (List.getD p (Nat.add (Nat.add (Nat.mul (0:Nat) (1:Nat)) (0:Nat)) (Int.toNat (List.getD l (Int.toNat i) (0:Int)))) []) (0:Nat) (U.i (0:Int))))+List.length (List.map (fun r=>U.int (List.headD r (U.i (0:Int)))) [[U.i i]])) (65536:Nat)) false) false) false) (bc (bc (bc (decide ((0:Int)≤List.getD l (Int.toNat i) (0:Int))) (Nat.blt (Int.toNat (List.getD l (Int.toNat i) (0:Int))) (49:Nat)) false) true false) (bc (bc (Nat.blt (Nat.add (Nat.add (Nat.mul (0:Nat) (1:Nat)) (0:Nat)) (Int.toNat (List.getD l (Int.toNat i) (0:Int)))) (List.length p)) (bc (Nat.beq (List.length (List.map (fun r=>U.int (List.headD r (U.i (0:Int)))) (U.list (List.getD (List.getD p (Nat.add (Nat.add (Nat.mul (0:Nat) (1:Nat)) (0:Nat)) (Int.toNat (List.getD l (Int.toNat i) (0:Int)))) []) (0:Nat) (U.i (0:Int)))) ++ List.map (fun r=>U.int (List.headD r (U.i (0:Int)))) [[U.i i]])) (List.length (List.map (fun r=>U.int (List.headD r (U.i (0:Int)))) (U.list (List.getD (List.getD p (Nat.add (Nat.add (Nat.mul (0:Nat) (1:Nat)) (0:Nat)) (Int.toNat (List.getD l (Int.toNat i) (0:Int)))) []) (0:Nat) (U.i (0:Int)))) ++ List.map (fun r=>U.int (List.headD r (U.i (0:Int)))) [[U.i i]]))) (unHoleC (Nat.add (Nat.add (Nat.mul (0:Nat) (1:Nat)) (0:Nat)) (Int.toNat (List.getD l (Int.toNat i) (0:Int)))) (0:Nat) [(Nat.add (Nat.add (Nat.mul (0:Nat) (1:Nat)) (0:Nat)) (Int.toNat (List.getD l (Int.toNat i) (0:Int))),(0:Nat))]) false) false) true false) false) false) false) false) true false) (.at (sA (t) (l) (List.set q (Int.toNat i) true) (m) (c) (List.set p (Nat.add (Nat.add (Nat.mul (0:Nat) (1:Nat)) (0:Nat)) (Int.toNat (List.getD l (Int.toNat i) (0:Int)))) (rset (0:Nat) (U.l (List.map (fun x=>[U.i x]) (List.map (fun r=>U.int (List.headD r (U.i (0:Int)))) (U.list (List.getD (List.getD p (Nat.add (Nat.add (Nat.mul (0:Nat) (1:Nat)) (0:Nat)) (Int.toNat (List.getD l (Int.toNat i) (0:Int)))) []) (0:Nat) (U.i (0:Int)))) ++ List.map (fun r=>U.int (List.headD r (U.i (0:Int)))) [[U.i i]]))) (List.getD p (Nat.add (Nat.add (Nat.mul (0:Nat) (1:Nat)) (0:Nat)) (Int.toNat (List.getD l (Int.toNat i) (0:Int)))) []))) (vc) (vp+(1:Nat)) (IntKind.wrap IntKind.i64 (i+(1:Int))))) .bad) (.at (sB (t) (l) (List.set q (Int.toNat i) true) (m) (c) (p) (vc) (vp) (i) (List.getD l (Int.toNat i) (0:Int)) (List.getD l (Int.toNat i) (0:Int)) ((-1:Int)) (IntKind.wrap IntKind.i64 (List.getD l (Int.toNat i) (0:Int) - (1:Int)))))) .bad) .bad))) .bad) .bad) (.done (EV.slO 2 1 (m) true) [(0,(EK.cells 77 [(EV.ptr 1 0)] true)),(1,(EK.cells 24 [(EV.v (Value.int IntKind.i64 (t))),(EV.lst (SyC.ints IntKind.i64 (l)))] true)),(2,(EK.seq 4 (SyC.bools (q)) true))] 3)):=by kernel_rfl
theorem b_t (t:Int) (l:List Int) (q:List Bool) (m:Nat) (c p:List (List U)) (vc vp:Nat) (i x n e k:Int):RUN (stOf (sB t l q m c p vc vp i x n e k))=(bc (decide (k≤IntKind.wrap IntKind.i64 (n+(1:Int)))) (bc (bc (bc (bc (bc (bc (bc (Nat.blt (0:Nat) (List.length c)) (Nat.ble (List.length c) (65536:Nat)) false) true false) (decide (((0:Int)≤k∧k < (49:Int))∧List.length c=(49:Nat)∧List.length (PTop.facN c (Int.toNat k))≤(5000:Nat))) false) true false) (bc (bc (bc (bc (bc (Nat.blt (0:Nat) (List.length p)) (Nat.ble (List.length p) (65536:Nat)) false) true false) (decide (((0:Int)≤k∧k < (49:Int))∧List.length p=(49:Nat)∧List.length (PTop.facN p (Int.toNat k))≤(5000:Nat))) false) true false) true false) false) true false) (.at (sB (t) (l) (q) (m) (c) (p) (vc) (vp) (i) (x) (n) (if lastI (PTop.facN p (Int.toNat k)) > if lastI (PTop.facN c (Int.toNat k)) > e then lastI (PTop.facN c (Int.toNat k)) else e then lastI (PTop.facN p (Int.toNat k)) else if lastI (PTop.facN c (Int.toNat k)) > e then lastI (PTop.facN c (Int.toNat k)) else e) (IntKind.wrap IntKind.i64 (k+(1:Int))))) .bad) (bc (decide ((0:Int)≤e)) (bc (bc (bc (decide ((0:Int)≤e)) (Nat.blt (Int.toNat e) (List.length l)) false) true false) (bc (bc (Nat.blt (Int.toNat e) (List.length l)) true false) (bc (List.getD l (Int.toNat e) (0:Int) == IntKind.wrap IntKind.i64 ((0:Int) - x)) (bc (bc (bc (bc (bc (decide ((0:Int)≤i)) (Nat.blt (Int.toNat i) m) false) true false) (bc (Nat.blt (Int.toNat i) (List.length q)) (bc (bc (bc (decide ((0:Int)≤e)) (Nat.blt (Int.toNat e) m) false) true false) (bc (Nat.blt (Int.toNat e) (List.length (List.set q (Int.toNat i) false))) true false) false) false) false) (bc (bc (bc (bc (Nat.beq m m) (eqN true true) false) true false) true false) true false) false) (bc (bc (bc (bc (bc (decide ((0:Int)≤n)) (Nat.blt (Int.toNat n) (49:Nat)) false) true false) (bc (bc (bc (Nat.blt (Nat.add (Nat.add (Nat.mul (0:Nat) (1:Nat)) (0:Nat)) (Int.toNat n)) (List.length c)) true false) true false) (bc (bc (bc (decide ((0:Int)≤n)) (Nat.blt (Int.toNat n) (49:Nat)) false) true false) (bc (bc (bc (Nat.blt (Nat.add (Nat.add (Nat.mul (0:Nat) (1:Nat)) (0:Nat)) (Int.toNat n)) (List.length c)) true false) true false) (bc (bc (bc (decide ((0:Int)≤IntKind.wrap IntKind.i64 (Int.ofNat (List.length (U.list (List.getD (List.getD c (Nat.add (Nat.add (Nat.mul (0:Nat) (1:Nat)) (0:Nat)) (Int.toNat n)) []) (0:Nat) (U.i (0:Int))))) - (1:Int)))) (decide (IntKind.wrap IntKind.i64 (Int.ofNat (List.length (U.list (List.getD (List.getD c (Nat.add (Nat.add (Nat.mul (0:Nat) (1:Nat)) (0:Nat)) (Int.toNat n)) []) (0:Nat) (U.i (0:Int))))) - (1:Int))≤Int.ofNat (List.length (U.list (List.getD (List.getD c (Nat.add (Nat.add (Nat.mul (0:Nat) (1:Nat)) (0:Nat)) (Int.toNat n)) []) (0:Nat) (U.i (0:Int))))))) false) true false) (bc (bc (bc (decide ((0:Int)≤n)) (Nat.blt (Int.toNat n) (49:Nat)) false) true false) (bc (bc (Nat.beq vc vc) (bc (bc (Nat.beq (Nat.add (Nat.add (Nat.mul (0:Nat) (1:Nat)) (0:Nat)) (Int.toNat n)) (Nat.add (Nat.add (Nat.mul (0:Nat) (1:Nat)) (0:Nat)) (Int.toNat n))) (Nat.beq (0:Nat) (0:Nat)) false) (bc (Nat.blt (Nat.add (Nat.add (Nat.mul (0:Nat) (1:Nat)) (0:Nat)) (Int.toNat n)) (List.length c)) (Nat.ble (Int.toNat (IntKind.wrap IntKind.i64 (Int.ofNat (List.length (U.list (List.getD (List.getD c (Nat.add (Nat.add (Nat.mul (0:Nat) (1:Nat)) (0:Nat)) (Int.toNat n)) []) (0:Nat) (U.i (0:Int))))) - (1:Int)))) (List.length (U.list (List.getD (List.getD c (Nat.add (Nat.add (Nat.mul (0:Nat) (1:Nat)) (0:Nat)) (Int.toNat n)) []) (0:Nat) (U.i (0:Int)))))) false) false) false) true false) false) false) false) false) false) false) true false) (.at (sA (t) (l) (List.set (List.set q (Int.toNat i) false) (Int.toNat e) false) (m) (List.set c (Nat.add (Nat.add (Nat.mul (0:Nat) (1:Nat)) (0:Nat)) (Int.toNat n)) (rset (0:Nat) (U.l (List.take (Int.toNat (IntKind.wrap IntKind.i64 (Int.ofNat (List.length (U.list (List.getD (List.getD c (Nat.add (Nat.add (Nat.mul (0:Nat) (1:Nat)) (0:Nat)) (Int.toNat n)) []) (0:Nat) (U.i (0:Int))))) - (1:Int)))) (U.list (List.getD (List.getD c (Nat.add (Nat.add (Nat.mul (0:Nat) (1:Nat)) (0:Nat)) (Int.toNat n)) []) (0:Nat) (U.i (0:Int)))))) (List.getD c (Nat.add (Nat.add (Nat.mul (0:Nat) (1:Nat)) (0:Nat)) (Int.toNat n)) []))) (p) (vc) (vp) (IntKind.wrap IntKind.i64 (i+(1:Int))))) .bad) .bad) (bc (bc (bc (bc (bc (decide ((0:Int)≤n)) (Nat.blt (Int.toNat n) (49:Nat)) false) true false) (bc (bc (bc (Nat.blt (Nat.add (Nat.add (Nat.mul (0:Nat) (1:Nat)) (0:Nat)) (Int.toNat n)) (List.length c)) true false) true false) (bc (bc (Nat.beq vc vc) (bc (Nat.blt (Nat.add (Nat.add (Nat.mul (0:Nat) (1:Nat)) (0:Nat)) (Int.toNat n)) (List.length c)) (bc (Nat.beq (List.length (U.list (List.getD (List.getD c (Nat.add (Nat.add (Nat.mul (0:Nat) (1:Nat)) (0:Nat)) (Int.toNat n)) []) (0:Nat) (U.i (0:Int))))) (List.length (U.list (List.getD (List.getD c (Nat.add (Nat.add (Nat.mul (0:Nat) (1:Nat)) (0:Nat)) (Int.toNat n)) []) (0:Nat) (U.i (0:Int)))))) (Nat.ble (List.length (U.list (List.getD (List.getD c (Nat.add (Nat.add (Nat.mul (0:Nat) (1:Nat)) (0:Nat)) (Int.toNat n)) []) (0:Nat) (U.i (0:Int))))+List.length (List.map (fun r=>U.int (List.headD r (U.i (0:Int)))) [[U.i i]])) (65536:Nat)) false) false) false) (bc (bc (bc (decide ((0:Int)≤n)) (Nat.blt (Int.toNat n) (49:Nat)) false) true false) (bc (bc (Nat.blt (Nat.add (Nat.add (Nat.mul (0:Nat) (1:Nat)) (0:Nat)) (Int.toNat n)) (List.length c)) (bc (Nat.beq (List.length (List.map (fun r=>U.int (List.headD r (U.i (0:Int)))) (U.list (List.getD (List.getD c (Nat.add (Nat.add (Nat.mul (0:Nat) (1:Nat)) (0:Nat)) (Int.toNat n)) []) (0:Nat) (U.i (0:Int)))) ++ List.map (fun r=>U.int (List.headD r (U.i (0:Int)))) [[U.i i]])) (List.length (List.map (fun r=>U.int (List.headD r (U.i (0:Int)))) (U.list (List.getD (List.getD c (Nat.add (Nat.add (Nat.mul (0:Nat) (1:Nat)) (0:Nat)) (Int.toNat n)) []) (0:Nat) (U.i (0:Int)))) ++ List.map (fun r=>U.int (List.headD r (U.i (0:Int)))) [[U.i i]]))) (unHoleC (Nat.add (Nat.add (Nat.mul (0:Nat) (1:Nat)) (0:Nat)) (Int.toNat n)) (0:Nat) [(Nat.add (Nat.add (Nat.mul (0:Nat) (1:Nat)) (0:Nat)) (Int.toNat n),(0:Nat))]) false) false) true false) false) false) false) false) true false) (.at (sA (t) (l) (q) (m) (List.set c (Nat.add (Nat.add (Nat.mul (0:Nat) (1:Nat)) (0:Nat)) (Int.toNat n)) (rset (0:Nat) (U.l (List.map (fun x=>[U.i x]) (List.map (fun r=>U.int (List.headD r (U.i (0:Int)))) (U.list (List.getD (List.getD c (Nat.add (Nat.add (Nat.mul (0:Nat) (1:Nat)) (0:Nat)) (Int.toNat n)) []) (0:Nat) (U.i (0:Int)))) ++ List.map (fun r=>U.int (List.headD r (U.i (0:Int)))) [[U.i i]]))) (List.getD c (Nat.add (Nat.add (Nat.mul (0:Nat) (1:Nat)) (0:Nat)) (Int.toNat n)) []))) (p) (vc+(1:Nat)) (vp) (IntKind.wrap IntKind.i64 (i+(1:Int))))) .bad)) .bad) .bad) (bc (bc (bc (bc (bc (decide ((0:Int)≤n)) (Nat.blt (Int.toNat n) (49:Nat)) false) true false) (bc (bc (bc (Nat.blt (Nat.add (Nat.add (Nat.mul (0:Nat) (1:Nat)) (0:Nat)) (Int.toNat n)) (List.length c)) true false) true false) (bc (bc (Nat.beq vc vc) (bc (Nat.blt (Nat.add (Nat.add (Nat.mul (0:Nat) (1:Nat)) (0:Nat)) (Int.toNat n)) (List.length c)) (bc (Nat.beq (List.length (U.list (List.getD (List.getD c (Nat.add (Nat.add (Nat.mul (0:Nat) (1:Nat)) (0:Nat)) (Int.toNat n)) []) (0:Nat) (U.i (0:Int))))) (List.length (U.list (List.getD (List.getD c (Nat.add (Nat.add (Nat.mul (0:Nat) (1:Nat)) (0:Nat)) (Int.toNat n)) []) (0:Nat) (U.i (0:Int)))))) (Nat.ble (List.length (U.list (List.getD (List.getD c (Nat.add (Nat.add (Nat.mul (0:Nat) (1:Nat)) (0:Nat)) (Int.toNat n)) []) (0:Nat) (U.i (0:Int))))+List.length (List.map (fun r=>U.int (List.headD r (U.i (0:Int)))) [[U.i i]])) (65536:Nat)) false) false) false) (bc (bc (bc (decide ((0:Int)≤n)) (Nat.blt (Int.toNat n) (49:Nat)) false) true false) (bc (bc (Nat.blt (Nat.add (Nat.add (Nat.mul (0:Nat) (1:Nat)) (0:Nat)) (Int.toNat n)) (List.length c)) (bc (Nat.beq (List.length (List.map (fun r=>U.int (List.headD r (U.i (0:Int)))) (U.list (List.getD (List.getD c (Nat.add (Nat.add (Nat.mul (0:Nat) (1:Nat)) (0:Nat)) (Int.toNat n)) []) (0:Nat) (U.i (0:Int)))) ++ List.map (fun r=>U.int (List.headD r (U.i (0:Int)))) [[U.i i]])) (List.length (List.map (fun r=>U.int (List.headD r (U.i (0:Int)))) (U.list (List.getD (List.getD c (Nat.add (Nat.add (Nat.mul (0:Nat) (1:Nat)) (0:Nat)) (Int.toNat n)) []) (0:Nat) (U.i (0:Int)))) ++ List.map (fun r=>U.int (List.headD r (U.i (0:Int)))) [[U.i i]]))) (unHoleC (Nat.add (Nat.add (Nat.mul (0:Nat) (1:Nat)) (0:Nat)) (Int.toNat n)) (0:Nat) [(Nat.add (Nat.add (Nat.mul (0:Nat) (1:Nat)) (0:Nat)) (Int.toNat n),(0:Nat))]) false) false) true false) false) false) false) false) true false) (.at (sA (t) (l) (q) (m) (List.set c (Nat.add (Nat.add (Nat.mul (0:Nat) (1:Nat)) (0:Nat)) (Int.toNat n)) (rset (0:Nat) (U.l (List.map (fun x=>[U.i x]) (List.map (fun r=>U.int (List.headD r (U.i (0:Int)))) (U.list (List.getD (List.getD c (Nat.add (Nat.add (Nat.mul (0:Nat) (1:Nat)) (0:Nat)) (Int.toNat n)) []) (0:Nat) (U.i (0:Int)))) ++ List.map (fun r=>U.int (List.headD r (U.i (0:Int)))) [[U.i i]]))) (List.getD c (Nat.add (Nat.add (Nat.mul (0:Nat) (1:Nat)) (0:Nat)) (Int.toNat n)) []))) (p) (vc+(1:Nat)) (vp) (IntKind.wrap IntKind.i64 (i+(1:Int))))) .bad))):=by kernel_rfl
end PTgA
namespace PTgB
noncomputable def K0 (b:List Bool) (nb:Bool):List (Nat × EK):=[(0,.cells 75 [.slO 1 1 b.length nb] true),(1,.seq 4 (.bools b) nb)]
noncomputable def RUN (s:ES):ZF:=RMs 2 106 ctTp [(atS 1 105 1,[[(0,none),(5,none),(6,none),(7,none)],[(5,none)]]),(atS 2 106 12,[[(2,none),(5,none),(6,none),(7,none),(8,none),(9,none),(10,none),(11,none),(12,none)],[(0,none),(5,none),(6,none),(7,none),(13,none)],[(5,none)]])] [2,5,6,7] [] s

noncomputable def sA (b:List Bool) (nb:Bool) (l:List Int) (q:List Bool) (m:Nat) (c p:List (List U)) (vc vp:Nat) (i:Int):NS:=⟨[⟨105,20,[(0,(EV.yl 2)),(5,(EV.slO 1 1 (List.length b) (nb))),(6,(EV.v (Value.int IntKind.i64 (Int.ofNat (List.length b))))),(7,iv i)],[.it (.code (nav [1,0,0] (bodyOf Try.f105))),.it (.inLoop (nav [1,0,0] (bodyOf Try.f105))),.it (.inBlock 0)],[],Option.none⟩,⟨106,108,[(5,(EV.ptr 3 0))],[(.inRF 2),.it (.inBlock 0),.it (.code (nav [1,1,1,1] (bodyOf Try.f106)))],[(DE.mk 4)],Option.none⟩],[(0,(EK.cells 75 [(EV.slO 1 1 (List.length b) (nb))] true)),(1,(EK.seq 4 (SyC.bools (b)) (nb))),(2,(EK.loop LoopState.ready Option.none 106 108 (Tr.node Option.none (Tr.node Option.none Tr.nil (Tr.node (Option.some (EV.ptr 5 0)) Tr.nil (Tr.node (Option.some (EV.ptr 6 0)) Tr.nil Tr.nil))) (Tr.node Option.none (Tr.node Option.none Tr.nil (Tr.node (Option.some (EV.ptr 3 0)) Tr.nil Tr.nil)) (Tr.node Option.none Tr.nil (Tr.node (Option.some (EV.ptr 7 0)) Tr.nil Tr.nil)))) (Array.mk [21]) (nav [1,1,1,0,1,0,0] (bodyOf Try.f106)) (nav [1,1,1,0,1,0,1] (bodyOf Try.f106)) 4)),(3,EK.cells 75 [EV.slO 8 1 m true] true),(4,(EK.dfr true)),(5,(EK.cells 22 [(EV.lst (SyC.ints IntKind.i64 (l)))] true)),(6,(EK.cells 155 [(EV.ptrE 9 1 0 0)] true)),(7,(EK.cells 155 [(EV.ptrE 10 1 0 0)] true)),(8,EK.seq 4 (.bools q) true),(9,EK.nest 9 (157,[3]) [.list [.int .i64]] c vc [] true),(10,EK.nest 10 (157,[3]) [.list [.int .i64]] p vp [] true)],11⟩
noncomputable def sB (b:List Bool) (nb:Bool) (l:List Int) (q:List Bool) (m:Nat) (c p:List (List U)) (vc vp:Nat) (i x n e k:Int):NS:=⟨[⟨106,108,[(2,(EV.ptr 2 0)),(5,(EV.ptr 3 0)),(6,(EV.ptr 4 0)),(7,(EV.ptr 5 0)),(8,iv i),(9,iv x),(10,iv n),(11,iv e),(12,iv k)],[.it (.code (nav [1,1,1,0,1,0,1,0,1,1,1,1,1,0,1,0,0,0] (bodyOf Try.f106))),.it (.code (nav [1,1,1,0,1,0,1,0,1,1,1,1,1,0,1,0,0,1] (bodyOf Try.f106))),.it (.inLoop (nav [1,1,1,0,1,0,1,0,1,1,1,1,1,0,1,0,0] (bodyOf Try.f106))),.it (.inBlock 2),.it (.code (nav [1,1,1,0,1,0,1,0,1,1,1,1,1,1] (bodyOf Try.f106))),.it (.inBlock 1)],[],(Option.some 6)⟩,⟨105,20,[(0,(EV.yl 6)),(5,EV.slO 1 1 (List.length b) nb),(6,EV.v (Value.int IntKind.i64 (Int.ofNat (List.length b)))),(7,iv i),(13,(EV.v (Value.bool true)))],[.ops (opsOf (nav [1,0,0,1,1,0,0,1,0] (bodyOf Try.f105))) ((opsOf (nav [1,0,0,1,1,0,0,1,0] (bodyOf Try.f105))).toList.drop 4),.it (.code (nav [1,0,0,1,1,0,0,1,1] (bodyOf Try.f105))),.it (.inBlock 1),.it (.code (nav [1,0,0,1,1,1] (bodyOf Try.f105))),.it (.inLoop (nav [1,0,0] (bodyOf Try.f105))),.it (.inBlock 0)],[],Option.none⟩,⟨106,108,[(5,(EV.ptr 3 0))],[(.inRF 6),.it (.inBlock 0),.it (.code (nav [1,1,1,1] (bodyOf Try.f106)))],[(DE.mk 7)],Option.none⟩],[(0,EK.cells 75 [.slO 1 1 (List.length b) nb] true),(1,EK.seq 4 (.bools b) nb),(2,EK.cells 22 [il l] true),(3,EK.cells 75 [EV.slO 8 1 m true] true),(4,(EK.cells 155 [(EV.ptrE 9 1 0 0)] true)),(5,(EK.cells 155 [(EV.ptrE 10 1 0 0)] true)),(6,(EK.loop LoopState.busy Option.none 106 108 (Tr.node Option.none (Tr.node Option.none Tr.nil (Tr.node (Option.some (EV.ptr 2 0)) Tr.nil (Tr.node (Option.some (EV.ptr 4 0)) Tr.nil Tr.nil))) (Tr.node Option.none (Tr.node Option.none Tr.nil (Tr.node (Option.some (EV.ptr 3 0)) Tr.nil Tr.nil)) (Tr.node Option.none Tr.nil (Tr.node (Option.some (EV.ptr 5 0)) Tr.nil Tr.nil)))) (Array.mk [21]) (nav [1,1,1,0,1,0,0] (bodyOf Try.f106)) (nav [1,1,1,0,1,0,1] (bodyOf Try.f106)) 7)),(7,(EK.dfr true)),(8,EK.seq 4 (.bools q) true),(9,EK.nest 9 (157,[3]) [.list [.int .i64]] c vc [] true),(10,EK.nest 10 (157,[3]) [.list [.int .i64]] p vp [] true)],11⟩
theorem in_t (b:List Bool) (nb:Bool) (l:List Int):RUN (st0m 106 [il l,.fn 105 [.ptr 0 0]] (K0 b nb) 2)=(bc (bc (decide (Int.ofNat (List.length l)≤Int.ofNat (List.length l))) (decide (Int.ofNat (List.length l)≤(65536:Int))) false) (.at (sA (b) (nb) (l) (List.replicate (Int.toNat (Int.ofNat (List.length l))) false) (List.length (List.replicate (Int.toNat (Int.ofNat (List.length l))) false)) (List.replicate (49:Nat) [U.l []]) (List.replicate (49:Nat) [U.l []]) ((0:Nat)) ((0:Nat)) ((0:Int)))) .bad):=by kernel_rfl
theorem a_t (b:List Bool) (nb:Bool) (l:List Int) (q:List Bool) (m:Nat) (c p:List (List U)) (vc vp:Nat) (i:Int):RUN (stOf (sA b nb l q m c p vc vp i))=(bc (decide (i < Int.ofNat (List.length b))) (bc (bc (bc (decide ((0:Int)≤i)) (Nat.blt (Int.toNat i) (List.length b)) false) true false) (bc (bc (Nat.blt (Int.toNat i) (List.length b)) true false) (bc (List.getD b (Int.toNat i) false) (bc (bc (bc (decide ((0:Int)≤i)) (Nat.blt (Int.toNat i) (List.length l)) false) true false) (bc (bc (Nat.blt (Int.toNat i) (List.length l)) true false) (bc (decide ((1000:Int) < List.getD l (Int.toNat i) (0:Int))) (bc (bc (bc (decide ((0:Int)≤i)) (Nat.blt (Int.toNat i) m) false) true false) (bc (Nat.blt (Int.toNat i) (List.length q)) (bc (decide ((1000:Int) < List.getD l (Int.toNat i) (0:Int))) (bc (bc (bc (bc (bc (decide ((0:Int)≤IntKind.wrap IntKind.i64 (List.getD l (Int.toNat i) (0:Int) - (1000:Int)))) (Nat.blt (Int.toNat (IntKind.wrap IntKind.i64 (List.getD l (Int.toNat i) (0:Int) - (1000:Int)))) (49:Nat)) false) true false) (bc (bc (bc (Nat.blt (Nat.add (Nat.add (Nat.mul (0:Nat) (1:Nat)) (0:Nat)) (Int.toNat (IntKind.wrap IntKind.i64 (List.getD l (Int.toNat i) (0:Int) - (1000:Int))))) (List.length p)) true false) true false) (bc (bc (Nat.beq vp vp) (bc (Nat.blt (Nat.add (Nat.add (Nat.mul (0:Nat) (1:Nat)) (0:Nat)) (Int.toNat (IntKind.wrap IntKind.i64 (List.getD l (Int.toNat i) (0:Int) - (1000:Int))))) (List.length p)) (bc (Nat.beq (List.length (U.list (List.getD (List.getD p (Nat.add (Nat.add (Nat.mul (0:Nat) (1:Nat)) (0:Nat)) (Int.toNat (IntKind.wrap IntKind.i64 (List.getD l (Int.toNat i) (0:Int) - (1000:Int))))) []) (0:Nat) (U.i (0:Int))))) (List.length (U.list (List.getD (List.getD p (Nat.add (Nat.add (Nat.mul (0:Nat) (1:Nat)) (0:Nat)) (Int.toNat (IntKind.wrap IntKind.i64 (List.getD l (Int.toNat i) (0:Int) - (1000:Int))))) []) (0:Nat) (U.i (0:Int)))))) (Nat.ble (List.length (U.list (List.getD (List.getD p (Nat.add (Nat.add (Nat.mul (0:Nat) (1:Nat)) (0:Nat)) (Int.toNat (IntKind.wrap IntKind.i64 (List.getD l (Int.toNat i) (0:Int) - (1000:Int))))) []) (0:Nat) (U.i (0:Int))))+List.length (List.map (fun r=>U.int (List.headD r (U.i (0:Int)))) [[U.i i]])) (65536:Nat)) false) false) false) (bc (bc (bc (decide ((0:Int)≤IntKind.wrap IntKind.i64 (List.getD l (Int.toNat i) (0:Int) - (1000:Int)))) (Nat.blt (Int.toNat (IntKind.wrap IntKind.i64 (List.getD l (Int.toNat i) (0:Int) - (1000:Int)))) (49:Nat)) false) true false) (bc (bc (Nat.blt (Nat.add (Nat.add (Nat.mul (0:Nat) (1:Nat)) (0:Nat)) (Int.toNat (IntKind.wrap IntKind.i64 (List.getD l (Int.toNat i) (0:Int) - (1000:Int))))) (List.length p)) (bc (Nat.beq (List.length (List.map (fun r=>U.int (List.headD r (U.i (0:Int)))) (U.list (List.getD (List.getD p (Nat.add (Nat.add (Nat.mul (0:Nat) (1:Nat)) (0:Nat)) (Int.toNat (IntKind.wrap IntKind.i64 (List.getD l (Int.toNat i) (0:Int) - (1000:Int))))) []) (0:Nat) (U.i (0:Int)))) ++ List.map (fun r=>U.int (List.headD r (U.i (0:Int)))) [[U.i i]])) (List.length (List.map (fun r=>U.int (List.headD r (U.i (0:Int)))) (U.list (List.getD (List.getD p (Nat.add (Nat.add (Nat.mul (0:Nat) (1:Nat)) (0:Nat)) (Int.toNat (IntKind.wrap IntKind.i64 (List.getD l (Int.toNat i) (0:Int) - (1000:Int))))) []) (0:Nat) (U.i (0:Int)))) ++ List.map (fun r=>U.int (List.headD r (U.i (0:Int)))) [[U.i i]]))) (unHoleC (Nat.add (Nat.add (Nat.mul (0:Nat) (1:Nat)) (0:Nat)) (Int.toNat (IntKind.wrap IntKind.i64 (List.getD l (Int.toNat i) (0:Int) - (1000:Int))))) (0:Nat) [(Nat.add (Nat.add (Nat.mul (0:Nat) (1:Nat)) (0:Nat)) (Int.toNat (IntKind.wrap IntKind.i64 (List.getD l (Int.toNat i) (0:Int) - (1000:Int)))),(0:Nat))]) false) false) true false) false) false) false) false) true false) (.at (sA (b) (nb) (l) (List.set q (Int.toNat i) true) (m) (c) (List.set p (Nat.add (Nat.add (Nat.mul (0:Nat) (1:Nat)) (0:Nat)) (Int.toNat (IntKind.wrap IntKind.i64 (List.getD l (Int.toNat i) (0:Int) - (1000:Int))))) (rset (0:Nat) (U.l (List.map (fun x=>[U.i x]) (List.map (fun r=>U.int (List.headD r (U.i (0:Int)))) (U.list (List.getD (List.getD p (Nat.add (Nat.add (Nat.mul (0:Nat) (1:Nat)) (0:Nat)) (Int.toNat (IntKind.wrap IntKind.i64 (List.getD l (Int.toNat i) (0:Int) - (1000:Int))))) []) (0:Nat) (U.i (0:Int)))) ++ List.map (fun r=>U.int (List.headD r (U.i (0:Int)))) [[U.i i]]))) (List.getD p (Nat.add (Nat.add (Nat.mul (0:Nat) (1:Nat)) (0:Nat)) (Int.toNat (IntKind.wrap IntKind.i64 (List.getD l (Int.toNat i) (0:Int) - (1000:Int))))) []))) (vc) (vp+(1:Nat)) (IntKind.wrap IntKind.i64 (i+(1:Int))))) .bad) (.at (sB (b) (nb) (l) (List.set q (Int.toNat i) true) (m) (c) (p) (vc) (vp) (i) (List.getD l (Int.toNat i) (0:Int)) (IntKind.wrap IntKind.i64 (List.getD l (Int.toNat i) (0:Int) - (1000:Int))) ((-1:Int)) (IntKind.wrap IntKind.i64 (IntKind.wrap IntKind.i64 (List.getD l (Int.toNat i) (0:Int) - (1000:Int)) - (1:Int)))))) .bad) .bad) (bc (decide (List.getD l (Int.toNat i) (0:Int) < (0:Int))) (bc (bc (bc (decide ((0:Int)≤i)) (Nat.blt (Int.toNat i) m) false) true false) (bc (Nat.blt (Int.toNat i) (List.length q)) (bc (decide ((1000:Int) < List.getD l (Int.toNat i) (0:Int))) (bc (bc (bc (bc (bc (decide ((0:Int)≤IntKind.wrap IntKind.i64 ((0:Int) - List.getD l (Int.toNat i) (0:Int)))) (Nat.blt (Int.toNat (IntKind.wrap IntKind.i64 ((0:Int) - List.getD l (Int.toNat i) (0:Int)))) (49:Nat)) false) true false) (bc (bc (bc (Nat.blt (Nat.add (Nat.add (Nat.mul (0:Nat) (1:Nat)) (0:Nat)) (Int.toNat (IntKind.wrap IntKind.i64 ((0:Int) - List.getD l (Int.toNat i) (0:Int))))) (List.length p)) true false) true false) (bc (bc (Nat.beq vp vp) (bc (Nat.blt (Nat.add (Nat.add (Nat.mul (0:Nat) (1:Nat)) (0:Nat)) (Int.toNat (IntKind.wrap IntKind.i64 ((0:Int) - List.getD l (Int.toNat i) (0:Int))))) (List.length p)) (bc (Nat.beq (List.length (U.list (List.getD (List.getD p (Nat.add (Nat.add (Nat.mul (0:Nat) (1:Nat)) (0:Nat)) (Int.toNat (IntKind.wrap IntKind.i64 ((0:Int) - List.getD l (Int.toNat i) (0:Int))))) []) (0:Nat) (U.i (0:Int))))) (List.length (U.list (List.getD (List.getD p (Nat.add (Nat.add (Nat.mul (0:Nat) (1:Nat)) (0:Nat)) (Int.toNat (IntKind.wrap IntKind.i64 ((0:Int) - List.getD l (Int.toNat i) (0:Int))))) []) (0:Nat) (U.i (0:Int)))))) (Nat.ble (List.length (U.list (List.getD (List.getD p (Nat.add (Nat.add (Nat.mul (0:Nat) (1:Nat)) (0:Nat)) (Int.toNat (IntKind.wrap IntKind.i64 ((0:Int) - List.getD l (Int.toNat i) (0:Int))))) []) (0:Nat) (U.i (0:Int))))+List.length (List.map (fun r=>U.int (List.headD r (U.i (0:Int)))) [[U.i i]])) (65536:Nat)) false) false) false) (bc (bc (bc (decide ((0:Int)≤IntKind.wrap IntKind.i64 ((0:Int) - List.getD l (Int.toNat i) (0:Int)))) (Nat.blt (Int.toNat (IntKind.wrap IntKind.i64 ((0:Int) - List.getD l (Int.toNat i) (0:Int)))) (49:Nat)) false) true false) (bc (bc (Nat.blt (Nat.add (Nat.add (Nat.mul (0:Nat) (1:Nat)) (0:Nat)) (Int.toNat (IntKind.wrap IntKind.i64 ((0:Int) - List.getD l (Int.toNat i) (0:Int))))) (List.length p)) (bc (Nat.beq (List.length (List.map (fun r=>U.int (List.headD r (U.i (0:Int)))) (U.list (List.getD (List.getD p (Nat.add (Nat.add (Nat.mul (0:Nat) (1:Nat)) (0:Nat)) (Int.toNat (IntKind.wrap IntKind.i64 ((0:Int) - List.getD l (Int.toNat i) (0:Int))))) []) (0:Nat) (U.i (0:Int)))) ++ List.map (fun r=>U.int (List.headD r (U.i (0:Int)))) [[U.i i]])) (List.length (List.map (fun r=>U.int (List.headD r (U.i (0:Int)))) (U.list (List.getD (List.getD p (Nat.add (Nat.add (Nat.mul (0:Nat) (1:Nat)) (0:Nat)) (Int.toNat (IntKind.wrap IntKind.i64 ((0:Int) - List.getD l (Int.toNat i) (0:Int))))) []) (0:Nat) (U.i (0:Int)))) ++ List.map (fun r=>U.int (List.headD r (U.i (0:Int)))) [[U.i i]]))) (unHoleC (Nat.add (Nat.add (Nat.mul (0:Nat) (1:Nat)) (0:Nat)) (Int.toNat (IntKind.wrap IntKind.i64 ((0:Int) - List.getD l (Int.toNat i) (0:Int))))) (0:Nat) [(Nat.add (Nat.add (Nat.mul (0:Nat) (1:Nat)) (0:Nat)) (Int.toNat (IntKind.wrap IntKind.i64 ((0:Int) - List.getD l (Int.toNat i) (0:Int)))),(0:Nat))]) false) false) true false) false) false) false) false) true false) (.at (sA (b) (nb) (l) (List.set q (Int.toNat i) true) (m) (c) (List.set p (Nat.add (Nat.add (Nat.mul (0:Nat) (1:Nat)) (0:Nat)) (Int.toNat (IntKind.wrap IntKind.i64 ((0:Int) - List.getD l (Int.toNat i) (0:Int))))) (rset (0:Nat) (U.l (List.map (fun x=>[U.i x]) (List.map (fun r=>U.int (List.headD r (U.i (0:Int)))) (U.list (List.getD (List.getD p (Nat.add (Nat.add (Nat.mul (0:Nat) (1:Nat)) (0:Nat)) (Int.toNat (IntKind.wrap IntKind.i64 ((0:Int) - List.getD l (Int.toNat i) (0:Int))))) []) (0:Nat) (U.i (0:Int)))) ++ List.map (fun r=>U.int (List.headD r (U.i (0:Int)))) [[U.i i]]))) (List.getD p (Nat.add (Nat.add (Nat.mul (0:Nat) (1:Nat)) (0:Nat)) (Int.toNat (IntKind.wrap IntKind.i64 ((0:Int) - List.getD l (Int.toNat i) (0:Int))))) []))) (vc) (vp+(1:Nat)) (IntKind.wrap IntKind.i64 (i+(1:Int))))) .bad) (.at (sB (b) (nb) (l) (List.set q (Int.toNat i) true) (m) (c) (p) (vc) (vp) (i) (List.getD l (Int.toNat i) (0:Int)) (IntKind.wrap IntKind.i64 ((0:Int) - List.getD l (Int.toNat i) (0:Int))) ((-1:Int)) (IntKind.wrap IntKind.i64 (IntKind.wrap IntKind.i64 ((0:Int) - List.getD l (Int.toNat i) (0:Int)) - (1:Int)))))) .bad) .bad) (bc (bc (bc (decide ((0:Int)≤i)) (Nat.blt (Int.toNat i) m) false) true false) (bc (Nat.blt (Int.toNat i) (List.length q)) (bc (decide ((1000:Int) < List.getD l (Int.toNat i) (0:Int))) (bc (bc (bc (bc (bc (decide ((0:Int)≤List.getD l (Int.toNat i) (0:Int))) (Nat.blt (Int.toNat (List.getD l (Int.toNat i) (0:Int))) (49:Nat)) false) true false) (bc (bc (bc (Nat.blt (Nat.add (Nat.add (Nat.mul (0:Nat) (1:Nat)) (0:Nat)) (Int.toNat (List.getD l (Int.toNat i) (0:Int)))) (List.length p)) true false) true false) (bc (bc (Nat.beq vp vp) (bc (Nat.blt (Nat.add (Nat.add (Nat.mul (0:Nat) (1:Nat)) (0:Nat)) (Int.toNat (List.getD l (Int.toNat i) (0:Int)))) (List.length p)) (bc (Nat.beq (List.length (U.list (List.getD (List.getD p (Nat.add (Nat.add (Nat.mul (0:Nat) (1:Nat)) (0:Nat)) (Int.toNat (List.getD l (Int.toNat i) (0:Int)))) []) (0:Nat) (U.i (0:Int))))) (List.length (U.list (List.getD (List.getD p (Nat.add (Nat.add (Nat.mul (0:Nat) (1:Nat)) (0:Nat)) (Int.toNat (List.getD l (Int.toNat i) (0:Int)))) []) (0:Nat) (U.i (0:Int)))))) (Nat.ble (List.length (U.list (List.getD (List.getD p (Nat.add (Nat.add (Nat.mul (0:Nat) (1:Nat)) (0:Nat)) (Int.toNat (List.getD l (Int.toNat i) (0:Int)))) []) (0:Nat) (U.i (0:Int))))+List.length (List.map (fun r=>U.int (List.headD r (U.i (0:Int)))) [[U.i i]])) (65536:Nat)) false) false) false) (bc (bc (bc (decide ((0:Int)≤List.getD l (Int.toNat i) (0:Int))) (Nat.blt (Int.toNat (List.getD l (Int.toNat i) (0:Int))) (49:Nat)) false) true false) (bc (bc (Nat.blt (Nat.add (Nat.add (Nat.mul (0:Nat) (1:Nat)) (0:Nat)) (Int.toNat (List.getD l (Int.toNat i) (0:Int)))) (List.length p)) (bc (Nat.beq (List.length (List.map (fun r=>U.int (List.headD r (U.i (0:Int)))) (U.list (List.getD (List.getD p (Nat.add (Nat.add (Nat.mul (0:Nat) (1:Nat)) (0:Nat)) (Int.toNat (List.getD l (Int.toNat i) (0:Int)))) []) (0:Nat) (U.i (0:Int)))) ++ List.map (fun r=>U.int (List.headD r (U.i (0:Int)))) [[U.i i]])) (List.length (List.map (fun r=>U.int (List.headD r (U.i (0:Int)))) (U.list (List.getD (List.getD p (Nat.add (Nat.add (Nat.mul (0:Nat) (1:Nat)) (0:Nat)) (Int.toNat (List.getD l (Int.toNat i) (0:Int)))) []) (0:Nat) (U.i (0:Int)))) ++ List.map (fun r=>U.int (List.headD r (U.i (0:Int)))) [[U.i i]]))) (unHoleC (Nat.add (Nat.add (Nat.mul (0:Nat) (1:Nat)) (0:Nat)) (Int.toNat (List.getD l (Int.toNat i) (0:Int)))) (0:Nat) [(Nat.add (Nat.add (Nat.mul (0:Nat) (1:Nat)) (0:Nat)) (Int.toNat (List.getD l (Int.toNat i) (0:Int))),(0:Nat))]) false) false) true false) false) false) false) false) true false) (.at (sA (b) (nb) (l) (List.set q (Int.toNat i) true) (m) (c) (List.set p (Nat.add (Nat.add (Nat.mul (0:Nat) (1:Nat)) (0:Nat)) (Int.toNat (List.getD l (Int.toNat i) (0:Int)))) (rset (0:Nat) (U.l (List.map (fun x=>[U.i x]) (List.map (fun r=>U.int (List.headD r (U.i (0:Int)))) (U.list (List.getD (List.getD p (Nat.add (Nat.add (Nat.mul (0:Nat) (1:Nat)) (0:Nat)) (Int.toNat (List.getD l (Int.toNat i) (0:Int)))) []) (0:Nat) (U.i (0:Int)))) ++ List.map (fun r=>U.int (List.headD r (U.i (0:Int)))) [[U.i i]]))) (List.getD p (Nat.add (Nat.add (Nat.mul (0:Nat) (1:Nat)) (0:Nat)) (Int.toNat (List.getD l (Int.toNat i) (0:Int)))) []))) (vc) (vp+(1:Nat)) (IntKind.wrap IntKind.i64 (i+(1:Int))))) .bad) (.at (sB (b) (nb) (l) (List.set q (Int.toNat i) true) (m) (c) (p) (vc) (vp) (i) (List.getD l (Int.toNat i) (0:Int)) (List.getD l (Int.toNat i) (0:Int)) ((-1:Int)) (IntKind.wrap IntKind.i64 (List.getD l (Int.toNat i) (0:Int) - (1:Int)))))) .bad) .bad))) .bad) .bad) (.at (sA (b) (nb) (l) (q) (m) (c) (p) (vc) (vp) (IntKind.wrap IntKind.i64 (i+(1:Int)))))) .bad) .bad) (.done (EV.slO 2 1 (m) true) [(0,(EK.cells 75 [(EV.slO 1 1 (List.length b) (nb))] true)),(1,(EK.seq 4 (SyC.bools (b)) (nb))),(2,(EK.seq 4 (SyC.bools (q)) true))] 3)):=by kernel_rfl
theorem b_t (b:List Bool) (nb:Bool) (l:List Int) (q:List Bool) (m:Nat) (c p:List (List U)) (vc vp:Nat) (i x n e k:Int):RUN (stOf (sB b nb l q m c p vc vp i x n e k))=(bc (decide (k≤IntKind.wrap IntKind.i64 (n+(1:Int)))) (bc (bc (bc (bc (bc (bc (bc (Nat.blt (0:Nat) (List.length c)) (Nat.ble (List.length c) (65536:Nat)) false) true false) (decide (((0:Int)≤k∧k < (49:Int))∧List.length c=(49:Nat)∧List.length (PTop.facN c (Int.toNat k))≤(5000:Nat))) false) true false) (bc (bc (bc (bc (bc (Nat.blt (0:Nat) (List.length p)) (Nat.ble (List.length p) (65536:Nat)) false) true false) (decide (((0:Int)≤k∧k < (49:Int))∧List.length p=(49:Nat)∧List.length (PTop.facN p (Int.toNat k))≤(5000:Nat))) false) true false) true false) false) true false) (.at (sB (b) (nb) (l) (q) (m) (c) (p) (vc) (vp) (i) (x) (n) (if lastI (PTop.facN p (Int.toNat k)) > if lastI (PTop.facN c (Int.toNat k)) > e then lastI (PTop.facN c (Int.toNat k)) else e then lastI (PTop.facN p (Int.toNat k)) else if lastI (PTop.facN c (Int.toNat k)) > e then lastI (PTop.facN c (Int.toNat k)) else e) (IntKind.wrap IntKind.i64 (k+(1:Int))))) .bad) (bc (decide ((0:Int)≤e)) (bc (bc (bc (decide ((0:Int)≤e)) (Nat.blt (Int.toNat e) (List.length l)) false) true false) (bc (bc (Nat.blt (Int.toNat e) (List.length l)) true false) (bc (List.getD l (Int.toNat e) (0:Int) == IntKind.wrap IntKind.i64 ((0:Int) - x)) (bc (bc (bc (bc (bc (decide ((0:Int)≤i)) (Nat.blt (Int.toNat i) m) false) true false) (bc (Nat.blt (Int.toNat i) (List.length q)) (bc (bc (bc (decide ((0:Int)≤e)) (Nat.blt (Int.toNat e) m) false) true false) (bc (Nat.blt (Int.toNat e) (List.length (List.set q (Int.toNat i) false))) true false) false) false) false) (bc (bc (bc (bc (Nat.beq m m) (eqN true true) false) true false) true false) true false) false) (bc (bc (bc (bc (bc (decide ((0:Int)≤n)) (Nat.blt (Int.toNat n) (49:Nat)) false) true false) (bc (bc (bc (Nat.blt (Nat.add (Nat.add (Nat.mul (0:Nat) (1:Nat)) (0:Nat)) (Int.toNat n)) (List.length c)) true false) true false) (bc (bc (bc (decide ((0:Int)≤n)) (Nat.blt (Int.toNat n) (49:Nat)) false) true false) (bc (bc (bc (Nat.blt (Nat.add (Nat.add (Nat.mul (0:Nat) (1:Nat)) (0:Nat)) (Int.toNat n)) (List.length c)) true false) true false) (bc (bc (bc (decide ((0:Int)≤IntKind.wrap IntKind.i64 (Int.ofNat (List.length (U.list (List.getD (List.getD c (Nat.add (Nat.add (Nat.mul (0:Nat) (1:Nat)) (0:Nat)) (Int.toNat n)) []) (0:Nat) (U.i (0:Int))))) - (1:Int)))) (decide (IntKind.wrap IntKind.i64 (Int.ofNat (List.length (U.list (List.getD (List.getD c (Nat.add (Nat.add (Nat.mul (0:Nat) (1:Nat)) (0:Nat)) (Int.toNat n)) []) (0:Nat) (U.i (0:Int))))) - (1:Int))≤Int.ofNat (List.length (U.list (List.getD (List.getD c (Nat.add (Nat.add (Nat.mul (0:Nat) (1:Nat)) (0:Nat)) (Int.toNat n)) []) (0:Nat) (U.i (0:Int))))))) false) true false) (bc (bc (bc (decide ((0:Int)≤n)) (Nat.blt (Int.toNat n) (49:Nat)) false) true false) (bc (bc (Nat.beq vc vc) (bc (bc (Nat.beq (Nat.add (Nat.add (Nat.mul (0:Nat) (1:Nat)) (0:Nat)) (Int.toNat n)) (Nat.add (Nat.add (Nat.mul (0:Nat) (1:Nat)) (0:Nat)) (Int.toNat n))) (Nat.beq (0:Nat) (0:Nat)) false) (bc (Nat.blt (Nat.add (Nat.add (Nat.mul (0:Nat) (1:Nat)) (0:Nat)) (Int.toNat n)) (List.length c)) (Nat.ble (Int.toNat (IntKind.wrap IntKind.i64 (Int.ofNat (List.length (U.list (List.getD (List.getD c (Nat.add (Nat.add (Nat.mul (0:Nat) (1:Nat)) (0:Nat)) (Int.toNat n)) []) (0:Nat) (U.i (0:Int))))) - (1:Int)))) (List.length (U.list (List.getD (List.getD c (Nat.add (Nat.add (Nat.mul (0:Nat) (1:Nat)) (0:Nat)) (Int.toNat n)) []) (0:Nat) (U.i (0:Int)))))) false) false) false) true false) false) false) false) false) false) false) true false) (.at (sA (b) (nb) (l) (List.set (List.set q (Int.toNat i) false) (Int.toNat e) false) (m) (List.set c (Nat.add (Nat.add (Nat.mul (0:Nat) (1:Nat)) (0:Nat)) (Int.toNat n)) (rset (0:Nat) (U.l (List.take (Int.toNat (IntKind.wrap IntKind.i64 (Int.ofNat (List.length (U.list (List.getD (List.getD c (Nat.add (Nat.add (Nat.mul (0:Nat) (1:Nat)) (0:Nat)) (Int.toNat n)) []) (0:Nat) (U.i (0:Int))))) - (1:Int)))) (U.list (List.getD (List.getD c (Nat.add (Nat.add (Nat.mul (0:Nat) (1:Nat)) (0:Nat)) (Int.toNat n)) []) (0:Nat) (U.i (0:Int)))))) (List.getD c (Nat.add (Nat.add (Nat.mul (0:Nat) (1:Nat)) (0:Nat)) (Int.toNat n)) []))) (p) (vc) (vp) (IntKind.wrap IntKind.i64 (i+(1:Int))))) .bad) .bad) (bc (bc (bc (bc (bc (decide ((0:Int)≤n)) (Nat.blt (Int.toNat n) (49:Nat)) false) true false) (bc (bc (bc (Nat.blt (Nat.add (Nat.add (Nat.mul (0:Nat) (1:Nat)) (0:Nat)) (Int.toNat n)) (List.length c)) true false) true false) (bc (bc (Nat.beq vc vc) (bc (Nat.blt (Nat.add (Nat.add (Nat.mul (0:Nat) (1:Nat)) (0:Nat)) (Int.toNat n)) (List.length c)) (bc (Nat.beq (List.length (U.list (List.getD (List.getD c (Nat.add (Nat.add (Nat.mul (0:Nat) (1:Nat)) (0:Nat)) (Int.toNat n)) []) (0:Nat) (U.i (0:Int))))) (List.length (U.list (List.getD (List.getD c (Nat.add (Nat.add (Nat.mul (0:Nat) (1:Nat)) (0:Nat)) (Int.toNat n)) []) (0:Nat) (U.i (0:Int)))))) (Nat.ble (List.length (U.list (List.getD (List.getD c (Nat.add (Nat.add (Nat.mul (0:Nat) (1:Nat)) (0:Nat)) (Int.toNat n)) []) (0:Nat) (U.i (0:Int))))+List.length (List.map (fun r=>U.int (List.headD r (U.i (0:Int)))) [[U.i i]])) (65536:Nat)) false) false) false) (bc (bc (bc (decide ((0:Int)≤n)) (Nat.blt (Int.toNat n) (49:Nat)) false) true false) (bc (bc (Nat.blt (Nat.add (Nat.add (Nat.mul (0:Nat) (1:Nat)) (0:Nat)) (Int.toNat n)) (List.length c)) (bc (Nat.beq (List.length (List.map (fun r=>U.int (List.headD r (U.i (0:Int)))) (U.list (List.getD (List.getD c (Nat.add (Nat.add (Nat.mul (0:Nat) (1:Nat)) (0:Nat)) (Int.toNat n)) []) (0:Nat) (U.i (0:Int)))) ++ List.map (fun r=>U.int (List.headD r (U.i (0:Int)))) [[U.i i]])) (List.length (List.map (fun r=>U.int (List.headD r (U.i (0:Int)))) (U.list (List.getD (List.getD c (Nat.add (Nat.add (Nat.mul (0:Nat) (1:Nat)) (0:Nat)) (Int.toNat n)) []) (0:Nat) (U.i (0:Int)))) ++ List.map (fun r=>U.int (List.headD r (U.i (0:Int)))) [[U.i i]]))) (unHoleC (Nat.add (Nat.add (Nat.mul (0:Nat) (1:Nat)) (0:Nat)) (Int.toNat n)) (0:Nat) [(Nat.add (Nat.add (Nat.mul (0:Nat) (1:Nat)) (0:Nat)) (Int.toNat n),(0:Nat))]) false) false) true false) false) false) false) false) true false) (.at (sA (b) (nb) (l) (q) (m) (List.set c (Nat.add (Nat.add (Nat.mul (0:Nat) (1:Nat)) (0:Nat)) (Int.toNat n)) (rset (0:Nat) (U.l (List.map (fun x=>[U.i x]) (List.map (fun r=>U.int (List.headD r (U.i (0:Int)))) (U.list (List.getD (List.getD c (Nat.add (Nat.add (Nat.mul (0:Nat) (1:Nat)) (0:Nat)) (Int.toNat n)) []) (0:Nat) (U.i (0:Int)))) ++ List.map (fun r=>U.int (List.headD r (U.i (0:Int)))) [[U.i i]]))) (List.getD c (Nat.add (Nat.add (Nat.mul (0:Nat) (1:Nat)) (0:Nat)) (Int.toNat n)) []))) (p) (vc+(1:Nat)) (vp) (IntKind.wrap IntKind.i64 (i+(1:Int))))) .bad)) .bad) .bad) (bc (bc (bc (bc (bc (decide ((0:Int)≤n)) (Nat.blt (Int.toNat n) (49:Nat)) false) true false) (bc (bc (bc (Nat.blt (Nat.add (Nat.add (Nat.mul (0:Nat) (1:Nat)) (0:Nat)) (Int.toNat n)) (List.length c)) true false) true false) (bc (bc (Nat.beq vc vc) (bc (Nat.blt (Nat.add (Nat.add (Nat.mul (0:Nat) (1:Nat)) (0:Nat)) (Int.toNat n)) (List.length c)) (bc (Nat.beq (List.length (U.list (List.getD (List.getD c (Nat.add (Nat.add (Nat.mul (0:Nat) (1:Nat)) (0:Nat)) (Int.toNat n)) []) (0:Nat) (U.i (0:Int))))) (List.length (U.list (List.getD (List.getD c (Nat.add (Nat.add (Nat.mul (0:Nat) (1:Nat)) (0:Nat)) (Int.toNat n)) []) (0:Nat) (U.i (0:Int)))))) (Nat.ble (List.length (U.list (List.getD (List.getD c (Nat.add (Nat.add (Nat.mul (0:Nat) (1:Nat)) (0:Nat)) (Int.toNat n)) []) (0:Nat) (U.i (0:Int))))+List.length (List.map (fun r=>U.int (List.headD r (U.i (0:Int)))) [[U.i i]])) (65536:Nat)) false) false) false) (bc (bc (bc (decide ((0:Int)≤n)) (Nat.blt (Int.toNat n) (49:Nat)) false) true false) (bc (bc (Nat.blt (Nat.add (Nat.add (Nat.mul (0:Nat) (1:Nat)) (0:Nat)) (Int.toNat n)) (List.length c)) (bc (Nat.beq (List.length (List.map (fun r=>U.int (List.headD r (U.i (0:Int)))) (U.list (List.getD (List.getD c (Nat.add (Nat.add (Nat.mul (0:Nat) (1:Nat)) (0:Nat)) (Int.toNat n)) []) (0:Nat) (U.i (0:Int)))) ++ List.map (fun r=>U.int (List.headD r (U.i (0:Int)))) [[U.i i]])) (List.length (List.map (fun r=>U.int (List.headD r (U.i (0:Int)))) (U.list (List.getD (List.getD c (Nat.add (Nat.add (Nat.mul (0:Nat) (1:Nat)) (0:Nat)) (Int.toNat n)) []) (0:Nat) (U.i (0:Int)))) ++ List.map (fun r=>U.int (List.headD r (U.i (0:Int)))) [[U.i i]]))) (unHoleC (Nat.add (Nat.add (Nat.mul (0:Nat) (1:Nat)) (0:Nat)) (Int.toNat n)) (0:Nat) [(Nat.add (Nat.add (Nat.mul (0:Nat) (1:Nat)) (0:Nat)) (Int.toNat n),(0:Nat))]) false) false) true false) false) false) false) false) true false) (.at (sA (b) (nb) (l) (q) (m) (List.set c (Nat.add (Nat.add (Nat.mul (0:Nat) (1:Nat)) (0:Nat)) (Int.toNat n)) (rset (0:Nat) (U.l (List.map (fun x=>[U.i x]) (List.map (fun r=>U.int (List.headD r (U.i (0:Int)))) (U.list (List.getD (List.getD c (Nat.add (Nat.add (Nat.mul (0:Nat) (1:Nat)) (0:Nat)) (Int.toNat n)) []) (0:Nat) (U.i (0:Int)))) ++ List.map (fun r=>U.int (List.headD r (U.i (0:Int)))) [[U.i i]]))) (List.getD c (Nat.add (Nat.add (Nat.mul (0:Nat) (1:Nat)) (0:Nat)) (Int.toNat n)) []))) (p) (vc+(1:Nat)) (vp) (IntKind.wrap IntKind.i64 (i+(1:Int))))) .bad))):=by kernel_rfl
end PTgB
end Go.Proofs.Ytfffbioafhppiaa.Ev
namespace Go.Proofs.Ytfffbioafhppiaa.Ev
open Go.Proofs

noncomputable def stk (C:Nat→List Int):List (List U):=(List.range 49).map fun a=>[U.l ((C a).map fun x=>[U.i x])]
theorem stk_len (C:Nat→List Int):(stk C).length=49:=by unfold stk;rw [List.length_map,List.length_range]
theorem stk_row (C:Nat→List Int) {k:Nat} (hk:k < 49):(stk C).getD k []=[U.l ((C k).map fun x=>[U.i x])]:=by
 unfold stk;rw [List.getD_eq_getElem?_getD,List.getElem?_map,List.getElem?_range hk];rfl
theorem stk_list (C:Nat→List Int) {k:Nat} (hk:k < 49):U.list (((stk C).getD k []).getD 0 (U.i 0))=(C k).map fun x=>[U.i x]:=by rw [stk_row C hk];rfl
theorem ints_map (v:List Int):List.map (fun r=>U.int (List.headD r (U.i 0))) (v.map fun x=>[U.i x])=v:=by
 rw [List.map_map];exact (List.map_congr_left fun x _=>rfl).trans (List.map_id v)
theorem stk_fac (C:Nat→List Int) {k:Nat} (hk:k < 49):PTop.facN (stk C) k=C k:=by
 unfold PTop.facN;rw [stk_list C hk,ints_map]
theorem stk_rset {α:Type} {n:Nat} {g g':Nat→α} {x:Nat} {v:α} (h1:g' x=v) (h2:∀ a,a≠x→g' a=g a):((List.range n).map g).set x v=(List.range n).map g':=by
 apply List.ext_getElem (by rw [List.length_set,List.length_map,List.length_map]);intro i hi hi2;rw [List.getElem_set,List.getElem_map];split
 ·rename_i e;rw [← h1,List.getElem_map,List.getElem_range,e]
 ·rename_i e;rw [List.getElem_map,List.getElem_range,h2 i (fun q=>e q.symm)]
theorem stk_set (C:Nat→List Int) {k:Nat} (hk:k < 49) (v:List Int):(stk C).set k (rset 0 (U.l (v.map fun x=>[U.i x])) ((stk C).getD k []))=stk (updC C k v):=by
 rw [stk_row C hk];unfold stk;refine stk_rset ?_ fun a ha=>?_
 ·unfold updC;rw [if_pos rfl];rfl
 ·unfold updC;rw [if_neg ha]
theorem stk_nil:List.replicate 49 [U.l []]=stk fun _=>[]:=by
 unfold stk;show _=List.map (fun _=>[U.l []]) (List.range 49);rw [List.map_const',List.length_range]
theorem z00 (n:Nat):Nat.add (Nat.add (Nat.mul 0 1) 0) n=n:=by show 0 * 1+0+n=n;omega
theorem unh1 (n:Nat):unHoleC n 0 [(n,0)]=true:=Nat.beq_refl n
theorem m1i (i:Int):List.map (fun r=>U.int (List.headD r (U.i 0))) [[U.i i]]=[i]:=rfl
theorem mx_eq (e a b:Int):(if b > if a > e then a else e then b else if a > e then a else e)=mxL e a b:=rfl
namespace PTgA
theorem pin {t:Int} {l:List Int} {q:List Bool} {m:Nat} {c:List (List U)} {P:Nat→List Int} {vc vp i n:Nat}  (hi:i < l.length) (hl:l.length≤3000) (hq:q.length=m) (him:i < m) (hx:l.getD i 0=1000+(n:Int)) (hn:0 < n∧n < 49) (hp:(P n).length≤3000):RUN (stOf (sA t l q m c (stk P) vc vp i)) = .at (sA t l (q.set i true) m c (stk (updC P n (P n ++ [(i:Int)]))) vc (vp+1) (i+1:Nat)):=by
 have e0:Int.toNat (i:Int)=i:=rfl;have e1:Int.toNat (n:Int)=n:=rfl;have w:IntKind.i64.wrap (1000+(n:Int) - 1000)=(n:Int):=by rw [wrap_in _ (by omega) (by omega)];omega
 rw [a_t,e0,hx,w,e1,z00 n,stk_list P hn.2,ints_map,m1i,stk_set P hn.2,stk_len,unh1,hq,List.length_map];have lp:((P n).map fun x=>[U.i x]).length=(P n).length:=List.length_map ..;simp (disch:=omega) only [Nat.add_eq,eqSy_self,eqN_self,bc_same,List.length_cons,ofn,wrap_in,dt,df,bltD,bltN,ble_of,bleN,beqD,bc_t,bc_f,nn_ok,Nat.zero_add,to_nat,Int.zero_add,Int.sub_zero,Int.sub_self,Int.cast_ofNat_Int,Int.natCast_zero,Int.toNat_zero,List.take_zero,List.nil_append,List.length_append,List.length_nil];rfl
theorem crs {t:Int} {l:List Int} {q:List Bool} {m:Nat} {c p:List (List U)} {vc vp i n:Nat}  (hi:i < l.length) (hl:l.length≤3000) (hq:q.length=m) (him:i < m) {x:Int} (hx:l.getD i 0=x) (hxn:x=n∨x = -(n:Int)) (hn:0 < n∧n < 48):RUN (stOf (sA t l q m c p vc vp i)) = .at (sB t l (q.set i true) m c p vc vp i x n (-1) (n - 1:Nat)):=by
 have e0:Int.toNat (i:Int)=i:=rfl;have w2:IntKind.i64.wrap ((n:Int) - 1)=((n - 1:Nat):Int):=by rw [wrap_in _ (by omega) (by omega)];omega
 rw [a_t,e0,hx,hq];rcases hxn with h | h
 ·subst h;rw [w2];simp (disch:=omega) only [Nat.add_eq,eqSy_self,eqN_self,bc_same,List.length_cons,ofn,wrap_in,dt,df,bltD,bltN,ble_of,bleN,beqD,bc_t,bc_f,nn_ok,Nat.zero_add,to_nat,Int.zero_add,Int.sub_zero,Int.sub_self,Int.cast_ofNat_Int,Int.natCast_zero,Int.toNat_zero,List.take_zero,List.nil_append,List.length_append,List.length_nil]
 ·subst h;have w:IntKind.i64.wrap (0 - -(n:Int))=(n:Int):=by rw [wrap_in _ (by omega) (by omega)];omega
  rw [w,w2];simp (disch:=omega) only [Nat.add_eq,eqSy_self,eqN_self,bc_same,List.length_cons,ofn,wrap_in,dt,df,bltD,bltN,ble_of,bleN,beqD,bc_t,bc_f,nn_ok,Nat.zero_add,to_nat,Int.zero_add,Int.sub_zero,Int.sub_self,Int.cast_ofNat_Int,Int.natCast_zero,Int.toNat_zero,List.take_zero,List.nil_append,List.length_append,List.length_nil]
theorem inn {t:Int} {l:List Int} {q:List Bool} {m:Nat} {C P:Nat→List Int} {vc vp:Nat} {i x e:Int} {n k:Nat} (hk:k≤n+1) (hn:n < 48) (hC:(C k).length≤3000) (hP:(P k).length≤3000):RUN (stOf (sB t l q m (stk C) (stk P) vc vp i x n e k)) = .at (sB t l q m (stk C) (stk P) vc vp i x n (mxL e (lastI (C k)) (lastI (P k))) (k+1:Nat)):=by
 have e0:Int.toNat (k:Int)=k:=rfl;have hk2:k < 49:=by omega
 have w:IntKind.i64.wrap ((n:Int)+1)=((n+1:Nat):Int):=by rw [wrap_in _ (by omega) (by omega)];rfl
 have w2:IntKind.i64.wrap ((k:Int)+1)=((k+1:Nat):Int):=by rw [wrap_in _ (by omega) (by omega)];rfl
 rw [b_t,w,w2,e0,stk_len,stk_len,stk_fac C hk2,stk_fac P hk2,mx_eq,dt (show (k:Int)≤((n+1:Nat):Int) by omega),dt (show (0≤(k:Int)∧(k:Int) < 49)∧49=49∧(C k).length≤5000 from ⟨by omega,rfl,by omega⟩),dt (show (0≤(k:Int)∧(k:Int) < 49)∧49=49∧(P k).length≤5000 from ⟨by omega,rfl,by omega⟩)]
 rfl
theorem keep {t:Int} {l:List Int} {q:List Bool} {m:Nat} {C P:Nat→List Int} {vc vp i n:Nat} {x e:Int} (hi:i < 3000) (hl:l.length≤3000) (hn:0 < n∧n < 48) (hC:(C n).length≤3000) (hx:-1000≤x∧x≤1000) (he:0≤e→e.toNat < l.length) (hno:¬ (0≤e∧l.getD e.toNat 0 = -x)):RUN (stOf (sB t l q m (stk C) (stk P) vc vp i x n e (n+1+1:Nat))) = .at (sA t l q m (stk (updC C n (C n ++ [(i:Int)]))) (stk P) (vc+1) vp (i+1:Nat)):=by
 have e1:Int.toNat (n:Int)=n:=rfl;have hn2:n < 49:=by omega
 have w:IntKind.i64.wrap ((n:Int)+1)=((n+1:Nat):Int):=by rw [wrap_in _ (by omega) (by omega)];rfl
 have w3:IntKind.i64.wrap (0 - x) = -x:=by rw [wrap_in _ (by omega) (by omega)];omega
 have lp:((C n).map fun x=>[U.i x]).length=(C n).length:=List.length_map ..;rw [b_t,w,w3,e1,z00 n,stk_list C hn2,ints_map,m1i,stk_set C hn2,stk_len,unh1,df (show ¬ ((n+1+1:Nat):Int)≤((n+1:Nat):Int) by omega),bc_f]
 by_cases h0:0≤e
 ·have h1:l.getD e.toNat 0 ≠ -x:=fun q=>hno ⟨h0,q⟩;have h2:=he h0;rw [eqF h1,dt h0];simp (disch:=omega) only [Nat.add_eq,eqSy_self,eqN_self,bc_same,List.length_cons,ofn,wrap_in,dt,df,bltD,bltN,ble_of,bleN,beqD,bc_t,bc_f,nn_ok,Nat.zero_add,to_nat,Int.zero_add,Int.sub_zero,Int.sub_self,Int.cast_ofNat_Int,Int.natCast_zero,Int.toNat_zero,List.take_zero,List.nil_append,List.length_append,List.length_nil,lp];rfl
 ·rw [df h0];simp (disch:=omega) only [Nat.add_eq,eqSy_self,eqN_self,bc_same,List.length_cons,ofn,wrap_in,dt,df,bltD,bltN,ble_of,bleN,beqD,bc_t,bc_f,nn_ok,Nat.zero_add,to_nat,Int.zero_add,Int.sub_zero,Int.sub_self,Int.cast_ofNat_Int,Int.natCast_zero,Int.toNat_zero,List.take_zero,List.nil_append,List.length_append,List.length_nil,lp];rfl
theorem rem {t:Int} {l:List Int} {q:List Bool} {m:Nat} {C P:Nat→List Int} {vc vp i n:Nat} {x e:Int} (hi:i < m) (hm:m≤3000) (hq:q.length=m) (hl:l.length=m) (hn:0 < n∧n < 48) (hC:0 < (C n).length∧(C n).length≤3000) (hx:-1000≤x∧x≤1000) (h0:0≤e) (he:e.toNat < m) (hno:l.getD e.toNat 0 = -x):RUN (stOf (sB t l q m (stk C) (stk P) vc vp i x n e (n+1+1:Nat))) = .at (sA t l ((q.set i false).set e.toNat false) m (stk (updC C n ((C n).take ((C n).length - 1)))) (stk P) vc vp (i+1:Nat)):=by
 have e1:Int.toNat (n:Int)=n:=rfl;have e2:Int.toNat (i:Int)=i:=rfl;have hn2:n < 49:=by omega
 have w:IntKind.i64.wrap ((n:Int)+1)=((n+1:Nat):Int):=by rw [wrap_in _ (by omega) (by omega)];rfl
 have w3:IntKind.i64.wrap (0 - x) = -x:=by rw [wrap_in _ (by omega) (by omega)];omega
 have lp:((C n).map fun x=>[U.i x]).length=(C n).length:=List.length_map ..;have w4:IntKind.i64.wrap (Int.ofNat (C n).length - 1)=(((C n).length - 1:Nat):Int):=by rw [ofn,wrap_in _ (by omega) (by omega)];omega
 have e3:Int.toNat ((((C n).length - 1:Nat)):Int)=(C n).length - 1:=rfl;have e4:List.take ((C n).length - 1) ((C n).map fun x=>[U.i x])=((C n).take ((C n).length - 1)).map fun x=>[U.i x]:=List.map_take.symm;have lq:(q.set i false).length=m:=by rw [List.length_set,hq]
 rw [b_t,w,w3,e1,e2,z00 n,stk_list C hn2,lp,w4,e3,e4,stk_set C hn2,stk_len,df (show ¬ ((n+1+1:Nat):Int)≤((n+1:Nat):Int) by omega),bc_f,hno,dt h0,show (-x == -x)=true by simp,hq,lq,hl];simp (disch:=omega) only [Nat.add_eq,eqSy_self,eqN_self,bc_same,List.length_cons,ofn,wrap_in,dt,df,bltD,bltN,ble_of,bleN,beqD,bc_t,bc_f,nn_ok,Nat.zero_add,to_nat,Int.zero_add,Int.sub_zero,Int.sub_self,Int.cast_ofNat_Int,Int.natCast_zero,Int.toNat_zero,List.take_zero,List.nil_append,List.length_append,List.length_nil];rfl

theorem round {t:Int} {l:List Int} {i:Nat} {out:List Nat} {q:List Bool} {C P:Nat→List Int} {vc vp:Nat}  (h:RelT l i l.length out q C P) (hi:i < l.length) (hl:l.length≤3000) (hx:LetOk (l.getD i 0)) {z:EV} {K:List (Nat × EK)} {n':Nat}
  (hz:∀ q' C' P' vc' vp',RelT l (i+1) l.length (outS l out i) q' C' P'→EndM 2 106 ctTp (stOf (sA t l q' l.length (stk C') (stk P') vc' vp' (i+1:Nat))) z K n'):EndM 2 106 ctTp (stOf (sA t l q l.length (stk C) (stk P) vc vp i)) z K n':=by
 have hcl:=h.cl;have hpl:=h.pl
 by_cases hp:1000 < l.getD i 0
 ·obtain ⟨n,hn⟩:=Int.eq_ofNat_of_zero_le (show 0≤l.getD i 0 - 1000 by omega);have hx1:isPn (l.getD i 0)=true:=decide_eq_true hp;have hx2:numL (l.getD i 0)=n:=by unfold numL;rw [if_pos hp,hn]
  have hb3:0 < n∧n < 49:=by unfold LetOk at hx;omega
  have:=hpl n;exact .at ctTp_ok (pin hi hl h.ql hi (by omega) hb3 (by omega)) (hz _ _ _ _ _ (h.pin hi hx1 hx2))
 ·have hx1:isPn (l.getD i 0)=false:=decide_eq_false hp;have hx3:¬ l.getD i 0=0:=by unfold LetOk at hx;omega
  have hx4:-48 < l.getD i 0∧l.getD i 0 < 48:=by unfold LetOk at hx;omega
  have hx5:numL (l.getD i 0)=((l.getD i 0).natAbs:Nat):=by unfold numL;rw [if_neg hp];split <;> omega
  have hxn:l.getD i 0=((l.getD i 0).natAbs:Nat)∨l.getD i 0 = -(((l.getD i 0).natAbs:Nat):Int):=by omega
  have hb3:0 < (l.getD i 0).natAbs∧(l.getD i 0).natAbs < 48:=by omega
  have ht:=h.top hx1 hx5 hb3.1;have h1:=crs (c:=stk C) (p:=stk P) (vc:=vc) (vp:=vp) (t:=t) hi hl h.ql hi rfl hxn hb3;generalize hn:(l.getD i 0).natAbs=n at *;have c1:=hcl (n - 1);have c2:=hcl n;have c3:=hcl (n+1);have p1:=hpl (n - 1);have p2:=hpl n;have p3:=hpl (n+1);have i1:=inn (t:=t) (l:=l) (q:=q.set i true) (m:=l.length) (C:=C) (P:=P) (vc:=vc) (vp:=vp) (i:=i) (x:=l.getD i 0) (e:=-1) (n:=n) (k:=n - 1) (by omega) (by omega) (by omega) (by omega);rw [show n - 1+1=n by omega] at i1
  have i2:=inn (t:=t) (l:=l) (q:=q.set i true) (m:=l.length) (C:=C) (P:=P) (vc:=vc) (vp:=vp) (i:=i) (x:=l.getD i 0) (e:=mxL (-1) (lastI (C (n - 1))) (lastI (P (n - 1)))) (n:=n) (k:=n) (by omega) (by omega) (by omega) (by omega);have i3:=inn (t:=t) (l:=l) (q:=q.set i true) (m:=l.length) (C:=C) (P:=P) (vc:=vc) (vp:=vp) (i:=i) (x:=l.getD i 0) (e:=mxL (mxL (-1) (lastI (C (n - 1))) (lastI (P (n - 1)))) (lastI (C n)) (lastI (P n))) (n:=n) (k:=n+1) (by omega) (by omega) (by omega) (by omega)
  rw [show mxL (mxL (mxL (-1) (lastI (C (n - 1))) (lastI (P (n - 1)))) (lastI (C n)) (lastI (P n))) (lastI (C (n+1))) (lastI (P (n+1)))=tpO l out (l.getD i 0) from ht] at i3
  refine .at ctTp_ok h1 (.at ctTp_ok i1 (.at ctTp_ok i2 (.at ctTp_ok i3 ?_)))
  by_cases hr:0≤tpO l out (l.getD i 0)∧l.getD (tpO l out (l.getD i 0)).toNat 0 = -(l.getD i 0)
  ·obtain ⟨r1,r2,r3⟩:=h.rem hi hx1 (by omega) hx5 hr.1 hr.2;exact .at ctTp_ok (rem hi hl (by rw [List.length_set];exact h.ql) rfl hb3 ⟨r1,by omega⟩ (by omega) hr.1 (by omega) hr.2) (hz _ _ _ _ _ r3)
  ·exact .at ctTp_ok (keep (by omega) hl hb3 (by omega) (by omega) (fun g=>by have:=h.eLt g;omega) hr) (hz _ _ _ _ _ (h.app hi hx1 hx5 hr))
theorem loop {t:Int} {l:List Int} (hl:l.length≤3000) (hx:∀ x,x ∈ l→LetOk x):∀ (k i:Nat) (out:List Nat) (q:List Bool) (C P:Nat→List Int) (vc vp:Nat),i+k=l.length→RelT l i l.length out q C P→EndM 2 106 ctTp (stOf (sA t l q l.length (stk C) (stk P) vc vp i)) (.slO 2 1 l.length true) (K0 t l ++ [(2,.seq 4 (.bools (mrk l.length ((List.range' i k).foldl (outS l) out))) true)]) 3
 | 0,i,out,q,C,P,vc,vp,h,hr=>by
  have h1:=a_t t l q l.length (stk C) (stk P) vc vp i;rw [df (show ¬ (i:Int) < Int.ofNat l.length by rw [ofn];omega),bc_f,hr.mrk] at h1;rw [hr.mrk];exact .done h1
 | k+1,i,out,q,C,P,vc,vp,h,hr=>by
  refine round hr (by omega) hl (hx _ (by rw [getD_at (show i < l.length by omega)];exact List.getElem_mem _)) fun q' C' P' vc' vp' hr'=>?_;exact loop hl hx k (i+1) _ q' C' P' vc' vp' (by omega) hr'
theorem ends {t:Int} {l:List Int} (hl:l.length≤3000) (hx:∀ x,x ∈ l→LetOk x):EndM 2 106 ctTp (st0m 106 [il l,.fn 107 [.ptr 0 0]] (K0 t l) 2) (.slO 2 1 l.length true) (K0 t l ++ [(2,.seq 4 (.bools (mrk l.length (tigL l (List.range l.length)))) true)]) 3:=by
 have h:=in_t t l;have e:Int.toNat (Int.ofNat l.length)=l.length:=rfl;rw [e,dt (show Int.ofNat l.length≤Int.ofNat l.length from Int.le_refl _),dt (show Int.ofNat l.length≤65536 by rw [ofn];omega),bc_t,bc_t,List.length_replicate,stk_nil] at h
 have h2:=loop (t:=t) hl hx l.length 0 [] _ _ _ 0 0 (by omega) (RelT.zero l l.length);rw [← List.range_eq_range'] at h2;exact .at ctTp_ok h h2
end PTgA
namespace PTgB
theorem pin {b:List Bool} {nb:Bool} {l:List Int} {q:List Bool} {m:Nat} {c:List (List U)} {P:Nat→List Int} {vc vp i n:Nat} (hb:b.getD i false=true) (hb2:b.length=l.length) (hi:i < l.length) (hl:l.length≤3000) (hq:q.length=m) (him:i < m) (hx:l.getD i 0=1000+(n:Int)) (hn:0 < n∧n < 49) (hp:(P n).length≤3000):RUN (stOf (sA b nb l q m c (stk P) vc vp i)) = .at (sA b nb l (q.set i true) m c (stk (updC P n (P n ++ [(i:Int)]))) vc (vp+1) (i+1:Nat)):=by
 have e0:Int.toNat (i:Int)=i:=rfl;have e1:Int.toNat (n:Int)=n:=rfl;have w:IntKind.i64.wrap (1000+(n:Int) - 1000)=(n:Int):=by rw [wrap_in _ (by omega) (by omega)];omega
 rw [a_t,e0,hx,w,e1,z00 n,stk_list P hn.2,ints_map,m1i,stk_set P hn.2,stk_len,unh1,hq,List.length_map];have lp:((P n).map fun x=>[U.i x]).length=(P n).length:=List.length_map ..;simp (disch:=omega) only [Nat.add_eq,eqSy_self,eqN_self,bc_same,List.length_cons,ofn,wrap_in,dt,df,bltD,bltN,ble_of,bleN,beqD,bc_t,bc_f,nn_ok,Nat.zero_add,to_nat,Int.zero_add,Int.sub_zero,Int.sub_self,Int.cast_ofNat_Int,Int.natCast_zero,Int.toNat_zero,List.take_zero,List.nil_append,List.length_append,List.length_nil,hb,hb2];rfl
theorem crs {b:List Bool} {nb:Bool} {l:List Int} {q:List Bool} {m:Nat} {c p:List (List U)} {vc vp i n:Nat} (hb:b.getD i false=true) (hb2:b.length=l.length) (hi:i < l.length) (hl:l.length≤3000) (hq:q.length=m) (him:i < m) {x:Int} (hx:l.getD i 0=x) (hxn:x=n∨x = -(n:Int)) (hn:0 < n∧n < 48):RUN (stOf (sA b nb l q m c p vc vp i)) = .at (sB b nb l (q.set i true) m c p vc vp i x n (-1) (n - 1:Nat)):=by
 have e0:Int.toNat (i:Int)=i:=rfl;have w2:IntKind.i64.wrap ((n:Int) - 1)=((n - 1:Nat):Int):=by rw [wrap_in _ (by omega) (by omega)];omega
 rw [a_t,e0,hx,hq];rcases hxn with h | h
 ·subst h;rw [w2];simp (disch:=omega) only [Nat.add_eq,eqSy_self,eqN_self,bc_same,List.length_cons,ofn,wrap_in,dt,df,bltD,bltN,ble_of,bleN,beqD,bc_t,bc_f,nn_ok,Nat.zero_add,to_nat,Int.zero_add,Int.sub_zero,Int.sub_self,Int.cast_ofNat_Int,Int.natCast_zero,Int.toNat_zero,List.take_zero,List.nil_append,List.length_append,List.length_nil,hb,hb2]
 ·subst h;have w:IntKind.i64.wrap (0 - -(n:Int))=(n:Int):=by rw [wrap_in _ (by omega) (by omega)];omega
  rw [w,w2];simp (disch:=omega) only [Nat.add_eq,eqSy_self,eqN_self,bc_same,List.length_cons,ofn,wrap_in,dt,df,bltD,bltN,ble_of,bleN,beqD,bc_t,bc_f,nn_ok,Nat.zero_add,to_nat,Int.zero_add,Int.sub_zero,Int.sub_self,Int.cast_ofNat_Int,Int.natCast_zero,Int.toNat_zero,List.take_zero,List.nil_append,List.length_append,List.length_nil,hb,hb2]
theorem inn {b:List Bool} {nb:Bool} {l:List Int} {q:List Bool} {m:Nat} {C P:Nat→List Int} {vc vp:Nat} {i x e:Int} {n k:Nat} (hk:k≤n+1) (hn:n < 48) (hC:(C k).length≤3000) (hP:(P k).length≤3000):RUN (stOf (sB b nb l q m (stk C) (stk P) vc vp i x n e k)) = .at (sB b nb l q m (stk C) (stk P) vc vp i x n (mxL e (lastI (C k)) (lastI (P k))) (k+1:Nat)):=by
 have e0:Int.toNat (k:Int)=k:=rfl;have hk2:k < 49:=by omega
 have w:IntKind.i64.wrap ((n:Int)+1)=((n+1:Nat):Int):=by rw [wrap_in _ (by omega) (by omega)];rfl
 have w2:IntKind.i64.wrap ((k:Int)+1)=((k+1:Nat):Int):=by rw [wrap_in _ (by omega) (by omega)];rfl
 rw [b_t,w,w2,e0,stk_len,stk_len,stk_fac C hk2,stk_fac P hk2,mx_eq,dt (show (k:Int)≤((n+1:Nat):Int) by omega),dt (show (0≤(k:Int)∧(k:Int) < 49)∧49=49∧(C k).length≤5000 from ⟨by omega,rfl,by omega⟩),dt (show (0≤(k:Int)∧(k:Int) < 49)∧49=49∧(P k).length≤5000 from ⟨by omega,rfl,by omega⟩)]
 rfl
theorem keep {b:List Bool} {nb:Bool} {l:List Int} {q:List Bool} {m:Nat} {C P:Nat→List Int} {vc vp i n:Nat} {x e:Int} (hi:i < 3000) (hl:l.length≤3000) (hn:0 < n∧n < 48) (hC:(C n).length≤3000) (hx:-1000≤x∧x≤1000) (he:0≤e→e.toNat < l.length) (hno:¬ (0≤e∧l.getD e.toNat 0 = -x)):RUN (stOf (sB b nb l q m (stk C) (stk P) vc vp i x n e (n+1+1:Nat))) = .at (sA b nb l q m (stk (updC C n (C n ++ [(i:Int)]))) (stk P) (vc+1) vp (i+1:Nat)):=by
 have e1:Int.toNat (n:Int)=n:=rfl;have hn2:n < 49:=by omega
 have w:IntKind.i64.wrap ((n:Int)+1)=((n+1:Nat):Int):=by rw [wrap_in _ (by omega) (by omega)];rfl
 have w3:IntKind.i64.wrap (0 - x) = -x:=by rw [wrap_in _ (by omega) (by omega)];omega
 have lp:((C n).map fun x=>[U.i x]).length=(C n).length:=List.length_map ..;rw [b_t,w,w3,e1,z00 n,stk_list C hn2,ints_map,m1i,stk_set C hn2,stk_len,unh1,df (show ¬ ((n+1+1:Nat):Int)≤((n+1:Nat):Int) by omega),bc_f]
 by_cases h0:0≤e
 ·have h1:l.getD e.toNat 0 ≠ -x:=fun q=>hno ⟨h0,q⟩;have h2:=he h0;rw [eqF h1,dt h0];simp (disch:=omega) only [Nat.add_eq,eqSy_self,eqN_self,bc_same,List.length_cons,ofn,wrap_in,dt,df,bltD,bltN,ble_of,bleN,beqD,bc_t,bc_f,nn_ok,Nat.zero_add,to_nat,Int.zero_add,Int.sub_zero,Int.sub_self,Int.cast_ofNat_Int,Int.natCast_zero,Int.toNat_zero,List.take_zero,List.nil_append,List.length_append,List.length_nil,lp];rfl
 ·rw [df h0];simp (disch:=omega) only [Nat.add_eq,eqSy_self,eqN_self,bc_same,List.length_cons,ofn,wrap_in,dt,df,bltD,bltN,ble_of,bleN,beqD,bc_t,bc_f,nn_ok,Nat.zero_add,to_nat,Int.zero_add,Int.sub_zero,Int.sub_self,Int.cast_ofNat_Int,Int.natCast_zero,Int.toNat_zero,List.take_zero,List.nil_append,List.length_append,List.length_nil,lp];rfl
theorem rem {b:List Bool} {nb:Bool} {l:List Int} {q:List Bool} {m:Nat} {C P:Nat→List Int} {vc vp i n:Nat} {x e:Int} (hi:i < m) (hm:m≤3000) (hq:q.length=m) (hl:l.length=m) (hn:0 < n∧n < 48) (hC:0 < (C n).length∧(C n).length≤3000) (hx:-1000≤x∧x≤1000) (h0:0≤e) (he:e.toNat < m) (hno:l.getD e.toNat 0 = -x):RUN (stOf (sB b nb l q m (stk C) (stk P) vc vp i x n e (n+1+1:Nat))) = .at (sA b nb l ((q.set i false).set e.toNat false) m (stk (updC C n ((C n).take ((C n).length - 1)))) (stk P) vc vp (i+1:Nat)):=by
 have e1:Int.toNat (n:Int)=n:=rfl;have e2:Int.toNat (i:Int)=i:=rfl;have hn2:n < 49:=by omega
 have w:IntKind.i64.wrap ((n:Int)+1)=((n+1:Nat):Int):=by rw [wrap_in _ (by omega) (by omega)];rfl
 have w3:IntKind.i64.wrap (0 - x) = -x:=by rw [wrap_in _ (by omega) (by omega)];omega
 have lp:((C n).map fun x=>[U.i x]).length=(C n).length:=List.length_map ..;have w4:IntKind.i64.wrap (Int.ofNat (C n).length - 1)=(((C n).length - 1:Nat):Int):=by rw [ofn,wrap_in _ (by omega) (by omega)];omega
 have e3:Int.toNat ((((C n).length - 1:Nat)):Int)=(C n).length - 1:=rfl;have e4:List.take ((C n).length - 1) ((C n).map fun x=>[U.i x])=((C n).take ((C n).length - 1)).map fun x=>[U.i x]:=List.map_take.symm;have lq:(q.set i false).length=m:=by rw [List.length_set,hq]
 rw [b_t,w,w3,e1,e2,z00 n,stk_list C hn2,lp,w4,e3,e4,stk_set C hn2,stk_len,df (show ¬ ((n+1+1:Nat):Int)≤((n+1:Nat):Int) by omega),bc_f,hno,dt h0,show (-x == -x)=true by simp,hq,lq,hl];simp (disch:=omega) only [Nat.add_eq,eqSy_self,eqN_self,bc_same,List.length_cons,ofn,wrap_in,dt,df,bltD,bltN,ble_of,bleN,beqD,bc_t,bc_f,nn_ok,Nat.zero_add,to_nat,Int.zero_add,Int.sub_zero,Int.sub_self,Int.cast_ofNat_Int,Int.natCast_zero,Int.toNat_zero,List.take_zero,List.nil_append,List.length_append,List.length_nil];rfl

theorem round {b:List Bool} {nb:Bool} {l:List Int} {i:Nat} {out:List Nat} {q:List Bool} {C P:Nat→List Int} {vc vp:Nat} (hb:b.getD i false=true) (hb2:b.length=l.length) (h:RelT l i l.length out q C P) (hi:i < l.length) (hl:l.length≤3000) (hx:LetOk (l.getD i 0)) {z:EV} {K:List (Nat × EK)} {n':Nat}
  (hz:∀ q' C' P' vc' vp',RelT l (i+1) l.length (outS l out i) q' C' P'→EndM 2 106 ctTp (stOf (sA b nb l q' l.length (stk C') (stk P') vc' vp' (i+1:Nat))) z K n'):EndM 2 106 ctTp (stOf (sA b nb l q l.length (stk C) (stk P) vc vp i)) z K n':=by
 have hcl:=h.cl;have hpl:=h.pl
 by_cases hp:1000 < l.getD i 0
 ·obtain ⟨n,hn⟩:=Int.eq_ofNat_of_zero_le (show 0≤l.getD i 0 - 1000 by omega);have hx1:isPn (l.getD i 0)=true:=decide_eq_true hp;have hx2:numL (l.getD i 0)=n:=by unfold numL;rw [if_pos hp,hn]
  have hb3:0 < n∧n < 49:=by unfold LetOk at hx;omega
  have:=hpl n;exact .at ctTp_ok (pin hb hb2 hi hl h.ql hi (by omega) hb3 (by omega)) (hz _ _ _ _ _ (h.pin hi hx1 hx2))
 ·have hx1:isPn (l.getD i 0)=false:=decide_eq_false hp;have hx3:¬ l.getD i 0=0:=by unfold LetOk at hx;omega
  have hx4:-48 < l.getD i 0∧l.getD i 0 < 48:=by unfold LetOk at hx;omega
  have hx5:numL (l.getD i 0)=((l.getD i 0).natAbs:Nat):=by unfold numL;rw [if_neg hp];split <;> omega
  have hxn:l.getD i 0=((l.getD i 0).natAbs:Nat)∨l.getD i 0 = -(((l.getD i 0).natAbs:Nat):Int):=by omega
  have hb3:0 < (l.getD i 0).natAbs∧(l.getD i 0).natAbs < 48:=by omega
  have ht:=h.top hx1 hx5 hb3.1;have h1:=crs (c:=stk C) (p:=stk P) (vc:=vc) (vp:=vp) (b:=b) (nb:=nb) hb hb2 hi hl h.ql hi rfl hxn hb3;generalize hn:(l.getD i 0).natAbs=n at *;have c1:=hcl (n - 1);have c2:=hcl n;have c3:=hcl (n+1);have p1:=hpl (n - 1);have p2:=hpl n;have p3:=hpl (n+1);have i1:=inn (b:=b) (nb:=nb) (l:=l) (q:=q.set i true) (m:=l.length) (C:=C) (P:=P) (vc:=vc) (vp:=vp) (i:=i) (x:=l.getD i 0) (e:=-1) (n:=n) (k:=n - 1) (by omega) (by omega) (by omega) (by omega);rw [show n - 1+1=n by omega] at i1
  have i2:=inn (b:=b) (nb:=nb) (l:=l) (q:=q.set i true) (m:=l.length) (C:=C) (P:=P) (vc:=vc) (vp:=vp) (i:=i) (x:=l.getD i 0) (e:=mxL (-1) (lastI (C (n - 1))) (lastI (P (n - 1)))) (n:=n) (k:=n) (by omega) (by omega) (by omega) (by omega);have i3:=inn (b:=b) (nb:=nb) (l:=l) (q:=q.set i true) (m:=l.length) (C:=C) (P:=P) (vc:=vc) (vp:=vp) (i:=i) (x:=l.getD i 0) (e:=mxL (mxL (-1) (lastI (C (n - 1))) (lastI (P (n - 1)))) (lastI (C n)) (lastI (P n))) (n:=n) (k:=n+1) (by omega) (by omega) (by omega) (by omega)
  rw [show mxL (mxL (mxL (-1) (lastI (C (n - 1))) (lastI (P (n - 1)))) (lastI (C n)) (lastI (P n))) (lastI (C (n+1))) (lastI (P (n+1)))=tpO l out (l.getD i 0) from ht] at i3
  refine .at ctTp_ok h1 (.at ctTp_ok i1 (.at ctTp_ok i2 (.at ctTp_ok i3 ?_)))
  by_cases hr:0≤tpO l out (l.getD i 0)∧l.getD (tpO l out (l.getD i 0)).toNat 0 = -(l.getD i 0)
  ·obtain ⟨r1,r2,r3⟩:=h.rem hi hx1 (by omega) hx5 hr.1 hr.2;exact .at ctTp_ok (rem hi hl (by rw [List.length_set];exact h.ql) rfl hb3 ⟨r1,by omega⟩ (by omega) hr.1 (by omega) hr.2) (hz _ _ _ _ _ r3)
  ·exact .at ctTp_ok (keep (by omega) hl hb3 (by omega) (by omega) (fun g=>by have:=h.eLt g;omega) hr) (hz _ _ _ _ _ (h.app hi hx1 hx5 hr))
theorem skip {b:List Bool} {nb:Bool} {l:List Int} {q:List Bool} {m:Nat} {c p:List (List U)} {vc vp i:Nat} (hb:b.getD i false=false) (hi:i < b.length) (hl:b.length≤3000):RUN (stOf (sA b nb l q m c p vc vp i)) = .at (sA b nb l q m c p vc vp (i+1:Nat)):=by
 have e0:Int.toNat (i:Int)=i:=rfl;rw [a_t,e0,hb];simp (disch:=omega) only [Nat.add_eq,eqSy_self,eqN_self,bc_same,List.length_cons,ofn,wrap_in,dt,df,bltD,bltN,ble_of,bleN,beqD,bc_t,bc_f,nn_ok,Nat.zero_add,to_nat,Int.zero_add,Int.sub_zero,Int.sub_self,Int.cast_ofNat_Int,Int.natCast_zero,Int.toNat_zero,List.take_zero,List.nil_append,List.length_append,List.length_nil];rfl
theorem loop {b:List Bool} {nb:Bool} {l:List Int} (hl:l.length≤3000) (hb2:b.length=l.length) (hx:∀ x,x ∈ l→LetOk x):∀ (k i:Nat) (out:List Nat) (q:List Bool) (C P:Nat→List Int) (vc vp:Nat),i+k=l.length→RelT l i l.length out q C P→EndM 2 106 ctTp (stOf (sA b nb l q l.length (stk C) (stk P) vc vp i)) (.slO 2 1 l.length true) (K0 b nb ++ [(2,.seq 4 (.bools (mrk l.length (((List.range' i k).filter fun j=>b.getD j false).foldl (outS l) out))) true)]) 3
 | 0,i,out,q,C,P,vc,vp,h,hr=>by
  have h1:=a_t b nb l q l.length (stk C) (stk P) vc vp i;rw [df (show ¬ (i:Int) < Int.ofNat b.length by rw [ofn];omega),bc_f,hr.mrk] at h1;rw [hr.mrk];exact .done h1
 | k+1,i,out,q,C,P,vc,vp,h,hr=>by
  rw [List.range'_succ]
  cases hb:b.getD i false with
  | true=>
   rw [List.filter_cons_of_pos (p:=fun j=>b.getD j false) hb];refine round hb hb2 hr (by omega) hl (hx _ (by rw [getD_at (show i < l.length by omega)];exact List.getElem_mem _)) fun q' C' P' vc' vp' hr'=>?_;exact loop hl hb2 hx k (i+1) _ q' C' P' vc' vp' (by omega) hr'
  | false=>
   rw [List.filter_cons_of_neg (p:=fun j=>b.getD j false) (by rw [hb];simp)];exact .at ctTp_ok (skip hb (by omega) (by omega)) (loop hl hb2 hx k (i+1) _ q C P vc vp (by omega) hr.skip)
theorem ends {b:List Bool} {nb:Bool} {l:List Int} (hl:l.length≤3000) (hb2:b.length=l.length) (hx:∀ x,x ∈ l→LetOk x):EndM 2 106 ctTp (st0m 106 [il l,.fn 105 [.ptr 0 0]] (K0 b nb) 2) (.slO 2 1 l.length true) (K0 b nb ++ [(2,.seq 4 (.bools (mrk l.length (tigL l ((List.range l.length).filter fun j=>b.getD j false)))) true)]) 3:=by
 have h:=in_t b nb l;have e:Int.toNat (Int.ofNat l.length)=l.length:=rfl;rw [e,dt (show Int.ofNat l.length≤Int.ofNat l.length from Int.le_refl _),dt (show Int.ofNat l.length≤65536 by rw [ofn];omega),bc_t,bc_t,List.length_replicate,stk_nil] at h
 have h2:=loop (b:=b) (nb:=nb) hl hb2 hx l.length 0 [] _ _ _ 0 0 (by omega) (RelT.zero l l.length);rw [← List.range_eq_range'] at h2;exact .at ctTp_ok h h2
end PTgB
end Go.Proofs.Ytfffbioafhppiaa.Ev
namespace Go.Proofs.Ytfffbioafhppiaa.Ev
open Go.Proofs

def TigOk (l l2:List Int) (a b:Nat):Prop:=l2=l∧a=b∧l.length≤3000∧∀ x,x ∈ l→LetOk x
noncomputable instance TigOk.dec (l l2:List Int) (a b:Nat):Decidable (TigOk l l2 a b):=Classical.propDecidable _

def idxB (b:List Bool):List Nat:=(List.range b.length).filter fun j=>b.getD j false
noncomputable def tgA (l:List Int):List Bool:=mrk l.length (tigL l (List.range l.length))
noncomputable def tgB (l:List Int) (b:List Bool):List Bool:=mrk l.length (tigL l (idxB b))
theorem tgA_len (l:List Int):(tgA l).length=l.length:=mrk_len _ _
theorem tgB_len (l:List Int) (b:List Bool):(tgB l b).length=l.length:=mrk_len _ _
theorem tigA {t:Int} {l l2:List Int} (h:TigOk l l2 0 0):EndM 2 106 ctTp (st0m 106 [il l,.fn 107 [.ptr 0 0]] (PTgA.K0 t l2) 2) (.slO 2 1 l.length true) (PTgA.K0 t l2 ++ [(2,.seq 4 (.bools (tgA l)) true)]) 3:=by
 obtain ⟨rfl,_,h1,h2⟩:=h;exact PTgA.ends h1 h2
theorem tigB {b:List Bool} {nb:Bool} {l:List Int} (h:TigOk l l b.length l.length):EndM 2 106 ctTp (st0m 106 [il l,.fn 105 [.ptr 0 0]] (PTgB.K0 b nb) 2) (.slO 2 1 l.length true) (PTgB.K0 b nb ++ [(2,.seq 4 (.bools (tgB l b)) true)]) 3:=by
 obtain ⟨_,h0,h1,h2⟩:=h;have:=PTgB.ends (b:=b) (nb:=nb) h1 h0 h2;unfold tgB idxB;rw [h0];exact this
end Go.Proofs.Ytfffbioafhppiaa.Ev
namespace Go.Proofs.Ytfffbioafhppiaa.Ev
open Go.Proofs
noncomputable def spTig_0:ZMT:=fun ax K0 m=>match ax,K0 with
 | [.lst (.ints .i64 l),.fn 107 [.ptr 0 0]],[(0,.cells 77 [.ptr 1 0] v_0),(1,.cells 24 [.v (.int .i64 t),.lst (.ints .i64 l2)] v_1)]=>bc (Nat.beq m (2)) (some ⟨bc (eqN v_0 (true)) (bc (eqN v_1 (true)) (decide (TigOk l l2 0 0)) false) false,.slO 2 1 l.length true,PTgA.K0 t l2 ++ [(2,.seq 4 (.bools (tgA l)) true)],3,2⟩) none
 | _,_=>none
theorem spTig_0_ok:ZMtOk Try.prog 106 spTig_0:=fun γ w0 w us ax K0 m r hs hc hres hax hH=>by
 unfold spTig_0 at hs;split at hs
 case h_2=>cases hs
 rename_i l v_0 t l2 v_1;obtain ⟨hm,rfl⟩:=noN hs;have hm:=Nat.eq_of_beq_eq_true hm;subst hm;have hc_0:bc (eqN v_0 (true)) (bc (eqN v_1 (true)) (decide (TigOk l l2 0 0)) false) false=true:=hc;obtain ⟨q_0,hc_1⟩:=bcT hc_0;have p_0:=(eqN_ok q_0).symm;subst p_0;obtain ⟨q_1,hc_2⟩:=bcT hc_1;have p_1:=(eqN_ok q_1).symm;subst p_1;have hc:=of_decide_eq_true hc_2;exact EndM.calls (tigA hc) ctTp_ok (by kernel_rfl) hres hax hH
noncomputable def spTig_1:ZMT:=fun ax K0 m=>match ax,K0 with
 | [.lst (.ints .i64 l),.fn 105 [.ptr 0 0]],[(0,.cells 75 [.slO 1 1 v_0 v_1] v_2),(1,.seq 4 (.bools b) nb)]=>bc (Nat.beq m (2)) (some ⟨bc (Nat.beq v_0 (b.length)) (bc (eqN v_1 (nb)) (bc (eqN v_2 (true)) (decide (TigOk l l b.length l.length)) false) false) false,.slO 2 1 l.length true,PTgB.K0 b nb ++ [(2,.seq 4 (.bools (tgB l b)) true)],3,2⟩) none
 | _,_=>none
theorem spTig_1_ok:ZMtOk Try.prog 106 spTig_1:=fun γ w0 w us ax K0 m r hs hc hres hax hH=>by
 unfold spTig_1 at hs;split at hs
 case h_2=>cases hs
 rename_i l v_0 v_1 v_2 b nb;obtain ⟨hm,rfl⟩:=noN hs;have hm:=Nat.eq_of_beq_eq_true hm;subst hm;have hc_0:bc (Nat.beq v_0 (b.length)) (bc (eqN v_1 (nb)) (bc (eqN v_2 (true)) (decide (TigOk l l b.length l.length)) false) false) false=true:=hc;obtain ⟨q_0,hc_1⟩:=bcT hc_0;have p_0:=(Nat.eq_of_beq_eq_true q_0).symm;subst p_0;obtain ⟨q_1,hc_2⟩:=bcT hc_1;have p_1:=(eqN_ok q_1).symm;subst p_1;obtain ⟨q_2,hc_3⟩:=bcT hc_2;have p_2:=(eqN_ok q_2).symm;subst p_2;have hc:=of_decide_eq_true hc_3;exact EndM.calls (tigB hc) ctTp_ok (by kernel_rfl) hres hax hH
noncomputable def spTig:ZMT:=ZMT.or spTig_0 (spTig_1)
theorem spTig_ok:ZMtOk Try.prog 106 spTig:=spTig_0_ok.or (spTig_1_ok)
noncomputable def ctTg:Tr ZCC:=Tr.nil.put 106 (some (mC spTig))
theorem ctTg_ok:ZCtsOk Try.prog ctTg:=(ZCtsOk.nil _).addM rfl spTig_ok
namespace PTgt
noncomputable def K0 (t:Int) (l:List Int):List (Nat × EK):=[(0,.cells 24 [iv t,il l] true)]
noncomputable def RUN (s:ES):ZF:=RMs 1 55 ctTg [] [] [] s
theorem in_t (t:Int) (l:List Int):RUN (st0m 55 [.ptr 0 0] (K0 t l) 1)=(bc (bc (decide (TigOk l l (0:Nat) (0:Nat))) true false) (.done (EV.slO 1 1 (List.length l) true) [(0,(EK.cells 24 [(EV.v (Value.int IntKind.i64 (t))),(EV.lst (SyC.ints IntKind.i64 (l)))] true)),(1,(EK.seq 4 (SyC.bools (tgA l)) true))] 2) .bad):=by kernel_rfl
theorem ends {t:Int} {l:List Int} (h:TigOk l l 0 0):EndM 1 55 ctTg (st0m 55 [.ptr 0 0] (K0 t l) 1) (.slO 1 1 l.length true) (K0 t l ++ [(1,.seq 4 (.bools (tgA l)) true)]) 2:=by
 have h1:=in_t t l;rw [dt h] at h1;simp (disch:=omega) only [Nat.add_eq,eqSy_self,eqN_self,bc_same,List.length_cons,ofn,wrap_in,dt,df,bltD,bltN,ble_of,bleN,beqD,bc_t,bc_f,nn_ok,Nat.zero_add,to_nat,Int.zero_add,Int.sub_zero,Int.sub_self,Int.cast_ofNat_Int,Int.natCast_zero,Int.toNat_zero,List.take_zero,List.nil_append,List.length_append,List.length_nil] at h1;exact .done h1
end PTgt
noncomputable def spTgt:ZMT:=fun ax K0 m=>match ax,K0 with
 | [.ptr 0 0],[(0,.cells 24 [.v (.int .i64 t),.lst (.ints .i64 l)] v_0)]=>bc (Nat.beq m (1)) (some ⟨bc (eqN v_0 (true)) (decide (TigOk l l 0 0)) false,.slO 1 1 l.length true,PTgt.K0 t l ++ [(1,.seq 4 (.bools (tgA l)) true)],2,1⟩) none
 | _,_=>none
theorem spTgt_ok:ZMtOk Try.prog 55 spTgt:=fun γ w0 w us ax K0 m r hs hc hres hax hH=>by
 unfold spTgt at hs;split at hs
 case h_2=>cases hs
 rename_i t l v_0;obtain ⟨hm,rfl⟩:=noN hs;have hm:=Nat.eq_of_beq_eq_true hm;subst hm;have hc_0:bc (eqN v_0 (true)) (decide (TigOk l l 0 0)) false=true:=hc;obtain ⟨q_0,hc_1⟩:=bcT hc_0;have p_0:=(eqN_ok q_0).symm;subst p_0;have hc:=of_decide_eq_true hc_1;exact EndM.calls (PTgt.ends hc) ctTg_ok (by kernel_rfl) hres hax hH
end Go.Proofs.Ytfffbioafhppiaa.Ev
namespace Go.Proofs.Ytfffbioafhppiaa.Ev
open Go.Proofs
namespace PFrA
noncomputable def K0 (t:Int) (l:List Int) (b:List Bool)  : List (Nat × EK):=[(0,.cells 24 [iv t,il l] true),(1,.seq 4 (.bools b) true)]
noncomputable def RUN (s:ES):ZF:=RMs 2 58 ctTg [(atS 0 58 3,[[(0,none),(2,none),(7,none),(15,none),(16,none)]]),(atS 1 105 1,[[(0,none),(5,none),(6,none),(7,none)],[(10,some (1,3,.ints .i64 []))]])] [9,10] [] s

noncomputable def sR (t:Int) (l:List Int) (b:List Bool)  (q:List Bool) (i:Int):NS:=⟨[⟨58,63,[(0,(EV.ptr 0 0)),(2,(EV.fn 59 [])),(7,EV.slO 2 1 b.length true),(15,iv (b.length:Nat)),(16,iv i)],[.it (.code (nav [1,1,0,1,0,0] (bodyOf Try.f58))),.it (.inLoop (nav [1,1,0,1,0,0] (bodyOf Try.f58))),.it (.inBlock 0),.it (.code (nav [1,1,1] (bodyOf Try.f58)))],[],Option.none⟩],[(0,(EK.cells 24 [(EV.v (Value.int IntKind.i64 (t))),(EV.lst (SyC.ints IntKind.i64 (l)))] true)),(1,(EK.seq 4 (SyC.bools (b)) true)),(2,EK.seq 4 (.bools q) true)],3⟩
noncomputable def sG (t:Int) (l:List Int) (b:List Bool)  (q s:List Bool) (ms:Nat) (g:List Int) (nn:Bool) (i:Int):NS:=⟨[⟨105,20,[(0,(EV.yl 2)),(5,EV.slO 3 1 b.length true),(6,iv (b.length:Nat)),(7,iv i)],[.it (.code (nav [1,0,0] (bodyOf Try.f105))),.it (.inLoop (nav [1,0,0] (bodyOf Try.f105))),.it (.inBlock 0)],[],Option.none⟩,⟨58,63,[(10,(EV.ptr 4 0))],[(.inRF 2),.it (.inBlock 2),.it (.code (nav [1,1,1,1,1,1] (bodyOf Try.f58)))],[(DE.mk 5)],Option.none⟩],[(0,(EK.cells 24 [(EV.v (Value.int IntKind.i64 (t))),(EV.lst (SyC.ints IntKind.i64 (l)))] true)),(1,(EK.seq 4 (SyC.bools (b)) true)),(2,(EK.loop LoopState.ready Option.none 58 63 (Tr.node Option.none (Tr.node Option.none Tr.nil (Tr.node Option.none (Tr.node Option.none Tr.nil (Tr.node (Option.some (EV.ptr 4 0)) Tr.nil Tr.nil)) Tr.nil)) (Tr.node Option.none (Tr.node Option.none (Tr.node Option.none Tr.nil (Tr.node (Option.some (EV.ptr 6 0)) Tr.nil Tr.nil)) Tr.nil) Tr.nil)) (Array.mk [52]) (nav [1,1,1,1,1,0,1,0,0] (bodyOf Try.f58)) (nav [1,1,1,1,1,0,1,0,1] (bodyOf Try.f58)) 5)),(3,EK.seq 4 (.bools q) true),(4,EK.cells 22 [EV.slO 7 1 g.length nn] true),(5,(EK.dfr true)),(6,EK.cells 75 [EV.slO 8 1 ms true] true),(7,EK.seq 3 (.ints .i64 g) nn),(8,EK.seq 4 (.bools s) true)],9⟩
theorem in_t (t:Int) (l:List Int) (b:List Bool)  : RUN (st0m 58 [.ptr 0 0,.slO 1 1 b.length true,.fn 59 []] (K0 t l b) 2)=(bc (bc (Nat.beq (List.length b) (List.length b)) (bc (Nat.ble ((0:Nat)+List.length b) (65536:Nat)) true false) false) (.at (sR (t) (l) (b) (List.map (fun r=>U.bool (List.headD r (U.i (0:Int)))) [] ++ b) ((0:Int)))) .bad):=by kernel_rfl
theorem r_t (t:Int) (l:List Int) (b:List Bool)  (q:List Bool) (i:Int):RUN (stOf (sR t l b q i))=(bc (decide (i < (Nat.cast (List.length b):Int))) (bc (bc (bc (decide ((0:Int)≤i)) (Nat.blt (Int.toNat i) (List.length b)) false) true false) (bc (bc (Nat.blt (Int.toNat i) (List.length q)) true false) (bc (List.getD q (Int.toNat i) false) (bc (bc (bc (decide ((0:Int)≤i)) (Nat.blt (Int.toNat i) (List.length l)) false) true false) (bc (bc (Nat.blt (Int.toNat i) (List.length l)) true false) (bc (decide ((1000:Int) < List.getD l (Int.toNat i) (0:Int))) (bc (bc (bc (decide ((0:Int)≤i)) (Nat.blt (Int.toNat i) (List.length b)) false) true false) (bc (Nat.blt (Int.toNat i) (List.length q)) (.at (sR (t) (l) (b) (List.set q (Int.toNat i) !true) (IntKind.wrap IntKind.i64 (i+(1:Int))))) .bad) .bad) (bc (bc (bc (decide ((0:Int)≤i)) (Nat.blt (Int.toNat i) (List.length b)) false) true false) (bc (Nat.blt (Int.toNat i) (List.length q)) (.at (sR (t) (l) (b) (List.set q (Int.toNat i) !false) (IntKind.wrap IntKind.i64 (i+(1:Int))))) .bad) .bad)) .bad) .bad) (bc (bc (bc (decide ((0:Int)≤i)) (Nat.blt (Int.toNat i) (List.length b)) false) true false) (bc (Nat.blt (Int.toNat i) (List.length q)) (.at (sR (t) (l) (b) (List.set q (Int.toNat i) false) (IntKind.wrap IntKind.i64 (i+(1:Int))))) .bad) .bad)) .bad) .bad) (bc (bc (bc (bc (bc (Nat.beq (List.length b) (List.length q)) (decide (TigOk l l (List.length q) (List.length l))) false) true false) true false) (bc (bc (bc (eqSy (SyC.ints IntKind.i64 l) (SyC.ints IntKind.i64 l)) true false) true false) true false) false) (.at (sG (t) (l) (b) (q) (tgB l q) (List.length l) ([]) (false) ((0:Int)))) .bad)):=by kernel_rfl
theorem g_t (t:Int) (l:List Int) (b:List Bool)  (q s:List Bool) (ms:Nat) (g:List Int) (nn:Bool) (i:Int):RUN (stOf (sG t l b q s ms g nn i))=(bc (decide (i < (Nat.cast (List.length b):Int))) (bc (bc (bc (decide ((0:Int)≤i)) (Nat.blt (Int.toNat i) (List.length b)) false) true false) (bc (bc (Nat.blt (Int.toNat i) (List.length q)) true false) (bc (List.getD q (Int.toNat i) false) (bc (bc (bc (decide ((0:Int)≤i)) (Nat.blt (Int.toNat i) ms) false) true false) (bc (bc (Nat.blt (Int.toNat i) (List.length s)) true false) (bc (!List.getD s (Int.toNat i) false) (bc (bc (Nat.beq (List.length g) (List.length g)) (bc (Nat.ble (List.length g+List.length (List.map (fun r=>U.int (List.headD r (U.i (0:Int)))) [[U.i i]])) (65536:Nat)) (bc nn true (bc nn false true)) false) false) (.at (sG (t) (l) (b) (q) (s) (ms) (g ++ List.map (fun r=>U.int (List.headD r (U.i (0:Int)))) [[U.i i]]) (bc nn true (Nat.blt (0:Nat) (List.length (List.map (fun r=>U.int (List.headD r (U.i (0:Int)))) [[U.i i]])))) (IntKind.wrap IntKind.i64 (i+(1:Int))))) .bad) (.at (sG (t) (l) (b) (q) (s) (ms) (g) (nn) (IntKind.wrap IntKind.i64 (i+(1:Int)))))) .bad) .bad) (.at (sG (t) (l) (b) (q) (s) (ms) (g) (nn) (IntKind.wrap IntKind.i64 (i+(1:Int)))))) .bad) .bad) (.done (EV.slO 2 1 (List.length g) (nn)) [(0,(EK.cells 24 [(EV.v (Value.int IntKind.i64 (t))),(EV.lst (SyC.ints IntKind.i64 (l)))] true)),(1,(EK.seq 4 (SyC.bools (b)) true)),(2,(EK.seq 3 (SyC.ints IntKind.i64 (g)) (nn)))] 3)):=by kernel_rfl
end PFrA
namespace PFrB
noncomputable def K0 (t:Int) (l:List Int) (b:List Bool) (o:List Bool) (no:Bool):List (Nat × EK):=[(0,.cells 24 [iv t,il l] true),(1,.seq 4 (.bools b) true),(2,.cells 75 [.slO 3 1 o.length no] true),(3,.seq 4 (.bools o) no)]
noncomputable def RUN (s:ES):ZF:=RMs 2 58 ctTg [(atS 0 58 3,[[(0,none),(2,none),(7,none),(15,none),(16,none)]]),(atS 1 105 1,[[(0,none),(5,none),(6,none),(7,none)],[(10,some (1,3,.ints .i64 []))]])] [9,10] [] s

noncomputable def sR (t:Int) (l:List Int) (b:List Bool) (o:List Bool) (no:Bool) (q:List Bool) (i:Int):NS:=⟨[⟨58,63,[(0,(EV.ptr 0 0)),(2,(EV.fn 103 [(EV.ptr 2 0)])),(7,EV.slO 3 1 b.length true),(15,iv (b.length:Nat)),(16,iv i)],[.it (.code (nav [1,1,0,1,0,0] (bodyOf Try.f58))),.it (.inLoop (nav [1,1,0,1,0,0] (bodyOf Try.f58))),.it (.inBlock 0),.it (.code (nav [1,1,1] (bodyOf Try.f58)))],[],Option.none⟩],[(0,(EK.cells 24 [(EV.v (Value.int IntKind.i64 (t))),(EV.lst (SyC.ints IntKind.i64 (l)))] true)),(1,(EK.seq 4 (SyC.bools (b)) true)),(2,(EK.cells 75 [(EV.slO 4 1 (List.length o) (no))] true)),(3,EK.seq 4 (.bools q) true),(4,(EK.seq 4 (SyC.bools (o)) (no)))],5⟩
noncomputable def sG (t:Int) (l:List Int) (b:List Bool)  (q s:List Bool) (ms:Nat) (g:List Int) (nn:Bool) (i:Int):NS:=⟨[⟨105,20,[(0,(EV.yl 2)),(5,EV.slO 3 1 b.length true),(6,iv (b.length:Nat)),(7,iv i)],[.it (.code (nav [1,0,0] (bodyOf Try.f105))),.it (.inLoop (nav [1,0,0] (bodyOf Try.f105))),.it (.inBlock 0)],[],Option.none⟩,⟨58,63,[(10,(EV.ptr 4 0))],[(.inRF 2),.it (.inBlock 2),.it (.code (nav [1,1,1,1,1,1] (bodyOf Try.f58)))],[(DE.mk 5)],Option.none⟩],[(0,(EK.cells 24 [(EV.v (Value.int IntKind.i64 (t))),(EV.lst (SyC.ints IntKind.i64 (l)))] true)),(1,(EK.seq 4 (SyC.bools (b)) true)),(2,(EK.loop LoopState.ready Option.none 58 63 (Tr.node Option.none (Tr.node Option.none Tr.nil (Tr.node Option.none (Tr.node Option.none Tr.nil (Tr.node (Option.some (EV.ptr 4 0)) Tr.nil Tr.nil)) Tr.nil)) (Tr.node Option.none (Tr.node Option.none (Tr.node Option.none Tr.nil (Tr.node (Option.some (EV.ptr 6 0)) Tr.nil Tr.nil)) Tr.nil) Tr.nil)) (Array.mk [52]) (nav [1,1,1,1,1,0,1,0,0] (bodyOf Try.f58)) (nav [1,1,1,1,1,0,1,0,1] (bodyOf Try.f58)) 5)),(3,EK.seq 4 (.bools q) true),(4,EK.cells 22 [EV.slO 7 1 g.length nn] true),(5,(EK.dfr true)),(6,EK.cells 75 [EV.slO 8 1 ms true] true),(7,EK.seq 3 (.ints .i64 g) nn),(8,EK.seq 4 (.bools s) true)],9⟩
theorem in_t (t:Int) (l:List Int) (b:List Bool) (o:List Bool) (no:Bool):RUN (st0m 58 [.ptr 0 0,.slO 1 1 b.length true,.fn 103 [.ptr 2 0]] (K0 t l b o no) 4)=(bc (bc (Nat.beq (List.length b) (List.length b)) (bc (Nat.ble ((0:Nat)+List.length b) (65536:Nat)) true false) false) (.at (sR (t) (l) (b) (o) (no) (List.map (fun r=>U.bool (List.headD r (U.i (0:Int)))) [] ++ b) ((0:Int)))) .bad):=by kernel_rfl
theorem r_t (t:Int) (l:List Int) (b:List Bool) (o:List Bool) (no:Bool) (q:List Bool) (i:Int):RUN (stOf (sR t l b o no q i))=(bc (decide (i < (Nat.cast (List.length b):Int))) (bc (bc (bc (decide ((0:Int)≤i)) (Nat.blt (Int.toNat i) (List.length b)) false) true false) (bc (bc (Nat.blt (Int.toNat i) (List.length q)) true false) (bc (List.getD q (Int.toNat i) false) (bc (bc (bc (decide ((0:Int)≤i)) (Nat.blt (Int.toNat i) (List.length l)) false) true false) (bc (bc (Nat.blt (Int.toNat i) (List.length l)) true false) (bc (decide ((1000:Int) < List.getD l (Int.toNat i) (0:Int))) (bc (bc (bc (decide ((0:Int)≤i)) (Nat.blt (Int.toNat i) (List.length o)) false) true false) (bc (bc (Nat.blt (Int.toNat i) (List.length o)) true false) (bc (bc (bc (decide ((0:Int)≤i)) (Nat.blt (Int.toNat i) (List.length b)) false) true false) (bc (Nat.blt (Int.toNat i) (List.length q)) (.at (sR (t) (l) (b) (o) (no) (List.set q (Int.toNat i) !List.getD o (Int.toNat i) false) (IntKind.wrap IntKind.i64 (i+(1:Int))))) .bad) .bad) .bad) .bad) (bc (bc (bc (decide ((0:Int)≤i)) (Nat.blt (Int.toNat i) (List.length b)) false) true false) (bc (Nat.blt (Int.toNat i) (List.length q)) (.at (sR (t) (l) (b) (o) (no) (List.set q (Int.toNat i) !false) (IntKind.wrap IntKind.i64 (i+(1:Int))))) .bad) .bad)) .bad) .bad) (bc (bc (bc (decide ((0:Int)≤i)) (Nat.blt (Int.toNat i) (List.length b)) false) true false) (bc (Nat.blt (Int.toNat i) (List.length q)) (.at (sR (t) (l) (b) (o) (no) (List.set q (Int.toNat i) false) (IntKind.wrap IntKind.i64 (i+(1:Int))))) .bad) .bad)) .bad) .bad) (bc (bc (bc (bc (bc (Nat.beq (List.length b) (List.length q)) (decide (TigOk l l (List.length q) (List.length l))) false) true false) true false) (bc (bc (bc (eqSy (SyC.ints IntKind.i64 l) (SyC.ints IntKind.i64 l)) true false) true false) true false) false) (.at (sG (t) (l) (b) (q) (tgB l q) (List.length l) ([]) (false) ((0:Int)))) .bad)):=by kernel_rfl
theorem g_t (t:Int) (l:List Int) (b:List Bool)  (q s:List Bool) (ms:Nat) (g:List Int) (nn:Bool) (i:Int):RUN (stOf (sG t l b q s ms g nn i))=(bc (decide (i < (Nat.cast (List.length b):Int))) (bc (bc (bc (decide ((0:Int)≤i)) (Nat.blt (Int.toNat i) (List.length b)) false) true false) (bc (bc (Nat.blt (Int.toNat i) (List.length q)) true false) (bc (List.getD q (Int.toNat i) false) (bc (bc (bc (decide ((0:Int)≤i)) (Nat.blt (Int.toNat i) ms) false) true false) (bc (bc (Nat.blt (Int.toNat i) (List.length s)) true false) (bc (!List.getD s (Int.toNat i) false) (bc (bc (Nat.beq (List.length g) (List.length g)) (bc (Nat.ble (List.length g+List.length (List.map (fun r=>U.int (List.headD r (U.i (0:Int)))) [[U.i i]])) (65536:Nat)) (bc nn true (bc nn false true)) false) false) (.at (sG (t) (l) (b) (q) (s) (ms) (g ++ List.map (fun r=>U.int (List.headD r (U.i (0:Int)))) [[U.i i]]) (bc nn true (Nat.blt (0:Nat) (List.length (List.map (fun r=>U.int (List.headD r (U.i (0:Int)))) [[U.i i]])))) (IntKind.wrap IntKind.i64 (i+(1:Int))))) .bad) (.at (sG (t) (l) (b) (q) (s) (ms) (g) (nn) (IntKind.wrap IntKind.i64 (i+(1:Int)))))) .bad) .bad) (.at (sG (t) (l) (b) (q) (s) (ms) (g) (nn) (IntKind.wrap IntKind.i64 (i+(1:Int)))))) .bad) .bad) (.done (EV.slO 2 1 (List.length g) (nn)) [(0,(EK.cells 24 [(EV.v (Value.int IntKind.i64 (t))),(EV.lst (SyC.ints IntKind.i64 (l)))] true)),(1,(EK.seq 4 (SyC.bools (b)) true)),(2,(EK.seq 3 (SyC.ints IntKind.i64 (g)) (nn)))] 3)):=by kernel_rfl
end PFrB
namespace PFrC
noncomputable def K0 (t:Int) (l:List Int) (b:List Bool) (kk:Int):List (Nat × EK):=[(0,.cells 24 [iv t,il l] true),(1,.seq 4 (.bools b) true),(2,.cells 3 [iv kk] true)]
noncomputable def RUN (s:ES):ZF:=RMs 3 58 ctTg [(atS 0 58 3,[[(0,none),(2,none),(7,none),(15,none),(16,none)]]),(atS 1 105 1,[[(0,none),(5,none),(6,none),(7,none)],[(10,some (1,3,.ints .i64 []))]])] [9,10] [] s

noncomputable def sR (t:Int) (l:List Int) (b:List Bool) (kk:Int) (q:List Bool) (i:Int):NS:=⟨[⟨58,63,[(0,(EV.ptr 0 0)),(2,(EV.fn 86 [(EV.ptr 2 0)])),(7,EV.slO 3 1 b.length true),(15,iv (b.length:Nat)),(16,iv i)],[.it (.code (nav [1,1,0,1,0,0] (bodyOf Try.f58))),.it (.inLoop (nav [1,1,0,1,0,0] (bodyOf Try.f58))),.it (.inBlock 0),.it (.code (nav [1,1,1] (bodyOf Try.f58)))],[],Option.none⟩],[(0,(EK.cells 24 [(EV.v (Value.int IntKind.i64 (t))),(EV.lst (SyC.ints IntKind.i64 (l)))] true)),(1,(EK.seq 4 (SyC.bools (b)) true)),(2,(EK.cells 3 [(EV.v (Value.int IntKind.i64 (kk)))] true)),(3,EK.seq 4 (.bools q) true)],4⟩
noncomputable def sG (t:Int) (l:List Int) (b:List Bool) (kk:Int) (q s:List Bool) (ms:Nat) (g:List Int) (nn:Bool) (i:Int):NS:=⟨[⟨105,20,[(0,(EV.yl 3)),(5,EV.slO 4 1 b.length true),(6,iv (b.length:Nat)),(7,iv i)],[.it (.code (nav [1,0,0] (bodyOf Try.f105))),.it (.inLoop (nav [1,0,0] (bodyOf Try.f105))),.it (.inBlock 0)],[],Option.none⟩,⟨58,63,[(10,(EV.ptr 5 0))],[(.inRF 3),.it (.inBlock 2),.it (.code (nav [1,1,1,1,1,1] (bodyOf Try.f58)))],[(DE.mk 6)],Option.none⟩],[(0,(EK.cells 24 [(EV.v (Value.int IntKind.i64 (t))),(EV.lst (SyC.ints IntKind.i64 (l)))] true)),(1,(EK.seq 4 (SyC.bools (b)) true)),(2,(EK.cells 3 [(EV.v (Value.int IntKind.i64 (kk)))] true)),(3,(EK.loop LoopState.ready Option.none 58 63 (Tr.node Option.none (Tr.node Option.none Tr.nil (Tr.node Option.none (Tr.node Option.none Tr.nil (Tr.node (Option.some (EV.ptr 5 0)) Tr.nil Tr.nil)) Tr.nil)) (Tr.node Option.none (Tr.node Option.none (Tr.node Option.none Tr.nil (Tr.node (Option.some (EV.ptr 7 0)) Tr.nil Tr.nil)) Tr.nil) Tr.nil)) (Array.mk [52]) (nav [1,1,1,1,1,0,1,0,0] (bodyOf Try.f58)) (nav [1,1,1,1,1,0,1,0,1] (bodyOf Try.f58)) 6)),(4,EK.seq 4 (.bools q) true),(5,EK.cells 22 [EV.slO 8 1 g.length nn] true),(6,(EK.dfr true)),(7,EK.cells 75 [EV.slO 9 1 ms true] true),(8,EK.seq 3 (.ints .i64 g) nn),(9,EK.seq 4 (.bools s) true)],10⟩
theorem in_t (t:Int) (l:List Int) (b:List Bool) (kk:Int):RUN (st0m 58 [.ptr 0 0,.slO 1 1 b.length true,.fn 86 [.ptr 2 0]] (K0 t l b kk) 3)=(bc (bc (Nat.beq (List.length b) (List.length b)) (bc (Nat.ble ((0:Nat)+List.length b) (65536:Nat)) true false) false) (.at (sR (t) (l) (b) (kk) (List.map (fun r=>U.bool (List.headD r (U.i (0:Int)))) [] ++ b) ((0:Int)))) .bad):=by kernel_rfl
theorem r_t (t:Int) (l:List Int) (b:List Bool) (kk:Int) (q:List Bool) (i:Int):RUN (stOf (sR t l b kk q i))=(bc (decide (i < (Nat.cast (List.length b):Int))) (bc (bc (bc (decide ((0:Int)≤i)) (Nat.blt (Int.toNat i) (List.length b)) false) true false) (bc (bc (Nat.blt (Int.toNat i) (List.length q)) true false) (bc (List.getD q (Int.toNat i) false) (bc (bc (bc (decide ((0:Int)≤i)) (Nat.blt (Int.toNat i) (List.length l)) false) true false) (bc (bc (Nat.blt (Int.toNat i) (List.length l)) true false) (bc (decide ((1000:Int) < List.getD l (Int.toNat i) (0:Int))) (bc (bc (bc (decide ((0:Int)≤i)) (Nat.blt (Int.toNat i) (List.length b)) false) true false) (bc (Nat.blt (Int.toNat i) (List.length q)) (.at (sR (t) (l) (b) (kk) (List.set q (Int.toNat i) !i == kk) (IntKind.wrap IntKind.i64 (i+(1:Int))))) .bad) .bad) (bc (bc (bc (decide ((0:Int)≤i)) (Nat.blt (Int.toNat i) (List.length b)) false) true false) (bc (Nat.blt (Int.toNat i) (List.length q)) (.at (sR (t) (l) (b) (kk) (List.set q (Int.toNat i) !false) (IntKind.wrap IntKind.i64 (i+(1:Int))))) .bad) .bad)) .bad) .bad) (bc (bc (bc (decide ((0:Int)≤i)) (Nat.blt (Int.toNat i) (List.length b)) false) true false) (bc (Nat.blt (Int.toNat i) (List.length q)) (.at (sR (t) (l) (b) (kk) (List.set q (Int.toNat i) false) (IntKind.wrap IntKind.i64 (i+(1:Int))))) .bad) .bad)) .bad) .bad) (bc (bc (bc (bc (bc (Nat.beq (List.length b) (List.length q)) (decide (TigOk l l (List.length q) (List.length l))) false) true false) true false) (bc (bc (bc (eqSy (SyC.ints IntKind.i64 l) (SyC.ints IntKind.i64 l)) true false) true false) true false) false) (.at (sG (t) (l) (b) (kk) (q) (tgB l q) (List.length l) ([]) (false) ((0:Int)))) .bad)):=by kernel_rfl
theorem g_t (t:Int) (l:List Int) (b:List Bool) (kk:Int) (q s:List Bool) (ms:Nat) (g:List Int) (nn:Bool) (i:Int):RUN (stOf (sG t l b kk q s ms g nn i))=(bc (decide (i < (Nat.cast (List.length b):Int))) (bc (bc (bc (decide ((0:Int)≤i)) (Nat.blt (Int.toNat i) (List.length b)) false) true false) (bc (bc (Nat.blt (Int.toNat i) (List.length q)) true false) (bc (List.getD q (Int.toNat i) false) (bc (bc (bc (decide ((0:Int)≤i)) (Nat.blt (Int.toNat i) ms) false) true false) (bc (bc (Nat.blt (Int.toNat i) (List.length s)) true false) (bc (!List.getD s (Int.toNat i) false) (bc (bc (Nat.beq (List.length g) (List.length g)) (bc (Nat.ble (List.length g+List.length (List.map (fun r=>U.int (List.headD r (U.i (0:Int)))) [[U.i i]])) (65536:Nat)) (bc nn true (bc nn false true)) false) false) (.at (sG (t) (l) (b) (kk) (q) (s) (ms) (g ++ List.map (fun r=>U.int (List.headD r (U.i (0:Int)))) [[U.i i]]) (bc nn true (Nat.blt (0:Nat) (List.length (List.map (fun r=>U.int (List.headD r (U.i (0:Int)))) [[U.i i]])))) (IntKind.wrap IntKind.i64 (i+(1:Int))))) .bad) (.at (sG (t) (l) (b) (kk) (q) (s) (ms) (g) (nn) (IntKind.wrap IntKind.i64 (i+(1:Int)))))) .bad) .bad) (.at (sG (t) (l) (b) (kk) (q) (s) (ms) (g) (nn) (IntKind.wrap IntKind.i64 (i+(1:Int)))))) .bad) .bad) (.done (EV.slO 3 1 (List.length g) (nn)) [(0,(EK.cells 24 [(EV.v (Value.int IntKind.i64 (t))),(EV.lst (SyC.ints IntKind.i64 (l)))] true)),(1,(EK.seq 4 (SyC.bools (b)) true)),(2,(EK.cells 3 [(EV.v (Value.int IntKind.i64 (kk)))] true)),(3,(EK.seq 3 (SyC.ints IntKind.i64 (g)) (nn)))] 4)):=by kernel_rfl
end PFrC
end Go.Proofs.Ytfffbioafhppiaa.Ev
