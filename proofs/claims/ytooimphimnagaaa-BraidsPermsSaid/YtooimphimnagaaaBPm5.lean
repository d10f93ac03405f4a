/- Laid together: A row of its own behind a nest. No program is named. Runs over open leaves that fork: one run says what comes of all cases. No program is named. Runs over open leaves to a place, with new numbers there; calls. No program is named. Runs of a call whose arguments lead to memory that it changes: the first k numbers stay what they are. No program is named. The table of .. -/
import Derived.Test.YtooimphimnagaaaChecked
import Derived.Test.YtooimphimnagaaaBPm4
set_option linter.unusedSimpArgs false
set_option linter.unusedVariables false
namespace Go.Proofs.Ytooimphimnagaaa.Ev
open Go.RowKit
variable {P:Program} {γ γ':G} {w0:Bs} {w:World} {H H':Tr EK} {n n':Nat} {T:Tr EV} {tmps:Array Value} {o:Oper}

def RowB (γ:G) (i v:Nat) (sh:List Sh) (rows:List (List U)) (k:Nat):Prop:=∃ (j f:Nat) (s:List Sh) (m:Nat × Nat),j < rows.length∧sh[f]? = some (.list s)∧γ.rw i v (j * sh.length+f)=some (k,m)

def HR.baseN (h:HR γ w0 H n w) {i v:Nat} {ty:TypeId × List TypeId} {sh:List Sh} {rows:List (List U)} {nn:Bool} (hg:H.get i=some (.nest i ty sh rows v [] nn)):Bs:=⟨w,fun c=>w0.F c∨RowB γ i v sh rows c,fun c hc=>by
 rcases hc with hc | ⟨j,f,s,m,h1,h2,h3⟩
 ·have h1:=w0.lt c hc
  have h2:=h.stays.size
  omega
 ·obtain ⟨_,_,_,_,arr,ty',⟨fz,h5,_⟩,_⟩:=h.fzk.nst.at' i i ty sh rows v [] nn hg j f s h1 h2 (by simp) c m h3
  exact (Array.getElem?_eq_some_iff.1 h5).1,w0.res,w0.fb⟩
theorem HR.nestCells (h:HR γ w0 H n w) {i v:Nat} (hi:Nat.ble i 65535=true) {ty:TypeId × List TypeId} {sh:List Sh} {rows:List (List U)} {nn:Bool} (hg:H.get i=some (.nest i ty sh rows v [] nn)) (hnil:¬ (EK.nest i ty sh rows v [] nn).Nil) {CS:List EV} (hk:∀ b m,γ i=some (b,m)→(EK.nest i ty sh rows v [] nn).ok γ b m w→(EK.cells ty.1 CS false).ok γ b m w) :
  HR γ (h.baseN hg) (H.put i (some (.cells ty.1 CS false))) n w:=by
 have look:∀ q kq,(H.put i (some (.cells ty.1 CS false))).get q=some kq→(q=i∧kq = .cells ty.1 CS false)∨(q≠i∧H.get q=some kq):=fun q kq hq=>by
  rw [Tr.get_put hi] at hq;split at hq
  ·rename_i e;injection hq with hq;exact .inl ⟨e,hq.symm⟩
  ·rename_i e;exact .inr ⟨e,hq⟩
 have back:∀ q kq,(H.put i (some (.cells ty.1 CS false))).get q=some kq→¬ kq.Nil→∃ k1,H.get q=some k1∧¬ k1.Nil:=fun q kq hq nq=>by
  rcases look q kq hq with ⟨rfl,_⟩ | ⟨_,g2⟩
  ·exact ⟨_,hg,hnil⟩
  ·exact ⟨kq,g2,nq⟩
 have nF:∀ q k1 b m,H.get q=some k1→¬ k1.Nil→γ q=some (b,m)→¬ w0.F b.k→¬ (h.baseN hg).F b.k:=fun q k1 b m h1 h2 h3 h4 hf=>by
  rcases hf with hf | ⟨j,f,s,m2,r1,r2,r3⟩
  ·exact h4 hf
  ·obtain ⟨_,_,g3,_⟩:=h.fzk.nst.at' i i ty sh rows v [] nn hg j f s r1 r2 (by simp) _ m2 r3;exact g3 q k1 b m h1 h2 h3 rfl
 refine ⟨fun q kq hq=>?_,fun q l kq kl hq hl nq nl hne bq bl eq el=>?_,h.fresh,h.rsv,h.lt,⟨rfl,rfl,rfl,Nat.le_refl _,fun _ _=>rfl⟩,⟨fun k a hk'=>?_,h.fzk.base,h.fzk.nst.rwg,fun q me2 ty2 sh2 rows2 v2 ho2 nn2 e=>?_,fun q me2 ty2 sh2 rows2 v2 ho2 nn2 e j1 f1 x1 hj1 hf1 hh1 k1 m1 hk1=>?_⟩⟩
 ·rcases look q kq hq with ⟨rfl,rfl⟩ | ⟨_,g2⟩
  ·obtain ⟨b,m,h1,h2,h3⟩:=h.hp q _ hg hnil;exact .inr ⟨b,m,h1,nF q _ b m hg hnil h1 h2,hk b m h1 h3⟩
  ·refine h.imp0 g2 fun nk b m h1 h2 h3=>⟨b,m,h1,nF q kq b m g2 nk h1 h2,h3⟩
 ·obtain ⟨k1,q1,q2⟩:=back q kq hq nq;obtain ⟨k2,r1,r2⟩:=back l kl hl nl;exact h.inj0 q l k1 k2 q1 r1 q2 r2 hne bq bl eq el
 ·obtain ⟨q1,q2,q3⟩:=h.fzk.at' k a hk';refine ⟨q1,?_,fun q kq b m hq nq eq=>?_⟩
  ·rcases q2 with q2 | q2
   ·exact .inl q2
   ·refine .inr fun hf=>?_;rcases hf with hf | ⟨j,f,s,m2,r1,r2,r3⟩
    ·exact q2 hf
    ·obtain ⟨_,g2,_⟩:=h.fzk.nst.at' i i ty sh rows v [] nn hg j f s r1 r2 (by simp) _ m2 r3;rw [hk'] at g2;cases g2
  ·obtain ⟨k1,r1,r2⟩:=back q kq hq nq;exact q3 q k1 b m r1 r2 eq
 ·rcases look q _ e with ⟨_,h2⟩ | ⟨_,g2⟩
  ·cases h2
  ·exact h.fzk.nst.me q me2 ty2 sh2 rows2 v2 ho2 nn2 g2
 ·rcases look q _ e with ⟨_,h2⟩ | ⟨hqi,g2⟩
  ·cases h2
  ·obtain ⟨q1,q2,q3,q4,q5⟩:=h.fzk.nst.at' q me2 ty2 sh2 rows2 v2 ho2 nn2 g2 j1 f1 x1 hj1 hf1 hh1 k1 m1 hk1;refine ⟨fun hf=>?_,q2,fun i' ki b m' hi' ni ei=>?_,fun i2 me3 ty3 sh3 rows3 v3 ho3 nn3 e2 j2 f2 s2 hj2 hf2 hh2 m2 hk2=>?_,q5⟩
   ·rcases hf with hf | ⟨j,f,s,m2,r1,r2,r3⟩
    ·exact q1 hf
    ·have:=q4 i i ty sh rows v [] nn hg j f s r1 r2 (by simp) m2 r3;exact hqi this.1.symm
   ·obtain ⟨k2,r1,r2⟩:=back i' ki hi' ni;exact q3 i' k2 b m' r1 r2 ei
   ·rcases look i2 _ e2 with ⟨_,h2⟩ | ⟨_,r2⟩
    ·cases h2
    ·exact q4 i2 me3 ty3 sh3 rows3 v3 ho3 nn3 r2 j2 f2 s2 hj2 hf2 hh2 m2 hk2

def G.nestAt (γ γ':G) (n i v L:Nat):G:=⟨fun a=>if a=n+1 then γ' n else γ' a,γ'.fz,fun a v' q=>if a=n+1 then (if v'=0∧q < L then γ.rw i v q else none) else γ'.rw a v' q⟩
theorem HR.nestBack {B:Bs} {i v:Nat} {ty:TypeId × List TypeId} {s1:List Sh} {rows:List (List U)} (hnb:Nat.ble n 65535=true) (hnb2:Nat.ble (n+1) 65535=true) {H1:Tr EK} {w':World} (h':HR γ' B H1 (n+1) w') (hst:w0.Stays w') (sub:∀ k,w0.F k→B.F k) (hfb:∀ k,B.fb k↔w0.fb k) (hrsv:∀ q,w0.res q→B.res q)
  (hrow:∀ j k m,j < rows.length→γ.rw i v j=some (k,m)→B.F k∧¬ w0.F k∧¬ w0.fb k∧(∀ j2 m2,j2 < rows.length→γ.rw i v j2=some (k,m2)→j2=j)∧∃ (arr:Array Value) (ty':TypeId),Cl w' k arr ty'∧(arr.size=m.1+m.2∧ty'=ty.2.getD 0 0)∧∀ (a g:Nat) (s:Sh),a < (((rows.getD j []).getD 0 (.i 0)).list).length→s1[g]? = some s→∃ x,arr[m.1+(a * s1.length+g)]? = some x∧EC γ' (s.ev (((((rows.getD j []).getD 0 (.i 0)).list).getD a []).getD g (.i 0))) x)
  {CS:List EV} (hg1:H1.get n=some (.cells ty.1 CS false)) {r0:List U}
  (hok:∀ b m,γ' n=some (b,m)→(EK.cells ty.1 CS false).ok γ' b m w'→(EK.nest (n+1) ty [.list s1] (rows ++ [r0]) 0 [(rows.length,0)] true).ok (G.nestAt γ γ' n i v rows.length) b m w') :
  GLe γ' (G.nestAt γ γ' n i v rows.length)∧HR (G.nestAt γ γ' n i v rows.length) w0 ((H1.put n none).put (n+1) (some (.nest (n+1) ty [.list s1] (rows ++ [r0]) 0 [(rows.length,0)] true))) (n+2) w':=by
 have hfr:γ' (n+1)=none:=h'.fresh _ (Nat.le_refl _);have hrwn:∀ v' q,γ'.rw (n+1) v' q=none:=fun v' q=>by
  cases e:γ'.rw (n+1) v' q with
  | none=>rfl
  | some p=>obtain ⟨b,hb⟩:=h'.fzk.nst.rwg _ _ _ _ e;rw [hfr] at hb;cases hb
 have gN:(G.nestAt γ γ' n i v rows.length) (n+1)=γ' n:=if_pos rfl;have gO:∀ a,a≠n+1→(G.nestAt γ γ' n i v rows.length) a=γ' a:=fun a ha=>if_neg ha;have rO:∀ a v' q,a≠n+1→(G.nestAt γ γ' n i v rows.length).rw a v' q=γ'.rw a v' q:=fun a v' q ha=>if_neg ha;have rN:∀ v' q,(G.nestAt γ γ' n i v rows.length).rw (n+1) v' q=if v'=0∧q < rows.length then γ.rw i v q else none:=fun v' q=>if_pos rfl
 have hle2:GLe γ' (G.nestAt γ γ' n i v rows.length):=by
  refine ⟨fun a p e=>?_,fun k a e=>e,fun a v' q p e=>?_⟩
  ·have:a≠n+1:=fun x=>by rw [x,hfr] at e;cases e
   rw [gO a this];exact e
  ·have:a≠n+1:=fun x=>by rw [x,hrwn] at e;cases e
   rw [rO a v' q this];exact e
 refine ⟨hle2,?_⟩;have look:∀ q kq,((H1.put n none).put (n+1) (some (.nest (n+1) ty [.list s1] (rows ++ [r0]) 0 [(rows.length,0)] true))).get q=some kq→(q=n+1∧kq = .nest (n+1) ty [.list s1] (rows ++ [r0]) 0 [(rows.length,0)] true)∨(q≠n+1∧q≠n∧H1.get q=some kq):=fun q kq hq=>by
  rw [Tr.get_put hnb2] at hq;split at hq
  ·rename_i e;injection hq with hq;exact .inl ⟨e,hq.symm⟩
  ·rename_i e;rw [Tr.get_put hnb] at hq;split at hq
   ·cases hq
   ·rename_i e2;exact .inr ⟨e,e2,hq⟩
 have cn:¬ (EK.cells ty.1 CS false).Nil:=id;have back:∀ q kq,((H1.put n none).put (n+1) (some (.nest (n+1) ty [.list s1] (rows ++ [r0]) 0 [(rows.length,0)] true))).get q=some kq→¬ kq.Nil→∃ q1 k1,H1.get q1=some k1∧¬ k1.Nil∧(G.nestAt γ γ' n i v rows.length) q=γ' q1∧(q=n+1∧q1=n∨q≠n+1∧q≠n∧q1=q):=fun q kq hq nq=>by
  rcases look q kq hq with ⟨rfl,_⟩ | ⟨g1,g2,g3⟩
  ·exact ⟨n,_,hg1,cn,gN,.inl ⟨rfl,rfl⟩⟩
  ·exact ⟨q,kq,g3,nq,gO q g1,.inr ⟨g1,g2,rfl⟩⟩
 refine ⟨fun q kq hq=>?_,fun q l kq kl hq hl nq nl hne bq bl eq el=>?_,fun q hq=>?_,fun q hq=>?_,fun q p e=>?_,hst,⟨fun k a hk=>?_,fun k hk=>h'.fzk.base k ((hfb k).2 hk),fun a v' q p e=>?_,fun q me2 ty2 sh2 rows2 v2 ho2 nn2 e=>?_,fun q me2 ty2 sh2 rows2 v2 ho2 nn2 e j1 f1 x1 hj1 hf1 hh1 k1 m1 hk1=>?_⟩⟩
 ·rcases look q kq hq with ⟨rfl,rfl⟩ | ⟨g1,g2,g3⟩
  ·obtain ⟨b,m,e1,e2,e3⟩:=h'.hp n _ hg1 cn;exact .inr ⟨b,m,gN.trans e1,fun hf=>e2 (sub _ hf),hok b m e1 e3⟩
  ·refine h'.imp0 g3 fun nk b m e1 e2 e3=>⟨b,m,(gO q g1).trans e1,fun hf=>e2 (sub _ hf),?_⟩
   cases kq with
   | nest me2 ty2 sh2 rows2 v2 ho2 nn2=>
    obtain ⟨rfl,_⟩:=h'.fzk.nst.me q me2 ty2 sh2 rows2 v2 ho2 nn2 g3;obtain ⟨c,c1,c2,c3,c4⟩:=e3;refine ⟨c,c1,c2,c3,fun j f s hj hf hh=>?_⟩;obtain ⟨x,x1,x2⟩:=c4 j f s hj hf hh;refine ⟨x,x1,?_⟩
    cases s with
    | list sh=>
     rcases x2 with ⟨y1,y2⟩ | ⟨k,m,c',y1,y2⟩
     ·exact .inl ⟨(rO _ _ _ g1).trans y1,y2⟩
     ·exact .inr ⟨k,m,c',(rO _ _ _ g1).trans y1,y2⟩
    | int k=>exact EC.mono hle2 x2
    | bool=>exact EC.mono hle2 x2
    | str=>exact EC.mono hle2 x2
   | _=>exact EK.ok_monoB rfl hle2 rfl e3
 ·obtain ⟨q1,k1,a1,a2,a3,a4⟩:=back q kq hq nq;obtain ⟨q2,k2,b1,b2,b3,b4⟩:=back l kl hl nl;rw [a3] at eq;rw [b3] at el;refine h'.inj0 q1 q2 k1 k2 a1 b1 a2 b2 ?_ bq bl eq el;rcases a4 with ⟨r1,r2⟩ | ⟨r1,r2,r3⟩ <;> rcases b4 with ⟨t1,t2⟩ | ⟨t1,t2,t3⟩ <;> omega
 ·rw [gO q (by omega)];exact h'.fresh q (by omega)
 ·have:=h'.rsv q (hrsv q hq);exact ⟨(gO q (by omega)).trans this.1,by omega⟩
 ·by_cases hq:q=n+1
  ·rw [hq,gN] at e;exact h'.lt n p e
  ·rw [gO q hq] at e;exact h'.lt q p e
 ·obtain ⟨q1,q2,q3⟩:=h'.fzk.at' k a hk;refine ⟨q1,q2.imp (hfb k).1 fun q2 hf=>q2 (sub k hf),fun q kq b m hq nq eq=>?_⟩;obtain ⟨r1,k1,a1,a2,a3,_⟩:=back q kq hq nq;rw [a3] at eq;exact q3 r1 k1 b m a1 a2 eq
 ·by_cases ha:a=n+1
  ·subst ha;obtain ⟨b,m,e1,_⟩:=h'.hp n _ hg1 cn;exact ⟨(b,m),gN.trans e1⟩
  ·rw [rO a v' q ha] at e;obtain ⟨b,hb⟩:=h'.fzk.nst.rwg a v' q p e;exact ⟨b,(gO a ha).trans hb⟩
 ·rcases look q _ e with ⟨rfl,h2⟩ | ⟨g1,g2,g3⟩
  ·injection h2 with y1 y2 y3 y4 y5 y6 y7
   subst y1;subst y5;refine ⟨rfl,fun v' q hv=>?_⟩;rw [rN,if_neg (by omega)]
  ·obtain ⟨r1,r2⟩:=h'.fzk.nst.me q me2 ty2 sh2 rows2 v2 ho2 nn2 g3;exact ⟨r1,fun v' q' hv=>(rO q v' q' g1).trans (r2 v' q' hv)⟩
 ·rcases look q _ e with ⟨rfl,h2⟩ | ⟨g1,g2,g3⟩
  ·injection h2 with y1 y2 y3 y4 y5 y6 y7
   subst y1;subst y2;subst y3;subst y4;subst y5;subst y6;subst y7;have hf0:f1=0∧x1=s1:=by
    cases f1 with
    | zero=>exact ⟨rfl,by simpa using hf1.symm⟩
    | succ f1=>cases hf1
   obtain ⟨rfl,rfl⟩:=hf0;have hj:j1 < rows.length:=by
    rw [List.length_append,List.length_singleton] at hj1;have:j1≠rows.length:=fun x=>hh1 (by rw [x];exact List.mem_singleton.2 rfl);omega
   have hr:γ.rw i v j1=some (k1,m1):=by
    rw [rN] at hk1;split at hk1
    ·simpa using hk1
    ·cases hk1
   obtain ⟨hF,q1,qb,q4,arr,ty',q5,q6,q7⟩:=hrow j1 k1 m1 hj hr;refine ⟨q1,?_,fun a ka b m' ha na ea hb=>?_,fun i2 me2 ty2 sh2 rows2 v2 ho2 nn2 e2 j2 f2 s2 hj2 hf2 hh2 m2 hk2=>?_,arr,ty',q5,q6,fun a g s ha hs=>?_⟩
   ·show γ'.fz k1=none
    cases z:γ'.fz k1 with
    | none=>rfl
    | some a=>
     obtain ⟨_,z2,_⟩:=h'.fzk.at' k1 a z;rcases z2 with z2 | z2
     ·exact absurd ((hfb k1).1 z2) qb
     ·exact absurd hF z2
   ·obtain ⟨r1,k2,a1,a2,a3,_⟩:=back a ka ha na;rw [a3] at ea;obtain ⟨b3,m3,e4,e5,_⟩:=h'.hp r1 k2 a1 a2;rw [ea] at e4;simp only [Option.some.injEq,Prod.mk.injEq] at e4;obtain ⟨rfl,_⟩:=e4;rw [hb] at e5;exact e5 hF
   ·rcases look i2 _ e2 with ⟨rfl,h2⟩ | ⟨t1,t2,t3⟩
    ·injection h2 with y1 y2 y3 y4 y5 y6 y7
     subst y1;subst y2;subst y3;subst y4;subst y5;subst y6;subst y7;have hf0:f2=0:=by
      cases f2 with
      | zero=>rfl
      | succ f2=>cases hf2
     subst hf0;rw [rN] at hk2;split at hk2
     ·rename_i hc;exact ⟨rfl,q4 j2 m2 (by simpa using hc.2) (by simpa using hk2),rfl⟩
     ·cases hk2
    ·rw [rO _ _ _ t1] at hk2;obtain ⟨u1,_⟩:=h'.fzk.nst.at' i2 me2 ty2 sh2 rows2 v2 ho2 nn2 t3 j2 f2 s2 hj2 hf2 hh2 k1 m2 hk2;exact absurd hF u1
   ·have e1:(rows ++ [r0]).getD j1 []=rows.getD j1 []:=by
     rw [List.getD_eq_getElem?_getD,List.getD_eq_getElem?_getD,List.getElem?_append_left hj]
    rw [e1] at ha ⊢;obtain ⟨x,x1,x2⟩:=q7 a g s ha hs;exact ⟨x,x1,x2.mono hle2⟩
  ·rw [rO q _ _ g1] at hk1;obtain ⟨q1,q2,q3,q4,arr,ty',q5,q6,q7⟩:=h'.fzk.nst.at' q me2 ty2 sh2 rows2 v2 ho2 nn2 g3 j1 f1 x1 hj1 hf1 hh1 k1 m1 hk1;refine ⟨fun hf=>q1 (sub _ hf),q2,fun a ka b m' ha na ea=>?_,fun i2 me3 ty3 sh3 rows3 v3 ho3 nn3 e2 j2 f2 s2 hj2 hf2 hh2 m2 hk2=>?_,arr,ty',q5,q6,fun a g s ha hs=>?_⟩
   ·obtain ⟨r1,k2,a1,a2,a3,_⟩:=back a ka ha na;rw [a3] at ea;exact q3 r1 k2 b m' a1 a2 ea
   ·rcases look i2 _ e2 with ⟨rfl,h2⟩ | ⟨t1,t2,t3⟩
    ·injection h2 with y1 y2 y3 y4 y5 y6 y7
     subst y1;subst y2;subst y3;subst y4;subst y5;subst y6;subst y7;have hf0:f2=0:=by
      cases f2 with
      | zero=>rfl
      | succ f2=>cases hf2
     subst hf0;rw [rN] at hk2;split at hk2
     ·rename_i hc;exact absurd (hrow (j2 * [Sh.list s1].length+0) k1 m2 hc.2 hk2).1 q1
     ·cases hk2
    ·rw [rO _ _ _ t1] at hk2;exact q4 i2 me3 ty3 sh3 rows3 v3 ho3 nn3 t3 j2 f2 s2 hj2 hf2 hh2 m2 hk2
   ·obtain ⟨x,x1,x2⟩:=q7 a g s ha hs;exact ⟨x,x1,x2.mono hle2⟩
theorem nest_fin {B:Bs} {i v r:Nat} {ty:TypeId × List TypeId} {s1:List Sh} {rows:List (List U)} {c:SyC} {xr v':Value} (hnb:Nat.ble n 65535=true) (hnb2:Nat.ble (n+1) 65535=true) (hrb:Nat.ble r 65535=true) {H1:Tr EK} {w':World} (h':HR γ' B H1 (n+1) w') (hst:w0.Stays w') (sub:∀ k,w0.F k→B.F k) (hfb:∀ k,B.fb k↔w0.fb k) (hrsv:∀ q,w0.res q→B.res q)
  (hrow:∀ j k m,j < rows.length→γ.rw i v j=some (k,m)→B.F k∧¬ w0.F k∧¬ w0.fb k∧(∀ j2 m2,j2 < rows.length→γ.rw i v j2=some (k,m2)→j2=j)∧∃ (arr:Array Value) (ty':TypeId),Cl w' k arr ty'∧(arr.size=m.1+m.2∧ty'=ty.2.getD 0 0)∧∀ (a g:Nat) (s:Sh),a < (((rows.getD j []).getD 0 (.i 0)).list).length→s1[g]? = some s→∃ x,arr[m.1+(a * s1.length+g)]? = some x∧EC γ' (s.ev (((((rows.getD j []).getD 0 (.i 0)).list).getD a []).getD g (.i 0))) x)
  {CS:List EV} (hg1:H1.get n=some (.cells ty.1 (CS ++ [.v xr]) false)) (hCl:CS.length=rows.length) (hCS:∀ j,j < rows.length→∃ x,CS[j]? = some (.v x)∧SlR γ i v j s1.length ((rows.getD j []).getD 0 (.i 0)).list.length x)
  (hgr:H1.get r=some (.seq (ty.2.getD 0 0) c true)) (hrn:r < n) (hsh:c.sh=s1) (hxr:EC γ' (.slO r s1.length c.cnt true) xr) (hv:EC γ' (.slO n 1 (rows.length+1) true) v') :
  ∃ γ3,GLe γ' γ3∧HR γ3 w0 (((H1.put n none).put r none).put (n+1) (some (.nest (n+1) ty [.list s1] (rows ++ [[.l c.rows]]) 1 [] true))) (n+2) w'∧EC γ3 (.slO (n+1) 1 (rows.length+1) true) v':=by
 have one:∀ j:Nat,j * [Sh.list s1].length+0=j:=fun j=>by show j * 1+0=j;omega
 obtain ⟨hle,h2⟩:=HR.nestBack (γ:=γ) (i:=i) (v:=v) (rows:=rows) (s1:=s1) hnb hnb2 h' hst sub hfb hrsv hrow hg1 (r0:=[.l []]) fun b m hb ⟨ca,c1,c2,c3,c4,c5⟩=>by
  refine ⟨ca,c1,c2,?_,fun j f s hj hf hh=>?_⟩
  ·rw [List.length_append,List.length_singleton] at c3 ⊢;show (rows.length+1) * 1≤m;omega
  ·have hf0:f=0∧s = .list s1:=by
    cases f with
    | zero=>exact ⟨rfl,by simpa using hf.symm⟩
    | succ f=>cases hf
   obtain ⟨rfl,rfl⟩:=hf0;have hj:j < rows.length:=by
    rw [List.length_append,List.length_singleton] at hj;have:j≠rows.length:=fun x=>hh (by rw [x];exact List.mem_singleton.2 rfl);omega
   obtain ⟨x,x1,x2⟩:=hCS j hj;have x3:(CS ++ [EV.v xr])[j]? = some (.v x):=by rw [List.getElem?_append_left (by omega)];exact x1
   obtain ⟨u,hu,hcu⟩:=c5.at x3;have:u=x:=by cases hcu;rfl
   subst this;rw [List.getElem?_take] at hu;split at hu
   case isFalse=>cases hu
   rw [List.getElem?_drop,Array.getElem?_toList] at hu;refine ⟨u,by rw [one];exact hu,?_⟩;rw [one];have e1:(rows ++ [[U.l []]]).getD j []=rows.getD j []:=by
    rw [List.getD_eq_getElem?_getD,List.getD_eq_getElem?_getD,List.getElem?_append_left hj]
   rw [e1];have e2:(G.nestAt γ γ' n i v rows.length).rw (n+1) 0 j=γ.rw i v j:=by
    show (if n+1=n+1 then (if (0:Nat)=0∧j < rows.length then γ.rw i v j else none) else _)=_
    rw [if_pos rfl,if_pos ⟨rfl,hj⟩]
   rcases x2 with ⟨y1,y2⟩ | ⟨k,m2,c',y1,y2⟩
   ·exact .inl ⟨e2.trans y1,y2⟩
   ·exact .inr ⟨k,m2,c',e2.trans y1,y2⟩
 have hcl:(rows ++ [[U.l []]]).length=rows.length+1:=by rw [List.length_append,List.length_singleton]
 have hg2:((H1.put n none).put (n+1) (some (.nest (n+1) ty [.list s1] (rows ++ [[U.l []]]) 0 [(rows.length,0)] true))).get (n+1)=some (.nest (n+1) ty [.list s1] (rows ++ [[U.l []]]) 0 [(rows.length,0)] true):=by rw [Tr.get_put hnb2,if_pos rfl]
 have hgr2:((H1.put n none).put (n+1) (some (.nest (n+1) ty [.list s1] (rows ++ [[U.l []]]) 0 [(rows.length,0)] true))).get r=some (.seq (ty.2.getD 0 0) c true):=by rw [Tr.get_put hnb2,if_neg (by omega),Tr.get_put hnb,if_neg (by omega)];exact hgr
 have hnil2:¬ (EK.nest (n+1) ty [.list s1] (rows ++ [[U.l []]]) 0 [(rows.length,0)] true).Nil:=fun e=>by cases e.1
 have hxr2:=hxr.mono hle
 cases hxr2 with
 | slO _ _ _ _ _ hs=>
 obtain ⟨b2,m2,cp,q1,rfl,q2,q3,q4⟩:=hs.2 rfl;obtain ⟨hle3,h3⟩:=h2.rowIn hnb2 hrb (by omega) hg2 hnil2 (j:=rows.length) (f:=0) (sh':=s1) (ho':=[]) (by rw [hcl];omega) rfl (fun p hp=>by
   by_cases e:p=(rows.length,0)
   ·exact .inr e
   ·exact .inl fun hm=>e (List.mem_singleton.1 hm)) (L:=c.rows) hgr2 q1 (fun ca g1 g2 g3 a g s ha hs=>by
   have ha2:a < c.cnt:=by rw [c.cnt_eq];exact ha
   have hs':c.sh[g]? = some s:=by rw [hsh];exact hs
   have hg2:g < c.cz:=by rw [c.cz_sh];exact (List.getElem?_eq_some_iff.1 hs').1
   have hcell:=SyC.cellE_enc ha2 hg2;obtain ⟨u,hu,hcu⟩:=g3.at hcell;rw [List.getElem?_take] at hu;split at hu
   case isFalse=>cases hu
   rw [List.getElem?_drop,Array.getElem?_toList] at hu;rw [← hsh,← c.cz_sh];exact ⟨u,hu,by rw [SyC.ev_cellE ha hs'];exact hcu⟩) (fun bi mi ci e1 e2=>by
   have e1':γ' n=some (bi,mi):=by
    have:(G.nestAt γ γ' n i v rows.length) (n+1)=γ' n:=if_pos rfl;rw [← this];exact e1
   obtain ⟨b3,m3,k1,k2,ca,c1,c2,c3,c4,c5⟩:=h'.hp n _ hg1 id;rw [e1'] at k1;simp only [Option.some.injEq,Prod.mk.injEq] at k1;obtain ⟨rfl,rfl⟩:=k1;have x3:(CS ++ [EV.v (Value.slice (some (b2.at 0)) c.cnt cp)])[rows.length]? = some (.v (Value.slice (some (b2.at 0)) c.cnt cp)):=by rw [← hCl,List.getElem?_append_right (Nat.le_refl _),Nat.sub_self];rfl
   obtain ⟨u,hu,hcu⟩:=c5.at x3;have hu2:u=Value.slice (some (b2.at 0)) c.cnt cp:=by cases hcu;rfl
   subst hu2;rw [List.getElem?_take] at hu;split at hu
   case isFalse=>cases hu
   rw [List.getElem?_drop,Array.getElem?_toList] at hu;obtain ⟨fz1,g4,_⟩:=e2;obtain ⟨fz2,g5,_⟩:=c1;rw [g4] at g5;simp only [Option.some.injEq,Obj.cells.injEq] at g5;refine ⟨cp,?_,by rw [← c.cnt_eq];exact q2,q3,q4⟩;rw [one,g5.1,hu,← c.cnt_eq];rfl)
 refine ⟨_,hle.trans hle3,?_,?_⟩
 ·refine h3.congr fun q kq hq=>?_;have er:(rows ++ [[U.l []]]).set rows.length (rset 0 (.l c.rows) ((rows ++ [[U.l []]]).getD rows.length []))=rows ++ [[.l c.rows]]:=by
   have e5:(rows ++ [[U.l []]]).getD rows.length []=[U.l []]:=by
    rw [List.getD_eq_getElem?_getD,List.getElem?_append_right (Nat.le_refl _),Nat.sub_self];rfl
   rw [e5,List.set_append_right _ _ (Nat.le_refl _),Nat.sub_self];rfl
  rw [er];rw [Tr.get_put hnb2] at hq ⊢;split at hq
  ·rename_i e;rw [if_pos e];exact hq
  ·rename_i e;rw [if_neg e];rw [Tr.get_put hrb] at hq ⊢;split at hq
   ·cases hq
   ·rename_i e2;rw [if_neg e2,Tr.get_put hnb2,if_neg e];exact hq
 ·have hv2:=hv.mono hle;refine EC.mono hle3 ?_
  cases hv with
  | slO _ _ _ _ _ hs2=>
   obtain ⟨b5,m5,c5,t1,t2⟩:=hs2.2 rfl;exact .slO _ _ _ _ _ ⟨nofun,fun _=>⟨b5,m5,c5,(if_pos rfl:(G.nestAt γ γ' n i v rows.length) (n+1)=γ' n).trans t1,t2⟩⟩

noncomputable def apNst (ei:EI) (i z len:Nat) (nn:Bool) (m:Nat) (news:List EV) (H:Tr EK) (n:Nat):Option YR:=match H.get i,news with
 | some (.nest _ ty [.list s1] rows v [] nn'),[.slO r z2 len2 nn2]=>match H.get r with
  | some (.seq tyr c nnr)=>bc (Nat.beq m 1) (bc (Nat.beq z 1) (bc (Nat.beq ei.z 1) (bc (Nat.beq ei.e ty.1) (bc (Nat.beq z2 (llen s1)) (bc (shsEq c.sh s1) (bc (Nat.beq tyr (ty.2.getD 0 0)) (bc (Nat.ble i 65535) (bc (Nat.ble r 65535) (bc (Nat.ble (n+1) 65535) (bc (Nat.beq r i) none
    (some ⟨bc nn2 (bc nnr (bc (Nat.beq len2 c.cnt) (bc (Nat.beq len rows.length) (bc (Nat.ble (len+1) 65536) (bc nn' true (bc nn false true)) false) false) false) false) false,⟨some (.slO (n+1) 1 (len+1) true),(((H.put i none).put n none).put r none).put (n+1) (some (.nest (n+1) ty [.list s1] (rows ++ [[.l c.rows]]) 1 [] true)),n+2⟩⟩)) none) none) none) none) none) none) none) none) none) none
  | _=>none
 | _,_=>none
theorem bcN {α:Type} {b:Bool} {x e y:α} (h:bc b x e=y) (hn:e≠y):b=true∧x=y:=by
 cases b with
 | false=>exact absurd h hn
 | true=>exact ⟨rfl,h⟩
theorem ecl_v (γ:G) (l:List Value):ECL γ (l.map EV.v) l:=⟨by simp,fun j a y ha hy=>by
 rw [List.getElem?_map,hy] at ha;injection ha with ha;subst ha
 exact .v _⟩
theorem apNst_ok (hT:TOk γ T tmps) (hH:HR γ w0 H n w) {t ty:TypeId} {ei:EI} (hei:elemInfo P t=some ei) {i z len:Nat} {nn:Bool} {vs:Value} {m:Nat} {news:List EV} {r:YR} (hs:EC γ (.slO i z len nn) vs) {a:Addr} {ca:Nat} {ns:List Value} (hcn:ECL γ news ns) (hnl:ns.length=m * ei.z) (hnc:∀ j u,ns[j]? = some u→w.cell? (a.add j)=some u) (h:apNst ei i z len nn m news H n=some r) (hc:r.c=true) :
  ∃ γ' w' v',GLe γ γ'∧HR γ' w0 r.er.H r.er.n w'∧(Builtin.append_ #[t,t] ty #[vs,.slice (some a) m ca]).run P w = .ok v' w'∧∃ a,r.er.val=some a∧EC γ' a v':=by
 unfold apNst at h;split at h
 case h_2=>cases h
 rename_i me tyN s1 rows v nn' r0 z2 len2 nn2 hg;split at h
 case h_2=>cases h
 rename_i tyr c nnr hgr;obtain ⟨k1,h⟩:=bcN h nofun;obtain ⟨k2,h⟩:=bcN h nofun;obtain ⟨k3,h⟩:=bcN h nofun;obtain ⟨k4,h⟩:=bcN h nofun;obtain ⟨k5,h⟩:=bcN h nofun;obtain ⟨k6,h⟩:=bcN h nofun;obtain ⟨k7,h⟩:=bcN h nofun;obtain ⟨hi,h⟩:=bcN h nofun;obtain ⟨hrb,h⟩:=bcN h nofun;obtain ⟨hnb2,h⟩:=bcN h nofun;rw [bc_eq] at h;split at h
 case isTrue=>cases h
 rename_i hri;injection h with h;subst h
 obtain ⟨d1,hc⟩:=bcN (show bc nn2 _ _=true from hc) nofun;obtain ⟨d2,hc⟩:=bcN hc nofun;obtain ⟨d3,hc⟩:=bcN hc nofun;obtain ⟨d4,hc⟩:=bcN hc nofun;obtain ⟨d5,d6⟩:=bcN hc nofun;have k1:=Nat.eq_of_beq_eq_true k1;have k2:=Nat.eq_of_beq_eq_true k2;have k3:=Nat.eq_of_beq_eq_true k3;have k4:=Nat.eq_of_beq_eq_true k4;have k5:=Nat.eq_of_beq_eq_true k5;rw [llen_eq] at k5;have k6:=shsEq_ok k6;have k7:=Nat.eq_of_beq_eq_true k7;have d3:=Nat.eq_of_beq_eq_true d3;have d4:=Nat.eq_of_beq_eq_true d4
 have hri:r0≠i:=fun e=>hri (by rw [e];exact Nat.beq_refl i);subst k1;subst k2;subst k5;subst k7;subst d1;subst d2;subst d3;subst d4;have hnb:Nat.ble n 65535=true:=Nat.ble_eq_true_of_le (by have:=Nat.le_of_ble_eq_true hnb2;omega);obtain ⟨hme,_⟩:=hH.fzk.nst.me i me tyN [.list s1] rows v [] nn' hg;have hme:=hme.symm;subst hme;obtain ⟨xr,us,rfl,hxr,hus⟩:=ECL.inv hcn;have hus:us=[]:=List.eq_nil_of_length_eq_zero (by have:=hus.1;simpa using this.symm);subst hus;have hrnil:¬ (EK.seq (tyN.2.getD 0 0) c true).Nil:=fun e=>by cases e.1
 have hrn:r0 < n:=by
  obtain ⟨b,mm,e1,_⟩:=hH.hp r0 _ hgr hrnil;rcases Nat.lt_or_ge r0 n with h | h
  ·exact h
  ·rw [hH.fresh r0 h] at e1;cases e1
 have hone:allOne [EV.v xr]=true:=by
  cases hxr with
  | slO _ _ _ _ _ hs=>obtain ⟨b2,m2,cp,q1,rfl,_⟩:=hs.2 rfl;rfl
 have hcv:ECL γ [EV.v xr] [xr]:=ecl_v γ [xr]
 cases nn with
 | false=>
  obtain ⟨rfl,hl0⟩:=slO_nil hs;have hr0:rows=[]:=List.eq_nil_of_length_eq_zero hl0;subst hr0;have hap:exAppendN ei (.v (.slice none 0 0)) 1 [EV.v xr] H n=some ⟨some (.sl n ei.z 0 (0+1) none),H.put n (some (.cells ei.e ([] ++ [EV.v xr]) false)),Nat.succ n⟩:=by
   unfold exAppendN exGrow;simp only [bc_eq,Nat.beq_refl,hnb,hone];rfl
  obtain ⟨γ',w',v',q1,q2,q3,a2,q4,q5⟩:=exAppendN_ok (ty:=ty) (c:=ca) hT hH hei (.v (γ:=γ) (.slice none 0 0)) hcv hnl hnc hap;injection q4 with q4;subst q4;have q6:=sl_slO q5;rw [k3] at q6;rw [k4] at q2
  obtain ⟨γ3,g1,g2,g3⟩:=nest_fin (γ:=γ) (i:=i) (v:=v) (rows:=[]) (r:=r0) (c:=c) (s1:=s1) (ty:=tyN) (CS:=[]) hnb hnb2 hrb q2 q2.stays (fun _ h=>h) (fun _=>Iff.rfl) (fun _ h=>h) (fun j k m hj=>absurd hj (Nat.not_lt_zero _)) (by rw [Tr.get_put hnb,if_pos rfl]) rfl (fun j hj=>absurd hj (Nat.not_lt_zero _)) (by rw [Tr.get_put hnb,if_neg (by omega)];exact hgr) hrn k6 (hxr.mono q1) q6;refine ⟨γ3,w',v',q1.trans g1,g2.congr fun q kq hq=>?_,q3,_,rfl,g3⟩;rw [Tr.get_put hnb2] at hq ⊢;split at hq
  ·rename_i e;rw [if_pos e];exact hq
  ·rename_i e;rw [if_neg e];rw [Tr.get_put hrb] at hq ⊢;split at hq
   ·cases hq
   ·rename_i e2;rw [if_neg e2];rw [Tr.get_put hnb] at hq ⊢;split at hq
    ·cases hq
    ·rename_i e3;rw [if_neg e3,Tr.get_put hnb,if_neg e3];rw [Tr.get_put hi] at hq;split at hq
     ·cases hq
     ·exact hq
 | true=>
  have hnn':nn'=true:=by
   cases nn' with
   | true=>rfl
   | false=>cases d6
  subst hnn';have hnil:¬ (EK.nest i tyN [.list s1] rows v [] true).Nil:=fun e=>by cases e.1
  obtain ⟨b,mm,e1,e2,cc,c1,c2,c3,c4⟩:=hH.hp i _ hg hnil;have c3:rows.length * 1≤mm:=c3;have hlenx:((cc.toList.drop b.s).take rows.length).length=rows.length:=by
   have h9:cc.toList.length=b.s+mm:=by rw [Array.length_toList,c2]
   rw [List.length_take,List.length_drop];omega
  have hCl:(((cc.toList.drop b.s).take rows.length).map EV.v).length=rows.length:=by rw [List.length_map,hlenx]
  have hCS:∀ j,j < rows.length→∃ x,(((cc.toList.drop b.s).take rows.length).map EV.v)[j]? = some (.v x)∧SlR γ i v j s1.length ((rows.getD j []).getD 0 (.i 0)).list.length x:=fun j hj=>by
   obtain ⟨x,x1,x2⟩:=c4 j 0 (.list s1) hj rfl (by simp);have e5:j * [Sh.list s1].length+0=j:=by show j * 1+0=j;omega
   rw [e5] at x1 x2;refine ⟨x,?_,x2⟩;rw [List.getElem?_map,List.getElem?_take,if_pos hj,List.getElem?_drop,Array.getElem?_toList,x1];rfl
  generalize hCSd:((cc.toList.drop b.s).take rows.length).map EV.v=CS at hCl hCS;have hR1:=hH.nestCells hi hg hnil (CS:=CS) fun b' m' hb _=>by
   rw [e1] at hb;simp only [Option.some.injEq,Prod.mk.injEq] at hb;obtain ⟨rfl,rfl⟩:=hb;refine ⟨cc,c1,c2,by omega,(fun e=>by cases e),?_⟩;rw [hCl,← hCSd];exact ecl_v γ _
  obtain ⟨_,hsl⟩:=slO_sl hs (.inl rfl);have hgi:(H.put i (some (EK.cells tyN.1 CS false))).get i=some (.cells tyN.1 CS false):=by rw [Tr.get_put hi,if_pos rfl]
  have hca:cellsAt (H.put i (some (.cells tyN.1 CS false))) i=some (tyN.1,CS,false):=by unfold cellsAt;rw [hgi]
  have hap:exAppendN ei (.sl i 1 0 rows.length none) 1 [EV.v xr] (H.put i (some (.cells tyN.1 CS false))) n=some ⟨some (.sl n ei.z 0 (rows.length+1) none),((H.put i (some (.cells tyN.1 CS false))).put i none).put n (some (.cells ei.e (((CS.drop 0).take (Nat.mul rows.length 1)) ++ [EV.v xr]) false)),Nat.succ n⟩:=by
   unfold exAppendN;simp only [bc_eq,k3,k4,Nat.beq_refl,hca];have e3:Nat.ble (Nat.add 0 (Nat.mul rows.length 1)) (llen CS)=true:=by
    rw [llen_eq,hCl];exact Nat.ble_eq_true_of_le (show 0+rows.length * 1≤rows.length by omega)
   simp only [e3,hi];unfold exGrow;simp only [bc_eq,hnb,hone,show Nat.ble (Nat.add rows.length 1) 65536=true from d5,if_true]
  obtain ⟨γ',w',v',q1,q2,q3,a2,q4,q5⟩:=exAppendN_ok (ty:=ty) (c:=ca) hT hR1 hei hsl hcv hnl hnc hap;injection q4 with q4;subst q4;have q6:=sl_slO q5;rw [k3] at q6;have e6:(CS.drop 0).take (Nat.mul rows.length 1)=CS:=by
   rw [List.drop_zero,show Nat.mul rows.length 1=CS.length by rw [hCl];exact Nat.mul_one _,List.take_length]
  rw [k4,e6] at q2;have q2:HR γ' (hH.baseN hg) (((H.put i (some (.cells tyN.1 CS false))).put i none).put n (some (.cells tyN.1 (CS ++ [EV.v xr]) false))) (n+1) w':=q2;have hst:w0.Stays w':=⟨q2.stays.os.trans hH.stays.os,q2.stays.tape.trans hH.stays.tape,q2.stays.output.trans hH.stays.output,Nat.le_trans hH.stays.size q2.stays.size,fun k hk=>(q2.stays.block k (.inl hk)).trans (hH.stays.block k hk)⟩
  obtain ⟨γ3,g1,g2,g3⟩:=nest_fin (γ:=γ) (i:=i) (v:=v) (rows:=rows) (r:=r0) (c:=c) (s1:=s1) (ty:=tyN) (CS:=CS) hnb hnb2 hrb q2 hst (fun _ h=>.inl h) (fun _=>Iff.rfl) (fun _ h=>h) (fun j k m hj hr=>by
   have hr2:γ.rw i v (j * [Sh.list s1].length+0)=some (k,m):=by show γ.rw i v (j * 1+0)=_;rw [Nat.mul_one,Nat.add_zero];exact hr
   obtain ⟨p1,p2,p3,p4,arr,ty',p5,p6,p7⟩:=hH.fzk.nst.at' i i _ [.list s1] rows v [] true hg j 0 s1 hj rfl (by simp) k m hr2;have hF:(hH.baseN hg).F k:=.inr ⟨j,0,s1,m,hj,rfl,hr2⟩;refine ⟨hF,p1,fun hb=>?_,fun j2 m2 hj2 hr3=>?_,arr,ty',p5.mono (q2.stays.block k hF),p6,fun a g s ha hs=>?_⟩
   ·obtain ⟨a3,z⟩:=hH.fzk.base k hb;rw [p2] at z;cases z
   ·exact (p4 i i _ [.list s1] rows v [] true hg j2 0 s1 hj2 rfl (by simp) m2 (by show γ.rw i v (j2 * 1+0)=_;rw [Nat.mul_one,Nat.add_zero];exact hr3)).2.1
   ·obtain ⟨x,x1,x2⟩:=p7 a g s ha hs;exact ⟨x,x1,x2.mono q1⟩) (by rw [Tr.get_put hnb,if_pos rfl]) hCl hCS (by rw [Tr.get_put hnb,if_neg (by omega),Tr.get_put hi,if_neg hri,Tr.get_put hi,if_neg hri];exact hgr) hrn k6 (hxr.mono q1) q6
  refine ⟨γ3,w',v',q1.trans g1,g2.congr fun q kq hq=>?_,q3,_,rfl,g3⟩;rw [Tr.get_put hnb2] at hq ⊢;split at hq
  ·rename_i e;rw [if_pos e];exact hq
  ·rename_i e;rw [if_neg e];rw [Tr.get_put hrb] at hq ⊢;split at hq
   ·cases hq
   ·rename_i e2;rw [if_neg e2];rw [Tr.get_put hnb] at hq ⊢;split at hq
    ·cases hq
    ·rename_i e3;rw [if_neg e3,Tr.get_put hnb,if_neg e3];rw [Tr.get_put hi] at hq ⊢;split at hq
     ·cases hq
     ·rename_i e4;rw [if_neg e4,Tr.get_put hi,if_neg e4];exact hq

noncomputable def apNs0 (ei:EI) (m:Nat) (news:List EV) (H:Tr EK) (n:Nat):Option YR:=match news with
 | [.slO r z2 len2 nn2]=>match H.get r with
  | some (.seq tyr c nnr)=>bc (Nat.beq m 1) (bc (Nat.beq ei.z 1) (bc (Nat.beq z2 (llen c.sh)) (bc (Nat.ble r 65535) (bc (Nat.ble (n+1) 65535)
    (some ⟨bc nn2 (bc nnr (Nat.beq len2 c.cnt) false) false,⟨some (.slO (n+1) 1 (0+1) true),((H.put n none).put r none).put (n+1) (some (.nest (n+1) (ei.e,[tyr]) [.list c.sh] [[.l c.rows]] 1 [] true)),n+2⟩⟩) none) none) none) none) none
  | _=>none
 | _=>none
theorem apNs0_ok (hT:TOk γ T tmps) (hH:HR γ w0 H n w) {t ty:TypeId} {ei:EI} (hei:elemInfo P t=some ei) {m:Nat} {news:List EV} {r:YR} {a:Addr} {ca:Nat} {ns:List Value} (hcn:ECL γ news ns) (hnl:ns.length=m * ei.z) (hnc:∀ j u,ns[j]? = some u→w.cell? (a.add j)=some u) (h:apNs0 ei m news H n=some r) (hc:r.c=true) :
  ∃ γ' w' v',GLe γ γ'∧HR γ' w0 r.er.H r.er.n w'∧(Builtin.append_ #[t,t] ty #[.slice none 0 0,.slice (some a) m ca]).run P w = .ok v' w'∧∃ a,r.er.val=some a∧EC γ' a v':=by
 unfold apNs0 at h;split at h
 case h_2=>cases h
 rename_i r0 z2 len2 nn2;split at h
 case h_2=>cases h
 rename_i tyr c nnr hgr;obtain ⟨k1,h⟩:=bcN h nofun;obtain ⟨k3,h⟩:=bcN h nofun;obtain ⟨k5,h⟩:=bcN h nofun;obtain ⟨hrb,h⟩:=bcN h nofun;obtain ⟨hnb2,h⟩:=bcN h nofun;injection h with h;subst h
 obtain ⟨d1,hc⟩:=bcN (show bc nn2 _ _=true from hc) nofun;obtain ⟨d2,d3⟩:=bcN hc nofun;have k1:=Nat.eq_of_beq_eq_true k1;have k3:=Nat.eq_of_beq_eq_true k3;have k5:=Nat.eq_of_beq_eq_true k5;rw [llen_eq] at k5;have d3:=Nat.eq_of_beq_eq_true d3;subst k1;subst k5;subst d1;subst d2;subst d3;have hnb:Nat.ble n 65535=true:=Nat.ble_eq_true_of_le (by have:=Nat.le_of_ble_eq_true hnb2;omega);obtain ⟨xr,us,rfl,hxr,hus⟩:=ECL.inv hcn;have hus:us=[]:=List.eq_nil_of_length_eq_zero (by have:=hus.1;simpa using this.symm);subst hus
 have hrnil:¬ (EK.seq tyr c true).Nil:=fun e=>by cases e.1
 have hrn:r0 < n:=by
  obtain ⟨b,mm,e1,_⟩:=hH.hp r0 _ hgr hrnil;rcases Nat.lt_or_ge r0 n with h | h
  ·exact h
  ·rw [hH.fresh r0 h] at e1;cases e1
 have hone:allOne [EV.v xr]=true:=by
  cases hxr with
  | slO _ _ _ _ _ hs=>obtain ⟨b2,m2,cp,q1,rfl,_⟩:=hs.2 rfl;rfl
 have hcv:ECL γ [EV.v xr] [xr]:=ecl_v γ [xr];have hap:exAppendN ei (.v (.slice none 0 0)) 1 [EV.v xr] H n=some ⟨some (.sl n ei.z 0 (0+1) none),H.put n (some (.cells ei.e ([] ++ [EV.v xr]) false)),Nat.succ n⟩:=by
  unfold exAppendN exGrow;simp only [bc_eq,Nat.beq_refl,hnb,hone];rfl
 obtain ⟨γ',w',v',q1,q2,q3,a2,q4,q5⟩:=exAppendN_ok (ty:=ty) (c:=ca) hT hH hei (.v (γ:=γ) (.slice none 0 0)) hcv hnl hnc hap;injection q4 with q4;subst q4;have q6:=sl_slO q5;rw [k3] at q6
 obtain ⟨γ3,g1,g2,g3⟩:=nest_fin (γ:=γ) (i:=0) (v:=0) (rows:=[]) (r:=r0) (c:=c) (s1:=c.sh) (ty:=(ei.e,[tyr])) (CS:=[]) hnb hnb2 hrb q2 q2.stays (fun _ h=>h) (fun _=>Iff.rfl) (fun _ h=>h) (fun j k m hj=>absurd hj (Nat.not_lt_zero _)) (by rw [Tr.get_put hnb,if_pos rfl]) rfl (fun j hj=>absurd hj (Nat.not_lt_zero _)) (by rw [Tr.get_put hnb,if_neg (by omega)];exact hgr) hrn rfl (hxr.mono q1) q6;refine ⟨γ3,w',v',q1.trans g1,g2.congr fun q kq hq=>?_,q3,_,rfl,g3⟩;rw [Tr.get_put hnb2] at hq ⊢;split at hq
 ·rename_i e;rw [if_pos e];exact hq
 ·rename_i e;rw [if_neg e];rw [Tr.get_put hrb] at hq ⊢;split at hq
  ·cases hq
  ·rename_i e2;rw [if_neg e2];rw [Tr.get_put hnb] at hq ⊢;split at hq
   ·cases hq
   ·rename_i e3;rw [if_neg e3,Tr.get_put hnb,if_neg e3];exact hq

noncomputable def zNapO (P:Program) (T:Tr EV) (args:List Operand) (ats:List TypeId) (H:Tr EK) (n:Nat):Option YR:=match args,ats with
 | [x,y],[t,u]=>bc (Nat.beq t u) (match elemInfo P t with
  | some ei=>match exVal T x with
   | some a=>match exVal T y with
    | some b=>match newsOf H ei.z b with
     | some (m,news)=>match a with
      | .slO i z len nn=>apNst ei i z len nn m news H n
      | .v (.slice none 0 0)=>apNs0 ei m news H n
      | _=>none
     | none=>none
    | none=>none
   | none=>none
  | none=>none) none
 | _,_=>none
theorem zNapO_ok (hT:TOk γ T tmps) (hH:HR γ w0 H n w) {args:Array Operand} {ats:Array TypeId} {r:YR} (ho:o.op = .call { callee:=.builtin .append,args:=args,argTypes:=ats }) (h:zNapO P T args.toList ats.toList H n=some r) (hc:r.c=true):Gives P γ w0 w (execOp (opEval tmps) o) r.er.val r.er.H r.er.n:=by
 unfold zNapO at h;split at h
 case h_2=>cases h
 rename_i x y t u hargs hats;have ha2:args = #[x,y]:=by apply Array.ext';simpa using hargs
 have ha3:ats = #[t,u]:=by apply Array.ext';simpa using hats
 subst ha2;subst ha3;obtain ⟨htu,hh⟩:=bcN h nofun;clear h;have htu:=Nat.eq_of_beq_eq_true htu;subst htu;split at hh
 case h_2=>cases hh
 rename_i ei hei;split at hh
 case h_2=>cases hh
 rename_i a ha;split at hh
 case h_2=>cases hh
 rename_i b hb;split at hh
 case h_2=>cases hh
 rename_i m news hnw;have hy:=exVal_ok hT hb;obtain ⟨ad,cap,vs,hvx,hcn,hnl,hnc⟩:=newsOf_ok hH hy hnw;have main:∃ γ' w' v',GLe γ γ'∧HR γ' w0 r.er.H r.er.n w'∧(Builtin.append_ #[t,t] o.type #[opEval tmps x,opEval tmps y]).run P w = .ok v' w'∧∃ a,r.er.val=some a∧EC γ' a v':=by
  rw [hvx];split at hh
  case h_3=>cases hh
  ·exact apNst_ok hT hH hei (exVal_ok hT ha) hcn hnl hnc hh hc
  ·rw [ec_v (exVal_ok hT ha)];exact apNs0_ok hT hH hei hcn hnl hnc hh hc
 obtain ⟨γ',w',v',h1,h2,h3,av,h4,h5⟩:=main;refine ⟨γ',w',h1,h2,?_⟩;rw [h4];refine ⟨v',?_,h5⟩;simp [execOp,ho,resolve,invoke,builtin,h3]
end Go.Proofs.Ytooimphimnagaaa.Ev
namespace Go.Proofs.Ytooimphimnagaaa.Ev
open Go.RowKit
variable {P:Program} {γ γ':G} {w0:Bs} {w:World} {H H':Tr EK} {n n':Nat} {T:Tr EV} {cs:List Frame} {fid:FuncId} {FT:Tr FI} {tmps:Array Value} {o:Oper} {α:Type}


noncomputable def opG (s:ES) (ops:Array Oper) (o:Oper) (l:List Oper) (k:List IM) (er:ER):EO:=match setD s.top.T s.top.N o.dst (er.val.getD (.v undef)) with
 | some T'=>.go { s with top:={ s.top with T:=T',todo:=.ops ops l :: k },H:=er.H,n:=er.n }
 | none=>.fail
theorem opG_ok {s:ES} {ops:Array Oper} {l:List Oper} {k:List IM} {i:Nat} {rest:List Nat} {todo:List Item} {ds:List Deferred} {ro:Option Nat} {frs:List Frame} {er:ER}
  (hret:s.top.ret=false) (h1:tmps.size=s.top.N) (h2:TOk γ s.top.T tmps) (hk:All2 (IR γ) k todo) (h4:All2 (DR γ) s.top.dfs ds) (h5:RR γ s.top.round ro) (hfs:All2 (FR γ) s.rest frs) (hH:HR γ w0 s.H s.n w)
  (ho:ops[i]? = some o) (hrest:rest.map (ops[·]?)=l.map some) (hw:Region.wanted o (yielded ops tmps)=true) (hs:SndL P .nil s.top.T o s.H s.n (er.val.getD (.v undef)) er.H er.n) :
  SOk P γ w0 cs fid (lone (fram s.top.fn tmps (.inRegion ops (i :: rest) :: todo) ds ro) (frs ++ cs) w) (opG s ops o l k er):=by
 unfold opG;split
 case h_2=>trivial
 rename_i T' hT';obtain ⟨γ',w',x,hle,hH2,hcx,hst⟩:=hs γ w0 w s.top.fn tmps ops i rest todo ds ro (frs ++ cs) (ROk.none _ _) h2 hH ho hw;obtain ⟨g1,g2⟩:=setD_ok (h2.mono hle) h1 hT' hcx;exact ⟨γ',_,hle,hst,_,frs,w',rfl,⟨_,_,ds,ro,by simp [fram,hret,modeOf],g2,g1,.cons (.ops ops l rest hrest) (hk.mono fun _ _ h=>h.mono hle),h4.mono fun _ _ h=>h.mono hle,h5.mono hle⟩,hfs.mono fun _ _ h=>h.mono hle,hH2⟩

noncomputable def flRw (ct:Tr ZCC):Bool:=Option.isSome (ct.get 2)
noncomputable def rowPart (T:Tr EV) (l:List (Nat × Operand)):Bool:=match l with
 | [(_,x)]=>match exVal T x with
  | some (.slO _ _ _ _)=>true
  | _=>false
 | _=>false

noncomputable def zMkF (P:Program) (ct:Tr ZCC) (T:Tr EV) (o:Oper) (H:Tr EK) (n:Nat):Option YR:=match o.op with
 | .makeSlice t l c=>bc (flC ct) (zMakeR P T t l c H n) none
 | .call c=>match c.callee with
  | .builtin .append=>bc (flRw ct) (zNapO P T c.args.toList c.argTypes.toList H n) none
  | _=>none
 | .buildSlice t len parts=>bc (flRw ct) (bc (rowPart T parts.toList) (match exBuildSlice P T t len parts H n with
  | some er=>some ⟨true,er⟩
  | none=>none) none) none
 | _=>none
theorem zMkF_ok {ct:Tr ZCC} (hT:TOk γ T tmps) (hH:HR γ w0 H n w) {r:YR} (h:zMkF P ct T o H n=some r) (hc:r.c=true):Gives P γ w0 w (execOp (opEval tmps) o) r.er.val r.er.H r.er.n:=by
 unfold zMkF at h;split at h
 case h_4=>cases h
 ·rename_i t l c ho;rw [bc_eq] at h;split at h
  case isFalse=>cases h
  exact zMakeR_ok hT hH ho h hc
 ·rename_i c ho;split at h
  case h_2=>cases h
  rename_i hcal;obtain ⟨callee,args,ats⟩:=c;simp only at hcal h;subst hcal;rw [bc_eq] at h;split at h
  case isFalse=>cases h
  exact zNapO_ok hT hH ho h hc
 ·rename_i t len parts ho;rw [bc_eq] at h;split at h
  case isFalse=>cases h
  rw [bc_eq] at h;split at h
  case isFalse=>cases h
  split at h
  case h_2=>cases h
  rename_i er he;injection h with h;subst h
  exact exBuildSlice_ok hT hH ho he
theorem zMkF_nd {ct:Tr ZCC} {r:YR} (h:zMkF P ct T o H n=some r):notDefer o.op=true:=by
 unfold zMkF at h;split at h
 case h_4=>cases h
 ·rename_i ho;rw [ho];rfl
 ·rename_i ho;split at h
  case h_2=>cases h
  rename_i hcal;rw [ho];unfold notDefer;simp [hcal]
 ·rename_i ho;rw [ho];rfl
noncomputable def stZ (P:Program) (FT:Tr FI) (ct:Tr ZCC) (T:Tr EV) (o:Oper) (H:Tr EK) (n:Nat):Option YR:=match zToBo P T o H n with
 | some r=>some r
 | none=>match zMkF P ct T o H n with
  | some r=>some r
  | none=>match zMapO P ct T o H n with
  | some r=>some r
  | none=>match qcZ P FT ct [] T o H n with
   | some p=>some ⟨p.1,⟨some p.2,H,n⟩⟩
   | none=>match zCt FT ct T o with
    | some (sp,ax)=>match zCallA sp ax H n with
     | some r=>some ⟨r.1,⟨some r.2.1,r.2.2.1,r.2.2.2⟩⟩
     | none=>none
    | none=>zOwn P T o H n
theorem stZ_ok (hF:FTok P FT) {ct:Tr ZCC} (hct:ZCtsOk P ct) {r:YR} (h:stZ P FT ct T o H n=some r) (hc:r.c=true):SndL P .nil T o H n (r.er.val.getD (.v undef)) r.er.H r.er.n:=by
 unfold stZ at h;split at h
 ·rename_i r' hr;injection h with h;subst h
  exact snd_givesO (zToBo_nd hr) fun γ w0 w tmps hT hH=>zToBo_ok hT hH hr hc
 split at h
 ·rename_i r' hr;injection h with h;subst h
  exact snd_givesO (zMkF_nd hr) fun γ w0 w tmps hT hH=>zMkF_ok hT hH hr hc
 split at h
 ·rename_i r' hr;injection h with h;subst h
  exact snd_givesO (zMapO_nd hr) fun γ w0 w tmps hT hH=>zMapO_ok hT hH hr hc
 split at h
 ·rename_i p hp;injection h with h;subst h
  exact (qcZ_ok hF hct hp hc).2.1
 ·split at h
  ·rename_i sp ax hctx;obtain ⟨_,g,k1,k2⟩:=zCt_ok hF hct hctx;split at h
   case h_2=>cases h
   rename_i q hq;injection h with h;subst h
   exact k2 fun γ w0 w us hH ha=>zCallA_ok k1 hH ha hq hc
  ·have hd:notDefer o.op=true:=by
    have hr:=h;unfold zOwn at hr;split at hr
    all_goals first | (rename_i ho;rw [ho];rfl) | cases hr
   exact snd_givesO hd fun γ w0 w tmps hT hH=>(zOwn_ok hT hH h hc).2
noncomputable def zOps (P:Program) (FT:Tr FI) (fid:FuncId) (dr:ES→Nat→Array Oper→List IM→EO) (ct:Tr ZCC) (s:ES) (ops:Array Oper) (o:Oper) (l:List Oper) (k:List IM):Bool × EO:=match exGuard s.top.T ops o with
 | some true=>match stZ P FT ct s.top.T o s.H s.n with
  | some r=>(r.c,opG s ops o l k r.er)
  | none=>(true,exStep P FT fid dr s)
 | _=>(true,exStep P FT fid dr s)
noncomputable def zMain (P:Program) (FT:Tr FI) (fid:FuncId) (dr:ES→Nat→Array Oper→List IM→EO) (sub:Sub) (ct:Tr ZCC) (ov:List (Nat × Bool)) (s:ES):Bool × EO:=match s.top.ret with
 | false=>match s.top.todo with
  | .ops ops (o :: l) :: k=>zOps P FT fid dr ct s ops o l k
  | .it (.code (.region _ ops true)) :: k=>match drP P FT sub ct ov s ops k with
   | some r=>r
   | none=>drZ P FT sub ct ov s ops k (ancs ops.toList []) (llen ops.toList)
  | _=>(true,exStep P FT fid dr s)
 | true=>zRet P FT fid s
theorem zMain_ok (hm0:P.follows .mixedOrders=true) (hF:FTok P FT) {dr:ES→Nat→Array Oper→List IM→EO} (hdr:DrOk P dr) {sub:Sub} (hsub:LoudOk P sub) {ct:Tr ZCC} (hct:ZCtsOk P ct) {ov:List (Nat × Bool)} {s:ES} {m:Machine} (hm:MR γ w0 cs s m) (hc:(zMain P FT fid dr sub ct ov s).1=true):SOk P γ w0 cs fid m (zMain P FT fid dr sub ct ov s).2:=by
 unfold zMain at hc ⊢;split at hc
 ·rename_i hret;split at hc
  ·rename_i ops o l k htodo;unfold zOps at hc ⊢;split at hc
   ·rename_i hg;split at hc
    ·rename_i r hr;obtain ⟨fr,frs,w,rfl,⟨tmps,todo,ds,ro,rfl,h1,h2,h3,h4,h5⟩,hfs,hH⟩:=hm;rw [htodo] at h3
     cases h3 with
     | @cons _ _ _ todo' hi hk=>
      cases hi with
      | ops _ _ idx hidx=>
       obtain ⟨i,rest,rfl,ho,hrest⟩:=map_cons_inv hidx;have hfr:(lone { fn:=s.top.fn,tmps:=tmps,todo:=.inRegion ops (i :: rest) :: todo',defers:=ds,mode:=modeOf s.top.ret,kind:=.normal,roundOf:=ro } (frs ++ cs) w)=lone (fram s.top.fn tmps (.inRegion ops (i :: rest) :: todo') ds ro) (frs ++ cs) w:=by rw [hret];rfl
       rw [hfr];exact opG_ok hret h1 h2 hk h4 h5 hfs hH ho hrest (exGuard_ok h2 hg) (stZ_ok hF hct hr hc)
    ·exact exStep_ok hF hdr hm
   ·exact exStep_ok hF hdr hm
  ·rename_i id ops k htodo;obtain ⟨fr,frs,w,rfl,⟨tmps,todo,ds,ro,rfl,h1,h2,h3,h4,h5⟩,hfs,hH⟩:=hm;rw [htodo] at h3
   cases h3 with
   | @cons _ _ _ todo' hi hk=>
    cases hi with
    | it x=>
     have hfr:(lone { fn:=s.top.fn,tmps:=tmps,todo:=.code (.region id ops true) :: todo',defers:=ds,mode:=modeOf s.top.ret,kind:=.normal,roundOf:=ro } (frs ++ cs) w)=lone (fram s.top.fn tmps (.code (.region id ops true) :: todo') ds ro) (frs ++ cs) w:=by rw [hret];rfl
     rw [hfr];split at hc
     ·rename_i r hr;exact drP_ok hm0 hF hsub hct hret h1 h2 hk h4 h5 hfs hH hr hc
     ·exact drZ_ok hm0 hF hsub hct hret h1 h2 hk h4 h5 hfs hH hc
  ·exact exStep_ok hF hdr hm
 ·rename_i hret;obtain ⟨fr,frs,w,rfl,⟨tmps,todo,ds,ro,rfl,h1,h2,h3,h4,h5⟩,hfs,hH⟩:=hm;have:=zRet_ok (fid:=fid) (cs:=cs) hF hret h1 h2 h3 h4 h5 hfs hH hc;simpa [fram,hret,modeOf] using this

noncomputable def fixC (d:Nat) (b:Bool) (s:ES):ES:=bc (Nat.ble d 65535) { s with top:={ s.top with T:=s.top.T.put d (some (.v (.bool b))) } } s

noncomputable def forkC (d:Nat) (s:ES) (κ:ES→α):α:=match s.top.T.get d with
 | some (.v (.bool t))=>Bool.rec (κ (fixC d false s)) (κ (fixC d true s)) t
 | _=>κ s
theorem fixC_ok {d:Nat} {t:Bool} {s:ES} {m:Machine} (hm:MR γ w0 cs s m) (ht:s.top.T.get d=some (.v (.bool t))):MR γ w0 cs (fixC d t s) m:=by
 unfold fixC;rw [bc_eq];split
 ·rename_i hd;obtain ⟨fr,frs,w,rfl,⟨tmps,todo,ds,ro,rfl,h1,h2,h3,h4,h5⟩,hfs,hH⟩:=hm;refine ⟨_,frs,w,rfl,⟨tmps,todo,ds,ro,rfl,h1,fun sl a hs=>?_,h3,h4,h5⟩,hfs,hH⟩;have hs2:(s.top.T.put d (some (.v (.bool t)))).get sl=some a:=hs;clear hs;rw [Tr.get_put hd] at hs2;split at hs2
  ·rename_i e;subst e;exact h2 _ a (ht.trans hs2)
  ·exact h2 sl a hs2
 ·exact hm
theorem forkC_ok {d:Nat} {s:ES} {m:Machine} (hm:MR γ w0 cs s m) (κ:ES→α):∃ s',MR γ w0 cs s' m∧forkC d s κ=κ s':=by
 unfold forkC;split
 ·rename_i t ht
  cases t with
  | false=>exact ⟨_,fixC_ok hm ht,rfl⟩
  | true=>exact ⟨_,fixC_ok hm ht,rfl⟩
 ·exact ⟨s,hm,rfl⟩
noncomputable def preCodeC (c:Code) (s:ES) (κ:ES→α):α:=match c with
 | .cond (.tmp d) _ _=>forkC d s κ
 | _=>κ s
noncomputable def preOpC (ops:Array Oper) (o:Oper) (s:ES) (κ:ES→α):α:=match o.guard with
 | some (j,_)=>match lget ops.toList j with
  | some oj=>match oj.dst with
   | some d=>forkC d s κ
   | none=>κ s
  | none=>κ s
 | none=>match o.op with
  | .pick (.tmp d) _ _=>forkC d s κ
  | _=>κ s
noncomputable def preC (s:ES) (κ:ES→α):α:=match s.top.todo with
 | .it (.code c) :: _=>preCodeC c s κ
 | .ops ops (o :: _) :: _=>preOpC ops o s κ
 | _=>κ s
theorem preC_ok {s:ES} {m:Machine} (hm:MR γ w0 cs s m) (κ:ES→α):∃ s',MR γ w0 cs s' m∧preC s κ=κ s':=by
 unfold preC;split
 ·unfold preCodeC;split
  ·exact forkC_ok hm κ
  ·exact ⟨s,hm,rfl⟩
 ·unfold preOpC;split
  ·split
   ·split
    ·exact forkC_ok hm κ
    ·exact ⟨s,hm,rfl⟩
   ·exact ⟨s,hm,rfl⟩
  ·split
   ·exact forkC_ok hm κ
   ·exact ⟨s,hm,rfl⟩
 ·exact ⟨s,hm,rfl⟩
noncomputable def mainC (r:Bool × EO) (κ:EO→α):α:=Prod.rec (fun c e=>bc c (κ e) (κ .fail)) r

noncomputable def memG (j:Nat) (l:List Nat):Bool:=List.rec false (fun k _ ih=>bc (Nat.beq k j) true ih) l
noncomputable def pickG (ops:List Oper) (d:Nat):Nat→Option Nat:=List.rec (fun _=>none) (fun o _ ih i=>match o.dst with
 | some e=>bc (Nat.beq e d) (some i) (ih (Nat.succ i))
 | none=>ih (Nat.succ i)) ops

noncomputable def guardsOf (all ops:List Oper):List Nat:=List.rec [] (fun o _ ih=>match o.guard with
 | some (j,_)=>bc (memG j ih) ih (j :: ih)
 | none=>match o.op with
  | .pick (.tmp d) _ _=>match pickG all d 0 with
   | some j=>bc (memG j ih) ih (j :: ih)
   | none=>ih
  | _=>ih) ops
noncomputable def insN (j:Nat) (l:List Nat):List Nat:=List.rec [j] (fun k t ih=>bc (Nat.ble j k) (j :: k :: t) (k :: ih)) l
noncomputable def sortN (l:List Nat):List Nat:=List.rec [] (fun j _ ih=>insN j ih) l
noncomputable def boolAt (P:Program) (FT:Tr FI) (sub:Sub) (ct:Tr ZCC) (s:ES) (ops:Array Oper) (A:List Nat) (m:Nat) (ov:List (Nat × Bool)) (j:Nat):Option (Nat × Bool):=match lget ops.toList j with
 | some oj=>match oj.dst with
  | some d=>match canonF P (frF' P) (lF' P FT sub ct) (qF' P FT ct ov) ops A s.n s.top.N (ops.toList.take (Nat.succ j)) 0 [] [] ⟨s.H,Nat.add s.n m,0⟩ s.top.T [] [] with
   | some c=>match c.T.get d with
    | some (.v (.bool t))=>some (d,t)
    | _=>none
   | none=>none
  | none=>none
 | none=>none
noncomputable def forkG (P:Program) (FT:Tr FI) (sub:Sub) (ct:Tr ZCC) (s:ES) (ops:Array Oper) (A:List Nat) (m:Nat) (κ:List (Nat × Bool)→α) (G:List Nat):List (Nat × Bool)→α:=List.rec (fun ov=>κ ov) (fun j _ ih ov=>match boolAt P FT sub ct s ops A m ov j with
 | some (d,t)=>Bool.rec (ih (ov ++ [(d,false)])) (ih (ov ++ [(d,true)])) t
 | none=>ih ov) G
theorem forkG_ok {sub:Sub} {ct:Tr ZCC} {s:ES} {ops:Array Oper} {A:List Nat} {m:Nat} (κ:List (Nat × Bool)→α):∀ (G:List Nat) (ov:List (Nat × Bool)),∃ ov',forkG P FT sub ct s ops A m κ G ov=κ ov'
 | [],ov=>⟨ov,rfl⟩
 | j :: G,ov=>by
  have e:forkG P FT sub ct s ops A m κ (j :: G) ov=(match boolAt P FT sub ct s ops A m ov j with
   | some (d,t)=>Bool.rec (forkG P FT sub ct s ops A m κ G (ov ++ [(d,false)])) (forkG P FT sub ct s ops A m κ G (ov ++ [(d,true)])) t
   | none=>forkG P FT sub ct s ops A m κ G ov):=rfl
  rw [e];split
  ·rename_i d t ht
   cases t with
   | false=>exact forkG_ok κ G _
   | true=>exact forkG_ok κ G _
  ·exact forkG_ok κ G _
noncomputable def forkR (P:Program) (FT:Tr FI) (sub:Sub) (ct:Tr ZCC) (s:ES) (κ:List (Nat × Bool)→α):α:=match s.top.todo with
 | .it (.code (.region _ ops true)) :: _=>forkG P FT sub ct s ops (ancs ops.toList []) (llen ops.toList) κ (sortN (guardsOf ops.toList ops.toList)) []
 | _=>κ []
theorem forkR_ok {sub:Sub} {ct:Tr ZCC} {s:ES} (κ:List (Nat × Bool)→α):∃ ov,forkR P FT sub ct s κ=κ ov:=by
 unfold forkR;split
 ·exact forkG_ok κ _ _
 ·exact ⟨[],rfl⟩

noncomputable def lookL (d:TypeDesc) (kv:Value) (ok:Bool) (z:Value) (s:ES) (ops:Array Oper) (o:Oper) (l:List Oper) (k:List IM) (κ:EO→α) (es:List (Value × EV)):α:=List.rec (κ (opG s ops o l k ⟨some (bc ok (.v (.tuple #[z,.bool false])) (.v z)),s.H,s.n⟩))
 (fun p _ ih=>Bool.rec ih (κ (opG s ops o l k ⟨some (bc ok (.tup [p.2,.v (.bool true)]) p.2),s.H,s.n⟩)) (kEq d kv p.1)) es
noncomputable def lookF (P:Program) (s:ES) (dflt:α) (κ:EO→α):α:=match s.top.ret with
 | false=>match s.top.todo with
  | .ops ops (o :: l) :: k=>match o.op with
   | .lookup t m x ok=>match exGuard s.top.T ops o with
    | some true=>match mpAt s.top.T s.H m with
     | some (_,es)=>match mapOf P t with
      | some (_,e,d)=>match exVal s.top.T x with
       | some (.v kv)=>bc (isKeyB d kv) (bc (keysB d es) (match pureOf P (zeroValue e) with
        | some z=>lookL d kv ok z s ops o l k κ es
        | none=>dflt) dflt) dflt
       | _=>dflt
      | none=>dflt
     | none=>dflt
    | _=>dflt
   | _=>dflt
  | _=>dflt
 | true=>dflt
theorem lookL_ok {d:TypeDesc} {kv:Value} {ok:Bool} {z:Value} {s:ES} {ops:Array Oper} {l:List Oper} {k:List IM} {κ:EO→α} {es0:List (Value × EV)} {Q:EO→Prop}
  (hA:findE d kv es0=none→Q (opG s ops o l k ⟨some (bc ok (.v (.tuple #[z,.bool false])) (.v z)),s.H,s.n⟩))
  (hF:∀ a,findE d kv es0=some a→Q (opG s ops o l k ⟨some (bc ok (.tup [a,.v (.bool true)]) a),s.H,s.n⟩)) :
  ∀ es,findE d kv es0=findE d kv es→∃ e,lookL d kv ok z s ops o l k κ es=κ e∧Q e
 | [],h=>⟨_,rfl,hA h⟩
 | p :: es,h=>by
  have e1:lookL d kv ok z s ops o l k κ (p :: es)=Bool.rec (lookL d kv ok z s ops o l k κ es) (κ (opG s ops o l k ⟨some (bc ok (.tup [p.2,.v (.bool true)]) p.2),s.H,s.n⟩)) (kEq d kv p.1):=rfl;have e2:findE d kv (p :: es)=bc (kEq d kv p.1) (some p.2) (findE d kv es):=rfl;rw [e2] at h;rw [e1]
  cases hk:kEq d kv p.1 with
  | false=>
   rw [hk] at h;exact lookL_ok hA hF es h
  | true=>
   rw [hk] at h;exact ⟨_,rfl,hF _ h⟩
theorem lookF_ok {s:ES} {m:Machine} (hm:MR γ w0 cs s m) (dflt:α) (κ:EO→α):lookF P s dflt κ=dflt∨∃ e,lookF P s dflt κ=κ e∧SOk P γ w0 cs fid m e:=by
 unfold lookF;split
 case h_2=>exact .inl rfl
 rename_i hret;split
 case h_2=>exact .inl rfl
 rename_i ops o l k htodo;split
 case h_2=>exact .inl rfl
 rename_i t mp x ok ho;split
 case h_2=>exact .inl rfl
 rename_i hg;split
 case h_2=>exact .inl rfl
 rename_i i es hmp;split
 case h_2=>exact .inl rfl
 rename_i kt e d hmo;split
 case h_2=>exact .inl rfl
 rename_i kv hx;rw [bc_eq];split
 case isFalse=>exact .inl rfl
 rename_i h1;rw [bc_eq];split
 case isFalse=>exact .inl rfl
 rename_i h2;split
 case h_2=>exact .inl rfl
 rename_i z hz;right;have hd:notDefer o.op=true:=by rw [ho];rfl
 have key:∀ a,exLookup P s.top.T t mp x ok s.H=some a→SOk P γ w0 cs fid m (opG s ops o l k ⟨some a,s.H,s.n⟩):=fun a ha=>by
  obtain ⟨fr,frs,w,rfl,⟨tmps,todo,ds,ro,rfl,g1,g2,g3,g4,g5⟩,hfs,hH⟩:=hm;rw [htodo] at g3
  cases g3 with
  | @cons _ _ _ todo' hi hk=>
   cases hi with
   | ops _ _ idx hidx=>
    obtain ⟨i,rest,rfl,ho',hrest⟩:=map_cons_inv hidx;have hfr:(lone { fn:=s.top.fn,tmps:=tmps,todo:=.inRegion ops (i :: rest) :: todo',defers:=ds,mode:=modeOf s.top.ret,kind:=.normal,roundOf:=ro } (frs ++ cs) w)=lone (fram s.top.fn tmps (.inRegion ops (i :: rest) :: todo') ds ro) (frs ++ cs) w:=by rw [hret];rfl
    rw [hfr];exact opG_ok (er:=⟨some a,s.H,s.n⟩) hret g1 g2 hk g4 g5 hfs hH ho' hrest (exGuard_ok g2 hg) (snd_gives hd fun γ w0 w tmps hT hH=>exLookup_ok hT hH ho ha)
 refine lookL_ok (Q:=fun e=>SOk P γ w0 cs fid m e) (fun hn=>key _ ?_) (fun a hn=>key _ ?_) es rfl
 ·unfold exLookup;simp only [hmp,hmo,hx,bc_eq,h1,h2,hn,hz,if_true]
 ·unfold exLookup;simp only [hmp,hmo,hx,bc_eq,h1,h2,hn,if_true]
noncomputable def stepZ (P:Program) (FT:Tr FI) (fid:FuncId) (dr:ES→Nat→Array Oper→List IM→EO) (sub:Sub) (ct:Tr ZCC) (s:ES) (κ:EO→α):α:=preC s (fun s'=>lookF P s' (forkR P FT sub ct s' (fun ov=>mainC (zMain P FT fid dr sub ct ov s') κ)) κ)
theorem stepZ_ok (hm0:P.follows .mixedOrders=true) (hF:FTok P FT) {dr:ES→Nat→Array Oper→List IM→EO} (hdr:DrOk P dr) {sub:Sub} (hsub:LoudOk P sub) {ct:Tr ZCC} (hct:ZCtsOk P ct) {s:ES} {m:Machine} (hm:MR γ w0 cs s m) (κ:EO→α):∃ e,stepZ P FT fid dr sub ct s κ=κ e∧SOk P γ w0 cs fid m e:=by
 unfold stepZ;obtain ⟨s',hm',e1⟩:=preC_ok hm (fun s'=>lookF P s' (forkR P FT sub ct s' (fun ov=>mainC (zMain P FT fid dr sub ct ov s') κ)) κ);rw [e1];rcases lookF_ok (P:=P) (fid:=fid) hm' (forkR P FT sub ct s' (fun ov=>mainC (zMain P FT fid dr sub ct ov s') κ)) κ with e0 | ⟨e,e0,h0⟩
 rotate_left
 ·exact ⟨e,e0,h0⟩
 rw [e0];obtain ⟨ov,e2⟩:=forkR_ok (P:=P) (FT:=FT) (sub:=sub) (ct:=ct) (s:=s') (fun ov=>mainC (zMain P FT fid dr sub ct ov s') κ);rw [e2]
 cases hy:zMain P FT fid dr sub ct ov s' with
 | mk c e=>
  show ∃ e',bc c (κ e) (κ .fail)=κ e'∧_
  cases c with
  | false=>exact ⟨.fail,rfl,trivial⟩
  | true=>
   refine ⟨e,rfl,?_⟩;have:=zMain_ok (fid:=fid) (ov:=ov) hm0 hF hdr hsub hct hm' (by rw [hy]);rw [hy] at this;exact this

noncomputable def runZ (st:ES→(EO→α)→α) (p:ES→Bool) (κ:EO→α) (k:Nat):ES→α:=Nat.rec (fun _=>κ .fail) (fun _ ih s=>st s (fun e=>EO.rec (fun s'=>Bool.rec (ih s') (κ (.go s')) (p s')) (fun a H n=>κ (.done a H n)) (fun b H n=>κ (.doneR b H n)) (κ .fail) e)) k
theorem runZ_ok {st:ES→(EO→α)→α} {p:ES→Bool} {κ:EO→α} (hst:∀ (γ:G) (s:ES) (m:Machine) (κ':EO→α),MR γ w0 cs s m→∃ e,st s κ'=κ' e∧SOk P γ w0 cs fid m e) :
  ∀ (k:Nat) (γ:G) (s:ES) (m:Machine),MR γ w0 cs s m→∃ e,runZ st p κ k s=κ e∧SOk P γ w0 cs fid m e
 | 0,γ,s,m,_=>⟨.fail,rfl,trivial⟩
 | k+1,γ,s,m,hm=>by
  obtain ⟨e,h1,h2⟩:=hst γ s m (fun e=>EO.rec (fun s'=>Bool.rec (runZ st p κ k s') (κ (.go s')) (p s')) (fun a H n=>κ (.done a H n)) (fun b H n=>κ (.doneR b H n)) (κ .fail) e) hm;have fin:∃ e',(EO.rec (fun s'=>Bool.rec (runZ st p κ k s') (κ (.go s')) (p s')) (fun a H n=>κ (.done a H n)) (fun b H n=>κ (.doneR b H n)) (κ .fail) e:α)=κ e'∧SOk P γ w0 cs fid m e':=by
   cases e with
   | go s'=>
    show ∃ e',(Bool.rec (runZ st p κ k s') (κ (.go s')) (p s'):α)=κ e'∧_
    cases hp:p s' with
    | true=>exact ⟨.go s',rfl,h2⟩
    | false=>
     obtain ⟨γ',m',hle,hs,hm'⟩:=h2;obtain ⟨e2,q1,q2⟩:=runZ_ok hst k γ' s' m' hm';exact ⟨e2,q1,SOk.trans hle hs q2⟩
   | done a H n=>exact ⟨_,rfl,h2⟩
   | doneR b H n=>exact ⟨_,rfl,h2⟩
   | fail=>exact ⟨_,rfl,h2⟩
  obtain ⟨e',q1,q2⟩:=fin;exact ⟨e',h1.trans q1,q2⟩

noncomputable def atS (d f id:Nat) (s:ES):Bool:=bc (Nat.beq (llen s.rest) d) (bc (Nat.beq s.top.fn f) (match s.top.todo with
 | .it (.code (.seq (.region i _ _) _)) :: _=>Nat.beq i id
 | _=>false) false) false
end Go.Proofs.Ytooimphimnagaaa.Ev
namespace Go.Proofs.Ytooimphimnagaaa.Ev
open Go.RowKit
variable {P:Program} {γ γ':G} {w0:Bs} {w:World} {H H':Tr EK} {n n':Nat} {T:Tr EV} {cs:List Frame} {fid:FuncId} {FT:Tr FI} {tmps:Array Value} {o:Oper} {α:Type}

theorem normFR_ok {ρ:List (Nat × Nat)} {N:Nat} (hρ:okN ρ N=true) {l:SL} {f:EF} {a:FS} {fr:Frame} (h:normFR ρ l f=some a) (hf:FR γ f fr):FR (γ.ren ρ) (frOf a) fr:=by
 unfold normFR at h;split at h
 case h_2=>cases h
 rename_i hret;split at h
 case h_2=>cases h
 rename_i ds' hds;split at h
 case h_2=>cases h
 rename_i ro' hro;split at h
 case h_2=>cases h
 rename_i td htd;split at h
 case h_2=>cases h
 rename_i T hT;injection h with h;subst h
 obtain ⟨tmps,todo,ds,ro,rfl,h1,h2,h3,h4,h5⟩:=hf;refine ⟨tmps,todo,ds,ro,by rw [hret];rfl,h1,fun sl a hs=>?_,mapL_ok (R:=IR γ) (S:=IR (γ.ren ρ)) (fun _ _ _ h1 h2=>renI_ok hρ h1 h2) htd h3,mapL_ok (R:=DR γ) (S:=DR (γ.ren ρ)) (fun _ _ _ h1 h2=>renD_ok hρ h1 h2) hds h4,renR_ok hρ hro h5⟩;obtain ⟨c,a0,q1,q2⟩:=pickS_ok hT sl a (mkT_get hs);obtain ⟨x,hx,hc⟩:=h2 sl a0 q1;exact ⟨x,hx,renS_ok hρ q2 hc⟩
theorem normFsR_ok {ρ:List (Nat × Nat)} {N:Nat} (hρ:okN ρ N=true):∀ {ls:List SL} {l:List EF} {r:List FS} {frs:List Frame},normFsR ρ ls l=some r→All2 (FR γ) l frs→All2 (FR (γ.ren ρ)) (frsOf r) frs
 | [],[],r,frs,h,hf=>by
  have h':some []=some r:=h;injection h' with h';subst h'
  cases hf;exact .nil
 | [],f :: l,r,frs,h,_=>by exact absurd (show (none:Option (List FS))=some r from h) (by simp)
 | q :: ls,[],r,frs,h,_=>by exact absurd (show (none:Option (List FS))=some r from h) (by simp)
 | q :: ls,f :: l,r,frs,h,hf=>by
  have h':(match normFR ρ q f with
   | some a=>match normFsR ρ ls l with
    | some r=>some (a :: r)
    | none=>none
   | none=>none)=some r:=h
  split at h'
  case h_2=>cases h'
  rename_i a ha;split at h'
  case h_2=>cases h'
  rename_i r' hr';injection h' with h';subst h'
  cases hf with
  | cons h1 h2=>exact .cons (normFR_ok hρ ha h1) (normFsR_ok hρ hr' h2)
theorem HR.ren (hH:HR γ w0 H n w) (hres:∀ i,¬ w0.res i) {ρ keep:List (Nat × Nat)} {nils:List (Nat × TypeId × SyC)} {N:Nat} {lk:List Nat} {K:List (Nat × EK)} (hρ:okN ρ N=true) (hkeep:allL (fun p=>isSomeN (lookN ρ p.1) p.2) keep=true) (hnil:allL (fun p=>isNilS p.2.2) nils=true) (hK:pickK ρ H lk keep=some K) {K2:List (Nat × EK)} (hK2:∀ x,x ∈ K2→x ∈ nilsK nils ++ K):HR (γ.ren ρ) w0 (mkT K2) N w:=by
 have get:∀ j k,(mkT K2).get j=some k→(k.Nil∧k.nestB=false)∨∃ i k0,lookN ρ i=some j∧H.get i=some k0∧renK ρ lk k0=some k:=fun j k hk=>by
  rcases List.mem_append.1 (hK2 _ (mkT_get hk)) with hm | hm
  ·left;unfold nilsK at hm;obtain ⟨p,hp,e⟩:=List.mem_map.1 hm;injection e with e1 e2;subst e2
   exact ⟨⟨rfl,isNilS_ok (allL_ok hnil p hp)⟩,rfl⟩
  ·right;obtain ⟨i,k0,q1,q2,q3⟩:=pickK_ok hK j k hm;exact ⟨i,k0,isSomeN_ok (allL_ok hkeep (i,j) q1),q2,q3⟩
 refine ⟨fun j k hk=>?_,fun j1 j2 k1 k2 hj1 hj2 n1 n2 hne b1 b2 e1 e2=>?_,fun j hj=>?_,fun i hi=>absurd hi (hres i),fun j p e=>?_,hH.stays,⟨fun k a hk=>?_,hH.fzk.base,fun j v q p e=>G.ren_rw hH.fzk.nst.rwg e,fun j me ty sh rows v ho nn e=>?_,fun j me ty sh rows v ho nn e j1 f sh' hj1 hf hh k m hk=>?_⟩⟩
 ·rcases get j k hk with h5 | ⟨i,k0,q1,q2,q3⟩
  ·exact .inl h5.1
  ·rcases hH.hp0 i k0 q2 with h6 | ⟨b,m2,e1,e2,e3⟩
   ·exact .inl ((renK_nil q3).2 h6)
   ·exact .inr ⟨b,m2,by rw [G.ren_look hρ q1];exact e1,e2,renK_ok hρ q3 e3⟩
 ·rcases get j1 k1 hj1 with h5 | ⟨i1,k01,q1,q2,q3⟩
  ·exact absurd h5.1 n1
  rcases get j2 k2 hj2 with h6 | ⟨i2,k02,q4,q5,q6⟩
  ·exact absurd h6.1 n2
  rw [G.ren_look hρ q1] at e1;rw [G.ren_look hρ q4] at e2;have hne2:i1≠i2:=fun e=>by
   subst e;rw [q1] at q4;injection q4 with q4;exact hne q4
  exact hH.inj0 i1 i2 k01 k02 q2 q5 (fun e=>n1 ((renK_nil q3).2 e)) (fun e=>n2 ((renK_nil q6).2 e)) hne2 b1 b2 e1 e2
 ·show (invN ρ j).bind γ=none
  cases hi:invN ρ j with
  | none=>rfl
  | some i=>
   have:=(okN_ok hρ (invN_mem hi)).2.2;omega
 ·obtain ⟨i,_,q2⟩:=G.ren_some e;exact hH.lt i p q2
 ·obtain ⟨g1,g2,g3⟩:=hH.fzk.at' k a hk;refine ⟨g1,g2,fun j kj b m hj nj ej=>?_⟩;rcases get j kj hj with h5 | ⟨i1,k01,q1,q2,q3⟩
  ·exact absurd h5.1 nj
  rw [G.ren_look hρ q1] at ej;exact g3 i1 k01 b m q2 (fun e=>nj ((renK_nil q3).2 e)) ej
 ·rcases get j _ e with h5 | ⟨i1,k01,q1,q2,q3⟩
  ·cases h5.2
  obtain ⟨me0,rfl,q4⟩:=renK_nest q3;obtain ⟨q5,q6⟩:=hH.fzk.nst.me i1 me0 ty sh rows v ho nn q2;subst q5;rw [q1] at q4;injection q4 with q4
  exact ⟨q4.symm,fun v' q hv=>(G.ren_rwL hρ q1 v' q).trans (q6 v' q hv)⟩
 ·rcases get j _ e with h5 | ⟨i1,k01,q1,q2,q3⟩
  ·cases h5.2
  obtain ⟨me0,rfl,_⟩:=renK_nest q3;obtain ⟨g1,g2,g3,g4,arr,ty3,g5,g6,g7⟩:=hH.fzk.nst.at' i1 me0 ty sh rows v ho nn q2 j1 f sh' hj1 hf hh k m ((G.ren_rwL hρ q1 _ _).symm.trans hk);refine ⟨g1,g2,fun j' kj b m' hj nj ej=>?_,fun j2 me2 ty2 sh2 rows2 v2 ho2 nn2 e2 j3 f2 s2 hj2 hf2 hh2 m2 hk2=>?_,arr,ty3,g5,g6,fun a g s ha hs=>let ⟨x,hx,hc⟩:=g7 a g s ha hs;⟨x,hx,ev_fz hc fun _ _ h=>h⟩⟩
  ·rcases get j' kj hj with h5 | ⟨i2,k02,r1,r2,r3⟩
   ·exact absurd h5.1 nj
   rw [G.ren_look hρ r1] at ej;exact g3 i2 k02 b m' r2 (fun e=>nj ((renK_nil r3).2 e)) ej
  ·rcases get j2 _ e2 with h5 | ⟨i2,k02,r1,r2,r3⟩
   ·cases h5.2
   obtain ⟨me3,rfl,_⟩:=renK_nest r3;obtain ⟨y1,y2,y3⟩:=g4 i2 me3 ty2 sh2 rows2 v2 ho2 nn2 r2 j3 f2 s2 hj2 hf2 hh2 m2 ((G.ren_rwL hρ r1 _ _).symm.trans hk2);subst y1;rw [q1] at r1;injection r1 with r1
   exact ⟨r1.symm,y2,y3⟩
def LeadsZ (P:Program) (s s':ES):Prop:=∀ (γ:G) (w0:Bs) (cs:List Frame) (m:Machine),(∀ i,¬ w0.res i)→MR γ w0 cs s m→∃ γ' m',Steps P m m'∧MR γ' w0 cs s' m'
theorem LeadsZ.trans {a b c:ES} (h:LeadsZ P a b) (k:LeadsZ P b c):LeadsZ P a c:=fun γ w0 cs m hr hm=>by
 obtain ⟨γ1,m1,h1,h3⟩:=h γ w0 cs m hr hm;obtain ⟨γ2,m2,k1,k3⟩:=k γ1 w0 cs m1 hr h3;exact ⟨γ2,m2,h1.trans k1,k3⟩
theorem LeadsZ.refl (a:ES):LeadsZ P a a:=fun γ _ _ m _ hm=>⟨γ,m,Steps.refl P _,hm⟩
theorem leads_ofR {s:ES} {lk:List Nat} {r:NS} {f:FuncId}
  (h:∀ (γ:G) (w0:Bs) (cs:List Frame) (m:Machine),MR γ w0 cs s m→∃ e ls ρ keep nils N,normR lk ls ρ keep nils N e=some r∧SOk P γ w0 cs f m e):LeadsZ P s (stOf r):=fun γ w0 cs m hres hm=>by
 obtain ⟨e,ls,ρ,keep,nils,N,h,this⟩:=h γ w0 cs m hm;unfold normR at h;split at h
 case h_2=>cases h
 rename_i s';obtain ⟨γ',m',h1,h2,h3⟩:=this;split at h
 case h_2=>cases h
 rename_i l hl;split at h
 case h_2=>cases h
 rename_i K hK;rw [bc_eq] at h;split at h
 case isFalse=>cases h
 rename_i hρ;rw [bc_eq] at h;split at h
 case isFalse=>cases h
 rename_i hkeep;rw [bc_eq] at h;split at h
 case isFalse=>cases h
 rename_i hnil;injection h with h;subst h
 obtain ⟨fr,frs,w,rfl,g1,hfs,hH⟩:=h3;have g3:=normFsR_ok hρ hl (.cons g1 hfs);have hHn:=hH.ren hres hρ hkeep hnil hK (K2:=sortK (nilsK nils ++ K)) (fun _=>sortK_mem)
 cases l with
 | nil=>have g3:All2 (FR (γ'.ren ρ)) [] (fr :: frs):=g3;cases g3
 | cons f l=>
  have g3:All2 (FR (γ'.ren ρ)) (frOf f :: frsOf l) (fr :: frs):=g3
  cases g3 with
  | cons e1 e2=>exact ⟨γ'.ren ρ,_,h2,fr,frs,w,rfl,e1,e2,hHn⟩

inductive ZF where
 | at (r:NS)
 | done (a:EV) (K:List (Nat × EK)) (n:Nat)
 | bad

noncomputable def doneO (q:NN) (a:EV) (H:Tr EK):ZF:=match renE q.ρ 8 a with
 | some a'=>match pickK q.ρ H [] (keepN H q.ρ) with
  | some K=>bc (okN q.ρ q.N) (bc (allL (fun p=>isSomeN (lookN q.ρ p.1) p.2) (keepN H q.ρ)) (.done a' K q.N) .bad) .bad
  | none=>.bad
 | none=>.bad
noncomputable def doneD (a:EV) (H:Tr EK):ZF:=match frzE 8 a H with
 | some (c,a',_)=>bc c (.done a' [] 0) .bad
 | none=>.bad
noncomputable def doneZ (own:Bool) (a:EV) (H:Tr EK):ZF:=bc own (doneO (addL (numsE 6 a) ⟨[],[],0⟩) a H) (doneD a H)
theorem doneZ_at {own:Bool} {a:EV} {r:NS} (h:doneZ own a H = .at r):False:=by
 unfold doneZ at h;rw [bc_eq] at h;split at h
 ·unfold doneO at h;split at h
  ·split at h
   ·rw [bc_eq] at h;split at h
    ·rw [bc_eq] at h;split at h <;> cases h
    ·cases h
   ·cases h
  ·cases h
 ·unfold doneD at h;split at h
  ·rw [bc_eq] at h;split at h <;> cases h
  ·cases h
noncomputable def endZ (lk:List Nat) (ls:List SZ) (own:Bool) (e:EO):ZF:=match e with
 | .done a H n=>doneZ own a H
 | .go s=>match normZ lk ls (.go (nilS ls s)) with
  | some r=>.at r
  | none=>.bad
 | _=>.bad

abbrev PLs:=List ((ES→Bool) × List SZ)
noncomputable def lsAt (ps:PLs) (s:ES):List SZ:=List.rec [] (fun q _ ih=>bc (q.1 s) q.2 ih) ps
noncomputable def atPs (ps:PLs) (s:ES):Bool:=List.rec false (fun q _ ih=>bc (q.1 s) true ih) ps
noncomputable def endP (lk:List Nat) (ps:PLs) (own:Bool) (e:EO):ZF:=match e with
 | .go s=>endZ lk (lsAt ps s) own (.go s)
 | .done a H n=>endZ lk [] own (.done a H n)
 | _=>.bad
theorem endP_ok {lk:List Nat} {ps:PLs} {own:Bool} (e:EO):∃ ls,endP lk ps own e=endZ lk ls own e:=by
 cases e with
 | go s=>exact ⟨_,rfl⟩
 | done a H n=>exact ⟨[],rfl⟩
 | _=>exact ⟨[],rfl⟩
theorem doneZ_ok {own:Bool} {a:EV} {a':EV} {K:List (Nat × EK)} {N:Nat} (h:doneZ own a H = .done a' K N) (hH:HR γ w0 H n w) (hres:∀ i,¬ w0.res i) {x:Value} (ha:EC γ a x):∃ γ',EC γ' a' x∧HR γ' w0 (mkT K) N w:=by
 unfold doneZ at h;rw [bc_eq] at h;split at h
 ·unfold doneO at h;split at h
  case h_2=>cases h
  rename_i a2 ha2;split at h
  case h_2=>cases h
  rename_i K2 hK;rw [bc_eq] at h;split at h
  case isFalse=>cases h
  rename_i hρ;rw [bc_eq] at h;split at h
  case isFalse=>cases h
  rename_i hkeep;injection h with e1 e2 e3
  subst e1;subst e2;subst e3;exact ⟨_,EC.ren hρ ha2 ha,hH.ren (nils:=[]) hres hρ hkeep rfl hK (fun _ h=>h)⟩
 ·unfold doneD at h;split at h
  case h_2=>cases h
  rename_i c a2 H2 hf;rw [bc_eq] at h;split at h
  case isFalse=>cases h
  rename_i hc;injection h with e1 e2 e3
  subst e1;subst e2;subst e3;obtain ⟨γ',g1,g2,g3⟩:=frzE_ok hH ha hf hc;have hd:HR (γ'.ren []) w0 (mkT ([] ++ [])) 0 w:=g2.ren (ρ:=[]) (keep:=[]) (nils:=[]) (lk:=[]) hres rfl rfl rfl rfl (fun _ h=>h);have hdata:dataB 8 a2=true:=by
   have key:∀ (k:Nat),(∀ (a:EV) (H:Tr EK) (c:Bool) (a':EV) (H':Tr EK),frzE k a H=some (c,a',H')→dataB k a'=true)∧∀ (l:List EV) (H:Tr EK) (c:Bool) (l':List EV) (H':Tr EK),frzL (frzE k) l H=some (c,l',H')→allL (dataB k) l'=true:=fun k=>by
    induction k with
    | zero=>
     have h0:∀ (a:EV) (H:Tr EK) (c:Bool) (a':EV) (H':Tr EK),frzE 0 a H=some (c,a',H')→dataB 0 a'=true:=fun a H c a' H' h=>by cases h
     refine ⟨h0,fun l=>?_⟩
     induction l with
     | nil=>intro H c l' H' h;have h':some (true,[],H)=some (c,l',H'):=h;simp only [Option.some.injEq,Prod.mk.injEq] at h';obtain ⟨_,rfl,_⟩:=h';rfl
     | cons b l ih=>intro H c l' H' h;cases (show (match (none:Option (Bool × EV × Tr EK)) with
       | some (c,a',H')=>match frzL (frzE 0) l H' with
        | some (c2,l',H2)=>some (bc c c2 false,a' :: l',H2)
        | none=>none
       | none=>none)=some (c,l',H') from h)
    | succ k ih=>
     have h1:∀ (a:EV) (H:Tr EK) (c:Bool) (a':EV) (H':Tr EK),frzE (k+1) a H=some (c,a',H')→dataB (k+1) a'=true:=fun a H c a' H' h=>by
      cases a with
      | v x=>have h':some (true,EV.v x,H)=some (c,a',H'):=h;simp only [Option.some.injEq,Prod.mk.injEq] at h';obtain ⟨_,rfl,_⟩:=h';rfl
      | lst x=>have h':some (true,EV.lst x,H)=some (c,a',H'):=h;simp only [Option.some.injEq,Prod.mk.injEq] at h';obtain ⟨_,rfl,_⟩:=h';rfl
      | arr x=>have h':some (true,EV.arr x,H)=some (c,a',H'):=h;simp only [Option.some.injEq,Prod.mk.injEq] at h';obtain ⟨_,rfl,_⟩:=h';rfl
      | slO i z len nn=>
       obtain ⟨c0,rfl⟩:=frzS_lst (show frzS i z len H=some (c,a',H') from h);rfl
      | sl i z off len cap=>
       cases cap with
       | some q=>cases h
       | none=>
       cases off with
       | succ q=>cases h
       | zero=>
       obtain ⟨c0,rfl⟩:=frzS_lst (show frzS i z len H=some (c,a',H') from h);rfl
      | agg l=>
       have h':(match frzL (frzE k) l H with
        | some (c,l',H')=>some (c,EV.agg l',H')
        | none=>none)=some (c,a',H'):=h
       split at h'
       case h_2=>cases h'
       rename_i e1;simp only [Option.some.injEq,Prod.mk.injEq] at h';obtain ⟨_,rfl,_⟩:=h';exact ih.2 _ _ _ _ _ e1
      | tup l=>
       have h':(match frzL (frzE k) l H with
        | some (c,l',H')=>some (c,EV.tup l',H')
        | none=>none)=some (c,a',H'):=h
       split at h'
       case h_2=>cases h'
       rename_i e1;simp only [Option.some.injEq,Prod.mk.injEq] at h';obtain ⟨_,rfl,_⟩:=h';exact ih.2 _ _ _ _ _ e1
      | fn f l=>
       have h':(match frzL (frzE k) l H with
        | some (c,l',H')=>some (c,EV.fn f l',H')
        | none=>none)=some (c,a',H'):=h
       split at h'
       case h_2=>cases h'
       rename_i e1;simp only [Option.some.injEq,Prod.mk.injEq] at h';obtain ⟨_,rfl,_⟩:=h';exact ih.2 _ _ _ _ _ e1
      | _=>cases h
     refine ⟨h1,fun l=>?_⟩
     induction l with
     | nil=>intro H c l' H' h;have h':some (true,[],H)=some (c,l',H'):=h;simp only [Option.some.injEq,Prod.mk.injEq] at h';obtain ⟨_,rfl,_⟩:=h';rfl
     | cons b l ihl=>
      intro H c l' H' h;have h':(match frzE (k+1) b H with
       | some (c,a',H')=>match frzL (frzE (k+1)) l H' with
        | some (c2,l',H2)=>some (bc c c2 false,a' :: l',H2)
        | none=>none
       | none=>none)=some (c,l',H'):=h
      split at h'
      case h_2=>cases h'
      rename_i e1;split at h'
      case h_2=>cases h'
      rename_i e2;simp only [Option.some.injEq,Prod.mk.injEq] at h';obtain ⟨_,rfl,_⟩:=h';show bc (dataB (k+1) _) (allL (dataB (k+1)) _) false=true;rw [h1 _ _ _ _ _ e1,ihl _ _ _ _ e2];rfl
   exact (key 8).1 _ _ _ _ _ hf
  exact ⟨γ'.ren [],g3.data hdata fun _ _ h=>h,hd⟩
theorem leadsF (hm0:P.follows .mixedOrders=true) (hF:FTok P FT) {dr:ES→Nat→Array Oper→List IM→EO} (hdr:DrOk P dr) {sub:Sub} (hsub:LoudOk P sub) {ct:Tr ZCC} (hct:ZCtsOk P ct) {f k:Nat} {p:ES→Bool} {s:ES} {lk:List Nat} {κ:EO→ZF} {own:Bool} {r:NS} (hκ:∀ e,∃ ls,κ e=endZ lk ls own e)
  (h:runZ (stepZ P FT f dr sub ct) p κ k s = .at r):LeadsZ P s (stOf r):=
 leads_ofR (f:=f) (lk:=lk) fun γ w0 cs m hm=>by
  obtain ⟨e,h1,h2⟩:=runZ_ok (p:=p) (κ:=κ) (fun γ s m κ' hm=>stepZ_ok (fid:=f) hm0 hF hdr hsub hct hm κ') k γ s m hm;obtain ⟨ls,hls⟩:=hκ e;have h3:endZ lk ls own e = .at r:=hls.symm.trans (h1.symm.trans h);unfold endZ at h3;split at h3
  ·exact (doneZ_at h3).elim
  ·split at h3
   ·rename_i s' r' hr;injection h3 with h3;subst h3
    unfold normZ at hr;simp only at hr;obtain ⟨γ',m',hle,hst,hM⟩:=h2;exact ⟨_,_,_,_,_,_,hr,⟨γ',m',hle,hst,nilS_ok hM⟩⟩
   ·cases h3
  ·cases h3

theorem callsF (hm0:P.follows .mixedOrders=true) (hF:FTok P FT) {dr:ES→Nat→Array Oper→List IM→EO} (hdr:DrOk P dr) {sub:Sub} (hsub:LoudOk P sub) {ct:Tr ZCC} (hct:ZCtsOk P ct) {f k:Nat} {p:ES→Bool} {s:ES} {lk:List Nat} {κ:EO→ZF} {own:Bool} {args:List EV} {us:Array Value} {e:EF} {a:EV} {K:List (Nat × EK)} {n':Nat} (hκ:∀ e,∃ ls,κ e=endZ lk ls own e)
  (he:exEnter FT f args=some e) (hargs:ECL γ args us.toList) (hN:∀ i,γ i=none) (hfz:FzAt γ w)
  (hl:LeadsZ P ⟨e,[],.nil,0⟩ s) (hd:runZ (stepZ P FT f dr sub ct) p κ k s = .done a K n') :
  Calls P f us w fun e w'=>∃ γ' x,e = .returned x∧EC γ' a x∧HR γ' (Bs.ofG w γ) (mkT K) n' w':=by
 intro cs;obtain ⟨q1,_⟩:=exEnter_ok hF hargs he;have hM:MR γ (Bs.ofG w γ) cs ⟨e,[],.nil,0⟩ (lone (Frame.enter P f us .normal) cs w):=
  ⟨_,[],w,rfl,q1,.nil,⟨(fun i k hk=>by cases hk),(fun i j ki kj hi=>by cases hi),(fun i _=>hN i),(fun i hi=>hi.elim),(fun i p hp=>by rw [hN i] at hp;cases hp),⟨rfl,rfl,rfl,Nat.le_refl _,fun _ _=>rfl⟩,FZ.init hfz⟩⟩
 obtain ⟨γ1,m1,g1,g3⟩:=hl γ (Bs.ofG w γ) cs _ (fun i hi=>hi) hM;obtain ⟨eo,h1,this⟩:=runZ_ok (p:=p) (κ:=κ) (fun γ s m κ' hm=>stepZ_ok (fid:=f) hm0 hF hdr hsub hct hm κ') k γ1 s m1 g3;obtain ⟨ls,hls⟩:=hκ eo;have h3:endZ lk ls own eo = .done a K n':=hls.symm.trans (h1.symm.trans hd);unfold endZ at h3;split at h3
 ·rename_i a0 H0 n0;obtain ⟨γ',fr',w',v,_,h2,h4,h5,h6,h7⟩:=this;obtain ⟨γ2,k1,k2⟩:=doneZ_ok h3 h7 (fun i hi=>hi) h6;exact ⟨.returned v,w',fr',⟨γ2,v,rfl,k1,k2⟩,g1.trans h2,h4,h5⟩
 ·split at h3 <;> cases h3
 ·cases h3
end Go.Proofs.Ytooimphimnagaaa.Ev
namespace Go.Proofs.Ytooimphimnagaaa.Ev
open Go.RowKit
variable {P:Program} {γ γ':G} {w0:Bs} {w:World} {H H':Tr EK} {n n':Nat} {T:Tr EV} {cs:List Frame} {fid:FuncId} {FT:Tr FI} {tmps:Array Value} {o:Oper} {α:Type}
noncomputable def idL (k:Nat):List (Nat × Nat):=Nat.rec [] (fun j ih=>ih ++ [(j,j)]) k
theorem idL_mem:∀ {k j:Nat},j < k→(j,j) ∈ idL k
 | k+1,j,h=>by
  show (j,j) ∈ idL k ++ [(k,k)]
  by_cases e:j=k
  ·subst e;simp
  ·exact List.mem_append.2 (.inl (idL_mem (by omega)))
noncomputable def pinsB (k:Nat) (ρ:List (Nat × Nat)):Bool:=allL (fun p=>isSomeN (lookN ρ p.1) p.2) (idL k)
theorem pinsB_ok {k:Nat} {ρ:List (Nat × Nat)} (h:pinsB k ρ=true) {j:Nat} (hj:j < k):lookN ρ j=some j:=isSomeN_ok (allL_ok h (j,j) (idL_mem hj))
noncomputable def normK (k:Nat) (lk:List Nat) (ls:List SZ) (e:EO):Option NS:=match e with
 | .go s=>match framesN (s.top :: s.rest) ls ⟨idL k,[],k⟩ with
  | (q0,sl)=>match closeN lk s.H 60 0 q0 with
   | q=>bc (pinsB k q.ρ) (normR lk sl q.ρ (keepN s.H q.ρ) q.nils q.N (.go s)) none
 | _=>none
noncomputable def doneM (k:Nat) (a:EV) (H:Tr EK):ZF:=match closeN [] H 60 0 (addL (numsE 6 a) ⟨idL k,[],k⟩) with
 | q=>match renE q.ρ 8 a with
  | some a'=>match pickK q.ρ H [] (keepN H q.ρ) with
   | some K=>bc (okN q.ρ q.N) (bc (allL (fun p=>isSomeN (lookN q.ρ p.1) p.2) (keepN H q.ρ)) (bc (pinsB k q.ρ) (.done a' (sortK K) q.N) .bad) .bad) .bad
   | none=>.bad
  | none=>.bad

abbrev NLs:=List (Nat × Nat × TypeId × SyC)
noncomputable def nilD (nl:NLs):Tr EK × Nat→Tr EK × Nat:=List.rec (fun q=>q) (fun p _ ih q=>match q.1.get p.1 with
 | some (.cells _ l _)=>ih (nilL p.2.1 p.2.2.1 p.2.2.2 p.1 (nilJ l 0) q)
 | _=>ih q) nl
theorem nilD_ok:∀ {nl:NLs} {q:Tr EK × Nat},HR γ w0 q.1 q.2 w→HR γ w0 (nilD nl q).1 (nilD nl q).2 w
 | [],_,h=>h
 | p :: nl,q,h=>by
  show HR γ w0 (match q.1.get p.1 with
   | some (.cells _ l _)=>nilD nl (nilL p.2.1 p.2.2.1 p.2.2.2 p.1 (nilJ l 0) q)
   | _=>nilD nl q).1 (match q.1.get p.1 with
   | some (.cells _ l _)=>nilD nl (nilL p.2.1 p.2.2.1 p.2.2.2 p.1 (nilJ l 0) q)
   | _=>nilD nl q).2 w
  split
  ·exact nilD_ok (nilL_ok h)
  ·exact nilD_ok h
noncomputable def endM (k:Nat) (lk:List Nat) (ps:PLs) (nl:NLs) (e:EO):ZF:=match e with
 | .go s=>match normK k lk (lsAt ps s) (.go (nilS (lsAt ps s) s)) with
  | some r=>.at r
  | none=>.bad
 | .done a H n=>doneM k a (nilD nl (H,n)).1
 | _=>.bad
def LeadsM (P:Program) (k:Nat) (s s':ES):Prop:=∀ (γ:G) (w0:Bs) (cs:List Frame) (m:Machine),(∀ i,¬ w0.res i)→MR γ w0 cs s m→∃ γ' m',Steps P m m'∧MR γ' w0 cs s' m'∧∀ j p,j < k→γ j=some p→γ' j=some p
theorem LeadsM.trans {k:Nat} {a b c:ES} (h:LeadsM P k a b) (g:LeadsM P k b c):LeadsM P k a c:=fun γ w0 cs m hr hm=>by
 obtain ⟨γ1,m1,h1,h2,h3⟩:=h γ w0 cs m hr hm;obtain ⟨γ2,m2,k1,k2,k3⟩:=g γ1 w0 cs m1 hr h2;exact ⟨γ2,m2,h1.trans k1,k2,fun j p hj e=>k3 j p hj (h3 j p hj e)⟩
theorem LeadsM.refl (k:Nat) (a:ES):LeadsM P k a a:=fun γ _ _ m _ hm=>⟨γ,m,Steps.refl P _,hm,fun _ _ _ e=>e⟩
theorem leads_ofM {s:ES} {lk:List Nat} {r:NS} {f:FuncId} {k:Nat}
  (h:∀ (γ:G) (w0:Bs) (cs:List Frame) (m:Machine),MR γ w0 cs s m→∃ e ls ρ keep nils N,normR lk ls ρ keep nils N e=some r∧pinsB k ρ=true∧SOk P γ w0 cs f m e):LeadsM P k s (stOf r):=fun γ w0 cs m hres hm=>by
 obtain ⟨e,ls,ρ,keep,nils,N,h,hpk,this⟩:=h γ w0 cs m hm;unfold normR at h;split at h
 case h_2=>cases h
 rename_i s';obtain ⟨γ',m',h1,h2,h3⟩:=this;split at h
 case h_2=>cases h
 rename_i l hl;split at h
 case h_2=>cases h
 rename_i K hK;rw [bc_eq] at h;split at h
 case isFalse=>cases h
 rename_i hρ;rw [bc_eq] at h;split at h
 case isFalse=>cases h
 rename_i hkeep;rw [bc_eq] at h;split at h
 case isFalse=>cases h
 rename_i hnil;injection h with h;subst h
 obtain ⟨fr,frs,w,rfl,g1,hfs,hH⟩:=h3;have g3:=normFsR_ok hρ hl (.cons g1 hfs);have hHn:=hH.ren hres hρ hkeep hnil hK (K2:=sortK (nilsK nils ++ K)) (fun _=>sortK_mem)
 cases l with
 | nil=>have g3:All2 (FR (γ'.ren ρ)) [] (fr :: frs):=g3;cases g3
 | cons f l=>
  have g3:All2 (FR (γ'.ren ρ)) (frOf f :: frsOf l) (fr :: frs):=g3
  cases g3 with
  | cons e1 e2=>exact ⟨γ'.ren ρ,_,h2,⟨fr,frs,w,rfl,e1,e2,hHn⟩,fun j p hj ej=>by rw [G.ren_look hρ (pinsB_ok hpk hj)];exact h1 j p ej⟩
theorem leadsM (hm0:P.follows .mixedOrders=true) (hF:FTok P FT) {dr:ES→Nat→Array Oper→List IM→EO} (hdr:DrOk P dr) {sub:Sub} (hsub:LoudOk P sub) {ct:Tr ZCC} (hct:ZCtsOk P ct) {f k c:Nat} {p:ES→Bool} {s:ES} {lk:List Nat} {ps:PLs} {nl:NLs} {r:NS}
  (h:runZ (stepZ P FT f dr sub ct) p (endM k lk ps nl) c s = .at r):LeadsM P k s (stOf r):=
 leads_ofM (f:=f) (lk:=lk) fun γ w0 cs m hm=>by
  obtain ⟨e,h1,h2⟩:=runZ_ok (p:=p) (κ:=endM k lk ps nl) (fun γ s m κ' hm=>stepZ_ok (fid:=f) hm0 hF hdr hsub hct hm κ') c γ s m hm;have h3:endM k lk ps nl e = .at r:=h1.symm.trans h;unfold endM at h3;split at h3
  ·split at h3
   ·rename_i s' r' hr;injection h3 with h3;subst h3
    unfold normK at hr;simp only at hr;rw [bc_eq] at hr;split at hr
    case isFalse=>cases hr
    rename_i hpk;obtain ⟨γ',m',hle,hst,hM⟩:=h2;exact ⟨_,_,_,_,_,_,hr,hpk,⟨γ',m',hle,hst,nilS_ok hM⟩⟩
   ·cases h3
  ·unfold doneM at h3;simp only at h3;split at h3
   ·split at h3
    ·rw [bc_eq,bc_eq,bc_eq] at h3;split at h3
     ·split at h3
      ·split at h3 <;> cases h3
      ·cases h3
     ·cases h3
    ·cases h3
   ·cases h3
  ·cases h3

theorem callsM (hm0:P.follows .mixedOrders=true) (hF:FTok P FT) {dr:ES→Nat→Array Oper→List IM→EO} (hdr:DrOk P dr) {sub:Sub} (hsub:LoudOk P sub) {ct:Tr ZCC} (hct:ZCtsOk P ct) {f k c:Nat} {p:ES→Bool} {s:ES} {lk:List Nat} {ps:PLs} {nl:NLs} {args:List EV} {us:Array Value} {e:EF} {K0:List (Nat × EK)} {m0:Nat} {a:EV} {K:List (Nat × EK)} {n':Nat}
  (he:exEnter FT f args=some e) (hres:∀ i,¬ w0.res i) (hargs:ECL γ args us.toList) (hH:HR γ w0 (mkT K0) m0 w)
  (hl:LeadsM P k ⟨e,[],mkT K0,m0⟩ s) (hd:runZ (stepZ P FT f dr sub ct) p (endM k lk ps nl) c s = .done a K n') :
  Calls P f us w fun e w'=>∃ γ' x,e = .returned x∧EC γ' a x∧HR γ' w0 (mkT K) n' w'∧∀ j p,j < k→γ j=some p→γ' j=some p:=by
 intro cs;obtain ⟨q1,_⟩:=exEnter_ok hF hargs he;have hM:MR γ w0 cs ⟨e,[],mkT K0,m0⟩ (lone (Frame.enter P f us .normal) cs w):=⟨_,[],w,rfl,q1,.nil,hH⟩;obtain ⟨γ1,m1,g1,g3,g4⟩:=hl γ w0 cs _ hres hM;obtain ⟨eo,h1,this⟩:=runZ_ok (p:=p) (κ:=endM k lk ps nl) (fun γ s m κ' hm=>stepZ_ok (fid:=f) hm0 hF hdr hsub hct hm κ') c γ1 s m1 g3;have h3:endM k lk ps nl eo = .done a K n':=h1.symm.trans hd;unfold endM at h3;split at h3
 ·split at h3 <;> cases h3
 ·rename_i a0 H0 n0;obtain ⟨γ',fr',w',v,hle,h2,h4,h5,h6,h7⟩:=this;unfold doneM at h3;simp only at h3;split at h3
  case h_2=>cases h3
  rename_i a2 ha2;split at h3
  case h_2=>cases h3
  rename_i K2 hK2;rw [bc_eq] at h3;split at h3
  case isFalse=>cases h3
  rename_i hρ;rw [bc_eq] at h3;split at h3
  case isFalse=>cases h3
  rename_i hkeep;rw [bc_eq] at h3;split at h3
  case isFalse=>cases h3
  rename_i hpk;injection h3 with e1 e2 e3;subst e1;subst e2;subst e3
  exact ⟨.returned v,w',fr',⟨_,v,rfl,EC.ren hρ ha2 h6,(nilD_ok (nl:=nl) (q:=(H0,n0)) h7).ren (nils:=[]) hres hρ hkeep rfl hK2 (K2:=sortK K2) (fun _=>sortK_mem),fun j p hj ej=>by rw [G.ren_look hρ (pinsB_ok hpk hj)];exact hle j p (g4 j p hj ej)⟩,g1.trans h2,h4,h5⟩
 ·cases h3
end Go.Proofs.Ytooimphimnagaaa.Ev
namespace Go.Proofs.Ytooimphimnagaaa.Ev
open Go.Proofs
noncomputable def ft0:Tr FI:=.nil
theorem ft0Ok:FTok Try.prog ft0:=FTok.nil _
noncomputable def ft1:Tr FI:=ft0.put 9 (some (ofFunc Try.f9))
theorem ft1Ok:FTok Try.prog ft1:=ft0Ok.add (by kernel_rfl) Try.func9 (by kernel_rfl) (by kernel_rfl)
noncomputable def ft2:Tr FI:=ft1.put 25 (some (ofFunc Try.f25))
theorem ft2Ok:FTok Try.prog ft2:=ft1Ok.add (by kernel_rfl) Try.func25 (by kernel_rfl) (by kernel_rfl)
noncomputable def ft3:Tr FI:=ft2.put 27 (some (ofFunc Try.f27))
theorem ft3Ok:FTok Try.prog ft3:=ft2Ok.add (by kernel_rfl) Try.func27 (by kernel_rfl) (by kernel_rfl)
noncomputable def ft4:Tr FI:=ft3.put 28 (some (ofFunc Try.f28))
theorem ft4Ok:FTok Try.prog ft4:=ft3Ok.add (by kernel_rfl) Try.func28 (by kernel_rfl) (by kernel_rfl)
noncomputable def ft5:Tr FI:=ft4.put 42 (some (ofFunc Try.f42))
theorem ft5Ok:FTok Try.prog ft5:=ft4Ok.add (by kernel_rfl) Try.func42 (by kernel_rfl) (by kernel_rfl)
noncomputable def ft6:Tr FI:=ft5.put 44 (some (ofFunc Try.f44))
theorem ft6Ok:FTok Try.prog ft6:=ft5Ok.add (by kernel_rfl) Try.func44 (by kernel_rfl) (by kernel_rfl)
noncomputable def ft7:Tr FI:=ft6.put 45 (some (ofFunc Try.f45))
theorem ft7Ok:FTok Try.prog ft7:=ft6Ok.add (by kernel_rfl) Try.func45 (by kernel_rfl) (by kernel_rfl)
noncomputable def ft8:Tr FI:=ft7.put 46 (some (ofFunc Try.f46))
theorem ft8Ok:FTok Try.prog ft8:=ft7Ok.add (by kernel_rfl) Try.func46 (by kernel_rfl) (by kernel_rfl)
noncomputable def ft9:Tr FI:=ft8.put 47 (some (ofFunc Try.f47))
theorem ft9Ok:FTok Try.prog ft9:=ft8Ok.add (by kernel_rfl) Try.func47 (by kernel_rfl) (by kernel_rfl)
noncomputable def ft10:Tr FI:=ft9.put 49 (some (ofFunc Try.f49))
theorem ft10Ok:FTok Try.prog ft10:=ft9Ok.add (by kernel_rfl) Try.func49 (by kernel_rfl) (by kernel_rfl)
noncomputable def ft11:Tr FI:=ft10.put 50 (some (ofFunc Try.f50))
theorem ft11Ok:FTok Try.prog ft11:=ft10Ok.add (by kernel_rfl) Try.func50 (by kernel_rfl) (by kernel_rfl)
noncomputable def ft12:Tr FI:=ft11.put 51 (some (ofFunc Try.f51))
theorem ft12Ok:FTok Try.prog ft12:=ft11Ok.add (by kernel_rfl) Try.func51 (by kernel_rfl) (by kernel_rfl)
noncomputable def ft13:Tr FI:=ft12.put 52 (some (ofFunc Try.f52))
theorem ft13Ok:FTok Try.prog ft13:=ft12Ok.add (by kernel_rfl) Try.func52 (by kernel_rfl) (by kernel_rfl)
noncomputable def ft14:Tr FI:=ft13.put 53 (some (ofFunc Try.f53))
theorem ft14Ok:FTok Try.prog ft14:=ft13Ok.add (by kernel_rfl) Try.func53 (by kernel_rfl) (by kernel_rfl)
noncomputable def ft15:Tr FI:=ft14.put 54 (some (ofFunc Try.f54))
theorem ft15Ok:FTok Try.prog ft15:=ft14Ok.add (by kernel_rfl) Try.func54 (by kernel_rfl) (by kernel_rfl)
noncomputable def ft16:Tr FI:=ft15.put 55 (some (ofFunc Try.f55))
theorem ft16Ok:FTok Try.prog ft16:=ft15Ok.add (by kernel_rfl) Try.func55 (by kernel_rfl) (by kernel_rfl)
noncomputable def ft17:Tr FI:=ft16.put 79 (some (ofFunc Try.f79))
theorem ft17Ok:FTok Try.prog ft17:=ft16Ok.add (by kernel_rfl) Try.func79 (by kernel_rfl) (by kernel_rfl)
noncomputable def ft18:Tr FI:=ft17.put 82 (some (ofFunc Try.f82))
theorem ft18Ok:FTok Try.prog ft18:=ft17Ok.add (by kernel_rfl) Try.func82 (by kernel_rfl) (by kernel_rfl)
noncomputable def ft19:Tr FI:=ft18.put 83 (some (ofFunc Try.f83))
theorem ft19Ok:FTok Try.prog ft19:=ft18Ok.add (by kernel_rfl) Try.func83 (by kernel_rfl) (by kernel_rfl)
noncomputable def ft20:Tr FI:=ft19.put 84 (some (ofFunc Try.f84))
theorem ft20Ok:FTok Try.prog ft20:=ft19Ok.add (by kernel_rfl) Try.func84 (by kernel_rfl) (by kernel_rfl)
noncomputable def ft21:Tr FI:=ft20.put 85 (some (ofFunc Try.f85))
theorem ft21Ok:FTok Try.prog ft21:=ft20Ok.add (by kernel_rfl) Try.func85 (by kernel_rfl) (by kernel_rfl)
noncomputable def ft22:Tr FI:=ft21.put 87 (some (ofFunc Try.f87))
theorem ft22Ok:FTok Try.prog ft22:=ft21Ok.add (by kernel_rfl) Try.func87 (by kernel_rfl) (by kernel_rfl)
noncomputable def ft23:Tr FI:=ft22.put 92 (some (ofFunc Try.f92))
theorem ft23Ok:FTok Try.prog ft23:=ft22Ok.add (by kernel_rfl) Try.func92 (by kernel_rfl) (by kernel_rfl)
noncomputable def ft24:Tr FI:=ft23.put 93 (some (ofFunc Try.f93))
theorem ft24Ok:FTok Try.prog ft24:=ft23Ok.add (by kernel_rfl) Try.func93 (by kernel_rfl) (by kernel_rfl)
noncomputable def ft25:Tr FI:=ft24.put 94 (some (ofFunc Try.f94))
theorem ft25Ok:FTok Try.prog ft25:=ft24Ok.add (by kernel_rfl) Try.func94 (by kernel_rfl) (by kernel_rfl)
noncomputable def ft26:Tr FI:=ft25.put 95 (some (ofFunc Try.f95))
theorem ft26Ok:FTok Try.prog ft26:=ft25Ok.add (by kernel_rfl) Try.func95 (by kernel_rfl) (by kernel_rfl)
noncomputable def ft27:Tr FI:=ft26.put 96 (some (ofFunc Try.f96))
theorem ft27Ok:FTok Try.prog ft27:=ft26Ok.add (by kernel_rfl) Try.func96 (by kernel_rfl) (by kernel_rfl)
noncomputable def ft28:Tr FI:=ft27.put 97 (some (ofFunc Try.f97))
theorem ft28Ok:FTok Try.prog ft28:=ft27Ok.add (by kernel_rfl) Try.func97 (by kernel_rfl) (by kernel_rfl)
noncomputable def ft29:Tr FI:=ft28.put 98 (some (ofFunc Try.f98))
theorem ft29Ok:FTok Try.prog ft29:=ft28Ok.add (by kernel_rfl) Try.func98 (by kernel_rfl) (by kernel_rfl)
noncomputable def ft30:Tr FI:=ft29.put 112 (some (ofFunc Try.f112))
theorem ft30Ok:FTok Try.prog ft30:=ft29Ok.add (by kernel_rfl) Try.func112 (by kernel_rfl) (by kernel_rfl)
noncomputable def ft31:Tr FI:=ft30.put 123 (some (ofFunc Try.f123))
theorem ft31Ok:FTok Try.prog ft31:=ft30Ok.add (by kernel_rfl) Try.func123 (by kernel_rfl) (by kernel_rfl)
noncomputable def ft32:Tr FI:=ft31.put 124 (some (ofFunc Try.f124))
theorem ft32Ok:FTok Try.prog ft32:=ft31Ok.add (by kernel_rfl) Try.func124 (by kernel_rfl) (by kernel_rfl)
noncomputable def ft33:Tr FI:=ft32.put 125 (some (ofFunc Try.f125))
theorem ft33Ok:FTok Try.prog ft33:=ft32Ok.add (by kernel_rfl) Try.func125 (by kernel_rfl) (by kernel_rfl)
noncomputable def ft34:Tr FI:=ft33.put 126 (some (ofFunc Try.f126))
theorem ft34Ok:FTok Try.prog ft34:=ft33Ok.add (by kernel_rfl) Try.func126 (by kernel_rfl) (by kernel_rfl)
noncomputable def ft35:Tr FI:=ft34.put 135 (some (ofFunc Try.f135))
theorem ft35Ok:FTok Try.prog ft35:=ft34Ok.add (by kernel_rfl) Try.func135 (by kernel_rfl) (by kernel_rfl)
noncomputable def ft:Tr FI:=(.node none (.node none (.node none (.node none (.node none (.node none .nil (.node none .nil (.node (some (ofFunc Try.f96)) .nil .nil))) (.node none .nil (.node none .nil (.node (some (ofFunc Try.f112)) .nil .nil)))) .nil) (.node none (.node none .nil (.node none (.node none .nil (.node (some (ofFunc Try.f84)) .nil .nil)) (.node (some (ofFunc Try.f52)) .nil .nil))) (.node none (.node none .nil (.node (some (ofFunc Try.f44)) .nil .nil)) (.node (some (ofFunc Try.f28)) (.node none .nil (.node (some (ofFunc Try.f92)) .nil .nil)) (.node none .nil (.node (some (ofFunc Try.f124)) .nil .nil)))))) (.node none (.node none (.node none (.node none .nil (.node none .nil (.node (some (ofFunc Try.f98)) .nil .nil))) (.node none (.node none .nil (.node (some (ofFunc Try.f82)) .nil .nil)) (.node (some (ofFunc Try.f50)) .nil .nil))) (.node none (.node none .nil (.node (some (ofFunc Try.f42)) .nil .nil)) .nil)) (.node none (.node none .nil (.node none .nil (.node (some (ofFunc Try.f54)) .nil .nil))) (.node none (.node none .nil (.node (some (ofFunc Try.f46)) .nil .nil)) (.node none (.node none .nil (.node (some (ofFunc Try.f94)) .nil .nil)) (.node none .nil (.node (some (ofFunc Try.f126)) .nil .nil))))))) (.node none (.node none (.node none (.node none (.node none .nil (.node none .nil (.node (some (ofFunc Try.f97)) .nil .nil))) (.node none .nil (.node (some (ofFunc Try.f49)) .nil .nil))) (.node (some (ofFunc Try.f9)) .nil (.node (some (ofFunc Try.f25)) .nil .nil))) (.node none (.node none .nil (.node none (.node none .nil (.node (some (ofFunc Try.f85)) .nil .nil)) (.node (some (ofFunc Try.f53)) .nil .nil))) (.node none (.node none .nil (.node (some (ofFunc Try.f45)) .nil .nil)) (.node none (.node none .nil (.node (some (ofFunc Try.f93)) .nil .nil)) (.node none .nil (.node (some (ofFunc Try.f125)) .nil .nil)))))) (.node none (.node none (.node none .nil (.node none (.node none .nil (.node (some (ofFunc Try.f83)) .nil .nil)) (.node (some (ofFunc Try.f51)) .nil .nil))) (.node none .nil (.node (some (ofFunc Try.f27)) .nil (.node none .nil (.node (some (ofFunc Try.f123)) .nil .nil))))) (.node none (.node none (.node none (.node none (.node none .nil (.node (some (ofFunc Try.f135)) .nil .nil)) .nil) .nil) (.node none (.node none .nil (.node (some (ofFunc Try.f87)) .nil .nil)) (.node (some (ofFunc Try.f55)) .nil .nil))) (.node none (.node none (.node none .nil (.node (some (ofFunc Try.f79)) .nil .nil)) (.node (some (ofFunc Try.f47)) .nil .nil)) (.node none (.node none .nil (.node (some (ofFunc Try.f95)) .nil .nil)) .nil))))))
theorem ftOk:FTok Try.prog ft:=(show ft35=ft by kernel_rfl) ▸ ft35Ok
end Go.Proofs.Ytooimphimnagaaa.Ev
namespace Go.Proofs.Ytooimphimnagaaa.Ev
open Go.Proofs
noncomputable def dr4:=drD Try.prog ft 16 4
noncomputable def sub4:Sub:=exSub (fun f=>exStep Try.prog ft f (drD Try.prog ft 16 3)) ft 16
theorem mix:Try.prog.follows .mixedOrders=true:=by kernel_rfl
theorem dr4Ok:DrOk Try.prog dr4:=drD_ok mix ftOk 16 4
theorem sub4Ok:LoudOk Try.prog sub4:=loudOk ftOk (fun fid cs w0 γ s m hM=>exStep_ok ftOk (drD_ok mix ftOk 16 3) hM) 16
theorem bc_t {α:Type} (x y:α):bc true x y=x:=rfl
theorem bc_f {α:Type} (x y:α):bc false x y=y:=rfl
theorem nn_ok (b:Bool):bc b true (bc b false true)=true:=by cases b <;> rfl
theorem dt {p:Prop} [Decidable p] (h:p):decide p=true:=decide_eq_true h
theorem df {p:Prop} [Decidable p] (h:¬ p):decide p=false:=decide_eq_false h
theorem bltD {a b:Nat} (h:a < b):Nat.blt a b=true:=by unfold Nat.blt;exact Nat.ble_eq_true_of_le h
theorem bltN {a b:Nat} (h:¬ a < b):Nat.blt a b=false:=by
 cases e:Nat.blt a b with
 | false=>rfl
 | true=>exact absurd (blt_lt e) h
theorem ble_of {a b:Nat} (h:a≤b):Nat.ble a b=true:=Nat.ble_eq_true_of_le h
theorem bleN {a b:Nat} (h:¬ a≤b):Nat.ble a b=false:=by
 cases e:Nat.ble a b with
 | false=>rfl
 | true=>exact absurd (Nat.le_of_ble_eq_true e) h
theorem beqD {a b:Nat} (h:a=b):Nat.beq a b=true:=by subst h;exact Nat.beq_refl a
theorem ofn (n:Nat):Int.ofNat n=(n:Int):=rfl
theorem to_nat (i:Nat):Int.toNat (i:Int)=i:=Int.toNat_natCast i
theorem wrap_in (x:Int) (h1:-4611686018427387904≤x) (h2:x < 4611686018427387904):IntKind.i64.wrap x=x:=IntWalk.i64_in _ (by omega)
theorem getD_at {α:Type} {l:List α} {d:α} {i:Nat} (h:i < l.length):l.getD i d=l[i]:=by rw [List.getD_eq_getElem?_getD,List.getElem?_eq_getElem h];rfl

noncomputable def ent (f:FuncId) (args:List EV):EF:=Option.rec ⟨f,0,.nil,[],[],none,false⟩ (fun e=>e) (exEnter ft f args)
noncomputable def st0 (f:FuncId) (args:List EV):ES:=⟨ent f args,[],.nil,0⟩

noncomputable abbrev iv (n:Int):EV:=.v (.int .i64 n)
noncomputable abbrev bv (b:Bool):EV:=.v (.bool b)
noncomputable abbrev il (l:List Int):EV:=.lst (.ints .i64 l)

noncomputable def RZs (f:FuncId) (ct:Tr ZCC) (ps:PLs) (lk:List Nat) (own:Bool) (s:ES):ZF:=runZ (stepZ Try.prog ft f dr4 sub4 ct) (atPs ps) (endP lk ps own) 600 s

noncomputable abbrev RZ (f:FuncId) (ct:Tr ZCC) (p:ES→Bool) (lk:List Nat) (ls:List SZ) (own:Bool) (s:ES):ZF:=RZs f ct [(p,ls)] lk own s
theorem leadsZ {f:FuncId} {ct:Tr ZCC} (hct:ZCtsOk Try.prog ct) {ps:PLs} {lk:List Nat} {own:Bool} {s:ES} {r:NS} (h:RZs f ct ps lk own s = .at r):LeadsZ Try.prog s (stOf r):=
 leadsF (f:=f) mix ftOk dr4Ok sub4Ok hct endP_ok h
theorem callsZ {γ:G} {w:World} {f:FuncId} {ct:Tr ZCC} (hct:ZCtsOk Try.prog ct) {ps:PLs} {lk:List Nat} {own:Bool} {s:ES} {args:List EV} {us:Array Value} {a:EV} {K:List (Nat × EK)} {n':Nat} (he:(exEnter ft f args).isSome=true) (hargs:ECL γ args us.toList) (hN:∀ i,γ i=none) (hfz:FzAt γ w)
  (hl:LeadsZ Try.prog (st0 f args) s) (hd:RZs f ct ps lk own s = .done a K n') :
  Calls Try.prog f us w fun e w'=>∃ γ' x,e = .returned x∧EC γ' a x∧HR γ' (Bs.ofG w γ) (mkT K) n' w':=by
 obtain ⟨e,he⟩:=Option.isSome_iff_exists.1 he;have:ent f args=e:=by unfold ent;rw [he]
 unfold st0 at hl;rw [this] at hl;exact callsF mix ftOk dr4Ok sub4Ok hct endP_ok he hargs hN hfz hl hd

def Weak (a a':EV):Prop:=∀ γ x,EC γ a x→EC γ a' x
theorem Weak.refl (a:EV):Weak a a:=fun _ _ h=>h
theorem Weak.nil (sh:List Sh):Weak (.v (.slice none 0 0)) (.lst (.recs sh [])):=fun γ x h=>by
 rw [ec_v h];exact .lst _ _ (.empty _ _ none 0 rfl (Nat.zero_le _) fun _=>rfl)
theorem Weak.nilI (k:IntKind):Weak (.v (.slice none 0 0)) (.lst (.ints k [])):=fun γ x h=>by
 rw [ec_v h];exact .lst _ _ (.empty _ _ none 0 rfl (Nat.zero_le _) fun _=>rfl)
inductive WeakL:List EV→List EV→Prop
 | nil:WeakL [] []
 | cons {a b:EV} {l r:List EV} (h:Weak a b) (t:WeakL l r):WeakL (a :: l) (b :: r)
theorem WeakL.ok {γ:G}:∀ {l r:List EV} {vs:List Value},WeakL l r→ECL γ l vs→ECL γ r vs
 | _,_,vs,.nil,h=>h
 | _,_,vs,.cons h t,k=>by
  obtain ⟨x,ys,rfl,h1,h2⟩:=ECL.inv k;exact ECL.cons (h _ _ h1) (t.ok h2)
theorem Weak.tup {l r:List EV} (h:WeakL l r):Weak (.tup l) (.tup r):=fun γ x k=>by
 cases k with
 | tup _ vs h1 h2=>have:=h.ok (γ:=γ) ⟨h1,h2⟩;exact .tup _ vs this.1 this.2
theorem Weak.trans {a b c:EV} (h:Weak a b) (k:Weak b c):Weak a c:=fun γ x e=>k γ x (h γ x e)

def EndZ (f:FuncId) (ct:Tr ZCC) (own:Bool) (s:ES) (a:EV) (K:List (Nat × EK)) (n:Nat):Prop:=∃ ps lk s' a',LeadsZ Try.prog s s'∧RZs f ct ps lk own s' = .done a' K n∧Weak a' a
theorem EndZ.done {f:FuncId} {ct:Tr ZCC} {own:Bool} {s:ES} {a:EV} {K:List (Nat × EK)} {n:Nat} {ps:PLs} {lk:List Nat} (h:RZs f ct ps lk own s = .done a K n):EndZ f ct own s a K n:=⟨ps,lk,s,a,LeadsZ.refl s,h,Weak.refl a⟩
theorem EndZ.weak {f:FuncId} {ct:Tr ZCC} {own:Bool} {s:ES} {a b:EV} {K:List (Nat × EK)} {n:Nat} (h:EndZ f ct own s a K n) (k:Weak a b):EndZ f ct own s b K n:=by
 obtain ⟨ps,lk,t,a',h1,h2,h3⟩:=h;exact ⟨ps,lk,t,a',h1,h2,h3.trans k⟩
theorem EndZ.lead {f:FuncId} {ct:Tr ZCC} {own:Bool} {s s':ES} {a:EV} {K:List (Nat × EK)} {n:Nat} (h:LeadsZ Try.prog s s') (k:EndZ f ct own s' a K n):EndZ f ct own s a K n:=by
 obtain ⟨ps,lk,t,a',h1,h2,h3⟩:=k;exact ⟨ps,lk,t,a',h.trans h1,h2,h3⟩
theorem EndZ.at {f:FuncId} {ct:Tr ZCC} (hct:ZCtsOk Try.prog ct) {own own':Bool} {s:ES} {r:NS} {a:EV} {K:List (Nat × EK)} {n:Nat} {ps:PLs} {lk:List Nat} (h:RZs f ct ps lk own' s = .at r) (k:EndZ f ct own (stOf r) a K n):EndZ f ct own s a K n:=k.lead (leadsZ hct h)
theorem EndZ.calls {γ:G} {w:World} {f:FuncId} {ct:Tr ZCC} {own:Bool} {args:List EV} {a:EV} {K:List (Nat × EK)} {n':Nat} (h:EndZ f ct own (st0 f args) a K n') (hct:ZCtsOk Try.prog ct) {us:Array Value} (he:(exEnter ft f args).isSome=true) (hargs:ECL γ args us.toList) (hN:∀ i,γ i=none) (hfz:FzAt γ w) :
  Calls Try.prog f us w fun e w'=>∃ γ' x,e = .returned x∧EC γ' a x∧HR γ' (Bs.ofG w γ) (mkT K) n' w':=by
 obtain ⟨ps,lk,t,a',h1,h2,h3⟩:=h;refine (callsZ hct he hargs hN hfz h1 h2).mono fun e w' ⟨γ',x,k1,k2,k3⟩=>⟨γ',x,k1,h3 γ' x k2,k3⟩

noncomputable def st0m (f:FuncId) (args:List EV) (K0:List (Nat × EK)) (m:Nat):ES:=⟨ent f args,[],mkT K0,m⟩

noncomputable def RMs (k:Nat) (f:FuncId) (ct:Tr ZCC) (ps:PLs) (lk:List Nat) (nl:NLs) (s:ES):ZF:=runZ (stepZ Try.prog ft f dr4 sub4 ct) (atPs ps) (endM k lk ps nl) 600 s
theorem leadsMZ {k:Nat} {f:FuncId} {ct:Tr ZCC} (hct:ZCtsOk Try.prog ct) {ps:PLs} {lk:List Nat} {s:ES} {r:NS} {nl:NLs} (h:RMs k f ct ps lk nl s = .at r):LeadsM Try.prog k s (stOf r):=
 leadsM (f:=f) mix ftOk dr4Ok sub4Ok hct h
def EndM (k:Nat) (f:FuncId) (ct:Tr ZCC) (s:ES) (a:EV) (K:List (Nat × EK)) (n:Nat):Prop:=∃ ps lk nl s',LeadsM Try.prog k s s'∧RMs k f ct ps lk nl s' = .done a K n
theorem EndM.done {k:Nat} {f:FuncId} {ct:Tr ZCC} {s:ES} {a:EV} {K:List (Nat × EK)} {n:Nat} {ps:PLs} {lk:List Nat} {nl:NLs} (h:RMs k f ct ps lk nl s = .done a K n):EndM k f ct s a K n:=⟨ps,lk,nl,s,LeadsM.refl k s,h⟩
theorem EndM.lead {k:Nat} {f:FuncId} {ct:Tr ZCC} {s s':ES} {a:EV} {K:List (Nat × EK)} {n:Nat} (h:LeadsM Try.prog k s s') (g:EndM k f ct s' a K n):EndM k f ct s a K n:=by
 obtain ⟨ps,lk,nl,t,h1,h2⟩:=g;exact ⟨ps,lk,nl,t,h.trans h1,h2⟩
theorem EndM.at {k:Nat} {f:FuncId} {ct:Tr ZCC} (hct:ZCtsOk Try.prog ct) {s:ES} {r:NS} {a:EV} {K:List (Nat × EK)} {n:Nat} {ps:PLs} {lk:List Nat} {nl:NLs} (h:RMs k f ct ps lk nl s = .at r) (g:EndM k f ct (stOf r) a K n):EndM k f ct s a K n:=g.lead (leadsMZ hct h)
theorem EndM.calls {k:Nat} {γ:G} {w0:Bs} {w:World} {f:FuncId} {ct:Tr ZCC} {args:List EV} {K0:List (Nat × EK)} {m0:Nat} {a:EV} {K:List (Nat × EK)} {n':Nat} (h:EndM k f ct (st0m f args K0 m0) a K n') (hct:ZCtsOk Try.prog ct) {us:Array Value} (he:(exEnter ft f args).isSome=true) (hres:∀ i,¬ w0.res i) (hargs:ECL γ args us.toList) (hH:HR γ w0 (mkT K0) m0 w) :
  Calls Try.prog f us w fun e w'=>∃ γ' x,e = .returned x∧EC γ' a x∧HR γ' w0 (mkT K) n' w'∧∀ j p,j < k→γ j=some p→γ' j=some p:=by
 obtain ⟨ps,lk,nl,t,h1,h2⟩:=h;obtain ⟨e,he⟩:=Option.isSome_iff_exists.1 he;have:ent f args=e:=by unfold ent;rw [he]
 unfold st0m at h1;rw [this] at h1;exact callsM mix ftOk dr4Ok sub4Ok hct he hres hargs hH h1 h2
theorem bc_same {α:Type} (b:Bool) (x:α):bc b x x=x:=by cases b <;> rfl

noncomputable def ZMT.or (a b:ZMT):ZMT:=fun ax K m=>match a ax K m with
 | some r=>some r
 | none=>b ax K m
theorem ZMtOk.or {P:Program} {g:FuncId} {a b:ZMT} (ha:ZMtOk P g a) (hb:ZMtOk P g b):ZMtOk P g (a.or b):=fun γ w0 w us ax K0 m r hs=>by
 unfold ZMT.or at hs;split at hs
 ·rename_i r' hr;injection hs with hs;subst hs
  exact ha γ w0 w us ax K0 m _ hr
 ·exact hb γ w0 w us ax K0 m r hs
noncomputable def ZCT.or (a b:ZCT):ZCT:=fun ax=>match a ax with
 | some r=>some r
 | none=>b ax
theorem ZCtOk.or {P:Program} {g:FuncId} {a b:ZCT} (ha:ZCtOk P g a) (hb:ZCtOk P g b):ZCtOk P g (a.or b):=fun γ w us ax r hs=>by
 unfold ZCT.or at hs;split at hs
 ·rename_i r' hr;injection hs with hs;subst hs
  exact ha γ w us ax _ hr
 ·exact hb γ w us ax r hs
theorem noN {α:Type} {x r:α} {b:Bool} (h:bc b (some x) none=some r):b=true∧x=r:=by
 cases b
 ·cases h
 ·exact ⟨rfl,Option.some.inj h⟩
end Go.Proofs.Ytooimphimnagaaa.Ev
namespace Go.Proofs.Ytooimphimnagaaa.Ev
open Go.Proofs
theorem closed_ct {P:Program} {f:FuncId} {γ:G} {w:World} {us:Array Value} (h:Calls P f #[] w fun e w'=>e = .returned (.bool true)∧Stays w w') (hax:ECL γ [] us.toList) (hfz:FzAt γ w):Calls P f us w fun e w'=>∃ γ' x,e = .returned x∧EC γ' (bv true) x∧HR γ' (Bs.ofG w γ) (mkT (zseqs [])) 0 w':=by
 have hu:us = #[]:=by
  have:=hax.1;apply Array.toList_inj.1;exact List.eq_nil_of_length_eq_zero this.symm
 subst hu;refine h.mono ?_
 rintro e w' ⟨rfl,hs⟩
 refine ⟨⟨fun _=>none,γ.fz,fun _ _ _=>none⟩,_,rfl,.v _,⟨(fun i k hk=>by cases hk),(fun i j ki kj hi=>by cases hi),(fun _ _=>rfl),(fun i hi=>hi.elim),(fun i p hp=>by cases hp),⟨hs.os,hs.tape,hs.output,hs.size,hs.block⟩,⟨fun k a hk=>?_,fun k hk=>hk,.none (fun _ _ _ p e=>by cases (show (none:Option (Nat × Nat × Nat))=some p from e)) (fun i k hi=>by cases hi)⟩⟩⟩
 obtain ⟨ty,fz,h1⟩:=hfz k a hk;have hk2:=(Array.getElem?_eq_some_iff.1 h1).1;exact ⟨⟨ty,fz,(hs.block k hk2).trans h1⟩,.inl ⟨a,hk⟩,fun i ki b m hi=>by cases hi⟩
noncomputable def spTrue:ZCT:=fun ax=>match ax with
 | []=>some ⟨true,bv true,[],0⟩
 | _=>none
theorem spTrue_ok {P:Program} {f:FuncId} (h:∀ w,Calls P f #[] w fun e w'=>e = .returned (.bool true)∧Stays w w'):ZCtOk P f spTrue:=fun γ w us ax r hs hc hax hN hfz=>by
 unfold spTrue at hs;split at hs
 case h_2=>cases hs
 obtain ⟨rfl⟩:=Option.some.inj hs;exact closed_ct (h w) hax hfz
theorem law_of {P:Program} {f:FuncId} {γ:G} {w:World} {us:Array Value} {K:List (Nat × EK)} {n:Nat} (h:Calls P f us w fun e w'=>∃ γ' x,e = .returned x∧EC γ' (bv true) x∧HR γ' (Bs.ofG w γ) (mkT K) n w'):Calls P f us w fun e w'=>e = .returned (.bool true)∧Stays w w':=h.mono fun e w' ⟨γ',x,h1,h2,h3⟩=>⟨by rw [h1,ec_v h2],staysOf h3.stays⟩
end Go.Proofs.Ytooimphimnagaaa.Ev
namespace Go.Proofs.Ytooimphimnagaaa.Ev
variable {n:Nat}
namespace Pm
def inv (p:Pm n):Pm n:=⟨p.g,p.f,p.gf,p.fg,p.outg⟩
end Pm

noncomputable def pA (p:Pm n):List Int:=(List.range 12).map fun x=>((p.f x:Nat):Int)
theorem pA_len (p:Pm n):(pA p).length=12:=by unfold pA;rw [List.length_map,List.length_range]
theorem pA_get (p:Pm n) {x:Nat} (hx:x < 12):(pA p).getD x 0=(p.f x:Int):=by
 unfold pA;rw [List.getD_eq_getElem?_getD,List.getElem?_map,List.getElem?_range hx];rfl
theorem pA_ext {p:Pm n} {l:List Int} (hl:l.length=12) (h:∀ x,x < 12→l.getD x 0=(p.f x:Int)):l=pA p:=by
 apply List.ext_getElem (by rw [hl,pA_len]);intro x h1 h2;have h3:=h x (by omega);rw [← pA_get p (by omega),getD_at h1,getD_at h2] at h3;exact h3
theorem pA_inj (hn:n≤12) {p q:Pm n} (h:pA p=pA q):p=q:=Pm.ext fun x=>by
 by_cases hx:x < n
 ·have h1:=pA_get p (show x < 12 by omega);rw [h,pA_get q (by omega)] at h1;omega
 ·rw [p.out x (by omega),q.out x (by omega)]

theorem gset2 (l:List Int) (i x:Nat) (v:Int):(l.set i v).getD x 0=if x=i∧i < l.length then v else l.getD x 0:=by
 rw [List.getD_eq_getElem?_getD,List.getD_eq_getElem?_getD,List.getElem?_set]
 by_cases h:i=x
 ·subst h
  by_cases h2:i < l.length
  ·simp [h2]
  ·simp [h2]
 ·rw [if_neg h,if_neg (by omega)]

noncomputable def invS (e:List Int):Nat→List Int
 | 0=>zerosL 12
 | i+1=>(invS e i).set (e.getD i 0).toNat (i:Int)
theorem invS_len (e:List Int):∀ i,(invS e i).length=12
 | 0=>by unfold invS zerosL;simp
 | i+1=>by unfold invS;rw [List.length_set,invS_len e i]
theorem invS_get (hn:n≤12) (p:Pm n):∀ (i:Nat),i≤12→∀ x,x < 12→p.g x < i→(invS (pA p) i).getD x 0=(p.g x:Int)
 | 0,_,x,_,h=>by omega
 | i+1,hi,x,hx,h=>by
  unfold invS;rw [gset2,invS_len,pA_get p (by omega),Int.toNat_natCast]
  by_cases e:x=p.f i
  ·subst e;rw [if_pos ⟨rfl,hx⟩,p.gf]
  ·rw [if_neg (fun h=>e h.1)];refine invS_get hn p i (by omega) x hx ?_;have:p.g x≠i:=fun e2=>e (by rw [← e2,p.fg]);omega
theorem Pm.lt12 (hn:n≤12) (p:Pm n) {x:Nat} (hx:x < 12):p.f x < 12:=by
 by_cases h:x < n
 ·have:=p.lt h;omega
 ·rw [p.out x (by omega)];exact hx
theorem invS_pA (hn:n≤12) (p:Pm n):invS (pA p) 12=pA p.inv:=pA_ext (invS_len _ 12) fun x hx=>by
 rw [invS_get hn p 12 (Nat.le_refl _) x hx (p.inv.lt12 hn hx)];rfl

def In12 (e:List Int):Prop:=e.length=12∧∀ i,i < 12→0≤e.getD i 0∧e.getD i 0 < 12
noncomputable instance (e:List Int):Decidable (In12 e):=Classical.propDecidable _
theorem In12.pA (hn:n≤12) (p:Pm n):In12 (pA p):=⟨pA_len p,fun i hi=>by
 rw [pA_get p hi];have:=p.lt12 hn hi;omega⟩

theorem pA_L (p:Pm n) {i:Nat} (hi:0 < i∧i < n) (hn:n≤12):((pA p).set (i - 1) (p.f i:Int)).set i (p.f (i - 1):Int)=pA (p.L i hi):=pA_ext (by rw [List.length_set,List.length_set,pA_len]) fun x hx=>by
 show _=((p.f (sw i x):Nat):Int);rw [gset2,gset2,List.length_set,pA_len]
 by_cases h1:x=i
 ·rw [if_pos ⟨h1,by omega⟩,h1,Pm.sw_at]
 ·rw [if_neg (fun h=>h1 h.1)]
  by_cases h2:x=i - 1
  ·rw [if_pos ⟨h2,by omega⟩,h2,Pm.sw_pre hi.1]
  ·rw [if_neg (fun h=>h2 h.1),pA_get p hx,Pm.sw_ne h1 (by omega)]
end Go.Proofs.Ytooimphimnagaaa.Ev
namespace Go.Proofs.Ytooimphimnagaaa.Ev
open Go.Proofs

noncomputable abbrev e12:List Int:=[0,1,2,3,4,5,6,7,8,9,10,11]
theorem e12_one (n:Nat):e12=pA (Pm.one n):=pA_ext rfl fun x hx=>by
 show e12.getD x 0=(x:Int)
 match x,hx with
 | 0,_=>rfl
 | 1,_=>rfl
 | 2,_=>rfl
 | 3,_=>rfl
 | 4,_=>rfl
 | 5,_=>rfl
 | 6,_=>rfl
 | 7,_=>rfl
 | 8,_=>rfl
 | 9,_=>rfl
 | 10,_=>rfl
 | 11,_=>rfl
namespace PPln
noncomputable def RUN (s:ES):ZF:=RZ 93 .nil (fun _=>false) [] [] false s
theorem in_t (d:Int):RUN (st0 93 [])=(.done (EV.arr (SyC.ints IntKind.u8 [(0),(1),(2),(3),(4),(5),(6),(7),(8),(9),(10),(11)])) [] 0):=by kernel_rfl
end PPln
noncomputable def spPln:ZCT:=fun ax=>match ax with
 | []=>some ⟨decide (True),.arr (.ints .u8 e12),[],0⟩
 | _=>none
theorem spPln_ok:ZCtOk Try.prog 93 spPln:=fun γ w us ax r hs hc hax hN hfz=>by
 unfold spPln at hs;split at hs
 case h_2=>cases hs
 obtain ⟨rfl⟩:=Option.some.inj hs;have hc_0:decide (True)=true:=hc;have hc:=of_decide_eq_true hc_0;exact EndZ.calls (.done (PPln.in_t 0)) (.nil _) (by kernel_rfl) hax hN hfz
namespace PInv
noncomputable def RA (s:ES):ZF:=RMs 1 95 .nil [(atS 0 95 3,[[(2,none),(3,none),(6,none),(7,none)]])] [] [] s

noncomputable def sA (e q:List Int) (i:Int):NS:=⟨[⟨95,19,[(2,(EV.ptr 1 0)),(3,(EV.ptr 2 0)),(6,(EV.ptr 0 0)),(7,iv i)],[.it (.code (nav [1,1,0,1,0,0] (bodyOf Try.f95))),.it (.inLoop (nav [1,1,0,1,0,0] (bodyOf Try.f95))),.it (.inBlock 0),.it (.code (nav [1,1,1] (bodyOf Try.f95)))],[],Option.none⟩],[(0,(EK.seq 92 (SyC.ints IntKind.u8 (e)) true)),(1,(EK.seq 92 (SyC.ints IntKind.u8 [(0),(0),(0),(0),(0),(0),(0),(0),(0),(0),(0),(0)]) true)),(2,EK.seq 92 (.ints .u8 q) true)],3⟩
noncomputable def sB (L q:List Int) (m:Nat) (nn:Bool) (i:Int):NS:=⟨[⟨95,19,[(2,(EV.ptr 1 0)),(3,(EV.ptr 2 0)),(6,(EV.ptrE 0 12 (m) 0)),(7,iv i)],[.it (.code (nav [1,1,0,1,0,0] (bodyOf Try.f95))),.it (.inLoop (nav [1,1,0,1,0,0] (bodyOf Try.f95))),.it (.inBlock 0),.it (.code (nav [1,1,1] (bodyOf Try.f95)))],[],Option.none⟩],[(0,(EK.seq 92 (SyC.ints IntKind.u8 (L)) (nn))),(1,(EK.seq 92 (SyC.ints IntKind.u8 [(0),(0),(0),(0),(0),(0),(0),(0),(0),(0),(0),(0)]) true)),(2,EK.seq 92 (.ints .u8 q) true)],3⟩
theorem inA_t (e:List Int):RA (st0m 95 [.ptr 0 0] [(0,.seq 92 (.ints .u8 e) true)] 1)=(.at (sA (e) (zerosL (12:Nat)) ((0:Int)))):=by kernel_rfl
theorem inB_t (L:List Int) (m:Nat) (nn:Bool):RA (st0m 95 [.ptrE 0 12 m 0] [(0,.seq 92 (.ints .u8 L) nn)] 1)=(.at (sB (L) (zerosL (12:Nat)) (m) (nn) ((0:Int)))):=by kernel_rfl
theorem stA_t (e q:List Int) (i:Int):RA (stOf (sA e q i))=(bc (decide (i < (12:Int))) (bc (bc (bc (bc (bc (decide ((0:Int)≤i)) (Nat.blt (Int.toNat i) (12:Nat)) false) true false) (bc (bc (Nat.blt (Int.toNat i) (List.length e)) true false) true false) false) true false) (bc (bc (bc (decide ((0:Int)≤List.getD e (Int.toNat i) (0:Int))) (Nat.blt (Int.toNat (List.getD e (Int.toNat i) (0:Int))) (12:Nat)) false) true false) (bc (Nat.blt (Int.toNat (List.getD e (Int.toNat i) (0:Int))) (List.length q)) (.at (sA (e) (List.set q (Int.toNat (List.getD e (Int.toNat i) (0:Int))) (IntKind.wrap IntKind.u8 i)) (IntKind.wrap IntKind.i64 (i+(1:Int))))) .bad) .bad) .bad) (bc (bc (Nat.beq (12:Nat) (List.length q)) true false) (bc (bc (Nat.beq (List.length q) (12:Nat)) (Nat.beq (List.length [(0:Int),(0:Int),(0:Int),(0:Int),(0:Int),(0:Int),(0:Int),(0:Int),(0:Int),(0:Int),(0:Int),(0:Int)]) (12:Nat)) false) (bc (bc (Nat.beq (12:Nat) (List.length q)) true false) (.done (EV.arr (SyC.ints IntKind.u8 (q))) [(0,(EK.seq 92 (SyC.ints IntKind.u8 (e)) true))] 1) .bad) .bad) .bad)):=by kernel_rfl
theorem stB_t (L q:List Int) (m:Nat) (nn:Bool) (i:Int):RA (stOf (sB L q m nn i))=(bc (decide (i < (12:Int))) (bc (bc (bc (bc (bc (decide ((0:Int)≤i)) (Nat.blt (Int.toNat i) (12:Nat)) false) true false) (bc (bc (Nat.blt (Nat.add (Nat.mul m (12:Nat)) (Nat.add (0:Nat) (Nat.mul (Int.toNat i) (1:Nat)))) (List.length L)) true false) true false) false) true false) (bc (bc (bc (decide ((0:Int)≤List.getD L (Nat.add (Nat.mul m (12:Nat)) (Nat.add (0:Nat) (Nat.mul (Int.toNat i) (1:Nat)))) (0:Int))) (Nat.blt (Int.toNat (List.getD L (Nat.add (Nat.mul m (12:Nat)) (Nat.add (0:Nat) (Nat.mul (Int.toNat i) (1:Nat)))) (0:Int))) (12:Nat)) false) true false) (bc (Nat.blt (Int.toNat (List.getD L (Nat.add (Nat.mul m (12:Nat)) (Nat.add (0:Nat) (Nat.mul (Int.toNat i) (1:Nat)))) (0:Int))) (List.length q)) (.at (sB (L) (List.set q (Int.toNat (List.getD L (Nat.add (Nat.mul m (12:Nat)) (Nat.add (0:Nat) (Nat.mul (Int.toNat i) (1:Nat)))) (0:Int))) (IntKind.wrap IntKind.u8 i)) (m) (nn) (IntKind.wrap IntKind.i64 (i+(1:Int))))) .bad) .bad) .bad) (bc (bc (Nat.beq (12:Nat) (List.length q)) true false) (bc (bc (Nat.beq (List.length q) (12:Nat)) (Nat.beq (List.length [(0:Int),(0:Int),(0:Int),(0:Int),(0:Int),(0:Int),(0:Int),(0:Int),(0:Int),(0:Int),(0:Int),(0:Int)]) (12:Nat)) false) (bc (bc (Nat.beq (12:Nat) (List.length q)) true false) (.done (EV.arr (SyC.ints IntKind.u8 (q))) [(0,(EK.seq 92 (SyC.ints IntKind.u8 (L)) (nn)))] 1) .bad) .bad) .bad)):=by kernel_rfl
theorem wrap8 (x:Int) (h1:0≤x) (h2:x < 256):IntKind.u8.wrap x=x:=by
 rw [IntKind.wrap_u8];omega
theorem stepA {e q:List Int} {i:Nat} (hi:i < 12) (he:In12 e) (hq:q.length=12):RA (stOf (sA e q i)) = .at (sA e (q.set (e.getD i 0).toNat (i:Int)) (i+1:Nat)):=by
 rw [stA_t];obtain ⟨h1,h2⟩:=he.2 i hi;have h3:=he.1;have e1:((i:Int)).toNat=i:=rfl;rw [e1];generalize hx:e.getD i 0=x at *;obtain ⟨x,rfl⟩:=Int.eq_ofNat_of_zero_le h1;simp (disch:=omega) only [Nat.add_eq,eqSy_self,eqN_self,bc_same,List.length_cons,ofn,wrap_in,dt,df,bltD,bltN,ble_of,bleN,beqD,bc_t,bc_f,nn_ok,Nat.zero_add,to_nat,Int.zero_add,Int.sub_zero,Int.sub_self,Int.cast_ofNat_Int,Int.natCast_zero,Int.toNat_zero,List.take_zero,List.nil_append,List.length_append,List.length_nil,wrap8];rfl
theorem lastA {e q:List Int} {i:Nat} (hi:12≤i) (hq:q.length=12):RA (stOf (sA e q i)) = .done (.arr (.ints .u8 q)) [(0,.seq 92 (.ints .u8 e) true)] 1:=by
 rw [stA_t];have e1:(Nat.beq (List.length [(0:Int),0,0,0,0,0,0,0,0,0,0,0]) 12)=true:=rfl;simp (disch:=omega) only [Nat.add_eq,eqSy_self,eqN_self,bc_same,List.length_cons,ofn,wrap_in,dt,df,bltD,bltN,ble_of,bleN,beqD,bc_t,bc_f,nn_ok,Nat.zero_add,to_nat,Int.zero_add,Int.sub_zero,Int.sub_self,Int.cast_ofNat_Int,Int.natCast_zero,Int.toNat_zero,List.take_zero,List.nil_append,List.length_append,List.length_nil,e1]
theorem loopA {e:List Int} (he:In12 e):∀ (k i:Nat),i+k=12→EndM 1 95 .nil (stOf (sA e (invS e i) i)) (.arr (.ints .u8 (invS e 12))) [(0,.seq 92 (.ints .u8 e) true)] 1
 | 0,i,h=>by
  obtain rfl:i=12:=by omega
  exact .done (lastA (Nat.le_refl _) (invS_len e 12))
 | k+1,i,h=>.at (.nil _) (stepA (by omega) he (invS_len e i)) (loopA he k (i+1) (by omega))
theorem stepB {L q:List Int} {m:Nat} {nn:Bool} {i:Nat} (hi:i < 12) (hm:m * 12+12≤L.length) (he:In12 ((L.drop (m * 12)).take 12)) (hq:q.length=12):RA (stOf (sB L q m nn i)) = .at (sB L (q.set (((L.drop (m * 12)).take 12).getD i 0).toNat (i:Int)) m nn (i+1:Nat)):=by
 rw [stB_t];obtain ⟨h1,h2⟩:=he.2 i hi;have h4:((L.drop (m * 12)).take 12).getD i 0=L.getD (Nat.add (Nat.mul m 12) (Nat.add 0 (Nat.mul (Int.toNat (i:Int)) 1))) 0:=by
  rw [List.getD_eq_getElem?_getD,List.getD_eq_getElem?_getD,List.getElem?_take,if_pos hi,List.getElem?_drop];show L[m * 12+i]?.getD 0=L[m * 12+(0+i * 1)]?.getD 0;rw [show m * 12+(0+i * 1)=m * 12+i by omega]
 rw [← h4];have e1:Nat.add (Nat.mul m 12) (Nat.add 0 (Nat.mul (Int.toNat (i:Int)) 1))=m * 12+i:=by
  show m * 12+(0+i * 1)=_;omega
 rw [e1];generalize ((L.drop (m * 12)).take 12).getD i 0=x at *;obtain ⟨x,rfl⟩:=Int.eq_ofNat_of_zero_le h1;simp (disch:=omega) only [Nat.add_eq,eqSy_self,eqN_self,bc_same,List.length_cons,ofn,wrap_in,dt,df,bltD,bltN,ble_of,bleN,beqD,bc_t,bc_f,nn_ok,Nat.zero_add,to_nat,Int.zero_add,Int.sub_zero,Int.sub_self,Int.cast_ofNat_Int,Int.natCast_zero,Int.toNat_zero,List.take_zero,List.nil_append,List.length_append,List.length_nil,wrap8];rfl
theorem lastB {L q:List Int} {m:Nat} {nn:Bool} {i:Nat} (hi:12≤i) (hq:q.length=12):RA (stOf (sB L q m nn i)) = .done (.arr (.ints .u8 q)) [(0,.seq 92 (.ints .u8 L) nn)] 1:=by
 rw [stB_t];have e1:(Nat.beq (List.length [(0:Int),0,0,0,0,0,0,0,0,0,0,0]) 12)=true:=rfl;simp (disch:=omega) only [Nat.add_eq,eqSy_self,eqN_self,bc_same,List.length_cons,ofn,wrap_in,dt,df,bltD,bltN,ble_of,bleN,beqD,bc_t,bc_f,nn_ok,Nat.zero_add,to_nat,Int.zero_add,Int.sub_zero,Int.sub_self,Int.cast_ofNat_Int,Int.natCast_zero,Int.toNat_zero,List.take_zero,List.nil_append,List.length_append,List.length_nil,e1]
theorem loopB {L:List Int} {m:Nat} {nn:Bool} (hm:m * 12+12≤L.length) (he:In12 ((L.drop (m * 12)).take 12)):∀ (k i:Nat),i+k=12→EndM 1 95 .nil (stOf (sB L (invS ((L.drop (m * 12)).take 12) i) m nn i)) (.arr (.ints .u8 (invS ((L.drop (m * 12)).take 12) 12))) [(0,.seq 92 (.ints .u8 L) nn)] 1
 | 0,i,h=>by
  obtain rfl:i=12:=by omega
  exact .done (lastB (Nat.le_refl _) (invS_len _ 12))
 | k+1,i,h=>.at (.nil _) (stepB (by omega) hm he (invS_len _ i)) (loopB hm he k (i+1) (by omega))
end PInv
noncomputable def spInv_0:ZMT:=fun ax K0 m=>match ax,K0 with
 | [.ptr 0 0],[(0,.seq 92 (.ints .u8 e) v_0)]=>bc (Nat.beq m (1)) (some ⟨bc (eqN v_0 (true)) (decide (In12 e)) false,.arr (.ints .u8 (invS e 12)),[(0,.seq 92 (.ints .u8 e) true)],1,1⟩) none
 | _,_=>none
theorem spInv_0_ok:ZMtOk Try.prog 95 spInv_0:=fun γ w0 w us ax K0 m r hs hc hres hax hH=>by
 unfold spInv_0 at hs;split at hs
 case h_2=>cases hs
 rename_i e v_0;obtain ⟨hm,rfl⟩:=noN hs;have hm:=Nat.eq_of_beq_eq_true hm;subst hm;have hc_0:bc (eqN v_0 (true)) (decide (In12 e)) false=true:=hc;obtain ⟨q_0,hc_1⟩:=bcT hc_0;have p_0:=(eqN_ok q_0).symm;subst p_0;have hc:=of_decide_eq_true hc_1;exact EndM.calls (.at (.nil _) (PInv.inA_t e) (PInv.loopA hc 12 0 rfl)) (.nil _) (by kernel_rfl) hres hax hH
noncomputable def spInv_1:ZMT:=fun ax K0 m=>match ax,K0 with
 | [.ptrE 0 12 g 0],[(0,.seq 92 (.ints .u8 L) nn)]=>bc (Nat.beq m (1)) (some ⟨decide (g * 12+12≤L.length∧In12 ((L.drop (g * 12)).take 12)),.arr (.ints .u8 (invS ((L.drop (g * 12)).take 12) 12)),[(0,.seq 92 (.ints .u8 L) nn)],1,1⟩) none
 | _,_=>none
theorem spInv_1_ok:ZMtOk Try.prog 95 spInv_1:=fun γ w0 w us ax K0 m r hs hc hres hax hH=>by
 unfold spInv_1 at hs;split at hs
 case h_2=>cases hs
 rename_i g L nn;obtain ⟨hm,rfl⟩:=noN hs;have hm:=Nat.eq_of_beq_eq_true hm;subst hm;have hc_0:decide (g * 12+12≤L.length∧In12 ((L.drop (g * 12)).take 12))=true:=hc;have hc:=of_decide_eq_true hc_0;exact EndM.calls (.at (.nil _) (PInv.inB_t L g nn) (PInv.loopB hc.1 hc.2 12 0 rfl)) (.nil _) (by kernel_rfl) hres hax hH
noncomputable def spInv:ZMT:=ZMT.or spInv_0 (spInv_1)
theorem spInv_ok:ZMtOk Try.prog 95 spInv:=spInv_0_ok.or (spInv_1_ok)
namespace PDel
end PDel
end Go.Proofs.Ytooimphimnagaaa.Ev
namespace Go.Proofs.Ytooimphimnagaaa.Ev
open Go.Proofs
namespace PTrn
end PTrn
end Go.Proofs.Ytooimphimnagaaa.Ev
namespace Go.Proofs.Ytooimphimnagaaa.Ev
open Go.Proofs
namespace PTim
end PTim
end Go.Proofs.Ytooimphimnagaaa.Ev
namespace Go.Proofs.Ytooimphimnagaaa.Ev
variable {n:Nat}
def Shp (S:List (Pm n)) (x:Nat × List (Pm n)):Prop:=∃ r,S=List.replicate x.1 (Pm.del n) ++ (x.2 ++ List.replicate r (Pm.one n))∧(∀ p,p ∈ x.2→p≠Pm.one n)∧∀ p,p ∈ x.2→p≠Pm.del n
open Classical in
noncomputable def shp (S:List (Pm n)):Nat × List (Pm n):=if h:∃ x,Shp S x then Classical.choose h else (0,[])
noncomputable def tmD (F:List (Pm n)) (p:Pm n):Nat:=(shp (NF (F ++ [p]))).1
noncomputable def tmF (F:List (Pm n)) (p:Pm n):List (Pm n):=(shp (NF (F ++ [p]))).2
structure Frm (n:Nat) where
 pw:Int
 F:List (Pm n)
noncomputable instance (s t:Frm n):Decidable (s=t):=Classical.propDecidable _
noncomputable def Frm.tim (s:Frm n) (p:Pm n):Frm n:=⟨s.pw+tmD s.F p,tmF s.F p⟩
noncomputable def Frm.step (s:Frm n) (i:Int):Frm n:=
 if h:0 < i.natAbs∧i.natAbs < n then (if 0 < i then s.tim (ltr i.natAbs h) else (⟨s.pw - 1,s.F.map Pm.trn⟩:Frm n).tim (ctr i.natAbs h)) else s

noncomputable def nfW (n:Nat) (w:List Int):Frm n:=w.foldl Frm.step ⟨0,[]⟩

def Vld (n:Nat) (w:List Int):Prop:=∀ x,x ∈ w→x≠0 ∧ -(n:Int) < x∧x < n
end Go.Proofs.Ytooimphimnagaaa.Ev
namespace Go.Proofs.Ytooimphimnagaaa.Ev
open Go.Proofs
namespace PTim
variable {n:Nat}
end PTim

end Go.Proofs.Ytooimphimnagaaa.Ev
namespace Go.Proofs.Ytooimphimnagaaa.Ev
open Go.Proofs
namespace PNrm
variable {n:Nat}
end PNrm

def WOk (n:Int) (w:List Int):Prop:=1≤n∧n≤12∧w.length≤2000∧Vld n.toNat w
noncomputable instance (n:Int) (w:List Int):Decidable (WOk n w):=Classical.propDecidable _
end Go.Proofs.Ytooimphimnagaaa.Ev
namespace Go.Proofs.Ytooimphimnagaaa.Ev
open Go.Proofs

noncomputable def badL (n x:Int):Bool:=bc (x == 0) true (bc (decide (x≤IntKind.i64.wrap (0 - n))) true (decide (n≤x)))
noncomputable def chk (n:Int) (l:List Int):Int:=bc (decide (n < 1)) 2 (bc (decide (12 < n)) 2 (bc (decide (400 < Int.ofNat l.length)) 3 (bc (l.any (badL n)) 7 0)))
theorem chk_nil {f:FuncId} {s:ES} (n:Int) (h:RZ f .nil (fun _=>false) [] [] false s=bc (decide (n < 1)) (.done (iv 2) [] 0) (bc (decide (12 < n)) (.done (iv 2) [] 0) (.done (iv 0) [] 0))):EndZ f .nil false s (iv (chk n [])) [] 0:=by
 unfold chk
 by_cases h1:n < 1
 ·rw [dt h1,bc_t] at h ⊢;exact .done h
 by_cases h2:12 < n
 ·rw [df h1,dt h2,bc_f,bc_t] at h ⊢;exact .done h
 ·rw [df h1,df h2,bc_f,bc_f] at h ⊢;exact .done h
namespace RChk
noncomputable def RUN (s:ES):ZF:=RZ 42 .nil (atS 0 42 6) [] [[(0,none),(1,none),(5,none)]] false s

noncomputable def sL (n:Int) (l:List Int) (i:Int):NS:=⟨[⟨42,43,[(0,(EV.v (Value.int IntKind.i64 (n)))),(1,(EV.lst (SyC.ints IntKind.i64 (l)))),(5,iv i)],[.it (.code (nav [1,1,1,0,1,0,0,0] (bodyOf Try.f42))),.it (.code (nav [1,1,1,0,1,0,0,1] (bodyOf Try.f42))),.it (.inLoop (nav [1,1,1,0,1,0,0] (bodyOf Try.f42))),.it (.inBlock 0),.it (.code (nav [1,1,1,1] (bodyOf Try.f42)))],[],Option.none⟩],[],0⟩
theorem in_t (n:Int) (l:List Int):RUN (st0 42 [iv n,il l])=(bc (decide (n < (1:Int))) (.done (EV.v (Value.int IntKind.i64 (2))) [] 0) (bc (decide ((12:Int) < n)) (.done (EV.v (Value.int IntKind.i64 (2))) [] 0) (bc (decide ((400:Int) < Int.ofNat (List.length l))) (.done (EV.v (Value.int IntKind.i64 (3))) [] 0) (.at (sL (n) (l) ((0:Int))))))):=by kernel_rfl
theorem nil_t (n:Int):RZ 42 .nil (fun _=>false) [] [] false (st0 42 [iv n,.v (.slice none 0 0)])=(bc (decide (n < (1:Int))) (.done (EV.v (Value.int IntKind.i64 (2))) [] 0) (bc (decide ((12:Int) < n)) (.done (EV.v (Value.int IntKind.i64 (2))) [] 0) (.done (EV.v (Value.int IntKind.i64 (0))) [] 0))):=by kernel_rfl
theorem step_t (n:Int) (l:List Int) (i:Int):RUN (stOf (sL n l i))=(bc (decide (i < Int.ofNat (List.length l))) (bc (bc (bc (decide ((0:Int)≤i)) (Nat.blt (Int.toNat i) (List.length l)) false) true false) (bc (bc (Nat.blt (Int.toNat i) (List.length l)) true false) (bc (List.getD l (Int.toNat i) (0:Int) == (0:Int)) (.done (EV.v (Value.int IntKind.i64 (7))) [] 0) (bc (bc (bc (decide ((0:Int)≤i)) (Nat.blt (Int.toNat i) (List.length l)) false) true false) (bc (bc (Nat.blt (Int.toNat i) (List.length l)) true false) (bc (decide (List.getD l (Int.toNat i) (0:Int)≤IntKind.wrap IntKind.i64 ((0:Int) - n))) (.done (EV.v (Value.int IntKind.i64 (7))) [] 0) (bc (bc (bc (decide ((0:Int)≤i)) (Nat.blt (Int.toNat i) (List.length l)) false) true false) (bc (bc (Nat.blt (Int.toNat i) (List.length l)) true false) (bc (decide (n≤List.getD l (Int.toNat i) (0:Int))) (.done (EV.v (Value.int IntKind.i64 (7))) [] 0) (.at (sL (n) (l) (IntKind.wrap IntKind.i64 (i+(1:Int)))))) .bad) .bad)) .bad) .bad)) .bad) .bad) (.done (EV.v (Value.int IntKind.i64 (0))) [] 0)):=by kernel_rfl
theorem step {n:Int} {l:List Int} {i:Nat} (hi:i < l.length) (hl:l.length≤400):RUN (stOf (sL n l i))=bc (badL n l[i]) (.done (iv 7) [] 0) (.at (sL n l (i+1:Nat))):=by
 rw [step_t];have e:l.getD i 0=l[i]:=getD_at hi;simp (disch:=omega) only [Nat.add_eq,eqSy_self,eqN_self,bc_same,List.length_cons,ofn,wrap_in,dt,df,bltD,bltN,ble_of,bleN,beqD,bc_t,bc_f,nn_ok,Nat.zero_add,to_nat,Int.zero_add,Int.sub_zero,Int.sub_self,Int.cast_ofNat_Int,Int.natCast_zero,Int.toNat_zero,List.take_zero,List.nil_append,List.length_append,List.length_nil,e];unfold badL;cases (l[i] == 0) <;> cases decide (l[i]≤IntKind.i64.wrap (0 - n)) <;> cases decide (n≤l[i]) <;> rfl
theorem last {n:Int} {l:List Int} {i:Nat} (hi:l.length≤i):RUN (stOf (sL n l i)) = .done (iv 0) [] 0:=by
 rw [step_t];simp (disch:=omega) only [Nat.add_eq,eqSy_self,eqN_self,bc_same,List.length_cons,ofn,wrap_in,dt,df,bltD,bltN,ble_of,bleN,beqD,bc_t,bc_f,nn_ok,Nat.zero_add,to_nat,Int.zero_add,Int.sub_zero,Int.sub_self,Int.cast_ofNat_Int,Int.natCast_zero,Int.toNat_zero,List.take_zero,List.nil_append,List.length_append,List.length_nil]
theorem loop {n:Int} {l:List Int} (hl:l.length≤400):∀ (k i:Nat),i+k=l.length→EndZ 42 .nil false (stOf (sL n l i)) (iv (bc ((l.drop i).any (badL n)) 7 0)) [] 0
 | 0,i,h=>by
  rw [List.drop_eq_nil_of_le (by omega)];exact .done (last (by omega))
 | k+1,i,h=>by
  have hi:i < l.length:=by omega
  have hs:=step (n:=n) hi hl;rw [List.drop_eq_getElem_cons hi,List.any_cons];cases hb:badL n l[i] <;> rw [hb] at hs
  ·exact .at (.nil _) hs (loop hl k (i+1) (by omega))
  ·exact .done hs
theorem ends (n:Int) (l:List Int):EndZ 42 .nil false (st0 42 [iv n,il l]) (iv (chk n l)) [] 0:=by
 have h:=in_t n l;unfold chk
 by_cases h1:n < 1
 ·simp only [Nat.add_eq,eqSy_self,eqN_self,bc_same,List.length_cons,ofn,wrap_in,dt,df,bltD,bltN,ble_of,bleN,beqD,bc_t,bc_f,nn_ok,Nat.zero_add,to_nat,Int.zero_add,Int.sub_zero,Int.sub_self,Int.cast_ofNat_Int,Int.natCast_zero,Int.toNat_zero,List.take_zero,List.nil_append,List.length_append,List.length_nil,dt h1] at h ⊢;exact .done h
 by_cases h2:12 < n
 ·simp only [Nat.add_eq,eqSy_self,eqN_self,bc_same,List.length_cons,ofn,wrap_in,dt,df,bltD,bltN,ble_of,bleN,beqD,bc_t,bc_f,nn_ok,Nat.zero_add,to_nat,Int.zero_add,Int.sub_zero,Int.sub_self,Int.cast_ofNat_Int,Int.natCast_zero,Int.toNat_zero,List.take_zero,List.nil_append,List.length_append,List.length_nil,df h1,dt h2] at h ⊢;exact .done h
 by_cases h3:(400:Int) < (l.length:Int)
 ·simp only [Nat.add_eq,eqSy_self,eqN_self,bc_same,List.length_cons,ofn,wrap_in,dt,df,bltD,bltN,ble_of,bleN,beqD,bc_t,bc_f,nn_ok,Nat.zero_add,to_nat,Int.zero_add,Int.sub_zero,Int.sub_self,Int.cast_ofNat_Int,Int.natCast_zero,Int.toNat_zero,List.take_zero,List.nil_append,List.length_append,List.length_nil,df h1,df h2,dt h3] at h ⊢;exact .done h
 ·simp only [Nat.add_eq,eqSy_self,eqN_self,bc_same,List.length_cons,ofn,wrap_in,dt,df,bltD,bltN,ble_of,bleN,beqD,bc_t,bc_f,nn_ok,Nat.zero_add,to_nat,Int.zero_add,Int.sub_zero,Int.sub_self,Int.cast_ofNat_Int,Int.natCast_zero,Int.toNat_zero,List.take_zero,List.nil_append,List.length_append,List.length_nil,df h1,df h2,df h3] at h ⊢;exact .at (.nil _) h (loop (by omega) l.length 0 (by omega))
end RChk
noncomputable def spRChk_0:ZCT:=fun ax=>match ax with
 | [.v (.int .i64 n),.lst (.ints .i64 l)]=>some ⟨decide (True),iv (chk n l),[],0⟩
 | _=>none
theorem spRChk_0_ok:ZCtOk Try.prog 42 spRChk_0:=fun γ w us ax r hs hc hax hN hfz=>by
 unfold spRChk_0 at hs;split at hs
 case h_2=>cases hs
 rename_i n l;obtain ⟨rfl⟩:=Option.some.inj hs;have hc_0:decide (True)=true:=hc;have hc:=of_decide_eq_true hc_0;exact EndZ.calls (RChk.ends n l) (.nil _) (by kernel_rfl) hax hN hfz
noncomputable def spRChk_1:ZCT:=fun ax=>match ax with
 | [.v (.int .i64 n),.v (.slice none 0 0)]=>some ⟨decide (True),iv (chk n []),[],0⟩
 | _=>none
theorem spRChk_1_ok:ZCtOk Try.prog 42 spRChk_1:=fun γ w us ax r hs hc hax hN hfz=>by
 unfold spRChk_1 at hs;split at hs
 case h_2=>cases hs
 rename_i n;obtain ⟨rfl⟩:=Option.some.inj hs;have hc_0:decide (True)=true:=hc;have hc:=of_decide_eq_true hc_0;exact EndZ.calls (chk_nil n (RChk.nil_t n)) (.nil _) (by kernel_rfl) hax hN hfz
noncomputable def spRChk:ZCT:=ZCT.or spRChk_0 (spRChk_1)
theorem spRChk_ok:ZCtOk Try.prog 42 spRChk:=spRChk_0_ok.or (spRChk_1_ok)
namespace PChk
noncomputable def RUN (s:ES):ZF:=RZs 83 .nil [(atS 2 135 2,[[(0,none),(1,none),(7,none),(8,none)],[],[]])] [] false s

noncomputable def sL (n:Int) (l:List Int) (z i:Int):NS:=⟨[⟨135,19,[(0,(EV.lst (SyC.ints IntKind.i64 (l)))),(1,(EV.fn 124 [(EV.ptr 0 0)])),(7,iv z),(8,iv i)],[.it (.code (nav [1,0,1,0,0] (bodyOf Try.f135))),.it (.inLoop (nav [1,0,1,0,0] (bodyOf Try.f135))),.it (.inBlock 0),.it (.code (nav [1,1] (bodyOf Try.f135)))],[],Option.none⟩,⟨123,9,[],[.ops (opsOf (nav [1,0] (bodyOf Try.f123))) ((opsOf (nav [1,0] (bodyOf Try.f123))).toList.drop 2),.it (.code (nav [1,1] (bodyOf Try.f123)))],[],Option.none⟩,⟨83,20,[],[.ops (opsOf (nav [1,0,0,1,1,1,1,0] (bodyOf Try.f83))) ((opsOf (nav [1,0,0,1,1,1,1,0] (bodyOf Try.f83))).toList.drop 2),.it (.code (nav [1,0,0,1,1,1,1,1] (bodyOf Try.f83))),.it (.inBlock 0),.it (.code (nav [1,1] (bodyOf Try.f83)))],[],Option.none⟩],[(0,(EK.cells 3 [(EV.v (Value.int IntKind.i64 (n)))] true))],1⟩
theorem in_t (n:Int) (l:List Int):RUN (st0 83 [iv n,il l])=(bc (decide (n < (1:Int))) (.done (EV.v (Value.int IntKind.i64 (2))) [] 0) (bc (decide ((12:Int) < n)) (.done (EV.v (Value.int IntKind.i64 (2))) [] 0) (bc (decide ((400:Int) < Int.ofNat (List.length l))) (.done (EV.v (Value.int IntKind.i64 (3))) [] 0) (.at (sL (n) (l) (Int.ofNat (List.length l)) ((0:Int))))))):=by kernel_rfl
theorem nil_t (n:Int):RZ 83 .nil (fun _=>false) [] [] false (st0 83 [iv n,.v (.slice none 0 0)])=(bc (decide (n < (1:Int))) (.done (EV.v (Value.int IntKind.i64 (2))) [] 0) (bc (decide ((12:Int) < n)) (.done (EV.v (Value.int IntKind.i64 (2))) [] 0) (.done (EV.v (Value.int IntKind.i64 (0))) [] 0))):=by kernel_rfl
theorem step_t (n:Int) (l:List Int) (z i:Int):RUN (stOf (sL n l z i))=(bc (decide (i < z)) (bc (bc (bc (decide ((0:Int)≤i)) (Nat.blt (Int.toNat i) (List.length l)) false) true false) (bc (bc (Nat.blt (Int.toNat i) (List.length l)) true false) (bc (List.getD l (Int.toNat i) (0:Int) == (0:Int)) (bc (decide ((0:Int)≤i)) (.done (EV.v (Value.int IntKind.i64 (7))) [] 0) (.done (EV.v (Value.int IntKind.i64 (0))) [] 0)) (bc (decide (List.getD l (Int.toNat i) (0:Int)≤IntKind.wrap IntKind.i64 ((0:Int) - n))) (bc (decide ((0:Int)≤i)) (.done (EV.v (Value.int IntKind.i64 (7))) [] 0) (.done (EV.v (Value.int IntKind.i64 (0))) [] 0)) (bc (decide (n≤List.getD l (Int.toNat i) (0:Int))) (bc (decide ((0:Int)≤i)) (.done (EV.v (Value.int IntKind.i64 (7))) [] 0) (.done (EV.v (Value.int IntKind.i64 (0))) [] 0)) (.at (sL (n) (l) (z) (IntKind.wrap IntKind.i64 (i+(1:Int)))))))) .bad) .bad) (.done (EV.v (Value.int IntKind.i64 (0))) [] 0)):=by kernel_rfl
theorem step {n:Int} {l:List Int} {i:Nat} (hi:i < l.length) (hl:l.length≤400):RUN (stOf (sL n l l.length i))=bc (badL n l[i]) (.done (iv 7) [] 0) (.at (sL n l l.length (i+1:Nat))):=by
 rw [step_t];have e:l.getD i 0=l[i]:=getD_at hi;simp (disch:=omega) only [Nat.add_eq,eqSy_self,eqN_self,bc_same,List.length_cons,ofn,wrap_in,dt,df,bltD,bltN,ble_of,bleN,beqD,bc_t,bc_f,nn_ok,Nat.zero_add,to_nat,Int.zero_add,Int.sub_zero,Int.sub_self,Int.cast_ofNat_Int,Int.natCast_zero,Int.toNat_zero,List.take_zero,List.nil_append,List.length_append,List.length_nil,e];unfold badL;cases (l[i] == 0) <;> cases decide (l[i]≤IntKind.i64.wrap (0 - n)) <;> cases decide (n≤l[i]) <;> rfl
theorem last {n:Int} {l:List Int} {i:Nat} (hi:l.length≤i):RUN (stOf (sL n l l.length i)) = .done (iv 0) [] 0:=by
 rw [step_t];simp (disch:=omega) only [Nat.add_eq,eqSy_self,eqN_self,bc_same,List.length_cons,ofn,wrap_in,dt,df,bltD,bltN,ble_of,bleN,beqD,bc_t,bc_f,nn_ok,Nat.zero_add,to_nat,Int.zero_add,Int.sub_zero,Int.sub_self,Int.cast_ofNat_Int,Int.natCast_zero,Int.toNat_zero,List.take_zero,List.nil_append,List.length_append,List.length_nil]
theorem loop {n:Int} {l:List Int} (hl:l.length≤400):∀ (k i:Nat),i+k=l.length→EndZ 83 .nil false (stOf (sL n l l.length i)) (iv (bc ((l.drop i).any (badL n)) 7 0)) [] 0
 | 0,i,h=>by
  rw [List.drop_eq_nil_of_le (by omega)];exact .done (last (by omega))
 | k+1,i,h=>by
  have hi:i < l.length:=by omega
  have hs:=step (n:=n) hi hl;rw [List.drop_eq_getElem_cons hi,List.any_cons];cases hb:badL n l[i] <;> rw [hb] at hs
  ·exact .at (.nil _) hs (loop hl k (i+1) (by omega))
  ·exact .done hs
theorem ends (n:Int) (l:List Int):EndZ 83 .nil false (st0 83 [iv n,il l]) (iv (chk n l)) [] 0:=by
 have h:=in_t n l;unfold chk
 by_cases h1:n < 1
 ·simp only [Nat.add_eq,eqSy_self,eqN_self,bc_same,List.length_cons,ofn,wrap_in,dt,df,bltD,bltN,ble_of,bleN,beqD,bc_t,bc_f,nn_ok,Nat.zero_add,to_nat,Int.zero_add,Int.sub_zero,Int.sub_self,Int.cast_ofNat_Int,Int.natCast_zero,Int.toNat_zero,List.take_zero,List.nil_append,List.length_append,List.length_nil,dt h1] at h ⊢;exact .done h
 by_cases h2:12 < n
 ·simp only [Nat.add_eq,eqSy_self,eqN_self,bc_same,List.length_cons,ofn,wrap_in,dt,df,bltD,bltN,ble_of,bleN,beqD,bc_t,bc_f,nn_ok,Nat.zero_add,to_nat,Int.zero_add,Int.sub_zero,Int.sub_self,Int.cast_ofNat_Int,Int.natCast_zero,Int.toNat_zero,List.take_zero,List.nil_append,List.length_append,List.length_nil,df h1,dt h2] at h ⊢;exact .done h
 by_cases h3:(400:Int) < (l.length:Int)
 ·simp only [Nat.add_eq,eqSy_self,eqN_self,bc_same,List.length_cons,ofn,wrap_in,dt,df,bltD,bltN,ble_of,bleN,beqD,bc_t,bc_f,nn_ok,Nat.zero_add,to_nat,Int.zero_add,Int.sub_zero,Int.sub_self,Int.cast_ofNat_Int,Int.natCast_zero,Int.toNat_zero,List.take_zero,List.nil_append,List.length_append,List.length_nil,df h1,df h2,dt h3] at h ⊢;exact .done h
 ·simp only [Nat.add_eq,eqSy_self,eqN_self,bc_same,List.length_cons,ofn,wrap_in,dt,df,bltD,bltN,ble_of,bleN,beqD,bc_t,bc_f,nn_ok,Nat.zero_add,to_nat,Int.zero_add,Int.sub_zero,Int.sub_self,Int.cast_ofNat_Int,Int.natCast_zero,Int.toNat_zero,List.take_zero,List.nil_append,List.length_append,List.length_nil,df h1,df h2,df h3] at h ⊢;exact .at (.nil _) h (loop (by omega) l.length 0 (by omega))
end PChk
noncomputable def spPChk_0:ZCT:=fun ax=>match ax with
 | [.v (.int .i64 n),.lst (.ints .i64 l)]=>some ⟨decide (True),iv (chk n l),[],0⟩
 | _=>none
theorem spPChk_0_ok:ZCtOk Try.prog 83 spPChk_0:=fun γ w us ax r hs hc hax hN hfz=>by
 unfold spPChk_0 at hs;split at hs
 case h_2=>cases hs
 rename_i n l;obtain ⟨rfl⟩:=Option.some.inj hs;have hc_0:decide (True)=true:=hc;have hc:=of_decide_eq_true hc_0;exact EndZ.calls (PChk.ends n l) (.nil _) (by kernel_rfl) hax hN hfz
noncomputable def spPChk_1:ZCT:=fun ax=>match ax with
 | [.v (.int .i64 n),.v (.slice none 0 0)]=>some ⟨decide (True),iv (chk n []),[],0⟩
 | _=>none
theorem spPChk_1_ok:ZCtOk Try.prog 83 spPChk_1:=fun γ w us ax r hs hc hax hN hfz=>by
 unfold spPChk_1 at hs;split at hs
 case h_2=>cases hs
 rename_i n;obtain ⟨rfl⟩:=Option.some.inj hs;have hc_0:decide (True)=true:=hc;have hc:=of_decide_eq_true hc_0;exact EndZ.calls (chk_nil n (PChk.nil_t n)) (.nil _) (by kernel_rfl) hax hN hfz
noncomputable def spPChk:ZCT:=ZCT.or spPChk_0 (spPChk_1)
theorem spPChk_ok:ZCtOk Try.prog 83 spPChk:=spPChk_0_ok.or (spPChk_1_ok)
namespace PEqP
end PEqP
end Go.Proofs.Ytooimphimnagaaa.Ev
namespace Go.Proofs.Ytooimphimnagaaa.Ev
open Go.Proofs
theorem chk_wok {n:Int} {w:List Int} (h:chk n w=0):WOk n w∧w.length≤400:=by
 unfold chk at h
 by_cases h1:n < 1
 ·rw [dt h1,bc_t] at h;omega
 by_cases h2:12 < n
 ·rw [df h1,dt h2,bc_f,bc_t] at h;omega
 by_cases h3:(400:Int) < Int.ofNat w.length
 ·rw [df h1,df h2,dt h3,bc_f,bc_f,bc_t] at h;omega
 rw [df h1,df h2,df h3,bc_f,bc_f,bc_f] at h;rw [ofn] at h3;refine ⟨⟨by omega,by omega,by omega,fun x hx=>?_⟩,by omega⟩
 cases ha:w.any (badL n) with
 | true=>rw [ha,bc_t] at h;omega
 | false=>
  have h4:badL n x=false:=by
   cases hb:badL n x with
   | false=>rfl
   | true=>rw [List.any_eq_true.2 ⟨x,hx,hb⟩] at ha;cases ha
  unfold badL at h4;rw [wrap_in (0 - n) (by omega) (by omega)] at h4;have e:((n.toNat:Nat):Int)=n:=Int.toNat_of_nonneg (by omega);rw [e]
  by_cases q1:x=0
  ·rw [show (x == 0)=true by simp [q1],bc_t] at h4;cases h4
  ·rw [show (x == 0)=false by simp [q1],bc_f] at h4
   by_cases q2:x≤0 - n
   ·rw [dt q2,bc_t] at h4;cases h4
   ·rw [df q2,bc_f] at h4;have q3:=of_decide_eq_false h4;exact ⟨q1,by omega,by omega⟩
namespace PSam
end PSam
namespace PTri
end PTri
end Go.Proofs.Ytooimphimnagaaa.Ev
namespace Go.Proofs.Ytooimphimnagaaa.Ev
variable {n:Nat}

def gW:List Int→Nat→Nat
 | [],x=>x
 | l :: w,x=>gW w (sw l.natAbs x)
theorem sw_ltn {i x:Nat} (hi:0 < i∧i < n) (hx:x < n):sw i x < n:=by
 unfold sw;split
 ·omega
 ·split <;> omega
theorem Vld.head {x:Int} {w:List Int} (h:Vld n (x :: w)):0 < x.natAbs∧x.natAbs < n:=by
 obtain ⟨h1,h2,h3⟩:=h x List.mem_cons_self;omega
theorem Vld.tail {x:Int} {w:List Int} (h:Vld n (x :: w)):Vld n w:=fun y hy=>h y (List.mem_cons_of_mem _ hy)
theorem gW_lt:∀ {w:List Int},Vld n w→∀ {x:Nat},x < n→gW w x < n
 | [],_,_,hx=>hx
 | _ :: _,h,_,hx=>gW_lt h.tail (sw_ltn h.head hx)
noncomputable def prmL (n:Nat) (w:List Int):List Int:=(List.range n).map fun x=>((gW w x:Nat):Int)
theorem prmL_len (n:Nat) (w:List Int):(prmL n w).length=n:=by unfold prmL;rw [List.length_map,List.length_range]

def lowL (x:Int):Int:=if x < 0 then x+1 else x - 1
def oth:Nat→List Int→List Int × Nat
 | p,[]=>([],p)
 | p,x :: w=>if p+1=x.natAbs∨p=x.natAbs then oth (sw x.natAbs p) w else if p < x.natAbs then (lowL x :: (oth p w).1,(oth p w).2) else (x :: (oth p w).1,(oth p w).2)
theorem oth_cons (p:Nat) (x:Int) (w:List Int):oth p (x :: w)=if p+1=x.natAbs∨p=x.natAbs then oth (sw x.natAbs p) w else if p < x.natAbs then (lowL x :: (oth p w).1,(oth p w).2) else (x :: (oth p w).1,(oth p w).2):=rfl
theorem oth_at:∀ (w:List Int) (p:Nat),(oth p w).2=gW w p
 | [],_=>rfl
 | x :: w,p=>by
  rw [oth_cons];show _=gW w (sw x.natAbs p);split
  ·exact oth_at w _
  ·rename_i h;have e:sw x.natAbs p=p:=Pm.sw_ne (by omega) (by omega);rw [e];split
   ·exact oth_at w p
   ·exact oth_at w p
theorem oth_len:∀ (w:List Int) (p:Nat),(oth p w).1.length≤w.length
 | [],_=>Nat.le_refl _
 | x :: w,p=>by
  rw [oth_cons];split
  ·have:=oth_len w (sw x.natAbs p);simp only [List.length_cons];omega
  ·split
   ·have:=oth_len w p;simp only [List.length_cons];omega
   ·have:=oth_len w p;simp only [List.length_cons];omega
def upW (s:Int) (a:Nat):Nat→List Int
 | 0=>[]
 | d+1=>s * ((a+1:Nat):Int) :: upW s (a+1) d

def dnW (s:Int) (a:Nat):Nat→List Int
 | 0=>[]
 | d+1=>s * ((a+d+1:Nat):Int) :: dnW s a d
theorem upW_len (s:Int):∀ (d a:Nat),(upW s a d).length=d
 | 0,_=>rfl
 | d+1,a=>by show (upW s (a+1) d).length+1=_;rw [upW_len s d]
theorem dnW_len (s:Int) (a:Nat):∀ d:Nat,(dnW s a d).length=d
 | 0=>rfl
 | d+1=>by show (dnW s a d).length+1=_;rw [dnW_len s a d]
def layW (n:Nat) (w:List Int) (p:Nat) (s:Int):List Int:=upW s p (n - 1 - p) ++ (oth p w).1 ++ dnW (-s) (oth p w).2 (n - 1 - (oth p w).2)
theorem neg_sgn {s:Int} (hs:s=1∨s = -1):-s=1 ∨ -s = -1:=by omega
theorem vld_more {m:Nat} (h:m≤n) {w:List Int} (hv:Vld m w):Vld n w:=fun x hx=>by
 obtain ⟨h1,h2,h3⟩:=hv x hx;omega
end Go.Proofs.Ytooimphimnagaaa.Ev
namespace Go.Proofs.Ytooimphimnagaaa.Ev
open Go.Proofs

noncomputable abbrev resL (e:Int) (l:List Int):EV:=.tup [il (bc (e != 0) [] l),iv e]
theorem resL_err {e:Int} (l:List Int) (h:e≠0):Weak (.tup [.v (.slice none 0 0),iv e]) (resL e l):=by
 unfold resL;rw [show (e != 0)=true by simp [h],bc_t];exact Weak.tup (.cons (Weak.nilI _) (.cons (Weak.refl _) .nil))
theorem resL_ok {e:Int} (l:List Int) (h:e=0):resL e l = .tup [il l,iv 0]:=by
 subst h;rfl
namespace PUnd
end PUnd
namespace PIvr
end PIvr
namespace PCat
end PCat
namespace PTms
end PTms
end Go.Proofs.Ytooimphimnagaaa.Ev
namespace Go.Proofs.Ytooimphimnagaaa.Ev
open Go.Proofs
variable {n:Nat}
theorem fill_set {e:List Int} {n i:Nat} (hi:i < n) (hn:n≤e.length):(e.take i ++ zerosL (n - i)).set i (e.getD i 0)=e.take (i+1) ++ zerosL (n - (i+1)):=by
 have hl:(e.take i).length=i:=by rw [List.length_take];omega
 rw [List.set_append_right _ _ (by omega),hl,Nat.sub_self,List.take_succ_eq_append_getElem (show i < e.length by omega),getD_at (show i < e.length by omega),List.append_assoc];congr 1;obtain ⟨d,hd⟩:∃ d,n - i=d+1:=⟨n - i - 1,by omega⟩;rw [hd,show n - (i+1)=d by omega];rfl
theorem fill_end (e:List Int) (n:Nat):e.take n ++ zerosL (n - n)=e.take n:=by
 rw [Nat.sub_self];exact List.append_nil _
theorem zeros_len (k:Nat):(zerosL k).length=k:=by unfold zerosL;simp
namespace PLis
noncomputable def K0 (e:List Int):List (Nat × EK):=[(0,.seq 92 (.ints .u8 e) true)]
noncomputable def RUN (s:ES):ZF:=RMs 1 92 .nil [(atS 0 92 3,[[(0,none),(5,none),(10,none),(11,none)]])] [] [] s

noncomputable def sB (n:Int) (e d:List Int) (m:Nat) (z i:Int):NS:=⟨[⟨92,25,[(0,(EV.ptr 0 0)),(5,EV.slO 1 1 m true),(10,iv z),(11,iv i)],[.it (.code (nav [1,1,0,1,0,0] (bodyOf Try.f92))),.it (.inLoop (nav [1,1,0,1,0,0] (bodyOf Try.f92))),.it (.inBlock 0),.it (.code (nav [1,1,1] (bodyOf Try.f92)))],[],Option.none⟩],[(0,(EK.seq 92 (SyC.ints IntKind.u8 (e)) true)),(1,EK.seq 3 (.ints .i64 d) true)],2⟩
theorem in_t (n:Int) (e:List Int):RUN (st0m 92 [.ptr 0 0,iv n] (K0 e) 1)=(bc (bc (decide ((0:Int)≤n)) (bc (decide (n≤n)) (decide (n≤(65536:Int))) false) false) (.at ⟨[⟨92,25,[(0,(EV.ptr 0 0)),(5,(EV.slO 1 1 (List.length (zerosL (Int.toNat n))) true)),(10,(EV.v (Value.int IntKind.i64 (Int.ofNat (List.length (zerosL (Int.toNat n))))))),(11,(EV.v (Value.int IntKind.i64 (0))))],[.it (.code (nav [1,1,0,1,0,0] (bodyOf Try.f92))),.it (.inLoop (nav [1,1,0,1,0,0] (bodyOf Try.f92))),.it (.inBlock 0),.it (.code (nav [1,1,1] (bodyOf Try.f92)))],[],Option.none⟩],[(0,(EK.seq 92 (SyC.ints IntKind.u8 (e)) true)),(1,(EK.seq 3 (SyC.ints IntKind.i64 (zerosL (Int.toNat n))) true))],2⟩) .bad):=by kernel_rfl
theorem b_t (n:Int) (e d:List Int) (m:Nat) (z i:Int):RUN (stOf (sB n e d m z i))=(bc (decide (i < z)) (bc (bc (bc (decide ((0:Int)≤i)) (Nat.blt (Int.toNat i) (12:Nat)) false) true false) (bc (bc (Nat.blt (Int.toNat i) (List.length e)) true false) (bc (bc (bc (decide ((0:Int)≤i)) (Nat.blt (Int.toNat i) m) false) true false) (bc (Nat.blt (Int.toNat i) (List.length d)) (.at ⟨[⟨92,25,[(0,(EV.ptr 0 0)),(5,(EV.slO 1 1 (m) true)),(10,(EV.v (Value.int IntKind.i64 (z)))),(11,(EV.v (Value.int IntKind.i64 (IntKind.wrap IntKind.i64 (i+(1:Int))))))],[.it (.code (nav [1,1,0,1,0,0] (bodyOf Try.f92))),.it (.inLoop (nav [1,1,0,1,0,0] (bodyOf Try.f92))),.it (.inBlock 0),.it (.code (nav [1,1,1] (bodyOf Try.f92)))],[],Option.none⟩],[(0,(EK.seq 92 (SyC.ints IntKind.u8 (e)) true)),(1,(EK.seq 3 (SyC.ints IntKind.i64 (List.set d (Int.toNat i) (IntKind.wrap IntKind.i64 (List.getD e (Int.toNat i) (0:Int))))) true))],2⟩) .bad) .bad) .bad) .bad) (.done (EV.slO 1 1 (m) true) [(0,(EK.seq 92 (SyC.ints IntKind.u8 (e)) true)),(1,(EK.seq 3 (SyC.ints IntKind.i64 (d)) true))] 2)):=by kernel_rfl
theorem step {n:Nat} {e:List Int} {d:List Int} {i:Nat} (hi:i < n) (hn:n≤12) (he:In12 e) (hd:d.length=n):RUN (stOf (sB n e d n n i)) = .at (sB n e (d.set i (e.getD i 0)) n n (i+1:Nat)):=by
 rw [b_t];have h1:=he.2 i (by omega);have h2:=he.1;have e0:((i:Int)).toNat=i:=rfl;rw [e0];simp (disch:=omega) only [Nat.add_eq,eqSy_self,eqN_self,bc_same,List.length_cons,ofn,wrap_in,dt,df,bltD,bltN,ble_of,bleN,beqD,bc_t,bc_f,nn_ok,Nat.zero_add,to_nat,Int.zero_add,Int.sub_zero,Int.sub_self,Int.cast_ofNat_Int,Int.natCast_zero,Int.toNat_zero,List.take_zero,List.nil_append,List.length_append,List.length_nil];rfl
theorem last {n:Nat} {e d:List Int} {i:Nat} (hi:n≤i) (hd:d.length=n):RUN (stOf (sB n e d n n i)) = .done (.slO 1 1 n true) [(0,.seq 92 (.ints .u8 e) true),(1,.seq 3 (.ints .i64 d) true)] 2:=by
 rw [b_t];simp (disch:=omega) only [Nat.add_eq,eqSy_self,eqN_self,bc_same,List.length_cons,ofn,wrap_in,dt,df,bltD,bltN,ble_of,bleN,beqD,bc_t,bc_f,nn_ok,Nat.zero_add,to_nat,Int.zero_add,Int.sub_zero,Int.sub_self,Int.cast_ofNat_Int,Int.natCast_zero,Int.toNat_zero,List.take_zero,List.nil_append,List.length_append,List.length_nil]
theorem loop {n:Nat} {e:List Int} (hn:n≤12) (he:In12 e):∀ (k i:Nat),i+k=n→EndM 1 92 .nil (stOf (sB n e (e.take i ++ zerosL (n - i)) n n i)) (.slO 1 1 n true) [(0,.seq 92 (.ints .u8 e) true),(1,.seq 3 (.ints .i64 (e.take n)) true)] 2
 | 0,i,h=>by
  obtain rfl:i=n:=by omega
  rw [fill_end];exact .done (last (Nat.le_refl _) (by have:=he.1;rw [List.length_take];omega))
 | k+1,i,h=>by
  have hl:(e.take i ++ zerosL (n - i)).length=n:=by have:=he.1;rw [List.length_append,List.length_take,zeros_len];omega
  have h1:=step (n:=n) (i:=i) (by omega) hn he hl;rw [fill_set (by omega) (by have:=he.1;omega)] at h1;exact .at (.nil _) h1 (loop hn he k (i+1) (by omega))
theorem ends {n:Int} {e:List Int} (h0:0≤n) (hn:n≤12) (he:In12 e):EndM 1 92 .nil (st0m 92 [.ptr 0 0,iv n] (K0 e) 1) (.slO 1 1 n.toNat true) [(0,.seq 92 (.ints .u8 e) true),(1,.seq 3 (.ints .i64 (e.take n.toNat)) true)] 2:=by
 obtain ⟨n,rfl⟩:=Int.eq_ofNat_of_zero_le h0;have h:=in_t n e;have e0:((n:Int)).toNat=n:=rfl;rw [e0,dt h0,bc_t,dt (show (n:Int)≤n by omega),bc_t,dt (show (n:Int)≤65536 by omega),bc_t,zeros_len] at h;exact .at (.nil _) h (loop (by omega) he n 0 (by omega))
end PLis
noncomputable def spLis:ZMT:=fun ax K0 m=>match ax,K0 with
 | [.ptr 0 0,.v (.int .i64 n)],[(0,.seq 92 (.ints .u8 e) v_0)]=>bc (Nat.beq m (1)) (some ⟨bc (eqN v_0 (true)) (decide (0≤n∧n≤12∧In12 e)) false,.slO 1 1 n.toNat true,[(0,.seq 92 (.ints .u8 e) true),(1,.seq 3 (.ints .i64 (e.take n.toNat)) true)],2,1⟩) none
 | _,_=>none
theorem spLis_ok:ZMtOk Try.prog 92 spLis:=fun γ w0 w us ax K0 m r hs hc hres hax hH=>by
 unfold spLis at hs;split at hs
 case h_2=>cases hs
 rename_i n e v_0;obtain ⟨hm,rfl⟩:=noN hs;have hm:=Nat.eq_of_beq_eq_true hm;subst hm;have hc_0:bc (eqN v_0 (true)) (decide (0≤n∧n≤12∧In12 e)) false=true:=hc;obtain ⟨q_0,hc_1⟩:=bcT hc_0;have p_0:=(eqN_ok q_0).symm;subst p_0;have hc:=of_decide_eq_true hc_1;exact EndM.calls (PLis.ends hc.1 hc.2.1 hc.2.2) (.nil _) (by kernel_rfl) hres hax hH

noncomputable def swP (p:Pm n) (k:Nat):Pm n:=if h:0 < k∧k < n then p.L k h else p
noncomputable def lnP (n:Nat) (w:List Int):Pm n:=w.foldl (fun p x=>swP p x.natAbs) (Pm.one n)
theorem lnP_app (w:List Int) (x:Int):lnP n (w ++ [x])=swP (lnP n w) x.natAbs:=by unfold lnP;rw [List.foldl_append];rfl
theorem lnP_g0:∀ {w:List Int},Vld n w→∀ (p:Pm n) (x:Nat),(w.foldl (fun p x=>swP p x.natAbs) p).g x=gW w (p.g x)
 | [],_,_,_=>rfl
 | l :: w,h,p,x=>by
  have hl:=h.head;show (w.foldl (fun p x=>swP p x.natAbs) (swP p l.natAbs)).g x=gW w (sw l.natAbs (p.g x));rw [lnP_g0 h.tail];unfold swP;rw [dif_pos hl];rfl
theorem lnP_g {w:List Int} (h:Vld n w) (x:Nat):(lnP n w).g x=gW w x:=lnP_g0 h (Pm.one n) x
theorem prm_take {w:List Int} (h:Vld n w) (hn:n≤12):(pA (lnP n w).inv).take n=prmL n w:=by
 unfold pA prmL;rw [← List.map_take,List.take_range,Nat.min_eq_left hn];exact List.map_congr_left fun x _=>congrArg (fun y:Nat=>(y:Int)) (lnP_g h x)
namespace PPrm
noncomputable def ct:Tr ZCC:=(((Tr.nil.put 83 (some (dC spPChk))).put 93 (some (dC spPln))).put 95 (some (mC spInv))).put 92 (some (mC spLis))
theorem ct_ok:ZCtsOk Try.prog ct:=((((ZCtsOk.nil _).add rfl spPChk_ok).add rfl spPln_ok).addM rfl spInv_ok).addM rfl spLis_ok
noncomputable def RUN (s:ES):ZF:=RZ 45 ct (atS 0 45 6) [] [[(0,none),(7,none),(20,none),(21,none),(22,none)]] false s

noncomputable def sA (n:Int) (w e:List Int) (z i:Int):NS:=⟨[⟨45,47,[(0,(EV.v (Value.int IntKind.i64 (n)))),(7,(EV.ptr 0 0)),(20,(EV.lst (SyC.ints IntKind.i64 (w)))),(21,iv z),(22,iv i)],[.it (.code (nav [1,1,1,0,1,0,0] (bodyOf Try.f45))),.it (.inLoop (nav [1,1,1,0,1,0,0] (bodyOf Try.f45))),.it (.inBlock 0),.it (.code (nav [1,1,1,1] (bodyOf Try.f45)))],[],Option.none⟩],[(0,EK.seq 92 (.ints .u8 e) true)],1⟩
theorem in_t (n:Int) (w:List Int):RUN (st0 45 [iv n,il w])=(bc (chk n w != (0:Int)) (.done (EV.tup [(EV.v (Value.slice Option.none 0 0)),(EV.v (Value.int IntKind.i64 (chk n w)))]) [] 0) (.at (sA (n) (w) (e12) (Int.ofNat (List.length w)) ((0:Int))))):=by kernel_rfl
theorem a_t (n:Int) (w e:List Int) (z i:Int):RUN (stOf (sA n w e z i))=(bc (decide (i < z)) (bc (bc (bc (decide ((0:Int)≤i)) (Nat.blt (Int.toNat i) (List.length w)) false) true false) (bc (bc (Nat.blt (Int.toNat i) (List.length w)) true false) (bc (decide (List.getD w (Int.toNat i) (0:Int) < (0:Int))) (bc (bc (bc (bc (bc (decide ((0:Int)≤IntKind.wrap IntKind.i64 ((0:Int) - List.getD w (Int.toNat i) (0:Int)))) (Nat.blt (Int.toNat (IntKind.wrap IntKind.i64 ((0:Int) - List.getD w (Int.toNat i) (0:Int)))) (12:Nat)) false) true false) (bc (bc (Nat.blt (Int.toNat (IntKind.wrap IntKind.i64 ((0:Int) - List.getD w (Int.toNat i) (0:Int)))) (List.length e)) true false) (bc (bc (bc (decide ((0:Int)≤IntKind.wrap IntKind.i64 (IntKind.wrap IntKind.i64 ((0:Int) - List.getD w (Int.toNat i) (0:Int)) - (1:Int)))) (Nat.blt (Int.toNat (IntKind.wrap IntKind.i64 (IntKind.wrap IntKind.i64 ((0:Int) - List.getD w (Int.toNat i) (0:Int)) - (1:Int)))) (12:Nat)) false) true false) (bc (bc (Nat.blt (Int.toNat (IntKind.wrap IntKind.i64 (IntKind.wrap IntKind.i64 ((0:Int) - List.getD w (Int.toNat i) (0:Int)) - (1:Int)))) (List.length e)) true false) (bc (bc (bc (decide ((0:Int)≤IntKind.wrap IntKind.i64 (IntKind.wrap IntKind.i64 ((0:Int) - List.getD w (Int.toNat i) (0:Int)) - (1:Int)))) (Nat.blt (Int.toNat (IntKind.wrap IntKind.i64 (IntKind.wrap IntKind.i64 ((0:Int) - List.getD w (Int.toNat i) (0:Int)) - (1:Int)))) (12:Nat)) false) true false) (bc (Nat.blt (Int.toNat (IntKind.wrap IntKind.i64 (IntKind.wrap IntKind.i64 ((0:Int) - List.getD w (Int.toNat i) (0:Int)) - (1:Int)))) (List.length e)) (bc (bc (bc (decide ((0:Int)≤IntKind.wrap IntKind.i64 ((0:Int) - List.getD w (Int.toNat i) (0:Int)))) (Nat.blt (Int.toNat (IntKind.wrap IntKind.i64 ((0:Int) - List.getD w (Int.toNat i) (0:Int)))) (12:Nat)) false) true false) (bc (Nat.blt (Int.toNat (IntKind.wrap IntKind.i64 ((0:Int) - List.getD w (Int.toNat i) (0:Int)))) (List.length (List.set e (Int.toNat (IntKind.wrap IntKind.i64 (IntKind.wrap IntKind.i64 ((0:Int) - List.getD w (Int.toNat i) (0:Int)) - (1:Int)))) (List.getD e (Int.toNat (IntKind.wrap IntKind.i64 ((0:Int) - List.getD w (Int.toNat i) (0:Int)))) (0:Int))))) true false) false) false) false) false) false) false) false) true false) (.at (sA (n) (w) (List.set (List.set e (Int.toNat (IntKind.wrap IntKind.i64 (IntKind.wrap IntKind.i64 ((0:Int) - List.getD w (Int.toNat i) (0:Int)) - (1:Int)))) (List.getD e (Int.toNat (IntKind.wrap IntKind.i64 ((0:Int) - List.getD w (Int.toNat i) (0:Int)))) (0:Int))) (Int.toNat (IntKind.wrap IntKind.i64 ((0:Int) - List.getD w (Int.toNat i) (0:Int)))) (List.getD e (Int.toNat (IntKind.wrap IntKind.i64 (IntKind.wrap IntKind.i64 ((0:Int) - List.getD w (Int.toNat i) (0:Int)) - (1:Int)))) (0:Int))) (z) (IntKind.wrap IntKind.i64 (i+(1:Int))))) .bad) (bc (bc (bc (bc (bc (decide ((0:Int)≤List.getD w (Int.toNat i) (0:Int))) (Nat.blt (Int.toNat (List.getD w (Int.toNat i) (0:Int))) (12:Nat)) false) true false) (bc (bc (Nat.blt (Int.toNat (List.getD w (Int.toNat i) (0:Int))) (List.length e)) true false) (bc (bc (bc (decide ((0:Int)≤IntKind.wrap IntKind.i64 (List.getD w (Int.toNat i) (0:Int) - (1:Int)))) (Nat.blt (Int.toNat (IntKind.wrap IntKind.i64 (List.getD w (Int.toNat i) (0:Int) - (1:Int)))) (12:Nat)) false) true false) (bc (bc (Nat.blt (Int.toNat (IntKind.wrap IntKind.i64 (List.getD w (Int.toNat i) (0:Int) - (1:Int)))) (List.length e)) true false) (bc (bc (bc (decide ((0:Int)≤IntKind.wrap IntKind.i64 (List.getD w (Int.toNat i) (0:Int) - (1:Int)))) (Nat.blt (Int.toNat (IntKind.wrap IntKind.i64 (List.getD w (Int.toNat i) (0:Int) - (1:Int)))) (12:Nat)) false) true false) (bc (Nat.blt (Int.toNat (IntKind.wrap IntKind.i64 (List.getD w (Int.toNat i) (0:Int) - (1:Int)))) (List.length e)) (bc (bc (bc (decide ((0:Int)≤List.getD w (Int.toNat i) (0:Int))) (Nat.blt (Int.toNat (List.getD w (Int.toNat i) (0:Int))) (12:Nat)) false) true false) (bc (Nat.blt (Int.toNat (List.getD w (Int.toNat i) (0:Int))) (List.length (List.set e (Int.toNat (IntKind.wrap IntKind.i64 (List.getD w (Int.toNat i) (0:Int) - (1:Int)))) (List.getD e (Int.toNat (List.getD w (Int.toNat i) (0:Int))) (0:Int))))) true false) false) false) false) false) false) false) false) true false) (.at (sA (n) (w) (List.set (List.set e (Int.toNat (IntKind.wrap IntKind.i64 (List.getD w (Int.toNat i) (0:Int) - (1:Int)))) (List.getD e (Int.toNat (List.getD w (Int.toNat i) (0:Int))) (0:Int))) (Int.toNat (List.getD w (Int.toNat i) (0:Int))) (List.getD e (Int.toNat (IntKind.wrap IntKind.i64 (List.getD w (Int.toNat i) (0:Int) - (1:Int)))) (0:Int))) (z) (IntKind.wrap IntKind.i64 (i+(1:Int))))) .bad)) .bad) .bad) (bc (bc (decide (In12 e)) true false) (bc (bc (Nat.beq (List.length (invS e (12:Nat))) (12:Nat)) (Nat.beq (List.length (zerosL (12:Nat))) (12:Nat)) false) (bc (bc (decide ((0:Int)≤n∧n≤(12:Int)∧In12 (invS e (12:Nat)))) true false) (bc (bc (Nat.beq (Int.toNat n) (List.length (List.take (Int.toNat n) (invS e (12:Nat))))) true false) (.done (EV.tup [(EV.lst (SyC.ints IntKind.i64 (List.take (Int.toNat n) (invS e (12:Nat))))),(EV.v (Value.int IntKind.i64 (0)))]) [] 0) .bad) .bad) .bad) .bad)):=by kernel_rfl
theorem step {w:List Int} {i:Nat} {x:Int} (hi:i < w.length) (hn:n≤12) (hw:w.length≤2000) (hx:w.getD i 0=x) (hk:0 < x.natAbs∧x.natAbs < n):RUN (stOf (sA n w (pA (lnP n (w.take i))) w.length i)) = .at (sA n w (pA (lnP n (w.take (i+1)))) w.length (i+1:Nat)):=by
 obtain ⟨h1,h2⟩:=hk;rw [List.take_succ_eq_append_getElem hi,lnP_app,← getD_at hi,hx];generalize hp:lnP n (w.take i)=p;rw [a_t,dt (show (i:Int) < (w.length:Int) by omega),bc_t];have e0:((i:Int)).toNat=i:=rfl;rw [e0,hx];unfold swP;rw [dif_pos ⟨h1,h2⟩];have hl:=pA_len p;obtain ⟨j,hj⟩:∃ j,x.natAbs=j+1:=⟨x.natAbs - 1,by omega⟩;have e1:((j:Int)).toNat=j:=rfl;have e2:(((j+1:Nat):Int)).toNat=j+1:=rfl;have w1:IntKind.i64.wrap (((j+1:Nat):Int) - 1)=(j:Int):=by rw [wrap_in _ (by omega) (by omega)];omega
 have g0:((pA p).set j (p.f (j+1):Int)).set (j+1) (p.f j:Int)=pA (p.L x.natAbs ⟨h1,h2⟩):=by
  rw [← pA_L p ⟨h1,h2⟩ hn];simp only [hj,Nat.add_sub_cancel]
 have hl2:((pA p).set j (p.f (j+1):Int)).length=12:=by rw [List.length_set,hl]
 by_cases hs:x < 0
 ·have w0:IntKind.i64.wrap (0 - x)=((j+1:Nat):Int):=by rw [wrap_in _ (by omega) (by omega)];omega
  rw [dt hs,bc_t,w0,w1,e1,e2,pA_get p (show j+1 < 12 by omega),pA_get p (show j < 12 by omega)];simp (disch:=omega) only [Nat.add_eq,eqSy_self,eqN_self,bc_same,List.length_cons,ofn,wrap_in,dt,df,bltD,bltN,ble_of,bleN,beqD,bc_t,bc_f,nn_ok,Nat.zero_add,to_nat,Int.zero_add,Int.sub_zero,Int.sub_self,Int.cast_ofNat_Int,Int.natCast_zero,Int.toNat_zero,List.take_zero,List.nil_append,List.length_append,List.length_nil];rw [g0];rfl
 ·obtain rfl:x=((j+1:Nat):Int):=by omega
  rw [df hs,bc_f,w1,e1,e2,pA_get p (show j+1 < 12 by omega),pA_get p (show j < 12 by omega)];simp (disch:=omega) only [Nat.add_eq,eqSy_self,eqN_self,bc_same,List.length_cons,ofn,wrap_in,dt,df,bltD,bltN,ble_of,bleN,beqD,bc_t,bc_f,nn_ok,Nat.zero_add,to_nat,Int.zero_add,Int.sub_zero,Int.sub_self,Int.cast_ofNat_Int,Int.natCast_zero,Int.toNat_zero,List.take_zero,List.nil_append,List.length_append,List.length_nil];rw [g0];rfl
theorem last {w:List Int} {p:Pm n} (hn:n≤12):RUN (stOf (sA n w (pA p) w.length w.length)) = .done (.tup [il ((pA p.inv).take n),iv 0]) [] 0:=by
 rw [a_t,df (show ¬ (w.length:Int) < (w.length:Int) by omega),bc_f,invS_pA hn];have h1:=In12.pA hn p;have h2:=In12.pA hn p.inv;have e1:((n:Int)).toNat=n:=rfl;have e3:((pA p.inv).take n).length=n:=by rw [List.length_take,pA_len];omega
 have e4:((0:Int)≤(n:Int)∧(n:Int)≤12∧In12 (pA p.inv)):=⟨by omega,by omega,h2⟩;have e5:=pA_len p.inv;rw [e1];simp (disch:=omega) only [Nat.add_eq,eqSy_self,eqN_self,bc_same,List.length_cons,ofn,wrap_in,dt,df,bltD,bltN,ble_of,bleN,beqD,bc_t,bc_f,nn_ok,Nat.zero_add,to_nat,Int.zero_add,Int.sub_zero,Int.sub_self,Int.cast_ofNat_Int,Int.natCast_zero,Int.toNat_zero,List.take_zero,List.nil_append,List.length_append,List.length_nil,dt h1,dt e4,e3,zeros_len]
theorem loop {w:List Int} (hn:n≤12) (hw:w.length≤2000) (h:Vld n w):∀ (k i:Nat),i+k=w.length→EndZ 45 ct false (stOf (sA n w (pA (lnP n (w.take i))) w.length i)) (.tup [il (prmL n w),iv 0]) [] 0
 | 0,i,hi=>by
  obtain rfl:i=w.length:=by omega
  rw [List.take_length,← prm_take h hn];exact .done (last hn)
 | k+1,i,hi=>by
  have hk:0 < (w.getD i 0).natAbs∧(w.getD i 0).natAbs < n:=(show Vld n [w.getD i 0] from fun x hx=>by
   rw [List.mem_singleton.1 hx,getD_at (show i < w.length by omega)];exact h _ (List.getElem_mem _)).head
  exact .at ct_ok (step (by omega) hn hw rfl hk) (loop hn hw h k (i+1) (by omega))
theorem ends (n:Int) (w:List Int):EndZ 45 ct false (st0 45 [iv n,il w]) (resL (chk n w) (prmL n.toNat w)) [] 0:=by
 have h:=in_t n w
 by_cases z:chk n w=0
 ·obtain ⟨⟨w0,w1,w2,w3⟩,_⟩:=chk_wok z;obtain ⟨n,rfl⟩:=Int.eq_ofNat_of_zero_le (show 0≤n by omega);rw [z,show ((0:Int) != 0)=false from rfl,bc_f,e12_one n] at h
  rw [resL_ok _ z];exact .at ct_ok h (loop (by omega) w2 w3 w.length 0 (by omega))
 ·rw [show (chk n w != 0)=true by simp [z],bc_t] at h;exact (EndZ.done h).weak (resL_err _ z)
end PPrm
noncomputable def spPPrm:ZCT:=fun ax=>match ax with
 | [.v (.int .i64 n),.lst (.ints .i64 w)]=>some ⟨decide (True),resL (chk n w) (prmL n.toNat w),[],0⟩
 | _=>none
theorem spPPrm_ok:ZCtOk Try.prog 45 spPPrm:=fun γ w us ax r hs hc hax hN hfz=>by
 unfold spPPrm at hs;split at hs
 case h_2=>cases hs
 rename_i n w;obtain ⟨rfl⟩:=Option.some.inj hs;have hc_0:decide (True)=true:=hc;have hc:=of_decide_eq_true hc_0;exact EndZ.calls (PPrm.ends n w) PPrm.ct_ok (by kernel_rfl) hax hN hfz
end Go.Proofs.Ytooimphimnagaaa.Ev
namespace Go.Proofs.Ytooimphimnagaaa.Ev
open Go.Proofs
variable {n:Nat}
namespace POth
noncomputable def RUN (s:ES):ZF:=RZ 97 .nil (atS 0 97 3) [] [[(4,some (1,3,.ints .i64 [])),(5,none),(11,none),(12,none),(13,none)]] false s

noncomputable def sA (w q:List Int) (nn:Bool) (p z i:Int):NS:=⟨[⟨97,55,[(4,EV.slO 0 1 q.length nn),(5,iv p),(11,(EV.lst (SyC.ints IntKind.i64 (w)))),(12,iv z),(13,iv i)],[.it (.code (nav [1,1,0,1,0,0] (bodyOf Try.f97))),.it (.inLoop (nav [1,1,0,1,0,0] (bodyOf Try.f97))),.it (.inBlock 0),.it (.code (nav [1,1,1] (bodyOf Try.f97)))],[],Option.none⟩],[(0,EK.seq 3 (.ints .i64 q) nn)],1⟩
theorem in_t (w:List Int) (p:Int):RUN (st0 97 [il w,iv p])=(.at (sA (w) ([]) (false) (p) (Int.ofNat (List.length w)) ((0:Int)))):=by kernel_rfl
theorem a_t (w q:List Int) (nn:Bool) (p z i:Int):RUN (stOf (sA w q nn p z i))=(bc (decide (i < z)) (bc (bc (bc (decide ((0:Int)≤i)) (Nat.blt (Int.toNat i) (List.length w)) false) true false) (bc (bc (Nat.blt (Int.toNat i) (List.length w)) true false) (bc (decide (List.getD w (Int.toNat i) (0:Int) < (0:Int))) (bc (p == IntKind.wrap IntKind.i64 (IntKind.wrap IntKind.i64 ((0:Int) - List.getD w (Int.toNat i) (0:Int)) - (1:Int))) (.at (sA (w) (q) (nn) (IntKind.wrap IntKind.i64 (IntKind.wrap IntKind.i64 (IntKind.wrap IntKind.i64 ((2:Int) * IntKind.wrap IntKind.i64 ((0:Int) - List.getD w (Int.toNat i) (0:Int))) - (1:Int)) - p)) (z) (IntKind.wrap IntKind.i64 (i+(1:Int))))) (bc (p == IntKind.wrap IntKind.i64 ((0:Int) - List.getD w (Int.toNat i) (0:Int))) (.at (sA (w) (q) (nn) (IntKind.wrap IntKind.i64 (IntKind.wrap IntKind.i64 (IntKind.wrap IntKind.i64 ((2:Int) * IntKind.wrap IntKind.i64 ((0:Int) - List.getD w (Int.toNat i) (0:Int))) - (1:Int)) - p)) (z) (IntKind.wrap IntKind.i64 (i+(1:Int))))) (bc (decide (p < IntKind.wrap IntKind.i64 ((0:Int) - List.getD w (Int.toNat i) (0:Int)))) (bc (bc (Nat.beq (List.length q) (List.length q)) (bc (Nat.ble (List.length q+List.length (List.map (fun r=>U.int (List.headD r (U.i (0:Int)))) [[U.i (IntKind.wrap IntKind.i64 ((-1:Int) * IntKind.wrap IntKind.i64 (IntKind.wrap IntKind.i64 ((0:Int) - List.getD w (Int.toNat i) (0:Int)) - (1:Int))))]])) (65536:Nat)) (bc nn true (bc nn false true)) false) false) (.at (sA (w) (q ++ List.map (fun r=>U.int (List.headD r (U.i (0:Int)))) [[U.i (IntKind.wrap IntKind.i64 ((-1:Int) * IntKind.wrap IntKind.i64 (IntKind.wrap IntKind.i64 ((0:Int) - List.getD w (Int.toNat i) (0:Int)) - (1:Int))))]]) (bc nn true (Nat.blt (0:Nat) (List.length (List.map (fun r=>U.int (List.headD r (U.i (0:Int)))) [[U.i (IntKind.wrap IntKind.i64 ((-1:Int) * IntKind.wrap IntKind.i64 (IntKind.wrap IntKind.i64 ((0:Int) - List.getD w (Int.toNat i) (0:Int)) - (1:Int))))]])))) (p) (z) (IntKind.wrap IntKind.i64 (i+(1:Int))))) .bad) (bc (bc (Nat.beq (List.length q) (List.length q)) (bc (Nat.ble (List.length q+List.length (List.map (fun r=>U.int (List.headD r (U.i (0:Int)))) [[U.i (List.getD w (Int.toNat i) (0:Int))]])) (65536:Nat)) (bc nn true (bc nn false true)) false) false) (.at (sA (w) (q ++ List.map (fun r=>U.int (List.headD r (U.i (0:Int)))) [[U.i (List.getD w (Int.toNat i) (0:Int))]]) (bc nn true (Nat.blt (0:Nat) (List.length (List.map (fun r=>U.int (List.headD r (U.i (0:Int)))) [[U.i (List.getD w (Int.toNat i) (0:Int))]])))) (p) (z) (IntKind.wrap IntKind.i64 (i+(1:Int))))) .bad)))) (bc (p == IntKind.wrap IntKind.i64 (List.getD w (Int.toNat i) (0:Int) - (1:Int))) (.at (sA (w) (q) (nn) (IntKind.wrap IntKind.i64 (IntKind.wrap IntKind.i64 (IntKind.wrap IntKind.i64 ((2:Int) * List.getD w (Int.toNat i) (0:Int)) - (1:Int)) - p)) (z) (IntKind.wrap IntKind.i64 (i+(1:Int))))) (bc (p == List.getD w (Int.toNat i) (0:Int)) (.at (sA (w) (q) (nn) (IntKind.wrap IntKind.i64 (IntKind.wrap IntKind.i64 (IntKind.wrap IntKind.i64 ((2:Int) * List.getD w (Int.toNat i) (0:Int)) - (1:Int)) - p)) (z) (IntKind.wrap IntKind.i64 (i+(1:Int))))) (bc (decide (p < List.getD w (Int.toNat i) (0:Int))) (bc (bc (Nat.beq (List.length q) (List.length q)) (bc (Nat.ble (List.length q+List.length (List.map (fun r=>U.int (List.headD r (U.i (0:Int)))) [[U.i (IntKind.wrap IntKind.i64 ((1:Int) * IntKind.wrap IntKind.i64 (List.getD w (Int.toNat i) (0:Int) - (1:Int))))]])) (65536:Nat)) (bc nn true (bc nn false true)) false) false) (.at (sA (w) (q ++ List.map (fun r=>U.int (List.headD r (U.i (0:Int)))) [[U.i (IntKind.wrap IntKind.i64 ((1:Int) * IntKind.wrap IntKind.i64 (List.getD w (Int.toNat i) (0:Int) - (1:Int))))]]) (bc nn true (Nat.blt (0:Nat) (List.length (List.map (fun r=>U.int (List.headD r (U.i (0:Int)))) [[U.i (IntKind.wrap IntKind.i64 ((1:Int) * IntKind.wrap IntKind.i64 (List.getD w (Int.toNat i) (0:Int) - (1:Int))))]])))) (p) (z) (IntKind.wrap IntKind.i64 (i+(1:Int))))) .bad) (bc (bc (Nat.beq (List.length q) (List.length q)) (bc (Nat.ble (List.length q+List.length (List.map (fun r=>U.int (List.headD r (U.i (0:Int)))) [[U.i (List.getD w (Int.toNat i) (0:Int))]])) (65536:Nat)) (bc nn true (bc nn false true)) false) false) (.at (sA (w) (q ++ List.map (fun r=>U.int (List.headD r (U.i (0:Int)))) [[U.i (List.getD w (Int.toNat i) (0:Int))]]) (bc nn true (Nat.blt (0:Nat) (List.length (List.map (fun r=>U.int (List.headD r (U.i (0:Int)))) [[U.i (List.getD w (Int.toNat i) (0:Int))]])))) (p) (z) (IntKind.wrap IntKind.i64 (i+(1:Int))))) .bad))))) .bad) .bad) (bc (bc (Nat.beq (List.length q) (List.length q)) true false) (.done (EV.tup [(EV.lst (SyC.ints IntKind.i64 (q))),(EV.v (Value.int IntKind.i64 (p)))]) [] 0) .bad)):=by kernel_rfl

def othS (p:Nat) (x:Int):List Int × Nat:=if p+1=x.natAbs∨p=x.natAbs then ([],sw x.natAbs p) else if p < x.natAbs then ([lowL x],p) else ([x],p)
theorem oth_S (p:Nat) (x:Int) (w:List Int):oth p (x :: w)=((othS p x).1 ++ (oth (othS p x).2 w).1,(oth (othS p x).2 w).2):=by
 rw [oth_cons];unfold othS;split
 ·rfl
 ·split <;> rfl
theorem step {w q:List Int} {nn:Bool} {p i j:Nat} {x:Int} (hi:i < w.length) (hx:w.getD i 0=x) (hj:x.natAbs=j+1) (hn:j≤11) (hp:p≤12) (hw:w.length≤2000) (hq:q.length≤i) (hnn:nn=true∨q=[]):∃ nn',RUN (stOf (sA w q nn p w.length i)) = .at (sA w (q ++ (othS p x).1) nn' ((othS p x).2:Nat) w.length (i+1:Nat))∧(nn'=true∨q ++ (othS p x).1=[]):=by
 rw [a_t,dt (show (i:Int) < (w.length:Int) by omega),bc_t];have e0:((i:Int)).toNat=i:=rfl;rw [e0,hx];have w1:IntKind.i64.wrap (((j+1:Nat):Int) - 1)=(j:Int):=by rw [wrap_in _ (by omega) (by omega)];omega
 have w2:IntKind.i64.wrap (2 * ((j+1:Nat):Int))=2 * ((j+1:Nat):Int):=wrap_in _ (by omega) (by omega);have w3:IntKind.i64.wrap (2 * ((j+1:Nat):Int) - 1)=2 * (j:Int)+1:=by rw [wrap_in _ (by omega) (by omega)];omega
 have w4:IntKind.i64.wrap (-1 * (j:Int)) = -(j:Int):=by rw [wrap_in _ (by omega) (by omega)];omega
 have w5:IntKind.i64.wrap (1 * (j:Int))=(j:Int):=by rw [wrap_in _ (by omega) (by omega)];omega
 have w6:IntKind.i64.wrap (2 * (j:Int)+1 - (p:Int))=2 * (j:Int)+1 - (p:Int):=wrap_in _ (by omega) (by omega);have hb:∀ v:Int,bc nn true (Nat.blt 0 (List.length (List.map (fun r=>U.int (List.headD r (U.i 0))) [[U.i v]])))=true:=fun v=>by cases nn <;> rfl
 have hb2:bc nn true (bc nn false true)=true:=by cases nn <;> rfl
 unfold othS lowL;rw [hj];have hs:(∃ s:Int,x=s * ((j+1:Nat):Int)∧(s = -1∧x < 0∨s=1∧¬ x < 0)):=by
  by_cases h:x < 0
  ·exact ⟨-1,by omega,.inl ⟨rfl,h⟩⟩
  ·exact ⟨1,by omega,.inr ⟨rfl,h⟩⟩
 have main:∃ nn',(bc ((p:Int) == (j:Int)) (ZF.at (sA w q nn (2 * (j:Int)+1 - (p:Int)) w.length (i+1:Nat))) (bc ((p:Int) == ((j+1:Nat):Int)) (ZF.at (sA w q nn (2 * (j:Int)+1 - (p:Int)) w.length (i+1:Nat))) (bc (decide ((p:Int) < ((j+1:Nat):Int))) (ZF.at (sA w (q ++ [if x < 0 then x+1 else x - 1]) true p w.length (i+1:Nat))) (ZF.at (sA w (q ++ [x]) true p w.length (i+1:Nat))))))=ZF.at (sA w (q ++ (if p+1=j+1∨p=j+1 then (([]:List Int),sw (j+1) p) else if p < j+1 then ([if x < 0 then x+1 else x - 1],p) else ([x],p)).1) nn' ((if p+1=j+1∨p=j+1 then (([]:List Int),sw (j+1) p) else if p < j+1 then ([if x < 0 then x+1 else x - 1],p) else ([x],p)).2:Nat) w.length (i+1:Nat))∧(nn'=true∨q ++ (if p+1=j+1∨p=j+1 then (([]:List Int),sw (j+1) p) else if p < j+1 then ([if x < 0 then x+1 else x - 1],p) else ([x],p)).1=[]):=by
  by_cases c1:p=j
  ·subst c1;refine ⟨nn,?_,?_⟩
   ·rw [show (((p:Int) == (p:Int))=true) by simp,bc_t,if_pos (.inl rfl),List.append_nil,show sw (p+1) p=p+1 by unfold sw;rw [if_neg (by omega),if_pos rfl],show 2 * (p:Int)+1 - p=((p+1:Nat):Int) by omega]
   ·rw [if_pos (.inl rfl),List.append_nil];exact hnn
  ·rw [show (((p:Int) == (j:Int))=false) by simp;omega,bc_f]
   by_cases c2:p=j+1
   ·subst c2;refine ⟨nn,?_,?_⟩
    ·rw [show ((((j+1:Nat):Int) == ((j+1:Nat):Int))=true) by simp,bc_t,if_pos (.inr rfl),List.append_nil,show sw (j+1) (j+1)=j by unfold sw;rw [if_pos rfl];omega,show 2 * (j:Int)+1 - ((j+1:Nat):Int)=(j:Int) by omega]
    ·rw [if_pos (.inr rfl),List.append_nil];exact hnn
   ·rw [show (((p:Int) == ((j+1:Nat):Int))=false) by simp;omega,bc_f,if_neg (show ¬ (p+1=j+1∨p=j+1) by omega)]
    by_cases c3:p < j+1
    ·rw [if_pos c3,dt (show (p:Int) < ((j+1:Nat):Int) by omega),bc_t];exact ⟨true,rfl,.inl rfl⟩
    ·rw [if_neg c3,df (show ¬ (p:Int) < ((j+1:Nat):Int) by omega),bc_f];exact ⟨true,rfl,.inl rfl⟩
 obtain ⟨nn',m1,m2⟩:=main;refine ⟨nn',Eq.trans ?_ m1,m2⟩;have m3:∀ v:Int,List.map (fun r=>U.int (List.headD r (U.i 0))) [[U.i v]]=[v]:=fun v=>rfl
 by_cases hs:x < 0
 ·have w0:IntKind.i64.wrap (0 - x)=((j+1:Nat):Int):=by rw [wrap_in _ (by omega) (by omega)];omega
  rw [dt hs,bc_t,w0,w1,w2,w3,w4,w6];simp (disch:=omega) only [Nat.add_eq,eqSy_self,eqN_self,bc_same,List.length_cons,ofn,wrap_in,dt,df,bltD,bltN,ble_of,bleN,beqD,bc_t,bc_f,nn_ok,Nat.zero_add,to_nat,Int.zero_add,Int.sub_zero,Int.sub_self,Int.cast_ofNat_Int,Int.natCast_zero,Int.toNat_zero,List.take_zero,List.nil_append,List.length_append,List.length_nil,hb,hb2,m3,if_pos hs];rw [show -(j:Int)=x+1 by omega];rfl
 ·obtain rfl:x=((j+1:Nat):Int):=by omega
  rw [df hs,bc_f,w1,w2,w3,w5,w6];simp (disch:=omega) only [Nat.add_eq,eqSy_self,eqN_self,bc_same,List.length_cons,ofn,wrap_in,dt,df,bltD,bltN,ble_of,bleN,beqD,bc_t,bc_f,nn_ok,Nat.zero_add,to_nat,Int.zero_add,Int.sub_zero,Int.sub_self,Int.cast_ofNat_Int,Int.natCast_zero,Int.toNat_zero,List.take_zero,List.nil_append,List.length_append,List.length_nil,hb,hb2,m3,if_neg hs];rw [show ((j+1:Nat):Int) - 1=(j:Int) by omega];rfl
theorem othS_lt {n p:Nat} {x:Int} (hk:0 < x.natAbs∧x.natAbs < n) (hp:p < n):(othS p x).2 < n:=by
 unfold othS;split
 ·exact sw_ltn hk hp
 ·split <;> exact hp
theorem last {w q:List Int} {nn:Bool} {p:Nat}:RUN (stOf (sA w q nn p w.length w.length)) = .done (.tup [il q,iv p]) [] 0:=by
 rw [a_t,df (show ¬ (w.length:Int) < (w.length:Int) by omega),bc_f];simp only [Nat.add_eq,eqSy_self,eqN_self,bc_same,List.length_cons,ofn,wrap_in,dt,df,bltD,bltN,ble_of,bleN,beqD,bc_t,bc_f,nn_ok,Nat.zero_add,to_nat,Int.zero_add,Int.sub_zero,Int.sub_self,Int.cast_ofNat_Int,Int.natCast_zero,Int.toNat_zero,List.take_zero,List.nil_append,List.length_append,List.length_nil]
theorem loop {w:List Int} (hn:n≤12) (hw:w.length≤2000) (h:Vld n w):∀ (k i:Nat) (q:List Int) (nn:Bool) (p:Nat),i+k=w.length→p < n→q.length≤i→(nn=true∨q=[])→EndZ 97 .nil false (stOf (sA w q nn p w.length i)) (.tup [il (q ++ (oth p (w.drop i)).1),iv ((oth p (w.drop i)).2:Nat)]) [] 0
 | 0,i,q,nn,p,hi,hp,hq,hnn=>by
  obtain rfl:i=w.length:=by omega
  rw [List.drop_length,show oth p []=([],p) from rfl,List.append_nil]
  exact .done last
 | k+1,i,q,nn,p,hi,hp,hq,hnn=>by
  have hi2:i < w.length:=by omega
  have hk:0 < (w.getD i 0).natAbs∧(w.getD i 0).natAbs < n:=(show Vld n [w.getD i 0] from fun x hx=>by
   rw [List.mem_singleton.1 hx,getD_at hi2];exact h _ (List.getElem_mem _)).head
  obtain ⟨nn',h1,h2⟩:=step (p:=p) hi2 rfl (show (w.getD i 0).natAbs=(w.getD i 0).natAbs - 1+1 by omega) (by omega) (by omega) hw hq hnn;rw [List.drop_eq_getElem_cons hi2,oth_S,← getD_at hi2,← List.append_assoc];refine .at (.nil _) h1 (loop hn hw h k (i+1) _ nn' _ (by omega) (othS_lt hk hp) ?_ h2);rw [List.length_append];have:(othS p (w.getD i 0)).1.length≤1:=by
   unfold othS;split
   ·exact Nat.zero_le _
   ·split <;> exact Nat.le_refl _
  omega
end POth

def OthOk (w:List Int) (p:Int):Prop:=w.length≤2000∧Vld 12 w∧0≤p∧p < 12
noncomputable instance (w:List Int) (p:Int):Decidable (OthOk w p):=Classical.propDecidable _
noncomputable def spPOth:ZCT:=fun ax=>match ax with
 | [.lst (.ints .i64 w),.v (.int .i64 p)]=>some ⟨decide (OthOk w p),.tup [il (oth p.toNat w).1,iv ((oth p.toNat w).2:Nat)],[],0⟩
 | _=>none
theorem spPOth_ok:ZCtOk Try.prog 97 spPOth:=fun γ w us ax r hs hc hax hN hfz=>by
 unfold spPOth at hs;split at hs
 case h_2=>cases hs
 rename_i w p;obtain ⟨rfl⟩:=Option.some.inj hs;have hc_0:decide (OthOk w p)=true:=hc;have hc:=of_decide_eq_true hc_0;exact EndZ.calls (by
  obtain ⟨h1,h2,h3,h4⟩:=hc;obtain ⟨p,rfl⟩:=Int.eq_ofNat_of_zero_le h3;exact .at (.nil _) (POth.in_t w p) (POth.loop (Nat.le_refl _) h1 h2 w.length 0 [] false p (by omega) (by omega) (Nat.zero_le _) (.inr rfl))) (.nil _) (by kernel_rfl) hax hN hfz
end Go.Proofs.Ytooimphimnagaaa.Ev
namespace Go.Proofs.Ytooimphimnagaaa.Ev
open Go.Proofs
variable {n:Nat}
namespace PDrp
noncomputable def ct:Tr ZCC:=(Tr.nil.put 83 (some (dC spPChk))).put 97 (some (dC spPOth))
theorem ct_ok:ZCtsOk Try.prog ct:=((ZCtsOk.nil _).add rfl spPChk_ok).add rfl spPOth_ok
noncomputable def RUN (s:ES):ZF:=RZ 52 ct (fun _=>false) [] [] false s
theorem in_t (n:Int) (w:List Int) (p:Int):RUN (st0 52 [iv n,il w,iv p])=(bc (chk n w != (0:Int)) (.done (EV.tup [(EV.v (Value.slice Option.none 0 0)),(EV.v (Value.int IntKind.i64 (chk n w)))]) [] 0) (bc (decide (p < (0:Int))) (.done (EV.tup [(EV.v (Value.slice Option.none 0 0)),(EV.v (Value.int IntKind.i64 (7)))]) [] 0) (bc (decide (n≤p)) (.done (EV.tup [(EV.v (Value.slice Option.none 0 0)),(EV.v (Value.int IntKind.i64 (7)))]) [] 0) (bc (n == (1:Int)) (.done (EV.tup [(EV.v (Value.slice Option.none 0 0)),(EV.v (Value.int IntKind.i64 (2)))]) [] 0) (bc (decide (OthOk w p)) (.done (EV.tup [(EV.lst (SyC.ints IntKind.i64 (Prod.fst (oth (Int.toNat p) w)))),(EV.v (Value.int IntKind.i64 (0)))]) [] 0) .bad))))):=by kernel_rfl

noncomputable def drpE (n:Int) (w:List Int) (p:Int):Int:=bc (chk n w != 0) (chk n w) (bc (decide (p < 0)) 7 (bc (decide (n≤p)) 7 (bc (n == 1) 2 0)))
theorem othOk {n:Int} {w:List Int} {p:Int} (z:chk n w=0) (h1:¬ p < 0) (h2:¬ n≤p):OthOk w p:=by
 obtain ⟨⟨w0,w1,w2,w3⟩,_⟩:=chk_wok z;exact ⟨w2,vld_more (by omega) w3,by omega,by omega⟩
theorem ends (n:Int) (w:List Int) (p:Int):EndZ 52 ct false (st0 52 [iv n,il w,iv p]) (resL (drpE n w p) (oth p.toNat w).1) [] 0:=by
 have h:=in_t n w p
 by_cases z:chk n w=0
 ·rw [z,show ((0:Int) != 0)=false from rfl,bc_f] at h
  have e1:drpE n w p=bc (decide (p < 0)) 7 (bc (decide (n≤p)) 7 (bc (n == 1) 2 0)):=by unfold drpE;rw [z];rfl
  by_cases h1:p < 0
  ·rw [dt h1,bc_t] at h e1;rw [e1];exact (EndZ.done h).weak (resL_err _ (by decide))
  rw [df h1,bc_f] at h e1
  by_cases h2:n≤p
  ·rw [dt h2,bc_t] at h e1;rw [e1];exact (EndZ.done h).weak (resL_err _ (by decide))
  rw [df h2,bc_f] at h e1
  by_cases h3:n=1
  ·rw [show (n == 1)=true by simp [h3],bc_t] at h e1;rw [e1];exact (EndZ.done h).weak (resL_err _ (by decide))
  ·rw [show (n == 1)=false by simp [h3],bc_f] at h e1;rw [dt (othOk z h1 h2),bc_t] at h;rw [resL_ok _ e1];exact .done h
 ·have e1:drpE n w p=chk n w:=by unfold drpE;rw [show (chk n w != 0)=true by simp [z],bc_t]
  rw [show (chk n w != 0)=true by simp [z],bc_t] at h;rw [e1];exact (EndZ.done h).weak (resL_err _ z)
end PDrp
noncomputable def spPDrp:ZCT:=fun ax=>match ax with
 | [.v (.int .i64 n),.lst (.ints .i64 w),.v (.int .i64 p)]=>some ⟨decide (True),resL (PDrp.drpE n w p) (oth p.toNat w).1,[],0⟩
 | _=>none
theorem spPDrp_ok:ZCtOk Try.prog 52 spPDrp:=fun γ w us ax r hs hc hax hN hfz=>by
 unfold spPDrp at hs;split at hs
 case h_2=>cases hs
 rename_i n w p;obtain ⟨rfl⟩:=Option.some.inj hs;have hc_0:decide (True)=true:=hc;have hc:=of_decide_eq_true hc_0;exact EndZ.calls (PDrp.ends n w p) PDrp.ct_ok (by kernel_rfl) hax hN hfz
namespace PLay
noncomputable def RUN (s:ES):ZF:=RZs 54 PDrp.ct [(atS 0 54 11,[[(0,none),(1,none),(2,none),(11,none),(12,some (1,3,.ints .i64 [])),(13,none)]]),(atS 0 54 17,[[(11,none),(12,none),(15,none),(16,none)]])] [] false s

noncomputable def sA (n:Int) (w:List Int) (p s:Int) (q:List Int) (nn:Bool) (k:Int):NS:=⟨[⟨54,73,[(0,(EV.v (Value.int IntKind.i64 (n)))),(1,(EV.lst (SyC.ints IntKind.i64 (w)))),(2,iv p),(11,iv s),(12,EV.slO 0 1 q.length nn),(13,iv k)],[.it (.code (nav [1,1,1,1,1,0,1,0,0,0] (bodyOf Try.f54))),.it (.code (nav [1,1,1,1,1,0,1,0,0,1] (bodyOf Try.f54))),.it (.inLoop (nav [1,1,1,1,1,0,1,0,0] (bodyOf Try.f54))),.it (.inBlock 1),.it (.code (nav [1,1,1,1,1,1] (bodyOf Try.f54)))],[],Option.none⟩],[(0,EK.seq 3 (.ints .i64 q) nn)],1⟩
noncomputable def sB (s:Int) (q:List Int) (nn:Bool) (p k:Int):NS:=⟨[⟨54,73,[(11,iv s),(12,EV.slO 0 1 q.length nn),(15,iv p),(16,iv k)],[.it (.code (nav [1,1,1,1,1,1,1,1,0,1,0,0,0] (bodyOf Try.f54))),.it (.code (nav [1,1,1,1,1,1,1,1,0,1,0,0,1] (bodyOf Try.f54))),.it (.inLoop (nav [1,1,1,1,1,1,1,1,0,1,0,0] (bodyOf Try.f54))),.it (.inBlock 3),.it (.code (nav [1,1,1,1,1,1,1,1,1] (bodyOf Try.f54)))],[],Option.none⟩],[(0,EK.seq 3 (.ints .i64 q) nn)],1⟩
theorem in_t (n:Int) (w:List Int) (p:Int) (a:Bool):RUN (st0 54 [iv n,il w,iv p,bv a])=(bc (chk n w != (0:Int)) (.done (EV.tup [(EV.v (Value.slice Option.none 0 0)),(EV.v (Value.int IntKind.i64 (chk n w)))]) [] 0) (bc (decide (p < (0:Int))) (.done (EV.tup [(EV.v (Value.slice Option.none 0 0)),(EV.v (Value.int IntKind.i64 (7)))]) [] 0) (bc (decide (n≤p)) (.done (EV.tup [(EV.v (Value.slice Option.none 0 0)),(EV.v (Value.int IntKind.i64 (7)))]) [] 0) (bc (a) (.at (sA (n) (w) (p) ((1:Int)) ([]) (false) (IntKind.wrap IntKind.i64 (p+(1:Int))))) (.at (sA (n) (w) (p) ((-1:Int)) ([]) (false) (IntKind.wrap IntKind.i64 (p+(1:Int))))))))):=by kernel_rfl
theorem a_t (n:Int) (w:List Int) (p s:Int) (q:List Int) (nn:Bool) (k:Int):RUN (stOf (sA n w p s q nn k))=(bc (decide (k < n)) (bc (bc (Nat.beq (List.length q) (List.length q)) (bc (Nat.ble (List.length q+List.length (List.map (fun r=>U.int (List.headD r (U.i (0:Int)))) [[U.i (IntKind.wrap IntKind.i64 (s * k))]])) (65536:Nat)) (bc nn true (bc nn false true)) false) false) (.at (sA (n) (w) (p) (s) (q ++ List.map (fun r=>U.int (List.headD r (U.i (0:Int)))) [[U.i (IntKind.wrap IntKind.i64 (s * k))]]) (bc nn true (Nat.blt (0:Nat) (List.length (List.map (fun r=>U.int (List.headD r (U.i (0:Int)))) [[U.i (IntKind.wrap IntKind.i64 (s * k))]])))) (IntKind.wrap IntKind.i64 (k+(1:Int))))) .bad) (bc (decide (OthOk w p)) (bc (bc (Nat.beq (List.length q) (List.length q)) (bc (Nat.ble (List.length q+List.length (Prod.fst (oth (Int.toNat p) w))) (65536:Nat)) (bc nn true (bc nn false true)) false) false) (.at (sB (s) (q ++ Prod.fst (oth (Int.toNat p) w)) (bc nn true (Nat.blt (0:Nat) (List.length (Prod.fst (oth (Int.toNat p) w))))) ((Nat.cast (Prod.snd (oth (Int.toNat p) w)):Int)) (IntKind.wrap IntKind.i64 (n - (1:Int))))) .bad) .bad)):=by kernel_rfl
theorem b_t (s:Int) (q:List Int) (nn:Bool) (p k:Int):RUN (stOf (sB s q nn p k))=(bc (decide (p < k)) (bc (bc (Nat.beq (List.length q) (List.length q)) (bc (Nat.ble (List.length q+List.length (List.map (fun r=>U.int (List.headD r (U.i (0:Int)))) [[U.i (IntKind.wrap IntKind.i64 (IntKind.wrap IntKind.i64 ((0:Int) - s) * k))]])) (65536:Nat)) (bc nn true (bc nn false true)) false) false) (.at (sB (s) (q ++ List.map (fun r=>U.int (List.headD r (U.i (0:Int)))) [[U.i (IntKind.wrap IntKind.i64 (IntKind.wrap IntKind.i64 ((0:Int) - s) * k))]]) (bc nn true (Nat.blt (0:Nat) (List.length (List.map (fun r=>U.int (List.headD r (U.i (0:Int)))) [[U.i (IntKind.wrap IntKind.i64 (IntKind.wrap IntKind.i64 ((0:Int) - s) * k))]])))) (p) (IntKind.wrap IntKind.i64 (k - (1:Int))))) .bad) (bc (decide ((400:Int) < Int.ofNat (List.length q))) (.done (EV.tup [(EV.v (Value.slice Option.none 0 0)),(EV.v (Value.int IntKind.i64 (3)))]) [] 0) (bc (bc (Nat.beq (List.length q) (List.length q)) true false) (.done (EV.tup [(EV.lst (SyC.ints IntKind.i64 (q))),(EV.v (Value.int IntKind.i64 (0)))]) [] 0) .bad))):=by kernel_rfl

noncomputable def sgn (a:Bool):Int:=bc a 1 (-1)
theorem sgn_ok (a:Bool):sgn a=1∨sgn a = -1:=by cases a;exact .inr rfl;exact .inl rfl
theorem m3 (v:Int):List.map (fun r=>U.int (List.headD r (U.i 0))) [[U.i v]]=[v]:=rfl
theorem hb (nn:Bool) (v:Int):bc nn true (Nat.blt 0 (List.length [v]))=true:=by cases nn <;> rfl
theorem hb2 (nn:Bool):bc nn true (bc nn false true)=true:=by cases nn <;> rfl
theorem hb3 {nn:Bool} {q:List Int} (h:nn=true∨q=[]) (r:List Int):bc nn true (Nat.blt 0 r.length)=true∨q ++ r=[]:=by
 cases nn with
 | true=>exact .inl rfl
 | false=>
  have h:q=[]:=by simpa using h
  subst h
  cases r with
  | nil=>exact .inr rfl
  | cons x r=>exact .inl rfl
theorem wsg {s:Int} (hs:s=1∨s = -1) {k:Int} (h0:0≤k) (h1:k≤20):IntKind.i64.wrap (s * k)=s * k:=by
 rcases hs with h | h <;> subst h <;> exact wrap_in _ (by omega) (by omega)
theorem wsn {s:Int} (hs:s=1∨s = -1):IntKind.i64.wrap (0 - s) = -s:=by
 rcases hs with h | h <;> subst h <;> rfl
theorem stepA {w q:List Int} {p s:Int} {nn:Bool} {k:Nat} (hs:s=1∨s = -1) (hk:k < n) (hn:n≤12) (hq:q.length≤20):RUN (stOf (sA n w p s q nn k)) = .at (sA n w p s (q ++ [s * (k:Int)]) true (k+1:Nat)):=by
 rw [a_t,dt (show (k:Int) < n by omega),bc_t,m3,wsg hs (by omega) (by omega),hb,hb2];simp (disch:=omega) only [Nat.add_eq,eqSy_self,eqN_self,bc_same,List.length_cons,ofn,wrap_in,dt,df,bltD,bltN,ble_of,bleN,beqD,bc_t,bc_f,nn_ok,Nat.zero_add,to_nat,Int.zero_add,Int.sub_zero,Int.sub_self,Int.cast_ofNat_Int,Int.natCast_zero,Int.toNat_zero,List.take_zero,List.nil_append,List.length_append,List.length_nil];rfl
theorem midA {w q:List Int} {p s:Int} {nn:Bool} {k:Nat} (hk:n≤k) (hw:w.length≤2000) (hn1:1≤n) (hn:n≤12) (hq:q.length≤20) (hp:OthOk w p):RUN (stOf (sA n w p s q nn k)) = .at (sB s (q ++ (oth p.toNat w).1) (bc nn true (Nat.blt 0 (oth p.toNat w).1.length)) ((oth p.toNat w).2:Nat) ((n:Int) - 1)):=by
 have h1:=oth_len w p.toNat;rw [a_t,df (show ¬ (k:Int) < n by omega),bc_f,dt hp,bc_t,hb2,wrap_in ((n:Int) - 1) (by omega) (by omega)];simp (disch:=omega) only [Nat.add_eq,eqSy_self,eqN_self,bc_same,List.length_cons,ofn,wrap_in,dt,df,bltD,bltN,ble_of,bleN,beqD,bc_t,bc_f,nn_ok,Nat.zero_add,to_nat,Int.zero_add,Int.sub_zero,Int.sub_self,Int.cast_ofNat_Int,Int.natCast_zero,Int.toNat_zero,List.take_zero,List.nil_append,List.length_append,List.length_nil]
theorem stepB {q:List Int} {s:Int} {nn:Bool} {p k:Nat} (hs:s=1∨s = -1) (hk:p < k) (hk2:k≤20) (hq:q.length≤3000):RUN (stOf (sB s q nn p k)) = .at (sB s (q ++ [-s * (k:Int)]) true p ((k:Int) - 1)):=by
 rw [b_t,dt (show (p:Int) < k by omega),bc_t,m3,wsn hs,wsg (neg_sgn hs) (by omega) (by omega),hb,hb2,wrap_in ((k:Int) - 1) (by omega) (by omega)];simp (disch:=omega) only [Nat.add_eq,eqSy_self,eqN_self,bc_same,List.length_cons,ofn,wrap_in,dt,df,bltD,bltN,ble_of,bleN,beqD,bc_t,bc_f,nn_ok,Nat.zero_add,to_nat,Int.zero_add,Int.sub_zero,Int.sub_self,Int.cast_ofNat_Int,Int.natCast_zero,Int.toNat_zero,List.take_zero,List.nil_append,List.length_append,List.length_nil]
theorem lastB {q:List Int} {s:Int} {nn:Bool} {p k:Int} (hk:k≤p):RUN (stOf (sB s q nn p k))=bc (decide (400 < (q.length:Int))) (.done (.tup [.v (.slice none 0 0),iv 3]) [] 0) (.done (.tup [il q,iv 0]) [] 0):=by
 rw [b_t,df (show ¬ p < k by omega),bc_f];simp only [Nat.add_eq,eqSy_self,eqN_self,bc_same,List.length_cons,ofn,wrap_in,dt,df,bltD,bltN,ble_of,bleN,beqD,bc_t,bc_f,nn_ok,Nat.zero_add,to_nat,Int.zero_add,Int.sub_zero,Int.sub_self,Int.cast_ofNat_Int,Int.natCast_zero,Int.toNat_zero,List.take_zero,List.nil_append,List.length_append,List.length_nil]
theorem loopB {s:Int} (hs:s=1∨s = -1) (p:Nat):∀ (d:Nat) (q:List Int) (nn:Bool),p+d≤20→q.length+d≤2900→(nn=true∨q=[])→EndZ 54 PDrp.ct false (stOf (sB s q nn p ((p:Int)+d))) (resL (bc (decide (400 < (q ++ dnW (-s) p d).length)) 3 0) (q ++ dnW (-s) p d)) [] 0
 | 0,q,nn,hd,hq,hnn=>by
  rw [show dnW (-s) p 0=[] from rfl,List.append_nil]
  have h:=lastB (s:=s) (q:=q) (nn:=nn) (p:=p) (k:=(p:Int)+(0:Nat)) (by omega)
  by_cases c:400 < q.length
  ·rw [dt (show (400:Int) < (q.length:Int) by omega),bc_t] at h;rw [dt c,bc_t];exact (EndZ.done h).weak (resL_err _ (by decide))
  ·rw [df (show ¬ (400:Int) < (q.length:Int) by omega),bc_f] at h;rw [df c,bc_f];exact .done h
 | d+1,q,nn,hd,hq,hnn=>by
  have h:=stepB (s:=s) (q:=q) (nn:=nn) (p:=p) (k:=p+(d+1)) hs (by omega) (by omega) (by omega);rw [show (((p+(d+1):Nat):Int) - 1)=(p:Int)+(d:Nat) by omega] at h;have e:q ++ dnW (-s) p (d+1)=(q ++ [-s * ((p+(d+1):Nat):Int)]) ++ dnW (-s) p d:=by
   rw [List.append_assoc];rfl
  rw [e];exact .at PDrp.ct_ok h (loopB hs p d _ true (by omega) (by rw [List.length_append,List.length_singleton];omega) (.inl rfl))
theorem loopA {w:List Int} {p:Nat} {s:Int} (hs:s=1∨s = -1) (hn:n≤12) (hw:w.length≤2000) (hv:Vld n w) (hp:p < n) (hpo:OthOk w p):∀ (d a:Nat) (q:List Int) (nn:Bool),a+1+d=n→q.length≤a→(nn=true∨q=[])→EndZ 54 PDrp.ct false (stOf (sA n w p s q nn (a+1:Nat))) (resL (bc (decide (400 < (q ++ upW s a d ++ (oth p w).1 ++ dnW (-s) (oth p w).2 (n - 1 - (oth p w).2)).length)) 3 0) (q ++ upW s a d ++ (oth p w).1 ++ dnW (-s) (oth p w).2 (n - 1 - (oth p w).2))) [] 0
 | 0,a,q,nn,hd,hq,hnn=>by
  have h:=midA (s:=s) (q:=q) (nn:=nn) (k:=a+1) (by omega) hw (by omega) hn (by omega) hpo;have h1:=gW_lt hv hp;rw [← oth_at] at h1;rw [show ((p:Int)).toNat=p from rfl,show (n:Int) - 1=((oth p w).2:Int)+((n - 1 - (oth p w).2:Nat):Int) by omega] at h
  rw [show upW s a 0=[] from rfl,List.append_nil]
  have h3:=oth_len w p;exact .at PDrp.ct_ok h (loopB hs _ _ _ _ (by omega) (by rw [List.length_append];omega) (hb3 hnn _))
 | d+1,a,q,nn,hd,hq,hnn=>by
  have h:=stepA (w:=w) (p:=p) (s:=s) (q:=q) (nn:=nn) (k:=a+1) hs (show a+1 < n by omega) hn (by omega);have e:q ++ upW s a (d+1)=(q ++ [s * ((a+1:Nat):Int)]) ++ upW s (a+1) d:=by
   rw [List.append_assoc];rfl
  rw [e];exact .at PDrp.ct_ok h (loopA hs hn hw hv hp hpo d (a+1) _ true (by omega) (by rw [List.length_append,List.length_singleton];omega) (.inl rfl))

noncomputable def layE (n:Int) (w:List Int) (p:Int) (a:Bool):Int:=bc (chk n w != 0) (chk n w) (bc (decide (p < 0)) 7 (bc (decide (n≤p)) 7 (bc (decide (400 < (layW n.toNat w p.toNat (sgn a)).length)) 3 0)))
theorem ends (n:Int) (w:List Int) (p:Int) (a:Bool):EndZ 54 PDrp.ct false (st0 54 [iv n,il w,iv p,bv a]) (resL (layE n w p a) (layW n.toNat w p.toNat (sgn a))) [] 0:=by
 have h:=in_t n w p a
 by_cases z:chk n w=0
 ·rw [z,show ((0:Int) != 0)=false from rfl,bc_f] at h
  have e1:layE n w p a=bc (decide (p < 0)) 7 (bc (decide (n≤p)) 7 (bc (decide (400 < (layW n.toNat w p.toNat (sgn a)).length)) 3 0)):=by unfold layE;rw [z];rfl
  by_cases h1:p < 0
  ·rw [dt h1,bc_t] at h e1;rw [e1];exact (EndZ.done h).weak (resL_err _ (by decide))
  rw [df h1,bc_f] at h e1
  by_cases h2:n≤p
  ·rw [dt h2,bc_t] at h e1;rw [e1];exact (EndZ.done h).weak (resL_err _ (by decide))
  rw [df h2,bc_f] at h e1;have ho:=PDrp.othOk z h1 h2;obtain ⟨⟨w0,w1,w2,w3⟩,_⟩:=chk_wok z;obtain ⟨n,rfl⟩:=Int.eq_ofNat_of_zero_le (show 0≤n by omega);obtain ⟨p,rfl⟩:=Int.eq_ofNat_of_zero_le (show 0≤p by omega);have e2:IntKind.i64.wrap ((p:Int)+1)=((p+1:Nat):Int):=by rw [wrap_in _ (by omega) (by omega)];omega
  have e3:bc a (.at (sA n w p 1 [] false ((p+1:Nat):Int))) (.at (sA n w p (-1) [] false ((p+1:Nat):Int)))=ZF.at (sA n w p (sgn a) [] false ((p+1:Nat):Int)):=by cases a <;> rfl
  rw [e2] at h;have h5:=h.trans e3;rw [e1];have h6:=loopA (sgn_ok a) (by omega) w2 w3 (by omega) ho (n - 1 - p) p [] false (by omega) (Nat.zero_le _) (.inr rfl);rw [List.nil_append] at h6;exact .at PDrp.ct_ok h5 h6
 ·have e1:layE n w p a=chk n w:=by unfold layE;rw [show (chk n w != 0)=true by simp [z],bc_t]
  rw [show (chk n w != 0)=true by simp [z],bc_t] at h;rw [e1];exact (EndZ.done h).weak (resL_err _ z)
end PLay
noncomputable def spPLay:ZCT:=fun ax=>match ax with
 | [.v (.int .i64 n),.lst (.ints .i64 w),.v (.int .i64 p),.v (.bool a)]=>some ⟨decide (True),resL (PLay.layE n w p a) (layW n.toNat w p.toNat (PLay.sgn a)),[],0⟩
 | _=>none
theorem spPLay_ok:ZCtOk Try.prog 54 spPLay:=fun γ w us ax r hs hc hax hN hfz=>by
 unfold spPLay at hs;split at hs
 case h_2=>cases hs
 rename_i n w p a;obtain ⟨rfl⟩:=Option.some.inj hs;have hc_0:decide (True)=true:=hc;have hc:=of_decide_eq_true hc_0;exact EndZ.calls (PLay.ends n w p a) PDrp.ct_ok (by kernel_rfl) hax hN hfz
end Go.Proofs.Ytooimphimnagaaa.Ev
namespace Go.Proofs.Ytooimphimnagaaa.Ev
variable {n:Nat}

def lnF:List Int→(Nat→Nat)→Nat→Nat
 | [],p=>p
 | x :: u,p=>lnF u (fun y=>p (sw x.natAbs y))

def sgL (x:Int):Int:=if x < 0 then -1 else 1

def lk:List Int→(Nat→Nat)→Nat→Nat→Int
 | [],_,_,_=>0
 | x :: u,p,a,b=>(if a=p (x.natAbs - 1)∧b=p x.natAbs∨a=p x.natAbs∧b=p (x.natAbs - 1) then sgL x else 0)+lk u (fun y=>p (sw x.natAbs y)) a b

theorem lk_app:∀ (u v:List Int) (p:Nat→Nat) (a b:Nat),lk (u ++ v) p a b=lk u p a b+lk v (lnF u p) a b
 | [],v,p,a,b=>by show _=0+_;rw [Int.zero_add];rfl
 | x :: u,v,p,a,b=>by
  show _+lk (u ++ v) _ a b=_+lk u _ a b+lk v _ a b;rw [lk_app u v,Int.add_assoc];rfl
theorem Vld.sub {u v:List Int} (h:Vld n u) (hs:∀ x,x ∈ v→x ∈ u):Vld n v:=fun x hx=>h x (hs x hx)
end Go.Proofs.Ytooimphimnagaaa.Ev
namespace Go.Proofs.Ytooimphimnagaaa.Ev
open Go.Proofs
namespace LApa
end LApa
namespace LChg
end LChg

namespace LSig
end LSig
end Go.Proofs.Ytooimphimnagaaa.Ev
namespace Go.Proofs.Ytooimphimnagaaa.Ev
open Go.Proofs
variable {n:Nat}

noncomputable def mx (n:Nat) (f:Nat→Nat→Int):List (List U):=(List.range n).map fun a=>[U.l ((List.range n).map fun b=>[U.i (f a b)])]
theorem mx_len (n:Nat) (f:Nat→Nat→Int):(mx n f).length=n:=by unfold mx;rw [List.length_map,List.length_range]
theorem mx_row {f:Nat→Nat→Int} {x:Nat} (hx:x < n):(mx n f).getD x []=[U.l ((List.range n).map fun b=>[U.i (f x b)])]:=by
 unfold mx;rw [List.getD_eq_getElem?_getD,List.getElem?_map,List.getElem?_range hx];rfl
theorem mx_list {f:Nat→Nat→Int} {x:Nat} (hx:x < n):U.list (((mx n f).getD x []).getD 0 (U.i 0))=(List.range n).map fun b=>[U.i (f x b)]:=by rw [mx_row hx];rfl
theorem mx_get {f:Nat→Nat→Int} {x y:Nat} (hx:x < n) (hy:y < n):U.int ((List.getD (U.list (((mx n f).getD x []).getD 0 (U.i 0))) y []).getD 0 (U.i 0))=f x y:=by
 have e:((List.range n).map fun b=>[U.i (f x b)]).getD y []=[U.i (f x y)]:=by
  rw [List.getD_eq_getElem?_getD,List.getElem?_map,List.getElem?_range hy];rfl
 rw [mx_list hx,e];rfl
def upd (f:Nat→Nat→Int) (x y:Nat) (v:Int) (a b:Nat):Int:=if a=x∧b=y then v else f a b
theorem range_set {α:Type} {g g':Nat→α} {x:Nat} {v:α} (h1:g' x=v) (h2:∀ a,a≠x→g' a=g a):((List.range n).map g).set x v=(List.range n).map g':=by
 apply List.ext_getElem (by rw [List.length_set,List.length_map,List.length_map]);intro i hi hi2;rw [List.getElem_set,List.getElem_map];split
 ·rename_i e;rw [← h1,List.getElem_map,List.getElem_range,e]
 ·rename_i e;rw [List.getElem_map,List.getElem_range,h2 i (fun q=>e q.symm)]
theorem mx_set {f:Nat→Nat→Int} {x y:Nat} (v:Int) (hx:x < n):(mx n f).set x (rset 0 (U.l (List.map (fun x=>[U.i x]) (List.set (List.map (fun r=>U.int (List.headD r (U.i 0))) (U.list (List.getD (List.getD (mx n f) x []) 0 (U.i 0)))) y v))) (List.getD (mx n f) x []))=mx n (upd f x y v):=by
 rw [mx_list hx,mx_row hx,List.map_map];refine range_set ?_ fun a ha=>?_
 ·show [U.l _]=[U.l _];congr 2;have e:List.map ((fun r=>U.int (List.headD r (U.i 0))) ∘ fun b=>[U.i (f x b)]) (List.range n)=(List.range n).map fun b=>f x b:=List.map_congr_left fun b _=>rfl;rw [e,range_set (g':=fun b=>upd f x y v x b) (by unfold upd;rw [if_pos ⟨rfl,rfl⟩]) (fun b hb=>by unfold upd;rw [if_neg fun h=>hb h.2]),List.map_map];rfl
 ·show [U.l _]=[U.l _];congr 2;refine List.map_congr_left fun b _=>?_;unfold upd;rw [if_neg fun h=>ha h.1]
theorem mx_congr {f g:Nat→Nat→Int} (h:∀ a b,f a b=g a b):mx n f=mx n g:=by
 have:f=g:=by funext a b;exact h a b
 rw [this]
theorem lk_bound:∀ (u:List Int) (p:Nat→Nat) (a b:Nat),-(u.length:Int)≤lk u p a b∧lk u p a b≤u.length
 | [],_,_,_=>by show -((0:Nat):Int)≤0∧(0:Int)≤((0:Nat):Int);omega
 | x :: u,p,a,b=>by
  have h:=lk_bound u (fun y=>p (sw x.natAbs y)) a b;have e:lk (x :: u) p a b=(if a=p (x.natAbs - 1)∧b=p x.natAbs∨a=p x.natAbs∧b=p (x.natAbs - 1) then sgL x else 0)+lk u (fun y=>p (sw x.natAbs y)) a b:=rfl
  rw [e,List.length_cons];have s:-1≤sgL x∧sgL x≤1:=by unfold sgL;split <;> omega
  split <;> omega
theorem lnP_f:∀ {w:List Int},Vld n w→∀ (p:Pm n),(w.foldl (fun p x=>swP p x.natAbs) p).f=lnF w p.f
 | [],_,_=>rfl
 | l :: w,h,p=>by
  show (w.foldl (fun p x=>swP p x.natAbs) (swP p l.natAbs)).f=lnF w (fun y=>p.f (sw l.natAbs y));rw [lnP_f h.tail];unfold swP;rw [dif_pos h.head];rfl
theorem lk_snoc (u:List Int) (x:Int) (p:Nat→Nat) (a b:Nat):lk (u ++ [x]) p a b=lk u p a b+(if a=lnF u p (x.natAbs - 1)∧b=lnF u p x.natAbs∨a=lnF u p x.natAbs∧b=lnF u p (x.natAbs - 1) then sgL x else 0):=by
 rw [lk_app];show _+(_+0)=_;rw [Int.add_zero]
namespace PNml
noncomputable def rowsF (n:Nat) (F:List (Pm n)):List (List U):=F.map fun p=>[U.l (((pA p).take n).map fun x=>[U.i x])]
noncomputable abbrev nmlV (n:Int) (w:List Int):EV:=.tup [iv (bc (chk n w != 0) 0 (nfW n.toNat w).pw),.lst (.recs [.list [.int .i64]] (bc (chk n w != 0) [] (rowsF n.toNat (nfW n.toNat w).F))),iv (chk n w)]
end PNml
noncomputable def spPNml:ZCT:=fun ax=>match ax with
 | [.v (.int .i64 n),.lst (.ints .i64 w)]=>some ⟨decide (True),PNml.nmlV n w,[],0⟩
 | _=>none
namespace PLnk
noncomputable def ct:Tr ZCC:=(Tr.nil.put 83 (some (dC spPChk))).put 93 (some (dC spPln))
theorem ct_ok:ZCtsOk Try.prog ct:=((ZCtsOk.nil _).add rfl spPChk_ok).add rfl spPln_ok
noncomputable def RUN (s:ES):ZF:=RZs 46 ct [(atS 0 46 6,[[(0,none),(1,none),(7,none),(25,none),(26,none)]]),(atS 0 46 12,[[(7,none),(9,none),(36,none),(37,none),(38,none)]]),(atS 0 46 15,[[(7,none),(9,none),(12,none),(13,none),(36,none),(37,none),(38,none)]]),(atS 0 46 16,[[(7,none),(9,none),(12,none),(13,none),(14,none),(15,none),(36,none),(37,none),(38,none)]]),(atS 0 46 17,[[(7,none),(9,none),(12,none),(13,none),(14,none),(15,none),(36,none),(37,none),(38,none)]])] [] false s

noncomputable def sA (n:Int) (w:List Int) (m:Nat) (rows:List (List U)) (v:Nat) (z i:Int):NS:=⟨[⟨46,83,[(0,(EV.v (Value.int IntKind.i64 (n)))),(1,(EV.lst (SyC.ints IntKind.i64 (w)))),(7,EV.slO 0 1 m true),(25,iv z),(26,iv i)],[.it (.code (nav [1,1,1,0,1,0,0] (bodyOf Try.f46))),.it (.inLoop (nav [1,1,1,0,1,0,0] (bodyOf Try.f46))),.it (.inBlock 0),.it (.code (nav [1,1,1,1] (bodyOf Try.f46)))],[],Option.none⟩],[(0,EK.nest 0 (22,[3]) [.list [.int .i64]] rows v [] true)],1⟩
noncomputable def sB (w:List Int) (m:Nat) (rows:List (List U)) (v:Nat) (e:List Int) (z i:Int):NS:=⟨[⟨46,83,[(7,EV.slO 0 1 m true),(9,(EV.ptr 1 0)),(36,(EV.lst (SyC.ints IntKind.i64 (w)))),(37,iv z),(38,iv i)],[.it (.code (nav [1,1,1,1,1,0,1,0,0] (bodyOf Try.f46))),.it (.inLoop (nav [1,1,1,1,1,0,1,0,0] (bodyOf Try.f46))),.it (.inBlock 2),.it (.code (nav [1,1,1,1,1,1] (bodyOf Try.f46)))],[],Option.none⟩],[(0,EK.nest 0 (22,[3]) [.list [.int .i64]] rows v [] true),(1,EK.seq 92 (.ints .u8 e) true)],2⟩
noncomputable def sC (w:List Int) (m:Nat) (rows:List (List U)) (v:Nat) (e:List Int) (k s z i:Int):NS:=⟨[⟨46,83,[(7,EV.slO 0 1 m true),(9,(EV.ptr 1 0)),(12,iv k),(13,iv s),(36,il w),(37,iv z),(38,iv i)],[.it (.code (nav [1,1,1,1,1,0,1,0,0,1,1,0,0,1,1] (bodyOf Try.f46))),.it (.inBlock 3),.it (.code (nav [1,1,1,1,1,0,1,0,0,1,1,1] (bodyOf Try.f46))),.it (.inLoop (nav [1,1,1,1,1,0,1,0,0] (bodyOf Try.f46))),.it (.inBlock 2),.it (.code (nav [1,1,1,1,1,1] (bodyOf Try.f46)))],[],Option.none⟩],[(0,EK.nest 0 (22,[3]) [.list [.int .i64]] rows v [] true),(1,EK.seq 92 (.ints .u8 e) true)],2⟩
noncomputable def sD (w:List Int) (m:Nat) (rows:List (List U)) (v:Nat) (e:List Int) (k s x y z i:Int):NS:=⟨[⟨46,83,[(7,EV.slO 0 1 m true),(9,(EV.ptr 1 0)),(12,iv k),(13,iv s),(14,.v (.int .u8 x)),(15,.v (.int .u8 y)),(36,il w),(37,iv z),(38,iv i)],[.it (.code (nav [1,1,1,1,1,0,1,0,0,1,1,0,0,1,1,1] (bodyOf Try.f46))),.it (.inBlock 3),.it (.code (nav [1,1,1,1,1,0,1,0,0,1,1,1] (bodyOf Try.f46))),.it (.inLoop (nav [1,1,1,1,1,0,1,0,0] (bodyOf Try.f46))),.it (.inBlock 2),.it (.code (nav [1,1,1,1,1,1] (bodyOf Try.f46)))],[],Option.none⟩],[(0,EK.nest 0 (22,[3]) [.list [.int .i64]] rows v [] true),(1,EK.seq 92 (.ints .u8 e) true)],2⟩
noncomputable def sE (w:List Int) (m:Nat) (rows:List (List U)) (v:Nat) (e:List Int) (k s x y z i:Int):NS:=⟨[⟨46,83,[(7,EV.slO 0 1 m true),(9,(EV.ptr 1 0)),(12,iv k),(13,iv s),(14,.v (.int .u8 x)),(15,.v (.int .u8 y)),(36,il w),(37,iv z),(38,iv i)],[.it (.code (nav [1,1,1,1,1,0,1,0,0,1,1,0,0,1,1,1,1] (bodyOf Try.f46))),.it (.inBlock 3),.it (.code (nav [1,1,1,1,1,0,1,0,0,1,1,1] (bodyOf Try.f46))),.it (.inLoop (nav [1,1,1,1,1,0,1,0,0] (bodyOf Try.f46))),.it (.inBlock 2),.it (.code (nav [1,1,1,1,1,1] (bodyOf Try.f46)))],[],Option.none⟩],[(0,EK.nest 0 (22,[3]) [.list [.int .i64]] rows v [] true),(1,EK.seq 92 (.ints .u8 e) true)],2⟩
theorem in_t (n:Int) (w:List Int):RUN (st0 46 [iv n,il w])=(bc (chk n w != (0:Int)) (.done (EV.tup [(EV.v (Value.slice Option.none 0 0)),(EV.v (Value.int IntKind.i64 (chk n w)))]) [] 0) (bc (bc (decide ((0:Int)≤n)) (bc (decide (n=n)) (decide (n≤(65536:Int))) false) false) (.at (sA (n) (w) (Int.toNat n) (List.replicate (Int.toNat n) (List.map zeroU [Sh.list [Sh.int IntKind.i64]])) ((0:Nat)) (Int.ofNat (Int.toNat n)) ((0:Int)))) .bad)):=by kernel_rfl
theorem a_t (n:Int) (w:List Int) (m:Nat) (rows:List (List U)) (v:Nat) (z i:Int):RUN (stOf (sA n w m rows v z i))=(bc (decide (i < z)) (bc (bc (decide ((0:Int)≤n)) (bc (decide (n≤n)) (decide (n≤(65536:Int))) false) false) (bc (bc (bc (decide ((0:Int)≤i)) (Nat.blt (Int.toNat i) m) false) true false) (bc (bc (Nat.blt (Int.toNat i) (List.length rows)) (bc (Nat.beq (List.length (zerosL (Int.toNat n))) (List.length (zerosL (Int.toNat n)))) (unHoleC (Int.toNat i) (0:Nat) []) false) false) (.at (sA (n) (w) (m) (List.set rows (Int.toNat i) (rset (0:Nat) (U.l (List.map (fun x=>[U.i x]) (zerosL (Int.toNat n)))) (List.getD rows (Int.toNat i) []))) (v+(1:Nat)) (z) (IntKind.wrap IntKind.i64 (i+(1:Int))))) .bad) .bad) .bad) (.at (sB (w) (m) (rows) (v) (e12) (Int.ofNat (List.length w)) ((0:Int))))):=by kernel_rfl
theorem b_t (w:List Int) (m:Nat) (rows:List (List U)) (v:Nat) (e:List Int) (z i:Int):RUN (stOf (sB w m rows v e z i))=(bc (decide (i < z)) (bc (bc (bc (decide ((0:Int)≤i)) (Nat.blt (Int.toNat i) (List.length w)) false) true false) (bc (bc (Nat.blt (Int.toNat i) (List.length w)) true false) (bc (decide (List.getD w (Int.toNat i) (0:Int) < (0:Int))) (.at (sC (w) (m) (rows) (v) (e) (IntKind.wrap IntKind.i64 ((0:Int) - List.getD w (Int.toNat i) (0:Int))) ((-1:Int)) (z) (i))) (.at (sC (w) (m) (rows) (v) (e) (List.getD w (Int.toNat i) (0:Int)) ((1:Int)) (z) (i)))) .bad) .bad) (bc (bc (Nat.beq m (List.length rows)) true false) (.done (EV.tup [(EV.lst (SyC.recs [(Sh.list [(Sh.int IntKind.i64)])] (rows))),(EV.v (Value.int IntKind.i64 (0)))]) [] 0) .bad)):=by kernel_rfl
theorem c_t (w:List Int) (m:Nat) (rows:List (List U)) (v:Nat) (e:List Int) (k s z i:Int):RUN (stOf (sC w m rows v e k s z i))=(bc (bc (bc (bc (bc (decide ((0:Int)≤IntKind.wrap IntKind.i64 (k - (1:Int)))) (Nat.blt (Int.toNat (IntKind.wrap IntKind.i64 (k - (1:Int)))) (12:Nat)) false) true false) (bc (bc (Nat.blt (Int.toNat (IntKind.wrap IntKind.i64 (k - (1:Int)))) (List.length e)) true false) (bc (bc (bc (decide ((0:Int)≤k)) (Nat.blt (Int.toNat k) (12:Nat)) false) true false) (bc (bc (Nat.blt (Int.toNat k) (List.length e)) true false) true false) false) false) false) true false) (.at (sD (w) (m) (rows) (v) (e) (k) (s) (List.getD e (Int.toNat (IntKind.wrap IntKind.i64 (k - (1:Int)))) (0:Int)) (List.getD e (Int.toNat k) (0:Int)) (z) (i))) .bad):=by kernel_rfl
theorem d_t (w:List Int) (m:Nat) (rows:List (List U)) (v:Nat) (e:List Int) (k s x y z i:Int):RUN (stOf (sD w m rows v e k s x y z i))=(bc (bc (bc (decide ((0:Int)≤x)) (Nat.blt (Int.toNat x) m) false) true false) (bc (bc (bc (Nat.blt (Int.toNat x) (List.length rows)) true false) true false) (bc (bc (bc (decide ((0:Int)≤y)) (Nat.blt (Int.toNat y) (List.length (U.list (List.getD (List.getD rows (Int.toNat x) []) (0:Nat) (U.i (0:Int)))))) false) true false) (bc (bc (bc (Nat.beq v v) (bc (Nat.blt (Int.toNat x) (List.length rows)) (Nat.blt (Int.toNat y) (List.length (U.list (List.getD (List.getD rows (Int.toNat x) []) (0:Nat) (U.i (0:Int)))))) false) false) true false) (bc (bc (bc (decide ((0:Int)≤y)) (Nat.blt (Int.toNat y) (List.length (U.list (List.getD (List.getD rows (Int.toNat x) []) (0:Nat) (U.i (0:Int)))))) false) true false) (bc (bc (Nat.beq v v) (bc (Nat.blt (Int.toNat x) (List.length rows)) (Nat.blt (Int.toNat y) (List.length (U.list (List.getD (List.getD rows (Int.toNat x) []) (0:Nat) (U.i (0:Int)))))) false) false) (.at (sE (w) (m) (List.set rows (Int.toNat x) (rset (0:Nat) (U.l (List.map (fun x=>[U.i x]) (List.set (List.map (fun r=>U.int (List.headD r (U.i (0:Int)))) (U.list (List.getD (List.getD rows (Int.toNat x) []) (0:Nat) (U.i (0:Int))))) (Int.toNat y) (IntKind.wrap IntKind.i64 (U.int (List.getD (List.getD (U.list (List.getD (List.getD rows (Int.toNat x) []) (0:Nat) (U.i (0:Int)))) (Int.toNat y) []) (0:Nat) (U.i (0:Int)))+s))))) (List.getD rows (Int.toNat x) []))) (v) (e) (k) (s) (x) (y) (z) (i))) .bad) .bad) .bad) .bad) .bad) .bad):=by kernel_rfl
theorem e_t (w:List Int) (m:Nat) (rows:List (List U)) (v:Nat) (e:List Int) (k s x y z i:Int):RUN (stOf (sE w m rows v e k s x y z i))=(bc (bc (bc (decide ((0:Int)≤y)) (Nat.blt (Int.toNat y) m) false) true false) (bc (bc (bc (Nat.blt (Int.toNat y) (List.length rows)) true false) true false) (bc (bc (bc (decide ((0:Int)≤x)) (Nat.blt (Int.toNat x) (List.length (U.list (List.getD (List.getD rows (Int.toNat y) []) (0:Nat) (U.i (0:Int)))))) false) true false) (bc (bc (bc (Nat.beq v v) (bc (Nat.blt (Int.toNat y) (List.length rows)) (Nat.blt (Int.toNat x) (List.length (U.list (List.getD (List.getD rows (Int.toNat y) []) (0:Nat) (U.i (0:Int)))))) false) false) true false) (bc (bc (bc (decide ((0:Int)≤x)) (Nat.blt (Int.toNat x) (List.length (U.list (List.getD (List.getD rows (Int.toNat y) []) (0:Nat) (U.i (0:Int)))))) false) true false) (bc (bc (Nat.beq v v) (bc (Nat.blt (Int.toNat y) (List.length rows)) (Nat.blt (Int.toNat x) (List.length (U.list (List.getD (List.getD rows (Int.toNat y) []) (0:Nat) (U.i (0:Int)))))) false) false) (bc (bc (bc (decide ((0:Int)≤IntKind.wrap IntKind.i64 (k - (1:Int)))) (Nat.blt (Int.toNat (IntKind.wrap IntKind.i64 (k - (1:Int)))) (12:Nat)) false) true false) (bc (Nat.blt (Int.toNat (IntKind.wrap IntKind.i64 (k - (1:Int)))) (List.length e)) (bc (bc (bc (decide ((0:Int)≤k)) (Nat.blt (Int.toNat k) (12:Nat)) false) true false) (bc (Nat.blt (Int.toNat k) (List.length (List.set e (Int.toNat (IntKind.wrap IntKind.i64 (k - (1:Int)))) y))) (.at (sB (w) (m) (List.set rows (Int.toNat y) (rset (0:Nat) (U.l (List.map (fun x=>[U.i x]) (List.set (List.map (fun r=>U.int (List.headD r (U.i (0:Int)))) (U.list (List.getD (List.getD rows (Int.toNat y) []) (0:Nat) (U.i (0:Int))))) (Int.toNat x) (IntKind.wrap IntKind.i64 (U.int (List.getD (List.getD (U.list (List.getD (List.getD rows (Int.toNat y) []) (0:Nat) (U.i (0:Int)))) (Int.toNat x) []) (0:Nat) (U.i (0:Int)))+s))))) (List.getD rows (Int.toNat y) []))) (v) (List.set (List.set e (Int.toNat (IntKind.wrap IntKind.i64 (k - (1:Int)))) y) (Int.toNat k) x) (z) (IntKind.wrap IntKind.i64 (i+(1:Int))))) .bad) .bad) .bad) .bad) .bad) .bad) .bad) .bad) .bad) .bad):=by kernel_rfl
theorem stepA {w:List Int} {rows:List (List U)} {v i:Nat} (hi:i < n) (hn:n≤12) (hr:rows.length=n):RUN (stOf (sA n w n rows v n i)) = .at (sA n w n (rows.set i (rset 0 (U.l (List.map (fun x=>[U.i x]) (zerosL n))) (rows.getD i []))) (v+1) n (i+1:Nat)):=by
 have e0:Int.toNat (n:Int)=n:=rfl;have e1:Int.toNat (i:Int)=i:=rfl;have e2:unHoleC i 0 []=true:=rfl;rw [a_t,e0,e1,e2];simp (disch:=omega) only [Nat.add_eq,eqSy_self,eqN_self,bc_same,List.length_cons,ofn,wrap_in,dt,df,bltD,bltN,ble_of,bleN,beqD,bc_t,bc_f,nn_ok,Nat.zero_add,to_nat,Int.zero_add,Int.sub_zero,Int.sub_self,Int.cast_ofNat_Int,Int.natCast_zero,Int.toNat_zero,List.take_zero,List.nil_append,List.length_append,List.length_nil];rfl
theorem loopA {w:List Int} (hn:n≤12) {z:EV}:∀ (k i v:Nat),i+k=n→(∀ v,EndZ 46 ct false (stOf (sB w n (mx n fun _ _=>0) v e12 w.length 0)) z [] 0)→EndZ 46 ct false (stOf (sA n w n (List.replicate i [U.l (List.map (fun x=>[U.i x]) (zerosL n))] ++ List.replicate k [U.l []]) v n i)) z [] 0
 | 0,i,v,h,hz=>by
  obtain rfl:i=n:=by omega
  have e:List.replicate i [U.l (List.map (fun x=>[U.i x]) (zerosL i))] ++ List.replicate 0 [U.l []]=mx i fun _ _=>0:=by
   rw [List.replicate_zero,List.append_nil];unfold mx;show _=List.map (fun _=>[U.l (List.map (fun _=>[U.i 0]) (List.range i))]) (List.range i);rw [List.map_const',List.map_const',List.length_range];unfold zerosL;rw [List.map_replicate]
  rw [e];have h1:=a_t i w i (mx i fun _ _=>0) v i i;rw [df (show ¬ (i:Int) < (i:Int) by omega),bc_f] at h1;exact .at ct_ok h1 (hz v)
 | k+1,i,v,h,hz=>by
  have h1:=stepA (w:=w) (rows:=List.replicate i [U.l (List.map (fun x=>[U.i x]) (zerosL n))] ++ List.replicate (k+1) [U.l []]) (v:=v) (i:=i) (by omega) hn (by rw [List.length_append,List.length_replicate,List.length_replicate];omega)
  have e:(List.replicate i [U.l (List.map (fun x=>[U.i x]) (zerosL n))] ++ List.replicate (k+1) [U.l []]).set i (rset 0 (U.l (List.map (fun x=>[U.i x]) (zerosL n))) ((List.replicate i [U.l (List.map (fun x=>[U.i x]) (zerosL n))] ++ List.replicate (k+1) [U.l []]).getD i []))=List.replicate (i+1) [U.l (List.map (fun x=>[U.i x]) (zerosL n))] ++ List.replicate k [U.l []]:=by
   have g:(List.replicate i [U.l (List.map (fun x=>[U.i x]) (zerosL n))] ++ List.replicate (k+1) [U.l []]).getD i []=[U.l []]:=by
    rw [List.getD_eq_getElem?_getD,List.getElem?_append_right (by rw [List.length_replicate];exact Nat.le_refl _),List.length_replicate,Nat.sub_self];rfl
   rw [g,List.set_append_right _ _ (by rw [List.length_replicate];exact Nat.le_refl _),List.length_replicate,Nat.sub_self,List.replicate_succ' (n:=i),List.append_assoc];rfl
  rw [e] at h1;exact .at ct_ok h1 (loopA hn k (i+1) (v+1) (by omega) hz)
theorem stepD {w:List Int} {f:Nat→Nat→Int} {v:Nat} {e:List Int} {k s z i:Int} {x y:Nat} (hn:n≤12) (hx:x < n) (hy:y < n) (hs:-1≤s∧s≤1) (hf:-3000≤f x y∧f x y≤3000):RUN (stOf (sD w n (mx n f) v e k s x y z i)) = .at (sE w n (mx n (upd f x y (f x y+s))) v e k s x y z i):=by
 have e0:Int.toNat (x:Int)=x:=rfl;have e1:Int.toNat (y:Int)=y:=rfl;have l1:(U.list (((mx n f).getD x []).getD 0 (U.i 0))).length=n:=by rw [mx_list hx,List.length_map,List.length_range]
 have l2:=mx_len n f;rw [d_t,e0,e1,mx_get hx hy,wrap_in (f x y+s) (by omega) (by omega),mx_set _ hx,l1,l2];simp (disch:=omega) only [Nat.add_eq,eqSy_self,eqN_self,bc_same,List.length_cons,ofn,wrap_in,dt,df,bltD,bltN,ble_of,bleN,beqD,bc_t,bc_f,nn_ok,Nat.zero_add,to_nat,Int.zero_add,Int.sub_zero,Int.sub_self,Int.cast_ofNat_Int,Int.natCast_zero,Int.toNat_zero,List.take_zero,List.nil_append,List.length_append,List.length_nil]
theorem stepE {w:List Int} {f:Nat→Nat→Int} {v:Nat} {e:List Int} {s z i:Int} {x y j:Nat} (hn:n≤12) (hx:x < n) (hy:y < n) (hs:-1≤s∧s≤1) (hf:-3000≤f y x∧f y x≤3000) (hj:j+1 < n) (he:e.length=12) (hi:0≤i∧i≤3000):RUN (stOf (sE w n (mx n f) v e (j+1:Nat) s x y z i)) = .at (sB w n (mx n (upd f y x (f y x+s))) v ((e.set j y).set (j+1) x) z (i+1)):=by
 have e0:Int.toNat (x:Int)=x:=rfl;have e1:Int.toNat (y:Int)=y:=rfl;have e2:Int.toNat (j:Int)=j:=rfl;have e3:Int.toNat ((j+1:Nat):Int)=j+1:=rfl;have l1:(U.list (((mx n f).getD y []).getD 0 (U.i 0))).length=n:=by rw [mx_list hy,List.length_map,List.length_range]
 have l2:=mx_len n f;have l3:(e.set j (y:Int)).length=12:=by rw [List.length_set,he]
 have w1:IntKind.i64.wrap (((j+1:Nat):Int) - 1)=(j:Int):=by rw [wrap_in _ (by omega) (by omega)];omega
 rw [e_t,e0,e1,mx_get hy hx,wrap_in (f y x+s) (by omega) (by omega),mx_set _ hy,l1,l2,w1,e2,e3,l3,he];simp (disch:=omega) only [Nat.add_eq,eqSy_self,eqN_self,bc_same,List.length_cons,ofn,wrap_in,dt,df,bltD,bltN,ble_of,bleN,beqD,bc_t,bc_f,nn_ok,Nat.zero_add,to_nat,Int.zero_add,Int.sub_zero,Int.sub_self,Int.cast_ofNat_Int,Int.natCast_zero,Int.toNat_zero,List.take_zero,List.nil_append,List.length_append,List.length_nil]
theorem stepC {w:List Int} {rows:List (List U)} {v:Nat} {s z i:Int} {j:Nat} {p:Pm n} (hn:n≤12) (hj:j+1 < n):RUN (stOf (sC w n rows v (pA p) (j+1:Nat) s z i)) = .at (sD w n rows v (pA p) (j+1:Nat) s (p.f j:Nat) (p.f (j+1):Nat) z i):=by
 have e2:Int.toNat (j:Int)=j:=rfl;have e3:Int.toNat ((j+1:Nat):Int)=j+1:=rfl;have w1:IntKind.i64.wrap (((j+1:Nat):Int) - 1)=(j:Int):=by rw [wrap_in _ (by omega) (by omega)];omega
 rw [c_t,w1,e2,e3,pA_get p (show j < 12 by omega),pA_get p (show j+1 < 12 by omega),pA_len];simp (disch:=omega) only [Nat.add_eq,eqSy_self,eqN_self,bc_same,List.length_cons,ofn,wrap_in,dt,df,bltD,bltN,ble_of,bleN,beqD,bc_t,bc_f,nn_ok,Nat.zero_add,to_nat,Int.zero_add,Int.sub_zero,Int.sub_self,Int.cast_ofNat_Int,Int.natCast_zero,Int.toNat_zero,List.take_zero,List.nil_append,List.length_append,List.length_nil]

noncomputable abbrev lkN (w:List Int):Nat→Nat→Int:=lk w id
theorem stepB {w:List Int} {v i:Nat} {x:Int} (hi:i < w.length) (hn:n≤12) (hw:w.length≤2000) (hx:w.getD i 0=x) (hk:0 < x.natAbs∧x.natAbs < n) (hv:Vld n w) {z:EV} (hz:EndZ 46 ct false (stOf (sB w n (mx n (lkN (w.take (i+1)))) v (pA (lnP n (w.take (i+1)))) w.length (i+1:Nat))) z [] 0):EndZ 46 ct false (stOf (sB w n (mx n (lkN (w.take i))) v (pA (lnP n (w.take i))) w.length i)) z [] 0:=by
 have e0:(Int.toNat (i:Int))=i:=rfl;have hb:=b_t w n (mx n (lkN (w.take i))) v (pA (lnP n (w.take i))) w.length i;rw [dt (show (i:Int) < (w.length:Int) by omega),bc_t,e0,hx] at hb;obtain ⟨j,hj⟩:∃ j,x.natAbs=j+1:=⟨x.natAbs - 1,by omega⟩;have hs:-1≤sgL x∧sgL x≤1:=by unfold sgL;split <;> omega
 have h1:RUN (stOf (sB w n (mx n (lkN (w.take i))) v (pA (lnP n (w.take i))) w.length i)) = .at (sC w n (mx n (lkN (w.take i))) v (pA (lnP n (w.take i))) (j+1:Nat) (sgL x) w.length i):=by
  rw [hb];unfold sgL
  by_cases c:x < 0
  ·rw [if_pos c,dt c,wrap_in (0 - x) (by omega) (by omega),show (0 - x)=((j+1:Nat):Int) by omega];simp (disch:=omega) only [Nat.add_eq,eqSy_self,eqN_self,bc_same,List.length_cons,ofn,wrap_in,dt,df,bltD,bltN,ble_of,bleN,beqD,bc_t,bc_f,nn_ok,Nat.zero_add,to_nat,Int.zero_add,Int.sub_zero,Int.sub_self,Int.cast_ofNat_Int,Int.natCast_zero,Int.toNat_zero,List.take_zero,List.nil_append,List.length_append,List.length_nil]
  ·rw [if_neg c,df c,show x=((j+1:Nat):Int) by omega];simp (disch:=omega) only [Nat.add_eq,eqSy_self,eqN_self,bc_same,List.length_cons,ofn,wrap_in,dt,df,bltD,bltN,ble_of,bleN,beqD,bc_t,bc_f,nn_ok,Nat.zero_add,to_nat,Int.zero_add,Int.sub_zero,Int.sub_self,Int.cast_ofNat_Int,Int.natCast_zero,Int.toNat_zero,List.take_zero,List.nil_append,List.length_append,List.length_nil]
 have hvt:Vld n (w.take i):=hv.sub fun y hy=>List.mem_of_mem_take hy;have hf:(lnP n (w.take i)).f=lnF (w.take i) id:=lnP_f hvt (Pm.one n);have hlt:(w.take i).length≤2000:=by rw [List.length_take];omega
 have hlk:∀ a b,-3000≤lkN (w.take i) a b∧lkN (w.take i) a b≤3000:=fun a b=>by
  have:=lk_bound (w.take i) id a b;show -3000≤lk (w.take i) id a b∧lk (w.take i) id a b≤3000;omega
 generalize hp:lnP n (w.take i)=p at *;generalize hg:lkN (w.take i)=f at *;have x1:=p.lt (show j < n by omega);have x2:=p.lt (show j+1 < n by omega);have hne:p.f j≠p.f (j+1):=fun e=>by have:=p.inj e;omega
 have h2:=stepC (w:=w) (rows:=mx n f) (v:=v) (s:=sgL x) (z:=w.length) (i:=i) (p:=p) hn (show j+1 < n by omega);have h3:=stepD (w:=w) (f:=f) (v:=v) (e:=pA p) (k:=(j+1:Nat)) (s:=sgL x) (z:=w.length) (i:=i) hn x1 x2 hs (hlk _ _);have hyx:upd f (p.f j) (p.f (j+1)) (f (p.f j) (p.f (j+1))+sgL x) (p.f (j+1)) (p.f j)=f (p.f (j+1)) (p.f j):=by
  unfold upd;rw [if_neg fun h=>hne h.2]
 have h4:=stepE (w:=w) (f:=upd f (p.f j) (p.f (j+1)) (f (p.f j) (p.f (j+1))+sgL x)) (v:=v) (e:=pA p) (s:=sgL x) (z:=w.length) (i:=i) (j:=j) hn x1 x2 hs (by rw [hyx];exact hlk _ _) (by omega) (pA_len p) (by omega);rw [hyx] at h4;have g0:((pA p).set j (p.f (j+1):Int)).set (j+1) (p.f j:Int)=pA (lnP n (w.take (i+1))):=by
  rw [List.take_succ_eq_append_getElem hi,lnP_app,← getD_at hi,hx,hp];unfold swP;rw [dif_pos hk,← pA_L p hk hn];simp only [hj,Nat.add_sub_cancel]
 have g1:mx n (upd (upd f (p.f j) (p.f (j+1)) (f (p.f j) (p.f (j+1))+sgL x)) (p.f (j+1)) (p.f j) (f (p.f (j+1)) (p.f j)+sgL x))=mx n (lkN (w.take (i+1))):=by
  refine mx_congr fun a b=>?_;show _=lk (w.take (i+1)) id a b;rw [List.take_succ_eq_append_getElem hi,lk_snoc,← getD_at hi,hx,← hf,hj,Nat.add_sub_cancel];have:lk (w.take i) id a b=f a b:=by rw [← hg]
  rw [this];unfold upd
  by_cases c1:a=p.f (j+1)∧b=p.f j
  ·obtain ⟨rfl,rfl⟩:=c1;rw [if_pos ⟨rfl,rfl⟩,if_pos (.inr ⟨rfl,rfl⟩)]
  ·rw [if_neg c1]
   by_cases c2:a=p.f j∧b=p.f (j+1)
   ·obtain ⟨rfl,rfl⟩:=c2;rw [if_pos ⟨rfl,rfl⟩,if_pos (.inl ⟨rfl,rfl⟩)]
   ·rw [if_neg c2,if_neg fun h=>h.elim c2 c1,Int.add_zero]
 rw [g0,g1] at h4;exact .at ct_ok h1 (.at ct_ok h2 (.at ct_ok h3 (.at ct_ok h4 hz)))
theorem last {w:List Int} {f:Nat→Nat→Int} {v:Nat} {e:List Int}:RUN (stOf (sB w n (mx n f) v e w.length w.length)) = .done (.tup [.lst (.recs [.list [.int .i64]] (mx n f)),iv 0]) [] 0:=by
 rw [b_t,df (show ¬ (w.length:Int) < (w.length:Int) by omega),bc_f,mx_len];simp (disch:=omega) only [Nat.add_eq,eqSy_self,eqN_self,bc_same,List.length_cons,ofn,wrap_in,dt,df,bltD,bltN,ble_of,bleN,beqD,bc_t,bc_f,nn_ok,Nat.zero_add,to_nat,Int.zero_add,Int.sub_zero,Int.sub_self,Int.cast_ofNat_Int,Int.natCast_zero,Int.toNat_zero,List.take_zero,List.nil_append,List.length_append,List.length_nil]
theorem loopB {w:List Int} (hn:n≤12) (hw:w.length≤2000) (hv:Vld n w) (v:Nat):∀ (k i:Nat),i+k=w.length→EndZ 46 ct false (stOf (sB w n (mx n (lkN (w.take i))) v (pA (lnP n (w.take i))) w.length i)) (.tup [.lst (.recs [.list [.int .i64]] (mx n (lkN w))),iv 0]) [] 0
 | 0,i,h=>by
  obtain rfl:i=w.length:=by omega
  rw [List.take_length];exact .done last
 | k+1,i,h=>by
  have hi:i < w.length:=by omega
  have hk:0 < (w.getD i 0).natAbs∧(w.getD i 0).natAbs < n:=(show Vld n [w.getD i 0] from fun x hx=>by
   rw [List.mem_singleton.1 hx,getD_at hi];exact hv _ (List.getElem_mem _)).head
  exact stepB hi hn hw rfl hk hv (loopB hn hw hv v k (i+1) (by omega))

noncomputable abbrev lnkV (n:Int) (w:List Int):EV:=.tup [.lst (.recs [.list [.int .i64]] (bc (chk n w != 0) [] (mx n.toNat (lkN w)))),iv (chk n w)]
theorem ends (n:Int) (w:List Int):EndZ 46 ct false (st0 46 [iv n,il w]) (lnkV n w) [] 0:=by
 have h:=in_t n w
 by_cases z:chk n w=0
 ·obtain ⟨⟨w1,w2,w3,w4⟩,_⟩:=chk_wok z;unfold lnkV;rw [z,show ((0:Int) != 0)=false from rfl,bc_f]
  obtain ⟨n,rfl⟩:=Int.eq_ofNat_of_zero_le (show 0≤n by omega);have e0:Int.toNat (n:Int)=n:=rfl;rw [z,show ((0:Int) != 0)=false from rfl,bc_f,e0,dt (show (0:Int)≤n by omega),dt (show (n:Int)=n from rfl),dt (show (n:Int)≤65536 by omega),bc_t,bc_t,bc_t] at h
  refine .at ct_ok h (loopA (by omega) n 0 0 (by omega) fun v=>?_);have:=loopB (n:=n) (w:=w) (by omega) w3 w4 v w.length 0 (by omega);rw [List.take_zero,show lnP n []=Pm.one n from rfl,← e12_one n] at this
  exact this
 ·unfold lnkV;rw [show (chk n w != 0)=true by simp [z],bc_t] at h ⊢;exact (EndZ.done h).weak (Weak.tup (.cons (Weak.nil _) (.cons (Weak.refl _) .nil)))
end PLnk
noncomputable def spPLnk:ZCT:=fun ax=>match ax with
 | [.v (.int .i64 n),.lst (.ints .i64 w)]=>some ⟨decide (True),PLnk.lnkV n w,[],0⟩
 | _=>none
theorem spPLnk_ok:ZCtOk Try.prog 46 spPLnk:=fun γ w us ax r hs hc hax hN hfz=>by
 unfold spPLnk at hs;split at hs
 case h_2=>cases hs
 rename_i n w;obtain ⟨rfl⟩:=Option.some.inj hs;have hc_0:decide (True)=true:=hc;have hc:=of_decide_eq_true hc_0;exact EndZ.calls (PLnk.ends n w) PLnk.ct_ok (by kernel_rfl) hax hN hfz
end Go.Proofs.Ytooimphimnagaaa.Ev
namespace Go.Proofs.Ytooimphimnagaaa.Ev
variable {n:Nat}

noncomputable def pR (p:Pm n):List Int:=(List.range n).map fun x=>((p.f x:Nat):Int)
theorem pR_len (p:Pm n):(pR p).length=n:=by unfold pR;rw [List.length_map,List.length_range]
theorem pR_get (p:Pm n) {x:Nat} (hx:x < n):(pR p).getD x 0=(p.f x:Int):=by
 unfold pR;rw [List.getD_eq_getElem?_getD,List.getElem?_map,List.getElem?_range hx];rfl
theorem pR_ext {p:Pm n} {l:List Int} (hl:l.length=n) (h:∀ x,x < n→l.getD x 0=(p.f x:Int)):l=pR p:=by
 apply List.ext_getElem (by rw [hl,pR_len]);intro x h1 h2;have h3:=h x (by omega);rw [← pR_get p (by omega),getD_at h1,getD_at h2] at h3;exact h3
noncomputable instance pmDec (p q:Pm n):Decidable (p=q):=Classical.propDecidable _
theorem pR_L (p:Pm n) {i:Nat} (hi:0 < i∧i < n):((pR p).set (i - 1) (p.f i:Int)).set i (p.f (i - 1):Int)=pR (p.L i hi):=pR_ext (by rw [List.length_set,List.length_set,pR_len]) fun x hx=>by
 show _=((p.f (sw i x):Nat):Int);rw [gset2,gset2,List.length_set,pR_len]
 by_cases h1:x=i
 ·rw [if_pos ⟨h1,by omega⟩,h1,Pm.sw_at]
 ·rw [if_neg (fun h=>h1 h.1)]
  by_cases h2:x=i - 1
  ·rw [if_pos ⟨h2,by omega⟩,h2,Pm.sw_pre hi.1]
  ·rw [if_neg (fun h=>h2 h.1),pR_get p hx,Pm.sw_ne h1 (by omega)]

noncomputable def endS (e:List Int):Nat→List Int
 | 0=>zerosL e.length
 | i+1=>(endS e i).set (e.getD i 0).toNat (i:Int)
theorem endS_len (e:List Int):∀ i,(endS e i).length=e.length
 | 0=>by unfold endS zerosL;simp
 | i+1=>by unfold endS;rw [List.length_set,endS_len e i]
theorem endS_get (p:Pm n):∀ (i:Nat),i≤n→∀ x,x < n→p.g x < i→(endS (pR p) i).getD x 0=(p.g x:Int)
 | 0,_,x,_,h=>by omega
 | i+1,hi,x,hx,h=>by
  unfold endS;rw [gset2,endS_len,pR_get p (by omega),Int.toNat_natCast,pR_len]
  by_cases e:x=p.f i
  ·subst e;rw [if_pos ⟨rfl,hx⟩,p.gf]
  ·rw [if_neg (fun h=>e h.1)];refine endS_get p i (by omega) x hx ?_;have:p.g x≠i:=fun e2=>e (by rw [← e2,p.fg]);omega
theorem endS_pR (p:Pm n):endS (pR p) n=pR p.inv:=pR_ext (by rw [endS_len,pR_len]) fun x hx=>by
 rw [endS_get p n (Nat.le_refl _) x hx (p.ltg hx)];rfl

noncomputable def facR (r:List U):List Int:=List.map (fun r=>U.int (List.headD r (U.i 0))) (U.list (List.getD r 0 (U.i 0)))
def Shrt (A:List (List U)):Prop:=A.length≤5000∧∀ r,r ∈ A→(facR r).length≤100000
noncomputable instance (A:List (List U)):Decidable (Shrt A):=Classical.propDecidable _
end Go.Proofs.Ytooimphimnagaaa.Ev
namespace Go.Proofs.Ytooimphimnagaaa.Ev
open Go.Proofs
namespace RLin
end RLin
namespace RAft
end RAft
namespace RFin
end RFin
namespace RTrn
end RTrn
namespace RFlt
end RFlt
end Go.Proofs.Ytooimphimnagaaa.Ev
namespace Go.Proofs.Ytooimphimnagaaa.Ev
open Go.Proofs
variable {n:Nat}
namespace RLin
noncomputable def rng (i:Nat):List Int:=(List.range i).map fun x=>((x:Nat):Int)
theorem rng_len (i:Nat):(rng i).length=i:=by unfold rng;rw [List.length_map,List.length_range]
theorem rng_succ (i:Nat):rng i ++ [(i:Int)]=rng (i+1):=by unfold rng;rw [List.range_succ,List.map_append];rfl
end RLin
namespace RAft
end RAft
namespace RFin
end RFin
namespace RTrn
end RTrn
namespace RFlt
end RFlt
end Go.Proofs.Ytooimphimnagaaa.Ev
namespace Go.Proofs.Ytooimphimnagaaa.Ev
open Go.Proofs
namespace RWo
end RWo
namespace RSli
end RSli
end Go.Proofs.Ytooimphimnagaaa.Ev
namespace Go.Proofs.Ytooimphimnagaaa.Ev
open Go.Proofs
variable {n:Nat}
namespace RWo
end RWo
namespace RSli
end RSli
end Go.Proofs.Ytooimphimnagaaa.Ev
namespace Go.Proofs.Ytooimphimnagaaa.Ev
open Go.Proofs
namespace RNrm
end RNrm
end Go.Proofs.Ytooimphimnagaaa.Ev
namespace Go.Proofs.Ytooimphimnagaaa.Ev
open Go.Proofs
variable {n:Nat}
namespace RNrm
end RNrm
end Go.Proofs.Ytooimphimnagaaa.Ev
namespace Go.Proofs.Ytooimphimnagaaa.Ev
open Go.Proofs
theorem eqLI_head (x y:Int) (a b:List Int):eqLI (x :: a) (y :: b)=bc (x != y) false (eqLI a b):=by
 by_cases h:x=y
 ·have e:(x != y)=false:=by simp [h]
  rw [e,bc_f]
  cases hq:eqLI a b with
  | true=>rw [h,eqLI_iff.1 hq,eqLI_iff.2 rfl]
  | false=>
   cases hx:eqLI (x :: a) (y :: b) with
   | false=>rfl
   | true=>
    have:=List.cons.inj (eqLI_iff.1 hx);rw [eqLI_iff.2 this.2] at hq;cases hq
 ·have e:(x != y)=true:=by simp [h]
  rw [e,bc_t]
  cases hx:eqLI (x :: a) (y :: b) with
  | false=>rfl
  | true=>exact absurd (List.cons.inj (eqLI_iff.1 hx)).1 h
theorem eqLI_len {a b:List Int} (h:a.length≠b.length):eqLI a b=false:=by
 cases hx:eqLI a b with
 | false=>rfl
 | true=>exact absurd (congrArg List.length (eqLI_iff.1 hx)) h
namespace RSin
noncomputable def RUN (s:ES):ZF:=RZ 47 .nil (atS 0 47 4) [] [[(0,none),(1,none),(5,none)]] false s

noncomputable def sS (a b:List Int) (i:Int):NS:=⟨[⟨47,26,[(0,(EV.lst (SyC.ints IntKind.i64 (a)))),(1,(EV.lst (SyC.ints IntKind.i64 (b)))),(5,iv i)],[.it (.code (nav [1,1,0,1,0,0,0] (bodyOf Try.f47))),.it (.code (nav [1,1,0,1,0,0,1] (bodyOf Try.f47))),.it (.inLoop (nav [1,1,0,1,0,0] (bodyOf Try.f47))),.it (.inBlock 0),.it (.code (nav [1,1,1] (bodyOf Try.f47)))],[],Option.none⟩],[],0⟩
theorem in_t (a b:List Int):RUN (st0 47 [il a,il b])=(bc (Int.ofNat (List.length a) != Int.ofNat (List.length b)) (.done (EV.v (Value.bool false)) [] 0) (.at (sS (a) (b) ((0:Int))))):=by kernel_rfl
theorem step_t (a b:List Int) (i:Int):RUN (stOf (sS a b i))=(bc (decide (i < Int.ofNat (List.length a))) (bc (bc (bc (bc (bc (decide ((0:Int)≤i)) (Nat.blt (Int.toNat i) (List.length a)) false) true false) (bc (bc (Nat.blt (Int.toNat i) (List.length a)) true false) (bc (bc (bc (decide ((0:Int)≤i)) (Nat.blt (Int.toNat i) (List.length b)) false) true false) (bc (bc (Nat.blt (Int.toNat i) (List.length b)) true false) true false) false) false) false) true false) (bc (List.getD a (Int.toNat i) (0:Int) != List.getD b (Int.toNat i) (0:Int)) (.done (EV.v (Value.bool false)) [] 0) (.at (sS (a) (b) (IntKind.wrap IntKind.i64 (i+(1:Int)))))) .bad) (.done (EV.v (Value.bool true)) [] 0)):=by kernel_rfl
theorem loop {a b:List Int} (hl:a.length=b.length) (hz:a.length≤100000):∀ (k i:Nat),i+k=a.length→EndZ 47 .nil false (stOf (sS a b i)) (bv (eqLI (a.drop i) (b.drop i))) [] 0
 | 0,i,h=>by
  have hs:=step_t a b i;rw [List.drop_eq_nil_of_le (by omega),List.drop_eq_nil_of_le (by omega),eqLI_iff.2 rfl];simp (disch:=omega) only [Nat.add_eq,eqSy_self,eqN_self,bc_same,List.length_cons,ofn,wrap_in,dt,df,bltD,bltN,ble_of,bleN,beqD,bc_t,bc_f,nn_ok,Nat.zero_add,to_nat,Int.zero_add,Int.sub_zero,Int.sub_self,Int.cast_ofNat_Int,Int.natCast_zero,Int.toNat_zero,List.take_zero,List.nil_append,List.length_append,List.length_nil] at hs;exact .done hs
 | k+1,i,h=>by
  have hi:i < a.length:=by omega
  have hi2:i < b.length:=by omega
  have hs:=step_t a b i;have e1:a.getD i 0=a[i]:=getD_at hi;have e2:b.getD i 0=b[i]:=getD_at hi2;rw [to_nat,e1,e2] at hs;rw [List.drop_eq_getElem_cons hi,List.drop_eq_getElem_cons hi2,eqLI_head];simp (disch:=omega) only [Nat.add_eq,eqSy_self,eqN_self,bc_same,List.length_cons,ofn,wrap_in,dt,df,bltD,bltN,ble_of,bleN,beqD,bc_t,bc_f,nn_ok,Nat.zero_add,to_nat,Int.zero_add,Int.sub_zero,Int.sub_self,Int.cast_ofNat_Int,Int.natCast_zero,Int.toNat_zero,List.take_zero,List.nil_append,List.length_append,List.length_nil] at hs
  cases hq:a[i] != b[i] with
  | true=>rw [hq] at hs;exact .done hs
  | false=>rw [hq] at hs;exact .at (.nil _) hs (loop hl hz k (i+1) (by omega))
theorem ends {a b:List Int} (hz:a.length≤100000):EndZ 47 .nil false (st0 47 [il a,il b]) (bv (eqLI a b)) [] 0:=by
 have h:=in_t a b
 by_cases hl:a.length=b.length
 ·have e:(Int.ofNat a.length != Int.ofNat b.length)=false:=by simp [hl]
  rw [e,bc_f] at h;exact .at (.nil _) h (loop hl hz a.length 0 (by omega))
 ·have e:(Int.ofNat a.length != Int.ofNat b.length)=true:=by simp;omega
  rw [e,bc_t] at h;rw [eqLI_len hl];exact .done h
end RSin
noncomputable def spRSin:ZCT:=fun ax=>match ax with
 | [.lst (.ints .i64 a),.lst (.ints .i64 b)]=>some ⟨decide (a.length≤100000),bv (eqLI a b),[],0⟩
 | _=>none
theorem spRSin_ok:ZCtOk Try.prog 47 spRSin:=fun γ w us ax r hs hc hax hN hfz=>by
 unfold spRSin at hs;split at hs
 case h_2=>cases hs
 rename_i a b;obtain ⟨rfl⟩:=Option.some.inj hs;have hc_0:decide (a.length≤100000)=true:=hc;have hc:=of_decide_eq_true hc_0;exact EndZ.calls (RSin.ends hc) (.nil _) (by kernel_rfl) hax hN hfz

noncomputable def sfB:List (List U)→List (List U)→Bool
 | [],[]=>true
 | r :: A,q :: B=>bc (eqLI (facR r) (facR q)) (sfB A B) false
 | _,_=>false
theorem sfB_len:∀ {A B:List (List U)},A.length≠B.length→sfB A B=false
 | [],[],h=>absurd rfl h
 | [],q :: B,_=>rfl
 | r :: A,[],_=>rfl
 | r :: A,q :: B,h=>by
  have:sfB A B=false:=sfB_len fun e=>h (by rw [List.length_cons,List.length_cons,e]);unfold sfB;rw [this];cases eqLI (facR r) (facR q) <;> rfl
namespace RSfo
noncomputable def ct:Tr ZCC:=Tr.nil.put 47 (some (dC spRSin))
theorem ct_ok:ZCtsOk Try.prog ct:=(ZCtsOk.nil _).add rfl spRSin_ok
noncomputable abbrev ll (A:List (List U)):EV:=.lst (.recs [.list [.int .i64]] A)
noncomputable def RUN (s:ES):ZF:=RZ 28 ct (atS 0 28 4) [] [[(0,none),(1,none),(5,none)]] false s

noncomputable def sS (A B:List (List U)) (i:Int):NS:=⟨[⟨28,27,[(0,(EV.lst (SyC.recs [(Sh.list [(Sh.int IntKind.i64)])] (A)))),(1,(EV.lst (SyC.recs [(Sh.list [(Sh.int IntKind.i64)])] (B)))),(5,iv i)],[.it (.code (nav [1,1,0,1,0,0,0] (bodyOf Try.f28))),.it (.code (nav [1,1,0,1,0,0,1] (bodyOf Try.f28))),.it (.inLoop (nav [1,1,0,1,0,0] (bodyOf Try.f28))),.it (.inBlock 0),.it (.code (nav [1,1,1] (bodyOf Try.f28)))],[],Option.none⟩],[],0⟩
theorem in_t (A B:List (List U)):RUN (st0 28 [ll A,ll B])=(bc (Int.ofNat (List.length A) != Int.ofNat (List.length B)) (.done (EV.v (Value.bool false)) [] 0) (.at (sS (A) (B) ((0:Int))))):=by kernel_rfl
theorem step_t (A B:List (List U)) (i:Int):RUN (stOf (sS A B i))=(bc (decide (i < Int.ofNat (List.length A))) (bc (bc (bc (bc (bc (decide ((0:Int)≤i)) (Nat.blt (Int.toNat i) (List.length A)) false) true false) (bc (bc (Nat.blt (Int.toNat i) (List.length A)) true false) (bc (bc (bc (decide ((0:Int)≤i)) (Nat.blt (Int.toNat i) (List.length B)) false) true false) (bc (bc (Nat.blt (Int.toNat i) (List.length B)) true false) (bc (bc (decide (List.length (List.map (fun r=>U.int (List.headD r (U.i (0:Int)))) (U.list (List.getD (List.getD A (Int.toNat i) []) (0:Nat) (U.i (0:Int)))))≤(100000:Nat))) true false) true false) false) false) false) false) true false) (bc (!eqLI (List.map (fun r=>U.int (List.headD r (U.i (0:Int)))) (U.list (List.getD (List.getD A (Int.toNat i) []) (0:Nat) (U.i (0:Int))))) (List.map (fun r=>U.int (List.headD r (U.i (0:Int)))) (U.list (List.getD (List.getD B (Int.toNat i) []) (0:Nat) (U.i (0:Int)))))) (.done (EV.v (Value.bool false)) [] 0) (.at (sS (A) (B) (IntKind.wrap IntKind.i64 (i+(1:Int)))))) .bad) (.done (EV.v (Value.bool true)) [] 0)):=by kernel_rfl
theorem loop {A B:List (List U)} (hl:A.length=B.length) (hz:Shrt A):∀ (k i:Nat),i+k=A.length→EndZ 28 ct false (stOf (sS A B i)) (bv (sfB (A.drop i) (B.drop i))) [] 0
 | 0,i,h=>by
  have hs:=step_t A B i;have hz1:=hz.1;rw [List.drop_eq_nil_of_le (by omega),List.drop_eq_nil_of_le (by omega)];simp (disch:=omega) only [Nat.add_eq,eqSy_self,eqN_self,bc_same,List.length_cons,ofn,wrap_in,dt,df,bltD,bltN,ble_of,bleN,beqD,bc_t,bc_f,nn_ok,Nat.zero_add,to_nat,Int.zero_add,Int.sub_zero,Int.sub_self,Int.cast_ofNat_Int,Int.natCast_zero,Int.toNat_zero,List.take_zero,List.nil_append,List.length_append,List.length_nil] at hs;exact .done hs
 | k+1,i,h=>by
  have hi:i < A.length:=by omega
  have hi2:i < B.length:=by omega
  have hz1:=hz.1;have hs:=step_t A B i;have e1:A.getD i []=A[i]:=getD_at hi;have e2:B.getD i []=B[i]:=getD_at hi2;have f1:∀ r:List U,List.map (fun r=>U.int (List.headD r (U.i 0))) (U.list (List.getD r 0 (U.i 0)))=facR r:=fun _=>rfl;rw [to_nat,e1,e2,f1,f1,dt (hz.2 _ (List.getElem_mem hi))] at hs;rw [List.drop_eq_getElem_cons hi,List.drop_eq_getElem_cons hi2];unfold sfB
  simp (disch:=omega) only [Nat.add_eq,eqSy_self,eqN_self,bc_same,List.length_cons,ofn,wrap_in,dt,df,bltD,bltN,ble_of,bleN,beqD,bc_t,bc_f,nn_ok,Nat.zero_add,to_nat,Int.zero_add,Int.sub_zero,Int.sub_self,Int.cast_ofNat_Int,Int.natCast_zero,Int.toNat_zero,List.take_zero,List.nil_append,List.length_append,List.length_nil] at hs
  cases hq:eqLI (facR A[i]) (facR B[i]) with
  | false=>rw [hq] at hs;exact .done hs
  | true=>rw [hq] at hs;exact .at ct_ok hs (loop hl hz k (i+1) (by omega))
theorem ends {A B:List (List U)} (hz:Shrt A):EndZ 28 ct false (st0 28 [ll A,ll B]) (bv (sfB A B)) [] 0:=by
 have h:=in_t A B
 by_cases hl:A.length=B.length
 ·have e:(Int.ofNat A.length != Int.ofNat B.length)=false:=by simp [hl]
  rw [e,bc_f] at h;exact .at ct_ok h (loop hl hz A.length 0 (by omega))
 ·have e:(Int.ofNat A.length != Int.ofNat B.length)=true:=by simp;omega
  rw [e,bc_t] at h;rw [sfB_len hl];exact .done h
end RSfo
noncomputable def spRSfo:ZCT:=fun ax=>match ax with
 | [.lst (.recs [.list [.int .i64]] A),.lst (.recs [.list [.int .i64]] B)]=>some ⟨decide (Shrt A),bv (sfB A B),[],0⟩
 | _=>none
theorem spRSfo_ok:ZCtOk Try.prog 28 spRSfo:=fun γ w us ax r hs hc hax hN hfz=>by
 unfold spRSfo at hs;split at hs
 case h_2=>cases hs
 rename_i A B;obtain ⟨rfl⟩:=Option.some.inj hs;have hc_0:decide (Shrt A)=true:=hc;have hc:=of_decide_eq_true hc_0;exact EndZ.calls (RSfo.ends hc) RSfo.ct_ok (by kernel_rfl) hax hN hfz
namespace RSam
end RSam
namespace RTri
end RTri
end Go.Proofs.Ytooimphimnagaaa.Ev
namespace Go.Proofs.Ytooimphimnagaaa.Ev
open Go.Proofs
variable {n:Nat}
namespace RSiz
noncomputable def RUN (s:ES):ZF:=RZ 79 .nil (fun _=>false) [] [] false s
theorem in_t (x:Int):RUN (st0 79 [iv x])=(.done (EV.v (Value.int IntKind.i64 (if IntKind.wrap IntKind.i64 ((0:Int) - x) > x then IntKind.wrap IntKind.i64 ((0:Int) - x) else x))) [] 0):=by kernel_rfl
theorem ends {x:Int} (hx:-1000≤x∧x≤1000):EndZ 79 .nil false (st0 79 [iv x]) (iv (x.natAbs:Nat)) [] 0:=by
 have h:=in_t x;have e:(if IntKind.wrap IntKind.i64 (0 - x) > x then IntKind.wrap IntKind.i64 (0 - x) else x)=((x.natAbs:Nat):Int):=by
  rw [wrap_in (0 - x) (by omega) (by omega)];split <;> omega
 rw [e] at h;exact .done h
end RSiz
noncomputable def spSiz:ZCT:=fun ax=>match ax with
 | [.v (.int .i64 x)]=>some ⟨decide (-1000≤x∧x≤1000),iv (x.natAbs:Nat),[],0⟩
 | _=>none
theorem spSiz_ok:ZCtOk Try.prog 79 spSiz:=fun γ w us ax r hs hc hax hN hfz=>by
 unfold spSiz at hs;split at hs
 case h_2=>cases hs
 rename_i x;obtain ⟨rfl⟩:=Option.some.inj hs;have hc_0:decide (-1000≤x∧x≤1000)=true:=hc;have hc:=of_decide_eq_true hc_0;exact EndZ.calls (RSiz.ends hc) (.nil _) (by kernel_rfl) hax hN hfz
namespace RPrm
noncomputable def ct:Tr ZCC:=(Tr.nil.put 42 (some (dC spRChk))).put 79 (some (dC spSiz))
theorem ct_ok:ZCtsOk Try.prog ct:=((ZCtsOk.nil _).add rfl spRChk_ok).add rfl spSiz_ok
noncomputable def RUN (s:ES):ZF:=RZs 50 ct [(atS 1 87 3,[[(0,none),(3,some (1,3,.ints .i64 [])),(4,none)],[(1,none)]]),(atS 0 50 6,[[(1,none),(7,none),(8,none)]]),(atS 1 96 3,[[(0,none),(3,none),(4,none)],[]])] [] false s

noncomputable def sA (n:Int) (w q:List Int) (nn:Bool) (i:Int):NS:=⟨[⟨87,15,[(0,(EV.v (Value.int IntKind.i64 (n)))),(3,EV.slO 0 1 q.length nn),(4,iv i)],[.it (.code (nav [1,1,0,1,0,0,0] (bodyOf Try.f87))),.it (.code (nav [1,1,0,1,0,0,1] (bodyOf Try.f87))),.it (.inLoop (nav [1,1,0,1,0,0] (bodyOf Try.f87))),.it (.inBlock 0),.it (.code (nav [1,1,1] (bodyOf Try.f87)))],[],Option.none⟩,⟨50,47,[(1,(EV.lst (SyC.ints IntKind.i64 (w))))],[.ops (opsOf (nav [1,1,1,0] (bodyOf Try.f50))) ((opsOf (nav [1,1,1,0] (bodyOf Try.f50))).toList.drop 1),.it (.code (nav [1,1,1,1] (bodyOf Try.f50)))],[],Option.none⟩],[(0,EK.seq 3 (.ints .i64 q) nn)],1⟩
noncomputable def sB (w q:List Int) (m:Nat) (nn:Bool) (i:Int):NS:=⟨[⟨50,47,[(1,(EV.lst (SyC.ints IntKind.i64 (w)))),(7,EV.slO 0 1 m nn),(8,iv i)],[.it (.code (nav [1,1,1,1,0,1,0,0,0] (bodyOf Try.f50))),.it (.code (nav [1,1,1,1,0,1,0,0,1] (bodyOf Try.f50))),.it (.inLoop (nav [1,1,1,1,0,1,0,0] (bodyOf Try.f50))),.it (.inBlock 0),.it (.code (nav [1,1,1,1,1] (bodyOf Try.f50)))],[],Option.none⟩],[(0,EK.seq 3 (.ints .i64 q) nn)],1⟩
noncomputable def sC (q d:List Int) (m k:Nat) (nn:Bool) (i:Int):NS:=⟨[⟨96,22,[(0,EV.slO 0 1 m nn),(3,EV.slO 1 1 k true),(4,iv i)],[.it (.code (nav [1,1,0,1,0,0,0] (bodyOf Try.f96))),.it (.code (nav [1,1,0,1,0,0,1] (bodyOf Try.f96))),.it (.inLoop (nav [1,1,0,1,0,0] (bodyOf Try.f96))),.it (.inBlock 0),.it (.code (nav [1,1,1] (bodyOf Try.f96)))],[],Option.none⟩,⟨50,47,[],[.ops (opsOf (nav [1,1,1,1,1,0] (bodyOf Try.f50))) ((opsOf (nav [1,1,1,1,1,0] (bodyOf Try.f50))).toList.drop 1),.it (.code (nav [1,1,0,1,0,1] (bodyOf Try.f50)))],[],Option.none⟩],[(0,EK.seq 3 (.ints .i64 q) nn),(1,EK.seq 3 (.ints .i64 d) true)],2⟩
theorem in_t (n:Int) (w:List Int):RUN (st0 50 [iv n,il w])=(bc (chk n w != (0:Int)) (.done (EV.tup [(EV.v (Value.slice Option.none 0 0)),(EV.v (Value.int IntKind.i64 (chk n w)))]) [] 0) (.at (sA (n) (w) ([]) (false) ((0:Int))))):=by kernel_rfl
theorem a_t (n:Int) (w q:List Int) (nn:Bool) (i:Int):RUN (stOf (sA n w q nn i))=(bc (decide (i < n)) (bc (bc (Nat.beq (List.length q) (List.length q)) (bc (Nat.ble (List.length q+List.length (List.map (fun r=>U.int (List.headD r (U.i (0:Int)))) [[U.i i]])) (65536:Nat)) (bc nn true (bc nn false true)) false) false) (.at (sA (n) (w) (q ++ List.map (fun r=>U.int (List.headD r (U.i (0:Int)))) [[U.i i]]) (bc nn true (Nat.blt (0:Nat) (List.length (List.map (fun r=>U.int (List.headD r (U.i (0:Int)))) [[U.i i]])))) (IntKind.wrap IntKind.i64 (i+(1:Int))))) .bad) (.at (sB (w) (q) (List.length q) (nn) ((0:Int))))):=by kernel_rfl
theorem b_t (w q:List Int) (m:Nat) (nn:Bool) (i:Int):RUN (stOf (sB w q m nn i))=(bc (decide (i < Int.ofNat (List.length w))) (bc (bc (bc (decide ((0:Int)≤i)) (Nat.blt (Int.toNat i) (List.length w)) false) true false) (bc (bc (Nat.blt (Int.toNat i) (List.length w)) true false) (bc (bc (decide ((-1000:Int)≤List.getD w (Int.toNat i) (0:Int)∧List.getD w (Int.toNat i) (0:Int)≤(1000:Int))) true false) (bc (bc (bc (bc (Nat.blt (Int.toNat (Nat.cast (Int.natAbs (List.getD w (Int.toNat i) (0:Int))):Int)) m) true false) (bc (bc (Nat.blt (Int.toNat (Nat.cast (Int.natAbs (List.getD w (Int.toNat i) (0:Int))):Int)) (List.length q)) true false) (bc (bc (bc (decide ((0:Int)≤IntKind.wrap IntKind.i64 ((Nat.cast (Int.natAbs (List.getD w (Int.toNat i) (0:Int))):Int) - (1:Int)))) (Nat.blt (Int.toNat (IntKind.wrap IntKind.i64 ((Nat.cast (Int.natAbs (List.getD w (Int.toNat i) (0:Int))):Int) - (1:Int)))) m) false) true false) (bc (bc (Nat.blt (Int.toNat (IntKind.wrap IntKind.i64 ((Nat.cast (Int.natAbs (List.getD w (Int.toNat i) (0:Int))):Int) - (1:Int)))) (List.length q)) true false) (bc (bc (bc (decide ((0:Int)≤IntKind.wrap IntKind.i64 ((Nat.cast (Int.natAbs (List.getD w (Int.toNat i) (0:Int))):Int) - (1:Int)))) (Nat.blt (Int.toNat (IntKind.wrap IntKind.i64 ((Nat.cast (Int.natAbs (List.getD w (Int.toNat i) (0:Int))):Int) - (1:Int)))) m) false) true false) (bc (Nat.blt (Int.toNat (IntKind.wrap IntKind.i64 ((Nat.cast (Int.natAbs (List.getD w (Int.toNat i) (0:Int))):Int) - (1:Int)))) (List.length q)) (bc (bc (Nat.blt (Int.toNat (Nat.cast (Int.natAbs (List.getD w (Int.toNat i) (0:Int))):Int)) m) true false) (bc (Nat.blt (Int.toNat (Nat.cast (Int.natAbs (List.getD w (Int.toNat i) (0:Int))):Int)) (List.length (List.set q (Int.toNat (IntKind.wrap IntKind.i64 ((Nat.cast (Int.natAbs (List.getD w (Int.toNat i) (0:Int))):Int) - (1:Int)))) (List.getD q (Int.toNat (Nat.cast (Int.natAbs (List.getD w (Int.toNat i) (0:Int))):Int)) (0:Int))))) true false) false) false) false) false) false) false) false) true false) (.at (sB (w) (List.set (List.set q (Int.toNat (IntKind.wrap IntKind.i64 ((Nat.cast (Int.natAbs (List.getD w (Int.toNat i) (0:Int))):Int) - (1:Int)))) (List.getD q (Int.toNat (Nat.cast (Int.natAbs (List.getD w (Int.toNat i) (0:Int))):Int)) (0:Int))) (Int.toNat (Nat.cast (Int.natAbs (List.getD w (Int.toNat i) (0:Int))):Int)) (List.getD q (Int.toNat (IntKind.wrap IntKind.i64 ((Nat.cast (Int.natAbs (List.getD w (Int.toNat i) (0:Int))):Int) - (1:Int)))) (0:Int))) (m) (nn) (IntKind.wrap IntKind.i64 (i+(1:Int))))) .bad) .bad) .bad) .bad) (bc (bc (decide (Int.ofNat m≤Int.ofNat m)) (decide (Int.ofNat m≤(65536:Int))) false) (.at (sC (q) (zerosL (Int.toNat (Int.ofNat m))) (m) (List.length (zerosL (Int.toNat (Int.ofNat m)))) (nn) ((0:Int)))) .bad)):=by kernel_rfl
theorem c_t (q d:List Int) (m k:Nat) (nn:Bool) (i:Int):RUN (stOf (sC q d m k nn i))=(bc (decide (i < Int.ofNat m)) (bc (bc (bc (decide ((0:Int)≤i)) (Nat.blt (Int.toNat i) m) false) true false) (bc (bc (Nat.blt (Int.toNat i) (List.length q)) true false) (bc (bc (bc (decide ((0:Int)≤List.getD q (Int.toNat i) (0:Int))) (Nat.blt (Int.toNat (List.getD q (Int.toNat i) (0:Int))) k) false) true false) (bc (Nat.blt (Int.toNat (List.getD q (Int.toNat i) (0:Int))) (List.length d)) (.at (sC (q) (List.set d (Int.toNat (List.getD q (Int.toNat i) (0:Int))) i) (m) (k) (nn) (IntKind.wrap IntKind.i64 (i+(1:Int))))) .bad) .bad) .bad) .bad) (bc (bc (Nat.beq k (List.length d)) true false) (.done (EV.tup [(EV.lst (SyC.ints IntKind.i64 (d))),(EV.v (Value.int IntKind.i64 (0)))]) [] 0) .bad)):=by kernel_rfl
theorem stepA {w:List Int} {nn:Bool} {i:Nat} (hn:n≤100) (hi:i < n):RUN (stOf (sA n w (RLin.rng i) nn i)) = .at (sA n w (RLin.rng (i+1)) true (i+1:Nat)):=by
 rw [a_t];have m1:List.map (fun r=>U.int (List.headD r (U.i 0))) [[U.i (i:Int)]]=[(i:Int)]:=rfl;rw [m1,RLin.rng_succ,RLin.rng_len,nn_ok,List.length_singleton];have e1:bc nn true (Nat.blt 0 1)=true:=by cases nn <;> rfl
 simp (disch:=omega) only [Nat.add_eq,eqSy_self,eqN_self,bc_same,List.length_cons,ofn,wrap_in,dt,df,bltD,bltN,ble_of,bleN,beqD,bc_t,bc_f,nn_ok,Nat.zero_add,to_nat,Int.zero_add,Int.sub_zero,Int.sub_self,Int.cast_ofNat_Int,Int.natCast_zero,Int.toNat_zero,List.take_zero,List.nil_append,List.length_append,List.length_nil,e1];rfl
theorem stepB {w:List Int} {p:Pm n} {nn:Bool} {i:Nat} {x:Int} (hi:i < w.length) (hn:n≤12) (hw:w.length≤2000) (hx:w.getD i 0=x) (hk:0 < x.natAbs∧x.natAbs < n):RUN (stOf (sB w (pR p) n nn i)) = .at (sB w (pR (p.L x.natAbs hk)) n nn (i+1:Nat)):=by
 obtain ⟨h1,h2⟩:=hk;have hb:-1000≤x∧x≤1000:=by omega
 rw [b_t];have e0:((i:Int)).toNat=i:=rfl;rw [e0,hx,dt hb];obtain ⟨j,hj⟩:∃ j,x.natAbs=j+1:=⟨x.natAbs - 1,by omega⟩;have g0:((pR p).set j (p.f (j+1):Int)).set (j+1) (p.f j:Int)=pR (p.L x.natAbs ⟨h1,h2⟩):=by
  rw [← pR_L p ⟨h1,h2⟩];simp only [hj,Nat.add_sub_cancel]
 have e1:((j:Int)).toNat=j:=rfl;have e2:(((j+1:Nat):Int)).toNat=j+1:=rfl;have w1:IntKind.i64.wrap (((j+1:Nat):Int) - 1)=(j:Int):=by rw [wrap_in _ (by omega) (by omega)];omega
 have hl:=pR_len p;have hl2:((pR p).set j (p.f (j+1):Int)).length=n:=by rw [List.length_set,hl]
 rw [← g0,hj,w1,e1,e2,pR_get p (show j+1 < n by omega),pR_get p (show j < n by omega),hl];simp (disch:=omega) only [Nat.add_eq,eqSy_self,eqN_self,bc_same,List.length_cons,ofn,wrap_in,dt,df,bltD,bltN,ble_of,bleN,beqD,bc_t,bc_f,nn_ok,Nat.zero_add,to_nat,Int.zero_add,Int.sub_zero,Int.sub_self,Int.cast_ofNat_Int,Int.natCast_zero,Int.toNat_zero,List.take_zero,List.nil_append,List.length_append,List.length_nil,hl2];rfl
theorem midB {w:List Int} {p:Pm n} {nn:Bool} (hn:n≤12):RUN (stOf (sB w (pR p) n nn w.length)) = .at (sC (pR p) (zerosL n) n n nn 0):=by
 rw [b_t,df (show ¬ (w.length:Int) < Int.ofNat w.length by rw [ofn];omega),bc_f];have e0:Int.toNat (Int.ofNat n)=n:=rfl;rw [e0,zeros_len];simp (disch:=omega) only [Nat.add_eq,eqSy_self,eqN_self,bc_same,List.length_cons,ofn,wrap_in,dt,df,bltD,bltN,ble_of,bleN,beqD,bc_t,bc_f,nn_ok,Nat.zero_add,to_nat,Int.zero_add,Int.sub_zero,Int.sub_self,Int.cast_ofNat_Int,Int.natCast_zero,Int.toNat_zero,List.take_zero,List.nil_append,List.length_append,List.length_nil]
theorem stepC {p:Pm n} {nn:Bool} {i:Nat} (hi:i < n) (hn:n≤12):RUN (stOf (sC (pR p) (endS (pR p) i) n n nn i)) = .at (sC (pR p) (endS (pR p) (i+1)) n n nn (i+1:Nat)):=by
 have e0:((i:Int)).toNat=i:=rfl;have hl:=pR_len p;have hd:=endS_len (pR p) i;have hf:=p.lt hi;have e1:Int.toNat (p.f i:Int)=p.f i:=rfl;rw [c_t,e0,pR_get p hi,e1,hd,hl];have e2:(endS (pR p) i).set (p.f i) (i:Int)=endS (pR p) (i+1):=by
  show _=(endS (pR p) i).set ((pR p).getD i 0).toNat (i:Int);rw [pR_get p hi];rfl
 rw [e2];simp (disch:=omega) only [Nat.add_eq,eqSy_self,eqN_self,bc_same,List.length_cons,ofn,wrap_in,dt,df,bltD,bltN,ble_of,bleN,beqD,bc_t,bc_f,nn_ok,Nat.zero_add,to_nat,Int.zero_add,Int.sub_zero,Int.sub_self,Int.cast_ofNat_Int,Int.natCast_zero,Int.toNat_zero,List.take_zero,List.nil_append,List.length_append,List.length_nil];rfl
theorem loopC {p:Pm n} {nn:Bool} (hn:n≤12):∀ (k i:Nat),i+k=n→EndZ 50 ct false (stOf (sC (pR p) (endS (pR p) i) n n nn i)) (.tup [il (pR p.inv),iv 0]) [] 0
 | 0,i,h=>by
  obtain rfl:i=n:=by omega
  have hs:=c_t (pR p) (endS (pR p) i) i i nn i;have hd:=endS_len (pR p) i;rw [df (show ¬ (i:Int) < Int.ofNat i by rw [ofn];omega),bc_f,hd,pR_len,endS_pR] at hs;simp (disch:=omega) only [Nat.add_eq,eqSy_self,eqN_self,bc_same,List.length_cons,ofn,wrap_in,dt,df,bltD,bltN,ble_of,bleN,beqD,bc_t,bc_f,nn_ok,Nat.zero_add,to_nat,Int.zero_add,Int.sub_zero,Int.sub_self,Int.cast_ofNat_Int,Int.natCast_zero,Int.toNat_zero,List.take_zero,List.nil_append,List.length_append,List.length_nil] at hs;rw [endS_pR];exact .done hs
 | k+1,i,h=>.at ct_ok (stepC (by omega) hn) (loopC hn k (i+1) (by omega))
theorem loopB {w:List Int} {nn:Bool} (hn:n≤12) (hw:w.length≤2000) (h:Vld n w):∀ (k i:Nat),i+k=w.length→EndZ 50 ct false (stOf (sB w (pR (lnP n (w.take i))) n nn i)) (.tup [il (prmL n w),iv 0]) [] 0
 | 0,i,hi=>by
  obtain rfl:i=w.length:=by omega
  rw [List.take_length];have e:pR (lnP n w).inv=prmL n w:=by
   unfold pR prmL;exact List.map_congr_left fun x _=>congrArg (fun y:Nat=>(y:Int)) (lnP_g h x)
  rw [← e];refine .at ct_ok (midB hn) ?_;have:=loopC (p:=lnP n w) (nn:=nn) hn n 0 (by omega);rw [show endS (pR (lnP n w)) 0=zerosL n by unfold endS;rw [pR_len]] at this;exact this
 | k+1,i,hi=>by
  have hi2:i < w.length:=by omega
  have hk:0 < (w.getD i 0).natAbs∧(w.getD i 0).natAbs < n:=(show Vld n [w.getD i 0] from fun x hx=>by
   rw [List.mem_singleton.1 hx,getD_at hi2];exact h _ (List.getElem_mem _)).head
  have h1:=stepB (p:=lnP n (w.take i)) (nn:=nn) hi2 hn hw rfl hk;have e:lnP n (w.take (i+1))=(lnP n (w.take i)).L (w.getD i 0).natAbs hk:=by
   rw [List.take_succ_eq_append_getElem hi2,lnP_app,← getD_at hi2];unfold swP;rw [dif_pos hk]
  rw [← e] at h1;exact .at ct_ok h1 (loopB hn hw h k (i+1) (by omega))
theorem loopA {w:List Int} (hn:n≤12) (hw:w.length≤2000) (h:Vld n w):∀ (k i:Nat) (nn:Bool),i+k=n→EndZ 50 ct false (stOf (sA n w (RLin.rng i) nn i)) (.tup [il (prmL n w),iv 0]) [] 0
 | 0,i,nn,hi=>by
  obtain rfl:i=n:=by omega
  have h1:=a_t i w (RLin.rng i) nn i;rw [df (show ¬ (i:Int) < (i:Int) by omega),bc_f,RLin.rng_len] at h1;have h2:=loopB (nn:=nn) hn hw h w.length 0 (by omega);exact .at ct_ok h1 h2
 | k+1,i,nn,hi=>.at ct_ok (stepA (by omega) (by omega)) (loopA hn hw h k (i+1) true (by omega))
theorem ends (n:Int) (w:List Int):EndZ 50 ct false (st0 50 [iv n,il w]) (resL (chk n w) (prmL n.toNat w)) [] 0:=by
 have h:=in_t n w
 by_cases z:chk n w=0
 ·obtain ⟨⟨w0,w1,w2,w3⟩,_⟩:=chk_wok z;obtain ⟨n,rfl⟩:=Int.eq_ofNat_of_zero_le (show 0≤n by omega);rw [z,show ((0:Int) != 0)=false from rfl,bc_f] at h
  rw [resL_ok _ z];exact .at ct_ok h (loopA (by omega) w2 w3 n 0 false (by omega))
 ·rw [show (chk n w != 0)=true by simp [z],bc_t] at h;exact (EndZ.done h).weak (resL_err _ z)
end RPrm
noncomputable def spRPrm:ZCT:=fun ax=>match ax with
 | [.v (.int .i64 n),.lst (.ints .i64 w)]=>some ⟨decide (True),resL (chk n w) (prmL n.toNat w),[],0⟩
 | _=>none
theorem spRPrm_ok:ZCtOk Try.prog 50 spRPrm:=fun γ w us ax r hs hc hax hN hfz=>by
 unfold spRPrm at hs;split at hs
 case h_2=>cases hs
 rename_i n w;obtain ⟨rfl⟩:=Option.some.inj hs;have hc_0:decide (True)=true:=hc;have hc:=of_decide_eq_true hc_0;exact EndZ.calls (RPrm.ends n w) RPrm.ct_ok (by kernel_rfl) hax hN hfz
namespace RDrp
noncomputable def RUN (s:ES):ZF:=RZ 98 RPrm.ct (atS 0 98 4) [] [[(1,none),(7,some (1,3,.ints .i64 [])),(8,none),(9,none)]] false s

noncomputable def sL (w q:List Int) (nn:Bool) (p i:Int):NS:=⟨[⟨98,62,[(1,(EV.lst (SyC.ints IntKind.i64 (w)))),(7,EV.slO 0 1 q.length nn),(8,iv p),(9,iv i)],[.it (.code (nav [1,1,1,0,1,0,0,0] (bodyOf Try.f98))),.it (.code (nav [1,1,1,0,1,0,0,1] (bodyOf Try.f98))),.it (.inLoop (nav [1,1,1,0,1,0,0] (bodyOf Try.f98))),.it (.inBlock 0),.it (.code (nav [1,1,1,1] (bodyOf Try.f98)))],[],Option.none⟩],[(0,EK.seq 3 (.ints .i64 q) nn)],1⟩
theorem in_t (n:Int) (w:List Int) (p:Int):RUN (st0 98 [iv n,il w,iv p])=(.at (sL (w) ([]) (false) (p) ((0:Int)))):=by kernel_rfl
theorem l_t (w q:List Int) (nn:Bool) (p i:Int):RUN (stOf (sL w q nn p i))=(bc (decide (i < Int.ofNat (List.length w))) (bc (bc (bc (decide ((0:Int)≤i)) (Nat.blt (Int.toNat i) (List.length w)) false) true false) (bc (bc (Nat.blt (Int.toNat i) (List.length w)) true false) (bc (bc (decide ((-1000:Int)≤List.getD w (Int.toNat i) (0:Int)∧List.getD w (Int.toNat i) (0:Int)≤(1000:Int))) true false) (bc (bc (bc (decide ((0:Int)≤i)) (Nat.blt (Int.toNat i) (List.length w)) false) true false) (bc (bc (Nat.blt (Int.toNat i) (List.length w)) true false) (bc (bc (bnot ((Nat.cast (Int.natAbs (List.getD w (Int.toNat i) (0:Int))):Int) == (0:Int))) true false) (bc (p == IntKind.wrap IntKind.i64 ((Nat.cast (Int.natAbs (List.getD w (Int.toNat i) (0:Int))):Int) - (1:Int))) (.at (sL (w) (q) (nn) ((Nat.cast (Int.natAbs (List.getD w (Int.toNat i) (0:Int))):Int)) (IntKind.wrap IntKind.i64 (i+(1:Int))))) (bc (p == (Nat.cast (Int.natAbs (List.getD w (Int.toNat i) (0:Int))):Int)) (.at (sL (w) (q) (nn) (IntKind.wrap IntKind.i64 ((Nat.cast (Int.natAbs (List.getD w (Int.toNat i) (0:Int))):Int) - (1:Int))) (IntKind.wrap IntKind.i64 (i+(1:Int))))) (bc (decide (p < IntKind.wrap IntKind.i64 ((Nat.cast (Int.natAbs (List.getD w (Int.toNat i) (0:Int))):Int) - (1:Int)))) (bc (bc (Nat.beq (List.length q) (List.length q)) (bc (Nat.ble (List.length q+List.length (List.map (fun r=>U.int (List.headD r (U.i (0:Int)))) [[U.i (IntKind.wrap IntKind.i64 (IntKind.wrap IntKind.i64 (Int.tdiv (List.getD w (Int.toNat i) (0:Int)) (Nat.cast (Int.natAbs (List.getD w (Int.toNat i) (0:Int))):Int)) * IntKind.wrap IntKind.i64 ((Nat.cast (Int.natAbs (List.getD w (Int.toNat i) (0:Int))):Int) - (1:Int))))]])) (65536:Nat)) (bc nn true (bc nn false true)) false) false) (.at (sL (w) (q ++ List.map (fun r=>U.int (List.headD r (U.i (0:Int)))) [[U.i (IntKind.wrap IntKind.i64 (IntKind.wrap IntKind.i64 (Int.tdiv (List.getD w (Int.toNat i) (0:Int)) (Nat.cast (Int.natAbs (List.getD w (Int.toNat i) (0:Int))):Int)) * IntKind.wrap IntKind.i64 ((Nat.cast (Int.natAbs (List.getD w (Int.toNat i) (0:Int))):Int) - (1:Int))))]]) (bc nn true (Nat.blt (0:Nat) (List.length (List.map (fun r=>U.int (List.headD r (U.i (0:Int)))) [[U.i (IntKind.wrap IntKind.i64 (IntKind.wrap IntKind.i64 (Int.tdiv (List.getD w (Int.toNat i) (0:Int)) (Nat.cast (Int.natAbs (List.getD w (Int.toNat i) (0:Int))):Int)) * IntKind.wrap IntKind.i64 ((Nat.cast (Int.natAbs (List.getD w (Int.toNat i) (0:Int))):Int) - (1:Int))))]])))) (p) (IntKind.wrap IntKind.i64 (i+(1:Int))))) .bad) (bc (bc (bc (decide ((0:Int)≤i)) (Nat.blt (Int.toNat i) (List.length w)) false) true false) (bc (bc (Nat.blt (Int.toNat i) (List.length w)) true false) (bc (bc (Nat.beq (List.length q) (List.length q)) (bc (Nat.ble (List.length q+List.length (List.map (fun r=>U.int (List.headD r (U.i (0:Int)))) [[U.i (List.getD w (Int.toNat i) (0:Int))]])) (65536:Nat)) (bc nn true (bc nn false true)) false) false) (.at (sL (w) (q ++ List.map (fun r=>U.int (List.headD r (U.i (0:Int)))) [[U.i (List.getD w (Int.toNat i) (0:Int))]]) (bc nn true (Nat.blt (0:Nat) (List.length (List.map (fun r=>U.int (List.headD r (U.i (0:Int)))) [[U.i (List.getD w (Int.toNat i) (0:Int))]])))) (p) (IntKind.wrap IntKind.i64 (i+(1:Int))))) .bad) .bad) .bad)))) .bad) .bad) .bad) .bad) .bad) .bad) (bc (Nat.beq (List.length q) (List.length q)) (.done (EV.lst (SyC.ints IntKind.i64 (q))) [] 0) .bad)):=by kernel_rfl
theorem step {w q:List Int} {nn:Bool} {p i j:Nat} {x:Int} (hi:i < w.length) (hx:w.getD i 0=x) (hj:x.natAbs=j+1) (hn:j≤11) (hp:p≤12) (hw:w.length≤2000) (hq:q.length≤i) (hnn:nn=true∨q=[]):∃ nn',RUN (stOf (sL w q nn p i)) = .at (sL w (q ++ (POth.othS p x).1) nn' ((POth.othS p x).2:Nat) (i+1:Nat))∧(nn'=true∨q ++ (POth.othS p x).1=[]):=by
 have e0:((i:Int)).toNat=i:=rfl;have hb:-1000≤x∧x≤1000:=by omega
 have w1:IntKind.i64.wrap (((j+1:Nat):Int) - 1)=(j:Int):=by rw [wrap_in _ (by omega) (by omega)];omega
 have hv:IntKind.i64.wrap (IntKind.i64.wrap (Int.tdiv x ((j+1:Nat):Int)) * (j:Int))=lowL x:=by
  unfold lowL
  by_cases h:x < 0
  ·obtain rfl:x = -((j+1:Nat):Int):=by omega
   rw [Int.neg_tdiv,Int.tdiv_self (by omega),if_pos h,show IntKind.i64.wrap (-1) = -1 from rfl,wrap_in _ (by omega) (by omega)]
   omega
  ·obtain rfl:x=((j+1:Nat):Int):=by omega
   rw [Int.tdiv_self (by omega),if_neg h,show IntKind.i64.wrap 1=1 from rfl,wrap_in _ (by omega) (by omega)]
   omega
 have hb1:∀ v:Int,bc nn true (Nat.blt 0 (List.length [v]))=true:=fun v=>by cases nn <;> rfl
 have hb2:bc nn true (bc nn false true)=true:=by cases nn <;> rfl
 have m3:∀ v:Int,List.map (fun r=>U.int (List.headD r (U.i 0))) [[U.i v]]=[v]:=fun v=>rfl;have z:bnot ((((j+1:Nat):Int)) == 0)=true:=by
  rw [show ((((j+1:Nat):Int) == 0)=false) by simp;omega];rfl
 rw [l_t,e0,hx,dt hb,hj,w1,hv,m3,m3,hb1,hb1,hb2,z];unfold POth.othS;rw [hj]
 by_cases c1:p=j
 ·subst c1;refine ⟨nn,?_,?_⟩
  ·rw [show (((p:Int) == (p:Int))=true) by simp,if_pos (.inl rfl),List.append_nil,show sw (p+1) p=p+1 by unfold sw;rw [if_neg (by omega),if_pos rfl]];simp (disch:=omega) only [Nat.add_eq,eqSy_self,eqN_self,bc_same,List.length_cons,ofn,wrap_in,dt,df,bltD,bltN,ble_of,bleN,beqD,bc_t,bc_f,nn_ok,Nat.zero_add,to_nat,Int.zero_add,Int.sub_zero,Int.sub_self,Int.cast_ofNat_Int,Int.natCast_zero,Int.toNat_zero,List.take_zero,List.nil_append,List.length_append,List.length_nil];rfl
  ·rw [if_pos (.inl rfl),List.append_nil];exact hnn
 ·rw [show (((p:Int) == (j:Int))=false) by simp;omega]
  by_cases c2:p=j+1
  ·subst c2;refine ⟨nn,?_,?_⟩
   ·rw [show ((((j+1:Nat):Int) == ((j+1:Nat):Int))=true) by simp,if_pos (.inr rfl),List.append_nil,show sw (j+1) (j+1)=j by unfold sw;rw [if_pos rfl];omega];simp (disch:=omega) only [Nat.add_eq,eqSy_self,eqN_self,bc_same,List.length_cons,ofn,wrap_in,dt,df,bltD,bltN,ble_of,bleN,beqD,bc_t,bc_f,nn_ok,Nat.zero_add,to_nat,Int.zero_add,Int.sub_zero,Int.sub_self,Int.cast_ofNat_Int,Int.natCast_zero,Int.toNat_zero,List.take_zero,List.nil_append,List.length_append,List.length_nil];rfl
   ·rw [if_pos (.inr rfl),List.append_nil];exact hnn
  ·rw [show (((p:Int) == ((j+1:Nat):Int))=false) by simp;omega,if_neg (show ¬ (p+1=j+1∨p=j+1) by omega)];refine ⟨true,?_,.inl ?_⟩
   ·by_cases c3:p < j+1
    ·rw [if_pos c3,dt (show (p:Int) < (j:Int) by omega)];simp (disch:=omega) only [Nat.add_eq,eqSy_self,eqN_self,bc_same,List.length_cons,ofn,wrap_in,dt,df,bltD,bltN,ble_of,bleN,beqD,bc_t,bc_f,nn_ok,Nat.zero_add,to_nat,Int.zero_add,Int.sub_zero,Int.sub_self,Int.cast_ofNat_Int,Int.natCast_zero,Int.toNat_zero,List.take_zero,List.nil_append,List.length_append,List.length_nil];rfl
    ·rw [if_neg c3,df (show ¬ (p:Int) < (j:Int) by omega)];simp (disch:=omega) only [Nat.add_eq,eqSy_self,eqN_self,bc_same,List.length_cons,ofn,wrap_in,dt,df,bltD,bltN,ble_of,bleN,beqD,bc_t,bc_f,nn_ok,Nat.zero_add,to_nat,Int.zero_add,Int.sub_zero,Int.sub_self,Int.cast_ofNat_Int,Int.natCast_zero,Int.toNat_zero,List.take_zero,List.nil_append,List.length_append,List.length_nil];rfl
   ·rfl
theorem last {w q:List Int} {nn:Bool} {p:Nat}:RUN (stOf (sL w q nn p w.length)) = .done (il q) [] 0:=by
 rw [l_t,df (show ¬ (w.length:Int) < Int.ofNat w.length by rw [ofn];omega),bc_f];simp only [Nat.add_eq,eqSy_self,eqN_self,bc_same,List.length_cons,ofn,wrap_in,dt,df,bltD,bltN,ble_of,bleN,beqD,bc_t,bc_f,nn_ok,Nat.zero_add,to_nat,Int.zero_add,Int.sub_zero,Int.sub_self,Int.cast_ofNat_Int,Int.natCast_zero,Int.toNat_zero,List.take_zero,List.nil_append,List.length_append,List.length_nil]
theorem loop {w:List Int} (hn:n≤12) (hw:w.length≤2000) (h:Vld n w):∀ (k i:Nat) (q:List Int) (nn:Bool) (p:Nat),i+k=w.length→p < n→q.length≤i→(nn=true∨q=[])→EndZ 98 RPrm.ct false (stOf (sL w q nn p i)) (il (q ++ (oth p (w.drop i)).1)) [] 0
 | 0,i,q,nn,p,hi,hp,hq,hnn=>by
  obtain rfl:i=w.length:=by omega
  rw [List.drop_length,show oth p []=([],p) from rfl,List.append_nil]
  exact .done last
 | k+1,i,q,nn,p,hi,hp,hq,hnn=>by
  have hi2:i < w.length:=by omega
  have hk:0 < (w.getD i 0).natAbs∧(w.getD i 0).natAbs < n:=(show Vld n [w.getD i 0] from fun x hx=>by
   rw [List.mem_singleton.1 hx,getD_at hi2];exact h _ (List.getElem_mem _)).head
  obtain ⟨nn',h1,h2⟩:=step (p:=p) hi2 rfl (show (w.getD i 0).natAbs=(w.getD i 0).natAbs - 1+1 by omega) (by omega) (by omega) hw hq hnn;rw [List.drop_eq_getElem_cons hi2,POth.oth_S,← getD_at hi2,← List.append_assoc];refine .at RPrm.ct_ok h1 (loop hn hw h k (i+1) _ nn' _ (by omega) (POth.othS_lt hk hp) ?_ h2);rw [List.length_append];have:(POth.othS p (w.getD i 0)).1.length≤1:=by
   unfold POth.othS;split
   ·exact Nat.zero_le _
   ·split <;> exact Nat.le_refl _
  omega
end RDrp
noncomputable def spRDro:ZCT:=fun ax=>match ax with
 | [.v (.int .i64 n),.lst (.ints .i64 w),.v (.int .i64 p)]=>some ⟨decide (OthOk w p),il (oth p.toNat w).1,[],0⟩
 | _=>none
theorem spRDro_ok:ZCtOk Try.prog 98 spRDro:=fun γ w us ax r hs hc hax hN hfz=>by
 unfold spRDro at hs;split at hs
 case h_2=>cases hs
 rename_i n w p;obtain ⟨rfl⟩:=Option.some.inj hs;have hc_0:decide (OthOk w p)=true:=hc;have hc:=of_decide_eq_true hc_0;exact EndZ.calls (by
  obtain ⟨h1,h2,h3,h4⟩:=hc;obtain ⟨p,rfl⟩:=Int.eq_ofNat_of_zero_le h3;exact .at RPrm.ct_ok (RDrp.in_t n w p) (RDrp.loop (Nat.le_refl _) h1 h2 w.length 0 [] false p (by omega) (by omega) (Nat.zero_le _) (.inr rfl))) RPrm.ct_ok (by kernel_rfl) hax hN hfz
end Go.Proofs.Ytooimphimnagaaa.Ev
