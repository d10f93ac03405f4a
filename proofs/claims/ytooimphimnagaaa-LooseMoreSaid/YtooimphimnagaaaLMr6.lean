/- Laid together: With more pins out no fewer crossings are freed. Plain. Rows of simple braids: what slides over from one to the one before it, and that it ends in one way. Plain. No program is named. Normal forms of rows of simple braids: without Delta ahead and nothing behind; a letter more. Plain. No program is named. Words: what changes of a word leave of its normal form. Plain. No .. -/
import Derived.ProofKit
import Derived.ReadAgain
import Derived.OpenShut
import Derived.Test.YtooimphimnagaaaLMr5
set_option linter.unusedSimpArgs false
set_option linter.unusedVariables false
noncomputable section
namespace Go.Proofs.Ytooimphimnagaaa.Ev
section
variable {l:List Int}
def ltsL (l:List Int) (L:List Nat):List Int:=L.map fun j=>l.getD j 0
theorem zca (l:List Int) (A B:List Nat):ltsL l (A++B)=ltsL l A++ltsL l B:=List.map_append
theorem zf6 (l:List Int) (i:Nat):ltsL l [i]=[l.getD i 0]:=rfl
theorem zfj (l:List Int) (i:Nat) (A:List Nat):ltsL l (i::A)=l.getD i 0::ltsL l A:=rfl
theorem zh0 (l:List Int) (A:List Nat):(ltsL l A).length=A.length:=List.length_map ..
theorem rm_no {x:Int}:∀ {q:List Int},(∀ y,y∈q→tchL y x=false)→rmL x q=none
 | [],_=>rfl
 | y::q,h=>by
  rw [rm_f (h y List.mem_cons_self),rm_no fun z hz=>h z (List.mem_cons_of_mem _ hz)];rfl
theorem rm_ov {x:Int} {q:List Int}:∀ {Y:List Int},(∀ y,y∈Y→tchL y x=false)→rmL x (Y++q)=(rmL x q).map (Y ++ ·)
 | [],_=>by cases h:rmL x q <;> (show rmL x q=_;rw [h];rfl)
 | y::Y,h=>by
  show rmL x (y::(Y++q))=_;rw [rm_f (h y List.mem_cons_self),rm_ov fun z hz=>h z (List.mem_cons_of_mem _ hz)];cases rmL x q <;> rfl
theorem zcn {out:List Nat} {i:Nat} (hp:out.Pairwise (· < ·)) (hs:-1000≤l.getD i 0):(outS l out i=out++[i]∧rmL (l.getD i 0) (ltsL l out).reverse=none)∨∃ X e Y,out=X++e::Y∧outS l out i=X++Y∧isPn (l.getD i 0)=false∧isPn (-(l.getD i 0))=false∧l.getD e 0 = -(l.getD i 0)∧∀ y,y∈Y→tchL (l.getD y 0) (l.getD i 0)=false:=by
 obtain ⟨t1,t2⟩:=zha (l:=l) hp (l.getD i 0);rcases t2 with t2|⟨e,t2,he,ht⟩
 ·refine .inl ⟨?_,rm_no fun y hy=>?_⟩
  ·unfold outS;rw [if_neg (by rintro ⟨h,_⟩;omega)]
  ·obtain ⟨j,hj,rfl⟩:=List.mem_map.1 (List.mem_reverse.1 hy)
   cases hq:tchL (l.getD j 0) (l.getD i 0) with
   | false=>rfl
   | true=>have:=t1 j ⟨hj,hq⟩;omega
 ·obtain ⟨X,Y,rfl⟩:=List.append_of_mem he;obtain ⟨p1,p2,p3⟩:=List.pairwise_append.1 hp;have hY:∀ y,y∈Y→tchL (l.getD y 0) (l.getD i 0)=false:=fun y hy=>by
   cases hq:tchL (l.getD y 0) (l.getD i 0) with
   | false=>rfl
   | true=>
    have h1:=t1 y ⟨List.mem_append_right _ (List.mem_cons_of_mem _ hy),hq⟩;have h2:=(List.pairwise_cons.1 p2).1 y hy;omega
  have hn:(tpO l (X++e::Y) (l.getD i 0)).toNat=e:=by rw [t2];rfl
  have hpn:isPn (l.getD i 0)=false→isPn (-(l.getD i 0))=false:=fun _=>decide_eq_false (by omega)
  by_cases c:0≤tpO l (X++e::Y) (l.getD i 0)∧isPn (l.getD i 0)=false∧l.getD (tpO l (X++e::Y) (l.getD i 0)).toNat 0 = -(l.getD i 0)
  ·refine .inr ⟨X,e,Y,rfl,?_,c.2.1,hpn c.2.1,by rw [← hn];exact c.2.2,hY⟩;unfold outS;rw [if_pos c,hn,List.filter_append,List.filter_cons_of_neg (by simp)];rw [List.filter_eq_self.2 fun y hy=>decide_eq_true (by have:=p3 y hy e List.mem_cons_self;omega),List.filter_eq_self.2 fun y hy=>decide_eq_true (by have:=(List.pairwise_cons.1 p2).1 y hy;omega)]
  ·refine .inl ⟨by unfold outS;rw [if_neg c],?_⟩;have e1:(ltsL l (X++e::Y)).reverse=(ltsL l Y).reverse++l.getD e 0::(ltsL l X).reverse:=by
    rw [zca,zfj,List.reverse_append,List.reverse_cons,List.append_assoc];rfl
   rw [e1,rm_ov fun y hy=>by
    obtain ⟨j,hj,rfl⟩:=List.mem_map.1 (List.mem_reverse.1 hy);exact hY j hj,rm_t ht,if_neg]
   ·rfl
   ·rintro ⟨q1,q2,_⟩
    exact c ⟨by omega,q2,by rw [hn];exact q1⟩
theorem zu2 {out:List Nat} {i:Nat} (hp:out.Pairwise (· < ·)) (hs:-1000≤l.getD i 0):(ltsL l (outS l out i)).reverse=stpL (ltsL l out).reverse (l.getD i 0):=by
 rcases zcn hp hs with ⟨h1,h2⟩|⟨X,e,Y,rfl,h1,h2,h3,h4,h5⟩
 ·rw [h1,zba h2,zca,List.reverse_append];rfl
 ·have e1:(ltsL l (X++e::Y)).reverse=(ltsL l Y).reverse++l.getD e 0::(ltsL l X).reverse:=by
   rw [zca,zfj,List.reverse_append,List.reverse_cons,List.append_assoc];rfl
  have e2:rmL (l.getD i 0) (ltsL l (X++e::Y)).reverse=some ((ltsL l Y).reverse++(ltsL l X).reverse):=by
   rw [e1,rm_ov fun y hy=>by
    obtain ⟨j,hj,rfl⟩:=List.mem_map.1 (List.mem_reverse.1 hy);exact h5 j hj,h4,zo1 h2 h3]
   rfl
  rw [za9 e2,h1,zca,List.reverse_append]
theorem zeq {out L:List Nat} {i:Nat} (hp:(out++i::L).Pairwise (· < ·)) (hs:-1000≤l.getD i 0):(outS l out i++L).Pairwise (· < ·):=by
 have hp0:=(List.pairwise_append.1 hp).1;rcases zcn hp0 hs with ⟨h1,h2⟩|⟨X,e,Y,rfl,h1,h2,h3,h4,h5⟩
 ·rw [h1,List.append_assoc];exact hp
 ·rw [h1];refine hp.sublist (List.Sublist.append (List.Sublist.append (List.Sublist.refl _) (List.sublist_cons_self _ _)) (List.sublist_cons_self _ _))
theorem zli (hs:∀ j,-1000≤l.getD j 0):∀ (L out:List Nat),(out++L).Pairwise (· < ·)→(ltsL l (L.foldl (outS l) out)).reverse=redL (ltsL l out).reverse (ltsL l L)
 | [],out,_=>rfl
 | i::L,out,hp=>by
  show (ltsL l (L.foldl (outS l) (outS l out i))).reverse=redL (stpL (ltsL l out).reverse (l.getD i 0)) (ltsL l L);rw [zli hs L _ (zeq hp (hs i)),zu2 (List.pairwise_append.1 hp).1 (hs i)]
theorem zuw (hs:∀ j,-1000≤l.getD j 0) {L:List Nat} (hp:L.Pairwise (· < ·)):(tigL l L).length=(redL [] (ltsL l L)).length:=by
 have:=zli hs L [] hp;rw [show redL [] (ltsL l L)=redL (ltsL l []).reverse (ltsL l L) from rfl,← this,List.length_reverse,zh0]
 rfl
theorem zf5 (hs:∀ j,-1000≤l.getD j 0) {kp:Nat→Bool} (hk:∀ j,kp j=false→isPn (l.getD j 0)=true):∀ (L out B:List Nat),(out++L).Pairwise (· < ·)→Tq (redL [] (ltsL l B)) (redL [] (ltsL l (out.filter kp)))→Tq (redL [] (ltsL l (B++L.filter kp))) (redL [] (ltsL l ((L.foldl (outS l) out).filter kp)))
 | [],out,B,_,h=>by rw [List.filter_nil,List.append_nil];exact h
 | i::L,out,B,hp,h=>by
  have hp0:=(List.pairwise_append.1 hp).1;have ha:=zeq hp (hs i);show Tq _ (redL [] (ltsL l ((L.foldl (outS l) (outS l out i)).filter kp)))
  cases c:kp i with
  | true=>
   have e1:B++(i::L).filter kp=(B++[i])++L.filter kp:=by rw [List.filter_cons_of_pos c,List.append_assoc];rfl
   rw [e1];refine zf5 hs hk L _ _ ha ?_;rw [zca,zf6,zdw];refine (zti h (l.getD i 0)).trans ?_;rcases zcn hp0 (hs i) with ⟨h1,h2⟩|⟨X,e,Y,rfl,h1,h2,h3,h4,h5⟩
   ·rw [h1,List.filter_append,List.filter_cons_of_pos c,List.filter_nil,zca,zf6,zdw];exact .refl _
   ·have ce:kp e=true:=by
     cases q:kp e with
     | true=>rfl
     | false=>have:=hk e q;rw [h4,h3] at this;cases this
    rw [h1,List.filter_append,List.filter_append,List.filter_cons_of_pos ce,zca,zca,zfj,zdw,zdw,h4];have:=zr5 (x:=-(l.getD i 0)) (q:=redL [] (ltsL l (X.filter kp))) (M:=ltsL l (Y.filter kp)) (C:=[]) (zo4 _ trivial) h3 (by rw [Int.neg_neg];exact h2) (fun y hy=>by
     obtain ⟨j,hj,rfl⟩:=List.mem_map.1 hy;rw [zes h2 h3];exact h5 j (List.mem_filter.1 hj).1)
    rw [Int.neg_neg,List.append_nil,zdw] at this;exact this
  | false=>
   have e1:B++(i::L).filter kp=B++L.filter kp:=by rw [List.filter_cons_of_neg (by rw [c];simp)]
   rw [e1];refine zf5 hs hk L _ _ ha ?_;rcases zcn hp0 (hs i) with ⟨h1,h2⟩|⟨X,e,Y,rfl,h1,h2,h3,h4,h5⟩
   ·rw [h1,List.filter_append,List.filter_cons_of_neg (by rw [c];simp),List.filter_nil,List.append_nil];exact h
   ·rw [hk i c] at h2;cases h2
theorem zc4 (hs:∀ j,-1000≤l.getD j 0) {z:Nat}:∀ (L out:List Nat),(out++L).Pairwise (· < ·)→(z∈L.foldl (outS l) out→z∈out++L)∧(isPn (l.getD z 0)=true→z∈out++L→z∈L.foldl (outS l) out)
 | [],out,_=>by rw [List.append_nil];exact ⟨id,fun _=>id⟩
 | i::L,out,hp=>by
  have hp0:=(List.pairwise_append.1 hp).1;obtain ⟨i1,i2⟩:=zc4 hs L _ (zeq hp (hs i));show (z∈L.foldl (outS l) (outS l out i)→_)∧(_→_→z∈L.foldl (outS l) (outS l out i));rcases zcn hp0 (hs i) with ⟨h1,h2⟩|⟨X,e,Y,rfl,h1,h2,h3,h4,h5⟩
  ·rw [h1] at i1 i2 ⊢;rw [List.append_assoc] at i1 i2;exact ⟨i1,i2⟩
  ·rw [h1] at i1 i2 ⊢;simp only [List.mem_append,List.mem_cons] at i1 i2 ⊢;refine ⟨fun h=>?_,fun h k=>i2 h ?_⟩
   ·rcases i1 h with (h|h)|h
    ·exact .inl (.inl h)
    ·exact .inl (.inr (.inr h))
    ·exact .inr (.inr h)
   ·rcases k with (k|k|k)|k|k
    ·exact .inl (.inl k)
    ·rw [k,h4,h3] at h;cases h
    ·exact .inl (.inr k)
    ·rw [k,h2] at h;cases h
    ·exact .inr k
theorem zih (p:Nat→Bool):∀ L:List Nat,(L.filter p).length+(L.filter fun z=>!p z).length=L.length
 | []=>rfl
 | x::L=>by
  have:=zih p L
  cases h:p x with
  | true=>rw [List.filter_cons_of_pos h,List.filter_cons_of_neg (by rw [h];simp),List.length_cons,List.length_cons];omega
  | false=>rw [List.filter_cons_of_neg (by rw [h];simp),List.filter_cons_of_pos (by rw [h];rfl),List.length_cons,List.length_cons];omega
theorem zt0 (hs:∀ j,-1000≤l.getD j 0) (o:Nat→Bool):(goT l o).length+(tigL l (resT l o)).length=(resT l o).length:=by
 have ha:=zb5 l o;have e:(resT l o).filter (fun j=>decide (j∈tigL l (resT l o)))=tigL l (resT l o):=zfc (ha.sub _).1 (zfr (l:=l) ha).1.1 fun z=>by
  rw [List.mem_filter,decide_eq_true_iff];exact ⟨fun h=>h.2,fun h=>⟨(zc4 hs (resT l o) [] ha.1).1 h,h⟩⟩
 have:=zih (fun j=>decide (j∈tigL l (resT l o))) (resT l o);rw [e] at this;unfold goT;omega
theorem go_le (hs:∀ j,-1000≤l.getD j 0) {o o':Nat→Bool} (h:∀ j,isPn (l.getD j 0)=true→o j=true→o' j=true):(goT l o).length≤(goT l o').length:=by
 have ha:=zb5 l o;have hb:=zb5 l o';have eB:(resT l o).filter (fun j=>!(isPn (l.getD j 0)&&o' j))=resT l o':=by
  unfold resT;rw [List.filter_filter];refine List.filter_congr fun j _=>?_
  cases c1:isPn (l.getD j 0) with
  | false=>rfl
  | true=>
   cases c2:o j with
   | false=>simp
   | true=>rw [h j c1 c2];rfl
 have hk:∀ j,(!(isPn (l.getD j 0)&&o' j))=false→isPn (l.getD j 0)=true:=fun j q=>by
  cases c1:isPn (l.getD j 0) with
  | true=>rfl
  | false=>rw [c1] at q;cases q
 have m:=(zf5 hs hk (resT l o) [] [] ha.1 (.refl _)).len;rw [List.nil_append,eB,← zuw hs hb.1] at m;have m2:=zto (ltsL l (((resT l o).foldl (outS l) []).filter fun j=>!(isPn (l.getD j 0)&&o' j))) [];rw [zh0,List.length_nil,Nat.zero_add] at m2;have c1:=zt0 hs o;have c2:=zt0 hs o';have n1:=zih (fun j=>!(isPn (l.getD j 0)&&o' j)) (resT l o);have n2:=zih (fun j=>!(isPn (l.getD j 0)&&o' j)) ((resT l o).foldl (outS l) [])
 have e2:((resT l o).foldl (outS l) []).filter (fun z=>!!(isPn (l.getD z 0)&&o' z))=(resT l o).filter (fun z=>!!(isPn (l.getD z 0)&&o' z)):=zfc ((zfr (l:=l) ha).1.sub _).1 (ha.sub _).1 fun z=>by
  rw [List.mem_filter,List.mem_filter];obtain ⟨f1,f2⟩:=zc4 (l:=l) hs (z:=z) (resT l o) [] ha.1;refine ⟨fun q=>⟨f1 q.1,q.2⟩,fun q=>⟨f2 (hk z ?_) q.1,q.2⟩⟩;have:=q.2;simpa using this
 rw [eB] at n1;rw [e2] at n2;have e3:tigL l (resT l o)=(resT l o).foldl (outS l) []:=rfl;rw [e3] at c1;omega
end
section
def sw (i x:Nat):Nat:=if x=i then i-1 else if x+1=i then i else x
theorem sw_sw {i:Nat} (h:0<i) (x:Nat):sw i (sw i x)=x:=by
 unfold sw;repeat' split
 all_goals omega
structure Pm (n:Nat) where
 f:Nat→Nat
 g:Nat→Nat
 fg:∀ x,f (g x)=x
 gf:∀ x,g (f x)=x
 out:∀ x,n≤x→f x=x
namespace Pm
variable {n:Nat}
theorem inj (p:Pm n) {x y:Nat} (h:p.f x=p.f y):x=y:=by rw [← p.gf x,← p.gf y,h]
theorem injg (p:Pm n) {x y:Nat} (h:p.g x=p.g y):x=y:=by rw [← p.fg x,← p.fg y,h]
theorem outg (p:Pm n) (x:Nat) (h:n≤x):p.g x=x:=by
 have:=p.out x h;have h2:=p.gf x;rw [this] at h2;exact h2
theorem lt (p:Pm n) {x:Nat} (h:x<n):p.f x<n:=by
 rcases Nat.lt_or_ge (p.f x) n with h1|h1
 ·exact h1
 ·have h2:=p.outg _ h1;rw [p.gf] at h2;omega
theorem ltg (p:Pm n) {x:Nat} (h:x<n):p.g x<n:=by
 rcases Nat.lt_or_ge (p.g x) n with h1|h1
 ·exact h1
 ·have h2:=p.out _ h1;rw [p.fg] at h2;omega
theorem ext {p q:Pm n} (h:∀ x,p.f x=q.f x):p=q:=by
 have h2:∀ x,p.g x=q.g x:=fun x=>by
  apply p.inj;rw [p.fg,h,q.fg]
 cases p;cases q;congr
 ·exact funext h
 ·exact funext h2
def L (i:Nat) (h:0<i∧i<n) (p:Pm n):Pm n:=⟨fun x=>p.f (sw i x),fun x=>sw i (p.g x),fun x=>by rw [sw_sw h.1,p.fg],fun x=>by rw [p.gf,sw_sw h.1],fun x hx=>by
 have:sw i x=x:=by unfold sw;rw [if_neg (by omega),if_neg (by omega)]
 rw [this];exact p.out x hx⟩
def R (i:Nat) (h:0<i∧i<n) (p:Pm n):Pm n:=⟨fun x=>sw i (p.f x),fun x=>p.g (sw i x),fun x=>by rw [p.fg,sw_sw h.1],fun x=>by rw [sw_sw h.1,p.gf],fun x hx=>by
 rw [p.out x hx];unfold sw;rw [if_neg (by omega),if_neg (by omega)]⟩
def beg (p:Pm n) (i:Nat):Prop:=p.f i<p.f (i-1)
def fin (p:Pm n) (i:Nat):Prop:=p.g i<p.g (i-1)
theorem nbeg {p:Pm n} {i:Nat} (h:0<i):¬ p.beg i↔p.f (i-1)<p.f i:=by
 unfold beg;constructor
 ·intro h1;rcases Nat.lt_or_ge (p.f (i-1)) (p.f i) with h2|h2
  ·exact h2
  ·have:p.f (i-1)=p.f i:=by omega
   have:=p.inj this;omega
 ·intro h1;omega
theorem nfin {p:Pm n} {i:Nat} (h:0<i):¬ p.fin i↔p.g (i-1)<p.g i:=by
 unfold fin;constructor
 ·intro h1;rcases Nat.lt_or_ge (p.g (i-1)) (p.g i) with h2|h2
  ·exact h2
  ·have:p.g (i-1)=p.g i:=by omega
   have:=p.injg this;omega
 ·intro h1;omega
theorem sw_lt {i x y:Nat} (h:0<i) (hxy:x<y) (hs:sw i y<sw i x):x+1=i∧y=i:=by
 unfold sw at hs
 repeat' split at hs
 all_goals omega
theorem sw_keep {i x y:Nat} (h:0<i) (hxy:x<y) (hn:¬ (x+1=i∧y=i)):sw i x<sw i y:=by
 unfold sw
 repeat' split
 all_goals omega
theorem fin_of_L {p:Pm n} {i j:Nat} (hi:0<i∧i<n) (hj:0<j) (hb:p.beg i) (h:(L i hi p).fin j):p.fin j:=by
 apply Classical.byContradiction;intro hn;have h1:=(nfin hj).1 hn;have h2:sw i (p.g j)<sw i (p.g (j-1)):=h;obtain ⟨h3,h4⟩:=sw_lt hi.1 h1 h2;have h5:p.f i=j:=by rw [← h4,p.fg]
 have h6:p.f (i-1)=j-1:=by rw [show i-1=p.g (j-1) by omega,p.fg]
 unfold beg at hb;omega
theorem beg_R {p:Pm n} {i j:Nat} (hj:0<j∧j<n) (hi:0<i) (hb:p.beg i) (hf:¬ p.fin j):(R j hj p).beg i:=by
 show sw j (p.f i)<sw j (p.f (i-1));apply sw_keep hj.1 hb
 rintro ⟨h1,h2⟩
 have h3:p.g j=i-1:=by rw [← h2,p.gf]
 have h4:p.g (j-1)=i:=by rw [show j-1=p.f i by omega,p.gf]
 have:=(nfin hj.1).1 hf;omega
end Pm
inductive Mv {n:Nat}:List (Pm n)→List (Pm n)→Prop
 | here (a b:Pm n) (l:List (Pm n)) (i:Nat) (hi:0<i∧i<n) (hb:b.beg i) (hf:¬ a.fin i):Mv (a::b::l) (a.R i hi::b.L i hi::l)
 | there (a:Pm n) {l m:List (Pm n)} (h:Mv l m):Mv (a::l) (a::m)
inductive Mvs {n:Nat}:List (Pm n)→List (Pm n)→Prop
 | refl (s:List (Pm n)):Mvs s s
 | step {s t u:List (Pm n)} (h:Mv s t) (k:Mvs t u):Mvs s u
variable {n:Nat}
theorem Mvs.trans {s t u:List (Pm n)} (h:Mvs s t) (k:Mvs t u):Mvs s u:=by
 induction h with
 | refl s=>exact k
 | step h _ ih=>exact .step h (ih k)
theorem Mvs.one {s t:List (Pm n)} (h:Mv s t):Mvs s t:=.step h (.refl _)
theorem Mvs.there (a:Pm n) {s t:List (Pm n)} (h:Mvs s t):Mvs (a::s) (a::t):=by
 induction h with
 | refl s=>exact .refl _
 | step h _ ih=>exact .step (.there a h) ih
theorem Mv.app {s t:List (Pm n)} (r:List (Pm n)) (h:Mv s t):Mv (s++r) (t++r):=by
 induction h with
 | here a b l i hi hb hf=>exact .here a b (l++r) i hi hb hf
 | there a _ ih=>exact .there a ih
theorem Mvs.app {s t:List (Pm n)} (r:List (Pm n)) (h:Mvs s t):Mvs (s++r) (t++r):=by
 induction h with
 | refl s=>exact .refl _
 | step h _ ih=>exact .step (h.app r) ih
theorem Mvs.pre (r:List (Pm n)) {s t:List (Pm n)} (h:Mvs s t):Mvs (r++s) (r++t):=by
 induction r with
 | nil=>exact h
 | cons a r ih=>exact ih.there a
theorem Mv.len {s t:List (Pm n)} (h:Mv s t):t.length=s.length:=by
 induction h with
 | here=>rfl
 | there a _ ih=>simp [ih]
theorem Mvs.len {s t:List (Pm n)} (h:Mvs s t):t.length=s.length:=by
 induction h with
 | refl=>rfl
 | step h _ ih=>rw [ih,h.len]
namespace Pm
theorem sw_comm {i j:Nat} (h:i+2≤j) (hi:0<i) (x:Nat):sw i (sw j x)=sw j (sw i x):=by
 unfold sw
 repeat' split
 all_goals omega
theorem sw_at (i:Nat):sw i i=i-1:=by unfold sw;rw [if_pos rfl]
theorem sw_pre {i:Nat} (h:0<i):sw i (i-1)=i:=by unfold sw;rw [if_neg (by omega),if_pos (by omega)]
theorem sw_ne {i x:Nat} (h1:x≠i) (h2:x+1≠i):sw i x=x:=by unfold sw;rw [if_neg h1,if_neg h2]
theorem sw_braid {i:Nat} (hi:0<i) (x:Nat):sw i (sw (i+1) (sw i x))=sw (i+1) (sw i (sw (i+1) x)):=by
 have s1:sw i (i+1)=i+1:=sw_ne (by omega) (by omega);have s2:sw (i+1) (i-1)=i-1:=sw_ne (by omega) (by omega);have s3:sw (i+1) (i+1)=i:=sw_at (i+1);have s4:sw (i+1) i=i+1:=sw_pre (i:=i+1) (by omega);have s5:=sw_at i;have s6:=sw_pre hi
 by_cases h1:x=i-1
 ·rw [h1,s6,s4,s1,s2,s6,s4]
 ·by_cases h2:x=i
  ·rw [h2,s5,s2,s6,s4,s1,s3]
  ·by_cases h3:x=i+1
   ·rw [h3,s1,s3,s5,s2]
   ·rw [sw_ne (i:=i) (x:=x) (by omega) (by omega),sw_ne (i:=i+1) (x:=x) (by omega) (by omega),sw_ne (i:=i) (x:=x) (by omega) (by omega),sw_ne (i:=i+1) (x:=x) (by omega) (by omega)]
theorem here2 (a b:Pm n) (l:List (Pm n)) {i j:Nat} (hi:0<i∧i<n) (hj:0<j∧j<n) (hij:i<j) (hb:b.beg i) (hb2:b.beg j) (hf:¬ a.fin i) (hf2:¬ a.fin j) :
  ∃ u,Mvs (a.R i hi::b.L i hi::l) u∧Mvs (a.R j hj::b.L j hj::l) u:=by
 have f1:=(nfin hi.1).1 hf;have f2:=(nfin hj.1).1 hf2;unfold beg at hb hb2
 by_cases h:i+2≤j
 ·refine ⟨(a.R i hi).R j hj::(b.L i hi).L j hj::l,.one (.here _ _ _ j hj ?_ ?_),?_⟩
  ·show b.f (sw i j)<b.f (sw i (j-1));rw [sw_ne (by omega) (by omega),sw_ne (by omega) (by omega)];exact hb2
  ·rw [nfin hj.1];show a.g (sw i (j-1))<a.g (sw i j);rw [sw_ne (by omega) (by omega),sw_ne (by omega) (by omega)];exact f2
  ·have e1:(a.R i hi).R j hj=(a.R j hj).R i hi:=ext fun x=>(sw_comm h hi.1 _).symm;have e2:(b.L i hi).L j hj=(b.L j hj).L i hi:=ext fun x=>by
    show b.f (sw i (sw j x))=b.f (sw j (sw i x));rw [sw_comm h hi.1]
   rw [e1,e2];refine .one (.here _ _ _ i hi ?_ ?_)
   ·show b.f (sw j i)<b.f (sw j (i-1));rw [sw_ne (by omega) (by omega),sw_ne (by omega) (by omega)];exact hb
   ·rw [nfin hi.1];show a.g (sw j (i-1))<a.g (sw j i);rw [sw_ne (by omega) (by omega),sw_ne (by omega) (by omega)];exact f1
 ·have hj2:j=i+1:=by omega
  subst hj2;rw [show i+1-1=i by omega] at f2 hb2;have s1:sw i (i+1)=i+1:=sw_ne (by omega) (by omega);have s2:sw (i+1) (i-1)=i-1:=sw_ne (by omega) (by omega);have s3:sw (i+1) (i+1)=i:=sw_at (i+1);have s4:sw (i+1) i=i+1:=sw_pre (i:=i+1) (by omega);have s5:=sw_at i;have s6:=sw_pre hi.1;refine ⟨((a.R i hi).R (i+1) hj).R i hi::((b.L i hi).L (i+1) hj).L i hi::l,.step (.here _ _ _ (i+1) hj ?_ ?_) (.one (.here _ _ _ i hi ?_ ?_)),?_⟩
  ·show b.f (sw i (i+1))<b.f (sw i i);rw [s1,s5];omega
  ·rw [nfin hj.1];show a.g (sw i i)<a.g (sw i (i+1));rw [s1,s5];omega
  ·show b.f (sw i (sw (i+1) i))<b.f (sw i (sw (i+1) (i-1)));rw [s4,s2,s1,s6];exact hb2
  ·rw [nfin hi.1];show a.g (sw i (sw (i+1) (i-1)))<a.g (sw i (sw (i+1) i));rw [s4,s2,s1,s6];exact f2
  ·have e1:((a.R i hi).R (i+1) hj).R i hi=((a.R (i+1) hj).R i hi).R (i+1) hj:=ext fun x=>sw_braid hi.1 _;have e2:((b.L i hi).L (i+1) hj).L i hi=((b.L (i+1) hj).L i hi).L (i+1) hj:=ext fun x=>by
    show b.f (sw i (sw (i+1) (sw i x)))=b.f (sw (i+1) (sw i (sw (i+1) x)));rw [sw_braid hi.1]
   rw [e1,e2];refine .step (.here _ _ _ i hi ?_ ?_) (.one (.here _ _ _ (i+1) hj ?_ ?_))
   ·show b.f (sw (i+1) i)<b.f (sw (i+1) (i-1));rw [s4,s2];omega
   ·rw [nfin hi.1];show a.g (sw (i+1) (i-1))<a.g (sw (i+1) i);rw [s4,s2];omega
   ·show b.f (sw (i+1) (sw i (i+1)))<b.f (sw (i+1) (sw i i));rw [s1,s5,s3,s2];exact hb
   ·rw [nfin hj.1];show a.g (sw (i+1) (sw i i))<a.g (sw (i+1) (sw i (i+1)));rw [s1,s5,s3,s2];exact f1
end Pm
theorem Mv.join {s t1 t2:List (Pm n)} (h:Mv s t1) (k:Mv s t2):∃ u,Mvs t1 u∧Mvs t2 u:=by
 induction h generalizing t2 with
 | here a b l i hi hb hf=>
  cases k with
  | here _ _ _ j hj hb2 hf2=>
   rcases Nat.lt_trichotomy i j with h|h|h
   ·exact Pm.here2 a b l hi hj h hb hb2 hf hf2
   ·subst h;exact ⟨_,.refl _,.refl _⟩
   ·obtain ⟨u,h1,h2⟩:=Pm.here2 a b l hj hi h hb2 hb hf2 hf;exact ⟨u,h2,h1⟩
  | there _ k=>
   cases k with
   | here _ c m j hj hb2 hf2=>exact ⟨a.R i hi::(b.L i hi).R j hj::c.L j hj::m,.one (.there _ (.here _ _ _ j hj hb2 (fun e=>hf2 (Pm.fin_of_L hi hj.1 hb e)))),.one (.here a (b.R j hj) _ i hi (Pm.beg_R hj hi.1 hb hf2) hf)⟩
   | there _ k=>exact ⟨a.R i hi::b.L i hi::_,.one (.there _ (.there _ k)),.one (.here a b _ i hi hb hf)⟩
 | there a h ih=>
  cases k with
  | here _ b l i hi hb hf=>
   cases h with
   | here _ c m j hj hb2 hf2=>exact ⟨a.R i hi::(b.L i hi).R j hj::c.L j hj::m,.one (.here a (b.R j hj) _ i hi (Pm.beg_R hj hi.1 hb hf2) hf),.one (.there _ (.here _ _ _ j hj hb2 (fun e=>hf2 (Pm.fin_of_L hi hj.1 hb e))))⟩
   | there _ k=>exact ⟨a.R i hi::b.L i hi::_,.one (.here a b _ i hi hb hf),.one (.there _ (.there _ k))⟩
  | there _ k=>
   obtain ⟨u,k1,k2⟩:=ih k;exact ⟨a::u,k1.there a,k2.there a⟩
def Sum (F:Nat→Nat):Nat→Nat
 | 0=>0
 | k+1=>Sum F k+F k
theorem zub {F G:Nat→Nat}:∀ k:Nat,(∀ x,x<k→F x=G x)→Sum F k=Sum G k
 | 0,_=>rfl
 | k+1,h=>by
  show Sum F k+F k=Sum G k+G k;rw [zub k (fun x hx=>h x (by omega)),h k (by omega)]
theorem zqs {F G:Nat→Nat} {p:Nat}:∀ k:Nat,p<k→(∀ x,x<k→x≠p→F x=G x)→Sum F k+G p=Sum G k+F p
 | k+1,hp,h=>by
  show Sum F k+F k+G p=Sum G k+G k+F p
  by_cases e:p=k
  ·subst e;rw [zub (G:=G) p (fun x hx=>h x (by omega) (by omega))];omega
  ·have:=zqs (F:=F) (G:=G) k (by omega) (fun x hx=>h x (by omega));rw [h k (by omega) (by omega)];omega
theorem zk5 {F G:Nat→Nat} {p q:Nat}:∀ k:Nat,p<q→q<k→(∀ x,x<k→x≠p→x≠q→F x=G x)→Sum F k+G p+G q=Sum G k+F p+F q
 | k+1,hp,hq,h=>by
  show Sum F k+F k+G p+G q=Sum G k+G k+F p+F q
  by_cases e:q=k
  ·subst e;have:=zqs (F:=F) (G:=G) q hp (fun x hx hn=>h x (by omega) hn (by omega));omega
  ·have:=zk5 (F:=F) (G:=G) k hp (by omega) (fun x hx=>h x (by omega));rw [h k (by omega) (by omega) (by omega)];omega
theorem zua {F:Nat→Nat} {b:Nat}:∀ k:Nat,(∀ x,x<k→F x≤b)→Sum F k≤k*b
 | 0,_=>Nat.zero_le _
 | k+1,h=>by
  show Sum F k+F k≤_;have h1:=zua k (fun x hx=>h x (by omega));have h2:=h k (by omega);rw [Nat.succ_mul];omega
namespace Pm
def W (p:Pm n):Nat:=Sum (fun x=>x*p.f x) n
theorem W_le (p:Pm n):p.W≤n*(n*n):=zua n fun x hx=>Nat.mul_le_mul (by omega) (by have:=p.lt hx;omega)
theorem W_R (p:Pm n) {i:Nat} (hi:0<i∧i<n) (h:¬ p.fin i):(p.R i hi).W<p.W:=by
 have h1:=(nfin hi.1).1 h;have h2:=p.ltg hi.2;have h3:=zk5 (F:=fun x=>x*(p.R i hi).f x) (G:=fun x=>x*p.f x) n h1 h2 (fun x hx n1 n2=>by
  show x*sw i (p.f x)=x*p.f x;rw [sw_ne (fun e=>n2 (by rw [← e,p.gf])) (fun e=>n1 (by rw [show i-1=p.f x by omega,p.gf]))])
 have e1:(p.R i hi).f (p.g (i-1))=i:=by show sw i (p.f (p.g (i-1)))=i;rw [p.fg,sw_pre hi.1]
 have e2:(p.R i hi).f (p.g i)=i-1:=by show sw i (p.f (p.g i))=_;rw [p.fg,sw_at]
 simp only [e1,e2,p.fg] at h3;show Sum _ n<Sum _ n;have m1:p.g (i-1)*i=p.g (i-1)*(i-1)+p.g (i-1):=by
  conv=>lhs;rw [show i=(i-1)+1 by omega]
  rw [Nat.mul_succ];rfl
 have m2:p.g i*i=p.g i*(i-1)+p.g i:=by
  conv=>lhs;rw [show i=(i-1)+1 by omega]
  rw [Nat.mul_succ,show i-1+1=i by omega]
 omega
end Pm
def mu:List (Pm n)→Nat
 | []=>0
 | a::l=>a.W*(n*(n*n)+1) ^ l.length+mu l
theorem mu_lt:∀ l:List (Pm n),mu l<(n*(n*n)+1) ^ l.length
 | []=>by simp [mu]
 | a::l=>by
  show a.W*_+mu l<(n*(n*n)+1) ^ (l.length+1);have h1:=mu_lt l;have h2:=a.W_le;have h3:=Nat.mul_le_mul_right ((n*(n*n)+1) ^ l.length) h2;rw [Nat.pow_succ,Nat.mul_comm _ (n*(n*n)+1),Nat.succ_mul];omega
theorem Mv.mu {s t:List (Pm n)} (h:Mv s t):Ev.mu t<Ev.mu s:=by
 induction h with
 | here a b l i hi hb hf=>
  show (a.R i hi).W*(n*(n*n)+1) ^ (l.length+1)+Ev.mu (b.L i hi::l)<a.W*(n*(n*n)+1) ^ (l.length+1)+Ev.mu (b::l);have h1:=mu_lt (b.L i hi::l);have h2:=a.W_R hi hf;have h3:=Nat.mul_le_mul_right ((n*(n*n)+1) ^ (l.length+1)) (Nat.succ_le_of_lt h2);rw [Nat.succ_mul] at h3;rw [List.length_cons] at h1;omega
 | there a h ih=>
  show a.W*_+_<a.W*_+_;rw [h.len];omega
def Nrm (s:List (Pm n)):Prop:=∀ t,¬ Mv s t
theorem zvk {s t:List (Pm n)} (hs:Nrm s) (h:Mvs s t):t=s:=by
 cases h with
 | refl=>rfl
 | step h _=>exact absurd h (hs _)
theorem zjb:∀ (k:Nat) (s:List (Pm n)),mu s≤k→∃ t,Mvs s t∧Nrm t
 | k,s,h=>by
  by_cases hs:Nrm s
  ·exact ⟨s,.refl _,hs⟩
  ·have hs:∃ t,Mv s t:=Classical.byContradiction fun e=>hs fun t ht=>e ⟨t,ht⟩;obtain ⟨t,ht⟩:=hs;have:=ht.mu
   match k with
   | 0=>omega
   | k+1=>
    obtain ⟨u,h1,h2⟩:=zjb k t (by omega);exact ⟨u,.step ht h1,h2⟩
theorem zkb:∀ (k:Nat) (s:List (Pm n)),mu s≤k→∀ {t u:List (Pm n)},Mvs s t→Mvs s u→Nrm t→Nrm u→t=u
 | k,s,hk,t,u,h1,h2,n1,n2=>by
  cases h1 with
  | refl=>exact (zvk n1 h2).symm
  | step m1 r1=>
   cases h2 with
   | refl=>exact absurd m1 (n2 _)
   | step m2 r2=>
    obtain ⟨v,j1,j2⟩:=m1.join m2;obtain ⟨w,w1,w2⟩:=zjb _ v (Nat.le_refl _);have q1:=m1.mu;have q2:=m2.mu
    match k with
    | 0=>omega
    | k+1=>exact (zkb k _ (by omega) r1 (j1.trans w1) n1 w2).trans (zkb k _ (by omega) (j2.trans w1) r2 w2 n2)
noncomputable def NF (s:List (Pm n)):List (Pm n):=Classical.choose (zjb (mu s) s (Nat.le_refl _))
theorem NF_mv (s:List (Pm n)):Mvs s (NF s):=(Classical.choose_spec (zjb (mu s) s (Nat.le_refl _))).1
theorem zdt (s:List (Pm n)):Nrm (NF s):=(Classical.choose_spec (zjb (mu s) s (Nat.le_refl _))).2
theorem NF_of {s t:List (Pm n)} (h:Mvs s t) (k:Nrm t):NF s=t:=zkb _ s (Nat.le_refl _) (NF_mv s) h (zdt s) k
theorem NF_eq {s t:List (Pm n)} (h:Mvs s t):NF t=NF s:=(NF_of (h.trans (NF_mv t)) (zdt t)).symm
theorem zmp (s:List (Pm n)):(NF s).length=s.length:=(NF_mv s).len
def Lw (a b:Pm n):Prop:=∀ i:Nat,0<i→i<n→b.beg i→a.fin i
theorem za3 {a b:Pm n} {l:List (Pm n)}:Nrm (a::b::l)↔Lw a b∧Nrm (b::l):=by
 constructor
 ·intro h;refine ⟨fun i h1 h2 hb=>Classical.byContradiction fun hf=>h _ (.here a b l i ⟨h1,h2⟩ hb hf),fun t ht=>h _ (.there a ht)⟩
 ·rintro ⟨h1,h2⟩ t ht
  cases ht with
  | here _ _ _ i hi hb hf=>exact hf (h1 i hi.1 hi.2 hb)
  | there _ h=>exact h2 _ h
theorem zbd (a:Pm n):Nrm [a]:=fun t ht=>by
 cases ht with
 | there _ h=>cases h
theorem zkc:Nrm ([]:List (Pm n)):=fun t ht=>by cases ht
structure Sl (a b a' b':Pm n):Prop where
 prod:∀ x,b'.f (a'.f x)=b.f (a.f x)
 inv:∀ x y,x<y→a.f y<a.f x→a'.f y<a'.f x
 sub:∀ x y,x<y→a'.f (a.g y)<a'.f (a.g x)→b.f y<b.f x
theorem Sl.refl (a b:Pm n):Sl a b a b:=⟨fun _=>rfl,fun _ _ _ h=>h,fun x y h k=>by rw [a.fg,a.fg] at k;omega⟩
theorem Sl.step {a b a' b':Pm n} {i:Nat} (hi:0<i∧i<n) (h:Sl a b a' b') (hb:b'.beg i) (hf:¬ a'.fin i):Sl a b (a'.R i hi) (b'.L i hi):=by
 refine ⟨fun x=>?_,fun x y hxy hx=>?_,fun x y hxy hx=>?_⟩
 ·show b'.f (sw i (sw i (a'.f x)))=_;rw [sw_sw hi.1];exact h.prod x
 ·have h1:=h.inv x y hxy hx;show sw i (a'.f y)<sw i (a'.f x);apply Pm.sw_keep hi.1 h1
  rintro ⟨e1,e2⟩
  have f1:=(Pm.nfin hi.1).1 hf;have g1:a'.g i=x:=by rw [← e2,a'.gf]
  have g2:a'.g (i-1)=y:=by rw [show i-1=a'.f y by omega,a'.gf]
  omega
 ·have hx:sw i (a'.f (a.g y))<sw i (a'.f (a.g x)):=hx;rcases Nat.lt_or_ge (a'.f (a.g y)) (a'.f (a.g x)) with h1|h1
  ·exact h.sub x y hxy h1
  ·have h2:a'.f (a.g x)<a'.f (a.g y):=by
    have:a'.f (a.g x)≠a'.f (a.g y):=fun e=>by
     have:=a.injg (a'.inj e);omega
    omega
   obtain ⟨e1,e2⟩:=Pm.sw_lt hi.1 h2 hx;have p1:=h.prod (a.g x);have p2:=h.prod (a.g y);rw [a.fg] at p1 p2;rw [← p1,← p2,e2,show a'.f (a.g x)=i-1 by omega];exact hb
theorem Mvs.pair {a b:Pm n}:∀ {s t:List (Pm n)},Mvs s t→∀ {a' b':Pm n},s=[a',b']→Sl a b a' b'→∃ c d,t=[c,d]∧Sl a b c d:=by
 intro s t h
 induction h with
 | refl s=>intro a' b' e k;exact ⟨a',b',e,k⟩
 | step h _ ih=>
  intro a' b' e k;subst e
  cases h with
  | here _ _ _ i hi hb hf=>exact ih rfl (k.step hi hb hf)
  | there _ h=>
   cases h with
   | there _ h=>cases h
theorem zqt (a b:Pm n):∃ c d,NF [a,b]=[c,d]∧Sl a b c d∧Lw c d:=by
 obtain ⟨c,d,h1,h2⟩:=(NF_mv [a,b]).pair rfl (Sl.refl a b);have:=zdt [a,b];rw [h1] at this;exact ⟨c,d,h1,h2,(za3.1 this).1⟩
end
section
variable {n:Nat}
namespace Pm
def one (n:Nat):Pm n:=⟨fun x=>x,fun x=>x,fun _=>rfl,fun _=>rfl,fun _ _=>rfl⟩
def rv (n x:Nat):Nat:=if x<n then n-1-x else x
theorem rv_rv (n x:Nat):rv n (rv n x)=x:=by
 unfold rv
 by_cases h:x<n
 ·rw [if_pos h,if_pos (by omega)];omega
 ·rw [if_neg h,if_neg h]
def del (n:Nat):Pm n:=⟨rv n,rv n,rv_rv n,rv_rv n,fun x h=>by unfold rv;rw [if_neg (by omega)]⟩
def trn (p:Pm n):Pm n:=⟨fun x=>rv n (p.f (rv n x)),fun x=>rv n (p.g (rv n x)),fun x=>by rw [rv_rv,p.fg,rv_rv],fun x=>by rw [rv_rv,p.gf,rv_rv],fun x h=>by
 have:rv n x=x:=by unfold rv;rw [if_neg (by omega)]
 rw [this,p.out x h,this]⟩
theorem trn_trn (p:Pm n):p.trn.trn=p:=ext fun x=>by
 show rv n (rv n (p.f (rv n (rv n x))))=_;rw [rv_rv,rv_rv]
theorem del_fin {i:Nat} (h:0<i) (h2:i<n):(del n).fin i:=by
 show rv n i<rv n (i-1);unfold rv;rw [if_pos h2,if_pos (by omega)];omega
theorem one_beg (i:Nat) (h:0<i):¬ (one n).beg i:=by
 rw [nbeg h];show i-1<i;omega
theorem inc_id {f:Nat→Nat} (hf:∀ x,x<n→f x<n) (h:∀ i,0<i→i<n→f (i-1)<f i):∀ x,x<n→f x=x:=by
 have lo:∀ x,x<n→x≤f x:=by
  intro x
  induction x with
  | zero=>intro _;exact Nat.zero_le _
  | succ x ih=>
   intro hx;have h1:=ih (by omega);have h2:=h (x+1) (by omega) hx;rw [Nat.add_sub_cancel] at h2;omega
 have hi:∀ d x,x+d=n→0<d→f x≤x:=by
  intro d
  induction d with
  | zero=>intro x _ h0;omega
  | succ d ih=>
   intro x hx _
   by_cases hd:d=0
   ·have:=hf x (by omega);omega
   ·have h1:=ih (x+1) (by omega) (by omega);have h2:=h (x+1) (by omega) (by omega);rw [Nat.add_sub_cancel] at h2;omega
 intro x hx;have:=lo x hx;have:=hi (n-x) x (by omega) (by omega);omega
theorem one_of {p:Pm n} (h:∀ i,0<i→i<n→¬ p.beg i):p=one n:=ext fun x=>by
 by_cases hx:x<n
 ·exact inc_id (fun x h=>p.lt h) (fun i h1 h2=>(nbeg h1).1 (h i h1 h2)) x hx
 ·exact p.out x (by omega)
theorem del_of {p:Pm n} (h:∀ i,0<i→i<n→p.fin i):p=del n:=by
 have key:∀ x,p.g x=rv n x:=by
  intro x
  by_cases hx:x<n
  ·have h1:=inc_id (n:=n) (f:=fun y=>p.g (n-1-y)) (fun y hy=>p.ltg (by omega)) (fun i h1 h2=>by
    have h3:=h (n-i) (by omega) (by omega);unfold fin at h3;show p.g (n-1-(i-1))<p.g (n-1-i);rw [show n-1-(i-1)=n-i by omega,show n-1-i=n-i-1 by omega];exact h3) (n-1-x) (by omega)
   have h2:p.g (n-1-(n-1-x))=n-1-x:=h1;rw [show n-1-(n-1-x)=x by omega] at h2;unfold rv;rw [if_pos hx];exact h2
  ·rw [p.outg x (by omega)];unfold rv;rw [if_neg hx]
 apply ext;intro x;apply p.injg;rw [p.gf,key];exact (rv_rv n x).symm
end Pm
theorem zx3 (b:Pm n):Lw (Pm.del n) b:=fun i h1 h2 _=>Pm.del_fin h1 h2
theorem zue (a:Pm n):Lw a (Pm.one n):=fun i h1 _ hb=>absurd hb (Pm.one_beg i h1)
theorem zxj {b:Pm n} (h:Lw (Pm.one n) b):b=Pm.one n:=Pm.one_of fun i h1 h2 hb=>by
 have h3:i<i-1:=h i h1 h2 hb;omega
theorem zqu {a:Pm n} (h:Lw a (Pm.del n)):a=Pm.del n:=Pm.del_of fun i h1 h2=>h i h1 h2 (by
 show Pm.rv n i<Pm.rv n (i-1);unfold Pm.rv;rw [if_pos h2,if_pos (by omega)];omega)
theorem zud (p:Pm n):NF [Pm.one n,p]=[p,Pm.one n]:=by
 obtain ⟨c,d,h1,h2,h3⟩:=zqt (Pm.one n) p;have hd:d=Pm.one n:=Pm.one_of fun i i1 i2 hb=>by
  have hf:=h3 i i1 i2 hb;unfold Pm.fin at hf;unfold Pm.beg at hb;have:=h2.sub (c.g i) (c.g (i-1)) hf (by show c.f (c.g (i-1))<c.f (c.g i);rw [c.fg,c.fg];omega);rw [show p.f (c.g (i-1))=d.f (c.f (c.g (i-1))) from (h2.prod _).symm,show p.f (c.g i)=d.f (c.f (c.g i)) from (h2.prod _).symm,c.fg,c.fg] at this
  omega
 have hc:c=p:=Pm.ext fun x=>by
  have:=h2.prod x;rw [hd] at this;exact this
 rw [h1,hc,hd]
theorem rv_sw {i:Nat} (h:0<i∧i<n) (x:Nat):Pm.rv n (sw i x)=sw (n-i) (Pm.rv n x):=by
 by_cases h1:x=i
 ·subst h1;rw [Pm.sw_at];unfold Pm.rv;rw [if_pos (by omega),if_pos h.2,show n-1-x=n-x-1 by omega,Pm.sw_pre (by omega)];omega
 ·by_cases h2:x+1=i
  ·have:x=i-1:=by omega
   subst this;rw [Pm.sw_pre h.1];unfold Pm.rv;rw [if_pos h.2,if_pos (by omega),show n-1-(i-1)=n-i by omega,Pm.sw_at];omega
  ·rw [Pm.sw_ne h1 h2];have h3:Pm.rv n x≠n-i:=by
    unfold Pm.rv
    by_cases hx:x<n
    ·rw [if_pos hx];omega
    ·rw [if_neg hx];omega
   have h4:Pm.rv n x+1≠n-i:=by
    unfold Pm.rv
    by_cases hx:x<n
    ·rw [if_pos hx];omega
    ·rw [if_neg hx];omega
   rw [Pm.sw_ne h3 h4]
theorem rv_lt {x y:Nat} (hx:x<n) (hy:y<n):Pm.rv n x<Pm.rv n y↔y<x:=by
 unfold Pm.rv;rw [if_pos hx,if_pos hy];omega
theorem Mv.trn {s t:List (Pm n)} (h:Mv s t):Mv (s.map Pm.trn) (t.map Pm.trn):=by
 induction h with
 | here a b l i hi hb hf=>
  have hi2:0<n-i∧n-i<n:=by omega
  have e1:(a.R i hi).trn=a.trn.R (n-i) hi2:=Pm.ext fun x=>by
   show Pm.rv n (sw i (a.f (Pm.rv n x)))=sw (n-i) (Pm.rv n (a.f (Pm.rv n x)));rw [rv_sw hi]
  have e2:(b.L i hi).trn=b.trn.L (n-i) hi2:=Pm.ext fun x=>by
   show Pm.rv n (b.f (sw i (Pm.rv n x)))=Pm.rv n (b.f (Pm.rv n (sw (n-i) x)));rw [rv_sw hi2,show n-(n-i)=i by omega]
  show Mv (a.trn::b.trn::l.map Pm.trn) ((a.R i hi).trn::(b.L i hi).trn::l.map Pm.trn);rw [e1,e2];have r1:Pm.rv n (n-i)=i-1:=by unfold Pm.rv;rw [if_pos hi2.2];omega
  have r2:Pm.rv n (n-i-1)=i:=by unfold Pm.rv;rw [if_pos (by omega)];omega
  refine .here _ _ _ _ hi2 ?_ ?_
  ·show Pm.rv n (b.f (Pm.rv n (n-i)))<Pm.rv n (b.f (Pm.rv n (n-i-1)));rw [r1,r2,rv_lt (b.lt (by omega)) (b.lt hi.2)];exact hb
  ·rw [Pm.nfin hi2.1];show Pm.rv n (a.g (Pm.rv n (n-i-1)))<Pm.rv n (a.g (Pm.rv n (n-i)));rw [r1,r2,rv_lt (a.ltg hi.2) (a.ltg (by omega))];exact (Pm.nfin hi.1).1 hf
 | there a _ ih=>exact .there _ ih
theorem Mvs.trn {s t:List (Pm n)} (h:Mvs s t):Mvs (s.map Pm.trn) (t.map Pm.trn):=by
 induction h with
 | refl s=>exact .refl _
 | step h _ ih=>exact .step h.trn ih
theorem zvo (s:List (Pm n)):(s.map Pm.trn).map Pm.trn=s:=by
 rw [List.map_map]
 conv=>rhs;rw [← List.map_id s]
 exact List.map_congr_left fun p _=>p.trn_trn
theorem Nrm.trn {s:List (Pm n)} (h:Nrm s):Nrm (s.map Pm.trn):=fun t ht=>by
 have:=ht.trn;rw [zvo] at this;exact h _ this
theorem zx1 (s:List (Pm n)):NF (s.map Pm.trn)=(NF s).map Pm.trn:=NF_of (NF_mv s).trn (zdt s).trn
theorem zn4:(Pm.del n).trn=Pm.del n:=Pm.ext fun x=>by
 show Pm.rv n (Pm.rv n (Pm.rv n x))=Pm.rv n x;rw [Pm.rv_rv]
theorem zn3:(Pm.one n).trn=Pm.one n:=Pm.ext fun x=>Pm.rv_rv n x
theorem zvl {a b:Pm n} {l:List (Pm n)}:Nrm (l++[a,b])↔Nrm (l++[a])∧Lw a b:=by
 induction l with
 | nil=>exact ⟨fun h=>⟨zbd a,(za3.1 h).1⟩,fun h=>za3.2 ⟨h.2,zbd b⟩⟩
 | cons x l ih=>
  cases l with
  | nil=>
   show Nrm (x::a::[b])↔Nrm [x,a]∧_;rw [za3,za3,za3];exact ⟨fun h=>⟨⟨h.1,zbd a⟩,h.2.1⟩,fun h=>⟨h.1.1,h.2,zbd b⟩⟩
  | cons y l=>
   show Nrm (x::y::(l++[a,b]))↔Nrm (x::y::(l++[a]))∧_;rw [za3,za3,show y::(l++[a,b])=y::l++[a,b] from rfl,ih]
   exact ⟨fun h=>⟨⟨h.1,h.2.1⟩,h.2.2⟩,fun h=>⟨h.1.1,h.1.2,h.2⟩⟩
noncomputable def nf1 (a b:Pm n):Pm n:=(NF [a,b]).headD (Pm.one n)
noncomputable def nf2 (a b:Pm n):Pm n:=(NF [a,b]).tail.headD (Pm.one n)
theorem nf12 (a b:Pm n):NF [a,b]=[nf1 a b,nf2 a b]∧Sl a b (nf1 a b) (nf2 a b)∧Lw (nf1 a b) (nf2 a b):=by
 obtain ⟨c,d,h1,h2,h3⟩:=zqt a b;have e1:nf1 a b=c:=by unfold nf1;rw [h1];rfl
 have e2:nf2 a b=d:=by unfold nf2;rw [h1];rfl
 rw [e1,e2];exact ⟨h1,h2,h3⟩
theorem zsd {a b:Pm n} (h:nf1 a b=a):nf2 a b=b:=Pm.ext fun x=>by
 have h2:=(nf12 a b).2.1.prod (a.g x);rw [h,a.fg] at h2;exact h2
structure Rep (l:List (Pm n)) (m:Nat) (F:List (Pm n)):Prop where
 eq:∃ r,NF l=List.replicate m (Pm.del n)++(F++List.replicate r (Pm.one n))
 no1:∀ p,p∈F→p≠Pm.one n
 noD:∀ p,p∈F→p≠Pm.del n
theorem zhv {F:List (Pm n)} (h:Nrm F):∀ m:Nat,Nrm (List.replicate m (Pm.del n)++F)
 | 0=>h
 | m+1=>by
  have ih:=zhv h m;rw [List.replicate_succ]
  cases hx:List.replicate m (Pm.del n)++F with
  | nil=>rw [List.cons_append,hx];exact zbd _
  | cons b l=>rw [List.cons_append,hx];rw [hx] at ih;exact za3.2 ⟨zx3 b,ih⟩
theorem zhu {F:List (Pm n)} (h:Nrm F):∀ r:Nat,Nrm (F++List.replicate r (Pm.one n))
 | 0=>by rw [List.replicate_zero,List.append_nil];exact h
 | r+1=>by
  have ih:=zhu h r;rw [List.replicate_succ'];rw [← List.append_assoc]
  cases hx:(F++List.replicate r (Pm.one n)).reverse with
  | nil=>
   have:F++List.replicate r (Pm.one n)=[]:=by rw [← List.reverse_reverse (F++_),hx];rfl
   rw [this];exact zbd _
  | cons b l=>
   have:F++List.replicate r (Pm.one n)=l.reverse++[b]:=by rw [← List.reverse_reverse (F++_),hx,List.reverse_cons]
   rw [this] at ih ⊢;rw [List.append_assoc];exact zvl.2 ⟨ih,zue b⟩
theorem zgw (p:Pm n):∀ r:Nat,Mvs (List.replicate r (Pm.one n)++[p]) (p::List.replicate r (Pm.one n))
 | 0=>.refl _
 | r+1=>by
  rw [List.replicate_succ,List.cons_append];have h1:=(zgw p r).there (Pm.one n);have h2:=(NF_mv [Pm.one n,p]).app (List.replicate r (Pm.one n));rw [zud] at h2;exact h1.trans h2
theorem zwv {l:List (Pm n)} {m r:Nat} {F:List (Pm n)} (h:NF l=List.replicate m (Pm.del n)++(F++List.replicate r (Pm.one n))) (p:Pm n):NF (l++[p])=List.replicate m (Pm.del n)++(NF (F++[p])++List.replicate r (Pm.one n)):=by
 refine NF_of ?_ (zhv (zhu (zdt _) r) m);have h1:=(NF_mv l).app [p];rw [h] at h1;refine h1.trans ?_;rw [List.append_assoc,List.append_assoc];refine Mvs.pre _ ?_;have h2:=(zgw p r).pre F;refine h2.trans ?_;rw [show F++p::List.replicate r (Pm.one n)=(F++[p])++List.replicate r (Pm.one n) by simp];exact (NF_mv _).app _
theorem zef:∀ {s:List (Pm n)},Nrm s→∃ (m:Nat) (F:List (Pm n)) (r:Nat),s=List.replicate m (Pm.del n)++(F++List.replicate r (Pm.one n))∧(∀ p,p∈F→p≠Pm.one n)∧∀ p,p∈F→p≠Pm.del n
 | [],_=>⟨0,[],0,rfl,fun p hp=>(by cases hp),fun p hp=>(by cases hp)⟩
 | a::s,h=>by
  obtain ⟨m,F,r,h1,h2,h3⟩:=zef (fun t ht=>h _ (.there a ht):Nrm s)
  by_cases ha:a=Pm.del n
  ·exact ⟨m+1,F,r,by rw [h1,ha,List.replicate_succ];rfl,h2,h3⟩
  ·have hm:m=0:=by
    cases m with
    | zero=>rfl
    | succ m=>
     rw [h1,List.replicate_succ,List.cons_append] at h;exact absurd (zqu (za3.1 h).1) ha
   subst hm
   by_cases hb:a=Pm.one n
   ·have hF:F=[]:=by
     cases F with
     | nil=>rfl
     | cons b F=>
      rw [h1,List.replicate_zero,List.nil_append,List.cons_append,hb] at h;exact absurd (zxj (za3.1 h).1) (h2 b List.mem_cons_self)
    subst hF;exact ⟨0,[],r+1,by rw [h1,hb];rfl,fun p hp=>(by cases hp),fun p hp=>(by cases hp)⟩
   ·refine ⟨0,a::F,r,by rw [h1];rfl,fun p hp=>?_,fun p hp=>?_⟩
    ·rcases List.mem_cons.1 hp with rfl|hp
     ·exact hb
     ·exact h2 p hp
    ·rcases List.mem_cons.1 hp with rfl|hp
     ·exact ha
     ·exact h3 p hp
theorem zln (l:List (Pm n)):∃ m F,Rep l m F:=by
 obtain ⟨m,F,r,h1,h2,h3⟩:=zef (zdt l);exact ⟨m,F,⟨r,h1⟩,h2,h3⟩
theorem zt5 (h:2≤n):Pm.del n≠Pm.one n:=fun e=>by
 have h1:(Pm.del n).f 0=0:=by rw [e];rfl
 have h2:(Pm.del n).f 0=n-1:=by show Pm.rv n 0=_;unfold Pm.rv;rw [if_pos (by omega)];rfl
 omega
open Classical in
theorem zj7 (hn:2≤n) {l:List (Pm n)} {m m':Nat} {F F':List (Pm n)} (h:Rep l m F) (k:Rep l m' F'):m=m'∧F=F':=by
 have hne:=zt5 hn;have key:∀ {m:Nat} {F:List (Pm n)},Rep l m F→(NF l).filter (fun p=>decide (p≠Pm.one n∧p≠Pm.del n))=F∧((NF l).filter (fun p=>decide (p=Pm.del n))).length=m:=by
  intro m F h;obtain ⟨⟨r,h1⟩,h2,h3⟩:=h;rw [h1];constructor
  ·rw [List.filter_append,List.filter_append,List.filter_eq_nil_iff.2,List.filter_eq_self.2,List.filter_eq_nil_iff.2,List.nil_append,List.append_nil]
   ·intro p hp;rw [List.eq_of_mem_replicate hp];simp
   ·intro p hp;simp only [decide_eq_true_eq];exact ⟨h2 p hp,h3 p hp⟩
   ·intro p hp;rw [List.eq_of_mem_replicate hp];simp
  ·rw [List.filter_append,List.filter_append,List.filter_eq_self.2,List.filter_eq_nil_iff.2,List.filter_eq_nil_iff.2,List.append_nil,List.append_nil,List.length_replicate]
   ·intro p hp;rw [List.eq_of_mem_replicate hp];simp only [decide_eq_true_eq];exact fun e=>hne e.symm
   ·intro p hp;simp only [decide_eq_true_eq];exact h3 p hp
   ·intro p hp;rw [List.eq_of_mem_replicate hp];simp
 obtain ⟨a1,a2⟩:=key h;obtain ⟨b1,b2⟩:=key k;exact ⟨a2.symm.trans b2,a1.symm.trans b1⟩
theorem Rep.nil:Rep ([]:List (Pm n)) 0 []:=⟨⟨0,NF_of (.refl _) zkc⟩,fun p hp=>(by cases hp),fun p hp=>(by cases hp)⟩
theorem Rep.trn {l:List (Pm n)} {m:Nat} {F:List (Pm n)} (h:Rep l m F):Rep (l.map Pm.trn) m (F.map Pm.trn):=by
 obtain ⟨⟨r,h1⟩,h2,h3⟩:=h;refine ⟨⟨r,?_⟩,fun p hp e=>?_,fun p hp e=>?_⟩
 ·rw [zx1,h1,List.map_append,List.map_append,List.map_replicate,List.map_replicate,zn4,zn3]
 ·obtain ⟨q,hq,rfl⟩:=List.mem_map.1 hp;exact h2 q hq (by rw [← q.trn_trn,e,zn3])
 ·obtain ⟨q,hq,rfl⟩:=List.mem_map.1 hp;exact h3 q hq (by rw [← q.trn_trn,e,zn4])
theorem Rep.more {l:List (Pm n)} {m m' r':Nat} {F F':List (Pm n)} (h:Rep l m F) (p:Pm n) (h1:NF (F++[p])=List.replicate m' (Pm.del n)++(F'++List.replicate r' (Pm.one n))) (h2:∀ p,p∈F'→p≠Pm.one n) (h3:∀ p,p∈F'→p≠Pm.del n):Rep (l++[p]) (m+m') F':=by
 obtain ⟨⟨r,e⟩,_⟩:=h;refine ⟨⟨r'+r,?_⟩,h2,h3⟩;rw [zwv e p,h1,← List.replicate_append_replicate,← List.replicate_append_replicate];simp only [List.append_assoc]
def ltr (i:Nat) (h:0<i∧i<n):Pm n:=(Pm.one n).R i h
def ctr (i:Nat) (h:0<i∧i<n):Pm n:=(Pm.del n).R i h
end
section
variable {n:Nat}
theorem zuc:∀ (k:Nat) {a b c d:Pm n},a.W≤k→Sl a b c d→Mvs [a,b] [c,d]
 | k,a,b,c,d,hk,h=>by
  by_cases hv:∃ i,0<i∧i<n∧c.f (a.g i)<c.f (a.g (i-1))
  ·obtain ⟨i,i1,i2,i3⟩:=hv;have hi:0<i∧i<n:=⟨i1,i2⟩;have hb:b.beg i:=h.sub (i-1) i (by omega) i3;have hf:¬ a.fin i:=fun hf=>by
    have:=h.inv (a.g i) (a.g (i-1)) hf (by rw [a.fg,a.fg];omega);omega
   have hW:=a.W_R hi hf;have h2:Sl (a.R i hi) (b.L i hi) c d:=by
    refine ⟨fun x=>?_,fun x y hxy hx=>?_,fun x y hxy hx=>?_⟩
    ·show d.f (c.f x)=b.f (sw i (sw i (a.f x)));rw [sw_sw i1];exact h.prod x
    ·have hx:sw i (a.f y)<sw i (a.f x):=hx;rcases Nat.lt_or_ge (a.f y) (a.f x) with g|g
     ·exact h.inv x y hxy g
     ·have g:a.f x<a.f y:=by
       have:a.f x≠a.f y:=fun e=>by have:=a.inj e;omega
       omega
      obtain ⟨e1,e2⟩:=Pm.sw_lt i1 g hx;have f1:a.g i=y:=by rw [← e2,a.gf]
      have f2:a.g (i-1)=x:=by rw [show i-1=a.f x by omega,a.gf]
      rw [f1,f2] at i3;exact i3
    ·have hx:c.f (a.g (sw i y))<c.f (a.g (sw i x)):=hx;show b.f (sw i y)<b.f (sw i x);rcases Nat.lt_or_ge (sw i x) (sw i y) with g|g
     ·exact h.sub _ _ g hx
     ·have hne:sw i x≠sw i y:=fun e=>by
       have:x=y:=by rw [← sw_sw i1 x,e,sw_sw i1]
       omega
      obtain ⟨e1,e2⟩:=Pm.sw_lt i1 hxy (show sw i y<sw i x by omega);have s1:sw i y=i-1:=by rw [e2,Pm.sw_at]
      have s2:sw i x=i:=by rw [show x=i-1 by omega,Pm.sw_pre i1]
      rw [s1,s2] at hx;omega
   match k with
   | 0=>omega
   | k+1=>exact .step (.here a b [] i hi hb hf) (zuc k (by omega) h2)
  ·have hv:∀ i,0<i→i<n→c.f (a.g (i-1))<c.f (a.g i):=fun i h1 h2=>by
    rcases Nat.lt_or_ge (c.f (a.g (i-1))) (c.f (a.g i)) with g|g
    ·exact g
    ·have:c.f (a.g (i-1))≠c.f (a.g i):=fun e=>by have:=a.injg (c.inj e);omega
     exact absurd ⟨i,h1,h2,by omega⟩ hv
   have hid:=Pm.inc_id (n:=n) (f:=fun x=>c.f (a.g x)) (fun x hx=>c.lt (a.ltg hx)) hv;have hc:c=a:=Pm.ext fun x=>by
    by_cases hx:x<n
    ·have:=hid (a.f x) (a.lt hx);have:c.f (a.g (a.f x))=a.f x:=this
     rwa [a.gf] at this
    ·rw [c.out x (by omega),a.out x (by omega)]
   have hd:d=b:=Pm.ext fun x=>by
    have:=h.prod (a.g x);rw [hc,a.fg] at this;exact this
   rw [hc,hd];exact .refl _
theorem NF_Sl {a b c d:Pm n} (h:Sl a b c d):NF [c,d]=NF [a,b]:=NF_eq (zuc _ (Nat.le_refl _) h)
theorem zdh {s t:List (Pm n)} (r u:List (Pm n)) (h:NF s=NF t):NF (r++(s++u))=NF (r++(t++u)):=by
 rw [← NF_eq (((NF_mv s).app u).pre r),h,NF_eq (((NF_mv t).app u).pre r)]
def E (s t:Int×List (Pm n)):Prop:=∃ (m m':Nat) (F:List (Pm n)),Rep s.2 m F∧Rep t.2 m' F∧s.1+m=t.1+m'
theorem E.refl (s:Int×List (Pm n)):E s s:=by
 obtain ⟨m,F,h⟩:=zln s.2;exact ⟨m,m,F,h,h,rfl⟩
theorem E.symm {s t:Int×List (Pm n)} (h:E s t):E t s:=by
 obtain ⟨m,m',F,h1,h2,h3⟩:=h;exact ⟨m',m,F,h2,h1,h3.symm⟩
theorem E.trans (hn:2≤n) {s t u:Int×List (Pm n)} (h:E s t) (k:E t u):E s u:=by
 obtain ⟨m,m',F,h1,h2,h3⟩:=h;obtain ⟨q,q',G,k1,k2,k3⟩:=k;obtain ⟨e1,e2⟩:=zj7 hn h2 k1;subst e1;subst e2;exact ⟨m,q',F,h1,k2,h3.trans k3⟩
theorem E.app {s t:Int×List (Pm n)} (h:E s t) (p:Pm n):E (s.1,s.2++[p]) (t.1,t.2++[p]):=by
 obtain ⟨m,m',F,h1,h2,h3⟩:=h;obtain ⟨k,G,r,g1,g2,g3⟩:=zef (zdt (F++[p]));exact ⟨m+k,m'+k,G,h1.more p g1 g2 g3,h2.more p g1 g2 g3,by show s.1+((m+k:Nat):Int)=t.1+((m'+k:Nat):Int);omega⟩
theorem E.trn {s t:Int×List (Pm n)} (h:E s t) (c:Int):E (s.1+c,s.2.map Pm.trn) (t.1+c,t.2.map Pm.trn):=by
 obtain ⟨m,m',F,h1,h2,h3⟩:=h;exact ⟨m,m',_,h1.trn,h2.trn,by show s.1+c+m=t.1+c+m';omega⟩
theorem E.nf {pw:Int} {l l':List (Pm n)} (h:NF l=NF l'):E (pw,l) (pw,l'):=by
 obtain ⟨m,F,⟨r,h1⟩,h2,h3⟩:=zln l;exact ⟨m,m,F,⟨⟨r,h1⟩,h2,h3⟩,⟨⟨r,by rw [← h];exact h1⟩,h2,h3⟩,rfl⟩
theorem zx2 (l:List (Pm n)):NF (Pm.del n::l)=Pm.del n::NF l:=NF_of ((NF_mv l).there _) (zhv (zdt l) 1)
theorem E.del (pw:Int) (l:List (Pm n)):E (pw,Pm.del n::l) (pw+1,l):=by
 obtain ⟨m,F,⟨r,h1⟩,h2,h3⟩:=zln l;exact ⟨m+1,m,F,⟨⟨r,by rw [zx2,h1,List.replicate_succ];rfl⟩,h2,h3⟩,⟨⟨r,h1⟩,h2,h3⟩,by show pw+((m+1:Nat):Int)=pw+1+m;omega⟩
theorem E.one (pw:Int) (l:List (Pm n)):E (pw,l++[Pm.one n]) (pw,l):=by
 obtain ⟨m,F,⟨r,h1⟩,h2,h3⟩:=zln l;refine ⟨m,m,F,⟨⟨r+1,?_⟩,h2,h3⟩,⟨⟨r,h1⟩,h2,h3⟩,rfl⟩;have h4:NF (l++[Pm.one n])=NF l++List.replicate 1 (Pm.one n):=NF_of ((NF_mv l).app _) (zhu (zdt l) 1);rw [h4,h1,← List.replicate_append_replicate];simp only [List.append_assoc]
theorem zqj (a:Pm n):Sl a.trn (Pm.del n) (Pm.del n) a:=by
 refine ⟨fun x=>?_,fun x y hxy hx=>?_,fun x y hxy hx=>?_⟩
 ·show a.f (Pm.rv n x)=Pm.rv n (Pm.rv n (a.f (Pm.rv n x)));rw [Pm.rv_rv]
 ·show Pm.rv n y<Pm.rv n x
  by_cases hy:y<n
  ·exact (rv_lt hy (by omega)).2 hxy
  ·have h1:a.trn.f y=y:=a.trn.out y (by omega);rw [h1] at hx
   by_cases h2:x<n
   ·have:=a.trn.lt h2;omega
   ·rw [a.trn.out x (by omega)] at hx;omega
 ·have hx:Pm.rv n (a.trn.g y)<Pm.rv n (a.trn.g x):=hx;show Pm.rv n y<Pm.rv n x
  by_cases hy:y<n
  ·exact (rv_lt hy (by omega)).2 hxy
  ·rw [a.trn.outg y (by omega)] at hx;have h3:Pm.rv n y=y:=by unfold Pm.rv;rw [if_neg hy]
   rw [h3] at hx
   by_cases h2:x<n
   ·have h4:=a.trn.ltg h2;have:Pm.rv n (a.trn.g x)<n:=by unfold Pm.rv;rw [if_pos h4];omega
    omega
   ·rw [a.trn.outg x (by omega)] at hx;have h5:Pm.rv n x=x:=by unfold Pm.rv;rw [if_neg h2]
    omega
theorem zjo:∀ l:List (Pm n),NF (l.map Pm.trn++[Pm.del n])=NF (Pm.del n::l)
 | []=>rfl
 | a::l=>by
  have h1:=NF_eq (NF_mv (l.map Pm.trn++[Pm.del n])) |>.symm
  have h2:NF ((a::l).map Pm.trn++[Pm.del n])=NF (a.trn::Pm.del n::l):=by
   have:=zdh [a.trn] [] (zjo l);rw [List.append_nil,List.append_nil] at this;exact this
  rw [h2];have:=zdh [] l (NF_Sl (zqj a));exact this.symm
noncomputable def stepW (s:Int×List (Pm n)) (i:Int):Int×List (Pm n):=
 if h:0<i.natAbs∧i.natAbs<n then (if 0<i then (s.1,s.2++[ltr i.natAbs h]) else (s.1-1,s.2.map Pm.trn++[ctr i.natAbs h])) else s
theorem zao {s:Int×List (Pm n)} {k:Nat} (h:0<k∧k<n):stepW s (k:Int)=(s.1,s.2++[ltr k h]):=by
 unfold stepW;have e:((k:Int)).natAbs=k:=rfl;rw [dif_pos (show 0<((k:Int)).natAbs∧((k:Int)).natAbs<n from h),if_pos (by omega)];rfl
theorem za4 {s:Int×List (Pm n)} {k:Nat} (h:0<k∧k<n):stepW s (-(k:Int))=(s.1-1,s.2.map Pm.trn++[ctr k h]):=by
 unfold stepW;have e:(-(k:Int)).natAbs=k:=by omega
 simp only [e];rw [dif_pos h,if_neg (by omega)]
theorem E.step {s t:Int×List (Pm n)} (h:E s t) (i:Int):E (stepW s i) (stepW t i):=by
 unfold stepW;split
 ·split
  ·exact h.app _
  ·exact (h.trn (-1)).app _
 ·exact h
theorem E.word {s t:Int×List (Pm n)} (h:E s t) (w:List Int):E (w.foldl stepW s) (w.foldl stepW t):=by
 induction w generalizing s t with
 | nil=>exact h
 | cons i w ih=>exact ih (h.step i)
theorem Pm.top (p:Pm n) {x y:Nat} (hxy:x<y) (hy:n≤y):p.f x<p.f y:=by
 rw [p.out y hy]
 by_cases hx:x<n
 ·have:=p.lt hx;omega
 ·rw [p.out x (by omega)];exact hxy
theorem Sl.mk' {a b c d:Pm n} (prod:∀ x,d.f (c.f x)=b.f (a.f x)) (inv:∀ x y,x<y→y<n→a.f y<a.f x→c.f y<c.f x) (sub:∀ x y,x<y→y<n→c.f (a.g y)<c.f (a.g x)→b.f y<b.f x):Sl a b c d:=by
 refine ⟨prod,fun x y hxy hx=>?_,fun x y hxy hx=>?_⟩
 ·by_cases hy:y<n
  ·exact inv x y hxy hy hx
  ·have:=a.top hxy (by omega);omega
 ·by_cases hy:y<n
  ·exact sub x y hxy hy hx
  ·have h1:c.f (a.g y)=y:=by rw [a.outg y (by omega),c.out y (by omega)]
   have h2:c.f (a.g x)<y:=by
    by_cases h:x<n
    ·have:=c.lt (a.ltg h);omega
    ·rw [a.outg x (by omega),c.out x (by omega)];exact hxy
   omega
theorem zx0 {a b:Pm n} (h:∀ x,b.f (a.f x)=Pm.rv n x):Sl a b (Pm.del n) (Pm.one n):=by
 refine Sl.mk' (fun x=>(h x).symm) (fun x y hxy hy _=>(rv_lt hy (by omega)).2 hxy) (fun x y _ _ hx=>?_);rw [← a.fg y,← a.fg x,h,h];exact hx
theorem E.undo (hn:2≤n) {pw:Int} {l:List (Pm n)} {a b:Pm n} (h:∀ x,b.f (a.f x)=Pm.rv n x):E (pw-1,l.map Pm.trn++[a,b]) (pw,l):=by
 have h1:E (pw-1,l.map Pm.trn++[a,b]) (pw-1,l.map Pm.trn++[Pm.del n,Pm.one n]):=by
  refine E.nf ?_;have:=zdh (l.map Pm.trn) [] (NF_Sl (zx0 h)).symm;rw [List.append_nil,List.append_nil] at this;exact this
 have h2:E (pw-1,l.map Pm.trn++[Pm.del n,Pm.one n]) (pw-1,l.map Pm.trn++[Pm.del n]):=by
  have:=E.one (pw-1) (l.map Pm.trn++[Pm.del n])
  rwa [List.append_assoc] at this
 have h3:E (pw-1,l.map Pm.trn++[Pm.del n]) (pw-1,Pm.del n::l):=E.nf (zjo l);have h4:E (pw-1,Pm.del n::l) (pw,l):=by
  have:=E.del (pw-1) l
  rwa [Int.sub_add_cancel] at this
 exact ((h1.trans hn h2).trans hn h3).trans hn h4
theorem E.posneg (hn:2≤n) (s:Int×List (Pm n)) {k:Nat} (h:0<k∧k<n):E (stepW (stepW s (k:Int)) (-(k:Int))) s:=by
 rw [zao h,za4 h];show E (s.1-1,(s.2++[ltr k h]).map Pm.trn++[ctr k h]) s;rw [List.map_append,List.append_assoc];refine E.undo hn (pw:=s.1) (l:=s.2) (a:=(ltr k h).trn) (b:=ctr k h) fun x=>?_;show sw k (Pm.rv n (Pm.rv n (sw k (Pm.rv n x))))=_;rw [Pm.rv_rv,sw_sw h.1]
theorem E.negpos (hn:2≤n) (s:Int×List (Pm n)) {k:Nat} (h:0<k∧k<n):E (stepW (stepW s (-(k:Int))) (k:Int)) s:=by
 rw [za4 h,zao h];show E (s.1-1,(s.2.map Pm.trn++[ctr k h])++[ltr k h]) s;rw [List.append_assoc];refine E.undo hn (pw:=s.1) (l:=s.2) (a:=ctr k h) (b:=ltr k h) fun x=>?_;show sw k (sw k (Pm.rv n x))=_;rw [sw_sw h.1]
theorem zmo {a:Pm n} {k:Nat} (h:0<k∧k<n) (hf:¬ a.fin k):NF [a,ltr k h]=NF [a.R k h,Pm.one n]:=by
 have e:(ltr k h).L k h=Pm.one n:=Pm.ext fun x=>sw_sw h.1 x;have hb:(ltr k h).beg k:=by
  show sw k k<sw k (k-1);rw [Pm.sw_at,Pm.sw_pre h.1];omega
 have:=Mvs.one (.here a (ltr k h) [] k h hb hf);rw [e] at this;exact (NF_eq this).symm
def Far (a b:Nat):Prop:=a+2≤b∨b+2≤a
theorem Far.symm {a b:Nat} (h:Far a b):Far b a:=h.elim .inr .inl
theorem zn9 {a b:Nat} (h:Far a b) (ha:0<a) (hb:0<b) (x:Nat):sw a (sw b x)=sw b (sw a x):=by
 rcases h with h|h
 ·exact Pm.sw_comm h ha x
 ·exact (Pm.sw_comm h hb x).symm
theorem zl4 {a b:Nat} (ha:0<a∧a<n) (hb:0<b∧b<n) (h:Far a b):¬ (ltr a ha).fin b:=by
 rw [Pm.nfin hb.1];show sw a (b-1)<sw a b;unfold Far at h;rw [Pm.sw_ne (by omega) (by omega),Pm.sw_ne (by omega) (by omega)];omega
theorem zxm {a b:Nat} (ha:0<a∧a<n) (hb:0<b∧b<n) (h:Far a b):NF [ltr a ha,ltr b hb]=NF [ltr b hb,ltr a ha]:=by
 rw [zmo hb (zl4 ha hb h),zmo ha (zl4 hb ha h.symm)];have e:(ltr a ha).R b hb=(ltr b hb).R a ha:=Pm.ext fun x=>(zn9 h ha.1 hb.1 x).symm;rw [e]
theorem zt2 {a b:Nat} (ha:0<a∧a<n) (hb:0<b∧b<n) (h:Far a b):NF [(ltr a ha).trn,ctr b hb]=NF [ctr b hb,ltr a ha]:=by
 have hl:∀ x,(ltr a ha).trn.f x=Pm.rv n (sw a (Pm.rv n x)):=fun _=>rfl;have hlg:∀ x,(ltr a ha).trn.g x=Pm.rv n (sw a (Pm.rv n x)):=fun _=>rfl;refine (NF_Sl (Sl.mk' (fun x=>?_) (fun x y hxy hy hx=>?_) (fun x y hxy hy hx=>?_))).symm
 ·show sw a (sw b (Pm.rv n x))=sw b (Pm.rv n (Pm.rv n (sw a (Pm.rv n x))));rw [Pm.rv_rv,zn9 h ha.1 hb.1]
 ·show sw b (Pm.rv n y)<sw b (Pm.rv n x);have h1:=(rv_lt hy (show x<n by omega)).2 hxy;refine Pm.sw_keep hb.1 h1 fun ⟨e1,e2⟩=>?_;rw [hl,hl] at hx;unfold Far at h;rw [Pm.sw_ne (i:=a) (by omega) (by omega),Pm.sw_ne (i:=a) (by omega) (by omega),Pm.rv_rv,Pm.rv_rv] at hx;omega
 ·show sw b (Pm.rv n y)<sw b (Pm.rv n x);have h1:=(rv_lt hy (show x<n by omega)).2 hxy;refine Pm.sw_keep hb.1 h1 fun ⟨e1,e2⟩=>?_;have hx:sw b (Pm.rv n ((ltr a ha).trn.g y))<sw b (Pm.rv n ((ltr a ha).trn.g x)):=hx;rw [hlg,hlg,Pm.rv_rv,Pm.rv_rv] at hx;unfold Far at h;rw [Pm.sw_ne (i:=a) (by omega) (by omega),Pm.sw_ne (i:=a) (by omega) (by omega),e2,show Pm.rv n y=b-1 by omega,Pm.sw_at,Pm.sw_pre hb.1] at hx;omega
theorem zt3 {a b:Nat} (ha:0<a∧a<n) (hb:0<b∧b<n) (h:Far a b):NF [(ctr a ha).trn,ctr b hb]=NF [Pm.del n,(ctr a ha).R b hb]:=by
 have hg:∀ x,(ctr a ha).trn.g x=sw a (Pm.rv n x):=fun x=>by
  show Pm.rv n (Pm.rv n (sw a (Pm.rv n x)))=_;rw [Pm.rv_rv]
 refine (NF_Sl (Sl.mk' (fun x=>?_) (fun x y hxy hy _=>(rv_lt hy (by omega)).2 hxy) (fun x y hxy hy hx=>?_))).symm
 ·show sw b (sw a (Pm.rv n (Pm.rv n x)))=sw b (Pm.rv n (Pm.rv n (sw a (Pm.rv n (Pm.rv n x)))));rw [Pm.rv_rv,Pm.rv_rv]
 ·have hx:Pm.rv n ((ctr a ha).trn.g y)<Pm.rv n ((ctr a ha).trn.g x):=hx;show sw b (Pm.rv n y)<sw b (Pm.rv n x);have h1:=(rv_lt hy (show x<n by omega)).2 hxy;refine Pm.sw_keep hb.1 h1 fun ⟨e1,e2⟩=>?_;rw [hg,hg] at hx;unfold Far at h;rw [Pm.sw_ne (i:=a) (by omega) (by omega),Pm.sw_ne (i:=a) (by omega) (by omega),rv_lt (by omega) (by omega)] at hx;omega
theorem E.far (s:Int×List (Pm n)) {i j:Int} (hi:0<i.natAbs∧i.natAbs<n) (hj:0<j.natAbs∧j.natAbs<n) (h:Far i.natAbs j.natAbs):E (stepW (stepW s i) j) (stepW (stepW s j) i):=by
 have sgn:∀ i:Int,0<i.natAbs→i=(i.natAbs:Int)∨i = -(i.natAbs:Int):=fun i h=>by omega
 have ap:∀ {pw:Int} {l s t:List (Pm n)},NF s=NF t→E (pw,l++s) (pw,l++t):=fun {pw l s t} h=>by
  refine E.nf ?_;have:=zdh l [] h
  rwa [List.append_nil,List.append_nil] at this
 generalize ha:i.natAbs=a at *;generalize hb:j.natAbs=b at *;rcases sgn i (by omega) with e1|e1 <;> rcases sgn j (by omega) with e2|e2 <;> rw [ha] at e1 <;> rw [hb] at e2 <;> subst e1 <;> subst e2
 ·rw [zao hi,zao hj,zao hj,zao hi];show E (s.1,(s.2++[ltr a hi])++[ltr b hj]) (s.1,(s.2++[ltr b hj])++[ltr a hi]);rw [List.append_assoc,List.append_assoc];exact ap (zxm hi hj h)
 ·rw [zao hi,za4 hj,za4 hj,zao hi];show E (s.1-1,(s.2++[ltr a hi]).map Pm.trn++[ctr b hj]) (s.1-1,(s.2.map Pm.trn++[ctr b hj])++[ltr a hi]);rw [List.map_append,List.append_assoc,List.append_assoc];exact ap (zt2 hi hj h)
 ·rw [za4 hi,zao hj,zao hj,za4 hi];show E (s.1-1,(s.2.map Pm.trn++[ctr a hi])++[ltr b hj]) (s.1-1,(s.2++[ltr b hj]).map Pm.trn++[ctr a hi]);rw [List.map_append,List.append_assoc,List.append_assoc];exact ap (zt2 hj hi h.symm).symm
 ·rw [za4 hi,za4 hj,za4 hj,za4 hi];show E (s.1-1-1,(s.2.map Pm.trn++[ctr a hi]).map Pm.trn++[ctr b hj]) (s.1-1-1,(s.2.map Pm.trn++[ctr b hj]).map Pm.trn++[ctr a hi]);rw [List.map_append,List.map_append,List.append_assoc,List.append_assoc];refine ap ((zt3 hi hj h).trans ?_);have e:(ctr a hi).R b hj=(ctr b hj).R a hi:=Pm.ext fun x=>(zn9 h hi.1 hj.1 _).symm;rw [e];exact (zt3 hj hi h.symm).symm
theorem zmq {i j:Nat} (hi:0<i∧i<n) (hj:0<j∧j<n) (h:j=i+1∨i=j+1):NF [ltr i hi,ltr j hj,ltr i hi]=NF [((ltr i hi).R j hj).R i hi,Pm.one n,Pm.one n]:=by
 have f1:¬ (ltr i hi).fin j:=by
  rw [Pm.nfin hj.1];show sw i (j-1)<sw i j;unfold sw
  repeat' split
  all_goals omega
 have f2:¬ ((ltr i hi).R j hj).fin i:=by
  rw [Pm.nfin hi.1];show sw i (sw j (i-1))<sw i (sw j i);rcases h with h|h
  ·subst h;rw [Pm.sw_ne (i:=i+1) (x:=i-1) (by omega) (by omega),Pm.sw_pre hi.1,show sw (i+1) i=i+1 from Pm.sw_pre (i:=i+1) (by omega),Pm.sw_ne (by omega) (by omega)];omega
  ·subst h;rw [show j+1-1=j by omega,Pm.sw_at,Pm.sw_ne (i:=j) (x:=j+1) (by omega) (by omega),Pm.sw_at,Pm.sw_ne (i:=j+1) (x:=j-1) (by omega) (by omega)];omega
 have a1:=zdh [] [ltr i hi] (zmo hj f1);have a2:=zdh [(ltr i hi).R j hj] [] (show NF [Pm.one n,ltr i hi]=NF [ltr i hi,Pm.one n] by
  rw [zud,NF_of (.refl _) (za3.2 ⟨zue _,zbd _⟩)])
 have a3:=zdh [] [Pm.one n] (zmo hi f2);exact a1.trans (a2.trans a3)
theorem E.braid (s:Int×List (Pm n)) {i j:Nat} (hi:0<i∧i<n) (hj:0<j∧j<n) (h:j=i+1∨i=j+1):E (stepW (stepW (stepW s i) j) i) (stepW (stepW (stepW s j) i) j):=by
 rw [zao hi,zao hj,zao hi,zao hj,zao hi,zao hj];show E (s.1,((s.2++[ltr i hi])++[ltr j hj])++[ltr i hi]) (s.1,((s.2++[ltr j hj])++[ltr i hi])++[ltr j hj]);rw [List.append_assoc,List.append_assoc,List.append_assoc,List.append_assoc];refine E.nf ?_;have e:((ltr i hi).R j hj).R i hi=((ltr j hj).R i hi).R j hj:=Pm.ext fun x=>by
  show sw i (sw j (sw i x))=sw j (sw i (sw j x));rcases h with h|h
  ·subst h;exact Pm.sw_braid hi.1 x
  ·subst h;exact (Pm.sw_braid hj.1 x).symm
 have h1:=zmq hi hj h;have h2:=zmq hj hi (h.elim .inr .inl);rw [← e] at h2;have:=zdh s.2 [] (h1.trans h2.symm)
 rwa [List.append_nil,List.append_nil] at this
end
section
variable {n:Nat}
namespace Pm
def inv (p:Pm n):Pm n:=⟨p.g,p.f,p.gf,p.fg,p.outg⟩
end Pm
theorem zvb {α:Type} (A B C:List α) (x:Nat) (v:α) (hx:x<B.length):(A++(B++C)).set (A.length+x) v=A++(B.set x v++C):=by
 rw [List.set_append_right _ _ (by omega),show A.length+x-A.length=x by omega,List.set_append_left _ _ hx]
theorem gset2 (l:List Int) (i x:Nat) (v:Int):(l.set i v).getD x 0=if x=i∧i<l.length then v else l.getD x 0:=by
 rw [List.getD_eq_getElem?_getD,List.getD_eq_getElem?_getD,List.getElem?_set]
 by_cases h:i=x
 ·subst h
  by_cases h2:i<l.length
  ·simp [h2]
  ·simp [h2]
 ·rw [if_neg h,if_neg (by omega)]
end
section
variable {n:Nat}
def Shp (S:List (Pm n)) (x:Nat×List (Pm n)):Prop:=∃ r,S=List.replicate x.1 (Pm.del n)++(x.2++List.replicate r (Pm.one n))∧(∀ p,p∈x.2→p≠Pm.one n)∧∀ p,p∈x.2→p≠Pm.del n
theorem zxc {S:List (Pm n)} (h:Nrm S):∃ x,Shp S x:=by
 obtain ⟨m,F,r,h1,h2,h3⟩:=zef h;exact ⟨(m,F),r,h1,h2,h3⟩
open Classical in
noncomputable def shp (S:List (Pm n)):Nat×List (Pm n):=if h:∃ x,Shp S x then Classical.choose h else (0,[])
theorem zxb {S:List (Pm n)} (h:Nrm S):Shp S (shp S):=by
 have h1:=zxc h;unfold shp;rw [dif_pos h1];exact Classical.choose_spec h1
noncomputable def tmD (F:List (Pm n)) (p:Pm n):Nat:=(shp (NF (F++[p]))).1
noncomputable def tmF (F:List (Pm n)) (p:Pm n):List (Pm n):=(shp (NF (F++[p]))).2
theorem tm_ok (F:List (Pm n)) (p:Pm n):∃ r,NF (F++[p])=List.replicate (tmD F p) (Pm.del n)++(tmF F p++List.replicate r (Pm.one n))∧(∀ q,q∈tmF F p→q≠Pm.one n)∧∀ q,q∈tmF F p→q≠Pm.del n:=zxb (zdt _)
theorem ztg (F:List (Pm n)) (p:Pm n):tmD F p+(tmF F p).length≤F.length+1:=by
 obtain ⟨r,h,_⟩:=tm_ok F p;have h1:=congrArg List.length h;rw [zmp,List.length_append,List.length_append,List.length_append,List.length_replicate,List.length_replicate] at h1;simp at h1;omega
structure Frm (n:Nat) where
 pw:Int
 F:List (Pm n)
noncomputable instance (s t:Frm n):Decidable (s=t):=Classical.propDecidable _
noncomputable def Frm.tim (s:Frm n) (p:Pm n):Frm n:=⟨s.pw+tmD s.F p,tmF s.F p⟩
noncomputable def Frm.step (s:Frm n) (i:Int):Frm n:=
 if h:0<i.natAbs∧i.natAbs<n then (if 0<i then s.tim (ltr i.natAbs h) else (⟨s.pw-1,s.F.map Pm.trn⟩:Frm n).tim (ctr i.natAbs h)) else s
noncomputable def nfW (n:Nat) (w:List Int):Frm n:=w.foldl Frm.step ⟨0,[]⟩
noncomputable def rowW (n:Nat) (w:List Int):Int×List (Pm n):=w.foldl stepW (0,[])
def FRep (s:Frm n) (t:Int×List (Pm n)):Prop:=∃ m,Rep t.2 m s.F∧s.pw=t.1+m
theorem FRep.tim {s:Frm n} {t:Int×List (Pm n)} (h:FRep s t) (p:Pm n):FRep (s.tim p) (t.1,t.2++[p]):=by
 obtain ⟨m,h1,h2⟩:=h;obtain ⟨r,g1,g2,g3⟩:=tm_ok s.F p;exact ⟨m+tmD s.F p,h1.more p g1 g2 g3,by show s.pw+(tmD s.F p:Int)=t.1+((m+tmD s.F p:Nat):Int);omega⟩
theorem FRep.trn {s:Frm n} {t:Int×List (Pm n)} (h:FRep s t):FRep ⟨s.pw-1,s.F.map Pm.trn⟩ (t.1-1,t.2.map Pm.trn):=by
 obtain ⟨m,h1,h2⟩:=h;exact ⟨m,h1.trn,by show s.pw-1=t.1-1+m;omega⟩
theorem FRep.step {s:Frm n} {t:Int×List (Pm n)} (h:FRep s t) (i:Int):FRep (s.step i) (stepW t i):=by
 unfold Frm.step stepW;split
 ·split
  ·exact h.tim _
  ·exact h.trn.tim _
 ·exact h
theorem FRep.word {s:Frm n} {t:Int×List (Pm n)} (h:FRep s t) (w:List Int):FRep (w.foldl Frm.step s) (w.foldl stepW t):=by
 induction w generalizing s t with
 | nil=>exact h
 | cons i w ih=>exact ih (h.step i)
theorem zkf (n:Nat) (w:List Int):FRep (nfW n w) (rowW n w):=FRep.word ⟨0,Rep.nil,rfl⟩ w
theorem Frm.ext {s t:Frm n} (h1:s.pw=t.pw) (h2:s.F=t.F):s=t:=by cases s;cases t;congr
theorem frm_E (hn:2≤n) {s s':Frm n} {t t':Int×List (Pm n)} (h:FRep s t) (h':FRep s' t'):E t t'↔s=s':=by
 obtain ⟨m,h1,h2⟩:=h;obtain ⟨m',h3,h4⟩:=h';constructor
 ·rintro ⟨q,q',F,k1,k2,k3⟩
  obtain ⟨e1,e2⟩:=zj7 hn h1 k1;obtain ⟨e3,e4⟩:=zj7 hn h3 k2;subst e1;subst e3;exact Frm.ext (by omega) (by rw [e2,e4])
 ·intro e;subst e;exact ⟨m,m',s.F,h1,h3,by omega⟩
theorem zn8 (s:Frm n) (p:Pm n):(s.tim p).F.length≤s.F.length+1:=by
 have:=ztg s.F p;show (tmF s.F p).length≤_;omega
theorem zth (s:Frm n) (p:Pm n):s.pw≤(s.tim p).pw∧(s.tim p).pw≤s.pw+s.F.length+1:=by
 have:=ztg s.F p;show s.pw≤s.pw+(tmD s.F p:Int)∧s.pw+(tmD s.F p:Int)≤_;omega
theorem zrf (s:Frm n) (i:Int):(s.step i).F.length≤s.F.length+1∧s.pw-1≤(s.step i).pw∧(s.step i).pw≤s.pw+s.F.length+1:=by
 unfold Frm.step;split
 ·split
  ·have h1:=zn8 s (ltr i.natAbs (by assumption));have h2:=zth s (ltr i.natAbs (by assumption));omega
  ·have h1:=zn8 (⟨s.pw-1,s.F.map Pm.trn⟩:Frm n) (ctr i.natAbs (by assumption));have h2:=zth (⟨s.pw-1,s.F.map Pm.trn⟩:Frm n) (ctr i.natAbs (by assumption));simp only [List.length_map] at h1 h2;omega
 ·omega
def Vld (n:Nat) (w:List Int):Prop:=∀ x,x∈w→x≠0 ∧ -(n:Int)<x∧x<n
end
section
variable {n:Nat}
def gW:List Int→Nat→Nat
 | [],x=>x
 | l::w,x=>gW w (sw l.natAbs x)
theorem zjh:∀ (u v:List Int) (x:Nat),gW (u++v) x=gW v (gW u x)
 | [],_,_=>rfl
 | l::u,v,x=>zjh u v (sw l.natAbs x)
theorem Vld.head {x:Int} {w:List Int} (h:Vld n (x::w)):0<x.natAbs∧x.natAbs<n:=by
 obtain ⟨h1,h2,h3⟩:=h x List.mem_cons_self;omega
theorem E.cancel (hn:2≤n) {x:Int} (hx:0<x.natAbs∧x.natAbs<n) (s:Int×List (Pm n)):E (stepW (stepW s x) (-x)) s:=by
 rcases Int.lt_or_le x 0 with h|h
 ·obtain ⟨k,hk⟩:=Int.eq_ofNat_of_zero_le (show 0 ≤ -x by omega);have e:x = -(k:Int):=by omega
  subst e;rw [show - -(k:Int)=(k:Int) by omega];exact E.negpos hn s (by omega)
 ·obtain ⟨k,rfl⟩:=Int.eq_ofNat_of_zero_le h;exact E.posneg hn s (by omega)
theorem zvn (hn:2≤n) {u v:List Int} (h:E (rowW n u) (rowW n v)):nfW n u=nfW n v:=(frm_E hn (zkf n u) (zkf n v)).1 h
end
section
variable {n:Nat}
def lnF:List Int→(Nat→Nat)→Nat→Nat
 | [],p=>p
 | x::u,p=>lnF u (fun y=>p (sw x.natAbs y))
def sgL (x:Int):Int:=if x<0 then -1 else 1
def lk:List Int→(Nat→Nat)→Nat→Nat→Int
 | [],_,_,_=>0
 | x::u,p,a,b=>(if a=p (x.natAbs-1)∧b=p x.natAbs∨a=p x.natAbs∧b=p (x.natAbs-1) then sgL x else 0)+lk u (fun y=>p (sw x.natAbs y)) a b
def sgW:List Int→Int
 | []=>0
 | x::u=>sgL x+sgW u
theorem zf8:∀ (u v:List Int) (p:Nat→Nat),lnF (u++v) p=lnF v (lnF u p)
 | [],_,_=>rfl
 | _::u,v,_=>zf8 u v _
theorem zjd:∀ (u v:List Int) (p:Nat→Nat) (a b:Nat),lk (u++v) p a b=lk u p a b+lk v (lnF u p) a b
 | [],v,p,a,b=>by show _=0+_;rw [Int.zero_add];rfl
 | x::u,v,p,a,b=>by
  show _+lk (u++v) _ a b=_+lk u _ a b+lk v _ a b;rw [zjd u v,Int.add_assoc];rfl
theorem zfs:∀ (u v:List Int),sgW (u++v)=sgW u+sgW v
 | [],v=>by show _=0+_;rw [Int.zero_add];rfl
 | x::u,v=>by
  show _+sgW (u++v)=_+sgW u+sgW v;rw [zfs u v,Int.add_assoc]
structure Alk (n:Nat) (u v:List Int):Prop where
 e:2≤n→∀ s:Int×List (Pm n),E (u.foldl stepW s) (v.foldl stepW s)
 g:∀ x,gW u x=gW v x
 l:∀ p,lnF u p=lnF v p
 k:∀ p a b,lk u p a b=lk v p a b
 s:sgW u=sgW v
theorem Alk.refl (u:List Int):Alk n u u:=⟨fun _ s=>E.refl _,fun _=>rfl,fun _=>rfl,fun _ _ _=>rfl,rfl⟩
theorem Alk.trans {u v w:List Int} (h:Alk n u v) (q:Alk n v w):Alk n u w:=⟨fun hn s=>(h.e hn s).trans hn (q.e hn s),fun x=>(h.g x).trans (q.g x),fun p=>(h.l p).trans (q.l p),fun p a b=>(h.k p a b).trans (q.k p a b),h.s.trans q.s⟩
theorem Alk.ctx {u v:List Int} (h:Alk n u v) (a b:List Int):Alk n (a++(u++b)) (a++(v++b)):=by
 refine ⟨fun hn s=>?_,fun x=>?_,fun p=>?_,fun p x y=>?_,?_⟩
 ·rw [List.foldl_append,List.foldl_append,List.foldl_append,List.foldl_append];exact E.word (h.e hn _) b
 ·rw [zjh,zjh,zjh,zjh,h.g]
 ·rw [zf8,zf8,zf8,zf8,h.l]
 ·rw [zjd,zjd,zjd,zjd,h.k,h.l]
 ·rw [zfs,zfs,zfs,zfs,h.s]
theorem sw_in (k x:Nat) (h:0<k):sw k (sw k x)=x:=sw_sw h x
theorem sw_at {k:Nat} (h:0<k):sw k k=k-1:=by unfold sw;rw [if_pos rfl]
theorem sw_lo {k:Nat} (h:0<k):sw k (k-1)=k:=by unfold sw;rw [if_neg (by omega),if_pos (by omega)]
theorem Alk.undo {i:Int} (h:0<i.natAbs∧i.natAbs<n):Alk n [i,-i] []:=by
 have ea:(-i).natAbs=i.natAbs:=by omega
 refine ⟨fun hn s=>E.cancel hn h s,fun x=>?_,fun p=>?_,fun p a b=>?_,?_⟩
 ·show sw (-i).natAbs (sw i.natAbs x)=x;rw [ea,sw_in _ _ h.1]
 ·show (fun y=>p (sw i.natAbs (sw (-i).natAbs y)))=p
  funext y
  rw [ea,sw_in _ _ h.1]
 ·show (if _ then _ else _)+((if a=p (sw i.natAbs ((-i).natAbs-1))∧b=p (sw i.natAbs (-i).natAbs)∨a=p (sw i.natAbs (-i).natAbs)∧b=p (sw i.natAbs ((-i).natAbs-1)) then sgL (-i) else 0)+0)=0
  rw [ea,sw_at h.1,sw_lo h.1];have es:sgL (-i) = - sgL i:=by unfold sgL;split <;> split <;> omega
  rw [es]
  by_cases c:a=p (i.natAbs-1)∧b=p i.natAbs∨a=p i.natAbs∧b=p (i.natAbs-1)
  ·rw [if_pos c,if_pos c.symm];omega
  ·rw [if_neg c,if_neg fun d=>c d.symm];rfl
 ·show sgL i+(sgL (-i)+0)=0;unfold sgL;split <;> split <;> omega
theorem Alk.far {i j:Int} (hi:0<i.natAbs∧i.natAbs<n) (hj:0<j.natAbs∧j.natAbs<n) (h:Far i.natAbs j.natAbs):Alk n [i,j] [j,i]:=by
 have h':=h;unfold Far at h;have e1:sw i.natAbs j.natAbs=j.natAbs:=Pm.sw_ne (by omega) (by omega);have e2:sw i.natAbs (j.natAbs-1)=j.natAbs-1:=Pm.sw_ne (by omega) (by omega);have e3:sw j.natAbs i.natAbs=i.natAbs:=Pm.sw_ne (by omega) (by omega);have e4:sw j.natAbs (i.natAbs-1)=i.natAbs-1:=Pm.sw_ne (by omega) (by omega);have com:∀ x,sw j.natAbs (sw i.natAbs x)=sw i.natAbs (sw j.natAbs x):=fun x=>by
  unfold sw
  repeat' split
  all_goals omega
 refine ⟨fun hn s=>E.far s hi hj h',fun x=>com x,fun p=>?_,fun p a b=>?_,?_⟩
 ·funext y
  show p (sw i.natAbs (sw j.natAbs y))=p (sw j.natAbs (sw i.natAbs y));rw [com]
 ·show (if _ then _ else _)+((if a=p (sw i.natAbs (j.natAbs-1))∧b=p (sw i.natAbs j.natAbs)∨a=p (sw i.natAbs j.natAbs)∧b=p (sw i.natAbs (j.natAbs-1)) then sgL j else 0)+0)=(if _ then _ else _)+((if a=p (sw j.natAbs (i.natAbs-1))∧b=p (sw j.natAbs i.natAbs)∨a=p (sw j.natAbs i.natAbs)∧b=p (sw j.natAbs (i.natAbs-1)) then sgL i else 0)+0)
  rw [e1,e2,e3,e4];omega
 ·show sgL i+(sgL j+0)=sgL j+(sgL i+0);omega
theorem lk3 (p:Nat→Nat) (a b i j:Nat):lk [(i:Int),(j:Int),(i:Int)] p a b=(if a=p (i-1)∧b=p i∨a=p i∧b=p (i-1) then 1 else 0)+((if a=p (sw i (j-1))∧b=p (sw i j)∨a=p (sw i j)∧b=p (sw i (j-1)) then 1 else 0)+((if a=p (sw i (sw j (i-1)))∧b=p (sw i (sw j i))∨a=p (sw i (sw j i))∧b=p (sw i (sw j (i-1))) then 1 else 0)+0)):=by
 have e:∀ k:Nat,sgL (k:Int)=1:=fun k=>by unfold sgL;rw [if_neg (by omega)]
 show (if a=p (i-1)∧b=p i∨a=p i∧b=p (i-1) then sgL (i:Int) else 0)+((if a=p (sw i (j-1))∧b=p (sw i j)∨a=p (sw i j)∧b=p (sw i (j-1)) then sgL (j:Int) else 0)+((if a=p (sw i (sw j (i-1)))∧b=p (sw i (sw j i))∨a=p (sw i (sw j i))∧b=p (sw i (sw j (i-1))) then sgL (i:Int) else 0)+0))=_
 rw [e,e]
theorem Alk.braid0 {i j:Nat} (hi:0<i∧i<n) (hj:0<j∧j<n) (h:j=i+1):Alk n [(i:Int),(j:Int),(i:Int)] [(j:Int),(i:Int),(j:Int)]:=by
 have e:∀ k:Nat,sgL (k:Int)=1:=fun k=>by unfold sgL;rw [if_neg (by omega)]
 have com:∀ x,sw i (sw j (sw i x))=sw j (sw i (sw j x)):=fun x=>by
  subst h;have s2:sw i (i+1)=i+1:=Pm.sw_ne (by omega) (by omega);have s3:sw (i+1) (i-1)=i-1:=Pm.sw_ne (by omega) (by omega);have s4:sw (i+1) i=i+1:=by unfold sw;rw [if_neg (by omega),if_pos rfl]
  have s5:sw (i+1) (i+1)=i:=by rw [sw_at (by omega)];rfl
  by_cases c1:x=i-1
  ·rw [c1,sw_lo hi.1,s4,s2,s3,sw_lo hi.1,s4]
  by_cases c2:x=i
  ·rw [c2,sw_at hi.1,s3,sw_lo hi.1,s4,s2,s5]
  by_cases c3:x=i+1
  ·rw [c3,s2,s5,sw_at hi.1,s3]
  ·have s6:sw i x=x:=Pm.sw_ne (by omega) (by omega);have s7:sw (i+1) x=x:=Pm.sw_ne (by omega) (by omega);rw [s6,s7,s6,s7]
 refine ⟨fun hn s=>E.braid s hi hj (.inl h),fun x=>com x,fun p=>?_,fun p a b=>?_,?_⟩
 ·funext y
  show p (sw i (sw j (sw i y)))=p (sw j (sw i (sw j y)));rw [com]
 ·rw [lk3,lk3];subst h;have s1:sw i (i+1-1)=i-1:=by rw [Nat.add_sub_cancel,sw_at hi.1]
  have s2:sw i (i+1)=i+1:=Pm.sw_ne (by omega) (by omega);have s3:sw (i+1) (i-1)=i-1:=Pm.sw_ne (by omega) (by omega);have s4:sw (i+1) i=i+1:=by unfold sw;rw [if_neg (by omega),if_pos rfl]
  have s5:sw (i+1) (i+1)=i:=by rw [sw_at (by omega)];rfl
  rw [s1,s2,s3,s4,s2,sw_lo hi.1,Nat.add_sub_cancel,s5];omega
 ·show sgL i+(sgL j+(sgL i+0))=sgL j+(sgL i+(sgL j+0));rw [e,e]
theorem Alk.symm (hn:2≤n) {u v:List Int} (h:Alk n u v):Alk n v u:=⟨fun _ s=>(h.e hn s).symm,fun x=>(h.g x).symm,fun p=>(h.l p).symm,fun p a b=>(h.k p a b).symm,h.s.symm⟩
theorem Alk.braid {i j:Nat} (hi:0<i∧i<n) (hj:0<j∧j<n) (h:j=i+1∨i=j+1):Alk n [(i:Int),(j:Int),(i:Int)] [(j:Int),(i:Int),(j:Int)]:=by
 rcases h with h|h
 ·exact Alk.braid0 hi hj h
 ·exact (Alk.braid0 hj hi h).symm (by omega)
theorem Alk.nf {u v:List Int} (hn:2≤n) (h:Alk n u v):nfW n u=nfW n v:=zvn hn (h.e hn (0,[]))
end
section
variable {n:Nat}
inductive Cn (n:Nat):List Int→List Int→Prop
 | refl (u:List Int):Cn n u u
 | symm {u v:List Int} (h:Cn n u v):Cn n v u
 | trans {u v w:List Int} (h:Cn n u v) (k:Cn n v w):Cn n u w
 | undo (a b:List Int) (i:Int) (h:0<i.natAbs∧i.natAbs<n):Cn n (a++([i,-i]++b)) (a++b)
 | far (a b:List Int) (i j:Nat) (hi:0<i) (hij:i+2≤j) (hj:j<n):Cn n (a++([(i:Int),(j:Int)]++b)) (a++([(j:Int),(i:Int)]++b))
 | braid (a b:List Int) (i:Nat) (hi:0<i) (hj:i+1<n):Cn n (a++([(i:Int),((i+1:Nat):Int),(i:Int)]++b)) (a++([((i+1:Nat):Int),(i:Int),((i+1:Nat):Int)]++b))
theorem Cn.pre {u v:List Int} (h:Cn n u v) (a:List Int):Cn n (a++u) (a++v):=by
 induction h with
 | refl u=>exact .refl _
 | symm _ ih=>exact ih.symm
 | trans _ _ h1 h2=>exact h1.trans h2
 | undo c d i h=>
  have:=Cn.undo (n:=n) (a++c) d i h;rw [List.append_assoc,List.append_assoc] at this;exact this
 | far c d i j h1 h2 h3=>
  have:=Cn.far (n:=n) (a++c) d i j h1 h2 h3;rw [List.append_assoc,List.append_assoc] at this;exact this
 | braid c d i h1 h2=>
  have:=Cn.braid (n:=n) (a++c) d i h1 h2;rw [List.append_assoc,List.append_assoc] at this;exact this
theorem Cn.post {u v:List Int} (h:Cn n u v) (b:List Int):Cn n (u++b) (v++b):=by
 induction h with
 | refl u=>exact .refl _
 | symm _ ih=>exact ih.symm
 | trans _ _ h1 h2=>exact h1.trans h2
 | undo c d i h=>rw [List.append_assoc,List.append_assoc,List.append_assoc];exact .undo _ _ i h
 | far c d i j h1 h2 h3=>rw [List.append_assoc,List.append_assoc,List.append_assoc,List.append_assoc];exact .far _ _ i j h1 h2 h3
 | braid c d i h1 h2=>rw [List.append_assoc,List.append_assoc,List.append_assoc,List.append_assoc];exact .braid _ _ i h1 h2
theorem Cn.cons {u v:List Int} (h:Cn n u v) (x:Int):Cn n (x::u) (x::v):=h.pre [x]
theorem Cn.alk (hn:2≤n) {u v:List Int} (h:Cn n u v):Alk n u v:=by
 induction h with
 | refl u=>exact .refl _
 | symm _ ih=>exact ih.symm hn
 | trans _ _ h1 h2=>exact h1.trans h2
 | undo c d i h=>exact (Alk.undo h).ctx c d
 | far c d i j h1 h2 h3=>exact (Alk.far (i:=(i:Int)) (j:=(j:Int)) (by omega) (by omega) (.inl (by omega))).ctx c d
 | braid c d i h1 h2=>exact (Alk.braid (i:=i) (j:=i+1) ⟨h1,by omega⟩ ⟨by omega,h2⟩ (.inl rfl)).ctx c d
namespace Pm
theorem W_L (p:Pm n) {i:Nat} (hi:0<i∧i<n) (h:p.beg i):p.W<(p.L i hi).W:=by
 have h3:=zk5 (F:=fun x=>x*(p.L i hi).f x) (G:=fun x=>x*p.f x) n (p:=i-1) (q:=i) (by omega) hi.2 (fun x hx n1 n2=>by
  show x*p.f (sw i x)=x*p.f x;rw [Pm.sw_ne n2 (by omega)])
 have e1:(p.L i hi).f (i-1)=p.f i:=by show p.f (sw i (i-1))=_;rw [Pm.sw_pre hi.1]
 have e2:(p.L i hi).f i=p.f (i-1):=by show p.f (sw i i)=_;rw [Pm.sw_at]
 simp only [e1,e2] at h3;show Sum _ n<Sum _ n;have h:p.f i<p.f (i-1):=h;obtain ⟨k,rfl⟩:∃ k,i=k+1:=⟨i-1,by omega⟩;rw [Nat.add_sub_cancel] at h h3;rw [Nat.succ_mul,Nat.succ_mul] at h3;omega
end Pm
inductive Rd {n:Nat}:Pm n→List Int→Prop
 | one:Rd (Pm.one n) []
 | cons (p:Pm n) (i:Nat) (hi:0<i∧i<n) (hb:p.beg i) {u:List Int} (h:Rd (p.L i hi) u):Rd p ((i:Int)::u)
theorem Rd.ex:∀ (k:Nat) (p:Pm n),n*(n*n)-p.W≤k→∃ u,Rd p u
 | k,p,hk=>by
  by_cases h:∃ i,0<i∧i<n∧p.beg i
  ·obtain ⟨i,h1,h2,h3⟩:=h;have h4:=p.W_L ⟨h1,h2⟩ h3;have h5:=(p.L i ⟨h1,h2⟩).W_le
   match k with
   | 0=>omega
   | k+1=>
    obtain ⟨u,hu⟩:=Rd.ex k (p.L i ⟨h1,h2⟩) (by omega);exact ⟨_,.cons p i ⟨h1,h2⟩ h3 hu⟩
  ·have:p=Pm.one n:=Pm.one_of fun i h1 h2 h3=>h ⟨i,h1,h2,h3⟩;subst this;exact ⟨[],.one⟩
theorem zsc {u v:List Int} (hu:Vld n u) (hv:Vld n v) (h:Cn n u v):nfW n u=nfW n v:=by
 by_cases hn:2≤n
 ·exact (h.alk hn).nf hn
 ·have nil:∀ {w:List Int},Vld n w→w=[]:=fun {w} hw=>by
   cases w with
   | nil=>rfl
   | cons x w=>have:=hw.head;omega
  rw [nil hu,nil hv]
end
section
variable {l:List Int} {n:Nat}
theorem zwj {x:Int} (hx:0<x.natAbs∧x.natAbs<n):Cn n [x,-x] []:=.undo [] [] x hx
theorem zt6 {x y:Int} (hx:0<x.natAbs∧x.natAbs<n) (h:Cn n [x,y] [y,x]):Cn n [-x,y] [y,-x]:=by
 have a1:Cn n [-x,y] [-x,y,x,-x]:=((zwj hx).pre [-x,y]).symm;have a2:Cn n [-x,y,x,-x] [-x,x,y,-x]:=((h.symm.pre [-x]).post [-x]);have a3:Cn n [-x,x,y,-x] [y,-x]:=by
  have:=(Cn.undo (n:=n) [] [y,-x] (-x) ⟨by omega,by omega⟩);rw [Int.neg_neg] at this;exact this
 exact a1.trans (a2.trans a3)
theorem zxu {x y:Int} (hx:0<x.natAbs∧x.natAbs<n) (hy:0<y.natAbs∧y.natAbs<n) (h:x.natAbs+2≤y.natAbs∨y.natAbs+2≤x.natAbs):Cn n [x,y] [y,x]:=by
 have key:∀ {i j:Nat},0<i→j<n→i+2≤j→Cn n [(i:Int),(j:Int)] [(j:Int),(i:Int)]:=fun h1 h2 h3=>.far [] [] _ _ h1 h3 h2;have pos:Cn n [(x.natAbs:Int),(y.natAbs:Int)] [(y.natAbs:Int),(x.natAbs:Int)]:=by
  rcases h with h|h
  ·exact key hx.1 hy.2 h
  ·exact (key hy.1 hx.2 h).symm
 have px:Cn n [x,(y.natAbs:Int)] [(y.natAbs:Int),x]:=by
  rcases Int.natAbs_eq x with e|e
  ·rw [e];exact pos
  ·rw [e];exact zt6 (by rw [Int.natAbs_natCast];exact hx) pos
 rcases Int.natAbs_eq y with e|e
 ·rw [← e] at px;exact px
 ·have:=(zt6 (x:=(y.natAbs:Int)) (by rw [Int.natAbs_natCast];exact hy) px.symm).symm;rw [← e] at this;exact this
theorem zql {x:Int} (hx:0<x.natAbs∧x.natAbs<n):∀ {M:List Int},(∀ y,y∈M→0<y.natAbs∧y.natAbs<n∧(x.natAbs+2≤y.natAbs∨y.natAbs+2≤x.natAbs))→Cn n (M++[x]) (x::M)
 | [],_=>.refl _
 | m::M,h=>by
  have h1:=h m List.mem_cons_self;have h2:=zql hx (M:=M) fun y hy=>h y (List.mem_cons_of_mem _ hy);have h3:Cn n (m::x::M) (x::m::M):=(zxu ⟨h1.1,h1.2.1⟩ hx h1.2.2.symm).post M;exact (h2.cons m).trans h3
theorem zwk {x:Int} (hx:0<x.natAbs∧x.natAbs<n) {A M:List Int} (h:∀ y,y∈M→0<y.natAbs∧y.natAbs<n∧(x.natAbs+2≤y.natAbs∨y.natAbs+2≤x.natAbs)):Cn n (A ++ -x::M++[x]) (A++M):=by
 rw [List.append_assoc];refine Cn.pre ?_ A;have h1:Cn n (-x::(M++[x])) (-x::x::M):=(zql hx h).cons (-x);have h2:=Cn.undo (n:=n) [] M (-x) ⟨by omega,by omega⟩;rw [Int.neg_neg] at h2;exact h1.trans h2
def crsL (l:List Int) (L:List Nat):List Int:=(ltsL l L).filter fun x=>!isPn x
theorem zgj (l:List Int) (A B:List Nat):crsL l (A++B)=crsL l A++crsL l B:=by unfold crsL;rw [zca,List.filter_append]
def LetN (n:Nat) (l:List Int):Prop:=∀ j,isPn (l.getD j 0)=false→j<l.length→0<(l.getD j 0).natAbs∧(l.getD j 0).natAbs<n
theorem zuy {x y:Int} (hx:isPn x=false) (hy:isPn y=false) (h:tchL y x=false):x.natAbs+2≤y.natAbs∨y.natAbs+2≤x.natAbs:=by
 have nn:∀ {z:Int},isPn z=false→numL z=(z.natAbs:Int):=fun {z} hz=>by
  have:=of_decide_eq_false hz;unfold numL;rw [if_neg this];split <;> omega
 unfold tchL at h;rw [hx,hy,nn hx,nn hy] at h;simp only [Bool.and_false,Bool.not_false,Bool.and_true,Bool.and_eq_false_iff,decide_eq_false_iff_not] at h;omega
theorem zxt {out:List Nat} {i:Nat} (hp:out.Pairwise (· < ·)) (hs:-1000≤l.getD i 0) (hl:LetN n l) (hi:i<l.length) (ho:∀ z,z∈out→z<l.length):Cn n (crsL l (out++[i])) (crsL l (outS l out i)):=by
 rcases zcn hp hs with ⟨h1,h2⟩|⟨X,e,Y,rfl,h1,h2,h3,h4,h5⟩
 ·rw [h1];exact .refl _
 ·rw [h1,zgj,zgj,zgj];have e1:crsL l (e::Y) = -(l.getD i 0)::crsL l Y:=by
   unfold crsL;rw [zfj,h4,List.filter_cons_of_pos (by rw [h3];rfl)]
  have e2:crsL l [i]=[l.getD i 0]:=by
   unfold crsL;rw [zf6,List.filter_cons_of_pos (by rw [h2];rfl)];rfl
  rw [e1,e2];refine zwk (hl i h2 hi) fun y hy=>?_;obtain ⟨m1,m2⟩:=List.mem_filter.1 hy;obtain ⟨j,hj,rfl⟩:=List.mem_map.1 m1;have hpj:isPn (l.getD j 0)=false:=by simpa using m2
  have hb:=hl j hpj (ho j (List.mem_append_right _ (List.mem_cons_of_mem _ hj)));exact ⟨hb.1,hb.2,zuy h2 hpj (h5 j hj)⟩
theorem zk1 (hs:∀ j,-1000≤l.getD j 0) (hl:LetN n l):∀ (L out:List Nat),(out++L).Pairwise (· < ·)→(∀ z,z∈out++L→z<l.length)→Cn n (crsL l (out++L)) (crsL l (L.foldl (outS l) out))
 | [],out,_,_=>by rw [List.append_nil];exact .refl _
 | i::L,out,hp,hm=>by
  have hp0:=(List.pairwise_append.1 hp).1;have h1:=zxt (n:=n) hp0 (hs i) hl (hm i (List.mem_append_right _ List.mem_cons_self)) fun z hz=>hm z (List.mem_append_left _ hz);have h2:=zk1 hs hl L _ (zeq hp (hs i)) fun z hz=>by
   have ha:=zeq hp (hs i);rcases List.mem_append.1 hz with hz|hz
   ·have:=(zc4 hs (z:=z) [i] out (hp.sublist (List.Sublist.append (List.Sublist.refl _) (List.Sublist.cons_cons i (List.nil_sublist L))))).1 hz;rcases List.mem_append.1 this with h|h
    ·exact hm z (List.mem_append_left _ h)
    ·obtain rfl:=List.mem_singleton.1 h;exact hm z (List.mem_append_right _ List.mem_cons_self)
   ·exact hm z (List.mem_append_right _ (List.mem_cons_of_mem _ hz))
  have e:out++i::L=(out++[i])++L:=by rw [List.append_assoc];rfl
  rw [e,zgj];rw [zgj] at h2;exact (h1.post _).trans h2
theorem zwl (hs:∀ j,-1000≤l.getD j 0) (hl:LetN n l):Cn n (l.filter fun x=>!isPn x) (ltsL l (tigL l (resT l fun _=>true))):=by
 have ha:=zdb l.length;have hr:=zb5 l fun _=>true;have h1:Cn n (crsL l (List.range l.length)) (crsL l (tigT l)):=zk1 hs hl (List.range l.length) [] ha.1 ha.2;have h2:Cn n (crsL l (resT l fun _=>true)) (crsL l (tigL l (resT l fun _=>true))):=zk1 hs hl _ [] hr.1 hr.2;have e1:crsL l (List.range l.length)=l.filter fun x=>!isPn x:=by
  unfold crsL ltsL;congr 1;apply List.ext_getElem (by simp);intro i a b;rw [List.getElem_map,List.getElem_range,zae b]
 have e2:crsL l (tigT l)=crsL l (resT l fun _=>true):=by
  unfold crsL ltsL resT;rw [List.filter_map,List.filter_map,List.filter_filter];congr 1;refine List.filter_congr fun j _=>?_;show (!isPn (l.getD j 0))=((!isPn (l.getD j 0)) && !(isPn (l.getD j 0)&&true));cases isPn (l.getD j 0) <;> rfl
 have e3:crsL l (tigL l (resT l fun _=>true))=ltsL l (tigL l (resT l fun _=>true)):=by
  unfold crsL;refine List.filter_eq_self.2 fun x hx=>?_;obtain ⟨j,hj,rfl⟩:=List.mem_map.1 hx;have:=(zc4 hs (z:=j) (resT l fun _=>true) [] hr.1).1 hj;have:=(List.mem_filter.1 this).2
  rwa [Bool.and_true] at this
 rw [e1] at h1;rw [e2] at h1;rw [e3] at h2;exact h1.trans h2
end
namespace RCrs
noncomputable def RUN (s:ES):ZF:=RZ 40 .nil (atS 0 40 3) [] [[(1,none),(3,some (1,3,.ints .i64 [])),(4,none)]] false s
noncomputable def sL (t:Int) (l g:List Int) (nn:Bool) (i:Int):NS:=⟨[⟨40,28,[(1,(EV.ptr 0 0)),(3,EV.slO 1 1 g.length nn),(4,iv i)],[.it (.code (nav [1,1,0,1,0,0,0] (bodyOf Try.f40))),.it (.code (nav [1,1,0,1,0,0,1] (bodyOf Try.f40))),.it (.inLoop (nav [1,1,0,1,0,0] (bodyOf Try.f40))),.it (.inBlock 0),.it (.code (nav [1,1,1] (bodyOf Try.f40)))],[],Option.none⟩],[(0,(EK.cells 24 [(iv t),(il l)] true)),(1,EK.seq 3 (.ints .i64 g) nn)],2⟩
theorem in_t (t:Int) (l:List Int):RUN (st0 40 [hE t l])=(.at (sL t l [] false 0)):=by kernel_rfl
theorem l_t (t:Int) (l g:List Int) (nn:Bool) (i:Int):RUN (stOf (sL t l g nn i))=(bc (decide (i<Int.ofNat l.length)) (bc (bc (bc (decide (0≤i)) (Nat.blt i.toNat l.length) false) true false) (bc (bc (Nat.blt i.toNat l.length) true false) (bc (!decide (1000<l.getD i.toNat 0)) (bc (bc (bc (decide (0≤i)) (Nat.blt i.toNat l.length) false) true false) (bc (bc (Nat.blt i.toNat l.length) true false) (bc (bc (Nat.beq g.length g.length) (bc (Nat.ble (g.length+([l.getD i.toNat 0]).length) 65536) (bc nn true (bc nn false true)) false) false) (.at (sL t l (g++[l.getD i.toNat 0]) (bc nn true (Nat.blt 0 ([l.getD i.toNat 0]).length)) (IntKind.i64.wrap (i+1)))) .bad) .bad) .bad) (.at (sL t l g nn (IntKind.i64.wrap (i+1))))) .bad) .bad) (bc (Nat.beq g.length g.length) (.done (il g) [] 0) .bad)):=by kernel_rfl
theorem oneC (x:Int):[x]=[x]:=rfl
def crI (l:List Int) (i:Nat):List Int:=(l.take i).filter fun x=>!isPn x
theorem zwg (l:List Int) (i:Nat):(crI l i).length≤i:=by
 have h1:=List.length_filter_le (fun x=>!isPn x) (l.take i);have h2:=List.length_take_le i l;unfold crI;omega
theorem loop {t:Int} {l:List Int} (hl:l.length≤3000):∀ (k i:Nat) (nn:Bool),i+k=l.length→EndZ 40 .nil false (stOf (sL t l (crI l i) nn i)) (il (l.filter fun x=>!isPn x)) [] 0
 | 0,i,nn,h=>by
  obtain rfl:i=l.length:=by omega
  have h1:=l_t t l (crI l l.length) nn l.length;have e:crI l l.length=l.filter fun x=>!isPn x:=by unfold crI;rw [List.take_length]
  rw [df (show ¬ (l.length:Int)<Int.ofNat l.length by rw [ofn];omega),bc_f] at h1;simp (disch:=omega) only [yS] at h1;rw [← e];exact .done h1
 | k+1,i,nn,h=>by
  have hi:i<l.length:=by omega
  have h1:=l_t t l (crI l i) nn i;have e0:Int.toNat (i:Int)=i:=rfl;have lg:=zwg l i;have w:bc nn true (Nat.blt 0 (List.length [l.getD i 0]))=true:=by cases nn <;> rfl
  have w2:bc nn true (bc nn false true)=true:=by cases nn <;> rfl
  have e:crI l (i+1)=crI l i++(if !isPn (l.getD i 0) then [l.getD i 0] else []):=by
   unfold crI;rw [List.take_succ_eq_append_getElem hi,za7,zae hi]
  rw [oneC,e0,w,w2,ofn] at h1
  by_cases c:1000<l.getD i 0
  ·rw [show isPn (l.getD i 0)=true from decide_eq_true c,if_neg (by simp),List.append_nil] at e
   rw [dt c,← e] at h1;simp (disch:=omega) only [yS,Bool.not_true] at h1;rw [← e];exact .at (.nil _) h1 (loop hl k (i+1) nn (by omega))
  ·rw [show isPn (l.getD i 0)=false from decide_eq_false c,if_pos (show (!false)=true from rfl)] at e
   rw [df c,← e] at h1;simp (disch:=omega) only [yS,Bool.not_false] at h1;exact .at (.nil _) h1 (loop hl k (i+1) true (by omega))
theorem ends {t:Int} {l:List Int} (hl:l.length≤3000):EndZ 40 .nil false (st0 40 [hE t l]) (il (l.filter fun x=>!isPn x)) [] 0:=
 .at (.nil _) (in_t t l) (loop hl l.length 0 false (by omega))
end RCrs
noncomputable def spCrs:ZCT:=fun ax=>match ax with
 | [.agg [.v (.int .i64 t),.lst (.ints .i64 l)]]=>some ⟨decide (l.length≤3000),il (l.filter fun x=>!isPn x),[],0⟩
 | _=>none
theorem zrw:ZCtOk Try.prog 40 spCrs:=fun γ w us ax r hs hc hax hN hfz=>by
 unfold spCrs at hs;split at hs
 case h_2=>cases hs
 rename_i t l;obtain ⟨rfl⟩:=Option.some.inj hs;have hc_0:decide (l.length≤3000)=true:=hc;have hc:=of_decide_eq_true hc_0;exact EndZ.calls (RCrs.ends hc) (.nil _) (by kernel_rfl) hax hN hfz
namespace LIns
noncomputable def RUN (s:ES):ZF:=RZ 37 .nil (atS 0 37 2) [] [[(1,none),(2,none),(5,none)]] false s
noncomputable def sL (t:Int) (l p:List Int) (i:Int):NS:=⟨[⟨37,43,[(1,(il p)),(2,(EV.ptr 0 0)),(5,iv i)],[.it (.code (nav [1,0,1,0,0,0] (bodyOf Try.f37))),.it (.code (nav [1,0,1,0,0,1] (bodyOf Try.f37))),.it (.inLoop (nav [1,0,1,0,0] (bodyOf Try.f37))),.it (.inBlock 0),.it (.code (nav [1,1] (bodyOf Try.f37)))],[],Option.none⟩],[(0,(EK.cells 24 [(iv t),(il l)] true))],1⟩
theorem in_t (t:Int) (l p:List Int):RUN (st0 37 [hE t l,il p])=(.at (sL t l p 0)):=by kernel_rfl
theorem l_t (t:Int) (l p:List Int) (i:Int):RUN (stOf (sL t l p i))=(bc (decide (i<Int.ofNat p.length)) (bc (decide (p.getD i.toNat 0<0)) (bc (bc (bc (bc (bc (decide (0≤i)) (Nat.blt i.toNat p.length) false) true false) (bc (bc (Nat.blt i.toNat p.length) true false) (bc (eqB (decide (p.getD i.toNat 0<0)) true) true false) false) false) true false) (.done (bv false) [] 0) .bad) (bc (decide (Int.ofNat l.length≤p.getD i.toNat 0)) (bc (bc (bc (bc (bc (decide (0≤i)) (Nat.blt i.toNat p.length) false) true false) (bc (bc (Nat.blt i.toNat p.length) true false) (bc (eqB (decide (p.getD i.toNat 0<0)) false) (bc (bc (bc (decide (0≤i)) (Nat.blt i.toNat p.length) false) true false) (bc (bc (Nat.blt i.toNat p.length) true false) (bc (eqB (decide (Int.ofNat l.length≤p.getD i.toNat 0)) true) true false) false) false) false) false) false) true false) (.done (bv false) [] 0) .bad) (bc (decide (0<i)) (bc (bc (bc (bc (bc (decide (0≤i)) (Nat.blt i.toNat p.length) false) true false) (bc (bc (Nat.blt i.toNat p.length) true false) (bc (eqB (decide (p.getD i.toNat 0<0)) false) (bc (bc (bc (decide (0≤i)) (Nat.blt i.toNat p.length) false) true false) (bc (bc (Nat.blt i.toNat p.length) true false) (bc (eqB (decide (Int.ofNat l.length≤p.getD i.toNat 0)) false) (bc (eqB (decide (0<i)) true) (bc (bc (bc (decide (0≤IntKind.i64.wrap (i-(1:Int)))) (Nat.blt (IntKind.i64.wrap (i-(1:Int))).toNat p.length) false) true false) (bc (bc (Nat.blt (IntKind.i64.wrap (i-(1:Int))).toNat p.length) true false) (bc (bc (bc (decide (0≤i)) (Nat.blt i.toNat p.length) false) true false) (bc (bc (Nat.blt i.toNat p.length) true false) true false) false) false) false) false) false) false) false) false) false) false) true false) (bc (decide (p.getD i.toNat 0≤p.getD (IntKind.i64.wrap (i-(1:Int))).toNat 0)) (.done (bv false) [] 0) (.at (sL t l p (IntKind.i64.wrap (i+1))))) .bad) (bc (bc (bc (bc (bc (decide (0≤i)) (Nat.blt i.toNat p.length) false) true false) (bc (bc (Nat.blt i.toNat p.length) true false) (bc (eqB (decide (p.getD i.toNat 0<0)) false) (bc (bc (bc (decide (0≤i)) (Nat.blt i.toNat p.length) false) true false) (bc (bc (Nat.blt i.toNat p.length) true false) (bc (eqB (decide (Int.ofNat l.length≤p.getD i.toNat 0)) false) (bc (eqB (decide (0<i)) false) true false) false) false) false) false) false) false) true false) (.at (sL t l p (IntKind.i64.wrap (i+1)))) .bad)))) (.done (bv true) [] 0)):=by kernel_rfl
theorem loop {t:Int} {l:List Int} {P:List Nat} (hA:AscI l.length P) (hl:l.length≤3000):∀ (k i:Nat),i+k=P.length→EndZ 37 .nil false (stOf (sL t l (ofNs P) i)) (bv true) [] 0
 | 0,i,h=>by
  have h1:=l_t t l (ofNs P) i;rw [zai,df (show ¬ (i:Int)<Int.ofNat P.length by rw [ofn];omega),bc_f] at h1;exact .done h1
 | k+1,i,h=>by
  have hi:i<P.length:=by omega
  have hpl:=zfb hA;have h1:=l_t t l (ofNs P) i;have e0:Int.toNat (i:Int)=i:=rfl;have hg:(ofNs P).getD i 0=((P[i]:Nat):Int):=by rw [zcx hi,zae hi]
  have hlt:=hA.2 _ (List.getElem_mem hi);have w4:IntKind.wrap IntKind.i64 ((i:Int)+1)=((i+1:Nat):Int):=by rw [zad _ (by omega) (by omega)];omega
  rw [e0,hg,zai,w4,df (show ¬ ((P[i]:Nat):Int)<0 by omega),df (show ¬ Int.ofNat l.length≤((P[i]:Nat):Int) by rw [ofn];omega)] at h1
  by_cases c:0<i
  ·have w5:IntKind.wrap IntKind.i64 ((i:Int)-1)=((i-1:Nat):Int):=by rw [zad _ (by omega) (by omega)];omega
   have hi2:i-1<P.length:=by omega
   have hg2:(ofNs P).getD (i-1) 0=((P[i-1]:Nat):Int):=by rw [zcx hi2,zae hi2]
   have hpw:=List.pairwise_iff_getElem.1 hA.1 (i-1) i hi2 hi (by omega);rw [w5,show Int.toNat ((i-1:Nat):Int)=i-1 from rfl,hg2,df (show ¬ ((P[i]:Nat):Int)≤((P[i-1]:Nat):Int) by omega),dt (show (0:Int)<(i:Int) by omega)] at h1
   simp (disch:=omega) only [yS,eqB] at h1;exact .at (.nil _) h1 (loop hA hl k (i+1) (by omega))
  ·rw [df (show ¬ (0:Int)<(i:Int) by omega)] at h1;simp (disch:=omega) only [yS,eqB] at h1;exact .at (.nil _) h1 (loop hA hl k (i+1) (by omega))
end LIns
def InsOk (l p:List Int):Prop:=(∃ P,p=ofNs P∧AscI l.length P)∧l.length≤3000
noncomputable instance InsOk.dec (l p:List Int):Decidable (InsOk l p):=Classical.propDecidable _
theorem zsl {t:Int} {l p:List Int} (h:InsOk l p):EndZ 37 .nil false (st0 37 [hE t l,il p]) (bv true) [] 0:=by
 obtain ⟨⟨P,rfl,hA⟩,hl⟩:=h;exact .at (.nil _) (LIns.in_t t l (ofNs P)) (LIns.loop hA hl P.length 0 (by omega))
noncomputable def spIns:ZCT:=fun ax=>match ax with
 | [.agg [.v (.int .i64 t),.lst (.ints .i64 l)],.lst (.ints .i64 p)]=>some ⟨decide (InsOk l p),bv true,[],0⟩
 | _=>none
theorem zru:ZCtOk Try.prog 37 spIns:=fun γ w us ax r hs hc hax hN hfz=>by
 unfold spIns at hs;split at hs
 case h_2=>cases hs
 rename_i t l p;obtain ⟨rfl⟩:=Option.some.inj hs;have hc_0:decide (InsOk l p)=true:=hc;have hc:=of_decide_eq_true hc_0;exact EndZ.calls (zsl hc) (.nil _) (by kernel_rfl) hax hN hfz
end Go.Proofs.Ytooimphimnagaaa.Ev



namespace Go.Proofs.Ytooimphimnagaaa.Ev
section
namespace PTim
variable {n:Nat}
end PTim
end
section
namespace PNrm
variable {n:Nat}
end PNrm
def WOk (n:Int) (w:List Int):Prop:=1≤n∧n≤12∧w.length≤2000∧Vld n.toNat w
noncomputable instance (n:Int) (w:List Int):Decidable (WOk n w):=Classical.propDecidable _
end
noncomputable def badL (n x:Int):Bool:=bc (x==0) true (bc (decide (x≤IntKind.i64.wrap (0-n))) true (decide (n≤x)))
noncomputable def chk (n:Int) (l:List Int):Int:=bc (decide (n<1)) 2 (bc (decide (12<n)) 2 (bc (decide (400<Int.ofNat l.length)) 3 (bc (l.any (badL n)) 7 0)))
theorem zwm {f:FuncId} {s:ES} (n:Int) (h:RZ f .nil (fun _=>false) [] [] false s=bc (decide (n<1)) (.done (iv 2) [] 0) (bc (decide (12<n)) (.done (iv 2) [] 0) (.done (iv 0) [] 0))):EndZ f .nil false s (iv (chk n [])) [] 0:=by
 unfold chk
 by_cases h1:n<1
 ·rw [dt h1,bc_t] at h ⊢;exact .done h
 by_cases h2:12<n
 ·rw [df h1,dt h2,bc_f,bc_t] at h ⊢;exact .done h
 ·rw [df h1,df h2,bc_f,bc_f] at h ⊢;exact .done h
namespace RChk
noncomputable def RUN (s:ES):ZF:=RZ 42 .nil (atS 0 42 6) [] [[(0,none),(1,none),(5,none)]] false s
noncomputable def sL (n:Int) (l:List Int) (i:Int):NS:=⟨[⟨42,43,[(0,(iv n)),(1,(il l)),(5,iv i)],[.it (.code (nav [1,1,1,0,1,0,0,0] (bodyOf Try.f42))),.it (.code (nav [1,1,1,0,1,0,0,1] (bodyOf Try.f42))),.it (.inLoop (nav [1,1,1,0,1,0,0] (bodyOf Try.f42))),.it (.inBlock 0),.it (.code (nav [1,1,1,1] (bodyOf Try.f42)))],[],Option.none⟩],[],0⟩
theorem in_t (n:Int) (l:List Int):RUN (st0 42 [iv n,il l])=(bc (decide (n<1)) (.done (iv (2)) [] 0) (bc (decide (12<n)) (.done (iv (2)) [] 0) (bc (decide (400<Int.ofNat l.length)) (.done (iv (3)) [] 0) (.at (sL n l 0))))):=by kernel_rfl
theorem nil_t (n:Int):RZ 42 .nil (fun _=>false) [] [] false (st0 42 [iv n,.v (.slice none 0 0)])=(bc (decide (n<(1:Int))) (.done (EV.v (Value.int IntKind.i64 (2))) [] 0) (bc (decide ((12:Int)<n)) (.done (EV.v (Value.int IntKind.i64 (2))) [] 0) (.done (EV.v (Value.int IntKind.i64 (0))) [] 0))):=by kernel_rfl
theorem step_t (n:Int) (l:List Int) (i:Int):RUN (stOf (sL n l i))=(bc (decide (i<Int.ofNat l.length)) (bc (bc (bc (decide (0≤i)) (Nat.blt i.toNat l.length) false) true false) (bc (bc (Nat.blt i.toNat l.length) true false) (bc (l.getD i.toNat 0==0) (.done (iv (7)) [] 0) (bc (bc (bc (decide (0≤i)) (Nat.blt i.toNat l.length) false) true false) (bc (bc (Nat.blt i.toNat l.length) true false) (bc (decide (l.getD i.toNat 0≤IntKind.i64.wrap ((0:Int)-n))) (.done (iv (7)) [] 0) (bc (bc (bc (decide (0≤i)) (Nat.blt i.toNat l.length) false) true false) (bc (bc (Nat.blt i.toNat l.length) true false) (bc (decide (n≤l.getD i.toNat 0)) (.done (iv (7)) [] 0) (.at (sL n l (IntKind.i64.wrap (i+1))))) .bad) .bad)) .bad) .bad)) .bad) .bad) (.done (iv (0)) [] 0)):=by kernel_rfl
theorem step {n:Int} {l:List Int} {i:Nat} (hi:i<l.length) (hl:l.length≤400):RUN (stOf (sL n l i))=bc (badL n l[i]) (.done (iv 7) [] 0) (.at (sL n l (i+1:Nat))):=by
 rw [step_t];have e:l.getD i 0=l[i]:=zae hi;simp (disch:=omega) only [yS,e];unfold badL;cases (l[i]==0) <;> cases decide (l[i]≤IntKind.i64.wrap (0-n)) <;> cases decide (n≤l[i]) <;> rfl
theorem last {n:Int} {l:List Int} {i:Nat} (hi:l.length≤i):RUN (stOf (sL n l i)) = .done (iv 0) [] 0:=by
 rw [step_t];simp (disch:=omega) only [yS]
theorem loop {n:Int} {l:List Int} (hl:l.length≤400):∀ (k i:Nat),i+k=l.length→EndZ 42 .nil false (stOf (sL n l i)) (iv (bc ((l.drop i).any (badL n)) 7 0)) [] 0
 | 0,i,h=>by
  rw [List.drop_eq_nil_of_le (by omega)];exact .done (last (by omega))
 | k+1,i,h=>by
  have hi:i<l.length:=by omega
  have hs:=step (n:=n) hi hl;rw [List.drop_eq_getElem_cons hi,List.any_cons];cases hb:badL n l[i] <;> rw [hb] at hs
  ·exact .at (.nil _) hs (loop hl k (i+1) (by omega))
  ·exact .done hs
theorem ends (n:Int) (l:List Int):EndZ 42 .nil false (st0 42 [iv n,il l]) (iv (chk n l)) [] 0:=by
 have h:=in_t n l;unfold chk
 by_cases h1:n<1
 ·simp only [yS,dt h1] at h ⊢;exact .done h
 by_cases h2:12<n
 ·simp only [yS,df h1,dt h2] at h ⊢;exact .done h
 by_cases h3:(400:Int)<(l.length:Int)
 ·simp only [yS,df h1,df h2,dt h3] at h ⊢;exact .done h
 ·simp only [yS,df h1,df h2,df h3] at h ⊢;exact .at (.nil _) h (loop (by omega) l.length 0 (by omega))
end RChk
noncomputable def spRChk_0:ZCT:=fun ax=>match ax with
 | [.v (.int .i64 n),.lst (.ints .i64 l)]=>some ⟨decide (True),iv (chk n l),[],0⟩
 | _=>none
theorem zj1:ZCtOk Try.prog 42 spRChk_0:=fun γ w us ax r hs hc hax hN hfz=>by
 unfold spRChk_0 at hs;split at hs
 case h_2=>cases hs
 rename_i n l;obtain ⟨rfl⟩:=Option.some.inj hs;have hc_0:decide (True)=true:=hc;have hc:=of_decide_eq_true hc_0;exact EndZ.calls (RChk.ends n l) (.nil _) (by kernel_rfl) hax hN hfz
noncomputable def spRChk_1:ZCT:=fun ax=>match ax with
 | [.v (.int .i64 n),.v (.slice none 0 0)]=>some ⟨decide (True),iv (chk n []),[],0⟩
 | _=>none
theorem zj0:ZCtOk Try.prog 42 spRChk_1:=fun γ w us ax r hs hc hax hN hfz=>by
 unfold spRChk_1 at hs;split at hs
 case h_2=>cases hs
 rename_i n;obtain ⟨rfl⟩:=Option.some.inj hs;have hc_0:decide (True)=true:=hc;have hc:=of_decide_eq_true hc_0;exact EndZ.calls (zwm n (RChk.nil_t n)) (.nil _) (by kernel_rfl) hax hN hfz
noncomputable def spRChk:ZCT:=ZCT.or spRChk_0 (spRChk_1)
theorem ziw:ZCtOk Try.prog 42 spRChk:=zj1.or (zj0)
theorem zqn {n:Int} {w:List Int} (h:chk n w=0):WOk n w∧w.length≤400:=by
 unfold chk at h
 by_cases h1:n<1
 ·rw [dt h1,bc_t] at h;omega
 by_cases h2:12<n
 ·rw [df h1,dt h2,bc_f,bc_t] at h;omega
 by_cases h3:(400:Int)<Int.ofNat w.length
 ·rw [df h1,df h2,dt h3,bc_f,bc_f,bc_t] at h;omega
 rw [df h1,df h2,df h3,bc_f,bc_f,bc_f] at h;rw [ofn] at h3;refine ⟨⟨by omega,by omega,by omega,fun x hx=>?_⟩,by omega⟩
 cases ha:w.any (badL n) with
 | true=>rw [ha,bc_t] at h;omega
 | false=>
  have h4:badL n x=false:=by
   cases hb:badL n x with
   | false=>rfl
   | true=>rw [List.any_eq_true.2 ⟨x,hx,hb⟩] at ha;cases ha
  unfold badL at h4;rw [zad (0-n) (by omega) (by omega)] at h4;have e:((n.toNat:Nat):Int)=n:=Int.toNat_of_nonneg (by omega);rw [e]
  by_cases q1:x=0
  ·rw [show (x==0)=true by simp [q1],bc_t] at h4;cases h4
  ·rw [show (x==0)=false by simp [q1],bc_f] at h4
   by_cases q2:x≤0-n
   ·rw [dt q2,bc_t] at h4;cases h4
   ·rw [df q2,bc_f] at h4;have q3:=of_decide_eq_false h4;exact ⟨q1,by omega,by omega⟩
noncomputable def sameN (n:Int) (a b:List Int):Bool:=decide (nfW n.toNat a=nfW n.toNat b)
noncomputable def samE (n:Int) (a b:List Int):Int:=bc (chk n a != 0) (chk n a) (chk n b)
noncomputable def samB (n:Int) (a b:List Int):Bool:=bc (samE n a b != 0) false (sameN n a b)
theorem zsb {n:Int} {w:List Int} (h:WOk n w):(nfW n.toNat w).F.length≤5000:=by
 obtain ⟨_,_,h3,_⟩:=h;have:∀ (w:List Int) (s:Frm n.toNat),(w.foldl Frm.step s).F.length≤s.F.length+w.length:=by
  intro w
  induction w with
  | nil=>intro s;exact Nat.le_refl _
  | cons x w ih=>
   intro s;have h1:=ih (s.step x);have h2:=(zrf s x).1;rw [List.foldl_cons,List.length_cons];omega
 have:=this w ⟨0,[]⟩;have e:nfW n.toNat w=w.foldl Frm.step ⟨0,[]⟩:=rfl;rw [e];simp at this;omega
end Go.Proofs.Ytooimphimnagaaa.Ev

namespace Go.Proofs.Ytooimphimnagaaa.Ev
section
variable {n:Nat}
end
section
variable {n:Nat}
end
section
variable {n:Nat}
end
section
variable {n:Nat}
noncomputable def pR (p:Pm n):List Int:=(List.range n).map fun x=>((p.f x:Nat):Int)
theorem zag (p:Pm n):(pR p).length=n:=by unfold pR;rw [List.length_map,List.length_range]
theorem zax (p:Pm n) {x:Nat} (hx:x<n):(pR p).getD x 0=(p.f x:Int):=by
 unfold pR;rw [List.getD_eq_getElem?_getD,List.getElem?_map,List.getElem?_range hx];rfl
theorem zi7 {p:Pm n} {l:List Int} (hl:l.length=n) (h:∀ x,x<n→l.getD x 0=(p.f x:Int)):l=pR p:=by
 apply List.ext_getElem (by rw [hl,zag]);intro x h1 h2;have h3:=h x (by omega);rw [← zax p (by omega),zae h1,zae h2] at h3;exact h3
theorem zts {p q:Pm n} (h:pR p=pR q):p=q:=Pm.ext fun x=>by
 by_cases hx:x<n
 ·have h1:=zax p hx;rw [h,zax q hx] at h1;omega
 ·rw [p.out x (by omega),q.out x (by omega)]
open Classical in
noncomputable def decR (n:Nat) (l:List Int):Pm n:=if h:∃ p:Pm n,l=pR p then Classical.choose h else Pm.one n
theorem zbz (p:Pm n):decR n (pR p)=p:=by
 have h:∃ q:Pm n,pR p=pR q:=⟨p,rfl⟩;unfold decR;rw [dif_pos h];exact (zts (Classical.choose_spec h)).symm
def PmL (l:List Int):Prop:=l.length≤12∧∃ p:Pm l.length,l=pR p
noncomputable instance (l:List Int):Decidable (PmL l):=Classical.propDecidable _
theorem PmL.pR (hn:n≤12) (p:Pm n):PmL (pR p):=by
 have key:∀ m,m=n→∃ q:Pm m,Ev.pR p=Ev.pR q:=fun m e=>by subst e;exact ⟨p,rfl⟩
 exact ⟨by rw [zag];exact hn,key _ (zag p)⟩
theorem PmL.get {l:List Int} (h:PmL l):l=Ev.pR (decR l.length l):=by
 obtain ⟨_,p,h2⟩:=h;have key:∀ m (q:Pm m),l=Ev.pR q→l=Ev.pR (decR m l):=fun m q e=>by
  have:∃ r:Pm m,l=Ev.pR r:=⟨q,e⟩;unfold decR;rw [dif_pos this];exact Classical.choose_spec this
 exact key _ p h2
noncomputable def aftL (p:List Int) (i:Int):List Int:=p.map fun x=>bc (decide (x=i)) (i-1) (bc (decide (x=i-1)) i x)
theorem zil (p:Pm n) {k:Nat} (hk:0<k∧k<n):aftL (pR p) k=pR (p.R k hk):=zi7 (by unfold aftL;rw [List.length_map,zag]) fun x hx=>by
 have h1:=zax p hx;unfold aftL;rw [List.getD_eq_getElem?_getD] at h1 ⊢;rw [List.getElem?_map];have h2:(pR p)[x]? = some ((pR p)[x]'(by rw [zag];exact hx)):=List.getElem?_eq_getElem (by rw [zag];exact hx);rw [h2] at h1 ⊢;simp only [Option.map_some,Option.getD_some] at h1 ⊢;rw [h1];show _=((sw k (p.f x):Nat):Int);unfold sw
 by_cases e1:p.f x=k
 ·rw [if_pos e1,bc_eq,if_pos (decide_eq_true (show ((p.f x:Nat):Int)=k by omega))];omega
 ·rw [if_neg e1,bc_eq,if_neg (by simpa using (show ¬ ((p.f x:Nat):Int)=k by omega)),bc_eq]
  by_cases e2:p.f x+1=k
  ·rw [if_pos e2,if_pos (decide_eq_true (show ((p.f x:Nat):Int)=k-1 by omega))]
  ·rw [if_neg e2,if_neg (by simpa using (show ¬ ((p.f x:Nat):Int)=k-1 by omega))]
noncomputable def finB (l:List Int) (i:Nat):Bool:=bc (decide ((decR l.length l).g i<(decR l.length l).g (i-1))) true false
noncomputable def finN (n:Nat) (l:List Int) (i:Nat):Bool:=bc (decide ((decR n l).g i<(decR n l).g (i-1))) true false
theorem zko (p:Pm n) (i:Nat):finB (pR p) i=decide (p.g i<p.g (i-1)):=by
 show finN (pR p).length (pR p) i=_;rw [zag];unfold finN;rw [zbz,bc_eq];cases decide (p.g i<p.g (i-1)) <;> rfl
noncomputable def trnN (n:Nat) (l:List Int):List Int:=pR (decR n l).trn
noncomputable def trnL (l:List Int):List Int:=trnN l.length l
theorem zn5 (p:Pm n):trnL (pR p)=pR p.trn:=by
 unfold trnL;rw [zag];unfold trnN;rw [zbz]
noncomputable instance pmDec (p q:Pm n):Decidable (p=q):=Classical.propDecidable _
noncomputable def flN (n:Nat) (l:List Int) (w:Int):Bool:=bc (decide (w=1)) (decide (decR n l=Pm.one n)) (decide (decR n l=Pm.del n))
noncomputable def flL (l:List Int) (w:Int):Bool:=flN l.length l w
theorem zpy (p:Pm n):flL (pR p) 1=decide (p=Pm.one n):=by
 unfold flL;rw [zag];unfold flN;rw [zbz];rfl
theorem zpz (p:Pm n):flL (pR p) (-1)=decide (p=Pm.del n):=by
 unfold flL;rw [zag];unfold flN;rw [zbz];rfl
noncomputable def slN1 (n:Nat) (a b:List Int):List Int:=pR (nf1 (decR n a) (decR n b))
noncomputable def slN2 (n:Nat) (a b:List Int):List Int:=pR (nf2 (decR n a) (decR n b))
noncomputable def slNB (n:Nat) (a b:List Int):Bool:=decide (nf1 (decR n a) (decR n b)≠decR n a)
noncomputable def sl1 (a b:List Int):List Int:=slN1 a.length a b
noncomputable def sl2 (a b:List Int):List Int:=slN2 a.length a b
noncomputable def slB (a b:List Int):Bool:=slNB a.length a b
theorem ztl (a b:Pm n):sl1 (pR a) (pR b)=pR (nf1 a b):=by
 unfold sl1;rw [zag];unfold slN1;rw [zbz,zbz]
theorem ztk (a b:Pm n):sl2 (pR a) (pR b)=pR (nf2 a b):=by
 unfold sl2;rw [zag];unfold slN2;rw [zbz,zbz]
theorem ztj (a b:Pm n):slB (pR a) (pR b)=decide (nf1 a b≠a):=by
 unfold slB;rw [zag];unfold slNB;rw [zbz,zbz]
open Classical in
noncomputable def woL (n i:Int):List Int:=if h:0<i.toNat∧i.toNat<n.toNat then pR (ctr (n:=n.toNat) i.toNat h) else []
theorem ztf {k:Nat} (hk:0<k∧k<n):woL n k=pR (ctr k hk):=by
 have e1:((k:Int)).toNat=k:=rfl;have e2:((n:Int)).toNat=n:=rfl;unfold woL;rw [dif_pos (show 0<((k:Int)).toNat∧((k:Int)).toNat<((n:Int)).toNat from hk)]
 rfl
theorem pR_L (p:Pm n) {i:Nat} (hi:0<i∧i<n):((pR p).set (i-1) (p.f i:Int)).set i (p.f (i-1):Int)=pR (p.L i hi):=zi7 (by rw [List.length_set,List.length_set,zag]) fun x hx=>by
 show _=((p.f (sw i x):Nat):Int);rw [gset2,gset2,List.length_set,zag]
 by_cases h1:x=i
 ·rw [if_pos ⟨h1,by omega⟩,h1,Pm.sw_at]
 ·rw [if_neg (fun h=>h1 h.1)]
  by_cases h2:x=i-1
  ·rw [if_pos ⟨h2,by omega⟩,h2,Pm.sw_pre hi.1]
  ·rw [if_neg (fun h=>h2 h.1),zax p hx,Pm.sw_ne h1 (by omega)]
noncomputable def endS (e:List Int):Nat→List Int
 | 0=>zerosL e.length
 | i+1=>(endS e i).set (e.getD i 0).toNat (i:Int)
theorem zfo (e:List Int):∀ i,(endS e i).length=e.length
 | 0=>by unfold endS zerosL;simp
 | i+1=>by unfold endS;rw [List.length_set,zfo e i]
theorem zmi (p:Pm n):∀ (i:Nat),i≤n→∀ x,x<n→p.g x<i→(endS (pR p) i).getD x 0=(p.g x:Int)
 | 0,_,x,_,h=>by omega
 | i+1,hi,x,hx,h=>by
  unfold endS;rw [gset2,zfo,zax p (by omega),Int.toNat_natCast,zag]
  by_cases e:x=p.f i
  ·subst e;rw [if_pos ⟨rfl,hx⟩,p.gf]
  ·rw [if_neg (fun h=>e h.1)];refine zmi p i (by omega) x hx ?_;have:p.g x≠i:=fun e2=>e (by rw [← e2,p.fg]);omega
theorem zwc (p:Pm n):endS (pR p) n=pR p.inv:=zi7 (by rw [zfo,zag]) fun x hx=>by
 rw [zmi p n (Nat.le_refl _) x hx (p.ltg hx)];rfl
noncomputable def rowU (p:Pm n):List U:=[.l ((pR p).map fun x=>[.i x])]
noncomputable def encR (F:List (Pm n)):List (List U):=F.map rowU
theorem zbk (F:List (Pm n)):(encR F).length=F.length:=List.length_map ..
noncomputable def facR (r:List U):List Int:=List.map (fun r=>U.int (List.headD r (U.i 0))) (U.list (List.getD r 0 (U.i 0)))
theorem zcp (p:Pm n):facR (rowU p)=pR p:=by
 unfold facR rowU;show List.map (fun r=>U.int (List.headD r (U.i 0))) ((pR p).map fun x=>[U.i x])=pR p;rw [List.map_map];exact (List.map_congr_left fun x _=>rfl).trans (List.map_id _)
def Shrt (A:List (List U)):Prop:=A.length≤5000∧∀ r,r∈A→(facR r).length≤100000
noncomputable instance (A:List (List U)):Decidable (Shrt A):=Classical.propDecidable _
theorem zwn {p:Pm n} (h:∀ i,0<i→i<n→p.beg i):p=Pm.del n:=by
 have h1:p.inv=Pm.del n:=Pm.del_of h;have h2:p=p.inv.inv:=rfl;rw [h2,h1];exact Pm.ext fun _=>rfl
end
namespace RLin
noncomputable def RUN (s:ES):ZF:=RZ 87 .nil (atS 0 87 3) [] [[(0,none),(3,some (1,3,.ints .i64 [])),(4,none)]] false s
noncomputable def sL (n:Int) (q:List Int) (nn:Bool) (i:Int):NS:=⟨[⟨87,15,[(0,(iv n)),(3,EV.slO 0 1 q.length nn),(4,iv i)],[.it (.code (nav [1,1,0,1,0,0,0] (bodyOf Try.f87))),.it (.code (nav [1,1,0,1,0,0,1] (bodyOf Try.f87))),.it (.inLoop (nav [1,1,0,1,0,0] (bodyOf Try.f87))),.it (.inBlock 0),.it (.code (nav [1,1,1] (bodyOf Try.f87)))],[],Option.none⟩],[(0,EK.seq 3 (.ints .i64 q) nn)],1⟩
theorem in_t (n:Int):RUN (st0 87 [iv n])=(.at (sL n [] false 0)):=by kernel_rfl
theorem step_t (n:Int) (q:List Int) (nn:Bool) (i:Int):RUN (stOf (sL n q nn i))=(bc (decide (i<n)) (bc (bc (Nat.beq q.length q.length) (bc (Nat.ble (q.length+([i]).length) 65536) (bc nn true (bc nn false true)) false) false) (.at (sL n (q++[i]) (bc nn true (Nat.blt 0 ([i]).length)) (IntKind.i64.wrap (i+1)))) .bad) (bc (Nat.beq q.length q.length) (.done (il q) [] 0) .bad)):=by kernel_rfl
end RLin
namespace RAft
noncomputable def RUN (s:ES):ZF:=RZ 128 .nil (atS 0 128 3) [] [[(0,none),(1,none),(5,none),(6,none)]] false s
noncomputable def sL (p:List Int) (k:Int) (q:List Int) (m:Nat) (i:Int):NS:=⟨[⟨128,39,[(0,(il p)),(1,(iv k)),(5,EV.slO 0 1 m true),(6,iv i)],[.it (.code (nav [1,1,0,1,0,0,0] (bodyOf Try.f128))),.it (.code (nav [1,1,0,1,0,0,1] (bodyOf Try.f128))),.it (.inLoop (nav [1,1,0,1,0,0] (bodyOf Try.f128))),.it (.inBlock 0),.it (.code (nav [1,1,1] (bodyOf Try.f128)))],[],Option.none⟩],[(0,EK.seq 3 (.ints .i64 q) true)],1⟩
theorem in_t (p:List Int) (k:Int):RUN (st0 128 [il p,iv k])=(bc (bc (Nat.ble (0+p.length) 65536) true false) (.at (sL p k ([]++p) ([]++p).length 0)) .bad):=by kernel_rfl
theorem step_t (p:List Int) (k:Int) (q:List Int) (m:Nat) (i:Int):RUN (stOf (sL p k q m i))=(bc (decide (i<Int.ofNat p.length)) (bc (bc (bc (decide (0≤i)) (Nat.blt i.toNat p.length) false) true false) (bc (bc (Nat.blt i.toNat p.length) true false) (bc (p.getD i.toNat 0==k) (bc (bc (bc (decide (0≤i)) (Nat.blt i.toNat m) false) true false) (bc (Nat.blt i.toNat q.length) (bc (bc (bc (decide (0≤i)) (Nat.blt i.toNat p.length) false) true false) (bc (bc (Nat.blt i.toNat p.length) true false) (bc (p.getD i.toNat 0==IntKind.i64.wrap (k-(1:Int))) (bc (bc (bc (decide (0≤i)) (Nat.blt i.toNat m) false) true false) (bc (Nat.blt i.toNat (List.set q i.toNat (IntKind.i64.wrap (k-(1:Int)))).length) (.at (sL p k (List.set (List.set q i.toNat (IntKind.i64.wrap (k-(1:Int)))) i.toNat k) m (IntKind.i64.wrap (i+1)))) .bad) .bad) (.at (sL p k (List.set q i.toNat (IntKind.i64.wrap (k-(1:Int)))) m (IntKind.i64.wrap (i+1))))) .bad) .bad) .bad) .bad) (bc (bc (bc (decide (0≤i)) (Nat.blt i.toNat p.length) false) true false) (bc (bc (Nat.blt i.toNat p.length) true false) (bc (p.getD i.toNat 0==IntKind.i64.wrap (k-(1:Int))) (bc (bc (bc (decide (0≤i)) (Nat.blt i.toNat m) false) true false) (bc (Nat.blt i.toNat q.length) (.at (sL p k (List.set q i.toNat k) m (IntKind.i64.wrap (i+1)))) .bad) .bad) (.at (sL p k q m (IntKind.i64.wrap (i+1))))) .bad) .bad)) .bad) .bad) (bc (Nat.beq m q.length) (.done (il q) [] 0) .bad)):=by kernel_rfl
end RAft
namespace RFin
noncomputable def RUN (s:ES):ZF:=RZs 144 .nil [(atS 1 96 3,[[(0,none),(3,none),(4,none)],[(1,none)]])] [] false s
noncomputable def sL (p:List Int) (k:Int) (q:List Int) (m:Nat) (i:Int):NS:=⟨[⟨96,22,[(0,(il p)),(3,EV.slO 0 1 m true),(4,iv i)],[.it (.code (nav [1,1,0,1,0,0,0] (bodyOf Try.f96))),.it (.code (nav [1,1,0,1,0,0,1] (bodyOf Try.f96))),.it (.inLoop (nav [1,1,0,1,0,0] (bodyOf Try.f96))),.it (.inBlock 0),.it (.code (nav [1,1,1] (bodyOf Try.f96)))],[],Option.none⟩,⟨144,18,[(1,(iv k))],[.ops (opsOf (nav [1,0] (bodyOf Try.f144))) ((opsOf (nav [1,0] (bodyOf Try.f144))).toList.drop 1),.it (.code (nav [1,1] (bodyOf Try.f144)))],[],Option.none⟩],[(0,EK.seq 3 (.ints .i64 q) true)],1⟩
theorem in_t (p:List Int) (k:Int):RUN (st0 144 [il p,iv k])=(bc (bc (decide (Int.ofNat p.length≤Int.ofNat p.length)) (decide (Int.ofNat p.length≤65536)) false) (.at (sL p k (zerosL (Int.ofNat p.length).toNat) (zerosL (Int.ofNat p.length).toNat).length 0)) .bad):=by kernel_rfl
theorem step_t (p:List Int) (k:Int) (q:List Int) (m:Nat) (i:Int):RUN (stOf (sL p k q m i))=(bc (decide (i<Int.ofNat p.length)) (bc (bc (bc (decide (0≤i)) (Nat.blt i.toNat p.length) false) true false) (bc (bc (Nat.blt i.toNat p.length) true false) (bc (bc (bc (decide (0≤p.getD i.toNat 0)) (Nat.blt (p.getD i.toNat 0).toNat m) false) true false) (bc (Nat.blt (p.getD i.toNat 0).toNat q.length) (.at (sL p k (List.set q (p.getD i.toNat 0).toNat i) m (IntKind.i64.wrap (i+1)))) .bad) .bad) .bad) .bad) (bc (bc (bc (bc (bc (decide (0≤IntKind.i64.wrap (k-(1:Int)))) (Nat.blt (IntKind.i64.wrap (k-(1:Int))).toNat m) false) true false) (bc (bc (Nat.blt (IntKind.i64.wrap (k-(1:Int))).toNat q.length) true false) (bc (bc (bc (decide (0≤k)) (Nat.blt k.toNat m) false) true false) (bc (bc (Nat.blt k.toNat q.length) true false) true false) false) false) false) true false) (.done (bv (decide (q.getD k.toNat 0<q.getD (IntKind.i64.wrap (k-(1:Int))).toNat 0))) [] 0) .bad)):=by kernel_rfl
end RFin
namespace RTrn
noncomputable def RUN (s:ES):ZF:=RZ 129 .nil (atS 0 129 4) [] [[(0,none),(3,none),(4,none),(5,none)]] false s
noncomputable def sL (p:List Int) (q:List Int) (z:Int) (m:Nat) (i:Int):NS:=⟨[⟨129,29,[(0,(il p)),(3,iv z),(4,EV.slO 0 1 m true),(5,iv i)],[.it (.code (nav [1,1,1,0,1,0,0,0] (bodyOf Try.f129))),.it (.code (nav [1,1,1,0,1,0,0,1] (bodyOf Try.f129))),.it (.inLoop (nav [1,1,1,0,1,0,0] (bodyOf Try.f129))),.it (.inBlock 0),.it (.code (nav [1,1,1,1] (bodyOf Try.f129)))],[],Option.none⟩],[(0,EK.seq 3 (.ints .i64 q) true)],1⟩
theorem in_t (p:List Int):RUN (st0 129 [il p])=(bc (bc (decide (Int.ofNat p.length≤Int.ofNat p.length)) (decide (Int.ofNat p.length≤65536)) false) (.at (sL p (zerosL (Int.ofNat p.length).toNat) (Int.ofNat p.length) (zerosL (Int.ofNat p.length).toNat).length 0)) .bad):=by kernel_rfl
theorem step_t (p:List Int) (q:List Int) (z:Int) (m:Nat) (i:Int):RUN (stOf (sL p q z m i))=(bc (decide (i<z)) (bc (bc (bc (decide (0≤i)) (Nat.blt i.toNat p.length) false) true false) (bc (bc (Nat.blt i.toNat p.length) true false) (bc (bc (bc (decide (0≤IntKind.i64.wrap (IntKind.i64.wrap (z-(1:Int))-i))) (Nat.blt (IntKind.i64.wrap (IntKind.i64.wrap (z-(1:Int))-i)).toNat m) false) true false) (bc (Nat.blt (IntKind.i64.wrap (IntKind.i64.wrap (z-(1:Int))-i)).toNat q.length) (.at (sL p (List.set q (IntKind.i64.wrap (IntKind.i64.wrap (z-(1:Int))-i)).toNat (IntKind.i64.wrap (IntKind.i64.wrap (z-(1:Int))-p.getD i.toNat 0))) z m (IntKind.i64.wrap (i+1)))) .bad) .bad) .bad) .bad) (bc (Nat.beq m q.length) (.done (il q) [] 0) .bad)):=by kernel_rfl
end RTrn
namespace RFlt
noncomputable def RUN (s:ES):ZF:=RZ 132 .nil (atS 0 132 2) [] [[(0,none),(1,none),(5,none)]] false s
noncomputable def sL (p:List Int) (k:Int) (i:Int):NS:=⟨[⟨132,24,[(0,(il p)),(1,(iv k)),(5,iv i)],[.it (.code (nav [1,0,1,0,0,0] (bodyOf Try.f132))),.it (.code (nav [1,0,1,0,0,1] (bodyOf Try.f132))),.it (.inLoop (nav [1,0,1,0,0] (bodyOf Try.f132))),.it (.inBlock 0),.it (.code (nav [1,1] (bodyOf Try.f132)))],[],Option.none⟩],[],0⟩
theorem in_t (p:List Int) (k:Int):RUN (st0 132 [il p,iv k])=(.at (sL p k 1)):=by kernel_rfl
theorem step_t (p:List Int) (k:Int) (i:Int):RUN (stOf (sL p k i))=(bc (decide (i<Int.ofNat p.length)) (bc (bc (bc (bc (bc (decide (0≤i)) (Nat.blt i.toNat p.length) false) true false) (bc (bc (Nat.blt i.toNat p.length) true false) (bc (bc (bc (decide (0≤IntKind.i64.wrap (i-(1:Int)))) (Nat.blt (IntKind.i64.wrap (i-(1:Int))).toNat p.length) false) true false) (bc (bc (Nat.blt (IntKind.i64.wrap (i-(1:Int))).toNat p.length) true false) true false) false) false) false) true false) (bc (p.getD i.toNat 0 != IntKind.i64.wrap (p.getD (IntKind.i64.wrap (i-(1:Int))).toNat 0+k)) (.done (bv false) [] 0) (.at (sL p k (IntKind.i64.wrap (i+1))))) .bad) (.done (bv true) [] 0)):=by kernel_rfl
end RFlt
section
variable {n:Nat}
namespace RLin
noncomputable def rng (i:Nat):List Int:=(List.range i).map fun x=>((x:Nat):Int)
theorem rng_len (i:Nat):(rng i).length=i:=by unfold rng;rw [List.length_map,List.length_range]
theorem rng_succ (i:Nat):rng i++[(i:Int)]=rng (i+1):=by unfold rng;rw [List.range_succ,List.map_append];rfl
theorem step {nn:Bool} {i:Nat} (hn:n≤100) (hi:i<n):RUN (stOf (sL n (rng i) nn i)) = .at (sL n (rng (i+1)) true (i+1:Nat)):=by
 rw [step_t];have m1:[(i:Int)]=[(i:Int)]:=rfl;rw [m1,rng_succ,rng_len,nn_ok,List.length_singleton];have e1:bc nn true (Nat.blt 0 1)=true:=by cases nn <;> rfl
 simp (disch:=omega) only [yS,e1];rfl
theorem last {nn:Bool} {i:Nat} (hi:n≤i):RUN (stOf (sL n (rng i) nn i)) = .done (il (rng i)) [] 0:=by
 rw [step_t];simp (disch:=omega) only [yS]
theorem loop (hn:n≤100):∀ (k i:Nat) (nn:Bool),i+k=n→EndZ 87 .nil false (stOf (sL n (rng i) nn i)) (il (rng n)) [] 0
 | 0,i,nn,h=>by
  obtain rfl:i=n:=by omega
  exact .done (last (Nat.le_refl _))
 | k+1,i,nn,h=>.at (.nil _) (step hn (by omega)) (loop hn k (i+1) true (by omega))
theorem ends {n:Int} (h0:0≤n) (hn:n≤100):EndZ 87 .nil false (st0 87 [iv n]) (il (pR (Pm.one n.toNat))) [] 0:=by
 obtain ⟨n,rfl⟩:=Int.eq_ofNat_of_zero_le h0;exact .at (.nil _) (in_t n) (loop (by omega) n 0 false (by omega))
end RLin
noncomputable def spRLin:ZCT:=fun ax=>match ax with
 | [.v (.int .i64 n)]=>some ⟨decide (0≤n∧n≤100),il (pR (Pm.one n.toNat)),[],0⟩
 | _=>none
theorem zom:ZCtOk Try.prog 87 spRLin:=fun γ w us ax r hs hc hax hN hfz=>by
 unfold spRLin at hs;split at hs
 case h_2=>cases hs
 rename_i n;obtain ⟨rfl⟩:=Option.some.inj hs;have hc_0:decide (0≤n∧n≤100)=true:=hc;have hc:=of_decide_eq_true hc_0;exact EndZ.calls (RLin.ends hc.1 hc.2) (.nil _) (by kernel_rfl) hax hN hfz
namespace RAft
noncomputable def aq (p:List Int) (k:Int) (i:Nat):List Int:=aftL (p.take i) k++p.drop i
theorem zt9 (p:List Int) (k:Int) (i:Nat):(aq p k i).length=p.length:=by
 unfold aq aftL;rw [List.length_append,List.length_map,List.length_take,List.length_drop];omega
noncomputable def av (k x:Int):Int:=bc (decide (x=k)) (k-1) (bc (decide (x=k-1)) k x)
theorem zt8 {p:List Int} {k:Int} {i:Nat} (hi:i<p.length) (v:Int) (hv:v=av k p[i]):(aq p k i).set i v=aq p k (i+1):=by
 unfold aq;have h1:(aftL (p.take i) k).length=i:=by unfold aftL;rw [List.length_map,List.length_take];omega
 rw [List.drop_eq_getElem_cons hi];have h2:=zvb (aftL (p.take i) k) [p[i]] (p.drop (i+1)) 0 v (by simp);rw [h1,show i+0=i from rfl] at h2
 rw [show aftL (p.take i) k++p[i]::p.drop (i+1)=aftL (p.take i) k++([p[i]]++p.drop (i+1)) from rfl,h2]
 have h3:aftL (p.take (i+1)) k=aftL (p.take i) k++[av k p[i]]:=by
  rw [List.take_succ_eq_append_getElem hi];unfold aftL;rw [List.map_append];rfl
 rw [h3,hv,List.append_assoc];rfl
theorem zwr {p:List Int} {k:Int} {i:Nat} (hi:i<p.length) (hv:av k p[i]=p[i]):aq p k i=aq p k (i+1):=by
 have h3:aftL (p.take (i+1)) k=aftL (p.take i) k++[av k p[i]]:=by
  rw [List.take_succ_eq_append_getElem hi];unfold aftL;rw [List.map_append];rfl
 unfold aq;rw [h3,hv,List.drop_eq_getElem_cons hi,List.append_assoc];rfl
theorem step {p:List Int} {k:Int} {i:Nat} (hp:p.length≤1000) (h1:-1000≤k) (h2:k≤1000) (hi:i<p.length):RUN (stOf (sL p k (aq p k i) p.length i)) = .at (sL p k (aq p k (i+1)) p.length (i+1:Nat)):=by
 rw [step_t];have e:p.getD i 0=p[i]:=zae hi;have e0:((i:Int)).toNat=i:=rfl;have hl:=zt9 p k i;rw [e0,e,zad (k-1) (by omega) (by omega)]
 by_cases g1:p[i]=k
 ·have b1:(p[i]==k)=true:=by simp [g1]
  have b2:(p[i]==k-1)=false:=by simp [g1];omega
  rw [b1,b2,zt8 hi (k-1) (by unfold av;rw [dt g1];rfl)];simp (disch:=omega) only [yS];rfl
 ·have b1:(p[i]==k)=false:=by simp [g1]
  by_cases g2:p[i]=k-1
  ·have b2:(p[i]==k-1)=true:=by simp [g2]
   rw [b1,b2,zt8 hi k (by unfold av;rw [df g1,dt g2];rfl)];simp (disch:=omega) only [yS];rfl
  ·have b2:(p[i]==k-1)=false:=by simp [g2]
   rw [b1,b2,← zwr hi (by unfold av;rw [df g1,df g2];rfl)];simp (disch:=omega) only [yS];rfl
theorem last {p:List Int} {k:Int} {i:Nat} (hi:p.length≤i):RUN (stOf (sL p k (aq p k i) p.length i)) = .done (il (aftL p k)) [] 0:=by
 rw [step_t,zt9];have:aq p k i=aftL p k:=by unfold aq;rw [List.take_of_length_le hi,List.drop_of_length_le hi,List.append_nil]
 rw [this];simp (disch:=omega) only [yS]
theorem loop {p:List Int} {k:Int} (hp:p.length≤1000) (h1:-1000≤k) (h2:k≤1000):∀ (d i:Nat),i+d=p.length→EndZ 128 .nil false (stOf (sL p k (aq p k i) p.length i)) (il (aftL p k)) [] 0
 | 0,i,h=>.done (last (by omega))
 | d+1,i,h=>.at (.nil _) (step hp h1 h2 (by omega)) (loop hp h1 h2 d (i+1) (by omega))
theorem ends {p:List Int} {k:Int} (hp:p.length≤1000) (h1:-1000≤k) (h2:k≤1000):EndZ 128 .nil false (st0 128 [il p,iv k]) (il (aftL p k)) [] 0:=by
 have h:=in_t p k;rw [List.nil_append] at h;simp (disch:=omega) only [yS] at h;exact .at (.nil _) h (loop hp h1 h2 p.length 0 (by omega))
end RAft
noncomputable def spRAft:ZCT:=fun ax=>match ax with
 | [.lst (.ints .i64 p),.v (.int .i64 k)]=>some ⟨decide (p.length≤1000 ∧ -1000≤k∧k≤1000),il (aftL p k),[],0⟩
 | _=>none
theorem zix:ZCtOk Try.prog 128 spRAft:=fun γ w us ax r hs hc hax hN hfz=>by
 unfold spRAft at hs;split at hs
 case h_2=>cases hs
 rename_i p k;obtain ⟨rfl⟩:=Option.some.inj hs;have hc_0:decide (p.length≤1000 ∧ -1000≤k∧k≤1000)=true:=hc;have hc:=of_decide_eq_true hc_0;exact EndZ.calls (RAft.ends hc.1 hc.2.1 hc.2.2) (.nil _) (by kernel_rfl) hax hN hfz
namespace RFin
theorem step {p:Pm n} {k:Int} {i:Nat} (hn:n≤1000) (hi:i<n):RUN (stOf (sL (pR p) k (endS (pR p) i) n i)) = .at (sL (pR p) k (endS (pR p) (i+1)) n (i+1:Nat)):=by
 rw [step_t,zfo,zag];have e0:((i:Int)).toNat=i:=rfl;have e1:((p.f i:Int)).toNat=p.f i:=rfl;have h1:=p.lt hi;have e2:(endS (pR p) i).set (p.f i) (i:Int)=endS (pR p) (i+1):=by
  show _=(endS (pR p) i).set ((pR p).getD i 0).toNat (i:Int);rw [zax p hi,e1]
 rw [e0,zax p hi,e1,e2];simp (disch:=omega) only [yS];rfl
theorem last {p:Pm n} {k:Nat} {i:Nat} (hn:n≤1000) (hi:n≤i) (hk:0<k∧k<n):RUN (stOf (sL (pR p) k (pR p.inv) n i)) = .done (bv (finB (pR p) k)) [] 0:=by
 obtain ⟨j,rfl⟩:∃ j,k=j+1:=⟨k-1,by omega⟩;rw [step_t,zag,zag];have w1:IntKind.i64.wrap (((j+1:Nat):Int)-1)=(j:Int):=by rw [zad _ (by omega) (by omega)];omega
 have e1:((j:Int)).toNat=j:=rfl;have e2:(((j+1:Nat):Int)).toNat=j+1:=rfl;rw [w1,e1,e2,zax p.inv (show j<n by omega),zax p.inv (show j+1<n by omega),zko];have e3:decide ((p.inv.f (j+1):Int)<(p.inv.f j:Int))=decide (p.g (j+1)<p.g (j+1-1)):=by
  rw [show j+1-1=j by omega]
  by_cases g:p.g (j+1)<p.g j
  ·rw [dt g];exact decide_eq_true (show ((p.g (j+1):Nat):Int)<(p.g j:Nat) by omega)
  ·rw [df g];exact decide_eq_false (show ¬ ((p.g (j+1):Nat):Int)<(p.g j:Nat) by omega)
 rw [e3];simp (disch:=omega) only [yS]
theorem loop {p:Pm n} {k:Nat} (hn:n≤1000) (hk:0<k∧k<n):∀ (d i:Nat),i+d=n→EndZ 144 .nil false (stOf (sL (pR p) k (endS (pR p) i) n i)) (bv (finB (pR p) k)) [] 0
 | 0,i,h=>by
  obtain rfl:i=n:=by omega
  rw [zwc];exact .done (last hn (Nat.le_refl _) hk)
 | d+1,i,h=>.at (.nil _) (step hn (by omega)) (loop hn hk d (i+1) (by omega))
theorem ends {p:Pm n} {k:Nat} (hn:n≤1000) (hk:0<k∧k<n):EndZ 144 .nil false (st0 144 [il (pR p),iv k]) (bv (finB (pR p) k)) [] 0:=by
 have h:=in_t (pR p) k;have z1:∀ m,(zerosL m).length=m:=fun m=>by unfold zerosL;simp
 rw [z1,zag] at h;simp (disch:=omega) only [yS] at h;have e:zerosL n=endS (pR p) 0:=by unfold endS;rw [zag]
 rw [e] at h;exact .at (.nil _) h (loop hn hk n 0 (by omega))
theorem endsL {p:List Int} {k:Int} (hp:PmL p) (h1:0<k) (h2:k<p.length):EndZ 144 .nil false (st0 144 [il p,iv k]) (bv (finB p k.toNat)) [] 0:=by
 obtain ⟨k,rfl⟩:=Int.eq_ofNat_of_zero_le (show 0≤k by omega);have h:=ends (p:=decR p.length p) (k:=k) (by have:=hp.1;omega) ⟨by omega,by omega⟩;rw [← hp.get] at h;exact h
end RFin
noncomputable def spRFin:ZCT:=fun ax=>match ax with
 | [.lst (.ints .i64 p),.v (.int .i64 k)]=>some ⟨decide (PmL p∧0<k∧k<p.length),bv (finB p k.toNat),[],0⟩
 | _=>none
theorem zoo:ZCtOk Try.prog 144 spRFin:=fun γ w us ax r hs hc hax hN hfz=>by
 unfold spRFin at hs;split at hs
 case h_2=>cases hs
 rename_i p k;obtain ⟨rfl⟩:=Option.some.inj hs;have hc_0:decide (PmL p∧0<k∧k<p.length)=true:=hc;have hc:=of_decide_eq_true hc_0;exact EndZ.calls (RFin.endsL hc.1 hc.2.1 hc.2.2) (.nil _) (by kernel_rfl) hax hN hfz
namespace RTrn
noncomputable def rtS (p:Pm n):Nat→List Int
 | 0=>zerosL n
 | i+1=>(rtS p i).set (n-1-i) ((n:Int)-1-(p.f i:Int))
theorem zhj (p:Pm n):∀ i,(rtS p i).length=n
 | 0=>by unfold rtS zerosL;simp
 | i+1=>by unfold rtS;rw [List.length_set,zhj p i]
theorem zoy (p:Pm n):∀ i,i≤n→∀ x,x<n→n-1-x<i→(rtS p i).getD x 0=(n:Int)-1-(p.f (n-1-x):Int)
 | 0,_,x,hx,h=>by omega
 | i+1,hi,x,hx,h=>by
  unfold rtS;rw [gset2,zhj]
  by_cases e:x=n-1-i
  ·rw [if_pos ⟨e,by omega⟩,show n-1-x=i by omega]
  ·rw [if_neg (fun h=>e h.1)];exact zoy p i (by omega) x hx (by omega)
theorem zxe (p:Pm n):rtS p n=pR p.trn:=zi7 (zhj p n) fun x hx=>by
 rw [zoy p n (Nat.le_refl _) x hx (by omega)];show _=((Pm.rv n (p.f (Pm.rv n x)):Nat):Int);have h1:Pm.rv n x=n-1-x:=by unfold Pm.rv;rw [if_pos hx]
 have h2:=p.lt (show n-1-x<n by omega);rw [h1];unfold Pm.rv;rw [if_pos h2];omega
theorem step {p:Pm n} {i:Nat} (hn:n≤1000) (hi:i<n):RUN (stOf (sL (pR p) (rtS p i) n n i)) = .at (sL (pR p) (rtS p (i+1)) n n (i+1:Nat)):=by
 rw [step_t,zhj,zag];have e0:((i:Int)).toNat=i:=rfl;have h1:=p.lt hi;rw [e0,zax p hi];have w0:IntKind.i64.wrap ((n:Int)-1)=(n:Int)-1:=zad _ (by omega) (by omega);have w1:IntKind.i64.wrap ((n:Int)-1-(i:Int))=((n-1-i:Nat):Int):=by rw [zad _ (by omega) (by omega)];omega
 have w2:IntKind.i64.wrap ((n:Int)-1-(p.f i:Int))=(n:Int)-1-(p.f i:Int):=zad _ (by omega) (by omega);have e2:(((n-1-i:Nat):Int)).toNat=n-1-i:=rfl;have e3:(rtS p i).set (n-1-i) ((n:Int)-1-(p.f i:Int))=rtS p (i+1):=rfl;rw [w0,w1,w2,e2,e3]
 simp (disch:=omega) only [yS];rfl
theorem last {p:Pm n} {q:List Int} {i:Nat} (hi:n≤i) (hq:q.length=n):RUN (stOf (sL (pR p) q n n i)) = .done (il q) [] 0:=by
 rw [step_t];simp (disch:=omega) only [yS]
theorem loop {p:Pm n} (hn:n≤1000):∀ (d i:Nat),i+d=n→EndZ 129 .nil false (stOf (sL (pR p) (rtS p i) n n i)) (il (trnL (pR p))) [] 0
 | 0,i,h=>by
  obtain rfl:i=n:=by omega
  rw [zxe,zn5];exact .done (last (Nat.le_refl _) (zag _))
 | d+1,i,h=>.at (.nil _) (step hn (by omega)) (loop hn d (i+1) (by omega))
theorem ends {p:Pm n} (hn:n≤1000):EndZ 129 .nil false (st0 129 [il (pR p)]) (il (trnL (pR p))) [] 0:=by
 have h:=in_t (pR p);have z1:∀ m,(zerosL m).length=m:=fun m=>by unfold zerosL;simp
 rw [z1,zag] at h;simp (disch:=omega) only [yS] at h;exact .at (.nil _) h (loop hn n 0 (by omega))
theorem endsL {p:List Int} (hp:PmL p):EndZ 129 .nil false (st0 129 [il p]) (il (trnL p)) [] 0:=by
 have h:=ends (p:=decR p.length p) (by have:=hp.1;omega);rw [← hp.get] at h;exact h
end RTrn
noncomputable def spRTrn:ZCT:=fun ax=>match ax with
 | [.lst (.ints .i64 p)]=>some ⟨decide (PmL p),il (trnL p),[],0⟩
 | _=>none
theorem zog:ZCtOk Try.prog 129 spRTrn:=fun γ w us ax r hs hc hax hN hfz=>by
 unfold spRTrn at hs;split at hs
 case h_2=>cases hs
 rename_i p;obtain ⟨rfl⟩:=Option.some.inj hs;have hc_0:decide (PmL p)=true:=hc;have hc:=of_decide_eq_true hc_0;exact EndZ.calls (RTrn.endsL hc) (.nil _) (by kernel_rfl) hax hN hfz
namespace RFlt
theorem step {p:Pm n} {k:Int} {i:Nat} (hn:n≤1000) (hk:k=1∨k = -1) (h0:0<i) (hi:i<n):RUN (stOf (sL (pR p) k i))=bc (decide ((p.f i:Int)=(p.f (i-1):Int)+k)) (.at (sL (pR p) k (i+1:Nat))) (.done (bv false) [] 0):=by
 obtain ⟨j,rfl⟩:∃ j,i=j+1:=⟨i-1,by omega⟩;rw [step_t,zag];have w1:IntKind.i64.wrap (((j+1:Nat):Int)-1)=(j:Int):=by rw [zad _ (by omega) (by omega)];omega
 have e1:((j:Int)).toNat=j:=rfl;have e2:(((j+1:Nat):Int)).toNat=j+1:=rfl;have l1:=p.lt hi;have l2:=p.lt (show j<n by omega);rw [w1,e1,e2,zax p hi,zax p (show j<n by omega),zad ((p.f j:Int)+k) (by rcases hk with h|h <;> omega) (by rcases hk with h|h <;> omega),show j+1-1=j by omega]
 by_cases g:(p.f (j+1):Int)=(p.f j:Int)+k
 ·have b:((p.f (j+1):Int) != (p.f j:Int)+k)=false:=by simp [g]
  rw [b,dt g];simp (disch:=omega) only [yS];rfl
 ·have b:((p.f (j+1):Int) != (p.f j:Int)+k)=true:=by simp [g]
  rw [b,df g];simp (disch:=omega) only [yS]
theorem last {p:Pm n} {k:Int} {i:Nat} (hi:n≤i):RUN (stOf (sL (pR p) k i)) = .done (bv true) [] 0:=by
 rw [step_t,zag];simp (disch:=omega) only [yS]
theorem loop {p:Pm n} {k:Int} {b:Bool} (hn:n≤1000) (hk:k=1∨k = -1) (hb:b=true↔∀ j,0<j→j<n→(p.f j:Int)=(p.f (j-1):Int)+k):∀ (d i:Nat),i+d=n→0<i→(∀ j,0<j→j<i→(p.f j:Int)=(p.f (j-1):Int)+k)→EndZ 132 .nil false (stOf (sL (pR p) k i)) (bv b) [] 0
 | 0,i,h,h0,hj=>by
  have:b=true:=hb.2 fun j g1 g2=>hj j g1 (by omega);subst this;exact .done (last (by omega))
 | d+1,i,h,h0,hj=>by
  have hs:=step (p:=p) hn hk h0 (show i<n by omega)
  by_cases g:(p.f i:Int)=(p.f (i-1):Int)+k
  ·rw [dt g,bc_t] at hs;exact .at (.nil _) hs (loop hn hk hb d (i+1) (by omega) (by omega) fun j g1 g2=>by
    by_cases e:j=i
    ·rw [e];exact g
    ·exact hj j g1 (by omega))
  ·rw [df g,bc_f] at hs;have:b=false:=by
    cases b with
    | false=>rfl
    | true=>exact absurd (hb.1 rfl i h0 (by omega)) g
   subst this;exact .done hs
theorem flat_one (p:Pm n):flL (pR p) 1=true↔∀ j,0<j→j<n→(p.f j:Int)=(p.f (j-1):Int)+1:=by
 rw [zpy,decide_eq_true_iff];constructor
 ·intro h j g1 g2;rw [h];show (j:Int)=((j-1:Nat):Int)+1;omega
 ·intro h;exact Pm.one_of fun i g1 g2 hb=>by
   have:=h i g1 g2;unfold Pm.beg at hb;omega
theorem zso (p:Pm n):flL (pR p) (-1)=true↔∀ j,0<j→j<n→(p.f j:Int)=(p.f (j-1):Int)+(-1):=by
 rw [zpz,decide_eq_true_iff];constructor
 ·intro h j g1 g2;rw [h];show ((Pm.rv n j:Nat):Int)=((Pm.rv n (j-1):Nat):Int)+(-1);unfold Pm.rv;rw [if_pos g2,if_pos (by omega)];omega
 ·intro h;exact zwn fun i g1 g2=>by
   have:=h i g1 g2;unfold Pm.beg;omega
theorem ends {p:Pm n} {k:Int} (hn:n≤1000) (h1:1≤n) (hk:k=1∨k = -1):EndZ 132 .nil false (st0 132 [il (pR p),iv k]) (bv (flL (pR p) k)) [] 0:=by
 have hb:flL (pR p) k=true↔∀ j,0<j→j<n→(p.f j:Int)=(p.f (j-1):Int)+k:=by
  rcases hk with h|h <;> subst h
  ·exact flat_one p
  ·exact zso p
 exact .at (.nil _) (in_t (pR p) k) (loop hn hk hb (n-1) 1 (by omega) (by omega) fun j g1 g2=>by omega)
theorem endsL {p:List Int} {k:Int} (hp:PmL p) (h1:1≤p.length) (hk:k=1∨k = -1):EndZ 132 .nil false (st0 132 [il p,iv k]) (bv (flL p k)) [] 0:=by
 have h:=ends (p:=decR p.length p) (k:=k) (by have:=hp.1;omega) h1 hk;rw [← hp.get] at h;exact h
end RFlt
noncomputable def spRFlt:ZCT:=fun ax=>match ax with
 | [.lst (.ints .i64 p),.v (.int .i64 k)]=>some ⟨decide (PmL p∧1≤p.length∧(k=1∨k = -1)),bv (flL p k),[],0⟩
 | _=>none
theorem zon:ZCtOk Try.prog 132 spRFlt:=fun γ w us ax r hs hc hax hN hfz=>by
 unfold spRFlt at hs;split at hs
 case h_2=>cases hs
 rename_i p k;obtain ⟨rfl⟩:=Option.some.inj hs;have hc_0:decide (PmL p∧1≤p.length∧(k=1∨k = -1))=true:=hc;have hc:=of_decide_eq_true hc_0;exact EndZ.calls (RFlt.endsL hc.1 hc.2.1 hc.2.2) (.nil _) (by kernel_rfl) hax hN hfz
end
noncomputable def ctAF:Tr ZCC:=(Tr.nil.put 128 (some (dC spRAft))).put 144 (some (dC spRFin))
theorem zc5:ZCtsOk Try.prog ctAF:=((ZCtsOk.nil _).add rfl zix).add rfl zoo
namespace RWo
noncomputable def RUN (s:ES):ZF:=RZs 130 ctAF [(atS 1 87 3,[[(0,none),(3,some (1,3,.ints .i64 [])),(4,none)],[(0,none),(1,none)]]),(atS 0 130 3,[[(0,none),(1,none),(5,none),(6,none)]])] [] false s
noncomputable def sL (n k:Int) (q:List Int) (nn:Bool) (i:Int):NS:=⟨[⟨87,15,[(0,(iv n)),(3,EV.slO 0 1 q.length nn),(4,iv i)],[.it (.code (nav [1,1,0,1,0,0,0] (bodyOf Try.f87))),.it (.code (nav [1,1,0,1,0,0,1] (bodyOf Try.f87))),.it (.inLoop (nav [1,1,0,1,0,0] (bodyOf Try.f87))),.it (.inBlock 0),.it (.code (nav [1,1,1] (bodyOf Try.f87)))],[],Option.none⟩,⟨130,24,[(0,(iv n)),(1,(iv k))],[.ops (opsOf (nav [1,0] (bodyOf Try.f130))) ((opsOf (nav [1,0] (bodyOf Try.f130))).toList.drop 1),.it (.code (nav [1,1] (bodyOf Try.f130)))],[],Option.none⟩],[(0,EK.seq 3 (.ints .i64 q) nn)],1⟩
noncomputable def sB (n k:Int) (q:List Int) (m:Nat) (nn:Bool) (i:Int):NS:=⟨[⟨130,24,[(0,iv n),(1,(iv k)),(5,EV.slO 0 1 m nn),(6,iv i)],[.it (.code (nav [1,1,0,1,0,0,0] (bodyOf Try.f130))),.it (.code (nav [1,1,0,1,0,0,1] (bodyOf Try.f130))),.it (.inLoop (nav [1,1,0,1,0,0] (bodyOf Try.f130))),.it (.inBlock 0),.it (.code (nav [1,1,1] (bodyOf Try.f130)))],[],Option.none⟩],[(0,EK.seq 3 (.ints .i64 q) nn)],1⟩
theorem in_t (n k:Int):RUN (st0 130 [iv n,iv k])=(.at (sL n k [] false 0)):=by kernel_rfl
theorem zty (n k:Int) (q:List Int) (nn:Bool) (i:Int):RUN (stOf (sL n k q nn i))=(bc (decide (i<n)) (bc (bc (Nat.beq q.length q.length) (bc (Nat.ble (q.length+([i]).length) 65536) (bc nn true (bc nn false true)) false) false) (.at (sL n k (q++[i]) (bc nn true (Nat.blt 0 ([i]).length)) (IntKind.i64.wrap (i+1)))) .bad) (.at (sB n k q q.length nn 0))):=by kernel_rfl
theorem b_t (n k:Int) (q:List Int) (m:Nat) (nn:Bool) (i:Int):RUN (stOf (sB n k q m nn i))=(bc (decide (i<n)) (bc (bc (bc (decide (0≤i)) (Nat.blt i.toNat m) false) true false) (bc (Nat.blt i.toNat q.length) (.at (sB n k (List.set q i.toNat (IntKind.i64.wrap (IntKind.i64.wrap (n-(1:Int))-i))) m nn (IntKind.i64.wrap (i+1)))) .bad) .bad) (bc (bc (bc (Nat.beq m q.length) true false) (decide (q.length≤1000∧(-1000:Int)≤k∧k≤1000)) false) (.done (il (aftL q k)) [] 0) .bad)):=by kernel_rfl
end RWo
namespace RSli
noncomputable def RUN (s:ES):ZF:=RZ 131 ctAF (atS 0 131 3) [] [[(0,none),(1,none),(7,none),(8,none)]] false s
noncomputable def sA (a b:List Int) (tk:Bool) (i:Int):NS:=⟨[⟨131,49,[(0,(il a)),(1,(il b)),(7,bv tk),(8,iv i)],[.it (.code (nav [1,1,0,1,0,0,0] (bodyOf Try.f131))),.it (.code (nav [1,1,0,1,0,0,1] (bodyOf Try.f131))),.it (.inLoop (nav [1,1,0,1,0,0] (bodyOf Try.f131))),.it (.inBlock 0),.it (.code (nav [1,1,1] (bodyOf Try.f131)))],[],Option.none⟩],[],0⟩
noncomputable def sB (a b:List Int) (m:Nat) (tk:Bool) (i:Int):NS:=⟨[⟨131,49,[(0,il a),(1,EV.slO 0 1 m true),(7,bv tk),(8,iv i)],[.it (.code (nav [1,1,0,1,0,0,0] (bodyOf Try.f131))),.it (.code (nav [1,1,0,1,0,0,1] (bodyOf Try.f131))),.it (.inLoop (nav [1,1,0,1,0,0] (bodyOf Try.f131))),.it (.inBlock 0),.it (.code (nav [1,1,1] (bodyOf Try.f131)))],[],Option.none⟩],[(0,EK.seq 3 (.ints .i64 b) true)],1⟩
theorem in_t (a b:List Int):RUN (st0 131 [il a,il b])=(.at (sA a b false 1)):=by kernel_rfl
theorem a_t (a b:List Int) (tk:Bool) (i:Int):RUN (stOf (sA a b tk i))=(bc (decide (i<Int.ofNat a.length)) (bc (bc (bc (bc (bc (decide (0≤IntKind.i64.wrap (i-(1:Int)))) (Nat.blt (IntKind.i64.wrap (i-(1:Int))).toNat b.length) false) true false) (bc (bc (Nat.blt (IntKind.i64.wrap (i-(1:Int))).toNat b.length) true false) (bc (bc (bc (decide (0≤i)) (Nat.blt i.toNat b.length) false) true false) (bc (bc (Nat.blt i.toNat b.length) true false) true false) false) false) false) true false) (bc (decide (b.getD i.toNat 0<b.getD (IntKind.i64.wrap (i-(1:Int))).toNat 0)) (bc (bc (decide (PmL a∧0<i∧i<(Nat.cast a.length:Int))) true false) (bc (!finB a i.toNat) (bc (decide (a.length≤1000∧(-1000:Int)≤i∧i≤1000)) (bc (bc (Nat.ble (0+b.length) 65536) true false) (bc (bc (bc (bc (bc (decide (0≤i)) (Nat.blt i.toNat ([]++b).length) false) true false) (bc (bc (Nat.blt i.toNat ([]++b).length) true false) (bc (bc (bc (decide (0≤IntKind.i64.wrap (i-(1:Int)))) (Nat.blt (IntKind.i64.wrap (i-(1:Int))).toNat ([]++b).length) false) true false) (bc (bc (Nat.blt (IntKind.i64.wrap (i-(1:Int))).toNat ([]++b).length) true false) (bc (bc (bc (decide (0≤IntKind.i64.wrap (i-(1:Int)))) (Nat.blt (IntKind.i64.wrap (i-(1:Int))).toNat ([]++b).length) false) true false) (bc (Nat.blt (IntKind.i64.wrap (i-(1:Int))).toNat ([]++b).length) (bc (bc (bc (decide (0≤i)) (Nat.blt i.toNat ([]++b).length) false) true false) (bc (Nat.blt i.toNat (List.set ([]++b) (IntKind.i64.wrap (i-(1:Int))).toNat (([]++b).getD i.toNat 0)).length) true false) false) false) false) false) false) false) false) true false) (.at (sB (aftL a i) (List.set (List.set ([]++b) (IntKind.i64.wrap (i-(1:Int))).toNat (([]++b).getD i.toNat 0)) i.toNat (([]++b).getD (IntKind.i64.wrap (i-(1:Int))).toNat 0)) ([]++b).length true (IntKind.i64.wrap ((0:Int)+1)))) .bad) .bad) .bad) (.at (sA a b tk (IntKind.i64.wrap (i+1))))) .bad) (.at (sA a b tk (IntKind.i64.wrap (i+1))))) .bad) (.done (EV.tup [(il a),(il b),(bv tk)]) [] 0)):=by kernel_rfl
theorem b_t (a b:List Int) (m:Nat) (tk:Bool) (i:Int):RUN (stOf (sB a b m tk i))=(bc (decide (i<Int.ofNat a.length)) (bc (bc (bc (bc (bc (decide (0≤IntKind.i64.wrap (i-(1:Int)))) (Nat.blt (IntKind.i64.wrap (i-(1:Int))).toNat m) false) true false) (bc (bc (Nat.blt (IntKind.i64.wrap (i-(1:Int))).toNat b.length) true false) (bc (bc (bc (decide (0≤i)) (Nat.blt i.toNat m) false) true false) (bc (bc (Nat.blt i.toNat b.length) true false) true false) false) false) false) true false) (bc (decide (b.getD i.toNat 0<b.getD (IntKind.i64.wrap (i-(1:Int))).toNat 0)) (bc (bc (decide (PmL a∧0<i∧i<(Nat.cast a.length:Int))) true false) (bc (!finB a i.toNat) (bc (decide (a.length≤1000∧(-1000:Int)≤i∧i≤1000)) (bc (bc (Nat.beq m b.length) (bc (Nat.ble (0+b.length) 65536) true false) false) (bc (bc (bc (bc (bc (decide (0≤i)) (Nat.blt i.toNat ([]++b).length) false) true false) (bc (bc (Nat.blt i.toNat ([]++b).length) true false) (bc (bc (bc (decide (0≤IntKind.i64.wrap (i-(1:Int)))) (Nat.blt (IntKind.i64.wrap (i-(1:Int))).toNat ([]++b).length) false) true false) (bc (bc (Nat.blt (IntKind.i64.wrap (i-(1:Int))).toNat ([]++b).length) true false) (bc (bc (bc (decide (0≤IntKind.i64.wrap (i-(1:Int)))) (Nat.blt (IntKind.i64.wrap (i-(1:Int))).toNat ([]++b).length) false) true false) (bc (Nat.blt (IntKind.i64.wrap (i-(1:Int))).toNat ([]++b).length) (bc (bc (bc (decide (0≤i)) (Nat.blt i.toNat ([]++b).length) false) true false) (bc (Nat.blt i.toNat (List.set ([]++b) (IntKind.i64.wrap (i-(1:Int))).toNat (([]++b).getD i.toNat 0)).length) true false) false) false) false) false) false) false) false) true false) (.at (sB (aftL a i) (List.set (List.set ([]++b) (IntKind.i64.wrap (i-(1:Int))).toNat (([]++b).getD i.toNat 0)) i.toNat (([]++b).getD (IntKind.i64.wrap (i-(1:Int))).toNat 0)) ([]++b).length true (IntKind.i64.wrap ((0:Int)+1)))) .bad) .bad) .bad) (.at (sB a b m tk (IntKind.i64.wrap (i+1))))) .bad) (.at (sB a b m tk (IntKind.i64.wrap (i+1))))) .bad) (bc (bc (Nat.beq m b.length) true false) (.done (EV.tup [(il a),(il b),(bv tk)]) [] 0) .bad)):=by kernel_rfl
end RSli
section
variable {n:Nat}
namespace RWo
theorem stepL {k:Int} {nn:Bool} {i:Nat} (hn:n≤100) (hi:i<n):RUN (stOf (sL n k (RLin.rng i) nn i)) = .at (sL n k (RLin.rng (i+1)) true (i+1:Nat)):=by
 rw [zty];have m1:[(i:Int)]=[(i:Int)]:=rfl;rw [m1,RLin.rng_succ,RLin.rng_len,nn_ok,List.length_singleton];have e1:bc nn true (Nat.blt 0 1)=true:=by cases nn <;> rfl
 simp (disch:=omega) only [yS,e1];rfl
theorem lastL {k:Int} {nn:Bool} {i:Nat} (hi:n≤i):RUN (stOf (sL n k (RLin.rng i) nn i)) = .at (sB n k (RLin.rng i) i nn (0:Nat)):=by
 rw [zty,RLin.rng_len];simp (disch:=omega) only [yS]
noncomputable def woS (n:Nat):Nat→List Int
 | 0=>RLin.rng n
 | i+1=>(woS n i).set i ((n:Int)-1-(i:Int))
theorem zfp (n:Nat):∀ i,(woS n i).length=n
 | 0=>RLin.rng_len n
 | i+1=>by unfold woS;rw [List.length_set,zfp n i]
theorem zn2 (n:Nat):∀ i,i≤n→∀ x,x<i→(woS n i).getD x 0=(n:Int)-1-(x:Int)
 | 0,_,x,h=>by omega
 | i+1,hi,x,hx=>by
  unfold woS;rw [gset2,zfp]
  by_cases e:x=i
  ·rw [if_pos ⟨e,by omega⟩,e]
  ·rw [if_neg (fun h=>e h.1)];exact zn2 n i (by omega) x (by omega)
theorem zwy (n:Nat):woS n n=pR (Pm.del n):=zi7 (zfp n n) fun x hx=>by
 rw [zn2 n n (Nat.le_refl _) x hx];show _=((Pm.rv n x:Nat):Int);unfold Pm.rv;rw [if_pos hx];omega
theorem stepB {k:Int} {nn:Bool} {i:Nat} (hn:n≤100) (hi:i<n):RUN (stOf (sB n k (woS n i) n nn i)) = .at (sB n k (woS n (i+1)) n nn (i+1:Nat)):=by
 rw [b_t,zfp];have e0:((i:Int)).toNat=i:=rfl;have w1:IntKind.i64.wrap (IntKind.i64.wrap ((n:Int)-1)-(i:Int))=(n:Int)-1-(i:Int):=by rw [zad ((n:Int)-1) (by omega) (by omega),zad _ (by omega) (by omega)]
 have e3:(woS n i).set i ((n:Int)-1-(i:Int))=woS n (i+1):=rfl;rw [e0,w1,e3];simp (disch:=omega) only [yS];rfl
theorem lastB {k:Nat} {nn:Bool} (hn:n≤100) (hk:0<k∧k<n):RUN (stOf (sB n k (woS n n) n nn n)) = .done (il (woL n k)) [] 0:=by
 rw [b_t,zfp,zwy,zil _ hk,ztf hk];have e:pR ((Pm.del n).R k hk)=pR (ctr k hk):=rfl;rw [e];have h:n≤1000 ∧ -1000≤(k:Int)∧(k:Int)≤1000:=⟨by omega,by omega,by omega⟩;rw [dt h];simp (disch:=omega) only [yS]
theorem loopL {k:Nat} (hn:n≤100):∀ (d i:Nat) (nn:Bool),i+d=n→∃ nn',LeadsZ Try.prog (stOf (sL n k (RLin.rng i) nn i)) (stOf (sB n k (woS n 0) n nn' (0:Nat)))
 | 0,i,nn,h=>by
  obtain rfl:i=n:=by omega
  exact ⟨nn,leadsZ zc5 (lastL (Nat.le_refl _))⟩
 | d+1,i,nn,h=>by
  obtain ⟨nn',h2⟩:=loopL (k:=k) hn d (i+1) true (by omega);exact ⟨nn',(leadsZ zc5 (stepL hn (by omega))).trans h2⟩
theorem loopB {k:Nat} {nn:Bool} (hn:n≤100) (hk:0<k∧k<n):∀ (d i:Nat),i+d=n→EndZ 130 ctAF false (stOf (sB n k (woS n i) n nn i)) (il (woL n k)) [] 0
 | 0,i,h=>by
  obtain rfl:i=n:=by omega
  exact .done (lastB hn hk)
 | d+1,i,h=>.at zc5 (stepB hn (by omega)) (loopB hn hk d (i+1) (by omega))
theorem ends {n k:Int} (hn:n≤100) (h1:0<k) (h2:k<n):EndZ 130 ctAF false (st0 130 [iv n,iv k]) (il (woL n k)) [] 0:=by
 obtain ⟨n,rfl⟩:=Int.eq_ofNat_of_zero_le (show 0≤n by omega);obtain ⟨k,rfl⟩:=Int.eq_ofNat_of_zero_le (show 0≤k by omega);obtain ⟨nn',h3⟩:=loopL (n:=n) (k:=k) (by omega) n 0 false (by omega);exact .at zc5 (in_t n k) (.lead h3 (loopB (by omega) ⟨by omega,by omega⟩ n 0 (by omega)))
end RWo
noncomputable def spRWo:ZCT:=fun ax=>match ax with
 | [.v (.int .i64 n),.v (.int .i64 k)]=>some ⟨decide (n≤100∧0<k∧k<n),il (woL n k),[],0⟩
 | _=>none
theorem zrn:ZCtOk Try.prog 130 spRWo:=fun γ w us ax r hs hc hax hN hfz=>by
 unfold spRWo at hs;split at hs
 case h_2=>cases hs
 rename_i n k;obtain ⟨rfl⟩:=Option.some.inj hs;have hc_0:decide (n≤100∧0<k∧k<n)=true:=hc;have hc:=of_decide_eq_true hc_0;exact EndZ.calls (RWo.ends hc.1 hc.2.1 hc.2.2) zc5 (by kernel_rfl) hax hN hfz
namespace RSli
noncomputable def sX (own:Bool) (a b:Pm n) (tk:Bool) (i:Int):NS:=bc own (sB (pR a) (pR b) n tk i) (sA (pR a) (pR b) tk i)
theorem step1 {own:Bool} {a b:Pm n} {tk:Bool} {i:Nat} (hn:n≤12) (hi:0<i∧i<n) (hb:b.beg i) (hf:¬ a.fin i):RUN (stOf (sX own a b tk i)) = .at (sX true (a.R i hi) (b.L i hi) true (1:Nat)):=by
 have key:∀ i:Nat,0<i∧i<n→∃ j,i=j+1:=fun i h=>⟨i-1,by omega⟩;obtain ⟨j,rfl⟩:=key i hi;have w:IntKind.i64.wrap (((j+1:Nat):Int)-1)=(j:Int):=by rw [zad _ (by omega) (by omega)];omega
 have e1:((j:Int)).toNat=j:=rfl;have e2:(((j+1:Nat):Int)).toNat=j+1:=rfl;have f1:(b.f (j+1):Int)<(b.f j:Int):=by
  unfold Pm.beg at hb;rw [show j+1-1=j by omega] at hb;omega
 have f2:finB (pR a) (j+1)=false:=by
  rw [zko];exact decide_eq_false hf
 have l1:=pR_L b hi;rw [show j+1-1=j by omega] at l1;have c1:PmL (pR a)∧0<((j+1:Nat):Int)∧((j+1:Nat):Int)<(n:Int):=⟨PmL.pR hn a,by omega,by omega⟩;have c2:n≤1000 ∧ -1000≤((j+1:Nat):Int)∧((j+1:Nat):Int)≤1000:=⟨by omega,by omega,by omega⟩
 cases own with
 | false=>
  show RUN (stOf (sA (pR a) (pR b) tk ((j+1:Nat):Int)))=_;rw [a_t,List.nil_append,w,e1,e2,zax b (show j<n by omega),zax b hi.2,f2,l1,zil a hi,List.length_set,zag,zag,dt c1,dt c2];simp (disch:=omega) only [yS];rfl
 | true=>
  show RUN (stOf (sB (pR a) (pR b) n tk ((j+1:Nat):Int)))=_;rw [b_t,List.nil_append,w,e1,e2,zax b (show j<n by omega),zax b hi.2,f2,l1,zil a hi,List.length_set,zag,zag,dt c1,dt c2];simp (disch:=omega) only [yS];rfl
theorem step2 {own:Bool} {a b:Pm n} {tk:Bool} {i:Nat} (hn:n≤12) (hi:0<i∧i<n) (h:¬ (b.beg i∧¬ a.fin i)):RUN (stOf (sX own a b tk i)) = .at (sX own a b tk (i+1:Nat)):=by
 have key:∀ i:Nat,0<i∧i<n→∃ j,i=j+1:=fun i h=>⟨i-1,by omega⟩;obtain ⟨j,rfl⟩:=key i hi;have w:IntKind.i64.wrap (((j+1:Nat):Int)-1)=(j:Int):=by rw [zad _ (by omega) (by omega)];omega
 have e1:((j:Int)).toNat=j:=rfl;have e2:(((j+1:Nat):Int)).toNat=j+1:=rfl;have c1:PmL (pR a)∧0<((j+1:Nat):Int)∧((j+1:Nat):Int)<(n:Int):=⟨PmL.pR hn a,by omega,by omega⟩
 by_cases hb:b.beg (j+1)
 ·have hf:a.fin (j+1):=Classical.byContradiction fun hf=>h ⟨hb,hf⟩;have f1:(b.f (j+1):Int)<(b.f j:Int):=by
   unfold Pm.beg at hb;rw [show j+1-1=j by omega] at hb;omega
  have f2:finB (pR a) (j+1)=true:=by
   rw [zko];exact decide_eq_true hf
  cases own with
  | false=>
   show RUN (stOf (sA (pR a) (pR b) tk ((j+1:Nat):Int)))=_;rw [a_t,w,e1,e2,zax b (show j<n by omega),zax b hi.2,f2,zag,zag,dt c1];simp (disch:=omega) only [yS];rfl
  | true=>
   show RUN (stOf (sB (pR a) (pR b) n tk ((j+1:Nat):Int)))=_;rw [b_t,w,e1,e2,zax b (show j<n by omega),zax b hi.2,f2,zag,zag,dt c1];simp (disch:=omega) only [yS];rfl
 ·have f1:¬ (b.f (j+1):Int)<(b.f j:Int):=by
   unfold Pm.beg at hb;rw [show j+1-1=j by omega] at hb;omega
  cases own with
  | false=>
   show RUN (stOf (sA (pR a) (pR b) tk ((j+1:Nat):Int)))=_;rw [a_t,w,e1,e2,zax b (show j<n by omega),zax b hi.2,zag,zag];simp (disch:=omega) only [yS];rfl
  | true=>
   show RUN (stOf (sB (pR a) (pR b) n tk ((j+1:Nat):Int)))=_;rw [b_t,w,e1,e2,zax b (show j<n by omega),zax b hi.2,zag,zag];simp (disch:=omega) only [yS];rfl
theorem last {own:Bool} {a b:Pm n} {tk:Bool}:RUN (stOf (sX own a b tk n)) = .done (.tup [il (pR a),il (pR b),bv tk]) [] 0:=by
 cases own with
 | false=>
  show RUN (stOf (sA (pR a) (pR b) tk (n:Int)))=_;rw [a_t,zag];simp (disch:=omega) only [yS]
 | true=>
  show RUN (stOf (sB (pR a) (pR b) n tk (n:Int)))=_;rw [b_t,zag,zag];simp (disch:=omega) only [yS]
theorem loop (hn:n≤12):∀ (μ:Nat) (own:Bool) (a b:Pm n) (i:Nat) (tk:Bool),a.W*(n+1)+(n-i)≤μ→1≤i→i≤n→(∀ j,0<j→j<i→¬ (b.beg j∧¬ a.fin j)) →
  ∃ a' b' tk',Mvs [a,b] [a',b']∧Lw a' b'∧(tk'=false→tk=false∧a'=a∧b'=b)∧(tk'=true→tk=true∨a'.W<a.W)∧a'.W≤a.W∧EndZ 131 ctAF false (stOf (sX own a b tk i)) (.tup [il (pR a'),il (pR b'),bv tk']) [] 0
 | μ,own,a,b,i,tk,hμ,h1,h2,hj=>by
  by_cases hi:i=n
  ·subst hi;exact ⟨a,b,tk,.refl _,fun j g1 g2 hb=>Classical.byContradiction fun hf=>hj j g1 g2 ⟨hb,hf⟩,fun h=>⟨h,rfl,rfl⟩,fun h=>.inl h,Nat.le_refl _,.done last⟩
  ·have hin:0<i∧i<n:=⟨h1,by omega⟩
   by_cases hs:b.beg i∧¬ a.fin i
   ·obtain ⟨hb,hf⟩:=hs;have hW:=a.W_R hin hf
    match μ with
    | 0=>omega
    | μ+1=>
     have hm:(a.R i hin).W*(n+1)+(n+1)≤a.W*(n+1):=by rw [← Nat.succ_mul];exact Nat.mul_le_mul_right _ hW
     obtain ⟨a',b',tk',g1,g2,g3,g4,g6,g5⟩:=loop hn μ true (a.R i hin) (b.L i hin) 1 true (by omega) (Nat.le_refl _) (by omega) (fun j q1 q2=>by omega);exact ⟨a',b',tk',.step (.here a b [] i hin hb hf) g1,g2,fun h=>absurd (g3 h).1 (by decide),fun h=>.inr (by omega),by omega,.at zc5 (step1 hn hin hb hf) g5⟩
   ·match μ with
    | 0=>omega
    | μ+1=>
     obtain ⟨a',b',tk',g1,g2,g3,g4,g6,g5⟩:=loop hn μ own a b (i+1) tk (by omega) (by omega) (by omega) (fun j q1 q2=>by
      by_cases e:j=i
      ·rw [e];exact hs
      ·exact hj j q1 (by omega))
     exact ⟨a',b',tk',g1,g2,g3,g4,g6,.at zc5 (step2 hn hin hs) g5⟩
theorem ends (hn1:1≤n) (hn:n≤12) (a b:Pm n):EndZ 131 ctAF false (st0 131 [il (pR a),il (pR b)]) (.tup [il (pR (nf1 a b)),il (pR (nf2 a b)),bv (decide (nf1 a b≠a))]) [] 0:=by
 obtain ⟨a',b',tk',g1,g2,g3,g4,g6,g5⟩:=loop hn _ false a b 1 false (Nat.le_refl _) (Nat.le_refl _) hn1 (fun j q1 q2=>by omega);have hN:NF [a,b]=[a',b']:=NF_of g1 (za3.2 ⟨g2,zbd _⟩);have e1:nf1 a b=a':=by unfold nf1;rw [hN];rfl
 have e2:nf2 a b=b':=by unfold nf2;rw [hN];rfl
 rw [e1,e2];have e3:decide (a'≠a)=tk':=by
  cases tk' with
  | false=>exact decide_eq_false fun h=>h (g3 rfl).2.1
  | true=>
   rcases g4 rfl with h|h
   ·cases h
   ·exact decide_eq_true fun e=>by rw [e] at h;omega
 rw [e3];exact .at zc5 (in_t (pR a) (pR b)) g5
def Sl2 (a b:List Int):Prop:=1≤a.length∧a.length≤12∧(∃ p:Pm a.length,a=pR p)∧∃ q:Pm a.length,b=pR q
noncomputable instance (a b:List Int):Decidable (Sl2 a b):=Classical.propDecidable _
theorem endsK {a b:List Int} (m:Nat) (p q:Pm m) (h1:1≤m) (h2:m≤12) (ha:a=pR p) (hb:b=pR q):EndZ 131 ctAF false (st0 131 [il a,il b]) (.tup [il (sl1 a b),il (sl2 a b),bv (slB a b)]) [] 0:=by
 rw [ha,hb,ztl,ztk,ztj];exact ends h1 h2 p q
theorem endsL {a b:List Int} (h:Sl2 a b):EndZ 131 ctAF false (st0 131 [il a,il b]) (.tup [il (sl1 a b),il (sl2 a b),bv (slB a b)]) [] 0:=by
 obtain ⟨h1,h2,⟨p,hp⟩,q,hq⟩:=h;exact endsK _ p q h1 h2 hp hq
end RSli
noncomputable def spRSli:ZCT:=fun ax=>match ax with
 | [.lst (.ints .i64 a),.lst (.ints .i64 b)]=>some ⟨decide (RSli.Sl2 a b),.tup [il (sl1 a b),il (sl2 a b),bv (slB a b)],[],0⟩
 | _=>none
theorem zoh:ZCtOk Try.prog 131 spRSli:=fun γ w us ax r hs hc hax hN hfz=>by
 unfold spRSli at hs;split at hs
 case h_2=>cases hs
 rename_i a b;obtain ⟨rfl⟩:=Option.some.inj hs;have hc_0:decide (RSli.Sl2 a b)=true:=hc;have hc:=of_decide_eq_true hc_0;exact EndZ.calls (RSli.endsL hc) zc5 (by kernel_rfl) hax hN hfz
end
namespace RNrm
noncomputable abbrev shI:List Sh:=[.list [.int .i64]]
noncomputable def ct:Tr ZCC:=((((((Tr.nil.put 42 (some (dC spRChk))).put 87 (some (dC spRLin))).put 128 (some (dC spRAft))).put 129 (some (dC spRTrn))).put 130 (some (dC spRWo))).put 131 (some (dC spRSli))).put 132 (some (dC spRFlt))
theorem ct_ok:ZCtsOk Try.prog ct:=(((((((ZCtsOk.nil _).add rfl ziw).add rfl zom).add rfl zix).add rfl zog).add rfl zrn).add rfl zoh).add rfl zon
noncomputable def RUN (s:ES):ZF:=RZs 89 ct [(atS 0 89 7,[[(0,none),(1,none),(8,none),(9,some (1,22,.recs shI [])),(10,none)]]),(atS 0 89 13,[[(0,none),(1,none),(8,none),(9,none),(10,none),(11,none)]]),(atS 0 89 18,[[(0,none),(8,none),(9,none),(12,none)]]),(atS 0 89 21,[[(0,none),(8,none),(9,none),(12,none),(13,none)]]),(atS 0 89 28,[[(0,none),(8,none),(9,none),(17,some (1,22,.recs shI [])),(18,none)]])] [] false s
noncomputable def sA (n:Int) (w:List Int) (pw:Int) (L:List (List U)) (len:Nat) (nn:Bool) (i:Int):NS:=⟨[⟨89,144,[(0,(iv n)),(1,(il w)),(8,iv pw),(9,EV.slO 0 1 len nn),(10,iv i)],[.it (.code (nav [1,1,1,1,1,0,1,0,0,0] (bodyOf Try.f89))),.it (.code (nav [1,1,1,1,1,0,1,0,0,1] (bodyOf Try.f89))),.it (.inLoop (nav [1,1,1,1,1,0,1,0,0] (bodyOf Try.f89))),.it (.inBlock 0),.it (.code (nav [1,1,1,1,1,1] (bodyOf Try.f89)))],[],Option.none⟩],[(0,EK.seq 22 (.recs shI L) nn)],1⟩
noncomputable def sB (n:Int) (w:List Int) (pw:Int) (L:List (List U)) (len:Nat) (nn:Bool) (i j:Int):NS:=⟨[⟨89,144,[(0,(iv n)),(1,il w),(8,iv pw),(9,EV.slO 0 1 len nn),(10,iv i),(11,iv j)],[.it (.code (nav [1,1,1,1,1,0,1,0,0,1,0,0,1,1,0,1,0,0,0] (bodyOf Try.f89))),.it (.code (nav [1,1,1,1,1,0,1,0,0,1,0,0,1,1,0,1,0,0,1] (bodyOf Try.f89))),.it (.inLoop (nav [1,1,1,1,1,0,1,0,0,1,0,0,1,1,0,1,0,0] (bodyOf Try.f89))),.it (.inBlock 2),.it (.code (nav [1,1,1,1,1,0,1,0,0,1,0,0,1,1,1] (bodyOf Try.f89))),.it (.inBlock 1),.it (.code (nav [1,1,1,1,1,0,1,0,0,1,1] (bodyOf Try.f89))),.it (.inLoop (nav [1,1,1,1,1,0,1,0,0] (bodyOf Try.f89))),.it (.inBlock 0),.it (.code (nav [1,1,1,1,1,1] (bodyOf Try.f89)))],[],Option.none⟩],[(0,EK.seq 22 (.recs shI L) nn)],1⟩
noncomputable def sC (n:Int) (pw:Int) (L:List (List U)) (len:Nat) (nn:Bool) (ch:Bool):NS:=⟨[⟨89,144,[(0,(iv n)),(8,(iv pw)),(9,(EV.slO 0 1 len nn)),(12,bv ch)],[.it (.code (nav [1,1,1,1,1,1,0,1,0,0,0] (bodyOf Try.f89))),.it (.code (nav [1,1,1,1,1,1,0,1,0,0,1] (bodyOf Try.f89))),.it (.inLoop (nav [1,1,1,1,1,1,0,1,0,0] (bodyOf Try.f89))),.it (.inBlock 4),.it (.code (nav [1,1,1,1,1,1,1] (bodyOf Try.f89)))],[],Option.none⟩],[(0,(EK.seq 22 (SyC.recs [(Sh.list [(Sh.int IntKind.i64)])] L) nn))],1⟩
noncomputable def sD (n:Int) (pw:Int) (L:List (List U)) (len:Nat) (nn:Bool) (ch:Bool) (k:Int):NS:=⟨[⟨89,144,[(0,(iv n)),(8,(iv pw)),(9,(EV.slO 0 1 len nn)),(12,bv ch),(13,iv k)],[.it (.code (nav [1,1,1,1,1,1,0,1,0,0,1,0,1,1,0,0,0] (bodyOf Try.f89))),.it (.code (nav [1,1,1,1,1,1,0,1,0,0,1,0,1,1,0,0,1] (bodyOf Try.f89))),.it (.inLoop (nav [1,1,1,1,1,1,0,1,0,0,1,0,1,1,0,0] (bodyOf Try.f89))),.it (.inBlock 6),.it (.inBlock 5),.it (.inLoop (nav [1,1,1,1,1,1,0,1,0,0] (bodyOf Try.f89))),.it (.inBlock 4),.it (.code (nav [1,1,1,1,1,1,1] (bodyOf Try.f89)))],[],Option.none⟩],[(0,(EK.seq 22 (SyC.recs [(Sh.list [(Sh.int IntKind.i64)])] L) nn))],1⟩
noncomputable def sE (n:Int) (pw:Int) (L:List (List U)) (len:Nat) (nn:Bool) (Q:List (List U)) (m:Nat) (nq:Bool) (i:Int):NS:=⟨[⟨89,144,[(0,(iv n)),(8,(iv pw)),(9,(EV.slO 0 1 len nn)),(17,EV.slO 1 1 m nq),(18,iv i)],[.it (.code (nav [1,1,1,1,1,1,1,1,0,1,0,0,0] (bodyOf Try.f89))),.it (.code (nav [1,1,1,1,1,1,1,1,0,1,0,0,1] (bodyOf Try.f89))),.it (.inLoop (nav [1,1,1,1,1,1,1,1,0,1,0,0] (bodyOf Try.f89))),.it (.inBlock 8),.it (.code (nav [1,1,1,1,1,1,1,1,1] (bodyOf Try.f89)))],[],Option.none⟩],[(0,(EK.seq 22 (SyC.recs [(Sh.list [(Sh.int IntKind.i64)])] L) nn)),(1,EK.seq 22 (.recs shI Q) nq)],2⟩
theorem in_t (n:Int) (w:List Int):RUN (st0 89 [iv n,il w])=(bc (chk n w != 0) (.done (EV.tup [(iv (0)),(EV.v (Value.slice Option.none 0 0)),(iv (chk n w))]) [] 0) (.at (sA n w 0 [] (0) false 0))):=by kernel_rfl
theorem nil_t (n:Int):RZ 89 ct (fun _=>false) [] [] false (st0 89 [iv n,.v (.slice none 0 0)])=(bc (chk n [] != (0:Int)) (.done (EV.tup [(EV.v (Value.int IntKind.i64 (0))),(EV.v (Value.slice Option.none 0 0)),(EV.v (Value.int IntKind.i64 (chk n [])))]) [] 0) (.done (EV.tup [(EV.v (Value.int IntKind.i64 (0))),(EV.v (Value.slice Option.none 0 0)),(EV.v (Value.int IntKind.i64 (0)))]) [] 0)):=by kernel_rfl
theorem a_t (n:Int) (w:List Int) (pw:Int) (L:List (List U)) (len:Nat) (nn:Bool) (i:Int):RUN (stOf (sA n w pw L len nn i))=(bc (decide (i<Int.ofNat w.length)) (bc (bc (bc (decide (0≤i)) (Nat.blt i.toNat w.length) false) true false) (bc (bc (Nat.blt i.toNat w.length) true false) (bc (decide (0<w.getD i.toNat 0)) (bc (bc (bc (decide (0≤n∧n≤100)) (bc (bc (bc (decide (0≤i)) (Nat.blt i.toNat w.length) false) true false) (bc (bc (Nat.blt i.toNat w.length) true false) (bc (decide ((pR (Pm.one n.toNat)).length≤1000∧(-1000:Int)≤w.getD i.toNat 0∧w.getD i.toNat 0≤1000)) (bc (bc (Nat.beq len L.length) (bc (Nat.ble (len+[[U.l (List.map (fun x=>[U.i x]) (aftL (pR (Pm.one n.toNat)) (w.getD i.toNat 0)))]].length) 65536) (bc nn true (bc nn false true)) false) false) true false) false) false) false) false) true false) (.at (sA n w pw (L++[[U.l (List.map (fun x=>[U.i x]) (aftL (pR (Pm.one n.toNat)) (w.getD i.toNat 0)))]]) (L++[[U.l (List.map (fun x=>[U.i x]) (aftL (pR (Pm.one n.toNat)) (w.getD i.toNat 0)))]]).length (bc nn true (Nat.blt 0 [[U.l (List.map (fun x=>[U.i x]) (aftL (pR (Pm.one n.toNat)) (w.getD i.toNat 0)))]].length)) (IntKind.i64.wrap (i+1)))) .bad) (.at (sB n w (IntKind.i64.wrap (pw-(1:Int))) L len nn i 0))) .bad) .bad) (.at (sC n pw L len nn true))):=by kernel_rfl
theorem b_t (n:Int) (w:List Int) (pw:Int) (L:List (List U)) (len:Nat) (nn:Bool) (i j:Int):RUN (stOf (sB n w pw L len nn i j))=(bc (decide (j<Int.ofNat len)) (bc (bc (bc (decide (0≤j)) (Nat.blt j.toNat len) false) true false) (bc (bc (Nat.blt j.toNat L.length) true false) (bc (decide (PmL (List.map (fun r=>U.int (List.headD r (U.i 0))) (U.list ((L.getD j.toNat []).getD 0 (U.i 0)))))) (bc (bc (bc (decide (0≤j)) (Nat.blt j.toNat len) false) true false) (bc (Nat.blt j.toNat L.length) (.at (sB n w pw (List.set L j.toNat [U.l (List.map (fun x=>[U.i x]) (trnL (List.map (fun r=>U.int (List.headD r (U.i 0))) (U.list ((L.getD j.toNat []).getD 0 (U.i 0))))))]) len nn i (IntKind.i64.wrap (j+1)))) .bad) .bad) .bad) .bad) .bad) (bc (bc (bc (decide (0≤i)) (Nat.blt i.toNat w.length) false) true false) (bc (bc (Nat.blt i.toNat w.length) true false) (bc (decide (n≤100∧0<IntKind.i64.wrap ((0:Int)-w.getD i.toNat 0)∧IntKind.i64.wrap ((0:Int)-w.getD i.toNat 0)<n)) (bc (bc (Nat.beq len L.length) (bc (Nat.ble (len+[[U.l (List.map (fun x=>[U.i x]) (woL n (IntKind.i64.wrap ((0:Int)-w.getD i.toNat 0))))]].length) 65536) (bc nn true (bc nn false true)) false) false) (.at (sA n w pw (L++[[U.l (List.map (fun x=>[U.i x]) (woL n (IntKind.i64.wrap ((0:Int)-w.getD i.toNat 0))))]]) (L++[[U.l (List.map (fun x=>[U.i x]) (woL n (IntKind.i64.wrap ((0:Int)-w.getD i.toNat 0))))]]).length (bc nn true (Nat.blt 0 [[U.l (List.map (fun x=>[U.i x]) (woL n (IntKind.i64.wrap ((0:Int)-w.getD i.toNat 0))))]].length)) (IntKind.i64.wrap (i+1)))) .bad) .bad) .bad) .bad)):=by kernel_rfl
theorem c_t (n:Int) (pw:Int) (L:List (List U)) (len:Nat) (nn:Bool) (ch:Bool):RUN (stOf (sC n pw L len nn ch))=(bc ch (.at (sD n pw L len nn false (IntKind.i64.wrap (Int.ofNat len-(1:Int))))) (.at (sE n pw L len nn [] (0) false 0))):=by kernel_rfl
theorem d_t (n:Int) (pw:Int) (L:List (List U)) (len:Nat) (nn:Bool) (ch:Bool) (k:Int):RUN (stOf (sD n pw L len nn ch k))=(bc (decide (0<k)) (bc (bc (bc (bc (bc (decide (0≤IntKind.i64.wrap (k-(1:Int)))) (Nat.blt (IntKind.i64.wrap (k-(1:Int))).toNat len) false) true false) (bc (bc (Nat.blt (IntKind.i64.wrap (k-(1:Int))).toNat L.length) true false) (bc (bc (bc (decide (0≤k)) (Nat.blt k.toNat len) false) true false) (bc (bc (Nat.blt k.toNat L.length) true false) (bc (decide (RSli.Sl2 (List.map (fun r=>U.int (List.headD r (U.i 0))) (U.list ((L.getD (IntKind.i64.wrap (k-(1:Int))).toNat []).getD 0 (U.i 0)))) (List.map (fun r=>U.int (List.headD r (U.i 0))) (U.list ((L.getD k.toNat []).getD 0 (U.i 0)))))) true false) false) false) false) false) true false) (bc (bc (bc (decide (0≤IntKind.i64.wrap (k-(1:Int)))) (Nat.blt (IntKind.i64.wrap (k-(1:Int))).toNat len) false) true false) (bc (Nat.blt (IntKind.i64.wrap (k-(1:Int))).toNat L.length) (bc (bc (bc (decide (0≤k)) (Nat.blt k.toNat len) false) true false) (bc (Nat.blt k.toNat (List.set L (IntKind.i64.wrap (k-(1:Int))).toNat [U.l (List.map (fun x=>[U.i x]) (sl1 (List.map (fun r=>U.int (List.headD r (U.i 0))) (U.list ((L.getD (IntKind.i64.wrap (k-(1:Int))).toNat []).getD 0 (U.i 0)))) (List.map (fun r=>U.int (List.headD r (U.i 0))) (U.list ((L.getD k.toNat []).getD 0 (U.i 0))))))]).length) (bc ch (.at (sD n pw (List.set (List.set L (IntKind.i64.wrap (k-(1:Int))).toNat [U.l (List.map (fun x=>[U.i x]) (sl1 (List.map (fun r=>U.int (List.headD r (U.i 0))) (U.list ((L.getD (IntKind.i64.wrap (k-(1:Int))).toNat []).getD 0 (U.i 0)))) (List.map (fun r=>U.int (List.headD r (U.i 0))) (U.list ((L.getD k.toNat []).getD 0 (U.i 0))))))]) k.toNat [U.l (List.map (fun x=>[U.i x]) (sl2 (List.map (fun r=>U.int (List.headD r (U.i 0))) (U.list ((L.getD (IntKind.i64.wrap (k-(1:Int))).toNat []).getD 0 (U.i 0)))) (List.map (fun r=>U.int (List.headD r (U.i 0))) (U.list ((L.getD k.toNat []).getD 0 (U.i 0))))))]) len nn true (IntKind.i64.wrap (k-(1:Int))))) (.at (sD n pw (List.set (List.set L (IntKind.i64.wrap (k-(1:Int))).toNat [U.l (List.map (fun x=>[U.i x]) (sl1 (List.map (fun r=>U.int (List.headD r (U.i 0))) (U.list ((L.getD (IntKind.i64.wrap (k-(1:Int))).toNat []).getD 0 (U.i 0)))) (List.map (fun r=>U.int (List.headD r (U.i 0))) (U.list ((L.getD k.toNat []).getD 0 (U.i 0))))))]) k.toNat [U.l (List.map (fun x=>[U.i x]) (sl2 (List.map (fun r=>U.int (List.headD r (U.i 0))) (U.list ((L.getD (IntKind.i64.wrap (k-(1:Int))).toNat []).getD 0 (U.i 0)))) (List.map (fun r=>U.int (List.headD r (U.i 0))) (U.list ((L.getD k.toNat []).getD 0 (U.i 0))))))]) len nn (slB (List.map (fun r=>U.int (List.headD r (U.i 0))) (U.list ((L.getD (IntKind.i64.wrap (k-(1:Int))).toNat []).getD 0 (U.i 0)))) (List.map (fun r=>U.int (List.headD r (U.i 0))) (U.list ((L.getD k.toNat []).getD 0 (U.i 0))))) (IntKind.i64.wrap (k-(1:Int)))))) .bad) .bad) .bad) .bad) .bad) (.at (sC n pw L len nn ch))):=by kernel_rfl
theorem e_t (n:Int) (pw:Int) (L:List (List U)) (len:Nat) (nn:Bool) (Q:List (List U)) (m:Nat) (nq:Bool) (i:Int):RUN (stOf (sE n pw L len nn Q m nq i))=(bc (decide (i<Int.ofNat len)) (bc (Int.ofNat m==0) (bc (decide (1<n)) (bc (bc (bc (decide (0≤i)) (Nat.blt i.toNat len) false) true false) (bc (bc (Nat.blt i.toNat L.length) true false) (bc (bc (decide (PmL (List.map (fun r=>U.int (List.headD r (U.i 0))) (U.list ((L.getD i.toNat []).getD 0 (U.i 0))))∧1≤(List.map (fun r=>U.int (List.headD r (U.i 0))) (U.list ((L.getD i.toNat []).getD 0 (U.i 0)))).length∧((-1:Int)=(1:Int)∨(-1:Int)=(-1:Int)))) true false) (bc (flL (List.map (fun r=>U.int (List.headD r (U.i 0))) (U.list ((L.getD i.toNat []).getD 0 (U.i 0)))) (-1:Int)) (.at (sE n (IntKind.i64.wrap (pw+1)) L len nn Q m nq (IntKind.i64.wrap (i+1)))) (bc (bc (bc (decide (0≤i)) (Nat.blt i.toNat len) false) true false) (bc (bc (Nat.blt i.toNat L.length) true false) (bc (bc (decide (PmL (List.map (fun r=>U.int (List.headD r (U.i 0))) (U.list ((L.getD i.toNat []).getD 0 (U.i 0))))∧1≤(List.map (fun r=>U.int (List.headD r (U.i 0))) (U.list ((L.getD i.toNat []).getD 0 (U.i 0)))).length∧((1:Int)=(1:Int)∨(1:Int)=(-1:Int)))) true false) (bc (!flL (List.map (fun r=>U.int (List.headD r (U.i 0))) (U.list ((L.getD i.toNat []).getD 0 (U.i 0)))) (1:Int)) (bc (bc (bc (decide (0≤i)) (Nat.blt i.toNat len) false) true false) (bc (bc (Nat.blt i.toNat L.length) true false) (bc (bc (Nat.beq m Q.length) (bc (Nat.ble (m+[[U.l (List.map (fun x=>[U.i x]) (List.map (fun r=>U.int (List.headD r (U.i 0))) (U.list ((L.getD i.toNat []).getD 0 (U.i 0)))))]].length) 65536) (bc nq true (bc nq false true)) false) false) (.at (sE n pw L len nn (Q++[[U.l (List.map (fun x=>[U.i x]) (List.map (fun r=>U.int (List.headD r (U.i 0))) (U.list ((L.getD i.toNat []).getD 0 (U.i 0)))))]]) (Q++[[U.l (List.map (fun x=>[U.i x]) (List.map (fun r=>U.int (List.headD r (U.i 0))) (U.list ((L.getD i.toNat []).getD 0 (U.i 0)))))]]).length (bc nq true (Nat.blt 0 [[U.l (List.map (fun x=>[U.i x]) (List.map (fun r=>U.int (List.headD r (U.i 0))) (U.list ((L.getD i.toNat []).getD 0 (U.i 0)))))]].length)) (IntKind.i64.wrap (i+1)))) .bad) .bad) .bad) (.at (sE n pw L len nn Q m nq (IntKind.i64.wrap (i+1))))) .bad) .bad) .bad)) .bad) .bad) .bad) (bc (bc (bc (decide (0≤i)) (Nat.blt i.toNat len) false) true false) (bc (bc (Nat.blt i.toNat L.length) true false) (bc (bc (decide (PmL (List.map (fun r=>U.int (List.headD r (U.i 0))) (U.list ((L.getD i.toNat []).getD 0 (U.i 0))))∧1≤(List.map (fun r=>U.int (List.headD r (U.i 0))) (U.list ((L.getD i.toNat []).getD 0 (U.i 0)))).length∧((1:Int)=(1:Int)∨(1:Int)=(-1:Int)))) true false) (bc (!flL (List.map (fun r=>U.int (List.headD r (U.i 0))) (U.list ((L.getD i.toNat []).getD 0 (U.i 0)))) (1:Int)) (bc (bc (bc (decide (0≤i)) (Nat.blt i.toNat len) false) true false) (bc (bc (Nat.blt i.toNat L.length) true false) (bc (bc (Nat.beq m Q.length) (bc (Nat.ble (m+[[U.l (List.map (fun x=>[U.i x]) (List.map (fun r=>U.int (List.headD r (U.i 0))) (U.list ((L.getD i.toNat []).getD 0 (U.i 0)))))]].length) 65536) (bc nq true (bc nq false true)) false) false) (.at (sE n pw L len nn (Q++[[U.l (List.map (fun x=>[U.i x]) (List.map (fun r=>U.int (List.headD r (U.i 0))) (U.list ((L.getD i.toNat []).getD 0 (U.i 0)))))]]) (Q++[[U.l (List.map (fun x=>[U.i x]) (List.map (fun r=>U.int (List.headD r (U.i 0))) (U.list ((L.getD i.toNat []).getD 0 (U.i 0)))))]]).length (bc nq true (Nat.blt 0 [[U.l (List.map (fun x=>[U.i x]) (List.map (fun r=>U.int (List.headD r (U.i 0))) (U.list ((L.getD i.toNat []).getD 0 (U.i 0)))))]].length)) (IntKind.i64.wrap (i+1)))) .bad) .bad) .bad) (.at (sE n pw L len nn Q m nq (IntKind.i64.wrap (i+1))))) .bad) .bad) .bad)) (bc (bc (bc (decide (0≤i)) (Nat.blt i.toNat len) false) true false) (bc (bc (Nat.blt i.toNat L.length) true false) (bc (bc (decide (PmL (List.map (fun r=>U.int (List.headD r (U.i 0))) (U.list ((L.getD i.toNat []).getD 0 (U.i 0))))∧1≤(List.map (fun r=>U.int (List.headD r (U.i 0))) (U.list ((L.getD i.toNat []).getD 0 (U.i 0)))).length∧((1:Int)=(1:Int)∨(1:Int)=(-1:Int)))) true false) (bc (!flL (List.map (fun r=>U.int (List.headD r (U.i 0))) (U.list ((L.getD i.toNat []).getD 0 (U.i 0)))) (1:Int)) (bc (bc (bc (decide (0≤i)) (Nat.blt i.toNat len) false) true false) (bc (bc (Nat.blt i.toNat L.length) true false) (bc (bc (Nat.beq m Q.length) (bc (Nat.ble (m+[[U.l (List.map (fun x=>[U.i x]) (List.map (fun r=>U.int (List.headD r (U.i 0))) (U.list ((L.getD i.toNat []).getD 0 (U.i 0)))))]].length) 65536) (bc nq true (bc nq false true)) false) false) (.at (sE n pw L len nn (Q++[[U.l (List.map (fun x=>[U.i x]) (List.map (fun r=>U.int (List.headD r (U.i 0))) (U.list ((L.getD i.toNat []).getD 0 (U.i 0)))))]]) (Q++[[U.l (List.map (fun x=>[U.i x]) (List.map (fun r=>U.int (List.headD r (U.i 0))) (U.list ((L.getD i.toNat []).getD 0 (U.i 0)))))]]).length (bc nq true (Nat.blt 0 [[U.l (List.map (fun x=>[U.i x]) (List.map (fun r=>U.int (List.headD r (U.i 0))) (U.list ((L.getD i.toNat []).getD 0 (U.i 0)))))]].length)) (IntKind.i64.wrap (i+1)))) .bad) .bad) .bad) (.at (sE n pw L len nn Q m nq (IntKind.i64.wrap (i+1))))) .bad) .bad) .bad)) (bc (bc (Nat.beq m Q.length) true false) (.done (EV.tup [(iv pw),(EV.lst (SyC.recs [(Sh.list [(Sh.int IntKind.i64)])] Q)),(iv (0))]) [] 0) .bad)):=by kernel_rfl
end RNrm
section
variable {n:Nat}
theorem zkg {s t:List (Pm n)} (h:Mvs s t):s=t∨mu t<mu s:=by
 induction h with
 | refl s=>exact .inl rfl
 | step h1 h2 ih=>
  have h3:=h1.mu;rcases ih with e|e
  ·subst e;exact .inr h3
  ·exact .inr (by omega)
theorem zie (A B:List (Pm n)) (p:Pm n):(encR (A++p::B)).getD A.length []=rowU p:=by
 unfold encR;rw [List.map_append,List.getD_eq_getElem?_getD,List.getElem?_append_right (by rw [List.length_map];exact Nat.le_refl _),List.length_map,Nat.sub_self];rfl
theorem zid (A B:List (Pm n)) (p q:Pm n):(encR (A++p::B)).set A.length (rowU q)=encR (A++q::B):=by
 unfold encR;rw [List.map_append,List.map_append,List.set_append_right _ _ (by rw [List.length_map];exact Nat.le_refl _),List.length_map,Nat.sub_self];rfl
theorem zif (F G:List (Pm n)):encR (F++G)=encR F++encR G:=List.map_append
theorem zev (p:Pm n):[U.l (List.map (fun x=>[U.i x]) (pR p))]=rowU p:=rfl
theorem zxa (hn1:1≤n) (hn:n≤12) (a b:Pm n):RSli.Sl2 (pR a) (pR b):=by
 have key:∀ m,m=n→(∃ p:Pm m,pR a=pR p)∧∃ q:Pm m,pR b=pR q:=fun m e=>by subst e;exact ⟨⟨a,rfl⟩,b,rfl⟩
 exact ⟨by rw [zag];exact hn1,by rw [zag];exact hn,key _ (zag a)⟩
namespace RNrm
theorem stepP {w:List Int} {s:Int×List (Pm n)} {nn:Bool} {i k:Nat} (hn:n≤12) (hk:0<k∧k<n) (hi:i<w.length) (hw:w.length≤400) (hx:w.getD i 0=(k:Int)) (hl:s.2.length≤400):RUN (stOf (sA n w s.1 (encR s.2) s.2.length nn i)) = .at (sA n w (stepW s k).1 (encR (stepW s k).2) (stepW s k).2.length true (i+1:Nat)):=by
 rw [a_t];have e0:((i:Int)).toNat=i:=rfl;have e1:pR (Pm.one ((n:Int)).toNat)=pR (Pm.one n):=rfl;have e2:pR ((Pm.one n).R k hk)=pR (ltr k hk):=rfl;rw [e0,hx,e1,zil (Pm.one n) hk,e2,zag,zbk,zev];have c1:0≤(n:Int)∧(n:Int)≤100:=⟨by omega,by omega⟩;have c2:n≤1000 ∧ -1000≤(k:Int)∧(k:Int)≤1000:=⟨by omega,by omega,by omega⟩;have e3:encR s.2++[rowU (ltr k hk)]=encR (s.2++[ltr k hk]):=by rw [zif];rfl
 rw [dt c1,dt c2,e3,nn_ok,zbk,zao hk,List.length_append,List.length_singleton,List.length_singleton];have e4:bc nn true (Nat.blt 0 1)=true:=by cases nn <;> rfl
 simp (disch:=omega) only [yS,e4];rfl
theorem stepN {w:List Int} {s:Int×List (Pm n)} {nn:Bool} {i k:Nat} (hn:n≤12) (hk:0<k∧k<n) (hi:i<w.length) (hw:w.length≤400) (hx:w.getD i 0 = -(k:Int)) (h1:-1000≤s.1) (h2:s.1≤1000):RUN (stOf (sA n w s.1 (encR s.2) s.2.length nn i)) = .at (sB n w (s.1-1) (encR s.2) s.2.length nn i (0:Nat)):=by
 rw [a_t];have e0:((i:Int)).toNat=i:=rfl;rw [e0,hx,zad (s.1-1) (by omega) (by omega)];simp (disch:=omega) only [yS]
theorem stepB {w:List Int} {pw:Int} {A B:List (Pm n)} {p:Pm n} {len:Nat} {nn:Bool} {i:Int} (hn:n≤12) (hl:len=A.length+1+B.length) (hz:len≤400):RUN (stOf (sB n w pw (encR (A++p::B)) len nn i A.length)) = .at (sB n w pw (encR (A++p.trn::B)) len nn i (A.length+1:Nat)):=by
 rw [b_t];have e0:((A.length:Int)).toNat=A.length:=rfl;have f1:List.map (fun r=>U.int (List.headD r (U.i 0))) (U.list (List.getD (rowU p) 0 (U.i 0)))=pR p:=zcp p;have e5:(A++p::B).length=len:=by rw [List.length_append,List.length_cons];omega
 rw [e0,zie,f1,zn5,zev,zid,zbk,e5,dt (PmL.pR hn p)];simp (disch:=omega) only [yS];rfl
theorem lastB {w:List Int} {s:Int×List (Pm n)} {nn:Bool} {i k:Nat} (hn:n≤12) (hk:0<k∧k<n) (hi:i<w.length) (hw:w.length≤400) (hx:w.getD i 0 = -(k:Int)) (hl:s.2.length≤400):RUN (stOf (sB n w (s.1-1) (encR (s.2.map Pm.trn)) s.2.length nn i s.2.length)) = .at (sA n w (stepW s (-(k:Int))).1 (encR (stepW s (-(k:Int))).2) (stepW s (-(k:Int))).2.length true (i+1:Nat)):=by
 rw [b_t];have e0:((i:Int)).toNat=i:=rfl;have w0:IntKind.i64.wrap (0 - -(k:Int))=(k:Int):=by rw [zad _ (by omega) (by omega)];omega
 have c1:(n:Int)≤100∧0<(k:Int)∧(k:Int)<n:=⟨by omega,by omega,by omega⟩;have e3:encR (s.2.map Pm.trn)++[rowU (ctr k hk)]=encR (s.2.map Pm.trn++[ctr k hk]):=by rw [zif];rfl
 rw [e0,hx,w0,ztf hk,zev,dt c1,e3,nn_ok,zbk,zbk,za4 hk,List.length_append,List.length_map,List.length_singleton,List.length_singleton];have e4:bc nn true (Nat.blt 0 1)=true:=by cases nn <;> rfl
 simp (disch:=omega) only [yS,e4];rfl
theorem loopB {w:List Int} {pw:Int} {len:Nat} {nn:Bool} {i:Int} (hn:n≤12) (hz:len≤400):∀ (B A:List (Pm n)),len=A.length+B.length→LeadsZ Try.prog (stOf (sB n w pw (encR (A.map Pm.trn++B)) len nn i A.length)) (stOf (sB n w pw (encR ((A++B).map Pm.trn)) len nn i len))
 | [],A,h=>by
  rw [List.append_nil,List.append_nil];have:len=A.length:=h;rw [this];exact LeadsZ.refl _
 | p::B,A,h=>by
  rw [List.length_cons] at h;have h1:=stepB (w:=w) (pw:=pw) (A:=A.map Pm.trn) (B:=B) (p:=p) (len:=len) (nn:=nn) (i:=i) hn (by rw [List.length_map];omega) hz;rw [List.length_map] at h1;have h3:=loopB (w:=w) (pw:=pw) (nn:=nn) (i:=i) hn hz B (A++[p]) (by rw [List.length_append,List.length_singleton];omega);rw [List.length_append,List.length_singleton,List.map_append,List.append_assoc,List.append_assoc] at h3;exact (leadsZ ct_ok h1).trans h3
theorem zis (s:Int×List (Pm n)) (x:Int):(stepW s x).2.length≤s.2.length+1∧s.1-1≤(stepW s x).1∧(stepW s x).1≤s.1:=by
 unfold stepW;split
 ·split
  ·refine ⟨by simp,by show s.1-1≤s.1;omega,Int.le_refl _⟩
  ·refine ⟨by simp,Int.le_refl _,by show s.1-1≤s.1;omega⟩
 ·exact ⟨by omega,by omega,Int.le_refl _⟩
theorem loopA {w:List Int} (hn:n≤12) (hw:w.length≤400) (hv:Vld n w):∀ (k i:Nat) (s:Int×List (Pm n)) (nn:Bool),i+k=w.length→s.2.length≤i → -(i:Int)≤s.1→s.1≤0→∃ nn',LeadsZ Try.prog (stOf (sA n w s.1 (encR s.2) s.2.length nn i)) (stOf (sC n ((w.drop i).foldl stepW s).1 (encR ((w.drop i).foldl stepW s).2) ((w.drop i).foldl stepW s).2.length nn' true))
 | 0,i,s,nn,h,h1,h2,h3=>by
  rw [List.drop_eq_nil_of_le (by omega)];have h:=a_t n w s.1 (encR s.2) s.2.length nn i;simp (disch:=omega) only [yS] at h;exact ⟨nn,leadsZ ct_ok h⟩
 | k+1,i,s,nn,h,h1,h2,h3=>by
  have hi:i<w.length:=by omega
  rw [List.drop_eq_getElem_cons hi,List.foldl_cons];obtain ⟨v1,v2,v3⟩:=hv _ (List.getElem_mem hi);have hg:w.getD i 0=w[i]:=zae hi;generalize w[i]=x at *;have hs:=zis s x;obtain ⟨nn',h4⟩:=loopA hn hw hv k (i+1) (stepW s x) true (by omega) (by omega) (by omega) (by omega);refine ⟨nn',?_⟩;rcases Int.lt_or_lt_of_ne v1 with hx|hx
  ·obtain ⟨q,hq⟩:=Int.eq_ofNat_of_zero_le (show 0 ≤ -x by omega);have hq:x = -(q:Int):=by omega
   subst hq;have hk:0<q∧q<n:=by omega
   have g1:=stepN (w:=w) (s:=s) (nn:=nn) hn hk hi hw hg (by omega) (by omega);have g2:=loopB (w:=w) (pw:=s.1-1) (nn:=nn) (i:=i) (len:=s.2.length) hn (by omega) s.2 [] (by simp);have g3:=lastB (w:=w) (s:=s) (nn:=nn) hn hk hi hw hg (by omega);exact (((leadsZ ct_ok g1).trans g2).trans (leadsZ ct_ok g3)).trans h4
  ·obtain ⟨q,rfl⟩:=Int.eq_ofNat_of_zero_le (show 0≤x by omega);have hk:0<q∧q<n:=by omega
   exact (leadsZ ct_ok (stepP hn hk hi hw hg (by omega))).trans h4
theorem stepD {pw:Int} {A B:List (Pm n)} {a b:Pm n} {len:Nat} {nn ch:Bool} (hn1:1≤n) (hn:n≤12) (hl:len=A.length+2+B.length) (hz:len≤400):RUN (stOf (sD n pw (encR (A++a::b::B)) len nn ch (A.length+1:Nat))) = .at (sD n pw (encR (A++nf1 a b::nf2 a b::B)) len nn (bc ch true (decide (nf1 a b≠a))) A.length):=by
 rw [d_t];have w1:IntKind.i64.wrap (((A.length+1:Nat):Int)-1)=(A.length:Int):=by rw [zad _ (by omega) (by omega)];omega
 have e0:((A.length:Int)).toNat=A.length:=rfl;have e1:(((A.length+1:Nat):Int)).toNat=A.length+1:=rfl;have f:∀ p:Pm n,List.map (fun r=>U.int (List.headD r (U.i 0))) (U.list (List.getD (rowU p) 0 (U.i 0)))=pR p:=fun p=>zcp p;have a1:A++a::b::B=(A++[a])++b::B:=by rw [List.append_assoc];rfl
 have l1:A.length+1=(A++[a]).length:=by rw [List.length_append];rfl
 have g1:(encR (A++a::b::B)).getD (A.length+1) []=rowU b:=by rw [a1,l1];exact zie _ _ _
 rw [w1,e0,e1,zie,g1,f,f,ztl,ztk,ztj,zev,zev,zid];have a2:A++nf1 a b::b::B=(A++[nf1 a b])++b::B:=by rw [List.append_assoc];rfl
 have l2:A.length+1=(A++[nf1 a b]).length:=by rw [List.length_append];rfl
 have g2:(encR (A++nf1 a b::b::B)).set (A.length+1) (rowU (nf2 a b))=encR (A++nf1 a b::nf2 a b::B):=by
  rw [a2,l2,zid,List.append_assoc];rfl
 have n1:(A++a::b::B).length=len:=by rw [List.length_append,List.length_cons,List.length_cons];omega
 have n2:(A++nf1 a b::b::B).length=len:=by rw [List.length_append,List.length_cons,List.length_cons];omega
 rw [g2,zbk,zbk,n1,n2,dt (zxa hn1 hn a b)];cases ch <;> simp (disch:=omega) only [yS]
theorem lastD {pw:Int} {L:List (List U)} {len:Nat} {nn ch:Bool} {k:Int} (hk:k≤0):RUN (stOf (sD n pw L len nn ch k)) = .at (sC n pw L len nn ch):=by
 rw [d_t];simp (disch:=omega) only [yS]
theorem loopD {pw:Int} {len:Nat} {nn:Bool} (hn1:1≤n) (hn:n≤12) (hz:len≤400):∀ (r:List (Pm n)) (b:Pm n) (B:List (Pm n)) (ch:Bool),len=r.length+1+B.length→(ch=false→Nrm (b::B)) →
  ∃ l' ch',Mvs (r.reverse++b::B) l'∧(ch'=false→Nrm l'∧ch=false)∧(ch'=true→ch=true∨mu l'<mu (r.reverse++b::B))∧LeadsZ Try.prog (stOf (sD n pw (encR (r.reverse++b::B)) len nn ch r.length)) (stOf (sC n pw (encR l') len nn ch'))
 | [],b,B,ch,h,hN=>⟨b::B,ch,.refl _,fun e=>⟨hN e,e⟩,fun e=>.inl e,leadsZ ct_ok (lastD (by simp))⟩
 | a::r,b,B,ch,h,hN=>by
  rw [List.length_cons] at h;have hA:r.reverse.length=r.length:=List.length_reverse;have h1:=stepD (pw:=pw) (A:=r.reverse) (B:=B) (a:=a) (b:=b) (len:=len) (nn:=nn) (ch:=ch) hn1 hn (by omega) hz;rw [hA] at h1;have e1:(a::r).reverse++b::B=r.reverse++a::b::B:=by rw [List.reverse_cons,List.append_assoc];rfl
  rw [e1];have hm:=(NF_mv [a,b]).app B |>.pre r.reverse
  obtain ⟨q1,q2,q3⟩:=nf12 a b;rw [q1] at hm;have hm:Mvs (r.reverse++a::b::B) (r.reverse++nf1 a b::nf2 a b::B):=hm;have hN2:bc ch true (decide (nf1 a b≠a))=false→Nrm (nf1 a b::nf2 a b::B):=fun e=>by
   cases ch with
   | true=>cases e
   | false=>
    have e2:nf1 a b=a:=Classical.byContradiction fun hne=>by
     have:decide (nf1 a b≠a)=true:=decide_eq_true hne;rw [this] at e;cases e
    have e3:=zsd e2;rw [e3] at q3 ⊢;exact za3.2 ⟨q3,hN rfl⟩
  obtain ⟨l',ch',g1,g2,g3,g4⟩:=loopD (pw:=pw) (nn:=nn) hn1 hn hz r (nf1 a b) (nf2 a b::B) (bc ch true (decide (nf1 a b≠a))) (by rw [List.length_cons];omega) hN2;refine ⟨l',ch',hm.trans g1,fun e=>⟨(g2 e).1,?_⟩,fun e=>?_,(leadsZ ct_ok h1).trans g4⟩
  ·have:=(g2 e).2
   cases ch with
   | true=>cases this
   | false=>rfl
  ·cases ch with
   | true=>exact .inl rfl
   | false=>
    right;rcases g3 e with e2|e2
    ·have hne:nf1 a b≠a:=of_decide_eq_true e2;rcases zkg hm with e3|e3
     ·have:=List.append_cancel_left e3;injection this with this _
      exact absurd this.symm hne
     ·rcases zkg g1 with e4|e4
      ·rw [← e4];exact e3
      ·omega
    ·rcases zkg hm with e3|e3
     ·rw [← e3] at e2;exact e2
     ·omega
theorem stepC1 {pw:Int} {l:List (Pm n)} {nn:Bool} (hz:l.length≤400):RUN (stOf (sC n pw (encR l) l.length nn true)) = .at (sD n pw (encR l) l.length nn false ((l.length:Int)-1)):=by
 rw [c_t,ofn,zad _ (by omega) (by omega)];rfl
theorem stepC0 {pw:Int} {l:List (Pm n)} {nn:Bool}:RUN (stOf (sC n pw (encR l) l.length nn false)) = .at (sE n pw (encR l) l.length nn [] 0 false (0:Nat)):=by
 rw [c_t];rfl
theorem loopC {pw:Int} {nn:Bool} (hn1:1≤n) (hn:n≤12):∀ (μ:Nat) (l:List (Pm n)),mu l≤μ→l.length≤400→LeadsZ Try.prog (stOf (sC n pw (encR l) l.length nn true)) (stOf (sE n pw (encR (NF l)) (NF l).length nn [] 0 false (0:Nat)))
 | μ,l,hμ,hl=>by
  refine (leadsZ ct_ok (stepC1 hl)).trans ?_;rcases List.eq_nil_or_concat l with e|⟨r,b,e⟩
  ·subst e;have h1:=lastD (n:=n) (pw:=pw) (L:=encR ([]:List (Pm n))) (len:=0) (nn:=nn) (ch:=false) (k:=((0:Nat):Int)-1) (by omega);have h2:NF ([]:List (Pm n))=[]:=NF_of (.refl _) zkc;rw [h2];exact (leadsZ ct_ok h1).trans (leadsZ ct_ok stepC0)
  ·rw [List.concat_eq_append] at e;subst e;obtain ⟨l',ch',g1,g2,g3,g4⟩:=loopD (pw:=pw) (nn:=nn) (len:=(r++[b]).length) hn1 hn hl r.reverse b [] false (by rw [List.length_append,List.length_reverse];rfl) (fun _=>zbd _);rw [List.reverse_reverse,List.length_reverse] at g4;rw [List.reverse_reverse] at g1 g3;have e1:(((r++[b]).length:Nat):Int)-1=(r.length:Int):=by rw [List.length_append,List.length_singleton];omega
   rw [e1];refine g4.trans ?_;have hlen:=g1.len;rw [← hlen]
   cases ch' with
   | false=>
    have hNF:NF (r++[b])=l':=NF_of g1 (g2 rfl).1;rw [hNF];exact leadsZ ct_ok stepC0
   | true=>
    rcases g3 rfl with e2|e2
    ·cases e2
    ·match μ with
     | 0=>omega
     | μ+1=>
      have:=loopC (pw:=pw) (nn:=nn) hn1 hn μ l' (by omega) (by rw [hlen];exact hl);rw [NF_eq g1] at this;exact this
noncomputable def outE:List (Pm n)→Int→List (Pm n)→Int×List (Pm n)
 | [],pw,Q=>(pw,Q)
 | p::R,pw,Q=>bc (bc (decide (Q=[])) (decide (p=Pm.del n)) false) (outE R (pw+1) Q) (bc (decide (p=Pm.one n)) (outE R pw Q) (outE R pw (Q++[p])))
theorem stepE {pw:Int} {A B Q:List (Pm n)} {p:Pm n} {len:Nat} {nn nq:Bool} (hn2:2≤n) (hn:n≤12) (hl:len=A.length+1+B.length) (hz:len≤400) (hq:Q.length≤400) (h1:-1000≤pw) (h2:pw≤1000) :
  RUN (stOf (sE n pw (encR (A++p::B)) len nn (encR Q) Q.length nq A.length))=bc (bc (decide (Q=[])) (decide (p=Pm.del n)) false) (.at (sE n (pw+1) (encR (A++p::B)) len nn (encR Q) Q.length nq (A.length+1:Nat))) (bc (decide (p=Pm.one n)) (.at (sE n pw (encR (A++p::B)) len nn (encR Q) Q.length nq (A.length+1:Nat))) (.at (sE n pw (encR (A++p::B)) len nn (encR (Q++[p])) (Q++[p]).length true (A.length+1:Nat)))):=by
 rw [e_t];have e0:((A.length:Int)).toNat=A.length:=rfl;have f1:List.map (fun r=>U.int (List.headD r (U.i 0))) (U.list (List.getD (rowU p) 0 (U.i 0)))=pR p:=zcp p;have n1:(A++p::B).length=len:=by rw [List.length_append,List.length_cons];omega
 have c1:PmL (pR p)∧1≤n∧((-1:Int)=1∨(-1:Int) = -1):=⟨PmL.pR hn p,by omega,.inr rfl⟩;have c2:PmL (pR p)∧1≤n∧((1:Int)=1∨(1:Int) = -1):=⟨PmL.pR hn p,by omega,.inl rfl⟩;have e3:encR Q++[rowU p]=encR (Q++[p]):=by rw [zif];rfl
 have e4:bc nq true (Nat.blt 0 1)=true:=by cases nq <;> rfl
 rw [e0,zie,f1,zag,zbk,zbk,n1,zev,dt c1,dt c2,zpy,zpz,e3,zbk,List.length_singleton,nn_ok,e4,zad (pw+1) (by omega) (by omega)]
 cases Q with
 | nil=>
  have b0:(Int.ofNat ([]:List (Pm n)).length==0)=true:=rfl;have b1:decide (([]:List (Pm n))=[])=true:=decide_eq_true rfl;rw [b0,b1]
  by_cases g1:p=Pm.del n
  ·rw [dt g1];simp (disch:=omega) only [yS];rfl
  ·rw [df g1]
   by_cases g2:p=Pm.one n
   ·rw [dt g2];simp (disch:=omega) only [yS];rfl
   ·rw [df g2];simp (disch:=omega) only [yS];rfl
 | cons q Q=>
  have hq2:Q.length+1≤400:=hq;have b0:(Int.ofNat (q::Q).length==0)=false:=by
   rw [List.length_cons,ofn];simp;omega
  have b1:decide ((q::Q)=[])=false:=decide_eq_false (by simp);rw [b0,b1]
  by_cases g2:p=Pm.one n
  ·rw [dt g2];simp (disch:=omega) only [yS];rfl
  ·rw [df g2];simp (disch:=omega) only [yS];rfl
theorem lastE {pw:Int} {L:List (List U)} {Q:List (Pm n)} {len:Nat} {nn nq:Bool} {i:Nat} (hi:len≤i):RUN (stOf (sE n pw L len nn (encR Q) Q.length nq i)) = .done (.tup [iv pw,.lst (.recs shI (encR Q)),iv 0]) [] 0:=by
 rw [e_t,zbk];simp (disch:=omega) only [yS]
theorem loopE {len:Nat} {nn:Bool} (hn2:2≤n) (hn:n≤12) (hz:len≤400):∀ (R A Q:List (Pm n)) (pw:Int) (nq:Bool),len=A.length+R.length→Q.length≤A.length → -1000≤pw→pw+R.length≤1000→EndZ 89 ct false (stOf (sE n pw (encR (A++R)) len nn (encR Q) Q.length nq A.length)) (.tup [iv (outE R pw Q).1,.lst (.recs shI (encR (outE R pw Q).2)),iv 0]) [] 0
 | [],A,Q,pw,nq,h,hq,h1,h2=>.done (lastE (by simp at h;omega))
 | p::R,A,Q,pw,nq,h,hq,h1,h2=>by
  rw [List.length_cons] at h h2;have hs:=stepE (pw:=pw) (A:=A) (B:=R) (Q:=Q) (p:=p) (len:=len) (nn:=nn) (nq:=nq) hn2 hn (by omega) hz (by omega) h1 (by omega);have l1:(A++[p]).length=A.length+1:=by rw [List.length_append];rfl
  have a1:A++p::R=(A++[p])++R:=by rw [List.append_assoc];rfl
  unfold outE;rw [a1,← l1] at hs;rw [a1]
  by_cases g1:Q=[]∧p=Pm.del n
  ·rw [dt g1.1,dt g1.2] at hs ⊢;exact .at ct_ok hs (loopE hn2 hn hz R (A++[p]) Q (pw+1) nq (by omega) (by omega) (by omega) (by omega))
  ·have b:bc (decide (Q=[])) (decide (p=Pm.del n)) false=false:=by
    by_cases q1:Q=[]
    ·rw [dt q1,bc_t];exact decide_eq_false fun q2=>g1 ⟨q1,q2⟩
    ·rw [df q1];rfl
   rw [b,bc_f] at hs ⊢
   by_cases g2:p=Pm.one n
   ·rw [dt g2,bc_t] at hs ⊢;exact .at ct_ok hs (loopE hn2 hn hz R (A++[p]) Q pw nq (by omega) (by omega) (by omega) (by omega))
   ·rw [df g2,bc_f] at hs ⊢;exact .at ct_ok hs (loopE hn2 hn hz R (A++[p]) (Q++[p]) pw true (by omega) (by rw [List.length_append,List.length_singleton];omega) (by omega) (by omega))
theorem zi8 (hn2:2≤n) (pw:Int) (Q:List (Pm n)):∀ r:Nat,outE (List.replicate r (Pm.one n)) pw Q=(pw,Q)
 | 0=>rfl
 | r+1=>by
  rw [List.replicate_succ];unfold outE;have hne:Pm.one n≠Pm.del n:=fun e=>zt5 hn2 e.symm;rw [df hne,dt rfl,bc_t,show bc (decide (Q=[])) false false=false from by cases decide (Q=[]) <;> rfl,bc_f]
  exact zi8 hn2 pw Q r
theorem ztt (hn2:2≤n) (pw:Int) (r:Nat):∀ (F Q:List (Pm n)),(∀ p,p∈F→p≠Pm.one n)→(∀ p,p∈F→p≠Pm.del n)→outE (F++List.replicate r (Pm.one n)) pw Q=(pw,Q++F)
 | [],Q,_,_=>by
  rw [List.nil_append,List.append_nil];exact zi8 hn2 pw Q r
 | p::F,Q,h1,h2=>by
  rw [List.cons_append];unfold outE;rw [df (h2 p List.mem_cons_self),df (h1 p List.mem_cons_self),bc_f,show bc (decide (Q=[])) false false=false from by cases decide (Q=[]) <;> rfl,bc_f,ztt hn2 pw r F (Q++[p]) (fun q hq=>h1 q (List.mem_cons_of_mem _ hq)) (fun q hq=>h2 q (List.mem_cons_of_mem _ hq)),List.append_assoc]
  rfl
theorem zlw (hn2:2≤n) (r:Nat) (F:List (Pm n)) (h1:∀ p,p∈F→p≠Pm.one n) (h2:∀ p,p∈F→p≠Pm.del n):∀ (m:Nat) (pw:Int),outE (List.replicate m (Pm.del n)++(F++List.replicate r (Pm.one n))) pw []=(pw+m,F)
 | 0,pw=>by
  rw [List.replicate_zero,List.nil_append,ztt hn2 pw r F [] h1 h2,List.nil_append,show pw+((0:Nat):Int)=pw by omega]
 | m+1,pw=>by
  rw [List.replicate_succ,List.cons_append];unfold outE;rw [dt rfl,dt rfl,bc_t,bc_t,zlw hn2 r F h1 h2 m (pw+1),show pw+1+(m:Int)=pw+((m+1:Nat):Int) by omega]
theorem zr2 (w:List Int):∀ s:Int×List (Pm n),(w.foldl stepW s).2.length≤s.2.length+w.length∧s.1-w.length≤(w.foldl stepW s).1∧(w.foldl stepW s).1≤s.1:=by
 induction w with
 | nil=>intro s;exact ⟨Nat.le_refl _,by show s.1-0≤s.1;omega,Int.le_refl _⟩
 | cons x w ih=>
  intro s;have h1:=ih (stepW s x);have h2:=zis s x;rw [List.foldl_cons,List.length_cons];omega
noncomputable def npw (n:Int) (w:List Int):Int:=bc (chk n w != 0) 0 (nfW n.toNat w).pw
noncomputable def npF (n:Int) (w:List Int):List (List U):=bc (chk n w != 0) [] (encR (nfW n.toNat w).F)
theorem good {w:List Int} (hn1:1≤n) (hn:n≤12) (hw:w.length≤400) (hv:Vld n w) (nn:Bool):EndZ 89 ct false (stOf (sA n w 0 [] 0 nn (0:Nat))) (.tup [iv (nfW n w).pw,.lst (.recs shI (encR (nfW n w).F)),iv 0]) [] 0:=by
 obtain ⟨nn',h1⟩:=loopA hn hw hv w.length 0 ((0,[]):Int×List (Pm n)) nn (by omega) (Nat.le_refl _) (by simp) (Int.le_refl _);rw [List.drop_zero] at h1;have hlen:=zr2 (n:=n) w (0,[]);simp only [List.length_nil,Nat.zero_add] at hlen;have h2:=loopC (pw:=(w.foldl stepW ((0,[]):Int×List (Pm n))).1) (nn:=nn') hn1 hn _ (w.foldl stepW ((0,[]):Int×List (Pm n))).2 (Nat.le_refl _) (by omega);refine .lead h1 (.lead h2 ?_);have hrep:=zkf n w;have hrow:rowW n w=w.foldl stepW (0,[]):=rfl;rw [hrow] at hrep
 generalize hs:w.foldl stepW ((0,[]):Int×List (Pm n))=s at *;obtain ⟨m,⟨⟨r,g1⟩,g2,g3⟩,g4⟩:=hrep
 by_cases hn2:2≤n
 ·have hN:=congrArg List.length g1;rw [zmp,List.length_append,List.length_append,List.length_replicate,List.length_replicate] at hN;have h3:=loopE (len:=(NF s.2).length) (nn:=nn') hn2 hn (by rw [zmp];omega) (NF s.2) [] [] s.1 false (by simp) (Nat.le_refl _) (by omega) (by rw [zmp];omega);rw [List.nil_append] at h3;have h4:outE (NF s.2) s.1 []=((nfW n w).pw,(nfW n w).F):=by rw [g1,zlw hn2 r _ g2 g3 m s.1,g4]
  rw [h4] at h3;exact h3
 ·have hnil:w=[]:=by
   cases w with
   | nil=>rfl
   | cons x w=>
    obtain ⟨v1,v2,v3⟩:=hv x List.mem_cons_self;omega
  subst hnil;have hs2:s=(0,[]):=hs.symm;subst hs2;have e1:NF ([]:List (Pm n))=[]:=NF_of (.refl _) zkc;have e2:NF ((0,[]):Int×List (Pm n)).2=[]:=e1;rw [e2];exact .done (lastE (n:=n) (Q:=[]) (Nat.le_refl _))
theorem ends (n:Int) (w:List Int):EndZ 89 ct false (st0 89 [iv n,il w]) (.tup [iv (npw n w),.lst (.recs shI (npF n w)),iv (chk n w)]) [] 0:=by
 have h:=in_t n w;unfold npw npF
 by_cases z:chk n w=0
 ·rw [z,show ((0:Int) != 0)=false from rfl,bc_f] at h
  rw [z,show ((0:Int) != 0)=false from rfl,bc_f,bc_f]
  obtain ⟨⟨h1,h2,_,h4⟩,h3⟩:=zqn z;obtain ⟨n,rfl⟩:=Int.eq_ofNat_of_zero_le (show 0≤n by omega);exact .at ct_ok h (good (n:=n) (by omega) (by omega) h3 h4 false)
 ·have b:(chk n w != 0)=true:=by simp [z]
  rw [b,bc_t] at h;rw [b,bc_t,bc_t];exact (EndZ.done h).weak (Weak.tup (.cons (Weak.refl _) (.cons (Weak.nil _) (.cons (Weak.refl _) .nil))))
end RNrm
end
theorem zqd (x y:Int) (a b:List Int):eqLI (x::a) (y::b)=bc (x != y) false (eqLI a b):=by
 by_cases h:x=y
 ·have e:(x != y)=false:=by simp [h]
  rw [e,bc_f]
  cases hq:eqLI a b with
  | true=>rw [h,zbe.1 hq,zbe.2 rfl]
  | false=>
   cases hx:eqLI (x::a) (y::b) with
   | false=>rfl
   | true=>
    have:=List.cons.inj (zbe.1 hx);rw [zbe.2 this.2] at hq;cases hq
 ·have e:(x != y)=true:=by simp [h]
  rw [e,bc_t]
  cases hx:eqLI (x::a) (y::b) with
  | false=>rfl
  | true=>exact absurd (List.cons.inj (zbe.1 hx)).1 h
theorem zs0 {a b:List Int} (h:a.length≠b.length):eqLI a b=false:=by
 cases hx:eqLI a b with
 | false=>rfl
 | true=>exact absurd (congrArg List.length (zbe.1 hx)) h
namespace RSin
noncomputable def RUN (s:ES):ZF:=RZ 47 .nil (atS 0 47 4) [] [[(0,none),(1,none),(5,none)]] false s
noncomputable def sS (a b:List Int) (i:Int):NS:=⟨[⟨47,26,[(0,(il a)),(1,(il b)),(5,iv i)],[.it (.code (nav [1,1,0,1,0,0,0] (bodyOf Try.f47))),.it (.code (nav [1,1,0,1,0,0,1] (bodyOf Try.f47))),.it (.inLoop (nav [1,1,0,1,0,0] (bodyOf Try.f47))),.it (.inBlock 0),.it (.code (nav [1,1,1] (bodyOf Try.f47)))],[],Option.none⟩],[],0⟩
theorem in_t (a b:List Int):RUN (st0 47 [il a,il b])=(bc (Int.ofNat a.length != Int.ofNat b.length) (.done (bv false) [] 0) (.at (sS a b 0))):=by kernel_rfl
theorem step_t (a b:List Int) (i:Int):RUN (stOf (sS a b i))=(bc (decide (i<Int.ofNat a.length)) (bc (bc (bc (bc (bc (decide (0≤i)) (Nat.blt i.toNat a.length) false) true false) (bc (bc (Nat.blt i.toNat a.length) true false) (bc (bc (bc (decide (0≤i)) (Nat.blt i.toNat b.length) false) true false) (bc (bc (Nat.blt i.toNat b.length) true false) true false) false) false) false) true false) (bc (a.getD i.toNat 0 != b.getD i.toNat 0) (.done (bv false) [] 0) (.at (sS a b (IntKind.i64.wrap (i+1))))) .bad) (.done (bv true) [] 0)):=by kernel_rfl
theorem loop {a b:List Int} (hl:a.length=b.length) (hz:a.length≤100000):∀ (k i:Nat),i+k=a.length→EndZ 47 .nil false (stOf (sS a b i)) (bv (eqLI (a.drop i) (b.drop i))) [] 0
 | 0,i,h=>by
  have hs:=step_t a b i;rw [List.drop_eq_nil_of_le (by omega),List.drop_eq_nil_of_le (by omega),zbe.2 rfl];simp (disch:=omega) only [yS] at hs;exact .done hs
 | k+1,i,h=>by
  have hi:i<a.length:=by omega
  have hi2:i<b.length:=by omega
  have hs:=step_t a b i;have e1:a.getD i 0=a[i]:=zae hi;have e2:b.getD i 0=b[i]:=zae hi2;rw [zn7,e1,e2] at hs;rw [List.drop_eq_getElem_cons hi,List.drop_eq_getElem_cons hi2,zqd];simp (disch:=omega) only [yS] at hs
  cases hq:a[i] != b[i] with
  | true=>rw [hq] at hs;exact .done hs
  | false=>rw [hq] at hs;exact .at (.nil _) hs (loop hl hz k (i+1) (by omega))
theorem ends {a b:List Int} (hz:a.length≤100000):EndZ 47 .nil false (st0 47 [il a,il b]) (bv (eqLI a b)) [] 0:=by
 have h:=in_t a b
 by_cases hl:a.length=b.length
 ·have e:(Int.ofNat a.length != Int.ofNat b.length)=false:=by simp [hl]
  rw [e,bc_f] at h;exact .at (.nil _) h (loop hl hz a.length 0 (by omega))
 ·have e:(Int.ofNat a.length != Int.ofNat b.length)=true:=by simp;omega
  rw [e,bc_t] at h;rw [zs0 hl];exact .done h
end RSin
noncomputable def spRSin:ZCT:=fun ax=>match ax with
 | [.lst (.ints .i64 a),.lst (.ints .i64 b)]=>some ⟨decide (a.length≤100000),bv (eqLI a b),[],0⟩
 | _=>none
theorem zoi:ZCtOk Try.prog 47 spRSin:=fun γ w us ax r hs hc hax hN hfz=>by
 unfold spRSin at hs;split at hs
 case h_2=>cases hs
 rename_i a b;obtain ⟨rfl⟩:=Option.some.inj hs;have hc_0:decide (a.length≤100000)=true:=hc;have hc:=of_decide_eq_true hc_0;exact EndZ.calls (RSin.ends hc) (.nil _) (by kernel_rfl) hax hN hfz
noncomputable def sfB:List (List U)→List (List U)→Bool
 | [],[]=>true
 | r::A,q::B=>bc (eqLI (facR r) (facR q)) (sfB A B) false
 | _,_=>false
theorem zot:∀ {A B:List (List U)},A.length≠B.length→sfB A B=false
 | [],[],h=>absurd rfl h
 | [],q::B,_=>rfl
 | r::A,[],_=>rfl
 | r::A,q::B,h=>by
  have:sfB A B=false:=zot fun e=>h (by rw [List.length_cons,List.length_cons,e]);unfold sfB;rw [this];cases eqLI (facR r) (facR q) <;> rfl
theorem zhf {n:Nat}:∀ (F G:List (Pm n)),sfB (encR F) (encR G)=true↔F=G
 | [],[]=>⟨fun _=>rfl,fun _=>rfl⟩
 | [],q::G=>⟨fun h=>(by cases h),fun h=>(by cases h)⟩
 | p::F,[]=>⟨fun h=>(by cases h),fun h=>(by cases h)⟩
 | p::F,q::G=>by
  show bc (eqLI (facR (rowU p)) (facR (rowU q))) (sfB (encR F) (encR G)) false=true↔_;rw [zcp,zcp];constructor
  ·intro h
   cases hq:eqLI (pR p) (pR q) with
   | false=>rw [hq] at h;cases h
   | true=>
    rw [hq,bc_t] at h;rw [zts (zbe.1 hq),(zhf F G).1 h]
  ·intro h;injection h with h1 h2
   subst h1;rw [zbe.2 rfl,bc_t];exact (zhf F G).2 h2
namespace RSfo
noncomputable def ct:Tr ZCC:=Tr.nil.put 47 (some (dC spRSin))
theorem ct_ok:ZCtsOk Try.prog ct:=(ZCtsOk.nil _).add rfl zoi
noncomputable abbrev ll (A:List (List U)):EV:=.lst (.recs [.list [.int .i64]] A)
noncomputable def RUN (s:ES):ZF:=RZ 28 ct (atS 0 28 4) [] [[(0,none),(1,none),(5,none)]] false s
noncomputable def sS (A B:List (List U)) (i:Int):NS:=⟨[⟨28,27,[(0,(EV.lst (SyC.recs [(Sh.list [(Sh.int IntKind.i64)])] A))),(1,(EV.lst (SyC.recs [(Sh.list [(Sh.int IntKind.i64)])] B))),(5,iv i)],[.it (.code (nav [1,1,0,1,0,0,0] (bodyOf Try.f28))),.it (.code (nav [1,1,0,1,0,0,1] (bodyOf Try.f28))),.it (.inLoop (nav [1,1,0,1,0,0] (bodyOf Try.f28))),.it (.inBlock 0),.it (.code (nav [1,1,1] (bodyOf Try.f28)))],[],Option.none⟩],[],0⟩
theorem in_t (A B:List (List U)):RUN (st0 28 [ll A,ll B])=(bc (Int.ofNat A.length != Int.ofNat B.length) (.done (bv false) [] 0) (.at (sS A B 0))):=by kernel_rfl
theorem step_t (A B:List (List U)) (i:Int):RUN (stOf (sS A B i))=(bc (decide (i<Int.ofNat A.length)) (bc (bc (bc (bc (bc (decide (0≤i)) (Nat.blt i.toNat A.length) false) true false) (bc (bc (Nat.blt i.toNat A.length) true false) (bc (bc (bc (decide (0≤i)) (Nat.blt i.toNat B.length) false) true false) (bc (bc (Nat.blt i.toNat B.length) true false) (bc (bc (decide ((List.map (fun r=>U.int (List.headD r (U.i 0))) (U.list ((A.getD i.toNat []).getD 0 (U.i 0)))).length≤100000)) true false) true false) false) false) false) false) true false) (bc (!eqLI (List.map (fun r=>U.int (List.headD r (U.i 0))) (U.list ((A.getD i.toNat []).getD 0 (U.i 0)))) (List.map (fun r=>U.int (List.headD r (U.i 0))) (U.list ((B.getD i.toNat []).getD 0 (U.i 0))))) (.done (bv false) [] 0) (.at (sS A B (IntKind.i64.wrap (i+1))))) .bad) (.done (bv true) [] 0)):=by kernel_rfl
theorem loop {A B:List (List U)} (hl:A.length=B.length) (hz:Shrt A):∀ (k i:Nat),i+k=A.length→EndZ 28 ct false (stOf (sS A B i)) (bv (sfB (A.drop i) (B.drop i))) [] 0
 | 0,i,h=>by
  have hs:=step_t A B i;have hz1:=hz.1;rw [List.drop_eq_nil_of_le (by omega),List.drop_eq_nil_of_le (by omega)];simp (disch:=omega) only [yS] at hs;exact .done hs
 | k+1,i,h=>by
  have hi:i<A.length:=by omega
  have hi2:i<B.length:=by omega
  have hz1:=hz.1;have hs:=step_t A B i;have e1:A.getD i []=A[i]:=zae hi;have e2:B.getD i []=B[i]:=zae hi2;have f1:∀ r:List U,List.map (fun r=>U.int (List.headD r (U.i 0))) (U.list (List.getD r 0 (U.i 0)))=facR r:=fun _=>rfl;rw [zn7,e1,e2,f1,f1,dt (hz.2 _ (List.getElem_mem hi))] at hs;rw [List.drop_eq_getElem_cons hi,List.drop_eq_getElem_cons hi2];unfold sfB
  simp (disch:=omega) only [yS] at hs
  cases hq:eqLI (facR A[i]) (facR B[i]) with
  | false=>rw [hq] at hs;exact .done hs
  | true=>rw [hq] at hs;exact .at ct_ok hs (loop hl hz k (i+1) (by omega))
theorem ends {A B:List (List U)} (hz:Shrt A):EndZ 28 ct false (st0 28 [ll A,ll B]) (bv (sfB A B)) [] 0:=by
 have h:=in_t A B
 by_cases hl:A.length=B.length
 ·have e:(Int.ofNat A.length != Int.ofNat B.length)=false:=by simp [hl]
  rw [e,bc_f] at h;exact .at ct_ok h (loop hl hz A.length 0 (by omega))
 ·have e:(Int.ofNat A.length != Int.ofNat B.length)=true:=by simp;omega
  rw [e,bc_t] at h;rw [zot hl];exact .done h
theorem shrt_enc {n:Nat} (hn:n≤100) {F:List (Pm n)} (hF:F.length≤5000):Shrt (encR F):=⟨by rw [zbk];exact hF,fun r hr=>by
 obtain ⟨p,_,rfl⟩:=List.mem_map.1 hr;rw [zcp,zag];omega⟩
end RSfo
noncomputable def spRSfo:ZCT:=fun ax=>match ax with
 | [.lst (.recs [.list [.int .i64]] A),.lst (.recs [.list [.int .i64]] B)]=>some ⟨decide (Shrt A),bv (sfB A B),[],0⟩
 | _=>none
theorem zoj:ZCtOk Try.prog 28 spRSfo:=fun γ w us ax r hs hc hax hN hfz=>by
 unfold spRSfo at hs;split at hs
 case h_2=>cases hs
 rename_i A B;obtain ⟨rfl⟩:=Option.some.inj hs;have hc_0:decide (Shrt A)=true:=hc;have hc:=of_decide_eq_true hc_0;exact EndZ.calls (RSfo.ends hc) RSfo.ct_ok (by kernel_rfl) hax hN hfz
theorem zr3 {s:ES} (n:Int) (h:RZ 89 RNrm.ct (fun _=>false) [] [] false s=bc (chk n [] != 0) (.done (.tup [iv 0,.v (.slice none 0 0),iv (chk n [])]) [] 0) (.done (.tup [iv 0,.v (.slice none 0 0),iv 0]) [] 0)):EndZ 89 RNrm.ct false s (.tup [iv (RNrm.npw n []),.lst (.recs [.list [.int .i64]] (RNrm.npF n [])),iv (chk n [])]) [] 0:=by
 unfold RNrm.npw RNrm.npF
 by_cases z:chk n []=0
 ·rw [z,show ((0:Int) != 0)=false from rfl,bc_f] at h
  rw [z,show ((0:Int) != 0)=false from rfl,bc_f,bc_f]
  exact (EndZ.done h).weak (Weak.tup (.cons (Weak.refl _) (.cons (Weak.nil _) (.cons (Weak.refl _) .nil))))
 ·have b:(chk n [] != 0)=true:=by simp [z]
  rw [b,bc_t] at h;rw [b,bc_t,bc_t];exact (EndZ.done h).weak (Weak.tup (.cons (Weak.refl _) (.cons (Weak.nil _) (.cons (Weak.refl _) .nil))))
noncomputable def spRNrm_0:ZCT:=fun ax=>match ax with
 | [.v (.int .i64 n),.lst (.ints .i64 w)]=>some ⟨decide (True),.tup [iv (RNrm.npw n w),.lst (.recs [.list [.int .i64]] (RNrm.npF n w)),iv (chk n w)],[],0⟩
 | _=>none
theorem zjz:ZCtOk Try.prog 89 spRNrm_0:=fun γ w us ax r hs hc hax hN hfz=>by
 unfold spRNrm_0 at hs;split at hs
 case h_2=>cases hs
 rename_i n w;obtain ⟨rfl⟩:=Option.some.inj hs;have hc_0:decide (True)=true:=hc;have hc:=of_decide_eq_true hc_0;exact EndZ.calls (RNrm.ends n w) RNrm.ct_ok (by kernel_rfl) hax hN hfz
noncomputable def spRNrm_1:ZCT:=fun ax=>match ax with
 | [.v (.int .i64 n),.v (.slice none 0 0)]=>some ⟨decide (True),.tup [iv (RNrm.npw n []),.lst (.recs [.list [.int .i64]] (RNrm.npF n [])),iv (chk n [])],[],0⟩
 | _=>none
theorem zjy:ZCtOk Try.prog 89 spRNrm_1:=fun γ w us ax r hs hc hax hN hfz=>by
 unfold spRNrm_1 at hs;split at hs
 case h_2=>cases hs
 rename_i n;obtain ⟨rfl⟩:=Option.some.inj hs;have hc_0:decide (True)=true:=hc;have hc:=of_decide_eq_true hc_0;exact EndZ.calls (zr3 n (RNrm.nil_t n)) RNrm.ct_ok (by kernel_rfl) hax hN hfz
noncomputable def spRNrm:ZCT:=ZCT.or spRNrm_0 (spRNrm_1)
theorem zol:ZCtOk Try.prog 89 spRNrm:=zjz.or (zjy)
namespace RSam
noncomputable def ct:Tr ZCC:=((Tr.nil.put 42 (some (dC spRChk))).put 89 (some (dC spRNrm))).put 28 (some (dC spRSfo))
theorem ct_ok:ZCtsOk Try.prog ct:=(((ZCtsOk.nil _).add rfl ziw).add rfl zol).add rfl zoj
noncomputable def RUN (s:ES):ZF:=RZ 32 ct (fun _=>false) [] [] false s
theorem in_t (n:Int) (a b:List Int):RUN (st0 32 [iv n,il a,il b])=(bc (chk n a != 0) (bc (chk n a != 0) (.done (EV.tup [(bv false),(iv (chk n a))]) [] 0) (bc (RNrm.npw n a==RNrm.npw n b) (bc (bc (decide (Shrt (RNrm.npF n a))) true false) (.done (EV.tup [(bv (sfB (RNrm.npF n a) (RNrm.npF n b))),(iv (0))]) [] 0) .bad) (.done (EV.tup [(bv false),(iv (0))]) [] 0))) (bc (chk n b != 0) (.done (EV.tup [(bv false),(iv (chk n b))]) [] 0) (bc (RNrm.npw n a==RNrm.npw n b) (bc (bc (decide (Shrt (RNrm.npF n a))) true false) (.done (EV.tup [(bv (sfB (RNrm.npF n a) (RNrm.npF n b))),(iv (0))]) [] 0) .bad) (.done (EV.tup [(bv false),(iv (0))]) [] 0)))):=by kernel_rfl
theorem nil_t (n:Int) (a:List Int):RUN (st0 32 [iv n,il a,.v (.slice none 0 0)])=(bc (chk n a != 0) (bc (chk n a != 0) (.done (EV.tup [(bv false),(iv (chk n a))]) [] 0) (bc (RNrm.npw n a==RNrm.npw n []) (bc (bc (decide (Shrt (RNrm.npF n a))) true false) (.done (EV.tup [(bv (sfB (RNrm.npF n a) (RNrm.npF n []))),(iv (0))]) [] 0) .bad) (.done (EV.tup [(bv false),(iv (0))]) [] 0))) (bc (chk n [] != (0:Int)) (.done (EV.tup [(bv false),(iv (chk n []))]) [] 0) (bc (RNrm.npw n a==RNrm.npw n []) (bc (bc (decide (Shrt (RNrm.npF n a))) true false) (.done (EV.tup [(bv (sfB (RNrm.npF n a) (RNrm.npF n []))),(iv (0))]) [] 0) .bad) (.done (EV.tup [(bv false),(iv (0))]) [] 0)))):=by kernel_rfl
theorem core {n:Int} {a b:List Int} (z1:chk n a=0) (z2:chk n b=0):bc (RNrm.npw n a==RNrm.npw n b) (sfB (RNrm.npF n a) (RNrm.npF n b)) false=samB n a b∧samE n a b=0∧Shrt (RNrm.npF n a):=by
 have e1:samE n a b=0:=by unfold samE;rw [z1,z2];rfl
 obtain ⟨w1,_⟩:=zqn z1;have h2:=w1.2.1;unfold samB;rw [e1,show ((0:Int) != 0)=false from rfl,bc_f]
 unfold RNrm.npw RNrm.npF;rw [z1,z2,show ((0:Int) != 0)=false from rfl,bc_f,bc_f,bc_f,bc_f]
 refine ⟨?_,rfl,RSfo.shrt_enc (by omega) (zsb w1)⟩;unfold sameN
 by_cases h1:(nfW n.toNat a).pw=(nfW n.toNat b).pw
 ·rw [show ((nfW n.toNat a).pw==(nfW n.toNat b).pw)=true by simp [h1],bc_t]
  by_cases h2:(nfW n.toNat a).F=(nfW n.toNat b).F
  ·rw [(zhf _ _).2 h2];exact (decide_eq_true (Frm.ext h1 h2)).symm
  ·have:sfB (encR (nfW n.toNat a).F) (encR (nfW n.toNat b).F)=false:=by
    cases h:sfB (encR (nfW n.toNat a).F) (encR (nfW n.toNat b).F) with
    | false=>rfl
    | true=>exact absurd ((zhf _ _).1 h) h2
   rw [this];exact (decide_eq_false fun e=>h2 (by rw [e])).symm
 ·rw [show ((nfW n.toNat a).pw==(nfW n.toNat b).pw)=false by simp [h1],bc_f];exact (decide_eq_false fun e=>h1 (by rw [e])).symm
theorem fin {n:Int} {a b:List Int} {s:ES} (h:RUN s=bc (chk n a != 0)
  (bc (chk n a != 0) (.done (.tup [bv false,iv (chk n a)]) [] 0) (bc (RNrm.npw n a==RNrm.npw n b) (bc (bc (decide (Shrt (RNrm.npF n a))) true false) (.done (.tup [bv (sfB (RNrm.npF n a) (RNrm.npF n b)),iv 0]) [] 0) .bad) (.done (.tup [bv false,iv 0]) [] 0)))
  (bc (chk n b != 0) (.done (.tup [bv false,iv (chk n b)]) [] 0) (bc (RNrm.npw n a==RNrm.npw n b) (bc (bc (decide (Shrt (RNrm.npF n a))) true false) (.done (.tup [bv (sfB (RNrm.npF n a) (RNrm.npF n b)),iv 0]) [] 0) .bad) (.done (.tup [bv false,iv 0]) [] 0)))):EndZ 32 ct false s (.tup [bv (samB n a b),iv (samE n a b)]) [] 0:=by
 by_cases z1:chk n a=0
 ·rw [z1,show ((0:Int) != 0)=false from rfl,bc_f] at h
  by_cases z2:chk n b=0
  ·obtain ⟨h1,h2,h3⟩:=core z1 z2;rw [z2,show ((0:Int) != 0)=false from rfl,bc_f,dt h3] at h
   rw [h2,← h1]
   cases hq:(RNrm.npw n a==RNrm.npw n b) with
   | true=>rw [hq] at h;exact .done h
   | false=>rw [hq] at h;exact .done h
  ·have b2:(chk n b != 0)=true:=by simp [z2]
   have e1:samE n a b=chk n b:=by unfold samE;rw [z1];rfl
   rw [b2,bc_t] at h;unfold samB;rw [e1,b2,bc_t];exact .done h
 ·have b1:(chk n a != 0)=true:=by simp [z1]
  have e1:samE n a b=chk n a:=by unfold samE;rw [b1,bc_t]
  rw [b1,bc_t,bc_t] at h;unfold samB;rw [e1,b1,bc_t];exact .done h
end RSam
noncomputable def spRSam_0:ZCT:=fun ax=>match ax with
 | [.v (.int .i64 n),.lst (.ints .i64 a),.lst (.ints .i64 b)]=>some ⟨decide (True),.tup [bv (samB n a b),iv (samE n a b)],[],0⟩
 | _=>none
theorem zjx:ZCtOk Try.prog 32 spRSam_0:=fun γ w us ax r hs hc hax hN hfz=>by
 unfold spRSam_0 at hs;split at hs
 case h_2=>cases hs
 rename_i n a b;obtain ⟨rfl⟩:=Option.some.inj hs;have hc_0:decide (True)=true:=hc;have hc:=of_decide_eq_true hc_0;exact EndZ.calls (RSam.fin (RSam.in_t n a b)) RSam.ct_ok (by kernel_rfl) hax hN hfz
noncomputable def spRSam_1:ZCT:=fun ax=>match ax with
 | [.v (.int .i64 n),.lst (.ints .i64 a),.v (.slice none 0 0)]=>some ⟨decide (True),.tup [bv (samB n a []),iv (samE n a [])],[],0⟩
 | _=>none
theorem zjw:ZCtOk Try.prog 32 spRSam_1:=fun γ w us ax r hs hc hax hN hfz=>by
 unfold spRSam_1 at hs;split at hs
 case h_2=>cases hs
 rename_i n a;obtain ⟨rfl⟩:=Option.some.inj hs;have hc_0:decide (True)=true:=hc;have hc:=of_decide_eq_true hc_0;exact EndZ.calls (RSam.fin (RSam.nil_t n a)) RSam.ct_ok (by kernel_rfl) hax hN hfz
noncomputable def spRSam:ZCT:=ZCT.or spRSam_0 (spRSam_1)
theorem zok:ZCtOk Try.prog 32 spRSam:=zjx.or (zjw)
end Go.Proofs.Ytooimphimnagaaa.Ev

namespace Go.Proofs.Ytooimphimnagaaa
open Go.ChangeShapes Go.WideShapes Go.ChangeAt Go.RowKit
theorem zh4 {W W':World} (h:Ev.Stays W W') (may:MemPlace→Prop):W.keptBut W' may:=by
 refine ⟨h.os,h.output,fun i hi=>?_⟩;have e:=h.block i hi;rw [e]
 cases hb:W.heap[i]? with
 | none=>simp
 | some o=>
  cases o <;> first|exact ⟨rfl,rfl,rfl,fun _ _=>rfl⟩|exact .inr ⟨rfl,rfl⟩|rfl
theorem zga {W W':World} (h:Ev.Stays W W') (a:Addr) (ha:a.block<W.heap.size):W'.frozen? a=W.frozen? a:=by
 unfold World.frozen?;rw [h.block _ ha]
section
variable {H:Type} {enc:TypeId×Value→H} {P:Program}
theorem zhs {f:Func} {s:ChangeSpec} {apart fresh handsOn again:Bool} {W W':World} {args:Array Value} {v:Value} {ds gs:List (DataW H)} {before pa pv:List MemPlace}
  (hW:DataW.Whole enc P f.params.toList s.vars apart W args.toList ds gs before)
  (hres:∀ (b:Nat) (sp:Nat→Bool) (hd:Bool),DataW.TrodAll enc P W' b sp hd f.resultTypes.toList (v.resultList f.resultTypes.size) (s.fn H (ds++gs)).results [])
  (hargs:∀ sp:Nat→Bool,(∀ p∈before,sp p.block=true)→DataW.TrodAll enc P W' 0 sp true f.params.toList args.toList (s.fn H (ds++gs)).args pa)
  (hvars:∀ sp:Nat→Bool,(∀ p∈before,sp p.block=true)→DataW.TrodVars enc P W' sp s.vars (s.fn H (ds++gs)).vars pv)
  (hps:before=pa++pv) (hst:Ev.Stays W W')
  (hok:∀ (j:Nat) (t:TypeId) (r:Value),f.resultTypes[j]? = some t→(v.resultList f.resultTypes.size)[j]? = some r→Value.okWide P W' .any 0 t r) :
  s.post enc P f apart fresh handsOn again W args v W':=by
 have hk:W.keptBut W' (· ∈ before):=zh4 hst _;have hold:∀ p∈before,(fun b=>decide (b<W.heap.size)) p.block=true:=fun p hp=>by simpa using hW.lt p hp
 have hlt:=fun p hp=>hW.lt p hp;refine ⟨ds,gs,before,[],pa,pv,hW,hres _ _ _,hargs _ hold,hvars _ hold,World.keptBut_mono (fun p hp=>⟨hp,?_⟩) hk,fun _=>?_⟩
 ·rw [hps,List.mem_append] at hp;exact Or.inr hp
 ·obtain ⟨_,_,_,_,_,hz,hn⟩:=hW;refine ⟨hok,_,_,([]++pa)++pv,⟨[]++pa,pv,trodAll_append (hargs _ (fun _ _=>rfl)) (hres _ _ _),hvars _ (fun _ _=>rfl),rfl,?_,?_⟩,?_⟩
  ·intro b off hp;have hp2:MemPlace.cell b off∈before:=by rw [hps];simpa using hp
   rw [zga hst _ (hlt _ hp2)];exact hz b off hp2
  ·intro ha;have:=hn ha;rw [hps] at this;simpa using this
  ·intro p hp _;rw [hps];simpa using hp
end
end Go.Proofs.Ytooimphimnagaaa
namespace Go.Proofs.Ytooimphimnagaaa
open Go.ChangeShapes Go.WideShapes Go.ChangeAt Go.RowKit
section
variable {H:Type} {enc:TypeId×Value→H} {P:Program}
theorem zhg {W W':World} (h:Ev.Stays W W') {p:MemPlace} (hp:p.block<W.heap.size):W.sameAt W' p:=by
 cases p with
 | cell b off=>
  show W'.cell? _=W.cell? _;unfold World.cell?;rw [h.block b hp]
 | map b=>exact h.block b hp
theorem zg6 {W W':World} {base:Nat} {sp:Nat→Bool} {hd:Bool}:∀ {ts:List TypeId} {vs:List Value} {ds:List (DataW H)} {ps:List MemPlace},DataW.TrodAll enc P W base sp hd ts vs ds ps→(∀ p∈ps,W.sameAt W' p)→DataW.TrodAll enc P W' base sp hd ts vs ds ps
 | [],[],[],_,h,_=>h
 | _::_,_::_,_::_,_,⟨p,q,⟨n,h⟩,hs,e⟩,k=>⟨p,q,⟨n,DataW.trod_carry n _ _ _ h fun x hx=>k x (by rw [e];exact List.mem_append_left _ hx)⟩,zg6 hs fun x hx=>k x (by rw [e];exact List.mem_append_right _ hx),e⟩
 | [],[],_::_,_,h,_=>h.elim
 | [],_::_,_,_,h,_=>h.elim
 | _::_,[],_,_,h,_=>h.elim
 | _::_,_::_,[],_,h,_=>h.elim
theorem zr7 {f:Func} {s:ChangeSpec} {apart fresh handsOn again:Bool} {W W':World} {args:Array Value} {ds:List (DataW H)} {p:List MemPlace} {bt:TypeId} {T:TypeId→Prop} (K:Kids P T) (hz:∀ t e,T t→P.underlying t=some (.slice e)→0<P.cellsOf e)
  (hbt:P.underlying bt=some .bool) (hrt:f.resultTypes.toList=[bt]) (hsz:f.resultTypes.size=1) (hvs:s.vars=[]) (hfn:s.fn H (ds++[])={ results:=[.lit (.bool true)],args:=ds })
  (hpt:∀ t∈f.params.toList,T t)
  (hW:DataW.Whole enc P f.params.toList s.vars apart W args.toList ds [] (p++[])) (hA:DataW.TrodAll enc P W 0 (fun _=>true) true f.params.toList args.toList ds p) (hst:Ev.Stays W W')
  (hok:∀ (j:Nat) (t:TypeId) (r:Value),f.resultTypes[j]? = some t→((Value.bool true).resultList f.resultTypes.size)[j]? = some r→Value.okWide P W' .any 0 t r) :
  s.post enc P f apart fresh handsOn again W args (.bool true) W':=by
 have hlt:=fun q hq=>hW.lt q hq;refine zhs (pa:=p) (pv:=[]) hW (fun b sp hd=>?_) (fun sp hsp=>?_) (fun sp _=>?_) rfl hst hok
 ·rw [hrt,hfn,hsz];exact trodAll_mk1 (shut_bool hbt _)
 ·rw [hfn];exact DataW.TrodAll.respare K hz hpt (zg6 hA fun q hq=>zhg hst (hlt q (by simpa using hq))) fun q hq=>hsp q (by simpa using hq)
 ·rw [hfn,hvs];rfl
end
namespace Ev
inductive UFit:Sh→U→Prop where
 | int (k:IntKind) (n:Int) (h:(Lit.int k n).wf=true):UFit (.int k) (.i n)
 | bool (b:Bool):UFit .bool (.b b)
 | str (s:ByteArray) (h:s.size≤maxLen):UFit .str (.s s)
 | list (sh:List Sh) (l:List (List U)) (hl:l.length≤maxLen) (hr:∀ j,j<l.length→(l.getD j []).length=sh.length) (h:∀ (j f:Nat) (s:Sh),j<l.length→sh[f]? = some s→UFit s ((l.getD j []).getD f (.i 0))):UFit (.list sh) (.l l)
structure RowFit (sh:List Sh) (r:List U):Prop where
 len:r.length=sh.length
 fit:∀ (f:Nat) (s:Sh),sh[f]? = some s→UFit s (r.getD f (.i 0))
theorem RowFit.nil:RowFit [] []:=⟨rfl,fun f s h=>by simp at h⟩
theorem RowFit.append {sh1 sh2:List Sh} {r1 r2:List U} (h1:RowFit sh1 r1) (h2:RowFit sh2 r2):RowFit (sh1++sh2) (r1++r2):=by
 refine ⟨by simp [h1.len,h2.len],fun f s h=>?_⟩;rw [List.getD_eq_getElem?_getD]
 by_cases hf:f<sh1.length
 ·rw [List.getElem?_append_left hf] at h;rw [List.getElem?_append_left (by rw [h1.len];exact hf),← List.getD_eq_getElem?_getD];exact h1.fit f s h
 ·rw [List.getElem?_append_right (by omega)] at h;rw [List.getElem?_append_right (by rw [h1.len];omega),h1.len,← List.getD_eq_getElem?_getD];exact h2.fit _ s h
theorem zhp:∀ {sh1 sh2:List Sh} {r1 r2:List U},r1.length=sh1.length→recE (sh1++sh2) (r1++r2)=recE sh1 r1++recE sh2 r2
 | [],sh2,r1,r2,h=>by
  have:r1=[]:=List.eq_nil_of_length_eq_zero h;subst this;rfl
 | s::sh1,sh2,[],r2,h=>by cases h
 | s::sh1,sh2,u::r1,r2,h=>by
  show s.ev u::recE (sh1++sh2) (r1++r2)=s.ev u::(recE sh1 r1++recE sh2 r2);rw [zhp (by simpa using h)]
def shFs (P:Program) (f:TypeId→Option (List Sh)):List Field→Nat→Option (List Sh)
 | [],_=>some []
 | fd::r,off=>match f fd.type with
  | some sh=>if fd.offset=off∧P.cellsOf fd.type=sh.length then match shFs P f r (off+sh.length) with
   | some l=>some (sh++l)
   | none=>none else none
  | none=>none
def shB (P:Program):Nat→TypeId→Option (List Sh)
 | 0,_=>none
 | k+1,t=>match P.underlying t with
  | some (.int κ)=>some [.int κ]
  | some .bool=>some [.bool]
  | some .string=>some [.str]
  | some (.slice e)=>match shB P k e with
   | some sh=>if P.cellsOf e=sh.length∧0<sh.length then some [.list sh] else none
   | none=>none
  | some (.struct fs)=>match shFs P (shB P k) fs.toList 0 with
   | some sh=>if P.cellsOf t=sh.length then some sh else none
   | none=>none
  | some (.array m e)=>match shB P k e with
   | some sh=>if P.cellsOf e=sh.length∧P.cellsOf t=m*sh.length then some (List.replicate m sh).flatten else none
   | none=>none
  | _=>none
noncomputable def fzAll (W:World):Nat→Option (Array Value):=fun k=>match W.heap[k]? with
 | some (.cells a _ _)=>some a
 | _=>none
noncomputable def gAll (W:World):G:=⟨fun _=>none,fzAll W,fun _ _ _=>none⟩
theorem fzAll_at (W:World):FzAt (gAll W) W:=⟨fun k a hk=>(by
 have hk:fzAll W k=some a:=hk;unfold fzAll at hk;split at hk
 ·rename_i a' ty fz h;injection hk with hk;subst hk
  exact ⟨ty,fz,h⟩
 ·cases hk),fun _ _ _=>rfl⟩
theorem zpp {Q:Nat→List U→Prop}:∀ (n:Nat),(∀ i,i<n→∃ r,Q i r)→∃ l:List (List U),l.length=n∧∀ i,i<n→Q i (l.getD i [])
 | 0,_=>⟨[],rfl,fun i hi=>absurd hi (by omega)⟩
 | n+1,h=>by
  obtain ⟨l,h1,h2⟩:=zpp n fun i hi=>h i (by omega);obtain ⟨r,hr⟩:=h n (by omega);refine ⟨l++[r],by simp [h1],fun i hi=>?_⟩;rw [List.getD_eq_getElem?_getD]
  by_cases e:i<n
  ·rw [List.getElem?_append_left (by omega),← List.getD_eq_getElem?_getD];exact h2 i e
  ·have:i=n:=by omega
   subst this;rw [List.getElem?_append_right (by omega),h1,Nat.sub_self];exact hr
variable {H:Type} {enc:TypeId×Value→H} {P:Program} {W:World} {base:Nat} {sp:Nat→Bool} {hd:Bool}
def OpenAt (enc:TypeId×Value→H) (P:Program) (W:World) (base:Nat) (sp:Nat→Bool) (hd:Bool) (k:Nat):Prop:=∀ (t:TypeId) (sh:List Sh) (fuel:Nat) (cs:List Value) (x:DataW H×List MemPlace),shB P k t=some sh→DataW.trod enc P W base sp hd fuel t cs=some x→∃ r,RowFit sh r∧∀ γ:G,γ.fz=fzAll W→ECL γ (recE sh r) cs
theorem zgd {k:Nat} (ih:OpenAt enc P W base sp hd k) {cs:List Value} {n:Nat}:∀ (fs:List Field) (off:Nat) (sh:List Sh),shFs P (shB P k) fs off=some sh→(∀ f,f∈fs→∃ y,DataW.trod enc P W base sp hd n f.type ((cs.drop f.offset).take (P.cellsOf f.type))=some y)→∃ r,RowFit sh r∧∀ γ:G,γ.fz=fzAll W→ECL γ (recE sh r) ((cs.drop off).take sh.length)
 | [],off,sh,h,_=>by
  injection (show some []=some sh from h) with h;subst h
  exact ⟨[],.nil,fun γ _=>by
   rw [show ([]:List Sh).length=0 from rfl,List.take_zero];exact ECL.nil γ⟩
 | fd::fs,off,sh,h,hall=>by
  unfold shFs at h;split at h
  case h_2=>cases h
  rename_i s1 hs1;split at h
  case isFalse=>cases h
  rename_i hc;split at h
  case h_2=>cases h
  rename_i s2 hs2;injection h with h;subst h
  obtain ⟨y,hy⟩:=hall fd (by simp);rw [hc.1,hc.2] at hy;obtain ⟨r1,h1,h2⟩:=ih fd.type s1 n _ y hs1 hy;obtain ⟨r2,h3,h4⟩:=zgd ih fs (off+s1.length) s2 hs2 fun f hf=>hall f (by simp [hf]);refine ⟨r1++r2,h1.append h3,fun γ hγ=>?_⟩;rw [zhp h1.len,List.length_append];have e:(cs.drop off).take (s1.length+s2.length)=(cs.drop off).take s1.length++(cs.drop (off+s1.length)).take s2.length:=by
   rw [List.take_add,List.drop_drop]
  rw [e];exact (h2 γ hγ).append (h4 γ hγ)
theorem zg3 {k:Nat} (ih:OpenAt enc P W base sp hd k) {cs:List Value} {n:Nat} {e:TypeId} {sh:List Sh} (hsh:shB P k e=some sh) (hc:P.cellsOf e=sh.length):∀ (m i0:Nat),(∀ i,i<m→∃ y,DataW.trod enc P W base sp hd n e ((cs.drop ((i0+i)*P.cellsOf e)).take (P.cellsOf e))=some y)→∃ r,RowFit (List.replicate m sh).flatten r∧∀ γ:G,γ.fz=fzAll W→ECL γ (recE (List.replicate m sh).flatten r) ((cs.drop (i0*sh.length)).take (m*sh.length))
 | 0,i0,_=>⟨[],.nil,fun γ _=>by
   rw [Nat.zero_mul,List.take_zero];exact ECL.nil γ⟩
 | m+1,i0,h=>by
  obtain ⟨y,hy⟩:=h 0 (by omega);rw [hc,Nat.add_zero] at hy;obtain ⟨r1,h1,h2⟩:=ih e sh n _ y hsh hy;obtain ⟨r2,h3,h4⟩:=zg3 ih hsh hc m (i0+1) fun i hi=>by
   have:=h (i+1) (by omega)
   rwa [show i0+(i+1)=i0+1+i by omega] at this
  refine ⟨r1++r2,by rw [List.replicate_succ,List.flatten_cons];exact h1.append h3,fun γ hγ=>?_⟩;rw [List.replicate_succ,List.flatten_cons,zhp h1.len,Nat.succ_mul,Nat.add_comm,List.take_add,List.drop_drop];have:=h4 γ hγ;rw [Nat.succ_mul] at this;exact (h2 γ hγ).append this
theorem zey:∀ k,OpenAt enc P W base sp hd k
 | 0=>fun t sh fuel cs x h=>by cases h
 | k+1=>fun t sh fuel cs x h ht=>by
  have ih:OpenAt enc P W base sp hd k:=zey k;unfold shB at h;split at h
  ·rename_i κ hu;injection h with h;subst h
   obtain ⟨n,rfl,_,hw⟩:=DataW.trod_int hu ht;refine ⟨[.i n],⟨rfl,fun f s hf=>?_⟩,fun γ _=>.cons (.v _) (.nil _)⟩;obtain ⟨rfl,rfl⟩:=one_f hf;exact .int κ n hw
  ·rename_i hu;injection h with h;subst h
   obtain ⟨b,rfl,_⟩:=DataW.trod_bool hu ht;refine ⟨[.b b],⟨rfl,fun f s hf=>?_⟩,fun γ _=>.cons (.v _) (.nil _)⟩;obtain ⟨rfl,rfl⟩:=one_f hf;exact .bool b
  ·rename_i hu;injection h with h;subst h
   obtain ⟨s,rfl,_,hs⟩:=DataW.trod_string hu ht;refine ⟨[.s s],⟨rfl,fun f s hf=>?_⟩,fun γ _=>.cons (.v _) (.nil _)⟩;obtain ⟨rfl,rfl⟩:=one_f hf;exact .str _ hs
  ·rename_i e hu;split at h
   case h_2=>cases h
   rename_i sh' hsh;split at h
   case isFalse=>cases h
   rename_i hc;injection h with h;subst h
   rcases DataW.trod_slice hu ht with ⟨rfl,_⟩|⟨a,len,cap,elems,rest,n,_,rfl,_,hb,hlc,hcm,hel,hall,_⟩
   ·refine ⟨[.l []],⟨rfl,fun f s hf=>?_⟩,fun γ _=>.cons ?_ (.nil _)⟩
    ·obtain ⟨rfl,rfl⟩:=one_f hf;exact .list sh' [] (Nat.zero_le _) (fun j hj=>by simp at hj) (fun j f s hj=>by simp at hj)
    ·exact UOk.ec (s:=.list sh') (.empty sh' (.l []) none 0 rfl (Nat.zero_le _) fun _=>rfl)
   ·have each:∀ i,i<len→∃ r,RowFit sh' r∧∃ ys,W.cells? base (a.add (i*sh'.length)) sh'.length=some ys∧∀ γ:G,γ.fz=fzAll W→ECL γ (recE sh' r) ys:=fun i hi=>by
     have h1:=hall i hi;rw [hc.1] at h1;have h2:i<elems.length:=by omega
     rw [List.getElem?_eq_getElem h2] at h1;obtain ⟨ys,h3,h4⟩:=Option.bind_eq_some_iff.1 h1;obtain ⟨r,h5,h6⟩:=ih e sh' n ys _ hsh h4;exact ⟨r,h5,ys,h3,h6⟩
    obtain ⟨l,hl,hQ⟩:=zpp len each;refine ⟨[.l l],⟨rfl,fun f s hf=>?_⟩,fun γ hγ=>.cons ?_ (.nil _)⟩
    ·obtain ⟨rfl,rfl⟩:=one_f hf;exact .list sh' l (by omega) (fun j hj=>(hQ j (by omega)).1.len) fun j f s hj hf=>(hQ j (by omega)).1.fit f s hf
    ·refine UOk.ec (s:=.list sh') ?_
     by_cases h0:len=0
     ·have:l=[]:=List.eq_nil_of_length_eq_zero (by omega);subst this;subst h0;exact .empty sh' (.l []) (some a) cap rfl hcm fun e=>by cases e
     ·obtain ⟨b,off,spot⟩:=a;have hblk:spot=none∧∃ arr ty fz,W.heap[b]? = some (.cells arr ty fz):=by
       obtain ⟨h1,ys,h2,h3⟩:=hQ 0 (by omega);obtain ⟨_,h4,h5⟩:=World.cells?_some h2;have h6:=h5 0 hc.2;rw [List.getElem?_eq_getElem (show 0<ys.length by omega)] at h6;have h6:W.cell? ⟨b,off,spot⟩=some ys[0]:=by
        have e:((⟨b,off,spot⟩:Addr).add (0*sh'.length)).add 0=⟨b,off,spot⟩:=by simp [Addr.add]
        rw [e] at h6;exact h6
       unfold World.cell? at h6;split at h6
       ·rename_i arr ty fz hb';split at h6
        ·cases h6
        ·rename_i hs;exact ⟨by cases spot <;> simp_all,arr,ty,fz,hb'⟩
       ·cases h6
      obtain ⟨rfl,arr,ty,fz,hblk⟩:=hblk;have cellAt:∀ i f,i<len→f<sh'.length→∃ y,W.cell? ⟨b,off+(i*sh'.length+f),none⟩=some y∧∀ s,sh'[f]? = some s→UOk γ.fz s ((l.getD i []).getD f (.i 0)) y:=fun i f hi hf=>by
       obtain ⟨h1,ys,h2,h3⟩:=hQ i hi;obtain ⟨_,h4,h5⟩:=World.cells?_some h2;have h6:=h5 f hf;have h7:f<ys.length:=by omega
       rw [List.getElem?_eq_getElem h7] at h6;refine ⟨ys[f],?_,fun s hs=>?_⟩
       ·have e:((⟨b,off,none⟩:Addr).add (i*sh'.length)).add f=⟨b,off+(i*sh'.length+f),none⟩:=by
         unfold Addr.add;split <;> split <;> simp_all [Nat.add_assoc]
        rw [← h6,e]
       ·have h8:=zec (s:=s) (f:=f) (sh:=sh') (l.getD i []) hs;have h9:=(h3 γ hγ).2 f _ ys[f] h8 (List.getElem?_eq_getElem h7);exact UOk.of_ec h9
      have getA:∀ i f,i<len→f<sh'.length→∃ y,arr[off+(i*sh'.length+f)]? = some y∧∀ s,sh'[f]? = some s→UOk γ.fz s ((l.getD i []).getD f (.i 0)) y:=fun i f hi hf=>by
       obtain ⟨y,h1,h2⟩:=cellAt i f hi hf;refine ⟨y,?_,h2⟩;unfold World.cell? at h1;simpa [hblk] using h1
      have hk:γ.fz b=some arr:=by
       rw [hγ];unfold fzAll;rw [hblk]
      subst hl;refine .list sh' (.l l) b off cap arr hk hlc hcm ?_ fun j f s x hj hf hx=>?_
      ·show off+l.length*sh'.length≤arr.size;obtain ⟨y,h1,_⟩:=getA (l.length-1) (sh'.length-1) (by omega) (by omega);have:=(Array.getElem?_eq_some_iff.1 h1).1;have e:l.length*sh'.length=(l.length-1)*sh'.length+sh'.length:=by rw [← Nat.succ_mul];congr 1;omega
       omega
      ·obtain ⟨y,h1,h2⟩:=getA j f hj (List.getElem?_eq_some_iff.1 hf).1;rw [h1] at hx;injection hx with hx;subst hx;exact h2 s hf
  ·rename_i fs hu;split at h
   case h_2=>cases h
   rename_i sh' hsh;split at h
   case isFalse=>cases h
   rename_i hc;injection h with h;subst h
   obtain ⟨xs,n,_,_,hl,hlen,hf⟩:=DataW.trod_struct hu ht;obtain ⟨r,h1,h2⟩:=zgd (cs:=cs) (n:=n) ih fs.toList 0 sh' hsh fun f hm=>by
    obtain ⟨i,hi,rfl⟩:=List.getElem_of_mem hm;have hi2:i<fs.size:=by simpa using hi
    have:=hf i fs.toList[i] (by simp [hi2]);rw [List.getElem?_eq_getElem (by omega)] at this;exact ⟨_,this⟩
   refine ⟨r,h1,fun γ hγ=>?_⟩;have:=h2 γ hγ
   rwa [List.drop_zero,List.take_of_length_le (by omega)] at this
  ·rename_i m e hu;split at h
   case h_2=>cases h
   rename_i sh' hsh;split at h
   case isFalse=>cases h
   rename_i hc;injection h with h;subst h
   obtain ⟨xs,n,_,_,hl,hlen,hf⟩:=DataW.trod_array hu ht;obtain ⟨r,h1,h2⟩:=zg3 (cs:=cs) (n:=n) ih hsh hc.1 m 0 fun i hi=>by
    have:=hf i hi;rw [List.getElem?_eq_getElem (by omega)] at this;rw [Nat.zero_add];exact ⟨_,this⟩
   refine ⟨r,h1,fun γ hγ=>?_⟩;have:=h2 γ hγ
   rwa [Nat.zero_mul,List.drop_zero,List.take_of_length_le (by omega)] at this
  ·cases h
theorem open_agg {t:TypeId} {fs:Array Field} {v:Value} {d:DataW H} {ps:List MemPlace} {k b0:Nat} {rc:Reach} {sh:List Sh} (hu:P.underlying t=some (.struct fs)) (hs:shB P k t=some sh) (hv:Value.okWide P W rc b0 t v) (h:DataW.Trod enc P W base sp hd t v d ps):∃ r,RowFit sh r∧EC (gAll W) (.agg (recE sh r)) v:=by
 obtain ⟨cs,rfl,_⟩:=okWide_struct hu hv;obtain ⟨fuel,hf⟩:=h;obtain ⟨r,h1,h2⟩:=zey k t sh fuel _ _ hs hf;have h3:=h2 (gAll W) rfl;refine ⟨r,h1,?_⟩;have:=EC.agg (γ:=gAll W) (recE sh r) cs.toList h3.1 h3.2;simpa using this
theorem open_lst {t e:TypeId} {v:Value} {d:DataW H} {ps:List MemPlace} {k b0:Nat} {rc:Reach} {sh:List Sh} (hu:P.underlying t=some (.slice e)) (hs:shB P k t=some [.list sh]) (hv:Value.okWide P W rc b0 t v) (h:DataW.Trod enc P W base sp hd t v d ps):∃ l,UFit (.list sh) (.l l)∧EC (gAll W) (.lst (mkC sh l)) v:=by
 obtain ⟨a,len,cap,rfl⟩:=okWide_slice hu hv;obtain ⟨fuel,hf⟩:=h;obtain ⟨r,h1,h2⟩:=zey k t _ fuel _ _ hs hf;have h3:=h2 (gAll W) rfl;obtain ⟨h4,h5⟩:=h1
 match r,h4 with
 | [u],_=>
  have h6:=h5 0 _ rfl;have h6:UFit (.list sh) u:=h6
  cases h6 with
  | list _ l hl hr hh=>
   refine ⟨l,.list sh l hl hr hh,?_⟩;exact h3.2 0 _ _ rfl rfl
end Ev
end Go.Proofs.Ytooimphimnagaaa
namespace Go.Proofs.Ytooimphimnagaaa.Ev
theorem zt7 {n:Nat} {w:List Int} (h1:1≤n) (h2:n≤12) (hl:w.length≤400) (h:Vld n w):chk n w=0:=by
 unfold chk;rw [df (show ¬ (n:Int)<1 by omega),df (show ¬ (12:Int)<n by omega),df (show ¬ (400:Int)<Int.ofNat w.length by rw [ofn];omega),bc_f,bc_f,bc_f];have:w.any (badL n)=false:=by
  rw [List.any_eq_false];intro x hx hb;obtain ⟨q1,q2,q3⟩:=h x hx;unfold badL at hb;rw [zad (0-(n:Int)) (by omega) (by omega),show (x==0)=false by simp [q1],bc_f,df (show ¬ x≤0-(n:Int) by omega),bc_f,df (show ¬ (n:Int)≤x by omega)] at hb;cases hb
 rw [this,bc_f]
theorem ztm {n:Int} {a b:List Int} (h1:chk n a=0) (h2:chk n b=0):samE n a b=0:=by unfold samE;rw [h1,h2];rfl
theorem zxd {n:Int} {a b:List Int} (h1:chk n a=0) (h2:chk n b=0) (h:nfW n.toNat a=nfW n.toNat b):samB n a b=true:=by
 unfold samB sameN;rw [ztm h1 h2,show ((0:Int) != 0)=false from rfl,bc_f]
 exact decide_eq_true h
section
variable {l:List Int}
def selP (P:List Nat) (f:Nat→Bool) (i:Nat):List Nat:=((List.range i).filter f).map fun j=>P.getD j 0
theorem zi0 (P:List Nat) (f:Nat→Bool) (i:Nat):selP P f (i+1)=selP P f i++(if f i then [P.getD i 0] else []):=by
 unfold selP;rw [List.range_succ,za7,List.map_append];cases f i <;> rfl
theorem zfh (P:List Nat) (f:Nat→Bool) (i:Nat):(selP P f i).length≤i:=by
 unfold selP;rw [List.length_map];have:=List.length_filter_le f (List.range i)
 rwa [List.length_range] at this
theorem zfg {P:List Nat} {f:Nat→Bool} {z:Nat}:z∈selP P f P.length↔∃ j,j<P.length∧f j=true∧P.getD j 0=z:=by
 unfold selP;rw [List.mem_map];constructor
 ·rintro ⟨j,h,e⟩
  obtain ⟨h1,h2⟩:=List.mem_filter.1 h;exact ⟨j,List.mem_range.1 h1,h2,e⟩
 ·rintro ⟨j,h1,h2,e⟩
  exact ⟨j,List.mem_filter.2 ⟨List.mem_range.2 h1,h2⟩,e⟩
theorem zr0 {n:Nat} {P:List Nat} (h:AscI n P) (f:Nat→Bool):AscI n (selP P f P.length):=by
 refine ⟨?_,fun z hz=>?_⟩
 ·unfold selP;rw [List.pairwise_map];refine (List.Pairwise.imp_of_mem ?_ (List.pairwise_lt_range.sublist List.filter_sublist:((List.range P.length).filter f).Pairwise (· < ·)));intro a b ha hb hab;have h1:=List.mem_range.1 (List.mem_filter.1 ha).1;have h2:=List.mem_range.1 (List.mem_filter.1 hb).1;rw [zae h1,zae h2];exact List.pairwise_iff_getElem.1 h.1 a b h1 h2 hab
 ·obtain ⟨j,h1,_,e⟩:=zfg.1 hz;rw [← e,zae h1];exact h.2 _ (List.getElem_mem h1)
theorem zuu {A:List Nat} (h:AscI l.length A) (hp:∀ z,z∈A→isPn (l.getD z 0)=true):wokA l (ofNs A)=true:=by
 unfold wokA;rw [List.all_eq_true];intro i hi;have hi:=List.mem_range.1 hi;rw [zai] at hi;have hg:(ofNs A).getD i 0=((A[i]:Nat):Int):=by rw [zcx hi,zae hi]
 have hlt:=h.2 _ (List.getElem_mem hi);have hpi:=hp _ (List.getElem_mem hi);unfold wokF;rw [hg,show Int.toNat ((A[i]:Nat):Int)=A[i] from rfl,df (show ¬ ((A[i]:Nat):Int)<0 by omega),df (show ¬ (l.length:Int)≤((A[i]:Nat):Int) by omega),hpi,bc_f,bc_f,bc_t]
 by_cases c:0<i
 ·have hi2:i-1<A.length:=by omega
  have hg2:(ofNs A).getD (i-1) 0=((A[i-1]:Nat):Int):=by rw [zcx hi2,zae hi2]
  have hpw:=List.pairwise_iff_getElem.1 h.1 (i-1) i hi2 hi (by omega);rw [dt c,bc_t,hg2,df (show ¬ ((A[i]:Nat):Int)≤((A[i-1]:Nat):Int) by omega)];rfl
 ·rw [df c,bc_f]
theorem zvw (l:List Int) (o:Nat→Bool):AscI l.length (goT l o):=(zb5 l o).sub _
theorem zvt {P:List Nat} {f g:Nat→Bool} (hs:∀ j,-1000≤l.getD j 0) (h:∀ j,f j=true→g j=true):(goT l (PinO (ofNs (selP P f P.length)))).length≤(goT l (PinO (ofNs (selP P g P.length)))).length∧(goT l (PinO (ofNs (selP P g P.length)))).length≤(goT l fun _=>true).length:=by
 refine ⟨go_le hs fun j _ q=>?_,go_le hs fun _ _ _=>rfl⟩;have q:=zl1.1 (of_decide_eq_true q);obtain ⟨i,h1,h2,e⟩:=zfg.1 q;exact decide_eq_true (zl1.2 (zfg.2 ⟨i,h1,h i h2,e⟩))
def lefF (l:List Int) (T Z:List Nat) (i:Nat):List Nat:=(T.take i).filter fun j=>!decide (j∈Z) && !isPn (l.getD j 0)
theorem zsh {T Z:List Nat} {i:Nat} (h:i<T.length):lefF l T Z (i+1)=lefF l T Z i++(if (!decide (T[i]∈Z) && !isPn (l.getD T[i] 0))=true then [T[i]] else []):=by
 unfold lefF;rw [List.take_succ_eq_append_getElem h,za7]
theorem zvp (l:List Int) (T Z:List Nat) (i:Nat):(lefF l T Z i).length≤i:=by
 have h1:=List.length_filter_le (fun j=>!decide (j∈Z) && !isPn (l.getD j 0)) (T.take i);have h2:=List.length_take_le i T;unfold lefF;omega
theorem zvq (hs:∀ j,-1000≤l.getD j 0):lefF l (tigT l) (goT l fun _=>true) (tigT l).length=tigL l (resT l fun _=>true):=by
 have ha:=zb5 l fun _=>true;unfold lefF;rw [List.take_length];refine zfc ((zd5 l).sub _).1 (zfr (l:=l) ha).1.1 fun z=>?_;rw [List.mem_filter,Bool.and_eq_true];have hr:z∈resT l (fun _=>true)↔z∈tigT l∧isPn (l.getD z 0)=false:=by
  unfold resT;rw [List.mem_filter,Bool.and_true];simp
 have hg:z∈goT l (fun _=>true)↔z∈resT l (fun _=>true)∧z∉tigL l (resT l fun _=>true):=by
  unfold goT;rw [List.mem_filter];simp
 constructor
 ·rintro ⟨h1,h2,h3⟩
  have h3:isPn (l.getD z 0)=false:=by simpa using h3
  have h2:z∉goT l (fun _=>true):=by simpa using h2
  apply Classical.byContradiction;intro q;exact h2 (hg.2 ⟨hr.2 ⟨h1,h3⟩,q⟩)
 ·intro h;have h1:=(zc4 hs (z:=z) (resT l fun _=>true) [] ha.1).1 h;have h2:=hr.1 h1;refine ⟨h2.1,?_,?_⟩
  ·have:z∉goT l (fun _=>true):=fun q=>(hg.1 q).2 h;simpa using this
  ·rw [h2.2];rfl
theorem ztb {t x:Int} (h:badH t x=false) (hp:isPn x=false):0<x.natAbs∧(x.natAbs:Int)<t:=by
 have hp:=of_decide_eq_false hp;unfold badH at h
 by_cases h1:x ≤ -t
 ·rw [dt h1,bc_t] at h;cases h
 rw [df h1,bc_f] at h
 by_cases h2:x=0
 ·rw [h2,show ((0:Int)==0)=true from rfl,bc_t] at h;cases h
 rw [show (x==0)=false by simp [h2],bc_f] at h
 by_cases h3:t≤x
 ·rw [dt h3,bc_t,dt (show x≤1000 by omega),bc_t] at h;cases h
 omega
theorem zs9 {t:Int} (z:chkL t l=0) {n:Nat} (hn:(n:Int)=t):LetN n l:=by
 unfold chkL at z
 by_cases h1:t<2
 ·rw [dt h1,bc_t] at z;cases z
 rw [df h1,bc_f] at z
 by_cases h2:48<t
 ·rw [dt h2,bc_t] at z;cases z
 rw [df h2,bc_f] at z
 by_cases h3:2000<(l.length:Int)
 ·rw [dt h3,bc_t] at z;cases z
 rw [df h3,bc_f] at z;intro j hp hj
 cases hb:anyI (badH t) l with
 | true=>rw [hb,bc_t] at z;cases z
 | false=>
  have:=ztb (zk4 hb (l.getD j 0) (by rw [zae hj];exact List.getElem_mem hj)) hp;omega
theorem zxv {t:Int} (z:chkL t l=0):2≤t:=by
 unfold chkL at z
 by_cases h1:t<2
 ·rw [dt h1,bc_t] at z;cases z
 omega
theorem zsi {t:Int} (z:chkL t l=0) (ht:t≤12) (hl:l.length≤100):samE t (l.filter fun x=>!isPn x) (ltsL l (tigL l (resT l fun _=>true)))=0∧samB t (l.filter fun x=>!isPn x) (ltsL l (tigL l (resT l fun _=>true)))=true:=by
 have h2:=zxv z;obtain ⟨n,rfl⟩:=Int.eq_ofNat_of_zero_le (show 0≤t by omega);have hL:=zs9 z rfl;have hs:∀ j,-1000≤l.getD j 0:=fun j=>by
  by_cases hj:j<l.length
  ·have:=(ze9 z).2.2 (l.getD j 0) (by rw [zae hj];exact List.getElem_mem hj);unfold LetOk at this;omega
  ·rw [List.getD_eq_getElem?_getD,List.getElem?_eq_none (by omega)];decide
 have ha:=zb5 l fun _=>true;have v1:Vld n (l.filter fun x=>!isPn x):=fun x hx=>by
  obtain ⟨h1,h2⟩:=List.mem_filter.1 hx;obtain ⟨j,hj,e⟩:=List.getElem_of_mem h1;have hp:isPn x=false:=by simpa using h2
  have:=hL j (by rw [zae hj,e];exact hp) hj;rw [zae hj,e] at this;exact ⟨by omega,by omega,by omega⟩
 have v2:Vld n (ltsL l (tigL l (resT l fun _=>true))):=fun x hx=>by
  obtain ⟨j,hj,rfl⟩:=List.mem_map.1 hx;have h1:=(zc4 hs (z:=j) (resT l fun _=>true) [] ha.1).1 hj;have h2:=(List.mem_filter.1 h1).2;rw [Bool.and_true] at h2;have:=hL j (by simpa using h2) (ha.2 j h1);exact ⟨by omega,by omega,by omega⟩
 have l1:=List.length_filter_le (fun x=>!isPn x) l;have l2:=zfb (zfr (l:=l) ha).1;have z1:=zt7 (n:=n) (by omega) (by omega) (by omega) v1;have z2:=zt7 (n:=n) (by omega) (by omega) (by rw [zh0];omega) v2;exact ⟨ztm z1 z2,zxd z1 z2 (zsc v1 v2 (zwl hs hL))⟩
end
section
variable {l:List Int}
theorem zvv (hs:∀ j,-1000≤l.getD j 0) {o:Nat→Bool} (h:goT l (fun _=>true)=[]):goT l o=[]:=by
 have:=go_le hs (o:=o) (o':=fun _=>true) fun _ _ _=>rfl;rw [h] at this;exact List.eq_nil_of_length_eq_zero (Nat.le_zero.1 this)
noncomputable def keyF (l:List Int) (k:Nat):Bool:=isPn (l.getD k 0)&&decide (0<(goT l fun j=>((j:Int)==(k:Int))).length)
noncomputable def keyI (l:List Int) (i:Nat):List Nat:=(List.range i).filter (keyF l)
theorem zps (l:List Int) (i:Nat):keyI l (i+1)=keyI l i++(if keyF l i then [i] else []):=by
 unfold keyI;rw [List.range_succ,za7]
theorem zsj (l:List Int) (i:Nat):(keyI l i).length≤i:=by
 have:=List.length_filter_le (keyF l) (List.range i);rw [List.length_range] at this;exact this
theorem zje (hs:∀ j,-1000≤l.getD j 0) (h:goT l (fun _=>true)=[]) (i:Nat):keyI l i=[]:=List.filter_eq_nil_iff.2 fun k _=>by
 unfold keyF;rw [zvv hs h];simp
end
theorem oneK (x:Int):[x]=[x]:=rfl
noncomputable def accB (t:Int) (l:List Int):Bool:=bc (chkL t l==0) (Int.ofNat (goT l fun _=>true).length==0) false
noncomputable abbrev shAc (t:Int) (l:List Int):EV:=.tup [bv (accB t l),iv (chkL t l)]
namespace PKys
noncomputable def RUN (s:ES):ZF:=RZ 38 ctLo (atS 0 38 9) [] [[(1,none),(5,none),(6,some (1,3,.ints .i64 [])),(20,none),(21,none),(22,none)]] false s
noncomputable def sL (t:Int) (l:List Int) (b:List Bool) (m:Nat) (g:List Int) (nn:Bool) (i:Int):NS:=⟨[⟨38,42,[(1,(EV.ptr 0 0)),(5,EV.slO 1 1 m true),(6,EV.slO 2 1 g.length nn),(20,(il l)),(21,(iv (Int.ofNat (List.length l)))),(22,iv i)],[.it (.code (nav [1,1,1,1,1,0,1,0,0] (bodyOf Try.f38))),.it (.inLoop (nav [1,1,1,1,1,0,1,0,0] (bodyOf Try.f38))),.it (.inBlock 0),.it (.code (nav [1,1,1,1,1,1] (bodyOf Try.f38)))],[],Option.none⟩],[(0,(EK.cells 24 [(iv t),(il l)] true)),(1,EK.seq 4 (.bools b) true),(2,EK.seq 3 (.ints .i64 g) nn)],3⟩
theorem in_t (t:Int) (l:List Int):RUN (st0 38 [hE t l])=(bc (bc (decide (In64 l)) true false) (bc (chkL t l != 0) (.done (EV.tup [(EV.v (Value.slice Option.none 0 0)),(iv (chkL t l))]) [] 0) (bc (bc (decide (TigOk l l 0 0)) true false) (bc (bc (bc (Nat.beq l.length (tgA l).length) (decide (FrOk l (tgA l))) false) true false) (bc (Int.ofNat (gF l (tgA l) PFrA.O).length==0) (.done (EV.tup [(EV.v (Value.slice Option.none 0 0)),(iv (0))]) [] 0) (.at (sL t l (tgA l) l.length [] false 0))) .bad) .bad)) .bad):=by kernel_rfl
theorem l_t (t:Int) (l:List Int) (b:List Bool) (m:Nat) (g:List Int) (nn:Bool) (i:Int):RUN (stOf (sL t l b m g nn i))=(bc (decide (i<Int.ofNat l.length)) (bc (bc (bc (decide (0≤i)) (Nat.blt i.toNat l.length) false) true false) (bc (bc (Nat.blt i.toNat l.length) true false) (bc (decide (1000<l.getD i.toNat 0)) (bc (bc (bc (Nat.beq m b.length) (decide (FrOk l b)) false) true false) (bc (decide (0<Int.ofNat (gF l b (PFrC.O i)).length)) (bc (bc (Nat.beq g.length g.length) (bc (Nat.ble (g.length+([i]).length) 65536) (bc nn true (bc nn false true)) false) false) (.at (sL t l b m (g++[i]) (bc nn true (Nat.blt 0 ([i]).length)) (IntKind.i64.wrap (i+1)))) .bad) (.at (sL t l b m g nn (IntKind.i64.wrap (i+1))))) .bad) (.at (sL t l b m g nn (IntKind.i64.wrap (i+1))))) .bad) .bad) (bc (bc (Nat.beq g.length g.length) true false) (.done (EV.tup [(il g),(iv (0))]) [] 0) .bad)):=by kernel_rfl
theorem loop {t:Int} {l:List Int} (z:chkL t l=0):∀ (k i:Nat) (nn:Bool),i+k=l.length→EndZ 38 ctLo false (stOf (sL t l (tgA l) l.length (ofNs (keyI l i)) nn i)) (rsL 0 (ofNs (keyI l l.length))) [] 0
 | 0,i,nn,h=>by
  obtain rfl:i=l.length:=by omega
  have h1:=l_t t l (tgA l) l.length (ofNs (keyI l l.length)) nn l.length;rw [df (show ¬ (l.length:Int)<Int.ofNat l.length by rw [ofn];omega),bc_f] at h1;simp (disch:=omega) only [yS] at h1;exact .done h1
 | k+1,i,nn,h=>by
  have h1:=l_t t l (tgA l) l.length (ofNs (keyI l i)) nn i;obtain ⟨_,hl,_⟩:=ze9 z;have hf:=(zeo z).2;have ht:=zc6 l;have e0:Int.toNat (i:Int)=i:=rfl;have lg:(ofNs (keyI l i)).length≤i:=by rw [zai];exact zsj l i
  have w:bc nn true (Nat.blt 0 (List.length [(i:Int)]))=true:=by cases nn <;> rfl
  have w2:bc nn true (bc nn false true)=true:=by cases nn <;> rfl
  have e:=congrArg ofNs (zps l i);rw [zch] at e;have eO:PFrC.O (i:Int)=fun j:Nat=>((j:Int)==(i:Int)):=rfl;have hgo:=zgz l (PFrC.O (i:Int));rw [oneK,w,w2,e0,hgo,eO,zai,dt hf,ht,ofn] at h1
  by_cases c:1000<l.getD i 0
  ·by_cases c2:0<(goT l fun j:Nat=>((j:Int)==(i:Int))).length
   ·have hk:keyF l i=true:=by
     unfold keyF;rw [show isPn (l.getD i 0)=true from decide_eq_true c,decide_eq_true c2];rfl
    rw [hk,if_pos rfl,show ofNs [i]=[(i:Int)] from rfl] at e
    rw [← e,dt c,dt (show (0:Int)<Int.ofNat (goT l fun j:Nat=>((j:Int)==(i:Int))).length by rw [ofn];omega)] at h1;simp (disch:=omega) only [yS] at h1;exact .at zcd h1 (loop z k (i+1) true (by omega))
   ·have hk:keyF l i=false:=by
     unfold keyF;rw [decide_eq_false c2,Bool.and_false]
    rw [hk,if_neg (by simp),show ofNs []=([]:List Int) from rfl,List.append_nil] at e
    rw [dt c,df (show ¬ (0:Int)<Int.ofNat (goT l fun j:Nat=>((j:Int)==(i:Int))).length by rw [ofn];omega),← e] at h1;simp (disch:=omega) only [yS] at h1;rw [← e];exact .at zcd h1 (loop z k (i+1) nn (by omega))
  ·have hk:keyF l i=false:=by
    unfold keyF;rw [show isPn (l.getD i 0)=false from decide_eq_false c];rfl
   rw [hk,if_neg (by simp),show ofNs []=([]:List Int) from rfl,List.append_nil] at e
   rw [df c,← e] at h1;simp (disch:=omega) only [yS] at h1;rw [← e];exact .at zcd h1 (loop z k (i+1) nn (by omega))
theorem let_hs {l:List Int} (h:∀ x,x∈l→LetOk x):∀ j,-1000≤l.getD j 0:=fun j=>by
 by_cases hj:j<l.length
 ·have:=h (l.getD j 0) (by rw [zae hj];exact List.getElem_mem hj);unfold LetOk at this;omega
 ·rw [List.getD_eq_getElem?_getD,List.getElem?_eq_none (by omega)];decide
theorem ends {t:Int} {l:List Int} (hx:In64 l):EndZ 38 ctLo false (st0 38 [hE t l]) (rsL (chkL t l) (ofNs (keyI l l.length))) [] 0:=by
 have h:=in_t t l;rw [dt hx,bc_t,bc_t] at h
 by_cases z:chkL t l=0
 ·obtain ⟨h1,h2⟩:=zeo z;have h3:=zc6 l;have h4:=zgz l PFrA.O;have eO:PFrA.O=fun _:Nat=>true:=rfl;rw [z,show ((0:Int) != 0)=false from rfl,bc_f,dt h1,h3,dt h2,h4,eO,zai] at h
  rw [z]
  by_cases c:goT l (fun _=>true)=[]
  ·have hk:=zje (let_hs (ze9 z).2.2) c l.length;rw [c] at h;rw [hk];simp (disch:=omega) only [yS] at h;exact (EndZ.done h).weak (.tup (  .cons (Weak.nilI _) (.cons (.refl _) .nil)))
  ·have hc:¬ ((goT l fun _=>true).length=0):=fun q=>c (List.eq_nil_of_length_eq_zero q);rw [show (Int.ofNat (goT l fun _=>true).length==(0:Int))=false by rw [ofn];simp only [beq_eq_false_iff_ne,ne_eq];omega] at h;simp (disch:=omega) only [yS] at h
   exact .at zcd h (loop z l.length 0 false (by omega))
 ·rw [show (chkL t l != 0)=true by simp [z],bc_t] at h;exact (EndZ.done h).weak (zfw _ z)
end PKys
noncomputable def spPKy:ZCT:=fun ax=>match ax with
 | [.agg [.v (.int .i64 t),.lst (.ints .i64 l)]]=>some ⟨decide (In64 l),rsL (chkL t l) (ofNs (keyI l l.length)),[],0⟩
 | _=>none
theorem zrr:ZCtOk Try.prog 38 spPKy:=fun γ w us ax r hs hc hax hN hfz=>by
 unfold spPKy at hs;split at hs
 case h_2=>cases hs
 rename_i t l;obtain ⟨rfl⟩:=Option.some.inj hs;have hc_0:decide (In64 l)=true:=hc;have hc:=of_decide_eq_true hc_0;exact EndZ.calls (PKys.ends hc) zcd (by kernel_rfl) hax hN hfz
noncomputable def ctLa:Tr ZCC:=ctLo.put 22 (some (dC spPFd))
theorem zwf:ZCtsOk Try.prog ctLa:=zcd.add rfl zlj
namespace PAcc
noncomputable def RUN (s:ES):ZF:=RZ 39 ctLa (fun _=>false) [] [] false s
theorem in_t (t:Int) (l:List Int):RUN (st0 39 [hE t l])=(bc (decide (In64 l)) (bc (chkL t l==0) (.done (EV.tup [(bv (Int.ofNat (bc (chkL t l != 0) [] (gF l (tgA l) fun x=>true)).length==0)),(iv (chkL t l))]) [] 0) (.done (EV.tup [(bv false),(iv (chkL t l))]) [] 0)) .bad):=by kernel_rfl
theorem ends {t:Int} {l:List Int} (hx:In64 l):EndZ 39 ctLa false (st0 39 [hE t l]) (shAc t l) [] 0:=by
 have h:=in_t t l;unfold shAc accB;rw [dt hx,bc_t,zgz] at h
 by_cases z:chkL t l=0
 ·rw [z] at h ⊢;rw [show ((0:Int)==0)=true from rfl,show ((0:Int) != 0)=false from rfl,bc_t,bc_f,zai] at h
  exact .done h
 ·rw [show (chkL t l==0)=false by simp [z],bc_f] at h ⊢;exact .done h
end PAcc
noncomputable def spPAc:ZCT:=fun ax=>match ax with
 | [.agg [.v (.int .i64 t),.lst (.ints .i64 l)]]=>some ⟨decide (In64 l),shAc t l,[],0⟩
 | _=>none
theorem zrs:ZCtOk Try.prog 39 spPAc:=fun γ w us ax r hs hc hax hN hfz=>by
 unfold spPAc at hs;split at hs
 case h_2=>cases hs
 rename_i t l;obtain ⟨rfl⟩:=Option.some.inj hs;have hc_0:decide (In64 l)=true:=hc;have hc:=of_decide_eq_true hc_0;exact EndZ.calls (PAcc.ends hc) zwf (by kernel_rfl) hax hN hfz
theorem znj:endsB (exClosed Try.prog ft (drD Try.prog ft 16 4) 16 18)=true:=by kernel_rfl
theorem awakeLC (w:World):Calls Try.prog 16 #[] w fun e w'=>e = .returned (.bool true)∧Stays w w':=closedTrue ftOk (zml mix ftOk 16 4) znj w
theorem zj2:ZCtOk Try.prog 16 spTrue:=zof awakeLC
end Go.Proofs.Ytooimphimnagaaa.Ev
