/- Laid together: Words for memory: a slice that can be read (Row), a row of the call's own (ownsRow) with append laws that carry what lies below; small lemmas. Plain: no program is named. Rows of simple braids: what slides over from one to the one before it, and that it ends in one way. Plain. No program is named. Normal forms of rows of simple braids: without Delta ahead and nothing .. -/
import Derived.WalkKit
import Derived.WalkSpells
import Derived.WalkLawsBesides
import Derived.WalkSmall
import Derived.BigQuiet
import Derived.Deep.QuietTactic
import Derived.Deep.Draws
import Derived.Deep.AppendLies
import Derived.Lib.Hide
import Derived.Deep.DeepCutAuto
import Derived.Deep.CutBlock
import Derived.Deep.Light
import Derived.BigRegion
import Derived.AtR
import Derived.RangeFuncRecord
import Derived.MapKept
import Derived.Deep.Quiet
import Derived.Deep.LoopGhost
import Derived.Laws.IdiomCopy
import Derived.Maps.AppendAt
import Derived.Laws.MakeOwn
import Derived.Laws.Tables
set_option linter.unusedSimpArgs false
set_option linter.unusedVariables false
noncomputable section
namespace Go.Proofs.Ytfffbioafhppiaa
open Go.RowKit
def Row (w:World) (A:Option Addr) (cs:List Value):Prop:=
 0<cs.length→∃ b o,A=some ⟨b,o,none⟩∧∀ j u,cs[j]? = some u→w.cell? ⟨b,o+j,none⟩=some u
theorem Row.keep {w w':World} {A:Option Addr} {cs:List Value} (h:Row w A cs) (hk:∀ p u,w.cell? p=some u→w'.cell? p=some u):Row w' A cs:=by
 intro hp;obtain ⟨b,o,e,hc⟩:=h hp;exact ⟨b,o,e,fun j u hu=>hk _ _ (hc j u hu)⟩
theorem Row.below {w w':World} {A:Option Addr} {cs:List Value} (h:Row w A cs) (hb:Below w.heap.size w w'):Row w' A cs:=
 h.keep fun p u hu=>(hb.cell (World.block_lt_of_cell? w p hu)).trans hu
theorem Row.alloc {w:World} {A:Option Addr} {cs:List Value} (h:Row w A cs) (o:Obj):Row (w.alloc o) A cs:=
 h.below ((Below.refl _ _).alloc (Nat.le_refl _) o)
theorem Row.one {w:World} {A:Option Addr} {α:Type} {f:α→Value} {xs:List α} (h:Row w A (xs.map f)) {k:Nat} (hk:k<xs.length) :
  ∃ b o,A=some ⟨b,o,none⟩∧w.cell? ⟨b,o+k,none⟩=some (f xs[k]):=by
 obtain ⟨b,o,e,hc⟩:=h (by simp;omega);exact ⟨b,o,e,hc k _ (by simp [hk])⟩
section
variable {P:Program} {ops:Array Oper} {rest:List Oper} {o:Oper} {a:Act} {Q:Exit→Act→World→Prop}
variable {base e t size bytes n m:Nat} {z v:Value} {xs:List Value} {W W1:World} {B:Nat}
end
end Go.Proofs.Ytfffbioafhppiaa
namespace Go.Proofs.Ytfffbioafhppiaa.Ev
section
def sw (i x:Nat):Nat:=if x=i then i-1 else if x+1=i then i else x
theorem sw_sw {i:Nat} (h:0<i) (x:Nat):sw i (sw i x)=x:=by
 unfold sw;repeat' split
 all_goals omega
structure Pm (n:Nat) where
 f:Nat→Nat
 g:Nat→Nat
 fg:∀ x,f (g x)=x
 gf:∀ x,g (f x)=x
 out:∀ x,n≤x→f x=x
namespace Pm
variable {n:Nat}
theorem inj (p:Pm n) {x y:Nat} (h:p.f x=p.f y):x=y:=by rw [← p.gf x,← p.gf y,h]
theorem injg (p:Pm n) {x y:Nat} (h:p.g x=p.g y):x=y:=by rw [← p.fg x,← p.fg y,h]
theorem outg (p:Pm n) (x:Nat) (h:n≤x):p.g x=x:=by
 have:=p.out x h;have h2:=p.gf x;rw [this] at h2;exact h2
theorem lt (p:Pm n) {x:Nat} (h:x<n):p.f x<n:=by
 rcases Nat.lt_or_ge (p.f x) n with h1|h1
 ·exact h1
 ·have h2:=p.outg _ h1;rw [p.gf] at h2;omega
theorem ltg (p:Pm n) {x:Nat} (h:x<n):p.g x<n:=by
 rcases Nat.lt_or_ge (p.g x) n with h1|h1
 ·exact h1
 ·have h2:=p.out _ h1;rw [p.fg] at h2;omega
theorem ext {p q:Pm n} (h:∀ x,p.f x=q.f x):p=q:=by
 have h2:∀ x,p.g x=q.g x:=fun x=>by
  apply p.inj;rw [p.fg,h,q.fg]
 cases p;cases q;congr
 ·exact funext h
 ·exact funext h2
def L (i:Nat) (h:0<i∧i<n) (p:Pm n):Pm n:=⟨fun x=>p.f (sw i x),fun x=>sw i (p.g x),fun x=>by rw [sw_sw h.1,p.fg],fun x=>by rw [p.gf,sw_sw h.1],fun x hx=>by
 have:sw i x=x:=by unfold sw;rw [if_neg (by omega),if_neg (by omega)]
 rw [this];exact p.out x hx⟩
def R (i:Nat) (h:0<i∧i<n) (p:Pm n):Pm n:=⟨fun x=>sw i (p.f x),fun x=>p.g (sw i x),fun x=>by rw [p.fg,sw_sw h.1],fun x=>by rw [sw_sw h.1,p.gf],fun x hx=>by
 rw [p.out x hx];unfold sw;rw [if_neg (by omega),if_neg (by omega)]⟩
def beg (p:Pm n) (i:Nat):Prop:=p.f i<p.f (i-1)
def fin (p:Pm n) (i:Nat):Prop:=p.g i<p.g (i-1)
theorem nbeg {p:Pm n} {i:Nat} (h:0<i):¬ p.beg i↔p.f (i-1)<p.f i:=by
 unfold beg;constructor
 ·intro h1;rcases Nat.lt_or_ge (p.f (i-1)) (p.f i) with h2|h2
  ·exact h2
  ·have:p.f (i-1)=p.f i:=by omega
   have:=p.inj this;omega
 ·intro h1;omega
theorem nfin {p:Pm n} {i:Nat} (h:0<i):¬ p.fin i↔p.g (i-1)<p.g i:=by
 unfold fin;constructor
 ·intro h1;rcases Nat.lt_or_ge (p.g (i-1)) (p.g i) with h2|h2
  ·exact h2
  ·have:p.g (i-1)=p.g i:=by omega
   have:=p.injg this;omega
 ·intro h1;omega
theorem sw_lt {i x y:Nat} (h:0<i) (hxy:x<y) (hs:sw i y<sw i x):x+1=i∧y=i:=by
 unfold sw at hs
 repeat' split at hs
 all_goals omega
theorem sw_keep {i x y:Nat} (h:0<i) (hxy:x<y) (hn:¬ (x+1=i∧y=i)):sw i x<sw i y:=by
 unfold sw
 repeat' split
 all_goals omega
theorem fin_of_L {p:Pm n} {i j:Nat} (hi:0<i∧i<n) (hj:0<j) (hb:p.beg i) (h:(L i hi p).fin j):p.fin j:=by
 apply Classical.byContradiction;intro hn;have h1:=(nfin hj).1 hn;have h2:sw i (p.g j)<sw i (p.g (j-1)):=h;obtain ⟨h3,h4⟩:=sw_lt hi.1 h1 h2;have h5:p.f i=j:=by rw [← h4,p.fg]
 have h6:p.f (i-1)=j-1:=by rw [show i-1=p.g (j-1) by omega,p.fg]
 unfold beg at hb;omega
theorem beg_R {p:Pm n} {i j:Nat} (hj:0<j∧j<n) (hi:0<i) (hb:p.beg i) (hf:¬ p.fin j):(R j hj p).beg i:=by
 show sw j (p.f i)<sw j (p.f (i-1));apply sw_keep hj.1 hb
 rintro ⟨h1,h2⟩
 have h3:p.g j=i-1:=by rw [← h2,p.gf]
 have h4:p.g (j-1)=i:=by rw [show j-1=p.f i by omega,p.gf]
 have:=(nfin hj.1).1 hf;omega
end Pm
inductive Mv {n:Nat}:List (Pm n)→List (Pm n)→Prop
 | here (a b:Pm n) (l:List (Pm n)) (i:Nat) (hi:0<i∧i<n) (hb:b.beg i) (hf:¬ a.fin i):Mv (a::b::l) (a.R i hi::b.L i hi::l)
 | there (a:Pm n) {l m:List (Pm n)} (h:Mv l m):Mv (a::l) (a::m)
inductive Mvs {n:Nat}:List (Pm n)→List (Pm n)→Prop
 | refl (s:List (Pm n)):Mvs s s
 | step {s t u:List (Pm n)} (h:Mv s t) (k:Mvs t u):Mvs s u
variable {n:Nat}
theorem Mvs.trans {s t u:List (Pm n)} (h:Mvs s t) (k:Mvs t u):Mvs s u:=by
 induction h with
 | refl s=>exact k
 | step h _ ih=>exact .step h (ih k)
theorem Mvs.one {s t:List (Pm n)} (h:Mv s t):Mvs s t:=.step h (.refl _)
theorem Mvs.there (a:Pm n) {s t:List (Pm n)} (h:Mvs s t):Mvs (a::s) (a::t):=by
 induction h with
 | refl s=>exact .refl _
 | step h _ ih=>exact .step (.there a h) ih
theorem Mv.app {s t:List (Pm n)} (r:List (Pm n)) (h:Mv s t):Mv (s++r) (t++r):=by
 induction h with
 | here a b l i hi hb hf=>exact .here a b (l++r) i hi hb hf
 | there a _ ih=>exact .there a ih
theorem Mvs.app {s t:List (Pm n)} (r:List (Pm n)) (h:Mvs s t):Mvs (s++r) (t++r):=by
 induction h with
 | refl s=>exact .refl _
 | step h _ ih=>exact .step (h.app r) ih
theorem Mvs.pre (r:List (Pm n)) {s t:List (Pm n)} (h:Mvs s t):Mvs (r++s) (r++t):=by
 induction r with
 | nil=>exact h
 | cons a r ih=>exact ih.there a
theorem Mv.len {s t:List (Pm n)} (h:Mv s t):t.length=s.length:=by
 induction h with
 | here=>rfl
 | there a _ ih=>simp [ih]
theorem Mvs.len {s t:List (Pm n)} (h:Mvs s t):t.length=s.length:=by
 induction h with
 | refl=>rfl
 | step h _ ih=>rw [ih,h.len]
namespace Pm
theorem sw_comm {i j:Nat} (h:i+2≤j) (hi:0<i) (x:Nat):sw i (sw j x)=sw j (sw i x):=by
 unfold sw
 repeat' split
 all_goals omega
theorem sw_at (i:Nat):sw i i=i-1:=by unfold sw;rw [if_pos rfl]
theorem sw_pre {i:Nat} (h:0<i):sw i (i-1)=i:=by unfold sw;rw [if_neg (by omega),if_pos (by omega)]
theorem sw_ne {i x:Nat} (h1:x≠i) (h2:x+1≠i):sw i x=x:=by unfold sw;rw [if_neg h1,if_neg h2]
theorem sw_braid {i:Nat} (hi:0<i) (x:Nat):sw i (sw (i+1) (sw i x))=sw (i+1) (sw i (sw (i+1) x)):=by
 have s1:sw i (i+1)=i+1:=sw_ne (by omega) (by omega);have s2:sw (i+1) (i-1)=i-1:=sw_ne (by omega) (by omega);have s3:sw (i+1) (i+1)=i:=sw_at (i+1);have s4:sw (i+1) i=i+1:=sw_pre (i:=i+1) (by omega);have s5:=sw_at i;have s6:=sw_pre hi
 by_cases h1:x=i-1
 ·rw [h1,s6,s4,s1,s2,s6,s4]
 ·by_cases h2:x=i
  ·rw [h2,s5,s2,s6,s4,s1,s3]
  ·by_cases h3:x=i+1
   ·rw [h3,s1,s3,s5,s2]
   ·rw [sw_ne (i:=i) (x:=x) (by omega) (by omega),sw_ne (i:=i+1) (x:=x) (by omega) (by omega),sw_ne (i:=i) (x:=x) (by omega) (by omega),sw_ne (i:=i+1) (x:=x) (by omega) (by omega)]
theorem here2 (a b:Pm n) (l:List (Pm n)) {i j:Nat} (hi:0<i∧i<n) (hj:0<j∧j<n) (hij:i<j) (hb:b.beg i) (hb2:b.beg j) (hf:¬ a.fin i) (hf2:¬ a.fin j) :
  ∃ u,Mvs (a.R i hi::b.L i hi::l) u∧Mvs (a.R j hj::b.L j hj::l) u:=by
 have f1:=(nfin hi.1).1 hf;have f2:=(nfin hj.1).1 hf2;unfold beg at hb hb2
 by_cases h:i+2≤j
 ·refine ⟨(a.R i hi).R j hj::(b.L i hi).L j hj::l,.one (.here _ _ _ j hj ?_ ?_),?_⟩
  ·show b.f (sw i j)<b.f (sw i (j-1));rw [sw_ne (by omega) (by omega),sw_ne (by omega) (by omega)];exact hb2
  ·rw [nfin hj.1];show a.g (sw i (j-1))<a.g (sw i j);rw [sw_ne (by omega) (by omega),sw_ne (by omega) (by omega)];exact f2
  ·have e1:(a.R i hi).R j hj=(a.R j hj).R i hi:=ext fun x=>(sw_comm h hi.1 _).symm;have e2:(b.L i hi).L j hj=(b.L j hj).L i hi:=ext fun x=>by
    show b.f (sw i (sw j x))=b.f (sw j (sw i x));rw [sw_comm h hi.1]
   rw [e1,e2];refine .one (.here _ _ _ i hi ?_ ?_)
   ·show b.f (sw j i)<b.f (sw j (i-1));rw [sw_ne (by omega) (by omega),sw_ne (by omega) (by omega)];exact hb
   ·rw [nfin hi.1];show a.g (sw j (i-1))<a.g (sw j i);rw [sw_ne (by omega) (by omega),sw_ne (by omega) (by omega)];exact f1
 ·have hj2:j=i+1:=by omega
  subst hj2;rw [show i+1-1=i by omega] at f2 hb2;have s1:sw i (i+1)=i+1:=sw_ne (by omega) (by omega);have s2:sw (i+1) (i-1)=i-1:=sw_ne (by omega) (by omega);have s3:sw (i+1) (i+1)=i:=sw_at (i+1);have s4:sw (i+1) i=i+1:=sw_pre (i:=i+1) (by omega);have s5:=sw_at i;have s6:=sw_pre hi.1;refine ⟨((a.R i hi).R (i+1) hj).R i hi::((b.L i hi).L (i+1) hj).L i hi::l,.step (.here _ _ _ (i+1) hj ?_ ?_) (.one (.here _ _ _ i hi ?_ ?_)),?_⟩
  ·show b.f (sw i (i+1))<b.f (sw i i);rw [s1,s5];omega
  ·rw [nfin hj.1];show a.g (sw i i)<a.g (sw i (i+1));rw [s1,s5];omega
  ·show b.f (sw i (sw (i+1) i))<b.f (sw i (sw (i+1) (i-1)));rw [s4,s2,s1,s6];exact hb2
  ·rw [nfin hi.1];show a.g (sw i (sw (i+1) (i-1)))<a.g (sw i (sw (i+1) i));rw [s4,s2,s1,s6];exact f2
  ·have e1:((a.R i hi).R (i+1) hj).R i hi=((a.R (i+1) hj).R i hi).R (i+1) hj:=ext fun x=>sw_braid hi.1 _;have e2:((b.L i hi).L (i+1) hj).L i hi=((b.L (i+1) hj).L i hi).L (i+1) hj:=ext fun x=>by
    show b.f (sw i (sw (i+1) (sw i x)))=b.f (sw (i+1) (sw i (sw (i+1) x)));rw [sw_braid hi.1]
   rw [e1,e2];refine .step (.here _ _ _ i hi ?_ ?_) (.one (.here _ _ _ (i+1) hj ?_ ?_))
   ·show b.f (sw (i+1) i)<b.f (sw (i+1) (i-1));rw [s4,s2];omega
   ·rw [nfin hi.1];show a.g (sw (i+1) (i-1))<a.g (sw (i+1) i);rw [s4,s2];omega
   ·show b.f (sw (i+1) (sw i (i+1)))<b.f (sw (i+1) (sw i i));rw [s1,s5,s3,s2];exact hb
   ·rw [nfin hj.1];show a.g (sw (i+1) (sw i i))<a.g (sw (i+1) (sw i (i+1)));rw [s1,s5,s3,s2];exact f1
end Pm
theorem Mv.join {s t1 t2:List (Pm n)} (h:Mv s t1) (k:Mv s t2):∃ u,Mvs t1 u∧Mvs t2 u:=by
 induction h generalizing t2 with
 | here a b l i hi hb hf=>
  cases k with
  | here _ _ _ j hj hb2 hf2=>
   rcases Nat.lt_trichotomy i j with h|h|h
   ·exact Pm.here2 a b l hi hj h hb hb2 hf hf2
   ·subst h;exact ⟨_,.refl _,.refl _⟩
   ·obtain ⟨u,h1,h2⟩:=Pm.here2 a b l hj hi h hb2 hb hf2 hf;exact ⟨u,h2,h1⟩
  | there _ k=>
   cases k with
   | here _ c m j hj hb2 hf2=>exact ⟨a.R i hi::(b.L i hi).R j hj::c.L j hj::m,.one (.there _ (.here _ _ _ j hj hb2 (fun e=>hf2 (Pm.fin_of_L hi hj.1 hb e)))),.one (.here a (b.R j hj) _ i hi (Pm.beg_R hj hi.1 hb hf2) hf)⟩
   | there _ k=>exact ⟨a.R i hi::b.L i hi::_,.one (.there _ (.there _ k)),.one (.here a b _ i hi hb hf)⟩
 | there a h ih=>
  cases k with
  | here _ b l i hi hb hf=>
   cases h with
   | here _ c m j hj hb2 hf2=>exact ⟨a.R i hi::(b.L i hi).R j hj::c.L j hj::m,.one (.here a (b.R j hj) _ i hi (Pm.beg_R hj hi.1 hb hf2) hf),.one (.there _ (.here _ _ _ j hj hb2 (fun e=>hf2 (Pm.fin_of_L hi hj.1 hb e))))⟩
   | there _ k=>exact ⟨a.R i hi::b.L i hi::_,.one (.here a b _ i hi hb hf),.one (.there _ (.there _ k))⟩
  | there _ k=>
   obtain ⟨u,k1,k2⟩:=ih k;exact ⟨a::u,k1.there a,k2.there a⟩
def Sum (F:Nat→Nat):Nat→Nat
 | 0=>0
 | k+1=>Sum F k+F k
theorem zug {F G:Nat→Nat}:∀ k:Nat,(∀ x,x<k→F x=G x)→Sum F k=Sum G k
 | 0,_=>rfl
 | k+1,h=>by
  show Sum F k+F k=Sum G k+G k;rw [zug k (fun x hx=>h x (by omega)),h k (by omega)]
theorem zrc {F G:Nat→Nat} {p:Nat}:∀ k:Nat,p<k→(∀ x,x<k→x≠p→F x=G x)→Sum F k+G p=Sum G k+F p
 | k+1,hp,h=>by
  show Sum F k+F k+G p=Sum G k+G k+F p
  by_cases e:p=k
  ·subst e;rw [zug (G:=G) p (fun x hx=>h x (by omega) (by omega))];omega
  ·have:=zrc (F:=F) (G:=G) k (by omega) (fun x hx=>h x (by omega));rw [h k (by omega) (by omega)];omega
theorem zk4 {F G:Nat→Nat} {p q:Nat}:∀ k:Nat,p<q→q<k→(∀ x,x<k→x≠p→x≠q→F x=G x)→Sum F k+G p+G q=Sum G k+F p+F q
 | k+1,hp,hq,h=>by
  show Sum F k+F k+G p+G q=Sum G k+G k+F p+F q
  by_cases e:q=k
  ·subst e;have:=zrc (F:=F) (G:=G) q hp (fun x hx hn=>h x (by omega) hn (by omega));omega
  ·have:=zk4 (F:=F) (G:=G) k hp (by omega) (fun x hx=>h x (by omega));rw [h k (by omega) (by omega) (by omega)];omega
theorem zuf {F:Nat→Nat} {b:Nat}:∀ k:Nat,(∀ x,x<k→F x≤b)→Sum F k≤k*b
 | 0,_=>Nat.zero_le _
 | k+1,h=>by
  show Sum F k+F k≤_;have h1:=zuf k (fun x hx=>h x (by omega));have h2:=h k (by omega);rw [Nat.succ_mul];omega
namespace Pm
def W (p:Pm n):Nat:=Sum (fun x=>x*p.f x) n
theorem W_le (p:Pm n):p.W≤n*(n*n):=zuf n fun x hx=>Nat.mul_le_mul (by omega) (by have:=p.lt hx;omega)
theorem W_R (p:Pm n) {i:Nat} (hi:0<i∧i<n) (h:¬ p.fin i):(p.R i hi).W<p.W:=by
 have h1:=(nfin hi.1).1 h;have h2:=p.ltg hi.2;have h3:=zk4 (F:=fun x=>x*(p.R i hi).f x) (G:=fun x=>x*p.f x) n h1 h2 (fun x hx n1 n2=>by
  show x*sw i (p.f x)=x*p.f x;rw [sw_ne (fun e=>n2 (by rw [← e,p.gf])) (fun e=>n1 (by rw [show i-1=p.f x by omega,p.gf]))])
 have e1:(p.R i hi).f (p.g (i-1))=i:=by show sw i (p.f (p.g (i-1)))=i;rw [p.fg,sw_pre hi.1]
 have e2:(p.R i hi).f (p.g i)=i-1:=by show sw i (p.f (p.g i))=_;rw [p.fg,sw_at]
 simp only [e1,e2,p.fg] at h3;show Sum _ n<Sum _ n;have m1:p.g (i-1)*i=p.g (i-1)*(i-1)+p.g (i-1):=by
  conv=>lhs;rw [show i=(i-1)+1 by omega]
  rw [Nat.mul_succ];rfl
 have m2:p.g i*i=p.g i*(i-1)+p.g i:=by
  conv=>lhs;rw [show i=(i-1)+1 by omega]
  rw [Nat.mul_succ,show i-1+1=i by omega]
 omega
end Pm
def mu:List (Pm n)→Nat
 | []=>0
 | a::l=>a.W*(n*(n*n)+1) ^ l.length+mu l
theorem mu_lt:∀ l:List (Pm n),mu l<(n*(n*n)+1) ^ l.length
 | []=>by simp [mu]
 | a::l=>by
  show a.W*_+mu l<(n*(n*n)+1) ^ (l.length+1);have h1:=mu_lt l;have h2:=a.W_le;have h3:=Nat.mul_le_mul_right ((n*(n*n)+1) ^ l.length) h2;rw [Nat.pow_succ,Nat.mul_comm _ (n*(n*n)+1),Nat.succ_mul];omega
theorem Mv.mu {s t:List (Pm n)} (h:Mv s t):Ev.mu t<Ev.mu s:=by
 induction h with
 | here a b l i hi hb hf=>
  show (a.R i hi).W*(n*(n*n)+1) ^ (l.length+1)+Ev.mu (b.L i hi::l)<a.W*(n*(n*n)+1) ^ (l.length+1)+Ev.mu (b::l);have h1:=mu_lt (b.L i hi::l);have h2:=a.W_R hi hf;have h3:=Nat.mul_le_mul_right ((n*(n*n)+1) ^ (l.length+1)) (Nat.succ_le_of_lt h2);rw [Nat.succ_mul] at h3;rw [List.length_cons] at h1;omega
 | there a h ih=>
  show a.W*_+_<a.W*_+_;rw [h.len];omega
def Nrm (s:List (Pm n)):Prop:=∀ t,¬ Mv s t
theorem zvn {s t:List (Pm n)} (hs:Nrm s) (h:Mvs s t):t=s:=by
 cases h with
 | refl=>rfl
 | step h _=>exact absurd h (hs _)
theorem zi1:∀ (k:Nat) (s:List (Pm n)),mu s≤k→∃ t,Mvs s t∧Nrm t
 | k,s,h=>by
  by_cases hs:Nrm s
  ·exact ⟨s,.refl _,hs⟩
  ·have hs:∃ t,Mv s t:=Classical.byContradiction fun e=>hs fun t ht=>e ⟨t,ht⟩;obtain ⟨t,ht⟩:=hs;have:=ht.mu
   match k with
   | 0=>omega
   | k+1=>
    obtain ⟨u,h1,h2⟩:=zi1 k t (by omega);exact ⟨u,.step ht h1,h2⟩
theorem zj6:∀ (k:Nat) (s:List (Pm n)),mu s≤k→∀ {t u:List (Pm n)},Mvs s t→Mvs s u→Nrm t→Nrm u→t=u
 | k,s,hk,t,u,h1,h2,n1,n2=>by
  cases h1 with
  | refl=>exact (zvn n1 h2).symm
  | step m1 r1=>
   cases h2 with
   | refl=>exact absurd m1 (n2 _)
   | step m2 r2=>
    obtain ⟨v,j1,j2⟩:=m1.join m2;obtain ⟨w,w1,w2⟩:=zi1 _ v (Nat.le_refl _);have q1:=m1.mu;have q2:=m2.mu
    match k with
    | 0=>omega
    | k+1=>exact (zj6 k _ (by omega) r1 (j1.trans w1) n1 w2).trans (zj6 k _ (by omega) (j2.trans w1) r2 w2 n2)
def NF (s:List (Pm n)):List (Pm n):=Classical.choose (zi1 (mu s) s (Nat.le_refl _))
theorem NF_mv (s:List (Pm n)):Mvs s (NF s):=(Classical.choose_spec (zi1 (mu s) s (Nat.le_refl _))).1
theorem zda (s:List (Pm n)):Nrm (NF s):=(Classical.choose_spec (zi1 (mu s) s (Nat.le_refl _))).2
theorem NF_of {s t:List (Pm n)} (h:Mvs s t) (k:Nrm t):NF s=t:=zj6 _ s (Nat.le_refl _) (NF_mv s) h (zda s) k
theorem NF_eq {s t:List (Pm n)} (h:Mvs s t):NF t=NF s:=(NF_of (h.trans (NF_mv t)) (zda t)).symm
theorem zuj (s:List (Pm n)):(NF s).length=s.length:=(NF_mv s).len
def Lw (a b:Pm n):Prop:=∀ i:Nat,0<i→i<n→b.beg i→a.fin i
theorem zbb {a b:Pm n} {l:List (Pm n)}:Nrm (a::b::l)↔Lw a b∧Nrm (b::l):=by
 constructor
 ·intro h;refine ⟨fun i h1 h2 hb=>Classical.byContradiction fun hf=>h _ (.here a b l i ⟨h1,h2⟩ hb hf),fun t ht=>h _ (.there a ht)⟩
 ·rintro ⟨h1,h2⟩ t ht
  cases ht with
  | here _ _ _ i hi hb hf=>exact hf (h1 i hi.1 hi.2 hb)
  | there _ h=>exact h2 _ h
theorem zba (a:Pm n):Nrm [a]:=fun t ht=>by
 cases ht with
 | there _ h=>cases h
theorem zj7:Nrm ([]:List (Pm n)):=fun t ht=>by cases ht
structure Sl (a b a' b':Pm n):Prop where
 prod:∀ x,b'.f (a'.f x)=b.f (a.f x)
 inv:∀ x y,x<y→a.f y<a.f x→a'.f y<a'.f x
 sub:∀ x y,x<y→a'.f (a.g y)<a'.f (a.g x)→b.f y<b.f x
theorem Sl.refl (a b:Pm n):Sl a b a b:=⟨fun _=>rfl,fun _ _ _ h=>h,fun x y h k=>by rw [a.fg,a.fg] at k;omega⟩
theorem Sl.step {a b a' b':Pm n} {i:Nat} (hi:0<i∧i<n) (h:Sl a b a' b') (hb:b'.beg i) (hf:¬ a'.fin i):Sl a b (a'.R i hi) (b'.L i hi):=by
 refine ⟨fun x=>?_,fun x y hxy hx=>?_,fun x y hxy hx=>?_⟩
 ·show b'.f (sw i (sw i (a'.f x)))=_;rw [sw_sw hi.1];exact h.prod x
 ·have h1:=h.inv x y hxy hx;show sw i (a'.f y)<sw i (a'.f x);apply Pm.sw_keep hi.1 h1
  rintro ⟨e1,e2⟩
  have f1:=(Pm.nfin hi.1).1 hf;have g1:a'.g i=x:=by rw [← e2,a'.gf]
  have g2:a'.g (i-1)=y:=by rw [show i-1=a'.f y by omega,a'.gf]
  omega
 ·have hx:sw i (a'.f (a.g y))<sw i (a'.f (a.g x)):=hx;rcases Nat.lt_or_ge (a'.f (a.g y)) (a'.f (a.g x)) with h1|h1
  ·exact h.sub x y hxy h1
  ·have h2:a'.f (a.g x)<a'.f (a.g y):=by
    have:a'.f (a.g x)≠a'.f (a.g y):=fun e=>by
     have:=a.injg (a'.inj e);omega
    omega
   obtain ⟨e1,e2⟩:=Pm.sw_lt hi.1 h2 hx;have p1:=h.prod (a.g x);have p2:=h.prod (a.g y);rw [a.fg] at p1 p2;rw [← p1,← p2,e2,show a'.f (a.g x)=i-1 by omega];exact hb
theorem Mvs.pair {a b:Pm n}:∀ {s t:List (Pm n)},Mvs s t→∀ {a' b':Pm n},s=[a',b']→Sl a b a' b'→∃ c d,t=[c,d]∧Sl a b c d:=by
 intro s t h
 induction h with
 | refl s=>intro a' b' e k;exact ⟨a',b',e,k⟩
 | step h _ ih=>
  intro a' b' e k;subst e
  cases h with
  | here _ _ _ i hi hb hf=>exact ih rfl (k.step hi hb hf)
  | there _ h=>
   cases h with
   | there _ h=>cases h
theorem zrd (a b:Pm n):∃ c d,NF [a,b]=[c,d]∧Sl a b c d∧Lw c d:=by
 obtain ⟨c,d,h1,h2⟩:=(NF_mv [a,b]).pair rfl (Sl.refl a b);have:=zda [a,b];rw [h1] at this;exact ⟨c,d,h1,h2,(zbb.1 this).1⟩
theorem domino {a x p y p' a' w:Pm n} (h1:Lw a x) (s1:Sl x p y p') (l1:Lw y p') (s2:Sl a y a' w):Lw w p':=by
 intro i hi hin hb;apply Classical.byContradiction;intro hf;have f1:=(Pm.nfin hi).1 hf;have fy:=l1 i hi hin hb;unfold Pm.fin at fy
 -- v=a' after a⁻¹:y=w after v
 have hv:∀ z,w.f (a'.f (a.g z))=y.f z:=fun z=>by rw [s2.prod,a.fg]
 have vg:∀ z,a'.f (a.g (y.g z))=w.g z:=fun z=>by rw [← w.gf (a'.f (a.g (y.g z))),hv,y.fg]
 have iv:a'.f (a.g (y.g (i-1)))<a'.f (a.g (y.g i)):=by rw [vg,vg];exact f1
 -- u=y after x⁻¹:p=p' after u
 have hu:∀ z,p'.f (y.f (x.g z))=p.f z:=fun z=>by rw [s1.prod,x.fg]
 have ix:x.f (y.g (i-1))<x.f (y.g i):=by
  rcases Nat.lt_or_ge (x.f (y.g (i-1))) (x.f (y.g i)) with h|h
  ·exact h
  ·have h:x.f (y.g i)<x.f (y.g (i-1)):=by
    have:x.f (y.g i)≠x.f (y.g (i-1)):=fun e=>by
     have:=y.injg (x.inj e);omega
    omega
   have k:=s1.sub _ _ h (by rw [x.gf,x.gf,y.fg,y.fg];omega);rw [← hu,← hu,x.gf,x.gf,y.fg,y.fg] at k;unfold Pm.beg at hb;omega
 have yx:∀ s t,s<t→x.f t<x.f s→y.f t<y.f s:=s1.inv;have yv:∀ s t,s<t→a'.f (a.g t)<a'.f (a.g s)→y.f t<y.f s:=s2.sub
 -- a place where both begin
 have find:∀ k:Nat,k≤y.g (i-1)-y.g i→i≤y.f (y.g (i-1)-k)∨∃ j,y.g i<j∧j≤y.g (i-1)∧i≤y.f (j-1)∧y.f j<i:=by
  intro k hk;have:∀ m,m≤y.g (i-1)-y.g i→(∀ z,y.g i≤z→z≤y.g i+m→i≤y.f z)∨∃ j,y.g i<j∧j≤y.g (i-1)∧i≤y.f (j-1)∧y.f j<i:=by
   intro m
   induction m with
   | zero=>
    intro _;refine .inl fun z h1 h2=>?_;have:z=y.g i:=by omega
    rw [this,y.fg];exact Nat.le_refl _
   | succ m ih=>
    intro hm;rcases ih (by omega) with h|h
    ·by_cases e:y.f (y.g i+(m+1))<i
     ·exact .inr ⟨y.g i+(m+1),by omega,by omega,h _ (by omega) (by omega),e⟩
     ·refine .inl fun z h1 h2=>?_
      by_cases e2:z=y.g i+(m+1)
      ·rw [e2];omega
      ·exact h z h1 (by omega)
    ·exact .inr h
  rcases this (y.g (i-1)-y.g i) (Nat.le_refl _) with h|h
  ·exact .inl (h _ (by omega) (by omega))
  ·exact .inr h
 obtain ⟨j,j1,j2,j3,j4⟩:∃ j,y.g i<j∧j≤y.g (i-1)∧i≤y.f (j-1)∧y.f j<i:=by
  rcases find 0 (by omega) with h|h
  ·rw [Nat.sub_zero,y.fg] at h;omega
  ·exact h
 have key:∀ q:Nat→Nat,(∀ s t,s<t→q t<q s→y.f t<y.f s)→(∀ s t,q s=q t→s=t)→q (y.g (i-1))<q (y.g i)→q j<q (j-1):=by
  intro q hq hqi hq2;have r1:q (y.g i)≤q (j-1):=by
   rcases Nat.lt_or_ge (q (j-1)) (q (y.g i)) with h|h
   ·have hne:y.g i≠j-1:=fun e=>by rw [e] at h;omega
    have:=hq (y.g i) (j-1) (by omega) h;rw [y.fg] at this;omega
   ·exact h
  have r2:q j≤q (y.g (i-1)):=by
   rcases Nat.lt_or_ge (q (y.g (i-1))) (q j) with h|h
   ·have hne:j≠y.g (i-1):=fun e=>by rw [e] at h;omega
    have:=hq j (y.g (i-1)) (by omega) h;rw [y.fg] at this;have hne2:y.f j≠i-1:=fun e=>hne (by rw [← e,y.gf]);omega
   ·exact h
  omega
 have bx:x.f j<x.f (j-1):=key x.f yx (fun s t e=>x.inj e) ix;have bv:a'.f (a.g j)<a'.f (a.g (j-1)):=key (fun z=>a'.f (a.g z)) yv (fun s t e=>a.injg (a'.inj e)) iv;have hjn:j<n:=by
  have:=y.ltg (show i-1<n by omega);omega
 have fa:=h1 j (by omega) hjn bx;unfold Pm.fin at fa;have:=s2.inv (a.g j) (a.g (j-1)) fa (by rw [a.fg,a.fg];omega);omega
end
section
variable {n:Nat}
namespace Pm
def one (n:Nat):Pm n:=⟨fun x=>x,fun x=>x,fun _=>rfl,fun _=>rfl,fun _ _=>rfl⟩
def rv (n x:Nat):Nat:=if x<n then n-1-x else x
theorem rv_rv (n x:Nat):rv n (rv n x)=x:=by
 unfold rv
 by_cases h:x<n
 ·rw [if_pos h,if_pos (by omega)];omega
 ·rw [if_neg h,if_neg h]
def del (n:Nat):Pm n:=⟨rv n,rv n,rv_rv n,rv_rv n,fun x h=>by unfold rv;rw [if_neg (by omega)]⟩
def trn (p:Pm n):Pm n:=⟨fun x=>rv n (p.f (rv n x)),fun x=>rv n (p.g (rv n x)),fun x=>by rw [rv_rv,p.fg,rv_rv],fun x=>by rw [rv_rv,p.gf,rv_rv],fun x h=>by
 have:rv n x=x:=by unfold rv;rw [if_neg (by omega)]
 rw [this,p.out x h,this]⟩
theorem trn_trn (p:Pm n):p.trn.trn=p:=ext fun x=>by
 show rv n (rv n (p.f (rv n (rv n x))))=_;rw [rv_rv,rv_rv]
theorem del_fin {i:Nat} (h:0<i) (h2:i<n):(del n).fin i:=by
 show rv n i<rv n (i-1);unfold rv;rw [if_pos h2,if_pos (by omega)];omega
theorem one_beg (i:Nat) (h:0<i):¬ (one n).beg i:=by
 rw [nbeg h];show i-1<i;omega
theorem inc_id {f:Nat→Nat} (hf:∀ x,x<n→f x<n) (h:∀ i,0<i→i<n→f (i-1)<f i):∀ x,x<n→f x=x:=by
 have lo:∀ x,x<n→x≤f x:=by
  intro x
  induction x with
  | zero=>intro _;exact Nat.zero_le _
  | succ x ih=>
   intro hx;have h1:=ih (by omega);have h2:=h (x+1) (by omega) hx;rw [Nat.add_sub_cancel] at h2;omega
 have hi:∀ d x,x+d=n→0<d→f x≤x:=by
  intro d
  induction d with
  | zero=>intro x _ h0;omega
  | succ d ih=>
   intro x hx _
   by_cases hd:d=0
   ·have:=hf x (by omega);omega
   ·have h1:=ih (x+1) (by omega) (by omega);have h2:=h (x+1) (by omega) (by omega);rw [Nat.add_sub_cancel] at h2;omega
 intro x hx;have:=lo x hx;have:=hi (n-x) x (by omega) (by omega);omega
theorem one_of {p:Pm n} (h:∀ i,0<i→i<n→¬ p.beg i):p=one n:=ext fun x=>by
 by_cases hx:x<n
 ·exact inc_id (fun x h=>p.lt h) (fun i h1 h2=>(nbeg h1).1 (h i h1 h2)) x hx
 ·exact p.out x (by omega)
theorem del_of {p:Pm n} (h:∀ i,0<i→i<n→p.fin i):p=del n:=by
 have key:∀ x,p.g x=rv n x:=by
  intro x
  by_cases hx:x<n
  ·have h1:=inc_id (n:=n) (f:=fun y=>p.g (n-1-y)) (fun y hy=>p.ltg (by omega)) (fun i h1 h2=>by
    have h3:=h (n-i) (by omega) (by omega);unfold fin at h3;show p.g (n-1-(i-1))<p.g (n-1-i);rw [show n-1-(i-1)=n-i by omega,show n-1-i=n-i-1 by omega];exact h3) (n-1-x) (by omega)
   have h2:p.g (n-1-(n-1-x))=n-1-x:=h1;rw [show n-1-(n-1-x)=x by omega] at h2;unfold rv;rw [if_pos hx];exact h2
  ·rw [p.outg x (by omega)];unfold rv;rw [if_neg hx]
 apply ext;intro x;apply p.injg;rw [p.gf,key];exact (rv_rv n x).symm
end Pm
theorem zx0 (b:Pm n):Lw (Pm.del n) b:=fun i h1 h2 _=>Pm.del_fin h1 h2
theorem zuk (a:Pm n):Lw a (Pm.one n):=fun i h1 _ hb=>absurd hb (Pm.one_beg i h1)
theorem zxe {b:Pm n} (h:Lw (Pm.one n) b):b=Pm.one n:=Pm.one_of fun i h1 h2 hb=>by
 have h3:i<i-1:=h i h1 h2 hb;omega
theorem zre {a:Pm n} (h:Lw a (Pm.del n)):a=Pm.del n:=Pm.del_of fun i h1 h2=>h i h1 h2 (by
 show Pm.rv n i<Pm.rv n (i-1);unfold Pm.rv;rw [if_pos h2,if_pos (by omega)];omega)
theorem zui (p:Pm n):NF [Pm.one n,p]=[p,Pm.one n]:=by
 obtain ⟨c,d,h1,h2,h3⟩:=zrd (Pm.one n) p;have hd:d=Pm.one n:=Pm.one_of fun i i1 i2 hb=>by
  have hf:=h3 i i1 i2 hb;unfold Pm.fin at hf;unfold Pm.beg at hb;have:=h2.sub (c.g i) (c.g (i-1)) hf (by show c.f (c.g (i-1))<c.f (c.g i);rw [c.fg,c.fg];omega);rw [show p.f (c.g (i-1))=d.f (c.f (c.g (i-1))) from (h2.prod _).symm,show p.f (c.g i)=d.f (c.f (c.g i)) from (h2.prod _).symm,c.fg,c.fg] at this
  omega
 have hc:c=p:=Pm.ext fun x=>by
  have:=h2.prod x;rw [hd] at this;exact this
 rw [h1,hc,hd]
theorem rv_sw {i:Nat} (h:0<i∧i<n) (x:Nat):Pm.rv n (sw i x)=sw (n-i) (Pm.rv n x):=by
 by_cases h1:x=i
 ·subst h1;rw [Pm.sw_at];unfold Pm.rv;rw [if_pos (by omega),if_pos h.2,show n-1-x=n-x-1 by omega,Pm.sw_pre (by omega)];omega
 ·by_cases h2:x+1=i
  ·have:x=i-1:=by omega
   subst this;rw [Pm.sw_pre h.1];unfold Pm.rv;rw [if_pos h.2,if_pos (by omega),show n-1-(i-1)=n-i by omega,Pm.sw_at];omega
  ·rw [Pm.sw_ne h1 h2];have h3:Pm.rv n x≠n-i:=by
    unfold Pm.rv
    by_cases hx:x<n
    ·rw [if_pos hx];omega
    ·rw [if_neg hx];omega
   have h4:Pm.rv n x+1≠n-i:=by
    unfold Pm.rv
    by_cases hx:x<n
    ·rw [if_pos hx];omega
    ·rw [if_neg hx];omega
   rw [Pm.sw_ne h3 h4]
theorem rv_lt {x y:Nat} (hx:x<n) (hy:y<n):Pm.rv n x<Pm.rv n y↔y<x:=by
 unfold Pm.rv;rw [if_pos hx,if_pos hy];omega
theorem Mv.trn {s t:List (Pm n)} (h:Mv s t):Mv (s.map Pm.trn) (t.map Pm.trn):=by
 induction h with
 | here a b l i hi hb hf=>
  have hi2:0<n-i∧n-i<n:=by omega
  have e1:(a.R i hi).trn=a.trn.R (n-i) hi2:=Pm.ext fun x=>by
   show Pm.rv n (sw i (a.f (Pm.rv n x)))=sw (n-i) (Pm.rv n (a.f (Pm.rv n x)));rw [rv_sw hi]
  have e2:(b.L i hi).trn=b.trn.L (n-i) hi2:=Pm.ext fun x=>by
   show Pm.rv n (b.f (sw i (Pm.rv n x)))=Pm.rv n (b.f (Pm.rv n (sw (n-i) x)));rw [rv_sw hi2,show n-(n-i)=i by omega]
  show Mv (a.trn::b.trn::l.map Pm.trn) ((a.R i hi).trn::(b.L i hi).trn::l.map Pm.trn);rw [e1,e2];have r1:Pm.rv n (n-i)=i-1:=by unfold Pm.rv;rw [if_pos hi2.2];omega
  have r2:Pm.rv n (n-i-1)=i:=by unfold Pm.rv;rw [if_pos (by omega)];omega
  refine .here _ _ _ _ hi2 ?_ ?_
  ·show Pm.rv n (b.f (Pm.rv n (n-i)))<Pm.rv n (b.f (Pm.rv n (n-i-1)));rw [r1,r2,rv_lt (b.lt (by omega)) (b.lt hi.2)];exact hb
  ·rw [Pm.nfin hi2.1];show Pm.rv n (a.g (Pm.rv n (n-i-1)))<Pm.rv n (a.g (Pm.rv n (n-i)));rw [r1,r2,rv_lt (a.ltg hi.2) (a.ltg (by omega))];exact (Pm.nfin hi.1).1 hf
 | there a _ ih=>exact .there _ ih
theorem Mvs.trn {s t:List (Pm n)} (h:Mvs s t):Mvs (s.map Pm.trn) (t.map Pm.trn):=by
 induction h with
 | refl s=>exact .refl _
 | step h _ ih=>exact .step h.trn ih
theorem zpt (s:List (Pm n)):(s.map Pm.trn).map Pm.trn=s:=by
 rw [List.map_map]
 conv=>rhs;rw [← List.map_id s]
 exact List.map_congr_left fun p _=>p.trn_trn
theorem Nrm.trn {s:List (Pm n)} (h:Nrm s):Nrm (s.map Pm.trn):=fun t ht=>by
 have:=ht.trn;rw [zpt] at this;exact h _ this
theorem zxy (s:List (Pm n)):NF (s.map Pm.trn)=(NF s).map Pm.trn:=NF_of (NF_mv s).trn (zda s).trn
theorem zoj:(Pm.del n).trn=Pm.del n:=Pm.ext fun x=>by
 show Pm.rv n (Pm.rv n (Pm.rv n x))=Pm.rv n x;rw [Pm.rv_rv]
theorem zjn:(Pm.one n).trn=Pm.one n:=Pm.ext fun x=>Pm.rv_rv n x
def Chn:List (Pm n)→Prop
 | []=>True
 | [_]=>True
 | b::a::l=>Lw a b∧Chn (a::l)
theorem zpj {a b:Pm n} {l:List (Pm n)}:Nrm (l++[a,b])↔Nrm (l++[a])∧Lw a b:=by
 induction l with
 | nil=>exact ⟨fun h=>⟨zba a,(zbb.1 h).1⟩,fun h=>zbb.2 ⟨h.2,zba b⟩⟩
 | cons x l ih=>
  cases l with
  | nil=>
   show Nrm (x::a::[b])↔Nrm [x,a]∧_;rw [zbb,zbb,zbb];exact ⟨fun h=>⟨⟨h.1,zba a⟩,h.2.1⟩,fun h=>⟨h.1.1,h.2,zba b⟩⟩
  | cons y l=>
   show Nrm (x::y::(l++[a,b]))↔Nrm (x::y::(l++[a]))∧_;rw [zbb,zbb,show y::(l++[a,b])=y::l++[a,b] from rfl,ih]
   exact ⟨fun h=>⟨⟨h.1,h.2.1⟩,h.2.2⟩,fun h=>⟨h.1.1,h.1.2,h.2⟩⟩
theorem zk0:∀ l:List (Pm n),Chn l↔Nrm l.reverse
 | []=>⟨fun _=>zj7,fun _=>trivial⟩
 | [a]=>⟨fun _=>zba a,fun _=>trivial⟩
 | b::a::l=>by
  have ih:=zk0 (a::l);rw [List.reverse_cons] at ih;rw [List.reverse_cons,List.reverse_cons];show Lw a b∧Chn (a::l)↔Nrm ((l.reverse++[a])++[b]);rw [List.append_assoc,show [a]++[b]=[a,b] from rfl,zpj,ih]
  exact ⟨fun h=>⟨h.2,h.1⟩,fun h=>⟨h.2,h.1⟩⟩
def nf1 (a b:Pm n):Pm n:=(NF [a,b]).headD (Pm.one n)
def nf2 (a b:Pm n):Pm n:=(NF [a,b]).tail.headD (Pm.one n)
theorem nf12 (a b:Pm n):NF [a,b]=[nf1 a b,nf2 a b]∧Sl a b (nf1 a b) (nf2 a b)∧Lw (nf1 a b) (nf2 a b):=by
 obtain ⟨c,d,h1,h2,h3⟩:=zrd a b;have e1:nf1 a b=c:=by unfold nf1;rw [h1];rfl
 have e2:nf2 a b=d:=by unfold nf2;rw [h1];rfl
 rw [e1,e2];exact ⟨h1,h2,h3⟩
theorem zl0 {a b:Pm n} (h:nf1 a b=a):nf2 a b=b:=Pm.ext fun x=>by
 have h2:=(nf12 a b).2.1.prod (a.g x);rw [h,a.fg] at h2;exact h2
open Classical in
def pasR:List (Pm n)→Pm n→List (Pm n)
 | [],p=>[p]
 | x::r,p=>if nf1 x p=x then p::x::r else nf2 x p::pasR r (nf1 x p)
theorem zph:∀ (r:List (Pm n)) (p:Pm n),Mvs (r.reverse++[p]) (pasR r p).reverse
 | [],p=>.refl _
 | x::r,p=>by
  unfold pasR;split
  ·rw [List.reverse_cons,List.reverse_cons,List.reverse_cons];exact .refl _
  ·rw [List.reverse_cons,List.reverse_cons,List.append_assoc];have h1:=(NF_mv [x,p]).pre r.reverse;rw [(nf12 x p).1] at h1;have h2:=(zph r (nf1 x p)).app [nf2 x p];rw [List.append_assoc] at h2;exact h1.trans h2
theorem zlv:∀ (r:List (Pm n)) (p:Pm n),Chn r→Chn (pasR r p)
 | [],p,_=>trivial
 | [x],p,_=>by
  obtain ⟨_,s,l⟩:=nf12 x p;unfold pasR;split
  ·rename_i h;rw [h,zl0 h] at l;exact ⟨l,trivial⟩
  ·unfold pasR;exact ⟨l,trivial⟩
 | x::a::r,p,hc=>by
  obtain ⟨_,s,l⟩:=nf12 x p;unfold pasR;split
  ·rename_i h;rw [h,zl0 h] at l;exact ⟨l,hc⟩
  ·have ih:=zlv (a::r) (nf1 x p) hc.2;obtain ⟨_,s2,l2⟩:=nf12 a (nf1 x p);revert ih;unfold pasR;split
   ·exact fun ih=>⟨l,ih⟩
   ·exact fun ih=>by
     cases hr:pasR r (nf1 a (nf1 x p)) with
     | nil=>exact ⟨domino hc.1 s l s2,trivial⟩
     | cons b q=>rw [hr] at ih;exact ⟨domino hc.1 s l s2,ih⟩
theorem zvj {F:List (Pm n)} (h:Nrm F) (p:Pm n):NF (F++[p])=(pasR F.reverse p).reverse:=by
 refine NF_of ?_ ((zk0 _).1 (zlv _ _ ((zk0 _).2 (by rw [List.reverse_reverse];exact h))));have:=zph F.reverse p
 rwa [List.reverse_reverse] at this
structure Rep (l:List (Pm n)) (m:Nat) (F:List (Pm n)):Prop where
 eq:∃ r,NF l=List.replicate m (Pm.del n)++(F++List.replicate r (Pm.one n))
 no1:∀ p,p∈F→p≠Pm.one n
 noD:∀ p,p∈F→p≠Pm.del n
theorem zvm {s t:List (Pm n)} (h:Nrm (s++t)):Nrm s:=fun u hu=>h _ (hu.app t)
theorem zvl {s t:List (Pm n)} (h:Nrm (s++t)):Nrm t:=by
 induction s with
 | nil=>exact h
 | cons a s ih=>exact ih fun u hu=>h _ (.there a hu)
theorem zhp {F:List (Pm n)} (h:Nrm F):∀ m:Nat,Nrm (List.replicate m (Pm.del n)++F)
 | 0=>h
 | m+1=>by
  have ih:=zhp h m;rw [List.replicate_succ]
  cases hx:List.replicate m (Pm.del n)++F with
  | nil=>rw [List.cons_append,hx];exact zba _
  | cons b l=>rw [List.cons_append,hx];rw [hx] at ih;exact zbb.2 ⟨zx0 b,ih⟩
theorem zho {F:List (Pm n)} (h:Nrm F):∀ r:Nat,Nrm (F++List.replicate r (Pm.one n))
 | 0=>by rw [List.replicate_zero,List.append_nil];exact h
 | r+1=>by
  have ih:=zho h r;rw [List.replicate_succ'];rw [← List.append_assoc]
  cases hx:(F++List.replicate r (Pm.one n)).reverse with
  | nil=>
   have:F++List.replicate r (Pm.one n)=[]:=by rw [← List.reverse_reverse (F++_),hx];rfl
   rw [this];exact zba _
  | cons b l=>
   have:F++List.replicate r (Pm.one n)=l.reverse++[b]:=by rw [← List.reverse_reverse (F++_),hx,List.reverse_cons]
   rw [this] at ih ⊢;rw [List.append_assoc];exact zpj.2 ⟨ih,zuk b⟩
theorem zgu (p:Pm n):∀ r:Nat,Mvs (List.replicate r (Pm.one n)++[p]) (p::List.replicate r (Pm.one n))
 | 0=>.refl _
 | r+1=>by
  rw [List.replicate_succ,List.cons_append];have h1:=(zgu p r).there (Pm.one n);have h2:=(NF_mv [Pm.one n,p]).app (List.replicate r (Pm.one n));rw [zui] at h2;exact h1.trans h2
theorem zwp {l:List (Pm n)} {m r:Nat} {F:List (Pm n)} (h:NF l=List.replicate m (Pm.del n)++(F++List.replicate r (Pm.one n))) (p:Pm n):NF (l++[p])=List.replicate m (Pm.del n)++(NF (F++[p])++List.replicate r (Pm.one n)):=by
 refine NF_of ?_ (zhp (zho (zda _) r) m);have h1:=(NF_mv l).app [p];rw [h] at h1;refine h1.trans ?_;rw [List.append_assoc,List.append_assoc];refine Mvs.pre _ ?_;have h2:=(zgu p r).pre F;refine h2.trans ?_;rw [show F++p::List.replicate r (Pm.one n)=(F++[p])++List.replicate r (Pm.one n) by simp];exact (NF_mv _).app _
theorem zee:∀ {s:List (Pm n)},Nrm s→∃ (m:Nat) (F:List (Pm n)) (r:Nat),s=List.replicate m (Pm.del n)++(F++List.replicate r (Pm.one n))∧(∀ p,p∈F→p≠Pm.one n)∧∀ p,p∈F→p≠Pm.del n
 | [],_=>⟨0,[],0,rfl,fun p hp=>(by cases hp),fun p hp=>(by cases hp)⟩
 | a::s,h=>by
  obtain ⟨m,F,r,h1,h2,h3⟩:=zee (fun t ht=>h _ (.there a ht):Nrm s)
  by_cases ha:a=Pm.del n
  ·exact ⟨m+1,F,r,by rw [h1,ha,List.replicate_succ];rfl,h2,h3⟩
  ·have hm:m=0:=by
    cases m with
    | zero=>rfl
    | succ m=>
     rw [h1,List.replicate_succ,List.cons_append] at h;exact absurd (zre (zbb.1 h).1) ha
   subst hm
   by_cases hb:a=Pm.one n
   ·have hF:F=[]:=by
     cases F with
     | nil=>rfl
     | cons b F=>
      rw [h1,List.replicate_zero,List.nil_append,List.cons_append,hb] at h;exact absurd (zxe (zbb.1 h).1) (h2 b List.mem_cons_self)
    subst hF;exact ⟨0,[],r+1,by rw [h1,hb];rfl,fun p hp=>(by cases hp),fun p hp=>(by cases hp)⟩
   ·refine ⟨0,a::F,r,by rw [h1];rfl,fun p hp=>?_,fun p hp=>?_⟩
    ·rcases List.mem_cons.1 hp with rfl|hp
     ·exact hb
     ·exact h2 p hp
    ·rcases List.mem_cons.1 hp with rfl|hp
     ·exact ha
     ·exact h3 p hp
theorem zln (l:List (Pm n)):∃ m F,Rep l m F:=by
 obtain ⟨m,F,r,h1,h2,h3⟩:=zee (zda l);exact ⟨m,F,⟨r,h1⟩,h2,h3⟩
theorem zuc (h:2≤n):Pm.del n≠Pm.one n:=fun e=>by
 have h1:(Pm.del n).f 0=0:=by rw [e];rfl
 have h2:(Pm.del n).f 0=n-1:=by show Pm.rv n 0=_;unfold Pm.rv;rw [if_pos (by omega)];rfl
 omega
open Classical in
theorem zj2 (hn:2≤n) {l:List (Pm n)} {m m':Nat} {F F':List (Pm n)} (h:Rep l m F) (k:Rep l m' F'):m=m'∧F=F':=by
 have hne:=zuc hn;have key:∀ {m:Nat} {F:List (Pm n)},Rep l m F→(NF l).filter (fun p=>decide (p≠Pm.one n∧p≠Pm.del n))=F∧((NF l).filter (fun p=>decide (p=Pm.del n))).length=m:=by
  intro m F h;obtain ⟨⟨r,h1⟩,h2,h3⟩:=h;rw [h1];constructor
  ·rw [List.filter_append,List.filter_append,List.filter_eq_nil_iff.2,List.filter_eq_self.2,List.filter_eq_nil_iff.2,List.nil_append,List.append_nil]
   ·intro p hp;rw [List.eq_of_mem_replicate hp];simp
   ·intro p hp;simp only [decide_eq_true_eq];exact ⟨h2 p hp,h3 p hp⟩
   ·intro p hp;rw [List.eq_of_mem_replicate hp];simp
  ·rw [List.filter_append,List.filter_append,List.filter_eq_self.2,List.filter_eq_nil_iff.2,List.filter_eq_nil_iff.2,List.append_nil,List.append_nil,List.length_replicate]
   ·intro p hp;rw [List.eq_of_mem_replicate hp];simp only [decide_eq_true_eq];exact fun e=>hne e.symm
   ·intro p hp;simp only [decide_eq_true_eq];exact h3 p hp
   ·intro p hp;rw [List.eq_of_mem_replicate hp];simp
 obtain ⟨a1,a2⟩:=key h;obtain ⟨b1,b2⟩:=key k;exact ⟨a2.symm.trans b2,a1.symm.trans b1⟩
theorem Rep.nil:Rep ([]:List (Pm n)) 0 []:=⟨⟨0,NF_of (.refl _) zj7⟩,fun p hp=>(by cases hp),fun p hp=>(by cases hp)⟩
theorem Rep.trn {l:List (Pm n)} {m:Nat} {F:List (Pm n)} (h:Rep l m F):Rep (l.map Pm.trn) m (F.map Pm.trn):=by
 obtain ⟨⟨r,h1⟩,h2,h3⟩:=h;refine ⟨⟨r,?_⟩,fun p hp e=>?_,fun p hp e=>?_⟩
 ·rw [zxy,h1,List.map_append,List.map_append,List.map_replicate,List.map_replicate,zoj,zjn]
 ·obtain ⟨q,hq,rfl⟩:=List.mem_map.1 hp;exact h2 q hq (by rw [← q.trn_trn,e,zjn])
 ·obtain ⟨q,hq,rfl⟩:=List.mem_map.1 hp;exact h3 q hq (by rw [← q.trn_trn,e,zoj])
theorem Rep.more {l:List (Pm n)} {m m' r':Nat} {F F':List (Pm n)} (h:Rep l m F) (p:Pm n) (h1:NF (F++[p])=List.replicate m' (Pm.del n)++(F'++List.replicate r' (Pm.one n))) (h2:∀ p,p∈F'→p≠Pm.one n) (h3:∀ p,p∈F'→p≠Pm.del n):Rep (l++[p]) (m+m') F':=by
 obtain ⟨⟨r,e⟩,_⟩:=h;refine ⟨⟨r'+r,?_⟩,h2,h3⟩;rw [zwp e p,h1,← List.replicate_append_replicate,← List.replicate_append_replicate];simp only [List.append_assoc]
def ltr (i:Nat) (h:0<i∧i<n):Pm n:=(Pm.one n).R i h
def ctr (i:Nat) (h:0<i∧i<n):Pm n:=(Pm.del n).R i h
end
section
variable {n:Nat}
theorem zuh:∀ (k:Nat) {a b c d:Pm n},a.W≤k→Sl a b c d→Mvs [a,b] [c,d]
 | k,a,b,c,d,hk,h=>by
  by_cases hv:∃ i,0<i∧i<n∧c.f (a.g i)<c.f (a.g (i-1))
  ·obtain ⟨i,i1,i2,i3⟩:=hv;have hi:0<i∧i<n:=⟨i1,i2⟩;have hb:b.beg i:=h.sub (i-1) i (by omega) i3;have hf:¬ a.fin i:=fun hf=>by
    have:=h.inv (a.g i) (a.g (i-1)) hf (by rw [a.fg,a.fg];omega);omega
   have hW:=a.W_R hi hf;have h2:Sl (a.R i hi) (b.L i hi) c d:=by
    refine ⟨fun x=>?_,fun x y hxy hx=>?_,fun x y hxy hx=>?_⟩
    ·show d.f (c.f x)=b.f (sw i (sw i (a.f x)));rw [sw_sw i1];exact h.prod x
    ·have hx:sw i (a.f y)<sw i (a.f x):=hx;rcases Nat.lt_or_ge (a.f y) (a.f x) with g|g
     ·exact h.inv x y hxy g
     ·have g:a.f x<a.f y:=by
       have:a.f x≠a.f y:=fun e=>by have:=a.inj e;omega
       omega
      obtain ⟨e1,e2⟩:=Pm.sw_lt i1 g hx;have f1:a.g i=y:=by rw [← e2,a.gf]
      have f2:a.g (i-1)=x:=by rw [show i-1=a.f x by omega,a.gf]
      rw [f1,f2] at i3;exact i3
    ·have hx:c.f (a.g (sw i y))<c.f (a.g (sw i x)):=hx;show b.f (sw i y)<b.f (sw i x);rcases Nat.lt_or_ge (sw i x) (sw i y) with g|g
     ·exact h.sub _ _ g hx
     ·have hne:sw i x≠sw i y:=fun e=>by
       have:x=y:=by rw [← sw_sw i1 x,e,sw_sw i1]
       omega
      obtain ⟨e1,e2⟩:=Pm.sw_lt i1 hxy (show sw i y<sw i x by omega);have s1:sw i y=i-1:=by rw [e2,Pm.sw_at]
      have s2:sw i x=i:=by rw [show x=i-1 by omega,Pm.sw_pre i1]
      rw [s1,s2] at hx;omega
   match k with
   | 0=>omega
   | k+1=>exact .step (.here a b [] i hi hb hf) (zuh k (by omega) h2)
  ·have hv:∀ i,0<i→i<n→c.f (a.g (i-1))<c.f (a.g i):=fun i h1 h2=>by
    rcases Nat.lt_or_ge (c.f (a.g (i-1))) (c.f (a.g i)) with g|g
    ·exact g
    ·have:c.f (a.g (i-1))≠c.f (a.g i):=fun e=>by have:=a.injg (c.inj e);omega
     exact absurd ⟨i,h1,h2,by omega⟩ hv
   have hid:=Pm.inc_id (n:=n) (f:=fun x=>c.f (a.g x)) (fun x hx=>c.lt (a.ltg hx)) hv;have hc:c=a:=Pm.ext fun x=>by
    by_cases hx:x<n
    ·have:=hid (a.f x) (a.lt hx);have:c.f (a.g (a.f x))=a.f x:=this
     rwa [a.gf] at this
    ·rw [c.out x (by omega),a.out x (by omega)]
   have hd:d=b:=Pm.ext fun x=>by
    have:=h.prod (a.g x);rw [hc,a.fg] at this;exact this
   rw [hc,hd];exact .refl _
theorem NF_Sl {a b c d:Pm n} (h:Sl a b c d):NF [c,d]=NF [a,b]:=NF_eq (zuh _ (Nat.le_refl _) h)
theorem zdb {s t:List (Pm n)} (r u:List (Pm n)) (h:NF s=NF t):NF (r++(s++u))=NF (r++(t++u)):=by
 rw [← NF_eq (((NF_mv s).app u).pre r),h,NF_eq (((NF_mv t).app u).pre r)]
def E (s t:Int×List (Pm n)):Prop:=∃ (m m':Nat) (F:List (Pm n)),Rep s.2 m F∧Rep t.2 m' F∧s.1+m=t.1+m'
theorem E.refl (s:Int×List (Pm n)):E s s:=by
 obtain ⟨m,F,h⟩:=zln s.2;exact ⟨m,m,F,h,h,rfl⟩
theorem E.symm {s t:Int×List (Pm n)} (h:E s t):E t s:=by
 obtain ⟨m,m',F,h1,h2,h3⟩:=h;exact ⟨m',m,F,h2,h1,h3.symm⟩
theorem E.trans (hn:2≤n) {s t u:Int×List (Pm n)} (h:E s t) (k:E t u):E s u:=by
 obtain ⟨m,m',F,h1,h2,h3⟩:=h;obtain ⟨q,q',G,k1,k2,k3⟩:=k;obtain ⟨e1,e2⟩:=zj2 hn h2 k1;subst e1;subst e2;exact ⟨m,q',F,h1,k2,h3.trans k3⟩
theorem E.app {s t:Int×List (Pm n)} (h:E s t) (p:Pm n):E (s.1,s.2++[p]) (t.1,t.2++[p]):=by
 obtain ⟨m,m',F,h1,h2,h3⟩:=h;obtain ⟨k,G,r,g1,g2,g3⟩:=zee (zda (F++[p]));exact ⟨m+k,m'+k,G,h1.more p g1 g2 g3,h2.more p g1 g2 g3,by show s.1+((m+k:Nat):Int)=t.1+((m'+k:Nat):Int);omega⟩
theorem E.trn {s t:Int×List (Pm n)} (h:E s t) (c:Int):E (s.1+c,s.2.map Pm.trn) (t.1+c,t.2.map Pm.trn):=by
 obtain ⟨m,m',F,h1,h2,h3⟩:=h;exact ⟨m,m',_,h1.trn,h2.trn,by show s.1+c+m=t.1+c+m';omega⟩
theorem E.nf {pw:Int} {l l':List (Pm n)} (h:NF l=NF l'):E (pw,l) (pw,l'):=by
 obtain ⟨m,F,⟨r,h1⟩,h2,h3⟩:=zln l;exact ⟨m,m,F,⟨⟨r,h1⟩,h2,h3⟩,⟨⟨r,by rw [← h];exact h1⟩,h2,h3⟩,rfl⟩
theorem zxz (l:List (Pm n)):NF (Pm.del n::l)=Pm.del n::NF l:=NF_of ((NF_mv l).there _) (zhp (zda l) 1)
theorem E.del (pw:Int) (l:List (Pm n)):E (pw,Pm.del n::l) (pw+1,l):=by
 obtain ⟨m,F,⟨r,h1⟩,h2,h3⟩:=zln l;exact ⟨m+1,m,F,⟨⟨r,by rw [zxz,h1,List.replicate_succ];rfl⟩,h2,h3⟩,⟨⟨r,h1⟩,h2,h3⟩,by show pw+((m+1:Nat):Int)=pw+1+m;omega⟩
theorem E.one (pw:Int) (l:List (Pm n)):E (pw,l++[Pm.one n]) (pw,l):=by
 obtain ⟨m,F,⟨r,h1⟩,h2,h3⟩:=zln l;refine ⟨m,m,F,⟨⟨r+1,?_⟩,h2,h3⟩,⟨⟨r,h1⟩,h2,h3⟩,rfl⟩;have h4:NF (l++[Pm.one n])=NF l++List.replicate 1 (Pm.one n):=NF_of ((NF_mv l).app _) (zho (zda l) 1);rw [h4,h1,← List.replicate_append_replicate];simp only [List.append_assoc]
theorem zq0 (a:Pm n):Sl a.trn (Pm.del n) (Pm.del n) a:=by
 refine ⟨fun x=>?_,fun x y hxy hx=>?_,fun x y hxy hx=>?_⟩
 ·show a.f (Pm.rv n x)=Pm.rv n (Pm.rv n (a.f (Pm.rv n x)));rw [Pm.rv_rv]
 ·show Pm.rv n y<Pm.rv n x
  by_cases hy:y<n
  ·exact (rv_lt hy (by omega)).2 hxy
  ·have h1:a.trn.f y=y:=a.trn.out y (by omega);rw [h1] at hx
   by_cases h2:x<n
   ·have:=a.trn.lt h2;omega
   ·rw [a.trn.out x (by omega)] at hx;omega
 ·have hx:Pm.rv n (a.trn.g y)<Pm.rv n (a.trn.g x):=hx;show Pm.rv n y<Pm.rv n x
  by_cases hy:y<n
  ·exact (rv_lt hy (by omega)).2 hxy
  ·rw [a.trn.outg y (by omega)] at hx;have h3:Pm.rv n y=y:=by unfold Pm.rv;rw [if_neg hy]
   rw [h3] at hx
   by_cases h2:x<n
   ·have h4:=a.trn.ltg h2;have:Pm.rv n (a.trn.g x)<n:=by unfold Pm.rv;rw [if_pos h4];omega
    omega
   ·rw [a.trn.outg x (by omega)] at hx;have h5:Pm.rv n x=x:=by unfold Pm.rv;rw [if_neg h2]
    omega
theorem zjg:∀ l:List (Pm n),NF (l.map Pm.trn++[Pm.del n])=NF (Pm.del n::l)
 | []=>rfl
 | a::l=>by
  have h1:=NF_eq (NF_mv (l.map Pm.trn++[Pm.del n])) |>.symm
  have h2:NF ((a::l).map Pm.trn++[Pm.del n])=NF (a.trn::Pm.del n::l):=by
   have:=zdb [a.trn] [] (zjg l);rw [List.append_nil,List.append_nil] at this;exact this
  rw [h2];have:=zdb [] l (NF_Sl (zq0 a));exact this.symm
def stepW (s:Int×List (Pm n)) (i:Int):Int×List (Pm n):=
 if h:0<i.natAbs∧i.natAbs<n then (if 0<i then (s.1,s.2++[ltr i.natAbs h]) else (s.1-1,s.2.map Pm.trn++[ctr i.natAbs h])) else s
theorem zan {s:Int×List (Pm n)} {k:Nat} (h:0<k∧k<n):stepW s (k:Int)=(s.1,s.2++[ltr k h]):=by
 unfold stepW;have e:((k:Int)).natAbs=k:=rfl;rw [dif_pos (show 0<((k:Int)).natAbs∧((k:Int)).natAbs<n from h),if_pos (by omega)];rfl
theorem za3 {s:Int×List (Pm n)} {k:Nat} (h:0<k∧k<n):stepW s (-(k:Int))=(s.1-1,s.2.map Pm.trn++[ctr k h]):=by
 unfold stepW;have e:(-(k:Int)).natAbs=k:=by omega
 simp only [e];rw [dif_pos h,if_neg (by omega)]
theorem E.step {s t:Int×List (Pm n)} (h:E s t) (i:Int):E (stepW s i) (stepW t i):=by
 unfold stepW;split
 ·split
  ·exact h.app _
  ·exact (h.trn (-1)).app _
 ·exact h
theorem E.word {s t:Int×List (Pm n)} (h:E s t) (w:List Int):E (w.foldl stepW s) (w.foldl stepW t):=by
 induction w generalizing s t with
 | nil=>exact h
 | cons i w ih=>exact ih (h.step i)
theorem Pm.top (p:Pm n) {x y:Nat} (hxy:x<y) (hy:n≤y):p.f x<p.f y:=by
 rw [p.out y hy]
 by_cases hx:x<n
 ·have:=p.lt hx;omega
 ·rw [p.out x (by omega)];exact hxy
theorem Sl.mk' {a b c d:Pm n} (prod:∀ x,d.f (c.f x)=b.f (a.f x)) (inv:∀ x y,x<y→y<n→a.f y<a.f x→c.f y<c.f x) (sub:∀ x y,x<y→y<n→c.f (a.g y)<c.f (a.g x)→b.f y<b.f x):Sl a b c d:=by
 refine ⟨prod,fun x y hxy hx=>?_,fun x y hxy hx=>?_⟩
 ·by_cases hy:y<n
  ·exact inv x y hxy hy hx
  ·have:=a.top hxy (by omega);omega
 ·by_cases hy:y<n
  ·exact sub x y hxy hy hx
  ·have h1:c.f (a.g y)=y:=by rw [a.outg y (by omega),c.out y (by omega)]
   have h2:c.f (a.g x)<y:=by
    by_cases h:x<n
    ·have:=c.lt (a.ltg h);omega
    ·rw [a.outg x (by omega),c.out x (by omega)];exact hxy
   omega
theorem zxx {a b:Pm n} (h:∀ x,b.f (a.f x)=Pm.rv n x):Sl a b (Pm.del n) (Pm.one n):=by
 refine Sl.mk' (fun x=>(h x).symm) (fun x y hxy hy _=>(rv_lt hy (by omega)).2 hxy) (fun x y _ _ hx=>?_);rw [← a.fg y,← a.fg x,h,h];exact hx
theorem E.undo (hn:2≤n) {pw:Int} {l:List (Pm n)} {a b:Pm n} (h:∀ x,b.f (a.f x)=Pm.rv n x):E (pw-1,l.map Pm.trn++[a,b]) (pw,l):=by
 have h1:E (pw-1,l.map Pm.trn++[a,b]) (pw-1,l.map Pm.trn++[Pm.del n,Pm.one n]):=by
  refine E.nf ?_;have:=zdb (l.map Pm.trn) [] (NF_Sl (zxx h)).symm;rw [List.append_nil,List.append_nil] at this;exact this
 have h2:E (pw-1,l.map Pm.trn++[Pm.del n,Pm.one n]) (pw-1,l.map Pm.trn++[Pm.del n]):=by
  have:=E.one (pw-1) (l.map Pm.trn++[Pm.del n])
  rwa [List.append_assoc] at this
 have h3:E (pw-1,l.map Pm.trn++[Pm.del n]) (pw-1,Pm.del n::l):=E.nf (zjg l);have h4:E (pw-1,Pm.del n::l) (pw,l):=by
  have:=E.del (pw-1) l
  rwa [Int.sub_add_cancel] at this
 exact ((h1.trans hn h2).trans hn h3).trans hn h4
theorem E.posneg (hn:2≤n) (s:Int×List (Pm n)) {k:Nat} (h:0<k∧k<n):E (stepW (stepW s (k:Int)) (-(k:Int))) s:=by
 rw [zan h,za3 h];show E (s.1-1,(s.2++[ltr k h]).map Pm.trn++[ctr k h]) s;rw [List.map_append,List.append_assoc];refine E.undo hn (pw:=s.1) (l:=s.2) (a:=(ltr k h).trn) (b:=ctr k h) fun x=>?_;show sw k (Pm.rv n (Pm.rv n (sw k (Pm.rv n x))))=_;rw [Pm.rv_rv,sw_sw h.1]
theorem E.negpos (hn:2≤n) (s:Int×List (Pm n)) {k:Nat} (h:0<k∧k<n):E (stepW (stepW s (-(k:Int))) (k:Int)) s:=by
 rw [za3 h,zan h];show E (s.1-1,(s.2.map Pm.trn++[ctr k h])++[ltr k h]) s;rw [List.append_assoc];refine E.undo hn (pw:=s.1) (l:=s.2) (a:=ctr k h) (b:=ltr k h) fun x=>?_;show sw k (sw k (Pm.rv n x))=_;rw [sw_sw h.1]
theorem zm2 {a:Pm n} {k:Nat} (h:0<k∧k<n) (hf:¬ a.fin k):NF [a,ltr k h]=NF [a.R k h,Pm.one n]:=by
 have e:(ltr k h).L k h=Pm.one n:=Pm.ext fun x=>sw_sw h.1 x;have hb:(ltr k h).beg k:=by
  show sw k k<sw k (k-1);rw [Pm.sw_at,Pm.sw_pre h.1];omega
 have:=Mvs.one (.here a (ltr k h) [] k h hb hf);rw [e] at this;exact (NF_eq this).symm
def Far (a b:Nat):Prop:=a+2≤b∨b+2≤a
theorem Far.symm {a b:Nat} (h:Far a b):Far b a:=h.elim .inr .inl
theorem zop {a b:Nat} (h:Far a b) (ha:0<a) (hb:0<b) (x:Nat):sw a (sw b x)=sw b (sw a x):=by
 rcases h with h|h
 ·exact Pm.sw_comm h ha x
 ·exact (Pm.sw_comm h hb x).symm
theorem zl5 {a b:Nat} (ha:0<a∧a<n) (hb:0<b∧b<n) (h:Far a b):¬ (ltr a ha).fin b:=by
 rw [Pm.nfin hb.1];show sw a (b-1)<sw a b;unfold Far at h;rw [Pm.sw_ne (by omega) (by omega),Pm.sw_ne (by omega) (by omega)];omega
theorem zxj {a b:Nat} (ha:0<a∧a<n) (hb:0<b∧b<n) (h:Far a b):NF [ltr a ha,ltr b hb]=NF [ltr b hb,ltr a ha]:=by
 rw [zm2 hb (zl5 ha hb h),zm2 ha (zl5 hb ha h.symm)];have e:(ltr a ha).R b hb=(ltr b hb).R a ha:=Pm.ext fun x=>(zop h ha.1 hb.1 x).symm;rw [e]
theorem zt9 {a b:Nat} (ha:0<a∧a<n) (hb:0<b∧b<n) (h:Far a b):NF [(ltr a ha).trn,ctr b hb]=NF [ctr b hb,ltr a ha]:=by
 have hl:∀ x,(ltr a ha).trn.f x=Pm.rv n (sw a (Pm.rv n x)):=fun _=>rfl;have hlg:∀ x,(ltr a ha).trn.g x=Pm.rv n (sw a (Pm.rv n x)):=fun _=>rfl;refine (NF_Sl (Sl.mk' (fun x=>?_) (fun x y hxy hy hx=>?_) (fun x y hxy hy hx=>?_))).symm
 ·show sw a (sw b (Pm.rv n x))=sw b (Pm.rv n (Pm.rv n (sw a (Pm.rv n x))));rw [Pm.rv_rv,zop h ha.1 hb.1]
 ·show sw b (Pm.rv n y)<sw b (Pm.rv n x);have h1:=(rv_lt hy (show x<n by omega)).2 hxy;refine Pm.sw_keep hb.1 h1 fun ⟨e1,e2⟩=>?_;rw [hl,hl] at hx;unfold Far at h;rw [Pm.sw_ne (i:=a) (by omega) (by omega),Pm.sw_ne (i:=a) (by omega) (by omega),Pm.rv_rv,Pm.rv_rv] at hx;omega
 ·show sw b (Pm.rv n y)<sw b (Pm.rv n x);have h1:=(rv_lt hy (show x<n by omega)).2 hxy;refine Pm.sw_keep hb.1 h1 fun ⟨e1,e2⟩=>?_;have hx:sw b (Pm.rv n ((ltr a ha).trn.g y))<sw b (Pm.rv n ((ltr a ha).trn.g x)):=hx;rw [hlg,hlg,Pm.rv_rv,Pm.rv_rv] at hx;unfold Far at h;rw [Pm.sw_ne (i:=a) (by omega) (by omega),Pm.sw_ne (i:=a) (by omega) (by omega),e2,show Pm.rv n y=b-1 by omega,Pm.sw_at,Pm.sw_pre hb.1] at hx;omega
theorem zua {a b:Nat} (ha:0<a∧a<n) (hb:0<b∧b<n) (h:Far a b):NF [(ctr a ha).trn,ctr b hb]=NF [Pm.del n,(ctr a ha).R b hb]:=by
 have hg:∀ x,(ctr a ha).trn.g x=sw a (Pm.rv n x):=fun x=>by
  show Pm.rv n (Pm.rv n (sw a (Pm.rv n x)))=_;rw [Pm.rv_rv]
 refine (NF_Sl (Sl.mk' (fun x=>?_) (fun x y hxy hy _=>(rv_lt hy (by omega)).2 hxy) (fun x y hxy hy hx=>?_))).symm
 ·show sw b (sw a (Pm.rv n (Pm.rv n x)))=sw b (Pm.rv n (Pm.rv n (sw a (Pm.rv n (Pm.rv n x)))));rw [Pm.rv_rv,Pm.rv_rv]
 ·have hx:Pm.rv n ((ctr a ha).trn.g y)<Pm.rv n ((ctr a ha).trn.g x):=hx;show sw b (Pm.rv n y)<sw b (Pm.rv n x);have h1:=(rv_lt hy (show x<n by omega)).2 hxy;refine Pm.sw_keep hb.1 h1 fun ⟨e1,e2⟩=>?_;rw [hg,hg] at hx;unfold Far at h;rw [Pm.sw_ne (i:=a) (by omega) (by omega),Pm.sw_ne (i:=a) (by omega) (by omega),rv_lt (by omega) (by omega)] at hx;omega
theorem E.far (s:Int×List (Pm n)) {i j:Int} (hi:0<i.natAbs∧i.natAbs<n) (hj:0<j.natAbs∧j.natAbs<n) (h:Far i.natAbs j.natAbs):E (stepW (stepW s i) j) (stepW (stepW s j) i):=by
 have sgn:∀ i:Int,0<i.natAbs→i=(i.natAbs:Int)∨i = -(i.natAbs:Int):=fun i h=>by omega
 have ap:∀ {pw:Int} {l s t:List (Pm n)},NF s=NF t→E (pw,l++s) (pw,l++t):=fun {pw l s t} h=>by
  refine E.nf ?_;have:=zdb l [] h
  rwa [List.append_nil,List.append_nil] at this
 generalize ha:i.natAbs=a at *;generalize hb:j.natAbs=b at *;rcases sgn i (by omega) with e1|e1 <;> rcases sgn j (by omega) with e2|e2 <;> rw [ha] at e1 <;> rw [hb] at e2 <;> subst e1 <;> subst e2
 ·rw [zan hi,zan hj,zan hj,zan hi];show E (s.1,(s.2++[ltr a hi])++[ltr b hj]) (s.1,(s.2++[ltr b hj])++[ltr a hi]);rw [List.append_assoc,List.append_assoc];exact ap (zxj hi hj h)
 ·rw [zan hi,za3 hj,za3 hj,zan hi];show E (s.1-1,(s.2++[ltr a hi]).map Pm.trn++[ctr b hj]) (s.1-1,(s.2.map Pm.trn++[ctr b hj])++[ltr a hi]);rw [List.map_append,List.append_assoc,List.append_assoc];exact ap (zt9 hi hj h)
 ·rw [za3 hi,zan hj,zan hj,za3 hi];show E (s.1-1,(s.2.map Pm.trn++[ctr a hi])++[ltr b hj]) (s.1-1,(s.2++[ltr b hj]).map Pm.trn++[ctr a hi]);rw [List.map_append,List.append_assoc,List.append_assoc];exact ap (zt9 hj hi h.symm).symm
 ·rw [za3 hi,za3 hj,za3 hj,za3 hi];show E (s.1-1-1,(s.2.map Pm.trn++[ctr a hi]).map Pm.trn++[ctr b hj]) (s.1-1-1,(s.2.map Pm.trn++[ctr b hj]).map Pm.trn++[ctr a hi]);rw [List.map_append,List.map_append,List.append_assoc,List.append_assoc];refine ap ((zua hi hj h).trans ?_);have e:(ctr a hi).R b hj=(ctr b hj).R a hi:=Pm.ext fun x=>(zop h hi.1 hj.1 _).symm;rw [e];exact (zua hj hi h.symm).symm
theorem zm3 {i j:Nat} (hi:0<i∧i<n) (hj:0<j∧j<n) (h:j=i+1∨i=j+1):NF [ltr i hi,ltr j hj,ltr i hi]=NF [((ltr i hi).R j hj).R i hi,Pm.one n,Pm.one n]:=by
 have f1:¬ (ltr i hi).fin j:=by
  rw [Pm.nfin hj.1];show sw i (j-1)<sw i j;unfold sw
  repeat' split
  all_goals omega
 have f2:¬ ((ltr i hi).R j hj).fin i:=by
  rw [Pm.nfin hi.1];show sw i (sw j (i-1))<sw i (sw j i);rcases h with h|h
  ·subst h;rw [Pm.sw_ne (i:=i+1) (x:=i-1) (by omega) (by omega),Pm.sw_pre hi.1,show sw (i+1) i=i+1 from Pm.sw_pre (i:=i+1) (by omega),Pm.sw_ne (by omega) (by omega)];omega
  ·subst h;rw [show j+1-1=j by omega,Pm.sw_at,Pm.sw_ne (i:=j) (x:=j+1) (by omega) (by omega),Pm.sw_at,Pm.sw_ne (i:=j+1) (x:=j-1) (by omega) (by omega)];omega
 have a1:=zdb [] [ltr i hi] (zm2 hj f1);have a2:=zdb [(ltr i hi).R j hj] [] (show NF [Pm.one n,ltr i hi]=NF [ltr i hi,Pm.one n] by
  rw [zui,NF_of (.refl _) (zbb.2 ⟨zuk _,zba _⟩)])
 have a3:=zdb [] [Pm.one n] (zm2 hi f2);exact a1.trans (a2.trans a3)
theorem E.braid (s:Int×List (Pm n)) {i j:Nat} (hi:0<i∧i<n) (hj:0<j∧j<n) (h:j=i+1∨i=j+1):E (stepW (stepW (stepW s i) j) i) (stepW (stepW (stepW s j) i) j):=by
 rw [zan hi,zan hj,zan hi,zan hj,zan hi,zan hj];show E (s.1,((s.2++[ltr i hi])++[ltr j hj])++[ltr i hi]) (s.1,((s.2++[ltr j hj])++[ltr i hi])++[ltr j hj]);rw [List.append_assoc,List.append_assoc,List.append_assoc,List.append_assoc];refine E.nf ?_;have e:((ltr i hi).R j hj).R i hi=((ltr j hj).R i hi).R j hj:=Pm.ext fun x=>by
  show sw i (sw j (sw i x))=sw j (sw i (sw j x));rcases h with h|h
  ·subst h;exact Pm.sw_braid hi.1 x
  ·subst h;exact (Pm.sw_braid hj.1 x).symm
 have h1:=zm3 hi hj h;have h2:=zm3 hj hi (h.elim .inr .inl);rw [← e] at h2;have:=zdb s.2 [] (h1.trans h2.symm)
 rwa [List.append_nil,List.append_nil] at this
end
section
open Go.RowKit
def bc {α:Type} (b:Bool) (x y:α):α:=Bool.rec y x b
theorem bc_eq {α:Type} (b:Bool) (x y:α):bc b x y=if b=true then x else y:=by cases b <;> rfl
inductive Tr (α:Type) where
 | nil
 | node (v:Option α) (l r:Tr α)
def Tr.get {α:Type} (t:Tr α):Nat→Option α:=
 Tr.rec (motive:=fun _=>Nat→Option α) (fun _=>none)
  (fun v _ _ gl gr n=>Bool.rec (Bool.rec (gr (Nat.div n 2)) (gl (Nat.div n 2)) (Nat.beq (Nat.mod n 2) 0)) v (Nat.beq n 0)) t
def Tr.set {α:Type} (f:Nat):Tr α→Nat→Option α→Tr α:=
 Nat.rec (motive:=fun _=>Tr α→Nat→Option α→Tr α) (fun t _ _=>t)
  (fun _ ih t n x=>Tr.rec (motive:=fun _=>Tr α)
   (Bool.rec (Bool.rec (.node none .nil (ih .nil (Nat.div n 2) x)) (.node none (ih .nil (Nat.div n 2) x) .nil) (Nat.beq (Nat.mod n 2) 0)) (.node x .nil .nil) (Nat.beq n 0))
   (fun v l r _ _=>Bool.rec (Bool.rec (.node v l (ih r (Nat.div n 2) x)) (.node v (ih l (Nat.div n 2) x) r) (Nat.beq (Nat.mod n 2) 0)) (.node x l r) (Nat.beq n 0)) t) f
section
variable {α:Type}
theorem Tr.get_nil (n:Nat):(Tr.nil:Tr α).get n=none:=rfl
theorem Tr.get_node (v:Option α) (l r:Tr α) (n:Nat):(Tr.node v l r).get n=if n=0 then v else if n%2=0 then l.get (n/2) else r.get (n/2):=by
 show (Bool.rec (Bool.rec (r.get (n/2)) (l.get (n/2)) (Nat.beq (n%2) 0)) v (Nat.beq n 0):Option α)=_;have h1:Nat.beq n 0=decide (n=0):=by cases n <;> rfl
 have h2:Nat.beq (n%2) 0=decide (n%2=0):=by cases n%2 <;> rfl
 rw [h1,h2]
 by_cases e1:n=0
 ·simp [e1]
 ·by_cases e2:n%2=0 <;> simp [e1,e2]
theorem Tr.set_nil (f n:Nat) (x:Option α):Tr.set (f+1) .nil n x=if n=0 then .node x .nil .nil else if n%2=0 then .node none (Tr.set f .nil (n/2) x) .nil else .node none .nil (Tr.set f .nil (n/2) x):=by
 show (Bool.rec (Bool.rec (.node none .nil (Tr.set f .nil (n/2) x)) (.node none (Tr.set f .nil (n/2) x) .nil) (Nat.beq (n%2) 0)) (.node x .nil .nil) (Nat.beq n 0):Tr α)=_;have h1:Nat.beq n 0=decide (n=0):=by cases n <;> rfl
 have h2:Nat.beq (n%2) 0=decide (n%2=0):=by cases n%2 <;> rfl
 rw [h1,h2]
 by_cases e1:n=0
 ·simp [e1]
 ·by_cases e2:n%2=0 <;> simp [e1,e2]
theorem Tr.set_node (f:Nat) (v:Option α) (l r:Tr α) (n:Nat) (x:Option α):Tr.set (f+1) (.node v l r) n x=if n=0 then .node x l r else if n%2=0 then .node v (Tr.set f l (n/2) x) r else .node v l (Tr.set f r (n/2) x):=by
 show (Bool.rec (Bool.rec (.node v l (Tr.set f r (n/2) x)) (.node v (Tr.set f l (n/2) x) r) (Nat.beq (n%2) 0)) (.node x l r) (Nat.beq n 0):Tr α)=_;have h1:Nat.beq n 0=decide (n=0):=by cases n <;> rfl
 have h2:Nat.beq (n%2) 0=decide (n%2=0):=by cases n%2 <;> rfl
 rw [h1,h2]
 by_cases e1:n=0
 ·simp [e1]
 ·by_cases e2:n%2=0 <;> simp [e1,e2]
theorem Tr.get_set:∀ (f:Nat) (t:Tr α) (n:Nat) (x:Option α) (m:Nat),n<2 ^ f→(Tr.set (f+1) t n x).get m=if m=n then x else t.get m
 | 0,t,n,x,m,h=>by
  have:n=0:=by omega
  subst this
  cases t with
  | nil=>rw [Tr.set_nil,if_pos rfl,Tr.get_node];simp [Tr.get_nil]
  | node v l r=>rw [Tr.set_node,if_pos rfl,Tr.get_node,Tr.get_node];by_cases e:m=0 <;> simp [e]
 | f+1,t,n,x,m,h=>by
  have hlt:n/2<2 ^ f:=by rw [Nat.pow_succ] at h;omega
  have key:∀ t2:Tr α,∀ m2,(Tr.set (f+1) t2 (n/2) x).get m2=if m2=n/2 then x else t2.get m2:=fun t2 m2=>Tr.get_set f t2 (n/2) x m2 hlt
  cases t with
  | nil=>
   rw [Tr.set_nil]
   by_cases e1:n=0
   ·rw [if_pos e1,Tr.get_node];subst e1;simp [Tr.get_nil]
   ·rw [if_neg e1]
    by_cases e2:n%2=0
    ·rw [if_pos e2,Tr.get_node,key];simp only [Tr.get_nil]
     by_cases e3:m=0
     ·rw [if_pos e3,if_neg (by omega)]
     ·rw [if_neg e3]
      by_cases e4:m%2=0
      ·rw [if_pos e4];by_cases e5:m=n
       ·rw [if_pos e5,if_pos (by omega)]
       ·rw [if_neg e5,if_neg (by omega)]
      ·rw [if_neg e4,if_neg (by omega)]
    ·rw [if_neg e2,Tr.get_node,key];simp only [Tr.get_nil]
     by_cases e3:m=0
     ·rw [if_pos e3,if_neg (by omega)]
     ·rw [if_neg e3]
      by_cases e4:m%2=0
      ·rw [if_pos e4,if_neg (by omega)]
      ·rw [if_neg e4];by_cases e5:m=n
       ·rw [if_pos e5,if_pos (by omega)]
       ·rw [if_neg e5,if_neg (by omega)]
  | node v l r=>
   rw [Tr.set_node]
   by_cases e1:n=0
   ·rw [if_pos e1,Tr.get_node,Tr.get_node];subst e1;by_cases e:m=0 <;> simp [e]
   ·rw [if_neg e1]
    by_cases e2:n%2=0
    ·rw [if_pos e2,Tr.get_node,Tr.get_node,key]
     by_cases e3:m=0
     ·rw [if_pos e3,if_neg (by omega),if_pos e3]
     ·rw [if_neg e3,if_neg e3]
      by_cases e4:m%2=0
      ·rw [if_pos e4,if_pos e4];by_cases e5:m=n
       ·rw [if_pos e5,if_pos (by omega)]
       ·rw [if_neg e5,if_neg (by omega)]
      ·rw [if_neg e4,if_neg e4,if_neg (by omega)]
    ·rw [if_neg e2,Tr.get_node,Tr.get_node,key]
     by_cases e3:m=0
     ·rw [if_pos e3,if_neg (by omega),if_pos e3]
     ·rw [if_neg e3,if_neg e3]
      by_cases e4:m%2=0
      ·rw [if_pos e4,if_pos e4,if_neg (by omega)]
      ·rw [if_neg e4,if_neg e4];by_cases e5:m=n
       ·rw [if_pos e5,if_pos (by omega)]
       ·rw [if_neg e5,if_neg (by omega)]
def Tr.put (t:Tr α) (n:Nat) (x:Option α):Tr α:=Tr.set 17 t n x
theorem Tr.get_put {t:Tr α} {n:Nat} {x:Option α} {m:Nat} (h:Nat.ble n 65535=true):(t.put n x).get m=if m=n then x else t.get m:=
 Tr.get_set 16 t n x m (by have:=Nat.le_of_ble_eq_true h;omega)
end
inductive U where
 | i (n:Int)
 | b (b:Bool)
 | s (s:ByteArray)
 | l (l:List (List U))
inductive Sh where
 | int (k:IntKind)
 | bool
 | str
 | list (sh:List Sh)
def U.int (u:U):Int:=U.rec (motive_1:=fun _=>Int) (motive_2:=fun _=>PUnit) (motive_3:=fun _=>PUnit) (fun n=>n) (fun _=>0) (fun _=>0) (fun _ _=>0) ⟨⟩ (fun _ _ _ _=>⟨⟩) ⟨⟩ (fun _ _ _ _=>⟨⟩) u
def U.bool (u:U):Bool:=U.rec (motive_1:=fun _=>Bool) (motive_2:=fun _=>PUnit) (motive_3:=fun _=>PUnit) (fun _=>false) (fun b=>b) (fun _=>false) (fun _ _=>false) ⟨⟩ (fun _ _ _ _=>⟨⟩) ⟨⟩ (fun _ _ _ _=>⟨⟩) u
def U.str (u:U):ByteArray:=U.rec (motive_1:=fun _=>ByteArray) (motive_2:=fun _=>PUnit) (motive_3:=fun _=>PUnit) (fun _=>ByteArray.empty) (fun _=>ByteArray.empty) (fun s=>s) (fun _ _=>ByteArray.empty) ⟨⟩ (fun _ _ _ _=>⟨⟩) ⟨⟩ (fun _ _ _ _=>⟨⟩) u
def U.list (u:U):List (List U):=U.rec (motive_1:=fun _=>List (List U)) (motive_2:=fun _=>PUnit) (motive_3:=fun _=>PUnit) (fun _=>[]) (fun _=>[]) (fun _=>[]) (fun l _=>l) ⟨⟩ (fun _ _ _ _=>⟨⟩) ⟨⟩ (fun _ _ _ _=>⟨⟩) u
inductive UOk (fz:Nat→Option (Array Value)):Sh→U→Value→Prop where
 | int (k:IntKind) (u:U):UOk fz (.int k) u (.int k u.int)
 | bool (u:U):UOk fz .bool u (.bool u.bool)
 | str (u:U):UOk fz .str u (.string u.str)
 | empty (sh:List Sh) (u:U) (a:Option Addr) (c:Nat) (hl:u.list=[]) (hc:c≤maxLen) (hn:a=none→c=0):UOk fz (.list sh) u (.slice a 0 c)
 | list (sh:List Sh) (u:U) (k off c:Nat) (arr:Array Value) (hk:fz k=some arr) (hl:u.list.length≤c) (hc:c≤maxLen) (hs:off+u.list.length*sh.length≤arr.size)
   (h:∀ (j f:Nat) (s:Sh) (x:Value),j<u.list.length→sh[f]? = some s→arr[off+(j*sh.length+f)]? = some x→UOk fz s ((u.list.getD j []).getD f (.i 0)) x):UOk fz (.list sh) u (.slice (some ⟨k,off,none⟩) u.list.length c)
theorem UOk.mono {fz fz':Nat→Option (Array Value)} (hle:∀ k a,fz k=some a→fz' k=some a) {s:Sh} {u:U} {x:Value} (h:UOk fz s u x):UOk fz' s u x:=by
 induction h with
 | int k u=>exact .int k u
 | bool u=>exact .bool u
 | str u=>exact .str u
 | empty sh u a c hl hc hn=>exact .empty sh u a c hl hc hn
 | list sh u k off c arr hk hl hc hs _ ih=>exact .list sh u k off c arr (hle _ _ hk) hl hc hs ih
theorem UOk.slice {fz:Nat→Option (Array Value)} {sh:List Sh} {u:U} {x:Value} (h:UOk fz (.list sh) u x):∃ a c,x = .slice a u.list.length c:=by
 cases h with
 | empty sh u a c hl hc hn=>exact ⟨a,c,by rw [hl];rfl⟩
 | list sh u k off c arr hk hl hc hs h=>exact ⟨_,c,rfl⟩
inductive SyC where
 | ints (k:IntKind) (l:List Int)
 | bools (l:List Bool)
 | strs (l:List ByteArray)
 | recs (sh:List Sh) (l:List (List U))
def SyC.sh (c:SyC):List Sh:=match c with
 | .ints k _=>[.int k]
 | .bools _=>[.bool]
 | .strs _=>[.str]
 | .recs sh _=>sh
def SyC.rows (c:SyC):List (List U):=match c with
 | .ints _ l=>l.map fun x=>[.i x]
 | .bools l=>l.map fun x=>[.b x]
 | .strs l=>l.map fun x=>[.s x]
 | .recs _ l=>l
def SyC.cnt (c:SyC):Nat:=match c with
 | .ints _ l=>l.length
 | .bools l=>l.length
 | .strs l=>l.length
 | .recs _ l=>l.length
def SyC.vals (c:SyC):Option (List Value):=match c with
 | .ints k l=>some (l.map (.int k))
 | .bools l=>some (l.map .bool)
 | .strs l=>some (l.map .string)
 | .recs _ _=>none
inductive EV where
 | v (x:Value)
 | ptr (i off:Nat)
 | sl (i z off len:Nat) (cap:Option Nat)
 | agg (cs:List EV)
 | tup (cs:List EV)
 | fn (f:FuncId) (caps:List EV)
 | yl (i:Nat)
 | mp (i:Nat)
 | slE (i z off:Nat)     -- no elements;what room there is,and where it is if there is any,is not known but that it ends where the block ends
 | mt (f:FuncId) (first:List EV)     -- a function with its first arguments
 | slO (i z len:Nat) (nn:Bool)     -- all of a sequence of open length;nn: it is not nil
 | lst (c:SyC)     -- a list that is left alone
 | lp (c:SyC) (j f:Nat)     -- a pointer into one: an element,a cell of it
 | ptrE (i z j f:Nat)     -- a pointer to a cell of an element
 | arr (c:SyC)     -- an array's value,with open contents
 | row (i v j f y z len:Nat)     -- the slice in the cell f of the element j (of y cells) of the nest i,as it was at its version v
 | prow (i v j f y z a g:Nat)     -- a pointer to the cell g of its element a
 | slX (i z off len:Nat)     -- a part of a block,to be read;it is where it is said if it has elements
structure Pl where
 k:Nat
 s:Nat
def Pl.at (p:Pl) (off:Nat):Addr:=⟨p.k,p.s+off,none⟩
structure G where
 g:Nat→Option (Pl×Nat)
 fz:Nat→Option (Array Value)
 rw:Nat→Nat→Nat→Option (Nat×Nat×Nat)     -- a nest,its version,a cell of it ↦ the block of the row that the cell holds,where it begins,and how many cells it has
instance:CoeFun G (fun _=>Nat→Option (Pl×Nat)):=⟨G.g⟩
def SlO (γ:G) (i z len:Nat) (nn:Bool) (x:Value):Prop:=(nn=false→x = .slice none 0 0∧len=0)∧(nn=true→∃ (b:Pl) (m c:Nat),γ i=some (b,m)∧x = .slice (some (b.at 0)) len c∧len≤c∧c≤maxLen∧(c*z=m∨c=0))
theorem SlO.mono {γ γ':G} (hle:∀ i p,γ i=some p→γ' i=some p) {i z len:Nat} {nn:Bool} {x:Value} (h:SlO γ i z len nn x):SlO γ' i z len nn x:=
 ⟨h.1,fun e=>let ⟨b,m,c,h1,h2⟩:=h.2 e;⟨b,m,c,hle _ _ h1,h2⟩⟩
def SlR (γ:G) (i v q z len:Nat) (x:Value):Prop:=(True∧x = .slice none 0 0∧len=0)∨∃ (k:Nat) (m:Nat×Nat) (c:Nat),γ.rw i v q=some (k,m)∧x = .slice (some ⟨k,m.1,none⟩) len c∧len≤c∧c≤maxLen∧(c*z=m.2∨c=0)
inductive EC (γ:G):EV→Value→Prop where
 | v (x:Value):EC γ (.v x) x
 | ptr (i off:Nat) (b:Pl) (n:Nat) (h:γ i=some (b,n)):EC γ (.ptr i off) (.pointer (some (b.at off)))
 | sl (i z off len:Nat) (cap:Option Nat) (b:Pl) (n c:Nat) (h:γ i=some (b,n)) (hl:len≤c) (hm:c≤maxLen) (hn:off+c*z≤n) (hc:∀ k,cap=some k→c=k) (hu:cap=none→off+c*z=n∨c=0):EC γ (.sl i z off len cap) (.slice (some (b.at off)) len c)
 | agg (cs:List EV) (vs:List Value) (hl:cs.length=vs.length) (h:∀ (j:Nat) (a:EV) (x:Value),cs[j]? = some a→vs[j]? = some x→EC γ a x):EC γ (.agg cs) (.agg vs.toArray)
 | tup (cs:List EV) (vs:List Value) (hl:cs.length=vs.length) (h:∀ (j:Nat) (a:EV) (x:Value),cs[j]? = some a→vs[j]? = some x→EC γ a x):EC γ (.tup cs) (.tuple vs.toArray)
 | fn (f:FuncId) (cs:List EV) (vs:List Value) (hl:cs.length=vs.length) (h:∀ (j:Nat) (a:EV) (x:Value),cs[j]? = some a→vs[j]? = some x→EC γ a x):EC γ (.fn f cs) (.func (.func f) #[] vs.toArray)
 | yl (i:Nat) (b:Pl) (n:Nat) (h:γ i=some (b,n)):EC γ (.yl i) (.func (.yield b.k) #[] #[])
 | mp (i:Nat) (b:Pl) (n:Nat) (h:γ i=some (b,n)):EC γ (.mp i) (.map (some b.k))
 | slO (i z len:Nat) (nn:Bool) (x:Value) (h:SlO γ i z len nn x):EC γ (.slO i z len nn) x
 | mt (f:FuncId) (cs:List EV) (vs:List Value) (hl:cs.length=vs.length) (h:∀ (j:Nat) (a:EV) (x:Value),cs[j]? = some a→vs[j]? = some x→EC γ a x):EC γ (.mt f cs) (.func (.func f) vs.toArray #[])
 | slE (i z off:Nat) (b:Pl) (n c off':Nat) (h:γ i=some (b,n)) (hm:c≤maxLen) (hn:0<c→off'=off∧off+c*z=n):EC γ (.slE i z off) (.slice (some (b.at off')) 0 c)
 | lst (c:SyC) (x:Value) (h:UOk γ.fz (.list c.sh) (.l c.rows) x):EC γ (.lst c) x
 | lp (c:SyC) (j f:Nat) (k off cp:Nat) (h:UOk γ.fz (.list c.sh) (.l c.rows) (.slice (some ⟨k,off,none⟩) c.rows.length cp)):EC γ (.lp c j f) (.pointer (some ⟨k,off+(j*c.sh.length+f),none⟩))
 | ptrE (i z j f:Nat) (b:Pl) (n:Nat) (h:γ i=some (b,n)):EC γ (.ptrE i z j f) (.pointer (some (b.at (j*z+f))))
 | arr (c:SyC) (vs:List Value) (h:c.vals=some vs):EC γ (.arr c) (.agg vs.toArray)
 | row (i v j f y z len:Nat) (x:Value) (h:(x = .slice none 0 0∧len=0)∨∃ (k:Nat) (m:Nat×Nat) (c:Nat),γ.rw i v (j*y+f)=some (k,m)∧x = .slice (some ⟨k,m.1,none⟩) len c∧len≤c∧c≤maxLen∧(c*z=m.2∨c=0)):EC γ (.row i v j f y z len) x
 | prow (i v j f y z a g:Nat) (k:Nat) (m:Nat×Nat) (h:γ.rw i v (j*y+f)=some (k,m)):EC γ (.prow i v j f y z a g) (.pointer (some ⟨k,m.1+(a*z+g),none⟩))
 | slX (i z off len:Nat) (b:Pl) (n c off':Nat) (h:γ i=some (b,n)) (hl:len≤c) (hm:c≤maxLen) (hn:off+len*z≤n) (ho:0<len→off'=off):EC γ (.slX i z off len) (.slice (some (b.at off')) len c)
theorem zia {γ:G} {i v j f y z len:Nat} {x:Value} (h:EC γ (.row i v j f y z len) x):∃ a c,x = .slice a len c:=by
 cases h with
 | row _ _ _ _ _ _ _ _ h=>
  rcases h with ⟨h,h0⟩|⟨k,m,c,_,h2,_⟩
  ·subst h0;exact ⟨_,_,h⟩
  ·exact ⟨_,c,h2⟩
structure GLe (γ γ':G):Prop where
 le:∀ i p,γ i=some p→γ' i=some p
 fr:∀ k a,γ.fz k=some a→γ'.fz k=some a
 rw:∀ i v q p,γ.rw i v q=some p→γ'.rw i v q=some p
instance {γ γ':G}:CoeFun (GLe γ γ') (fun _=>∀ i p,γ i=some p→γ' i=some p):=⟨GLe.le⟩
theorem GLe.refl (γ:G):GLe γ γ:=⟨fun _ _ h=>h,fun _ _ h=>h,fun _ _ _ _ h=>h⟩
theorem GLe.trans {a b c:G} (h:GLe a b) (k:GLe b c):GLe a c:=⟨fun i p e=>k i p (h i p e),fun i p e=>k.fr i p (h.fr i p e),fun i v q p e=>k.rw i v q p (h.rw i v q p e)⟩
theorem EC.mono {γ γ':G} (hle:GLe γ γ') {a:EV} {x:Value} (h:EC γ a x):EC γ' a x:=by
 induction h with
 | v x=>exact .v x
 | ptr i off b n h=>exact .ptr i off b n (hle _ _ h)
 | sl i z off len cap b n c h hl hm hn hc hu=>exact .sl i z off len cap b n c (hle _ _ h) hl hm hn hc hu
 | agg cs vs hl _ ih=>exact .agg cs vs hl ih
 | tup cs vs hl _ ih=>exact .tup cs vs hl ih
 | fn f cs vs hl _ ih=>exact .fn f cs vs hl ih
 | yl i b n h=>exact .yl i b n (hle _ _ h)
 | mp i b n h=>exact .mp i b n (hle _ _ h)
 | slE i z off b n c off' h hm hn=>exact .slE i z off b n c off' (hle _ _ h) hm hn
 | mt f cs vs hl _ ih=>exact .mt f cs vs hl ih
 | slO i z len nn x h=>exact .slO i z len nn x (h.mono hle.le)
 | lst c x h=>exact .lst c x (h.mono hle.fr)
 | lp c j f k off cp h=>exact .lp c j f k off cp (h.mono hle.fr)
 | ptrE i z j f b n h=>exact .ptrE i z j f b n (hle _ _ h)
 | arr c vs h=>exact .arr c vs h
 | row i v j f y z len x h=>exact .row i v j f y z len x (h.imp id fun ⟨k,m,c,h1,h2⟩=>⟨k,m,c,hle.rw _ _ _ _ h1,h2⟩)
 | prow i v j f y z a g k m h=>exact .prow i v j f y z a g k m (hle.rw _ _ _ _ h)
 | slX i z off len b n c off' h hl hm hn ho=>exact .slX i z off len b n c off' (hle _ _ h) hl hm hn ho
def ECL (γ:G) (cs:List EV) (vs:List Value):Prop:=cs.length=vs.length∧∀ (j:Nat) (a:EV) (x:Value),cs[j]? = some a→vs[j]? = some x→EC γ a x
theorem ECL.mono {γ γ':G} (hle:GLe γ γ') {cs:List EV} {vs:List Value} (h:ECL γ cs vs):ECL γ' cs vs:=⟨h.1,fun j a x ha hx=>(h.2 j a x ha hx).mono hle⟩
theorem ECL.nil (γ:G):ECL γ [] []:=⟨rfl,fun j a x h=>by simp at h⟩
theorem ECL.cons {γ:G} {a:EV} {x:Value} {cs:List EV} {vs:List Value} (h:EC γ a x) (hr:ECL γ cs vs):ECL γ (a::cs) (x::vs):=
 ⟨by simp [hr.1],fun j b y hb hy=>by
  cases j with
  | zero=>simp at hb hy;subst hb hy;exact h
  | succ j=>exact hr.2 j b y (by simpa using hb) (by simpa using hy)⟩
theorem ECL.inv {γ:G} {a:EV} {cs:List EV} {vs:List Value} (h:ECL γ (a::cs) vs):∃ x ys,vs=x::ys∧EC γ a x∧ECL γ cs ys:=by
 cases vs with
 | nil=>have:=h.1;simp at this
 | cons x ys=>exact ⟨x,ys,rfl,h.2 0 a x rfl rfl,by simpa using h.1,fun j b y hb hy=>h.2 (j+1) b y (by simpa using hb) (by simpa using hy)⟩
theorem ECL.at {γ:G} {cs:List EV} {vs:List Value} (h:ECL γ cs vs) {j:Nat} {a:EV} (ha:cs[j]? = some a):∃ x,vs[j]? = some x∧EC γ a x:=by
 have hlt:j<vs.length:=by rw [← h.1];exact (List.getElem?_eq_some_iff.1 ha).1
 exact ⟨vs[j],by simp [hlt],h.2 j a _ ha (by simp [hlt])⟩
theorem ECL.append {γ:G} {cs ds:List EV} {vs ws:List Value} (h:ECL γ cs vs) (k:ECL γ ds ws):ECL γ (cs++ds) (vs++ws):=
 ⟨by simp [h.1,k.1],fun j a x ha hx=>by
  rcases Nat.lt_or_ge j cs.length with hj|hj
  ·rw [List.getElem?_append_left hj] at ha;rw [List.getElem?_append_left (by rw [← h.1];exact hj)] at hx;exact h.2 j a x ha hx
  ·rw [List.getElem?_append_right hj] at ha;rw [List.getElem?_append_right (by rw [← h.1];exact hj),← h.1] at hx;exact k.2 _ a x ha hx⟩
theorem ECL.take {γ:G} {cs:List EV} {vs:List Value} (h:ECL γ cs vs) (n:Nat):ECL γ (cs.take n) (vs.take n):=
 ⟨by simp [h.1],fun j a x ha hx=>by
  rw [List.getElem?_take] at ha hx
  by_cases e:j<n
  ·rw [if_pos e] at ha hx;exact h.2 j a x ha hx
  ·rw [if_neg e] at ha;simp at ha⟩
theorem ECL.drop {γ:G} {cs:List EV} {vs:List Value} (h:ECL γ cs vs) (n:Nat):ECL γ (cs.drop n) (vs.drop n):=
 ⟨by simp [h.1],fun j a x ha hx=>by
  rw [List.getElem?_drop] at ha hx;exact h.2 _ a x ha hx⟩
theorem ECL.vals (γ:G) (zs:List Value):ECL γ (zs.map .v) zs:=
 ⟨by simp,fun j a x ha hx=>by rw [List.getElem?_map,hx] at ha;simp at ha;subst ha;exact .v x⟩
inductive ML (γ:G):List (Value×EV)→List (Value×Value)→Prop where
 | nil:ML γ [] []
 | cons (k:Value) {a:EV} {x:Value} {es:List (Value×EV)} {l:List (Value×Value)} (h:EC γ a x) (r:ML γ es l):ML γ ((k,a)::es) ((k,x)::l)
theorem ML.mono {γ γ':G} (hle:GLe γ γ') {es:List (Value×EV)} {l:List (Value×Value)} (h:ML γ es l):ML γ' es l:=by
 induction h with
 | nil=>exact .nil
 | cons k h _ ih=>exact .cons k (h.mono hle) ih
def kvs (ents:Array MapEntry):List (Value×Value):=ents.toList.map fun e=>(e.key,e.val)
def mkC (sh:List Sh) (l:List (List U)):SyC:=match sh with
 | [.int k]=>.ints k (l.map fun r=>(r.headD (.i 0)).int)
 | [.bool]=>.bools (l.map fun r=>(r.headD (.i 0)).bool)
 | [.str]=>.strs (l.map fun r=>(r.headD (.i 0)).str)
 | sh=>.recs sh l
theorem SyC.cnt_eq (c:SyC):c.cnt=c.rows.length:=by cases c <;> simp [SyC.cnt,SyC.rows]
def Sh.ev (s:Sh) (u:U):EV:=match s with
 | .int k=>.v (.int k u.int)
 | .bool=>.v (.bool u.bool)
 | .str=>.v (.string u.str)
 | .list sh=>.lst (mkC sh u.list)
theorem UOk.get {fz:Nat→Option (Array Value)} {sh:List Sh} {u:U} {k off c len:Nat} (h:UOk fz (.list sh) u (.slice (some ⟨k,off,none⟩) len c)) {j f:Nat} {s:Sh} (h1:j<u.list.length) (h2:sh[f]? = some s) :
  ∃ arr x,fz k=some arr∧arr[off+(j*sh.length+f)]? = some x∧UOk fz s ((u.list.getD j []).getD f (.i 0)) x:=by
 generalize hx:Value.slice (some ⟨k,off,none⟩) len c=x at h
 cases h with
 | empty _ _ a c hl hc hn=>rw [hl] at h1;simp at h1
 | list _ _ k' off' c' arr hk hl hc hs h=>
  injection hx with e1 e2 e3
  injection e1 with e1;injection e1 with e4 e5;subst e4;subst e5
  have hf:=(List.getElem?_eq_some_iff.1 h2).1;have hlt:off+(j*sh.length+f)<arr.size:=by
   have:(j+1)*sh.length≤u.list.length*sh.length:=Nat.mul_le_mul_right _ h1;rw [Nat.succ_mul] at this;omega
  exact ⟨arr,arr[off+(j*sh.length+f)],hk,by simp [hlt],h j f s _ h1 h2 (by simp [hlt])⟩
theorem UOk.same {fz:Nat→Option (Array Value)} {sh:List Sh} {u v:U} {x:Value} (h:UOk fz (.list sh) u x) (hl:v.list.length=u.list.length) (hc:∀ (j f:Nat) (s:Sh) (y:Value),j<u.list.length→sh[f]? = some s→UOk fz s ((u.list.getD j []).getD f (.i 0)) y→UOk fz s ((v.list.getD j []).getD f (.i 0)) y):UOk fz (.list sh) v x:=by
 cases h with
 | empty _ _ a c h0 hm hn=>exact .empty _ _ a c (List.eq_nil_of_length_eq_zero (by rw [hl,h0];rfl)) hm hn
 | list _ _ k off c arr hk hlc hm hs h=>
  rw [← hl];exact .list _ _ k off c arr hk (by omega) hm (by rw [hl];exact hs) fun j f s y hj hf hy=>hc j f s y (by omega) hf (h j f s y (by omega) hf hy)
theorem UOk.int_of {fz:Nat→Option (Array Value)} {k:IntKind} {u v:U} {x:Value} (h:UOk fz (.int k) u x) (e:v.int=u.int):UOk fz (.int k) v x:=by cases h;rw [← e];exact .int k v
theorem UOk.bool_of {fz:Nat→Option (Array Value)} {u v:U} {x:Value} (h:UOk fz .bool u x) (e:v.bool=u.bool):UOk fz .bool v x:=by cases h;rw [← e];exact .bool v
theorem UOk.str_of {fz:Nat→Option (Array Value)} {u v:U} {x:Value} (h:UOk fz .str u x) (e:v.str=u.str):UOk fz .str v x:=by cases h;rw [← e];exact .str v
theorem one_f {s0 s:Sh} {f:Nat} (h:[s0][f]? = some s):f=0∧s=s0:=by
 cases f with
 | zero=>simp at h;exact ⟨rfl,h.symm⟩
 | succ f=>simp at h
theorem zhs {α:Type} (l:List (List U)) (g:List U→α) (c:α→U) {j:Nat} (hj:j<l.length):(((l.map g).map fun x=>[c x]).getD j []).getD 0 (.i 0)=c (g (l.getD j [])):=by
 rw [List.map_map,List.getD_eq_getElem?_getD,List.getD_eq_getElem?_getD,List.getElem?_map,List.getElem?_eq_getElem hj,List.getD_eq_getElem?_getD,List.getElem?_eq_getElem hj];rfl
theorem ze0 (r:List U):r.headD (.i 0)=r.getD 0 (.i 0):=by cases r <;> rfl
theorem UOk.mkC_iff {fz:Nat→Option (Array Value)} {sh:List Sh} {u:U} {x:Value}:UOk fz (.list (mkC sh u.list).sh) (.l (mkC sh u.list).rows) x↔UOk fz (.list sh) u x:=by
 unfold Ev.mkC;split
 ·rename_i k;have e:∀ j,j<u.list.length→(((SyC.ints k (u.list.map fun r=>(r.headD (.i 0)).int)).rows.getD j []).getD 0 (.i 0)).int=((u.list.getD j []).getD 0 (.i 0)).int:=fun j hj=>by
   show ((((u.list.map _).map fun x=>[U.i x]).getD j []).getD 0 (.i 0)).int=_;rw [zhs u.list _ U.i hj,ze0];rfl
  have hl:(SyC.ints k (u.list.map fun r=>(r.headD (.i 0)).int)).rows.length=u.list.length:=by show ((u.list.map _).map _).length=_;simp
  constructor
  ·intro h;refine h.same (v:=u) hl.symm fun j f s y hj hf hy=>?_;obtain ⟨rfl,rfl⟩:=one_f hf;exact hy.int_of (e j (by rw [← hl];exact hj)).symm
  ·intro h;refine h.same (v:=.l _) hl fun j f s y hj hf hy=>?_;obtain ⟨rfl,rfl⟩:=one_f hf;exact hy.int_of (e j hj)
 ·have e:∀ j,j<u.list.length→(((SyC.bools (u.list.map fun r=>(r.headD (.i 0)).bool)).rows.getD j []).getD 0 (.i 0)).bool=((u.list.getD j []).getD 0 (.i 0)).bool:=fun j hj=>by
   show ((((u.list.map _).map fun x=>[U.b x]).getD j []).getD 0 (.i 0)).bool=_;rw [zhs u.list _ U.b hj,ze0];rfl
  have hl:(SyC.bools (u.list.map fun r=>(r.headD (.i 0)).bool)).rows.length=u.list.length:=by show ((u.list.map _).map _).length=_;simp
  constructor
  ·intro h;refine h.same (v:=u) hl.symm fun j f s y hj hf hy=>?_;obtain ⟨rfl,rfl⟩:=one_f hf;exact hy.bool_of (e j (by rw [← hl];exact hj)).symm
  ·intro h;refine h.same (v:=.l _) hl fun j f s y hj hf hy=>?_;obtain ⟨rfl,rfl⟩:=one_f hf;exact hy.bool_of (e j hj)
 ·have e:∀ j,j<u.list.length→(((SyC.strs (u.list.map fun r=>(r.headD (.i 0)).str)).rows.getD j []).getD 0 (.i 0)).str=((u.list.getD j []).getD 0 (.i 0)).str:=fun j hj=>by
   show ((((u.list.map _).map fun x=>[U.s x]).getD j []).getD 0 (.i 0)).str=_;rw [zhs u.list _ U.s hj,ze0];rfl
  have hl:(SyC.strs (u.list.map fun r=>(r.headD (.i 0)).str)).rows.length=u.list.length:=by show ((u.list.map _).map _).length=_;simp
  constructor
  ·intro h;refine h.same (v:=u) hl.symm fun j f s y hj hf hy=>?_;obtain ⟨rfl,rfl⟩:=one_f hf;exact hy.str_of (e j (by rw [← hl];exact hj)).symm
  ·intro h;refine h.same (v:=.l _) hl fun j f s y hj hf hy=>?_;obtain ⟨rfl,rfl⟩:=one_f hf;exact hy.str_of (e j hj)
 ·exact ⟨fun h=>h.same (v:=u) rfl fun _ _ _ _ _ _ h=>h,fun h=>h.same (v:=.l _) rfl fun _ _ _ _ _ _ h=>h⟩
theorem UOk.ec {γ:G} {s:Sh} {u:U} {x:Value} (h:UOk γ.fz s u x):EC γ (s.ev u) x:=by
 cases s with
 | int k=>cases h;exact .v _
 | bool=>cases h;exact .v _
 | str=>cases h;exact .v _
 | list sh=>exact .lst _ _ (UOk.mkC_iff.2 h)
theorem UOk.of_ec {γ:G} {s:Sh} {u:U} {x:Value} (h:EC γ (s.ev u) x):UOk γ.fz s u x:=by
 cases s with
 | int k=>cases (show EC γ (.v (.int k u.int)) x from h);exact .int k u
 | bool=>cases (show EC γ (.v (.bool u.bool)) x from h);exact .bool u
 | str=>cases (show EC γ (.v (.string u.str)) x from h);exact .str u
 | list sh=>cases (show EC γ (.lst (mkC sh u.list)) x from h) with
  | lst _ _ h=>exact UOk.mkC_iff.1 h
def recE (sh:List Sh):List U→List EV:=List.rec (fun _=>[]) (fun s _ ih r=>s.ev (r.headD (.i 0))::ih r.tail) sh
def SyC.enc:SyC→List EV
 | .ints k l=>l.map fun x=>.v (.int k x)
 | .bools l=>l.map fun x=>.v (.bool x)
 | .strs l=>l.map fun x=>.v (.string x)
 | .recs sh l=>l.flatMap (recE sh)
theorem SyC.vals_enc {c:SyC} {vs:List Value} (h:c.vals=some vs):c.enc=vs.map .v:=by
 cases c with
 | recs sh l=>cases h
 | ints k l=>injection (show some (l.map (Value.int k))=some vs from h) with h;subst h;show l.map _=(l.map _).map _;rw [List.map_map];rfl
 | bools l=>injection (show some (l.map Value.bool)=some vs from h) with h;subst h;show l.map _=(l.map _).map _;rw [List.map_map];rfl
 | strs l=>injection (show some (l.map Value.string)=some vs from h) with h;subst h;show l.map _=(l.map _).map _;rw [List.map_map];rfl
inductive EK where
 | cells (ty:TypeId) (cs:List EV) (full:Bool)
 | loop (st:LoopState) (pend:Option Code) (fn:FuncId) (N:Nat) (T:Tr EV) (ps:Array Tmp) (assign body:Code) (dfr:Nat)
 | dfr (op:Bool)
 | arr (ty:TypeId) (T:Tr EV) (len:Nat)     -- many cells
 | mp (es:List (Value×EV))     -- a map
 | mbox (j:Nat)     -- a new variable that holds a map
 | mpo (es:List (Value×Value))     -- a map of plain values
 | seq (ty:TypeId) (c:SyC) (nn:Bool)     -- a sequence of open length;nn: it has a block
 | rawo (ty:TypeId) (vs:List Value) (q:Nat) (a:EV)     -- cells,and what is known of one of them
 | nest (me:Nat) (ty:TypeId×List TypeId) (sh:List Sh) (rows:List (List U)) (v:Nat) (ho:List (Nat×Nat)) (nn:Bool)     -- a sequence of records,some of whose cells hold slices of its own;its version;cells whose rows were taken out;nn: it has a block
def TOk (γ:G) (T:Tr EV) (tmps:Array Value):Prop:=∀ s a,T.get s=some a→∃ x,tmps[s]? = some x∧EC γ a x
theorem TOk.mono {γ γ':G} (hle:GLe γ γ') {T:Tr EV} {tmps:Array Value} (h:TOk γ T tmps):TOk γ' T tmps:=fun s a hs=>let ⟨x,hx,hc⟩:=h s a hs;⟨x,hx,hc.mono hle⟩
def Cl (w:World) (k:Nat) (c:Array Value) (ty:TypeId):Prop:=∃ fz:Nat×Nat,w.heap[k]? = some (.cells c ty fz)∧(fz=(0,0)∨c.size≤fz.1)
theorem Cl.of {w:World} {k:Nat} {c:Array Value} {ty:TypeId} (h:w.heap[k]? = some (.cells c ty (0,0))):Cl w k c ty:=⟨_,h,.inl rfl⟩
theorem Cl.mono {w w':World} {k:Nat} {c:Array Value} {ty:TypeId} (hb:w'.heap[k]? = w.heap[k]?) (h:Cl w k c ty):Cl w' k c ty:=let ⟨fz,h1,h2⟩:=h;⟨fz,hb.trans h1,h2⟩
theorem Cl.lt {w:World} {k:Nat} {c:Array Value} {ty:TypeId} (h:Cl w k c ty):k<w.heap.size:=let ⟨_,h1,_⟩:=h;(Array.getElem?_eq_some_iff.1 h1).1
def CellN (γ:G) (me v q:Nat) (s:Sh) (u:U) (x:Value):Prop:=match s with
 | .list sh=>SlR γ me v q sh.length u.list.length x
 | s=>EC γ (s.ev u) x
theorem CellN.mono {γ γ':G} (hle:GLe γ γ') (hn:∀ i v q,γ'.rw i v q=γ.rw i v q) {me v q:Nat} {s:Sh} {u:U} {x:Value} (h:CellN γ me v q s u x):CellN γ' me v q s u x:=by
 cases s with
 | list sh=>
  rcases h with ⟨h1,h2⟩|⟨k,m,c,h1,h2⟩
  ·exact .inl ⟨trivial,h2⟩
  ·exact .inr ⟨k,m,c,hle.rw _ _ _ _ h1,h2⟩
 | int k=>exact EC.mono hle h
 | bool=>exact EC.mono hle h
 | str=>exact EC.mono hle h
def EK.ok (γ:G) (b:Pl) (n:Nat) (w:World):EK→Prop
 | .cells ty cs full=>∃ c:Array Value,Cl w b.k c ty∧c.size=b.s+n∧cs.length≤n∧(full=true→cs.length=n)∧ECL γ cs ((c.toList.drop b.s).take cs.length)
 | .loop st pend fn N T ps assign body dd=>∃ (tmps:Array Value) (d:Pl) (m:Nat),w.heap[b.k]? = some (.loop { state:=st,pending:=pend,fn,tmps,params:=ps,assign,body,defers:=d.k })∧tmps.size=N∧TOk γ T tmps∧γ dd=some (d,m)
 | .arr ty T len=>∃ c:Array Value,Cl w b.k c ty∧c.size=b.s+n∧len=n∧∀ j a,j<len→T.get j=some a→∃ x,c[b.s+j]? = some x∧EC γ a x
 | .dfr op=>w.heap[b.k]? = some (.deferred (if op then some [] else none))
 | .mp es=>∃ (ents:Array MapEntry) (clock:Nat) (l:List (Value×Value)),w.heap[b.k]? = some (.map ents clock)∧MapKept.Stamped ents clock∧(kvs ents).Perm l∧ML γ es l
 | .mpo es=>∃ (ents:Array MapEntry) (clock:Nat),w.heap[b.k]? = some (.map ents clock)∧MapKept.Stamped ents clock∧(kvs ents).Perm es
 | .mbox j=>b.s=0∧∃ (ty:TypeId) (mb:Pl) (m:Nat),w.heap[b.k]? = some (.cells #[.map (some mb.k)] ty (0,0))∧γ j=some (mb,m)
 | .seq ty sy _=>∃ c:Array Value,Cl w b.k c ty∧c.size=b.s+n∧sy.enc.length≤n∧ECL γ sy.enc ((c.toList.drop b.s).take sy.enc.length)
 | .rawo ty vs q a=>∃ (c:Array Value) (x:Value),Cl w b.k c ty∧c.size=b.s+n∧vs.length=n∧q<n∧c.toList.drop b.s=vs.set q x∧EC γ a x
 | .nest me ty sh rows v ho _=>∃ c:Array Value,Cl w b.k c ty.1∧c.size=b.s+n∧rows.length*sh.length≤n∧∀ (j f:Nat) (s:Sh),j<rows.length→sh[f]? = some s→(j,f)∉ho→∃ x,c[b.s+(j*sh.length+f)]? = some x∧CellN γ me v (j*sh.length+f) s ((rows.getD j []).getD f (.i 0)) x
def EK.Nil:EK→Prop
 | .seq _ sy nn=>nn=false∧sy.enc=[]
 | .nest _ _ _ rows _ _ nn=>nn=false∧rows=[]
 | _=>False
def EK.nestB:EK→Bool
 | .nest _ _ _ _ _ _ _=>true
 | _=>false
theorem EK.ok_mono {γ γ':G} (hle:GLe γ γ') {b:Pl} {n:Nat} {w w':World} (hb:w'.heap[b.k]? = w.heap[b.k]?) {k:EK} (h:k.ok γ b n w) (hrw:∀ i v q,γ'.rw i v q=γ.rw i v q:=by exact fun _ _ _=>rfl):k.ok γ' b n w':=by
 cases k with
 | cells ty cs full=>obtain ⟨c,h1,h2,h3,h4,h5⟩:=h;exact ⟨c,h1.mono hb,h2,h3,h4,h5.mono hle⟩
 | loop st pend fn N T ps assign body dd=>obtain ⟨t,d,m,h1,h2,h3,h4⟩:=h;exact ⟨t,d,m,hb.trans h1,h2,h3.mono hle,hle _ _ h4⟩
 | dfr op=>exact Eq.trans hb h
 | mp es=>obtain ⟨ents,clock,l,h1,h2,h3,h4⟩:=h;exact ⟨ents,clock,l,hb.trans h1,h2,h3,h4.mono hle⟩
 | mbox j=>obtain ⟨h0,ty,mb,m,h1,h2⟩:=h;exact ⟨h0,ty,mb,m,hb.trans h1,hle _ _ h2⟩
 | mpo es=>obtain ⟨ents,clock,h1,h2,h3⟩:=h;exact ⟨ents,clock,hb.trans h1,h2,h3⟩
 | seq ty sy nn=>obtain ⟨c,h1,h2,h3,h4⟩:=h;exact ⟨c,h1.mono hb,h2,h3,h4.mono hle⟩
 | rawo ty vs q a=>obtain ⟨c,x,h1,h2,h3,h4,h5,h6⟩:=h;exact ⟨c,x,h1.mono hb,h2,h3,h4,h5,h6.mono hle⟩
 | arr ty T len=>obtain ⟨c,h1,h2,h3,h4⟩:=h;exact ⟨c,h1.mono hb,h2,h3,fun j a hj ha=>let ⟨x,hx,hc⟩:=h4 j a hj ha;⟨x,hx,hc.mono hle⟩⟩
 | nest me ty sh rows v ho nn=>obtain ⟨c,h1,h2,h3,h4⟩:=h;exact ⟨c,h1.mono hb,h2,h3,fun j f s hj hf hh=>let ⟨x,hx,hc⟩:=h4 j f s hj hf hh;⟨x,hx,hc.mono hle hrw⟩⟩
theorem EK.ok_monoB {γ γ':G} {k:EK} (hnb:k.nestB=false) (hle:GLe γ γ') {b:Pl} {n:Nat} {w w':World} (hb:w'.heap[b.k]? = w.heap[b.k]?) (h:k.ok γ b n w):k.ok γ' b n w':=by
 cases k with
 | cells ty cs full=>obtain ⟨c,h1,h2,h3,h4,h5⟩:=h;exact ⟨c,h1.mono hb,h2,h3,h4,h5.mono hle⟩
 | loop st pend fn N T ps assign body dd=>obtain ⟨t,d,m,h1,h2,h3,h4⟩:=h;exact ⟨t,d,m,hb.trans h1,h2,h3.mono hle,hle _ _ h4⟩
 | dfr op=>exact Eq.trans hb h
 | mp es=>obtain ⟨ents,clock,l,h1,h2,h3,h4⟩:=h;exact ⟨ents,clock,l,hb.trans h1,h2,h3,h4.mono hle⟩
 | mbox j=>obtain ⟨h0,ty,mb,m,h1,h2⟩:=h;exact ⟨h0,ty,mb,m,hb.trans h1,hle _ _ h2⟩
 | mpo es=>obtain ⟨ents,clock,h1,h2,h3⟩:=h;exact ⟨ents,clock,hb.trans h1,h2,h3⟩
 | seq ty sy nn=>obtain ⟨c,h1,h2,h3,h4⟩:=h;exact ⟨c,h1.mono hb,h2,h3,h4.mono hle⟩
 | rawo ty vs q a=>obtain ⟨c,x,h1,h2,h3,h4,h5,h6⟩:=h;exact ⟨c,x,h1.mono hb,h2,h3,h4,h5,h6.mono hle⟩
 | arr ty T len=>obtain ⟨c,h1,h2,h3,h4⟩:=h;exact ⟨c,h1.mono hb,h2,h3,fun j a hj ha=>let ⟨x,hx,hc⟩:=h4 j a hj ha;⟨x,hx,hc.mono hle⟩⟩
 | nest me ty sh rows v ho nn=>cases hnb
structure Stays (w w':World):Prop where
 os:w'.os=w.os
 tape:w'.tape=w.tape
 output:w'.output=w.output
 size:w.heap.size≤w'.heap.size
 block:∀ k,k<w.heap.size→w'.heap[k]? = w.heap[k]?
structure Bs where
 w:World
 F:Nat→Prop
 lt:∀ k,F k→k<w.heap.size
 res:Nat→Prop
 fb:Nat→Prop:=fun _=>False
def Bs.of (w:World) (fb:Nat→Prop:=fun _=>False):Bs:=⟨w,fun k=>k<w.heap.size,fun _ h=>h,fun _=>False,fb⟩
structure Bs.Stays (B:Bs) (w':World):Prop where
 os:w'.os=B.w.os
 tape:w'.tape=B.w.tape
 output:w'.output=B.w.output
 size:B.w.heap.size≤w'.heap.size
 block:∀ k,B.F k→w'.heap[k]? = B.w.heap[k]?
theorem staysOf {w w':World} {fb:Nat→Prop} (h:(Bs.of w fb).Stays w'):Stays w w':=⟨h.os,h.tape,h.output,h.size,h.block⟩
structure NstS (γ:G) (w0:Bs) (H:Tr EK) (w:World):Prop where
 rwg:∀ i v q p,γ.rw i v q=some p→∃ b,γ i=some b
 me:∀ i me ty sh rows v ho nn,H.get i=some (.nest me ty sh rows v ho nn)→me=i∧∀ v' q,v<v'→γ.rw i v' q=none
 at':∀ i me ty sh rows v ho nn,H.get i=some (.nest me ty sh rows v ho nn)→∀ (j f:Nat) (sh':List Sh),j<rows.length→sh[f]? = some (.list sh')→(j,f)∉ho→∀ k m,γ.rw i v (j*sh.length+f)=some (k,m) →
  ¬ w0.F k∧γ.fz k=none∧(∀ i' ki b m',H.get i'=some ki→¬ ki.Nil→γ i'=some (b,m')→b.k≠k) ∧
  (∀ i2 me2 ty2 sh2 rows2 v2 ho2 nn2,H.get i2=some (.nest me2 ty2 sh2 rows2 v2 ho2 nn2)→∀ (j2 f2:Nat) (s2:List Sh),j2<rows2.length→sh2[f2]? = some (.list s2)→(j2,f2)∉ho2→∀ m2,γ.rw i2 v2 (j2*sh2.length+f2)=some (k,m2)→i2=i∧j2=j∧f2=f) ∧
  ∃ (arr:Array Value) (ty':TypeId),Cl w k arr ty'∧(arr.size=m.1+m.2∧ty'=ty.2.getD f 0)∧∀ (a g:Nat) (s:Sh),a<(((rows.getD j []).getD f (.i 0)).list).length→sh'[g]? = some s→∃ x,arr[m.1+(a*sh'.length+g)]? = some x∧EC γ (s.ev (((((rows.getD j []).getD f (.i 0)).list).getD a []).getD g (.i 0))) x
theorem NstS.none {γ:G} {w0:Bs} {H:Tr EK} {w:World} (h:∀ i v q p,γ.rw i v q=some p→∃ b,γ i=some b) (hn:∀ i k,H.get i=some k→k.nestB=false):NstS γ w0 H w:=
 ⟨h,fun i me ty sh rows v ho nn e=>(by have:=hn i _ e;cases this),fun i me ty sh rows v ho nn e=>(by have:=hn i _ e;cases this)⟩
structure FZ (γ:G) (w0:Bs) (H:Tr EK) (w:World):Prop where
 at':∀ k a,γ.fz k=some a→(∃ (ty:TypeId) (fz:Nat×Nat),w.heap[k]? = some (.cells a ty fz))∧(w0.fb k∨¬ w0.F k)∧∀ i ki b m,H.get i=some ki→¬ ki.Nil→γ i=some (b,m)→b.k≠k
 base:∀ k,w0.fb k→∃ a,γ.fz k=some a
 nst:NstS γ w0 H w
structure HR (γ:G) (w0:Bs) (H:Tr EK) (n:Nat) (w:World):Prop where
 hp0:∀ i k,H.get i=some k→k.Nil∨∃ b m,γ i=some (b,m)∧¬ w0.F b.k∧k.ok γ b m w
 inj0:∀ i j ki kj,H.get i=some ki→H.get j=some kj→¬ ki.Nil→¬ kj.Nil→i≠j→∀ bi bj,γ i=some bi→γ j=some bj→bi.1.k≠bj.1.k
 fresh:∀ i,n≤i→γ i=none
 rsv:∀ i,w0.res i→γ i=none∧i<n
 lt:∀ i p,γ i=some p→p.1.k<w.heap.size
 stays:w0.Stays w
 fzk:FZ γ w0 H w
theorem HR.fzq {γ γ':G} {w0:Bs} {H H':Tr EK} {n:Nat} {w w':World} (h:HR γ w0 H n w) (he:γ'.fz=γ.fz) (hw:∀ k,k<w.heap.size→(∀ i ki b m,H.get i=some ki→¬ ki.Nil→γ i=some (b,m)→b.k≠k)→w'.heap[k]? = w.heap[k]?)
  (hn:∀ i ki b m,H'.get i=some ki→¬ ki.Nil→γ' i=some (b,m)→w.heap.size≤b.k∨∃ i' ki' b' m',H.get i'=some ki'∧¬ ki'.Nil∧γ i'=some (b',m')∧b'.k=b.k)
  (hnest:∀ i k,H'.get i=some k→k.nestB=true→H.get i=some k) (hr:∀ i v q,γ'.rw i v q=γ.rw i v q:=by exact fun _ _ _=>rfl) (hle:GLe γ γ':=by first|exact GLe.refl _|assumption) :
  FZ γ' w0 H' w':=⟨fun k a hk=>by
 rw [he] at hk;obtain ⟨⟨ty,fz,h1⟩,h2,h3⟩:=h.fzk.at' k a hk;have hlt:k<w.heap.size:=(Array.getElem?_eq_some_iff.1 h1).1;refine ⟨⟨ty,fz,(hw k hlt h3).trans h1⟩,h2,fun i ki b m hi ni ei=>?_⟩;rcases hn i ki b m hi ni ei with h4|⟨i',ki',b',m',h4,h5,h6,h7⟩
 ·omega
 ·rw [← h7];exact h3 i' ki' b' m' h4 h5 h6,fun k hk=>by rw [he];exact h.fzk.base k hk,by
 have N:=h.fzk.nst;refine ⟨fun i v q p e=>?_,fun i me ty sh rows v ho nn e=>?_,fun i me ty sh rows v ho nn e j f sh' hj hf hh k m hk=>?_⟩
 ·rw [hr] at e;obtain ⟨b,hb⟩:=N.rwg i v q p e;exact ⟨b,hle _ _ hb⟩
 ·obtain ⟨h1,h2⟩:=N.me i me ty sh rows v ho nn (hnest i _ e rfl);exact ⟨h1,fun v' q hv=>by rw [hr];exact h2 v' q hv⟩
 ·rw [hr] at hk;obtain ⟨h1,h2,h3,h4,arr,ty',h5,h6,h7⟩:=N.at' i me ty sh rows v ho nn (hnest i _ e rfl) j f sh' hj hf hh k m hk;refine ⟨h1,by rw [he];exact h2,fun i' ki b m' hi' ni ei=>?_,fun i2 me2 ty2 sh2 rows2 v2 ho2 nn2 e2 j2 f2 s2 hj2 hf2 hh2 m2 hk2=>?_,arr,ty',h5.mono (hw k h5.lt h3),h6,fun a g s ha hs=>?_⟩
  ·rcases hn i' ki b m' hi' ni ei with h8|⟨i3,ki3,b3,m3,h8,h9,h10,h11⟩
   ·have:=h5.lt;omega
   ·rw [← h11];exact h3 i3 ki3 b3 m3 h8 h9 h10
  ·rw [hr] at hk2;exact h4 i2 me2 ty2 sh2 rows2 v2 ho2 nn2 (hnest i2 _ e2 rfl) j2 f2 s2 hj2 hf2 hh2 m2 hk2
  ·obtain ⟨x,hx,hc⟩:=h7 a g s ha hs;exact ⟨x,hx,hc.mono hle⟩⟩
theorem HR.hp {γ:G} {w0:Bs} {H:Tr EK} {n:Nat} {w:World} (h:HR γ w0 H n w) (i:Nat) (k:EK) (hk:H.get i=some k) (hn:¬ k.Nil:=by exact id):∃ b m,γ i=some (b,m)∧¬ w0.F b.k∧k.ok γ b m w:=
 (h.hp0 i k hk).resolve_left hn
theorem HR.imp0 {γ:G} {w0:Bs} {H:Tr EK} {n:Nat} {w:World} (h:HR γ w0 H n w) {i:Nat} {k:EK} (hk:H.get i=some k) {Q:Prop} (f:¬ k.Nil→∀ b m,γ i=some (b,m)→¬ w0.F b.k→k.ok γ b m w→Q):k.Nil∨Q:=by
 by_cases hn:k.Nil
 ·exact .inl hn
 ·obtain ⟨b,m,h1,h2,h3⟩:=h.hp i k hk hn;exact .inr (f hn b m h1 h2 h3)
theorem HR.congr {γ:G} {w0:Bs} {H K:Tr EK} {n:Nat} {w:World} (h:HR γ w0 H n w) (e:∀ b k,K.get b=some k→H.get b=some k):HR γ w0 K n w:=
 ⟨fun i k hk=>h.hp0 i k (e _ _ hk),fun i j ki kj hi hj=>h.inj0 i j ki kj (e _ _ hi) (e _ _ hj),h.fresh,h.rsv,h.lt,h.stays,
  h.fzq rfl (fun _ _ _=>rfl) (fun i ki b m hi ni ei=>.inr ⟨i,ki,b,m,e _ _ hi,ni,ei,rfl⟩) fun i k hk _=>e _ _ hk⟩
theorem HR.notF {γ:G} {w0:Bs} {H:Tr EK} {n:Nat} {w:World} (h:HR γ w0 H n w) {k:Nat} (hk:w.heap.size≤k):¬ w0.F k:=fun hf=>by
 have h1:=w0.lt k hf;have h2:=h.stays.size;omega
theorem HR.step {γ:G} {w0:Bs} {w w':World} {H:Tr EK} {n:Nat} (h:HR γ w0 H n w) (hh:w'.heap=w.heap) (ho:w'.os=w.os) (ht:w'.tape=w.tape) (hout:w'.output=w.output):HR γ w0 H n w':=
 ⟨fun i k hk=>(h.hp0 i k hk).imp id fun ⟨b,m,h1,h2,h3⟩=>⟨b,m,h1,h2,EK.ok_mono (GLe.refl _) (by rw [hh]) h3⟩,h.inj0,h.fresh,h.rsv,fun i p e=>by rw [hh];exact h.lt i p e,
  ⟨ho.trans h.stays.os,ht.trans h.stays.tape,hout.trans h.stays.output,by rw [hh];exact h.stays.size,fun k hk=>by rw [hh];exact h.stays.block k hk⟩,
  h.fzq rfl (fun k _ _=>by rw [hh]) (fun i ki b m hi ni ei=>.inr ⟨i,ki,b,m,hi,ni,ei,rfl⟩) fun _ _ hk _=>hk⟩
def G.upd (γ:G) (i:Nat) (p:Pl×Nat):G:=⟨fun j=>if j=i then some p else γ j,γ.fz,γ.rw⟩
theorem G.upd_le {γ:G} {i:Nat} {p:Pl×Nat} (h:γ i=none):GLe γ (γ.upd i p):=⟨fun j q e=>by
 show (if j=i then some p else γ j)=some q
 by_cases ej:j=i
 ·subst ej;rw [h] at e;cases e
 ·rw [if_neg ej];exact e,fun _ _ h=>h,fun _ _ _ _ h=>h⟩
theorem G.upd_same {γ:G} {i:Nat} {p:Pl×Nat}:γ.upd i p i=some p:=by simp [G.upd]
theorem G.upd_ne {γ:G} {i j:Nat} {p:Pl×Nat} (h:j≠i):γ.upd i p j=γ j:=by simp [G.upd,h]
theorem HR.new {γ:G} {w0:Bs} {w w':World} {H:Tr EK} {n:Nat} (h:HR γ w0 H n w) (hn:Nat.ble n 65535=true) (o:Obj) (m:Nat) (k:EK) (hh:w'.heap=w.heap.push o) (ho:w'.os=w.os) (ht:w'.tape=w.tape) (hout:w'.output=w.output)
  (hk:k.ok (γ.upd n (⟨w.heap.size,0⟩,m)) ⟨w.heap.size,0⟩ m w') (hnn:k.nestB=false:=by rfl):HR (γ.upd n (⟨w.heap.size,0⟩,m)) w0 (H.put n (some k)) (n+1) w':=by
 have hle:GLe γ (γ.upd n (⟨w.heap.size,0⟩,m)):=G.upd_le (h.fresh n (Nat.le_refl _));have hold:∀ b,b<w.heap.size→w'.heap[b]? = w.heap[b]?:=fun b hb=>by rw [hh,Array.getElem?_push_lt hb];simp [hb]
 refine ⟨fun i ki hi=>?_,fun i j ki kj hi hj ni nj hne bi bj ei ej=>?_,fun i hi=>?_,fun i hi=>?_,fun i p e=>?_,?_,h.fzq rfl (fun c hc _=>hold c hc) (fun i ki b2 m2 hi ni ei=>?_) fun i ki hi hb=>?_⟩
 rotate_right
 ·rw [Tr.get_put hn] at hi
  by_cases e:i=n
  ·rw [if_pos e] at hi;injection hi with hi;subst hi;rw [hnn] at hb;cases hb
  ·rw [if_neg e] at hi;exact hi
 rotate_right
 ·rw [Tr.get_put hn] at hi
  by_cases e:i=n
  ·subst e;rw [G.upd_same] at ei;injection ei with ei;injection ei with e1 e2;subst e1;exact .inl (Nat.le_refl _)
  ·rw [if_neg e] at hi;rw [G.upd_ne e] at ei;exact .inr ⟨i,ki,b2,m2,hi,ni,ei,rfl⟩
 ·rw [Tr.get_put hn] at hi
  by_cases e:i=n
  ·rw [if_pos e] at hi;injection hi with hi;subst hi;subst e
   exact .inr ⟨_,_,G.upd_same,h.notF (Nat.le_refl _),hk⟩
  ·rw [if_neg e] at hi;refine (h.hp0 i ki hi).imp id fun ⟨b,m',h1,h2,h3⟩=>?_;exact ⟨b,m',hle _ _ h1,h2,EK.ok_mono hle (hold b.k (h.lt i _ h1)) h3⟩
 ·rw [Tr.get_put hn] at hi hj
  by_cases e:i=n
  ·rw [e,G.upd_same] at ei;injection ei with ei;subst ei
   rw [if_neg (fun e2=>hne (e.trans e2.symm))] at hj;rw [G.upd_ne (fun e2=>hne (e.trans e2.symm))] at ej;have:=h.lt j _ ej;show w.heap.size≠bj.1.k;omega
  ·rw [if_neg e] at hi;rw [G.upd_ne e] at ei
   by_cases e2:j=n
   ·rw [e2,G.upd_same] at ej;injection ej with ej;subst ej
    have:=h.lt i _ ei;show bi.1.k≠w.heap.size;omega
   ·rw [if_neg e2] at hj;rw [G.upd_ne e2] at ej;exact h.inj0 i j ki kj hi hj ni nj hne bi bj ei ej
 ·rw [G.upd_ne (by omega)];exact h.fresh i (by omega)
 ·obtain ⟨r1,r2⟩:=h.rsv i hi;exact ⟨by rw [G.upd_ne (by omega)];exact r1,by omega⟩
 ·rw [hh,Array.size_push]
  by_cases e2:i=n
  ·rw [e2,G.upd_same] at e;injection e with e;subst e;show w.heap.size<_;omega
  ·rw [G.upd_ne e2] at e;have:=h.lt i p e;omega
 ·refine ⟨ho.trans h.stays.os,ht.trans h.stays.tape,hout.trans h.stays.output,by rw [hh,Array.size_push];have:=h.stays.size;omega,fun k hk=>?_⟩;have:=h.stays.size;have:=w0.lt k hk;rw [hold k (by omega)];exact h.stays.block k hk
theorem HR.turn {γ:G} {w0:Bs} {w w':World} {H:Tr EK} {n:Nat} (h:HR γ w0 H n w) {i:Nat} {b:Pl} {m:Nat} {k0:EK} (hb:Nat.ble i 65535=true) (hi:H.get i=some k0) (hγ:γ i=some (b,m)) (k:EK)
  (hoth:∀ c,c≠b.k→w'.heap[c]? = w.heap[c]?) (hsz:w'.heap.size=w.heap.size) (ho:w'.os=w.os) (ht:w'.tape=w.tape) (hout:w'.output=w.output) (hk:k.ok γ b m w') (hn0:¬ k0.Nil:=by exact id) (hnn:k.nestB=false:=by rfl):HR γ w0 (H.put i (some k)) n w':=by
 have look:∀ j kj,(H.put i (some k)).get j=some kj→¬ kj.Nil→∃ k1,H.get j=some k1∧¬ k1.Nil:=fun j kj hj nj=>by
  rw [Tr.get_put hb] at hj
  by_cases e:j=i
  ·exact ⟨k0,by rw [e];exact hi,hn0⟩
  ·rw [if_neg e] at hj;exact ⟨kj,hj,nj⟩
 refine ⟨fun j kj hj=>?_,fun j l kj kl hj hl nj nl hne=>?_,h.fresh,h.rsv,fun j p e=>by rw [hsz];exact h.lt j p e,?_,h.fzq rfl (fun c _ hc=>hoth c (hc i k0 b m hi hn0 hγ).symm) (fun j kj b2 m2 hj nj ej=>?_) fun j kj hj hb2=>?_⟩
 rotate_right
 ·rw [Tr.get_put hb] at hj
  by_cases e:j=i
  ·rw [if_pos e] at hj;injection hj with hj;subst hj;rw [hnn] at hb2;cases hb2
  ·rw [if_neg e] at hj;exact hj
 rotate_right
 ·obtain ⟨k1,h1,h2⟩:=look j kj hj nj;exact .inr ⟨j,k1,b2,m2,h1,h2,ej,rfl⟩
 ·rw [Tr.get_put hb] at hj
  by_cases e:j=i
  ·rw [if_pos e] at hj;injection hj with hj;subst hj;subst e
   obtain ⟨b2,m2,h1,h2,_⟩:=h.hp j k0 hi hn0;rw [hγ] at h1;injection h1 with h1;injection h1 with h1 h3;subst h1;subst h3;exact .inr ⟨b,m,hγ,h2,hk⟩
  ·rw [if_neg e] at hj;refine h.imp0 hj fun nj b2 m2 h1 h2 h3=>?_;exact ⟨b2,m2,h1,h2,EK.ok_mono (GLe.refl _) (hoth b2.k (h.inj0 j i kj k0 hj hi nj hn0 e _ _ h1 hγ)) h3⟩
 ·obtain ⟨_,h1,q1⟩:=look j kj hj nj;obtain ⟨_,h2,q2⟩:=look l kl hl nl;exact h.inj0 j l _ _ h1 h2 q1 q2 hne
 ·refine ⟨ho.trans h.stays.os,ht.trans h.stays.tape,hout.trans h.stays.output,by rw [hsz];exact h.stays.size,fun c hc=>?_⟩;obtain ⟨b2,m2,h1,h2,_⟩:=h.hp i k0 hi hn0;rw [hγ] at h1;injection h1 with h1;injection h1 with h1 h3;subst h1
  rw [hoth c (fun e=>h2 (e ▸ hc))];exact h.stays.block c hc
def G.nil:G:=⟨fun _=>none,fun _=>none,fun _ _ _=>none⟩
theorem FZ.none {γ:G} {H:Tr EK} {w w1:World} (h:γ.fz=fun _=>none) (hr:∀ i v q p,γ.rw i v q=some p→∃ b,γ i=some b) (hn:∀ i k,H.get i=some k→k.nestB=false):FZ γ (Bs.of w1) H w:=⟨fun k a hk=>(by rw [h] at hk;cases hk),fun _ hk=>absurd hk id,NstS.none hr hn⟩
structure FzAt (γ:G) (w:World):Prop where
 at':∀ k a,γ.fz k=some a→∃ (ty:TypeId) (fz:Nat×Nat),w.heap[k]? = some (.cells a ty fz)
 rw:∀ i v q,γ.rw i v q = .none
instance {γ:G} {w:World}:CoeFun (FzAt γ w) (fun _=>∀ k a,γ.fz k=some a→∃ (ty:TypeId) (fz:Nat×Nat),w.heap[k]? = some (.cells a ty fz)):=⟨FzAt.at'⟩
theorem HR.fzAt {γ:G} {w0:Bs} {H:Tr EK} {n:Nat} {w:World} {g:Nat→Option (Pl×Nat)} (h:HR γ w0 H n w):FzAt ⟨g,γ.fz,fun _ _ _=>.none⟩ w:=⟨fun k a hk=>(h.fzk.at' k a hk).1,fun _ _ _=>rfl⟩
def Bs.ofG (w:World) (γ:G):Bs:=Bs.of w fun k=>∃ a,γ.fz k=some a
theorem FZ.init {γ:G} {w:World} (h:FzAt γ w):FZ γ (Bs.ofG w γ) .nil w:=⟨fun k a hk=>⟨h k a hk,.inl ⟨a,hk⟩,fun i ki b m hi=>by cases hi⟩,fun _ hk=>hk,NstS.none (fun i v q p e=>by rw [h.rw] at e;cases e) (fun i k hi=>by cases hi)⟩
end
end Go.Proofs.Ytfffbioafhppiaa.Ev
namespace Go.Proofs.Ytfffbioafhppiaa.Sx
open Go.RowKit
structure Loc where
 A:Option Addr
 cap:Nat
def Loc.blk (l:Loc):Option Nat:=l.A.map (·.block)
inductive AV where
 | v (x:Value)
 | ptr (i off:Nat)
 | ept (i z k f:Nat)          -- field f of element k of row i,whose elements have z cells
 | sl (i z off len:Nat)
 | agg (cs:List AV)
 | tup (cs:List AV)
 | fn (f:Fn) (caps:List AV)
 | top
inductive Col where
 | i (κ:IntKind) (f:Nat→Int)
 | b (f:Nat→Bool)
 | s (f:Nat→ByteArray)
def Col.val:Col→Nat→Value
 | .i κ f,k=>.int κ (f k)
 | .b f,k=>.bool (f k)
 | .s f,k=>.string (f k)
inductive Chunk where
 | box (cs:List AV)
 | ro (n:Nat) (cols:List Col)
 | rw (t:TypeId) (n:Nat) (cols:List Col)
def Chunk.wr:Chunk→Bool
 | .ro _ _=>false
 | _=>true
def rowCells (cols:List Col) (n:Nat):List Value:=(List.range n).flatMap fun k=>cols.map (·.val k)
abbrev Env:=List (Nat×AV)
abbrev Heap:=List (Nat×Chunk)
inductive Conc (γ:Nat→Loc):AV→Value→Prop where
 | v (x:Value):Conc γ (.v x) x
 | ptr (i off b o:Nat) (h:(γ i).A=some ⟨b,o,none⟩):Conc γ (.ptr i off) (.pointer (some ⟨b,o+off,none⟩))
 | ept (i z k f b o:Nat) (h:(γ i).A=some ⟨b,o,none⟩):Conc γ (.ept i z k f) (.pointer (some ⟨b,o+k*z+f,none⟩))
 | sl (i z off len:Nat) (A:Option Addr) (c:Nat) (h0:off=0→A=(γ i).A∧c=(γ i).cap) (h1:0<len→∃ b o,(γ i).A=some ⟨b,o,none⟩∧A=some ⟨b,o+off*z,none⟩) (hc:len≤c):Conc γ (.sl i z off len) (.slice A len c)
 | agg (cs:List AV) (vs:List Value) (hl:cs.length=vs.length) (h:∀ (j:Nat) (a:AV) (x:Value),cs[j]? = some a→vs[j]? = some x→Conc γ a x):Conc γ (.agg cs) (.agg vs.toArray)
 | tup (cs:List AV) (vs:List Value) (hl:cs.length=vs.length) (h:∀ (j:Nat) (a:AV) (x:Value),cs[j]? = some a→vs[j]? = some x→Conc γ a x):Conc γ (.tup cs) (.tuple vs.toArray)
 | fn (f:Fn) (cs:List AV) (vs:List Value) (hl:cs.length=vs.length) (h:∀ (j:Nat) (a:AV) (x:Value),cs[j]? = some a→vs[j]? = some x→Conc γ a x):Conc γ (.fn f cs) (.func f #[] vs.toArray)
 | top (x:Value):Conc γ .top x
def Chunk.ok (γ:Nat→Loc) (l:Loc) (w:World):Chunk→Prop
 | .box cs=>∃ b o,l.A=some ⟨b,o,none⟩∧∀ j a,cs[j]? = some a→(∃ x,w.cell? ⟨b,o+j,none⟩=some x∧Conc γ a x)∧w.frozen? ⟨b,o+j,none⟩=false
 | .ro n cols=>0<n→∃ b o,l.A=some ⟨b,o,none⟩∧∀ k j c,k<n→cols[j]? = some c→w.cell? ⟨b,o+k*cols.length+j,none⟩=some (c.val k)
 | .rw t n cols=>w.ownsRow 0 t cols.length (.slice l.A n l.cap) n (rowCells cols n)
structure Kept (S:Nat→Prop) (w w':World):Prop where
 os:w'.os=w.os
 tape:w'.tape=w.tape
 output:w'.output=w.output
 size:w.heap.size≤w'.heap.size
 block:∀ k,k<w.heap.size→¬ S k→w'.heap[k]? = w.heap[k]?
structure Base where
 S:Nat→Prop
 K:Nat
 γ0:Nat→Loc
structure HOk (S:Base) (w0:World) (H:Heap) (γ:Nat→Loc) (w:World):Prop where
 hp:∀ i ch,H.lookup i=some ch→ch.ok γ (γ i) w
 sep:∀ i j ci cj,H.lookup i=some ci→H.lookup j=some cj→i≠j→ci.wr=true→∀ b,(γ i).blk=some b→(γ j).blk≠some b
 wrS:∀ i ci,H.lookup i=some ci→ci.wr=true→∀ b,(γ i).blk=some b→S.S b∨w0.heap.size≤b
 lt:∀ i ci,H.lookup i=some ci→∀ b,(γ i).blk=some b→b<w.heap.size
 kept:Kept S.S w0 w
 anc:∀ i,i<S.K→γ i=S.γ0 i
def EOk (E:Env) (γ:Nat→Loc) (a:Act):Prop:=∀ s av,E.lookup s=some av→∃ x,a.tmps[s]? = some x∧Conc γ av x
structure St (S:Base) (w0:World) (E:Env) (H:Heap) (γ:Nat→Loc) (a:Act) (w:World):Prop extends HOk S w0 H γ w where
 fr:EOk E γ a
 defers:a.defers=[]
end Go.Proofs.Ytfffbioafhppiaa.Sx
namespace Go.Proofs.Ytfffbioafhppiaa.Sx
open Go.RowKit
def cv:Value→AV
 | .agg cs=>.agg (cs.toList.map .v)
 | x=>.v x
def evO (E:Env):Operand→AV
 | .tmp t=>(E.lookup t).getD .top
 | .const x=>cv x
 | .global _=>.top
 | .func f=>.fn (.func f) []
theorem zwe (γ:Nat→Loc) (x:Value):Conc γ (cv x) x:=by
 cases x with
 | agg cs=>
  have:=Conc.agg (γ:=γ) (cs.toList.map .v) cs.toList (by simp) (fun j a y ha hy=>by
   rw [List.getElem?_map,hy] at ha;simp at ha;subst ha;exact Conc.v y)
  simpa [cv] using this
 | _=>exact Conc.v _
variable {P:Program} {S:Base} {w0 w:World} {E:Env} {H:Heap} {γ:Nat→Loc} {a:Act}
theorem getD_of {t:Nat} {x:Value} (h:a.tmps[t]? = some x):a.tmps.getD t undef=x:=by
 simp [Array.getD,Array.getElem?_eq_some_iff] at h ⊢;obtain ⟨h1,h2⟩:=h;simp [h1,h2]
theorem zto (h:St S w0 E H γ a w) (x:Operand):Conc γ (evO E x) (a.eval x):=by
 cases x with
 | tmp t=>
  show Conc γ ((E.lookup t).getD .top) (a.tmps.getD t undef)
  cases he:E.lookup t with
  | none=>exact Conc.top _
  | some av=>
   obtain ⟨y,hy,hc⟩:=h.fr t av he;rw [getD_of hy];exact hc
 | const v=>exact zwe γ v
 | global g=>exact Conc.top _
 | func f=>exact Conc.fn (.func f) [] [] rfl (by simp)
theorem run_v {s:Sem Value} {x:Value} {w w':World} (h:s.run P w = .ok x w'):(do pure (Next.value (← s)):Sem Next).run P w = .ok (.value x) w':=by
 simp [h]
def binV (op:BinOp):Value→Value→Option Value
 | .int k a,.int k' b=>if k=k' then match op with
  | .eql=>some (.bool (a==b))
  | .neq=>some (.bool (a != b))
  | .lss=>some (.bool (decide (a<b)))
  | .leq=>some (.bool (decide (a≤b)))
  | .gtr=>some (.bool (decide (b<a)))
  | .geq=>some (.bool (decide (b≤a)))
  | .add=>some (.int k (k.wrap (a+b)))
  | .sub=>some (.int k (k.wrap (a-b)))
  | .mul=>some (.int k (k.wrap (a*b)))
  | _=>none else none
 | .string a,.string b=>match op with
  | .eql=>some (.bool (a.toList==b.toList))
  | .neq=>some (.bool (!(a.toList==b.toList)))
  | _=>none
 | _,_=>none
theorem run_binV {op:BinOp} {t:TypeId} {x y:Operand} {u v r:Value} (h:binV op u v=some r) :
  (do eqGuard op t x y u v;binOp op t u v:Sem Value).run P w = .ok r w:=by
 cases u <;> cases v <;> simp [binV] at h
 case int.int k a k' b=>
  obtain ⟨rfl,h⟩:=h;cases op <;> simp at h <;> subst h <;> simp [eqGuard,binOp,Op.intCmp,Op.intArith]
 case string.string a b=>
  cases op <;> simp at h <;> subst h <;> simp [eqGuard,binOp,Op.stringOp]
def scalB (P:Program) (t:TypeId):Bool:=match P.underlying t,P.info? t with
 | some (.struct _),_|some (.array _ _),_=>false
 | some _,some i=>i.size==1
 | _,_=>false
def fieldO (P:Program) (s:TypeId) (f:Nat):Option Nat:=match P.underlying s with
 | some (.struct fs)=>(fs[f]?).bind fun x=>(P.info? x.type).bind fun i=>if i.size=0 then none else some x.offset
 | _=>none
def slZ (P:Program) (t:TypeId):Option Nat:=match P.underlying t with
 | some (.slice e)=>(P.info? e).map (·.size)
 | _=>none
end Go.Proofs.Ytfffbioafhppiaa.Sx
namespace Go.Proofs.Ytfffbioafhppiaa.Sx
open Go.RowKit
variable {P:Program} {S:Base} {w0 w:World} {E:Env} {H:Heap} {γ:Nat→Loc} {a:Act}
theorem run_fieldAt {s f off:Nat} (h:fieldO P s f=some off) (b o:Nat) (w:World):(Instr.fieldAt s (.pointer (some ⟨b,o,none⟩)) f).run P w = .ok (.pointer (some ⟨b,o+off,none⟩)) w:=by
 unfold fieldO at h;split at h
 ·rename_i fs hu
  cases hf:fs[f]? with
  | none=>rw [hf] at h;simp at h
  | some x=>
   rw [hf] at h;simp only [Option.bind_some] at h
   cases hi:P.info? x.type with
   | none=>rw [hi] at h;simp at h
   | some i=>
    rw [hi] at h;simp only [Option.bind_some] at h;split at h
    ·simp at h
    ·rename_i hz;simp only [Option.some.injEq] at h;subst h;simp [Instr.fieldAt,run_underlying hu,hf,Instr.sureAddr,fieldPlace,sizeOf,typeInfo,hi,hz,Addr.add_lit]
 ·simp at h
theorem slZ_spec {t z:Nat} (h:slZ P t=some z):∃ e i,P.underlying t=some (.slice e)∧P.info? e=some i∧i.size=z:=by
 unfold slZ at h;split at h
 ·rename_i e hu
  cases hi:P.info? e with
  | none=>rw [hi] at h;simp at h
  | some i=>rw [hi] at h;simp at h;exact ⟨e,i,hu,hi,h⟩
 ·simp at h
end Go.Proofs.Ytfffbioafhppiaa.Sx
namespace Go.Proofs.Ytfffbioafhppiaa.Sx
open Go.RowKit
variable {P:Program} {S:Base} {w0 w:World} {E:Env} {H:Heap} {γ:Nat→Loc} {a:Act} {N:Nat}
def SL (P:Program) (N:Nat) (S:Base) (w0:World) (ops:Array Oper) (Q:Exit→Act→World→Prop) (l:List Oper) (E:Env) (H:Heap):Prop:=
 ∀ γ a w,a.tmps.size=N→St S w0 E H γ a w→wpList P ops Q l a w
def SG (P:Program) (N:Nat) (S:Base) (w0:World) (ops:Array Oper) (Q:Exit→Act→World→Prop) (o:Oper) (rest:List Oper) (E:Env) (H:Heap):Prop:=
 ∀ γ a w,a.tmps.size=N→Region.wanted o (yielded ops a.tmps)=true→St S w0 E H γ a w→wpList P ops Q (o::rest) a w
theorem zbh (d:Nat) {α:Type} (x:α) (l:List (Nat×α)) (s:Nat):((d,x)::l).lookup s=if s=d then some x else l.lookup s:=by
 simp only [List.lookup]
 by_cases h:s=d
 ·subst h;simp
 ·rw [if_neg h];have:(s==d)=false:=by simpa using h
  rw [this]
theorem zsn (d:Nat) (x:Value) (s:Nat) (hd:d<a.tmps.size):(a.put (some d) x).tmps[s]? = if s=d then some x else a.tmps[s]?:=by
 simp only [Act.put]
 by_cases h:s=d
 ·subst h;simp [hd]
 ·rw [if_neg h,Array.getElem?_setIfInBounds_ne (fun e=>h e.symm)]
theorem EOk.put {d:Nat} {av:AV} {x:Value} (h:EOk E γ a) (hd:d<a.tmps.size) (hc:Conc γ av x):EOk ((d,av)::E) γ (a.put (some d) x):=by
 intro s av' hs;rw [zbh] at hs;rw [zsn d x s hd]
 by_cases e:s=d
 ·rw [if_pos e] at hs ⊢;injection hs with hs;subst hs;exact ⟨x,rfl,hc⟩
 ·rw [if_neg e] at hs ⊢;exact h s av' hs
theorem St.put {d:Nat} {av:AV} {x:Value} (h:St S w0 E H γ a w) (hd:d<a.tmps.size) (hc:Conc γ av x):St S w0 ((d,av)::E) H γ (a.put (some d) x) w:=
 ⟨h.toHOk,h.fr.put hd hc,h.defers⟩
theorem zlk (d:Nat) (x:Value):(a.put (some d) x).tmps.size=a.tmps.size:=by simp [Act.put]
def Wanted (ops:Array Oper) (o:Oper) (E:Env):Prop:=∀ γ a,EOk E γ a→Region.wanted o (yielded ops a.tmps)=true
section
variable {ops:Array Oper} {Q:Exit→Act→World→Prop} {o:Oper} {rest:List Oper} {d:Nat} {av:AV}
theorem zgl (hw:Region.wanted o (yielded ops a.tmps)=true) {x:Value} {w w':World} (hr:(execOp a.eval o).run P w = .ok (.value x) w') (h:wpList P ops Q rest (a.put o.dst x) w'):wpList P ops Q (o::rest) a w:=by
 refine wpList_step fun K hK=>?_;rw [if_pos hw];unfold Oper.wp;rw [hr];exact hK _ _ h
theorem SL.go (hw:Wanted ops o E) (h:SG P N S w0 ops Q o rest E H):SL P N S w0 ops Q (o::rest) E H:=fun γ a w hn hs=>h γ a w hn (hw γ a hs.fr) hs
end
section
variable {Q:Exit→Act→World→Prop}
end
end Go.Proofs.Ytfffbioafhppiaa.Sx
namespace Go.Proofs.Ytfffbioafhppiaa.Sx
open Go.RowKit
variable {P:Program} {S:Base} {w0 w:World} {E:Env} {H:Heap} {γ:Nat→Loc} {a:Act} {N:Nat}
mutual
def AV.free (i:Nat):AV→Bool
 | .ptr j _=>j != i
 | .ept j _ _ _=>j != i
 | .sl j _ _ _=>j != i
 | .agg cs=>AV.freeL i cs
 | .tup cs=>AV.freeL i cs
 | .fn _ cs=>AV.freeL i cs
 | _=>true
def AV.freeL (i:Nat):List AV→Bool
 | []=>true
 | a::r=>AV.free i a&&AV.freeL i r
end
theorem zcg {i:Nat}:∀ {cs:List AV},AV.freeL i cs=true→∀ {j:Nat} {a:AV},cs[j]? = some a→a.free i=true
 | [],_,j,a,h=>by simp at h
 | c::cs,hf,0,a,h=>by simp [AV.freeL] at hf h;subst h;exact hf.1
 | c::cs,hf,j+1,a,h=>by simp [AV.freeL] at hf h;exact zcg hf.2 h
def Chunk.free (i:Nat):Chunk→Bool
 | .box cs=>AV.freeL i cs
 | _=>true
def freshB (i:Nat) (E:Env) (H:Heap):Bool:=E.all (fun p=>p.2.free i)&&H.all (fun p=>p.1 != i&&p.2.free i)
def upd {α:Type} (γ:Nat→α) (i:Nat) (l:α):Nat→α:=fun j=>if j=i then l else γ j
theorem upd_same {α:Type} (γ:Nat→α) (i:Nat) (l:α):upd γ i l i=l:=by simp [upd]
theorem upd_ne {α:Type} (γ:Nat→α) {i j:Nat} (l:α) (h:j≠i):upd γ i l j=γ j:=by simp [upd,h]
theorem zgg {i:Nat} {l:Loc} {av:AV} {x:Value} (h:Conc γ av x):av.free i=true→Conc (upd γ i l) av x:=by
 induction h with
 | v x=>intro _;exact Conc.v x
 | ptr j off b o hA=>intro hf;exact Conc.ptr j off b o (by rw [upd_ne γ l (by simpa [AV.free] using hf)];exact hA)
 | ept j z k f b o hA=>intro hf;exact Conc.ept j z k f b o (by rw [upd_ne γ l (by simpa [AV.free] using hf)];exact hA)
 | sl j z off len A c h0 h1 hc=>intro hf;exact Conc.sl j z off len A c (by rw [upd_ne γ l (by simpa [AV.free] using hf)];exact h0) (by rw [upd_ne γ l (by simpa [AV.free] using hf)];exact h1) hc
 | agg cs vs hl _ ih=>intro hf;exact Conc.agg cs vs hl fun j a x ha hx=>ih j a x ha hx (zcg (by simpa [AV.free] using hf) ha)
 | tup cs vs hl _ ih=>intro hf;exact Conc.tup cs vs hl fun j a x ha hx=>ih j a x ha hx (zcg (by simpa [AV.free] using hf) ha)
 | fn f cs vs hl _ ih=>intro hf;exact Conc.fn f cs vs hl fun j a x ha hx=>ih j a x ha hx (zcg (by simpa [AV.free] using hf) ha)
 | top x=>intro _;exact Conc.top x
theorem zvw {i:Nat} (h:freshB i E H=true) {s:Nat} {av:AV} (hs:E.lookup s=some av):av.free i=true:=by
 unfold freshB at h;simp only [Bool.and_eq_true,List.all_eq_true] at h;have:(s,av)∈E:=by
  clear h
  induction E with
  | nil=>simp at hs
  | cons p E ih=>
   rw [show p=(p.1,p.2) from rfl,zbh] at hs
   by_cases e:s=p.1
   ·rw [if_pos e] at hs;injection hs with hs;subst e hs;exact List.mem_cons_self
   ·rw [if_neg e] at hs;exact List.mem_cons_of_mem _ (ih hs)
 exact h.1 _ this
theorem znm {α:Type} {l:List (Nat×α)} {s:Nat} {x:α} (hs:l.lookup s=some x):(s,x)∈l:=by
 induction l with
 | nil=>simp at hs
 | cons p E ih=>
  rw [show p=(p.1,p.2) from rfl,zbh] at hs
  by_cases e:s=p.1
  ·rw [if_pos e] at hs;injection hs with hs;subst e hs;exact List.mem_cons_self
  ·rw [if_neg e] at hs;exact List.mem_cons_of_mem _ (ih hs)
theorem zvv {i:Nat} (h:freshB i E H=true) {j:Nat} {ch:Chunk} (hs:H.lookup j=some ch):j≠i∧ch.free i=true:=by
 unfold freshB at h;simp only [Bool.and_eq_true,List.all_eq_true] at h;have:=h.2 _ (znm hs);simpa using this
theorem EOk.upd {i:Nat} {l:Loc} (h:EOk E γ a) (hf:freshB i E H=true):EOk E (Sx.upd γ i l) a:=fun s av hs=>
 let ⟨x,hx,hc⟩:=h s av hs
 ⟨x,hx,zgg hc (zvw hf hs)⟩
theorem Chunk.ok_keep {ch:Chunk} {l:Loc} {w w':World} (h:ch.ok γ l w) (hb:∀ b,l.blk=some b→w'.heap[b]? = w.heap[b]?):ch.ok γ l w':=by
 cases ch with
 | box cs=>
  obtain ⟨b,o,hA,hc⟩:=h;have hb':=hb b (by simp [Loc.blk,hA]);refine ⟨b,o,hA,fun j a ha=>?_⟩;obtain ⟨⟨x,hx,hcx⟩,hf⟩:=hc j a ha;exact ⟨⟨x,(World.cell?_of_block (w:=w) hb').trans hx,hcx⟩,(World.frozen?_of_block (w:=w) hb').trans hf⟩
 | ro n cols=>
  intro hn;obtain ⟨b,o,hA,hc⟩:=h hn;have hb':=hb b (by simp [Loc.blk,hA]);exact ⟨b,o,hA,fun k j c hk hj=>(World.cell?_of_block (w:=w) hb').trans (hc k j c hk hj)⟩
 | rw t n cols=>
  obtain ⟨h1,h2⟩:=h;refine ⟨h1,?_⟩;rcases h2 with h2|⟨g,cap,cur,hv,hg,hh,r⟩
  ·exact .inl h2
  ·refine .inr ⟨g,cap,cur,hv,hg,?_,r⟩;injection hv with hA _ _
   rw [hb g (by simp [Loc.blk,hA])];exact hh
theorem Chunk.ok_upd {ch:Chunk} {l l':Loc} {i:Nat} (h:ch.ok γ l w) (hf:ch.free i=true):ch.ok (upd γ i l') l w:=by
 cases ch with
 | box cs=>
  obtain ⟨b,o,hA,hc⟩:=h;refine ⟨b,o,hA,fun j a ha=>?_⟩;obtain ⟨⟨x,hx,hcx⟩,hfz⟩:=hc j a ha;exact ⟨⟨x,hx,zgg hcx (zcg hf ha)⟩,hfz⟩
 | ro n cols=>exact h
 | rw t n cols=>exact h
theorem Kept.step {S:Nat→Prop} {w':World} (h:Kept S w0 w) (hos:w'.os=w.os) (ht:w'.tape=w.tape) (ho:w'.output=w.output) (hsz:w.heap.size≤w'.heap.size) (hb:∀ k,k<w0.heap.size→¬ S k→w'.heap[k]? = w.heap[k]?):Kept S w0 w':=
 ⟨hos.trans h.os,ht.trans h.tape,ho.trans h.output,Nat.le_trans h.size hsz,fun k hk hs=>(hb k hk hs).trans (h.block k hk hs)⟩
theorem HOk.alloc {i cap:Nat} {ch:Chunk} {o:Obj} (h:HOk S w0 H γ w) (hK:S.K≤i) (hf:freshB i [] H=true)
  (hok:ch.ok (upd γ i ⟨some ⟨w.heap.size,0,none⟩,cap⟩) ⟨some ⟨w.heap.size,0,none⟩,cap⟩ (w.alloc o)) :
  HOk S w0 ((i,ch)::H) (upd γ i ⟨some ⟨w.heap.size,0,none⟩,cap⟩) (w.alloc o):=by
 have hold:∀ k,k<w.heap.size→(w.alloc o).heap[k]? = w.heap[k]?:=fun k hk=>Below.heap_alloc w o k hk;refine ⟨?_,?_,?_,?_,?_,fun j hj=>by rw [upd_ne _ _ (by omega)];exact h.anc j hj⟩
 ·intro j c hj;rw [zbh] at hj
  by_cases e:j=i
  ·rw [if_pos e] at hj;injection hj with hj;subst e hj;rw [upd_same];exact hok
  ·rw [if_neg e] at hj;rw [upd_ne _ _ e];exact Chunk.ok_upd (Chunk.ok_keep (h.hp j c hj) fun b hb=>hold b (h.lt j c hj b hb)) (zvv hf hj).2
 ·intro j k cj ck hj hk hne hw b hb;rw [zbh] at hj hk
  by_cases e:j=i
  ·subst e;rw [upd_same] at hb;rw [if_neg (fun e=>hne e.symm)] at hk;rw [upd_ne _ _ (fun e=>hne e.symm)];intro hb2;have:=h.lt k ck hk b hb2;simp [Loc.blk] at hb;omega
  ·rw [if_neg e] at hj;rw [upd_ne _ _ e] at hb
   by_cases e2:k=i
   ·subst e2;rw [upd_same];have:=h.lt j cj hj b hb;simp [Loc.blk];omega
   ·rw [if_neg e2] at hk;rw [upd_ne _ _ e2];exact h.sep j k cj ck hj hk hne hw b hb
 ·intro j cj hj hw b hb;rw [zbh] at hj
  by_cases e:j=i
  ·subst e;rw [upd_same] at hb;simp [Loc.blk] at hb;have:=h.kept.size;right;omega
  ·rw [if_neg e] at hj;rw [upd_ne _ _ e] at hb;exact h.wrS j cj hj hw b hb
 ·intro j cj hj b hb;rw [zbh] at hj
  by_cases e:j=i
  ·subst e;rw [upd_same] at hb;simp [Loc.blk] at hb;simp;omega
  ·rw [if_neg e] at hj;rw [upd_ne _ _ e] at hb;have:=h.lt j cj hj b hb;simp;omega
 ·exact h.kept.step rfl rfl rfl (by simp) fun k hk _=>hold k (by have:=h.kept.size;omega)
def AV.cells:AV→Option (List AV)
 | .agg cs=>some cs
 | .top=>none
 | .v (.agg _)=>none
 | .v (.tuple _)=>none
 | .tup _=>none
 | a=>some [a]
theorem znx {av:AV} {x:Value} {cs:List AV} (h:Conc γ av x) (hc:av.cells=some cs):∃ xs:List Value,x.cells=xs.toArray∧cs.length=xs.length∧∀ (j:Nat) (a:AV) (y:Value),cs[j]? = some a→xs[j]? = some y→Conc γ a y:=by
 have one:∀ {av:AV} {x:Value},Conc γ av x→∀ (j:Nat) (a:AV) (y:Value),[av][j]? = some a→[x][j]? = some y→Conc γ a y:=by
  intro av x h j a y ha hy
  cases j with
  | zero=>simp at ha hy;subst ha hy;exact h
  | succ j=>simp at ha
 cases h with
 | v x=>
  cases x <;> simp [AV.cells] at hc <;> subst hc <;> exact ⟨[_],rfl,rfl,one (Conc.v _)⟩
 | ptr i off b o hA=>simp [AV.cells] at hc;subst hc;exact ⟨[_],rfl,rfl,one (Conc.ptr i off b o hA)⟩
 | ept i z k f b o hA=>simp [AV.cells] at hc;subst hc;exact ⟨[_],rfl,rfl,one (Conc.ept i z k f b o hA)⟩
 | sl i z off len A c h0 h1 hcc=>simp [AV.cells] at hc;subst hc;exact ⟨[_],rfl,rfl,one (Conc.sl i z off len A c h0 h1 hcc)⟩
 | agg cs' vs hl h=>simp [AV.cells] at hc;subst hc;exact ⟨vs,rfl,hl,h⟩
 | tup cs' vs hl h=>simp [AV.cells] at hc
 | fn f cs' vs hl h=>simp [AV.cells] at hc;subst hc;exact ⟨[_],rfl,rfl,one (Conc.fn f cs' vs hl h)⟩
 | top x=>simp [AV.cells] at hc
theorem zgv {i cap:Nat} {cs:List AV} {xs:List Value} {t:TypeId} (hl:cs.length=xs.length) (hc:∀ (j:Nat) (a:AV) (y:Value),cs[j]? = some a→xs[j]? = some y→Conc γ a y) (hf:AV.freeL i cs=true) :
  (Chunk.box cs).ok (upd γ i ⟨some ⟨w.heap.size,0,none⟩,cap⟩) ⟨some ⟨w.heap.size,0,none⟩,cap⟩ (w.alloc (.cells xs.toArray t)):=by
 refine ⟨w.heap.size,0,rfl,fun j a ha=>?_⟩;have hj:j<xs.length:=by rw [← hl];exact (List.getElem?_eq_some_iff.1 ha).1
 refine ⟨⟨xs[j],?_,zgg (hc j a _ ha (by simp [hj])) (zcg hf ha)⟩,?_⟩
 ·rw [Nat.zero_add,World.cell?_alloc_new];simp [hj]
 ·rw [Nat.zero_add];exact frozen_of_row (w.alloc (.cells xs.toArray t)) w.heap.size j xs.toArray t (heap_alloc_new w _)
section
variable {ops:Array Oper} {Q:Exit→Act→World→Prop} {o:Oper} {rest:List Oper} {d:Nat} {av:AV}
theorem SG.box (i:Nat) (hK:S.K≤i) {t:TypeId} {x:Operand} {cs:List AV} (ho:o.op = .box t x) (hd:o.dst=some d) (hN:d<N) (hc:(evO E x).cells=some cs) (hf:freshB i E H=true) (hfc:AV.freeL i cs=true)
  (h:SL P N S w0 ops Q rest ((d,.ptr i 0)::E) ((i,.box cs)::H)):SG P N S w0 ops Q o rest E H:=by
 intro γ a w hn hw hs;obtain ⟨xs,hxs,hl,hcc⟩:=znx (zto hs x) hc;refine zgl hw (x:=.pointer (some ⟨w.heap.size,0,none⟩)) (w':=w.alloc (.cells xs.toArray t)) ?_ ?_
 ·have he:execOp a.eval o=(do pure (Next.value (← Instr.box t (a.eval x))):Sem Next):=by unfold execOp;rw [ho]
  rw [he,← hxs];rfl
 ·rw [hd];have hf2:freshB i [] H=true:=by unfold freshB at hf ⊢;simp at hf ⊢;exact hf.2
  refine h (upd γ i ⟨some ⟨w.heap.size,0,none⟩,0⟩) _ _ (by rw [zlk];exact hn) ⟨hs.toHOk.alloc hK hf2 (zgv hl hcc hfc),(hs.fr.upd hf).put (by omega) ?_,hs.defers⟩;exact Conc.ptr i 0 _ 0 (by rw [upd_same])
end
end Go.Proofs.Ytfffbioafhppiaa.Sx
namespace Go.Proofs.Ytfffbioafhppiaa.Sx
open Go.RowKit
variable {P:Program} {S:Base} {w0 w:World} {E:Env} {H:Heap} {γ:Nat→Loc} {a:Act} {N:Nat}
def zeroL (P:Program) (t:TypeId):Option (List Value):=((P.info? t).bind (·.zero)).map (·.cells.toList)
def sizeB (P:Program) (t:TypeId):Option Nat:=(P.info? t).map (·.size)
mutual
def AV.one:AV→Bool
 | .v (.agg _)=>false
 | .v (.tuple _)=>false
 | .agg _=>false
 | .tup _=>false
 | .top=>false
 | _=>true
end
def putAt {α:Type} (cs:List α) (o:Nat) (vs:List α):List α:=cs.take o++vs++cs.drop (o+vs.length)
theorem putAt_get {α:Type} {cs:List α} {o:Nat} {vs:List α} (hle:o+vs.length≤cs.length) (j:Nat):(putAt cs o vs)[j]? = if o≤j∧j<o+vs.length then vs[j-o]? else cs[j]?:=by
 unfold putAt;have hl:(cs.take o).length=o:=by simp;omega
 by_cases h1:j<o
 ·rw [if_neg (by omega),List.append_assoc,List.getElem?_append_left (by omega),List.getElem?_take,if_pos h1]
 ·by_cases h2:j<o+vs.length
  ·rw [if_pos ⟨by omega,h2⟩,List.append_assoc,List.getElem?_append_right (by omega),hl,List.getElem?_append_left (by omega)]
  ·rw [if_neg (by omega),List.getElem?_append_right (by simp;omega),List.getElem?_drop];congr 1;simp;omega
section
variable {ops:Array Oper} {Q:Exit→Act→World→Prop} {o:Oper} {rest:List Oper} {d:Nat} {av:AV}
theorem zqa {i:Nat} (hf:freshB i E H=true):freshB i [] H=true:=by unfold freshB at hf ⊢;simp at hf ⊢;exact hf.2
theorem zwd (zs:List Value):∀ (j:Nat) (a:AV) (y:Value),(zs.map AV.v)[j]? = some a→zs[j]? = some y→Conc γ a y:=fun j a y ha hy=>by
 rw [List.getElem?_map,hy] at ha;simp at ha;subst ha;exact Conc.v y
theorem zvx (i:Nat) (zs:List Value):AV.freeL i (zs.map AV.v)=true:=by
 induction zs with
 | nil=>rfl
 | cons z zs ih=>simp [AV.freeL,AV.free];simpa using ih
theorem SG.alloc (i:Nat) (hK:S.K≤i) {t:TypeId} {zs:List Value} (ho:o.op = .alloc t) (hd:o.dst=some d) (hN:d<N) (hzl:zeroL P t=some zs) (hf:freshB i E H=true)
  (h:SL P N S w0 ops Q rest ((d,.ptr i 0)::E) ((i,.box (zs.map .v))::H)):SG P N S w0 ops Q o rest E H:=by
 intro γ a w hn hw hs;unfold zeroL at hzl
 cases hi:P.info? t with
 | none=>rw [hi] at hzl;simp at hzl
 | some inf=>
  rw [hi] at hzl
  cases hzz:inf.zero with
  | none=>simp [hzz] at hzl
  | some z=>
   simp [hzz] at hzl;refine zgl hw (x:=.pointer (some ⟨w.heap.size,0,none⟩)) (w':=w.alloc (.cells zs.toArray t)) ?_ ?_
   ·have hzc:z.cells=zs.toArray:=by rw [← hzl]
    have he:execOp a.eval o=(do pure (Next.value (← Instr.alloc t true (.tuple #[]))):Sem Next):=by unfold execOp;rw [ho]
    rw [he];refine run_v ?_;simp [Instr.alloc,zeroValue,typeInfo,hi,hzz,newVar,newRow,newObj,hzc,Sem.run]
   ·rw [hd];refine h (upd γ i ⟨some ⟨w.heap.size,0,none⟩,0⟩) _ _ (by rw [zlk];exact hn) ⟨hs.toHOk.alloc hK (zqa hf) (zgv (by simp) (zwd zs) (zvx i zs)),(hs.fr.upd hf).put (by omega) (Conc.ptr i 0 _ 0 (by rw [upd_same])),hs.defers⟩
theorem setCells_heap (b:Nat):∀ (vs:List Value) (o:Nat) (w:World) (k:Nat),k≠b→(w.setCells b o vs).heap[k]? = w.heap[k]?
 | [],_,_,_,_=>rfl
 | v::r,o,w,k,h=>by rw [World.setCells,setCells_heap b r (o+1) _ k h,heap_setCell_other w ⟨b,o,none⟩ k v h]
theorem setCells_rest (b:Nat):∀ (vs:List Value) (o:Nat) (w:World),(w.setCells b o vs).heap.size=w.heap.size∧(w.setCells b o vs).os=w.os∧(w.setCells b o vs).tape=w.tape∧(w.setCells b o vs).output=w.output
 | [],_,_=>⟨rfl,rfl,rfl,rfl⟩
 | v::r,o,w=>by
  rw [World.setCells];obtain ⟨h1,h2,h3,h4⟩:=setCells_rest b r (o+1) (w.setCell ⟨b,o,none⟩ v);exact ⟨by rw [h1];simp [World.setCell],by rw [h2];rfl,by rw [h3];rfl,by rw [h4];rfl⟩
end
end Go.Proofs.Ytfffbioafhppiaa.Sx
namespace Go.Proofs.Ytfffbioafhppiaa.Ev
section
open Go.RowKit
def pureOf {α:Type} (P:Program) (s:Sem α):Option α:=
 Sem.rec (motive:=fun _=>Option α) (fun a=>some a) (fun _ _ _ _=>none) (fun _ _ _ _ _=>none) (fun _ _ _=>none) (fun _ _ _=>none) (fun _ _ _ _=>none) (fun _ _ _=>none) (fun _ _ _=>none) (fun _ _ _ _=>none) (fun _ _ _=>none) (fun _ _ _=>none)
  (fun _ ih=>ih P) (fun _ _ ih=>ih) (fun _=>none) s
theorem zeu {α:Type} {P:Program} {s:Sem α} {a:α} (h:pureOf P s=some a) (w:World):s.run P w = .ok a w:=by
 induction s with
 | pure b=>simp [pureOf] at h;subst h;simp [Sem.run]
 | program k ih=>
  have:=ih P h;simpa [Sem.run] using this
 | mark m k ih=>
  have:=ih h;simpa [Sem.run] using this
 | _=>simp [pureOf] at h
def vOf (a:Option EV):Option Value:=match a with
 | some (.v x)=>some x
 | _=>none
def exVal (T:Tr EV) (x:Operand):Option EV:=match x with
 | .tmp t=>T.get t
 | .const x=>some (.v x)
 | .global _=>none
 | .func f=>some (.fn f [])
def opEval (tmps:Array Value):Operand→Value
 | .tmp t=>tmps.getD t undef
 | .const v=>v
 | .global g=>.pointer (some ⟨g,0,none⟩)
 | .func f=>.func (.func f) #[] #[]
variable {P:Program} {γ:G} {w0:Bs} {w:World} {H:Tr EK} {n:Nat} {T:Tr EV} {tmps:Array Value}
theorem getD_of {t:Nat} {x:Value} (h:tmps[t]? = some x):tmps.getD t undef=x:=by
 simp [Array.getD,Array.getElem?_eq_some_iff] at h ⊢;obtain ⟨h1,h2⟩:=h;simp [h1,h2]
theorem zaa (hT:TOk γ T tmps) {x:Operand} {a:EV} (h:exVal T x=some a):EC γ a (opEval tmps x):=by
 cases x with
 | tmp t=>
  obtain ⟨y,hy,hc⟩:=hT t a h;show EC γ a (tmps.getD t undef);rw [getD_of hy];exact hc
 | const v=>simp [exVal] at h;subst h;exact .v v
 | global g=>simp [exVal] at h
 | func f=>simp [exVal] at h;subst h;exact .fn f [] [] rfl (by simp)
theorem ec_v {x y:Value} (h:EC γ (.v x) y):y=x:=by cases h;rfl
def rho (T:Tr EV) (x:Operand):Value:=(vOf (exVal T x)).getD undef
def allV (T:Tr EV) (l:List Operand):Bool:=List.rec true (fun x _ ih=>bc (Option.isSome (vOf (exVal T x))) ih false) l
theorem zwk (hT:TOk γ T tmps) {l:List Operand} (h:allV T l=true):∀ x∈l,opEval tmps x=rho T x:=by
 induction l with
 | nil=>simp
 | cons y l ih=>
  have h':bc (Option.isSome (vOf (exVal T y))) (allV T l) false=true:=h;rw [bc_eq] at h'
  by_cases e:(vOf (exVal T y)).isSome=true
  ·rw [if_pos e] at h';intro x hx;rcases List.mem_cons.1 hx with rfl|hx
   ·unfold rho
    cases ha:exVal T x with
    | none=>rw [ha] at e;simp [vOf] at e
    | some a=>
     rw [ha] at e
     cases a with
     | v u=>simp [vOf];exact ec_v (zaa hT ha)
     | _=>simp [vOf] at e
   ·exact ih h' x hx
  ·rw [if_neg e] at h';cases h'
def notSelect:Op→Bool
 | .select _ _=>false
 | _=>true
def exPure (P:Program) (T:Tr EV) (o:Oper):Option Value:=
 bc (allV T o.op.operands.toList) (bc (notSelect o.op) (match pureOf P (execOp (rho T) o) with
  | some (.value v)=>some v
  | _=>none) none) none
theorem zqf (hT:TOk γ T tmps) {o:Oper} {v:Value} (h:exPure P T o=some v) (w:World):(execOp (opEval tmps) o).run P w = .ok (.value v) w:=by
 unfold exPure at h;rw [bc_eq,bc_eq] at h;split at h
 ·rename_i h1;split at h
  ·rename_i h2;split at h
   ·rename_i u hu;injection h with h;subst h
    have:=zwk hT h1;rw [execOp_congr o (fun cs b e=>by rw [e] at h2;simp [notSelect] at h2) (ρ':=rho T) (fun x hx=>this x (by simpa using hx))];exact zeu hu w
   ·cases h
  ·cases h
 ·cases h
def EV.cells:EV→List EV
 | .v x=>x.cells.toList.map .v
 | .agg cs=>cs
 | .arr c=>c.enc
 | a=>[a]
theorem zdz {a:EV} {x:Value} (h:EC γ a x) (e:x.cells.toList=[x]):ECL γ [a] x.cells.toList:=by rw [e];exact ECL.cons h (ECL.nil γ)
theorem EC.cells {a:EV} {x:Value} (h:EC γ a x):ECL γ a.cells x.cells.toList:=by
 cases h with
 | v x=>exact ECL.vals γ _
 | agg cs vs hl h=>exact ⟨hl,h⟩
 | ptr i off b n h=>exact ECL.cons (.ptr i off b n h) (ECL.nil γ)
 | sl i z off len cap b n c h hl hm hn hc hu=>exact ECL.cons (.sl i z off len cap b n c h hl hm hn hc hu) (ECL.nil γ)
 | tup cs vs hl h=>exact ECL.cons (.tup cs vs hl h) (ECL.nil γ)
 | fn f cs vs hl h=>exact ECL.cons (.fn f cs vs hl h) (ECL.nil γ)
 | yl i b n h=>exact ECL.cons (.yl i b n h) (ECL.nil γ)
 | mp i b n h=>exact ECL.cons (.mp i b n h) (ECL.nil γ)
 | slE i z off b n c off' h hm hn=>exact ECL.cons (.slE i z off b n c off' h hm hn) (ECL.nil γ)
 | mt f cs vs hl h=>exact ECL.cons (.mt f cs vs hl h) (ECL.nil γ)
 | slO i z len nn x h=>exact zdz (.slO i z len nn x h) (by
   cases nn with
   | false=>rw [(h.1 rfl).1];rfl
   | true=>obtain ⟨b,m,c,_,e,_⟩:=h.2 rfl;rw [e];rfl)
 | lst c x h=>exact zdz (.lst c x h) (by obtain ⟨a,c,e⟩:=h.slice;rw [e];rfl)
 | lp c j f k off cp h=>exact zdz (.lp c j f k off cp h) rfl
 | ptrE i z j f b n h=>exact zdz (.ptrE i z j f b n h) rfl
 | arr c vs h=>show ECL γ c.enc vs;rw [c.vals_enc h];exact ECL.vals γ vs
 | row i v j f y z len x h=>exact zdz (.row i v j f y z len x h) (by obtain ⟨a,c,e⟩:=zia (.row i v j f y z len x h);rw [e];rfl)
 | prow i v j f y z a g k m h=>exact zdz (.prow i v j f y z a g k m h) rfl
 | slX i z off len b n c off' h hl hm hn ho=>exact zdz (.slX i z off len b n c off' h hl hm hn ho) rfl
def valsOf (cs:List EV):Option (List Value):=List.rec (some []) (fun a _ ih=>match a with
 | .v x=>match ih with
  | some l=>some (x::l)
  | none=>none
 | _=>none) cs
theorem zfn:∀ {cs:List EV} {l:List Value},valsOf cs=some l→cs=l.map .v
 | [],l,h=>by simp [valsOf] at h;subst h;rfl
 | a::cs,l,h=>by
  cases a with
  | v x=>
   have h':(match valsOf cs with
    | some l=>some (x::l)
    | none=>none)=some l:=h
   split at h'
   ·rename_i l2 h2;injection h' with h';subst h'
    rw [zfn h2];rfl
   ·cases h'
  | _=>exact absurd (show (none:Option (List Value))=some l from h) (by simp)
def packE (cs:List EV):EV:=match valsOf cs with
 | some l=>.v (.agg l.toArray)
 | none=>.agg cs
theorem zed {cs:List EV} {vs:List Value} (h:ECL γ cs vs):EC γ (packE cs) (.agg vs.toArray):=by
 unfold packE;split
 ·rename_i l hl;have e:=zfn hl;subst e;have:vs=l:=by
   apply List.ext_getElem?;intro j
   cases hj:vs[j]? with
   | none=>
    have:¬ j<vs.length:=by simpa using hj
    have hl:=h.1;simp at hl;simp;omega
   | some x=>
    have hlt:j<vs.length:=(List.getElem?_eq_some_iff.1 hj).1;have hl:=h.1;simp at hl;have:=h.2 j (.v l[j]) x (by simp) hj;rw [ec_v this];simp [show j<l.length by omega]
  subst this;exact .v _
 ·exact .agg cs vs h.1 h.2
def EV.one:EV→Bool
 | .v (.agg _)=>false
 | .v (.tuple _)=>false
 | .agg _=>false
 | .tup _=>false
 | .arr _=>false
 | _=>true
theorem EC.one {a:EV} {x:Value} (h:EC γ a x) (h1:a.one=true):x.oneCell'=true:=by
 cases h with
 | v x=>cases x <;> first|rfl|(simp [EV.one] at h1)
 | agg=>simp [EV.one] at h1
 | tup=>simp [EV.one] at h1
 | arr=>simp [EV.one] at h1
 | slO i z len nn x h=>
  cases nn with
  | false=>rw [(h.1 rfl).1];rfl
  | true=>obtain ⟨b,m,c,_,e,_⟩:=h.2 rfl;rw [e];rfl
 | lst c x h=>obtain ⟨a,c,e⟩:=h.slice;rw [e];rfl
 | row i v j f y z len x h=>obtain ⟨a,c,e⟩:=zia (.row i v j f y z len x h);rw [e];rfl
 | _=>rfl
theorem ECL.ones {cs:List EV} {vs:List Value} (h:ECL γ cs vs) (h1:cs.all EV.one=true):∀ u∈vs,u.oneCell'=true:=fun u hu=>by
 obtain ⟨j,hj,rfl⟩:=List.getElem_of_mem hu;have hj2:j<cs.length:=by rw [h.1];exact hj
 exact (h.2 j cs[j] vs[j] (by simp [hj2]) (by simp [hj])).one (by rw [List.all_eq_true] at h1;exact h1 _ (List.getElem_mem hj2))
def Gives (P:Program) (γ:G) (w0:Bs) (w:World) (s:Sem Next) (r:Option EV) (H:Tr EK) (n:Nat):Prop:=
 ∃ γ' w',GLe γ γ'∧HR γ' w0 H n w'∧match r with
  | some a=>∃ x,s.run P w = .ok (.value x) w'∧EC γ' a x
  | none=>s.run P w = .ok .skip w'
theorem zab {s:Sem Next} {a:EV} {x:Value} (hr:s.run P w = .ok (.value x) w) (ha:EC γ a x) (hH:HR γ w0 H n w):Gives P γ w0 w s (some a) H n:=
 ⟨γ,w,GLe.refl γ,hH,x,hr,ha⟩
theorem run_v {s:Sem Value} {x:Value} {w w':World} (h:s.run P w = .ok x w'):(do pure (Next.value (← s)):Sem Next).run P w = .ok (.value x) w':=by
 simp [h]
theorem run_u {s:Sem Unit} {w w':World} (h:s.run P w = .ok () w'):(do s;pure Next.skip:Sem Next).run P w = .ok .skip w':=by
 simp [h]
theorem znj (e:TypeId) (c:Array Value) (w:World):(newRow e c).run P w = .ok ⟨w.heap.size,0,none⟩ (w.alloc (.cells c e)):=by
 simp [newRow,newObj,Sem.run]
theorem HR.newCells (h:HR γ w0 H n w) (hn:Nat.ble n 65535=true) {e:TypeId} {c:Array Value} {cs:List EV} (hc:ECL γ cs c.toList) :
  HR (γ.upd n (⟨w.heap.size,0⟩,c.size)) w0 (H.put n (some (.cells e cs true))) (n+1) (w.alloc (.cells c e)):=by
 have hl:cs.length=c.size:=by simpa using hc.1
 refine h.new hn (.cells c e) c.size (.cells e cs true) rfl rfl rfl rfl ⟨c,.of (by show (w.heap.push _)[_]? = _;simp),(Nat.zero_add _).symm,by omega,fun _=>hl,?_⟩;show ECL _ cs ((c.toList.drop 0).take cs.length);rw [List.drop_zero,hl,show c.size=c.toList.length by simp,List.take_length];exact hc.mono (G.upd_le (h.fresh n (Nat.le_refl _)))
theorem zbo {s:Sem Next} {e:TypeId} {c:Array Value} {cs:List EV} {a:EV} {x:Value} (h:HR γ w0 H n w) (hn:Nat.ble n 65535=true) (hc:ECL γ cs c.toList)
  (hr:s.run P w = .ok (.value x) (w.alloc (.cells c e))) (ha:∀ γ',γ' n=some (⟨w.heap.size,0⟩,c.size)→EC γ' a x):Gives P γ w0 w s (some a) (H.put n (some (.cells e cs true))) (n+1):=
 ⟨_,_,G.upd_le (h.fresh n (Nat.le_refl _)),h.newCells hn hc,x,hr,ha _ G.upd_same⟩
theorem zb5 {t:TypeId} {zs:List Value} (h:Sx.zeroL P t=some zs):∃ inf z,P.info? t=some inf∧inf.zero=some z∧z.cells.toList=zs:=by
 unfold Sx.zeroL at h
 cases hi:P.info? t with
 | none=>rw [hi] at h;simp at h
 | some inf=>
  rw [hi] at h
  cases hz:inf.zero with
  | none=>simp [hz] at h
  | some z=>simp [hz] at h;exact ⟨inf,z,rfl,hz,h⟩
theorem zbl {t:TypeId} {m:Nat} (h:Sx.sizeB P t=some m):∃ inf,P.info? t=some inf∧inf.size=m:=by
 unfold Sx.sizeB at h
 cases hi:P.info? t with
 | none=>rw [hi] at h;simp at h
 | some inf=>rw [hi] at h;simp at h;exact ⟨inf,rfl,h⟩
end
end Go.Proofs.Ytfffbioafhppiaa.Ev
namespace Go.Proofs.Ytfffbioafhppiaa.Sx
open Go.RowKit
variable {P:Program} {S:Base} {w0 w:World} {E:Env} {H:Heap} {γ:Nat→Loc} {a:Act} {N:Nat}
section
variable {Q:Exit→Act→World→Prop}
end
section
variable {fn:Func} {R:Ending→World→Prop}
end
end Go.Proofs.Ytfffbioafhppiaa.Sx
namespace Go.Proofs.Ytfffbioafhppiaa.Ev
section
open Go.RowKit
variable {P:Program} {γ:G} {w0:Bs} {w:World} {H H':Tr EK} {n n':Nat} {T:Tr EV} {tmps:Array Value} {o:Oper} {r:Option EV}
def lget {α:Type} (l:List α):Nat→Option α:=List.rec (fun _=>none) (fun a _ ih n=>Nat.rec (some a) (fun m _=>ih m) n) l
theorem zag {α:Type}:∀ (l:List α) (n:Nat),lget l n=l[n]?
 | [],n=>rfl
 | a::l,0=>rfl
 | a::l,n+1=>by
  show lget l n=_;rw [zag l n];simp
def llen {α:Type} (l:List α):Nat:=List.rec 0 (fun _ _ n=>Nat.succ n) l
theorem zac {α:Type} (l:List α):llen l=l.length:=by
 induction l with
 | nil=>rfl
 | cons a l ih=>show Nat.succ (llen l)=_;rw [ih];rfl
structure ER where
 val:Option EV
 H:Tr EK
 n:Nat
def lstT (T:Tr EV) (k:Nat):List EV→Option (List EV):=Nat.rec (fun acc=>some acc) (fun k ih acc=>match T.get k with
 | some a=>ih (a::acc)
 | none=>none) k
theorem zpw {T:Tr EV}:∀ {k:Nat} {acc cs:List EV},lstT T k acc=some cs→cs.length=k+acc.length∧(∀ j,j<k→cs[j]? = T.get j)∧∀ j,cs[k+j]? = acc[j]?
 | 0,acc,cs,h=>by
  have h':some acc=some cs:=h;injection h' with h';subst h'
  exact ⟨by simp,fun j hj=>by omega,fun j=>by rw [Nat.zero_add]⟩
 | k+1,acc,cs,h=>by
  have h':(match T.get k with
   | some a=>lstT T k (a::acc)
   | none=>none)=some cs:=h
  split at h'
  case h_2=>cases h'
  rename_i a ha;obtain ⟨h1,h2,h3⟩:=zpw h';refine ⟨by rw [h1];simp;omega,fun j hj=>?_,fun j=>?_⟩
  ·by_cases e:j<k
   ·exact h2 j e
   ·have:j=k:=by omega
    subst this;have:=h3 0;rw [Nat.add_zero] at this;rw [this,ha];rfl
  ·have:=h3 (j+1);rw [show k+(j+1)=k+1+j by omega] at this;rw [this];simp
def cellsAt (H:Tr EK) (i:Nat):Option (TypeId×List EV×Bool):=match H.get i with
 | some (.cells ty cs full)=>some (ty,cs,full)
 | some (.arr ty T len)=>match lstT T len [] with
  | some cs=>some (ty,cs,true)
  | none=>none
 | _=>none
theorem zbc (hH:HR γ w0 H n w) {i:Nat} {ty:TypeId} {cs:List EV} {full:Bool} (h:cellsAt H i=some (ty,cs,full)) :
  (∃ k0,H.get i=some k0∧¬ k0.Nil)∧∃ (b:Pl) (m:Nat) (c:Array Value),γ i=some (b,m)∧Cl w b.k c ty∧c.size=b.s+m∧cs.length≤m∧(full=true→cs.length=m)∧ECL γ cs ((c.toList.drop b.s).take cs.length):=by
 unfold cellsAt at h;split at h
 ·rename_i ty' cs' full' hg;simp only [Option.some.injEq,Prod.mk.injEq] at h;obtain ⟨rfl,rfl,rfl⟩:=h;obtain ⟨b,m,h1,_,c,h2,h3,h4,h5,h6⟩:=hH.hp i _ hg;exact ⟨⟨_,hg,id⟩,b,m,c,h1,h2,h3,h4,h5,h6⟩
 ·rename_i ty' T len hg;split at h
  case h_2=>cases h
  rename_i cs' hl;simp only [Option.some.injEq,Prod.mk.injEq] at h;obtain ⟨rfl,rfl,rfl⟩:=h;obtain ⟨b,m,h1,_,c,h2,h3,h4,h5⟩:=hH.hp i _ hg;obtain ⟨g1,g2,_⟩:=zpw hl;have g1:cs'.length=len:=by simpa using g1
  refine ⟨⟨_,hg,id⟩,b,m,c,h1,h2,h3,by omega,fun _=>by omega,⟨?_,fun j a x ha hx=>?_⟩⟩
  ·have hcl:c.toList.length=c.size:=by simp
   rw [List.length_take,List.length_drop];omega
  ·have hj:j<len:=by rw [← g1];exact (List.getElem?_eq_some_iff.1 ha).1
   rw [g2 j hj] at ha;obtain ⟨y,hy,hc⟩:=h5 j a hj ha;rw [List.getElem?_take,if_pos (by omega),List.getElem?_drop,Array.getElem?_toList,hy] at hx;injection hx with hx;subst hx
   exact hc
 ·cases h
theorem zaf {b:Pl} {off:Nat} {c:Array Value} {ty:TypeId} (hc:Cl w b.k c ty):w.cell? (b.at off)=c[b.s+off]? ∧ (b.s+off<c.size→w.frozen? (b.at off)=false):=by
 obtain ⟨fz,hc,hf⟩:=hc;constructor
 ·unfold World.cell? Pl.at;simp [hc]
 ·intro hlt;unfold World.frozen? Pl.at;simp [hc];rcases hf with rfl|hf
  ·simp
  ·intro h;omega
theorem Pl.at_add (b:Pl) (off j:Nat):(b.at off).add j=b.at (off+j):=by unfold Pl.at;rw [Addr.add_lit,Nat.add_assoc]
theorem zcc {i off:Nat} {y:Value} (h:EC γ (.ptr i off) y):∃ b m,γ i=some (b,m)∧y = .pointer (some (b.at off)):=by
 cases h with|ptr _ _ b m h=>exact ⟨b,m,h,rfl⟩
theorem ec_sl {i z off len:Nat} {cap:Option Nat} {y:Value} (h:EC γ (.sl i z off len cap) y):∃ (b:Pl) (m c:Nat),γ i=some (b,m)∧y = .slice (some (b.at off)) len c∧len≤c∧c≤maxLen∧off+c*z≤m∧(∀ k,cap=some k→c=k)∧(cap=none→off+c*z=m∨c=0):=by
 cases h with|sl _ _ _ _ _ b m c h hl hm hn hc hu=>exact ⟨b,m,c,h,rfl,hl,hm,hn,hc,hu⟩
def exNew (t:TypeId) (cs:List EV) (H:Tr EK) (n:Nat):Option ER:=
 bc (Nat.ble n 65535) (some ⟨some (.ptr n 0),H.put n (some (.cells t cs true)),Nat.succ n⟩) none
theorem zs7 (hH:HR γ w0 H n w) {s:Sem Next} {t:TypeId} {cs:List EV} {c:Array Value} {e:ER} (h:exNew t cs H n=some e) (hc:ECL γ cs c.toList)
  (hr:s.run P w = .ok (.value (.pointer (some ⟨w.heap.size,0,none⟩))) (w.alloc (.cells c t))):Gives P γ w0 w s e.val e.H e.n:=by
 unfold exNew at h;rw [bc_eq] at h;split at h
 ·rename_i hn;injection h with h;subst h
  exact zbo hH hn hc hr fun γ' e=>.ptr n 0 _ _ e
 ·cases h
def exBox (T:Tr EV) (t:TypeId) (x:Operand) (H:Tr EK) (n:Nat):Option ER:=match exVal T x with
 | some a=>exNew t a.cells H n
 | none=>none
theorem zs9 (hT:TOk γ T tmps) (hH:HR γ w0 H n w) {t:TypeId} {x:Operand} {e:ER} (ho:o.op = .box t x) (h:exBox T t x H n=some e):Gives P γ w0 w (execOp (opEval tmps) o) e.val e.H e.n:=by
 unfold exBox at h;split at h
 ·rename_i a ha;refine zs7 hH (c:=(opEval tmps x).cells) h (zaa hT ha).cells ?_;have he:execOp (opEval tmps) o=(do pure (Next.value (← Instr.box t (opEval tmps x))):Sem Next):=by unfold execOp;rw [ho]
  rw [he];refine run_v ?_;simp [Instr.box,newVar,newRow,newObj,Sem.run]
 ·cases h
def aggOf (P:Program) (t:TypeId):Option (Option Nat):=match P.underlying t with
 | some (.struct _)=>match Sx.sizeB P t with
  | some m=>some (some m)
  | none=>none
 | some (.array _ _)=>match Sx.sizeB P t with
  | some m=>some (some m)
  | none=>none
 | some _=>some none
 | none=>none
theorem zc9 {t m:Nat} (h:aggOf P t=some (some m)):(∀ w,(isAgg t).run P w = .ok true w)∧∃ inf,P.info? t=some inf∧inf.size=m:=by
 unfold aggOf at h;split at h
 ·rename_i fs hu;split at h
  ·rename_i m' hm;simp at h;subst h;exact ⟨fun w=>by unfold isAgg;simp [run_underlying hu],zbl hm⟩
  ·cases h
 ·rename_i k e hu;split at h
  ·rename_i m' hm;simp at h;subst h;exact ⟨fun w=>by unfold isAgg;simp [run_underlying hu],zbl hm⟩
  ·cases h
 ·simp at h
 ·cases h
theorem zbx {t:Nat} (h:aggOf P t=some none) (w:World):(isAgg t).run P w = .ok false w:=by
 unfold aggOf at h;split at h
 ·split at h <;> simp at h
 ·split at h <;> simp at h
 ·rename_i d h1 h2 hu;unfold isAgg;rw [Sem.run_bind,run_underlying hu,Result.andThen_ok];split
  ·exact (h1 _ rfl).elim
  ·exact (h2 _ _ rfl).elim
  ·rfl
 ·cases h
def exLoadL (P:Program) (T:Tr EV) (t:TypeId) (x:Operand) (H:Tr EK):Option EV:=match exVal T x with
 | some (.ptr i off)=>match cellsAt H i with
  | some (_,cs,_)=>match aggOf P t with
   | some none=>lget cs off
   | some (some m)=>bc (Nat.ble (Nat.add off m) (llen cs)) (some (packE ((cs.drop off).take m))) none
   | none=>none
  | none=>none
 | _=>none
theorem zns (hT:TOk γ T tmps) (hH:HR γ w0 H n w) {t:TypeId} {x:Operand} {a:EV} (ho:o.op = .load t x) (h:exLoadL P T t x H=some a):Gives P γ w0 w (execOp (opEval tmps) o) (some a) H n:=by
 unfold exLoadL at h;split at h
 case h_2=>cases h
 rename_i i off hx;split at h
 case h_2=>cases h
 rename_i ty cs full hcs;obtain ⟨b,m,hγ,he⟩:=zcc (zaa hT hx);obtain ⟨hg,b2,m2,c,hγ2,hb,hsz,hle,hfull,hc⟩:=zbc hH hcs;rw [hγ] at hγ2;simp only [Option.some.injEq,Prod.mk.injEq] at hγ2;obtain ⟨rfl,rfl⟩:=hγ2;have hs2:execOp (opEval tmps) o=(do pure (Next.value (← Instr.loadAt t (.pointer (some (b.at off))))):Sem Next):=by
  unfold execOp;rw [ho];simp only [he]
 split at h
 ·rename_i hag;rw [zag] at h;obtain ⟨y,hy,hcy⟩:=hc.at h;have hcell:w.cell? (b.at off)=some y:=by
   rw [(zaf hb).1,← Array.getElem?_toList];rw [List.getElem?_take] at hy;split at hy
   ·rw [List.getElem?_drop] at hy;exact hy
   ·cases hy
  refine zab (x:=y) ?_ hcy hH;rw [hs2];refine run_v ?_;simp [Instr.loadAt,Instr.sureAddr,loadVar,zbx hag,load,Sem.run,hcell]
 ·rename_i k hag;rw [bc_eq] at h;split at h
  ·rename_i hlt;injection h with h;subst h
   have hlt:=Nat.le_of_ble_eq_true hlt;rw [zac] at hlt;have hlt:off+k≤cs.length:=hlt;obtain ⟨hagg,inf,hi,hs⟩:=zc9 hag;have hL:=(hc.drop off).take k;refine zab (x:=.agg ((((c.toList.drop b.s).take cs.length).drop off).take k).toArray) ?_ (zed hL) hH;rw [hs2];refine run_v ?_;have hlen:((((c.toList.drop b.s).take cs.length).drop off).take k).length=k:=by simp;omega
   have hl:=run_loadCells_list (P:=P) w (b.at off) ((((c.toList.drop b.s).take cs.length).drop off).take k) fun q y hy=>by
    rw [Pl.at_add,(zaf hb).1,← Array.getElem?_toList];rw [List.getElem?_take] at hy;split at hy
    ·rw [List.getElem?_drop,List.getElem?_take] at hy;split at hy
     ·rw [List.getElem?_drop] at hy;exact hy
     ·cases hy
    ·cases hy
   rw [hlen] at hl;simp only [Instr.loadAt,Instr.sureAddr,loadVar,Sem.run_bind,Sem.run_pure,Result.andThen_ok,hagg w,if_true,sizeOf,typeInfo];simp [hi,hs,hl]
  ·cases h
 ·cases h
def arrLoad (P:Program) (t:TypeId) (T:Tr EV) (off len:Nat):Option EV:=match aggOf P t with
 | some none=>bc (Nat.blt off len) (T.get off) none
 | _=>none
def ptrLoad (P:Program) (t:TypeId) (i off:Nat) (H:Tr EK):Option EV:=match H.get i with
 | some (.arr _ T len)=>arrLoad P t T off len
 | _=>none
def fastLoad (P:Program) (T:Tr EV) (t:TypeId) (x:Operand) (H:Tr EK):Option EV:=match exVal T x with
 | some (.ptr i off)=>ptrLoad P t i off H
 | _=>none
def exLoad (P:Program) (T:Tr EV) (t:TypeId) (x:Operand) (H:Tr EK):Option EV:=match fastLoad P T t x H with
 | some a=>some a
 | none=>exLoadL P T t x H
theorem zkl (hT:TOk γ T tmps) (hH:HR γ w0 H n w) {t:TypeId} {x:Operand} {a:EV} (ho:o.op = .load t x) (h:fastLoad P T t x H=some a):Gives P γ w0 w (execOp (opEval tmps) o) (some a) H n:=by
 unfold fastLoad at h;split at h
 case h_2=>cases h
 rename_i i off hx;unfold ptrLoad at h;split at h
 case h_2=>cases h
 rename_i ty T' len hg;unfold arrLoad at h;split at h
 case h_2=>cases h
 rename_i hag;rw [bc_eq] at h;split at h
 case isFalse=>cases h
 rename_i hlt;have hlt:off<len:=by unfold Nat.blt at hlt;exact Nat.le_of_ble_eq_true hlt
 obtain ⟨b,m,hγ,he⟩:=zcc (zaa hT hx);obtain ⟨b2,m2,hγ2,_,c,h2,h3,h4,h5⟩:=hH.hp i _ hg;rw [hγ] at hγ2;simp only [Option.some.injEq,Prod.mk.injEq] at hγ2;obtain ⟨rfl,rfl⟩:=hγ2;obtain ⟨y,hy,hcy⟩:=h5 off a hlt h;have hs2:execOp (opEval tmps) o=(do pure (Next.value (← Instr.loadAt t (.pointer (some (b.at off))))):Sem Next):=by
  unfold execOp;rw [ho];simp only [he]
 have hcell:w.cell? (b.at off)=some y:=by rw [(zaf h2).1];exact hy
 refine zab (x:=y) ?_ hcy hH;rw [hs2];refine run_v ?_;simp [Instr.loadAt,Instr.sureAddr,loadVar,zbx hag,load,Sem.run,hcell]
theorem zqi (hT:TOk γ T tmps) (hH:HR γ w0 H n w) {t:TypeId} {x:Operand} {a:EV} (ho:o.op = .load t x) (h:exLoad P T t x H=some a):Gives P γ w0 w (execOp (opEval tmps) o) (some a) H n:=by
 unfold exLoad at h;split at h
 ·rename_i b hb;injection h with h;subst h
  exact zkl hT hH ho hb
 ·exact zns hT hH ho h
end
section
open Go.RowKit
variable {P:Program} {γ:G} {w0:Bs} {w:World} {H H':Tr EK} {n n':Nat} {T:Tr EV} {tmps:Array Value} {o:Oper} {r:Option EV}
def putArr (c:Array Value):Nat→List Value→Array Value
 | _,[]=>c
 | o,v::r=>putArr (c.setIfInBounds o v) (o+1) r
theorem zap:∀ (l:List Value) (c:Array Value) (o:Nat),(putArr c o l).size=c.size
 | [],_,_=>rfl
 | v::r,c,o=>by rw [putArr,zap r];simp
theorem za1:∀ (l:List Value) (c:Array Value) (o q:Nat),o+l.length≤c.size→(putArr c o l)[q]? = if o≤q∧q<o+l.length then l[q-o]? else c[q]?
 | [],c,o,q,_=>by rw [putArr,if_neg (by simp)]
 | v::r,c,o,q,h=>by
  simp only [List.length_cons] at h ⊢;rw [putArr,za1 r _ (o+1) q (by simp;omega)]
  by_cases h1:o+1≤q∧q<o+1+r.length
  ·rw [if_pos h1,if_pos (by omega),show q-o=(q-(o+1))+1 by omega];simp
  ·rw [if_neg h1]
   by_cases h2:q=o
   ·subst h2;rw [if_pos (by omega),Array.getElem?_setIfInBounds_self];simp;omega
   ·rw [if_neg (by omega),Array.getElem?_setIfInBounds_ne (fun e=>h2 e.symm)]
theorem zdn {b:Nat} {ty:TypeId} {fz:Nat×Nat}:∀ (l:List Value) (o:Nat) (w:World) (c:Array Value),w.heap[b]? = some (.cells c ty fz)→(w.setCells b o l).heap[b]? = some (.cells (putArr c o l) ty fz)
 | [],_,_,_,h=>h
 | v::r,o,w,c,h=>by
  rw [World.setCells,putArr];refine zdn r (o+1) _ _ ?_;obtain ⟨hlt,he⟩:=Array.getElem?_eq_some_iff.1 h;show (w.heap.modify b _)[b]? = _;rw [Array.getElem?_eq_getElem (by rw [Array.size_modify];exact hlt),Array.getElem_modify_self,he];rfl
theorem Cl.set {w:World} {b:Nat} {c:Array Value} {ty:TypeId} (h:Cl w b c ty) (o:Nat) (l:List Value):Cl (w.setCells b o l) b (putArr c o l) ty:=by
 obtain ⟨fz,h1,h2⟩:=h;exact ⟨fz,zdn l o w c h1,by rw [zap];exact h2⟩
theorem zix {cs vs:List EV} {xs:List Value} {c:Array Value} {off k:Nat} (hc:ECL γ cs ((c.toList.drop k).take cs.length)) (hv:ECL γ vs xs) (hle:off+vs.length≤cs.length) (hsz:k+cs.length≤c.size) :
  ECL γ (Sx.putAt cs off vs) (((putArr c (k+off) xs).toList.drop k).take (Sx.putAt cs off vs).length):=by
 have hl:(Sx.putAt cs off vs).length=cs.length:=by unfold Sx.putAt;simp;omega
 have hx:=hv.1;refine ⟨by rw [hl];simp [zap];omega,fun j a y ha hy=>?_⟩;rw [hl,List.getElem?_take] at hy;split at hy
 case isFalse=>cases hy
 rename_i hj;rw [List.getElem?_drop,Array.getElem?_toList,za1 _ _ _ _ (by omega)] at hy;rw [Sx.putAt_get hle] at ha
 by_cases h1:off≤j∧j<off+vs.length
 ·rw [if_pos h1] at ha;rw [if_pos (by omega),show k+j-(k+off)=j-off by omega] at hy;exact hv.2 _ a y ha hy
 ·rw [if_neg h1] at ha;rw [if_neg (by omega)] at hy;exact hc.2 j a y ha (by rw [List.getElem?_take,if_pos hj,List.getElem?_drop,Array.getElem?_toList];exact hy)
def allOne (cs:List EV):Bool:=List.rec true (fun a _ ih=>bc a.one ih false) cs
theorem zbf (cs:List EV):allOne cs=cs.all EV.one:=by
 induction cs with
 | nil=>rfl
 | cons a cs ih=>
  show bc a.one (allOne cs) false=_;rw [bc_eq,ih,List.all_cons];cases a.one <;> simp
def exPutL (i off:Nat) (vs:List EV) (H:Tr EK):Option (Tr EK):=match cellsAt H i with
 | some (ty,cs,full)=>bc (Nat.ble (Nat.add off (llen vs)) (llen cs)) (bc (allOne vs) (bc (Nat.ble i 65535) (some (H.put i (some (.cells ty (Sx.putAt cs off vs) full)))) none) none) none
 | none=>none
theorem zja (hH:HR γ w0 H n w) {i off:Nat} {vs:List EV} {xs:List Value} (hv:ECL γ vs xs) (h:exPutL i off vs H=some H') {b:Pl} {m:Nat} (hγ:γ i=some (b,m)) :
  HR γ w0 H' n (w.setCells b.k (b.s+off) xs)∧(storeCells (b.at off) xs 0).run P w = .ok () (w.setCells b.k (b.s+off) xs):=by
 unfold exPutL at h;split at h
 case h_2=>cases h
 rename_i ty cs full hcs;rw [bc_eq,bc_eq,bc_eq] at h;split at h
 case isFalse=>cases h
 rename_i hlt;split at h
 case isFalse=>cases h
 rename_i hone;split at h
 case isFalse=>cases h
 rename_i hi;injection h with h;subst h
 have hlt:=Nat.le_of_ble_eq_true hlt;rw [zac,zac] at hlt;have hlt:off+vs.length≤cs.length:=hlt;rw [zbf] at hone;obtain ⟨⟨k0,hg,hkn⟩,b2,m2,c,hγ2,hb,hsz,hle,hfull,hc⟩:=zbc hH hcs;rw [hγ] at hγ2;simp only [Option.some.injEq,Prod.mk.injEq] at hγ2;obtain ⟨rfl,rfl⟩:=hγ2;have hx:=hv.1;obtain ⟨r1,r2,r3,r4⟩:=Sx.setCells_rest b.k xs (b.s+off) w;have hl:(Sx.putAt cs off vs).length=cs.length:=by unfold Sx.putAt;simp;omega
 constructor
 ·refine hH.turn (hn0:=hkn) hi hg hγ (.cells ty (Sx.putAt cs off vs) full) (fun k hk=>Sx.setCells_heap b.k xs (b.s+off) w k hk) r1 r2 r3 r4 ?_;exact ⟨putArr c (b.s+off) xs,hb.set (b.s+off) xs,by rw [zap];exact hsz,by rw [hl];exact hle,fun e=>by rw [hl];exact hfull e,zix hc hv hlt (by omega)⟩
 ·have hst:=run_storeCells_cells (P:=P) b.k (b.s+off) xs 0 w (fun j hj=>by
   rw [Nat.add_zero,show (⟨b.k,b.s+off+j,none⟩:Addr)=b.at (off+j) by unfold Pl.at;rw [Nat.add_assoc],(zaf hb).1];rw [Array.getElem?_eq_getElem (by omega)];rfl) (fun j hj=>by rw [Nat.add_zero,show (⟨b.k,b.s+off+j,none⟩:Addr)=b.at (off+j) by unfold Pl.at;rw [Nat.add_assoc]];exact (zaf hb).2 (by omega)) (hv.ones hone)
  rw [Nat.add_zero] at hst;exact hst
def putsT (vs:List EV):Nat→Tr EV→Tr EV:=List.rec (fun _ T=>T) (fun v _ ih k T=>ih (Nat.succ k) (T.put k (some v))) vs
theorem zfv:∀ {vs:List EV} {k:Nat} {T:Tr EV} {j:Nat},k+vs.length≤65536→(putsT vs k T).get j=if k≤j∧j<k+vs.length then vs[j-k]? else T.get j
 | [],k,T,j,_=>by rw [if_neg (by simp)];rfl
 | v::vs,k,T,j,h=>by
  have e:putsT (v::vs) k T=putsT vs (k+1) (T.put k (some v)):=rfl;simp only [List.length_cons] at h ⊢;rw [e,zfv (by omega),Tr.get_put (Nat.ble_eq_true_of_le (by omega))]
  by_cases h1:k+1≤j∧j<k+1+vs.length
  ·rw [if_pos h1,if_pos (by omega),show j-k=(j-(k+1))+1 by omega,List.getElem?_cons_succ]
  ·rw [if_neg h1]
   by_cases h2:j=k
   ·subst h2;rw [if_pos rfl,if_pos (by omega)];simp
   ·rw [if_neg h2,if_neg (by omega)]
def exPutA (i off:Nat) (vs:List EV) (H:Tr EK) (ty:TypeId) (T:Tr EV) (len:Nat):Option (Tr EK):=bc (Nat.ble (Nat.add off (llen vs)) len) (bc (Nat.ble len 65536) (bc (allOne vs) (bc (Nat.ble i 65535) (some (H.put i (some (.arr ty (putsT vs off T) len)))) none) none) none) none
def exPut (i off:Nat) (vs:List EV) (H:Tr EK):Option (Tr EK):=match H.get i with
 | some (.arr ty T len)=>exPutA i off vs H ty T len
 | _=>exPutL i off vs H
theorem zel (hH:HR γ w0 H n w) {i off:Nat} {vs:List EV} {xs:List Value} (hv:ECL γ vs xs) (h:exPut i off vs H=some H') {b:Pl} {m:Nat} (hγ:γ i=some (b,m)) :
  HR γ w0 H' n (w.setCells b.k (b.s+off) xs)∧(storeCells (b.at off) xs 0).run P w = .ok () (w.setCells b.k (b.s+off) xs):=by
 unfold exPut at h;split at h
 rotate_left
 ·exact zja hH hv h hγ
 rename_i ty T' len hg;unfold exPutA at h;rw [bc_eq,bc_eq,bc_eq,bc_eq] at h;split at h
 case isFalse=>cases h
 rename_i hlt;split at h
 case isFalse=>cases h
 rename_i hlen;split at h
 case isFalse=>cases h
 rename_i hone;split at h
 case isFalse=>cases h
 rename_i hi;injection h with h;subst h
 have hlt:=Nat.le_of_ble_eq_true hlt;rw [zac] at hlt;have hlt:off+vs.length≤len:=hlt;have hlen:=Nat.le_of_ble_eq_true hlen;rw [zbf] at hone;obtain ⟨b2,m2,hγ2,_,c,hb,hsz,hl2,h5⟩:=hH.hp i _ hg;rw [hγ] at hγ2;simp only [Option.some.injEq,Prod.mk.injEq] at hγ2;obtain ⟨rfl,rfl⟩:=hγ2;have hx:=hv.1;obtain ⟨r1,r2,r3,r4⟩:=Sx.setCells_rest b.k xs (b.s+off) w;constructor
 ·refine hH.turn hi hg hγ (.arr ty (putsT vs off T') len) (fun k hk=>Sx.setCells_heap b.k xs (b.s+off) w k hk) r1 r2 r3 r4 ?_;refine ⟨putArr c (b.s+off) xs,hb.set (b.s+off) xs,by rw [zap];exact hsz,hl2,fun j a hj ha=>?_⟩;rw [zfv (by omega)] at ha;rw [za1 _ _ _ _ (by omega)]
  by_cases h1:off≤j∧j<off+vs.length
  ·rw [if_pos h1] at ha;rw [if_pos (by omega),show b.s+j-(b.s+off)=j-off by omega];exact hv.at ha
  ·rw [if_neg h1] at ha;rw [if_neg (by omega)];exact h5 j a hj ha
 ·have hst:=run_storeCells_cells (P:=P) b.k (b.s+off) xs 0 w (fun j hj=>by
   rw [Nat.add_zero,show (⟨b.k,b.s+off+j,none⟩:Addr)=b.at (off+j) by unfold Pl.at;rw [Nat.add_assoc],(zaf hb).1];rw [Array.getElem?_eq_getElem (by omega)];rfl) (fun j hj=>by rw [Nat.add_zero,show (⟨b.k,b.s+off+j,none⟩:Addr)=b.at (off+j) by unfold Pl.at;rw [Nat.add_assoc]];exact (zaf hb).2 (by omega)) (hv.ones hone)
  rw [Nat.add_zero] at hst;exact hst
def exStore (P:Program) (T:Tr EV) (t:TypeId) (x y:Operand) (H:Tr EK) (n:Nat):Option ER:=match exVal T x with
 | some (.ptr i off)=>match exVal T y with
  | some b=>match Sx.sizeB P t with
   | some m=>bc (Nat.beq (llen b.cells) m) (match exPut i off b.cells H with
    | some H'=>some ⟨none,H',n⟩
    | none=>none) none
   | none=>none
  | none=>none
 | _=>none
theorem zno (hT:TOk γ T tmps) (hH:HR γ w0 H n w) {t:TypeId} {x y:Operand} {e:ER} (ho:o.op = .store t x y) (h:exStore P T t x y H n=some e):Gives P γ w0 w (execOp (opEval tmps) o) e.val e.H e.n:=by
 unfold exStore at h;split at h
 case h_2=>cases h
 rename_i i off hx;split at h
 case h_2=>cases h
 rename_i bv hy;split at h
 case h_2=>cases h
 rename_i m hm;rw [bc_eq] at h;split at h
 case isFalse=>cases h
 rename_i hlen;split at h
 case h_2=>cases h
 rename_i H' hp;injection h with h;subst h
 obtain ⟨b,k,hγ,he⟩:=zcc (zaa hT hx);have hv:=(zaa hT hy).cells;obtain ⟨h1,h2⟩:=zel (P:=P) hH hv hp hγ;obtain ⟨inf,hi,hs⟩:=zbl hm;have hl:=Nat.eq_of_beq_eq_true hlen;rw [zac] at hl;have hcl:(opEval tmps y).cells.size=inf.size:=by rw [← Array.length_toList,← hv.1,hl,hs]
 refine ⟨γ,_,GLe.refl γ,h1,?_⟩;have hs2:execOp (opEval tmps) o=(do Instr.storeAt t (.pointer (some (b.at off))) (opEval tmps y);pure Next.skip:Sem Next):=by
  unfold execOp;rw [ho];simp only [he]
 rw [hs2];refine run_u ?_;simp [Instr.storeAt,Instr.sureAddr,storeVar,sizeOf,typeInfo,hi,hcl,h2]
def exField (P:Program) (T:Tr EV) (s:TypeId) (x:Operand) (f:Nat):Option EV:=match exVal T x with
 | some (.ptr i off)=>match Sx.fieldO P s f with
  | some fo=>some (.ptr i (Nat.add off fo))
  | none=>none
 | _=>none
theorem znu (hT:TOk γ T tmps) (hH:HR γ w0 H n w) {s:TypeId} {x:Operand} {f:Nat} {a:EV} (ho:o.op = .fieldAddr s x f) (h:exField P T s x f=some a):Gives P γ w0 w (execOp (opEval tmps) o) (some a) H n:=by
 unfold exField at h;split at h
 case h_2=>cases h
 rename_i i off hx;split at h
 case h_2=>cases h
 rename_i fo hf;injection h with h;subst h
 obtain ⟨b,m,hγ,he⟩:=zcc (zaa hT hx);refine zab (x:=.pointer (some (b.at (off+fo)))) ?_ (.ptr i _ b m hγ) hH;have hs2:execOp (opEval tmps) o=(do pure (Next.value (← Instr.fieldAt s (.pointer (some (b.at off))) f)):Sem Next):=by
  unfold execOp;rw [ho];simp only [he]
 rw [hs2];rw [show b.at (off+fo)=⟨b.k,b.s+off+fo,none⟩ by unfold Pl.at;rw [Nat.add_assoc]];exact run_v (Sx.run_fieldAt hf b.k (b.s+off) w)
def exNil (T:Tr EV) (x:Operand):Option EV:=match exVal T x with
 | some (.ptr i off)=>some (.ptr i off)
 | some (.fn f l)=>some (.fn f l)
 | _=>none
theorem zs6 (hT:TOk γ T tmps) (hH:HR γ w0 H n w) {x:Operand} {a:EV} (ho:o.op = .nilCheck x) (h:exNil T x=some a):Gives P γ w0 w (execOp (opEval tmps) o) (some a) H n:=by
 unfold exNil at h;split at h
 ·rename_i i off hx;injection h with h;subst h
  have hc:=zaa hT hx;obtain ⟨b,m,hγ,he⟩:=zcc hc;refine zab (x:=opEval tmps x) ?_ hc hH;unfold execOp;rw [ho];simp only [he];simp
 ·rename_i f l hx;injection h with h;subst h
  have hc:=zaa hT hx;refine zab (x:=opEval tmps x) ?_ hc hH;unfold execOp;rw [ho];simp only;generalize hy:opEval tmps x=y at hc ⊢
  cases hc with
  | fn _ _ vs hl h=>simp
 ·cases h
def intOf (a:Option EV):Option Int:=match a with
 | some (.v (.int _ n))=>some n
 | _=>none
theorem zai (hT:TOk γ T tmps) {x:Operand} {m:Int} (h:intOf (exVal T x)=some m):∃ κ,opEval tmps x = .int κ m:=by
 unfold intOf at h;split at h
 ·rename_i κ k hx;injection h with h;subst h
  exact ⟨κ,ec_v (zaa hT hx)⟩
 ·cases h
def natOf (i:Int):Option Nat:=Int.rec (fun n=>some n) (fun _=>none) i
theorem zco {i:Int} {k:Nat} (h:natOf i=some k):i=k:=by
 cases i with
 | ofNat m=>have h':some m=some k:=h;injection h' with h';subst h';rfl
 | negSucc m=>have h':(none:Option Nat)=some k:=h;cases h'
def exIndex (P:Program) (T:Tr EV) (t:TypeId) (x ix:Operand):Option EV:=match (intOf (exVal T ix)).bind natOf with
 | some k=>match exVal T x with
  | some (.sl i z off len _)=>match Sx.slZ P t with
   | some z'=>bc (Nat.beq z z') (bc (Nat.blt k len) (some (.ptr i (Nat.add off (Nat.mul k z)))) none) none
   | none=>none
  | some (.ptr i off)=>match P.underlying t with
   | some (.array len e)=>match Sx.sizeB P e with
    | some z=>bc (Nat.blt k len) (some (.ptr i (Nat.add off (Nat.mul k z)))) none
    | none=>none
   | _=>none
  | _=>none
 | none=>none
theorem zad {a b:Nat} (h:Nat.blt a b=true):a<b:=by
 unfold Nat.blt at h;exact Nat.le_of_ble_eq_true h
theorem ze3 (hT:TOk γ T tmps) (hH:HR γ w0 H n w) {t:TypeId} {x ix:Operand} {a:EV} (ho:o.op = .indexAddr t x ix) (h:exIndex P T t x ix=some a):Gives P γ w0 w (execOp (opEval tmps) o) (some a) H n:=by
 unfold exIndex at h;split at h
 case h_2=>cases h
 rename_i k hk;obtain ⟨mi,hmi,hk2⟩:=Option.bind_eq_some_iff.1 hk;obtain ⟨κ,hix⟩:=zai hT hmi;have hk2:=zco hk2;subst hk2;split at h
 ·rename_i i z off len cap hx;split at h
  case h_2=>cases h
  rename_i z' hz;rw [bc_eq,bc_eq] at h;split at h
  case isFalse=>cases h
  rename_i hzz;have hzz:=Nat.eq_of_beq_eq_true hzz;subst hzz;split at h
  case isFalse=>cases h
  rename_i hlt;have hlt:=zad hlt;injection h with h;subst h
  obtain ⟨b,m,c,hγ,he,_⟩:=ec_sl (zaa hT hx);obtain ⟨e,inf,hu,hinf,hsz⟩:=Sx.slZ_spec hz;refine zab (x:=.pointer (some (b.at (off+k*z)))) ?_ (.ptr i _ b m hγ) hH;simp [execOp,ho,he,hix,Instr.indexAt,asIntOf,run_underlying hu,hlt,sizeOf,typeInfo,hinf,hsz,Pl.at_add]
 ·rename_i i off hx;split at h
  case h_2=>cases h
  rename_i len e hu;split at h
  case h_2=>cases h
  rename_i z hz;rw [bc_eq] at h;split at h
  case isFalse=>cases h
  rename_i hlt;have hlt:=zad hlt;injection h with h;subst h
  obtain ⟨b,m,hγ,he⟩:=zcc (zaa hT hx);obtain ⟨inf,hinf,hsz⟩:=zbl hz;refine zab (x:=.pointer (some (b.at (off+k*z)))) ?_ (.ptr i _ b m hγ) hH;simp [execOp,ho,he,hix,Instr.indexAt,Instr.sureAddr,asIntOf,run_underlying hu,hlt,sizeOf,typeInfo,hinf,hsz,Pl.at_add]
 ·cases h
end
section
open Go.RowKit
variable {P:Program} {γ:G} {w0:Bs} {w:World} {H H':Tr EK} {n n':Nat} {T:Tr EV} {tmps:Array Value} {o:Oper} {r:Option EV}
theorem HR.pass {w':World} (h:HR γ w0 H n w) (hn:Nat.ble n 65535=true) {i:Nat} {b:Pl} {m:Nat} {k0:EK} (hib:Nat.ble i 65535=true) (hi:H.get i=some k0) (hγ:γ i=some (b,m)) (g:Pl) (m':Nat) (k:EK)
  (hg:g.k=b.k∨g.k=w.heap.size) (hoth:∀ c,c<w.heap.size→c≠b.k→w'.heap[c]? = w.heap[c]?) (hsz:w.heap.size≤w'.heap.size) (hgl:g.k<w'.heap.size) (ho:w'.os=w.os) (ht:w'.tape=w.tape) (hout:w'.output=w.output)
  (hk:k.ok (γ.upd n (g,m')) g m' w') (hn0:¬ k0.Nil:=by exact id) (hnn:k.nestB=false:=by rfl):HR (γ.upd n (g,m')) w0 ((H.put i none).put n (some k)) (Nat.succ n) w':=by
 have hle:GLe γ (γ.upd n (g,m')):=G.upd_le (h.fresh n (Nat.le_refl _));obtain ⟨b2,m2,hb1,hb2,_⟩:=h.hp i k0 hi hn0;rw [hγ] at hb1;injection hb1 with hb1;injection hb1 with hb1 hb3;subst hb1
 have look:∀ j kj,((H.put i none).put n (some k)).get j=some kj→(j=n∧kj=k)∨(j≠n∧j≠i∧H.get j=some kj):=fun j kj hj=>by
  rw [Tr.get_put hn,Tr.get_put hib] at hj
  by_cases e:j=n
  ·rw [if_pos e] at hj;injection hj with hj;exact .inl ⟨e,hj.symm⟩
  ·rw [if_neg e] at hj
   by_cases e2:j=i
   ·rw [if_pos e2] at hj;cases hj
   ·rw [if_neg e2] at hj;exact .inr ⟨e,e2,hj⟩
 have hbl:=h.lt i _ hγ;have apart:∀ j kj bj,H.get j=some kj→¬ kj.Nil→j≠i→γ j=some bj→bj.1.k≠g.k:=fun j kj bj hj nj hne ej=>by
  rcases hg with hg|hg
  ·rw [hg];exact h.inj0 j i kj k0 hj hi nj hn0 hne bj _ ej hγ
  ·have:=h.lt j bj ej;omega
 refine ⟨fun j kj hj=>?_,fun j l kj kl hj hl nj nl hne bj bl ej el=>?_,fun j hj=>?_,fun j hj=>?_,fun j p e=>?_,?_,h.fzq rfl (fun c hc hn=>hoth c hc (hn i k0 b m hi hn0 hγ).symm) (fun j kj b4 m4 hj nj ej=>?_) fun j kj hj hb=>(look j kj hj).elim (fun ⟨_,e⟩=>by rw [e,hnn] at hb;cases hb) fun ⟨_,_,e⟩=>e⟩
 rotate_right
 ·rcases look j kj hj with ⟨rfl,rfl⟩|⟨e1,e2,hj⟩
  ·rw [G.upd_same] at ej;injection ej with ej;injection ej with e1 e2;subst e1
   rcases hg with hg|hg
   ·exact .inr ⟨i,k0,b,m,hi,hn0,hγ,hg.symm⟩
   ·exact .inl (Nat.le_of_eq hg.symm)
  ·rw [G.upd_ne e1] at ej;exact .inr ⟨j,kj,b4,m4,hj,nj,ej,rfl⟩
 ·rcases look j kj hj with ⟨rfl,rfl⟩|⟨e1,e2,hj⟩
  ·refine .inr ⟨g,m',G.upd_same,?_,hk⟩;rcases hg with hg|hg
   ·rw [hg];exact hb2
   ·exact h.notF (Nat.le_of_eq hg.symm)
  ·refine h.imp0 hj fun nj b3 m3 h1 h2 h3=>?_;exact ⟨b3,m3,hle _ _ h1,h2,EK.ok_mono hle (hoth b3.k (h.lt j _ h1) (h.inj0 j i kj k0 hj hi nj hn0 e2 _ _ h1 hγ)) h3⟩
 ·rcases look j kj hj with ⟨rfl,rfl⟩|⟨e1,e2,hj2⟩
  ·rcases look l kl hl with ⟨rfl,rfl⟩|⟨e3,e4,hl2⟩
   ·exact absurd rfl hne
   ·rw [G.upd_same] at ej;injection ej with ej;subst ej
    rw [G.upd_ne e3] at el;exact (apart l kl bl hl2 nl e4 el).symm
  ·rw [G.upd_ne e1] at ej;rcases look l kl hl with ⟨rfl,rfl⟩|⟨e3,e4,hl2⟩
   ·rw [G.upd_same] at el;injection el with el;subst el
    exact apart j kj bj hj2 nj e2 ej
   ·rw [G.upd_ne e3] at el;exact h.inj0 j l kj kl hj2 hl2 nj nl hne bj bl ej el
 ·rw [G.upd_ne (by omega)];exact h.fresh j (by omega)
 ·obtain ⟨r1,r2⟩:=h.rsv j hj;exact ⟨by rw [G.upd_ne (by omega)];exact r1,by omega⟩
 ·by_cases e2:j=n
  ·rw [e2,G.upd_same] at e;injection e with e;subst e;exact hgl
  ·rw [G.upd_ne e2] at e;have:=h.lt j p e;omega
 ·refine ⟨ho.trans h.stays.os,ht.trans h.stays.tape,hout.trans h.stays.output,by have:=h.stays.size;omega,fun c hc=>?_⟩;have:=h.stays.size;have:=w0.lt c hc;rw [hoth c (by omega) (fun e=>hb2 (e ▸ hc))];exact h.stays.block c hc
theorem HR.lay {w':World} (h:HR γ w0 H n w) (hn:Nat.ble n 65535=true) (m':Nat) (k:EK)
  (hoth:∀ c,c<w.heap.size→w'.heap[c]? = w.heap[c]?) (hgl:w.heap.size<w'.heap.size) (ho:w'.os=w.os) (ht:w'.tape=w.tape) (hout:w'.output=w.output)
  (hk:k.ok (γ.upd n (⟨w.heap.size,0⟩,m')) ⟨w.heap.size,0⟩ m' w') (hnn:k.nestB=false:=by rfl):HR (γ.upd n (⟨w.heap.size,0⟩,m')) w0 (H.put n (some k)) (Nat.succ n) w':=by
 have hle:GLe γ (γ.upd n (⟨w.heap.size,0⟩,m')):=G.upd_le (h.fresh n (Nat.le_refl _));have look:∀ j kj,(H.put n (some k)).get j=some kj→(j=n∧kj=k)∨(j≠n∧H.get j=some kj):=fun j kj hj=>by
  rw [Tr.get_put hn] at hj
  by_cases e:j=n
  ·rw [if_pos e] at hj;injection hj with hj;exact .inl ⟨e,hj.symm⟩
  ·rw [if_neg e] at hj;exact .inr ⟨e,hj⟩
 refine ⟨fun j kj hj=>?_,fun j l kj kl hj hl nj nl hne bj bl ej el=>?_,fun j hj=>?_,fun j hj=>?_,fun j p e=>?_,?_,h.fzq rfl (fun c hc _=>hoth c hc) (fun j kj b4 m4 hj nj ej=>?_) fun j kj hj hb=>(look j kj hj).elim (fun ⟨_,e⟩=>by rw [e,hnn] at hb;cases hb) fun ⟨_,e⟩=>e⟩
 rotate_right
 ·rcases look j kj hj with ⟨rfl,rfl⟩|⟨e1,hj⟩
  ·rw [G.upd_same] at ej;injection ej with ej;injection ej with e1 e2;subst e1;exact .inl (Nat.le_refl _)
  ·rw [G.upd_ne e1] at ej;exact .inr ⟨j,kj,b4,m4,hj,nj,ej,rfl⟩
 ·rcases look j kj hj with ⟨rfl,rfl⟩|⟨e1,hj⟩
  ·exact .inr ⟨_,m',G.upd_same,h.notF (Nat.le_refl _),hk⟩
  ·refine (h.hp0 j kj hj).imp id fun ⟨b3,m3,h1,h2,h3⟩=>?_;exact ⟨b3,m3,hle _ _ h1,h2,EK.ok_mono hle (hoth b3.k (h.lt j _ h1)) h3⟩
 ·rcases look j kj hj with ⟨rfl,rfl⟩|⟨e1,hj2⟩
  ·rcases look l kl hl with ⟨rfl,rfl⟩|⟨e3,hl2⟩
   ·exact absurd rfl hne
   ·rw [G.upd_same] at ej;injection ej with ej;subst ej
    rw [G.upd_ne e3] at el;have:=h.lt l bl el;show w.heap.size≠bl.1.k;omega
  ·rw [G.upd_ne e1] at ej;rcases look l kl hl with ⟨rfl,rfl⟩|⟨e3,hl2⟩
   ·rw [G.upd_same] at el;injection el with el;subst el
    have:=h.lt j bj ej;show bj.1.k≠w.heap.size;omega
   ·rw [G.upd_ne e3] at el;exact h.inj0 j l kj kl hj2 hl2 nj nl hne bj bl ej el
 ·rw [G.upd_ne (by omega)];exact h.fresh j (by omega)
 ·obtain ⟨r1,r2⟩:=h.rsv j hj;exact ⟨by rw [G.upd_ne (by omega)];exact r1,by omega⟩
 ·by_cases e2:j=n
  ·rw [e2,G.upd_same] at e;injection e with e;subst e;exact hgl
  ·rw [G.upd_ne e2] at e;have:=h.lt j p e;omega
 ·refine ⟨ho.trans h.stays.os,ht.trans h.stays.tape,hout.trans h.stays.output,by have:=h.stays.size;omega,fun c hc=>?_⟩;have:=h.stays.size;have:=w0.lt c hc;rw [hoth c (by omega)];exact h.stays.block c hc
def newsOf (H:Tr EK) (z:Nat) (x:EV):Option (Nat×List EV):=match x with
 | .sl j z' off m _=>bc (Nat.beq z z') (match cellsAt H j with
  | some (_,cs,_)=>bc (Nat.ble (Nat.add off (Nat.mul m z)) (llen cs)) (some (m,(cs.drop off).take (Nat.mul m z))) none
  | none=>none) none
 | _=>none
theorem zc5 (hH:HR γ w0 H n w) {z m:Nat} {x:EV} {cs:List EV} {y:Value} (hc:EC γ x y) (h:newsOf H z x=some (m,cs)) :
  ∃ a c vs,y = .slice (some a) m c∧ECL γ cs vs∧vs.length=m*z∧∀ j u,vs[j]? = some u→w.cell? (a.add j)=some u:=by
 unfold newsOf at h;split at h
 case h_2=>cases h
 rename_i j z' off m' cap;rw [bc_eq] at h;split at h
 case isFalse=>cases h
 rename_i hz;have hz:=Nat.eq_of_beq_eq_true hz;subst hz;split at h
 case h_2=>cases h
 rename_i ty cs' full hcs;rw [bc_eq] at h;split at h
 case isFalse=>cases h
 rename_i hle;have hle:=Nat.le_of_ble_eq_true hle;rw [zac] at hle;simp only [Option.some.injEq,Prod.mk.injEq] at h;obtain ⟨rfl,rfl⟩:=h;have hle:off+m'*z≤cs'.length:=hle;obtain ⟨b,mm,c,hγ,he,_⟩:=ec_sl hc;obtain ⟨⟨k0,hg,hkn⟩,b2,m2,ca,hγ2,hb,hsz,hl2,hfull,hcl⟩:=zbc hH hcs;rw [hγ] at hγ2;simp only [Option.some.injEq,Prod.mk.injEq] at hγ2;obtain ⟨rfl,rfl⟩:=hγ2;refine ⟨b.at off,c,(((ca.toList.drop b.s).take cs'.length).drop off).take (m'*z),he,(hcl.drop off).take _,by simp;omega,fun q u hu=>?_⟩
 rw [Pl.at_add,(zaf hb).1,← Array.getElem?_toList];rw [List.getElem?_take] at hu;split at hu
 ·rw [List.getElem?_drop,List.getElem?_take] at hu;split at hu
  ·rw [List.getElem?_drop] at hu;exact hu
  ·cases hu
 ·cases hu
def elemOf (P:Program) (t:TypeId):Option TypeId:=match P.underlying t with
 | some (.slice e)=>some e
 | _=>none
theorem zcj {t e:TypeId} (h:elemOf P t=some e):P.underlying t=some (.slice e):=by
 unfold elemOf at h;split at h
 ·rename_i e' hu;injection h with h;subst h;exact hu
 ·cases h
structure EI where
 e:TypeId
 z:Nat
def elemInfo (P:Program) (t:TypeId):Option EI:=match elemOf P t with
 | some e=>match P.info? e with
  | some inf=>match inf.zero with
   | some zv=>bc (Nat.beq zv.cells.size inf.size) (bc (Nat.blt 0 inf.size) (bc (Nat.ble inf.bytes 65536) (some ⟨e,inf.size⟩) none) none) none
   | none=>none
  | none=>none
 | none=>none
theorem zak {t:TypeId} {i:EI} (h:elemInfo P t=some i):P.underlying t=some (.slice i.e)∧∃ inf zv,P.info? i.e=some inf∧inf.zero=some zv∧inf.size=i.z∧zv.cells.size=i.z∧0<i.z∧inf.bytes≤65536:=by
 unfold elemInfo at h;split at h
 case h_2=>cases h
 rename_i e he;split at h
 case h_2=>cases h
 rename_i inf hi;split at h
 case h_2=>cases h
 rename_i zv hz;rw [bc_eq,bc_eq,bc_eq] at h;split at h
 case isFalse=>cases h
 rename_i h1;split at h
 case isFalse=>cases h
 rename_i h2;split at h
 case isFalse=>cases h
 rename_i h3;injection h with h;subst h
 exact ⟨zcj he,inf,zv,hi,hz,rfl,Nat.eq_of_beq_eq_true h1,zad h2,Nat.le_of_ble_eq_true h3⟩
def exGrow (i:Option Nat) (e:TypeId) (z len m:Nat) (old news:List EV) (H:Tr EK) (n:Nat):Option ER:=
 bc (Nat.ble n 65535) (bc (allOne news) (bc (Nat.ble (Nat.add len m) 65536)
  (some ⟨some (.sl n z 0 (Nat.add len m) none),(match i with
   | some i=>(H.put i none)
   | none=>H).put n (some (.cells e (old++news) false)),Nat.succ n⟩) none) none) none
def exAppendN (ei:EI) (s:EV) (m:Nat) (news:List EV) (H:Tr EK) (n:Nat):Option ER:=match s with
 | .v (.slice none len cap)=>bc (Nat.beq len 0) (bc (Nat.beq cap 0) (bc (Nat.blt 0 m) (exGrow none ei.e ei.z 0 m [] news H n) (some ⟨some s,H,n⟩)) none) none
 | .sl i z off len none=>bc (Nat.beq z ei.z) (match cellsAt H i with
  | some (ty,cs,_)=>bc (Nat.beq ty ei.e) (bc (Nat.ble (Nat.add off (Nat.mul len z)) (llen cs)) (bc (Nat.ble i 65535) (exGrow (some i) ei.e ei.z len m ((cs.drop off).take (Nat.mul len z)) news H n) none) none) none
  | none=>none) none
 | .slE i z off=>bc (Nat.beq z ei.z) (match cellsAt H i with
  | some (ty,cs,_)=>bc (Nat.beq ty ei.e) (bc (Nat.ble off (llen cs)) (bc (Nat.ble i 65535) (bc (Nat.blt 0 m) (exGrow (some i) ei.e ei.z 0 m [] news H n) none) none) none) none
  | none=>none) none
 | .sl i z off len (some c)=>bc (Nat.beq z ei.z) (bc (Nat.ble (Nat.add len m) c)
   (match exPut i (Nat.add off (Nat.mul len z)) news H with
    | some H'=>some ⟨some (.sl i z off (Nat.add len m) (some c)),H',n⟩
    | none=>none)
   (match cellsAt H i with
    | some (_,cs,_)=>bc (Nat.ble (Nat.add off (Nat.mul len z)) (llen cs)) (exGrow none ei.e ei.z len m ((cs.drop off).take (Nat.mul len z)) news H n) none
    | none=>none)) none
 | _=>none
def exAppend (P:Program) (t:TypeId) (s x:EV) (H:Tr EK) (n:Nat):Option ER:=match elemInfo P t with
 | some ei=>match newsOf H ei.z x with
  | some (m,news)=>exAppendN ei s m news H n
  | none=>none
 | none=>none
theorem zdk {i:Option Nat} {e:TypeId} {z len m:Nat} {old news:List EV} {er:ER} (h:exGrow i e z len m old news H n=some er) :
  Nat.ble n 65535=true∧news.all EV.one=true∧len+m≤65536∧er=⟨some (.sl n z 0 (len+m) none),(match i with
   | some i=>(H.put i none)
   | none=>H).put n (some (.cells e (old++news) false)),Nat.succ n⟩:=by
 unfold exGrow at h;rw [bc_eq,bc_eq,bc_eq] at h;split at h
 case isFalse=>cases h
 rename_i h1;split at h
 case isFalse=>cases h
 rename_i h2;split at h
 case isFalse=>cases h
 rename_i h3;injection h with h
 exact ⟨h1,by rw [← zbf];exact h2,Nat.le_of_ble_eq_true h3,h.symm⟩
theorem zxb {w':World} {base e z k:Nat} {v:Value} {xs:List Value} {cs:List EV} (hown:w'.ownsRow base e z v k xs) (hk:0<k) (hc:ECL γ cs xs) :
  ∃ g cap,v = .slice (some ⟨g,0,none⟩) k cap∧g<w'.heap.size∧k≤cap∧cap≤maxLen∧(EK.cells e cs false).ok γ ⟨g,0⟩ (cap*z) w':=by
 rcases hown.2 with ⟨_,h0⟩|⟨g,cap,cur,hv,_,hb,h1,h2,h3,h4⟩
 ·omega
 ·have hl:=hc.1;refine ⟨g,cap,hv,(Array.getElem?_eq_some_iff.1 hb).1,h1,h2,cur,.of hb,h3.trans (Nat.zero_add _).symm,?_,(fun e=>by cases e),?_⟩
  ·rw [hl,hown.1];exact Nat.mul_le_mul_right _ h1
  ·show ECL γ cs ((cur.toList.drop 0).take cs.length);rw [List.drop_zero,hl,hown.1,h4];exact hc
theorem zqx {i z off:Nat} {y:Value} (h:EC γ (.slE i z off) y):∃ (b:Pl) (m c off':Nat),γ i=some (b,m)∧y = .slice (some (b.at off')) 0 c∧c≤maxLen∧(0<c→off'=off∧off+c*z=m):=by
 cases h with|slE _ _ _ b m c off' h hm hn=>exact ⟨b,m,c,off',h,rfl,hm,hn⟩
theorem zbj (hT:TOk γ T tmps) (hH:HR γ w0 H n w) {t ty:TypeId} {ei:EI} (hei:elemInfo P t=some ei) {s:EV} {vs:Value} {er:ER} (hs:EC γ s vs) {m:Nat} {news:List EV} {a:Addr} {c:Nat} {ns:List Value} (hcn:ECL γ news ns) (hnl:ns.length=m*ei.z) (hnc:∀ j u,ns[j]? = some u→w.cell? (a.add j)=some u) (h:exAppendN ei s m news H n=some er) :
  ∃ γ' w' v',GLe γ γ'∧HR γ' w0 er.H er.n w'∧(Builtin.append_ #[t,t] ty #[vs,.slice (some a) m c]).run P w = .ok v' w'∧∃ a,er.val=some a∧EC γ' a v':=by
 obtain ⟨hu,inf,zv,hi,hz,hsz,hzs,hpos,hby⟩:=zak hei;unfold exAppendN at h;split at h
 ·-- a nil slice
  rename_i len cap;rw [bc_eq,bc_eq,bc_eq] at h;split at h
  case isFalse=>cases h
  rename_i h1;split at h
  case isFalse=>cases h
  rename_i h2;have h1:=Nat.eq_of_beq_eq_true h1;have h2:=Nat.eq_of_beq_eq_true h2;subst h1;subst h2;have hvs:=ec_v hs;subst hvs;split at h
  ·rename_i hm;have hm:=zad hm;obtain ⟨hnb,hone,hle,rfl⟩:=zdk h;obtain ⟨v',w',hr,hown,hgb,_,hob⟩:=run_append_own_at (P:=P) (w:=w) 0 t ty ei.e inf zv ei.z inf.bytes hu hi hz hsz rfl hzs hpos (.slice none 0 0) 0 [] ⟨by simp,.inl ⟨rfl,rfl⟩⟩ a m c ns hnl hnc (hcn.ones hone)
    (by unfold maxLen;omega) (by have:=Nat.mul_le_mul hle hby;omega) (Nat.zero_le _)
   rw [List.nil_append] at hown;obtain ⟨g,cap',hv,hgl,hkc,hcm,hok⟩:=zxb (γ:=γ) hown (by omega) hcn;subst hv;have hg:g=w.heap.size:=by
    rcases hob with h3|h3
    ·simp [Value.ownBlock] at h3
    ·simp [Value.ownBlock] at h3;exact h3
   subst hg;have hle2:=G.upd_le (p:=(⟨w.heap.size,0⟩,cap'*ei.z)) (hH.fresh n (Nat.le_refl _));refine ⟨γ.upd n (⟨w.heap.size,0⟩,cap'*ei.z),w',_,hle2,?_,hr,_,rfl,.sl n ei.z 0 _ none ⟨w.heap.size,0⟩ _ cap' G.upd_same hkc hcm (by omega) (fun k e=>by cases e) (fun _=>by omega)⟩;exact hH.lay hnb _ _ (fun k hk=>hgb.block k hk (by simp [Value.ownBlock])) hgl hgb.os hgb.tape hgb.output (EK.ok_mono hle2 rfl hok)
  ·rename_i hm;have hm:¬ 0<m:=fun h3=>hm (by unfold Nat.blt;exact Nat.ble_eq_true_of_le h3);injection h with h;subst h
   have hm0:m=0:=by omega
   subst hm0;have hns:ns=[]:=by apply List.eq_nil_of_length_eq_zero;omega
   subst hns;refine ⟨γ,w,.slice none 0 0,GLe.refl γ,hH,?_,_,rfl,.v _⟩;have hf:=run_firstCells_some (P:=P) w inf.size 0 a 0 c [] (by simp) (by simp);simp [Builtin.append_,run_underlying hu,sizeOf,typeInfo,hi,Builtin.lenOf,hf]
 ·-- a row of the call's own,its room not known
  rename_i i z off len;rw [bc_eq] at h;split at h
  case isFalse=>cases h
  rename_i h1;have h1:=Nat.eq_of_beq_eq_true h1;subst h1;split at h
  case h_2=>cases h
  rename_i ty2 cs full hcs;rw [bc_eq,bc_eq,bc_eq] at h;split at h
  case isFalse=>cases h
  rename_i h3;split at h
  case isFalse=>cases h
  rename_i h4;split at h
  case isFalse=>cases h
  rename_i h5;have h3:=Nat.eq_of_beq_eq_true h3;subst h3;have h4:=Nat.le_of_ble_eq_true h4;rw [zac] at h4;have h4:off+len*ei.z≤cs.length:=h4;obtain ⟨hnb,hone,hle,rfl⟩:=zdk h;obtain ⟨b,k,cp,hγ,rfl,hlc,hcm,hcn2,_,hcu⟩:=ec_sl hs;obtain ⟨⟨k0,hg,hkn⟩,b2,m2,ca,hγ2,hb,hsz2,hl2,hfull,hcl⟩:=zbc hH hcs;rw [hγ] at hγ2;simp only [Option.some.injEq,Prod.mk.injEq] at hγ2;obtain ⟨rfl,rfl⟩:=hγ2;have hcu:off+cp*ei.z=k∨cp=0:=hcu rfl;have hold:=(hcl.drop off).take (len*ei.z)
  have hol:((((ca.toList.drop b.s).take cs.length).drop off).take (len*ei.z)).length=len*ei.z:=by simp;omega
  by_cases hfit:len+m≤cp
  ·-- in place
   have hmz:=Nat.mul_le_mul_right ei.z hfit;rw [Nat.add_mul] at hmz;have hr:=run_append_room_cells (P:=P) w t ty ei.e inf hu hi b.k (b.s+off) len cp a m c ns (by rw [hsz];exact hnl) hnc (hcn.ones hone) hfit (fun j hj=>by
     have:=(zaf (off:=off+len*ei.z+j) hb).1;rw [show (⟨b.k,b.s+off+len*inf.size+j,none⟩:Addr)=b.at (off+len*ei.z+j) by unfold Pl.at;rw [hsz];congr 1;omega,this,Array.getElem?_eq_getElem (by omega)];rfl) (fun j hj=>by
     rw [show (⟨b.k,b.s+off+len*inf.size+j,none⟩:Addr)=b.at (off+len*ei.z+j) by unfold Pl.at;rw [hsz];congr 1;omega];exact (zaf hb).2 (by omega))
   rw [hsz] at hr;obtain ⟨r1,r2,r3,r4⟩:=Sx.setCells_rest b.k ns (b.s+off+len*ei.z) w;have hle2:=G.upd_le (p:=((⟨b.k,b.s+off⟩:Pl),k-off)) (hH.fresh n (Nat.le_refl _));have hlen:(((cs.drop off).take (Nat.mul len ei.z))++news).length=len*ei.z+m*ei.z:=by
    have e1:=hold.1;have e2:=hcn.1;rw [List.length_append,show (cs.drop off).take (Nat.mul len ei.z)=(cs.drop off).take (len*ei.z) from rfl,e1,hol,e2,hnl]
   refine ⟨γ.upd n (⟨b.k,b.s+off⟩,k-off),_,_,hle2,?_,hr,_,rfl,.sl n ei.z 0 _ none ⟨b.k,b.s+off⟩ _ cp G.upd_same hfit hcm (by omega) (fun k e=>by cases e) (fun _=>by omega)⟩;refine hH.pass (hn0:=hkn) hnb h5 hg hγ ⟨b.k,b.s+off⟩ _ _ (.inl rfl) (fun q _ hne=>Sx.setCells_heap b.k ns (b.s+off+len*ei.z) w q hne) (by rw [r1];exact Nat.le_refl _) (by rw [r1];exact hb.lt) r2 r3 r4
    ⟨putArr ca (b.s+off+len*ei.z) ns,hb.set (b.s+off+len*ei.z) ns,by rw [zap,hsz2];show b.s+k=b.s+off+(k-off);omega,by rw [hlen];omega,(fun e=>by cases e),?_⟩
   have e9:((putArr ca (b.s+off+len*ei.z) ns).toList.drop (b.s+off)).take (((cs.drop off).take (Nat.mul len ei.z))++news).length=(((ca.toList.drop b.s).take cs.length).drop off).take (len*ei.z)++ns:=by
    rw [hlen];apply List.ext_getElem?;intro j;rw [List.getElem?_take,List.getElem?_drop,Array.getElem?_toList,za1 _ _ _ _ (by omega)]
    by_cases hj:j<len*ei.z
    ·rw [if_pos (by omega),if_neg (by omega),List.getElem?_append_left (by rw [hol];exact hj),List.getElem?_take,if_pos hj,List.getElem?_drop,List.getElem?_take,if_pos (by omega),List.getElem?_drop,Array.getElem?_toList];congr 1;omega
    ·rw [List.getElem?_append_right (by rw [hol];omega),hol]
     by_cases hj2:j<len*ei.z+m*ei.z
     ·rw [if_pos hj2,if_pos (by omega)];congr 1;omega
     ·rw [if_neg hj2,List.getElem?_eq_none (by omega)]
   show ECL _ _ (((putArr ca (b.s+off+len*ei.z) ns).toList.drop (b.s+off)).take _);rw [e9];exact (hold.append hcn).mono hle2
  ·-- it grows
   have h2:cp<len+m:=by omega
   have hH1:HR γ w0 (H.put i none) n w:=hH.congr fun q kq hq=>by
    rw [Tr.get_put h5] at hq;split at hq
    ·cases hq
    ·exact hq
   have hr:=run_append_grow (P:=P) (w:=w) t ty ei.e inf zv hu hi hz (b.at off) len cp ((((ca.toList.drop b.s).take cs.length).drop off).take (len*ei.z)) (by rw [hol,hsz]) (fun q u hq=>by
    rw [Pl.at_add,(zaf hb).1,← Array.getElem?_toList];rw [List.getElem?_take] at hq;split at hq
    ·rw [List.getElem?_drop,List.getElem?_take] at hq;split at hq
     ·rw [List.getElem?_drop] at hq;exact hq
     ·cases hq
    ·cases hq) a m c ns (by rw [hsz];exact hnl) hnc h2 (by omega) (by
     have:=nextslicecap_le h2;have:=Nat.mul_le_mul (Nat.le_trans this (Nat.mul_le_mul_left 2 hle)) hby;omega)
   have hcap:len+m≤grownCap w (len+m) cp ei.e∧grownCap w (len+m) cp ei.e≤maxLen:=by
    unfold grownCap Question.cut maxLen;have:=Nat.mod_lt (w.tape w.drawn (.appendCap (len+m) cp ei.e)) (show 0<2 ^ 63-(len+m) by omega);simp only;omega
   have hle2:=G.upd_le (p:=(⟨w.heap.size,0⟩,grownCap w (len+m) cp ei.e*ei.z)) (hH.fresh n (Nat.le_refl _));refine ⟨γ.upd n (⟨w.heap.size,0⟩,grownCap w (len+m) cp ei.e*ei.z),_,_,hle2,?_,hr,_,rfl,.sl n ei.z 0 _ none ⟨w.heap.size,0⟩ _ _ G.upd_same hcap.1 hcap.2 (by omega) (fun k e=>by cases e) (fun _=>by omega)⟩;have hal:=hold.append hcn;refine hH1.lay hnb _ _ (fun q hq=>?_) (by show _<(w.heap.push _).size;simp) rfl rfl rfl ⟨_,.of (by show (w.heap.push _)[_]? = _;simp;rfl),?_,?_,(fun e=>by cases e),?_⟩
   ·show (w.heap.push _)[q]? = _;rw [Array.getElem?_push_lt hq];simp [hq]
   ·show _=0+_;rw [Nat.zero_add];simp only [Array.size_append,List.size_toArray,size_zeroCells,hzs,List.length_append,hol,hnl];rw [← Nat.add_mul,← Nat.add_mul];congr 1;omega
   ·have e1:=hal.1;rw [List.length_append (as:=(((ca.toList.drop b.s).take cs.length).drop off).take (len*ei.z)),hol,hnl,← Nat.add_mul] at e1;exact Nat.le_trans (Nat.le_of_eq e1) (Nat.mul_le_mul_right _ hcap.1)
   ·refine ECL.mono hle2 ?_;have e1:=hal.1;have:((((((ca.toList.drop b.s).take cs.length).drop off).take (len*ei.z)++ns).toArray++Builtin.zeroCells zv.cells (grownCap w (len+m) cp ei.e-(len+m))).toList.take ((cs.drop off).take (len*ei.z)++news).length)=(((ca.toList.drop b.s).take cs.length).drop off).take (len*ei.z)++ns:=by
     rw [e1,Array.toList_append];exact List.take_left' rfl
    show ECL _ _ (List.take _ (List.drop 0 _));rw [List.drop_zero,show (cs.drop off).take (Nat.mul len ei.z)=(cs.drop off).take (len*ei.z) from rfl,this]
    exact hal
 ·-- a row of no elements,its room and its place not known
  rename_i i z off;rw [bc_eq] at h;split at h
  case isFalse=>cases h
  rename_i h1;have h1:=Nat.eq_of_beq_eq_true h1;subst h1;split at h
  case h_2=>cases h
  rename_i ty2 cs full hcs;rw [bc_eq,bc_eq,bc_eq,bc_eq] at h;split at h
  case isFalse=>cases h
  rename_i h3;split at h
  case isFalse=>cases h
  rename_i h4;split at h
  case isFalse=>cases h
  rename_i h5;split at h
  case isFalse=>cases h
  rename_i hmp;have hmp:=zad hmp;have h3:=Nat.eq_of_beq_eq_true h3;subst h3;have h4:=Nat.le_of_ble_eq_true h4;rw [zac] at h4;obtain ⟨hnb,hone,hle,rfl⟩:=zdk h;obtain ⟨b,k,cp,off',hγ,rfl,hcm,hcu⟩:=zqx hs;obtain ⟨⟨k0,hg,hkn⟩,b2,m2,ca,hγ2,hb,hsz2,hl2,hfull,hcl⟩:=zbc hH hcs;rw [hγ] at hγ2;simp only [Option.some.injEq,Prod.mk.injEq] at hγ2;obtain ⟨rfl,rfl⟩:=hγ2
  by_cases hfit:0+m≤cp
  ·-- in place
   obtain ⟨rfl,hcu⟩:=hcu (by omega);have hold:ECL γ ([]:List EV) ((((ca.toList.drop b.s).take cs.length).drop off').take (0*ei.z)):=by rw [Nat.zero_mul];exact ECL.nil γ
   have hol:((((ca.toList.drop b.s).take cs.length).drop off').take (0*ei.z)).length=0*ei.z:=by simp
   have h4:off'+0*ei.z≤cs.length:=by omega
   have hmz:=Nat.mul_le_mul_right ei.z hfit;rw [Nat.add_mul] at hmz;have hr:=run_append_room_cells (P:=P) w t ty ei.e inf hu hi b.k (b.s+off') 0 cp a m c ns (by rw [hsz];exact hnl) hnc (hcn.ones hone) hfit (fun j hj=>by
     have:=(zaf (off:=off'+0*ei.z+j) hb).1;rw [show (⟨b.k,b.s+off'+0*inf.size+j,none⟩:Addr)=b.at (off'+0*ei.z+j) by unfold Pl.at;rw [hsz];congr 1;omega,this,Array.getElem?_eq_getElem (by omega)];rfl) (fun j hj=>by
     rw [show (⟨b.k,b.s+off'+0*inf.size+j,none⟩:Addr)=b.at (off'+0*ei.z+j) by unfold Pl.at;rw [hsz];congr 1;omega];exact (zaf hb).2 (by omega))
   rw [hsz] at hr;obtain ⟨r1,r2,r3,r4⟩:=Sx.setCells_rest b.k ns (b.s+off'+0*ei.z) w;have hle2:=G.upd_le (p:=((⟨b.k,b.s+off'⟩:Pl),cp*ei.z)) (hH.fresh n (Nat.le_refl _));have hlen:(([]:List EV)++news).length=0*ei.z+m*ei.z:=by
    have e2:=hcn.1;rw [List.length_append,List.length_nil,e2,hnl];omega
   refine ⟨γ.upd n (⟨b.k,b.s+off'⟩,cp*ei.z),_,_,hle2,?_,hr,_,rfl,.sl n ei.z 0 _ none ⟨b.k,b.s+off'⟩ _ cp G.upd_same hfit hcm (by omega) (fun k e=>by cases e) (fun _=>by omega)⟩;refine hH.pass (hn0:=hkn) hnb h5 hg hγ ⟨b.k,b.s+off'⟩ _ _ (.inl rfl) (fun q _ hne=>Sx.setCells_heap b.k ns (b.s+off'+0*ei.z) w q hne) (by rw [r1];exact Nat.le_refl _) (by rw [r1];exact hb.lt) r2 r3 r4
    ⟨putArr ca (b.s+off'+0*ei.z) ns,hb.set (b.s+off'+0*ei.z) ns,by rw [zap,hsz2];show b.s+k=b.s+off'+cp*ei.z;omega,by rw [hlen];exact hmz,(fun e=>by cases e),?_⟩
   have e9:((putArr ca (b.s+off'+0*ei.z) ns).toList.drop (b.s+off')).take (([]:List EV)++news).length=(((ca.toList.drop b.s).take cs.length).drop off').take (0*ei.z)++ns:=by
    rw [hlen];apply List.ext_getElem?;intro j;rw [List.getElem?_take,List.getElem?_drop,Array.getElem?_toList,za1 _ _ _ _ (by omega)]
    by_cases hj:j<0*ei.z
    ·rw [if_pos (by omega),if_neg (by omega),List.getElem?_append_left (by rw [hol];exact hj),List.getElem?_take,if_pos hj,List.getElem?_drop,List.getElem?_take,if_pos (by omega),List.getElem?_drop,Array.getElem?_toList];congr 1;omega
    ·rw [List.getElem?_append_right (by rw [hol];omega),hol]
     by_cases hj2:j<0*ei.z+m*ei.z
     ·rw [if_pos hj2,if_pos (by omega)];congr 1;omega
     ·rw [if_neg hj2,List.getElem?_eq_none (by omega)]
   show ECL _ _ (((putArr ca (b.s+off'+0*ei.z) ns).toList.drop (b.s+off')).take _);rw [e9];exact (hold.append hcn).mono hle2
  ·-- it grows
   have h2:cp<0+m:=by omega
   have hH1:HR γ w0 (H.put i none) n w:=hH.congr fun q kq hq=>by
    rw [Tr.get_put h5] at hq;split at hq
    ·cases hq
    ·exact hq
   have hr:=run_append_grow (P:=P) (w:=w) t ty ei.e inf zv hu hi hz (b.at off') 0 cp [] (by simp) (fun q u hq=>by simp at hq) a m c ns (by rw [hsz];exact hnl) hnc h2 (by omega) (by
     have:=nextslicecap_le h2;have:=Nat.mul_le_mul (Nat.le_trans this (Nat.mul_le_mul_left 2 hle)) hby;omega)
   have hcap:0+m≤grownCap w (0+m) cp ei.e∧grownCap w (0+m) cp ei.e≤maxLen:=by
    unfold grownCap Question.cut maxLen;have:=Nat.mod_lt (w.tape w.drawn (.appendCap (0+m) cp ei.e)) (show 0<2 ^ 63-(0+m) by omega);simp only;omega
   generalize grownCap w (0+m) cp ei.e=gc at hr hcap;have hle2:=G.upd_le (p:=(⟨w.heap.size,0⟩,gc*ei.z)) (hH.fresh n (Nat.le_refl _));refine ⟨γ.upd n (⟨w.heap.size,0⟩,gc*ei.z),_,_,hle2,?_,hr,_,rfl,.sl n ei.z 0 _ none ⟨w.heap.size,0⟩ _ _ G.upd_same hcap.1 hcap.2 (by omega) (fun k e=>by cases e) (fun _=>by omega)⟩;have hnn:=hcn.1
   refine hH1.lay hnb _ _ (fun q hq=>?_) (by show _<(w.heap.push _).size;simp) rfl rfl rfl ⟨(([]:List Value).toArray++ns.toArray++Builtin.zeroCells zv.cells (gc-(0+m))),.of (by show (w.heap.push _)[_]? = _;simp),?_,?_,(fun e=>by cases e),?_⟩
   ·show (w.heap.push _)[q]? = _;rw [Array.getElem?_push_lt hq];simp [hq]
   ·show _=0+_;rw [Nat.zero_add];simp only [Array.size_append,List.size_toArray,size_zeroCells,hzs,List.length_nil,hnl];have h7:=hcap.1;have e:m*ei.z+(gc-(0+m))*ei.z=gc*ei.z:=by
     rw [← Nat.add_mul,show m+(gc-(0+m))=gc by omega]
    rw [Nat.zero_add m] at e;simp only [Nat.zero_add] at *;omega
   ·rw [List.nil_append,hnn,hnl];exact Nat.mul_le_mul_right _ (by omega)
   ·refine ECL.mono hle2 ?_;show ECL _ _ (List.take _ (List.drop 0 _));have:(([]:List Value).toArray++ns.toArray++Builtin.zeroCells zv.cells (gc-(0+m))).toList.take (([]:List EV)++news).length=ns:=by
     rw [List.nil_append,hnn,Array.toList_append,Array.toList_append,List.toList_toArray,List.toList_toArray,List.nil_append];exact List.take_left' rfl
    rw [List.drop_zero,this];exact hcn
 ·-- a slice whose room is known
  rename_i i z off len cp;rw [bc_eq,bc_eq] at h;split at h
  case isFalse=>cases h
  rename_i h1;have h1:=Nat.eq_of_beq_eq_true h1;subst h1;obtain ⟨b,k,c',hγ,rfl,hlc,hcm,hcn2,hck,_⟩:=ec_sl hs;have hck:=hck _ rfl;subst hck;split at h
  ·rename_i h2;have h2:len+m≤c':=Nat.le_of_ble_eq_true h2;split at h
   case h_2=>cases h
   rename_i H2 hp;injection h with h;subst h
   obtain ⟨g1,g2⟩:=zel (P:=P) hH hcn hp hγ;have hf:=run_firstCells_some (P:=P) w ei.z m a m c ns hnl hnc;refine ⟨γ,_,.slice (some (b.at off)) (len+m) c',GLe.refl γ,g1,?_,_,rfl,.sl i ei.z off _ _ b k c' hγ h2 hcm hcn2 (fun k e=>by injection e) (fun e=>by cases e)⟩;have g2:(storeCells (b.at (off+len*ei.z)) ns 0).run P w = .ok () (w.setCells b.k (b.s+(off+len*ei.z)) ns):=g2;simp [Builtin.append_,run_underlying hu,sizeOf,typeInfo,hi,Builtin.lenOf,h2,hf,Pl.at_add,hsz,g2]
  ·rename_i h2;have h2:c'<len+m:=by
    rcases Nat.lt_or_ge c' (len+m) with h3|h3
    ·exact h3
    ·exact absurd (Nat.ble_eq_true_of_le (show Nat.add len m≤c' from h3)) h2
   split at h
   case h_2=>cases h
   rename_i ty2 cs full hcs;rw [bc_eq] at h;split at h
   case isFalse=>cases h
   rename_i h4;have h4:=Nat.le_of_ble_eq_true h4;rw [zac] at h4;have h4:off+len*ei.z≤cs.length:=h4;obtain ⟨hnb,hone,hle,rfl⟩:=zdk h;obtain ⟨⟨k0,hg,hkn⟩,b2,m2,ca,hγ2,hb,hsz2,hl2,hfull,hcl⟩:=zbc hH hcs;rw [hγ] at hγ2;simp only [Option.some.injEq,Prod.mk.injEq] at hγ2;obtain ⟨rfl,rfl⟩:=hγ2;have hold:=(hcl.drop off).take (len*ei.z);have hol:((((ca.toList.drop b.s).take cs.length).drop off).take (len*ei.z)).length=len*ei.z:=by simp;omega
   have hr:=run_append_grow (P:=P) (w:=w) t ty ei.e inf zv hu hi hz (b.at off) len c' ((((ca.toList.drop b.s).take cs.length).drop off).take (len*ei.z)) (by rw [hol,hsz]) (fun q u hq=>by
    rw [Pl.at_add,(zaf hb).1,← Array.getElem?_toList];rw [List.getElem?_take] at hq;split at hq
    ·rw [List.getElem?_drop,List.getElem?_take] at hq;split at hq
     ·rw [List.getElem?_drop] at hq;exact hq
     ·cases hq
    ·cases hq) a m c ns (by rw [hsz];exact hnl) hnc h2 (by omega) (by
     have:=nextslicecap_le h2;have:=Nat.mul_le_mul (Nat.le_trans this (Nat.mul_le_mul_left 2 hle)) hby;omega)
   have hcap:len+m≤grownCap w (len+m) c' ei.e∧grownCap w (len+m) c' ei.e≤maxLen:=by
    unfold grownCap Question.cut maxLen;have:=Nat.mod_lt (w.tape w.drawn (.appendCap (len+m) c' ei.e)) (show 0<2 ^ 63-(len+m) by omega);simp only;omega
   have hle2:=G.upd_le (p:=(⟨w.heap.size,0⟩,grownCap w (len+m) c' ei.e*ei.z)) (hH.fresh n (Nat.le_refl _));refine ⟨γ.upd n (⟨w.heap.size,0⟩,grownCap w (len+m) c' ei.e*ei.z),_,_,hle2,?_,hr,_,rfl,.sl n ei.z 0 _ none ⟨w.heap.size,0⟩ _ _ G.upd_same hcap.1 hcap.2 (by omega) (fun k e=>by cases e) (fun _=>by omega)⟩;have hal:=hold.append hcn;refine hH.lay hnb _ _ (fun q hq=>?_) (by show _<(w.heap.push _).size;simp) rfl rfl rfl ⟨_,.of (by show (w.heap.push _)[_]? = _;simp;rfl),?_,?_,(fun e=>by cases e),?_⟩
   ·show (w.heap.push _)[q]? = _;rw [Array.getElem?_push_lt hq];simp [hq]
   ·show _=0+_;rw [Nat.zero_add];simp only [Array.size_append,List.size_toArray,size_zeroCells,hzs,List.length_append,hol,hnl];rw [← Nat.add_mul,← Nat.add_mul];congr 1;omega
   ·have e1:=hal.1;rw [List.length_append (as:=(((ca.toList.drop b.s).take cs.length).drop off).take (len*ei.z)),hol,hnl,← Nat.add_mul] at e1;exact Nat.le_trans (Nat.le_of_eq e1) (Nat.mul_le_mul_right _ hcap.1)
   ·refine ECL.mono hle2 ?_;have e1:=hal.1;have:((((((ca.toList.drop b.s).take cs.length).drop off).take (len*ei.z)++ns).toArray++Builtin.zeroCells zv.cells (grownCap w (len+m) c' ei.e-(len+m))).toList.take ((cs.drop off).take (len*ei.z)++news).length)=(((ca.toList.drop b.s).take cs.length).drop off).take (len*ei.z)++ns:=by
     rw [e1,Array.toList_append];exact List.take_left' rfl
    show ECL _ _ (List.take _ (List.drop 0 _));rw [List.drop_zero,show (cs.drop off).take (Nat.mul len ei.z)=(cs.drop off).take (len*ei.z) from rfl,this]
    exact hal
 ·cases h
theorem zkr (hT:TOk γ T tmps) (hH:HR γ w0 H n w) {t ty:TypeId} {s x:EV} {vs vx:Value} {er:ER} (hs:EC γ s vs) (hx:EC γ x vx) (h:exAppend P t s x H n=some er) :
  ∃ γ' w' v',GLe γ γ'∧HR γ' w0 er.H er.n w'∧(Builtin.append_ #[t,t] ty #[vs,vx]).run P w = .ok v' w'∧∃ a,er.val=some a∧EC γ' a v':=by
 unfold exAppend at h;split at h
 case h_2=>cases h
 rename_i ei hei;split at h
 case h_2=>cases h
 rename_i m news hn;obtain ⟨a,c,ns,rfl,hcn,hnl,hnc⟩:=zc5 hH hx hn;exact zbj hT hH hei hs hcn hnl hnc h
end
section
open Go.RowKit
variable {P:Program} {γ:G} {w0:Bs} {w:World} {H H':Tr EK} {n n':Nat} {T:Tr EV} {tmps:Array Value} {o:Oper} {r:Option EV}
def optNat (T:Tr EV) (x:Option Operand) (d:Nat):Option Nat:=match x with
 | none=>some d
 | some y=>(intOf (exVal T y)).bind natOf
def exSlice (P:Program) (T:Tr EV) (t:TypeId) (x:Operand) (lo hi mx:Option Operand) (H:Tr EK):Option EV:=match mx with
 | some _=>none
 | none=>match exVal T x with
  | some (.sl i z off len cap)=>match optNat T lo 0 with
   | some l=>match optNat T hi len with
    | some h=>match Sx.slZ P t with
     | some z'=>bc (Nat.beq z z') (bc (Nat.ble l h) (match cap with
      | some c=>bc (Nat.ble h c) (some (.sl i z (bc (Nat.beq c l) off (Nat.add off (Nat.mul l z))) (Nat.sub h l) (some (Nat.sub c l)))) none
      | none=>bc (Nat.ble h len) (bc (Nat.beq l 0) (some (.sl i z off h none)) (bc (Nat.blt l len) (some (.sl i z (Nat.add off (Nat.mul l z)) (Nat.sub h l) none)) (some (.slE i z (Nat.add off (Nat.mul l z)))))) none) none) none
     | none=>none
    | none=>none
   | none=>none
  | some (.ptr i off)=>match P.underlying t with
   | some (.array m e)=>match optNat T lo 0 with
    | some l=>match optNat T hi m with
     | some h=>match Sx.sizeB P e with
      | some z=>match cellsAt H i with
       | some (_,cs,_)=>bc (Nat.ble l h) (bc (Nat.ble h m) (bc (Nat.ble (Nat.add off (Nat.mul m z)) (llen cs)) (bc (Nat.ble m 65536) (some (.sl i z (bc (Nat.beq m l) off (Nat.add off (Nat.mul l z))) (Nat.sub h l) (some (Nat.sub m l)))) none) none) none) none
       | none=>none
      | none=>none
     | none=>none
    | none=>none
   | _=>none
  | _=>none
theorem ziz (hT:TOk γ T tmps) {x:Option Operand} {d k:Nat} (h:optNat T x d=some k):(x=none∧k=d)∨∃ y κ,x=some y∧opEval tmps y = .int κ k:=by
 unfold optNat at h
 cases x with
 | none=>left;simp at h;exact ⟨rfl,h.symm⟩
 | some y=>
  right;obtain ⟨mi,hmi,hk2⟩:=Option.bind_eq_some_iff.1 h;obtain ⟨κ,hix⟩:=zai hT hmi;exact ⟨y,κ,rfl,by rw [hix,zco hk2]⟩
theorem zgp (hT:TOk γ T tmps) {isS:Bool} {lo hi:Option Operand} {len cap l h:Nat} (hl:optNat T lo 0=some l) (hh:optNat T hi len=some h) (h1:l≤h) (h2:h≤cap) (w:World) :
  (Instr.sliceBounds isS len cap (lo.map (opEval tmps)) (hi.map (opEval tmps)) none).run P w = .ok (l,h,cap) w:=by
 unfold Instr.sliceBounds;rcases ziz hT hl with ⟨rfl,rfl⟩|⟨y,κ,rfl,hy⟩ <;> rcases ziz hT hh with ⟨rfl,rfl⟩|⟨y2,κ2,rfl,hy2⟩ <;>
  simp [Instr.sliceBound,asIntOf, *]
theorem znp (hT:TOk γ T tmps) (hH:HR γ w0 H n w) {t:TypeId} {x:Operand} {lo hi mx:Option Operand} {a:EV} (ho:o.op = .slice t x lo hi mx) (h:exSlice P T t x lo hi mx H=some a):Gives P γ w0 w (execOp (opEval tmps) o) (some a) H n:=by
 unfold exSlice at h;split at h
 ·cases h
 have hex:∀ s:Value,opEval tmps x=s→execOp (opEval tmps) o=(do pure (Next.value (← Instr.sliceAt t s (lo.map (opEval tmps)) (hi.map (opEval tmps)) none)):Sem Next):=fun s hs=>by
  unfold execOp;rw [ho];simp only [hs];rfl
 split at h
 ·rename_i i z off len cap hx;split at h
  case h_2=>cases h
  rename_i l hl;split at h
  case h_2=>cases h
  rename_i hh hhi;split at h
  case h_2=>cases h
  rename_i z' hz;rw [bc_eq,bc_eq] at h;split at h
  case isFalse=>cases h
  rename_i hzz;have hzz:=Nat.eq_of_beq_eq_true hzz;subst hzz;split at h
  case isFalse=>cases h
  rename_i hlh;have hlh:=Nat.le_of_ble_eq_true hlh;obtain ⟨b,m,c,hγ,he,hlc,hcm,hcn,hck,hcu⟩:=ec_sl (zaa hT hx);obtain ⟨e,inf,hu,hinf,hsz⟩:=Sx.slZ_spec hz;have run:∀ hc:hh≤c,(execOp (opEval tmps) o).run P w = .ok (.value (.slice (if c=l then some (b.at off) else some (b.at (off+l*z))) (hh-l) (c-l))) w:=fun hc=>by
   rw [hex _ he];refine run_v ?_;have hb:=zgp (P:=P) (isS:=true) (cap:=c) hT hl hhi hlh hc w;simp [Instr.sliceAt,Instr.slice,run_underlying hu,hb,sizeOf,typeInfo,hinf,hsz,Pl.at_add]
  cases cap with
  | some c'=>
   simp only at h;have hck:=hck _ rfl;subst hck;rw [bc_eq] at h;split at h
   case isFalse=>cases h
   rename_i hc;have hc:=Nat.le_of_ble_eq_true hc;injection h with h;subst h
   refine zab (run hc) ?_ hH;rw [bc_eq]
   by_cases e1:c=l
   ·subst e1;have:Nat.beq c c=true:=Nat.beq_refl c;rw [if_pos rfl,if_pos this];exact .sl i z off _ _ b m _ hγ (Nat.sub_le_sub_right hc _) (by omega) (by simp;omega) (fun k e=>by injection e with e) (fun e=>by cases e)
   ·rw [if_neg e1,if_neg (fun e2=>e1 (Nat.eq_of_beq_eq_true e2))];refine .sl i z _ _ _ b m _ hγ (Nat.sub_le_sub_right hc _) (by omega) ?_ (fun k e=>by injection e with e) (fun e=>by cases e)
    show off+l*z+(c-l)*z≤m;rw [Nat.add_assoc,← Nat.add_mul,show l+(c-l)=c by omega];exact hcn
  | none=>
   simp only at h;have hcu:=hcu rfl;rw [bc_eq] at h;split at h
   case isFalse=>cases h
   rename_i hc;have hc:=Nat.le_of_ble_eq_true hc;rw [bc_eq] at h;split at h
   ·rename_i h0;have h0:=Nat.eq_of_beq_eq_true h0;subst h0;injection h with h;subst h
    have hr:=run (by omega);simp only [Nat.zero_mul,Nat.add_zero,ite_self,Nat.sub_zero] at hr;exact zab hr (.sl i z off _ _ b m c hγ (by omega) hcm hcn (fun k e=>by cases e) (fun _=>hcu)) hH
   ·rename_i h0;rw [bc_eq] at h;split at h
    rotate_left
    ·rename_i h3;have h3:¬ l<len:=fun e=>h3 (by unfold Nat.blt;exact Nat.ble_eq_true_of_le e);injection h with h;subst h
     have hr:=run (by omega);have e1:l=hh:=by omega
     have e2:l=len:=by omega
     subst e1;rw [Nat.sub_self] at hr
     by_cases hcl:c=l
     ·rw [if_pos hcl,hcl,Nat.sub_self] at hr;exact zab hr (.slE i z _ b m 0 off hγ (Nat.zero_le _) (fun e=>absurd e (by omega))) hH
     ·rw [if_neg hcl] at hr;refine zab hr (.slE i z _ b m (c-l) (off+l*z) hγ (by omega) (fun _=>⟨rfl,?_⟩)) hH;show off+l*z+(c-l)*z=m;rw [Nat.add_assoc,← Nat.add_mul,show l+(c-l)=c by omega];exact hcu.resolve_right (by omega)
    rename_i h3;have h3:=zad h3;injection h with h;subst h
    have hr:=run (by omega);rw [if_neg (by omega)] at hr;refine zab hr (.sl i z _ _ _ b m _ hγ (Nat.sub_le_sub_right (by omega) _) (by omega) ?_ (fun k e=>by cases e) (fun _=>?_)) hH
    ·show off+l*z+(c-l)*z≤m;rw [Nat.add_assoc,← Nat.add_mul,show l+(c-l)=c by omega];exact hcn
    ·show off+l*z+(c-l)*z=m∨c-l=0;left;rw [Nat.add_assoc,← Nat.add_mul,show l+(c-l)=c by omega];exact hcu.resolve_right (by omega)
 ·rename_i i off hx;split at h
  case h_2=>cases h
  rename_i m e hu;split at h
  case h_2=>cases h
  rename_i l hl;split at h
  case h_2=>cases h
  rename_i hh hhi;split at h
  case h_2=>cases h
  rename_i z hz;split at h
  case h_2=>cases h
  rename_i ty cs full hcs;rw [bc_eq,bc_eq,bc_eq,bc_eq] at h;split at h
  case isFalse=>cases h
  rename_i h1;split at h
  case isFalse=>cases h
  rename_i h2;split at h
  case isFalse=>cases h
  rename_i h3;split at h
  case isFalse=>cases h
  rename_i h4;injection h with h;subst h
  have h1:=Nat.le_of_ble_eq_true h1;have h2:=Nat.le_of_ble_eq_true h2;have h3:=Nat.le_of_ble_eq_true h3;have h4:=Nat.le_of_ble_eq_true h4;rw [zac] at h3;have h3:off+m*z≤cs.length:=h3;obtain ⟨b,k,hγ,he⟩:=zcc (zaa hT hx);obtain ⟨hg,b2,m2,ca,hγ2,hb,hsz2,hl2,hfull,hcl⟩:=zbc hH hcs;rw [hγ] at hγ2;simp only [Option.some.injEq,Prod.mk.injEq] at hγ2;obtain ⟨rfl,rfl⟩:=hγ2;obtain ⟨inf,hinf,hsz⟩:=zbl hz
  have hr:(execOp (opEval tmps) o).run P w = .ok (.value (.slice (some (if m=l then (b.at off) else (b.at (off+l*z)))) (hh-l) (m-l))) w:=by
   rw [hex _ he];refine run_v ?_;have hb:=zgp (P:=P) (isS:=false) (cap:=m) hT hl hhi h1 h2 w;simp [Instr.sliceAt,Instr.sureAddr,run_underlying hu,hb,sizeOf,typeInfo,hinf,hsz,Pl.at_add]
  refine zab hr ?_ hH;rw [bc_eq]
  by_cases e1:m=l
  ·subst e1;have:Nat.beq m m=true:=Nat.beq_refl m;rw [if_pos rfl,if_pos this];exact .sl i z off _ _ b k _ hγ (Nat.sub_le_sub_right h2 _) (by unfold maxLen;omega) (by simp;omega) (fun k e=>by injection e with e) (fun e=>by cases e)
  ·rw [if_neg e1,if_neg (fun e2=>e1 (Nat.eq_of_beq_eq_true e2))];refine .sl i z _ _ _ b k _ hγ (Nat.sub_le_sub_right h2 _) (by unfold maxLen;omega) ?_ (fun k e=>by injection e with e) (fun e=>by cases e)
   show off+l*z+(m-l)*z≤k;rw [Nat.add_assoc,← Nat.add_mul,show l+(m-l)=m by omega];omega
 ·cases h
end
section
open Go.RowKit
variable {P:Program} {γ:G} {w0:Bs} {w:World} {H H':Tr EK} {n n':Nat} {T:Tr EV} {tmps:Array Value} {o:Oper} {r:Option EV}
theorem zh3 (off:Nat):∀ (l:List Value) (k:Nat) (cs:Array Value),off+k+l.length≤cs.size →
  ((l.zipIdx k).foldl (fun cs (p:Value×Nat)=>cs.setIfInBounds (off+p.2) p.1) cs)=putArr cs (off+k) l
 | [],k,cs,_=>by simp [putArr]
 | v::l,k,cs,h=>by
  simp only [List.length_cons] at h;simp only [List.zipIdx_cons,List.foldl_cons];rw [zh3 off l (k+1) _ (by simp;omega),putArr];rfl
def exParts (T:Tr EV) (l:List (Nat×Operand)):Option (List (Nat×EV)):=List.rec (some []) (fun p _ ih=>match exVal T p.2 with
 | some a=>match ih with
  | some r=>some ((p.1,a)::r)
  | none=>none
 | none=>none) l
inductive PL (γ:G):List (Nat×EV)→List (Nat×Value)→Prop where
 | nil:PL γ [] []
 | cons (i:Nat) {a:EV} {x:Value} {l:List (Nat×EV)} {m:List (Nat×Value)} (h:EC γ a x) (r:PL γ l m):PL γ ((i,a)::l) ((i,x)::m)
theorem ze2 (hT:TOk γ T tmps):∀ {l:List (Nat×Operand)} {m:List (Nat×EV)},exParts T l=some m→PL γ m (l.map fun p=>(p.1,opEval tmps p.2))
 | [],m,h=>by simp [exParts] at h;subst h;exact .nil
 | p::l,m,h=>by
  have h':(match exVal T p.2 with
   | some a=>match exParts T l with
    | some r=>some ((p.1,a)::r)
    | none=>none
   | none=>none)=some m:=h
  split at h'
  case h_2=>cases h'
  rename_i a ha;split at h'
  case h_2=>cases h'
  rename_i r hr;injection h' with h';subst h'
  exact .cons p.1 (zaa hT ha) (ze2 hT hr)
def fillE (place:Nat→Option (Nat×Nat)) (parts:List (Nat×EV)):List EV→Option (List EV):=List.rec (fun cs=>some cs) (fun p _ ih cs=>match place p.1 with
 | some (off,size)=>bc (Nat.beq (llen p.2.cells) size) (bc (Nat.ble (Nat.add off size) (llen cs)) (ih (Sx.putAt cs off p.2.cells)) none) none
 | none=>none) parts
theorem zv8 {cs vs:List EV} {xs:List Value} {c:Array Value} {off:Nat} (hc:ECL γ cs c.toList) (hv:ECL γ vs xs) (hle:off+vs.length≤cs.length):ECL γ (Sx.putAt cs off vs) (putArr c off xs).toList:=by
 have hl:=hc.1;have h:=zix (c:=c) (off:=off) (cs:=cs) (vs:=vs) (xs:=xs) (k:=0) (by rw [List.drop_zero,hl];rw [List.take_length];exact hc) hv hle (by simp at hl;omega)
 rwa [Nat.zero_add,List.drop_zero,List.take_of_length_le (by simp [zap];unfold Sx.putAt;simp at hl ⊢;omega)] at h
theorem zfi (place:Nat→Option (Nat×Nat)):∀ {parts:List (Nat×EV)} {vp:List (Nat×Value)} {cs cs':List EV} {c:Array Value},PL γ parts vp→ECL γ cs c.toList→fillE place parts cs=some cs'→∃ c',Instr.fill place c vp=some c'∧ECL γ cs' c'.toList
 | [],_,cs,cs',c,.nil,hc,h=>by
  have h':some cs=some cs':=h;injection h' with h';subst h'
  exact ⟨c,rfl,hc⟩
 | (i,a)::parts,(_,x)::vp,cs,cs',c,.cons _ ha hr,hc,h=>by
  have h':(match place i with
   | some (off,size)=>bc (Nat.beq (llen a.cells) size) (bc (Nat.ble (Nat.add off size) (llen cs)) (fillE place parts (Sx.putAt cs off a.cells)) none) none
   | none=>none)=some cs':=h
  split at h'
  case h_2=>cases h'
  rename_i off size hp;rw [bc_eq,bc_eq] at h';split at h'
  case isFalse=>cases h'
  rename_i h1;split at h'
  case isFalse=>cases h'
  rename_i h2;have h1:=Nat.eq_of_beq_eq_true h1;have h2:=Nat.le_of_ble_eq_true h2;rw [zac] at h1 h2;subst h1;have h2:off+a.cells.length≤cs.length:=h2;have hac:=ha.cells;have hl:=hac.1;have hcl:=hc.1;simp only [Array.length_toList] at hl hcl;obtain ⟨c',h3,h4⟩:=zfi place hr (zv8 hc hac h2) h';refine ⟨c',?_,h4⟩;unfold Instr.fill;simp only [hp];rw [if_neg (by simp;omega)];have:=zh3 off x.cells.toList 0 c (by simp;omega);rw [← h3];congr 1;rw [← Array.foldl_toList,Array.toList_zipIdx];rw [Nat.add_zero] at this;exact this
def zeroCellsE (zs:List Value) (k:Nat):List EV:=(List.range k).map fun j=>EV.v (zs.toArray[j%zs.toArray.size]!)
theorem za7 (zs:List Value) (k:Nat):ECL γ (zeroCellsE zs k) ((Array.range k).map (zs.toArray[· % zs.toArray.size]!)).toList:=by
 have:((Array.range k).map (zs.toArray[· % zs.toArray.size]!)).toList=(List.range k).map fun j=>zs.toArray[j%zs.toArray.size]!:=by simp
 rw [this];unfold zeroCellsE;refine ⟨by simp,fun j a x ha hx=>?_⟩;rw [List.getElem?_map] at ha hx
 cases hj:(List.range k)[j]? with
 | none=>rw [hj] at ha;simp at ha
 | some q=>rw [hj] at ha hx;simp at ha hx;subst ha;subst hx;exact .v _
def bsCore (P:Program) (T:Tr EV) (t:TypeId) (len:Nat) (parts:Array (Nat×Operand)):Option (TypeId×Nat×List EV):=match elemOf P t with
 | some e=>match Sx.zeroL P e with
  | some zs=>match Sx.sizeB P e with
   | some z=>match exParts T parts.toList with
    | some ps=>bc (Nat.blt 0 (Nat.mul len z)) (bc (Nat.ble (Nat.mul len z) 65536) (match fillE (fun i=>some (Nat.mul i z,z)) ps (zeroCellsE zs (Nat.mul len z)) with
     | some cs=>bc (Nat.ble len 65536) (some (e,z,cs)) none
     | none=>none) none) none
    | none=>none
   | none=>none
  | none=>none
 | none=>none
theorem zck (hT:TOk γ T tmps) {t:TypeId} {len:Nat} {parts:Array (Nat×Operand)} {e:TypeId} {z:Nat} {cs:List EV} (ho:o.op = .buildSlice t len parts) (h:bsCore P T t len parts=some (e,z,cs)) (w:World) :
  ∃ c:Array Value,(execOp (opEval tmps) o).run P w = .ok (.value (.slice (some ⟨w.heap.size,0,none⟩) len len)) (w.alloc (.cells c e))∧ECL γ cs c.toList∧c.size=len*z∧len≤65536:=by
 unfold bsCore at h;split at h
 case h_2=>cases h
 rename_i e he;split at h
 case h_2=>cases h
 rename_i zs hzs;split at h
 case h_2=>cases h
 rename_i z hz;split at h
 case h_2=>cases h
 rename_i ps hps;rw [bc_eq,bc_eq] at h;split at h
 case isFalse=>cases h
 rename_i h1;split at h
 case isFalse=>cases h
 rename_i h2;split at h
 case h_2=>cases h
 rename_i cs hcs;rw [bc_eq] at h;split at h
 case isFalse=>cases h
 rename_i h4;simp only [Option.some.injEq,Prod.mk.injEq] at h;obtain ⟨rfl,rfl,rfl⟩:=h;have h1:0<len*z:=zad h1;have h2:len*z≤65536:=Nat.le_of_ble_eq_true h2;have h4:=Nat.le_of_ble_eq_true h4;obtain ⟨inf,hi,hsz⟩:=zbl hz;obtain ⟨inf2,zv,hi2,hzv,hzl⟩:=zb5 hzs;rw [hi] at hi2;injection hi2 with hi2;subst hi2
 have hpl:=ze2 hT hps;have hz0:=za7 (γ:=γ) zs (len*z);obtain ⟨c',hf,hcc⟩:=zfi _ hpl hz0 hcs;have hel:=zcj he;have hcl:=hcc.1;have hsize:c'.size=len*z:=by
  have:∀ (vp:List (Nat×Value)) (place:Nat→Option (Nat×Nat)) (c c2:Array Value),Instr.fill place c vp=some c2→c2.size=c.size:=by
   intro vp
   induction vp with
   | nil=>intro place c c2 h;simp [Instr.fill] at h;rw [h]
   | cons p vp ih=>
    intro place c c2 h;obtain ⟨i,v⟩:=p;unfold Instr.fill at h;split at h
    ·cases h
    ·split at h
     ·cases h
     ·rename_i off size _ hno;rw [ih _ _ _ h];have hno:v.cells.size=size∧off+v.cells.size≤c.size:=by simp at hno;omega
      have hfs:=zh3 off v.cells.toList 0 c (by simp;omega);rw [← Array.foldl_toList,Array.toList_zipIdx];show (List.foldl _ c _).size=_;rw [show (List.foldl (fun cs (p:Value×Nat)=>cs.setIfInBounds (off+p.2) p.1) c (v.cells.toList.zipIdx 0))=_ from hfs,zap]
  rw [this _ _ _ _ hf];simp
 refine ⟨c',?_,hcc,hsize,h4⟩;have hex:execOp (opEval tmps) o=(do pure (Next.value (← Instr.buildSlice t len (parts.map fun (i,x)=>(i,opEval tmps x)))):Sem Next):=by unfold execOp;rw [ho]
 rw [hex];refine run_v ?_;have hf2:Instr.fill (fun i=>some (i*z,z)) (Array.map (fun x=>zv.cells[x%zv.cells.size]!) (Array.range (len*z))) (List.map (fun x=>(x.fst,opEval tmps x.snd)) parts.toList)=some c':=by
  have e1:zv.cells=zs.toArray:=by rw [← hzl]
  rw [e1];exact hf
 have h0:¬ len*z=0:=by omega
 simp [Instr.buildSlice,run_underlying hel,sizeOf,typeInfo,hi,hsz,zeroValue,hzv,h0,show ¬ 16777216<len*z by omega,newRow,newObj,Sem.run];rw [hf2];rfl
def exBuildSlice (P:Program) (T:Tr EV) (t:TypeId) (len:Nat) (parts:Array (Nat×Operand)) (H:Tr EK) (n:Nat):Option ER:=match bsCore P T t len parts with
 | some (e,z,cs)=>bc (Nat.ble n 65535) (some ⟨some (.sl n z 0 len (some len)),H.put n (some (.cells e cs true)),Nat.succ n⟩) none
 | none=>none
theorem zc8 (hT:TOk γ T tmps) (hH:HR γ w0 H n w) {t:TypeId} {len:Nat} {parts:Array (Nat×Operand)} {er:ER} (ho:o.op = .buildSlice t len parts) (h:exBuildSlice P T t len parts H n=some er) :
  Gives P γ w0 w (execOp (opEval tmps) o) er.val er.H er.n:=by
 unfold exBuildSlice at h;split at h
 case h_2=>cases h
 rename_i e z cs hb;rw [bc_eq] at h;split at h
 case isFalse=>cases h
 rename_i hnb;injection h with h;subst h
 obtain ⟨c,hr,hc,hs,hl⟩:=zck hT ho hb w;exact zbo hH hnb hc hr fun γ' e=>.sl n z 0 len _ _ _ len e (Nat.le_refl _) (by unfold maxLen;omega) (by rw [hs];omega) (fun k e=>by injection e) (fun e=>by cases e)
def placesOf (P:Program) (fs:List Field):Option (List (Nat×Nat)):=List.rec (some []) (fun f _ ih=>match P.info? f.type with
 | some i=>match ih with
  | some r=>some ((f.offset,i.size)::r)
  | none=>none
 | none=>none) fs
theorem zfw:∀ {fs:List Field} {l:List (Nat×Nat)},placesOf P fs=some l→fs.mapM (fun f=>(P.info? f.type).map fun i=>(f.offset,i.size))=some l
 | [],l,h=>by simp [placesOf] at h;subst h;rfl
 | f::fs,l,h=>by
  have h':(match P.info? f.type with
   | some i=>match placesOf P fs with
    | some r=>some ((f.offset,i.size)::r)
    | none=>none
   | none=>none)=some l:=h
  split at h'
  case h_2=>cases h'
  rename_i i hi;split at h'
  case h_2=>cases h'
  rename_i r hr;injection h' with h';subst h'
  rw [List.mapM_cons,zfw hr,hi];rfl
def exBuild (P:Program) (T:Tr EV) (t:TypeId) (parts:Array (Nat×Operand)):Option EV:=match Sx.zeroL P t with
 | some zs=>match exParts T parts.toList with
  | some ps=>match P.underlying t with
   | some (.struct fs)=>match placesOf P fs.toList with
    | some pl=>match fillE (fun i=>lget pl i) ps (zs.map .v) with
     | some cs=>some (packE cs)
     | none=>none
    | none=>none
   | some (.array _ e)=>match Sx.sizeB P e with
    | some z=>match fillE (fun i=>some (Nat.mul i z,z)) ps (zs.map .v) with
     | some cs=>some (packE cs)
     | none=>none
    | none=>none
   | _=>none
  | none=>none
 | none=>none
theorem znw (hT:TOk γ T tmps) (hH:HR γ w0 H n w) {t:TypeId} {parts:Array (Nat×Operand)} {a:EV} (ho:o.op = .build t parts) (h:exBuild P T t parts=some a):Gives P γ w0 w (execOp (opEval tmps) o) (some a) H n:=by
 unfold exBuild at h;split at h
 case h_2=>cases h
 rename_i zs hzs;obtain ⟨inf,zv,hi,hzv,hzl⟩:=zb5 hzs;split at h
 case h_2=>cases h
 rename_i ps hps;have hpl:=ze2 hT hps;have hex:execOp (opEval tmps) o=(do pure (Next.value (← Instr.build t (parts.map fun (i,x)=>(i,opEval tmps x)))):Sem Next):=by unfold execOp;rw [ho]
 have e2:(parts.map fun (i,x)=>(i,opEval tmps x)).toList=parts.toList.map fun p=>(p.1,opEval tmps p.2):=by simp
 have hz0:ECL γ (zs.map .v) zv.cells.toList:=by rw [hzl];exact ECL.vals γ zs
 split at h
 ·rename_i fs hu;split at h
  case h_2=>cases h
  rename_i pl hpls;split at h
  case h_2=>cases h
  rename_i cs hcs;injection h with h;subst h
  obtain ⟨c',hf,hcc⟩:=zfi _ hpl hz0 hcs;refine zab (x:=.agg c') ?_ (by have:=zed hcc;simpa using this) hH;rw [hex];refine run_v (run_build w t _ c' ?_);unfold Program.built;rw [hi,hu];simp only [hzv];rw [zfw hpls,e2];simp only;rw [← hf];congr 1
  funext i
  rw [zag];simp
 ·rename_i k e hu;split at h
  case h_2=>cases h
  rename_i z hz;obtain ⟨inf2,hi2,hsz2⟩:=zbl hz;split at h
  case h_2=>cases h
  rename_i cs hcs;injection h with h;subst h
  obtain ⟨c',hf,hcc⟩:=zfi _ hpl hz0 hcs;refine zab (x:=.agg c') ?_ (by have:=zed hcc;simpa using this) hH;rw [hex];refine run_v (run_build w t _ c' ?_);unfold Program.built;rw [hi,hu];simp only [hzv,hi2,hsz2];rw [e2];exact hf
 ·cases h
def exMake (P:Program) (T:Tr EV) (t:TypeId) (len cap:Operand) (H:Tr EK) (n:Nat):Option ER:=match elemInfo P t with
 | some ei=>match Sx.zeroL P ei.e with
  | some zs=>match (intOf (exVal T len)).bind natOf with
   | some l=>match (intOf (exVal T cap)).bind natOf with
    | some c=>bc (Nat.ble l c) (bc (Nat.ble c 65536) (bc (Nat.ble (Nat.mul c ei.z) 65536) (bc (Nat.ble n 65535) (some ⟨some (.sl n ei.z 0 l (some c)),H.put n (some (.cells ei.e (zeroCellsE zs (Nat.mul c ei.z)) true)),Nat.succ n⟩) none) none) none) none
    | none=>none
   | none=>none
  | none=>none
 | none=>none
theorem zqh (hT:TOk γ T tmps) (hH:HR γ w0 H n w) {t:TypeId} {len cap:Operand} {er:ER} (ho:o.op = .makeSlice t len cap) (h:exMake P T t len cap H n=some er):Gives P γ w0 w (execOp (opEval tmps) o) er.val er.H er.n:=by
 unfold exMake at h;split at h
 case h_2=>cases h
 rename_i ei hei;obtain ⟨hu,inf,zv,hi,hz,hsz,hzs,hpos,hby⟩:=zak hei;split at h
 case h_2=>cases h
 rename_i zs hzs2;obtain ⟨inf2,zv2,hi2,hzv2,hzl⟩:=zb5 hzs2;rw [hi] at hi2;injection hi2 with hi2;subst hi2
 rw [hz] at hzv2;injection hzv2 with hzv2;subst hzv2
 split at h
 case h_2=>cases h
 rename_i l hl;obtain ⟨ml,hml,hl2⟩:=Option.bind_eq_some_iff.1 hl;obtain ⟨κ,hlen⟩:=zai hT hml;have hl2:=zco hl2;subst hl2;split at h
 case h_2=>cases h
 rename_i c hc;obtain ⟨mc,hmc,hc2⟩:=Option.bind_eq_some_iff.1 hc;obtain ⟨κ2,hcap⟩:=zai hT hmc;have hc2:=zco hc2;subst hc2;rw [bc_eq,bc_eq,bc_eq,bc_eq] at h;split at h
 case isFalse=>cases h
 rename_i h1;split at h
 case isFalse=>cases h
 rename_i h2;split at h
 case isFalse=>cases h
 rename_i h3;split at h
 case isFalse=>cases h
 rename_i hnb;injection h with h;subst h
 have h1:=Nat.le_of_ble_eq_true h1;have h2:=Nat.le_of_ble_eq_true h2;have h3:c*ei.z≤65536:=Nat.le_of_ble_eq_true h3;have hb2:=Nat.mul_le_mul hby h2;have h8:inf.bytes*c≤281474976710656:=Nat.le_trans hb2 (Nat.le_of_ble_eq_true rfl);have h9:(inf.bytes:Int)*(c:Int)≤281474976710656:=by rw [← Int.natCast_mul];omega
 have hr:=run_makeSlice (P:=P) w t ei.e inf zv hu hi hz κ κ2 (l:Int) (c:Int) (by omega) (by omega) (by rw [hsz,Int.toNat_natCast];omega) h9 (by omega);have e1:zv.cells=zs.toArray:=by rw [← hzl]
 have hcl:(madeCells zv.cells (c*ei.z)).size=c*ei.z:=size_madeCells _ _;refine zbo hH hnb (c:=madeCells zv.cells (c*ei.z)) (by unfold madeCells;rw [e1];exact za7 zs _) (x:=.slice (some ⟨w.heap.size,0,none⟩) l c) ?_ fun γ' e=>.sl n ei.z 0 l _ _ _ c e h1 (by unfold maxLen;omega) (by rw [hcl];omega) (fun k e=>by injection e) (fun e=>by cases e);have hex:execOp (opEval tmps) o=(do pure (Next.value (← Instr.makeSlice t (.int κ l) (.int κ2 c))):Sem Next):=by unfold execOp;rw [ho];simp only [hlen,hcap]
 rw [hex];refine run_v ?_;rw [hr,hsz];simp
def exExtract (T:Tr EV) (x:Operand) (j:Nat):Option EV:=match exVal T x with
 | some (.tup cs)=>lget cs j
 | _=>none
theorem zjc (hT:TOk γ T tmps) (hH:HR γ w0 H n w) {x:Operand} {j:Nat} {a:EV} (ho:o.op = .extract x j) (h:exExtract T x j=some a):Gives P γ w0 w (execOp (opEval tmps) o) (some a) H n:=by
 unfold exExtract at h;split at h
 case h_2=>cases h
 rename_i cs hx;rw [zag] at h;have hc:=zaa hT hx;generalize hy:opEval tmps x=y at hc
 cases hc with
 | tup _ vs hl hcc=>
  obtain ⟨u,hu,hcu⟩:=ECL.at (γ:=γ) ⟨hl,hcc⟩ h;refine zab (x:=u) ?_ hcu hH;have:vs.toArray[j]? = some u:=by simpa using hu
  simp [execOp,ho,hy,Instr.extract,this]
def partE (P:Program) (t:TypeId) (cs:List EV) (off:Nat):Option EV:=match aggOf P t with
 | some none=>lget cs off
 | some (some m)=>bc (Nat.ble (Nat.add off m) (llen cs)) (some (packE ((cs.drop off).take m))) none
 | none=>none
theorem zlw {t:TypeId} {cs:List EV} {vs:List Value} {off:Nat} {a:EV} (hc:ECL γ cs vs) (h:partE P t cs off=some a) (w:World):∃ u,(part t vs.toArray off).run P w = .ok u w∧EC γ a u:=by
 unfold partE at h;split at h
 ·rename_i hag;rw [zag] at h;obtain ⟨u,hu,hcu⟩:=hc.at h;have:vs.toArray[off]? = some u:=by simpa using hu
  exact ⟨u,by simp [part,zbx hag,this],hcu⟩
 ·rename_i m hag;rw [bc_eq] at h;split at h
  case isFalse=>cases h
  injection h with h;subst h
  obtain ⟨hagg,inf,hi,hs⟩:=zc9 hag;refine ⟨.agg (((vs.drop off).take m).toArray),?_,zed ((hc.drop off).take m)⟩;simp [part,hagg,sizeOf,typeInfo,hi,hs]
 ·cases h
def exFieldV (P:Program) (T:Tr EV) (t:TypeId) (x:Operand) (f:Nat):Option EV:=match exVal T x with
 | some (.agg cs)=>match P.underlying t with
  | some (.struct fs)=>match lget fs.toList f with
   | some fd=>partE P fd.type cs fd.offset
   | none=>none
  | _=>none
 | _=>none
theorem zkp (hT:TOk γ T tmps) (hH:HR γ w0 H n w) {t:TypeId} {x:Operand} {f:Nat} {a:EV} (ho:o.op = .field t x f) (h:exFieldV P T t x f=some a):Gives P γ w0 w (execOp (opEval tmps) o) (some a) H n:=by
 unfold exFieldV at h;split at h
 case h_2=>cases h
 rename_i cs hx;split at h
 case h_2=>cases h
 rename_i fs hu;split at h
 case h_2=>cases h
 rename_i fd hfd;rw [zag] at hfd;have hfd:fs[f]? = some fd:=by simpa using hfd
 have hc:=zaa hT hx;generalize hy:opEval tmps x=y at hc
 cases hc with
 | agg _ vs hl hcc=>
  obtain ⟨u,hu2,hcu⟩:=zlw (P:=P) (γ:=γ) ⟨hl,hcc⟩ h w;refine zab (x:=u) ?_ hcu hH;simp [execOp,ho,hy,Instr.field,run_underlying hu,hfd,asAgg,hu2]
def exIndexA (P:Program) (T:Tr EV) (t:TypeId) (x ix:Operand):Option EV:=match exVal T x with
 | some (.agg cs)=>match P.underlying t with
  | some (.array m e)=>match Sx.sizeB P e with
   | some z=>match (intOf (exVal T ix)).bind natOf with
    | some j=>bc (Nat.blt j m) (partE P e cs (Nat.mul j z)) none
    | none=>none
   | none=>none
  | _=>none
 | _=>none
theorem zkn (hT:TOk γ T tmps) (hH:HR γ w0 H n w) {t:TypeId} {x ix:Operand} {a:EV} (ho:o.op = .index t x ix) (h:exIndexA P T t x ix=some a):Gives P γ w0 w (execOp (opEval tmps) o) (some a) H n:=by
 unfold exIndexA at h;split at h
 case h_2=>cases h
 rename_i cs hx;split at h
 case h_2=>cases h
 rename_i m e hu;split at h
 case h_2=>cases h
 rename_i z hz;obtain ⟨inf,hi,hs⟩:=zbl hz;split at h
 case h_2=>cases h
 rename_i j hj;obtain ⟨mj,hmj,hj2⟩:=Option.bind_eq_some_iff.1 hj;obtain ⟨κ,hix⟩:=zai hT hmj;have hj2:=zco hj2;subst hj2;rw [bc_eq] at h;split at h
 case isFalse=>cases h
 rename_i hlt;have hlt:=zad hlt;have hc:=zaa hT hx;generalize hy:opEval tmps x=y at hc
 cases hc with
 | agg _ vs hl hcc=>
  obtain ⟨u,hu2,hcu⟩:=zlw (P:=P) (γ:=γ) ⟨hl,hcc⟩ h w;refine zab (x:=u) ?_ hcu hH;have hu3:(part e vs.toArray (j*z)).run P w = .ok u w:=hu2;simp [execOp,ho,hy,hix,Instr.index,asIntOf,run_underlying hu,sizeOf,typeInfo,hi,hs,hlt,hu3]
def exVals (T:Tr EV) (l:List Operand):Option (List EV):=List.rec (some []) (fun x _ ih=>match exVal T x with
 | some a=>match ih with
  | some r=>some (a::r)
  | none=>none
 | none=>none) l
theorem zch (hT:TOk γ T tmps):∀ {l:List Operand} {m:List EV},exVals T l=some m→ECL γ m (l.map (opEval tmps))
 | [],m,h=>by simp [exVals] at h;subst h;exact ECL.nil γ
 | x::l,m,h=>by
  have h':(match exVal T x with
   | some a=>match exVals T l with
    | some r=>some (a::r)
    | none=>none
   | none=>none)=some m:=h
  split at h'
  case h_2=>cases h'
  rename_i a ha;split at h'
  case h_2=>cases h'
  rename_i r hr;injection h' with h';subst h'
  exact ECL.cons (zaa hT ha) (zch hT hr)
def exFunc (T:Tr EV) (fn:Fn) (first captured:Array Operand):Option EV:=match fn with
 | .func f=>match first.toList with
  | []=>match exVals T captured.toList with
   | some l=>some (.fn f l)
   | none=>none
  | _=>match captured.toList with
   | []=>match exVals T first.toList with
    | some l=>some (.mt f l)
    | none=>none
   | _=>none
 | _=>none
theorem zqk (hT:TOk γ T tmps) (hH:HR γ w0 H n w) {fn:Fn} {first captured:Array Operand} {a:EV} (ho:o.op = .makeFunc fn first captured) (h:exFunc T fn first captured=some a):Gives P γ w0 w (execOp (opEval tmps) o) (some a) H n:=by
 unfold exFunc at h;split at h
 case h_2=>cases h
 rename_i f;split at h
 case h_2=>
  split at h
  case h_2=>cases h
  rename_i hcap;split at h
  case h_2=>cases h
  rename_i l hl;injection h with h;subst h
  have hc:=zch hT hl;refine zab (x:=.func (.func f) (first.toList.map (opEval tmps)).toArray #[]) ?_ (.mt f l _ hc.1 hc.2) hH
  have hf:captured = #[]:=by apply Array.ext';simpa using hcap
  have e3:(first.toList.map (opEval tmps)).toArray=first.map (opEval tmps):=by apply Array.ext';simp
  rw [e3];simp [execOp,ho,Instr.makeFunc,hf]
 rename_i hf;split at h
 case h_2=>cases h
 rename_i l hl;injection h with h;subst h
 have hc:=zch hT hl;refine zab (x:=.func (.func f) #[] (captured.toList.map (opEval tmps)).toArray) ?_ (.fn f l _ hc.1 hc.2) hH;have hf:first = #[]:=by apply Array.ext';simpa using hf
 have e3:(captured.toList.map (opEval tmps)).toArray=captured.map (opEval tmps):=by apply Array.ext';simp
 rw [e3];simp [execOp,ho,Instr.makeFunc,hf]
def exLen (P:Program) (T:Tr EV) (x:Operand) (t:TypeId):Option EV:=match exVal T x with
 | some (.sl _ _ _ len _)=>match P.underlying t with
  | some (.slice _)=>some (.v (.int .i64 (Int.ofNat len)))
  | _=>none
 | some (.slE _ _ _)=>match P.underlying t with
  | some (.slice _)=>some (.v (.int .i64 (Int.ofNat 0)))
  | _=>none
 | some (.slO _ _ len _)=>match P.underlying t with
  | some (.slice _)=>some (.v (.int .i64 (Int.ofNat len)))
  | _=>none
 | _=>none
theorem zmm (hT:TOk γ T tmps) (hH:HR γ w0 H n w) {x:Operand} {t:TypeId} {a:EV} (ho:o.op = .call { callee:=.builtin .len,args:=#[x],argTypes:=#[t] }) (h:exLen P T x t=some a):Gives P γ w0 w (execOp (opEval tmps) o) (some a) H n:=by
 unfold exLen at h;split at h
 case h_4=>cases h
 ·rename_i i z off len cap hx;split at h
  case h_2=>cases h
  rename_i e hu;injection h with h;subst h
  obtain ⟨b,m,c,hγ,he,_⟩:=ec_sl (zaa hT hx);refine zab (x:=.int .i64 (len:Int)) ?_ (.v _) hH;simp [execOp,ho,resolve,invoke,builtin,he,Builtin.len_,run_underlying hu,goInt]
 ·rename_i i z off hx;split at h
  case h_2=>cases h
  rename_i e hu;injection h with h;subst h
  obtain ⟨b,m,c,off',hγ,he,_⟩:=zqx (zaa hT hx);refine zab (x:=.int .i64 ((0:Nat):Int)) ?_ (.v _) hH;simp [execOp,ho,resolve,invoke,builtin,he,Builtin.len_,run_underlying hu,goInt]
 ·rename_i i z len nn hx;split at h
  case h_2=>cases h
  rename_i e hu;injection h with h;subst h
  have hc:=zaa hT hx;generalize hy:opEval tmps x=y at hc
  cases hc with
  | slO _ _ _ _ _ hs=>
   refine zab (x:=.int .i64 (len:Int)) ?_ (.v _) hH
   cases nn with
   | false=>
    obtain ⟨rfl,rfl⟩:=hs.1 rfl;simp [execOp,ho,resolve,invoke,builtin,hy,Builtin.len_,run_underlying hu,goInt]
   | true=>
    obtain ⟨b,m,c,_,rfl,_⟩:=hs.2 rfl;simp [execOp,ho,resolve,invoke,builtin,hy,Builtin.len_,run_underlying hu,goInt]
end
section
open Go.RowKit
variable {P:Program} {γ:G} {w0:Bs} {w:World} {H H':Tr EK} {n n':Nat} {T:Tr EV} {tmps:Array Value} {o:Oper} {r:Option EV}
def exBS0 (P:Program) (t:TypeId) (len:Nat) (parts:Array (Nat×Operand)) (H:Tr EK) (n:Nat):Option ER:=match len with
 | 0=>match parts.toList with
  | []=>match elemInfo P t with
   | some ei=>bc (Nat.ble n 65535) (some ⟨some (.sl n ei.z 0 0 (some 0)),H.put n (some (.cells ei.e [] true)),Nat.succ n⟩) none
   | none=>none
  | _=>none
 | _=>none
theorem zh7 (hH:HR γ w0 H n w) {t:TypeId} {len:Nat} {parts:Array (Nat×Operand)} {er:ER} (ho:o.op = .buildSlice t len parts) (h:exBS0 P t len parts H n=some er) :
  Gives P γ w0 w (execOp (opEval tmps) o) er.val er.H er.n:=by
 unfold exBS0 at h;split at h
 case h_2=>cases h
 split at h
 case h_2=>cases h
 rename_i hp;split at h
 case h_2=>cases h
 rename_i ei hei;obtain ⟨hu,inf,zv,hi,hz,hsz,hzs,hpos,hby⟩:=zak hei;rw [bc_eq] at h;split at h
 case isFalse=>cases h
 rename_i hnb;injection h with h;subst h
 have hp2:parts = #[]:=by apply Array.ext';simpa using hp
 subst hp2;refine zbo hH hnb (c:=#[]) (ECL.nil γ) (x:=.slice (some ⟨w.heap.size,0,none⟩) 0 0) ?_ fun γ' e=>.sl n ei.z 0 0 _ _ _ 0 e (Nat.le_refl _) (by unfold maxLen;omega) (by simp) (fun k e=>by injection e) (fun e=>by cases e);have hex:execOp (opEval tmps) o=(do pure (Next.value (← Instr.buildSlice t 0 ((#[]:Array (Nat×Operand)).map fun (i,x)=>(i,opEval tmps x)))):Sem Next):=by unfold execOp;rw [ho]
 rw [hex];refine run_v ?_;simp [Instr.buildSlice,run_underlying hu,sizeOf,typeInfo,hi,Instr.fill,znj];exact congrArg (fun c=>w.alloc (Obj.cells c ei.e)) (Array.eq_empty_of_size_eq_zero (by simp))
def nilKeep (P:Program) (t:TypeId) (a:EV):Option EV:=match elemInfo P t with
 | some _=>match a with
  | .sl _ _ _ _ _=>some a
  | .v (.slice none 0 0)=>some a
  | _=>none
 | none=>none
def exAppNil (P:Program) (t:TypeId) (a b:EV):Option EV:=match b with
 | .v (.slice none 0 _)=>nilKeep P t a
 | .slE _ _ _=>nilKeep P t a
 | _=>none
theorem zks {t ty:TypeId} {a b r:EV} {va vb:Value} (ha:EC γ a va) (hb:EC γ b vb) (h:exAppNil P t a b=some r):EC γ r va∧(Builtin.append_ #[t,t] ty #[va,vb]).run P w = .ok va w:=by
 have key:∀ (ba:Option Addr) (c:Nat),vb = .slice ba 0 c→nilKeep P t a=some r→EC γ r va∧(Builtin.append_ #[t,t] ty #[va,vb]).run P w = .ok va w:=fun ba c hv h=>by
  subst hv;have hf:∀ size:Nat,(Builtin.firstCells size 0 (.slice ba 0 c)).run P w = .ok #[] w:=fun size=>by
   cases ba with
   | none=>simp [Builtin.firstCells]
   | some ad=>
    have:=run_firstCells_some (P:=P) w size 0 ad 0 c [] (by simp) (by simp);simpa using this
  unfold nilKeep at h;split at h
  case h_2=>cases h
  rename_i ei hei;obtain ⟨hu,inf,zv,hi,hz,hsz,hzs,hpos,hby⟩:=zak hei;split at h
  ·injection h with h;subst h
   refine ⟨ha,?_⟩;obtain ⟨b,m,c',hγ,rfl,hl,_⟩:=ec_sl ha;simp [Builtin.append_,run_underlying hu,sizeOf,typeInfo,hi,Builtin.lenOf,hl,hf,storeCells]
  ·injection h with h;subst h
   refine ⟨ha,?_⟩;have ha:=ec_v ha;subst ha;simp [Builtin.append_,run_underlying hu,sizeOf,typeInfo,hi,Builtin.lenOf,hf]
  ·cases h
 unfold exAppNil at h;split at h
 ·exact key none _ (ec_v hb) h
 ·obtain ⟨b,m,c,off',_,he,_⟩:=zqx hb;exact key _ _ he h
 ·cases h
def exCopy (P:Program) (T:Tr EV) (args:List Operand) (ats:List TypeId) (H:Tr EK) (n:Nat):Option ER:=match args with
 | [x,y]=>match ats with
  | [t,_]=>match elemInfo P t with
   | some ei=>match exVal T x with
    | some (.sl i z off len cap)=>match exVal T y with
     | some (.sl j z' off' len' cap')=>bc (Nat.beq z ei.z) (match newsOf H ei.z (.sl j z' off' (bc (Nat.ble len len') len len') cap') with
      | some (m,news)=>match exPut i off news H with
       | some H'=>some ⟨some (.v (.int .i64 (Int.ofNat (bc (Nat.ble len len') len len')))),H',n⟩
       | none=>none
      | none=>none) none
     | _=>none
    | _=>none
   | none=>none
  | _=>none
 | _=>none
theorem EC.slLess {i z off len len':Nat} {cap:Option Nat} {y:Value} (h:EC γ (.sl i z off len cap) y) (hl:len'≤len):∃ (b:Pl) (m c:Nat),γ i=some (b,m)∧y = .slice (some (b.at off)) len c∧EC γ (.sl i z off len' cap) (.slice (some (b.at off)) len' c):=by
 cases h with
 | sl i z off len cap b n c h hlc hm hn hc hu=>exact ⟨b,n,c,h,rfl,.sl i z off len' cap b n c h (by omega) hm hn hc hu⟩
theorem zql (hT:TOk γ T tmps) (hH:HR γ w0 H n w) {args:Array Operand} {ats:Array TypeId} {er:ER} (ho:o.op = .call { callee:=.builtin .copy,args:=args,argTypes:=ats }) (h:exCopy P T args.toList ats.toList H n=some er) :
  Gives P γ w0 w (execOp (opEval tmps) o) er.val er.H er.n:=by
 unfold exCopy at h;split at h
 case h_2=>cases h
 rename_i x y hargs;split at h
 case h_2=>cases h
 rename_i t u hats;split at h
 case h_2=>cases h
 rename_i ei hei;obtain ⟨hu,inf,zv,hi,hz,hsz,hzs,hpos,hby⟩:=zak hei;split at h
 case h_2=>cases h
 rename_i i z off len cap hx;split at h
 case h_2=>cases h
 rename_i j z' off' len' cap' hy;rw [bc_eq] at h;split at h
 case isFalse=>cases h
 rename_i hzz;have hzz:=Nat.eq_of_beq_eq_true hzz;subst hzz;have hk:bc (Nat.ble len len') len len'=Nat.min len' len:=by
  rw [bc_eq];split
  ·rename_i h1;exact (Nat.min_eq_right (Nat.le_of_ble_eq_true h1)).symm
  ·rename_i h1;have h1:¬ len≤len':=fun h=>h1 (Nat.ble_eq_true_of_le h);exact (Nat.min_eq_left (by omega)).symm
 rw [hk] at h;obtain ⟨b1,m1,c1,hγ1,hx1,_⟩:=ec_sl (zaa hT hx);obtain ⟨b2,m2,c2,hγ2,hy1,hy2⟩:=(zaa hT hy).slLess (len':=Nat.min len' len) (Nat.min_le_left _ _);split at h
 case h_2=>cases h
 rename_i m news hnews;obtain ⟨a,c,vs,he,hc,hl,hcell⟩:=zc5 hH hy2 hnews;simp only [Value.slice.injEq,Option.some.injEq] at he;obtain ⟨rfl,rfl,rfl⟩:=he;split at h
 case h_2=>cases h
 rename_i H2 hput;injection h with h;subst h
 obtain ⟨g1,g2⟩:=zel (P:=P) hH hc hput hγ1;have ha2:args = #[x,y]:=by apply Array.ext';simpa using hargs
 have ha3:ats = #[t,u]:=by apply Array.ext';simpa using hats
 subst ha2;subst ha3;refine ⟨γ,_,GLe.refl γ,g1,.int .i64 (Nat.min len' len:Nat),?_,.v _⟩;have hf:=run_firstCells_some (P:=P) w ei.z (Nat.min len' len) (b2.at off') len' c2 vs hl hcell;have g2:(storeCells (b1.at off) vs 0).run P w = .ok () (w.setCells b1.k (b1.s+off) vs):=g2;have hf2:(Builtin.firstCells inf.size (Nat.min len' len) (.slice (some (b2.at off')) len' c2)).run P w = .ok vs.toArray w:=by rw [hsz];exact hf
 have hcp:(Builtin.copy_ #[t,u] o.type #[opEval tmps x,opEval tmps y]).run P w = .ok (.int .i64 (Nat.min len' len:Nat)) (w.setCells b1.k (b1.s+off) vs):=by
  rw [hx1,hy1];unfold Builtin.copy_;simp only [Sem.run_bind,run_underlying hu,Result.andThen_ok,Builtin.lenOf,Sem.run_pure,sizeOf,typeInfo,List.getElem?_toArray,List.getElem?_cons_zero,List.getElem?_cons_succ];simp [hi,hf2,g2,goInt]
 simp [execOp,ho,resolve,invoke,builtin,hcp]
def exClear (P:Program) (T:Tr EV) (args:List Operand) (ats:List TypeId) (H:Tr EK) (n:Nat):Option ER:=match args with
 | [x]=>match ats with
  | [t]=>match elemOf P t with
   | some e=>match Sx.zeroL P e with
    | some zs=>match exVal T x with
     | some (.sl i z off len cap)=>match len with
      | 0=>some ⟨some (.v (.tuple #[])),H,n⟩
      | _=>match exPut i off (zeroCellsE zs (Nat.mul len (llen zs))) H with
       | some H'=>some ⟨some (.v (.tuple #[])),H',n⟩
       | none=>none
     | _=>none
    | none=>none
   | none=>none
  | _=>none
 | _=>none
theorem znv (hT:TOk γ T tmps) (hH:HR γ w0 H n w) {args:Array Operand} {ats:Array TypeId} {er:ER} (ho:o.op = .call { callee:=.builtin .clear,args:=args,argTypes:=ats }) (h:exClear P T args.toList ats.toList H n=some er) :
  Gives P γ w0 w (execOp (opEval tmps) o) er.val er.H er.n:=by
 unfold exClear at h;split at h
 case h_2=>cases h
 rename_i x hargs;split at h
 case h_2=>cases h
 rename_i t hats;split at h
 case h_2=>cases h
 rename_i e he;split at h
 case h_2=>cases h
 rename_i zs hzs;obtain ⟨inf,zv,hi,hzv,hzl⟩:=zb5 hzs;have hu:=zcj he;split at h
 case h_2=>cases h
 rename_i i z off len cap hx;obtain ⟨b1,m1,c1,hγ1,hx1,_⟩:=ec_sl (zaa hT hx);have ha2:args = #[x]:=by apply Array.ext';simpa using hargs
 have ha3:ats = #[t]:=by apply Array.ext';simpa using hats
 subst ha2;subst ha3;split at h
 ·injection h with h;subst h
  refine ⟨γ,w,GLe.refl γ,hH,.tuple #[],?_,.v _⟩;simp [execOp,ho,resolve,invoke,builtin,hx1,Builtin.clear_,run_underlying hu]
 ·rename_i hne;split at h
  case h_2=>cases h
  rename_i H2 hput;injection h with h;subst h
  have hzc:=za7 (γ:=γ) zs (len*llen zs);obtain ⟨g1,g2⟩:=zel (P:=P) hH hzc hput hγ1;refine ⟨γ,_,GLe.refl γ,g1,.tuple #[],?_,.v _⟩;have g2:(storeCells (b1.at off) _ 0).run P w = .ok () _:=g2
  cases len with
  | zero=>exact absurd rfl hne
  | succ k=>
   have hcp:(Builtin.clear_ #[t] o.type #[opEval tmps x]).run P w = .ok (.tuple #[]) (w.setCells b1.k (b1.s+off) (((Array.range ((k+1)*llen zs)).map (zs.toArray[· % zs.toArray.size]!)).toList)):=by
    rw [hx1];unfold Builtin.clear_;have e1:zv.cells=zs.toArray:=by apply Array.ext';simpa using hzl
    have e2:(Builtin.zeroCells zv.cells (k+1)).toList=((Array.range ((k+1)*llen zs)).map (zs.toArray[· % zs.toArray.size]!)).toList:=by
     unfold Builtin.zeroCells;rw [e1,zac,show zs.toArray.size=zs.length by simp]
    simp only [Sem.run_bind,run_underlying hu,Result.andThen_ok,Sem.run_pure,List.getElem?_toArray,List.getElem?_cons_zero];simp [zeroValue,typeInfo,hi,hzv,e2];simp only [Array.toList_map,Array.toList_range] at g2;simp at g2;rw [g2];rfl
   simp [execOp,ho,resolve,invoke,builtin,hcp]
end
section
open Go.RowKit
variable {P:Program} {γ:G} {w0:Bs} {w:World} {H H':Tr EK} {n n':Nat} {T:Tr EV} {tmps:Array Value} {o:Oper} {r:Option EV}
def zeroK (t:TypeId) (zs:List Value):EK:=bc (Nat.ble (llen zs) 24) (.cells t (zs.map .v) true) (bc (Nat.ble (llen zs) 65536) (.arr t (putsT (zs.map .v) 0 .nil) (llen zs)) (.cells t (zs.map .v) true))
theorem zk8 (t:TypeId) (zs:List Value):(zeroK t zs).nestB=false:=by
 unfold zeroK;cases Nat.ble (llen zs) 24
 ·cases Nat.ble (llen zs) 65536 <;> rfl
 ·rfl
theorem zk7 {t:TypeId} {zs:List Value} {c:Array Value} (hc:c.toList=zs) (γ':G):(zeroK t zs).ok γ' ⟨w.heap.size,0⟩ c.size (w.alloc (.cells c t)):=by
 have h0:(EK.cells t (zs.map .v) true).ok γ' ⟨w.heap.size,0⟩ c.size (w.alloc (.cells c t)):=by
  have hl:(zs.map EV.v).length=c.size:=by rw [← hc];simp
  refine ⟨c,.of (by show (w.heap.push _)[_]? = _;simp),(Nat.zero_add _).symm,by omega,fun _=>hl,?_⟩;show ECL _ _ ((c.toList.drop 0).take _);rw [List.drop_zero,hl,show c.size=c.toList.length by simp,List.take_length,hc];exact ECL.vals γ' zs
 unfold zeroK;rw [bc_eq,bc_eq];split
 ·exact h0
 ·split
  ·rename_i h2;have h2:=Nat.le_of_ble_eq_true h2;rw [zac] at h2 ⊢;refine ⟨c,.of (by show (w.heap.push _)[_]? = _;simp),(Nat.zero_add _).symm,by rw [← hc];simp,fun j a hj ha=>?_⟩;rw [zfv (by simp;omega)] at ha;rw [if_pos (by simp;omega),Nat.sub_zero,List.getElem?_map] at ha;show ∃ x,c[0+j]? = some x∧_;rw [Nat.zero_add,← Array.getElem?_toList,hc]
   cases hz:zs[j]? with
   | none=>rw [hz] at ha;cases ha
   | some x=>
    rw [hz] at ha;injection ha with ha;subst ha
    exact ⟨x,rfl,.v x⟩
  ·exact h0
def exAllocB (P:Program) (t:TypeId) (H:Tr EK) (n:Nat):Option ER:=match Sx.zeroL P t with
 | some zs=>bc (Nat.ble n 65535) (some ⟨some (.ptr n 0),H.put n (some (zeroK t zs)),Nat.succ n⟩) none
 | none=>none
theorem zit {t:TypeId} (ho:o.op = .alloc t) {zs:List Value} (h:Sx.zeroL P t=some zs) (w:World):∃ c:Array Value,c.toList=zs∧(execOp (opEval tmps) o).run P w = .ok (.value (.pointer (some ⟨w.heap.size,0,none⟩))) (w.alloc (.cells c t)):=by
 obtain ⟨inf,z,hi,hzz,hzl⟩:=zb5 h;refine ⟨z.cells,hzl,?_⟩;have he:execOp (opEval tmps) o=(do pure (Next.value (← Instr.alloc t true (.tuple #[]))):Sem Next):=by unfold execOp;rw [ho]
 rw [he];refine run_v ?_;simp [Instr.alloc,zeroValue,typeInfo,hi,hzz,newVar,newRow,newObj,Sem.run]
theorem zkt (hH:HR γ w0 H n w) {t:TypeId} {e:ER} (ho:o.op = .alloc t) (h:exAllocB P t H n=some e):Gives P γ w0 w (execOp (opEval tmps) o) e.val e.H e.n:=by
 unfold exAllocB at h;split at h
 case h_2=>cases h
 rename_i zs hz;rw [bc_eq] at h;split at h
 case isFalse=>cases h
 rename_i hn;injection h with h;subst h
 obtain ⟨c,hc,hr⟩:=zit (tmps:=tmps) ho hz w;have hle:=G.upd_le (p:=((⟨w.heap.size,0⟩:Pl),c.size)) (hH.fresh n (Nat.le_refl _));exact ⟨γ.upd n (⟨w.heap.size,0⟩,c.size),w.alloc (.cells c t),hle,hH.new hn (.cells c t) c.size (zeroK t zs) rfl rfl rfl rfl (zk7 hc _) (zk8 _ _),_,hr,.ptr n 0 _ _ G.upd_same⟩
end
end Go.Proofs.Ytfffbioafhppiaa.Ev
