/- LooseLinks returns true, for all arguments, in every world in which it is called, and nothing that was there turns. -/
import Derived.ProofKit
import Derived.ReadAgain
import Derived.OpenShut
import Derived.Test.YtfffbioafhppiaaRows
import Derived.WalkKit
import Derived.Test.YtfffbioafhppiaaLLk5
set_option linter.unusedSimpArgs false
set_option linter.unusedVariables false
noncomputable section
namespace Go.Proofs.Ytfffbioafhppiaa.Ev
section
namespace PTim
variable {n:Nat}
theorem step1 {pw:Int} {A B:List (Pm n)} {a b:Pm n} {len:Nat} {k:Int} {tk:Bool} {i:Nat} (hn:n≤12) (hi:0<i∧i<n) (hb:b.beg i) (hf:¬ a.fin i):RT (stOf (sB n pw (encF (A++b::B)) (pA a.inv) len k A.length tk i)) = .at (sB n pw (encF (A++b.L i hi::B)) (pA (a.R i hi).inv) len k A.length true (1:Nat)):=by
 obtain ⟨j,rfl⟩:∃ j,i=j+1:=⟨i-1,by omega⟩;rw [b_t];have w:IntKind.i64.wrap (((j+1:Nat):Int)-1)=(j:Int):=by rw [zae _ (by omega) (by omega)];omega
 have e1:((j:Int)).toNat=j:=rfl;have e2:(((j+1:Nat):Int)).toNat=j+1:=rfl;rw [w,e1,e2];have i1:Nat.add (Nat.mul A.length 12) (Nat.add 0 (Nat.mul j 1))=A.length*12+j:=by show A.length*12+(0+j*1)=_;omega
 have i2:Nat.add (Nat.mul A.length 12) (Nat.add 0 (Nat.mul (j+1) 1))=A.length*12+(j+1):=by show A.length*12+(0+(j+1)*1)=_;omega
 rw [i1,i2,ze1 A B b (show j<12 by omega),ze1 A B b (show j+1<12 by omega),zbj a.inv (show j<12 by omega),zbj a.inv (show j+1<12 by omega)];have l1:=pA_L b hi hn;have l2:=pA_L a.inv hi hn;rw [show j+1-1=j by omega] at l1 l2;rw [zpp A B b (b.L (j+1) hi) j (j+1) _ _ (by omega) (by omega) l1,l2,← inv_R a hi];have f1:(b.f (j+1):Int)<(b.f j:Int):=by
  unfold Pm.beg at hb;rw [show j+1-1=j by omega] at hb;omega
 have f2:(a.inv.f j:Int)<(a.inv.f (j+1):Int):=by
  have:=(Pm.nfin hi.1).1 hf;rw [show j+1-1=j by omega] at this;show (a.g j:Int)<(a.g (j+1):Int);omega
 have hlen:(encF (A++b::B)).length=A.length*12+12+B.length*12:=by rw [zaf,List.length_append,List.length_cons];omega
 have z1:(Int.ofNat 0+1:Int)=((1:Nat):Int):=rfl;rw [List.length_set,List.length_set,hlen,zas];simp (disch:=omega) only [yS,eqB]
theorem step2 {pw:Int} {A B:List (Pm n)} {a b:Pm n} {len:Nat} {k:Int} {tk:Bool} {i:Nat} (hn:n≤12) (hi:0<i∧i<n) (h:¬ (b.beg i∧¬ a.fin i)):RT (stOf (sB n pw (encF (A++b::B)) (pA a.inv) len k A.length tk i)) = .at (sB n pw (encF (A++b::B)) (pA a.inv) len k A.length tk (i+1:Nat)):=by
 obtain ⟨j,rfl⟩:∃ j,i=j+1:=⟨i-1,by omega⟩;rw [b_t];have w:IntKind.i64.wrap (((j+1:Nat):Int)-1)=(j:Int):=by rw [zae _ (by omega) (by omega)];omega
 have e1:((j:Int)).toNat=j:=rfl;have e2:(((j+1:Nat):Int)).toNat=j+1:=rfl;rw [w,e1,e2];have i1:Nat.add (Nat.mul A.length 12) (Nat.add 0 (Nat.mul j 1))=A.length*12+j:=by show A.length*12+(0+j*1)=_;omega
 have i2:Nat.add (Nat.mul A.length 12) (Nat.add 0 (Nat.mul (j+1) 1))=A.length*12+(j+1):=by show A.length*12+(0+(j+1)*1)=_;omega
 rw [i1,i2,ze1 A B b (show j<12 by omega),ze1 A B b (show j+1<12 by omega),zbj a.inv (show j<12 by omega),zbj a.inv (show j+1<12 by omega)];have hlen:(encF (A++b::B)).length=A.length*12+12+B.length*12:=by rw [zaf,List.length_append,List.length_cons];omega
 rw [List.length_set,List.length_set,hlen,zas]
 by_cases hb:b.beg (j+1)
 ·have hf:a.fin (j+1):=Classical.byContradiction fun hf=>h ⟨hb,hf⟩;have f1:(b.f (j+1):Int)<(b.f j:Int):=by
   unfold Pm.beg at hb;rw [show j+1-1=j by omega] at hb;omega
  have f2:¬ (a.inv.f j:Int)<(a.inv.f (j+1):Int):=by
   unfold Pm.fin at hf;rw [show j+1-1=j by omega] at hf;show ¬ (a.g j:Int)<(a.g (j+1):Int);omega
  simp (disch:=omega) only [yS,eqB];rfl
 ·have f1:¬ (b.f (j+1):Int)<(b.f j:Int):=by
   unfold Pm.beg at hb;rw [show j+1-1=j by omega] at hb;omega
  simp (disch:=omega) only [yS,eqB];rfl
theorem loopB {pw:Int} {A B:List (Pm n)} {len:Nat} {k:Int} (hn:n≤12):∀ (μ:Nat) (a b:Pm n) (i:Nat) (tk:Bool),a.W*(n+1)+(n-i)≤μ→1≤i→i≤n→(∀ j,0<j→j<i→¬ (b.beg j∧¬ a.fin j)) →
  ∃ a' b' tk',Mvs [a,b] [a',b']∧Lw a' b'∧(tk'=false→tk=false∧a'=a∧b'=b)∧(tk'=true→tk=true∨a'.W<a.W)∧LeadsM Try.prog 1 (stOf (sB n pw (encF (A++b::B)) (pA a.inv) len k A.length tk i)) (stOf (sB n pw (encF (A++b'::B)) (pA a'.inv) len k A.length tk' n))
 | μ,a,b,i,tk,hμ,h1,h2,hj=>by
  by_cases hi:i=n
  ·subst hi;exact ⟨a,b,tk,.refl _,fun j g1 g2 hb=>Classical.byContradiction fun hf=>hj j g1 g2 ⟨hb,hf⟩,fun h=>⟨h,rfl,rfl⟩,fun h=>.inl h,LeadsM.refl _ _⟩
  ·have hin:0<i∧i<n:=⟨h1,by omega⟩
   by_cases hs:b.beg i∧¬ a.fin i
   ·obtain ⟨hb,hf⟩:=hs;have hW:=a.W_R hin hf
    match μ with
    | 0=>omega
    | μ+1=>
     have hm:(a.R i hin).W*(n+1)+(n+1)≤a.W*(n+1):=by rw [← Nat.succ_mul];exact Nat.mul_le_mul_right _ hW
     obtain ⟨a',b',tk',g1,g2,g3,g4,g5⟩:=loopB (pw:=pw) (A:=A) (B:=B) (len:=len) (k:=k) hn μ (a.R i hin) (b.L i hin) 1 true (by omega) (Nat.le_refl _) (by omega) (fun j q1 q2=>by omega);refine ⟨a',b',tk',.step (.here a b [] i hin hb hf) g1,g2,fun h=>absurd (g3 h).1 (by decide),fun h=>.inr ?_,(leadsMZ ct_ok (step1 hn hin hb hf)).trans g5⟩;have hle:a'.W≤(a.R i hin).W:=by
      rcases Bool.eq_false_or_eq_true tk' with e|e
      ·have hmv:∀ {s t:List (Pm n)},Mvs s t→∀ {x y x' y':Pm n},s=[x,y]→t=[x',y']→x'.W≤x.W:=by
        intro s t h
        induction h with
        | refl s=>intro x y x' y' e1 e2;rw [e1] at e2;injection e2 with e2;rw [e2];exact Nat.le_refl _
        | step h1 h2 ih=>
         intro x y x' y' e1 e2;subst e1
         cases h1 with
         | here _ _ _ q hq hb2 hf2=>
          have:=ih rfl e2;have:=x.W_R hq hf2;omega
         | there _ h3=>cases h3 with
          | there _ h4=>cases h4
       exact hmv g1 rfl rfl
      ·exact absurd (g3 e).1 (by decide)
     omega
   ·match μ with
    | 0=>omega
    | μ+1=>
     obtain ⟨a',b',tk',g1,g2,g3,g4,g5⟩:=loopB (pw:=pw) (A:=A) (B:=B) (len:=len) (k:=k) hn μ a b (i+1) tk (by omega) (by omega) (by omega) (fun j q1 q2=>by
      by_cases e:j=i
      ·rw [e];exact hs
      ·exact hj j q1 (by omega))
     exact ⟨a',b',tk',g1,g2,g3,g4,(leadsMZ ct_ok (step2 hn hin hs)).trans g5⟩
theorem pair {pw:Int} {A B:List (Pm n)} {a b:Pm n} {len:Nat} {k:Int} (hn1:1≤n) (hn:n≤12) :
  (nf1 a b=a∧LeadsM Try.prog 1 (stOf (sB n pw (encF (A++b::B)) (pA a.inv) len k A.length false (1:Nat))) (stOf (sB n pw (encF (A++b::B)) (pA a.inv) len k A.length false n))) ∨
  (nf1 a b≠a∧LeadsM Try.prog 1 (stOf (sB n pw (encF (A++b::B)) (pA a.inv) len k A.length false (1:Nat))) (stOf (sB n pw (encF (A++nf2 a b::B)) (pA (nf1 a b).inv) len k A.length true n))):=by
 obtain ⟨a',b',tk',g1,g2,g3,g4,g5⟩:=loopB (pw:=pw) (A:=A) (B:=B) (len:=len) (k:=k) hn _ a b 1 false (Nat.le_refl _) (Nat.le_refl _) hn1 (fun j q1 q2=>by omega);have hN:NF [a,b]=[a',b']:=NF_of g1 (za9.2 ⟨g2,za8 _⟩);have e1:nf1 a b=a':=by unfold nf1;rw [hN];rfl
 have e2:nf2 a b=b':=by unfold nf2;rw [hN];rfl
 cases tk' with
 | false=>
  obtain ⟨_,h1,h2⟩:=g3 rfl;subst h1;subst h2;exact .inl ⟨e1,g5⟩
 | true=>
  rcases g4 rfl with h|h
  ·cases h
  ·right;rw [e1,e2];exact ⟨fun e=>by rw [e] at h;omega,g5⟩
theorem lastB0 {pw:Int} {L q:List Int} {len:Nat} {k:Int} {m:Nat} (hn:n≤12):RT (stOf (sB n pw L q len k m false n)) = .at (sC n pw L (pA (Pm.del n)) len):=by
 rw [b_t,df (show ¬ (n:Int)<n by omega),bc_f];have e1:((n:Int)).toNat=n:=rfl;rw [e1,dt (show 0≤(n:Int)∧(n:Int)≤12 from ⟨by omega,by omega⟩)]
 rfl
theorem lastB1 {pw:Int} {A B:List (Pm n)} {x a':Pm n} {len:Nat} {m:Nat} (hn:n≤12) (hl:len=A.length+1+B.length) (hz:len≤6000):RT (stOf (sB n pw (encF (A++x::B)) (pA a'.inv) len (A.length+1:Nat) m true n)) = .at (sA n pw (encF (A++a'::B)) len A.length):=by
 rw [b_t,df (show ¬ (n:Int)<n by omega),bc_f];have w:IntKind.i64.wrap (((A.length+1:Nat):Int)-1)=(A.length:Int):=by rw [zae _ (by omega) (by omega)];omega
 have e1:((A.length:Int)).toNat=A.length:=rfl;rw [w,e1,dt (In12.pA hn a'.inv),zfj hn a'.inv,zas];have e2:Nat.add (Nat.mul A.length 12) 0=A.length*12:=rfl;have e3:Nat.add (A.length*12) 12=(A++[x]).length*12:=by rw [List.length_append,List.length_singleton];show A.length*12+12=_;omega
 rw [e2,e3,List.drop_zero,zis];have hB:encF (A++x::B)=encF ((A++[x])++B):=by rw [List.append_assoc];rfl
 rw [hB,zfv,List.take_of_length_le (by rw [zaf,zaf,List.length_append];omega)];have hd:(pA a'.inv.inv:List Int)=pA a':=zjf fun _ _=>rfl;have e8:encF A++pA a'++encF B=encF (A++a'::B):=by rw [zbx,za4,List.append_assoc]
 rw [hd,e8];have hlen:(encF ((A++[x])++B)).length=A.length*12+12+B.length*12:=by rw [zaf,List.length_append,List.length_append,List.length_singleton];omega
 rw [hlen,List.length_append,List.length_singleton];simp (disch:=omega) only [yS];rfl
theorem stepA {pw:Int} {A B:List (Pm n)} {a b:Pm n} {len:Nat} (hn:n≤12) (hl:len=A.length+2+B.length) (hz:len≤6000):RT (stOf (sA n pw (encF (A++a::b::B)) len (A.length+1:Nat))) = .at (sB n pw (encF ((A++[a])++b::B)) (pA a.inv) len (A.length+1:Nat) (A++[a]).length false (1:Nat)):=by
 rw [a_t];have w:IntKind.i64.wrap (((A.length+1:Nat):Int)-1)=(A.length:Int):=by rw [zae _ (by omega) (by omega)];omega
 have e1:((A.length:Int)).toNat=A.length:=rfl;have e2:(((A.length+1:Nat):Int)).toNat=A.length+1:=rfl;have e3:(A++[a]).length=A.length+1:=by rw [List.length_append];rfl
 rw [w,e1,e2,e3,zdc,zfj hn,zas];have hlen:(encF (A++a::b::B)).length=A.length*12+24+B.length*12:=by rw [zaf,List.length_append,List.length_cons,List.length_cons];omega
 have hin:A.length*12+12≤(encF (A++a::b::B)).length∧In12 (pA a):=⟨by omega,In12.pA hn a⟩;rw [dt hin];have e6:(zerosL 12).length=12:=rfl;have e7:encF ((A++[a])++b::B)=encF (A++a::b::B):=by rw [List.append_assoc];rfl
 rw [e6,e7];simp (disch:=omega) only [yS]
theorem lastA {pw:Int} {L:List Int} {len:Nat} (hn:n≤12):RT (stOf (sA n pw L len (0:Nat))) = .at (sC n pw L (pA (Pm.del n)) len):=by
 rw [a_t,df (show ¬ (0:Int)<((0:Nat):Int) by omega),bc_f];have e1:((n:Int)).toNat=n:=rfl;rw [e1,dt (show 0≤(n:Int)∧(n:Int)≤12 from ⟨by omega,by omega⟩)]
 rfl
theorem loopA {pw:Int} {len:Nat} (hn1:1≤n) (hn:n≤12) (hz:len≤6000):∀ (r:List (Pm n)) (p:Pm n) (D:List (Pm n)),len=r.length+1+D.length→LeadsM Try.prog 1 (stOf (sA n pw (encF (r.reverse++p::D)) len r.length)) (stOf (sC n pw (encF ((pasR r p).reverse++D)) (pA (Pm.del n)) len))
 | [],p,D,h=>leadsMZ ct_ok (lastA hn)
 | x::r,p,D,h=>by
  rw [List.length_cons] at h;have hA:r.reverse.length=r.length:=List.length_reverse;have h1:=stepA (pw:=pw) (A:=r.reverse) (B:=D) (a:=x) (b:=p) (len:=len) hn (by omega) hz;have e1:(x::r).reverse++p::D=r.reverse++x::p::D:=by rw [List.reverse_cons,List.append_assoc];rfl
  rw [e1];rw [hA] at h1;refine LeadsM.trans (leadsMZ ct_ok h1) ?_;rcases pair (pw:=pw) (A:=r.reverse++[x]) (B:=D) (a:=x) (b:=p) (len:=len) (k:=(r.length+1:Nat)) hn1 hn with ⟨g1,g2⟩|⟨g1,g2⟩
  ·refine g2.trans ?_;unfold pasR;rw [if_pos g1];have e2:(p::x::r).reverse++D=(r.reverse++[x])++p::D:=by rw [List.reverse_cons,List.reverse_cons,List.append_assoc];rfl
   rw [e2];exact leadsMZ ct_ok (lastB0 hn)
  ·refine g2.trans ?_;unfold pasR;rw [if_neg g1];have h2:=lastB1 (pw:=pw) (A:=r.reverse) (B:=nf2 x p::D) (x:=x) (a':=nf1 x p) (len:=len) (m:=(r.reverse++[x]).length) hn (by rw [List.length_cons];omega) hz;rw [hA] at h2;have e3:r.reverse++x::nf2 x p::D=(r.reverse++[x])++nf2 x p::D:=by rw [List.append_assoc];rfl
   rw [e3] at h2;have e4:(nf2 x p::pasR r (nf1 x p)).reverse++D=(pasR r (nf1 x p)).reverse++nf2 x p::D:=by rw [List.reverse_cons,List.append_assoc];rfl
   rw [e4];exact (leadsMZ ct_ok h2).trans (loopA hn1 hn hz r (nf1 x p) (nf2 x p::D) (by rw [List.length_cons];omega))
theorem ofPA (p:Pm n) (hn:n≤12):eqLI (pA p) e12=true↔p=Pm.one n:=by
 rw [za0,zj6 n];exact ⟨fun h=>zk7 hn h,fun h=>by rw [h]⟩
theorem stepC1 {pw:Int} {F:List (Pm n)} {D:List Int} (hn:n≤12) (hz:F.length≤6000):RT (stOf (sC n pw (encF (F++[Pm.one n])) D (F.length+1))) = .at (sC n pw (encF F) D F.length):=by
 rw [c_t];have w:IntKind.i64.wrap (Int.ofNat (F.length+1)-1)=(F.length:Int):=by
  rw [ofn,zae _ (by omega) (by omega)];omega
 have e1:((F.length:Int)).toNat=F.length:=rfl;have e2:Nat.add (Nat.mul F.length 12) 0=F.length*12:=rfl;rw [w,e1,e2,zdc F [],zis,(ofPA (Pm.one n) hn).2 rfl,zas];have hlen:(encF (F++[Pm.one n])).length=F.length*12+12:=by rw [zaf,List.length_append,List.length_singleton];omega
 have e3:([0,1,2,3,4,5,6,7,8,9,10,11]:List Int).length=12:=rfl;have m12:Nat.mul (F.length+1) 12=F.length*12+12:=by show (F.length+1)*12=_;omega
 rw [hlen,e3,m12];simp (disch:=omega) only [yS,eqB]
theorem stepC2 {pw:Int} {F:List (Pm n)} {D:List Int} {p:Pm n} (hn:n≤12) (hz:F.length≤6000) (hp:p≠Pm.one n):RT (stOf (sC n pw (encF (F++[p])) D (F.length+1))) = .at (sD n pw (encF (F++[p])) D (F.length+1)):=by
 rw [c_t];have w:IntKind.i64.wrap (Int.ofNat (F.length+1)-1)=(F.length:Int):=by
  rw [ofn,zae _ (by omega) (by omega)];omega
 have e1:((F.length:Int)).toNat=F.length:=rfl;have e2:Nat.add (Nat.mul F.length 12) 0=F.length*12:=rfl;have hb:eqLI (pA p) e12=false:=by
  cases h:eqLI (pA p) e12 with
  | false=>rfl
  | true=>exact absurd ((ofPA p hn).1 h) hp
 rw [w,e1,e2,zdc F [],hb,zas];have hlen:(encF (F++[p])).length=F.length*12+12:=by rw [zaf,List.length_append,List.length_singleton];omega
 have e3:([0,1,2,3,4,5,6,7,8,9,10,11]:List Int).length=12:=rfl;rw [hlen,e3];simp (disch:=omega) only [yS,eqB]
theorem stepC0 {pw:Int} {D:List Int}:RT (stOf (sC n pw [] D 0)) = .at (sD n pw [] D 0):=by
 rw [c_t];rfl
theorem loopC {pw:Int} {D:List Int} {T:List (Pm n)} (hn:n≤12) (hT:T=[]∨∃ F p,T=F++[p]∧p≠Pm.one n):∀ r:Nat,T.length+r≤6000→LeadsM Try.prog 1 (stOf (sC n pw (encF (T++List.replicate r (Pm.one n))) D (T.length+r))) (stOf (sD n pw (encF T) D T.length))
 | 0,hr=>by
  rw [List.replicate_zero,List.append_nil];rcases hT with rfl|⟨F,p,rfl,hp⟩
  ·exact leadsMZ ct_ok stepC0
  ·rw [List.length_append,List.length_singleton] at hr ⊢;exact leadsMZ ct_ok (stepC2 hn (by omega) hp)
 | r+1,hr=>by
  rw [List.replicate_succ',← List.append_assoc];have h:=stepC1 (pw:=pw) (F:=T++List.replicate r (Pm.one n)) (D:=D) hn (by rw [List.length_append,List.length_replicate];omega);rw [List.length_append,List.length_replicate] at h;exact (leadsMZ ct_ok h).trans (loopC hn hT r (by omega))
theorem stepD1 {pw:Int} {F:List (Pm n)} (hz:F.length≤6000) (h1:-100000≤pw) (h2:pw≤100000):RT (stOf (sD n pw (encF (Pm.del n::F)) (pA (Pm.del n)) (F.length+1))) = .at (sD n (pw+1) (encF F) (pA (Pm.del n)) F.length):=by
 rw [d_t];have e2:Nat.add (Nat.mul (Int.toNat 0) 12) 0=([]:List (Pm n)).length*12:=rfl;have e3:Int.toNat 1*12=[Pm.del n].length*12:=rfl;have e4:encF (Pm.del n::F)=encF ([]++Pm.del n::F):=rfl;have e5:encF (Pm.del n::F)=encF ([Pm.del n]++F):=rfl;have hlen:(encF (Pm.del n::F)).length=F.length*12+12:=by rw [zaf,List.length_cons];omega
 have d1:(encF (Pm.del n::F)).drop ([Pm.del n].length*12)=encF F:=by rw [e5];exact zfv _ _
 have t1:((encF (Pm.del n::F)).drop (([]:List (Pm n)).length*12)).take 12=pA (Pm.del n):=by rw [e4];exact zdc _ _ _
 rw [e2,e3,d1,t1,zas,hlen,za0.2 rfl];have e6:Int.toNat 1=1:=rfl;have e7:Int.toNat 0=0:=rfl;have e8:([]:List (Pm n)).length*12=0:=rfl;have m12:Nat.mul (F.length+1) 12=F.length*12+12:=by show (F.length+1)*12=_;omega
 rw [e6,e7,e8,Nat.add_sub_cancel,m12];simp (disch:=omega) only [yS,eqB]
noncomputable def K1 (n:Nat) (pw:Int) (F:List (Pm n)):List (Nat×EK):=PDel.K0 n pw (encF F) F.length true
theorem stepD2 {pw:Int} {F:List (Pm n)} (hn:n≤12) (hz:F.length≤6000) (hF:∀ p,p∈F→p≠Pm.del n):RT (stOf (sD n pw (encF F) (pA (Pm.del n)) F.length)) = .done (.tup []) (K1 n pw F) 2:=by
 rw [d_t]
 cases F with
 | nil=>rfl
 | cons p F=>
  have e2:Nat.add (Nat.mul (Int.toNat 0) 12) 0=([]:List (Pm n)).length*12:=rfl;have t1:((encF (p::F)).drop (([]:List (Pm n)).length*12)).take 12=pA p:=zdc [] F p;have hlen:(encF (p::F)).length=F.length*12+12:=by rw [zaf,List.length_cons];omega
  have hb:eqLI (pA p) (pA (Pm.del n))=false:=by
   cases h:eqLI (pA p) (pA (Pm.del n)) with
   | false=>rfl
   | true=>exact absurd (zk7 hn (za0.1 h)) (hF p List.mem_cons_self)
  rw [e2,t1,zas,zas,hlen,hb];have e7:Int.toNat 0=0:=rfl;have e8:([]:List (Pm n)).length*12=0:=rfl;rw [List.length_cons] at hz;rw [e7,e8,List.length_cons];simp (disch:=omega) only [yS,eqB];rfl
theorem loopD {F:List (Pm n)} (hn:n≤12) (hF:∀ p,p∈F→p≠Pm.del n):∀ (m:Nat) (pw:Int),F.length+m≤6000 → -90000≤pw→pw+m≤90000→EndM 1 117 ct (stOf (sD n pw (encF (List.replicate m (Pm.del n)++F)) (pA (Pm.del n)) (m+F.length))) (.tup []) (K1 n (pw+m) F) 2
 | 0,pw,h,h1,h2=>by
  rw [List.replicate_zero,List.nil_append,Nat.zero_add,show pw+((0:Nat):Int)=pw by omega];exact .done (stepD2 hn (by omega) hF)
 | m+1,pw,h,h1,h2=>by
  have h3:=stepD1 (pw:=pw) (F:=List.replicate m (Pm.del n)++F) (by rw [List.length_append,List.length_replicate];omega) (by omega) (by omega);rw [List.length_append,List.length_replicate,show m+F.length+1=m+1+F.length by omega] at h3;rw [List.replicate_succ,List.cons_append];have h4:=loopD hn hF m (pw+1) (by omega) (by omega) (by omega);rw [show pw+1+(m:Int)=pw+((m+1:Nat):Int) by omega] at h4;exact .at ct_ok h3 h4
theorem ends {pw:Int} {F:List (Pm n)} {p:Pm n} {nn:Bool} (hn2:2≤n) (hn:n≤12) (hN:Nrm F) (hz:F.length≤5000) (hnn:nn=true∨F=[]) (h1:-60000≤pw) (h2:pw≤60000):EndM 1 117 ct (st0m 117 [.ptr 0 0,.arr (.ints .u8 (pA p))] (PDel.K0 n pw (encF F) F.length nn) 2) (.tup []) (K1 n (pw+tmD F p) (tmF F p)) 2:=by
 have h:=in_t n pw (encF F) (pA p) F.length nn;have e1:encF F++pA p=encF (F++[p]):=by rw [zbx,zr6]
 rw [e1,zas,zaf,nn_ok] at h;have w:IntKind.i64.wrap (Int.ofNat (F.length+1)-1)=(F.length:Int):=by rw [ofn,zae _ (by omega) (by omega)];omega
 have m1:Nat.mul F.length 12=F.length*12:=rfl;have m2:Nat.mul 1 12=12:=rfl;rw [w,m1,m2] at h;simp (disch:=omega) only [yS] at h;obtain ⟨r,g1,g2,g3⟩:=tm_ok F p;have hl:=congrArg List.length g1
 rw [zs6,List.length_append,List.length_append,List.length_append,List.length_replicate,List.length_replicate,List.length_singleton] at hl;have hP:=loopA (pw:=pw) (len:=F.length+1) (by omega) hn (by omega) F.reverse p [] (by rw [List.length_reverse];rfl);rw [List.reverse_reverse,List.length_reverse,List.append_nil,← zt8 hN p,g1,← List.append_assoc] at hP;refine .at ct_ok h (.lead hP ?_);have hT:(List.replicate (tmD F p) (Pm.del n)++tmF F p=[])∨∃ G q,List.replicate (tmD F p) (Pm.del n)++tmF F p=G++[q]∧q≠Pm.one n:=by
  rcases List.eq_nil_or_concat (tmF F p) with e|⟨G,q,e⟩
  ·rw [e,List.append_nil]
   cases hd:tmD F p with
   | zero=>exact .inl rfl
   | succ k=>exact .inr ⟨_,_,List.replicate_succ',zs1 hn2⟩
  ·exact .inr ⟨List.replicate (tmD F p) (Pm.del n)++G,q,by rw [e,List.concat_eq_append,List.append_assoc],g2 q (by rw [e];simp)⟩
 have hC:=loopC (pw:=pw) (D:=pA (Pm.del n)) hn hT r (by rw [List.length_append,List.length_replicate];omega);have e2:(List.replicate (tmD F p) (Pm.del n)++tmF F p).length=tmD F p+(tmF F p).length:=by rw [List.length_append,List.length_replicate]
 rw [e2,show tmD F p+(tmF F p).length+r=F.length+1 by omega] at hC;exact .lead hC (loopD hn g3 (tmD F p) pw (by omega) (by omega) (by omega))
end PTim
def TimOk (n pw:Int) (L:List Int) (len:Nat) (nn:Bool) (e:List Int):Prop:=2≤n∧n≤12 ∧ -60000≤pw∧pw≤60000∧∃ (F:List (Pm n.toNat)) (p:Pm n.toNat),L=encF F∧e=pA p∧len=F.length∧len≤5000∧Nrm F∧(nn=true∨F=[])
noncomputable instance (n pw:Int) (L:List Int) (len:Nat) (nn:Bool) (e:List Int):Decidable (TimOk n pw L len nn e):=Classical.propDecidable _
noncomputable def timD (n:Int) (L e:List Int):Nat:=tmD (decF n.toNat L) (decP n.toNat e)
noncomputable def timF (n:Int) (L e:List Int):List (Pm n.toNat):=tmF (decF n.toNat L) (decP n.toNat e)
theorem zmb {n pw:Int} {L e:List Int} {len:Nat} {nn:Bool} (h:TimOk n pw L len nn e):EndM 1 117 PTim.ct (st0m 117 [.ptr 0 0,.arr (.ints .u8 e)] (PDel.K0 n pw L len nn) 2) (.tup []) (PDel.K0 n (pw+timD n L e) (encF (timF n L e)) (timF n L e).length true) 2:=by
 obtain ⟨h1,h2,h3,h4,F,p,rfl,rfl,rfl,h5,h6,h7⟩:=h;obtain ⟨n,rfl⟩:=Int.eq_ofNat_of_zero_le (show 0≤n by omega);have hn:n≤12:=by omega
 have e1:decF ((n:Int)).toNat (encF F)=F:=zco hn F;have e2:decP ((n:Int)).toNat (pA p)=p:=zd6 hn p;unfold timD timF;rw [e1,e2];exact PTim.ends (n:=n) (by omega) hn h6 h5 h7 h3 h4
noncomputable def spTim:ZMT:=fun ax K0 m=>match ax,K0 with
 | [.ptr 0 0,.arr (.ints .u8 e)],[(0,.cells 92 [.v (.int .i64 n),.v (.int .i64 pw),.slO 1 12 len nn] v_0),(1,.seq 95 (.ints .u8 L) v_1)]=>bc (Nat.beq m (2)) (some ⟨bc (eqN v_0 (true)) (bc (eqN v_1 (nn)) (decide (TimOk n pw L len nn e)) false) false,.tup [],PDel.K0 n (pw+timD n L e) (encF (timF n L e)) (timF n L e).length true,2,1⟩) none
 | _,_=>none
theorem zq2:ZMtOk Try.prog 117 spTim:=fun γ w0 w us ax K0 m r hs hc hres hax hH=>by
 unfold spTim at hs;split at hs
 case h_2=>cases hs
 rename_i e n pw len nn v_0 L v_1;obtain ⟨hm,rfl⟩:=noN hs;have hm:=Nat.eq_of_beq_eq_true hm;subst hm;have hc_0:bc (eqN v_0 (true)) (bc (eqN v_1 (nn)) (decide (TimOk n pw L len nn e)) false) false=true:=hc;obtain ⟨q_0,hc_1⟩:=bcT hc_0;have p_0:=(zde q_0).symm;subst p_0;obtain ⟨q_1,hc_2⟩:=bcT hc_1;have p_1:=(zde q_1).symm;subst p_1;have hc:=of_decide_eq_true hc_2;exact EndM.calls (zmb hc) PTim.ct_ok (by kernel_rfl) hres hax hH
end
section
namespace PNrm
noncomputable def ct:Tr ZCC:=(PTim.ct.put 115 (some (mC spTrn))).put 117 (some (mC spTim))
theorem ct_ok:ZCtsOk Try.prog ct:=(PTim.ct_ok.addM rfl zq1).addM rfl zq2
noncomputable def RN (s:ES):ZF:=RMs 0 66 ct [(atS 0 66 3,[[(5,some (12,95,.ints .u8 [])),(15,none),(16,none),(17,none)]])] [] [] s
noncomputable def sN (n:Int) (w:List Int) (pw:Int) (L:List Int) (len:Nat) (nn:Bool) (z i:Int):NS:=⟨[⟨66,58,[(5,(EV.ptr 0 0)),(15,(il w)),(16,iv z),(17,iv i)],[.it (.code (nav [1,1,0,1,0,0] (bodyOf Try.f66))),.it (.inLoop (nav [1,1,0,1,0,0] (bodyOf Try.f66))),.it (.inBlock 0),.it (.code (nav [1,1,1] (bodyOf Try.f66)))],[],Option.none⟩],[(0,EK.cells 92 [iv n,iv pw,.slO 1 12 len nn] true),(1,EK.seq 95 (.ints .u8 L) nn)],2⟩
theorem in_t (n:Int) (w:List Int):RN (st0m 66 [iv n,il w] [] 0)=(.at (sN (n) (w) ((0:Int)) ([]) ((0:Nat)) (false) (Int.ofNat (List.length w)) ((0:Int)))):=by kernel_rfl
theorem nil_t (n:Int):RMs 0 66 ct [] [] [(0,12,95,.ints .u8 [])] (st0m 66 [iv n,.v (.slice none 0 0)] [] 0)=(.done (EV.ptr 0 0) [(0,(EK.cells 92 [(EV.v (Value.int IntKind.i64 (n))),(EV.v (Value.int IntKind.i64 (0))),(EV.slO 1 12 0 false)] true)),(1,(EK.seq 95 (SyC.ints IntKind.u8 []) false))] 2):=by kernel_rfl
theorem step_t (n:Int) (w:List Int) (pw:Int) (L:List Int) (len:Nat) (nn:Bool) (z i:Int):RN (stOf (sN n w pw L len nn z i))=(bc (decide (i<z)) (bc (bc (bc (decide ((0:Int)≤i)) (Nat.blt (Int.toNat i) (List.length w)) false) true false) (bc (bc (Nat.blt (Int.toNat i) (List.length w)) true false) (bc (decide (List.getD w (Int.toNat i) (0:Int)<(0:Int))) (bc (bc (bc (eqN nn nn) (decide (FormOk n L len)) false) true false) (bc (bc (bc (eqN nn nn) (decide ((0:Int)≤n∧n≤(12:Int))) false) true false) (bc (bc (decide (In12 (pA (Pm.del (Int.toNat n))))) true false) (bc (bc (Nat.beq (List.length (invS (pA (Pm.del (Int.toNat n))) (12:Nat))) (12:Nat)) (Nat.beq (List.length e12) (12:Nat)) false) (bc (bc (bc (bc (bc (decide ((0:Int)≤IntKind.wrap IntKind.i64 ((0:Int)-List.getD w (Int.toNat i) (0:Int)))) (Nat.blt (Int.toNat (IntKind.wrap IntKind.i64 ((0:Int)-List.getD w (Int.toNat i) (0:Int)))) (12:Nat)) false) true false) (bc (bc (Nat.blt (Int.toNat (IntKind.wrap IntKind.i64 ((0:Int)-List.getD w (Int.toNat i) (0:Int)))) (List.length (invS (pA (Pm.del (Int.toNat n))) (12:Nat)))) true false) (bc (bc (bc (decide ((0:Int)≤IntKind.wrap IntKind.i64 (IntKind.wrap IntKind.i64 ((0:Int)-List.getD w (Int.toNat i) (0:Int))-(1:Int)))) (Nat.blt (Int.toNat (IntKind.wrap IntKind.i64 (IntKind.wrap IntKind.i64 ((0:Int)-List.getD w (Int.toNat i) (0:Int))-(1:Int)))) (12:Nat)) false) true false) (bc (bc (Nat.blt (Int.toNat (IntKind.wrap IntKind.i64 (IntKind.wrap IntKind.i64 ((0:Int)-List.getD w (Int.toNat i) (0:Int))-(1:Int)))) (List.length (invS (pA (Pm.del (Int.toNat n))) (12:Nat)))) true false) (bc (bc (bc (decide ((0:Int)≤IntKind.wrap IntKind.i64 (IntKind.wrap IntKind.i64 ((0:Int)-List.getD w (Int.toNat i) (0:Int))-(1:Int)))) (Nat.blt (Int.toNat (IntKind.wrap IntKind.i64 (IntKind.wrap IntKind.i64 ((0:Int)-List.getD w (Int.toNat i) (0:Int))-(1:Int)))) (12:Nat)) false) true false) (bc (Nat.blt (Int.toNat (IntKind.wrap IntKind.i64 (IntKind.wrap IntKind.i64 ((0:Int)-List.getD w (Int.toNat i) (0:Int))-(1:Int)))) (List.length (invS (pA (Pm.del (Int.toNat n))) (12:Nat)))) (bc (bc (bc (decide ((0:Int)≤IntKind.wrap IntKind.i64 ((0:Int)-List.getD w (Int.toNat i) (0:Int)))) (Nat.blt (Int.toNat (IntKind.wrap IntKind.i64 ((0:Int)-List.getD w (Int.toNat i) (0:Int)))) (12:Nat)) false) true false) (bc (Nat.blt (Int.toNat (IntKind.wrap IntKind.i64 ((0:Int)-List.getD w (Int.toNat i) (0:Int)))) (List.length (List.set (invS (pA (Pm.del (Int.toNat n))) (12:Nat)) (Int.toNat (IntKind.wrap IntKind.i64 (IntKind.wrap IntKind.i64 ((0:Int)-List.getD w (Int.toNat i) (0:Int))-(1:Int)))) (List.getD (invS (pA (Pm.del (Int.toNat n))) (12:Nat)) (Int.toNat (IntKind.wrap IntKind.i64 ((0:Int)-List.getD w (Int.toNat i) (0:Int)))) (0:Int))))) true false) false) false) false) false) false) false) false) true false) (bc (bc (decide (In12 (List.set (List.set (invS (pA (Pm.del (Int.toNat n))) (12:Nat)) (Int.toNat (IntKind.wrap IntKind.i64 (IntKind.wrap IntKind.i64 ((0:Int)-List.getD w (Int.toNat i) (0:Int))-(1:Int)))) (List.getD (invS (pA (Pm.del (Int.toNat n))) (12:Nat)) (Int.toNat (IntKind.wrap IntKind.i64 ((0:Int)-List.getD w (Int.toNat i) (0:Int)))) (0:Int))) (Int.toNat (IntKind.wrap IntKind.i64 ((0:Int)-List.getD w (Int.toNat i) (0:Int)))) (List.getD (invS (pA (Pm.del (Int.toNat n))) (12:Nat)) (Int.toNat (IntKind.wrap IntKind.i64 (IntKind.wrap IntKind.i64 ((0:Int)-List.getD w (Int.toNat i) (0:Int))-(1:Int)))) (0:Int))))) true false) (bc (bc (bc (eqN nn nn) (decide (TimOk n (IntKind.wrap IntKind.i64 (pw-(1:Int))) (PTrn.turL n L) len nn (invS (List.set (List.set (invS (pA (Pm.del (Int.toNat n))) (12:Nat)) (Int.toNat (IntKind.wrap IntKind.i64 (IntKind.wrap IntKind.i64 ((0:Int)-List.getD w (Int.toNat i) (0:Int))-(1:Int)))) (List.getD (invS (pA (Pm.del (Int.toNat n))) (12:Nat)) (Int.toNat (IntKind.wrap IntKind.i64 ((0:Int)-List.getD w (Int.toNat i) (0:Int)))) (0:Int))) (Int.toNat (IntKind.wrap IntKind.i64 ((0:Int)-List.getD w (Int.toNat i) (0:Int)))) (List.getD (invS (pA (Pm.del (Int.toNat n))) (12:Nat)) (Int.toNat (IntKind.wrap IntKind.i64 (IntKind.wrap IntKind.i64 ((0:Int)-List.getD w (Int.toNat i) (0:Int))-(1:Int)))) (0:Int))) (12:Nat)))) false) true false) (.at (sN (n) (w) (IntKind.wrap IntKind.i64 (pw-(1:Int))+(Nat.cast (timD n (PTrn.turL n L) (invS (List.set (List.set (invS (pA (Pm.del (Int.toNat n))) (12:Nat)) (Int.toNat (IntKind.wrap IntKind.i64 (IntKind.wrap IntKind.i64 ((0:Int)-List.getD w (Int.toNat i) (0:Int))-(1:Int)))) (List.getD (invS (pA (Pm.del (Int.toNat n))) (12:Nat)) (Int.toNat (IntKind.wrap IntKind.i64 ((0:Int)-List.getD w (Int.toNat i) (0:Int)))) (0:Int))) (Int.toNat (IntKind.wrap IntKind.i64 ((0:Int)-List.getD w (Int.toNat i) (0:Int)))) (List.getD (invS (pA (Pm.del (Int.toNat n))) (12:Nat)) (Int.toNat (IntKind.wrap IntKind.i64 (IntKind.wrap IntKind.i64 ((0:Int)-List.getD w (Int.toNat i) (0:Int))-(1:Int)))) (0:Int))) (12:Nat))):Int)) (encF (timF n (PTrn.turL n L) (invS (List.set (List.set (invS (pA (Pm.del (Int.toNat n))) (12:Nat)) (Int.toNat (IntKind.wrap IntKind.i64 (IntKind.wrap IntKind.i64 ((0:Int)-List.getD w (Int.toNat i) (0:Int))-(1:Int)))) (List.getD (invS (pA (Pm.del (Int.toNat n))) (12:Nat)) (Int.toNat (IntKind.wrap IntKind.i64 ((0:Int)-List.getD w (Int.toNat i) (0:Int)))) (0:Int))) (Int.toNat (IntKind.wrap IntKind.i64 ((0:Int)-List.getD w (Int.toNat i) (0:Int)))) (List.getD (invS (pA (Pm.del (Int.toNat n))) (12:Nat)) (Int.toNat (IntKind.wrap IntKind.i64 (IntKind.wrap IntKind.i64 ((0:Int)-List.getD w (Int.toNat i) (0:Int))-(1:Int)))) (0:Int))) (12:Nat)))) (List.length (timF n (PTrn.turL n L) (invS (List.set (List.set (invS (pA (Pm.del (Int.toNat n))) (12:Nat)) (Int.toNat (IntKind.wrap IntKind.i64 (IntKind.wrap IntKind.i64 ((0:Int)-List.getD w (Int.toNat i) (0:Int))-(1:Int)))) (List.getD (invS (pA (Pm.del (Int.toNat n))) (12:Nat)) (Int.toNat (IntKind.wrap IntKind.i64 ((0:Int)-List.getD w (Int.toNat i) (0:Int)))) (0:Int))) (Int.toNat (IntKind.wrap IntKind.i64 ((0:Int)-List.getD w (Int.toNat i) (0:Int)))) (List.getD (invS (pA (Pm.del (Int.toNat n))) (12:Nat)) (Int.toNat (IntKind.wrap IntKind.i64 (IntKind.wrap IntKind.i64 ((0:Int)-List.getD w (Int.toNat i) (0:Int))-(1:Int)))) (0:Int))) (12:Nat)))) (true) (z) (IntKind.wrap IntKind.i64 (i+(1:Int))))) .bad) .bad) .bad) .bad) .bad) .bad) .bad) (bc (bc (bc (bc (bc (decide ((0:Int)≤List.getD w (Int.toNat i) (0:Int))) (Nat.blt (Int.toNat (List.getD w (Int.toNat i) (0:Int))) (12:Nat)) false) true false) (bc (bc (Nat.blt (Int.toNat (List.getD w (Int.toNat i) (0:Int))) (List.length e12)) true false) (bc (bc (bc (decide ((0:Int)≤IntKind.wrap IntKind.i64 (List.getD w (Int.toNat i) (0:Int)-(1:Int)))) (Nat.blt (Int.toNat (IntKind.wrap IntKind.i64 (List.getD w (Int.toNat i) (0:Int)-(1:Int)))) (12:Nat)) false) true false) (bc (bc (Nat.blt (Int.toNat (IntKind.wrap IntKind.i64 (List.getD w (Int.toNat i) (0:Int)-(1:Int)))) (List.length e12)) true false) (bc (bc (bc (decide ((0:Int)≤IntKind.wrap IntKind.i64 (List.getD w (Int.toNat i) (0:Int)-(1:Int)))) (Nat.blt (Int.toNat (IntKind.wrap IntKind.i64 (List.getD w (Int.toNat i) (0:Int)-(1:Int)))) (12:Nat)) false) true false) (bc (Nat.blt (Int.toNat (IntKind.wrap IntKind.i64 (List.getD w (Int.toNat i) (0:Int)-(1:Int)))) (List.length e12)) (bc (bc (bc (decide ((0:Int)≤List.getD w (Int.toNat i) (0:Int))) (Nat.blt (Int.toNat (List.getD w (Int.toNat i) (0:Int))) (12:Nat)) false) true false) (bc (Nat.blt (Int.toNat (List.getD w (Int.toNat i) (0:Int))) (List.length (List.set e12 (Int.toNat (IntKind.wrap IntKind.i64 (List.getD w (Int.toNat i) (0:Int)-(1:Int)))) (List.getD e12 (Int.toNat (List.getD w (Int.toNat i) (0:Int))) (0:Int))))) true false) false) false) false) false) false) false) false) true false) (bc (bc (decide (In12 (List.set (List.set e12 (Int.toNat (IntKind.wrap IntKind.i64 (List.getD w (Int.toNat i) (0:Int)-(1:Int)))) (List.getD e12 (Int.toNat (List.getD w (Int.toNat i) (0:Int))) (0:Int))) (Int.toNat (List.getD w (Int.toNat i) (0:Int))) (List.getD e12 (Int.toNat (IntKind.wrap IntKind.i64 (List.getD w (Int.toNat i) (0:Int)-(1:Int)))) (0:Int))))) true false) (bc (bc (bc (eqN nn nn) (decide (TimOk n pw L len nn (invS (List.set (List.set e12 (Int.toNat (IntKind.wrap IntKind.i64 (List.getD w (Int.toNat i) (0:Int)-(1:Int)))) (List.getD e12 (Int.toNat (List.getD w (Int.toNat i) (0:Int))) (0:Int))) (Int.toNat (List.getD w (Int.toNat i) (0:Int))) (List.getD e12 (Int.toNat (IntKind.wrap IntKind.i64 (List.getD w (Int.toNat i) (0:Int)-(1:Int)))) (0:Int))) (12:Nat)))) false) true false) (.at (sN (n) (w) (pw+(Nat.cast (timD n L (invS (List.set (List.set e12 (Int.toNat (IntKind.wrap IntKind.i64 (List.getD w (Int.toNat i) (0:Int)-(1:Int)))) (List.getD e12 (Int.toNat (List.getD w (Int.toNat i) (0:Int))) (0:Int))) (Int.toNat (List.getD w (Int.toNat i) (0:Int))) (List.getD e12 (Int.toNat (IntKind.wrap IntKind.i64 (List.getD w (Int.toNat i) (0:Int)-(1:Int)))) (0:Int))) (12:Nat))):Int)) (encF (timF n L (invS (List.set (List.set e12 (Int.toNat (IntKind.wrap IntKind.i64 (List.getD w (Int.toNat i) (0:Int)-(1:Int)))) (List.getD e12 (Int.toNat (List.getD w (Int.toNat i) (0:Int))) (0:Int))) (Int.toNat (List.getD w (Int.toNat i) (0:Int))) (List.getD e12 (Int.toNat (IntKind.wrap IntKind.i64 (List.getD w (Int.toNat i) (0:Int)-(1:Int)))) (0:Int))) (12:Nat)))) (List.length (timF n L (invS (List.set (List.set e12 (Int.toNat (IntKind.wrap IntKind.i64 (List.getD w (Int.toNat i) (0:Int)-(1:Int)))) (List.getD e12 (Int.toNat (List.getD w (Int.toNat i) (0:Int))) (0:Int))) (Int.toNat (List.getD w (Int.toNat i) (0:Int))) (List.getD e12 (Int.toNat (IntKind.wrap IntKind.i64 (List.getD w (Int.toNat i) (0:Int)-(1:Int)))) (0:Int))) (12:Nat)))) (true) (z) (IntKind.wrap IntKind.i64 (i+(1:Int))))) .bad) .bad) .bad)) .bad) .bad) (.done (EV.ptr 0 0) [(0,(EK.cells 92 [(EV.v (Value.int IntKind.i64 (n))),(EV.v (Value.int IntKind.i64 (pw))),(EV.slO 1 12 (len) (nn))] true)),(1,(EK.seq 95 (SyC.ints IntKind.u8 (L)) (nn)))] 2)):=by kernel_rfl
variable {n:Nat}
theorem zro (hn:n≤12) {k:Nat} (hk:0<k∧k<n):invS (((pA (Pm.one n)).set (k-1) ((Pm.one n).f k:Int)).set k ((Pm.one n).f (k-1):Int)) 12=pA (ltr k hk):=by
 rw [pA_L _ hk hn,zfj hn];exact zjf fun _ _=>rfl
theorem zrp (hn:n≤12) {k:Nat} (hk:0<k∧k<n):invS (((pA (Pm.del n).inv).set (k-1) ((Pm.del n).inv.f k:Int)).set k ((Pm.del n).inv.f (k-1):Int)) 12=pA (ctr k hk):=by
 rw [pA_L _ hk hn,zfj hn];exact zjf fun _ _=>rfl
theorem zsw (hn:n≤12) (p:Pm n) {k:Nat} (hk:0<k∧k<n):In12 (((pA p).set (k-1) (p.f k:Int)).set k (p.f (k-1):Int)):=by
 rw [pA_L _ hk hn];exact In12.pA hn _
theorem stepP {w:List Int} {s:Frm n} {nn:Bool} {z:Int} {i k:Nat} (hn:n≤12) (hk:0<k∧k<n) (hi:i<w.length) (hz:z=w.length) (hw:w.length≤2000) (hx:w.getD i 0=(k:Int)) (hN:Nrm s.F) (hl:s.F.length≤2000) (h1:-2000≤s.pw) (h2:s.pw≤2000) (hnn:nn=true∨s.F=[]):RN (stOf (sN n w s.pw (encF s.F) s.F.length nn z i)) = .at (sN n w (s.tim (ltr k hk)).pw (encF (s.tim (ltr k hk)).F) (s.tim (ltr k hk)).F.length true z (i+1:Nat)):=by
 obtain ⟨j,rfl⟩:∃ j,k=j+1:=⟨k-1,by omega⟩;rw [step_t,dt (show (i:Int)<z by omega),bc_t];have e0:((i:Int)).toNat=i:=rfl;rw [e0,hx,df (show ¬ ((j+1:Nat):Int)<0 by omega),bc_f];have w1:IntKind.i64.wrap (((j+1:Nat):Int)-1)=(j:Int):=by rw [zae _ (by omega) (by omega)];omega
 have e1:((j:Int)).toNat=j:=rfl;have e2:(((j+1:Nat):Int)).toNat=j+1:=rfl;rw [w1,e1,e2,zj6 n,zbj (Pm.one n) (show j+1<12 by omega),zbj (Pm.one n) (show j<12 by omega)];have g1:=zro hn hk;have g2:=zsw hn (Pm.one n) hk;rw [show j+1-1=j by omega] at g1 g2;rw [g1,dt g2,List.length_set,zas];have g3:TimOk n s.pw (encF s.F) s.F.length nn (pA (ltr (j+1) hk)):=⟨by omega,by omega,by omega,by omega,s.F,ltr (j+1) hk,rfl,rfl,rfl,by omega,hN,hnn⟩
 have g4:timD n (encF s.F) (pA (ltr (j+1) hk))=tmD s.F (ltr (j+1) hk):=by
  unfold timD;have e1:decF ((n:Int)).toNat (encF s.F)=s.F:=zco hn s.F;have e2:decP ((n:Int)).toNat (pA (ltr (j+1) hk))=ltr (j+1) hk:=zd6 hn _;rw [e1,e2]
 have g5:timF n (encF s.F) (pA (ltr (j+1) hk))=tmF s.F (ltr (j+1) hk):=by
  unfold timF;have e1:decF ((n:Int)).toNat (encF s.F)=s.F:=zco hn s.F;have e2:decP ((n:Int)).toNat (pA (ltr (j+1) hk))=ltr (j+1) hk:=zd6 hn _;rw [e1,e2]
 rw [dt g3,g4,g5];simp (disch:=omega) only [yS];rfl
theorem stepM {w:List Int} {s:Frm n} {nn:Bool} {z:Int} {i k:Nat} (hn:n≤12) (hk:0<k∧k<n) (hi:i<w.length) (hz:z=w.length) (hw:w.length≤2000) (hx:w.getD i 0 = -(k:Int)) (hN:Nrm s.F) (hl:s.F.length≤2000) (h1:-2000≤s.pw) (h2:s.pw≤2000) (hnn:nn=true∨s.F=[]):RN (stOf (sN n w s.pw (encF s.F) s.F.length nn z i)) = .at (sN n w ((⟨s.pw-1,s.F.map Pm.trn⟩:Frm n).tim (ctr k hk)).pw (encF ((⟨s.pw-1,s.F.map Pm.trn⟩:Frm n).tim (ctr k hk)).F) ((⟨s.pw-1,s.F.map Pm.trn⟩:Frm n).tim (ctr k hk)).F.length true z (i+1:Nat)):=by
 obtain ⟨j,rfl⟩:∃ j,k=j+1:=⟨k-1,by omega⟩;rw [step_t,dt (show (i:Int)<z by omega),bc_t];have e0:((i:Int)).toNat=i:=rfl;rw [e0,hx,dt (show -((j+1:Nat):Int)<0 by omega),bc_t];have w0:IntKind.i64.wrap (0 - -((j+1:Nat):Int))=((j+1:Nat):Int):=by rw [zae _ (by omega) (by omega)];omega
 have w1:IntKind.i64.wrap (((j+1:Nat):Int)-1)=(j:Int):=by rw [zae _ (by omega) (by omega)];omega
 have w2:IntKind.i64.wrap (s.pw-1)=s.pw-1:=zae _ (by omega) (by omega);have e1:((j:Int)).toNat=j:=rfl;have e2:(((j+1:Nat):Int)).toNat=j+1:=rfl;have e3:invS (pA (Pm.del ((n:Int)).toNat)) 12=pA (Pm.del n).inv:=zfj hn (Pm.del n);rw [w0,w1,w2,e1,e2,e3,zbj (Pm.del n).inv (show j+1<12 by omega),zbj (Pm.del n).inv (show j<12 by omega)];have g1:=zrp hn hk;have g2:=zsw hn (Pm.del n).inv hk;have g0:In12 (pA (Pm.del ((n:Int)).toNat)):=In12.pA hn (Pm.del n);rw [show j+1-1=j by omega] at g1 g2
 rw [g1,dt g2,List.length_set,zas,dt g0];have g6:FormOk n (encF s.F) s.F.length:=formOk hn (by omega);have g7:PTrn.turL n (encF s.F)=encF (s.F.map Pm.trn):=by
  unfold PTrn.turL;have e1:decF ((n:Int)).toNat (encF s.F)=s.F:=zco hn s.F;rw [e1]
 rw [dt g6,g7];have g3:TimOk n (s.pw-1) (encF (s.F.map Pm.trn)) s.F.length nn (pA (ctr (j+1) hk)):=⟨by omega,by omega,by omega,by omega,s.F.map Pm.trn,ctr (j+1) hk,rfl,rfl,(by rw [List.length_map]),by omega,hN.trn,hnn.imp id fun e=>by rw [e];rfl⟩;have g4:timD n (encF (s.F.map Pm.trn)) (pA (ctr (j+1) hk))=tmD (s.F.map Pm.trn) (ctr (j+1) hk):=by
  unfold timD;have e1:decF ((n:Int)).toNat (encF (s.F.map Pm.trn))=s.F.map Pm.trn:=zco hn _;have e2:decP ((n:Int)).toNat (pA (ctr (j+1) hk))=ctr (j+1) hk:=zd6 hn _;rw [e1,e2]
 have g5:timF n (encF (s.F.map Pm.trn)) (pA (ctr (j+1) hk))=tmF (s.F.map Pm.trn) (ctr (j+1) hk):=by
  unfold timF;have e1:decF ((n:Int)).toNat (encF (s.F.map Pm.trn))=s.F.map Pm.trn:=zco hn _;have e2:decP ((n:Int)).toNat (pA (ctr (j+1) hk))=ctr (j+1) hk:=zd6 hn _;rw [e1,e2]
 rw [dt g3,g4,g5];have n12:(12:Nat)=12:=rfl;have g8:0≤(n:Int)∧(n:Int)≤12:=⟨by omega,by omega⟩;have n2:bc nn true false=nn:=bc_b nn;simp (disch:=omega) only [yS,n2];rfl
theorem last {w:List Int} {s:Frm n} {nn:Bool} {z:Int} {i:Nat} (hi:z≤i):RN (stOf (sN n w s.pw (encF s.F) s.F.length nn z i)) = .done (.ptr 0 0) (PDel.K0 n s.pw (encF s.F) s.F.length nn) 2:=by
 rw [step_t,df (show ¬ (i:Int)<z by omega)];rfl
theorem loop {w:List Int} (hn:n≤12) (hw:w.length≤2000) (hv:Vld n w):∀ (k i:Nat) (s:Frm n) (nn:Bool),i+k=w.length→Nrm s.F→s.pw+(s.F.length:Int)≤i → -(i:Int)≤s.pw→s.F.length≤i→(nn=true∨s.F=[]) →
  EndM 0 66 ct (stOf (sN n w s.pw (encF s.F) s.F.length nn w.length i)) (.ptr 0 0) (PDel.K0 n ((w.drop i).foldl Frm.step s).pw (encF ((w.drop i).foldl Frm.step s).F) ((w.drop i).foldl Frm.step s).F.length (bc nn true (Nat.blt 0 k))) 2
 | 0,i,s,nn,h,h1,h2,h3,h4,h5=>by
  rw [List.drop_eq_nil_of_le (by omega),show bc nn true (Nat.blt 0 0)=nn by cases nn <;> rfl];exact .done (last (by omega))
 | k+1,i,s,nn,h,h1,h2,h3,h4,h5=>by
  have hi:i<w.length:=by omega
  rw [List.drop_eq_getElem_cons hi,List.foldl_cons,show bc nn true (Nat.blt 0 (k+1))=bc true true (Nat.blt 0 k) by cases nn <;> rfl];obtain ⟨v1,v2,v3⟩:=hv _ (List.getElem_mem hi);have hg:w.getD i 0=w[i]:=zav hi;generalize w[i]=x at *;rcases Int.lt_or_lt_of_ne v1 with hx|hx
  ·obtain ⟨q,hq⟩:=Int.eq_ofNat_of_zero_le (show 0 ≤ -x by omega);have hq:x = -(q:Int):=by omega
   subst hq;have hk:0<q∧q<n:=by omega
   have hs:=stepM (w:=w) (s:=s) (nn:=nn) (z:=w.length) hn hk hi rfl hw hg h1 (by omega) (by omega) (by omega) h5;rw [zqv s hk];have q1:=znn (⟨s.pw-1,s.F.map Pm.trn⟩:Frm n) (ctr q hk);have q2:=zkr (⟨s.pw-1,s.F.map Pm.trn⟩:Frm n) (ctr q hk);have q3:=zgn (⟨s.pw-1,s.F.map Pm.trn⟩:Frm n) (ctr q hk);simp only [List.length_map] at q1 q2 q3;exact .at ct_ok hs (loop hn hw hv k (i+1) _ true (by omega) (zno _ _) (by omega) (by omega) (by omega) (.inl rfl))
  ·obtain ⟨q,rfl⟩:=Int.eq_ofNat_of_zero_le (show 0≤x by omega);have hk:0<q∧q<n:=by omega
   have hs:=stepP (w:=w) (s:=s) (nn:=nn) (z:=w.length) hn hk hi rfl hw hg h1 (by omega) (by omega) (by omega) h5;rw [zqu s hk];have q1:=znn s (ltr q hk);have q2:=zkr s (ltr q hk);have q3:=zgn s (ltr q hk);exact .at ct_ok hs (loop hn hw hv k (i+1) _ true (by omega) (zno _ _) (by omega) (by omega) (by omega) (.inl rfl))
theorem ends {w:List Int} (hn:n≤12) (hw:w.length≤2000) (hv:Vld n w):EndM 0 66 ct (st0m 66 [iv n,il w] [] 0) (.ptr 0 0) (PDel.K0 n (nfW n w).pw (encF (nfW n w).F) (nfW n w).F.length (Nat.blt 0 w.length)) 2:=by
 refine .at ct_ok (in_t n w) ?_;have:=loop hn hw hv w.length 0 ⟨0,[]⟩ false (by omega) zjh (by simp) (by simp) (Nat.zero_le _) (.inr rfl);rw [List.drop_zero] at this;exact this
end PNrm
def WOk (n:Int) (w:List Int):Prop:=1≤n∧n≤12∧w.length≤2000∧Vld n.toNat w
noncomputable instance (n:Int) (w:List Int):Decidable (WOk n w):=Classical.propDecidable _
theorem zqp {n:Int} {w:List Int} (h:WOk n w):EndM 0 66 PNrm.ct (st0m 66 [iv n,il w] [] 0) (.ptr 0 0) (PDel.K0 n (nfW n.toNat w).pw (encF (nfW n.toNat w).F) (nfW n.toNat w).F.length (Nat.blt 0 w.length)) 2:=by
 obtain ⟨h1,h2,h3,h4⟩:=h;obtain ⟨n,rfl⟩:=Int.eq_ofNat_of_zero_le (show 0≤n by omega);exact PNrm.ends (by omega) h3 h4
noncomputable def spNrm_0:ZMT:=fun ax K0 m=>match ax,K0 with
 | [.v (.int .i64 n),.lst (.ints .i64 w)],[]=>bc (Nat.beq m (0)) (some ⟨decide (WOk n w),.ptr 0 0,PDel.K0 n (nfW n.toNat w).pw (encF (nfW n.toNat w).F) (nfW n.toNat w).F.length (Nat.blt 0 w.length),2,0⟩) none
 | _,_=>none
theorem zmg:ZMtOk Try.prog 66 spNrm_0:=fun γ w0 w us ax K0 m r hs hc hres hax hH=>by
 unfold spNrm_0 at hs;split at hs
 case h_2=>cases hs
 rename_i n w;obtain ⟨hm,rfl⟩:=noN hs;have hm:=Nat.eq_of_beq_eq_true hm;subst hm;have hc_0:decide (WOk n w)=true:=hc;have hc:=of_decide_eq_true hc_0;exact EndM.calls (zqp hc) PNrm.ct_ok (by kernel_rfl) hres hax hH
noncomputable def spNrm_1:ZMT:=fun ax K0 m=>match ax,K0 with
 | [.v (.int .i64 n),.v (.slice none 0 0)],[]=>bc (Nat.beq m (0)) (some ⟨decide (True),.ptr 0 0,PDel.K0 n 0 (zerosL 0) 0 false,2,0⟩) none
 | _,_=>none
theorem zmf:ZMtOk Try.prog 66 spNrm_1:=fun γ w0 w us ax K0 m r hs hc hres hax hH=>by
 unfold spNrm_1 at hs;split at hs
 case h_2=>cases hs
 rename_i n;obtain ⟨hm,rfl⟩:=noN hs;have hm:=Nat.eq_of_beq_eq_true hm;subst hm;have hc_0:decide (True)=true:=hc;have hc:=of_decide_eq_true hc_0;exact EndM.calls (.done (PNrm.nil_t n)) PNrm.ct_ok (by kernel_rfl) hres hax hH
noncomputable def spNrm:ZMT:=ZMT.or spNrm_0 (spNrm_1)
theorem zq4:ZMtOk Try.prog 66 spNrm:=zmg.or (zmf)
end
noncomputable def badL (n x:Int):Bool:=bc (x==0) true (bc (decide (x≤IntKind.i64.wrap (0-n))) true (decide (n≤x)))
noncomputable def chk (n:Int) (l:List Int):Int:=bc (decide (n<1)) 2 (bc (decide (12<n)) 2 (bc (decide (400<Int.ofNat l.length)) 3 (bc (l.any (badL n)) 7 0)))
theorem zpw {f:FuncId} {s:ES} (n:Int) (h:RZ f .nil (fun _=>false) [] [] false s=bc (decide (n<1)) (.done (iv 2) [] 0) (bc (decide (12<n)) (.done (iv 2) [] 0) (.done (iv 0) [] 0))):EndZ f .nil false s (iv (chk n [])) [] 0:=by
 unfold chk
 by_cases h1:n<1
 ·rw [dt h1,bc_t] at h ⊢;exact .done h
 by_cases h2:12<n
 ·rw [df h1,dt h2,bc_f,bc_t] at h ⊢;exact .done h
 ·rw [df h1,df h2,bc_f,bc_f] at h ⊢;exact .done h
namespace RChk
noncomputable def RUN (s:ES):ZF:=RZ 45 .nil (atS 0 45 6) [] [[(0,none),(1,none),(5,none)]] false s
noncomputable def sL (n:Int) (l:List Int) (i:Int):NS:=⟨[⟨45,43,[(0,(iv n)),(1,(il l)),(5,iv i)],[.it (.code (nav [1,1,1,0,1,0,0,0] (bodyOf Try.f45))),.it (.code (nav [1,1,1,0,1,0,0,1] (bodyOf Try.f45))),.it (.inLoop (nav [1,1,1,0,1,0,0] (bodyOf Try.f45))),.it (.inBlock 0),.it (.code (nav [1,1,1,1] (bodyOf Try.f45)))],[],Option.none⟩],[],0⟩
theorem in_t (n:Int) (l:List Int):RUN (st0 45 [iv n,il l])=(bc (decide (n<1)) (.done (iv (2)) [] 0) (bc (decide (12<n)) (.done (iv (2)) [] 0) (bc (decide (400<Int.ofNat l.length)) (.done (iv (3)) [] 0) (.at (sL n l 0))))):=by kernel_rfl
theorem nil_t (n:Int):RZ 45 .nil (fun _=>false) [] [] false (st0 45 [iv n,.v (.slice none 0 0)])=(bc (decide (n<(1:Int))) (.done (EV.v (Value.int IntKind.i64 (2))) [] 0) (bc (decide ((12:Int)<n)) (.done (EV.v (Value.int IntKind.i64 (2))) [] 0) (.done (EV.v (Value.int IntKind.i64 (0))) [] 0))):=by kernel_rfl
theorem step_t (n:Int) (l:List Int) (i:Int):RUN (stOf (sL n l i))=(bc (decide (i<Int.ofNat l.length)) (bc (bc (bc (decide (0≤i)) (Nat.blt i.toNat l.length) false) true false) (bc (bc (Nat.blt i.toNat l.length) true false) (bc (l.getD i.toNat 0==0) (.done (iv (7)) [] 0) (bc (bc (bc (decide (0≤i)) (Nat.blt i.toNat l.length) false) true false) (bc (bc (Nat.blt i.toNat l.length) true false) (bc (decide (l.getD i.toNat 0≤IntKind.i64.wrap ((0:Int)-n))) (.done (iv (7)) [] 0) (bc (bc (bc (decide (0≤i)) (Nat.blt i.toNat l.length) false) true false) (bc (bc (Nat.blt i.toNat l.length) true false) (bc (decide (n≤l.getD i.toNat 0)) (.done (iv (7)) [] 0) (.at (sL n l (IntKind.i64.wrap (i+1))))) .bad) .bad)) .bad) .bad)) .bad) .bad) (.done (iv (0)) [] 0)):=by kernel_rfl
theorem step {n:Int} {l:List Int} {i:Nat} (hi:i<l.length) (hl:l.length≤400):RUN (stOf (sL n l i))=bc (badL n l[i]) (.done (iv 7) [] 0) (.at (sL n l (i+1:Nat))):=by
 rw [step_t];have e:l.getD i 0=l[i]:=zav hi;simp (disch:=omega) only [yS,e];unfold badL;cases (l[i]==0) <;> cases decide (l[i]≤IntKind.i64.wrap (0-n)) <;> cases decide (n≤l[i]) <;> rfl
theorem last {n:Int} {l:List Int} {i:Nat} (hi:l.length≤i):RUN (stOf (sL n l i)) = .done (iv 0) [] 0:=by
 rw [step_t];simp (disch:=omega) only [yS]
theorem loop {n:Int} {l:List Int} (hl:l.length≤400):∀ (k i:Nat),i+k=l.length→EndZ 45 .nil false (stOf (sL n l i)) (iv (bc ((l.drop i).any (badL n)) 7 0)) [] 0
 | 0,i,h=>by
  rw [List.drop_eq_nil_of_le (by omega)];exact .done (last (by omega))
 | k+1,i,h=>by
  have hi:i<l.length:=by omega
  have hs:=step (n:=n) hi hl;rw [List.drop_eq_getElem_cons hi,List.any_cons];cases hb:badL n l[i] <;> rw [hb] at hs
  ·exact .at (.nil _) hs (loop hl k (i+1) (by omega))
  ·exact .done hs
theorem ends (n:Int) (l:List Int):EndZ 45 .nil false (st0 45 [iv n,il l]) (iv (chk n l)) [] 0:=by
 have h:=in_t n l;unfold chk
 by_cases h1:n<1
 ·simp only [yS,dt h1] at h ⊢;exact .done h
 by_cases h2:12<n
 ·simp only [yS,df h1,dt h2] at h ⊢;exact .done h
 by_cases h3:400<(l.length:Int)
 ·simp only [yS,df h1,df h2,dt h3] at h ⊢;exact .done h
 ·simp only [yS,df h1,df h2,df h3] at h ⊢;exact .at (.nil _) h (loop (by omega) l.length 0 (by omega))
end RChk
noncomputable def spRChk_0:ZCT:=fun ax=>match ax with
 | [.v (.int .i64 n),.lst (.ints .i64 l)]=>some ⟨decide True,iv (chk n l),[],0⟩
 | _=>none
theorem zi3:ZCtOk Try.prog 45 spRChk_0:=fun γ w us ax r hs hc hax hN hfz=>by
 unfold spRChk_0 at hs;split at hs
 case h_2=>cases hs
 rename_i n l;obtain ⟨rfl⟩:=Option.some.inj hs;have hc_0:decide True=true:=hc;have hc:=of_decide_eq_true hc_0;exact EndZ.calls (RChk.ends n l) (.nil _) (by kernel_rfl) hax hN hfz
noncomputable def spRChk_1:ZCT:=fun ax=>match ax with
 | [.v (.int .i64 n),.v (.slice none 0 0)]=>some ⟨decide True,iv (chk n []),[],0⟩
 | _=>none
theorem zi2:ZCtOk Try.prog 45 spRChk_1:=fun γ w us ax r hs hc hax hN hfz=>by
 unfold spRChk_1 at hs;split at hs
 case h_2=>cases hs
 rename_i n;obtain ⟨rfl⟩:=Option.some.inj hs;have hc_0:decide True=true:=hc;have hc:=of_decide_eq_true hc_0;exact EndZ.calls (zpw n (RChk.nil_t n)) (.nil _) (by kernel_rfl) hax hN hfz
noncomputable def spRChk:ZCT:=ZCT.or spRChk_0 spRChk_1
theorem znx:ZCtOk Try.prog 45 spRChk:=zi3.or zi2
namespace PChk
noncomputable def RUN (s:ES):ZF:=RZs 65 .nil [(atS 2 126 2,[[(0,none),(1,none),(7,none),(8,none)],[],[]])] [] false s
noncomputable def sL (n:Int) (l:List Int) (z i:Int):NS:=⟨[⟨126,19,[(0,(il l)),(1,(EV.fn 112 [(EV.ptr 0 0)])),(7,iv z),(8,iv i)],[.it (.code (nav [1,0,1,0,0] (bodyOf Try.f126))),.it (.inLoop (nav [1,0,1,0,0] (bodyOf Try.f126))),.it (.inBlock 0),.it (.code (nav [1,1] (bodyOf Try.f126)))],[],Option.none⟩,⟨111,9,[],[.ops (opsOf (nav [1,0] (bodyOf Try.f111))) ((opsOf (nav [1,0] (bodyOf Try.f111))).toList.drop 2),.it (.code (nav [1,1] (bodyOf Try.f111)))],[],Option.none⟩,⟨65,20,[],[.ops (opsOf (nav [1,0,0,1,1,1,1,0] (bodyOf Try.f65))) ((opsOf (nav [1,0,0,1,1,1,1,0] (bodyOf Try.f65))).toList.drop 2),.it (.code (nav [1,0,0,1,1,1,1,1] (bodyOf Try.f65))),.it (.inBlock 0),.it (.code (nav [1,1] (bodyOf Try.f65)))],[],Option.none⟩],[(0,(EK.cells 3 [(iv n)] true))],1⟩
theorem in_t (n:Int) (l:List Int):RUN (st0 65 [iv n,il l])=(bc (decide (n<1)) (.done (iv (2)) [] 0) (bc (decide (12<n)) (.done (iv (2)) [] 0) (bc (decide (400<Int.ofNat l.length)) (.done (iv (3)) [] 0) (.at (sL n l (Int.ofNat l.length) 0))))):=by kernel_rfl
theorem nil_t (n:Int):RZ 65 .nil (fun _=>false) [] [] false (st0 65 [iv n,.v (.slice none 0 0)])=(bc (decide (n<(1:Int))) (.done (EV.v (Value.int IntKind.i64 (2))) [] 0) (bc (decide ((12:Int)<n)) (.done (EV.v (Value.int IntKind.i64 (2))) [] 0) (.done (EV.v (Value.int IntKind.i64 (0))) [] 0))):=by kernel_rfl
theorem step_t (n:Int) (l:List Int) (z i:Int):RUN (stOf (sL n l z i))=(bc (decide (i<z)) (bc (bc (bc (decide (0≤i)) (Nat.blt i.toNat l.length) false) true false) (bc (bc (Nat.blt i.toNat l.length) true false) (bc (l.getD i.toNat 0==0) (bc (decide (0≤i)) (.done (iv (7)) [] 0) (.done (iv (0)) [] 0)) (bc (decide (l.getD i.toNat 0≤IntKind.i64.wrap ((0:Int)-n))) (bc (decide (0≤i)) (.done (iv (7)) [] 0) (.done (iv (0)) [] 0)) (bc (decide (n≤l.getD i.toNat 0)) (bc (decide (0≤i)) (.done (iv (7)) [] 0) (.done (iv (0)) [] 0)) (.at (sL n l z (IntKind.i64.wrap (i+1))))))) .bad) .bad) (.done (iv (0)) [] 0)):=by kernel_rfl
theorem step {n:Int} {l:List Int} {i:Nat} (hi:i<l.length) (hl:l.length≤400):RUN (stOf (sL n l l.length i))=bc (badL n l[i]) (.done (iv 7) [] 0) (.at (sL n l l.length (i+1:Nat))):=by
 rw [step_t];have e:l.getD i 0=l[i]:=zav hi;simp (disch:=omega) only [yS,e];unfold badL;cases (l[i]==0) <;> cases decide (l[i]≤IntKind.i64.wrap (0-n)) <;> cases decide (n≤l[i]) <;> rfl
theorem last {n:Int} {l:List Int} {i:Nat} (hi:l.length≤i):RUN (stOf (sL n l l.length i)) = .done (iv 0) [] 0:=by
 rw [step_t];simp (disch:=omega) only [yS]
theorem loop {n:Int} {l:List Int} (hl:l.length≤400):∀ (k i:Nat),i+k=l.length→EndZ 65 .nil false (stOf (sL n l l.length i)) (iv (bc ((l.drop i).any (badL n)) 7 0)) [] 0
 | 0,i,h=>by
  rw [List.drop_eq_nil_of_le (by omega)];exact .done (last (by omega))
 | k+1,i,h=>by
  have hi:i<l.length:=by omega
  have hs:=step (n:=n) hi hl;rw [List.drop_eq_getElem_cons hi,List.any_cons];cases hb:badL n l[i] <;> rw [hb] at hs
  ·exact .at (.nil _) hs (loop hl k (i+1) (by omega))
  ·exact .done hs
theorem ends (n:Int) (l:List Int):EndZ 65 .nil false (st0 65 [iv n,il l]) (iv (chk n l)) [] 0:=by
 have h:=in_t n l;unfold chk
 by_cases h1:n<1
 ·simp only [yS,dt h1] at h ⊢;exact .done h
 by_cases h2:12<n
 ·simp only [yS,df h1,dt h2] at h ⊢;exact .done h
 by_cases h3:400<(l.length:Int)
 ·simp only [yS,df h1,df h2,dt h3] at h ⊢;exact .done h
 ·simp only [yS,df h1,df h2,df h3] at h ⊢;exact .at (.nil _) h (loop (by omega) l.length 0 (by omega))
end PChk
noncomputable def spPChk_0:ZCT:=fun ax=>match ax with
 | [.v (.int .i64 n),.lst (.ints .i64 l)]=>some ⟨decide True,iv (chk n l),[],0⟩
 | _=>none
theorem zi7:ZCtOk Try.prog 65 spPChk_0:=fun γ w us ax r hs hc hax hN hfz=>by
 unfold spPChk_0 at hs;split at hs
 case h_2=>cases hs
 rename_i n l;obtain ⟨rfl⟩:=Option.some.inj hs;have hc_0:decide True=true:=hc;have hc:=of_decide_eq_true hc_0;exact EndZ.calls (PChk.ends n l) (.nil _) (by kernel_rfl) hax hN hfz
noncomputable def spPChk_1:ZCT:=fun ax=>match ax with
 | [.v (.int .i64 n),.v (.slice none 0 0)]=>some ⟨decide True,iv (chk n []),[],0⟩
 | _=>none
theorem zi6:ZCtOk Try.prog 65 spPChk_1:=fun γ w us ax r hs hc hax hN hfz=>by
 unfold spPChk_1 at hs;split at hs
 case h_2=>cases hs
 rename_i n;obtain ⟨rfl⟩:=Option.some.inj hs;have hc_0:decide True=true:=hc;have hc:=of_decide_eq_true hc_0;exact EndZ.calls (zpw n (PChk.nil_t n)) (.nil _) (by kernel_rfl) hax hN hfz
noncomputable def spPChk:ZCT:=ZCT.or spPChk_0 spPChk_1
theorem zh0:ZCtOk Try.prog 65 spPChk:=zi7.or zi6
namespace PEqP
noncomputable def K0 (L M:List Int) (nn nn2:Bool):List (Nat×EK):=[(0,.seq 95 (.ints .u8 L) nn),(1,.seq 95 (.ints .u8 M) nn2)]
noncomputable def RUN (s:ES):ZF:=RMs 0 67 .nil [(atS 0 67 4,[[(0,none),(1,none),(12,none),(13,none)]])] [] [] s
noncomputable def sL (L M:List Int) (len len2:Nat) (nn nn2:Bool) (z i:Int):NS:=⟨[⟨67,26,[(0,(EV.slO 0 12 len nn)),(1,(EV.slO 1 12 len2 nn2)),(12,iv z),(13,iv i)],[.it (.code (nav [1,1,0,1,0,0] (bodyOf Try.f67))),.it (.inLoop (nav [1,1,0,1,0,0] (bodyOf Try.f67))),.it (.inBlock 0),.it (.code (nav [1,1,1] (bodyOf Try.f67)))],[],Option.none⟩],[(0,(EK.seq 95 (SyC.ints IntKind.u8 L) nn)),(1,(EK.seq 95 (SyC.ints IntKind.u8 M) nn2))],2⟩
theorem in_t (L M:List Int) (len len2:Nat) (nn nn2:Bool):RUN (st0m 67 [.slO 0 12 len nn,.slO 1 12 len2 nn2] (K0 L M nn nn2) 2)=(bc (Int.ofNat len != Int.ofNat len2) (.done (bv false) [] 0) (.at (sL L M len len2 nn nn2 (Int.ofNat len) 0))):=by kernel_rfl
theorem step_t (L M:List Int) (len len2:Nat) (nn nn2:Bool) (z i:Int):RUN (stOf (sL L M len len2 nn nn2 z i))=(bc (decide (i<z)) (bc (bc (bc (bc (bc (decide (0≤i)) (Nat.blt i.toNat len) false) true false) (bc (bc (Nat.ble (Nat.add (Nat.add (Nat.mul i.toNat 12) 0) 12) L.length) true false) (bc (bc (bc (decide (0≤i)) (Nat.blt i.toNat len2) false) true false) (bc (bc (Nat.ble (Nat.add (Nat.add (Nat.mul i.toNat 12) 0) 12) M.length) true false) (bc (bc (bc (Nat.beq (List.take 12 (List.drop (Nat.add (Nat.mul i.toNat 12) 0) L)).length 12) (Nat.beq (List.take 12 (List.drop (Nat.add (Nat.mul i.toNat 12) 0) M)).length 12) false) true false) true false) false) false) false) false) true false) (bc (bnot (eqLI (List.take 12 (List.drop (Nat.add (Nat.mul i.toNat 12) 0) L)) (List.take 12 (List.drop (Nat.add (Nat.mul i.toNat 12) 0) M)))) (.done (bv false) [] 0) (.at (sL L M len len2 nn nn2 z (IntKind.i64.wrap (i+1))))) .bad) (.done (bv true) [] 0)):=by kernel_rfl
theorem zqr {L M:List Int} {i:Nat} (hL:i*12+12≤L.length) (hM:i*12+12≤M.length) (h:L.take (i*12)=M.take (i*12)) (hw:(L.drop (i*12)).take 12=(M.drop (i*12)).take 12):L.take ((i+1)*12)=M.take ((i+1)*12):=by
 rw [show (i+1)*12=i*12+12 by omega,List.take_add,List.take_add,h,hw]
theorem zvc {L M:List Int} (h:L=M) (i:Nat):(L.drop (i*12)).take 12=(M.drop (i*12)).take 12:=by rw [h]
theorem loop {L M:List Int} {len:Nat} {nn nn2:Bool} (hL:len*12=L.length) (hM:len*12=M.length) (hz:len≤5000):∀ (k i:Nat),i+k=len→L.take (i*12)=M.take (i*12)→EndM 0 67 .nil (stOf (sL L M len len nn nn2 len i)) (bv (eqLI L M)) [] 0
 | 0,i,h,he=>by
  obtain rfl:i=len:=by omega
  have h1:=step_t L M i i nn nn2 i i;rw [df (show ¬ (i:Int)<(i:Int) by omega),bc_f] at h1;rw [hL] at he;rw [List.take_length,← hL,hM,List.take_length] at he;rw [za0.2 he];exact .done h1
 | k+1,i,h,he=>by
  have h1:=step_t L M len len nn nn2 len i;have e0:((i:Int)).toNat=i:=rfl;have e1:Nat.add (Nat.mul i 12) 0=i*12:=rfl;have e2:Nat.add (i*12) 12=i*12+12:=rfl;have l1:((L.drop (i*12)).take 12).length=12:=by rw [List.length_take,List.length_drop];omega
  have l2:((M.drop (i*12)).take 12).length=12:=by rw [List.length_take,List.length_drop];omega
  rw [e0,e1,e2,l1,l2] at h1;simp (disch:=omega) only [yS] at h1
  cases hq:eqLI ((L.drop (i*12)).take 12) ((M.drop (i*12)).take 12) with
  | true=>
   rw [hq] at h1;exact .at (.nil _) h1 (loop hL hM hz k (i+1) (by omega) (zqr (by omega) (by omega) he (za0.1 hq)))
  | false=>
   rw [hq] at h1;have hne:eqLI L M=false:=by
    cases hx:eqLI L M with
    | false=>rfl
    | true=>rw [za0.2 (zvc (za0.1 hx) i)] at hq;cases hq
   rw [hne];exact .done h1
theorem ends {L M:List Int} {len len2:Nat} {nn nn2:Bool} (hL:len*12=L.length) (hM:len2*12=M.length) (hz:len≤5000):EndM 0 67 .nil (st0m 67 [.slO 0 12 len nn,.slO 1 12 len2 nn2] (K0 L M nn nn2) 2) (bv (eqLI L M)) [] 0:=by
 have h:=in_t L M len len2 nn nn2
 by_cases e:len=len2
 ·subst e;have e1:(Int.ofNat len != Int.ofNat len)=false:=by simp
  rw [e1,bc_f] at h;exact .at (.nil _) h (loop hL hM hz len 0 (by omega) (by simp))
 ·have e1:(Int.ofNat len != Int.ofNat len2)=true:=by simp;omega
  rw [e1,bc_t] at h;have hne:eqLI L M=false:=by
   cases hx:eqLI L M with
   | false=>rfl
   | true=>have:=congrArg List.length (za0.1 hx);omega
  rw [hne];exact .done h
end PEqP
noncomputable def spEqP:ZMT:=fun ax K0 m=>match ax,K0 with
 | [.slO 0 12 len nn,.slO 1 12 len2 nn2],[(0,.seq 95 (.ints .u8 L) v_0),(1,.seq 95 (.ints .u8 M) v_1)]=>bc (Nat.beq m (2)) (some ⟨bc (eqN v_0 (nn)) (bc (eqN v_1 (nn2)) (decide (len*12=L.length∧len2*12=M.length∧len≤5000)) false) false,bv (eqLI L M),[],0,0⟩) none
 | _,_=>none
theorem zq7:ZMtOk Try.prog 67 spEqP:=fun γ w0 w us ax K0 m r hs hc hres hax hH=>by
 unfold spEqP at hs;split at hs
 case h_2=>cases hs
 rename_i len nn len2 nn2 L v_0 M v_1;obtain ⟨hm,rfl⟩:=noN hs;have hm:=Nat.eq_of_beq_eq_true hm;subst hm;have hc_0:bc (eqN v_0 (nn)) (bc (eqN v_1 (nn2)) (decide (len*12=L.length∧len2*12=M.length∧len≤5000)) false) false=true:=hc;obtain ⟨q_0,hc_1⟩:=bcT hc_0;have p_0:=(zde q_0).symm;subst p_0;obtain ⟨q_1,hc_2⟩:=bcT hc_1;have p_1:=(zde q_1).symm;subst p_1;have hc:=of_decide_eq_true hc_2;exact EndM.calls (PEqP.ends hc.1 hc.2.1 hc.2.2) (.nil _) (by kernel_rfl) hres hax hH
theorem zcp {n:Int} {w:List Int} (h:chk n w=0):WOk n w∧w.length≤400:=by
 unfold chk at h
 by_cases h1:n<1
 ·rw [dt h1,bc_t] at h;omega
 by_cases h2:12<n
 ·rw [df h1,dt h2,bc_f,bc_t] at h;omega
 by_cases h3:(400:Int)<Int.ofNat w.length
 ·rw [df h1,df h2,dt h3,bc_f,bc_f,bc_t] at h;omega
 rw [df h1,df h2,df h3,bc_f,bc_f,bc_f] at h;rw [ofn] at h3;refine ⟨⟨by omega,by omega,by omega,fun x hx=>?_⟩,by omega⟩
 cases ha:w.any (badL n) with
 | true=>rw [ha,bc_t] at h;omega
 | false=>
  have h4:badL n x=false:=by
   cases hb:badL n x with
   | false=>rfl
   | true=>rw [List.any_eq_true.2 ⟨x,hx,hb⟩] at ha;cases ha
  unfold badL at h4;rw [zae (0-n) (by omega) (by omega)] at h4;have e:((n.toNat:Nat):Int)=n:=Int.toNat_of_nonneg (by omega);rw [e]
  by_cases q1:x=0
  ·rw [show (x==0)=true by simp [q1],bc_t] at h4;cases h4
  ·rw [show (x==0)=false by simp [q1],bc_f] at h4
   by_cases q2:x≤0-n
   ·rw [dt q2,bc_t] at h4;cases h4
   ·rw [df q2,bc_f] at h4;have q3:=of_decide_eq_false h4;exact ⟨q1,by omega,by omega⟩
noncomputable def sameN (n:Int) (a b:List Int):Bool:=decide (nfW n.toNat a=nfW n.toNat b)
noncomputable def samE (n:Int) (a b:List Int):Int:=bc (chk n a != 0) (chk n a) (chk n b)
noncomputable def samB (n:Int) (a b:List Int):Bool:=bc (samE n a b != 0) false (sameN n a b)
theorem zrd {n:Int} (h2:n≤12) (a b:List Int):sameN n a b=bc ((nfW n.toNat a).pw==(nfW n.toNat b).pw) (eqLI (encF (nfW n.toNat a).F) (encF (nfW n.toNat b).F)) false:=by
 have hn:n.toNat≤12:=by omega
 unfold sameN
 by_cases h1:(nfW n.toNat a).pw=(nfW n.toNat b).pw
 ·rw [show ((nfW n.toNat a).pw==(nfW n.toNat b).pw)=true by simp [h1],bc_t]
  by_cases h2:encF (nfW n.toNat a).F=encF (nfW n.toNat b).F
  ·rw [za0.2 h2];exact decide_eq_true (Frm.ext h1 (zhk hn h2))
  ·have:eqLI (encF (nfW n.toNat a).F) (encF (nfW n.toNat b).F)=false:=by
    cases h:eqLI (encF (nfW n.toNat a).F) (encF (nfW n.toNat b).F) with
    | false=>rfl
    | true=>exact absurd (za0.1 h) h2
   rw [this];exact decide_eq_false fun e=>h2 (by rw [e])
 ·rw [show ((nfW n.toNat a).pw==(nfW n.toNat b).pw)=false by simp [h1],bc_f];exact decide_eq_false fun e=>h1 (by rw [e])
theorem zla {n:Int} {w:List Int} (h:WOk n w):(nfW n.toNat w).F.length≤5000:=by
 obtain ⟨_,_,h3,_⟩:=h;have:∀ (w:List Int) (s:Frm n.toNat),(w.foldl Frm.step s).F.length≤s.F.length+w.length:=by
  intro w
  induction w with
  | nil=>intro s;exact Nat.le_refl _
  | cons x w ih=>
   intro s;have h1:=ih (s.step x);have h2:=(zqw s x).1;rw [List.foldl_cons,List.length_cons];omega
 have:=this w ⟨0,[]⟩;have e:nfW n.toNat w=w.foldl Frm.step ⟨0,[]⟩:=rfl;rw [e];simp at this;omega
namespace PSam
noncomputable def ct:Tr ZCC:=((Tr.nil.put 65 (some (dC spPChk))).put 66 (some (mC spNrm))).put 67 (some (mC spEqP))
theorem ct_ok:ZCtsOk Try.prog ct:=(((ZCtsOk.nil _).add rfl zh0).addM rfl zq4).addM rfl zq7
noncomputable def RUN (s:ES):ZF:=RZ 24 ct (fun _=>false) [] [] false s
theorem in_t (n:Int) (a b:List Int):RUN (st0 24 [iv n,il a,il b])=(bc ((List.map (fun r=>U.int (List.headD r (U.i 0))) [[U.i (chk n a)],[U.i (chk n b)]]).getD (0:Int).toNat 0 != 0) (bc ((List.map (fun r=>U.int (List.headD r (U.i 0))) [[U.i (chk n a)],[U.i (chk n b)]]).getD (0:Int).toNat 0 != 0) (.done (EV.tup [(bv false),(iv ((List.map (fun r=>U.int (List.headD r (U.i 0))) [[U.i (chk n a)],[U.i (chk n b)]]).getD (0:Int).toNat 0))]) [] 0) (bc (bc (decide (WOk n a)) true false) (bc (bc (decide (WOk n b)) true false) (bc (Frm.pw (nfW n.toNat a)==Frm.pw (nfW n.toNat b)) (bc (bc (bc (eqB (Frm.pw (nfW n.toNat a)==Frm.pw (nfW n.toNat b)) true) (bc (bc (bc (eqN (Nat.blt 0 a.length) (Nat.blt 0 a.length)) (bc (eqN (Nat.blt 0 b.length) (Nat.blt 0 b.length)) (decide ((Frm.F (nfW n.toNat a)).length*12=(encF (Frm.F (nfW n.toNat a))).length∧(Frm.F (nfW n.toNat b)).length*12=(encF (Frm.F (nfW n.toNat b))).length∧(Frm.F (nfW n.toNat a)).length≤5000)) false) false) true false) true false) false) true false) (.done (EV.tup [(bv (eqLI (encF (Frm.F (nfW n.toNat a))) (encF (Frm.F (nfW n.toNat b))))),(iv (0))]) [] 0) .bad) (bc (bc (bc (eqB (Frm.pw (nfW n.toNat a)==Frm.pw (nfW n.toNat b)) false) true false) true false) (.done (EV.tup [(bv false),(iv (0))]) [] 0) .bad)) .bad) .bad)) (bc ((List.map (fun r=>U.int (List.headD r (U.i 0))) [[U.i (chk n a)],[U.i (chk n b)]]).getD (IntKind.i64.wrap ((0:Int)+1)).toNat 0 != 0) (bc ((List.map (fun r=>U.int (List.headD r (U.i 0))) [[U.i (chk n a)],[U.i (chk n b)]]).getD (IntKind.i64.wrap ((0:Int)+1)).toNat 0 != 0) (.done (EV.tup [(bv false),(iv ((List.map (fun r=>U.int (List.headD r (U.i 0))) [[U.i (chk n a)],[U.i (chk n b)]]).getD (IntKind.i64.wrap ((0:Int)+1)).toNat 0))]) [] 0) (bc (bc (decide (WOk n a)) true false) (bc (bc (decide (WOk n b)) true false) (bc (Frm.pw (nfW n.toNat a)==Frm.pw (nfW n.toNat b)) (bc (bc (bc (eqB (Frm.pw (nfW n.toNat a)==Frm.pw (nfW n.toNat b)) true) (bc (bc (bc (eqN (Nat.blt 0 a.length) (Nat.blt 0 a.length)) (bc (eqN (Nat.blt 0 b.length) (Nat.blt 0 b.length)) (decide ((Frm.F (nfW n.toNat a)).length*12=(encF (Frm.F (nfW n.toNat a))).length∧(Frm.F (nfW n.toNat b)).length*12=(encF (Frm.F (nfW n.toNat b))).length∧(Frm.F (nfW n.toNat a)).length≤5000)) false) false) true false) true false) false) true false) (.done (EV.tup [(bv (eqLI (encF (Frm.F (nfW n.toNat a))) (encF (Frm.F (nfW n.toNat b))))),(iv (0))]) [] 0) .bad) (bc (bc (bc (eqB (Frm.pw (nfW n.toNat a)==Frm.pw (nfW n.toNat b)) false) true false) true false) (.done (EV.tup [(bv false),(iv (0))]) [] 0) .bad)) .bad) .bad)) (bc (bc (decide (WOk n a)) true false) (bc (bc (decide (WOk n b)) true false) (bc (Frm.pw (nfW n.toNat a)==Frm.pw (nfW n.toNat b)) (bc (bc (bc (eqB (Frm.pw (nfW n.toNat a)==Frm.pw (nfW n.toNat b)) true) (bc (bc (bc (eqN (Nat.blt 0 a.length) (Nat.blt 0 a.length)) (bc (eqN (Nat.blt 0 b.length) (Nat.blt 0 b.length)) (decide ((Frm.F (nfW n.toNat a)).length*12=(encF (Frm.F (nfW n.toNat a))).length∧(Frm.F (nfW n.toNat b)).length*12=(encF (Frm.F (nfW n.toNat b))).length∧(Frm.F (nfW n.toNat a)).length≤5000)) false) false) true false) true false) false) true false) (.done (EV.tup [(bv (eqLI (encF (Frm.F (nfW n.toNat a))) (encF (Frm.F (nfW n.toNat b))))),(iv (0))]) [] 0) .bad) (bc (bc (bc (eqB (Frm.pw (nfW n.toNat a)==Frm.pw (nfW n.toNat b)) false) true false) true false) (.done (EV.tup [(bv false),(iv (0))]) [] 0) .bad)) .bad) .bad))):=by kernel_rfl
theorem nil_t (n:Int) (a:List Int):RUN (st0 24 [iv n,il a,.v (.slice none 0 0)])=(bc ((List.map (fun r=>U.int (List.headD r (U.i 0))) [[U.i (chk n a)],[U.i (chk n [])]]).getD (0:Int).toNat 0 != 0) (bc ((List.map (fun r=>U.int (List.headD r (U.i 0))) [[U.i (chk n a)],[U.i (chk n [])]]).getD (0:Int).toNat 0 != 0) (.done (EV.tup [(bv false),(iv ((List.map (fun r=>U.int (List.headD r (U.i 0))) [[U.i (chk n a)],[U.i (chk n [])]]).getD (0:Int).toNat 0))]) [] 0) (bc (bc (decide (WOk n a)) true false) (bc (Frm.pw (nfW n.toNat a)==0) (bc (bc (bc (eqB (Frm.pw (nfW n.toNat a)==0) true) (bc (bc (bc (eqN (Nat.blt 0 a.length) (Nat.blt 0 a.length)) (decide ((Frm.F (nfW n.toNat a)).length*12=(encF (Frm.F (nfW n.toNat a))).length∧0*12=(zerosL 0).length∧(Frm.F (nfW n.toNat a)).length≤5000)) false) true false) true false) false) true false) (.done (EV.tup [(bv (eqLI (encF (Frm.F (nfW n.toNat a))) (zerosL 0))),(iv (0))]) [] 0) .bad) (bc (bc (bc (eqB (Frm.pw (nfW n.toNat a)==0) false) true false) true false) (.done (EV.tup [(bv false),(iv (0))]) [] 0) .bad)) .bad)) (bc ((List.map (fun r=>U.int (List.headD r (U.i 0))) [[U.i (chk n a)],[U.i (chk n [])]]).getD (IntKind.i64.wrap ((0:Int)+1)).toNat 0 != 0) (bc ((List.map (fun r=>U.int (List.headD r (U.i 0))) [[U.i (chk n a)],[U.i (chk n [])]]).getD (IntKind.i64.wrap ((0:Int)+1)).toNat 0 != 0) (.done (EV.tup [(bv false),(iv ((List.map (fun r=>U.int (List.headD r (U.i 0))) [[U.i (chk n a)],[U.i (chk n [])]]).getD (IntKind.i64.wrap ((0:Int)+1)).toNat 0))]) [] 0) (bc (bc (decide (WOk n a)) true false) (bc (Frm.pw (nfW n.toNat a)==0) (bc (bc (bc (eqB (Frm.pw (nfW n.toNat a)==0) true) (bc (bc (bc (eqN (Nat.blt 0 a.length) (Nat.blt 0 a.length)) (decide ((Frm.F (nfW n.toNat a)).length*12=(encF (Frm.F (nfW n.toNat a))).length∧0*12=(zerosL 0).length∧(Frm.F (nfW n.toNat a)).length≤5000)) false) true false) true false) false) true false) (.done (EV.tup [(bv (eqLI (encF (Frm.F (nfW n.toNat a))) (zerosL 0))),(iv (0))]) [] 0) .bad) (bc (bc (bc (eqB (Frm.pw (nfW n.toNat a)==0) false) true false) true false) (.done (EV.tup [(bv false),(iv (0))]) [] 0) .bad)) .bad)) (bc (bc (decide (WOk n a)) true false) (bc (Frm.pw (nfW n.toNat a)==0) (bc (bc (bc (eqB (Frm.pw (nfW n.toNat a)==0) true) (bc (bc (bc (eqN (Nat.blt 0 a.length) (Nat.blt 0 a.length)) (decide ((Frm.F (nfW n.toNat a)).length*12=(encF (Frm.F (nfW n.toNat a))).length∧0*12=(zerosL 0).length∧(Frm.F (nfW n.toNat a)).length≤5000)) false) true false) true false) false) true false) (.done (EV.tup [(bv (eqLI (encF (Frm.F (nfW n.toNat a))) (zerosL 0))),(iv (0))]) [] 0) .bad) (bc (bc (bc (eqB (Frm.pw (nfW n.toNat a)==0) false) true false) true false) (.done (EV.tup [(bv false),(iv (0))]) [] 0) .bad)) .bad))):=by kernel_rfl
theorem fin {n:Int} {a b:List Int} {s:ES} (z1:chk n a=0) (z2:chk n b=0) (h:RUN s=bc ((nfW n.toNat a).pw==(nfW n.toNat b).pw) (.done (.tup [bv (eqLI (encF (nfW n.toNat a).F) (encF (nfW n.toNat b).F)),iv 0]) [] 0) (.done (.tup [bv false,iv 0]) [] 0)):EndZ 24 ct false s (.tup [bv (samB n a b),iv (samE n a b)]) [] 0:=by
 have e1:samE n a b=0:=by unfold samE;rw [z1,z2];rfl
 obtain ⟨⟨_,h2,_⟩,_⟩:=zcp z1;unfold samB;rw [e1,show ((0:Int) != 0)=false from rfl,bc_f,zrd h2]
 cases hq:((nfW n.toNat a).pw==(nfW n.toNat b).pw) with
 | true=>rw [hq,bc_t] at h;rw [bc_t];exact .done h
 | false=>rw [hq,bc_f] at h;rw [bc_f];exact .done h
theorem bad {n:Int} {a b:List Int} {s:ES} {e:Int} (h0:e≠0) (he:samE n a b=e) (h:RUN s = .done (.tup [bv false,iv e]) [] 0):EndZ 24 ct false s (.tup [bv (samB n a b),iv (samE n a b)]) [] 0:=by
 unfold samB;rw [he,show (e != 0)=true by simp [h0],bc_t];exact .done h
theorem ends (n:Int) (a b:List Int):EndZ 24 ct false (st0 24 [iv n,il a,il b]) (.tup [bv (samB n a b),iv (samE n a b)]) [] 0:=by
 have h:=in_t n a b;have g0:List.getD (List.map (fun r=>U.int (List.headD r (U.i 0))) [[U.i (chk n a)],[U.i (chk n b)]]) (Int.toNat 0) 0=chk n a:=rfl;have g1:List.getD (List.map (fun r=>U.int (List.headD r (U.i 0))) [[U.i (chk n a)],[U.i (chk n b)]]) (Int.toNat (IntKind.wrap IntKind.i64 (0+1))) 0=chk n b:=rfl;rw [g0,g1] at h
 by_cases z1:chk n a=0
 ·rw [z1,show ((0:Int) != 0)=false from rfl,bc_f] at h
  by_cases z2:chk n b=0
  ·rw [z2,show ((0:Int) != 0)=false from rfl,bc_f] at h
   have w1:=(zcp z1).1;have w2:=(zcp z2).1;rw [dt w1,dt w2,zaf,zaf,dt ⟨rfl,rfl,zla w1⟩] at h;refine fin z1 z2 (h.trans ?_);cases (nfW n.toNat a).pw==(nfW n.toNat b).pw <;> simp only [yS,eqB] <;> rfl
  ·rw [show (chk n b != 0)=true by simp [z2],bc_t,bc_t] at h;exact bad z2 (by unfold samE;rw [z1];rfl) h
 ·rw [show (chk n a != 0)=true by simp [z1],bc_t,bc_t] at h;exact bad z1 (by unfold samE;rw [show (chk n a != 0)=true by simp [z1],bc_t]) h
theorem endsN (n:Int) (a:List Int):EndZ 24 ct false (st0 24 [iv n,il a,.v (.slice none 0 0)]) (.tup [bv (samB n a []),iv (samE n a [])]) [] 0:=by
 have h:=nil_t n a;have g0:List.getD (List.map (fun r=>U.int (List.headD r (U.i 0))) [[U.i (chk n a)],[U.i (chk n [])]]) (Int.toNat 0) 0=chk n a:=rfl;have g1:List.getD (List.map (fun r=>U.int (List.headD r (U.i 0))) [[U.i (chk n a)],[U.i (chk n [])]]) (Int.toNat (IntKind.wrap IntKind.i64 (0+1))) 0=chk n []:=rfl;rw [g0,g1] at h
 by_cases z1:chk n a=0
 ·rw [z1,show ((0:Int) != 0)=false from rfl,bc_f] at h
  by_cases z2:chk n []=0
  ·rw [z2,show ((0:Int) != 0)=false from rfl,bc_f] at h
   have w1:=(zcp z1).1;rw [dt w1,zaf,dt ⟨rfl,rfl,zla w1⟩] at h;refine fin z1 z2 (h.trans ?_);show bc ((nfW n.toNat a).pw==0) _ _=bc ((nfW n.toNat a).pw==0) _ _;cases (nfW n.toNat a).pw==0 <;> simp only [yS,eqB] <;> rfl
  ·rw [show (chk n [] != 0)=true by simp [z2],bc_t,bc_t] at h;exact bad z2 (by unfold samE;rw [z1];rfl) h
 ·rw [show (chk n a != 0)=true by simp [z1],bc_t,bc_t] at h;exact bad z1 (by unfold samE;rw [show (chk n a != 0)=true by simp [z1],bc_t]) h
end PSam
noncomputable def spPSam_0:ZCT:=fun ax=>match ax with
 | [.v (.int .i64 n),.lst (.ints .i64 a),.lst (.ints .i64 b)]=>some ⟨decide (True),.tup [bv (samB n a b),iv (samE n a b)],[],0⟩
 | _=>none
theorem zi5:ZCtOk Try.prog 24 spPSam_0:=fun γ w us ax r hs hc hax hN hfz=>by
 unfold spPSam_0 at hs;split at hs
 case h_2=>cases hs
 rename_i n a b;obtain ⟨rfl⟩:=Option.some.inj hs;have hc_0:decide (True)=true:=hc;have hc:=of_decide_eq_true hc_0;exact EndZ.calls (PSam.ends n a b) PSam.ct_ok (by kernel_rfl) hax hN hfz
noncomputable def spPSam_1:ZCT:=fun ax=>match ax with
 | [.v (.int .i64 n),.lst (.ints .i64 a),.v (.slice none 0 0)]=>some ⟨decide (True),.tup [bv (samB n a []),iv (samE n a [])],[],0⟩
 | _=>none
theorem zi4:ZCtOk Try.prog 24 spPSam_1:=fun γ w us ax r hs hc hax hN hfz=>by
 unfold spPSam_1 at hs;split at hs
 case h_2=>cases hs
 rename_i n a;obtain ⟨rfl⟩:=Option.some.inj hs;have hc_0:decide (True)=true:=hc;have hc:=of_decide_eq_true hc_0;exact EndZ.calls (PSam.endsN n a) PSam.ct_ok (by kernel_rfl) hax hN hfz
noncomputable def spPSam:ZCT:=ZCT.or spPSam_0 (spPSam_1)
theorem zhy:ZCtOk Try.prog 24 spPSam:=zi5.or (zi4)
noncomputable abbrev resL (e:Int) (l:List Int):EV:=.tup [il (bc (e != 0) [] l),iv e]
theorem zet {e:Int} (l:List Int) (h:e≠0):Weak (.tup [.v (.slice none 0 0),iv e]) (resL e l):=by
 unfold resL;rw [show (e != 0)=true by simp [h],bc_t];exact Weak.tup (.cons (Weak.nilI _) (.cons (Weak.refl _) .nil))
section
variable {n:Nat}
theorem zhp (k:Nat):(zerosL k).length=k:=by unfold zerosL;simp
noncomputable def swP (p:Pm n) (k:Nat):Pm n:=if h:0<k∧k<n then p.L k h else p
noncomputable def lnP (n:Nat) (w:List Int):Pm n:=w.foldl (fun p x=>swP p x.natAbs) (Pm.one n)
theorem zui (w:List Int) (x:Int):lnP n (w++[x])=swP (lnP n w) x.natAbs:=by unfold lnP;rw [List.foldl_append];rfl
end
section
variable {n:Nat}
namespace POth
noncomputable def RUN (s:ES):ZF:=RZ 127 .nil (atS 0 127 3) [] [[(4,some (1,3,.ints .i64 [])),(5,none),(11,none),(12,none),(13,none)]] false s
noncomputable def sA (w q:List Int) (nn:Bool) (p z i:Int):NS:=⟨[⟨127,55,[(4,EV.slO 0 1 q.length nn),(5,iv p),(11,(il w)),(12,iv z),(13,iv i)],[.it (.code (nav [1,1,0,1,0,0] (bodyOf Try.f127))),.it (.inLoop (nav [1,1,0,1,0,0] (bodyOf Try.f127))),.it (.inBlock 0),.it (.code (nav [1,1,1] (bodyOf Try.f127)))],[],Option.none⟩],[(0,EK.seq 3 (.ints .i64 q) nn)],1⟩
theorem in_t (w:List Int) (p:Int):RUN (st0 127 [il w,iv p])=(.at (sA w [] false p (Int.ofNat w.length) 0)):=by kernel_rfl
theorem a_t (w q:List Int) (nn:Bool) (p z i:Int):RUN (stOf (sA w q nn p z i))=(bc (decide (i<z)) (bc (bc (bc (decide (0≤i)) (Nat.blt i.toNat w.length) false) true false) (bc (bc (Nat.blt i.toNat w.length) true false) (bc (decide (w.getD i.toNat 0<0)) (bc (p==IntKind.i64.wrap (IntKind.i64.wrap ((0:Int)-w.getD i.toNat 0)-(1:Int))) (.at (sA w q nn (IntKind.i64.wrap (IntKind.i64.wrap (IntKind.i64.wrap ((2:Int)*IntKind.i64.wrap ((0:Int)-w.getD i.toNat 0))-(1:Int))-p)) z (IntKind.i64.wrap (i+1)))) (bc (p==IntKind.i64.wrap ((0:Int)-w.getD i.toNat 0)) (.at (sA w q nn (IntKind.i64.wrap (IntKind.i64.wrap (IntKind.i64.wrap ((2:Int)*IntKind.i64.wrap ((0:Int)-w.getD i.toNat 0))-(1:Int))-p)) z (IntKind.i64.wrap (i+1)))) (bc (decide (p<IntKind.i64.wrap ((0:Int)-w.getD i.toNat 0))) (bc (bc (Nat.beq q.length q.length) (bc (Nat.ble (q.length+([IntKind.i64.wrap ((-1:Int)*IntKind.i64.wrap (IntKind.i64.wrap ((0:Int)-w.getD i.toNat 0)-(1:Int)))]).length) 65536) (bc nn true (bc nn false true)) false) false) (.at (sA w (q++[IntKind.i64.wrap ((-1:Int)*IntKind.i64.wrap (IntKind.i64.wrap ((0:Int)-w.getD i.toNat 0)-(1:Int)))]) (bc nn true (Nat.blt 0 ([IntKind.i64.wrap ((-1:Int)*IntKind.i64.wrap (IntKind.i64.wrap ((0:Int)-w.getD i.toNat 0)-(1:Int)))]).length)) p z (IntKind.i64.wrap (i+1)))) .bad) (bc (bc (Nat.beq q.length q.length) (bc (Nat.ble (q.length+([w.getD i.toNat 0]).length) 65536) (bc nn true (bc nn false true)) false) false) (.at (sA w (q++[w.getD i.toNat 0]) (bc nn true (Nat.blt 0 ([w.getD i.toNat 0]).length)) p z (IntKind.i64.wrap (i+1)))) .bad)))) (bc (p==IntKind.i64.wrap (w.getD i.toNat 0-(1:Int))) (.at (sA w q nn (IntKind.i64.wrap (IntKind.i64.wrap (IntKind.i64.wrap ((2:Int)*w.getD i.toNat 0)-(1:Int))-p)) z (IntKind.i64.wrap (i+1)))) (bc (p==w.getD i.toNat 0) (.at (sA w q nn (IntKind.i64.wrap (IntKind.i64.wrap (IntKind.i64.wrap ((2:Int)*w.getD i.toNat 0)-(1:Int))-p)) z (IntKind.i64.wrap (i+1)))) (bc (decide (p<w.getD i.toNat 0)) (bc (bc (Nat.beq q.length q.length) (bc (Nat.ble (q.length+([IntKind.i64.wrap ((1:Int)*IntKind.i64.wrap (w.getD i.toNat 0-(1:Int)))]).length) 65536) (bc nn true (bc nn false true)) false) false) (.at (sA w (q++[IntKind.i64.wrap ((1:Int)*IntKind.i64.wrap (w.getD i.toNat 0-(1:Int)))]) (bc nn true (Nat.blt 0 ([IntKind.i64.wrap ((1:Int)*IntKind.i64.wrap (w.getD i.toNat 0-(1:Int)))]).length)) p z (IntKind.i64.wrap (i+1)))) .bad) (bc (bc (Nat.beq q.length q.length) (bc (Nat.ble (q.length+([w.getD i.toNat 0]).length) 65536) (bc nn true (bc nn false true)) false) false) (.at (sA w (q++[w.getD i.toNat 0]) (bc nn true (Nat.blt 0 ([w.getD i.toNat 0]).length)) p z (IntKind.i64.wrap (i+1)))) .bad))))) .bad) .bad) (bc (bc (Nat.beq q.length q.length) true false) (.done (EV.tup [(il q),(iv p)]) [] 0) .bad)):=by kernel_rfl
def othS (p:Nat) (x:Int):List Int×Nat:=if p+1=x.natAbs∨p=x.natAbs then ([],sw x.natAbs p) else if p<x.natAbs then ([lowL x],p) else ([x],p)
theorem oth_S (p:Nat) (x:Int) (w:List Int):oth p (x::w)=((othS p x).1++(oth (othS p x).2 w).1,(oth (othS p x).2 w).2):=by
 rw [zev];unfold othS;split
 ·rfl
 ·split <;> rfl
theorem step {w q:List Int} {nn:Bool} {p i j:Nat} {x:Int} (hi:i<w.length) (hx:w.getD i 0=x) (hj:x.natAbs=j+1) (hn:j≤11) (hp:p≤12) (hw:w.length≤2000) (hq:q.length≤i) (hnn:nn=true∨q=[]):∃ nn',RUN (stOf (sA w q nn p w.length i)) = .at (sA w (q++(othS p x).1) nn' ((othS p x).2:Nat) w.length (i+1:Nat))∧(nn'=true∨q++(othS p x).1=[]):=by
 rw [a_t,dt (show (i:Int)<(w.length:Int) by omega),bc_t];have e0:((i:Int)).toNat=i:=rfl;rw [e0,hx];have w1:IntKind.i64.wrap (((j+1:Nat):Int)-1)=(j:Int):=by rw [zae _ (by omega) (by omega)];omega
 have w2:IntKind.i64.wrap (2*((j+1:Nat):Int))=2*((j+1:Nat):Int):=zae _ (by omega) (by omega);have w3:IntKind.i64.wrap (2*((j+1:Nat):Int)-1)=2*(j:Int)+1:=by rw [zae _ (by omega) (by omega)];omega
 have w4:IntKind.i64.wrap (-1*(j:Int)) = -(j:Int):=by rw [zae _ (by omega) (by omega)];omega
 have w5:IntKind.i64.wrap (1*(j:Int))=(j:Int):=by rw [zae _ (by omega) (by omega)];omega
 have w6:IntKind.i64.wrap (2*(j:Int)+1-(p:Int))=2*(j:Int)+1-(p:Int):=zae _ (by omega) (by omega);have hb:∀ v:Int,bc nn true (Nat.blt 0 (List.length ([v])))=true:=fun v=>by cases nn <;> rfl
 have hb2:bc nn true (bc nn false true)=true:=by cases nn <;> rfl
 unfold othS lowL;rw [hj];have hs:(∃ s:Int,x=s*((j+1:Nat):Int)∧(s = -1∧x<0∨s=1∧¬ x<0)):=by
  by_cases h:x<0
  ·exact ⟨-1,by omega,.inl ⟨rfl,h⟩⟩
  ·exact ⟨1,by omega,.inr ⟨rfl,h⟩⟩
 have main:∃ nn',(bc ((p:Int)==(j:Int)) (ZF.at (sA w q nn (2*(j:Int)+1-(p:Int)) w.length (i+1:Nat))) (bc ((p:Int)==((j+1:Nat):Int)) (ZF.at (sA w q nn (2*(j:Int)+1-(p:Int)) w.length (i+1:Nat))) (bc (decide ((p:Int)<((j+1:Nat):Int))) (ZF.at (sA w (q++[if x<0 then x+1 else x-1]) true p w.length (i+1:Nat))) (ZF.at (sA w (q++[x]) true p w.length (i+1:Nat))))))=ZF.at (sA w (q++(if p+1=j+1∨p=j+1 then (([]:List Int),sw (j+1) p) else if p<j+1 then ([if x<0 then x+1 else x-1],p) else ([x],p)).1) nn' ((if p+1=j+1∨p=j+1 then (([]:List Int),sw (j+1) p) else if p<j+1 then ([if x<0 then x+1 else x-1],p) else ([x],p)).2:Nat) w.length (i+1:Nat))∧(nn'=true∨q++(if p+1=j+1∨p=j+1 then (([]:List Int),sw (j+1) p) else if p<j+1 then ([if x<0 then x+1 else x-1],p) else ([x],p)).1=[]):=by
  by_cases c1:p=j
  ·subst c1;refine ⟨nn,?_,?_⟩
   ·rw [show (((p:Int)==(p:Int))=true) by simp,bc_t,if_pos (.inl rfl),List.append_nil,show sw (p+1) p=p+1 by unfold sw;rw [if_neg (by omega),if_pos rfl],show 2*(p:Int)+1-p=((p+1:Nat):Int) by omega]
   ·rw [if_pos (.inl rfl),List.append_nil];exact hnn
  ·rw [show (((p:Int)==(j:Int))=false) by simp;omega,bc_f]
   by_cases c2:p=j+1
   ·subst c2;refine ⟨nn,?_,?_⟩
    ·rw [show ((((j+1:Nat):Int)==((j+1:Nat):Int))=true) by simp,bc_t,if_pos (.inr rfl),List.append_nil,show sw (j+1) (j+1)=j by unfold sw;rw [if_pos rfl];omega,show 2*(j:Int)+1-((j+1:Nat):Int)=(j:Int) by omega]
    ·rw [if_pos (.inr rfl),List.append_nil];exact hnn
   ·rw [show (((p:Int)==((j+1:Nat):Int))=false) by simp;omega,bc_f,if_neg (show ¬ (p+1=j+1∨p=j+1) by omega)]
    by_cases c3:p<j+1
    ·rw [if_pos c3,dt (show (p:Int)<((j+1:Nat):Int) by omega),bc_t];exact ⟨true,rfl,.inl rfl⟩
    ·rw [if_neg c3,df (show ¬ (p:Int)<((j+1:Nat):Int) by omega),bc_f];exact ⟨true,rfl,.inl rfl⟩
 obtain ⟨nn',m1,m2⟩:=main;refine ⟨nn',Eq.trans ?_ m1,m2⟩;have m3:∀ v:Int,[v]=[v]:=fun v=>rfl
 by_cases hs:x<0
 ·have w0:IntKind.i64.wrap (0-x)=((j+1:Nat):Int):=by rw [zae _ (by omega) (by omega)];omega
  rw [dt hs,bc_t,w0,w1,w2,w3,w4,w6];simp (disch:=omega) only [yS,hb,hb2,m3,if_pos hs];rw [show -(j:Int)=x+1 by omega];rfl
 ·obtain rfl:x=((j+1:Nat):Int):=by omega
  rw [df hs,bc_f,w1,w2,w3,w5,w6];simp (disch:=omega) only [yS,hb,hb2,m3,if_neg hs];rw [show ((j+1:Nat):Int)-1=(j:Int) by omega];rfl
theorem zt9 {n p:Nat} {x:Int} (hk:0<x.natAbs∧x.natAbs<n) (hp:p<n):(othS p x).2<n:=by
 unfold othS;split
 ·exact znq hk hp
 ·split <;> exact hp
theorem last {w q:List Int} {nn:Bool} {p:Nat}:RUN (stOf (sA w q nn p w.length w.length)) = .done (.tup [il q,iv p]) [] 0:=by
 rw [a_t,df (show ¬ (w.length:Int)<(w.length:Int) by omega),bc_f];simp only [yS]
theorem loop {w:List Int} (hn:n≤12) (hw:w.length≤2000) (h:Vld n w):∀ (k i:Nat) (q:List Int) (nn:Bool) (p:Nat),i+k=w.length→p<n→q.length≤i→(nn=true∨q=[])→EndZ 127 .nil false (stOf (sA w q nn p w.length i)) (.tup [il (q++(oth p (w.drop i)).1),iv ((oth p (w.drop i)).2:Nat)]) [] 0
 | 0,i,q,nn,p,hi,hp,hq,hnn=>by
  obtain rfl:i=w.length:=by omega
  rw [List.drop_length,show oth p []=([],p) from rfl,List.append_nil]
  exact .done last
 | k+1,i,q,nn,p,hi,hp,hq,hnn=>by
  have hi2:i<w.length:=by omega
  have hk:0<(w.getD i 0).natAbs∧(w.getD i 0).natAbs<n:=(show Vld n [w.getD i 0] from fun x hx=>by
   rw [List.mem_singleton.1 hx,zav hi2];exact h _ (List.getElem_mem _)).head
  obtain ⟨nn',h1,h2⟩:=step (p:=p) hi2 rfl (show (w.getD i 0).natAbs=(w.getD i 0).natAbs-1+1 by omega) (by omega) (by omega) hw hq hnn;rw [List.drop_eq_getElem_cons hi2,oth_S,← zav hi2,← List.append_assoc];refine .at (.nil _) h1 (loop hn hw h k (i+1) _ nn' _ (by omega) (zt9 hk hp) ?_ h2);rw [List.length_append];have:(othS p (w.getD i 0)).1.length≤1:=by
   unfold othS;split
   ·exact Nat.zero_le _
   ·split <;> exact Nat.le_refl _
  omega
end POth
def OthOk (w:List Int) (p:Int):Prop:=w.length≤2000∧Vld 12 w∧0≤p∧p<12
noncomputable instance (w:List Int) (p:Int):Decidable (OthOk w p):=Classical.propDecidable _
noncomputable def spPOth:ZCT:=fun ax=>match ax with
 | [.lst (.ints .i64 w),.v (.int .i64 p)]=>some ⟨decide (OthOk w p),.tup [il (oth p.toNat w).1,iv ((oth p.toNat w).2:Nat)],[],0⟩
 | _=>none
theorem znz:ZCtOk Try.prog 127 spPOth:=fun γ w us ax r hs hc hax hN hfz=>by
 unfold spPOth at hs;split at hs
 case h_2=>cases hs
 rename_i w p;obtain ⟨rfl⟩:=Option.some.inj hs;have hc_0:decide (OthOk w p)=true:=hc;have hc:=of_decide_eq_true hc_0;exact EndZ.calls (by
  obtain ⟨h1,h2,h3,h4⟩:=hc;obtain ⟨p,rfl⟩:=Int.eq_ofNat_of_zero_le h3;exact .at (.nil _) (POth.in_t w p) (POth.loop (Nat.le_refl _) h1 h2 w.length 0 [] false p (by omega) (by omega) (Nat.zero_le _) (.inr rfl))) (.nil _) (by kernel_rfl) hax hN hfz
end
section
variable {n:Nat}
namespace PDrp
noncomputable def ct:Tr ZCC:=(Tr.nil.put 65 (some (dC spPChk))).put 127 (some (dC spPOth))
theorem ct_ok:ZCtsOk Try.prog ct:=((ZCtsOk.nil _).add rfl zh0).add rfl znz
theorem othOk {n:Int} {w:List Int} {p:Int} (z:chk n w=0) (h1:¬ p<0) (h2:¬ n≤p):OthOk w p:=by
 obtain ⟨⟨w0,w1,w2,w3⟩,_⟩:=zcp z;exact ⟨w2,zqq (by omega) w3,by omega,by omega⟩
end PDrp
namespace PLay
noncomputable def RUN (s:ES):ZF:=RZs 82 PDrp.ct [(atS 0 82 11,[[(0,none),(1,none),(2,none),(11,none),(12,some (1,3,.ints .i64 [])),(13,none)]]),(atS 0 82 17,[[(11,none),(12,none),(15,none),(16,none)]])] [] false s
noncomputable def sA (n:Int) (w:List Int) (p s:Int) (q:List Int) (nn:Bool) (k:Int):NS:=⟨[⟨82,73,[(0,(iv n)),(1,(il w)),(2,iv p),(11,iv s),(12,EV.slO 0 1 q.length nn),(13,iv k)],[.it (.code (nav [1,1,1,1,1,0,1,0,0,0] (bodyOf Try.f82))),.it (.code (nav [1,1,1,1,1,0,1,0,0,1] (bodyOf Try.f82))),.it (.inLoop (nav [1,1,1,1,1,0,1,0,0] (bodyOf Try.f82))),.it (.inBlock 1),.it (.code (nav [1,1,1,1,1,1] (bodyOf Try.f82)))],[],Option.none⟩],[(0,EK.seq 3 (.ints .i64 q) nn)],1⟩
noncomputable def sB (s:Int) (q:List Int) (nn:Bool) (p k:Int):NS:=⟨[⟨82,73,[(11,iv s),(12,EV.slO 0 1 q.length nn),(15,iv p),(16,iv k)],[.it (.code (nav [1,1,1,1,1,1,1,1,0,1,0,0,0] (bodyOf Try.f82))),.it (.code (nav [1,1,1,1,1,1,1,1,0,1,0,0,1] (bodyOf Try.f82))),.it (.inLoop (nav [1,1,1,1,1,1,1,1,0,1,0,0] (bodyOf Try.f82))),.it (.inBlock 3),.it (.code (nav [1,1,1,1,1,1,1,1,1] (bodyOf Try.f82)))],[],Option.none⟩],[(0,EK.seq 3 (.ints .i64 q) nn)],1⟩
theorem in_t (n:Int) (w:List Int) (p:Int) (a:Bool):RUN (st0 82 [iv n,il w,iv p,bv a])=(bc (chk n w != 0) (.done (EV.tup [(EV.v (Value.slice Option.none 0 0)),(iv (chk n w))]) [] 0) (bc (decide (p<0)) (.done (EV.tup [(EV.v (Value.slice Option.none 0 0)),(iv (7))]) [] 0) (bc (decide (n≤p)) (.done (EV.tup [(EV.v (Value.slice Option.none 0 0)),(iv (7))]) [] 0) (bc a (.at (sA n w p 1 [] false (IntKind.i64.wrap (p+1)))) (.at (sA n w p ((-1:Int)) [] false (IntKind.i64.wrap (p+1)))))))):=by kernel_rfl
theorem a_t (n:Int) (w:List Int) (p s:Int) (q:List Int) (nn:Bool) (k:Int):RUN (stOf (sA n w p s q nn k))=(bc (decide (k<n)) (bc (bc (Nat.beq q.length q.length) (bc (Nat.ble (q.length+([IntKind.i64.wrap (s*k)]).length) 65536) (bc nn true (bc nn false true)) false) false) (.at (sA n w p s (q++[IntKind.i64.wrap (s*k)]) (bc nn true (Nat.blt 0 ([IntKind.i64.wrap (s*k)]).length)) (IntKind.i64.wrap (k+1)))) .bad) (bc (decide (OthOk w p)) (bc (bc (Nat.beq q.length q.length) (bc (Nat.ble (q.length+(Prod.fst (oth p.toNat w)).length) 65536) (bc nn true (bc nn false true)) false) false) (.at (sB s (q++Prod.fst (oth p.toNat w)) (bc nn true (Nat.blt 0 (Prod.fst (oth p.toNat w)).length)) ((Nat.cast (Prod.snd (oth p.toNat w)):Int)) (IntKind.i64.wrap (n-(1:Int))))) .bad) .bad)):=by kernel_rfl
theorem b_t (s:Int) (q:List Int) (nn:Bool) (p k:Int):RUN (stOf (sB s q nn p k))=(bc (decide (p<k)) (bc (bc (Nat.beq q.length q.length) (bc (Nat.ble (q.length+([IntKind.i64.wrap (IntKind.i64.wrap ((0:Int)-s)*k)]).length) 65536) (bc nn true (bc nn false true)) false) false) (.at (sB s (q++[IntKind.i64.wrap (IntKind.i64.wrap ((0:Int)-s)*k)]) (bc nn true (Nat.blt 0 ([IntKind.i64.wrap (IntKind.i64.wrap ((0:Int)-s)*k)]).length)) p (IntKind.i64.wrap (k-(1:Int))))) .bad) (bc (decide (400<Int.ofNat q.length)) (.done (EV.tup [(EV.v (Value.slice Option.none 0 0)),(iv (3))]) [] 0) (bc (bc (Nat.beq q.length q.length) true false) (.done (EV.tup [(il q),(iv (0))]) [] 0) .bad))):=by kernel_rfl
noncomputable def sgn (a:Bool):Int:=bc a 1 (-1)
theorem sgn_ok (a:Bool):sgn a=1∨sgn a = -1:=by cases a;exact .inr rfl;exact .inl rfl
theorem m3 (v:Int):[v]=[v]:=rfl
theorem hb (nn:Bool) (v:Int):bc nn true (Nat.blt 0 (List.length [v]))=true:=by cases nn <;> rfl
theorem hb2 (nn:Bool):bc nn true (bc nn false true)=true:=by cases nn <;> rfl
theorem hb3 {nn:Bool} {q:List Int} (h:nn=true∨q=[]) (r:List Int):bc nn true (Nat.blt 0 r.length)=true∨q++r=[]:=by
 cases nn with
 | true=>exact .inl rfl
 | false=>
  have h:q=[]:=by simpa using h
  subst h
  cases r with
  | nil=>exact .inr rfl
  | cons x r=>exact .inl rfl
theorem wsg {s:Int} (hs:s=1∨s = -1) {k:Int} (h0:0≤k) (h1:k≤20):IntKind.i64.wrap (s*k)=s*k:=by
 rcases hs with h|h <;> subst h <;> exact zae _ (by omega) (by omega)
theorem wsn {s:Int} (hs:s=1∨s = -1):IntKind.i64.wrap (0-s) = -s:=by
 rcases hs with h|h <;> subst h <;> rfl
theorem stepA {w q:List Int} {p s:Int} {nn:Bool} {k:Nat} (hs:s=1∨s = -1) (hk:k<n) (hn:n≤12) (hq:q.length≤20):RUN (stOf (sA n w p s q nn k)) = .at (sA n w p s (q++[s*(k:Int)]) true (k+1:Nat)):=by
 rw [a_t,dt (show (k:Int)<n by omega),bc_t,m3,wsg hs (by omega) (by omega),hb,hb2];simp (disch:=omega) only [yS];rfl
theorem midA {w q:List Int} {p s:Int} {nn:Bool} {k:Nat} (hk:n≤k) (hw:w.length≤2000) (hn1:1≤n) (hn:n≤12) (hq:q.length≤20) (hp:OthOk w p):RUN (stOf (sA n w p s q nn k)) = .at (sB s (q++(oth p.toNat w).1) (bc nn true (Nat.blt 0 (oth p.toNat w).1.length)) ((oth p.toNat w).2:Nat) ((n:Int)-1)):=by
 have h1:=zfe w p.toNat;rw [a_t,df (show ¬ (k:Int)<n by omega),bc_f,dt hp,bc_t,hb2,zae ((n:Int)-1) (by omega) (by omega)];simp (disch:=omega) only [yS]
theorem stepB {q:List Int} {s:Int} {nn:Bool} {p k:Nat} (hs:s=1∨s = -1) (hk:p<k) (hk2:k≤20) (hq:q.length≤3000):RUN (stOf (sB s q nn p k)) = .at (sB s (q++[-s*(k:Int)]) true p ((k:Int)-1)):=by
 rw [b_t,dt (show (p:Int)<k by omega),bc_t,m3,wsn hs,wsg (zop hs) (by omega) (by omega),hb,hb2,zae ((k:Int)-1) (by omega) (by omega)];simp (disch:=omega) only [yS]
theorem lastB {q:List Int} {s:Int} {nn:Bool} {p k:Int} (hk:k≤p):RUN (stOf (sB s q nn p k))=bc (decide (400<(q.length:Int))) (.done (.tup [.v (.slice none 0 0),iv 3]) [] 0) (.done (.tup [il q,iv 0]) [] 0):=by
 rw [b_t,df (show ¬ p<k by omega),bc_f];simp only [yS]
theorem loopB {s:Int} (hs:s=1∨s = -1) (p:Nat):∀ (d:Nat) (q:List Int) (nn:Bool),p+d≤20→q.length+d≤2900→(nn=true∨q=[])→EndZ 82 PDrp.ct false (stOf (sB s q nn p ((p:Int)+d))) (resL (bc (decide (400<(q++dnW (-s) p d).length)) 3 0) (q++dnW (-s) p d)) [] 0
 | 0,q,nn,hd,hq,hnn=>by
  rw [show dnW (-s) p 0=[] from rfl,List.append_nil]
  have h:=lastB (s:=s) (q:=q) (nn:=nn) (p:=p) (k:=(p:Int)+(0:Nat)) (by omega)
  by_cases c:400<q.length
  ·rw [dt (show (400:Int)<(q.length:Int) by omega),bc_t] at h;rw [dt c,bc_t];exact (EndZ.done h).weak (zet _ (by decide))
  ·rw [df (show ¬ (400:Int)<(q.length:Int) by omega),bc_f] at h;rw [df c,bc_f];exact .done h
 | d+1,q,nn,hd,hq,hnn=>by
  have h:=stepB (s:=s) (q:=q) (nn:=nn) (p:=p) (k:=p+(d+1)) hs (by omega) (by omega) (by omega);rw [show (((p+(d+1):Nat):Int)-1)=(p:Int)+(d:Nat) by omega] at h;have e:q++dnW (-s) p (d+1)=(q++[-s*((p+(d+1):Nat):Int)])++dnW (-s) p d:=by
   rw [List.append_assoc];rfl
  rw [e];exact .at PDrp.ct_ok h (loopB hs p d _ true (by omega) (by rw [List.length_append,List.length_singleton];omega) (.inl rfl))
theorem loopA {w:List Int} {p:Nat} {s:Int} (hs:s=1∨s = -1) (hn:n≤12) (hw:w.length≤2000) (hv:Vld n w) (hp:p<n) (hpo:OthOk w p):∀ (d a:Nat) (q:List Int) (nn:Bool),a+1+d=n→q.length≤a→(nn=true∨q=[])→EndZ 82 PDrp.ct false (stOf (sA n w p s q nn (a+1:Nat))) (resL (bc (decide (400<(q++upW s a d++(oth p w).1++dnW (-s) (oth p w).2 (n-1-(oth p w).2)).length)) 3 0) (q++upW s a d++(oth p w).1++dnW (-s) (oth p w).2 (n-1-(oth p w).2))) [] 0
 | 0,a,q,nn,hd,hq,hnn=>by
  have h:=midA (s:=s) (q:=q) (nn:=nn) (k:=a+1) (by omega) hw (by omega) hn (by omega) hpo;have h1:=gW_lt hv hp;rw [← zic] at h1;rw [show ((p:Int)).toNat=p from rfl,show (n:Int)-1=((oth p w).2:Int)+((n-1-(oth p w).2:Nat):Int) by omega] at h
  rw [show upW s a 0=[] from rfl,List.append_nil]
  have h3:=zfe w p;exact .at PDrp.ct_ok h (loopB hs _ _ _ _ (by omega) (by rw [List.length_append];omega) (hb3 hnn _))
 | d+1,a,q,nn,hd,hq,hnn=>by
  have h:=stepA (w:=w) (p:=p) (s:=s) (q:=q) (nn:=nn) (k:=a+1) hs (show a+1<n by omega) hn (by omega);have e:q++upW s a (d+1)=(q++[s*((a+1:Nat):Int)])++upW s (a+1) d:=by
   rw [List.append_assoc];rfl
  rw [e];exact .at PDrp.ct_ok h (loopA hs hn hw hv hp hpo d (a+1) _ true (by omega) (by rw [List.length_append,List.length_singleton];omega) (.inl rfl))
noncomputable def layE (n:Int) (w:List Int) (p:Int) (a:Bool):Int:=bc (chk n w != 0) (chk n w) (bc (decide (p<0)) 7 (bc (decide (n≤p)) 7 (bc (decide (400<(layW n.toNat w p.toNat (sgn a)).length)) 3 0)))
theorem ends (n:Int) (w:List Int) (p:Int) (a:Bool):EndZ 82 PDrp.ct false (st0 82 [iv n,il w,iv p,bv a]) (resL (layE n w p a) (layW n.toNat w p.toNat (sgn a))) [] 0:=by
 have h:=in_t n w p a
 by_cases z:chk n w=0
 ·rw [z,show ((0:Int) != 0)=false from rfl,bc_f] at h
  have e1:layE n w p a=bc (decide (p<0)) 7 (bc (decide (n≤p)) 7 (bc (decide (400<(layW n.toNat w p.toNat (sgn a)).length)) 3 0)):=by unfold layE;rw [z];rfl
  by_cases h1:p<0
  ·rw [dt h1,bc_t] at h e1;rw [e1];exact (EndZ.done h).weak (zet _ (by decide))
  rw [df h1,bc_f] at h e1
  by_cases h2:n≤p
  ·rw [dt h2,bc_t] at h e1;rw [e1];exact (EndZ.done h).weak (zet _ (by decide))
  rw [df h2,bc_f] at h e1;have ho:=PDrp.othOk z h1 h2;obtain ⟨⟨w0,w1,w2,w3⟩,_⟩:=zcp z;obtain ⟨n,rfl⟩:=Int.eq_ofNat_of_zero_le (show 0≤n by omega);obtain ⟨p,rfl⟩:=Int.eq_ofNat_of_zero_le (show 0≤p by omega);have e2:IntKind.i64.wrap ((p:Int)+1)=((p+1:Nat):Int):=by rw [zae _ (by omega) (by omega)];omega
  have e3:bc a (.at (sA n w p 1 [] false ((p+1:Nat):Int))) (.at (sA n w p (-1) [] false ((p+1:Nat):Int)))=ZF.at (sA n w p (sgn a) [] false ((p+1:Nat):Int)):=by cases a <;> rfl
  rw [e2] at h;have h5:=h.trans e3;rw [e1];have h6:=loopA (sgn_ok a) (by omega) w2 w3 (by omega) ho (n-1-p) p [] false (by omega) (Nat.zero_le _) (.inr rfl);rw [List.nil_append] at h6;exact .at PDrp.ct_ok h5 h6
 ·have e1:layE n w p a=chk n w:=by unfold layE;rw [show (chk n w != 0)=true by simp [z],bc_t]
  rw [show (chk n w != 0)=true by simp [z],bc_t] at h;rw [e1];exact (EndZ.done h).weak (zet _ z)
end PLay
noncomputable def spPLay:ZCT:=fun ax=>match ax with
 | [.v (.int .i64 n),.lst (.ints .i64 w),.v (.int .i64 p),.v (.bool a)]=>some ⟨decide (True),resL (PLay.layE n w p a) (layW n.toNat w p.toNat (PLay.sgn a)),[],0⟩
 | _=>none
theorem zhz:ZCtOk Try.prog 82 spPLay:=fun γ w us ax r hs hc hax hN hfz=>by
 unfold spPLay at hs;split at hs
 case h_2=>cases hs
 rename_i n w p a;obtain ⟨rfl⟩:=Option.some.inj hs;have hc_0:decide (True)=true:=hc;have hc:=of_decide_eq_true hc_0;exact EndZ.calls (PLay.ends n w p a) PDrp.ct_ok (by kernel_rfl) hax hN hfz
end
end Go.Proofs.Ytfffbioafhppiaa.Ev

namespace Go.Proofs.Ytfffbioafhppiaa.Ev
section
variable {n:Nat}
noncomputable def mx (n:Nat) (f:Nat→Nat→Int):List (List U):=(List.range n).map fun a=>[U.l ((List.range n).map fun b=>[U.i (f a b)])]
theorem zlc (n:Nat) (f:Nat→Nat→Int):(mx n f).length=n:=by unfold mx;rw [List.length_map,List.length_range]
theorem zsp {f:Nat→Nat→Int} {x:Nat} (hx:x<n):(mx n f).getD x []=[U.l ((List.range n).map fun b=>[U.i (f x b)])]:=by
 unfold mx;rw [List.getD_eq_getElem?_getD,List.getElem?_map,List.getElem?_range hx];rfl
theorem zfh {f:Nat→Nat→Int} {x:Nat} (hx:x<n):U.list (((mx n f).getD x []).getD 0 (U.i 0))=(List.range n).map fun b=>[U.i (f x b)]:=by rw [zsp hx];rfl
theorem zsq {f:Nat→Nat→Int} {x y:Nat} (hx:x<n) (hy:y<n):U.int ((List.getD (U.list (((mx n f).getD x []).getD 0 (U.i 0))) y []).getD 0 (U.i 0))=f x y:=by
 have e:((List.range n).map fun b=>[U.i (f x b)]).getD y []=[U.i (f x y)]:=by
  rw [List.getD_eq_getElem?_getD,List.getElem?_map,List.getElem?_range hy];rfl
 rw [zfh hx,e];rfl
def upd (f:Nat→Nat→Int) (x y:Nat) (v:Int) (a b:Nat):Int:=if a=x∧b=y then v else f a b
theorem zh7 {α:Type} {g g':Nat→α} {x:Nat} {v:α} (h1:g' x=v) (h2:∀ a,a≠x→g' a=g a):((List.range n).map g).set x v=(List.range n).map g':=by
 apply List.ext_getElem (by rw [List.length_set,List.length_map,List.length_map]);intro i hi hi2;rw [List.getElem_set,List.getElem_map];split
 ·rename_i e;rw [← h1,List.getElem_map,List.getElem_range,e]
 ·rename_i e;rw [List.getElem_map,List.getElem_range,h2 i (fun q=>e q.symm)]
theorem zso {f:Nat→Nat→Int} {x y:Nat} (v:Int) (hx:x<n):(mx n f).set x (rset 0 (U.l (List.map (fun x=>[U.i x]) (List.set (List.map (fun r=>U.int (List.headD r (U.i 0))) (U.list (List.getD (List.getD (mx n f) x []) 0 (U.i 0)))) y v))) (List.getD (mx n f) x []))=mx n (upd f x y v):=by
 rw [zfh hx,zsp hx,List.map_map];refine zh7 ?_ fun a ha=>?_
 ·show [U.l _]=[U.l _];congr 2;have e:List.map ((fun r=>U.int (List.headD r (U.i 0))) ∘ fun b=>[U.i (f x b)]) (List.range n)=(List.range n).map fun b=>f x b:=List.map_congr_left fun b _=>rfl;rw [e,zh7 (g':=fun b=>upd f x y v x b) (by unfold upd;rw [if_pos ⟨rfl,rfl⟩]) (fun b hb=>by unfold upd;rw [if_neg fun h=>hb h.2]),List.map_map];rfl
 ·show [U.l _]=[U.l _];congr 2;refine List.map_congr_left fun b _=>?_;unfold upd;rw [if_neg fun h=>ha h.1]
theorem zrj {f g:Nat→Nat→Int} (h:∀ a b,f a b=g a b):mx n f=mx n g:=by
 have:f=g:=by funext a b;exact h a b
 rw [this]
theorem zlk:∀ (u:List Int) (p:Nat→Nat) (a b:Nat),-(u.length:Int)≤lk u p a b∧lk u p a b≤u.length
 | [],_,_,_=>by show -((0:Nat):Int)≤0∧(0:Int)≤((0:Nat):Int);omega
 | x::u,p,a,b=>by
  have h:=zlk u (fun y=>p (sw x.natAbs y)) a b;have e:lk (x::u) p a b=(if a=p (x.natAbs-1)∧b=p x.natAbs∨a=p x.natAbs∧b=p (x.natAbs-1) then sgL x else 0)+lk u (fun y=>p (sw x.natAbs y)) a b:=rfl
  rw [e,List.length_cons];have s:-1≤sgL x∧sgL x≤1:=by unfold sgL;split <;> omega
  split <;> omega
theorem lnP_f:∀ {w:List Int},Vld n w→∀ (p:Pm n),(w.foldl (fun p x=>swP p x.natAbs) p).f=lnF w p.f
 | [],_,_=>rfl
 | l::w,h,p=>by
  show (w.foldl (fun p x=>swP p x.natAbs) (swP p l.natAbs)).f=lnF w (fun y=>p.f (sw l.natAbs y));rw [lnP_f h.tail];unfold swP;rw [dif_pos h.head];rfl
theorem zuj (u:List Int) (x:Int) (p:Nat→Nat) (a b:Nat):lk (u++[x]) p a b=lk u p a b+(if a=lnF u p (x.natAbs-1)∧b=lnF u p x.natAbs∨a=lnF u p x.natAbs∧b=lnF u p (x.natAbs-1) then sgL x else 0):=by
 rw [zer];show _+(_+0)=_;rw [Int.add_zero]
namespace PLnk
noncomputable abbrev lkN (w:List Int):Nat→Nat→Int:=lk w id
noncomputable abbrev lnkV (n:Int) (w:List Int):EV:=.tup [.lst (.recs [.list [.int .i64]] (bc (chk n w != 0) [] (mx n.toNat (lkN w)))),iv (chk n w)]
end PLnk
end
section
variable {n:Nat}
noncomputable def pR (p:Pm n):List Int:=(List.range n).map fun x=>((p.f x:Nat):Int)
theorem zib (p:Pm n):(pR p).length=n:=by unfold pR;rw [List.length_map,List.length_range]
theorem zk6 (p:Pm n) {x:Nat} (hx:x<n):(pR p).getD x 0=(p.f x:Int):=by
 unfold pR;rw [List.getD_eq_getElem?_getD,List.getElem?_map,List.getElem?_range hx];rfl
theorem zvw {p:Pm n} {l:List Int} (hl:l.length=n) (h:∀ x,x<n→l.getD x 0=(p.f x:Int)):l=pR p:=by
 apply List.ext_getElem (by rw [hl,zib]);intro x h1 h2;have h3:=h x (by omega);rw [← zk6 p (by omega),zav h1,zav h2] at h3;exact h3
noncomputable instance pmDec (p q:Pm n):Decidable (p=q):=Classical.propDecidable _
theorem pR_L (p:Pm n) {i:Nat} (hi:0<i∧i<n):((pR p).set (i-1) (p.f i:Int)).set i (p.f (i-1):Int)=pR (p.L i hi):=zvw (by rw [List.length_set,List.length_set,zib]) fun x hx=>by
 show _=((p.f (sw i x):Nat):Int);rw [gset2,gset2,List.length_set,zib]
 by_cases h1:x=i
 ·rw [if_pos ⟨h1,by omega⟩,h1,Pm.sw_at]
 ·rw [if_neg (fun h=>h1 h.1)]
  by_cases h2:x=i-1
  ·rw [if_pos ⟨h2,by omega⟩,h2,Pm.sw_pre hi.1]
  ·rw [if_neg (fun h=>h2 h.1),zk6 p hx,Pm.sw_ne h1 (by omega)]
end
end Go.Proofs.Ytfffbioafhppiaa.Ev

namespace Go.Proofs.Ytfffbioafhppiaa.Ev
section
variable {n:Nat}
namespace RLin
noncomputable def rng (i:Nat):List Int:=(List.range i).map fun x=>((x:Nat):Int)
theorem rng_len (i:Nat):(rng i).length=i:=by unfold rng;rw [List.length_map,List.length_range]
theorem rng_succ (i:Nat):rng i++[(i:Int)]=rng (i+1):=by unfold rng;rw [List.range_succ,List.map_append];rfl
end RLin
end
end Go.Proofs.Ytfffbioafhppiaa.Ev

namespace Go.Proofs.Ytfffbioafhppiaa.Ev
section
variable {n:Nat}
end
end Go.Proofs.Ytfffbioafhppiaa.Ev

namespace Go.Proofs.Ytfffbioafhppiaa.Ev
section
variable {n:Nat}
end
end Go.Proofs.Ytfffbioafhppiaa.Ev

namespace Go.Proofs.Ytfffbioafhppiaa.Ev
section
variable {n:Nat}
namespace RSiz
noncomputable def RUN (s:ES):ZF:=RZ 61 .nil (fun _=>false) [] [] false s
theorem in_t (x:Int):RUN (st0 61 [iv x])=(.done (iv (if IntKind.i64.wrap ((0:Int)-x) > x then IntKind.i64.wrap ((0:Int)-x) else x)) [] 0):=by kernel_rfl
theorem ends {x:Int} (hx:-1000≤x∧x≤1000):EndZ 61 .nil false (st0 61 [iv x]) (iv (x.natAbs:Nat)) [] 0:=by
 have h:=in_t x;have e:(if IntKind.wrap IntKind.i64 (0-x) > x then IntKind.wrap IntKind.i64 (0-x) else x)=((x.natAbs:Nat):Int):=by
  rw [zae (0-x) (by omega) (by omega)];split <;> omega
 rw [e] at h;exact .done h
end RSiz
noncomputable def spSiz:ZCT:=fun ax=>match ax with
 | [.v (.int .i64 x)]=>some ⟨decide (-1000≤x∧x≤1000),iv (x.natAbs:Nat),[],0⟩
 | _=>none
theorem zq3:ZCtOk Try.prog 61 spSiz:=fun γ w us ax r hs hc hax hN hfz=>by
 unfold spSiz at hs;split at hs
 case h_2=>cases hs
 rename_i x;obtain ⟨rfl⟩:=Option.some.inj hs;have hc_0:decide (-1000≤x∧x≤1000)=true:=hc;have hc:=of_decide_eq_true hc_0;exact EndZ.calls (RSiz.ends hc) (.nil _) (by kernel_rfl) hax hN hfz
namespace RPrm
noncomputable def ct:Tr ZCC:=(Tr.nil.put 45 (some (dC spRChk))).put 61 (some (dC spSiz))
theorem ct_ok:ZCtsOk Try.prog ct:=((ZCtsOk.nil _).add rfl znx).add rfl zq3
end RPrm
end
section
variable {n:Nat}
end
section
noncomputable def ctOq:Tr ZCC:=(((Tr.nil.put 52 (some (dC spPChL))).put 82 (some (dC spPLay))).put 24 (some (dC spPSam))).put 78 (some (mC spDlf))
theorem zen:ZCtsOk Try.prog ctOq:=((((ZCtsOk.nil _).add rfl zh1).add rfl zhz).add rfl zhy).addM rfl zq8
noncomputable def ctO0:Tr ZCC:=(((Tr.nil.put 52 (some (dC spPChL))).put 82 (some (dC spPLay))).put 24 (some (dC spPSam))).put 79 (some (dC spClo0))
theorem zu1:ZCtsOk Try.prog ctO0:=((((ZCtsOk.nil _).add rfl zh1).add rfl zhz).add rfl zhy).add rfl zn1
noncomputable def offF (t:Int) (w:List Int) (a:Bool) (i:Nat):Bool:=samB t w (bc (PLay.layE t w i a != 0) [] (layW t.toNat w i (PLay.sgn a)))
noncomputable def offI (t:Int) (w:List Int) (a:Bool) (i:Nat):List Nat:=(List.range i).filter (offF t w a)
theorem zif (t:Int) (w:List Int) (a:Bool) (i:Nat):offI t w a (i+1)=offI t w a i++(if offF t w a i then [i] else []):=by
 unfold offI;rw [List.range_succ,zfn]
theorem zew (t:Int) (w:List Int) (a:Bool) (i:Nat):(offI t w a i).length≤i:=by
 have:=List.length_filter_le (offF t w a) (List.range i);rw [List.length_range] at this;exact this
noncomputable def offE (t:Int) (l:List Int):Int:=bc (chkL t l != 0) (chkL t l) (bc (decide (12<t)) 3 (bc (decide (378<((nop l).length:Int))) 3 0))
noncomputable abbrev shOff (t:Int) (l:List Int):EV:=.tup [il (bc (offE t l != 0) [] (ofNs (offI t (nop l) true t.toNat))),il (bc (offE t l != 0) [] (ofNs (offI t (nop l) false t.toNat))),iv (offE t l)]
theorem ze5 {t:Int} {l:List Int} {e:Int} (h:offE t l=e) (he:e≠0):Weak (.tup [.v (.slice none 0 0),.v (.slice none 0 0),iv e]) (shOff t l):=by
 unfold shOff;rw [h,show (e != 0)=true by simp [he],bc_t,bc_t];exact .tup (.cons (Weak.nilI _) (.cons (Weak.nilI _) (.cons (.refl _) .nil)))
theorem oneO (x:Int):[x]=[x]:=rfl
noncomputable def hasT (k:Nat) (s:ES):Bool:=match s.rest with
 | f::_=>match f.T.get k with
  | some _=>true
  | none=>false
 | []=>false
namespace POff
noncomputable def places:PLs:=[(atS 0 34 5,[[(1,none),(2,none),(3,none),(4,none),(6,none)]]),(fun s=>bc (atS 1 81 3 s) (bc (hasT 27 s) false true) false,[[(0,none),(1,none),(2,none),(4,none),(5,some (1,3,.ints .i64 [])),(12,none),(13,none)],[(2,none),(3,none),(4,none),(7,none)]]),(fun s=>bc (atS 1 81 3 s) (hasT 27 s) false,[[(0,none),(1,none),(2,none),(4,none),(5,some (1,3,.ints .i64 [])),(12,none),(13,none)],[(2,none),(3,none),(4,none),(27,none)]])]
noncomputable def RUN (s:ES):ZF:=RZs 34 ctOq places [] false s
noncomputable def RUN0 (s:ES):ZF:=RZs 34 ctO0 places [] false s
noncomputable def sW (t:Int) (l w:List Int):NS:=⟨[⟨34,30,[(1,(EV.ptr 0 0)),(2,(EV.v (Value.slice Option.none 0 0))),(3,(EV.v (Value.slice Option.none 0 0))),(4,(iv (0))),(6,(EV.ptr 1 0))],[.it (.code (nav [1,1,1,0] (bodyOf Try.f34))),.it (.code (nav [1,1,1,1] (bodyOf Try.f34)))],[],Option.none⟩],[(0,EK.cells 24 [iv t,il l] true),(1,EK.cells 22 [il w] true)],2⟩
noncomputable def sA (t:Int) (l w g:List Int) (nn:Bool) (m i:Int):NS:=⟨[⟨81,40,[(0,(bv true)),(1,(EV.ptr 0 0)),(2,(EV.ptr 1 0)),(4,(EV.v (Value.slice Option.none 0 0))),(5,EV.slO 2 1 g.length nn),(12,iv m),(13,iv i)],[.it (.code (nav [1,1,0,1,0,0] (bodyOf Try.f81))),.it (.inLoop (nav [1,1,0,1,0,0] (bodyOf Try.f81))),.it (.inBlock 0),.it (.code (nav [1,1,1] (bodyOf Try.f81)))],[],Option.none⟩,⟨34,30,[(2,(EV.v (Value.slice Option.none 0 0))),(3,(EV.v (Value.slice Option.none 0 0))),(4,(iv (0))),(7,(EV.fn 81 [(EV.ptr 0 0),(EV.ptr 1 0)]))],[.ops (opsOf (nav [1,1,1,1,1,0] (bodyOf Try.f34))) ((opsOf (nav [1,1,1,1,1,0] (bodyOf Try.f34))).toList.drop 1),.it (.code (nav [1,0,1,1,0,1] (bodyOf Try.f34)))],[],Option.none⟩],[(0,EK.cells 24 [iv t,il l] true),(1,EK.cells 22 [il w] true),(2,EK.seq 3 (.ints .i64 g) nn)],3⟩
noncomputable def sB (t:Int) (l w a:List Int) (na:Bool) (g:List Int) (nn:Bool) (m i:Int):NS:=⟨[⟨81,40,[(0,(bv false)),(1,(EV.ptr 0 0)),(2,(EV.ptr 1 0)),(4,(EV.v (Value.slice Option.none 0 0))),(5,EV.slO 2 1 g.length nn),(12,iv m),(13,iv i)],[.it (.code (nav [1,1,0,1,0,0] (bodyOf Try.f81))),.it (.inLoop (nav [1,1,0,1,0,0] (bodyOf Try.f81))),.it (.inBlock 0),.it (.code (nav [1,1,1] (bodyOf Try.f81)))],[],Option.none⟩,⟨34,30,[(2,(EV.v (Value.slice Option.none 0 0))),(3,(EV.v (Value.slice Option.none 0 0))),(4,(iv (0))),(27,(EV.slO 3 1 (List.length a) na))],[.ops (opsOf (nav [1,1,1,1,1,0] (bodyOf Try.f34))) ((opsOf (nav [1,1,1,1,1,0] (bodyOf Try.f34))).toList.drop 3),.it (.code (nav [1,0,1,1,0,1] (bodyOf Try.f34)))],[],Option.none⟩],[(0,(EK.cells 24 [(iv t),(il l)] true)),(1,(EK.cells 22 [(il w)] true)),(2,EK.seq 3 (.ints .i64 g) nn),(3,(EK.seq 3 (SyC.ints IntKind.i64 a) na))],4⟩
theorem in_t (t:Int) (l:List Int):RUN (st0 34 [hE t l])=(bc (bc (decide (In64 l)) true false) (bc (chkL t l != 0) (.done (EV.tup [(EV.v (Value.slice Option.none 0 0)),(EV.v (Value.slice Option.none 0 0)),(iv (chkL t l))]) [] 0) (bc (bc (Nat.blt 0 l.length) true false) (bc (bc (Nat.ble (0+l.length) 65536) true false) (bc (bc (bc (Nat.beq ([]++l).length ([]++l).length) (bc (Nat.ble ([]++l).length 65536) true false) false) true false) (.at (sW t l (nop ([]++l)))) .bad) .bad) .bad)) .bad):=by kernel_rfl
theorem n_t (t:Int):RUN0 (st0 34 [hE t []])=(bc (bc (decide (In64 [])) true false) (bc (chkL t [] != (0:Int)) (.done (EV.tup [(EV.v (Value.slice Option.none 0 0)),(EV.v (Value.slice Option.none 0 0)),(EV.v (Value.int IntKind.i64 (chkL t [])))]) [] 0) (.at (sW (t) ([]) ([])))) .bad):=by kernel_rfl
theorem w_t (t:Int) (l w:List Int):RUN (stOf (sW t l w))=(bc (decide (12<t)) (.done (EV.tup [(EV.v (Value.slice Option.none 0 0)),(EV.v (Value.slice Option.none 0 0)),(iv (3))]) [] 0) (bc (decide (378<Int.ofNat w.length)) (.done (EV.tup [(EV.v (Value.slice Option.none 0 0)),(EV.v (Value.slice Option.none 0 0)),(iv (3))]) [] 0) (.at (sA t l w [] false t 0)))):=by kernel_rfl
theorem a_t (t:Int) (l w g:List Int) (nn:Bool) (m i:Int):RUN (stOf (sA t l w g nn m i))=(bc (decide (i<m)) (bc (samB t w (bc (PLay.layE t w i true != 0) [] (layW t.toNat w i.toNat (PLay.sgn true)))) (bc (bc (Nat.beq g.length g.length) (bc (Nat.ble (g.length+([i]).length) 65536) (bc nn true (bc nn false true)) false) false) (.at (sA t l w (g++[i]) (bc nn true (Nat.blt 0 ([i]).length)) m (IntKind.i64.wrap (i+1)))) .bad) (.at (sA t l w g nn m (IntKind.i64.wrap (i+1))))) (.at (sB t l w g nn [] false t 0))):=by kernel_rfl
theorem b_t (t:Int) (l w a:List Int) (na:Bool) (g:List Int) (nn:Bool) (m i:Int):RUN (stOf (sB t l w a na g nn m i))=(bc (decide (i<m)) (bc (samB t w (bc (PLay.layE t w i false != 0) [] (layW t.toNat w i.toNat (PLay.sgn false)))) (bc (bc (Nat.beq g.length g.length) (bc (Nat.ble (g.length+([i]).length) 65536) (bc nn true (bc nn false true)) false) false) (.at (sB t l w a na (g++[i]) (bc nn true (Nat.blt 0 ([i]).length)) m (IntKind.i64.wrap (i+1)))) .bad) (.at (sB t l w a na g nn m (IntKind.i64.wrap (i+1))))) (bc (bc (Nat.beq a.length a.length) (bc (Nat.beq g.length g.length) true false) false) (.done (EV.tup [(il a),(il g),(iv (0))]) [] 0) .bad)):=by kernel_rfl
variable {n:Nat} {l w:List Int} {R:EV}
theorem stepA {nn:Bool} {i:Nat} (hn:n≤48) (hi:i<n):∃ nn',RUN (stOf (sA n l w (ofNs (offI n w true i)) nn n i)) = .at (sA n l w (ofNs (offI n w true (i+1))) nn' n (i+1:Nat)):=by
 have h:=a_t n l w (ofNs (offI n w true i)) nn n i;have e0:Int.toNat (i:Int)=i:=rfl;have hl:=zew n w true i;have w1:bc nn true (Nat.blt 0 (List.length [(i:Int)]))=true:=by cases nn <;> rfl
 have w2:bc nn true (bc nn false true)=true:=by cases nn <;> rfl
 have w4:IntKind.wrap IntKind.i64 ((i:Int)+1)=((i+1:Nat):Int):=by rw [zae _ (by omega) (by omega)];omega
 have eF:samB n w (bc (PLay.layE n w i true != 0) [] (layW (Int.toNat n) w i (PLay.sgn true)))=offF n w true i:=rfl;have e:=congrArg ofNs (zif n w true i);rw [zg2] at e;rw [oneO,e0,w1,w2,w4,eF,dt (show (i:Int)<(n:Int) by omega),bc_t] at h;simp only [zdy] at h
 cases c:offF n w true i with
 | true=>
  rw [c,if_pos rfl] at e;rw [c] at h;simp (disch:=omega) only [yS] at h;exact ⟨true,by rw [e];exact h⟩
 | false=>
  rw [c,if_neg (by simp)] at e;rw [c] at h;simp (disch:=omega) only [yS] at h;exact ⟨nn,by rw [e,show ofNs []=([]:List Int) from rfl,List.append_nil];exact h⟩
theorem stepB {a:List Int} {na nn:Bool} {i:Nat} (hn:n≤48) (hi:i<n):∃ nn',RUN (stOf (sB n l w a na (ofNs (offI n w false i)) nn n i)) = .at (sB n l w a na (ofNs (offI n w false (i+1))) nn' n (i+1:Nat)):=by
 have h:=b_t n l w a na (ofNs (offI n w false i)) nn n i;have e0:Int.toNat (i:Int)=i:=rfl;have hl:=zew n w false i;have w1:bc nn true (Nat.blt 0 (List.length [(i:Int)]))=true:=by cases nn <;> rfl
 have w2:bc nn true (bc nn false true)=true:=by cases nn <;> rfl
 have w4:IntKind.wrap IntKind.i64 ((i:Int)+1)=((i+1:Nat):Int):=by rw [zae _ (by omega) (by omega)];omega
 have eF:samB n w (bc (PLay.layE n w i false != 0) [] (layW (Int.toNat n) w i (PLay.sgn false)))=offF n w false i:=rfl;have e:=congrArg ofNs (zif n w false i);rw [zg2] at e;rw [oneO,e0,w1,w2,w4,eF,dt (show (i:Int)<(n:Int) by omega),bc_t] at h;simp only [zdy] at h
 cases c:offF n w false i with
 | true=>
  rw [c,if_pos rfl] at e;rw [c] at h;simp (disch:=omega) only [yS] at h;exact ⟨true,by rw [e];exact h⟩
 | false=>
  rw [c,if_neg (by simp)] at e;rw [c] at h;simp (disch:=omega) only [yS] at h;exact ⟨nn,by rw [e,show ofNs []=([]:List Int) from rfl,List.append_nil];exact h⟩
theorem loopB {a:List Int} {na:Bool} (hn:n≤48):∀ (d i:Nat) (nn:Bool),i+d=n→EndZ 34 ctOq false (stOf (sB n l w a na (ofNs (offI n w false i)) nn n i)) (.tup [il a,il (ofNs (offI n w false n)),iv 0]) [] 0
 | 0,i,nn,h=>by
  obtain rfl:i=n:=by omega
  have q:=b_t i l w a na (ofNs (offI i w false i)) nn i i;rw [df (show ¬ (i:Int)<(i:Int) by omega),bc_f] at q;simp (disch:=omega) only [yS] at q;exact .done q
 | d+1,i,nn,h=>by
  obtain ⟨nn',q⟩:=stepB (n:=n) (l:=l) (w:=w) (a:=a) (na:=na) (nn:=nn) hn (show i<n by omega);exact .at zen q (loopB hn d (i+1) nn' (by omega))
theorem loopA (hn:n≤48):∀ (d i:Nat) (nn:Bool),i+d=n→EndZ 34 ctOq false (stOf (sA n l w (ofNs (offI n w true i)) nn n i)) (.tup [il (ofNs (offI n w true n)),il (ofNs (offI n w false n)),iv 0]) [] 0
 | 0,i,nn,h=>by
  obtain rfl:i=n:=by omega
  have q:=a_t i l w (ofNs (offI i w true i)) nn i i;rw [df (show ¬ (i:Int)<(i:Int) by omega),bc_f] at q;exact .at zen q (loopB hn i 0 false (by omega))
 | d+1,i,nn,h=>by
  obtain ⟨nn',q⟩:=stepA (n:=n) (l:=l) (w:=w) (nn:=nn) hn (show i<n by omega);exact .at zen q (loopA hn d (i+1) nn' (by omega))
theorem mid {t:Int} {l:List Int} (z:chkL t l=0):EndZ 34 ctOq false (stOf (sW t l (nop l))) (shOff t l) [] 0:=by
 have q:=w_t t l (nop l);have hb:=(zj9.1 z).1;have eE:offE t l=bc (decide (12<t)) 3 (bc (decide (378<((nop l).length:Int))) 3 0):=by
  unfold offE;rw [z];rfl
 by_cases c1:12<t
 ·rw [dt c1,bc_t] at q;exact (EndZ.done q).weak (ze5 (by rw [eE,dt c1,bc_t]) (by decide))
 rw [df c1,bc_f] at q eE
 by_cases c2:378<((nop l).length:Int)
 ·rw [ofn,dt c2,bc_t] at q;exact (EndZ.done q).weak (ze5 (by rw [eE,dt c2,bc_t]) (by decide))
 rw [ofn,df c2,bc_f] at q;rw [df c2,bc_f] at eE;obtain ⟨n,rfl⟩:=Int.eq_ofNat_of_zero_le (show 0≤t by omega);refine .at zen q ?_;unfold shOff;rw [eE];exact loopA (l:=l) (w:=nop l) (by omega) n 0 false (by omega)
theorem lead {s:ES} {r:NS} {a:EV} {K:List (Nat×EK)} {m:Nat} (h:RUN0 s = .at r) (k:EndZ 34 ctOq false (stOf r) a K m):EndZ 34 ctOq false s a K m:=k.lead (leadsZ zu1 h)
theorem ends {t:Int} {l:List Int} (hx:In64 l):EndZ 34 ctOq false (st0 34 [hE t l]) (shOff t l) [] 0:=by
 have q:=in_t t l;rw [dt hx] at q
 by_cases z:chkL t l=0
 ·have hb:=zj9.1 z
  cases l with
  | nil=>
   have q0:=n_t t;rw [dt hx,z,show ((0:Int) != 0)=false from rfl] at q0
   simp only [bc_t,bc_f] at q0;have:=mid z;exact lead q0 this
  | cons x l=>
   have hl:(x::l).length≤2000:=hb.2.1;rw [z,show ((0:Int) != 0)=false from rfl,List.nil_append] at q
   have h1:Nat.blt 0 (x::l).length=true:=Nat.ble_eq_true_of_le (by rw [List.length_cons];omega);have h2:Nat.ble (0+(x::l).length) 65536=true:=Nat.ble_eq_true_of_le (by omega);have h3:Nat.ble (x::l).length 65536=true:=Nat.ble_eq_true_of_le (by omega);rw [h1,h2,h3,Nat.beq_refl] at q;simp only [bc_t,bc_f] at q;exact .at zen q (mid z)
 ·rw [show (chkL t l != 0)=true by simp [z]] at q;simp only [bc_t,bc_f] at q;exact (EndZ.done q).weak (ze5 (by unfold offE;rw [show (chkL t l != 0)=true by simp [z],bc_t]) z)
end POff
noncomputable def spPOff:ZCT:=fun ax=>match ax with
 | [.agg [.v (.int .i64 t),.lst (.ints .i64 l)]]=>some ⟨decide (In64 l),shOff t l,[],0⟩
 | _=>none
theorem zn0:ZCtOk Try.prog 34 spPOff:=fun γ w us ax r hs hc hax hN hfz=>by
 unfold spPOff at hs;split at hs
 case h_2=>cases hs
 rename_i t l;obtain ⟨rfl⟩:=Option.some.inj hs;have hc_0:decide (In64 l)=true:=hc;have hc:=of_decide_eq_true hc_0;exact EndZ.calls (POff.ends hc) zen (by kernel_rfl) hax hN hfz
namespace ROff
variable {n:Nat} {l w:List Int}
end ROff
end
def InjF (p:Nat→Nat):Prop:=∀ y z,p y=p z→y=z
theorem znp {k y:Nat} (h:y≠k) (h2:y≠k-1):sw k y=y:=by unfold sw;rw [if_neg h,if_neg (by omega)]
theorem InjF.sw {p:Nat→Nat} (h:InjF p) {k:Nat} (hk:0<k):InjF fun y=>p (Ev.sw k y):=fun y z e=>by
 have e1:=h _ _ e;have e2:=congrArg (Ev.sw k) e1
 rwa [sw_sw hk,sw_sw hk] at e2
theorem InjF.lnF:∀ {u:List Int} {p:Nat→Nat},(∀ x,x∈u→0<x.natAbs)→InjF p→InjF (Ev.lnF u p)
 | [],_,_,h=>h
 | x::u,p,hu,h=>InjF.lnF (u:=u) (fun y hy=>hu y (List.mem_cons_of_mem _ hy)) (h.sw (hu x List.mem_cons_self))
theorem zsj {s:Int} (hs:s=1∨s = -1) {k:Nat} (hk:0<k):sgL (s*(k:Int))=s:=by
 unfold sgL;rcases hs with rfl|rfl
 ·rw [if_neg (by omega)]
 ·rw [if_pos (by omega)]
theorem zjn (x:Int) (u:List Int) (p:Nat→Nat) (a b:Nat):lk (x::u) p a b=(if a=p (x.natAbs-1)∧b=p x.natAbs∨a=p x.natAbs∧b=p (x.natAbs-1) then sgL x else 0)+lk u (fun y=>p (sw x.natAbs y)) a b:=rfl
theorem lk_up {s:Int} (hs:s=1∨s = -1) (b:Nat):∀ (d x:Nat) (p:Nat→Nat),InjF p→(lk (upW s x d) p (p x) b=0∨lk (upW s x d) p (p x) b=s)∧((∀ j,x<j→p j≠b)→lk (upW s x d) p (p x) b=0)
 | 0,x,p,_=>⟨.inl rfl,fun _=>rfl⟩
 | d+1,x,p,hp=>by
  have ha:(s*((x+1:Nat):Int)).natAbs=x+1:=zke hs (x+1);have hsg:sgL (s*((x+1:Nat):Int))=s:=zsj hs (by omega);obtain ⟨i1,i2⟩:=lk_up hs b d (x+1) (fun y=>p (sw (x+1) y)) (hp.sw (by omega));have e1:p (sw (x+1) (x+1))=p x:=by rw [sw_at (by omega)];rfl
  show (lk (s*((x+1:Nat):Int)::upW s (x+1) d) p (p x) b=0∨lk (s*((x+1:Nat):Int)::upW s (x+1) d) p (p x) b=s)∧(_→lk (s*((x+1:Nat):Int)::upW s (x+1) d) p (p x) b=0);rw [zjn,ha,hsg,show x+1-1=x by omega];rw [e1] at i1 i2;have hj:∀ j,x+1<j→p (sw (x+1) j)=p j:=fun j h=>by rw [znp (by omega) (by omega)]
  by_cases c:b=p (x+1)
  ·have z:=i2 fun j h=>by
    show p (sw (x+1) j)≠b;rw [hj j h,c];intro e;have:=hp _ _ e;omega
   rw [z,if_pos (.inl ⟨rfl,c⟩)];refine ⟨.inr (by omega),fun h=>absurd c.symm (h (x+1) (by omega))⟩
  ·have c2:¬ (p x=p (x+1)):=fun e=>by have:=hp _ _ e;omega
   rw [if_neg (by rintro (⟨_,h⟩|⟨h,_⟩);exact c h;exact c2 h),Int.zero_add]
   exact ⟨i1,fun h=>i2 fun j h2=>by
    show p (sw (x+1) j)≠b;rw [hj j h2];exact h j (by omega)⟩
theorem ln_up {s:Int} (hs:s=1∨s = -1):∀ (d x:Nat) (p:Nat→Nat),lnF (upW s x d) p (x+d)=p x
 | 0,x,p=>rfl
 | d+1,x,p=>by
  have ha:(s*((x+1:Nat):Int)).natAbs=x+1:=zke hs (x+1);show lnF (upW s (x+1) d) (fun y=>p (sw (s*((x+1:Nat):Int)).natAbs y)) (x+(d+1))=p x;rw [ha,show x+(d+1)=x+1+d by omega,ln_up hs d (x+1)];rw [sw_at (by omega)];rfl
theorem zsu {m:Nat} (b:Nat):∀ {u:List Int} {p:Nat→Nat},Vld m u→InjF p→lk u p (p m) b=0∧lnF u p m=p m
 | [],p,_,_=>⟨rfl,rfl⟩
 | x::u,p,hv,hp=>by
  have hx:=hv.head;have e:p (sw x.natAbs m)=p m:=by rw [znp (by omega) (by omega)]
  obtain ⟨i1,i2⟩:=zsu b (u:=u) (p:=fun y=>p (sw x.natAbs y)) hv.tail (hp.sw hx.1);rw [e] at i1 i2;refine ⟨?_,i2⟩;rw [zjn,i1,if_neg,Int.zero_add]
  rintro (⟨h,_⟩|⟨h,_⟩)
  ·have:=hp _ _ h;omega
  ·have:=hp _ _ h;omega
theorem lk_dn {s:Int} (hs:s=1∨s = -1) (a b:Nat):∀ (d:Nat) (p:Nat→Nat),InjF p→(lk (dnW s a d) p (p (a+d)) b=0∨lk (dnW s a d) p (p (a+d)) b=s)∧((∀ j,j<a+d→p j≠b)→lk (dnW s a d) p (p (a+d)) b=0)
 | 0,p,_=>⟨.inl rfl,fun _=>rfl⟩
 | d+1,p,hp=>by
  have ha:(s*((a+d+1:Nat):Int)).natAbs=a+d+1:=zke hs (a+d+1);have hsg:sgL (s*((a+d+1:Nat):Int))=s:=zsj hs (by omega);obtain ⟨i1,i2⟩:=lk_dn hs a b d (fun y=>p (sw (a+d+1) y)) (hp.sw (by omega));have e1':p (sw (a+d+1) (a+d))=p (a+d+1):=by
   have:=sw_lo (k:=a+d+1) (by omega);rw [show a+d+1-1=a+d by omega] at this;rw [this]
  rw [e1'] at i1 i2;show (lk (s*((a+d+1:Nat):Int)::dnW s a d) p (p (a+d+1)) b=0∨lk (s*((a+d+1:Nat):Int)::dnW s a d) p (p (a+d+1)) b=s)∧(_→lk (s*((a+d+1:Nat):Int)::dnW s a d) p (p (a+d+1)) b=0);rw [zjn,ha,hsg,show a+d+1-1=a+d by omega];have hj:∀ j,j<a+d→p (sw (a+d+1) j)=p j:=fun j h=>by rw [znp (by omega) (by omega)]
  by_cases c:b=p (a+d)
  ·have z:=i2 fun j h=>by
    show p (sw (a+d+1) j)≠b;rw [hj j h,c];intro e;have:=hp _ _ e;omega
   rw [z,if_pos (.inr ⟨rfl,c⟩)];exact ⟨.inr (by omega),fun h=>absurd c.symm (h (a+d) (by omega))⟩
  ·have c2:¬ (p (a+d+1)=p (a+d)):=fun e=>by have:=hp _ _ e;omega
   rw [if_neg (by rintro (⟨h,_⟩|⟨_,h⟩);exact c2 h;exact c h),Int.zero_add]
   exact ⟨i1,fun h=>i2 fun j h2=>by
    show p (sw (a+d+1) j)≠b;rw [hj j h2];exact h j (by omega)⟩
theorem Vld.pos {n:Nat} {u:List Int} (h:Vld n u):∀ x,x∈u→0<x.natAbs:=fun x hx=>by have:=h x hx;omega
theorem zv0 {n:Nat} {w:List Int} {p:Nat} {s:Int} (hs:s=1∨s = -1) (h:Vld n w) (hp:p<n) (b:Nat):-1≤lk (layW n w p s) id p b∧lk (layW n w p s) id p b≤1:=by
 have hq:(oth p w).2<n:=by rw [zic];exact gW_lt h hp
 have hu:=zg1 h hp;have hup:=znj (n:=n) hs (n-1-p) p (by omega);have i0:InjF id:=fun _ _ e=>e;have i1:=InjF.lnF hup.pos i0;have i2:=InjF.lnF hu.pos i1;have l1:=ln_up hs (n-1-p) p id;rw [show p+(n-1-p)=n-1 by omega] at l1;have u1:=(lk_up hs b (n-1-p) p id i0).1;obtain ⟨m1,m2⟩:=zsu b (m:=n-1) hu i1;have d1:=(lk_dn (zop hs) (oth p w).2 b (n-1-(oth p w).2) _ i2).1;rw [show (oth p w).2+(n-1-(oth p w).2)=n-1 by omega,m2,l1] at d1;rw [l1] at m1
 have e:lk (layW n w p s) id p b=lk (upW s p (n-1-p)) id p b+lk (oth p w).1 (lnF (upW s p (n-1-p)) id) p b+lk (dnW (-s) (oth p w).2 (n-1-(oth p w).2)) (lnF (oth p w).1 (lnF (upW s p (n-1-p)) id)) p b:=by
  unfold layW;rw [zer,zer,zeg]
 have u1:lk (upW s p (n-1-p)) id p b=0∨lk (upW s p (n-1-p)) id p b=s:=u1;have d1:lk (dnW (-s) (oth p w).2 (n-1-(oth p w).2)) (lnF (oth p w).1 (lnF (upW s p (n-1-p)) id)) p b=0∨lk (dnW (-s) (oth p w).2 (n-1-(oth p w).2)) (lnF (oth p w).1 (lnF (upW s p (n-1-p)) id)) p b = -s:=d1;have m1:lk (oth p w).1 (lnF (upW s p (n-1-p)) id) p b=0:=m1;rw [e,m1];rcases hs with rfl|rfl <;> rcases u1 with u1|u1 <;> rcases d1 with d1|d1 <;> rw [u1,d1] <;> decide
section
variable {n:Nat}
noncomputable def spNo2:ZCT:=fun _=>none
theorem zq5:ZCtOk Try.prog 2 spNo2:=fun _ _ _ _ _ h=>by cases h
namespace RLnk
noncomputable def ct:Tr ZCC:=RPrm.ct.put 2 (some (dC spNo2))
theorem ct_ok:ZCtsOk Try.prog ct:=RPrm.ct_ok.add rfl zq5
noncomputable def RUN (s:ES):ZF:=RZs 37 ct [(atS 0 37 6,[[(0,none),(1,none),(7,none),(8,none)]]),(atS 1 85 3,[[(0,none),(3,some (1,3,.ints .i64 [])),(4,none)],[(1,none),(7,none)]]),(atS 0 37 11,[[(1,none),(7,none),(9,none),(10,none)]]),(atS 0 37 14,[[(1,none),(7,none),(9,none),(10,none),(11,none)]]),(atS 0 37 15,[[(1,none),(7,none),(9,none),(10,none),(11,none),(12,none),(13,none)]]),(atS 0 37 16,[[(1,none),(7,none),(9,none),(10,none),(11,none),(12,none),(13,none),(14,none)]]),(atS 0 37 17,[[(1,none),(7,none),(9,none),(10,none),(11,none),(12,none),(13,none),(14,none)]])] [] false s
noncomputable def sA (n:Int) (w:List Int) (i:Int):NS:=⟨[⟨37,99,[(0,(iv n)),(1,(il w)),(7,(EV.v (Value.slice Option.none 0 0))),(8,iv i)],[.it (.code (nav [1,1,1,1,0,1,0,0,0] (bodyOf Try.f37))),.it (.code (nav [1,1,1,1,0,1,0,0,1] (bodyOf Try.f37))),.it (.inLoop (nav [1,1,1,1,0,1,0,0] (bodyOf Try.f37))),.it (.inBlock 0),.it (.code (nav [1,1,1,1,1] (bodyOf Try.f37)))],[],Option.none⟩],[],0⟩
noncomputable def sB (n:Int) (w:List Int) (m:Nat) (rows:List (List U)) (v:Nat) (i:Int):NS:=⟨[⟨37,99,[(0,iv n),(1,(il w)),(7,EV.slO 0 1 m true),(8,iv i)],[.it (.code (nav [1,1,1,1,0,1,0,0,0] (bodyOf Try.f37))),.it (.code (nav [1,1,1,1,0,1,0,0,1] (bodyOf Try.f37))),.it (.inLoop (nav [1,1,1,1,0,1,0,0] (bodyOf Try.f37))),.it (.inBlock 0),.it (.code (nav [1,1,1,1,1] (bodyOf Try.f37)))],[],Option.none⟩],[(0,EK.nest 0 (22,[3]) [.list [.int .i64]] rows v [] true)],1⟩
noncomputable def sL (n:Int) (w q:List Int) (nq:Bool) (m:Nat) (rows:List (List U)) (v:Nat) (i:Int):NS:=⟨[⟨85,15,[(0,iv n),(3,EV.slO 0 1 q.length nq),(4,iv i)],[.it (.code (nav [1,1,0,1,0,0,0] (bodyOf Try.f85))),.it (.code (nav [1,1,0,1,0,0,1] (bodyOf Try.f85))),.it (.inLoop (nav [1,1,0,1,0,0] (bodyOf Try.f85))),.it (.inBlock 0),.it (.code (nav [1,1,1] (bodyOf Try.f85)))],[],Option.none⟩,⟨37,99,[(1,(il w)),(7,EV.slO 1 1 m true)],[.ops (opsOf (nav [1,1,1,1,1,0] (bodyOf Try.f37))) ((opsOf (nav [1,1,1,1,1,0] (bodyOf Try.f37))).toList.drop 1),.it (.code (nav [1,1,1,1,1,1] (bodyOf Try.f37)))],[],Option.none⟩],[(0,EK.seq 3 (.ints .i64 q) nq),(1,EK.nest 1 (22,[3]) [.list [.int .i64]] rows v [] true)],2⟩
noncomputable def sC (w:List Int) (m:Nat) (rows:List (List U)) (v:Nat) (q:List Int) (k:Nat) (nq:Bool) (i:Int):NS:=⟨[⟨37,99,[(1,(il w)),(7,EV.slO 0 1 m true),(9,EV.slO 1 1 k nq),(10,iv i)],[.it (.code (nav [1,1,1,1,1,1,0,1,0,0,0] (bodyOf Try.f37))),.it (.code (nav [1,1,1,1,1,1,0,1,0,0,1] (bodyOf Try.f37))),.it (.inLoop (nav [1,1,1,1,1,1,0,1,0,0] (bodyOf Try.f37))),.it (.inBlock 2),.it (.code (nav [1,1,1,1,1,1,1] (bodyOf Try.f37)))],[],Option.none⟩],[(0,EK.nest 0 (22,[3]) [.list [.int .i64]] rows v [] true),(1,EK.seq 3 (.ints .i64 q) nq)],2⟩
noncomputable def sD (w:List Int) (m:Nat) (rows:List (List U)) (v:Nat) (q:List Int) (k:Nat) (nq:Bool) (i x:Int):NS:=⟨[⟨37,99,[(1,il w),(7,EV.slO 0 1 m true),(9,EV.slO 1 1 k nq),(10,iv i),(11,iv x)],[.it (.code (nav [1,1,1,1,1,1,0,1,0,0,1,0,0,1] (bodyOf Try.f37))),.it (.inBlock 3),.it (.code (nav [1,1,1,1,1,1,0,1,0,0,1,1] (bodyOf Try.f37))),.it (.inLoop (nav [1,1,1,1,1,1,0,1,0,0] (bodyOf Try.f37))),.it (.inBlock 2),.it (.code (nav [1,1,1,1,1,1,1] (bodyOf Try.f37)))],[],Option.none⟩],[(0,EK.nest 0 (22,[3]) [.list [.int .i64]] rows v [] true),(1,EK.seq 3 (.ints .i64 q) nq)],2⟩
noncomputable def sE (w:List Int) (m:Nat) (rows:List (List U)) (v:Nat) (q:List Int) (k:Nat) (nq:Bool) (i x a b:Int):NS:=⟨[⟨37,99,[(1,il w),(7,EV.slO 0 1 m true),(9,EV.slO 1 1 k nq),(10,iv i),(11,iv x),(12,iv a),(13,iv b)],[.it (.code (nav [1,1,1,1,1,1,0,1,0,0,1,0,0,1,1] (bodyOf Try.f37))),.it (.inBlock 3),.it (.code (nav [1,1,1,1,1,1,0,1,0,0,1,1] (bodyOf Try.f37))),.it (.inLoop (nav [1,1,1,1,1,1,0,1,0,0] (bodyOf Try.f37))),.it (.inBlock 2),.it (.code (nav [1,1,1,1,1,1,1] (bodyOf Try.f37)))],[],Option.none⟩],[(0,EK.nest 0 (22,[3]) [.list [.int .i64]] rows v [] true),(1,EK.seq 3 (.ints .i64 q) nq)],2⟩
noncomputable def sF (w:List Int) (m:Nat) (rows:List (List U)) (v:Nat) (q:List Int) (k:Nat) (nq:Bool) (i x a b s:Int):NS:=⟨[⟨37,99,[(1,il w),(7,EV.slO 0 1 m true),(9,EV.slO 1 1 k nq),(10,iv i),(11,iv x),(12,iv a),(13,iv b),(14,iv s)],[.it (.code (nav [1,1,1,1,1,1,0,1,0,0,1,0,0,1,1,1] (bodyOf Try.f37))),.it (.inBlock 3),.it (.code (nav [1,1,1,1,1,1,0,1,0,0,1,1] (bodyOf Try.f37))),.it (.inLoop (nav [1,1,1,1,1,1,0,1,0,0] (bodyOf Try.f37))),.it (.inBlock 2),.it (.code (nav [1,1,1,1,1,1,1] (bodyOf Try.f37)))],[],Option.none⟩],[(0,EK.nest 0 (22,[3]) [.list [.int .i64]] rows v [] true),(1,EK.seq 3 (.ints .i64 q) nq)],2⟩
noncomputable def sG (w:List Int) (m:Nat) (rows:List (List U)) (v:Nat) (q:List Int) (k:Nat) (nq:Bool) (i x a b s:Int):NS:=⟨[⟨37,99,[(1,il w),(7,EV.slO 0 1 m true),(9,EV.slO 1 1 k nq),(10,iv i),(11,iv x),(12,iv a),(13,iv b),(14,iv s)],[.it (.code (nav [1,1,1,1,1,1,0,1,0,0,1,0,0,1,1,1,1] (bodyOf Try.f37))),.it (.inBlock 3),.it (.code (nav [1,1,1,1,1,1,0,1,0,0,1,1] (bodyOf Try.f37))),.it (.inLoop (nav [1,1,1,1,1,1,0,1,0,0] (bodyOf Try.f37))),.it (.inBlock 2),.it (.code (nav [1,1,1,1,1,1,1] (bodyOf Try.f37)))],[],Option.none⟩],[(0,EK.nest 0 (22,[3]) [.list [.int .i64]] rows v [] true),(1,EK.seq 3 (.ints .i64 q) nq)],2⟩
theorem in_t (n:Int) (w:List Int):RUN (st0 37 [iv n,il w])=(bc (chk n w != 0) (.done (EV.tup [(EV.v (Value.slice Option.none 0 0)),(iv (chk n w))]) [] 0) (.at (sA n w 0))):=by kernel_rfl
theorem a_t (n:Int) (w:List Int) (i:Int):RUN (stOf (sA n w i))=(bc (decide (i<n)) (bc (bc (decide (0≤n)) (bc (decide (n≤n)) (decide (n≤65536)) false) false) (bc (Nat.beq (zerosL n.toNat).length (zerosL n.toNat).length) (.at (sB n w (0+1) ([[U.l (List.map (fun x=>[U.i x]) (zerosL n.toNat))]]) (1) (IntKind.i64.wrap (i+1)))) .bad) .bad) (.at ⟨[⟨85,15,[(0,(iv n)),(3,(EV.slO 0 1 0 false)),(4,(iv (0)))],[.it (.code (nav [1,1,0,1,0,0,0] (bodyOf Try.f85))),.it (.code (nav [1,1,0,1,0,0,1] (bodyOf Try.f85))),.it (.inLoop (nav [1,1,0,1,0,0] (bodyOf Try.f85))),.it (.inBlock 0),.it (.code (nav [1,1,1] (bodyOf Try.f85)))],[],Option.none⟩,⟨37,99,[(1,(il w)),(7,(EV.v (Value.slice Option.none 0 0)))],[.ops (opsOf (nav [1,1,1,1,1,0] (bodyOf Try.f37))) ((opsOf (nav [1,1,1,1,1,0] (bodyOf Try.f37))).toList.drop 1),.it (.code (nav [1,1,1,1,1,1] (bodyOf Try.f37)))],[],Option.none⟩],[(0,(EK.seq 3 (SyC.ints IntKind.i64 []) false))],1⟩)):=by kernel_rfl
theorem b_t (n:Int) (w:List Int) (m:Nat) (rows:List (List U)) (v:Nat) (i:Int):RUN (stOf (sB n w m rows v i))=(bc (decide (i<n)) (bc (bc (decide (0≤n)) (bc (decide (n≤n)) (decide (n≤65536)) false) false) (bc (bc (Nat.beq (zerosL n.toNat).length (zerosL n.toNat).length) (bc (Nat.beq m rows.length) (bc (Nat.ble (m+1) 65536) true false) false) false) (.at (sB n w (m+1) (rows++[[U.l (List.map (fun x=>[U.i x]) (zerosL n.toNat))]]) (1) (IntKind.i64.wrap (i+1)))) .bad) .bad) (.at (sL n w [] false m rows v 0))):=by kernel_rfl
theorem l_t (n:Int) (w q:List Int) (nq:Bool) (m:Nat) (rows:List (List U)) (v:Nat) (i:Int):RUN (stOf (sL n w q nq m rows v i))=(bc (decide (i<n)) (bc (bc (Nat.beq q.length q.length) (bc (Nat.ble (q.length+([i]).length) 65536) (bc nq true (bc nq false true)) false) false) (.at (sL n w (q++[i]) (bc nq true (Nat.blt 0 ([i]).length)) m rows v (IntKind.i64.wrap (i+1)))) .bad) (.at (sC w m rows v q q.length nq 0))):=by kernel_rfl
theorem c_t (w:List Int) (m:Nat) (rows:List (List U)) (v:Nat) (q:List Int) (k:Nat) (nq:Bool) (i:Int):RUN (stOf (sC w m rows v q k nq i))=(bc (decide (i<Int.ofNat w.length)) (bc (bc (bc (decide (0≤i)) (Nat.blt i.toNat w.length) false) true false) (bc (bc (Nat.blt i.toNat w.length) true false) (bc (bc (decide ((-1000:Int)≤w.getD i.toNat 0∧w.getD i.toNat 0≤1000)) true false) (.at (sD w m rows v q k nq i ((Nat.cast (Int.natAbs (w.getD i.toNat 0)):Int)))) .bad) .bad) .bad) (bc (bc (Nat.beq m rows.length) true false) (.done (EV.tup [(EV.lst (SyC.recs [(Sh.list [(Sh.int IntKind.i64)])] rows)),(iv (0))]) [] 0) .bad)):=by kernel_rfl
theorem d_t (w:List Int) (m:Nat) (rows:List (List U)) (v:Nat) (q:List Int) (k:Nat) (nq:Bool) (i x:Int):RUN (stOf (sD w m rows v q k nq i x))=(bc (bc (bc (bc (bc (decide (0≤IntKind.i64.wrap (x-(1:Int)))) (Nat.blt (IntKind.i64.wrap (x-(1:Int))).toNat k) false) true false) (bc (bc (Nat.blt (IntKind.i64.wrap (x-(1:Int))).toNat q.length) true false) (bc (bc (bc (decide (0≤x)) (Nat.blt x.toNat k) false) true false) (bc (bc (Nat.blt x.toNat q.length) true false) true false) false) false) false) true false) (.at (sE w m rows v q k nq i x (q.getD (IntKind.i64.wrap (x-(1:Int))).toNat 0) (q.getD x.toNat 0))) .bad):=by kernel_rfl
theorem e_t (w:List Int) (m:Nat) (rows:List (List U)) (v:Nat) (q:List Int) (k:Nat) (nq:Bool) (i x a b:Int):RUN (stOf (sE w m rows v q k nq i x a b))=(bc (bc (bc (decide (0≤i)) (Nat.blt i.toNat w.length) false) true false) (bc (bc (Nat.blt i.toNat w.length) true false) (bc (bc (bnot (x==0)) true false) (.at (sF w m rows v q k nq i x a b (IntKind.i64.wrap (Int.tdiv (w.getD i.toNat 0) x)))) .bad) .bad) .bad):=by kernel_rfl
theorem f_t (w:List Int) (m:Nat) (rows:List (List U)) (v:Nat) (q:List Int) (k:Nat) (nq:Bool) (i x a b s:Int):RUN (stOf (sF w m rows v q k nq i x a b s))=(bc (bc (bc (bc (bc (decide (0≤a)) (Nat.blt a.toNat m) false) true false) (bc (bc (bc (Nat.blt a.toNat rows.length) true false) true false) (bc (bc (bc (decide (0≤a)) (Nat.blt a.toNat m) false) true false) (bc (bc (bc (Nat.blt a.toNat rows.length) true false) true false) (bc (bc (bc (decide (0≤b)) (Nat.blt b.toNat (U.list ((rows.getD a.toNat []).getD 0 (U.i 0))).length) false) true false) (bc (bc (bc (Nat.beq v v) (bc (Nat.blt a.toNat rows.length) (Nat.blt b.toNat (U.list ((rows.getD a.toNat []).getD 0 (U.i 0))).length) false) false) true false) (bc (bc (bc (decide (0≤b)) (Nat.blt b.toNat (U.list ((rows.getD a.toNat []).getD 0 (U.i 0))).length) false) true false) (bc (bc (Nat.beq v v) (bc (Nat.blt a.toNat rows.length) (Nat.blt b.toNat (U.list ((rows.getD a.toNat []).getD 0 (U.i 0))).length) false) false) true false) false) false) false) false) false) false) false) true false) (.at (sG w m (List.set rows a.toNat (rset 0 (U.l (List.map (fun x=>[U.i x]) (List.set (List.map (fun r=>U.int (List.headD r (U.i 0))) (U.list ((rows.getD a.toNat []).getD 0 (U.i 0)))) b.toNat (IntKind.i64.wrap (U.int (((U.list ((rows.getD a.toNat []).getD 0 (U.i 0))).getD b.toNat []).getD 0 (U.i 0))+s))))) (rows.getD a.toNat []))) v q k nq i x a b s)) .bad):=by kernel_rfl
theorem g_t (w:List Int) (m:Nat) (rows:List (List U)) (v:Nat) (q:List Int) (k:Nat) (nq:Bool) (i x a b s:Int):RUN (stOf (sG w m rows v q k nq i x a b s))=(bc (bc (bc (bc (bc (decide (0≤b)) (Nat.blt b.toNat m) false) true false) (bc (bc (bc (Nat.blt b.toNat rows.length) true false) true false) (bc (bc (bc (decide (0≤b)) (Nat.blt b.toNat m) false) true false) (bc (bc (bc (Nat.blt b.toNat rows.length) true false) true false) (bc (bc (bc (decide (0≤a)) (Nat.blt a.toNat (U.list ((rows.getD b.toNat []).getD 0 (U.i 0))).length) false) true false) (bc (bc (bc (Nat.beq v v) (bc (Nat.blt b.toNat rows.length) (Nat.blt a.toNat (U.list ((rows.getD b.toNat []).getD 0 (U.i 0))).length) false) false) true false) (bc (bc (bc (decide (0≤a)) (Nat.blt a.toNat (U.list ((rows.getD b.toNat []).getD 0 (U.i 0))).length) false) true false) (bc (bc (Nat.beq v v) (bc (Nat.blt b.toNat rows.length) (Nat.blt a.toNat (U.list ((rows.getD b.toNat []).getD 0 (U.i 0))).length) false) false) true false) false) false) false) false) false) false) false) true false) (bc (bc (bc (decide (0≤IntKind.i64.wrap (x-(1:Int)))) (Nat.blt (IntKind.i64.wrap (x-(1:Int))).toNat k) false) true false) (bc (Nat.blt (IntKind.i64.wrap (x-(1:Int))).toNat q.length) (bc (bc (bc (decide (0≤x)) (Nat.blt x.toNat k) false) true false) (bc (Nat.blt x.toNat (List.set q (IntKind.i64.wrap (x-(1:Int))).toNat b).length) (.at (sC w m (List.set rows b.toNat (rset 0 (U.l (List.map (fun x=>[U.i x]) (List.set (List.map (fun r=>U.int (List.headD r (U.i 0))) (U.list ((rows.getD b.toNat []).getD 0 (U.i 0)))) a.toNat (IntKind.i64.wrap (U.int (((U.list ((rows.getD b.toNat []).getD 0 (U.i 0))).getD a.toNat []).getD 0 (U.i 0))+s))))) (rows.getD b.toNat []))) v (List.set (List.set q (IntKind.i64.wrap (x-(1:Int))).toNat b) x.toNat a) k nq (IntKind.i64.wrap (i+1)))) .bad) .bad) .bad) .bad) .bad):=by kernel_rfl
theorem stepB {w:List Int} {rows:List (List U)} {v i:Nat} (hi:i<n) (hn:n≤12) (hr:rows.length=i):RUN (stOf (sB n w i rows v i)) = .at (sB n w (i+1) (rows++[[U.l (List.map (fun x=>[U.i x]) (zerosL n))]]) 1 (i+1:Nat)):=by
 have e0:Int.toNat (n:Int)=n:=rfl;rw [b_t,e0,zhp,hr];simp (disch:=omega) only [yS];rfl
theorem zuh (i:Nat):List.replicate i [U.l (List.map (fun x=>[U.i x]) (zerosL i))]=mx i fun _ _=>0:=by
 unfold mx;show _=List.map (fun _=>[U.l (List.map (fun _=>[U.i 0]) (List.range i))]) (List.range i);rw [List.map_const',List.map_const',List.length_range];unfold zerosL;rw [List.map_replicate]
theorem loopB {w:List Int} (hn:n≤12) {z:EV}:∀ (k i v:Nat),i+k=n→(∀ v,EndZ 37 ct false (stOf (sL n w [] false n (mx n fun _ _=>0) v 0)) z [] 0)→EndZ 37 ct false (stOf (sB n w i (List.replicate i [U.l (List.map (fun x=>[U.i x]) (zerosL n))]) v i)) z [] 0
 | 0,i,v,h,hz=>by
  obtain rfl:i=n:=by omega
  rw [zuh];have h1:=b_t i w i (mx i fun _ _=>0) v i;rw [df (show ¬ (i:Int)<(i:Int) by omega),bc_f] at h1;exact .at ct_ok h1 (hz v)
 | k+1,i,v,h,hz=>by
  have h1:=stepB (w:=w) (rows:=List.replicate i [U.l (List.map (fun x=>[U.i x]) (zerosL n))]) (v:=v) (i:=i) (by omega) hn (by rw [List.length_replicate]);have e:List.replicate i [U.l (List.map (fun x=>[U.i x]) (zerosL n))]++[[U.l (List.map (fun x=>[U.i x]) (zerosL n))]]=List.replicate (i+1) [U.l (List.map (fun x=>[U.i x]) (zerosL n))]:=(List.replicate_succ' (n:=i)).symm;rw [e] at h1;exact .at ct_ok h1 (loopB hn k (i+1) 1 (by omega) hz)
theorem stepL {w:List Int} {nq:Bool} {m:Nat} {rows:List (List U)} {v i:Nat} (hn:n≤100) (hi:i<n):RUN (stOf (sL n w (RLin.rng i) nq m rows v i)) = .at (sL n w (RLin.rng (i+1)) true m rows v (i+1:Nat)):=by
 rw [l_t];have m1:[(i:Int)]=[(i:Int)]:=rfl;rw [m1,RLin.rng_succ,RLin.rng_len,nn_ok,List.length_singleton];have e1:bc nq true (Nat.blt 0 1)=true:=by cases nq <;> rfl
 simp (disch:=omega) only [yS,e1];rfl
theorem stepC {w:List Int} {rows:List (List U)} {m v i:Nat} {q:List Int} {k:Nat} {nq:Bool} {x:Int} (hi:i<w.length) (hw:w.length≤2000) (hx:w.getD i 0=x) (hb:-1000≤x∧x≤1000):RUN (stOf (sC w m rows v q k nq i)) = .at (sD w m rows v q k nq i (x.natAbs:Nat)):=by
 have e0:((i:Int)).toNat=i:=rfl;rw [c_t,e0,hx,dt hb];simp (disch:=omega) only [yS]
theorem stepD {w:List Int} {rows:List (List U)} {m v:Nat} {nq:Bool} {i:Int} {j:Nat} {p:Pm n} (hn:n≤12) (hj:j+1<n):RUN (stOf (sD w m rows v (pR p) n nq i (j+1:Nat))) = .at (sE w m rows v (pR p) n nq i (j+1:Nat) (p.f j:Nat) (p.f (j+1):Nat)):=by
 have e2:Int.toNat (j:Int)=j:=rfl;have e3:Int.toNat ((j+1:Nat):Int)=j+1:=rfl;have w1:IntKind.i64.wrap (((j+1:Nat):Int)-1)=(j:Int):=by rw [zae _ (by omega) (by omega)];omega
 rw [d_t,w1,e2,e3,zk6 p (show j<n by omega),zk6 p hj,zib];simp (disch:=omega) only [yS]
theorem stepE {w:List Int} {rows:List (List U)} {m v i:Nat} {q:List Int} {k:Nat} {nq:Bool} {x:Int} {j:Nat} {a b:Int} (hi:i<w.length) (hx:w.getD i 0=x) (hj:x.natAbs=j+1):RUN (stOf (sE w m rows v q k nq i (j+1:Nat) a b)) = .at (sF w m rows v q k nq i (j+1:Nat) a b (sgL x)):=by
 have e0:((i:Int)).toNat=i:=rfl;have hv:IntKind.i64.wrap (Int.tdiv x ((j+1:Nat):Int))=sgL x:=by
  unfold sgL
  by_cases h:x<0
  ·obtain rfl:x = -((j+1:Nat):Int):=by omega
   rw [Int.neg_tdiv,Int.tdiv_self (by omega),if_pos h];rfl
  ·obtain rfl:x=((j+1:Nat):Int):=by omega
   rw [Int.tdiv_self (by omega),if_neg h];rfl
 have z:bnot ((((j+1:Nat):Int))==0)=true:=by
  rw [show ((((j+1:Nat):Int)==0)=false) by simp;omega];rfl
 rw [e_t,e0,hx,hv,z];simp (disch:=omega) only [yS]
theorem stepF {w:List Int} {f:Nat→Nat→Int} {v:Nat} {q:List Int} {k:Nat} {nq:Bool} {i:Int} {j:Int} {s:Int} {x y:Nat} (hn:n≤12) (hx:x<n) (hy:y<n) (hs:-1≤s∧s≤1) (hf:-3000≤f x y∧f x y≤3000):RUN (stOf (sF w n (mx n f) v q k nq i j x y s)) = .at (sG w n (mx n (upd f x y (f x y+s))) v q k nq i j x y s):=by
 have e0:Int.toNat (x:Int)=x:=rfl;have e1:Int.toNat (y:Int)=y:=rfl;have l1:(U.list (((mx n f).getD x []).getD 0 (U.i 0))).length=n:=by rw [zfh hx,List.length_map,List.length_range]
 have l2:=zlc n f;rw [f_t,e0,e1,zsq hx hy,zae (f x y+s) (by omega) (by omega),zso _ hx,l1,l2];simp (disch:=omega) only [yS]
theorem stepG {w:List Int} {f:Nat→Nat→Int} {v:Nat} {q:List Int} {nq:Bool} {s i:Int} {x y j:Nat} (hn:n≤12) (hx:x<n) (hy:y<n) (hs:-1≤s∧s≤1) (hf:-3000≤f y x∧f y x≤3000) (hj:j+1<n) (hq:q.length=n) (hi:0≤i∧i≤3000):RUN (stOf (sG w n (mx n f) v q n nq i (j+1:Nat) x y s)) = .at (sC w n (mx n (upd f y x (f y x+s))) v ((q.set j y).set (j+1) x) n nq (i+1)):=by
 have e0:Int.toNat (x:Int)=x:=rfl;have e1:Int.toNat (y:Int)=y:=rfl;have e2:Int.toNat (j:Int)=j:=rfl;have e3:Int.toNat ((j+1:Nat):Int)=j+1:=rfl;have l1:(U.list (((mx n f).getD y []).getD 0 (U.i 0))).length=n:=by rw [zfh hy,List.length_map,List.length_range]
 have l2:=zlc n f;have l3:(q.set j (y:Int)).length=n:=by rw [List.length_set,hq]
 have w1:IntKind.i64.wrap (((j+1:Nat):Int)-1)=(j:Int):=by rw [zae _ (by omega) (by omega)];omega
 rw [g_t,e0,e1,zsq hy hx,zae (f y x+s) (by omega) (by omega),zso _ hy,l1,l2,w1,e2,e3,l3,hq];simp (disch:=omega) only [yS]
theorem round {w:List Int} {v i:Nat} {nq:Bool} {x:Int} (hi:i<w.length) (hn:n≤12) (hw:w.length≤2000) (hx:w.getD i 0=x) (hk:0<x.natAbs∧x.natAbs<n) (hv:Vld n w) {z:EV} (hz:EndZ 37 ct false (stOf (sC w n (mx n (PLnk.lkN (w.take (i+1)))) v (pR (lnP n (w.take (i+1)))) n nq (i+1:Nat))) z [] 0):EndZ 37 ct false (stOf (sC w n (mx n (PLnk.lkN (w.take i))) v (pR (lnP n (w.take i))) n nq i)) z [] 0:=by
 obtain ⟨j,hj⟩:∃ j,x.natAbs=j+1:=⟨x.natAbs-1,by omega⟩;have hs:-1≤sgL x∧sgL x≤1:=by unfold sgL;split <;> omega
 have hvt:Vld n (w.take i):=hv.sub fun y hy=>List.mem_of_mem_take hy;have hf:(lnP n (w.take i)).f=lnF (w.take i) id:=lnP_f hvt (Pm.one n);have hlt:(w.take i).length≤2000:=by rw [List.length_take];omega
 have hlk:∀ a b,-3000≤PLnk.lkN (w.take i) a b∧PLnk.lkN (w.take i) a b≤3000:=fun a b=>by
  have:=zlk (w.take i) id a b;show -3000≤lk (w.take i) id a b∧lk (w.take i) id a b≤3000;omega
 generalize hp:lnP n (w.take i)=p at *;generalize hg:PLnk.lkN (w.take i)=f at *;have x1:=p.lt (show j<n by omega);have x2:=p.lt (show j+1<n by omega);have hne:p.f j≠p.f (j+1):=fun e=>by have:=p.inj e;omega
 have h1:=stepC (w:=w) (rows:=mx n f) (m:=n) (v:=v) (i:=i) (q:=pR p) (k:=n) (nq:=nq) hi hw hx (by omega);rw [hj] at h1;have h2:=stepD (w:=w) (rows:=mx n f) (m:=n) (v:=v) (nq:=nq) (i:=i) (p:=p) hn (show j+1<n by omega);have h2b:=stepE (w:=w) (rows:=mx n f) (m:=n) (v:=v) (i:=i) (q:=pR p) (k:=n) (nq:=nq) (a:=(p.f j:Nat)) (b:=(p.f (j+1):Nat)) hi hx hj;have h3:=stepF (w:=w) (f:=f) (v:=v) (q:=pR p) (k:=n) (nq:=nq) (i:=i) (j:=(j+1:Nat)) (s:=sgL x) hn x1 x2 hs (hlk _ _)
 have hyx:upd f (p.f j) (p.f (j+1)) (f (p.f j) (p.f (j+1))+sgL x) (p.f (j+1)) (p.f j)=f (p.f (j+1)) (p.f j):=by
  unfold upd;rw [if_neg fun h=>hne h.2]
 have h4:=stepG (w:=w) (f:=upd f (p.f j) (p.f (j+1)) (f (p.f j) (p.f (j+1))+sgL x)) (v:=v) (q:=pR p) (nq:=nq) (s:=sgL x) (i:=i) (j:=j) hn x1 x2 hs (by rw [hyx];exact hlk _ _) (by omega) (zib p) (by omega);rw [hyx] at h4;have g0:((pR p).set j (p.f (j+1):Int)).set (j+1) (p.f j:Int)=pR (lnP n (w.take (i+1))):=by
  rw [List.take_succ_eq_append_getElem hi,zui,← zav hi,hx,hp];unfold swP;rw [dif_pos hk,← pR_L p hk];simp only [hj,Nat.add_sub_cancel]
 have g1:mx n (upd (upd f (p.f j) (p.f (j+1)) (f (p.f j) (p.f (j+1))+sgL x)) (p.f (j+1)) (p.f j) (f (p.f (j+1)) (p.f j)+sgL x))=mx n (PLnk.lkN (w.take (i+1))):=by
  refine zrj fun a b=>?_;show _=lk (w.take (i+1)) id a b;rw [List.take_succ_eq_append_getElem hi,zuj,← zav hi,hx,← hf,hj,Nat.add_sub_cancel];have:lk (w.take i) id a b=f a b:=by rw [← hg]
  rw [this];unfold upd
  by_cases c1:a=p.f (j+1)∧b=p.f j
  ·obtain ⟨rfl,rfl⟩:=c1;rw [if_pos ⟨rfl,rfl⟩,if_pos (.inr ⟨rfl,rfl⟩)]
  ·rw [if_neg c1]
   by_cases c2:a=p.f j∧b=p.f (j+1)
   ·obtain ⟨rfl,rfl⟩:=c2;rw [if_pos ⟨rfl,rfl⟩,if_pos (.inl ⟨rfl,rfl⟩)]
   ·rw [if_neg c2,if_neg fun h=>h.elim c2 c1,Int.add_zero]
 rw [g0,g1] at h4;exact .at ct_ok h1 (.at ct_ok h2 (.at ct_ok h2b (.at ct_ok h3 (.at ct_ok h4 hz))))
theorem last {w:List Int} {f:Nat→Nat→Int} {v:Nat} {q:List Int} {k:Nat} {nq:Bool}:RUN (stOf (sC w n (mx n f) v q k nq w.length)) = .done (.tup [.lst (.recs [.list [.int .i64]] (mx n f)),iv 0]) [] 0:=by
 rw [c_t,df (show ¬ (w.length:Int)<Int.ofNat w.length by rw [ofn];omega),bc_f,zlc];simp (disch:=omega) only [yS]
theorem loopC {w:List Int} {nq:Bool} (hn:n≤12) (hw:w.length≤2000) (hv:Vld n w) (v:Nat):∀ (k i:Nat),i+k=w.length→EndZ 37 ct false (stOf (sC w n (mx n (PLnk.lkN (w.take i))) v (pR (lnP n (w.take i))) n nq i)) (.tup [.lst (.recs [.list [.int .i64]] (mx n (PLnk.lkN w))),iv 0]) [] 0
 | 0,i,h=>by
  obtain rfl:i=w.length:=by omega
  rw [List.take_length];exact .done last
 | k+1,i,h=>by
  have hi:i<w.length:=by omega
  have hk:0<(w.getD i 0).natAbs∧(w.getD i 0).natAbs<n:=(show Vld n [w.getD i 0] from fun x hx=>by
   rw [List.mem_singleton.1 hx,zav hi];exact hv _ (List.getElem_mem _)).head
  exact round hi hn hw rfl hk hv (loopC hn hw hv v k (i+1) (by omega))
theorem loopL {w:List Int} (hn:n≤12) (hw:w.length≤2000) (hv:Vld n w) (v:Nat):∀ (k i:Nat) (nq:Bool),i+k=n→EndZ 37 ct false (stOf (sL n w (RLin.rng i) nq n (mx n fun _ _=>0) v i)) (.tup [.lst (.recs [.list [.int .i64]] (mx n (PLnk.lkN w))),iv 0]) [] 0
 | 0,i,nq,hi=>by
  obtain rfl:i=n:=by omega
  have h1:=l_t i w (RLin.rng i) nq i (mx i fun _ _=>0) v i;rw [df (show ¬ (i:Int)<(i:Int) by omega),bc_f,RLin.rng_len] at h1;have h2:=loopC (nq:=nq) hn hw hv v w.length 0 (by omega);exact .at ct_ok h1 h2
 | k+1,i,nq,hi=>.at ct_ok (stepL (by omega) (by omega)) (loopL hn hw hv v k (i+1) true (by omega))
theorem ends (n:Int) (w:List Int):EndZ 37 ct false (st0 37 [iv n,il w]) (PLnk.lnkV n w) [] 0:=by
 have h:=in_t n w
 by_cases z:chk n w=0
 ·obtain ⟨⟨w1,w2,w3,w4⟩,_⟩:=zcp z;unfold PLnk.lnkV;rw [z,show ((0:Int) != 0)=false from rfl,bc_f] at h ⊢
  obtain ⟨n,rfl⟩:=Int.eq_ofNat_of_zero_le (show 0≤n by omega);have h1:=a_t n w 0;have e0:Int.toNat (n:Int)=n:=rfl;rw [e0,zhp,dt (show (0:Int)<n by omega)] at h1;simp (disch:=omega) only [yS] at h1;refine .at ct_ok h (.at ct_ok h1 ?_)
  have h2:=loopB (n:=n) (w:=w) (by omega) (n-1) 1 1 (by omega) (fun v=>loopL (by omega) w3 w4 v n 0 false (by omega));exact h2
 ·unfold PLnk.lnkV;rw [show (chk n w != 0)=true by simp [z],bc_t] at h ⊢;exact (EndZ.done h).weak (Weak.tup (.cons (Weak.nil _) (.cons (Weak.refl _) .nil)))
end RLnk
noncomputable def spRLnk:ZCT:=fun ax=>match ax with
 | [.v (.int .i64 n),.lst (.ints .i64 w)]=>some ⟨decide (True),PLnk.lnkV n w,[],0⟩
 | _=>none
theorem znw:ZCtOk Try.prog 37 spRLnk:=fun γ w us ax r hs hc hax hN hfz=>by
 unfold spRLnk at hs;split at hs
 case h_2=>cases hs
 rename_i n w;obtain ⟨rfl⟩:=Option.some.inj hs;have hc_0:decide (True)=true:=hc;have hc:=of_decide_eq_true hc_0;exact EndZ.calls (RLnk.ends n w) RLnk.ct_ok (by kernel_rfl) hax hN hfz
end
theorem zmz:endsB (exClosed Try.prog ft (drD Try.prog ft 16 4) 12 18)=true:=by kernel_rfl
theorem awakeLC (w:World):Calls Try.prog 12 #[] w fun e w'=>e = .returned (.bool true)∧Stays w w':=closedTrue ftOk (zl0 mix ftOk 16 4) zmz w
theorem zi8:ZCtOk Try.prog 12 spTrue:=znv awakeLC
end Go.Proofs.Ytfffbioafhppiaa.Ev
namespace Go.Proofs.Ytfffbioafhppiaa
open Go.ChangeShapes Go.WideShapes Go.ChangeAt Go.RowKit
theorem zhb {W W':World} (h:Ev.Stays W W') (may:MemPlace→Prop):W.keptBut W' may:=by
 refine ⟨h.os,h.output,fun i hi=>?_⟩;have e:=h.block i hi;rw [e]
 cases hb:W.heap[i]? with
 | none=>simp
 | some o=>
  cases o <;> first|exact ⟨rfl,rfl,rfl,fun _ _=>rfl⟩|exact .inr ⟨rfl,rfl⟩|rfl
theorem zfl {W W':World} (h:Ev.Stays W W') (a:Addr) (ha:a.block<W.heap.size):W'.frozen? a=W.frozen? a:=by
 unfold World.frozen?;rw [h.block _ ha]
section
variable {H:Type} {enc:TypeId×Value→H} {P:Program}
theorem zgz {f:Func} {s:ChangeSpec} {apart fresh handsOn again:Bool} {W W':World} {args:Array Value} {v:Value} {ds gs:List (DataW H)} {before pa pv:List MemPlace}
  (hW:DataW.Whole enc P f.params.toList s.vars apart W args.toList ds gs before)
  (hres:∀ (b:Nat) (sp:Nat→Bool) (hd:Bool),DataW.TrodAll enc P W' b sp hd f.resultTypes.toList (v.resultList f.resultTypes.size) (s.fn H (ds++gs)).results [])
  (hargs:∀ sp:Nat→Bool,(∀ p∈before,sp p.block=true)→DataW.TrodAll enc P W' 0 sp true f.params.toList args.toList (s.fn H (ds++gs)).args pa)
  (hvars:∀ sp:Nat→Bool,(∀ p∈before,sp p.block=true)→DataW.TrodVars enc P W' sp s.vars (s.fn H (ds++gs)).vars pv)
  (hps:before=pa++pv) (hst:Ev.Stays W W')
  (hok:∀ (j:Nat) (t:TypeId) (r:Value),f.resultTypes[j]? = some t→(v.resultList f.resultTypes.size)[j]? = some r→Value.okWide P W' .any 0 t r) :
  s.post enc P f apart fresh handsOn again W args v W':=by
 have hk:W.keptBut W' (· ∈ before):=zhb hst _;have hold:∀ p∈before,(fun b=>decide (b<W.heap.size)) p.block=true:=fun p hp=>by simpa using hW.lt p hp
 have hlt:=fun p hp=>hW.lt p hp;refine ⟨ds,gs,before,[],pa,pv,hW,hres _ _ _,hargs _ hold,hvars _ hold,World.keptBut_mono (fun p hp=>⟨hp,?_⟩) hk,fun _=>?_⟩
 ·rw [hps,List.mem_append] at hp;exact Or.inr hp
 ·obtain ⟨_,_,_,_,_,hz,hn⟩:=hW;refine ⟨hok,_,_,([]++pa)++pv,⟨[]++pa,pv,trodAll_append (hargs _ (fun _ _=>rfl)) (hres _ _ _),hvars _ (fun _ _=>rfl),rfl,?_,?_⟩,?_⟩
  ·intro b off hp;have hp2:MemPlace.cell b off∈before:=by rw [hps];simpa using hp
   rw [zfl hst _ (hlt _ hp2)];exact hz b off hp2
  ·intro ha;have:=hn ha;rw [hps] at this;simpa using this
  ·intro p hp _;rw [hps];simpa using hp
end
end Go.Proofs.Ytfffbioafhppiaa
namespace Go.Proofs.Ytfffbioafhppiaa
open Go.ChangeShapes Go.WideShapes Go.ChangeAt Go.RowKit
section
variable {H:Type} {enc:TypeId×Value→H} {P:Program}
theorem zgq {W W':World} (h:Ev.Stays W W') {p:MemPlace} (hp:p.block<W.heap.size):W.sameAt W' p:=by
 cases p with
 | cell b off=>
  show W'.cell? _=W.cell? _;unfold World.cell?;rw [h.block b hp]
 | map b=>exact h.block b hp
theorem zgj {W W':World} {base:Nat} {sp:Nat→Bool} {hd:Bool}:∀ {ts:List TypeId} {vs:List Value} {ds:List (DataW H)} {ps:List MemPlace},DataW.TrodAll enc P W base sp hd ts vs ds ps→(∀ p∈ps,W.sameAt W' p)→DataW.TrodAll enc P W' base sp hd ts vs ds ps
 | [],[],[],_,h,_=>h
 | _::_,_::_,_::_,_,⟨p,q,⟨n,h⟩,hs,e⟩,k=>⟨p,q,⟨n,DataW.trod_carry n _ _ _ h fun x hx=>k x (by rw [e];exact List.mem_append_left _ hx)⟩,zgj hs fun x hx=>k x (by rw [e];exact List.mem_append_right _ hx),e⟩
 | [],[],_::_,_,h,_=>h.elim
 | [],_::_,_,_,h,_=>h.elim
 | _::_,[],_,_,h,_=>h.elim
 | _::_,_::_,[],_,h,_=>h.elim
theorem zrh {f:Func} {s:ChangeSpec} {apart fresh handsOn again:Bool} {W W':World} {args:Array Value} {ds:List (DataW H)} {p:List MemPlace} {bt:TypeId} {T:TypeId→Prop} (K:Kids P T) (hz:∀ t e,T t→P.underlying t=some (.slice e)→0<P.cellsOf e)
  (hbt:P.underlying bt=some .bool) (hrt:f.resultTypes.toList=[bt]) (hsz:f.resultTypes.size=1) (hvs:s.vars=[]) (hfn:s.fn H (ds++[])={ results:=[.lit (.bool true)],args:=ds })
  (hpt:∀ t∈f.params.toList,T t)
  (hW:DataW.Whole enc P f.params.toList s.vars apart W args.toList ds [] (p++[])) (hA:DataW.TrodAll enc P W 0 (fun _=>true) true f.params.toList args.toList ds p) (hst:Ev.Stays W W')
  (hok:∀ (j:Nat) (t:TypeId) (r:Value),f.resultTypes[j]? = some t→((Value.bool true).resultList f.resultTypes.size)[j]? = some r→Value.okWide P W' .any 0 t r) :
  s.post enc P f apart fresh handsOn again W args (.bool true) W':=by
 have hlt:=fun q hq=>hW.lt q hq;refine zgz (pa:=p) (pv:=[]) hW (fun b sp hd=>?_) (fun sp hsp=>?_) (fun sp _=>?_) rfl hst hok
 ·rw [hrt,hfn,hsz];exact trodAll_mk1 (shut_bool hbt _)
 ·rw [hfn];exact DataW.TrodAll.respare K hz hpt (zgj hA fun q hq=>zgq hst (hlt q (by simpa using hq))) fun q hq=>hsp q (by simpa using hq)
 ·rw [hfn,hvs];rfl
end
namespace Ev
inductive UFit:Sh→U→Prop where
 | int (k:IntKind) (n:Int) (h:(Lit.int k n).wf=true):UFit (.int k) (.i n)
 | bool (b:Bool):UFit .bool (.b b)
 | str (s:ByteArray) (h:s.size≤maxLen):UFit .str (.s s)
 | list (sh:List Sh) (l:List (List U)) (hl:l.length≤maxLen) (hr:∀ j,j<l.length→(l.getD j []).length=sh.length) (h:∀ (j f:Nat) (s:Sh),j<l.length→sh[f]? = some s→UFit s ((l.getD j []).getD f (.i 0))):UFit (.list sh) (.l l)
structure RowFit (sh:List Sh) (r:List U):Prop where
 len:r.length=sh.length
 fit:∀ (f:Nat) (s:Sh),sh[f]? = some s→UFit s (r.getD f (.i 0))
theorem RowFit.nil:RowFit [] []:=⟨rfl,fun f s h=>by simp at h⟩
theorem RowFit.append {sh1 sh2:List Sh} {r1 r2:List U} (h1:RowFit sh1 r1) (h2:RowFit sh2 r2):RowFit (sh1++sh2) (r1++r2):=by
 refine ⟨by simp [h1.len,h2.len],fun f s h=>?_⟩;rw [List.getD_eq_getElem?_getD]
 by_cases hf:f<sh1.length
 ·rw [List.getElem?_append_left hf] at h;rw [List.getElem?_append_left (by rw [h1.len];exact hf),← List.getD_eq_getElem?_getD];exact h1.fit f s h
 ·rw [List.getElem?_append_right (by omega)] at h;rw [List.getElem?_append_right (by rw [h1.len];omega),h1.len,← List.getD_eq_getElem?_getD];exact h2.fit _ s h
theorem zgw:∀ {sh1 sh2:List Sh} {r1 r2:List U},r1.length=sh1.length→recE (sh1++sh2) (r1++r2)=recE sh1 r1++recE sh2 r2
 | [],sh2,r1,r2,h=>by
  have:r1=[]:=List.eq_nil_of_length_eq_zero h;subst this;rfl
 | s::sh1,sh2,[],r2,h=>by cases h
 | s::sh1,sh2,u::r1,r2,h=>by
  show s.ev u::recE (sh1++sh2) (r1++r2)=s.ev u::(recE sh1 r1++recE sh2 r2);rw [zgw (by simpa using h)]
def shFs (P:Program) (f:TypeId→Option (List Sh)):List Field→Nat→Option (List Sh)
 | [],_=>some []
 | fd::r,off=>match f fd.type with
  | some sh=>if fd.offset=off∧P.cellsOf fd.type=sh.length then match shFs P f r (off+sh.length) with
   | some l=>some (sh++l)
   | none=>none else none
  | none=>none
def shB (P:Program):Nat→TypeId→Option (List Sh)
 | 0,_=>none
 | k+1,t=>match P.underlying t with
  | some (.int κ)=>some [.int κ]
  | some .bool=>some [.bool]
  | some .string=>some [.str]
  | some (.slice e)=>match shB P k e with
   | some sh=>if P.cellsOf e=sh.length∧0<sh.length then some [.list sh] else none
   | none=>none
  | some (.struct fs)=>match shFs P (shB P k) fs.toList 0 with
   | some sh=>if P.cellsOf t=sh.length then some sh else none
   | none=>none
  | some (.array m e)=>match shB P k e with
   | some sh=>if P.cellsOf e=sh.length∧P.cellsOf t=m*sh.length then some (List.replicate m sh).flatten else none
   | none=>none
  | _=>none
noncomputable def fzAll (W:World):Nat→Option (Array Value):=fun k=>match W.heap[k]? with
 | some (.cells a _ _)=>some a
 | _=>none
noncomputable def gAll (W:World):G:=⟨fun _=>none,fzAll W,fun _ _ _=>none⟩
theorem fzAll_at (W:World):FzAt (gAll W) W:=⟨fun k a hk=>(by
 have hk:fzAll W k=some a:=hk;unfold fzAll at hk;split at hk
 ·rename_i a' ty fz h;injection hk with hk;subst hk
  exact ⟨ty,fz,h⟩
 ·cases hk),fun _ _ _=>rfl⟩
theorem zoy {Q:Nat→List U→Prop}:∀ (n:Nat),(∀ i,i<n→∃ r,Q i r)→∃ l:List (List U),l.length=n∧∀ i,i<n→Q i (l.getD i [])
 | 0,_=>⟨[],rfl,fun i hi=>absurd hi (by omega)⟩
 | n+1,h=>by
  obtain ⟨l,h1,h2⟩:=zoy n fun i hi=>h i (by omega);obtain ⟨r,hr⟩:=h n (by omega);refine ⟨l++[r],by simp [h1],fun i hi=>?_⟩;rw [List.getD_eq_getElem?_getD]
  by_cases e:i<n
  ·rw [List.getElem?_append_left (by omega),← List.getD_eq_getElem?_getD];exact h2 i e
  ·have:i=n:=by omega
   subst this;rw [List.getElem?_append_right (by omega),h1,Nat.sub_self];exact hr
variable {H:Type} {enc:TypeId×Value→H} {P:Program} {W:World} {base:Nat} {sp:Nat→Bool} {hd:Bool}
def OpenAt (enc:TypeId×Value→H) (P:Program) (W:World) (base:Nat) (sp:Nat→Bool) (hd:Bool) (k:Nat):Prop:=∀ (t:TypeId) (sh:List Sh) (fuel:Nat) (cs:List Value) (x:DataW H×List MemPlace),shB P k t=some sh→DataW.trod enc P W base sp hd fuel t cs=some x→∃ r,RowFit sh r∧∀ γ:G,γ.fz=fzAll W→ECL γ (recE sh r) cs
theorem zfp {k:Nat} (ih:OpenAt enc P W base sp hd k) {cs:List Value} {n:Nat}:∀ (fs:List Field) (off:Nat) (sh:List Sh),shFs P (shB P k) fs off=some sh→(∀ f,f∈fs→∃ y,DataW.trod enc P W base sp hd n f.type ((cs.drop f.offset).take (P.cellsOf f.type))=some y)→∃ r,RowFit sh r∧∀ γ:G,γ.fz=fzAll W→ECL γ (recE sh r) ((cs.drop off).take sh.length)
 | [],off,sh,h,_=>by
  injection (show some []=some sh from h) with h;subst h
  exact ⟨[],.nil,fun γ _=>by
   rw [show ([]:List Sh).length=0 from rfl,List.take_zero];exact ECL.nil γ⟩
 | fd::fs,off,sh,h,hall=>by
  unfold shFs at h;split at h
  case h_2=>cases h
  rename_i s1 hs1;split at h
  case isFalse=>cases h
  rename_i hc;split at h
  case h_2=>cases h
  rename_i s2 hs2;injection h with h;subst h
  obtain ⟨y,hy⟩:=hall fd (by simp);rw [hc.1,hc.2] at hy;obtain ⟨r1,h1,h2⟩:=ih fd.type s1 n _ y hs1 hy;obtain ⟨r2,h3,h4⟩:=zfp ih fs (off+s1.length) s2 hs2 fun f hf=>hall f (by simp [hf]);refine ⟨r1++r2,h1.append h3,fun γ hγ=>?_⟩;rw [zgw h1.len,List.length_append];have e:(cs.drop off).take (s1.length+s2.length)=(cs.drop off).take s1.length++(cs.drop (off+s1.length)).take s2.length:=by
   rw [List.take_add,List.drop_drop]
  rw [e];exact (h2 γ hγ).append (h4 γ hγ)
theorem zgg {k:Nat} (ih:OpenAt enc P W base sp hd k) {cs:List Value} {n:Nat} {e:TypeId} {sh:List Sh} (hsh:shB P k e=some sh) (hc:P.cellsOf e=sh.length):∀ (m i0:Nat),(∀ i,i<m→∃ y,DataW.trod enc P W base sp hd n e ((cs.drop ((i0+i)*P.cellsOf e)).take (P.cellsOf e))=some y)→∃ r,RowFit (List.replicate m sh).flatten r∧∀ γ:G,γ.fz=fzAll W→ECL γ (recE (List.replicate m sh).flatten r) ((cs.drop (i0*sh.length)).take (m*sh.length))
 | 0,i0,_=>⟨[],.nil,fun γ _=>by
   rw [Nat.zero_mul,List.take_zero];exact ECL.nil γ⟩
 | m+1,i0,h=>by
  obtain ⟨y,hy⟩:=h 0 (by omega);rw [hc,Nat.add_zero] at hy;obtain ⟨r1,h1,h2⟩:=ih e sh n _ y hsh hy;obtain ⟨r2,h3,h4⟩:=zgg ih hsh hc m (i0+1) fun i hi=>by
   have:=h (i+1) (by omega)
   rwa [show i0+(i+1)=i0+1+i by omega] at this
  refine ⟨r1++r2,by rw [List.replicate_succ,List.flatten_cons];exact h1.append h3,fun γ hγ=>?_⟩;rw [List.replicate_succ,List.flatten_cons,zgw h1.len,Nat.succ_mul,Nat.add_comm,List.take_add,List.drop_drop];have:=h4 γ hγ;rw [Nat.succ_mul] at this;exact (h2 γ hγ).append this
theorem zf9:∀ k,OpenAt enc P W base sp hd k
 | 0=>fun t sh fuel cs x h=>by cases h
 | k+1=>fun t sh fuel cs x h ht=>by
  have ih:OpenAt enc P W base sp hd k:=zf9 k;unfold shB at h;split at h
  ·rename_i κ hu;injection h with h;subst h
   obtain ⟨n,rfl,_,hw⟩:=DataW.trod_int hu ht;refine ⟨[.i n],⟨rfl,fun f s hf=>?_⟩,fun γ _=>.cons (.v _) (.nil _)⟩;obtain ⟨rfl,rfl⟩:=one_f hf;exact .int κ n hw
  ·rename_i hu;injection h with h;subst h
   obtain ⟨b,rfl,_⟩:=DataW.trod_bool hu ht;refine ⟨[.b b],⟨rfl,fun f s hf=>?_⟩,fun γ _=>.cons (.v _) (.nil _)⟩;obtain ⟨rfl,rfl⟩:=one_f hf;exact .bool b
  ·rename_i hu;injection h with h;subst h
   obtain ⟨s,rfl,_,hs⟩:=DataW.trod_string hu ht;refine ⟨[.s s],⟨rfl,fun f s hf=>?_⟩,fun γ _=>.cons (.v _) (.nil _)⟩;obtain ⟨rfl,rfl⟩:=one_f hf;exact .str _ hs
  ·rename_i e hu;split at h
   case h_2=>cases h
   rename_i sh' hsh;split at h
   case isFalse=>cases h
   rename_i hc;injection h with h;subst h
   rcases DataW.trod_slice hu ht with ⟨rfl,_⟩|⟨a,len,cap,elems,rest,n,_,rfl,_,hb,hlc,hcm,hel,hall,_⟩
   ·refine ⟨[.l []],⟨rfl,fun f s hf=>?_⟩,fun γ _=>.cons ?_ (.nil _)⟩
    ·obtain ⟨rfl,rfl⟩:=one_f hf;exact .list sh' [] (Nat.zero_le _) (fun j hj=>by simp at hj) (fun j f s hj=>by simp at hj)
    ·exact UOk.ec (s:=.list sh') (.empty sh' (.l []) none 0 rfl (Nat.zero_le _) fun _=>rfl)
   ·have each:∀ i,i<len→∃ r,RowFit sh' r∧∃ ys,W.cells? base (a.add (i*sh'.length)) sh'.length=some ys∧∀ γ:G,γ.fz=fzAll W→ECL γ (recE sh' r) ys:=fun i hi=>by
     have h1:=hall i hi;rw [hc.1] at h1;have h2:i<elems.length:=by omega
     rw [List.getElem?_eq_getElem h2] at h1;obtain ⟨ys,h3,h4⟩:=Option.bind_eq_some_iff.1 h1;obtain ⟨r,h5,h6⟩:=ih e sh' n ys _ hsh h4;exact ⟨r,h5,ys,h3,h6⟩
    obtain ⟨l,hl,hQ⟩:=zoy len each;refine ⟨[.l l],⟨rfl,fun f s hf=>?_⟩,fun γ hγ=>.cons ?_ (.nil _)⟩
    ·obtain ⟨rfl,rfl⟩:=one_f hf;exact .list sh' l (by omega) (fun j hj=>(hQ j (by omega)).1.len) fun j f s hj hf=>(hQ j (by omega)).1.fit f s hf
    ·refine UOk.ec (s:=.list sh') ?_
     by_cases h0:len=0
     ·have:l=[]:=List.eq_nil_of_length_eq_zero (by omega);subst this;subst h0;exact .empty sh' (.l []) (some a) cap rfl hcm fun e=>by cases e
     ·obtain ⟨b,off,spot⟩:=a;have hblk:spot=none∧∃ arr ty fz,W.heap[b]? = some (.cells arr ty fz):=by
       obtain ⟨h1,ys,h2,h3⟩:=hQ 0 (by omega);obtain ⟨_,h4,h5⟩:=World.cells?_some h2;have h6:=h5 0 hc.2;rw [List.getElem?_eq_getElem (show 0<ys.length by omega)] at h6;have h6:W.cell? ⟨b,off,spot⟩=some ys[0]:=by
        have e:((⟨b,off,spot⟩:Addr).add (0*sh'.length)).add 0=⟨b,off,spot⟩:=by simp [Addr.add]
        rw [e] at h6;exact h6
       unfold World.cell? at h6;split at h6
       ·rename_i arr ty fz hb';split at h6
        ·cases h6
        ·rename_i hs;exact ⟨by cases spot <;> simp_all,arr,ty,fz,hb'⟩
       ·cases h6
      obtain ⟨rfl,arr,ty,fz,hblk⟩:=hblk;have cellAt:∀ i f,i<len→f<sh'.length→∃ y,W.cell? ⟨b,off+(i*sh'.length+f),none⟩=some y∧∀ s,sh'[f]? = some s→UOk γ.fz s ((l.getD i []).getD f (.i 0)) y:=fun i f hi hf=>by
       obtain ⟨h1,ys,h2,h3⟩:=hQ i hi;obtain ⟨_,h4,h5⟩:=World.cells?_some h2;have h6:=h5 f hf;have h7:f<ys.length:=by omega
       rw [List.getElem?_eq_getElem h7] at h6;refine ⟨ys[f],?_,fun s hs=>?_⟩
       ·have e:((⟨b,off,none⟩:Addr).add (i*sh'.length)).add f=⟨b,off+(i*sh'.length+f),none⟩:=by
         unfold Addr.add;split <;> split <;> simp_all [Nat.add_assoc]
        rw [← h6,e]
       ·have h8:=zdv (s:=s) (f:=f) (sh:=sh') (l.getD i []) hs;have h9:=(h3 γ hγ).2 f _ ys[f] h8 (List.getElem?_eq_getElem h7);exact UOk.of_ec h9
      have getA:∀ i f,i<len→f<sh'.length→∃ y,arr[off+(i*sh'.length+f)]? = some y∧∀ s,sh'[f]? = some s→UOk γ.fz s ((l.getD i []).getD f (.i 0)) y:=fun i f hi hf=>by
       obtain ⟨y,h1,h2⟩:=cellAt i f hi hf;refine ⟨y,?_,h2⟩;unfold World.cell? at h1;simpa [hblk] using h1
      have hk:γ.fz b=some arr:=by
       rw [hγ];unfold fzAll;rw [hblk]
      subst hl;refine .list sh' (.l l) b off cap arr hk hlc hcm ?_ fun j f s x hj hf hx=>?_
      ·show off+l.length*sh'.length≤arr.size;obtain ⟨y,h1,_⟩:=getA (l.length-1) (sh'.length-1) (by omega) (by omega);have:=(Array.getElem?_eq_some_iff.1 h1).1;have e:l.length*sh'.length=(l.length-1)*sh'.length+sh'.length:=by rw [← Nat.succ_mul];congr 1;omega
       omega
      ·obtain ⟨y,h1,h2⟩:=getA j f hj (List.getElem?_eq_some_iff.1 hf).1;rw [h1] at hx;injection hx with hx;subst hx;exact h2 s hf
  ·rename_i fs hu;split at h
   case h_2=>cases h
   rename_i sh' hsh;split at h
   case isFalse=>cases h
   rename_i hc;injection h with h;subst h
   obtain ⟨xs,n,_,_,hl,hlen,hf⟩:=DataW.trod_struct hu ht;obtain ⟨r,h1,h2⟩:=zfp (cs:=cs) (n:=n) ih fs.toList 0 sh' hsh fun f hm=>by
    obtain ⟨i,hi,rfl⟩:=List.getElem_of_mem hm;have hi2:i<fs.size:=by simpa using hi
    have:=hf i fs.toList[i] (by simp [hi2]);rw [List.getElem?_eq_getElem (by omega)] at this;exact ⟨_,this⟩
   refine ⟨r,h1,fun γ hγ=>?_⟩;have:=h2 γ hγ
   rwa [List.drop_zero,List.take_of_length_le (by omega)] at this
  ·rename_i m e hu;split at h
   case h_2=>cases h
   rename_i sh' hsh;split at h
   case isFalse=>cases h
   rename_i hc;injection h with h;subst h
   obtain ⟨xs,n,_,_,hl,hlen,hf⟩:=DataW.trod_array hu ht;obtain ⟨r,h1,h2⟩:=zgg (cs:=cs) (n:=n) ih hsh hc.1 m 0 fun i hi=>by
    have:=hf i hi;rw [List.getElem?_eq_getElem (by omega)] at this;rw [Nat.zero_add];exact ⟨_,this⟩
   refine ⟨r,h1,fun γ hγ=>?_⟩;have:=h2 γ hγ
   rwa [Nat.zero_mul,List.drop_zero,List.take_of_length_le (by omega)] at this
  ·cases h
theorem open_agg {t:TypeId} {fs:Array Field} {v:Value} {d:DataW H} {ps:List MemPlace} {k b0:Nat} {rc:Reach} {sh:List Sh} (hu:P.underlying t=some (.struct fs)) (hs:shB P k t=some sh) (hv:Value.okWide P W rc b0 t v) (h:DataW.Trod enc P W base sp hd t v d ps):∃ r,RowFit sh r∧EC (gAll W) (.agg (recE sh r)) v:=by
 obtain ⟨cs,rfl,_⟩:=okWide_struct hu hv;obtain ⟨fuel,hf⟩:=h;obtain ⟨r,h1,h2⟩:=zf9 k t sh fuel _ _ hs hf;have h3:=h2 (gAll W) rfl;refine ⟨r,h1,?_⟩;have:=EC.agg (γ:=gAll W) (recE sh r) cs.toList h3.1 h3.2;simpa using this
end Ev
end Go.Proofs.Ytfffbioafhppiaa
namespace Go.Proofs.Ytfffbioafhppiaa.Ev
theorem fitI64 {u:U} (h:UFit (.int .i64) u):∃ n,u = .i n ∧ -9223372036854775808≤n∧n≤9223372036854775807:=by
 cases h with
 | int k n h=>
  refine ⟨n,rfl,?_⟩;have h1:IntKind.i64.min≤n∧n≤IntKind.i64.max:=by simpa [Lit.wf] using h
  have e1:IntKind.i64.min = -9223372036854775808:=rfl;have e2:IntKind.i64.max=9223372036854775807:=rfl;omega
theorem fitI {l:List (List U)} (h:UFit (.list [.int .i64]) (.l l)):In64 (l.map fun r=>(r.headD (.i 0)).int):=by
 cases h with
 | list sh l hl hr hf=>
  intro j hj;rw [List.length_map] at hj;rw [zav (by rw [List.length_map];exact hj),List.getElem_map];have h1:=hf j 0 _ hj rfl;rw [zav (d:=[]) hj] at h1;obtain ⟨n,e,h2⟩:=fitI64 h1;rw [zc9,e];exact h2
section
noncomputable def ctLq:Tr ZCC:=((((Tr.nil.put 34 (some (dC spPOff))).put 37 (some (dC spRLnk))).put 11 (some (dC spRChL))).put 33 (some (dC spCrs))).put 12 (some (dC spTrue))
theorem zfw:ZCtsOk Try.prog ctLq:=(((((ZCtsOk.nil _).add rfl zn0).add rfl znw).add rfl zny).add rfl zra).add rfl zi8
namespace ALq
noncomputable def RUN (s:ES):ZF:=RZs 8 ctLq [(atS 0 8 9,[[(1,none),(6,none),(8,none),(9,none)]]),(atS 0 8 14,[[(1,none),(6,none),(8,none),(9,none),(10,none)]])] [] false s
noncomputable def sI (t:Int) (l:List Int) (M:List (List U)) (q:List Int) (y:Nat) (i:Int):NS:=⟨[⟨8,95,[(1,(EV.ptr 0 0)),(6,EV.lst (.recs [.list [.int .i64]] M)),(8,EV.slO 1 1 y true),(9,iv i)],[.it (.code (nav [1,1,1,1,1,1,0,1,0,0,0] (bodyOf Try.f8))),.it (.code (nav [1,1,1,1,1,1,0,1,0,0,1] (bodyOf Try.f8))),.it (.inLoop (nav [1,1,1,1,1,1,0,1,0,0] (bodyOf Try.f8))),.it (.inBlock 0),.it (.code (nav [1,1,1,1,1,1,1] (bodyOf Try.f8)))],[],Option.none⟩],[(0,(EK.cells 24 [(iv t),(il l)] true)),(1,EK.seq 3 (.ints .i64 q) true)],2⟩
noncomputable def sK (t:Int) (l:List Int) (M:List (List U)) (q:List Int) (y:Nat) (i k:Int):NS:=⟨[⟨8,95,[(1,(EV.ptr 0 0)),(6,(EV.lst (SyC.recs [(Sh.list [(Sh.int IntKind.i64)])] M))),(8,EV.slO 1 1 y true),(9,iv i),(10,iv k)],[.it (.code (nav [1,1,1,1,1,1,0,1,0,0,1,0,0,1,1,0,0,0] (bodyOf Try.f8))),.it (.code (nav [1,1,1,1,1,1,0,1,0,0,1,0,0,1,1,0,0,1] (bodyOf Try.f8))),.it (.inLoop (nav [1,1,1,1,1,1,0,1,0,0,1,0,0,1,1,0,0] (bodyOf Try.f8))),.it (.inBlock 2),.it (.inBlock 1),.it (.code (nav [1,1,1,1,1,1,0,1,0,0,1,1] (bodyOf Try.f8))),.it (.inLoop (nav [1,1,1,1,1,1,0,1,0,0] (bodyOf Try.f8))),.it (.inBlock 0),.it (.code (nav [1,1,1,1,1,1,1] (bodyOf Try.f8)))],[],Option.none⟩],[(0,EK.cells 24 [iv t,il l] true),(1,EK.seq 3 (.ints .i64 q) true)],2⟩
theorem in_t (t:Int) (l:List Int):RUN (st0 8 [hE t l])=(bc (chkL t l != 0) (.done (bv true) [] 0) (bc (decide (12<t)) (.done (bv true) [] 0) (bc (decide (40<Int.ofNat l.length)) (.done (bv true) [] 0) (bc (decide (In64 l)) (bc (bc (bc (decide (l.length≤3000)) true false) (bc (bc (bc (decide (t=t)) true false) true false) true false) false) (bc (offE t l != 0) (.done (bv false) [] 0) (bc (chk t (List.filter (fun x=>!isPn x) l) != 0) (.done (bv false) [] 0) (bc (bc (Nat.ble (0+(bc (offE t l != 0) [] (ofNs (offI t (nop l) true t.toNat))).length) 65536) true false) (bc (bc (Nat.beq ([]++bc (offE t l != 0) [] (ofNs (offI t (nop l) true t.toNat))).length ([]++bc (offE t l != 0) [] (ofNs (offI t (nop l) true t.toNat))).length) (bc (Nat.ble (([]++bc (offE t l != 0) [] (ofNs (offI t (nop l) true t.toNat))).length+(bc (offE t l != 0) [] (ofNs (offI t (nop l) false t.toNat))).length) 65536) true false) false) (.at (sI t l (bc (chk t (List.filter (fun x=>!isPn x) l) != 0) [] (mx t.toNat (PLnk.lkN (List.filter (fun x=>!isPn x) l)))) ([]++bc (offE t l != 0) [] (ofNs (offI t (nop l) true t.toNat))++bc (offE t l != 0) [] (ofNs (offI t (nop l) false t.toNat))) ([]++bc (offE t l != 0) [] (ofNs (offI t (nop l) true t.toNat))++bc (offE t l != 0) [] (ofNs (offI t (nop l) false t.toNat))).length 0)) .bad) .bad))) .bad) .bad)))):=by kernel_rfl
theorem i_t (t:Int) (l:List Int) (M:List (List U)) (q:List Int) (y:Nat) (i:Int):RUN (stOf (sI t l M q y i))=(bc (decide (i<Int.ofNat y)) (bc (decide (q.getD i.toNat 0<0)) (bc (bc (bc (bc (bc (decide (0≤i)) (Nat.blt i.toNat y) false) true false) (bc (bc (Nat.blt i.toNat q.length) true false) (bc (eqB (decide (q.getD i.toNat 0<0)) true) true false) false) false) true false) (.done (bv false) [] 0) .bad) (bc (bc (bc (bc (bc (decide (0≤i)) (Nat.blt i.toNat y) false) true false) (bc (bc (Nat.blt i.toNat q.length) true false) (bc (eqB (decide (q.getD i.toNat 0<0)) false) (bc (bc (bc (decide (0≤i)) (Nat.blt i.toNat y) false) true false) (bc (bc (Nat.blt i.toNat q.length) true false) true false) false) false) false) false) true false) (bc (decide (t≤q.getD i.toNat 0)) (.done (bv false) [] 0) (.at (sK t l M q y i 0))) .bad)) (.done (bv true) [] 0)):=by kernel_rfl
theorem k_t (t:Int) (l:List Int) (M:List (List U)) (q:List Int) (y:Nat) (i k:Int):RUN (stOf (sK t l M q y i k))=(bc (decide (k<t)) (bc (bc (bc (decide (0≤i)) (Nat.blt i.toNat y) false) true false) (bc (bc (Nat.blt i.toNat q.length) true false) (bc (bc (bc (decide (0≤q.getD i.toNat 0)) (Nat.blt (q.getD i.toNat 0).toNat M.length) false) true false) (bc (bc (Nat.blt (q.getD i.toNat 0).toNat M.length) true false) (bc (bc (bc (decide (0≤k)) (Nat.blt k.toNat (List.map (fun r=>U.int (List.headD r (U.i 0))) (U.list ((M.getD (q.getD i.toNat 0).toNat []).getD 0 (U.i 0)))).length) false) true false) (bc (bc (Nat.blt k.toNat (List.map (fun r=>U.int (List.headD r (U.i 0))) (U.list ((M.getD (q.getD i.toNat 0).toNat []).getD 0 (U.i 0)))).length) true false) (bc (decide (1<(List.map (fun r=>U.int (List.headD r (U.i 0))) (U.list ((M.getD (q.getD i.toNat 0).toNat []).getD 0 (U.i 0)))).getD k.toNat 0)) (.done (bv false) [] 0) (bc (decide ((List.map (fun r=>U.int (List.headD r (U.i 0))) (U.list ((M.getD (q.getD i.toNat 0).toNat []).getD 0 (U.i 0)))).getD k.toNat 0<(-1:Int))) (.done (bv false) [] 0) (.at (sK t l M q y i (IntKind.i64.wrap (k+1)))))) .bad) .bad) .bad) .bad) .bad) .bad) (.at (sI t l M q y (IntKind.i64.wrap (i+1))))):=by kernel_rfl
theorem chkO {n:Nat} {w:List Int} (h1:1≤n) (h2:n≤12) (hl:w.length≤400) (h:Vld n w):chk n w=0:=by
 unfold chk;rw [df (show ¬ (n:Int)<1 by omega),df (show ¬ (12:Int)<n by omega),df (show ¬ (400:Int)<Int.ofNat w.length by rw [ofn];omega),bc_f,bc_f,bc_f];have:w.any (badL n)=false:=by
  rw [List.any_eq_false];intro x hx hb;obtain ⟨q1,q2,q3⟩:=h x hx;unfold badL at hb;rw [zae (0-(n:Int)) (by omega) (by omega),show (x==0)=false by simp [q1],bc_f,df (show ¬ x≤0-(n:Int) by omega),bc_f,df (show ¬ (n:Int)≤x by omega)] at hb;cases hb
 rw [this,bc_f]
theorem zvs {n:Int} {w v:List Int} (h:samB n w v=true):Vld n.toNat w∧Vld n.toNat v∧nfW n.toNat w=nfW n.toNat v:=by
 unfold samB at h
 by_cases c:samE n w v=0
 ·rw [c,show ((0:Int) != 0)=false from rfl,bc_f] at h
  unfold samE at c
  by_cases d:chk n w=0
  ·rw [d,show ((0:Int) != 0)=false from rfl,bc_f] at c
   exact ⟨(zcp d).1.2.2.2,(zcp c).1.2.2.2,of_decide_eq_true h⟩
  ·rw [show (chk n w != 0)=true by simp [d],bc_t] at c;exact absurd c d
 ·rw [show (samE n w v != 0)=true by simp [c],bc_t] at h;cases h
theorem zvz {n:Nat} {w:List Int} {a:Bool} {z:Nat} (hn:2≤n) (hz:z<n) (h:offF n w a z=true) (b:Nat):-1≤PLnk.lkN w z b∧PLnk.lkN w z b≤1:=by
 have h:samB n w (bc (PLay.layE n w z a != 0) [] (layW (Int.toNat n) w z (PLay.sgn a)))=true:=h;obtain ⟨v1,v2,h3⟩:=zvs h;have e:PLnk.lkN w z b=lk (bc (PLay.layE n w z a != 0) [] (layW (Int.toNat n) w z (PLay.sgn a))) id z b:=(Cn.alk (n:=n) hn (zse v1 v2 h3)).k id z b;rw [e]
 cases PLay.layE n w z a != 0 with
 | true=>
  show (-1:Int)≤0∧(0:Int)≤1;decide
 | false=>exact zv0 (n:=n) (PLay.sgn_ok a) v1 hz b
variable {n:Nat} {l w:List Int}
theorem zvu {f:Nat→Nat→Int} {x:Nat} (hx:x<n):List.map (fun r=>U.int (List.headD r (U.i (0:Int)))) (U.list (List.getD (List.getD (mx n f) x []) 0 (U.i 0)))=(List.range n).map fun b=>f x b:=by
 rw [zfh hx,List.map_map];rfl
theorem loopK {P:List Nat} {i:Nat} (hn:n≤12) (hi:i<P.length) (hP:P.length≤100) (hz:∀ z,z∈P→z<n∧∀ b,-1≤PLnk.lkN w z b∧PLnk.lkN w z b≤1)
  (H:EndZ 8 ctLq false (stOf (sI n l (mx n (PLnk.lkN w)) (ofNs P) P.length (i+1:Nat))) (bv true) [] 0):∀ (d k:Nat),k+d=n→EndZ 8 ctLq false (stOf (sK n l (mx n (PLnk.lkN w)) (ofNs P) P.length i k)) (bv true) [] 0
 | 0,k,h=>by
  have q:=k_t n l (mx n (PLnk.lkN w)) (ofNs P) P.length i k;have w4:IntKind.wrap IntKind.i64 ((i:Int)+1)=((i+1:Nat):Int):=by rw [zae _ (by omega) (by omega)];omega
  rw [df (show ¬ (k:Int)<(n:Int) by omega),bc_f,w4] at q;exact .at zfw q H
 | d+1,k,h=>by
  have hk:k<n:=by omega
  obtain ⟨z1,z2⟩:=hz P[i] (List.getElem_mem hi);obtain ⟨b1,b2⟩:=z2 k;have q:=k_t n l (mx n (PLnk.lkN w)) (ofNs P) P.length i k;have e0:∀ x:Nat,Int.toNat (x:Int)=x:=fun _=>rfl;have hg:(ofNs P).getD i 0=((P[i]:Nat):Int):=by rw [zk8 hi,zav hi]
  have w4:IntKind.wrap IntKind.i64 ((k:Int)+1)=((k+1:Nat):Int):=by rw [zae _ (by omega) (by omega)];omega
  have hrl:((List.range n).map fun b=>PLnk.lkN w P[i] b).length=n:=by rw [List.length_map,List.length_range]
  have hrk:((List.range n).map fun b=>PLnk.lkN w P[i] b).getD k 0=PLnk.lkN w P[i] k:=by
   rw [List.getD_eq_getElem?_getD,List.getElem?_map,List.getElem?_range hk];rfl
  rw [e0,hg,e0,e0,w4,zvu z1,hrl,hrk,zlc,zdy,df (show ¬ 1<PLnk.lkN w P[i] k by omega),df (show ¬ PLnk.lkN w P[i] k < -1 by omega)] at q;simp (disch:=omega) only [yS] at q;exact .at zfw q (loopK hn hi hP hz H d (k+1) (by omega))
theorem loopI {P:List Nat} (hn:n≤12) (hP:P.length≤100) (hz:∀ z,z∈P→z<n∧∀ b,-1≤PLnk.lkN w z b∧PLnk.lkN w z b≤1):∀ (d i:Nat),i+d=P.length→EndZ 8 ctLq false (stOf (sI n l (mx n (PLnk.lkN w)) (ofNs P) P.length i)) (bv true) [] 0
 | 0,i,h=>by
  have q:=i_t n l (mx n (PLnk.lkN w)) (ofNs P) P.length i;rw [df (show ¬ (i:Int)<Int.ofNat P.length by rw [ofn];omega),bc_f] at q;exact .done q
 | d+1,i,h=>by
  have hi:i<P.length:=by omega
  have q:=i_t n l (mx n (PLnk.lkN w)) (ofNs P) P.length i;have e0:Int.toNat (i:Int)=i:=rfl;have hg:(ofNs P).getD i 0=((P[i]:Nat):Int):=by rw [zk8 hi,zav hi]
  have hlt:=(hz P[i] (List.getElem_mem hi)).1;rw [e0,hg,zdy,df (show ¬ ((P[i]:Nat):Int)<0 by omega),df (show ¬ (n:Int)≤((P[i]:Nat):Int) by omega)] at q;simp (disch:=omega) only [yS,eqB] at q
  exact .at zfw q (loopK hn hi hP hz (loopI hn hP hz d (i+1) (by omega)) n 0 (by omega))
theorem ends {t:Int} {l:List Int} (hx:In64 l):EndZ 8 ctLq false (st0 8 [hE t l]) (bv true) [] 0:=by
 have q:=in_t t l
 by_cases z:chkL t l=0
 ·obtain ⟨hb,hl,hL⟩:=zj9.1 z;rw [z,show ((0:Int) != 0)=false from rfl,bc_f] at q
  by_cases c1:12<t
  ·rw [dt c1,bc_t] at q;exact .done q
  by_cases c2:(40:Int)<Int.ofNat l.length
  ·rw [df c1,dt c2,bc_f,bc_t] at q;exact .done q
  have hl40:l.length≤40:=by rw [ofn] at c2;omega
  obtain ⟨n,rfl⟩:=Int.eq_ofNat_of_zero_le (show 0≤t by omega);have hnl:=zsn l;have hV:Vld n (nop l):=fun x hx=>by
   obtain ⟨h1,h2⟩:=List.mem_filter.1 hx;have h3:=hL x h1;have h4:isPn x=false:=by simpa using h2
   have h4:=of_decide_eq_false h4;unfold LetD at h3;omega
  have hc:chk n (nop l)=0:=chkO (by omega) (by omega) (by omega) hV;have eE:offE n l=0:=by
   unfold offE;rw [z,show ((0:Int) != 0)=false from rfl,bc_f,df c1,bc_f,df (show ¬ 378<((nop l).length:Int) by omega),bc_f]
  have eN:(l.filter fun x=>!isPn x)=nop l:=rfl;have e0:Int.toNat (n:Int)=n:=rfl;have o1:=zew n (nop l) true n;have o2:=zew n (nop l) false n;have hap:ofNs (offI n (nop l) true n)++ofNs (offI n (nop l) false n)=ofNs (offI n (nop l) true n++offI n (nop l) false n):=(zg2 _ _).symm;rw [df c1,df c2,dt hx,dt (show l.length≤3000 by omega),dt (rfl:(n:Int)=n),eE,eN,hc,show ((0:Int) != 0)=false from rfl,List.nil_append,e0] at q
  simp only [bc_t,bc_f] at q;have hPl:(offI n (nop l) true n++offI n (nop l) false n).length≤100:=by rw [List.length_append];omega
  have hmem:∀ y,y∈offI n (nop l) true n++offI n (nop l) false n→∃ a,y∈offI n (nop l) a n:=fun y hy=>(List.mem_append.1 hy).elim (fun h=>⟨_,h⟩) fun h=>⟨_,h⟩;obtain ⟨P,hP⟩:∃ P,offI n (nop l) true n++offI n (nop l) false n=P:=⟨_,rfl⟩;rw [hap,hP] at q;rw [hP] at hPl hmem
  simp (disch:=omega) only [yS,zdy] at q;refine .at zfw q (loopI (n:=n) (l:=l) (w:=nop l) (P:=P) (show n≤12 by omega) hPl (fun y hy=>?_) P.length 0 (by omega));obtain ⟨a,ha⟩:=hmem y hy;obtain ⟨y1,y2⟩:=List.mem_filter.1 ha
  have y1:=List.mem_range.1 y1;exact ⟨y1,fun b=>zvz (by omega) y1 y2 b⟩
 ·rw [show (chkL t l != 0)=true by simp [z],bc_t] at q;exact .done q
end ALq
theorem looseLinks_calls {γ:G} {w:World} {us:Array Value} (ra:List U) (wa:RowFit [.int .i64,.list [.int .i64]] ra)
  (hax:ECL γ [.agg (recE [.int .i64,.list [.int .i64]] ra)] us.toList) (hN:∀ i,γ i=none) (hfz:FzAt γ w):Calls Try.prog 8 us w fun e w'=>e = .returned (.bool true)∧Stays w w':=by
 have h1:=wa.fit 1 _ rfl;have hlen:=wa.len
 match ra,hlen with
 | [x,y],_=>
  have h1:UFit (.list [.int .i64]) y:=h1
  cases h1 with
  | list sh l hl hr hf=>
   exact zv1 ((ALq.ends (t:=U.int x) (fitI (.list _ l hl hr hf))).calls zfw (by kernel_rfl) hax hN hfz)
end
end Go.Proofs.Ytfffbioafhppiaa.Ev
namespace Go.Proofs.Ytfffbioafhppiaa
open Go.ChangeShapes Go.WideShapes Go.ChangeAt Go.RowKit Go.ChangeMaps
theorem knobLooseLinks:ownKnob Try.prog.godebug=none:=by kernel_rfl
theorem kidsLooseLinks:Kids Try.prog (· < Try.prog.types.size):=kids_rows (by kernel_rfl) (by kernel_rfl)
theorem fullLooseLinks:∀ t e,t<Try.prog.types.size→Try.prog.underlying t=some (.slice e)→0<Try.prog.cellsOf e:=slices_full_of Try.prog (by kernel_rfl)
set_option maxRecDepth 100000 in
theorem liftedLooseLinks (os:Os) (started:os.Started) (H:Type) (enc:TypeId×Value→H) :
  ReturnsInHanded {} Try.checked os 8 .any (Rows.looseLinksSpec.pre6 enc Try.prog Try.f8 Rows.looseLinksRow.domain false) (Rows.looseLinksSpec.post enc Try.prog Try.f8 false true false false):=by
 refine returnsInHanded_of_change (C:=Try.checked) knobLooseLinks started (by kernel_rfl) Try.func8
  (ChangeSpec.witness6 (enc:=enc) (C:=Try.checked) false ⟨#[],#[.agg #[.int .i64 0,.slice none 0 0]],[]⟩ 8 (by kernel_rfl) (by kernel_rfl) (by kernel_rfl) (by kernel_rfl)) ?_
 intro W base args ds gs before hval0 hW hcnd _;have hval:∀ (j:Nat) t v,Try.f8.params[j]? = some t→args[j]? = some v→Value.okWide Try.prog W .any base t v:=hval0;have hW':=hW;obtain ⟨p,q,hA0,hV,rfl,hfz,hnd⟩:=hW;have hA:DataW.TrodAll enc Try.prog W 0 (fun _=>true) true Try.f8.params.toList args.toList ds p:=hA0;have hAk:=hA;rw [Try.params8] at hA hval;obtain ⟨rfl,rfl⟩:=trodVars_none hV;obtain ⟨v0,d0,rfl,rfl,h0⟩:=trodAll_one hA
 obtain ⟨r,wr,er⟩:=Ev.open_agg (k:=8) Try.underlying24 (by kernel_rfl:Ev.shB Try.prog 8 24=some [.int .i64,.list [.int .i64]]) (hval 0 24 v0 rfl rfl) h0;clear hA0 hval0;refine (Ev.looseLinks_calls r wr (γ:=Ev.gAll W) (.cons er (.nil _)) (fun i=>rfl) (Ev.fzAll_at W)).mono fun e W' ⟨he,hg⟩=>?_;subst he;exact ⟨_,rfl,zrh kidsLooseLinks fullLooseLinks Try.underlying4 (by kernel_rfl) (by kernel_rfl) rfl rfl (by rw [Try.params8];decide) hW' hAk hg (ok_one (by kernel_rfl) rfl (okWide_bool_mk Try.underlying4 _))⟩
theorem looseLinks_holds:Rows.LooseLinksSaid:=
 OpenClaim.holds_of_wide 8 Try.f8 rfl rfl rfl rfl rfl rfl rfl ⟨rfl,rfl,rfl,rfl,rfl⟩ rfl rfl rfl rfl rfl (by kernel_rfl) Try.func8 (by kernel_rfl)
  (of_decide_eq_true (by kernel_rfl)) (by unfold Func.isWrapper;first|(rw [if_pos (by decide +kernel)];kernel_rfl)|(rw [if_neg (by decide +kernel)];exact ⟨rfl,rfl⟩))
  (fun os started H enc _=>liftedLooseLinks os started H enc)
end Go.Proofs.Ytfffbioafhppiaa
