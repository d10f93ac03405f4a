/- TraceTurned returns true, for all arguments, in every world in which it is called, and nothing that was there turns. -/
import Derived.Test.YtepiiaeiogdphaaRows
import Derived.WalkKit
import Derived.ProofKit
import Derived.Test.YtepiiaeiogdphaaTTg6
set_option linter.unusedSimpArgs false
set_option linter.unusedVariables false
noncomputable section
namespace Go.Proofs.Ytepiiaeiogdphaa.Ev
theorem zsd {e:List Int} {z:Nat} (h:e.Perm (iotL z)):srt e=iotL z:=by
 have hl:(srt e).length=z:=by rw [zdm,h.length_eq,zbs]
 have hm:∀ x,x∈srt e→0≤x∧x<(z:Int):=fun x hx=>by
  have hx:=h.mem_iff.1 ((zdb e).mem_iff.1 hx);unfold iotL at hx;obtain ⟨i,hi,rfl⟩:=List.mem_map.1 hx;have hi:=List.mem_range.1 hi;omega
 have:=zpi (ztk (h.nodup_iff.2 (zem z))) (fun x hx=>(hm x hx).1) (fun x hx=>by rw [hl];exact (hm x hx).2);rw [hl] at this;exact this
theorem bk_fw {n:Int} {l:List (List U)} {z:Nat} (hv:ValS n l) (hz:(z:Int)=2*n):∀ j,j≤l.length→bkF l (fwF l z l.length) j=fwF l z (l.length-j)
 | 0,_=>rfl
 | j+1,h=>by
  rw [ztc,bk_fw hv hz j (by omega),show l.length-j=(l.length-1-j)+1 by omega,show l.length-(j+1)=l.length-1-j by omega];show mvQ true _ _ (mvQ false _ _ _)=_;exact un_mv (pR_pm _) (by rw [zdr];exact zou hv hz (by omega))
theorem zws {n:Int} {l:List (List U)} {z i:Nat} (hv:ValS n l) (hz:(z:Int)=2*n) (hi:i<l.length):(suB l (fwF l z l.length) z i).2=true∧pR (l.getD i [])=(suB l (fwF l z l.length) z i).1:=by
 have hb:bkF l (fwF l z l.length) (l.length-1-i)=fwF l z (i+1):=by
  rw [bk_fw hv hz _ (by omega),show l.length-(l.length-1-i)=i+1 by omega]
 unfold suB;rw [hb];exact (zuj (by rw [zdr];exact zou hv hz hi) (by rw [zdr,zdr]) ((zh0 hv hz i (by omega)).nodup_iff.2 (zem z)) (pR_pm _).in4).1 rfl
theorem zos {n:Int} {l:List (List U)} {z:Nat} (hv:ValS n l) (hz:(z:Int)=2*n):∀ i,i≤l.length→sspR l (fwF l z l.length) z i=(List.range i).map fun k=>((k:Nat):Int)::pR (l.getD k [])
 | 0,_=>rfl
 | i+1,h=>by
  obtain ⟨h1,h2⟩:=zws hv hz (show i<l.length by omega);unfold sspR;rw [zos hv hz i (by omega),h1,← h2,List.range_succ,List.map_append];rfl
noncomputable def ownU (l:List (List U)):List (List U):=(List.range l.length).map fun k=>(((k:Nat):Int)::pR (l.getD k [])).map U.i
theorem zhm (l:List (List U)):(ownU l).length=l.length:=by unfold ownU;simp
theorem zu4 {l:List (List U)} {i:Nat} (h:i<l.length):(ownU l).getD i []=((i:Int)::pR (l.getD i [])).map U.i:=by
 unfold ownU;rw [List.getD_eq_getElem?_getD,List.getElem?_map,List.getElem?_range h];rfl
theorem zu3 {n:Int} {l:List (List U)} (X:List Int) (hc:chk4 n l=0):sspV n l (rnF l X (2*n).toNat (-1) l.length)=ownU l∧sspE n l (rnF l X (2*n).toNat (-1) l.length)=0:=by
 have hv:=zcx hc;have hlo:=hv.lo;have hz:((2*n).toNat:Int)=2*n:=by omega
 rw [zjy (by omega)];have hs:=zsd (zh0 hv hz l.length (Nat.le_refl _));unfold sspV sspE;rw [hc,if_pos hs,if_pos hs];refine ⟨?_,rfl⟩;show (sspR _ _ _ _).map _=_;rw [zos hv hz l.length (Nat.le_refl _),List.map_map];rfl
namespace LTx
theorem loop {n:Int} {l:List (List U)} (hc:chk4 n l=0):∀ (j i:Nat),i+j=l.length→EndZ 7 ctTx false (stOf (sR n l (ownU l) i)) (bv true) [] 0
 | 0,i,h=>by
  have h1:=r_t n l (ownU l) i;have hl:=zhm l;simp (disch:=omega) only [yS] at h1;exact .done h1
 | j+1,i,h=>by
  have h1:=r_t n l (ownU l) i;have hl:=zhm l;have hi:i<l.length:=by omega
  have hn:=(zcx hc).len;have hvi:ValR n (l.getD i []):=by rw [zaf hi];exact (zcx hc).val _ (List.getElem_mem hi)
  have e2:U.str (List.getD (List.getD l i []) (Nat.add 0 2) (U.i 0))=rW (l.getD i []):=rfl;have e3:plEd (rW (l.getD i []))=pR (l.getD i []):=by unfold plEd pR;rw [zmb hvi];rfl
  have hP:=(pR_pm (l.getD i [])).len;simp only [za1,e2,e3,zu4 hi] at h1;generalize pR (l.getD i [])=P at hP h1;obtain ⟨a,b,c,d,rfl⟩:=list4 hP;have q0:U.int (List.getD (List.map U.i ((i:Int)::[a,b,c,d])) (Nat.add 0 0) (U.i 0))=(i:Int):=rfl;have q1:U.int (List.getD (List.map U.i ((i:Int)::[a,b,c,d])) (Nat.add 0 1) (U.i 0))=a:=rfl;have q2:U.int (List.getD (List.map U.i ((i:Int)::[a,b,c,d])) (Nat.succ (Nat.add 0 1)) (U.i 0))=b:=rfl
  have q3:U.int (List.getD (List.map U.i ((i:Int)::[a,b,c,d])) (Nat.succ (Nat.succ (Nat.add 0 1))) (U.i 0))=c:=rfl;have q4:U.int (List.getD (List.map U.i ((i:Int)::[a,b,c,d])) (Nat.succ (Nat.succ (Nat.succ (Nat.add 0 1)))) (U.i 0))=d:=rfl;have p0:List.getD [a,b,c,d] (Int.toNat 0) 0=a:=rfl;have p1:List.getD [a,b,c,d] (Int.toNat 1) 0=b:=rfl;have p2:List.getD [a,b,c,d] (Int.toNat 2) 0=c:=rfl;have p3:List.getD [a,b,c,d] (Int.toNat 3) 0=d:=rfl;have l0:Nat.blt (Int.toNat 0) [a,b,c,d].length=true:=rfl
  have l1:Nat.blt (Int.toNat 1) [a,b,c,d].length=true:=rfl;have l2:Nat.blt (Int.toNat 2) [a,b,c,d].length=true:=rfl;have l3:Nat.blt (Int.toNat 3) [a,b,c,d].length=true:=rfl;simp only [q0,q1,q2,q3,q4,p0,p1,p2,p3,l0,l1,l2,l3,bne_self_eq_false,beq_self_eq_true,bc_t,bc_f,show eqB false false=true from rfl,show bnot true=false from rfl] at h1
  simp (disch:=omega) only [yS] at h1;exact .at zh8 h1 (loop hc j (i+1) (by omega))
theorem ends (n m:Int) (R M:List (List U)):EndZ 7 ctTx false (st0 7 [.agg [iv n,wl R],.agg [iv m,wl M]]) (bv true) [] 0:=by
 have h:=in_t n m R M;cases h1:farB 40 R <;> rw [h1] at h
 case true=>exact .done h
 cases h2:farB 40 M <;> rw [h2] at h
 case true=>exact .done h
 by_cases h3:40<Int.ofNat R.length
 ·rw [dt h3] at h;exact .done h
 rw [df h3] at h
 by_cases h4:40<Int.ofNat M.length
 ·rw [dt h4] at h;exact .done h
 rw [df h4] at h;cases h5:chk4 n R != 0 <;> rw [h5] at h
 case true=>exact .done h
 cases h6:chk4 m M != 0 <;> rw [h6] at h
 case true=>exact .done h
 have hR:chk4 n R=0:=by simpa using h5
 have hM:chk4 m M=0:=by simpa using h6
 obtain ⟨o1,o2⟩:=zu3 [0,0,0,0] hR;have hl:=zhm R;have hlo:=(zcx hR).lo;have hhi:=(zcx hR).hi;have c1:chk4 n R=0∧((-1:Int)<0∨[(0:Int),0,0,0].length=4∧∀ x:Int,x∈[(0:Int),0,0,0]→1≤x∧x≤4):=⟨hR,.inl (by omega)⟩;have c2:(rnF R [0,0,0,0] (2*n).toNat (-1) R.length).length≤1000:=by rw [zhb];omega
 have c3:eqSy (SyC.recs shW R) (SyC.recs shW R)=true:=zf3 _;have key:=loop hR R.length 0 (Nat.zero_add _);simp only [dt c1,dt c2,c3,o1,o2,hl,bne_self_eq_false,bc_t,bc_f,decide_true] at h;cases h7:n==m <;> rw [h7] at h
 ·exact .at zh8 h key
 ·have h8:n=m:=by simpa using h7
  have c4:n=m∧chk4 n R=0∧chk4 n M=0:=⟨h8,hR,by rw [h8];exact hM⟩;rw [dt c4] at h;exact .at zh8 h key
end LTx
theorem traceTurned_calls {γ:G} {w:World} {us:Array Value} (r:List U) (wr:RowFit [.int .i64,.list [.int .i64,.int .i64,.str]] r) (q:List U) (wq:RowFit [.int .i64,.list [.int .i64,.int .i64,.str]] q)
  (hax:ECL γ [.agg (recE [.int .i64,.list [.int .i64,.int .i64,.str]] r),.agg (recE [.int .i64,.list [.int .i64,.int .i64,.str]] q)] us.toList) (hN:∀ i,γ i=none) (hfz:FzAt γ w):Calls Try.prog 7 us w fun e w'=>e = .returned (.bool true)∧Stays w w':=
 zww ((LTx.ends _ _ _ _).calls zh8 (by kernel_rfl) hax hN hfz)
end Go.Proofs.Ytepiiaeiogdphaa.Ev
namespace Go.Proofs.Ytepiiaeiogdphaa
open Go.ChangeShapes Go.WideShapes Go.ChangeAt Go.RowKit Go.ChangeMaps
theorem knobTraceTurned:ownKnob Try.prog.godebug=none:=by kernel_rfl
theorem kidsTraceTurned:Kids Try.prog (· < Try.prog.types.size):=kids_rows (by kernel_rfl) (by kernel_rfl)
theorem fullTraceTurned:∀ t e,t<Try.prog.types.size→Try.prog.underlying t=some (.slice e)→0<Try.prog.cellsOf e:=slices_full_of Try.prog (by kernel_rfl)
set_option maxRecDepth 100000 in
theorem liftedTraceTurned (os:Os) (started:os.Started) (H:Type) (enc:TypeId×Value→H) :
  ReturnsInHanded {} Try.checked os 7 .any (Rows.traceTurnedSpec.pre6 enc Try.prog Try.f7 Rows.traceTurnedRow.domain false) (Rows.traceTurnedSpec.post enc Try.prog Try.f7 false true false false):=by
 refine returnsInHanded_of_change (C:=Try.checked) knobTraceTurned started (by kernel_rfl) Try.func7
  (ChangeSpec.witness6 (enc:=enc) (C:=Try.checked) false ⟨#[],#[.agg #[.int .i64 0,.slice none 0 0],.agg #[.int .i64 0,.slice none 0 0]],[]⟩ 8 (by kernel_rfl) (by kernel_rfl) (by kernel_rfl) (by kernel_rfl)) ?_
 intro W base args ds gs before hval0 hW hcnd _;have hval:∀ (j:Nat) t v,Try.f7.params[j]? = some t→args[j]? = some v→Value.okWide Try.prog W .any base t v:=hval0;have hW':=hW;obtain ⟨p,q,hA0,hV,rfl,hfz,hnd⟩:=hW;have hA:DataW.TrodAll enc Try.prog W 0 (fun _=>true) true Try.f7.params.toList args.toList ds p:=hA0;have hAk:=hA;rw [Try.params7] at hA hval;obtain ⟨rfl,rfl⟩:=trodVars_none hV;obtain ⟨v0,v1,d0,d1,p0,p1,rfl,rfl,rfl,h0,h1⟩:=trodAll_two hA
 obtain ⟨r,wr,er⟩:=Ev.open_agg (k:=8) Try.underlying24 (by kernel_rfl:Ev.shB Try.prog 8 24=some [.int .i64,.list [.int .i64,.int .i64,.str]]) (hval 0 24 v0 rfl rfl) h0;obtain ⟨q,wq,eq⟩:=Ev.open_agg (k:=8) Try.underlying24 (by kernel_rfl:Ev.shB Try.prog 8 24=some [.int .i64,.list [.int .i64,.int .i64,.str]]) (hval 1 24 v1 rfl rfl) h1;clear hA0 hval0;refine (Ev.traceTurned_calls r wr q wq (γ:=Ev.gAll W) (.cons er (.cons eq (.nil _))) (fun i=>rfl) (Ev.fzAll_at W)).mono fun e W' ⟨he,hg⟩=>?_;subst he
 exact ⟨_,rfl,zsc kidsTraceTurned fullTraceTurned Try.underlying4 (by kernel_rfl) (by kernel_rfl) rfl rfl (by rw [Try.params7];decide) hW' hAk hg (ok_one (by kernel_rfl) rfl (okWide_bool_mk Try.underlying4 _))⟩
theorem traceTurned_holds:Rows.TraceTurnedSaid:=
 OpenClaim.holds_of_wide 7 Try.f7 rfl rfl rfl rfl rfl rfl rfl ⟨rfl,rfl,rfl,rfl,rfl⟩ rfl rfl rfl rfl rfl (by kernel_rfl) Try.func7 (by kernel_rfl)
  (of_decide_eq_true (by kernel_rfl)) (by unfold Func.isWrapper;first|(rw [if_pos (by decide +kernel)];kernel_rfl)|(rw [if_neg (by decide +kernel)];exact ⟨rfl,rfl⟩))
  (fun os started H enc _=>liftedTraceTurned os started H enc)
end Go.Proofs.Ytepiiaeiogdphaa
