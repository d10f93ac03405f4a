/- LooseOff returns true, for all arguments, in every world in which it is called, and nothing that was there turns. -/
import Derived.ProofKit
import Derived.ReadAgain
import Derived.OpenShut
import Derived.Test.YtfffbioafhppiaaRows
import Derived.WalkKit
import Derived.Test.YtfffbioafhppiaaLOf5
set_option linter.unusedSimpArgs false
set_option linter.unusedVariables false
noncomputable section
namespace Go.Proofs.Ytfffbioafhppiaa.Ev
noncomputable def badL (n x:Int):Bool:=bc (x==0) true (bc (decide (x≤IntKind.i64.wrap (0-n))) true (decide (n≤x)))
noncomputable def chk (n:Int) (l:List Int):Int:=bc (decide (n<1)) 2 (bc (decide (12<n)) 2 (bc (decide (400<Int.ofNat l.length)) 3 (bc (l.any (badL n)) 7 0)))
theorem zqg {f:FuncId} {s:ES} (n:Int) (h:RZ f .nil (fun _=>false) [] [] false s=bc (decide (n<1)) (.done (iv 2) [] 0) (bc (decide (12<n)) (.done (iv 2) [] 0) (.done (iv 0) [] 0))):EndZ f .nil false s (iv (chk n [])) [] 0:=by
 unfold chk
 by_cases h1:n<1
 ·rw [dt h1,bc_t] at h ⊢;exact .done h
 by_cases h2:12<n
 ·rw [df h1,dt h2,bc_f,bc_t] at h ⊢;exact .done h
 ·rw [df h1,df h2,bc_f,bc_f] at h ⊢;exact .done h
namespace RChk
noncomputable def RUN (s:ES):ZF:=RZ 45 .nil (atS 0 45 6) [] [[(0,none),(1,none),(5,none)]] false s
noncomputable def sL (n:Int) (l:List Int) (i:Int):NS:=⟨[⟨45,43,[(0,(iv n)),(1,(il l)),(5,iv i)],[.it (.code (nav [1,1,1,0,1,0,0,0] (bodyOf Try.f45))),.it (.code (nav [1,1,1,0,1,0,0,1] (bodyOf Try.f45))),.it (.inLoop (nav [1,1,1,0,1,0,0] (bodyOf Try.f45))),.it (.inBlock 0),.it (.code (nav [1,1,1,1] (bodyOf Try.f45)))],[],Option.none⟩],[],0⟩
theorem in_t (n:Int) (l:List Int):RUN (st0 45 [iv n,il l])=(bc (decide (n<1)) (.done (iv (2)) [] 0) (bc (decide (12<n)) (.done (iv (2)) [] 0) (bc (decide (400<Int.ofNat l.length)) (.done (iv (3)) [] 0) (.at (sL n l 0))))):=by kernel_rfl
theorem nil_t (n:Int):RZ 45 .nil (fun _=>false) [] [] false (st0 45 [iv n,.v (.slice none 0 0)])=(bc (decide (n<(1:Int))) (.done (EV.v (Value.int IntKind.i64 (2))) [] 0) (bc (decide ((12:Int)<n)) (.done (EV.v (Value.int IntKind.i64 (2))) [] 0) (.done (EV.v (Value.int IntKind.i64 (0))) [] 0))):=by kernel_rfl
theorem step_t (n:Int) (l:List Int) (i:Int):RUN (stOf (sL n l i))=(bc (decide (i<Int.ofNat l.length)) (bc (bc (bc (decide (0≤i)) (Nat.blt i.toNat l.length) false) true false) (bc (bc (Nat.blt i.toNat l.length) true false) (bc (l.getD i.toNat 0==0) (.done (iv (7)) [] 0) (bc (bc (bc (decide (0≤i)) (Nat.blt i.toNat l.length) false) true false) (bc (bc (Nat.blt i.toNat l.length) true false) (bc (decide (l.getD i.toNat 0≤IntKind.i64.wrap ((0:Int)-n))) (.done (iv (7)) [] 0) (bc (bc (bc (decide (0≤i)) (Nat.blt i.toNat l.length) false) true false) (bc (bc (Nat.blt i.toNat l.length) true false) (bc (decide (n≤l.getD i.toNat 0)) (.done (iv (7)) [] 0) (.at (sL n l (IntKind.i64.wrap (i+1))))) .bad) .bad)) .bad) .bad)) .bad) .bad) (.done (iv (0)) [] 0)):=by kernel_rfl
theorem step {n:Int} {l:List Int} {i:Nat} (hi:i<l.length) (hl:l.length≤400):RUN (stOf (sL n l i))=bc (badL n l[i]) (.done (iv 7) [] 0) (.at (sL n l (i+1:Nat))):=by
 rw [step_t];have e:l.getD i 0=l[i]:=zao hi;simp (disch:=omega) only [yS,e];unfold badL;cases (l[i]==0) <;> cases decide (l[i]≤IntKind.i64.wrap (0-n)) <;> cases decide (n≤l[i]) <;> rfl
theorem last {n:Int} {l:List Int} {i:Nat} (hi:l.length≤i):RUN (stOf (sL n l i)) = .done (iv 0) [] 0:=by
 rw [step_t];simp (disch:=omega) only [yS]
theorem loop {n:Int} {l:List Int} (hl:l.length≤400):∀ (k i:Nat),i+k=l.length→EndZ 45 .nil false (stOf (sL n l i)) (iv (bc ((l.drop i).any (badL n)) 7 0)) [] 0
 | 0,i,h=>by
  rw [List.drop_eq_nil_of_le (by omega)];exact .done (last (by omega))
 | k+1,i,h=>by
  have hi:i<l.length:=by omega
  have hs:=step (n:=n) hi hl;rw [List.drop_eq_getElem_cons hi,List.any_cons];cases hb:badL n l[i] <;> rw [hb] at hs
  ·exact .at (.nil _) hs (loop hl k (i+1) (by omega))
  ·exact .done hs
theorem ends (n:Int) (l:List Int):EndZ 45 .nil false (st0 45 [iv n,il l]) (iv (chk n l)) [] 0:=by
 have h:=in_t n l;unfold chk
 by_cases h1:n<1
 ·simp only [yS,dt h1] at h ⊢;exact .done h
 by_cases h2:12<n
 ·simp only [yS,df h1,dt h2] at h ⊢;exact .done h
 by_cases h3:400<(l.length:Int)
 ·simp only [yS,df h1,df h2,dt h3] at h ⊢;exact .done h
 ·simp only [yS,df h1,df h2,df h3] at h ⊢;exact .at (.nil _) h (loop (by omega) l.length 0 (by omega))
end RChk
noncomputable def spRChk_0:ZCT:=fun ax=>match ax with
 | [.v (.int .i64 n),.lst (.ints .i64 l)]=>some ⟨decide True,iv (chk n l),[],0⟩
 | _=>none
theorem zje:ZCtOk Try.prog 45 spRChk_0:=fun γ w us ax r hs hc hax hN hfz=>by
 unfold spRChk_0 at hs;split at hs
 case h_2=>cases hs
 rename_i n l;obtain ⟨rfl⟩:=Option.some.inj hs;have hc_0:decide True=true:=hc;have hc:=of_decide_eq_true hc_0;exact EndZ.calls (RChk.ends n l) (.nil _) (by kernel_rfl) hax hN hfz
noncomputable def spRChk_1:ZCT:=fun ax=>match ax with
 | [.v (.int .i64 n),.v (.slice none 0 0)]=>some ⟨decide True,iv (chk n []),[],0⟩
 | _=>none
theorem zjd:ZCtOk Try.prog 45 spRChk_1:=fun γ w us ax r hs hc hax hN hfz=>by
 unfold spRChk_1 at hs;split at hs
 case h_2=>cases hs
 rename_i n;obtain ⟨rfl⟩:=Option.some.inj hs;have hc_0:decide True=true:=hc;have hc:=of_decide_eq_true hc_0;exact EndZ.calls (zqg n (RChk.nil_t n)) (.nil _) (by kernel_rfl) hax hN hfz
noncomputable def spRChk:ZCT:=ZCT.or spRChk_0 spRChk_1
theorem zdw:ZCtOk Try.prog 45 spRChk:=zje.or zjd
namespace PChk
noncomputable def RUN (s:ES):ZF:=RZs 65 .nil [(atS 2 126 2,[[(0,none),(1,none),(7,none),(8,none)],[],[]])] [] false s
noncomputable def sL (n:Int) (l:List Int) (z i:Int):NS:=⟨[⟨126,19,[(0,(il l)),(1,(EV.fn 112 [(EV.ptr 0 0)])),(7,iv z),(8,iv i)],[.it (.code (nav [1,0,1,0,0] (bodyOf Try.f126))),.it (.inLoop (nav [1,0,1,0,0] (bodyOf Try.f126))),.it (.inBlock 0),.it (.code (nav [1,1] (bodyOf Try.f126)))],[],Option.none⟩,⟨111,9,[],[.ops (opsOf (nav [1,0] (bodyOf Try.f111))) ((opsOf (nav [1,0] (bodyOf Try.f111))).toList.drop 2),.it (.code (nav [1,1] (bodyOf Try.f111)))],[],Option.none⟩,⟨65,20,[],[.ops (opsOf (nav [1,0,0,1,1,1,1,0] (bodyOf Try.f65))) ((opsOf (nav [1,0,0,1,1,1,1,0] (bodyOf Try.f65))).toList.drop 2),.it (.code (nav [1,0,0,1,1,1,1,1] (bodyOf Try.f65))),.it (.inBlock 0),.it (.code (nav [1,1] (bodyOf Try.f65)))],[],Option.none⟩],[(0,(EK.cells 3 [(iv n)] true))],1⟩
theorem in_t (n:Int) (l:List Int):RUN (st0 65 [iv n,il l])=(bc (decide (n<1)) (.done (iv (2)) [] 0) (bc (decide (12<n)) (.done (iv (2)) [] 0) (bc (decide (400<Int.ofNat l.length)) (.done (iv (3)) [] 0) (.at (sL n l (Int.ofNat l.length) 0))))):=by kernel_rfl
theorem nil_t (n:Int):RZ 65 .nil (fun _=>false) [] [] false (st0 65 [iv n,.v (.slice none 0 0)])=(bc (decide (n<(1:Int))) (.done (EV.v (Value.int IntKind.i64 (2))) [] 0) (bc (decide ((12:Int)<n)) (.done (EV.v (Value.int IntKind.i64 (2))) [] 0) (.done (EV.v (Value.int IntKind.i64 (0))) [] 0))):=by kernel_rfl
theorem step_t (n:Int) (l:List Int) (z i:Int):RUN (stOf (sL n l z i))=(bc (decide (i<z)) (bc (bc (bc (decide (0≤i)) (Nat.blt i.toNat l.length) false) true false) (bc (bc (Nat.blt i.toNat l.length) true false) (bc (l.getD i.toNat 0==0) (bc (decide (0≤i)) (.done (iv (7)) [] 0) (.done (iv (0)) [] 0)) (bc (decide (l.getD i.toNat 0≤IntKind.i64.wrap ((0:Int)-n))) (bc (decide (0≤i)) (.done (iv (7)) [] 0) (.done (iv (0)) [] 0)) (bc (decide (n≤l.getD i.toNat 0)) (bc (decide (0≤i)) (.done (iv (7)) [] 0) (.done (iv (0)) [] 0)) (.at (sL n l z (IntKind.i64.wrap (i+1))))))) .bad) .bad) (.done (iv (0)) [] 0)):=by kernel_rfl
theorem step {n:Int} {l:List Int} {i:Nat} (hi:i<l.length) (hl:l.length≤400):RUN (stOf (sL n l l.length i))=bc (badL n l[i]) (.done (iv 7) [] 0) (.at (sL n l l.length (i+1:Nat))):=by
 rw [step_t];have e:l.getD i 0=l[i]:=zao hi;simp (disch:=omega) only [yS,e];unfold badL;cases (l[i]==0) <;> cases decide (l[i]≤IntKind.i64.wrap (0-n)) <;> cases decide (n≤l[i]) <;> rfl
theorem last {n:Int} {l:List Int} {i:Nat} (hi:l.length≤i):RUN (stOf (sL n l l.length i)) = .done (iv 0) [] 0:=by
 rw [step_t];simp (disch:=omega) only [yS]
theorem loop {n:Int} {l:List Int} (hl:l.length≤400):∀ (k i:Nat),i+k=l.length→EndZ 65 .nil false (stOf (sL n l l.length i)) (iv (bc ((l.drop i).any (badL n)) 7 0)) [] 0
 | 0,i,h=>by
  rw [List.drop_eq_nil_of_le (by omega)];exact .done (last (by omega))
 | k+1,i,h=>by
  have hi:i<l.length:=by omega
  have hs:=step (n:=n) hi hl;rw [List.drop_eq_getElem_cons hi,List.any_cons];cases hb:badL n l[i] <;> rw [hb] at hs
  ·exact .at (.nil _) hs (loop hl k (i+1) (by omega))
  ·exact .done hs
theorem ends (n:Int) (l:List Int):EndZ 65 .nil false (st0 65 [iv n,il l]) (iv (chk n l)) [] 0:=by
 have h:=in_t n l;unfold chk
 by_cases h1:n<1
 ·simp only [yS,dt h1] at h ⊢;exact .done h
 by_cases h2:12<n
 ·simp only [yS,df h1,dt h2] at h ⊢;exact .done h
 by_cases h3:400<(l.length:Int)
 ·simp only [yS,df h1,df h2,dt h3] at h ⊢;exact .done h
 ·simp only [yS,df h1,df h2,df h3] at h ⊢;exact .at (.nil _) h (loop (by omega) l.length 0 (by omega))
end PChk
noncomputable def spPChk_0:ZCT:=fun ax=>match ax with
 | [.v (.int .i64 n),.lst (.ints .i64 l)]=>some ⟨decide True,iv (chk n l),[],0⟩
 | _=>none
theorem zji:ZCtOk Try.prog 65 spPChk_0:=fun γ w us ax r hs hc hax hN hfz=>by
 unfold spPChk_0 at hs;split at hs
 case h_2=>cases hs
 rename_i n l;obtain ⟨rfl⟩:=Option.some.inj hs;have hc_0:decide True=true:=hc;have hc:=of_decide_eq_true hc_0;exact EndZ.calls (PChk.ends n l) (.nil _) (by kernel_rfl) hax hN hfz
noncomputable def spPChk_1:ZCT:=fun ax=>match ax with
 | [.v (.int .i64 n),.v (.slice none 0 0)]=>some ⟨decide True,iv (chk n []),[],0⟩
 | _=>none
theorem zjh:ZCtOk Try.prog 65 spPChk_1:=fun γ w us ax r hs hc hax hN hfz=>by
 unfold spPChk_1 at hs;split at hs
 case h_2=>cases hs
 rename_i n;obtain ⟨rfl⟩:=Option.some.inj hs;have hc_0:decide True=true:=hc;have hc:=of_decide_eq_true hc_0;exact EndZ.calls (zqg n (PChk.nil_t n)) (.nil _) (by kernel_rfl) hax hN hfz
noncomputable def spPChk:ZCT:=ZCT.or spPChk_0 spPChk_1
theorem zia:ZCtOk Try.prog 65 spPChk:=zji.or zjh
namespace PEqP
noncomputable def K0 (L M:List Int) (nn nn2:Bool):List (Nat×EK):=[(0,.seq 95 (.ints .u8 L) nn),(1,.seq 95 (.ints .u8 M) nn2)]
noncomputable def RUN (s:ES):ZF:=RMs 0 67 .nil [(atS 0 67 4,[[(0,none),(1,none),(12,none),(13,none)]])] [] [] s
noncomputable def sL (L M:List Int) (len len2:Nat) (nn nn2:Bool) (z i:Int):NS:=⟨[⟨67,26,[(0,(EV.slO 0 12 len nn)),(1,(EV.slO 1 12 len2 nn2)),(12,iv z),(13,iv i)],[.it (.code (nav [1,1,0,1,0,0] (bodyOf Try.f67))),.it (.inLoop (nav [1,1,0,1,0,0] (bodyOf Try.f67))),.it (.inBlock 0),.it (.code (nav [1,1,1] (bodyOf Try.f67)))],[],Option.none⟩],[(0,(EK.seq 95 (SyC.ints IntKind.u8 L) nn)),(1,(EK.seq 95 (SyC.ints IntKind.u8 M) nn2))],2⟩
theorem in_t (L M:List Int) (len len2:Nat) (nn nn2:Bool):RUN (st0m 67 [.slO 0 12 len nn,.slO 1 12 len2 nn2] (K0 L M nn nn2) 2)=(bc (Int.ofNat len != Int.ofNat len2) (.done (bv false) [] 0) (.at (sL L M len len2 nn nn2 (Int.ofNat len) 0))):=by kernel_rfl
theorem step_t (L M:List Int) (len len2:Nat) (nn nn2:Bool) (z i:Int):RUN (stOf (sL L M len len2 nn nn2 z i))=(bc (decide (i<z)) (bc (bc (bc (bc (bc (decide (0≤i)) (Nat.blt i.toNat len) false) true false) (bc (bc (Nat.ble (Nat.add (Nat.add (Nat.mul i.toNat 12) 0) 12) L.length) true false) (bc (bc (bc (decide (0≤i)) (Nat.blt i.toNat len2) false) true false) (bc (bc (Nat.ble (Nat.add (Nat.add (Nat.mul i.toNat 12) 0) 12) M.length) true false) (bc (bc (bc (Nat.beq (List.take 12 (List.drop (Nat.add (Nat.mul i.toNat 12) 0) L)).length 12) (Nat.beq (List.take 12 (List.drop (Nat.add (Nat.mul i.toNat 12) 0) M)).length 12) false) true false) true false) false) false) false) false) true false) (bc (bnot (eqLI (List.take 12 (List.drop (Nat.add (Nat.mul i.toNat 12) 0) L)) (List.take 12 (List.drop (Nat.add (Nat.mul i.toNat 12) 0) M)))) (.done (bv false) [] 0) (.at (sL L M len len2 nn nn2 z (IntKind.i64.wrap (i+1))))) .bad) (.done (bv true) [] 0)):=by kernel_rfl
theorem zra {L M:List Int} {i:Nat} (hL:i*12+12≤L.length) (hM:i*12+12≤M.length) (h:L.take (i*12)=M.take (i*12)) (hw:(L.drop (i*12)).take 12=(M.drop (i*12)).take 12):L.take ((i+1)*12)=M.take ((i+1)*12):=by
 rw [show (i+1)*12=i*12+12 by omega,List.take_add,List.take_add,h,hw]
theorem zvs {L M:List Int} (h:L=M) (i:Nat):(L.drop (i*12)).take 12=(M.drop (i*12)).take 12:=by rw [h]
theorem loop {L M:List Int} {len:Nat} {nn nn2:Bool} (hL:len*12=L.length) (hM:len*12=M.length) (hz:len≤5000):∀ (k i:Nat),i+k=len→L.take (i*12)=M.take (i*12)→EndM 0 67 .nil (stOf (sL L M len len nn nn2 len i)) (bv (eqLI L M)) [] 0
 | 0,i,h,he=>by
  obtain rfl:i=len:=by omega
  have h1:=step_t L M i i nn nn2 i i;rw [df (show ¬ (i:Int)<(i:Int) by omega),bc_f] at h1;rw [hL] at he;rw [List.take_length,← hL,hM,List.take_length] at he;rw [zaf.2 he];exact .done h1
 | k+1,i,h,he=>by
  have h1:=step_t L M len len nn nn2 len i;have e0:((i:Int)).toNat=i:=rfl;have e1:Nat.add (Nat.mul i 12) 0=i*12:=rfl;have e2:Nat.add (i*12) 12=i*12+12:=rfl;have l1:((L.drop (i*12)).take 12).length=12:=by rw [List.length_take,List.length_drop];omega
  have l2:((M.drop (i*12)).take 12).length=12:=by rw [List.length_take,List.length_drop];omega
  rw [e0,e1,e2,l1,l2] at h1;simp (disch:=omega) only [yS] at h1
  cases hq:eqLI ((L.drop (i*12)).take 12) ((M.drop (i*12)).take 12) with
  | true=>
   rw [hq] at h1;exact .at (.nil _) h1 (loop hL hM hz k (i+1) (by omega) (zra (by omega) (by omega) he (zaf.1 hq)))
  | false=>
   rw [hq] at h1;have hne:eqLI L M=false:=by
    cases hx:eqLI L M with
    | false=>rfl
    | true=>rw [zaf.2 (zvs (zaf.1 hx) i)] at hq;cases hq
   rw [hne];exact .done h1
theorem ends {L M:List Int} {len len2:Nat} {nn nn2:Bool} (hL:len*12=L.length) (hM:len2*12=M.length) (hz:len≤5000):EndM 0 67 .nil (st0m 67 [.slO 0 12 len nn,.slO 1 12 len2 nn2] (K0 L M nn nn2) 2) (bv (eqLI L M)) [] 0:=by
 have h:=in_t L M len len2 nn nn2
 by_cases e:len=len2
 ·subst e;have e1:(Int.ofNat len != Int.ofNat len)=false:=by simp
  rw [e1,bc_f] at h;exact .at (.nil _) h (loop hL hM hz len 0 (by omega) (by simp))
 ·have e1:(Int.ofNat len != Int.ofNat len2)=true:=by simp;omega
  rw [e1,bc_t] at h;have hne:eqLI L M=false:=by
   cases hx:eqLI L M with
   | false=>rfl
   | true=>have:=congrArg List.length (zaf.1 hx);omega
  rw [hne];exact .done h
end PEqP
noncomputable def spEqP:ZMT:=fun ax K0 m=>match ax,K0 with
 | [.slO 0 12 len nn,.slO 1 12 len2 nn2],[(0,.seq 95 (.ints .u8 L) v_0),(1,.seq 95 (.ints .u8 M) v_1)]=>bc (Nat.beq m (2)) (some ⟨bc (eqN v_0 (nn)) (bc (eqN v_1 (nn2)) (decide (len*12=L.length∧len2*12=M.length∧len≤5000)) false) false,bv (eqLI L M),[],0,0⟩) none
 | _,_=>none
theorem zrq:ZMtOk Try.prog 67 spEqP:=fun γ w0 w us ax K0 m r hs hc hres hax hH=>by
 unfold spEqP at hs;split at hs
 case h_2=>cases hs
 rename_i len nn len2 nn2 L v_0 M v_1;obtain ⟨hm,rfl⟩:=noN hs;have hm:=Nat.eq_of_beq_eq_true hm;subst hm;have hc_0:bc (eqN v_0 (nn)) (bc (eqN v_1 (nn2)) (decide (len*12=L.length∧len2*12=M.length∧len≤5000)) false) false=true:=hc;obtain ⟨q_0,hc_1⟩:=bcT hc_0;have p_0:=(zdi q_0).symm;subst p_0;obtain ⟨q_1,hc_2⟩:=bcT hc_1;have p_1:=(zdi q_1).symm;subst p_1;have hc:=of_decide_eq_true hc_2;exact EndM.calls (PEqP.ends hc.1 hc.2.1 hc.2.2) (.nil _) (by kernel_rfl) hres hax hH
theorem zca {n:Int} {w:List Int} (h:chk n w=0):WOk n w∧w.length≤400:=by
 unfold chk at h
 by_cases h1:n<1
 ·rw [dt h1,bc_t] at h;omega
 by_cases h2:12<n
 ·rw [df h1,dt h2,bc_f,bc_t] at h;omega
 by_cases h3:(400:Int)<Int.ofNat w.length
 ·rw [df h1,df h2,dt h3,bc_f,bc_f,bc_t] at h;omega
 rw [df h1,df h2,df h3,bc_f,bc_f,bc_f] at h;rw [ofn] at h3;refine ⟨⟨by omega,by omega,by omega,fun x hx=>?_⟩,by omega⟩
 cases ha:w.any (badL n) with
 | true=>rw [ha,bc_t] at h;omega
 | false=>
  have h4:badL n x=false:=by
   cases hb:badL n x with
   | false=>rfl
   | true=>rw [List.any_eq_true.2 ⟨x,hx,hb⟩] at ha;cases ha
  unfold badL at h4;rw [zac (0-n) (by omega) (by omega)] at h4;have e:((n.toNat:Nat):Int)=n:=Int.toNat_of_nonneg (by omega);rw [e]
  by_cases q1:x=0
  ·rw [show (x==0)=true by simp [q1],bc_t] at h4;cases h4
  ·rw [show (x==0)=false by simp [q1],bc_f] at h4
   by_cases q2:x≤0-n
   ·rw [dt q2,bc_t] at h4;cases h4
   ·rw [df q2,bc_f] at h4;have q3:=of_decide_eq_false h4;exact ⟨q1,by omega,by omega⟩
noncomputable def sameN (n:Int) (a b:List Int):Bool:=decide (nfW n.toNat a=nfW n.toNat b)
noncomputable def samE (n:Int) (a b:List Int):Int:=bc (chk n a != 0) (chk n a) (chk n b)
noncomputable def samB (n:Int) (a b:List Int):Bool:=bc (samE n a b != 0) false (sameN n a b)
theorem zrv {n:Int} (h2:n≤12) (a b:List Int):sameN n a b=bc ((nfW n.toNat a).pw==(nfW n.toNat b).pw) (eqLI (encF (nfW n.toNat a).F) (encF (nfW n.toNat b).F)) false:=by
 have hn:n.toNat≤12:=by omega
 unfold sameN
 by_cases h1:(nfW n.toNat a).pw=(nfW n.toNat b).pw
 ·rw [show ((nfW n.toNat a).pw==(nfW n.toNat b).pw)=true by simp [h1],bc_t]
  by_cases h2:encF (nfW n.toNat a).F=encF (nfW n.toNat b).F
  ·rw [zaf.2 h2];exact decide_eq_true (Frm.ext h1 (zhq hn h2))
  ·have:eqLI (encF (nfW n.toNat a).F) (encF (nfW n.toNat b).F)=false:=by
    cases h:eqLI (encF (nfW n.toNat a).F) (encF (nfW n.toNat b).F) with
    | false=>rfl
    | true=>exact absurd (zaf.1 h) h2
   rw [this];exact decide_eq_false fun e=>h2 (by rw [e])
 ·rw [show ((nfW n.toNat a).pw==(nfW n.toNat b).pw)=false by simp [h1],bc_f];exact decide_eq_false fun e=>h1 (by rw [e])
theorem zg7 {n:Int} {w:List Int} (h:WOk n w):(nfW n.toNat w).F.length≤5000:=by
 obtain ⟨_,_,h3,_⟩:=h;have:∀ (w:List Int) (s:Frm n.toNat),(w.foldl Frm.step s).F.length≤s.F.length+w.length:=by
  intro w
  induction w with
  | nil=>intro s;exact Nat.le_refl _
  | cons x w ih=>
   intro s;have h1:=ih (s.step x);have h2:=(zrf s x).1;rw [List.foldl_cons,List.length_cons];omega
 have:=this w ⟨0,[]⟩;have e:nfW n.toNat w=w.foldl Frm.step ⟨0,[]⟩:=rfl;rw [e];simp at this;omega
namespace PSam
noncomputable def ct:Tr ZCC:=((Tr.nil.put 65 (some (dC spPChk))).put 66 (some (mC spNrm))).put 67 (some (mC spEqP))
theorem ct_ok:ZCtsOk Try.prog ct:=(((ZCtsOk.nil _).add rfl zia).addM rfl zro).addM rfl zrq
noncomputable def RUN (s:ES):ZF:=RZ 24 ct (fun _=>false) [] [] false s
theorem in_t (n:Int) (a b:List Int):RUN (st0 24 [iv n,il a,il b])=(bc ((List.map (fun r=>U.int (List.headD r (U.i 0))) [[U.i (chk n a)],[U.i (chk n b)]]).getD (0:Int).toNat 0 != 0) (bc ((List.map (fun r=>U.int (List.headD r (U.i 0))) [[U.i (chk n a)],[U.i (chk n b)]]).getD (0:Int).toNat 0 != 0) (.done (EV.tup [(bv false),(iv ((List.map (fun r=>U.int (List.headD r (U.i 0))) [[U.i (chk n a)],[U.i (chk n b)]]).getD (0:Int).toNat 0))]) [] 0) (bc (bc (decide (WOk n a)) true false) (bc (bc (decide (WOk n b)) true false) (bc (Frm.pw (nfW n.toNat a)==Frm.pw (nfW n.toNat b)) (bc (bc (bc (eqB (Frm.pw (nfW n.toNat a)==Frm.pw (nfW n.toNat b)) true) (bc (bc (bc (eqN (Nat.blt 0 a.length) (Nat.blt 0 a.length)) (bc (eqN (Nat.blt 0 b.length) (Nat.blt 0 b.length)) (decide ((Frm.F (nfW n.toNat a)).length*12=(encF (Frm.F (nfW n.toNat a))).length∧(Frm.F (nfW n.toNat b)).length*12=(encF (Frm.F (nfW n.toNat b))).length∧(Frm.F (nfW n.toNat a)).length≤5000)) false) false) true false) true false) false) true false) (.done (EV.tup [(bv (eqLI (encF (Frm.F (nfW n.toNat a))) (encF (Frm.F (nfW n.toNat b))))),(iv (0))]) [] 0) .bad) (bc (bc (bc (eqB (Frm.pw (nfW n.toNat a)==Frm.pw (nfW n.toNat b)) false) true false) true false) (.done (EV.tup [(bv false),(iv (0))]) [] 0) .bad)) .bad) .bad)) (bc ((List.map (fun r=>U.int (List.headD r (U.i 0))) [[U.i (chk n a)],[U.i (chk n b)]]).getD (IntKind.i64.wrap ((0:Int)+1)).toNat 0 != 0) (bc ((List.map (fun r=>U.int (List.headD r (U.i 0))) [[U.i (chk n a)],[U.i (chk n b)]]).getD (IntKind.i64.wrap ((0:Int)+1)).toNat 0 != 0) (.done (EV.tup [(bv false),(iv ((List.map (fun r=>U.int (List.headD r (U.i 0))) [[U.i (chk n a)],[U.i (chk n b)]]).getD (IntKind.i64.wrap ((0:Int)+1)).toNat 0))]) [] 0) (bc (bc (decide (WOk n a)) true false) (bc (bc (decide (WOk n b)) true false) (bc (Frm.pw (nfW n.toNat a)==Frm.pw (nfW n.toNat b)) (bc (bc (bc (eqB (Frm.pw (nfW n.toNat a)==Frm.pw (nfW n.toNat b)) true) (bc (bc (bc (eqN (Nat.blt 0 a.length) (Nat.blt 0 a.length)) (bc (eqN (Nat.blt 0 b.length) (Nat.blt 0 b.length)) (decide ((Frm.F (nfW n.toNat a)).length*12=(encF (Frm.F (nfW n.toNat a))).length∧(Frm.F (nfW n.toNat b)).length*12=(encF (Frm.F (nfW n.toNat b))).length∧(Frm.F (nfW n.toNat a)).length≤5000)) false) false) true false) true false) false) true false) (.done (EV.tup [(bv (eqLI (encF (Frm.F (nfW n.toNat a))) (encF (Frm.F (nfW n.toNat b))))),(iv (0))]) [] 0) .bad) (bc (bc (bc (eqB (Frm.pw (nfW n.toNat a)==Frm.pw (nfW n.toNat b)) false) true false) true false) (.done (EV.tup [(bv false),(iv (0))]) [] 0) .bad)) .bad) .bad)) (bc (bc (decide (WOk n a)) true false) (bc (bc (decide (WOk n b)) true false) (bc (Frm.pw (nfW n.toNat a)==Frm.pw (nfW n.toNat b)) (bc (bc (bc (eqB (Frm.pw (nfW n.toNat a)==Frm.pw (nfW n.toNat b)) true) (bc (bc (bc (eqN (Nat.blt 0 a.length) (Nat.blt 0 a.length)) (bc (eqN (Nat.blt 0 b.length) (Nat.blt 0 b.length)) (decide ((Frm.F (nfW n.toNat a)).length*12=(encF (Frm.F (nfW n.toNat a))).length∧(Frm.F (nfW n.toNat b)).length*12=(encF (Frm.F (nfW n.toNat b))).length∧(Frm.F (nfW n.toNat a)).length≤5000)) false) false) true false) true false) false) true false) (.done (EV.tup [(bv (eqLI (encF (Frm.F (nfW n.toNat a))) (encF (Frm.F (nfW n.toNat b))))),(iv (0))]) [] 0) .bad) (bc (bc (bc (eqB (Frm.pw (nfW n.toNat a)==Frm.pw (nfW n.toNat b)) false) true false) true false) (.done (EV.tup [(bv false),(iv (0))]) [] 0) .bad)) .bad) .bad))):=by kernel_rfl
theorem nil_t (n:Int) (a:List Int):RUN (st0 24 [iv n,il a,.v (.slice none 0 0)])=(bc ((List.map (fun r=>U.int (List.headD r (U.i 0))) [[U.i (chk n a)],[U.i (chk n [])]]).getD (0:Int).toNat 0 != 0) (bc ((List.map (fun r=>U.int (List.headD r (U.i 0))) [[U.i (chk n a)],[U.i (chk n [])]]).getD (0:Int).toNat 0 != 0) (.done (EV.tup [(bv false),(iv ((List.map (fun r=>U.int (List.headD r (U.i 0))) [[U.i (chk n a)],[U.i (chk n [])]]).getD (0:Int).toNat 0))]) [] 0) (bc (bc (decide (WOk n a)) true false) (bc (Frm.pw (nfW n.toNat a)==0) (bc (bc (bc (eqB (Frm.pw (nfW n.toNat a)==0) true) (bc (bc (bc (eqN (Nat.blt 0 a.length) (Nat.blt 0 a.length)) (decide ((Frm.F (nfW n.toNat a)).length*12=(encF (Frm.F (nfW n.toNat a))).length∧0*12=(zerosL 0).length∧(Frm.F (nfW n.toNat a)).length≤5000)) false) true false) true false) false) true false) (.done (EV.tup [(bv (eqLI (encF (Frm.F (nfW n.toNat a))) (zerosL 0))),(iv (0))]) [] 0) .bad) (bc (bc (bc (eqB (Frm.pw (nfW n.toNat a)==0) false) true false) true false) (.done (EV.tup [(bv false),(iv (0))]) [] 0) .bad)) .bad)) (bc ((List.map (fun r=>U.int (List.headD r (U.i 0))) [[U.i (chk n a)],[U.i (chk n [])]]).getD (IntKind.i64.wrap ((0:Int)+1)).toNat 0 != 0) (bc ((List.map (fun r=>U.int (List.headD r (U.i 0))) [[U.i (chk n a)],[U.i (chk n [])]]).getD (IntKind.i64.wrap ((0:Int)+1)).toNat 0 != 0) (.done (EV.tup [(bv false),(iv ((List.map (fun r=>U.int (List.headD r (U.i 0))) [[U.i (chk n a)],[U.i (chk n [])]]).getD (IntKind.i64.wrap ((0:Int)+1)).toNat 0))]) [] 0) (bc (bc (decide (WOk n a)) true false) (bc (Frm.pw (nfW n.toNat a)==0) (bc (bc (bc (eqB (Frm.pw (nfW n.toNat a)==0) true) (bc (bc (bc (eqN (Nat.blt 0 a.length) (Nat.blt 0 a.length)) (decide ((Frm.F (nfW n.toNat a)).length*12=(encF (Frm.F (nfW n.toNat a))).length∧0*12=(zerosL 0).length∧(Frm.F (nfW n.toNat a)).length≤5000)) false) true false) true false) false) true false) (.done (EV.tup [(bv (eqLI (encF (Frm.F (nfW n.toNat a))) (zerosL 0))),(iv (0))]) [] 0) .bad) (bc (bc (bc (eqB (Frm.pw (nfW n.toNat a)==0) false) true false) true false) (.done (EV.tup [(bv false),(iv (0))]) [] 0) .bad)) .bad)) (bc (bc (decide (WOk n a)) true false) (bc (Frm.pw (nfW n.toNat a)==0) (bc (bc (bc (eqB (Frm.pw (nfW n.toNat a)==0) true) (bc (bc (bc (eqN (Nat.blt 0 a.length) (Nat.blt 0 a.length)) (decide ((Frm.F (nfW n.toNat a)).length*12=(encF (Frm.F (nfW n.toNat a))).length∧0*12=(zerosL 0).length∧(Frm.F (nfW n.toNat a)).length≤5000)) false) true false) true false) false) true false) (.done (EV.tup [(bv (eqLI (encF (Frm.F (nfW n.toNat a))) (zerosL 0))),(iv (0))]) [] 0) .bad) (bc (bc (bc (eqB (Frm.pw (nfW n.toNat a)==0) false) true false) true false) (.done (EV.tup [(bv false),(iv (0))]) [] 0) .bad)) .bad))):=by kernel_rfl
theorem fin {n:Int} {a b:List Int} {s:ES} (z1:chk n a=0) (z2:chk n b=0) (h:RUN s=bc ((nfW n.toNat a).pw==(nfW n.toNat b).pw) (.done (.tup [bv (eqLI (encF (nfW n.toNat a).F) (encF (nfW n.toNat b).F)),iv 0]) [] 0) (.done (.tup [bv false,iv 0]) [] 0)):EndZ 24 ct false s (.tup [bv (samB n a b),iv (samE n a b)]) [] 0:=by
 have e1:samE n a b=0:=by unfold samE;rw [z1,z2];rfl
 obtain ⟨⟨_,h2,_⟩,_⟩:=zca z1;unfold samB;rw [e1,show ((0:Int) != 0)=false from rfl,bc_f,zrv h2]
 cases hq:((nfW n.toNat a).pw==(nfW n.toNat b).pw) with
 | true=>rw [hq,bc_t] at h;rw [bc_t];exact .done h
 | false=>rw [hq,bc_f] at h;rw [bc_f];exact .done h
theorem bad {n:Int} {a b:List Int} {s:ES} {e:Int} (h0:e≠0) (he:samE n a b=e) (h:RUN s = .done (.tup [bv false,iv e]) [] 0):EndZ 24 ct false s (.tup [bv (samB n a b),iv (samE n a b)]) [] 0:=by
 unfold samB;rw [he,show (e != 0)=true by simp [h0],bc_t];exact .done h
theorem ends (n:Int) (a b:List Int):EndZ 24 ct false (st0 24 [iv n,il a,il b]) (.tup [bv (samB n a b),iv (samE n a b)]) [] 0:=by
 have h:=in_t n a b;have g0:List.getD (List.map (fun r=>U.int (List.headD r (U.i 0))) [[U.i (chk n a)],[U.i (chk n b)]]) (Int.toNat 0) 0=chk n a:=rfl;have g1:List.getD (List.map (fun r=>U.int (List.headD r (U.i 0))) [[U.i (chk n a)],[U.i (chk n b)]]) (Int.toNat (IntKind.wrap IntKind.i64 (0+1))) 0=chk n b:=rfl;rw [g0,g1] at h
 by_cases z1:chk n a=0
 ·rw [z1,show ((0:Int) != 0)=false from rfl,bc_f] at h
  by_cases z2:chk n b=0
  ·rw [z2,show ((0:Int) != 0)=false from rfl,bc_f] at h
   have w1:=(zca z1).1;have w2:=(zca z2).1;rw [dt w1,dt w2,zah,zah,dt ⟨rfl,rfl,zg7 w1⟩] at h;refine fin z1 z2 (h.trans ?_);cases (nfW n.toNat a).pw==(nfW n.toNat b).pw <;> simp only [yS,eqB] <;> rfl
  ·rw [show (chk n b != 0)=true by simp [z2],bc_t,bc_t] at h;exact bad z2 (by unfold samE;rw [z1];rfl) h
 ·rw [show (chk n a != 0)=true by simp [z1],bc_t,bc_t] at h;exact bad z1 (by unfold samE;rw [show (chk n a != 0)=true by simp [z1],bc_t]) h
theorem endsN (n:Int) (a:List Int):EndZ 24 ct false (st0 24 [iv n,il a,.v (.slice none 0 0)]) (.tup [bv (samB n a []),iv (samE n a [])]) [] 0:=by
 have h:=nil_t n a;have g0:List.getD (List.map (fun r=>U.int (List.headD r (U.i 0))) [[U.i (chk n a)],[U.i (chk n [])]]) (Int.toNat 0) 0=chk n a:=rfl;have g1:List.getD (List.map (fun r=>U.int (List.headD r (U.i 0))) [[U.i (chk n a)],[U.i (chk n [])]]) (Int.toNat (IntKind.wrap IntKind.i64 (0+1))) 0=chk n []:=rfl;rw [g0,g1] at h
 by_cases z1:chk n a=0
 ·rw [z1,show ((0:Int) != 0)=false from rfl,bc_f] at h
  by_cases z2:chk n []=0
  ·rw [z2,show ((0:Int) != 0)=false from rfl,bc_f] at h
   have w1:=(zca z1).1;rw [dt w1,zah,dt ⟨rfl,rfl,zg7 w1⟩] at h;refine fin z1 z2 (h.trans ?_);show bc ((nfW n.toNat a).pw==0) _ _=bc ((nfW n.toNat a).pw==0) _ _;cases (nfW n.toNat a).pw==0 <;> simp only [yS,eqB] <;> rfl
  ·rw [show (chk n [] != 0)=true by simp [z2],bc_t,bc_t] at h;exact bad z2 (by unfold samE;rw [z1];rfl) h
 ·rw [show (chk n a != 0)=true by simp [z1],bc_t,bc_t] at h;exact bad z1 (by unfold samE;rw [show (chk n a != 0)=true by simp [z1],bc_t]) h
end PSam
noncomputable def spPSam_0:ZCT:=fun ax=>match ax with
 | [.v (.int .i64 n),.lst (.ints .i64 a),.lst (.ints .i64 b)]=>some ⟨decide (True),.tup [bv (samB n a b),iv (samE n a b)],[],0⟩
 | _=>none
theorem zjg:ZCtOk Try.prog 24 spPSam_0:=fun γ w us ax r hs hc hax hN hfz=>by
 unfold spPSam_0 at hs;split at hs
 case h_2=>cases hs
 rename_i n a b;obtain ⟨rfl⟩:=Option.some.inj hs;have hc_0:decide (True)=true:=hc;have hc:=of_decide_eq_true hc_0;exact EndZ.calls (PSam.ends n a b) PSam.ct_ok (by kernel_rfl) hax hN hfz
noncomputable def spPSam_1:ZCT:=fun ax=>match ax with
 | [.v (.int .i64 n),.lst (.ints .i64 a),.v (.slice none 0 0)]=>some ⟨decide (True),.tup [bv (samB n a []),iv (samE n a [])],[],0⟩
 | _=>none
theorem zjf:ZCtOk Try.prog 24 spPSam_1:=fun γ w us ax r hs hc hax hN hfz=>by
 unfold spPSam_1 at hs;split at hs
 case h_2=>cases hs
 rename_i n a;obtain ⟨rfl⟩:=Option.some.inj hs;have hc_0:decide (True)=true:=hc;have hc:=of_decide_eq_true hc_0;exact EndZ.calls (PSam.endsN n a) PSam.ct_ok (by kernel_rfl) hax hN hfz
noncomputable def spPSam:ZCT:=ZCT.or spPSam_0 (spPSam_1)
theorem zh8:ZCtOk Try.prog 24 spPSam:=zjg.or (zjf)
noncomputable abbrev resL (e:Int) (l:List Int):EV:=.tup [il (bc (e != 0) [] l),iv e]
theorem zbz {e:Int} (l:List Int) (h:e≠0):Weak (.tup [.v (.slice none 0 0),iv e]) (resL e l):=by
 unfold resL;rw [show (e != 0)=true by simp [h],bc_t];exact Weak.tup (.cons (Weak.nilI _) (.cons (Weak.refl _) .nil))
theorem zug {e:Int} (l:List Int) (h:e=0):resL e l = .tup [il l,iv 0]:=by
 subst h;rfl
section
variable {n:Nat}
theorem zm5 (k:Nat):(zerosL k).length=k:=by unfold zerosL;simp
noncomputable def swP (p:Pm n) (k:Nat):Pm n:=if h:0<k∧k<n then p.L k h else p
noncomputable def lnP (n:Nat) (w:List Int):Pm n:=w.foldl (fun p x=>swP p x.natAbs) (Pm.one n)
theorem zuw (w:List Int) (x:Int):lnP n (w++[x])=swP (lnP n w) x.natAbs:=by unfold lnP;rw [List.foldl_append];rfl
theorem zte:∀ {w:List Int},Vld n w→∀ (p:Pm n) (x:Nat),(w.foldl (fun p x=>swP p x.natAbs) p).g x=gW w (p.g x)
 | [],_,_,_=>rfl
 | l::w,h,p,x=>by
  have hl:=h.head;show (w.foldl (fun p x=>swP p x.natAbs) (swP p l.natAbs)).g x=gW w (sw l.natAbs (p.g x));rw [zte h.tail];unfold swP;rw [dif_pos hl];rfl
theorem lnP_g {w:List Int} (h:Vld n w) (x:Nat):(lnP n w).g x=gW w x:=zte h (Pm.one n) x
end
section
variable {n:Nat}
namespace POth
noncomputable def RUN (s:ES):ZF:=RZ 127 .nil (atS 0 127 3) [] [[(4,some (1,3,.ints .i64 [])),(5,none),(11,none),(12,none),(13,none)]] false s
noncomputable def sA (w q:List Int) (nn:Bool) (p z i:Int):NS:=⟨[⟨127,55,[(4,EV.slO 0 1 q.length nn),(5,iv p),(11,(il w)),(12,iv z),(13,iv i)],[.it (.code (nav [1,1,0,1,0,0] (bodyOf Try.f127))),.it (.inLoop (nav [1,1,0,1,0,0] (bodyOf Try.f127))),.it (.inBlock 0),.it (.code (nav [1,1,1] (bodyOf Try.f127)))],[],Option.none⟩],[(0,EK.seq 3 (.ints .i64 q) nn)],1⟩
theorem in_t (w:List Int) (p:Int):RUN (st0 127 [il w,iv p])=(.at (sA w [] false p (Int.ofNat w.length) 0)):=by kernel_rfl
theorem a_t (w q:List Int) (nn:Bool) (p z i:Int):RUN (stOf (sA w q nn p z i))=(bc (decide (i<z)) (bc (bc (bc (decide (0≤i)) (Nat.blt i.toNat w.length) false) true false) (bc (bc (Nat.blt i.toNat w.length) true false) (bc (decide (w.getD i.toNat 0<0)) (bc (p==IntKind.i64.wrap (IntKind.i64.wrap ((0:Int)-w.getD i.toNat 0)-(1:Int))) (.at (sA w q nn (IntKind.i64.wrap (IntKind.i64.wrap (IntKind.i64.wrap ((2:Int)*IntKind.i64.wrap ((0:Int)-w.getD i.toNat 0))-(1:Int))-p)) z (IntKind.i64.wrap (i+1)))) (bc (p==IntKind.i64.wrap ((0:Int)-w.getD i.toNat 0)) (.at (sA w q nn (IntKind.i64.wrap (IntKind.i64.wrap (IntKind.i64.wrap ((2:Int)*IntKind.i64.wrap ((0:Int)-w.getD i.toNat 0))-(1:Int))-p)) z (IntKind.i64.wrap (i+1)))) (bc (decide (p<IntKind.i64.wrap ((0:Int)-w.getD i.toNat 0))) (bc (bc (Nat.beq q.length q.length) (bc (Nat.ble (q.length+([IntKind.i64.wrap ((-1:Int)*IntKind.i64.wrap (IntKind.i64.wrap ((0:Int)-w.getD i.toNat 0)-(1:Int)))]).length) 65536) (bc nn true (bc nn false true)) false) false) (.at (sA w (q++[IntKind.i64.wrap ((-1:Int)*IntKind.i64.wrap (IntKind.i64.wrap ((0:Int)-w.getD i.toNat 0)-(1:Int)))]) (bc nn true (Nat.blt 0 ([IntKind.i64.wrap ((-1:Int)*IntKind.i64.wrap (IntKind.i64.wrap ((0:Int)-w.getD i.toNat 0)-(1:Int)))]).length)) p z (IntKind.i64.wrap (i+1)))) .bad) (bc (bc (Nat.beq q.length q.length) (bc (Nat.ble (q.length+([w.getD i.toNat 0]).length) 65536) (bc nn true (bc nn false true)) false) false) (.at (sA w (q++[w.getD i.toNat 0]) (bc nn true (Nat.blt 0 ([w.getD i.toNat 0]).length)) p z (IntKind.i64.wrap (i+1)))) .bad)))) (bc (p==IntKind.i64.wrap (w.getD i.toNat 0-(1:Int))) (.at (sA w q nn (IntKind.i64.wrap (IntKind.i64.wrap (IntKind.i64.wrap ((2:Int)*w.getD i.toNat 0)-(1:Int))-p)) z (IntKind.i64.wrap (i+1)))) (bc (p==w.getD i.toNat 0) (.at (sA w q nn (IntKind.i64.wrap (IntKind.i64.wrap (IntKind.i64.wrap ((2:Int)*w.getD i.toNat 0)-(1:Int))-p)) z (IntKind.i64.wrap (i+1)))) (bc (decide (p<w.getD i.toNat 0)) (bc (bc (Nat.beq q.length q.length) (bc (Nat.ble (q.length+([IntKind.i64.wrap ((1:Int)*IntKind.i64.wrap (w.getD i.toNat 0-(1:Int)))]).length) 65536) (bc nn true (bc nn false true)) false) false) (.at (sA w (q++[IntKind.i64.wrap ((1:Int)*IntKind.i64.wrap (w.getD i.toNat 0-(1:Int)))]) (bc nn true (Nat.blt 0 ([IntKind.i64.wrap ((1:Int)*IntKind.i64.wrap (w.getD i.toNat 0-(1:Int)))]).length)) p z (IntKind.i64.wrap (i+1)))) .bad) (bc (bc (Nat.beq q.length q.length) (bc (Nat.ble (q.length+([w.getD i.toNat 0]).length) 65536) (bc nn true (bc nn false true)) false) false) (.at (sA w (q++[w.getD i.toNat 0]) (bc nn true (Nat.blt 0 ([w.getD i.toNat 0]).length)) p z (IntKind.i64.wrap (i+1)))) .bad))))) .bad) .bad) (bc (bc (Nat.beq q.length q.length) true false) (.done (EV.tup [(il q),(iv p)]) [] 0) .bad)):=by kernel_rfl
def othS (p:Nat) (x:Int):List Int×Nat:=if p+1=x.natAbs∨p=x.natAbs then ([],sw x.natAbs p) else if p<x.natAbs then ([lowL x],p) else ([x],p)
theorem oth_S (p:Nat) (x:Int) (w:List Int):oth p (x::w)=((othS p x).1++(oth (othS p x).2 w).1,(oth (othS p x).2 w).2):=by
 rw [zg4];unfold othS;split
 ·rfl
 ·split <;> rfl
theorem step {w q:List Int} {nn:Bool} {p i j:Nat} {x:Int} (hi:i<w.length) (hx:w.getD i 0=x) (hj:x.natAbs=j+1) (hn:j≤11) (hp:p≤12) (hw:w.length≤2000) (hq:q.length≤i) (hnn:nn=true∨q=[]):∃ nn',RUN (stOf (sA w q nn p w.length i)) = .at (sA w (q++(othS p x).1) nn' ((othS p x).2:Nat) w.length (i+1:Nat))∧(nn'=true∨q++(othS p x).1=[]):=by
 rw [a_t,dt (show (i:Int)<(w.length:Int) by omega),bc_t];have e0:((i:Int)).toNat=i:=rfl;rw [e0,hx];have w1:IntKind.i64.wrap (((j+1:Nat):Int)-1)=(j:Int):=by rw [zac _ (by omega) (by omega)];omega
 have w2:IntKind.i64.wrap (2*((j+1:Nat):Int))=2*((j+1:Nat):Int):=zac _ (by omega) (by omega);have w3:IntKind.i64.wrap (2*((j+1:Nat):Int)-1)=2*(j:Int)+1:=by rw [zac _ (by omega) (by omega)];omega
 have w4:IntKind.i64.wrap (-1*(j:Int)) = -(j:Int):=by rw [zac _ (by omega) (by omega)];omega
 have w5:IntKind.i64.wrap (1*(j:Int))=(j:Int):=by rw [zac _ (by omega) (by omega)];omega
 have w6:IntKind.i64.wrap (2*(j:Int)+1-(p:Int))=2*(j:Int)+1-(p:Int):=zac _ (by omega) (by omega);have hb:∀ v:Int,bc nn true (Nat.blt 0 (List.length ([v])))=true:=fun v=>by cases nn <;> rfl
 have hb2:bc nn true (bc nn false true)=true:=by cases nn <;> rfl
 unfold othS lowL;rw [hj];have hs:(∃ s:Int,x=s*((j+1:Nat):Int)∧(s = -1∧x<0∨s=1∧¬ x<0)):=by
  by_cases h:x<0
  ·exact ⟨-1,by omega,.inl ⟨rfl,h⟩⟩
  ·exact ⟨1,by omega,.inr ⟨rfl,h⟩⟩
 have main:∃ nn',(bc ((p:Int)==(j:Int)) (ZF.at (sA w q nn (2*(j:Int)+1-(p:Int)) w.length (i+1:Nat))) (bc ((p:Int)==((j+1:Nat):Int)) (ZF.at (sA w q nn (2*(j:Int)+1-(p:Int)) w.length (i+1:Nat))) (bc (decide ((p:Int)<((j+1:Nat):Int))) (ZF.at (sA w (q++[if x<0 then x+1 else x-1]) true p w.length (i+1:Nat))) (ZF.at (sA w (q++[x]) true p w.length (i+1:Nat))))))=ZF.at (sA w (q++(if p+1=j+1∨p=j+1 then (([]:List Int),sw (j+1) p) else if p<j+1 then ([if x<0 then x+1 else x-1],p) else ([x],p)).1) nn' ((if p+1=j+1∨p=j+1 then (([]:List Int),sw (j+1) p) else if p<j+1 then ([if x<0 then x+1 else x-1],p) else ([x],p)).2:Nat) w.length (i+1:Nat))∧(nn'=true∨q++(if p+1=j+1∨p=j+1 then (([]:List Int),sw (j+1) p) else if p<j+1 then ([if x<0 then x+1 else x-1],p) else ([x],p)).1=[]):=by
  by_cases c1:p=j
  ·subst c1;refine ⟨nn,?_,?_⟩
   ·rw [show (((p:Int)==(p:Int))=true) by simp,bc_t,if_pos (.inl rfl),List.append_nil,show sw (p+1) p=p+1 by unfold sw;rw [if_neg (by omega),if_pos rfl],show 2*(p:Int)+1-p=((p+1:Nat):Int) by omega]
   ·rw [if_pos (.inl rfl),List.append_nil];exact hnn
  ·rw [show (((p:Int)==(j:Int))=false) by simp;omega,bc_f]
   by_cases c2:p=j+1
   ·subst c2;refine ⟨nn,?_,?_⟩
    ·rw [show ((((j+1:Nat):Int)==((j+1:Nat):Int))=true) by simp,bc_t,if_pos (.inr rfl),List.append_nil,show sw (j+1) (j+1)=j by unfold sw;rw [if_pos rfl];omega,show 2*(j:Int)+1-((j+1:Nat):Int)=(j:Int) by omega]
    ·rw [if_pos (.inr rfl),List.append_nil];exact hnn
   ·rw [show (((p:Int)==((j+1:Nat):Int))=false) by simp;omega,bc_f,if_neg (show ¬ (p+1=j+1∨p=j+1) by omega)]
    by_cases c3:p<j+1
    ·rw [if_pos c3,dt (show (p:Int)<((j+1:Nat):Int) by omega),bc_t];exact ⟨true,rfl,.inl rfl⟩
    ·rw [if_neg c3,df (show ¬ (p:Int)<((j+1:Nat):Int) by omega),bc_f];exact ⟨true,rfl,.inl rfl⟩
 obtain ⟨nn',m1,m2⟩:=main;refine ⟨nn',Eq.trans ?_ m1,m2⟩;have m3:∀ v:Int,[v]=[v]:=fun v=>rfl
 by_cases hs:x<0
 ·have w0:IntKind.i64.wrap (0-x)=((j+1:Nat):Int):=by rw [zac _ (by omega) (by omega)];omega
  rw [dt hs,bc_t,w0,w1,w2,w3,w4,w6];simp (disch:=omega) only [yS,hb,hb2,m3,if_pos hs];rw [show -(j:Int)=x+1 by omega];rfl
 ·obtain rfl:x=((j+1:Nat):Int):=by omega
  rw [df hs,bc_f,w1,w2,w3,w5,w6];simp (disch:=omega) only [yS,hb,hb2,m3,if_neg hs];rw [show ((j+1:Nat):Int)-1=(j:Int) by omega];rfl
theorem othS_lt {n p:Nat} {x:Int} (hk:0<x.natAbs∧x.natAbs<n) (hp:p<n):(othS p x).2<n:=by
 unfold othS;split
 ·exact zs2 hk hp
 ·split <;> exact hp
theorem last {w q:List Int} {nn:Bool} {p:Nat}:RUN (stOf (sA w q nn p w.length w.length)) = .done (.tup [il q,iv p]) [] 0:=by
 rw [a_t,df (show ¬ (w.length:Int)<(w.length:Int) by omega),bc_f];simp only [yS]
theorem loop {w:List Int} (hn:n≤12) (hw:w.length≤2000) (h:Vld n w):∀ (k i:Nat) (q:List Int) (nn:Bool) (p:Nat),i+k=w.length→p<n→q.length≤i→(nn=true∨q=[])→EndZ 127 .nil false (stOf (sA w q nn p w.length i)) (.tup [il (q++(oth p (w.drop i)).1),iv ((oth p (w.drop i)).2:Nat)]) [] 0
 | 0,i,q,nn,p,hi,hp,hq,hnn=>by
  obtain rfl:i=w.length:=by omega
  rw [List.drop_length,show oth p []=([],p) from rfl,List.append_nil]
  exact .done last
 | k+1,i,q,nn,p,hi,hp,hq,hnn=>by
  have hi2:i<w.length:=by omega
  have hk:0<(w.getD i 0).natAbs∧(w.getD i 0).natAbs<n:=(show Vld n [w.getD i 0] from fun x hx=>by
   rw [List.mem_singleton.1 hx,zao hi2];exact h _ (List.getElem_mem _)).head
  obtain ⟨nn',h1,h2⟩:=step (p:=p) hi2 rfl (show (w.getD i 0).natAbs=(w.getD i 0).natAbs-1+1 by omega) (by omega) (by omega) hw hq hnn;rw [List.drop_eq_getElem_cons hi2,oth_S,← zao hi2,← List.append_assoc];refine .at (.nil _) h1 (loop hn hw h k (i+1) _ nn' _ (by omega) (othS_lt hk hp) ?_ h2);rw [List.length_append];have:(othS p (w.getD i 0)).1.length≤1:=by
   unfold othS;split
   ·exact Nat.zero_le _
   ·split <;> exact Nat.le_refl _
  omega
end POth
def OthOk (w:List Int) (p:Int):Prop:=w.length≤2000∧Vld 12 w∧0≤p∧p<12
noncomputable instance (w:List Int) (p:Int):Decidable (OthOk w p):=Classical.propDecidable _
noncomputable def spPOth:ZCT:=fun ax=>match ax with
 | [.lst (.ints .i64 w),.v (.int .i64 p)]=>some ⟨decide (OthOk w p),.tup [il (oth p.toNat w).1,iv ((oth p.toNat w).2:Nat)],[],0⟩
 | _=>none
theorem zoh:ZCtOk Try.prog 127 spPOth:=fun γ w us ax r hs hc hax hN hfz=>by
 unfold spPOth at hs;split at hs
 case h_2=>cases hs
 rename_i w p;obtain ⟨rfl⟩:=Option.some.inj hs;have hc_0:decide (OthOk w p)=true:=hc;have hc:=of_decide_eq_true hc_0;exact EndZ.calls (by
  obtain ⟨h1,h2,h3,h4⟩:=hc;obtain ⟨p,rfl⟩:=Int.eq_ofNat_of_zero_le h3;exact .at (.nil _) (POth.in_t w p) (POth.loop (Nat.le_refl _) h1 h2 w.length 0 [] false p (by omega) (by omega) (Nat.zero_le _) (.inr rfl))) (.nil _) (by kernel_rfl) hax hN hfz
end
section
variable {n:Nat}
namespace PDrp
noncomputable def ct:Tr ZCC:=(Tr.nil.put 65 (some (dC spPChk))).put 127 (some (dC spPOth))
theorem ct_ok:ZCtsOk Try.prog ct:=((ZCtsOk.nil _).add rfl zia).add rfl zoh
theorem othOk {n:Int} {w:List Int} {p:Int} (z:chk n w=0) (h1:¬ p<0) (h2:¬ n≤p):OthOk w p:=by
 obtain ⟨⟨w0,w1,w2,w3⟩,_⟩:=zca z;exact ⟨w2,zq9 (by omega) w3,by omega,by omega⟩
end PDrp
namespace PLay
noncomputable def RUN (s:ES):ZF:=RZs 82 PDrp.ct [(atS 0 82 11,[[(0,none),(1,none),(2,none),(11,none),(12,some (1,3,.ints .i64 [])),(13,none)]]),(atS 0 82 17,[[(11,none),(12,none),(15,none),(16,none)]])] [] false s
noncomputable def sA (n:Int) (w:List Int) (p s:Int) (q:List Int) (nn:Bool) (k:Int):NS:=⟨[⟨82,73,[(0,(iv n)),(1,(il w)),(2,iv p),(11,iv s),(12,EV.slO 0 1 q.length nn),(13,iv k)],[.it (.code (nav [1,1,1,1,1,0,1,0,0,0] (bodyOf Try.f82))),.it (.code (nav [1,1,1,1,1,0,1,0,0,1] (bodyOf Try.f82))),.it (.inLoop (nav [1,1,1,1,1,0,1,0,0] (bodyOf Try.f82))),.it (.inBlock 1),.it (.code (nav [1,1,1,1,1,1] (bodyOf Try.f82)))],[],Option.none⟩],[(0,EK.seq 3 (.ints .i64 q) nn)],1⟩
noncomputable def sB (s:Int) (q:List Int) (nn:Bool) (p k:Int):NS:=⟨[⟨82,73,[(11,iv s),(12,EV.slO 0 1 q.length nn),(15,iv p),(16,iv k)],[.it (.code (nav [1,1,1,1,1,1,1,1,0,1,0,0,0] (bodyOf Try.f82))),.it (.code (nav [1,1,1,1,1,1,1,1,0,1,0,0,1] (bodyOf Try.f82))),.it (.inLoop (nav [1,1,1,1,1,1,1,1,0,1,0,0] (bodyOf Try.f82))),.it (.inBlock 3),.it (.code (nav [1,1,1,1,1,1,1,1,1] (bodyOf Try.f82)))],[],Option.none⟩],[(0,EK.seq 3 (.ints .i64 q) nn)],1⟩
theorem in_t (n:Int) (w:List Int) (p:Int) (a:Bool):RUN (st0 82 [iv n,il w,iv p,bv a])=(bc (chk n w != 0) (.done (EV.tup [(EV.v (Value.slice Option.none 0 0)),(iv (chk n w))]) [] 0) (bc (decide (p<0)) (.done (EV.tup [(EV.v (Value.slice Option.none 0 0)),(iv (7))]) [] 0) (bc (decide (n≤p)) (.done (EV.tup [(EV.v (Value.slice Option.none 0 0)),(iv (7))]) [] 0) (bc a (.at (sA n w p 1 [] false (IntKind.i64.wrap (p+1)))) (.at (sA n w p ((-1:Int)) [] false (IntKind.i64.wrap (p+1)))))))):=by kernel_rfl
theorem a_t (n:Int) (w:List Int) (p s:Int) (q:List Int) (nn:Bool) (k:Int):RUN (stOf (sA n w p s q nn k))=(bc (decide (k<n)) (bc (bc (Nat.beq q.length q.length) (bc (Nat.ble (q.length+([IntKind.i64.wrap (s*k)]).length) 65536) (bc nn true (bc nn false true)) false) false) (.at (sA n w p s (q++[IntKind.i64.wrap (s*k)]) (bc nn true (Nat.blt 0 ([IntKind.i64.wrap (s*k)]).length)) (IntKind.i64.wrap (k+1)))) .bad) (bc (decide (OthOk w p)) (bc (bc (Nat.beq q.length q.length) (bc (Nat.ble (q.length+(Prod.fst (oth p.toNat w)).length) 65536) (bc nn true (bc nn false true)) false) false) (.at (sB s (q++Prod.fst (oth p.toNat w)) (bc nn true (Nat.blt 0 (Prod.fst (oth p.toNat w)).length)) ((Nat.cast (Prod.snd (oth p.toNat w)):Int)) (IntKind.i64.wrap (n-(1:Int))))) .bad) .bad)):=by kernel_rfl
theorem b_t (s:Int) (q:List Int) (nn:Bool) (p k:Int):RUN (stOf (sB s q nn p k))=(bc (decide (p<k)) (bc (bc (Nat.beq q.length q.length) (bc (Nat.ble (q.length+([IntKind.i64.wrap (IntKind.i64.wrap ((0:Int)-s)*k)]).length) 65536) (bc nn true (bc nn false true)) false) false) (.at (sB s (q++[IntKind.i64.wrap (IntKind.i64.wrap ((0:Int)-s)*k)]) (bc nn true (Nat.blt 0 ([IntKind.i64.wrap (IntKind.i64.wrap ((0:Int)-s)*k)]).length)) p (IntKind.i64.wrap (k-(1:Int))))) .bad) (bc (decide (400<Int.ofNat q.length)) (.done (EV.tup [(EV.v (Value.slice Option.none 0 0)),(iv (3))]) [] 0) (bc (bc (Nat.beq q.length q.length) true false) (.done (EV.tup [(il q),(iv (0))]) [] 0) .bad))):=by kernel_rfl
noncomputable def sgn (a:Bool):Int:=bc a 1 (-1)
theorem sgn_ok (a:Bool):sgn a=1∨sgn a = -1:=by cases a;exact .inr rfl;exact .inl rfl
theorem m3 (v:Int):[v]=[v]:=rfl
theorem hb (nn:Bool) (v:Int):bc nn true (Nat.blt 0 (List.length [v]))=true:=by cases nn <;> rfl
theorem hb2 (nn:Bool):bc nn true (bc nn false true)=true:=by cases nn <;> rfl
theorem hb3 {nn:Bool} {q:List Int} (h:nn=true∨q=[]) (r:List Int):bc nn true (Nat.blt 0 r.length)=true∨q++r=[]:=by
 cases nn with
 | true=>exact .inl rfl
 | false=>
  have h:q=[]:=by simpa using h
  subst h
  cases r with
  | nil=>exact .inr rfl
  | cons x r=>exact .inl rfl
theorem wsg {s:Int} (hs:s=1∨s = -1) {k:Int} (h0:0≤k) (h1:k≤20):IntKind.i64.wrap (s*k)=s*k:=by
 rcases hs with h|h <;> subst h <;> exact zac _ (by omega) (by omega)
theorem wsn {s:Int} (hs:s=1∨s = -1):IntKind.i64.wrap (0-s) = -s:=by
 rcases hs with h|h <;> subst h <;> rfl
theorem stepA {w q:List Int} {p s:Int} {nn:Bool} {k:Nat} (hs:s=1∨s = -1) (hk:k<n) (hn:n≤12) (hq:q.length≤20):RUN (stOf (sA n w p s q nn k)) = .at (sA n w p s (q++[s*(k:Int)]) true (k+1:Nat)):=by
 rw [a_t,dt (show (k:Int)<n by omega),bc_t,m3,wsg hs (by omega) (by omega),hb,hb2];simp (disch:=omega) only [yS];rfl
theorem midA {w q:List Int} {p s:Int} {nn:Bool} {k:Nat} (hk:n≤k) (hw:w.length≤2000) (hn1:1≤n) (hn:n≤12) (hq:q.length≤20) (hp:OthOk w p):RUN (stOf (sA n w p s q nn k)) = .at (sB s (q++(oth p.toNat w).1) (bc nn true (Nat.blt 0 (oth p.toNat w).1.length)) ((oth p.toNat w).2:Nat) ((n:Int)-1)):=by
 have h1:=zdm w p.toNat;rw [a_t,df (show ¬ (k:Int)<n by omega),bc_f,dt hp,bc_t,hb2,zac ((n:Int)-1) (by omega) (by omega)];simp (disch:=omega) only [yS]
theorem stepB {q:List Int} {s:Int} {nn:Bool} {p k:Nat} (hs:s=1∨s = -1) (hk:p<k) (hk2:k≤20) (hq:q.length≤3000):RUN (stOf (sB s q nn p k)) = .at (sB s (q++[-s*(k:Int)]) true p ((k:Int)-1)):=by
 rw [b_t,dt (show (p:Int)<k by omega),bc_t,m3,wsn hs,wsg (zpa hs) (by omega) (by omega),hb,hb2,zac ((k:Int)-1) (by omega) (by omega)];simp (disch:=omega) only [yS]
theorem lastB {q:List Int} {s:Int} {nn:Bool} {p k:Int} (hk:k≤p):RUN (stOf (sB s q nn p k))=bc (decide (400<(q.length:Int))) (.done (.tup [.v (.slice none 0 0),iv 3]) [] 0) (.done (.tup [il q,iv 0]) [] 0):=by
 rw [b_t,df (show ¬ p<k by omega),bc_f];simp only [yS]
theorem loopB {s:Int} (hs:s=1∨s = -1) (p:Nat):∀ (d:Nat) (q:List Int) (nn:Bool),p+d≤20→q.length+d≤2900→(nn=true∨q=[])→EndZ 82 PDrp.ct false (stOf (sB s q nn p ((p:Int)+d))) (resL (bc (decide (400<(q++dnW (-s) p d).length)) 3 0) (q++dnW (-s) p d)) [] 0
 | 0,q,nn,hd,hq,hnn=>by
  rw [show dnW (-s) p 0=[] from rfl,List.append_nil]
  have h:=lastB (s:=s) (q:=q) (nn:=nn) (p:=p) (k:=(p:Int)+(0:Nat)) (by omega)
  by_cases c:400<q.length
  ·rw [dt (show (400:Int)<(q.length:Int) by omega),bc_t] at h;rw [dt c,bc_t];exact (EndZ.done h).weak (zbz _ (by decide))
  ·rw [df (show ¬ (400:Int)<(q.length:Int) by omega),bc_f] at h;rw [df c,bc_f];exact .done h
 | d+1,q,nn,hd,hq,hnn=>by
  have h:=stepB (s:=s) (q:=q) (nn:=nn) (p:=p) (k:=p+(d+1)) hs (by omega) (by omega) (by omega);rw [show (((p+(d+1):Nat):Int)-1)=(p:Int)+(d:Nat) by omega] at h;have e:q++dnW (-s) p (d+1)=(q++[-s*((p+(d+1):Nat):Int)])++dnW (-s) p d:=by
   rw [List.append_assoc];rfl
  rw [e];exact .at PDrp.ct_ok h (loopB hs p d _ true (by omega) (by rw [List.length_append,List.length_singleton];omega) (.inl rfl))
theorem loopA {w:List Int} {p:Nat} {s:Int} (hs:s=1∨s = -1) (hn:n≤12) (hw:w.length≤2000) (hv:Vld n w) (hp:p<n) (hpo:OthOk w p):∀ (d a:Nat) (q:List Int) (nn:Bool),a+1+d=n→q.length≤a→(nn=true∨q=[])→EndZ 82 PDrp.ct false (stOf (sA n w p s q nn (a+1:Nat))) (resL (bc (decide (400<(q++upW s a d++(oth p w).1++dnW (-s) (oth p w).2 (n-1-(oth p w).2)).length)) 3 0) (q++upW s a d++(oth p w).1++dnW (-s) (oth p w).2 (n-1-(oth p w).2))) [] 0
 | 0,a,q,nn,hd,hq,hnn=>by
  have h:=midA (s:=s) (q:=q) (nn:=nn) (k:=a+1) (by omega) hw (by omega) hn (by omega) hpo;have h1:=gW_lt hv hp;rw [← zim] at h1;rw [show ((p:Int)).toNat=p from rfl,show (n:Int)-1=((oth p w).2:Int)+((n-1-(oth p w).2:Nat):Int) by omega] at h
  rw [show upW s a 0=[] from rfl,List.append_nil]
  have h3:=zdm w p;exact .at PDrp.ct_ok h (loopB hs _ _ _ _ (by omega) (by rw [List.length_append];omega) (hb3 hnn _))
 | d+1,a,q,nn,hd,hq,hnn=>by
  have h:=stepA (w:=w) (p:=p) (s:=s) (q:=q) (nn:=nn) (k:=a+1) hs (show a+1<n by omega) hn (by omega);have e:q++upW s a (d+1)=(q++[s*((a+1:Nat):Int)])++upW s (a+1) d:=by
   rw [List.append_assoc];rfl
  rw [e];exact .at PDrp.ct_ok h (loopA hs hn hw hv hp hpo d (a+1) _ true (by omega) (by rw [List.length_append,List.length_singleton];omega) (.inl rfl))
noncomputable def layE (n:Int) (w:List Int) (p:Int) (a:Bool):Int:=bc (chk n w != 0) (chk n w) (bc (decide (p<0)) 7 (bc (decide (n≤p)) 7 (bc (decide (400<(layW n.toNat w p.toNat (sgn a)).length)) 3 0)))
theorem ends (n:Int) (w:List Int) (p:Int) (a:Bool):EndZ 82 PDrp.ct false (st0 82 [iv n,il w,iv p,bv a]) (resL (layE n w p a) (layW n.toNat w p.toNat (sgn a))) [] 0:=by
 have h:=in_t n w p a
 by_cases z:chk n w=0
 ·rw [z,show ((0:Int) != 0)=false from rfl,bc_f] at h
  have e1:layE n w p a=bc (decide (p<0)) 7 (bc (decide (n≤p)) 7 (bc (decide (400<(layW n.toNat w p.toNat (sgn a)).length)) 3 0)):=by unfold layE;rw [z];rfl
  by_cases h1:p<0
  ·rw [dt h1,bc_t] at h e1;rw [e1];exact (EndZ.done h).weak (zbz _ (by decide))
  rw [df h1,bc_f] at h e1
  by_cases h2:n≤p
  ·rw [dt h2,bc_t] at h e1;rw [e1];exact (EndZ.done h).weak (zbz _ (by decide))
  rw [df h2,bc_f] at h e1;have ho:=PDrp.othOk z h1 h2;obtain ⟨⟨w0,w1,w2,w3⟩,_⟩:=zca z;obtain ⟨n,rfl⟩:=Int.eq_ofNat_of_zero_le (show 0≤n by omega);obtain ⟨p,rfl⟩:=Int.eq_ofNat_of_zero_le (show 0≤p by omega);have e2:IntKind.i64.wrap ((p:Int)+1)=((p+1:Nat):Int):=by rw [zac _ (by omega) (by omega)];omega
  have e3:bc a (.at (sA n w p 1 [] false ((p+1:Nat):Int))) (.at (sA n w p (-1) [] false ((p+1:Nat):Int)))=ZF.at (sA n w p (sgn a) [] false ((p+1:Nat):Int)):=by cases a <;> rfl
  rw [e2] at h;have h5:=h.trans e3;rw [e1];have h6:=loopA (sgn_ok a) (by omega) w2 w3 (by omega) ho (n-1-p) p [] false (by omega) (Nat.zero_le _) (.inr rfl);rw [List.nil_append] at h6;exact .at PDrp.ct_ok h5 h6
 ·have e1:layE n w p a=chk n w:=by unfold layE;rw [show (chk n w != 0)=true by simp [z],bc_t]
  rw [show (chk n w != 0)=true by simp [z],bc_t] at h;rw [e1];exact (EndZ.done h).weak (zbz _ z)
end PLay
noncomputable def spPLay:ZCT:=fun ax=>match ax with
 | [.v (.int .i64 n),.lst (.ints .i64 w),.v (.int .i64 p),.v (.bool a)]=>some ⟨decide (True),resL (PLay.layE n w p a) (layW n.toNat w p.toNat (PLay.sgn a)),[],0⟩
 | _=>none
theorem zh9:ZCtOk Try.prog 82 spPLay:=fun γ w us ax r hs hc hax hN hfz=>by
 unfold spPLay at hs;split at hs
 case h_2=>cases hs
 rename_i n w p a;obtain ⟨rfl⟩:=Option.some.inj hs;have hc_0:decide (True)=true:=hc;have hc:=of_decide_eq_true hc_0;exact EndZ.calls (PLay.ends n w p a) PDrp.ct_ok (by kernel_rfl) hax hN hfz
end
end Go.Proofs.Ytfffbioafhppiaa.Ev

namespace Go.Proofs.Ytfffbioafhppiaa.Ev
section
variable {n:Nat}
def upd (f:Nat→Nat→Int) (x y:Nat) (v:Int) (a b:Nat):Int:=if a=x∧b=y then v else f a b
end
section
variable {n:Nat}
noncomputable def pR (p:Pm n):List Int:=(List.range n).map fun x=>((p.f x:Nat):Int)
theorem zag (p:Pm n):(pR p).length=n:=by unfold pR;rw [List.length_map,List.length_range]
theorem zau (p:Pm n) {x:Nat} (hx:x<n):(pR p).getD x 0=(p.f x:Int):=by
 unfold pR;rw [List.getD_eq_getElem?_getD,List.getElem?_map,List.getElem?_range hx];rfl
theorem zik {p:Pm n} {l:List Int} (hl:l.length=n) (h:∀ x,x<n→l.getD x 0=(p.f x:Int)):l=pR p:=by
 apply List.ext_getElem (by rw [hl,zag]);intro x h1 h2;have h3:=h x (by omega);rw [← zau p (by omega),zao h1,zao h2] at h3;exact h3
theorem zs8 {p q:Pm n} (h:pR p=pR q):p=q:=Pm.ext fun x=>by
 by_cases hx:x<n
 ·have h1:=zau p hx;rw [h,zau q hx] at h1;omega
 ·rw [p.out x (by omega),q.out x (by omega)]
open Classical in
noncomputable def decR (n:Nat) (l:List Int):Pm n:=if h:∃ p:Pm n,l=pR p then Classical.choose h else Pm.one n
theorem zbu (p:Pm n):decR n (pR p)=p:=by
 have h:∃ q:Pm n,pR p=pR q:=⟨p,rfl⟩;unfold decR;rw [dif_pos h];exact (zs8 (Classical.choose_spec h)).symm
def PmL (l:List Int):Prop:=l.length≤12∧∃ p:Pm l.length,l=pR p
noncomputable instance (l:List Int):Decidable (PmL l):=Classical.propDecidable _
theorem PmL.pR (hn:n≤12) (p:Pm n):PmL (pR p):=by
 have key:∀ m,m=n→∃ q:Pm m,Ev.pR p=Ev.pR q:=fun m e=>by subst e;exact ⟨p,rfl⟩
 exact ⟨by rw [zag];exact hn,key _ (zag p)⟩
theorem PmL.get {l:List Int} (h:PmL l):l=Ev.pR (decR l.length l):=by
 obtain ⟨_,p,h2⟩:=h;have key:∀ m (q:Pm m),l=Ev.pR q→l=Ev.pR (decR m l):=fun m q e=>by
  have:∃ r:Pm m,l=Ev.pR r:=⟨q,e⟩;unfold decR;rw [dif_pos this];exact Classical.choose_spec this
 exact key _ p h2
noncomputable def aftL (p:List Int) (i:Int):List Int:=p.map fun x=>bc (decide (x=i)) (i-1) (bc (decide (x=i-1)) i x)
theorem zhw (p:Pm n) {k:Nat} (hk:0<k∧k<n):aftL (pR p) k=pR (p.R k hk):=zik (by unfold aftL;rw [List.length_map,zag]) fun x hx=>by
 have h1:=zau p hx;unfold aftL;rw [List.getD_eq_getElem?_getD] at h1 ⊢;rw [List.getElem?_map];have h2:(pR p)[x]? = some ((pR p)[x]'(by rw [zag];exact hx)):=List.getElem?_eq_getElem (by rw [zag];exact hx);rw [h2] at h1 ⊢;simp only [Option.map_some,Option.getD_some] at h1 ⊢;rw [h1];show _=((sw k (p.f x):Nat):Int);unfold sw
 by_cases e1:p.f x=k
 ·rw [if_pos e1,bc_eq,if_pos (decide_eq_true (show ((p.f x:Nat):Int)=k by omega))];omega
 ·rw [if_neg e1,bc_eq,if_neg (by simpa using (show ¬ ((p.f x:Nat):Int)=k by omega)),bc_eq]
  by_cases e2:p.f x+1=k
  ·rw [if_pos e2,if_pos (decide_eq_true (show ((p.f x:Nat):Int)=k-1 by omega))]
  ·rw [if_neg e2,if_neg (by simpa using (show ¬ ((p.f x:Nat):Int)=k-1 by omega))]
noncomputable def finB (l:List Int) (i:Nat):Bool:=bc (decide ((decR l.length l).g i<(decR l.length l).g (i-1))) true false
noncomputable def finN (n:Nat) (l:List Int) (i:Nat):Bool:=bc (decide ((decR n l).g i<(decR n l).g (i-1))) true false
theorem zj2 (p:Pm n) (i:Nat):finB (pR p) i=decide (p.g i<p.g (i-1)):=by
 show finN (pR p).length (pR p) i=_;rw [zag];unfold finN;rw [zbu,bc_eq];cases decide (p.g i<p.g (i-1)) <;> rfl
noncomputable def trnN (n:Nat) (l:List Int):List Int:=pR (decR n l).trn
noncomputable def trnL (l:List Int):List Int:=trnN l.length l
theorem znr (p:Pm n):trnL (pR p)=pR p.trn:=by
 unfold trnL;rw [zag];unfold trnN;rw [zbu]
noncomputable instance pmDec (p q:Pm n):Decidable (p=q):=Classical.propDecidable _
noncomputable def flN (n:Nat) (l:List Int) (w:Int):Bool:=bc (decide (w=1)) (decide (decR n l=Pm.one n)) (decide (decR n l=Pm.del n))
noncomputable def flL (l:List Int) (w:Int):Bool:=flN l.length l w
theorem zpr (p:Pm n):flL (pR p) 1=decide (p=Pm.one n):=by
 unfold flL;rw [zag];unfold flN;rw [zbu];rfl
theorem zps (p:Pm n):flL (pR p) (-1)=decide (p=Pm.del n):=by
 unfold flL;rw [zag];unfold flN;rw [zbu];rfl
noncomputable def slN1 (n:Nat) (a b:List Int):List Int:=pR (nf1 (decR n a) (decR n b))
noncomputable def slN2 (n:Nat) (a b:List Int):List Int:=pR (nf2 (decR n a) (decR n b))
noncomputable def slNB (n:Nat) (a b:List Int):Bool:=decide (nf1 (decR n a) (decR n b)≠decR n a)
noncomputable def sl1 (a b:List Int):List Int:=slN1 a.length a b
noncomputable def sl2 (a b:List Int):List Int:=slN2 a.length a b
noncomputable def slB (a b:List Int):Bool:=slNB a.length a b
theorem zs5 (a b:Pm n):sl1 (pR a) (pR b)=pR (nf1 a b):=by
 unfold sl1;rw [zag];unfold slN1;rw [zbu,zbu]
theorem zs4 (a b:Pm n):sl2 (pR a) (pR b)=pR (nf2 a b):=by
 unfold sl2;rw [zag];unfold slN2;rw [zbu,zbu]
theorem zs3 (a b:Pm n):slB (pR a) (pR b)=decide (nf1 a b≠a):=by
 unfold slB;rw [zag];unfold slNB;rw [zbu,zbu]
open Classical in
noncomputable def woL (n i:Int):List Int:=if h:0<i.toNat∧i.toNat<n.toNat then pR (ctr (n:=n.toNat) i.toNat h) else []
theorem zs1 {k:Nat} (hk:0<k∧k<n):woL n k=pR (ctr k hk):=by
 have e1:((k:Int)).toNat=k:=rfl;have e2:((n:Int)).toNat=n:=rfl;unfold woL;rw [dif_pos (show 0<((k:Int)).toNat∧((k:Int)).toNat<((n:Int)).toNat from hk)]
 rfl
theorem pR_L (p:Pm n) {i:Nat} (hi:0<i∧i<n):((pR p).set (i-1) (p.f i:Int)).set i (p.f (i-1):Int)=pR (p.L i hi):=zik (by rw [List.length_set,List.length_set,zag]) fun x hx=>by
 show _=((p.f (sw i x):Nat):Int);rw [gset2,gset2,List.length_set,zag]
 by_cases h1:x=i
 ·rw [if_pos ⟨h1,by omega⟩,h1,Pm.sw_at]
 ·rw [if_neg (fun h=>h1 h.1)]
  by_cases h2:x=i-1
  ·rw [if_pos ⟨h2,by omega⟩,h2,Pm.sw_pre hi.1]
  ·rw [if_neg (fun h=>h2 h.1),zau p hx,Pm.sw_ne h1 (by omega)]
noncomputable def endS (e:List Int):Nat→List Int
 | 0=>zerosL e.length
 | i+1=>(endS e i).set (e.getD i 0).toNat (i:Int)
theorem zdf (e:List Int):∀ i,(endS e i).length=e.length
 | 0=>by unfold endS zerosL;simp
 | i+1=>by unfold endS;rw [List.length_set,zdf e i]
theorem zl4 (p:Pm n):∀ (i:Nat),i≤n→∀ x,x<n→p.g x<i→(endS (pR p) i).getD x 0=(p.g x:Int)
 | 0,_,x,_,h=>by omega
 | i+1,hi,x,hx,h=>by
  unfold endS;rw [gset2,zdf,zau p (by omega),Int.toNat_natCast,zag]
  by_cases e:x=p.f i
  ·subst e;rw [if_pos ⟨rfl,hx⟩,p.gf]
  ·rw [if_neg (fun h=>e h.1)];refine zl4 p i (by omega) x hx ?_;have:p.g x≠i:=fun e2=>e (by rw [← e2,p.fg]);omega
theorem zkf (p:Pm n):endS (pR p) n=pR p.inv:=zik (by rw [zdf,zag]) fun x hx=>by
 rw [zl4 p n (Nat.le_refl _) x hx (p.ltg hx)];rfl
noncomputable def rowU (p:Pm n):List U:=[.l ((pR p).map fun x=>[.i x])]
noncomputable def encR (F:List (Pm n)):List (List U):=F.map rowU
theorem zbe (F:List (Pm n)):(encR F).length=F.length:=List.length_map ..
noncomputable def facR (r:List U):List Int:=List.map (fun r=>U.int (List.headD r (U.i 0))) (U.list (List.getD r 0 (U.i 0)))
theorem zcf (p:Pm n):facR (rowU p)=pR p:=by
 unfold facR rowU;show List.map (fun r=>U.int (List.headD r (U.i 0))) ((pR p).map fun x=>[U.i x])=pR p;rw [List.map_map];exact (List.map_congr_left fun x _=>rfl).trans (List.map_id _)
def Shrt (A:List (List U)):Prop:=A.length≤5000∧∀ r,r∈A→(facR r).length≤100000
noncomputable instance (A:List (List U)):Decidable (Shrt A):=Classical.propDecidable _
theorem zvj {p:Pm n} (h:∀ i,0<i→i<n→p.beg i):p=Pm.del n:=by
 have h1:p.inv=Pm.del n:=Pm.del_of h;have h2:p=p.inv.inv:=rfl;rw [h2,h1];exact Pm.ext fun _=>rfl
end
namespace RLin
noncomputable def RUN (s:ES):ZF:=RZ 85 .nil (atS 0 85 3) [] [[(0,none),(3,some (1,3,.ints .i64 [])),(4,none)]] false s
noncomputable def sL (n:Int) (q:List Int) (nn:Bool) (i:Int):NS:=⟨[⟨85,15,[(0,(iv n)),(3,EV.slO 0 1 q.length nn),(4,iv i)],[.it (.code (nav [1,1,0,1,0,0,0] (bodyOf Try.f85))),.it (.code (nav [1,1,0,1,0,0,1] (bodyOf Try.f85))),.it (.inLoop (nav [1,1,0,1,0,0] (bodyOf Try.f85))),.it (.inBlock 0),.it (.code (nav [1,1,1] (bodyOf Try.f85)))],[],Option.none⟩],[(0,EK.seq 3 (.ints .i64 q) nn)],1⟩
theorem in_t (n:Int):RUN (st0 85 [iv n])=(.at (sL n [] false 0)):=by kernel_rfl
theorem step_t (n:Int) (q:List Int) (nn:Bool) (i:Int):RUN (stOf (sL n q nn i))=(bc (decide (i<n)) (bc (bc (Nat.beq q.length q.length) (bc (Nat.ble (q.length+([i]).length) 65536) (bc nn true (bc nn false true)) false) false) (.at (sL n (q++[i]) (bc nn true (Nat.blt 0 ([i]).length)) (IntKind.i64.wrap (i+1)))) .bad) (bc (Nat.beq q.length q.length) (.done (il q) [] 0) .bad)):=by kernel_rfl
end RLin
namespace RAft
noncomputable def RUN (s:ES):ZF:=RZ 147 .nil (atS 0 147 3) [] [[(0,none),(1,none),(5,none),(6,none)]] false s
noncomputable def sL (p:List Int) (k:Int) (q:List Int) (m:Nat) (i:Int):NS:=⟨[⟨147,39,[(0,(il p)),(1,(iv k)),(5,EV.slO 0 1 m true),(6,iv i)],[.it (.code (nav [1,1,0,1,0,0,0] (bodyOf Try.f147))),.it (.code (nav [1,1,0,1,0,0,1] (bodyOf Try.f147))),.it (.inLoop (nav [1,1,0,1,0,0] (bodyOf Try.f147))),.it (.inBlock 0),.it (.code (nav [1,1,1] (bodyOf Try.f147)))],[],Option.none⟩],[(0,EK.seq 3 (.ints .i64 q) true)],1⟩
theorem in_t (p:List Int) (k:Int):RUN (st0 147 [il p,iv k])=(bc (bc (Nat.ble (0+p.length) 65536) true false) (.at (sL p k ([]++p) ([]++p).length 0)) .bad):=by kernel_rfl
theorem step_t (p:List Int) (k:Int) (q:List Int) (m:Nat) (i:Int):RUN (stOf (sL p k q m i))=(bc (decide (i<Int.ofNat p.length)) (bc (bc (bc (decide (0≤i)) (Nat.blt i.toNat p.length) false) true false) (bc (bc (Nat.blt i.toNat p.length) true false) (bc (p.getD i.toNat 0==k) (bc (bc (bc (decide (0≤i)) (Nat.blt i.toNat m) false) true false) (bc (Nat.blt i.toNat q.length) (bc (bc (bc (decide (0≤i)) (Nat.blt i.toNat p.length) false) true false) (bc (bc (Nat.blt i.toNat p.length) true false) (bc (p.getD i.toNat 0==IntKind.i64.wrap (k-(1:Int))) (bc (bc (bc (decide (0≤i)) (Nat.blt i.toNat m) false) true false) (bc (Nat.blt i.toNat (List.set q i.toNat (IntKind.i64.wrap (k-(1:Int)))).length) (.at (sL p k (List.set (List.set q i.toNat (IntKind.i64.wrap (k-(1:Int)))) i.toNat k) m (IntKind.i64.wrap (i+1)))) .bad) .bad) (.at (sL p k (List.set q i.toNat (IntKind.i64.wrap (k-(1:Int)))) m (IntKind.i64.wrap (i+1))))) .bad) .bad) .bad) .bad) (bc (bc (bc (decide (0≤i)) (Nat.blt i.toNat p.length) false) true false) (bc (bc (Nat.blt i.toNat p.length) true false) (bc (p.getD i.toNat 0==IntKind.i64.wrap (k-(1:Int))) (bc (bc (bc (decide (0≤i)) (Nat.blt i.toNat m) false) true false) (bc (Nat.blt i.toNat q.length) (.at (sL p k (List.set q i.toNat k) m (IntKind.i64.wrap (i+1)))) .bad) .bad) (.at (sL p k q m (IntKind.i64.wrap (i+1))))) .bad) .bad)) .bad) .bad) (bc (Nat.beq m q.length) (.done (il q) [] 0) .bad)):=by kernel_rfl
end RAft
namespace RFin
noncomputable def RUN (s:ES):ZF:=RZs 168 .nil [(atS 1 146 3,[[(0,none),(3,none),(4,none)],[(1,none)]])] [] false s
noncomputable def sL (p:List Int) (k:Int) (q:List Int) (m:Nat) (i:Int):NS:=⟨[⟨146,22,[(0,(il p)),(3,EV.slO 0 1 m true),(4,iv i)],[.it (.code (nav [1,1,0,1,0,0,0] (bodyOf Try.f146))),.it (.code (nav [1,1,0,1,0,0,1] (bodyOf Try.f146))),.it (.inLoop (nav [1,1,0,1,0,0] (bodyOf Try.f146))),.it (.inBlock 0),.it (.code (nav [1,1,1] (bodyOf Try.f146)))],[],Option.none⟩,⟨168,18,[(1,(iv k))],[.ops (opsOf (nav [1,0] (bodyOf Try.f168))) ((opsOf (nav [1,0] (bodyOf Try.f168))).toList.drop 1),.it (.code (nav [1,1] (bodyOf Try.f168)))],[],Option.none⟩],[(0,EK.seq 3 (.ints .i64 q) true)],1⟩
theorem in_t (p:List Int) (k:Int):RUN (st0 168 [il p,iv k])=(bc (bc (decide (Int.ofNat p.length≤Int.ofNat p.length)) (decide (Int.ofNat p.length≤65536)) false) (.at (sL p k (zerosL (Int.ofNat p.length).toNat) (zerosL (Int.ofNat p.length).toNat).length 0)) .bad):=by kernel_rfl
theorem step_t (p:List Int) (k:Int) (q:List Int) (m:Nat) (i:Int):RUN (stOf (sL p k q m i))=(bc (decide (i<Int.ofNat p.length)) (bc (bc (bc (decide (0≤i)) (Nat.blt i.toNat p.length) false) true false) (bc (bc (Nat.blt i.toNat p.length) true false) (bc (bc (bc (decide (0≤p.getD i.toNat 0)) (Nat.blt (p.getD i.toNat 0).toNat m) false) true false) (bc (Nat.blt (p.getD i.toNat 0).toNat q.length) (.at (sL p k (List.set q (p.getD i.toNat 0).toNat i) m (IntKind.i64.wrap (i+1)))) .bad) .bad) .bad) .bad) (bc (bc (bc (bc (bc (decide (0≤IntKind.i64.wrap (k-(1:Int)))) (Nat.blt (IntKind.i64.wrap (k-(1:Int))).toNat m) false) true false) (bc (bc (Nat.blt (IntKind.i64.wrap (k-(1:Int))).toNat q.length) true false) (bc (bc (bc (decide (0≤k)) (Nat.blt k.toNat m) false) true false) (bc (bc (Nat.blt k.toNat q.length) true false) true false) false) false) false) true false) (.done (bv (decide (q.getD k.toNat 0<q.getD (IntKind.i64.wrap (k-(1:Int))).toNat 0))) [] 0) .bad)):=by kernel_rfl
end RFin
namespace RTrn
noncomputable def RUN (s:ES):ZF:=RZ 148 .nil (atS 0 148 4) [] [[(0,none),(3,none),(4,none),(5,none)]] false s
noncomputable def sL (p:List Int) (q:List Int) (z:Int) (m:Nat) (i:Int):NS:=⟨[⟨148,29,[(0,(il p)),(3,iv z),(4,EV.slO 0 1 m true),(5,iv i)],[.it (.code (nav [1,1,1,0,1,0,0,0] (bodyOf Try.f148))),.it (.code (nav [1,1,1,0,1,0,0,1] (bodyOf Try.f148))),.it (.inLoop (nav [1,1,1,0,1,0,0] (bodyOf Try.f148))),.it (.inBlock 0),.it (.code (nav [1,1,1,1] (bodyOf Try.f148)))],[],Option.none⟩],[(0,EK.seq 3 (.ints .i64 q) true)],1⟩
theorem in_t (p:List Int):RUN (st0 148 [il p])=(bc (bc (decide (Int.ofNat p.length≤Int.ofNat p.length)) (decide (Int.ofNat p.length≤65536)) false) (.at (sL p (zerosL (Int.ofNat p.length).toNat) (Int.ofNat p.length) (zerosL (Int.ofNat p.length).toNat).length 0)) .bad):=by kernel_rfl
theorem step_t (p:List Int) (q:List Int) (z:Int) (m:Nat) (i:Int):RUN (stOf (sL p q z m i))=(bc (decide (i<z)) (bc (bc (bc (decide (0≤i)) (Nat.blt i.toNat p.length) false) true false) (bc (bc (Nat.blt i.toNat p.length) true false) (bc (bc (bc (decide (0≤IntKind.i64.wrap (IntKind.i64.wrap (z-(1:Int))-i))) (Nat.blt (IntKind.i64.wrap (IntKind.i64.wrap (z-(1:Int))-i)).toNat m) false) true false) (bc (Nat.blt (IntKind.i64.wrap (IntKind.i64.wrap (z-(1:Int))-i)).toNat q.length) (.at (sL p (List.set q (IntKind.i64.wrap (IntKind.i64.wrap (z-(1:Int))-i)).toNat (IntKind.i64.wrap (IntKind.i64.wrap (z-(1:Int))-p.getD i.toNat 0))) z m (IntKind.i64.wrap (i+1)))) .bad) .bad) .bad) .bad) (bc (Nat.beq m q.length) (.done (il q) [] 0) .bad)):=by kernel_rfl
end RTrn
namespace RFlt
noncomputable def RUN (s:ES):ZF:=RZ 151 .nil (atS 0 151 2) [] [[(0,none),(1,none),(5,none)]] false s
noncomputable def sL (p:List Int) (k:Int) (i:Int):NS:=⟨[⟨151,24,[(0,(il p)),(1,(iv k)),(5,iv i)],[.it (.code (nav [1,0,1,0,0,0] (bodyOf Try.f151))),.it (.code (nav [1,0,1,0,0,1] (bodyOf Try.f151))),.it (.inLoop (nav [1,0,1,0,0] (bodyOf Try.f151))),.it (.inBlock 0),.it (.code (nav [1,1] (bodyOf Try.f151)))],[],Option.none⟩],[],0⟩
theorem in_t (p:List Int) (k:Int):RUN (st0 151 [il p,iv k])=(.at (sL p k 1)):=by kernel_rfl
theorem step_t (p:List Int) (k:Int) (i:Int):RUN (stOf (sL p k i))=(bc (decide (i<Int.ofNat p.length)) (bc (bc (bc (bc (bc (decide (0≤i)) (Nat.blt i.toNat p.length) false) true false) (bc (bc (Nat.blt i.toNat p.length) true false) (bc (bc (bc (decide (0≤IntKind.i64.wrap (i-(1:Int)))) (Nat.blt (IntKind.i64.wrap (i-(1:Int))).toNat p.length) false) true false) (bc (bc (Nat.blt (IntKind.i64.wrap (i-(1:Int))).toNat p.length) true false) true false) false) false) false) true false) (bc (p.getD i.toNat 0 != IntKind.i64.wrap (p.getD (IntKind.i64.wrap (i-(1:Int))).toNat 0+k)) (.done (bv false) [] 0) (.at (sL p k (IntKind.i64.wrap (i+1))))) .bad) (.done (bv true) [] 0)):=by kernel_rfl
end RFlt
section
variable {n:Nat}
namespace RLin
noncomputable def rng (i:Nat):List Int:=(List.range i).map fun x=>((x:Nat):Int)
theorem rng_len (i:Nat):(rng i).length=i:=by unfold rng;rw [List.length_map,List.length_range]
theorem rng_succ (i:Nat):rng i++[(i:Int)]=rng (i+1):=by unfold rng;rw [List.range_succ,List.map_append];rfl
theorem step {nn:Bool} {i:Nat} (hn:n≤100) (hi:i<n):RUN (stOf (sL n (rng i) nn i)) = .at (sL n (rng (i+1)) true (i+1:Nat)):=by
 rw [step_t];have m1:[(i:Int)]=[(i:Int)]:=rfl;rw [m1,rng_succ,rng_len,nn_ok,List.length_singleton];have e1:bc nn true (Nat.blt 0 1)=true:=by cases nn <;> rfl
 simp (disch:=omega) only [yS,e1];rfl
theorem last {nn:Bool} {i:Nat} (hi:n≤i):RUN (stOf (sL n (rng i) nn i)) = .done (il (rng i)) [] 0:=by
 rw [step_t];simp (disch:=omega) only [yS]
theorem loop (hn:n≤100):∀ (k i:Nat) (nn:Bool),i+k=n→EndZ 85 .nil false (stOf (sL n (rng i) nn i)) (il (rng n)) [] 0
 | 0,i,nn,h=>by
  obtain rfl:i=n:=by omega
  exact .done (last (Nat.le_refl _))
 | k+1,i,nn,h=>.at (.nil _) (step hn (by omega)) (loop hn k (i+1) true (by omega))
theorem ends {n:Int} (h0:0≤n) (hn:n≤100):EndZ 85 .nil false (st0 85 [iv n]) (il (pR (Pm.one n.toNat))) [] 0:=by
 obtain ⟨n,rfl⟩:=Int.eq_ofNat_of_zero_le h0;exact .at (.nil _) (in_t n) (loop (by omega) n 0 false (by omega))
end RLin
noncomputable def spRLin:ZCT:=fun ax=>match ax with
 | [.v (.int .i64 n)]=>some ⟨decide (0≤n∧n≤100),il (pR (Pm.one n.toNat)),[],0⟩
 | _=>none
theorem zoc:ZCtOk Try.prog 85 spRLin:=fun γ w us ax r hs hc hax hN hfz=>by
 unfold spRLin at hs;split at hs
 case h_2=>cases hs
 rename_i n;obtain ⟨rfl⟩:=Option.some.inj hs;have hc_0:decide (0≤n∧n≤100)=true:=hc;have hc:=of_decide_eq_true hc_0;exact EndZ.calls (RLin.ends hc.1 hc.2) (.nil _) (by kernel_rfl) hax hN hfz
namespace RAft
noncomputable def aq (p:List Int) (k:Int) (i:Nat):List Int:=aftL (p.take i) k++p.drop i
theorem ztn (p:List Int) (k:Int) (i:Nat):(aq p k i).length=p.length:=by
 unfold aq aftL;rw [List.length_append,List.length_map,List.length_take,List.length_drop];omega
noncomputable def av (k x:Int):Int:=bc (decide (x=k)) (k-1) (bc (decide (x=k-1)) k x)
theorem ztm {p:List Int} {k:Int} {i:Nat} (hi:i<p.length) (v:Int) (hv:v=av k p[i]):(aq p k i).set i v=aq p k (i+1):=by
 unfold aq;have h1:(aftL (p.take i) k).length=i:=by unfold aftL;rw [List.length_map,List.length_take];omega
 rw [List.drop_eq_getElem_cons hi];have h2:=zgs (aftL (p.take i) k) [p[i]] (p.drop (i+1)) 0 v (by simp);rw [h1,show i+0=i from rfl] at h2
 rw [show aftL (p.take i) k++p[i]::p.drop (i+1)=aftL (p.take i) k++([p[i]]++p.drop (i+1)) from rfl,h2]
 have h3:aftL (p.take (i+1)) k=aftL (p.take i) k++[av k p[i]]:=by
  rw [List.take_succ_eq_append_getElem hi];unfold aftL;rw [List.map_append];rfl
 rw [h3,hv,List.append_assoc];rfl
theorem zvl {p:List Int} {k:Int} {i:Nat} (hi:i<p.length) (hv:av k p[i]=p[i]):aq p k i=aq p k (i+1):=by
 have h3:aftL (p.take (i+1)) k=aftL (p.take i) k++[av k p[i]]:=by
  rw [List.take_succ_eq_append_getElem hi];unfold aftL;rw [List.map_append];rfl
 unfold aq;rw [h3,hv,List.drop_eq_getElem_cons hi,List.append_assoc];rfl
theorem step {p:List Int} {k:Int} {i:Nat} (hp:p.length≤1000) (h1:-1000≤k) (h2:k≤1000) (hi:i<p.length):RUN (stOf (sL p k (aq p k i) p.length i)) = .at (sL p k (aq p k (i+1)) p.length (i+1:Nat)):=by
 rw [step_t];have e:p.getD i 0=p[i]:=zao hi;have e0:((i:Int)).toNat=i:=rfl;have hl:=ztn p k i;rw [e0,e,zac (k-1) (by omega) (by omega)]
 by_cases g1:p[i]=k
 ·have b1:(p[i]==k)=true:=by simp [g1]
  have b2:(p[i]==k-1)=false:=by simp [g1];omega
  rw [b1,b2,ztm hi (k-1) (by unfold av;rw [dt g1];rfl)];simp (disch:=omega) only [yS];rfl
 ·have b1:(p[i]==k)=false:=by simp [g1]
  by_cases g2:p[i]=k-1
  ·have b2:(p[i]==k-1)=true:=by simp [g2]
   rw [b1,b2,ztm hi k (by unfold av;rw [df g1,dt g2];rfl)];simp (disch:=omega) only [yS];rfl
  ·have b2:(p[i]==k-1)=false:=by simp [g2]
   rw [b1,b2,← zvl hi (by unfold av;rw [df g1,df g2];rfl)];simp (disch:=omega) only [yS];rfl
theorem last {p:List Int} {k:Int} {i:Nat} (hi:p.length≤i):RUN (stOf (sL p k (aq p k i) p.length i)) = .done (il (aftL p k)) [] 0:=by
 rw [step_t,ztn];have:aq p k i=aftL p k:=by unfold aq;rw [List.take_of_length_le hi,List.drop_of_length_le hi,List.append_nil]
 rw [this];simp (disch:=omega) only [yS]
theorem loop {p:List Int} {k:Int} (hp:p.length≤1000) (h1:-1000≤k) (h2:k≤1000):∀ (d i:Nat),i+d=p.length→EndZ 147 .nil false (stOf (sL p k (aq p k i) p.length i)) (il (aftL p k)) [] 0
 | 0,i,h=>.done (last (by omega))
 | d+1,i,h=>.at (.nil _) (step hp h1 h2 (by omega)) (loop hp h1 h2 d (i+1) (by omega))
theorem ends {p:List Int} {k:Int} (hp:p.length≤1000) (h1:-1000≤k) (h2:k≤1000):EndZ 147 .nil false (st0 147 [il p,iv k]) (il (aftL p k)) [] 0:=by
 have h:=in_t p k;rw [List.nil_append] at h;simp (disch:=omega) only [yS] at h;exact .at (.nil _) h (loop hp h1 h2 p.length 0 (by omega))
end RAft
noncomputable def spRAft:ZCT:=fun ax=>match ax with
 | [.lst (.ints .i64 p),.v (.int .i64 k)]=>some ⟨decide (p.length≤1000 ∧ -1000≤k∧k≤1000),il (aftL p k),[],0⟩
 | _=>none
theorem zh7:ZCtOk Try.prog 147 spRAft:=fun γ w us ax r hs hc hax hN hfz=>by
 unfold spRAft at hs;split at hs
 case h_2=>cases hs
 rename_i p k;obtain ⟨rfl⟩:=Option.some.inj hs;have hc_0:decide (p.length≤1000 ∧ -1000≤k∧k≤1000)=true:=hc;have hc:=of_decide_eq_true hc_0;exact EndZ.calls (RAft.ends hc.1 hc.2.1 hc.2.2) (.nil _) (by kernel_rfl) hax hN hfz
namespace RFin
theorem step {p:Pm n} {k:Int} {i:Nat} (hn:n≤1000) (hi:i<n):RUN (stOf (sL (pR p) k (endS (pR p) i) n i)) = .at (sL (pR p) k (endS (pR p) (i+1)) n (i+1:Nat)):=by
 rw [step_t,zdf,zag];have e0:((i:Int)).toNat=i:=rfl;have e1:((p.f i:Int)).toNat=p.f i:=rfl;have h1:=p.lt hi;have e2:(endS (pR p) i).set (p.f i) (i:Int)=endS (pR p) (i+1):=by
  show _=(endS (pR p) i).set ((pR p).getD i 0).toNat (i:Int);rw [zau p hi,e1]
 rw [e0,zau p hi,e1,e2];simp (disch:=omega) only [yS];rfl
theorem last {p:Pm n} {k:Nat} {i:Nat} (hn:n≤1000) (hi:n≤i) (hk:0<k∧k<n):RUN (stOf (sL (pR p) k (pR p.inv) n i)) = .done (bv (finB (pR p) k)) [] 0:=by
 obtain ⟨j,rfl⟩:∃ j,k=j+1:=⟨k-1,by omega⟩;rw [step_t,zag,zag];have w1:IntKind.i64.wrap (((j+1:Nat):Int)-1)=(j:Int):=by rw [zac _ (by omega) (by omega)];omega
 have e1:((j:Int)).toNat=j:=rfl;have e2:(((j+1:Nat):Int)).toNat=j+1:=rfl;rw [w1,e1,e2,zau p.inv (show j<n by omega),zau p.inv (show j+1<n by omega),zj2];have e3:decide ((p.inv.f (j+1):Int)<(p.inv.f j:Int))=decide (p.g (j+1)<p.g (j+1-1)):=by
  rw [show j+1-1=j by omega]
  by_cases g:p.g (j+1)<p.g j
  ·rw [dt g];exact decide_eq_true (show ((p.g (j+1):Nat):Int)<(p.g j:Nat) by omega)
  ·rw [df g];exact decide_eq_false (show ¬ ((p.g (j+1):Nat):Int)<(p.g j:Nat) by omega)
 rw [e3];simp (disch:=omega) only [yS]
theorem loop {p:Pm n} {k:Nat} (hn:n≤1000) (hk:0<k∧k<n):∀ (d i:Nat),i+d=n→EndZ 168 .nil false (stOf (sL (pR p) k (endS (pR p) i) n i)) (bv (finB (pR p) k)) [] 0
 | 0,i,h=>by
  obtain rfl:i=n:=by omega
  rw [zkf];exact .done (last hn (Nat.le_refl _) hk)
 | d+1,i,h=>.at (.nil _) (step hn (by omega)) (loop hn hk d (i+1) (by omega))
theorem ends {p:Pm n} {k:Nat} (hn:n≤1000) (hk:0<k∧k<n):EndZ 168 .nil false (st0 168 [il (pR p),iv k]) (bv (finB (pR p) k)) [] 0:=by
 have h:=in_t (pR p) k;have z1:∀ m,(zerosL m).length=m:=fun m=>by unfold zerosL;simp
 rw [z1,zag] at h;simp (disch:=omega) only [yS] at h;have e:zerosL n=endS (pR p) 0:=by unfold endS;rw [zag]
 rw [e] at h;exact .at (.nil _) h (loop hn hk n 0 (by omega))
theorem endsL {p:List Int} {k:Int} (hp:PmL p) (h1:0<k) (h2:k<p.length):EndZ 168 .nil false (st0 168 [il p,iv k]) (bv (finB p k.toNat)) [] 0:=by
 obtain ⟨k,rfl⟩:=Int.eq_ofNat_of_zero_le (show 0≤k by omega);have h:=ends (p:=decR p.length p) (k:=k) (by have:=hp.1;omega) ⟨by omega,by omega⟩;rw [← hp.get] at h;exact h
end RFin
noncomputable def spRFin:ZCT:=fun ax=>match ax with
 | [.lst (.ints .i64 p),.v (.int .i64 k)]=>some ⟨decide (PmL p∧0<k∧k<p.length),bv (finB p k.toNat),[],0⟩
 | _=>none
theorem zof:ZCtOk Try.prog 168 spRFin:=fun γ w us ax r hs hc hax hN hfz=>by
 unfold spRFin at hs;split at hs
 case h_2=>cases hs
 rename_i p k;obtain ⟨rfl⟩:=Option.some.inj hs;have hc_0:decide (PmL p∧0<k∧k<p.length)=true:=hc;have hc:=of_decide_eq_true hc_0;exact EndZ.calls (RFin.endsL hc.1 hc.2.1 hc.2.2) (.nil _) (by kernel_rfl) hax hN hfz
namespace RTrn
noncomputable def rtS (p:Pm n):Nat→List Int
 | 0=>zerosL n
 | i+1=>(rtS p i).set (n-1-i) ((n:Int)-1-(p.f i:Int))
theorem zgw (p:Pm n):∀ i,(rtS p i).length=n
 | 0=>by unfold rtS zerosL;simp
 | i+1=>by unfold rtS;rw [List.length_set,zgw p i]
theorem zor (p:Pm n):∀ i,i≤n→∀ x,x<n→n-1-x<i→(rtS p i).getD x 0=(n:Int)-1-(p.f (n-1-x):Int)
 | 0,_,x,hx,h=>by omega
 | i+1,hi,x,hx,h=>by
  unfold rtS;rw [gset2,zgw]
  by_cases e:x=n-1-i
  ·rw [if_pos ⟨e,by omega⟩,show n-1-x=i by omega]
  ·rw [if_neg (fun h=>e h.1)];exact zor p i (by omega) x hx (by omega)
theorem zv8 (p:Pm n):rtS p n=pR p.trn:=zik (zgw p n) fun x hx=>by
 rw [zor p n (Nat.le_refl _) x hx (by omega)];show _=((Pm.rv n (p.f (Pm.rv n x)):Nat):Int);have h1:Pm.rv n x=n-1-x:=by unfold Pm.rv;rw [if_pos hx]
 have h2:=p.lt (show n-1-x<n by omega);rw [h1];unfold Pm.rv;rw [if_pos h2];omega
theorem step {p:Pm n} {i:Nat} (hn:n≤1000) (hi:i<n):RUN (stOf (sL (pR p) (rtS p i) n n i)) = .at (sL (pR p) (rtS p (i+1)) n n (i+1:Nat)):=by
 rw [step_t,zgw,zag];have e0:((i:Int)).toNat=i:=rfl;have h1:=p.lt hi;rw [e0,zau p hi];have w0:IntKind.i64.wrap ((n:Int)-1)=(n:Int)-1:=zac _ (by omega) (by omega);have w1:IntKind.i64.wrap ((n:Int)-1-(i:Int))=((n-1-i:Nat):Int):=by rw [zac _ (by omega) (by omega)];omega
 have w2:IntKind.i64.wrap ((n:Int)-1-(p.f i:Int))=(n:Int)-1-(p.f i:Int):=zac _ (by omega) (by omega);have e2:(((n-1-i:Nat):Int)).toNat=n-1-i:=rfl;have e3:(rtS p i).set (n-1-i) ((n:Int)-1-(p.f i:Int))=rtS p (i+1):=rfl;rw [w0,w1,w2,e2,e3]
 simp (disch:=omega) only [yS];rfl
theorem last {p:Pm n} {q:List Int} {i:Nat} (hi:n≤i) (hq:q.length=n):RUN (stOf (sL (pR p) q n n i)) = .done (il q) [] 0:=by
 rw [step_t];simp (disch:=omega) only [yS]
theorem loop {p:Pm n} (hn:n≤1000):∀ (d i:Nat),i+d=n→EndZ 148 .nil false (stOf (sL (pR p) (rtS p i) n n i)) (il (trnL (pR p))) [] 0
 | 0,i,h=>by
  obtain rfl:i=n:=by omega
  rw [zv8,znr];exact .done (last (Nat.le_refl _) (zag _))
 | d+1,i,h=>.at (.nil _) (step hn (by omega)) (loop hn d (i+1) (by omega))
theorem ends {p:Pm n} (hn:n≤1000):EndZ 148 .nil false (st0 148 [il (pR p)]) (il (trnL (pR p))) [] 0:=by
 have h:=in_t (pR p);have z1:∀ m,(zerosL m).length=m:=fun m=>by unfold zerosL;simp
 rw [z1,zag] at h;simp (disch:=omega) only [yS] at h;exact .at (.nil _) h (loop hn n 0 (by omega))
theorem endsL {p:List Int} (hp:PmL p):EndZ 148 .nil false (st0 148 [il p]) (il (trnL p)) [] 0:=by
 have h:=ends (p:=decR p.length p) (by have:=hp.1;omega);rw [← hp.get] at h;exact h
end RTrn
noncomputable def spRTrn:ZCT:=fun ax=>match ax with
 | [.lst (.ints .i64 p)]=>some ⟨decide (PmL p),il (trnL p),[],0⟩
 | _=>none
theorem zn3:ZCtOk Try.prog 148 spRTrn:=fun γ w us ax r hs hc hax hN hfz=>by
 unfold spRTrn at hs;split at hs
 case h_2=>cases hs
 rename_i p;obtain ⟨rfl⟩:=Option.some.inj hs;have hc_0:decide (PmL p)=true:=hc;have hc:=of_decide_eq_true hc_0;exact EndZ.calls (RTrn.endsL hc) (.nil _) (by kernel_rfl) hax hN hfz
namespace RFlt
theorem step {p:Pm n} {k:Int} {i:Nat} (hn:n≤1000) (hk:k=1∨k = -1) (h0:0<i) (hi:i<n):RUN (stOf (sL (pR p) k i))=bc (decide ((p.f i:Int)=(p.f (i-1):Int)+k)) (.at (sL (pR p) k (i+1:Nat))) (.done (bv false) [] 0):=by
 obtain ⟨j,rfl⟩:∃ j,i=j+1:=⟨i-1,by omega⟩;rw [step_t,zag];have w1:IntKind.i64.wrap (((j+1:Nat):Int)-1)=(j:Int):=by rw [zac _ (by omega) (by omega)];omega
 have e1:((j:Int)).toNat=j:=rfl;have e2:(((j+1:Nat):Int)).toNat=j+1:=rfl;have l1:=p.lt hi;have l2:=p.lt (show j<n by omega);rw [w1,e1,e2,zau p hi,zau p (show j<n by omega),zac ((p.f j:Int)+k) (by rcases hk with h|h <;> omega) (by rcases hk with h|h <;> omega),show j+1-1=j by omega]
 by_cases g:(p.f (j+1):Int)=(p.f j:Int)+k
 ·have b:((p.f (j+1):Int) != (p.f j:Int)+k)=false:=by simp [g]
  rw [b,dt g];simp (disch:=omega) only [yS];rfl
 ·have b:((p.f (j+1):Int) != (p.f j:Int)+k)=true:=by simp [g]
  rw [b,df g];simp (disch:=omega) only [yS]
theorem last {p:Pm n} {k:Int} {i:Nat} (hi:n≤i):RUN (stOf (sL (pR p) k i)) = .done (bv true) [] 0:=by
 rw [step_t,zag];simp (disch:=omega) only [yS]
theorem loop {p:Pm n} {k:Int} {b:Bool} (hn:n≤1000) (hk:k=1∨k = -1) (hb:b=true↔∀ j,0<j→j<n→(p.f j:Int)=(p.f (j-1):Int)+k):∀ (d i:Nat),i+d=n→0<i→(∀ j,0<j→j<i→(p.f j:Int)=(p.f (j-1):Int)+k)→EndZ 151 .nil false (stOf (sL (pR p) k i)) (bv b) [] 0
 | 0,i,h,h0,hj=>by
  have:b=true:=hb.2 fun j g1 g2=>hj j g1 (by omega);subst this;exact .done (last (by omega))
 | d+1,i,h,h0,hj=>by
  have hs:=step (p:=p) hn hk h0 (show i<n by omega)
  by_cases g:(p.f i:Int)=(p.f (i-1):Int)+k
  ·rw [dt g,bc_t] at hs;exact .at (.nil _) hs (loop hn hk hb d (i+1) (by omega) (by omega) fun j g1 g2=>by
    by_cases e:j=i
    ·rw [e];exact g
    ·exact hj j g1 (by omega))
  ·rw [df g,bc_f] at hs;have:b=false:=by
    cases b with
    | false=>rfl
    | true=>exact absurd (hb.1 rfl i h0 (by omega)) g
   subst this;exact .done hs
theorem flat_one (p:Pm n):flL (pR p) 1=true↔∀ j,0<j→j<n→(p.f j:Int)=(p.f (j-1):Int)+1:=by
 rw [zpr,decide_eq_true_iff];constructor
 ·intro h j g1 g2;rw [h];show (j:Int)=((j-1:Nat):Int)+1;omega
 ·intro h;exact Pm.one_of fun i g1 g2 hb=>by
   have:=h i g1 g2;unfold Pm.beg at hb;omega
theorem zsb (p:Pm n):flL (pR p) (-1)=true↔∀ j,0<j→j<n→(p.f j:Int)=(p.f (j-1):Int)+(-1):=by
 rw [zps,decide_eq_true_iff];constructor
 ·intro h j g1 g2;rw [h];show ((Pm.rv n j:Nat):Int)=((Pm.rv n (j-1):Nat):Int)+(-1);unfold Pm.rv;rw [if_pos g2,if_pos (by omega)];omega
 ·intro h;exact zvj fun i g1 g2=>by
   have:=h i g1 g2;unfold Pm.beg;omega
theorem ends {p:Pm n} {k:Int} (hn:n≤1000) (h1:1≤n) (hk:k=1∨k = -1):EndZ 151 .nil false (st0 151 [il (pR p),iv k]) (bv (flL (pR p) k)) [] 0:=by
 have hb:flL (pR p) k=true↔∀ j,0<j→j<n→(p.f j:Int)=(p.f (j-1):Int)+k:=by
  rcases hk with h|h <;> subst h
  ·exact flat_one p
  ·exact zsb p
 exact .at (.nil _) (in_t (pR p) k) (loop hn hk hb (n-1) 1 (by omega) (by omega) fun j g1 g2=>by omega)
theorem endsL {p:List Int} {k:Int} (hp:PmL p) (h1:1≤p.length) (hk:k=1∨k = -1):EndZ 151 .nil false (st0 151 [il p,iv k]) (bv (flL p k)) [] 0:=by
 have h:=ends (p:=decR p.length p) (k:=k) (by have:=hp.1;omega) h1 hk;rw [← hp.get] at h;exact h
end RFlt
noncomputable def spRFlt:ZCT:=fun ax=>match ax with
 | [.lst (.ints .i64 p),.v (.int .i64 k)]=>some ⟨decide (PmL p∧1≤p.length∧(k=1∨k = -1)),bv (flL p k),[],0⟩
 | _=>none
theorem zoe:ZCtOk Try.prog 151 spRFlt:=fun γ w us ax r hs hc hax hN hfz=>by
 unfold spRFlt at hs;split at hs
 case h_2=>cases hs
 rename_i p k;obtain ⟨rfl⟩:=Option.some.inj hs;have hc_0:decide (PmL p∧1≤p.length∧(k=1∨k = -1))=true:=hc;have hc:=of_decide_eq_true hc_0;exact EndZ.calls (RFlt.endsL hc.1 hc.2.1 hc.2.2) (.nil _) (by kernel_rfl) hax hN hfz
end
noncomputable def ctAF:Tr ZCC:=(Tr.nil.put 147 (some (dC spRAft))).put 168 (some (dC spRFin))
theorem zcu:ZCtsOk Try.prog ctAF:=((ZCtsOk.nil _).add rfl zh7).add rfl zof
namespace RWo
noncomputable def RUN (s:ES):ZF:=RZs 149 ctAF [(atS 1 85 3,[[(0,none),(3,some (1,3,.ints .i64 [])),(4,none)],[(0,none),(1,none)]]),(atS 0 149 3,[[(0,none),(1,none),(5,none),(6,none)]])] [] false s
noncomputable def sL (n k:Int) (q:List Int) (nn:Bool) (i:Int):NS:=⟨[⟨85,15,[(0,(iv n)),(3,EV.slO 0 1 q.length nn),(4,iv i)],[.it (.code (nav [1,1,0,1,0,0,0] (bodyOf Try.f85))),.it (.code (nav [1,1,0,1,0,0,1] (bodyOf Try.f85))),.it (.inLoop (nav [1,1,0,1,0,0] (bodyOf Try.f85))),.it (.inBlock 0),.it (.code (nav [1,1,1] (bodyOf Try.f85)))],[],Option.none⟩,⟨149,24,[(0,(iv n)),(1,(iv k))],[.ops (opsOf (nav [1,0] (bodyOf Try.f149))) ((opsOf (nav [1,0] (bodyOf Try.f149))).toList.drop 1),.it (.code (nav [1,1] (bodyOf Try.f149)))],[],Option.none⟩],[(0,EK.seq 3 (.ints .i64 q) nn)],1⟩
noncomputable def sB (n k:Int) (q:List Int) (m:Nat) (nn:Bool) (i:Int):NS:=⟨[⟨149,24,[(0,iv n),(1,(iv k)),(5,EV.slO 0 1 m nn),(6,iv i)],[.it (.code (nav [1,1,0,1,0,0,0] (bodyOf Try.f149))),.it (.code (nav [1,1,0,1,0,0,1] (bodyOf Try.f149))),.it (.inLoop (nav [1,1,0,1,0,0] (bodyOf Try.f149))),.it (.inBlock 0),.it (.code (nav [1,1,1] (bodyOf Try.f149)))],[],Option.none⟩],[(0,EK.seq 3 (.ints .i64 q) nn)],1⟩
theorem in_t (n k:Int):RUN (st0 149 [iv n,iv k])=(.at (sL n k [] false 0)):=by kernel_rfl
theorem ztf (n k:Int) (q:List Int) (nn:Bool) (i:Int):RUN (stOf (sL n k q nn i))=(bc (decide (i<n)) (bc (bc (Nat.beq q.length q.length) (bc (Nat.ble (q.length+([i]).length) 65536) (bc nn true (bc nn false true)) false) false) (.at (sL n k (q++[i]) (bc nn true (Nat.blt 0 ([i]).length)) (IntKind.i64.wrap (i+1)))) .bad) (.at (sB n k q q.length nn 0))):=by kernel_rfl
theorem b_t (n k:Int) (q:List Int) (m:Nat) (nn:Bool) (i:Int):RUN (stOf (sB n k q m nn i))=(bc (decide (i<n)) (bc (bc (bc (decide (0≤i)) (Nat.blt i.toNat m) false) true false) (bc (Nat.blt i.toNat q.length) (.at (sB n k (List.set q i.toNat (IntKind.i64.wrap (IntKind.i64.wrap (n-(1:Int))-i))) m nn (IntKind.i64.wrap (i+1)))) .bad) .bad) (bc (bc (bc (Nat.beq m q.length) true false) (decide (q.length≤1000∧(-1000:Int)≤k∧k≤1000)) false) (.done (il (aftL q k)) [] 0) .bad)):=by kernel_rfl
end RWo
namespace RSli
noncomputable def RUN (s:ES):ZF:=RZ 150 ctAF (atS 0 150 3) [] [[(0,none),(1,none),(7,none),(8,none)]] false s
noncomputable def sA (a b:List Int) (tk:Bool) (i:Int):NS:=⟨[⟨150,49,[(0,(il a)),(1,(il b)),(7,bv tk),(8,iv i)],[.it (.code (nav [1,1,0,1,0,0,0] (bodyOf Try.f150))),.it (.code (nav [1,1,0,1,0,0,1] (bodyOf Try.f150))),.it (.inLoop (nav [1,1,0,1,0,0] (bodyOf Try.f150))),.it (.inBlock 0),.it (.code (nav [1,1,1] (bodyOf Try.f150)))],[],Option.none⟩],[],0⟩
noncomputable def sB (a b:List Int) (m:Nat) (tk:Bool) (i:Int):NS:=⟨[⟨150,49,[(0,il a),(1,EV.slO 0 1 m true),(7,bv tk),(8,iv i)],[.it (.code (nav [1,1,0,1,0,0,0] (bodyOf Try.f150))),.it (.code (nav [1,1,0,1,0,0,1] (bodyOf Try.f150))),.it (.inLoop (nav [1,1,0,1,0,0] (bodyOf Try.f150))),.it (.inBlock 0),.it (.code (nav [1,1,1] (bodyOf Try.f150)))],[],Option.none⟩],[(0,EK.seq 3 (.ints .i64 b) true)],1⟩
theorem in_t (a b:List Int):RUN (st0 150 [il a,il b])=(.at (sA a b false 1)):=by kernel_rfl
theorem a_t (a b:List Int) (tk:Bool) (i:Int):RUN (stOf (sA a b tk i))=(bc (decide (i<Int.ofNat a.length)) (bc (bc (bc (bc (bc (decide (0≤IntKind.i64.wrap (i-(1:Int)))) (Nat.blt (IntKind.i64.wrap (i-(1:Int))).toNat b.length) false) true false) (bc (bc (Nat.blt (IntKind.i64.wrap (i-(1:Int))).toNat b.length) true false) (bc (bc (bc (decide (0≤i)) (Nat.blt i.toNat b.length) false) true false) (bc (bc (Nat.blt i.toNat b.length) true false) true false) false) false) false) true false) (bc (decide (b.getD i.toNat 0<b.getD (IntKind.i64.wrap (i-(1:Int))).toNat 0)) (bc (bc (decide (PmL a∧0<i∧i<(Nat.cast a.length:Int))) true false) (bc (!finB a i.toNat) (bc (decide (a.length≤1000∧(-1000:Int)≤i∧i≤1000)) (bc (bc (Nat.ble (0+b.length) 65536) true false) (bc (bc (bc (bc (bc (decide (0≤i)) (Nat.blt i.toNat ([]++b).length) false) true false) (bc (bc (Nat.blt i.toNat ([]++b).length) true false) (bc (bc (bc (decide (0≤IntKind.i64.wrap (i-(1:Int)))) (Nat.blt (IntKind.i64.wrap (i-(1:Int))).toNat ([]++b).length) false) true false) (bc (bc (Nat.blt (IntKind.i64.wrap (i-(1:Int))).toNat ([]++b).length) true false) (bc (bc (bc (decide (0≤IntKind.i64.wrap (i-(1:Int)))) (Nat.blt (IntKind.i64.wrap (i-(1:Int))).toNat ([]++b).length) false) true false) (bc (Nat.blt (IntKind.i64.wrap (i-(1:Int))).toNat ([]++b).length) (bc (bc (bc (decide (0≤i)) (Nat.blt i.toNat ([]++b).length) false) true false) (bc (Nat.blt i.toNat (List.set ([]++b) (IntKind.i64.wrap (i-(1:Int))).toNat (([]++b).getD i.toNat 0)).length) true false) false) false) false) false) false) false) false) true false) (.at (sB (aftL a i) (List.set (List.set ([]++b) (IntKind.i64.wrap (i-(1:Int))).toNat (([]++b).getD i.toNat 0)) i.toNat (([]++b).getD (IntKind.i64.wrap (i-(1:Int))).toNat 0)) ([]++b).length true (IntKind.i64.wrap ((0:Int)+1)))) .bad) .bad) .bad) (.at (sA a b tk (IntKind.i64.wrap (i+1))))) .bad) (.at (sA a b tk (IntKind.i64.wrap (i+1))))) .bad) (.done (EV.tup [(il a),(il b),(bv tk)]) [] 0)):=by kernel_rfl
theorem b_t (a b:List Int) (m:Nat) (tk:Bool) (i:Int):RUN (stOf (sB a b m tk i))=(bc (decide (i<Int.ofNat a.length)) (bc (bc (bc (bc (bc (decide (0≤IntKind.i64.wrap (i-(1:Int)))) (Nat.blt (IntKind.i64.wrap (i-(1:Int))).toNat m) false) true false) (bc (bc (Nat.blt (IntKind.i64.wrap (i-(1:Int))).toNat b.length) true false) (bc (bc (bc (decide (0≤i)) (Nat.blt i.toNat m) false) true false) (bc (bc (Nat.blt i.toNat b.length) true false) true false) false) false) false) true false) (bc (decide (b.getD i.toNat 0<b.getD (IntKind.i64.wrap (i-(1:Int))).toNat 0)) (bc (bc (decide (PmL a∧0<i∧i<(Nat.cast a.length:Int))) true false) (bc (!finB a i.toNat) (bc (decide (a.length≤1000∧(-1000:Int)≤i∧i≤1000)) (bc (bc (Nat.beq m b.length) (bc (Nat.ble (0+b.length) 65536) true false) false) (bc (bc (bc (bc (bc (decide (0≤i)) (Nat.blt i.toNat ([]++b).length) false) true false) (bc (bc (Nat.blt i.toNat ([]++b).length) true false) (bc (bc (bc (decide (0≤IntKind.i64.wrap (i-(1:Int)))) (Nat.blt (IntKind.i64.wrap (i-(1:Int))).toNat ([]++b).length) false) true false) (bc (bc (Nat.blt (IntKind.i64.wrap (i-(1:Int))).toNat ([]++b).length) true false) (bc (bc (bc (decide (0≤IntKind.i64.wrap (i-(1:Int)))) (Nat.blt (IntKind.i64.wrap (i-(1:Int))).toNat ([]++b).length) false) true false) (bc (Nat.blt (IntKind.i64.wrap (i-(1:Int))).toNat ([]++b).length) (bc (bc (bc (decide (0≤i)) (Nat.blt i.toNat ([]++b).length) false) true false) (bc (Nat.blt i.toNat (List.set ([]++b) (IntKind.i64.wrap (i-(1:Int))).toNat (([]++b).getD i.toNat 0)).length) true false) false) false) false) false) false) false) false) true false) (.at (sB (aftL a i) (List.set (List.set ([]++b) (IntKind.i64.wrap (i-(1:Int))).toNat (([]++b).getD i.toNat 0)) i.toNat (([]++b).getD (IntKind.i64.wrap (i-(1:Int))).toNat 0)) ([]++b).length true (IntKind.i64.wrap ((0:Int)+1)))) .bad) .bad) .bad) (.at (sB a b m tk (IntKind.i64.wrap (i+1))))) .bad) (.at (sB a b m tk (IntKind.i64.wrap (i+1))))) .bad) (bc (bc (Nat.beq m b.length) true false) (.done (EV.tup [(il a),(il b),(bv tk)]) [] 0) .bad)):=by kernel_rfl
end RSli
section
variable {n:Nat}
namespace RWo
theorem stepL {k:Int} {nn:Bool} {i:Nat} (hn:n≤100) (hi:i<n):RUN (stOf (sL n k (RLin.rng i) nn i)) = .at (sL n k (RLin.rng (i+1)) true (i+1:Nat)):=by
 rw [ztf];have m1:[(i:Int)]=[(i:Int)]:=rfl;rw [m1,RLin.rng_succ,RLin.rng_len,nn_ok,List.length_singleton];have e1:bc nn true (Nat.blt 0 1)=true:=by cases nn <;> rfl
 simp (disch:=omega) only [yS,e1];rfl
theorem lastL {k:Int} {nn:Bool} {i:Nat} (hi:n≤i):RUN (stOf (sL n k (RLin.rng i) nn i)) = .at (sB n k (RLin.rng i) i nn (0:Nat)):=by
 rw [ztf,RLin.rng_len];simp (disch:=omega) only [yS]
noncomputable def woS (n:Nat):Nat→List Int
 | 0=>RLin.rng n
 | i+1=>(woS n i).set i ((n:Int)-1-(i:Int))
theorem ze6 (n:Nat):∀ i,(woS n i).length=n
 | 0=>RLin.rng_len n
 | i+1=>by unfold woS;rw [List.length_set,ze6 n i]
theorem zno (n:Nat):∀ i,i≤n→∀ x,x<i→(woS n i).getD x 0=(n:Int)-1-(x:Int)
 | 0,_,x,h=>by omega
 | i+1,hi,x,hx=>by
  unfold woS;rw [gset2,ze6]
  by_cases e:x=i
  ·rw [if_pos ⟨e,by omega⟩,e]
  ·rw [if_neg (fun h=>e h.1)];exact zno n i (by omega) x (by omega)
theorem zvr (n:Nat):woS n n=pR (Pm.del n):=zik (ze6 n n) fun x hx=>by
 rw [zno n n (Nat.le_refl _) x hx];show _=((Pm.rv n x:Nat):Int);unfold Pm.rv;rw [if_pos hx];omega
theorem stepB {k:Int} {nn:Bool} {i:Nat} (hn:n≤100) (hi:i<n):RUN (stOf (sB n k (woS n i) n nn i)) = .at (sB n k (woS n (i+1)) n nn (i+1:Nat)):=by
 rw [b_t,ze6];have e0:((i:Int)).toNat=i:=rfl;have w1:IntKind.i64.wrap (IntKind.i64.wrap ((n:Int)-1)-(i:Int))=(n:Int)-1-(i:Int):=by rw [zac ((n:Int)-1) (by omega) (by omega),zac _ (by omega) (by omega)]
 have e3:(woS n i).set i ((n:Int)-1-(i:Int))=woS n (i+1):=rfl;rw [e0,w1,e3];simp (disch:=omega) only [yS];rfl
theorem lastB {k:Nat} {nn:Bool} (hn:n≤100) (hk:0<k∧k<n):RUN (stOf (sB n k (woS n n) n nn n)) = .done (il (woL n k)) [] 0:=by
 rw [b_t,ze6,zvr,zhw _ hk,zs1 hk];have e:pR ((Pm.del n).R k hk)=pR (ctr k hk):=rfl;rw [e];have h:n≤1000 ∧ -1000≤(k:Int)∧(k:Int)≤1000:=⟨by omega,by omega,by omega⟩;rw [dt h];simp (disch:=omega) only [yS]
theorem loopL {k:Nat} (hn:n≤100):∀ (d i:Nat) (nn:Bool),i+d=n→∃ nn',LeadsZ Try.prog (stOf (sL n k (RLin.rng i) nn i)) (stOf (sB n k (woS n 0) n nn' (0:Nat)))
 | 0,i,nn,h=>by
  obtain rfl:i=n:=by omega
  exact ⟨nn,leadsZ zcu (lastL (Nat.le_refl _))⟩
 | d+1,i,nn,h=>by
  obtain ⟨nn',h2⟩:=loopL (k:=k) hn d (i+1) true (by omega);exact ⟨nn',(leadsZ zcu (stepL hn (by omega))).trans h2⟩
theorem loopB {k:Nat} {nn:Bool} (hn:n≤100) (hk:0<k∧k<n):∀ (d i:Nat),i+d=n→EndZ 149 ctAF false (stOf (sB n k (woS n i) n nn i)) (il (woL n k)) [] 0
 | 0,i,h=>by
  obtain rfl:i=n:=by omega
  exact .done (lastB hn hk)
 | d+1,i,h=>.at zcu (stepB hn (by omega)) (loopB hn hk d (i+1) (by omega))
theorem ends {n k:Int} (hn:n≤100) (h1:0<k) (h2:k<n):EndZ 149 ctAF false (st0 149 [iv n,iv k]) (il (woL n k)) [] 0:=by
 obtain ⟨n,rfl⟩:=Int.eq_ofNat_of_zero_le (show 0≤n by omega);obtain ⟨k,rfl⟩:=Int.eq_ofNat_of_zero_le (show 0≤k by omega);obtain ⟨nn',h3⟩:=loopL (n:=n) (k:=k) (by omega) n 0 false (by omega);exact .at zcu (in_t n k) (.lead h3 (loopB (by omega) ⟨by omega,by omega⟩ n 0 (by omega)))
end RWo
noncomputable def spRWo:ZCT:=fun ax=>match ax with
 | [.v (.int .i64 n),.v (.int .i64 k)]=>some ⟨decide (n≤100∧0<k∧k<n),il (woL n k),[],0⟩
 | _=>none
theorem zrn:ZCtOk Try.prog 149 spRWo:=fun γ w us ax r hs hc hax hN hfz=>by
 unfold spRWo at hs;split at hs
 case h_2=>cases hs
 rename_i n k;obtain ⟨rfl⟩:=Option.some.inj hs;have hc_0:decide (n≤100∧0<k∧k<n)=true:=hc;have hc:=of_decide_eq_true hc_0;exact EndZ.calls (RWo.ends hc.1 hc.2.1 hc.2.2) zcu (by kernel_rfl) hax hN hfz
namespace RSli
noncomputable def sX (own:Bool) (a b:Pm n) (tk:Bool) (i:Int):NS:=bc own (sB (pR a) (pR b) n tk i) (sA (pR a) (pR b) tk i)
theorem step1 {own:Bool} {a b:Pm n} {tk:Bool} {i:Nat} (hn:n≤12) (hi:0<i∧i<n) (hb:b.beg i) (hf:¬ a.fin i):RUN (stOf (sX own a b tk i)) = .at (sX true (a.R i hi) (b.L i hi) true (1:Nat)):=by
 have key:∀ i:Nat,0<i∧i<n→∃ j,i=j+1:=fun i h=>⟨i-1,by omega⟩;obtain ⟨j,rfl⟩:=key i hi;have w:IntKind.i64.wrap (((j+1:Nat):Int)-1)=(j:Int):=by rw [zac _ (by omega) (by omega)];omega
 have e1:((j:Int)).toNat=j:=rfl;have e2:(((j+1:Nat):Int)).toNat=j+1:=rfl;have f1:(b.f (j+1):Int)<(b.f j:Int):=by
  unfold Pm.beg at hb;rw [show j+1-1=j by omega] at hb;omega
 have f2:finB (pR a) (j+1)=false:=by
  rw [zj2];exact decide_eq_false hf
 have l1:=pR_L b hi;rw [show j+1-1=j by omega] at l1;have c1:PmL (pR a)∧0<((j+1:Nat):Int)∧((j+1:Nat):Int)<(n:Int):=⟨PmL.pR hn a,by omega,by omega⟩;have c2:n≤1000 ∧ -1000≤((j+1:Nat):Int)∧((j+1:Nat):Int)≤1000:=⟨by omega,by omega,by omega⟩
 cases own with
 | false=>
  show RUN (stOf (sA (pR a) (pR b) tk ((j+1:Nat):Int)))=_;rw [a_t,List.nil_append,w,e1,e2,zau b (show j<n by omega),zau b hi.2,f2,l1,zhw a hi,List.length_set,zag,zag,dt c1,dt c2];simp (disch:=omega) only [yS];rfl
 | true=>
  show RUN (stOf (sB (pR a) (pR b) n tk ((j+1:Nat):Int)))=_;rw [b_t,List.nil_append,w,e1,e2,zau b (show j<n by omega),zau b hi.2,f2,l1,zhw a hi,List.length_set,zag,zag,dt c1,dt c2];simp (disch:=omega) only [yS];rfl
theorem step2 {own:Bool} {a b:Pm n} {tk:Bool} {i:Nat} (hn:n≤12) (hi:0<i∧i<n) (h:¬ (b.beg i∧¬ a.fin i)):RUN (stOf (sX own a b tk i)) = .at (sX own a b tk (i+1:Nat)):=by
 have key:∀ i:Nat,0<i∧i<n→∃ j,i=j+1:=fun i h=>⟨i-1,by omega⟩;obtain ⟨j,rfl⟩:=key i hi;have w:IntKind.i64.wrap (((j+1:Nat):Int)-1)=(j:Int):=by rw [zac _ (by omega) (by omega)];omega
 have e1:((j:Int)).toNat=j:=rfl;have e2:(((j+1:Nat):Int)).toNat=j+1:=rfl;have c1:PmL (pR a)∧0<((j+1:Nat):Int)∧((j+1:Nat):Int)<(n:Int):=⟨PmL.pR hn a,by omega,by omega⟩
 by_cases hb:b.beg (j+1)
 ·have hf:a.fin (j+1):=Classical.byContradiction fun hf=>h ⟨hb,hf⟩;have f1:(b.f (j+1):Int)<(b.f j:Int):=by
   unfold Pm.beg at hb;rw [show j+1-1=j by omega] at hb;omega
  have f2:finB (pR a) (j+1)=true:=by
   rw [zj2];exact decide_eq_true hf
  cases own with
  | false=>
   show RUN (stOf (sA (pR a) (pR b) tk ((j+1:Nat):Int)))=_;rw [a_t,w,e1,e2,zau b (show j<n by omega),zau b hi.2,f2,zag,zag,dt c1];simp (disch:=omega) only [yS];rfl
  | true=>
   show RUN (stOf (sB (pR a) (pR b) n tk ((j+1:Nat):Int)))=_;rw [b_t,w,e1,e2,zau b (show j<n by omega),zau b hi.2,f2,zag,zag,dt c1];simp (disch:=omega) only [yS];rfl
 ·have f1:¬ (b.f (j+1):Int)<(b.f j:Int):=by
   unfold Pm.beg at hb;rw [show j+1-1=j by omega] at hb;omega
  cases own with
  | false=>
   show RUN (stOf (sA (pR a) (pR b) tk ((j+1:Nat):Int)))=_;rw [a_t,w,e1,e2,zau b (show j<n by omega),zau b hi.2,zag,zag];simp (disch:=omega) only [yS];rfl
  | true=>
   show RUN (stOf (sB (pR a) (pR b) n tk ((j+1:Nat):Int)))=_;rw [b_t,w,e1,e2,zau b (show j<n by omega),zau b hi.2,zag,zag];simp (disch:=omega) only [yS];rfl
theorem last {own:Bool} {a b:Pm n} {tk:Bool}:RUN (stOf (sX own a b tk n)) = .done (.tup [il (pR a),il (pR b),bv tk]) [] 0:=by
 cases own with
 | false=>
  show RUN (stOf (sA (pR a) (pR b) tk (n:Int)))=_;rw [a_t,zag];simp (disch:=omega) only [yS]
 | true=>
  show RUN (stOf (sB (pR a) (pR b) n tk (n:Int)))=_;rw [b_t,zag,zag];simp (disch:=omega) only [yS]
theorem loop (hn:n≤12):∀ (μ:Nat) (own:Bool) (a b:Pm n) (i:Nat) (tk:Bool),a.W*(n+1)+(n-i)≤μ→1≤i→i≤n→(∀ j,0<j→j<i→¬ (b.beg j∧¬ a.fin j)) →
  ∃ a' b' tk',Mvs [a,b] [a',b']∧Lw a' b'∧(tk'=false→tk=false∧a'=a∧b'=b)∧(tk'=true→tk=true∨a'.W<a.W)∧a'.W≤a.W∧EndZ 150 ctAF false (stOf (sX own a b tk i)) (.tup [il (pR a'),il (pR b'),bv tk']) [] 0
 | μ,own,a,b,i,tk,hμ,h1,h2,hj=>by
  by_cases hi:i=n
  ·subst hi;exact ⟨a,b,tk,.refl _,fun j g1 g2 hb=>Classical.byContradiction fun hf=>hj j g1 g2 ⟨hb,hf⟩,fun h=>⟨h,rfl,rfl⟩,fun h=>.inl h,Nat.le_refl _,.done last⟩
  ·have hin:0<i∧i<n:=⟨h1,by omega⟩
   by_cases hs:b.beg i∧¬ a.fin i
   ·obtain ⟨hb,hf⟩:=hs;have hW:=a.W_R hin hf
    match μ with
    | 0=>omega
    | μ+1=>
     have hm:(a.R i hin).W*(n+1)+(n+1)≤a.W*(n+1):=by rw [← Nat.succ_mul];exact Nat.mul_le_mul_right _ hW
     obtain ⟨a',b',tk',g1,g2,g3,g4,g6,g5⟩:=loop hn μ true (a.R i hin) (b.L i hin) 1 true (by omega) (Nat.le_refl _) (by omega) (fun j q1 q2=>by omega);exact ⟨a',b',tk',.step (.here a b [] i hin hb hf) g1,g2,fun h=>absurd (g3 h).1 (by decide),fun h=>.inr (by omega),by omega,.at zcu (step1 hn hin hb hf) g5⟩
   ·match μ with
    | 0=>omega
    | μ+1=>
     obtain ⟨a',b',tk',g1,g2,g3,g4,g6,g5⟩:=loop hn μ own a b (i+1) tk (by omega) (by omega) (by omega) (fun j q1 q2=>by
      by_cases e:j=i
      ·rw [e];exact hs
      ·exact hj j q1 (by omega))
     exact ⟨a',b',tk',g1,g2,g3,g4,g6,.at zcu (step2 hn hin hs) g5⟩
theorem ends (hn1:1≤n) (hn:n≤12) (a b:Pm n):EndZ 150 ctAF false (st0 150 [il (pR a),il (pR b)]) (.tup [il (pR (nf1 a b)),il (pR (nf2 a b)),bv (decide (nf1 a b≠a))]) [] 0:=by
 obtain ⟨a',b',tk',g1,g2,g3,g4,g6,g5⟩:=loop hn _ false a b 1 false (Nat.le_refl _) (Nat.le_refl _) hn1 (fun j q1 q2=>by omega);have hN:NF [a,b]=[a',b']:=NF_of g1 (za3.2 ⟨g2,za1 _⟩);have e1:nf1 a b=a':=by unfold nf1;rw [hN];rfl
 have e2:nf2 a b=b':=by unfold nf2;rw [hN];rfl
 rw [e1,e2];have e3:decide (a'≠a)=tk':=by
  cases tk' with
  | false=>exact decide_eq_false fun h=>h (g3 rfl).2.1
  | true=>
   rcases g4 rfl with h|h
   ·cases h
   ·exact decide_eq_true fun e=>by rw [e] at h;omega
 rw [e3];exact .at zcu (in_t (pR a) (pR b)) g5
def Sl2 (a b:List Int):Prop:=1≤a.length∧a.length≤12∧(∃ p:Pm a.length,a=pR p)∧∃ q:Pm a.length,b=pR q
noncomputable instance (a b:List Int):Decidable (Sl2 a b):=Classical.propDecidable _
theorem endsK {a b:List Int} (m:Nat) (p q:Pm m) (h1:1≤m) (h2:m≤12) (ha:a=pR p) (hb:b=pR q):EndZ 150 ctAF false (st0 150 [il a,il b]) (.tup [il (sl1 a b),il (sl2 a b),bv (slB a b)]) [] 0:=by
 rw [ha,hb,zs5,zs4,zs3];exact ends h1 h2 p q
theorem endsL {a b:List Int} (h:Sl2 a b):EndZ 150 ctAF false (st0 150 [il a,il b]) (.tup [il (sl1 a b),il (sl2 a b),bv (slB a b)]) [] 0:=by
 obtain ⟨h1,h2,⟨p,hp⟩,q,hq⟩:=h;exact endsK _ p q h1 h2 hp hq
end RSli
noncomputable def spRSli:ZCT:=fun ax=>match ax with
 | [.lst (.ints .i64 a),.lst (.ints .i64 b)]=>some ⟨decide (RSli.Sl2 a b),.tup [il (sl1 a b),il (sl2 a b),bv (slB a b)],[],0⟩
 | _=>none
theorem zn4:ZCtOk Try.prog 150 spRSli:=fun γ w us ax r hs hc hax hN hfz=>by
 unfold spRSli at hs;split at hs
 case h_2=>cases hs
 rename_i a b;obtain ⟨rfl⟩:=Option.some.inj hs;have hc_0:decide (RSli.Sl2 a b)=true:=hc;have hc:=of_decide_eq_true hc_0;exact EndZ.calls (RSli.endsL hc) zcu (by kernel_rfl) hax hN hfz
end
namespace RNrm
noncomputable abbrev shI:List Sh:=[.list [.int .i64]]
noncomputable def ct:Tr ZCC:=((((((Tr.nil.put 45 (some (dC spRChk))).put 85 (some (dC spRLin))).put 147 (some (dC spRAft))).put 148 (some (dC spRTrn))).put 149 (some (dC spRWo))).put 150 (some (dC spRSli))).put 151 (some (dC spRFlt))
theorem ct_ok:ZCtsOk Try.prog ct:=(((((((ZCtsOk.nil _).add rfl zdw).add rfl zoc).add rfl zh7).add rfl zn3).add rfl zrn).add rfl zn4).add rfl zoe
noncomputable def RUN (s:ES):ZF:=RZs 130 ct [(atS 0 130 7,[[(0,none),(1,none),(8,none),(9,some (1,22,.recs shI [])),(10,none)]]),(atS 0 130 13,[[(0,none),(1,none),(8,none),(9,none),(10,none),(11,none)]]),(atS 0 130 18,[[(0,none),(8,none),(9,none),(12,none)]]),(atS 0 130 21,[[(0,none),(8,none),(9,none),(12,none),(13,none)]]),(atS 0 130 28,[[(0,none),(8,none),(9,none),(17,some (1,22,.recs shI [])),(18,none)]])] [] false s
noncomputable def sA (n:Int) (w:List Int) (pw:Int) (L:List (List U)) (len:Nat) (nn:Bool) (i:Int):NS:=⟨[⟨130,144,[(0,(iv n)),(1,(il w)),(8,iv pw),(9,EV.slO 0 1 len nn),(10,iv i)],[.it (.code (nav [1,1,1,1,1,0,1,0,0,0] (bodyOf Try.f130))),.it (.code (nav [1,1,1,1,1,0,1,0,0,1] (bodyOf Try.f130))),.it (.inLoop (nav [1,1,1,1,1,0,1,0,0] (bodyOf Try.f130))),.it (.inBlock 0),.it (.code (nav [1,1,1,1,1,1] (bodyOf Try.f130)))],[],Option.none⟩],[(0,EK.seq 22 (.recs shI L) nn)],1⟩
noncomputable def sB (n:Int) (w:List Int) (pw:Int) (L:List (List U)) (len:Nat) (nn:Bool) (i j:Int):NS:=⟨[⟨130,144,[(0,(iv n)),(1,il w),(8,iv pw),(9,EV.slO 0 1 len nn),(10,iv i),(11,iv j)],[.it (.code (nav [1,1,1,1,1,0,1,0,0,1,0,0,1,1,0,1,0,0,0] (bodyOf Try.f130))),.it (.code (nav [1,1,1,1,1,0,1,0,0,1,0,0,1,1,0,1,0,0,1] (bodyOf Try.f130))),.it (.inLoop (nav [1,1,1,1,1,0,1,0,0,1,0,0,1,1,0,1,0,0] (bodyOf Try.f130))),.it (.inBlock 2),.it (.code (nav [1,1,1,1,1,0,1,0,0,1,0,0,1,1,1] (bodyOf Try.f130))),.it (.inBlock 1),.it (.code (nav [1,1,1,1,1,0,1,0,0,1,1] (bodyOf Try.f130))),.it (.inLoop (nav [1,1,1,1,1,0,1,0,0] (bodyOf Try.f130))),.it (.inBlock 0),.it (.code (nav [1,1,1,1,1,1] (bodyOf Try.f130)))],[],Option.none⟩],[(0,EK.seq 22 (.recs shI L) nn)],1⟩
noncomputable def sC (n:Int) (pw:Int) (L:List (List U)) (len:Nat) (nn:Bool) (ch:Bool):NS:=⟨[⟨130,144,[(0,(iv n)),(8,(iv pw)),(9,(EV.slO 0 1 len nn)),(12,bv ch)],[.it (.code (nav [1,1,1,1,1,1,0,1,0,0,0] (bodyOf Try.f130))),.it (.code (nav [1,1,1,1,1,1,0,1,0,0,1] (bodyOf Try.f130))),.it (.inLoop (nav [1,1,1,1,1,1,0,1,0,0] (bodyOf Try.f130))),.it (.inBlock 4),.it (.code (nav [1,1,1,1,1,1,1] (bodyOf Try.f130)))],[],Option.none⟩],[(0,(EK.seq 22 (SyC.recs [(Sh.list [(Sh.int IntKind.i64)])] L) nn))],1⟩
noncomputable def sD (n:Int) (pw:Int) (L:List (List U)) (len:Nat) (nn:Bool) (ch:Bool) (k:Int):NS:=⟨[⟨130,144,[(0,(iv n)),(8,(iv pw)),(9,(EV.slO 0 1 len nn)),(12,bv ch),(13,iv k)],[.it (.code (nav [1,1,1,1,1,1,0,1,0,0,1,0,1,1,0,0,0] (bodyOf Try.f130))),.it (.code (nav [1,1,1,1,1,1,0,1,0,0,1,0,1,1,0,0,1] (bodyOf Try.f130))),.it (.inLoop (nav [1,1,1,1,1,1,0,1,0,0,1,0,1,1,0,0] (bodyOf Try.f130))),.it (.inBlock 6),.it (.inBlock 5),.it (.inLoop (nav [1,1,1,1,1,1,0,1,0,0] (bodyOf Try.f130))),.it (.inBlock 4),.it (.code (nav [1,1,1,1,1,1,1] (bodyOf Try.f130)))],[],Option.none⟩],[(0,(EK.seq 22 (SyC.recs [(Sh.list [(Sh.int IntKind.i64)])] L) nn))],1⟩
noncomputable def sE (n:Int) (pw:Int) (L:List (List U)) (len:Nat) (nn:Bool) (Q:List (List U)) (m:Nat) (nq:Bool) (i:Int):NS:=⟨[⟨130,144,[(0,(iv n)),(8,(iv pw)),(9,(EV.slO 0 1 len nn)),(17,EV.slO 1 1 m nq),(18,iv i)],[.it (.code (nav [1,1,1,1,1,1,1,1,0,1,0,0,0] (bodyOf Try.f130))),.it (.code (nav [1,1,1,1,1,1,1,1,0,1,0,0,1] (bodyOf Try.f130))),.it (.inLoop (nav [1,1,1,1,1,1,1,1,0,1,0,0] (bodyOf Try.f130))),.it (.inBlock 8),.it (.code (nav [1,1,1,1,1,1,1,1,1] (bodyOf Try.f130)))],[],Option.none⟩],[(0,(EK.seq 22 (SyC.recs [(Sh.list [(Sh.int IntKind.i64)])] L) nn)),(1,EK.seq 22 (.recs shI Q) nq)],2⟩
theorem in_t (n:Int) (w:List Int):RUN (st0 130 [iv n,il w])=(bc (chk n w != 0) (.done (EV.tup [(iv (0)),(EV.v (Value.slice Option.none 0 0)),(iv (chk n w))]) [] 0) (.at (sA n w 0 [] (0) false 0))):=by kernel_rfl
theorem nil_t (n:Int):RZ 130 ct (fun _=>false) [] [] false (st0 130 [iv n,.v (.slice none 0 0)])=(bc (chk n [] != (0:Int)) (.done (EV.tup [(EV.v (Value.int IntKind.i64 (0))),(EV.v (Value.slice Option.none 0 0)),(EV.v (Value.int IntKind.i64 (chk n [])))]) [] 0) (.done (EV.tup [(EV.v (Value.int IntKind.i64 (0))),(EV.v (Value.slice Option.none 0 0)),(EV.v (Value.int IntKind.i64 (0)))]) [] 0)):=by kernel_rfl
theorem a_t (n:Int) (w:List Int) (pw:Int) (L:List (List U)) (len:Nat) (nn:Bool) (i:Int):RUN (stOf (sA n w pw L len nn i))=(bc (decide (i<Int.ofNat w.length)) (bc (bc (bc (decide (0≤i)) (Nat.blt i.toNat w.length) false) true false) (bc (bc (Nat.blt i.toNat w.length) true false) (bc (decide (0<w.getD i.toNat 0)) (bc (bc (bc (decide (0≤n∧n≤100)) (bc (bc (bc (decide (0≤i)) (Nat.blt i.toNat w.length) false) true false) (bc (bc (Nat.blt i.toNat w.length) true false) (bc (decide ((pR (Pm.one n.toNat)).length≤1000∧(-1000:Int)≤w.getD i.toNat 0∧w.getD i.toNat 0≤1000)) (bc (bc (Nat.beq len L.length) (bc (Nat.ble (len+[[U.l (List.map (fun x=>[U.i x]) (aftL (pR (Pm.one n.toNat)) (w.getD i.toNat 0)))]].length) 65536) (bc nn true (bc nn false true)) false) false) true false) false) false) false) false) true false) (.at (sA n w pw (L++[[U.l (List.map (fun x=>[U.i x]) (aftL (pR (Pm.one n.toNat)) (w.getD i.toNat 0)))]]) (L++[[U.l (List.map (fun x=>[U.i x]) (aftL (pR (Pm.one n.toNat)) (w.getD i.toNat 0)))]]).length (bc nn true (Nat.blt 0 [[U.l (List.map (fun x=>[U.i x]) (aftL (pR (Pm.one n.toNat)) (w.getD i.toNat 0)))]].length)) (IntKind.i64.wrap (i+1)))) .bad) (.at (sB n w (IntKind.i64.wrap (pw-(1:Int))) L len nn i 0))) .bad) .bad) (.at (sC n pw L len nn true))):=by kernel_rfl
theorem b_t (n:Int) (w:List Int) (pw:Int) (L:List (List U)) (len:Nat) (nn:Bool) (i j:Int):RUN (stOf (sB n w pw L len nn i j))=(bc (decide (j<Int.ofNat len)) (bc (bc (bc (decide (0≤j)) (Nat.blt j.toNat len) false) true false) (bc (bc (Nat.blt j.toNat L.length) true false) (bc (decide (PmL (List.map (fun r=>U.int (List.headD r (U.i 0))) (U.list ((L.getD j.toNat []).getD 0 (U.i 0)))))) (bc (bc (bc (decide (0≤j)) (Nat.blt j.toNat len) false) true false) (bc (Nat.blt j.toNat L.length) (.at (sB n w pw (List.set L j.toNat [U.l (List.map (fun x=>[U.i x]) (trnL (List.map (fun r=>U.int (List.headD r (U.i 0))) (U.list ((L.getD j.toNat []).getD 0 (U.i 0))))))]) len nn i (IntKind.i64.wrap (j+1)))) .bad) .bad) .bad) .bad) .bad) (bc (bc (bc (decide (0≤i)) (Nat.blt i.toNat w.length) false) true false) (bc (bc (Nat.blt i.toNat w.length) true false) (bc (decide (n≤100∧0<IntKind.i64.wrap ((0:Int)-w.getD i.toNat 0)∧IntKind.i64.wrap ((0:Int)-w.getD i.toNat 0)<n)) (bc (bc (Nat.beq len L.length) (bc (Nat.ble (len+[[U.l (List.map (fun x=>[U.i x]) (woL n (IntKind.i64.wrap ((0:Int)-w.getD i.toNat 0))))]].length) 65536) (bc nn true (bc nn false true)) false) false) (.at (sA n w pw (L++[[U.l (List.map (fun x=>[U.i x]) (woL n (IntKind.i64.wrap ((0:Int)-w.getD i.toNat 0))))]]) (L++[[U.l (List.map (fun x=>[U.i x]) (woL n (IntKind.i64.wrap ((0:Int)-w.getD i.toNat 0))))]]).length (bc nn true (Nat.blt 0 [[U.l (List.map (fun x=>[U.i x]) (woL n (IntKind.i64.wrap ((0:Int)-w.getD i.toNat 0))))]].length)) (IntKind.i64.wrap (i+1)))) .bad) .bad) .bad) .bad)):=by kernel_rfl
theorem c_t (n:Int) (pw:Int) (L:List (List U)) (len:Nat) (nn:Bool) (ch:Bool):RUN (stOf (sC n pw L len nn ch))=(bc ch (.at (sD n pw L len nn false (IntKind.i64.wrap (Int.ofNat len-(1:Int))))) (.at (sE n pw L len nn [] (0) false 0))):=by kernel_rfl
theorem d_t (n:Int) (pw:Int) (L:List (List U)) (len:Nat) (nn:Bool) (ch:Bool) (k:Int):RUN (stOf (sD n pw L len nn ch k))=(bc (decide (0<k)) (bc (bc (bc (bc (bc (decide (0≤IntKind.i64.wrap (k-(1:Int)))) (Nat.blt (IntKind.i64.wrap (k-(1:Int))).toNat len) false) true false) (bc (bc (Nat.blt (IntKind.i64.wrap (k-(1:Int))).toNat L.length) true false) (bc (bc (bc (decide (0≤k)) (Nat.blt k.toNat len) false) true false) (bc (bc (Nat.blt k.toNat L.length) true false) (bc (decide (RSli.Sl2 (List.map (fun r=>U.int (List.headD r (U.i 0))) (U.list ((L.getD (IntKind.i64.wrap (k-(1:Int))).toNat []).getD 0 (U.i 0)))) (List.map (fun r=>U.int (List.headD r (U.i 0))) (U.list ((L.getD k.toNat []).getD 0 (U.i 0)))))) true false) false) false) false) false) true false) (bc (bc (bc (decide (0≤IntKind.i64.wrap (k-(1:Int)))) (Nat.blt (IntKind.i64.wrap (k-(1:Int))).toNat len) false) true false) (bc (Nat.blt (IntKind.i64.wrap (k-(1:Int))).toNat L.length) (bc (bc (bc (decide (0≤k)) (Nat.blt k.toNat len) false) true false) (bc (Nat.blt k.toNat (List.set L (IntKind.i64.wrap (k-(1:Int))).toNat [U.l (List.map (fun x=>[U.i x]) (sl1 (List.map (fun r=>U.int (List.headD r (U.i 0))) (U.list ((L.getD (IntKind.i64.wrap (k-(1:Int))).toNat []).getD 0 (U.i 0)))) (List.map (fun r=>U.int (List.headD r (U.i 0))) (U.list ((L.getD k.toNat []).getD 0 (U.i 0))))))]).length) (bc ch (.at (sD n pw (List.set (List.set L (IntKind.i64.wrap (k-(1:Int))).toNat [U.l (List.map (fun x=>[U.i x]) (sl1 (List.map (fun r=>U.int (List.headD r (U.i 0))) (U.list ((L.getD (IntKind.i64.wrap (k-(1:Int))).toNat []).getD 0 (U.i 0)))) (List.map (fun r=>U.int (List.headD r (U.i 0))) (U.list ((L.getD k.toNat []).getD 0 (U.i 0))))))]) k.toNat [U.l (List.map (fun x=>[U.i x]) (sl2 (List.map (fun r=>U.int (List.headD r (U.i 0))) (U.list ((L.getD (IntKind.i64.wrap (k-(1:Int))).toNat []).getD 0 (U.i 0)))) (List.map (fun r=>U.int (List.headD r (U.i 0))) (U.list ((L.getD k.toNat []).getD 0 (U.i 0))))))]) len nn true (IntKind.i64.wrap (k-(1:Int))))) (.at (sD n pw (List.set (List.set L (IntKind.i64.wrap (k-(1:Int))).toNat [U.l (List.map (fun x=>[U.i x]) (sl1 (List.map (fun r=>U.int (List.headD r (U.i 0))) (U.list ((L.getD (IntKind.i64.wrap (k-(1:Int))).toNat []).getD 0 (U.i 0)))) (List.map (fun r=>U.int (List.headD r (U.i 0))) (U.list ((L.getD k.toNat []).getD 0 (U.i 0))))))]) k.toNat [U.l (List.map (fun x=>[U.i x]) (sl2 (List.map (fun r=>U.int (List.headD r (U.i 0))) (U.list ((L.getD (IntKind.i64.wrap (k-(1:Int))).toNat []).getD 0 (U.i 0)))) (List.map (fun r=>U.int (List.headD r (U.i 0))) (U.list ((L.getD k.toNat []).getD 0 (U.i 0))))))]) len nn (slB (List.map (fun r=>U.int (List.headD r (U.i 0))) (U.list ((L.getD (IntKind.i64.wrap (k-(1:Int))).toNat []).getD 0 (U.i 0)))) (List.map (fun r=>U.int (List.headD r (U.i 0))) (U.list ((L.getD k.toNat []).getD 0 (U.i 0))))) (IntKind.i64.wrap (k-(1:Int)))))) .bad) .bad) .bad) .bad) .bad) (.at (sC n pw L len nn ch))):=by kernel_rfl
theorem e_t (n:Int) (pw:Int) (L:List (List U)) (len:Nat) (nn:Bool) (Q:List (List U)) (m:Nat) (nq:Bool) (i:Int):RUN (stOf (sE n pw L len nn Q m nq i))=(bc (decide (i<Int.ofNat len)) (bc (Int.ofNat m==0) (bc (decide (1<n)) (bc (bc (bc (decide (0≤i)) (Nat.blt i.toNat len) false) true false) (bc (bc (Nat.blt i.toNat L.length) true false) (bc (bc (decide (PmL (List.map (fun r=>U.int (List.headD r (U.i 0))) (U.list ((L.getD i.toNat []).getD 0 (U.i 0))))∧1≤(List.map (fun r=>U.int (List.headD r (U.i 0))) (U.list ((L.getD i.toNat []).getD 0 (U.i 0)))).length∧((-1:Int)=(1:Int)∨(-1:Int)=(-1:Int)))) true false) (bc (flL (List.map (fun r=>U.int (List.headD r (U.i 0))) (U.list ((L.getD i.toNat []).getD 0 (U.i 0)))) (-1:Int)) (.at (sE n (IntKind.i64.wrap (pw+1)) L len nn Q m nq (IntKind.i64.wrap (i+1)))) (bc (bc (bc (decide (0≤i)) (Nat.blt i.toNat len) false) true false) (bc (bc (Nat.blt i.toNat L.length) true false) (bc (bc (decide (PmL (List.map (fun r=>U.int (List.headD r (U.i 0))) (U.list ((L.getD i.toNat []).getD 0 (U.i 0))))∧1≤(List.map (fun r=>U.int (List.headD r (U.i 0))) (U.list ((L.getD i.toNat []).getD 0 (U.i 0)))).length∧((1:Int)=(1:Int)∨(1:Int)=(-1:Int)))) true false) (bc (!flL (List.map (fun r=>U.int (List.headD r (U.i 0))) (U.list ((L.getD i.toNat []).getD 0 (U.i 0)))) (1:Int)) (bc (bc (bc (decide (0≤i)) (Nat.blt i.toNat len) false) true false) (bc (bc (Nat.blt i.toNat L.length) true false) (bc (bc (Nat.beq m Q.length) (bc (Nat.ble (m+[[U.l (List.map (fun x=>[U.i x]) (List.map (fun r=>U.int (List.headD r (U.i 0))) (U.list ((L.getD i.toNat []).getD 0 (U.i 0)))))]].length) 65536) (bc nq true (bc nq false true)) false) false) (.at (sE n pw L len nn (Q++[[U.l (List.map (fun x=>[U.i x]) (List.map (fun r=>U.int (List.headD r (U.i 0))) (U.list ((L.getD i.toNat []).getD 0 (U.i 0)))))]]) (Q++[[U.l (List.map (fun x=>[U.i x]) (List.map (fun r=>U.int (List.headD r (U.i 0))) (U.list ((L.getD i.toNat []).getD 0 (U.i 0)))))]]).length (bc nq true (Nat.blt 0 [[U.l (List.map (fun x=>[U.i x]) (List.map (fun r=>U.int (List.headD r (U.i 0))) (U.list ((L.getD i.toNat []).getD 0 (U.i 0)))))]].length)) (IntKind.i64.wrap (i+1)))) .bad) .bad) .bad) (.at (sE n pw L len nn Q m nq (IntKind.i64.wrap (i+1))))) .bad) .bad) .bad)) .bad) .bad) .bad) (bc (bc (bc (decide (0≤i)) (Nat.blt i.toNat len) false) true false) (bc (bc (Nat.blt i.toNat L.length) true false) (bc (bc (decide (PmL (List.map (fun r=>U.int (List.headD r (U.i 0))) (U.list ((L.getD i.toNat []).getD 0 (U.i 0))))∧1≤(List.map (fun r=>U.int (List.headD r (U.i 0))) (U.list ((L.getD i.toNat []).getD 0 (U.i 0)))).length∧((1:Int)=(1:Int)∨(1:Int)=(-1:Int)))) true false) (bc (!flL (List.map (fun r=>U.int (List.headD r (U.i 0))) (U.list ((L.getD i.toNat []).getD 0 (U.i 0)))) (1:Int)) (bc (bc (bc (decide (0≤i)) (Nat.blt i.toNat len) false) true false) (bc (bc (Nat.blt i.toNat L.length) true false) (bc (bc (Nat.beq m Q.length) (bc (Nat.ble (m+[[U.l (List.map (fun x=>[U.i x]) (List.map (fun r=>U.int (List.headD r (U.i 0))) (U.list ((L.getD i.toNat []).getD 0 (U.i 0)))))]].length) 65536) (bc nq true (bc nq false true)) false) false) (.at (sE n pw L len nn (Q++[[U.l (List.map (fun x=>[U.i x]) (List.map (fun r=>U.int (List.headD r (U.i 0))) (U.list ((L.getD i.toNat []).getD 0 (U.i 0)))))]]) (Q++[[U.l (List.map (fun x=>[U.i x]) (List.map (fun r=>U.int (List.headD r (U.i 0))) (U.list ((L.getD i.toNat []).getD 0 (U.i 0)))))]]).length (bc nq true (Nat.blt 0 [[U.l (List.map (fun x=>[U.i x]) (List.map (fun r=>U.int (List.headD r (U.i 0))) (U.list ((L.getD i.toNat []).getD 0 (U.i 0)))))]].length)) (IntKind.i64.wrap (i+1)))) .bad) .bad) .bad) (.at (sE n pw L len nn Q m nq (IntKind.i64.wrap (i+1))))) .bad) .bad) .bad)) (bc (bc (bc (decide (0≤i)) (Nat.blt i.toNat len) false) true false) (bc (bc (Nat.blt i.toNat L.length) true false) (bc (bc (decide (PmL (List.map (fun r=>U.int (List.headD r (U.i 0))) (U.list ((L.getD i.toNat []).getD 0 (U.i 0))))∧1≤(List.map (fun r=>U.int (List.headD r (U.i 0))) (U.list ((L.getD i.toNat []).getD 0 (U.i 0)))).length∧((1:Int)=(1:Int)∨(1:Int)=(-1:Int)))) true false) (bc (!flL (List.map (fun r=>U.int (List.headD r (U.i 0))) (U.list ((L.getD i.toNat []).getD 0 (U.i 0)))) (1:Int)) (bc (bc (bc (decide (0≤i)) (Nat.blt i.toNat len) false) true false) (bc (bc (Nat.blt i.toNat L.length) true false) (bc (bc (Nat.beq m Q.length) (bc (Nat.ble (m+[[U.l (List.map (fun x=>[U.i x]) (List.map (fun r=>U.int (List.headD r (U.i 0))) (U.list ((L.getD i.toNat []).getD 0 (U.i 0)))))]].length) 65536) (bc nq true (bc nq false true)) false) false) (.at (sE n pw L len nn (Q++[[U.l (List.map (fun x=>[U.i x]) (List.map (fun r=>U.int (List.headD r (U.i 0))) (U.list ((L.getD i.toNat []).getD 0 (U.i 0)))))]]) (Q++[[U.l (List.map (fun x=>[U.i x]) (List.map (fun r=>U.int (List.headD r (U.i 0))) (U.list ((L.getD i.toNat []).getD 0 (U.i 0)))))]]).length (bc nq true (Nat.blt 0 [[U.l (List.map (fun x=>[U.i x]) (List.map (fun r=>U.int (List.headD r (U.i 0))) (U.list ((L.getD i.toNat []).getD 0 (U.i 0)))))]].length)) (IntKind.i64.wrap (i+1)))) .bad) .bad) .bad) (.at (sE n pw L len nn Q m nq (IntKind.i64.wrap (i+1))))) .bad) .bad) .bad)) (bc (bc (Nat.beq m Q.length) true false) (.done (EV.tup [(iv pw),(EV.lst (SyC.recs [(Sh.list [(Sh.int IntKind.i64)])] Q)),(iv (0))]) [] 0) .bad)):=by kernel_rfl
end RNrm
section
variable {n:Nat}
theorem zjt {s t:List (Pm n)} (h:Mvs s t):s=t∨mu t<mu s:=by
 induction h with
 | refl s=>exact .inl rfl
 | step h1 h2 ih=>
  have h3:=h1.mu;rcases ih with e|e
  ·subst e;exact .inr h3
  ·exact .inr (by omega)
theorem zho (A B:List (Pm n)) (p:Pm n):(encR (A++p::B)).getD A.length []=rowU p:=by
 unfold encR;rw [List.map_append,List.getD_eq_getElem?_getD,List.getElem?_append_right (by rw [List.length_map];exact Nat.le_refl _),List.length_map,Nat.sub_self];rfl
theorem zhn (A B:List (Pm n)) (p q:Pm n):(encR (A++p::B)).set A.length (rowU q)=encR (A++q::B):=by
 unfold encR;rw [List.map_append,List.map_append,List.set_append_right _ _ (by rw [List.length_map];exact Nat.le_refl _),List.length_map,Nat.sub_self];rfl
theorem zhp (F G:List (Pm n)):encR (F++G)=encR F++encR G:=List.map_append
theorem zei (p:Pm n):[U.l (List.map (fun x=>[U.i x]) (pR p))]=rowU p:=rfl
theorem zv5 (hn1:1≤n) (hn:n≤12) (a b:Pm n):RSli.Sl2 (pR a) (pR b):=by
 have key:∀ m,m=n→(∃ p:Pm m,pR a=pR p)∧∃ q:Pm m,pR b=pR q:=fun m e=>by subst e;exact ⟨⟨a,rfl⟩,b,rfl⟩
 exact ⟨by rw [zag];exact hn1,by rw [zag];exact hn,key _ (zag a)⟩
namespace RNrm
theorem stepP {w:List Int} {s:Int×List (Pm n)} {nn:Bool} {i k:Nat} (hn:n≤12) (hk:0<k∧k<n) (hi:i<w.length) (hw:w.length≤400) (hx:w.getD i 0=(k:Int)) (hl:s.2.length≤400):RUN (stOf (sA n w s.1 (encR s.2) s.2.length nn i)) = .at (sA n w (stepW s k).1 (encR (stepW s k).2) (stepW s k).2.length true (i+1:Nat)):=by
 rw [a_t];have e0:((i:Int)).toNat=i:=rfl;have e1:pR (Pm.one ((n:Int)).toNat)=pR (Pm.one n):=rfl;have e2:pR ((Pm.one n).R k hk)=pR (ltr k hk):=rfl;rw [e0,hx,e1,zhw (Pm.one n) hk,e2,zag,zbe,zei];have c1:0≤(n:Int)∧(n:Int)≤100:=⟨by omega,by omega⟩;have c2:n≤1000 ∧ -1000≤(k:Int)∧(k:Int)≤1000:=⟨by omega,by omega,by omega⟩;have e3:encR s.2++[rowU (ltr k hk)]=encR (s.2++[ltr k hk]):=by rw [zhp];rfl
 rw [dt c1,dt c2,e3,nn_ok,zbe,znx hk,List.length_append,List.length_singleton,List.length_singleton];have e4:bc nn true (Nat.blt 0 1)=true:=by cases nn <;> rfl
 simp (disch:=omega) only [yS,e4];rfl
theorem stepN {w:List Int} {s:Int×List (Pm n)} {nn:Bool} {i k:Nat} (hn:n≤12) (hk:0<k∧k<n) (hi:i<w.length) (hw:w.length≤400) (hx:w.getD i 0 = -(k:Int)) (h1:-1000≤s.1) (h2:s.1≤1000):RUN (stOf (sA n w s.1 (encR s.2) s.2.length nn i)) = .at (sB n w (s.1-1) (encR s.2) s.2.length nn i (0:Nat)):=by
 rw [a_t];have e0:((i:Int)).toNat=i:=rfl;rw [e0,hx,zac (s.1-1) (by omega) (by omega)];simp (disch:=omega) only [yS]
theorem stepB {w:List Int} {pw:Int} {A B:List (Pm n)} {p:Pm n} {len:Nat} {nn:Bool} {i:Int} (hn:n≤12) (hl:len=A.length+1+B.length) (hz:len≤400):RUN (stOf (sB n w pw (encR (A++p::B)) len nn i A.length)) = .at (sB n w pw (encR (A++p.trn::B)) len nn i (A.length+1:Nat)):=by
 rw [b_t];have e0:((A.length:Int)).toNat=A.length:=rfl;have f1:List.map (fun r=>U.int (List.headD r (U.i 0))) (U.list (List.getD (rowU p) 0 (U.i 0)))=pR p:=zcf p;have e5:(A++p::B).length=len:=by rw [List.length_append,List.length_cons];omega
 rw [e0,zho,f1,znr,zei,zhn,zbe,e5,dt (PmL.pR hn p)];simp (disch:=omega) only [yS];rfl
theorem lastB {w:List Int} {s:Int×List (Pm n)} {nn:Bool} {i k:Nat} (hn:n≤12) (hk:0<k∧k<n) (hi:i<w.length) (hw:w.length≤400) (hx:w.getD i 0 = -(k:Int)) (hl:s.2.length≤400):RUN (stOf (sB n w (s.1-1) (encR (s.2.map Pm.trn)) s.2.length nn i s.2.length)) = .at (sA n w (stepW s (-(k:Int))).1 (encR (stepW s (-(k:Int))).2) (stepW s (-(k:Int))).2.length true (i+1:Nat)):=by
 rw [b_t];have e0:((i:Int)).toNat=i:=rfl;have w0:IntKind.i64.wrap (0 - -(k:Int))=(k:Int):=by rw [zac _ (by omega) (by omega)];omega
 have c1:(n:Int)≤100∧0<(k:Int)∧(k:Int)<n:=⟨by omega,by omega,by omega⟩;have e3:encR (s.2.map Pm.trn)++[rowU (ctr k hk)]=encR (s.2.map Pm.trn++[ctr k hk]):=by rw [zhp];rfl
 rw [e0,hx,w0,zs1 hk,zei,dt c1,e3,nn_ok,zbe,zbe,zny hk,List.length_append,List.length_map,List.length_singleton,List.length_singleton];have e4:bc nn true (Nat.blt 0 1)=true:=by cases nn <;> rfl
 simp (disch:=omega) only [yS,e4];rfl
theorem loopB {w:List Int} {pw:Int} {len:Nat} {nn:Bool} {i:Int} (hn:n≤12) (hz:len≤400):∀ (B A:List (Pm n)),len=A.length+B.length→LeadsZ Try.prog (stOf (sB n w pw (encR (A.map Pm.trn++B)) len nn i A.length)) (stOf (sB n w pw (encR ((A++B).map Pm.trn)) len nn i len))
 | [],A,h=>by
  rw [List.append_nil,List.append_nil];have:len=A.length:=h;rw [this];exact LeadsZ.refl _
 | p::B,A,h=>by
  rw [List.length_cons] at h;have h1:=stepB (w:=w) (pw:=pw) (A:=A.map Pm.trn) (B:=B) (p:=p) (len:=len) (nn:=nn) (i:=i) hn (by rw [List.length_map];omega) hz;rw [List.length_map] at h1;have h3:=loopB (w:=w) (pw:=pw) (nn:=nn) (i:=i) hn hz B (A++[p]) (by rw [List.length_append,List.length_singleton];omega);rw [List.length_append,List.length_singleton,List.map_append,List.append_assoc,List.append_assoc] at h3;exact (leadsZ ct_ok h1).trans h3
theorem zh2 (s:Int×List (Pm n)) (x:Int):(stepW s x).2.length≤s.2.length+1∧s.1-1≤(stepW s x).1∧(stepW s x).1≤s.1:=by
 unfold stepW;split
 ·split
  ·refine ⟨by simp,by show s.1-1≤s.1;omega,Int.le_refl _⟩
  ·refine ⟨by simp,Int.le_refl _,by show s.1-1≤s.1;omega⟩
 ·exact ⟨by omega,by omega,Int.le_refl _⟩
theorem loopA {w:List Int} (hn:n≤12) (hw:w.length≤400) (hv:Vld n w):∀ (k i:Nat) (s:Int×List (Pm n)) (nn:Bool),i+k=w.length→s.2.length≤i → -(i:Int)≤s.1→s.1≤0→∃ nn',LeadsZ Try.prog (stOf (sA n w s.1 (encR s.2) s.2.length nn i)) (stOf (sC n ((w.drop i).foldl stepW s).1 (encR ((w.drop i).foldl stepW s).2) ((w.drop i).foldl stepW s).2.length nn' true))
 | 0,i,s,nn,h,h1,h2,h3=>by
  rw [List.drop_eq_nil_of_le (by omega)];have h:=a_t n w s.1 (encR s.2) s.2.length nn i;simp (disch:=omega) only [yS] at h;exact ⟨nn,leadsZ ct_ok h⟩
 | k+1,i,s,nn,h,h1,h2,h3=>by
  have hi:i<w.length:=by omega
  rw [List.drop_eq_getElem_cons hi,List.foldl_cons];obtain ⟨v1,v2,v3⟩:=hv _ (List.getElem_mem hi);have hg:w.getD i 0=w[i]:=zao hi;generalize w[i]=x at *;have hs:=zh2 s x;obtain ⟨nn',h4⟩:=loopA hn hw hv k (i+1) (stepW s x) true (by omega) (by omega) (by omega) (by omega);refine ⟨nn',?_⟩;rcases Int.lt_or_lt_of_ne v1 with hx|hx
  ·obtain ⟨q,hq⟩:=Int.eq_ofNat_of_zero_le (show 0 ≤ -x by omega);have hq:x = -(q:Int):=by omega
   subst hq;have hk:0<q∧q<n:=by omega
   have g1:=stepN (w:=w) (s:=s) (nn:=nn) hn hk hi hw hg (by omega) (by omega);have g2:=loopB (w:=w) (pw:=s.1-1) (nn:=nn) (i:=i) (len:=s.2.length) hn (by omega) s.2 [] (by simp);have g3:=lastB (w:=w) (s:=s) (nn:=nn) hn hk hi hw hg (by omega);exact (((leadsZ ct_ok g1).trans g2).trans (leadsZ ct_ok g3)).trans h4
  ·obtain ⟨q,rfl⟩:=Int.eq_ofNat_of_zero_le (show 0≤x by omega);have hk:0<q∧q<n:=by omega
   exact (leadsZ ct_ok (stepP hn hk hi hw hg (by omega))).trans h4
theorem stepD {pw:Int} {A B:List (Pm n)} {a b:Pm n} {len:Nat} {nn ch:Bool} (hn1:1≤n) (hn:n≤12) (hl:len=A.length+2+B.length) (hz:len≤400):RUN (stOf (sD n pw (encR (A++a::b::B)) len nn ch (A.length+1:Nat))) = .at (sD n pw (encR (A++nf1 a b::nf2 a b::B)) len nn (bc ch true (decide (nf1 a b≠a))) A.length):=by
 rw [d_t];have w1:IntKind.i64.wrap (((A.length+1:Nat):Int)-1)=(A.length:Int):=by rw [zac _ (by omega) (by omega)];omega
 have e0:((A.length:Int)).toNat=A.length:=rfl;have e1:(((A.length+1:Nat):Int)).toNat=A.length+1:=rfl;have f:∀ p:Pm n,List.map (fun r=>U.int (List.headD r (U.i 0))) (U.list (List.getD (rowU p) 0 (U.i 0)))=pR p:=fun p=>zcf p;have a1:A++a::b::B=(A++[a])++b::B:=by rw [List.append_assoc];rfl
 have l1:A.length+1=(A++[a]).length:=by rw [List.length_append];rfl
 have g1:(encR (A++a::b::B)).getD (A.length+1) []=rowU b:=by rw [a1,l1];exact zho _ _ _
 rw [w1,e0,e1,zho,g1,f,f,zs5,zs4,zs3,zei,zei,zhn];have a2:A++nf1 a b::b::B=(A++[nf1 a b])++b::B:=by rw [List.append_assoc];rfl
 have l2:A.length+1=(A++[nf1 a b]).length:=by rw [List.length_append];rfl
 have g2:(encR (A++nf1 a b::b::B)).set (A.length+1) (rowU (nf2 a b))=encR (A++nf1 a b::nf2 a b::B):=by
  rw [a2,l2,zhn,List.append_assoc];rfl
 have n1:(A++a::b::B).length=len:=by rw [List.length_append,List.length_cons,List.length_cons];omega
 have n2:(A++nf1 a b::b::B).length=len:=by rw [List.length_append,List.length_cons,List.length_cons];omega
 rw [g2,zbe,zbe,n1,n2,dt (zv5 hn1 hn a b)];cases ch <;> simp (disch:=omega) only [yS]
theorem lastD {pw:Int} {L:List (List U)} {len:Nat} {nn ch:Bool} {k:Int} (hk:k≤0):RUN (stOf (sD n pw L len nn ch k)) = .at (sC n pw L len nn ch):=by
 rw [d_t];simp (disch:=omega) only [yS]
theorem loopD {pw:Int} {len:Nat} {nn:Bool} (hn1:1≤n) (hn:n≤12) (hz:len≤400):∀ (r:List (Pm n)) (b:Pm n) (B:List (Pm n)) (ch:Bool),len=r.length+1+B.length→(ch=false→Nrm (b::B)) →
  ∃ l' ch',Mvs (r.reverse++b::B) l'∧(ch'=false→Nrm l'∧ch=false)∧(ch'=true→ch=true∨mu l'<mu (r.reverse++b::B))∧LeadsZ Try.prog (stOf (sD n pw (encR (r.reverse++b::B)) len nn ch r.length)) (stOf (sC n pw (encR l') len nn ch'))
 | [],b,B,ch,h,hN=>⟨b::B,ch,.refl _,fun e=>⟨hN e,e⟩,fun e=>.inl e,leadsZ ct_ok (lastD (by simp))⟩
 | a::r,b,B,ch,h,hN=>by
  rw [List.length_cons] at h;have hA:r.reverse.length=r.length:=List.length_reverse;have h1:=stepD (pw:=pw) (A:=r.reverse) (B:=B) (a:=a) (b:=b) (len:=len) (nn:=nn) (ch:=ch) hn1 hn (by omega) hz;rw [hA] at h1;have e1:(a::r).reverse++b::B=r.reverse++a::b::B:=by rw [List.reverse_cons,List.append_assoc];rfl
  rw [e1];have hm:=(NF_mv [a,b]).app B |>.pre r.reverse
  obtain ⟨q1,q2,q3⟩:=nf12 a b;rw [q1] at hm;have hm:Mvs (r.reverse++a::b::B) (r.reverse++nf1 a b::nf2 a b::B):=hm;have hN2:bc ch true (decide (nf1 a b≠a))=false→Nrm (nf1 a b::nf2 a b::B):=fun e=>by
   cases ch with
   | true=>cases e
   | false=>
    have e2:nf1 a b=a:=Classical.byContradiction fun hne=>by
     have:decide (nf1 a b≠a)=true:=decide_eq_true hne;rw [this] at e;cases e
    have e3:=zg8 e2;rw [e3] at q3 ⊢;exact za3.2 ⟨q3,hN rfl⟩
  obtain ⟨l',ch',g1,g2,g3,g4⟩:=loopD (pw:=pw) (nn:=nn) hn1 hn hz r (nf1 a b) (nf2 a b::B) (bc ch true (decide (nf1 a b≠a))) (by rw [List.length_cons];omega) hN2;refine ⟨l',ch',hm.trans g1,fun e=>⟨(g2 e).1,?_⟩,fun e=>?_,(leadsZ ct_ok h1).trans g4⟩
  ·have:=(g2 e).2
   cases ch with
   | true=>cases this
   | false=>rfl
  ·cases ch with
   | true=>exact .inl rfl
   | false=>
    right;rcases g3 e with e2|e2
    ·have hne:nf1 a b≠a:=of_decide_eq_true e2;rcases zjt hm with e3|e3
     ·have:=List.append_cancel_left e3;injection this with this _
      exact absurd this.symm hne
     ·rcases zjt g1 with e4|e4
      ·rw [← e4];exact e3
      ·omega
    ·rcases zjt hm with e3|e3
     ·rw [← e3] at e2;exact e2
     ·omega
theorem stepC1 {pw:Int} {l:List (Pm n)} {nn:Bool} (hz:l.length≤400):RUN (stOf (sC n pw (encR l) l.length nn true)) = .at (sD n pw (encR l) l.length nn false ((l.length:Int)-1)):=by
 rw [c_t,ofn,zac _ (by omega) (by omega)];rfl
theorem stepC0 {pw:Int} {l:List (Pm n)} {nn:Bool}:RUN (stOf (sC n pw (encR l) l.length nn false)) = .at (sE n pw (encR l) l.length nn [] 0 false (0:Nat)):=by
 rw [c_t];rfl
theorem loopC {pw:Int} {nn:Bool} (hn1:1≤n) (hn:n≤12):∀ (μ:Nat) (l:List (Pm n)),mu l≤μ→l.length≤400→LeadsZ Try.prog (stOf (sC n pw (encR l) l.length nn true)) (stOf (sE n pw (encR (NF l)) (NF l).length nn [] 0 false (0:Nat)))
 | μ,l,hμ,hl=>by
  refine (leadsZ ct_ok (stepC1 hl)).trans ?_;rcases List.eq_nil_or_concat l with e|⟨r,b,e⟩
  ·subst e;have h1:=lastD (n:=n) (pw:=pw) (L:=encR ([]:List (Pm n))) (len:=0) (nn:=nn) (ch:=false) (k:=((0:Nat):Int)-1) (by omega);have h2:NF ([]:List (Pm n))=[]:=NF_of (.refl _) zfh;rw [h2];exact (leadsZ ct_ok h1).trans (leadsZ ct_ok stepC0)
  ·rw [List.concat_eq_append] at e;subst e;obtain ⟨l',ch',g1,g2,g3,g4⟩:=loopD (pw:=pw) (nn:=nn) (len:=(r++[b]).length) hn1 hn hl r.reverse b [] false (by rw [List.length_append,List.length_reverse];rfl) (fun _=>za1 _);rw [List.reverse_reverse,List.length_reverse] at g4;rw [List.reverse_reverse] at g1 g3;have e1:(((r++[b]).length:Nat):Int)-1=(r.length:Int):=by rw [List.length_append,List.length_singleton];omega
   rw [e1];refine g4.trans ?_;have hlen:=g1.len;rw [← hlen]
   cases ch' with
   | false=>
    have hNF:NF (r++[b])=l':=NF_of g1 (g2 rfl).1;rw [hNF];exact leadsZ ct_ok stepC0
   | true=>
    rcases g3 rfl with e2|e2
    ·cases e2
    ·match μ with
     | 0=>omega
     | μ+1=>
      have:=loopC (pw:=pw) (nn:=nn) hn1 hn μ l' (by omega) (by rw [hlen];exact hl);rw [NF_eq g1] at this;exact this
noncomputable def outE:List (Pm n)→Int→List (Pm n)→Int×List (Pm n)
 | [],pw,Q=>(pw,Q)
 | p::R,pw,Q=>bc (bc (decide (Q=[])) (decide (p=Pm.del n)) false) (outE R (pw+1) Q) (bc (decide (p=Pm.one n)) (outE R pw Q) (outE R pw (Q++[p])))
theorem stepE {pw:Int} {A B Q:List (Pm n)} {p:Pm n} {len:Nat} {nn nq:Bool} (hn2:2≤n) (hn:n≤12) (hl:len=A.length+1+B.length) (hz:len≤400) (hq:Q.length≤400) (h1:-1000≤pw) (h2:pw≤1000) :
  RUN (stOf (sE n pw (encR (A++p::B)) len nn (encR Q) Q.length nq A.length))=bc (bc (decide (Q=[])) (decide (p=Pm.del n)) false) (.at (sE n (pw+1) (encR (A++p::B)) len nn (encR Q) Q.length nq (A.length+1:Nat))) (bc (decide (p=Pm.one n)) (.at (sE n pw (encR (A++p::B)) len nn (encR Q) Q.length nq (A.length+1:Nat))) (.at (sE n pw (encR (A++p::B)) len nn (encR (Q++[p])) (Q++[p]).length true (A.length+1:Nat)))):=by
 rw [e_t];have e0:((A.length:Int)).toNat=A.length:=rfl;have f1:List.map (fun r=>U.int (List.headD r (U.i 0))) (U.list (List.getD (rowU p) 0 (U.i 0)))=pR p:=zcf p;have n1:(A++p::B).length=len:=by rw [List.length_append,List.length_cons];omega
 have c1:PmL (pR p)∧1≤n∧((-1:Int)=1∨(-1:Int) = -1):=⟨PmL.pR hn p,by omega,.inr rfl⟩;have c2:PmL (pR p)∧1≤n∧((1:Int)=1∨(1:Int) = -1):=⟨PmL.pR hn p,by omega,.inl rfl⟩;have e3:encR Q++[rowU p]=encR (Q++[p]):=by rw [zhp];rfl
 have e4:bc nq true (Nat.blt 0 1)=true:=by cases nq <;> rfl
 rw [e0,zho,f1,zag,zbe,zbe,n1,zei,dt c1,dt c2,zpr,zps,e3,zbe,List.length_singleton,nn_ok,e4,zac (pw+1) (by omega) (by omega)]
 cases Q with
 | nil=>
  have b0:(Int.ofNat ([]:List (Pm n)).length==0)=true:=rfl;have b1:decide (([]:List (Pm n))=[])=true:=decide_eq_true rfl;rw [b0,b1]
  by_cases g1:p=Pm.del n
  ·rw [dt g1];simp (disch:=omega) only [yS];rfl
  ·rw [df g1]
   by_cases g2:p=Pm.one n
   ·rw [dt g2];simp (disch:=omega) only [yS];rfl
   ·rw [df g2];simp (disch:=omega) only [yS];rfl
 | cons q Q=>
  have hq2:Q.length+1≤400:=hq;have b0:(Int.ofNat (q::Q).length==0)=false:=by
   rw [List.length_cons,ofn];simp;omega
  have b1:decide ((q::Q)=[])=false:=decide_eq_false (by simp);rw [b0,b1]
  by_cases g2:p=Pm.one n
  ·rw [dt g2];simp (disch:=omega) only [yS];rfl
  ·rw [df g2];simp (disch:=omega) only [yS];rfl
theorem lastE {pw:Int} {L:List (List U)} {Q:List (Pm n)} {len:Nat} {nn nq:Bool} {i:Nat} (hi:len≤i):RUN (stOf (sE n pw L len nn (encR Q) Q.length nq i)) = .done (.tup [iv pw,.lst (.recs shI (encR Q)),iv 0]) [] 0:=by
 rw [e_t,zbe];simp (disch:=omega) only [yS]
theorem loopE {len:Nat} {nn:Bool} (hn2:2≤n) (hn:n≤12) (hz:len≤400):∀ (R A Q:List (Pm n)) (pw:Int) (nq:Bool),len=A.length+R.length→Q.length≤A.length → -1000≤pw→pw+R.length≤1000→EndZ 130 ct false (stOf (sE n pw (encR (A++R)) len nn (encR Q) Q.length nq A.length)) (.tup [iv (outE R pw Q).1,.lst (.recs shI (encR (outE R pw Q).2)),iv 0]) [] 0
 | [],A,Q,pw,nq,h,hq,h1,h2=>.done (lastE (by simp at h;omega))
 | p::R,A,Q,pw,nq,h,hq,h1,h2=>by
  rw [List.length_cons] at h h2;have hs:=stepE (pw:=pw) (A:=A) (B:=R) (Q:=Q) (p:=p) (len:=len) (nn:=nn) (nq:=nq) hn2 hn (by omega) hz (by omega) h1 (by omega);have l1:(A++[p]).length=A.length+1:=by rw [List.length_append];rfl
  have a1:A++p::R=(A++[p])++R:=by rw [List.append_assoc];rfl
  unfold outE;rw [a1,← l1] at hs;rw [a1]
  by_cases g1:Q=[]∧p=Pm.del n
  ·rw [dt g1.1,dt g1.2] at hs ⊢;exact .at ct_ok hs (loopE hn2 hn hz R (A++[p]) Q (pw+1) nq (by omega) (by omega) (by omega) (by omega))
  ·have b:bc (decide (Q=[])) (decide (p=Pm.del n)) false=false:=by
    by_cases q1:Q=[]
    ·rw [dt q1,bc_t];exact decide_eq_false fun q2=>g1 ⟨q1,q2⟩
    ·rw [df q1];rfl
   rw [b,bc_f] at hs ⊢
   by_cases g2:p=Pm.one n
   ·rw [dt g2,bc_t] at hs ⊢;exact .at ct_ok hs (loopE hn2 hn hz R (A++[p]) Q pw nq (by omega) (by omega) (by omega) (by omega))
   ·rw [df g2,bc_f] at hs ⊢;exact .at ct_ok hs (loopE hn2 hn hz R (A++[p]) (Q++[p]) pw true (by omega) (by rw [List.length_append,List.length_singleton];omega) (by omega) (by omega))
theorem zil (hn2:2≤n) (pw:Int) (Q:List (Pm n)):∀ r:Nat,outE (List.replicate r (Pm.one n)) pw Q=(pw,Q)
 | 0=>rfl
 | r+1=>by
  rw [List.replicate_succ];unfold outE;have hne:Pm.one n≠Pm.del n:=fun e=>ztl hn2 e.symm;rw [df hne,dt rfl,bc_t,show bc (decide (Q=[])) false false=false from by cases decide (Q=[]) <;> rfl,bc_f]
  exact zil hn2 pw Q r
theorem zs9 (hn2:2≤n) (pw:Int) (r:Nat):∀ (F Q:List (Pm n)),(∀ p,p∈F→p≠Pm.one n)→(∀ p,p∈F→p≠Pm.del n)→outE (F++List.replicate r (Pm.one n)) pw Q=(pw,Q++F)
 | [],Q,_,_=>by
  rw [List.nil_append,List.append_nil];exact zil hn2 pw Q r
 | p::F,Q,h1,h2=>by
  rw [List.cons_append];unfold outE;rw [df (h2 p List.mem_cons_self),df (h1 p List.mem_cons_self),bc_f,show bc (decide (Q=[])) false false=false from by cases decide (Q=[]) <;> rfl,bc_f,zs9 hn2 pw r F (Q++[p]) (fun q hq=>h1 q (List.mem_cons_of_mem _ hq)) (fun q hq=>h2 q (List.mem_cons_of_mem _ hq)),List.append_assoc]
  rfl
theorem zli (hn2:2≤n) (r:Nat) (F:List (Pm n)) (h1:∀ p,p∈F→p≠Pm.one n) (h2:∀ p,p∈F→p≠Pm.del n):∀ (m:Nat) (pw:Int),outE (List.replicate m (Pm.del n)++(F++List.replicate r (Pm.one n))) pw []=(pw+m,F)
 | 0,pw=>by
  rw [List.replicate_zero,List.nil_append,zs9 hn2 pw r F [] h1 h2,List.nil_append,show pw+((0:Nat):Int)=pw by omega]
 | m+1,pw=>by
  rw [List.replicate_succ,List.cons_append];unfold outE;rw [dt rfl,dt rfl,bc_t,bc_t,zli hn2 r F h1 h2 m (pw+1),show pw+1+(m:Int)=pw+((m+1:Nat):Int) by omega]
theorem zrx (w:List Int):∀ s:Int×List (Pm n),(w.foldl stepW s).2.length≤s.2.length+w.length∧s.1-w.length≤(w.foldl stepW s).1∧(w.foldl stepW s).1≤s.1:=by
 induction w with
 | nil=>intro s;exact ⟨Nat.le_refl _,by show s.1-0≤s.1;omega,Int.le_refl _⟩
 | cons x w ih=>
  intro s;have h1:=ih (stepW s x);have h2:=zh2 s x;rw [List.foldl_cons,List.length_cons];omega
noncomputable def npw (n:Int) (w:List Int):Int:=bc (chk n w != 0) 0 (nfW n.toNat w).pw
noncomputable def npF (n:Int) (w:List Int):List (List U):=bc (chk n w != 0) [] (encR (nfW n.toNat w).F)
theorem good {w:List Int} (hn1:1≤n) (hn:n≤12) (hw:w.length≤400) (hv:Vld n w) (nn:Bool):EndZ 130 ct false (stOf (sA n w 0 [] 0 nn (0:Nat))) (.tup [iv (nfW n w).pw,.lst (.recs shI (encR (nfW n w).F)),iv 0]) [] 0:=by
 obtain ⟨nn',h1⟩:=loopA hn hw hv w.length 0 ((0,[]):Int×List (Pm n)) nn (by omega) (Nat.le_refl _) (by simp) (Int.le_refl _);rw [List.drop_zero] at h1;have hlen:=zrx (n:=n) w (0,[]);simp only [List.length_nil,Nat.zero_add] at hlen;have h2:=loopC (pw:=(w.foldl stepW ((0,[]):Int×List (Pm n))).1) (nn:=nn') hn1 hn _ (w.foldl stepW ((0,[]):Int×List (Pm n))).2 (Nat.le_refl _) (by omega);refine .lead h1 (.lead h2 ?_);have hrep:=zuu n w;have hrow:rowW n w=w.foldl stepW (0,[]):=rfl;rw [hrow] at hrep
 generalize hs:w.foldl stepW ((0,[]):Int×List (Pm n))=s at *;obtain ⟨m,⟨⟨r,g1⟩,g2,g3⟩,g4⟩:=hrep
 by_cases hn2:2≤n
 ·have hN:=congrArg List.length g1;rw [zi5,List.length_append,List.length_append,List.length_replicate,List.length_replicate] at hN;have h3:=loopE (len:=(NF s.2).length) (nn:=nn') hn2 hn (by rw [zi5];omega) (NF s.2) [] [] s.1 false (by simp) (Nat.le_refl _) (by omega) (by rw [zi5];omega);rw [List.nil_append] at h3;have h4:outE (NF s.2) s.1 []=((nfW n w).pw,(nfW n w).F):=by rw [g1,zli hn2 r _ g2 g3 m s.1,g4]
  rw [h4] at h3;exact h3
 ·have hnil:w=[]:=by
   cases w with
   | nil=>rfl
   | cons x w=>
    obtain ⟨v1,v2,v3⟩:=hv x List.mem_cons_self;omega
  subst hnil;have hs2:s=(0,[]):=hs.symm;subst hs2;have e1:NF ([]:List (Pm n))=[]:=NF_of (.refl _) zfh;have e2:NF ((0,[]):Int×List (Pm n)).2=[]:=e1;rw [e2];exact .done (lastE (n:=n) (Q:=[]) (Nat.le_refl _))
theorem ends (n:Int) (w:List Int):EndZ 130 ct false (st0 130 [iv n,il w]) (.tup [iv (npw n w),.lst (.recs shI (npF n w)),iv (chk n w)]) [] 0:=by
 have h:=in_t n w;unfold npw npF
 by_cases z:chk n w=0
 ·rw [z,show ((0:Int) != 0)=false from rfl,bc_f] at h
  rw [z,show ((0:Int) != 0)=false from rfl,bc_f,bc_f]
  obtain ⟨⟨h1,h2,_,h4⟩,h3⟩:=zca z;obtain ⟨n,rfl⟩:=Int.eq_ofNat_of_zero_le (show 0≤n by omega);exact .at ct_ok h (good (n:=n) (by omega) (by omega) h3 h4 false)
 ·have b:(chk n w != 0)=true:=by simp [z]
  rw [b,bc_t] at h;rw [b,bc_t,bc_t];exact (EndZ.done h).weak (Weak.tup (.cons (Weak.refl _) (.cons (Weak.nil _) (.cons (Weak.refl _) .nil))))
end RNrm
end
theorem zp7 (x y:Int) (a b:List Int):eqLI (x::a) (y::b)=bc (x != y) false (eqLI a b):=by
 by_cases h:x=y
 ·have e:(x != y)=false:=by simp [h]
  rw [e,bc_f]
  cases hq:eqLI a b with
  | true=>rw [h,zaf.1 hq,zaf.2 rfl]
  | false=>
   cases hx:eqLI (x::a) (y::b) with
   | false=>rfl
   | true=>
    have:=List.cons.inj (zaf.1 hx);rw [zaf.2 this.2] at hq;cases hq
 ·have e:(x != y)=true:=by simp [h]
  rw [e,bc_t]
  cases hx:eqLI (x::a) (y::b) with
  | false=>rfl
  | true=>exact absurd (List.cons.inj (zaf.1 hx)).1 h
theorem zsm {a b:List Int} (h:a.length≠b.length):eqLI a b=false:=by
 cases hx:eqLI a b with
 | false=>rfl
 | true=>exact absurd (congrArg List.length (zaf.1 hx)) h
namespace RSin
noncomputable def RUN (s:ES):ZF:=RZ 68 .nil (atS 0 68 4) [] [[(0,none),(1,none),(5,none)]] false s
noncomputable def sS (a b:List Int) (i:Int):NS:=⟨[⟨68,26,[(0,(il a)),(1,(il b)),(5,iv i)],[.it (.code (nav [1,1,0,1,0,0,0] (bodyOf Try.f68))),.it (.code (nav [1,1,0,1,0,0,1] (bodyOf Try.f68))),.it (.inLoop (nav [1,1,0,1,0,0] (bodyOf Try.f68))),.it (.inBlock 0),.it (.code (nav [1,1,1] (bodyOf Try.f68)))],[],Option.none⟩],[],0⟩
theorem in_t (a b:List Int):RUN (st0 68 [il a,il b])=(bc (Int.ofNat a.length != Int.ofNat b.length) (.done (bv false) [] 0) (.at (sS a b 0))):=by kernel_rfl
theorem step_t (a b:List Int) (i:Int):RUN (stOf (sS a b i))=(bc (decide (i<Int.ofNat a.length)) (bc (bc (bc (bc (bc (decide (0≤i)) (Nat.blt i.toNat a.length) false) true false) (bc (bc (Nat.blt i.toNat a.length) true false) (bc (bc (bc (decide (0≤i)) (Nat.blt i.toNat b.length) false) true false) (bc (bc (Nat.blt i.toNat b.length) true false) true false) false) false) false) true false) (bc (a.getD i.toNat 0 != b.getD i.toNat 0) (.done (bv false) [] 0) (.at (sS a b (IntKind.i64.wrap (i+1))))) .bad) (.done (bv true) [] 0)):=by kernel_rfl
theorem loop {a b:List Int} (hl:a.length=b.length) (hz:a.length≤100000):∀ (k i:Nat),i+k=a.length→EndZ 68 .nil false (stOf (sS a b i)) (bv (eqLI (a.drop i) (b.drop i))) [] 0
 | 0,i,h=>by
  have hs:=step_t a b i;rw [List.drop_eq_nil_of_le (by omega),List.drop_eq_nil_of_le (by omega),zaf.2 rfl];simp (disch:=omega) only [yS] at hs;exact .done hs
 | k+1,i,h=>by
  have hi:i<a.length:=by omega
  have hi2:i<b.length:=by omega
  have hs:=step_t a b i;have e1:a.getD i 0=a[i]:=zao hi;have e2:b.getD i 0=b[i]:=zao hi2;rw [zkz,e1,e2] at hs;rw [List.drop_eq_getElem_cons hi,List.drop_eq_getElem_cons hi2,zp7];simp (disch:=omega) only [yS] at hs
  cases hq:a[i] != b[i] with
  | true=>rw [hq] at hs;exact .done hs
  | false=>rw [hq] at hs;exact .at (.nil _) hs (loop hl hz k (i+1) (by omega))
theorem ends {a b:List Int} (hz:a.length≤100000):EndZ 68 .nil false (st0 68 [il a,il b]) (bv (eqLI a b)) [] 0:=by
 have h:=in_t a b
 by_cases hl:a.length=b.length
 ·have e:(Int.ofNat a.length != Int.ofNat b.length)=false:=by simp [hl]
  rw [e,bc_f] at h;exact .at (.nil _) h (loop hl hz a.length 0 (by omega))
 ·have e:(Int.ofNat a.length != Int.ofNat b.length)=true:=by simp;omega
  rw [e,bc_t] at h;rw [zsm hl];exact .done h
end RSin
noncomputable def spRSin:ZCT:=fun ax=>match ax with
 | [.lst (.ints .i64 a),.lst (.ints .i64 b)]=>some ⟨decide (a.length≤100000),bv (eqLI a b),[],0⟩
 | _=>none
theorem zn5:ZCtOk Try.prog 68 spRSin:=fun γ w us ax r hs hc hax hN hfz=>by
 unfold spRSin at hs;split at hs
 case h_2=>cases hs
 rename_i a b;obtain ⟨rfl⟩:=Option.some.inj hs;have hc_0:decide (a.length≤100000)=true:=hc;have hc:=of_decide_eq_true hc_0;exact EndZ.calls (RSin.ends hc) (.nil _) (by kernel_rfl) hax hN hfz
noncomputable def sfB:List (List U)→List (List U)→Bool
 | [],[]=>true
 | r::A,q::B=>bc (eqLI (facR r) (facR q)) (sfB A B) false
 | _,_=>false
theorem zom:∀ {A B:List (List U)},A.length≠B.length→sfB A B=false
 | [],[],h=>absurd rfl h
 | [],q::B,_=>rfl
 | r::A,[],_=>rfl
 | r::A,q::B,h=>by
  have:sfB A B=false:=zom fun e=>h (by rw [List.length_cons,List.length_cons,e]);unfold sfB;rw [this];cases eqLI (facR r) (facR q) <;> rfl
theorem zgr {n:Nat}:∀ (F G:List (Pm n)),sfB (encR F) (encR G)=true↔F=G
 | [],[]=>⟨fun _=>rfl,fun _=>rfl⟩
 | [],q::G=>⟨fun h=>(by cases h),fun h=>(by cases h)⟩
 | p::F,[]=>⟨fun h=>(by cases h),fun h=>(by cases h)⟩
 | p::F,q::G=>by
  show bc (eqLI (facR (rowU p)) (facR (rowU q))) (sfB (encR F) (encR G)) false=true↔_;rw [zcf,zcf];constructor
  ·intro h
   cases hq:eqLI (pR p) (pR q) with
   | false=>rw [hq] at h;cases h
   | true=>
    rw [hq,bc_t] at h;rw [zs8 (zaf.1 hq),(zgr F G).1 h]
  ·intro h;injection h with h1 h2
   subst h1;rw [zaf.2 rfl,bc_t];exact (zgr F G).2 h2
namespace RSfo
noncomputable def ct:Tr ZCC:=Tr.nil.put 68 (some (dC spRSin))
theorem ct_ok:ZCtsOk Try.prog ct:=(ZCtsOk.nil _).add rfl zn5
noncomputable abbrev ll (A:List (List U)):EV:=.lst (.recs [.list [.int .i64]] A)
noncomputable def RUN (s:ES):ZF:=RZ 25 ct (atS 0 25 4) [] [[(0,none),(1,none),(5,none)]] false s
noncomputable def sS (A B:List (List U)) (i:Int):NS:=⟨[⟨25,27,[(0,(EV.lst (SyC.recs [(Sh.list [(Sh.int IntKind.i64)])] A))),(1,(EV.lst (SyC.recs [(Sh.list [(Sh.int IntKind.i64)])] B))),(5,iv i)],[.it (.code (nav [1,1,0,1,0,0,0] (bodyOf Try.f25))),.it (.code (nav [1,1,0,1,0,0,1] (bodyOf Try.f25))),.it (.inLoop (nav [1,1,0,1,0,0] (bodyOf Try.f25))),.it (.inBlock 0),.it (.code (nav [1,1,1] (bodyOf Try.f25)))],[],Option.none⟩],[],0⟩
theorem in_t (A B:List (List U)):RUN (st0 25 [ll A,ll B])=(bc (Int.ofNat A.length != Int.ofNat B.length) (.done (bv false) [] 0) (.at (sS A B 0))):=by kernel_rfl
theorem step_t (A B:List (List U)) (i:Int):RUN (stOf (sS A B i))=(bc (decide (i<Int.ofNat A.length)) (bc (bc (bc (bc (bc (decide (0≤i)) (Nat.blt i.toNat A.length) false) true false) (bc (bc (Nat.blt i.toNat A.length) true false) (bc (bc (bc (decide (0≤i)) (Nat.blt i.toNat B.length) false) true false) (bc (bc (Nat.blt i.toNat B.length) true false) (bc (bc (decide ((List.map (fun r=>U.int (List.headD r (U.i 0))) (U.list ((A.getD i.toNat []).getD 0 (U.i 0)))).length≤100000)) true false) true false) false) false) false) false) true false) (bc (!eqLI (List.map (fun r=>U.int (List.headD r (U.i 0))) (U.list ((A.getD i.toNat []).getD 0 (U.i 0)))) (List.map (fun r=>U.int (List.headD r (U.i 0))) (U.list ((B.getD i.toNat []).getD 0 (U.i 0))))) (.done (bv false) [] 0) (.at (sS A B (IntKind.i64.wrap (i+1))))) .bad) (.done (bv true) [] 0)):=by kernel_rfl
theorem loop {A B:List (List U)} (hl:A.length=B.length) (hz:Shrt A):∀ (k i:Nat),i+k=A.length→EndZ 25 ct false (stOf (sS A B i)) (bv (sfB (A.drop i) (B.drop i))) [] 0
 | 0,i,h=>by
  have hs:=step_t A B i;have hz1:=hz.1;rw [List.drop_eq_nil_of_le (by omega),List.drop_eq_nil_of_le (by omega)];simp (disch:=omega) only [yS] at hs;exact .done hs
 | k+1,i,h=>by
  have hi:i<A.length:=by omega
  have hi2:i<B.length:=by omega
  have hz1:=hz.1;have hs:=step_t A B i;have e1:A.getD i []=A[i]:=zao hi;have e2:B.getD i []=B[i]:=zao hi2;have f1:∀ r:List U,List.map (fun r=>U.int (List.headD r (U.i 0))) (U.list (List.getD r 0 (U.i 0)))=facR r:=fun _=>rfl;rw [zkz,e1,e2,f1,f1,dt (hz.2 _ (List.getElem_mem hi))] at hs;rw [List.drop_eq_getElem_cons hi,List.drop_eq_getElem_cons hi2];unfold sfB
  simp (disch:=omega) only [yS] at hs
  cases hq:eqLI (facR A[i]) (facR B[i]) with
  | false=>rw [hq] at hs;exact .done hs
  | true=>rw [hq] at hs;exact .at ct_ok hs (loop hl hz k (i+1) (by omega))
theorem ends {A B:List (List U)} (hz:Shrt A):EndZ 25 ct false (st0 25 [ll A,ll B]) (bv (sfB A B)) [] 0:=by
 have h:=in_t A B
 by_cases hl:A.length=B.length
 ·have e:(Int.ofNat A.length != Int.ofNat B.length)=false:=by simp [hl]
  rw [e,bc_f] at h;exact .at ct_ok h (loop hl hz A.length 0 (by omega))
 ·have e:(Int.ofNat A.length != Int.ofNat B.length)=true:=by simp;omega
  rw [e,bc_t] at h;rw [zom hl];exact .done h
theorem shrt_enc {n:Nat} (hn:n≤100) {F:List (Pm n)} (hF:F.length≤5000):Shrt (encR F):=⟨by rw [zbe];exact hF,fun r hr=>by
 obtain ⟨p,_,rfl⟩:=List.mem_map.1 hr;rw [zcf,zag];omega⟩
end RSfo
noncomputable def spRSfo:ZCT:=fun ax=>match ax with
 | [.lst (.recs [.list [.int .i64]] A),.lst (.recs [.list [.int .i64]] B)]=>some ⟨decide (Shrt A),bv (sfB A B),[],0⟩
 | _=>none
theorem zn6:ZCtOk Try.prog 25 spRSfo:=fun γ w us ax r hs hc hax hN hfz=>by
 unfold spRSfo at hs;split at hs
 case h_2=>cases hs
 rename_i A B;obtain ⟨rfl⟩:=Option.some.inj hs;have hc_0:decide (Shrt A)=true:=hc;have hc:=of_decide_eq_true hc_0;exact EndZ.calls (RSfo.ends hc) RSfo.ct_ok (by kernel_rfl) hax hN hfz
theorem zry {s:ES} (n:Int) (h:RZ 130 RNrm.ct (fun _=>false) [] [] false s=bc (chk n [] != 0) (.done (.tup [iv 0,.v (.slice none 0 0),iv (chk n [])]) [] 0) (.done (.tup [iv 0,.v (.slice none 0 0),iv 0]) [] 0)):EndZ 130 RNrm.ct false s (.tup [iv (RNrm.npw n []),.lst (.recs [.list [.int .i64]] (RNrm.npF n [])),iv (chk n [])]) [] 0:=by
 unfold RNrm.npw RNrm.npF
 by_cases z:chk n []=0
 ·rw [z,show ((0:Int) != 0)=false from rfl,bc_f] at h
  rw [z,show ((0:Int) != 0)=false from rfl,bc_f,bc_f]
  exact (EndZ.done h).weak (Weak.tup (.cons (Weak.refl _) (.cons (Weak.nil _) (.cons (Weak.refl _) .nil))))
 ·have b:(chk n [] != 0)=true:=by simp [z]
  rw [b,bc_t] at h;rw [b,bc_t,bc_t];exact (EndZ.done h).weak (Weak.tup (.cons (Weak.refl _) (.cons (Weak.nil _) (.cons (Weak.refl _) .nil))))
noncomputable def spRNrm_0:ZCT:=fun ax=>match ax with
 | [.v (.int .i64 n),.lst (.ints .i64 w)]=>some ⟨decide (True),.tup [iv (RNrm.npw n w),.lst (.recs [.list [.int .i64]] (RNrm.npF n w)),iv (chk n w)],[],0⟩
 | _=>none
theorem zjc:ZCtOk Try.prog 130 spRNrm_0:=fun γ w us ax r hs hc hax hN hfz=>by
 unfold spRNrm_0 at hs;split at hs
 case h_2=>cases hs
 rename_i n w;obtain ⟨rfl⟩:=Option.some.inj hs;have hc_0:decide (True)=true:=hc;have hc:=of_decide_eq_true hc_0;exact EndZ.calls (RNrm.ends n w) RNrm.ct_ok (by kernel_rfl) hax hN hfz
noncomputable def spRNrm_1:ZCT:=fun ax=>match ax with
 | [.v (.int .i64 n),.v (.slice none 0 0)]=>some ⟨decide (True),.tup [iv (RNrm.npw n []),.lst (.recs [.list [.int .i64]] (RNrm.npF n [])),iv (chk n [])],[],0⟩
 | _=>none
theorem zjb:ZCtOk Try.prog 130 spRNrm_1:=fun γ w us ax r hs hc hax hN hfz=>by
 unfold spRNrm_1 at hs;split at hs
 case h_2=>cases hs
 rename_i n;obtain ⟨rfl⟩:=Option.some.inj hs;have hc_0:decide (True)=true:=hc;have hc:=of_decide_eq_true hc_0;exact EndZ.calls (zry n (RNrm.nil_t n)) RNrm.ct_ok (by kernel_rfl) hax hN hfz
noncomputable def spRNrm:ZCT:=ZCT.or spRNrm_0 (spRNrm_1)
theorem zob:ZCtOk Try.prog 130 spRNrm:=zjc.or (zjb)
namespace RSam
noncomputable def ct:Tr ZCC:=((Tr.nil.put 45 (some (dC spRChk))).put 130 (some (dC spRNrm))).put 25 (some (dC spRSfo))
theorem ct_ok:ZCtsOk Try.prog ct:=(((ZCtsOk.nil _).add rfl zdw).add rfl zob).add rfl zn6
noncomputable def RUN (s:ES):ZF:=RZ 84 ct (fun _=>false) [] [] false s
theorem in_t (n:Int) (a b:List Int):RUN (st0 84 [iv n,il a,il b])=(bc (chk n a != 0) (bc (chk n a != 0) (.done (EV.tup [(bv false),(iv (chk n a))]) [] 0) (bc (RNrm.npw n a==RNrm.npw n b) (bc (bc (decide (Shrt (RNrm.npF n a))) true false) (.done (EV.tup [(bv (sfB (RNrm.npF n a) (RNrm.npF n b))),(iv (0))]) [] 0) .bad) (.done (EV.tup [(bv false),(iv (0))]) [] 0))) (bc (chk n b != 0) (.done (EV.tup [(bv false),(iv (chk n b))]) [] 0) (bc (RNrm.npw n a==RNrm.npw n b) (bc (bc (decide (Shrt (RNrm.npF n a))) true false) (.done (EV.tup [(bv (sfB (RNrm.npF n a) (RNrm.npF n b))),(iv (0))]) [] 0) .bad) (.done (EV.tup [(bv false),(iv (0))]) [] 0)))):=by kernel_rfl
theorem nil_t (n:Int) (a:List Int):RUN (st0 84 [iv n,il a,.v (.slice none 0 0)])=(bc (chk n a != 0) (bc (chk n a != 0) (.done (EV.tup [(bv false),(iv (chk n a))]) [] 0) (bc (RNrm.npw n a==RNrm.npw n []) (bc (bc (decide (Shrt (RNrm.npF n a))) true false) (.done (EV.tup [(bv (sfB (RNrm.npF n a) (RNrm.npF n []))),(iv (0))]) [] 0) .bad) (.done (EV.tup [(bv false),(iv (0))]) [] 0))) (bc (chk n [] != (0:Int)) (.done (EV.tup [(bv false),(iv (chk n []))]) [] 0) (bc (RNrm.npw n a==RNrm.npw n []) (bc (bc (decide (Shrt (RNrm.npF n a))) true false) (.done (EV.tup [(bv (sfB (RNrm.npF n a) (RNrm.npF n []))),(iv (0))]) [] 0) .bad) (.done (EV.tup [(bv false),(iv (0))]) [] 0)))):=by kernel_rfl
theorem core {n:Int} {a b:List Int} (z1:chk n a=0) (z2:chk n b=0):bc (RNrm.npw n a==RNrm.npw n b) (sfB (RNrm.npF n a) (RNrm.npF n b)) false=samB n a b∧samE n a b=0∧Shrt (RNrm.npF n a):=by
 have e1:samE n a b=0:=by unfold samE;rw [z1,z2];rfl
 obtain ⟨w1,_⟩:=zca z1;have h2:=w1.2.1;unfold samB;rw [e1,show ((0:Int) != 0)=false from rfl,bc_f]
 unfold RNrm.npw RNrm.npF;rw [z1,z2,show ((0:Int) != 0)=false from rfl,bc_f,bc_f,bc_f,bc_f]
 refine ⟨?_,rfl,RSfo.shrt_enc (by omega) (zg7 w1)⟩;unfold sameN
 by_cases h1:(nfW n.toNat a).pw=(nfW n.toNat b).pw
 ·rw [show ((nfW n.toNat a).pw==(nfW n.toNat b).pw)=true by simp [h1],bc_t]
  by_cases h2:(nfW n.toNat a).F=(nfW n.toNat b).F
  ·rw [(zgr _ _).2 h2];exact (decide_eq_true (Frm.ext h1 h2)).symm
  ·have:sfB (encR (nfW n.toNat a).F) (encR (nfW n.toNat b).F)=false:=by
    cases h:sfB (encR (nfW n.toNat a).F) (encR (nfW n.toNat b).F) with
    | false=>rfl
    | true=>exact absurd ((zgr _ _).1 h) h2
   rw [this];exact (decide_eq_false fun e=>h2 (by rw [e])).symm
 ·rw [show ((nfW n.toNat a).pw==(nfW n.toNat b).pw)=false by simp [h1],bc_f];exact (decide_eq_false fun e=>h1 (by rw [e])).symm
theorem fin {n:Int} {a b:List Int} {s:ES} (h:RUN s=bc (chk n a != 0)
  (bc (chk n a != 0) (.done (.tup [bv false,iv (chk n a)]) [] 0) (bc (RNrm.npw n a==RNrm.npw n b) (bc (bc (decide (Shrt (RNrm.npF n a))) true false) (.done (.tup [bv (sfB (RNrm.npF n a) (RNrm.npF n b)),iv 0]) [] 0) .bad) (.done (.tup [bv false,iv 0]) [] 0)))
  (bc (chk n b != 0) (.done (.tup [bv false,iv (chk n b)]) [] 0) (bc (RNrm.npw n a==RNrm.npw n b) (bc (bc (decide (Shrt (RNrm.npF n a))) true false) (.done (.tup [bv (sfB (RNrm.npF n a) (RNrm.npF n b)),iv 0]) [] 0) .bad) (.done (.tup [bv false,iv 0]) [] 0)))):EndZ 84 ct false s (.tup [bv (samB n a b),iv (samE n a b)]) [] 0:=by
 by_cases z1:chk n a=0
 ·rw [z1,show ((0:Int) != 0)=false from rfl,bc_f] at h
  by_cases z2:chk n b=0
  ·obtain ⟨h1,h2,h3⟩:=core z1 z2;rw [z2,show ((0:Int) != 0)=false from rfl,bc_f,dt h3] at h
   rw [h2,← h1]
   cases hq:(RNrm.npw n a==RNrm.npw n b) with
   | true=>rw [hq] at h;exact .done h
   | false=>rw [hq] at h;exact .done h
  ·have b2:(chk n b != 0)=true:=by simp [z2]
   have e1:samE n a b=chk n b:=by unfold samE;rw [z1];rfl
   rw [b2,bc_t] at h;unfold samB;rw [e1,b2,bc_t];exact .done h
 ·have b1:(chk n a != 0)=true:=by simp [z1]
  have e1:samE n a b=chk n a:=by unfold samE;rw [b1,bc_t]
  rw [b1,bc_t,bc_t] at h;unfold samB;rw [e1,b1,bc_t];exact .done h
end RSam
noncomputable def spRSam_0:ZCT:=fun ax=>match ax with
 | [.v (.int .i64 n),.lst (.ints .i64 a),.lst (.ints .i64 b)]=>some ⟨decide (True),.tup [bv (samB n a b),iv (samE n a b)],[],0⟩
 | _=>none
theorem zja:ZCtOk Try.prog 84 spRSam_0:=fun γ w us ax r hs hc hax hN hfz=>by
 unfold spRSam_0 at hs;split at hs
 case h_2=>cases hs
 rename_i n a b;obtain ⟨rfl⟩:=Option.some.inj hs;have hc_0:decide (True)=true:=hc;have hc:=of_decide_eq_true hc_0;exact EndZ.calls (RSam.fin (RSam.in_t n a b)) RSam.ct_ok (by kernel_rfl) hax hN hfz
noncomputable def spRSam_1:ZCT:=fun ax=>match ax with
 | [.v (.int .i64 n),.lst (.ints .i64 a),.v (.slice none 0 0)]=>some ⟨decide (True),.tup [bv (samB n a []),iv (samE n a [])],[],0⟩
 | _=>none
theorem zi9:ZCtOk Try.prog 84 spRSam_1:=fun γ w us ax r hs hc hax hN hfz=>by
 unfold spRSam_1 at hs;split at hs
 case h_2=>cases hs
 rename_i n a;obtain ⟨rfl⟩:=Option.some.inj hs;have hc_0:decide (True)=true:=hc;have hc:=of_decide_eq_true hc_0;exact EndZ.calls (RSam.fin (RSam.nil_t n a)) RSam.ct_ok (by kernel_rfl) hax hN hfz
noncomputable def spRSam:ZCT:=ZCT.or spRSam_0 (spRSam_1)
theorem zn7:ZCtOk Try.prog 84 spRSam:=zja.or (zi9)
section
variable {n:Nat}
namespace RSiz
noncomputable def RUN (s:ES):ZF:=RZ 61 .nil (fun _=>false) [] [] false s
theorem in_t (x:Int):RUN (st0 61 [iv x])=(.done (iv (if IntKind.i64.wrap ((0:Int)-x) > x then IntKind.i64.wrap ((0:Int)-x) else x)) [] 0):=by kernel_rfl
theorem ends {x:Int} (hx:-1000≤x∧x≤1000):EndZ 61 .nil false (st0 61 [iv x]) (iv (x.natAbs:Nat)) [] 0:=by
 have h:=in_t x;have e:(if IntKind.wrap IntKind.i64 (0-x) > x then IntKind.wrap IntKind.i64 (0-x) else x)=((x.natAbs:Nat):Int):=by
  rw [zac (0-x) (by omega) (by omega)];split <;> omega
 rw [e] at h;exact .done h
end RSiz
noncomputable def spSiz:ZCT:=fun ax=>match ax with
 | [.v (.int .i64 x)]=>some ⟨decide (-1000≤x∧x≤1000),iv (x.natAbs:Nat),[],0⟩
 | _=>none
theorem zrm:ZCtOk Try.prog 61 spSiz:=fun γ w us ax r hs hc hax hN hfz=>by
 unfold spSiz at hs;split at hs
 case h_2=>cases hs
 rename_i x;obtain ⟨rfl⟩:=Option.some.inj hs;have hc_0:decide (-1000≤x∧x≤1000)=true:=hc;have hc:=of_decide_eq_true hc_0;exact EndZ.calls (RSiz.ends hc) (.nil _) (by kernel_rfl) hax hN hfz
namespace RPrm
noncomputable def ct:Tr ZCC:=(Tr.nil.put 45 (some (dC spRChk))).put 61 (some (dC spSiz))
theorem ct_ok:ZCtsOk Try.prog ct:=((ZCtsOk.nil _).add rfl zdw).add rfl zrm
noncomputable def RUN (s:ES):ZF:=RZs 129 ct [(atS 1 85 3,[[(0,none),(3,some (1,3,.ints .i64 [])),(4,none)],[(1,none)]]),(atS 0 129 6,[[(1,none),(7,none),(8,none)]]),(atS 1 146 3,[[(0,none),(3,none),(4,none)],[]])] [] false s
noncomputable def sA (n:Int) (w q:List Int) (nn:Bool) (i:Int):NS:=⟨[⟨85,15,[(0,(iv n)),(3,EV.slO 0 1 q.length nn),(4,iv i)],[.it (.code (nav [1,1,0,1,0,0,0] (bodyOf Try.f85))),.it (.code (nav [1,1,0,1,0,0,1] (bodyOf Try.f85))),.it (.inLoop (nav [1,1,0,1,0,0] (bodyOf Try.f85))),.it (.inBlock 0),.it (.code (nav [1,1,1] (bodyOf Try.f85)))],[],Option.none⟩,⟨129,47,[(1,(il w))],[.ops (opsOf (nav [1,1,1,0] (bodyOf Try.f129))) ((opsOf (nav [1,1,1,0] (bodyOf Try.f129))).toList.drop 1),.it (.code (nav [1,1,1,1] (bodyOf Try.f129)))],[],Option.none⟩],[(0,EK.seq 3 (.ints .i64 q) nn)],1⟩
noncomputable def sB (w q:List Int) (m:Nat) (nn:Bool) (i:Int):NS:=⟨[⟨129,47,[(1,(il w)),(7,EV.slO 0 1 m nn),(8,iv i)],[.it (.code (nav [1,1,1,1,0,1,0,0,0] (bodyOf Try.f129))),.it (.code (nav [1,1,1,1,0,1,0,0,1] (bodyOf Try.f129))),.it (.inLoop (nav [1,1,1,1,0,1,0,0] (bodyOf Try.f129))),.it (.inBlock 0),.it (.code (nav [1,1,1,1,1] (bodyOf Try.f129)))],[],Option.none⟩],[(0,EK.seq 3 (.ints .i64 q) nn)],1⟩
noncomputable def sC (q d:List Int) (m k:Nat) (nn:Bool) (i:Int):NS:=⟨[⟨146,22,[(0,EV.slO 0 1 m nn),(3,EV.slO 1 1 k true),(4,iv i)],[.it (.code (nav [1,1,0,1,0,0,0] (bodyOf Try.f146))),.it (.code (nav [1,1,0,1,0,0,1] (bodyOf Try.f146))),.it (.inLoop (nav [1,1,0,1,0,0] (bodyOf Try.f146))),.it (.inBlock 0),.it (.code (nav [1,1,1] (bodyOf Try.f146)))],[],Option.none⟩,⟨129,47,[],[.ops (opsOf (nav [1,1,1,1,1,0] (bodyOf Try.f129))) ((opsOf (nav [1,1,1,1,1,0] (bodyOf Try.f129))).toList.drop 1),.it (.code (nav [1,1,0,1,0,1] (bodyOf Try.f129)))],[],Option.none⟩],[(0,EK.seq 3 (.ints .i64 q) nn),(1,EK.seq 3 (.ints .i64 d) true)],2⟩
theorem in_t (n:Int) (w:List Int):RUN (st0 129 [iv n,il w])=(bc (chk n w != 0) (.done (EV.tup [(EV.v (Value.slice Option.none 0 0)),(iv (chk n w))]) [] 0) (.at (sA n w [] false 0))):=by kernel_rfl
theorem a_t (n:Int) (w q:List Int) (nn:Bool) (i:Int):RUN (stOf (sA n w q nn i))=(bc (decide (i<n)) (bc (bc (Nat.beq q.length q.length) (bc (Nat.ble (q.length+([i]).length) 65536) (bc nn true (bc nn false true)) false) false) (.at (sA n w (q++[i]) (bc nn true (Nat.blt 0 ([i]).length)) (IntKind.i64.wrap (i+1)))) .bad) (.at (sB w q q.length nn 0))):=by kernel_rfl
theorem b_t (w q:List Int) (m:Nat) (nn:Bool) (i:Int):RUN (stOf (sB w q m nn i))=(bc (decide (i<Int.ofNat w.length)) (bc (bc (bc (decide (0≤i)) (Nat.blt i.toNat w.length) false) true false) (bc (bc (Nat.blt i.toNat w.length) true false) (bc (bc (decide ((-1000:Int)≤w.getD i.toNat 0∧w.getD i.toNat 0≤1000)) true false) (bc (bc (bc (bc (Nat.blt (Nat.cast (Int.natAbs (w.getD i.toNat 0)):Int).toNat m) true false) (bc (bc (Nat.blt (Nat.cast (Int.natAbs (w.getD i.toNat 0)):Int).toNat q.length) true false) (bc (bc (bc (decide (0≤IntKind.i64.wrap ((Nat.cast (Int.natAbs (w.getD i.toNat 0)):Int)-(1:Int)))) (Nat.blt (IntKind.i64.wrap ((Nat.cast (Int.natAbs (w.getD i.toNat 0)):Int)-(1:Int))).toNat m) false) true false) (bc (bc (Nat.blt (IntKind.i64.wrap ((Nat.cast (Int.natAbs (w.getD i.toNat 0)):Int)-(1:Int))).toNat q.length) true false) (bc (bc (bc (decide (0≤IntKind.i64.wrap ((Nat.cast (Int.natAbs (w.getD i.toNat 0)):Int)-(1:Int)))) (Nat.blt (IntKind.i64.wrap ((Nat.cast (Int.natAbs (w.getD i.toNat 0)):Int)-(1:Int))).toNat m) false) true false) (bc (Nat.blt (IntKind.i64.wrap ((Nat.cast (Int.natAbs (w.getD i.toNat 0)):Int)-(1:Int))).toNat q.length) (bc (bc (Nat.blt (Nat.cast (Int.natAbs (w.getD i.toNat 0)):Int).toNat m) true false) (bc (Nat.blt (Nat.cast (Int.natAbs (w.getD i.toNat 0)):Int).toNat (List.set q (IntKind.i64.wrap ((Nat.cast (Int.natAbs (w.getD i.toNat 0)):Int)-(1:Int))).toNat (q.getD (Nat.cast (Int.natAbs (w.getD i.toNat 0)):Int).toNat 0)).length) true false) false) false) false) false) false) false) false) true false) (.at (sB w (List.set (List.set q (IntKind.i64.wrap ((Nat.cast (Int.natAbs (w.getD i.toNat 0)):Int)-(1:Int))).toNat (q.getD (Nat.cast (Int.natAbs (w.getD i.toNat 0)):Int).toNat 0)) (Nat.cast (Int.natAbs (w.getD i.toNat 0)):Int).toNat (q.getD (IntKind.i64.wrap ((Nat.cast (Int.natAbs (w.getD i.toNat 0)):Int)-(1:Int))).toNat 0)) m nn (IntKind.i64.wrap (i+1)))) .bad) .bad) .bad) .bad) (bc (bc (decide (Int.ofNat m≤Int.ofNat m)) (decide (Int.ofNat m≤65536)) false) (.at (sC q (zerosL (Int.ofNat m).toNat) m (zerosL (Int.ofNat m).toNat).length nn 0)) .bad)):=by kernel_rfl
theorem c_t (q d:List Int) (m k:Nat) (nn:Bool) (i:Int):RUN (stOf (sC q d m k nn i))=(bc (decide (i<Int.ofNat m)) (bc (bc (bc (decide (0≤i)) (Nat.blt i.toNat m) false) true false) (bc (bc (Nat.blt i.toNat q.length) true false) (bc (bc (bc (decide (0≤q.getD i.toNat 0)) (Nat.blt (q.getD i.toNat 0).toNat k) false) true false) (bc (Nat.blt (q.getD i.toNat 0).toNat d.length) (.at (sC q (List.set d (q.getD i.toNat 0).toNat i) m k nn (IntKind.i64.wrap (i+1)))) .bad) .bad) .bad) .bad) (bc (bc (Nat.beq k d.length) true false) (.done (EV.tup [(il d),(iv (0))]) [] 0) .bad)):=by kernel_rfl
theorem stepA {w:List Int} {nn:Bool} {i:Nat} (hn:n≤100) (hi:i<n):RUN (stOf (sA n w (RLin.rng i) nn i)) = .at (sA n w (RLin.rng (i+1)) true (i+1:Nat)):=by
 rw [a_t];have m1:[(i:Int)]=[(i:Int)]:=rfl;rw [m1,RLin.rng_succ,RLin.rng_len,nn_ok,List.length_singleton];have e1:bc nn true (Nat.blt 0 1)=true:=by cases nn <;> rfl
 simp (disch:=omega) only [yS,e1];rfl
theorem stepB {w:List Int} {p:Pm n} {nn:Bool} {i:Nat} {x:Int} (hi:i<w.length) (hn:n≤12) (hw:w.length≤2000) (hx:w.getD i 0=x) (hk:0<x.natAbs∧x.natAbs<n):RUN (stOf (sB w (pR p) n nn i)) = .at (sB w (pR (p.L x.natAbs hk)) n nn (i+1:Nat)):=by
 obtain ⟨h1,h2⟩:=hk;have hb:-1000≤x∧x≤1000:=by omega
 rw [b_t];have e0:((i:Int)).toNat=i:=rfl;rw [e0,hx,dt hb];obtain ⟨j,hj⟩:∃ j,x.natAbs=j+1:=⟨x.natAbs-1,by omega⟩;have g0:((pR p).set j (p.f (j+1):Int)).set (j+1) (p.f j:Int)=pR (p.L x.natAbs ⟨h1,h2⟩):=by
  rw [← pR_L p ⟨h1,h2⟩];simp only [hj,Nat.add_sub_cancel]
 have e1:((j:Int)).toNat=j:=rfl;have e2:(((j+1:Nat):Int)).toNat=j+1:=rfl;have w1:IntKind.i64.wrap (((j+1:Nat):Int)-1)=(j:Int):=by rw [zac _ (by omega) (by omega)];omega
 have hl:=zag p;have hl2:((pR p).set j (p.f (j+1):Int)).length=n:=by rw [List.length_set,hl]
 rw [← g0,hj,w1,e1,e2,zau p (show j+1<n by omega),zau p (show j<n by omega),hl];simp (disch:=omega) only [yS,hl2];rfl
theorem midB {w:List Int} {p:Pm n} {nn:Bool} (hn:n≤12):RUN (stOf (sB w (pR p) n nn w.length)) = .at (sC (pR p) (zerosL n) n n nn 0):=by
 rw [b_t,df (show ¬ (w.length:Int)<Int.ofNat w.length by rw [ofn];omega),bc_f];have e0:(Int.ofNat n).toNat=n:=rfl;rw [e0,zm5];simp (disch:=omega) only [yS]
theorem stepC {p:Pm n} {nn:Bool} {i:Nat} (hi:i<n) (hn:n≤12):RUN (stOf (sC (pR p) (endS (pR p) i) n n nn i)) = .at (sC (pR p) (endS (pR p) (i+1)) n n nn (i+1:Nat)):=by
 have e0:((i:Int)).toNat=i:=rfl;have hl:=zag p;have hd:=zdf (pR p) i;have hf:=p.lt hi;have e1:(p.f i:Int).toNat=p.f i:=rfl;rw [c_t,e0,zau p hi,e1,hd,hl];have e2:(endS (pR p) i).set (p.f i) (i:Int)=endS (pR p) (i+1):=by
  show _=(endS (pR p) i).set ((pR p).getD i 0).toNat (i:Int);rw [zau p hi];rfl
 rw [e2];simp (disch:=omega) only [yS];rfl
theorem loopC {p:Pm n} {nn:Bool} (hn:n≤12):∀ (k i:Nat),i+k=n→EndZ 129 ct false (stOf (sC (pR p) (endS (pR p) i) n n nn i)) (.tup [il (pR p.inv),iv 0]) [] 0
 | 0,i,h=>by
  obtain rfl:i=n:=by omega
  have hs:=c_t (pR p) (endS (pR p) i) i i nn i;have hd:=zdf (pR p) i;rw [df (show ¬ (i:Int)<Int.ofNat i by rw [ofn];omega),bc_f,hd,zag,zkf] at hs;simp (disch:=omega) only [yS] at hs;rw [zkf];exact .done hs
 | k+1,i,h=>.at ct_ok (stepC (by omega) hn) (loopC hn k (i+1) (by omega))
theorem loopB {w:List Int} {nn:Bool} (hn:n≤12) (hw:w.length≤2000) (h:Vld n w):∀ (k i:Nat),i+k=w.length→EndZ 129 ct false (stOf (sB w (pR (lnP n (w.take i))) n nn i)) (.tup [il (prmL n w),iv 0]) [] 0
 | 0,i,hi=>by
  obtain rfl:i=w.length:=by omega
  rw [List.take_length];have e:pR (lnP n w).inv=prmL n w:=by
   unfold pR prmL;exact List.map_congr_left fun x _=>congrArg (fun y:Nat=>(y:Int)) (lnP_g h x)
  rw [← e];refine .at ct_ok (midB hn) ?_;have:=loopC (p:=lnP n w) (nn:=nn) hn n 0 (by omega);rw [show endS (pR (lnP n w)) 0=zerosL n by unfold endS;rw [zag]] at this;exact this
 | k+1,i,hi=>by
  have hi2:i<w.length:=by omega
  have hk:0<(w.getD i 0).natAbs∧(w.getD i 0).natAbs<n:=(show Vld n [w.getD i 0] from fun x hx=>by
   rw [List.mem_singleton.1 hx,zao hi2];exact h _ (List.getElem_mem _)).head
  have h1:=stepB (p:=lnP n (w.take i)) (nn:=nn) hi2 hn hw rfl hk;have e:lnP n (w.take (i+1))=(lnP n (w.take i)).L (w.getD i 0).natAbs hk:=by
   rw [List.take_succ_eq_append_getElem hi2,zuw,← zao hi2];unfold swP;rw [dif_pos hk]
  rw [← e] at h1;exact .at ct_ok h1 (loopB hn hw h k (i+1) (by omega))
theorem loopA {w:List Int} (hn:n≤12) (hw:w.length≤2000) (h:Vld n w):∀ (k i:Nat) (nn:Bool),i+k=n→EndZ 129 ct false (stOf (sA n w (RLin.rng i) nn i)) (.tup [il (prmL n w),iv 0]) [] 0
 | 0,i,nn,hi=>by
  obtain rfl:i=n:=by omega
  have h1:=a_t i w (RLin.rng i) nn i;rw [df (show ¬ (i:Int)<(i:Int) by omega),bc_f,RLin.rng_len] at h1;have h2:=loopB (nn:=nn) hn hw h w.length 0 (by omega);exact .at ct_ok h1 h2
 | k+1,i,nn,hi=>.at ct_ok (stepA (by omega) (by omega)) (loopA hn hw h k (i+1) true (by omega))
theorem ends (n:Int) (w:List Int):EndZ 129 ct false (st0 129 [iv n,il w]) (resL (chk n w) (prmL n.toNat w)) [] 0:=by
 have h:=in_t n w
 by_cases z:chk n w=0
 ·obtain ⟨⟨w0,w1,w2,w3⟩,_⟩:=zca z;obtain ⟨n,rfl⟩:=Int.eq_ofNat_of_zero_le (show 0≤n by omega);rw [z,show ((0:Int) != 0)=false from rfl,bc_f] at h
  rw [zug _ z];exact .at ct_ok h (loopA (by omega) w2 w3 n 0 false (by omega))
 ·rw [show (chk n w != 0)=true by simp [z],bc_t] at h;exact (EndZ.done h).weak (zbz _ z)
end RPrm
noncomputable def spRPrm:ZCT:=fun ax=>match ax with
 | [.v (.int .i64 n),.lst (.ints .i64 w)]=>some ⟨decide True,resL (chk n w) (prmL n.toNat w),[],0⟩
 | _=>none
theorem zn9:ZCtOk Try.prog 129 spRPrm:=fun γ w us ax r hs hc hax hN hfz=>by
 unfold spRPrm at hs;split at hs
 case h_2=>cases hs
 rename_i n w;obtain ⟨rfl⟩:=Option.some.inj hs;have hc_0:decide True=true:=hc;have hc:=of_decide_eq_true hc_0;exact EndZ.calls (RPrm.ends n w) RPrm.ct_ok (by kernel_rfl) hax hN hfz
namespace RDrp
noncomputable def RUN (s:ES):ZF:=RZ 128 RPrm.ct (atS 0 128 4) [] [[(1,none),(7,some (1,3,.ints .i64 [])),(8,none),(9,none)]] false s
noncomputable def sL (w q:List Int) (nn:Bool) (p i:Int):NS:=⟨[⟨128,62,[(1,(il w)),(7,EV.slO 0 1 q.length nn),(8,iv p),(9,iv i)],[.it (.code (nav [1,1,1,0,1,0,0,0] (bodyOf Try.f128))),.it (.code (nav [1,1,1,0,1,0,0,1] (bodyOf Try.f128))),.it (.inLoop (nav [1,1,1,0,1,0,0] (bodyOf Try.f128))),.it (.inBlock 0),.it (.code (nav [1,1,1,1] (bodyOf Try.f128)))],[],Option.none⟩],[(0,EK.seq 3 (.ints .i64 q) nn)],1⟩
theorem in_t (n:Int) (w:List Int) (p:Int):RUN (st0 128 [iv n,il w,iv p])=(.at (sL w [] false p 0)):=by kernel_rfl
theorem l_t (w q:List Int) (nn:Bool) (p i:Int):RUN (stOf (sL w q nn p i))=(bc (decide (i<Int.ofNat w.length)) (bc (bc (bc (decide (0≤i)) (Nat.blt i.toNat w.length) false) true false) (bc (bc (Nat.blt i.toNat w.length) true false) (bc (bc (decide ((-1000:Int)≤w.getD i.toNat 0∧w.getD i.toNat 0≤1000)) true false) (bc (bc (bc (decide (0≤i)) (Nat.blt i.toNat w.length) false) true false) (bc (bc (Nat.blt i.toNat w.length) true false) (bc (bc (bnot ((Nat.cast (Int.natAbs (w.getD i.toNat 0)):Int)==0)) true false) (bc (p==IntKind.i64.wrap ((Nat.cast (Int.natAbs (w.getD i.toNat 0)):Int)-(1:Int))) (.at (sL w q nn ((Nat.cast (Int.natAbs (w.getD i.toNat 0)):Int)) (IntKind.i64.wrap (i+1)))) (bc (p==(Nat.cast (Int.natAbs (w.getD i.toNat 0)):Int)) (.at (sL w q nn (IntKind.i64.wrap ((Nat.cast (Int.natAbs (w.getD i.toNat 0)):Int)-(1:Int))) (IntKind.i64.wrap (i+1)))) (bc (decide (p<IntKind.i64.wrap ((Nat.cast (Int.natAbs (w.getD i.toNat 0)):Int)-(1:Int)))) (bc (bc (Nat.beq q.length q.length) (bc (Nat.ble (q.length+([IntKind.i64.wrap (IntKind.i64.wrap (Int.tdiv (w.getD i.toNat 0) (Nat.cast (Int.natAbs (w.getD i.toNat 0)):Int))*IntKind.i64.wrap ((Nat.cast (Int.natAbs (w.getD i.toNat 0)):Int)-(1:Int)))]).length) 65536) (bc nn true (bc nn false true)) false) false) (.at (sL w (q++[IntKind.i64.wrap (IntKind.i64.wrap (Int.tdiv (w.getD i.toNat 0) (Nat.cast (Int.natAbs (w.getD i.toNat 0)):Int))*IntKind.i64.wrap ((Nat.cast (Int.natAbs (w.getD i.toNat 0)):Int)-(1:Int)))]) (bc nn true (Nat.blt 0 ([IntKind.i64.wrap (IntKind.i64.wrap (Int.tdiv (w.getD i.toNat 0) (Nat.cast (Int.natAbs (w.getD i.toNat 0)):Int))*IntKind.i64.wrap ((Nat.cast (Int.natAbs (w.getD i.toNat 0)):Int)-(1:Int)))]).length)) p (IntKind.i64.wrap (i+1)))) .bad) (bc (bc (bc (decide (0≤i)) (Nat.blt i.toNat w.length) false) true false) (bc (bc (Nat.blt i.toNat w.length) true false) (bc (bc (Nat.beq q.length q.length) (bc (Nat.ble (q.length+([w.getD i.toNat 0]).length) 65536) (bc nn true (bc nn false true)) false) false) (.at (sL w (q++[w.getD i.toNat 0]) (bc nn true (Nat.blt 0 ([w.getD i.toNat 0]).length)) p (IntKind.i64.wrap (i+1)))) .bad) .bad) .bad)))) .bad) .bad) .bad) .bad) .bad) .bad) (bc (Nat.beq q.length q.length) (.done (il q) [] 0) .bad)):=by kernel_rfl
theorem step {w q:List Int} {nn:Bool} {p i j:Nat} {x:Int} (hi:i<w.length) (hx:w.getD i 0=x) (hj:x.natAbs=j+1) (hn:j≤11) (hp:p≤12) (hw:w.length≤2000) (hq:q.length≤i) (hnn:nn=true∨q=[]):∃ nn',RUN (stOf (sL w q nn p i)) = .at (sL w (q++(POth.othS p x).1) nn' ((POth.othS p x).2:Nat) (i+1:Nat))∧(nn'=true∨q++(POth.othS p x).1=[]):=by
 have e0:((i:Int)).toNat=i:=rfl;have hb:-1000≤x∧x≤1000:=by omega
 have w1:IntKind.i64.wrap (((j+1:Nat):Int)-1)=(j:Int):=by rw [zac _ (by omega) (by omega)];omega
 have hv:IntKind.i64.wrap (IntKind.i64.wrap (Int.tdiv x ((j+1:Nat):Int))*(j:Int))=lowL x:=by
  unfold lowL
  by_cases h:x<0
  ·obtain rfl:x = -((j+1:Nat):Int):=by omega
   rw [Int.neg_tdiv,Int.tdiv_self (by omega),if_pos h,show IntKind.i64.wrap (-1) = -1 from rfl,zac _ (by omega) (by omega)]
   omega
  ·obtain rfl:x=((j+1:Nat):Int):=by omega
   rw [Int.tdiv_self (by omega),if_neg h,show IntKind.i64.wrap 1=1 from rfl,zac _ (by omega) (by omega)]
   omega
 have hb1:∀ v:Int,bc nn true (Nat.blt 0 (List.length [v]))=true:=fun v=>by cases nn <;> rfl
 have hb2:bc nn true (bc nn false true)=true:=by cases nn <;> rfl
 have m3:∀ v:Int,[v]=[v]:=fun v=>rfl;have z:bnot ((((j+1:Nat):Int))==0)=true:=by
  rw [show ((((j+1:Nat):Int)==0)=false) by simp;omega];rfl
 rw [l_t,e0,hx,dt hb,hj,w1,hv,m3,m3,hb1,hb1,hb2,z];unfold POth.othS;rw [hj]
 by_cases c1:p=j
 ·subst c1;refine ⟨nn,?_,?_⟩
  ·rw [show (((p:Int)==(p:Int))=true) by simp,if_pos (.inl rfl),List.append_nil,show sw (p+1) p=p+1 by unfold sw;rw [if_neg (by omega),if_pos rfl]];simp (disch:=omega) only [yS];rfl
  ·rw [if_pos (.inl rfl),List.append_nil];exact hnn
 ·rw [show (((p:Int)==(j:Int))=false) by simp;omega]
  by_cases c2:p=j+1
  ·subst c2;refine ⟨nn,?_,?_⟩
   ·rw [show ((((j+1:Nat):Int)==((j+1:Nat):Int))=true) by simp,if_pos (.inr rfl),List.append_nil,show sw (j+1) (j+1)=j by unfold sw;rw [if_pos rfl];omega];simp (disch:=omega) only [yS];rfl
   ·rw [if_pos (.inr rfl),List.append_nil];exact hnn
  ·rw [show (((p:Int)==((j+1:Nat):Int))=false) by simp;omega,if_neg (show ¬ (p+1=j+1∨p=j+1) by omega)];refine ⟨true,?_,.inl ?_⟩
   ·by_cases c3:p<j+1
    ·rw [if_pos c3,dt (show (p:Int)<(j:Int) by omega)];simp (disch:=omega) only [yS];rfl
    ·rw [if_neg c3,df (show ¬ (p:Int)<(j:Int) by omega)];simp (disch:=omega) only [yS];rfl
   ·rfl
theorem last {w q:List Int} {nn:Bool} {p:Nat}:RUN (stOf (sL w q nn p w.length)) = .done (il q) [] 0:=by
 rw [l_t,df (show ¬ (w.length:Int)<Int.ofNat w.length by rw [ofn];omega),bc_f];simp only [yS]
theorem loop {w:List Int} (hn:n≤12) (hw:w.length≤2000) (h:Vld n w):∀ (k i:Nat) (q:List Int) (nn:Bool) (p:Nat),i+k=w.length→p<n→q.length≤i→(nn=true∨q=[])→EndZ 128 RPrm.ct false (stOf (sL w q nn p i)) (il (q++(oth p (w.drop i)).1)) [] 0
 | 0,i,q,nn,p,hi,hp,hq,hnn=>by
  obtain rfl:i=w.length:=by omega
  rw [List.drop_length,show oth p []=([],p) from rfl,List.append_nil]
  exact .done last
 | k+1,i,q,nn,p,hi,hp,hq,hnn=>by
  have hi2:i<w.length:=by omega
  have hk:0<(w.getD i 0).natAbs∧(w.getD i 0).natAbs<n:=(show Vld n [w.getD i 0] from fun x hx=>by
   rw [List.mem_singleton.1 hx,zao hi2];exact h _ (List.getElem_mem _)).head
  obtain ⟨nn',h1,h2⟩:=step (p:=p) hi2 rfl (show (w.getD i 0).natAbs=(w.getD i 0).natAbs-1+1 by omega) (by omega) (by omega) hw hq hnn;rw [List.drop_eq_getElem_cons hi2,POth.oth_S,← zao hi2,← List.append_assoc];refine .at RPrm.ct_ok h1 (loop hn hw h k (i+1) _ nn' _ (by omega) (POth.othS_lt hk hp) ?_ h2);rw [List.length_append];have:(POth.othS p (w.getD i 0)).1.length≤1:=by
   unfold POth.othS;split
   ·exact Nat.zero_le _
   ·split <;> exact Nat.le_refl _
  omega
end RDrp
noncomputable def spRDro:ZCT:=fun ax=>match ax with
 | [.v (.int .i64 n),.lst (.ints .i64 w),.v (.int .i64 p)]=>some ⟨decide (OthOk w p),il (oth p.toNat w).1,[],0⟩
 | _=>none
theorem zog:ZCtOk Try.prog 128 spRDro:=fun γ w us ax r hs hc hax hN hfz=>by
 unfold spRDro at hs;split at hs
 case h_2=>cases hs
 rename_i n w p;obtain ⟨rfl⟩:=Option.some.inj hs;have hc_0:decide (OthOk w p)=true:=hc;have hc:=of_decide_eq_true hc_0;exact EndZ.calls (by
  obtain ⟨h1,h2,h3,h4⟩:=hc;obtain ⟨p,rfl⟩:=Int.eq_ofNat_of_zero_le h3;exact .at RPrm.ct_ok (RDrp.in_t n w p) (RDrp.loop (Nat.le_refl _) h1 h2 w.length 0 [] false p (by omega) (by omega) (Nat.zero_le _) (.inr rfl))) RPrm.ct_ok (by kernel_rfl) hax hN hfz
end
section
variable {n:Nat}
namespace RDpp
noncomputable def ct:Tr ZCC:=((Tr.nil.put 45 (some (dC spRChk))).put 128 (some (dC spRDro))).put 129 (some (dC spRPrm))
theorem ct_ok:ZCtsOk Try.prog ct:=(((ZCtsOk.nil _).add rfl zdw).add rfl zog).add rfl zn9
end RDpp
namespace RLay
noncomputable def RUN (s:ES):ZF:=RZs 83 RDpp.ct [(atS 0 83 11,[[(0,none),(1,none),(2,none),(11,none),(12,some (1,3,.ints .i64 [])),(13,none)]]),(atS 0 83 17,[[(2,none),(11,none),(12,none),(14,none),(16,none)]])] [] false s
noncomputable def sA (n:Int) (w:List Int) (p s:Int) (q:List Int) (nn:Bool) (k:Int):NS:=⟨[⟨83,77,[(0,(iv n)),(1,(il w)),(2,iv p),(11,iv s),(12,EV.slO 0 1 q.length nn),(13,iv k)],[.it (.code (nav [1,1,1,1,1,1,1,0,1,0,0,0] (bodyOf Try.f83))),.it (.code (nav [1,1,1,1,1,1,1,0,1,0,0,1] (bodyOf Try.f83))),.it (.inLoop (nav [1,1,1,1,1,1,1,0,1,0,0] (bodyOf Try.f83))),.it (.inBlock 0),.it (.code (nav [1,1,1,1,1,1,1,1] (bodyOf Try.f83)))],[],Option.none⟩],[(0,EK.seq 3 (.ints .i64 q) nn)],1⟩
noncomputable def sB (p s:Int) (q:List Int) (nn:Bool) (l:List Int) (k:Int):NS:=⟨[⟨83,77,[(2,iv p),(11,iv s),(12,EV.slO 0 1 q.length nn),(14,il l),(16,iv k)],[.it (.code (nav [1,1,1,1,1,1,1,1,1,1,0,1,0,0,0] (bodyOf Try.f83))),.it (.code (nav [1,1,1,1,1,1,1,1,1,1,0,1,0,0,1] (bodyOf Try.f83))),.it (.inLoop (nav [1,1,1,1,1,1,1,1,1,1,0,1,0,0] (bodyOf Try.f83))),.it (.inBlock 2),.it (.code (nav [1,1,1,1,1,1,1,1,1,1,1] (bodyOf Try.f83)))],[],Option.none⟩],[(0,EK.seq 3 (.ints .i64 q) nn)],1⟩
theorem in_t (n:Int) (w:List Int) (p:Int) (a:Bool):RUN (st0 83 [iv n,il w,iv p,bv a])=(bc (chk n w != 0) (.done (EV.tup [(EV.v (Value.slice Option.none 0 0)),(iv (chk n w))]) [] 0) (bc (decide (p<0)) (.done (EV.tup [(EV.v (Value.slice Option.none 0 0)),(iv (7))]) [] 0) (bc (decide (n≤p)) (.done (EV.tup [(EV.v (Value.slice Option.none 0 0)),(iv (7))]) [] 0) (bc a (.at (sA n w p 1 [] false (IntKind.i64.wrap (p+1)))) (.at (sA n w p ((-1:Int)) [] false (IntKind.i64.wrap (p+1)))))))):=by kernel_rfl
theorem a_t (n:Int) (w:List Int) (p s:Int) (q:List Int) (nn:Bool) (k:Int):RUN (stOf (sA n w p s q nn k))=(bc (decide (k<n)) (bc (bc (Nat.beq q.length q.length) (bc (Nat.ble (q.length+([IntKind.i64.wrap (s*k)]).length) 65536) (bc nn true (bc nn false true)) false) false) (.at (sA n w p s (q++[IntKind.i64.wrap (s*k)]) (bc nn true (Nat.blt 0 ([IntKind.i64.wrap (s*k)]).length)) (IntKind.i64.wrap (k+1)))) .bad) (bc (decide (OthOk w p)) (bc (bc (Nat.beq q.length q.length) (bc (Nat.ble (q.length+(Prod.fst (oth p.toNat w)).length) 65536) (bc nn true (bc nn false true)) false) false) (.at (sB p s (q++Prod.fst (oth p.toNat w)) (bc nn true (Nat.blt 0 (Prod.fst (oth p.toNat w)).length)) (bc (chk n w != 0) [] (prmL n.toNat w)) (IntKind.i64.wrap (n-(1:Int))))) .bad) .bad)):=by kernel_rfl
theorem b_t (p s:Int) (q:List Int) (nn:Bool) (l:List Int) (k:Int):RUN (stOf (sB p s q nn l k))=(bc (bc (bc (decide (0≤p)) (Nat.blt p.toNat l.length) false) true false) (bc (bc (Nat.blt p.toNat l.length) true false) (bc (decide (l.getD p.toNat 0<k)) (bc (bc (Nat.beq q.length q.length) (bc (Nat.ble (q.length+([IntKind.i64.wrap (IntKind.i64.wrap ((0:Int)-s)*k)]).length) 65536) (bc nn true (bc nn false true)) false) false) (.at (sB p s (q++[IntKind.i64.wrap (IntKind.i64.wrap ((0:Int)-s)*k)]) (bc nn true (Nat.blt 0 ([IntKind.i64.wrap (IntKind.i64.wrap ((0:Int)-s)*k)]).length)) l (IntKind.i64.wrap (k-(1:Int))))) .bad) (bc (decide (400<Int.ofNat q.length)) (.done (EV.tup [(EV.v (Value.slice Option.none 0 0)),(iv (3))]) [] 0) (bc (bc (Nat.beq q.length q.length) true false) (.done (EV.tup [(il q),(iv (0))]) [] 0) .bad))) .bad) .bad):=by kernel_rfl
open PLay in
theorem stepA {w q:List Int} {p s:Int} {nn:Bool} {k:Nat} (hs:s=1∨s = -1) (hk:k<n) (hn:n≤12) (hq:q.length≤20):RUN (stOf (sA n w p s q nn k)) = .at (sA n w p s (q++[s*(k:Int)]) true (k+1:Nat)):=by
 rw [a_t,dt (show (k:Int)<n by omega),bc_t,m3,wsg hs (by omega) (by omega),hb,hb2];simp (disch:=omega) only [yS];rfl
open PLay in
theorem midA {w q:List Int} {p s:Int} {nn:Bool} {k:Nat} (hk:n≤k) (hw:w.length≤2000) (hn1:1≤n) (hn:n≤12) (hq:q.length≤20) (hp:OthOk w p) (z:chk n w=0):RUN (stOf (sA n w p s q nn k)) = .at (sB p s (q++(oth p.toNat w).1) (bc nn true (Nat.blt 0 (oth p.toNat w).1.length)) (prmL n w) ((n:Int)-1)):=by
 have h1:=zdm w p.toNat;rw [a_t,df (show ¬ (k:Int)<n by omega),bc_f,dt hp,bc_t,hb2,zac ((n:Int)-1) (by omega) (by omega),z,show ((0:Int) != 0)=false from rfl]
 simp (disch:=omega) only [yS]
theorem zo0 {w:List Int} {p:Nat} (hp:p<n):(prmL n w).getD p 0=((gW w p:Nat):Int):=by
 unfold prmL;rw [List.getD_eq_getElem?_getD,List.getElem?_map,List.getElem?_range hp];rfl
open PLay in
theorem stepB {w q:List Int} {s:Int} {nn:Bool} {p k:Nat} (hs:s=1∨s = -1) (hp:p<n) (hk:gW w p<k) (hk2:k≤20) (hq:q.length≤3000):RUN (stOf (sB p s q nn (prmL n w) k)) = .at (sB p s (q++[-s*(k:Int)]) true (prmL n w) ((k:Int)-1)):=by
 have e0:Int.toNat (p:Int)=p:=rfl;rw [b_t,e0,zo0 hp,zlc,dt (show ((gW w p:Nat):Int)<(k:Int) by omega),m3,wsn hs,wsg (zpa hs) (by omega) (by omega),hb,hb2,zac ((k:Int)-1) (by omega) (by omega)];simp (disch:=omega) only [yS]
theorem lastB {w q:List Int} {s:Int} {nn:Bool} {p:Nat} {k:Int} (hp:p<n) (hn:n≤12) (hk:k≤(gW w p:Nat)):RUN (stOf (sB p s q nn (prmL n w) k))=bc (decide (400<(q.length:Int))) (.done (.tup [.v (.slice none 0 0),iv 3]) [] 0) (.done (.tup [il q,iv 0]) [] 0):=by
 have e0:Int.toNat (p:Int)=p:=rfl;rw [b_t,e0,zo0 hp,zlc,df (show ¬ ((gW w p:Nat):Int)<k by omega)];simp (disch:=omega) only [yS]
theorem loopB {w:List Int} {s:Int} (hs:s=1∨s = -1) {p:Nat} (hp:p<n) (hn:n≤12):∀ (d:Nat) (q:List Int) (nn:Bool),gW w p+d≤20→q.length+d≤2900→(nn=true∨q=[])→EndZ 83 RDpp.ct false (stOf (sB p s q nn (prmL n w) ((gW w p:Nat)+d))) (resL (bc (decide (400<(q++dnW (-s) (gW w p) d).length)) 3 0) (q++dnW (-s) (gW w p) d)) [] 0
 | 0,q,nn,hd,hq,hnn=>by
  rw [show dnW (-s) (gW w p) 0=[] from rfl,List.append_nil]
  have h:=lastB (s:=s) (q:=q) (nn:=nn) (w:=w) (p:=p) (k:=((gW w p:Nat):Int)+(0:Nat)) hp hn (by omega)
  by_cases c:400<q.length
  ·rw [dt (show (400:Int)<(q.length:Int) by omega),bc_t] at h;rw [dt c,bc_t];exact (EndZ.done h).weak (zbz _ (by decide))
  ·rw [df (show ¬ (400:Int)<(q.length:Int) by omega),bc_f] at h;rw [df c,bc_f];exact .done h
 | d+1,q,nn,hd,hq,hnn=>by
  have h:=stepB (s:=s) (q:=q) (nn:=nn) (w:=w) (p:=p) (k:=gW w p+(d+1)) hs hp (by omega) (by omega) (by omega);rw [show (((gW w p+(d+1):Nat):Int)-1)=((gW w p:Nat):Int)+(d:Nat) by omega] at h;have e:q++dnW (-s) (gW w p) (d+1)=(q++[-s*((gW w p+(d+1):Nat):Int)])++dnW (-s) (gW w p) d:=by
   rw [List.append_assoc];rfl
  rw [e];exact .at RDpp.ct_ok h (loopB hs hp hn d _ true (by omega) (by rw [List.length_append,List.length_singleton];omega) (.inl rfl))
open PLay in
theorem loopA {w:List Int} {p:Nat} {s:Int} (hs:s=1∨s = -1) (hn:n≤12) (hw:w.length≤2000) (hv:Vld n w) (hp:p<n) (hpo:OthOk w p) (z:chk n w=0):∀ (d a:Nat) (q:List Int) (nn:Bool),a+1+d=n→q.length≤a→(nn=true∨q=[])→EndZ 83 RDpp.ct false (stOf (sA n w p s q nn (a+1:Nat))) (resL (bc (decide (400<(q++upW s a d++(oth p w).1++dnW (-s) (oth p w).2 (n-1-(oth p w).2)).length)) 3 0) (q++upW s a d++(oth p w).1++dnW (-s) (oth p w).2 (n-1-(oth p w).2))) [] 0
 | 0,a,q,nn,hd,hq,hnn=>by
  have h:=midA (s:=s) (q:=q) (nn:=nn) (k:=a+1) (by omega) hw (by omega) hn (by omega) hpo z;have h1:=gW_lt hv hp;rw [show ((p:Int)).toNat=p from rfl,show (n:Int)-1=((gW w p:Nat):Int)+((n-1-gW w p:Nat):Int) by omega] at h
  rw [show upW s a 0=[] from rfl,List.append_nil,zim]
  have h3:=zdm w p;exact .at RDpp.ct_ok h (loopB hs hp hn _ _ _ (by omega) (by rw [List.length_append];omega) (hb3 hnn _))
 | d+1,a,q,nn,hd,hq,hnn=>by
  have h:=stepA (w:=w) (p:=p) (s:=s) (q:=q) (nn:=nn) (k:=a+1) hs (show a+1<n by omega) hn (by omega);have e:q++upW s a (d+1)=(q++[s*((a+1:Nat):Int)])++upW s (a+1) d:=by
   rw [List.append_assoc];rfl
  rw [e];exact .at RDpp.ct_ok h (loopA hs hn hw hv hp hpo z d (a+1) _ true (by omega) (by rw [List.length_append,List.length_singleton];omega) (.inl rfl))
theorem ends (n:Int) (w:List Int) (p:Int) (a:Bool):EndZ 83 RDpp.ct false (st0 83 [iv n,il w,iv p,bv a]) (resL (PLay.layE n w p a) (layW n.toNat w p.toNat (PLay.sgn a))) [] 0:=by
 have h:=in_t n w p a
 by_cases z:chk n w=0
 ·rw [z,show ((0:Int) != 0)=false from rfl,bc_f] at h
  have e1:PLay.layE n w p a=bc (decide (p<0)) 7 (bc (decide (n≤p)) 7 (bc (decide (400<(layW n.toNat w p.toNat (PLay.sgn a)).length)) 3 0)):=by unfold PLay.layE;rw [z];rfl
  by_cases h1:p<0
  ·rw [dt h1,bc_t] at h e1;rw [e1];exact (EndZ.done h).weak (zbz _ (by decide))
  rw [df h1,bc_f] at h e1
  by_cases h2:n≤p
  ·rw [dt h2,bc_t] at h e1;rw [e1];exact (EndZ.done h).weak (zbz _ (by decide))
  rw [df h2,bc_f] at h e1;have ho:=PDrp.othOk z h1 h2;obtain ⟨⟨w0,w1,w2,w3⟩,_⟩:=zca z;obtain ⟨n,rfl⟩:=Int.eq_ofNat_of_zero_le (show 0≤n by omega);obtain ⟨p,rfl⟩:=Int.eq_ofNat_of_zero_le (show 0≤p by omega);have e2:IntKind.i64.wrap ((p:Int)+1)=((p+1:Nat):Int):=by rw [zac _ (by omega) (by omega)];omega
  have e3:bc a (.at (sA n w p 1 [] false ((p+1:Nat):Int))) (.at (sA n w p (-1) [] false ((p+1:Nat):Int)))=ZF.at (sA n w p (PLay.sgn a) [] false ((p+1:Nat):Int)):=by cases a <;> rfl
  rw [e2] at h;have h5:=h.trans e3;rw [e1];have h6:=loopA (PLay.sgn_ok a) (by omega) w2 w3 (by omega) ho z (n-1-p) p [] false (by omega) (Nat.zero_le _) (.inr rfl);rw [List.nil_append] at h6;exact .at RDpp.ct_ok h5 h6
 ·have e1:PLay.layE n w p a=chk n w:=by unfold PLay.layE;rw [show (chk n w != 0)=true by simp [z],bc_t]
  rw [show (chk n w != 0)=true by simp [z],bc_t] at h;rw [e1];exact (EndZ.done h).weak (zbz _ z)
end RLay
noncomputable def spRLay:ZCT:=fun ax=>match ax with
 | [.v (.int .i64 n),.lst (.ints .i64 w),.v (.int .i64 p),.v (.bool a)]=>some ⟨decide (True),resL (PLay.layE n w p a) (layW n.toNat w p.toNat (PLay.sgn a)),[],0⟩
 | _=>none
theorem zod:ZCtOk Try.prog 83 spRLay:=fun γ w us ax r hs hc hax hN hfz=>by
 unfold spRLay at hs;split at hs
 case h_2=>cases hs
 rename_i n w p a;obtain ⟨rfl⟩:=Option.some.inj hs;have hc_0:decide (True)=true:=hc;have hc:=of_decide_eq_true hc_0;exact EndZ.calls (RLay.ends n w p a) RDpp.ct_ok (by kernel_rfl) hax hN hfz
end
section
noncomputable def ctOq:Tr ZCC:=(((Tr.nil.put 52 (some (dC spPChL))).put 82 (some (dC spPLay))).put 24 (some (dC spPSam))).put 78 (some (mC spDlf))
theorem zeu:ZCtsOk Try.prog ctOq:=((((ZCtsOk.nil _).add rfl zib).add rfl zh9).add rfl zh8).addM rfl zrr
noncomputable def ctO0:Tr ZCC:=(((Tr.nil.put 52 (some (dC spPChL))).put 82 (some (dC spPLay))).put 24 (some (dC spPSam))).put 79 (some (dC spClo0))
theorem zve:ZCtsOk Try.prog ctO0:=((((ZCtsOk.nil _).add rfl zib).add rfl zh9).add rfl zh8).add rfl zoj
noncomputable def offF (t:Int) (w:List Int) (a:Bool) (i:Nat):Bool:=samB t w (bc (PLay.layE t w i a != 0) [] (layW t.toNat w i (PLay.sgn a)))
noncomputable def offI (t:Int) (w:List Int) (a:Bool) (i:Nat):List Nat:=(List.range i).filter (offF t w a)
theorem zd3 (t:Int) (w:List Int) (a:Bool) (i:Nat):offI t w a (i+1)=offI t w a i++(if offF t w a i then [i] else []):=by
 unfold offI;rw [List.range_succ,zfp]
theorem zd4 (t:Int) (w:List Int) (a:Bool) (i:Nat):(offI t w a i).length≤i:=by
 have:=List.length_filter_le (offF t w a) (List.range i);rw [List.length_range] at this;exact this
noncomputable def offE (t:Int) (l:List Int):Int:=bc (chkL t l != 0) (chkL t l) (bc (decide (12<t)) 3 (bc (decide (378<((nop l).length:Int))) 3 0))
noncomputable abbrev shOff (t:Int) (l:List Int):EV:=.tup [il (bc (offE t l != 0) [] (ofNs (offI t (nop l) true t.toNat))),il (bc (offE t l != 0) [] (ofNs (offI t (nop l) false t.toNat))),iv (offE t l)]
theorem zcd {t:Int} {l:List Int} {e:Int} (h:offE t l=e) (he:e≠0):Weak (.tup [.v (.slice none 0 0),.v (.slice none 0 0),iv e]) (shOff t l):=by
 unfold shOff;rw [h,show (e != 0)=true by simp [he],bc_t,bc_t];exact .tup (.cons (Weak.nilI _) (.cons (Weak.nilI _) (.cons (.refl _) .nil)))
theorem oneO (x:Int):[x]=[x]:=rfl
noncomputable def hasT (k:Nat) (s:ES):Bool:=match s.rest with
 | f::_=>match f.T.get k with
  | some _=>true
  | none=>false
 | []=>false
namespace POff
noncomputable def places:PLs:=[(atS 0 34 5,[[(1,none),(2,none),(3,none),(4,none),(6,none)]]),(fun s=>bc (atS 1 81 3 s) (bc (hasT 27 s) false true) false,[[(0,none),(1,none),(2,none),(4,none),(5,some (1,3,.ints .i64 [])),(12,none),(13,none)],[(2,none),(3,none),(4,none),(7,none)]]),(fun s=>bc (atS 1 81 3 s) (hasT 27 s) false,[[(0,none),(1,none),(2,none),(4,none),(5,some (1,3,.ints .i64 [])),(12,none),(13,none)],[(2,none),(3,none),(4,none),(27,none)]])]
noncomputable def RUN (s:ES):ZF:=RZs 34 ctOq places [] false s
noncomputable def RUN0 (s:ES):ZF:=RZs 34 ctO0 places [] false s
noncomputable def sW (t:Int) (l w:List Int):NS:=⟨[⟨34,30,[(1,(EV.ptr 0 0)),(2,(EV.v (Value.slice Option.none 0 0))),(3,(EV.v (Value.slice Option.none 0 0))),(4,(iv (0))),(6,(EV.ptr 1 0))],[.it (.code (nav [1,1,1,0] (bodyOf Try.f34))),.it (.code (nav [1,1,1,1] (bodyOf Try.f34)))],[],Option.none⟩],[(0,EK.cells 24 [iv t,il l] true),(1,EK.cells 22 [il w] true)],2⟩
noncomputable def sA (t:Int) (l w g:List Int) (nn:Bool) (m i:Int):NS:=⟨[⟨81,40,[(0,(bv true)),(1,(EV.ptr 0 0)),(2,(EV.ptr 1 0)),(4,(EV.v (Value.slice Option.none 0 0))),(5,EV.slO 2 1 g.length nn),(12,iv m),(13,iv i)],[.it (.code (nav [1,1,0,1,0,0] (bodyOf Try.f81))),.it (.inLoop (nav [1,1,0,1,0,0] (bodyOf Try.f81))),.it (.inBlock 0),.it (.code (nav [1,1,1] (bodyOf Try.f81)))],[],Option.none⟩,⟨34,30,[(2,(EV.v (Value.slice Option.none 0 0))),(3,(EV.v (Value.slice Option.none 0 0))),(4,(iv (0))),(7,(EV.fn 81 [(EV.ptr 0 0),(EV.ptr 1 0)]))],[.ops (opsOf (nav [1,1,1,1,1,0] (bodyOf Try.f34))) ((opsOf (nav [1,1,1,1,1,0] (bodyOf Try.f34))).toList.drop 1),.it (.code (nav [1,0,1,1,0,1] (bodyOf Try.f34)))],[],Option.none⟩],[(0,EK.cells 24 [iv t,il l] true),(1,EK.cells 22 [il w] true),(2,EK.seq 3 (.ints .i64 g) nn)],3⟩
noncomputable def sB (t:Int) (l w a:List Int) (na:Bool) (g:List Int) (nn:Bool) (m i:Int):NS:=⟨[⟨81,40,[(0,(bv false)),(1,(EV.ptr 0 0)),(2,(EV.ptr 1 0)),(4,(EV.v (Value.slice Option.none 0 0))),(5,EV.slO 2 1 g.length nn),(12,iv m),(13,iv i)],[.it (.code (nav [1,1,0,1,0,0] (bodyOf Try.f81))),.it (.inLoop (nav [1,1,0,1,0,0] (bodyOf Try.f81))),.it (.inBlock 0),.it (.code (nav [1,1,1] (bodyOf Try.f81)))],[],Option.none⟩,⟨34,30,[(2,(EV.v (Value.slice Option.none 0 0))),(3,(EV.v (Value.slice Option.none 0 0))),(4,(iv (0))),(27,(EV.slO 3 1 (List.length a) na))],[.ops (opsOf (nav [1,1,1,1,1,0] (bodyOf Try.f34))) ((opsOf (nav [1,1,1,1,1,0] (bodyOf Try.f34))).toList.drop 3),.it (.code (nav [1,0,1,1,0,1] (bodyOf Try.f34)))],[],Option.none⟩],[(0,(EK.cells 24 [(iv t),(il l)] true)),(1,(EK.cells 22 [(il w)] true)),(2,EK.seq 3 (.ints .i64 g) nn),(3,(EK.seq 3 (SyC.ints IntKind.i64 a) na))],4⟩
theorem in_t (t:Int) (l:List Int):RUN (st0 34 [hE t l])=(bc (bc (decide (In64 l)) true false) (bc (chkL t l != 0) (.done (EV.tup [(EV.v (Value.slice Option.none 0 0)),(EV.v (Value.slice Option.none 0 0)),(iv (chkL t l))]) [] 0) (bc (bc (Nat.blt 0 l.length) true false) (bc (bc (Nat.ble (0+l.length) 65536) true false) (bc (bc (bc (Nat.beq ([]++l).length ([]++l).length) (bc (Nat.ble ([]++l).length 65536) true false) false) true false) (.at (sW t l (nop ([]++l)))) .bad) .bad) .bad)) .bad):=by kernel_rfl
theorem n_t (t:Int):RUN0 (st0 34 [hE t []])=(bc (bc (decide (In64 [])) true false) (bc (chkL t [] != (0:Int)) (.done (EV.tup [(EV.v (Value.slice Option.none 0 0)),(EV.v (Value.slice Option.none 0 0)),(EV.v (Value.int IntKind.i64 (chkL t [])))]) [] 0) (.at (sW (t) ([]) ([])))) .bad):=by kernel_rfl
theorem w_t (t:Int) (l w:List Int):RUN (stOf (sW t l w))=(bc (decide (12<t)) (.done (EV.tup [(EV.v (Value.slice Option.none 0 0)),(EV.v (Value.slice Option.none 0 0)),(iv (3))]) [] 0) (bc (decide (378<Int.ofNat w.length)) (.done (EV.tup [(EV.v (Value.slice Option.none 0 0)),(EV.v (Value.slice Option.none 0 0)),(iv (3))]) [] 0) (.at (sA t l w [] false t 0)))):=by kernel_rfl
theorem a_t (t:Int) (l w g:List Int) (nn:Bool) (m i:Int):RUN (stOf (sA t l w g nn m i))=(bc (decide (i<m)) (bc (samB t w (bc (PLay.layE t w i true != 0) [] (layW t.toNat w i.toNat (PLay.sgn true)))) (bc (bc (Nat.beq g.length g.length) (bc (Nat.ble (g.length+([i]).length) 65536) (bc nn true (bc nn false true)) false) false) (.at (sA t l w (g++[i]) (bc nn true (Nat.blt 0 ([i]).length)) m (IntKind.i64.wrap (i+1)))) .bad) (.at (sA t l w g nn m (IntKind.i64.wrap (i+1))))) (.at (sB t l w g nn [] false t 0))):=by kernel_rfl
theorem b_t (t:Int) (l w a:List Int) (na:Bool) (g:List Int) (nn:Bool) (m i:Int):RUN (stOf (sB t l w a na g nn m i))=(bc (decide (i<m)) (bc (samB t w (bc (PLay.layE t w i false != 0) [] (layW t.toNat w i.toNat (PLay.sgn false)))) (bc (bc (Nat.beq g.length g.length) (bc (Nat.ble (g.length+([i]).length) 65536) (bc nn true (bc nn false true)) false) false) (.at (sB t l w a na (g++[i]) (bc nn true (Nat.blt 0 ([i]).length)) m (IntKind.i64.wrap (i+1)))) .bad) (.at (sB t l w a na g nn m (IntKind.i64.wrap (i+1))))) (bc (bc (Nat.beq a.length a.length) (bc (Nat.beq g.length g.length) true false) false) (.done (EV.tup [(il a),(il g),(iv (0))]) [] 0) .bad)):=by kernel_rfl
variable {n:Nat} {l w:List Int} {R:EV}
theorem stepA {nn:Bool} {i:Nat} (hn:n≤48) (hi:i<n):∃ nn',RUN (stOf (sA n l w (ofNs (offI n w true i)) nn n i)) = .at (sA n l w (ofNs (offI n w true (i+1))) nn' n (i+1:Nat)):=by
 have h:=a_t n l w (ofNs (offI n w true i)) nn n i;have e0:Int.toNat (i:Int)=i:=rfl;have hl:=zd4 n w true i;have w1:bc nn true (Nat.blt 0 (List.length [(i:Int)]))=true:=by cases nn <;> rfl
 have w2:bc nn true (bc nn false true)=true:=by cases nn <;> rfl
 have w4:IntKind.wrap IntKind.i64 ((i:Int)+1)=((i+1:Nat):Int):=by rw [zac _ (by omega) (by omega)];omega
 have eF:samB n w (bc (PLay.layE n w i true != 0) [] (layW (Int.toNat n) w i (PLay.sgn true)))=offF n w true i:=rfl;have e:=congrArg ofNs (zd3 n w true i);rw [ze0] at e;rw [oneO,e0,w1,w2,w4,eF,dt (show (i:Int)<(n:Int) by omega),bc_t] at h;simp only [zd5] at h
 cases c:offF n w true i with
 | true=>
  rw [c,if_pos rfl] at e;rw [c] at h;simp (disch:=omega) only [yS] at h;exact ⟨true,by rw [e];exact h⟩
 | false=>
  rw [c,if_neg (by simp)] at e;rw [c] at h;simp (disch:=omega) only [yS] at h;exact ⟨nn,by rw [e,show ofNs []=([]:List Int) from rfl,List.append_nil];exact h⟩
theorem stepB {a:List Int} {na nn:Bool} {i:Nat} (hn:n≤48) (hi:i<n):∃ nn',RUN (stOf (sB n l w a na (ofNs (offI n w false i)) nn n i)) = .at (sB n l w a na (ofNs (offI n w false (i+1))) nn' n (i+1:Nat)):=by
 have h:=b_t n l w a na (ofNs (offI n w false i)) nn n i;have e0:Int.toNat (i:Int)=i:=rfl;have hl:=zd4 n w false i;have w1:bc nn true (Nat.blt 0 (List.length [(i:Int)]))=true:=by cases nn <;> rfl
 have w2:bc nn true (bc nn false true)=true:=by cases nn <;> rfl
 have w4:IntKind.wrap IntKind.i64 ((i:Int)+1)=((i+1:Nat):Int):=by rw [zac _ (by omega) (by omega)];omega
 have eF:samB n w (bc (PLay.layE n w i false != 0) [] (layW (Int.toNat n) w i (PLay.sgn false)))=offF n w false i:=rfl;have e:=congrArg ofNs (zd3 n w false i);rw [ze0] at e;rw [oneO,e0,w1,w2,w4,eF,dt (show (i:Int)<(n:Int) by omega),bc_t] at h;simp only [zd5] at h
 cases c:offF n w false i with
 | true=>
  rw [c,if_pos rfl] at e;rw [c] at h;simp (disch:=omega) only [yS] at h;exact ⟨true,by rw [e];exact h⟩
 | false=>
  rw [c,if_neg (by simp)] at e;rw [c] at h;simp (disch:=omega) only [yS] at h;exact ⟨nn,by rw [e,show ofNs []=([]:List Int) from rfl,List.append_nil];exact h⟩
theorem loopB {a:List Int} {na:Bool} (hn:n≤48):∀ (d i:Nat) (nn:Bool),i+d=n→EndZ 34 ctOq false (stOf (sB n l w a na (ofNs (offI n w false i)) nn n i)) (.tup [il a,il (ofNs (offI n w false n)),iv 0]) [] 0
 | 0,i,nn,h=>by
  obtain rfl:i=n:=by omega
  have q:=b_t i l w a na (ofNs (offI i w false i)) nn i i;rw [df (show ¬ (i:Int)<(i:Int) by omega),bc_f] at q;simp (disch:=omega) only [yS] at q;exact .done q
 | d+1,i,nn,h=>by
  obtain ⟨nn',q⟩:=stepB (n:=n) (l:=l) (w:=w) (a:=a) (na:=na) (nn:=nn) hn (show i<n by omega);exact .at zeu q (loopB hn d (i+1) nn' (by omega))
theorem loopA (hn:n≤48):∀ (d i:Nat) (nn:Bool),i+d=n→EndZ 34 ctOq false (stOf (sA n l w (ofNs (offI n w true i)) nn n i)) (.tup [il (ofNs (offI n w true n)),il (ofNs (offI n w false n)),iv 0]) [] 0
 | 0,i,nn,h=>by
  obtain rfl:i=n:=by omega
  have q:=a_t i l w (ofNs (offI i w true i)) nn i i;rw [df (show ¬ (i:Int)<(i:Int) by omega),bc_f] at q;exact .at zeu q (loopB hn i 0 false (by omega))
 | d+1,i,nn,h=>by
  obtain ⟨nn',q⟩:=stepA (n:=n) (l:=l) (w:=w) (nn:=nn) hn (show i<n by omega);exact .at zeu q (loopA hn d (i+1) nn' (by omega))
theorem mid {t:Int} {l:List Int} (z:chkL t l=0):EndZ 34 ctOq false (stOf (sW t l (nop l))) (shOff t l) [] 0:=by
 have q:=w_t t l (nop l);have hb:=(zkj.1 z).1;have eE:offE t l=bc (decide (12<t)) 3 (bc (decide (378<((nop l).length:Int))) 3 0):=by
  unfold offE;rw [z];rfl
 by_cases c1:12<t
 ·rw [dt c1,bc_t] at q;exact (EndZ.done q).weak (zcd (by rw [eE,dt c1,bc_t]) (by decide))
 rw [df c1,bc_f] at q eE
 by_cases c2:378<((nop l).length:Int)
 ·rw [ofn,dt c2,bc_t] at q;exact (EndZ.done q).weak (zcd (by rw [eE,dt c2,bc_t]) (by decide))
 rw [ofn,df c2,bc_f] at q;rw [df c2,bc_f] at eE;obtain ⟨n,rfl⟩:=Int.eq_ofNat_of_zero_le (show 0≤t by omega);refine .at zeu q ?_;unfold shOff;rw [eE];exact loopA (l:=l) (w:=nop l) (by omega) n 0 false (by omega)
theorem lead {s:ES} {r:NS} {a:EV} {K:List (Nat×EK)} {m:Nat} (h:RUN0 s = .at r) (k:EndZ 34 ctOq false (stOf r) a K m):EndZ 34 ctOq false s a K m:=k.lead (leadsZ zve h)
theorem ends {t:Int} {l:List Int} (hx:In64 l):EndZ 34 ctOq false (st0 34 [hE t l]) (shOff t l) [] 0:=by
 have q:=in_t t l;rw [dt hx] at q
 by_cases z:chkL t l=0
 ·have hb:=zkj.1 z
  cases l with
  | nil=>
   have q0:=n_t t;rw [dt hx,z,show ((0:Int) != 0)=false from rfl] at q0
   simp only [bc_t,bc_f] at q0;have:=mid z;exact lead q0 this
  | cons x l=>
   have hl:(x::l).length≤2000:=hb.2.1;rw [z,show ((0:Int) != 0)=false from rfl,List.nil_append] at q
   have h1:Nat.blt 0 (x::l).length=true:=Nat.ble_eq_true_of_le (by rw [List.length_cons];omega);have h2:Nat.ble (0+(x::l).length) 65536=true:=Nat.ble_eq_true_of_le (by omega);have h3:Nat.ble (x::l).length 65536=true:=Nat.ble_eq_true_of_le (by omega);rw [h1,h2,h3,Nat.beq_refl] at q;simp only [bc_t,bc_f] at q;exact .at zeu q (mid z)
 ·rw [show (chkL t l != 0)=true by simp [z]] at q;simp only [bc_t,bc_f] at q;exact (EndZ.done q).weak (zcd (by unfold offE;rw [show (chkL t l != 0)=true by simp [z],bc_t]) z)
end POff
noncomputable def spPOff:ZCT:=fun ax=>match ax with
 | [.agg [.v (.int .i64 t),.lst (.ints .i64 l)]]=>some ⟨decide (In64 l),shOff t l,[],0⟩
 | _=>none
theorem zoi:ZCtOk Try.prog 34 spPOff:=fun γ w us ax r hs hc hax hN hfz=>by
 unfold spPOff at hs;split at hs
 case h_2=>cases hs
 rename_i t l;obtain ⟨rfl⟩:=Option.some.inj hs;have hc_0:decide (In64 l)=true:=hc;have hc:=of_decide_eq_true hc_0;exact EndZ.calls (POff.ends hc) zeu (by kernel_rfl) hax hN hfz
noncomputable def ctOr:Tr ZCC:=(((Tr.nil.put 11 (some (dC spRChL))).put 83 (some (dC spRLay))).put 84 (some (dC spRSam))).put 33 (some (dC spCrs))
theorem zhs:ZCtsOk Try.prog ctOr:=((((ZCtsOk.nil _).add rfl zh6).add rfl zod).add rfl zn7).add rfl zk4
namespace ROff
noncomputable def RUN (s:ES):ZF:=RZs 35 ctOr [(atS 0 35 9,[[(1,none),(6,none),(7,some (1,3,.ints .i64 [])),(8,some (1,3,.ints .i64 [])),(9,none)]]),(atS 0 35 15,[[(1,none),(6,none),(7,some (1,3,.ints .i64 [])),(8,some (1,3,.ints .i64 [])),(9,none)]])] [] false s
noncomputable def sH (t:Int) (l w a:List Int) (na:Bool) (b:List Int) (nb:Bool) (i:Int):NS:=⟨[⟨35,79,[(1,(EV.ptr 0 0)),(6,il w),(7,EV.slO 1 1 a.length na),(8,EV.slO 2 1 b.length nb),(9,iv i)],[.it (.code (nav [1,1,1,1,1,1,0,1,0,0,0] (bodyOf Try.f35))),.it (.code (nav [1,1,1,1,1,1,0,1,0,0,1] (bodyOf Try.f35))),.it (.inLoop (nav [1,1,1,1,1,1,0,1,0,0] (bodyOf Try.f35))),.it (.inBlock 0),.it (.code (nav [1,1,1,1,1,1,1] (bodyOf Try.f35)))],[],Option.none⟩],[(0,(EK.cells 24 [(iv t),(il l)] true)),(1,EK.seq 3 (.ints .i64 a) na),(2,EK.seq 3 (.ints .i64 b) nb)],3⟩
noncomputable def sM (t:Int) (l w a:List Int) (na:Bool) (b:List Int) (nb:Bool) (i:Int):NS:=⟨[⟨35,79,[(1,(EV.ptr 0 0)),(6,il w),(7,EV.slO 1 1 a.length na),(8,(EV.slO 2 1 (List.length b) nb)),(9,iv i)],[.it (.code (nav [1,1,1,1,1,1,0,1,0,0,1,0,0,1,1,1] (bodyOf Try.f35))),.it (.inBlock 1),.it (.code (nav [1,1,1,1,1,1,0,1,0,0,1,1] (bodyOf Try.f35))),.it (.inLoop (nav [1,1,1,1,1,1,0,1,0,0] (bodyOf Try.f35))),.it (.inBlock 0),.it (.code (nav [1,1,1,1,1,1,1] (bodyOf Try.f35)))],[],Option.none⟩],[(0,EK.cells 24 [iv t,il l] true),(1,EK.seq 3 (.ints .i64 a) na),(2,(EK.seq 3 (SyC.ints IntKind.i64 b) nb))],3⟩
theorem in_t (t:Int) (l:List Int):RUN (st0 35 [hE t l])=(bc (chkL t l != 0) (.done (EV.tup [(EV.v (Value.slice Option.none 0 0)),(EV.v (Value.slice Option.none 0 0)),(iv (chkL t l))]) [] 0) (bc (decide (l.length≤3000)) (bc (decide (12<t)) (.done (EV.tup [(EV.v (Value.slice Option.none 0 0)),(EV.v (Value.slice Option.none 0 0)),(iv (3))]) [] 0) (bc (decide (378<Int.ofNat (List.filter (fun x=>!isPn x) l).length)) (.done (EV.tup [(EV.v (Value.slice Option.none 0 0)),(EV.v (Value.slice Option.none 0 0)),(iv (3))]) [] 0) (.at (sH t l (List.filter (fun x=>!isPn x) l) [] false [] false 0)))) .bad)):=by kernel_rfl
theorem h_t (t:Int) (l w a:List Int) (na:Bool) (b:List Int) (nb:Bool) (i:Int):RUN (stOf (sH t l w a na b nb i))=(bc (decide (i<t)) (bc (samB t w (bc (PLay.layE t w i true != 0) [] (layW t.toNat w i.toNat (PLay.sgn true)))) (bc (bc (Nat.beq a.length a.length) (bc (Nat.ble (a.length+([i]).length) 65536) (bc na true (bc na false true)) false) false) (.at (sM t l w (a++[i]) (bc na true (Nat.blt 0 ([i]).length)) b nb i)) .bad) (.at (sM t l w a na b nb i))) (bc (bc (Nat.beq a.length a.length) (bc (Nat.beq b.length b.length) true false) false) (.done (EV.tup [(il a),(il b),(iv (0))]) [] 0) .bad)):=by kernel_rfl
theorem m_t (t:Int) (l w a:List Int) (na:Bool) (b:List Int) (nb:Bool) (i:Int):RUN (stOf (sM t l w a na b nb i))=(bc (samB t w (bc (PLay.layE t w i false != 0) [] (layW t.toNat w i.toNat (PLay.sgn false)))) (bc (bc (Nat.beq b.length b.length) (bc (Nat.ble (b.length+([i]).length) 65536) (bc nb true (bc nb false true)) false) false) (.at (sH t l w a na (b++[i]) (bc nb true (Nat.blt 0 ([i]).length)) (IntKind.i64.wrap (i+1)))) .bad) (.at (sH t l w a na b nb (IntKind.i64.wrap (i+1))))):=by kernel_rfl
variable {n:Nat} {l w:List Int}
theorem stepH {na nb:Bool} {b:List Int} {i:Nat} (hn:n≤48) (hi:i<n):∃ na',RUN (stOf (sH n l w (ofNs (offI n w true i)) na b nb i)) = .at (sM n l w (ofNs (offI n w true (i+1))) na' b nb i):=by
 have h:=h_t n l w (ofNs (offI n w true i)) na b nb i;have e0:Int.toNat (i:Int)=i:=rfl;have hl:=zd4 n w true i;have w1:bc na true (Nat.blt 0 (List.length [(i:Int)]))=true:=by cases na <;> rfl
 have w2:bc na true (bc na false true)=true:=by cases na <;> rfl
 have eF:samB n w (bc (PLay.layE n w i true != 0) [] (layW (Int.toNat n) w i (PLay.sgn true)))=offF n w true i:=rfl;have e:=congrArg ofNs (zd3 n w true i);rw [ze0] at e;rw [oneO,e0,w1,w2,eF,dt (show (i:Int)<(n:Int) by omega),bc_t] at h;simp only [zd5] at h
 cases c:offF n w true i with
 | true=>
  rw [c,if_pos rfl] at e;rw [c] at h;simp (disch:=omega) only [yS] at h;exact ⟨true,by rw [e];exact h⟩
 | false=>
  rw [c,if_neg (by simp)] at e;rw [c] at h;simp (disch:=omega) only [yS] at h;exact ⟨na,by rw [e,show ofNs []=([]:List Int) from rfl,List.append_nil];exact h⟩
theorem stepM {na nb:Bool} {a:List Int} {i:Nat} (hn:n≤48) (hi:i<n):∃ nb',RUN (stOf (sM n l w a na (ofNs (offI n w false i)) nb i)) = .at (sH n l w a na (ofNs (offI n w false (i+1))) nb' (i+1:Nat)):=by
 have h:=m_t n l w a na (ofNs (offI n w false i)) nb i;have e0:Int.toNat (i:Int)=i:=rfl;have hl:=zd4 n w false i;have w1:bc nb true (Nat.blt 0 (List.length [(i:Int)]))=true:=by cases nb <;> rfl
 have w2:bc nb true (bc nb false true)=true:=by cases nb <;> rfl
 have w4:IntKind.wrap IntKind.i64 ((i:Int)+1)=((i+1:Nat):Int):=by rw [zac _ (by omega) (by omega)];omega
 have eF:samB n w (bc (PLay.layE n w i false != 0) [] (layW (Int.toNat n) w i (PLay.sgn false)))=offF n w false i:=rfl;have e:=congrArg ofNs (zd3 n w false i);rw [ze0] at e;rw [oneO,e0,w1,w2,w4,eF] at h;simp only [zd5] at h
 cases c:offF n w false i with
 | true=>
  rw [c,if_pos rfl] at e;rw [c] at h;simp (disch:=omega) only [yS] at h;exact ⟨true,by rw [e];exact h⟩
 | false=>
  rw [c,if_neg (by simp)] at e;rw [c] at h;simp (disch:=omega) only [yS] at h;exact ⟨nb,by rw [e,show ofNs []=([]:List Int) from rfl,List.append_nil];exact h⟩
theorem loop (hn:n≤48):∀ (d i:Nat) (na nb:Bool),i+d=n→EndZ 35 ctOr false (stOf (sH n l w (ofNs (offI n w true i)) na (ofNs (offI n w false i)) nb i)) (.tup [il (ofNs (offI n w true n)),il (ofNs (offI n w false n)),iv 0]) [] 0
 | 0,i,na,nb,h=>by
  obtain rfl:i=n:=by omega
  have q:=h_t i l w (ofNs (offI i w true i)) na (ofNs (offI i w false i)) nb i;rw [df (show ¬ (i:Int)<(i:Int) by omega),bc_f] at q;simp (disch:=omega) only [yS] at q;exact .done q
 | d+1,i,na,nb,h=>by
  obtain ⟨na',q⟩:=stepH (n:=n) (l:=l) (w:=w) (na:=na) (nb:=nb) (b:=ofNs (offI n w false i)) hn (show i<n by omega);obtain ⟨nb',q2⟩:=stepM (n:=n) (l:=l) (w:=w) (na:=na') (nb:=nb) (a:=ofNs (offI n w true (i+1))) hn (show i<n by omega);exact .at zhs q (.at zhs q2 (loop hn d (i+1) na' nb' (by omega)))
theorem ends (t:Int) (l:List Int):EndZ 35 ctOr false (st0 35 [hE t l]) (shOff t l) [] 0:=by
 have q:=in_t t l
 by_cases z:chkL t l=0
 ·obtain ⟨hb,hl,_⟩:=zkj.1 z;have eE:offE t l=bc (decide (12<t)) 3 (bc (decide (378<((nop l).length:Int))) 3 0):=by
   unfold offE;rw [z];rfl
  have eN:(l.filter fun x=>!isPn x)=nop l:=rfl;rw [z,show ((0:Int) != 0)=false from rfl,bc_f,dt (show l.length≤3000 by omega),bc_t,eN] at q
  by_cases c1:12<t
  ·rw [dt c1,bc_t] at q;exact (EndZ.done q).weak (zcd (by rw [eE,dt c1,bc_t]) (by decide))
  rw [df c1,bc_f] at q eE
  by_cases c2:378<((nop l).length:Int)
  ·rw [ofn,dt c2,bc_t] at q;exact (EndZ.done q).weak (zcd (by rw [eE,dt c2,bc_t]) (by decide))
  rw [ofn,df c2,bc_f] at q;rw [df c2,bc_f] at eE;obtain ⟨n,rfl⟩:=Int.eq_ofNat_of_zero_le (show 0≤t by omega);refine .at zhs q ?_;unfold shOff;rw [eE];exact loop (l:=l) (w:=nop l) (by omega) n 0 false false (by omega)
 ·rw [show (chkL t l != 0)=true by simp [z],bc_t] at q;exact (EndZ.done q).weak (zcd (by unfold offE;rw [show (chkL t l != 0)=true by simp [z],bc_t]) z)
end ROff
noncomputable def spROff:ZCT:=fun ax=>match ax with
 | [.agg [.v (.int .i64 t),.lst (.ints .i64 l)]]=>some ⟨decide (True),shOff t l,[],0⟩
 | _=>none
theorem zoa:ZCtOk Try.prog 35 spROff:=fun γ w us ax r hs hc hax hN hfz=>by
 unfold spROff at hs;split at hs
 case h_2=>cases hs
 rename_i t l;obtain ⟨rfl⟩:=Option.some.inj hs;have hc_0:decide (True)=true:=hc;have hc:=of_decide_eq_true hc_0;exact EndZ.calls (ROff.ends t l) zhs (by kernel_rfl) hax hN hfz
end
theorem zm1 (x y:Int) (a b:List Int):eqLI (x::a) (y::b)=bc (x != y) false (eqLI a b):=by
 by_cases h:x=y
 ·have e:(x != y)=false:=by simp [h]
  rw [e,bc_f]
  cases hq:eqLI a b with
  | true=>rw [h,zaf.1 hq,zaf.2 rfl]
  | false=>
   cases hx:eqLI (x::a) (y::b) with
   | false=>rfl
   | true=>
    have:=List.cons.inj (zaf.1 hx);rw [zaf.2 this.2] at hq;cases hq
 ·have e:(x != y)=true:=by simp [h]
  rw [e,bc_t]
  cases hx:eqLI (x::a) (y::b) with
  | false=>rfl
  | true=>exact absurd (List.cons.inj (zaf.1 hx)).1 h
theorem zp6 {a b:List Int} (h:a.length≠b.length):eqLI a b=false:=by
 cases hx:eqLI a b with
 | false=>rfl
 | true=>exact absurd (congrArg List.length (zaf.1 hx)) h
namespace RS4i
noncomputable def RUN (s:ES):ZF:=RZ 36 .nil (atS 0 36 4) [] [[(0,none),(1,none),(5,none)]] false s
noncomputable def sS (a b:List Int) (i:Int):NS:=⟨[⟨36,26,[(0,(il a)),(1,(il b)),(5,iv i)],[.it (.code (nav [1,1,0,1,0,0,0] (bodyOf Try.f36))),.it (.code (nav [1,1,0,1,0,0,1] (bodyOf Try.f36))),.it (.inLoop (nav [1,1,0,1,0,0] (bodyOf Try.f36))),.it (.inBlock 0),.it (.code (nav [1,1,1] (bodyOf Try.f36)))],[],Option.none⟩],[],0⟩
theorem in_t (a b:List Int):RUN (st0 36 [il a,il b])=(bc (Int.ofNat a.length != Int.ofNat b.length) (.done (bv false) [] 0) (.at (sS a b 0))):=by kernel_rfl
theorem step_t (a b:List Int) (i:Int):RUN (stOf (sS a b i))=(bc (decide (i<Int.ofNat a.length)) (bc (bc (bc (bc (bc (decide (0≤i)) (Nat.blt i.toNat a.length) false) true false) (bc (bc (Nat.blt i.toNat a.length) true false) (bc (bc (bc (decide (0≤i)) (Nat.blt i.toNat b.length) false) true false) (bc (bc (Nat.blt i.toNat b.length) true false) true false) false) false) false) true false) (bc (a.getD i.toNat 0 != b.getD i.toNat 0) (.done (bv false) [] 0) (.at (sS a b (IntKind.i64.wrap (i+1))))) .bad) (.done (bv true) [] 0)):=by kernel_rfl
theorem loop {a b:List Int} (hl:a.length=b.length) (hz:a.length≤100000):∀ (k i:Nat),i+k=a.length→EndZ 36 .nil false (stOf (sS a b i)) (bv (eqLI (a.drop i) (b.drop i))) [] 0
 | 0,i,h=>by
  have hs:=step_t a b i;rw [List.drop_eq_nil_of_le (by omega),List.drop_eq_nil_of_le (by omega),zaf.2 rfl];simp (disch:=omega) only [yS] at hs;exact .done hs
 | k+1,i,h=>by
  have hi:i<a.length:=by omega
  have hi2:i<b.length:=by omega
  have hs:=step_t a b i;have e1:a.getD i 0=a[i]:=zao hi;have e2:b.getD i 0=b[i]:=zao hi2;rw [zkz,e1,e2] at hs;rw [List.drop_eq_getElem_cons hi,List.drop_eq_getElem_cons hi2,zm1];simp (disch:=omega) only [yS] at hs
  cases hq:a[i] != b[i] with
  | true=>rw [hq] at hs;exact .done hs
  | false=>rw [hq] at hs;exact .at (.nil _) hs (loop hl hz k (i+1) (by omega))
theorem ends {a b:List Int} (hz:a.length≤100000):EndZ 36 .nil false (st0 36 [il a,il b]) (bv (eqLI a b)) [] 0:=by
 have h:=in_t a b
 by_cases hl:a.length=b.length
 ·have e:(Int.ofNat a.length != Int.ofNat b.length)=false:=by simp [hl]
  rw [e,bc_f] at h;exact .at (.nil _) h (loop hl hz a.length 0 (by omega))
 ·have e:(Int.ofNat a.length != Int.ofNat b.length)=true:=by simp;omega
  rw [e,bc_t] at h;rw [zp6 hl];exact .done h
end RS4i
noncomputable def spRS4i:ZCT:=fun ax=>match ax with
 | [.lst (.ints .i64 a),.lst (.ints .i64 b)]=>some ⟨decide (a.length≤100000),bv (eqLI a b),[],0⟩
 | _=>none
theorem zn8:ZCtOk Try.prog 36 spRS4i:=fun γ w us ax r hs hc hax hN hfz=>by
 unfold spRS4i at hs;split at hs
 case h_2=>cases hs
 rename_i a b;obtain ⟨rfl⟩:=Option.some.inj hs;have hc_0:decide (a.length≤100000)=true:=hc;have hc:=of_decide_eq_true hc_0;exact EndZ.calls (RS4i.ends hc) (.nil _) (by kernel_rfl) hax hN hfz
theorem zm4:endsB (exClosed Try.prog ft (drD Try.prog ft 16 4) 12 18)=true:=by kernel_rfl
theorem awakeLC (w:World):Calls Try.prog 12 #[] w fun e w'=>e = .returned (.bool true)∧Stays w w':=closedTrue ftOk (zl7 mix ftOk 16 4) zm4 w
theorem zjj:ZCtOk Try.prog 12 spTrue:=zn2 awakeLC
end Go.Proofs.Ytfffbioafhppiaa.Ev
namespace Go.Proofs.Ytfffbioafhppiaa
open Go.ChangeShapes Go.WideShapes Go.ChangeAt Go.RowKit
theorem zhe {W W':World} (h:Ev.Stays W W') (may:MemPlace→Prop):W.keptBut W' may:=by
 refine ⟨h.os,h.output,fun i hi=>?_⟩;have e:=h.block i hi;rw [e]
 cases hb:W.heap[i]? with
 | none=>simp
 | some o=>
  cases o <;> first|exact ⟨rfl,rfl,rfl,fun _ _=>rfl⟩|exact .inr ⟨rfl,rfl⟩|rfl
theorem zfn {W W':World} (h:Ev.Stays W W') (a:Addr) (ha:a.block<W.heap.size):W'.frozen? a=W.frozen? a:=by
 unfold World.frozen?;rw [h.block _ ha]
section
variable {H:Type} {enc:TypeId×Value→H} {P:Program}
theorem zg2 {f:Func} {s:ChangeSpec} {apart fresh handsOn again:Bool} {W W':World} {args:Array Value} {v:Value} {ds gs:List (DataW H)} {before pa pv:List MemPlace}
  (hW:DataW.Whole enc P f.params.toList s.vars apart W args.toList ds gs before)
  (hres:∀ (b:Nat) (sp:Nat→Bool) (hd:Bool),DataW.TrodAll enc P W' b sp hd f.resultTypes.toList (v.resultList f.resultTypes.size) (s.fn H (ds++gs)).results [])
  (hargs:∀ sp:Nat→Bool,(∀ p∈before,sp p.block=true)→DataW.TrodAll enc P W' 0 sp true f.params.toList args.toList (s.fn H (ds++gs)).args pa)
  (hvars:∀ sp:Nat→Bool,(∀ p∈before,sp p.block=true)→DataW.TrodVars enc P W' sp s.vars (s.fn H (ds++gs)).vars pv)
  (hps:before=pa++pv) (hst:Ev.Stays W W')
  (hok:∀ (j:Nat) (t:TypeId) (r:Value),f.resultTypes[j]? = some t→(v.resultList f.resultTypes.size)[j]? = some r→Value.okWide P W' .any 0 t r) :
  s.post enc P f apart fresh handsOn again W args v W':=by
 have hk:W.keptBut W' (· ∈ before):=zhe hst _;have hold:∀ p∈before,(fun b=>decide (b<W.heap.size)) p.block=true:=fun p hp=>by simpa using hW.lt p hp
 have hlt:=fun p hp=>hW.lt p hp;refine ⟨ds,gs,before,[],pa,pv,hW,hres _ _ _,hargs _ hold,hvars _ hold,World.keptBut_mono (fun p hp=>⟨hp,?_⟩) hk,fun _=>?_⟩
 ·rw [hps,List.mem_append] at hp;exact Or.inr hp
 ·obtain ⟨_,_,_,_,_,hz,hn⟩:=hW;refine ⟨hok,_,_,([]++pa)++pv,⟨[]++pa,pv,trodAll_append (hargs _ (fun _ _=>rfl)) (hres _ _ _),hvars _ (fun _ _=>rfl),rfl,?_,?_⟩,?_⟩
  ·intro b off hp;have hp2:MemPlace.cell b off∈before:=by rw [hps];simpa using hp
   rw [zfn hst _ (hlt _ hp2)];exact hz b off hp2
  ·intro ha;have:=hn ha;rw [hps] at this;simpa using this
  ·intro p hp _;rw [hps];simpa using hp
end
end Go.Proofs.Ytfffbioafhppiaa
namespace Go.Proofs.Ytfffbioafhppiaa
open Go.ChangeShapes Go.WideShapes Go.ChangeAt Go.RowKit
section
variable {H:Type} {enc:TypeId×Value→H} {P:Program}
theorem zgt {W W':World} (h:Ev.Stays W W') {p:MemPlace} (hp:p.block<W.heap.size):W.sameAt W' p:=by
 cases p with
 | cell b off=>
  show W'.cell? _=W.cell? _;unfold World.cell?;rw [h.block b hp]
 | map b=>exact h.block b hp
theorem zgk {W W':World} {base:Nat} {sp:Nat→Bool} {hd:Bool}:∀ {ts:List TypeId} {vs:List Value} {ds:List (DataW H)} {ps:List MemPlace},DataW.TrodAll enc P W base sp hd ts vs ds ps→(∀ p∈ps,W.sameAt W' p)→DataW.TrodAll enc P W' base sp hd ts vs ds ps
 | [],[],[],_,h,_=>h
 | _::_,_::_,_::_,_,⟨p,q,⟨n,h⟩,hs,e⟩,k=>⟨p,q,⟨n,DataW.trod_carry n _ _ _ h fun x hx=>k x (by rw [e];exact List.mem_append_left _ hx)⟩,zgk hs fun x hx=>k x (by rw [e];exact List.mem_append_right _ hx),e⟩
 | [],[],_::_,_,h,_=>h.elim
 | [],_::_,_,_,h,_=>h.elim
 | _::_,[],_,_,h,_=>h.elim
 | _::_,_::_,[],_,h,_=>h.elim
theorem zr1 {f:Func} {s:ChangeSpec} {apart fresh handsOn again:Bool} {W W':World} {args:Array Value} {ds:List (DataW H)} {p:List MemPlace} {bt:TypeId} {T:TypeId→Prop} (K:Kids P T) (hz:∀ t e,T t→P.underlying t=some (.slice e)→0<P.cellsOf e)
  (hbt:P.underlying bt=some .bool) (hrt:f.resultTypes.toList=[bt]) (hsz:f.resultTypes.size=1) (hvs:s.vars=[]) (hfn:s.fn H (ds++[])={ results:=[.lit (.bool true)],args:=ds })
  (hpt:∀ t∈f.params.toList,T t)
  (hW:DataW.Whole enc P f.params.toList s.vars apart W args.toList ds [] (p++[])) (hA:DataW.TrodAll enc P W 0 (fun _=>true) true f.params.toList args.toList ds p) (hst:Ev.Stays W W')
  (hok:∀ (j:Nat) (t:TypeId) (r:Value),f.resultTypes[j]? = some t→((Value.bool true).resultList f.resultTypes.size)[j]? = some r→Value.okWide P W' .any 0 t r) :
  s.post enc P f apart fresh handsOn again W args (.bool true) W':=by
 have hlt:=fun q hq=>hW.lt q hq;refine zg2 (pa:=p) (pv:=[]) hW (fun b sp hd=>?_) (fun sp hsp=>?_) (fun sp _=>?_) rfl hst hok
 ·rw [hrt,hfn,hsz];exact trodAll_mk1 (shut_bool hbt _)
 ·rw [hfn];exact DataW.TrodAll.respare K hz hpt (zgk hA fun q hq=>zgt hst (hlt q (by simpa using hq))) fun q hq=>hsp q (by simpa using hq)
 ·rw [hfn,hvs];rfl
end
namespace Ev
inductive UFit:Sh→U→Prop where
 | int (k:IntKind) (n:Int) (h:(Lit.int k n).wf=true):UFit (.int k) (.i n)
 | bool (b:Bool):UFit .bool (.b b)
 | str (s:ByteArray) (h:s.size≤maxLen):UFit .str (.s s)
 | list (sh:List Sh) (l:List (List U)) (hl:l.length≤maxLen) (hr:∀ j,j<l.length→(l.getD j []).length=sh.length) (h:∀ (j f:Nat) (s:Sh),j<l.length→sh[f]? = some s→UFit s ((l.getD j []).getD f (.i 0))):UFit (.list sh) (.l l)
structure RowFit (sh:List Sh) (r:List U):Prop where
 len:r.length=sh.length
 fit:∀ (f:Nat) (s:Sh),sh[f]? = some s→UFit s (r.getD f (.i 0))
theorem RowFit.nil:RowFit [] []:=⟨rfl,fun f s h=>by simp at h⟩
theorem RowFit.append {sh1 sh2:List Sh} {r1 r2:List U} (h1:RowFit sh1 r1) (h2:RowFit sh2 r2):RowFit (sh1++sh2) (r1++r2):=by
 refine ⟨by simp [h1.len,h2.len],fun f s h=>?_⟩;rw [List.getD_eq_getElem?_getD]
 by_cases hf:f<sh1.length
 ·rw [List.getElem?_append_left hf] at h;rw [List.getElem?_append_left (by rw [h1.len];exact hf),← List.getD_eq_getElem?_getD];exact h1.fit f s h
 ·rw [List.getElem?_append_right (by omega)] at h;rw [List.getElem?_append_right (by rw [h1.len];omega),h1.len,← List.getD_eq_getElem?_getD];exact h2.fit _ s h
theorem zgz:∀ {sh1 sh2:List Sh} {r1 r2:List U},r1.length=sh1.length→recE (sh1++sh2) (r1++r2)=recE sh1 r1++recE sh2 r2
 | [],sh2,r1,r2,h=>by
  have:r1=[]:=List.eq_nil_of_length_eq_zero h;subst this;rfl
 | s::sh1,sh2,[],r2,h=>by cases h
 | s::sh1,sh2,u::r1,r2,h=>by
  show s.ev u::recE (sh1++sh2) (r1++r2)=s.ev u::(recE sh1 r1++recE sh2 r2);rw [zgz (by simpa using h)]
def shFs (P:Program) (f:TypeId→Option (List Sh)):List Field→Nat→Option (List Sh)
 | [],_=>some []
 | fd::r,off=>match f fd.type with
  | some sh=>if fd.offset=off∧P.cellsOf fd.type=sh.length then match shFs P f r (off+sh.length) with
   | some l=>some (sh++l)
   | none=>none else none
  | none=>none
def shB (P:Program):Nat→TypeId→Option (List Sh)
 | 0,_=>none
 | k+1,t=>match P.underlying t with
  | some (.int κ)=>some [.int κ]
  | some .bool=>some [.bool]
  | some .string=>some [.str]
  | some (.slice e)=>match shB P k e with
   | some sh=>if P.cellsOf e=sh.length∧0<sh.length then some [.list sh] else none
   | none=>none
  | some (.struct fs)=>match shFs P (shB P k) fs.toList 0 with
   | some sh=>if P.cellsOf t=sh.length then some sh else none
   | none=>none
  | some (.array m e)=>match shB P k e with
   | some sh=>if P.cellsOf e=sh.length∧P.cellsOf t=m*sh.length then some (List.replicate m sh).flatten else none
   | none=>none
  | _=>none
noncomputable def fzAll (W:World):Nat→Option (Array Value):=fun k=>match W.heap[k]? with
 | some (.cells a _ _)=>some a
 | _=>none
noncomputable def gAll (W:World):G:=⟨fun _=>none,fzAll W,fun _ _ _=>none⟩
theorem fzAll_at (W:World):FzAt (gAll W) W:=⟨fun k a hk=>(by
 have hk:fzAll W k=some a:=hk;unfold fzAll at hk;split at hk
 ·rename_i a' ty fz h;injection hk with hk;subst hk
  exact ⟨ty,fz,h⟩
 ·cases hk),fun _ _ _=>rfl⟩
theorem zpi {Q:Nat→List U→Prop}:∀ (n:Nat),(∀ i,i<n→∃ r,Q i r)→∃ l:List (List U),l.length=n∧∀ i,i<n→Q i (l.getD i [])
 | 0,_=>⟨[],rfl,fun i hi=>absurd hi (by omega)⟩
 | n+1,h=>by
  obtain ⟨l,h1,h2⟩:=zpi n fun i hi=>h i (by omega);obtain ⟨r,hr⟩:=h n (by omega);refine ⟨l++[r],by simp [h1],fun i hi=>?_⟩;rw [List.getD_eq_getElem?_getD]
  by_cases e:i<n
  ·rw [List.getElem?_append_left (by omega),← List.getD_eq_getElem?_getD];exact h2 i e
  ·have:i=n:=by omega
   subst this;rw [List.getElem?_append_right (by omega),h1,Nat.sub_self];exact hr
variable {H:Type} {enc:TypeId×Value→H} {P:Program} {W:World} {base:Nat} {sp:Nat→Bool} {hd:Bool}
def OpenAt (enc:TypeId×Value→H) (P:Program) (W:World) (base:Nat) (sp:Nat→Bool) (hd:Bool) (k:Nat):Prop:=∀ (t:TypeId) (sh:List Sh) (fuel:Nat) (cs:List Value) (x:DataW H×List MemPlace),shB P k t=some sh→DataW.trod enc P W base sp hd fuel t cs=some x→∃ r,RowFit sh r∧∀ γ:G,γ.fz=fzAll W→ECL γ (recE sh r) cs
theorem zfr {k:Nat} (ih:OpenAt enc P W base sp hd k) {cs:List Value} {n:Nat}:∀ (fs:List Field) (off:Nat) (sh:List Sh),shFs P (shB P k) fs off=some sh→(∀ f,f∈fs→∃ y,DataW.trod enc P W base sp hd n f.type ((cs.drop f.offset).take (P.cellsOf f.type))=some y)→∃ r,RowFit sh r∧∀ γ:G,γ.fz=fzAll W→ECL γ (recE sh r) ((cs.drop off).take sh.length)
 | [],off,sh,h,_=>by
  injection (show some []=some sh from h) with h;subst h
  exact ⟨[],.nil,fun γ _=>by
   rw [show ([]:List Sh).length=0 from rfl,List.take_zero];exact ECL.nil γ⟩
 | fd::fs,off,sh,h,hall=>by
  unfold shFs at h;split at h
  case h_2=>cases h
  rename_i s1 hs1;split at h
  case isFalse=>cases h
  rename_i hc;split at h
  case h_2=>cases h
  rename_i s2 hs2;injection h with h;subst h
  obtain ⟨y,hy⟩:=hall fd (by simp);rw [hc.1,hc.2] at hy;obtain ⟨r1,h1,h2⟩:=ih fd.type s1 n _ y hs1 hy;obtain ⟨r2,h3,h4⟩:=zfr ih fs (off+s1.length) s2 hs2 fun f hf=>hall f (by simp [hf]);refine ⟨r1++r2,h1.append h3,fun γ hγ=>?_⟩;rw [zgz h1.len,List.length_append];have e:(cs.drop off).take (s1.length+s2.length)=(cs.drop off).take s1.length++(cs.drop (off+s1.length)).take s2.length:=by
   rw [List.take_add,List.drop_drop]
  rw [e];exact (h2 γ hγ).append (h4 γ hγ)
theorem zgh {k:Nat} (ih:OpenAt enc P W base sp hd k) {cs:List Value} {n:Nat} {e:TypeId} {sh:List Sh} (hsh:shB P k e=some sh) (hc:P.cellsOf e=sh.length):∀ (m i0:Nat),(∀ i,i<m→∃ y,DataW.trod enc P W base sp hd n e ((cs.drop ((i0+i)*P.cellsOf e)).take (P.cellsOf e))=some y)→∃ r,RowFit (List.replicate m sh).flatten r∧∀ γ:G,γ.fz=fzAll W→ECL γ (recE (List.replicate m sh).flatten r) ((cs.drop (i0*sh.length)).take (m*sh.length))
 | 0,i0,_=>⟨[],.nil,fun γ _=>by
   rw [Nat.zero_mul,List.take_zero];exact ECL.nil γ⟩
 | m+1,i0,h=>by
  obtain ⟨y,hy⟩:=h 0 (by omega);rw [hc,Nat.add_zero] at hy;obtain ⟨r1,h1,h2⟩:=ih e sh n _ y hsh hy;obtain ⟨r2,h3,h4⟩:=zgh ih hsh hc m (i0+1) fun i hi=>by
   have:=h (i+1) (by omega)
   rwa [show i0+(i+1)=i0+1+i by omega] at this
  refine ⟨r1++r2,by rw [List.replicate_succ,List.flatten_cons];exact h1.append h3,fun γ hγ=>?_⟩;rw [List.replicate_succ,List.flatten_cons,zgz h1.len,Nat.succ_mul,Nat.add_comm,List.take_add,List.drop_drop];have:=h4 γ hγ;rw [Nat.succ_mul] at this;exact (h2 γ hγ).append this
theorem zga:∀ k,OpenAt enc P W base sp hd k
 | 0=>fun t sh fuel cs x h=>by cases h
 | k+1=>fun t sh fuel cs x h ht=>by
  have ih:OpenAt enc P W base sp hd k:=zga k;unfold shB at h;split at h
  ·rename_i κ hu;injection h with h;subst h
   obtain ⟨n,rfl,_,hw⟩:=DataW.trod_int hu ht;refine ⟨[.i n],⟨rfl,fun f s hf=>?_⟩,fun γ _=>.cons (.v _) (.nil _)⟩;obtain ⟨rfl,rfl⟩:=one_f hf;exact .int κ n hw
  ·rename_i hu;injection h with h;subst h
   obtain ⟨b,rfl,_⟩:=DataW.trod_bool hu ht;refine ⟨[.b b],⟨rfl,fun f s hf=>?_⟩,fun γ _=>.cons (.v _) (.nil _)⟩;obtain ⟨rfl,rfl⟩:=one_f hf;exact .bool b
  ·rename_i hu;injection h with h;subst h
   obtain ⟨s,rfl,_,hs⟩:=DataW.trod_string hu ht;refine ⟨[.s s],⟨rfl,fun f s hf=>?_⟩,fun γ _=>.cons (.v _) (.nil _)⟩;obtain ⟨rfl,rfl⟩:=one_f hf;exact .str _ hs
  ·rename_i e hu;split at h
   case h_2=>cases h
   rename_i sh' hsh;split at h
   case isFalse=>cases h
   rename_i hc;injection h with h;subst h
   rcases DataW.trod_slice hu ht with ⟨rfl,_⟩|⟨a,len,cap,elems,rest,n,_,rfl,_,hb,hlc,hcm,hel,hall,_⟩
   ·refine ⟨[.l []],⟨rfl,fun f s hf=>?_⟩,fun γ _=>.cons ?_ (.nil _)⟩
    ·obtain ⟨rfl,rfl⟩:=one_f hf;exact .list sh' [] (Nat.zero_le _) (fun j hj=>by simp at hj) (fun j f s hj=>by simp at hj)
    ·exact UOk.ec (s:=.list sh') (.empty sh' (.l []) none 0 rfl (Nat.zero_le _) fun _=>rfl)
   ·have each:∀ i,i<len→∃ r,RowFit sh' r∧∃ ys,W.cells? base (a.add (i*sh'.length)) sh'.length=some ys∧∀ γ:G,γ.fz=fzAll W→ECL γ (recE sh' r) ys:=fun i hi=>by
     have h1:=hall i hi;rw [hc.1] at h1;have h2:i<elems.length:=by omega
     rw [List.getElem?_eq_getElem h2] at h1;obtain ⟨ys,h3,h4⟩:=Option.bind_eq_some_iff.1 h1;obtain ⟨r,h5,h6⟩:=ih e sh' n ys _ hsh h4;exact ⟨r,h5,ys,h3,h6⟩
    obtain ⟨l,hl,hQ⟩:=zpi len each;refine ⟨[.l l],⟨rfl,fun f s hf=>?_⟩,fun γ hγ=>.cons ?_ (.nil _)⟩
    ·obtain ⟨rfl,rfl⟩:=one_f hf;exact .list sh' l (by omega) (fun j hj=>(hQ j (by omega)).1.len) fun j f s hj hf=>(hQ j (by omega)).1.fit f s hf
    ·refine UOk.ec (s:=.list sh') ?_
     by_cases h0:len=0
     ·have:l=[]:=List.eq_nil_of_length_eq_zero (by omega);subst this;subst h0;exact .empty sh' (.l []) (some a) cap rfl hcm fun e=>by cases e
     ·obtain ⟨b,off,spot⟩:=a;have hblk:spot=none∧∃ arr ty fz,W.heap[b]? = some (.cells arr ty fz):=by
       obtain ⟨h1,ys,h2,h3⟩:=hQ 0 (by omega);obtain ⟨_,h4,h5⟩:=World.cells?_some h2;have h6:=h5 0 hc.2;rw [List.getElem?_eq_getElem (show 0<ys.length by omega)] at h6;have h6:W.cell? ⟨b,off,spot⟩=some ys[0]:=by
        have e:((⟨b,off,spot⟩:Addr).add (0*sh'.length)).add 0=⟨b,off,spot⟩:=by simp [Addr.add]
        rw [e] at h6;exact h6
       unfold World.cell? at h6;split at h6
       ·rename_i arr ty fz hb';split at h6
        ·cases h6
        ·rename_i hs;exact ⟨by cases spot <;> simp_all,arr,ty,fz,hb'⟩
       ·cases h6
      obtain ⟨rfl,arr,ty,fz,hblk⟩:=hblk;have cellAt:∀ i f,i<len→f<sh'.length→∃ y,W.cell? ⟨b,off+(i*sh'.length+f),none⟩=some y∧∀ s,sh'[f]? = some s→UOk γ.fz s ((l.getD i []).getD f (.i 0)) y:=fun i f hi hf=>by
       obtain ⟨h1,ys,h2,h3⟩:=hQ i hi;obtain ⟨_,h4,h5⟩:=World.cells?_some h2;have h6:=h5 f hf;have h7:f<ys.length:=by omega
       rw [List.getElem?_eq_getElem h7] at h6;refine ⟨ys[f],?_,fun s hs=>?_⟩
       ·have e:((⟨b,off,none⟩:Addr).add (i*sh'.length)).add f=⟨b,off+(i*sh'.length+f),none⟩:=by
         unfold Addr.add;split <;> split <;> simp_all [Nat.add_assoc]
        rw [← h6,e]
       ·have h8:=zd0 (s:=s) (f:=f) (sh:=sh') (l.getD i []) hs;have h9:=(h3 γ hγ).2 f _ ys[f] h8 (List.getElem?_eq_getElem h7);exact UOk.of_ec h9
      have getA:∀ i f,i<len→f<sh'.length→∃ y,arr[off+(i*sh'.length+f)]? = some y∧∀ s,sh'[f]? = some s→UOk γ.fz s ((l.getD i []).getD f (.i 0)) y:=fun i f hi hf=>by
       obtain ⟨y,h1,h2⟩:=cellAt i f hi hf;refine ⟨y,?_,h2⟩;unfold World.cell? at h1;simpa [hblk] using h1
      have hk:γ.fz b=some arr:=by
       rw [hγ];unfold fzAll;rw [hblk]
      subst hl;refine .list sh' (.l l) b off cap arr hk hlc hcm ?_ fun j f s x hj hf hx=>?_
      ·show off+l.length*sh'.length≤arr.size;obtain ⟨y,h1,_⟩:=getA (l.length-1) (sh'.length-1) (by omega) (by omega);have:=(Array.getElem?_eq_some_iff.1 h1).1;have e:l.length*sh'.length=(l.length-1)*sh'.length+sh'.length:=by rw [← Nat.succ_mul];congr 1;omega
       omega
      ·obtain ⟨y,h1,h2⟩:=getA j f hj (List.getElem?_eq_some_iff.1 hf).1;rw [h1] at hx;injection hx with hx;subst hx;exact h2 s hf
  ·rename_i fs hu;split at h
   case h_2=>cases h
   rename_i sh' hsh;split at h
   case isFalse=>cases h
   rename_i hc;injection h with h;subst h
   obtain ⟨xs,n,_,_,hl,hlen,hf⟩:=DataW.trod_struct hu ht;obtain ⟨r,h1,h2⟩:=zfr (cs:=cs) (n:=n) ih fs.toList 0 sh' hsh fun f hm=>by
    obtain ⟨i,hi,rfl⟩:=List.getElem_of_mem hm;have hi2:i<fs.size:=by simpa using hi
    have:=hf i fs.toList[i] (by simp [hi2]);rw [List.getElem?_eq_getElem (by omega)] at this;exact ⟨_,this⟩
   refine ⟨r,h1,fun γ hγ=>?_⟩;have:=h2 γ hγ
   rwa [List.drop_zero,List.take_of_length_le (by omega)] at this
  ·rename_i m e hu;split at h
   case h_2=>cases h
   rename_i sh' hsh;split at h
   case isFalse=>cases h
   rename_i hc;injection h with h;subst h
   obtain ⟨xs,n,_,_,hl,hlen,hf⟩:=DataW.trod_array hu ht;obtain ⟨r,h1,h2⟩:=zgh (cs:=cs) (n:=n) ih hsh hc.1 m 0 fun i hi=>by
    have:=hf i hi;rw [List.getElem?_eq_getElem (by omega)] at this;rw [Nat.zero_add];exact ⟨_,this⟩
   refine ⟨r,h1,fun γ hγ=>?_⟩;have:=h2 γ hγ
   rwa [Nat.zero_mul,List.drop_zero,List.take_of_length_le (by omega)] at this
  ·cases h
theorem open_agg {t:TypeId} {fs:Array Field} {v:Value} {d:DataW H} {ps:List MemPlace} {k b0:Nat} {rc:Reach} {sh:List Sh} (hu:P.underlying t=some (.struct fs)) (hs:shB P k t=some sh) (hv:Value.okWide P W rc b0 t v) (h:DataW.Trod enc P W base sp hd t v d ps):∃ r,RowFit sh r∧EC (gAll W) (.agg (recE sh r)) v:=by
 obtain ⟨cs,rfl,_⟩:=okWide_struct hu hv;obtain ⟨fuel,hf⟩:=h;obtain ⟨r,h1,h2⟩:=zga k t sh fuel _ _ hs hf;have h3:=h2 (gAll W) rfl;refine ⟨r,h1,?_⟩;have:=EC.agg (γ:=gAll W) (recE sh r) cs.toList h3.1 h3.2;simpa using this
end Ev
end Go.Proofs.Ytfffbioafhppiaa
namespace Go.Proofs.Ytfffbioafhppiaa.Ev
theorem fitI64 {u:U} (h:UFit (.int .i64) u):∃ n,u = .i n ∧ -9223372036854775808≤n∧n≤9223372036854775807:=by
 cases h with
 | int k n h=>
  refine ⟨n,rfl,?_⟩;have h1:IntKind.i64.min≤n∧n≤IntKind.i64.max:=by simpa [Lit.wf] using h
  have e1:IntKind.i64.min = -9223372036854775808:=rfl;have e2:IntKind.i64.max=9223372036854775807:=rfl;omega
theorem fitI {l:List (List U)} (h:UFit (.list [.int .i64]) (.l l)):In64 (l.map fun r=>(r.headD (.i 0)).int):=by
 cases h with
 | list sh l hl hr hf=>
  intro j hj;rw [List.length_map] at hj;rw [zao (by rw [List.length_map];exact hj),List.getElem_map];have h1:=hf j 0 _ hj rfl;rw [zao (d:=[]) hj] at h1;obtain ⟨n,e,h2⟩:=fitI64 h1;rw [zdc,e];exact h2
noncomputable def ctLw:Tr ZCC:=(((((Tr.nil.put 34 (some (dC spPOff))).put 35 (some (dC spROff))).put 36 (some (dC spRS4i))).put 11 (some (dC spRChL))).put 33 (some (dC spCrs))).put 12 (some (dC spTrue))
theorem zvf:ZCtsOk Try.prog ctLw:=((((((ZCtsOk.nil _).add rfl zoi).add rfl zoa).add rfl zn8).add rfl zh6).add rfl zk4).add rfl zjj
namespace ALw
noncomputable def RUN (s:ES):ZF:=RZ 7 ctLw (fun _=>false) [] [] false s
theorem in_t (t:Int) (l:List Int):RUN (st0 7 [hE t l])=(bc (decide (30<Int.ofNat l.length)) (bc (decide (Int.ofNat l.length≤2000)) (bc (decide (t≤12)) (bc (chkL t l==0) (bc (decide (l.length≤3000)) (bc (decide (Int.ofNat (List.filter (fun x=>!isPn x) l).length≤378)) (.done (bv true) [] 0) (bc (decide (2100<Int.ofNat l.length)) (.done (bv true) [] 0) (bc (decide (In64 l)) (bc (bc (decide ((bc (offE t l != 0) [] (ofNs (offI t (nop l) true t.toNat))).length≤100000)) true false) (bc (eqLI (bc (offE t l != 0) [] (ofNs (offI t (nop l) true t.toNat))) (bc (offE t l != 0) [] (ofNs (offI t (nop l) true t.toNat)))) (bc (bc (decide ((bc (offE t l != 0) [] (ofNs (offI t (nop l) false t.toNat))).length≤100000)) true false) (bc (eqLI (bc (offE t l != 0) [] (ofNs (offI t (nop l) false t.toNat))) (bc (offE t l != 0) [] (ofNs (offI t (nop l) false t.toNat)))) (bc (offE t l==offE t l) (.done (bv true) [] 0) (.done (bv false) [] 0)) (.done (bv false) [] 0)) .bad) (.done (bv false) [] 0)) .bad) .bad))) .bad) (bc (decide (2100<Int.ofNat l.length)) (.done (bv true) [] 0) (bc (decide (In64 l)) (bc (bc (decide ((bc (offE t l != 0) [] (ofNs (offI t (nop l) true t.toNat))).length≤100000)) true false) (bc (eqLI (bc (offE t l != 0) [] (ofNs (offI t (nop l) true t.toNat))) (bc (offE t l != 0) [] (ofNs (offI t (nop l) true t.toNat)))) (bc (bc (decide ((bc (offE t l != 0) [] (ofNs (offI t (nop l) false t.toNat))).length≤100000)) true false) (bc (eqLI (bc (offE t l != 0) [] (ofNs (offI t (nop l) false t.toNat))) (bc (offE t l != 0) [] (ofNs (offI t (nop l) false t.toNat)))) (bc (offE t l==offE t l) (.done (bv true) [] 0) (.done (bv false) [] 0)) (.done (bv false) [] 0)) .bad) (.done (bv false) [] 0)) .bad) .bad))) (bc (decide (2100<Int.ofNat l.length)) (.done (bv true) [] 0) (bc (decide (In64 l)) (bc (bc (decide ((bc (offE t l != 0) [] (ofNs (offI t (nop l) true t.toNat))).length≤100000)) true false) (bc (eqLI (bc (offE t l != 0) [] (ofNs (offI t (nop l) true t.toNat))) (bc (offE t l != 0) [] (ofNs (offI t (nop l) true t.toNat)))) (bc (bc (decide ((bc (offE t l != 0) [] (ofNs (offI t (nop l) false t.toNat))).length≤100000)) true false) (bc (eqLI (bc (offE t l != 0) [] (ofNs (offI t (nop l) false t.toNat))) (bc (offE t l != 0) [] (ofNs (offI t (nop l) false t.toNat)))) (bc (offE t l==offE t l) (.done (bv true) [] 0) (.done (bv false) [] 0)) (.done (bv false) [] 0)) .bad) (.done (bv false) [] 0)) .bad) .bad))) (bc (decide (2100<Int.ofNat l.length)) (.done (bv true) [] 0) (bc (decide (In64 l)) (bc (bc (decide ((bc (offE t l != 0) [] (ofNs (offI t (nop l) true t.toNat))).length≤100000)) true false) (bc (eqLI (bc (offE t l != 0) [] (ofNs (offI t (nop l) true t.toNat))) (bc (offE t l != 0) [] (ofNs (offI t (nop l) true t.toNat)))) (bc (bc (decide ((bc (offE t l != 0) [] (ofNs (offI t (nop l) false t.toNat))).length≤100000)) true false) (bc (eqLI (bc (offE t l != 0) [] (ofNs (offI t (nop l) false t.toNat))) (bc (offE t l != 0) [] (ofNs (offI t (nop l) false t.toNat)))) (bc (offE t l==offE t l) (.done (bv true) [] 0) (.done (bv false) [] 0)) (.done (bv false) [] 0)) .bad) (.done (bv false) [] 0)) .bad) .bad))) (bc (decide (2100<Int.ofNat l.length)) (.done (bv true) [] 0) (bc (decide (In64 l)) (bc (bc (decide ((bc (offE t l != 0) [] (ofNs (offI t (nop l) true t.toNat))).length≤100000)) true false) (bc (eqLI (bc (offE t l != 0) [] (ofNs (offI t (nop l) true t.toNat))) (bc (offE t l != 0) [] (ofNs (offI t (nop l) true t.toNat)))) (bc (bc (decide ((bc (offE t l != 0) [] (ofNs (offI t (nop l) false t.toNat))).length≤100000)) true false) (bc (eqLI (bc (offE t l != 0) [] (ofNs (offI t (nop l) false t.toNat))) (bc (offE t l != 0) [] (ofNs (offI t (nop l) false t.toNat)))) (bc (offE t l==offE t l) (.done (bv true) [] 0) (.done (bv false) [] 0)) (.done (bv false) [] 0)) .bad) (.done (bv false) [] 0)) .bad) .bad))):=by kernel_rfl
theorem bcl7 {α:Type} {b:Bool} {l:List α} {k:Nat} (h:b=false→l.length≤k):(bc b [] l).length≤k:=by
 cases b with
 | true=>exact Nat.zero_le _
 | false=>exact h rfl
theorem zwe {t:Int} {l:List Int} (h:(offE t l != 0)=false):t≤12:=by
 have h:offE t l=0:=by simpa using h
 unfold offE at h
 by_cases z:chkL t l=0
 ·rw [z,show ((0:Int) != 0)=false from rfl,bc_f] at h
  by_cases c:12<t
  ·rw [dt c,bc_t] at h;cases h
  ·omega
 ·rw [show (chkL t l != 0)=true by simp [z],bc_t] at h;exact absurd h z
theorem ends {t:Int} {l:List Int} (hx:In64 l):EndZ 7 ctLw false (st0 7 [hE t l]) (bv true) [] 0:=by
 have h:=in_t t l;have q:∀ a,(bc (offE t l != 0) [] (ofNs (offI t (nop l) a t.toNat))).length≤100000:=fun a=>bcl7 fun z=>by
  have h1:=zwe z;have h2:=zd4 t (nop l) a t.toNat;rw [zd5];omega
 rw [dt (q true),dt (q false),dt hx,zaf.2 rfl,zaf.2 rfl] at h
 by_cases c:l.length≤3000
 ·rw [dt c] at h;simp only [beq_self_eq_true,bc_t,bc_f,zkm] at h;exact .done h
 ·rw [ofn,dt (show (2100:Int)<(l.length:Int) by omega),df (show ¬ (l.length:Int)≤2000 by omega)] at h;simp only [beq_self_eq_true,bc_t,bc_f,zkm] at h;exact .done h
end ALw
theorem looseOff_calls {γ:G} {w:World} {us:Array Value} (ra:List U) (wa:RowFit [.int .i64,.list [.int .i64]] ra)
  (hax:ECL γ [.agg (recE [.int .i64,.list [.int .i64]] ra)] us.toList) (hN:∀ i,γ i=none) (hfz:FzAt γ w):Calls Try.prog 7 us w fun e w'=>e = .returned (.bool true)∧Stays w w':=by
 have h1:=wa.fit 1 _ rfl;have hlen:=wa.len
 match ra,hlen with
 | [x,y],_=>
  have h1:UFit (.list [.int .i64]) y:=h1
  cases h1 with
  | list sh l hl hr hf=>
   exact zwg ((ALw.ends (t:=U.int x) (fitI (.list _ l hl hr hf))).calls zvf (by kernel_rfl) hax hN hfz)
end Go.Proofs.Ytfffbioafhppiaa.Ev
namespace Go.Proofs.Ytfffbioafhppiaa
open Go.ChangeShapes Go.WideShapes Go.ChangeAt Go.RowKit Go.ChangeMaps
theorem knobLooseOff:ownKnob Try.prog.godebug=none:=by kernel_rfl
theorem kidsLooseOff:Kids Try.prog (· < Try.prog.types.size):=kids_rows (by kernel_rfl) (by kernel_rfl)
theorem fullLooseOff:∀ t e,t<Try.prog.types.size→Try.prog.underlying t=some (.slice e)→0<Try.prog.cellsOf e:=slices_full_of Try.prog (by kernel_rfl)
set_option maxRecDepth 100000 in
theorem liftedLooseOff (os:Os) (started:os.Started) (H:Type) (enc:TypeId×Value→H) :
  ReturnsInHanded {} Try.checked os 7 .any (Rows.looseOffSpec.pre6 enc Try.prog Try.f7 Rows.looseOffRow.domain false) (Rows.looseOffSpec.post enc Try.prog Try.f7 false true false false):=by
 refine returnsInHanded_of_change (C:=Try.checked) knobLooseOff started (by kernel_rfl) Try.func7
  (ChangeSpec.witness6 (enc:=enc) (C:=Try.checked) false ⟨#[],#[.agg #[.int .i64 0,.slice none 0 0]],[]⟩ 8 (by kernel_rfl) (by kernel_rfl) (by kernel_rfl) (by kernel_rfl)) ?_
 intro W base args ds gs before hval0 hW hcnd _;have hval:∀ (j:Nat) t v,Try.f7.params[j]? = some t→args[j]? = some v→Value.okWide Try.prog W .any base t v:=hval0;have hW':=hW;obtain ⟨p,q,hA0,hV,rfl,hfz,hnd⟩:=hW;have hA:DataW.TrodAll enc Try.prog W 0 (fun _=>true) true Try.f7.params.toList args.toList ds p:=hA0;have hAk:=hA;rw [Try.params7] at hA hval;obtain ⟨rfl,rfl⟩:=trodVars_none hV;obtain ⟨v0,d0,rfl,rfl,h0⟩:=trodAll_one hA
 obtain ⟨r,wr,er⟩:=Ev.open_agg (k:=8) Try.underlying24 (by kernel_rfl:Ev.shB Try.prog 8 24=some [.int .i64,.list [.int .i64]]) (hval 0 24 v0 rfl rfl) h0;clear hA0 hval0;refine (Ev.looseOff_calls r wr (γ:=Ev.gAll W) (.cons er (.nil _)) (fun i=>rfl) (Ev.fzAll_at W)).mono fun e W' ⟨he,hg⟩=>?_;subst he;exact ⟨_,rfl,zr1 kidsLooseOff fullLooseOff Try.underlying4 (by kernel_rfl) (by kernel_rfl) rfl rfl (by rw [Try.params7];decide) hW' hAk hg (ok_one (by kernel_rfl) rfl (okWide_bool_mk Try.underlying4 _))⟩
theorem looseOff_holds:Rows.LooseOffSaid:=
 OpenClaim.holds_of_wide 7 Try.f7 rfl rfl rfl rfl rfl rfl rfl ⟨rfl,rfl,rfl,rfl,rfl⟩ rfl rfl rfl rfl rfl (by kernel_rfl) Try.func7 (by kernel_rfl)
  (of_decide_eq_true (by kernel_rfl)) (by unfold Func.isWrapper;first|(rw [if_pos (by decide +kernel)];kernel_rfl)|(rw [if_neg (by decide +kernel)];exact ⟨rfl,rfl⟩))
  (fun os started H enc _=>liftedLooseOff os started H enc)
end Go.Proofs.Ytfffbioafhppiaa
