/- BraidsTurns returns true, for all arguments, in every world in which it is called, and nothing that was there turns. -/
import Derived.ProofKit
import Derived.ReadAgain
import Derived.OpenShut
import Derived.Test.YtooimphimnagaaaRows
import Derived.WalkKit
import Derived.Test.YtooimphimnagaaaBTu5
set_option linter.unusedSimpArgs false
set_option linter.unusedVariables false
namespace Go.Proofs.Ytooimphimnagaaa.Ev
open Go.Proofs

noncomputable def badL (n x:Int):Bool:=bc (x == 0) true (bc (decide (x≤IntKind.i64.wrap (0 - n))) true (decide (n≤x)))
noncomputable def chk (n:Int) (l:List Int):Int:=bc (decide (n < 1)) 2 (bc (decide (12 < n)) 2 (bc (decide (400 < Int.ofNat l.length)) 3 (bc (l.any (badL n)) 7 0)))
theorem chk_nil {f:FuncId} {s:ES} (n:Int) (h:RZ f .nil (fun _=>false) [] [] false s=bc (decide (n < 1)) (.done (iv 2) [] 0) (bc (decide (12 < n)) (.done (iv 2) [] 0) (.done (iv 0) [] 0))):EndZ f .nil false s (iv (chk n [])) [] 0:=by
 unfold chk
 by_cases h1:n < 1
 ·rw [dt h1,bc_t] at h ⊢;exact .done h
 by_cases h2:12 < n
 ·rw [df h1,dt h2,bc_f,bc_t] at h ⊢;exact .done h
 ·rw [df h1,df h2,bc_f,bc_f] at h ⊢;exact .done h
namespace RChk
noncomputable def RUN (s:ES):ZF:=RZ 42 .nil (atS 0 42 6) [] [[(0,none),(1,none),(5,none)]] false s

noncomputable def sL (n:Int) (l:List Int) (i:Int):NS:=⟨[⟨42,43,[(0,(EV.v (Value.int IntKind.i64 (n)))),(1,(EV.lst (SyC.ints IntKind.i64 (l)))),(5,iv i)],[.it (.code (nav [1,1,1,0,1,0,0,0] (bodyOf Try.f42))),.it (.code (nav [1,1,1,0,1,0,0,1] (bodyOf Try.f42))),.it (.inLoop (nav [1,1,1,0,1,0,0] (bodyOf Try.f42))),.it (.inBlock 0),.it (.code (nav [1,1,1,1] (bodyOf Try.f42)))],[],Option.none⟩],[],0⟩
theorem in_t (n:Int) (l:List Int):RUN (st0 42 [iv n,il l])=(bc (decide (n < (1:Int))) (.done (EV.v (Value.int IntKind.i64 (2))) [] 0) (bc (decide ((12:Int) < n)) (.done (EV.v (Value.int IntKind.i64 (2))) [] 0) (bc (decide ((400:Int) < Int.ofNat (List.length l))) (.done (EV.v (Value.int IntKind.i64 (3))) [] 0) (.at (sL (n) (l) ((0:Int))))))):=by kernel_rfl
theorem nil_t (n:Int):RZ 42 .nil (fun _=>false) [] [] false (st0 42 [iv n,.v (.slice none 0 0)])=(bc (decide (n < (1:Int))) (.done (EV.v (Value.int IntKind.i64 (2))) [] 0) (bc (decide ((12:Int) < n)) (.done (EV.v (Value.int IntKind.i64 (2))) [] 0) (.done (EV.v (Value.int IntKind.i64 (0))) [] 0))):=by kernel_rfl
theorem step_t (n:Int) (l:List Int) (i:Int):RUN (stOf (sL n l i))=(bc (decide (i < Int.ofNat (List.length l))) (bc (bc (bc (decide ((0:Int)≤i)) (Nat.blt (Int.toNat i) (List.length l)) false) true false) (bc (bc (Nat.blt (Int.toNat i) (List.length l)) true false) (bc (List.getD l (Int.toNat i) (0:Int) == (0:Int)) (.done (EV.v (Value.int IntKind.i64 (7))) [] 0) (bc (bc (bc (decide ((0:Int)≤i)) (Nat.blt (Int.toNat i) (List.length l)) false) true false) (bc (bc (Nat.blt (Int.toNat i) (List.length l)) true false) (bc (decide (List.getD l (Int.toNat i) (0:Int)≤IntKind.wrap IntKind.i64 ((0:Int) - n))) (.done (EV.v (Value.int IntKind.i64 (7))) [] 0) (bc (bc (bc (decide ((0:Int)≤i)) (Nat.blt (Int.toNat i) (List.length l)) false) true false) (bc (bc (Nat.blt (Int.toNat i) (List.length l)) true false) (bc (decide (n≤List.getD l (Int.toNat i) (0:Int))) (.done (EV.v (Value.int IntKind.i64 (7))) [] 0) (.at (sL (n) (l) (IntKind.wrap IntKind.i64 (i+(1:Int)))))) .bad) .bad)) .bad) .bad)) .bad) .bad) (.done (EV.v (Value.int IntKind.i64 (0))) [] 0)):=by kernel_rfl
theorem step {n:Int} {l:List Int} {i:Nat} (hi:i < l.length) (hl:l.length≤400):RUN (stOf (sL n l i))=bc (badL n l[i]) (.done (iv 7) [] 0) (.at (sL n l (i+1:Nat))):=by
 rw [step_t];have e:l.getD i 0=l[i]:=getD_at hi;simp (disch:=omega) only [Nat.add_eq,eqSy_self,eqN_self,bc_same,List.length_cons,ofn,wrap_in,dt,df,bltD,bltN,ble_of,bleN,beqD,bc_t,bc_f,nn_ok,Nat.zero_add,to_nat,Int.zero_add,Int.sub_zero,Int.sub_self,Int.cast_ofNat_Int,Int.natCast_zero,Int.toNat_zero,List.take_zero,List.nil_append,List.length_append,List.length_nil,e];unfold badL;cases (l[i] == 0) <;> cases decide (l[i]≤IntKind.i64.wrap (0 - n)) <;> cases decide (n≤l[i]) <;> rfl
theorem last {n:Int} {l:List Int} {i:Nat} (hi:l.length≤i):RUN (stOf (sL n l i)) = .done (iv 0) [] 0:=by
 rw [step_t];simp (disch:=omega) only [Nat.add_eq,eqSy_self,eqN_self,bc_same,List.length_cons,ofn,wrap_in,dt,df,bltD,bltN,ble_of,bleN,beqD,bc_t,bc_f,nn_ok,Nat.zero_add,to_nat,Int.zero_add,Int.sub_zero,Int.sub_self,Int.cast_ofNat_Int,Int.natCast_zero,Int.toNat_zero,List.take_zero,List.nil_append,List.length_append,List.length_nil]
theorem loop {n:Int} {l:List Int} (hl:l.length≤400):∀ (k i:Nat),i+k=l.length→EndZ 42 .nil false (stOf (sL n l i)) (iv (bc ((l.drop i).any (badL n)) 7 0)) [] 0
 | 0,i,h=>by
  rw [List.drop_eq_nil_of_le (by omega)];exact .done (last (by omega))
 | k+1,i,h=>by
  have hi:i < l.length:=by omega
  have hs:=step (n:=n) hi hl;rw [List.drop_eq_getElem_cons hi,List.any_cons];cases hb:badL n l[i] <;> rw [hb] at hs
  ·exact .at (.nil _) hs (loop hl k (i+1) (by omega))
  ·exact .done hs
theorem ends (n:Int) (l:List Int):EndZ 42 .nil false (st0 42 [iv n,il l]) (iv (chk n l)) [] 0:=by
 have h:=in_t n l;unfold chk
 by_cases h1:n < 1
 ·simp only [Nat.add_eq,eqSy_self,eqN_self,bc_same,List.length_cons,ofn,wrap_in,dt,df,bltD,bltN,ble_of,bleN,beqD,bc_t,bc_f,nn_ok,Nat.zero_add,to_nat,Int.zero_add,Int.sub_zero,Int.sub_self,Int.cast_ofNat_Int,Int.natCast_zero,Int.toNat_zero,List.take_zero,List.nil_append,List.length_append,List.length_nil,dt h1] at h ⊢;exact .done h
 by_cases h2:12 < n
 ·simp only [Nat.add_eq,eqSy_self,eqN_self,bc_same,List.length_cons,ofn,wrap_in,dt,df,bltD,bltN,ble_of,bleN,beqD,bc_t,bc_f,nn_ok,Nat.zero_add,to_nat,Int.zero_add,Int.sub_zero,Int.sub_self,Int.cast_ofNat_Int,Int.natCast_zero,Int.toNat_zero,List.take_zero,List.nil_append,List.length_append,List.length_nil,df h1,dt h2] at h ⊢;exact .done h
 by_cases h3:(400:Int) < (l.length:Int)
 ·simp only [Nat.add_eq,eqSy_self,eqN_self,bc_same,List.length_cons,ofn,wrap_in,dt,df,bltD,bltN,ble_of,bleN,beqD,bc_t,bc_f,nn_ok,Nat.zero_add,to_nat,Int.zero_add,Int.sub_zero,Int.sub_self,Int.cast_ofNat_Int,Int.natCast_zero,Int.toNat_zero,List.take_zero,List.nil_append,List.length_append,List.length_nil,df h1,df h2,dt h3] at h ⊢;exact .done h
 ·simp only [Nat.add_eq,eqSy_self,eqN_self,bc_same,List.length_cons,ofn,wrap_in,dt,df,bltD,bltN,ble_of,bleN,beqD,bc_t,bc_f,nn_ok,Nat.zero_add,to_nat,Int.zero_add,Int.sub_zero,Int.sub_self,Int.cast_ofNat_Int,Int.natCast_zero,Int.toNat_zero,List.take_zero,List.nil_append,List.length_append,List.length_nil,df h1,df h2,df h3] at h ⊢;exact .at (.nil _) h (loop (by omega) l.length 0 (by omega))
end RChk
noncomputable def spRChk_0:ZCT:=fun ax=>match ax with
 | [.v (.int .i64 n),.lst (.ints .i64 l)]=>some ⟨decide (True),iv (chk n l),[],0⟩
 | _=>none
theorem spRChk_0_ok:ZCtOk Try.prog 42 spRChk_0:=fun γ w us ax r hs hc hax hN hfz=>by
 unfold spRChk_0 at hs;split at hs
 case h_2=>cases hs
 rename_i n l;obtain ⟨rfl⟩:=Option.some.inj hs;have hc_0:decide (True)=true:=hc;have hc:=of_decide_eq_true hc_0;exact EndZ.calls (RChk.ends n l) (.nil _) (by kernel_rfl) hax hN hfz
noncomputable def spRChk_1:ZCT:=fun ax=>match ax with
 | [.v (.int .i64 n),.v (.slice none 0 0)]=>some ⟨decide (True),iv (chk n []),[],0⟩
 | _=>none
theorem spRChk_1_ok:ZCtOk Try.prog 42 spRChk_1:=fun γ w us ax r hs hc hax hN hfz=>by
 unfold spRChk_1 at hs;split at hs
 case h_2=>cases hs
 rename_i n;obtain ⟨rfl⟩:=Option.some.inj hs;have hc_0:decide (True)=true:=hc;have hc:=of_decide_eq_true hc_0;exact EndZ.calls (chk_nil n (RChk.nil_t n)) (.nil _) (by kernel_rfl) hax hN hfz
noncomputable def spRChk:ZCT:=ZCT.or spRChk_0 (spRChk_1)
theorem spRChk_ok:ZCtOk Try.prog 42 spRChk:=spRChk_0_ok.or (spRChk_1_ok)
namespace PChk
noncomputable def RUN (s:ES):ZF:=RZs 83 .nil [(atS 2 135 2,[[(0,none),(1,none),(7,none),(8,none)],[],[]])] [] false s

noncomputable def sL (n:Int) (l:List Int) (z i:Int):NS:=⟨[⟨135,19,[(0,(EV.lst (SyC.ints IntKind.i64 (l)))),(1,(EV.fn 124 [(EV.ptr 0 0)])),(7,iv z),(8,iv i)],[.it (.code (nav [1,0,1,0,0] (bodyOf Try.f135))),.it (.inLoop (nav [1,0,1,0,0] (bodyOf Try.f135))),.it (.inBlock 0),.it (.code (nav [1,1] (bodyOf Try.f135)))],[],Option.none⟩,⟨123,9,[],[.ops (opsOf (nav [1,0] (bodyOf Try.f123))) ((opsOf (nav [1,0] (bodyOf Try.f123))).toList.drop 2),.it (.code (nav [1,1] (bodyOf Try.f123)))],[],Option.none⟩,⟨83,20,[],[.ops (opsOf (nav [1,0,0,1,1,1,1,0] (bodyOf Try.f83))) ((opsOf (nav [1,0,0,1,1,1,1,0] (bodyOf Try.f83))).toList.drop 2),.it (.code (nav [1,0,0,1,1,1,1,1] (bodyOf Try.f83))),.it (.inBlock 0),.it (.code (nav [1,1] (bodyOf Try.f83)))],[],Option.none⟩],[(0,(EK.cells 3 [(EV.v (Value.int IntKind.i64 (n)))] true))],1⟩
theorem in_t (n:Int) (l:List Int):RUN (st0 83 [iv n,il l])=(bc (decide (n < (1:Int))) (.done (EV.v (Value.int IntKind.i64 (2))) [] 0) (bc (decide ((12:Int) < n)) (.done (EV.v (Value.int IntKind.i64 (2))) [] 0) (bc (decide ((400:Int) < Int.ofNat (List.length l))) (.done (EV.v (Value.int IntKind.i64 (3))) [] 0) (.at (sL (n) (l) (Int.ofNat (List.length l)) ((0:Int))))))):=by kernel_rfl
theorem nil_t (n:Int):RZ 83 .nil (fun _=>false) [] [] false (st0 83 [iv n,.v (.slice none 0 0)])=(bc (decide (n < (1:Int))) (.done (EV.v (Value.int IntKind.i64 (2))) [] 0) (bc (decide ((12:Int) < n)) (.done (EV.v (Value.int IntKind.i64 (2))) [] 0) (.done (EV.v (Value.int IntKind.i64 (0))) [] 0))):=by kernel_rfl
theorem step_t (n:Int) (l:List Int) (z i:Int):RUN (stOf (sL n l z i))=(bc (decide (i < z)) (bc (bc (bc (decide ((0:Int)≤i)) (Nat.blt (Int.toNat i) (List.length l)) false) true false) (bc (bc (Nat.blt (Int.toNat i) (List.length l)) true false) (bc (List.getD l (Int.toNat i) (0:Int) == (0:Int)) (bc (decide ((0:Int)≤i)) (.done (EV.v (Value.int IntKind.i64 (7))) [] 0) (.done (EV.v (Value.int IntKind.i64 (0))) [] 0)) (bc (decide (List.getD l (Int.toNat i) (0:Int)≤IntKind.wrap IntKind.i64 ((0:Int) - n))) (bc (decide ((0:Int)≤i)) (.done (EV.v (Value.int IntKind.i64 (7))) [] 0) (.done (EV.v (Value.int IntKind.i64 (0))) [] 0)) (bc (decide (n≤List.getD l (Int.toNat i) (0:Int))) (bc (decide ((0:Int)≤i)) (.done (EV.v (Value.int IntKind.i64 (7))) [] 0) (.done (EV.v (Value.int IntKind.i64 (0))) [] 0)) (.at (sL (n) (l) (z) (IntKind.wrap IntKind.i64 (i+(1:Int)))))))) .bad) .bad) (.done (EV.v (Value.int IntKind.i64 (0))) [] 0)):=by kernel_rfl
theorem step {n:Int} {l:List Int} {i:Nat} (hi:i < l.length) (hl:l.length≤400):RUN (stOf (sL n l l.length i))=bc (badL n l[i]) (.done (iv 7) [] 0) (.at (sL n l l.length (i+1:Nat))):=by
 rw [step_t];have e:l.getD i 0=l[i]:=getD_at hi;simp (disch:=omega) only [Nat.add_eq,eqSy_self,eqN_self,bc_same,List.length_cons,ofn,wrap_in,dt,df,bltD,bltN,ble_of,bleN,beqD,bc_t,bc_f,nn_ok,Nat.zero_add,to_nat,Int.zero_add,Int.sub_zero,Int.sub_self,Int.cast_ofNat_Int,Int.natCast_zero,Int.toNat_zero,List.take_zero,List.nil_append,List.length_append,List.length_nil,e];unfold badL;cases (l[i] == 0) <;> cases decide (l[i]≤IntKind.i64.wrap (0 - n)) <;> cases decide (n≤l[i]) <;> rfl
theorem last {n:Int} {l:List Int} {i:Nat} (hi:l.length≤i):RUN (stOf (sL n l l.length i)) = .done (iv 0) [] 0:=by
 rw [step_t];simp (disch:=omega) only [Nat.add_eq,eqSy_self,eqN_self,bc_same,List.length_cons,ofn,wrap_in,dt,df,bltD,bltN,ble_of,bleN,beqD,bc_t,bc_f,nn_ok,Nat.zero_add,to_nat,Int.zero_add,Int.sub_zero,Int.sub_self,Int.cast_ofNat_Int,Int.natCast_zero,Int.toNat_zero,List.take_zero,List.nil_append,List.length_append,List.length_nil]
theorem loop {n:Int} {l:List Int} (hl:l.length≤400):∀ (k i:Nat),i+k=l.length→EndZ 83 .nil false (stOf (sL n l l.length i)) (iv (bc ((l.drop i).any (badL n)) 7 0)) [] 0
 | 0,i,h=>by
  rw [List.drop_eq_nil_of_le (by omega)];exact .done (last (by omega))
 | k+1,i,h=>by
  have hi:i < l.length:=by omega
  have hs:=step (n:=n) hi hl;rw [List.drop_eq_getElem_cons hi,List.any_cons];cases hb:badL n l[i] <;> rw [hb] at hs
  ·exact .at (.nil _) hs (loop hl k (i+1) (by omega))
  ·exact .done hs
theorem ends (n:Int) (l:List Int):EndZ 83 .nil false (st0 83 [iv n,il l]) (iv (chk n l)) [] 0:=by
 have h:=in_t n l;unfold chk
 by_cases h1:n < 1
 ·simp only [Nat.add_eq,eqSy_self,eqN_self,bc_same,List.length_cons,ofn,wrap_in,dt,df,bltD,bltN,ble_of,bleN,beqD,bc_t,bc_f,nn_ok,Nat.zero_add,to_nat,Int.zero_add,Int.sub_zero,Int.sub_self,Int.cast_ofNat_Int,Int.natCast_zero,Int.toNat_zero,List.take_zero,List.nil_append,List.length_append,List.length_nil,dt h1] at h ⊢;exact .done h
 by_cases h2:12 < n
 ·simp only [Nat.add_eq,eqSy_self,eqN_self,bc_same,List.length_cons,ofn,wrap_in,dt,df,bltD,bltN,ble_of,bleN,beqD,bc_t,bc_f,nn_ok,Nat.zero_add,to_nat,Int.zero_add,Int.sub_zero,Int.sub_self,Int.cast_ofNat_Int,Int.natCast_zero,Int.toNat_zero,List.take_zero,List.nil_append,List.length_append,List.length_nil,df h1,dt h2] at h ⊢;exact .done h
 by_cases h3:(400:Int) < (l.length:Int)
 ·simp only [Nat.add_eq,eqSy_self,eqN_self,bc_same,List.length_cons,ofn,wrap_in,dt,df,bltD,bltN,ble_of,bleN,beqD,bc_t,bc_f,nn_ok,Nat.zero_add,to_nat,Int.zero_add,Int.sub_zero,Int.sub_self,Int.cast_ofNat_Int,Int.natCast_zero,Int.toNat_zero,List.take_zero,List.nil_append,List.length_append,List.length_nil,df h1,df h2,dt h3] at h ⊢;exact .done h
 ·simp only [Nat.add_eq,eqSy_self,eqN_self,bc_same,List.length_cons,ofn,wrap_in,dt,df,bltD,bltN,ble_of,bleN,beqD,bc_t,bc_f,nn_ok,Nat.zero_add,to_nat,Int.zero_add,Int.sub_zero,Int.sub_self,Int.cast_ofNat_Int,Int.natCast_zero,Int.toNat_zero,List.take_zero,List.nil_append,List.length_append,List.length_nil,df h1,df h2,df h3] at h ⊢;exact .at (.nil _) h (loop (by omega) l.length 0 (by omega))
end PChk
noncomputable def spPChk_0:ZCT:=fun ax=>match ax with
 | [.v (.int .i64 n),.lst (.ints .i64 l)]=>some ⟨decide (True),iv (chk n l),[],0⟩
 | _=>none
theorem spPChk_0_ok:ZCtOk Try.prog 83 spPChk_0:=fun γ w us ax r hs hc hax hN hfz=>by
 unfold spPChk_0 at hs;split at hs
 case h_2=>cases hs
 rename_i n l;obtain ⟨rfl⟩:=Option.some.inj hs;have hc_0:decide (True)=true:=hc;have hc:=of_decide_eq_true hc_0;exact EndZ.calls (PChk.ends n l) (.nil _) (by kernel_rfl) hax hN hfz
noncomputable def spPChk_1:ZCT:=fun ax=>match ax with
 | [.v (.int .i64 n),.v (.slice none 0 0)]=>some ⟨decide (True),iv (chk n []),[],0⟩
 | _=>none
theorem spPChk_1_ok:ZCtOk Try.prog 83 spPChk_1:=fun γ w us ax r hs hc hax hN hfz=>by
 unfold spPChk_1 at hs;split at hs
 case h_2=>cases hs
 rename_i n;obtain ⟨rfl⟩:=Option.some.inj hs;have hc_0:decide (True)=true:=hc;have hc:=of_decide_eq_true hc_0;exact EndZ.calls (chk_nil n (PChk.nil_t n)) (.nil _) (by kernel_rfl) hax hN hfz
noncomputable def spPChk:ZCT:=ZCT.or spPChk_0 (spPChk_1)
theorem spPChk_ok:ZCtOk Try.prog 83 spPChk:=spPChk_0_ok.or (spPChk_1_ok)
namespace PEqP
noncomputable def K0 (L M:List Int) (nn nn2:Bool):List (Nat × EK):=[(0,.seq 92 (.ints .u8 L) nn),(1,.seq 92 (.ints .u8 M) nn2)]
noncomputable def RUN (s:ES):ZF:=RMs 0 85 .nil [(atS 0 85 4,[[(0,none),(1,none),(12,none),(13,none)]])] [] [] s

noncomputable def sL (L M:List Int) (len len2:Nat) (nn nn2:Bool) (z i:Int):NS:=⟨[⟨85,26,[(0,(EV.slO 0 12 (len) (nn))),(1,(EV.slO 1 12 (len2) (nn2))),(12,iv z),(13,iv i)],[.it (.code (nav [1,1,0,1,0,0] (bodyOf Try.f85))),.it (.inLoop (nav [1,1,0,1,0,0] (bodyOf Try.f85))),.it (.inBlock 0),.it (.code (nav [1,1,1] (bodyOf Try.f85)))],[],Option.none⟩],[(0,(EK.seq 92 (SyC.ints IntKind.u8 (L)) (nn))),(1,(EK.seq 92 (SyC.ints IntKind.u8 (M)) (nn2)))],2⟩
theorem in_t (L M:List Int) (len len2:Nat) (nn nn2:Bool):RUN (st0m 85 [.slO 0 12 len nn,.slO 1 12 len2 nn2] (K0 L M nn nn2) 2)=(bc (Int.ofNat len != Int.ofNat len2) (.done (EV.v (Value.bool false)) [] 0) (.at (sL (L) (M) (len) (len2) (nn) (nn2) (Int.ofNat len) ((0:Int))))):=by kernel_rfl
theorem step_t (L M:List Int) (len len2:Nat) (nn nn2:Bool) (z i:Int):RUN (stOf (sL L M len len2 nn nn2 z i))=(bc (decide (i < z)) (bc (bc (bc (bc (bc (decide ((0:Int)≤i)) (Nat.blt (Int.toNat i) len) false) true false) (bc (bc (Nat.ble (Nat.add (Nat.add (Nat.mul (Int.toNat i) (12:Nat)) (0:Nat)) (12:Nat)) (List.length L)) true false) (bc (bc (bc (decide ((0:Int)≤i)) (Nat.blt (Int.toNat i) len2) false) true false) (bc (bc (Nat.ble (Nat.add (Nat.add (Nat.mul (Int.toNat i) (12:Nat)) (0:Nat)) (12:Nat)) (List.length M)) true false) (bc (bc (bc (Nat.beq (List.length (List.take (12:Nat) (List.drop (Nat.add (Nat.mul (Int.toNat i) (12:Nat)) (0:Nat)) L))) (12:Nat)) (Nat.beq (List.length (List.take (12:Nat) (List.drop (Nat.add (Nat.mul (Int.toNat i) (12:Nat)) (0:Nat)) M))) (12:Nat)) false) true false) true false) false) false) false) false) true false) (bc (bnot (eqLI (List.take (12:Nat) (List.drop (Nat.add (Nat.mul (Int.toNat i) (12:Nat)) (0:Nat)) L)) (List.take (12:Nat) (List.drop (Nat.add (Nat.mul (Int.toNat i) (12:Nat)) (0:Nat)) M)))) (.done (EV.v (Value.bool false)) [] 0) (.at (sL (L) (M) (len) (len2) (nn) (nn2) (z) (IntKind.wrap IntKind.i64 (i+(1:Int)))))) .bad) (.done (EV.v (Value.bool true)) [] 0)):=by kernel_rfl
theorem take_win {L M:List Int} {i:Nat} (hL:i * 12+12≤L.length) (hM:i * 12+12≤M.length) (h:L.take (i * 12)=M.take (i * 12)) (hw:(L.drop (i * 12)).take 12=(M.drop (i * 12)).take 12):L.take ((i+1) * 12)=M.take ((i+1) * 12):=by
 rw [show (i+1) * 12=i * 12+12 by omega,List.take_add,List.take_add,h,hw]
theorem win_of {L M:List Int} (h:L=M) (i:Nat):(L.drop (i * 12)).take 12=(M.drop (i * 12)).take 12:=by rw [h]
theorem loop {L M:List Int} {len:Nat} {nn nn2:Bool} (hL:len * 12=L.length) (hM:len * 12=M.length) (hz:len≤5000):∀ (k i:Nat),i+k=len→L.take (i * 12)=M.take (i * 12)→EndM 0 85 .nil (stOf (sL L M len len nn nn2 len i)) (bv (eqLI L M)) [] 0
 | 0,i,h,he=>by
  obtain rfl:i=len:=by omega
  have h1:=step_t L M i i nn nn2 i i;rw [df (show ¬ (i:Int) < (i:Int) by omega),bc_f] at h1;rw [hL] at he;rw [List.take_length,← hL,hM,List.take_length] at he;rw [eqLI_iff.2 he];exact .done h1
 | k+1,i,h,he=>by
  have h1:=step_t L M len len nn nn2 len i;have e0:((i:Int)).toNat=i:=rfl;have e1:Nat.add (Nat.mul i 12) 0=i * 12:=rfl;have e2:Nat.add (i * 12) 12=i * 12+12:=rfl;have l1:((L.drop (i * 12)).take 12).length=12:=by rw [List.length_take,List.length_drop];omega
  have l2:((M.drop (i * 12)).take 12).length=12:=by rw [List.length_take,List.length_drop];omega
  rw [e0,e1,e2,l1,l2] at h1;simp (disch:=omega) only [Nat.add_eq,eqSy_self,eqN_self,bc_same,List.length_cons,ofn,wrap_in,dt,df,bltD,bltN,ble_of,bleN,beqD,bc_t,bc_f,nn_ok,Nat.zero_add,to_nat,Int.zero_add,Int.sub_zero,Int.sub_self,Int.cast_ofNat_Int,Int.natCast_zero,Int.toNat_zero,List.take_zero,List.nil_append,List.length_append,List.length_nil] at h1
  cases hq:eqLI ((L.drop (i * 12)).take 12) ((M.drop (i * 12)).take 12) with
  | true=>
   rw [hq] at h1;exact .at (.nil _) h1 (loop hL hM hz k (i+1) (by omega) (take_win (by omega) (by omega) he (eqLI_iff.1 hq)))
  | false=>
   rw [hq] at h1;have hne:eqLI L M=false:=by
    cases hx:eqLI L M with
    | false=>rfl
    | true=>rw [eqLI_iff.2 (win_of (eqLI_iff.1 hx) i)] at hq;cases hq
   rw [hne];exact .done h1
theorem ends {L M:List Int} {len len2:Nat} {nn nn2:Bool} (hL:len * 12=L.length) (hM:len2 * 12=M.length) (hz:len≤5000):EndM 0 85 .nil (st0m 85 [.slO 0 12 len nn,.slO 1 12 len2 nn2] (K0 L M nn nn2) 2) (bv (eqLI L M)) [] 0:=by
 have h:=in_t L M len len2 nn nn2
 by_cases e:len=len2
 ·subst e;have e1:(Int.ofNat len != Int.ofNat len)=false:=by simp
  rw [e1,bc_f] at h;exact .at (.nil _) h (loop hL hM hz len 0 (by omega) (by simp))
 ·have e1:(Int.ofNat len != Int.ofNat len2)=true:=by simp;omega
  rw [e1,bc_t] at h;have hne:eqLI L M=false:=by
   cases hx:eqLI L M with
   | false=>rfl
   | true=>have:=congrArg List.length (eqLI_iff.1 hx);omega
  rw [hne];exact .done h
end PEqP
noncomputable def spEqP:ZMT:=fun ax K0 m=>match ax,K0 with
 | [.slO 0 12 len nn,.slO 1 12 len2 nn2],[(0,.seq 92 (.ints .u8 L) v_0),(1,.seq 92 (.ints .u8 M) v_1)]=>bc (Nat.beq m (2)) (some ⟨bc (eqN v_0 (nn)) (bc (eqN v_1 (nn2)) (decide (len * 12=L.length∧len2 * 12=M.length∧len≤5000)) false) false,bv (eqLI L M),[],0,0⟩) none
 | _,_=>none
theorem spEqP_ok:ZMtOk Try.prog 85 spEqP:=fun γ w0 w us ax K0 m r hs hc hres hax hH=>by
 unfold spEqP at hs;split at hs
 case h_2=>cases hs
 rename_i len nn len2 nn2 L v_0 M v_1;obtain ⟨hm,rfl⟩:=noN hs;have hm:=Nat.eq_of_beq_eq_true hm;subst hm;have hc_0:bc (eqN v_0 (nn)) (bc (eqN v_1 (nn2)) (decide (len * 12=L.length∧len2 * 12=M.length∧len≤5000)) false) false=true:=hc;obtain ⟨q_0,hc_1⟩:=bcT hc_0;have p_0:=(eqN_ok q_0).symm;subst p_0;obtain ⟨q_1,hc_2⟩:=bcT hc_1;have p_1:=(eqN_ok q_1).symm;subst p_1;have hc:=of_decide_eq_true hc_2;exact EndM.calls (PEqP.ends hc.1 hc.2.1 hc.2.2) (.nil _) (by kernel_rfl) hres hax hH
end Go.Proofs.Ytooimphimnagaaa.Ev
namespace Go.Proofs.Ytooimphimnagaaa.Ev
open Go.Proofs
theorem chk_wok {n:Int} {w:List Int} (h:chk n w=0):WOk n w∧w.length≤400:=by
 unfold chk at h
 by_cases h1:n < 1
 ·rw [dt h1,bc_t] at h;omega
 by_cases h2:12 < n
 ·rw [df h1,dt h2,bc_f,bc_t] at h;omega
 by_cases h3:(400:Int) < Int.ofNat w.length
 ·rw [df h1,df h2,dt h3,bc_f,bc_f,bc_t] at h;omega
 rw [df h1,df h2,df h3,bc_f,bc_f,bc_f] at h;rw [ofn] at h3;refine ⟨⟨by omega,by omega,by omega,fun x hx=>?_⟩,by omega⟩
 cases ha:w.any (badL n) with
 | true=>rw [ha,bc_t] at h;omega
 | false=>
  have h4:badL n x=false:=by
   cases hb:badL n x with
   | false=>rfl
   | true=>rw [List.any_eq_true.2 ⟨x,hx,hb⟩] at ha;cases ha
  unfold badL at h4;rw [wrap_in (0 - n) (by omega) (by omega)] at h4;have e:((n.toNat:Nat):Int)=n:=Int.toNat_of_nonneg (by omega);rw [e]
  by_cases q1:x=0
  ·rw [show (x == 0)=true by simp [q1],bc_t] at h4;cases h4
  ·rw [show (x == 0)=false by simp [q1],bc_f] at h4
   by_cases q2:x≤0 - n
   ·rw [dt q2,bc_t] at h4;cases h4
   ·rw [df q2,bc_f] at h4;have q3:=of_decide_eq_false h4;exact ⟨q1,by omega,by omega⟩
noncomputable def sameN (n:Int) (a b:List Int):Bool:=decide (nfW n.toNat a=nfW n.toNat b)
noncomputable def samE (n:Int) (a b:List Int):Int:=bc (chk n a != 0) (chk n a) (chk n b)
noncomputable def samB (n:Int) (a b:List Int):Bool:=bc (samE n a b != 0) false (sameN n a b)
theorem sameN_of {n:Int} (h2:n≤12) (a b:List Int):sameN n a b=bc ((nfW n.toNat a).pw == (nfW n.toNat b).pw) (eqLI (encF (nfW n.toNat a).F) (encF (nfW n.toNat b).F)) false:=by
 have hn:n.toNat≤12:=by omega
 unfold sameN
 by_cases h1:(nfW n.toNat a).pw=(nfW n.toNat b).pw
 ·rw [show ((nfW n.toNat a).pw == (nfW n.toNat b).pw)=true by simp [h1],bc_t]
  by_cases h2:encF (nfW n.toNat a).F=encF (nfW n.toNat b).F
  ·rw [eqLI_iff.2 h2];exact decide_eq_true (Frm.ext h1 (encF_inj hn h2))
  ·have:eqLI (encF (nfW n.toNat a).F) (encF (nfW n.toNat b).F)=false:=by
    cases h:eqLI (encF (nfW n.toNat a).F) (encF (nfW n.toNat b).F) with
    | false=>rfl
    | true=>exact absurd (eqLI_iff.1 h) h2
   rw [this];exact decide_eq_false fun e=>h2 (by rw [e])
 ·rw [show ((nfW n.toNat a).pw == (nfW n.toNat b).pw)=false by simp [h1],bc_f];exact decide_eq_false fun e=>h1 (by rw [e])
theorem nf_small {n:Int} {w:List Int} (h:WOk n w):(nfW n.toNat w).F.length≤5000:=by
 obtain ⟨_,_,h3,_⟩:=h;have:∀ (w:List Int) (s:Frm n.toNat),(w.foldl Frm.step s).F.length≤s.F.length+w.length:=by
  intro w
  induction w with
  | nil=>intro s;exact Nat.le_refl _
  | cons x w ih=>
   intro s;have h1:=ih (s.step x);have h2:=(step_len s x).1;rw [List.foldl_cons,List.length_cons];omega
 have:=this w ⟨0,[]⟩;have e:nfW n.toNat w=w.foldl Frm.step ⟨0,[]⟩:=rfl;rw [e];simp at this;omega
namespace PSam
noncomputable def ct:Tr ZCC:=((Tr.nil.put 83 (some (dC spPChk))).put 84 (some (mC spNrm))).put 85 (some (mC spEqP))
theorem ct_ok:ZCtsOk Try.prog ct:=(((ZCtsOk.nil _).add rfl spPChk_ok).addM rfl spNrm_ok).addM rfl spEqP_ok
noncomputable def RUN (s:ES):ZF:=RZ 27 ct (fun _=>false) [] [] false s
theorem in_t (n:Int) (a b:List Int):RUN (st0 27 [iv n,il a,il b])=(bc (List.getD (List.map (fun r=>U.int (List.headD r (U.i (0:Int)))) [[U.i (chk n a)],[U.i (chk n b)]]) (Int.toNat (0:Int)) (0:Int) != (0:Int)) (bc (List.getD (List.map (fun r=>U.int (List.headD r (U.i (0:Int)))) [[U.i (chk n a)],[U.i (chk n b)]]) (Int.toNat (0:Int)) (0:Int) != (0:Int)) (.done (EV.tup [(EV.v (Value.bool false)),(EV.v (Value.int IntKind.i64 (List.getD (List.map (fun r=>U.int (List.headD r (U.i (0:Int)))) [[U.i (chk n a)],[U.i (chk n b)]]) (Int.toNat (0:Int)) (0:Int))))]) [] 0) (bc (bc (decide (WOk n a)) true false) (bc (bc (decide (WOk n b)) true false) (bc (Frm.pw (nfW (Int.toNat n) a) == Frm.pw (nfW (Int.toNat n) b)) (bc (bc (bc (eqB (Frm.pw (nfW (Int.toNat n) a) == Frm.pw (nfW (Int.toNat n) b)) true) (bc (bc (bc (eqN (Nat.blt (0:Nat) (List.length a)) (Nat.blt (0:Nat) (List.length a))) (bc (eqN (Nat.blt (0:Nat) (List.length b)) (Nat.blt (0:Nat) (List.length b))) (decide (List.length (Frm.F (nfW (Int.toNat n) a)) * (12:Nat)=List.length (encF (Frm.F (nfW (Int.toNat n) a)))∧List.length (Frm.F (nfW (Int.toNat n) b)) * (12:Nat)=List.length (encF (Frm.F (nfW (Int.toNat n) b)))∧List.length (Frm.F (nfW (Int.toNat n) a))≤(5000:Nat))) false) false) true false) true false) false) true false) (.done (EV.tup [(EV.v (Value.bool (eqLI (encF (Frm.F (nfW (Int.toNat n) a))) (encF (Frm.F (nfW (Int.toNat n) b)))))),(EV.v (Value.int IntKind.i64 (0)))]) [] 0) .bad) (bc (bc (bc (eqB (Frm.pw (nfW (Int.toNat n) a) == Frm.pw (nfW (Int.toNat n) b)) false) true false) true false) (.done (EV.tup [(EV.v (Value.bool false)),(EV.v (Value.int IntKind.i64 (0)))]) [] 0) .bad)) .bad) .bad)) (bc (List.getD (List.map (fun r=>U.int (List.headD r (U.i (0:Int)))) [[U.i (chk n a)],[U.i (chk n b)]]) (Int.toNat (IntKind.wrap IntKind.i64 ((0:Int)+(1:Int)))) (0:Int) != (0:Int)) (bc (List.getD (List.map (fun r=>U.int (List.headD r (U.i (0:Int)))) [[U.i (chk n a)],[U.i (chk n b)]]) (Int.toNat (IntKind.wrap IntKind.i64 ((0:Int)+(1:Int)))) (0:Int) != (0:Int)) (.done (EV.tup [(EV.v (Value.bool false)),(EV.v (Value.int IntKind.i64 (List.getD (List.map (fun r=>U.int (List.headD r (U.i (0:Int)))) [[U.i (chk n a)],[U.i (chk n b)]]) (Int.toNat (IntKind.wrap IntKind.i64 ((0:Int)+(1:Int)))) (0:Int))))]) [] 0) (bc (bc (decide (WOk n a)) true false) (bc (bc (decide (WOk n b)) true false) (bc (Frm.pw (nfW (Int.toNat n) a) == Frm.pw (nfW (Int.toNat n) b)) (bc (bc (bc (eqB (Frm.pw (nfW (Int.toNat n) a) == Frm.pw (nfW (Int.toNat n) b)) true) (bc (bc (bc (eqN (Nat.blt (0:Nat) (List.length a)) (Nat.blt (0:Nat) (List.length a))) (bc (eqN (Nat.blt (0:Nat) (List.length b)) (Nat.blt (0:Nat) (List.length b))) (decide (List.length (Frm.F (nfW (Int.toNat n) a)) * (12:Nat)=List.length (encF (Frm.F (nfW (Int.toNat n) a)))∧List.length (Frm.F (nfW (Int.toNat n) b)) * (12:Nat)=List.length (encF (Frm.F (nfW (Int.toNat n) b)))∧List.length (Frm.F (nfW (Int.toNat n) a))≤(5000:Nat))) false) false) true false) true false) false) true false) (.done (EV.tup [(EV.v (Value.bool (eqLI (encF (Frm.F (nfW (Int.toNat n) a))) (encF (Frm.F (nfW (Int.toNat n) b)))))),(EV.v (Value.int IntKind.i64 (0)))]) [] 0) .bad) (bc (bc (bc (eqB (Frm.pw (nfW (Int.toNat n) a) == Frm.pw (nfW (Int.toNat n) b)) false) true false) true false) (.done (EV.tup [(EV.v (Value.bool false)),(EV.v (Value.int IntKind.i64 (0)))]) [] 0) .bad)) .bad) .bad)) (bc (bc (decide (WOk n a)) true false) (bc (bc (decide (WOk n b)) true false) (bc (Frm.pw (nfW (Int.toNat n) a) == Frm.pw (nfW (Int.toNat n) b)) (bc (bc (bc (eqB (Frm.pw (nfW (Int.toNat n) a) == Frm.pw (nfW (Int.toNat n) b)) true) (bc (bc (bc (eqN (Nat.blt (0:Nat) (List.length a)) (Nat.blt (0:Nat) (List.length a))) (bc (eqN (Nat.blt (0:Nat) (List.length b)) (Nat.blt (0:Nat) (List.length b))) (decide (List.length (Frm.F (nfW (Int.toNat n) a)) * (12:Nat)=List.length (encF (Frm.F (nfW (Int.toNat n) a)))∧List.length (Frm.F (nfW (Int.toNat n) b)) * (12:Nat)=List.length (encF (Frm.F (nfW (Int.toNat n) b)))∧List.length (Frm.F (nfW (Int.toNat n) a))≤(5000:Nat))) false) false) true false) true false) false) true false) (.done (EV.tup [(EV.v (Value.bool (eqLI (encF (Frm.F (nfW (Int.toNat n) a))) (encF (Frm.F (nfW (Int.toNat n) b)))))),(EV.v (Value.int IntKind.i64 (0)))]) [] 0) .bad) (bc (bc (bc (eqB (Frm.pw (nfW (Int.toNat n) a) == Frm.pw (nfW (Int.toNat n) b)) false) true false) true false) (.done (EV.tup [(EV.v (Value.bool false)),(EV.v (Value.int IntKind.i64 (0)))]) [] 0) .bad)) .bad) .bad))):=by kernel_rfl
theorem nil_t (n:Int) (a:List Int):RUN (st0 27 [iv n,il a,.v (.slice none 0 0)])=(bc (List.getD (List.map (fun r=>U.int (List.headD r (U.i (0:Int)))) [[U.i (chk n a)],[U.i (chk n [])]]) (Int.toNat (0:Int)) (0:Int) != (0:Int)) (bc (List.getD (List.map (fun r=>U.int (List.headD r (U.i (0:Int)))) [[U.i (chk n a)],[U.i (chk n [])]]) (Int.toNat (0:Int)) (0:Int) != (0:Int)) (.done (EV.tup [(EV.v (Value.bool false)),(EV.v (Value.int IntKind.i64 (List.getD (List.map (fun r=>U.int (List.headD r (U.i (0:Int)))) [[U.i (chk n a)],[U.i (chk n [])]]) (Int.toNat (0:Int)) (0:Int))))]) [] 0) (bc (bc (decide (WOk n a)) true false) (bc (Frm.pw (nfW (Int.toNat n) a) == (0:Int)) (bc (bc (bc (eqB (Frm.pw (nfW (Int.toNat n) a) == (0:Int)) true) (bc (bc (bc (eqN (Nat.blt (0:Nat) (List.length a)) (Nat.blt (0:Nat) (List.length a))) (decide (List.length (Frm.F (nfW (Int.toNat n) a)) * (12:Nat)=List.length (encF (Frm.F (nfW (Int.toNat n) a)))∧(0:Nat) * (12:Nat)=List.length (zerosL (0:Nat))∧List.length (Frm.F (nfW (Int.toNat n) a))≤(5000:Nat))) false) true false) true false) false) true false) (.done (EV.tup [(EV.v (Value.bool (eqLI (encF (Frm.F (nfW (Int.toNat n) a))) (zerosL (0:Nat))))),(EV.v (Value.int IntKind.i64 (0)))]) [] 0) .bad) (bc (bc (bc (eqB (Frm.pw (nfW (Int.toNat n) a) == (0:Int)) false) true false) true false) (.done (EV.tup [(EV.v (Value.bool false)),(EV.v (Value.int IntKind.i64 (0)))]) [] 0) .bad)) .bad)) (bc (List.getD (List.map (fun r=>U.int (List.headD r (U.i (0:Int)))) [[U.i (chk n a)],[U.i (chk n [])]]) (Int.toNat (IntKind.wrap IntKind.i64 ((0:Int)+(1:Int)))) (0:Int) != (0:Int)) (bc (List.getD (List.map (fun r=>U.int (List.headD r (U.i (0:Int)))) [[U.i (chk n a)],[U.i (chk n [])]]) (Int.toNat (IntKind.wrap IntKind.i64 ((0:Int)+(1:Int)))) (0:Int) != (0:Int)) (.done (EV.tup [(EV.v (Value.bool false)),(EV.v (Value.int IntKind.i64 (List.getD (List.map (fun r=>U.int (List.headD r (U.i (0:Int)))) [[U.i (chk n a)],[U.i (chk n [])]]) (Int.toNat (IntKind.wrap IntKind.i64 ((0:Int)+(1:Int)))) (0:Int))))]) [] 0) (bc (bc (decide (WOk n a)) true false) (bc (Frm.pw (nfW (Int.toNat n) a) == (0:Int)) (bc (bc (bc (eqB (Frm.pw (nfW (Int.toNat n) a) == (0:Int)) true) (bc (bc (bc (eqN (Nat.blt (0:Nat) (List.length a)) (Nat.blt (0:Nat) (List.length a))) (decide (List.length (Frm.F (nfW (Int.toNat n) a)) * (12:Nat)=List.length (encF (Frm.F (nfW (Int.toNat n) a)))∧(0:Nat) * (12:Nat)=List.length (zerosL (0:Nat))∧List.length (Frm.F (nfW (Int.toNat n) a))≤(5000:Nat))) false) true false) true false) false) true false) (.done (EV.tup [(EV.v (Value.bool (eqLI (encF (Frm.F (nfW (Int.toNat n) a))) (zerosL (0:Nat))))),(EV.v (Value.int IntKind.i64 (0)))]) [] 0) .bad) (bc (bc (bc (eqB (Frm.pw (nfW (Int.toNat n) a) == (0:Int)) false) true false) true false) (.done (EV.tup [(EV.v (Value.bool false)),(EV.v (Value.int IntKind.i64 (0)))]) [] 0) .bad)) .bad)) (bc (bc (decide (WOk n a)) true false) (bc (Frm.pw (nfW (Int.toNat n) a) == (0:Int)) (bc (bc (bc (eqB (Frm.pw (nfW (Int.toNat n) a) == (0:Int)) true) (bc (bc (bc (eqN (Nat.blt (0:Nat) (List.length a)) (Nat.blt (0:Nat) (List.length a))) (decide (List.length (Frm.F (nfW (Int.toNat n) a)) * (12:Nat)=List.length (encF (Frm.F (nfW (Int.toNat n) a)))∧(0:Nat) * (12:Nat)=List.length (zerosL (0:Nat))∧List.length (Frm.F (nfW (Int.toNat n) a))≤(5000:Nat))) false) true false) true false) false) true false) (.done (EV.tup [(EV.v (Value.bool (eqLI (encF (Frm.F (nfW (Int.toNat n) a))) (zerosL (0:Nat))))),(EV.v (Value.int IntKind.i64 (0)))]) [] 0) .bad) (bc (bc (bc (eqB (Frm.pw (nfW (Int.toNat n) a) == (0:Int)) false) true false) true false) (.done (EV.tup [(EV.v (Value.bool false)),(EV.v (Value.int IntKind.i64 (0)))]) [] 0) .bad)) .bad))):=by kernel_rfl
theorem fin {n:Int} {a b:List Int} {s:ES} (z1:chk n a=0) (z2:chk n b=0) (h:RUN s=bc ((nfW n.toNat a).pw == (nfW n.toNat b).pw) (.done (.tup [bv (eqLI (encF (nfW n.toNat a).F) (encF (nfW n.toNat b).F)),iv 0]) [] 0) (.done (.tup [bv false,iv 0]) [] 0)):EndZ 27 ct false s (.tup [bv (samB n a b),iv (samE n a b)]) [] 0:=by
 have e1:samE n a b=0:=by unfold samE;rw [z1,z2];rfl
 obtain ⟨⟨_,h2,_⟩,_⟩:=chk_wok z1;unfold samB;rw [e1,show ((0:Int) != 0)=false from rfl,bc_f,sameN_of h2]
 cases hq:((nfW n.toNat a).pw == (nfW n.toNat b).pw) with
 | true=>rw [hq,bc_t] at h;rw [bc_t];exact .done h
 | false=>rw [hq,bc_f] at h;rw [bc_f];exact .done h
theorem bad {n:Int} {a b:List Int} {s:ES} {e:Int} (h0:e≠0) (he:samE n a b=e) (h:RUN s = .done (.tup [bv false,iv e]) [] 0):EndZ 27 ct false s (.tup [bv (samB n a b),iv (samE n a b)]) [] 0:=by
 unfold samB;rw [he,show (e != 0)=true by simp [h0],bc_t];exact .done h
theorem ends (n:Int) (a b:List Int):EndZ 27 ct false (st0 27 [iv n,il a,il b]) (.tup [bv (samB n a b),iv (samE n a b)]) [] 0:=by
 have h:=in_t n a b;have g0:List.getD (List.map (fun r=>U.int (List.headD r (U.i 0))) [[U.i (chk n a)],[U.i (chk n b)]]) (Int.toNat 0) 0=chk n a:=rfl;have g1:List.getD (List.map (fun r=>U.int (List.headD r (U.i 0))) [[U.i (chk n a)],[U.i (chk n b)]]) (Int.toNat (IntKind.wrap IntKind.i64 (0+1))) 0=chk n b:=rfl;rw [g0,g1] at h
 by_cases z1:chk n a=0
 ·rw [z1,show ((0:Int) != 0)=false from rfl,bc_f] at h
  by_cases z2:chk n b=0
  ·rw [z2,show ((0:Int) != 0)=false from rfl,bc_f] at h
   have w1:=(chk_wok z1).1;have w2:=(chk_wok z2).1;rw [dt w1,dt w2,encF_len,encF_len,dt ⟨rfl,rfl,nf_small w1⟩] at h;refine fin z1 z2 (h.trans ?_);cases (nfW n.toNat a).pw == (nfW n.toNat b).pw <;> simp only [Nat.add_eq,eqSy_self,eqN_self,bc_same,List.length_cons,ofn,wrap_in,dt,df,bltD,bltN,ble_of,bleN,beqD,bc_t,bc_f,nn_ok,Nat.zero_add,to_nat,Int.zero_add,Int.sub_zero,Int.sub_self,Int.cast_ofNat_Int,Int.natCast_zero,Int.toNat_zero,List.take_zero,List.nil_append,List.length_append,List.length_nil,eqB] <;> rfl
  ·rw [show (chk n b != 0)=true by simp [z2],bc_t,bc_t] at h;exact bad z2 (by unfold samE;rw [z1];rfl) h
 ·rw [show (chk n a != 0)=true by simp [z1],bc_t,bc_t] at h;exact bad z1 (by unfold samE;rw [show (chk n a != 0)=true by simp [z1],bc_t]) h
theorem endsN (n:Int) (a:List Int):EndZ 27 ct false (st0 27 [iv n,il a,.v (.slice none 0 0)]) (.tup [bv (samB n a []),iv (samE n a [])]) [] 0:=by
 have h:=nil_t n a;have g0:List.getD (List.map (fun r=>U.int (List.headD r (U.i 0))) [[U.i (chk n a)],[U.i (chk n [])]]) (Int.toNat 0) 0=chk n a:=rfl;have g1:List.getD (List.map (fun r=>U.int (List.headD r (U.i 0))) [[U.i (chk n a)],[U.i (chk n [])]]) (Int.toNat (IntKind.wrap IntKind.i64 (0+1))) 0=chk n []:=rfl;rw [g0,g1] at h
 by_cases z1:chk n a=0
 ·rw [z1,show ((0:Int) != 0)=false from rfl,bc_f] at h
  by_cases z2:chk n []=0
  ·rw [z2,show ((0:Int) != 0)=false from rfl,bc_f] at h
   have w1:=(chk_wok z1).1;rw [dt w1,encF_len,dt ⟨rfl,rfl,nf_small w1⟩] at h;refine fin z1 z2 (h.trans ?_);show bc ((nfW n.toNat a).pw == 0) _ _=bc ((nfW n.toNat a).pw == 0) _ _;cases (nfW n.toNat a).pw == 0 <;> simp only [Nat.add_eq,eqSy_self,eqN_self,bc_same,List.length_cons,ofn,wrap_in,dt,df,bltD,bltN,ble_of,bleN,beqD,bc_t,bc_f,nn_ok,Nat.zero_add,to_nat,Int.zero_add,Int.sub_zero,Int.sub_self,Int.cast_ofNat_Int,Int.natCast_zero,Int.toNat_zero,List.take_zero,List.nil_append,List.length_append,List.length_nil,eqB] <;> rfl
  ·rw [show (chk n [] != 0)=true by simp [z2],bc_t,bc_t] at h;exact bad z2 (by unfold samE;rw [z1];rfl) h
 ·rw [show (chk n a != 0)=true by simp [z1],bc_t,bc_t] at h;exact bad z1 (by unfold samE;rw [show (chk n a != 0)=true by simp [z1],bc_t]) h
end PSam
noncomputable def spPSam_0:ZCT:=fun ax=>match ax with
 | [.v (.int .i64 n),.lst (.ints .i64 a),.lst (.ints .i64 b)]=>some ⟨decide (True),.tup [bv (samB n a b),iv (samE n a b)],[],0⟩
 | _=>none
theorem spPSam_0_ok:ZCtOk Try.prog 27 spPSam_0:=fun γ w us ax r hs hc hax hN hfz=>by
 unfold spPSam_0 at hs;split at hs
 case h_2=>cases hs
 rename_i n a b;obtain ⟨rfl⟩:=Option.some.inj hs;have hc_0:decide (True)=true:=hc;have hc:=of_decide_eq_true hc_0;exact EndZ.calls (PSam.ends n a b) PSam.ct_ok (by kernel_rfl) hax hN hfz
noncomputable def spPSam_1:ZCT:=fun ax=>match ax with
 | [.v (.int .i64 n),.lst (.ints .i64 a),.v (.slice none 0 0)]=>some ⟨decide (True),.tup [bv (samB n a []),iv (samE n a [])],[],0⟩
 | _=>none
theorem spPSam_1_ok:ZCtOk Try.prog 27 spPSam_1:=fun γ w us ax r hs hc hax hN hfz=>by
 unfold spPSam_1 at hs;split at hs
 case h_2=>cases hs
 rename_i n a;obtain ⟨rfl⟩:=Option.some.inj hs;have hc_0:decide (True)=true:=hc;have hc:=of_decide_eq_true hc_0;exact EndZ.calls (PSam.endsN n a) PSam.ct_ok (by kernel_rfl) hax hN hfz
noncomputable def spPSam:ZCT:=ZCT.or spPSam_0 (spPSam_1)
theorem spPSam_ok:ZCtOk Try.prog 27 spPSam:=spPSam_0_ok.or (spPSam_1_ok)
namespace PTri
end PTri
end Go.Proofs.Ytooimphimnagaaa.Ev
namespace Go.Proofs.Ytooimphimnagaaa.Ev
variable {n:Nat}

def gW:List Int→Nat→Nat
 | [],x=>x
 | l :: w,x=>gW w (sw l.natAbs x)
theorem gW_app:∀ (u v:List Int) (x:Nat),gW (u ++ v) x=gW v (gW u x)
 | [],_,_=>rfl
 | l :: u,v,x=>gW_app u v (sw l.natAbs x)
theorem Vld.head {x:Int} {w:List Int} (h:Vld n (x :: w)):0 < x.natAbs∧x.natAbs < n:=by
 obtain ⟨h1,h2,h3⟩:=h x List.mem_cons_self;omega
theorem Vld.tail {x:Int} {w:List Int} (h:Vld n (x :: w)):Vld n w:=fun y hy=>h y (List.mem_cons_of_mem _ hy)
theorem Vld.app {u v:List Int} (h:Vld n u) (k:Vld n v):Vld n (u ++ v):=fun x hx=>by
 rcases List.mem_append.1 hx with e | e
 ·exact h x e
 ·exact k x e
def SmL (l:List Int):Prop:=∀ x,x ∈ l → -1000≤x∧x≤1000
noncomputable instance (l:List Int):Decidable (SmL l):=Classical.propDecidable _
def invW (w:List Int):List Int:=(w.map fun x=>-x).reverse
theorem invW_vld {w:List Int} (h:Vld n w):Vld n (invW w):=fun x hx=>by
 unfold invW at hx;rw [List.mem_reverse] at hx;obtain ⟨y,hy,rfl⟩:=List.mem_map.1 hx;obtain ⟨h1,h2,h3⟩:=h y hy;omega
theorem invW_invW (w:List Int):invW (invW w)=w:=by
 unfold invW;rw [List.map_reverse,List.reverse_reverse,List.map_map];refine (List.map_congr_left (g:=id) fun x _=>?_).trans (List.map_id _);show - -x=x;omega
theorem E.cancel (hn:2≤n) {x:Int} (hx:0 < x.natAbs∧x.natAbs < n) (s:Int × List (Pm n)):E (stepW (stepW s x) (-x)) s:=by
 rcases Int.lt_or_le x 0 with h | h
 ·obtain ⟨k,hk⟩:=Int.eq_ofNat_of_zero_le (show 0 ≤ -x by omega);have e:x = -(k:Int):=by omega
  subst e;rw [show - -(k:Int)=(k:Int) by omega];exact E.negpos hn s (by omega)
 ·obtain ⟨k,rfl⟩:=Int.eq_ofNat_of_zero_le h;exact E.posneg hn s (by omega)
theorem nf_of_E (hn:2≤n) {u v:List Int} (h:E (rowW n u) (rowW n v)):nfW n u=nfW n v:=(frm_E hn (nfW_rep n u) (nfW_rep n v)).1 h
end Go.Proofs.Ytooimphimnagaaa.Ev
namespace Go.Proofs.Ytooimphimnagaaa.Ev
open Go.Proofs

namespace PUnd
end PUnd
namespace PIvr
end PIvr
namespace PCat
end PCat
namespace PTms
end PTms
end Go.Proofs.Ytooimphimnagaaa.Ev
namespace Go.Proofs.Ytooimphimnagaaa.Ev
open Go.Proofs
variable {n:Nat}
theorem zeros_len (k:Nat):(zerosL k).length=k:=by unfold zerosL;simp
namespace PLis
end PLis
namespace PPrm
end PPrm
end Go.Proofs.Ytooimphimnagaaa.Ev
namespace Go.Proofs.Ytooimphimnagaaa.Ev
open Go.Proofs
variable {n:Nat}
namespace POth
end POth

end Go.Proofs.Ytooimphimnagaaa.Ev
namespace Go.Proofs.Ytooimphimnagaaa.Ev
open Go.Proofs
variable {n:Nat}
namespace PDrp
end PDrp
namespace PLay
end PLay
end Go.Proofs.Ytooimphimnagaaa.Ev
namespace Go.Proofs.Ytooimphimnagaaa.Ev
variable {n:Nat}

noncomputable instance pmDec (p q:Pm n):Decidable (p=q):=Classical.propDecidable _
end Go.Proofs.Ytooimphimnagaaa.Ev
namespace Go.Proofs.Ytooimphimnagaaa.Ev
open Go.Proofs
namespace RLin
end RLin
namespace RAft
end RAft
namespace RFin
end RFin
namespace RTrn
end RTrn
namespace RFlt
end RFlt
end Go.Proofs.Ytooimphimnagaaa.Ev
namespace Go.Proofs.Ytooimphimnagaaa.Ev
open Go.Proofs
variable {n:Nat}
namespace RLin
end RLin
namespace RAft
end RAft
namespace RFin
end RFin
namespace RTrn
end RTrn
namespace RFlt
end RFlt
end Go.Proofs.Ytooimphimnagaaa.Ev
namespace Go.Proofs.Ytooimphimnagaaa.Ev
open Go.Proofs
namespace RWo
end RWo
namespace RSli
end RSli
end Go.Proofs.Ytooimphimnagaaa.Ev
namespace Go.Proofs.Ytooimphimnagaaa.Ev
open Go.Proofs
variable {n:Nat}
namespace RWo
end RWo
namespace RSli
end RSli
end Go.Proofs.Ytooimphimnagaaa.Ev
namespace Go.Proofs.Ytooimphimnagaaa.Ev
open Go.Proofs
namespace RNrm
end RNrm
end Go.Proofs.Ytooimphimnagaaa.Ev
namespace Go.Proofs.Ytooimphimnagaaa.Ev
open Go.Proofs
variable {n:Nat}
namespace RNrm
end RNrm
end Go.Proofs.Ytooimphimnagaaa.Ev
namespace Go.Proofs.Ytooimphimnagaaa.Ev
open Go.Proofs
namespace RSin
end RSin
namespace RSfo
end RSfo
namespace RSam
end RSam
namespace RTri
end RTri
end Go.Proofs.Ytooimphimnagaaa.Ev
namespace Go.Proofs.Ytooimphimnagaaa.Ev
open Go.Proofs
theorem awakeB_run:endsB (exClosed Try.prog ft (drD Try.prog ft 16 4) 25 18)=true:=by kernel_rfl
theorem awakeBC (w:World):Calls Try.prog 25 #[] w fun e w'=>e = .returned (.bool true)∧Stays w w':=closedTrue ftOk (drD_ok mix ftOk 16 4) awakeB_run w
theorem spAwakeB_ok:ZCtOk Try.prog 25 spTrue:=spTrue_ok awakeBC
end Go.Proofs.Ytooimphimnagaaa.Ev
namespace Go.Proofs.Ytooimphimnagaaa
open Go.ChangeShapes Go.WideShapes Go.ChangeAt Go.RowKit

theorem kept_of_stays {W W':World} (h:Ev.Stays W W') (may:MemPlace→Prop):W.keptBut W' may:=by
 refine ⟨h.os,h.output,fun i hi=>?_⟩;have e:=h.block i hi;rw [e]
 cases hb:W.heap[i]? with
 | none=>simp
 | some o=>
  cases o <;> first | exact ⟨rfl,rfl,rfl,fun _ _=>rfl⟩ | exact .inr ⟨rfl,rfl⟩ | rfl
theorem frozen_of_stays {W W':World} (h:Ev.Stays W W') (a:Addr) (ha:a.block < W.heap.size):W'.frozen? a=W.frozen? a:=by
 unfold World.frozen?;rw [h.block _ ha]
section
variable {H:Type} {enc:TypeId × Value→H} {P:Program}

theorem post_of_stays {f:Func} {s:ChangeSpec} {apart fresh handsOn again:Bool} {W W':World} {args:Array Value} {v:Value} {ds gs:List (DataW H)} {before pa pv:List MemPlace}
  (hW:DataW.Whole enc P f.params.toList s.vars apart W args.toList ds gs before)
  (hres:∀ (b:Nat) (sp:Nat→Bool) (hd:Bool),DataW.TrodAll enc P W' b sp hd f.resultTypes.toList (v.resultList f.resultTypes.size) (s.fn H (ds ++ gs)).results [])
  (hargs:∀ sp:Nat→Bool,(∀ p ∈ before,sp p.block=true)→DataW.TrodAll enc P W' 0 sp true f.params.toList args.toList (s.fn H (ds ++ gs)).args pa)
  (hvars:∀ sp:Nat→Bool,(∀ p ∈ before,sp p.block=true)→DataW.TrodVars enc P W' sp s.vars (s.fn H (ds ++ gs)).vars pv)
  (hps:before=pa ++ pv) (hst:Ev.Stays W W')
  (hok:∀ (j:Nat) (t:TypeId) (r:Value),f.resultTypes[j]? = some t→(v.resultList f.resultTypes.size)[j]? = some r→Value.okWide P W' .any 0 t r) :
  s.post enc P f apart fresh handsOn again W args v W':=by
 have hk:W.keptBut W' (· ∈ before):=kept_of_stays hst _;have hold:∀ p ∈ before,(fun b=>decide (b < W.heap.size)) p.block=true:=fun p hp=>by simpa using hW.lt p hp
 have hlt:=fun p hp=>hW.lt p hp;refine ⟨ds,gs,before,[],pa,pv,hW,hres _ _ _,hargs _ hold,hvars _ hold,World.keptBut_mono (fun p hp=>⟨hp,?_⟩) hk,fun _=>?_⟩
 ·rw [hps,List.mem_append] at hp;exact Or.inr hp
 ·obtain ⟨_,_,_,_,_,hz,hn⟩:=hW;refine ⟨hok,_,_,([] ++ pa) ++ pv,⟨[] ++ pa,pv,trodAll_append (hargs _ (fun _ _=>rfl)) (hres _ _ _),hvars _ (fun _ _=>rfl),rfl,?_,?_⟩,?_⟩
  ·intro b off hp;have hp2:MemPlace.cell b off ∈ before:=by rw [hps];simpa using hp
   rw [frozen_of_stays hst _ (hlt _ hp2)];exact hz b off hp2
  ·intro ha;have:=hn ha;rw [hps] at this;simpa using this
  ·intro p hp _;rw [hps];simpa using hp
end
end Go.Proofs.Ytooimphimnagaaa
namespace Go.Proofs.Ytooimphimnagaaa
open Go.ChangeShapes Go.WideShapes Go.ChangeAt Go.RowKit
section
variable {H:Type} {enc:TypeId × Value→H} {P:Program}
theorem same_of_stays {W W':World} (h:Ev.Stays W W') {p:MemPlace} (hp:p.block < W.heap.size):W.sameAt W' p:=by
 cases p with
 | cell b off=>
  show W'.cell? _=W.cell? _;unfold World.cell?;rw [h.block b hp]
 | map b=>exact h.block b hp
theorem args_carry {W W':World} {base:Nat} {sp:Nat→Bool} {hd:Bool}:∀ {ts:List TypeId} {vs:List Value} {ds:List (DataW H)} {ps:List MemPlace},DataW.TrodAll enc P W base sp hd ts vs ds ps→(∀ p ∈ ps,W.sameAt W' p)→DataW.TrodAll enc P W' base sp hd ts vs ds ps
 | [],[],[],_,h,_=>h
 | _ :: _,_ :: _,_ :: _,_,⟨p,q,⟨n,h⟩,hs,e⟩,k=>⟨p,q,⟨n,DataW.trod_carry n _ _ _ h fun x hx=>k x (by rw [e];exact List.mem_append_left _ hx)⟩,args_carry hs fun x hx=>k x (by rw [e];exact List.mem_append_right _ hx),e⟩
 | [],[],_ :: _,_,h,_=>h.elim
 | [],_ :: _,_,_,h,_=>h.elim
 | _ :: _,[],_,_,h,_=>h.elim
 | _ :: _,_ :: _,[],_,h,_=>h.elim

theorem post_law {f:Func} {s:ChangeSpec} {apart fresh handsOn again:Bool} {W W':World} {args:Array Value} {ds:List (DataW H)} {p:List MemPlace} {bt:TypeId} {T:TypeId→Prop} (K:Kids P T) (hz:∀ t e,T t→P.underlying t=some (.slice e)→0 < P.cellsOf e)
  (hbt:P.underlying bt=some .bool) (hrt:f.resultTypes.toList=[bt]) (hsz:f.resultTypes.size=1) (hvs:s.vars=[]) (hfn:s.fn H (ds ++ [])={ results:=[.lit (.bool true)],args:=ds })
  (hpt:∀ t ∈ f.params.toList,T t)
  (hW:DataW.Whole enc P f.params.toList s.vars apart W args.toList ds [] (p ++ [])) (hA:DataW.TrodAll enc P W 0 (fun _=>true) true f.params.toList args.toList ds p) (hst:Ev.Stays W W')
  (hok:∀ (j:Nat) (t:TypeId) (r:Value),f.resultTypes[j]? = some t→((Value.bool true).resultList f.resultTypes.size)[j]? = some r→Value.okWide P W' .any 0 t r) :
  s.post enc P f apart fresh handsOn again W args (.bool true) W':=by
 have hlt:=fun q hq=>hW.lt q hq;refine post_of_stays (pa:=p) (pv:=[]) hW (fun b sp hd=>?_) (fun sp hsp=>?_) (fun sp _=>?_) rfl hst hok
 ·rw [hrt,hfn,hsz];exact trodAll_mk1 (shut_bool hbt _)
 ·rw [hfn];exact DataW.TrodAll.respare K hz hpt (args_carry hA fun q hq=>same_of_stays hst (hlt q (by simpa using hq))) fun q hq=>hsp q (by simpa using hq)
 ·rw [hfn,hvs];rfl
end
namespace Ev


inductive UFit:Sh→U→Prop where
 | int (k:IntKind) (n:Int) (h:(Lit.int k n).wf=true):UFit (.int k) (.i n)
 | bool (b:Bool):UFit .bool (.b b)
 | str (s:ByteArray) (h:s.size≤maxLen):UFit .str (.s s)
 | list (sh:List Sh) (l:List (List U)) (hl:l.length≤maxLen) (hr:∀ j,j < l.length→(l.getD j []).length=sh.length) (h:∀ (j f:Nat) (s:Sh),j < l.length→sh[f]? = some s→UFit s ((l.getD j []).getD f (.i 0))):UFit (.list sh) (.l l)
structure RowFit (sh:List Sh) (r:List U):Prop where
 len:r.length=sh.length
 fit:∀ (f:Nat) (s:Sh),sh[f]? = some s→UFit s (r.getD f (.i 0))
theorem RowFit.nil:RowFit [] []:=⟨rfl,fun f s h=>by simp at h⟩
theorem RowFit.append {sh1 sh2:List Sh} {r1 r2:List U} (h1:RowFit sh1 r1) (h2:RowFit sh2 r2):RowFit (sh1 ++ sh2) (r1 ++ r2):=by
 refine ⟨by simp [h1.len,h2.len],fun f s h=>?_⟩;rw [List.getD_eq_getElem?_getD]
 by_cases hf:f < sh1.length
 ·rw [List.getElem?_append_left hf] at h;rw [List.getElem?_append_left (by rw [h1.len];exact hf),← List.getD_eq_getElem?_getD];exact h1.fit f s h
 ·rw [List.getElem?_append_right (by omega)] at h;rw [List.getElem?_append_right (by rw [h1.len];omega),h1.len,← List.getD_eq_getElem?_getD];exact h2.fit _ s h
theorem recE_app:∀ {sh1 sh2:List Sh} {r1 r2:List U},r1.length=sh1.length→recE (sh1 ++ sh2) (r1 ++ r2)=recE sh1 r1 ++ recE sh2 r2
 | [],sh2,r1,r2,h=>by
  have:r1=[]:=List.eq_nil_of_length_eq_zero h;subst this;rfl
 | s :: sh1,sh2,[],r2,h=>by cases h
 | s :: sh1,sh2,u :: r1,r2,h=>by
  show s.ev u :: recE (sh1 ++ sh2) (r1 ++ r2)=s.ev u :: (recE sh1 r1 ++ recE sh2 r2);rw [recE_app (by simpa using h)]

def shFs (P:Program) (f:TypeId→Option (List Sh)):List Field→Nat→Option (List Sh)
 | [],_=>some []
 | fd :: r,off=>match f fd.type with
  | some sh=>if fd.offset=off∧P.cellsOf fd.type=sh.length then match shFs P f r (off+sh.length) with
   | some l=>some (sh ++ l)
   | none=>none else none
  | none=>none
def shB (P:Program):Nat→TypeId→Option (List Sh)
 | 0,_=>none
 | k+1,t=>match P.underlying t with
  | some (.int κ)=>some [.int κ]
  | some .bool=>some [.bool]
  | some .string=>some [.str]
  | some (.slice e)=>match shB P k e with
   | some sh=>if P.cellsOf e=sh.length∧0 < sh.length then some [.list sh] else none
   | none=>none
  | some (.struct fs)=>match shFs P (shB P k) fs.toList 0 with
   | some sh=>if P.cellsOf t=sh.length then some sh else none
   | none=>none
  | some (.array m e)=>match shB P k e with
   | some sh=>if P.cellsOf e=sh.length∧P.cellsOf t=m * sh.length then some (List.replicate m sh).flatten else none
   | none=>none
  | _=>none
noncomputable def fzAll (W:World):Nat→Option (Array Value):=fun k=>match W.heap[k]? with
 | some (.cells a _ _)=>some a
 | _=>none
noncomputable def gAll (W:World):G:=⟨fun _=>none,fzAll W,fun _ _ _=>none⟩
theorem fzAll_at (W:World):FzAt (gAll W) W:=⟨fun k a hk=>(by
 have hk:fzAll W k=some a:=hk;unfold fzAll at hk;split at hk
 ·rename_i a' ty fz h;injection hk with hk;subst hk
  exact ⟨ty,fz,h⟩
 ·cases hk),fun _ _ _=>rfl⟩
theorem list_of {Q:Nat→List U→Prop}:∀ (n:Nat),(∀ i,i < n→∃ r,Q i r)→∃ l:List (List U),l.length=n∧∀ i,i < n→Q i (l.getD i [])
 | 0,_=>⟨[],rfl,fun i hi=>absurd hi (by omega)⟩
 | n+1,h=>by
  obtain ⟨l,h1,h2⟩:=list_of n fun i hi=>h i (by omega);obtain ⟨r,hr⟩:=h n (by omega);refine ⟨l ++ [r],by simp [h1],fun i hi=>?_⟩;rw [List.getD_eq_getElem?_getD]
  by_cases e:i < n
  ·rw [List.getElem?_append_left (by omega),← List.getD_eq_getElem?_getD];exact h2 i e
  ·have:i=n:=by omega
   subst this;rw [List.getElem?_append_right (by omega),h1,Nat.sub_self];exact hr
variable {H:Type} {enc:TypeId × Value→H} {P:Program} {W:World} {base:Nat} {sp:Nat→Bool} {hd:Bool}
def OpenAt (enc:TypeId × Value→H) (P:Program) (W:World) (base:Nat) (sp:Nat→Bool) (hd:Bool) (k:Nat):Prop:=∀ (t:TypeId) (sh:List Sh) (fuel:Nat) (cs:List Value) (x:DataW H × List MemPlace),shB P k t=some sh→DataW.trod enc P W base sp hd fuel t cs=some x→∃ r,RowFit sh r∧∀ γ:G,γ.fz=fzAll W→ECL γ (recE sh r) cs
theorem fields_open {k:Nat} (ih:OpenAt enc P W base sp hd k) {cs:List Value} {n:Nat}:∀ (fs:List Field) (off:Nat) (sh:List Sh),shFs P (shB P k) fs off=some sh→(∀ f,f ∈ fs→∃ y,DataW.trod enc P W base sp hd n f.type ((cs.drop f.offset).take (P.cellsOf f.type))=some y)→∃ r,RowFit sh r∧∀ γ:G,γ.fz=fzAll W→ECL γ (recE sh r) ((cs.drop off).take sh.length)
 | [],off,sh,h,_=>by
  injection (show some []=some sh from h) with h;subst h
  exact ⟨[],.nil,fun γ _=>by
   rw [show ([]:List Sh).length=0 from rfl,List.take_zero];exact ECL.nil γ⟩
 | fd :: fs,off,sh,h,hall=>by
  unfold shFs at h;split at h
  case h_2=>cases h
  rename_i s1 hs1;split at h
  case isFalse=>cases h
  rename_i hc;split at h
  case h_2=>cases h
  rename_i s2 hs2;injection h with h;subst h
  obtain ⟨y,hy⟩:=hall fd (by simp);rw [hc.1,hc.2] at hy;obtain ⟨r1,h1,h2⟩:=ih fd.type s1 n _ y hs1 hy;obtain ⟨r2,h3,h4⟩:=fields_open ih fs (off+s1.length) s2 hs2 fun f hf=>hall f (by simp [hf]);refine ⟨r1 ++ r2,h1.append h3,fun γ hγ=>?_⟩;rw [recE_app h1.len,List.length_append];have e:(cs.drop off).take (s1.length+s2.length)=(cs.drop off).take s1.length ++ (cs.drop (off+s1.length)).take s2.length:=by
   rw [List.take_add,List.drop_drop]
  rw [e];exact (h2 γ hγ).append (h4 γ hγ)
theorem elems_open {k:Nat} (ih:OpenAt enc P W base sp hd k) {cs:List Value} {n:Nat} {e:TypeId} {sh:List Sh} (hsh:shB P k e=some sh) (hc:P.cellsOf e=sh.length):∀ (m i0:Nat),(∀ i,i < m→∃ y,DataW.trod enc P W base sp hd n e ((cs.drop ((i0+i) * P.cellsOf e)).take (P.cellsOf e))=some y)→∃ r,RowFit (List.replicate m sh).flatten r∧∀ γ:G,γ.fz=fzAll W→ECL γ (recE (List.replicate m sh).flatten r) ((cs.drop (i0 * sh.length)).take (m * sh.length))
 | 0,i0,_=>⟨[],.nil,fun γ _=>by
   rw [Nat.zero_mul,List.take_zero];exact ECL.nil γ⟩
 | m+1,i0,h=>by
  obtain ⟨y,hy⟩:=h 0 (by omega);rw [hc,Nat.add_zero] at hy;obtain ⟨r1,h1,h2⟩:=ih e sh n _ y hsh hy;obtain ⟨r2,h3,h4⟩:=elems_open ih hsh hc m (i0+1) fun i hi=>by
   have:=h (i+1) (by omega)
   rwa [show i0+(i+1)=i0+1+i by omega] at this
  refine ⟨r1 ++ r2,by rw [List.replicate_succ,List.flatten_cons];exact h1.append h3,fun γ hγ=>?_⟩;rw [List.replicate_succ,List.flatten_cons,recE_app h1.len,Nat.succ_mul,Nat.add_comm,List.take_add,List.drop_drop];have:=h4 γ hγ;rw [Nat.succ_mul] at this;exact (h2 γ hγ).append this
theorem open_cells:∀ k,OpenAt enc P W base sp hd k
 | 0=>fun t sh fuel cs x h=>by cases h
 | k+1=>fun t sh fuel cs x h ht=>by
  have ih:OpenAt enc P W base sp hd k:=open_cells k;unfold shB at h;split at h
  ·rename_i κ hu;injection h with h;subst h
   obtain ⟨n,rfl,_,hw⟩:=DataW.trod_int hu ht;refine ⟨[.i n],⟨rfl,fun f s hf=>?_⟩,fun γ _=>.cons (.v _) (.nil _)⟩;obtain ⟨rfl,rfl⟩:=one_f hf;exact .int κ n hw
  ·rename_i hu;injection h with h;subst h
   obtain ⟨b,rfl,_⟩:=DataW.trod_bool hu ht;refine ⟨[.b b],⟨rfl,fun f s hf=>?_⟩,fun γ _=>.cons (.v _) (.nil _)⟩;obtain ⟨rfl,rfl⟩:=one_f hf;exact .bool b
  ·rename_i hu;injection h with h;subst h
   obtain ⟨s,rfl,_,hs⟩:=DataW.trod_string hu ht;refine ⟨[.s s],⟨rfl,fun f s hf=>?_⟩,fun γ _=>.cons (.v _) (.nil _)⟩;obtain ⟨rfl,rfl⟩:=one_f hf;exact .str _ hs
  ·rename_i e hu;split at h
   case h_2=>cases h
   rename_i sh' hsh;split at h
   case isFalse=>cases h
   rename_i hc;injection h with h;subst h
   rcases DataW.trod_slice hu ht with ⟨rfl,_⟩ | ⟨a,len,cap,elems,rest,n,_,rfl,_,hb,hlc,hcm,hel,hall,_⟩
   ·refine ⟨[.l []],⟨rfl,fun f s hf=>?_⟩,fun γ _=>.cons ?_ (.nil _)⟩
    ·obtain ⟨rfl,rfl⟩:=one_f hf;exact .list sh' [] (Nat.zero_le _) (fun j hj=>by simp at hj) (fun j f s hj=>by simp at hj)
    ·exact UOk.ec (s:=.list sh') (.empty sh' (.l []) none 0 rfl (Nat.zero_le _) fun _=>rfl)
   ·have each:∀ i,i < len→∃ r,RowFit sh' r∧∃ ys,W.cells? base (a.add (i * sh'.length)) sh'.length=some ys∧∀ γ:G,γ.fz=fzAll W→ECL γ (recE sh' r) ys:=fun i hi=>by
     have h1:=hall i hi;rw [hc.1] at h1;have h2:i < elems.length:=by omega
     rw [List.getElem?_eq_getElem h2] at h1;obtain ⟨ys,h3,h4⟩:=Option.bind_eq_some_iff.1 h1;obtain ⟨r,h5,h6⟩:=ih e sh' n ys _ hsh h4;exact ⟨r,h5,ys,h3,h6⟩
    obtain ⟨l,hl,hQ⟩:=list_of len each;refine ⟨[.l l],⟨rfl,fun f s hf=>?_⟩,fun γ hγ=>.cons ?_ (.nil _)⟩
    ·obtain ⟨rfl,rfl⟩:=one_f hf;exact .list sh' l (by omega) (fun j hj=>(hQ j (by omega)).1.len) fun j f s hj hf=>(hQ j (by omega)).1.fit f s hf
    ·refine UOk.ec (s:=.list sh') ?_
     by_cases h0:len=0
     ·have:l=[]:=List.eq_nil_of_length_eq_zero (by omega);subst this;subst h0;exact .empty sh' (.l []) (some a) cap rfl hcm fun e=>by cases e
     ·obtain ⟨b,off,spot⟩:=a;have hblk:spot=none∧∃ arr ty fz,W.heap[b]? = some (.cells arr ty fz):=by
       obtain ⟨h1,ys,h2,h3⟩:=hQ 0 (by omega);obtain ⟨_,h4,h5⟩:=World.cells?_some h2;have h6:=h5 0 hc.2;rw [List.getElem?_eq_getElem (show 0 < ys.length by omega)] at h6;have h6:W.cell? ⟨b,off,spot⟩=some ys[0]:=by
        have e:((⟨b,off,spot⟩:Addr).add (0 * sh'.length)).add 0=⟨b,off,spot⟩:=by simp [Addr.add]
        rw [e] at h6;exact h6
       unfold World.cell? at h6;split at h6
       ·rename_i arr ty fz hb';split at h6
        ·cases h6
        ·rename_i hs;exact ⟨by cases spot <;> simp_all,arr,ty,fz,hb'⟩
       ·cases h6
      obtain ⟨rfl,arr,ty,fz,hblk⟩:=hblk;have cellAt:∀ i f,i < len→f < sh'.length→∃ y,W.cell? ⟨b,off+(i * sh'.length+f),none⟩=some y∧∀ s,sh'[f]? = some s→UOk γ.fz s ((l.getD i []).getD f (.i 0)) y:=fun i f hi hf=>by
       obtain ⟨h1,ys,h2,h3⟩:=hQ i hi;obtain ⟨_,h4,h5⟩:=World.cells?_some h2;have h6:=h5 f hf;have h7:f < ys.length:=by omega
       rw [List.getElem?_eq_getElem h7] at h6;refine ⟨ys[f],?_,fun s hs=>?_⟩
       ·have e:((⟨b,off,none⟩:Addr).add (i * sh'.length)).add f=⟨b,off+(i * sh'.length+f),none⟩:=by
         unfold Addr.add;split <;> split <;> simp_all [Nat.add_assoc]
        rw [← h6,e]
       ·have h8:=recE_get (s:=s) (f:=f) (sh:=sh') (l.getD i []) hs;have h9:=(h3 γ hγ).2 f _ ys[f] h8 (List.getElem?_eq_getElem h7);exact UOk.of_ec h9
      have getA:∀ i f,i < len→f < sh'.length→∃ y,arr[off+(i * sh'.length+f)]? = some y∧∀ s,sh'[f]? = some s→UOk γ.fz s ((l.getD i []).getD f (.i 0)) y:=fun i f hi hf=>by
       obtain ⟨y,h1,h2⟩:=cellAt i f hi hf;refine ⟨y,?_,h2⟩;unfold World.cell? at h1;simpa [hblk] using h1
      have hk:γ.fz b=some arr:=by
       rw [hγ];unfold fzAll;rw [hblk]
      subst hl;refine .list sh' (.l l) b off cap arr hk hlc hcm ?_ fun j f s x hj hf hx=>?_
      ·show off+l.length * sh'.length≤arr.size;obtain ⟨y,h1,_⟩:=getA (l.length - 1) (sh'.length - 1) (by omega) (by omega);have:=(Array.getElem?_eq_some_iff.1 h1).1;have e:l.length * sh'.length=(l.length - 1) * sh'.length+sh'.length:=by rw [← Nat.succ_mul];congr 1;omega
       omega
      ·obtain ⟨y,h1,h2⟩:=getA j f hj (List.getElem?_eq_some_iff.1 hf).1;rw [h1] at hx;injection hx with hx;subst hx;exact h2 s hf
  ·rename_i fs hu;split at h
   case h_2=>cases h
   rename_i sh' hsh;split at h
   case isFalse=>cases h
   rename_i hc;injection h with h;subst h
   obtain ⟨xs,n,_,_,hl,hlen,hf⟩:=DataW.trod_struct hu ht;obtain ⟨r,h1,h2⟩:=fields_open (cs:=cs) (n:=n) ih fs.toList 0 sh' hsh fun f hm=>by
    obtain ⟨i,hi,rfl⟩:=List.getElem_of_mem hm;have hi2:i < fs.size:=by simpa using hi
    have:=hf i fs.toList[i] (by simp [hi2]);rw [List.getElem?_eq_getElem (by omega)] at this;exact ⟨_,this⟩
   refine ⟨r,h1,fun γ hγ=>?_⟩;have:=h2 γ hγ
   rwa [List.drop_zero,List.take_of_length_le (by omega)] at this
  ·rename_i m e hu;split at h
   case h_2=>cases h
   rename_i sh' hsh;split at h
   case isFalse=>cases h
   rename_i hc;injection h with h;subst h
   obtain ⟨xs,n,_,_,hl,hlen,hf⟩:=DataW.trod_array hu ht;obtain ⟨r,h1,h2⟩:=elems_open (cs:=cs) (n:=n) ih hsh hc.1 m 0 fun i hi=>by
    have:=hf i hi;rw [List.getElem?_eq_getElem (by omega)] at this;rw [Nat.zero_add];exact ⟨_,this⟩
   refine ⟨r,h1,fun γ hγ=>?_⟩;have:=h2 γ hγ
   rwa [Nat.zero_mul,List.drop_zero,List.take_of_length_le (by omega)] at this
  ·cases h

theorem open_lst {t e:TypeId} {v:Value} {d:DataW H} {ps:List MemPlace} {k b0:Nat} {rc:Reach} {sh:List Sh} (hu:P.underlying t=some (.slice e)) (hs:shB P k t=some [.list sh]) (hv:Value.okWide P W rc b0 t v) (h:DataW.Trod enc P W base sp hd t v d ps):∃ l,UFit (.list sh) (.l l)∧EC (gAll W) (.lst (mkC sh l)) v:=by
 obtain ⟨a,len,cap,rfl⟩:=okWide_slice hu hv;obtain ⟨fuel,hf⟩:=h;obtain ⟨r,h1,h2⟩:=open_cells k t _ fuel _ _ hs hf;have h3:=h2 (gAll W) rfl;obtain ⟨h4,h5⟩:=h1
 match r,h4 with
 | [u],_=>
  have h6:=h5 0 _ rfl;have h6:UFit (.list sh) u:=h6
  cases h6 with
  | list _ l hl hr hh=>
   refine ⟨l,.list sh l hl hr hh,?_⟩;exact h3.2 0 _ _ rfl rfl
end Ev
end Go.Proofs.Ytooimphimnagaaa
namespace Go.Proofs.Ytooimphimnagaaa.Ev
open Go.Proofs
theorem chk_of {n:Nat} {w:List Int} (h1:1≤n) (h2:n≤12) (hl:w.length≤400) (h:Vld n w):chk n w=0:=by
 unfold chk;rw [df (show ¬ (n:Int) < 1 by omega),df (show ¬ (12:Int) < n by omega),df (show ¬ (400:Int) < Int.ofNat w.length by rw [ofn];omega),bc_f,bc_f,bc_f];have:w.any (badL n)=false:=by
  rw [List.any_eq_false];intro x hx hb;obtain ⟨q1,q2,q3⟩:=h x hx;unfold badL at hb;rw [wrap_in (0 - (n:Int)) (by omega) (by omega),show (x == 0)=false by simp [q1],bc_f,df (show ¬ x≤0 - (n:Int) by omega),bc_f,df (show ¬ (n:Int)≤x by omega)] at hb;cases hb
 rw [this,bc_f]
theorem samE_0 {n:Int} {a b:List Int} (h1:chk n a=0) (h2:chk n b=0):samE n a b=0:=by unfold samE;rw [h1,h2];rfl
theorem samB_1 {n:Int} {a b:List Int} (h1:chk n a=0) (h2:chk n b=0) (h:nfW n.toNat a=nfW n.toNat b):samB n a b=true:=by
 unfold samB sameN;rw [samE_0 h1 h2,show ((0:Int) != 0)=false from rfl,bc_f]
 exact decide_eq_true h
namespace AGr
end AGr
end Go.Proofs.Ytooimphimnagaaa.Ev
namespace Go.Proofs.Ytooimphimnagaaa.Ev
variable {n:Nat}

def lnF:List Int→(Nat→Nat)→Nat→Nat
 | [],p=>p
 | x :: u,p=>lnF u (fun y=>p (sw x.natAbs y))

def sgL (x:Int):Int:=if x < 0 then -1 else 1

def lk:List Int→(Nat→Nat)→Nat→Nat→Int
 | [],_,_,_=>0
 | x :: u,p,a,b=>(if a=p (x.natAbs - 1)∧b=p x.natAbs∨a=p x.natAbs∧b=p (x.natAbs - 1) then sgL x else 0)+lk u (fun y=>p (sw x.natAbs y)) a b

def sgW:List Int→Int
 | []=>0
 | x :: u=>sgL x+sgW u
theorem lnF_app:∀ (u v:List Int) (p:Nat→Nat),lnF (u ++ v) p=lnF v (lnF u p)
 | [],_,_=>rfl
 | _ :: u,v,_=>lnF_app u v _
theorem lk_app:∀ (u v:List Int) (p:Nat→Nat) (a b:Nat),lk (u ++ v) p a b=lk u p a b+lk v (lnF u p) a b
 | [],v,p,a,b=>by show _=0+_;rw [Int.zero_add];rfl
 | x :: u,v,p,a,b=>by
  show _+lk (u ++ v) _ a b=_+lk u _ a b+lk v _ a b;rw [lk_app u v,Int.add_assoc];rfl
theorem sgW_app:∀ (u v:List Int),sgW (u ++ v)=sgW u+sgW v
 | [],v=>by show _=0+_;rw [Int.zero_add];rfl
 | x :: u,v=>by
  show _+sgW (u ++ v)=_+sgW u+sgW v;rw [sgW_app u v,Int.add_assoc]

structure Alk (n:Nat) (u v:List Int):Prop where
 e:2≤n→∀ s:Int × List (Pm n),E (u.foldl stepW s) (v.foldl stepW s)
 g:∀ x,gW u x=gW v x
 l:∀ p,lnF u p=lnF v p
 k:∀ p a b,lk u p a b=lk v p a b
 s:sgW u=sgW v
theorem Alk.refl (u:List Int):Alk n u u:=⟨fun _ s=>E.refl _,fun _=>rfl,fun _=>rfl,fun _ _ _=>rfl,rfl⟩
theorem Alk.trans {u v w:List Int} (h:Alk n u v) (q:Alk n v w):Alk n u w:=⟨fun hn s=>(h.e hn s).trans hn (q.e hn s),fun x=>(h.g x).trans (q.g x),fun p=>(h.l p).trans (q.l p),fun p a b=>(h.k p a b).trans (q.k p a b),h.s.trans q.s⟩
theorem Alk.ctx {u v:List Int} (h:Alk n u v) (a b:List Int):Alk n (a ++ (u ++ b)) (a ++ (v ++ b)):=by
 refine ⟨fun hn s=>?_,fun x=>?_,fun p=>?_,fun p x y=>?_,?_⟩
 ·rw [List.foldl_append,List.foldl_append,List.foldl_append,List.foldl_append];exact E.word (h.e hn _) b
 ·rw [gW_app,gW_app,gW_app,gW_app,h.g]
 ·rw [lnF_app,lnF_app,lnF_app,lnF_app,h.l]
 ·rw [lk_app,lk_app,lk_app,lk_app,h.k,h.l]
 ·rw [sgW_app,sgW_app,sgW_app,sgW_app,h.s]
theorem sw_in (k x:Nat) (h:0 < k):sw k (sw k x)=x:=sw_sw h x
theorem sw_at {k:Nat} (h:0 < k):sw k k=k - 1:=by unfold sw;rw [if_pos rfl]
theorem sw_lo {k:Nat} (h:0 < k):sw k (k - 1)=k:=by unfold sw;rw [if_neg (by omega),if_pos (by omega)]
theorem Alk.undo {i:Int} (h:0 < i.natAbs∧i.natAbs < n):Alk n [i,-i] []:=by
 have ea:(-i).natAbs=i.natAbs:=by omega
 refine ⟨fun hn s=>E.cancel hn h s,fun x=>?_,fun p=>?_,fun p a b=>?_,?_⟩
 ·show sw (-i).natAbs (sw i.natAbs x)=x;rw [ea,sw_in _ _ h.1]
 ·show (fun y=>p (sw i.natAbs (sw (-i).natAbs y)))=p
  funext y
  rw [ea,sw_in _ _ h.1]
 ·show (if _ then _ else _)+((if a=p (sw i.natAbs ((-i).natAbs - 1))∧b=p (sw i.natAbs (-i).natAbs)∨a=p (sw i.natAbs (-i).natAbs)∧b=p (sw i.natAbs ((-i).natAbs - 1)) then sgL (-i) else 0)+0)=0
  rw [ea,sw_at h.1,sw_lo h.1];have es:sgL (-i) = - sgL i:=by unfold sgL;split <;> split <;> omega
  rw [es]
  by_cases c:a=p (i.natAbs - 1)∧b=p i.natAbs∨a=p i.natAbs∧b=p (i.natAbs - 1)
  ·rw [if_pos c,if_pos c.symm];omega
  ·rw [if_neg c,if_neg fun d=>c d.symm];rfl
 ·show sgL i+(sgL (-i)+0)=0;unfold sgL;split <;> split <;> omega
theorem Alk.far {i j:Int} (hi:0 < i.natAbs∧i.natAbs < n) (hj:0 < j.natAbs∧j.natAbs < n) (h:Far i.natAbs j.natAbs):Alk n [i,j] [j,i]:=by
 have h':=h;unfold Far at h;have e1:sw i.natAbs j.natAbs=j.natAbs:=Pm.sw_ne (by omega) (by omega);have e2:sw i.natAbs (j.natAbs - 1)=j.natAbs - 1:=Pm.sw_ne (by omega) (by omega);have e3:sw j.natAbs i.natAbs=i.natAbs:=Pm.sw_ne (by omega) (by omega);have e4:sw j.natAbs (i.natAbs - 1)=i.natAbs - 1:=Pm.sw_ne (by omega) (by omega);have com:∀ x,sw j.natAbs (sw i.natAbs x)=sw i.natAbs (sw j.natAbs x):=fun x=>by
  unfold sw
  repeat' split
  all_goals omega
 refine ⟨fun hn s=>E.far s hi hj h',fun x=>com x,fun p=>?_,fun p a b=>?_,?_⟩
 ·funext y
  show p (sw i.natAbs (sw j.natAbs y))=p (sw j.natAbs (sw i.natAbs y));rw [com]
 ·show (if _ then _ else _)+((if a=p (sw i.natAbs (j.natAbs - 1))∧b=p (sw i.natAbs j.natAbs)∨a=p (sw i.natAbs j.natAbs)∧b=p (sw i.natAbs (j.natAbs - 1)) then sgL j else 0)+0)=(if _ then _ else _)+((if a=p (sw j.natAbs (i.natAbs - 1))∧b=p (sw j.natAbs i.natAbs)∨a=p (sw j.natAbs i.natAbs)∧b=p (sw j.natAbs (i.natAbs - 1)) then sgL i else 0)+0)
  rw [e1,e2,e3,e4];omega
 ·show sgL i+(sgL j+0)=sgL j+(sgL i+0);omega
theorem lk3 (p:Nat→Nat) (a b i j:Nat):lk [(i:Int),(j:Int),(i:Int)] p a b=(if a=p (i - 1)∧b=p i∨a=p i∧b=p (i - 1) then 1 else 0)+((if a=p (sw i (j - 1))∧b=p (sw i j)∨a=p (sw i j)∧b=p (sw i (j - 1)) then 1 else 0)+((if a=p (sw i (sw j (i - 1)))∧b=p (sw i (sw j i))∨a=p (sw i (sw j i))∧b=p (sw i (sw j (i - 1))) then 1 else 0)+0)):=by
 have e:∀ k:Nat,sgL (k:Int)=1:=fun k=>by unfold sgL;rw [if_neg (by omega)]
 show (if a=p (i - 1)∧b=p i∨a=p i∧b=p (i - 1) then sgL (i:Int) else 0)+((if a=p (sw i (j - 1))∧b=p (sw i j)∨a=p (sw i j)∧b=p (sw i (j - 1)) then sgL (j:Int) else 0)+((if a=p (sw i (sw j (i - 1)))∧b=p (sw i (sw j i))∨a=p (sw i (sw j i))∧b=p (sw i (sw j (i - 1))) then sgL (i:Int) else 0)+0))=_
 rw [e,e]
theorem Alk.braid0 {i j:Nat} (hi:0 < i∧i < n) (hj:0 < j∧j < n) (h:j=i+1):Alk n [(i:Int),(j:Int),(i:Int)] [(j:Int),(i:Int),(j:Int)]:=by
 have e:∀ k:Nat,sgL (k:Int)=1:=fun k=>by unfold sgL;rw [if_neg (by omega)]
 have com:∀ x,sw i (sw j (sw i x))=sw j (sw i (sw j x)):=fun x=>by
  subst h;have s2:sw i (i+1)=i+1:=Pm.sw_ne (by omega) (by omega);have s3:sw (i+1) (i - 1)=i - 1:=Pm.sw_ne (by omega) (by omega);have s4:sw (i+1) i=i+1:=by unfold sw;rw [if_neg (by omega),if_pos rfl]
  have s5:sw (i+1) (i+1)=i:=by rw [sw_at (by omega)];rfl
  by_cases c1:x=i - 1
  ·rw [c1,sw_lo hi.1,s4,s2,s3,sw_lo hi.1,s4]
  by_cases c2:x=i
  ·rw [c2,sw_at hi.1,s3,sw_lo hi.1,s4,s2,s5]
  by_cases c3:x=i+1
  ·rw [c3,s2,s5,sw_at hi.1,s3]
  ·have s6:sw i x=x:=Pm.sw_ne (by omega) (by omega);have s7:sw (i+1) x=x:=Pm.sw_ne (by omega) (by omega);rw [s6,s7,s6,s7]
 refine ⟨fun hn s=>E.braid s hi hj (.inl h),fun x=>com x,fun p=>?_,fun p a b=>?_,?_⟩
 ·funext y
  show p (sw i (sw j (sw i y)))=p (sw j (sw i (sw j y)));rw [com]
 ·rw [lk3,lk3];subst h;have s1:sw i (i+1 - 1)=i - 1:=by rw [Nat.add_sub_cancel,sw_at hi.1]
  have s2:sw i (i+1)=i+1:=Pm.sw_ne (by omega) (by omega);have s3:sw (i+1) (i - 1)=i - 1:=Pm.sw_ne (by omega) (by omega);have s4:sw (i+1) i=i+1:=by unfold sw;rw [if_neg (by omega),if_pos rfl]
  have s5:sw (i+1) (i+1)=i:=by rw [sw_at (by omega)];rfl
  rw [s1,s2,s3,s4,s2,sw_lo hi.1,Nat.add_sub_cancel,s5];omega
 ·show sgL i+(sgL j+(sgL i+0))=sgL j+(sgL i+(sgL j+0));rw [e,e]
theorem Alk.symm (hn:2≤n) {u v:List Int} (h:Alk n u v):Alk n v u:=⟨fun _ s=>(h.e hn s).symm,fun x=>(h.g x).symm,fun p=>(h.l p).symm,fun p a b=>(h.k p a b).symm,h.s.symm⟩
theorem Alk.braid {i j:Nat} (hi:0 < i∧i < n) (hj:0 < j∧j < n) (h:j=i+1∨i=j+1):Alk n [(i:Int),(j:Int),(i:Int)] [(j:Int),(i:Int),(j:Int)]:=by
 rcases h with h | h
 ·exact Alk.braid0 hi hj h
 ·exact (Alk.braid0 hj hi h).symm (by omega)
theorem Alk.nf {u v:List Int} (hn:2≤n) (h:Alk n u v):nfW n u=nfW n v:=nf_of_E hn (h.e hn (0,[]))

end Go.Proofs.Ytooimphimnagaaa.Ev
namespace Go.Proofs.Ytooimphimnagaaa.Ev
variable {n:Nat}

inductive Cn (n:Nat):List Int→List Int→Prop
 | refl (u:List Int):Cn n u u
 | symm {u v:List Int} (h:Cn n u v):Cn n v u
 | trans {u v w:List Int} (h:Cn n u v) (k:Cn n v w):Cn n u w
 | undo (a b:List Int) (i:Int) (h:0 < i.natAbs∧i.natAbs < n):Cn n (a ++ ([i,-i] ++ b)) (a ++ b)
 | far (a b:List Int) (i j:Nat) (hi:0 < i) (hij:i+2≤j) (hj:j < n):Cn n (a ++ ([(i:Int),(j:Int)] ++ b)) (a ++ ([(j:Int),(i:Int)] ++ b))
 | braid (a b:List Int) (i:Nat) (hi:0 < i) (hj:i+1 < n):Cn n (a ++ ([(i:Int),((i+1:Nat):Int),(i:Int)] ++ b)) (a ++ ([((i+1:Nat):Int),(i:Int),((i+1:Nat):Int)] ++ b))
theorem Cn.pre {u v:List Int} (h:Cn n u v) (a:List Int):Cn n (a ++ u) (a ++ v):=by
 induction h with
 | refl u=>exact .refl _
 | symm _ ih=>exact ih.symm
 | trans _ _ h1 h2=>exact h1.trans h2
 | undo c d i h=>
  have:=Cn.undo (n:=n) (a ++ c) d i h;rw [List.append_assoc,List.append_assoc] at this;exact this
 | far c d i j h1 h2 h3=>
  have:=Cn.far (n:=n) (a ++ c) d i j h1 h2 h3;rw [List.append_assoc,List.append_assoc] at this;exact this
 | braid c d i h1 h2=>
  have:=Cn.braid (n:=n) (a ++ c) d i h1 h2;rw [List.append_assoc,List.append_assoc] at this;exact this
theorem Cn.post {u v:List Int} (h:Cn n u v) (b:List Int):Cn n (u ++ b) (v ++ b):=by
 induction h with
 | refl u=>exact .refl _
 | symm _ ih=>exact ih.symm
 | trans _ _ h1 h2=>exact h1.trans h2
 | undo c d i h=>rw [List.append_assoc,List.append_assoc,List.append_assoc];exact .undo _ _ i h
 | far c d i j h1 h2 h3=>rw [List.append_assoc,List.append_assoc,List.append_assoc,List.append_assoc];exact .far _ _ i j h1 h2 h3
 | braid c d i h1 h2=>rw [List.append_assoc,List.append_assoc,List.append_assoc,List.append_assoc];exact .braid _ _ i h1 h2
theorem Cn.app {u v x y:List Int} (h:Cn n u v) (k:Cn n x y):Cn n (u ++ x) (v ++ y):=(h.post x).trans (k.pre v)
theorem Cn.cons {u v:List Int} (h:Cn n u v) (x:Int):Cn n (x :: u) (x :: v):=h.pre [x]
theorem Cn.inv1:∀ {u:List Int},Vld n u→Cn n (u ++ invW u) []
 | [],_=>.refl _
 | x :: u,h=>by
  have e:(x :: u) ++ invW (x :: u)=[x] ++ ((u ++ invW u) ++ [-x]):=by
   unfold invW;rw [List.map_cons,List.reverse_cons,List.cons_append,List.append_assoc];rfl
  rw [e];exact (((Cn.inv1 h.tail).post [-x]).pre [x]).trans (.undo [] [] x h.head)
theorem Cn.inv2 {u:List Int} (h:Vld n u):Cn n (invW u ++ u) []:=by
 have:=Cn.inv1 (invW_vld h)
 rwa [invW_invW] at this

theorem Cn.invC {u v:List Int} (hu:Vld n u) (hv:Vld n v) (h:Cn n u v):Cn n (invW u) (invW v):=by
 have h1:Cn n (invW u) (invW u ++ (v ++ invW v)):=by
  have:=((Cn.inv1 hv).pre (invW u)).symm
  rwa [List.append_nil] at this
 have h2:Cn n (invW u ++ (v ++ invW v)) (invW u ++ (u ++ invW v)):=((h.symm.post (invW v)).pre (invW u));have h3:Cn n (invW u ++ (u ++ invW v)) (invW v):=by
  rw [← List.append_assoc];exact (Cn.inv2 hu).post (invW v)
 exact h1.trans (h2.trans h3)
theorem Cn.rev {u v:List Int} (h:Cn n u v):Cn n u.reverse v.reverse:=by
 induction h with
 | refl u=>exact .refl _
 | symm _ ih=>exact ih.symm
 | trans _ _ h1 h2=>exact h1.trans h2
 | undo c d i h=>
  simp only [List.reverse_append,List.reverse_cons,List.reverse_nil,List.nil_append,List.append_assoc];have:=Cn.undo (n:=n) d.reverse c.reverse (-i) (by omega)
  rwa [show - -i=i by omega] at this
 | far c d i j h1 h2 h3=>
  simp only [List.reverse_append,List.reverse_cons,List.reverse_nil,List.nil_append,List.append_assoc];exact (Cn.far d.reverse c.reverse i j h1 h2 h3).symm
 | braid c d i h1 h2=>
  simp only [List.reverse_append,List.reverse_cons,List.reverse_nil,List.nil_append,List.append_assoc];exact Cn.braid d.reverse c.reverse i h1 h2

theorem Cn.alk (hn:2≤n) {u v:List Int} (h:Cn n u v):Alk n u v:=by
 induction h with
 | refl u=>exact .refl _
 | symm _ ih=>exact ih.symm hn
 | trans _ _ h1 h2=>exact h1.trans h2
 | undo c d i h=>exact (Alk.undo h).ctx c d
 | far c d i j h1 h2 h3=>exact (Alk.far (i:=(i:Int)) (j:=(j:Int)) (by omega) (by omega) (.inl (by omega))).ctx c d
 | braid c d i h1 h2=>exact (Alk.braid (i:=i) (j:=i+1) ⟨h1,by omega⟩ ⟨by omega,h2⟩ (.inl rfl)).ctx c d

namespace Pm
theorem W_L (p:Pm n) {i:Nat} (hi:0 < i∧i < n) (h:p.beg i):p.W < (p.L i hi).W:=by
 have h3:=Sum_two (F:=fun x=>x * (p.L i hi).f x) (G:=fun x=>x * p.f x) n (p:=i - 1) (q:=i) (by omega) hi.2 (fun x hx n1 n2=>by
  show x * p.f (sw i x)=x * p.f x;rw [Pm.sw_ne n2 (by omega)])
 have e1:(p.L i hi).f (i - 1)=p.f i:=by show p.f (sw i (i - 1))=_;rw [Pm.sw_pre hi.1]
 have e2:(p.L i hi).f i=p.f (i - 1):=by show p.f (sw i i)=_;rw [Pm.sw_at]
 simp only [e1,e2] at h3;show Sum _ n < Sum _ n;have h:p.f i < p.f (i - 1):=h;obtain ⟨k,rfl⟩:∃ k,i=k+1:=⟨i - 1,by omega⟩;rw [Nat.add_sub_cancel] at h h3;rw [Nat.succ_mul,Nat.succ_mul] at h3;omega
theorem RR (p:Pm n) {i:Nat} (hi:0 < i∧i < n):(p.R i hi).R i hi=p:=ext fun x=>by
 show sw i (sw i (p.f x))=_;rw [sw_sw hi.1]
end Pm

inductive Rd {n:Nat}:Pm n→List Int→Prop
 | one:Rd (Pm.one n) []
 | cons (p:Pm n) (i:Nat) (hi:0 < i∧i < n) (hb:p.beg i) {u:List Int} (h:Rd (p.L i hi) u):Rd p ((i:Int) :: u)
theorem Rd.ex:∀ (k:Nat) (p:Pm n),n * (n * n) - p.W≤k→∃ u,Rd p u
 | k,p,hk=>by
  by_cases h:∃ i,0 < i∧i < n∧p.beg i
  ·obtain ⟨i,h1,h2,h3⟩:=h;have h4:=p.W_L ⟨h1,h2⟩ h3;have h5:=(p.L i ⟨h1,h2⟩).W_le
   match k with
   | 0=>omega
   | k+1=>
    obtain ⟨u,hu⟩:=Rd.ex k (p.L i ⟨h1,h2⟩) (by omega);exact ⟨_,.cons p i ⟨h1,h2⟩ h3 hu⟩
  ·have:p=Pm.one n:=Pm.one_of fun i h1 h2 h3=>h ⟨i,h1,h2,h3⟩;subst this;exact ⟨[],.one⟩
theorem Rd.ex' (p:Pm n):∃ u,Rd p u:=Rd.ex _ p (Nat.le_refl _)
theorem Rd.vld {p:Pm n} {u:List Int} (h:Rd p u):Vld n u:=by
 induction h with
 | one=>intro x hx;cases hx
 | cons p i hi hb _ ih=>
  intro x hx;rcases List.mem_cons.1 hx with rfl | hx
  ·omega
  ·exact ih x hx
theorem Rd.nil {u:List Int} (h:Rd (Pm.one n) u):u=[]:=by
 generalize hp:Pm.one n=p at h
 cases h with
 | one=>rfl
 | cons p i hi hb h=>subst hp;exact absurd hb (Pm.one_beg i hi.1)

theorem Rd.snoc {p:Pm n} {u:List Int} (h:Rd p u) {i:Nat} (hi:0 < i∧i < n) (hf:¬ p.fin i):Rd (p.R i hi) (u ++ [(i:Int)]):=by
 induction h with
 | one=>
  have e:((Pm.one n).R i hi).L i hi=Pm.one n:=Pm.ext fun x=>by
   show sw i (sw i x)=x;rw [sw_sw hi.1]
  refine .cons _ i hi ?_ ?_
  ·show sw i i < sw i (i - 1);rw [Pm.sw_at,Pm.sw_pre hi.1];omega
  ·rw [e];exact .one
 | cons p j hj hb _ ih=>
  refine .cons _ j hj (Pm.beg_R hi hj.1 hb hf) ?_;exact ih fun q=>hf (Pm.fin_of_L hj hi.1 hb q)

theorem Rd.two {p:Pm n} {i j:Nat} {u v:List Int} (hij:i < j) (hi:0 < i∧i < n) (hj:0 < j∧j < n) (bi:p.beg i) (bj:p.beg j) (hu:Rd (p.L i hi) u) (hv:Rd (p.L j hj) v) (ihu:∀ x,Rd (p.L i hi) x→Cn n u x) (ihv:∀ x,Rd (p.L j hj) x→Cn n v x):Cn n ((i:Int) :: u) ((j:Int) :: v):=by
 have bi':p.f i < p.f (i - 1):=bi;have bj':p.f j < p.f (j - 1):=bj
 by_cases hf:i+2≤j
 ·have e:(p.L i hi).L j hj=(p.L j hj).L i hi:=Pm.ext fun x=>by
   show p.f (sw i (sw j x))=p.f (sw j (sw i x));rw [Pm.sw_comm hf hi.1]
  obtain ⟨x,hx⟩:=Rd.ex' ((p.L i hi).L j hj);have b1:(p.L i hi).beg j:=by
   show p.f (sw i j) < p.f (sw i (j - 1));rw [Pm.sw_ne (by omega) (by omega),Pm.sw_ne (by omega) (by omega)];exact bj'
  have b2:(p.L j hj).beg i:=by
   show p.f (sw j i) < p.f (sw j (i - 1));rw [Pm.sw_ne (by omega) (by omega),Pm.sw_ne (by omega) (by omega)];exact bi'
  have h1:=(ihu _ (.cons _ j hj b1 hx)).cons (i:Int);have h2:=(ihv _ (.cons _ i hi b2 (e ▸ hx))).cons (j:Int);exact h1.trans ((Cn.far [] x i j hi.1 hf hj.2).trans h2.symm)
 ·obtain rfl:j=i+1:=by omega
  rw [Nat.add_sub_cancel] at bj';have e:((p.L i hi).L (i+1) hj).L i hi=((p.L (i+1) hj).L i hi).L (i+1) hj:=Pm.ext fun x=>by
   show p.f (sw i (sw (i+1) (sw i x)))=p.f (sw (i+1) (sw i (sw (i+1) x)));rw [Pm.sw_braid hi.1]
  obtain ⟨x,hx⟩:=Rd.ex' (((p.L i hi).L (i+1) hj).L i hi);have s1:sw i (i+1)=i+1:=Pm.sw_ne (by omega) (by omega);have s2:sw (i+1) i=i+1:=by have:=Pm.sw_pre (i:=i+1) (by omega);rwa [Nat.add_sub_cancel] at this
  have s3:sw (i+1) (i+1)=i:=by have:=Pm.sw_at (i+1);rwa [Nat.add_sub_cancel] at this
  have s4:sw (i+1) (i - 1)=i - 1:=Pm.sw_ne (by omega) (by omega);have b1:(p.L i hi).beg (i+1):=by
   show p.f (sw i (i+1)) < p.f (sw i (i+1 - 1));rw [Nat.add_sub_cancel,s1,Pm.sw_at];omega
  have b2:((p.L i hi).L (i+1) hj).beg i:=by
   show p.f (sw i (sw (i+1) i)) < p.f (sw i (sw (i+1) (i - 1)));rw [s2,s4,s1,Pm.sw_pre hi.1];exact bj'
  have b3:(p.L (i+1) hj).beg i:=by
   show p.f (sw (i+1) i) < p.f (sw (i+1) (i - 1));rw [s2,s4];omega
  have b4:((p.L (i+1) hj).L i hi).beg (i+1):=by
   show p.f (sw (i+1) (sw i (i+1))) < p.f (sw (i+1) (sw i (i+1 - 1)));rw [Nat.add_sub_cancel,s1,s3,Pm.sw_at,s4];exact bi'
  have h1:=(ihu _ (.cons _ (i+1) hj b1 (.cons _ i hi b2 hx))).cons (i:Int);have h2:=(ihv _ (.cons _ i hi b3 (.cons _ (i+1) hj b4 (e ▸ hx)))).cons ((i+1:Nat):Int);exact h1.trans ((Cn.braid [] x i hi.1 hj.2).trans h2.symm)

theorem Rd.cn0:∀ (k:Nat) {p:Pm n} {u v:List Int},n * (n * n) - p.W≤k→Rd p u→Rd p v→Cn n u v
 | k,p,_,_,hk,hu,hv=>by
  cases hu with
  | one=>rw [hv.nil];exact .refl _
  | cons _ i hi bi hu=>
   rename_i u
   cases hv with
   | one=>exact absurd bi (Pm.one_beg i hi.1)
   | cons _ j hj bj hv=>
    rename_i v;have w1:=p.W_L hi bi;have w2:=(p.L i hi).W_le;have w3:=p.W_L hj bj
    match k with
    | 0=>omega
    | k+1=>
     have ihu:∀ x,Rd (p.L i hi) x→Cn n u x:=fun x hx=>Rd.cn0 k (by omega) hu hx;have ihv:∀ x,Rd (p.L j hj) x→Cn n v x:=fun x hx=>Rd.cn0 k (by omega) hv hx;rcases Nat.lt_trichotomy i j with h | h | h
     ·exact Rd.two h hi hj bi bj hu hv ihu ihv
     ·subst h;exact (ihu _ hv).cons _
     ·exact (Rd.two h hj hi bj bi hv hu ihv ihu).symm
theorem Rd.cn {p:Pm n} {u v:List Int} (hu:Rd p u) (hv:Rd p v):Cn n u v:=Rd.cn0 _ (Nat.le_refl _) hu hv

noncomputable def wd (p:Pm n):List Int:=Classical.choose (Rd.ex' p)
theorem wd_ok (p:Pm n):Rd p (wd p):=Classical.choose_spec (Rd.ex' p)
noncomputable def wdR (l:List (Pm n)):List Int:=l.flatMap wd
theorem wdR_app (l m:List (Pm n)):wdR (l ++ m)=wdR l ++ wdR m:=List.flatMap_append
theorem wdR_cons (a:Pm n) (l:List (Pm n)):wdR (a :: l)=wd a ++ wdR l:=rfl
theorem wd_one:wd (Pm.one n)=[]:=(wd_ok _).nil
theorem Mv.cn {s t:List (Pm n)} (h:Mv s t):Cn n (wdR s) (wdR t):=by
 induction h with
 | here a b l i hi hb hf=>
  simp only [wdR_cons];have h1:Cn n (wd b) ([(i:Int)] ++ wd (b.L i hi)):=(wd_ok b).cn (.cons b i hi hb (wd_ok _));have h2:Cn n (wd a ++ [(i:Int)]) (wd (a.R i hi)):=((wd_ok a).snoc hi hf).cn (wd_ok _);have h3:=(h1.post (wdR l)).pre (wd a);have h4:=h2.post (wd (b.L i hi) ++ wdR l);rw [List.append_assoc] at h4;rw [List.append_assoc] at h3;exact h3.trans h4
 | there a _ ih=>simp only [wdR_cons];exact ih.pre _
theorem Mvs.cn {s t:List (Pm n)} (h:Mvs s t):Cn n (wdR s) (wdR t):=by
 induction h with
 | refl s=>exact .refl _
 | step h _ ih=>exact h.cn.trans ih
theorem NF_cn (l:List (Pm n)):Cn n (wdR l) (wdR (NF l)):=(NF_mv l).cn

noncomputable def dl (n:Nat):List Int:=wd (Pm.del n)
theorem dl_ok:Rd (Pm.del n) (dl n):=wd_ok _
theorem dl_vld:Vld n (dl n):=dl_ok.vld
theorem dl_push {i:Nat} (hi:0 < i∧i < n):Cn n ([(i:Int)] ++ dl n) (dl n ++ [((n - i:Nat):Int)]):=by
 have hi2:0 < n - i∧n - i < n:=by omega
 have r1:Pm.rv n (n - i)=i - 1:=by unfold Pm.rv;rw [if_pos hi2.2];omega
 have r2:Pm.rv n (n - i - 1)=i:=by unfold Pm.rv;rw [if_pos (by omega)];omega
 have hb:(Pm.del n).beg i:=Pm.del_fin hi.1 hi.2;have e:((Pm.del n).L i hi).R (n - i) hi2=Pm.del n:=Pm.ext fun x=>by
  show sw (n - i) (Pm.rv n (sw i x))=Pm.rv n x;rw [rv_sw hi,sw_sw hi2.1]
 have hf:¬ ((Pm.del n).L i hi).fin (n - i):=by
  rw [Pm.nfin hi2.1];show sw i (Pm.rv n (n - i - 1)) < sw i (Pm.rv n (n - i));rw [r1,r2,Pm.sw_at,Pm.sw_pre hi.1];omega
 have h1:Cn n (dl n) ([(i:Int)] ++ wd ((Pm.del n).L i hi)):=dl_ok.cn (.cons _ i hi hb (wd_ok _));have h2:Rd (Pm.del n) (wd ((Pm.del n).L i hi) ++ [((n - i:Nat):Int)]):=by
  have:=(wd_ok ((Pm.del n).L i hi)).snoc hi2 hf
  rwa [e] at this
 have h3:=(dl_ok.cn h2).pre [(i:Int)];rw [← List.append_assoc] at h3;exact h3.trans (h1.symm.post _)

def trW (n:Nat) (u:List Int):List Int:=u.map fun x=>if 0 < x then (n:Int) - x else -(n:Int) - x
theorem trW_app (u v:List Int):trW n (u ++ v)=trW n u ++ trW n v:=List.map_append
theorem trW_vld {u:List Int} (h:Vld n u):Vld n (trW n u):=fun x hx=>by
 obtain ⟨y,hy,rfl⟩:=List.mem_map.1 hx;obtain ⟨h1,h2,h3⟩:=h y hy;show (if 0 < y then (n:Int) - y else -(n:Int) - y)≠0∧_ < (if 0 < y then (n:Int) - y else -(n:Int) - y)∧(if 0 < y then (n:Int) - y else -(n:Int) - y) < _
 split <;> omega
theorem dl_push1 {x:Int} (hx:0 < x.natAbs∧x.natAbs < n):Cn n ([x] ++ dl n) (dl n ++ trW n [x]):=by
 rcases Int.lt_or_le 0 x with h | h
 ·obtain ⟨k,rfl⟩:=Int.eq_ofNat_of_zero_le (Int.le_of_lt h);have e:trW n [(k:Int)]=[((n - k:Nat):Int)]:=by
   show [if 0 < (k:Int) then (n:Int) - k else -(n:Int) - k]=_
   rw [if_pos h];congr 1;omega
  rw [e];exact dl_push (by omega)
 ·obtain ⟨k,hk⟩:=Int.eq_ofNat_of_zero_le (show 0 ≤ -x by omega);obtain rfl:x = -(k:Int):=by omega
  have hk2:0 < k∧k < n:=by omega
  have e:trW n [-(k:Int)]=[-((n - k:Nat):Int)]:=by
   show [if 0 < -(k:Int) then (n:Int) - -k else -(n:Int) - -k]=_
   rw [if_neg (by omega)];congr 1;omega
  rw [e];have h1:=((dl_push hk2).post [-((n - k:Nat):Int)]).pre [-(k:Int)];have h2:=Cn.undo (n:=n) ([-(k:Int)] ++ ([(k:Int)] ++ dl n)) [] ((n - k:Nat):Int) (by omega);have h3:=Cn.undo (n:=n) [] (dl n ++ [-((n - k:Nat):Int)]) (-(k:Int)) (by omega);rw [show - -(k:Int)=(k:Int) by omega] at h3;simp only [List.append_assoc,List.append_nil,List.nil_append,List.cons_append] at h1 h2 h3 ⊢;have h4:=Cn.undo (n:=n) (-(k:Int) :: dl n) [] ((n - k:Nat):Int) (by omega)
  simp only [List.append_assoc,List.append_nil,List.nil_append,List.cons_append] at h4;exact h4.symm.trans ((Cn.refl _).trans (by
   have h5:=(dl_push hk2).symm.pre [-(k:Int)];simp only [List.append_assoc,List.append_nil,List.nil_append,List.cons_append] at h5;have h6:=h5.post [-((n - k:Nat):Int)];simp only [List.append_assoc,List.append_nil,List.nil_append,List.cons_append] at h6;exact h6.trans h3))

theorem dl_pass:∀ {u:List Int},Vld n u→Cn n (u ++ dl n) (dl n ++ trW n u)
 | [],_=>by
  show Cn n (dl n) (dl n ++ []);rw [List.append_nil];exact .refl _
 | x :: u,h=>by
  have h1:=(dl_pass h.tail).pre [x];have h2:=(dl_push1 h.head).post (trW n u);simp only [List.append_assoc] at h1 h2;have e:trW n (x :: u)=trW n [x] ++ trW n u:=rfl;rw [e];exact (show Cn n ([x] ++ (u ++ dl n)) _ from h1).trans h2
theorem Rd.trn {p:Pm n} {u:List Int} (h:Rd p u):Rd p.trn (trW n u):=by
 induction h with
 | one=>rw [trn_one];exact .one
 | cons p i hi hb _ ih=>
  have hi2:0 < n - i∧n - i < n:=by omega
  have r1:Pm.rv n (n - i)=i - 1:=by unfold Pm.rv;rw [if_pos hi2.2];omega
  have r2:Pm.rv n (n - i - 1)=i:=by unfold Pm.rv;rw [if_pos (by omega)];omega
  have e2:(p.L i hi).trn=p.trn.L (n - i) hi2:=Pm.ext fun x=>by
   show Pm.rv n (p.f (sw i (Pm.rv n x)))=Pm.rv n (p.f (Pm.rv n (sw (n - i) x)));rw [rv_sw hi2,show n - (n - i)=i by omega]
  rename_i u _;have e:trW n ((i:Int) :: u)=((n - i:Nat):Int) :: trW n u:=by
   show (if 0 < (i:Int) then (n:Int) - i else -(n:Int) - i) :: trW n u=_
   rw [if_pos (by omega)];congr 1;omega
  rw [e];refine .cons _ (n - i) hi2 ?_ (e2 ▸ ih);show Pm.rv n (p.f (Pm.rv n (n - i))) < Pm.rv n (p.f (Pm.rv n (n - i - 1)));rw [r1,r2,rv_lt (p.lt (by omega)) (p.lt hi.2)];exact hb
theorem wdR_vld (l:List (Pm n)):Vld n (wdR l):=by
 induction l with
 | nil=>intro x hx;cases hx
 | cons a l ih=>exact (wd_ok a).vld.app ih
theorem wdR_trn:∀ l:List (Pm n),Cn n (trW n (wdR l)) (wdR (l.map Pm.trn))
 | []=>.refl _
 | a :: l=>by
  rw [wdR_cons,trW_app,List.map_cons,wdR_cons];exact ((wd_ok a).trn.cn (wd_ok _)).app (wdR_trn l)
theorem dl_row (l:List (Pm n)):Cn n (dl n ++ wdR l) (wdR (l.map Pm.trn) ++ dl n):=by
 have h1:=dl_pass (wdR_vld (l.map Pm.trn));have h2:=(wdR_trn (l.map Pm.trn)).pre (dl n);rw [map_trn] at h2;exact (h1.trans h2).symm

noncomputable def dlP (n:Nat):Int→List Int
 | .ofNat k=>(List.replicate k (dl n)).flatten
 | .negSucc k=>(List.replicate (k+1) (invW (dl n))).flatten
theorem rep_comm (a:List Int):∀ k:Nat,(List.replicate k a).flatten ++ a=a ++ (List.replicate k a).flatten
 | 0=>by simp
 | k+1=>by
  rw [List.replicate_succ,List.flatten_cons,List.append_assoc,rep_comm a k]
theorem dlP_succ (k:Int):Cn n (dlP n k ++ dl n) (dlP n (k+1)):=by
 cases k with
 | ofNat k=>
  show Cn n ((List.replicate k (dl n)).flatten ++ dl n) ((List.replicate (k+1) (dl n)).flatten);rw [rep_comm,List.replicate_succ,List.flatten_cons];exact .refl _
 | negSucc k=>
  show Cn n ((List.replicate (k+1) (invW (dl n))).flatten ++ dl n) _;have e:dlP n (Int.negSucc k+1)=(List.replicate k (invW (dl n))).flatten:=by
   cases k with
   | zero=>rfl
   | succ k=>rfl
  rw [e,List.replicate_succ,List.flatten_cons,← rep_comm,List.append_assoc];have:=(Cn.inv2 (n:=n) dl_vld).pre (List.replicate k (invW (dl n))).flatten
  rwa [List.append_nil] at this
theorem dlP_add (k:Int):∀ m:Nat,Cn n (dlP n k ++ wdR (List.replicate m (Pm.del n))) (dlP n (k+m))
 | 0=>by
  show Cn n (dlP n k ++ []) (dlP n (k+0));rw [List.append_nil,Int.add_zero];exact .refl _
 | m+1=>by
  have e:wdR (List.replicate (m+1) (Pm.del n))=wdR (List.replicate m (Pm.del n)) ++ dl n:=by
   rw [List.replicate_succ',wdR_app];show _ ++ (wd (Pm.del n) ++ [])=_;rw [List.append_nil];rfl
  rw [e,← List.append_assoc,show k+((m+1:Nat):Int)=(k+m)+1 by omega];exact ((dlP_add k m).post _).trans (dlP_succ _)

noncomputable def wdV (s:Int × List (Pm n)):List Int:=dlP n s.1 ++ wdR s.2
theorem wdV_step (s:Int × List (Pm n)) {x:Int} (hx:0 < x.natAbs∧x.natAbs < n):Cn n (wdV s ++ [x]) (wdV (stepW s x)):=by
 rcases Int.lt_or_le 0 x with h | h
 ·obtain ⟨k,rfl⟩:=Int.eq_ofNat_of_zero_le (Int.le_of_lt h);have hk:0 < k∧k < n:=by omega
  rw [stepW_pos hk];show Cn n (dlP n s.1 ++ wdR s.2 ++ [(k:Int)]) (dlP n s.1 ++ wdR (s.2 ++ [ltr k hk]));rw [wdR_app,← List.append_assoc];refine Cn.pre ?_ _;show Cn n [(k:Int)] (wd (ltr k hk) ++ []);rw [List.append_nil];exact Rd.cn (Rd.one.snoc hk fun q=>by
   have:k < k - 1:=q;omega) (wd_ok _)
 ·obtain ⟨k,hk⟩:=Int.eq_ofNat_of_zero_le (show 0 ≤ -x by omega);obtain rfl:x = -(k:Int):=by omega
  have hk:0 < k∧k < n:=by omega
  rw [stepW_neg hk];show Cn n (dlP n s.1 ++ wdR s.2 ++ [-(k:Int)]) (dlP n (s.1 - 1) ++ wdR (s.2.map Pm.trn ++ [ctr k hk]));have h1:=((dlP_succ (n:=n) (s.1 - 1)).symm.post (wdR s.2)).post [-(k:Int)];rw [show s.1 - 1+1=s.1 by omega] at h1;have h2:=((dl_row s.2).pre (dlP n (s.1 - 1))).post [-(k:Int)];have hf:¬ (ctr k hk).fin k:=by
   rw [Pm.nfin hk.1];show Pm.rv n (sw k (k - 1)) < Pm.rv n (sw k k);rw [Pm.sw_at,Pm.sw_pre hk.1,rv_lt hk.2 (by omega)];omega
  have h3:Cn n (dl n) (wd (ctr k hk) ++ [(k:Int)]):=dl_ok.cn (by
   have:=(wd_ok (ctr k hk)).snoc hk hf
   rwa [show (ctr k hk).R k hk=Pm.del n from Pm.RR _ hk] at this)
  have h4:=((h3.pre (wdR (s.2.map Pm.trn))).pre (dlP n (s.1 - 1))).post [-(k:Int)];have h5:=Cn.undo (n:=n) (dlP n (s.1 - 1) ++ (wdR (s.2.map Pm.trn) ++ wd (ctr k hk))) [] (k:Int) (by omega);have e:wdR (s.2.map Pm.trn ++ [ctr k hk])=wdR (s.2.map Pm.trn) ++ wd (ctr k hk):=by
   rw [wdR_app];show _ ++ (wd (ctr k hk) ++ [])=_;rw [List.append_nil]
  rw [e];simp only [List.append_assoc,List.append_nil,List.nil_append,List.cons_append] at h1 h2 h4 h5 ⊢;exact h1.trans (h2.trans (h4.trans h5))
theorem wdV_word:∀ {w:List Int},Vld n w→∀ s:Int × List (Pm n),Cn n (wdV s ++ w) (wdV (w.foldl stepW s))
 | [],_,s=>by rw [List.append_nil];exact .refl _
 | x :: w,h,s=>by
  have h1:=(wdV_step s h.head).post w;rw [List.append_assoc] at h1;exact h1.trans (wdV_word h.tail _)

noncomputable def wdN (s:Frm n):List Int:=dlP n s.pw ++ wdR s.F
theorem wdR_ones:∀ r:Nat,wdR (List.replicate r (Pm.one n))=[]
 | 0=>rfl
 | r+1=>by rw [List.replicate_succ,wdR_cons,wd_one,wdR_ones r];rfl
theorem cn_nf {w:List Int} (h:Vld n w):Cn n w (wdN (nfW n w)):=by
 have h1:Cn n w (wdV (rowW n w)):=wdV_word h (0,[]);obtain ⟨m,⟨⟨r,e⟩,_,_⟩,h3⟩:=nfW_rep n w;have h4:=(NF_cn (rowW n w).2).pre (dlP n (rowW n w).1);rw [e,wdR_app,wdR_app,wdR_ones,List.append_nil,← List.append_assoc] at h4;have h5:=(dlP_add (n:=n) (rowW n w).1 m).post (wdR (nfW n w).F);rw [← h3] at h5;exact h1.trans (h4.trans h5)

theorem cn_of_nf {u v:List Int} (hu:Vld n u) (hv:Vld n v) (h:nfW n u=nfW n v):Cn n u v:=(cn_nf hu).trans (h ▸ (cn_nf hv).symm)
theorem nf_of_cn {u v:List Int} (hu:Vld n u) (hv:Vld n v) (h:Cn n u v):nfW n u=nfW n v:=by
 by_cases hn:2≤n
 ·exact (h.alk hn).nf hn
 ·have nil:∀ {w:List Int},Vld n w→w=[]:=fun {w} hw=>by
   cases w with
   | nil=>rfl
   | cons x w=>have:=hw.head;omega
  rw [nil hu,nil hv]
theorem nf_cn {u v:List Int} (hu:Vld n u) (hv:Vld n v):nfW n u=nfW n v↔Cn n u v:=⟨cn_of_nf hu hv,nf_of_cn hu hv⟩
end Go.Proofs.Ytooimphimnagaaa.Ev
namespace Go.Proofs.Ytooimphimnagaaa.Ev


noncomputable def swp (p:List Int) (k:Nat):List Int:=(p.set k (p.getD (k+1) 0)).set (k+1) (p.getD k 0)
theorem swp_len (p:List Int) (k:Nat):(swp p k).length=p.length:=by unfold swp;simp
theorem gset {l:List Int} {i j:Nat} {v:Int}:(l.set i v).getD j 0=if j=i∧i < l.length then v else l.getD j 0:=by
 rw [List.getD_eq_getElem?_getD,List.getD_eq_getElem?_getD,List.getElem?_set]
 by_cases h:i=j
 ·subst h
  by_cases h2:i < l.length
  ·simp [h2]
  ·simp [h2]
 ·rw [if_neg h,if_neg (fun e=>h e.1.symm)]
theorem swp_get {p:List Int} {k j:Nat} (h:k+1 < p.length):(swp p k).getD j 0=if j=k+1 then p.getD k 0 else if j=k then p.getD (k+1) 0 else p.getD j 0:=by
 unfold swp;rw [gset,gset];have e:(p.set k (p.getD (k+1) 0)).length=p.length:=by simp
 rw [e]
 by_cases h1:j=k+1
 ·rw [if_pos ⟨h1,h⟩,if_pos h1]
 ·rw [if_neg (fun e=>h1 e.1),if_neg h1]
  by_cases h2:j=k
  ·rw [if_pos ⟨h2,by omega⟩,if_pos h2]
  ·rw [if_neg (fun e=>h2 e.1),if_neg h2]

noncomputable def lwG:Nat→List Int→Nat→List Int
 | 0,_,_=>[]
 | f+1,p,k=>if k+1 < p.length then (if p.getD (k+1) 0 < p.getD k 0 then ((k+1:Nat):Int) :: lwG f (swp p k) 0 else lwG f p (k+1)) else []

noncomputable def wsF:Nat→List Int→Int
 | _,[]=>0
 | k,x :: q=>(k:Int) * x+wsF (k+1) q
theorem wsF_set:∀ (p:List Int) (k j:Nat) (v:Int),j < p.length→wsF k (p.set j v)=wsF k p+((k+j:Nat):Int) * v - ((k+j:Nat):Int) * p.getD j 0
 | [],_,_,_,h=>by simp at h
 | x :: q,k,0,v,_=>by
  show (k:Int) * v+wsF (k+1) q=(k:Int) * x+wsF (k+1) q+((k+0:Nat):Int) * v - ((k+0:Nat):Int) * x;rw [show ((k+0:Nat):Int)=(k:Int) from rfl];omega
 | x :: q,k,j+1,v,h=>by
  have:=wsF_set q (k+1) j v (by simp at h;omega);show (k:Int) * x+wsF (k+1) (q.set j v)=(k:Int) * x+wsF (k+1) q+((k+(j+1):Nat):Int) * v - ((k+(j+1):Nat):Int) * q.getD j 0;rw [this,show k+1+j=k+(j+1) by omega];omega
theorem wsF_swp {p:List Int} {k:Nat} (h:k+1 < p.length):wsF 0 (swp p k)=wsF 0 p+p.getD k 0 - p.getD (k+1) 0:=by
 have h1:=wsF_set (p.set k (p.getD (k+1) 0)) 0 (k+1) (p.getD k 0) (by simp;omega);have h2:=wsF_set p 0 k (p.getD (k+1) 0) (by omega);unfold swp;rw [h1,h2,gset,if_neg (fun e=>absurd e.1 (by omega))];rw [Nat.zero_add,Nat.zero_add];have e:((k+1:Nat):Int)=(k:Int)+1:=by omega
 rw [e,Int.add_mul,Int.add_mul];omega

def InR (p:List Int):Prop:=p.length≤12∧∀ x,x ∈ p→0≤x∧x < 12
theorem getD_mem' {p:List Int} {j:Nat} (h:j < p.length):p.getD j 0 ∈ p:=by
 rw [List.getD_eq_getElem?_getD,List.getElem?_eq_getElem h];exact List.getElem_mem h
theorem InR.swp {p:List Int} {k:Nat} (h:InR p) (hk:k+1 < p.length):InR (swp p k):=⟨by rw [swp_len];exact h.1,fun x hx=>by
 unfold Ev.swp at hx;rcases List.mem_or_eq_of_mem_set hx with h1 | rfl
 ·rcases List.mem_or_eq_of_mem_set h1 with h2 | rfl
  ·exact h.2 x h2
  ·exact h.2 _ (getD_mem' hk)
 ·exact h.2 _ (getD_mem' (by omega))⟩
theorem wsF_le:∀ (p:List Int) (k:Nat),k+p.length≤12→(∀ x,x ∈ p→0≤x∧x < 12)→wsF k p≤144 * (p.length:Int)
 | [],_,_,_=>by show (0:Int)≤144 * ((0:Nat):Int);omega
 | x :: q,k,h,hx=>by
  have h1:=wsF_le q (k+1) (by simp at h;omega) (fun y hy=>hx y (List.mem_cons_of_mem _ hy));have h2:=hx x List.mem_cons_self;have h3:(k:Int) * x≤12 * 12:=Int.mul_le_mul (by simp at h;omega) (by omega) h2.1 (by omega);show (k:Int) * x+wsF (k+1) q≤144 * ((q.length+1:Nat):Int);omega
theorem InR.ws {p:List Int} (h:InR p):wsF 0 p≤1728:=by
 have:=wsF_le p 0 (by have:=h.1;omega) h.2;have:=h.1;omega

noncomputable def msr (p:List Int) (k:Nat):Nat:=(1728 - wsF 0 p).toNat * 13+(12 - k)
theorem msr_swp {p:List Int} {k k':Nat} (h:InR p) (hk:k+1 < p.length) (hd:p.getD (k+1) 0 < p.getD k 0):msr (swp p k) k' < msr p k:=by
 have h1:=wsF_swp hk;have h2:=(h.swp hk).ws;have h3:=h.1;unfold msr;omega
theorem msr_next {p:List Int} {k:Nat} (h:InR p) (hk:k+1 < p.length):msr p (k+1) < msr p k:=by
 have h3:=h.1;unfold msr;omega
theorem lwG_enough:∀ (f g:Nat) (p:List Int) (k:Nat),InR p→msr p k≤f→msr p k≤g→lwG (f+1) p k=lwG (g+1) p k
 | f,g,p,k,h,hf,hg=>by
  unfold lwG
  by_cases h1:k+1 < p.length
  ·rw [if_pos h1,if_pos h1]
   by_cases h2:p.getD (k+1) 0 < p.getD k 0
   ·rw [if_pos h2,if_pos h2];have:=msr_swp (k':=0) h h1 h2;obtain ⟨f,rfl⟩:∃ f',f=f'+1:=⟨f - 1,by omega⟩;obtain ⟨g,rfl⟩:∃ g',g=g'+1:=⟨g - 1,by omega⟩;rw [lwG_enough f g (swp p k) 0 (h.swp h1) (by omega) (by omega)]
   ·rw [if_neg h2,if_neg h2];have:=msr_next h h1;obtain ⟨f,rfl⟩:∃ f',f=f'+1:=⟨f - 1,by omega⟩;obtain ⟨g,rfl⟩:∃ g',g=g'+1:=⟨g - 1,by omega⟩;exact lwG_enough f g p (k+1) h (by omega) (by omega)
  ·rw [if_neg h1,if_neg h1]

noncomputable def lwo (p:List Int):List Int:=lwG (msr p 0+1) p 0
theorem lwo_fuel {p:List Int} {f:Nat} (h:InR p) (hf:msr p 0≤f):lwG (f+1) p 0=lwo p:=lwG_enough f _ p 0 h hf (Nat.le_refl _)
theorem lwG_len:∀ (f:Nat) (p:List Int) (k:Nat),InR p→(lwG f p k).length≤(1728 - wsF 0 p).toNat
 | 0,p,k,h=>by show 0≤_;omega
 | f+1,p,k,h=>by
  unfold lwG
  by_cases h1:k+1 < p.length
  ·rw [if_pos h1]
   by_cases h2:p.getD (k+1) 0 < p.getD k 0
   ·rw [if_pos h2];have:=lwG_len f (swp p k) 0 (h.swp h1);have h3:=wsF_swp h1;have h4:=(h.swp h1).ws;rw [List.length_cons];omega
   ·rw [if_neg h2];exact lwG_len f p (k+1) h
  ·rw [if_neg h1];show 0≤_;omega
theorem wsF_nn:∀ (p:List Int) (k:Nat),(∀ x,x ∈ p→0≤x∧x < 12)→0≤wsF k p
 | [],_,_=>Int.le_refl _
 | x :: q,k,hx=>by
  have h1:=wsF_nn q (k+1) (fun y hy=>hx y (List.mem_cons_of_mem _ hy));have h2:=hx x List.mem_cons_self;have h3:0≤(k:Int) * x:=Int.mul_nonneg (by omega) h2.1;show 0≤(k:Int) * x+wsF (k+1) q;omega
theorem lwo_len {p:List Int} (h:InR p):(lwo p).length≤1728:=by
 have:=lwG_len (msr p 0+1) p 0 h;have:=wsF_nn p 0 h.2;unfold lwo;omega
theorem lwG_mem:∀ (f:Nat) (p:List Int) (k:Nat),InR p→∀ x,x ∈ lwG f p k→1≤x∧x≤12
 | 0,p,k,h,x,hx=>by cases hx
 | f+1,p,k,h,x,hx=>by
  unfold lwG at hx
  by_cases h1:k+1 < p.length
  ·rw [if_pos h1] at hx
   by_cases h2:p.getD (k+1) 0 < p.getD k 0
   ·rw [if_pos h2] at hx;rcases List.mem_cons.1 hx with rfl | hx
    ·have:=h.1;omega
    ·exact lwG_mem f (swp p k) 0 (h.swp h1) x hx
   ·rw [if_neg h2] at hx;exact lwG_mem f p (k+1) h x hx
  ·rw [if_neg h1] at hx;cases hx
theorem lwo_mem {p:List Int} (h:InR p) {x:Int} (hx:x ∈ lwo p):1≤x∧x≤12:=lwG_mem _ p 0 h x hx

def Dis (p:List Int):Prop:=∀ a b,a < p.length→b < p.length→p.getD a 0=p.getD b 0→a=b
def Asc (p:List Int) (k:Nat):Prop:=∀ j,j < k→j+1 < p.length→¬ p.getD (j+1) 0 < p.getD j 0

theorem lwG_skip:∀ (d:Nat) (p:List Int) (k f:Nat),InR p→Asc p (k+d)→(k+d=0∨k+d < p.length)→msr p k≤f→lwG (f+1) p k=lwG (f+1) p (k+d)
 | 0,p,k,f,_,_,_,_=>rfl
 | d+1,p,k,f,h,ha,hl,hf=>by
  have h1:k+1 < p.length:=by omega
  have h2:=ha k (by omega) h1;have h3:=msr_next h h1;obtain ⟨f,rfl⟩:∃ f',f=f'+1:=⟨f - 1,by omega⟩;have h4:=lwG_skip d p (k+1) f h (by rw [show k+1+d=k+(d+1) by omega];exact ha) (by omega) (by omega);rw [show k+1+d=k+(d+1) by omega] at h4;have h5:lwG (f+1+1) p k=lwG (f+1) p (k+1):=by
   rw [lwG];rw [if_pos h1,if_neg h2]
  rw [h5,h4];have:msr p (k+(d+1))≤f:=by
   have:msr p (k+(d+1))≤msr p (k+1):=by unfold msr;omega
   omega
  exact lwG_enough f (f+1) p (k+(d+1)) h this (by omega)
theorem lwo_desc {p:List Int} {k:Nat} (h:InR p) (ha:Asc p k) (h1:k+1 < p.length) (h2:p.getD (k+1) 0 < p.getD k 0):lwo p=((k+1:Nat):Int) :: lwo (swp p k):=by
 have h3:=lwG_skip k p 0 (msr p 0) h (by rw [Nat.zero_add];exact ha) (by omega) (Nat.le_refl _);rw [Nat.zero_add] at h3;unfold lwo;rw [h3,lwG,if_pos h1,if_pos h2];have h4:=msr_swp (k':=0) h h1 h2;have h5:msr p k≤msr p 0:=by unfold msr;omega
 obtain ⟨m,hm⟩:∃ m,msr p 0=m+1:=⟨msr p 0 - 1,by omega⟩;rw [hm];rw [lwo_fuel (h.swp h1) (by omega)];rfl
theorem lwo_asc {p:List Int} {k:Nat} (h:InR p) (ha:Asc p k) (hk:k=0∨k < p.length) (h1:p.length≤k+1):lwo p=[]:=by
 have h3:=lwG_skip k p 0 (msr p 0) h (by rw [Nat.zero_add];exact ha) (by omega) (Nat.le_refl _);rw [Nat.zero_add] at h3;unfold lwo;rw [h3,lwG,if_neg (by omega)]
theorem Asc.next {p:List Int} {k:Nat} (ha:Asc p k) (h:¬ p.getD (k+1) 0 < p.getD k 0):Asc p (k+1):=fun j hj hl=>by
 by_cases e:j=k
 ·subst e;exact h
 ·exact ha j (by omega) hl
theorem Asc.zero (p:List Int):Asc p 0:=fun j hj _=>by omega


noncomputable def prF (n:Nat):List Bool→List Int→Bool
 | _,[]=>true
 | seen,x :: q=>if x < 0 then false else if (n:Int)≤x then false else if seen.getD x.toNat false=true then false else prF n (seen.set x.toNat true) q
theorem gsetB {l:List Bool} {i j:Nat} {v:Bool}:(l.set i v).getD j false=if j=i∧i < l.length then v else l.getD j false:=by
 rw [List.getD_eq_getElem?_getD,List.getD_eq_getElem?_getD,List.getElem?_set]
 by_cases h:i=j
 ·subst h
  by_cases h2:i < l.length
  ·simp [h2]
  ·simp [h2]
 ·rw [if_neg h,if_neg (fun e=>h e.1.symm)]
theorem prF_iff (n:Nat):∀ (q:List Int) (seen:List Bool),seen.length=n→(prF n seen q=true↔q.Nodup∧∀ x,x ∈ q→0≤x∧x < n∧seen.getD x.toNat false=false)
 | [],seen,_=>by simp [prF]
 | x :: q,seen,hs=>by
  unfold prF
  by_cases h1:x < 0
  ·rw [if_pos h1];exact ⟨fun h=>(by cases h),fun h=>(by have:=h.2 x List.mem_cons_self;omega)⟩
  rw [if_neg h1]
  by_cases h2:(n:Int)≤x
  ·rw [if_pos h2];exact ⟨fun h=>(by cases h),fun h=>(by have:=h.2 x List.mem_cons_self;omega)⟩
  rw [if_neg h2]
  by_cases h3:seen.getD x.toNat false=true
  ·rw [if_pos h3];exact ⟨fun h=>(by cases h),fun h=>(by have:=(h.2 x List.mem_cons_self).2.2;rw [h3] at this;cases this)⟩
  rw [if_neg h3];have h3:seen.getD x.toNat false=false:=by simpa using h3
  rw [prF_iff n q (seen.set x.toNat true) (by simpa using hs)];rw [List.nodup_cons];constructor
  ·rintro ⟨k1,k2⟩
   refine ⟨⟨fun hx=>?_,k1⟩,fun y hy=>?_⟩
   ·have:=(k2 x hx).2.2;rw [gsetB,if_pos ⟨rfl,by omega⟩] at this;cases this
   ·rcases List.mem_cons.1 hy with rfl | hy
    ·exact ⟨by omega,by omega,h3⟩
    ·obtain ⟨a1,a2,a3⟩:=k2 y hy;refine ⟨a1,a2,?_⟩;rw [gsetB] at a3;split at a3
     ·cases a3
     ·exact a3
  ·rintro ⟨⟨k1,k2⟩,k3⟩
   refine ⟨k2,fun y hy=>?_⟩;obtain ⟨a1,a2,a3⟩:=k3 y (List.mem_cons_of_mem _ hy);refine ⟨a1,a2,?_⟩;rw [gsetB,if_neg (fun e=>?_)]
   ·exact a3
   ·have h4:=k3 x List.mem_cons_self;have:y=x:=by omega
    exact k1 (this ▸ hy)

theorem prF_dis {p:List Int} {n:Nat} (hl:p.length=n) (hn:n≤12) (h:prF n (List.replicate n false) p=true):InR p∧Dis p:=by
 rw [prF_iff n p _ (by simp)] at h;refine ⟨⟨by omega,fun x hx=>by have:=h.2 x hx;omega⟩,fun a b ha hb e=>?_⟩;rw [List.getD_eq_getElem?_getD,List.getElem?_eq_getElem ha,List.getD_eq_getElem?_getD,List.getElem?_eq_getElem hb] at e;simp only [Option.getD_some] at e;exact (List.getElem_inj h.1).1 e


noncomputable def dlt (n:Nat):List Int:=(List.range n).map fun (a:Nat)=>(n:Int) - 1 - (a:Int)
theorem dlt_len (n:Nat):(dlt n).length=n:=by unfold dlt;simp
theorem dlt_get {n a:Nat} (h:a < n):(dlt n).getD a 0=(n:Int) - 1 - (a:Int):=by
 unfold dlt;rw [List.getD_eq_getElem?_getD,List.getElem?_map,List.getElem?_range h];rfl
theorem dlt_inR {n:Nat} (h:n≤12):InR (dlt n):=⟨by rw [dlt_len];exact h,fun x hx=>by
 unfold dlt at hx;obtain ⟨a,ha,rfl⟩:=List.mem_map.1 hx;have:=List.mem_range.1 ha;omega⟩
noncomputable def lp1 (d:List Int):Nat→List Int→List Int
 | 0,out=>out
 | c+1,out=>if 0 < d.length then (if out.length≤400 then lp1 d c (out ++ d) else out) else out
noncomputable def lp2:List (List Int)→List Int→List Int
 | [],out=>out
 | p :: q,out=>if out.length≤400 then lp2 q (out ++ lwo p) else out
theorem lp1_none:∀ (c:Nat) (out:List Int),lp1 [] c out=out
 | 0,out=>rfl
 | c+1,out=>by unfold lp1;rw [if_neg (by simp)]
theorem lp1_le {d:List Int} (hd:d.length≤2000):∀ (c:Nat) (out:List Int),out.length≤2400→(lp1 d c out).length≤2400
 | 0,out,h=>h
 | c+1,out,h=>by
  unfold lp1;split
  ·split
   ·exact lp1_le hd c _ (by rw [List.length_append];omega)
   ·exact h
  ·exact h
noncomputable instance (p:List Int):Decidable (Dis p):=Classical.propDecidable _

def Sml (l:List Int):Prop:=∀ x,x ∈ l → -1000≤x∧x≤1000
instance (p:List Int):Decidable (InR p):=inferInstanceAs (Decidable (p.length≤12∧∀ x,x ∈ p→0≤x∧x < 12))
instance (l:List Int):Decidable (Sml l):=inferInstanceAs (Decidable (∀ x,x ∈ l → -1000≤x∧x≤1000))
end Go.Proofs.Ytooimphimnagaaa.Ev
namespace Go.Proofs.Ytooimphimnagaaa.Ev
variable {n:Nat}

theorem lst_get {p:Pm n} {x:Nat} (hx:x < n):((List.range n).map fun x=>((p.f x:Nat):Int)).getD x 0=(p.f x:Int):=by
 rw [List.getD_eq_getElem?_getD,List.getElem?_map,List.getElem?_range hx];rfl
theorem lst_len (p:Pm n):((List.range n).map fun x=>((p.f x:Nat):Int)).length=n:=by rw [List.length_map,List.length_range]
theorem lst_inR (hn:n≤12) (p:Pm n):InR ((List.range n).map fun x=>((p.f x:Nat):Int)):=⟨by rw [lst_len];exact hn,fun x hx=>by
 obtain ⟨y,hy,rfl⟩:=List.mem_map.1 hx;have:=p.lt (List.mem_range.1 hy);omega⟩
theorem lst_swp (p:Pm n) {k:Nat} (hk:0 < k+1∧k+1 < n):swp ((List.range n).map fun x=>((p.f x:Nat):Int)) k=(List.range n).map fun x=>(((p.L (k+1) hk).f x:Nat):Int):=by
 apply List.ext_getElem (by rw [swp_len,lst_len,lst_len]);intro x h1 h2;rw [lst_len] at h2;have e1:=swp_get (p:=(List.range n).map fun x=>((p.f x:Nat):Int)) (k:=k) (j:=x) (by rw [lst_len];exact hk.2);rw [List.getD_eq_getElem?_getD,List.getElem?_eq_getElem h1] at e1;have e2:=lst_get (p:=p.L (k+1) hk) h2;rw [List.getD_eq_getElem?_getD,List.getElem?_eq_getElem (by rw [lst_len];exact h2)] at e2;have e1:(swp ((List.range n).map fun x=>((p.f x:Nat):Int)) k)[x]=_:=e1;refine e1.trans (Eq.trans ?_ e2.symm);show _=((p.f (sw (k+1) x):Nat):Int)
 by_cases c1:x=k+1
 ·rw [if_pos c1,lst_get (by omega),c1,Pm.sw_at,Nat.add_sub_cancel]
 ·rw [if_neg c1]
  by_cases c2:x=k
  ·have:=Pm.sw_pre (i:=k+1) (by omega);rw [Nat.add_sub_cancel] at this;rw [if_pos c2,lst_get hk.2,c2,this]
  ·rw [if_neg c2,lst_get h2,Pm.sw_ne c1 (by omega)]
theorem lwo_rd (hn:n≤12):∀ (m:Nat) (p:Pm n),n * (n * n) - p.W≤m→Rd p (lwo ((List.range n).map fun x=>((p.f x:Nat):Int)))
 | m,p,hm=>by
  have key:∀ k,Asc ((List.range n).map fun x=>((p.f x:Nat):Int)) k∨∃ j,Asc ((List.range n).map fun x=>((p.f x:Nat):Int)) j∧j+1 < n∧p.f (j+1) < p.f j:=by
   intro k
   induction k with
   | zero=>exact .inl (Asc.zero _)
   | succ k ih=>
    rcases ih with ih | ih
    ·by_cases h:k+1 < n∧p.f (k+1) < p.f k
     ·exact .inr ⟨k,ih,h⟩
     ·refine .inl fun j hj hl=>?_;rcases Nat.lt_or_ge j k with hjk | hjk
      ·exact ih j hjk hl
      ·obtain rfl:j=k:=by omega
       rw [lst_len] at hl;rw [lst_get (by omega),lst_get (by omega)];intro q;exact h ⟨hl,by omega⟩
    ·exact .inr ih
  rcases key (n - 1) with h | ⟨j,h1,h2,h3⟩
  ·by_cases h0:n=0
   ·subst h0;have:p=Pm.one 0:=Pm.ext fun x=>p.out x (by omega);subst this;have e:lwo ((List.range 0).map fun x=>(((Pm.one 0).f x:Nat):Int))=[]:=lwo_asc (k:=0) (lst_inR hn _) (Asc.zero _) (.inl rfl) (by rw [lst_len];omega);rw [e];exact .one
   have e:=lwo_asc (lst_inR hn p) h (.inr (by rw [lst_len];omega)) (by rw [lst_len];omega);have:p=Pm.one n:=Pm.one_of fun i i1 i2 hb=>by
    have:=h (i - 1) (by omega) (by rw [lst_len];omega);rw [show i - 1+1=i by omega,lst_get i2,lst_get (by omega)] at this;have hb:p.f i < p.f (i - 1):=hb;omega
   rw [e,this];exact .one
  ·have e:=lwo_desc (lst_inR hn p) h1 (by rw [lst_len];exact h2) (by rw [lst_get h2,lst_get (by omega)];omega);have hk:0 < j+1∧j+1 < n:=⟨by omega,h2⟩;have hb:p.beg (j+1):=by show p.f (j+1) < p.f (j+1 - 1);rw [Nat.add_sub_cancel];exact h3
   have w1:=p.W_L hk hb;have w2:=(p.L (j+1) hk).W_le;rw [e,lst_swp p hk]
   match m with
   | 0=>omega
   | m+1=>exact .cons p (j+1) hk hb (lwo_rd hn m _ (by omega))
theorem dlt_rd (hn:n≤12):Rd (Pm.del n) (lwo (dlt n)):=by
 have:=lwo_rd hn _ (Pm.del n) (Nat.le_refl _);have e:((List.range n).map fun x=>(((Pm.del n).f x:Nat):Int))=dlt n:=by
  unfold dlt;refine List.map_congr_left fun x hx=>?_;have:=List.mem_range.1 hx;show ((Pm.rv n x:Nat):Int)=_;unfold Pm.rv;rw [if_pos this];omega
 rwa [e] at this

theorem trW_trW {u:List Int} (h:Vld n u):trW n (trW n u)=u:=by
 unfold trW;rw [List.map_map];refine (List.map_congr_left (g:=id) fun x hx=>?_).trans (List.map_id _);obtain ⟨h1,h2,h3⟩:=h x hx;show (if 0 < (if 0 < x then (n:Int) - x else -(n:Int) - x) then (n:Int) - (if 0 < x then (n:Int) - x else -(n:Int) - x) else -(n:Int) - (if 0 < x then (n:Int) - x else -(n:Int) - x))=x
 by_cases c:0 < x
 ·rw [if_pos c,if_pos (by omega)];omega
 ·rw [if_neg c,if_neg (by omega)];omega
theorem Vld.rev {u:List Int} (h:Vld n u):Vld n u.reverse:=fun x hx=>h x (List.mem_reverse.1 hx)
theorem turn_nf (hn:n≤12) {a:List Int} (h:Vld n a):nfW n (lwo (dlt n) ++ a)=nfW n (trW n a ++ lwo (dlt n)):=by
 have h1:=(dl_pass (trW_vld h));rw [trW_trW h] at h1;have h2:=dl_ok.cn (dlt_rd hn);have hv:=(dlt_rd hn).vld;exact nf_of_cn (hv.app h) ((trW_vld h).app hv) ((h2.symm.post a).trans (h1.symm.trans (h2.pre _)))
theorem rev_nf {a b:List Int} (ha:Vld n a) (hb:Vld n b):nfW n a=nfW n b↔nfW n a.reverse=nfW n b.reverse:=by
 rw [nf_cn ha hb,nf_cn ha.rev hb.rev];refine ⟨fun h=>h.rev,fun h=>?_⟩;have:=h.rev
 rwa [List.reverse_reverse,List.reverse_reverse] at this
theorem inv_nf {a b:List Int} (ha:Vld n a) (hb:Vld n b):nfW n a=nfW n b↔nfW n (invW a)=nfW n (invW b):=by
 rw [nf_cn ha hb,nf_cn (invW_vld ha) (invW_vld hb)];refine ⟨fun h=>h.invC ha hb,fun h=>?_⟩;have:=h.invC (invW_vld ha) (invW_vld hb)
 rwa [invW_invW,invW_invW] at this
theorem neg_inv (a:List Int):(a.map fun x=>-x)=(invW a).reverse:=by unfold invW;rw [List.reverse_reverse]
theorem neg_nf {a b:List Int} (ha:Vld n a) (hb:Vld n b):nfW n a=nfW n b↔nfW n (a.map fun x=>-x)=nfW n (b.map fun x=>-x):=by
 rw [neg_inv,neg_inv,inv_nf ha hb,rev_nf (invW_vld ha) (invW_vld hb)]
end Go.Proofs.Ytooimphimnagaaa.Ev
namespace Go.Proofs.Ytooimphimnagaaa.Ev
open Go.Proofs

noncomputable def lin (n:Nat):List Int:=(List.range n).map fun (a:Nat)=>(a:Int)
theorem lin_len (n:Nat):(lin n).length=n:=by unfold lin;simp
theorem lin_succ (n:Nat):lin (n+1)=lin n ++ [(n:Int)]:=by unfold lin;rw [List.range_succ,List.map_append];rfl
noncomputable def invl (l:List Int):List Int:=(l.map fun x=>-x).reverse
theorem invl_len (l:List Int):(invl l).length=l.length:=by unfold invl;simp
namespace RLif
noncomputable def RUN (s:ES):ZF:=RZ 87 .nil (atS 0 87 3) [] [[(0,none),(3,some (1,3,.ints .i64 [])),(4,none)]] false s

noncomputable def sL (n:Int) (q:List Int) (nn:Bool) (i:Int):NS:=⟨[⟨87,15,[(0,(EV.v (Value.int IntKind.i64 (n)))),(3,EV.slO 0 1 q.length nn),(4,iv i)],[.it (.code (nav [1,1,0,1,0,0,0] (bodyOf Try.f87))),.it (.code (nav [1,1,0,1,0,0,1] (bodyOf Try.f87))),.it (.inLoop (nav [1,1,0,1,0,0] (bodyOf Try.f87))),.it (.inBlock 0),.it (.code (nav [1,1,1] (bodyOf Try.f87)))],[],Option.none⟩],[(0,EK.seq 3 (.ints .i64 q) nn)],1⟩
theorem in_t (n:Int):RUN (st0 87 [iv n])=(.at (sL (n) ([]) (false) ((0:Int)))):=by kernel_rfl
theorem step_t (n:Int) (q:List Int) (nn:Bool) (i:Int):RUN (stOf (sL n q nn i))=(bc (decide (i < n)) (bc (bc (Nat.beq (List.length q) (List.length q)) (bc (Nat.ble (List.length q+List.length (List.map (fun r=>U.int (List.headD r (U.i (0:Int)))) [[U.i i]])) (65536:Nat)) (bc nn true (bc nn false true)) false) false) (.at (sL (n) (q ++ List.map (fun r=>U.int (List.headD r (U.i (0:Int)))) [[U.i i]]) (bc nn true (Nat.blt (0:Nat) (List.length (List.map (fun r=>U.int (List.headD r (U.i (0:Int)))) [[U.i i]])))) (IntKind.wrap IntKind.i64 (i+(1:Int))))) .bad) (bc (Nat.beq (List.length q) (List.length q)) (.done (EV.lst (SyC.ints IntKind.i64 (q))) [] 0) .bad)):=by kernel_rfl
theorem step {n i:Nat} {q:List Int} {nn:Bool} (hi:i < n) (hn:n≤12) (hq:q.length=i):RUN (stOf (sL n q nn i)) = .at (sL n (q ++ [(i:Int)]) (bc nn true true) (i+1:Nat)):=by
 rw [step_t];simp (disch:=omega) only [Nat.add_eq,eqSy_self,eqN_self,bc_same,List.length_cons,ofn,wrap_in,dt,df,bltD,bltN,ble_of,bleN,beqD,bc_t,bc_f,nn_ok,Nat.zero_add,to_nat,Int.zero_add,Int.sub_zero,Int.sub_self,Int.cast_ofNat_Int,Int.natCast_zero,Int.toNat_zero,List.take_zero,List.nil_append,List.length_append,List.length_nil,List.map_cons,List.map_nil];rfl
theorem last {n i:Nat} {q:List Int} {nn:Bool} (hi:n≤i):RUN (stOf (sL n q nn i)) = .done (il q) [] 0:=by
 rw [step_t];simp (disch:=omega) only [Nat.add_eq,eqSy_self,eqN_self,bc_same,List.length_cons,ofn,wrap_in,dt,df,bltD,bltN,ble_of,bleN,beqD,bc_t,bc_f,nn_ok,Nat.zero_add,to_nat,Int.zero_add,Int.sub_zero,Int.sub_self,Int.cast_ofNat_Int,Int.natCast_zero,Int.toNat_zero,List.take_zero,List.nil_append,List.length_append,List.length_nil]
theorem loop {n:Nat} (hn:n≤12):∀ (k i:Nat) (nn:Bool),i+k=n→EndZ 87 .nil false (stOf (sL n (lin i) nn i)) (il (lin n)) [] 0
 | 0,i,nn,h=>by
  obtain rfl:i=n:=by omega
  exact .done (last (Nat.le_refl _))
 | k+1,i,nn,h=>by
  have h1:=step (nn:=nn) (show i < n by omega) hn (lin_len i);rw [← lin_succ] at h1;exact .at (.nil _) h1 (loop hn k (i+1) _ (by omega))
end RLif
namespace RLif
noncomputable def RUNo (s:ES):ZF:=RZ 87 .nil (atS 0 87 3) [] [[(0,none),(3,some (1,3,.ints .i64 [])),(4,none)]] true s

theorem stepo_t (n:Int) (q:List Int) (nn:Bool) (i:Int):RUNo (stOf (sL n q nn i))=(bc (decide (i < n)) (bc (bc (Nat.beq (List.length q) (List.length q)) (bc (Nat.ble (List.length q+List.length (List.map (fun r=>U.int (List.headD r (U.i (0:Int)))) [[U.i i]])) (65536:Nat)) (bc nn true (bc nn false true)) false) false) (.at (sL (n) (q ++ List.map (fun r=>U.int (List.headD r (U.i (0:Int)))) [[U.i i]]) (bc nn true (Nat.blt (0:Nat) (List.length (List.map (fun r=>U.int (List.headD r (U.i (0:Int)))) [[U.i i]])))) (IntKind.wrap IntKind.i64 (i+(1:Int))))) .bad) (.done (EV.slO 0 1 (List.length q) (nn)) [(0,(EK.seq 3 (SyC.ints IntKind.i64 (q)) (nn)))] 1)):=by kernel_rfl
theorem lasto {n i:Nat} {q:List Int} (hi:n≤i):RUNo (stOf (sL n q true i)) = .done (.slO 0 1 q.length true) (zseqs [(0,3,.ints .i64 q,true)]) 1:=by
 rw [stepo_t];simp (disch:=omega) only [Nat.add_eq,eqSy_self,eqN_self,bc_same,List.length_cons,ofn,wrap_in,dt,df,bltD,bltN,ble_of,bleN,beqD,bc_t,bc_f,nn_ok,Nat.zero_add,to_nat,Int.zero_add,Int.sub_zero,Int.sub_self,Int.cast_ofNat_Int,Int.natCast_zero,Int.toNat_zero,List.take_zero,List.nil_append,List.length_append,List.length_nil];rfl
theorem loopo {n:Nat} (hn:n≤12):∀ (k i:Nat),i+k=n→EndZ 87 .nil true (stOf (sL n (lin i) true i)) (.slO 0 1 (lin n).length true) (zseqs [(0,3,.ints .i64 (lin n),true)]) 1
 | 0,i,h=>by
  obtain rfl:i=n:=by omega
  exact .done (lasto (Nat.le_refl _))
 | k+1,i,h=>by
  have h1:=step (nn:=true) (show i < n by omega) hn (lin_len i);rw [← lin_succ] at h1;exact .at (.nil _) h1 (loopo hn k (i+1) (by omega))
end RLif
noncomputable def spRLif:ZCT:=fun ax=>match ax with
 | [.v (.int .i64 n)]=>some ⟨decide (1≤n∧n≤12),.slO 0 1 (lin n.toNat).length true,[(0,3,.ints .i64 (lin n.toNat),true)],1⟩
 | _=>none
theorem spRLif_ok:ZCtOk Try.prog 87 spRLif:=fun γ w us ax r hs hc hax hN hfz=>by
 unfold spRLif at hs;split at hs
 case h_2=>cases hs
 rename_i n;obtain ⟨rfl⟩:=Option.some.inj hs;have hc_0:decide (1≤n∧n≤12)=true:=hc;have hc:=of_decide_eq_true hc_0;exact EndZ.calls (by
  obtain ⟨n,rfl⟩:=Int.eq_ofNat_of_zero_le (show 0≤n by omega);refine .at (.nil _) (RLif.in_t n) ?_;have h1:=RLif.step (nn:=false) (q:=lin 0) (show 0 < n by omega) (by omega) (lin_len 0);rw [← lin_succ] at h1;exact .at (.nil _) h1 (RLif.loopo (by omega) (n - 1) 1 (by omega))) (.nil _) (by kernel_rfl) hax hN hfz
namespace RInv
noncomputable def RUN (s:ES):ZF:=RZ 81 .nil (atS 0 81 3) [] [[(0,none),(3,some (1,3,.ints .i64 [])),(4,none)]] false s

noncomputable def sL (l q:List Int) (nn:Bool) (i:Int):NS:=⟨[⟨81,21,[(0,(EV.lst (SyC.ints IntKind.i64 (l)))),(3,EV.slO 0 1 q.length nn),(4,iv i)],[.it (.code (nav [1,1,0,1,0,0,0] (bodyOf Try.f81))),.it (.code (nav [1,1,0,1,0,0,1] (bodyOf Try.f81))),.it (.inLoop (nav [1,1,0,1,0,0] (bodyOf Try.f81))),.it (.inBlock 0),.it (.code (nav [1,1,1] (bodyOf Try.f81)))],[],Option.none⟩],[(0,EK.seq 3 (.ints .i64 q) nn)],1⟩
theorem in_t (l:List Int):RUN (st0 81 [il l])=(.at (sL (l) ([]) (false) (IntKind.wrap IntKind.i64 (Int.ofNat (List.length l) - (1:Int))))):=by kernel_rfl
theorem step_t (l q:List Int) (nn:Bool) (i:Int):RUN (stOf (sL l q nn i))=(bc (decide ((0:Int)≤i)) (bc (bc (bc (decide ((0:Int)≤i)) (Nat.blt (Int.toNat i) (List.length l)) false) true false) (bc (bc (Nat.blt (Int.toNat i) (List.length l)) true false) (bc (bc (Nat.beq (List.length q) (List.length q)) (bc (Nat.ble (List.length q+List.length (List.map (fun r=>U.int (List.headD r (U.i (0:Int)))) [[U.i (IntKind.wrap IntKind.i64 ((0:Int) - List.getD l (Int.toNat i) (0:Int)))]])) (65536:Nat)) (bc nn true (bc nn false true)) false) false) (.at (sL (l) (q ++ List.map (fun r=>U.int (List.headD r (U.i (0:Int)))) [[U.i (IntKind.wrap IntKind.i64 ((0:Int) - List.getD l (Int.toNat i) (0:Int)))]]) (bc nn true (Nat.blt (0:Nat) (List.length (List.map (fun r=>U.int (List.headD r (U.i (0:Int)))) [[U.i (IntKind.wrap IntKind.i64 ((0:Int) - List.getD l (Int.toNat i) (0:Int)))]])))) (IntKind.wrap IntKind.i64 (i - (1:Int))))) .bad) .bad) .bad) (bc (Nat.beq (List.length q) (List.length q)) (.done (EV.lst (SyC.ints IntKind.i64 (q))) [] 0) .bad)):=by kernel_rfl
theorem step {l q:List Int} {i:Nat} {nn:Bool} (hi:i < l.length) (hl:l.length≤2000) (hq:q.length+i < l.length) (hx:Sml l):RUN (stOf (sL l q nn i)) = .at (sL l (q ++ [- l.getD i 0]) (bc nn true true) ((i:Int) - 1)):=by
 rw [step_t];have h1:=hx (l.getD i 0) (getD_mem' hi);simp (disch:=omega) only [Nat.add_eq,eqSy_self,eqN_self,bc_same,List.length_cons,ofn,wrap_in,dt,df,bltD,bltN,ble_of,bleN,beqD,bc_t,bc_f,nn_ok,Nat.zero_add,to_nat,Int.zero_add,Int.sub_zero,Int.sub_self,Int.cast_ofNat_Int,Int.natCast_zero,Int.toNat_zero,List.take_zero,List.nil_append,List.length_append,List.length_nil,List.map_cons,List.map_nil,Int.zero_sub];rfl
theorem last {l q:List Int} {nn:Bool}:RUN (stOf (sL l q nn (-1))) = .done (il q) [] 0:=by
 rw [step_t];simp (disch:=omega) only [Nat.add_eq,eqSy_self,eqN_self,bc_same,List.length_cons,ofn,wrap_in,dt,df,bltD,bltN,ble_of,bleN,beqD,bc_t,bc_f,nn_ok,Nat.zero_add,to_nat,Int.zero_add,Int.sub_zero,Int.sub_self,Int.cast_ofNat_Int,Int.natCast_zero,Int.toNat_zero,List.take_zero,List.nil_append,List.length_append,List.length_nil]
theorem loop {l:List Int} (hl:l.length≤2000) (hx:Sml l):∀ (i:Nat) (q:List Int) (nn:Bool),i≤l.length→q.length+i≤l.length→EndZ 81 .nil false (stOf (sL l q nn ((i:Int) - 1))) (il (q ++ ((l.take i).map fun x=>-x).reverse)) [] 0
 | 0,q,nn,hi,h=>by
  rw [List.take_zero,List.map_nil,List.reverse_nil,List.append_nil];exact .done last
 | i+1,q,nn,hi,h=>by
  have h1:=step (q:=q) (nn:=nn) (show i < l.length by omega) hl (by omega) hx;rw [show (((i+1:Nat):Int) - 1)=(i:Int) by omega];have h2:=loop hl hx i (q ++ [- l.getD i 0]) (bc nn true true) (by omega) (by simp;omega);rw [getD_at (show i < l.length by omega)] at h2 h1;have e:q ++ ((l.take (i+1)).map fun x=>-x).reverse=(q ++ [-l[i]]) ++ ((l.take i).map fun x=>-x).reverse:=by
   rw [List.take_succ_eq_append_getElem (show i < l.length by omega),List.map_append,List.reverse_append,List.append_assoc];rfl
  rw [e];exact .at (.nil _) h1 h2
end RInv
noncomputable def spRInv:ZCT:=fun ax=>match ax with
 | [.lst (.ints .i64 l)]=>some ⟨decide (l.length≤2000∧Sml l),il (invl l),[],0⟩
 | _=>none
theorem spRInv_ok:ZCtOk Try.prog 81 spRInv:=fun γ w us ax r hs hc hax hN hfz=>by
 unfold spRInv at hs;split at hs
 case h_2=>cases hs
 rename_i l;obtain ⟨rfl⟩:=Option.some.inj hs;have hc_0:decide (l.length≤2000∧Sml l)=true:=hc;have hc:=of_decide_eq_true hc_0;exact EndZ.calls (by
  have h:=RInv.in_t l;simp (disch:=omega) only [Nat.add_eq,eqSy_self,eqN_self,bc_same,List.length_cons,ofn,wrap_in,dt,df,bltD,bltN,ble_of,bleN,beqD,bc_t,bc_f,nn_ok,Nat.zero_add,to_nat,Int.zero_add,Int.sub_zero,Int.sub_self,Int.cast_ofNat_Int,Int.natCast_zero,Int.toNat_zero,List.take_zero,List.nil_append,List.length_append,List.length_nil] at h;have h2:=RInv.loop hc.1 hc.2 l.length [] false (Nat.le_refl _) (by simp);rw [List.take_length,List.nil_append] at h2;exact .at (.nil _) h h2) (.nil _) (by kernel_rfl) hax hN hfz
namespace RPer
noncomputable def RUN (s:ES):ZF:=RZ 86 .nil (atS 0 86 3) [] [[(0,none),(1,none),(5,none),(6,none)]] false s

noncomputable def sL (p:List Int) (n:Int) (z:Nat) (d:List Bool) (i:Int):NS:=⟨[⟨86,47,[(0,(EV.lst (SyC.ints IntKind.i64 (p)))),(1,(EV.v (Value.int IntKind.i64 (n)))),(5,EV.slO 0 1 z true),(6,iv i)],[.it (.code (nav [1,1,0,1,0,0,0] (bodyOf Try.f86))),.it (.code (nav [1,1,0,1,0,0,1] (bodyOf Try.f86))),.it (.inLoop (nav [1,1,0,1,0,0] (bodyOf Try.f86))),.it (.inBlock 0),.it (.code (nav [1,1,1] (bodyOf Try.f86)))],[],Option.none⟩],[(0,EK.seq 4 (.bools d) true)],1⟩
theorem in_t (p:List Int) (n:Int):RUN (st0 86 [il p,iv n])=(bc (bc (decide ((0:Int)≤n)) (bc (decide (n≤n)) (decide (n≤(65536:Int))) false) false) (.at (sL (p) (n) (List.length (List.replicate (Int.toNat n) false)) (List.replicate (Int.toNat n) false) ((0:Int)))) .bad):=by kernel_rfl
theorem step_t (p:List Int) (n:Int) (z:Nat) (d:List Bool) (i:Int):RUN (stOf (sL p n z d i))=(bc (decide (i < Int.ofNat (List.length p))) (bc (bc (bc (decide ((0:Int)≤i)) (Nat.blt (Int.toNat i) (List.length p)) false) true false) (bc (bc (Nat.blt (Int.toNat i) (List.length p)) true false) (bc (decide (List.getD p (Int.toNat i) (0:Int) < (0:Int))) (.done (EV.v (Value.bool false)) [] 0) (bc (bc (bc (decide ((0:Int)≤i)) (Nat.blt (Int.toNat i) (List.length p)) false) true false) (bc (bc (Nat.blt (Int.toNat i) (List.length p)) true false) (bc (decide (n≤List.getD p (Int.toNat i) (0:Int))) (.done (EV.v (Value.bool false)) [] 0) (bc (bc (bc (decide ((0:Int)≤i)) (Nat.blt (Int.toNat i) (List.length p)) false) true false) (bc (bc (Nat.blt (Int.toNat i) (List.length p)) true false) (bc (bc (bc (decide ((0:Int)≤List.getD p (Int.toNat i) (0:Int))) (Nat.blt (Int.toNat (List.getD p (Int.toNat i) (0:Int))) z) false) true false) (bc (bc (Nat.blt (Int.toNat (List.getD p (Int.toNat i) (0:Int))) (List.length d)) true false) (bc (List.getD d (Int.toNat (List.getD p (Int.toNat i) (0:Int))) false) (.done (EV.v (Value.bool false)) [] 0) (bc (bc (bc (decide ((0:Int)≤i)) (Nat.blt (Int.toNat i) (List.length p)) false) true false) (bc (bc (Nat.blt (Int.toNat i) (List.length p)) true false) (bc (bc (bc (decide ((0:Int)≤List.getD p (Int.toNat i) (0:Int))) (Nat.blt (Int.toNat (List.getD p (Int.toNat i) (0:Int))) z) false) true false) (bc (Nat.blt (Int.toNat (List.getD p (Int.toNat i) (0:Int))) (List.length d)) (.at (sL (p) (n) (z) (List.set d (Int.toNat (List.getD p (Int.toNat i) (0:Int))) true) (IntKind.wrap IntKind.i64 (i+(1:Int))))) .bad) .bad) .bad) .bad)) .bad) .bad) .bad) .bad)) .bad) .bad)) .bad) .bad) (.done (EV.v (Value.bool (Int.ofNat (List.length p) == n))) [] 0)):=by kernel_rfl
theorem step {p:List Int} {n i:Nat} {d:List Bool} (hi:i < p.length) (hp:p.length≤100) (hn:n≤12) (hd:d.length=n):RUN (stOf (sL p n n d i))=if p.getD i 0 < 0 then .done (bv false) [] 0 else if (n:Int)≤p.getD i 0 then .done (bv false) [] 0 else if d.getD (p.getD i 0).toNat false=true then .done (bv false) [] 0 else .at (sL p n n (d.set (p.getD i 0).toNat true) (i+1:Nat)):=by
 rw [step_t]
 by_cases h1:p.getD i 0 < 0
 ·rw [if_pos h1];simp (disch:=omega) only [Nat.add_eq,eqSy_self,eqN_self,bc_same,List.length_cons,ofn,wrap_in,dt,df,bltD,bltN,ble_of,bleN,beqD,bc_t,bc_f,nn_ok,Nat.zero_add,to_nat,Int.zero_add,Int.sub_zero,Int.sub_self,Int.cast_ofNat_Int,Int.natCast_zero,Int.toNat_zero,List.take_zero,List.nil_append,List.length_append,List.length_nil]
 rw [if_neg h1]
 by_cases h2:(n:Int)≤p.getD i 0
 ·rw [if_pos h2];simp (disch:=omega) only [Nat.add_eq,eqSy_self,eqN_self,bc_same,List.length_cons,ofn,wrap_in,dt,df,bltD,bltN,ble_of,bleN,beqD,bc_t,bc_f,nn_ok,Nat.zero_add,to_nat,Int.zero_add,Int.sub_zero,Int.sub_self,Int.cast_ofNat_Int,Int.natCast_zero,Int.toNat_zero,List.take_zero,List.nil_append,List.length_append,List.length_nil]
 rw [if_neg h2];simp (disch:=omega) only [Nat.add_eq,eqSy_self,eqN_self,bc_same,List.length_cons,ofn,wrap_in,dt,df,bltD,bltN,ble_of,bleN,beqD,bc_t,bc_f,nn_ok,Nat.zero_add,to_nat,Int.zero_add,Int.sub_zero,Int.sub_self,Int.cast_ofNat_Int,Int.natCast_zero,Int.toNat_zero,List.take_zero,List.nil_append,List.length_append,List.length_nil];cases d.getD (p.getD i 0).toNat false <;> rfl
theorem last {p:List Int} {n:Int} {z i:Nat} {d:List Bool} (hi:p.length≤i):RUN (stOf (sL p n z d i)) = .done (bv ((p.length:Int) == n)) [] 0:=by
 rw [step_t];simp (disch:=omega) only [Nat.add_eq,eqSy_self,eqN_self,bc_same,List.length_cons,ofn,wrap_in,dt,df,bltD,bltN,ble_of,bleN,beqD,bc_t,bc_f,nn_ok,Nat.zero_add,to_nat,Int.zero_add,Int.sub_zero,Int.sub_self,Int.cast_ofNat_Int,Int.natCast_zero,Int.toNat_zero,List.take_zero,List.nil_append,List.length_append,List.length_nil]
theorem loop {p:List Int} {n:Nat} (hp:p.length≤100) (hn:n≤12):∀ (k i:Nat) (d:List Bool),i+k=p.length→d.length=n→EndZ 86 .nil false (stOf (sL p n n d i)) (bv (bc (prF n d (p.drop i)) ((p.length:Int) == n) false)) [] 0
 | 0,i,d,h,hd=>by
  rw [List.drop_eq_nil_of_le (by omega)];exact .done (last (by omega))
 | k+1,i,d,h,hd=>by
  have hi:i < p.length:=by omega
  have h1:=step hi hp hn hd;rw [List.drop_eq_getElem_cons hi];rw [getD_at hi] at h1;unfold prF
  by_cases a1:p[i] < 0
  ·rw [if_pos a1] at h1 ⊢;exact .done h1
  rw [if_neg a1] at h1 ⊢
  by_cases a2:(n:Int)≤p[i]
  ·rw [if_pos a2] at h1 ⊢;exact .done h1
  rw [if_neg a2] at h1 ⊢
  by_cases a3:d.getD p[i].toNat false=true
  ·rw [if_pos a3] at h1 ⊢;exact .done h1
  rw [if_neg a3] at h1 ⊢;exact .at (.nil _) h1 (loop hp hn k (i+1) _ (by omega) (by simpa using hd))
end RPer

noncomputable def prm (n:Nat) (p:List Int):Bool:=bc (prF n (List.replicate n false) p) ((p.length:Int) == n) false
noncomputable def spRPer:ZCT:=fun ax=>match ax with
 | [.lst (.ints .i64 p),.v (.int .i64 n)]=>some ⟨decide (p.length≤100∧0≤n∧n≤12),bv (prm n.toNat p),[],0⟩
 | _=>none
theorem spRPer_ok:ZCtOk Try.prog 86 spRPer:=fun γ w us ax r hs hc hax hN hfz=>by
 unfold spRPer at hs;split at hs
 case h_2=>cases hs
 rename_i p n;obtain ⟨rfl⟩:=Option.some.inj hs;have hc_0:decide (p.length≤100∧0≤n∧n≤12)=true:=hc;have hc:=of_decide_eq_true hc_0;exact EndZ.calls (by
  obtain ⟨hp,h0,h1⟩:=hc;obtain ⟨n,rfl⟩:=Int.eq_ofNat_of_zero_le h0;have h:=RPer.in_t p n;rw [show (Int.toNat (n:Int))=n from rfl] at h
  simp (disch:=omega) only [Nat.add_eq,eqSy_self,eqN_self,bc_same,List.length_cons,ofn,wrap_in,dt,df,bltD,bltN,ble_of,bleN,beqD,bc_t,bc_f,nn_ok,Nat.zero_add,to_nat,Int.zero_add,Int.sub_zero,Int.sub_self,Int.cast_ofNat_Int,Int.natCast_zero,Int.toNat_zero,List.take_zero,List.nil_append,List.length_append,List.length_nil,List.length_replicate] at h;exact .at (.nil _) h (RPer.loop hp (by omega) p.length 0 _ (by omega) (by simp))) (.nil _) (by kernel_rfl) hax hN hfz
namespace RLst
noncomputable def RUN (s:ES):ZF:=RZ 88 .nil (atS 0 88 4) [] [[(0,none),(3,some (1,3,.ints .i64 [])),(4,none)]] false s

noncomputable def sL (z:Nat) (p q:List Int) (nn:Bool) (i:Int):NS:=⟨[⟨88,38,[(0,EV.slO 0 1 z true),(3,EV.slO 1 1 q.length nn),(4,iv i)],[.it (.code (nav [1,1,1,0,1,0,0,0] (bodyOf Try.f88))),.it (.code (nav [1,1,1,0,1,0,0,1] (bodyOf Try.f88))),.it (.inLoop (nav [1,1,1,0,1,0,0] (bodyOf Try.f88))),.it (.inBlock 0),.it (.code (nav [1,1,1,1] (bodyOf Try.f88)))],[],Option.none⟩],[(0,EK.seq 3 (.ints .i64 p) true),(1,EK.seq 3 (.ints .i64 q) nn)],2⟩
theorem in_t (p:List Int):RUN (st0 88 [il p])=(bc (bc (Nat.ble ((0:Nat)+List.length p) (65536:Nat)) true false) (.at (sL (List.length ([] ++ p)) ([] ++ p) ([]) (false) ((1:Int)))) .bad):=by kernel_rfl
theorem step_t (z:Nat) (p q:List Int) (nn:Bool) (i:Int):RUN (stOf (sL z p q nn i))=(bc (decide (i < Int.ofNat z)) (bc (bc (bc (bc (bc (decide ((0:Int)≤IntKind.wrap IntKind.i64 (i - (1:Int)))) (Nat.blt (Int.toNat (IntKind.wrap IntKind.i64 (i - (1:Int)))) z) false) true false) (bc (bc (Nat.blt (Int.toNat (IntKind.wrap IntKind.i64 (i - (1:Int)))) (List.length p)) true false) (bc (bc (bc (decide ((0:Int)≤i)) (Nat.blt (Int.toNat i) z) false) true false) (bc (bc (Nat.blt (Int.toNat i) (List.length p)) true false) true false) false) false) false) true false) (bc (decide (List.getD p (Int.toNat i) (0:Int) < List.getD p (Int.toNat (IntKind.wrap IntKind.i64 (i - (1:Int)))) (0:Int))) (bc (bc (bc (bc (bc (decide ((0:Int)≤i)) (Nat.blt (Int.toNat i) z) false) true false) (bc (bc (Nat.blt (Int.toNat i) (List.length p)) true false) (bc (bc (bc (decide ((0:Int)≤IntKind.wrap IntKind.i64 (i - (1:Int)))) (Nat.blt (Int.toNat (IntKind.wrap IntKind.i64 (i - (1:Int)))) z) false) true false) (bc (bc (Nat.blt (Int.toNat (IntKind.wrap IntKind.i64 (i - (1:Int)))) (List.length p)) true false) (bc (bc (bc (decide ((0:Int)≤IntKind.wrap IntKind.i64 (i - (1:Int)))) (Nat.blt (Int.toNat (IntKind.wrap IntKind.i64 (i - (1:Int)))) z) false) true false) (bc (Nat.blt (Int.toNat (IntKind.wrap IntKind.i64 (i - (1:Int)))) (List.length p)) (bc (bc (bc (decide ((0:Int)≤i)) (Nat.blt (Int.toNat i) z) false) true false) (bc (Nat.blt (Int.toNat i) (List.length (List.set p (Int.toNat (IntKind.wrap IntKind.i64 (i - (1:Int)))) (List.getD p (Int.toNat i) (0:Int))))) true false) false) false) false) false) false) false) false) true false) (bc (bc (Nat.beq (List.length q) (List.length q)) (bc (Nat.ble (List.length q+List.length (List.map (fun r=>U.int (List.headD r (U.i (0:Int)))) [[U.i i]])) (65536:Nat)) (bc nn true (bc nn false true)) false) false) (.at (sL (z) (List.set (List.set p (Int.toNat (IntKind.wrap IntKind.i64 (i - (1:Int)))) (List.getD p (Int.toNat i) (0:Int))) (Int.toNat i) (List.getD p (Int.toNat (IntKind.wrap IntKind.i64 (i - (1:Int)))) (0:Int))) (q ++ List.map (fun r=>U.int (List.headD r (U.i (0:Int)))) [[U.i i]]) (bc nn true (Nat.blt (0:Nat) (List.length (List.map (fun r=>U.int (List.headD r (U.i (0:Int)))) [[U.i i]])))) (IntKind.wrap IntKind.i64 ((0:Int)+(1:Int))))) .bad) .bad) (.at (sL (z) (p) (q) (nn) (IntKind.wrap IntKind.i64 (i+(1:Int)))))) .bad) (bc (Nat.beq (List.length q) (List.length q)) (.done (EV.lst (SyC.ints IntKind.i64 (q))) [] 0) .bad)):=by kernel_rfl
theorem step {p q:List Int} {nn:Bool} {k:Nat} (hk:k+1 < p.length) (hp:p.length≤12) (hq:q.length≤2000):RUN (stOf (sL p.length p q nn (k+1:Nat)))=if p.getD (k+1) 0 < p.getD k 0 then .at (sL p.length (swp p k) (q ++ [((k+1:Nat):Int)]) (bc nn true true) (0+1:Nat)) else .at (sL p.length p q nn (k+1+1:Nat)):=by
 rw [step_t];have e1:((k+1:Nat):Int) - 1=(k:Int):=by omega
 rw [e1]
 by_cases h1:p.getD (k+1) 0 < p.getD k 0
 ·rw [if_pos h1];simp (disch:=omega) only [Nat.add_eq,eqSy_self,eqN_self,bc_same,List.length_cons,ofn,wrap_in,dt,df,bltD,bltN,ble_of,bleN,beqD,bc_t,bc_f,nn_ok,Nat.zero_add,to_nat,Int.zero_add,Int.sub_zero,Int.sub_self,Int.cast_ofNat_Int,Int.natCast_zero,Int.toNat_zero,List.take_zero,List.nil_append,List.length_append,List.length_nil,List.map_cons,List.map_nil,List.length_set];rfl
 ·rw [if_neg h1];simp (disch:=omega) only [Nat.add_eq,eqSy_self,eqN_self,bc_same,List.length_cons,ofn,wrap_in,dt,df,bltD,bltN,ble_of,bleN,beqD,bc_t,bc_f,nn_ok,Nat.zero_add,to_nat,Int.zero_add,Int.sub_zero,Int.sub_self,Int.cast_ofNat_Int,Int.natCast_zero,Int.toNat_zero,List.take_zero,List.nil_append,List.length_append,List.length_nil];rfl
theorem last {p q:List Int} {nn:Bool} {k:Nat} (hk:p.length≤k+1):RUN (stOf (sL p.length p q nn (k+1:Nat))) = .done (il q) [] 0:=by
 rw [step_t];simp (disch:=omega) only [Nat.add_eq,eqSy_self,eqN_self,bc_same,List.length_cons,ofn,wrap_in,dt,df,bltD,bltN,ble_of,bleN,beqD,bc_t,bc_f,nn_ok,Nat.zero_add,to_nat,Int.zero_add,Int.sub_zero,Int.sub_self,Int.cast_ofNat_Int,Int.natCast_zero,Int.toNat_zero,List.take_zero,List.nil_append,List.length_append,List.length_nil]
theorem loop (z:Nat):∀ (f:Nat) (p q:List Int) (nn:Bool) (k:Nat),p.length=z→InR p→Asc p k→(k=0∨k < p.length)→msr p k < f→q.length+(lwo p).length≤1800→EndZ 88 .nil false (stOf (sL z p q nn (k+1:Nat))) (il (q ++ lwo p)) [] 0
 | 0,p,q,nn,k,hz,h,ha,hk,hf,hq=>by omega
 | f+1,p,q,nn,k,hz,h,ha,hk,hf,hq=>by
  subst hz
  by_cases h1:k+1 < p.length
  ·have hs:=step (q:=q) (nn:=nn) h1 h.1 (by omega)
   by_cases h2:p.getD (k+1) 0 < p.getD k 0
   ·rw [if_pos h2] at hs;have h3:=lwo_desc h ha h1 h2;rw [h3] at hq ⊢;rw [List.length_cons] at hq;have:=msr_swp (k':=0) h h1 h2;have hg:=loop p.length f (swp p k) (q ++ [((k+1:Nat):Int)]) (bc nn true true) 0 (swp_len p k) (h.swp h1) (Asc.zero _) (.inl rfl) (by omega) (by rw [List.length_append];simp;omega);rw [List.append_assoc] at hg;exact .at (.nil _) hs hg
   ·rw [if_neg h2] at hs;have:=msr_next h h1;exact .at (.nil _) hs (loop p.length f p q nn (k+1) rfl h (ha.next h2) (.inr (by omega)) (by omega) hq)
  ·rw [lwo_asc h ha hk (by omega),List.append_nil];exact .done (last (by omega))
end RLst
noncomputable def spRLst:ZCT:=fun ax=>match ax with
 | [.lst (.ints .i64 p)]=>some ⟨decide (InR p),il (lwo p),[],0⟩
 | _=>none
theorem spRLst_ok:ZCtOk Try.prog 88 spRLst:=fun γ w us ax r hs hc hax hN hfz=>by
 unfold spRLst at hs;split at hs
 case h_2=>cases hs
 rename_i p;obtain ⟨rfl⟩:=Option.some.inj hs;have hc_0:decide (InR p)=true:=hc;have hc:=of_decide_eq_true hc_0;exact EndZ.calls (by
  have h:=RLst.in_t p;have:=hc.1;rw [List.nil_append] at h;simp (disch:=omega) only [Nat.add_eq,eqSy_self,eqN_self,bc_same,List.length_cons,ofn,wrap_in,dt,df,bltD,bltN,ble_of,bleN,beqD,bc_t,bc_f,nn_ok,Nat.zero_add,to_nat,Int.zero_add,Int.sub_zero,Int.sub_self,Int.cast_ofNat_Int,Int.natCast_zero,Int.toNat_zero,List.take_zero,List.nil_append,List.length_append,List.length_nil] at h;have h2:=RLst.loop p.length _ p [] false 0 rfl hc (Asc.zero _) (.inl rfl) (Nat.lt_succ_self _) (by have:=lwo_len hc;simp;omega)
  exact .at (.nil _) h h2) (.nil _) (by kernel_rfl) hax hN hfz
end Go.Proofs.Ytooimphimnagaaa.Ev
namespace Go.Proofs.Ytooimphimnagaaa.Ev
open Go.Proofs
noncomputable def ctRW:Tr ZCC:=(((Tr.nil.put 87 (some (dC spRLif))).put 81 (some (dC spRInv))).put 86 (some (dC spRPer))).put 88 (some (dC spRLst))
theorem ctRW_ok:ZCtsOk Try.prog ctRW:=((((ZCtsOk.nil _).add rfl spRLif_ok).add rfl spRInv_ok).add rfl spRPer_ok).add rfl spRLst_ok

noncomputable def fac (r:List U):List Int:=List.map (fun r=>U.int (List.headD r (U.i 0))) (U.list (List.getD r 0 (U.i 0)))

noncomputable def dd (n:Nat) (c:Int):List Int:=if c < 0 then invl (lwo (dlt n)) else lwo (dlt n)
noncomputable def wout (n:Nat) (c:Int) (F:List (List U)):List Int:=lp2 (F.map fac) (lp1 (dd n c) c.natAbs [])
noncomputable def okF (n:Nat) (F:List (List U)):Bool:=F.all fun r=>prm n (fac r)
noncomputable def wE (n c:Int) (F:List (List U)):Int:=if n < 1 then 2 else if 12 < n then 2 else if okF n.toNat F=false then 6 else if 0 < (lwo (dlt n.toNat)).length∧(400 < c∨c < -400) then 3 else if 400 < (wout n.toNat c F).length then 3 else 0
noncomputable def wL (n c:Int) (F:List (List U)):List Int:=if wE n c F=0 then wout n.toNat c F else []
noncomputable abbrev shWo (n c:Int) (F:List (List U)):EV:=.tup [il (wL n c F),iv (wE n c F)]
theorem wo_err {n c:Int} {F:List (List U)} {e:Int} (h:wE n c F=e) (h0:e≠0):Weak (.tup [.v (.slice none 0 0),iv e]) (shWo n c F):=by
 unfold shWo wL;rw [h,if_neg h0];exact Weak.tup (.cons (Weak.nilI _) (.cons (Weak.refl _) .nil))
theorem prm_ok {n:Nat} {p:List Int} (hn:n≤12) (h:prm n p=true):InR p∧Dis p:=by
 unfold prm at h;obtain ⟨h1,h2⟩:=bcT h;have h2:(p.length:Int)=n:=by simpa using h2
 exact prF_dis (by omega) hn h1
theorem dd_len {n:Nat} {c:Int}:(dd n c).length=(lwo (dlt n)).length:=by
 unfold dd;split
 ·exact invl_len _
 ·rfl
noncomputable abbrev fl (F:List (List U)):EV:=.lst (.recs [.list [.int .i64]] F)
namespace RWor
noncomputable def RUN (s:ES):ZF:=RZs 29 ctRW [(atS 0 29 4,[[(0,none),(1,none),(2,none),(8,none)]]),(atS 0 29 10,[[(0,none),(1,none),(2,none),(9,none),(10,none)]]),(atS 0 29 20,[[(1,none),(2,none),(11,none),(12,some (1,3,.ints .i64 [])),(13,none)]]),(atS 0 29 24,[[(2,none),(12,some (1,3,.ints .i64 [])),(14,none)]])] [] false s

noncomputable def sA (n c:Int) (F:List (List U)) (i:Int):NS:=⟨[⟨29,106,[(0,(EV.v (Value.int IntKind.i64 (n)))),(1,(EV.v (Value.int IntKind.i64 (c)))),(2,(EV.lst (SyC.recs [(Sh.list [(Sh.int IntKind.i64)])] (F)))),(8,iv i)],[.it (.code (nav [1,1,0,1,0,0,0] (bodyOf Try.f29))),.it (.code (nav [1,1,0,1,0,0,1] (bodyOf Try.f29))),.it (.inLoop (nav [1,1,0,1,0,0] (bodyOf Try.f29))),.it (.inBlock 0),.it (.code (nav [1,1,1] (bodyOf Try.f29)))],[],Option.none⟩],[],0⟩
noncomputable def sB (n c:Int) (F:List (List U)) (z:Nat) (d:List Int) (i:Int):NS:=⟨[⟨29,106,[(0,(EV.v (Value.int IntKind.i64 (n)))),(1,(EV.v (Value.int IntKind.i64 (c)))),(2,fl F),(9,EV.slO 0 1 z true),(10,iv i)],[.it (.code (nav [1,1,1,1,0,1,0,0,0] (bodyOf Try.f29))),.it (.code (nav [1,1,1,1,0,1,0,0,1] (bodyOf Try.f29))),.it (.inLoop (nav [1,1,1,1,0,1,0,0] (bodyOf Try.f29))),.it (.inBlock 2),.it (.code (nav [1,1,1,1,1] (bodyOf Try.f29)))],[],Option.none⟩],[(0,EK.seq 3 (.ints .i64 d) true)],1⟩
noncomputable def sC (c:Int) (F:List (List U)) (d q:List Int) (nn:Bool) (i:Int):NS:=⟨[⟨29,106,[(1,iv c),(2,(EV.lst (SyC.recs [(Sh.list [(Sh.int IntKind.i64)])] (F)))),(11,il d),(12,EV.slO 0 1 q.length nn),(13,iv i)],[.it (.code (nav [1,1,1,1,1,1,1,1,1,0,1,0,0,0] (bodyOf Try.f29))),.it (.code (nav [1,1,1,1,1,1,1,1,1,0,1,0,0,1] (bodyOf Try.f29))),.it (.inLoop (nav [1,1,1,1,1,1,1,1,1,0,1,0,0] (bodyOf Try.f29))),.it (.inBlock 4),.it (.code (nav [1,1,1,1,1,1,1,1,1,1] (bodyOf Try.f29)))],[],Option.none⟩],[(0,EK.seq 3 (.ints .i64 q) nn)],1⟩
noncomputable def sD (F:List (List U)) (q:List Int) (nn:Bool) (i:Int):NS:=⟨[⟨29,106,[(2,(EV.lst (SyC.recs [(Sh.list [(Sh.int IntKind.i64)])] (F)))),(12,EV.slO 0 1 q.length nn),(14,iv i)],[.it (.code (nav [1,1,1,1,1,1,1,1,1,1,0,1,0,0,0] (bodyOf Try.f29))),.it (.code (nav [1,1,1,1,1,1,1,1,1,1,0,1,0,0,1] (bodyOf Try.f29))),.it (.inLoop (nav [1,1,1,1,1,1,1,1,1,1,0,1,0,0] (bodyOf Try.f29))),.it (.inBlock 6),.it (.code (nav [1,1,1,1,1,1,1,1,1,1,1] (bodyOf Try.f29)))],[],Option.none⟩],[(0,EK.seq 3 (.ints .i64 q) nn)],1⟩
theorem in_t (n c:Int) (F:List (List U)):RUN (st0 29 [iv n,iv c,fl F])=(bc (decide (n < (1:Int))) (.done (EV.tup [(EV.v (Value.slice Option.none 0 0)),(EV.v (Value.int IntKind.i64 (2)))]) [] 0) (bc (decide ((12:Int) < n)) (.done (EV.tup [(EV.v (Value.slice Option.none 0 0)),(EV.v (Value.int IntKind.i64 (2)))]) [] 0) (.at (sA (n) (c) (F) ((0:Int)))))):=by kernel_rfl
theorem a_t (n c:Int) (F:List (List U)) (i:Int):RUN (stOf (sA n c F i))=(bc (decide (i < Int.ofNat (List.length F))) (bc (bc (bc (decide ((0:Int)≤i)) (Nat.blt (Int.toNat i) (List.length F)) false) true false) (bc (bc (Nat.blt (Int.toNat i) (List.length F)) true false) (bc (bc (decide (List.length (List.map (fun r=>U.int (List.headD r (U.i (0:Int)))) (U.list (List.getD (List.getD F (Int.toNat i) []) (0:Nat) (U.i (0:Int)))))≤(100:Nat)∧(0:Int)≤n∧n≤(12:Int))) true false) (bc (!prm (Int.toNat n) (List.map (fun r=>U.int (List.headD r (U.i (0:Int)))) (U.list (List.getD (List.getD F (Int.toNat i) []) (0:Nat) (U.i (0:Int)))))) (.done (EV.tup [(EV.v (Value.slice Option.none 0 0)),(EV.v (Value.int IntKind.i64 (6)))]) [] 0) (.at (sA (n) (c) (F) (IntKind.wrap IntKind.i64 (i+(1:Int)))))) .bad) .bad) .bad) (bc (decide ((1:Int)≤n∧n≤(12:Int))) (.at (sB (n) (c) (F) (List.length (lin (Int.toNat n))) (lin (Int.toNat n)) ((0:Int)))) .bad)):=by kernel_rfl
theorem b_t (n c:Int) (F:List (List U)) (z:Nat) (d:List Int) (i:Int):RUN (stOf (sB n c F z d i))=(bc (decide (i < n)) (bc (bc (bc (decide ((0:Int)≤i)) (Nat.blt (Int.toNat i) z) false) true false) (bc (Nat.blt (Int.toNat i) (List.length d)) (.at (sB (n) (c) (F) (z) (List.set d (Int.toNat i) (IntKind.wrap IntKind.i64 (IntKind.wrap IntKind.i64 (n - (1:Int)) - i))) (IntKind.wrap IntKind.i64 (i+(1:Int))))) .bad) .bad) (bc (bc (bc (Nat.beq z (List.length d)) true false) (decide (InR d)) false) (bc (decide ((0:Int) < Int.ofNat (List.length (lwo d)))) (bc (decide ((400:Int) < c)) (.done (EV.tup [(EV.v (Value.slice Option.none 0 0)),(EV.v (Value.int IntKind.i64 (3)))]) [] 0) (bc (decide (c < (-400:Int))) (.done (EV.tup [(EV.v (Value.slice Option.none 0 0)),(EV.v (Value.int IntKind.i64 (3)))]) [] 0) (bc (decide (c < (0:Int))) (bc (decide (List.length (lwo d)≤(2000:Nat)∧Sml (lwo d))) (.at (sC (c) (F) (invl (lwo d)) ([]) (false) ((0:Int)))) .bad) (.at (sC (c) (F) (lwo d) ([]) (false) ((0:Int))))))) (bc (decide (c < (0:Int))) (bc (decide (List.length (lwo d)≤(2000:Nat)∧Sml (lwo d))) (.at (sC (c) (F) (invl (lwo d)) ([]) (false) ((0:Int)))) .bad) (.at (sC (c) (F) (lwo d) ([]) (false) ((0:Int)))))) .bad)):=by kernel_rfl
theorem c_t (c:Int) (F:List (List U)) (d q:List Int) (nn:Bool) (i:Int):RUN (stOf (sC c F d q nn i))=(bc (decide (i < if IntKind.wrap IntKind.i64 ((0:Int) - c) > c then IntKind.wrap IntKind.i64 ((0:Int) - c) else c)) (bc (decide ((0:Int) < Int.ofNat (List.length d))) (bc (decide (Int.ofNat (List.length q)≤(400:Int))) (bc (bc (Nat.beq (List.length q) (List.length q)) (bc (Nat.ble (List.length q+List.length d) (65536:Nat)) (bc nn true (bc nn false true)) false) false) (.at (sC (c) (F) (d) (q ++ d) (bc nn true (Nat.blt (0:Nat) (List.length d))) (IntKind.wrap IntKind.i64 (i+(1:Int))))) .bad) (.at (sD (F) (q) (nn) ((0:Int))))) (.at (sD (F) (q) (nn) ((0:Int))))) (.at (sD (F) (q) (nn) ((0:Int))))):=by kernel_rfl
theorem d_t (F:List (List U)) (q:List Int) (nn:Bool) (i:Int):RUN (stOf (sD F q nn i))=(bc (decide (i < Int.ofNat (List.length F))) (bc (decide (Int.ofNat (List.length q)≤(400:Int))) (bc (bc (bc (decide ((0:Int)≤i)) (Nat.blt (Int.toNat i) (List.length F)) false) true false) (bc (bc (Nat.blt (Int.toNat i) (List.length F)) true false) (bc (decide (InR (List.map (fun r=>U.int (List.headD r (U.i (0:Int)))) (U.list (List.getD (List.getD F (Int.toNat i) []) (0:Nat) (U.i (0:Int))))))) (bc (bc (Nat.beq (List.length q) (List.length q)) (bc (Nat.ble (List.length q+List.length (lwo (List.map (fun r=>U.int (List.headD r (U.i (0:Int)))) (U.list (List.getD (List.getD F (Int.toNat i) []) (0:Nat) (U.i (0:Int))))))) (65536:Nat)) (bc nn true (bc nn false true)) false) false) (.at (sD (F) (q ++ lwo (List.map (fun r=>U.int (List.headD r (U.i (0:Int)))) (U.list (List.getD (List.getD F (Int.toNat i) []) (0:Nat) (U.i (0:Int)))))) (bc nn true (Nat.blt (0:Nat) (List.length (lwo (List.map (fun r=>U.int (List.headD r (U.i (0:Int)))) (U.list (List.getD (List.getD F (Int.toNat i) []) (0:Nat) (U.i (0:Int))))))))) (IntKind.wrap IntKind.i64 (i+(1:Int))))) .bad) .bad) .bad) .bad) (bc (decide ((400:Int) < Int.ofNat (List.length q))) (.done (EV.tup [(EV.v (Value.slice Option.none 0 0)),(EV.v (Value.int IntKind.i64 (3)))]) [] 0) (bc (bc (Nat.beq (List.length q) (List.length q)) true false) (.done (EV.tup [(EV.lst (SyC.ints IntKind.i64 (q))),(EV.v (Value.int IntKind.i64 (0)))]) [] 0) .bad))) (bc (decide ((400:Int) < Int.ofNat (List.length q))) (.done (EV.tup [(EV.v (Value.slice Option.none 0 0)),(EV.v (Value.int IntKind.i64 (3)))]) [] 0) (bc (bc (Nat.beq (List.length q) (List.length q)) true false) (.done (EV.tup [(EV.lst (SyC.ints IntKind.i64 (q))),(EV.v (Value.int IntKind.i64 (0)))]) [] 0) .bad))):=by kernel_rfl
theorem stepA {n:Nat} {c:Int} {F:List (List U)} {i:Nat} (hi:i < F.length) (hF:F.length≤100) (hn:1≤n) (hn2:n≤12) (hf:(fac F[i]).length≤100):RUN (stOf (sA n c F i))=bc (!prm n (fac F[i])) (.done (.tup [.v (.slice none 0 0),iv 6]) [] 0) (.at (sA n c F (i+1:Nat))):=by
 rw [a_t];have e:F.getD i []=F[i]:=getD_at hi;rw [to_nat,e];have e2:List.map (fun r=>U.int (List.headD r (U.i 0))) (U.list (List.getD F[i] 0 (U.i 0)))=fac F[i]:=rfl;rw [e2];simp (disch:=omega) only [Nat.add_eq,eqSy_self,eqN_self,bc_same,List.length_cons,ofn,wrap_in,dt,df,bltD,bltN,ble_of,bleN,beqD,bc_t,bc_f,nn_ok,Nat.zero_add,to_nat,Int.zero_add,Int.sub_zero,Int.sub_self,Int.cast_ofNat_Int,Int.natCast_zero,Int.toNat_zero,List.take_zero,List.nil_append,List.length_append,List.length_nil];rfl
theorem lastA {n:Nat} {c:Int} {F:List (List U)} {i:Nat} (hi:F.length≤i) (hn:1≤n) (hn2:n≤12):RUN (stOf (sA n c F i)) = .at (sB n c F n (lin n) (0:Nat)):=by
 rw [a_t];simp (disch:=omega) only [Nat.add_eq,eqSy_self,eqN_self,bc_same,List.length_cons,ofn,wrap_in,dt,df,bltD,bltN,ble_of,bleN,beqD,bc_t,bc_f,nn_ok,Nat.zero_add,to_nat,Int.zero_add,Int.sub_zero,Int.sub_self,Int.cast_ofNat_Int,Int.natCast_zero,Int.toNat_zero,List.take_zero,List.nil_append,List.length_append,List.length_nil];rw [lin_len]
theorem badA {n:Nat} {c:Int} {F:List (List U)} (hF:F.length≤100) (hn:1≤n) (hn2:n≤12) (hf:∀ r,r ∈ F→(fac r).length≤100):∀ (k i:Nat),i+k=F.length→okF n (F.drop i)=false→EndZ 29 ctRW false (stOf (sA n c F i)) (.tup [.v (.slice none 0 0),iv 6]) [] 0
 | 0,i,h,hb=>by
  rw [List.drop_eq_nil_of_le (by omega)] at hb;cases hb
 | k+1,i,h,hb=>by
  have hi:i < F.length:=by omega
  have h1:=stepA (c:=c) hi hF hn hn2 (hf _ (List.getElem_mem hi));rw [List.drop_eq_getElem_cons hi] at hb;unfold okF at hb;rw [List.all_cons] at hb
  cases hp:prm n (fac F[i]) with
  | false=>
   rw [hp] at h1;exact .done h1
  | true=>
   rw [hp] at h1 hb;exact .at ctRW_ok h1 (badA hF hn hn2 hf k (i+1) (by omega) hb)
theorem goodA {n:Nat} {c:Int} {F:List (List U)} (hF:F.length≤100) (hn:1≤n) (hn2:n≤12) (hf:∀ r,r ∈ F→(fac r).length≤100):∀ (k i:Nat),i+k=F.length→okF n (F.drop i)=true→LeadsZ Try.prog (stOf (sA n c F i)) (stOf (sB n c F n (lin n) (0:Nat)))
 | 0,i,h,hb=>leadsZ ctRW_ok (lastA (by omega) hn hn2)
 | k+1,i,h,hb=>by
  have hi:i < F.length:=by omega
  have h1:=stepA (c:=c) hi hF hn hn2 (hf _ (List.getElem_mem hi));rw [List.drop_eq_getElem_cons hi] at hb;unfold okF at hb;rw [List.all_cons,Bool.and_eq_true] at hb;rw [hb.1] at h1;exact (leadsZ ctRW_ok h1).trans (goodA hF hn hn2 hf k (i+1) (by omega) hb.2)
theorem stepB {n:Nat} {c:Int} {F:List (List U)} {d:List Int} {i:Nat} (hi:i < n) (hn2:n≤12) (hd:d.length=n):RUN (stOf (sB n c F n d i)) = .at (sB n c F n (d.set i ((n:Int) - 1 - (i:Int))) (i+1:Nat)):=by
 rw [b_t];simp (disch:=omega) only [Nat.add_eq,eqSy_self,eqN_self,bc_same,List.length_cons,ofn,wrap_in,dt,df,bltD,bltN,ble_of,bleN,beqD,bc_t,bc_f,nn_ok,Nat.zero_add,to_nat,Int.zero_add,Int.sub_zero,Int.sub_self,Int.cast_ofNat_Int,Int.natCast_zero,Int.toNat_zero,List.take_zero,List.nil_append,List.length_append,List.length_nil];rfl
theorem loopB {n:Nat} {c:Int} {F:List (List U)} (hn2:n≤12):∀ (k i:Nat) (d:List Int),i+k=n→d.length=n→(∀ j,j < i→d.getD j 0=(n:Int) - 1 - (j:Int))→LeadsZ Try.prog (stOf (sB n c F n d i)) (stOf (sB n c F n (dlt n) n))
 | 0,i,d,h,hd,hj=>by
  have:d=dlt n:=by
   apply List.ext_getElem (by rw [hd,dlt_len]);intro j h1 h2;have h3:=hj j (by omega);have h4:=dlt_get (n:=n) (a:=j) (by omega);rw [getD_at h1] at h3;rw [getD_at h2] at h4;rw [h3,h4]
  subst this;obtain rfl:i=n:=by omega
  exact LeadsZ.refl _
 | k+1,i,d,h,hd,hj=>by
  have h1:=stepB (c:=c) (F:=F) (show i < n by omega) hn2 hd;refine (leadsZ ctRW_ok h1).trans (loopB hn2 k (i+1) _ (by omega) (by simpa using hd) fun j hj2=>?_);rw [gset];split
  ·rename_i e;rw [e.1]
  ·rename_i e;exact hj j (by
    rcases Nat.lt_or_ge j i with h5 | h5
    ·exact h5
    ·exact absurd ⟨by omega,by omega⟩ e)
theorem loopC {c:Int} {F:List (List U)} {d:List Int} (hd:0 < d.length) (hd2:d.length≤2000) (hc1:-400≤c) (hc2:c≤400):∀ (k i:Nat) (q:List Int) (nn:Bool),i+k=c.natAbs→q.length≤2400→∃ nn',LeadsZ Try.prog (stOf (sC c F d q nn i)) (stOf (sD F (lp1 d k q) nn' (0:Nat)))
 | 0,i,q,nn,h,hq=>by
  have h1:=c_t c F d q nn i;have e:(if IntKind.i64.wrap (0 - c) > c then IntKind.i64.wrap (0 - c) else c)=(i:Int):=by
   rw [wrap_in _ (by omega) (by omega)];split <;> omega
  rw [e,df (show ¬ (i:Int) < i by omega),bc_f] at h1;exact ⟨nn,leadsZ ctRW_ok h1⟩
 | k+1,i,q,nn,h,hq=>by
  have h1:=c_t c F d q nn i;have e:(if IntKind.i64.wrap (0 - c) > c then IntKind.i64.wrap (0 - c) else c)=((i+k+1:Nat):Int):=by
   rw [wrap_in _ (by omega) (by omega)];split <;> omega
  rw [e] at h1;unfold lp1;rw [if_pos hd]
  by_cases h2:q.length≤400
  ·rw [if_pos h2];simp (disch:=omega) only [Nat.add_eq,eqSy_self,eqN_self,bc_same,List.length_cons,ofn,wrap_in,dt,df,bltD,bltN,ble_of,bleN,beqD,bc_t,bc_f,nn_ok,Nat.zero_add,to_nat,Int.zero_add,Int.sub_zero,Int.sub_self,Int.cast_ofNat_Int,Int.natCast_zero,Int.toNat_zero,List.take_zero,List.nil_append,List.length_append,List.length_nil] at h1;obtain ⟨nn',h3⟩:=loopC (F:=F) hd hd2 hc1 hc2 k (i+1) (q ++ d) true (by omega) (by rw [List.length_append];omega);exact ⟨nn',(leadsZ ctRW_ok h1).trans h3⟩
  ·rw [if_neg h2];simp (disch:=omega) only [Nat.add_eq,eqSy_self,eqN_self,bc_same,List.length_cons,ofn,wrap_in,dt,df,bltD,bltN,ble_of,bleN,beqD,bc_t,bc_f,nn_ok,Nat.zero_add,to_nat,Int.zero_add,Int.sub_zero,Int.sub_self,Int.cast_ofNat_Int,Int.natCast_zero,Int.toNat_zero,List.take_zero,List.nil_append,List.length_append,List.length_nil] at h1;exact ⟨nn,leadsZ ctRW_ok h1⟩
theorem noneC {c:Int} {F:List (List U)} {q:List Int} {nn:Bool} {i:Int}:RUN (stOf (sC c F [] q nn i)) = .at (sD F q nn (0:Nat)):=by
 rw [c_t];show bc _ (bc (decide ((0:Int) < Int.ofNat 0)) _ _) _=_;rw [df (show ¬ (0:Int) < Int.ofNat 0 by decide),bc_f,bc_same];rfl
theorem loopD {F:List (List U)} (hF:F.length≤100) (hr:∀ r,r ∈ F→InR (fac r)):∀ (k i:Nat) (q:List Int) (nn:Bool),i+k=F.length→q.length≤2400→EndZ 29 ctRW false (stOf (sD F q nn i)) (if 400 < (lp2 ((F.drop i).map fac) q).length then .tup [.v (.slice none 0 0),iv 3] else .tup [il (lp2 ((F.drop i).map fac) q),iv 0]) [] 0
 | 0,i,q,nn,h,hq=>by
  have h1:=d_t F q nn i;rw [List.drop_eq_nil_of_le (by omega)];show EndZ _ _ _ _ (if 400 < q.length then _ else _) _ _
  split
  ·simp (disch:=omega) only [Nat.add_eq,eqSy_self,eqN_self,bc_same,List.length_cons,ofn,wrap_in,dt,df,bltD,bltN,ble_of,bleN,beqD,bc_t,bc_f,nn_ok,Nat.zero_add,to_nat,Int.zero_add,Int.sub_zero,Int.sub_self,Int.cast_ofNat_Int,Int.natCast_zero,Int.toNat_zero,List.take_zero,List.nil_append,List.length_append,List.length_nil] at h1;exact .done h1
  ·simp (disch:=omega) only [Nat.add_eq,eqSy_self,eqN_self,bc_same,List.length_cons,ofn,wrap_in,dt,df,bltD,bltN,ble_of,bleN,beqD,bc_t,bc_f,nn_ok,Nat.zero_add,to_nat,Int.zero_add,Int.sub_zero,Int.sub_self,Int.cast_ofNat_Int,Int.natCast_zero,Int.toNat_zero,List.take_zero,List.nil_append,List.length_append,List.length_nil] at h1;exact .done h1
 | k+1,i,q,nn,h,hq=>by
  have hi:i < F.length:=by omega
  have h1:=d_t F q nn i;rw [List.drop_eq_getElem_cons hi,List.map_cons];unfold lp2
  by_cases h2:q.length≤400
  ·rw [if_pos h2];have e:F.getD i []=F[i]:=getD_at hi;rw [to_nat,e] at h1;have e2:List.map (fun r=>U.int (List.headD r (U.i 0))) (U.list (List.getD F[i] 0 (U.i 0)))=fac F[i]:=rfl;rw [e2] at h1;have h3:=hr _ (List.getElem_mem hi);have h4:=lwo_len h3;rw [dt h3] at h1
   simp (disch:=omega) only [Nat.add_eq,eqSy_self,eqN_self,bc_same,List.length_cons,ofn,wrap_in,dt,df,bltD,bltN,ble_of,bleN,beqD,bc_t,bc_f,nn_ok,Nat.zero_add,to_nat,Int.zero_add,Int.sub_zero,Int.sub_self,Int.cast_ofNat_Int,Int.natCast_zero,Int.toNat_zero,List.take_zero,List.nil_append,List.length_append,List.length_nil] at h1;exact .at ctRW_ok h1 (loopD hF hr k (i+1) _ _ (by omega) (by rw [List.length_append];omega))
  ·rw [if_neg h2];simp (disch:=omega) only [Nat.add_eq,eqSy_self,eqN_self,bc_same,List.length_cons,ofn,wrap_in,dt,df,bltD,bltN,ble_of,bleN,beqD,bc_t,bc_f,nn_ok,Nat.zero_add,to_nat,Int.zero_add,Int.sub_zero,Int.sub_self,Int.cast_ofNat_Int,Int.natCast_zero,Int.toNat_zero,List.take_zero,List.nil_append,List.length_append,List.length_nil] at h1;rw [if_pos (by omega)];exact .done h1
theorem ends {n c:Int} {F:List (List U)} (hF:F.length≤100) (hf:∀ r,r ∈ F→(fac r).length≤100):EndZ 29 ctRW false (st0 29 [iv n,iv c,fl F]) (shWo n c F) [] 0:=by
 have h:=in_t n c F
 by_cases h1:n < 1
 ·rw [dt h1,bc_t] at h;exact (EndZ.done h).weak (wo_err (e:=2) (by unfold wE;rw [if_pos h1]) (by decide))
 rw [df h1,bc_f] at h
 by_cases h2:12 < n
 ·rw [dt h2,bc_t] at h;exact (EndZ.done h).weak (wo_err (e:=2) (by unfold wE;rw [if_neg h1,if_pos h2]) (by decide))
 rw [df h2,bc_f] at h;obtain ⟨n,rfl⟩:=Int.eq_ofNat_of_zero_le (show 0≤n by omega);have hn:1≤n:=by omega
 have hn2:n≤12:=by omega
 cases h3:okF n F with
 | false=>
  exact (EndZ.at ctRW_ok h (badA hF hn hn2 hf F.length 0 (by omega) h3)).weak (wo_err (e:=6) (by unfold wE;rw [if_neg h1,if_neg h2,to_nat,if_pos h3]) (by decide))
 | true=>
  have hl:=((leadsZ ctRW_ok h).trans (goodA (c:=c) hF hn hn2 hf F.length 0 (by omega) h3)).trans (loopB hn2 n 0 (lin n) (by omega) (lin_len n) (fun j hj=>by omega));have hb:=b_t n c F n (dlt n) n;have hd:=dlt_inR hn2;have hdl:=lwo_len hd;have hsm:(lwo (dlt n)).length≤2000∧Sml (lwo (dlt n)):=⟨by omega,fun x hx=>by have:=lwo_mem hd hx;omega⟩;rw [df (show ¬ (n:Int) < n by omega),bc_f,beqD (dlt_len n).symm,dt hd] at hb;simp only [bc_t,dt hsm] at hb;have hin:∀ r,r ∈ F→InR (fac r):=fun r hr=>(prm_ok hn2 (List.all_eq_true.1 h3 r hr)).1
  by_cases h4:0 < (lwo (dlt n)).length
  ·rw [dt (show (0:Int) < Int.ofNat (lwo (dlt n)).length by rw [ofn];omega),bc_t] at hb
   by_cases h5:400 < c
   ·rw [dt h5,bc_t] at hb;exact (EndZ.lead hl (EndZ.done hb)).weak (wo_err (e:=3) (by unfold wE;rw [if_neg h1,if_neg h2,to_nat,if_neg (by rw [h3];decide),if_pos ⟨h4,.inl h5⟩]) (by decide))
   rw [df h5,bc_f] at hb
   by_cases h6:c < -400
   ·rw [dt h6,bc_t] at hb;exact (EndZ.lead hl (EndZ.done hb)).weak (wo_err (e:=3) (by unfold wE;rw [if_neg h1,if_neg h2,to_nat,if_neg (by rw [h3];decide),if_pos ⟨h4,.inr h6⟩]) (by decide))
   rw [df h6,bc_f] at hb;have hb2:RUN (stOf (sB n c F n (dlt n) n)) = .at (sC c F (dd n c) [] false (0:Nat)):=by
    rw [hb];unfold dd
    by_cases h7:c < 0
    ·rw [dt h7,bc_t,if_pos h7];rfl
    ·rw [df h7,bc_f,if_neg h7];rfl
   obtain ⟨nn',h8⟩:=loopC (c:=c) (F:=F) (d:=dd n c) (by rw [dd_len];exact h4) (by rw [dd_len];omega) (by omega) (by omega) c.natAbs 0 [] false (by omega) (Nat.zero_le _);have hq:(lp1 (dd n c) c.natAbs []).length≤2400:=lp1_le (d:=dd n c) (by rw [dd_len];omega) _ _ (by simp);have h9:=loopD hF hin F.length 0 (lp1 (dd n c) c.natAbs []) nn' (by omega) hq;have h10:=EndZ.lead (((hl.trans (leadsZ ctRW_ok hb2)).trans h8)) h9;have hw:lp2 ((F.drop 0).map fac) (lp1 (dd n c) c.natAbs [])=wout n c F:=rfl;rw [hw] at h10
   have hE:wE n c F=if 400 < (wout n c F).length then 3 else 0:=by
    unfold wE;rw [if_neg h1,if_neg h2,to_nat,if_neg (by rw [h3];decide),if_neg (show ¬ (0 < (lwo (dlt n)).length∧(400 < c∨c < -400)) from fun h=>by rcases h.2 with h | h <;> omega)]
   by_cases h11:400 < (wout n c F).length
   ·rw [if_pos h11] at h10 hE;exact h10.weak (wo_err hE (by decide))
   ·rw [if_neg h11] at h10 hE;unfold shWo wL;rw [hE,if_pos rfl];exact h10
  ·rw [df (show ¬ (0:Int) < Int.ofNat (lwo (dlt n)).length by rw [ofn];omega),bc_f] at hb;have hnil:lwo (dlt n)=[]:=List.eq_nil_of_length_eq_zero (by omega);have hnil2:invl (lwo (dlt n))=[]:=by rw [hnil];rfl
   have hdd:dd n c=[]:=List.eq_nil_of_length_eq_zero (by rw [dd_len];omega);have hb2:RUN (stOf (sB n c F n (dlt n) n)) = .at (sC c F [] [] false (0:Nat)):=by
    rw [hb,hnil2,hnil,bc_same];rfl
   have h9:=loopD hF hin F.length 0 [] false (by omega) (Nat.zero_le _);have h10:=EndZ.lead ((hl.trans (leadsZ ctRW_ok hb2)).trans (leadsZ ctRW_ok noneC)) h9;have hw:lp2 ((F.drop 0).map fac) []=wout n c F:=by unfold wout;rw [hdd,lp1_none];rfl
   rw [hw] at h10;have hE:wE n c F=if 400 < (wout n c F).length then 3 else 0:=by
    unfold wE;rw [if_neg h1,if_neg h2,to_nat,if_neg (by rw [h3];decide),if_neg (show ¬ (0 < (lwo (dlt n)).length∧(400 < c∨c < -400)) from fun h=>h4 h.1)]
   by_cases h11:400 < (wout n c F).length
   ·rw [if_pos h11] at h10 hE;exact h10.weak (wo_err hE (by decide))
   ·rw [if_neg h11] at h10 hE;unfold shWo wL;rw [hE,if_pos rfl];exact h10
end RWor
noncomputable instance (F:List (List U)):Decidable (∀ r,r ∈ F→(fac r).length≤100):=inferInstance
noncomputable def spRWor:ZCT:=fun ax=>match ax with
 | [.v (.int .i64 n),.v (.int .i64 c),.lst (.recs [.list [.int .i64]] F)]=>some ⟨decide (F.length≤100∧∀ r,r ∈ F→(fac r).length≤100),shWo n c F,[],0⟩
 | _=>none
theorem spRWor_ok:ZCtOk Try.prog 29 spRWor:=fun γ w us ax r hs hc hax hN hfz=>by
 unfold spRWor at hs;split at hs
 case h_2=>cases hs
 rename_i n c F;obtain ⟨rfl⟩:=Option.some.inj hs;have hc_0:decide (F.length≤100∧∀ r,r ∈ F→(fac r).length≤100)=true:=hc;have hc:=of_decide_eq_true hc_0;exact EndZ.calls (RWor.ends hc.1 hc.2) ctRW_ok (by kernel_rfl) hax hN hfz
end Go.Proofs.Ytooimphimnagaaa.Ev
namespace Go.Proofs.Ytooimphimnagaaa.Ev
open Go.Proofs
variable {n:Nat}

def altW (w:List Int) (s:Int) (b:Bool):List Int:=if b then (w.map fun x=>s * x).reverse else w.map fun x=>s * x
noncomputable def altS (w:List Int) (s:Int) (b:Bool) (i:Nat):List Int:=if b then zerosL (w.length - i) ++ ((w.take i).map fun x=>s * x).reverse else ((w.take i).map fun x=>s * x) ++ zerosL (w.length - i)
theorem altS_len (w:List Int) (s:Int) (b:Bool) {i:Nat} (hi:i≤w.length):(altS w s b i).length=w.length:=by
 unfold altS;split
 ·rw [List.length_append,List.length_reverse,List.length_map,List.length_take,zeros_len];omega
 ·rw [List.length_append,List.length_map,List.length_take,zeros_len];omega
theorem altS_zero (w:List Int) (s:Int) (b:Bool):altS w s b 0=zerosL w.length:=by
 unfold altS;split
 ·rw [List.take_zero];exact List.append_nil _
 ·rw [List.take_zero];rfl
theorem altS_end (w:List Int) (s:Int) (b:Bool):altS w s b w.length=altW w s b:=by
 unfold altS altW;rw [List.take_length,Nat.sub_self];split
 ·rfl
 ·exact List.append_nil _
theorem altS_set (w:List Int) (s:Int) (b:Bool) {i:Nat} (hi:i < w.length):(altS w s b i).set (if b then w.length - 1 - i else i) (s * w.getD i 0)=altS w s b (i+1):=by
 obtain ⟨k,hk⟩:∃ k,w.length - i=k+1:=⟨w.length - i - 1,by omega⟩;have hk2:w.length - (i+1)=k:=by omega
 unfold altS;rw [hk,hk2,List.take_succ_eq_append_getElem hi,List.map_append,← getD_at (d:=0) hi]
 cases b with
 | true=>
  have e:zerosL (k+1)=zerosL k ++ [0]:=List.replicate_succ';rw [if_pos rfl,if_pos rfl,if_pos rfl,e,List.append_assoc,List.reverse_append];have h1:w.length - 1 - i=(zerosL k).length:=by rw [zeros_len];omega
  rw [h1,List.set_append_right _ _ (Nat.le_refl _),Nat.sub_self];rfl
 | false=>
  have e:zerosL (k+1)=0 :: zerosL k:=List.replicate_succ;have h1:((w.take i).map fun x=>s * x).length=i:=by rw [List.length_map,List.length_take];omega
  rw [if_neg (by simp),if_neg (by simp),if_neg (by simp),e,List.set_append_right _ _ (by omega),h1,Nat.sub_self,List.append_assoc];rfl
namespace LAlt
noncomputable def RUN (s:ES):ZF:=RZ 30 .nil (atS 0 30 3) [] [[(0,none),(1,none),(2,none),(7,none),(8,none)]] false s

noncomputable def sL (w:List Int) (s:Int) (b:Bool) (q:List Int) (m:Nat) (i:Int):NS:=⟨[⟨30,42,[(0,(EV.lst (SyC.ints IntKind.i64 (w)))),(1,(EV.v (Value.int IntKind.i64 (s)))),(2,(EV.v (Value.bool (b)))),(7,EV.slO 0 1 m true),(8,iv i)],[.it (.code (nav [1,1,0,1,0,0,0] (bodyOf Try.f30))),.it (.code (nav [1,1,0,1,0,0,1] (bodyOf Try.f30))),.it (.inLoop (nav [1,1,0,1,0,0] (bodyOf Try.f30))),.it (.inBlock 0),.it (.code (nav [1,1,1] (bodyOf Try.f30)))],[],Option.none⟩],[(0,EK.seq 3 (.ints .i64 q) true)],1⟩
theorem in_t (w:List Int) (s:Int) (b:Bool):RUN (st0 30 [il w,iv s,bv b])=(bc (bc (decide (Int.ofNat (List.length w)≤Int.ofNat (List.length w))) (decide (Int.ofNat (List.length w)≤(65536:Int))) false) (.at (sL (w) (s) (b) (zerosL (Int.toNat (Int.ofNat (List.length w)))) (List.length (zerosL (Int.toNat (Int.ofNat (List.length w))))) ((0:Int)))) .bad):=by kernel_rfl
theorem l_t (w:List Int) (s:Int) (b:Bool) (q:List Int) (m:Nat) (i:Int):RUN (stOf (sL w s b q m i))=(bc (decide (i < Int.ofNat (List.length w))) (bc (b) (bc (bc (bc (decide ((0:Int)≤i)) (Nat.blt (Int.toNat i) (List.length w)) false) true false) (bc (bc (Nat.blt (Int.toNat i) (List.length w)) true false) (bc (bc (bc (decide ((0:Int)≤IntKind.wrap IntKind.i64 (IntKind.wrap IntKind.i64 (Int.ofNat (List.length w) - (1:Int)) - i))) (Nat.blt (Int.toNat (IntKind.wrap IntKind.i64 (IntKind.wrap IntKind.i64 (Int.ofNat (List.length w) - (1:Int)) - i))) m) false) true false) (bc (Nat.blt (Int.toNat (IntKind.wrap IntKind.i64 (IntKind.wrap IntKind.i64 (Int.ofNat (List.length w) - (1:Int)) - i))) (List.length q)) (.at (sL (w) (s) (b) (List.set q (Int.toNat (IntKind.wrap IntKind.i64 (IntKind.wrap IntKind.i64 (Int.ofNat (List.length w) - (1:Int)) - i))) (IntKind.wrap IntKind.i64 (s * List.getD w (Int.toNat i) (0:Int)))) (m) (IntKind.wrap IntKind.i64 (i+(1:Int))))) .bad) .bad) .bad) .bad) (bc (bc (bc (decide ((0:Int)≤i)) (Nat.blt (Int.toNat i) (List.length w)) false) true false) (bc (bc (Nat.blt (Int.toNat i) (List.length w)) true false) (bc (bc (bc (decide ((0:Int)≤i)) (Nat.blt (Int.toNat i) m) false) true false) (bc (Nat.blt (Int.toNat i) (List.length q)) (.at (sL (w) (s) (b) (List.set q (Int.toNat i) (IntKind.wrap IntKind.i64 (s * List.getD w (Int.toNat i) (0:Int)))) (m) (IntKind.wrap IntKind.i64 (i+(1:Int))))) .bad) .bad) .bad) .bad)) (bc (Nat.beq m (List.length q)) (.done (EV.lst (SyC.ints IntKind.i64 (q))) [] 0) .bad)):=by kernel_rfl
theorem step {w:List Int} {s:Int} {b:Bool} {i:Nat} (hs:s=1∨s = -1) (hi:i < w.length) (hw:w.length≤2000) (hx:SmL w):RUN (stOf (sL w s b (altS w s b i) w.length i)) = .at (sL w s b (altS w s b (i+1)) w.length (i+1:Nat)):=by
 have e0:Int.toNat (i:Int)=i:=rfl;have hb:=hx (w.getD i 0) (by rw [getD_at hi];exact List.getElem_mem hi);have w1:IntKind.wrap IntKind.i64 (s * w.getD i 0)=s * w.getD i 0:=by
  rcases hs with rfl | rfl
  ·rw [Int.one_mul,wrap_in _ (by omega) (by omega)]
  ·rw [show (-1:Int) * w.getD i 0 = -(w.getD i 0) by omega,wrap_in _ (by omega) (by omega)]
 have w2:IntKind.wrap IntKind.i64 (Int.ofNat w.length - 1)=((w.length - 1:Nat):Int):=by rw [ofn,wrap_in _ (by omega) (by omega)];omega
 have w3:IntKind.wrap IntKind.i64 (((w.length - 1:Nat):Int) - (i:Int))=((w.length - 1 - i:Nat):Int):=by rw [wrap_in _ (by omega) (by omega)];omega
 have e1:Int.toNat ((w.length - 1 - i:Nat):Int)=w.length - 1 - i:=rfl;have hset:=altS_set w s b hi;have hl:=altS_len w s b (Nat.le_of_lt hi);rw [l_t,e0,w1,w2,w3,e1]
 cases b with
 | true=>
  rw [if_pos rfl] at hset;rw [hset,hl];simp (disch:=omega) only [Nat.add_eq,eqSy_self,eqN_self,bc_same,List.length_cons,ofn,wrap_in,dt,df,bltD,bltN,ble_of,bleN,beqD,bc_t,bc_f,nn_ok,Nat.zero_add,to_nat,Int.zero_add,Int.sub_zero,Int.sub_self,Int.cast_ofNat_Int,Int.natCast_zero,Int.toNat_zero,List.take_zero,List.nil_append,List.length_append,List.length_nil];rfl
 | false=>
  rw [if_neg (by simp)] at hset;rw [hset,hl];simp (disch:=omega) only [Nat.add_eq,eqSy_self,eqN_self,bc_same,List.length_cons,ofn,wrap_in,dt,df,bltD,bltN,ble_of,bleN,beqD,bc_t,bc_f,nn_ok,Nat.zero_add,to_nat,Int.zero_add,Int.sub_zero,Int.sub_self,Int.cast_ofNat_Int,Int.natCast_zero,Int.toNat_zero,List.take_zero,List.nil_append,List.length_append,List.length_nil];rfl
theorem loop {w:List Int} {s:Int} {b:Bool} (hs:s=1∨s = -1) (hw:w.length≤2000) (hx:SmL w):∀ (k i:Nat),i+k=w.length→EndZ 30 .nil false (stOf (sL w s b (altS w s b i) w.length i)) (il (altW w s b)) [] 0
 | 0,i,h=>by
  obtain rfl:i=w.length:=by omega
  have h1:=l_t w s b (altS w s b w.length) w.length w.length;rw [df (show ¬ (w.length:Int) < Int.ofNat w.length by rw [ofn];omega),bc_f,altS_len w s b (Nat.le_refl _),altS_end] at h1;rw [altS_end];simp (disch:=omega) only [Nat.add_eq,eqSy_self,eqN_self,bc_same,List.length_cons,ofn,wrap_in,dt,df,bltD,bltN,ble_of,bleN,beqD,bc_t,bc_f,nn_ok,Nat.zero_add,to_nat,Int.zero_add,Int.sub_zero,Int.sub_self,Int.cast_ofNat_Int,Int.natCast_zero,Int.toNat_zero,List.take_zero,List.nil_append,List.length_append,List.length_nil] at h1;exact .done h1
 | k+1,i,h=>.at (.nil _) (step hs (by omega) hw hx) (loop hs hw hx k (i+1) (by omega))
theorem ends {w:List Int} {s:Int} {b:Bool} (hs:s=1∨s = -1) (hw:w.length≤2000) (hx:SmL w):EndZ 30 .nil false (st0 30 [il w,iv s,bv b]) (il (altW w s b)) [] 0:=by
 have h:=in_t w s b;have e:Int.toNat (Int.ofNat w.length)=w.length:=rfl;rw [e,dt (show Int.ofNat w.length≤Int.ofNat w.length from Int.le_refl _),dt (show Int.ofNat w.length≤65536 by rw [ofn];omega),zeros_len,← altS_zero w s b] at h
 exact .at (.nil _) h (loop hs hw hx w.length 0 (by omega))
end LAlt
noncomputable def spAlt:ZCT:=fun ax=>match ax with
 | [.lst (.ints .i64 w),.v (.int .i64 s),.v (.bool b)]=>some ⟨decide ((s=1∨s = -1)∧w.length≤2000∧SmL w),il (altW w s b),[],0⟩
 | _=>none
theorem spAlt_ok:ZCtOk Try.prog 30 spAlt:=fun γ w us ax r hs hc hax hN hfz=>by
 unfold spAlt at hs;split at hs
 case h_2=>cases hs
 rename_i w s b;obtain ⟨rfl⟩:=Option.some.inj hs;have hc_0:decide ((s=1∨s = -1)∧w.length≤2000∧SmL w)=true:=hc;have hc:=of_decide_eq_true hc_0;exact EndZ.calls (LAlt.ends hc.1 hc.2.1 hc.2.2) (.nil _) (by kernel_rfl) hax hN hfz
end Go.Proofs.Ytooimphimnagaaa.Ev
namespace Go.Proofs.Ytooimphimnagaaa.Ev
open Go.Proofs
variable {n:Nat}
theorem Rd.short {p:Pm n} {u:List Int} (h:Rd p u):p.W+u.length≤(Pm.one n).W:=by
 induction h with
 | one=>exact Nat.le_refl _
 | cons p i hi hb _ ih=>
  have:=p.W_L hi hb;rw [List.length_cons];omega
theorem one_del:∀ n,n < 13→(Pm.one n).W≤286+(Pm.del n).W:=by decide
theorem dlt_short (hn:n≤12):(lwo (dlt n)).length≤286:=by
 have h1:=(dlt_rd hn).short;have h2:=one_del n (by omega);omega
theorem dlt_prm (hn:n≤12):prm n (dlt n)=true:=by
 unfold prm;have h:prF n (List.replicate n false) (dlt n)=true:=by
  rw [prF_iff n _ _ (by simp)];refine ⟨?_,fun x hx=>?_⟩
  ·unfold dlt;rw [List.Nodup,List.pairwise_map];exact List.nodup_range.imp fun h e=>h (by omega)
  ·unfold dlt at hx;obtain ⟨y,hy,rfl⟩:=List.mem_map.1 hx;have:=List.mem_range.1 hy;refine ⟨by omega,by omega,?_⟩;rw [List.getD_eq_getElem?_getD,List.getElem?_replicate];split <;> rfl
 rw [h,bc_t,dlt_len];simp
theorem samB_eq {n:Int} {a b:List Int} (h1:chk n a=0) (h2:chk n b=0):samB n a b=decide (nfW n.toNat a=nfW n.toNat b):=by
 unfold samB sameN;rw [samE_0 h1 h2,show ((0:Int) != 0)=false from rfl,bc_f]
theorem dlt_word {F:List (List U)} (h1:1≤n) (hn:n≤12) (hF:F.map fac=[dlt n]):wE n 0 F=0∧wL n 0 F=lwo (dlt n):=by
 have hs:=dlt_short hn;have e1:((n:Int)).toNat=n:=rfl;have hw:wout n 0 F=lwo (dlt n):=by
  unfold wout;rw [hF];show lp2 [dlt n] []=_;unfold lp2;rw [if_pos (by simp)];rfl
 have hk:okF n F=true:=by
  unfold okF;have:(F.all fun r=>prm n (fac r))=(F.map fac).all (prm n):=by rw [List.all_map];rfl
  rw [this,hF,List.all_cons,dlt_prm hn];rfl
 have hE:wE n 0 F=0:=by
  unfold wE;rw [e1,hw,hk,if_neg (by omega),if_neg (by omega),if_neg (by simp),if_neg (by omega),if_neg (by omega)]
 refine ⟨hE,?_⟩;unfold wL;rw [if_pos hE,e1,hw]
end Go.Proofs.Ytooimphimnagaaa.Ev
namespace Go.Proofs.Ytooimphimnagaaa.Ev
open Go.Proofs
namespace LApa
end LApa
namespace LChg
end LChg

namespace LSig
end LSig
end Go.Proofs.Ytooimphimnagaaa.Ev
namespace Go.Proofs.Ytooimphimnagaaa.Ev
open Go.Proofs
variable {n:Nat}

def upd (f:Nat→Nat→Int) (x y:Nat) (v:Int) (a b:Nat):Int:=if a=x∧b=y then v else f a b
namespace PNml
end PNml
namespace PLnk
end PLnk
end Go.Proofs.Ytooimphimnagaaa.Ev
namespace Go.Proofs.Ytooimphimnagaaa.Ev
open Go.Proofs
noncomputable abbrev cl (l:List (List U)):EV:=.lst (.recs [.int .u8,.int .u8,.int .u8] l)
namespace ACh
end ACh
end Go.Proofs.Ytooimphimnagaaa.Ev
namespace Go.Proofs.Ytooimphimnagaaa.Ev
open Go.Proofs
noncomputable def ctTu:Tr ZCC:=((((Tr.nil.put 42 (some (dC spRChk))).put 29 (some (dC spRWor))).put 27 (some (dC spPSam))).put 30 (some (dC spAlt))).put 25 (some (dC spTrue))
theorem ctTu_ok:ZCtsOk Try.prog ctTu:=(((((ZCtsOk.nil _).add rfl spRChk_ok).add rfl spRWor_ok).add rfl spPSam_ok).add rfl spAlt_ok).add rfl spAwakeB_ok
namespace ATu
noncomputable def RUN (s:ES):ZF:=RZs 5 ctTu [(atS 0 5 5,[[(0,none),(1,none),(2,none),(7,some (1,3,.ints .i64 [])),(8,none)]]),(atS 0 5 13,[[(0,none),(1,none),(2,none),(9,none),(11,some (1,3,.ints .i64 [])),(12,none)]])] [] false s

noncomputable def sA (n:Int) (a b q:List Int) (nn:Bool) (i:Int):NS:=⟨[⟨5,157,[(0,(EV.v (Value.int IntKind.i64 (n)))),(1,(EV.lst (SyC.ints IntKind.i64 (a)))),(2,(EV.lst (SyC.ints IntKind.i64 (b)))),(7,EV.slO 0 1 q.length nn),(8,iv i)],[.it (.code (nav [1,1,1,0,1,0,0,0] (bodyOf Try.f5))),.it (.code (nav [1,1,1,0,1,0,0,1] (bodyOf Try.f5))),.it (.inLoop (nav [1,1,1,0,1,0,0] (bodyOf Try.f5))),.it (.inBlock 0),.it (.code (nav [1,1,1,1] (bodyOf Try.f5)))],[],Option.none⟩],[(0,EK.seq 3 (.ints .i64 q) nn)],1⟩
noncomputable def sB (n:Int) (a b d q:List Int) (nn:Bool) (i:Int):NS:=⟨[⟨5,157,[(0,iv n),(1,(EV.lst (SyC.ints IntKind.i64 (a)))),(2,(EV.lst (SyC.ints IntKind.i64 (b)))),(9,il d),(11,EV.slO 0 1 q.length nn),(12,iv i)],[.it (.code (nav [1,1,1,1,1,1,1,0,1,0,0,0] (bodyOf Try.f5))),.it (.code (nav [1,1,1,1,1,1,1,0,1,0,0,1] (bodyOf Try.f5))),.it (.inLoop (nav [1,1,1,1,1,1,1,0,1,0,0] (bodyOf Try.f5))),.it (.inBlock 2),.it (.code (nav [1,1,1,1,1,1,1,1] (bodyOf Try.f5)))],[],Option.none⟩],[(0,EK.seq 3 (.ints .i64 q) nn)],1⟩
theorem in_t (n:Int) (a b:List Int):RUN (st0 5 [iv n,il a,il b])=(bc (decide ((60:Int) < Int.ofNat (List.length a))) (.done (EV.v (Value.bool true)) [] 0) (bc (decide ((60:Int) < Int.ofNat (List.length b))) (.done (EV.v (Value.bool true)) [] 0) (bc (chk n a != (0:Int)) (bc (chk n a != (0:Int)) (.done (EV.v (Value.bool true)) [] 0) (.at (sA (n) (a) (b) ([]) (false) ((0:Int))))) (bc (chk n b != (0:Int)) (.done (EV.v (Value.bool true)) [] 0) (.at (sA (n) (a) (b) ([]) (false) ((0:Int)))))))):=by kernel_rfl
theorem a_t (n:Int) (a b q:List Int) (nn:Bool) (i:Int):RUN (stOf (sA n a b q nn i))=(bc (decide (i < n)) (bc (bc (Nat.beq (List.length q) (List.length q)) (bc (Nat.ble (List.length q+List.length (List.map (fun r=>U.int (List.headD r (U.i (0:Int)))) [[U.i (IntKind.wrap IntKind.i64 (IntKind.wrap IntKind.i64 (n - (1:Int)) - i))]])) (65536:Nat)) (bc nn true (bc nn false true)) false) false) (.at (sA (n) (a) (b) (q ++ List.map (fun r=>U.int (List.headD r (U.i (0:Int)))) [[U.i (IntKind.wrap IntKind.i64 (IntKind.wrap IntKind.i64 (n - (1:Int)) - i))]]) (bc nn true (Nat.blt (0:Nat) (List.length (List.map (fun r=>U.int (List.headD r (U.i (0:Int)))) [[U.i (IntKind.wrap IntKind.i64 (IntKind.wrap IntKind.i64 (n - (1:Int)) - i))]])))) (IntKind.wrap IntKind.i64 (i+(1:Int))))) .bad) (bc (bc (Nat.beq (List.length q) (List.length q)) true false) (bc (decide (List.length [[U.l (List.map (fun x=>[U.i x]) q)]]≤(100:Nat)∧∀ (r:List U),r ∈ [[U.l (SyC.rows (SyC.ints IntKind.i64 q))]]→List.length (fac r)≤(100:Nat))) (bc (wE n (0:Int) [[U.l (List.map (fun x=>[U.i x]) q)]] != (0:Int)) (.done (EV.v (Value.bool false)) [] 0) (.at (sB (n) (a) (b) (wL n (0:Int) [[U.l (List.map (fun x=>[U.i x]) q)]]) ([]) (false) ((0:Int))))) .bad) .bad)):=by kernel_rfl
theorem b_t (n:Int) (a b d q:List Int) (nn:Bool) (i:Int):RUN (stOf (sB n a b d q nn i))=(bc (decide (i < Int.ofNat (List.length a))) (bc (bc (bc (decide ((0:Int)≤i)) (Nat.blt (Int.toNat i) (List.length a)) false) true false) (bc (bc (Nat.blt (Int.toNat i) (List.length a)) true false) (bc (decide ((0:Int) < List.getD a (Int.toNat i) (0:Int))) (bc (bc (bc (decide ((0:Int)≤i)) (Nat.blt (Int.toNat i) (List.length a)) false) true false) (bc (bc (Nat.blt (Int.toNat i) (List.length a)) true false) (bc (bc (Nat.beq (List.length q) (List.length q)) (bc (Nat.ble (List.length q+List.length (List.map (fun r=>U.int (List.headD r (U.i (0:Int)))) [[U.i (IntKind.wrap IntKind.i64 (n - List.getD a (Int.toNat i) (0:Int)))]])) (65536:Nat)) (bc nn true (bc nn false true)) false) false) (.at (sB (n) (a) (b) (d) (q ++ List.map (fun r=>U.int (List.headD r (U.i (0:Int)))) [[U.i (IntKind.wrap IntKind.i64 (n - List.getD a (Int.toNat i) (0:Int)))]]) (bc nn true (Nat.blt (0:Nat) (List.length (List.map (fun r=>U.int (List.headD r (U.i (0:Int)))) [[U.i (IntKind.wrap IntKind.i64 (n - List.getD a (Int.toNat i) (0:Int)))]])))) (IntKind.wrap IntKind.i64 (i+(1:Int))))) .bad) .bad) .bad) (bc (bc (bc (decide ((0:Int)≤i)) (Nat.blt (Int.toNat i) (List.length a)) false) true false) (bc (bc (Nat.blt (Int.toNat i) (List.length a)) true false) (bc (bc (Nat.beq (List.length q) (List.length q)) (bc (Nat.ble (List.length q+List.length (List.map (fun r=>U.int (List.headD r (U.i (0:Int)))) [[U.i (IntKind.wrap IntKind.i64 (IntKind.wrap IntKind.i64 ((0:Int) - n) - List.getD a (Int.toNat i) (0:Int)))]])) (65536:Nat)) (bc nn true (bc nn false true)) false) false) (.at (sB (n) (a) (b) (d) (q ++ List.map (fun r=>U.int (List.headD r (U.i (0:Int)))) [[U.i (IntKind.wrap IntKind.i64 (IntKind.wrap IntKind.i64 ((0:Int) - n) - List.getD a (Int.toNat i) (0:Int)))]]) (bc nn true (Nat.blt (0:Nat) (List.length (List.map (fun r=>U.int (List.headD r (U.i (0:Int)))) [[U.i (IntKind.wrap IntKind.i64 (IntKind.wrap IntKind.i64 ((0:Int) - n) - List.getD a (Int.toNat i) (0:Int)))]])))) (IntKind.wrap IntKind.i64 (i+(1:Int))))) .bad) .bad) .bad)) .bad) .bad) (bc (bc (Nat.ble ((0:Nat)+List.length d) (65536:Nat)) true false) (bc (bc (Nat.beq (List.length ([] ++ d)) (List.length ([] ++ d))) (bc (Nat.ble (List.length ([] ++ d)+List.length a) (65536:Nat)) true false) false) (bc (bc (Nat.beq (List.length q) (List.length q)) (bc (Nat.ble ((0:Nat)+List.length q) (65536:Nat)) true false) false) (bc (bc (Nat.beq (List.length ([] ++ q)) (List.length ([] ++ q))) (bc (Nat.ble (List.length ([] ++ q)+List.length d) (65536:Nat)) true false) false) (bc (bc (bc (bc (Nat.beq (List.length ([] ++ d ++ a)) (List.length ([] ++ d ++ a))) (bc (Nat.beq (List.length ([] ++ q ++ d)) (List.length ([] ++ q ++ d))) true false) false) (decide True) false) true false) (bc (decide (((-1:Int)=(1:Int)∨(-1:Int)=(-1:Int))∧List.length a≤(2000:Nat)∧SmL a)) (bc (decide (((-1:Int)=(1:Int)∨(-1:Int)=(-1:Int))∧List.length b≤(2000:Nat)∧SmL b)) (bc (decide (((1:Int)=(1:Int)∨(1:Int)=(-1:Int))∧List.length a≤(2000:Nat)∧SmL a)) (bc (decide (((1:Int)=(1:Int)∨(1:Int)=(-1:Int))∧List.length b≤(2000:Nat)∧SmL b)) (bc (samE n ([] ++ d ++ a) ([] ++ q ++ d) == (0:Int)) (bc (samE n a b == (0:Int)) (bc (samE n (altW a (-1:Int) false) (altW b (-1:Int) false) == (0:Int)) (bc (samE n (altW a (1:Int) true) (altW b (1:Int) true) == (0:Int)) (bc (samB n ([] ++ d ++ a) ([] ++ q ++ d)) (bc (samB n a b == samB n (altW a (-1:Int) false) (altW b (-1:Int) false)) (bc (samB n a b == samB n (altW a (1:Int) true) (altW b (1:Int) true)) (.done (EV.v (Value.bool true)) [] 0) (.done (EV.v (Value.bool false)) [] 0)) (.done (EV.v (Value.bool false)) [] 0)) (.done (EV.v (Value.bool false)) [] 0)) (.done (EV.v (Value.bool false)) [] 0)) (.done (EV.v (Value.bool false)) [] 0)) (.done (EV.v (Value.bool false)) [] 0)) (.done (EV.v (Value.bool false)) [] 0)) .bad) .bad) .bad) .bad) .bad) .bad) .bad) .bad) .bad)):=by kernel_rfl
theorem oneM (x:Int):List.map (fun r=>U.int (List.headD r (U.i (0:Int)))) [[U.i x]]=[x]:=rfl
theorem altW_neg (w:List Int):altW w (-1) false=w.map fun x=>-x:=by
 unfold altW;rw [if_neg (by simp)];exact List.map_congr_left fun x _=>by omega
theorem altW_rev (w:List Int):altW w 1 true=w.reverse:=by
 unfold altW;rw [if_pos rfl];have:(w.map fun x=>(1:Int) * x)=w:=(List.map_congr_left (g:=id) fun x _=>by show 1 * x=x;omega).trans (List.map_id _);rw [this]
theorem neg_vld {n:Nat} {w:List Int} (h:Vld n w):Vld n (w.map fun x=>-x):=fun x hx=>by
 obtain ⟨y,hy,rfl⟩:=List.mem_map.1 hx;obtain ⟨h1,h2,h3⟩:=h y hy;exact ⟨by omega,by omega,by omega⟩
theorem vld_sml {n:Nat} {w:List Int} (hn:n≤12) (h:Vld n w):SmL w:=fun x hx=>by
 obtain ⟨h1,h2,h3⟩:=h x hx;omega

theorem dlt_snoc {n i:Nat} (hi:i < n):(dlt n).take i ++ [(n:Int) - 1 - (i:Int)]=(dlt n).take (i+1):=by
 have h:=dlt_get hi;rw [List.take_succ_eq_append_getElem (by rw [dlt_len];exact hi)];rw [getD_at (by rw [dlt_len];exact hi)] at h;rw [h]
theorem trW_snoc {n i:Nat} {a:List Int} (hi:i < a.length):trW n (a.take i) ++ [if 0 < a.getD i 0 then (n:Int) - a.getD i 0 else -(n:Int) - a.getD i 0]=trW n (a.take (i+1)):=by
 have e:a.getD i 0=a[i]:=getD_at hi;rw [e,List.take_succ_eq_append_getElem hi];unfold trW;rw [List.map_append];rfl
theorem fin {n:Nat} {a b:List Int} {nn:Bool} (hn:1≤n∧n≤12) (ha:a.length≤60) (hb:b.length≤60) (va:Vld n a) (vb:Vld n b):RUN (stOf (sB n a b (lwo (dlt n)) (trW n a) nn (a.length:Nat))) = .done (bv true) [] 0:=by
 have hs:=dlt_short hn.2;have hdv:=(dlt_rd hn.2).vld;have hl:(trW n a).length=a.length:=by unfold trW;rw [List.length_map]
 have za:=chk_of hn.1 hn.2 (by omega) va;have zb:=chk_of hn.1 hn.2 (by omega) vb;have z1:=chk_of hn.1 hn.2 (w:=lwo (dlt n) ++ a) (by rw [List.length_append];omega) (hdv.app va);have z2:=chk_of hn.1 hn.2 (w:=trW n a ++ lwo (dlt n)) (by rw [List.length_append];omega) ((trW_vld va).app hdv);have z3:=chk_of hn.1 hn.2 (w:=a.map fun x=>-x) (by rw [List.length_map];omega) (neg_vld va);have z4:=chk_of hn.1 hn.2 (w:=b.map fun x=>-x) (by rw [List.length_map];omega) (neg_vld vb);have z5:=chk_of hn.1 hn.2 (w:=a.reverse) (by rw [List.length_reverse];omega) va.rev
 have z6:=chk_of hn.1 hn.2 (w:=b.reverse) (by rw [List.length_reverse];omega) vb.rev;have e1:=samB_1 z1 z2 (turn_nf hn.2 va);have e2:samB n (a.map fun x=>-x) (b.map fun x=>-x)=samB n a b:=by
  rw [samB_eq za zb,samB_eq z3 z4];exact decide_eq_decide.2 (neg_nf va vb).symm
 have e3:samB n a.reverse b.reverse=samB n a b:=by
  rw [samB_eq za zb,samB_eq z5 z6];exact decide_eq_decide.2 (rev_nf va vb).symm
 have q1:a.length≤2000∧SmL a:=⟨by omega,vld_sml hn.2 va⟩;have q2:b.length≤2000∧SmL b:=⟨by omega,vld_sml hn.2 vb⟩;have p1:((-1:Int)=1∨(-1:Int) = -1)∧a.length≤2000∧SmL a:=⟨.inr rfl,q1⟩;have p2:((-1:Int)=1∨(-1:Int) = -1)∧b.length≤2000∧SmL b:=⟨.inr rfl,q2⟩;have p3:((1:Int)=1∨(1:Int) = -1)∧a.length≤2000∧SmL a:=⟨.inl rfl,q1⟩;have p4:((1:Int)=1∨(1:Int) = -1)∧b.length≤2000∧SmL b:=⟨.inl rfl,q2⟩
 rw [b_t,df (show ¬ ((a.length:Nat):Int) < Int.ofNat a.length by rw [ofn];omega),bc_f,List.nil_append,List.nil_append,altW_neg,altW_neg,altW_rev,altW_rev,dt p1,dt p2,dt p3,dt p4,samE_0 z1 z2,samE_0 za zb,samE_0 z3 z4,samE_0 z5 z6,e1,e2,e3];have l1:(lwo (dlt n) ++ a).length=(lwo (dlt n)).length+a.length:=List.length_append;have l2:(trW n a ++ lwo (dlt n)).length=(trW n a).length+(lwo (dlt n)).length:=List.length_append
 simp (disch:=omega) only [Nat.add_eq,eqSy_self,eqN_self,bc_same,List.length_cons,ofn,wrap_in,dt,df,bltD,bltN,ble_of,bleN,beqD,bc_t,bc_f,nn_ok,Nat.zero_add,to_nat,Int.zero_add,Int.sub_zero,Int.sub_self,Int.cast_ofNat_Int,Int.natCast_zero,Int.toNat_zero,List.take_zero,List.nil_append,List.length_append,List.length_nil,beq_self_eq_true];rfl
theorem loopB {n:Nat} {a b:List Int} (hn:1≤n∧n≤12) (ha:a.length≤60) (hb:b.length≤60) (va:Vld n a) (vb:Vld n b):∀ (k i:Nat) (nn:Bool),i+k=a.length→EndZ 5 ctTu false (stOf (sB n a b (lwo (dlt n)) (trW n (a.take i)) nn (i:Nat))) (bv true) [] 0
 | 0,i,nn,h=>by
  obtain rfl:i=a.length:=by omega
  rw [List.take_length];exact .done (fin hn ha hb va vb)
 | k+1,i,nn,h=>by
  have hi:i < a.length:=by omega
  have h1:=b_t n a b (lwo (dlt n)) (trW n (a.take i)) nn i;have hl:(trW n (a.take i)).length=i:=by unfold trW;rw [List.length_map,List.length_take];omega
  obtain ⟨v1,v2,v3⟩:=va _ (getD_mem' hi);have e0:Int.toNat (i:Int)=i:=rfl;have ht:=trW_snoc (n:=n) hi;have w1:IntKind.wrap IntKind.i64 ((n:Int) - a.getD i 0)=(n:Int) - a.getD i 0:=wrap_in _ (by omega) (by omega);have w2:IntKind.wrap IntKind.i64 (0 - (n:Int)) = -(n:Int):=by rw [wrap_in _ (by omega) (by omega)];omega
  have w3:IntKind.wrap IntKind.i64 (-(n:Int) - a.getD i 0) = -(n:Int) - a.getD i 0:=wrap_in _ (by omega) (by omega);have w4:IntKind.wrap IntKind.i64 ((i:Int)+1)=((i+1:Nat):Int):=by rw [wrap_in _ (by omega) (by omega)];omega
  rw [e0,oneM,oneM,w1,w2,w3,w4] at h1
  by_cases c:0 < a.getD i 0
  ·rw [if_pos c] at ht;rw [ht] at h1;have hg:∃ g,RUN (stOf (sB n a b (lwo (dlt n)) (trW n (a.take i)) nn (i:Int))) = .at (sB n a b (lwo (dlt n)) (trW n (a.take (i+1))) g (i+1:Nat)):=by
    refine ⟨true,?_⟩;rw [h1];cases nn <;> (simp (disch:=(first | omega | (simp only [List.length_cons,List.length_nil];omega))) only [Nat.add_eq,eqSy_self,eqN_self,bc_same,List.length_cons,ofn,wrap_in,dt,df,bltD,bltN,ble_of,bleN,beqD,bc_t,bc_f,nn_ok,Nat.zero_add,to_nat,Int.zero_add,Int.sub_zero,Int.sub_self,Int.cast_ofNat_Int,Int.natCast_zero,Int.toNat_zero,List.take_zero,List.nil_append,List.length_append,List.length_nil];try rfl)
   obtain ⟨g,hg⟩:=hg;exact .at ctTu_ok hg (loopB hn ha hb va vb k (i+1) g (by omega))
  ·rw [if_neg c] at ht;rw [ht] at h1;have hg:∃ g,RUN (stOf (sB n a b (lwo (dlt n)) (trW n (a.take i)) nn (i:Int))) = .at (sB n a b (lwo (dlt n)) (trW n (a.take (i+1))) g (i+1:Nat)):=by
    refine ⟨true,?_⟩;rw [h1];cases nn <;> (simp (disch:=(first | omega | (simp only [List.length_cons,List.length_nil];omega))) only [Nat.add_eq,eqSy_self,eqN_self,bc_same,List.length_cons,ofn,wrap_in,dt,df,bltD,bltN,ble_of,bleN,beqD,bc_t,bc_f,nn_ok,Nat.zero_add,to_nat,Int.zero_add,Int.sub_zero,Int.sub_self,Int.cast_ofNat_Int,Int.natCast_zero,Int.toNat_zero,List.take_zero,List.nil_append,List.length_append,List.length_nil];try rfl)
   obtain ⟨g,hg⟩:=hg;exact .at ctTu_ok hg (loopB hn ha hb va vb k (i+1) g (by omega))
theorem loopA {n:Nat} {a b:List Int} (hn:1≤n∧n≤12) (ha:a.length≤60) (hb:b.length≤60) (va:Vld n a) (vb:Vld n b):∀ (k i:Nat) (nn:Bool),i+k=n→EndZ 5 ctTu false (stOf (sA n a b ((dlt n).take i) nn (i:Nat))) (bv true) [] 0
 | 0,i,nn,h=>by
  obtain rfl:i=n:=by omega
  have h1:=a_t i a b ((dlt i).take i) nn i;have et:(dlt i).take i=dlt i:=by rw [List.take_of_length_le (by rw [dlt_len];exact Nat.le_refl _)]
  rw [et] at h1 ⊢;have hF:[[U.l (List.map (fun x=>[U.i x]) (dlt i))]].map fac=[dlt i]:=by
   show [List.map (fun r=>U.int (List.headD r (U.i 0))) ((dlt i).map fun x=>[U.i x])]=_;rw [List.map_map];congr 1;exact (List.map_congr_left (g:=id) fun x _=>rfl).trans (List.map_id _)
  obtain ⟨hE,hW⟩:=dlt_word hn.1 hn.2 hF;have hc:List.length [[U.l (List.map (fun x=>[U.i x]) (dlt i))]]≤100∧∀ (r:List U),r ∈ [[U.l (SyC.rows (SyC.ints IntKind.i64 (dlt i)))]]→List.length (fac r)≤100:=by
   refine ⟨by simp,fun r hr=>?_⟩;obtain rfl:=List.mem_singleton.1 hr;show (List.map _ ((dlt i).map fun x=>[U.i x])).length≤100;rw [List.length_map,List.length_map,dlt_len];omega
  rw [hE,hW,dt hc,df (show ¬ (i:Int) < i by omega)] at h1;simp (disch:=omega) only [Nat.add_eq,eqSy_self,eqN_self,bc_same,List.length_cons,ofn,wrap_in,dt,df,bltD,bltN,ble_of,bleN,beqD,bc_t,bc_f,nn_ok,Nat.zero_add,to_nat,Int.zero_add,Int.sub_zero,Int.sub_self,Int.cast_ofNat_Int,Int.natCast_zero,Int.toNat_zero,List.take_zero,List.nil_append,List.length_append,List.length_nil] at h1;exact .at ctTu_ok h1 (loopB hn ha hb va vb a.length 0 false (by omega))
 | k+1,i,nn,h=>by
  have hi:i < n:=by omega
  have h1:=a_t n a b ((dlt n).take i) nn i;have hl:((dlt n).take i).length=i:=by rw [List.length_take,dlt_len];omega
  have hd:=dlt_snoc hi;have w1:IntKind.wrap IntKind.i64 (IntKind.wrap IntKind.i64 ((n:Int) - 1) - (i:Int))=(n:Int) - 1 - (i:Int):=by rw [wrap_in ((n:Int) - 1) (by omega) (by omega),wrap_in _ (by omega) (by omega)]
  have w4:IntKind.wrap IntKind.i64 ((i:Int)+1)=((i+1:Nat):Int):=by rw [wrap_in _ (by omega) (by omega)];omega
  rw [oneM,w1,w4,hd] at h1;have hg:∃ g,RUN (stOf (sA n a b ((dlt n).take i) nn (i:Int))) = .at (sA n a b ((dlt n).take (i+1)) g (i+1:Nat)):=by
   refine ⟨true,?_⟩;rw [h1];cases nn <;> (simp (disch:=(first | omega | (simp only [List.length_cons,List.length_nil];omega))) only [Nat.add_eq,eqSy_self,eqN_self,bc_same,List.length_cons,ofn,wrap_in,dt,df,bltD,bltN,ble_of,bleN,beqD,bc_t,bc_f,nn_ok,Nat.zero_add,to_nat,Int.zero_add,Int.sub_zero,Int.sub_self,Int.cast_ofNat_Int,Int.natCast_zero,Int.toNat_zero,List.take_zero,List.nil_append,List.length_append,List.length_nil];try rfl)
  obtain ⟨g,hg⟩:=hg;exact .at ctTu_ok hg (loopA hn ha hb va vb k (i+1) g (by omega))
theorem ends (n:Int) (a b:List Int):EndZ 5 ctTu false (st0 5 [iv n,il a,il b]) (bv true) [] 0:=by
 have h:=in_t n a b
 by_cases c1:60 < a.length
 ·rw [dt (show (60:Int) < Int.ofNat a.length by rw [ofn];omega),bc_t] at h;exact .done h
 rw [df (show ¬ (60:Int) < Int.ofNat a.length by rw [ofn];omega),bc_f] at h
 by_cases c3:60 < b.length
 ·rw [dt (show (60:Int) < Int.ofNat b.length by rw [ofn];omega),bc_t] at h;exact .done h
 rw [df (show ¬ (60:Int) < Int.ofNat b.length by rw [ofn];omega),bc_f] at h
 by_cases c2:¬ chk n a=0
 ·rw [show (chk n a != 0)=true by simp [c2],bc_t,bc_t] at h;exact .done h
 have c2:chk n a=0:=Decidable.of_not_not c2;rw [c2,show ((0:Int) != 0)=false from rfl,bc_f] at h
 by_cases c4:¬ chk n b=0
 ·rw [show (chk n b != 0)=true by simp [c4],bc_t] at h;exact .done h
 have c4:chk n b=0:=Decidable.of_not_not c4;rw [c4,show ((0:Int) != 0)=false from rfl,bc_f] at h
 obtain ⟨⟨w0,w1,w2,w3⟩,_⟩:=chk_wok c2;obtain ⟨⟨x0,x1,x2,x3⟩,_⟩:=chk_wok c4;obtain ⟨n,rfl⟩:=Int.eq_ofNat_of_zero_le (show 0≤n by omega);exact .at ctTu_ok h (loopA (by omega) (by omega) (by omega) w3 x3 n 0 false (by omega))
end ATu
theorem braidsTurns_calls {γ:G} {w:World} {us:Array Value} (n:Int) (wn:(Lit.int .i64 n).wf=true) (a:List (List U)) (wa:UFit (.list [.int .i64]) (.l a)) (b:List (List U)) (wb:UFit (.list [.int .i64]) (.l b)) (hax:ECL γ [iv n,.lst (mkC [.int .i64] a),.lst (mkC [.int .i64] b)] us.toList) (hN:∀ i,γ i=none) (hfz:FzAt γ w):Calls Try.prog 5 us w fun e w'=>e = .returned (.bool true)∧Stays w w':=
 law_of ((ATu.ends n _ _).calls ctTu_ok (by kernel_rfl) hax hN hfz)
end Go.Proofs.Ytooimphimnagaaa.Ev
namespace Go.Proofs.Ytooimphimnagaaa
open Go.ChangeShapes Go.WideShapes Go.ChangeAt Go.RowKit Go.ChangeMaps
theorem knobBraidsTurns:ownKnob Try.prog.godebug=none:=by kernel_rfl
theorem kidsBraidsTurns:Kids Try.prog (· < Try.prog.types.size):=kids_rows (by kernel_rfl) (by kernel_rfl)
theorem fullBraidsTurns:∀ t e,t < Try.prog.types.size→Try.prog.underlying t=some (.slice e)→0 < Try.prog.cellsOf e:=slices_full_of Try.prog (by kernel_rfl)
set_option maxRecDepth 100000 in
theorem liftedBraidsTurns (os:Os) (started:os.Started) (H:Type) (enc:TypeId × Value→H) :
  ReturnsInHanded {} Try.checked os 5 .any (Rows.braidsTurnsSpec.pre6 enc Try.prog Try.f5 Rows.braidsTurnsRow.domain false) (Rows.braidsTurnsSpec.post enc Try.prog Try.f5 false true false false):=by
 refine returnsInHanded_of_change (C:=Try.checked) knobBraidsTurns started (by kernel_rfl) Try.func5
  (ChangeSpec.witness6 (enc:=enc) (C:=Try.checked) false ⟨#[],#[.int .i64 0,.slice none 0 0,.slice none 0 0],[]⟩ 8 (by kernel_rfl) (by kernel_rfl) (by kernel_rfl) (by kernel_rfl)) ?_
 intro W base args ds gs before hval0 hW hcnd _;have hval:∀ (j:Nat) t v,Try.f5.params[j]? = some t→args[j]? = some v→Value.okWide Try.prog W .any base t v:=hval0;have hW':=hW;obtain ⟨p,q,hA0,hV,rfl,hfz,hnd⟩:=hW;have hA:DataW.TrodAll enc Try.prog W 0 (fun _=>true) true Try.f5.params.toList args.toList ds p:=hA0;have hAk:=hA;rw [Try.params5] at hA hval;obtain ⟨rfl,rfl⟩:=trodVars_none hV;obtain ⟨v0,v1,v2,d0,d1,d2,p0,p1,p2,rfl,rfl,rfl,h0,h1,h2⟩:=trodAll_three hA
 obtain ⟨n,rfl,rfl,rfl,wn⟩:=open_int Try.underlying3 (hval 0 3 v0 rfl rfl) h0;obtain ⟨a,wa,ea⟩:=Ev.open_lst (k:=8) Try.underlying22 (by kernel_rfl:Ev.shB Try.prog 8 22=some [.list [.int .i64]]) (hval 1 22 v1 rfl rfl) h1;obtain ⟨b,wb,eb⟩:=Ev.open_lst (k:=8) Try.underlying22 (by kernel_rfl:Ev.shB Try.prog 8 22=some [.list [.int .i64]]) (hval 2 22 v2 rfl rfl) h2;clear hA0 hval0;refine (Ev.braidsTurns_calls n wn a wa b wb (γ:=Ev.gAll W) (.cons (.v _) (.cons ea (.cons eb (.nil _)))) (fun i=>rfl) (Ev.fzAll_at W)).mono fun e W' ⟨he,hg⟩=>?_;subst he
 exact ⟨_,rfl,post_law kidsBraidsTurns fullBraidsTurns Try.underlying4 (by kernel_rfl) (by kernel_rfl) rfl rfl (by rw [Try.params5];decide) hW' hAk hg (ok_one (by kernel_rfl) rfl (okWide_bool_mk Try.underlying4 _))⟩
theorem braidsTurns_holds:Rows.BraidsTurnsSaid:=
 OpenClaim.holds_of_wide 5 Try.f5 rfl rfl rfl rfl rfl rfl rfl ⟨rfl,rfl,rfl,rfl,rfl⟩ rfl rfl rfl rfl rfl (by kernel_rfl) Try.func5 (by kernel_rfl)
  (of_decide_eq_true (by kernel_rfl)) (by unfold Func.isWrapper;first | (rw [if_pos (by decide +kernel)];kernel_rfl) | (rw [if_neg (by decide +kernel)];exact ⟨rfl,rfl⟩))
  (fun os started H enc _=>liftedBraidsTurns os started H enc)
end Go.Proofs.Ytooimphimnagaaa
