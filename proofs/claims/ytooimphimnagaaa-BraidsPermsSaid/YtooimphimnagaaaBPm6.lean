/- BraidsPerms returns true, for all arguments, in every world in which it is called, and nothing that was there turns. -/
import Derived.ProofKit
import Derived.ReadAgain
import Derived.OpenShut
import Derived.Test.YtooimphimnagaaaRows
import Derived.WalkKit
import Derived.Test.YtooimphimnagaaaBPm5
set_option linter.unusedSimpArgs false
set_option linter.unusedVariables false
namespace Go.Proofs.Ytooimphimnagaaa.Ev
open Go.Proofs
variable {n:Nat}
namespace RDpp
noncomputable def ct:Tr ZCC:=((Tr.nil.put 42 (some (dC spRChk))).put 98 (some (dC spRDro))).put 50 (some (dC spRPrm))
theorem ct_ok:ZCtsOk Try.prog ct:=(((ZCtsOk.nil _).add rfl spRChk_ok).add rfl spRDro_ok).add rfl spRPrm_ok
noncomputable def RUN (s:ES):ZF:=RZ 53 ct (fun _=>false) [] [] false s
theorem in_t (n:Int) (w:List Int) (p:Int):RUN (st0 53 [iv n,il w,iv p])=(bc (chk n w != (0:Int)) (.done (EV.tup [(EV.v (Value.slice Option.none 0 0)),(EV.v (Value.int IntKind.i64 (chk n w)))]) [] 0) (bc (decide (p < (0:Int))) (.done (EV.tup [(EV.v (Value.slice Option.none 0 0)),(EV.v (Value.int IntKind.i64 (7)))]) [] 0) (bc (decide (n≤p)) (.done (EV.tup [(EV.v (Value.slice Option.none 0 0)),(EV.v (Value.int IntKind.i64 (7)))]) [] 0) (bc (n == (1:Int)) (.done (EV.tup [(EV.v (Value.slice Option.none 0 0)),(EV.v (Value.int IntKind.i64 (2)))]) [] 0) (bc (decide (OthOk w p)) (.done (EV.tup [(EV.lst (SyC.ints IntKind.i64 (Prod.fst (oth (Int.toNat p) w)))),(EV.v (Value.int IntKind.i64 (0)))]) [] 0) .bad))))):=by kernel_rfl
theorem ends (n:Int) (w:List Int) (p:Int):EndZ 53 ct false (st0 53 [iv n,il w,iv p]) (resL (PDrp.drpE n w p) (oth p.toNat w).1) [] 0:=by
 have h:=in_t n w p
 by_cases z:chk n w=0
 ·rw [z,show ((0:Int) != 0)=false from rfl,bc_f] at h
  have e1:PDrp.drpE n w p=bc (decide (p < 0)) 7 (bc (decide (n≤p)) 7 (bc (n == 1) 2 0)):=by unfold PDrp.drpE;rw [z];rfl
  by_cases h1:p < 0
  ·rw [dt h1,bc_t] at h e1;rw [e1];exact (EndZ.done h).weak (resL_err _ (by decide))
  rw [df h1,bc_f] at h e1
  by_cases h2:n≤p
  ·rw [dt h2,bc_t] at h e1;rw [e1];exact (EndZ.done h).weak (resL_err _ (by decide))
  rw [df h2,bc_f] at h e1
  by_cases h3:n=1
  ·rw [show (n == 1)=true by simp [h3],bc_t] at h e1;rw [e1];exact (EndZ.done h).weak (resL_err _ (by decide))
  ·rw [show (n == 1)=false by simp [h3],bc_f] at h e1;rw [dt (PDrp.othOk z h1 h2),bc_t] at h;rw [resL_ok _ e1];exact .done h
 ·have e1:PDrp.drpE n w p=chk n w:=by unfold PDrp.drpE;rw [show (chk n w != 0)=true by simp [z],bc_t]
  rw [show (chk n w != 0)=true by simp [z],bc_t] at h;rw [e1];exact (EndZ.done h).weak (resL_err _ z)
end RDpp
noncomputable def spRDrp:ZCT:=fun ax=>match ax with
 | [.v (.int .i64 n),.lst (.ints .i64 w),.v (.int .i64 p)]=>some ⟨decide (True),resL (PDrp.drpE n w p) (oth p.toNat w).1,[],0⟩
 | _=>none
theorem spRDrp_ok:ZCtOk Try.prog 53 spRDrp:=fun γ w us ax r hs hc hax hN hfz=>by
 unfold spRDrp at hs;split at hs
 case h_2=>cases hs
 rename_i n w p;obtain ⟨rfl⟩:=Option.some.inj hs;have hc_0:decide (True)=true:=hc;have hc:=of_decide_eq_true hc_0;exact EndZ.calls (RDpp.ends n w p) RDpp.ct_ok (by kernel_rfl) hax hN hfz
namespace RLay
noncomputable def RUN (s:ES):ZF:=RZs 55 RDpp.ct [(atS 0 55 11,[[(0,none),(1,none),(2,none),(11,none),(12,some (1,3,.ints .i64 [])),(13,none)]]),(atS 0 55 17,[[(2,none),(11,none),(12,none),(14,none),(16,none)]])] [] false s

noncomputable def sA (n:Int) (w:List Int) (p s:Int) (q:List Int) (nn:Bool) (k:Int):NS:=⟨[⟨55,77,[(0,(EV.v (Value.int IntKind.i64 (n)))),(1,(EV.lst (SyC.ints IntKind.i64 (w)))),(2,iv p),(11,iv s),(12,EV.slO 0 1 q.length nn),(13,iv k)],[.it (.code (nav [1,1,1,1,1,1,1,0,1,0,0,0] (bodyOf Try.f55))),.it (.code (nav [1,1,1,1,1,1,1,0,1,0,0,1] (bodyOf Try.f55))),.it (.inLoop (nav [1,1,1,1,1,1,1,0,1,0,0] (bodyOf Try.f55))),.it (.inBlock 0),.it (.code (nav [1,1,1,1,1,1,1,1] (bodyOf Try.f55)))],[],Option.none⟩],[(0,EK.seq 3 (.ints .i64 q) nn)],1⟩
noncomputable def sB (p s:Int) (q:List Int) (nn:Bool) (l:List Int) (k:Int):NS:=⟨[⟨55,77,[(2,iv p),(11,iv s),(12,EV.slO 0 1 q.length nn),(14,il l),(16,iv k)],[.it (.code (nav [1,1,1,1,1,1,1,1,1,1,0,1,0,0,0] (bodyOf Try.f55))),.it (.code (nav [1,1,1,1,1,1,1,1,1,1,0,1,0,0,1] (bodyOf Try.f55))),.it (.inLoop (nav [1,1,1,1,1,1,1,1,1,1,0,1,0,0] (bodyOf Try.f55))),.it (.inBlock 2),.it (.code (nav [1,1,1,1,1,1,1,1,1,1,1] (bodyOf Try.f55)))],[],Option.none⟩],[(0,EK.seq 3 (.ints .i64 q) nn)],1⟩
theorem in_t (n:Int) (w:List Int) (p:Int) (a:Bool):RUN (st0 55 [iv n,il w,iv p,bv a])=(bc (chk n w != (0:Int)) (.done (EV.tup [(EV.v (Value.slice Option.none 0 0)),(EV.v (Value.int IntKind.i64 (chk n w)))]) [] 0) (bc (decide (p < (0:Int))) (.done (EV.tup [(EV.v (Value.slice Option.none 0 0)),(EV.v (Value.int IntKind.i64 (7)))]) [] 0) (bc (decide (n≤p)) (.done (EV.tup [(EV.v (Value.slice Option.none 0 0)),(EV.v (Value.int IntKind.i64 (7)))]) [] 0) (bc (a) (.at (sA (n) (w) (p) ((1:Int)) ([]) (false) (IntKind.wrap IntKind.i64 (p+(1:Int))))) (.at (sA (n) (w) (p) ((-1:Int)) ([]) (false) (IntKind.wrap IntKind.i64 (p+(1:Int))))))))):=by kernel_rfl
theorem a_t (n:Int) (w:List Int) (p s:Int) (q:List Int) (nn:Bool) (k:Int):RUN (stOf (sA n w p s q nn k))=(bc (decide (k < n)) (bc (bc (Nat.beq (List.length q) (List.length q)) (bc (Nat.ble (List.length q+List.length (List.map (fun r=>U.int (List.headD r (U.i (0:Int)))) [[U.i (IntKind.wrap IntKind.i64 (s * k))]])) (65536:Nat)) (bc nn true (bc nn false true)) false) false) (.at (sA (n) (w) (p) (s) (q ++ List.map (fun r=>U.int (List.headD r (U.i (0:Int)))) [[U.i (IntKind.wrap IntKind.i64 (s * k))]]) (bc nn true (Nat.blt (0:Nat) (List.length (List.map (fun r=>U.int (List.headD r (U.i (0:Int)))) [[U.i (IntKind.wrap IntKind.i64 (s * k))]])))) (IntKind.wrap IntKind.i64 (k+(1:Int))))) .bad) (bc (decide (OthOk w p)) (bc (bc (Nat.beq (List.length q) (List.length q)) (bc (Nat.ble (List.length q+List.length (Prod.fst (oth (Int.toNat p) w))) (65536:Nat)) (bc nn true (bc nn false true)) false) false) (.at (sB (p) (s) (q ++ Prod.fst (oth (Int.toNat p) w)) (bc nn true (Nat.blt (0:Nat) (List.length (Prod.fst (oth (Int.toNat p) w))))) (bc (chk n w != (0:Int)) [] (prmL (Int.toNat n) w)) (IntKind.wrap IntKind.i64 (n - (1:Int))))) .bad) .bad)):=by kernel_rfl
theorem b_t (p s:Int) (q:List Int) (nn:Bool) (l:List Int) (k:Int):RUN (stOf (sB p s q nn l k))=(bc (bc (bc (decide ((0:Int)≤p)) (Nat.blt (Int.toNat p) (List.length l)) false) true false) (bc (bc (Nat.blt (Int.toNat p) (List.length l)) true false) (bc (decide (List.getD l (Int.toNat p) (0:Int) < k)) (bc (bc (Nat.beq (List.length q) (List.length q)) (bc (Nat.ble (List.length q+List.length (List.map (fun r=>U.int (List.headD r (U.i (0:Int)))) [[U.i (IntKind.wrap IntKind.i64 (IntKind.wrap IntKind.i64 ((0:Int) - s) * k))]])) (65536:Nat)) (bc nn true (bc nn false true)) false) false) (.at (sB (p) (s) (q ++ List.map (fun r=>U.int (List.headD r (U.i (0:Int)))) [[U.i (IntKind.wrap IntKind.i64 (IntKind.wrap IntKind.i64 ((0:Int) - s) * k))]]) (bc nn true (Nat.blt (0:Nat) (List.length (List.map (fun r=>U.int (List.headD r (U.i (0:Int)))) [[U.i (IntKind.wrap IntKind.i64 (IntKind.wrap IntKind.i64 ((0:Int) - s) * k))]])))) (l) (IntKind.wrap IntKind.i64 (k - (1:Int))))) .bad) (bc (decide ((400:Int) < Int.ofNat (List.length q))) (.done (EV.tup [(EV.v (Value.slice Option.none 0 0)),(EV.v (Value.int IntKind.i64 (3)))]) [] 0) (bc (bc (Nat.beq (List.length q) (List.length q)) true false) (.done (EV.tup [(EV.lst (SyC.ints IntKind.i64 (q))),(EV.v (Value.int IntKind.i64 (0)))]) [] 0) .bad))) .bad) .bad):=by kernel_rfl
open PLay in
theorem stepA {w q:List Int} {p s:Int} {nn:Bool} {k:Nat} (hs:s=1∨s = -1) (hk:k < n) (hn:n≤12) (hq:q.length≤20):RUN (stOf (sA n w p s q nn k)) = .at (sA n w p s (q ++ [s * (k:Int)]) true (k+1:Nat)):=by
 rw [a_t,dt (show (k:Int) < n by omega),bc_t,m3,wsg hs (by omega) (by omega),hb,hb2];simp (disch:=omega) only [Nat.add_eq,eqSy_self,eqN_self,bc_same,List.length_cons,ofn,wrap_in,dt,df,bltD,bltN,ble_of,bleN,beqD,bc_t,bc_f,nn_ok,Nat.zero_add,to_nat,Int.zero_add,Int.sub_zero,Int.sub_self,Int.cast_ofNat_Int,Int.natCast_zero,Int.toNat_zero,List.take_zero,List.nil_append,List.length_append,List.length_nil];rfl
open PLay in
theorem midA {w q:List Int} {p s:Int} {nn:Bool} {k:Nat} (hk:n≤k) (hw:w.length≤2000) (hn1:1≤n) (hn:n≤12) (hq:q.length≤20) (hp:OthOk w p) (z:chk n w=0):RUN (stOf (sA n w p s q nn k)) = .at (sB p s (q ++ (oth p.toNat w).1) (bc nn true (Nat.blt 0 (oth p.toNat w).1.length)) (prmL n w) ((n:Int) - 1)):=by
 have h1:=oth_len w p.toNat;rw [a_t,df (show ¬ (k:Int) < n by omega),bc_f,dt hp,bc_t,hb2,wrap_in ((n:Int) - 1) (by omega) (by omega),z,show ((0:Int) != 0)=false from rfl]
 simp (disch:=omega) only [Nat.add_eq,eqSy_self,eqN_self,bc_same,List.length_cons,ofn,wrap_in,dt,df,bltD,bltN,ble_of,bleN,beqD,bc_t,bc_f,nn_ok,Nat.zero_add,to_nat,Int.zero_add,Int.sub_zero,Int.sub_self,Int.cast_ofNat_Int,Int.natCast_zero,Int.toNat_zero,List.take_zero,List.nil_append,List.length_append,List.length_nil]
theorem prm_get {w:List Int} {p:Nat} (hp:p < n):(prmL n w).getD p 0=((gW w p:Nat):Int):=by
 unfold prmL;rw [List.getD_eq_getElem?_getD,List.getElem?_map,List.getElem?_range hp];rfl
open PLay in
theorem stepB {w q:List Int} {s:Int} {nn:Bool} {p k:Nat} (hs:s=1∨s = -1) (hp:p < n) (hk:gW w p < k) (hk2:k≤20) (hq:q.length≤3000):RUN (stOf (sB p s q nn (prmL n w) k)) = .at (sB p s (q ++ [-s * (k:Int)]) true (prmL n w) ((k:Int) - 1)):=by
 have e0:Int.toNat (p:Int)=p:=rfl;rw [b_t,e0,prm_get hp,prmL_len,dt (show ((gW w p:Nat):Int) < (k:Int) by omega),m3,wsn hs,wsg (neg_sgn hs) (by omega) (by omega),hb,hb2,wrap_in ((k:Int) - 1) (by omega) (by omega)];simp (disch:=omega) only [Nat.add_eq,eqSy_self,eqN_self,bc_same,List.length_cons,ofn,wrap_in,dt,df,bltD,bltN,ble_of,bleN,beqD,bc_t,bc_f,nn_ok,Nat.zero_add,to_nat,Int.zero_add,Int.sub_zero,Int.sub_self,Int.cast_ofNat_Int,Int.natCast_zero,Int.toNat_zero,List.take_zero,List.nil_append,List.length_append,List.length_nil]
theorem lastB {w q:List Int} {s:Int} {nn:Bool} {p:Nat} {k:Int} (hp:p < n) (hn:n≤12) (hk:k≤(gW w p:Nat)):RUN (stOf (sB p s q nn (prmL n w) k))=bc (decide (400 < (q.length:Int))) (.done (.tup [.v (.slice none 0 0),iv 3]) [] 0) (.done (.tup [il q,iv 0]) [] 0):=by
 have e0:Int.toNat (p:Int)=p:=rfl;rw [b_t,e0,prm_get hp,prmL_len,df (show ¬ ((gW w p:Nat):Int) < k by omega)];simp (disch:=omega) only [Nat.add_eq,eqSy_self,eqN_self,bc_same,List.length_cons,ofn,wrap_in,dt,df,bltD,bltN,ble_of,bleN,beqD,bc_t,bc_f,nn_ok,Nat.zero_add,to_nat,Int.zero_add,Int.sub_zero,Int.sub_self,Int.cast_ofNat_Int,Int.natCast_zero,Int.toNat_zero,List.take_zero,List.nil_append,List.length_append,List.length_nil]
theorem loopB {w:List Int} {s:Int} (hs:s=1∨s = -1) {p:Nat} (hp:p < n) (hn:n≤12):∀ (d:Nat) (q:List Int) (nn:Bool),gW w p+d≤20→q.length+d≤2900→(nn=true∨q=[])→EndZ 55 RDpp.ct false (stOf (sB p s q nn (prmL n w) ((gW w p:Nat)+d))) (resL (bc (decide (400 < (q ++ dnW (-s) (gW w p) d).length)) 3 0) (q ++ dnW (-s) (gW w p) d)) [] 0
 | 0,q,nn,hd,hq,hnn=>by
  rw [show dnW (-s) (gW w p) 0=[] from rfl,List.append_nil]
  have h:=lastB (s:=s) (q:=q) (nn:=nn) (w:=w) (p:=p) (k:=((gW w p:Nat):Int)+(0:Nat)) hp hn (by omega)
  by_cases c:400 < q.length
  ·rw [dt (show (400:Int) < (q.length:Int) by omega),bc_t] at h;rw [dt c,bc_t];exact (EndZ.done h).weak (resL_err _ (by decide))
  ·rw [df (show ¬ (400:Int) < (q.length:Int) by omega),bc_f] at h;rw [df c,bc_f];exact .done h
 | d+1,q,nn,hd,hq,hnn=>by
  have h:=stepB (s:=s) (q:=q) (nn:=nn) (w:=w) (p:=p) (k:=gW w p+(d+1)) hs hp (by omega) (by omega) (by omega);rw [show (((gW w p+(d+1):Nat):Int) - 1)=((gW w p:Nat):Int)+(d:Nat) by omega] at h;have e:q ++ dnW (-s) (gW w p) (d+1)=(q ++ [-s * ((gW w p+(d+1):Nat):Int)]) ++ dnW (-s) (gW w p) d:=by
   rw [List.append_assoc];rfl
  rw [e];exact .at RDpp.ct_ok h (loopB hs hp hn d _ true (by omega) (by rw [List.length_append,List.length_singleton];omega) (.inl rfl))
open PLay in
theorem loopA {w:List Int} {p:Nat} {s:Int} (hs:s=1∨s = -1) (hn:n≤12) (hw:w.length≤2000) (hv:Vld n w) (hp:p < n) (hpo:OthOk w p) (z:chk n w=0):∀ (d a:Nat) (q:List Int) (nn:Bool),a+1+d=n→q.length≤a→(nn=true∨q=[])→EndZ 55 RDpp.ct false (stOf (sA n w p s q nn (a+1:Nat))) (resL (bc (decide (400 < (q ++ upW s a d ++ (oth p w).1 ++ dnW (-s) (oth p w).2 (n - 1 - (oth p w).2)).length)) 3 0) (q ++ upW s a d ++ (oth p w).1 ++ dnW (-s) (oth p w).2 (n - 1 - (oth p w).2))) [] 0
 | 0,a,q,nn,hd,hq,hnn=>by
  have h:=midA (s:=s) (q:=q) (nn:=nn) (k:=a+1) (by omega) hw (by omega) hn (by omega) hpo z;have h1:=gW_lt hv hp;rw [show ((p:Int)).toNat=p from rfl,show (n:Int) - 1=((gW w p:Nat):Int)+((n - 1 - gW w p:Nat):Int) by omega] at h
  rw [show upW s a 0=[] from rfl,List.append_nil,oth_at]
  have h3:=oth_len w p;exact .at RDpp.ct_ok h (loopB hs hp hn _ _ _ (by omega) (by rw [List.length_append];omega) (hb3 hnn _))
 | d+1,a,q,nn,hd,hq,hnn=>by
  have h:=stepA (w:=w) (p:=p) (s:=s) (q:=q) (nn:=nn) (k:=a+1) hs (show a+1 < n by omega) hn (by omega);have e:q ++ upW s a (d+1)=(q ++ [s * ((a+1:Nat):Int)]) ++ upW s (a+1) d:=by
   rw [List.append_assoc];rfl
  rw [e];exact .at RDpp.ct_ok h (loopA hs hn hw hv hp hpo z d (a+1) _ true (by omega) (by rw [List.length_append,List.length_singleton];omega) (.inl rfl))
theorem ends (n:Int) (w:List Int) (p:Int) (a:Bool):EndZ 55 RDpp.ct false (st0 55 [iv n,il w,iv p,bv a]) (resL (PLay.layE n w p a) (layW n.toNat w p.toNat (PLay.sgn a))) [] 0:=by
 have h:=in_t n w p a
 by_cases z:chk n w=0
 ·rw [z,show ((0:Int) != 0)=false from rfl,bc_f] at h
  have e1:PLay.layE n w p a=bc (decide (p < 0)) 7 (bc (decide (n≤p)) 7 (bc (decide (400 < (layW n.toNat w p.toNat (PLay.sgn a)).length)) 3 0)):=by unfold PLay.layE;rw [z];rfl
  by_cases h1:p < 0
  ·rw [dt h1,bc_t] at h e1;rw [e1];exact (EndZ.done h).weak (resL_err _ (by decide))
  rw [df h1,bc_f] at h e1
  by_cases h2:n≤p
  ·rw [dt h2,bc_t] at h e1;rw [e1];exact (EndZ.done h).weak (resL_err _ (by decide))
  rw [df h2,bc_f] at h e1;have ho:=PDrp.othOk z h1 h2;obtain ⟨⟨w0,w1,w2,w3⟩,_⟩:=chk_wok z;obtain ⟨n,rfl⟩:=Int.eq_ofNat_of_zero_le (show 0≤n by omega);obtain ⟨p,rfl⟩:=Int.eq_ofNat_of_zero_le (show 0≤p by omega);have e2:IntKind.i64.wrap ((p:Int)+1)=((p+1:Nat):Int):=by rw [wrap_in _ (by omega) (by omega)];omega
  have e3:bc a (.at (sA n w p 1 [] false ((p+1:Nat):Int))) (.at (sA n w p (-1) [] false ((p+1:Nat):Int)))=ZF.at (sA n w p (PLay.sgn a) [] false ((p+1:Nat):Int)):=by cases a <;> rfl
  rw [e2] at h;have h5:=h.trans e3;rw [e1];have h6:=loopA (PLay.sgn_ok a) (by omega) w2 w3 (by omega) ho z (n - 1 - p) p [] false (by omega) (Nat.zero_le _) (.inr rfl);rw [List.nil_append] at h6;exact .at RDpp.ct_ok h5 h6
 ·have e1:PLay.layE n w p a=chk n w:=by unfold PLay.layE;rw [show (chk n w != 0)=true by simp [z],bc_t]
  rw [show (chk n w != 0)=true by simp [z],bc_t] at h;rw [e1];exact (EndZ.done h).weak (resL_err _ z)
end RLay
noncomputable def spRLay:ZCT:=fun ax=>match ax with
 | [.v (.int .i64 n),.lst (.ints .i64 w),.v (.int .i64 p),.v (.bool a)]=>some ⟨decide (True),resL (PLay.layE n w p a) (layW n.toNat w p.toNat (PLay.sgn a)),[],0⟩
 | _=>none
theorem spRLay_ok:ZCtOk Try.prog 55 spRLay:=fun γ w us ax r hs hc hax hN hfz=>by
 unfold spRLay at hs;split at hs
 case h_2=>cases hs
 rename_i n w p a;obtain ⟨rfl⟩:=Option.some.inj hs;have hc_0:decide (True)=true:=hc;have hc:=of_decide_eq_true hc_0;exact EndZ.calls (RLay.ends n w p a) RDpp.ct_ok (by kernel_rfl) hax hN hfz
end Go.Proofs.Ytooimphimnagaaa.Ev
namespace Go.Proofs.Ytooimphimnagaaa.Ev
open Go.Proofs
variable {n:Nat}
noncomputable def spNo2:ZCT:=fun _=>none
theorem spNo2_ok:ZCtOk Try.prog 2 spNo2:=fun _ _ _ _ _ h=>by cases h
namespace RLnk
noncomputable def ct:Tr ZCC:=RPrm.ct.put 2 (some (dC spNo2))
theorem ct_ok:ZCtsOk Try.prog ct:=RPrm.ct_ok.add rfl spNo2_ok
noncomputable def RUN (s:ES):ZF:=RZs 51 ct [(atS 0 51 6,[[(0,none),(1,none),(7,none),(8,none)]]),(atS 1 87 3,[[(0,none),(3,some (1,3,.ints .i64 [])),(4,none)],[(1,none),(7,none)]]),(atS 0 51 11,[[(1,none),(7,none),(9,none),(10,none)]]),(atS 0 51 14,[[(1,none),(7,none),(9,none),(10,none),(11,none)]]),(atS 0 51 15,[[(1,none),(7,none),(9,none),(10,none),(11,none),(12,none),(13,none)]]),(atS 0 51 16,[[(1,none),(7,none),(9,none),(10,none),(11,none),(12,none),(13,none),(14,none)]]),(atS 0 51 17,[[(1,none),(7,none),(9,none),(10,none),(11,none),(12,none),(13,none),(14,none)]])] [] false s

noncomputable def sA (n:Int) (w:List Int) (i:Int):NS:=⟨[⟨51,99,[(0,(EV.v (Value.int IntKind.i64 (n)))),(1,(EV.lst (SyC.ints IntKind.i64 (w)))),(7,(EV.v (Value.slice Option.none 0 0))),(8,iv i)],[.it (.code (nav [1,1,1,1,0,1,0,0,0] (bodyOf Try.f51))),.it (.code (nav [1,1,1,1,0,1,0,0,1] (bodyOf Try.f51))),.it (.inLoop (nav [1,1,1,1,0,1,0,0] (bodyOf Try.f51))),.it (.inBlock 0),.it (.code (nav [1,1,1,1,1] (bodyOf Try.f51)))],[],Option.none⟩],[],0⟩
noncomputable def sB (n:Int) (w:List Int) (m:Nat) (rows:List (List U)) (v:Nat) (i:Int):NS:=⟨[⟨51,99,[(0,iv n),(1,(EV.lst (SyC.ints IntKind.i64 (w)))),(7,EV.slO 0 1 m true),(8,iv i)],[.it (.code (nav [1,1,1,1,0,1,0,0,0] (bodyOf Try.f51))),.it (.code (nav [1,1,1,1,0,1,0,0,1] (bodyOf Try.f51))),.it (.inLoop (nav [1,1,1,1,0,1,0,0] (bodyOf Try.f51))),.it (.inBlock 0),.it (.code (nav [1,1,1,1,1] (bodyOf Try.f51)))],[],Option.none⟩],[(0,EK.nest 0 (22,[3]) [.list [.int .i64]] rows v [] true)],1⟩
noncomputable def sL (n:Int) (w q:List Int) (nq:Bool) (m:Nat) (rows:List (List U)) (v:Nat) (i:Int):NS:=⟨[⟨87,15,[(0,iv n),(3,EV.slO 0 1 q.length nq),(4,iv i)],[.it (.code (nav [1,1,0,1,0,0,0] (bodyOf Try.f87))),.it (.code (nav [1,1,0,1,0,0,1] (bodyOf Try.f87))),.it (.inLoop (nav [1,1,0,1,0,0] (bodyOf Try.f87))),.it (.inBlock 0),.it (.code (nav [1,1,1] (bodyOf Try.f87)))],[],Option.none⟩,⟨51,99,[(1,(EV.lst (SyC.ints IntKind.i64 (w)))),(7,EV.slO 1 1 m true)],[.ops (opsOf (nav [1,1,1,1,1,0] (bodyOf Try.f51))) ((opsOf (nav [1,1,1,1,1,0] (bodyOf Try.f51))).toList.drop 1),.it (.code (nav [1,1,1,1,1,1] (bodyOf Try.f51)))],[],Option.none⟩],[(0,EK.seq 3 (.ints .i64 q) nq),(1,EK.nest 1 (22,[3]) [.list [.int .i64]] rows v [] true)],2⟩
noncomputable def sC (w:List Int) (m:Nat) (rows:List (List U)) (v:Nat) (q:List Int) (k:Nat) (nq:Bool) (i:Int):NS:=⟨[⟨51,99,[(1,(EV.lst (SyC.ints IntKind.i64 (w)))),(7,EV.slO 0 1 m true),(9,EV.slO 1 1 k nq),(10,iv i)],[.it (.code (nav [1,1,1,1,1,1,0,1,0,0,0] (bodyOf Try.f51))),.it (.code (nav [1,1,1,1,1,1,0,1,0,0,1] (bodyOf Try.f51))),.it (.inLoop (nav [1,1,1,1,1,1,0,1,0,0] (bodyOf Try.f51))),.it (.inBlock 2),.it (.code (nav [1,1,1,1,1,1,1] (bodyOf Try.f51)))],[],Option.none⟩],[(0,EK.nest 0 (22,[3]) [.list [.int .i64]] rows v [] true),(1,EK.seq 3 (.ints .i64 q) nq)],2⟩
noncomputable def sD (w:List Int) (m:Nat) (rows:List (List U)) (v:Nat) (q:List Int) (k:Nat) (nq:Bool) (i x:Int):NS:=⟨[⟨51,99,[(1,il w),(7,EV.slO 0 1 m true),(9,EV.slO 1 1 k nq),(10,iv i),(11,iv x)],[.it (.code (nav [1,1,1,1,1,1,0,1,0,0,1,0,0,1] (bodyOf Try.f51))),.it (.inBlock 3),.it (.code (nav [1,1,1,1,1,1,0,1,0,0,1,1] (bodyOf Try.f51))),.it (.inLoop (nav [1,1,1,1,1,1,0,1,0,0] (bodyOf Try.f51))),.it (.inBlock 2),.it (.code (nav [1,1,1,1,1,1,1] (bodyOf Try.f51)))],[],Option.none⟩],[(0,EK.nest 0 (22,[3]) [.list [.int .i64]] rows v [] true),(1,EK.seq 3 (.ints .i64 q) nq)],2⟩
noncomputable def sE (w:List Int) (m:Nat) (rows:List (List U)) (v:Nat) (q:List Int) (k:Nat) (nq:Bool) (i x a b:Int):NS:=⟨[⟨51,99,[(1,il w),(7,EV.slO 0 1 m true),(9,EV.slO 1 1 k nq),(10,iv i),(11,iv x),(12,iv a),(13,iv b)],[.it (.code (nav [1,1,1,1,1,1,0,1,0,0,1,0,0,1,1] (bodyOf Try.f51))),.it (.inBlock 3),.it (.code (nav [1,1,1,1,1,1,0,1,0,0,1,1] (bodyOf Try.f51))),.it (.inLoop (nav [1,1,1,1,1,1,0,1,0,0] (bodyOf Try.f51))),.it (.inBlock 2),.it (.code (nav [1,1,1,1,1,1,1] (bodyOf Try.f51)))],[],Option.none⟩],[(0,EK.nest 0 (22,[3]) [.list [.int .i64]] rows v [] true),(1,EK.seq 3 (.ints .i64 q) nq)],2⟩
noncomputable def sF (w:List Int) (m:Nat) (rows:List (List U)) (v:Nat) (q:List Int) (k:Nat) (nq:Bool) (i x a b s:Int):NS:=⟨[⟨51,99,[(1,il w),(7,EV.slO 0 1 m true),(9,EV.slO 1 1 k nq),(10,iv i),(11,iv x),(12,iv a),(13,iv b),(14,iv s)],[.it (.code (nav [1,1,1,1,1,1,0,1,0,0,1,0,0,1,1,1] (bodyOf Try.f51))),.it (.inBlock 3),.it (.code (nav [1,1,1,1,1,1,0,1,0,0,1,1] (bodyOf Try.f51))),.it (.inLoop (nav [1,1,1,1,1,1,0,1,0,0] (bodyOf Try.f51))),.it (.inBlock 2),.it (.code (nav [1,1,1,1,1,1,1] (bodyOf Try.f51)))],[],Option.none⟩],[(0,EK.nest 0 (22,[3]) [.list [.int .i64]] rows v [] true),(1,EK.seq 3 (.ints .i64 q) nq)],2⟩
noncomputable def sG (w:List Int) (m:Nat) (rows:List (List U)) (v:Nat) (q:List Int) (k:Nat) (nq:Bool) (i x a b s:Int):NS:=⟨[⟨51,99,[(1,il w),(7,EV.slO 0 1 m true),(9,EV.slO 1 1 k nq),(10,iv i),(11,iv x),(12,iv a),(13,iv b),(14,iv s)],[.it (.code (nav [1,1,1,1,1,1,0,1,0,0,1,0,0,1,1,1,1] (bodyOf Try.f51))),.it (.inBlock 3),.it (.code (nav [1,1,1,1,1,1,0,1,0,0,1,1] (bodyOf Try.f51))),.it (.inLoop (nav [1,1,1,1,1,1,0,1,0,0] (bodyOf Try.f51))),.it (.inBlock 2),.it (.code (nav [1,1,1,1,1,1,1] (bodyOf Try.f51)))],[],Option.none⟩],[(0,EK.nest 0 (22,[3]) [.list [.int .i64]] rows v [] true),(1,EK.seq 3 (.ints .i64 q) nq)],2⟩
theorem in_t (n:Int) (w:List Int):RUN (st0 51 [iv n,il w])=(bc (chk n w != (0:Int)) (.done (EV.tup [(EV.v (Value.slice Option.none 0 0)),(EV.v (Value.int IntKind.i64 (chk n w)))]) [] 0) (.at (sA (n) (w) ((0:Int))))):=by kernel_rfl
theorem a_t (n:Int) (w:List Int) (i:Int):RUN (stOf (sA n w i))=(bc (decide (i < n)) (bc (bc (decide ((0:Int)≤n)) (bc (decide (n≤n)) (decide (n≤(65536:Int))) false) false) (bc (Nat.beq (List.length (zerosL (Int.toNat n))) (List.length (zerosL (Int.toNat n)))) (.at (sB (n) (w) ((0:Nat)+(1:Nat)) ([[U.l (List.map (fun x=>[U.i x]) (zerosL (Int.toNat n)))]]) ((1:Nat)) (IntKind.wrap IntKind.i64 (i+(1:Int))))) .bad) .bad) (.at ⟨[⟨87,15,[(0,(EV.v (Value.int IntKind.i64 (n)))),(3,(EV.slO 0 1 0 false)),(4,(EV.v (Value.int IntKind.i64 (0))))],[.it (.code (nav [1,1,0,1,0,0,0] (bodyOf Try.f87))),.it (.code (nav [1,1,0,1,0,0,1] (bodyOf Try.f87))),.it (.inLoop (nav [1,1,0,1,0,0] (bodyOf Try.f87))),.it (.inBlock 0),.it (.code (nav [1,1,1] (bodyOf Try.f87)))],[],Option.none⟩,⟨51,99,[(1,(EV.lst (SyC.ints IntKind.i64 (w)))),(7,(EV.v (Value.slice Option.none 0 0)))],[.ops (opsOf (nav [1,1,1,1,1,0] (bodyOf Try.f51))) ((opsOf (nav [1,1,1,1,1,0] (bodyOf Try.f51))).toList.drop 1),.it (.code (nav [1,1,1,1,1,1] (bodyOf Try.f51)))],[],Option.none⟩],[(0,(EK.seq 3 (SyC.ints IntKind.i64 []) false))],1⟩)):=by kernel_rfl
theorem b_t (n:Int) (w:List Int) (m:Nat) (rows:List (List U)) (v:Nat) (i:Int):RUN (stOf (sB n w m rows v i))=(bc (decide (i < n)) (bc (bc (decide ((0:Int)≤n)) (bc (decide (n≤n)) (decide (n≤(65536:Int))) false) false) (bc (bc (Nat.beq (List.length (zerosL (Int.toNat n))) (List.length (zerosL (Int.toNat n)))) (bc (Nat.beq m (List.length rows)) (bc (Nat.ble (m+(1:Nat)) (65536:Nat)) true false) false) false) (.at (sB (n) (w) (m+(1:Nat)) (rows ++ [[U.l (List.map (fun x=>[U.i x]) (zerosL (Int.toNat n)))]]) ((1:Nat)) (IntKind.wrap IntKind.i64 (i+(1:Int))))) .bad) .bad) (.at (sL (n) (w) ([]) (false) (m) (rows) (v) ((0:Int))))):=by kernel_rfl
theorem l_t (n:Int) (w q:List Int) (nq:Bool) (m:Nat) (rows:List (List U)) (v:Nat) (i:Int):RUN (stOf (sL n w q nq m rows v i))=(bc (decide (i < n)) (bc (bc (Nat.beq (List.length q) (List.length q)) (bc (Nat.ble (List.length q+List.length (List.map (fun r=>U.int (List.headD r (U.i (0:Int)))) [[U.i i]])) (65536:Nat)) (bc nq true (bc nq false true)) false) false) (.at (sL (n) (w) (q ++ List.map (fun r=>U.int (List.headD r (U.i (0:Int)))) [[U.i i]]) (bc nq true (Nat.blt (0:Nat) (List.length (List.map (fun r=>U.int (List.headD r (U.i (0:Int)))) [[U.i i]])))) (m) (rows) (v) (IntKind.wrap IntKind.i64 (i+(1:Int))))) .bad) (.at (sC (w) (m) (rows) (v) (q) (List.length q) (nq) ((0:Int))))):=by kernel_rfl
theorem c_t (w:List Int) (m:Nat) (rows:List (List U)) (v:Nat) (q:List Int) (k:Nat) (nq:Bool) (i:Int):RUN (stOf (sC w m rows v q k nq i))=(bc (decide (i < Int.ofNat (List.length w))) (bc (bc (bc (decide ((0:Int)≤i)) (Nat.blt (Int.toNat i) (List.length w)) false) true false) (bc (bc (Nat.blt (Int.toNat i) (List.length w)) true false) (bc (bc (decide ((-1000:Int)≤List.getD w (Int.toNat i) (0:Int)∧List.getD w (Int.toNat i) (0:Int)≤(1000:Int))) true false) (.at (sD (w) (m) (rows) (v) (q) (k) (nq) (i) ((Nat.cast (Int.natAbs (List.getD w (Int.toNat i) (0:Int))):Int)))) .bad) .bad) .bad) (bc (bc (Nat.beq m (List.length rows)) true false) (.done (EV.tup [(EV.lst (SyC.recs [(Sh.list [(Sh.int IntKind.i64)])] (rows))),(EV.v (Value.int IntKind.i64 (0)))]) [] 0) .bad)):=by kernel_rfl
theorem d_t (w:List Int) (m:Nat) (rows:List (List U)) (v:Nat) (q:List Int) (k:Nat) (nq:Bool) (i x:Int):RUN (stOf (sD w m rows v q k nq i x))=(bc (bc (bc (bc (bc (decide ((0:Int)≤IntKind.wrap IntKind.i64 (x - (1:Int)))) (Nat.blt (Int.toNat (IntKind.wrap IntKind.i64 (x - (1:Int)))) k) false) true false) (bc (bc (Nat.blt (Int.toNat (IntKind.wrap IntKind.i64 (x - (1:Int)))) (List.length q)) true false) (bc (bc (bc (decide ((0:Int)≤x)) (Nat.blt (Int.toNat x) k) false) true false) (bc (bc (Nat.blt (Int.toNat x) (List.length q)) true false) true false) false) false) false) true false) (.at (sE (w) (m) (rows) (v) (q) (k) (nq) (i) (x) (List.getD q (Int.toNat (IntKind.wrap IntKind.i64 (x - (1:Int)))) (0:Int)) (List.getD q (Int.toNat x) (0:Int)))) .bad):=by kernel_rfl
theorem e_t (w:List Int) (m:Nat) (rows:List (List U)) (v:Nat) (q:List Int) (k:Nat) (nq:Bool) (i x a b:Int):RUN (stOf (sE w m rows v q k nq i x a b))=(bc (bc (bc (decide ((0:Int)≤i)) (Nat.blt (Int.toNat i) (List.length w)) false) true false) (bc (bc (Nat.blt (Int.toNat i) (List.length w)) true false) (bc (bc (bnot (x == (0:Int))) true false) (.at (sF (w) (m) (rows) (v) (q) (k) (nq) (i) (x) (a) (b) (IntKind.wrap IntKind.i64 (Int.tdiv (List.getD w (Int.toNat i) (0:Int)) x)))) .bad) .bad) .bad):=by kernel_rfl
theorem f_t (w:List Int) (m:Nat) (rows:List (List U)) (v:Nat) (q:List Int) (k:Nat) (nq:Bool) (i x a b s:Int):RUN (stOf (sF w m rows v q k nq i x a b s))=(bc (bc (bc (bc (bc (decide ((0:Int)≤a)) (Nat.blt (Int.toNat a) m) false) true false) (bc (bc (bc (Nat.blt (Int.toNat a) (List.length rows)) true false) true false) (bc (bc (bc (decide ((0:Int)≤a)) (Nat.blt (Int.toNat a) m) false) true false) (bc (bc (bc (Nat.blt (Int.toNat a) (List.length rows)) true false) true false) (bc (bc (bc (decide ((0:Int)≤b)) (Nat.blt (Int.toNat b) (List.length (U.list (List.getD (List.getD rows (Int.toNat a) []) (0:Nat) (U.i (0:Int)))))) false) true false) (bc (bc (bc (Nat.beq v v) (bc (Nat.blt (Int.toNat a) (List.length rows)) (Nat.blt (Int.toNat b) (List.length (U.list (List.getD (List.getD rows (Int.toNat a) []) (0:Nat) (U.i (0:Int)))))) false) false) true false) (bc (bc (bc (decide ((0:Int)≤b)) (Nat.blt (Int.toNat b) (List.length (U.list (List.getD (List.getD rows (Int.toNat a) []) (0:Nat) (U.i (0:Int)))))) false) true false) (bc (bc (Nat.beq v v) (bc (Nat.blt (Int.toNat a) (List.length rows)) (Nat.blt (Int.toNat b) (List.length (U.list (List.getD (List.getD rows (Int.toNat a) []) (0:Nat) (U.i (0:Int)))))) false) false) true false) false) false) false) false) false) false) false) true false) (.at (sG (w) (m) (List.set rows (Int.toNat a) (rset (0:Nat) (U.l (List.map (fun x=>[U.i x]) (List.set (List.map (fun r=>U.int (List.headD r (U.i (0:Int)))) (U.list (List.getD (List.getD rows (Int.toNat a) []) (0:Nat) (U.i (0:Int))))) (Int.toNat b) (IntKind.wrap IntKind.i64 (U.int (List.getD (List.getD (U.list (List.getD (List.getD rows (Int.toNat a) []) (0:Nat) (U.i (0:Int)))) (Int.toNat b) []) (0:Nat) (U.i (0:Int)))+s))))) (List.getD rows (Int.toNat a) []))) (v) (q) (k) (nq) (i) (x) (a) (b) (s))) .bad):=by kernel_rfl
theorem g_t (w:List Int) (m:Nat) (rows:List (List U)) (v:Nat) (q:List Int) (k:Nat) (nq:Bool) (i x a b s:Int):RUN (stOf (sG w m rows v q k nq i x a b s))=(bc (bc (bc (bc (bc (decide ((0:Int)≤b)) (Nat.blt (Int.toNat b) m) false) true false) (bc (bc (bc (Nat.blt (Int.toNat b) (List.length rows)) true false) true false) (bc (bc (bc (decide ((0:Int)≤b)) (Nat.blt (Int.toNat b) m) false) true false) (bc (bc (bc (Nat.blt (Int.toNat b) (List.length rows)) true false) true false) (bc (bc (bc (decide ((0:Int)≤a)) (Nat.blt (Int.toNat a) (List.length (U.list (List.getD (List.getD rows (Int.toNat b) []) (0:Nat) (U.i (0:Int)))))) false) true false) (bc (bc (bc (Nat.beq v v) (bc (Nat.blt (Int.toNat b) (List.length rows)) (Nat.blt (Int.toNat a) (List.length (U.list (List.getD (List.getD rows (Int.toNat b) []) (0:Nat) (U.i (0:Int)))))) false) false) true false) (bc (bc (bc (decide ((0:Int)≤a)) (Nat.blt (Int.toNat a) (List.length (U.list (List.getD (List.getD rows (Int.toNat b) []) (0:Nat) (U.i (0:Int)))))) false) true false) (bc (bc (Nat.beq v v) (bc (Nat.blt (Int.toNat b) (List.length rows)) (Nat.blt (Int.toNat a) (List.length (U.list (List.getD (List.getD rows (Int.toNat b) []) (0:Nat) (U.i (0:Int)))))) false) false) true false) false) false) false) false) false) false) false) true false) (bc (bc (bc (decide ((0:Int)≤IntKind.wrap IntKind.i64 (x - (1:Int)))) (Nat.blt (Int.toNat (IntKind.wrap IntKind.i64 (x - (1:Int)))) k) false) true false) (bc (Nat.blt (Int.toNat (IntKind.wrap IntKind.i64 (x - (1:Int)))) (List.length q)) (bc (bc (bc (decide ((0:Int)≤x)) (Nat.blt (Int.toNat x) k) false) true false) (bc (Nat.blt (Int.toNat x) (List.length (List.set q (Int.toNat (IntKind.wrap IntKind.i64 (x - (1:Int)))) b))) (.at (sC (w) (m) (List.set rows (Int.toNat b) (rset (0:Nat) (U.l (List.map (fun x=>[U.i x]) (List.set (List.map (fun r=>U.int (List.headD r (U.i (0:Int)))) (U.list (List.getD (List.getD rows (Int.toNat b) []) (0:Nat) (U.i (0:Int))))) (Int.toNat a) (IntKind.wrap IntKind.i64 (U.int (List.getD (List.getD (U.list (List.getD (List.getD rows (Int.toNat b) []) (0:Nat) (U.i (0:Int)))) (Int.toNat a) []) (0:Nat) (U.i (0:Int)))+s))))) (List.getD rows (Int.toNat b) []))) (v) (List.set (List.set q (Int.toNat (IntKind.wrap IntKind.i64 (x - (1:Int)))) b) (Int.toNat x) a) (k) (nq) (IntKind.wrap IntKind.i64 (i+(1:Int))))) .bad) .bad) .bad) .bad) .bad):=by kernel_rfl
theorem stepB {w:List Int} {rows:List (List U)} {v i:Nat} (hi:i < n) (hn:n≤12) (hr:rows.length=i):RUN (stOf (sB n w i rows v i)) = .at (sB n w (i+1) (rows ++ [[U.l (List.map (fun x=>[U.i x]) (zerosL n))]]) 1 (i+1:Nat)):=by
 have e0:Int.toNat (n:Int)=n:=rfl;rw [b_t,e0,zeros_len,hr];simp (disch:=omega) only [Nat.add_eq,eqSy_self,eqN_self,bc_same,List.length_cons,ofn,wrap_in,dt,df,bltD,bltN,ble_of,bleN,beqD,bc_t,bc_f,nn_ok,Nat.zero_add,to_nat,Int.zero_add,Int.sub_zero,Int.sub_self,Int.cast_ofNat_Int,Int.natCast_zero,Int.toNat_zero,List.take_zero,List.nil_append,List.length_append,List.length_nil];rfl
theorem mx_zero (i:Nat):List.replicate i [U.l (List.map (fun x=>[U.i x]) (zerosL i))]=mx i fun _ _=>0:=by
 unfold mx;show _=List.map (fun _=>[U.l (List.map (fun _=>[U.i 0]) (List.range i))]) (List.range i);rw [List.map_const',List.map_const',List.length_range];unfold zerosL;rw [List.map_replicate]
theorem loopB {w:List Int} (hn:n≤12) {z:EV}:∀ (k i v:Nat),i+k=n→(∀ v,EndZ 51 ct false (stOf (sL n w [] false n (mx n fun _ _=>0) v 0)) z [] 0)→EndZ 51 ct false (stOf (sB n w i (List.replicate i [U.l (List.map (fun x=>[U.i x]) (zerosL n))]) v i)) z [] 0
 | 0,i,v,h,hz=>by
  obtain rfl:i=n:=by omega
  rw [mx_zero];have h1:=b_t i w i (mx i fun _ _=>0) v i;rw [df (show ¬ (i:Int) < (i:Int) by omega),bc_f] at h1;exact .at ct_ok h1 (hz v)
 | k+1,i,v,h,hz=>by
  have h1:=stepB (w:=w) (rows:=List.replicate i [U.l (List.map (fun x=>[U.i x]) (zerosL n))]) (v:=v) (i:=i) (by omega) hn (by rw [List.length_replicate]);have e:List.replicate i [U.l (List.map (fun x=>[U.i x]) (zerosL n))] ++ [[U.l (List.map (fun x=>[U.i x]) (zerosL n))]]=List.replicate (i+1) [U.l (List.map (fun x=>[U.i x]) (zerosL n))]:=(List.replicate_succ' (n:=i)).symm;rw [e] at h1;exact .at ct_ok h1 (loopB hn k (i+1) 1 (by omega) hz)
theorem stepL {w:List Int} {nq:Bool} {m:Nat} {rows:List (List U)} {v i:Nat} (hn:n≤100) (hi:i < n):RUN (stOf (sL n w (RLin.rng i) nq m rows v i)) = .at (sL n w (RLin.rng (i+1)) true m rows v (i+1:Nat)):=by
 rw [l_t];have m1:List.map (fun r=>U.int (List.headD r (U.i 0))) [[U.i (i:Int)]]=[(i:Int)]:=rfl;rw [m1,RLin.rng_succ,RLin.rng_len,nn_ok,List.length_singleton];have e1:bc nq true (Nat.blt 0 1)=true:=by cases nq <;> rfl
 simp (disch:=omega) only [Nat.add_eq,eqSy_self,eqN_self,bc_same,List.length_cons,ofn,wrap_in,dt,df,bltD,bltN,ble_of,bleN,beqD,bc_t,bc_f,nn_ok,Nat.zero_add,to_nat,Int.zero_add,Int.sub_zero,Int.sub_self,Int.cast_ofNat_Int,Int.natCast_zero,Int.toNat_zero,List.take_zero,List.nil_append,List.length_append,List.length_nil,e1];rfl
theorem stepC {w:List Int} {rows:List (List U)} {m v i:Nat} {q:List Int} {k:Nat} {nq:Bool} {x:Int} (hi:i < w.length) (hw:w.length≤2000) (hx:w.getD i 0=x) (hb:-1000≤x∧x≤1000):RUN (stOf (sC w m rows v q k nq i)) = .at (sD w m rows v q k nq i (x.natAbs:Nat)):=by
 have e0:((i:Int)).toNat=i:=rfl;rw [c_t,e0,hx,dt hb];simp (disch:=omega) only [Nat.add_eq,eqSy_self,eqN_self,bc_same,List.length_cons,ofn,wrap_in,dt,df,bltD,bltN,ble_of,bleN,beqD,bc_t,bc_f,nn_ok,Nat.zero_add,to_nat,Int.zero_add,Int.sub_zero,Int.sub_self,Int.cast_ofNat_Int,Int.natCast_zero,Int.toNat_zero,List.take_zero,List.nil_append,List.length_append,List.length_nil]
theorem stepD {w:List Int} {rows:List (List U)} {m v:Nat} {nq:Bool} {i:Int} {j:Nat} {p:Pm n} (hn:n≤12) (hj:j+1 < n):RUN (stOf (sD w m rows v (pR p) n nq i (j+1:Nat))) = .at (sE w m rows v (pR p) n nq i (j+1:Nat) (p.f j:Nat) (p.f (j+1):Nat)):=by
 have e2:Int.toNat (j:Int)=j:=rfl;have e3:Int.toNat ((j+1:Nat):Int)=j+1:=rfl;have w1:IntKind.i64.wrap (((j+1:Nat):Int) - 1)=(j:Int):=by rw [wrap_in _ (by omega) (by omega)];omega
 rw [d_t,w1,e2,e3,pR_get p (show j < n by omega),pR_get p hj,pR_len];simp (disch:=omega) only [Nat.add_eq,eqSy_self,eqN_self,bc_same,List.length_cons,ofn,wrap_in,dt,df,bltD,bltN,ble_of,bleN,beqD,bc_t,bc_f,nn_ok,Nat.zero_add,to_nat,Int.zero_add,Int.sub_zero,Int.sub_self,Int.cast_ofNat_Int,Int.natCast_zero,Int.toNat_zero,List.take_zero,List.nil_append,List.length_append,List.length_nil]
theorem stepE {w:List Int} {rows:List (List U)} {m v i:Nat} {q:List Int} {k:Nat} {nq:Bool} {x:Int} {j:Nat} {a b:Int} (hi:i < w.length) (hx:w.getD i 0=x) (hj:x.natAbs=j+1):RUN (stOf (sE w m rows v q k nq i (j+1:Nat) a b)) = .at (sF w m rows v q k nq i (j+1:Nat) a b (sgL x)):=by
 have e0:((i:Int)).toNat=i:=rfl;have hv:IntKind.i64.wrap (Int.tdiv x ((j+1:Nat):Int))=sgL x:=by
  unfold sgL
  by_cases h:x < 0
  ·obtain rfl:x = -((j+1:Nat):Int):=by omega
   rw [Int.neg_tdiv,Int.tdiv_self (by omega),if_pos h];rfl
  ·obtain rfl:x=((j+1:Nat):Int):=by omega
   rw [Int.tdiv_self (by omega),if_neg h];rfl
 have z:bnot ((((j+1:Nat):Int)) == 0)=true:=by
  rw [show ((((j+1:Nat):Int) == 0)=false) by simp;omega];rfl
 rw [e_t,e0,hx,hv,z];simp (disch:=omega) only [Nat.add_eq,eqSy_self,eqN_self,bc_same,List.length_cons,ofn,wrap_in,dt,df,bltD,bltN,ble_of,bleN,beqD,bc_t,bc_f,nn_ok,Nat.zero_add,to_nat,Int.zero_add,Int.sub_zero,Int.sub_self,Int.cast_ofNat_Int,Int.natCast_zero,Int.toNat_zero,List.take_zero,List.nil_append,List.length_append,List.length_nil]
theorem stepF {w:List Int} {f:Nat→Nat→Int} {v:Nat} {q:List Int} {k:Nat} {nq:Bool} {i:Int} {j:Int} {s:Int} {x y:Nat} (hn:n≤12) (hx:x < n) (hy:y < n) (hs:-1≤s∧s≤1) (hf:-3000≤f x y∧f x y≤3000):RUN (stOf (sF w n (mx n f) v q k nq i j x y s)) = .at (sG w n (mx n (upd f x y (f x y+s))) v q k nq i j x y s):=by
 have e0:Int.toNat (x:Int)=x:=rfl;have e1:Int.toNat (y:Int)=y:=rfl;have l1:(U.list (((mx n f).getD x []).getD 0 (U.i 0))).length=n:=by rw [mx_list hx,List.length_map,List.length_range]
 have l2:=mx_len n f;rw [f_t,e0,e1,mx_get hx hy,wrap_in (f x y+s) (by omega) (by omega),mx_set _ hx,l1,l2];simp (disch:=omega) only [Nat.add_eq,eqSy_self,eqN_self,bc_same,List.length_cons,ofn,wrap_in,dt,df,bltD,bltN,ble_of,bleN,beqD,bc_t,bc_f,nn_ok,Nat.zero_add,to_nat,Int.zero_add,Int.sub_zero,Int.sub_self,Int.cast_ofNat_Int,Int.natCast_zero,Int.toNat_zero,List.take_zero,List.nil_append,List.length_append,List.length_nil]
theorem stepG {w:List Int} {f:Nat→Nat→Int} {v:Nat} {q:List Int} {nq:Bool} {s i:Int} {x y j:Nat} (hn:n≤12) (hx:x < n) (hy:y < n) (hs:-1≤s∧s≤1) (hf:-3000≤f y x∧f y x≤3000) (hj:j+1 < n) (hq:q.length=n) (hi:0≤i∧i≤3000):RUN (stOf (sG w n (mx n f) v q n nq i (j+1:Nat) x y s)) = .at (sC w n (mx n (upd f y x (f y x+s))) v ((q.set j y).set (j+1) x) n nq (i+1)):=by
 have e0:Int.toNat (x:Int)=x:=rfl;have e1:Int.toNat (y:Int)=y:=rfl;have e2:Int.toNat (j:Int)=j:=rfl;have e3:Int.toNat ((j+1:Nat):Int)=j+1:=rfl;have l1:(U.list (((mx n f).getD y []).getD 0 (U.i 0))).length=n:=by rw [mx_list hy,List.length_map,List.length_range]
 have l2:=mx_len n f;have l3:(q.set j (y:Int)).length=n:=by rw [List.length_set,hq]
 have w1:IntKind.i64.wrap (((j+1:Nat):Int) - 1)=(j:Int):=by rw [wrap_in _ (by omega) (by omega)];omega
 rw [g_t,e0,e1,mx_get hy hx,wrap_in (f y x+s) (by omega) (by omega),mx_set _ hy,l1,l2,w1,e2,e3,l3,hq];simp (disch:=omega) only [Nat.add_eq,eqSy_self,eqN_self,bc_same,List.length_cons,ofn,wrap_in,dt,df,bltD,bltN,ble_of,bleN,beqD,bc_t,bc_f,nn_ok,Nat.zero_add,to_nat,Int.zero_add,Int.sub_zero,Int.sub_self,Int.cast_ofNat_Int,Int.natCast_zero,Int.toNat_zero,List.take_zero,List.nil_append,List.length_append,List.length_nil]
theorem round {w:List Int} {v i:Nat} {nq:Bool} {x:Int} (hi:i < w.length) (hn:n≤12) (hw:w.length≤2000) (hx:w.getD i 0=x) (hk:0 < x.natAbs∧x.natAbs < n) (hv:Vld n w) {z:EV} (hz:EndZ 51 ct false (stOf (sC w n (mx n (PLnk.lkN (w.take (i+1)))) v (pR (lnP n (w.take (i+1)))) n nq (i+1:Nat))) z [] 0):EndZ 51 ct false (stOf (sC w n (mx n (PLnk.lkN (w.take i))) v (pR (lnP n (w.take i))) n nq i)) z [] 0:=by
 obtain ⟨j,hj⟩:∃ j,x.natAbs=j+1:=⟨x.natAbs - 1,by omega⟩;have hs:-1≤sgL x∧sgL x≤1:=by unfold sgL;split <;> omega
 have hvt:Vld n (w.take i):=hv.sub fun y hy=>List.mem_of_mem_take hy;have hf:(lnP n (w.take i)).f=lnF (w.take i) id:=lnP_f hvt (Pm.one n);have hlt:(w.take i).length≤2000:=by rw [List.length_take];omega
 have hlk:∀ a b,-3000≤PLnk.lkN (w.take i) a b∧PLnk.lkN (w.take i) a b≤3000:=fun a b=>by
  have:=lk_bound (w.take i) id a b;show -3000≤lk (w.take i) id a b∧lk (w.take i) id a b≤3000;omega
 generalize hp:lnP n (w.take i)=p at *;generalize hg:PLnk.lkN (w.take i)=f at *;have x1:=p.lt (show j < n by omega);have x2:=p.lt (show j+1 < n by omega);have hne:p.f j≠p.f (j+1):=fun e=>by have:=p.inj e;omega
 have h1:=stepC (w:=w) (rows:=mx n f) (m:=n) (v:=v) (i:=i) (q:=pR p) (k:=n) (nq:=nq) hi hw hx (by omega);rw [hj] at h1;have h2:=stepD (w:=w) (rows:=mx n f) (m:=n) (v:=v) (nq:=nq) (i:=i) (p:=p) hn (show j+1 < n by omega);have h2b:=stepE (w:=w) (rows:=mx n f) (m:=n) (v:=v) (i:=i) (q:=pR p) (k:=n) (nq:=nq) (a:=(p.f j:Nat)) (b:=(p.f (j+1):Nat)) hi hx hj;have h3:=stepF (w:=w) (f:=f) (v:=v) (q:=pR p) (k:=n) (nq:=nq) (i:=i) (j:=(j+1:Nat)) (s:=sgL x) hn x1 x2 hs (hlk _ _)
 have hyx:upd f (p.f j) (p.f (j+1)) (f (p.f j) (p.f (j+1))+sgL x) (p.f (j+1)) (p.f j)=f (p.f (j+1)) (p.f j):=by
  unfold upd;rw [if_neg fun h=>hne h.2]
 have h4:=stepG (w:=w) (f:=upd f (p.f j) (p.f (j+1)) (f (p.f j) (p.f (j+1))+sgL x)) (v:=v) (q:=pR p) (nq:=nq) (s:=sgL x) (i:=i) (j:=j) hn x1 x2 hs (by rw [hyx];exact hlk _ _) (by omega) (pR_len p) (by omega);rw [hyx] at h4;have g0:((pR p).set j (p.f (j+1):Int)).set (j+1) (p.f j:Int)=pR (lnP n (w.take (i+1))):=by
  rw [List.take_succ_eq_append_getElem hi,lnP_app,← getD_at hi,hx,hp];unfold swP;rw [dif_pos hk,← pR_L p hk];simp only [hj,Nat.add_sub_cancel]
 have g1:mx n (upd (upd f (p.f j) (p.f (j+1)) (f (p.f j) (p.f (j+1))+sgL x)) (p.f (j+1)) (p.f j) (f (p.f (j+1)) (p.f j)+sgL x))=mx n (PLnk.lkN (w.take (i+1))):=by
  refine mx_congr fun a b=>?_;show _=lk (w.take (i+1)) id a b;rw [List.take_succ_eq_append_getElem hi,lk_snoc,← getD_at hi,hx,← hf,hj,Nat.add_sub_cancel];have:lk (w.take i) id a b=f a b:=by rw [← hg]
  rw [this];unfold upd
  by_cases c1:a=p.f (j+1)∧b=p.f j
  ·obtain ⟨rfl,rfl⟩:=c1;rw [if_pos ⟨rfl,rfl⟩,if_pos (.inr ⟨rfl,rfl⟩)]
  ·rw [if_neg c1]
   by_cases c2:a=p.f j∧b=p.f (j+1)
   ·obtain ⟨rfl,rfl⟩:=c2;rw [if_pos ⟨rfl,rfl⟩,if_pos (.inl ⟨rfl,rfl⟩)]
   ·rw [if_neg c2,if_neg fun h=>h.elim c2 c1,Int.add_zero]
 rw [g0,g1] at h4;exact .at ct_ok h1 (.at ct_ok h2 (.at ct_ok h2b (.at ct_ok h3 (.at ct_ok h4 hz))))
theorem last {w:List Int} {f:Nat→Nat→Int} {v:Nat} {q:List Int} {k:Nat} {nq:Bool}:RUN (stOf (sC w n (mx n f) v q k nq w.length)) = .done (.tup [.lst (.recs [.list [.int .i64]] (mx n f)),iv 0]) [] 0:=by
 rw [c_t,df (show ¬ (w.length:Int) < Int.ofNat w.length by rw [ofn];omega),bc_f,mx_len];simp (disch:=omega) only [Nat.add_eq,eqSy_self,eqN_self,bc_same,List.length_cons,ofn,wrap_in,dt,df,bltD,bltN,ble_of,bleN,beqD,bc_t,bc_f,nn_ok,Nat.zero_add,to_nat,Int.zero_add,Int.sub_zero,Int.sub_self,Int.cast_ofNat_Int,Int.natCast_zero,Int.toNat_zero,List.take_zero,List.nil_append,List.length_append,List.length_nil]
theorem loopC {w:List Int} {nq:Bool} (hn:n≤12) (hw:w.length≤2000) (hv:Vld n w) (v:Nat):∀ (k i:Nat),i+k=w.length→EndZ 51 ct false (stOf (sC w n (mx n (PLnk.lkN (w.take i))) v (pR (lnP n (w.take i))) n nq i)) (.tup [.lst (.recs [.list [.int .i64]] (mx n (PLnk.lkN w))),iv 0]) [] 0
 | 0,i,h=>by
  obtain rfl:i=w.length:=by omega
  rw [List.take_length];exact .done last
 | k+1,i,h=>by
  have hi:i < w.length:=by omega
  have hk:0 < (w.getD i 0).natAbs∧(w.getD i 0).natAbs < n:=(show Vld n [w.getD i 0] from fun x hx=>by
   rw [List.mem_singleton.1 hx,getD_at hi];exact hv _ (List.getElem_mem _)).head
  exact round hi hn hw rfl hk hv (loopC hn hw hv v k (i+1) (by omega))
theorem loopL {w:List Int} (hn:n≤12) (hw:w.length≤2000) (hv:Vld n w) (v:Nat):∀ (k i:Nat) (nq:Bool),i+k=n→EndZ 51 ct false (stOf (sL n w (RLin.rng i) nq n (mx n fun _ _=>0) v i)) (.tup [.lst (.recs [.list [.int .i64]] (mx n (PLnk.lkN w))),iv 0]) [] 0
 | 0,i,nq,hi=>by
  obtain rfl:i=n:=by omega
  have h1:=l_t i w (RLin.rng i) nq i (mx i fun _ _=>0) v i;rw [df (show ¬ (i:Int) < (i:Int) by omega),bc_f,RLin.rng_len] at h1;have h2:=loopC (nq:=nq) hn hw hv v w.length 0 (by omega);exact .at ct_ok h1 h2
 | k+1,i,nq,hi=>.at ct_ok (stepL (by omega) (by omega)) (loopL hn hw hv v k (i+1) true (by omega))
theorem ends (n:Int) (w:List Int):EndZ 51 ct false (st0 51 [iv n,il w]) (PLnk.lnkV n w) [] 0:=by
 have h:=in_t n w
 by_cases z:chk n w=0
 ·obtain ⟨⟨w1,w2,w3,w4⟩,_⟩:=chk_wok z;unfold PLnk.lnkV;rw [z,show ((0:Int) != 0)=false from rfl,bc_f] at h ⊢
  obtain ⟨n,rfl⟩:=Int.eq_ofNat_of_zero_le (show 0≤n by omega);have h1:=a_t n w 0;have e0:Int.toNat (n:Int)=n:=rfl;rw [e0,zeros_len,dt (show (0:Int) < n by omega)] at h1;simp (disch:=omega) only [Nat.add_eq,eqSy_self,eqN_self,bc_same,List.length_cons,ofn,wrap_in,dt,df,bltD,bltN,ble_of,bleN,beqD,bc_t,bc_f,nn_ok,Nat.zero_add,to_nat,Int.zero_add,Int.sub_zero,Int.sub_self,Int.cast_ofNat_Int,Int.natCast_zero,Int.toNat_zero,List.take_zero,List.nil_append,List.length_append,List.length_nil] at h1;refine .at ct_ok h (.at ct_ok h1 ?_)
  have h2:=loopB (n:=n) (w:=w) (by omega) (n - 1) 1 1 (by omega) (fun v=>loopL (by omega) w3 w4 v n 0 false (by omega));exact h2
 ·unfold PLnk.lnkV;rw [show (chk n w != 0)=true by simp [z],bc_t] at h ⊢;exact (EndZ.done h).weak (Weak.tup (.cons (Weak.nil _) (.cons (Weak.refl _) .nil)))
end RLnk
noncomputable def spRLnk:ZCT:=fun ax=>match ax with
 | [.v (.int .i64 n),.lst (.ints .i64 w)]=>some ⟨decide (True),PLnk.lnkV n w,[],0⟩
 | _=>none
theorem spRLnk_ok:ZCtOk Try.prog 51 spRLnk:=fun γ w us ax r hs hc hax hN hfz=>by
 unfold spRLnk at hs;split at hs
 case h_2=>cases hs
 rename_i n w;obtain ⟨rfl⟩:=Option.some.inj hs;have hc_0:decide (True)=true:=hc;have hc:=of_decide_eq_true hc_0;exact EndZ.calls (RLnk.ends n w) RLnk.ct_ok (by kernel_rfl) hax hN hfz
end Go.Proofs.Ytooimphimnagaaa.Ev
namespace Go.Proofs.Ytooimphimnagaaa.Ev
open Go.Proofs
theorem awakeB_run:endsB (exClosed Try.prog ft (drD Try.prog ft 16 4) 25 18)=true:=by kernel_rfl
theorem awakeBC (w:World):Calls Try.prog 25 #[] w fun e w'=>e = .returned (.bool true)∧Stays w w':=closedTrue ftOk (drD_ok mix ftOk 16 4) awakeB_run w
theorem spAwakeB_ok:ZCtOk Try.prog 25 spTrue:=spTrue_ok awakeBC
end Go.Proofs.Ytooimphimnagaaa.Ev
namespace Go.Proofs.Ytooimphimnagaaa
open Go.ChangeShapes Go.WideShapes Go.ChangeAt Go.RowKit

theorem kept_of_stays {W W':World} (h:Ev.Stays W W') (may:MemPlace→Prop):W.keptBut W' may:=by
 refine ⟨h.os,h.output,fun i hi=>?_⟩;have e:=h.block i hi;rw [e]
 cases hb:W.heap[i]? with
 | none=>simp
 | some o=>
  cases o <;> first | exact ⟨rfl,rfl,rfl,fun _ _=>rfl⟩ | exact .inr ⟨rfl,rfl⟩ | rfl
theorem frozen_of_stays {W W':World} (h:Ev.Stays W W') (a:Addr) (ha:a.block < W.heap.size):W'.frozen? a=W.frozen? a:=by
 unfold World.frozen?;rw [h.block _ ha]
section
variable {H:Type} {enc:TypeId × Value→H} {P:Program}

theorem post_of_stays {f:Func} {s:ChangeSpec} {apart fresh handsOn again:Bool} {W W':World} {args:Array Value} {v:Value} {ds gs:List (DataW H)} {before pa pv:List MemPlace}
  (hW:DataW.Whole enc P f.params.toList s.vars apart W args.toList ds gs before)
  (hres:∀ (b:Nat) (sp:Nat→Bool) (hd:Bool),DataW.TrodAll enc P W' b sp hd f.resultTypes.toList (v.resultList f.resultTypes.size) (s.fn H (ds ++ gs)).results [])
  (hargs:∀ sp:Nat→Bool,(∀ p ∈ before,sp p.block=true)→DataW.TrodAll enc P W' 0 sp true f.params.toList args.toList (s.fn H (ds ++ gs)).args pa)
  (hvars:∀ sp:Nat→Bool,(∀ p ∈ before,sp p.block=true)→DataW.TrodVars enc P W' sp s.vars (s.fn H (ds ++ gs)).vars pv)
  (hps:before=pa ++ pv) (hst:Ev.Stays W W')
  (hok:∀ (j:Nat) (t:TypeId) (r:Value),f.resultTypes[j]? = some t→(v.resultList f.resultTypes.size)[j]? = some r→Value.okWide P W' .any 0 t r) :
  s.post enc P f apart fresh handsOn again W args v W':=by
 have hk:W.keptBut W' (· ∈ before):=kept_of_stays hst _;have hold:∀ p ∈ before,(fun b=>decide (b < W.heap.size)) p.block=true:=fun p hp=>by simpa using hW.lt p hp
 have hlt:=fun p hp=>hW.lt p hp;refine ⟨ds,gs,before,[],pa,pv,hW,hres _ _ _,hargs _ hold,hvars _ hold,World.keptBut_mono (fun p hp=>⟨hp,?_⟩) hk,fun _=>?_⟩
 ·rw [hps,List.mem_append] at hp;exact Or.inr hp
 ·obtain ⟨_,_,_,_,_,hz,hn⟩:=hW;refine ⟨hok,_,_,([] ++ pa) ++ pv,⟨[] ++ pa,pv,trodAll_append (hargs _ (fun _ _=>rfl)) (hres _ _ _),hvars _ (fun _ _=>rfl),rfl,?_,?_⟩,?_⟩
  ·intro b off hp;have hp2:MemPlace.cell b off ∈ before:=by rw [hps];simpa using hp
   rw [frozen_of_stays hst _ (hlt _ hp2)];exact hz b off hp2
  ·intro ha;have:=hn ha;rw [hps] at this;simpa using this
  ·intro p hp _;rw [hps];simpa using hp
end
end Go.Proofs.Ytooimphimnagaaa
namespace Go.Proofs.Ytooimphimnagaaa
open Go.ChangeShapes Go.WideShapes Go.ChangeAt Go.RowKit
section
variable {H:Type} {enc:TypeId × Value→H} {P:Program}
theorem same_of_stays {W W':World} (h:Ev.Stays W W') {p:MemPlace} (hp:p.block < W.heap.size):W.sameAt W' p:=by
 cases p with
 | cell b off=>
  show W'.cell? _=W.cell? _;unfold World.cell?;rw [h.block b hp]
 | map b=>exact h.block b hp
theorem args_carry {W W':World} {base:Nat} {sp:Nat→Bool} {hd:Bool}:∀ {ts:List TypeId} {vs:List Value} {ds:List (DataW H)} {ps:List MemPlace},DataW.TrodAll enc P W base sp hd ts vs ds ps→(∀ p ∈ ps,W.sameAt W' p)→DataW.TrodAll enc P W' base sp hd ts vs ds ps
 | [],[],[],_,h,_=>h
 | _ :: _,_ :: _,_ :: _,_,⟨p,q,⟨n,h⟩,hs,e⟩,k=>⟨p,q,⟨n,DataW.trod_carry n _ _ _ h fun x hx=>k x (by rw [e];exact List.mem_append_left _ hx)⟩,args_carry hs fun x hx=>k x (by rw [e];exact List.mem_append_right _ hx),e⟩
 | [],[],_ :: _,_,h,_=>h.elim
 | [],_ :: _,_,_,h,_=>h.elim
 | _ :: _,[],_,_,h,_=>h.elim
 | _ :: _,_ :: _,[],_,h,_=>h.elim

theorem post_law {f:Func} {s:ChangeSpec} {apart fresh handsOn again:Bool} {W W':World} {args:Array Value} {ds:List (DataW H)} {p:List MemPlace} {bt:TypeId} {T:TypeId→Prop} (K:Kids P T) (hz:∀ t e,T t→P.underlying t=some (.slice e)→0 < P.cellsOf e)
  (hbt:P.underlying bt=some .bool) (hrt:f.resultTypes.toList=[bt]) (hsz:f.resultTypes.size=1) (hvs:s.vars=[]) (hfn:s.fn H (ds ++ [])={ results:=[.lit (.bool true)],args:=ds })
  (hpt:∀ t ∈ f.params.toList,T t)
  (hW:DataW.Whole enc P f.params.toList s.vars apart W args.toList ds [] (p ++ [])) (hA:DataW.TrodAll enc P W 0 (fun _=>true) true f.params.toList args.toList ds p) (hst:Ev.Stays W W')
  (hok:∀ (j:Nat) (t:TypeId) (r:Value),f.resultTypes[j]? = some t→((Value.bool true).resultList f.resultTypes.size)[j]? = some r→Value.okWide P W' .any 0 t r) :
  s.post enc P f apart fresh handsOn again W args (.bool true) W':=by
 have hlt:=fun q hq=>hW.lt q hq;refine post_of_stays (pa:=p) (pv:=[]) hW (fun b sp hd=>?_) (fun sp hsp=>?_) (fun sp _=>?_) rfl hst hok
 ·rw [hrt,hfn,hsz];exact trodAll_mk1 (shut_bool hbt _)
 ·rw [hfn];exact DataW.TrodAll.respare K hz hpt (args_carry hA fun q hq=>same_of_stays hst (hlt q (by simpa using hq))) fun q hq=>hsp q (by simpa using hq)
 ·rw [hfn,hvs];rfl
end
namespace Ev


inductive UFit:Sh→U→Prop where
 | int (k:IntKind) (n:Int) (h:(Lit.int k n).wf=true):UFit (.int k) (.i n)
 | bool (b:Bool):UFit .bool (.b b)
 | str (s:ByteArray) (h:s.size≤maxLen):UFit .str (.s s)
 | list (sh:List Sh) (l:List (List U)) (hl:l.length≤maxLen) (hr:∀ j,j < l.length→(l.getD j []).length=sh.length) (h:∀ (j f:Nat) (s:Sh),j < l.length→sh[f]? = some s→UFit s ((l.getD j []).getD f (.i 0))):UFit (.list sh) (.l l)
structure RowFit (sh:List Sh) (r:List U):Prop where
 len:r.length=sh.length
 fit:∀ (f:Nat) (s:Sh),sh[f]? = some s→UFit s (r.getD f (.i 0))
theorem RowFit.nil:RowFit [] []:=⟨rfl,fun f s h=>by simp at h⟩
theorem RowFit.append {sh1 sh2:List Sh} {r1 r2:List U} (h1:RowFit sh1 r1) (h2:RowFit sh2 r2):RowFit (sh1 ++ sh2) (r1 ++ r2):=by
 refine ⟨by simp [h1.len,h2.len],fun f s h=>?_⟩;rw [List.getD_eq_getElem?_getD]
 by_cases hf:f < sh1.length
 ·rw [List.getElem?_append_left hf] at h;rw [List.getElem?_append_left (by rw [h1.len];exact hf),← List.getD_eq_getElem?_getD];exact h1.fit f s h
 ·rw [List.getElem?_append_right (by omega)] at h;rw [List.getElem?_append_right (by rw [h1.len];omega),h1.len,← List.getD_eq_getElem?_getD];exact h2.fit _ s h
theorem recE_app:∀ {sh1 sh2:List Sh} {r1 r2:List U},r1.length=sh1.length→recE (sh1 ++ sh2) (r1 ++ r2)=recE sh1 r1 ++ recE sh2 r2
 | [],sh2,r1,r2,h=>by
  have:r1=[]:=List.eq_nil_of_length_eq_zero h;subst this;rfl
 | s :: sh1,sh2,[],r2,h=>by cases h
 | s :: sh1,sh2,u :: r1,r2,h=>by
  show s.ev u :: recE (sh1 ++ sh2) (r1 ++ r2)=s.ev u :: (recE sh1 r1 ++ recE sh2 r2);rw [recE_app (by simpa using h)]

def shFs (P:Program) (f:TypeId→Option (List Sh)):List Field→Nat→Option (List Sh)
 | [],_=>some []
 | fd :: r,off=>match f fd.type with
  | some sh=>if fd.offset=off∧P.cellsOf fd.type=sh.length then match shFs P f r (off+sh.length) with
   | some l=>some (sh ++ l)
   | none=>none else none
  | none=>none
def shB (P:Program):Nat→TypeId→Option (List Sh)
 | 0,_=>none
 | k+1,t=>match P.underlying t with
  | some (.int κ)=>some [.int κ]
  | some .bool=>some [.bool]
  | some .string=>some [.str]
  | some (.slice e)=>match shB P k e with
   | some sh=>if P.cellsOf e=sh.length∧0 < sh.length then some [.list sh] else none
   | none=>none
  | some (.struct fs)=>match shFs P (shB P k) fs.toList 0 with
   | some sh=>if P.cellsOf t=sh.length then some sh else none
   | none=>none
  | some (.array m e)=>match shB P k e with
   | some sh=>if P.cellsOf e=sh.length∧P.cellsOf t=m * sh.length then some (List.replicate m sh).flatten else none
   | none=>none
  | _=>none
noncomputable def fzAll (W:World):Nat→Option (Array Value):=fun k=>match W.heap[k]? with
 | some (.cells a _ _)=>some a
 | _=>none
noncomputable def gAll (W:World):G:=⟨fun _=>none,fzAll W,fun _ _ _=>none⟩
theorem fzAll_at (W:World):FzAt (gAll W) W:=⟨fun k a hk=>(by
 have hk:fzAll W k=some a:=hk;unfold fzAll at hk;split at hk
 ·rename_i a' ty fz h;injection hk with hk;subst hk
  exact ⟨ty,fz,h⟩
 ·cases hk),fun _ _ _=>rfl⟩
theorem list_of {Q:Nat→List U→Prop}:∀ (n:Nat),(∀ i,i < n→∃ r,Q i r)→∃ l:List (List U),l.length=n∧∀ i,i < n→Q i (l.getD i [])
 | 0,_=>⟨[],rfl,fun i hi=>absurd hi (by omega)⟩
 | n+1,h=>by
  obtain ⟨l,h1,h2⟩:=list_of n fun i hi=>h i (by omega);obtain ⟨r,hr⟩:=h n (by omega);refine ⟨l ++ [r],by simp [h1],fun i hi=>?_⟩;rw [List.getD_eq_getElem?_getD]
  by_cases e:i < n
  ·rw [List.getElem?_append_left (by omega),← List.getD_eq_getElem?_getD];exact h2 i e
  ·have:i=n:=by omega
   subst this;rw [List.getElem?_append_right (by omega),h1,Nat.sub_self];exact hr
variable {H:Type} {enc:TypeId × Value→H} {P:Program} {W:World} {base:Nat} {sp:Nat→Bool} {hd:Bool}
def OpenAt (enc:TypeId × Value→H) (P:Program) (W:World) (base:Nat) (sp:Nat→Bool) (hd:Bool) (k:Nat):Prop:=∀ (t:TypeId) (sh:List Sh) (fuel:Nat) (cs:List Value) (x:DataW H × List MemPlace),shB P k t=some sh→DataW.trod enc P W base sp hd fuel t cs=some x→∃ r,RowFit sh r∧∀ γ:G,γ.fz=fzAll W→ECL γ (recE sh r) cs
theorem fields_open {k:Nat} (ih:OpenAt enc P W base sp hd k) {cs:List Value} {n:Nat}:∀ (fs:List Field) (off:Nat) (sh:List Sh),shFs P (shB P k) fs off=some sh→(∀ f,f ∈ fs→∃ y,DataW.trod enc P W base sp hd n f.type ((cs.drop f.offset).take (P.cellsOf f.type))=some y)→∃ r,RowFit sh r∧∀ γ:G,γ.fz=fzAll W→ECL γ (recE sh r) ((cs.drop off).take sh.length)
 | [],off,sh,h,_=>by
  injection (show some []=some sh from h) with h;subst h
  exact ⟨[],.nil,fun γ _=>by
   rw [show ([]:List Sh).length=0 from rfl,List.take_zero];exact ECL.nil γ⟩
 | fd :: fs,off,sh,h,hall=>by
  unfold shFs at h;split at h
  case h_2=>cases h
  rename_i s1 hs1;split at h
  case isFalse=>cases h
  rename_i hc;split at h
  case h_2=>cases h
  rename_i s2 hs2;injection h with h;subst h
  obtain ⟨y,hy⟩:=hall fd (by simp);rw [hc.1,hc.2] at hy;obtain ⟨r1,h1,h2⟩:=ih fd.type s1 n _ y hs1 hy;obtain ⟨r2,h3,h4⟩:=fields_open ih fs (off+s1.length) s2 hs2 fun f hf=>hall f (by simp [hf]);refine ⟨r1 ++ r2,h1.append h3,fun γ hγ=>?_⟩;rw [recE_app h1.len,List.length_append];have e:(cs.drop off).take (s1.length+s2.length)=(cs.drop off).take s1.length ++ (cs.drop (off+s1.length)).take s2.length:=by
   rw [List.take_add,List.drop_drop]
  rw [e];exact (h2 γ hγ).append (h4 γ hγ)
theorem elems_open {k:Nat} (ih:OpenAt enc P W base sp hd k) {cs:List Value} {n:Nat} {e:TypeId} {sh:List Sh} (hsh:shB P k e=some sh) (hc:P.cellsOf e=sh.length):∀ (m i0:Nat),(∀ i,i < m→∃ y,DataW.trod enc P W base sp hd n e ((cs.drop ((i0+i) * P.cellsOf e)).take (P.cellsOf e))=some y)→∃ r,RowFit (List.replicate m sh).flatten r∧∀ γ:G,γ.fz=fzAll W→ECL γ (recE (List.replicate m sh).flatten r) ((cs.drop (i0 * sh.length)).take (m * sh.length))
 | 0,i0,_=>⟨[],.nil,fun γ _=>by
   rw [Nat.zero_mul,List.take_zero];exact ECL.nil γ⟩
 | m+1,i0,h=>by
  obtain ⟨y,hy⟩:=h 0 (by omega);rw [hc,Nat.add_zero] at hy;obtain ⟨r1,h1,h2⟩:=ih e sh n _ y hsh hy;obtain ⟨r2,h3,h4⟩:=elems_open ih hsh hc m (i0+1) fun i hi=>by
   have:=h (i+1) (by omega)
   rwa [show i0+(i+1)=i0+1+i by omega] at this
  refine ⟨r1 ++ r2,by rw [List.replicate_succ,List.flatten_cons];exact h1.append h3,fun γ hγ=>?_⟩;rw [List.replicate_succ,List.flatten_cons,recE_app h1.len,Nat.succ_mul,Nat.add_comm,List.take_add,List.drop_drop];have:=h4 γ hγ;rw [Nat.succ_mul] at this;exact (h2 γ hγ).append this
theorem open_cells:∀ k,OpenAt enc P W base sp hd k
 | 0=>fun t sh fuel cs x h=>by cases h
 | k+1=>fun t sh fuel cs x h ht=>by
  have ih:OpenAt enc P W base sp hd k:=open_cells k;unfold shB at h;split at h
  ·rename_i κ hu;injection h with h;subst h
   obtain ⟨n,rfl,_,hw⟩:=DataW.trod_int hu ht;refine ⟨[.i n],⟨rfl,fun f s hf=>?_⟩,fun γ _=>.cons (.v _) (.nil _)⟩;obtain ⟨rfl,rfl⟩:=one_f hf;exact .int κ n hw
  ·rename_i hu;injection h with h;subst h
   obtain ⟨b,rfl,_⟩:=DataW.trod_bool hu ht;refine ⟨[.b b],⟨rfl,fun f s hf=>?_⟩,fun γ _=>.cons (.v _) (.nil _)⟩;obtain ⟨rfl,rfl⟩:=one_f hf;exact .bool b
  ·rename_i hu;injection h with h;subst h
   obtain ⟨s,rfl,_,hs⟩:=DataW.trod_string hu ht;refine ⟨[.s s],⟨rfl,fun f s hf=>?_⟩,fun γ _=>.cons (.v _) (.nil _)⟩;obtain ⟨rfl,rfl⟩:=one_f hf;exact .str _ hs
  ·rename_i e hu;split at h
   case h_2=>cases h
   rename_i sh' hsh;split at h
   case isFalse=>cases h
   rename_i hc;injection h with h;subst h
   rcases DataW.trod_slice hu ht with ⟨rfl,_⟩ | ⟨a,len,cap,elems,rest,n,_,rfl,_,hb,hlc,hcm,hel,hall,_⟩
   ·refine ⟨[.l []],⟨rfl,fun f s hf=>?_⟩,fun γ _=>.cons ?_ (.nil _)⟩
    ·obtain ⟨rfl,rfl⟩:=one_f hf;exact .list sh' [] (Nat.zero_le _) (fun j hj=>by simp at hj) (fun j f s hj=>by simp at hj)
    ·exact UOk.ec (s:=.list sh') (.empty sh' (.l []) none 0 rfl (Nat.zero_le _) fun _=>rfl)
   ·have each:∀ i,i < len→∃ r,RowFit sh' r∧∃ ys,W.cells? base (a.add (i * sh'.length)) sh'.length=some ys∧∀ γ:G,γ.fz=fzAll W→ECL γ (recE sh' r) ys:=fun i hi=>by
     have h1:=hall i hi;rw [hc.1] at h1;have h2:i < elems.length:=by omega
     rw [List.getElem?_eq_getElem h2] at h1;obtain ⟨ys,h3,h4⟩:=Option.bind_eq_some_iff.1 h1;obtain ⟨r,h5,h6⟩:=ih e sh' n ys _ hsh h4;exact ⟨r,h5,ys,h3,h6⟩
    obtain ⟨l,hl,hQ⟩:=list_of len each;refine ⟨[.l l],⟨rfl,fun f s hf=>?_⟩,fun γ hγ=>.cons ?_ (.nil _)⟩
    ·obtain ⟨rfl,rfl⟩:=one_f hf;exact .list sh' l (by omega) (fun j hj=>(hQ j (by omega)).1.len) fun j f s hj hf=>(hQ j (by omega)).1.fit f s hf
    ·refine UOk.ec (s:=.list sh') ?_
     by_cases h0:len=0
     ·have:l=[]:=List.eq_nil_of_length_eq_zero (by omega);subst this;subst h0;exact .empty sh' (.l []) (some a) cap rfl hcm fun e=>by cases e
     ·obtain ⟨b,off,spot⟩:=a;have hblk:spot=none∧∃ arr ty fz,W.heap[b]? = some (.cells arr ty fz):=by
       obtain ⟨h1,ys,h2,h3⟩:=hQ 0 (by omega);obtain ⟨_,h4,h5⟩:=World.cells?_some h2;have h6:=h5 0 hc.2;rw [List.getElem?_eq_getElem (show 0 < ys.length by omega)] at h6;have h6:W.cell? ⟨b,off,spot⟩=some ys[0]:=by
        have e:((⟨b,off,spot⟩:Addr).add (0 * sh'.length)).add 0=⟨b,off,spot⟩:=by simp [Addr.add]
        rw [e] at h6;exact h6
       unfold World.cell? at h6;split at h6
       ·rename_i arr ty fz hb';split at h6
        ·cases h6
        ·rename_i hs;exact ⟨by cases spot <;> simp_all,arr,ty,fz,hb'⟩
       ·cases h6
      obtain ⟨rfl,arr,ty,fz,hblk⟩:=hblk;have cellAt:∀ i f,i < len→f < sh'.length→∃ y,W.cell? ⟨b,off+(i * sh'.length+f),none⟩=some y∧∀ s,sh'[f]? = some s→UOk γ.fz s ((l.getD i []).getD f (.i 0)) y:=fun i f hi hf=>by
       obtain ⟨h1,ys,h2,h3⟩:=hQ i hi;obtain ⟨_,h4,h5⟩:=World.cells?_some h2;have h6:=h5 f hf;have h7:f < ys.length:=by omega
       rw [List.getElem?_eq_getElem h7] at h6;refine ⟨ys[f],?_,fun s hs=>?_⟩
       ·have e:((⟨b,off,none⟩:Addr).add (i * sh'.length)).add f=⟨b,off+(i * sh'.length+f),none⟩:=by
         unfold Addr.add;split <;> split <;> simp_all [Nat.add_assoc]
        rw [← h6,e]
       ·have h8:=recE_get (s:=s) (f:=f) (sh:=sh') (l.getD i []) hs;have h9:=(h3 γ hγ).2 f _ ys[f] h8 (List.getElem?_eq_getElem h7);exact UOk.of_ec h9
      have getA:∀ i f,i < len→f < sh'.length→∃ y,arr[off+(i * sh'.length+f)]? = some y∧∀ s,sh'[f]? = some s→UOk γ.fz s ((l.getD i []).getD f (.i 0)) y:=fun i f hi hf=>by
       obtain ⟨y,h1,h2⟩:=cellAt i f hi hf;refine ⟨y,?_,h2⟩;unfold World.cell? at h1;simpa [hblk] using h1
      have hk:γ.fz b=some arr:=by
       rw [hγ];unfold fzAll;rw [hblk]
      subst hl;refine .list sh' (.l l) b off cap arr hk hlc hcm ?_ fun j f s x hj hf hx=>?_
      ·show off+l.length * sh'.length≤arr.size;obtain ⟨y,h1,_⟩:=getA (l.length - 1) (sh'.length - 1) (by omega) (by omega);have:=(Array.getElem?_eq_some_iff.1 h1).1;have e:l.length * sh'.length=(l.length - 1) * sh'.length+sh'.length:=by rw [← Nat.succ_mul];congr 1;omega
       omega
      ·obtain ⟨y,h1,h2⟩:=getA j f hj (List.getElem?_eq_some_iff.1 hf).1;rw [h1] at hx;injection hx with hx;subst hx;exact h2 s hf
  ·rename_i fs hu;split at h
   case h_2=>cases h
   rename_i sh' hsh;split at h
   case isFalse=>cases h
   rename_i hc;injection h with h;subst h
   obtain ⟨xs,n,_,_,hl,hlen,hf⟩:=DataW.trod_struct hu ht;obtain ⟨r,h1,h2⟩:=fields_open (cs:=cs) (n:=n) ih fs.toList 0 sh' hsh fun f hm=>by
    obtain ⟨i,hi,rfl⟩:=List.getElem_of_mem hm;have hi2:i < fs.size:=by simpa using hi
    have:=hf i fs.toList[i] (by simp [hi2]);rw [List.getElem?_eq_getElem (by omega)] at this;exact ⟨_,this⟩
   refine ⟨r,h1,fun γ hγ=>?_⟩;have:=h2 γ hγ
   rwa [List.drop_zero,List.take_of_length_le (by omega)] at this
  ·rename_i m e hu;split at h
   case h_2=>cases h
   rename_i sh' hsh;split at h
   case isFalse=>cases h
   rename_i hc;injection h with h;subst h
   obtain ⟨xs,n,_,_,hl,hlen,hf⟩:=DataW.trod_array hu ht;obtain ⟨r,h1,h2⟩:=elems_open (cs:=cs) (n:=n) ih hsh hc.1 m 0 fun i hi=>by
    have:=hf i hi;rw [List.getElem?_eq_getElem (by omega)] at this;rw [Nat.zero_add];exact ⟨_,this⟩
   refine ⟨r,h1,fun γ hγ=>?_⟩;have:=h2 γ hγ
   rwa [Nat.zero_mul,List.drop_zero,List.take_of_length_le (by omega)] at this
  ·cases h

theorem open_lst {t e:TypeId} {v:Value} {d:DataW H} {ps:List MemPlace} {k b0:Nat} {rc:Reach} {sh:List Sh} (hu:P.underlying t=some (.slice e)) (hs:shB P k t=some [.list sh]) (hv:Value.okWide P W rc b0 t v) (h:DataW.Trod enc P W base sp hd t v d ps):∃ l,UFit (.list sh) (.l l)∧EC (gAll W) (.lst (mkC sh l)) v:=by
 obtain ⟨a,len,cap,rfl⟩:=okWide_slice hu hv;obtain ⟨fuel,hf⟩:=h;obtain ⟨r,h1,h2⟩:=open_cells k t _ fuel _ _ hs hf;have h3:=h2 (gAll W) rfl;obtain ⟨h4,h5⟩:=h1
 match r,h4 with
 | [u],_=>
  have h6:=h5 0 _ rfl;have h6:UFit (.list sh) u:=h6
  cases h6 with
  | list _ l hl hr hh=>
   refine ⟨l,.list sh l hl hr hh,?_⟩;exact h3.2 0 _ _ rfl rfl
end Ev
end Go.Proofs.Ytooimphimnagaaa
namespace Go.Proofs.Ytooimphimnagaaa.Ev
open Go.Proofs
theorem layW_len {n:Nat} {w:List Int} {p:Nat} {s:Int} (hn:n≤12):(layW n w p s).length≤w.length+24:=by
 have:=oth_len w p;unfold layW;rw [List.length_append,List.length_append,upW_len,dnW_len];omega
namespace AGr
end AGr
end Go.Proofs.Ytooimphimnagaaa.Ev
namespace Go.Proofs.Ytooimphimnagaaa.Ev
open Go.Proofs
noncomputable abbrev cl (l:List (List U)):EV:=.lst (.recs [.int .u8,.int .u8,.int .u8] l)
namespace ACh
theorem sfB_refl:∀ A:List (List U),sfB A A=true
 | []=>rfl
 | r :: A=>by
  show bc (eqLI (facR r) (facR r)) (sfB A A) false=true;rw [eqLI_iff.2 rfl,bc_t,sfB_refl A]
theorem shrt_mx {n:Nat} (hn:n≤12) (f:Nat→Nat→Int):Shrt (mx n f):=by
 refine ⟨by rw [mx_len];omega,fun r hr=>?_⟩;unfold mx at hr;obtain ⟨p,_,rfl⟩:=List.mem_map.1 hr;unfold facR;rw [List.length_map];show ((List.range n).map fun b=>[U.i (f p b)]).length≤_;rw [List.length_map,List.length_range];omega
end ACh
end Go.Proofs.Ytooimphimnagaaa.Ev
namespace Go.Proofs.Ytooimphimnagaaa.Ev
open Go.Proofs
noncomputable def ctPm:Tr ZCC:=((((((((((Tr.nil.put 45 (some (dC spPPrm))).put 50 (some (dC spRPrm))).put 46 (some (dC spPLnk))).put 51 (some (dC spRLnk))).put 28 (some (dC spRSfo))).put 47 (some (dC spRSin))).put 52 (some (dC spPDrp))).put 53 (some (dC spRDrp))).put 54 (some (dC spPLay))).put 55 (some (dC spRLay))).put 25 (some (dC spTrue))
theorem ctPm_ok:ZCtsOk Try.prog ctPm:=(((((((((((ZCtsOk.nil _).add rfl spPPrm_ok).add rfl spRPrm_ok).add rfl spPLnk_ok).add rfl spRLnk_ok).add rfl spRSfo_ok).add rfl spRSin_ok).add rfl spPDrp_ok).add rfl spRDrp_ok).add rfl spPLay_ok).add rfl spRLay_ok).add rfl spAwakeB_ok
namespace APm
noncomputable def RUN (s:ES):ZF:=RZ 9 ctPm (fun _=>false) [] [] false s
theorem in_t (n:Int) (w:List Int) (p:Int):RUN (st0 9 [iv n,il w,iv p])=(bc (decide ((1000:Int) < Int.ofNat (List.length w))) (.done (EV.v (Value.bool true)) [] 0) (bc (bc (decide (List.length (bc (chk n w != (0:Int)) [] (prmL (Int.toNat n) w))≤(100000:Nat))) true false) (bc (!eqLI (bc (chk n w != (0:Int)) [] (prmL (Int.toNat n) w)) (bc (chk n w != (0:Int)) [] (prmL (Int.toNat n) w))) (.done (EV.v (Value.bool false)) [] 0) (bc (chk n w != chk n w) (.done (EV.v (Value.bool false)) [] 0) (bc (bc (decide (Shrt (bc (chk n w != (0:Int)) [] (mx (Int.toNat n) (PLnk.lkN w))))) true false) (bc (!sfB (bc (chk n w != (0:Int)) [] (mx (Int.toNat n) (PLnk.lkN w))) (bc (chk n w != (0:Int)) [] (mx (Int.toNat n) (PLnk.lkN w)))) (.done (EV.v (Value.bool false)) [] 0) (bc (chk n w != chk n w) (.done (EV.v (Value.bool false)) [] 0) (bc (bc (decide (List.length (bc (PDrp.drpE n w p != (0:Int)) [] (Prod.fst (oth (Int.toNat p) w)))≤(100000:Nat))) true false) (bc (eqLI (bc (PDrp.drpE n w p != (0:Int)) [] (Prod.fst (oth (Int.toNat p) w))) (bc (PDrp.drpE n w p != (0:Int)) [] (Prod.fst (oth (Int.toNat p) w)))) (bc (PDrp.drpE n w p == PDrp.drpE n w p) (bc (bc (decide (List.length (bc (PLay.layE n w p (Int.tmod (Int.ofNat (List.length w)) (2:Int) == (0:Int)) != (0:Int)) [] (layW (Int.toNat n) w (Int.toNat p) (PLay.sgn (Int.tmod (Int.ofNat (List.length w)) (2:Int) == (0:Int)))))≤(100000:Nat))) true false) (bc (eqLI (bc (PLay.layE n w p (Int.tmod (Int.ofNat (List.length w)) (2:Int) == (0:Int)) != (0:Int)) [] (layW (Int.toNat n) w (Int.toNat p) (PLay.sgn (Int.tmod (Int.ofNat (List.length w)) (2:Int) == (0:Int))))) (bc (PLay.layE n w p (Int.tmod (Int.ofNat (List.length w)) (2:Int) == (0:Int)) != (0:Int)) [] (layW (Int.toNat n) w (Int.toNat p) (PLay.sgn (Int.tmod (Int.ofNat (List.length w)) (2:Int) == (0:Int)))))) (bc (PLay.layE n w p (Int.tmod (Int.ofNat (List.length w)) (2:Int) == (0:Int)) == PLay.layE n w p (Int.tmod (Int.ofNat (List.length w)) (2:Int) == (0:Int))) (.done (EV.v (Value.bool true)) [] 0) (.done (EV.v (Value.bool false)) [] 0)) (.done (EV.v (Value.bool false)) [] 0)) .bad) (.done (EV.v (Value.bool false)) [] 0)) (.done (EV.v (Value.bool false)) [] 0)) .bad))) .bad))) .bad)):=by kernel_rfl
theorem bcl {α:Type} {b:Bool} {l:List α} {k:Nat} (h:b=false→l.length≤k):(bc b [] l).length≤k:=by
 cases b with
 | true=>exact Nat.zero_le _
 | false=>exact h rfl
theorem zero_of {x:Int} (h:(x != 0)=false):x=0:=by simpa using h
theorem layE_chk {n:Int} {w:List Int} {p:Int} {a:Bool} (h:PLay.layE n w p a=0):chk n w=0:=by
 apply Classical.byContradiction;intro z;have e1:PLay.layE n w p a=chk n w:=by unfold PLay.layE;rw [show (chk n w != 0)=true by simp [z],bc_t]
 exact z (e1 ▸ h)
theorem ends (n:Int) (w:List Int) (p:Int):EndZ 9 ctPm false (st0 9 [iv n,il w,iv p]) (bv true) [] 0:=by
 have h:=in_t n w p
 by_cases c1:1000 < w.length
 ·rw [dt (show (1000:Int) < Int.ofNat w.length by rw [ofn];omega),bc_t] at h;exact .done h
 rw [df (show ¬ (1000:Int) < Int.ofNat w.length by rw [ofn];omega),bc_f] at h;have q1:(bc (chk n w != 0) [] (prmL n.toNat w)).length≤100000:=bcl fun z=>by
  have:=(chk_wok (zero_of z)).1;rw [prmL_len];obtain ⟨a,b,_⟩:=this;omega
 have q2:Shrt (bc (chk n w != 0) [] (mx n.toNat (PLnk.lkN w))):=by
  cases z:(chk n w != 0) with
  | true=>exact ⟨Nat.zero_le _,fun r hr=>by cases hr⟩
  | false=>
   obtain ⟨a,b,_⟩:=(chk_wok (zero_of z)).1;exact ACh.shrt_mx (by omega) _
 have q3:(bc (PDrp.drpE n w p != 0) [] (oth p.toNat w).1).length≤100000:=bcl fun z=>by
  have:=oth_len w p.toNat;omega
 have q4:∀ a:Bool,(bc (PLay.layE n w p a != 0) [] (layW n.toNat w p.toNat (PLay.sgn a))).length≤100000:=fun a=>bcl fun z=>by
  obtain ⟨b1,b2,_⟩:=(chk_wok (layE_chk (zero_of z))).1;have:=layW_len (n:=n.toNat) (w:=w) (p:=p.toNat) (s:=PLay.sgn a) (by omega);omega
 simp only [dt q1,dt q2,dt q3,dt (q4 _),eqLI_iff.2 rfl,ACh.sfB_refl,bne_self_eq_false,beq_self_eq_true,Bool.not_true,bc_t,bc_f] at h;exact .done h
end APm
theorem braidsPerms_calls {γ:G} {w:World} {us:Array Value} (n:Int) (wn:(Lit.int .i64 n).wf=true) (a:List (List U)) (wa:UFit (.list [.int .i64]) (.l a)) (b:Int) (wb:(Lit.int .i64 b).wf=true) (hax:ECL γ [iv n,.lst (mkC [.int .i64] a),iv b] us.toList) (hN:∀ i,γ i=none) (hfz:FzAt γ w):Calls Try.prog 9 us w fun e w'=>e = .returned (.bool true)∧Stays w w':=
 law_of ((APm.ends n _ b).calls ctPm_ok (by kernel_rfl) hax hN hfz)
end Go.Proofs.Ytooimphimnagaaa.Ev
namespace Go.Proofs.Ytooimphimnagaaa
open Go.ChangeShapes Go.WideShapes Go.ChangeAt Go.RowKit Go.ChangeMaps
theorem knobBraidsPerms:ownKnob Try.prog.godebug=none:=by kernel_rfl
theorem kidsBraidsPerms:Kids Try.prog (· < Try.prog.types.size):=kids_rows (by kernel_rfl) (by kernel_rfl)
theorem fullBraidsPerms:∀ t e,t < Try.prog.types.size→Try.prog.underlying t=some (.slice e)→0 < Try.prog.cellsOf e:=slices_full_of Try.prog (by kernel_rfl)
set_option maxRecDepth 100000 in
theorem liftedBraidsPerms (os:Os) (started:os.Started) (H:Type) (enc:TypeId × Value→H) :
  ReturnsInHanded {} Try.checked os 9 .any (Rows.braidsPermsSpec.pre6 enc Try.prog Try.f9 Rows.braidsPermsRow.domain false) (Rows.braidsPermsSpec.post enc Try.prog Try.f9 false true false false):=by
 refine returnsInHanded_of_change (C:=Try.checked) knobBraidsPerms started (by kernel_rfl) Try.func9
  (ChangeSpec.witness6 (enc:=enc) (C:=Try.checked) false ⟨#[],#[.int .i64 0,.slice none 0 0,.int .i64 0],[]⟩ 8 (by kernel_rfl) (by kernel_rfl) (by kernel_rfl) (by kernel_rfl)) ?_
 intro W base args ds gs before hval0 hW hcnd _;have hval:∀ (j:Nat) t v,Try.f9.params[j]? = some t→args[j]? = some v→Value.okWide Try.prog W .any base t v:=hval0;have hW':=hW;obtain ⟨p,q,hA0,hV,rfl,hfz,hnd⟩:=hW;have hA:DataW.TrodAll enc Try.prog W 0 (fun _=>true) true Try.f9.params.toList args.toList ds p:=hA0;have hAk:=hA;rw [Try.params9] at hA hval;obtain ⟨rfl,rfl⟩:=trodVars_none hV;obtain ⟨v0,v1,v2,d0,d1,d2,p0,p1,p2,rfl,rfl,rfl,h0,h1,h2⟩:=trodAll_three hA
 obtain ⟨n,rfl,rfl,rfl,wn⟩:=open_int Try.underlying3 (hval 0 3 v0 rfl rfl) h0;obtain ⟨a,wa,ea⟩:=Ev.open_lst (k:=8) Try.underlying22 (by kernel_rfl:Ev.shB Try.prog 8 22=some [.list [.int .i64]]) (hval 1 22 v1 rfl rfl) h1;obtain ⟨b,rfl,rfl,rfl,wb⟩:=open_int Try.underlying3 (hval 2 3 v2 rfl rfl) h2;clear hA0 hval0;refine (Ev.braidsPerms_calls n wn a wa b wb (γ:=Ev.gAll W) (.cons (.v _) (.cons ea (.cons (.v _) (.nil _)))) (fun i=>rfl) (Ev.fzAll_at W)).mono fun e W' ⟨he,hg⟩=>?_;subst he
 exact ⟨_,rfl,post_law kidsBraidsPerms fullBraidsPerms Try.underlying4 (by kernel_rfl) (by kernel_rfl) rfl rfl (by rw [Try.params9];decide) hW' hAk hg (ok_one (by kernel_rfl) rfl (okWide_bool_mk Try.underlying4 _))⟩
theorem braidsPerms_holds:Rows.BraidsPermsSaid:=
 OpenClaim.holds_of_wide 9 Try.f9 rfl rfl rfl rfl rfl rfl rfl ⟨rfl,rfl,rfl,rfl,rfl⟩ rfl rfl rfl rfl rfl (by kernel_rfl) Try.func9 (by kernel_rfl)
  (of_decide_eq_true (by kernel_rfl)) (by unfold Func.isWrapper;first | (rw [if_pos (by decide +kernel)];kernel_rfl) | (rw [if_neg (by decide +kernel)];exact ⟨rfl,rfl⟩))
  (fun os started H enc _=>liftedBraidsPerms os started H enc)
end Go.Proofs.Ytooimphimnagaaa
