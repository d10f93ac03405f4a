/- MotifsPass returns true, for all arguments, in every world in which it is called, and nothing that was there turns. -/
import Derived.Test.YtfffbioafhppiaaChecked
import Derived.ProofKit
import Derived.ReadAgain
import Derived.OpenShut
import Derived.Test.YtfffbioafhppiaaRows
import Derived.WalkKit
import Derived.Test.YtfffbioafhppiaaMPs5
set_option linter.unusedSimpArgs false
set_option linter.unusedVariables false
namespace Go.Proofs.Ytfffbioafhppiaa.EvM
open Go.Proofs Go.Proofs.Ytfffbioafhppiaa.Ev
theorem twQ_len (t:Int):∀ (m i:Nat),(MTw.twQ t i m).length=m
 | 0,_=>rfl
 | m+1,i=>by unfold MTw.twQ;simp [twQ_len t m]
theorem twsQ_len (n t:Int):(twsQ n t).length≤n.toNat:=by
 unfold twsQ
 by_cases h:0 < t
 ·rw [dt h,bc_t,twQ_len];omega
 ·rw [df h,bc_f];simp
theorem bodyQ_len {n:Int} (h:1≤n):∀ k,(MBo.bodyQ n k).length=k * n.toNat
 | 0=>by simp [MBo.bodyQ]
 | k+1=>by
  show (MBo.rowQ n k ++ MBo.bodyQ n k).length=_;rw [List.length_append,bodyQ_len h k,Nat.succ_mul];have:(MBo.rowQ n k).length=n.toNat:=by unfold MBo.rowQ;rw [List.length_map,MBo.wayL_len h]
  omega
theorem bodQ_len {n:Int} (h:1≤n) (h2:n≤6):(bodQ n).length≤36:=by
 unfold bodQ;rw [bodyQ_len h];exact Nat.le_trans (Nat.mul_le_mul (show n.toNat≤6 by omega) (show n.toNat≤6 by omega)) (by omega)
noncomputable def spiQ (n t:Int):List (List U):=twsQ n t ++ bodQ n ++ [wk bP (n - 1)] ++ bodQ n ++ twsQ n t
namespace MSpi
noncomputable def RUN (s:ES):ZF:=RZ 26 ctS (fun _=>false) [] [] false s
theorem in_t (n t:Int):RUN (st0 26 [iv n,iv t])=(bc (decide (n < (1:Int))) (.done (EV.tup [(EV.v (Value.agg (Array.mk [(Value.int IntKind.i64 (0)),(Value.slice Option.none 0 0)]))),(EV.v (Value.int IntKind.i64 (7)))]) [] 0) (bc (decide ((6:Int) < n)) (.done (EV.tup [(EV.v (Value.agg (Array.mk [(Value.int IntKind.i64 (0)),(Value.slice Option.none 0 0)]))),(EV.v (Value.int IntKind.i64 (7)))]) [] 0) (bc (decide (t < (0:Int))) (.done (EV.tup [(EV.v (Value.agg (Array.mk [(Value.int IntKind.i64 (0)),(Value.slice Option.none 0 0)]))),(EV.v (Value.int IntKind.i64 (7)))]) [] 0) (bc (decide ((16:Int) < t)) (.done (EV.tup [(EV.v (Value.agg (Array.mk [(Value.int IntKind.i64 (0)),(Value.slice Option.none 0 0)]))),(EV.v (Value.int IntKind.i64 (7)))]) [] 0) (bc (bc (bc (decide (t≤(100:Int))) (bc (decide ((0:Int)≤n)) (decide (n≤(100:Int))) false) false) true false) (bc (bc (bc (Nat.beq (List.length (twsQ n t)) (List.length (twsQ n t))) (bc (eqN (bc (decide ((0:Int) < t)) (Nat.blt (0:Nat) (Int.toNat n)) false) (bc (decide ((0:Int) < t)) (Nat.blt (0:Nat) (Int.toNat n)) false)) (bc (Nat.ble (List.length (twsQ n t)) (1000:Nat)) (bc (decide ((1:Int)≤n)) (decide (n≤(100:Int))) false) false) false) false) true false) (bc (bc (bc (Nat.beq (List.length (twsQ n t ++ bodQ n)) (List.length (twsQ n t ++ bodQ n))) (Nat.blt (Nat.add (List.length (twsQ n t ++ bodQ n)) (List.length (List.map (fun r=>U.int (List.headD r (U.i (0:Int)))) [[U.i (IntKind.wrap IntKind.i64 (n - (1:Int)))]]))) (65536:Nat)) false) true false) (bc (bc (bc (Nat.beq (List.length (twsQ n t ++ bodQ n ++ List.map (wk { data:=#[(80:UInt8)] }) (List.map (fun r=>U.int (List.headD r (U.i (0:Int)))) [[U.i (IntKind.wrap IntKind.i64 (n - (1:Int)))]]))) (List.length (twsQ n t ++ bodQ n ++ List.map (wk { data:=#[(80:UInt8)] }) (List.map (fun r=>U.int (List.headD r (U.i (0:Int)))) [[U.i (IntKind.wrap IntKind.i64 (n - (1:Int)))]])))) (bc (Nat.ble (List.length (twsQ n t ++ bodQ n ++ List.map (wk { data:=#[(80:UInt8)] }) (List.map (fun r=>U.int (List.headD r (U.i (0:Int)))) [[U.i (IntKind.wrap IntKind.i64 (n - (1:Int)))]]))) (1000:Nat)) (bc (decide ((1:Int)≤n)) (decide (n≤(100:Int))) false) false) false) true false) (bc (bc (bc (Nat.beq (List.length (twsQ n t ++ bodQ n ++ List.map (wk { data:=#[(80:UInt8)] }) (List.map (fun r=>U.int (List.headD r (U.i (0:Int)))) [[U.i (IntKind.wrap IntKind.i64 (n - (1:Int)))]]) ++ bodQ n)) (List.length (twsQ n t ++ bodQ n ++ List.map (wk { data:=#[(80:UInt8)] }) (List.map (fun r=>U.int (List.headD r (U.i (0:Int)))) [[U.i (IntKind.wrap IntKind.i64 (n - (1:Int)))]]) ++ bodQ n))) (bc (Nat.ble (List.length (twsQ n t ++ bodQ n ++ List.map (wk { data:=#[(80:UInt8)] }) (List.map (fun r=>U.int (List.headD r (U.i (0:Int)))) [[U.i (IntKind.wrap IntKind.i64 (n - (1:Int)))]]) ++ bodQ n)) (800:Nat)) (bc (decide (t≤(100:Int))) (bc (decide ((0:Int)≤n)) (decide (n≤(100:Int))) false) false) false) false) true false) (bc (bc (bc (Nat.beq (List.length (twsQ n t ++ bodQ n ++ List.map (wk { data:=#[(80:UInt8)] }) (List.map (fun r=>U.int (List.headD r (U.i (0:Int)))) [[U.i (IntKind.wrap IntKind.i64 (n - (1:Int)))]]) ++ bodQ n ++ twsQ n t)) (List.length (twsQ n t ++ bodQ n ++ List.map (wk { data:=#[(80:UInt8)] }) (List.map (fun r=>U.int (List.headD r (U.i (0:Int)))) [[U.i (IntKind.wrap IntKind.i64 (n - (1:Int)))]]) ++ bodQ n ++ twsQ n t))) true false) true false) (.done (EV.tup [(EV.agg [(EV.v (Value.int IntKind.i64 (IntKind.wrap IntKind.i64 ((2:Int) * n)))),(EV.lst (SyC.recs [(Sh.int IntKind.i64),(Sh.int IntKind.i64),Sh.str] (twsQ n t ++ bodQ n ++ List.map (wk { data:=#[(80:UInt8)] }) (List.map (fun r=>U.int (List.headD r (U.i (0:Int)))) [[U.i (IntKind.wrap IntKind.i64 (n - (1:Int)))]]) ++ bodQ n ++ twsQ n t)))]),(EV.v (Value.int IntKind.i64 (0)))]) [] 0) .bad) .bad) .bad) .bad) .bad) .bad))))):=by kernel_rfl
theorem ends (n t:Int):EndZ 26 ctS false (st0 26 [iv n,iv t]) (shE (bc (spiOk n t) (2 * n) 0) (bc (spiOk n t) (spiQ n t) []) (bc (spiOk n t) 0 7)) [] 0:=by
 have h:=in_t n t;unfold spiOk
 by_cases h1:n < 1
 ·simp only [dt h1,bc_t,bc_f] at h ⊢;exact (EndZ.done h).weak (shN_weak 7)
 by_cases h2:6 < n
 ·simp only [df h1,dt h2,bc_t,bc_f] at h ⊢;exact (EndZ.done h).weak (shN_weak 7)
 by_cases h3:t < 0
 ·simp only [df h1,df h2,dt h3,bc_t,bc_f] at h ⊢;exact (EndZ.done h).weak (shN_weak 7)
 by_cases h4:16 < t
 ·simp only [df h1,df h2,df h3,dt h4,bc_t,bc_f] at h ⊢;exact (EndZ.done h).weak (shN_weak 7)
 have l1:=twsQ_len n t;have l2:=bodQ_len (n:=n) (by omega) (by omega);simp (disch:=omega) only [Nat.add_eq,eqSy_self,eqN_self,bc_same,List.length_cons,ofn,wrap_in,dt,df,bltD,bltN,ble_of,bleN,beqD,bc_t,bc_f,nn_ok,Nat.zero_add,to_nat,Int.zero_add,Int.sub_zero,Int.sub_self,Int.cast_ofNat_Int,Int.natCast_zero,Int.toNat_zero,List.take_zero,List.nil_append,List.length_append,List.length_nil,df h1,df h2,df h3,df h4,List.map_cons,List.map_nil,List.length_map] at h ⊢;exact .done h
end MSpi
end Go.Proofs.Ytfffbioafhppiaa.EvM
namespace Go.Proofs.Ytfffbioafhppiaa.EvM
open Go.Proofs Go.Proofs.Ytfffbioafhppiaa.Ev
theorem ba_ext:∀ {a b:ByteArray},a.data.toList=b.data.toList→a=b
 | ⟨a⟩,⟨b⟩,h=>by
  have h:a.toList=b.toList:=h;rw [Array.ext' h]
theorem catN_data (s:ByteArray):∀ (k:Nat) (o:ByteArray),(catN o s k).data.toList=o.data.toList ++ Lib.repeatL s.data.toList k
 | 0,o=>by simp [catN,Lib.repeatL]
 | k+1,o=>by
  unfold catN;rw [catN_data s k,ByteArray.data_append,Array.toList_append];simp [Lib.repeatL]
theorem lets_zrep (s:ByteArray) (n:Int):lets s n=zrep s n.toNat:=by
 apply ba_ext;unfold lets zrep;rw [catN_data];simp
end Go.Proofs.Ytfffbioafhppiaa.EvM
namespace Go.Proofs.Ytfffbioafhppiaa.EvM
open Go.Proofs Go.Proofs.Ytfffbioafhppiaa.Ev
theorem twR_eq (t:Int):∀ (m i:Nat),twR t i m=MTw.twQ t i m
 | 0,_=>rfl
 | m+1,i=>by
  unfold twR MTw.twQ;rw [lets_zrep,twR_eq t m]
theorem tws_eq (n t:Int):tws n t=twsQ n t:=by unfold tws twsQ;rw [twR_eq]
theorem upI_row (k:Int):∀ (m i:Nat),(upI (k+i) m).map (wk bCTC)=rowR k (i+1) m
 | 0,_=>rfl
 | m+1,i=>by
  unfold upI rowR;rw [List.map_cons,show k+(i:Int)+1=k+((i+1:Nat):Int) by omega,upI_row k m (i+1)]
theorem rowQ_eq {n:Int} (h:1≤n) (k:Nat):MBo.rowQ n k=rowR k 0 n.toNat:=by
 obtain ⟨m,rfl⟩:∃ m:Nat,n=((m+1:Nat):Int):=⟨(n - 1).toNat,by omega⟩;unfold MBo.rowQ wayL;rw [Int.toNat_natCast];have e:=upI_row k m 0;rw [show (k:Int)+((0:Nat):Int)=k by omega] at e;show wk bCTC (k:Int) :: _=wk bCTC ((k:Int)+((0:Nat):Int)) :: rowR k 1 m;rw [show (k:Int)+((0:Nat):Int)=k by omega,← e]
 by_cases hm:(k:Int) < (k:Int)+((m+1:Nat):Int) - 1
 ·rw [dt hm,bc_t,show ((k:Int)+((m+1:Nat):Int) - 1 - k).toNat=m by omega]
 ·have:m=0:=by omega
  subst this;rw [df hm,bc_f,show ((k:Int) - ((k:Int)+((0+1:Nat):Int) - 1)).toNat=0 by omega];rfl
theorem bodyQ_eq {n:Int} (h:1≤n):∀ k,MBo.bodyQ n k=bodyR n.toNat k
 | 0=>rfl
 | k+1=>by
  show MBo.rowQ n k ++ MBo.bodyQ n k=rowR k 0 n.toNat ++ bodyR n.toNat k;rw [rowQ_eq h,bodyQ_eq h k]
theorem spiQ_eq {n:Int} (h:1≤n) (t:Int):spiQ n t=spiL n (tws n t):=by
 unfold spiQ spiL bodQ bodyL;rw [tws_eq,bodyQ_eq h]
theorem spiOk_pos {n t:Int} (h:spiOk n t=true):1≤n:=by
 unfold spiOk at h
 by_cases h1:n < 1
 ·rw [dt h1,bc_t] at h;cases h
 ·omega
theorem spPSpi_ok:ZCtOk Try.prog 26 spSpi:=fun γ w us ax r hs hc hax hN hfz=>by
 unfold spSpi at hs;split at hs
 ·rename_i n t;obtain ⟨rfl⟩:=Option.some.inj hs;have e:bc (spiOk n t) (spiL n (tws n t)) []=bc (spiOk n t) (spiQ n t) []:=by
   cases h:spiOk n t
   ·rfl
   ·rw [spiQ_eq (spiOk_pos h)]
  show Calls Try.prog _ us w fun e w'=>∃ γ' x,e = .returned x∧EC γ' (shE (bc (spiOk n t) (2 * n) 0) (bc (spiOk n t) (spiL n (tws n t)) []) (bc (spiOk n t) 0 7)) x∧HR γ' (Bs.ofG w γ) (mkT []) 0 w';rw [e];exact (MSpi.ends n t).calls ctS_ok (by kernel_rfl) hax hN hfz
 ·cases hs
end Go.Proofs.Ytfffbioafhppiaa.EvM
namespace Go.Proofs.Ytfffbioafhppiaa.EvM
open Go.Proofs Go.Proofs.Ytfffbioafhppiaa.Ev
theorem spPWin_ok:ZCtOk Try.prog 31 spWin:=fun γ w us ax r hs hc hax hN hfz=>by
 unfold spWin at hs;split at hs
 ·obtain ⟨rfl⟩:=Option.some.inj hs;exact (EndZ.done (MWin.in_t 0)).calls ctP_ok (by kernel_rfl) hax hN hfz
 ·cases hs
end Go.Proofs.Ytfffbioafhppiaa.EvM
namespace Go.Proofs.Ytfffbioafhppiaa.EvM
open Go.Proofs Go.Proofs.Ytfffbioafhppiaa.Ev
namespace MRev
noncomputable def R (s:ES):ZF:=RMs 1 124 ctP [(atS 0 124 1,[[(0,none),(2,none),(3,none)]])] [] [] s

noncomputable def sR (m:Nat) (l:List Int) (i j:Int):NS:=⟨[⟨124,28,[(0,EV.slO 0 1 m true),(2,iv i),(3,iv j)],[.it (.code (nav [1,0,0,0] (bodyOf Try.f124))),.it (.code (nav [1,0,0,1] (bodyOf Try.f124))),.it (.inLoop (nav [1,0,0] (bodyOf Try.f124))),.it (.inBlock 0)],[],Option.none⟩],[(0,(EK.seq 3 (SyC.ints IntKind.i64 (l)) true))],1⟩
theorem in_t (l:List Int):R (st0m 124 [.slO 0 1 l.length true] [(0,.seq 3 (.ints .i64 l) true)] 1)=(.at (sR (List.length l) (l) ((0:Int)) (IntKind.wrap IntKind.i64 (Int.ofNat (List.length l) - (1:Int))))):=by kernel_rfl
theorem st_t (m:Nat) (l:List Int) (i j:Int):R (stOf (sR m l i j))=(bc (decide (i < j)) (bc (bc (bc (bc (bc (decide ((0:Int)≤j)) (Nat.blt (Int.toNat j) m) false) true false) (bc (bc (Nat.blt (Int.toNat j) (List.length l)) true false) (bc (bc (bc (decide ((0:Int)≤i)) (Nat.blt (Int.toNat i) m) false) true false) (bc (bc (Nat.blt (Int.toNat i) (List.length l)) true false) (bc (bc (bc (decide ((0:Int)≤i)) (Nat.blt (Int.toNat i) m) false) true false) (bc (Nat.blt (Int.toNat i) (List.length l)) (bc (bc (bc (decide ((0:Int)≤j)) (Nat.blt (Int.toNat j) m) false) true false) (bc (Nat.blt (Int.toNat j) (List.length (List.set l (Int.toNat i) (List.getD l (Int.toNat j) (0:Int))))) true false) false) false) false) false) false) false) false) true false) (.at (sR (m) (List.set (List.set l (Int.toNat i) (List.getD l (Int.toNat j) (0:Int))) (Int.toNat j) (List.getD l (Int.toNat i) (0:Int))) (IntKind.wrap IntKind.i64 (i+(1:Int))) (IntKind.wrap IntKind.i64 (j - (1:Int))))) .bad) (.done (EV.tup []) [(0,(EK.seq 3 (SyC.ints IntKind.i64 (l)) true))] 1)):=by kernel_rfl
theorem step {m:Nat} {l:List Int} {i j:Nat} (hi:i < j) (hj:j < m) (hm:m≤60000) (hl:l.length=m):R (stOf (sR m l i j)) = .at (sR m ((l.set i (l.getD j 0)).set j (l.getD i 0)) (i+1:Nat) ((j:Int) - 1)):=by
 rw [st_t];simp (disch:=omega) only [Nat.add_eq,eqSy_self,eqN_self,bc_same,List.length_cons,ofn,wrap_in,dt,df,bltD,bltN,ble_of,bleN,beqD,bc_t,bc_f,nn_ok,Nat.zero_add,to_nat,Int.zero_add,Int.sub_zero,Int.sub_self,Int.cast_ofNat_Int,Int.natCast_zero,Int.toNat_zero,List.take_zero,List.nil_append,List.length_append,List.length_nil,List.length_set];rfl
theorem last {m:Nat} {l:List Int} {i:Nat} {j:Int} (hi:j≤(i:Int)):R (stOf (sR m l i j)) = .done (.tup []) [(0,.seq 3 (.ints .i64 l) true)] 1:=by
 rw [st_t];simp (disch:=omega) only [Nat.add_eq,eqSy_self,eqN_self,bc_same,List.length_cons,ofn,wrap_in,dt,df,bltD,bltN,ble_of,bleN,beqD,bc_t,bc_f,nn_ok,Nat.zero_add,to_nat,Int.zero_add,Int.sub_zero,Int.sub_self,Int.cast_ofNat_Int,Int.natCast_zero,Int.toNat_zero,List.take_zero,List.nil_append,List.length_append,List.length_nil]
theorem rev_of {l l0:List Int} (h0:l.length=l0.length) (h:∀ x,x < l0.length→l.getD x 0=l0.getD (l0.length - 1 - x) 0):l=l0.reverse:=by
 apply List.ext_getElem
 ·simp [h0]
 ·intro x h1 h2;have:=h x (by omega);rw [getD_at h1,getD_at (by omega)] at this;rw [List.getElem_reverse,this]
theorem getD_set (l:List Int) (i x:Nat) (v:Int):(l.set i v).getD x 0=if x=i∧i < l.length then v else l.getD x 0:=by
 rw [List.getD_eq_getElem?_getD,List.getD_eq_getElem?_getD,List.getElem?_set]
 by_cases h:i=x
 ·subst h
  by_cases h2:i < l.length
  ·simp [h2]
  ·simp [h2]
 ·rw [if_neg h,if_neg (by omega)]
theorem loop {l0:List Int} (hl:l0.length≤60000):∀ (k i:Nat) (l:List Int),l0.length≤2 * i+k→l.length=l0.length→(∀ x,x < l0.length→l.getD x 0=if x < i∨l0.length < x+i+1 then l0.getD (l0.length - 1 - x) 0 else l0.getD x 0)→EndM 1 124 ctP (stOf (sR l0.length l i ((l0.length:Int) - 1 - i))) (.tup []) [(0,.seq 3 (.ints .i64 l0.reverse) true)] 1
 | k,i,l,h,h0,hx=>by
  by_cases hd:l0.length≤2 * i+1
  ·have:l=l0.reverse:=rev_of h0 fun x hxl=>by
    rw [hx x hxl];split
    ·rfl
    ·rw [show l0.length - 1 - x=x by omega]
   rw [← this];exact .done (last (by omega))
  ·match k,h with
   | 0,h=>omega
   | k+1,h=>
    obtain ⟨j,hj⟩:∃ j:Nat,l0.length=j+1+i:=⟨l0.length - 1 - i,by omega⟩;have e:(l0.length:Int) - 1 - i=(j:Int):=by omega
    rw [e];have hs:=step (m:=l0.length) (l:=l) (i:=i) (j:=j) (by omega) (by omega) hl h0;refine .at ctP_ok hs ?_;have:=loop hl k (i+1) ((l.set i (l.getD j 0)).set j (l.getD i 0)) (by omega) (by simp [h0]) fun x hxl=>by
     rw [getD_set,getD_set,List.length_set,h0]
     by_cases e1:x=j
     ·subst e1;rw [if_pos ⟨rfl,hxl⟩,if_pos (by omega),hx i (by omega),if_neg (by omega),show l0.length - 1 - x=i by omega]
     ·rw [if_neg (by omega)]
      by_cases e2:x=i
      ·subst e2;rw [if_pos ⟨rfl,hxl⟩,if_pos (by omega),hx j (by omega),if_neg (by omega),show l0.length - 1 - x=j by omega]
      ·rw [if_neg (by omega),hx x hxl]
       by_cases e3:x < i∨l0.length < x+i+1
       ·rw [if_pos e3,if_pos (by omega)]
       ·rw [if_neg e3,if_neg (by omega)]
    rw [show (l0.length:Int) - 1 - ((i+1:Nat):Int)=(j:Int) - 1 by omega] at this;exact this
theorem ends (l:List Int) (hl:l.length≤60000):EndM 1 124 ctP (st0m 124 [.slO 0 1 l.length true] [(0,.seq 3 (.ints .i64 l) true)] 1) (.tup []) [(0,.seq 3 (.ints .i64 l.reverse) true)] 1:=by
 have h:=in_t l;simp (disch:=omega) only [Nat.add_eq,eqSy_self,eqN_self,bc_same,List.length_cons,ofn,wrap_in,dt,df,bltD,bltN,ble_of,bleN,beqD,bc_t,bc_f,nn_ok,Nat.zero_add,to_nat,Int.zero_add,Int.sub_zero,Int.sub_self,Int.cast_ofNat_Int,Int.natCast_zero,Int.toNat_zero,List.take_zero,List.nil_append,List.length_append,List.length_nil] at h;refine .at ctP_ok h ?_;have:=loop hl l.length 0 l (by omega) rfl fun x hx=>by rw [if_neg (by omega)]
 rwa [show (l.length:Int) - 1 - ((0:Nat):Int)=(l.length:Int) - 1 by omega] at this
end MRev
end Go.Proofs.Ytfffbioafhppiaa.EvM
namespace Go.Proofs.Ytfffbioafhppiaa.EvM
open Go.Proofs Go.Proofs.Ytfffbioafhppiaa.Ev
noncomputable def spRev:ZMT:=fun ax K0 m=>match ax,K0 with
 | [.slO 0 1 v_0 v_1],[(0,.seq 3 (.ints .i64 l) v_2)]=>bc (Nat.beq m (1)) (some ⟨bc (Nat.beq v_0 (l.length)) (bc (eqN v_1 (true)) (bc (eqN v_2 (true)) (decide (l.length≤60000)) false) false) false,.tup [],[(0,.seq 3 (.ints .i64 l.reverse) true)],1,1⟩) none
 | _,_=>none
theorem spRev_ok:ZMtOk Try.prog 124 spRev:=fun γ w0 w us ax K0 m r hs hc hres hax hH=>by
 unfold spRev at hs;split at hs
 case h_2=>cases hs
 rename_i v_0 v_1 l v_2;obtain ⟨hm,rfl⟩:=noN hs;have hm:=Nat.eq_of_beq_eq_true hm;subst hm;have hc_0:bc (Nat.beq v_0 (l.length)) (bc (eqN v_1 (true)) (bc (eqN v_2 (true)) (decide (l.length≤60000)) false) false) false=true:=hc;obtain ⟨q_0,hc_1⟩:=bcT hc_0;have p_0:=(Nat.eq_of_beq_eq_true q_0).symm;subst p_0;obtain ⟨q_1,hc_2⟩:=bcT hc_1;have p_1:=(eqN_ok q_1).symm;subst p_1;obtain ⟨q_2,hc_3⟩:=bcT hc_2;have p_2:=(eqN_ok q_2).symm;subst p_2;have hc:=of_decide_eq_true hc_3;exact EndM.calls (MRev.ends l hc) ctP_ok (by kernel_rfl) hres hax hH
namespace MClo
noncomputable def R (s:ES):ZF:=RMs 1 79 ctP [] [] [] s
theorem in_t (l:List Int):R (st0m 79 [.slO 0 1 l.length true] [(0,.seq 3 (.ints .i64 l) true)] 1)=(bc (bc (Nat.beq (List.length l) (List.length l)) (bc (Nat.ble ((0:Nat)+List.length l) (65536:Nat)) true false) false) (.done (EV.slO 1 1 (List.length ([] ++ l)) (true)) [(0,(EK.seq 3 (SyC.ints IntKind.i64 (l)) true)),(1,(EK.seq 3 (SyC.ints IntKind.i64 ([] ++ l)) (true)))] 2) .bad):=by kernel_rfl
theorem ends (l:List Int) (hl:l.length≤60000):EndM 1 79 ctP (st0m 79 [.slO 0 1 l.length true] [(0,.seq 3 (.ints .i64 l) true)] 1) (.slO 1 1 l.length true) [(0,.seq 3 (.ints .i64 l) true),(1,.seq 3 (.ints .i64 l) true)] 2:=by
 have h:=in_t l;simp (disch:=omega) only [Nat.add_eq,eqSy_self,eqN_self,bc_same,List.length_cons,ofn,wrap_in,dt,df,bltD,bltN,ble_of,bleN,beqD,bc_t,bc_f,nn_ok,Nat.zero_add,to_nat,Int.zero_add,Int.sub_zero,Int.sub_self,Int.cast_ofNat_Int,Int.natCast_zero,Int.toNat_zero,List.take_zero,List.nil_append,List.length_append,List.length_nil] at h;exact .done h
end MClo
noncomputable def spClo:ZMT:=fun ax K0 m=>match ax,K0 with
 | [.slO 0 1 v_0 v_1],[(0,.seq 3 (.ints .i64 l) v_2)]=>bc (Nat.beq m (1)) (some ⟨bc (Nat.beq v_0 (l.length)) (bc (eqN v_1 (true)) (bc (eqN v_2 (true)) (decide (l.length≤60000)) false) false) false,.slO 1 1 l.length true,[(0,.seq 3 (.ints .i64 l) true),(1,.seq 3 (.ints .i64 l) true)],2,1⟩) none
 | _,_=>none
theorem spClo_ok:ZMtOk Try.prog 79 spClo:=fun γ w0 w us ax K0 m r hs hc hres hax hH=>by
 unfold spClo at hs;split at hs
 case h_2=>cases hs
 rename_i v_0 v_1 l v_2;obtain ⟨hm,rfl⟩:=noN hs;have hm:=Nat.eq_of_beq_eq_true hm;subst hm;have hc_0:bc (Nat.beq v_0 (l.length)) (bc (eqN v_1 (true)) (bc (eqN v_2 (true)) (decide (l.length≤60000)) false) false) false=true:=hc;obtain ⟨q_0,hc_1⟩:=bcT hc_0;have p_0:=(Nat.eq_of_beq_eq_true q_0).symm;subst p_0;obtain ⟨q_1,hc_2⟩:=bcT hc_1;have p_1:=(eqN_ok q_1).symm;subst p_1;obtain ⟨q_2,hc_3⟩:=bcT hc_2;have p_2:=(eqN_ok q_2).symm;subst p_2;have hc:=of_decide_eq_true hc_3;exact EndM.calls (MClo.ends l hc) ctP_ok (by kernel_rfl) hres hax hH
noncomputable def ctT:Tr ZCC:=(ctW.put 124 (some (mC spRev))).put 79 (some (mC spClo))
theorem ctT_ok:ZCtsOk Try.prog ctT:=(ctW_ok.addM rfl spRev_ok).addM rfl spClo_ok
noncomputable def thereQ (w:ByteArray) (l:List Int):List (List U):=l.map (wk bCTC) ++ [wk w (l.getD (l.length - 1) 0)] ++ l.reverse.map (wk bCTC)
namespace MTher
noncomputable abbrev K0 (p:Int) (l:List Int) (q:List (List U)) (nn:Bool):List (Nat × EK):=[(0,.cells 98 (MWith.ps p 2 q.length nn) true),(1,.seq 3 (.ints .i64 l) true),(2,.seq 103 (.recs shW q) nn)]
noncomputable def R (s:ES):ZF:=RMs 2 74 ctT [] [] [] s
theorem in_t (p:Int) (l:List Int) (w:ByteArray) (q:List (List U)) (nn:Bool):R (st0m 74 [.ptr 0 0,.slO 1 1 l.length true,sv w] (K0 p l q nn) 3)=(bc (bc (bc (Nat.beq (List.length l) (List.length l)) (bc (Nat.beq (List.length q) (List.length q)) (bc (eqN nn nn) (bc (Nat.ble (List.length l) (60000:Nat)) (Nat.blt (Nat.add (List.length q) (List.length l)) (65536:Nat)) false) false) false) false) true false) (bc (bc (bc (decide ((0:Int)≤IntKind.wrap IntKind.i64 (Int.ofNat (List.length l) - (1:Int)))) (Nat.blt (Int.toNat (IntKind.wrap IntKind.i64 (Int.ofNat (List.length l) - (1:Int)))) (List.length l)) false) true false) (bc (bc (Nat.blt (Int.toNat (IntKind.wrap IntKind.i64 (Int.ofNat (List.length l) - (1:Int)))) (List.length l)) true false) (bc (bc (bc (Nat.beq (List.length (q ++ List.map (wk { data:=#[(67:UInt8),(84:UInt8),(67:UInt8)] }) l)) (List.length (q ++ List.map (wk { data:=#[(67:UInt8),(84:UInt8),(67:UInt8)] }) l))) (bc (eqN (bc nn true (Nat.blt (0:Nat) (List.length l))) (bc nn true (Nat.blt (0:Nat) (List.length l)))) (Nat.blt (Nat.add (List.length (q ++ List.map (wk { data:=#[(67:UInt8),(84:UInt8),(67:UInt8)] }) l)) (List.length (List.map (fun r=>U.int (List.headD r (U.i (0:Int)))) [[U.i (List.getD l (Int.toNat (IntKind.wrap IntKind.i64 (Int.ofNat (List.length l) - (1:Int)))) (0:Int))]]))) (65536:Nat)) false) false) true false) (bc (bc (bc (Nat.beq (List.length l) (List.length l)) (decide (List.length l≤(60000:Nat))) false) true false) (bc (bc (bc (Nat.beq (List.length l) (List.length l)) (decide (List.length l≤(60000:Nat))) false) true false) (bc (bc (bc (Nat.beq (List.length l) (List.length (List.reverse l))) (bc (Nat.beq (List.length (q ++ List.map (wk { data:=#[(67:UInt8),(84:UInt8),(67:UInt8)] }) l ++ List.map (wk w) (List.map (fun r=>U.int (List.headD r (U.i (0:Int)))) [[U.i (List.getD l (Int.toNat (IntKind.wrap IntKind.i64 (Int.ofNat (List.length l) - (1:Int)))) (0:Int))]]))) (List.length (q ++ List.map (wk { data:=#[(67:UInt8),(84:UInt8),(67:UInt8)] }) l ++ List.map (wk w) (List.map (fun r=>U.int (List.headD r (U.i (0:Int)))) [[U.i (List.getD l (Int.toNat (IntKind.wrap IntKind.i64 (Int.ofNat (List.length l) - (1:Int)))) (0:Int))]])))) (bc (eqN (bc (bc nn true (Nat.blt (0:Nat) (List.length l))) true (Nat.blt (0:Nat) (List.length (List.map (fun r=>U.int (List.headD r (U.i (0:Int)))) [[U.i (List.getD l (Int.toNat (IntKind.wrap IntKind.i64 (Int.ofNat (List.length l) - (1:Int)))) (0:Int))]])))) (bc (bc nn true (Nat.blt (0:Nat) (List.length l))) true (Nat.blt (0:Nat) (List.length (List.map (fun r=>U.int (List.headD r (U.i (0:Int)))) [[U.i (List.getD l (Int.toNat (IntKind.wrap IntKind.i64 (Int.ofNat (List.length l) - (1:Int)))) (0:Int))]]))))) (bc (Nat.ble (List.length (List.reverse l)) (60000:Nat)) (Nat.blt (Nat.add (List.length (q ++ List.map (wk { data:=#[(67:UInt8),(84:UInt8),(67:UInt8)] }) l ++ List.map (wk w) (List.map (fun r=>U.int (List.headD r (U.i (0:Int)))) [[U.i (List.getD l (Int.toNat (IntKind.wrap IntKind.i64 (Int.ofNat (List.length l) - (1:Int)))) (0:Int))]]))) (List.length (List.reverse l))) (65536:Nat)) false) false) false) false) true false) (.done (EV.tup []) [(0,(EK.cells 98 [(EV.v (Value.int IntKind.i64 (p))),(EV.slO 2 3 (List.length (q ++ List.map (wk { data:=#[(67:UInt8),(84:UInt8),(67:UInt8)] }) l ++ List.map (wk w) (List.map (fun r=>U.int (List.headD r (U.i (0:Int)))) [[U.i (List.getD l (Int.toNat (IntKind.wrap IntKind.i64 (Int.ofNat (List.length l) - (1:Int)))) (0:Int))]]) ++ List.map (wk { data:=#[(67:UInt8),(84:UInt8),(67:UInt8)] }) (List.reverse l))) (bc (bc (bc nn true (Nat.blt (0:Nat) (List.length l))) true (Nat.blt (0:Nat) (List.length (List.map (fun r=>U.int (List.headD r (U.i (0:Int)))) [[U.i (List.getD l (Int.toNat (IntKind.wrap IntKind.i64 (Int.ofNat (List.length l) - (1:Int)))) (0:Int))]])))) true (Nat.blt (0:Nat) (List.length (List.reverse l)))))] true)),(1,(EK.seq 3 (SyC.ints IntKind.i64 (l)) true)),(2,(EK.seq 103 (SyC.recs [(Sh.int IntKind.i64),(Sh.int IntKind.i64),Sh.str] (q ++ List.map (wk { data:=#[(67:UInt8),(84:UInt8),(67:UInt8)] }) l ++ List.map (wk w) (List.map (fun r=>U.int (List.headD r (U.i (0:Int)))) [[U.i (List.getD l (Int.toNat (IntKind.wrap IntKind.i64 (Int.ofNat (List.length l) - (1:Int)))) (0:Int))]]) ++ List.map (wk { data:=#[(67:UInt8),(84:UInt8),(67:UInt8)] }) (List.reverse l))) (bc (bc (bc nn true (Nat.blt (0:Nat) (List.length l))) true (Nat.blt (0:Nat) (List.length (List.map (fun r=>U.int (List.headD r (U.i (0:Int)))) [[U.i (List.getD l (Int.toNat (IntKind.wrap IntKind.i64 (Int.ofNat (List.length l) - (1:Int)))) (0:Int))]])))) true (Nat.blt (0:Nat) (List.length (List.reverse l))))))] 3) .bad) .bad) .bad) .bad) .bad) .bad) .bad):=by kernel_rfl
theorem ends (p:Int) (l:List Int) (w:ByteArray) (q:List (List U)) (nn:Bool) (h1:1≤l.length) (h2:l.length≤1000) (h3:q.length≤60000):EndM 2 74 ctT (st0m 74 [.ptr 0 0,.slO 1 1 l.length true,sv w] (K0 p l q nn) 3) (.tup []) (K0 p l (q ++ thereQ w l) true) 3:=by
 have h:=in_t p l w q nn;have e1:Int.toNat ((l.length:Int) - 1)=l.length - 1:=by omega
 have e2:bc nn true true=true:=by cases nn <;> rfl
 have e3:q ++ thereQ w l=q ++ List.map (wk bCTC) l ++ List.map (wk w) (List.map (fun r=>U.int (List.headD r (U.i 0))) [[U.i (List.getD l (l.length - 1) 0)]]) ++ List.map (wk bCTC) (List.reverse l):=by
  unfold thereQ;simp [U.int]
 simp (disch:=omega) only [Nat.add_eq,eqSy_self,eqN_self,bc_same,List.length_cons,ofn,wrap_in,dt,df,bltD,bltN,ble_of,bleN,beqD,bc_t,bc_f,nn_ok,Nat.zero_add,to_nat,Int.zero_add,Int.sub_zero,Int.sub_self,Int.cast_ofNat_Int,Int.natCast_zero,Int.toNat_zero,List.take_zero,List.nil_append,List.length_append,List.length_nil,List.length_map,List.length_reverse,e1,e2,List.map_cons,List.map_nil] at h;rw [e3];refine .done (h.trans ?_)
 simp (disch:=omega) only [K0,MWith.ps,Nat.add_eq,eqSy_self,eqN_self,bc_same,List.length_cons,ofn,wrap_in,dt,df,bltD,bltN,ble_of,bleN,beqD,bc_t,bc_f,nn_ok,Nat.zero_add,to_nat,Int.zero_add,Int.sub_zero,Int.sub_self,Int.cast_ofNat_Int,Int.natCast_zero,Int.toNat_zero,List.take_zero,List.nil_append,List.length_append,List.length_nil,List.length_map,List.length_reverse,e1,e2,List.map_cons,List.map_nil];rfl
end MTher
noncomputable def spTher:ZMT:=fun ax K0 m=>match ax,K0 with
 | [.ptr 0 0,.slO 1 1 v_0 v_1,.v (.string w)],[(0,.cells 98 [.v (.int .i64 p),.slO 2 3 v_2 nn] true),(1,.seq 3 (.ints .i64 l) v_3),(2,.seq 103 (.recs [.int .i64,.int .i64,.str] q) v_4)]=>bc (Nat.beq m (3)) (some ⟨bc (Nat.beq v_0 (l.length)) (bc (eqN v_1 (true)) (bc (Nat.beq v_2 (q.length)) (bc (eqN v_3 (true)) (bc (eqN v_4 (nn)) (decide (1≤l.length∧l.length≤1000∧q.length≤60000)) false) false) false) false) false,.tup [],MTher.K0 p l (q ++ thereQ w l) true,3,2⟩) none
 | _,_=>none
theorem spTher_ok:ZMtOk Try.prog 74 spTher:=fun γ w0 w us ax K0 m r hs hc hres hax hH=>by
 unfold spTher at hs;split at hs
 case h_2=>cases hs
 rename_i v_0 v_1 w p v_2 nn l v_3 q v_4;obtain ⟨hm,rfl⟩:=noN hs;have hm:=Nat.eq_of_beq_eq_true hm;subst hm;have hc_0:bc (Nat.beq v_0 (l.length)) (bc (eqN v_1 (true)) (bc (Nat.beq v_2 (q.length)) (bc (eqN v_3 (true)) (bc (eqN v_4 (nn)) (decide (1≤l.length∧l.length≤1000∧q.length≤60000)) false) false) false) false) false=true:=hc;obtain ⟨q_0,hc_1⟩:=bcT hc_0;have p_0:=(Nat.eq_of_beq_eq_true q_0).symm;subst p_0;obtain ⟨q_1,hc_2⟩:=bcT hc_1;have p_1:=(eqN_ok q_1).symm;subst p_1;obtain ⟨q_2,hc_3⟩:=bcT hc_2;have p_2:=(Nat.eq_of_beq_eq_true q_2).symm
 subst p_2;obtain ⟨q_3,hc_4⟩:=bcT hc_3;have p_3:=(eqN_ok q_3).symm;subst p_3;obtain ⟨q_4,hc_5⟩:=bcT hc_4;have p_4:=(eqN_ok q_4).symm;subst p_4;have hc:=of_decide_eq_true hc_5;exact EndM.calls (MTher.ends p l w q nn hc.1 hc.2.1 hc.2.2) ctT_ok (by kernel_rfl) hres hax hH
end Go.Proofs.Ytfffbioafhppiaa.EvM
namespace Go.Proofs.Ytfffbioafhppiaa.EvM
open Go.Proofs Go.Proofs.Ytfffbioafhppiaa.Ev
namespace MWay
noncomputable def RO (s:ES):ZF:=RZ 73 .nil (atS 0 73 3) [] [[(1,none),(5,none),(6,none)]] true s
theorem in_o (n m:Int):RO (st0 73 [iv n,iv m])=(.at ⟨[⟨73,25,[(1,(EV.v (Value.int IntKind.i64 (m)))),(5,(EV.slO 0 1 1 true)),(6,(EV.v (Value.int IntKind.i64 (n))))],[.it (.code (nav [1,1,0,1,0,0,0] (bodyOf Try.f73))),.it (.code (nav [1,1,0,1,0,0,1] (bodyOf Try.f73))),.it (.inLoop (nav [1,1,0,1,0,0] (bodyOf Try.f73))),.it (.inBlock 0),.it (.code (nav [1,1,1] (bodyOf Try.f73)))],[],Option.none⟩],[(0,(EK.seq 3 (SyC.ints IntKind.i64 (List.map (fun r=>U.int (List.headD r (U.i (0:Int)))) [[U.i n]])) true))],1⟩):=by kernel_rfl
theorem last_o (n:Int) (q:List Int):RO (stOf (sD n n q))=(bc (n != n)
 (bc (decide (n < n))
  (bc (bc (Nat.beq (List.length q) (List.length q)) (bc (Nat.ble (List.length q+List.length (List.map (fun r=>U.int (List.headD r (U.i (0:Int)))) [[U.i (IntKind.wrap IntKind.i64 (n+(1:Int)))]])) (65536:Nat)) true false) false)
   (.at ⟨[⟨73,25,[(1,(EV.v (Value.int IntKind.i64 (n)))),(5,(EV.slO 0 1 (List.length (q ++ List.map (fun r=>U.int (List.headD r (U.i (0:Int)))) [[U.i (IntKind.wrap IntKind.i64 (n+(1:Int)))]])) (true))),(6,(EV.v (Value.int IntKind.i64 (IntKind.wrap IntKind.i64 (n+(1:Int))))))],[.it (.code (nav [1,1,0,1,0,0,0] (bodyOf Try.f73))),.it (.code (nav [1,1,0,1,0,0,1] (bodyOf Try.f73))),.it (.inLoop (nav [1,1,0,1,0,0] (bodyOf Try.f73))),.it (.inBlock 0),.it (.code (nav [1,1,1] (bodyOf Try.f73)))],[],Option.none⟩],[(0,(EK.seq 3 (SyC.ints IntKind.i64 (q ++ List.map (fun r=>U.int (List.headD r (U.i (0:Int)))) [[U.i (IntKind.wrap IntKind.i64 (n+(1:Int)))]])) (true)))],1⟩)
   .bad)
  (bc (bc (Nat.beq (List.length q) (List.length q)) (bc (Nat.ble (List.length q+List.length (List.map (fun r=>U.int (List.headD r (U.i (0:Int)))) [[U.i (IntKind.wrap IntKind.i64 (n - (1:Int)))]])) (65536:Nat)) true false) false)
   (.at ⟨[⟨73,25,[(1,(EV.v (Value.int IntKind.i64 (n)))),(5,(EV.slO 0 1 (List.length (q ++ List.map (fun r=>U.int (List.headD r (U.i (0:Int)))) [[U.i (IntKind.wrap IntKind.i64 (n - (1:Int)))]])) (true))),(6,(EV.v (Value.int IntKind.i64 (IntKind.wrap IntKind.i64 (n - (1:Int))))))],[.it (.code (nav [1,1,0,1,0,0,0] (bodyOf Try.f73))),.it (.code (nav [1,1,0,1,0,0,1] (bodyOf Try.f73))),.it (.inLoop (nav [1,1,0,1,0,0] (bodyOf Try.f73))),.it (.inBlock 0),.it (.code (nav [1,1,1] (bodyOf Try.f73)))],[],Option.none⟩],[(0,(EK.seq 3 (SyC.ints IntKind.i64 (q ++ List.map (fun r=>U.int (List.headD r (U.i (0:Int)))) [[U.i (IntKind.wrap IntKind.i64 (n - (1:Int)))]])) (true)))],1⟩)
   .bad))
 (.done (EV.slO 0 1 (List.length q) true) [(0,(EK.seq 3 (SyC.ints IntKind.i64 (q)) true))] 1)):=by kernel_rfl
theorem upsL {n:Int} (hn:n≤1000):∀ (k:Nat) (i:Int) (q:List Int),i+k=n → -1000≤i→q.length+k≤5000→LeadsZ Try.prog (stOf (sD n i q)) (stOf (sD n n (q ++ upI i k)))
 | 0,i,q,h,_,hq=>by
  have:i=n:=by omega
  subst this;show LeadsZ _ _ (stOf (sD i i (q ++ [])));rw [List.append_nil];exact LeadsZ.refl _
 | k+1,i,q,h,hi,hq=>by
  show LeadsZ _ _ (stOf (sD n n (q ++ ((i+1) :: upI (i+1) k))));rw [show q ++ (i+1) :: upI (i+1) k=(q ++ [i+1]) ++ upI (i+1) k by simp];exact (leadsZ (.nil _) (up (by omega) hi hn (by omega))).trans (upsL hn k (i+1) _ (by omega) (by omega) (by simp;omega))
theorem dnsL {n:Int} (hn:-1000≤n):∀ (k:Nat) (i:Int) (q:List Int),i - k=n→i≤1000→q.length+k≤5000→LeadsZ Try.prog (stOf (sD n i q)) (stOf (sD n n (q ++ dnI i k)))
 | 0,i,q,h,_,hq=>by
  have:i=n:=by omega
  subst this;show LeadsZ _ _ (stOf (sD i i (q ++ [])));rw [List.append_nil];exact LeadsZ.refl _
 | k+1,i,q,h,hi,hq=>by
  show LeadsZ _ _ (stOf (sD n n (q ++ ((i - 1) :: dnI (i - 1) k))));rw [show q ++ (i - 1) :: dnI (i - 1) k=(q ++ [i - 1]) ++ dnI (i - 1) k by simp];exact (leadsZ (.nil _) (dn (by omega) hi hn (by omega))).trans (dnsL hn k (i - 1) _ (by omega) (by omega) (by simp;omega))
theorem endsO {a b:Int} (ha:-1000≤a) (ha2:a≤1000) (hb:-1000≤b) (hb2:b≤1000):EndZ 73 .nil true (st0 73 [iv a,iv b]) (.slO 0 1 (wayL a b).length true) (zseqs [(0,3,.ints .i64 (wayL a b),true)]) 1:=by
 have hl:=last_o b (wayL a b);have hd:∀ q,EndZ 73 .nil true (stOf (sD b b q)) (.slO 0 1 q.length true) (zseqs [(0,3,.ints .i64 q,true)]) 1:=fun q=>.done (by
  have hl:=last_o b q;have e:(b != b)=false:=by simp
  simp only [Nat.add_eq,eqSy_self,eqN_self,bc_same,List.length_cons,ofn,wrap_in,dt,df,bltD,bltN,ble_of,bleN,beqD,bc_t,bc_f,nn_ok,Nat.zero_add,to_nat,Int.zero_add,Int.sub_zero,Int.sub_self,Int.cast_ofNat_Int,Int.natCast_zero,Int.toNat_zero,List.take_zero,List.nil_append,List.length_append,List.length_nil,e] at hl;exact hl)
 unfold wayL;have h:=in_o a b
 by_cases hab:a < b
 ·rw [dt hab,bc_t];exact .at (.nil _) h (.lead (upsL hb2 (b - a).toNat a [a] (by omega) ha (by simp;omega)) (hd _))
 ·rw [df hab,bc_f];exact .at (.nil _) h (.lead (dnsL hb (a - b).toNat a [a] (by omega) ha2 (by simp;omega)) (hd _))
end MWay
noncomputable def spWayO:ZCT:=fun ax=>match ax with
 | [.v (.int .i64 a),.v (.int .i64 b)]=>some ⟨decide (-1000≤a∧a≤1000 ∧ -1000≤b∧b≤1000),.slO 0 1 (wayL a b).length true,[(0,3,.ints .i64 (wayL a b),true)],1⟩
 | _=>none
theorem spWayO_ok:ZCtOk Try.prog 73 spWayO:=fun γ w us ax r hs hc hax hN hfz=>by
 unfold spWayO at hs;split at hs
 case h_2=>cases hs
 rename_i a b;obtain ⟨rfl⟩:=Option.some.inj hs;have hc_0:decide (-1000≤a∧a≤1000 ∧ -1000≤b∧b≤1000)=true:=hc;have hc:=of_decide_eq_true hc_0;exact EndZ.calls (MWay.endsO hc.1 hc.2.1 hc.2.2.1 hc.2.2.2) (.nil _) (by kernel_rfl) hax hN hfz
noncomputable def ctF:Tr ZCC:=(ctT.put 73 (some (dC spWayO))).put 74 (some (mC spTher))
theorem ctF_ok:ZCtsOk Try.prog ctF:=(ctT_ok.add rfl spWayO_ok).addM rfl spTher_ok

theorem upI_range:∀ (m:Nat) (a:Int),upI a m=(List.range m).map (fun i:Nat=>a+1+(i:Int))
 | 0,a=>rfl
 | m+1,a=>by
  show (a+1) :: upI (a+1) m=_;rw [upI_range m,List.range_succ_eq_map,List.map_cons,List.map_map];congr 1
  ·omega
  ·apply List.map_congr_left;intro i _;show a+1+1+(i:Int)=a+1+((i+1:Nat):Int);omega
theorem dnI_range:∀ (m:Nat) (a:Int),dnI a m=(List.range m).map (fun i:Nat=>a - 1 - (i:Int))
 | 0,a=>rfl
 | m+1,a=>by
  show (a - 1) :: dnI (a - 1) m=_;rw [dnI_range m,List.range_succ_eq_map,List.map_cons,List.map_map];congr 1
  ·omega
  ·apply List.map_congr_left;intro i _;show a - 1 - 1 - (i:Int)=a - 1 - ((i+1:Nat):Int);omega
noncomputable def castL (k:Nat):List Int:=(List.range k).map (fun i:Nat=>(i:Int))
theorem castL_len (k:Nat):(castL k).length=k:=by unfold castL;simp
theorem wayUp (k:Nat):wayL 0 (((k+1:Nat):Int) - 1)=castL (k+1):=by
 rw [show ((k+1:Nat):Int) - 1=(k:Int) by omega];unfold wayL castL;rw [List.range_succ_eq_map,List.map_cons,List.map_map]
 by_cases h:(0:Int) < k
 ·rw [dt h,bc_t,upI_range,show ((k:Int) - 0).toNat=k by omega];congr 1;apply List.map_congr_left;intro i _;show 0+1+(i:Int)=((i+1:Nat):Int);omega
 ·have:k=0:=by omega
  subst this;rfl
theorem wayDn (k:Nat):wayL (((k+1:Nat):Int) - 1) 0=(castL (k+1)).reverse:=by
 rw [show ((k+1:Nat):Int) - 1=(k:Int) by omega];unfold wayL;rw [df (show ¬ (k:Int) < 0 by omega),bc_f,dnI_range,show ((k:Int) - 0).toNat=k by omega];apply List.ext_getElem
 ·simp [castL]
 ·intro i h1 h2;simp at h1;rw [List.getElem_reverse];simp only [castL,List.getElem_map,List.getElem_range,List.length_map,List.length_range]
  cases i with
  | zero=>simp
  | succ i=>simp;omega
theorem upR_cast:∀ (m i:Nat),upR i m=(List.range m).map (fun j:Nat=>wk bCTC ((i+j:Nat):Int))
 | 0,i=>rfl
 | m+1,i=>by
  show wk bCTC (i:Int) :: upR (i+1) m=_;rw [upR_cast m,List.range_succ_eq_map,List.map_cons,List.map_map];congr 1;apply List.map_congr_left;intro j _;show wk bCTC ((i+1+j:Nat):Int)=wk bCTC ((i+(j+1):Nat):Int);rw [show i+1+j=i+(j+1) by omega]
theorem upR_eq (k:Nat):upR 0 k=(castL k).map (wk bCTC):=by
 rw [upR_cast,castL,List.map_map];apply List.map_congr_left;intro j _;show wk bCTC ((0+j:Nat):Int)=wk bCTC (j:Int);rw [Nat.zero_add]
theorem downR_eq:∀ k,downR k=(castL k).reverse.map (wk bCTC)
 | 0=>rfl
 | k+1=>by
  show wk bCTC (k:Int) :: downR k=_;rw [downR_eq k];unfold castL;rw [List.range_succ];simp
theorem castL_last (k:Nat):(castL (k+1)).getD ((castL (k+1)).length - 1) 0=(k:Int):=by
 rw [castL_len,getD_at (by rw [castL_len];omega)];simp [castL]
theorem castR_last (k:Nat):(castL (k+1)).reverse.getD ((castL (k+1)).reverse.length - 1) 0=0:=by
 rw [List.length_reverse,castL_len,getD_at (by rw [List.length_reverse,castL_len];omega),List.getElem_reverse];simp [castL]
theorem thereUp (w:ByteArray) (k:Nat):thereQ w (wayL 0 (((k+1:Nat):Int) - 1))=thereL w (k+1):=by
 rw [wayUp];unfold thereQ thereL;rw [castL_last,upR_eq,downR_eq,show ((k+1:Nat):Int) - 1=(k:Int) by omega]
theorem thereDn (k:Nat):thereQ bLLP (wayL (((k+1:Nat):Int) - 1) 0)=footL1 (k+1):=by
 rw [wayDn];unfold thereQ footL1;rw [castR_last,upR_eq,downR_eq,List.reverse_reverse]
theorem thereL_len (w:ByteArray) (k:Nat):(thereL w k).length=2 * k+1:=by unfold thereL;simp [upR_len,downR_len];omega
theorem wayUp_len (k:Nat):(wayL 0 (((k+1:Nat):Int) - 1)).length=k+1:=by rw [wayUp,castL_len]
theorem wayDn_len (k:Nat):(wayL (((k+1:Nat):Int) - 1) 0).length=k+1:=by rw [wayDn,List.length_reverse,castL_len]

namespace MFan
noncomputable def RUN (s:ES):ZF:=RZs 29 ctF [(atS 0 29 5,[[(0,none),(2,none),(4,some (3,103,.recs shW [])),(5,none)]]),(atS 0 29 9,[[(2,none),(4,some (3,103,.recs shW [])),(6,none)]])] [] false s

noncomputable def sF1 (n p i:Int) (q:List (List U)) (nn:Bool):NS:=⟨[⟨29,47,[(0,(EV.v (Value.int IntKind.i64 (n)))),(2,(EV.ptr 0 0)),(4,(EV.ptr 1 0)),(5,iv i)],[.it (.code (nav [1,1,1,0,1,0,0,0] (bodyOf Try.f29))),.it (.code (nav [1,1,1,0,1,0,0,1] (bodyOf Try.f29))),.it (.inLoop (nav [1,1,1,0,1,0,0] (bodyOf Try.f29))),.it (.inBlock 0),.it (.code (nav [1,1,1,1] (bodyOf Try.f29)))],[],Option.none⟩],[(0,(EK.cells 49 [(EV.v (Value.int IntKind.i64 (0))),(EV.v (Value.slice Option.none 0 0))] true)),(1,EK.cells 98 [iv p,EV.slO 2 3 q.length nn] true),(2,EK.seq 103 (.recs shW q) nn)],3⟩
noncomputable def sF2 (p k:Int) (q:List (List U)) (nn:Bool):NS:=⟨[⟨29,47,[(2,(EV.ptr 0 0)),(4,(EV.ptr 1 0)),(6,iv k)],[.it (.code (nav [1,1,1,1,0,1,0,0,0] (bodyOf Try.f29))),.it (.code (nav [1,1,1,1,0,1,0,0,1] (bodyOf Try.f29))),.it (.inLoop (nav [1,1,1,1,0,1,0,0] (bodyOf Try.f29))),.it (.inBlock 2),.it (.code (nav [1,1,1,1,1] (bodyOf Try.f29)))],[],Option.none⟩],[(0,(EK.cells 49 [(EV.v (Value.int IntKind.i64 (0))),(EV.v (Value.slice Option.none 0 0))] true)),(1,EK.cells 98 [iv p,EV.slO 2 3 q.length nn] true),(2,EK.seq 103 (.recs shW q) nn)],3⟩
theorem in_t (n:Int):RUN (st0 29 [iv n])=(bc (decide (n < (1:Int))) (.done (EV.tup [(EV.v (Value.agg (Array.mk [(Value.int IntKind.i64 (0)),(Value.slice Option.none 0 0)]))),(EV.v (Value.int IntKind.i64 (7)))]) [] 0) (bc (decide ((12:Int) < n)) (.done (EV.tup [(EV.v (Value.agg (Array.mk [(Value.int IntKind.i64 (0)),(Value.slice Option.none 0 0)]))),(EV.v (Value.int IntKind.i64 (7)))]) [] 0) (.at (sF1 (n) (IntKind.wrap IntKind.i64 (n+(1:Int))) ((1:Int)) ([]) (false))))):=by kernel_rfl
theorem st_t (n p i:Int) (q:List (List U)) (nn:Bool):RUN (stOf (sF1 n p i q nn))=(bc (decide (i < n)) (bc (decide ((-1000:Int)≤(0:Int)∧(0:Int)≤(1000:Int)∧(-1000:Int)≤IntKind.wrap IntKind.i64 (i - (1:Int))∧IntKind.wrap IntKind.i64 (i - (1:Int))≤(1000:Int))) (bc (bc (bc (Nat.beq (List.length (wayL (0:Int) (IntKind.wrap IntKind.i64 (i - (1:Int))))) (List.length (wayL (0:Int) (IntKind.wrap IntKind.i64 (i - (1:Int)))))) (bc (Nat.beq (List.length q) (List.length q)) (bc (eqN nn nn) (decide ((1:Nat)≤List.length (wayL (0:Int) (IntKind.wrap IntKind.i64 (i - (1:Int))))∧List.length (wayL (0:Int) (IntKind.wrap IntKind.i64 (i - (1:Int))))≤(1000:Nat)∧List.length q≤(60000:Nat))) false) false) false) true false) (.at (sF1 (n) (p) (IntKind.wrap IntKind.i64 (i+(1:Int))) (q ++ thereQ (zjoin (List.map (fun r=>U.str (List.headD r (U.i (0:Int)))) [[U.s { data:=#[(82:UInt8)] }],[U.s { data:=#[(80:UInt8)] }]]) { data:=#[] }) (wayL (0:Int) (IntKind.wrap IntKind.i64 (i - (1:Int))))) (true))) .bad) .bad) (.at (sF2 (p) (n) (q) (nn)))):=by kernel_rfl
theorem st_u (p k:Int) (q:List (List U)) (nn:Bool):RUN (stOf (sF2 p k q nn))=(bc (decide ((0:Int) < k))
 (bc (decide ((-1000:Int)≤(0:Int)∧(0:Int)≤(1000:Int)∧(-1000:Int)≤IntKind.wrap IntKind.i64 (k - (1:Int))∧IntKind.wrap IntKind.i64 (k - (1:Int))≤(1000:Int)))
  (bc (bc (bc (Nat.beq (List.length (wayL (0:Int) (IntKind.wrap IntKind.i64 (k - (1:Int))))) (List.length (wayL (0:Int) (IntKind.wrap IntKind.i64 (k - (1:Int)))))) (bc (Nat.beq (List.length q) (List.length q)) (bc (eqN nn nn) (decide ((1:Nat)≤List.length (wayL (0:Int) (IntKind.wrap IntKind.i64 (k - (1:Int))))∧List.length (wayL (0:Int) (IntKind.wrap IntKind.i64 (k - (1:Int))))≤(1000:Nat)∧List.length q≤(60000:Nat))) false) false) false) true false)
   (.at (sF2 (p) (IntKind.wrap IntKind.i64 (k - (1:Int))) (q ++ thereQ (zjoin (List.map (fun r=>U.str (List.headD r (U.i (0:Int)))) [[U.s { data:=#[(82:UInt8)] }],[U.s { data:=#[(80:UInt8)] }]]) { data:=#[] }) (wayL (0:Int) (IntKind.wrap IntKind.i64 (k - (1:Int))))) (true)))
   .bad)
  .bad)
 (bc (bc (bc (Nat.beq (List.length q) (List.length q)) true false) true false)
  (.done (EV.tup [(EV.agg [(EV.v (Value.int IntKind.i64 (p))),(EV.lst (SyC.recs [(Sh.int IntKind.i64),(Sh.int IntKind.i64),Sh.str] (q)))]),(EV.v (Value.int IntKind.i64 (0)))]) [] 0)
  .bad)):=by kernel_rfl
theorem zj:zjoin (List.map (fun r=>U.str (List.headD r (U.i 0))) [[U.s { data:=#[82] }],[U.s { data:=#[80] }]]) { data:=#[] }=bRP:=ba_ext rfl
theorem step {n p:Int} {i:Nat} {q:List (List U)} {nn:Bool} (hi:((i+1:Nat):Int) < n) (hn:n≤12) (hq:q.length≤1000):RUN (stOf (sF1 n p (i+1:Nat) q nn)) = .at (sF1 n p (i+2:Nat) (q ++ thereL bRP (i+1)) true):=by
 rw [st_t];have hw:=wayUp_len i;have e2:((i+1:Nat):Int)+1=((i+2:Nat):Int):=by omega
 simp (disch:=omega) only [Nat.add_eq,eqSy_self,eqN_self,bc_same,List.length_cons,ofn,wrap_in,dt,df,bltD,bltN,ble_of,bleN,beqD,bc_t,bc_f,nn_ok,Nat.zero_add,to_nat,Int.zero_add,Int.sub_zero,Int.sub_self,Int.cast_ofNat_Int,Int.natCast_zero,Int.toNat_zero,List.take_zero,List.nil_append,List.length_append,List.length_nil,zj,thereUp,e2]
theorem next {n p i:Int} {q:List (List U)} {nn:Bool} (hi:n≤i):RUN (stOf (sF1 n p i q nn)) = .at (sF2 p n q nn):=by
 rw [st_t];simp (disch:=omega) only [Nat.add_eq,eqSy_self,eqN_self,bc_same,List.length_cons,ofn,wrap_in,dt,df,bltD,bltN,ble_of,bleN,beqD,bc_t,bc_f,nn_ok,Nat.zero_add,to_nat,Int.zero_add,Int.sub_zero,Int.sub_self,Int.cast_ofNat_Int,Int.natCast_zero,Int.toNat_zero,List.take_zero,List.nil_append,List.length_append,List.length_nil]
theorem step2 {p:Int} {k:Nat} {q:List (List U)} {nn:Bool} (hk:k≤12) (hq:q.length≤1000):RUN (stOf (sF2 p (k+1:Nat) q nn)) = .at (sF2 p k (q ++ thereL bRP (k+1)) true):=by
 rw [st_u];have hw:=wayUp_len k;have e2:((k+1:Nat):Int) - 1=(k:Int):=by omega
 simp (disch:=omega) only [Nat.add_eq,eqSy_self,eqN_self,bc_same,List.length_cons,ofn,wrap_in,dt,df,bltD,bltN,ble_of,bleN,beqD,bc_t,bc_f,nn_ok,Nat.zero_add,to_nat,Int.zero_add,Int.sub_zero,Int.sub_self,Int.cast_ofNat_Int,Int.natCast_zero,Int.toNat_zero,List.take_zero,List.nil_append,List.length_append,List.length_nil,zj,thereUp];rw [e2]
theorem last {p:Int} {q:List (List U)} {nn:Bool}:RUN (stOf (sF2 p 0 q nn)) = .done (shE p q 0) [] 0:=by
 rw [st_u];simp (disch:=omega) only [Nat.add_eq,eqSy_self,eqN_self,bc_same,List.length_cons,ofn,wrap_in,dt,df,bltD,bltN,ble_of,bleN,beqD,bc_t,bc_f,nn_ok,Nat.zero_add,to_nat,Int.zero_add,Int.sub_zero,Int.sub_self,Int.cast_ofNat_Int,Int.natCast_zero,Int.toNat_zero,List.take_zero,List.nil_append,List.length_append,List.length_nil];rfl
theorem loop2 {n:Nat} {p:Int} (hn:n≤12):∀ (k:Nat) (q:List (List U)) (nn:Bool),k≤n→q.length+25 * k≤1000→EndZ 29 ctF false (stOf (sF2 p k q nn)) (shE p (q ++ fanR n (2 * n - k) k) 0) [] 0
 | 0,q,nn,h,hq=>by
  show EndZ _ _ _ _ (shE p (q ++ []) 0) _ _;rw [List.append_nil];exact .done last
 | k+1,q,nn,h,hq=>by
  have e:fanR n (2 * n - (k+1)) (k+1)=thereL bRP (k+1) ++ fanR n (2 * n - k) k:=by
   show thereL bRP (kk n (2 * n - (k+1))) ++ fanR n (2 * n - (k+1)+1) k=_;rw [show 2 * n - (k+1)+1=2 * n - k by omega,show kk n (2 * n - (k+1))=k+1 by unfold kk;split <;> omega]
  rw [e,← List.append_assoc];exact .at ctF_ok (step2 (by omega) (by omega)) (loop2 hn k _ true (by omega) (by rw [List.length_append,thereL_len];omega))
theorem loop1 {n:Nat} {p:Int} (hn:n≤12):∀ (m i:Nat) (q:List (List U)) (nn:Bool),i+1+m=n→q.length≤25 * i→EndZ 29 ctF false (stOf (sF1 n p (i+1:Nat) q nn)) (shE p (q ++ fanR n (i+1) (2 * n - (i+1))) 0) [] 0
 | 0,i,q,nn,h,hq=>by
  have:=loop2 (p:=p) hn n q nn (by omega) (by omega);rw [show 2 * n - n=n by omega] at this;rw [show i+1=n by omega,show 2 * n - n=n by omega];exact .at ctF_ok (next (by omega)) this
 | m+1,i,q,nn,h,hq=>by
  have e:fanR n (i+1) (2 * n - (i+1))=thereL bRP (i+1) ++ fanR n (i+2) (2 * n - (i+2)):=by
   rw [show 2 * n - (i+1)=(2 * n - (i+2))+1 by omega];show thereL bRP (kk n (i+1)) ++ fanR n (i+1+1) _=_;rw [show kk n (i+1)=i+1 by unfold kk;split <;> omega]
  rw [e,← List.append_assoc];exact .at ctF_ok (step (by omega) (by omega) (by omega)) (loop1 hn m (i+1) _ true (by omega) (by rw [List.length_append,thereL_len];omega))
theorem ends (n:Int):EndZ 29 ctF false (st0 29 [iv n]) (shE (fanP n) (fanL n) (fanE n)) [] 0:=by
 have h:=in_t n;unfold fanP fanL fanE
 by_cases h1:n < 1
 ·simp only [dt h1,bc_t] at h ⊢;exact (EndZ.done h).weak (shN_weak 7)
 by_cases h2:12 < n
 ·simp only [df h1,dt h2,bc_t,bc_f] at h ⊢;exact (EndZ.done h).weak (shN_weak 7)
 obtain ⟨k,rfl⟩:∃ k:Nat,n=(k:Int):=⟨n.toNat,by omega⟩;simp (disch:=omega) only [df h1,df h2,bc_f,bc_t,wrap_in] at h ⊢;rw [Int.toNat_natCast];exact .at ctF_ok h (loop1 (n:=k) (by omega) (k - 1) 0 [] false (by omega) (by simp))
end MFan
noncomputable def spPFan:ZCT:=fun ax=>match ax with
 | [.v (.int .i64 n)]=>some ⟨decide (True),shE (fanP n) (fanL n) (fanE n),[],0⟩
 | _=>none
theorem spPFan_ok:ZCtOk Try.prog 29 spPFan:=fun γ w us ax r hs hc hax hN hfz=>by
 unfold spPFan at hs;split at hs
 case h_2=>cases hs
 rename_i n;obtain ⟨rfl⟩:=Option.some.inj hs;have hc_0:decide (True)=true:=hc;have hc:=of_decide_eq_true hc_0;exact EndZ.calls (MFan.ends n) ctF_ok (by kernel_rfl) hax hN hfz

namespace MFoot
noncomputable def RUN (s:ES):ZF:=RZs 30 ctF [(atS 0 30 7,[[(0,none),(4,none),(6,some (3,103,.recs shW [])),(32,none),(33,none)]])] [] false s

noncomputable def sF (n m p i:Int) (q:List (List U)) (nn:Bool):NS:=⟨[⟨30,47,[(0,(EV.v (Value.int IntKind.i64 (n)))),(4,(EV.ptr 0 0)),(6,(EV.ptr 1 0)),(32,(EV.v (Value.int IntKind.i64 (m)))),(33,iv i)],[.it (.code (nav [1,1,1,0,1,0,0] (bodyOf Try.f30))),.it (.inLoop (nav [1,1,1,0,1,0,0] (bodyOf Try.f30))),.it (.inBlock 1),.it (.code (nav [1,1,1,1] (bodyOf Try.f30)))],[],Option.none⟩],[(0,(EK.cells 49 [(EV.v (Value.int IntKind.i64 (0))),(EV.v (Value.slice Option.none 0 0))] true)),(1,EK.cells 98 [iv p,EV.slO 2 3 q.length nn] true),(2,EK.seq 103 (.recs shW q) nn)],3⟩
theorem in_t (n m:Int):RUN (st0 30 [iv n,iv m])=(bc (decide (n < (1:Int))) (.done (EV.tup [(EV.v (Value.agg (Array.mk [(Value.int IntKind.i64 (0)),(Value.slice Option.none 0 0)]))),(EV.v (Value.int IntKind.i64 (7)))]) [] 0) (bc (decide ((23:Int) < n)) (.done (EV.tup [(EV.v (Value.agg (Array.mk [(Value.int IntKind.i64 (0)),(Value.slice Option.none 0 0)]))),(EV.v (Value.int IntKind.i64 (7)))]) [] 0) (bc (decide (m < (1:Int))) (.done (EV.tup [(EV.v (Value.agg (Array.mk [(Value.int IntKind.i64 (0)),(Value.slice Option.none 0 0)]))),(EV.v (Value.int IntKind.i64 (7)))]) [] 0) (bc (bc (bnot (IntKind.wrap IntKind.i64 (IntKind.wrap IntKind.i64 ((2:Int) * n)+(1:Int)) == (0:Int))) true false) (bc (decide (IntKind.wrap IntKind.i64 (Int.tdiv (400:Int) (IntKind.wrap IntKind.i64 (IntKind.wrap IntKind.i64 ((2:Int) * n)+(1:Int)))) < m)) (.done (EV.tup [(EV.v (Value.agg (Array.mk [(Value.int IntKind.i64 (0)),(Value.slice Option.none 0 0)]))),(EV.v (Value.int IntKind.i64 (3)))]) [] 0) (.at (sF (n) (m) (IntKind.wrap IntKind.i64 (n+(1:Int))) ((0:Int)) ([]) (false)))) .bad)))):=by kernel_rfl
theorem st_t (n m p i:Int) (q:List (List U)) (nn:Bool):RUN (stOf (sF n m p i q nn))=(bc (decide (i < m)) (bc (decide ((-1000:Int)≤IntKind.wrap IntKind.i64 (n - (1:Int))∧IntKind.wrap IntKind.i64 (n - (1:Int))≤(1000:Int)∧(-1000:Int)≤(0:Int)∧(0:Int)≤(1000:Int))) (bc (bc (bc (Nat.beq (List.length (wayL (IntKind.wrap IntKind.i64 (n - (1:Int))) (0:Int))) (List.length (wayL (IntKind.wrap IntKind.i64 (n - (1:Int))) (0:Int)))) (bc (Nat.beq (List.length q) (List.length q)) (bc (eqN nn nn) (decide ((1:Nat)≤List.length (wayL (IntKind.wrap IntKind.i64 (n - (1:Int))) (0:Int))∧List.length (wayL (IntKind.wrap IntKind.i64 (n - (1:Int))) (0:Int))≤(1000:Nat)∧List.length q≤(60000:Nat))) false) false) false) true false) (.at (sF (n) (m) (p) (IntKind.wrap IntKind.i64 (i+(1:Int))) (q ++ thereQ (zjoin (List.map (fun r=>U.str (List.headD r (U.i (0:Int)))) [[U.s { data:=#[(76:UInt8)] }],[U.s { data:=#[(76:UInt8)] }],[U.s { data:=#[(80:UInt8)] }]]) { data:=#[] }) (wayL (IntKind.wrap IntKind.i64 (n - (1:Int))) (0:Int))) (true))) .bad) .bad) (bc (bc (bc (Nat.beq (List.length q) (List.length q)) true false) true false) (.done (EV.tup [(EV.agg [(EV.v (Value.int IntKind.i64 (p))),(EV.lst (SyC.recs [(Sh.int IntKind.i64),(Sh.int IntKind.i64),Sh.str] (q)))]),(EV.v (Value.int IntKind.i64 (0)))]) [] 0) .bad)):=by kernel_rfl
theorem zj:zjoin (List.map (fun r=>U.str (List.headD r (U.i 0))) [[U.s { data:=#[76] }],[U.s { data:=#[76] }],[U.s { data:=#[80] }]]) { data:=#[] }=bLLP:=ba_ext rfl
theorem step {m p:Int} {n i:Nat} {q:List (List U)} {nn:Bool} (hi:(i:Int) < m) (hm:m≤400) (hn:n+1≤23) (hq:q.length≤50000):RUN (stOf (sF (n+1:Nat) m p i q nn)) = .at (sF (n+1:Nat) m p (i+1:Nat) (q ++ footL1 (n+1)) true):=by
 rw [st_t];have hw:=wayDn_len n;simp (disch:=omega) only [Nat.add_eq,eqSy_self,eqN_self,bc_same,List.length_cons,ofn,wrap_in,dt,df,bltD,bltN,ble_of,bleN,beqD,bc_t,bc_f,nn_ok,Nat.zero_add,to_nat,Int.zero_add,Int.sub_zero,Int.sub_self,Int.cast_ofNat_Int,Int.natCast_zero,Int.toNat_zero,List.take_zero,List.nil_append,List.length_append,List.length_nil,zj,thereDn];rfl
theorem last {n m p:Int} {i:Nat} {q:List (List U)} {nn:Bool} (hi:m≤(i:Int)):RUN (stOf (sF n m p i q nn)) = .done (shE p q 0) [] 0:=by
 rw [st_t];simp (disch:=omega) only [Nat.add_eq,eqSy_self,eqN_self,bc_same,List.length_cons,ofn,wrap_in,dt,df,bltD,bltN,ble_of,bleN,beqD,bc_t,bc_f,nn_ok,Nat.zero_add,to_nat,Int.zero_add,Int.sub_zero,Int.sub_self,Int.cast_ofNat_Int,Int.natCast_zero,Int.toNat_zero,List.take_zero,List.nil_append,List.length_append,List.length_nil];rfl
theorem loop {m n:Nat} {p:Int} (hm:m≤400) (hn:n+1≤23):∀ (k i:Nat) (q:List (List U)) (nn:Bool),i+k=m→q.length≤47 * i→EndZ 30 ctF false (stOf (sF (n+1:Nat) m p i q nn)) (shE p (q ++ footR (n+1) k) 0) [] 0
 | 0,i,q,nn,h,hq=>by
  show EndZ _ _ _ _ (shE p (q ++ []) 0) _ _;rw [List.append_nil];exact .done (last (by omega))
 | k+1,i,q,nn,h,hq=>by
  show EndZ _ _ _ _ (shE p (q ++ (footL1 (n+1) ++ footR (n+1) k)) 0) _ _;rw [← List.append_assoc];exact .at ctF_ok (step (by omega) (by omega) hn (by omega)) (loop hm hn k (i+1) _ true (by omega) (by unfold footL1;simp [upR_len,downR_len];omega))
theorem ends (n m:Int):EndZ 30 ctF false (st0 30 [iv n,iv m]) (shE (footP n m) (footL n m) (footE n m)) [] 0:=by
 have h:=in_t n m;unfold footP footL
 by_cases h1:n < 1
 ·have e:footE n m=7:=by unfold footE;rw [dt h1,bc_t]
  rw [e];simp only [dt h1,bc_t] at h;exact (EndZ.done h).weak (shN_weak 7)
 by_cases h2:23 < n
 ·have e:footE n m=7:=by unfold footE;rw [df h1,bc_f,dt h2,bc_t]
  rw [e];simp only [df h1,dt h2,bc_t,bc_f] at h;exact (EndZ.done h).weak (shN_weak 7)
 by_cases h3:m < 1
 ·have e:footE n m=7:=by unfold footE;rw [df h1,bc_f,df h2,bc_f,dt h3,bc_t]
  rw [e];simp only [df h1,df h2,dt h3,bc_t,bc_f] at h;exact (EndZ.done h).weak (shN_weak 7)
 have g1:0≤Int.tdiv 400 (2 * n+1):=Int.tdiv_nonneg (by omega) (by omega);have g2:Int.tdiv 400 (2 * n+1)≤400:=Int.tdiv_le_self _ (by omega);have g3:(2 * n+1 == 0)=false:=by simp;omega
 have g4:bnot (2 * n+1 == 0)=true:=by rw [g3];rfl
 rw [wrap_in (2 * n) (by omega) (by omega),wrap_in (2 * n+1) (by omega) (by omega),wrap_in (Int.tdiv 400 (2 * n+1)) (by omega) (by omega)] at h
 by_cases h4:Int.tdiv 400 (2 * n+1) < m
 ·have e:footE n m=3:=by unfold footE;rw [df h1,bc_f,df h2,bc_f,df h3,bc_f,dt h4,bc_t]
  rw [e];simp only [df h1,df h2,df h3,dt h4,g4,bc_t,bc_f] at h;exact (EndZ.done h).weak (shN_weak 3)
 have e:footE n m=0:=by unfold footE;rw [df h1,bc_f,df h2,bc_f,df h3,bc_f,df h4,bc_f]
 rw [e];simp (disch:=omega) only [df h1,df h2,df h3,df h4,g4,bc_t,bc_f,dt,wrap_in] at h;obtain ⟨n',rfl⟩:∃ k:Nat,n=((k+1:Nat):Int):=⟨n.toNat - 1,by omega⟩;obtain ⟨m',rfl⟩:∃ k:Nat,m=(k:Int):=⟨m.toNat,by omega⟩;have:=loop (n:=n') (m:=m') (p:=((n'+1:Nat):Int)+1) (by omega) (by omega) m' 0 [] false (by omega) (by simp);rw [List.nil_append] at this;exact .at ctF_ok h this
end MFoot
noncomputable def spPFoot:ZCT:=fun ax=>match ax with
 | [.v (.int .i64 n),.v (.int .i64 m)]=>some ⟨decide (True),shE (footP n m) (footL n m) (footE n m),[],0⟩
 | _=>none
theorem spPFoot_ok:ZCtOk Try.prog 30 spPFoot:=fun γ w us ax r hs hc hax hN hfz=>by
 unfold spPFoot at hs;split at hs
 case h_2=>cases hs
 rename_i n m;obtain ⟨rfl⟩:=Option.some.inj hs;have hc_0:decide (True)=true:=hc;have hc:=of_decide_eq_true hc_0;exact EndZ.calls (MFoot.ends n m) ctF_ok (by kernel_rfl) hax hN hfz
end Go.Proofs.Ytfffbioafhppiaa.EvM
namespace Go.Proofs.Ytfffbioafhppiaa.EvM
open Go.Proofs Go.Proofs.Ytfffbioafhppiaa.Ev
theorem isC_data (r:List U):isC r=((kW r).data.toList == [67,84,67]):=by
 unfold isC;rw [ByteArray.toList_eq,ByteArray.toList_eq]
noncomputable def isD (r:List U):Bool:=(kW r).data.toList == [67,84,67]
noncomputable def pasB (n:Nat) (r:List U):Bool:=(kK r == 1) && decide (0≤kA r) && decide (kA r+2≤n) && decide ((kW r).size≤16) && (isD r || (List.range (kW r).size).all fun j=>byteAt (kW r) j == 84 || byteAt (kW r) j == 76 || byteAt (kW r) j == 82 || byteAt (kW r) j == 80)
theorem pasB_ok {n:Nat} {r:List U} (h:pasB n r=true):PasR n r:=by
 unfold pasB at h;simp only [Bool.and_eq_true,Bool.or_eq_true,beq_iff_eq,decide_eq_true_eq,List.all_eq_true,List.mem_range] at h;obtain ⟨⟨⟨⟨h1,h2⟩,h3⟩,h4⟩,h5⟩:=h;refine ⟨h1,h2,h3,h4,?_⟩;have e:isC r=isD r:=isC_data r
 cases c:isC r with
 | true=>exact .inl rfl
 | false=>
  rw [e] at c;rcases h5 with h5 | h5
  ·rw [c] at h5;cases h5
  ·refine .inr ⟨rfl,fun j hj=>?_⟩;rcases h5 j hj with ((h | h) | h) | h
   ·exact .inl h
   ·exact .inr (.inl h)
   ·exact .inr (.inr (.inl h))
   ·exact .inr (.inr (.inr h))

noncomputable def wdD (W:List (List U)):List Int:=W.flatMap fun r=>if isD r then [kA r+1] else []
theorem wdC_D (W:List (List U)):wdC W=wdD W:=by
 unfold wdC wdD;congr 1
 funext r
 rw [isC_data];rfl
theorem wdC_app (A B:List (List U)):wdC (A ++ B)=wdC A ++ wdC B:=by unfold wdC;rw [List.flatMap_append]

def swN (l:List Nat) (j:Nat):List Nat:=(l.set j (l.getD (j+1) 0)).set (j+1) (l.getD j 0)
def runN:List Int→List Nat→List Nat
 | [],l=>l
 | x :: w,l=>runN w (swN l (x.natAbs - 1))
def cntN:List Int→List Nat→Nat→Nat→Int
 | [],_,_,_=>0
 | x :: w,l,a,b=>(if (a == l.getD (x.natAbs - 1) 0 && b == l.getD x.natAbs 0) || (a == l.getD x.natAbs 0 && b == l.getD (x.natAbs - 1) 0) then sgL x else 0)+cntN w (swN l (x.natAbs - 1)) a b
theorem runN_app:∀ (u v:List Int) (l:List Nat),runN (u ++ v) l=runN v (runN u l)
 | [],v,l=>rfl
 | x :: u,v,l=>runN_app u v _
theorem cntN_app:∀ (u v:List Int) (l:List Nat) (a b:Nat),cntN (u ++ v) l a b=cntN u l a b+cntN v (runN u l) a b
 | [],v,l,a,b=>by show cntN v l a b=0+cntN v l a b;omega
 | x :: u,v,l,a,b=>by
  show _+cntN (u ++ v) _ a b=(_+cntN u _ a b)+cntN v (runN u _) a b;rw [cntN_app u v,Int.add_assoc]
def RelN (n:Nat) (l:List Nat) (p:Nat→Nat):Prop:=l.length=n∧∀ y,y < n→l.getD y 0=p y
theorem RelN.sw {n:Nat} {l:List Nat} {p:Nat→Nat} (h:RelN n l p) {k:Nat} (hk:0 < k∧k < n):RelN n (swN l (k - 1)) fun y=>p (Ev.sw k y):=by
 obtain ⟨h1,h2⟩:=h;refine ⟨by unfold swN;rw [List.length_set,List.length_set,h1],fun y hy=>?_⟩;unfold swN;rw [show k - 1+1=k by omega,List.getD_eq_getElem?_getD,List.getElem?_set,List.length_set,h1]
 by_cases c:k=y
 ·subst c;rw [if_pos rfl,if_pos hk.2];show l.getD (k - 1) 0=p (Ev.sw k k);rw [Ev.sw_at hk.1];exact h2 (k - 1) (by omega)
 ·rw [if_neg c,List.getElem?_set,h1]
  by_cases d:k - 1=y
  ·subst d;rw [if_pos rfl,if_pos (by omega)];show l.getD k 0=p (Ev.sw k (k - 1));rw [Ev.sw_lo hk.1];exact h2 k hk.2
  ·rw [if_neg d,← List.getD_eq_getElem?_getD,h2 y hy];show p y=p (Ev.sw k y);unfold Ev.sw;rw [if_neg (by omega),if_neg (by omega)]
theorem sim {n:Nat}:∀ {w:List Int} {l:List Nat} {p:Nat→Nat},Vld n w→RelN n l p→RelN n (runN w l) (lnF w p)∧∀ a b,cntN w l a b=lk w p a b
 | [],l,p,_,h=>⟨h,fun _ _=>rfl⟩
 | x :: w,l,p,hv,h=>by
  have hx:=hv.head;obtain ⟨i1,i2⟩:=sim hv.tail (h.sw hx);refine ⟨i1,fun a b=>?_⟩;show (if _ then _ else _)+cntN w _ a b=(if _ then _ else _)+lk w _ a b
  rw [i2,h.2 (x.natAbs - 1) (by omega),h.2 x.natAbs hx.2];congr 1
  by_cases c:a=p (x.natAbs - 1)∧b=p x.natAbs∨a=p x.natAbs∧b=p (x.natAbs - 1)
  ·rw [if_pos c,if_pos];simpa using c
  ·rw [if_neg c,if_neg];simpa using c
theorem relN_id (n:Nat):RelN n (List.range n) id:=⟨List.length_range,fun y hy=>by
 rw [List.getD_eq_getElem?_getD,List.getElem?_range hy];rfl⟩

theorem line_back {n:Nat} {w:List Int} (hv:Vld n w) (h:runN w (List.range n)=List.range n):pR (lnP n w)=RLin.rng n:=by
 obtain ⟨s1,_⟩:=sim hv (relN_id n);rw [h] at s1;unfold pR RLin.rng;refine List.map_congr_left fun x hx=>?_;have hx:=List.mem_range.1 hx;have e:(lnP n w).f x=lnF w id x:=by
  have:=lnP_f hv (Pm.one n);exact congrFun this x
 rw [e,← s1.2 x hx];have:=(relN_id n).2 x hx;rw [this];rfl

noncomputable def spiC (n:Nat):Bool:=
 (bodyL (n:Int) ++ [wk bP ((n:Int) - 1)]).all (pasB (2 * n)) && (runN (wdD (bodyL (n:Int)) ++ wdD (bodyL (n:Int))) (List.range (2 * n)) == List.range (2 * n)) && (List.range (2 * n)).all fun i=>(List.range (2 * n)).all fun k=>cntN (wdD (bodyL (n:Int)) ++ wdD (bodyL (n:Int))) (List.range (2 * n)) i k == (if decide (i < n) == decide (k < n) then 0 else 2)
theorem spi_all:(List.range' 1 6).all spiC=true:=by kernel_rfl
noncomputable def twsC (t:Nat):Bool:=!((lets bT (t:Int)).data.toList == [67,84,67]) && decide ((lets bT (t:Int)).size≤16) && (List.range (lets bT (t:Int)).size).all fun j=>byteAt (lets bT (t:Int)) j == 84
theorem tws_all:(List.range' 1 16).all twsC=true:=by kernel_rfl

noncomputable def fanC (n:Nat):Bool:=
 (fanL (n:Int)).all (pasB (n+1)) && (runN (wdD (fanL (n:Int))) (List.range (n+1)) == List.range (n+1)) && decide ((fanL (n:Int)).length≤400) && (List.range' 1 n).all fun k=>cntN (wdD (fanL (n:Int))) (List.range (n+1)) 0 k == 2 * (2 * ((n:Int) - k)+1)
theorem fan_all:(List.range' 1 12).all fanC=true:=by kernel_rfl

noncomputable def footC (n:Nat):Bool:=
 (footL1 n).all (pasB (n+1)) && (runN (wdD (footL1 n)) (List.range (n+1)) == List.range (n+1)) && ((footL1 n).length == 2 * n+1) && (List.range n).all fun k=>cntN (wdD (footL1 n)) (List.range (n+1)) n k == 2
theorem foot_all:(List.range' 1 23).all footC=true:=by kernel_rfl
end Go.Proofs.Ytfffbioafhppiaa.EvM
namespace Go.Proofs.Ytfffbioafhppiaa.EvM
open Go.Proofs Go.Proofs.Ytfffbioafhppiaa.Ev

def BacOk (l:List Int):Prop:=l.length≤1000∧∀ j,j < l.length→l.getD j 0=j
noncomputable instance BacOk.dec (l:List Int):Decidable (BacOk l):=Classical.propDecidable _
theorem bac_of {n:Nat} {w:List Int} (hn:n≤1000) (hv:Vld n w) (h:runN w (List.range n)=List.range n):BacOk (pR (lnP n w)):=by
 have e:=line_back hv h;refine ⟨by rw [pR_len];exact hn,fun j hj=>?_⟩;rw [pR_len] at hj;rw [e];unfold RLin.rng;rw [List.getD_eq_getElem?_getD,List.getElem?_map,List.getElem?_range hj];rfl
theorem lk_cnt {n:Nat} {w:List Int} (hv:Vld n w) (a b:Nat):PLnk.lkN w a b=cntN w (List.range n) a b:=((sim hv (relN_id n)).2 a b).symm
theorem all_range {f:Nat→Bool} {a m:Nat} (h:(List.range' a m).all f=true) {k:Nat} (h1:a≤k) (h2:k < a+m):f k=true:=List.all_eq_true.1 h k (List.mem_range'_1.2 ⟨h1,h2⟩)
theorem wdC_off {W:List (List U)} (h:∀ r,r ∈ W→isC r=false):wdC W=[]:=by
 unfold wdC;rw [List.flatMap_eq_nil_iff];intro r hr;rw [h r hr];rfl
theorem wk_K (s:ByteArray) (a:Int):kK (wk s a)=1:=rfl
theorem wk_A (s:ByteArray) (a:Int):kA (wk s a)=a:=rfl
theorem wk_W (s:ByteArray) (a:Int):kW (wk s a)=s:=rfl

theorem twR_in (t:Int):∀ (m i:Nat) {r:List U},r ∈ twR t i m→∃ j:Nat,i≤j∧j < i+m∧r=wk (lets bT t) (2 * (j:Int))
 | 0,i,r,h=>by cases h
 | m+1,i,r,h=>by
  have h:r ∈ wk (lets bT t) (2 * (i:Int)) :: twR t (i+1) m:=h;rcases List.mem_cons.1 h with rfl | h
  ·exact ⟨i,Nat.le_refl _,by omega,rfl⟩
  ·obtain ⟨j,h1,h2,e⟩:=twR_in t m (i+1) h;exact ⟨j,by omega,by omega,e⟩
theorem tws_in {k t:Nat} (ht:t≤16) {r:List U} (h:r ∈ tws (k:Int) (t:Int)):PasR (2 * k) r∧isC r=false:=by
 unfold tws at h
 by_cases c:(0:Int) < (t:Int)
 ·rw [dt c,bc_t] at h;obtain ⟨j,h1,h2,rfl⟩:=twR_in _ _ _ h;rw [Int.toNat_natCast] at h2;have hc:=all_range tws_all (k:=t) (by omega) (by omega);unfold twsC at hc;simp only [Bool.and_eq_true,Bool.not_eq_true',decide_eq_true_eq,List.all_eq_true,List.mem_range,beq_iff_eq] at hc;obtain ⟨⟨c1,c2⟩,c3⟩:=hc;have hC:isC (wk (lets bT (t:Int)) (2 * (j:Int)))=false:=by rw [isC_data,wk_W];exact c1
  refine ⟨⟨wk_K _ _,by rw [wk_A];omega,by rw [wk_A];omega,by rw [wk_W];exact c2,.inr ⟨hC,fun i hi=>.inl ?_⟩⟩,hC⟩;rw [wk_W] at hi ⊢;exact c3 i hi
 ·rw [df c,bc_f] at h;cases h
structure SpiOk (k t:Nat):Prop where
 ok:spiOk (k:Int) (t:Int)=true
 pas:PasOk (2 * (k:Int)) (spiL (k:Int) (tws (k:Int) (t:Int)))
 bac:BacOk (pR (lnP (2 * k) (wdC (spiL (k:Int) (tws (k:Int) (t:Int))))))
 lk:∀ i j,i < 2 * k→j < 2 * k→PLnk.lkN (wdC (spiL (k:Int) (tws (k:Int) (t:Int)))) i j=if decide (i < k) == decide (j < k) then 0 else 2
theorem twR_len (t:Int):∀ (m i:Nat),(twR t i m).length=m
 | 0,_=>rfl
 | m+1,i=>by show (twR t (i+1) m).length+1=_;rw [twR_len t m]
theorem body_len:(List.range' 1 6).all (fun n=>decide ((bodyL (n:Int)).length≤36))=true:=by kernel_rfl
theorem spi_ok {k t:Nat} (h1:1≤k) (h2:k≤6) (ht:t≤16):SpiOk k t:=by
 have hc:=all_range spi_all (k:=k) h1 (by omega);unfold spiC at hc;simp only [Bool.and_eq_true,beq_iff_eq,List.all_eq_true,List.mem_range] at hc;obtain ⟨⟨c1,c2⟩,c3⟩:=hc;have hbl:=of_decide_eq_true (all_range body_len (k:=k) h1 (by omega));have hB:∀ r,r ∈ bodyL (k:Int)→PasR (2 * k) r:=fun r hr=>pasB_ok (c1 r (List.mem_append_left _ hr));have hP:∀ r,r ∈ [wk bP ((k:Int) - 1)]→PasR (2 * k) r:=fun r hr=>pasB_ok (c1 r (List.mem_append_right _ hr));have hq:=fun r hr=>(tws_in (k:=k) ht (r:=r) hr).1
 have eq:wdC (tws (k:Int) (t:Int))=[]:=wdC_off fun r hr=>(tws_in (k:=k) ht hr).2;have eP:wdC [wk bP ((k:Int) - 1)]=[]:=wdC_off fun r hr=>by
  obtain rfl:=List.mem_singleton.1 hr;rw [isC_data,wk_W];rfl
 have ew:wdC (spiL (k:Int) (tws (k:Int) (t:Int)))=wdD (bodyL (k:Int)) ++ wdD (bodyL (k:Int)):=by
  unfold spiL;rw [wdC_app,wdC_app,wdC_app,wdC_app,eq,eP,wdC_D];simp
 have hR:∀ r,r ∈ spiL (k:Int) (tws (k:Int) (t:Int))→PasR (2 * k) r:=fun r hr=>by
  unfold spiL at hr;simp only [List.mem_append] at hr;rcases hr with (((h | h) | h) | h) | h
  ·exact hq r h
  ·exact hB r h
  ·exact hP r h
  ·exact hB r h
  ·exact hq r h
 have hv:=wdC_vld hR;have htl:(tws (k:Int) (t:Int)).length≤6:=by
  unfold tws
  by_cases c:(0:Int) < (t:Int)
  ·rw [dt c,bc_t,twR_len];omega
  ·rw [df c,bc_f];exact Nat.zero_le _
 have hl:(spiL (k:Int) (tws (k:Int) (t:Int))).length≤400:=by
  unfold spiL;simp only [List.length_append,List.length_cons,List.length_nil];omega
 refine ⟨?_,⟨by omega,by omega,hl,?_⟩,?_,fun i j hi hj=>?_⟩
 ·unfold spiOk;rw [df (show ¬ (k:Int) < 1 by omega),df (show ¬ (6:Int) < k by omega),df (show ¬ (t:Int) < 0 by omega),df (show ¬ (16:Int) < t by omega)];rfl
 ·rw [show Int.toNat (2 * (k:Int))=2 * k by omega];exact hR
 ·rw [ew] at hv ⊢;exact bac_of (by omega) hv c2
 ·rw [ew] at hv ⊢;rw [lk_cnt hv,c3 i hi j hj];cases decide (i < k) <;> cases decide (j < k) <;> rfl

structure FanOk (k:Nat):Prop where
 e:fanE (k:Int)=0
 pp:fanP (k:Int)=((k+1:Nat):Int)
 pas:PasOk ((k+1:Nat):Int) (fanL (k:Int))
 bac:BacOk (pR (lnP (k+1) (wdC (fanL (k:Int)))))
 lk:∀ i,1≤i→i≤k→PLnk.lkN (wdC (fanL (k:Int))) 0 i=2 * (2 * ((k:Int) - i)+1)
theorem fan_ok {k:Nat} (h1:1≤k) (h2:k≤12):FanOk k:=by
 have hc:=all_range fan_all (k:=k) h1 (by omega);unfold fanC at hc;simp only [Bool.and_eq_true,beq_iff_eq,List.all_eq_true,List.mem_range'_1,decide_eq_true_eq] at hc;obtain ⟨⟨⟨c1,c2⟩,c3⟩,c4⟩:=hc;have hR:∀ r,r ∈ fanL (k:Int)→PasR (k+1) r:=fun r hr=>pasB_ok (c1 r hr);have hv:=wdC_vld hR;have ew:=wdC_D (fanL (k:Int));refine ⟨?_,?_,⟨by omega,by omega,c3,by rw [Int.toNat_natCast];exact hR⟩,?_,fun i hi hj=>?_⟩
 ·unfold fanE;rw [df (show ¬ (k:Int) < 1 by omega),df (show ¬ (12:Int) < k by omega)];rfl
 ·unfold fanP;rw [df (show ¬ (k:Int) < 1 by omega),df (show ¬ (12:Int) < k by omega),bc_f,bc_f];omega
 ·rw [ew] at hv ⊢;exact bac_of (by omega) hv c2
 ·rw [ew] at hv ⊢;rw [lk_cnt hv];exact c4 i ⟨hi,by omega⟩

structure FootOk (p r:Nat):Prop where
 e:footE (p:Int) (r:Int)=0
 pp:footP (p:Int) (r:Int)=((p+1:Nat):Int)
 pas:PasOk ((p+1:Nat):Int) (footL (p:Int) (r:Int))
 bac:BacOk (pR (lnP (p+1) (wdC (footL (p:Int) (r:Int)))))
 lk:∀ i,i < p→PLnk.lkN (wdC (footL (p:Int) (r:Int))) p i=2 * (r:Int)
theorem foot_rows {p:Nat} (c1:∀ r,r ∈ footL1 p→PasR (p+1) r) (c2:runN (wdD (footL1 p)) (List.range (p+1))=List.range (p+1)) (c3:(footL1 p).length=2 * p+1) (c4:∀ i,i < p→cntN (wdD (footL1 p)) (List.range (p+1)) p i=2) :
  ∀ r:Nat,(∀ x,x ∈ footR p r→PasR (p+1) x)∧runN (wdC (footR p r)) (List.range (p+1))=List.range (p+1)∧(footR p r).length=(2 * p+1) * r∧∀ i,i < p→cntN (wdC (footR p r)) (List.range (p+1)) p i=2 * (r:Int)
 | 0=>⟨fun x h=>(by cases h),rfl,rfl,fun i hi=>rfl⟩
 | r+1=>by
  obtain ⟨i1,i2,i3,i4⟩:=foot_rows c1 c2 c3 c4 r;have e:footR p (r+1)=footL1 p ++ footR p r:=rfl;have ew:wdC (footR p (r+1))=wdD (footL1 p) ++ wdC (footR p r):=by rw [e,wdC_app,wdC_D]
  refine ⟨fun x hx=>?_,?_,?_,fun i hi=>?_⟩
  ·rw [e] at hx;exact (List.mem_append.1 hx).elim (c1 x) (i1 x)
  ·rw [ew,runN_app,c2,i2]
  ·rw [e,List.length_append,c3,i3,Nat.mul_succ];omega
  ·rw [ew,cntN_app,c2,c4 i hi,i4 i hi];omega
theorem foot_ok {p r:Nat} (h1:1≤p) (h2:p≤23) (hr:1≤r) (hr2:(r:Int)≤Int.tdiv 400 (2 * (p:Int)+1)):FootOk p r:=by
 have hc:=all_range foot_all (k:=p) h1 (by omega);unfold footC at hc;simp only [Bool.and_eq_true,beq_iff_eq,List.all_eq_true,List.mem_range] at hc;obtain ⟨⟨⟨c1,c2⟩,c3⟩,c4⟩:=hc;obtain ⟨i1,i2,i3,i4⟩:=foot_rows (fun x hx=>pasB_ok (c1 x hx)) c2 c3 c4 r;have eE:footE (p:Int) (r:Int)=0:=by
  unfold footE;rw [df (show ¬ (p:Int) < 1 by omega),df (show ¬ (23:Int) < p by omega),df (show ¬ (r:Int) < 1 by omega),df (show ¬ Int.tdiv 400 (2 * (p:Int)+1) < (r:Int) by omega)];rfl
 have eL:footL (p:Int) (r:Int)=footR p r:=by
  unfold footL;rw [eE,show ((0:Int) == 0)=true from rfl,bc_t,Int.toNat_natCast,Int.toNat_natCast]
 have hd:Int.tdiv 400 (2 * (p:Int)+1)=((400 / (2 * p+1):Nat):Int):=rfl;have hlen:(2 * p+1) * r≤400:=by
  rw [hd] at hr2;have h3:r≤400 / (2 * p+1):=by omega
  calc (2 * p+1) * r≤(2 * p+1) * (400 / (2 * p+1)):=Nat.mul_le_mul_left _ h3
   _≤400:=Nat.mul_div_le 400 (2 * p+1)
 have hv:=wdC_vld i1;refine ⟨eE,?_,⟨by omega,by omega,by rw [eL,i3];exact hlen,by rw [Int.toNat_natCast,eL];exact i1⟩,?_,fun i hi=>?_⟩
 ·unfold footP;rw [eE,show ((0:Int) == 0)=true from rfl,bc_t];omega
 ·rw [eL];exact bac_of (by omega) hv i2
 ·rw [eL,lk_cnt hv];exact i4 i hi
theorem win_ok:PasOk 4 winL:=by
 refine ⟨by decide,by decide,by decide,?_⟩;have:winL.all (pasB 4)=true:=by kernel_rfl
 exact fun r hr=>pasB_ok (List.all_eq_true.1 this r hr)
end Go.Proofs.Ytfffbioafhppiaa.EvM
namespace Go.Proofs.Ytfffbioafhppiaa.Ev
open Go.Proofs
theorem joinOk:CtOk Try.prog 125 ctJoin:=ctJoin_ok Try.strings_Join_none Try.strings_Join
theorem repeatOk:CtOk Try.prog 71 ctRepeat:=ctRepeat_ok Try.strings_Repeat
end Go.Proofs.Ytfffbioafhppiaa.Ev
namespace Go.Proofs.Ytfffbioafhppiaa.Ev
open Go.Proofs
noncomputable def fj0:Tr FI:=.nil
theorem fj0Ok:FTok Try.prog fj0:=FTok.nil _
noncomputable def fj1:Tr FI:=fj0.put 26 (some (ofFunc Try.f26))
theorem fj1Ok:FTok Try.prog fj1:=fj0Ok.add (by kernel_rfl) Try.func26 (by kernel_rfl) (by kernel_rfl)
noncomputable def fj2:Tr FI:=fj1.put 29 (some (ofFunc Try.f29))
theorem fj2Ok:FTok Try.prog fj2:=fj1Ok.add (by kernel_rfl) Try.func29 (by kernel_rfl) (by kernel_rfl)
noncomputable def fj3:Tr FI:=fj2.put 30 (some (ofFunc Try.f30))
theorem fj3Ok:FTok Try.prog fj3:=fj2Ok.add (by kernel_rfl) Try.func30 (by kernel_rfl) (by kernel_rfl)
noncomputable def fj4:Tr FI:=fj3.put 32 (some (ofFunc Try.f32))
theorem fj4Ok:FTok Try.prog fj4:=fj3Ok.add (by kernel_rfl) Try.func32 (by kernel_rfl) (by kernel_rfl)
noncomputable def fj5:Tr FI:=fj4.put 69 (some (ofFunc Try.f69))
theorem fj5Ok:FTok Try.prog fj5:=fj4Ok.add (by kernel_rfl) Try.func69 (by kernel_rfl) (by kernel_rfl)
noncomputable def fj6:Tr FI:=fj5.put 70 (some (ofFunc Try.f70))
theorem fj6Ok:FTok Try.prog fj6:=fj5Ok.add (by kernel_rfl) Try.func70 (by kernel_rfl) (by kernel_rfl)
noncomputable def fj7:Tr FI:=fj6.put 71 (some (ofFuncC Try.f71 ctRepeat))
theorem fj7Ok:FTok Try.prog fj7:=fj6Ok.addC (by kernel_rfl) Try.func71 (by kernel_rfl) (by kernel_rfl) repeatOk
noncomputable def fj8:Tr FI:=fj7.put 72 (some (ofFunc Try.f72))
theorem fj8Ok:FTok Try.prog fj8:=fj7Ok.add (by kernel_rfl) Try.func72 (by kernel_rfl) (by kernel_rfl)
noncomputable def fj9:Tr FI:=fj8.put 73 (some (ofFunc Try.f73))
theorem fj9Ok:FTok Try.prog fj9:=fj8Ok.add (by kernel_rfl) Try.func73 (by kernel_rfl) (by kernel_rfl)
noncomputable def fj10:Tr FI:=fj9.put 74 (some (ofFunc Try.f74))
theorem fj10Ok:FTok Try.prog fj10:=fj9Ok.add (by kernel_rfl) Try.func74 (by kernel_rfl) (by kernel_rfl)
noncomputable def fj11:Tr FI:=fj10.put 75 (some (ofFunc Try.f75))
theorem fj11Ok:FTok Try.prog fj11:=fj10Ok.add (by kernel_rfl) Try.func75 (by kernel_rfl) (by kernel_rfl)
noncomputable def fj12:Tr FI:=fj11.put 76 (some (ofFunc Try.f76))
theorem fj12Ok:FTok Try.prog fj12:=fj11Ok.add (by kernel_rfl) Try.func76 (by kernel_rfl) (by kernel_rfl)
noncomputable def fj13:Tr FI:=fj12.put 77 (some (ofFunc Try.f77))
theorem fj13Ok:FTok Try.prog fj13:=fj12Ok.add (by kernel_rfl) Try.func77 (by kernel_rfl) (by kernel_rfl)
noncomputable def fj14:Tr FI:=fj13.put 79 (some (ofFunc Try.f79))
theorem fj14Ok:FTok Try.prog fj14:=fj13Ok.add (by kernel_rfl) Try.func79 (by kernel_rfl) (by kernel_rfl)
noncomputable def fj15:Tr FI:=fj14.put 118 (some (ofFunc Try.f118))
theorem fj15Ok:FTok Try.prog fj15:=fj14Ok.add (by kernel_rfl) Try.func118 (by kernel_rfl) (by kernel_rfl)
noncomputable def fj16:Tr FI:=fj15.put 119 (some (ofFunc Try.f119))
theorem fj16Ok:FTok Try.prog fj16:=fj15Ok.add (by kernel_rfl) Try.func119 (by kernel_rfl) (by kernel_rfl)
noncomputable def fj17:Tr FI:=fj16.put 120 (some (ofFunc Try.f120))
theorem fj17Ok:FTok Try.prog fj17:=fj16Ok.add (by kernel_rfl) Try.func120 (by kernel_rfl) (by kernel_rfl)
noncomputable def fj18:Tr FI:=fj17.put 121 (some (ofFunc Try.f121))
theorem fj18Ok:FTok Try.prog fj18:=fj17Ok.add (by kernel_rfl) Try.func121 (by kernel_rfl) (by kernel_rfl)
noncomputable def fj19:Tr FI:=fj18.put 122 (some (ofFunc Try.f122))
theorem fj19Ok:FTok Try.prog fj19:=fj18Ok.add (by kernel_rfl) Try.func122 (by kernel_rfl) (by kernel_rfl)
noncomputable def fj20:Tr FI:=fj19.put 123 (some (ofFunc Try.f123))
theorem fj20Ok:FTok Try.prog fj20:=fj19Ok.add (by kernel_rfl) Try.func123 (by kernel_rfl) (by kernel_rfl)
noncomputable def fj21:Tr FI:=fj20.put 124 (some (ofFunc Try.f124))
theorem fj21Ok:FTok Try.prog fj21:=fj20Ok.add (by kernel_rfl) Try.func124 (by kernel_rfl) (by kernel_rfl)
noncomputable def fj22:Tr FI:=fj21.put 125 (some (ofFuncC Try.f125 ctJoin))
theorem fj22Ok:FTok Try.prog fj22:=fj21Ok.addC (by kernel_rfl) Try.func125 (by kernel_rfl) (by kernel_rfl) joinOk
noncomputable def fj23:Tr FI:=fj22.put 141 (some (ofFunc Try.f141))
theorem fj23Ok:FTok Try.prog fj23:=fj22Ok.add (by kernel_rfl) Try.func141 (by kernel_rfl) (by kernel_rfl)
noncomputable def fj24:Tr FI:=fj23.put 142 (some (ofFunc Try.f142))
theorem fj24Ok:FTok Try.prog fj24:=fj23Ok.add (by kernel_rfl) Try.func142 (by kernel_rfl) (by kernel_rfl)
noncomputable def fj25:Tr FI:=fj24.put 143 (some (ofFunc Try.f143))
theorem fj25Ok:FTok Try.prog fj25:=fj24Ok.add (by kernel_rfl) Try.func143 (by kernel_rfl) (by kernel_rfl)
noncomputable def fj26:Tr FI:=fj25.put 144 (some (ofFunc Try.f144))
theorem fj26Ok:FTok Try.prog fj26:=fj25Ok.add (by kernel_rfl) Try.func144 (by kernel_rfl) (by kernel_rfl)
noncomputable def fj27:Tr FI:=fj26.put 145 (some (ofFunc Try.f145))
theorem fj27Ok:FTok Try.prog fj27:=fj26Ok.add (by kernel_rfl) Try.func145 (by kernel_rfl) (by kernel_rfl)
noncomputable def fj:Tr FI:=(.node none (.node none (.node none (.node none (.node none (.node none .nil (.node (some (ofFunc Try.f32)) .nil .nil)) (.node none (.node none (.node none .nil (.node (some (ofFunc Try.f144)) .nil .nil)) .nil) .nil)) (.node none (.node none (.node none .nil (.node (some (ofFunc Try.f72)) .nil .nil)) .nil) (.node none .nil (.node none .nil (.node (some (ofFunc Try.f120)) .nil .nil))))) (.node none .nil (.node none (.node none (.node none .nil (.node (some (ofFunc Try.f76)) .nil .nil)) .nil) (.node none .nil (.node none .nil (.node (some (ofFunc Try.f124)) .nil .nil)))))) (.node none (.node none .nil (.node none (.node none (.node none .nil (.node (some (ofFunc Try.f74)) .nil .nil)) .nil) (.node (some (ofFunc Try.f26)) .nil (.node none .nil (.node (some (ofFunc Try.f122)) .nil .nil))))) (.node none (.node none (.node none (.node none .nil (.node (some (ofFunc Try.f70)) .nil .nil)) .nil) (.node none .nil (.node none .nil (.node (some (ofFunc Try.f118)) .nil .nil)))) (.node none (.node none (.node none (.node none .nil (.node (some (ofFunc Try.f142)) .nil .nil)) .nil) .nil) (.node (some (ofFunc Try.f30)) .nil .nil))))) (.node none (.node none (.node none (.node none .nil (.node none (.node none (.node none .nil (.node (some (ofFunc Try.f145)) .nil .nil)) .nil) .nil)) (.node none (.node none (.node none .nil (.node (some (ofFunc Try.f73)) .nil .nil)) .nil) (.node none .nil (.node none .nil (.node (some (ofFunc Try.f121)) .nil .nil))))) (.node none (.node none (.node none (.node none .nil (.node (some (ofFunc Try.f69)) .nil .nil)) .nil) .nil) (.node none (.node none (.node none (.node none .nil (.node (some (ofFunc Try.f141)) .nil .nil)) (.node (some (ofFunc Try.f77)) .nil .nil)) .nil) (.node (some (ofFunc Try.f29)) .nil (.node none .nil (.node (some (ofFuncC Try.f125 ctJoin)) .nil .nil)))))) (.node none (.node none .nil (.node none (.node none (.node none .nil (.node (some (ofFunc Try.f75)) .nil .nil)) .nil) (.node none .nil (.node none .nil (.node (some (ofFunc Try.f123)) .nil .nil))))) (.node none (.node none (.node none (.node none .nil (.node (some (ofFuncC Try.f71 ctRepeat)) .nil .nil)) .nil) (.node none .nil (.node none .nil (.node (some (ofFunc Try.f119)) .nil .nil)))) (.node none (.node none (.node none (.node none .nil (.node (some (ofFunc Try.f143)) .nil .nil)) (.node (some (ofFunc Try.f79)) .nil .nil)) .nil) .nil)))))
theorem fjOk:FTok Try.prog fj:=(show fj27=fj by kernel_rfl) ▸ fj27Ok
end Go.Proofs.Ytfffbioafhppiaa.Ev
namespace Go.Proofs.Ytfffbioafhppiaa.Ev
open Go.Proofs
theorem shown_run:endsB (exClosed Try.prog fj (drD Try.prog fj 16 4) 32 18)=true:=by kernel_rfl
theorem shownC (w:World):Calls Try.prog 32 #[] w fun e w'=>e = .returned (.bool true)∧Stays w w':=closedTrue fjOk (drD_ok mix fjOk 16 4) shown_run w
theorem spShown_ok:ZCtOk Try.prog 32 spTrue:=spTrue_ok shownC
end Go.Proofs.Ytfffbioafhppiaa.Ev
namespace Go.Proofs.Ytfffbioafhppiaa.Ev
open Go.Proofs
namespace PChL
end PChL
namespace RChL
end RChL
end Go.Proofs.Ytfffbioafhppiaa.Ev
namespace Go.Proofs.Ytfffbioafhppiaa
open Go.ChangeShapes Go.WideShapes Go.ChangeAt Go.RowKit

theorem kept_of_stays {W W':World} (h:Ev.Stays W W') (may:MemPlace→Prop):W.keptBut W' may:=by
 refine ⟨h.os,h.output,fun i hi=>?_⟩;have e:=h.block i hi;rw [e]
 cases hb:W.heap[i]? with
 | none=>simp
 | some o=>
  cases o <;> first | exact ⟨rfl,rfl,rfl,fun _ _=>rfl⟩ | exact .inr ⟨rfl,rfl⟩ | rfl
theorem frozen_of_stays {W W':World} (h:Ev.Stays W W') (a:Addr) (ha:a.block < W.heap.size):W'.frozen? a=W.frozen? a:=by
 unfold World.frozen?;rw [h.block _ ha]
section
variable {H:Type} {enc:TypeId × Value→H} {P:Program}

theorem post_of_stays {f:Func} {s:ChangeSpec} {apart fresh handsOn again:Bool} {W W':World} {args:Array Value} {v:Value} {ds gs:List (DataW H)} {before pa pv:List MemPlace}
  (hW:DataW.Whole enc P f.params.toList s.vars apart W args.toList ds gs before)
  (hres:∀ (b:Nat) (sp:Nat→Bool) (hd:Bool),DataW.TrodAll enc P W' b sp hd f.resultTypes.toList (v.resultList f.resultTypes.size) (s.fn H (ds ++ gs)).results [])
  (hargs:∀ sp:Nat→Bool,(∀ p ∈ before,sp p.block=true)→DataW.TrodAll enc P W' 0 sp true f.params.toList args.toList (s.fn H (ds ++ gs)).args pa)
  (hvars:∀ sp:Nat→Bool,(∀ p ∈ before,sp p.block=true)→DataW.TrodVars enc P W' sp s.vars (s.fn H (ds ++ gs)).vars pv)
  (hps:before=pa ++ pv) (hst:Ev.Stays W W')
  (hok:∀ (j:Nat) (t:TypeId) (r:Value),f.resultTypes[j]? = some t→(v.resultList f.resultTypes.size)[j]? = some r→Value.okWide P W' .any 0 t r) :
  s.post enc P f apart fresh handsOn again W args v W':=by
 have hk:W.keptBut W' (· ∈ before):=kept_of_stays hst _;have hold:∀ p ∈ before,(fun b=>decide (b < W.heap.size)) p.block=true:=fun p hp=>by simpa using hW.lt p hp
 have hlt:=fun p hp=>hW.lt p hp;refine ⟨ds,gs,before,[],pa,pv,hW,hres _ _ _,hargs _ hold,hvars _ hold,World.keptBut_mono (fun p hp=>⟨hp,?_⟩) hk,fun _=>?_⟩
 ·rw [hps,List.mem_append] at hp;exact Or.inr hp
 ·obtain ⟨_,_,_,_,_,hz,hn⟩:=hW;refine ⟨hok,_,_,([] ++ pa) ++ pv,⟨[] ++ pa,pv,trodAll_append (hargs _ (fun _ _=>rfl)) (hres _ _ _),hvars _ (fun _ _=>rfl),rfl,?_,?_⟩,?_⟩
  ·intro b off hp;have hp2:MemPlace.cell b off ∈ before:=by rw [hps];simpa using hp
   rw [frozen_of_stays hst _ (hlt _ hp2)];exact hz b off hp2
  ·intro ha;have:=hn ha;rw [hps] at this;simpa using this
  ·intro p hp _;rw [hps];simpa using hp
end
end Go.Proofs.Ytfffbioafhppiaa
namespace Go.Proofs.Ytfffbioafhppiaa
open Go.ChangeShapes Go.WideShapes Go.ChangeAt Go.RowKit
section
variable {H:Type} {enc:TypeId × Value→H} {P:Program}
theorem same_of_stays {W W':World} (h:Ev.Stays W W') {p:MemPlace} (hp:p.block < W.heap.size):W.sameAt W' p:=by
 cases p with
 | cell b off=>
  show W'.cell? _=W.cell? _;unfold World.cell?;rw [h.block b hp]
 | map b=>exact h.block b hp
theorem args_carry {W W':World} {base:Nat} {sp:Nat→Bool} {hd:Bool}:∀ {ts:List TypeId} {vs:List Value} {ds:List (DataW H)} {ps:List MemPlace},DataW.TrodAll enc P W base sp hd ts vs ds ps→(∀ p ∈ ps,W.sameAt W' p)→DataW.TrodAll enc P W' base sp hd ts vs ds ps
 | [],[],[],_,h,_=>h
 | _ :: _,_ :: _,_ :: _,_,⟨p,q,⟨n,h⟩,hs,e⟩,k=>⟨p,q,⟨n,DataW.trod_carry n _ _ _ h fun x hx=>k x (by rw [e];exact List.mem_append_left _ hx)⟩,args_carry hs fun x hx=>k x (by rw [e];exact List.mem_append_right _ hx),e⟩
 | [],[],_ :: _,_,h,_=>h.elim
 | [],_ :: _,_,_,h,_=>h.elim
 | _ :: _,[],_,_,h,_=>h.elim
 | _ :: _,_ :: _,[],_,h,_=>h.elim

theorem post_law {f:Func} {s:ChangeSpec} {apart fresh handsOn again:Bool} {W W':World} {args:Array Value} {ds:List (DataW H)} {p:List MemPlace} {bt:TypeId} {T:TypeId→Prop} (K:Kids P T) (hz:∀ t e,T t→P.underlying t=some (.slice e)→0 < P.cellsOf e)
  (hbt:P.underlying bt=some .bool) (hrt:f.resultTypes.toList=[bt]) (hsz:f.resultTypes.size=1) (hvs:s.vars=[]) (hfn:s.fn H (ds ++ [])={ results:=[.lit (.bool true)],args:=ds })
  (hpt:∀ t ∈ f.params.toList,T t)
  (hW:DataW.Whole enc P f.params.toList s.vars apart W args.toList ds [] (p ++ [])) (hA:DataW.TrodAll enc P W 0 (fun _=>true) true f.params.toList args.toList ds p) (hst:Ev.Stays W W')
  (hok:∀ (j:Nat) (t:TypeId) (r:Value),f.resultTypes[j]? = some t→((Value.bool true).resultList f.resultTypes.size)[j]? = some r→Value.okWide P W' .any 0 t r) :
  s.post enc P f apart fresh handsOn again W args (.bool true) W':=by
 have hlt:=fun q hq=>hW.lt q hq;refine post_of_stays (pa:=p) (pv:=[]) hW (fun b sp hd=>?_) (fun sp hsp=>?_) (fun sp _=>?_) rfl hst hok
 ·rw [hrt,hfn,hsz];exact trodAll_mk1 (shut_bool hbt _)
 ·rw [hfn];exact DataW.TrodAll.respare K hz hpt (args_carry hA fun q hq=>same_of_stays hst (hlt q (by simpa using hq))) fun q hq=>hsp q (by simpa using hq)
 ·rw [hfn,hvs];rfl
end
namespace Ev


def shFs (P:Program) (f:TypeId→Option (List Sh)):List Field→Nat→Option (List Sh)
 | [],_=>some []
 | fd :: r,off=>match f fd.type with
  | some sh=>if fd.offset=off∧P.cellsOf fd.type=sh.length then match shFs P f r (off+sh.length) with
   | some l=>some (sh ++ l)
   | none=>none else none
  | none=>none
def shB (P:Program):Nat→TypeId→Option (List Sh)
 | 0,_=>none
 | k+1,t=>match P.underlying t with
  | some (.int κ)=>some [.int κ]
  | some .bool=>some [.bool]
  | some .string=>some [.str]
  | some (.slice e)=>match shB P k e with
   | some sh=>if P.cellsOf e=sh.length∧0 < sh.length then some [.list sh] else none
   | none=>none
  | some (.struct fs)=>match shFs P (shB P k) fs.toList 0 with
   | some sh=>if P.cellsOf t=sh.length then some sh else none
   | none=>none
  | some (.array m e)=>match shB P k e with
   | some sh=>if P.cellsOf e=sh.length∧P.cellsOf t=m * sh.length then some (List.replicate m sh).flatten else none
   | none=>none
  | _=>none
noncomputable def fzAll (W:World):Nat→Option (Array Value):=fun k=>match W.heap[k]? with
 | some (.cells a _ _)=>some a
 | _=>none
noncomputable def gAll (W:World):G:=⟨fun _=>none,fzAll W,fun _ _ _=>none⟩
theorem fzAll_at (W:World):FzAt (gAll W) W:=⟨fun k a hk=>(by
 have hk:fzAll W k=some a:=hk;unfold fzAll at hk;split at hk
 ·rename_i a' ty fz h;injection hk with hk;subst hk
  exact ⟨ty,fz,h⟩
 ·cases hk),fun _ _ _=>rfl⟩
variable {H:Type} {enc:TypeId × Value→H} {P:Program} {W:World} {base:Nat} {sp:Nat→Bool} {hd:Bool}
end Ev
end Go.Proofs.Ytfffbioafhppiaa
namespace Go.Proofs.Ytfffbioafhppiaa.Ev
open Go.Proofs
end Go.Proofs.Ytfffbioafhppiaa.Ev
namespace Go.Proofs.Ytfffbioafhppiaa.EvM
open Go.Proofs Go.Proofs.Ytfffbioafhppiaa.Ev
namespace LBac
noncomputable def RUN (s:ES):ZF:=RZ 28 .nil (atS 0 28 2) [] [[(0,none),(3,none)]] false s

noncomputable def sL (l:List Int) (i:Int):NS:=⟨[⟨28,16,[(0,(EV.lst (SyC.ints IntKind.i64 (l)))),(3,iv i)],[.it (.code (nav [1,0,1,0,0,0] (bodyOf Try.f28))),.it (.code (nav [1,0,1,0,0,1] (bodyOf Try.f28))),.it (.inLoop (nav [1,0,1,0,0] (bodyOf Try.f28))),.it (.inBlock 0),.it (.code (nav [1,1] (bodyOf Try.f28)))],[],Option.none⟩],[],0⟩
theorem in_t (l:List Int):RUN (st0 28 [il l])=(.at (sL (l) ((0:Int)))):=by kernel_rfl
theorem l_t (l:List Int) (i:Int):RUN (stOf (sL l i))=(bc (decide (i < Int.ofNat (List.length l))) (bc (bc (bc (decide ((0:Int)≤i)) (Nat.blt (Int.toNat i) (List.length l)) false) true false) (bc (bc (Nat.blt (Int.toNat i) (List.length l)) true false) (bc (List.getD l (Int.toNat i) (0:Int) != i) (.done (EV.v (Value.bool false)) [] 0) (.at (sL (l) (IntKind.wrap IntKind.i64 (i+(1:Int)))))) .bad) .bad) (.done (EV.v (Value.bool true)) [] 0)):=by kernel_rfl
end LBac
namespace LBac
theorem loop {l:List Int} (h:BacOk l):∀ (d i:Nat),i+d=l.length→EndZ 28 .nil false (stOf (sL l i)) (bv true) [] 0
 | 0,i,hi=>by
  have q:=l_t l i;rw [df (show ¬ (i:Int) < Int.ofNat l.length by rw [ofn];omega),bc_f] at q;exact .done q
 | d+1,i,hi=>by
  have hl:=h.1;have hg:=h.2 i (by omega);have q:=l_t l i;have e0:Int.toNat (i:Int)=i:=rfl;have w4:IntKind.wrap IntKind.i64 ((i:Int)+1)=((i+1:Nat):Int):=by rw [wrap_in _ (by omega) (by omega)];omega
  rw [e0,w4,hg,bne_self_eq_false] at q;simp (disch:=omega) only [Nat.add_eq,eqSy_self,eqN_self,bc_same,List.length_cons,ofn,wrap_in,dt,df,bltD,bltN,ble_of,bleN,beqD,bc_t,bc_f,nn_ok,Nat.zero_add,to_nat,Int.zero_add,Int.sub_zero,Int.sub_self,Int.cast_ofNat_Int,Int.natCast_zero,Int.toNat_zero,List.take_zero,List.nil_append,List.length_append,List.length_nil] at q;exact .at (.nil _) q (loop h d (i+1) (by omega))
theorem ends {l:List Int} (h:BacOk l):EndZ 28 .nil false (st0 28 [il l]) (bv true) [] 0:=.at (.nil _) (in_t l) (loop h l.length 0 (by omega))
end LBac
noncomputable def spBac:ZCT:=fun ax=>match ax with
 | [.lst (.ints .i64 l)]=>some ⟨decide (BacOk l),bv true,[],0⟩
 | _=>none
theorem spBac_ok:ZCtOk Try.prog 28 spBac:=fun γ w us ax r hs hc hax hN hfz=>by
 unfold spBac at hs;split at hs
 case h_2=>cases hs
 rename_i l;obtain ⟨rfl⟩:=Option.some.inj hs;have hc_0:decide (BacOk l)=true:=hc;have hc:=of_decide_eq_true hc_0;exact EndZ.calls (LBac.ends hc) (.nil _) (by kernel_rfl) hax hN hfz
noncomputable def ctMp:Tr ZCC:=((((((Tr.nil.put 26 (some (dC spSpi))).put 29 (some (dC spPFan))).put 30 (some (dC spPFoot))).put 31 (some (dC spWin))).put 27 (some (dC spPas))).put 28 (some (dC spBac))).put 32 (some (dC spTrue))
theorem ctMp_ok:ZCtsOk Try.prog ctMp:=(((((((ZCtsOk.nil _).add rfl spPSpi_ok).add rfl spPFan_ok).add rfl spPFoot_ok).add rfl spPWin_ok).add rfl spPas_ok).add rfl spBac_ok).add rfl spShown_ok
namespace AMp
noncomputable def RUN (s:ES):ZF:=RZs 6 ctMp [(atS 0 6 2,[[(0,none),(1,none),(5,none)]]),(atS 0 6 7,[[(0,none),(1,none),(5,none),(9,none),(11,none)]]),(atS 0 6 10,[[(0,none),(1,none),(5,none),(9,none),(11,none),(12,none)]]),(atS 0 6 18,[[(0,none),(1,none),(14,none)]]),(atS 0 6 23,[[(0,none),(1,none),(9,none),(14,none),(16,none)]]),(atS 0 6 29,[[(17,none),(18,none)]]),(atS 0 6 34,[[(9,none),(17,none),(18,none),(20,none)]]),(atS 0 6 38,[[]])] [] false s

noncomputable def sA (n m k:Int):NS:=⟨[⟨6,248,[(0,(EV.v (Value.int IntKind.u8 (n)))),(1,(EV.v (Value.int IntKind.u8 (m)))),(5,iv k)],[.it (.code (nav [1,1] (bodyOf Try.f6)))],[],Option.none⟩],[],0⟩
noncomputable def sI (n m k:Int) (M:List (List U)) (i:Int):NS:=⟨[⟨6,248,[(0,(EV.v (Value.int IntKind.u8 (n)))),(1,(EV.v (Value.int IntKind.u8 (m)))),(5,iv k),(9,EV.lst (.recs [.list [.int .i64]] M)),(11,iv i)],[.it (.code (nav [1,1,1,1,1,0,1,0,0,0] (bodyOf Try.f6))),.it (.code (nav [1,1,1,1,1,0,1,0,0,1] (bodyOf Try.f6))),.it (.inLoop (nav [1,1,1,1,1,0,1,0,0] (bodyOf Try.f6))),.it (.inBlock 0),.it (.code (nav [1,1,1,1,1,1] (bodyOf Try.f6)))],[],Option.none⟩],[],0⟩
noncomputable def sK (n m k:Int) (M:List (List U)) (i j:Int):NS:=⟨[⟨6,248,[(0,(EV.v (Value.int IntKind.u8 (n)))),(1,(EV.v (Value.int IntKind.u8 (m)))),(5,iv k),(9,EV.lst (.recs [.list [.int .i64]] M)),(11,iv i),(12,iv j)],[.it (.code (nav [1,1,1,1,1,0,1,0,0,1,0,0,1,0,0,0] (bodyOf Try.f6))),.it (.code (nav [1,1,1,1,1,0,1,0,0,1,0,0,1,0,0,1] (bodyOf Try.f6))),.it (.inLoop (nav [1,1,1,1,1,0,1,0,0,1,0,0,1,0,0] (bodyOf Try.f6))),.it (.inBlock 2),.it (.inBlock 1),.it (.code (nav [1,1,1,1,1,0,1,0,0,1,1] (bodyOf Try.f6))),.it (.inLoop (nav [1,1,1,1,1,0,1,0,0] (bodyOf Try.f6))),.it (.inBlock 0),.it (.code (nav [1,1,1,1,1,1] (bodyOf Try.f6)))],[],Option.none⟩],[],0⟩
noncomputable def sB (n m k:Int):NS:=⟨[⟨6,248,[(0,(EV.v (Value.int IntKind.u8 (n)))),(1,(EV.v (Value.int IntKind.u8 (m)))),(14,iv k)],[.it (.code (nav [1,1,1,1,1,1,1] (bodyOf Try.f6)))],[],Option.none⟩],[],0⟩
noncomputable def sR (n m k:Int) (M:List (List U)) (i:Int):NS:=⟨[⟨6,248,[(0,(EV.v (Value.int IntKind.u8 (n)))),(1,(EV.v (Value.int IntKind.u8 (m)))),(9,EV.lst (.recs [.list [.int .i64]] M)),(14,iv k),(16,iv i)],[.it (.code (nav [1,1,1,1,1,1,1,1,1,1,0,1,0,0,0] (bodyOf Try.f6))),.it (.code (nav [1,1,1,1,1,1,1,1,1,1,0,1,0,0,1] (bodyOf Try.f6))),.it (.inLoop (nav [1,1,1,1,1,1,1,1,1,1,0,1,0,0] (bodyOf Try.f6))),.it (.inBlock 4),.it (.code (nav [1,1,1,1,1,1,1,1,1,1,1] (bodyOf Try.f6)))],[],Option.none⟩],[],0⟩
noncomputable def sC (p r:Int):NS:=⟨[⟨6,248,[(17,iv p),(18,iv r)],[.it (.code (nav [1,1,1,1,1,1,1,1,1,1,1,1,1] (bodyOf Try.f6)))],[],Option.none⟩],[],0⟩
noncomputable def sQ (p r:Int) (M:List (List U)) (i:Int):NS:=⟨[⟨6,248,[(9,EV.lst (.recs [.list [.int .i64]] M)),(17,iv p),(18,iv r),(20,iv i)],[.it (.code (nav [1,1,1,1,1,1,1,1,1,1,1,1,1,1,1,1,0,1,0,0,0] (bodyOf Try.f6))),.it (.code (nav [1,1,1,1,1,1,1,1,1,1,1,1,1,1,1,1,0,1,0,0,1] (bodyOf Try.f6))),.it (.inLoop (nav [1,1,1,1,1,1,1,1,1,1,1,1,1,1,1,1,0,1,0,0] (bodyOf Try.f6))),.it (.inBlock 6),.it (.code (nav [1,1,1,1,1,1,1,1,1,1,1,1,1,1,1,1,1] (bodyOf Try.f6)))],[],Option.none⟩],[],0⟩
noncomputable def sZ  : NS:=⟨[⟨6,248,[],[.it (.code (nav [1,1,1,1,1,1,1,1,1,1,1,1,1,1,1,1,1] (bodyOf Try.f6)))],[],Option.none⟩],[],0⟩
theorem in_t (n m:Int):RUN (st0 6 [.v (.int .u8 n),.v (.int .u8 m)])=(.at (sA (n) (m) (IntKind.wrap IntKind.i64 ((1:Int)+Int.tmod (IntKind.wrap IntKind.i64 n) (6:Int))))):=by kernel_rfl
theorem a_t (n m k:Int):RUN (stOf (sA n m k))=(bc (decide (PasOk (bc (spiOk k (Int.tmod (IntKind.wrap IntKind.i64 m) (17:Int))) ((2:Int) * k) (0:Int)) (bc (spiOk k (Int.tmod (IntKind.wrap IntKind.i64 m) (17:Int))) (spiL k (tws k (Int.tmod (IntKind.wrap IntKind.i64 m) (17:Int)))) []))) (bc (bc (spiOk k (Int.tmod (IntKind.wrap IntKind.i64 m) (17:Int))) (0:Int) (7:Int) != (0:Int)) (.done (EV.v (Value.bool false)) [] 0) (bc (bc (spiOk k (Int.tmod (IntKind.wrap IntKind.i64 m) (17:Int))) ((2:Int) * k) (0:Int) != IntKind.wrap IntKind.i64 ((2:Int) * k)) (.done (EV.v (Value.bool false)) [] 0) (bc (bc (decide (BacOk (pR (lnP (Int.toNat (bc (spiOk k (Int.tmod (IntKind.wrap IntKind.i64 m) (17:Int))) ((2:Int) * k) (0:Int))) (wdC (bc (spiOk k (Int.tmod (IntKind.wrap IntKind.i64 m) (17:Int))) (spiL k (tws k (Int.tmod (IntKind.wrap IntKind.i64 m) (17:Int)))) [])))))) true false) (.at (sI (n) (m) (k) (mx (Int.toNat (bc (spiOk k (Int.tmod (IntKind.wrap IntKind.i64 m) (17:Int))) ((2:Int) * k) (0:Int))) (PLnk.lkN (wdC (bc (spiOk k (Int.tmod (IntKind.wrap IntKind.i64 m) (17:Int))) (spiL k (tws k (Int.tmod (IntKind.wrap IntKind.i64 m) (17:Int)))) [])))) ((0:Int)))) .bad))) .bad):=by kernel_rfl
theorem i_t (n m k:Int) (M:List (List U)) (i:Int):RUN (stOf (sI n m k M i))=(bc (decide (i < IntKind.wrap IntKind.i64 ((2:Int) * k))) (.at (sK (n) (m) (k) (M) (i) ((0:Int)))) (.at (sB (n) (m) (IntKind.wrap IntKind.i64 ((1:Int)+Int.tmod (IntKind.wrap IntKind.i64 n) (12:Int)))))):=by kernel_rfl
theorem k_t (n m k:Int) (M:List (List U)) (i j:Int):RUN (stOf (sK n m k M i j))=(bc (decide (j < IntKind.wrap IntKind.i64 ((2:Int) * k))) (bc (!decide (i < k) == decide (j < k)) (bc (bc (bc (decide ((0:Int)≤i)) (Nat.blt (Int.toNat i) (List.length M)) false) true false) (bc (bc (Nat.blt (Int.toNat i) (List.length M)) true false) (bc (bc (bc (decide ((0:Int)≤j)) (Nat.blt (Int.toNat j) (List.length (List.map (fun r=>U.int (List.headD r (U.i (0:Int)))) (U.list (List.getD (List.getD M (Int.toNat i) []) (0:Nat) (U.i (0:Int))))))) false) true false) (bc (bc (Nat.blt (Int.toNat j) (List.length (List.map (fun r=>U.int (List.headD r (U.i (0:Int)))) (U.list (List.getD (List.getD M (Int.toNat i) []) (0:Nat) (U.i (0:Int))))))) true false) (bc (List.getD (List.map (fun r=>U.int (List.headD r (U.i (0:Int)))) (U.list (List.getD (List.getD M (Int.toNat i) []) (0:Nat) (U.i (0:Int))))) (Int.toNat j) (0:Int) != (2:Int)) (.done (EV.v (Value.bool false)) [] 0) (.at (sK (n) (m) (k) (M) (i) (IntKind.wrap IntKind.i64 (j+(1:Int)))))) .bad) .bad) .bad) .bad) (bc (bc (bc (decide ((0:Int)≤i)) (Nat.blt (Int.toNat i) (List.length M)) false) true false) (bc (bc (Nat.blt (Int.toNat i) (List.length M)) true false) (bc (bc (bc (decide ((0:Int)≤j)) (Nat.blt (Int.toNat j) (List.length (List.map (fun r=>U.int (List.headD r (U.i (0:Int)))) (U.list (List.getD (List.getD M (Int.toNat i) []) (0:Nat) (U.i (0:Int))))))) false) true false) (bc (bc (Nat.blt (Int.toNat j) (List.length (List.map (fun r=>U.int (List.headD r (U.i (0:Int)))) (U.list (List.getD (List.getD M (Int.toNat i) []) (0:Nat) (U.i (0:Int))))))) true false) (bc (List.getD (List.map (fun r=>U.int (List.headD r (U.i (0:Int)))) (U.list (List.getD (List.getD M (Int.toNat i) []) (0:Nat) (U.i (0:Int))))) (Int.toNat j) (0:Int) != (0:Int)) (.done (EV.v (Value.bool false)) [] 0) (.at (sK (n) (m) (k) (M) (i) (IntKind.wrap IntKind.i64 (j+(1:Int)))))) .bad) .bad) .bad) .bad)) (.at (sI (n) (m) (k) (M) (IntKind.wrap IntKind.i64 (i+(1:Int)))))):=by kernel_rfl
theorem b_t (n m k:Int):RUN (stOf (sB n m k))=(bc (decide (PasOk (fanP k) (fanL k))) (bc (fanE k != (0:Int)) (.done (EV.v (Value.bool false)) [] 0) (bc (fanP k != IntKind.wrap IntKind.i64 (k+(1:Int))) (.done (EV.v (Value.bool false)) [] 0) (bc (bc (decide (BacOk (pR (lnP (Int.toNat (fanP k)) (wdC (fanL k)))))) true false) (.at (sR (n) (m) (k) (mx (Int.toNat (fanP k)) (PLnk.lkN (wdC (fanL k)))) ((1:Int)))) .bad))) .bad):=by kernel_rfl
theorem r_t (n m k:Int) (M:List (List U)) (i:Int):RUN (stOf (sR n m k M i))=(bc (decide (i≤k)) (bc (bc (Nat.blt (Int.toNat (0:Int)) (List.length M)) true false) (bc (bc (Nat.blt (Int.toNat (0:Int)) (List.length M)) true false) (bc (bc (bc (decide ((0:Int)≤i)) (Nat.blt (Int.toNat i) (List.length (List.map (fun r=>U.int (List.headD r (U.i (0:Int)))) (U.list (List.getD (List.getD M (Int.toNat (0:Int)) []) (0:Nat) (U.i (0:Int))))))) false) true false) (bc (bc (Nat.blt (Int.toNat i) (List.length (List.map (fun r=>U.int (List.headD r (U.i (0:Int)))) (U.list (List.getD (List.getD M (Int.toNat (0:Int)) []) (0:Nat) (U.i (0:Int))))))) true false) (bc (List.getD (List.map (fun r=>U.int (List.headD r (U.i (0:Int)))) (U.list (List.getD (List.getD M (Int.toNat (0:Int)) []) (0:Nat) (U.i (0:Int))))) (Int.toNat i) (0:Int) != IntKind.wrap IntKind.i64 ((2:Int) * IntKind.wrap IntKind.i64 (IntKind.wrap IntKind.i64 ((2:Int) * IntKind.wrap IntKind.i64 (k - i))+(1:Int)))) (.done (EV.v (Value.bool false)) [] 0) (.at (sR (n) (m) (k) (M) (IntKind.wrap IntKind.i64 (i+(1:Int)))))) .bad) .bad) .bad) .bad) (bc (bc (bnot (IntKind.wrap IntKind.i64 (IntKind.wrap IntKind.i64 ((2:Int) * IntKind.wrap IntKind.i64 ((1:Int)+Int.tmod (IntKind.wrap IntKind.i64 n) (23:Int)))+(1:Int)) == (0:Int))) true false) (bc (bc (bnot (IntKind.wrap IntKind.i64 (Int.tdiv (400:Int) (IntKind.wrap IntKind.i64 (IntKind.wrap IntKind.i64 ((2:Int) * IntKind.wrap IntKind.i64 ((1:Int)+Int.tmod (IntKind.wrap IntKind.i64 n) (23:Int)))+(1:Int)))) == (0:Int))) true false) (.at (sC (IntKind.wrap IntKind.i64 ((1:Int)+Int.tmod (IntKind.wrap IntKind.i64 n) (23:Int))) (IntKind.wrap IntKind.i64 ((1:Int)+Int.tmod (IntKind.wrap IntKind.i64 m) (IntKind.wrap IntKind.i64 (Int.tdiv (400:Int) (IntKind.wrap IntKind.i64 (IntKind.wrap IntKind.i64 ((2:Int) * IntKind.wrap IntKind.i64 ((1:Int)+Int.tmod (IntKind.wrap IntKind.i64 n) (23:Int)))+(1:Int))))))))) .bad) .bad)):=by kernel_rfl
theorem c_t (p r:Int):RUN (stOf (sC p r))=(bc (decide (PasOk (footP p r) (footL p r))) (bc (footE p r != (0:Int)) (.done (EV.v (Value.bool false)) [] 0) (bc (footP p r != IntKind.wrap IntKind.i64 (p+(1:Int))) (.done (EV.v (Value.bool false)) [] 0) (bc (bc (decide (BacOk (pR (lnP (Int.toNat (footP p r)) (wdC (footL p r)))))) true false) (.at (sQ (p) (r) (mx (Int.toNat (footP p r)) (PLnk.lkN (wdC (footL p r)))) ((0:Int)))) .bad))) .bad):=by kernel_rfl
theorem q_t (p r:Int) (M:List (List U)) (i:Int):RUN (stOf (sQ p r M i))=(bc (decide (i < p)) (bc (bc (bc (decide ((0:Int)≤p)) (Nat.blt (Int.toNat p) (List.length M)) false) true false) (bc (bc (Nat.blt (Int.toNat p) (List.length M)) true false) (bc (bc (bc (decide ((0:Int)≤i)) (Nat.blt (Int.toNat i) (List.length (List.map (fun r=>U.int (List.headD r (U.i (0:Int)))) (U.list (List.getD (List.getD M (Int.toNat p) []) (0:Nat) (U.i (0:Int))))))) false) true false) (bc (bc (Nat.blt (Int.toNat i) (List.length (List.map (fun r=>U.int (List.headD r (U.i (0:Int)))) (U.list (List.getD (List.getD M (Int.toNat p) []) (0:Nat) (U.i (0:Int))))))) true false) (bc (List.getD (List.map (fun r=>U.int (List.headD r (U.i (0:Int)))) (U.list (List.getD (List.getD M (Int.toNat p) []) (0:Nat) (U.i (0:Int))))) (Int.toNat i) (0:Int) != IntKind.wrap IntKind.i64 ((2:Int) * r)) (.done (EV.v (Value.bool false)) [] 0) (.at (sQ (p) (r) (M) (IntKind.wrap IntKind.i64 (i+(1:Int)))))) .bad) .bad) .bad) .bad) (.at (sZ ))):=by kernel_rfl
theorem z_t  : RUN (stOf sZ)=(bc (decide (PasOk (4:Int) winL)) (.done (EV.v (Value.bool true)) [] 0) .bad):=by kernel_rfl
variable {f:Nat→Nat→Int}
theorem rowM {n x:Nat} (hx:x < n):List.map (fun r=>U.int (List.headD r (U.i (0:Int)))) (U.list (List.getD (List.getD (mx n f) x []) 0 (U.i 0)))=(List.range n).map fun b=>f x b:=by
 rw [mx_list hx,List.map_map];rfl
theorem rowG {n x j:Nat} (hj:j < n):((List.range n).map fun b=>f x b).getD j 0=f x j:=by
 rw [List.getD_eq_getElem?_getD,List.getElem?_map,List.getElem?_range hj];rfl
theorem rowL {n x:Nat}:((List.range n).map fun b=>f x b).length=n:=by rw [List.length_map,List.length_range]
theorem e0 (x:Nat):Int.toNat (x:Int)=x:=rfl
theorem w2 {k:Nat} (hk:k≤1000):IntKind.wrap IntKind.i64 (2 * (k:Int))=((2 * k:Nat):Int):=by rw [wrap_in _ (by omega) (by omega)];omega
theorem w1 {k:Nat} (hk:k≤1000):IntKind.wrap IntKind.i64 ((k:Int)+1)=((k+1:Nat):Int):=by rw [wrap_in _ (by omega) (by omega)];omega
abbrev E (s:ES):Prop:=EndZ 6 ctMp false s (bv true) [] 0
theorem endZ:E (stOf sZ):=by
 have q:=z_t;rw [dt win_ok,bc_t] at q;exact .done q
theorem loopQ {p r:Nat} (hp:p≤23) (hr:r≤400) (h:∀ i,i < p→f p i=2 * (r:Int)):∀ (d i:Nat),i+d=p→E (stOf (sQ p r (mx (p+1) f) i))
 | 0,i,hi=>by
  have q:=q_t p r (mx (p+1) f) i;rw [df (show ¬ (i:Int) < (p:Int) by omega),bc_f] at q;exact .at ctMp_ok q endZ
 | d+1,i,hi=>by
  have q:=q_t p r (mx (p+1) f) i;have hf:=h i (by omega);have w5:IntKind.wrap IntKind.i64 (2 * (r:Int))=2 * (r:Int):=wrap_in _ (by omega) (by omega);rw [e0,e0,rowM (show p < p+1 by omega),rowG (show i < p+1 by omega),rowL,mx_len,w5,hf,bne_self_eq_false,w1 (show i≤1000 by omega)] at q
  simp (disch:=omega) only [Nat.add_eq,eqSy_self,eqN_self,bc_same,List.length_cons,ofn,wrap_in,dt,df,bltD,bltN,ble_of,bleN,beqD,bc_t,bc_f,nn_ok,Nat.zero_add,to_nat,Int.zero_add,Int.sub_zero,Int.sub_self,Int.cast_ofNat_Int,Int.natCast_zero,Int.toNat_zero,List.take_zero,List.nil_append,List.length_append,List.length_nil] at q;exact .at ctMp_ok q (loopQ hp hr h d (i+1) (by omega))
theorem endC {p r:Nat} (h1:1≤p) (h2:p≤23) (h3:1≤r) (h4:(r:Int)≤Int.tdiv 400 (2 * (p:Int)+1)) (h5:r≤400):E (stOf (sC p r)):=by
 obtain ⟨a1,a2,a3,a4,a5⟩:=foot_ok h1 h2 h3 h4;have q:=c_t p r;rw [a1,a2,dt a3,e0,dt a4,w1 (show p≤1000 by omega)] at q;simp only [bne_self_eq_false,bc_t,bc_f] at q;exact .at ctMp_ok q (loopQ h2 h5 a5 p 0 (by omega))
theorem loopR {n m:Nat} (hn:n≤255) (hm:m≤255) {k:Nat} (h1:1≤k) (h2:k≤12) (h:∀ i,1≤i→i≤k→f 0 i=2 * (2 * ((k:Int) - i)+1)):∀ (d i:Nat),i+d=k+1→1≤i→E (stOf (sR n m k (mx (k+1) f) i))
 | 0,i,hi,h0=>by
  have q:=r_t n m k (mx (k+1) f) i;rw [df (show ¬ (i:Int)≤(k:Int) by omega),bc_f] at q;have hw:∀ x:Nat,x≤255→IntKind.wrap IntKind.i64 (x:Int)=x:=fun x hx=>wrap_in _ (by omega) (by omega);have t1:Int.tmod (n:Int) 23=((n % 23:Nat):Int):=rfl;have hlt:n % 23 < 23:=Nat.mod_lt _ (by omega);obtain ⟨p,hp⟩:∃ p,1+n % 23=p:=⟨_,rfl⟩;have e1:IntKind.wrap IntKind.i64 (1+((n % 23:Nat):Int))=(p:Int):=by rw [wrap_in _ (by omega) (by omega)];omega
  have e2:IntKind.wrap IntKind.i64 (2 * (p:Int))=2 * (p:Int):=wrap_in _ (by omega) (by omega);have e3:IntKind.wrap IntKind.i64 (2 * (p:Int)+1)=2 * (p:Int)+1:=wrap_in _ (by omega) (by omega);have hd:Int.tdiv 400 (2 * (p:Int)+1)=((400 / (2 * p+1):Nat):Int):=rfl;have hd1:1≤400 / (2 * p+1):=by
   rw [Nat.le_div_iff_mul_le (by omega)];omega
  have hd2:400 / (2 * p+1)≤400:=Nat.div_le_self _ _;have e4:IntKind.wrap IntKind.i64 ((400 / (2 * p+1):Nat):Int)=((400 / (2 * p+1):Nat):Int):=wrap_in _ (by omega) (by omega);have t2:Int.tmod (m:Int) ((400 / (2 * p+1):Nat):Int)=((m % (400 / (2 * p+1)):Nat):Int):=rfl;have hlt2:m % (400 / (2 * p+1)) < 400 / (2 * p+1):=Nat.mod_lt _ (by omega);obtain ⟨r,hr⟩:∃ r,1+m % (400 / (2 * p+1))=r:=⟨_,rfl⟩
  have e5:IntKind.wrap IntKind.i64 (1+((m % (400 / (2 * p+1)):Nat):Int))=(r:Int):=by rw [wrap_in _ (by omega) (by omega)];omega
  have z1:bnot (2 * (p:Int)+1 == 0)=true:=by
   rw [show ((2 * (p:Int)+1) == 0)=false from beq_eq_false_iff_ne.2 (by omega)];rfl
  have z2:bnot ((((400 / (2 * p+1):Nat):Int)) == 0)=true:=by
   rw [show ((((400 / (2 * p+1):Nat):Int)) == 0)=false from beq_eq_false_iff_ne.2 (by omega)];rfl
  rw [hw n hn,hw m hm,t1,e1,e2,e3,hd,e4,t2,e5,z1,z2] at q;simp only [bc_t] at q;exact .at ctMp_ok q (endC (by omega) (by omega) (by omega) (by rw [hd];omega) (by omega))
 | d+1,i,hi,h0=>by
  have q:=r_t n m k (mx (k+1) f) i;have hf:=h i h0 (by omega);have w5:IntKind.wrap IntKind.i64 (2 * IntKind.wrap IntKind.i64 (IntKind.wrap IntKind.i64 (2 * IntKind.wrap IntKind.i64 ((k:Int) - i))+1))=2 * (2 * ((k:Int) - i)+1):=by
   rw [wrap_in ((k:Int) - i) (by omega) (by omega),wrap_in (2 * ((k:Int) - i)) (by omega) (by omega),wrap_in (2 * ((k:Int) - i)+1) (by omega) (by omega),wrap_in (2 * (2 * ((k:Int) - i)+1)) (by omega) (by omega)]
  rw [show Int.toNat 0=0 from rfl,e0,rowM (show 0 < k+1 by omega),rowG (show i < k+1 by omega),rowL,mx_len,w5,hf,bne_self_eq_false,w1 (show i≤1000 by omega)] at q
  simp (disch:=omega) only [Nat.add_eq,eqSy_self,eqN_self,bc_same,List.length_cons,ofn,wrap_in,dt,df,bltD,bltN,ble_of,bleN,beqD,bc_t,bc_f,nn_ok,Nat.zero_add,to_nat,Int.zero_add,Int.sub_zero,Int.sub_self,Int.cast_ofNat_Int,Int.natCast_zero,Int.toNat_zero,List.take_zero,List.nil_append,List.length_append,List.length_nil] at q;exact .at ctMp_ok q (loopR hn hm h1 h2 h d (i+1) (by omega) (by omega))
theorem endB {n m:Nat} (hn:n≤255) (hm:m≤255) {k:Nat} (h1:1≤k) (h2:k≤12):E (stOf (sB n m k)):=by
 obtain ⟨a1,a2,a3,a4,a5⟩:=fan_ok h1 h2;have q:=b_t n m k;rw [a1,a2,dt a3,e0,dt a4,w1 (show k≤1000 by omega)] at q;simp only [bne_self_eq_false,bc_t,bc_f] at q;exact .at ctMp_ok q (loopR hn hm h1 h2 a5 k 1 (by omega) (by omega))
theorem loopK {n m:Nat} {k i:Nat} (h2:k≤6) (hi:i < 2 * k) (h:∀ j,j < 2 * k→f i j=if decide (i < k) == decide (j < k) then 0 else 2) (H:E (stOf (sI n m k (mx (2 * k) f) (i+1:Nat)))):∀ (d j:Nat),j+d=2 * k→E (stOf (sK n m k (mx (2 * k) f) i j))
 | 0,j,hj=>by
  have q:=k_t n m k (mx (2 * k) f) i j;rw [w2 (show k≤1000 by omega),df (show ¬ (j:Int) < ((2 * k:Nat):Int) by omega),bc_f,w1 (show i≤1000 by omega)] at q;exact .at ctMp_ok q H
 | d+1,j,hj=>by
  have q:=k_t n m k (mx (2 * k) f) i j;have hf:=h j (by omega);have d1:decide ((i:Int) < (k:Int))=decide (i < k):=decide_eq_decide.2 (by omega);have d2:decide ((j:Int) < (k:Int))=decide (j < k):=decide_eq_decide.2 (by omega);rw [e0,e0,rowM hi,rowG (show j < 2 * k by omega),rowL,mx_len,w2 (show k≤1000 by omega),w1 (show j≤1000 by omega),d1,d2,hf] at q;have ih:=loopK (n:=n) (m:=m) h2 hi h H d (j+1) (by omega)
  cases c:(decide (i < k) == decide (j < k)) with
  | true=>
   rw [c,if_pos rfl,show ((0:Int) != 0)=false from rfl] at q
   simp (disch:=omega) only [Nat.add_eq,eqSy_self,eqN_self,bc_same,List.length_cons,ofn,wrap_in,dt,df,bltD,bltN,ble_of,bleN,beqD,bc_t,bc_f,nn_ok,Nat.zero_add,to_nat,Int.zero_add,Int.sub_zero,Int.sub_self,Int.cast_ofNat_Int,Int.natCast_zero,Int.toNat_zero,List.take_zero,List.nil_append,List.length_append,List.length_nil,Bool.not_true] at q;exact .at ctMp_ok q ih
  | false=>
   rw [c,if_neg (by simp),show ((2:Int) != 2)=false from rfl] at q
   simp (disch:=omega) only [Nat.add_eq,eqSy_self,eqN_self,bc_same,List.length_cons,ofn,wrap_in,dt,df,bltD,bltN,ble_of,bleN,beqD,bc_t,bc_f,nn_ok,Nat.zero_add,to_nat,Int.zero_add,Int.sub_zero,Int.sub_self,Int.cast_ofNat_Int,Int.natCast_zero,Int.toNat_zero,List.take_zero,List.nil_append,List.length_append,List.length_nil,Bool.not_false] at q;exact .at ctMp_ok q ih
theorem loopI {n m:Nat} (hn:n≤255) (hm:m≤255) {k:Nat} (h2:k≤6) (h:∀ i j,i < 2 * k→j < 2 * k→f i j=if decide (i < k) == decide (j < k) then 0 else 2):∀ (d i:Nat),i+d=2 * k→E (stOf (sI n m k (mx (2 * k) f) i))
 | 0,i,hi=>by
  have q:=i_t n m k (mx (2 * k) f) i;have hw:IntKind.wrap IntKind.i64 (n:Int)=n:=wrap_in _ (by omega) (by omega);have t1:Int.tmod (n:Int) 12=((n % 12:Nat):Int):=rfl;have hlt:n % 12 < 12:=Nat.mod_lt _ (by omega);have e1:IntKind.wrap IntKind.i64 (1+((n % 12:Nat):Int))=((1+n % 12:Nat):Int):=by rw [wrap_in _ (by omega) (by omega)];omega
  rw [w2 (show k≤1000 by omega),df (show ¬ (i:Int) < ((2 * k:Nat):Int) by omega),bc_f,hw,t1,e1] at q;exact .at ctMp_ok q (endB hn hm (by omega) (by omega))
 | d+1,i,hi=>by
  have q:=i_t n m k (mx (2 * k) f) i;rw [w2 (show k≤1000 by omega),dt (show (i:Int) < ((2 * k:Nat):Int) by omega),bc_t] at q;exact .at ctMp_ok q (loopK h2 (by omega) (fun j hj=>h i j (by omega) hj) (loopI hn hm h2 h d (i+1) (by omega)) (2 * k) 0 (by omega))
theorem ends {n m:Int} (hn:0≤n∧n≤255) (hm:0≤m∧m≤255):E (st0 6 [.v (.int .u8 n),.v (.int .u8 m)]):=by
 obtain ⟨n,rfl⟩:=Int.eq_ofNat_of_zero_le hn.1;obtain ⟨m,rfl⟩:=Int.eq_ofNat_of_zero_le hm.1;have hn:n≤255:=by omega
 have hm:m≤255:=by omega
 have q:=in_t n m;have hw:∀ x:Nat,x≤255→IntKind.wrap IntKind.i64 (x:Int)=x:=fun x hx=>wrap_in _ (by omega) (by omega);have t1:Int.tmod (n:Int) 6=((n % 6:Nat):Int):=rfl;have hlt:n % 6 < 6:=Nat.mod_lt _ (by omega);obtain ⟨k,hk⟩:∃ k,1+n % 6=k:=⟨_,rfl⟩;have e1:IntKind.wrap IntKind.i64 (1+((n % 6:Nat):Int))=(k:Int):=by rw [wrap_in _ (by omega) (by omega)];omega
 rw [hw n hn,t1,e1] at q;refine .at ctMp_ok q ?_;have a:=a_t n m k;have t2:Int.tmod (m:Int) 17=((m % 17:Nat):Int):=rfl;have hlt2:m % 17 < 17:=Nat.mod_lt _ (by omega);obtain ⟨t,ht⟩:∃ t,m % 17=t:=⟨_,rfl⟩;obtain ⟨s1,s2,s3,s4⟩:=spi_ok (k:=k) (t:=t) (by omega) (by omega) (by omega);have e2:(2 * (k:Int))=((2 * k:Nat):Int):=by omega
 have e3:IntKind.wrap IntKind.i64 ((2 * k:Nat):Int)=((2 * k:Nat):Int):=wrap_in _ (by omega) (by omega);have b1:∀ x y:Int,bc true x y=x:=fun _ _=>rfl;have b2:∀ x y:List (List U),bc true x y=x:=fun _ _=>rfl;rw [hw m hm,t2,ht,s1,b1,b1,b2,dt s2,e2,e3,e0,dt s3] at a;simp only [bne_self_eq_false,bc_t,bc_f] at a;exact .at ctMp_ok a (loopI hn hm (by omega) s4 (2 * k) 0 (by omega))
end AMp
theorem u8_of {n:Int} (h:(Lit.int .u8 n).wf=true):0≤n∧n≤255:=by
 have h1:IntKind.u8.min≤n∧n≤IntKind.u8.max:=by simpa [Lit.wf] using h
 have e1:IntKind.u8.min=0:=rfl;have e2:IntKind.u8.max=255:=rfl;omega
end Go.Proofs.Ytfffbioafhppiaa.EvM
namespace Go.Proofs.Ytfffbioafhppiaa.Ev
open Go.Proofs Go.Proofs.Ytfffbioafhppiaa.EvM
theorem motifsPass_calls {γ:G} {w:World} {us:Array Value} (n:Int) (wn:(Lit.int .u8 n).wf=true) (m:Int) (wm:(Lit.int .u8 m).wf=true)
  (hax:ECL γ [.v (.int .u8 n),.v (.int .u8 m)] us.toList) (hN:∀ i,γ i=none) (hfz:FzAt γ w):Calls Try.prog 6 us w fun e w'=>e = .returned (.bool true)∧Stays w w':=
 law_of ((AMp.ends (u8_of wn) (u8_of wm)).calls ctMp_ok (by kernel_rfl) hax hN hfz)
end Go.Proofs.Ytfffbioafhppiaa.Ev
namespace Go.Proofs.Ytfffbioafhppiaa
open Go.ChangeShapes Go.WideShapes Go.ChangeAt Go.RowKit Go.ChangeMaps
theorem knobMotifsPass:ownKnob Try.prog.godebug=none:=by kernel_rfl
theorem kidsMotifsPass:Kids Try.prog (· < Try.prog.types.size):=kids_rows (by kernel_rfl) (by kernel_rfl)
theorem fullMotifsPass:∀ t e,t < Try.prog.types.size→Try.prog.underlying t=some (.slice e)→0 < Try.prog.cellsOf e:=slices_full_of Try.prog (by kernel_rfl)
set_option maxRecDepth 100000 in
theorem liftedMotifsPass (os:Os) (started:os.Started) (H:Type) (enc:TypeId × Value→H) :
  ReturnsInHanded {} Try.checked os 6 .any (Rows.motifsPassSpec.pre6 enc Try.prog Try.f6 Rows.motifsPassRow.domain false) (Rows.motifsPassSpec.post enc Try.prog Try.f6 false true false false):=by
 refine returnsInHanded_of_change (C:=Try.checked) knobMotifsPass started (by kernel_rfl) Try.func6
  (ChangeSpec.witness6 (enc:=enc) (C:=Try.checked) false ⟨#[],#[.int .u8 0,.int .u8 0],[]⟩ 8 (by kernel_rfl) (by kernel_rfl) (by kernel_rfl) (by kernel_rfl)) ?_
 intro W base args ds gs before hval0 hW hcnd _;have hval:∀ (j:Nat) t v,Try.f6.params[j]? = some t→args[j]? = some v→Value.okWide Try.prog W .any base t v:=hval0;have hW':=hW;obtain ⟨p,q,hA0,hV,rfl,hfz,hnd⟩:=hW;have hA:DataW.TrodAll enc Try.prog W 0 (fun _=>true) true Try.f6.params.toList args.toList ds p:=hA0;have hAk:=hA;rw [Try.params6] at hA hval;obtain ⟨rfl,rfl⟩:=trodVars_none hV;obtain ⟨v0,v1,d0,d1,p0,p1,rfl,rfl,rfl,h0,h1⟩:=trodAll_two hA;obtain ⟨n,rfl,rfl,rfl,wn⟩:=open_int Try.underlying5 (hval 0 5 v0 rfl rfl) h0
 obtain ⟨m,rfl,rfl,rfl,wm⟩:=open_int Try.underlying5 (hval 1 5 v1 rfl rfl) h1;clear hA0 hval0;refine (Ev.motifsPass_calls n wn m wm (γ:=Ev.gAll W) (.cons (.v _) (.cons (.v _) (.nil _))) (fun i=>rfl) (Ev.fzAll_at W)).mono fun e W' ⟨he,hg⟩=>?_;subst he;exact ⟨_,rfl,post_law kidsMotifsPass fullMotifsPass Try.underlying4 (by kernel_rfl) (by kernel_rfl) rfl rfl (by rw [Try.params6];decide) hW' hAk hg (ok_one (by kernel_rfl) rfl (okWide_bool_mk Try.underlying4 _))⟩
theorem motifsPass_holds:Rows.MotifsPassSaid:=
 OpenClaim.holds_of_wide 6 Try.f6 rfl rfl rfl rfl rfl rfl rfl ⟨rfl,rfl,rfl,rfl,rfl⟩ rfl rfl rfl rfl rfl (by kernel_rfl) Try.func6 (by kernel_rfl)
  (of_decide_eq_true (by kernel_rfl)) (by unfold Func.isWrapper;first | (rw [if_pos (by decide +kernel)];kernel_rfl) | (rw [if_neg (by decide +kernel)];exact ⟨rfl,rfl⟩))
  (fun os started H enc _=>liftedMotifsPass os started H enc)
end Go.Proofs.Ytfffbioafhppiaa
