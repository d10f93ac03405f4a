/- BraidsWeighted returns true, for all arguments, in every world in which it is called, and nothing that was there turns. -/
import Derived.Shelf.Strings.Builder1
import Derived.Shelf.Strings.Builder2
import Derived.Shelf.Small.Bits
import Derived.Shelf.Strconv.Itoa0
import Derived.Shelf.Sort.Plain
import Derived.Shelf.Bits.Mul64
import Derived.Shelf.Slices.Reverse
import Derived.Shelf.Slices.Clone
import Derived.Shelf.Slices.CompactI
import Derived.Shelf.Slices.SearchI
import Derived.Shelf.Slices.Cells
import Derived.Shelf.Slices.In.SortNone
import Derived.Shelf.SlicesE.Compact
import Derived.Shelf.SlicesE.Clone
import Derived.Shelf.SlicesE.IndexFunc
import Derived.Shelf.SlicesE.DeleteFunc
import Derived.Test.YtfffbioafhppiaaProg
import Derived.Below
import Derived.Lib.Join
import Derived.Lib.Repeat
import Derived.ProofKit
import Derived.ReadAgain
import Derived.OpenShut
import Derived.Test.YtfffbioafhppiaaRows
import Derived.WalkKit
import Derived.Test.YtfffbioafhppiaaBWe5
set_option linter.unusedSimpArgs false
set_option linter.unusedVariables false
noncomputable section
namespace Go.Proofs.Ytfffbioafhppiaa.Ev
namespace PTrn
noncomputable def RT (s:ES):ZF:=RMs 1 115 .nil [(atS 0 115 1,[[(0,none),(8,none),(9,none),(10,none)]]),(atS 0 115 4,[[(0,none),(2,none),(3,none),(8,none),(9,none),(10,none),(18,none),(19,none)]])] [] [] s
noncomputable def sA (n pw:Int) (L:List Int) (len:Nat) (nn:Bool) (z i:Int):NS:=⟨[⟨115,48,[(0,(EV.ptr 0 0)),(8,(EV.slO 1 12 len nn)),(9,iv z),(10,iv i)],[.it (.code (nav [1,0,0] (bodyOf Try.f115))),.it (.inLoop (nav [1,0,0] (bodyOf Try.f115))),.it (.inBlock 0)],[],Option.none⟩],[(0,(EK.cells 92 [(iv n),(iv pw),(EV.slO 1 12 len nn)] true)),(1,(EK.seq 95 (SyC.ints IntKind.u8 L) nn))],2⟩
noncomputable def sB (n pw:Int) (L q:List Int) (len:Nat) (nn:Bool) (z i k j:Int):NS:=⟨[⟨115,48,[(0,(EV.ptr 0 0)),(2,iv k),(3,(EV.ptr 1 0)),(8,(EV.slO 2 12 len nn)),(9,iv z),(10,iv i),(18,(iv n)),(19,iv j)],[.it (.code (nav [1,0,0,1,1,0,0,1,1,0,0] (bodyOf Try.f115))),.it (.inLoop (nav [1,0,0,1,1,0,0,1,1,0,0] (bodyOf Try.f115))),.it (.inBlock 2),.it (.inBlock 1),.it (.code (nav [1,0,0,1,1,1] (bodyOf Try.f115))),.it (.inLoop (nav [1,0,0] (bodyOf Try.f115))),.it (.inBlock 0)],[],Option.none⟩],[(0,(EK.cells 92 [(iv n),(iv pw),(EV.slO 2 12 len nn)] true)),(1,EK.seq 95 (.ints .u8 q) true),(2,(EK.seq 95 (SyC.ints IntKind.u8 L) nn))],3⟩
theorem in_t (n pw:Int) (L:List Int) (len:Nat) (nn:Bool):RT (st0m 115 [.ptr 0 0] (PDel.K0 n pw L len nn) 2)=(.at (sA (n) (pw) (L) (len) (nn) (Int.ofNat len) ((0:Int)))):=by kernel_rfl
theorem a_t (n pw:Int) (L:List Int) (len:Nat) (nn:Bool) (z i:Int):RT (stOf (sA n pw L len nn z i))=(bc (decide (i<z)) (bc (bc (bc (decide ((0:Int)≤i)) (Nat.blt (Int.toNat i) len) false) true false) (bc (bc (Nat.ble (Nat.add (Nat.add (Nat.mul (Int.toNat i) (12:Nat)) (0:Nat)) (12:Nat)) (List.length L)) true false) (bc (bc (Nat.beq (List.length (List.take (12:Nat) (List.drop (Nat.add (Nat.mul (Int.toNat i) (12:Nat)) (0:Nat)) L))) (12:Nat)) (Nat.beq (List.length (zerosL (12:Nat))) (12:Nat)) false) (.at (sB (n) (pw) (L) (List.take (12:Nat) (List.drop (Nat.add (Nat.mul (Int.toNat i) (12:Nat)) (0:Nat)) L)) (len) (nn) (z) (i) (i) ((0:Int)))) .bad) .bad) .bad) (.done (EV.tup []) [(0,(EK.cells 92 [(EV.v (Value.int IntKind.i64 (n))),(EV.v (Value.int IntKind.i64 (pw))),(EV.slO 1 12 (len) (nn))] true)),(1,(EK.seq 95 (SyC.ints IntKind.u8 (L)) (nn)))] 2)):=by kernel_rfl
theorem b_t (n pw:Int) (L q:List Int) (len:Nat) (nn:Bool) (z i k j:Int):RT (stOf (sB n pw L q len nn z i k j))=(bc (decide (j<n)) (bc (bc (bc (bc (bc (decide ((0:Int)≤j)) (Nat.blt (Int.toNat j) (12:Nat)) false) true false) (bc (bc (Nat.blt (Int.toNat j) (List.length q)) true false) (bc (bc (bc (decide ((0:Int)≤k)) (Nat.blt (Int.toNat k) len) false) true false) (bc (bc (bc (decide ((0:Int)≤IntKind.wrap IntKind.i64 (IntKind.wrap IntKind.i64 (n-(1:Int))-j))) (Nat.blt (Int.toNat (IntKind.wrap IntKind.i64 (IntKind.wrap IntKind.i64 (n-(1:Int))-j))) (12:Nat)) false) true false) (bc (Nat.blt (Nat.add (Nat.mul (Int.toNat k) (12:Nat)) (Nat.add (0:Nat) (Nat.mul (Int.toNat (IntKind.wrap IntKind.i64 (IntKind.wrap IntKind.i64 (n-(1:Int))-j))) (1:Nat)))) (List.length L)) true false) false) false) false) false) true false) (.at (sB (n) (pw) (List.set L (Nat.add (Nat.mul (Int.toNat k) (12:Nat)) (Nat.add (0:Nat) (Nat.mul (Int.toNat (IntKind.wrap IntKind.i64 (IntKind.wrap IntKind.i64 (n-(1:Int))-j))) (1:Nat)))) (IntKind.wrap IntKind.u8 (IntKind.wrap IntKind.u8 (IntKind.wrap IntKind.i64 (n-(1:Int)))-List.getD q (Int.toNat j) (0:Int)))) (q) (len) (nn) (z) (i) (k) (IntKind.wrap IntKind.i64 (j+(1:Int))))) .bad) (.at (sA (n) (pw) (L) (len) (nn) (z) (IntKind.wrap IntKind.i64 (i+(1:Int)))))):=by kernel_rfl
noncomputable def trS {n:Nat} (p:Pm n):Nat→List Int
 | 0=>pA p
 | i+1=>(trS p i).set (n-1-i) ((n:Int)-1-(p.f i:Int))
theorem zfm {n:Nat} (p:Pm n):∀ i,(trS p i).length=12
 | 0=>zar p
 | i+1=>by unfold trS;rw [List.length_set,zfm p i]
theorem zos {n:Nat} (hn:n≤12) (p:Pm n):∀ i,i≤n→∀ x,x<12→(trS p i).getD x 0=if x<n∧n-1-x<i then (n:Int)-1-(p.f (n-1-x):Int) else (p.f x:Int)
 | 0,_,x,hx=>by
  rw [if_neg (by omega)];exact zbh p hx
 | i+1,hi,x,hx=>by
  unfold trS;rw [gset2,zfm,zos hn p i (by omega) x hx]
  by_cases e:x=n-1-i
  ·rw [if_pos ⟨e,by omega⟩,if_pos (by omega),show n-1-x=i by omega]
  ·rw [if_neg (fun h=>e h.1)]
   by_cases h:x<n∧n-1-x<i
   ·rw [if_pos h,if_pos (by omega)]
   ·rw [if_neg h,if_neg (by omega)]
theorem zxo {n:Nat} (hn:n≤12) (p:Pm n):trS p n=pA p.trn:=zgu (zfm p n) fun x hx=>by
 rw [zos hn p n (Nat.le_refl _) x hx];show _=((Pm.rv n (p.f (Pm.rv n x)):Nat):Int)
 by_cases h:x<n
 ·have h1:Pm.rv n x=n-1-x:=by unfold Pm.rv;rw [if_pos h]
  have h2:=p.lt (show n-1-x<n by omega);rw [if_pos (by omega),h1];unfold Pm.rv;rw [if_pos h2];omega
 ·have h1:Pm.rv n x=x:=by unfold Pm.rv;rw [if_neg h]
  rw [if_neg (by omega),h1,p.out x (by omega)];unfold Pm.rv;rw [if_neg (by omega)]
theorem zk2 {n:Nat} (A B:List (Pm n)) {M:List Int} (h:M.length=12):(encF A++(M++encF B)).length=(A.length+1+B.length)*12:=by
 rw [List.length_append,List.length_append,zah,zah,h];omega
theorem stepB {n:Nat} (hn:n≤12) {pw:Int} {A B:List (Pm n)} {p:Pm n} {len:Nat} {nn:Bool} {z:Int} {j:Nat} (hj:j<n) (hl:len=A.length+1+B.length):RT (stOf (sB n pw (encF A++(trS p j++encF B)) (pA p) len nn z A.length A.length j)) = .at (sB n pw (encF A++(trS p (j+1)++encF B)) (pA p) len nn z A.length A.length (j+1:Nat)):=by
 rw [b_t];have h1:=p.lt hj;have e0:((j:Int)).toNat=j:=rfl;have e1:(pA p).getD j 0=(p.f j:Int):=zbh p (by omega);rw [e0,e1];have w1:IntKind.wrap IntKind.i64 (IntKind.wrap IntKind.i64 ((n:Int)-1)-(j:Int))=((n-1-j:Nat):Int):=by
  rw [zae ((n:Int)-1) (by omega) (by omega),zae _ (by omega) (by omega)];omega
 have w2:IntKind.wrap IntKind.u8 (IntKind.wrap IntKind.u8 (IntKind.wrap IntKind.i64 ((n:Int)-1))-(p.f j:Int))=(n:Int)-1-(p.f j:Int):=by
  rw [zae ((n:Int)-1) (by omega) (by omega),PInv.wrap8 ((n:Int)-1) (by omega) (by omega),PInv.wrap8 _ (by omega) (by omega)]
 rw [w1,w2];have e2:(((n-1-j:Nat):Int)).toNat=n-1-j:=rfl;have e3:((A.length:Int)).toNat=A.length:=rfl;rw [e2,e3];have e4:Nat.add (Nat.mul A.length 12) (Nat.add 0 (Nat.mul (n-1-j) 1))=(encF A).length+(n-1-j):=by
  rw [zah];show A.length*12+(0+(n-1-j)*1)=_;omega
 rw [e4,zjz _ _ _ _ _ (by rw [zfm];omega),zk2 A B (zfm p j),zah,zar];have e5:trS p (j+1)=(trS p j).set (n-1-j) ((n:Int)-1-(p.f j:Int)):=rfl;rw [← e5];simp (disch:=omega) only [yS];rfl
theorem lastB {n:Nat} {pw:Int} {L q:List Int} {len:Nat} {nn:Bool} {z:Int} {i k j:Nat} (hj:n≤j) (hi:i<60000):RT (stOf (sB n pw L q len nn z i k j)) = .at (sA n pw L len nn z (i+1:Nat)):=by
 rw [b_t];simp (disch:=omega) only [yS];rfl
theorem loopB {n:Nat} (hn:n≤12) {pw:Int} {A B:List (Pm n)} {p:Pm n} {len:Nat} {nn:Bool} {z:Int} (hl:len=A.length+1+B.length) (hz:len≤5000):∀ (k j:Nat),j+k=n→LeadsM Try.prog 1 (stOf (sB n pw (encF A++(trS p j++encF B)) (pA p) len nn z A.length A.length j)) (stOf (sA n pw (encF (A++p.trn::B)) len nn z (A.length+1:Nat)))
 | 0,j,h=>by
  obtain rfl:j=n:=by omega
  rw [zxo hn,zb0,za6];exact leadsMZ (.nil _) (lastB (Nat.le_refl _) (by omega))
 | k+1,j,h=>(leadsMZ (.nil _) (stepB hn (by omega) hl)).trans (loopB hn hl hz k (j+1) (by omega))
theorem stepA {n:Nat} {pw:Int} {A B:List (Pm n)} {p:Pm n} {len:Nat} {nn:Bool} (hl:len=A.length+1+B.length) (hz:len≤5000):RT (stOf (sA n pw (encF (A++p::B)) len nn len A.length)) = .at (sB n pw (encF A++(trS p 0++encF B)) (pA p) len nn len A.length A.length (0:Nat)):=by
 rw [a_t];have e3:((A.length:Int)).toNat=A.length:=rfl;have e4:Nat.add (Nat.mul A.length 12) 0=A.length*12:=rfl;rw [e3,e4,zcu,zah,zar];have e5:(A++p::B).length=len:=by rw [List.length_append,List.length_cons];omega
 have e6:(zerosL 12).length=12:=rfl;rw [e5,e6,zb0,za6];simp (disch:=omega) only [yS];rfl
theorem lastA {n:Nat} {pw:Int} {L:List Int} {len:Nat} {nn:Bool} {z:Int} {i:Nat} (hi:z≤i):RT (stOf (sA n pw L len nn z i)) = .done (.tup []) (PDel.K0 n pw L len nn) 2:=by
 rw [a_t];simp (disch:=omega) only [yS];rfl
theorem loopA {n:Nat} (hn:n≤12) {pw:Int} {len:Nat} {nn:Bool} (hz:len≤5000):∀ (B A:List (Pm n)),len=A.length+B.length→EndM 1 115 .nil (stOf (sA n pw (encF (A.map Pm.trn++B)) len nn len A.length)) (.tup []) (PDel.K0 n pw (encF ((A++B).map Pm.trn)) len nn) 2
 | [],A,h=>by
  rw [List.append_nil,List.append_nil];exact .done (lastA (by simp at h;omega))
 | p::B,A,h=>by
  rw [List.length_cons] at h;have h1:=stepA (pw:=pw) (A:=A.map Pm.trn) (B:=B) (p:=p) (len:=len) (nn:=nn) (by rw [List.length_map];omega) hz;have h2:=loopB hn (pw:=pw) (A:=A.map Pm.trn) (B:=B) (p:=p) (len:=len) (nn:=nn) (z:=len) (by rw [List.length_map];omega) hz n 0 (by omega);rw [List.length_map] at h1 h2;refine .at (.nil _) h1 (.lead h2 ?_);have h3:=loopA hn (pw:=pw) (nn:=nn) hz B (A++[p]) (by rw [List.length_append,List.length_singleton];omega)
  rw [List.length_append,List.length_singleton,List.map_append,List.append_assoc,List.append_assoc] at h3;exact h3
noncomputable def turL (n:Int) (L:List Int):List Int:=encF ((decF n.toNat L).map Pm.trn)
theorem ends {n pw:Int} {L:List Int} {len:Nat} {nn:Bool} (h:FormOk n L len):EndM 1 115 .nil (st0m 115 [.ptr 0 0] (PDel.K0 n pw L len nn) 2) (.tup []) (PDel.K0 n pw (turL n L) len nn) 2:=by
 obtain ⟨h0,hn,F,rfl,rfl,hF⟩:=h;obtain ⟨n,rfl⟩:=Int.eq_ofNat_of_zero_le h0;have hn:n≤12:=by omega
 unfold turL;have e:(decF ((n:Int)).toNat (encF F))=F:=zcv hn F;rw [e];exact .at (.nil _) (in_t n pw _ _ nn) (loopA hn hF F [] (by simp))
end PTrn
noncomputable def spTrn:ZMT:=fun ax K0 m=>match ax,K0 with
 | [.ptr 0 0],[(0,.cells 92 [.v (.int .i64 n),.v (.int .i64 pw),.slO 1 12 len nn] v_0),(1,.seq 95 (.ints .u8 L) v_1)]=>bc (Nat.beq m (2)) (some ⟨bc (eqN v_0 (true)) (bc (eqN v_1 (nn)) (decide (FormOk n L len)) false) false,.tup [],PDel.K0 n pw (PTrn.turL n L) len nn,2,1⟩) none
 | _,_=>none
theorem zss:ZMtOk Try.prog 115 spTrn:=fun γ w0 w us ax K0 m r hs hc hres hax hH=>by
 unfold spTrn at hs;split at hs
 case h_2=>cases hs
 rename_i n pw len nn v_0 L v_1;obtain ⟨hm,rfl⟩:=noN hs;have hm:=Nat.eq_of_beq_eq_true hm;subst hm;have hc_0:bc (eqN v_0 (true)) (bc (eqN v_1 (nn)) (decide (FormOk n L len)) false) false=true:=hc;obtain ⟨q_0,hc_1⟩:=bcT hc_0;have p_0:=(zei q_0).symm;subst p_0;obtain ⟨q_1,hc_2⟩:=bcT hc_1;have p_1:=(zei q_1).symm;subst p_1;have hc:=of_decide_eq_true hc_2;exact EndM.calls (PTrn.ends hc) (.nil _) (by kernel_rfl) hres hax hH
namespace PTim
noncomputable def ct:Tr ZCC:=((Tr.nil.put 114 (some (dC spPln))).put 116 (some (mC spInv))).put 99 (some (mC spDel))
theorem ct_ok:ZCtsOk Try.prog ct:=(((ZCtsOk.nil _).add rfl zls).addM rfl zs0).addM rfl zs1
noncomputable def RT (s:ES):ZF:=RMs 1 117 ct [(atS 0 117 3,[[(0,none),(4,none)]]),(atS 0 117 8,[[(0,none),(4,none),(5,none),(6,none),(7,none),(8,none)]]),(atS 0 117 17,[[(0,none),(9,none),(10,none)]]),(atS 0 117 19,[[(0,none),(10,none)]])] [] [] s
noncomputable def sA (n pw:Int) (L:List Int) (len:Nat) (k:Int):NS:=⟨[⟨117,187,[(0,(EV.ptr 0 0)),(4,iv k)],[.it (.code (nav [1,0,1,1,0,1,0,0,0] (bodyOf Try.f117))),.it (.code (nav [1,0,1,1,0,1,0,0,1] (bodyOf Try.f117))),.it (.inLoop (nav [1,0,1,1,0,1,0,0] (bodyOf Try.f117))),.it (.inBlock 0),.it (.code (nav [1,0,1,1,1] (bodyOf Try.f117))),.it (.inScope (nav [1,0] (bodyOf Try.f117)))],[],Option.none⟩],[(0,EK.cells 92 [iv n,iv pw,.slO 1 12 len true] true),(1,EK.seq 95 (.ints .u8 L) true)],2⟩
noncomputable def sB (n pw:Int) (L q:List Int) (len:Nat) (k:Int) (m:Nat) (tk:Bool) (i:Int):NS:=⟨[⟨117,187,[(0,(EV.ptr 0 0)),(4,iv k),(5,(EV.ptr 1 0)),(6,EV.ptrE 2 12 m 0),(7,bv tk),(8,iv i)],[.it (.code (nav [1,0,1,1,0,1,0,0,1,0,0,1,1,0,1,0,0,0] (bodyOf Try.f117))),.it (.code (nav [1,0,1,1,0,1,0,0,1,0,0,1,1,0,1,0,0,1] (bodyOf Try.f117))),.it (.inLoop (nav [1,0,1,1,0,1,0,0,1,0,0,1,1,0,1,0,0] (bodyOf Try.f117))),.it (.inBlock 2),.it (.code (nav [1,0,1,1,0,1,0,0,1,0,0,1,1,1] (bodyOf Try.f117))),.it (.inBlock 1),.it (.code (nav [1,0,1,1,0,1,0,0,1,1] (bodyOf Try.f117))),.it (.inLoop (nav [1,0,1,1,0,1,0,0] (bodyOf Try.f117))),.it (.inBlock 0),.it (.code (nav [1,0,1,1,1] (bodyOf Try.f117))),.it (.inScope (nav [1,0] (bodyOf Try.f117)))],[],Option.none⟩],[(0,(EK.cells 92 [(iv n),(iv pw),(EV.slO 2 12 len true)] true)),(1,EK.seq 95 (.ints .u8 q) true),(2,(EK.seq 95 (SyC.ints IntKind.u8 L) true))],3⟩
noncomputable def sC (n pw:Int) (L D:List Int) (len:Nat):NS:=⟨[⟨117,187,[(0,(EV.ptr 0 0)),(9,(EV.ptr 1 0)),(10,(EV.ptr 2 0))],[.it (.code (nav [1,0,1,1,1,1,0,0,0,0] (bodyOf Try.f117))),.it (.code (nav [1,0,1,1,1,1,0,0,0,1] (bodyOf Try.f117))),.it (.inLoop (nav [1,0,1,1,1,1,0,0,0] (bodyOf Try.f117))),.it (.inBlock 4),.it (.code (nav [1,0,1,1,1,1,1] (bodyOf Try.f117))),.it (.inScope (nav [1,0] (bodyOf Try.f117)))],[],Option.none⟩],[(0,(EK.cells 92 [(iv n),(iv pw),(EV.slO 3 12 len true)] true)),(1,(EK.seq 95 (SyC.ints IntKind.u8 [(0),(1),(2),(3),(4),(5),(6),(7),(8),(9),(10),(11)]) true)),(2,EK.seq 95 (.ints .u8 D) true),(3,(EK.seq 95 (SyC.ints IntKind.u8 L) true))],4⟩
noncomputable def sD (n pw:Int) (L D:List Int) (len:Nat):NS:=⟨[⟨117,187,[(0,(EV.ptr 0 0)),(10,(EV.ptr 1 0))],[.it (.code (nav [1,0,1,1,1,1,1,0,0,0] (bodyOf Try.f117))),.it (.code (nav [1,0,1,1,1,1,1,0,0,1] (bodyOf Try.f117))),.it (.inLoop (nav [1,0,1,1,1,1,1,0,0] (bodyOf Try.f117))),.it (.inBlock 6),.it (.inScope (nav [1,0] (bodyOf Try.f117)))],[],Option.none⟩],[(0,EK.cells 92 [iv n,iv pw,.slO 2 12 len true] true),(1,(EK.seq 95 (SyC.ints IntKind.u8 D) true)),(2,EK.seq 95 (.ints .u8 L) true)],3⟩
theorem in_t (n pw:Int) (L e:List Int) (len:Nat) (nn:Bool):RT (st0m 117 [.ptr 0 0,.arr (.ints .u8 e)] (PDel.K0 n pw L len nn) 2)=(bc (bc (bc (bc (Nat.beq (12:Nat) (List.length e)) true false) (bc (Nat.beq (List.length e) (12:Nat)) (bc (bc (Nat.beq (Nat.mul len (12:Nat)) (List.length L)) (bc (Nat.beq (Nat.mul (1:Nat) (12:Nat)) (List.length e)) (bc (Nat.ble (len+(1:Nat)) (65536:Nat)) (bc nn true (bc nn false true)) false) false) false) true false) false) false) true false) (.at (sA (n) (pw) (L++e) (len+(1:Nat)) (IntKind.wrap IntKind.i64 (Int.ofNat (len+(1:Nat))-(1:Int))))) .bad):=by kernel_rfl
theorem a_t (n pw:Int) (L:List Int) (len:Nat) (k:Int):RT (stOf (sA n pw L len k))=(bc (decide ((0:Int)<k)) (bc (bc (bc (bc (bc (decide ((0:Int)≤IntKind.wrap IntKind.i64 (k-(1:Int)))) (Nat.blt (Int.toNat (IntKind.wrap IntKind.i64 (k-(1:Int)))) len) false) true false) (bc (bc (decide (Int.toNat (IntKind.wrap IntKind.i64 (k-(1:Int)))*(12:Nat)+(12:Nat)≤List.length L∧In12 (List.take (12:Nat) (List.drop (Int.toNat (IntKind.wrap IntKind.i64 (k-(1:Int)))*(12:Nat)) L)))) true false) (bc (bc (bc (decide ((0:Int)≤k)) (Nat.blt (Int.toNat k) len) false) true false) (bc (bc (Nat.beq (List.length (invS (List.take (12:Nat) (List.drop (Int.toNat (IntKind.wrap IntKind.i64 (k-(1:Int)))*(12:Nat)) L)) (12:Nat))) (12:Nat)) (Nat.beq (List.length (zerosL (12:Nat))) (12:Nat)) false) true false) false) false) false) (bc (bc (bc (bc (Nat.beq len len) (eqN true true) false) true false) true false) true false) false) (.at (sB (n) (pw) (L) (invS (List.take (12:Nat) (List.drop (Int.toNat (IntKind.wrap IntKind.i64 (k-(1:Int)))*(12:Nat)) L)) (12:Nat)) (len) (k) (Int.toNat k) (false) ((1:Int)))) .bad) (bc (bc (decide ((0:Int)≤n∧n≤(12:Int))) true false) (.at (sC (n) (pw) (L) (pA (Pm.del (Int.toNat n))) (len))) .bad)):=by kernel_rfl
theorem b_t (n pw:Int) (L q:List Int) (len:Nat) (k:Int) (m:Nat) (tk:Bool) (i:Int):RT (stOf (sB n pw L q len k m tk i))=(bc (decide (i<n)) (bc (decide (List.getD L (Nat.add (Nat.mul m (12:Nat)) (Nat.add (0:Nat) (Nat.mul (Int.toNat i) (1:Nat)))) (0:Int)<List.getD L (Nat.add (Nat.mul m (12:Nat)) (Nat.add (0:Nat) (Nat.mul (Int.toNat (IntKind.wrap IntKind.i64 (i-(1:Int)))) (1:Nat)))) (0:Int))) (bc (bc (bc (bc (bc (decide ((0:Int)≤IntKind.wrap IntKind.i64 (i-(1:Int)))) (Nat.blt (Int.toNat (IntKind.wrap IntKind.i64 (i-(1:Int)))) (12:Nat)) false) true false) (bc (bc (Nat.blt (Nat.add (Nat.mul m (12:Nat)) (Nat.add (0:Nat) (Nat.mul (Int.toNat (IntKind.wrap IntKind.i64 (i-(1:Int)))) (1:Nat)))) (List.length L)) true false) (bc (bc (bc (decide ((0:Int)≤i)) (Nat.blt (Int.toNat i) (12:Nat)) false) true false) (bc (bc (Nat.blt (Nat.add (Nat.mul m (12:Nat)) (Nat.add (0:Nat) (Nat.mul (Int.toNat i) (1:Nat)))) (List.length L)) true false) (bc (eqB (decide (List.getD L (Nat.add (Nat.mul m (12:Nat)) (Nat.add (0:Nat) (Nat.mul (Int.toNat i) (1:Nat)))) (0:Int)<List.getD L (Nat.add (Nat.mul m (12:Nat)) (Nat.add (0:Nat) (Nat.mul (Int.toNat (IntKind.wrap IntKind.i64 (i-(1:Int)))) (1:Nat)))) (0:Int))) true) (bc (bc (bc (decide ((0:Int)≤IntKind.wrap IntKind.i64 (i-(1:Int)))) (Nat.blt (Int.toNat (IntKind.wrap IntKind.i64 (i-(1:Int)))) (12:Nat)) false) true false) (bc (bc (Nat.blt (Int.toNat (IntKind.wrap IntKind.i64 (i-(1:Int)))) (List.length q)) true false) (bc (bc (bc (decide ((0:Int)≤i)) (Nat.blt (Int.toNat i) (12:Nat)) false) true false) (bc (bc (Nat.blt (Int.toNat i) (List.length q)) true false) true false) false) false) false) false) false) false) false) false) true false) (bc (decide (List.getD q (Int.toNat (IntKind.wrap IntKind.i64 (i-(1:Int)))) (0:Int)<List.getD q (Int.toNat i) (0:Int))) (bc (bc (bc (bc (bc (decide ((0:Int)≤i)) (Nat.blt (Int.toNat i) (12:Nat)) false) true false) (bc (bc (Nat.blt (Int.toNat i) (List.length q)) true false) (bc (bc (bc (decide ((0:Int)≤IntKind.wrap IntKind.i64 (i-(1:Int)))) (Nat.blt (Int.toNat (IntKind.wrap IntKind.i64 (i-(1:Int)))) (12:Nat)) false) true false) (bc (bc (Nat.blt (Int.toNat (IntKind.wrap IntKind.i64 (i-(1:Int)))) (List.length q)) true false) (bc (bc (bc (decide ((0:Int)≤IntKind.wrap IntKind.i64 (i-(1:Int)))) (Nat.blt (Int.toNat (IntKind.wrap IntKind.i64 (i-(1:Int)))) (12:Nat)) false) true false) (bc (Nat.blt (Int.toNat (IntKind.wrap IntKind.i64 (i-(1:Int)))) (List.length q)) (bc (bc (bc (decide ((0:Int)≤i)) (Nat.blt (Int.toNat i) (12:Nat)) false) true false) (bc (Nat.blt (Int.toNat i) (List.length (List.set q (Int.toNat (IntKind.wrap IntKind.i64 (i-(1:Int)))) (List.getD q (Int.toNat i) (0:Int))))) true false) false) false) false) false) false) false) false) true false) (bc (bc (bc (bc (bc (decide ((0:Int)≤i)) (Nat.blt (Int.toNat i) (12:Nat)) false) true false) (bc (bc (Nat.blt (Nat.add (Nat.mul m (12:Nat)) (Nat.add (0:Nat) (Nat.mul (Int.toNat i) (1:Nat)))) (List.length L)) true false) (bc (bc (bc (decide ((0:Int)≤IntKind.wrap IntKind.i64 (i-(1:Int)))) (Nat.blt (Int.toNat (IntKind.wrap IntKind.i64 (i-(1:Int)))) (12:Nat)) false) true false) (bc (bc (Nat.blt (Nat.add (Nat.mul m (12:Nat)) (Nat.add (0:Nat) (Nat.mul (Int.toNat (IntKind.wrap IntKind.i64 (i-(1:Int)))) (1:Nat)))) (List.length L)) true false) (bc (bc (bc (decide ((0:Int)≤IntKind.wrap IntKind.i64 (i-(1:Int)))) (Nat.blt (Int.toNat (IntKind.wrap IntKind.i64 (i-(1:Int)))) (12:Nat)) false) true false) (bc (Nat.blt (Nat.add (Nat.mul m (12:Nat)) (Nat.add (0:Nat) (Nat.mul (Int.toNat (IntKind.wrap IntKind.i64 (i-(1:Int)))) (1:Nat)))) (List.length L)) (bc (bc (bc (decide ((0:Int)≤i)) (Nat.blt (Int.toNat i) (12:Nat)) false) true false) (bc (Nat.blt (Nat.add (Nat.mul m (12:Nat)) (Nat.add (0:Nat) (Nat.mul (Int.toNat i) (1:Nat)))) (List.length (List.set L (Nat.add (Nat.mul m (12:Nat)) (Nat.add (0:Nat) (Nat.mul (Int.toNat (IntKind.wrap IntKind.i64 (i-(1:Int)))) (1:Nat)))) (List.getD L (Nat.add (Nat.mul m (12:Nat)) (Nat.add (0:Nat) (Nat.mul (Int.toNat i) (1:Nat)))) (0:Int))))) true false) false) false) false) false) false) false) false) true false) (.at (sB (n) (pw) (List.set (List.set L (Nat.add (Nat.mul m (12:Nat)) (Nat.add (0:Nat) (Nat.mul (Int.toNat (IntKind.wrap IntKind.i64 (i-(1:Int)))) (1:Nat)))) (List.getD L (Nat.add (Nat.mul m (12:Nat)) (Nat.add (0:Nat) (Nat.mul (Int.toNat i) (1:Nat)))) (0:Int))) (Nat.add (Nat.mul m (12:Nat)) (Nat.add (0:Nat) (Nat.mul (Int.toNat i) (1:Nat)))) (List.getD L (Nat.add (Nat.mul m (12:Nat)) (Nat.add (0:Nat) (Nat.mul (Int.toNat (IntKind.wrap IntKind.i64 (i-(1:Int)))) (1:Nat)))) (0:Int))) (List.set (List.set q (Int.toNat (IntKind.wrap IntKind.i64 (i-(1:Int)))) (List.getD q (Int.toNat i) (0:Int))) (Int.toNat i) (List.getD q (Int.toNat (IntKind.wrap IntKind.i64 (i-(1:Int)))) (0:Int))) (len) (k) (m) (true) (IntKind.wrap IntKind.i64 ((0:Int)+(1:Int))))) .bad) .bad) (.at (sB (n) (pw) (L) (q) (len) (k) (m) (tk) (IntKind.wrap IntKind.i64 (i+(1:Int)))))) .bad) (bc (bc (bc (bc (bc (decide ((0:Int)≤IntKind.wrap IntKind.i64 (i-(1:Int)))) (Nat.blt (Int.toNat (IntKind.wrap IntKind.i64 (i-(1:Int)))) (12:Nat)) false) true false) (bc (bc (Nat.blt (Nat.add (Nat.mul m (12:Nat)) (Nat.add (0:Nat) (Nat.mul (Int.toNat (IntKind.wrap IntKind.i64 (i-(1:Int)))) (1:Nat)))) (List.length L)) true false) (bc (bc (bc (decide ((0:Int)≤i)) (Nat.blt (Int.toNat i) (12:Nat)) false) true false) (bc (bc (Nat.blt (Nat.add (Nat.mul m (12:Nat)) (Nat.add (0:Nat) (Nat.mul (Int.toNat i) (1:Nat)))) (List.length L)) true false) (bc (eqB (decide (List.getD L (Nat.add (Nat.mul m (12:Nat)) (Nat.add (0:Nat) (Nat.mul (Int.toNat i) (1:Nat)))) (0:Int)<List.getD L (Nat.add (Nat.mul m (12:Nat)) (Nat.add (0:Nat) (Nat.mul (Int.toNat (IntKind.wrap IntKind.i64 (i-(1:Int)))) (1:Nat)))) (0:Int))) false) true false) false) false) false) false) true false) (.at (sB (n) (pw) (L) (q) (len) (k) (m) (tk) (IntKind.wrap IntKind.i64 (i+(1:Int))))) .bad)) (bc (!tk) (bc (bc (decide ((0:Int)≤n∧n≤(12:Int))) true false) (.at (sC (n) (pw) (L) (pA (Pm.del (Int.toNat n))) (len))) .bad) (bc (bc (bc (bc (decide (In12 q)) true false) (bc (bc (bc (decide ((0:Int)≤IntKind.wrap IntKind.i64 (k-(1:Int)))) (Nat.blt (Int.toNat (IntKind.wrap IntKind.i64 (k-(1:Int)))) len) false) true false) (bc (bc (Nat.beq (List.length (invS q (12:Nat))) (12:Nat)) (Nat.ble (Nat.add (Nat.add (Nat.mul (Int.toNat (IntKind.wrap IntKind.i64 (k-(1:Int)))) (12:Nat)) (0:Nat)) (12:Nat)) (List.length L)) false) true false) false) false) (bc (bc (bc (bc (Nat.beq len len) (eqN true true) false) true false) true false) true false) false) (.at (sA (n) (pw) (List.take (Nat.add (Nat.mul (Int.toNat (IntKind.wrap IntKind.i64 (k-(1:Int)))) (12:Nat)) (0:Nat)) (List.drop (0:Nat) L)++invS q (12:Nat)++List.take (List.length L) (List.drop (Nat.add (Nat.add (Nat.mul (Int.toNat (IntKind.wrap IntKind.i64 (k-(1:Int)))) (12:Nat)) (0:Nat)) (List.length (invS q (12:Nat)))) L)) (len) (IntKind.wrap IntKind.i64 (k-(1:Int))))) .bad))):=by kernel_rfl
theorem c_t (n pw:Int) (L D:List Int) (len:Nat):RT (stOf (sC n pw L D len))=(bc (decide ((0:Int)<Int.ofNat len)) (bc (bc (bc (eqB (decide ((0:Int)<Int.ofNat len)) true) (bc (bc (bc (decide ((0:Int)≤IntKind.wrap IntKind.i64 (Int.ofNat len-(1:Int)))) (Nat.blt (Int.toNat (IntKind.wrap IntKind.i64 (Int.ofNat len-(1:Int)))) len) false) true false) (bc (bc (Nat.ble (Nat.add (Nat.add (Nat.mul (Int.toNat (IntKind.wrap IntKind.i64 (Int.ofNat len-(1:Int)))) (12:Nat)) (0:Nat)) (12:Nat)) (List.length L)) true false) (bc (bc (bc (Nat.beq (List.length (List.take (12:Nat) (List.drop (Nat.add (Nat.mul (Int.toNat (IntKind.wrap IntKind.i64 (Int.ofNat len-(1:Int)))) (12:Nat)) (0:Nat)) L))) (12:Nat)) (Nat.beq (List.length [(0:Int),(1:Int),(2:Int),(3:Int),(4:Int),(5:Int),(6:Int),(7:Int),(8:Int),(9:Int),(10:Int),(11:Int)]) (12:Nat)) false) true false) true false) false) false) false) true false) (bc (eqLI (List.take (12:Nat) (List.drop (Nat.add (Nat.mul (Int.toNat (IntKind.wrap IntKind.i64 (Int.ofNat len-(1:Int)))) (12:Nat)) (0:Nat)) L)) [(0:Int),(1:Int),(2:Int),(3:Int),(4:Int),(5:Int),(6:Int),(7:Int),(8:Int),(9:Int),(10:Int),(11:Int)]) (bc (bc (bc (bc (decide ((0:Int)≤IntKind.wrap IntKind.i64 (Int.ofNat len-(1:Int)))) (bc (Nat.ble (Int.toNat (IntKind.wrap IntKind.i64 (Int.ofNat len-(1:Int)))) len) (Nat.beq (Nat.mul len (12:Nat)) (List.length L)) false) false) true false) true false) (.at (sC (n) (pw) (List.take (Int.toNat (IntKind.wrap IntKind.i64 (Int.ofNat len-(1:Int)))*(12:Nat)) L) (D) (Int.toNat (IntKind.wrap IntKind.i64 (Int.ofNat len-(1:Int)))))) .bad) (.at (sD (n) (pw) (L) (D) (len)))) .bad) (bc (bc (bc (eqB (decide ((0:Int)<Int.ofNat len)) false) true false) true false) (.at (sD (n) (pw) (L) (D) (len))) .bad)):=by kernel_rfl
theorem d_t (n pw:Int) (L D:List Int) (len:Nat):RT (stOf (sD n pw L D len))=(bc (decide ((0:Int)<Int.ofNat len)) (bc (bc (bc (eqB (decide ((0:Int)<Int.ofNat len)) true) (bc (bc (Nat.blt (Int.toNat (0:Int)) len) true false) (bc (bc (Nat.ble (Nat.add (Nat.add (Nat.mul (Int.toNat (0:Int)) (12:Nat)) (0:Nat)) (12:Nat)) (List.length L)) true false) (bc (bc (Nat.beq (12:Nat) (List.length D)) true false) (bc (bc (bc (Nat.beq (List.length (List.take (12:Nat) (List.drop (Nat.add (Nat.mul (Int.toNat (0:Int)) (12:Nat)) (0:Nat)) L))) (12:Nat)) (Nat.beq (List.length D) (12:Nat)) false) true false) true false) false) false) false) false) true false) (bc (eqLI (List.take (12:Nat) (List.drop (Nat.add (Nat.mul (Int.toNat (0:Int)) (12:Nat)) (0:Nat)) L)) D) (bc (bc (Nat.ble (Int.toNat (1:Int)) len) (Nat.beq (Nat.mul len (12:Nat)) (List.length L)) false) (.at (sD (n) (IntKind.wrap IntKind.i64 (pw+(1:Int))) (List.drop (Int.toNat (1:Int)*(12:Nat)) L) (D) (len-Int.toNat (1:Int)))) .bad) (.done (EV.tup []) [(0,(EK.cells 92 [(EV.v (Value.int IntKind.i64 (n))),(EV.v (Value.int IntKind.i64 (pw))),(EV.slO 1 12 (len) true)] true)),(1,(EK.seq 95 (SyC.ints IntKind.u8 (L)) true))] 2)) .bad) (bc (bc (bc (eqB (decide ((0:Int)<Int.ofNat len)) false) true false) true false) (.done (EV.tup []) [(0,(EK.cells 92 [(EV.v (Value.int IntKind.i64 (n))),(EV.v (Value.int IntKind.i64 (pw))),(EV.slO 1 12 (len) true)] true)),(1,(EK.seq 95 (SyC.ints IntKind.u8 (L)) true))] 2) .bad)):=by kernel_rfl
end PTim
section
namespace PTim
variable {n:Nat}
theorem step1 {pw:Int} {A B:List (Pm n)} {a b:Pm n} {len:Nat} {k:Int} {tk:Bool} {i:Nat} (hn:n≤12) (hi:0<i∧i<n) (hb:b.beg i) (hf:¬ a.fin i):RT (stOf (sB n pw (encF (A++b::B)) (pA a.inv) len k A.length tk i)) = .at (sB n pw (encF (A++b.L i hi::B)) (pA (a.R i hi).inv) len k A.length true (1:Nat)):=by
 obtain ⟨j,rfl⟩:∃ j,i=j+1:=⟨i-1,by omega⟩;rw [b_t];have w:IntKind.i64.wrap (((j+1:Nat):Int)-1)=(j:Int):=by rw [zae _ (by omega) (by omega)];omega
 have e1:((j:Int)).toNat=j:=rfl;have e2:(((j+1:Nat):Int)).toNat=j+1:=rfl;rw [w,e1,e2];have i1:Nat.add (Nat.mul A.length 12) (Nat.add 0 (Nat.mul j 1))=A.length*12+j:=by show A.length*12+(0+j*1)=_;omega
 have i2:Nat.add (Nat.mul A.length 12) (Nat.add 0 (Nat.mul (j+1) 1))=A.length*12+(j+1):=by show A.length*12+(0+(j+1)*1)=_;omega
 rw [i1,i2,zfh A B b (show j<12 by omega),zfh A B b (show j+1<12 by omega),zbh a.inv (show j<12 by omega),zbh a.inv (show j+1<12 by omega)];have l1:=pA_L b hi hn;have l2:=pA_L a.inv hi hn;rw [show j+1-1=j by omega] at l1 l2;rw [zre A B b (b.L (j+1) hi) j (j+1) _ _ (by omega) (by omega) l1,l2,← inv_R a hi];have f1:(b.f (j+1):Int)<(b.f j:Int):=by
  unfold Pm.beg at hb;rw [show j+1-1=j by omega] at hb;omega
 have f2:(a.inv.f j:Int)<(a.inv.f (j+1):Int):=by
  have:=(Pm.nfin hi.1).1 hf;rw [show j+1-1=j by omega] at this;show (a.g j:Int)<(a.g (j+1):Int);omega
 have hlen:(encF (A++b::B)).length=A.length*12+12+B.length*12:=by rw [zah,List.length_append,List.length_cons];omega
 have z1:(Int.ofNat 0+1:Int)=((1:Nat):Int):=rfl;rw [List.length_set,List.length_set,hlen,zar];simp (disch:=omega) only [yS,eqB]
theorem step2 {pw:Int} {A B:List (Pm n)} {a b:Pm n} {len:Nat} {k:Int} {tk:Bool} {i:Nat} (hn:n≤12) (hi:0<i∧i<n) (h:¬ (b.beg i∧¬ a.fin i)):RT (stOf (sB n pw (encF (A++b::B)) (pA a.inv) len k A.length tk i)) = .at (sB n pw (encF (A++b::B)) (pA a.inv) len k A.length tk (i+1:Nat)):=by
 obtain ⟨j,rfl⟩:∃ j,i=j+1:=⟨i-1,by omega⟩;rw [b_t];have w:IntKind.i64.wrap (((j+1:Nat):Int)-1)=(j:Int):=by rw [zae _ (by omega) (by omega)];omega
 have e1:((j:Int)).toNat=j:=rfl;have e2:(((j+1:Nat):Int)).toNat=j+1:=rfl;rw [w,e1,e2];have i1:Nat.add (Nat.mul A.length 12) (Nat.add 0 (Nat.mul j 1))=A.length*12+j:=by show A.length*12+(0+j*1)=_;omega
 have i2:Nat.add (Nat.mul A.length 12) (Nat.add 0 (Nat.mul (j+1) 1))=A.length*12+(j+1):=by show A.length*12+(0+(j+1)*1)=_;omega
 rw [i1,i2,zfh A B b (show j<12 by omega),zfh A B b (show j+1<12 by omega),zbh a.inv (show j<12 by omega),zbh a.inv (show j+1<12 by omega)];have hlen:(encF (A++b::B)).length=A.length*12+12+B.length*12:=by rw [zah,List.length_append,List.length_cons];omega
 rw [List.length_set,List.length_set,hlen,zar]
 by_cases hb:b.beg (j+1)
 ·have hf:a.fin (j+1):=Classical.byContradiction fun hf=>h ⟨hb,hf⟩;have f1:(b.f (j+1):Int)<(b.f j:Int):=by
   unfold Pm.beg at hb;rw [show j+1-1=j by omega] at hb;omega
  have f2:¬ (a.inv.f j:Int)<(a.inv.f (j+1):Int):=by
   unfold Pm.fin at hf;rw [show j+1-1=j by omega] at hf;show ¬ (a.g j:Int)<(a.g (j+1):Int);omega
  simp (disch:=omega) only [yS,eqB];rfl
 ·have f1:¬ (b.f (j+1):Int)<(b.f j:Int):=by
   unfold Pm.beg at hb;rw [show j+1-1=j by omega] at hb;omega
  simp (disch:=omega) only [yS,eqB];rfl
theorem loopB {pw:Int} {A B:List (Pm n)} {len:Nat} {k:Int} (hn:n≤12):∀ (μ:Nat) (a b:Pm n) (i:Nat) (tk:Bool),a.W*(n+1)+(n-i)≤μ→1≤i→i≤n→(∀ j,0<j→j<i→¬ (b.beg j∧¬ a.fin j)) →
  ∃ a' b' tk',Mvs [a,b] [a',b']∧Lw a' b'∧(tk'=false→tk=false∧a'=a∧b'=b)∧(tk'=true→tk=true∨a'.W<a.W)∧LeadsM Try.prog 1 (stOf (sB n pw (encF (A++b::B)) (pA a.inv) len k A.length tk i)) (stOf (sB n pw (encF (A++b'::B)) (pA a'.inv) len k A.length tk' n))
 | μ,a,b,i,tk,hμ,h1,h2,hj=>by
  by_cases hi:i=n
  ·subst hi;exact ⟨a,b,tk,.refl _,fun j g1 g2 hb=>Classical.byContradiction fun hf=>hj j g1 g2 ⟨hb,hf⟩,fun h=>⟨h,rfl,rfl⟩,fun h=>.inl h,LeadsM.refl _ _⟩
  ·have hin:0<i∧i<n:=⟨h1,by omega⟩
   by_cases hs:b.beg i∧¬ a.fin i
   ·obtain ⟨hb,hf⟩:=hs;have hW:=a.W_R hin hf
    match μ with
    | 0=>omega
    | μ+1=>
     have hm:(a.R i hin).W*(n+1)+(n+1)≤a.W*(n+1):=by rw [← Nat.succ_mul];exact Nat.mul_le_mul_right _ hW
     obtain ⟨a',b',tk',g1,g2,g3,g4,g5⟩:=loopB (pw:=pw) (A:=A) (B:=B) (len:=len) (k:=k) hn μ (a.R i hin) (b.L i hin) 1 true (by omega) (Nat.le_refl _) (by omega) (fun j q1 q2=>by omega);refine ⟨a',b',tk',.step (.here a b [] i hin hb hf) g1,g2,fun h=>absurd (g3 h).1 (by decide),fun h=>.inr ?_,(leadsMZ ct_ok (step1 hn hin hb hf)).trans g5⟩;have hle:a'.W≤(a.R i hin).W:=by
      rcases Bool.eq_false_or_eq_true tk' with e|e
      ·have hmv:∀ {s t:List (Pm n)},Mvs s t→∀ {x y x' y':Pm n},s=[x,y]→t=[x',y']→x'.W≤x.W:=by
        intro s t h
        induction h with
        | refl s=>intro x y x' y' e1 e2;rw [e1] at e2;injection e2 with e2;rw [e2];exact Nat.le_refl _
        | step h1 h2 ih=>
         intro x y x' y' e1 e2;subst e1
         cases h1 with
         | here _ _ _ q hq hb2 hf2=>
          have:=ih rfl e2;have:=x.W_R hq hf2;omega
         | there _ h3=>cases h3 with
          | there _ h4=>cases h4
       exact hmv g1 rfl rfl
      ·exact absurd (g3 e).1 (by decide)
     omega
   ·match μ with
    | 0=>omega
    | μ+1=>
     obtain ⟨a',b',tk',g1,g2,g3,g4,g5⟩:=loopB (pw:=pw) (A:=A) (B:=B) (len:=len) (k:=k) hn μ a b (i+1) tk (by omega) (by omega) (by omega) (fun j q1 q2=>by
      by_cases e:j=i
      ·rw [e];exact hs
      ·exact hj j q1 (by omega))
     exact ⟨a',b',tk',g1,g2,g3,g4,(leadsMZ ct_ok (step2 hn hin hs)).trans g5⟩
theorem pair {pw:Int} {A B:List (Pm n)} {a b:Pm n} {len:Nat} {k:Int} (hn1:1≤n) (hn:n≤12) :
  (nf1 a b=a∧LeadsM Try.prog 1 (stOf (sB n pw (encF (A++b::B)) (pA a.inv) len k A.length false (1:Nat))) (stOf (sB n pw (encF (A++b::B)) (pA a.inv) len k A.length false n))) ∨
  (nf1 a b≠a∧LeadsM Try.prog 1 (stOf (sB n pw (encF (A++b::B)) (pA a.inv) len k A.length false (1:Nat))) (stOf (sB n pw (encF (A++nf2 a b::B)) (pA (nf1 a b).inv) len k A.length true n))):=by
 obtain ⟨a',b',tk',g1,g2,g3,g4,g5⟩:=loopB (pw:=pw) (A:=A) (B:=B) (len:=len) (k:=k) hn _ a b 1 false (Nat.le_refl _) (Nat.le_refl _) hn1 (fun j q1 q2=>by omega);have hN:NF [a,b]=[a',b']:=NF_of g1 (zaw.2 ⟨g2,zba _⟩);have e1:nf1 a b=a':=by unfold nf1;rw [hN];rfl
 have e2:nf2 a b=b':=by unfold nf2;rw [hN];rfl
 cases tk' with
 | false=>
  obtain ⟨_,h1,h2⟩:=g3 rfl;subst h1;subst h2;exact .inl ⟨e1,g5⟩
 | true=>
  rcases g4 rfl with h|h
  ·cases h
  ·right;rw [e1,e2];exact ⟨fun e=>by rw [e] at h;omega,g5⟩
theorem lastB0 {pw:Int} {L q:List Int} {len:Nat} {k:Int} {m:Nat} (hn:n≤12):RT (stOf (sB n pw L q len k m false n)) = .at (sC n pw L (pA (Pm.del n)) len):=by
 rw [b_t,df (show ¬ (n:Int)<n by omega),bc_f];have e1:((n:Int)).toNat=n:=rfl;rw [e1,dt (show 0≤(n:Int)∧(n:Int)≤12 from ⟨by omega,by omega⟩)]
 rfl
theorem lastB1 {pw:Int} {A B:List (Pm n)} {x a':Pm n} {len:Nat} {m:Nat} (hn:n≤12) (hl:len=A.length+1+B.length) (hz:len≤6000):RT (stOf (sB n pw (encF (A++x::B)) (pA a'.inv) len (A.length+1:Nat) m true n)) = .at (sA n pw (encF (A++a'::B)) len A.length):=by
 rw [b_t,df (show ¬ (n:Int)<n by omega),bc_f];have w:IntKind.i64.wrap (((A.length+1:Nat):Int)-1)=(A.length:Int):=by rw [zae _ (by omega) (by omega)];omega
 have e1:((A.length:Int)).toNat=A.length:=rfl;rw [w,e1,dt (In12.pA hn a'.inv),zf3 hn a'.inv,zar];have e2:Nat.add (Nat.mul A.length 12) 0=A.length*12:=rfl;have e3:Nat.add (A.length*12) 12=(A++[x]).length*12:=by rw [List.length_append,List.length_singleton];show A.length*12+12=_;omega
 rw [e2,e3,List.drop_zero,zji];have hB:encF (A++x::B)=encF ((A++[x])++B):=by rw [List.append_assoc];rfl
 rw [hB,zgi,List.take_of_length_le (by rw [zah,zah,List.length_append];omega)];have hd:(pA a'.inv.inv:List Int)=pA a':=zj7 fun _ _=>rfl;have e8:encF A++pA a'++encF B=encF (A++a'::B):=by rw [zb0,za6,List.append_assoc]
 rw [hd,e8];have hlen:(encF ((A++[x])++B)).length=A.length*12+12+B.length*12:=by rw [zah,List.length_append,List.length_append,List.length_singleton];omega
 rw [hlen,List.length_append,List.length_singleton];simp (disch:=omega) only [yS];rfl
theorem stepA {pw:Int} {A B:List (Pm n)} {a b:Pm n} {len:Nat} (hn:n≤12) (hl:len=A.length+2+B.length) (hz:len≤6000):RT (stOf (sA n pw (encF (A++a::b::B)) len (A.length+1:Nat))) = .at (sB n pw (encF ((A++[a])++b::B)) (pA a.inv) len (A.length+1:Nat) (A++[a]).length false (1:Nat)):=by
 rw [a_t];have w:IntKind.i64.wrap (((A.length+1:Nat):Int)-1)=(A.length:Int):=by rw [zae _ (by omega) (by omega)];omega
 have e1:((A.length:Int)).toNat=A.length:=rfl;have e2:(((A.length+1:Nat):Int)).toNat=A.length+1:=rfl;have e3:(A++[a]).length=A.length+1:=by rw [List.length_append];rfl
 rw [w,e1,e2,e3,zcu,zf3 hn,zar];have hlen:(encF (A++a::b::B)).length=A.length*12+24+B.length*12:=by rw [zah,List.length_append,List.length_cons,List.length_cons];omega
 have hin:A.length*12+12≤(encF (A++a::b::B)).length∧In12 (pA a):=⟨by omega,In12.pA hn a⟩;rw [dt hin];have e6:(zerosL 12).length=12:=rfl;have e7:encF ((A++[a])++b::B)=encF (A++a::b::B):=by rw [List.append_assoc];rfl
 rw [e6,e7];simp (disch:=omega) only [yS]
theorem lastA {pw:Int} {L:List Int} {len:Nat} (hn:n≤12):RT (stOf (sA n pw L len (0:Nat))) = .at (sC n pw L (pA (Pm.del n)) len):=by
 rw [a_t,df (show ¬ (0:Int)<((0:Nat):Int) by omega),bc_f];have e1:((n:Int)).toNat=n:=rfl;rw [e1,dt (show 0≤(n:Int)∧(n:Int)≤12 from ⟨by omega,by omega⟩)]
 rfl
theorem loopA {pw:Int} {len:Nat} (hn1:1≤n) (hn:n≤12) (hz:len≤6000):∀ (r:List (Pm n)) (p:Pm n) (D:List (Pm n)),len=r.length+1+D.length→LeadsM Try.prog 1 (stOf (sA n pw (encF (r.reverse++p::D)) len r.length)) (stOf (sC n pw (encF ((pasR r p).reverse++D)) (pA (Pm.del n)) len))
 | [],p,D,h=>leadsMZ ct_ok (lastA hn)
 | x::r,p,D,h=>by
  rw [List.length_cons] at h;have hA:r.reverse.length=r.length:=List.length_reverse;have h1:=stepA (pw:=pw) (A:=r.reverse) (B:=D) (a:=x) (b:=p) (len:=len) hn (by omega) hz;have e1:(x::r).reverse++p::D=r.reverse++x::p::D:=by rw [List.reverse_cons,List.append_assoc];rfl
  rw [e1];rw [hA] at h1;refine LeadsM.trans (leadsMZ ct_ok h1) ?_;rcases pair (pw:=pw) (A:=r.reverse++[x]) (B:=D) (a:=x) (b:=p) (len:=len) (k:=(r.length+1:Nat)) hn1 hn with ⟨g1,g2⟩|⟨g1,g2⟩
  ·refine g2.trans ?_;unfold pasR;rw [if_pos g1];have e2:(p::x::r).reverse++D=(r.reverse++[x])++p::D:=by rw [List.reverse_cons,List.reverse_cons,List.append_assoc];rfl
   rw [e2];exact leadsMZ ct_ok (lastB0 hn)
  ·refine g2.trans ?_;unfold pasR;rw [if_neg g1];have h2:=lastB1 (pw:=pw) (A:=r.reverse) (B:=nf2 x p::D) (x:=x) (a':=nf1 x p) (len:=len) (m:=(r.reverse++[x]).length) hn (by rw [List.length_cons];omega) hz;rw [hA] at h2;have e3:r.reverse++x::nf2 x p::D=(r.reverse++[x])++nf2 x p::D:=by rw [List.append_assoc];rfl
   rw [e3] at h2;have e4:(nf2 x p::pasR r (nf1 x p)).reverse++D=(pasR r (nf1 x p)).reverse++nf2 x p::D:=by rw [List.reverse_cons,List.append_assoc];rfl
   rw [e4];exact (leadsMZ ct_ok h2).trans (loopA hn1 hn hz r (nf1 x p) (nf2 x p::D) (by rw [List.length_cons];omega))
theorem ofPA (p:Pm n) (hn:n≤12):eqLI (pA p) e12=true↔p=Pm.one n:=by
 rw [zax,zk3 n];exact ⟨fun h=>zma hn h,fun h=>by rw [h]⟩
theorem stepC1 {pw:Int} {F:List (Pm n)} {D:List Int} (hn:n≤12) (hz:F.length≤6000):RT (stOf (sC n pw (encF (F++[Pm.one n])) D (F.length+1))) = .at (sC n pw (encF F) D F.length):=by
 rw [c_t];have w:IntKind.i64.wrap (Int.ofNat (F.length+1)-1)=(F.length:Int):=by
  rw [ofn,zae _ (by omega) (by omega)];omega
 have e1:((F.length:Int)).toNat=F.length:=rfl;have e2:Nat.add (Nat.mul F.length 12) 0=F.length*12:=rfl;rw [w,e1,e2,zcu F [],zji,(ofPA (Pm.one n) hn).2 rfl,zar];have hlen:(encF (F++[Pm.one n])).length=F.length*12+12:=by rw [zah,List.length_append,List.length_singleton];omega
 have e3:([0,1,2,3,4,5,6,7,8,9,10,11]:List Int).length=12:=rfl;have m12:Nat.mul (F.length+1) 12=F.length*12+12:=by show (F.length+1)*12=_;omega
 rw [hlen,e3,m12];simp (disch:=omega) only [yS,eqB]
theorem stepC2 {pw:Int} {F:List (Pm n)} {D:List Int} {p:Pm n} (hn:n≤12) (hz:F.length≤6000) (hp:p≠Pm.one n):RT (stOf (sC n pw (encF (F++[p])) D (F.length+1))) = .at (sD n pw (encF (F++[p])) D (F.length+1)):=by
 rw [c_t];have w:IntKind.i64.wrap (Int.ofNat (F.length+1)-1)=(F.length:Int):=by
  rw [ofn,zae _ (by omega) (by omega)];omega
 have e1:((F.length:Int)).toNat=F.length:=rfl;have e2:Nat.add (Nat.mul F.length 12) 0=F.length*12:=rfl;have hb:eqLI (pA p) e12=false:=by
  cases h:eqLI (pA p) e12 with
  | false=>rfl
  | true=>exact absurd ((ofPA p hn).1 h) hp
 rw [w,e1,e2,zcu F [],hb,zar];have hlen:(encF (F++[p])).length=F.length*12+12:=by rw [zah,List.length_append,List.length_singleton];omega
 have e3:([0,1,2,3,4,5,6,7,8,9,10,11]:List Int).length=12:=rfl;rw [hlen,e3];simp (disch:=omega) only [yS,eqB]
theorem stepC0 {pw:Int} {D:List Int}:RT (stOf (sC n pw [] D 0)) = .at (sD n pw [] D 0):=by
 rw [c_t];rfl
theorem loopC {pw:Int} {D:List Int} {T:List (Pm n)} (hn:n≤12) (hT:T=[]∨∃ F p,T=F++[p]∧p≠Pm.one n):∀ r:Nat,T.length+r≤6000→LeadsM Try.prog 1 (stOf (sC n pw (encF (T++List.replicate r (Pm.one n))) D (T.length+r))) (stOf (sD n pw (encF T) D T.length))
 | 0,hr=>by
  rw [List.replicate_zero,List.append_nil];rcases hT with rfl|⟨F,p,rfl,hp⟩
  ·exact leadsMZ ct_ok stepC0
  ·rw [List.length_append,List.length_singleton] at hr ⊢;exact leadsMZ ct_ok (stepC2 hn (by omega) hp)
 | r+1,hr=>by
  rw [List.replicate_succ',← List.append_assoc];have h:=stepC1 (pw:=pw) (F:=T++List.replicate r (Pm.one n)) (D:=D) hn (by rw [List.length_append,List.length_replicate];omega);rw [List.length_append,List.length_replicate] at h;exact (leadsMZ ct_ok h).trans (loopC hn hT r (by omega))
theorem stepD1 {pw:Int} {F:List (Pm n)} (hz:F.length≤6000) (h1:-100000≤pw) (h2:pw≤100000):RT (stOf (sD n pw (encF (Pm.del n::F)) (pA (Pm.del n)) (F.length+1))) = .at (sD n (pw+1) (encF F) (pA (Pm.del n)) F.length):=by
 rw [d_t];have e2:Nat.add (Nat.mul (Int.toNat 0) 12) 0=([]:List (Pm n)).length*12:=rfl;have e3:Int.toNat 1*12=[Pm.del n].length*12:=rfl;have e4:encF (Pm.del n::F)=encF ([]++Pm.del n::F):=rfl;have e5:encF (Pm.del n::F)=encF ([Pm.del n]++F):=rfl;have hlen:(encF (Pm.del n::F)).length=F.length*12+12:=by rw [zah,List.length_cons];omega
 have d1:(encF (Pm.del n::F)).drop ([Pm.del n].length*12)=encF F:=by rw [e5];exact zgi _ _
 have t1:((encF (Pm.del n::F)).drop (([]:List (Pm n)).length*12)).take 12=pA (Pm.del n):=by rw [e4];exact zcu _ _ _
 rw [e2,e3,d1,t1,zar,hlen,zax.2 rfl];have e6:Int.toNat 1=1:=rfl;have e7:Int.toNat 0=0:=rfl;have e8:([]:List (Pm n)).length*12=0:=rfl;have m12:Nat.mul (F.length+1) 12=F.length*12+12:=by show (F.length+1)*12=_;omega
 rw [e6,e7,e8,Nat.add_sub_cancel,m12];simp (disch:=omega) only [yS,eqB]
noncomputable def K1 (n:Nat) (pw:Int) (F:List (Pm n)):List (Nat×EK):=PDel.K0 n pw (encF F) F.length true
theorem stepD2 {pw:Int} {F:List (Pm n)} (hn:n≤12) (hz:F.length≤6000) (hF:∀ p,p∈F→p≠Pm.del n):RT (stOf (sD n pw (encF F) (pA (Pm.del n)) F.length)) = .done (.tup []) (K1 n pw F) 2:=by
 rw [d_t]
 cases F with
 | nil=>rfl
 | cons p F=>
  have e2:Nat.add (Nat.mul (Int.toNat 0) 12) 0=([]:List (Pm n)).length*12:=rfl;have t1:((encF (p::F)).drop (([]:List (Pm n)).length*12)).take 12=pA p:=zcu [] F p;have hlen:(encF (p::F)).length=F.length*12+12:=by rw [zah,List.length_cons];omega
  have hb:eqLI (pA p) (pA (Pm.del n))=false:=by
   cases h:eqLI (pA p) (pA (Pm.del n)) with
   | false=>rfl
   | true=>exact absurd (zma hn (zax.1 h)) (hF p List.mem_cons_self)
  rw [e2,t1,zar,zar,hlen,hb];have e7:Int.toNat 0=0:=rfl;have e8:([]:List (Pm n)).length*12=0:=rfl;rw [List.length_cons] at hz;rw [e7,e8,List.length_cons];simp (disch:=omega) only [yS,eqB];rfl
theorem loopD {F:List (Pm n)} (hn:n≤12) (hF:∀ p,p∈F→p≠Pm.del n):∀ (m:Nat) (pw:Int),F.length+m≤6000 → -90000≤pw→pw+m≤90000→EndM 1 117 ct (stOf (sD n pw (encF (List.replicate m (Pm.del n)++F)) (pA (Pm.del n)) (m+F.length))) (.tup []) (K1 n (pw+m) F) 2
 | 0,pw,h,h1,h2=>by
  rw [List.replicate_zero,List.nil_append,Nat.zero_add,show pw+((0:Nat):Int)=pw by omega];exact .done (stepD2 hn (by omega) hF)
 | m+1,pw,h,h1,h2=>by
  have h3:=stepD1 (pw:=pw) (F:=List.replicate m (Pm.del n)++F) (by rw [List.length_append,List.length_replicate];omega) (by omega) (by omega);rw [List.length_append,List.length_replicate,show m+F.length+1=m+1+F.length by omega] at h3;rw [List.replicate_succ,List.cons_append];have h4:=loopD hn hF m (pw+1) (by omega) (by omega) (by omega);rw [show pw+1+(m:Int)=pw+((m+1:Nat):Int) by omega] at h4;exact .at ct_ok h3 h4
theorem ends {pw:Int} {F:List (Pm n)} {p:Pm n} {nn:Bool} (hn2:2≤n) (hn:n≤12) (hN:Nrm F) (hz:F.length≤5000) (hnn:nn=true∨F=[]) (h1:-60000≤pw) (h2:pw≤60000):EndM 1 117 ct (st0m 117 [.ptr 0 0,.arr (.ints .u8 (pA p))] (PDel.K0 n pw (encF F) F.length nn) 2) (.tup []) (K1 n (pw+tmD F p) (tmF F p)) 2:=by
 have h:=in_t n pw (encF F) (pA p) F.length nn;have e1:encF F++pA p=encF (F++[p]):=by rw [zb0,zt9]
 rw [e1,zar,zah,nn_ok] at h;have w:IntKind.i64.wrap (Int.ofNat (F.length+1)-1)=(F.length:Int):=by rw [ofn,zae _ (by omega) (by omega)];omega
 have m1:Nat.mul F.length 12=F.length*12:=rfl;have m2:Nat.mul 1 12=12:=rfl;rw [w,m1,m2] at h;simp (disch:=omega) only [yS] at h;obtain ⟨r,g1,g2,g3⟩:=tm_ok F p;have hl:=congrArg List.length g1
 rw [zvg,List.length_append,List.length_append,List.length_append,List.length_replicate,List.length_replicate,List.length_singleton] at hl;have hP:=loopA (pw:=pw) (len:=F.length+1) (by omega) hn (by omega) F.reverse p [] (by rw [List.length_reverse];rfl);rw [List.reverse_reverse,List.length_reverse,List.append_nil,← zwi hN p,g1,← List.append_assoc] at hP;refine .at ct_ok h (.lead hP ?_);have hT:(List.replicate (tmD F p) (Pm.del n)++tmF F p=[])∨∃ G q,List.replicate (tmD F p) (Pm.del n)++tmF F p=G++[q]∧q≠Pm.one n:=by
  rcases List.eq_nil_or_concat (tmF F p) with e|⟨G,q,e⟩
  ·rw [e,List.append_nil]
   cases hd:tmD F p with
   | zero=>exact .inl rfl
   | succ k=>exact .inr ⟨_,_,List.replicate_succ',zva hn2⟩
  ·exact .inr ⟨List.replicate (tmD F p) (Pm.del n)++G,q,by rw [e,List.concat_eq_append,List.append_assoc],g2 q (by rw [e];simp)⟩
 have hC:=loopC (pw:=pw) (D:=pA (Pm.del n)) hn hT r (by rw [List.length_append,List.length_replicate];omega);have e2:(List.replicate (tmD F p) (Pm.del n)++tmF F p).length=tmD F p+(tmF F p).length:=by rw [List.length_append,List.length_replicate]
 rw [e2,show tmD F p+(tmF F p).length+r=F.length+1 by omega] at hC;exact .lead hC (loopD hn g3 (tmD F p) pw (by omega) (by omega) (by omega))
end PTim
def TimOk (n pw:Int) (L:List Int) (len:Nat) (nn:Bool) (e:List Int):Prop:=2≤n∧n≤12 ∧ -60000≤pw∧pw≤60000∧∃ (F:List (Pm n.toNat)) (p:Pm n.toNat),L=encF F∧e=pA p∧len=F.length∧len≤5000∧Nrm F∧(nn=true∨F=[])
noncomputable instance (n pw:Int) (L:List Int) (len:Nat) (nn:Bool) (e:List Int):Decidable (TimOk n pw L len nn e):=Classical.propDecidable _
noncomputable def timD (n:Int) (L e:List Int):Nat:=tmD (decF n.toNat L) (decP n.toNat e)
noncomputable def timF (n:Int) (L e:List Int):List (Pm n.toNat):=tmF (decF n.toNat L) (decP n.toNat e)
theorem zni {n pw:Int} {L e:List Int} {len:Nat} {nn:Bool} (h:TimOk n pw L len nn e):EndM 1 117 PTim.ct (st0m 117 [.ptr 0 0,.arr (.ints .u8 e)] (PDel.K0 n pw L len nn) 2) (.tup []) (PDel.K0 n (pw+timD n L e) (encF (timF n L e)) (timF n L e).length true) 2:=by
 obtain ⟨h1,h2,h3,h4,F,p,rfl,rfl,rfl,h5,h6,h7⟩:=h;obtain ⟨n,rfl⟩:=Int.eq_ofNat_of_zero_le (show 0≤n by omega);have hn:n≤12:=by omega
 have e1:decF ((n:Int)).toNat (encF F)=F:=zcv hn F;have e2:decP ((n:Int)).toNat (pA p)=p:=zel hn p;unfold timD timF;rw [e1,e2];exact PTim.ends (n:=n) (by omega) hn h6 h5 h7 h3 h4
noncomputable def spTim:ZMT:=fun ax K0 m=>match ax,K0 with
 | [.ptr 0 0,.arr (.ints .u8 e)],[(0,.cells 92 [.v (.int .i64 n),.v (.int .i64 pw),.slO 1 12 len nn] v_0),(1,.seq 95 (.ints .u8 L) v_1)]=>bc (Nat.beq m (2)) (some ⟨bc (eqN v_0 (true)) (bc (eqN v_1 (nn)) (decide (TimOk n pw L len nn e)) false) false,.tup [],PDel.K0 n (pw+timD n L e) (encF (timF n L e)) (timF n L e).length true,2,1⟩) none
 | _,_=>none
theorem zst:ZMtOk Try.prog 117 spTim:=fun γ w0 w us ax K0 m r hs hc hres hax hH=>by
 unfold spTim at hs;split at hs
 case h_2=>cases hs
 rename_i e n pw len nn v_0 L v_1;obtain ⟨hm,rfl⟩:=noN hs;have hm:=Nat.eq_of_beq_eq_true hm;subst hm;have hc_0:bc (eqN v_0 (true)) (bc (eqN v_1 (nn)) (decide (TimOk n pw L len nn e)) false) false=true:=hc;obtain ⟨q_0,hc_1⟩:=bcT hc_0;have p_0:=(zei q_0).symm;subst p_0;obtain ⟨q_1,hc_2⟩:=bcT hc_1;have p_1:=(zei q_1).symm;subst p_1;have hc:=of_decide_eq_true hc_2;exact EndM.calls (zni hc) PTim.ct_ok (by kernel_rfl) hres hax hH
end
section
namespace PNrm
noncomputable def ct:Tr ZCC:=(PTim.ct.put 115 (some (mC spTrn))).put 117 (some (mC spTim))
theorem ct_ok:ZCtsOk Try.prog ct:=(PTim.ct_ok.addM rfl zss).addM rfl zst
noncomputable def RN (s:ES):ZF:=RMs 0 66 ct [(atS 0 66 3,[[(5,some (12,95,.ints .u8 [])),(15,none),(16,none),(17,none)]])] [] [] s
noncomputable def sN (n:Int) (w:List Int) (pw:Int) (L:List Int) (len:Nat) (nn:Bool) (z i:Int):NS:=⟨[⟨66,58,[(5,(EV.ptr 0 0)),(15,(il w)),(16,iv z),(17,iv i)],[.it (.code (nav [1,1,0,1,0,0] (bodyOf Try.f66))),.it (.inLoop (nav [1,1,0,1,0,0] (bodyOf Try.f66))),.it (.inBlock 0),.it (.code (nav [1,1,1] (bodyOf Try.f66)))],[],Option.none⟩],[(0,EK.cells 92 [iv n,iv pw,.slO 1 12 len nn] true),(1,EK.seq 95 (.ints .u8 L) nn)],2⟩
theorem in_t (n:Int) (w:List Int):RN (st0m 66 [iv n,il w] [] 0)=(.at (sN (n) (w) ((0:Int)) ([]) ((0:Nat)) (false) (Int.ofNat (List.length w)) ((0:Int)))):=by kernel_rfl
theorem nil_t (n:Int):RMs 0 66 ct [] [] [(0,12,95,.ints .u8 [])] (st0m 66 [iv n,.v (.slice none 0 0)] [] 0)=(.done (EV.ptr 0 0) [(0,(EK.cells 92 [(EV.v (Value.int IntKind.i64 (n))),(EV.v (Value.int IntKind.i64 (0))),(EV.slO 1 12 0 false)] true)),(1,(EK.seq 95 (SyC.ints IntKind.u8 []) false))] 2):=by kernel_rfl
theorem step_t (n:Int) (w:List Int) (pw:Int) (L:List Int) (len:Nat) (nn:Bool) (z i:Int):RN (stOf (sN n w pw L len nn z i))=(bc (decide (i<z)) (bc (bc (bc (decide ((0:Int)≤i)) (Nat.blt (Int.toNat i) (List.length w)) false) true false) (bc (bc (Nat.blt (Int.toNat i) (List.length w)) true false) (bc (decide (List.getD w (Int.toNat i) (0:Int)<(0:Int))) (bc (bc (bc (eqN nn nn) (decide (FormOk n L len)) false) true false) (bc (bc (bc (eqN nn nn) (decide ((0:Int)≤n∧n≤(12:Int))) false) true false) (bc (bc (decide (In12 (pA (Pm.del (Int.toNat n))))) true false) (bc (bc (Nat.beq (List.length (invS (pA (Pm.del (Int.toNat n))) (12:Nat))) (12:Nat)) (Nat.beq (List.length e12) (12:Nat)) false) (bc (bc (bc (bc (bc (decide ((0:Int)≤IntKind.wrap IntKind.i64 ((0:Int)-List.getD w (Int.toNat i) (0:Int)))) (Nat.blt (Int.toNat (IntKind.wrap IntKind.i64 ((0:Int)-List.getD w (Int.toNat i) (0:Int)))) (12:Nat)) false) true false) (bc (bc (Nat.blt (Int.toNat (IntKind.wrap IntKind.i64 ((0:Int)-List.getD w (Int.toNat i) (0:Int)))) (List.length (invS (pA (Pm.del (Int.toNat n))) (12:Nat)))) true false) (bc (bc (bc (decide ((0:Int)≤IntKind.wrap IntKind.i64 (IntKind.wrap IntKind.i64 ((0:Int)-List.getD w (Int.toNat i) (0:Int))-(1:Int)))) (Nat.blt (Int.toNat (IntKind.wrap IntKind.i64 (IntKind.wrap IntKind.i64 ((0:Int)-List.getD w (Int.toNat i) (0:Int))-(1:Int)))) (12:Nat)) false) true false) (bc (bc (Nat.blt (Int.toNat (IntKind.wrap IntKind.i64 (IntKind.wrap IntKind.i64 ((0:Int)-List.getD w (Int.toNat i) (0:Int))-(1:Int)))) (List.length (invS (pA (Pm.del (Int.toNat n))) (12:Nat)))) true false) (bc (bc (bc (decide ((0:Int)≤IntKind.wrap IntKind.i64 (IntKind.wrap IntKind.i64 ((0:Int)-List.getD w (Int.toNat i) (0:Int))-(1:Int)))) (Nat.blt (Int.toNat (IntKind.wrap IntKind.i64 (IntKind.wrap IntKind.i64 ((0:Int)-List.getD w (Int.toNat i) (0:Int))-(1:Int)))) (12:Nat)) false) true false) (bc (Nat.blt (Int.toNat (IntKind.wrap IntKind.i64 (IntKind.wrap IntKind.i64 ((0:Int)-List.getD w (Int.toNat i) (0:Int))-(1:Int)))) (List.length (invS (pA (Pm.del (Int.toNat n))) (12:Nat)))) (bc (bc (bc (decide ((0:Int)≤IntKind.wrap IntKind.i64 ((0:Int)-List.getD w (Int.toNat i) (0:Int)))) (Nat.blt (Int.toNat (IntKind.wrap IntKind.i64 ((0:Int)-List.getD w (Int.toNat i) (0:Int)))) (12:Nat)) false) true false) (bc (Nat.blt (Int.toNat (IntKind.wrap IntKind.i64 ((0:Int)-List.getD w (Int.toNat i) (0:Int)))) (List.length (List.set (invS (pA (Pm.del (Int.toNat n))) (12:Nat)) (Int.toNat (IntKind.wrap IntKind.i64 (IntKind.wrap IntKind.i64 ((0:Int)-List.getD w (Int.toNat i) (0:Int))-(1:Int)))) (List.getD (invS (pA (Pm.del (Int.toNat n))) (12:Nat)) (Int.toNat (IntKind.wrap IntKind.i64 ((0:Int)-List.getD w (Int.toNat i) (0:Int)))) (0:Int))))) true false) false) false) false) false) false) false) false) true false) (bc (bc (decide (In12 (List.set (List.set (invS (pA (Pm.del (Int.toNat n))) (12:Nat)) (Int.toNat (IntKind.wrap IntKind.i64 (IntKind.wrap IntKind.i64 ((0:Int)-List.getD w (Int.toNat i) (0:Int))-(1:Int)))) (List.getD (invS (pA (Pm.del (Int.toNat n))) (12:Nat)) (Int.toNat (IntKind.wrap IntKind.i64 ((0:Int)-List.getD w (Int.toNat i) (0:Int)))) (0:Int))) (Int.toNat (IntKind.wrap IntKind.i64 ((0:Int)-List.getD w (Int.toNat i) (0:Int)))) (List.getD (invS (pA (Pm.del (Int.toNat n))) (12:Nat)) (Int.toNat (IntKind.wrap IntKind.i64 (IntKind.wrap IntKind.i64 ((0:Int)-List.getD w (Int.toNat i) (0:Int))-(1:Int)))) (0:Int))))) true false) (bc (bc (bc (eqN nn nn) (decide (TimOk n (IntKind.wrap IntKind.i64 (pw-(1:Int))) (PTrn.turL n L) len nn (invS (List.set (List.set (invS (pA (Pm.del (Int.toNat n))) (12:Nat)) (Int.toNat (IntKind.wrap IntKind.i64 (IntKind.wrap IntKind.i64 ((0:Int)-List.getD w (Int.toNat i) (0:Int))-(1:Int)))) (List.getD (invS (pA (Pm.del (Int.toNat n))) (12:Nat)) (Int.toNat (IntKind.wrap IntKind.i64 ((0:Int)-List.getD w (Int.toNat i) (0:Int)))) (0:Int))) (Int.toNat (IntKind.wrap IntKind.i64 ((0:Int)-List.getD w (Int.toNat i) (0:Int)))) (List.getD (invS (pA (Pm.del (Int.toNat n))) (12:Nat)) (Int.toNat (IntKind.wrap IntKind.i64 (IntKind.wrap IntKind.i64 ((0:Int)-List.getD w (Int.toNat i) (0:Int))-(1:Int)))) (0:Int))) (12:Nat)))) false) true false) (.at (sN (n) (w) (IntKind.wrap IntKind.i64 (pw-(1:Int))+(Nat.cast (timD n (PTrn.turL n L) (invS (List.set (List.set (invS (pA (Pm.del (Int.toNat n))) (12:Nat)) (Int.toNat (IntKind.wrap IntKind.i64 (IntKind.wrap IntKind.i64 ((0:Int)-List.getD w (Int.toNat i) (0:Int))-(1:Int)))) (List.getD (invS (pA (Pm.del (Int.toNat n))) (12:Nat)) (Int.toNat (IntKind.wrap IntKind.i64 ((0:Int)-List.getD w (Int.toNat i) (0:Int)))) (0:Int))) (Int.toNat (IntKind.wrap IntKind.i64 ((0:Int)-List.getD w (Int.toNat i) (0:Int)))) (List.getD (invS (pA (Pm.del (Int.toNat n))) (12:Nat)) (Int.toNat (IntKind.wrap IntKind.i64 (IntKind.wrap IntKind.i64 ((0:Int)-List.getD w (Int.toNat i) (0:Int))-(1:Int)))) (0:Int))) (12:Nat))):Int)) (encF (timF n (PTrn.turL n L) (invS (List.set (List.set (invS (pA (Pm.del (Int.toNat n))) (12:Nat)) (Int.toNat (IntKind.wrap IntKind.i64 (IntKind.wrap IntKind.i64 ((0:Int)-List.getD w (Int.toNat i) (0:Int))-(1:Int)))) (List.getD (invS (pA (Pm.del (Int.toNat n))) (12:Nat)) (Int.toNat (IntKind.wrap IntKind.i64 ((0:Int)-List.getD w (Int.toNat i) (0:Int)))) (0:Int))) (Int.toNat (IntKind.wrap IntKind.i64 ((0:Int)-List.getD w (Int.toNat i) (0:Int)))) (List.getD (invS (pA (Pm.del (Int.toNat n))) (12:Nat)) (Int.toNat (IntKind.wrap IntKind.i64 (IntKind.wrap IntKind.i64 ((0:Int)-List.getD w (Int.toNat i) (0:Int))-(1:Int)))) (0:Int))) (12:Nat)))) (List.length (timF n (PTrn.turL n L) (invS (List.set (List.set (invS (pA (Pm.del (Int.toNat n))) (12:Nat)) (Int.toNat (IntKind.wrap IntKind.i64 (IntKind.wrap IntKind.i64 ((0:Int)-List.getD w (Int.toNat i) (0:Int))-(1:Int)))) (List.getD (invS (pA (Pm.del (Int.toNat n))) (12:Nat)) (Int.toNat (IntKind.wrap IntKind.i64 ((0:Int)-List.getD w (Int.toNat i) (0:Int)))) (0:Int))) (Int.toNat (IntKind.wrap IntKind.i64 ((0:Int)-List.getD w (Int.toNat i) (0:Int)))) (List.getD (invS (pA (Pm.del (Int.toNat n))) (12:Nat)) (Int.toNat (IntKind.wrap IntKind.i64 (IntKind.wrap IntKind.i64 ((0:Int)-List.getD w (Int.toNat i) (0:Int))-(1:Int)))) (0:Int))) (12:Nat)))) (true) (z) (IntKind.wrap IntKind.i64 (i+(1:Int))))) .bad) .bad) .bad) .bad) .bad) .bad) .bad) (bc (bc (bc (bc (bc (decide ((0:Int)≤List.getD w (Int.toNat i) (0:Int))) (Nat.blt (Int.toNat (List.getD w (Int.toNat i) (0:Int))) (12:Nat)) false) true false) (bc (bc (Nat.blt (Int.toNat (List.getD w (Int.toNat i) (0:Int))) (List.length e12)) true false) (bc (bc (bc (decide ((0:Int)≤IntKind.wrap IntKind.i64 (List.getD w (Int.toNat i) (0:Int)-(1:Int)))) (Nat.blt (Int.toNat (IntKind.wrap IntKind.i64 (List.getD w (Int.toNat i) (0:Int)-(1:Int)))) (12:Nat)) false) true false) (bc (bc (Nat.blt (Int.toNat (IntKind.wrap IntKind.i64 (List.getD w (Int.toNat i) (0:Int)-(1:Int)))) (List.length e12)) true false) (bc (bc (bc (decide ((0:Int)≤IntKind.wrap IntKind.i64 (List.getD w (Int.toNat i) (0:Int)-(1:Int)))) (Nat.blt (Int.toNat (IntKind.wrap IntKind.i64 (List.getD w (Int.toNat i) (0:Int)-(1:Int)))) (12:Nat)) false) true false) (bc (Nat.blt (Int.toNat (IntKind.wrap IntKind.i64 (List.getD w (Int.toNat i) (0:Int)-(1:Int)))) (List.length e12)) (bc (bc (bc (decide ((0:Int)≤List.getD w (Int.toNat i) (0:Int))) (Nat.blt (Int.toNat (List.getD w (Int.toNat i) (0:Int))) (12:Nat)) false) true false) (bc (Nat.blt (Int.toNat (List.getD w (Int.toNat i) (0:Int))) (List.length (List.set e12 (Int.toNat (IntKind.wrap IntKind.i64 (List.getD w (Int.toNat i) (0:Int)-(1:Int)))) (List.getD e12 (Int.toNat (List.getD w (Int.toNat i) (0:Int))) (0:Int))))) true false) false) false) false) false) false) false) false) true false) (bc (bc (decide (In12 (List.set (List.set e12 (Int.toNat (IntKind.wrap IntKind.i64 (List.getD w (Int.toNat i) (0:Int)-(1:Int)))) (List.getD e12 (Int.toNat (List.getD w (Int.toNat i) (0:Int))) (0:Int))) (Int.toNat (List.getD w (Int.toNat i) (0:Int))) (List.getD e12 (Int.toNat (IntKind.wrap IntKind.i64 (List.getD w (Int.toNat i) (0:Int)-(1:Int)))) (0:Int))))) true false) (bc (bc (bc (eqN nn nn) (decide (TimOk n pw L len nn (invS (List.set (List.set e12 (Int.toNat (IntKind.wrap IntKind.i64 (List.getD w (Int.toNat i) (0:Int)-(1:Int)))) (List.getD e12 (Int.toNat (List.getD w (Int.toNat i) (0:Int))) (0:Int))) (Int.toNat (List.getD w (Int.toNat i) (0:Int))) (List.getD e12 (Int.toNat (IntKind.wrap IntKind.i64 (List.getD w (Int.toNat i) (0:Int)-(1:Int)))) (0:Int))) (12:Nat)))) false) true false) (.at (sN (n) (w) (pw+(Nat.cast (timD n L (invS (List.set (List.set e12 (Int.toNat (IntKind.wrap IntKind.i64 (List.getD w (Int.toNat i) (0:Int)-(1:Int)))) (List.getD e12 (Int.toNat (List.getD w (Int.toNat i) (0:Int))) (0:Int))) (Int.toNat (List.getD w (Int.toNat i) (0:Int))) (List.getD e12 (Int.toNat (IntKind.wrap IntKind.i64 (List.getD w (Int.toNat i) (0:Int)-(1:Int)))) (0:Int))) (12:Nat))):Int)) (encF (timF n L (invS (List.set (List.set e12 (Int.toNat (IntKind.wrap IntKind.i64 (List.getD w (Int.toNat i) (0:Int)-(1:Int)))) (List.getD e12 (Int.toNat (List.getD w (Int.toNat i) (0:Int))) (0:Int))) (Int.toNat (List.getD w (Int.toNat i) (0:Int))) (List.getD e12 (Int.toNat (IntKind.wrap IntKind.i64 (List.getD w (Int.toNat i) (0:Int)-(1:Int)))) (0:Int))) (12:Nat)))) (List.length (timF n L (invS (List.set (List.set e12 (Int.toNat (IntKind.wrap IntKind.i64 (List.getD w (Int.toNat i) (0:Int)-(1:Int)))) (List.getD e12 (Int.toNat (List.getD w (Int.toNat i) (0:Int))) (0:Int))) (Int.toNat (List.getD w (Int.toNat i) (0:Int))) (List.getD e12 (Int.toNat (IntKind.wrap IntKind.i64 (List.getD w (Int.toNat i) (0:Int)-(1:Int)))) (0:Int))) (12:Nat)))) (true) (z) (IntKind.wrap IntKind.i64 (i+(1:Int))))) .bad) .bad) .bad)) .bad) .bad) (.done (EV.ptr 0 0) [(0,(EK.cells 92 [(EV.v (Value.int IntKind.i64 (n))),(EV.v (Value.int IntKind.i64 (pw))),(EV.slO 1 12 (len) (nn))] true)),(1,(EK.seq 95 (SyC.ints IntKind.u8 (L)) (nn)))] 2)):=by kernel_rfl
variable {n:Nat}
theorem ztl (hn:n≤12) {k:Nat} (hk:0<k∧k<n):invS (((pA (Pm.one n)).set (k-1) ((Pm.one n).f k:Int)).set k ((Pm.one n).f (k-1):Int)) 12=pA (ltr k hk):=by
 rw [pA_L _ hk hn,zf3 hn];exact zj7 fun _ _=>rfl
theorem ztm (hn:n≤12) {k:Nat} (hk:0<k∧k<n):invS (((pA (Pm.del n).inv).set (k-1) ((Pm.del n).inv.f k:Int)).set k ((Pm.del n).inv.f (k-1):Int)) 12=pA (ctr k hk):=by
 rw [pA_L _ hk hn,zf3 hn];exact zj7 fun _ _=>rfl
theorem zu3 (hn:n≤12) (p:Pm n) {k:Nat} (hk:0<k∧k<n):In12 (((pA p).set (k-1) (p.f k:Int)).set k (p.f (k-1):Int)):=by
 rw [pA_L _ hk hn];exact In12.pA hn _
theorem stepP {w:List Int} {s:Frm n} {nn:Bool} {z:Int} {i k:Nat} (hn:n≤12) (hk:0<k∧k<n) (hi:i<w.length) (hz:z=w.length) (hw:w.length≤2000) (hx:w.getD i 0=(k:Int)) (hN:Nrm s.F) (hl:s.F.length≤2000) (h1:-2000≤s.pw) (h2:s.pw≤2000) (hnn:nn=true∨s.F=[]):RN (stOf (sN n w s.pw (encF s.F) s.F.length nn z i)) = .at (sN n w (s.tim (ltr k hk)).pw (encF (s.tim (ltr k hk)).F) (s.tim (ltr k hk)).F.length true z (i+1:Nat)):=by
 obtain ⟨j,rfl⟩:∃ j,k=j+1:=⟨k-1,by omega⟩;rw [step_t,dt (show (i:Int)<z by omega),bc_t];have e0:((i:Int)).toNat=i:=rfl;rw [e0,hx,df (show ¬ ((j+1:Nat):Int)<0 by omega),bc_f];have w1:IntKind.i64.wrap (((j+1:Nat):Int)-1)=(j:Int):=by rw [zae _ (by omega) (by omega)];omega
 have e1:((j:Int)).toNat=j:=rfl;have e2:(((j+1:Nat):Int)).toNat=j+1:=rfl;rw [w1,e1,e2,zk3 n,zbh (Pm.one n) (show j+1<12 by omega),zbh (Pm.one n) (show j<12 by omega)];have g1:=ztl hn hk;have g2:=zu3 hn (Pm.one n) hk;rw [show j+1-1=j by omega] at g1 g2;rw [g1,dt g2,List.length_set,zar];have g3:TimOk n s.pw (encF s.F) s.F.length nn (pA (ltr (j+1) hk)):=⟨by omega,by omega,by omega,by omega,s.F,ltr (j+1) hk,rfl,rfl,rfl,by omega,hN,hnn⟩
 have g4:timD n (encF s.F) (pA (ltr (j+1) hk))=tmD s.F (ltr (j+1) hk):=by
  unfold timD;have e1:decF ((n:Int)).toNat (encF s.F)=s.F:=zcv hn s.F;have e2:decP ((n:Int)).toNat (pA (ltr (j+1) hk))=ltr (j+1) hk:=zel hn _;rw [e1,e2]
 have g5:timF n (encF s.F) (pA (ltr (j+1) hk))=tmF s.F (ltr (j+1) hk):=by
  unfold timF;have e1:decF ((n:Int)).toNat (encF s.F)=s.F:=zcv hn s.F;have e2:decP ((n:Int)).toNat (pA (ltr (j+1) hk))=ltr (j+1) hk:=zel hn _;rw [e1,e2]
 rw [dt g3,g4,g5];simp (disch:=omega) only [yS];rfl
theorem stepM {w:List Int} {s:Frm n} {nn:Bool} {z:Int} {i k:Nat} (hn:n≤12) (hk:0<k∧k<n) (hi:i<w.length) (hz:z=w.length) (hw:w.length≤2000) (hx:w.getD i 0 = -(k:Int)) (hN:Nrm s.F) (hl:s.F.length≤2000) (h1:-2000≤s.pw) (h2:s.pw≤2000) (hnn:nn=true∨s.F=[]):RN (stOf (sN n w s.pw (encF s.F) s.F.length nn z i)) = .at (sN n w ((⟨s.pw-1,s.F.map Pm.trn⟩:Frm n).tim (ctr k hk)).pw (encF ((⟨s.pw-1,s.F.map Pm.trn⟩:Frm n).tim (ctr k hk)).F) ((⟨s.pw-1,s.F.map Pm.trn⟩:Frm n).tim (ctr k hk)).F.length true z (i+1:Nat)):=by
 obtain ⟨j,rfl⟩:∃ j,k=j+1:=⟨k-1,by omega⟩;rw [step_t,dt (show (i:Int)<z by omega),bc_t];have e0:((i:Int)).toNat=i:=rfl;rw [e0,hx,dt (show -((j+1:Nat):Int)<0 by omega),bc_t];have w0:IntKind.i64.wrap (0 - -((j+1:Nat):Int))=((j+1:Nat):Int):=by rw [zae _ (by omega) (by omega)];omega
 have w1:IntKind.i64.wrap (((j+1:Nat):Int)-1)=(j:Int):=by rw [zae _ (by omega) (by omega)];omega
 have w2:IntKind.i64.wrap (s.pw-1)=s.pw-1:=zae _ (by omega) (by omega);have e1:((j:Int)).toNat=j:=rfl;have e2:(((j+1:Nat):Int)).toNat=j+1:=rfl;have e3:invS (pA (Pm.del ((n:Int)).toNat)) 12=pA (Pm.del n).inv:=zf3 hn (Pm.del n);rw [w0,w1,w2,e1,e2,e3,zbh (Pm.del n).inv (show j+1<12 by omega),zbh (Pm.del n).inv (show j<12 by omega)];have g1:=ztm hn hk;have g2:=zu3 hn (Pm.del n).inv hk;have g0:In12 (pA (Pm.del ((n:Int)).toNat)):=In12.pA hn (Pm.del n);rw [show j+1-1=j by omega] at g1 g2
 rw [g1,dt g2,List.length_set,zar,dt g0];have g6:FormOk n (encF s.F) s.F.length:=formOk hn (by omega);have g7:PTrn.turL n (encF s.F)=encF (s.F.map Pm.trn):=by
  unfold PTrn.turL;have e1:decF ((n:Int)).toNat (encF s.F)=s.F:=zcv hn s.F;rw [e1]
 rw [dt g6,g7];have g3:TimOk n (s.pw-1) (encF (s.F.map Pm.trn)) s.F.length nn (pA (ctr (j+1) hk)):=⟨by omega,by omega,by omega,by omega,s.F.map Pm.trn,ctr (j+1) hk,rfl,rfl,(by rw [List.length_map]),by omega,hN.trn,hnn.imp id fun e=>by rw [e];rfl⟩;have g4:timD n (encF (s.F.map Pm.trn)) (pA (ctr (j+1) hk))=tmD (s.F.map Pm.trn) (ctr (j+1) hk):=by
  unfold timD;have e1:decF ((n:Int)).toNat (encF (s.F.map Pm.trn))=s.F.map Pm.trn:=zcv hn _;have e2:decP ((n:Int)).toNat (pA (ctr (j+1) hk))=ctr (j+1) hk:=zel hn _;rw [e1,e2]
 have g5:timF n (encF (s.F.map Pm.trn)) (pA (ctr (j+1) hk))=tmF (s.F.map Pm.trn) (ctr (j+1) hk):=by
  unfold timF;have e1:decF ((n:Int)).toNat (encF (s.F.map Pm.trn))=s.F.map Pm.trn:=zcv hn _;have e2:decP ((n:Int)).toNat (pA (ctr (j+1) hk))=ctr (j+1) hk:=zel hn _;rw [e1,e2]
 rw [dt g3,g4,g5];have n12:(12:Nat)=12:=rfl;have g8:0≤(n:Int)∧(n:Int)≤12:=⟨by omega,by omega⟩;have n2:bc nn true false=nn:=bc_b nn;simp (disch:=omega) only [yS,n2];rfl
theorem last {w:List Int} {s:Frm n} {nn:Bool} {z:Int} {i:Nat} (hi:z≤i):RN (stOf (sN n w s.pw (encF s.F) s.F.length nn z i)) = .done (.ptr 0 0) (PDel.K0 n s.pw (encF s.F) s.F.length nn) 2:=by
 rw [step_t,df (show ¬ (i:Int)<z by omega)];rfl
theorem loop {w:List Int} (hn:n≤12) (hw:w.length≤2000) (hv:Vld n w):∀ (k i:Nat) (s:Frm n) (nn:Bool),i+k=w.length→Nrm s.F→s.pw+(s.F.length:Int)≤i → -(i:Int)≤s.pw→s.F.length≤i→(nn=true∨s.F=[]) →
  EndM 0 66 ct (stOf (sN n w s.pw (encF s.F) s.F.length nn w.length i)) (.ptr 0 0) (PDel.K0 n ((w.drop i).foldl Frm.step s).pw (encF ((w.drop i).foldl Frm.step s).F) ((w.drop i).foldl Frm.step s).F.length (bc nn true (Nat.blt 0 k))) 2
 | 0,i,s,nn,h,h1,h2,h3,h4,h5=>by
  rw [List.drop_eq_nil_of_le (by omega),show bc nn true (Nat.blt 0 0)=nn by cases nn <;> rfl];exact .done (last (by omega))
 | k+1,i,s,nn,h,h1,h2,h3,h4,h5=>by
  have hi:i<w.length:=by omega
  rw [List.drop_eq_getElem_cons hi,List.foldl_cons,show bc nn true (Nat.blt 0 (k+1))=bc true true (Nat.blt 0 k) by cases nn <;> rfl];obtain ⟨v1,v2,v3⟩:=hv _ (List.getElem_mem hi);have hg:w.getD i 0=w[i]:=zag hi;generalize w[i]=x at *;rcases Int.lt_or_lt_of_ne v1 with hx|hx
  ·obtain ⟨q,hq⟩:=Int.eq_ofNat_of_zero_le (show 0 ≤ -x by omega);have hq:x = -(q:Int):=by omega
   subst hq;have hk:0<q∧q<n:=by omega
   have hs:=stepM (w:=w) (s:=s) (nn:=nn) (z:=w.length) hn hk hi rfl hw hg h1 (by omega) (by omega) (by omega) h5;rw [zsl s hk];have q1:=zou (⟨s.pw-1,s.F.map Pm.trn⟩:Frm n) (ctr q hk);have q2:=zlo (⟨s.pw-1,s.F.map Pm.trn⟩:Frm n) (ctr q hk);have q3:=zha (⟨s.pw-1,s.F.map Pm.trn⟩:Frm n) (ctr q hk);simp only [List.length_map] at q1 q2 q3;exact .at ct_ok hs (loop hn hw hv k (i+1) _ true (by omega) (zov _ _) (by omega) (by omega) (by omega) (.inl rfl))
  ·obtain ⟨q,rfl⟩:=Int.eq_ofNat_of_zero_le (show 0≤x by omega);have hk:0<q∧q<n:=by omega
   have hs:=stepP (w:=w) (s:=s) (nn:=nn) (z:=w.length) hn hk hi rfl hw hg h1 (by omega) (by omega) (by omega) h5;rw [zsk s hk];have q1:=zou s (ltr q hk);have q2:=zlo s (ltr q hk);have q3:=zha s (ltr q hk);exact .at ct_ok hs (loop hn hw hv k (i+1) _ true (by omega) (zov _ _) (by omega) (by omega) (by omega) (.inl rfl))
theorem ends {w:List Int} (hn:n≤12) (hw:w.length≤2000) (hv:Vld n w):EndM 0 66 ct (st0m 66 [iv n,il w] [] 0) (.ptr 0 0) (PDel.K0 n (nfW n w).pw (encF (nfW n w).F) (nfW n w).F.length (Nat.blt 0 w.length)) 2:=by
 refine .at ct_ok (in_t n w) ?_;have:=loop hn hw hv w.length 0 ⟨0,[]⟩ false (by omega) zj9 (by simp) (by simp) (Nat.zero_le _) (.inr rfl);rw [List.drop_zero] at this;exact this
end PNrm
def WOk (n:Int) (w:List Int):Prop:=1≤n∧n≤12∧w.length≤2000∧Vld n.toNat w
noncomputable instance (n:Int) (w:List Int):Decidable (WOk n w):=Classical.propDecidable _
theorem zsj {n:Int} {w:List Int} (h:WOk n w):EndM 0 66 PNrm.ct (st0m 66 [iv n,il w] [] 0) (.ptr 0 0) (PDel.K0 n (nfW n.toNat w).pw (encF (nfW n.toNat w).F) (nfW n.toNat w).F.length (Nat.blt 0 w.length)) 2:=by
 obtain ⟨h1,h2,h3,h4⟩:=h;obtain ⟨n,rfl⟩:=Int.eq_ofNat_of_zero_le (show 0≤n by omega);exact PNrm.ends (by omega) h3 h4
noncomputable def spNrm_0:ZMT:=fun ax K0 m=>match ax,K0 with
 | [.v (.int .i64 n),.lst (.ints .i64 w)],[]=>bc (Nat.beq m (0)) (some ⟨decide (WOk n w),.ptr 0 0,PDel.K0 n (nfW n.toNat w).pw (encF (nfW n.toNat w).F) (nfW n.toNat w).F.length (Nat.blt 0 w.length),2,0⟩) none
 | _,_=>none
theorem znn:ZMtOk Try.prog 66 spNrm_0:=fun γ w0 w us ax K0 m r hs hc hres hax hH=>by
 unfold spNrm_0 at hs;split at hs
 case h_2=>cases hs
 rename_i n w;obtain ⟨hm,rfl⟩:=noN hs;have hm:=Nat.eq_of_beq_eq_true hm;subst hm;have hc_0:decide (WOk n w)=true:=hc;have hc:=of_decide_eq_true hc_0;exact EndM.calls (zsj hc) PNrm.ct_ok (by kernel_rfl) hres hax hH
noncomputable def spNrm_1:ZMT:=fun ax K0 m=>match ax,K0 with
 | [.v (.int .i64 n),.v (.slice none 0 0)],[]=>bc (Nat.beq m (0)) (some ⟨decide (True),.ptr 0 0,PDel.K0 n 0 (zerosL 0) 0 false,2,0⟩) none
 | _,_=>none
theorem znm:ZMtOk Try.prog 66 spNrm_1:=fun γ w0 w us ax K0 m r hs hc hres hax hH=>by
 unfold spNrm_1 at hs;split at hs
 case h_2=>cases hs
 rename_i n;obtain ⟨hm,rfl⟩:=noN hs;have hm:=Nat.eq_of_beq_eq_true hm;subst hm;have hc_0:decide (True)=true:=hc;have hc:=of_decide_eq_true hc_0;exact EndM.calls (.done (PNrm.nil_t n)) PNrm.ct_ok (by kernel_rfl) hres hax hH
noncomputable def spNrm:ZMT:=ZMT.or spNrm_0 (spNrm_1)
theorem zsx:ZMtOk Try.prog 66 spNrm:=znn.or (znm)
end
noncomputable def badL (n x:Int):Bool:=bc (x==0) true (bc (decide (x≤IntKind.i64.wrap (0-n))) true (decide (n≤x)))
noncomputable def chk (n:Int) (l:List Int):Int:=bc (decide (n<1)) 2 (bc (decide (12<n)) 2 (bc (decide (400<Int.ofNat l.length)) 3 (bc (l.any (badL n)) 7 0)))
theorem zro {f:FuncId} {s:ES} (n:Int) (h:RZ f .nil (fun _=>false) [] [] false s=bc (decide (n<1)) (.done (iv 2) [] 0) (bc (decide (12<n)) (.done (iv 2) [] 0) (.done (iv 0) [] 0))):EndZ f .nil false s (iv (chk n [])) [] 0:=by
 unfold chk
 by_cases h1:n<1
 ·rw [dt h1,bc_t] at h ⊢;exact .done h
 by_cases h2:12<n
 ·rw [df h1,dt h2,bc_f,bc_t] at h ⊢;exact .done h
 ·rw [df h1,df h2,bc_f,bc_f] at h ⊢;exact .done h
namespace RChk
noncomputable def RUN (s:ES):ZF:=RZ 45 .nil (atS 0 45 6) [] [[(0,none),(1,none),(5,none)]] false s
noncomputable def sL (n:Int) (l:List Int) (i:Int):NS:=⟨[⟨45,43,[(0,(iv n)),(1,(il l)),(5,iv i)],[.it (.code (nav [1,1,1,0,1,0,0,0] (bodyOf Try.f45))),.it (.code (nav [1,1,1,0,1,0,0,1] (bodyOf Try.f45))),.it (.inLoop (nav [1,1,1,0,1,0,0] (bodyOf Try.f45))),.it (.inBlock 0),.it (.code (nav [1,1,1,1] (bodyOf Try.f45)))],[],Option.none⟩],[],0⟩
theorem in_t (n:Int) (l:List Int):RUN (st0 45 [iv n,il l])=(bc (decide (n<1)) (.done (iv (2)) [] 0) (bc (decide (12<n)) (.done (iv (2)) [] 0) (bc (decide (400<Int.ofNat l.length)) (.done (iv (3)) [] 0) (.at (sL n l 0))))):=by kernel_rfl
theorem nil_t (n:Int):RZ 45 .nil (fun _=>false) [] [] false (st0 45 [iv n,.v (.slice none 0 0)])=(bc (decide (n<(1:Int))) (.done (EV.v (Value.int IntKind.i64 (2))) [] 0) (bc (decide ((12:Int)<n)) (.done (EV.v (Value.int IntKind.i64 (2))) [] 0) (.done (EV.v (Value.int IntKind.i64 (0))) [] 0))):=by kernel_rfl
theorem step_t (n:Int) (l:List Int) (i:Int):RUN (stOf (sL n l i))=(bc (decide (i<Int.ofNat l.length)) (bc (bc (bc (decide (0≤i)) (Nat.blt i.toNat l.length) false) true false) (bc (bc (Nat.blt i.toNat l.length) true false) (bc (l.getD i.toNat 0==0) (.done (iv (7)) [] 0) (bc (bc (bc (decide (0≤i)) (Nat.blt i.toNat l.length) false) true false) (bc (bc (Nat.blt i.toNat l.length) true false) (bc (decide (l.getD i.toNat 0≤IntKind.i64.wrap ((0:Int)-n))) (.done (iv (7)) [] 0) (bc (bc (bc (decide (0≤i)) (Nat.blt i.toNat l.length) false) true false) (bc (bc (Nat.blt i.toNat l.length) true false) (bc (decide (n≤l.getD i.toNat 0)) (.done (iv (7)) [] 0) (.at (sL n l (IntKind.i64.wrap (i+1))))) .bad) .bad)) .bad) .bad)) .bad) .bad) (.done (iv (0)) [] 0)):=by kernel_rfl
theorem step {n:Int} {l:List Int} {i:Nat} (hi:i<l.length) (hl:l.length≤400):RUN (stOf (sL n l i))=bc (badL n l[i]) (.done (iv 7) [] 0) (.at (sL n l (i+1:Nat))):=by
 rw [step_t];have e:l.getD i 0=l[i]:=zag hi;simp (disch:=omega) only [yS,e];unfold badL;cases (l[i]==0) <;> cases decide (l[i]≤IntKind.i64.wrap (0-n)) <;> cases decide (n≤l[i]) <;> rfl
theorem last {n:Int} {l:List Int} {i:Nat} (hi:l.length≤i):RUN (stOf (sL n l i)) = .done (iv 0) [] 0:=by
 rw [step_t];simp (disch:=omega) only [yS]
theorem loop {n:Int} {l:List Int} (hl:l.length≤400):∀ (k i:Nat),i+k=l.length→EndZ 45 .nil false (stOf (sL n l i)) (iv (bc ((l.drop i).any (badL n)) 7 0)) [] 0
 | 0,i,h=>by
  rw [List.drop_eq_nil_of_le (by omega)];exact .done (last (by omega))
 | k+1,i,h=>by
  have hi:i<l.length:=by omega
  have hs:=step (n:=n) hi hl;rw [List.drop_eq_getElem_cons hi,List.any_cons];cases hb:badL n l[i] <;> rw [hb] at hs
  ·exact .at (.nil _) hs (loop hl k (i+1) (by omega))
  ·exact .done hs
theorem ends (n:Int) (l:List Int):EndZ 45 .nil false (st0 45 [iv n,il l]) (iv (chk n l)) [] 0:=by
 have h:=in_t n l;unfold chk
 by_cases h1:n<1
 ·simp only [yS,dt h1] at h ⊢;exact .done h
 by_cases h2:12<n
 ·simp only [yS,df h1,dt h2] at h ⊢;exact .done h
 by_cases h3:400<(l.length:Int)
 ·simp only [yS,df h1,df h2,dt h3] at h ⊢;exact .done h
 ·simp only [yS,df h1,df h2,df h3] at h ⊢;exact .at (.nil _) h (loop (by omega) l.length 0 (by omega))
end RChk
noncomputable def spRChk_0:ZCT:=fun ax=>match ax with
 | [.v (.int .i64 n),.lst (.ints .i64 l)]=>some ⟨decide True,iv (chk n l),[],0⟩
 | _=>none
theorem zju:ZCtOk Try.prog 45 spRChk_0:=fun γ w us ax r hs hc hax hN hfz=>by
 unfold spRChk_0 at hs;split at hs
 case h_2=>cases hs
 rename_i n l;obtain ⟨rfl⟩:=Option.some.inj hs;have hc_0:decide True=true:=hc;have hc:=of_decide_eq_true hc_0;exact EndZ.calls (RChk.ends n l) (.nil _) (by kernel_rfl) hax hN hfz
noncomputable def spRChk_1:ZCT:=fun ax=>match ax with
 | [.v (.int .i64 n),.v (.slice none 0 0)]=>some ⟨decide True,iv (chk n []),[],0⟩
 | _=>none
theorem zjt:ZCtOk Try.prog 45 spRChk_1:=fun γ w us ax r hs hc hax hN hfz=>by
 unfold spRChk_1 at hs;split at hs
 case h_2=>cases hs
 rename_i n;obtain ⟨rfl⟩:=Option.some.inj hs;have hc_0:decide True=true:=hc;have hc:=of_decide_eq_true hc_0;exact EndZ.calls (zro n (RChk.nil_t n)) (.nil _) (by kernel_rfl) hax hN hfz
noncomputable def spRChk:ZCT:=ZCT.or spRChk_0 spRChk_1
theorem zo8:ZCtOk Try.prog 45 spRChk:=zju.or zjt
namespace PChk
noncomputable def RUN (s:ES):ZF:=RZs 65 .nil [(atS 2 126 2,[[(0,none),(1,none),(7,none),(8,none)],[],[]])] [] false s
noncomputable def sL (n:Int) (l:List Int) (z i:Int):NS:=⟨[⟨126,19,[(0,(il l)),(1,(EV.fn 112 [(EV.ptr 0 0)])),(7,iv z),(8,iv i)],[.it (.code (nav [1,0,1,0,0] (bodyOf Try.f126))),.it (.inLoop (nav [1,0,1,0,0] (bodyOf Try.f126))),.it (.inBlock 0),.it (.code (nav [1,1] (bodyOf Try.f126)))],[],Option.none⟩,⟨111,9,[],[.ops (opsOf (nav [1,0] (bodyOf Try.f111))) ((opsOf (nav [1,0] (bodyOf Try.f111))).toList.drop 2),.it (.code (nav [1,1] (bodyOf Try.f111)))],[],Option.none⟩,⟨65,20,[],[.ops (opsOf (nav [1,0,0,1,1,1,1,0] (bodyOf Try.f65))) ((opsOf (nav [1,0,0,1,1,1,1,0] (bodyOf Try.f65))).toList.drop 2),.it (.code (nav [1,0,0,1,1,1,1,1] (bodyOf Try.f65))),.it (.inBlock 0),.it (.code (nav [1,1] (bodyOf Try.f65)))],[],Option.none⟩],[(0,(EK.cells 3 [(iv n)] true))],1⟩
theorem in_t (n:Int) (l:List Int):RUN (st0 65 [iv n,il l])=(bc (decide (n<1)) (.done (iv (2)) [] 0) (bc (decide (12<n)) (.done (iv (2)) [] 0) (bc (decide (400<Int.ofNat l.length)) (.done (iv (3)) [] 0) (.at (sL n l (Int.ofNat l.length) 0))))):=by kernel_rfl
theorem nil_t (n:Int):RZ 65 .nil (fun _=>false) [] [] false (st0 65 [iv n,.v (.slice none 0 0)])=(bc (decide (n<(1:Int))) (.done (EV.v (Value.int IntKind.i64 (2))) [] 0) (bc (decide ((12:Int)<n)) (.done (EV.v (Value.int IntKind.i64 (2))) [] 0) (.done (EV.v (Value.int IntKind.i64 (0))) [] 0))):=by kernel_rfl
theorem step_t (n:Int) (l:List Int) (z i:Int):RUN (stOf (sL n l z i))=(bc (decide (i<z)) (bc (bc (bc (decide (0≤i)) (Nat.blt i.toNat l.length) false) true false) (bc (bc (Nat.blt i.toNat l.length) true false) (bc (l.getD i.toNat 0==0) (bc (decide (0≤i)) (.done (iv (7)) [] 0) (.done (iv (0)) [] 0)) (bc (decide (l.getD i.toNat 0≤IntKind.i64.wrap ((0:Int)-n))) (bc (decide (0≤i)) (.done (iv (7)) [] 0) (.done (iv (0)) [] 0)) (bc (decide (n≤l.getD i.toNat 0)) (bc (decide (0≤i)) (.done (iv (7)) [] 0) (.done (iv (0)) [] 0)) (.at (sL n l z (IntKind.i64.wrap (i+1))))))) .bad) .bad) (.done (iv (0)) [] 0)):=by kernel_rfl
theorem step {n:Int} {l:List Int} {i:Nat} (hi:i<l.length) (hl:l.length≤400):RUN (stOf (sL n l l.length i))=bc (badL n l[i]) (.done (iv 7) [] 0) (.at (sL n l l.length (i+1:Nat))):=by
 rw [step_t];have e:l.getD i 0=l[i]:=zag hi;simp (disch:=omega) only [yS,e];unfold badL;cases (l[i]==0) <;> cases decide (l[i]≤IntKind.i64.wrap (0-n)) <;> cases decide (n≤l[i]) <;> rfl
theorem last {n:Int} {l:List Int} {i:Nat} (hi:l.length≤i):RUN (stOf (sL n l l.length i)) = .done (iv 0) [] 0:=by
 rw [step_t];simp (disch:=omega) only [yS]
theorem loop {n:Int} {l:List Int} (hl:l.length≤400):∀ (k i:Nat),i+k=l.length→EndZ 65 .nil false (stOf (sL n l l.length i)) (iv (bc ((l.drop i).any (badL n)) 7 0)) [] 0
 | 0,i,h=>by
  rw [List.drop_eq_nil_of_le (by omega)];exact .done (last (by omega))
 | k+1,i,h=>by
  have hi:i<l.length:=by omega
  have hs:=step (n:=n) hi hl;rw [List.drop_eq_getElem_cons hi,List.any_cons];cases hb:badL n l[i] <;> rw [hb] at hs
  ·exact .at (.nil _) hs (loop hl k (i+1) (by omega))
  ·exact .done hs
theorem ends (n:Int) (l:List Int):EndZ 65 .nil false (st0 65 [iv n,il l]) (iv (chk n l)) [] 0:=by
 have h:=in_t n l;unfold chk
 by_cases h1:n<1
 ·simp only [yS,dt h1] at h ⊢;exact .done h
 by_cases h2:12<n
 ·simp only [yS,df h1,dt h2] at h ⊢;exact .done h
 by_cases h3:(400:Int)<(l.length:Int)
 ·simp only [yS,df h1,df h2,dt h3] at h ⊢;exact .done h
 ·simp only [yS,df h1,df h2,df h3] at h ⊢;exact .at (.nil _) h (loop (by omega) l.length 0 (by omega))
end PChk
noncomputable def spPChk_0:ZCT:=fun ax=>match ax with
 | [.v (.int .i64 n),.lst (.ints .i64 l)]=>some ⟨decide (True),iv (chk n l),[],0⟩
 | _=>none
theorem zjw:ZCtOk Try.prog 65 spPChk_0:=fun γ w us ax r hs hc hax hN hfz=>by
 unfold spPChk_0 at hs;split at hs
 case h_2=>cases hs
 rename_i n l;obtain ⟨rfl⟩:=Option.some.inj hs;have hc_0:decide (True)=true:=hc;have hc:=of_decide_eq_true hc_0;exact EndZ.calls (PChk.ends n l) (.nil _) (by kernel_rfl) hax hN hfz
noncomputable def spPChk_1:ZCT:=fun ax=>match ax with
 | [.v (.int .i64 n),.v (.slice none 0 0)]=>some ⟨decide (True),iv (chk n []),[],0⟩
 | _=>none
theorem zjv:ZCtOk Try.prog 65 spPChk_1:=fun γ w us ax r hs hc hax hN hfz=>by
 unfold spPChk_1 at hs;split at hs
 case h_2=>cases hs
 rename_i n;obtain ⟨rfl⟩:=Option.some.inj hs;have hc_0:decide (True)=true:=hc;have hc:=of_decide_eq_true hc_0;exact EndZ.calls (zro n (PChk.nil_t n)) (.nil _) (by kernel_rfl) hax hN hfz
noncomputable def spPChk:ZCT:=ZCT.or spPChk_0 (spPChk_1)
theorem zpd:ZCtOk Try.prog 65 spPChk:=zjw.or (zjv)
theorem zrn {n:Int} {w:List Int} (h:chk n w=0):WOk n w∧w.length≤400:=by
 unfold chk at h
 by_cases h1:n<1
 ·rw [dt h1,bc_t] at h;omega
 by_cases h2:12<n
 ·rw [df h1,dt h2,bc_f,bc_t] at h;omega
 by_cases h3:(400:Int)<Int.ofNat w.length
 ·rw [df h1,df h2,dt h3,bc_f,bc_f,bc_t] at h;omega
 rw [df h1,df h2,df h3,bc_f,bc_f,bc_f] at h;rw [ofn] at h3;refine ⟨⟨by omega,by omega,by omega,fun x hx=>?_⟩,by omega⟩
 cases ha:w.any (badL n) with
 | true=>rw [ha,bc_t] at h;omega
 | false=>
  have h4:badL n x=false:=by
   cases hb:badL n x with
   | false=>rfl
   | true=>rw [List.any_eq_true.2 ⟨x,hx,hb⟩] at ha;cases ha
  unfold badL at h4;rw [zae (0-n) (by omega) (by omega)] at h4;have e:((n.toNat:Nat):Int)=n:=Int.toNat_of_nonneg (by omega);rw [e]
  by_cases q1:x=0
  ·rw [show (x==0)=true by simp [q1],bc_t] at h4;cases h4
  ·rw [show (x==0)=false by simp [q1],bc_f] at h4
   by_cases q2:x≤0-n
   ·rw [dt q2,bc_t] at h4;cases h4
   ·rw [df q2,bc_f] at h4;have q3:=of_decide_eq_false h4;exact ⟨q1,by omega,by omega⟩
theorem ztb {n:Int} {w:List Int} (h:WOk n w):(nfW n.toNat w).F.length≤5000:=by
 obtain ⟨_,_,h3,_⟩:=h;have:∀ (w:List Int) (s:Frm n.toNat),(w.foldl Frm.step s).F.length≤s.F.length+w.length:=by
  intro w
  induction w with
  | nil=>intro s;exact Nat.le_refl _
  | cons x w ih=>
   intro s;have h1:=ih (s.step x);have h2:=(zlq s x).1;rw [List.foldl_cons,List.length_cons];omega
 have:=this w ⟨0,[]⟩;have e:nfW n.toNat w=w.foldl Frm.step ⟨0,[]⟩:=rfl;rw [e];simp at this;omega
end Go.Proofs.Ytfffbioafhppiaa.Ev

namespace Go.Proofs.Ytfffbioafhppiaa.Ev
section
variable {n:Nat}
theorem ztq {e:List Int} {n i:Nat} (hi:i<n) (hn:n≤e.length):(e.take i++zerosL (n-i)).set i (e.getD i 0)=e.take (i+1)++zerosL (n-(i+1)):=by
 have hl:(e.take i).length=i:=by rw [List.length_take];omega
 rw [List.set_append_right _ _ (by omega),hl,Nat.sub_self,List.take_succ_eq_append_getElem (show i<e.length by omega),zag (show i<e.length by omega),List.append_assoc];congr 1;obtain ⟨d,hd⟩:∃ d,n-i=d+1:=⟨n-i-1,by omega⟩;rw [hd,show n-(i+1)=d by omega];rfl
theorem ztr (e:List Int) (n:Nat):e.take n++zerosL (n-n)=e.take n:=by
 rw [Nat.sub_self];exact List.append_nil _
theorem zfi (k:Nat):(zerosL k).length=k:=by unfold zerosL;simp
namespace PLis
noncomputable def K0 (e:List Int):List (Nat×EK):=[(0,.seq 95 (.ints .u8 e) true)]
noncomputable def RUN (s:ES):ZF:=RMs 1 95 .nil [(atS 0 95 3,[[(0,none),(5,none),(10,none),(11,none)]])] [] [] s
noncomputable def sB (n:Int) (e d:List Int) (m:Nat) (z i:Int):NS:=⟨[⟨95,25,[(0,(EV.ptr 0 0)),(5,EV.slO 1 1 m true),(10,iv z),(11,iv i)],[.it (.code (nav [1,1,0,1,0,0] (bodyOf Try.f95))),.it (.inLoop (nav [1,1,0,1,0,0] (bodyOf Try.f95))),.it (.inBlock 0),.it (.code (nav [1,1,1] (bodyOf Try.f95)))],[],Option.none⟩],[(0,(EK.seq 95 (SyC.ints IntKind.u8 e) true)),(1,EK.seq 3 (.ints .i64 d) true)],2⟩
theorem in_t (n:Int) (e:List Int):RUN (st0m 95 [.ptr 0 0,iv n] (K0 e) 1)=(bc (bc (decide (0≤n)) (bc (decide (n≤n)) (decide (n≤65536)) false) false) (.at ⟨[⟨95,25,[(0,(EV.ptr 0 0)),(5,(EV.slO 1 1 (zerosL n.toNat).length true)),(10,(iv (Int.ofNat (zerosL n.toNat).length))),(11,(iv (0)))],[.it (.code (nav [1,1,0,1,0,0] (bodyOf Try.f95))),.it (.inLoop (nav [1,1,0,1,0,0] (bodyOf Try.f95))),.it (.inBlock 0),.it (.code (nav [1,1,1] (bodyOf Try.f95)))],[],Option.none⟩],[(0,(EK.seq 95 (SyC.ints IntKind.u8 e) true)),(1,(EK.seq 3 (SyC.ints IntKind.i64 (zerosL n.toNat)) true))],2⟩) .bad):=by kernel_rfl
theorem b_t (n:Int) (e d:List Int) (m:Nat) (z i:Int):RUN (stOf (sB n e d m z i))=(bc (decide (i<z)) (bc (bc (bc (decide (0≤i)) (Nat.blt i.toNat 12) false) true false) (bc (bc (Nat.blt i.toNat e.length) true false) (bc (bc (bc (decide (0≤i)) (Nat.blt i.toNat m) false) true false) (bc (Nat.blt i.toNat d.length) (.at ⟨[⟨95,25,[(0,(EV.ptr 0 0)),(5,(EV.slO 1 1 m true)),(10,(iv z)),(11,(iv (IntKind.i64.wrap (i+1))))],[.it (.code (nav [1,1,0,1,0,0] (bodyOf Try.f95))),.it (.inLoop (nav [1,1,0,1,0,0] (bodyOf Try.f95))),.it (.inBlock 0),.it (.code (nav [1,1,1] (bodyOf Try.f95)))],[],Option.none⟩],[(0,(EK.seq 95 (SyC.ints IntKind.u8 e) true)),(1,(EK.seq 3 (SyC.ints IntKind.i64 (List.set d i.toNat (IntKind.i64.wrap (e.getD i.toNat 0)))) true))],2⟩) .bad) .bad) .bad) .bad) (.done (EV.slO 1 1 m true) [(0,(EK.seq 95 (SyC.ints IntKind.u8 e) true)),(1,(EK.seq 3 (SyC.ints IntKind.i64 d) true))] 2)):=by kernel_rfl
theorem step {n:Nat} {e:List Int} {d:List Int} {i:Nat} (hi:i<n) (hn:n≤12) (he:In12 e) (hd:d.length=n):RUN (stOf (sB n e d n n i)) = .at (sB n e (d.set i (e.getD i 0)) n n (i+1:Nat)):=by
 rw [b_t];have h1:=he.2 i (by omega);have h2:=he.1;have e0:((i:Int)).toNat=i:=rfl;rw [e0];simp (disch:=omega) only [yS];rfl
theorem last {n:Nat} {e d:List Int} {i:Nat} (hi:n≤i) (hd:d.length=n):RUN (stOf (sB n e d n n i)) = .done (.slO 1 1 n true) [(0,.seq 95 (.ints .u8 e) true),(1,.seq 3 (.ints .i64 d) true)] 2:=by
 rw [b_t];simp (disch:=omega) only [yS]
theorem loop {n:Nat} {e:List Int} (hn:n≤12) (he:In12 e):∀ (k i:Nat),i+k=n→EndM 1 95 .nil (stOf (sB n e (e.take i++zerosL (n-i)) n n i)) (.slO 1 1 n true) [(0,.seq 95 (.ints .u8 e) true),(1,.seq 3 (.ints .i64 (e.take n)) true)] 2
 | 0,i,h=>by
  obtain rfl:i=n:=by omega
  rw [ztr];exact .done (last (Nat.le_refl _) (by have:=he.1;rw [List.length_take];omega))
 | k+1,i,h=>by
  have hl:(e.take i++zerosL (n-i)).length=n:=by have:=he.1;rw [List.length_append,List.length_take,zfi];omega
  have h1:=step (n:=n) (i:=i) (by omega) hn he hl;rw [ztq (by omega) (by have:=he.1;omega)] at h1;exact .at (.nil _) h1 (loop hn he k (i+1) (by omega))
theorem ends {n:Int} {e:List Int} (h0:0≤n) (hn:n≤12) (he:In12 e):EndM 1 95 .nil (st0m 95 [.ptr 0 0,iv n] (K0 e) 1) (.slO 1 1 n.toNat true) [(0,.seq 95 (.ints .u8 e) true),(1,.seq 3 (.ints .i64 (e.take n.toNat)) true)] 2:=by
 obtain ⟨n,rfl⟩:=Int.eq_ofNat_of_zero_le h0;have h:=in_t n e;have e0:((n:Int)).toNat=n:=rfl;rw [e0,dt h0,bc_t,dt (show (n:Int)≤n by omega),bc_t,dt (show (n:Int)≤65536 by omega),bc_t,zfi] at h;exact .at (.nil _) h (loop (by omega) he n 0 (by omega))
end PLis
noncomputable def spLis:ZMT:=fun ax K0 m=>match ax,K0 with
 | [.ptr 0 0,.v (.int .i64 n)],[(0,.seq 95 (.ints .u8 e) v_0)]=>bc (Nat.beq m (1)) (some ⟨bc (eqN v_0 (true)) (decide (0≤n∧n≤12∧In12 e)) false,.slO 1 1 n.toNat true,[(0,.seq 95 (.ints .u8 e) true),(1,.seq 3 (.ints .i64 (e.take n.toNat)) true)],2,1⟩) none
 | _,_=>none
theorem zsz:ZMtOk Try.prog 95 spLis:=fun γ w0 w us ax K0 m r hs hc hres hax hH=>by
 unfold spLis at hs;split at hs
 case h_2=>cases hs
 rename_i n e v_0;obtain ⟨hm,rfl⟩:=noN hs;have hm:=Nat.eq_of_beq_eq_true hm;subst hm;have hc_0:bc (eqN v_0 (true)) (decide (0≤n∧n≤12∧In12 e)) false=true:=hc;obtain ⟨q_0,hc_1⟩:=bcT hc_0;have p_0:=(zei q_0).symm;subst p_0;have hc:=of_decide_eq_true hc_1;exact EndM.calls (PLis.ends hc.1 hc.2.1 hc.2.2) (.nil _) (by kernel_rfl) hres hax hH
end
section
variable {n:Nat}
end
section
variable {n:Nat}
end
end Go.Proofs.Ytfffbioafhppiaa.Ev

namespace Go.Proofs.Ytfffbioafhppiaa.Ev
section
variable {n:Nat}
def upd (f:Nat→Nat→Int) (x y:Nat) (v:Int) (a b:Nat):Int:=if a=x∧b=y then v else f a b
namespace PNml
noncomputable def ct:Tr ZCC:=((Tr.nil.put 65 (some (dC spPChk))).put 66 (some (mC spNrm))).put 95 (some (mC spLis))
theorem ct_ok:ZCtsOk Try.prog ct:=(((ZCtsOk.nil _).add rfl zpd).addM rfl zsx).addM rfl zsz
noncomputable def RUN (s:ES):ZF:=RZ 46 ct (atS 0 46 6) [] [[(0,none),(5,some (1,22,.recs [.list [.int .i64]] [])),(8,none),(23,none),(24,none),(25,none)]] false s
noncomputable def sL (n:Int) (pw:Int) (L:List Int) (len:Nat) (nn:Bool) (q:List (List U)) (nq:Bool) (z i:Int):NS:=⟨[⟨46,40,[(0,(iv n)),(5,EV.slO 0 1 q.length nq),(8,(EV.ptr 1 0)),(23,EV.slO 2 12 len nn),(24,iv z),(25,iv i)],[.it (.code (nav [1,1,1,0,1,0,0] (bodyOf Try.f46))),.it (.inLoop (nav [1,1,1,0,1,0,0] (bodyOf Try.f46))),.it (.inBlock 0),.it (.code (nav [1,1,1,1] (bodyOf Try.f46)))],[],Option.none⟩],[(0,EK.seq 22 (.recs [.list [.int .i64]] q) nq),(1,EK.cells 92 [iv n,iv pw,EV.slO 2 12 len nn] true),(2,EK.seq 95 (.ints .u8 L) nn)],3⟩
theorem in_t (n:Int) (w:List Int):RUN (st0 46 [iv n,il w])=(bc (chk n w != 0) (.done (EV.tup [(iv (0)),(EV.v (Value.slice Option.none 0 0)),(iv (chk n w))]) [] 0) (bc (bc (decide (WOk n w)) true false) (.at (sL n (Frm.pw (nfW n.toNat w)) (encF (Frm.F (nfW n.toNat w))) (Frm.F (nfW n.toNat w)).length (Nat.blt 0 w.length) [] false (Int.ofNat (Frm.F (nfW n.toNat w)).length) 0)) .bad)):=by kernel_rfl
theorem l_t (n pw:Int) (L:List Int) (len:Nat) (nn:Bool) (q:List (List U)) (nq:Bool) (z i:Int):RUN (stOf (sL n pw L len nn q nq z i))=(bc (decide (i<z)) (bc (bc (bc (decide (0≤i)) (Nat.blt i.toNat len) false) true false) (bc (bc (Nat.ble (Nat.add (Nat.add (Nat.mul i.toNat 12) 0) 12) L.length) true false) (bc (bc (Nat.beq (List.take 12 (List.drop (Nat.add (Nat.mul i.toNat 12) 0) L)).length 12) (Nat.beq (zerosL 12).length 12) false) (bc (bc (decide (0≤n∧n≤12∧In12 (List.take 12 (List.drop (Nat.add (Nat.mul i.toNat 12) 0) L)))) true false) (bc (bc (Nat.beq n.toNat (List.take n.toNat (List.take 12 (List.drop (Nat.add (Nat.mul i.toNat 12) 0) L))).length) true false) (bc (bc (Nat.beq q.length q.length) (bc (Nat.ble (q.length+[[U.l (List.map (fun x=>[U.i x]) (List.take n.toNat (List.take 12 (List.drop (Nat.add (Nat.mul i.toNat 12) 0) L))))]].length) 65536) (bc nq true (bc nq false true)) false) false) (.at (sL n pw L len nn (q++[[U.l (List.map (fun x=>[U.i x]) (List.take n.toNat (List.take 12 (List.drop (Nat.add (Nat.mul i.toNat 12) 0) L))))]]) (bc nq true (Nat.blt 0 [[U.l (List.map (fun x=>[U.i x]) (List.take n.toNat (List.take 12 (List.drop (Nat.add (Nat.mul i.toNat 12) 0) L))))]].length)) z (IntKind.i64.wrap (i+1)))) .bad) .bad) .bad) .bad) .bad) .bad) (bc (bc (Nat.beq q.length q.length) true false) (.done (EV.tup [(iv pw),(EV.lst (SyC.recs [(Sh.list [(Sh.int IntKind.i64)])] q)),(iv (0))]) [] 0) .bad)):=by kernel_rfl
noncomputable def rowsF (n:Nat) (F:List (Pm n)):List (List U):=F.map fun p=>[U.l (((pA p).take n).map fun x=>[U.i x])]
theorem zpm (F G:List (Pm n)):rowsF n (F++G)=rowsF n F++rowsF n G:=by unfold rowsF;rw [List.map_append]
theorem step {F G:List (Pm n)} {p:Pm n} {pw:Int} {nn nq:Bool} (hn:n≤12) (hl:F.length≤5000) (hq:nq=true∨F=[]):RUN (stOf (sL n pw (encF (F++p::G)) (F++p::G).length nn (rowsF n F) nq ((F++p::G).length:Nat) (F.length:Nat))) = .at (sL n pw (encF (F++p::G)) (F++p::G).length nn (rowsF n (F++[p])) true ((F++p::G).length:Nat) (F.length+1:Nat)):=by
 have hlen:(F++p::G).length=F.length+G.length+1:=by rw [List.length_append,List.length_cons];omega
 have e0:Int.toNat (n:Int)=n:=rfl;have e1:Int.toNat (F.length:Int)=F.length:=rfl;have e2:List.take 12 (List.drop (Nat.add (Nat.mul F.length 12) 0) (encF (F++p::G)))=pA p:=zcu F G p;have e3:Nat.add (Nat.add (Nat.mul F.length 12) 0) 12=F.length*12+12:=rfl;have e4:(encF (F++p::G)).length=(F.length+G.length+1)*12:=by rw [zah,hlen]
 have e5:(0:Int)≤(n:Int)∧(n:Int)≤12∧In12 (pA p):=⟨by omega,by omega,In12.pA hn p⟩;have e6:(List.take n (pA p)).length=n:=by rw [List.length_take,zar];omega
 have e7:(rowsF n F).length=F.length:=by unfold rowsF;rw [List.length_map]
 have e8:bc nq true (bc nq false true)=true:=by cases nq <;> rfl
 have e9:∀ r:List U,bc nq true (Nat.blt 0 (List.length [r]))=true:=fun r=>by cases nq <;> rfl
 rw [l_t,e0,e1,e2,e3,e4,e6,dt e5,e8,zar,zfi,e9,hlen];simp (disch:=omega) only [yS,e7];rw [zpm];rfl
theorem last {F:List (Pm n)} {pw:Int} {nn nq:Bool}:RUN (stOf (sL n pw (encF F) F.length nn (rowsF n F) nq (F.length:Nat) (F.length:Nat))) = .done (.tup [iv pw,.lst (.recs [.list [.int .i64]] (rowsF n F)),iv 0]) [] 0:=by
 rw [l_t,df (show ¬ (F.length:Int)<(F.length:Int) by omega),bc_f];simp only [yS]
theorem loop {pw:Int} {nn:Bool} (hn:n≤12):∀ (G F:List (Pm n)) (nq:Bool),F.length+G.length≤5000→(nq=true∨F=[])→EndZ 46 ct false (stOf (sL n pw (encF (F++G)) (F++G).length nn (rowsF n F) nq ((F++G).length:Nat) (F.length:Nat))) (.tup [iv pw,.lst (.recs [.list [.int .i64]] (rowsF n (F++G))),iv 0]) [] 0
 | [],F,nq,hl,hq=>by
  rw [List.append_nil];exact .done last
 | p::G,F,nq,hl,hq=>by
  have h1:=step (F:=F) (G:=G) (p:=p) (pw:=pw) (nn:=nn) (nq:=nq) hn (by simp at hl;omega) hq;have h2:=loop (pw:=pw) (nn:=nn) hn G (F++[p]) true (by simp at hl ⊢;omega) (.inl rfl);rw [List.append_assoc,show [p]++G=p::G from rfl,show (F++[p]).length=F.length+1 from by rw [List.length_append];rfl] at h2
  exact .at ct_ok h1 h2
noncomputable abbrev nmlV (n:Int) (w:List Int):EV:=.tup [iv (bc (chk n w != 0) 0 (nfW n.toNat w).pw),.lst (.recs [.list [.int .i64]] (bc (chk n w != 0) [] (rowsF n.toNat (nfW n.toNat w).F))),iv (chk n w)]
theorem ends (n:Int) (w:List Int):EndZ 46 ct false (st0 46 [iv n,il w]) (nmlV n w) [] 0:=by
 have h:=in_t n w
 by_cases z:chk n w=0
 ·obtain ⟨w1,_⟩:=zrn z;unfold nmlV;rw [z,show ((0:Int) != 0)=false from rfl,bc_f,bc_f]
  rw [z,show ((0:Int) != 0)=false from rfl,bc_f,dt w1] at h
  have h5:=ztb w1;obtain ⟨n,rfl⟩:=Int.eq_ofNat_of_zero_le (show 0≤n by have:=w1.1;omega);exact .at ct_ok h (loop (by have:=w1.2.1;omega) (nfW n w).F [] false (by simpa using h5) (.inr rfl))
 ·unfold nmlV;rw [show (chk n w != 0)=true by simp [z],bc_t] at h ⊢;exact (EndZ.done h).weak (Weak.tup (.cons (Weak.refl _) (.cons (Weak.nil _) (.cons (Weak.refl _) .nil))))
end PNml
noncomputable def spPNml:ZCT:=fun ax=>match ax with
 | [.v (.int .i64 n),.lst (.ints .i64 w)]=>some ⟨decide (True),PNml.nmlV n w,[],0⟩
 | _=>none
theorem zpb:ZCtOk Try.prog 46 spPNml:=fun γ w us ax r hs hc hax hN hfz=>by
 unfold spPNml at hs;split at hs
 case h_2=>cases hs
 rename_i n w;obtain ⟨rfl⟩:=Option.some.inj hs;have hc_0:decide (True)=true:=hc;have hc:=of_decide_eq_true hc_0;exact EndZ.calls (PNml.ends n w) PNml.ct_ok (by kernel_rfl) hax hN hfz
end
section
variable {n:Nat}
noncomputable instance pmDec (p q:Pm n):Decidable (p=q):=Classical.propDecidable _
noncomputable def facR (r:List U):List Int:=List.map (fun r=>U.int (List.headD r (U.i 0))) (U.list (List.getD r 0 (U.i 0)))
def Shrt (A:List (List U)):Prop:=A.length≤5000∧∀ r,r∈A→(facR r).length≤100000
noncomputable instance (A:List (List U)):Decidable (Shrt A):=Classical.propDecidable _
end
end Go.Proofs.Ytfffbioafhppiaa.Ev

namespace Go.Proofs.Ytfffbioafhppiaa.Ev
section
variable {n:Nat}
end
end Go.Proofs.Ytfffbioafhppiaa.Ev

namespace Go.Proofs.Ytfffbioafhppiaa.Ev
section
variable {n:Nat}
end
end Go.Proofs.Ytfffbioafhppiaa.Ev

namespace Go.Proofs.Ytfffbioafhppiaa.Ev
section
variable {n:Nat}
end
theorem zq9 (x y:Int) (a b:List Int):eqLI (x::a) (y::b)=bc (x != y) false (eqLI a b):=by
 by_cases h:x=y
 ·have e:(x != y)=false:=by simp [h]
  rw [e,bc_f]
  cases hq:eqLI a b with
  | true=>rw [h,zax.1 hq,zax.2 rfl]
  | false=>
   cases hx:eqLI (x::a) (y::b) with
   | false=>rfl
   | true=>
    have:=List.cons.inj (zax.1 hx);rw [zax.2 this.2] at hq;cases hq
 ·have e:(x != y)=true:=by simp [h]
  rw [e,bc_t]
  cases hx:eqLI (x::a) (y::b) with
  | false=>rfl
  | true=>exact absurd (List.cons.inj (zax.1 hx)).1 h
theorem zt5 {a b:List Int} (h:a.length≠b.length):eqLI a b=false:=by
 cases hx:eqLI a b with
 | false=>rfl
 | true=>exact absurd (congrArg List.length (zax.1 hx)) h
namespace RSin
noncomputable def RUN (s:ES):ZF:=RZ 68 .nil (atS 0 68 4) [] [[(0,none),(1,none),(5,none)]] false s
noncomputable def sS (a b:List Int) (i:Int):NS:=⟨[⟨68,26,[(0,(il a)),(1,(il b)),(5,iv i)],[.it (.code (nav [1,1,0,1,0,0,0] (bodyOf Try.f68))),.it (.code (nav [1,1,0,1,0,0,1] (bodyOf Try.f68))),.it (.inLoop (nav [1,1,0,1,0,0] (bodyOf Try.f68))),.it (.inBlock 0),.it (.code (nav [1,1,1] (bodyOf Try.f68)))],[],Option.none⟩],[],0⟩
theorem in_t (a b:List Int):RUN (st0 68 [il a,il b])=(bc (Int.ofNat a.length != Int.ofNat b.length) (.done (bv false) [] 0) (.at (sS a b 0))):=by kernel_rfl
theorem step_t (a b:List Int) (i:Int):RUN (stOf (sS a b i))=(bc (decide (i<Int.ofNat a.length)) (bc (bc (bc (bc (bc (decide (0≤i)) (Nat.blt i.toNat a.length) false) true false) (bc (bc (Nat.blt i.toNat a.length) true false) (bc (bc (bc (decide (0≤i)) (Nat.blt i.toNat b.length) false) true false) (bc (bc (Nat.blt i.toNat b.length) true false) true false) false) false) false) true false) (bc (a.getD i.toNat 0 != b.getD i.toNat 0) (.done (bv false) [] 0) (.at (sS a b (IntKind.i64.wrap (i+1))))) .bad) (.done (bv true) [] 0)):=by kernel_rfl
theorem loop {a b:List Int} (hl:a.length=b.length) (hz:a.length≤100000):∀ (k i:Nat),i+k=a.length→EndZ 68 .nil false (stOf (sS a b i)) (bv (eqLI (a.drop i) (b.drop i))) [] 0
 | 0,i,h=>by
  have hs:=step_t a b i;rw [List.drop_eq_nil_of_le (by omega),List.drop_eq_nil_of_le (by omega),zax.2 rfl];simp (disch:=omega) only [yS] at hs;exact .done hs
 | k+1,i,h=>by
  have hi:i<a.length:=by omega
  have hi2:i<b.length:=by omega
  have hs:=step_t a b i;have e1:a.getD i 0=a[i]:=zag hi;have e2:b.getD i 0=b[i]:=zag hi2;rw [zcx,e1,e2] at hs;rw [List.drop_eq_getElem_cons hi,List.drop_eq_getElem_cons hi2,zq9];simp (disch:=omega) only [yS] at hs
  cases hq:a[i] != b[i] with
  | true=>rw [hq] at hs;exact .done hs
  | false=>rw [hq] at hs;exact .at (.nil _) hs (loop hl hz k (i+1) (by omega))
theorem ends {a b:List Int} (hz:a.length≤100000):EndZ 68 .nil false (st0 68 [il a,il b]) (bv (eqLI a b)) [] 0:=by
 have h:=in_t a b
 by_cases hl:a.length=b.length
 ·have e:(Int.ofNat a.length != Int.ofNat b.length)=false:=by simp [hl]
  rw [e,bc_f] at h;exact .at (.nil _) h (loop hl hz a.length 0 (by omega))
 ·have e:(Int.ofNat a.length != Int.ofNat b.length)=true:=by simp;omega
  rw [e,bc_t] at h;rw [zt5 hl];exact .done h
end RSin
noncomputable def spRSin:ZCT:=fun ax=>match ax with
 | [.lst (.ints .i64 a),.lst (.ints .i64 b)]=>some ⟨decide (a.length≤100000),bv (eqLI a b),[],0⟩
 | _=>none
theorem zo3:ZCtOk Try.prog 68 spRSin:=fun γ w us ax r hs hc hax hN hfz=>by
 unfold spRSin at hs;split at hs
 case h_2=>cases hs
 rename_i a b;obtain ⟨rfl⟩:=Option.some.inj hs;have hc_0:decide (a.length≤100000)=true:=hc;have hc:=of_decide_eq_true hc_0;exact EndZ.calls (RSin.ends hc) (.nil _) (by kernel_rfl) hax hN hfz
noncomputable def sfB:List (List U)→List (List U)→Bool
 | [],[]=>true
 | r::A,q::B=>bc (eqLI (facR r) (facR q)) (sfB A B) false
 | _,_=>false
theorem zpg:∀ {A B:List (List U)},A.length≠B.length→sfB A B=false
 | [],[],h=>absurd rfl h
 | [],q::B,_=>rfl
 | r::A,[],_=>rfl
 | r::A,q::B,h=>by
  have:sfB A B=false:=zpg fun e=>h (by rw [List.length_cons,List.length_cons,e]);unfold sfB;rw [this];cases eqLI (facR r) (facR q) <;> rfl
namespace RSfo
noncomputable def ct:Tr ZCC:=Tr.nil.put 68 (some (dC spRSin))
theorem ct_ok:ZCtsOk Try.prog ct:=(ZCtsOk.nil _).add rfl zo3
noncomputable abbrev ll (A:List (List U)):EV:=.lst (.recs [.list [.int .i64]] A)
noncomputable def RUN (s:ES):ZF:=RZ 25 ct (atS 0 25 4) [] [[(0,none),(1,none),(5,none)]] false s
noncomputable def sS (A B:List (List U)) (i:Int):NS:=⟨[⟨25,27,[(0,(EV.lst (SyC.recs [(Sh.list [(Sh.int IntKind.i64)])] A))),(1,(EV.lst (SyC.recs [(Sh.list [(Sh.int IntKind.i64)])] B))),(5,iv i)],[.it (.code (nav [1,1,0,1,0,0,0] (bodyOf Try.f25))),.it (.code (nav [1,1,0,1,0,0,1] (bodyOf Try.f25))),.it (.inLoop (nav [1,1,0,1,0,0] (bodyOf Try.f25))),.it (.inBlock 0),.it (.code (nav [1,1,1] (bodyOf Try.f25)))],[],Option.none⟩],[],0⟩
theorem in_t (A B:List (List U)):RUN (st0 25 [ll A,ll B])=(bc (Int.ofNat A.length != Int.ofNat B.length) (.done (bv false) [] 0) (.at (sS A B 0))):=by kernel_rfl
theorem step_t (A B:List (List U)) (i:Int):RUN (stOf (sS A B i))=(bc (decide (i<Int.ofNat A.length)) (bc (bc (bc (bc (bc (decide (0≤i)) (Nat.blt i.toNat A.length) false) true false) (bc (bc (Nat.blt i.toNat A.length) true false) (bc (bc (bc (decide (0≤i)) (Nat.blt i.toNat B.length) false) true false) (bc (bc (Nat.blt i.toNat B.length) true false) (bc (bc (decide ((List.map (fun r=>U.int (List.headD r (U.i 0))) (U.list ((A.getD i.toNat []).getD 0 (U.i 0)))).length≤100000)) true false) true false) false) false) false) false) true false) (bc (!eqLI (List.map (fun r=>U.int (List.headD r (U.i 0))) (U.list ((A.getD i.toNat []).getD 0 (U.i 0)))) (List.map (fun r=>U.int (List.headD r (U.i 0))) (U.list ((B.getD i.toNat []).getD 0 (U.i 0))))) (.done (bv false) [] 0) (.at (sS A B (IntKind.i64.wrap (i+1))))) .bad) (.done (bv true) [] 0)):=by kernel_rfl
theorem loop {A B:List (List U)} (hl:A.length=B.length) (hz:Shrt A):∀ (k i:Nat),i+k=A.length→EndZ 25 ct false (stOf (sS A B i)) (bv (sfB (A.drop i) (B.drop i))) [] 0
 | 0,i,h=>by
  have hs:=step_t A B i;have hz1:=hz.1;rw [List.drop_eq_nil_of_le (by omega),List.drop_eq_nil_of_le (by omega)];simp (disch:=omega) only [yS] at hs;exact .done hs
 | k+1,i,h=>by
  have hi:i<A.length:=by omega
  have hi2:i<B.length:=by omega
  have hz1:=hz.1;have hs:=step_t A B i;have e1:A.getD i []=A[i]:=zag hi;have e2:B.getD i []=B[i]:=zag hi2;have f1:∀ r:List U,List.map (fun r=>U.int (List.headD r (U.i 0))) (U.list (List.getD r 0 (U.i 0)))=facR r:=fun _=>rfl;rw [zcx,e1,e2,f1,f1,dt (hz.2 _ (List.getElem_mem hi))] at hs;rw [List.drop_eq_getElem_cons hi,List.drop_eq_getElem_cons hi2];unfold sfB
  simp (disch:=omega) only [yS] at hs
  cases hq:eqLI (facR A[i]) (facR B[i]) with
  | false=>rw [hq] at hs;exact .done hs
  | true=>rw [hq] at hs;exact .at ct_ok hs (loop hl hz k (i+1) (by omega))
theorem ends {A B:List (List U)} (hz:Shrt A):EndZ 25 ct false (st0 25 [ll A,ll B]) (bv (sfB A B)) [] 0:=by
 have h:=in_t A B
 by_cases hl:A.length=B.length
 ·have e:(Int.ofNat A.length != Int.ofNat B.length)=false:=by simp [hl]
  rw [e,bc_f] at h;exact .at ct_ok h (loop hl hz A.length 0 (by omega))
 ·have e:(Int.ofNat A.length != Int.ofNat B.length)=true:=by simp;omega
  rw [e,bc_t] at h;rw [zpg hl];exact .done h
end RSfo
noncomputable def spRSfo:ZCT:=fun ax=>match ax with
 | [.lst (.recs [.list [.int .i64]] A),.lst (.recs [.list [.int .i64]] B)]=>some ⟨decide (Shrt A),bv (sfB A B),[],0⟩
 | _=>none
theorem zo4:ZCtOk Try.prog 25 spRSfo:=fun γ w us ax r hs hc hax hN hfz=>by
 unfold spRSfo at hs;split at hs
 case h_2=>cases hs
 rename_i A B;obtain ⟨rfl⟩:=Option.some.inj hs;have hc_0:decide (Shrt A)=true:=hc;have hc:=of_decide_eq_true hc_0;exact EndZ.calls (RSfo.ends hc) RSfo.ct_ok (by kernel_rfl) hax hN hfz
section
variable {n:Nat}
namespace RSiz
noncomputable def RUN (s:ES):ZF:=RZ 61 .nil (fun _=>false) [] [] false s
theorem in_t (x:Int):RUN (st0 61 [iv x])=(.done (iv (if IntKind.i64.wrap ((0:Int)-x) > x then IntKind.i64.wrap ((0:Int)-x) else x)) [] 0):=by kernel_rfl
theorem ends {x:Int} (hx:-1000≤x∧x≤1000):EndZ 61 .nil false (st0 61 [iv x]) (iv (x.natAbs:Nat)) [] 0:=by
 have h:=in_t x;have e:(if IntKind.wrap IntKind.i64 (0-x) > x then IntKind.wrap IntKind.i64 (0-x) else x)=((x.natAbs:Nat):Int):=by
  rw [zae (0-x) (by omega) (by omega)];split <;> omega
 rw [e] at h;exact .done h
end RSiz
noncomputable def spSiz:ZCT:=fun ax=>match ax with
 | [.v (.int .i64 x)]=>some ⟨decide (-1000≤x∧x≤1000),iv (x.natAbs:Nat),[],0⟩
 | _=>none
theorem zsu:ZCtOk Try.prog 61 spSiz:=fun γ w us ax r hs hc hax hN hfz=>by
 unfold spSiz at hs;split at hs
 case h_2=>cases hs
 rename_i x;obtain ⟨rfl⟩:=Option.some.inj hs;have hc_0:decide (-1000≤x∧x≤1000)=true:=hc;have hc:=of_decide_eq_true hc_0;exact EndZ.calls (RSiz.ends hc) (.nil _) (by kernel_rfl) hax hN hfz
end
section
def gR (g:List (List Int)):List (List U):=g.map fun l=>[U.l (l.map fun x=>[U.i x])]
theorem zf6 (g:List (List Int)):(gR g).length=g.length:=List.length_map ..
theorem zyd (g h:List (List Int)):gR (g++h)=gR g++gR h:=List.map_append
theorem zqp {g:List (List Int)} {k:Nat} (hk:k<g.length):List.map (fun r=>U.int (List.headD r (U.i (0:Int)))) (U.list (List.getD (List.getD (gR g) k []) 0 (U.i 0)))=g.getD k []:=by
 have e:(gR g).getD k []=[U.l ((g.getD k []).map fun x=>[U.i x])]:=by
  unfold gR;rw [List.getD_eq_getElem?_getD,List.getElem?_map,List.getElem?_eq_getElem hk,zag hk];rfl
 rw [e];show List.map _ (List.map _ (g.getD k []))=_;rw [List.map_map];exact List.map_id _
theorem zms (g:List (List Int)) (k:Nat) (l:List Int):(gR g).set k [U.l (l.map fun x=>[U.i x])]=gR (g.set k l):=by
 unfold gR;rw [List.map_set]
def actS (g:List (List Int)) (x:Int):List (List Int):=if 0<x then (g.set (x.natAbs-1) (redF (g.getD (x.natAbs-1) []++g.getD x.natAbs []++invW (g.getD (x.natAbs-1) [])))).set x.natAbs (g.getD (x.natAbs-1) []) else (g.set (x.natAbs-1) (g.getD x.natAbs [])).set x.natAbs (redF (invW (g.getD x.natAbs [])++g.getD (x.natAbs-1) []++g.getD x.natAbs []))
def sumG (g:List (List Int)):Nat:=(g.map List.length).sum
def actG (m:Nat):List Int→List (List Int)→Option (List (List Int))
 | [],g=>some g
 | x::w,g=>if m<sumG (actS g x) then none else actG m w (actS g x)
def idG (n:Nat):List (List Int):=(List.range n).map fun i=>[((i+1:Nat):Int)]
theorem zto (n:Nat):idG (n+1)=idG n++[[((n+1:Nat):Int)]]:=by unfold idG;rw [List.range_succ,List.map_append];rfl
theorem zf4 (n:Nat):(idG n).length=n:=by unfold idG;rw [List.length_map,List.length_range]
def SmG (g:List (List Int)):Prop:=∀ l,l∈g→∀ x,x∈l → -1000≤x∧x≤1000
theorem zfd {g:List (List Int)} (h:SmG g) (k:Nat):∀ x,x∈g.getD k [] → -1000≤x∧x≤1000:=fun x hx=>by
 by_cases hk:k<g.length
 ·rw [zag hk] at hx;exact h _ (List.getElem_mem hk) x hx
 ·rw [List.getD_eq_getElem?_getD,List.getElem?_eq_none (by omega)] at hx;cases hx
theorem zec {l:List Int} (h:∀ x,x∈l → -1000≤x∧x≤1000):∀ x,x∈invW l → -1000≤x∧x≤1000:=fun x hx=>by
 obtain ⟨y,hy,rfl⟩:=List.mem_map.1 (List.mem_reverse.1 hx);have:=h y hy;omega
theorem zdn {a b c:List Int} (ha:∀ x,x∈a → -1000≤x∧x≤1000) (hb:∀ x,x∈b → -1000≤x∧x≤1000) (hc:∀ x,x∈c → -1000≤x∧x≤1000):∀ x,x∈a++b++c → -1000≤x∧x≤1000:=fun x hx=>by
 rcases List.mem_append.1 hx with h|h
 ·exact (List.mem_append.1 h).elim (ha x) (hb x)
 ·exact hc x h
theorem zd2 {g:List (List Int)} (h:SmG g) {k:Nat} {l:List Int} (hl:∀ x,x∈l → -1000≤x∧x≤1000):SmG (g.set k l):=fun l' h'=>by
 rcases List.mem_or_eq_of_mem_set h' with h'|rfl
 ·exact h l' h'
 ·exact hl
theorem zrt {g:List (List Int)} (h:SmG g) (x:Int):SmG (actS g x):=by
 have ha:=zfd h (x.natAbs-1);have hb:=zfd h x.natAbs;unfold actS;split
 ·exact zd2 (zd2 h fun y hy=>zdn ha hb (zec ha) y (zl0 hy)) ha
 ·exact zd2 (zd2 h hb) fun y hy=>zdn (zec hb) ha hb y (zl0 hy)
theorem za2 (g:List (List Int)) (x:Int):(actS g x).length=g.length:=by
 unfold actS;split <;> rw [List.length_set,List.length_set]
theorem zkl:∀ {g:List (List Int)} {l:List Int},l∈g→l.length≤sumG g
 | [],_,h=>by cases h
 | a::g,l,h=>by
  show _≤a.length+sumG g;rcases List.mem_cons.1 h with rfl|h
  ·omega
  ·have:=zkl h;omega
theorem zee {g:List (List Int)} {m:Nat} (h:∀ l,l∈g→l.length≤m) (k:Nat):(g.getD k []).length≤m:=by
 by_cases hk:k<g.length
 ·rw [zag hk];exact h _ (List.getElem_mem hk)
 ·rw [List.getD_eq_getElem?_getD,List.getElem?_eq_none (by omega)];exact Nat.zero_le _
noncomputable def actV (o:Option (List (List Int))):EV:=.tup [.lst (.recs [.list [.int .i64]] (gR (o.getD []))),bv o.isSome]
def ActOk (n:Int) (w:List Int) (m:Int):Prop:=1≤n∧n≤12∧Vld n.toNat w∧w.length≤2000∧0≤m∧m≤4000
noncomputable instance ActOk.dec (n:Int) (w:List Int) (m:Int):Decidable (ActOk n w m):=Classical.propDecidable _
noncomputable def ctAct:Tr ZCC:=((Tr.nil.put 61 (some (dC spSiz))).put 63 (some (dC spRIvs))).put 62 (some (dC spRPrd))
theorem zb1:ZCtsOk Try.prog ctAct:=(((ZCtsOk.nil _).add rfl zsu).add rfl zo7).add rfl zo6
namespace RAct
noncomputable def RUN (s:ES):ZF:=RZs 23 ctAct [(atS 0 23 3,[[(0,none),(1,none),(2,none),(8,some (1,22,.recs [.list [.int .i64]] [])),(9,none)]]),(atS 0 23 7,[[(0,none),(1,none),(2,none),(8,some (1,22,.recs [.list [.int .i64]] [])),(10,none)]]),(atS 0 23 11,[[(0,none),(1,none),(2,none),(8,none),(10,none),(11,none),(12,none),(13,none)]]),(atS 0 23 14,[[(0,none),(1,none),(2,none),(8,none),(10,none)]]),(atS 0 23 16,[[(0,none),(1,none),(2,none),(8,none),(10,none),(14,none),(15,none)]])] [] false s
noncomputable def sA (n:Int) (w:List Int) (m:Int) (g:List (List U)) (y:Nat) (nn:Bool) (i:Int):NS:=⟨[⟨23,94,[(0,(iv n)),(1,(il w)),(2,(iv m)),(8,EV.slO 0 1 y nn),(9,iv i)],[.it (.code (nav [1,1,0,1,0,0,0] (bodyOf Try.f23))),.it (.code (nav [1,1,0,1,0,0,1] (bodyOf Try.f23))),.it (.inLoop (nav [1,1,0,1,0,0] (bodyOf Try.f23))),.it (.inBlock 0),.it (.code (nav [1,1,1] (bodyOf Try.f23)))],[],Option.none⟩],[(0,EK.seq 22 (.recs [.list [.int .i64]] g) nn)],1⟩
noncomputable def sB (n:Int) (w:List Int) (m:Int) (g:List (List U)) (y:Nat) (nn:Bool) (i:Int):NS:=⟨[⟨23,94,[(0,iv n),(1,(il w)),(2,(iv m)),(8,(EV.slO 0 1 y nn)),(10,iv i)],[.it (.code (nav [1,1,1,0,1,0,0,0] (bodyOf Try.f23))),.it (.code (nav [1,1,1,0,1,0,0,1] (bodyOf Try.f23))),.it (.inLoop (nav [1,1,1,0,1,0,0] (bodyOf Try.f23))),.it (.inBlock 2),.it (.code (nav [1,1,1,1] (bodyOf Try.f23)))],[],Option.none⟩],[(0,(EK.seq 22 (SyC.recs [(Sh.list [(Sh.int IntKind.i64)])] g) nn))],1⟩
noncomputable def sK (n:Int) (w:List Int) (m:Int) (g:List (List U)) (y:Nat) (nn:Bool) (i k:Int) (a b:List Int):NS:=⟨[⟨23,94,[(0,iv n),(1,il w),(2,(iv m)),(8,EV.slO 0 1 y nn),(10,iv i),(11,iv k),(12,il a),(13,il b)],[.it (.code (nav [1,1,1,0,1,0,0,1,0,0,1,1,0] (bodyOf Try.f23))),.it (.code (nav [1,1,1,0,1,0,0,1,0,0,1,1,1] (bodyOf Try.f23))),.it (.inBlock 3),.it (.code (nav [1,1,1,0,1,0,0,1,1] (bodyOf Try.f23))),.it (.inLoop (nav [1,1,1,0,1,0,0] (bodyOf Try.f23))),.it (.inBlock 2),.it (.code (nav [1,1,1,1] (bodyOf Try.f23)))],[],Option.none⟩],[(0,EK.seq 22 (.recs [.list [.int .i64]] g) nn)],1⟩
noncomputable def sS (n:Int) (w:List Int) (m:Int) (g:List (List U)) (y:Nat) (nn:Bool) (i:Int):NS:=⟨[⟨23,94,[(0,iv n),(1,il w),(2,(iv m)),(8,EV.slO 0 1 y nn),(10,iv i)],[.it (.code (nav [1,1,1,0,1,0,0,1,0,0,1,1,1] (bodyOf Try.f23))),.it (.inBlock 3),.it (.code (nav [1,1,1,0,1,0,0,1,1] (bodyOf Try.f23))),.it (.inLoop (nav [1,1,1,0,1,0,0] (bodyOf Try.f23))),.it (.inBlock 2),.it (.code (nav [1,1,1,1] (bodyOf Try.f23)))],[],Option.none⟩],[(0,EK.seq 22 (.recs [.list [.int .i64]] g) nn)],1⟩
noncomputable def sJ (n:Int) (w:List Int) (m:Int) (g:List (List U)) (y:Nat) (nn:Bool) (i z j:Int):NS:=⟨[⟨23,94,[(0,(iv n)),(1,(il w)),(2,(iv m)),(8,(EV.slO 0 1 y nn)),(10,(iv i)),(14,iv z),(15,iv j)],[.it (.code (nav [1,1,1,0,1,0,0,1,0,0,1,1,1,1,0,1,0,0,0] (bodyOf Try.f23))),.it (.code (nav [1,1,1,0,1,0,0,1,0,0,1,1,1,1,0,1,0,0,1] (bodyOf Try.f23))),.it (.inLoop (nav [1,1,1,0,1,0,0,1,0,0,1,1,1,1,0,1,0,0] (bodyOf Try.f23))),.it (.inBlock 4),.it (.code (nav [1,1,1,0,1,0,0,1,0,0,1,1,1,1,1] (bodyOf Try.f23))),.it (.inBlock 3),.it (.code (nav [1,1,1,0,1,0,0,1,1] (bodyOf Try.f23))),.it (.inLoop (nav [1,1,1,0,1,0,0] (bodyOf Try.f23))),.it (.inBlock 2),.it (.code (nav [1,1,1,1] (bodyOf Try.f23)))],[],Option.none⟩],[(0,(EK.seq 22 (SyC.recs [(Sh.list [(Sh.int IntKind.i64)])] g) nn))],1⟩
theorem in_t (n:Int) (w:List Int) (m:Int):RUN (st0 23 [iv n,il w,iv m])=(.at (sA n w m [] (0) false 0)):=by kernel_rfl
theorem a_t (n:Int) (w:List Int) (m:Int) (g:List (List U)) (y:Nat) (nn:Bool) (i:Int):RUN (stOf (sA n w m g y nn i))=(bc (decide (i<n)) (bc (bc (Nat.beq y g.length) (bc (Nat.ble (y+[[U.l (List.map (fun x=>[U.i x]) ([IntKind.i64.wrap (i+1)]))]].length) 65536) (bc nn true (bc nn false true)) false) false) (.at (sA n w m (g++[[U.l (List.map (fun x=>[U.i x]) ([IntKind.i64.wrap (i+1)]))]]) (g++[[U.l (List.map (fun x=>[U.i x]) ([IntKind.i64.wrap (i+1)]))]]).length (bc nn true (Nat.blt 0 [[U.l (List.map (fun x=>[U.i x]) ([IntKind.i64.wrap (i+1)]))]].length)) (IntKind.i64.wrap (i+1)))) .bad) (.at (sB n w m g y nn 0))):=by kernel_rfl
theorem b_t (n:Int) (w:List Int) (m:Int) (g:List (List U)) (y:Nat) (nn:Bool) (i:Int):RUN (stOf (sB n w m g y nn i))=(bc (decide (i<Int.ofNat w.length)) (bc (bc (bc (decide (0≤i)) (Nat.blt i.toNat w.length) false) true false) (bc (bc (Nat.blt i.toNat w.length) true false) (bc (bc (decide ((-1000:Int)≤w.getD i.toNat 0∧w.getD i.toNat 0≤1000)) true false) (bc (bc (bc (bc (bc (decide (0≤IntKind.i64.wrap ((Nat.cast (Int.natAbs (w.getD i.toNat 0)):Int)-(1:Int)))) (Nat.blt (IntKind.i64.wrap ((Nat.cast (Int.natAbs (w.getD i.toNat 0)):Int)-(1:Int))).toNat y) false) true false) (bc (bc (Nat.blt (IntKind.i64.wrap ((Nat.cast (Int.natAbs (w.getD i.toNat 0)):Int)-(1:Int))).toNat g.length) true false) (bc (bc (Nat.blt (Nat.cast (Int.natAbs (w.getD i.toNat 0)):Int).toNat y) true false) (bc (bc (Nat.blt (Nat.cast (Int.natAbs (w.getD i.toNat 0)):Int).toNat g.length) true false) true false) false) false) false) true false) (.at (sK n w m g y nn i ((Nat.cast (Int.natAbs (w.getD i.toNat 0)):Int)) (List.map (fun r=>U.int (List.headD r (U.i 0))) (U.list ((g.getD (IntKind.i64.wrap ((Nat.cast (Int.natAbs (w.getD i.toNat 0)):Int)-(1:Int))).toNat []).getD 0 (U.i 0)))) (List.map (fun r=>U.int (List.headD r (U.i 0))) (U.list ((g.getD (Nat.cast (Int.natAbs (w.getD i.toNat 0)):Int).toNat []).getD 0 (U.i 0)))))) .bad) .bad) .bad) .bad) (bc (bc (Nat.beq y g.length) true false) (.done (EV.tup [(EV.lst (SyC.recs [(Sh.list [(Sh.int IntKind.i64)])] g)),(bv true)]) [] 0) .bad)):=by kernel_rfl
theorem k_t (n:Int) (w:List Int) (m:Int) (g:List (List U)) (y:Nat) (nn:Bool) (i k:Int) (a b:List Int):RUN (stOf (sK n w m g y nn i k a b))=(bc (bc (bc (decide (0≤i)) (Nat.blt i.toNat w.length) false) true false) (bc (bc (Nat.blt i.toNat w.length) true false) (bc (decide (0<w.getD i.toNat 0)) (bc (decide (RedOk a)) (bc (decide (RedOk (a++b++invW a))) (bc (bc (bc (decide (0≤IntKind.i64.wrap (k-(1:Int)))) (Nat.blt (IntKind.i64.wrap (k-(1:Int))).toNat y) false) true false) (bc (Nat.blt (IntKind.i64.wrap (k-(1:Int))).toNat g.length) (bc (bc (bc (decide (0≤k)) (Nat.blt k.toNat y) false) true false) (bc (Nat.blt k.toNat (List.set g (IntKind.i64.wrap (k-(1:Int))).toNat [U.l (List.map (fun x=>[U.i x]) (redF (a++b++invW a)))]).length) (.at (sS n w m (List.set (List.set g (IntKind.i64.wrap (k-(1:Int))).toNat [U.l (List.map (fun x=>[U.i x]) (redF (a++b++invW a)))]) k.toNat [U.l (List.map (fun x=>[U.i x]) a)]) y nn i)) .bad) .bad) .bad) .bad) .bad) .bad) (bc (decide (RedOk b)) (bc (decide (RedOk (invW b++a++b))) (bc (bc (bc (decide (0≤IntKind.i64.wrap (k-(1:Int)))) (Nat.blt (IntKind.i64.wrap (k-(1:Int))).toNat y) false) true false) (bc (Nat.blt (IntKind.i64.wrap (k-(1:Int))).toNat g.length) (bc (bc (bc (decide (0≤k)) (Nat.blt k.toNat y) false) true false) (bc (Nat.blt k.toNat (List.set g (IntKind.i64.wrap (k-(1:Int))).toNat [U.l (List.map (fun x=>[U.i x]) b)]).length) (.at (sS n w m (List.set (List.set g (IntKind.i64.wrap (k-(1:Int))).toNat [U.l (List.map (fun x=>[U.i x]) b)]) k.toNat [U.l (List.map (fun x=>[U.i x]) (redF (invW b++a++b)))]) y nn i)) .bad) .bad) .bad) .bad) .bad) .bad)) .bad) .bad):=by kernel_rfl
theorem s_t (n:Int) (w:List Int) (m:Int) (g:List (List U)) (y:Nat) (nn:Bool) (i:Int):RUN (stOf (sS n w m g y nn i))=(.at (sJ n w m g y nn i 0 0)):=by kernel_rfl
theorem j_t (n:Int) (w:List Int) (m:Int) (g:List (List U)) (y:Nat) (nn:Bool) (i z j:Int):RUN (stOf (sJ n w m g y nn i z j))=(bc (decide (j<n)) (bc (bc (bc (decide (0≤j)) (Nat.blt j.toNat y) false) true false) (bc (bc (Nat.blt j.toNat g.length) true false) (.at (sJ n w m g y nn i (IntKind.i64.wrap (z+Int.ofNat (List.map (fun r=>U.int (List.headD r (U.i 0))) (U.list ((g.getD j.toNat []).getD 0 (U.i 0)))).length)) (IntKind.i64.wrap (j+1)))) .bad) .bad) (bc (decide (m<z)) (.done (EV.tup [(EV.v (Value.slice Option.none 0 0)),(bv false)]) [] 0) (.at (sB n w m g y nn (IntKind.i64.wrap (i+1)))))):=by kernel_rfl
variable {n m:Nat} {w:List Int}
theorem loopJ {g:List (List Int)} {nn:Bool} {i:Nat} {R:EV} (hn:n≤12) (hg:g.length=n) (hl:∀ l,l∈g→l.length≤12000)
  (H:EndZ 23 ctAct false (stOf (sJ n w m (gR g) n nn i (sumG g:Nat) n)) R [] 0):∀ (d j:Nat),j+d=n→EndZ 23 ctAct false (stOf (sJ n w m (gR g) n nn i (sumG (g.take j):Nat) j)) R [] 0
 | 0,j,hj=>by
  obtain rfl:j=n:=by omega
  rw [List.take_of_length_le (by omega)];exact H
 | d+1,j,hj=>by
  have q:=j_t n w m (gR g) n nn i (sumG (g.take j):Nat) j;have hjg:j<g.length:=by omega
  have e0:Int.toNat (j:Int)=j:=rfl;have hgl:=zee hl j;have es:sumG (g.take (j+1))=sumG (g.take j)+(g.getD j []).length:=by
   rw [List.take_succ_eq_append_getElem hjg,zag hjg];unfold sumG;rw [List.map_append,List.sum_append];simp
  have hb:∀ (q:List (List Int)),(∀ l,l∈q→l.length≤12000)→sumG q≤12000*q.length:=fun q=>by
   induction q with
   | nil=>intro _;exact Nat.le_refl _
   | cons a q ih=>
    intro h;have h1:=h a List.mem_cons_self;have h2:=ih fun l hl=>h l (List.mem_cons_of_mem _ hl);show a.length+sumG q≤12000*(q.length+1);omega
  have hs:=hb (g.take j) fun l h=>hl l (List.mem_of_mem_take h);rw [List.length_take] at hs;have w1:IntKind.wrap IntKind.i64 (((sumG (g.take j):Nat):Int)+Int.ofNat (g.getD j []).length)=((sumG (g.take (j+1)):Nat):Int):=by
   rw [ofn,zae _ (by omega) (by omega),es];omega
  have w4:IntKind.wrap IntKind.i64 ((j:Int)+1)=((j+1:Nat):Int):=by rw [zae _ (by omega) (by omega)];omega
  rw [e0,zqp hjg,w1,w4,zf6,hg] at q;simp (disch:=omega) only [yS] at q;exact .at zb1 q (loopJ hn hg hl H d (j+1) (by omega))
theorem stepK {g:List (List Int)} {nn:Bool} {i:Nat} (hn:n≤12) (hw:w.length≤2000) (hg:g.length=n) (hs:SmG g) (hl:∀ l,l∈g→l.length≤4000) (hi:i<w.length) (hx:0<(w.getD i 0).natAbs∧(w.getD i 0).natAbs<n):RUN (stOf (sK n w m (gR g) n nn i ((w.getD i 0).natAbs:Nat) (g.getD ((w.getD i 0).natAbs-1) []) (g.getD (w.getD i 0).natAbs []))) = .at (sS n w m (gR (actS g (w.getD i 0))) n nn i):=by
 have q:=k_t n w m (gR g) n nn i ((w.getD i 0).natAbs:Nat) (g.getD ((w.getD i 0).natAbs-1) []) (g.getD (w.getD i 0).natAbs []);have e0:∀ x:Nat,Int.toNat (x:Int)=x:=fun _=>rfl;have w1:IntKind.wrap IntKind.i64 (((w.getD i 0).natAbs:Nat)-1:Int)=(((w.getD i 0).natAbs-1:Nat):Int):=by rw [zae _ (by omega) (by omega)];omega
 have ha:=zfd hs ((w.getD i 0).natAbs-1);have hb:=zfd hs (w.getD i 0).natAbs;have la:=zee hl ((w.getD i 0).natAbs-1);have lb:=zee hl (w.getD i 0).natAbs
 have eA:actS g (w.getD i 0)=if 0<w.getD i 0 then (g.set ((w.getD i 0).natAbs-1) (redF (g.getD ((w.getD i 0).natAbs-1) []++g.getD (w.getD i 0).natAbs []++invW (g.getD ((w.getD i 0).natAbs-1) [])))).set (w.getD i 0).natAbs (g.getD ((w.getD i 0).natAbs-1) []) else (g.set ((w.getD i 0).natAbs-1) (g.getD (w.getD i 0).natAbs [])).set (w.getD i 0).natAbs (redF (invW (g.getD (w.getD i 0).natAbs [])++g.getD ((w.getD i 0).natAbs-1) []++g.getD (w.getD i 0).natAbs [])):=rfl
 rw [w1,e0,e0,e0,zms,zms,zms,zms] at q;simp only [zf6,List.length_set,hg] at q;generalize hk:(w.getD i 0).natAbs=k at *;generalize hA:g.getD (k-1) []=a at *;generalize hB:g.getD k []=b at *;have r1:RedOk a:=⟨by omega,ha⟩;have r2:RedOk b:=⟨by omega,hb⟩;have r3:RedOk (a++b++invW a):=⟨by rw [List.length_append,List.length_append,zed];omega,zdn ha hb (zec ha)⟩;have r4:RedOk (invW b++a++b):=⟨by rw [List.length_append,List.length_append,zed];omega,zdn (zec hb) ha hb⟩
 rw [dt r1,dt r2,dt r3,dt r4] at q
 by_cases c:0<w.getD i 0
 ·rw [if_pos c] at eA;rw [dt c] at q;simp (disch:=omega) only [yS] at q;rw [eA];exact q
 ·rw [if_neg c] at eA;rw [df c] at q;simp (disch:=omega) only [yS] at q;rw [eA];exact q
theorem zun {g:List (List Int)} (h:∀ l,l∈g→l.length≤4000) (x:Int):∀ l,l∈actS g x→l.length≤12000:=fun l hl=>by
 have la:=zee h (x.natAbs-1);have lb:=zee h x.natAbs;unfold actS at hl;split at hl
 ·rcases List.mem_or_eq_of_mem_set hl with hl|rfl
  ·rcases List.mem_or_eq_of_mem_set hl with hl|rfl
   ·have:=h l hl;omega
   ·refine Nat.le_trans (zl1 _) ?_;rw [List.length_append,List.length_append,zed];omega
  ·omega
 ·rcases List.mem_or_eq_of_mem_set hl with hl|rfl
  ·rcases List.mem_or_eq_of_mem_set hl with hl|rfl
   ·have:=h l hl;omega
   ·omega
  ·refine Nat.le_trans (zl1 _) ?_;rw [List.length_append,List.length_append,zed];omega
theorem loopB (hn:n≤12) (hw:w.length≤2000) (hv:Vld n w) (hm:m≤4000):∀ (d i:Nat) (g:List (List Int)) (nn:Bool),i+d=w.length→g.length=n→SmG g→(∀ l,l∈g→l.length≤4000)→EndZ 23 ctAct false (stOf (sB n w m (gR g) n nn i)) (actV (actG m (w.drop i) g)) [] 0
 | 0,i,g,nn,hi,hg,hs,hl=>by
  obtain rfl:i=w.length:=by omega
  have q:=b_t n w m (gR g) n nn w.length;rw [df (show ¬ (w.length:Int)<Int.ofNat w.length by rw [ofn];omega),bc_f,zf6,hg] at q;simp (disch:=omega) only [yS] at q;rw [List.drop_length];exact .done q
 | d+1,i,g,nn,hi,hg,hs,hl=>by
  have hiw:i<w.length:=by omega
  have hx:0<(w.getD i 0).natAbs∧(w.getD i 0).natAbs<n:=(show Vld n [w.getD i 0] from fun x hx=>by
   rw [List.mem_singleton.1 hx,zag hiw];exact hv _ (List.getElem_mem _)).head
  have q:=b_t n w m (gR g) n nn i;have e0:∀ x:Nat,Int.toNat (x:Int)=x:=fun _=>rfl;have w1:IntKind.wrap IntKind.i64 (((w.getD i 0).natAbs:Nat)-1:Int)=(((w.getD i 0).natAbs-1:Nat):Int):=by rw [zae _ (by omega) (by omega)];omega
  rw [e0,w1,e0,e0,zqp (show (w.getD i 0).natAbs-1<g.length by omega),zqp (show (w.getD i 0).natAbs<g.length by omega),zf6,hg,dt (show -1000≤w.getD i 0∧w.getD i 0≤1000 by omega)] at q;simp (disch:=omega) only [yS] at q
  refine .at zb1 q (.at zb1 (stepK (m:=m) hn hw hg hs hl hiw hx) (.at zb1 (s_t n w m (gR (actS g (w.getD i 0))) n nn i) ?_));have hg':(actS g (w.getD i 0)).length=n:=by rw [za2];exact hg
  have ed:w.drop i=w.getD i 0::w.drop (i+1):=by rw [zag hiw];exact List.drop_eq_getElem_cons hiw
  have eV:actG m (w.drop i) g=if m<sumG (actS g (w.getD i 0)) then none else actG m (w.drop (i+1)) (actS g (w.getD i 0)):=by rw [ed];rfl
  refine loopJ (i:=i) (nn:=nn) hn hg' (zun hl _) ?_ n 0 (by omega);have j:=j_t n w m (gR (actS g (w.getD i 0))) n nn i (sumG (actS g (w.getD i 0)):Nat) n;have w4:IntKind.wrap IntKind.i64 ((i:Int)+1)=((i+1:Nat):Int):=by rw [zae _ (by omega) (by omega)];omega
  rw [df (show ¬ (n:Int)<(n:Int) by omega),bc_f,w4] at j
  by_cases c:m<sumG (actS g (w.getD i 0))
  ·rw [dt (show (m:Int)<((sumG (actS g (w.getD i 0)):Nat):Int) by omega),bc_t] at j;rw [eV,if_pos c];exact (EndZ.done j).weak (.tup (.cons (Weak.nil _) (.cons (.refl _) .nil)))
  ·rw [df (show ¬ (m:Int)<((sumG (actS g (w.getD i 0)):Nat):Int) by omega),bc_f] at j;rw [eV,if_neg c];exact .at zb1 j (loopB hn hw hv hm d (i+1) _ nn (by omega) hg' (zrt hs _) fun l h=>by have:=zkl h;omega)
theorem idG_small {n:Nat} (hn:n≤12):SmG (idG n)∧∀ l,l∈idG n→l.length≤4000:=by
 constructor
 ·intro l hl x hx;obtain ⟨i,hi,rfl⟩:=List.mem_map.1 hl;have:=List.mem_range.1 hi;obtain rfl:=List.mem_singleton.1 hx;omega
 ·intro l hl;obtain ⟨i,hi,rfl⟩:=List.mem_map.1 hl;exact (by decide:1≤4000)
theorem loopA (hn:n≤12) (hw:w.length≤2000) (hv:Vld n w) (hm:m≤4000):∀ (d i:Nat) (nn:Bool),i+d=n→EndZ 23 ctAct false (stOf (sA n w m (gR (idG i)) i nn i)) (actV (actG m w (idG n))) [] 0
 | 0,i,nn,hi=>by
  obtain rfl:i=n:=by omega
  have q:=a_t i w m (gR (idG i)) i nn i;rw [df (show ¬ (i:Int)<(i:Int) by omega),bc_f] at q;obtain ⟨h1,h2⟩:=idG_small hn;exact .at zb1 q (loopB hn hw hv hm w.length 0 (idG i) nn (by omega) (zf4 i) h1 h2)
 | d+1,i,nn,hi=>by
  have q:=a_t i w m (gR (idG i)) i nn i;have q:=a_t n w m (gR (idG i)) i nn i;have w4:IntKind.wrap IntKind.i64 ((i:Int)+1)=((i+1:Nat):Int):=by rw [zae _ (by omega) (by omega)];omega
  have e:gR (idG i)++[[U.l (List.map (fun x=>[U.i x]) ([((i+1:Nat):Int)]))]]=gR (idG (i+1)):=by rw [zto,zyd];rfl
  have w1:bc nn true (Nat.blt 0 (List.length [[U.l (List.map (fun x=>[U.i x]) ([((i+1:Nat):Int)]))]]))=true:=by cases nn <;> rfl
  have w2:bc nn true (bc nn false true)=true:=by cases nn <;> rfl
  have l1:List.length [[U.l (List.map (fun x=>[U.i x]) ([((i+1:Nat):Int)]))]]=1:=rfl;rw [w4,e,w1,w2,l1,zf6,zf6,zf4,zf4,dt (show (i:Int)<(n:Int) by omega),bc_t] at q
  simp (disch:=omega) only [yS] at q;exact .at zb1 q (loopA hn hw hv hm d (i+1) true (by omega))
theorem ends {n:Int} {w:List Int} {m:Int} (h:ActOk n w m):EndZ 23 ctAct false (st0 23 [iv n,il w,iv m]) (actV (actG m.toNat w (idG n.toNat))) [] 0:=by
 obtain ⟨h1,h2,h3,h4,h5,h6⟩:=h;obtain ⟨n,rfl⟩:=Int.eq_ofNat_of_zero_le (show 0≤n by omega);obtain ⟨m,rfl⟩:=Int.eq_ofNat_of_zero_le h5;exact .at zb1 (in_t n w m) (loopA (by omega) h4 h3 (by omega) n 0 false (by omega))
end RAct
noncomputable def spAct:ZCT:=fun ax=>match ax with
 | [.v (.int .i64 n),.lst (.ints .i64 w),.v (.int .i64 m)]=>some ⟨decide (ActOk n w m),actV (actG m.toNat w (idG n.toNat)),[],0⟩
 | _=>none
theorem zs2:ZCtOk Try.prog 23 spAct:=fun γ w us ax r hs hc hax hN hfz=>by
 unfold spAct at hs;split at hs
 case h_2=>cases hs
 rename_i n w m;obtain ⟨rfl⟩:=Option.some.inj hs;have hc_0:decide (ActOk n w m)=true:=hc;have hc:=of_decide_eq_true hc_0;exact EndZ.calls (RAct.ends hc) zb1 (by kernel_rfl) hax hN hfz
end
def RS:List Int→Prop
 | []=>True
 | [_]=>True
 | x::y::s=>y ≠ -x∧RS (y::s)
theorem RS.tl {x:Int} {s:List Int} (h:RS (x::s)):RS s:=by
 cases s with
 | nil=>trivial
 | cons y s=>exact h.2
theorem rs_fg {s:List Int} (h:RS s) (x:Int):RS (fgR s x):=by
 cases s with
 | nil=>trivial
 | cons y s=>
  show RS (if y = -x then s else x::y::s)
  split
  ·exact h.tl
  ·exact ⟨by assumption,h⟩
theorem zpl:∀ (w:List Int) {s:List Int},RS s→RS (w.foldl fgR s)
 | [],_,h=>h
 | x::w,_,h=>zpl w (rs_fg h x)
theorem zwx {s:List Int} (h:RS s) (x:Int):fgR (fgR s x) (-x)=s:=by
 cases s with
 | nil=>
  show (if x = - -x then [] else [-x,x])=[]
  rw [if_pos (by omega)]
 | cons y s=>
  show fgR (if y = -x then s else x::y::s) (-x)=y::s
  by_cases c:y = -x
  ·rw [if_pos c]
   cases s with
   | nil=>subst c;rfl
   | cons z s=>
    have h1:z ≠ -y:=h.1;show (if z = - -x then s else -x::z::s)=y::z::s
    rw [if_neg (by omega),c]
  ·rw [if_neg c];show (if x = - -x then y::s else -x::x::y::s)=y::s
   rw [if_pos (by omega)]
def Fe (u v:List Int):Prop:=∀ s,RS s→u.foldl fgR s=v.foldl fgR s
theorem Fe.refl (u:List Int):Fe u u:=fun _ _=>rfl
theorem Fe.symm {u v:List Int} (h:Fe u v):Fe v u:=fun s k=>(h s k).symm
theorem Fe.trans {u v w:List Int} (h:Fe u v) (k:Fe v w):Fe u w:=fun s q=>(h s q).trans (k s q)
theorem Fe.app {u v x y:List Int} (h:Fe u v) (k:Fe x y):Fe (u++x) (v++y):=fun s q=>by
 rw [List.foldl_append,List.foldl_append,h s q,k _ (zpl v q)]
theorem zqv (x:Int):Fe [x,-x] []:=fun _ q=>zwx q x
theorem zts {x y:Int} (h:x = -y):Fe [x,y] []:=by
 have:=zqv x
 rwa [show -x=y by omega] at this
theorem zmx:∀ (w:List Int) (s:List Int),Fe (w.foldl fgR s).reverse (s.reverse++w)
 | [],s=>by rw [List.append_nil];exact .refl _
 | x::w,s=>by
  refine (zmx w (fgR s x)).trans ?_;rw [show x::w=[x]++w from rfl,← List.append_assoc]
  refine Fe.app ?_ (.refl w)
  cases s with
  | nil=>exact .refl _
  | cons y s=>
   show Fe (if y = -x then s else x::y::s).reverse _
   split
   ·rw [List.reverse_cons,List.append_assoc];have:=(Fe.refl s.reverse).app (zts (x:=y) (y:=x) (by assumption)).symm
    rwa [List.append_nil] at this
   ·rw [List.reverse_cons];exact .refl _
theorem zgb (w:List Int):Fe (redF w) w:=zmx w []
theorem zlz {u v:List Int} (h:Fe u v):redF u=redF v:=by
 unfold redF;rw [h [] trivial]
theorem zi0 (w:List Int):redF (redF w)=redF w:=zlz (zgb w)
theorem zgc:∀ a:List Int,Fe (a++invW a) []
 | []=>.refl _
 | x::a=>by
  have e:(x::a)++invW (x::a)=[x]++((a++invW a)++[-x]):=by
   unfold invW;rw [List.map_cons,List.reverse_cons,List.cons_append,List.append_assoc];rfl
  rw [e];exact ((Fe.refl [x]).app ((zgc a).app (.refl [-x]))).trans (zqv x)
theorem zqw (a:List Int):Fe (invW a++a) []:=by
 have:=zgc (invW a)
 rwa [zf2] at this
theorem fe_c1 (a v:List Int):Fe (a++(invW a++v)) v:=by
 rw [← List.append_assoc];exact (zgc a).app (.refl v)
theorem fe_c2 (a v:List Int):Fe (invW a++(a++v)) v:=by
 rw [← List.append_assoc];exact (zqw a).app (.refl v)
theorem Fe.inv {u v:List Int} (h:Fe u v):Fe (invW u) (invW v):=by
 have h1:Fe (invW u++(v++invW v)) (invW u):=by
  have:=(Fe.refl (invW u)).app (zgc v)
  rwa [List.append_nil] at this
 have h2:Fe (invW u++(v++invW v)) (invW v):=((Fe.refl (invW u)).app (h.symm.app (.refl (invW v)))).trans (fe_c2 u _);exact h1.symm.trans h2
theorem zmo (a b:List Int):invW (a++b)=invW b++invW a:=by
 unfold invW;rw [List.map_append,List.reverse_append]
def RdG (g:List (List Int)):Prop:=∀ l,l∈g→redF l=l
theorem RdG.get {g:List (List Int)} (h:RdG g) (k:Nat):redF (g.getD k [])=g.getD k []:=by
 by_cases hk:k<g.length
 ·rw [zag hk];exact h _ (List.getElem_mem hk)
 ·rw [List.getD_eq_getElem?_getD,List.getElem?_eq_none (by omega)];rfl
theorem RdG.set {g:List (List Int)} (h:RdG g) {k:Nat} {l:List Int} (hl:redF l=l):RdG (g.set k l):=fun l' h'=>by
 rcases List.mem_or_eq_of_mem_set h' with h'|rfl
 ·exact h l' h'
 ·exact hl
theorem RdG.act {g:List (List Int)} (h:RdG g) (x:Int):RdG (actS g x):=by
 unfold actS;split
 ·exact (h.set (zi0 _)).set (h.get _)
 ·exact (h.set (h.get _)).set (zi0 _)
def actF (w:List Int) (g:List (List Int)):List (List Int):=w.foldl actS g
theorem zbn (u v:List Int) (g:List (List Int)):actF (u++v) g=actF v (actF u g):=List.foldl_append
theorem zrv:∀ (w:List Int) {g:List (List Int)},RdG g→RdG (actF w g)
 | [],_,h=>h
 | x::w,_,h=>zrv w (h.act x)
theorem zeq:∀ (w:List Int) (g:List (List Int)),(actF w g).length=g.length
 | [],_=>rfl
 | x::w,g=>by
  show (actF w (actS g x)).length=_;rw [zeq w,za2]
theorem zep {m:Nat}:∀ {w:List Int} {g h:List (List Int)},actG m w g=some h→h=actF w g
 | [],g,h,e=>by injection e with e;exact e.symm
 | x::w,g,h,e=>by
  unfold actG at e;split at e
  ·cases e
  ·exact zep (w:=w) (g:=actS g x) e
theorem gsetG {l:List (List Int)} {i j:Nat} {v:List Int}:(l.set i v).getD j []=if j=i∧i<l.length then v else l.getD j []:=by
 rw [List.getD_eq_getElem?_getD,List.getD_eq_getElem?_getD,List.getElem?_set]
 by_cases h:i=j
 ·subst h
  by_cases h2:i<l.length
  ·simp [h2]
  ·simp [h2]
 ·rw [if_neg h,if_neg (fun e=>h e.1.symm)]
theorem zie {g h:List (List Int)} (hl:g.length=h.length) (e:∀ k,k<g.length→g.getD k []=h.getD k []):g=h:=by
 apply List.ext_getElem hl;intro k h1 h2;have:=e k h1
 rwa [zag h1,zag h2] at this
def aL (x:Int) (a b:List Int):List Int:=if 0<x then redF (a++b++invW a) else b
def aR (x:Int) (a b:List Int):List Int:=if 0<x then a else redF (invW b++a++b)
theorem zcw {g:List (List Int)} {x:Int} (hx:0<x.natAbs∧x.natAbs<g.length) (k:Nat):(actS g x).getD k []=if k+1=x.natAbs then aL x (g.getD (x.natAbs-1) []) (g.getD x.natAbs []) else if k=x.natAbs then aR x (g.getD (x.natAbs-1) []) (g.getD x.natAbs []) else g.getD k []:=by
 unfold actS aL aR
 by_cases c:0<x
 ·rw [if_pos c,if_pos c,if_pos c,gsetG,gsetG,List.length_set]
  by_cases k1:k=x.natAbs
  ·rw [if_pos ⟨k1,hx.2⟩,if_neg (by omega),if_pos k1]
  ·rw [if_neg (fun e=>k1 e.1),if_neg k1]
   by_cases k2:k+1=x.natAbs
   ·rw [if_pos ⟨by omega,by omega⟩,if_pos k2]
   ·rw [if_neg (fun e=>k2 (by omega)),if_neg k2]
 ·rw [if_neg c,if_neg c,if_neg c,gsetG,gsetG,List.length_set]
  by_cases k1:k=x.natAbs
  ·rw [if_pos ⟨k1,hx.2⟩,if_neg (by omega),if_pos k1]
  ·rw [if_neg (fun e=>k1 e.1),if_neg k1]
   by_cases k2:k+1=x.natAbs
   ·rw [if_pos ⟨by omega,by omega⟩,if_pos k2]
   ·rw [if_neg (fun e=>k2 (by omega)),if_neg k2]
theorem act_L {g:List (List Int)} {x:Int} (hx:0<x.natAbs∧x.natAbs<g.length):(actS g x).getD (x.natAbs-1) []=aL x (g.getD (x.natAbs-1) []) (g.getD x.natAbs []):=by
 rw [zcw hx,if_pos (by omega)]
theorem act_R {g:List (List Int)} {x:Int} (hx:0<x.natAbs∧x.natAbs<g.length):(actS g x).getD x.natAbs []=aR x (g.getD (x.natAbs-1) []) (g.getD x.natAbs []):=by
 rw [zcw hx,if_neg (by omega),if_pos rfl]
theorem act_O {g:List (List Int)} {x:Int} (hx:0<x.natAbs∧x.natAbs<g.length) {k:Nat} (h1:k+1≠x.natAbs) (h2:k≠x.natAbs):(actS g x).getD k []=g.getD k []:=by
 rw [zcw hx,if_neg h1,if_neg h2]
theorem ztu (a b:List Int):Fe (invW a++redF (a++b++invW a)++a) b:=by
 have h1:Fe (invW a++redF (a++b++invW a)++a) (invW a++(a++b++invW a)++a):=((Fe.refl _).app (zgb _)).app (.refl _);refine h1.trans ?_;rw [List.append_assoc,List.append_assoc,List.append_assoc];refine (fe_c2 a _).trans ?_;have:=(Fe.refl b).app (zqw a)
 rwa [List.append_nil] at this
theorem ztt (a b:List Int):Fe (b++redF (invW b++a++b)++invW b) a:=by
 have h1:Fe (b++redF (invW b++a++b)++invW b) (b++(invW b++a++b)++invW b):=((Fe.refl _).app (zgb _)).app (.refl _);refine h1.trans ?_;rw [List.append_assoc,List.append_assoc,List.append_assoc];refine (fe_c1 b _).trans ?_;have:=(Fe.refl a).app (zgc b)
 rwa [List.append_nil] at this
theorem aLR {x:Int} (hx:x≠0) {a b:List Int} (ha:redF a=a) (hb:redF b=b):aL (-x) (aL x a b) (aR x a b)=a∧aR (-x) (aL x a b) (aR x a b)=b:=by
 unfold aL aR
 by_cases c:0<x
 ·rw [if_pos c,if_pos c,if_neg (by omega),if_neg (by omega)];exact ⟨rfl,(zlz (ztu a b)).trans hb⟩
 ·rw [if_neg c,if_neg c,if_pos (by omega),if_pos (by omega)];exact ⟨(zlz (ztt a b)).trans ha,rfl⟩
theorem zum {g:List (List Int)} (hr:RdG g) {x:Int} (hx:0<x.natAbs∧x.natAbs<g.length):actS (actS g x) (-x)=g:=by
 have hn:(-x).natAbs=x.natAbs:=Int.natAbs_neg x;obtain ⟨h1,h2⟩:=aLR (x:=x) (by omega) (hr.get (x.natAbs-1)) (hr.get x.natAbs);refine zie (by rw [za2,za2]) fun k _=>?_;rw [zcw (by rw [hn,za2];exact hx),hn,act_L hx,act_R hx,h1,h2]
 by_cases k1:k+1=x.natAbs
 ·rw [if_pos k1,← k1,Nat.add_sub_cancel]
 ·rw [if_neg k1]
  by_cases k2:k=x.natAbs
  ·rw [if_pos k2,k2]
  ·rw [if_neg k2,act_O hx k1 k2]
theorem zxj {g:List (List Int)} {x y:Int} (hx:0<x.natAbs) (hxy:x.natAbs+2≤y.natAbs) (hy:y.natAbs<g.length):actS (actS g x) y=actS (actS g y) x:=by
 have hx':0<x.natAbs∧x.natAbs<g.length:=⟨hx,by omega⟩;have hy':0<y.natAbs∧y.natAbs<g.length:=⟨by omega,hy⟩;refine zie (by rw [za2,za2,za2,za2]) fun k _=>?_;rw [zcw (g:=actS g x) (by rw [za2];exact hy'),zcw (g:=actS g y) (by rw [za2];exact hx')];rw [act_O (g:=g) (x:=x) hx' (k:=y.natAbs-1) (by omega) (by omega),act_O (g:=g) (x:=x) hx' (k:=y.natAbs) (by omega) (by omega)]
 rw [act_O (g:=g) (x:=y) hy' (k:=x.natAbs-1) (by omega) (by omega),act_O (g:=g) (x:=y) hy' (k:=x.natAbs) (by omega) (by omega)]
 by_cases k1:k+1=y.natAbs
 ·rw [if_pos k1,if_neg (by omega),if_neg (by omega),zcw hy',if_pos k1]
 rw [if_neg k1]
 by_cases k2:k=y.natAbs
 ·rw [if_pos k2,if_neg (by omega),if_neg (by omega),zcw hy',if_neg k1,if_pos k2]
 rw [if_neg k2,zcw hx']
 by_cases k3:k+1=x.natAbs
 ·rw [if_pos k3,if_pos k3]
 rw [if_neg k3,if_neg k3]
 by_cases k4:k=x.natAbs
 ·rw [if_pos k4,if_pos k4]
 rw [if_neg k4,if_neg k4,act_O hy' k1 k2]
theorem nat_L {g:List (List Int)} {i:Nat} (h:0<i∧i<g.length):(actS g (i:Int)).getD (i-1) []=redF (g.getD (i-1) []++g.getD i []++invW (g.getD (i-1) []))∧(actS g (i:Int)).getD i []=g.getD (i-1) []∧∀ k,k+1≠i→k≠i→(actS g (i:Int)).getD k []=g.getD k []:=by
 have e:((i:Nat):Int).natAbs=i:=Int.natAbs_natCast i;have hx:0<(i:Int).natAbs∧(i:Int).natAbs<g.length:=by rw [e];exact h
 have h1:=act_L hx;have h2:=act_R hx;have h3:=fun k=>act_O (k:=k) hx;rw [e] at h1 h2 h3;unfold aL at h1;unfold aR at h2;rw [if_pos (by omega)] at h1 h2;exact ⟨h1,h2,h3⟩
theorem zru {g:List (List Int)} {i:Nat} (hi:0<i) (hj:i+1<g.length):actS (actS (actS g (i:Int)) ((i+1:Nat):Int)) (i:Int)=actS (actS (actS g ((i+1:Nat):Int)) (i:Int)) ((i+1:Nat):Int):=by
 have l1:0<i∧i<g.length:=⟨hi,by omega⟩;have l2:0<i+1∧i+1<g.length:=⟨by omega,hj⟩;obtain ⟨a1,a2,a3⟩:=nat_L (g:=g) (i:=i) l1;obtain ⟨b1,b2,b3⟩:=nat_L (g:=actS g (i:Int)) (i:=i+1) (by rw [za2];exact l2);obtain ⟨c1,c2,c3⟩:=nat_L (g:=actS (actS g (i:Int)) ((i+1:Nat):Int)) (i:=i) (by rw [za2,za2];exact l1);obtain ⟨d1,d2,d3⟩:=nat_L (g:=g) (i:=i+1) l2;obtain ⟨e1,e2,e3⟩:=nat_L (g:=actS g ((i+1:Nat):Int)) (i:=i) (by rw [za2];exact l1)
 obtain ⟨f1,f2,f3⟩:=nat_L (g:=actS (actS g ((i+1:Nat):Int)) (i:Int)) (i:=i+1) (by rw [za2,za2];exact l2);rw [Nat.add_sub_cancel] at b1 b2 d1 d2 f1 f2;refine zie (by simp only [za2]) fun k _=>?_
 by_cases k1:k+1=i
 ·obtain rfl:k=i-1:=by omega
  rw [c1,f3 _ (by omega) (by omega),e1,b1,b3 _ (by omega) (by omega),a1,a2,a3 (i+1) (by omega) (by omega),d3 (i-1) (by omega) (by omega),d1];generalize g.getD (i-1) []=a;generalize g.getD i []=b;generalize g.getD (i+1) []=c;apply zlz;have q1:Fe (redF (a++b++invW a)++redF (a++c++invW a)++invW (redF (a++b++invW a))) ((a++b++invW a)++(a++c++invW a)++invW (a++b++invW a)):=((zgb _).app (zgb _)).app (zgb _).inv
  have q2:Fe (a++redF (b++c++invW b)++invW a) (a++(b++c++invW b)++invW a):=((Fe.refl a).app (zgb _)).app (.refl _);refine q1.trans (Fe.trans ?_ q2.symm);rw [zmo,zmo,zf2];simp only [List.append_assoc];refine (Fe.refl a).app ((Fe.refl b).app ((fe_c2 a _).trans ((Fe.refl c).app ?_)));exact fe_c2 a _
 by_cases k2:k=i
 ·subst k2;rw [c2,f1,b3 _ (by omega) (by omega),a1,e2,e3 (k+1) (by omega) (by omega),d2,d3 (k-1) (by omega) (by omega)]
 by_cases k3:k=i+1
 ·subst k3;rw [c3 _ (by omega) (by omega),b2,a2,f2,e2,d3 (i-1) (by omega) (by omega)]
 rw [c3 k k1 k2,b3 k (by omega) k3,a3 k k1 k2,f3 k (by omega) k3,e3 k k1 k2,d3 k (by omega) k3]
theorem zys {n:Nat} {u v:List Int} (h:Cn n u v):∀ {g:List (List Int)},g.length=n→RdG g→actF u g=actF v g:=by
 induction h with
 | refl u=>intro g _ _;rfl
 | symm _ ih=>intro g h1 h2;exact (ih h1 h2).symm
 | trans _ _ ih1 ih2=>intro g h1 h2;exact (ih1 h1 h2).trans (ih2 h1 h2)
 | undo a b i h=>
  intro g h1 h2;rw [zbn,zbn,zbn];congr 1;exact zum (zrv a h2) (by rw [zeq,h1];exact h)
 | far a b i j hi hij hj=>
  intro g h1 h2;rw [zbn,zbn,zbn,zbn];congr 1;exact zxj (by omega) (by omega) (by rw [zeq,h1];omega)
 | braid a b i hi hj=>
  intro g h1 h2;rw [zbn,zbn,zbn,zbn];congr 1;exact zru hi (by rw [zeq,h1];exact hj)
theorem zyb (n:Nat):RdG (idG n):=fun l hl=>by
 obtain ⟨i,_,rfl⟩:=List.mem_map.1 hl;rfl
theorem zxk {n m:Nat} {u v:List Int} (h:Cn n u v) {g k:List (List Int)} (hu:actG m u (idG n)=some g) (hv:actG m v (idG n)=some k):g=k:=by
 rw [zep hu,zep hv];exact zys h (zf4 n) (zyb n)
end Go.Proofs.Ytfffbioafhppiaa.Ev
namespace Go.Proofs
open Go.Shelf
def Try.lays189_ren:Go.Shelf.Ren:=⟨fun|189=>90|125=>135|257=>134|128=>161|129=>162|294=>152|295=>153|296=>154|297=>155|298=>156|299=>157|216=>158|300=>159|301=>160|328=>169|329=>170|330=>171|331=>172|332=>173|215=>174|343=>175|n=>n,fun|28=>22|3=>3|46=>126|0=>0|51=>158|53=>161|4=>4|183=>169|182=>168|131=>172|5=>5|9=>9|218=>179|222=>183|228=>185|229=>123|n=>n,fun|n=>n⟩
theorem Try.lays189:Go.Proofs.Lays.n189 Try.prog Try.lays189_ren:={
 mixed:=by kernel_rfl
 f125:=Try.func135.trans (congrArg some (by kernel_rfl))
 f128:=Try.func161.trans (congrArg some (by kernel_rfl))
 f129:=Try.func162.trans (congrArg some (by kernel_rfl))
 f189:=Try.func90.trans (congrArg some (by kernel_rfl))
 f215:=Try.func174.trans (congrArg some (by kernel_rfl))
 f216:=Try.func158.trans (congrArg some (by kernel_rfl))
 f257:=Try.func134.trans (congrArg some (by kernel_rfl))
 f294:=Try.func152.trans (congrArg some (by kernel_rfl))
 f295:=Try.func153.trans (congrArg some (by kernel_rfl))
 f296:=Try.func154.trans (congrArg some (by kernel_rfl))
 f297:=Try.func155.trans (congrArg some (by kernel_rfl))
 f298:=Try.func156.trans (congrArg some (by kernel_rfl))
 f299:=Try.func157.trans (congrArg some (by kernel_rfl))
 f300:=Try.func159.trans (congrArg some (by kernel_rfl))
 f301:=Try.func160.trans (congrArg some (by kernel_rfl))
 f328:=Try.func169.trans (congrArg some (by kernel_rfl))
 f329:=Try.func170.trans (congrArg some (by kernel_rfl))
 f330:=Try.func171.trans (congrArg some (by kernel_rfl))
 f331:=Try.func172.trans (congrArg some (by kernel_rfl))
 f332:=Try.func173.trans (congrArg some (by kernel_rfl))
 f343:=Try.func175.trans (congrArg some (by kernel_rfl))
 t0:=Try.underlying0
 a0:=Try.isAgg0
 z0:=Try.sizeOf0
 v0:=Try.zeroValue0
 t3:=Try.underlying3
 a3:=Try.isAgg3
 z3:=Try.sizeOf3
 v3:=Try.zeroValue3
 t4:=Try.underlying4
 a4:=Try.isAgg4
 z4:=Try.sizeOf4
 v4:=Try.zeroValue4
 t5:=Try.underlying5
 a5:=Try.isAgg5
 z5:=Try.sizeOf5
 v5:=Try.zeroValue5
 t9:=Try.underlying9
 a9:=Try.isAgg9
 z9:=Try.sizeOf9
 v9:=Try.zeroValue9
 t28:=Try.underlying22
 a28:=Try.isAgg22
 z28:=Try.sizeOf22
 v28:=Try.zeroValue22
 t46:=Try.underlying126
 a46:=Try.isAgg126
 z46:=Try.sizeOf126
 v46:=Try.zeroValue126
 t51:=Try.underlying158
 a51:=Try.isAgg158
 z51:=Try.sizeOf158
 v51:=Try.zeroValue158
 t53:=Try.underlying161
 a53:=Try.isAgg161
 z53:=Try.sizeOf161
 v53:=Try.zeroValue161
 t131:=Try.underlying172
 a131:=Try.isAgg172
 z131:=Try.sizeOf172
 v131:=Try.zeroValue172
 t182:=Try.underlying168
 a182:=Try.isAgg168
 z182:=Try.sizeOf168
 v182:=Try.zeroValue168
 t183:=Try.underlying169
 a183:=Try.isAgg169
 z183:=Try.sizeOf169
 v183:=Try.zeroValue169
 t218:=Try.underlying179
 a218:=Try.isAgg179
 z218:=Try.sizeOf179
 v218:=Try.zeroValue179
 t222:=Try.underlying183
 a222:=Try.isAgg183
 z222:=Try.sizeOf183
 v222:=Try.zeroValue183
 t228:=Try.underlying185
 a228:=Try.isAgg185
 z228:=Try.sizeOf185
 v228:=Try.zeroValue185
 t229:=Try.underlying123
 a229:=Try.isAgg123
 z229:=Try.sizeOf123
 v229:=Try.zeroValue123 }
open Go.Sort Go.RowKit in
theorem Try.slices_Sort_int (blk off cap:Nat) (zs:List Int) (w:World) (hH:Holds (Value.int .i64) w blk off zs.toArray) (hblk:blk<w.heap.size) (hsz:zs.length<4611686018427387904) :
  Calls Try.prog 90 #[.slice (some ⟨blk,off,none⟩) zs.length cap] w fun e w'=>
   e = .returned (.tuple #[])∧∃ n os,w'=grow (putRow (Value.int .i64) (Sort.ahead w n) blk off (zs.mergeSort fun x y=>decide (x≤y)).toArray) os:=Any.slices_Sort_int Try.lays189 blk off cap zs w hH hblk hsz
def Try.lays212_ren:Go.Shelf.Ren:=⟨fun|212=>118|263=>141|264=>142|n=>n,fun|46=>126|51=>158|146=>159|53=>161|148=>162|n=>n,fun|n=>n⟩
theorem Try.lays212:Go.Proofs.Lays.n212 Try.prog Try.lays212_ren:={
 mixed:=by kernel_rfl
 f212:=Try.func118.trans (congrArg some (by kernel_rfl))
 f263:=Try.func141.trans (congrArg some (by kernel_rfl))
 f264:=Try.func142.trans (congrArg some (by kernel_rfl))
 t46:=Try.underlying126
 a46:=Try.isAgg126
 z46:=Try.sizeOf126
 v46:=Try.zeroValue126
 t51:=Try.underlying158
 a51:=Try.isAgg158
 z51:=Try.sizeOf158
 v51:=Try.zeroValue158
 t53:=Try.underlying161
 a53:=Try.isAgg161
 z53:=Try.sizeOf161
 v53:=Try.zeroValue161
 t146:=Try.underlying159
 a146:=Try.isAgg159
 z146:=Try.sizeOf159
 v146:=Try.zeroValue159
 t148:=Try.underlying162
 a148:=Try.isAgg162
 z148:=Try.sizeOf162
 v148:=Try.zeroValue162 }
open Go.RowKit Go.Lib in
theorem Try.bits_Mul (x y:Nat) (hx:x<18446744073709551616) (hy:y<18446744073709551616) (w:World) :
  Calls Try.prog 118 #[.int .u64 x,.int .u64 y] w fun e w'=>e = .returned (.tuple #[.int .u64 ((x*y/18446744073709551616:Nat):Int),.int .u64 ((x*y%18446744073709551616:Nat):Int)])∧w'=w:=Any.bits_Mul Try.lays212 x y hx hy w
open Go.RowKit Go.Sort in
theorem Try.slices_Sort_int_none (p:Option Addr) (cap:Nat) (w:World) :
  Calls Try.prog 90 #[.slice p 0 cap] w fun e w'=>e = .returned (.tuple #[])∧w'=w:=Any.slices_Sort_int_none Try.lays189 p cap w
end Go.Proofs
namespace Go.Proofs.Ytfffbioafhppiaa.Ev
section
open Go.RowKit
variable {P:Program} {γ γ':G} {w0:Bs} {w w':World} {H H':Tr EK} {n n':Nat}
theorem HR.below (h:HR γ w0 H n w) (b:Below w.heap.size w w'):HR γ w0 H n w':=by
 refine ⟨fun i k hk=>?_,h.inj0,h.fresh,h.rsv,fun i p e=>Nat.lt_of_lt_of_le (h.lt i p e) b.size,?_,h.fzq rfl (fun k hk _=>b.block k hk) (fun i ki b m hi ni ei=>.inr ⟨i,ki,b,m,hi,ni,ei,rfl⟩) fun _ _ hk _=>hk⟩
 ·refine (h.hp0 i k hk).imp id fun ⟨c,m,h1,h2,h3⟩=>?_;exact ⟨c,m,h1,h2,EK.ok_mono (GLe.refl γ) (b.block c.k (h.lt i _ h1)) h3⟩
 ·refine ⟨b.os.trans h.stays.os,b.tape.trans h.stays.tape,b.output.trans h.stays.output,Nat.le_trans h.stays.size b.size,fun k hk=>?_⟩;have h1:=w0.lt k hk;have h2:=h.stays.size;exact (b.block k (by omega)).trans (h.stays.block k hk)
end
section
open Go.Proofs Go.RowKit Go.Sort
theorem zfo (l:List Int):(srt l).length=l.length:=(zlr l).length_eq
theorem zcb (k:IntKind) (l:List Int):(SyC.ints k l).enc=l.map fun x=>EV.v (.int k x):=rfl
theorem HR.putInts {γ:G} {w0:Bs} {H:Tr EK} {n:Nat} {w:World} (h:HR γ w0 H n w) {i:Nat} (hi:Nat.ble i 65535=true) {ty:TypeId} {k:IntKind} {l l':List Int} {nn:Bool} (hg:H.get i=some (.seq ty (.ints k l) nn)) {b:Pl} {m:Nat} (hγ:γ i=some (b,m)) (hl:l'.length=l.length) (hn:¬ (EK.seq ty (.ints k l) nn).Nil) (q:Nat) :
  HR γ w0 (H.put i (some (.seq ty (.ints k l') nn))) n (Go.Sort.putRow (Value.int k) (Go.Sort.ahead w q) b.k b.s l'.toArray):=by
 obtain ⟨b2,m2,e1,e2,ca,⟨fz,e3,e3'⟩,e4,e5,e6⟩:=h.hp i _ hg hn;rw [hγ] at e1;simp only [Option.some.injEq,Prod.mk.injEq] at e1;obtain ⟨rfl,rfl⟩:=e1;have hw:∀ c,(Go.Sort.putRow (Value.int k) (Go.Sort.ahead w q) b.k b.s l'.toArray).heap[c]? = if b.k=c then some (.cells (Go.Sort.putCells (Value.int k) b.s l'.toArray ca) ty fz) else w.heap[c]?:=fun c=>by
  unfold Go.Sort.putRow Go.Sort.mapBlock;show (w.heap.modify b.k _)[c]? = _;rw [Array.getElem?_modify]
  by_cases hc:b.k=c
  ·subst hc;rw [if_pos rfl,if_pos rfl,e3];rfl
  ·rw [if_neg hc,if_neg hc]
 have hsz:(Go.Sort.putRow (Value.int k) (Go.Sort.ahead w q) b.k b.s l'.toArray).heap.size=w.heap.size:=by
  unfold Go.Sort.putRow Go.Sort.mapBlock;show (w.heap.modify b.k _).size=_;simp [Go.Sort.ahead]
 have hcs:(Go.Sort.putCells (Value.int k) b.s l'.toArray ca).size=ca.size:=by unfold Go.Sort.putCells;simp
 have hle:(SyC.ints k l').enc.length=(SyC.ints k l).enc.length:=by rw [zcb,zcb,List.length_map,List.length_map,hl]
 refine h.turn hi hg hγ _ (fun c hc=>by rw [hw,if_neg (fun e=>hc e.symm)]) hsz rfl rfl rfl ?_ hn;refine ⟨_,⟨fz,by rw [hw,if_pos rfl],e3'.imp id fun e=>by rw [hcs];exact e⟩,by rw [hcs];exact e4,by rw [hle];exact e5,?_,?_⟩
 ·have hcl:(Go.Sort.putCells (Value.int k) b.s l'.toArray ca).toList.length=ca.size:=(Array.length_toList).trans hcs;rw [List.length_take,List.length_drop,hcl,hle];omega
 ·intro j a x ha hx;rw [zcb,List.getElem?_map] at ha;have hj:j<l'.length:=by
   rcases Nat.lt_or_ge j l'.length with hj|hj
   ·exact hj
   ·rw [List.getElem?_eq_none hj] at ha;cases ha
  rw [List.getElem?_eq_getElem hj] at ha;injection ha with ha
  subst ha;rw [List.getElem?_take,if_pos (by rw [zcb,List.length_map];exact hj),List.getElem?_drop,Array.getElem?_toList] at hx;unfold Go.Sort.putCells at hx;rw [Array.getElem?_mapIdx] at hx;have hlt:b.s+j<ca.size:=by
   rw [zcb,List.length_map] at e5;omega
  rw [Array.getElem?_eq_getElem hlt] at hx;simp only [Option.map_some,Option.some.injEq] at hx;rw [if_pos ⟨by omega,by simp;omega⟩] at hx;have:l'.toArray[b.s+j-b.s]! = l'[j]:=by
   rw [show b.s+j-b.s=j by omega];simp [hj]
  rw [this] at hx;subst hx;exact .v _
noncomputable def spSort:ZMT:=fun ax K0 m=>match ax,K0 with
 | [.slO 0 1 len nn],[(0,.seq ty (.ints .i64 l) nn')]=>bc (Nat.beq m 1) (some ⟨bc (Nat.beq len l.length) (bc (Nat.ble len 65536) (bc nn nn' true) false) false,.tup [],[(0,.seq ty (.ints .i64 (srt l)) nn')],1,1⟩) none
 | _,_=>none
theorem zo1:ZMtOk Try.prog 90 spSort:=fun γ w0 w us ax K0 m r hs hc hres hax hH=>by
 unfold spSort at hs;split at hs
 case h_2=>cases hs
 rename_i len nn ty l nn';obtain ⟨hm,rfl⟩:=noN hs;have hm:=Nat.eq_of_beq_eq_true hm;subst hm;obtain ⟨hc1,hc2⟩:=bcT (show bc (Nat.beq len l.length) (bc (Nat.ble len 65536) (bc nn nn' true) false) false=true from hc)
 obtain ⟨hc2,hc3⟩:=bcT hc2;have hc1:=Nat.eq_of_beq_eq_true hc1;have hc2:=Nat.le_of_ble_eq_true hc2;subst hc1;obtain ⟨x,r1,e1,hx,hcr⟩:=ECL.inv hax;have e3:r1=[]:=by apply List.eq_nil_of_length_eq_zero;have:=hcr.1;simpa using this.symm
 subst e3;have eu:us = #[x]:=by apply Array.ext';simpa using e1
 rw [eu];have hg:(mkT [(0,EK.seq ty (.ints .i64 l) nn')]).get 0=some (.seq ty (.ints .i64 l) nn'):=rfl
 cases hx with
 | slO _ _ _ _ _ hx=>
 cases nn with
 | false=>
  obtain ⟨rfl,hl⟩:=hx.1 rfl;have hl:l=[]:=List.eq_nil_of_length_eq_zero hl;subst hl;refine (Try.slices_Sort_int_none none 0 w).mono ?_
  rintro e w' ⟨rfl,rfl⟩
  exact ⟨γ,_,rfl,.tup [] [] rfl (fun j a x h=>by simp at h),by rw [show srt []=[] from List.eq_nil_of_length_eq_zero (by rw [zfo];rfl)];exact hH,fun j p _ h=>h⟩
 | true=>
  obtain ⟨b,mm,c,g1,rfl,g2,g3,g4⟩:=hx.2 rfl;have hnn:nn'=true:=hc3;subst hnn;have hn:¬ (EK.seq ty (.ints .i64 l) true).Nil:=fun e=>by cases e.1
  obtain ⟨b2,m2,q1,q2,ca,q3,q4,q5,q6⟩:=hH.hp 0 _ hg hn;rw [g1] at q1;simp only [Option.some.injEq,Prod.mk.injEq] at q1;obtain ⟨rfl,rfl⟩:=q1;have hholds:Go.Sort.Holds (Value.int .i64) w b.k b.s l.toArray:=fun j hj=>by
   have hj:j<l.length:=by simpa using hj
   obtain ⟨c1,c2⟩:=zaf (off:=j) q3;have hlt:b.s+j<ca.size:=by rw [zcb,List.length_map] at q5;omega
   refine ⟨?_,c2 hlt⟩;rw [show (⟨b.k,b.s+j,none⟩:Addr)=b.at j from rfl,c1,Array.getElem?_eq_getElem hlt]
   have h1:=q6.2 j (.v (.int .i64 l[j])) ca[b.s+j] (by rw [zcb,List.getElem?_map,List.getElem?_eq_getElem hj];rfl) (by
    rw [List.getElem?_take,if_pos (by rw [zcb,List.length_map];exact hj),List.getElem?_drop,Array.getElem?_toList,Array.getElem?_eq_getElem hlt])
   rw [ec_v h1];simp [hj]
  have hblk:=hH.lt 0 _ g1;refine (Try.slices_Sort_int b.k b.s c l w hholds hblk (by omega)).mono ?_
  rintro e w' ⟨rfl,q,os,rfl⟩
  have h1:=hH.putInts (l':=srt l) rfl hg g1 (zfo l) hn q;have hsz:(Go.Sort.putRow (Value.int .i64) (Go.Sort.ahead w q) b.k b.s (srt l).toArray).heap.size=w.heap.size:=by
   unfold Go.Sort.putRow Go.Sort.mapBlock;show (w.heap.modify b.k _).size=_;simp [Go.Sort.ahead]
  have hb:Below (Go.Sort.putRow (Value.int .i64) (Go.Sort.ahead w q) b.k b.s (srt l).toArray).heap.size (Go.Sort.putRow (Value.int .i64) (Go.Sort.ahead w q) b.k b.s (srt l).toArray) (Go.Sort.grow (Go.Sort.putRow (Value.int .i64) (Go.Sort.ahead w q) b.k b.s (srt l).toArray) os):=
   ⟨rfl,rfl,rfl,by rw [Go.Sort.size_grow];omega,fun k hk=>Go.Sort.heap_grow_old _ _ hk⟩
  refine ⟨γ,_,rfl,.tup [] [] rfl (fun j a x h=>by simp at h),?_,fun j p _ h=>h⟩;refine (h1.below hb).congr fun j k hj=>?_;rw [Tr.get_put (by rfl)]
  by_cases hj0:j=0
  ·subst hj0;rw [if_pos rfl];exact hj
  ·rw [if_neg hj0];have:=zc4 hj;simp at this;exact absurd this.1 hj0
noncomputable def ctSo:Tr ZCC:=Tr.nil.put 90 (some (mC spSort))
theorem ze6:ZCtsOk Try.prog ctSo:=(ZCtsOk.nil _).addM rfl zo1
end
namespace PPer
noncomputable def RUN (s:ES):ZF:=RZs 98 ctSo [(atS 4 163 1,[[(0,none),(5,none),(6,none),(7,none)],[(2,some (1,3,.ints .i64 []))],[],[],[]]),(atS 0 98 3,[[(9,none),(10,none),(11,none)]])] [2] false s
noncomputable def sV (p q:List Int) (nn:Bool) (i:Int):NS:=⟨[⟨163,16,[(0,(EV.yl 0)),(5,(il p)),(6,(iv (Int.ofNat (List.length p)))),(7,iv i)],[.it (.code (nav [1,0,0] (bodyOf Try.f163))),.it (.inLoop (nav [1,0,0] (bodyOf Try.f163))),.it (.inBlock 0)],[],Option.none⟩,⟨104,13,[(2,(EV.ptr 1 0))],[(.inRF 0),.it (.inBlock 0),.it (.code (nav [1,1] (bodyOf Try.f104)))],[(DE.mk 2)],Option.none⟩,⟨53,5,[],[.ops (opsOf (nav [1,0] (bodyOf Try.f53))) ((opsOf (nav [1,0] (bodyOf Try.f53))).toList.drop 1),.it (.code (nav [1,1] (bodyOf Try.f53)))],[],Option.none⟩,⟨137,9,[],[.ops (opsOf (nav [1,0] (bodyOf Try.f137))) ((opsOf (nav [1,0] (bodyOf Try.f137))).toList.drop 1),.it (.code (nav [1,1] (bodyOf Try.f137)))],[],Option.none⟩,⟨98,20,[],[.ops (opsOf (nav [1,0] (bodyOf Try.f98))) ((opsOf (nav [1,0] (bodyOf Try.f98))).toList.drop 2),.it (.code (nav [1,1] (bodyOf Try.f98)))],[],Option.none⟩],[(0,(EK.loop LoopState.ready Option.none 104 13 (Tr.node Option.none (Tr.node Option.none Tr.nil (Tr.node (Option.some (EV.ptr 1 0)) Tr.nil Tr.nil)) Tr.nil) (Array.mk [7]) (nav [1,0,1,0,0] (bodyOf Try.f104)) (nav [1,0,1,0,1] (bodyOf Try.f104)) 2)),(1,EK.cells 22 [EV.slO 3 1 q.length nn] true),(2,(EK.dfr true)),(3,EK.seq 3 (.ints .i64 q) nn)],4⟩
noncomputable def sF (q:List Int) (nn:Bool) (m:Nat) (z i:Int):NS:=⟨[⟨98,20,[(9,EV.slO 0 1 m nn),(10,iv z),(11,iv i)],[.it (.code (nav [1,1,0,1,0,0] (bodyOf Try.f98))),.it (.inLoop (nav [1,1,0,1,0,0] (bodyOf Try.f98))),.it (.inBlock 0),.it (.code (nav [1,1,1] (bodyOf Try.f98)))],[],Option.none⟩],[(0,EK.seq 3 (.ints .i64 q) nn)],1⟩
theorem zu2 (q:List Int) (nn:Bool) (m:Nat) (z i:Int):RUN (stOf (sF q nn m z i))=(bc (decide (i<z)) (bc (bc (bc (decide (0≤i)) (Nat.blt i.toNat m) false) true false) (bc (bc (Nat.blt i.toNat q.length) true false) (bc (i != q.getD i.toNat 0) (.done (bv false) [] 0) (.at (sF q nn m z (IntKind.i64.wrap (i+1))))) .bad) .bad) (.done (bv true) [] 0)):=by kernel_rfl
theorem step_t (p q:List Int) (nn:Bool) (i:Int):RUN (stOf (sV p q nn i))=(bc (decide (i<Int.ofNat p.length)) (bc (bc (bc (decide (0≤i)) (Nat.blt i.toNat p.length) false) true false) (bc (bc (Nat.blt i.toNat p.length) true false) (bc (bc (Nat.beq q.length q.length) (bc (Nat.ble (q.length+([p.getD i.toNat 0]).length) 65536) (bc nn true (bc nn false true)) false) false) (.at (sV p (q++[p.getD i.toNat 0]) (bc nn true (Nat.blt 0 ([p.getD i.toNat 0]).length)) (IntKind.i64.wrap (i+1)))) .bad) .bad) .bad) (bc (bc (bc (Nat.beq q.length q.length) (bc (Nat.ble q.length 65536) (bc nn nn true) false) false) (bc nn true false) false) (.at (sF (srt q) nn q.length (Int.ofNat q.length) 0)) .bad)):=by kernel_rfl
theorem in_t (p:List Int):RUN (st0 98 [il p])=(.at (sV p [] false 0)):=by kernel_rfl
theorem step {p q:List Int} {nn:Bool} {i:Nat} (hi:i<p.length) (hp:p.length≤100) (hq:q.length≤i):RUN (stOf (sV p q nn i)) = .at (sV p (q++[p[i]]) (bc nn true true) (i+1:Nat)):=by
 rw [step_t];have e:p.getD i 0=p[i]:=zag hi;simp (disch:=omega) only [yS,e,List.map_cons,List.map_nil];rfl
theorem over {p:List Int} {i:Nat} (hi:p.length≤i) (hp:p.length≤100) (q:List Int) (hq:q.length≤100):RUN (stOf (sV p q true i)) = .at (sF (srt q) true q.length q.length (0:Nat)):=by
 rw [step_t];simp (disch:=omega) only [yS,zfo]
theorem loopV {p:List Int} (hp:p.length≤100):∀ (k i:Nat),i+k=p.length→LeadsZ Try.prog (stOf (sV p (p.take i) true i)) (stOf (sF (srt p) true p.length p.length (0:Nat)))
 | 0,i,h=>by
  obtain rfl:i=p.length:=by omega
  rw [List.take_length];exact leadsZ ze6 (over (Nat.le_refl _) hp p hp)
 | k+1,i,h=>by
  have hi:i<p.length:=by omega
  have h1:=step (q:=p.take i) (nn:=true) hi hp (by rw [List.length_take];omega);rw [← List.take_succ_eq_append_getElem hi] at h1;exact (leadsZ ze6 h1).trans (loopV hp k (i+1) (by omega))
theorem stepF {q:List Int} {i:Nat} (hi:i<q.length) (hq:q.length≤100):RUN (stOf (sF q true q.length q.length i))=if (i:Int)≠q[i] then .done (bv false) [] 0 else .at (sF q true q.length q.length (i+1:Nat)):=by
 rw [zu2];have e:q.getD i 0=q[i]:=zag hi;simp (disch:=omega) only [yS,e]
 by_cases h:(i:Int)=q[i]
 ·rw [if_neg (fun e=>e h)];have:((i:Int) != q[i])=false:=by simp [h]
  rw [this];rfl
 ·rw [if_pos h];have:((i:Int) != q[i])=true:=by simp [h]
  rw [this];rfl
theorem endF {q:List Int} {i:Nat} (hi:q.length≤i):RUN (stOf (sF q true q.length q.length i)) = .done (bv true) [] 0:=by
 rw [zu2];simp (disch:=omega) only [yS]
theorem loopF {q:List Int} (hq:q.length≤100):∀ (k i:Nat),i+k=q.length→EndZ 98 ctSo false (stOf (sF q true q.length q.length i)) (bv (plF i (q.drop i))) [] 0
 | 0,i,h=>by
  rw [List.drop_eq_nil_of_le (by omega)];exact .done (endF (by omega))
 | k+1,i,h=>by
  have hi:i<q.length:=by omega
  have h1:=stepF hi hq;rw [List.drop_eq_getElem_cons hi];unfold plF
  by_cases h2:(i:Int)≠q[i]
  ·rw [if_pos h2] at h1 ⊢;exact .done h1
  ·rw [if_neg h2] at h1 ⊢;exact .at ze6 h1 (loopF hq k (i+1) (by omega))
theorem ends {p:List Int} (h1:1≤p.length) (hp:p.length≤100):EndZ 98 ctSo false (st0 98 [il p]) (bv (plF 0 (srt p))) [] 0:=by
 refine .at ze6 (in_t p) ?_;have h2:=step (q:=[]) (nn:=false) (show 0<p.length by omega) hp (Nat.le_refl _);rw [List.nil_append] at h2;have e:[p[0]]=p.take 1:=by
  rw [List.take_succ_eq_append_getElem (show 0<p.length by omega)];rfl
 rw [e] at h2;refine .at ze6 h2 (.lead (loopV hp (p.length-1) 1 (by omega)) ?_);have h3:=loopF (q:=srt p) (by rw [zfo];exact hp) (srt p).length 0 (by omega);rw [zfo] at h3;exact h3
end PPer
noncomputable def spPPer:ZCT:=fun ax=>match ax with
 | [.lst (.ints .i64 p)]=>some ⟨decide (1≤p.length∧p.length≤100),bv (plF 0 (srt p)),[],0⟩
 | _=>none
theorem zpa:ZCtOk Try.prog 98 spPPer:=fun γ w us ax r hs hc hax hN hfz=>by
 unfold spPPer at hs;split at hs
 case h_2=>cases hs
 rename_i p;obtain ⟨rfl⟩:=Option.some.inj hs;have hc_0:decide (1≤p.length∧p.length≤100)=true:=hc;have hc:=of_decide_eq_true hc_0;exact EndZ.calls (PPer.ends hc.1 hc.2) ze6 (by kernel_rfl) hax hN hfz
namespace PLst
noncomputable def RUN (s:ES):ZF:=RZ 100 .nil (atS 0 100 4) [] [[(0,none),(3,some (1,3,.ints .i64 [])),(4,none)]] false s
noncomputable def sL (z:Nat) (p q:List Int) (nn:Bool) (i:Int):NS:=⟨[⟨100,47,[(0,EV.slO 0 1 z true),(3,EV.slO 1 1 q.length nn),(4,iv i)],[.it (.code (nav [1,1,1,0,1,0,0,0] (bodyOf Try.f100))),.it (.code (nav [1,1,1,0,1,0,0,1] (bodyOf Try.f100))),.it (.inLoop (nav [1,1,1,0,1,0,0] (bodyOf Try.f100))),.it (.inBlock 0),.it (.code (nav [1,1,1,1] (bodyOf Try.f100)))],[],Option.none⟩],[(0,EK.seq 3 (.ints .i64 p) true),(1,EK.seq 3 (.ints .i64 q) nn)],2⟩
theorem in_t (p:List Int):RUN (st0 100 [il p])=(bc (bc (Nat.blt 0 p.length) true false) (bc (bc (Nat.ble (0+p.length) 65536) true false) (.at (sL ([]++p).length ([]++p) [] false 1)) .bad) .bad):=by kernel_rfl
theorem step_t (z:Nat) (p q:List Int) (nn:Bool) (i:Int):RUN (stOf (sL z p q nn i))=(bc (decide (i<Int.ofNat z)) (bc (bc (bc (bc (bc (decide (0≤IntKind.i64.wrap (i-(1:Int)))) (Nat.blt (IntKind.i64.wrap (i-(1:Int))).toNat z) false) true false) (bc (bc (Nat.blt (IntKind.i64.wrap (i-(1:Int))).toNat p.length) true false) (bc (bc (bc (decide (0≤i)) (Nat.blt i.toNat z) false) true false) (bc (bc (Nat.blt i.toNat p.length) true false) true false) false) false) false) true false) (bc (decide (p.getD (IntKind.i64.wrap (i-(1:Int))).toNat 0<p.getD i.toNat 0)) (.at (sL z p q nn (IntKind.i64.wrap (i+1)))) (bc (bc (bc (bc (bc (decide (0≤i)) (Nat.blt i.toNat z) false) true false) (bc (bc (Nat.blt i.toNat p.length) true false) (bc (bc (bc (decide (0≤IntKind.i64.wrap (i-(1:Int)))) (Nat.blt (IntKind.i64.wrap (i-(1:Int))).toNat z) false) true false) (bc (bc (Nat.blt (IntKind.i64.wrap (i-(1:Int))).toNat p.length) true false) (bc (bc (bc (decide (0≤IntKind.i64.wrap (i-(1:Int)))) (Nat.blt (IntKind.i64.wrap (i-(1:Int))).toNat z) false) true false) (bc (Nat.blt (IntKind.i64.wrap (i-(1:Int))).toNat p.length) (bc (bc (bc (decide (0≤i)) (Nat.blt i.toNat z) false) true false) (bc (Nat.blt i.toNat (List.set p (IntKind.i64.wrap (i-(1:Int))).toNat (p.getD i.toNat 0)).length) true false) false) false) false) false) false) false) false) true false) (bc (bc (Nat.beq q.length q.length) (bc (Nat.ble (q.length+([i]).length) 65536) (bc nn true (bc nn false true)) false) false) (.at (sL z (List.set (List.set p (IntKind.i64.wrap (i-(1:Int))).toNat (p.getD i.toNat 0)) i.toNat (p.getD (IntKind.i64.wrap (i-(1:Int))).toNat 0)) (q++[i]) (bc nn true (Nat.blt 0 ([i]).length)) (if IntKind.i64.wrap (i-(1:Int)) > (1:Int) then IntKind.i64.wrap (i-(1:Int)) else (1:Int)))) .bad) .bad)) .bad) (bc (Nat.beq q.length q.length) (.done (il q) [] 0) .bad)):=by kernel_rfl
theorem step {p q:List Int} {nn:Bool} {k:Nat} (hk:k+1<p.length) (hp:p.length≤12) (hq:q.length≤2000):RUN (stOf (sL p.length p q nn (k+1:Nat)))=if p.getD k 0<p.getD (k+1) 0 then .at (sL p.length p q nn (k+1+1:Nat)) else .at (sL p.length (swp p k) (q++[((k+1:Nat):Int)]) (bc nn true true) (k-1+1:Nat)):=by
 rw [step_t];have e1:((k+1:Nat):Int)-1=(k:Int):=by omega
 rw [e1]
 by_cases h1:p.getD k 0<p.getD (k+1) 0
 ·rw [if_pos h1];simp (disch:=omega) only [yS];rfl
 ·rw [if_neg h1];have e2:(if (k:Int) > 1 then (k:Int) else 1)=((k-1+1:Nat):Int):=by split <;> omega
  simp (disch:=omega) only [yS,List.map_cons,List.map_nil,List.length_set];rw [e2];rfl
theorem last {p q:List Int} {nn:Bool} {k:Nat} (hk:p.length≤k+1):RUN (stOf (sL p.length p q nn (k+1:Nat))) = .done (il q) [] 0:=by
 rw [step_t];simp (disch:=omega) only [yS]
theorem loop (z:Nat):∀ (f:Nat) (p q:List Int) (nn:Bool) (k:Nat),p.length=z→InR p→Dis p→Asc p k→(k=0∨k<p.length)→msr p k<f→q.length+(lwo p).length≤1800→EndZ 100 .nil false (stOf (sL z p q nn (k+1:Nat))) (il (q++lwo p)) [] 0
 | 0,p,q,nn,k,hz,h,hd,ha,hk,hf,hq=>by omega
 | f+1,p,q,nn,k,hz,h,hd,ha,hk,hf,hq=>by
  subst hz
  by_cases h1:k+1<p.length
  ·have hs:=step (q:=q) (nn:=nn) h1 h.1 (by omega)
   by_cases h2:p.getD k 0<p.getD (k+1) 0
   ·rw [if_pos h2] at hs;have:=zhx h h1;exact .at (.nil _) hs (loop p.length f p q nn (k+1) rfl h hd (ha.next (by omega)) (.inr (by omega)) (by omega) hq)
   ·rw [if_neg h2] at hs;have h2':p.getD (k+1) 0<p.getD k 0:=by
     have:p.getD (k+1) 0≠p.getD k 0:=fun e=>by have:=hd _ _ h1 (by omega) e;omega
     omega
    have h3:=zhz h ha h1 h2';rw [h3] at hq ⊢;rw [List.length_cons] at hq;have:=zkc (k':=k-1) h h1 h2';have hg:=loop p.length f (swp p k) (q++[((k+1:Nat):Int)]) (bc nn true true) (k-1) (zer p k) (h.swp h1) (hd.swp h1) (ha.swp h1) (by rw [zer];omega) (by omega) (by rw [List.length_append];simp;omega);rw [List.append_assoc] at hg;exact .at (.nil _) hs hg
  ·rw [zkh h ha hk (by omega),List.append_nil];exact .done (last (by omega))
end PLst
noncomputable def spPLst:ZCT:=fun ax=>match ax with
 | [.lst (.ints .i64 p)]=>some ⟨decide (1≤p.length∧InR p∧Dis p),il (lwo p),[],0⟩
 | _=>none
theorem zpc:ZCtOk Try.prog 100 spPLst:=fun γ w us ax r hs hc hax hN hfz=>by
 unfold spPLst at hs;split at hs
 case h_2=>cases hs
 rename_i p;obtain ⟨rfl⟩:=Option.some.inj hs;have hc_0:decide (1≤p.length∧InR p∧Dis p)=true:=hc;have hc:=of_decide_eq_true hc_0;exact EndZ.calls (by
  obtain ⟨h1,hr,hd⟩:=hc;have h:=PLst.in_t p;have:=hr.1;rw [List.nil_append] at h;simp (disch:=omega) only [yS] at h;have h2:=PLst.loop p.length _ p [] false 0 rfl hr hd (Asc.zero _) (.inl rfl) (Nat.lt_succ_self _) (by have:=zkg hr;simp;omega)
  exact .at (.nil _) h h2) (.nil _) (by kernel_rfl) hax hN hfz
namespace PUnw
noncomputable def RUN (s:ES):ZF:=RZ 101 .nil (atS 1 164 1) [3] [[(0,none),(1,none),(3,none)],[(3,some (1,3,.ints .i64 []))]] false s
noncomputable def sV (p q:List Int) (nn:Bool) (i:Int):NS:=⟨[⟨164,19,[(0,(EV.yl 0)),(1,(EV.ptr 1 0)),(3,iv i)],[.it (.code (nav [1,0,0,0] (bodyOf Try.f164))),.it (.code (nav [1,0,0,1] (bodyOf Try.f164))),.it (.inLoop (nav [1,0,0] (bodyOf Try.f164))),.it (.inBlock 0)],[],Option.none⟩,⟨101,19,[(3,(EV.ptr 2 0))],[(.inRF 0),.it (.inBlock 0),.it (.code (nav [1,1,1] (bodyOf Try.f101)))],[(DE.mk 3)],Option.none⟩],[(0,(EK.loop LoopState.ready Option.none 101 19 (Tr.node Option.none Tr.nil (Tr.node Option.none Tr.nil (Tr.node (Option.some (EV.ptr 2 0)) Tr.nil Tr.nil))) (Array.mk [11,12]) (nav [1,1,0,1,0,0] (bodyOf Try.f101)) (nav [1,1,0,1,0,1] (bodyOf Try.f101)) 3)),(1,(EK.cells 22 [(il p)] true)),(2,EK.cells 22 [EV.slO 4 1 q.length nn] true),(3,(EK.dfr true)),(4,EK.seq 3 (.ints .i64 q) nn)],5⟩
theorem in_t (p:List Int):RUN (st0 101 [il p])=(bc (decide (Int.ofNat p.length≤65536)) (.at (sV p (zerosL (0:Int).toNat) true (IntKind.i64.wrap (Int.ofNat p.length-(1:Int))))) .bad):=by kernel_rfl
theorem step_t (p q:List Int) (nn:Bool) (i:Int):RUN (stOf (sV p q nn i))=(bc (decide (0≤i)) (bc (bc (bc (decide (0≤i)) (Nat.blt i.toNat p.length) false) true false) (bc (bc (Nat.blt i.toNat p.length) true false) (bc (bc (Nat.beq q.length q.length) (bc (Nat.ble (q.length+([IntKind.i64.wrap ((0:Int)-p.getD i.toNat 0)]).length) 65536) (bc nn true (bc nn false true)) false) false) (.at (sV p (q++[IntKind.i64.wrap ((0:Int)-p.getD i.toNat 0)]) (bc nn true (Nat.blt 0 ([IntKind.i64.wrap ((0:Int)-p.getD i.toNat 0)]).length)) (IntKind.i64.wrap (i-(1:Int))))) .bad) .bad) .bad) (bc (Nat.beq q.length q.length) (.done (il q) [] 0) .bad)):=by kernel_rfl
theorem step {l q:List Int} {i:Nat} (hi:i<l.length) (hl:l.length≤2000) (hq:q.length+i<l.length) (hx:Sml l):RUN (stOf (sV l q true i)) = .at (sV l (q++[- l.getD i 0]) true ((i:Int)-1)):=by
 rw [step_t];have h1:=hx (l.getD i 0) (zef hi);simp (disch:=omega) only [yS,List.map_cons,List.map_nil,Int.zero_sub] <;> rfl
theorem last {l q:List Int}:RUN (stOf (sV l q true (-1))) = .done (il q) [] 0:=by
 rw [step_t];simp (disch:=omega) only [yS]
theorem loop {l:List Int} (hl:l.length≤2000) (hx:Sml l):∀ (i:Nat) (q:List Int),i≤l.length→q.length+i≤l.length→EndZ 101 .nil false (stOf (sV l q true ((i:Int)-1))) (il (q++((l.take i).map fun x=>-x).reverse)) [] 0
 | 0,q,hi,h=>by
  rw [List.take_zero,List.map_nil,List.reverse_nil,List.append_nil];exact .done last
 | i+1,q,hi,h=>by
  have h1:=step (q:=q) (show i<l.length by omega) hl (by omega) hx;rw [show (((i+1:Nat):Int)-1)=(i:Int) by omega];have h2:=loop hl hx i (q++[- l.getD i 0]) (by omega) (by simp;omega);rw [zag (show i<l.length by omega)] at h2 h1;have e:q++((l.take (i+1)).map fun x=>-x).reverse=(q++[-l[i]])++((l.take i).map fun x=>-x).reverse:=by
   rw [List.take_succ_eq_append_getElem (show i<l.length by omega),List.map_append,List.reverse_append,List.append_assoc];rfl
  rw [e];exact .at (.nil _) h1 h2
end PUnw
noncomputable def spPUnw:ZCT:=fun ax=>match ax with
 | [.lst (.ints .i64 l)]=>some ⟨decide (l.length≤2000∧Sml l),il (invl l),[],0⟩
 | _=>none
theorem zo9:ZCtOk Try.prog 101 spPUnw:=fun γ w us ax r hs hc hax hN hfz=>by
 unfold spPUnw at hs;split at hs
 case h_2=>cases hs
 rename_i l;obtain ⟨rfl⟩:=Option.some.inj hs;have hc_0:decide (l.length≤2000∧Sml l)=true:=hc;have hc:=of_decide_eq_true hc_0;exact EndZ.calls (by
  have h:=PUnw.in_t l;rw [dt (show Int.ofNat l.length≤65536 by rw [ofn];omega),bc_t,ofn,zae _ (by omega) (by omega)] at h;have h2:=PUnw.loop hc.1 hc.2 l.length [] (Nat.le_refl _) (by simp);rw [List.take_length,List.nil_append] at h2;exact .at (.nil _) h h2) (.nil _) (by kernel_rfl) hax hN hfz
section
open Go.RowKit
variable {P:Program} {γ γ':G} {w0:Bs} {w w':World} {H H':Tr EK} {n n':Nat}
theorem HR.start (hN:∀ i,γ i=none) (hfz:FzAt γ w):HR γ (Bs.ofG w γ) .nil 0 w:=
 ⟨(fun i k hk=>by cases hk),(fun i j ki kj hi=>by cases hi),(fun i _=>hN i),(fun i hi=>hi.elim),(fun i p hp=>by rw [hN i] at hp;cases hp),⟨rfl,rfl,rfl,Nat.le_refl _,fun _ _=>rfl⟩,FZ.init hfz⟩
end
noncomputable def spMul:ZCT:=fun ax=>match ax with
 | [.v (.int .u64 a),.v (.int .u64 b)]=>some ⟨decide (0≤a∧a≤65536∧0≤b∧b≤65536),.tup [.v (.int .u64 0),.v (.int .u64 (a*b))],[],0⟩
 | _=>none
theorem zsy:ZCtOk Try.prog 118 spMul:=fun γ w us ax r hs hc hax hN hfz=>by
 unfold spMul at hs;split at hs
 case h_2=>cases hs
 rename_i a b;obtain ⟨rfl⟩:=Option.some.inj hs;obtain ⟨h1,h2,h3,h4⟩:=of_decide_eq_true (show decide (0≤a∧a≤65536∧0≤b∧b≤65536)=true from hc)
 obtain ⟨x,r1,e1,hx,hc1⟩:=ECL.inv hax;obtain ⟨y,r2,e2,hy,hc2⟩:=ECL.inv hc1;have e3:r2=[]:=by apply List.eq_nil_of_length_eq_zero;have:=hc2.1;simpa using this.symm
 have hx:=ec_v hx;have hy:=ec_v hy;subst hx;subst hy;subst e3;subst e2;obtain ⟨a,rfl⟩:=Int.eq_ofNat_of_zero_le h1;obtain ⟨b,rfl⟩:=Int.eq_ofNat_of_zero_le h3;have eu:us = #[.int .u64 (a:Int),.int .u64 (b:Int)]:=by apply Array.ext';simpa using e1
 rw [eu];have hm:a*b≤65536*65536:=Nat.mul_le_mul (by omega) (by omega);refine (Try.bits_Mul a b (by omega) (by omega) w).mono ?_
 rintro e w' ⟨rfl,rfl⟩
 rw [Nat.div_eq_of_lt (by omega),Nat.mod_eq_of_lt (by omega),Int.natCast_mul];exact ⟨γ,_,rfl,.tup _ [.int .u64 0,.int .u64 ((a:Int)*b)] rfl (ECL.cons (.v _) (.cons (.v _) (.nil _))).2,HR.start hN hfz⟩
noncomputable def spNo:ZCT:=fun _=>none
theorem zv6:ZCtOk Try.prog 0 spNo:=fun _ _ _ _ _ h=>by cases h
noncomputable def ctR:Tr ZCC:=(Tr.nil.put 118 (some (dC spMul))).put 0 (some (dC spNo))
theorem zrk:ZCtsOk Try.prog ctR:=((ZCtsOk.nil _).add rfl zsy).add rfl zv6
theorem zhl (l:List Int):∀ a b,repI l (a+b)=repI l a++repI l b
 | 0,b=>by rw [Nat.zero_add];rfl
 | a+1,b=>by rw [Nat.succ_add];show l++repI l (a+b)=(l++repI l a)++repI l b;rw [zhl l a b,List.append_assoc]
theorem zhk (l:List Int) (a b:Nat) (h:a≤b) (k:Nat) (hk:k≤a*l.length):(repI l b).take k=(repI l a).take k:=by
 obtain ⟨d,rfl⟩:=Nat.exists_eq_add_of_le h;rw [zhl,List.take_append_of_le_length (by rw [zdd];exact hk)]
theorem zpp (l:List Int) (a b k:Nat) (h1:k≤a*l.length) (h2:k≤b*l.length):(repI l b).take k=(repI l a).take k:=by
 rcases Nat.le_total a b with h|h
 ·exact zhk l a b h k h1
 ·exact (zhk l b a h k h2).symm
theorem Weak.sl (i z len:Nat):Weak (.sl i z 0 len none) (.slO i z len true):=fun γ x k=>by
 cases k with
 | sl _ _ _ _ _ b m c q1 q2 q3 q4 q5 q6=>exact .slO _ _ _ _ _ ⟨(fun e=>by cases e),fun _=>⟨b,m,c,q1,rfl,q2,q3,by have:=q6 rfl;omega⟩⟩
namespace PRep
noncomputable def RUN (s:ES):ZF:=RZ 102 ctR (atS 0 102 8) [] [[(7,none),(8,none)]] false s
noncomputable def RUNo (s:ES):ZF:=RZ 102 ctR (atS 0 102 8) [] [[(7,none),(8,none)]] true s
noncomputable def sR (tot:Nat) (i:Int) (q:List Int):NS:=⟨[⟨102,48,[(7,EV.sl 0 1 0 tot none),(8,iv i)],[.it (.code (nav [1,1,1,1,1,1,0,0,0,0] (bodyOf Try.f102))),.it (.code (nav [1,1,1,1,1,1,0,0,0,1] (bodyOf Try.f102))),.it (.inLoop (nav [1,1,1,1,1,1,0,0,0] (bodyOf Try.f102))),.it (.inBlock 0),.it (.code (nav [1,1,1,1,1,1,1] (bodyOf Try.f102)))],[],Option.none⟩],[(0,EK.seq 3 (.ints .i64 q) true)],1⟩
theorem step_t (tot:Nat) (i:Int) (q:List Int):RUN (stOf (sR tot i q))=(bc (decide (i<Int.ofNat tot)) (bc (bc (bc (bc (bc (bc (decide (0≤i)) (bc (decide (i≤Int.ofNat tot)) (decide (Int.ofNat tot≤Int.ofNat tot)) false) false) (decide (i<Int.ofNat tot)) false) true false) (bc (bc (bc (bc (decide (0≤i)) (decide (i≤Int.ofNat tot)) false) (decide (0<Int.ofNat tot)) false) true false) (bc (bc (Nat.ble ((0+(0:Int).toNat*1)/1+(i.toNat-(0:Int).toNat)) q.length) (bc (Nat.beq ((0+i.toNat*1)/1*1) (0+i.toNat*1)) (Nat.ble ((0+i.toNat*1)/1+Min.min (i.toNat-(0:Int).toNat) ((Int.ofNat tot).toNat-i.toNat)) q.length) false) false) true false) false) false) true false) (.at (sR tot (IntKind.i64.wrap (i+Int.ofNat (Min.min (i.toNat-(0:Int).toNat) ((Int.ofNat tot).toNat-i.toNat)))) (List.take ((0+i.toNat*1)/1) q++List.take (Min.min (i.toNat-(0:Int).toNat) ((Int.ofNat tot).toNat-i.toNat)) (List.take (i.toNat-(0:Int).toNat) (List.drop ((0+(0:Int).toNat*1)/1) q))++List.drop ((0+i.toNat*1)/1+Min.min (i.toNat-(0:Int).toNat) ((Int.ofNat tot).toNat-i.toNat)) q))) .bad) (bc (Nat.beq tot q.length) (.done (il q) [] 0) .bad)):=by kernel_rfl
theorem zwo (tot:Nat) (i:Int) (q:List Int):RUNo (stOf (sR tot i q))=(bc (decide (i<Int.ofNat tot)) (bc (bc (bc (bc (bc (bc (decide ((0:Int)≤i)) (bc (decide (i≤Int.ofNat tot)) (decide (Int.ofNat tot≤Int.ofNat tot)) false) false) (decide (i<Int.ofNat tot)) false) true false) (bc (bc (bc (bc (decide ((0:Int)≤i)) (decide (i≤Int.ofNat tot)) false) (decide ((0:Int)<Int.ofNat tot)) false) true false) (bc (bc (Nat.ble (((0:Nat)+Int.toNat (0:Int)*(1:Nat))/(1:Nat)+(Int.toNat i-Int.toNat (0:Int))) (List.length q)) (bc (Nat.beq (((0:Nat)+Int.toNat i*(1:Nat))/(1:Nat)*(1:Nat)) ((0:Nat)+Int.toNat i*(1:Nat))) (Nat.ble (((0:Nat)+Int.toNat i*(1:Nat))/(1:Nat)+Min.min (Int.toNat i-Int.toNat (0:Int)) (Int.toNat (Int.ofNat tot)-Int.toNat i)) (List.length q)) false) false) true false) false) false) true false) (.at (sR (tot) (IntKind.wrap IntKind.i64 (i+Int.ofNat (Min.min (Int.toNat i-Int.toNat (0:Int)) (Int.toNat (Int.ofNat tot)-Int.toNat i)))) (List.take (((0:Nat)+Int.toNat i*(1:Nat))/(1:Nat)) q++List.take (Min.min (Int.toNat i-Int.toNat (0:Int)) (Int.toNat (Int.ofNat tot)-Int.toNat i)) (List.take (Int.toNat i-Int.toNat (0:Int)) (List.drop (((0:Nat)+Int.toNat (0:Int)*(1:Nat))/(1:Nat)) q))++List.drop (((0:Nat)+Int.toNat i*(1:Nat))/(1:Nat)+Min.min (Int.toNat i-Int.toNat (0:Int)) (Int.toNat (Int.ofNat tot)-Int.toNat i)) q))) .bad) (.done (EV.sl 0 1 0 (tot) Option.none) [(0,(EK.seq 3 (SyC.ints IntKind.i64 (q)) true))] 1)):=by kernel_rfl
theorem in_t (l:List Int) (t:Int):RUN (st0 102 [il l,iv t])=(bc (decide (t<0)) .bad (bc (bc (decide (0≤IntKind.wrap IntKind.u64 (Int.ofNat l.length)∧IntKind.wrap IntKind.u64 (Int.ofNat l.length)≤65536∧0≤IntKind.wrap IntKind.u64 t∧IntKind.wrap IntKind.u64 t≤65536)) true false) (bc (decide (9223372036854775807<IntKind.wrap IntKind.u64 (Int.ofNat l.length)*IntKind.wrap IntKind.u64 t)) .bad (bc (bc (decide (0≤IntKind.i64.wrap (IntKind.wrap IntKind.u64 (Int.ofNat l.length)*IntKind.wrap IntKind.u64 t))) (bc (decide (IntKind.i64.wrap (IntKind.wrap IntKind.u64 (Int.ofNat l.length)*IntKind.wrap IntKind.u64 t)=IntKind.i64.wrap (IntKind.wrap IntKind.u64 (Int.ofNat l.length)*IntKind.wrap IntKind.u64 t))) (decide (IntKind.i64.wrap (IntKind.wrap IntKind.u64 (Int.ofNat l.length)*IntKind.wrap IntKind.u64 t)≤65536)) false) false) (bc (Nat.ble ((0/1:Nat)+Min.min l.length (IntKind.i64.wrap (IntKind.wrap IntKind.u64 (Int.ofNat l.length)*IntKind.wrap IntKind.u64 t)).toNat) (List.map (fun r=>U.int (List.headD r (U.i 0))) (List.replicate (IntKind.i64.wrap (IntKind.wrap IntKind.u64 (Int.ofNat l.length)*IntKind.wrap IntKind.u64 t)).toNat [U.i 0])).length) (.at (sR (IntKind.i64.wrap (IntKind.wrap IntKind.u64 (Int.ofNat l.length)*IntKind.wrap IntKind.u64 t)).toNat (Int.ofNat (Min.min l.length (IntKind.i64.wrap (IntKind.wrap IntKind.u64 (Int.ofNat l.length)*IntKind.wrap IntKind.u64 t)).toNat)) (List.take (0/1:Nat) (List.map (fun r=>U.int (List.headD r (U.i 0))) (List.replicate (IntKind.i64.wrap (IntKind.wrap IntKind.u64 (Int.ofNat l.length)*IntKind.wrap IntKind.u64 t)).toNat [U.i 0]))++List.take (Min.min l.length (IntKind.i64.wrap (IntKind.wrap IntKind.u64 (Int.ofNat l.length)*IntKind.wrap IntKind.u64 t)).toNat) l++List.drop ((0/1:Nat)+Min.min l.length (IntKind.i64.wrap (IntKind.wrap IntKind.u64 (Int.ofNat l.length)*IntKind.wrap IntKind.u64 t)).toNat) (List.map (fun r=>U.int (List.headD r (U.i 0))) (List.replicate (IntKind.i64.wrap (IntKind.wrap IntKind.u64 (Int.ofNat l.length)*IntKind.wrap IntKind.u64 t)).toNat [U.i 0]))))) .bad) .bad)) .bad)):=by kernel_rfl
theorem step {tot i:Nat} {q:List Int} (hi:i<tot) (h0:0<i) (ht:tot≤65536) (hq:q.length=tot):RUN (stOf (sR tot i q)) = .at (sR tot (i+min i (tot-i):Nat) (q.take i++(q.take i).take (min i (tot-i))++q.drop (i+min i (tot-i)))):=by
 rw [step_t];have e1:(0+Int.toNat (i:Int)*1)=i*1:=by omega
 have e2:(0+Int.toNat 0*1)/1=0:=rfl;have e3:Int.toNat (i:Int)-Int.toNat 0=i:=by omega
 have e4:Int.toNat (Int.ofNat tot)-Int.toNat (i:Int)=tot-i:=by show tot-i=tot-i;rfl
 have e5:i*1/1=i:=by omega
 have e6:Int.toNat (i:Int)=i:=rfl;simp only [e1,e2,e3,e4,e5];simp (disch:=omega) only [yS,List.drop_zero,hq];rfl
theorem last {tot i:Nat} {q:List Int} (hi:tot≤i) (hq:q.length=tot):RUNo (stOf (sR tot i q)) = .done (.sl 0 1 0 q.length none) (zseqs [(0,3,.ints .i64 q,true)]) 1:=by
 rw [zwo];subst hq;simp (disch:=omega) only [yS];rfl
theorem loop {l:List Int} {t tot:Nat} (ht:tot=t*l.length) (hs:tot≤65536):∀ (d i:Nat) (q:List Int),tot-i≤d→i≤tot→(i=tot∨∃ a,i=a*l.length∧0<i)→q.length=tot→q.take i=(repI l t).take i→EndZ 102 ctR true (stOf (sR tot i q)) (.slO 0 1 (repI l t).length true) (zseqs [(0,3,.ints .i64 (repI l t),true)]) 1:=by
 have fin:∀ (q:List Int),q.length=tot→q.take tot=(repI l t).take tot→EndZ 102 ctR true (stOf (sR tot tot q)) (.slO 0 1 (repI l t).length true) (zseqs [(0,3,.ints .i64 (repI l t),true)]) 1:=fun q hq he=>by
  rw [List.take_of_length_le (by omega),List.take_of_length_le (by rw [zdd];omega)] at he;rw [← he];exact (EndZ.done (last (Nat.le_refl _) hq)).weak (Weak.sl _ _ _)
 intro d
 induction d with
 | zero=>
  intro i q hd hi _ hq he;have:i=tot:=by omega
  subst this;exact fin q hq he
 | succ d ih=>
  intro i q hd hi ha hq he;rcases ha with rfl|⟨a,hia,h0⟩
  ·exact fin q hq he
  by_cases hlt:i<tot
  ·refine .at zrk (step hlt h0 hs hq) (ih _ _ (by omega) (by omega) ?_ ?_ ?_)
   ·by_cases hc:i≤tot-i
    ·right;exact ⟨a+a,by rw [Nat.min_eq_left hc,Nat.add_mul];omega,by omega⟩
    ·left;rw [Nat.min_eq_right (by omega)];omega
   ·simp only [List.length_append,List.length_take,List.length_drop,hq];omega
   ·have hat:a≤t:=by
     rcases Nat.lt_or_ge t a with h|h
     ·have:=Nat.mul_le_mul_right l.length (Nat.le_of_lt h);omega
     ·exact h
    have hsub:(t-a)*l.length=tot-i:=by rw [Nat.sub_mul];omega
    have hP:repI l t=repI l a++repI l (t-a):=by rw [← zhl];congr 1;omega
    have hlen:(q.take i++(q.take i).take (min i (tot-i))).length=i+min i (tot-i):=by
     simp only [List.length_append,List.length_take,hq];omega
    rw [List.take_left' hlen,he,hP];have hla:(repI l a).length=i:=by rw [zdd];exact hia.symm
    have h9:(repI l a).take (i+min i (tot-i))=repI l a:=List.take_of_length_le (by omega);have h10:i+min i (tot-i)-i=min i (tot-i):=by omega
    rw [List.take_left' hla,List.take_append,hla,h9,h10];congr 1
    symm
    exact zpp _ _ _ _ (by rw [← hia];omega) (by rw [hsub];omega)
  ·have:i=tot:=by omega
   subst this;exact fin q hq he
theorem ends (l:List Int) (k:Nat) (hk:k≤400) (hl:l.length≤2000) (hm:k*l.length≤65536):EndZ 102 ctR true (st0 102 [il l,iv k]) (.slO 0 1 (repI l k).length true) (zseqs [(0,3,.ints .i64 (repI l k),true)]) 1:=by
 have h:=in_t l k;have wu:∀ n:Nat,n≤65536→IntKind.wrap IntKind.u64 (n:Int)=n:=fun n hn=>by rw [IntKind.wrap_u64];omega
 have w1:IntKind.wrap IntKind.u64 (Int.ofNat l.length)=(l.length:Int):=wu _ (by omega);have w2:IntKind.wrap IntKind.u64 (k:Int)=(k:Int):=wu _ (by omega);have w3:(l.length:Int)*(k:Int)=((k*l.length:Nat):Int):=by rw [Int.natCast_mul,Int.mul_comm]
 have w4:IntKind.wrap IntKind.i64 ((k*l.length:Nat):Int)=((k*l.length:Nat):Int):=by simp (disch:=omega) only [zae]
 simp only [w1,w2,w3,w4] at h;generalize htot:k*l.length=tot at *;have d1:¬ (k:Int)<0:=by omega
 have d2:(0:Int)≤(l.length:Int)∧(l.length:Int)≤65536∧(0:Int)≤(k:Int)∧(k:Int)≤65536:=by omega
 have d3:¬ (9223372036854775807:Int)<(tot:Int):=by omega
 have d4:(0:Int)≤(tot:Int):=by omega
 have d5:(tot:Int)≤65536:=by omega
 have z3:(0/1:Nat)=0:=rfl;have t1:Int.toNat (tot:Int)=tot:=rfl;simp only [df d1,dt d2,df d3,dt d4,dt d5,bc_t,bc_f,decide_true,z3,t1,Nat.zero_add,List.length_map,List.length_replicate,List.take_zero,List.nil_append] at h;rw [zvb (by omega),bc_t] at h;refine .at zrk h (loop htot.symm hm tot (min l.length tot) _ (by omega) (by omega) ?_ ?_ ?_)
 ·rcases Nat.eq_zero_or_pos k with rfl|hk0
  ·left;omega
  ·rcases Nat.eq_zero_or_pos l.length with h0|h0
   ·left;rw [← htot,h0];omega
   ·have:1*l.length≤k*l.length:=Nat.mul_le_mul_right _ hk0;right;exact ⟨1,by omega,by omega⟩
 ·simp only [List.length_append,List.length_take,List.length_drop,List.length_map,List.length_replicate];omega
 ·rw [List.take_left' (by rw [List.length_take];omega)];rcases Nat.eq_zero_or_pos k with rfl|hk0
  ·have:tot=0:=by omega
   subst this;simp
  ·have e:=zhk l 1 k hk0 (min l.length tot) (by omega);rw [e,show repI l 1=l from List.append_nil l]
end PRep
noncomputable def spRepI:ZCT:=fun ax=>match ax with
 | [.lst (.ints .i64 l),.v (.int .i64 k)]=>some ⟨decide (0≤k∧k≤400∧l.length≤2000∧k*(l.length:Int)≤65536),.slO 0 1 (repI l k.toNat).length true,[(0,3,.ints .i64 (repI l k.toNat),true)],1⟩
 | _=>none
theorem zo2:ZCtOk Try.prog 102 spRepI:=fun γ w us ax r hs hc hax hN hfz=>by
 unfold spRepI at hs;split at hs
 case h_2=>cases hs
 rename_i l k;obtain ⟨rfl⟩:=Option.some.inj hs;have hc_0:decide (0≤k∧k≤400∧l.length≤2000∧k*(l.length:Int)≤65536)=true:=hc;have hc:=of_decide_eq_true hc_0;exact EndZ.calls (by obtain ⟨k,rfl⟩:=Int.eq_ofNat_of_zero_le hc.1;exact PRep.ends l k (by omega) hc.2.2.1 (by have h9:=hc.2.2.2;rw [← Int.natCast_mul] at h9;omega)) zrk (by kernel_rfl) hax hN hfz
noncomputable def ctPW:Tr ZCC:=(((Tr.nil.put 98 (some (dC spPPer))).put 100 (some (dC spPLst))).put 101 (some (dC spPUnw))).put 102 (some (dC spRepI))
theorem zbz:ZCtsOk Try.prog ctPW:=((((ZCtsOk.nil _).add rfl zpa).add rfl zpc).add rfl zo9).add rfl zo2
namespace PWor
noncomputable def RUN (s:ES):ZF:=RZs 49 ctPW [(atS 2 136 2,[[(0,none),(1,none),(7,none),(8,none)],[],[(1,none),(2,none),(3,none)]]),(atS 1 99 3,[[(0,none),(2,none),(3,none),(9,none),(10,none)],[(1,none),(2,none),(3,none)]]),(atS 1 95 3,[[(0,none),(5,none),(9,none),(10,none),(11,none)],[(1,none),(2,none),(3,none)]]),(atS 0 49 18,[[(11,none),(54,none),(55,none),(56,none)]])] [] false s
noncomputable def sA (n c:Int) (F:List (List U)) (i:Int):NS:=⟨[⟨136,19,[(0,(EV.lst (SyC.recs [(Sh.list [(Sh.int IntKind.i64)])] F))),(1,(EV.fn 97 [(EV.ptr 0 0)])),(7,(iv (Int.ofNat (List.length F)))),(8,iv i)],[.it (.code (nav [1,0,1,0,0] (bodyOf Try.f136))),.it (.inLoop (nav [1,0,1,0,0] (bodyOf Try.f136))),.it (.inBlock 0),.it (.code (nav [1,1] (bodyOf Try.f136)))],[],Option.none⟩,⟨96,9,[],[.ops (opsOf (nav [1,0] (bodyOf Try.f96))) ((opsOf (nav [1,0] (bodyOf Try.f96))).toList.drop 2),.it (.code (nav [1,1] (bodyOf Try.f96)))],[],Option.none⟩,⟨49,69,[(1,(iv c)),(2,(EV.lst (SyC.recs [(Sh.list [(Sh.int IntKind.i64)])] F))),(3,(EV.ptr 0 0))],[.ops (opsOf (nav [1,1,0,0] (bodyOf Try.f49))) ((opsOf (nav [1,1,0,0] (bodyOf Try.f49))).toList.drop 2),.it (.code (nav [1,1,0,1] (bodyOf Try.f49))),.it (.code (nav [1,1,1] (bodyOf Try.f49)))],[],Option.none⟩],[(0,(EK.cells 3 [(iv n)] true))],1⟩
noncomputable def sB (n c:Int) (F:List (List U)) (e:List Int) (i:Int):NS:=⟨[⟨99,25,[(0,(EV.ptr 0 0)),(2,(EV.ptr 1 0)),(3,(EV.ptr 2 0)),(9,(iv n)),(10,iv i)],[.it (.code (nav [1,1,0,1,0,0] (bodyOf Try.f99))),.it (.inLoop (nav [1,1,0,1,0,0] (bodyOf Try.f99))),.it (.inBlock 0),.it (.code (nav [1,1,1] (bodyOf Try.f99)))],[],Option.none⟩,⟨49,69,[(1,(iv c)),(2,fl F),(3,(EV.ptr 3 0))],[.ops (opsOf (nav [1,1,1,1,0] (bodyOf Try.f49))) ((opsOf (nav [1,1,1,1,0] (bodyOf Try.f49))).toList.drop 1),.it (.code (nav [1,1,1,1,1] (bodyOf Try.f49)))],[],Option.none⟩],[(0,(EK.cells 92 [(iv n),(iv (0)),(EV.v (Value.slice Option.none 0 0))] true)),(1,(EK.seq 95 (SyC.ints IntKind.u8 [(0),(0),(0),(0),(0),(0),(0),(0),(0),(0),(0),(0)]) true)),(2,EK.seq 95 (.ints .u8 e) true),(3,(EK.cells 3 [(iv n)] true))],4⟩
noncomputable def sC (n c:Int) (F:List (List U)) (e:List Int) (m:Nat) (z:Int) (d:List Int) (i:Int):NS:=⟨[⟨95,25,[(0,(EV.ptr 0 0)),(5,EV.slO 1 1 m true),(9,EV.slO 1 1 m true),(10,iv z),(11,iv i)],[.it (.code (nav [1,1,0,1,0,0] (bodyOf Try.f95))),.it (.inLoop (nav [1,1,0,1,0,0] (bodyOf Try.f95))),.it (.inBlock 0),.it (.code (nav [1,1,1] (bodyOf Try.f95)))],[],Option.none⟩,⟨49,69,[(1,(iv c)),(2,(EV.lst (SyC.recs [(Sh.list [(Sh.int IntKind.i64)])] F))),(3,(EV.ptr 2 0))],[.ops (opsOf (nav [1,1,1,1,1,0] (bodyOf Try.f49))) ((opsOf (nav [1,1,1,1,1,0] (bodyOf Try.f49))).toList.drop 1),.it (.code (nav [1,1,1,1,1,1] (bodyOf Try.f49)))],[],Option.none⟩],[(0,(EK.seq 95 (SyC.ints IntKind.u8 e) true)),(1,EK.seq 3 (.ints .i64 d) true),(2,EK.cells 3 [iv n] true)],3⟩
noncomputable def sD (F:List (List U)) (m:Nat) (z:Int) (q:List Int) (nn:Bool) (i:Int):NS:=⟨[⟨49,69,[(11,EV.slO 0 1 m nn),(54,(EV.lst (SyC.recs [(Sh.list [(Sh.int IntKind.i64)])] F))),(55,iv z),(56,iv i)],[.it (.code (nav [1,1,1,1,1,1,1,1,1,1,1,0,1,0,0] (bodyOf Try.f49))),.it (.inLoop (nav [1,1,1,1,1,1,1,1,1,1,1,0,1,0,0] (bodyOf Try.f49))),.it (.inBlock 0),.it (.code (nav [1,1,1,1,1,1,1,1,1,1,1,1] (bodyOf Try.f49)))],[],Option.none⟩],[(0,EK.seq 3 (.ints .i64 q) nn)],1⟩
theorem in_t (n c:Int) (F:List (List U)):RUN (st0 49 [iv n,iv c,fl F])=(bc (decide (n<1)) (.done (EV.tup [(EV.v (Value.slice Option.none 0 0)),(iv (2))]) [] 0) (bc (decide (12<n)) (.done (EV.tup [(EV.v (Value.slice Option.none 0 0)),(iv (2))]) [] 0) (.at (sA n c F 0)))):=by kernel_rfl
theorem a_t (n c:Int) (F:List (List U)) (i:Int):RUN (stOf (sA n c F i))=(bc (decide (i<Int.ofNat F.length)) (bc (bc (bc (decide (0≤i)) (Nat.blt i.toNat F.length) false) true false) (bc (bc (Nat.blt i.toNat F.length) true false) (bc (Int.ofNat (List.map (fun r=>U.int (List.headD r (U.i 0))) (U.list ((F.getD i.toNat []).getD 0 (U.i 0)))).length != n) (bc (decide (0≤i)) (.done (EV.tup [(EV.v (Value.slice Option.none 0 0)),(iv (6))]) [] 0) (.at (sB n c F (List.set (List.set (List.set (List.set (List.set (List.set (List.set (List.set (List.set (List.set (List.set (List.set (zerosL 12) (0:Int).toNat (IntKind.wrap IntKind.u8 (0:Int))) (IntKind.i64.wrap ((0:Int)+1)).toNat (IntKind.wrap IntKind.u8 (IntKind.i64.wrap ((0:Int)+1)))) (IntKind.i64.wrap (IntKind.i64.wrap ((0:Int)+1)+1)).toNat (IntKind.wrap IntKind.u8 (IntKind.i64.wrap (IntKind.i64.wrap ((0:Int)+1)+1)))) (IntKind.i64.wrap (IntKind.i64.wrap (IntKind.i64.wrap ((0:Int)+1)+1)+1)).toNat (IntKind.wrap IntKind.u8 (IntKind.i64.wrap (IntKind.i64.wrap (IntKind.i64.wrap ((0:Int)+1)+1)+1)))) (IntKind.i64.wrap (IntKind.i64.wrap (IntKind.i64.wrap (IntKind.i64.wrap ((0:Int)+1)+1)+1)+1)).toNat (IntKind.wrap IntKind.u8 (IntKind.i64.wrap (IntKind.i64.wrap (IntKind.i64.wrap (IntKind.i64.wrap ((0:Int)+1)+1)+1)+1)))) (IntKind.i64.wrap (IntKind.i64.wrap (IntKind.i64.wrap (IntKind.i64.wrap (IntKind.i64.wrap ((0:Int)+1)+1)+1)+1)+1)).toNat (IntKind.wrap IntKind.u8 (IntKind.i64.wrap (IntKind.i64.wrap (IntKind.i64.wrap (IntKind.i64.wrap (IntKind.i64.wrap ((0:Int)+1)+1)+1)+1)+1)))) (IntKind.i64.wrap (IntKind.i64.wrap (IntKind.i64.wrap (IntKind.i64.wrap (IntKind.i64.wrap (IntKind.i64.wrap ((0:Int)+1)+1)+1)+1)+1)+1)).toNat (IntKind.wrap IntKind.u8 (IntKind.i64.wrap (IntKind.i64.wrap (IntKind.i64.wrap (IntKind.i64.wrap (IntKind.i64.wrap (IntKind.i64.wrap ((0:Int)+1)+1)+1)+1)+1)+1)))) (IntKind.i64.wrap (IntKind.i64.wrap (IntKind.i64.wrap (IntKind.i64.wrap (IntKind.i64.wrap (IntKind.i64.wrap (IntKind.i64.wrap ((0:Int)+1)+1)+1)+1)+1)+1)+1)).toNat (IntKind.wrap IntKind.u8 (IntKind.i64.wrap (IntKind.i64.wrap (IntKind.i64.wrap (IntKind.i64.wrap (IntKind.i64.wrap (IntKind.i64.wrap (IntKind.i64.wrap ((0:Int)+1)+1)+1)+1)+1)+1)+1)))) (IntKind.i64.wrap (IntKind.i64.wrap (IntKind.i64.wrap (IntKind.i64.wrap (IntKind.i64.wrap (IntKind.i64.wrap (IntKind.i64.wrap (IntKind.i64.wrap ((0:Int)+1)+1)+1)+1)+1)+1)+1)+1)).toNat (IntKind.wrap IntKind.u8 (IntKind.i64.wrap (IntKind.i64.wrap (IntKind.i64.wrap (IntKind.i64.wrap (IntKind.i64.wrap (IntKind.i64.wrap (IntKind.i64.wrap (IntKind.i64.wrap ((0:Int)+1)+1)+1)+1)+1)+1)+1)+1)))) (IntKind.i64.wrap (IntKind.i64.wrap (IntKind.i64.wrap (IntKind.i64.wrap (IntKind.i64.wrap (IntKind.i64.wrap (IntKind.i64.wrap (IntKind.i64.wrap (IntKind.i64.wrap ((0:Int)+1)+1)+1)+1)+1)+1)+1)+1)+1)).toNat (IntKind.wrap IntKind.u8 (IntKind.i64.wrap (IntKind.i64.wrap (IntKind.i64.wrap (IntKind.i64.wrap (IntKind.i64.wrap (IntKind.i64.wrap (IntKind.i64.wrap (IntKind.i64.wrap (IntKind.i64.wrap ((0:Int)+1)+1)+1)+1)+1)+1)+1)+1)+1)))) (IntKind.i64.wrap (IntKind.i64.wrap (IntKind.i64.wrap (IntKind.i64.wrap (IntKind.i64.wrap (IntKind.i64.wrap (IntKind.i64.wrap (IntKind.i64.wrap (IntKind.i64.wrap (IntKind.i64.wrap ((0:Int)+1)+1)+1)+1)+1)+1)+1)+1)+1)+1)).toNat (IntKind.wrap IntKind.u8 (IntKind.i64.wrap (IntKind.i64.wrap (IntKind.i64.wrap (IntKind.i64.wrap (IntKind.i64.wrap (IntKind.i64.wrap (IntKind.i64.wrap (IntKind.i64.wrap (IntKind.i64.wrap (IntKind.i64.wrap ((0:Int)+1)+1)+1)+1)+1)+1)+1)+1)+1)+1)))) (IntKind.i64.wrap (IntKind.i64.wrap (IntKind.i64.wrap (IntKind.i64.wrap (IntKind.i64.wrap (IntKind.i64.wrap (IntKind.i64.wrap (IntKind.i64.wrap (IntKind.i64.wrap (IntKind.i64.wrap (IntKind.i64.wrap ((0:Int)+1)+1)+1)+1)+1)+1)+1)+1)+1)+1)+1)).toNat (IntKind.wrap IntKind.u8 (IntKind.i64.wrap (IntKind.i64.wrap (IntKind.i64.wrap (IntKind.i64.wrap (IntKind.i64.wrap (IntKind.i64.wrap (IntKind.i64.wrap (IntKind.i64.wrap (IntKind.i64.wrap (IntKind.i64.wrap (IntKind.i64.wrap ((0:Int)+1)+1)+1)+1)+1)+1)+1)+1)+1)+1)+1)))) 0))) (bc (bc (decide (1≤(List.map (fun r=>U.int (List.headD r (U.i 0))) (U.list ((F.getD i.toNat []).getD 0 (U.i 0)))).length∧(List.map (fun r=>U.int (List.headD r (U.i 0))) (U.list ((F.getD i.toNat []).getD 0 (U.i 0)))).length≤100)) true false) (bc (!plF 0 (srt (List.map (fun r=>U.int (List.headD r (U.i 0))) (U.list ((F.getD i.toNat []).getD 0 (U.i 0)))))) (bc (decide (0≤i)) (.done (EV.tup [(EV.v (Value.slice Option.none 0 0)),(iv (6))]) [] 0) (.at (sB n c F (List.set (List.set (List.set (List.set (List.set (List.set (List.set (List.set (List.set (List.set (List.set (List.set (zerosL 12) (0:Int).toNat (IntKind.wrap IntKind.u8 (0:Int))) (IntKind.i64.wrap ((0:Int)+1)).toNat (IntKind.wrap IntKind.u8 (IntKind.i64.wrap ((0:Int)+1)))) (IntKind.i64.wrap (IntKind.i64.wrap ((0:Int)+1)+1)).toNat (IntKind.wrap IntKind.u8 (IntKind.i64.wrap (IntKind.i64.wrap ((0:Int)+1)+1)))) (IntKind.i64.wrap (IntKind.i64.wrap (IntKind.i64.wrap ((0:Int)+1)+1)+1)).toNat (IntKind.wrap IntKind.u8 (IntKind.i64.wrap (IntKind.i64.wrap (IntKind.i64.wrap ((0:Int)+1)+1)+1)))) (IntKind.i64.wrap (IntKind.i64.wrap (IntKind.i64.wrap (IntKind.i64.wrap ((0:Int)+1)+1)+1)+1)).toNat (IntKind.wrap IntKind.u8 (IntKind.i64.wrap (IntKind.i64.wrap (IntKind.i64.wrap (IntKind.i64.wrap ((0:Int)+1)+1)+1)+1)))) (IntKind.i64.wrap (IntKind.i64.wrap (IntKind.i64.wrap (IntKind.i64.wrap (IntKind.i64.wrap ((0:Int)+1)+1)+1)+1)+1)).toNat (IntKind.wrap IntKind.u8 (IntKind.i64.wrap (IntKind.i64.wrap (IntKind.i64.wrap (IntKind.i64.wrap (IntKind.i64.wrap ((0:Int)+1)+1)+1)+1)+1)))) (IntKind.i64.wrap (IntKind.i64.wrap (IntKind.i64.wrap (IntKind.i64.wrap (IntKind.i64.wrap (IntKind.i64.wrap ((0:Int)+1)+1)+1)+1)+1)+1)).toNat (IntKind.wrap IntKind.u8 (IntKind.i64.wrap (IntKind.i64.wrap (IntKind.i64.wrap (IntKind.i64.wrap (IntKind.i64.wrap (IntKind.i64.wrap ((0:Int)+1)+1)+1)+1)+1)+1)))) (IntKind.i64.wrap (IntKind.i64.wrap (IntKind.i64.wrap (IntKind.i64.wrap (IntKind.i64.wrap (IntKind.i64.wrap (IntKind.i64.wrap ((0:Int)+1)+1)+1)+1)+1)+1)+1)).toNat (IntKind.wrap IntKind.u8 (IntKind.i64.wrap (IntKind.i64.wrap (IntKind.i64.wrap (IntKind.i64.wrap (IntKind.i64.wrap (IntKind.i64.wrap (IntKind.i64.wrap ((0:Int)+1)+1)+1)+1)+1)+1)+1)))) (IntKind.i64.wrap (IntKind.i64.wrap (IntKind.i64.wrap (IntKind.i64.wrap (IntKind.i64.wrap (IntKind.i64.wrap (IntKind.i64.wrap (IntKind.i64.wrap ((0:Int)+1)+1)+1)+1)+1)+1)+1)+1)).toNat (IntKind.wrap IntKind.u8 (IntKind.i64.wrap (IntKind.i64.wrap (IntKind.i64.wrap (IntKind.i64.wrap (IntKind.i64.wrap (IntKind.i64.wrap (IntKind.i64.wrap (IntKind.i64.wrap ((0:Int)+1)+1)+1)+1)+1)+1)+1)+1)))) (IntKind.i64.wrap (IntKind.i64.wrap (IntKind.i64.wrap (IntKind.i64.wrap (IntKind.i64.wrap (IntKind.i64.wrap (IntKind.i64.wrap (IntKind.i64.wrap (IntKind.i64.wrap ((0:Int)+1)+1)+1)+1)+1)+1)+1)+1)+1)).toNat (IntKind.wrap IntKind.u8 (IntKind.i64.wrap (IntKind.i64.wrap (IntKind.i64.wrap (IntKind.i64.wrap (IntKind.i64.wrap (IntKind.i64.wrap (IntKind.i64.wrap (IntKind.i64.wrap (IntKind.i64.wrap ((0:Int)+1)+1)+1)+1)+1)+1)+1)+1)+1)))) (IntKind.i64.wrap (IntKind.i64.wrap (IntKind.i64.wrap (IntKind.i64.wrap (IntKind.i64.wrap (IntKind.i64.wrap (IntKind.i64.wrap (IntKind.i64.wrap (IntKind.i64.wrap (IntKind.i64.wrap ((0:Int)+1)+1)+1)+1)+1)+1)+1)+1)+1)+1)).toNat (IntKind.wrap IntKind.u8 (IntKind.i64.wrap (IntKind.i64.wrap (IntKind.i64.wrap (IntKind.i64.wrap (IntKind.i64.wrap (IntKind.i64.wrap (IntKind.i64.wrap (IntKind.i64.wrap (IntKind.i64.wrap (IntKind.i64.wrap ((0:Int)+1)+1)+1)+1)+1)+1)+1)+1)+1)+1)))) (IntKind.i64.wrap (IntKind.i64.wrap (IntKind.i64.wrap (IntKind.i64.wrap (IntKind.i64.wrap (IntKind.i64.wrap (IntKind.i64.wrap (IntKind.i64.wrap (IntKind.i64.wrap (IntKind.i64.wrap (IntKind.i64.wrap ((0:Int)+1)+1)+1)+1)+1)+1)+1)+1)+1)+1)+1)).toNat (IntKind.wrap IntKind.u8 (IntKind.i64.wrap (IntKind.i64.wrap (IntKind.i64.wrap (IntKind.i64.wrap (IntKind.i64.wrap (IntKind.i64.wrap (IntKind.i64.wrap (IntKind.i64.wrap (IntKind.i64.wrap (IntKind.i64.wrap (IntKind.i64.wrap ((0:Int)+1)+1)+1)+1)+1)+1)+1)+1)+1)+1)+1)))) 0))) (.at (sA n c F (IntKind.i64.wrap (i+1))))) .bad)) .bad) .bad) (.at (sB n c F (List.set (List.set (List.set (List.set (List.set (List.set (List.set (List.set (List.set (List.set (List.set (List.set (zerosL 12) (0:Int).toNat (IntKind.wrap IntKind.u8 (0:Int))) (IntKind.i64.wrap ((0:Int)+1)).toNat (IntKind.wrap IntKind.u8 (IntKind.i64.wrap ((0:Int)+1)))) (IntKind.i64.wrap (IntKind.i64.wrap ((0:Int)+1)+1)).toNat (IntKind.wrap IntKind.u8 (IntKind.i64.wrap (IntKind.i64.wrap ((0:Int)+1)+1)))) (IntKind.i64.wrap (IntKind.i64.wrap (IntKind.i64.wrap ((0:Int)+1)+1)+1)).toNat (IntKind.wrap IntKind.u8 (IntKind.i64.wrap (IntKind.i64.wrap (IntKind.i64.wrap ((0:Int)+1)+1)+1)))) (IntKind.i64.wrap (IntKind.i64.wrap (IntKind.i64.wrap (IntKind.i64.wrap ((0:Int)+1)+1)+1)+1)).toNat (IntKind.wrap IntKind.u8 (IntKind.i64.wrap (IntKind.i64.wrap (IntKind.i64.wrap (IntKind.i64.wrap ((0:Int)+1)+1)+1)+1)))) (IntKind.i64.wrap (IntKind.i64.wrap (IntKind.i64.wrap (IntKind.i64.wrap (IntKind.i64.wrap ((0:Int)+1)+1)+1)+1)+1)).toNat (IntKind.wrap IntKind.u8 (IntKind.i64.wrap (IntKind.i64.wrap (IntKind.i64.wrap (IntKind.i64.wrap (IntKind.i64.wrap ((0:Int)+1)+1)+1)+1)+1)))) (IntKind.i64.wrap (IntKind.i64.wrap (IntKind.i64.wrap (IntKind.i64.wrap (IntKind.i64.wrap (IntKind.i64.wrap ((0:Int)+1)+1)+1)+1)+1)+1)).toNat (IntKind.wrap IntKind.u8 (IntKind.i64.wrap (IntKind.i64.wrap (IntKind.i64.wrap (IntKind.i64.wrap (IntKind.i64.wrap (IntKind.i64.wrap ((0:Int)+1)+1)+1)+1)+1)+1)))) (IntKind.i64.wrap (IntKind.i64.wrap (IntKind.i64.wrap (IntKind.i64.wrap (IntKind.i64.wrap (IntKind.i64.wrap (IntKind.i64.wrap ((0:Int)+1)+1)+1)+1)+1)+1)+1)).toNat (IntKind.wrap IntKind.u8 (IntKind.i64.wrap (IntKind.i64.wrap (IntKind.i64.wrap (IntKind.i64.wrap (IntKind.i64.wrap (IntKind.i64.wrap (IntKind.i64.wrap ((0:Int)+1)+1)+1)+1)+1)+1)+1)))) (IntKind.i64.wrap (IntKind.i64.wrap (IntKind.i64.wrap (IntKind.i64.wrap (IntKind.i64.wrap (IntKind.i64.wrap (IntKind.i64.wrap (IntKind.i64.wrap ((0:Int)+1)+1)+1)+1)+1)+1)+1)+1)).toNat (IntKind.wrap IntKind.u8 (IntKind.i64.wrap (IntKind.i64.wrap (IntKind.i64.wrap (IntKind.i64.wrap (IntKind.i64.wrap (IntKind.i64.wrap (IntKind.i64.wrap (IntKind.i64.wrap ((0:Int)+1)+1)+1)+1)+1)+1)+1)+1)))) (IntKind.i64.wrap (IntKind.i64.wrap (IntKind.i64.wrap (IntKind.i64.wrap (IntKind.i64.wrap (IntKind.i64.wrap (IntKind.i64.wrap (IntKind.i64.wrap (IntKind.i64.wrap ((0:Int)+1)+1)+1)+1)+1)+1)+1)+1)+1)).toNat (IntKind.wrap IntKind.u8 (IntKind.i64.wrap (IntKind.i64.wrap (IntKind.i64.wrap (IntKind.i64.wrap (IntKind.i64.wrap (IntKind.i64.wrap (IntKind.i64.wrap (IntKind.i64.wrap (IntKind.i64.wrap ((0:Int)+1)+1)+1)+1)+1)+1)+1)+1)+1)))) (IntKind.i64.wrap (IntKind.i64.wrap (IntKind.i64.wrap (IntKind.i64.wrap (IntKind.i64.wrap (IntKind.i64.wrap (IntKind.i64.wrap (IntKind.i64.wrap (IntKind.i64.wrap (IntKind.i64.wrap ((0:Int)+1)+1)+1)+1)+1)+1)+1)+1)+1)+1)).toNat (IntKind.wrap IntKind.u8 (IntKind.i64.wrap (IntKind.i64.wrap (IntKind.i64.wrap (IntKind.i64.wrap (IntKind.i64.wrap (IntKind.i64.wrap (IntKind.i64.wrap (IntKind.i64.wrap (IntKind.i64.wrap (IntKind.i64.wrap ((0:Int)+1)+1)+1)+1)+1)+1)+1)+1)+1)+1)))) (IntKind.i64.wrap (IntKind.i64.wrap (IntKind.i64.wrap (IntKind.i64.wrap (IntKind.i64.wrap (IntKind.i64.wrap (IntKind.i64.wrap (IntKind.i64.wrap (IntKind.i64.wrap (IntKind.i64.wrap (IntKind.i64.wrap ((0:Int)+1)+1)+1)+1)+1)+1)+1)+1)+1)+1)+1)).toNat (IntKind.wrap IntKind.u8 (IntKind.i64.wrap (IntKind.i64.wrap (IntKind.i64.wrap (IntKind.i64.wrap (IntKind.i64.wrap (IntKind.i64.wrap (IntKind.i64.wrap (IntKind.i64.wrap (IntKind.i64.wrap (IntKind.i64.wrap (IntKind.i64.wrap ((0:Int)+1)+1)+1)+1)+1)+1)+1)+1)+1)+1)+1)))) 0))):=by kernel_rfl
theorem b_t (n c:Int) (F:List (List U)) (e:List Int) (i:Int):RUN (stOf (sB n c F e i))=(bc (decide (i<n)) (bc (bc (bc (decide (0≤i)) (Nat.blt i.toNat 12) false) true false) (bc (Nat.blt i.toNat e.length) (.at (sB n c F (List.set e i.toNat (IntKind.wrap IntKind.u8 (IntKind.i64.wrap (IntKind.i64.wrap (n-(1:Int))-i)))) (IntKind.i64.wrap (i+1)))) .bad) .bad) (bc (bc (Nat.beq 12 e.length) true false) (bc (bc (Nat.beq e.length 12) (Nat.beq [(0:Int),(0:Int),(0:Int),(0:Int),(0:Int),(0:Int),(0:Int),(0:Int),(0:Int),(0:Int),(0:Int),(0:Int)].length 12) false) (bc (bc (Nat.beq 12 e.length) true false) (bc (bc (Nat.beq e.length 12) (Nat.beq (zerosL 12).length 12) false) (bc (bc (decide (0≤n)) (bc (decide (n≤n)) (decide (n≤65536)) false) false) (.at (sC n c F e (zerosL n.toNat).length (Int.ofNat (zerosL n.toNat).length) (zerosL n.toNat) 0)) .bad) .bad) .bad) .bad) .bad)):=by kernel_rfl
theorem c_t (n c:Int) (F:List (List U)) (e:List Int) (m:Nat) (z:Int) (d:List Int) (i:Int):RUN (stOf (sC n c F e m z d i))=(bc (decide (i<z)) (bc (bc (bc (decide (0≤i)) (Nat.blt i.toNat 12) false) true false) (bc (bc (Nat.blt i.toNat e.length) true false) (bc (bc (bc (decide (0≤i)) (Nat.blt i.toNat m) false) true false) (bc (Nat.blt i.toNat d.length) (.at (sC n c F e m z (List.set d i.toNat (IntKind.i64.wrap (e.getD i.toNat 0))) (IntKind.i64.wrap (i+1)))) .bad) .bad) .bad) .bad) (bc (bc (bc (Nat.beq m d.length) true false) (decide (1≤d.length∧InR d∧Dis d)) false) (bc (n==1) (bc (decide (400<IntKind.i64.wrap ((0:Int)*Int.ofNat (lwo d).length))) (.done (EV.tup [(EV.v (Value.slice Option.none 0 0)),(iv (3))]) [] 0) (bc (decide ((0≤if (400:Int)<0 then (400:Int) else (0:Int))∧(if (400:Int)<0 then (400:Int) else (0:Int))≤400∧(lwo d).length≤2000∧(if (400:Int)<0 then (400:Int) else (0:Int))*(Nat.cast (lwo d).length:Int)≤65536)) (.at (sD F (repI (lwo d) (if (400:Int)<0 then (400:Int) else (0:Int)).toNat).length (Int.ofNat F.length) (repI (lwo d) (if (400:Int)<0 then (400:Int) else (0:Int)).toNat) true 0)) .bad)) (bc (decide (400<c)) (.done (EV.tup [(EV.v (Value.slice Option.none 0 0)),(iv (3))]) [] 0) (bc (decide (c<(-400:Int))) (.done (EV.tup [(EV.v (Value.slice Option.none 0 0)),(iv (3))]) [] 0) (bc (decide (c<0)) (bc (decide ((lwo d).length≤2000∧Sml (lwo d))) (bc (decide (400<IntKind.i64.wrap (IntKind.i64.wrap ((0:Int)-c)*Int.ofNat (invl (lwo d)).length))) (.done (EV.tup [(EV.v (Value.slice Option.none 0 0)),(iv (3))]) [] 0) (bc (decide ((0≤if 400<IntKind.i64.wrap ((0:Int)-c) then (400:Int) else IntKind.i64.wrap ((0:Int)-c))∧(if 400<IntKind.i64.wrap ((0:Int)-c) then (400:Int) else IntKind.i64.wrap ((0:Int)-c))≤400∧(invl (lwo d)).length≤2000∧(if 400<IntKind.i64.wrap ((0:Int)-c) then (400:Int) else IntKind.i64.wrap ((0:Int)-c))*(Nat.cast (invl (lwo d)).length:Int)≤65536)) (.at (sD F (repI (invl (lwo d)) (if 400<IntKind.i64.wrap ((0:Int)-c) then (400:Int) else IntKind.i64.wrap ((0:Int)-c)).toNat).length (Int.ofNat F.length) (repI (invl (lwo d)) (if 400<IntKind.i64.wrap ((0:Int)-c) then (400:Int) else IntKind.i64.wrap ((0:Int)-c)).toNat) true 0)) .bad)) .bad) (bc (decide (400<IntKind.i64.wrap (c*Int.ofNat (lwo d).length))) (.done (EV.tup [(EV.v (Value.slice Option.none 0 0)),(iv (3))]) [] 0) (bc (decide ((0≤if 400<c then (400:Int) else c)∧(if 400<c then (400:Int) else c)≤400∧(lwo d).length≤2000∧(if 400<c then (400:Int) else c)*(Nat.cast (lwo d).length:Int)≤65536)) (.at (sD F (repI (lwo d) (if 400<c then (400:Int) else c).toNat).length (Int.ofNat F.length) (repI (lwo d) (if 400<c then (400:Int) else c).toNat) true 0)) .bad)))))) .bad)):=by kernel_rfl
theorem d_t (F:List (List U)) (m:Nat) (z:Int) (q:List Int) (nn:Bool) (i:Int):RUN (stOf (sD F m z q nn i))=(bc (decide (i<z)) (bc (bc (bc (decide (0≤i)) (Nat.blt i.toNat F.length) false) true false) (bc (bc (Nat.blt i.toNat F.length) true false) (bc (decide (1≤(List.map (fun r=>U.int (List.headD r (U.i 0))) (U.list ((F.getD i.toNat []).getD 0 (U.i 0)))).length∧InR (List.map (fun r=>U.int (List.headD r (U.i 0))) (U.list ((F.getD i.toNat []).getD 0 (U.i 0))))∧Dis (List.map (fun r=>U.int (List.headD r (U.i 0))) (U.list ((F.getD i.toNat []).getD 0 (U.i 0)))))) (bc (bc (Nat.beq m q.length) (bc (Nat.ble (m+(lwo (List.map (fun r=>U.int (List.headD r (U.i 0))) (U.list ((F.getD i.toNat []).getD 0 (U.i 0))))).length) 65536) (bc nn true (bc nn false true)) false) false) (bc (decide (400<Int.ofNat (q++lwo (List.map (fun r=>U.int (List.headD r (U.i 0))) (U.list ((F.getD i.toNat []).getD 0 (U.i 0))))).length)) (.done (EV.tup [(EV.v (Value.slice Option.none 0 0)),(iv (3))]) [] 0) (.at (sD F (q++lwo (List.map (fun r=>U.int (List.headD r (U.i 0))) (U.list ((F.getD i.toNat []).getD 0 (U.i 0))))).length z (q++lwo (List.map (fun r=>U.int (List.headD r (U.i 0))) (U.list ((F.getD i.toNat []).getD 0 (U.i 0))))) (bc nn true (Nat.blt 0 (lwo (List.map (fun r=>U.int (List.headD r (U.i 0))) (U.list ((F.getD i.toNat []).getD 0 (U.i 0))))).length)) (IntKind.i64.wrap (i+1))))) .bad) .bad) .bad) .bad) (bc (bc (Nat.beq m q.length) true false) (.done (EV.tup [(il q),(iv (0))]) [] 0) .bad)):=by kernel_rfl
theorem badF (n:Nat) (p:List Int):prm n p=bc ((p.length:Int) != n) false (plF 0 (srt p)):=by
 unfold prm
 by_cases h:p.length=n
 ·rw [zpw p n h];have e1:((p.length:Int)==n)=true:=by simp [h]
  have e2:((p.length:Int) != n)=false:=by simp [h]
  rw [e1,e2,bc_f,bc_b]
 ·have e1:((p.length:Int)==n)=false:=by simp;omega
  have e2:((p.length:Int) != n)=true:=by simp;omega
  rw [e1,e2,bc_t,zla]
theorem stepA {n:Nat} {c:Int} {F:List (List U)} {i:Nat} (hi:i<F.length) (hF:F.length≤200) (hn:1≤n) (hn2:n≤12):RUN (stOf (sA n c F i))=bc (!prm n (fac F[i])) (.done (.tup [.v (.slice none 0 0),iv 6]) [] 0) (.at (sA n c F (i+1:Nat))):=by
 rw [a_t,badF];have e:F.getD i []=F[i]:=zag hi;rw [zcx,e];have e2:List.map (fun r=>U.int (List.headD r (U.i 0))) (U.list (List.getD F[i] 0 (U.i 0)))=fac F[i]:=rfl;rw [e2]
 by_cases h:(fac F[i]).length=n
 ·have e3:(((fac F[i]).length:Int) != (n:Int))=false:=by simp [h]
  simp (disch:=omega) only [yS,e3];cases plF 0 (srt (fac F[i])) <;> rfl
 ·have e3:(((fac F[i]).length:Int) != (n:Int))=true:=by simp;omega
  simp (disch:=omega) only [yS,e3];rfl
noncomputable abbrev e0:List Int:=[0,1,2,3,4,5,6,7,8,9,10,11]
theorem lastA {n:Nat} {c:Int} {F:List (List U)} {i:Nat} (hi:F.length≤i):RUN (stOf (sA n c F i)) = .at (sB n c F e0 (0:Nat)):=by
 rw [a_t];simp (disch:=omega) only [yS];rfl
theorem badA {n:Nat} {c:Int} {F:List (List U)} (hF:F.length≤200) (hn:1≤n) (hn2:n≤12):∀ (k i:Nat),i+k=F.length→okF n (F.drop i)=false→EndZ 49 ctPW false (stOf (sA n c F i)) (.tup [.v (.slice none 0 0),iv 6]) [] 0
 | 0,i,h,hb=>by
  rw [List.drop_eq_nil_of_le (by omega)] at hb;cases hb
 | k+1,i,h,hb=>by
  have hi:i<F.length:=by omega
  have h1:=stepA (c:=c) hi hF hn hn2;rw [List.drop_eq_getElem_cons hi] at hb;unfold okF at hb;rw [List.all_cons] at hb
  cases hp:prm n (fac F[i]) with
  | false=>
   rw [hp] at h1;exact .done h1
  | true=>
   rw [hp] at h1 hb;exact .at zbz h1 (badA hF hn hn2 k (i+1) (by omega) hb)
theorem goodA {n:Nat} {c:Int} {F:List (List U)} (hF:F.length≤200) (hn:1≤n) (hn2:n≤12):∀ (k i:Nat),i+k=F.length→okF n (F.drop i)=true→LeadsZ Try.prog (stOf (sA n c F i)) (stOf (sB n c F e0 (0:Nat)))
 | 0,i,h,hb=>leadsZ zbz (lastA (by omega))
 | k+1,i,h,hb=>by
  have hi:i<F.length:=by omega
  have h1:=stepA (c:=c) hi hF hn hn2;rw [List.drop_eq_getElem_cons hi] at hb;unfold okF at hb;rw [List.all_cons,Bool.and_eq_true] at hb;rw [hb.1] at h1;exact (leadsZ zbz h1).trans (goodA hF hn hn2 k (i+1) (by omega) hb.2)
theorem wrap8 (x:Int) (h1:0≤x) (h2:x<256):IntKind.u8.wrap x=x:=by
 rw [IntKind.wrap_u8];omega
theorem stepB {n:Nat} {c:Int} {F:List (List U)} {e:List Int} {i:Nat} (hi:i<n) (hn2:n≤12) (he:e.length=12):RUN (stOf (sB n c F e i)) = .at (sB n c F (e.set i ((n:Int)-1-(i:Int))) (i+1:Nat)):=by
 rw [b_t];simp (disch:=omega) only [yS,wrap8];rfl
theorem lastB {n:Nat} {c:Int} {F:List (List U)} {e:List Int} {i:Nat} (hi:n≤i) (hn2:n≤12) (he:e.length=12):RUN (stOf (sB n c F e i)) = .at (sC n c F e n n (zerosL n) (0:Nat)):=by
 rw [b_t];have z1:∀ k,(zerosL k).length=k:=fun k=>by unfold zerosL;simp
 have z2:(List.length [(0:Int),0,0,0,0,0,0,0,0,0,0,0]).beq 12=true:=rfl;simp (disch:=omega) only [yS,z1]
theorem loopB {n:Nat} {c:Int} {F:List (List U)} (hn2:n≤12):∀ (k i:Nat) (e:List Int),i+k=n→e.length=12→(∀ j,j<i→e.getD j 0=(n:Int)-1-(j:Int))→∃ e',e'.length=12∧(∀ j,j<n→e'.getD j 0=(n:Int)-1-(j:Int))∧LeadsZ Try.prog (stOf (sB n c F e i)) (stOf (sC n c F e' n n (zerosL n) (0:Nat)))
 | 0,i,e,h,he,hj=>by
  obtain rfl:i=n:=by omega
  exact ⟨e,he,hj,leadsZ zbz (lastB (Nat.le_refl _) hn2 he)⟩
 | k+1,i,e,h,he,hj=>by
  have h1:=stepB (c:=c) (F:=F) (show i<n by omega) hn2 he;obtain ⟨e',g1,g2,g3⟩:=loopB (c:=c) (F:=F) hn2 k (i+1) (e.set i ((n:Int)-1-(i:Int))) (by omega) (by simpa using he) fun j hj2=>by
   rw [gset];split
   ·rename_i e;rw [e.1]
   ·rename_i e;exact hj j (by
     rcases Nat.lt_or_ge j i with h5|h5
     ·exact h5
     ·exact absurd ⟨by omega,by omega⟩ e)
  exact ⟨e',g1,g2,(leadsZ zbz h1).trans g3⟩
theorem stepC {n:Nat} {c:Int} {F:List (List U)} {e d:List Int} {i:Nat} (hi:i<n) (hn2:n≤12) (he:e.length=12) (hd:d.length=n) (hj:e.getD i 0=(n:Int)-1-(i:Int)):RUN (stOf (sC n c F e n n d i)) = .at (sC n c F e n n (d.set i ((n:Int)-1-(i:Int))) (i+1:Nat)):=by
 rw [c_t];simp (disch:=omega) only [yS,hj];rfl
theorem loopC {n:Nat} {c:Int} {F:List (List U)} {e:List Int} (hn2:n≤12) (he:e.length=12) (hj:∀ j,j<n→e.getD j 0=(n:Int)-1-(j:Int)):∀ (k i:Nat) (d:List Int),i+k=n→d.length=n→(∀ j,j<i→d.getD j 0=(n:Int)-1-(j:Int))→LeadsZ Try.prog (stOf (sC n c F e n n d i)) (stOf (sC n c F e n n (dlt n) n))
 | 0,i,d,h,hd,hdj=>by
  have:d=dlt n:=by
   apply List.ext_getElem (by rw [hd,zc8]);intro j h1 h2;have h3:=hdj j (by omega);have h4:=ze5 (n:=n) (a:=j) (by omega);rw [zag h1] at h3;rw [zag h2] at h4;rw [h3,h4]
  subst this;obtain rfl:i=n:=by omega
  exact LeadsZ.refl _
 | k+1,i,d,h,hd,hdj=>by
  have h1:=stepC (c:=c) (F:=F) (show i<n by omega) hn2 he hd (hj i (by omega));refine (leadsZ zbz h1).trans (loopC hn2 he hj k (i+1) _ (by omega) (by simpa using hd) fun j hj2=>?_);rw [gset];split
  ·rename_i e;rw [e.1]
  ·rename_i e;exact hdj j (by
    rcases Nat.lt_or_ge j i with h5|h5
    ·exact h5
    ·exact absurd ⟨by omega,by omega⟩ e)
noncomputable def res3 (x:Option (List Int)):EV:=match x with
 | some r=>.tup [il r,iv 0]
 | none=>.tup [.v (.slice none 0 0),iv 3]
theorem loopD {F:List (List U)} (hF:F.length≤200) (hr:∀ r,r∈F→1≤(fac r).length∧InR (fac r)∧Dis (fac r)):∀ (k i:Nat) (q:List Int),i+k=F.length→q.length≤400→EndZ 49 ctPW false (stOf (sD F q.length F.length q true i)) (res3 (lp3 ((F.drop i).map fac) q)) [] 0
 | 0,i,q,h,hq=>by
  have h1:=d_t F q.length F.length q true i;rw [List.drop_eq_nil_of_le (by omega)];simp (disch:=omega) only [yS] at h1;exact .done h1
 | k+1,i,q,h,hq=>by
  have hi:i<F.length:=by omega
  have h1:=d_t F q.length F.length q true i;rw [List.drop_eq_getElem_cons hi,List.map_cons];unfold lp3;have e:F.getD i []=F[i]:=zag hi;rw [zcx,e] at h1;have e2:List.map (fun r=>U.int (List.headD r (U.i 0))) (U.list (List.getD F[i] 0 (U.i 0)))=fac F[i]:=rfl;rw [e2] at h1;have h3:=hr _ (List.getElem_mem hi);have h4:=zkg h3.2.1;rw [dt h3] at h1
  by_cases h5:400<(q++lwo (fac F[i])).length
  ·rw [if_pos h5];rw [List.length_append] at h5;simp (disch:=omega) only [yS] at h1;exact .done h1
  ·rw [if_neg h5];have h6:=h5;rw [List.length_append] at h6;simp (disch:=omega) only [yS] at h1;have h7:=loopD hF hr k (i+1) (q++lwo (fac F[i])) (by omega) (by omega);rw [List.length_append] at h7;exact .at zbz h1 h7
theorem fin3 {n c:Int} {F:List (List U)} {q:List Int} (hq:q.length≤400) (hw:wout n.toNat c F=lp2 (F.map fac) q) (hE:wE n c F=if 400<(wout n.toNat c F).length then 3 else 0):Weak (res3 (lp3 (F.map fac) q)) (shWo n c F):=by
 cases h:lp3 (F.map fac) q with
 | none=>
  have h1:=zmj _ _ hq h;rw [← hw] at h1;rw [if_pos h1] at hE;exact zfj hE (by decide)
 | some r=>
  obtain ⟨h1,h2⟩:=zmi _ _ _ hq h;rw [← hw] at h1;rw [if_neg (by rw [h1];omega)] at hE;unfold shWo wL;rw [hE,if_pos rfl,h1];exact Weak.refl _
theorem ends {n c:Int} {F:List (List U)} (hF:F.length≤200):EndZ 49 ctPW false (st0 49 [iv n,iv c,fl F]) (shWo n c F) [] 0:=by
 have h:=in_t n c F
 by_cases h1:n<1
 ·rw [dt h1,bc_t] at h;exact (EndZ.done h).weak (zfj (e:=2) (by unfold wE;rw [if_pos h1]) (by decide))
 rw [df h1,bc_f] at h
 by_cases h2:12<n
 ·rw [dt h2,bc_t] at h;exact (EndZ.done h).weak (zfj (e:=2) (by unfold wE;rw [if_neg h1,if_pos h2]) (by decide))
 rw [df h2,bc_f] at h;obtain ⟨n,rfl⟩:=Int.eq_ofNat_of_zero_le (show 0≤n by omega);have hn:1≤n:=by omega
 have hn2:n≤12:=by omega
 cases h3:okF n F with
 | false=>
  exact (EndZ.at zbz h (badA hF hn hn2 F.length 0 (by omega) h3)).weak (zfj (e:=6) (by unfold wE;rw [if_neg h1,if_neg h2,zcx,if_pos h3]) (by decide))
 | true=>
  obtain ⟨e,he,hej,hB⟩:=loopB (c:=c) (F:=F) hn2 n 0 e0 (by omega) rfl (fun j hj=>by omega);have hl:=(((leadsZ zbz h).trans (goodA (c:=c) hF hn hn2 F.length 0 (by omega) h3)).trans hB).trans (loopC hn2 he hej n 0 (zerosL n) (by omega) (by unfold zerosL;simp) (fun j hj=>by omega));have hb:=c_t n c F e n n (dlt n) n;have hd:=zk4 hn2;have hdl:=zkg hd;have hsm:(lwo (dlt n)).length≤2000∧Sml (lwo (dlt n)):=⟨by omega,fun x hx=>by have:=zwn hd hx;omega⟩
  have hdis:1≤(dlt n).length∧InR (dlt n)∧Dis (dlt n):=⟨by rw [zc8];exact hn,hd,zw9 n⟩;rw [df (show ¬ (n:Int)<n by omega),bc_f,beqD (zc8 n).symm,dt hdis] at hb;simp only [bc_t,dt hsm] at hb;have hin:∀ r,r∈F→1≤(fac r).length∧InR (fac r)∧Dis (fac r):=fun r hr=>by
   have h4:=List.all_eq_true.1 h3 r hr;have h5:=zx3 hn2 h4;exact ⟨by rw [zwe h4];exact hn,h5.1,h5.2⟩
  by_cases h4:n=1
  ·subst h4;have e1:(((1:Nat):Int)==1)=true:=rfl;have hnil:=zw8;rw [e1,bc_t,hnil] at hb;have e2:RUN (stOf (sC (1:Nat) c F e 1 (1:Nat) (dlt 1) (1:Nat))) = .at (sD F 0 F.length [] true (0:Nat)):=by
    refine hb.trans ?_;rw [df (show ¬ (400:Int)<IntKind.wrap IntKind.i64 (0*Int.ofNat ([]:List Int).length) by decide),bc_f];rw [dt (by decide),bc_t];rfl
   have h9:EndZ 49 ctPW false (stOf (sD F ([]:List Int).length F.length [] true (0:Nat))) (res3 (lp3 (F.map fac) [])) [] 0:=loopD hF hin F.length 0 [] (by omega) (Nat.zero_le _);have hdd:dd 1 c=[]:=List.eq_nil_of_length_eq_zero (by rw [zrj,hnil];rfl);refine (EndZ.lead (hl.trans (leadsZ zbz e2)) h9).weak (fin3 (Nat.zero_le _) ?_ ?_)
   ·show wout 1 c F=_;unfold wout;rw [hdd,ztg]
   ·unfold wE;rw [if_neg h1,if_neg h2,zcx,if_neg (by rw [h3];decide),if_neg (show ¬ (0<(lwo (dlt 1)).length∧(400<c∨c < -400)) from fun h=>by rw [hnil] at h;exact absurd h.1 (by decide))]
  ·have e1:((n:Int)==1)=false:=by simp;omega
   have hpos:=zue (show 2≤n by omega) hn2;rw [e1,bc_f] at hb
   by_cases h5:400<c
   ·rw [dt h5,bc_t] at hb;exact (EndZ.lead hl (EndZ.done hb)).weak (zfj (e:=3) (by unfold wE;rw [if_neg h1,if_neg h2,zcx,if_neg (by rw [h3];decide),if_pos ⟨hpos,.inl h5⟩]) (by decide))
   rw [df h5,bc_f] at hb
   by_cases h6:c < -400
   ·rw [dt h6,bc_t] at hb;exact (EndZ.lead hl (EndZ.done hb)).weak (zfj (e:=3) (by unfold wE;rw [if_neg h1,if_neg h2,zcx,if_neg (by rw [h3];decide),if_pos ⟨hpos,.inr h6⟩]) (by decide))
   rw [df h6,bc_f] at hb;have hE:wE n c F=if 400<(wout n c F).length then 3 else 0:=by
    unfold wE;rw [if_neg h1,if_neg h2,zcx,if_neg (by rw [h3];decide),if_neg (show ¬ (0<(lwo (dlt n)).length∧(400<c∨c < -400)) from fun h=>by rcases h.2 with h|h <;> omega)]
   obtain ⟨k,hk⟩:∃ k:Nat,k=c.natAbs:=⟨_,rfl⟩;have hmul:k*(dd n c).length≤400*1728:=Nat.mul_le_mul (by omega) (by rw [zrj];exact hdl);have hbig:((k:Int)*((dd n c).length:Int))=((k*(dd n c).length:Nat):Int):=by rw [Int.natCast_mul]
   have key:RUN (stOf (sC n c F e n n (dlt n) n))=bc (decide (400<((k*(dd n c).length:Nat):Int))) (.done (.tup [.v (.slice none 0 0),iv 3]) [] 0) (bc (decide (0≤(k:Int)∧(k:Int)≤400∧(dd n c).length≤2000∧(k:Int)*((dd n c).length:Int)≤65536)) (.at (sD F (repI (dd n c) k).length F.length (repI (dd n c) k) true (0:Nat))) .bad):=by
    rw [hb,← hbig];unfold dd
    by_cases h7:c<0
    ·have e3:IntKind.i64.wrap (0-c)=(k:Int):=by rw [zae _ (by omega) (by omega)];omega
     have e4:(if (400:Int)<(k:Int) then (400:Int) else (k:Int))=(k:Int):=by rw [if_neg (by omega)]
     unfold dd at hmul hbig;rw [if_pos h7] at hmul hbig;rw [dt h7,bc_t,if_pos h7,e3,e4,ofn,hbig,zae _ (by omega) (by omega),zcx];rfl
    ·have e3:c=(k:Int):=by omega
     have e4:(if (400:Int)<(k:Int) then (400:Int) else (k:Int))=(k:Int):=by rw [if_neg (by omega)]
     unfold dd at hmul hbig;rw [if_neg h7] at hmul hbig;rw [df h7,bc_f,if_neg h7,ofn];clear hb hl hB;subst e3;rw [e4,hbig,zae _ (by omega) (by omega),zcx];rfl
   by_cases h8:400<k*(dd n c).length
   ·rw [dt (show (400:Int)<((k*(dd n c).length:Nat):Int) by omega),bc_t] at key;have h9:400<(lp1 (dd n c) c.natAbs []).length:=zh2 _ _ _ (by rw [← hk];simp;omega);have h10:400<(wout n c F).length:=by unfold wout;rw [zh1 _ _ h9];exact h9
    rw [if_pos h10] at hE;exact (EndZ.lead hl (EndZ.done key)).weak (zfj hE (by decide))
   ·rw [df (show ¬ (400:Int)<((k*(dd n c).length:Nat):Int) by omega),bc_f,dt ⟨by omega,by omega,by rw [zrj];omega,by rw [hbig];omega⟩,bc_t] at key;have hql:(repI (dd n c) k).length≤400:=by rw [zdd];omega
    have h9:EndZ 49 ctPW false (stOf (sD F (repI (dd n c) k).length F.length (repI (dd n c) k) true (0:Nat))) (res3 (lp3 (F.map fac) (repI (dd n c) k))) [] 0:=loopD hF hin F.length 0 (repI (dd n c) k) (by omega) hql;refine (EndZ.lead (hl.trans (leadsZ zbz key)) h9).weak (fin3 hql ?_ hE);show wout n c F=_;unfold wout;rw [← hk,zkk _ _ _ (by simp;omega),List.nil_append]
end PWor
noncomputable def spPWo:ZCT:=fun ax=>match ax with
 | [.v (.int .i64 n),.v (.int .i64 c),.lst (.recs [.list [.int .i64]] F)]=>some ⟨decide (F.length≤200∧∀ r,r∈F→(fac r).length≤100),shWo n c F,[],0⟩
 | _=>none
theorem zsw:ZCtOk Try.prog 49 spPWo:=fun γ w us ax r hs hc hax hN hfz=>by
 unfold spPWo at hs;split at hs
 case h_2=>cases hs
 rename_i n c F;obtain ⟨rfl⟩:=Option.some.inj hs;have hc_0:decide (F.length≤200∧∀ r,r∈F→(fac r).length≤100)=true:=hc;have hc:=of_decide_eq_true hc_0;exact EndZ.calls (PWor.ends hc.1) zbz (by kernel_rfl) hax hN hfz
theorem zn6:endsB (exClosed Try.prog ft (drD Try.prog ft 16 4) 22 18)=true:=by kernel_rfl
theorem awakeBC (w:World):Calls Try.prog 22 #[] w fun e w'=>e = .returned (.bool true)∧Stays w w':=closedTrue ftOk (zm6 mix ftOk 16 4) zn6 w
theorem zjx:ZCtOk Try.prog 22 spTrue:=zo0 awakeBC
end Go.Proofs.Ytfffbioafhppiaa.Ev
namespace Go.Proofs.Ytfffbioafhppiaa
open Go.ChangeShapes Go.WideShapes Go.ChangeAt Go.RowKit
theorem zh6 {W W':World} (h:Ev.Stays W W') (may:MemPlace→Prop):W.keptBut W' may:=by
 refine ⟨h.os,h.output,fun i hi=>?_⟩;have e:=h.block i hi;rw [e]
 cases hb:W.heap[i]? with
 | none=>simp
 | some o=>
  cases o <;> first|exact ⟨rfl,rfl,rfl,fun _ _=>rfl⟩|exact .inr ⟨rfl,rfl⟩|rfl
theorem zf7 {W W':World} (h:Ev.Stays W W') (a:Addr) (ha:a.block<W.heap.size):W'.frozen? a=W.frozen? a:=by
 unfold World.frozen?;rw [h.block _ ha]
section
variable {H:Type} {enc:TypeId×Value→H} {P:Program}
theorem zhr {f:Func} {s:ChangeSpec} {apart fresh handsOn again:Bool} {W W':World} {args:Array Value} {v:Value} {ds gs:List (DataW H)} {before pa pv:List MemPlace}
  (hW:DataW.Whole enc P f.params.toList s.vars apart W args.toList ds gs before)
  (hres:∀ (b:Nat) (sp:Nat→Bool) (hd:Bool),DataW.TrodAll enc P W' b sp hd f.resultTypes.toList (v.resultList f.resultTypes.size) (s.fn H (ds++gs)).results [])
  (hargs:∀ sp:Nat→Bool,(∀ p∈before,sp p.block=true)→DataW.TrodAll enc P W' 0 sp true f.params.toList args.toList (s.fn H (ds++gs)).args pa)
  (hvars:∀ sp:Nat→Bool,(∀ p∈before,sp p.block=true)→DataW.TrodVars enc P W' sp s.vars (s.fn H (ds++gs)).vars pv)
  (hps:before=pa++pv) (hst:Ev.Stays W W')
  (hok:∀ (j:Nat) (t:TypeId) (r:Value),f.resultTypes[j]? = some t→(v.resultList f.resultTypes.size)[j]? = some r→Value.okWide P W' .any 0 t r) :
  s.post enc P f apart fresh handsOn again W args v W':=by
 have hk:W.keptBut W' (· ∈ before):=zh6 hst _;have hold:∀ p∈before,(fun b=>decide (b<W.heap.size)) p.block=true:=fun p hp=>by simpa using hW.lt p hp
 have hlt:=fun p hp=>hW.lt p hp;refine ⟨ds,gs,before,[],pa,pv,hW,hres _ _ _,hargs _ hold,hvars _ hold,World.keptBut_mono (fun p hp=>⟨hp,?_⟩) hk,fun _=>?_⟩
 ·rw [hps,List.mem_append] at hp;exact Or.inr hp
 ·obtain ⟨_,_,_,_,_,hz,hn⟩:=hW;refine ⟨hok,_,_,([]++pa)++pv,⟨[]++pa,pv,trodAll_append (hargs _ (fun _ _=>rfl)) (hres _ _ _),hvars _ (fun _ _=>rfl),rfl,?_,?_⟩,?_⟩
  ·intro b off hp;have hp2:MemPlace.cell b off∈before:=by rw [hps];simpa using hp
   rw [zf7 hst _ (hlt _ hp2)];exact hz b off hp2
  ·intro ha;have:=hn ha;rw [hps] at this;simpa using this
  ·intro p hp _;rw [hps];simpa using hp
end
end Go.Proofs.Ytfffbioafhppiaa
namespace Go.Proofs.Ytfffbioafhppiaa
open Go.ChangeShapes Go.WideShapes Go.ChangeAt Go.RowKit
section
variable {H:Type} {enc:TypeId×Value→H} {P:Program}
theorem zhe {W W':World} (h:Ev.Stays W W') {p:MemPlace} (hp:p.block<W.heap.size):W.sameAt W' p:=by
 cases p with
 | cell b off=>
  show W'.cell? _=W.cell? _;unfold World.cell?;rw [h.block b hp]
 | map b=>exact h.block b hp
theorem zg6 {W W':World} {base:Nat} {sp:Nat→Bool} {hd:Bool}:∀ {ts:List TypeId} {vs:List Value} {ds:List (DataW H)} {ps:List MemPlace},DataW.TrodAll enc P W base sp hd ts vs ds ps→(∀ p∈ps,W.sameAt W' p)→DataW.TrodAll enc P W' base sp hd ts vs ds ps
 | [],[],[],_,h,_=>h
 | _::_,_::_,_::_,_,⟨p,q,⟨n,h⟩,hs,e⟩,k=>⟨p,q,⟨n,DataW.trod_carry n _ _ _ h fun x hx=>k x (by rw [e];exact List.mem_append_left _ hx)⟩,zg6 hs fun x hx=>k x (by rw [e];exact List.mem_append_right _ hx),e⟩
 | [],[],_::_,_,h,_=>h.elim
 | [],_::_,_,_,h,_=>h.elim
 | _::_,[],_,_,h,_=>h.elim
 | _::_,_::_,[],_,h,_=>h.elim
theorem zs9 {f:Func} {s:ChangeSpec} {apart fresh handsOn again:Bool} {W W':World} {args:Array Value} {ds:List (DataW H)} {p:List MemPlace} {bt:TypeId} {T:TypeId→Prop} (K:Kids P T) (hz:∀ t e,T t→P.underlying t=some (.slice e)→0<P.cellsOf e)
  (hbt:P.underlying bt=some .bool) (hrt:f.resultTypes.toList=[bt]) (hsz:f.resultTypes.size=1) (hvs:s.vars=[]) (hfn:s.fn H (ds++[])={ results:=[.lit (.bool true)],args:=ds })
  (hpt:∀ t∈f.params.toList,T t)
  (hW:DataW.Whole enc P f.params.toList s.vars apart W args.toList ds [] (p++[])) (hA:DataW.TrodAll enc P W 0 (fun _=>true) true f.params.toList args.toList ds p) (hst:Ev.Stays W W')
  (hok:∀ (j:Nat) (t:TypeId) (r:Value),f.resultTypes[j]? = some t→((Value.bool true).resultList f.resultTypes.size)[j]? = some r→Value.okWide P W' .any 0 t r) :
  s.post enc P f apart fresh handsOn again W args (.bool true) W':=by
 have hlt:=fun q hq=>hW.lt q hq;refine zhr (pa:=p) (pv:=[]) hW (fun b sp hd=>?_) (fun sp hsp=>?_) (fun sp _=>?_) rfl hst hok
 ·rw [hrt,hfn,hsz];exact trodAll_mk1 (shut_bool hbt _)
 ·rw [hfn];exact DataW.TrodAll.respare K hz hpt (zg6 hA fun q hq=>zhe hst (hlt q (by simpa using hq))) fun q hq=>hsp q (by simpa using hq)
 ·rw [hfn,hvs];rfl
end
namespace Ev
inductive UFit:Sh→U→Prop where
 | int (k:IntKind) (n:Int) (h:(Lit.int k n).wf=true):UFit (.int k) (.i n)
 | bool (b:Bool):UFit .bool (.b b)
 | str (s:ByteArray) (h:s.size≤maxLen):UFit .str (.s s)
 | list (sh:List Sh) (l:List (List U)) (hl:l.length≤maxLen) (hr:∀ j,j<l.length→(l.getD j []).length=sh.length) (h:∀ (j f:Nat) (s:Sh),j<l.length→sh[f]? = some s→UFit s ((l.getD j []).getD f (.i 0))):UFit (.list sh) (.l l)
structure RowFit (sh:List Sh) (r:List U):Prop where
 len:r.length=sh.length
 fit:∀ (f:Nat) (s:Sh),sh[f]? = some s→UFit s (r.getD f (.i 0))
theorem RowFit.nil:RowFit [] []:=⟨rfl,fun f s h=>by simp at h⟩
theorem RowFit.append {sh1 sh2:List Sh} {r1 r2:List U} (h1:RowFit sh1 r1) (h2:RowFit sh2 r2):RowFit (sh1++sh2) (r1++r2):=by
 refine ⟨by simp [h1.len,h2.len],fun f s h=>?_⟩;rw [List.getD_eq_getElem?_getD]
 by_cases hf:f<sh1.length
 ·rw [List.getElem?_append_left hf] at h;rw [List.getElem?_append_left (by rw [h1.len];exact hf),← List.getD_eq_getElem?_getD];exact h1.fit f s h
 ·rw [List.getElem?_append_right (by omega)] at h;rw [List.getElem?_append_right (by rw [h1.len];omega),h1.len,← List.getD_eq_getElem?_getD];exact h2.fit _ s h
theorem zhn:∀ {sh1 sh2:List Sh} {r1 r2:List U},r1.length=sh1.length→recE (sh1++sh2) (r1++r2)=recE sh1 r1++recE sh2 r2
 | [],sh2,r1,r2,h=>by
  have:r1=[]:=List.eq_nil_of_length_eq_zero h;subst this;rfl
 | s::sh1,sh2,[],r2,h=>by cases h
 | s::sh1,sh2,u::r1,r2,h=>by
  show s.ev u::recE (sh1++sh2) (r1++r2)=s.ev u::(recE sh1 r1++recE sh2 r2);rw [zhn (by simpa using h)]
def shFs (P:Program) (f:TypeId→Option (List Sh)):List Field→Nat→Option (List Sh)
 | [],_=>some []
 | fd::r,off=>match f fd.type with
  | some sh=>if fd.offset=off∧P.cellsOf fd.type=sh.length then match shFs P f r (off+sh.length) with
   | some l=>some (sh++l)
   | none=>none else none
  | none=>none
def shB (P:Program):Nat→TypeId→Option (List Sh)
 | 0,_=>none
 | k+1,t=>match P.underlying t with
  | some (.int κ)=>some [.int κ]
  | some .bool=>some [.bool]
  | some .string=>some [.str]
  | some (.slice e)=>match shB P k e with
   | some sh=>if P.cellsOf e=sh.length∧0<sh.length then some [.list sh] else none
   | none=>none
  | some (.struct fs)=>match shFs P (shB P k) fs.toList 0 with
   | some sh=>if P.cellsOf t=sh.length then some sh else none
   | none=>none
  | some (.array m e)=>match shB P k e with
   | some sh=>if P.cellsOf e=sh.length∧P.cellsOf t=m*sh.length then some (List.replicate m sh).flatten else none
   | none=>none
  | _=>none
noncomputable def fzAll (W:World):Nat→Option (Array Value):=fun k=>match W.heap[k]? with
 | some (.cells a _ _)=>some a
 | _=>none
noncomputable def gAll (W:World):G:=⟨fun _=>none,fzAll W,fun _ _ _=>none⟩
theorem fzAll_at (W:World):FzAt (gAll W) W:=⟨fun k a hk=>(by
 have hk:fzAll W k=some a:=hk;unfold fzAll at hk;split at hk
 ·rename_i a' ty fz h;injection hk with hk;subst hk
  exact ⟨ty,fz,h⟩
 ·cases hk),fun _ _ _=>rfl⟩
theorem zqi {Q:Nat→List U→Prop}:∀ (n:Nat),(∀ i,i<n→∃ r,Q i r)→∃ l:List (List U),l.length=n∧∀ i,i<n→Q i (l.getD i [])
 | 0,_=>⟨[],rfl,fun i hi=>absurd hi (by omega)⟩
 | n+1,h=>by
  obtain ⟨l,h1,h2⟩:=zqi n fun i hi=>h i (by omega);obtain ⟨r,hr⟩:=h n (by omega);refine ⟨l++[r],by simp [h1],fun i hi=>?_⟩;rw [List.getD_eq_getElem?_getD]
  by_cases e:i<n
  ·rw [List.getElem?_append_left (by omega),← List.getD_eq_getElem?_getD];exact h2 i e
  ·have:i=n:=by omega
   subst this;rw [List.getElem?_append_right (by omega),h1,Nat.sub_self];exact hr
variable {H:Type} {enc:TypeId×Value→H} {P:Program} {W:World} {base:Nat} {sp:Nat→Bool} {hd:Bool}
def OpenAt (enc:TypeId×Value→H) (P:Program) (W:World) (base:Nat) (sp:Nat→Bool) (hd:Bool) (k:Nat):Prop:=∀ (t:TypeId) (sh:List Sh) (fuel:Nat) (cs:List Value) (x:DataW H×List MemPlace),shB P k t=some sh→DataW.trod enc P W base sp hd fuel t cs=some x→∃ r,RowFit sh r∧∀ γ:G,γ.fz=fzAll W→ECL γ (recE sh r) cs
theorem zga {k:Nat} (ih:OpenAt enc P W base sp hd k) {cs:List Value} {n:Nat}:∀ (fs:List Field) (off:Nat) (sh:List Sh),shFs P (shB P k) fs off=some sh→(∀ f,f∈fs→∃ y,DataW.trod enc P W base sp hd n f.type ((cs.drop f.offset).take (P.cellsOf f.type))=some y)→∃ r,RowFit sh r∧∀ γ:G,γ.fz=fzAll W→ECL γ (recE sh r) ((cs.drop off).take sh.length)
 | [],off,sh,h,_=>by
  injection (show some []=some sh from h) with h;subst h
  exact ⟨[],.nil,fun γ _=>by
   rw [show ([]:List Sh).length=0 from rfl,List.take_zero];exact ECL.nil γ⟩
 | fd::fs,off,sh,h,hall=>by
  unfold shFs at h;split at h
  case h_2=>cases h
  rename_i s1 hs1;split at h
  case isFalse=>cases h
  rename_i hc;split at h
  case h_2=>cases h
  rename_i s2 hs2;injection h with h;subst h
  obtain ⟨y,hy⟩:=hall fd (by simp);rw [hc.1,hc.2] at hy;obtain ⟨r1,h1,h2⟩:=ih fd.type s1 n _ y hs1 hy;obtain ⟨r2,h3,h4⟩:=zga ih fs (off+s1.length) s2 hs2 fun f hf=>hall f (by simp [hf]);refine ⟨r1++r2,h1.append h3,fun γ hγ=>?_⟩;rw [zhn h1.len,List.length_append];have e:(cs.drop off).take (s1.length+s2.length)=(cs.drop off).take s1.length++(cs.drop (off+s1.length)).take s2.length:=by
   rw [List.take_add,List.drop_drop]
  rw [e];exact (h2 γ hγ).append (h4 γ hγ)
theorem zg3 {k:Nat} (ih:OpenAt enc P W base sp hd k) {cs:List Value} {n:Nat} {e:TypeId} {sh:List Sh} (hsh:shB P k e=some sh) (hc:P.cellsOf e=sh.length):∀ (m i0:Nat),(∀ i,i<m→∃ y,DataW.trod enc P W base sp hd n e ((cs.drop ((i0+i)*P.cellsOf e)).take (P.cellsOf e))=some y)→∃ r,RowFit (List.replicate m sh).flatten r∧∀ γ:G,γ.fz=fzAll W→ECL γ (recE (List.replicate m sh).flatten r) ((cs.drop (i0*sh.length)).take (m*sh.length))
 | 0,i0,_=>⟨[],.nil,fun γ _=>by
   rw [Nat.zero_mul,List.take_zero];exact ECL.nil γ⟩
 | m+1,i0,h=>by
  obtain ⟨y,hy⟩:=h 0 (by omega);rw [hc,Nat.add_zero] at hy;obtain ⟨r1,h1,h2⟩:=ih e sh n _ y hsh hy;obtain ⟨r2,h3,h4⟩:=zg3 ih hsh hc m (i0+1) fun i hi=>by
   have:=h (i+1) (by omega)
   rwa [show i0+(i+1)=i0+1+i by omega] at this
  refine ⟨r1++r2,by rw [List.replicate_succ,List.flatten_cons];exact h1.append h3,fun γ hγ=>?_⟩;rw [List.replicate_succ,List.flatten_cons,zhn h1.len,Nat.succ_mul,Nat.add_comm,List.take_add,List.drop_drop];have:=h4 γ hγ;rw [Nat.succ_mul] at this;exact (h2 γ hγ).append this
theorem zgv:∀ k,OpenAt enc P W base sp hd k
 | 0=>fun t sh fuel cs x h=>by cases h
 | k+1=>fun t sh fuel cs x h ht=>by
  have ih:OpenAt enc P W base sp hd k:=zgv k;unfold shB at h;split at h
  ·rename_i κ hu;injection h with h;subst h
   obtain ⟨n,rfl,_,hw⟩:=DataW.trod_int hu ht;refine ⟨[.i n],⟨rfl,fun f s hf=>?_⟩,fun γ _=>.cons (.v _) (.nil _)⟩;obtain ⟨rfl,rfl⟩:=one_f hf;exact .int κ n hw
  ·rename_i hu;injection h with h;subst h
   obtain ⟨b,rfl,_⟩:=DataW.trod_bool hu ht;refine ⟨[.b b],⟨rfl,fun f s hf=>?_⟩,fun γ _=>.cons (.v _) (.nil _)⟩;obtain ⟨rfl,rfl⟩:=one_f hf;exact .bool b
  ·rename_i hu;injection h with h;subst h
   obtain ⟨s,rfl,_,hs⟩:=DataW.trod_string hu ht;refine ⟨[.s s],⟨rfl,fun f s hf=>?_⟩,fun γ _=>.cons (.v _) (.nil _)⟩;obtain ⟨rfl,rfl⟩:=one_f hf;exact .str _ hs
  ·rename_i e hu;split at h
   case h_2=>cases h
   rename_i sh' hsh;split at h
   case isFalse=>cases h
   rename_i hc;injection h with h;subst h
   rcases DataW.trod_slice hu ht with ⟨rfl,_⟩|⟨a,len,cap,elems,rest,n,_,rfl,_,hb,hlc,hcm,hel,hall,_⟩
   ·refine ⟨[.l []],⟨rfl,fun f s hf=>?_⟩,fun γ _=>.cons ?_ (.nil _)⟩
    ·obtain ⟨rfl,rfl⟩:=one_f hf;exact .list sh' [] (Nat.zero_le _) (fun j hj=>by simp at hj) (fun j f s hj=>by simp at hj)
    ·exact UOk.ec (s:=.list sh') (.empty sh' (.l []) none 0 rfl (Nat.zero_le _) fun _=>rfl)
   ·have each:∀ i,i<len→∃ r,RowFit sh' r∧∃ ys,W.cells? base (a.add (i*sh'.length)) sh'.length=some ys∧∀ γ:G,γ.fz=fzAll W→ECL γ (recE sh' r) ys:=fun i hi=>by
     have h1:=hall i hi;rw [hc.1] at h1;have h2:i<elems.length:=by omega
     rw [List.getElem?_eq_getElem h2] at h1;obtain ⟨ys,h3,h4⟩:=Option.bind_eq_some_iff.1 h1;obtain ⟨r,h5,h6⟩:=ih e sh' n ys _ hsh h4;exact ⟨r,h5,ys,h3,h6⟩
    obtain ⟨l,hl,hQ⟩:=zqi len each;refine ⟨[.l l],⟨rfl,fun f s hf=>?_⟩,fun γ hγ=>.cons ?_ (.nil _)⟩
    ·obtain ⟨rfl,rfl⟩:=one_f hf;exact .list sh' l (by omega) (fun j hj=>(hQ j (by omega)).1.len) fun j f s hj hf=>(hQ j (by omega)).1.fit f s hf
    ·refine UOk.ec (s:=.list sh') ?_
     by_cases h0:len=0
     ·have:l=[]:=List.eq_nil_of_length_eq_zero (by omega);subst this;subst h0;exact .empty sh' (.l []) (some a) cap rfl hcm fun e=>by cases e
     ·obtain ⟨b,off,spot⟩:=a;have hblk:spot=none∧∃ arr ty fz,W.heap[b]? = some (.cells arr ty fz):=by
       obtain ⟨h1,ys,h2,h3⟩:=hQ 0 (by omega);obtain ⟨_,h4,h5⟩:=World.cells?_some h2;have h6:=h5 0 hc.2;rw [List.getElem?_eq_getElem (show 0<ys.length by omega)] at h6;have h6:W.cell? ⟨b,off,spot⟩=some ys[0]:=by
        have e:((⟨b,off,spot⟩:Addr).add (0*sh'.length)).add 0=⟨b,off,spot⟩:=by simp [Addr.add]
        rw [e] at h6;exact h6
       unfold World.cell? at h6;split at h6
       ·rename_i arr ty fz hb';split at h6
        ·cases h6
        ·rename_i hs;exact ⟨by cases spot <;> simp_all,arr,ty,fz,hb'⟩
       ·cases h6
      obtain ⟨rfl,arr,ty,fz,hblk⟩:=hblk;have cellAt:∀ i f,i<len→f<sh'.length→∃ y,W.cell? ⟨b,off+(i*sh'.length+f),none⟩=some y∧∀ s,sh'[f]? = some s→UOk γ.fz s ((l.getD i []).getD f (.i 0)) y:=fun i f hi hf=>by
       obtain ⟨h1,ys,h2,h3⟩:=hQ i hi;obtain ⟨_,h4,h5⟩:=World.cells?_some h2;have h6:=h5 f hf;have h7:f<ys.length:=by omega
       rw [List.getElem?_eq_getElem h7] at h6;refine ⟨ys[f],?_,fun s hs=>?_⟩
       ·have e:((⟨b,off,none⟩:Addr).add (i*sh'.length)).add f=⟨b,off+(i*sh'.length+f),none⟩:=by
         unfold Addr.add;split <;> split <;> simp_all [Nat.add_assoc]
        rw [← h6,e]
       ·have h8:=zd6 (s:=s) (f:=f) (sh:=sh') (l.getD i []) hs;have h9:=(h3 γ hγ).2 f _ ys[f] h8 (List.getElem?_eq_getElem h7);exact UOk.of_ec h9
      have getA:∀ i f,i<len→f<sh'.length→∃ y,arr[off+(i*sh'.length+f)]? = some y∧∀ s,sh'[f]? = some s→UOk γ.fz s ((l.getD i []).getD f (.i 0)) y:=fun i f hi hf=>by
       obtain ⟨y,h1,h2⟩:=cellAt i f hi hf;refine ⟨y,?_,h2⟩;unfold World.cell? at h1;simpa [hblk] using h1
      have hk:γ.fz b=some arr:=by
       rw [hγ];unfold fzAll;rw [hblk]
      subst hl;refine .list sh' (.l l) b off cap arr hk hlc hcm ?_ fun j f s x hj hf hx=>?_
      ·show off+l.length*sh'.length≤arr.size;obtain ⟨y,h1,_⟩:=getA (l.length-1) (sh'.length-1) (by omega) (by omega);have:=(Array.getElem?_eq_some_iff.1 h1).1;have e:l.length*sh'.length=(l.length-1)*sh'.length+sh'.length:=by rw [← Nat.succ_mul];congr 1;omega
       omega
      ·obtain ⟨y,h1,h2⟩:=getA j f hj (List.getElem?_eq_some_iff.1 hf).1;rw [h1] at hx;injection hx with hx;subst hx;exact h2 s hf
  ·rename_i fs hu;split at h
   case h_2=>cases h
   rename_i sh' hsh;split at h
   case isFalse=>cases h
   rename_i hc;injection h with h;subst h
   obtain ⟨xs,n,_,_,hl,hlen,hf⟩:=DataW.trod_struct hu ht;obtain ⟨r,h1,h2⟩:=zga (cs:=cs) (n:=n) ih fs.toList 0 sh' hsh fun f hm=>by
    obtain ⟨i,hi,rfl⟩:=List.getElem_of_mem hm;have hi2:i<fs.size:=by simpa using hi
    have:=hf i fs.toList[i] (by simp [hi2]);rw [List.getElem?_eq_getElem (by omega)] at this;exact ⟨_,this⟩
   refine ⟨r,h1,fun γ hγ=>?_⟩;have:=h2 γ hγ
   rwa [List.drop_zero,List.take_of_length_le (by omega)] at this
  ·rename_i m e hu;split at h
   case h_2=>cases h
   rename_i sh' hsh;split at h
   case isFalse=>cases h
   rename_i hc;injection h with h;subst h
   obtain ⟨xs,n,_,_,hl,hlen,hf⟩:=DataW.trod_array hu ht;obtain ⟨r,h1,h2⟩:=zg3 (cs:=cs) (n:=n) ih hsh hc.1 m 0 fun i hi=>by
    have:=hf i hi;rw [List.getElem?_eq_getElem (by omega)] at this;rw [Nat.zero_add];exact ⟨_,this⟩
   refine ⟨r,h1,fun γ hγ=>?_⟩;have:=h2 γ hγ
   rwa [Nat.zero_mul,List.drop_zero,List.take_of_length_le (by omega)] at this
  ·cases h
theorem open_lst {t e:TypeId} {v:Value} {d:DataW H} {ps:List MemPlace} {k b0:Nat} {rc:Reach} {sh:List Sh} (hu:P.underlying t=some (.slice e)) (hs:shB P k t=some [.list sh]) (hv:Value.okWide P W rc b0 t v) (h:DataW.Trod enc P W base sp hd t v d ps):∃ l,UFit (.list sh) (.l l)∧EC (gAll W) (.lst (mkC sh l)) v:=by
 obtain ⟨a,len,cap,rfl⟩:=okWide_slice hu hv;obtain ⟨fuel,hf⟩:=h;obtain ⟨r,h1,h2⟩:=zgv k t _ fuel _ _ hs hf;have h3:=h2 (gAll W) rfl;obtain ⟨h4,h5⟩:=h1
 match r,h4 with
 | [u],_=>
  have h6:=h5 0 _ rfl;have h6:UFit (.list sh) u:=h6
  cases h6 with
  | list _ l hl hr hh=>
   refine ⟨l,.list sh l hl hr hh,?_⟩;exact h3.2 0 _ _ rfl rfl
end Ev
end Go.Proofs.Ytfffbioafhppiaa
namespace Go.Proofs.Ytfffbioafhppiaa.Ev
section
noncomputable def ctWw:Tr ZCC:=(((((((Tr.nil.put 45 (some (dC spRChk))).put 46 (some (dC spPNml))).put 47 (some (dC spSha))).put 48 (some (dC spWei))).put 49 (some (dC spPWo))).put 25 (some (dC spRSfo))).put 23 (some (dC spAct))).put 22 (some (dC spTrue))
theorem zk6:ZCtsOk Try.prog ctWw:=((((((((ZCtsOk.nil _).add rfl zo8).add rfl zpb).add rfl zsv).add rfl zsr).add rfl zsw).add rfl zo4).add rfl zs2).add rfl zjx
namespace AWw
noncomputable abbrev ll (A:List (List U)):EV:=.lst (.recs [.list [.int .i64]] A)
noncomputable def RUN (s:ES):ZF:=RZ 10 ctWw (atS 0 10 7) [] [[(0,none),(1,none),(5,none),(6,none),(8,none)]] false s
noncomputable def sL (n:Int) (w:List Int) (c:Int) (L:List (List U)) (k:Int):NS:=⟨[⟨10,124,[(0,(iv n)),(1,(il w)),(5,iv c),(6,ll L),(8,iv k)],[.it (.code (nav [1,1,1,1,0,1,0,0,0] (bodyOf Try.f10))),.it (.code (nav [1,1,1,1,0,1,0,0,1] (bodyOf Try.f10))),.it (.inLoop (nav [1,1,1,1,0,1,0,0] (bodyOf Try.f10))),.it (.inBlock 0),.it (.code (nav [1,1,1,1,1] (bodyOf Try.f10)))],[],Option.none⟩],[],0⟩
theorem in_t (n:Int) (w:List Int):RUN (st0 10 [iv n,il w])=(bc (decide (120<Int.ofNat w.length)) (bc (decide (Int.ofNat w.length≤400)) (.done (bv true) [] 0) (bc (decide (1000<Int.ofNat w.length)) (.done (bv true) [] 0) (bc (chk n w != 0) (.done (bv true) [] 0) (bc (chk n w != 0) (.done (bv false) [] 0) (.at (sL n w (bc (chk n w != 0) (0:Int) (Frm.pw (nfW n.toNat w))) (bc (chk n w != 0) [] (PNml.rowsF n.toNat (Frm.F (nfW n.toNat w)))) 0)))))) (bc (decide (1000<Int.ofNat w.length)) (.done (bv true) [] 0) (bc (chk n w != 0) (.done (bv true) [] 0) (bc (chk n w != 0) (.done (bv false) [] 0) (.at (sL n w (bc (chk n w != 0) (0:Int) (Frm.pw (nfW n.toNat w))) (bc (chk n w != 0) [] (PNml.rowsF n.toNat (Frm.F (nfW n.toNat w)))) 0)))))):=by kernel_rfl
theorem l_t (n:Int) (w:List Int) (c:Int) (L:List (List U)) (k:Int):RUN (stOf (sL n w c L k))=(bc (decide (k<Int.ofNat L.length)) (bc (decide (0<k)) (bc (bc (bc (bc (bc (decide (0≤k)) (Nat.blt k.toNat L.length) false) true false) (bc (bc (Nat.blt k.toNat L.length) true false) (bc (bc (decide (ShpOk n (List.map (fun r=>U.int (List.headD r (U.i 0))) (U.list ((L.getD k.toNat []).getD 0 (U.i 0)))))) true false) (bc (eqB (decide (0<k)) true) (bc (bc (bc (decide (0≤IntKind.i64.wrap (k-(1:Int)))) (Nat.blt (IntKind.i64.wrap (k-(1:Int))).toNat L.length) false) true false) (bc (bc (Nat.blt (IntKind.i64.wrap (k-(1:Int))).toNat L.length) true false) (bc (bc (bc (decide (0≤k)) (Nat.blt k.toNat L.length) false) true false) (bc (bc (Nat.blt k.toNat L.length) true false) (bc (bc (decide (WeiOk (List.map (fun r=>U.int (List.headD r (U.i 0))) (U.list ((L.getD (IntKind.i64.wrap (k-(1:Int))).toNat []).getD 0 (U.i 0)))) (List.map (fun r=>U.int (List.headD r (U.i 0))) (U.list ((L.getD k.toNat []).getD 0 (U.i 0)))))) true false) true false) false) false) false) false) false) false) false) false) true false) (.at (sL n w c L (IntKind.i64.wrap (k+1)))) .bad) (bc (bc (bc (bc (bc (decide (0≤k)) (Nat.blt k.toNat L.length) false) true false) (bc (bc (Nat.blt k.toNat L.length) true false) (bc (bc (decide (ShpOk n (List.map (fun r=>U.int (List.headD r (U.i 0))) (U.list ((L.getD k.toNat []).getD 0 (U.i 0)))))) true false) (bc (eqB (decide (0<k)) false) true false) false) false) false) true false) (.at (sL n w c L (IntKind.i64.wrap (k+1)))) .bad)) (bc (decide (L.length≤200∧∀ (r:List U),r∈L→(fac r).length≤100)) (bc (wE n c L != 0) (bc (wE n c L==3) (.done (bv true) [] 0) (.done (bv false) [] 0)) (bc (chk n (wL n c L) != 0) (.done (bv false) [] 0) (bc (bc (chk n (wL n c L) != 0) (0:Int) (Frm.pw (nfW n.toNat (wL n c L))) != c) (.done (bv false) [] 0) (bc (bc (decide (Shrt L)) true false) (bc (!sfB L (bc (chk n (wL n c L) != 0) [] (PNml.rowsF n.toNat (Frm.F (nfW n.toNat (wL n c L)))))) (.done (bv false) [] 0) (bc (decide (ActOk n w (4000:Int))) (bc (decide (ActOk n (wL n c L) (4000:Int))) (bc (!Option.isSome (actG (4000:Int).toNat w (idG n.toNat))) (.done (bv true) [] 0) (bc (!Option.isSome (actG (4000:Int).toNat (wL n c L) (idG n.toNat))) (.done (bv true) [] 0) (bc (bc (decide (Shrt (gR (Option.getD (actG (4000:Int).toNat w (idG n.toNat)) [])))) true false) (bc (sfB (gR (Option.getD (actG (4000:Int).toNat w (idG n.toNat)) [])) (gR (Option.getD (actG (4000:Int).toNat (wL n c L) (idG n.toNat)) []))) (.done (bv true) [] 0) (.done (bv false) [] 0)) .bad))) .bad) .bad)) .bad)))) .bad)):=by kernel_rfl
theorem zhd:∀ A:List (List U),sfB A A=true
 | []=>rfl
 | r::A=>by
  show bc (eqLI (facR r) (facR r)) (sfB A A) false=true;rw [zax.2 rfl,bc_t,zhd A]
theorem zid (l:List Int):fac [U.l (l.map fun x=>[U.i x])]=l:=by
 show List.map _ (List.map _ l)=l;rw [List.map_map];exact List.map_id _
theorem zyo {n:Nat} {w:List Int} (h1:1≤n) (h2:n≤12) (hl:w.length≤400) (h:Vld n w):chk n w=0:=by
 unfold chk;rw [df (show ¬ (n:Int)<1 by omega),df (show ¬ (12:Int)<n by omega),df (show ¬ (400:Int)<Int.ofNat w.length by rw [ofn];omega),bc_f,bc_f,bc_f];have:w.any (badL n)=false:=by
  rw [List.any_eq_false];intro x hx hb;obtain ⟨q1,q2,q3⟩:=h x hx;unfold badL at hb;rw [zae (0-(n:Int)) (by omega) (by omega),show (x==0)=false by simp [q1],bc_f,df (show ¬ x≤0-(n:Int) by omega),bc_f,df (show ¬ (n:Int)≤x by omega)] at hb;cases hb
 rw [this,bc_f]
variable {n:Nat}
theorem zs6 (F:List (Pm n)):(PNml.rowsF n F).map fac=F.map pl:=by
 unfold PNml.rowsF;rw [List.map_map];exact List.map_congr_left fun p _=>zid _
theorem zdc (F:List (Pm n)):(PNml.rowsF n F).length=F.length:=by unfold PNml.rowsF;rw [List.length_map]
theorem zj2 {F:List (Pm n)} {k:Nat} (hk:k<F.length):List.map (fun r=>U.int (List.headD r (U.i 0))) (U.list (List.getD (List.getD (PNml.rowsF n F) k []) 0 (U.i 0)))=pl F[k]:=by
 show fac (List.getD (PNml.rowsF n F) k [])=_;unfold PNml.rowsF;rw [List.getD_eq_getElem?_getD,List.getElem?_map,List.getElem?_eq_getElem hk];exact zid _
theorem zhh {F:List (Pm n)} {r:List U} (h:r∈PNml.rowsF n F):∃ p:Pm n,fac r=pl p:=by
 unfold PNml.rowsF at h;obtain ⟨p,_,rfl⟩:=List.mem_map.1 h;exact ⟨p,zid _⟩
theorem zp6:∀ (w:List Int) (s:Frm n),(w.foldl Frm.step s).F.length≤s.F.length+w.length
 | [],s=>Nat.le_refl _
 | x::w,s=>by
  have h1:=zp6 w (s.step x);have h2:=(zlq s x).1;show (w.foldl Frm.step (s.step x)).F.length≤_;rw [List.length_cons];omega
theorem znb {m:Nat} (hm:m≤4000):∀ {w:List Int} {g h:List (List Int)},(∀ l,l∈g→l.length≤4000)→actG m w g=some h→∀ l,l∈h→l.length≤4000
 | [],g,h,hg,e=>by injection e with e;subst e;exact hg
 | x::w,g,h,hg,e=>by
  unfold actG at e;split at e
  ·cases e
  ·exact znb (w:=w) (g:=actS g x) hm (fun l hl=>by have:=zkl hl;omega) e
theorem zxz {g:List (List Int)} (h1:g.length≤5000) (h2:∀ l,l∈g→l.length≤4000):Shrt (gR g):=⟨by rw [zf6];exact h1,fun r hr=>by
 unfold gR at hr;obtain ⟨l,hl,rfl⟩:=List.mem_map.1 hr;have:facR [U.l (l.map fun x=>[U.i x])]=l:=zid l;rw [this];have:=h2 l hl;omega⟩
theorem fin {w:List Int} {i:Nat} (h1:1≤n) (hn:n≤12) (hv:Vld n w) (hw:w.length≤120) (hi:(nfW n w).F.length≤i):RUN (stOf (sL n w (nfW n w).pw (PNml.rowsF n (nfW n w).F) i)) = .done (bv true) [] 0:=by
 have t:=l_t n w (nfW n w).pw (PNml.rowsF n (nfW n w).F) i;have hF:(nfW n w).F.length≤120:=by
  have:=zp6 w (⟨0,[]⟩:Frm n);have e:(nfW n w).F.length=(w.foldl Frm.step (⟨0,[]⟩:Frm n)).F.length:=rfl;rw [List.length_nil] at this;omega
 have e0:Int.toNat (n:Int)=n:=rfl;have e4:Int.toNat (4000:Int)=4000:=rfl;have c1:(PNml.rowsF n (nfW n w).F).length≤200∧∀ r,r∈PNml.rowsF n (nfW n w).F→(fac r).length≤100:=⟨by rw [zdc];omega,fun r hr=>by
  obtain ⟨p,e⟩:=zhh hr;rw [e,zbc hn];omega⟩
 have c2:Shrt (PNml.rowsF n (nfW n w).F):=⟨by rw [zdc];omega,fun r hr=>by
  obtain ⟨p,e⟩:=zhh hr;have e:facR r=pl p:=e;rw [e,zbc hn];omega⟩
 have hok:okF n (PNml.rowsF n (nfW n w).F)=true:=by
  unfold okF;rw [List.all_eq_true];intro r hr;obtain ⟨p,e⟩:=zhh hr;rw [e];exact zx6 hn p
 rw [zdc,df (show ¬ (i:Int)<Int.ofNat (nfW n w).F.length by rw [ofn];omega),bc_f,← zdc,dt c1,bc_t] at t;have hE:wE n (nfW n w).pw (PNml.rowsF n (nfW n w).F)=3∨(wE n (nfW n w).pw (PNml.rowsF n (nfW n w).F)=0∧(wout n (nfW n w).pw (PNml.rowsF n (nfW n w).F)).length≤400):=by
  unfold wE;rw [if_neg (show ¬ (n:Int)<1 by omega),if_neg (show ¬ (12:Int)<n by omega),e0,if_neg (by rw [hok];decide)];split
  ·exact .inl rfl
  ·split
   ·exact .inl rfl
   ·exact .inr ⟨rfl,by omega⟩
 rcases hE with hE|⟨hE,hl⟩
 ·rw [hE,show ((3:Int) != 0)=true from rfl,bc_t,show ((3:Int)==3)=true from rfl,bc_t] at t
  exact t
 have hwl:wL n (nfW n w).pw (PNml.rowsF n (nfW n w).F)=wout n (nfW n w).pw (PNml.rowsF n (nfW n w).F):=by
  unfold wL;rw [if_pos hE];rfl
 obtain ⟨v1,v2⟩:=zqt hn (zs6 (nfW n w).F) hl;have v1:Vld n (wout n (nfW n w).pw (PNml.rowsF n (nfW n w).F)):=v1;have v2:Cn n (wout n (nfW n w).pw (PNml.rowsF n (nfW n w).F)) (wdN (nfW n w)):=v2;rw [hE,hwl,show ((0:Int) != 0)=false from rfl,bc_f] at t
 generalize wout n (nfW n w).pw (PNml.rowsF n (nfW n w).F)=v at *;have hc:Cn n w v:=(cn_nf hv).trans v2.symm;have hnf:nfW n v=nfW n w:=(ztd hv v1 hc).symm;have zv:=zyo h1 hn hl v1;have a1:ActOk n w 4000:=⟨by omega,by omega,hv,by omega,by omega,by omega⟩;have a2:ActOk n v 4000:=⟨by omega,by omega,v1,by omega,by omega,by omega⟩;rw [zv,show ((0:Int) != 0)=false from rfl,bc_f,bc_f,bc_f,e0,hnf,show ((nfW n w).pw != (nfW n w).pw)=false by simp,bc_f,dt c2,bc_t,bc_t,zhd,dt a1,dt a2,e4] at t
 cases g1:actG 4000 w (idG n) with
 | none=>rw [g1] at t;exact t
 | some g=>
  cases g2:actG 4000 v (idG n) with
  | none=>rw [g1,g2] at t;exact t
  | some k=>
   have e:=zxk hc g1 g2;subst e;have hs:Shrt (gR g):=zxz (by
    rw [zep g1,zeq,zf4];omega) (znb (by omega) (RAct.idG_small hn).2 g1)
   rw [g1,g2] at t;have t:RUN (stOf (sL n w (nfW n w).pw (PNml.rowsF n (nfW n w).F) i))=(bc (bc (decide (Shrt (gR g))) true false) (bc (sfB (gR g) (gR g)) (.done (bv true) [] 0) (.done (bv false) [] 0)) .bad):=t;rw [dt hs,zhd] at t;exact t
theorem step {w:List Int} {i:Nat} (h1:1≤n) (hn:n≤12) (hw:w.length≤120) (hi:i<(nfW n w).F.length):RUN (stOf (sL n w (nfW n w).pw (PNml.rowsF n (nfW n w).F) i)) = .at (sL n w (nfW n w).pw (PNml.rowsF n (nfW n w).F) (i+1:Nat)):=by
 have t:=l_t n w (nfW n w).pw (PNml.rowsF n (nfW n w).F) i;have hF:(nfW n w).F.length≤120:=by
  have:=zp6 w (⟨0,[]⟩:Frm n);have e:(nfW n w).F.length=(w.foldl Frm.step (⟨0,[]⟩:Frm n)).F.length:=rfl;rw [List.length_nil] at this;omega
 obtain ⟨s1,s2,s3⟩:=ztc (n:=n) w;have e0:∀ x:Nat,Int.toNat (x:Int)=x:=fun _=>rfl;have c1:ShpOk n (pl (nfW n w).F[i]):=⟨by omega,by omega,(nfW n w).F[i],rfl,s2 _ (List.getElem_mem hi),s3 _ (List.getElem_mem hi)⟩;have w2:IntKind.wrap IntKind.i64 ((i:Int)+1)=((i+1:Nat):Int):=by rw [zae _ (by omega) (by omega)];omega
 by_cases c:0<i
 ·have w1:IntKind.wrap IntKind.i64 ((i:Int)-1)=((i-1:Nat):Int):=by rw [zae _ (by omega) (by omega)];omega
  have hlw:=zux s1 (i-1) (by omega);have ei:(nfW n w).F[i-1+1]'(by omega)=(nfW n w).F[i]:=by congr 1;omega
  rw [ei] at hlw;have c3:WeiOk (pl (nfW n w).F[i-1]) (pl (nfW n w).F[i]):=⟨n,_,_,h1,hn,rfl,rfl,hlw⟩;rw [w1,w2,e0,e0,zj2 hi,zj2 (show i-1<(nfW n w).F.length by omega),zdc,dt c1,dt c3] at t;simp (disch:=omega) only [yS] at t;exact t
 ·rw [w2,e0,zj2 hi,zdc,dt c1] at t;simp (disch:=omega) only [yS] at t;exact t
theorem loop {w:List Int} (h1:1≤n) (hn:n≤12) (hv:Vld n w) (hw:w.length≤120):∀ (c i:Nat),i+c=(nfW n w).F.length→EndZ 10 ctWw false (stOf (sL n w (nfW n w).pw (PNml.rowsF n (nfW n w).F) i)) (bv true) [] 0
 | 0,i,h=>.done (fin h1 hn hv hw (by omega))
 | c+1,i,h=>.at zk6 (step h1 hn hw (by omega)) (loop h1 hn hv hw c (i+1) (by omega))
theorem ends (n:Int) (w:List Int):EndZ 10 ctWw false (st0 10 [iv n,il w]) (bv true) [] 0:=by
 have h:=in_t n w
 by_cases c2:¬ chk n w=0
 ·have e:(chk n w != 0)=true:=by simp [c2]
  rw [e] at h;simp only [bc_t,zla] at h;exact .done h
 have c2:chk n w=0:=Decidable.of_not_not c2;rw [c2,show ((0:Int) != 0)=false from rfl] at h
 simp only [bc_f] at h;obtain ⟨⟨w0,w1,w2,w3⟩,w4⟩:=zrn c2;obtain ⟨n,rfl⟩:=Int.eq_ofNat_of_zero_le (show 0≤n by omega)
 by_cases c:120<w.length
 ·rw [dt (show (120:Int)<Int.ofNat w.length by rw [ofn];omega),dt (show Int.ofNat w.length≤(400:Int) by rw [ofn];omega),bc_t,bc_t] at h;exact .done h
 ·rw [df (show ¬ (120:Int)<Int.ofNat w.length by rw [ofn];omega),df (show ¬ (1000:Int)<Int.ofNat w.length by rw [ofn];omega),bc_f,bc_f] at h;exact .at zk6 h (loop (by omega) (by omega) w3 (by omega) (nfW n w).F.length 0 (Nat.zero_add _))
end AWw
theorem braidsWeighted_calls {γ:G} {w:World} {us:Array Value} (n:Int) (wn:(Lit.int .i64 n).wf=true) (a:List (List U)) (wa:UFit (.list [.int .i64]) (.l a)) (hax:ECL γ [iv n,.lst (mkC [.int .i64] a)] us.toList) (hN:∀ i,γ i=none) (hfz:FzAt γ w):Calls Try.prog 10 us w fun e w'=>e = .returned (.bool true)∧Stays w w':=
 zya ((AWw.ends n _).calls zk6 (by kernel_rfl) hax hN hfz)
end
end Go.Proofs.Ytfffbioafhppiaa.Ev
namespace Go.Proofs.Ytfffbioafhppiaa
open Go.ChangeShapes Go.WideShapes Go.ChangeAt Go.RowKit Go.ChangeMaps
theorem knobBraidsWeighted:ownKnob Try.prog.godebug=none:=by kernel_rfl
theorem kidsBraidsWeighted:Kids Try.prog (· < Try.prog.types.size):=kids_rows (by kernel_rfl) (by kernel_rfl)
theorem fullBraidsWeighted:∀ t e,t<Try.prog.types.size→Try.prog.underlying t=some (.slice e)→0<Try.prog.cellsOf e:=slices_full_of Try.prog (by kernel_rfl)
set_option maxRecDepth 100000 in
theorem liftedBraidsWeighted (os:Os) (started:os.Started) (H:Type) (enc:TypeId×Value→H) :
  ReturnsInHanded {} Try.checked os 10 .any (Rows.braidsWeightedSpec.pre6 enc Try.prog Try.f10 Rows.braidsWeightedRow.domain false) (Rows.braidsWeightedSpec.post enc Try.prog Try.f10 false true false false):=by
 refine returnsInHanded_of_change (C:=Try.checked) knobBraidsWeighted started (by kernel_rfl) Try.func10
  (ChangeSpec.witness6 (enc:=enc) (C:=Try.checked) false ⟨#[],#[.int .i64 0,.slice none 0 0],[]⟩ 8 (by kernel_rfl) (by kernel_rfl) (by kernel_rfl) (by kernel_rfl)) ?_
 intro W base args ds gs before hval0 hW hcnd _;have hval:∀ (j:Nat) t v,Try.f10.params[j]? = some t→args[j]? = some v→Value.okWide Try.prog W .any base t v:=hval0;have hW':=hW;obtain ⟨p,q,hA0,hV,rfl,hfz,hnd⟩:=hW;have hA:DataW.TrodAll enc Try.prog W 0 (fun _=>true) true Try.f10.params.toList args.toList ds p:=hA0;have hAk:=hA;rw [Try.params10] at hA hval;obtain ⟨rfl,rfl⟩:=trodVars_none hV;obtain ⟨v0,v1,d0,d1,p0,p1,rfl,rfl,rfl,h0,h1⟩:=trodAll_two hA;obtain ⟨n,rfl,rfl,rfl,wn⟩:=open_int Try.underlying3 (hval 0 3 v0 rfl rfl) h0
 obtain ⟨w,ww,ew⟩:=Ev.open_lst (k:=8) Try.underlying22 (by kernel_rfl:Ev.shB Try.prog 8 22=some [.list [.int .i64]]) (hval 1 22 v1 rfl rfl) h1;clear hA0 hval0;refine (Ev.braidsWeighted_calls n wn w ww (γ:=Ev.gAll W) (.cons (.v _) (.cons ew (.nil _))) (fun i=>rfl) (Ev.fzAll_at W)).mono fun e W' ⟨he,hg⟩=>?_;subst he;exact ⟨_,rfl,zs9 kidsBraidsWeighted fullBraidsWeighted Try.underlying4 (by kernel_rfl) (by kernel_rfl) rfl rfl (by rw [Try.params10];decide) hW' hAk hg (ok_one (by kernel_rfl) rfl (okWide_bool_mk Try.underlying4 _))⟩
theorem braidsWeighted_holds:Rows.BraidsWeightedSaid:=
 OpenClaim.holds_of_wide 10 Try.f10 rfl rfl rfl rfl rfl rfl rfl ⟨rfl,rfl,rfl,rfl,rfl⟩ rfl rfl rfl rfl rfl (by kernel_rfl) Try.func10 (by kernel_rfl)
  (of_decide_eq_true (by kernel_rfl)) (by unfold Func.isWrapper;first|(rw [if_pos (by decide +kernel)];kernel_rfl)|(rw [if_neg (by decide +kernel)];exact ⟨rfl,rfl⟩))
  (fun os started H enc _=>liftedBraidsWeighted os started H enc)
end Go.Proofs.Ytfffbioafhppiaa
