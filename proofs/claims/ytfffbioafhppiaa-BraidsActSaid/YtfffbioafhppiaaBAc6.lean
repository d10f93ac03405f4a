/- BraidsAct returns true, for all arguments, in every world in which it is called, and nothing that was there turns. -/
import Derived.ProofKit
import Derived.ReadAgain
import Derived.OpenShut
import Derived.Test.YtfffbioafhppiaaRows
import Derived.WalkKit
import Derived.Test.YtfffbioafhppiaaBAc5
set_option linter.unusedSimpArgs false
set_option linter.unusedVariables false
noncomputable section
namespace Go.Proofs.Ytfffbioafhppiaa.Ev
section
namespace PNrm
noncomputable def ct:Tr ZCC:=(PTim.ct.put 115 (some (mC spTrn))).put 117 (some (mC spTim))
theorem ct_ok:ZCtsOk Try.prog ct:=(PTim.ct_ok.addM rfl zsa).addM rfl zsb
noncomputable def RN (s:ES):ZF:=RMs 0 66 ct [(atS 0 66 3,[[(5,some (12,95,.ints .u8 [])),(15,none),(16,none),(17,none)]])] [] [] s
noncomputable def sN (n:Int) (w:List Int) (pw:Int) (L:List Int) (len:Nat) (nn:Bool) (z i:Int):NS:=⟨[⟨66,58,[(5,(EV.ptr 0 0)),(15,(il w)),(16,iv z),(17,iv i)],[.it (.code (nav [1,1,0,1,0,0] (bodyOf Try.f66))),.it (.inLoop (nav [1,1,0,1,0,0] (bodyOf Try.f66))),.it (.inBlock 0),.it (.code (nav [1,1,1] (bodyOf Try.f66)))],[],Option.none⟩],[(0,EK.cells 92 [iv n,iv pw,.slO 1 12 len nn] true),(1,EK.seq 95 (.ints .u8 L) nn)],2⟩
theorem in_t (n:Int) (w:List Int):RN (st0m 66 [iv n,il w] [] 0)=(.at (sN (n) (w) ((0:Int)) ([]) ((0:Nat)) (false) (Int.ofNat (List.length w)) ((0:Int)))):=by kernel_rfl
theorem nil_t (n:Int):RMs 0 66 ct [] [] [(0,12,95,.ints .u8 [])] (st0m 66 [iv n,.v (.slice none 0 0)] [] 0)=(.done (EV.ptr 0 0) [(0,(EK.cells 92 [(EV.v (Value.int IntKind.i64 (n))),(EV.v (Value.int IntKind.i64 (0))),(EV.slO 1 12 0 false)] true)),(1,(EK.seq 95 (SyC.ints IntKind.u8 []) false))] 2):=by kernel_rfl
theorem step_t (n:Int) (w:List Int) (pw:Int) (L:List Int) (len:Nat) (nn:Bool) (z i:Int):RN (stOf (sN n w pw L len nn z i))=(bc (decide (i<z)) (bc (bc (bc (decide ((0:Int)≤i)) (Nat.blt (Int.toNat i) (List.length w)) false) true false) (bc (bc (Nat.blt (Int.toNat i) (List.length w)) true false) (bc (decide (List.getD w (Int.toNat i) (0:Int)<(0:Int))) (bc (bc (bc (eqN nn nn) (decide (FormOk n L len)) false) true false) (bc (bc (bc (eqN nn nn) (decide ((0:Int)≤n∧n≤(12:Int))) false) true false) (bc (bc (decide (In12 (pA (Pm.del (Int.toNat n))))) true false) (bc (bc (Nat.beq (List.length (invS (pA (Pm.del (Int.toNat n))) (12:Nat))) (12:Nat)) (Nat.beq (List.length e12) (12:Nat)) false) (bc (bc (bc (bc (bc (decide ((0:Int)≤IntKind.wrap IntKind.i64 ((0:Int)-List.getD w (Int.toNat i) (0:Int)))) (Nat.blt (Int.toNat (IntKind.wrap IntKind.i64 ((0:Int)-List.getD w (Int.toNat i) (0:Int)))) (12:Nat)) false) true false) (bc (bc (Nat.blt (Int.toNat (IntKind.wrap IntKind.i64 ((0:Int)-List.getD w (Int.toNat i) (0:Int)))) (List.length (invS (pA (Pm.del (Int.toNat n))) (12:Nat)))) true false) (bc (bc (bc (decide ((0:Int)≤IntKind.wrap IntKind.i64 (IntKind.wrap IntKind.i64 ((0:Int)-List.getD w (Int.toNat i) (0:Int))-(1:Int)))) (Nat.blt (Int.toNat (IntKind.wrap IntKind.i64 (IntKind.wrap IntKind.i64 ((0:Int)-List.getD w (Int.toNat i) (0:Int))-(1:Int)))) (12:Nat)) false) true false) (bc (bc (Nat.blt (Int.toNat (IntKind.wrap IntKind.i64 (IntKind.wrap IntKind.i64 ((0:Int)-List.getD w (Int.toNat i) (0:Int))-(1:Int)))) (List.length (invS (pA (Pm.del (Int.toNat n))) (12:Nat)))) true false) (bc (bc (bc (decide ((0:Int)≤IntKind.wrap IntKind.i64 (IntKind.wrap IntKind.i64 ((0:Int)-List.getD w (Int.toNat i) (0:Int))-(1:Int)))) (Nat.blt (Int.toNat (IntKind.wrap IntKind.i64 (IntKind.wrap IntKind.i64 ((0:Int)-List.getD w (Int.toNat i) (0:Int))-(1:Int)))) (12:Nat)) false) true false) (bc (Nat.blt (Int.toNat (IntKind.wrap IntKind.i64 (IntKind.wrap IntKind.i64 ((0:Int)-List.getD w (Int.toNat i) (0:Int))-(1:Int)))) (List.length (invS (pA (Pm.del (Int.toNat n))) (12:Nat)))) (bc (bc (bc (decide ((0:Int)≤IntKind.wrap IntKind.i64 ((0:Int)-List.getD w (Int.toNat i) (0:Int)))) (Nat.blt (Int.toNat (IntKind.wrap IntKind.i64 ((0:Int)-List.getD w (Int.toNat i) (0:Int)))) (12:Nat)) false) true false) (bc (Nat.blt (Int.toNat (IntKind.wrap IntKind.i64 ((0:Int)-List.getD w (Int.toNat i) (0:Int)))) (List.length (List.set (invS (pA (Pm.del (Int.toNat n))) (12:Nat)) (Int.toNat (IntKind.wrap IntKind.i64 (IntKind.wrap IntKind.i64 ((0:Int)-List.getD w (Int.toNat i) (0:Int))-(1:Int)))) (List.getD (invS (pA (Pm.del (Int.toNat n))) (12:Nat)) (Int.toNat (IntKind.wrap IntKind.i64 ((0:Int)-List.getD w (Int.toNat i) (0:Int)))) (0:Int))))) true false) false) false) false) false) false) false) false) true false) (bc (bc (decide (In12 (List.set (List.set (invS (pA (Pm.del (Int.toNat n))) (12:Nat)) (Int.toNat (IntKind.wrap IntKind.i64 (IntKind.wrap IntKind.i64 ((0:Int)-List.getD w (Int.toNat i) (0:Int))-(1:Int)))) (List.getD (invS (pA (Pm.del (Int.toNat n))) (12:Nat)) (Int.toNat (IntKind.wrap IntKind.i64 ((0:Int)-List.getD w (Int.toNat i) (0:Int)))) (0:Int))) (Int.toNat (IntKind.wrap IntKind.i64 ((0:Int)-List.getD w (Int.toNat i) (0:Int)))) (List.getD (invS (pA (Pm.del (Int.toNat n))) (12:Nat)) (Int.toNat (IntKind.wrap IntKind.i64 (IntKind.wrap IntKind.i64 ((0:Int)-List.getD w (Int.toNat i) (0:Int))-(1:Int)))) (0:Int))))) true false) (bc (bc (bc (eqN nn nn) (decide (TimOk n (IntKind.wrap IntKind.i64 (pw-(1:Int))) (PTrn.turL n L) len nn (invS (List.set (List.set (invS (pA (Pm.del (Int.toNat n))) (12:Nat)) (Int.toNat (IntKind.wrap IntKind.i64 (IntKind.wrap IntKind.i64 ((0:Int)-List.getD w (Int.toNat i) (0:Int))-(1:Int)))) (List.getD (invS (pA (Pm.del (Int.toNat n))) (12:Nat)) (Int.toNat (IntKind.wrap IntKind.i64 ((0:Int)-List.getD w (Int.toNat i) (0:Int)))) (0:Int))) (Int.toNat (IntKind.wrap IntKind.i64 ((0:Int)-List.getD w (Int.toNat i) (0:Int)))) (List.getD (invS (pA (Pm.del (Int.toNat n))) (12:Nat)) (Int.toNat (IntKind.wrap IntKind.i64 (IntKind.wrap IntKind.i64 ((0:Int)-List.getD w (Int.toNat i) (0:Int))-(1:Int)))) (0:Int))) (12:Nat)))) false) true false) (.at (sN (n) (w) (IntKind.wrap IntKind.i64 (pw-(1:Int))+(Nat.cast (timD n (PTrn.turL n L) (invS (List.set (List.set (invS (pA (Pm.del (Int.toNat n))) (12:Nat)) (Int.toNat (IntKind.wrap IntKind.i64 (IntKind.wrap IntKind.i64 ((0:Int)-List.getD w (Int.toNat i) (0:Int))-(1:Int)))) (List.getD (invS (pA (Pm.del (Int.toNat n))) (12:Nat)) (Int.toNat (IntKind.wrap IntKind.i64 ((0:Int)-List.getD w (Int.toNat i) (0:Int)))) (0:Int))) (Int.toNat (IntKind.wrap IntKind.i64 ((0:Int)-List.getD w (Int.toNat i) (0:Int)))) (List.getD (invS (pA (Pm.del (Int.toNat n))) (12:Nat)) (Int.toNat (IntKind.wrap IntKind.i64 (IntKind.wrap IntKind.i64 ((0:Int)-List.getD w (Int.toNat i) (0:Int))-(1:Int)))) (0:Int))) (12:Nat))):Int)) (encF (timF n (PTrn.turL n L) (invS (List.set (List.set (invS (pA (Pm.del (Int.toNat n))) (12:Nat)) (Int.toNat (IntKind.wrap IntKind.i64 (IntKind.wrap IntKind.i64 ((0:Int)-List.getD w (Int.toNat i) (0:Int))-(1:Int)))) (List.getD (invS (pA (Pm.del (Int.toNat n))) (12:Nat)) (Int.toNat (IntKind.wrap IntKind.i64 ((0:Int)-List.getD w (Int.toNat i) (0:Int)))) (0:Int))) (Int.toNat (IntKind.wrap IntKind.i64 ((0:Int)-List.getD w (Int.toNat i) (0:Int)))) (List.getD (invS (pA (Pm.del (Int.toNat n))) (12:Nat)) (Int.toNat (IntKind.wrap IntKind.i64 (IntKind.wrap IntKind.i64 ((0:Int)-List.getD w (Int.toNat i) (0:Int))-(1:Int)))) (0:Int))) (12:Nat)))) (List.length (timF n (PTrn.turL n L) (invS (List.set (List.set (invS (pA (Pm.del (Int.toNat n))) (12:Nat)) (Int.toNat (IntKind.wrap IntKind.i64 (IntKind.wrap IntKind.i64 ((0:Int)-List.getD w (Int.toNat i) (0:Int))-(1:Int)))) (List.getD (invS (pA (Pm.del (Int.toNat n))) (12:Nat)) (Int.toNat (IntKind.wrap IntKind.i64 ((0:Int)-List.getD w (Int.toNat i) (0:Int)))) (0:Int))) (Int.toNat (IntKind.wrap IntKind.i64 ((0:Int)-List.getD w (Int.toNat i) (0:Int)))) (List.getD (invS (pA (Pm.del (Int.toNat n))) (12:Nat)) (Int.toNat (IntKind.wrap IntKind.i64 (IntKind.wrap IntKind.i64 ((0:Int)-List.getD w (Int.toNat i) (0:Int))-(1:Int)))) (0:Int))) (12:Nat)))) (true) (z) (IntKind.wrap IntKind.i64 (i+(1:Int))))) .bad) .bad) .bad) .bad) .bad) .bad) .bad) (bc (bc (bc (bc (bc (decide ((0:Int)≤List.getD w (Int.toNat i) (0:Int))) (Nat.blt (Int.toNat (List.getD w (Int.toNat i) (0:Int))) (12:Nat)) false) true false) (bc (bc (Nat.blt (Int.toNat (List.getD w (Int.toNat i) (0:Int))) (List.length e12)) true false) (bc (bc (bc (decide ((0:Int)≤IntKind.wrap IntKind.i64 (List.getD w (Int.toNat i) (0:Int)-(1:Int)))) (Nat.blt (Int.toNat (IntKind.wrap IntKind.i64 (List.getD w (Int.toNat i) (0:Int)-(1:Int)))) (12:Nat)) false) true false) (bc (bc (Nat.blt (Int.toNat (IntKind.wrap IntKind.i64 (List.getD w (Int.toNat i) (0:Int)-(1:Int)))) (List.length e12)) true false) (bc (bc (bc (decide ((0:Int)≤IntKind.wrap IntKind.i64 (List.getD w (Int.toNat i) (0:Int)-(1:Int)))) (Nat.blt (Int.toNat (IntKind.wrap IntKind.i64 (List.getD w (Int.toNat i) (0:Int)-(1:Int)))) (12:Nat)) false) true false) (bc (Nat.blt (Int.toNat (IntKind.wrap IntKind.i64 (List.getD w (Int.toNat i) (0:Int)-(1:Int)))) (List.length e12)) (bc (bc (bc (decide ((0:Int)≤List.getD w (Int.toNat i) (0:Int))) (Nat.blt (Int.toNat (List.getD w (Int.toNat i) (0:Int))) (12:Nat)) false) true false) (bc (Nat.blt (Int.toNat (List.getD w (Int.toNat i) (0:Int))) (List.length (List.set e12 (Int.toNat (IntKind.wrap IntKind.i64 (List.getD w (Int.toNat i) (0:Int)-(1:Int)))) (List.getD e12 (Int.toNat (List.getD w (Int.toNat i) (0:Int))) (0:Int))))) true false) false) false) false) false) false) false) false) true false) (bc (bc (decide (In12 (List.set (List.set e12 (Int.toNat (IntKind.wrap IntKind.i64 (List.getD w (Int.toNat i) (0:Int)-(1:Int)))) (List.getD e12 (Int.toNat (List.getD w (Int.toNat i) (0:Int))) (0:Int))) (Int.toNat (List.getD w (Int.toNat i) (0:Int))) (List.getD e12 (Int.toNat (IntKind.wrap IntKind.i64 (List.getD w (Int.toNat i) (0:Int)-(1:Int)))) (0:Int))))) true false) (bc (bc (bc (eqN nn nn) (decide (TimOk n pw L len nn (invS (List.set (List.set e12 (Int.toNat (IntKind.wrap IntKind.i64 (List.getD w (Int.toNat i) (0:Int)-(1:Int)))) (List.getD e12 (Int.toNat (List.getD w (Int.toNat i) (0:Int))) (0:Int))) (Int.toNat (List.getD w (Int.toNat i) (0:Int))) (List.getD e12 (Int.toNat (IntKind.wrap IntKind.i64 (List.getD w (Int.toNat i) (0:Int)-(1:Int)))) (0:Int))) (12:Nat)))) false) true false) (.at (sN (n) (w) (pw+(Nat.cast (timD n L (invS (List.set (List.set e12 (Int.toNat (IntKind.wrap IntKind.i64 (List.getD w (Int.toNat i) (0:Int)-(1:Int)))) (List.getD e12 (Int.toNat (List.getD w (Int.toNat i) (0:Int))) (0:Int))) (Int.toNat (List.getD w (Int.toNat i) (0:Int))) (List.getD e12 (Int.toNat (IntKind.wrap IntKind.i64 (List.getD w (Int.toNat i) (0:Int)-(1:Int)))) (0:Int))) (12:Nat))):Int)) (encF (timF n L (invS (List.set (List.set e12 (Int.toNat (IntKind.wrap IntKind.i64 (List.getD w (Int.toNat i) (0:Int)-(1:Int)))) (List.getD e12 (Int.toNat (List.getD w (Int.toNat i) (0:Int))) (0:Int))) (Int.toNat (List.getD w (Int.toNat i) (0:Int))) (List.getD e12 (Int.toNat (IntKind.wrap IntKind.i64 (List.getD w (Int.toNat i) (0:Int)-(1:Int)))) (0:Int))) (12:Nat)))) (List.length (timF n L (invS (List.set (List.set e12 (Int.toNat (IntKind.wrap IntKind.i64 (List.getD w (Int.toNat i) (0:Int)-(1:Int)))) (List.getD e12 (Int.toNat (List.getD w (Int.toNat i) (0:Int))) (0:Int))) (Int.toNat (List.getD w (Int.toNat i) (0:Int))) (List.getD e12 (Int.toNat (IntKind.wrap IntKind.i64 (List.getD w (Int.toNat i) (0:Int)-(1:Int)))) (0:Int))) (12:Nat)))) (true) (z) (IntKind.wrap IntKind.i64 (i+(1:Int))))) .bad) .bad) .bad)) .bad) .bad) (.done (EV.ptr 0 0) [(0,(EK.cells 92 [(EV.v (Value.int IntKind.i64 (n))),(EV.v (Value.int IntKind.i64 (pw))),(EV.slO 1 12 (len) (nn))] true)),(1,(EK.seq 95 (SyC.ints IntKind.u8 (L)) (nn)))] 2)):=by kernel_rfl
variable {n:Nat}
theorem zsw (hn:n≤12) {k:Nat} (hk:0<k∧k<n):invS (((pA (Pm.one n)).set (k-1) ((Pm.one n).f k:Int)).set k ((Pm.one n).f (k-1):Int)) 12=pA (ltr k hk):=by
 rw [pA_L _ hk hn,zf2 hn];exact zj5 fun _ _=>rfl
theorem zsx (hn:n≤12) {k:Nat} (hk:0<k∧k<n):invS (((pA (Pm.del n).inv).set (k-1) ((Pm.del n).inv.f k:Int)).set k ((Pm.del n).inv.f (k-1):Int)) 12=pA (ctr k hk):=by
 rw [pA_L _ hk hn,zf2 hn];exact zj5 fun _ _=>rfl
theorem zt6 (hn:n≤12) (p:Pm n) {k:Nat} (hk:0<k∧k<n):In12 (((pA p).set (k-1) (p.f k:Int)).set k (p.f (k-1):Int)):=by
 rw [pA_L _ hk hn];exact In12.pA hn _
theorem stepP {w:List Int} {s:Frm n} {nn:Bool} {z:Int} {i k:Nat} (hn:n≤12) (hk:0<k∧k<n) (hi:i<w.length) (hz:z=w.length) (hw:w.length≤2000) (hx:w.getD i 0=(k:Int)) (hN:Nrm s.F) (hl:s.F.length≤2000) (h1:-2000≤s.pw) (h2:s.pw≤2000) (hnn:nn=true∨s.F=[]):RN (stOf (sN n w s.pw (encF s.F) s.F.length nn z i)) = .at (sN n w (s.tim (ltr k hk)).pw (encF (s.tim (ltr k hk)).F) (s.tim (ltr k hk)).F.length true z (i+1:Nat)):=by
 obtain ⟨j,rfl⟩:∃ j,k=j+1:=⟨k-1,by omega⟩;rw [step_t,dt (show (i:Int)<z by omega),bc_t];have e0:((i:Int)).toNat=i:=rfl;rw [e0,hx,df (show ¬ ((j+1:Nat):Int)<0 by omega),bc_f];have w1:IntKind.i64.wrap (((j+1:Nat):Int)-1)=(j:Int):=by rw [zah _ (by omega) (by omega)];omega
 have e1:((j:Int)).toNat=j:=rfl;have e2:(((j+1:Nat):Int)).toNat=j+1:=rfl;rw [w1,e1,e2,zky n,zbm (Pm.one n) (show j+1<12 by omega),zbm (Pm.one n) (show j<12 by omega)];have g1:=zsw hn hk;have g2:=zt6 hn (Pm.one n) hk;rw [show j+1-1=j by omega] at g1 g2;rw [g1,dt g2,List.length_set,zaw];have g3:TimOk n s.pw (encF s.F) s.F.length nn (pA (ltr (j+1) hk)):=⟨by omega,by omega,by omega,by omega,s.F,ltr (j+1) hk,rfl,rfl,rfl,by omega,hN,hnn⟩
 have g4:timD n (encF s.F) (pA (ltr (j+1) hk))=tmD s.F (ltr (j+1) hk):=by
  unfold timD;have e1:decF ((n:Int)).toNat (encF s.F)=s.F:=zcy hn s.F;have e2:decP ((n:Int)).toNat (pA (ltr (j+1) hk))=ltr (j+1) hk:=zeo hn _;rw [e1,e2]
 have g5:timF n (encF s.F) (pA (ltr (j+1) hk))=tmF s.F (ltr (j+1) hk):=by
  unfold timF;have e1:decF ((n:Int)).toNat (encF s.F)=s.F:=zcy hn s.F;have e2:decP ((n:Int)).toNat (pA (ltr (j+1) hk))=ltr (j+1) hk:=zeo hn _;rw [e1,e2]
 rw [dt g3,g4,g5];simp (disch:=omega) only [yS];rfl
theorem stepM {w:List Int} {s:Frm n} {nn:Bool} {z:Int} {i k:Nat} (hn:n≤12) (hk:0<k∧k<n) (hi:i<w.length) (hz:z=w.length) (hw:w.length≤2000) (hx:w.getD i 0 = -(k:Int)) (hN:Nrm s.F) (hl:s.F.length≤2000) (h1:-2000≤s.pw) (h2:s.pw≤2000) (hnn:nn=true∨s.F=[]):RN (stOf (sN n w s.pw (encF s.F) s.F.length nn z i)) = .at (sN n w ((⟨s.pw-1,s.F.map Pm.trn⟩:Frm n).tim (ctr k hk)).pw (encF ((⟨s.pw-1,s.F.map Pm.trn⟩:Frm n).tim (ctr k hk)).F) ((⟨s.pw-1,s.F.map Pm.trn⟩:Frm n).tim (ctr k hk)).F.length true z (i+1:Nat)):=by
 obtain ⟨j,rfl⟩:∃ j,k=j+1:=⟨k-1,by omega⟩;rw [step_t,dt (show (i:Int)<z by omega),bc_t];have e0:((i:Int)).toNat=i:=rfl;rw [e0,hx,dt (show -((j+1:Nat):Int)<0 by omega),bc_t];have w0:IntKind.i64.wrap (0 - -((j+1:Nat):Int))=((j+1:Nat):Int):=by rw [zah _ (by omega) (by omega)];omega
 have w1:IntKind.i64.wrap (((j+1:Nat):Int)-1)=(j:Int):=by rw [zah _ (by omega) (by omega)];omega
 have w2:IntKind.i64.wrap (s.pw-1)=s.pw-1:=zah _ (by omega) (by omega);have e1:((j:Int)).toNat=j:=rfl;have e2:(((j+1:Nat):Int)).toNat=j+1:=rfl;have e3:invS (pA (Pm.del ((n:Int)).toNat)) 12=pA (Pm.del n).inv:=zf2 hn (Pm.del n);rw [w0,w1,w2,e1,e2,e3,zbm (Pm.del n).inv (show j+1<12 by omega),zbm (Pm.del n).inv (show j<12 by omega)];have g1:=zsx hn hk;have g2:=zt6 hn (Pm.del n).inv hk;have g0:In12 (pA (Pm.del ((n:Int)).toNat)):=In12.pA hn (Pm.del n);rw [show j+1-1=j by omega] at g1 g2
 rw [g1,dt g2,List.length_set,zaw,dt g0];have g6:FormOk n (encF s.F) s.F.length:=formOk hn (by omega);have g7:PTrn.turL n (encF s.F)=encF (s.F.map Pm.trn):=by
  unfold PTrn.turL;have e1:decF ((n:Int)).toNat (encF s.F)=s.F:=zcy hn s.F;rw [e1]
 rw [dt g6,g7];have g3:TimOk n (s.pw-1) (encF (s.F.map Pm.trn)) s.F.length nn (pA (ctr (j+1) hk)):=⟨by omega,by omega,by omega,by omega,s.F.map Pm.trn,ctr (j+1) hk,rfl,rfl,(by rw [List.length_map]),by omega,hN.trn,hnn.imp id fun e=>by rw [e];rfl⟩;have g4:timD n (encF (s.F.map Pm.trn)) (pA (ctr (j+1) hk))=tmD (s.F.map Pm.trn) (ctr (j+1) hk):=by
  unfold timD;have e1:decF ((n:Int)).toNat (encF (s.F.map Pm.trn))=s.F.map Pm.trn:=zcy hn _;have e2:decP ((n:Int)).toNat (pA (ctr (j+1) hk))=ctr (j+1) hk:=zeo hn _;rw [e1,e2]
 have g5:timF n (encF (s.F.map Pm.trn)) (pA (ctr (j+1) hk))=tmF (s.F.map Pm.trn) (ctr (j+1) hk):=by
  unfold timF;have e1:decF ((n:Int)).toNat (encF (s.F.map Pm.trn))=s.F.map Pm.trn:=zcy hn _;have e2:decP ((n:Int)).toNat (pA (ctr (j+1) hk))=ctr (j+1) hk:=zeo hn _;rw [e1,e2]
 rw [dt g3,g4,g5];have n12:(12:Nat)=12:=rfl;have g8:0≤(n:Int)∧(n:Int)≤12:=⟨by omega,by omega⟩;have n2:bc nn true false=nn:=bc_b nn;simp (disch:=omega) only [yS,n2];rfl
theorem last {w:List Int} {s:Frm n} {nn:Bool} {z:Int} {i:Nat} (hi:z≤i):RN (stOf (sN n w s.pw (encF s.F) s.F.length nn z i)) = .done (.ptr 0 0) (PDel.K0 n s.pw (encF s.F) s.F.length nn) 2:=by
 rw [step_t,df (show ¬ (i:Int)<z by omega)];rfl
theorem loop {w:List Int} (hn:n≤12) (hw:w.length≤2000) (hv:Vld n w):∀ (k i:Nat) (s:Frm n) (nn:Bool),i+k=w.length→Nrm s.F→s.pw+(s.F.length:Int)≤i → -(i:Int)≤s.pw→s.F.length≤i→(nn=true∨s.F=[]) →
  EndM 0 66 ct (stOf (sN n w s.pw (encF s.F) s.F.length nn w.length i)) (.ptr 0 0) (PDel.K0 n ((w.drop i).foldl Frm.step s).pw (encF ((w.drop i).foldl Frm.step s).F) ((w.drop i).foldl Frm.step s).F.length (bc nn true (Nat.blt 0 k))) 2
 | 0,i,s,nn,h,h1,h2,h3,h4,h5=>by
  rw [List.drop_eq_nil_of_le (by omega),show bc nn true (Nat.blt 0 0)=nn by cases nn <;> rfl];exact .done (last (by omega))
 | k+1,i,s,nn,h,h1,h2,h3,h4,h5=>by
  have hi:i<w.length:=by omega
  rw [List.drop_eq_getElem_cons hi,List.foldl_cons,show bc nn true (Nat.blt 0 (k+1))=bc true true (Nat.blt 0 k) by cases nn <;> rfl];obtain ⟨v1,v2,v3⟩:=hv _ (List.getElem_mem hi);have hg:w.getD i 0=w[i]:=zar hi;generalize w[i]=x at *;rcases Int.lt_or_lt_of_ne v1 with hx|hx
  ·obtain ⟨q,hq⟩:=Int.eq_ofNat_of_zero_le (show 0 ≤ -x by omega);have hq:x = -(q:Int):=by omega
   subst hq;have hk:0<q∧q<n:=by omega
   have hs:=stepM (w:=w) (s:=s) (nn:=nn) (z:=w.length) hn hk hi rfl hw hg h1 (by omega) (by omega) (by omega) h5;rw [zr4 s hk];have q1:=zon (⟨s.pw-1,s.F.map Pm.trn⟩:Frm n) (ctr q hk);have q2:=zlg (⟨s.pw-1,s.F.map Pm.trn⟩:Frm n) (ctr q hk);have q3:=zg9 (⟨s.pw-1,s.F.map Pm.trn⟩:Frm n) (ctr q hk);simp only [List.length_map] at q1 q2 q3;exact .at ct_ok hs (loop hn hw hv k (i+1) _ true (by omega) (zoo _ _) (by omega) (by omega) (by omega) (.inl rfl))
  ·obtain ⟨q,rfl⟩:=Int.eq_ofNat_of_zero_le (show 0≤x by omega);have hk:0<q∧q<n:=by omega
   have hs:=stepP (w:=w) (s:=s) (nn:=nn) (z:=w.length) hn hk hi rfl hw hg h1 (by omega) (by omega) (by omega) h5;rw [zr3 s hk];have q1:=zon s (ltr q hk);have q2:=zlg s (ltr q hk);have q3:=zg9 s (ltr q hk);exact .at ct_ok hs (loop hn hw hv k (i+1) _ true (by omega) (zoo _ _) (by omega) (by omega) (by omega) (.inl rfl))
theorem ends {w:List Int} (hn:n≤12) (hw:w.length≤2000) (hv:Vld n w):EndM 0 66 ct (st0m 66 [iv n,il w] [] 0) (.ptr 0 0) (PDel.K0 n (nfW n w).pw (encF (nfW n w).F) (nfW n w).F.length (Nat.blt 0 w.length)) 2:=by
 refine .at ct_ok (in_t n w) ?_;have:=loop hn hw hv w.length 0 ⟨0,[]⟩ false (by omega) zj7 (by simp) (by simp) (Nat.zero_le _) (.inr rfl);rw [List.drop_zero] at this;exact this
end PNrm
def WOk (n:Int) (w:List Int):Prop:=1≤n∧n≤12∧w.length≤2000∧Vld n.toNat w
noncomputable instance (n:Int) (w:List Int):Decidable (WOk n w):=Classical.propDecidable _
theorem zr1 {n:Int} {w:List Int} (h:WOk n w):EndM 0 66 PNrm.ct (st0m 66 [iv n,il w] [] 0) (.ptr 0 0) (PDel.K0 n (nfW n.toNat w).pw (encF (nfW n.toNat w).F) (nfW n.toNat w).F.length (Nat.blt 0 w.length)) 2:=by
 obtain ⟨h1,h2,h3,h4⟩:=h;obtain ⟨n,rfl⟩:=Int.eq_ofNat_of_zero_le (show 0≤n by omega);exact PNrm.ends (by omega) h3 h4
noncomputable def spNrm_0:ZMT:=fun ax K0 m=>match ax,K0 with
 | [.v (.int .i64 n),.lst (.ints .i64 w)],[]=>bc (Nat.beq m (0)) (some ⟨decide (WOk n w),.ptr 0 0,PDel.K0 n (nfW n.toNat w).pw (encF (nfW n.toNat w).F) (nfW n.toNat w).F.length (Nat.blt 0 w.length),2,0⟩) none
 | _,_=>none
theorem zng:ZMtOk Try.prog 66 spNrm_0:=fun γ w0 w us ax K0 m r hs hc hres hax hH=>by
 unfold spNrm_0 at hs;split at hs
 case h_2=>cases hs
 rename_i n w;obtain ⟨hm,rfl⟩:=noN hs;have hm:=Nat.eq_of_beq_eq_true hm;subst hm;have hc_0:decide (WOk n w)=true:=hc;have hc:=of_decide_eq_true hc_0;exact EndM.calls (zr1 hc) PNrm.ct_ok (by kernel_rfl) hres hax hH
noncomputable def spNrm_1:ZMT:=fun ax K0 m=>match ax,K0 with
 | [.v (.int .i64 n),.v (.slice none 0 0)],[]=>bc (Nat.beq m (0)) (some ⟨decide (True),.ptr 0 0,PDel.K0 n 0 (zerosL 0) 0 false,2,0⟩) none
 | _,_=>none
theorem znf:ZMtOk Try.prog 66 spNrm_1:=fun γ w0 w us ax K0 m r hs hc hres hax hH=>by
 unfold spNrm_1 at hs;split at hs
 case h_2=>cases hs
 rename_i n;obtain ⟨hm,rfl⟩:=noN hs;have hm:=Nat.eq_of_beq_eq_true hm;subst hm;have hc_0:decide (True)=true:=hc;have hc:=of_decide_eq_true hc_0;exact EndM.calls (.done (PNrm.nil_t n)) PNrm.ct_ok (by kernel_rfl) hres hax hH
noncomputable def spNrm:ZMT:=ZMT.or spNrm_0 (spNrm_1)
theorem zsd:ZMtOk Try.prog 66 spNrm:=zng.or (znf)
end
noncomputable def badL (n x:Int):Bool:=bc (x==0) true (bc (decide (x≤IntKind.i64.wrap (0-n))) true (decide (n≤x)))
noncomputable def chk (n:Int) (l:List Int):Int:=bc (decide (n<1)) 2 (bc (decide (12<n)) 2 (bc (decide (400<Int.ofNat l.length)) 3 (bc (l.any (badL n)) 7 0)))
theorem zq5 {f:FuncId} {s:ES} (n:Int) (h:RZ f .nil (fun _=>false) [] [] false s=bc (decide (n<1)) (.done (iv 2) [] 0) (bc (decide (12<n)) (.done (iv 2) [] 0) (.done (iv 0) [] 0))):EndZ f .nil false s (iv (chk n [])) [] 0:=by
 unfold chk
 by_cases h1:n<1
 ·rw [dt h1,bc_t] at h ⊢;exact .done h
 by_cases h2:12<n
 ·rw [df h1,dt h2,bc_f,bc_t] at h ⊢;exact .done h
 ·rw [df h1,df h2,bc_f,bc_f] at h ⊢;exact .done h
namespace RChk
noncomputable def RUN (s:ES):ZF:=RZ 45 .nil (atS 0 45 6) [] [[(0,none),(1,none),(5,none)]] false s
noncomputable def sL (n:Int) (l:List Int) (i:Int):NS:=⟨[⟨45,43,[(0,(iv n)),(1,(il l)),(5,iv i)],[.it (.code (nav [1,1,1,0,1,0,0,0] (bodyOf Try.f45))),.it (.code (nav [1,1,1,0,1,0,0,1] (bodyOf Try.f45))),.it (.inLoop (nav [1,1,1,0,1,0,0] (bodyOf Try.f45))),.it (.inBlock 0),.it (.code (nav [1,1,1,1] (bodyOf Try.f45)))],[],Option.none⟩],[],0⟩
theorem in_t (n:Int) (l:List Int):RUN (st0 45 [iv n,il l])=(bc (decide (n<1)) (.done (iv (2)) [] 0) (bc (decide (12<n)) (.done (iv (2)) [] 0) (bc (decide (400<Int.ofNat l.length)) (.done (iv (3)) [] 0) (.at (sL n l 0))))):=by kernel_rfl
theorem nil_t (n:Int):RZ 45 .nil (fun _=>false) [] [] false (st0 45 [iv n,.v (.slice none 0 0)])=(bc (decide (n<(1:Int))) (.done (EV.v (Value.int IntKind.i64 (2))) [] 0) (bc (decide ((12:Int)<n)) (.done (EV.v (Value.int IntKind.i64 (2))) [] 0) (.done (EV.v (Value.int IntKind.i64 (0))) [] 0))):=by kernel_rfl
theorem step_t (n:Int) (l:List Int) (i:Int):RUN (stOf (sL n l i))=(bc (decide (i<Int.ofNat l.length)) (bc (bc (bc (decide (0≤i)) (Nat.blt i.toNat l.length) false) true false) (bc (bc (Nat.blt i.toNat l.length) true false) (bc (l.getD i.toNat 0==0) (.done (iv (7)) [] 0) (bc (bc (bc (decide (0≤i)) (Nat.blt i.toNat l.length) false) true false) (bc (bc (Nat.blt i.toNat l.length) true false) (bc (decide (l.getD i.toNat 0≤IntKind.i64.wrap ((0:Int)-n))) (.done (iv (7)) [] 0) (bc (bc (bc (decide (0≤i)) (Nat.blt i.toNat l.length) false) true false) (bc (bc (Nat.blt i.toNat l.length) true false) (bc (decide (n≤l.getD i.toNat 0)) (.done (iv (7)) [] 0) (.at (sL n l (IntKind.i64.wrap (i+1))))) .bad) .bad)) .bad) .bad)) .bad) .bad) (.done (iv (0)) [] 0)):=by kernel_rfl
theorem step {n:Int} {l:List Int} {i:Nat} (hi:i<l.length) (hl:l.length≤400):RUN (stOf (sL n l i))=bc (badL n l[i]) (.done (iv 7) [] 0) (.at (sL n l (i+1:Nat))):=by
 rw [step_t];have e:l.getD i 0=l[i]:=zar hi;simp (disch:=omega) only [yS,e];unfold badL;cases (l[i]==0) <;> cases decide (l[i]≤IntKind.i64.wrap (0-n)) <;> cases decide (n≤l[i]) <;> rfl
theorem last {n:Int} {l:List Int} {i:Nat} (hi:l.length≤i):RUN (stOf (sL n l i)) = .done (iv 0) [] 0:=by
 rw [step_t];simp (disch:=omega) only [yS]
theorem loop {n:Int} {l:List Int} (hl:l.length≤400):∀ (k i:Nat),i+k=l.length→EndZ 45 .nil false (stOf (sL n l i)) (iv (bc ((l.drop i).any (badL n)) 7 0)) [] 0
 | 0,i,h=>by
  rw [List.drop_eq_nil_of_le (by omega)];exact .done (last (by omega))
 | k+1,i,h=>by
  have hi:i<l.length:=by omega
  have hs:=step (n:=n) hi hl;rw [List.drop_eq_getElem_cons hi,List.any_cons];cases hb:badL n l[i] <;> rw [hb] at hs
  ·exact .at (.nil _) hs (loop hl k (i+1) (by omega))
  ·exact .done hs
theorem ends (n:Int) (l:List Int):EndZ 45 .nil false (st0 45 [iv n,il l]) (iv (chk n l)) [] 0:=by
 have h:=in_t n l;unfold chk
 by_cases h1:n<1
 ·simp only [yS,dt h1] at h ⊢;exact .done h
 by_cases h2:12<n
 ·simp only [yS,df h1,dt h2] at h ⊢;exact .done h
 by_cases h3:400<(l.length:Int)
 ·simp only [yS,df h1,df h2,dt h3] at h ⊢;exact .done h
 ·simp only [yS,df h1,df h2,df h3] at h ⊢;exact .at (.nil _) h (loop (by omega) l.length 0 (by omega))
end RChk
noncomputable def spRChk_0:ZCT:=fun ax=>match ax with
 | [.v (.int .i64 n),.lst (.ints .i64 l)]=>some ⟨decide True,iv (chk n l),[],0⟩
 | _=>none
theorem zjr:ZCtOk Try.prog 45 spRChk_0:=fun γ w us ax r hs hc hax hN hfz=>by
 unfold spRChk_0 at hs;split at hs
 case h_2=>cases hs
 rename_i n l;obtain ⟨rfl⟩:=Option.some.inj hs;have hc_0:decide True=true:=hc;have hc:=of_decide_eq_true hc_0;exact EndZ.calls (RChk.ends n l) (.nil _) (by kernel_rfl) hax hN hfz
noncomputable def spRChk_1:ZCT:=fun ax=>match ax with
 | [.v (.int .i64 n),.v (.slice none 0 0)]=>some ⟨decide True,iv (chk n []),[],0⟩
 | _=>none
theorem zjq:ZCtOk Try.prog 45 spRChk_1:=fun γ w us ax r hs hc hax hN hfz=>by
 unfold spRChk_1 at hs;split at hs
 case h_2=>cases hs
 rename_i n;obtain ⟨rfl⟩:=Option.some.inj hs;have hc_0:decide True=true:=hc;have hc:=of_decide_eq_true hc_0;exact EndZ.calls (zq5 n (RChk.nil_t n)) (.nil _) (by kernel_rfl) hax hN hfz
noncomputable def spRChk:ZCT:=ZCT.or spRChk_0 spRChk_1
theorem zoz:ZCtOk Try.prog 45 spRChk:=zjr.or zjq
namespace PChk
noncomputable def RUN (s:ES):ZF:=RZs 65 .nil [(atS 2 126 2,[[(0,none),(1,none),(7,none),(8,none)],[],[]])] [] false s
noncomputable def sL (n:Int) (l:List Int) (z i:Int):NS:=⟨[⟨126,19,[(0,(il l)),(1,(EV.fn 112 [(EV.ptr 0 0)])),(7,iv z),(8,iv i)],[.it (.code (nav [1,0,1,0,0] (bodyOf Try.f126))),.it (.inLoop (nav [1,0,1,0,0] (bodyOf Try.f126))),.it (.inBlock 0),.it (.code (nav [1,1] (bodyOf Try.f126)))],[],Option.none⟩,⟨111,9,[],[.ops (opsOf (nav [1,0] (bodyOf Try.f111))) ((opsOf (nav [1,0] (bodyOf Try.f111))).toList.drop 2),.it (.code (nav [1,1] (bodyOf Try.f111)))],[],Option.none⟩,⟨65,20,[],[.ops (opsOf (nav [1,0,0,1,1,1,1,0] (bodyOf Try.f65))) ((opsOf (nav [1,0,0,1,1,1,1,0] (bodyOf Try.f65))).toList.drop 2),.it (.code (nav [1,0,0,1,1,1,1,1] (bodyOf Try.f65))),.it (.inBlock 0),.it (.code (nav [1,1] (bodyOf Try.f65)))],[],Option.none⟩],[(0,(EK.cells 3 [(iv n)] true))],1⟩
theorem in_t (n:Int) (l:List Int):RUN (st0 65 [iv n,il l])=(bc (decide (n<1)) (.done (iv (2)) [] 0) (bc (decide (12<n)) (.done (iv (2)) [] 0) (bc (decide (400<Int.ofNat l.length)) (.done (iv (3)) [] 0) (.at (sL n l (Int.ofNat l.length) 0))))):=by kernel_rfl
theorem nil_t (n:Int):RZ 65 .nil (fun _=>false) [] [] false (st0 65 [iv n,.v (.slice none 0 0)])=(bc (decide (n<(1:Int))) (.done (EV.v (Value.int IntKind.i64 (2))) [] 0) (bc (decide ((12:Int)<n)) (.done (EV.v (Value.int IntKind.i64 (2))) [] 0) (.done (EV.v (Value.int IntKind.i64 (0))) [] 0))):=by kernel_rfl
theorem step_t (n:Int) (l:List Int) (z i:Int):RUN (stOf (sL n l z i))=(bc (decide (i<z)) (bc (bc (bc (decide (0≤i)) (Nat.blt i.toNat l.length) false) true false) (bc (bc (Nat.blt i.toNat l.length) true false) (bc (l.getD i.toNat 0==0) (bc (decide (0≤i)) (.done (iv (7)) [] 0) (.done (iv (0)) [] 0)) (bc (decide (l.getD i.toNat 0≤IntKind.i64.wrap ((0:Int)-n))) (bc (decide (0≤i)) (.done (iv (7)) [] 0) (.done (iv (0)) [] 0)) (bc (decide (n≤l.getD i.toNat 0)) (bc (decide (0≤i)) (.done (iv (7)) [] 0) (.done (iv (0)) [] 0)) (.at (sL n l z (IntKind.i64.wrap (i+1))))))) .bad) .bad) (.done (iv (0)) [] 0)):=by kernel_rfl
theorem step {n:Int} {l:List Int} {i:Nat} (hi:i<l.length) (hl:l.length≤400):RUN (stOf (sL n l l.length i))=bc (badL n l[i]) (.done (iv 7) [] 0) (.at (sL n l l.length (i+1:Nat))):=by
 rw [step_t];have e:l.getD i 0=l[i]:=zar hi;simp (disch:=omega) only [yS,e];unfold badL;cases (l[i]==0) <;> cases decide (l[i]≤IntKind.i64.wrap (0-n)) <;> cases decide (n≤l[i]) <;> rfl
theorem last {n:Int} {l:List Int} {i:Nat} (hi:l.length≤i):RUN (stOf (sL n l l.length i)) = .done (iv 0) [] 0:=by
 rw [step_t];simp (disch:=omega) only [yS]
theorem loop {n:Int} {l:List Int} (hl:l.length≤400):∀ (k i:Nat),i+k=l.length→EndZ 65 .nil false (stOf (sL n l l.length i)) (iv (bc ((l.drop i).any (badL n)) 7 0)) [] 0
 | 0,i,h=>by
  rw [List.drop_eq_nil_of_le (by omega)];exact .done (last (by omega))
 | k+1,i,h=>by
  have hi:i<l.length:=by omega
  have hs:=step (n:=n) hi hl;rw [List.drop_eq_getElem_cons hi,List.any_cons];cases hb:badL n l[i] <;> rw [hb] at hs
  ·exact .at (.nil _) hs (loop hl k (i+1) (by omega))
  ·exact .done hs
theorem ends (n:Int) (l:List Int):EndZ 65 .nil false (st0 65 [iv n,il l]) (iv (chk n l)) [] 0:=by
 have h:=in_t n l;unfold chk
 by_cases h1:n<1
 ·simp only [yS,dt h1] at h ⊢;exact .done h
 by_cases h2:12<n
 ·simp only [yS,df h1,dt h2] at h ⊢;exact .done h
 by_cases h3:400<(l.length:Int)
 ·simp only [yS,df h1,df h2,dt h3] at h ⊢;exact .done h
 ·simp only [yS,df h1,df h2,df h3] at h ⊢;exact .at (.nil _) h (loop (by omega) l.length 0 (by omega))
end PChk
noncomputable def spPChk_0:ZCT:=fun ax=>match ax with
 | [.v (.int .i64 n),.lst (.ints .i64 l)]=>some ⟨decide True,iv (chk n l),[],0⟩
 | _=>none
theorem zjv:ZCtOk Try.prog 65 spPChk_0:=fun γ w us ax r hs hc hax hN hfz=>by
 unfold spPChk_0 at hs;split at hs
 case h_2=>cases hs
 rename_i n l;obtain ⟨rfl⟩:=Option.some.inj hs;have hc_0:decide True=true:=hc;have hc:=of_decide_eq_true hc_0;exact EndZ.calls (PChk.ends n l) (.nil _) (by kernel_rfl) hax hN hfz
noncomputable def spPChk_1:ZCT:=fun ax=>match ax with
 | [.v (.int .i64 n),.v (.slice none 0 0)]=>some ⟨decide True,iv (chk n []),[],0⟩
 | _=>none
theorem zju:ZCtOk Try.prog 65 spPChk_1:=fun γ w us ax r hs hc hax hN hfz=>by
 unfold spPChk_1 at hs;split at hs
 case h_2=>cases hs
 rename_i n;obtain ⟨rfl⟩:=Option.some.inj hs;have hc_0:decide True=true:=hc;have hc:=of_decide_eq_true hc_0;exact EndZ.calls (zq5 n (PChk.nil_t n)) (.nil _) (by kernel_rfl) hax hN hfz
noncomputable def spPChk:ZCT:=ZCT.or spPChk_0 spPChk_1
theorem zo1:ZCtOk Try.prog 65 spPChk:=zjv.or zju
namespace PEqP
noncomputable def K0 (L M:List Int) (nn nn2:Bool):List (Nat×EK):=[(0,.seq 95 (.ints .u8 L) nn),(1,.seq 95 (.ints .u8 M) nn2)]
noncomputable def RUN (s:ES):ZF:=RMs 0 67 .nil [(atS 0 67 4,[[(0,none),(1,none),(12,none),(13,none)]])] [] [] s
noncomputable def sL (L M:List Int) (len len2:Nat) (nn nn2:Bool) (z i:Int):NS:=⟨[⟨67,26,[(0,(EV.slO 0 12 len nn)),(1,(EV.slO 1 12 len2 nn2)),(12,iv z),(13,iv i)],[.it (.code (nav [1,1,0,1,0,0] (bodyOf Try.f67))),.it (.inLoop (nav [1,1,0,1,0,0] (bodyOf Try.f67))),.it (.inBlock 0),.it (.code (nav [1,1,1] (bodyOf Try.f67)))],[],Option.none⟩],[(0,(EK.seq 95 (SyC.ints IntKind.u8 L) nn)),(1,(EK.seq 95 (SyC.ints IntKind.u8 M) nn2))],2⟩
theorem in_t (L M:List Int) (len len2:Nat) (nn nn2:Bool):RUN (st0m 67 [.slO 0 12 len nn,.slO 1 12 len2 nn2] (K0 L M nn nn2) 2)=(bc (Int.ofNat len != Int.ofNat len2) (.done (bv false) [] 0) (.at (sL L M len len2 nn nn2 (Int.ofNat len) 0))):=by kernel_rfl
theorem step_t (L M:List Int) (len len2:Nat) (nn nn2:Bool) (z i:Int):RUN (stOf (sL L M len len2 nn nn2 z i))=(bc (decide (i<z)) (bc (bc (bc (bc (bc (decide (0≤i)) (Nat.blt i.toNat len) false) true false) (bc (bc (Nat.ble (Nat.add (Nat.add (Nat.mul i.toNat 12) 0) 12) L.length) true false) (bc (bc (bc (decide (0≤i)) (Nat.blt i.toNat len2) false) true false) (bc (bc (Nat.ble (Nat.add (Nat.add (Nat.mul i.toNat 12) 0) 12) M.length) true false) (bc (bc (bc (Nat.beq (List.take 12 (List.drop (Nat.add (Nat.mul i.toNat 12) 0) L)).length 12) (Nat.beq (List.take 12 (List.drop (Nat.add (Nat.mul i.toNat 12) 0) M)).length 12) false) true false) true false) false) false) false) false) true false) (bc (bnot (eqLI (List.take 12 (List.drop (Nat.add (Nat.mul i.toNat 12) 0) L)) (List.take 12 (List.drop (Nat.add (Nat.mul i.toNat 12) 0) M)))) (.done (bv false) [] 0) (.at (sL L M len len2 nn nn2 z (IntKind.i64.wrap (i+1))))) .bad) (.done (bv true) [] 0)):=by kernel_rfl
theorem zr2 {L M:List Int} {i:Nat} (hL:i*12+12≤L.length) (hM:i*12+12≤M.length) (h:L.take (i*12)=M.take (i*12)) (hw:(L.drop (i*12)).take 12=(M.drop (i*12)).take 12):L.take ((i+1)*12)=M.take ((i+1)*12):=by
 rw [show (i+1)*12=i*12+12 by omega,List.take_add,List.take_add,h,hw]
theorem zws {L M:List Int} (h:L=M) (i:Nat):(L.drop (i*12)).take 12=(M.drop (i*12)).take 12:=by rw [h]
theorem loop {L M:List Int} {len:Nat} {nn nn2:Bool} (hL:len*12=L.length) (hM:len*12=M.length) (hz:len≤5000):∀ (k i:Nat),i+k=len→L.take (i*12)=M.take (i*12)→EndM 0 67 .nil (stOf (sL L M len len nn nn2 len i)) (bv (eqLI L M)) [] 0
 | 0,i,h,he=>by
  obtain rfl:i=len:=by omega
  have h1:=step_t L M i i nn nn2 i i;rw [df (show ¬ (i:Int)<(i:Int) by omega),bc_f] at h1;rw [hL] at he;rw [List.take_length,← hL,hM,List.take_length] at he;rw [zaj.2 he];exact .done h1
 | k+1,i,h,he=>by
  have h1:=step_t L M len len nn nn2 len i;have e0:((i:Int)).toNat=i:=rfl;have e1:Nat.add (Nat.mul i 12) 0=i*12:=rfl;have e2:Nat.add (i*12) 12=i*12+12:=rfl;have l1:((L.drop (i*12)).take 12).length=12:=by rw [List.length_take,List.length_drop];omega
  have l2:((M.drop (i*12)).take 12).length=12:=by rw [List.length_take,List.length_drop];omega
  rw [e0,e1,e2,l1,l2] at h1;simp (disch:=omega) only [yS] at h1
  cases hq:eqLI ((L.drop (i*12)).take 12) ((M.drop (i*12)).take 12) with
  | true=>
   rw [hq] at h1;exact .at (.nil _) h1 (loop hL hM hz k (i+1) (by omega) (zr2 (by omega) (by omega) he (zaj.1 hq)))
  | false=>
   rw [hq] at h1;have hne:eqLI L M=false:=by
    cases hx:eqLI L M with
    | false=>rfl
    | true=>rw [zaj.2 (zws (zaj.1 hx) i)] at hq;cases hq
   rw [hne];exact .done h1
theorem ends {L M:List Int} {len len2:Nat} {nn nn2:Bool} (hL:len*12=L.length) (hM:len2*12=M.length) (hz:len≤5000):EndM 0 67 .nil (st0m 67 [.slO 0 12 len nn,.slO 1 12 len2 nn2] (K0 L M nn nn2) 2) (bv (eqLI L M)) [] 0:=by
 have h:=in_t L M len len2 nn nn2
 by_cases e:len=len2
 ·subst e;have e1:(Int.ofNat len != Int.ofNat len)=false:=by simp
  rw [e1,bc_f] at h;exact .at (.nil _) h (loop hL hM hz len 0 (by omega) (by simp))
 ·have e1:(Int.ofNat len != Int.ofNat len2)=true:=by simp;omega
  rw [e1,bc_t] at h;have hne:eqLI L M=false:=by
   cases hx:eqLI L M with
   | false=>rfl
   | true=>have:=congrArg List.length (zaj.1 hx);omega
  rw [hne];exact .done h
end PEqP
noncomputable def spEqP:ZMT:=fun ax K0 m=>match ax,K0 with
 | [.slO 0 12 len nn,.slO 1 12 len2 nn2],[(0,.seq 95 (.ints .u8 L) v_0),(1,.seq 95 (.ints .u8 M) v_1)]=>bc (Nat.beq m (2)) (some ⟨bc (eqN v_0 (nn)) (bc (eqN v_1 (nn2)) (decide (len*12=L.length∧len2*12=M.length∧len≤5000)) false) false,bv (eqLI L M),[],0,0⟩) none
 | _,_=>none
theorem zsf:ZMtOk Try.prog 67 spEqP:=fun γ w0 w us ax K0 m r hs hc hres hax hH=>by
 unfold spEqP at hs;split at hs
 case h_2=>cases hs
 rename_i len nn len2 nn2 L v_0 M v_1;obtain ⟨hm,rfl⟩:=noN hs;have hm:=Nat.eq_of_beq_eq_true hm;subst hm;have hc_0:bc (eqN v_0 (nn)) (bc (eqN v_1 (nn2)) (decide (len*12=L.length∧len2*12=M.length∧len≤5000)) false) false=true:=hc;obtain ⟨q_0,hc_1⟩:=bcT hc_0;have p_0:=(zdp q_0).symm;subst p_0;obtain ⟨q_1,hc_2⟩:=bcT hc_1;have p_1:=(zdp q_1).symm;subst p_1;have hc:=of_decide_eq_true hc_2;exact EndM.calls (PEqP.ends hc.1 hc.2.1 hc.2.2) (.nil _) (by kernel_rfl) hres hax hH
theorem ze6 {n:Int} {w:List Int} (h:chk n w=0):WOk n w∧w.length≤400:=by
 unfold chk at h
 by_cases h1:n<1
 ·rw [dt h1,bc_t] at h;omega
 by_cases h2:12<n
 ·rw [df h1,dt h2,bc_f,bc_t] at h;omega
 by_cases h3:(400:Int)<Int.ofNat w.length
 ·rw [df h1,df h2,dt h3,bc_f,bc_f,bc_t] at h;omega
 rw [df h1,df h2,df h3,bc_f,bc_f,bc_f] at h;rw [ofn] at h3;refine ⟨⟨by omega,by omega,by omega,fun x hx=>?_⟩,by omega⟩
 cases ha:w.any (badL n) with
 | true=>rw [ha,bc_t] at h;omega
 | false=>
  have h4:badL n x=false:=by
   cases hb:badL n x with
   | false=>rfl
   | true=>rw [List.any_eq_true.2 ⟨x,hx,hb⟩] at ha;cases ha
  unfold badL at h4;rw [zah (0-n) (by omega) (by omega)] at h4;have e:((n.toNat:Nat):Int)=n:=Int.toNat_of_nonneg (by omega);rw [e]
  by_cases q1:x=0
  ·rw [show (x==0)=true by simp [q1],bc_t] at h4;cases h4
  ·rw [show (x==0)=false by simp [q1],bc_f] at h4
   by_cases q2:x≤0-n
   ·rw [dt q2,bc_t] at h4;cases h4
   ·rw [df q2,bc_f] at h4;have q3:=of_decide_eq_false h4;exact ⟨q1,by omega,by omega⟩
noncomputable def sameN (n:Int) (a b:List Int):Bool:=decide (nfW n.toNat a=nfW n.toNat b)
noncomputable def samE (n:Int) (a b:List Int):Int:=bc (chk n a != 0) (chk n a) (chk n b)
noncomputable def samB (n:Int) (a b:List Int):Bool:=bc (samE n a b != 0) false (sameN n a b)
theorem zsk {n:Int} (h2:n≤12) (a b:List Int):sameN n a b=bc ((nfW n.toNat a).pw==(nfW n.toNat b).pw) (eqLI (encF (nfW n.toNat a).F) (encF (nfW n.toNat b).F)) false:=by
 have hn:n.toNat≤12:=by omega
 unfold sameN
 by_cases h1:(nfW n.toNat a).pw=(nfW n.toNat b).pw
 ·rw [show ((nfW n.toNat a).pw==(nfW n.toNat b).pw)=true by simp [h1],bc_t]
  by_cases h2:encF (nfW n.toNat a).F=encF (nfW n.toNat b).F
  ·rw [zaj.2 h2];exact decide_eq_true (Frm.ext h1 (zh9 hn h2))
  ·have:eqLI (encF (nfW n.toNat a).F) (encF (nfW n.toNat b).F)=false:=by
    cases h:eqLI (encF (nfW n.toNat a).F) (encF (nfW n.toNat b).F) with
    | false=>rfl
    | true=>exact absurd (zaj.1 h) h2
   rw [this];exact decide_eq_false fun e=>h2 (by rw [e])
 ·rw [show ((nfW n.toNat a).pw==(nfW n.toNat b).pw)=false by simp [h1],bc_f];exact decide_eq_false fun e=>h1 (by rw [e])
theorem zlz {n:Int} {w:List Int} (h:WOk n w):(nfW n.toNat w).F.length≤5000:=by
 obtain ⟨_,_,h3,_⟩:=h;have:∀ (w:List Int) (s:Frm n.toNat),(w.foldl Frm.step s).F.length≤s.F.length+w.length:=by
  intro w
  induction w with
  | nil=>intro s;exact Nat.le_refl _
  | cons x w ih=>
   intro s;have h1:=ih (s.step x);have h2:=(zr5 s x).1;rw [List.foldl_cons,List.length_cons];omega
 have:=this w ⟨0,[]⟩;have e:nfW n.toNat w=w.foldl Frm.step ⟨0,[]⟩:=rfl;rw [e];simp at this;omega
namespace PSam
noncomputable def ct:Tr ZCC:=((Tr.nil.put 65 (some (dC spPChk))).put 66 (some (mC spNrm))).put 67 (some (mC spEqP))
theorem ct_ok:ZCtsOk Try.prog ct:=(((ZCtsOk.nil _).add rfl zo1).addM rfl zsd).addM rfl zsf
noncomputable def RUN (s:ES):ZF:=RZ 24 ct (fun _=>false) [] [] false s
theorem in_t (n:Int) (a b:List Int):RUN (st0 24 [iv n,il a,il b])=(bc ((List.map (fun r=>U.int (List.headD r (U.i 0))) [[U.i (chk n a)],[U.i (chk n b)]]).getD (0:Int).toNat 0 != 0) (bc ((List.map (fun r=>U.int (List.headD r (U.i 0))) [[U.i (chk n a)],[U.i (chk n b)]]).getD (0:Int).toNat 0 != 0) (.done (EV.tup [(bv false),(iv ((List.map (fun r=>U.int (List.headD r (U.i 0))) [[U.i (chk n a)],[U.i (chk n b)]]).getD (0:Int).toNat 0))]) [] 0) (bc (bc (decide (WOk n a)) true false) (bc (bc (decide (WOk n b)) true false) (bc (Frm.pw (nfW n.toNat a)==Frm.pw (nfW n.toNat b)) (bc (bc (bc (eqB (Frm.pw (nfW n.toNat a)==Frm.pw (nfW n.toNat b)) true) (bc (bc (bc (eqN (Nat.blt 0 a.length) (Nat.blt 0 a.length)) (bc (eqN (Nat.blt 0 b.length) (Nat.blt 0 b.length)) (decide ((Frm.F (nfW n.toNat a)).length*12=(encF (Frm.F (nfW n.toNat a))).length∧(Frm.F (nfW n.toNat b)).length*12=(encF (Frm.F (nfW n.toNat b))).length∧(Frm.F (nfW n.toNat a)).length≤5000)) false) false) true false) true false) false) true false) (.done (EV.tup [(bv (eqLI (encF (Frm.F (nfW n.toNat a))) (encF (Frm.F (nfW n.toNat b))))),(iv (0))]) [] 0) .bad) (bc (bc (bc (eqB (Frm.pw (nfW n.toNat a)==Frm.pw (nfW n.toNat b)) false) true false) true false) (.done (EV.tup [(bv false),(iv (0))]) [] 0) .bad)) .bad) .bad)) (bc ((List.map (fun r=>U.int (List.headD r (U.i 0))) [[U.i (chk n a)],[U.i (chk n b)]]).getD (IntKind.i64.wrap ((0:Int)+1)).toNat 0 != 0) (bc ((List.map (fun r=>U.int (List.headD r (U.i 0))) [[U.i (chk n a)],[U.i (chk n b)]]).getD (IntKind.i64.wrap ((0:Int)+1)).toNat 0 != 0) (.done (EV.tup [(bv false),(iv ((List.map (fun r=>U.int (List.headD r (U.i 0))) [[U.i (chk n a)],[U.i (chk n b)]]).getD (IntKind.i64.wrap ((0:Int)+1)).toNat 0))]) [] 0) (bc (bc (decide (WOk n a)) true false) (bc (bc (decide (WOk n b)) true false) (bc (Frm.pw (nfW n.toNat a)==Frm.pw (nfW n.toNat b)) (bc (bc (bc (eqB (Frm.pw (nfW n.toNat a)==Frm.pw (nfW n.toNat b)) true) (bc (bc (bc (eqN (Nat.blt 0 a.length) (Nat.blt 0 a.length)) (bc (eqN (Nat.blt 0 b.length) (Nat.blt 0 b.length)) (decide ((Frm.F (nfW n.toNat a)).length*12=(encF (Frm.F (nfW n.toNat a))).length∧(Frm.F (nfW n.toNat b)).length*12=(encF (Frm.F (nfW n.toNat b))).length∧(Frm.F (nfW n.toNat a)).length≤5000)) false) false) true false) true false) false) true false) (.done (EV.tup [(bv (eqLI (encF (Frm.F (nfW n.toNat a))) (encF (Frm.F (nfW n.toNat b))))),(iv (0))]) [] 0) .bad) (bc (bc (bc (eqB (Frm.pw (nfW n.toNat a)==Frm.pw (nfW n.toNat b)) false) true false) true false) (.done (EV.tup [(bv false),(iv (0))]) [] 0) .bad)) .bad) .bad)) (bc (bc (decide (WOk n a)) true false) (bc (bc (decide (WOk n b)) true false) (bc (Frm.pw (nfW n.toNat a)==Frm.pw (nfW n.toNat b)) (bc (bc (bc (eqB (Frm.pw (nfW n.toNat a)==Frm.pw (nfW n.toNat b)) true) (bc (bc (bc (eqN (Nat.blt 0 a.length) (Nat.blt 0 a.length)) (bc (eqN (Nat.blt 0 b.length) (Nat.blt 0 b.length)) (decide ((Frm.F (nfW n.toNat a)).length*12=(encF (Frm.F (nfW n.toNat a))).length∧(Frm.F (nfW n.toNat b)).length*12=(encF (Frm.F (nfW n.toNat b))).length∧(Frm.F (nfW n.toNat a)).length≤5000)) false) false) true false) true false) false) true false) (.done (EV.tup [(bv (eqLI (encF (Frm.F (nfW n.toNat a))) (encF (Frm.F (nfW n.toNat b))))),(iv (0))]) [] 0) .bad) (bc (bc (bc (eqB (Frm.pw (nfW n.toNat a)==Frm.pw (nfW n.toNat b)) false) true false) true false) (.done (EV.tup [(bv false),(iv (0))]) [] 0) .bad)) .bad) .bad))):=by kernel_rfl
theorem nil_t (n:Int) (a:List Int):RUN (st0 24 [iv n,il a,.v (.slice none 0 0)])=(bc ((List.map (fun r=>U.int (List.headD r (U.i 0))) [[U.i (chk n a)],[U.i (chk n [])]]).getD (0:Int).toNat 0 != 0) (bc ((List.map (fun r=>U.int (List.headD r (U.i 0))) [[U.i (chk n a)],[U.i (chk n [])]]).getD (0:Int).toNat 0 != 0) (.done (EV.tup [(bv false),(iv ((List.map (fun r=>U.int (List.headD r (U.i 0))) [[U.i (chk n a)],[U.i (chk n [])]]).getD (0:Int).toNat 0))]) [] 0) (bc (bc (decide (WOk n a)) true false) (bc (Frm.pw (nfW n.toNat a)==0) (bc (bc (bc (eqB (Frm.pw (nfW n.toNat a)==0) true) (bc (bc (bc (eqN (Nat.blt 0 a.length) (Nat.blt 0 a.length)) (decide ((Frm.F (nfW n.toNat a)).length*12=(encF (Frm.F (nfW n.toNat a))).length∧0*12=(zerosL 0).length∧(Frm.F (nfW n.toNat a)).length≤5000)) false) true false) true false) false) true false) (.done (EV.tup [(bv (eqLI (encF (Frm.F (nfW n.toNat a))) (zerosL 0))),(iv (0))]) [] 0) .bad) (bc (bc (bc (eqB (Frm.pw (nfW n.toNat a)==0) false) true false) true false) (.done (EV.tup [(bv false),(iv (0))]) [] 0) .bad)) .bad)) (bc ((List.map (fun r=>U.int (List.headD r (U.i 0))) [[U.i (chk n a)],[U.i (chk n [])]]).getD (IntKind.i64.wrap ((0:Int)+1)).toNat 0 != 0) (bc ((List.map (fun r=>U.int (List.headD r (U.i 0))) [[U.i (chk n a)],[U.i (chk n [])]]).getD (IntKind.i64.wrap ((0:Int)+1)).toNat 0 != 0) (.done (EV.tup [(bv false),(iv ((List.map (fun r=>U.int (List.headD r (U.i 0))) [[U.i (chk n a)],[U.i (chk n [])]]).getD (IntKind.i64.wrap ((0:Int)+1)).toNat 0))]) [] 0) (bc (bc (decide (WOk n a)) true false) (bc (Frm.pw (nfW n.toNat a)==0) (bc (bc (bc (eqB (Frm.pw (nfW n.toNat a)==0) true) (bc (bc (bc (eqN (Nat.blt 0 a.length) (Nat.blt 0 a.length)) (decide ((Frm.F (nfW n.toNat a)).length*12=(encF (Frm.F (nfW n.toNat a))).length∧0*12=(zerosL 0).length∧(Frm.F (nfW n.toNat a)).length≤5000)) false) true false) true false) false) true false) (.done (EV.tup [(bv (eqLI (encF (Frm.F (nfW n.toNat a))) (zerosL 0))),(iv (0))]) [] 0) .bad) (bc (bc (bc (eqB (Frm.pw (nfW n.toNat a)==0) false) true false) true false) (.done (EV.tup [(bv false),(iv (0))]) [] 0) .bad)) .bad)) (bc (bc (decide (WOk n a)) true false) (bc (Frm.pw (nfW n.toNat a)==0) (bc (bc (bc (eqB (Frm.pw (nfW n.toNat a)==0) true) (bc (bc (bc (eqN (Nat.blt 0 a.length) (Nat.blt 0 a.length)) (decide ((Frm.F (nfW n.toNat a)).length*12=(encF (Frm.F (nfW n.toNat a))).length∧0*12=(zerosL 0).length∧(Frm.F (nfW n.toNat a)).length≤5000)) false) true false) true false) false) true false) (.done (EV.tup [(bv (eqLI (encF (Frm.F (nfW n.toNat a))) (zerosL 0))),(iv (0))]) [] 0) .bad) (bc (bc (bc (eqB (Frm.pw (nfW n.toNat a)==0) false) true false) true false) (.done (EV.tup [(bv false),(iv (0))]) [] 0) .bad)) .bad))):=by kernel_rfl
theorem fin {n:Int} {a b:List Int} {s:ES} (z1:chk n a=0) (z2:chk n b=0) (h:RUN s=bc ((nfW n.toNat a).pw==(nfW n.toNat b).pw) (.done (.tup [bv (eqLI (encF (nfW n.toNat a).F) (encF (nfW n.toNat b).F)),iv 0]) [] 0) (.done (.tup [bv false,iv 0]) [] 0)):EndZ 24 ct false s (.tup [bv (samB n a b),iv (samE n a b)]) [] 0:=by
 have e1:samE n a b=0:=by unfold samE;rw [z1,z2];rfl
 obtain ⟨⟨_,h2,_⟩,_⟩:=ze6 z1;unfold samB;rw [e1,show ((0:Int) != 0)=false from rfl,bc_f,zsk h2]
 cases hq:((nfW n.toNat a).pw==(nfW n.toNat b).pw) with
 | true=>rw [hq,bc_t] at h;rw [bc_t];exact .done h
 | false=>rw [hq,bc_f] at h;rw [bc_f];exact .done h
theorem bad {n:Int} {a b:List Int} {s:ES} {e:Int} (h0:e≠0) (he:samE n a b=e) (h:RUN s = .done (.tup [bv false,iv e]) [] 0):EndZ 24 ct false s (.tup [bv (samB n a b),iv (samE n a b)]) [] 0:=by
 unfold samB;rw [he,show (e != 0)=true by simp [h0],bc_t];exact .done h
theorem ends (n:Int) (a b:List Int):EndZ 24 ct false (st0 24 [iv n,il a,il b]) (.tup [bv (samB n a b),iv (samE n a b)]) [] 0:=by
 have h:=in_t n a b;have g0:List.getD (List.map (fun r=>U.int (List.headD r (U.i 0))) [[U.i (chk n a)],[U.i (chk n b)]]) (Int.toNat 0) 0=chk n a:=rfl;have g1:List.getD (List.map (fun r=>U.int (List.headD r (U.i 0))) [[U.i (chk n a)],[U.i (chk n b)]]) (Int.toNat (IntKind.wrap IntKind.i64 (0+1))) 0=chk n b:=rfl;rw [g0,g1] at h
 by_cases z1:chk n a=0
 ·rw [z1,show ((0:Int) != 0)=false from rfl,bc_f] at h
  by_cases z2:chk n b=0
  ·rw [z2,show ((0:Int) != 0)=false from rfl,bc_f] at h
   have w1:=(ze6 z1).1;have w2:=(ze6 z2).1;rw [dt w1,dt w2,zae,zae,dt ⟨rfl,rfl,zlz w1⟩] at h;refine fin z1 z2 (h.trans ?_);cases (nfW n.toNat a).pw==(nfW n.toNat b).pw <;> simp only [yS,eqB] <;> rfl
  ·rw [show (chk n b != 0)=true by simp [z2],bc_t,bc_t] at h;exact bad z2 (by unfold samE;rw [z1];rfl) h
 ·rw [show (chk n a != 0)=true by simp [z1],bc_t,bc_t] at h;exact bad z1 (by unfold samE;rw [show (chk n a != 0)=true by simp [z1],bc_t]) h
theorem endsN (n:Int) (a:List Int):EndZ 24 ct false (st0 24 [iv n,il a,.v (.slice none 0 0)]) (.tup [bv (samB n a []),iv (samE n a [])]) [] 0:=by
 have h:=nil_t n a;have g0:List.getD (List.map (fun r=>U.int (List.headD r (U.i 0))) [[U.i (chk n a)],[U.i (chk n [])]]) (Int.toNat 0) 0=chk n a:=rfl;have g1:List.getD (List.map (fun r=>U.int (List.headD r (U.i 0))) [[U.i (chk n a)],[U.i (chk n [])]]) (Int.toNat (IntKind.wrap IntKind.i64 (0+1))) 0=chk n []:=rfl;rw [g0,g1] at h
 by_cases z1:chk n a=0
 ·rw [z1,show ((0:Int) != 0)=false from rfl,bc_f] at h
  by_cases z2:chk n []=0
  ·rw [z2,show ((0:Int) != 0)=false from rfl,bc_f] at h
   have w1:=(ze6 z1).1;rw [dt w1,zae,dt ⟨rfl,rfl,zlz w1⟩] at h;refine fin z1 z2 (h.trans ?_);show bc ((nfW n.toNat a).pw==0) _ _=bc ((nfW n.toNat a).pw==0) _ _;cases (nfW n.toNat a).pw==0 <;> simp only [yS,eqB] <;> rfl
  ·rw [show (chk n [] != 0)=true by simp [z2],bc_t,bc_t] at h;exact bad z2 (by unfold samE;rw [z1];rfl) h
 ·rw [show (chk n a != 0)=true by simp [z1],bc_t,bc_t] at h;exact bad z1 (by unfold samE;rw [show (chk n a != 0)=true by simp [z1],bc_t]) h
end PSam
noncomputable def spPSam_0:ZCT:=fun ax=>match ax with
 | [.v (.int .i64 n),.lst (.ints .i64 a),.lst (.ints .i64 b)]=>some ⟨decide (True),.tup [bv (samB n a b),iv (samE n a b)],[],0⟩
 | _=>none
theorem zjt:ZCtOk Try.prog 24 spPSam_0:=fun γ w us ax r hs hc hax hN hfz=>by
 unfold spPSam_0 at hs;split at hs
 case h_2=>cases hs
 rename_i n a b;obtain ⟨rfl⟩:=Option.some.inj hs;have hc_0:decide (True)=true:=hc;have hc:=of_decide_eq_true hc_0;exact EndZ.calls (PSam.ends n a b) PSam.ct_ok (by kernel_rfl) hax hN hfz
noncomputable def spPSam_1:ZCT:=fun ax=>match ax with
 | [.v (.int .i64 n),.lst (.ints .i64 a),.v (.slice none 0 0)]=>some ⟨decide (True),.tup [bv (samB n a []),iv (samE n a [])],[],0⟩
 | _=>none
theorem zjs:ZCtOk Try.prog 24 spPSam_1:=fun γ w us ax r hs hc hax hN hfz=>by
 unfold spPSam_1 at hs;split at hs
 case h_2=>cases hs
 rename_i n a;obtain ⟨rfl⟩:=Option.some.inj hs;have hc_0:decide (True)=true:=hc;have hc:=of_decide_eq_true hc_0;exact EndZ.calls (PSam.endsN n a) PSam.ct_ok (by kernel_rfl) hax hN hfz
noncomputable def spPSam:ZCT:=ZCT.or spPSam_0 (spPSam_1)
theorem zo0:ZCtOk Try.prog 24 spPSam:=zjt.or (zjs)
end Go.Proofs.Ytfffbioafhppiaa.Ev

namespace Go.Proofs.Ytfffbioafhppiaa.Ev
section
variable {n:Nat}
end
section
variable {n:Nat}
end
section
variable {n:Nat}
end
end Go.Proofs.Ytfffbioafhppiaa.Ev

namespace Go.Proofs.Ytfffbioafhppiaa.Ev
section
variable {n:Nat}
def upd (f:Nat→Nat→Int) (x y:Nat) (v:Int) (a b:Nat):Int:=if a=x∧b=y then v else f a b
end
section
variable {n:Nat}
noncomputable instance pmDec (p q:Pm n):Decidable (p=q):=Classical.propDecidable _
noncomputable def facR (r:List U):List Int:=List.map (fun r=>U.int (List.headD r (U.i 0))) (U.list (List.getD r 0 (U.i 0)))
def Shrt (A:List (List U)):Prop:=A.length≤5000∧∀ r,r∈A→(facR r).length≤100000
noncomputable instance (A:List (List U)):Decidable (Shrt A):=Classical.propDecidable _
end
end Go.Proofs.Ytfffbioafhppiaa.Ev

namespace Go.Proofs.Ytfffbioafhppiaa.Ev
section
variable {n:Nat}
end
end Go.Proofs.Ytfffbioafhppiaa.Ev

namespace Go.Proofs.Ytfffbioafhppiaa.Ev
section
variable {n:Nat}
end
end Go.Proofs.Ytfffbioafhppiaa.Ev

namespace Go.Proofs.Ytfffbioafhppiaa.Ev
section
variable {n:Nat}
end
theorem zqr (x y:Int) (a b:List Int):eqLI (x::a) (y::b)=bc (x != y) false (eqLI a b):=by
 by_cases h:x=y
 ·have e:(x != y)=false:=by simp [h]
  rw [e,bc_f]
  cases hq:eqLI a b with
  | true=>rw [h,zaj.1 hq,zaj.2 rfl]
  | false=>
   cases hx:eqLI (x::a) (y::b) with
   | false=>rfl
   | true=>
    have:=List.cons.inj (zaj.1 hx);rw [zaj.2 this.2] at hq;cases hq
 ·have e:(x != y)=true:=by simp [h]
  rw [e,bc_t]
  cases hx:eqLI (x::a) (y::b) with
  | false=>rfl
  | true=>exact absurd (List.cons.inj (zaj.1 hx)).1 h
theorem ztd {a b:List Int} (h:a.length≠b.length):eqLI a b=false:=by
 cases hx:eqLI a b with
 | false=>rfl
 | true=>exact absurd (congrArg List.length (zaj.1 hx)) h
namespace RSin
noncomputable def RUN (s:ES):ZF:=RZ 68 .nil (atS 0 68 4) [] [[(0,none),(1,none),(5,none)]] false s
noncomputable def sS (a b:List Int) (i:Int):NS:=⟨[⟨68,26,[(0,(il a)),(1,(il b)),(5,iv i)],[.it (.code (nav [1,1,0,1,0,0,0] (bodyOf Try.f68))),.it (.code (nav [1,1,0,1,0,0,1] (bodyOf Try.f68))),.it (.inLoop (nav [1,1,0,1,0,0] (bodyOf Try.f68))),.it (.inBlock 0),.it (.code (nav [1,1,1] (bodyOf Try.f68)))],[],Option.none⟩],[],0⟩
theorem in_t (a b:List Int):RUN (st0 68 [il a,il b])=(bc (Int.ofNat a.length != Int.ofNat b.length) (.done (bv false) [] 0) (.at (sS a b 0))):=by kernel_rfl
theorem step_t (a b:List Int) (i:Int):RUN (stOf (sS a b i))=(bc (decide (i<Int.ofNat a.length)) (bc (bc (bc (bc (bc (decide (0≤i)) (Nat.blt i.toNat a.length) false) true false) (bc (bc (Nat.blt i.toNat a.length) true false) (bc (bc (bc (decide (0≤i)) (Nat.blt i.toNat b.length) false) true false) (bc (bc (Nat.blt i.toNat b.length) true false) true false) false) false) false) true false) (bc (a.getD i.toNat 0 != b.getD i.toNat 0) (.done (bv false) [] 0) (.at (sS a b (IntKind.i64.wrap (i+1))))) .bad) (.done (bv true) [] 0)):=by kernel_rfl
theorem loop {a b:List Int} (hl:a.length=b.length) (hz:a.length≤100000):∀ (k i:Nat),i+k=a.length→EndZ 68 .nil false (stOf (sS a b i)) (bv (eqLI (a.drop i) (b.drop i))) [] 0
 | 0,i,h=>by
  have hs:=step_t a b i;rw [List.drop_eq_nil_of_le (by omega),List.drop_eq_nil_of_le (by omega),zaj.2 rfl];simp (disch:=omega) only [yS] at hs;exact .done hs
 | k+1,i,h=>by
  have hi:i<a.length:=by omega
  have hi2:i<b.length:=by omega
  have hs:=step_t a b i;have e1:a.getD i 0=a[i]:=zar hi;have e2:b.getD i 0=b[i]:=zar hi2;rw [zol,e1,e2] at hs;rw [List.drop_eq_getElem_cons hi,List.drop_eq_getElem_cons hi2,zqr];simp (disch:=omega) only [yS] at hs
  cases hq:a[i] != b[i] with
  | true=>rw [hq] at hs;exact .done hs
  | false=>rw [hq] at hs;exact .at (.nil _) hs (loop hl hz k (i+1) (by omega))
theorem ends {a b:List Int} (hz:a.length≤100000):EndZ 68 .nil false (st0 68 [il a,il b]) (bv (eqLI a b)) [] 0:=by
 have h:=in_t a b
 by_cases hl:a.length=b.length
 ·have e:(Int.ofNat a.length != Int.ofNat b.length)=false:=by simp [hl]
  rw [e,bc_f] at h;exact .at (.nil _) h (loop hl hz a.length 0 (by omega))
 ·have e:(Int.ofNat a.length != Int.ofNat b.length)=true:=by simp;omega
  rw [e,bc_t] at h;rw [ztd hl];exact .done h
end RSin
noncomputable def spRSin:ZCT:=fun ax=>match ax with
 | [.lst (.ints .i64 a),.lst (.ints .i64 b)]=>some ⟨decide (a.length≤100000),bv (eqLI a b),[],0⟩
 | _=>none
theorem zou:ZCtOk Try.prog 68 spRSin:=fun γ w us ax r hs hc hax hN hfz=>by
 unfold spRSin at hs;split at hs
 case h_2=>cases hs
 rename_i a b;obtain ⟨rfl⟩:=Option.some.inj hs;have hc_0:decide (a.length≤100000)=true:=hc;have hc:=of_decide_eq_true hc_0;exact EndZ.calls (RSin.ends hc) (.nil _) (by kernel_rfl) hax hN hfz
noncomputable def sfB:List (List U)→List (List U)→Bool
 | [],[]=>true
 | r::A,q::B=>bc (eqLI (facR r) (facR q)) (sfB A B) false
 | _,_=>false
theorem zo4:∀ {A B:List (List U)},A.length≠B.length→sfB A B=false
 | [],[],h=>absurd rfl h
 | [],q::B,_=>rfl
 | r::A,[],_=>rfl
 | r::A,q::B,h=>by
  have:sfB A B=false:=zo4 fun e=>h (by rw [List.length_cons,List.length_cons,e]);unfold sfB;rw [this];cases eqLI (facR r) (facR q) <;> rfl
namespace RSfo
noncomputable def ct:Tr ZCC:=Tr.nil.put 68 (some (dC spRSin))
theorem ct_ok:ZCtsOk Try.prog ct:=(ZCtsOk.nil _).add rfl zou
noncomputable abbrev ll (A:List (List U)):EV:=.lst (.recs [.list [.int .i64]] A)
noncomputable def RUN (s:ES):ZF:=RZ 25 ct (atS 0 25 4) [] [[(0,none),(1,none),(5,none)]] false s
noncomputable def sS (A B:List (List U)) (i:Int):NS:=⟨[⟨25,27,[(0,(EV.lst (SyC.recs [(Sh.list [(Sh.int IntKind.i64)])] A))),(1,(EV.lst (SyC.recs [(Sh.list [(Sh.int IntKind.i64)])] B))),(5,iv i)],[.it (.code (nav [1,1,0,1,0,0,0] (bodyOf Try.f25))),.it (.code (nav [1,1,0,1,0,0,1] (bodyOf Try.f25))),.it (.inLoop (nav [1,1,0,1,0,0] (bodyOf Try.f25))),.it (.inBlock 0),.it (.code (nav [1,1,1] (bodyOf Try.f25)))],[],Option.none⟩],[],0⟩
theorem in_t (A B:List (List U)):RUN (st0 25 [ll A,ll B])=(bc (Int.ofNat A.length != Int.ofNat B.length) (.done (bv false) [] 0) (.at (sS A B 0))):=by kernel_rfl
theorem step_t (A B:List (List U)) (i:Int):RUN (stOf (sS A B i))=(bc (decide (i<Int.ofNat A.length)) (bc (bc (bc (bc (bc (decide (0≤i)) (Nat.blt i.toNat A.length) false) true false) (bc (bc (Nat.blt i.toNat A.length) true false) (bc (bc (bc (decide (0≤i)) (Nat.blt i.toNat B.length) false) true false) (bc (bc (Nat.blt i.toNat B.length) true false) (bc (bc (decide ((List.map (fun r=>U.int (List.headD r (U.i 0))) (U.list ((A.getD i.toNat []).getD 0 (U.i 0)))).length≤100000)) true false) true false) false) false) false) false) true false) (bc (!eqLI (List.map (fun r=>U.int (List.headD r (U.i 0))) (U.list ((A.getD i.toNat []).getD 0 (U.i 0)))) (List.map (fun r=>U.int (List.headD r (U.i 0))) (U.list ((B.getD i.toNat []).getD 0 (U.i 0))))) (.done (bv false) [] 0) (.at (sS A B (IntKind.i64.wrap (i+1))))) .bad) (.done (bv true) [] 0)):=by kernel_rfl
theorem loop {A B:List (List U)} (hl:A.length=B.length) (hz:Shrt A):∀ (k i:Nat),i+k=A.length→EndZ 25 ct false (stOf (sS A B i)) (bv (sfB (A.drop i) (B.drop i))) [] 0
 | 0,i,h=>by
  have hs:=step_t A B i;have hz1:=hz.1;rw [List.drop_eq_nil_of_le (by omega),List.drop_eq_nil_of_le (by omega)];simp (disch:=omega) only [yS] at hs;exact .done hs
 | k+1,i,h=>by
  have hi:i<A.length:=by omega
  have hi2:i<B.length:=by omega
  have hz1:=hz.1;have hs:=step_t A B i;have e1:A.getD i []=A[i]:=zar hi;have e2:B.getD i []=B[i]:=zar hi2;have f1:∀ r:List U,List.map (fun r=>U.int (List.headD r (U.i 0))) (U.list (List.getD r 0 (U.i 0)))=facR r:=fun _=>rfl;rw [zol,e1,e2,f1,f1,dt (hz.2 _ (List.getElem_mem hi))] at hs;rw [List.drop_eq_getElem_cons hi,List.drop_eq_getElem_cons hi2];unfold sfB
  simp (disch:=omega) only [yS] at hs
  cases hq:eqLI (facR A[i]) (facR B[i]) with
  | false=>rw [hq] at hs;exact .done hs
  | true=>rw [hq] at hs;exact .at ct_ok hs (loop hl hz k (i+1) (by omega))
theorem ends {A B:List (List U)} (hz:Shrt A):EndZ 25 ct false (st0 25 [ll A,ll B]) (bv (sfB A B)) [] 0:=by
 have h:=in_t A B
 by_cases hl:A.length=B.length
 ·have e:(Int.ofNat A.length != Int.ofNat B.length)=false:=by simp [hl]
  rw [e,bc_f] at h;exact .at ct_ok h (loop hl hz A.length 0 (by omega))
 ·have e:(Int.ofNat A.length != Int.ofNat B.length)=true:=by simp;omega
  rw [e,bc_t] at h;rw [zo4 hl];exact .done h
end RSfo
noncomputable def spRSfo:ZCT:=fun ax=>match ax with
 | [.lst (.recs [.list [.int .i64]] A),.lst (.recs [.list [.int .i64]] B)]=>some ⟨decide (Shrt A),bv (sfB A B),[],0⟩
 | _=>none
theorem zov:ZCtOk Try.prog 25 spRSfo:=fun γ w us ax r hs hc hax hN hfz=>by
 unfold spRSfo at hs;split at hs
 case h_2=>cases hs
 rename_i A B;obtain ⟨rfl⟩:=Option.some.inj hs;have hc_0:decide (Shrt A)=true:=hc;have hc:=of_decide_eq_true hc_0;exact EndZ.calls (RSfo.ends hc) RSfo.ct_ok (by kernel_rfl) hax hN hfz
section
variable {n:Nat}
namespace RSiz
noncomputable def RUN (s:ES):ZF:=RZ 61 .nil (fun _=>false) [] [] false s
theorem in_t (x:Int):RUN (st0 61 [iv x])=(.done (iv (if IntKind.i64.wrap ((0:Int)-x) > x then IntKind.i64.wrap ((0:Int)-x) else x)) [] 0):=by kernel_rfl
theorem ends {x:Int} (hx:-1000≤x∧x≤1000):EndZ 61 .nil false (st0 61 [iv x]) (iv (x.natAbs:Nat)) [] 0:=by
 have h:=in_t x;have e:(if IntKind.wrap IntKind.i64 (0-x) > x then IntKind.wrap IntKind.i64 (0-x) else x)=((x.natAbs:Nat):Int):=by
  rw [zah (0-x) (by omega) (by omega)];split <;> omega
 rw [e] at h;exact .done h
end RSiz
noncomputable def spSiz:ZCT:=fun ax=>match ax with
 | [.v (.int .i64 x)]=>some ⟨decide (-1000≤x∧x≤1000),iv (x.natAbs:Nat),[],0⟩
 | _=>none
theorem zsc:ZCtOk Try.prog 61 spSiz:=fun γ w us ax r hs hc hax hN hfz=>by
 unfold spSiz at hs;split at hs
 case h_2=>cases hs
 rename_i x;obtain ⟨rfl⟩:=Option.some.inj hs;have hc_0:decide (-1000≤x∧x≤1000)=true:=hc;have hc:=of_decide_eq_true hc_0;exact EndZ.calls (RSiz.ends hc) (.nil _) (by kernel_rfl) hax hN hfz
end
section
def gR (g:List (List Int)):List (List U):=g.map fun l=>[U.l (l.map fun x=>[U.i x])]
theorem zf4 (g:List (List Int)):(gR g).length=g.length:=List.length_map ..
theorem zxh (g h:List (List Int)):gR (g++h)=gR g++gR h:=List.map_append
theorem zp7 {g:List (List Int)} {k:Nat} (hk:k<g.length):List.map (fun r=>U.int (List.headD r (U.i (0:Int)))) (U.list (List.getD (List.getD (gR g) k []) 0 (U.i 0)))=g.getD k []:=by
 have e:(gR g).getD k []=[U.l ((g.getD k []).map fun x=>[U.i x])]:=by
  unfold gR;rw [List.getD_eq_getElem?_getD,List.getElem?_map,List.getElem?_eq_getElem hk,zar hk];rfl
 rw [e];show List.map _ (List.map _ (g.getD k []))=_;rw [List.map_map];exact List.map_id _
theorem zmd (g:List (List Int)) (k:Nat) (l:List Int):(gR g).set k [U.l (l.map fun x=>[U.i x])]=gR (g.set k l):=by
 unfold gR;rw [List.map_set]
def actS (g:List (List Int)) (x:Int):List (List Int):=if 0<x then (g.set (x.natAbs-1) (redF (g.getD (x.natAbs-1) []++g.getD x.natAbs []++invW (g.getD (x.natAbs-1) [])))).set x.natAbs (g.getD (x.natAbs-1) []) else (g.set (x.natAbs-1) (g.getD x.natAbs [])).set x.natAbs (redF (invW (g.getD x.natAbs [])++g.getD (x.natAbs-1) []++g.getD x.natAbs []))
def sumG (g:List (List Int)):Nat:=(g.map List.length).sum
def actG (m:Nat):List Int→List (List Int)→Option (List (List Int))
 | [],g=>some g
 | x::w,g=>if m<sumG (actS g x) then none else actG m w (actS g x)
def idG (n:Nat):List (List Int):=(List.range n).map fun i=>[((i+1:Nat):Int)]
theorem zh0 (n:Nat):idG (n+1)=idG n++[[((n+1:Nat):Int)]]:=by unfold idG;rw [List.range_succ,List.map_append];rfl
theorem zby (n:Nat):(idG n).length=n:=by unfold idG;rw [List.length_map,List.length_range]
def SmG (g:List (List Int)):Prop:=∀ l,l∈g→∀ x,x∈l → -1000≤x∧x≤1000
theorem zfg {g:List (List Int)} (h:SmG g) (k:Nat):∀ x,x∈g.getD k [] → -1000≤x∧x≤1000:=fun x hx=>by
 by_cases hk:k<g.length
 ·rw [zar hk] at hx;exact h _ (List.getElem_mem hk) x hx
 ·rw [List.getD_eq_getElem?_getD,List.getElem?_eq_none (by omega)] at hx;cases hx
theorem zeh {l:List Int} (h:∀ x,x∈l → -1000≤x∧x≤1000):∀ x,x∈invW l → -1000≤x∧x≤1000:=fun x hx=>by
 obtain ⟨y,hy,rfl⟩:=List.mem_map.1 (List.mem_reverse.1 hx);have:=h y hy;omega
theorem zdm {a b c:List Int} (ha:∀ x,x∈a → -1000≤x∧x≤1000) (hb:∀ x,x∈b → -1000≤x∧x≤1000) (hc:∀ x,x∈c → -1000≤x∧x≤1000):∀ x,x∈a++b++c → -1000≤x∧x≤1000:=fun x hx=>by
 rcases List.mem_append.1 hx with h|h
 ·exact (List.mem_append.1 h).elim (ha x) (hb x)
 ·exact hc x h
theorem zd7 {g:List (List Int)} (h:SmG g) {k:Nat} {l:List Int} (hl:∀ x,x∈l → -1000≤x∧x≤1000):SmG (g.set k l):=fun l' h'=>by
 rcases List.mem_or_eq_of_mem_set h' with h'|rfl
 ·exact h l' h'
 ·exact hl
theorem zra {g:List (List Int)} (h:SmG g) (x:Int):SmG (actS g x):=by
 have ha:=zfg h (x.natAbs-1);have hb:=zfg h x.natAbs;unfold actS;split
 ·exact zd7 (zd7 h fun y hy=>zdm ha hb (zeh ha) y (zfc hy)) ha
 ·exact zd7 (zd7 h hb) fun y hy=>zdm (zeh hb) ha hb y (zfc hy)
theorem zat (g:List (List Int)) (x:Int):(actS g x).length=g.length:=by
 unfold actS;split <;> rw [List.length_set,List.length_set]
theorem zke:∀ {g:List (List Int)} {l:List Int},l∈g→l.length≤sumG g
 | [],_,h=>by cases h
 | a::g,l,h=>by
  show _≤a.length+sumG g;rcases List.mem_cons.1 h with rfl|h
  ·omega
  ·have:=zke h;omega
theorem zej {g:List (List Int)} {m:Nat} (h:∀ l,l∈g→l.length≤m) (k:Nat):(g.getD k []).length≤m:=by
 by_cases hk:k<g.length
 ·rw [zar hk];exact h _ (List.getElem_mem hk)
 ·rw [List.getD_eq_getElem?_getD,List.getElem?_eq_none (by omega)];exact Nat.zero_le _
noncomputable def actV (o:Option (List (List Int))):EV:=.tup [.lst (.recs [.list [.int .i64]] (gR (o.getD []))),bv o.isSome]
def ActOk (n:Int) (w:List Int) (m:Int):Prop:=1≤n∧n≤12∧Vld n.toNat w∧w.length≤2000∧0≤m∧m≤4000
noncomputable instance ActOk.dec (n:Int) (w:List Int) (m:Int):Decidable (ActOk n w m):=Classical.propDecidable _
noncomputable def ctAct:Tr ZCC:=((Tr.nil.put 61 (some (dC spSiz))).put 63 (some (dC spRIvs))).put 62 (some (dC spRPrd))
theorem zb2:ZCtsOk Try.prog ctAct:=(((ZCtsOk.nil _).add rfl zsc).add rfl zoy).add rfl zox
namespace RAct
noncomputable def RUN (s:ES):ZF:=RZs 23 ctAct [(atS 0 23 3,[[(0,none),(1,none),(2,none),(8,some (1,22,.recs [.list [.int .i64]] [])),(9,none)]]),(atS 0 23 7,[[(0,none),(1,none),(2,none),(8,some (1,22,.recs [.list [.int .i64]] [])),(10,none)]]),(atS 0 23 11,[[(0,none),(1,none),(2,none),(8,none),(10,none),(11,none),(12,none),(13,none)]]),(atS 0 23 14,[[(0,none),(1,none),(2,none),(8,none),(10,none)]]),(atS 0 23 16,[[(0,none),(1,none),(2,none),(8,none),(10,none),(14,none),(15,none)]])] [] false s
noncomputable def sA (n:Int) (w:List Int) (m:Int) (g:List (List U)) (y:Nat) (nn:Bool) (i:Int):NS:=⟨[⟨23,94,[(0,(iv n)),(1,(il w)),(2,(iv m)),(8,EV.slO 0 1 y nn),(9,iv i)],[.it (.code (nav [1,1,0,1,0,0,0] (bodyOf Try.f23))),.it (.code (nav [1,1,0,1,0,0,1] (bodyOf Try.f23))),.it (.inLoop (nav [1,1,0,1,0,0] (bodyOf Try.f23))),.it (.inBlock 0),.it (.code (nav [1,1,1] (bodyOf Try.f23)))],[],Option.none⟩],[(0,EK.seq 22 (.recs [.list [.int .i64]] g) nn)],1⟩
noncomputable def sB (n:Int) (w:List Int) (m:Int) (g:List (List U)) (y:Nat) (nn:Bool) (i:Int):NS:=⟨[⟨23,94,[(0,iv n),(1,(il w)),(2,(iv m)),(8,(EV.slO 0 1 y nn)),(10,iv i)],[.it (.code (nav [1,1,1,0,1,0,0,0] (bodyOf Try.f23))),.it (.code (nav [1,1,1,0,1,0,0,1] (bodyOf Try.f23))),.it (.inLoop (nav [1,1,1,0,1,0,0] (bodyOf Try.f23))),.it (.inBlock 2),.it (.code (nav [1,1,1,1] (bodyOf Try.f23)))],[],Option.none⟩],[(0,(EK.seq 22 (SyC.recs [(Sh.list [(Sh.int IntKind.i64)])] g) nn))],1⟩
noncomputable def sK (n:Int) (w:List Int) (m:Int) (g:List (List U)) (y:Nat) (nn:Bool) (i k:Int) (a b:List Int):NS:=⟨[⟨23,94,[(0,iv n),(1,il w),(2,(iv m)),(8,EV.slO 0 1 y nn),(10,iv i),(11,iv k),(12,il a),(13,il b)],[.it (.code (nav [1,1,1,0,1,0,0,1,0,0,1,1,0] (bodyOf Try.f23))),.it (.code (nav [1,1,1,0,1,0,0,1,0,0,1,1,1] (bodyOf Try.f23))),.it (.inBlock 3),.it (.code (nav [1,1,1,0,1,0,0,1,1] (bodyOf Try.f23))),.it (.inLoop (nav [1,1,1,0,1,0,0] (bodyOf Try.f23))),.it (.inBlock 2),.it (.code (nav [1,1,1,1] (bodyOf Try.f23)))],[],Option.none⟩],[(0,EK.seq 22 (.recs [.list [.int .i64]] g) nn)],1⟩
noncomputable def sS (n:Int) (w:List Int) (m:Int) (g:List (List U)) (y:Nat) (nn:Bool) (i:Int):NS:=⟨[⟨23,94,[(0,iv n),(1,il w),(2,(iv m)),(8,EV.slO 0 1 y nn),(10,iv i)],[.it (.code (nav [1,1,1,0,1,0,0,1,0,0,1,1,1] (bodyOf Try.f23))),.it (.inBlock 3),.it (.code (nav [1,1,1,0,1,0,0,1,1] (bodyOf Try.f23))),.it (.inLoop (nav [1,1,1,0,1,0,0] (bodyOf Try.f23))),.it (.inBlock 2),.it (.code (nav [1,1,1,1] (bodyOf Try.f23)))],[],Option.none⟩],[(0,EK.seq 22 (.recs [.list [.int .i64]] g) nn)],1⟩
noncomputable def sJ (n:Int) (w:List Int) (m:Int) (g:List (List U)) (y:Nat) (nn:Bool) (i z j:Int):NS:=⟨[⟨23,94,[(0,(iv n)),(1,(il w)),(2,(iv m)),(8,(EV.slO 0 1 y nn)),(10,(iv i)),(14,iv z),(15,iv j)],[.it (.code (nav [1,1,1,0,1,0,0,1,0,0,1,1,1,1,0,1,0,0,0] (bodyOf Try.f23))),.it (.code (nav [1,1,1,0,1,0,0,1,0,0,1,1,1,1,0,1,0,0,1] (bodyOf Try.f23))),.it (.inLoop (nav [1,1,1,0,1,0,0,1,0,0,1,1,1,1,0,1,0,0] (bodyOf Try.f23))),.it (.inBlock 4),.it (.code (nav [1,1,1,0,1,0,0,1,0,0,1,1,1,1,1] (bodyOf Try.f23))),.it (.inBlock 3),.it (.code (nav [1,1,1,0,1,0,0,1,1] (bodyOf Try.f23))),.it (.inLoop (nav [1,1,1,0,1,0,0] (bodyOf Try.f23))),.it (.inBlock 2),.it (.code (nav [1,1,1,1] (bodyOf Try.f23)))],[],Option.none⟩],[(0,(EK.seq 22 (SyC.recs [(Sh.list [(Sh.int IntKind.i64)])] g) nn))],1⟩
theorem in_t (n:Int) (w:List Int) (m:Int):RUN (st0 23 [iv n,il w,iv m])=(.at (sA n w m [] (0) false 0)):=by kernel_rfl
theorem a_t (n:Int) (w:List Int) (m:Int) (g:List (List U)) (y:Nat) (nn:Bool) (i:Int):RUN (stOf (sA n w m g y nn i))=(bc (decide (i<n)) (bc (bc (Nat.beq y g.length) (bc (Nat.ble (y+[[U.l (List.map (fun x=>[U.i x]) ([IntKind.i64.wrap (i+1)]))]].length) 65536) (bc nn true (bc nn false true)) false) false) (.at (sA n w m (g++[[U.l (List.map (fun x=>[U.i x]) ([IntKind.i64.wrap (i+1)]))]]) (g++[[U.l (List.map (fun x=>[U.i x]) ([IntKind.i64.wrap (i+1)]))]]).length (bc nn true (Nat.blt 0 [[U.l (List.map (fun x=>[U.i x]) ([IntKind.i64.wrap (i+1)]))]].length)) (IntKind.i64.wrap (i+1)))) .bad) (.at (sB n w m g y nn 0))):=by kernel_rfl
theorem b_t (n:Int) (w:List Int) (m:Int) (g:List (List U)) (y:Nat) (nn:Bool) (i:Int):RUN (stOf (sB n w m g y nn i))=(bc (decide (i<Int.ofNat w.length)) (bc (bc (bc (decide (0≤i)) (Nat.blt i.toNat w.length) false) true false) (bc (bc (Nat.blt i.toNat w.length) true false) (bc (bc (decide ((-1000:Int)≤w.getD i.toNat 0∧w.getD i.toNat 0≤1000)) true false) (bc (bc (bc (bc (bc (decide (0≤IntKind.i64.wrap ((Nat.cast (Int.natAbs (w.getD i.toNat 0)):Int)-(1:Int)))) (Nat.blt (IntKind.i64.wrap ((Nat.cast (Int.natAbs (w.getD i.toNat 0)):Int)-(1:Int))).toNat y) false) true false) (bc (bc (Nat.blt (IntKind.i64.wrap ((Nat.cast (Int.natAbs (w.getD i.toNat 0)):Int)-(1:Int))).toNat g.length) true false) (bc (bc (Nat.blt (Nat.cast (Int.natAbs (w.getD i.toNat 0)):Int).toNat y) true false) (bc (bc (Nat.blt (Nat.cast (Int.natAbs (w.getD i.toNat 0)):Int).toNat g.length) true false) true false) false) false) false) true false) (.at (sK n w m g y nn i ((Nat.cast (Int.natAbs (w.getD i.toNat 0)):Int)) (List.map (fun r=>U.int (List.headD r (U.i 0))) (U.list ((g.getD (IntKind.i64.wrap ((Nat.cast (Int.natAbs (w.getD i.toNat 0)):Int)-(1:Int))).toNat []).getD 0 (U.i 0)))) (List.map (fun r=>U.int (List.headD r (U.i 0))) (U.list ((g.getD (Nat.cast (Int.natAbs (w.getD i.toNat 0)):Int).toNat []).getD 0 (U.i 0)))))) .bad) .bad) .bad) .bad) (bc (bc (Nat.beq y g.length) true false) (.done (EV.tup [(EV.lst (SyC.recs [(Sh.list [(Sh.int IntKind.i64)])] g)),(bv true)]) [] 0) .bad)):=by kernel_rfl
theorem k_t (n:Int) (w:List Int) (m:Int) (g:List (List U)) (y:Nat) (nn:Bool) (i k:Int) (a b:List Int):RUN (stOf (sK n w m g y nn i k a b))=(bc (bc (bc (decide (0≤i)) (Nat.blt i.toNat w.length) false) true false) (bc (bc (Nat.blt i.toNat w.length) true false) (bc (decide (0<w.getD i.toNat 0)) (bc (decide (RedOk a)) (bc (decide (RedOk (a++b++invW a))) (bc (bc (bc (decide (0≤IntKind.i64.wrap (k-(1:Int)))) (Nat.blt (IntKind.i64.wrap (k-(1:Int))).toNat y) false) true false) (bc (Nat.blt (IntKind.i64.wrap (k-(1:Int))).toNat g.length) (bc (bc (bc (decide (0≤k)) (Nat.blt k.toNat y) false) true false) (bc (Nat.blt k.toNat (List.set g (IntKind.i64.wrap (k-(1:Int))).toNat [U.l (List.map (fun x=>[U.i x]) (redF (a++b++invW a)))]).length) (.at (sS n w m (List.set (List.set g (IntKind.i64.wrap (k-(1:Int))).toNat [U.l (List.map (fun x=>[U.i x]) (redF (a++b++invW a)))]) k.toNat [U.l (List.map (fun x=>[U.i x]) a)]) y nn i)) .bad) .bad) .bad) .bad) .bad) .bad) (bc (decide (RedOk b)) (bc (decide (RedOk (invW b++a++b))) (bc (bc (bc (decide (0≤IntKind.i64.wrap (k-(1:Int)))) (Nat.blt (IntKind.i64.wrap (k-(1:Int))).toNat y) false) true false) (bc (Nat.blt (IntKind.i64.wrap (k-(1:Int))).toNat g.length) (bc (bc (bc (decide (0≤k)) (Nat.blt k.toNat y) false) true false) (bc (Nat.blt k.toNat (List.set g (IntKind.i64.wrap (k-(1:Int))).toNat [U.l (List.map (fun x=>[U.i x]) b)]).length) (.at (sS n w m (List.set (List.set g (IntKind.i64.wrap (k-(1:Int))).toNat [U.l (List.map (fun x=>[U.i x]) b)]) k.toNat [U.l (List.map (fun x=>[U.i x]) (redF (invW b++a++b)))]) y nn i)) .bad) .bad) .bad) .bad) .bad) .bad)) .bad) .bad):=by kernel_rfl
theorem s_t (n:Int) (w:List Int) (m:Int) (g:List (List U)) (y:Nat) (nn:Bool) (i:Int):RUN (stOf (sS n w m g y nn i))=(.at (sJ n w m g y nn i 0 0)):=by kernel_rfl
theorem j_t (n:Int) (w:List Int) (m:Int) (g:List (List U)) (y:Nat) (nn:Bool) (i z j:Int):RUN (stOf (sJ n w m g y nn i z j))=(bc (decide (j<n)) (bc (bc (bc (decide (0≤j)) (Nat.blt j.toNat y) false) true false) (bc (bc (Nat.blt j.toNat g.length) true false) (.at (sJ n w m g y nn i (IntKind.i64.wrap (z+Int.ofNat (List.map (fun r=>U.int (List.headD r (U.i 0))) (U.list ((g.getD j.toNat []).getD 0 (U.i 0)))).length)) (IntKind.i64.wrap (j+1)))) .bad) .bad) (bc (decide (m<z)) (.done (EV.tup [(EV.v (Value.slice Option.none 0 0)),(bv false)]) [] 0) (.at (sB n w m g y nn (IntKind.i64.wrap (i+1)))))):=by kernel_rfl
variable {n m:Nat} {w:List Int}
theorem loopJ {g:List (List Int)} {nn:Bool} {i:Nat} {R:EV} (hn:n≤12) (hg:g.length=n) (hl:∀ l,l∈g→l.length≤12000)
  (H:EndZ 23 ctAct false (stOf (sJ n w m (gR g) n nn i (sumG g:Nat) n)) R [] 0):∀ (d j:Nat),j+d=n→EndZ 23 ctAct false (stOf (sJ n w m (gR g) n nn i (sumG (g.take j):Nat) j)) R [] 0
 | 0,j,hj=>by
  obtain rfl:j=n:=by omega
  rw [List.take_of_length_le (by omega)];exact H
 | d+1,j,hj=>by
  have q:=j_t n w m (gR g) n nn i (sumG (g.take j):Nat) j;have hjg:j<g.length:=by omega
  have e0:Int.toNat (j:Int)=j:=rfl;have hgl:=zej hl j;have es:sumG (g.take (j+1))=sumG (g.take j)+(g.getD j []).length:=by
   rw [List.take_succ_eq_append_getElem hjg,zar hjg];unfold sumG;rw [List.map_append,List.sum_append];simp
  have hb:∀ (q:List (List Int)),(∀ l,l∈q→l.length≤12000)→sumG q≤12000*q.length:=fun q=>by
   induction q with
   | nil=>intro _;exact Nat.le_refl _
   | cons a q ih=>
    intro h;have h1:=h a List.mem_cons_self;have h2:=ih fun l hl=>h l (List.mem_cons_of_mem _ hl);show a.length+sumG q≤12000*(q.length+1);omega
  have hs:=hb (g.take j) fun l h=>hl l (List.mem_of_mem_take h);rw [List.length_take] at hs;have w1:IntKind.wrap IntKind.i64 (((sumG (g.take j):Nat):Int)+Int.ofNat (g.getD j []).length)=((sumG (g.take (j+1)):Nat):Int):=by
   rw [ofn,zah _ (by omega) (by omega),es];omega
  have w4:IntKind.wrap IntKind.i64 ((j:Int)+1)=((j+1:Nat):Int):=by rw [zah _ (by omega) (by omega)];omega
  rw [e0,zp7 hjg,w1,w4,zf4,hg] at q;simp (disch:=omega) only [yS] at q;exact .at zb2 q (loopJ hn hg hl H d (j+1) (by omega))
theorem stepK {g:List (List Int)} {nn:Bool} {i:Nat} (hn:n≤12) (hw:w.length≤2000) (hg:g.length=n) (hs:SmG g) (hl:∀ l,l∈g→l.length≤4000) (hi:i<w.length) (hx:0<(w.getD i 0).natAbs∧(w.getD i 0).natAbs<n):RUN (stOf (sK n w m (gR g) n nn i ((w.getD i 0).natAbs:Nat) (g.getD ((w.getD i 0).natAbs-1) []) (g.getD (w.getD i 0).natAbs []))) = .at (sS n w m (gR (actS g (w.getD i 0))) n nn i):=by
 have q:=k_t n w m (gR g) n nn i ((w.getD i 0).natAbs:Nat) (g.getD ((w.getD i 0).natAbs-1) []) (g.getD (w.getD i 0).natAbs []);have e0:∀ x:Nat,Int.toNat (x:Int)=x:=fun _=>rfl;have w1:IntKind.wrap IntKind.i64 (((w.getD i 0).natAbs:Nat)-1:Int)=(((w.getD i 0).natAbs-1:Nat):Int):=by rw [zah _ (by omega) (by omega)];omega
 have ha:=zfg hs ((w.getD i 0).natAbs-1);have hb:=zfg hs (w.getD i 0).natAbs;have la:=zej hl ((w.getD i 0).natAbs-1);have lb:=zej hl (w.getD i 0).natAbs
 have eA:actS g (w.getD i 0)=if 0<w.getD i 0 then (g.set ((w.getD i 0).natAbs-1) (redF (g.getD ((w.getD i 0).natAbs-1) []++g.getD (w.getD i 0).natAbs []++invW (g.getD ((w.getD i 0).natAbs-1) [])))).set (w.getD i 0).natAbs (g.getD ((w.getD i 0).natAbs-1) []) else (g.set ((w.getD i 0).natAbs-1) (g.getD (w.getD i 0).natAbs [])).set (w.getD i 0).natAbs (redF (invW (g.getD (w.getD i 0).natAbs [])++g.getD ((w.getD i 0).natAbs-1) []++g.getD (w.getD i 0).natAbs [])):=rfl
 rw [w1,e0,e0,e0,zmd,zmd,zmd,zmd] at q;simp only [zf4,List.length_set,hg] at q;generalize hk:(w.getD i 0).natAbs=k at *;generalize hA:g.getD (k-1) []=a at *;generalize hB:g.getD k []=b at *;have r1:RedOk a:=⟨by omega,ha⟩;have r2:RedOk b:=⟨by omega,hb⟩;have r3:RedOk (a++b++invW a):=⟨by rw [List.length_append,List.length_append,zei];omega,zdm ha hb (zeh ha)⟩;have r4:RedOk (invW b++a++b):=⟨by rw [List.length_append,List.length_append,zei];omega,zdm (zeh hb) ha hb⟩
 rw [dt r1,dt r2,dt r3,dt r4] at q
 by_cases c:0<w.getD i 0
 ·rw [if_pos c] at eA;rw [dt c] at q;simp (disch:=omega) only [yS] at q;rw [eA];exact q
 ·rw [if_neg c] at eA;rw [df c] at q;simp (disch:=omega) only [yS] at q;rw [eA];exact q
theorem ztv {g:List (List Int)} (h:∀ l,l∈g→l.length≤4000) (x:Int):∀ l,l∈actS g x→l.length≤12000:=fun l hl=>by
 have la:=zej h (x.natAbs-1);have lb:=zej h x.natAbs;unfold actS at hl;split at hl
 ·rcases List.mem_or_eq_of_mem_set hl with hl|rfl
  ·rcases List.mem_or_eq_of_mem_set hl with hl|rfl
   ·have:=h l hl;omega
   ·refine Nat.le_trans (zlp _) ?_;rw [List.length_append,List.length_append,zei];omega
  ·omega
 ·rcases List.mem_or_eq_of_mem_set hl with hl|rfl
  ·rcases List.mem_or_eq_of_mem_set hl with hl|rfl
   ·have:=h l hl;omega
   ·omega
  ·refine Nat.le_trans (zlp _) ?_;rw [List.length_append,List.length_append,zei];omega
theorem loopB (hn:n≤12) (hw:w.length≤2000) (hv:Vld n w) (hm:m≤4000):∀ (d i:Nat) (g:List (List Int)) (nn:Bool),i+d=w.length→g.length=n→SmG g→(∀ l,l∈g→l.length≤4000)→EndZ 23 ctAct false (stOf (sB n w m (gR g) n nn i)) (actV (actG m (w.drop i) g)) [] 0
 | 0,i,g,nn,hi,hg,hs,hl=>by
  obtain rfl:i=w.length:=by omega
  have q:=b_t n w m (gR g) n nn w.length;rw [df (show ¬ (w.length:Int)<Int.ofNat w.length by rw [ofn];omega),bc_f,zf4,hg] at q;simp (disch:=omega) only [yS] at q;rw [List.drop_length];exact .done q
 | d+1,i,g,nn,hi,hg,hs,hl=>by
  have hiw:i<w.length:=by omega
  have hx:0<(w.getD i 0).natAbs∧(w.getD i 0).natAbs<n:=(show Vld n [w.getD i 0] from fun x hx=>by
   rw [List.mem_singleton.1 hx,zar hiw];exact hv _ (List.getElem_mem _)).head
  have q:=b_t n w m (gR g) n nn i;have e0:∀ x:Nat,Int.toNat (x:Int)=x:=fun _=>rfl;have w1:IntKind.wrap IntKind.i64 (((w.getD i 0).natAbs:Nat)-1:Int)=(((w.getD i 0).natAbs-1:Nat):Int):=by rw [zah _ (by omega) (by omega)];omega
  rw [e0,w1,e0,e0,zp7 (show (w.getD i 0).natAbs-1<g.length by omega),zp7 (show (w.getD i 0).natAbs<g.length by omega),zf4,hg,dt (show -1000≤w.getD i 0∧w.getD i 0≤1000 by omega)] at q;simp (disch:=omega) only [yS] at q
  refine .at zb2 q (.at zb2 (stepK (m:=m) hn hw hg hs hl hiw hx) (.at zb2 (s_t n w m (gR (actS g (w.getD i 0))) n nn i) ?_));have hg':(actS g (w.getD i 0)).length=n:=by rw [zat];exact hg
  have ed:w.drop i=w.getD i 0::w.drop (i+1):=by rw [zar hiw];exact List.drop_eq_getElem_cons hiw
  have eV:actG m (w.drop i) g=if m<sumG (actS g (w.getD i 0)) then none else actG m (w.drop (i+1)) (actS g (w.getD i 0)):=by rw [ed];rfl
  refine loopJ (i:=i) (nn:=nn) hn hg' (ztv hl _) ?_ n 0 (by omega);have j:=j_t n w m (gR (actS g (w.getD i 0))) n nn i (sumG (actS g (w.getD i 0)):Nat) n;have w4:IntKind.wrap IntKind.i64 ((i:Int)+1)=((i+1:Nat):Int):=by rw [zah _ (by omega) (by omega)];omega
  rw [df (show ¬ (n:Int)<(n:Int) by omega),bc_f,w4] at j
  by_cases c:m<sumG (actS g (w.getD i 0))
  ·rw [dt (show (m:Int)<((sumG (actS g (w.getD i 0)):Nat):Int) by omega),bc_t] at j;rw [eV,if_pos c];exact (EndZ.done j).weak (.tup (.cons (Weak.nil _) (.cons (.refl _) .nil)))
  ·rw [df (show ¬ (m:Int)<((sumG (actS g (w.getD i 0)):Nat):Int) by omega),bc_f] at j;rw [eV,if_neg c];exact .at zb2 j (loopB hn hw hv hm d (i+1) _ nn (by omega) hg' (zra hs _) fun l h=>by have:=zke h;omega)
theorem idG_small {n:Nat} (hn:n≤12):SmG (idG n)∧∀ l,l∈idG n→l.length≤4000:=by
 constructor
 ·intro l hl x hx;obtain ⟨i,hi,rfl⟩:=List.mem_map.1 hl;have:=List.mem_range.1 hi;obtain rfl:=List.mem_singleton.1 hx;omega
 ·intro l hl;obtain ⟨i,hi,rfl⟩:=List.mem_map.1 hl;exact (by decide:1≤4000)
theorem loopA (hn:n≤12) (hw:w.length≤2000) (hv:Vld n w) (hm:m≤4000):∀ (d i:Nat) (nn:Bool),i+d=n→EndZ 23 ctAct false (stOf (sA n w m (gR (idG i)) i nn i)) (actV (actG m w (idG n))) [] 0
 | 0,i,nn,hi=>by
  obtain rfl:i=n:=by omega
  have q:=a_t i w m (gR (idG i)) i nn i;rw [df (show ¬ (i:Int)<(i:Int) by omega),bc_f] at q;obtain ⟨h1,h2⟩:=idG_small hn;exact .at zb2 q (loopB hn hw hv hm w.length 0 (idG i) nn (by omega) (zby i) h1 h2)
 | d+1,i,nn,hi=>by
  have q:=a_t i w m (gR (idG i)) i nn i;have q:=a_t n w m (gR (idG i)) i nn i;have w4:IntKind.wrap IntKind.i64 ((i:Int)+1)=((i+1:Nat):Int):=by rw [zah _ (by omega) (by omega)];omega
  have e:gR (idG i)++[[U.l (List.map (fun x=>[U.i x]) ([((i+1:Nat):Int)]))]]=gR (idG (i+1)):=by rw [zh0,zxh];rfl
  have w1:bc nn true (Nat.blt 0 (List.length [[U.l (List.map (fun x=>[U.i x]) ([((i+1:Nat):Int)]))]]))=true:=by cases nn <;> rfl
  have w2:bc nn true (bc nn false true)=true:=by cases nn <;> rfl
  have l1:List.length [[U.l (List.map (fun x=>[U.i x]) ([((i+1:Nat):Int)]))]]=1:=rfl;rw [w4,e,w1,w2,l1,zf4,zf4,zby,zby,dt (show (i:Int)<(n:Int) by omega),bc_t] at q
  simp (disch:=omega) only [yS] at q;exact .at zb2 q (loopA hn hw hv hm d (i+1) true (by omega))
theorem ends {n:Int} {w:List Int} {m:Int} (h:ActOk n w m):EndZ 23 ctAct false (st0 23 [iv n,il w,iv m]) (actV (actG m.toNat w (idG n.toNat))) [] 0:=by
 obtain ⟨h1,h2,h3,h4,h5,h6⟩:=h;obtain ⟨n,rfl⟩:=Int.eq_ofNat_of_zero_le (show 0≤n by omega);obtain ⟨m,rfl⟩:=Int.eq_ofNat_of_zero_le h5;exact .at zb2 (in_t n w m) (loopA (by omega) h4 h3 (by omega) n 0 false (by omega))
end RAct
noncomputable def spAct:ZCT:=fun ax=>match ax with
 | [.v (.int .i64 n),.lst (.ints .i64 w),.v (.int .i64 m)]=>some ⟨decide (ActOk n w m),actV (actG m.toNat w (idG n.toNat)),[],0⟩
 | _=>none
theorem zsh:ZCtOk Try.prog 23 spAct:=fun γ w us ax r hs hc hax hN hfz=>by
 unfold spAct at hs;split at hs
 case h_2=>cases hs
 rename_i n w m;obtain ⟨rfl⟩:=Option.some.inj hs;have hc_0:decide (ActOk n w m)=true:=hc;have hc:=of_decide_eq_true hc_0;exact EndZ.calls (RAct.ends hc) zb2 (by kernel_rfl) hax hN hfz
end
def RS:List Int→Prop
 | []=>True
 | [_]=>True
 | x::y::s=>y ≠ -x∧RS (y::s)
theorem RS.tl {x:Int} {s:List Int} (h:RS (x::s)):RS s:=by
 cases s with
 | nil=>trivial
 | cons y s=>exact h.2
theorem rs_fg {s:List Int} (h:RS s) (x:Int):RS (fgR s x):=by
 cases s with
 | nil=>trivial
 | cons y s=>
  show RS (if y = -x then s else x::y::s)
  split
  ·exact h.tl
  ·exact ⟨by assumption,h⟩
theorem zj1:∀ (w:List Int) {s:List Int},RS s→RS (w.foldl fgR s)
 | [],_,h=>h
 | x::w,_,h=>zj1 w (rs_fg h x)
theorem zvy {s:List Int} (h:RS s) (x:Int):fgR (fgR s x) (-x)=s:=by
 cases s with
 | nil=>
  show (if x = - -x then [] else [-x,x])=[]
  rw [if_pos (by omega)]
 | cons y s=>
  show fgR (if y = -x then s else x::y::s) (-x)=y::s
  by_cases c:y = -x
  ·rw [if_pos c]
   cases s with
   | nil=>subst c;rfl
   | cons z s=>
    have h1:z ≠ -y:=h.1;show (if z = - -x then s else -x::z::s)=y::z::s
    rw [if_neg (by omega),c]
  ·rw [if_neg c];show (if x = - -x then y::s else -x::x::y::s)=y::s
   rw [if_pos (by omega)]
def Fe (u v:List Int):Prop:=∀ s,RS s→u.foldl fgR s=v.foldl fgR s
theorem Fe.refl (u:List Int):Fe u u:=fun _ _=>rfl
theorem Fe.symm {u v:List Int} (h:Fe u v):Fe v u:=fun s k=>(h s k).symm
theorem Fe.trans {u v w:List Int} (h:Fe u v) (k:Fe v w):Fe u w:=fun s q=>(h s q).trans (k s q)
theorem Fe.app {u v x y:List Int} (h:Fe u v) (k:Fe x y):Fe (u++x) (v++y):=fun s q=>by
 rw [List.foldl_append,List.foldl_append,h s q,k _ (zj1 v q)]
theorem zqd (x:Int):Fe [x,-x] []:=fun _ q=>zvy q x
theorem zmj {x y:Int} (h:x = -y):Fe [x,y] []:=by
 have:=zqd x
 rwa [show -x=y by omega] at this
theorem zmi:∀ (w:List Int) (s:List Int),Fe (w.foldl fgR s).reverse (s.reverse++w)
 | [],s=>by rw [List.append_nil];exact .refl _
 | x::w,s=>by
  refine (zmi w (fgR s x)).trans ?_;rw [show x::w=[x]++w from rfl,← List.append_assoc]
  refine Fe.app ?_ (.refl w)
  cases s with
  | nil=>exact .refl _
  | cons y s=>
   show Fe (if y = -x then s else x::y::s).reverse _
   split
   ·rw [List.reverse_cons,List.append_assoc];have:=(Fe.refl s.reverse).app (zmj (x:=y) (y:=x) (by assumption)).symm
    rwa [List.append_nil] at this
   ·rw [List.reverse_cons];exact .refl _
theorem zc0 (w:List Int):Fe (redF w) w:=zmi w []
theorem zdo {u v:List Int} (h:Fe u v):redF u=redF v:=by
 unfold redF;rw [h [] trivial]
theorem ziv (w:List Int):redF (redF w)=redF w:=zdo (zc0 w)
theorem zcx:∀ a:List Int,Fe (a++invW a) []
 | []=>.refl _
 | x::a=>by
  have e:(x::a)++invW (x::a)=[x]++((a++invW a)++[-x]):=by
   unfold invW;rw [List.map_cons,List.reverse_cons,List.cons_append,List.append_assoc];rfl
  rw [e];exact ((Fe.refl [x]).app ((zcx a).app (.refl [-x]))).trans (zqd x)
theorem zh5 (a:List Int):Fe (invW a++a) []:=by
 have:=zcx (invW a)
 rwa [zcf] at this
theorem fe_c1 (a v:List Int):Fe (a++(invW a++v)) v:=by
 rw [← List.append_assoc];exact (zcx a).app (.refl v)
theorem fe_c2 (a v:List Int):Fe (invW a++(a++v)) v:=by
 rw [← List.append_assoc];exact (zh5 a).app (.refl v)
theorem Fe.inv {u v:List Int} (h:Fe u v):Fe (invW u) (invW v):=by
 have h1:Fe (invW u++(v++invW v)) (invW u):=by
  have:=(Fe.refl (invW u)).app (zcx v)
  rwa [List.append_nil] at this
 have h2:Fe (invW u++(v++invW v)) (invW v):=((Fe.refl (invW u)).app (h.symm.app (.refl (invW v)))).trans (fe_c2 u _);exact h1.symm.trans h2
theorem zbn (a b:List Int):invW (a++b)=invW b++invW a:=by
 unfold invW;rw [List.map_append,List.reverse_append]
def RdG (g:List (List Int)):Prop:=∀ l,l∈g→redF l=l
theorem RdG.get {g:List (List Int)} (h:RdG g) (k:Nat):redF (g.getD k [])=g.getD k []:=by
 by_cases hk:k<g.length
 ·rw [zar hk];exact h _ (List.getElem_mem hk)
 ·rw [List.getD_eq_getElem?_getD,List.getElem?_eq_none (by omega)];rfl
theorem RdG.set {g:List (List Int)} (h:RdG g) {k:Nat} {l:List Int} (hl:redF l=l):RdG (g.set k l):=fun l' h'=>by
 rcases List.mem_or_eq_of_mem_set h' with h'|rfl
 ·exact h l' h'
 ·exact hl
theorem RdG.act {g:List (List Int)} (h:RdG g) (x:Int):RdG (actS g x):=by
 unfold actS;split
 ·exact (h.set (ziv _)).set (h.get _)
 ·exact (h.set (h.get _)).set (ziv _)
def actF (w:List Int) (g:List (List Int)):List (List Int):=w.foldl actS g
theorem zas (u v:List Int) (g:List (List Int)):actF (u++v) g=actF v (actF u g):=List.foldl_append
theorem zd0:∀ (w:List Int) {g:List (List Int)},RdG g→RdG (actF w g)
 | [],_,h=>h
 | x::w,_,h=>zd0 w (h.act x)
theorem zbg:∀ (w:List Int) (g:List (List Int)),(actF w g).length=g.length
 | [],_=>rfl
 | x::w,g=>by
  show (actF w (actS g x)).length=_;rw [zbg w,zat]
theorem zcl {m:Nat}:∀ {w:List Int} {g h:List (List Int)},actG m w g=some h→h=actF w g
 | [],g,h,e=>by injection e with e;exact e.symm
 | x::w,g,h,e=>by
  unfold actG at e;split at e
  ·cases e
  ·exact zcl (w:=w) (g:=actS g x) e
theorem gsetG {l:List (List Int)} {i j:Nat} {v:List Int}:(l.set i v).getD j []=if j=i∧i<l.length then v else l.getD j []:=by
 rw [List.getD_eq_getElem?_getD,List.getD_eq_getElem?_getD,List.getElem?_set]
 by_cases h:i=j
 ·subst h
  by_cases h2:i<l.length
  ·simp [h2]
  ·simp [h2]
 ·rw [if_neg h,if_neg (fun e=>h e.1.symm)]
theorem zfk {g h:List (List Int)} (hl:g.length=h.length) (e:∀ k,k<g.length→g.getD k []=h.getD k []):g=h:=by
 apply List.ext_getElem hl;intro k h1 h2;have:=e k h1
 rwa [zar h1,zar h2] at this
def aL (x:Int) (a b:List Int):List Int:=if 0<x then redF (a++b++invW a) else b
def aR (x:Int) (a b:List Int):List Int:=if 0<x then a else redF (invW b++a++b)
theorem zcz {g:List (List Int)} {x:Int} (hx:0<x.natAbs∧x.natAbs<g.length) (k:Nat):(actS g x).getD k []=if k+1=x.natAbs then aL x (g.getD (x.natAbs-1) []) (g.getD x.natAbs []) else if k=x.natAbs then aR x (g.getD (x.natAbs-1) []) (g.getD x.natAbs []) else g.getD k []:=by
 unfold actS aL aR
 by_cases c:0<x
 ·rw [if_pos c,if_pos c,if_pos c,gsetG,gsetG,List.length_set]
  by_cases k1:k=x.natAbs
  ·rw [if_pos ⟨k1,hx.2⟩,if_neg (by omega),if_pos k1]
  ·rw [if_neg (fun e=>k1 e.1),if_neg k1]
   by_cases k2:k+1=x.natAbs
   ·rw [if_pos ⟨by omega,by omega⟩,if_pos k2]
   ·rw [if_neg (fun e=>k2 (by omega)),if_neg k2]
 ·rw [if_neg c,if_neg c,if_neg c,gsetG,gsetG,List.length_set]
  by_cases k1:k=x.natAbs
  ·rw [if_pos ⟨k1,hx.2⟩,if_neg (by omega),if_pos k1]
  ·rw [if_neg (fun e=>k1 e.1),if_neg k1]
   by_cases k2:k+1=x.natAbs
   ·rw [if_pos ⟨by omega,by omega⟩,if_pos k2]
   ·rw [if_neg (fun e=>k2 (by omega)),if_neg k2]
theorem act_L {g:List (List Int)} {x:Int} (hx:0<x.natAbs∧x.natAbs<g.length):(actS g x).getD (x.natAbs-1) []=aL x (g.getD (x.natAbs-1) []) (g.getD x.natAbs []):=by
 rw [zcz hx,if_pos (by omega)]
theorem act_R {g:List (List Int)} {x:Int} (hx:0<x.natAbs∧x.natAbs<g.length):(actS g x).getD x.natAbs []=aR x (g.getD (x.natAbs-1) []) (g.getD x.natAbs []):=by
 rw [zcz hx,if_neg (by omega),if_pos rfl]
theorem act_O {g:List (List Int)} {x:Int} (hx:0<x.natAbs∧x.natAbs<g.length) {k:Nat} (h1:k+1≠x.natAbs) (h2:k≠x.natAbs):(actS g x).getD k []=g.getD k []:=by
 rw [zcz hx,if_neg h1,if_neg h2]
theorem zs2 (a b:List Int):Fe (invW a++redF (a++b++invW a)++a) b:=by
 have h1:Fe (invW a++redF (a++b++invW a)++a) (invW a++(a++b++invW a)++a):=((Fe.refl _).app (zc0 _)).app (.refl _);refine h1.trans ?_;rw [List.append_assoc,List.append_assoc,List.append_assoc];refine (fe_c2 a _).trans ?_;have:=(Fe.refl b).app (zh5 a)
 rwa [List.append_nil] at this
theorem zs1 (a b:List Int):Fe (b++redF (invW b++a++b)++invW b) a:=by
 have h1:Fe (b++redF (invW b++a++b)++invW b) (b++(invW b++a++b)++invW b):=((Fe.refl _).app (zc0 _)).app (.refl _);refine h1.trans ?_;rw [List.append_assoc,List.append_assoc,List.append_assoc];refine (fe_c1 b _).trans ?_;have:=(Fe.refl a).app (zcx b)
 rwa [List.append_nil] at this
theorem aLR {x:Int} (hx:x≠0) {a b:List Int} (ha:redF a=a) (hb:redF b=b):aL (-x) (aL x a b) (aR x a b)=a∧aR (-x) (aL x a b) (aR x a b)=b:=by
 unfold aL aR
 by_cases c:0<x
 ·rw [if_pos c,if_pos c,if_neg (by omega),if_neg (by omega)];exact ⟨rfl,(zdo (zs2 a b)).trans hb⟩
 ·rw [if_neg c,if_neg c,if_pos (by omega),if_pos (by omega)];exact ⟨(zdo (zs1 a b)).trans ha,rfl⟩
theorem ztu {g:List (List Int)} (hr:RdG g) {x:Int} (hx:0<x.natAbs∧x.natAbs<g.length):actS (actS g x) (-x)=g:=by
 have hn:(-x).natAbs=x.natAbs:=Int.natAbs_neg x;obtain ⟨h1,h2⟩:=aLR (x:=x) (by omega) (hr.get (x.natAbs-1)) (hr.get x.natAbs);refine zfk (by rw [zat,zat]) fun k _=>?_;rw [zcz (by rw [hn,zat];exact hx),hn,act_L hx,act_R hx,h1,h2]
 by_cases k1:k+1=x.natAbs
 ·rw [if_pos k1,← k1,Nat.add_sub_cancel]
 ·rw [if_neg k1]
  by_cases k2:k=x.natAbs
  ·rw [if_pos k2,k2]
  ·rw [if_neg k2,act_O hx k1 k2]
theorem zwm {g:List (List Int)} {x y:Int} (hx:0<x.natAbs) (hxy:x.natAbs+2≤y.natAbs) (hy:y.natAbs<g.length):actS (actS g x) y=actS (actS g y) x:=by
 have hx':0<x.natAbs∧x.natAbs<g.length:=⟨hx,by omega⟩;have hy':0<y.natAbs∧y.natAbs<g.length:=⟨by omega,hy⟩;refine zfk (by rw [zat,zat,zat,zat]) fun k _=>?_;rw [zcz (g:=actS g x) (by rw [zat];exact hy'),zcz (g:=actS g y) (by rw [zat];exact hx')];rw [act_O (g:=g) (x:=x) hx' (k:=y.natAbs-1) (by omega) (by omega),act_O (g:=g) (x:=x) hx' (k:=y.natAbs) (by omega) (by omega)]
 rw [act_O (g:=g) (x:=y) hy' (k:=x.natAbs-1) (by omega) (by omega),act_O (g:=g) (x:=y) hy' (k:=x.natAbs) (by omega) (by omega)]
 by_cases k1:k+1=y.natAbs
 ·rw [if_pos k1,if_neg (by omega),if_neg (by omega),zcz hy',if_pos k1]
 rw [if_neg k1]
 by_cases k2:k=y.natAbs
 ·rw [if_pos k2,if_neg (by omega),if_neg (by omega),zcz hy',if_neg k1,if_pos k2]
 rw [if_neg k2,zcz hx']
 by_cases k3:k+1=x.natAbs
 ·rw [if_pos k3,if_pos k3]
 rw [if_neg k3,if_neg k3]
 by_cases k4:k=x.natAbs
 ·rw [if_pos k4,if_pos k4]
 rw [if_neg k4,if_neg k4,act_O hy' k1 k2]
theorem nat_L {g:List (List Int)} {i:Nat} (h:0<i∧i<g.length):(actS g (i:Int)).getD (i-1) []=redF (g.getD (i-1) []++g.getD i []++invW (g.getD (i-1) []))∧(actS g (i:Int)).getD i []=g.getD (i-1) []∧∀ k,k+1≠i→k≠i→(actS g (i:Int)).getD k []=g.getD k []:=by
 have e:((i:Nat):Int).natAbs=i:=Int.natAbs_natCast i;have hx:0<(i:Int).natAbs∧(i:Int).natAbs<g.length:=by rw [e];exact h
 have h1:=act_L hx;have h2:=act_R hx;have h3:=fun k=>act_O (k:=k) hx;rw [e] at h1 h2 h3;unfold aL at h1;unfold aR at h2;rw [if_pos (by omega)] at h1 h2;exact ⟨h1,h2,h3⟩
theorem zrb {g:List (List Int)} {i:Nat} (hi:0<i) (hj:i+1<g.length):actS (actS (actS g (i:Int)) ((i+1:Nat):Int)) (i:Int)=actS (actS (actS g ((i+1:Nat):Int)) (i:Int)) ((i+1:Nat):Int):=by
 have l1:0<i∧i<g.length:=⟨hi,by omega⟩;have l2:0<i+1∧i+1<g.length:=⟨by omega,hj⟩;obtain ⟨a1,a2,a3⟩:=nat_L (g:=g) (i:=i) l1;obtain ⟨b1,b2,b3⟩:=nat_L (g:=actS g (i:Int)) (i:=i+1) (by rw [zat];exact l2);obtain ⟨c1,c2,c3⟩:=nat_L (g:=actS (actS g (i:Int)) ((i+1:Nat):Int)) (i:=i) (by rw [zat,zat];exact l1);obtain ⟨d1,d2,d3⟩:=nat_L (g:=g) (i:=i+1) l2;obtain ⟨e1,e2,e3⟩:=nat_L (g:=actS g ((i+1:Nat):Int)) (i:=i) (by rw [zat];exact l1)
 obtain ⟨f1,f2,f3⟩:=nat_L (g:=actS (actS g ((i+1:Nat):Int)) (i:Int)) (i:=i+1) (by rw [zat,zat];exact l2);rw [Nat.add_sub_cancel] at b1 b2 d1 d2 f1 f2;refine zfk (by simp only [zat]) fun k _=>?_
 by_cases k1:k+1=i
 ·obtain rfl:k=i-1:=by omega
  rw [c1,f3 _ (by omega) (by omega),e1,b1,b3 _ (by omega) (by omega),a1,a2,a3 (i+1) (by omega) (by omega),d3 (i-1) (by omega) (by omega),d1];generalize g.getD (i-1) []=a;generalize g.getD i []=b;generalize g.getD (i+1) []=c;apply zdo;have q1:Fe (redF (a++b++invW a)++redF (a++c++invW a)++invW (redF (a++b++invW a))) ((a++b++invW a)++(a++c++invW a)++invW (a++b++invW a)):=((zc0 _).app (zc0 _)).app (zc0 _).inv
  have q2:Fe (a++redF (b++c++invW b)++invW a) (a++(b++c++invW b)++invW a):=((Fe.refl a).app (zc0 _)).app (.refl _);refine q1.trans (Fe.trans ?_ q2.symm);rw [zbn,zbn,zcf];simp only [List.append_assoc];refine (Fe.refl a).app ((Fe.refl b).app ((fe_c2 a _).trans ((Fe.refl c).app ?_)));exact fe_c2 a _
 by_cases k2:k=i
 ·subst k2;rw [c2,f1,b3 _ (by omega) (by omega),a1,e2,e3 (k+1) (by omega) (by omega),d2,d3 (k-1) (by omega) (by omega)]
 by_cases k3:k=i+1
 ·subst k3;rw [c3 _ (by omega) (by omega),b2,a2,f2,e2,d3 (i-1) (by omega) (by omega)]
 rw [c3 k k1 k2,b3 k (by omega) k3,a3 k k1 k2,f3 k (by omega) k3,e3 k k1 k2,d3 k (by omega) k3]
theorem zmz {n:Nat} {u v:List Int} (h:Cn n u v):∀ {g:List (List Int)},g.length=n→RdG g→actF u g=actF v g:=by
 induction h with
 | refl u=>intro g _ _;rfl
 | symm _ ih=>intro g h1 h2;exact (ih h1 h2).symm
 | trans _ _ ih1 ih2=>intro g h1 h2;exact (ih1 h1 h2).trans (ih2 h1 h2)
 | undo a b i h=>
  intro g h1 h2;rw [zas,zas,zas];congr 1;exact ztu (zd0 a h2) (by rw [zbg,h1];exact h)
 | far a b i j hi hij hj=>
  intro g h1 h2;rw [zas,zas,zas,zas];congr 1;exact zwm (by omega) (by omega) (by rw [zbg,h1];omega)
 | braid a b i hi hj=>
  intro g h1 h2;rw [zas,zas,zas,zas];congr 1;exact zrb hi (by rw [zbg,h1];exact hj)
theorem zmc (n:Nat):RdG (idG n):=fun l hl=>by
 obtain ⟨i,_,rfl⟩:=List.mem_map.1 hl;rfl
theorem zwo {n m:Nat} {u v:List Int} (h:Cn n u v) {g k:List (List Int)} (hu:actG m u (idG n)=some g) (hv:actG m v (idG n)=some k):g=k:=by
 rw [zcl hu,zcl hv];exact zmz h (zby n) (zmc n)
def homW (f:Int→List Int) (w:List Int):List Int:=w.flatMap f
theorem zct (f:Int→List Int) (u v:List Int):homW f (u++v)=homW f u++homW f v:=List.flatMap_append
theorem zi6 {f:Int→List Int} (hf:∀ x,f (-x)=invW (f x)):∀ (w s:List Int),Fe (homW f (w.foldl fgR s).reverse) (homW f (s.reverse++w))
 | [],s=>by rw [List.append_nil];exact .refl _
 | x::w,s=>by
  refine (zi6 hf w (fgR s x)).trans ?_;rw [show x::w=[x]++w from rfl,← List.append_assoc,zct,zct (u:=s.reverse++[x])]
  refine Fe.app ?_ (.refl _)
  cases s with
  | nil=>exact .refl _
  | cons y s=>
   show Fe (homW f (if y = -x then s else x::y::s).reverse) _
   split
   ·rename_i e;subst e;rw [List.reverse_cons,List.append_assoc,zct];have h1:homW f ([-x]++[x])=invW (f x)++f x:=by
     show f (-x)++(f x++[])=_;rw [hf,List.append_nil]
    rw [h1];have:=(Fe.refl (homW f s.reverse)).app (zh5 (f x)).symm
    rwa [List.append_nil] at this
   ·rw [List.reverse_cons];exact .refl _
theorem zp6 {f:Int→List Int} (hf:∀ x,f (-x)=invW (f x)) (w:List Int):Fe (homW f (redF w)) (homW f w):=zi6 hf w []
theorem zt7 {f:Int→List Int} (hf:∀ x,f (-x)=invW (f x)) {u v:List Int} (h:Fe u v):Fe (homW f u) (homW f v):=(zp6 hf u).symm.trans (zdo h ▸ zp6 hf v)
theorem zkh {f:Int→List Int} (hf:∀ x,f (-x)=invW (f x)):∀ w:List Int,homW f (invW w)=invW (homW f w)
 | []=>rfl
 | x::w=>by
  have e:invW (x::w)=invW w++[-x]:=by unfold invW;rw [List.map_cons,List.reverse_cons]
  rw [e,zct,zkh hf w];show _++(f (-x)++[])=invW (f x++homW f w);rw [List.append_nil,hf,zbn]
def kl (n:Nat) (w:List Int):List Int:=homW (fun x=>if x.natAbs=n then [] else [x]) w
theorem kl_hf (n:Nat) (x:Int):(fun x:Int=>if x.natAbs=n then [] else [x]) (-x)=invW ((fun x:Int=>if x.natAbs=n then [] else [x]) x):=by
 show (if (-x).natAbs=n then [] else [-x])=invW (if x.natAbs=n then [] else [x])
 rw [Int.natAbs_neg];split <;> rfl
theorem kl_fe (n:Nat) {u v:List Int} (h:Fe u v):Fe (kl n u) (kl n v):=zt7 (kl_hf n) h
theorem zb7 (n:Nat) (u v:List Int):kl n (u++v)=kl n u++kl n v:=zct _ u v
theorem zfa (n:Nat) (w:List Int):kl n (invW w)=invW (kl n w):=zkh (kl_hf n) w
theorem zp2 {n:Nat}:∀ {w:List Int},(∀ x,x∈w→x.natAbs≠n)→kl n w=w
 | [],_=>rfl
 | x::w,h=>by
  show (if x.natAbs=n then [] else [x])++kl n w=_
  rw [if_neg (h x List.mem_cons_self),zp2 fun y hy=>h y (List.mem_cons_of_mem _ hy)];rfl
theorem zxa {u v:List Int} (h:RS (u++v)):RS v:=by
 induction u with
 | nil=>exact h
 | cons x u ih=>exact ih h.tl
theorem zkk:∀ (w s:List Int),RS (w.reverse++s)→w.foldl fgR s=w.reverse++s
 | [],s,_=>rfl
 | x::w,s,h=>by
  rw [List.reverse_cons,List.append_assoc] at h;have h1:RS (x::s):=zxa h;have h2:fgR s x=x::s:=by
   cases s with
   | nil=>rfl
   | cons y s=>
    show (if y = -x then s else x::y::s)=_
    rw [if_neg h1.1]
  show w.foldl fgR (fgR s x)=_;rw [h2,zkk w (x::s) h,List.reverse_cons,List.append_assoc];rfl
theorem zpc {w:List Int} (h:RS w.reverse):redF w=w:=by
 unfold redF;rw [zkk w [] (by rwa [List.append_nil]),List.append_nil,List.reverse_reverse]
theorem zvc (w:List Int):RS (redF w).reverse:=by
 unfold redF;rw [List.reverse_reverse];exact zj1 w (s:=[]) trivial
theorem zif:∀ {w:List Int} {x:Int},w++[x]=x::w→∀ y,y∈w→y=x
 | [],_,_,y,h=>by cases h
 | a::w,x,e,y,h=>by
  injection e with e1 e2
  subst e1;rcases List.mem_cons.1 h with rfl|h
  ·rfl
  ·exact zif e2 y h
theorem zty:∀ {s:List Int} {a x:Int},RS (s++[a])→x ≠ -a→RS (s++[a,x])
 | [],_,_,_,h=>⟨h,trivial⟩
 | [y],_,_,h1,h=>⟨h1.1,h,trivial⟩
 | y::z::s,_,_,h1,h=>⟨h1.1,zty (s:=z::s) h1.2 h⟩
theorem zwf {C:List Int} {n:Nat} (h:Fe (C++([(n:Int)]++invW C)) [(n:Int)]):Fe (kl n C) []:=by
 have h1:Fe (C++[(n:Int)]) ([(n:Int)]++C):=by
  have a:=h.app (Fe.refl C);have b:Fe (C++([(n:Int)]++invW C)++C) (C++[(n:Int)]):=by
   rw [List.append_assoc,List.append_assoc];have:=(Fe.refl (C++[(n:Int)])).app (zh5 C)
   rwa [List.append_nil,List.append_assoc] at this
  exact b.symm.trans a
 have h2:Fe (redF C++[(n:Int)]) ([(n:Int)]++redF C):=(((zc0 C).app (.refl _)).trans h1).trans ((Fe.refl _).app (zc0 C).symm);have hr:=zvc C;generalize hR:redF C=R at *;have e1:redF (R++[(n:Int)])=(fgR R.reverse n).reverse:=by
  unfold redF;rw [List.foldl_append,zkk R [] (by rwa [List.append_nil]),List.append_nil];rfl
 have e2:=zdo h2;rw [e1] at e2;have hall:∀ y,y∈R→y.natAbs=n:=by
  cases R with
  | nil=>intro y hy;cases hy
  | cons a R=>
   by_cases c:(n:Int) = -a
   ·have e3:redF ([(n:Int)]++(a::R))=R:=by
     have f1:Fe ([(n:Int)]++(a::R)) R:=by
      rw [show [(n:Int)]++(a::R)=[(n:Int),a]++R from rfl]
      exact (zmj c).app (.refl R)
     rw [zdo f1];refine zpc ?_;rw [List.reverse_cons] at hr;have:∀ {s:List Int} {a:Int},RS (s++[a])→RS s:=fun {s a}=>by
      induction s with
      | nil=>intro _;trivial
      | cons y s ih=>
       cases s with
       | nil=>intro _;trivial
       | cons z s=>intro h;exact ⟨h.1,ih h.2⟩
     exact this hr
    rw [e3] at e2;have e4:(a::R)=R++[a]:=by
     have hc:((a::R).reverse)≠[]:=by simp
     cases hs:(a::R).reverse with
     | nil=>exact absurd hs hc
     | cons y t=>
      rw [hs] at e2;have e2:(if y = -(n:Int) then t else (n:Int)::y::t).reverse=R:=e2
      have hl:(a::R).length=t.length+1:=by rw [← List.length_reverse,hs];rfl
      by_cases d:y = -(n:Int)
      ·rw [if_pos d] at e2;have:(a::R)=(y::t).reverse:=by rw [← hs,List.reverse_reverse]
       rw [this,List.reverse_cons,e2];congr 2;omega
      ·rw [if_neg d] at e2;have:=congrArg List.length e2;rw [List.length_reverse,List.length_cons,List.length_cons] at this;rw [List.length_cons] at hl;omega
    intro y hy;rcases List.mem_cons.1 hy with rfl|hy
    ·omega
    ·have:=zif e4.symm y hy;omega
   ·have e3:redF ([(n:Int)]++(a::R))=(n:Int)::a::R:=by
     refine zpc ?_;show RS ((n:Int)::a::R).reverse;rw [List.reverse_cons,List.reverse_cons,List.append_assoc];rw [List.reverse_cons] at hr;exact zty hr c
    rw [e3] at e2;have e4:(a::R)++[(n:Int)]=(n:Int)::(a::R):=by
     cases hs:(a::R).reverse with
     | nil=>exact absurd hs (by simp)
     | cons y t=>
      rw [hs] at e2;have e2:(if y = -(n:Int) then t else (n:Int)::y::t).reverse=(n:Int)::a::R:=e2
      have hl:(a::R).length=t.length+1:=by rw [← List.length_reverse,hs];rfl
      by_cases d:y = -(n:Int)
      ·rw [if_pos d] at e2;have:=congrArg List.length e2;rw [List.length_reverse,List.length_cons,List.length_cons] at this;rw [List.length_cons] at hl;omega
      ·rw [if_neg d,List.reverse_cons] at e2;have:(y::t).reverse=a::R:=by rw [← hs,List.reverse_reverse]
       rw [← this,e2,this]
    intro y hy;have:=zif e4 y hy;omega
 have hk:∀ {w:List Int},(∀ y,y∈w→y.natAbs=n)→kl n w=[]:=fun {w}=>by
  induction w with
  | nil=>intro _;rfl
  | cons x w ih=>
   intro h;show (if x.natAbs=n then [] else [x])++kl n w=[]
   rw [if_pos (h x List.mem_cons_self),ih fun y hy=>h y (List.mem_cons_of_mem _ hy)];rfl
 have h3:=kl_fe n (zc0 C);rw [hR,hk hall] at h3;exact h3.symm
abbrev Gk (h:List (List Int)) (k:Nat):List Int:=h.getD k []
theorem nat_R {g:List (List Int)} {i:Nat} (h:0<i∧i<g.length):Gk (actS g (-(i:Int))) (i-1)=Gk g i∧Fe (Gk (actS g (-(i:Int))) i) (invW (Gk g i)++(Gk g (i-1)++Gk g i))∧∀ k,k+1≠i→k≠i→Gk (actS g (-(i:Int))) k=Gk g k:=by
 have e:(-(i:Int)).natAbs=i:=by omega
 have hx:0<(-(i:Int)).natAbs∧(-(i:Int)).natAbs<g.length:=by rw [e];exact h
 have h1:=act_L hx;have h2:=act_R hx;have h3:=fun k=>act_O (k:=k) hx;rw [e] at h1 h2 h3;unfold aL at h1;unfold aR at h2;rw [if_neg (by omega)] at h1 h2;refine ⟨h1,?_,h3⟩;show Fe ((actS g (-(i:Int))).getD i []) _;rw [h2,← List.append_assoc];exact zc0 _
theorem nat_P {g:List (List Int)} {i:Nat} (h:0<i∧i<g.length):Fe (Gk (actS g (i:Int)) (i-1)) (Gk g (i-1)++(Gk g i++invW (Gk g (i-1))))∧Gk (actS g (i:Int)) i=Gk g (i-1)∧∀ k,k+1≠i→k≠i→Gk (actS g (i:Int)) k=Gk g k:=by
 obtain ⟨h1,h2,h3⟩:=nat_L h;refine ⟨?_,h2,h3⟩;show Fe ((actS g (i:Int)).getD (i-1) []) _;rw [h1,← List.append_assoc];exact zc0 _
def tD (p:Nat):Nat→List Int
 | 0=>[]
 | d+1=>-((p+d+1:Nat):Int)::tD p d
theorem zd3 {n p:Nat}:∀ d,p+d<n→Vld n (tD p d)
 | 0,_=>fun x hx=>by cases hx
 | d+1,h=>fun x hx=>by
  rcases List.mem_cons.1 hx with rfl|e
  ·omega
  ·exact zd3 d (by omega) x e
theorem zlh (p:Nat):∀ (d:Nat) (h:List (List Int)),p+d<h.length→(∀ k,k<p→Gk (actF (tD p d) h) k=Gk h k)∧Gk (actF (tD p d) h) p=Gk h (p+d)∧(∀ k,p≤k→k<p+d→Fe (Gk (actF (tD p d) h) (k+1)) (invW (Gk h (p+d))++(Gk h k++Gk h (p+d))))∧∀ k,p+d<k→Gk (actF (tD p d) h) k=Gk h k
 | 0,h,hl=>⟨fun _ _=>rfl,rfl,fun k h1 h2=>by omega,fun _ _=>rfl⟩
 | d+1,h,hl=>by
  obtain ⟨a1,a2,a3⟩:=nat_R (g:=h) (i:=p+d+1) ⟨by omega,by omega⟩;rw [Nat.add_sub_cancel] at a1 a2;obtain ⟨b1,b2,b3,b4⟩:=zlh p d (actS h (-((p+d+1:Nat):Int))) (by rw [zat];omega);have e:actF (tD p (d+1)) h=actF (tD p d) (actS h (-((p+d+1:Nat):Int))):=rfl;rw [e,show p+(d+1)=p+d+1 by omega];rw [a1] at b2 b3;refine ⟨fun k hk=>?_,b2,fun k h1 h2=>?_,fun k hk=>?_⟩
  ·rw [b1 k hk,a3 k (by omega) (by omega)]
  ·by_cases c:k=p+d
   ·subst c;rw [b4 _ (by omega)];exact a2
   ·have:=b3 k h1 (by omega)
    rwa [a3 k (by omega) (by omega)] at this
  ·rw [b4 k (by omega),a3 k (by omega) (by omega)]
def AL (n:Nat) (s:Int):List Int:=tD s.natAbs (n-1-s.natAbs)++([s,s]++invW (tD s.natAbs (n-1-s.natAbs)))
theorem zm6 {n:Nat} {s:Int} (hs:0<s.natAbs∧s.natAbs<n):Vld n (AL n s):=by
 have h1:Vld n (tD s.natAbs (n-1-s.natAbs)):=zd3 _ (by omega);refine h1.app (Vld.app (fun x hx=>?_) (zff h1));have:x=s:=by simpa using hx
 subst this;omega
theorem zjl {n:Nat} (s:Int):invW (AL n s)=AL n (-s):=by
 unfold AL;rw [Int.natAbs_neg,zbn,zbn,zcf,List.append_assoc];rfl
theorem zsu {n:Nat} {u:List Int} (hu:Vld n u) {h:List (List Int)} (hl:h.length=n) (hr:RdG h):actF u (actF (invW u) h)=h:=by
 rw [← zas];exact (zmz (Cn.inv2 hu) hl hr).trans rfl
theorem zx2 {n:Nat} {s:Int} (hs:0<s.natAbs∧s.natAbs<n) {h:List (List Int)} (hl:h.length=n) (hr:RdG h):∃ D,Fe (Gk (actF (AL n s) h) (n-1)) (D++(Gk h (n-1)++invW D))∧(Fe (kl n (Gk h (n-1))) []→Fe (kl n D) (if 0<s then kl n (Gk h (s.natAbs-1)) else invW (kl n (Gk h (s.natAbs-1))))∧∀ k,k<n-1→Fe (kl n (Gk (actF (AL n s) h) k)) (kl n (Gk h k))):=by
 obtain ⟨i,hi⟩:∃ i,i=s.natAbs:=⟨_,rfl⟩;rw [← hi] at hs ⊢;have hv:Vld n (tD i (n-1-i)):=zd3 _ (by omega);obtain ⟨a1,a2,a3,a4⟩:=zlh i (n-1-i) h (by omega);rw [show i+(n-1-i)=n-1 by omega] at a2 a3 a4;have e:actF (AL n s) h=actF (invW (tD i (n-1-i))) (actF [s,s] (actF (tD i (n-1-i)) h)):=by
  unfold AL;rw [← hi,zas,zas]
 rw [e];have l1:(actF (tD i (n-1-i)) h).length=n:=by rw [zbg,hl]
 have r1:RdG (actF (tD i (n-1-i)) h):=zd0 _ hr;generalize hh1:actF (tD i (n-1-i)) h=h1 at *;have l2:(actF [s,s] h1).length=n:=by rw [zbg,l1]
 have r2:RdG (actF [s,s] h1):=zd0 _ r1
 -- the square
 have sq:∃ D,Fe (Gk (actF [s,s] h1) i) (D++(Gk h (n-1)++invW D))∧(Fe (kl n (Gk h (n-1))) []→Fe (kl n D) (if 0<s then kl n (Gk h (i-1)) else invW (kl n (Gk h (i-1))))∧Fe (kl n (Gk (actF [s,s] h1) (i-1))) (kl n (Gk h (i-1))))∧∀ k,k+1≠i→k≠i→Gk (actF [s,s] h1) k=Gk h1 k:=by
  have g1:0<i∧i<h1.length:=by omega
  by_cases c:0<s
  ·obtain rfl:s=(i:Int):=by omega
   obtain ⟨p1,p2,p3⟩:=nat_P (g:=h1) g1;obtain ⟨q1,q2,q3⟩:=nat_P (g:=actS h1 (i:Int)) (i:=i) (by rw [zat];exact g1);rw [a1 (i-1) (by omega),a2] at p1;rw [a1 (i-1) (by omega)] at p2;refine ⟨Gk h (i-1),?_,fun hz=>⟨?_,?_⟩,fun k k1 k2=>?_⟩
   ·show Fe (Gk (actS (actS h1 (i:Int)) (i:Int)) i) _;rw [q2];exact p1
   ·rw [if_pos c];exact .refl _
   ·show Fe (kl n (Gk (actS (actS h1 (i:Int)) (i:Int)) (i-1))) _;refine (kl_fe n q1).trans ?_;rw [p2];have f1:=kl_fe n p1;rw [zb7,zb7,zfa] at f1;have f2:Fe (kl n (Gk (actS h1 (i:Int)) (i-1))) []:=f1.trans (((Fe.refl (kl n (Gk h (i-1)))).app (hz.app (.refl (invW (kl n (Gk h (i-1))))))).trans (zcx _));rw [zb7,zb7,zfa];have:=f2.app ((Fe.refl (kl n (Gk h (i-1)))).app f2.inv)
    rwa [show invW ([]:List Int)=[] from rfl,List.append_nil] at this
   ·show Gk (actS (actS h1 (i:Int)) (i:Int)) k=_;rw [q3 k k1 k2,p3 k k1 k2]
  ·obtain rfl:s = -(i:Int):=by omega
   obtain ⟨p1,p2,p3⟩:=nat_R (g:=h1) g1;obtain ⟨q1,q2,q3⟩:=nat_R (g:=actS h1 (-(i:Int))) (i:=i) (by rw [zat];exact g1);rw [a1 (i-1) (by omega),a2] at p2;rw [a2] at p1;rw [p1] at q2;have fm:Fe (kl n (Gk h (n-1))) []→Fe (kl n (Gk (actS h1 (-(i:Int))) i)) (kl n (Gk h (i-1))):=fun hz=>by
    have f1:=kl_fe n p2;rw [zb7,zb7,zfa] at f1;have:=hz.inv.app ((Fe.refl (kl n (Gk h (i-1)))).app hz);rw [List.append_nil] at this;exact f1.trans this
   refine ⟨invW (Gk (actS h1 (-(i:Int))) i),?_,fun hz=>⟨?_,?_⟩,fun k k1 k2=>?_⟩
   ·rw [zcf];exact q2
   ·rw [if_neg c,zfa];exact (fm hz).inv
   ·show Fe (kl n (Gk (actS (actS h1 (-(i:Int))) (-(i:Int))) (i-1))) _;rw [q1];exact fm hz
   ·show Gk (actS (actS h1 (-(i:Int))) (-(i:Int))) k=_;rw [q3 k k1 k2,p3 k k1 k2]
 obtain ⟨D,d1,d2,d3⟩:=sq;have hu:=zsu hv l2 r2;have l3:(actF (invW (tD i (n-1-i))) (actF [s,s] h1)).length=n:=by rw [zbg,l2]
 generalize actF [s,s] h1=h2 at *;generalize actF (invW (tD i (n-1-i))) h2=h3 at *;obtain ⟨c1,c2,c3,c4⟩:=zlh i (n-1-i) h3 (by omega);rw [show i+(n-1-i)=n-1 by omega] at c2 c3 c4;rw [hu] at c1 c2 c3 c4;refine ⟨D,by rw [← c2];exact d1,fun hz=>?_⟩;obtain ⟨q1,q2⟩:=d2 hz;refine ⟨q1,fun k hk=>?_⟩;have kz:Fe (kl n (Gk h3 (n-1))) []:=by
  rw [← c2];refine (kl_fe n d1).trans ?_;rw [zb7,zb7,zfa];exact ((Fe.refl (kl n D)).app (hz.app (.refl (invW (kl n D))))).trans (zcx _)
 by_cases k1:k<i
 ·rw [← c1 k k1]
  by_cases k2:k+1=i
  ·have:k=i-1:=by omega
   subst this;exact q2
  ·rw [d3 k k2 (by omega),a1 k k1];exact .refl _
 ·have f1:=kl_fe n (c3 k (by omega) hk);have f2:=kl_fe n (a3 k (by omega) hk);rw [d3 (k+1) (by omega) (by omega)] at f1;rw [zb7,zb7,zfa] at f1 f2;have z3:Fe (invW (kl n (Gk h3 (n-1)))++(kl n (Gk h3 k)++kl n (Gk h3 (n-1)))) (kl n (Gk h3 k)):=by
   have:=kz.inv.app ((Fe.refl (kl n (Gk h3 k))).app kz)
   rwa [List.append_nil] at this
  have z1:Fe (invW (kl n (Gk h (n-1)))++(kl n (Gk h k)++kl n (Gk h (n-1)))) (kl n (Gk h k)):=by
   have:=hz.inv.app ((Fe.refl (kl n (Gk h k))).app hz)
   rwa [List.append_nil] at this
  exact z3.symm.trans (f1.symm.trans (f2.trans z1))
def AW (n:Nat) (W:List Int):List Int:=homW (AL n) W
theorem zjk (n:Nat) (U V:List Int):AW n (U++V)=AW n U++AW n V:=zct _ U V
theorem zrf (n:Nat) (s:Int) (W:List Int):AW n (s::W)=AL n s++AW n W:=rfl
theorem zul {n:Nat}:∀ {W:List Int},Vld n W→Vld n (AW n W)
 | [],_=>fun x hx=>by cases hx
 | s::W,h=>(zm6 h.head).app (zul h.tail)
theorem zx1 (n:Nat) (W:List Int):AW n (invW W)=invW (AW n W):=zkh (fun s=>(zjl s).symm) W
def bet (b:Nat→List Int) (s:Int):List Int:=if 0<s then b (s.natAbs-1) else invW (b (s.natAbs-1))
theorem W_act {n:Nat} {b:Nat→List Int}:∀ (W:List Int) (h:List (List Int)) (C:List Int),Vld n W→h.length=n→RdG h→(∀ k,k<n-1→Fe (kl n (Gk h k)) (b k))→Fe (Gk h (n-1)) (C++([(n:Int)]++invW C))→∃ C',Fe (Gk (actF (AW n W) h) (n-1)) (C'++([(n:Int)]++invW C'))∧(∀ k,k<n-1→Fe (kl n (Gk (actF (AW n W) h) k)) (b k))∧Fe (kl n C') (homW (bet b) W.reverse++kl n C)
 | [],h,C,_,_,_,hb,hC=>⟨C,hC,hb,.refl _⟩
 | s::W,h,C,hv,hl,hr,hb,hC=>by
  have hs:=hv.head;have hz:Fe (kl n (Gk h (n-1))) []:=by
   refine (kl_fe n hC).trans ?_;rw [zb7,zb7,zfa];have e:kl n [(n:Int)]=[]:=by
    show (if (n:Int).natAbs=n then [] else [(n:Int)])++[]=[]
    rw [if_pos (Int.natAbs_natCast n)];rfl
   rw [e,List.nil_append];exact zcx _
  obtain ⟨D,d1,d2⟩:=zx2 hs hl hr;obtain ⟨d3,d4⟩:=d2 hz;have hC1:Fe (Gk (actF (AL n s) h) (n-1)) ((D++C)++([(n:Int)]++invW (D++C))):=by
   refine d1.trans ?_;rw [zbn];have:=(Fe.refl D).app (hC.app (.refl (invW D)));simp only [List.append_assoc] at this ⊢;exact this
  obtain ⟨C',c1,c2,c3⟩:=W_act W (actF (AL n s) h) (D++C) hv.tail (by rw [zbg,hl]) (zd0 _ hr) (fun k hk=>(d4 k hk).trans (hb k hk)) hC1;have e:actF (AW n (s::W)) h=actF (AW n W) (actF (AL n s) h):=by rw [zrf,zas]
  rw [e];refine ⟨C',c1,c2,c3.trans ?_⟩;rw [List.reverse_cons,zct,List.append_assoc,zb7];refine (Fe.refl _).app (Fe.app ?_ (.refl _));show Fe (kl n D) (bet b s++[]);rw [List.append_nil];refine d3.trans ?_;have hk:=hb (s.natAbs-1) (by omega);unfold bet;split
  ·exact hk
  ·exact hk.inv
theorem zue {n:Nat}:∀ {W:List Int},Vld n W→homW (bet fun k=>[((k+1:Nat):Int)]) W=W
 | [],_=>rfl
 | s::W,h=>by
  have hs:=h.head;show bet _ s++homW _ W=_;rw [zue h.tail];have:bet (fun k=>[((k+1:Nat):Int)]) s=[s]:=by
   unfold bet;split
   ·show [((s.natAbs-1+1:Nat):Int)]=[s];congr 1;omega
   ·show [-((s.natAbs-1+1:Nat):Int)]=[s];congr 1;omega
  rw [this];rfl
theorem zxi {u v:List Int} (h:Fe u v):Fe u.reverse v.reverse:=by
 have h1:=zt7 (f:=fun x=>[-x]) (fun x=>by show [- -x]=[- -x];rfl) h.inv;have e:∀ w:List Int,homW (fun x=>[-x]) (invW w)=w.reverse:=fun w=>by
  unfold homW invW;rw [List.flatMap_def,List.map_reverse,List.map_map];have:∀ l:List Int,(l.map ((fun x=>[-x]) ∘ fun x=>-x))=l.map fun x=>[x]:=fun l=>List.map_congr_left fun x _=>by
   show [- -x]=[x];rw [Int.neg_neg]
  rw [this,← List.map_reverse]
  induction w.reverse with
  | nil=>rfl
  | cons x l ih=>show [x]++_=_;rw [ih];rfl
 rwa [e,e] at h1
theorem zm4 {n:Nat}:∀ (w s:List Int),Vld n w→Vld n s→Cn n (AW n (w.foldl fgR s).reverse) (AW n (s.reverse++w))
 | [],s,_,_=>by rw [List.append_nil];exact .refl _
 | x::w,s,hw,hs=>by
  have hx:Vld n [x]:=fun y hy=>hw y (by rw [List.mem_singleton.1 hy];exact List.mem_cons_self);refine (zm4 w (fgR s x) hw.tail ?_).trans ?_
  ·intro y hy;rcases zqc hy with rfl|hy
   ·exact hw y List.mem_cons_self
   ·exact hs y hy
  rw [show x::w=[x]++w from rfl,← List.append_assoc,zjk,zjk n (s.reverse++[x])]
  refine Cn.app ?_ (.refl _)
  cases s with
  | nil=>exact .refl _
  | cons y s=>
   show Cn n (AW n (if y = -x then s else x::y::s).reverse) _
   split
   ·rename_i e;subst e;rw [List.reverse_cons,List.append_assoc,zjk];have h1:AW n ([-x]++[x])=invW (AL n x)++AL n x:=by
     show AL n (-x)++(AL n x++[])=_;rw [← zjl,List.append_nil]
    rw [h1];have:=((Cn.inv2 (zm6 (n:=n) (s:=x) hx.head)).pre (AW n s.reverse)).symm
    rwa [List.append_nil] at this
   ·rw [List.reverse_cons];exact .refl _
theorem zwq {n:Nat} {W:List Int} (hv:Vld n W) (h:Fe W []):Cn n (AW n W) []:=by
 have h1:=zm4 W [] hv (fun x hx=>by cases hx);have h2:redF W=[]:=zdo h;have h3:(W.foldl fgR []).reverse=[]:=h2;rw [h3] at h1;exact h1.symm
section
variable {n:Nat}
def Sd (n:Nat) (u x y:List Int):Prop:=Cn n (u++x) (y++u)
theorem Sd.comp {u v x y z:List Int} (h:Sd n u x y) (k:Sd n v y z):Sd n (v++u) x z:=by
 unfold Sd at *;rw [List.append_assoc,← List.append_assoc z];have h1:=h.pre v;rw [← List.append_assoc v y u] at h1;exact h1.trans (k.post u)
theorem Sd.inv {u x y:List Int} (hx:Vld n x) (hy:Vld n y) (h:Sd n u x y):Sd n u (invW x) (invW y):=by
 unfold Sd at *
 -- y⁻ y u x⁻ ~ y⁻ u x x⁻
 have h1:Cn n (invW y++((y++u)++invW x)) (u++invW x):=by
  have:=((Cn.inv2 hy).post (u++invW x));simp only [List.append_assoc,List.nil_append] at this ⊢;exact this
 have h2:Cn n (invW y++((u++x)++invW x)) (invW y++u):=by
  have:=((Cn.inv1 hx).pre (invW y++u));simp only [List.append_assoc,List.append_nil] at this ⊢;exact this
 exact h1.symm.trans (((h.symm.post (invW x)).pre (invW y)).trans h2)
theorem Sd.back {u x y:List Int} (hu:Vld n u) (h:Sd n u x y):Sd n (invW u) y x:=by
 unfold Sd at *;have h1:Cn n (invW u++((u++x)++invW u)) (x++invW u):=by
  have:=((Cn.inv2 hu).post (x++invW u));simp only [List.append_assoc,List.nil_append] at this ⊢;exact this
 have h2:Cn n (invW u++((y++u)++invW u)) (invW u++y):=by
  have:=((Cn.inv1 hu).pre (invW u++y));simp only [List.append_assoc,List.append_nil] at this ⊢;exact this
 exact h2.symm.trans (((h.symm.post (invW u)).pre (invW u)).trans h1)
theorem vld2 {x y:Int} (hx:0<x.natAbs∧x.natAbs<n) (hy:0<y.natAbs∧y.natAbs<n):Vld n [x,y]:=fun z hz=>by
 have:z=x∨z=y:=by simpa using hz
 rcases this with rfl|rfl <;> omega
theorem vld1 {x:Int} (hx:0<x.natAbs∧x.natAbs<n):Vld n [x]:=fun z hz=>by
 have:z=x:=by simpa using hz
 subst this;omega
theorem ztx {x y:Int} (hx:0<x.natAbs∧x.natAbs<n) (hy:0<y.natAbs∧y.natAbs<n) (h:Far x.natAbs y.natAbs):Sd n [x] [y] [y]:=
 zmv (vld2 hx hy) (vld2 hy hx) ((Alk.far hx hy h).nf (by omega))
theorem zes {s:Int} (hs:0<s.natAbs∧s.natAbs<n):∀ {u:List Int},Vld n u→(∀ x,x∈u→Far x.natAbs s.natAbs)→Sd n u [s] [s]
 | [],_,_=>.refl _
 | x::u,hv,hf=>Sd.comp (v:=[x]) (zes hs hv.tail fun y hy=>hf y (List.mem_cons_of_mem _ hy)) (ztx hv.head hs (hf x List.mem_cons_self))
theorem zgm {p:Nat}:∀ {d:Nat} {x:Int},x∈tD p d→p+1≤x.natAbs∧x.natAbs≤p+d
 | 0,_,h=>by cases h
 | d+1,x,h=>by
  rcases List.mem_cons.1 h with rfl|h
  ·omega
  ·have:=zgm (p:=p) (d:=d) h;omega
theorem zgi {k:Nat} (h:0<k) (hk:k+1<n):Cn n [(k:Int),((k+1:Nat):Int),(k:Int)] [((k+1:Nat):Int),(k:Int),((k+1:Nat):Int)]:=by
 have:=Cn.braid (n:=n) [] [] k h hk;simpa using this
theorem vld3 {x y z:Int} (hx:0<x.natAbs∧x.natAbs<n) (hy:0<y.natAbs∧y.natAbs<n) (hz:0<z.natAbs∧z.natAbs<n):Vld n [x,y,z]:=fun w hw=>by
 have:w=x∨w=y∨w=z:=by simpa using hw
 rcases this with rfl|rfl|rfl <;> omega
theorem zw9 {k:Nat} (h:0<k) (hk:k+1<n) {e:Int} (he:e=1∨e = -1):Sd n [-((k+1:Nat):Int),-(k:Int)] [e*((k+1:Nat):Int)] [e*(k:Int)]:=by
 have a1:0<(k:Int).natAbs∧(k:Int).natAbs<n:=by omega
 have a2:0<((k+1:Nat):Int).natAbs∧((k+1:Nat):Int).natAbs<n:=by omega
 have hneg:Sd n [-((k+1:Nat):Int),-(k:Int)] [-((k+1:Nat):Int)] [-(k:Int)]:=by
  have:=(zgi h hk).invC (vld3 a1 a2 a1) (vld3 a2 a1 a2);exact this.symm
 rcases he with rfl|rfl
 ·have:=hneg.inv (vld1 (by omega)) (vld1 (by omega));have e1:invW [-((k+1:Nat):Int)]=[1*((k+1:Nat):Int)]:=by show [- -((k+1:Nat):Int)]=_;congr 1;omega
  have e2:invW [-(k:Int)]=[1*(k:Int)]:=by show [- -(k:Int)]=_;congr 1;omega
  rwa [e1,e2] at this
 ·have e1:[-((k+1:Nat):Int)]=[-1*((k+1:Nat):Int)]:=by congr 1;omega
  have e2:[-(k:Int)]=[-1*(k:Int)]:=by congr 1;omega
  rw [← e1,← e2];exact hneg
theorem abs_e {e:Int} (he:e=1∨e = -1) (k:Nat):(e*(k:Int)).natAbs=k:=by rcases he with rfl|rfl <;> omega
theorem zhc {p k:Nat} {e:Int} (he:e=1∨e = -1) (hk:p<k):∀ d,p+d<n→k+1≤p+d→Sd n (tD p d) [e*((k+1:Nat):Int)] [e*(k:Int)]
 | 0,_,h=>by omega
 | d+1,hn,h=>by
  by_cases c:k+1≤p+d
  ·refine Sd.comp (v:=[-((p+d+1:Nat):Int)]) (zhc he hk d (by omega) c) (ztx (by omega) (by rw [abs_e he];omega) ?_);rw [abs_e he];exact .inr (by omega)
  ·obtain ⟨d,rfl⟩:∃ d',d=d'+1:=⟨d-1,by omega⟩;have ek:k=p+d+1:=by omega
   subst ek;have h1:Sd n (tD p d) [e*((p+d+1+1:Nat):Int)] [e*((p+d+1+1:Nat):Int)]:=zes (by rw [abs_e he];omega) (zd3 d (by omega)) fun x hx=>by
    have:=zgm hx;rw [abs_e he];exact .inl (by omega)
   exact Sd.comp (v:=[-((p+d+1+1:Nat):Int),-((p+d+1:Nat):Int)]) h1 (zw9 (by omega) (by omega) he)
theorem zfp (p:Nat):∀ d,tD p (d+1)=tD (p+1) d++[-((p+1:Nat):Int)]
 | 0=>rfl
 | d+1=>by
  show -((p+(d+1)+1:Nat):Int)::tD p (d+1)=_;rw [zfp p d];show _ = -((p+1+d+1:Nat):Int)::(tD (p+1) d++_);congr 2;omega
end
section
variable {n:Nat}
theorem zic {x:Int} (hx:0<x.natAbs∧x.natAbs<n):Cn n [x,-x] []:=by
 have:=Cn.undo (n:=n) [] [] x hx;simpa using this
theorem zib {x:Int} (hx:0<x.natAbs∧x.natAbs<n):Cn n [-x,x] []:=by
 have:=zic (n:=n) (x:=-x) (by omega)
 rwa [Int.neg_neg] at this
section J
variable {k:Nat} (h:0<k) (hk:k+1<n)
include h hk
theorem cJ1:Cn n ([-((k+1:Nat):Int),(k:Int),(k:Int),((k+1:Nat):Int)]++[(k:Int)]) ([(k:Int)]++[((k+1:Nat):Int),((k+1:Nat):Int)]):=by
 have hb:=zgi h hk;generalize hK:((k+1:Nat):Int)=K at *;have hv:0<K.natAbs∧K.natAbs<n:=by omega
 have s1:Cn n ([-K,(k:Int)]++[(k:Int),K,(k:Int)]) ([-K,(k:Int)]++[K,(k:Int),K]):=hb.pre _;have s2:Cn n ([-K]++([(k:Int),K,(k:Int)]++[K])) ([-K]++([K,(k:Int),K]++[K])):=(hb.post _).pre _;have s3:Cn n ([-K,K]++[(k:Int),K,K]) ([]++[(k:Int),K,K]):=(zib hv).post _;exact s1.trans (s2.trans s3)
theorem cJ4:Sd n ([((k+1:Nat):Int),((k+1:Nat):Int)]++[-((k+1:Nat):Int),(k:Int),(k:Int),((k+1:Nat):Int)]) [(k:Int)] [(k:Int)]:=by
 have hb:=zgi h hk;unfold Sd;generalize hK:((k+1:Nat):Int)=K at *;have hv:0<K.natAbs∧K.natAbs<n:=by omega
 have c:Cn n ([K,K]++[-K,(k:Int),(k:Int),K]) [K,(k:Int),(k:Int),K]:=(((zic hv).post [(k:Int),(k:Int),K]).pre [K]);have s1:Cn n ([K,(k:Int)]++[(k:Int),K,(k:Int)]) ([K,(k:Int)]++[K,(k:Int),K]):=hb.pre _;have s2:Cn n ([K,(k:Int),K]++[(k:Int),K]) ([(k:Int),K,(k:Int)]++[(k:Int),K]):=hb.symm.post _;exact (c.post _).trans (s1.trans (s2.trans (c.symm.pre [(k:Int)])))
theorem cJ3:Cn n ([((k+1:Nat):Int),((k+1:Nat):Int)]++[(k:Int)]) ([(k:Int)]++([((k+1:Nat):Int),((k+1:Nat):Int)]++([-((k+1:Nat):Int),(k:Int),(k:Int),((k+1:Nat):Int)]++invW [((k+1:Nat):Int),((k+1:Nat):Int)]))):=by
 have j1:=cJ1 h hk;have j4:=cJ4 h hk;unfold Sd at j4;have hv:Vld n [((k+1:Nat):Int),((k+1:Nat):Int)]:=vld2 (by omega) (by omega);generalize [-((k+1:Nat):Int),(k:Int),(k:Int),((k+1:Nat):Int)]=a at *;generalize [((k+1:Nat):Int),((k+1:Nat):Int)]=b at *;have s1:Cn n ([(k:Int)]++(b++a)++invW b) ((b++a)++[(k:Int)]++invW b):=j4.symm.post _;have s2:Cn n (b++(a++[(k:Int)])++invW b) (b++([(k:Int)]++b)++invW b):=(j1.pre b).post _
 have s3:Cn n ((b++[(k:Int)])++(b++invW b)) ((b++[(k:Int)])++[]):=(Cn.inv1 hv).pre _;simp only [List.append_assoc,List.append_nil] at s1 s2 s3 ⊢;exact (s1.trans (s2.trans s3)).symm
theorem cJ2:Cn n ([-((k+1:Nat):Int),(k:Int),(k:Int),((k+1:Nat):Int)]++[-(k:Int)]) ([-(k:Int)]++(invW [-((k+1:Nat):Int),(k:Int),(k:Int),((k+1:Nat):Int)]++([((k+1:Nat):Int),((k+1:Nat):Int)]++[-((k+1:Nat):Int),(k:Int),(k:Int),((k+1:Nat):Int)]))):=by
 have j1:=cJ1 h hk;have h1:Vld n [(k:Int)]:=vld1 (by omega);have j4:=(cJ4 h hk).inv h1 h1;unfold Sd at j4;have hv:Vld n [((k+1:Nat):Int),((k+1:Nat):Int)]:=vld2 (by omega) (by omega);have ha:Vld n [-((k+1:Nat):Int),(k:Int),(k:Int),((k+1:Nat):Int)]:=by
  have:=(vld2 (n:=n) (x:=-((k+1:Nat):Int)) (y:=(k:Int)) (by omega) (by omega)).app (vld2 (n:=n) (x:=(k:Int)) (y:=((k+1:Nat):Int)) (by omega) (by omega));exact this
 generalize [-((k+1:Nat):Int),(k:Int),(k:Int),((k+1:Nat):Int)]=a at *;generalize [((k+1:Nat):Int),((k+1:Nat):Int)]=b at *;have j1':=j1.invC (ha.app h1) (h1.app hv);rw [zbn,zbn] at j1';have e:invW [(k:Int)]=[-(k:Int)]:=rfl;rw [e] at j1' j4;have s1:Cn n ([-(k:Int)]++invW a++(b++a)) (invW b++[-(k:Int)]++(b++a)):=j1'.post _;have s2:Cn n (invW b++([-(k:Int)]++(b++a))) (invW b++((b++a)++[-(k:Int)])):=j4.symm.pre _
 have s3:Cn n ((invW b++b)++(a++[-(k:Int)])) ([]++(a++[-(k:Int)])):=(Cn.inv2 hv).post _;simp only [List.append_assoc,List.nil_append] at s1 s2 s3 ⊢;exact (s1.trans (s2.trans s3)).symm
end J
def cj (T w:List Int):List Int:=T++(w++invW T)
theorem cj_cn {u v:List Int} (T:List Int) (h:Cn n u v):Cn n (cj T u) (cj T v):=(h.post _).pre _
theorem zdq {T:List Int} (hT:Vld n T) (u v:List Int):Cn n (cj T (u++v)) (cj T u++cj T v):=by
 have:=(((Cn.inv2 hT).post (v++invW T)).pre (T++u)).symm;unfold cj;simp only [List.append_assoc,List.nil_append] at this ⊢;exact this
theorem zq4 {T:List Int} (hT:Vld n T) {x:List Int} (h:Sd n T x x):Cn n (cj T x) x:=by
 unfold cj;rw [← List.append_assoc];refine (Cn.post h (invW T)).trans ?_;rw [List.append_assoc];have:=(Cn.inv1 hT).pre x
 rwa [List.append_nil] at this
theorem zud (T u:List Int):invW (cj T u)=cj T (invW u):=by
 unfold cj;rw [zbn,zbn,zcf,List.append_assoc]
theorem zrg {k:Nat} (hk:k+1<n):AL n (k:Int)=cj (tD (k+1) (n-1-(k+1))) [-((k+1:Nat):Int),(k:Int),(k:Int),((k+1:Nat):Int)]:=by
 unfold AL cj;rw [Int.natAbs_natCast];obtain ⟨d,hd⟩:∃ d,n-1-k=d+1:=⟨n-1-k-1,by omega⟩;rw [hd,zfp,show n-1-(k+1)=d by omega,zbn];have:invW [-((k+1:Nat):Int)]=[((k+1:Nat):Int)]:=by show [- -((k+1:Nat):Int)]=_;rw [Int.neg_neg]
 rw [this];simp only [List.append_assoc];rfl
theorem AL_up (k:Nat):AL n ((k+1:Nat):Int)=cj (tD (k+1) (n-1-(k+1))) [((k+1:Nat):Int),((k+1:Nat):Int)]:=by
 unfold AL cj;rw [Int.natAbs_natCast]
theorem zg7 (x:Int):AW n [x]=AL n x:=by
 show AL n x++[]=_;rw [List.append_nil]
section S
variable {k:Nat} (h:0<k) (hk:k+1<n)
include h hk
theorem tT:Vld n (tD (k+1) (n-1-(k+1))):=by
 have:=h;exact zd3 _ (by omega)
theorem tS {e:Int} (he:e=1∨e = -1):Sd n (tD (k+1) (n-1-(k+1))) [e*(k:Int)] [e*(k:Int)]:=zes (by rw [abs_e he];omega) (tT h hk) fun x hx=>by
 have:=zgm hx;rw [abs_e he];exact .inr (by omega)
theorem tS1:Sd n (tD (k+1) (n-1-(k+1))) [(k:Int)] [(k:Int)]:=by
 have:=tS h hk (e:=1) (.inl rfl)
 rwa [Int.one_mul] at this
theorem tS2:Sd n (tD (k+1) (n-1-(k+1))) [-(k:Int)] [-(k:Int)]:=by
 have:=tS h hk (e:=-1) (.inr rfl)
 rwa [Int.neg_one_mul] at this
theorem AL_1:Cn n (AL n (k:Int)++[(k:Int)]) ([(k:Int)]++AL n ((k+1:Nat):Int)):=by
 have hT:=tT h hk;have h1:=zq4 hT (tS1 h hk);have j:=cj_cn (tD (k+1) (n-1-(k+1))) (cJ1 h hk);rw [zrg hk,AL_up];exact ((h1.symm.pre _).trans ((zdq hT _ _).symm.trans (j.trans (zdq hT _ _)))).trans (h1.post _)
theorem AL_2:Cn n (AL n (k:Int)++[-(k:Int)]) ([-(k:Int)]++AW n [-(k:Int),((k+1:Nat):Int),(k:Int)]):=by
 have hT:=tT h hk;have h1:=zq4 hT (tS2 h hk);have j:=cj_cn (tD (k+1) (n-1-(k+1))) (cJ2 h hk);have e:AW n [-(k:Int),((k+1:Nat):Int),(k:Int)]=invW (AL n (k:Int))++(AL n ((k+1:Nat):Int)++AL n (k:Int)):=by
  show AL n (-(k:Int))++(AL n ((k+1:Nat):Int)++(AL n (k:Int)++[]))=_;rw [List.append_nil,zjl]
 rw [e,zrg hk,AL_up,zud];refine ((h1.symm.pre _).trans ((zdq hT _ _).symm.trans (j.trans (zdq hT _ _)))).trans (h1.app ?_);exact (zdq hT _ _).trans ((zdq hT _ _).pre _)
theorem AL_3:Cn n (AL n ((k+1:Nat):Int)++[(k:Int)]) ([(k:Int)]++AW n [((k+1:Nat):Int),(k:Int),-((k+1:Nat):Int)]):=by
 have hT:=tT h hk;have h1:=zq4 hT (tS1 h hk);have j:=cj_cn (tD (k+1) (n-1-(k+1))) (cJ3 h hk);have e:AW n [((k+1:Nat):Int),(k:Int),-((k+1:Nat):Int)]=AL n ((k+1:Nat):Int)++(AL n (k:Int)++invW (AL n ((k+1:Nat):Int))):=by
  show AL n ((k+1:Nat):Int)++(AL n (k:Int)++(AL n (-((k+1:Nat):Int))++[]))=_;rw [List.append_nil,zjl]
 rw [e,zrg hk,AL_up,zud];refine ((h1.symm.pre _).trans ((zdq hT _ _).symm.trans (j.trans (zdq hT _ _)))).trans (h1.app ?_);exact (zdq hT _ _).trans ((zdq hT _ _).pre _)
theorem AL_4:Cn n (AL n ((k+1:Nat):Int)++[-(k:Int)]) ([-(k:Int)]++AL n (k:Int)):=by
 have j:=AL_1 h hk;have hv:0<(k:Int).natAbs∧(k:Int).natAbs<n:=by omega
 have s1:Cn n ([-(k:Int)]++(AL n (k:Int)++([(k:Int),-(k:Int)]))) ([-(k:Int)]++(AL n (k:Int)++[])):=((zic hv).pre _).pre _;have s2:Cn n ([-(k:Int)]++(AL n (k:Int)++[(k:Int)])++[-(k:Int)]) ([-(k:Int)]++([(k:Int)]++AL n ((k+1:Nat):Int))++[-(k:Int)]):=(j.pre _).post _;have s3:Cn n ([-(k:Int),(k:Int)]++(AL n ((k+1:Nat):Int)++[-(k:Int)])) ([]++(AL n ((k+1:Nat):Int)++[-(k:Int)])):=(zib hv).post _;simp only [List.append_assoc,List.append_nil,List.nil_append,List.cons_append] at s1 s2 s3 ⊢
 exact (s1.symm.trans (s2.trans s3)).symm
end S
end
section
variable {n:Nat}
theorem ztw {i k:Nat} {e:Int} (he:e=1∨e = -1) (hi:0<i∧i<n) (h:0<k) (hk:k+1<n):∃ V,Vld n V∧Cn n (AL n (i:Int)++[e*(k:Int)]) ([e*(k:Int)]++AW n V):=by
 have hs:0<(e*(k:Int)).natAbs∧(e*(k:Int)).natAbs<n:=by rw [abs_e he];omega
 by_cases c1:i+1≤k
 ·refine ⟨[(i:Int)],vld1 (by omega),?_⟩;rw [zg7];have hv:Vld n (tD i (n-1-i)):=zd3 _ (by omega);have s1:Sd n (tD i (n-1-i)) [e*((k+1:Nat):Int)] [e*(k:Int)]:=zhc he (by omega) _ (by omega) (by omega);have s2:=s1.back hv;have s3:Sd n [(i:Int),(i:Int)] [e*((k+1:Nat):Int)] [e*((k+1:Nat):Int)]:=zes (by rw [abs_e he];omega) (vld2 (by omega) (by omega)) fun x hx=>by
   have:x=(i:Int):=by simpa using hx
   subst this;rw [abs_e he];exact .inl (by omega)
  have:=(s2.comp s3).comp s1;unfold AL;rw [Int.natAbs_natCast];exact this
 by_cases c2:k+2≤i
 ·refine ⟨[(i:Int)],vld1 (by omega),?_⟩;rw [zg7];refine zes hs (zm6 (by omega)) fun x hx=>?_;rw [abs_e he];refine .inr ?_;unfold AL at hx;rw [Int.natAbs_natCast] at hx;rcases List.mem_append.1 hx with hx|hx
  ·have:=zgm hx;omega
  ·rcases List.mem_append.1 hx with hx|hx
   ·have:x=(i:Int):=by simpa using hx
    omega
   ·obtain ⟨y,hy,rfl⟩:=List.mem_map.1 (List.mem_reverse.1 hx);have:=zgm hy;omega
 by_cases c3:i=k
 ·subst c3;rcases he with rfl|rfl
  ·refine ⟨[((i+1:Nat):Int)],vld1 (by omega),?_⟩;rw [zg7,Int.one_mul];exact AL_1 h hk
  ·refine ⟨[-(i:Int),((i+1:Nat):Int),(i:Int)],vld3 (by omega) (by omega) (by omega),?_⟩;rw [Int.neg_one_mul];exact AL_2 h hk
 ·obtain rfl:i=k+1:=by omega
  rcases he with rfl|rfl
  ·refine ⟨[((k+1:Nat):Int),(k:Int),-((k+1:Nat):Int)],vld3 (by omega) (by omega) (by omega),?_⟩;rw [Int.one_mul];exact AL_3 h hk
  ·refine ⟨[(k:Int)],vld1 (by omega),?_⟩;rw [zg7,Int.neg_one_mul];exact AL_4 h hk
theorem ztp {u s v:List Int} (hu:Vld n u) (hv:Vld n v) (h:Cn n (u++s) (s++v)):Cn n (invW u++s) (s++invW v):=by
 have s1:Cn n ((invW u++s)++(v++invW v)) ((invW u++s)++[]):=(Cn.inv1 hv).pre _;have s2:Cn n (invW u++(u++s)++invW v) (invW u++(s++v)++invW v):=(h.pre _).post _;have s3:Cn n ((invW u++u)++(s++invW v)) ([]++(s++invW v)):=(Cn.inv2 hu).post _;simp only [List.append_assoc,List.append_nil,List.nil_append] at s1 s2 s3 ⊢;exact s1.symm.trans (s2.symm.trans s3)
theorem zw8 {x:Int} (h:0<x.natAbs):∃ e:Int,(e=1∨e = -1)∧x=e*(x.natAbs:Int):=by
 by_cases c:0<x
 ·exact ⟨1,.inl rfl,by omega⟩
 ·exact ⟨-1,.inr rfl,by omega⟩
theorem zm5 {k:Nat} {e:Int} (he:e=1∨e = -1) (h:0<k) (hk:k+1<n):∀ {W:List Int},Vld n W→∃ V,Vld n V∧Cn n (AW n W++[e*(k:Int)]) ([e*(k:Int)]++AW n V)
 | [],_=>⟨[],fun x hx=>(by cases hx),by
  show Cn n ([]++[e*(k:Int)]) ([e*(k:Int)]++[]);rw [List.append_nil];exact .refl _⟩
 | x::W,hv=>by
  obtain ⟨V,v1,v2⟩:=zm5 he h hk hv.tail;have hx:=hv.head;obtain ⟨U,u1,u2⟩:=ztw (n:=n) (i:=x.natAbs) he hx h hk;have hU:∃ U,Vld n U∧Cn n (AL n x++[e*(k:Int)]) ([e*(k:Int)]++AW n U):=by
   by_cases c:0<x
   ·refine ⟨U,u1,?_⟩
    rwa [show ((x.natAbs:Nat):Int)=x by omega] at u2
   ·refine ⟨invW U,zff u1,?_⟩;rw [zx1];have:=ztp (zm6 (by omega)) (zul u1) u2
    rwa [zjl,show -((x.natAbs:Nat):Int)=x by omega] at this
  obtain ⟨U,u1,u2⟩:=hU;refine ⟨U++V,u1.app v1,?_⟩;rw [zrf,zjk,List.append_assoc];have s1:Cn n (AL n x++(AW n W++[e*(k:Int)])) (AL n x++([e*(k:Int)]++AW n V)):=v2.pre _;have s2:Cn n ((AL n x++[e*(k:Int)])++AW n V) (([e*(k:Int)]++AW n U)++AW n V):=u2.post _;simp only [List.append_assoc] at s1 s2 ⊢;exact s1.trans s2
def Cmb (n:Nat) (u:List Int):Prop:=∃ v W p,Vld (n-1) v∧Vld n W∧p<n∧Cn n u (v++(AW n W++tD p (n-1-p)))
theorem zq2 {v W:List Int} {p:Nat} {x:Int} (hv:Vld (n-1) v) (hW:Vld n W) (hp:p<n) (hx:0<x.natAbs∧x.natAbs<n):Cmb n ((v++(AW n W++tD p (n-1-p)))++[x]):=by
 obtain ⟨e,he,hxe⟩:=zw8 hx.1;generalize hm:x.natAbs=m at *;subst hxe;have hone:∀ {k:Nat},0<k→k+1<n→Sd n (tD p (n-1-p)) [e*(m:Int)] [e*(k:Int)]→Cmb n ((v++(AW n W++tD p (n-1-p)))++[e*(m:Int)]):=fun {k} k1 k2 hs=>by
  obtain ⟨V,v1,v2⟩:=zm5 he k1 k2 hW;refine ⟨v++[e*(k:Int)],V,p,hv.app (vld1 (by rw [abs_e he];omega)),v1,hp,?_⟩;unfold Sd at hs;have s1:Cn n (v++(AW n W++(tD p (n-1-p)++[e*(m:Int)]))) (v++(AW n W++([e*(k:Int)]++tD p (n-1-p)))):=(hs.pre _).pre _;have s2:Cn n (v++((AW n W++[e*(k:Int)])++tD p (n-1-p))) (v++(([e*(k:Int)]++AW n V)++tD p (n-1-p))):=(v2.post _).pre _;simp only [List.append_assoc] at s1 s2 ⊢;exact s1.trans s2
 have htwo:∀ {q:Nat} {U:List Int},q<n→Vld n U→Cn n (tD p (n-1-p)++[e*(m:Int)]) (AW n U++tD q (n-1-q))→Cmb n ((v++(AW n W++tD p (n-1-p)))++[e*(m:Int)]):=fun {q U} q1 u1 hs=>by
  refine ⟨v,W++U,q,hv,hW.app u1,q1,?_⟩;rw [zjk];have s1:=(hs.pre (AW n W)).pre v;simp only [List.append_assoc] at s1 ⊢;exact s1
 by_cases c1:m+1≤p
 ·refine hone (k:=m) hx.1 (by omega) (zes (by rw [abs_e he];omega) (zd3 _ (by omega)) fun y hy=>?_);have:=zgm hy;rw [abs_e he];exact .inr (by omega)
 by_cases c2:m=p
 ·subst c2;have hd:n-1-(m-1)=(n-1-m)+1:=by omega
  have et:tD (m-1) (n-1-(m-1))=tD m (n-1-m)++[-(m:Int)]:=by
   rw [hd,zfp,Nat.sub_add_cancel hx.1]
  rcases he with rfl|rfl
  ·refine htwo (q:=m-1) (U:=[(m:Int)]) (by omega) (vld1 (by omega)) ?_;rw [et,zg7,Int.one_mul];have e1:AL n (m:Int)=tD m (n-1-m)++([(m:Int),(m:Int)]++invW (tD m (n-1-m))):=by unfold AL;rw [Int.natAbs_natCast]
   rw [e1];have hT:Vld n (tD m (n-1-m)):=zd3 _ (by omega);have s1:Cn n (tD m (n-1-m)++([(m:Int),(m:Int)]++((invW (tD m (n-1-m))++tD m (n-1-m))++[-(m:Int)]))) (tD m (n-1-m)++([(m:Int),(m:Int)]++([]++[-(m:Int)]))):=(((Cn.inv2 hT).post _).pre _).pre _;have s2:Cn n (tD m (n-1-m)++([(m:Int)]++[(m:Int),-(m:Int)])) (tD m (n-1-m)++([(m:Int)]++[])):=((zic (by omega)).pre _).pre _;simp only [List.append_assoc,List.append_nil,List.nil_append,List.cons_append] at s1 s2 ⊢;exact (s1.trans s2).symm
  ·refine htwo (q:=m-1) (U:=[]) (by omega) (fun x hx=>by cases hx) ?_;rw [et,Int.neg_one_mul];exact .refl _
 by_cases c3:m=p+1
 ·subst c3;obtain ⟨d,hd⟩:∃ d,n-1-p=d+1:=⟨n-1-p-1,by omega⟩;have hd2:n-1-(p+1)=d:=by omega
  rcases he with rfl|rfl
  ·refine htwo (q:=p+1) (U:=[]) (by omega) (fun x hx=>by cases hx) ?_;rw [hd,hd2,zfp,Int.one_mul];have s1:Cn n (tD (p+1) d++[-((p+1:Nat):Int),((p+1:Nat):Int)]) (tD (p+1) d++[]):=(zib (by omega)).pre _;simp only [List.append_assoc,List.append_nil,List.cons_append,List.nil_append] at s1 ⊢;exact s1
  ·refine htwo (q:=p+1) (U:=[-((p+1:Nat):Int)]) (by omega) (vld1 (by omega)) ?_;rw [zg7];have e1:AL n (-((p+1:Nat):Int))=tD (p+1) (n-1-(p+1))++([-((p+1:Nat):Int),-((p+1:Nat):Int)]++invW (tD (p+1) (n-1-(p+1)))):=by
    unfold AL;rw [show (-((p+1:Nat):Int)).natAbs=p+1 by omega]
   rw [e1,hd2,hd,zfp,Int.neg_one_mul];have hT:Vld n (tD (p+1) d):=zd3 _ (by omega);have s1:Cn n (tD (p+1) d++([-((p+1:Nat):Int),-((p+1:Nat):Int)]++(invW (tD (p+1) d)++tD (p+1) d))) (tD (p+1) d++([-((p+1:Nat):Int),-((p+1:Nat):Int)]++[])):=((Cn.inv2 hT).pre _).pre _;simp only [List.append_assoc,List.append_nil,List.cons_append,List.nil_append] at s1 ⊢;exact s1.symm
 ·obtain ⟨k,rfl⟩:∃ k,m=k+1:=⟨m-1,by omega⟩;exact hone (k:=k) (by omega) (by omega) (zhc he (by omega) _ (by omega) (by omega))
theorem zmu:∀ (w u:List Int),Vld n w→Cmb n u→Cmb n (u++w)
 | [],u,_,h=>by rwa [List.append_nil]
 | x::w,u,hv,⟨v,W,p,h1,h2,h3,h4⟩=>by
  obtain ⟨v',W',p',g1,g2,g3,g4⟩:=zq2 h1 h2 h3 hv.head;have:=zmu w (u++[x]) hv.tail ⟨v',W',p',g1,g2,g3,(h4.post _).trans g4⟩
  rwa [List.append_assoc] at this
theorem comb (hn:0<n) {w:List Int} (h:Vld n w):Cmb n w:=by
 have:=zmu w [] h ⟨[],[],n-1,fun x hx=>(by cases hx),fun x hx=>(by cases hx),by omega,by
  rw [Nat.sub_self];exact .refl _⟩
 rwa [List.nil_append] at this
end
theorem zwn {P:Int→Prop} (hP:∀ x,P x→P (-x)) {g:List (List Int)} (h:∀ l,l∈g→∀ x,x∈l→P x) (s:Int):∀ l,l∈actS g s→∀ x,x∈l→P x:=by
 have hg:∀ k x,x∈g.getD k []→P x:=fun k x hx=>by
  by_cases hk:k<g.length
  ·rw [zar hk] at hx;exact h _ (List.getElem_mem hk) x hx
  ·rw [List.getD_eq_getElem?_getD,List.getElem?_eq_none (by omega)] at hx;cases hx
 have hi:∀ k x,x∈invW (g.getD k [])→P x:=fun k x hx=>by
  obtain ⟨y,hy,rfl⟩:=List.mem_map.1 (List.mem_reverse.1 hx);exact hP y (hg k y hy)
 intro l hl;unfold actS at hl;split at hl
 ·rcases List.mem_or_eq_of_mem_set hl with hl|rfl
  ·rcases List.mem_or_eq_of_mem_set hl with hl|rfl
   ·exact h l hl
   ·intro x hx;rcases List.mem_append.1 (zfc hx) with hx|hx
    ·exact (List.mem_append.1 hx).elim (hg _ x) (hg _ x)
    ·exact hi _ x hx
  ·exact hg _
 ·rcases List.mem_or_eq_of_mem_set hl with hl|rfl
  ·rcases List.mem_or_eq_of_mem_set hl with hl|rfl
   ·exact h l hl
   ·exact hg _
  ·intro x hx;rcases List.mem_append.1 (zfc hx) with hx|hx
   ·exact (List.mem_append.1 hx).elim (hi _ x) (hg _ x)
   ·exact hg _ x hx
theorem zm1 {P:Int→Prop} (hP:∀ x,P x→P (-x)):∀ (w:List Int) {g:List (List Int)},(∀ l,l∈g→∀ x,x∈l→P x)→∀ l,l∈actF w g→∀ x,x∈l→P x
 | [],_,h=>h
 | s::w,_,h=>zm1 hP w (zwn hP h s)
theorem zh1 {g:List (List Int)} {z:List Int} {k:Nat} (h:k<g.length):(g++[z]).getD k []=g.getD k []:=by
 rw [List.getD_eq_getElem?_getD,List.getD_eq_getElem?_getD,List.getElem?_append_left h]
theorem zsz {g:List (List Int)} {z:List Int} {k:Nat} (h:k=g.length):(g++[z]).getD k []=z:=by
 subst h;rw [List.getD_eq_getElem?_getD,List.getElem?_append_right (Nat.le_refl _),Nat.sub_self];rfl
theorem zwl {g:List (List Int)} {z:List Int} {x:Int} (hx:0<x.natAbs∧x.natAbs<g.length):actS (g++[z]) x=actS g x++[z]:=by
 unfold actS;rw [zh1 hx.2,zh1 (by omega)];have e:∀ (l:List (List Int)) (i:Nat) (a:List Int),i<l.length→(l++[z]).set i a=l.set i a++[z]:=fun l i a hi=>by
  rw [List.set_append,if_pos hi]
 split <;> rw [e _ _ _ (by omega),e _ _ _ (by rw [List.length_set];omega)]
theorem zm0:∀ {w:List Int} {g:List (List Int)} {z:List Int},Vld g.length w→actF w (g++[z])=actF w g++[z]
 | [],_,_,_=>rfl
 | x::w,g,z,h=>by
  show actF w (actS (g++[z]) x)=actF w (actS g x)++[z];rw [zwl h.head];exact zm0 (by rw [zat];exact h.tail)
theorem Cn.more {n:Nat} {u v:List Int} (h:Cn n u v):Cn (n+1) u v:=by
 induction h with
 | refl u=>exact .refl _
 | symm _ ih=>exact ih.symm
 | trans _ _ h1 h2=>exact h1.trans h2
 | undo a b i h=>exact .undo a b i (by omega)
 | far a b i j h1 h2 h3=>exact .far a b i j h1 h2 (by omega)
 | braid a b i h1 h2=>exact .braid a b i h1 (by omega)
theorem zgx {n k:Nat} (h:k<n):Gk (idG n) k=[((k+1:Nat):Int)]:=by
 show (idG n).getD k []=_;unfold idG;rw [List.getD_eq_getElem?_getD,List.getElem?_map,List.getElem?_range h];rfl
theorem zp1 {m k:Nat} (h:k<m):kl (m+1) [((k+1:Nat):Int)]=[((k+1:Nat):Int)]:=zp2 fun x hx=>by
 rw [List.mem_singleton.1 hx];omega
theorem faith:∀ (n:Nat) (u:List Int),Vld n u→actF u (idG n)=idG n→Cn n u []
 | 0,u,hv,_=>by
  cases u with
  | nil=>exact .refl _
  | cons x u=>have:=hv.head;omega
 | m+1,u,hv,hu=>by
  obtain ⟨v,W,p,h1,h2,h3,h4⟩:=comb (n:=m+1) (by omega) hv;rw [Nat.add_sub_cancel] at h1 h4;have hr:=zmc (m+1);have hA:actF (tD p (m-p)) (actF (AW (m+1) W) (actF v (idG (m+1))))=idG (m+1):=by
   rw [← zas,← zas];exact (zmz h4 (zby _) hr).symm.trans hu
  have eg:actF v (idG (m+1))=actF v (idG m)++[[((m+1:Nat):Int)]]:=by
   rw [zh0];exact zm0 (by rw [zby];exact h1)
  have lG:(actF v (idG m)).length=m:=by rw [zbg,zby]
  have lg:(actF v (idG (m+1))).length=m+1:=by rw [zbg,zby]
  have rg:RdG (actF v (idG (m+1))):=zd0 _ hr;have gt:Gk (actF v (idG (m+1))) m=[((m+1:Nat):Int)]:=by rw [eg];exact zsz lG.symm
  have gl:∀ k,k<m→Gk (actF v (idG (m+1))) k=Gk (actF v (idG m)) k:=fun k hk=>by rw [eg];exact zh1 (by omega)
  have hlet:∀ l,l∈actF v (idG m)→∀ x,x∈l→x.natAbs≠m+1:=zm1 (P:=fun x=>x.natAbs≠m+1) (fun x h=>by rw [Int.natAbs_neg];exact h) v (fun l hl x hx=>by
   obtain ⟨i,hi,rfl⟩:=List.mem_map.1 hl;have:=List.mem_range.1 hi;rw [List.mem_singleton.1 hx];omega)
  have klG:∀ k,k<m→kl (m+1) (Gk (actF v (idG m)) k)=Gk (actF v (idG m)) k:=fun k hk=>zp2 fun x hx=>by
   have hk':k<(actF v (idG m)).length:=by omega
   have hx:x∈(actF v (idG m)).getD k []:=hx;rw [zar hk'] at hx;exact hlet _ (List.getElem_mem hk') x hx
  -- the strand comes back,and the rest is trivial
  obtain ⟨C,c1,c2,_⟩:=W_act (n:=m+1) (b:=fun k=>Gk (actF v (idG m)) k) W (actF v (idG (m+1))) [] h2 lg rg (fun k hk=>by
   rw [gl k (by omega),klG k (by omega)];exact .refl _) (by rw [Nat.add_sub_cancel,gt];exact .refl _)
  rw [Nat.add_sub_cancel] at c1 c2;have lh:(actF (AW (m+1) W) (actF v (idG (m+1)))).length=m+1:=by rw [zbg,lg]
  obtain ⟨_,t2,_,_⟩:=zlh p (m-p) (actF (AW (m+1) W) (actF v (idG (m+1)))) (by omega);rw [hA,show p+(m-p)=m by omega,zgx h3] at t2;have hpm:p=m:=by
   by_cases c:p=m
   ·exact c
   ·exfalso
    have f1:=kl_fe (m+1) c1;rw [← t2,zp1 (show p<m by omega),zb7,zb7,zfa] at f1;have e:kl (m+1) [((m+1:Nat):Int)]=[]:=by
     show (if ((m+1:Nat):Int).natAbs=m+1 then [] else [((m+1:Nat):Int)])++[]=[]
     rw [if_pos (Int.natAbs_natCast _)];rfl
    rw [e,List.nil_append] at f1;have f2:=zdo (f1.trans (zcx _));have f2:[((p+1:Nat):Int)]=[]:=f2;cases f2
  subst hpm;rw [Nat.sub_self] at hA h4;have hA:actF (AW (p+1) W) (actF v (idG (p+1)))=idG (p+1):=hA;have hG:actF v (idG p)=idG p:=by
   refine zfk (by rw [lG,zby]) fun k hk=>?_;rw [lG] at hk;have f:=c2 k hk;rw [hA,zgx (show k<p+1 by omega),zp1 hk] at f;have f:=zdo f;have r1:redF (Gk (actF v (idG p)) k)=Gk (actF v (idG p)) k:=RdG.get (zd0 v (zmc p)) k;have e1:=zgx hk;show Gk (actF v (idG p)) k=Gk (idG p) k;rw [e1,← r1];exact f.symm
  have cv:Cn (p+1) v []:=(faith p v h1 hG).more;have eid:actF v (idG (p+1))=idG (p+1):=by rw [eg,hG,← zh0]
  -- the rounds
  rw [eid] at hA;obtain ⟨D,d1,_,d3⟩:=W_act (n:=p+1) (b:=fun k=>[((k+1:Nat):Int)]) W (idG (p+1)) [] h2 (zby _) hr (fun k hk=>by
   rw [Nat.add_sub_cancel] at hk;rw [zgx (show k<p+1 by omega),zp1 hk];exact .refl _) (by rw [Nat.add_sub_cancel,zgx (show p<p+1 by omega)];exact .refl _)
  rw [Nat.add_sub_cancel,hA,zgx (show p<p+1 by omega)] at d1;have hrev:Vld (p+1) W.reverse:=fun x hx=>h2 x (List.mem_reverse.1 hx);rw [zue hrev] at d3;have k1:=zwf d1.symm;have k2:Fe W.reverse []:=by
   have:=d3.symm.trans k1
   rwa [show kl (p+1) ([]:List Int)=[] from rfl,List.append_nil] at this
  have k3:=zxi k2;rw [List.reverse_reverse] at k3;have cw:=zwq h2 k3;have h5:Cn (p+1) (v++(AW (p+1) W++tD p 0)) ([]++([]++[])):=cv.app (cw.app (.refl _));exact h4.trans h5
theorem zxs {n:Nat} {u v:List Int} (hu:Vld n u) (hv:Vld n v) (h:actF u (idG n)=actF v (idG n)):Cn n u v:=by
 have h1:actF (u++invW v) (idG n)=idG n:=by
  rw [zas,h,← zas];exact zmz (Cn.inv1 hv) (zby n) (zmc n)
 have h2:=faith n _ (hu.app (zff hv)) h1;have h3:Cn n ((u++invW v)++v) ([]++v):=h2.post v;have h4:Cn n (u++(invW v++v)) (u++[]):=(Cn.inv2 hv).pre u;rw [List.append_assoc] at h3;rw [List.append_nil] at h4;exact h4.symm.trans h3
theorem znz:endsB (exClosed Try.prog ft (drD Try.prog ft 16 4) 22 18)=true:=by kernel_rfl
theorem awakeBC (w:World):Calls Try.prog 22 #[] w fun e w'=>e = .returned (.bool true)∧Stays w w':=closedTrue ftOk (zmr mix ftOk 16 4) znz w
theorem zjw:ZCtOk Try.prog 22 spTrue:=zot awakeBC
end Go.Proofs.Ytfffbioafhppiaa.Ev
namespace Go.Proofs.Ytfffbioafhppiaa
open Go.ChangeShapes Go.WideShapes Go.ChangeAt Go.RowKit
theorem zhw {W W':World} (h:Ev.Stays W W') (may:MemPlace→Prop):W.keptBut W' may:=by
 refine ⟨h.os,h.output,fun i hi=>?_⟩;have e:=h.block i hi;rw [e]
 cases hb:W.heap[i]? with
 | none=>simp
 | some o=>
  cases o <;> first|exact ⟨rfl,rfl,rfl,fun _ _=>rfl⟩|exact .inr ⟨rfl,rfl⟩|rfl
theorem zf5 {W W':World} (h:Ev.Stays W W') (a:Addr) (ha:a.block<W.heap.size):W'.frozen? a=W.frozen? a:=by
 unfold World.frozen?;rw [h.block _ ha]
section
variable {H:Type} {enc:TypeId×Value→H} {P:Program}
theorem zhm {f:Func} {s:ChangeSpec} {apart fresh handsOn again:Bool} {W W':World} {args:Array Value} {v:Value} {ds gs:List (DataW H)} {before pa pv:List MemPlace}
  (hW:DataW.Whole enc P f.params.toList s.vars apart W args.toList ds gs before)
  (hres:∀ (b:Nat) (sp:Nat→Bool) (hd:Bool),DataW.TrodAll enc P W' b sp hd f.resultTypes.toList (v.resultList f.resultTypes.size) (s.fn H (ds++gs)).results [])
  (hargs:∀ sp:Nat→Bool,(∀ p∈before,sp p.block=true)→DataW.TrodAll enc P W' 0 sp true f.params.toList args.toList (s.fn H (ds++gs)).args pa)
  (hvars:∀ sp:Nat→Bool,(∀ p∈before,sp p.block=true)→DataW.TrodVars enc P W' sp s.vars (s.fn H (ds++gs)).vars pv)
  (hps:before=pa++pv) (hst:Ev.Stays W W')
  (hok:∀ (j:Nat) (t:TypeId) (r:Value),f.resultTypes[j]? = some t→(v.resultList f.resultTypes.size)[j]? = some r→Value.okWide P W' .any 0 t r) :
  s.post enc P f apart fresh handsOn again W args v W':=by
 have hk:W.keptBut W' (· ∈ before):=zhw hst _;have hold:∀ p∈before,(fun b=>decide (b<W.heap.size)) p.block=true:=fun p hp=>by simpa using hW.lt p hp
 have hlt:=fun p hp=>hW.lt p hp;refine ⟨ds,gs,before,[],pa,pv,hW,hres _ _ _,hargs _ hold,hvars _ hold,World.keptBut_mono (fun p hp=>⟨hp,?_⟩) hk,fun _=>?_⟩
 ·rw [hps,List.mem_append] at hp;exact Or.inr hp
 ·obtain ⟨_,_,_,_,_,hz,hn⟩:=hW;refine ⟨hok,_,_,([]++pa)++pv,⟨[]++pa,pv,trodAll_append (hargs _ (fun _ _=>rfl)) (hres _ _ _),hvars _ (fun _ _=>rfl),rfl,?_,?_⟩,?_⟩
  ·intro b off hp;have hp2:MemPlace.cell b off∈before:=by rw [hps];simpa using hp
   rw [zf5 hst _ (hlt _ hp2)];exact hz b off hp2
  ·intro ha;have:=hn ha;rw [hps] at this;simpa using this
  ·intro p hp _;rw [hps];simpa using hp
end
end Go.Proofs.Ytfffbioafhppiaa
namespace Go.Proofs.Ytfffbioafhppiaa
open Go.ChangeShapes Go.WideShapes Go.ChangeAt Go.RowKit
section
variable {H:Type} {enc:TypeId×Value→H} {P:Program}
theorem zhd {W W':World} (h:Ev.Stays W W') {p:MemPlace} (hp:p.block<W.heap.size):W.sameAt W' p:=by
 cases p with
 | cell b off=>
  show W'.cell? _=W.cell? _;unfold World.cell?;rw [h.block b hp]
 | map b=>exact h.block b hp
theorem zg4 {W W':World} {base:Nat} {sp:Nat→Bool} {hd:Bool}:∀ {ts:List TypeId} {vs:List Value} {ds:List (DataW H)} {ps:List MemPlace},DataW.TrodAll enc P W base sp hd ts vs ds ps→(∀ p∈ps,W.sameAt W' p)→DataW.TrodAll enc P W' base sp hd ts vs ds ps
 | [],[],[],_,h,_=>h
 | _::_,_::_,_::_,_,⟨p,q,⟨n,h⟩,hs,e⟩,k=>⟨p,q,⟨n,DataW.trod_carry n _ _ _ h fun x hx=>k x (by rw [e];exact List.mem_append_left _ hx)⟩,zg4 hs fun x hx=>k x (by rw [e];exact List.mem_append_right _ hx),e⟩
 | [],[],_::_,_,h,_=>h.elim
 | [],_::_,_,_,h,_=>h.elim
 | _::_,[],_,_,h,_=>h.elim
 | _::_,_::_,[],_,h,_=>h.elim
theorem zso {f:Func} {s:ChangeSpec} {apart fresh handsOn again:Bool} {W W':World} {args:Array Value} {ds:List (DataW H)} {p:List MemPlace} {bt:TypeId} {T:TypeId→Prop} (K:Kids P T) (hz:∀ t e,T t→P.underlying t=some (.slice e)→0<P.cellsOf e)
  (hbt:P.underlying bt=some .bool) (hrt:f.resultTypes.toList=[bt]) (hsz:f.resultTypes.size=1) (hvs:s.vars=[]) (hfn:s.fn H (ds++[])={ results:=[.lit (.bool true)],args:=ds })
  (hpt:∀ t∈f.params.toList,T t)
  (hW:DataW.Whole enc P f.params.toList s.vars apart W args.toList ds [] (p++[])) (hA:DataW.TrodAll enc P W 0 (fun _=>true) true f.params.toList args.toList ds p) (hst:Ev.Stays W W')
  (hok:∀ (j:Nat) (t:TypeId) (r:Value),f.resultTypes[j]? = some t→((Value.bool true).resultList f.resultTypes.size)[j]? = some r→Value.okWide P W' .any 0 t r) :
  s.post enc P f apart fresh handsOn again W args (.bool true) W':=by
 have hlt:=fun q hq=>hW.lt q hq;refine zhm (pa:=p) (pv:=[]) hW (fun b sp hd=>?_) (fun sp hsp=>?_) (fun sp _=>?_) rfl hst hok
 ·rw [hrt,hfn,hsz];exact trodAll_mk1 (shut_bool hbt _)
 ·rw [hfn];exact DataW.TrodAll.respare K hz hpt (zg4 hA fun q hq=>zhd hst (hlt q (by simpa using hq))) fun q hq=>hsp q (by simpa using hq)
 ·rw [hfn,hvs];rfl
end
namespace Ev
inductive UFit:Sh→U→Prop where
 | int (k:IntKind) (n:Int) (h:(Lit.int k n).wf=true):UFit (.int k) (.i n)
 | bool (b:Bool):UFit .bool (.b b)
 | str (s:ByteArray) (h:s.size≤maxLen):UFit .str (.s s)
 | list (sh:List Sh) (l:List (List U)) (hl:l.length≤maxLen) (hr:∀ j,j<l.length→(l.getD j []).length=sh.length) (h:∀ (j f:Nat) (s:Sh),j<l.length→sh[f]? = some s→UFit s ((l.getD j []).getD f (.i 0))):UFit (.list sh) (.l l)
structure RowFit (sh:List Sh) (r:List U):Prop where
 len:r.length=sh.length
 fit:∀ (f:Nat) (s:Sh),sh[f]? = some s→UFit s (r.getD f (.i 0))
theorem RowFit.nil:RowFit [] []:=⟨rfl,fun f s h=>by simp at h⟩
theorem RowFit.append {sh1 sh2:List Sh} {r1 r2:List U} (h1:RowFit sh1 r1) (h2:RowFit sh2 r2):RowFit (sh1++sh2) (r1++r2):=by
 refine ⟨by simp [h1.len,h2.len],fun f s h=>?_⟩;rw [List.getD_eq_getElem?_getD]
 by_cases hf:f<sh1.length
 ·rw [List.getElem?_append_left hf] at h;rw [List.getElem?_append_left (by rw [h1.len];exact hf),← List.getD_eq_getElem?_getD];exact h1.fit f s h
 ·rw [List.getElem?_append_right (by omega)] at h;rw [List.getElem?_append_right (by rw [h1.len];omega),h1.len,← List.getD_eq_getElem?_getD];exact h2.fit _ s h
theorem zhj:∀ {sh1 sh2:List Sh} {r1 r2:List U},r1.length=sh1.length→recE (sh1++sh2) (r1++r2)=recE sh1 r1++recE sh2 r2
 | [],sh2,r1,r2,h=>by
  have:r1=[]:=List.eq_nil_of_length_eq_zero h;subst this;rfl
 | s::sh1,sh2,[],r2,h=>by cases h
 | s::sh1,sh2,u::r1,r2,h=>by
  show s.ev u::recE (sh1++sh2) (r1++r2)=s.ev u::(recE sh1 r1++recE sh2 r2);rw [zhj (by simpa using h)]
def shFs (P:Program) (f:TypeId→Option (List Sh)):List Field→Nat→Option (List Sh)
 | [],_=>some []
 | fd::r,off=>match f fd.type with
  | some sh=>if fd.offset=off∧P.cellsOf fd.type=sh.length then match shFs P f r (off+sh.length) with
   | some l=>some (sh++l)
   | none=>none else none
  | none=>none
def shB (P:Program):Nat→TypeId→Option (List Sh)
 | 0,_=>none
 | k+1,t=>match P.underlying t with
  | some (.int κ)=>some [.int κ]
  | some .bool=>some [.bool]
  | some .string=>some [.str]
  | some (.slice e)=>match shB P k e with
   | some sh=>if P.cellsOf e=sh.length∧0<sh.length then some [.list sh] else none
   | none=>none
  | some (.struct fs)=>match shFs P (shB P k) fs.toList 0 with
   | some sh=>if P.cellsOf t=sh.length then some sh else none
   | none=>none
  | some (.array m e)=>match shB P k e with
   | some sh=>if P.cellsOf e=sh.length∧P.cellsOf t=m*sh.length then some (List.replicate m sh).flatten else none
   | none=>none
  | _=>none
noncomputable def fzAll (W:World):Nat→Option (Array Value):=fun k=>match W.heap[k]? with
 | some (.cells a _ _)=>some a
 | _=>none
noncomputable def gAll (W:World):G:=⟨fun _=>none,fzAll W,fun _ _ _=>none⟩
theorem fzAll_at (W:World):FzAt (gAll W) W:=⟨fun k a hk=>(by
 have hk:fzAll W k=some a:=hk;unfold fzAll at hk;split at hk
 ·rename_i a' ty fz h;injection hk with hk;subst hk
  exact ⟨ty,fz,h⟩
 ·cases hk),fun _ _ _=>rfl⟩
theorem zpy {Q:Nat→List U→Prop}:∀ (n:Nat),(∀ i,i<n→∃ r,Q i r)→∃ l:List (List U),l.length=n∧∀ i,i<n→Q i (l.getD i [])
 | 0,_=>⟨[],rfl,fun i hi=>absurd hi (by omega)⟩
 | n+1,h=>by
  obtain ⟨l,h1,h2⟩:=zpy n fun i hi=>h i (by omega);obtain ⟨r,hr⟩:=h n (by omega);refine ⟨l++[r],by simp [h1],fun i hi=>?_⟩;rw [List.getD_eq_getElem?_getD]
  by_cases e:i<n
  ·rw [List.getElem?_append_left (by omega),← List.getD_eq_getElem?_getD];exact h2 i e
  ·have:i=n:=by omega
   subst this;rw [List.getElem?_append_right (by omega),h1,Nat.sub_self];exact hr
variable {H:Type} {enc:TypeId×Value→H} {P:Program} {W:World} {base:Nat} {sp:Nat→Bool} {hd:Bool}
def OpenAt (enc:TypeId×Value→H) (P:Program) (W:World) (base:Nat) (sp:Nat→Bool) (hd:Bool) (k:Nat):Prop:=∀ (t:TypeId) (sh:List Sh) (fuel:Nat) (cs:List Value) (x:DataW H×List MemPlace),shB P k t=some sh→DataW.trod enc P W base sp hd fuel t cs=some x→∃ r,RowFit sh r∧∀ γ:G,γ.fz=fzAll W→ECL γ (recE sh r) cs
theorem zf8 {k:Nat} (ih:OpenAt enc P W base sp hd k) {cs:List Value} {n:Nat}:∀ (fs:List Field) (off:Nat) (sh:List Sh),shFs P (shB P k) fs off=some sh→(∀ f,f∈fs→∃ y,DataW.trod enc P W base sp hd n f.type ((cs.drop f.offset).take (P.cellsOf f.type))=some y)→∃ r,RowFit sh r∧∀ γ:G,γ.fz=fzAll W→ECL γ (recE sh r) ((cs.drop off).take sh.length)
 | [],off,sh,h,_=>by
  injection (show some []=some sh from h) with h;subst h
  exact ⟨[],.nil,fun γ _=>by
   rw [show ([]:List Sh).length=0 from rfl,List.take_zero];exact ECL.nil γ⟩
 | fd::fs,off,sh,h,hall=>by
  unfold shFs at h;split at h
  case h_2=>cases h
  rename_i s1 hs1;split at h
  case isFalse=>cases h
  rename_i hc;split at h
  case h_2=>cases h
  rename_i s2 hs2;injection h with h;subst h
  obtain ⟨y,hy⟩:=hall fd (by simp);rw [hc.1,hc.2] at hy;obtain ⟨r1,h1,h2⟩:=ih fd.type s1 n _ y hs1 hy;obtain ⟨r2,h3,h4⟩:=zf8 ih fs (off+s1.length) s2 hs2 fun f hf=>hall f (by simp [hf]);refine ⟨r1++r2,h1.append h3,fun γ hγ=>?_⟩;rw [zhj h1.len,List.length_append];have e:(cs.drop off).take (s1.length+s2.length)=(cs.drop off).take s1.length++(cs.drop (off+s1.length)).take s2.length:=by
   rw [List.take_add,List.drop_drop]
  rw [e];exact (h2 γ hγ).append (h4 γ hγ)
theorem zg1 {k:Nat} (ih:OpenAt enc P W base sp hd k) {cs:List Value} {n:Nat} {e:TypeId} {sh:List Sh} (hsh:shB P k e=some sh) (hc:P.cellsOf e=sh.length):∀ (m i0:Nat),(∀ i,i<m→∃ y,DataW.trod enc P W base sp hd n e ((cs.drop ((i0+i)*P.cellsOf e)).take (P.cellsOf e))=some y)→∃ r,RowFit (List.replicate m sh).flatten r∧∀ γ:G,γ.fz=fzAll W→ECL γ (recE (List.replicate m sh).flatten r) ((cs.drop (i0*sh.length)).take (m*sh.length))
 | 0,i0,_=>⟨[],.nil,fun γ _=>by
   rw [Nat.zero_mul,List.take_zero];exact ECL.nil γ⟩
 | m+1,i0,h=>by
  obtain ⟨y,hy⟩:=h 0 (by omega);rw [hc,Nat.add_zero] at hy;obtain ⟨r1,h1,h2⟩:=ih e sh n _ y hsh hy;obtain ⟨r2,h3,h4⟩:=zg1 ih hsh hc m (i0+1) fun i hi=>by
   have:=h (i+1) (by omega)
   rwa [show i0+(i+1)=i0+1+i by omega] at this
  refine ⟨r1++r2,by rw [List.replicate_succ,List.flatten_cons];exact h1.append h3,fun γ hγ=>?_⟩;rw [List.replicate_succ,List.flatten_cons,zhj h1.len,Nat.succ_mul,Nat.add_comm,List.take_add,List.drop_drop];have:=h4 γ hγ;rw [Nat.succ_mul] at this;exact (h2 γ hγ).append this
theorem zgt:∀ k,OpenAt enc P W base sp hd k
 | 0=>fun t sh fuel cs x h=>by cases h
 | k+1=>fun t sh fuel cs x h ht=>by
  have ih:OpenAt enc P W base sp hd k:=zgt k;unfold shB at h;split at h
  ·rename_i κ hu;injection h with h;subst h
   obtain ⟨n,rfl,_,hw⟩:=DataW.trod_int hu ht;refine ⟨[.i n],⟨rfl,fun f s hf=>?_⟩,fun γ _=>.cons (.v _) (.nil _)⟩;obtain ⟨rfl,rfl⟩:=one_f hf;exact .int κ n hw
  ·rename_i hu;injection h with h;subst h
   obtain ⟨b,rfl,_⟩:=DataW.trod_bool hu ht;refine ⟨[.b b],⟨rfl,fun f s hf=>?_⟩,fun γ _=>.cons (.v _) (.nil _)⟩;obtain ⟨rfl,rfl⟩:=one_f hf;exact .bool b
  ·rename_i hu;injection h with h;subst h
   obtain ⟨s,rfl,_,hs⟩:=DataW.trod_string hu ht;refine ⟨[.s s],⟨rfl,fun f s hf=>?_⟩,fun γ _=>.cons (.v _) (.nil _)⟩;obtain ⟨rfl,rfl⟩:=one_f hf;exact .str _ hs
  ·rename_i e hu;split at h
   case h_2=>cases h
   rename_i sh' hsh;split at h
   case isFalse=>cases h
   rename_i hc;injection h with h;subst h
   rcases DataW.trod_slice hu ht with ⟨rfl,_⟩|⟨a,len,cap,elems,rest,n,_,rfl,_,hb,hlc,hcm,hel,hall,_⟩
   ·refine ⟨[.l []],⟨rfl,fun f s hf=>?_⟩,fun γ _=>.cons ?_ (.nil _)⟩
    ·obtain ⟨rfl,rfl⟩:=one_f hf;exact .list sh' [] (Nat.zero_le _) (fun j hj=>by simp at hj) (fun j f s hj=>by simp at hj)
    ·exact UOk.ec (s:=.list sh') (.empty sh' (.l []) none 0 rfl (Nat.zero_le _) fun _=>rfl)
   ·have each:∀ i,i<len→∃ r,RowFit sh' r∧∃ ys,W.cells? base (a.add (i*sh'.length)) sh'.length=some ys∧∀ γ:G,γ.fz=fzAll W→ECL γ (recE sh' r) ys:=fun i hi=>by
     have h1:=hall i hi;rw [hc.1] at h1;have h2:i<elems.length:=by omega
     rw [List.getElem?_eq_getElem h2] at h1;obtain ⟨ys,h3,h4⟩:=Option.bind_eq_some_iff.1 h1;obtain ⟨r,h5,h6⟩:=ih e sh' n ys _ hsh h4;exact ⟨r,h5,ys,h3,h6⟩
    obtain ⟨l,hl,hQ⟩:=zpy len each;refine ⟨[.l l],⟨rfl,fun f s hf=>?_⟩,fun γ hγ=>.cons ?_ (.nil _)⟩
    ·obtain ⟨rfl,rfl⟩:=one_f hf;exact .list sh' l (by omega) (fun j hj=>(hQ j (by omega)).1.len) fun j f s hj hf=>(hQ j (by omega)).1.fit f s hf
    ·refine UOk.ec (s:=.list sh') ?_
     by_cases h0:len=0
     ·have:l=[]:=List.eq_nil_of_length_eq_zero (by omega);subst this;subst h0;exact .empty sh' (.l []) (some a) cap rfl hcm fun e=>by cases e
     ·obtain ⟨b,off,spot⟩:=a;have hblk:spot=none∧∃ arr ty fz,W.heap[b]? = some (.cells arr ty fz):=by
       obtain ⟨h1,ys,h2,h3⟩:=hQ 0 (by omega);obtain ⟨_,h4,h5⟩:=World.cells?_some h2;have h6:=h5 0 hc.2;rw [List.getElem?_eq_getElem (show 0<ys.length by omega)] at h6;have h6:W.cell? ⟨b,off,spot⟩=some ys[0]:=by
        have e:((⟨b,off,spot⟩:Addr).add (0*sh'.length)).add 0=⟨b,off,spot⟩:=by simp [Addr.add]
        rw [e] at h6;exact h6
       unfold World.cell? at h6;split at h6
       ·rename_i arr ty fz hb';split at h6
        ·cases h6
        ·rename_i hs;exact ⟨by cases spot <;> simp_all,arr,ty,fz,hb'⟩
       ·cases h6
      obtain ⟨rfl,arr,ty,fz,hblk⟩:=hblk;have cellAt:∀ i f,i<len→f<sh'.length→∃ y,W.cell? ⟨b,off+(i*sh'.length+f),none⟩=some y∧∀ s,sh'[f]? = some s→UOk γ.fz s ((l.getD i []).getD f (.i 0)) y:=fun i f hi hf=>by
       obtain ⟨h1,ys,h2,h3⟩:=hQ i hi;obtain ⟨_,h4,h5⟩:=World.cells?_some h2;have h6:=h5 f hf;have h7:f<ys.length:=by omega
       rw [List.getElem?_eq_getElem h7] at h6;refine ⟨ys[f],?_,fun s hs=>?_⟩
       ·have e:((⟨b,off,none⟩:Addr).add (i*sh'.length)).add f=⟨b,off+(i*sh'.length+f),none⟩:=by
         unfold Addr.add;split <;> split <;> simp_all [Nat.add_assoc]
        rw [← h6,e]
       ·have h8:=zeb (s:=s) (f:=f) (sh:=sh') (l.getD i []) hs;have h9:=(h3 γ hγ).2 f _ ys[f] h8 (List.getElem?_eq_getElem h7);exact UOk.of_ec h9
      have getA:∀ i f,i<len→f<sh'.length→∃ y,arr[off+(i*sh'.length+f)]? = some y∧∀ s,sh'[f]? = some s→UOk γ.fz s ((l.getD i []).getD f (.i 0)) y:=fun i f hi hf=>by
       obtain ⟨y,h1,h2⟩:=cellAt i f hi hf;refine ⟨y,?_,h2⟩;unfold World.cell? at h1;simpa [hblk] using h1
      have hk:γ.fz b=some arr:=by
       rw [hγ];unfold fzAll;rw [hblk]
      subst hl;refine .list sh' (.l l) b off cap arr hk hlc hcm ?_ fun j f s x hj hf hx=>?_
      ·show off+l.length*sh'.length≤arr.size;obtain ⟨y,h1,_⟩:=getA (l.length-1) (sh'.length-1) (by omega) (by omega);have:=(Array.getElem?_eq_some_iff.1 h1).1;have e:l.length*sh'.length=(l.length-1)*sh'.length+sh'.length:=by rw [← Nat.succ_mul];congr 1;omega
       omega
      ·obtain ⟨y,h1,h2⟩:=getA j f hj (List.getElem?_eq_some_iff.1 hf).1;rw [h1] at hx;injection hx with hx;subst hx;exact h2 s hf
  ·rename_i fs hu;split at h
   case h_2=>cases h
   rename_i sh' hsh;split at h
   case isFalse=>cases h
   rename_i hc;injection h with h;subst h
   obtain ⟨xs,n,_,_,hl,hlen,hf⟩:=DataW.trod_struct hu ht;obtain ⟨r,h1,h2⟩:=zf8 (cs:=cs) (n:=n) ih fs.toList 0 sh' hsh fun f hm=>by
    obtain ⟨i,hi,rfl⟩:=List.getElem_of_mem hm;have hi2:i<fs.size:=by simpa using hi
    have:=hf i fs.toList[i] (by simp [hi2]);rw [List.getElem?_eq_getElem (by omega)] at this;exact ⟨_,this⟩
   refine ⟨r,h1,fun γ hγ=>?_⟩;have:=h2 γ hγ
   rwa [List.drop_zero,List.take_of_length_le (by omega)] at this
  ·rename_i m e hu;split at h
   case h_2=>cases h
   rename_i sh' hsh;split at h
   case isFalse=>cases h
   rename_i hc;injection h with h;subst h
   obtain ⟨xs,n,_,_,hl,hlen,hf⟩:=DataW.trod_array hu ht;obtain ⟨r,h1,h2⟩:=zg1 (cs:=cs) (n:=n) ih hsh hc.1 m 0 fun i hi=>by
    have:=hf i hi;rw [List.getElem?_eq_getElem (by omega)] at this;rw [Nat.zero_add];exact ⟨_,this⟩
   refine ⟨r,h1,fun γ hγ=>?_⟩;have:=h2 γ hγ
   rwa [Nat.zero_mul,List.drop_zero,List.take_of_length_le (by omega)] at this
  ·cases h
theorem open_lst {t e:TypeId} {v:Value} {d:DataW H} {ps:List MemPlace} {k b0:Nat} {rc:Reach} {sh:List Sh} (hu:P.underlying t=some (.slice e)) (hs:shB P k t=some [.list sh]) (hv:Value.okWide P W rc b0 t v) (h:DataW.Trod enc P W base sp hd t v d ps):∃ l,UFit (.list sh) (.l l)∧EC (gAll W) (.lst (mkC sh l)) v:=by
 obtain ⟨a,len,cap,rfl⟩:=okWide_slice hu hv;obtain ⟨fuel,hf⟩:=h;obtain ⟨r,h1,h2⟩:=zgt k t _ fuel _ _ hs hf;have h3:=h2 (gAll W) rfl;obtain ⟨h4,h5⟩:=h1
 match r,h4 with
 | [u],_=>
  have h6:=h5 0 _ rfl;have h6:UFit (.list sh) u:=h6
  cases h6 with
  | list _ l hl hr hh=>
   refine ⟨l,.list sh l hl hr hh,?_⟩;exact h3.2 0 _ _ rfl rfl
end Ev
end Go.Proofs.Ytfffbioafhppiaa
namespace Go.Proofs.Ytfffbioafhppiaa.Ev
noncomputable def ctBa:Tr ZCC:=((((Tr.nil.put 45 (some (dC spRChk))).put 24 (some (dC spPSam))).put 25 (some (dC spRSfo))).put 23 (some (dC spAct))).put 22 (some (dC spTrue))
theorem zwc:ZCtsOk Try.prog ctBa:=(((((ZCtsOk.nil _).add rfl zoz).add rfl zo0).add rfl zov).add rfl zsh).add rfl zjw
namespace ABa
noncomputable def RUN (s:ES):ZF:=RZ 5 ctBa (fun _=>false) [] [] false s
theorem in_t (n:Int) (a b:List Int):RUN (st0 5 [iv n,il a,il b])=(bc (chk n a != 0) (bc (chk n a != 0) (.done (bv true) [] 0) (bc (decide (ActOk n a (4000:Int))) (bc (decide (ActOk n b (4000:Int))) (bc (!Option.isSome (actG (4000:Int).toNat a (idG n.toNat))) (.done (bv true) [] 0) (bc (!Option.isSome (actG (4000:Int).toNat b (idG n.toNat))) (.done (bv true) [] 0) (bc (samE n a b==0) (bc (bc (decide (Shrt (gR (Option.getD (actG (4000:Int).toNat a (idG n.toNat)) [])))) true false) (bc (samB n a b==sfB (gR (Option.getD (actG (4000:Int).toNat a (idG n.toNat)) [])) (gR (Option.getD (actG (4000:Int).toNat b (idG n.toNat)) []))) (.done (bv true) [] 0) (.done (bv false) [] 0)) .bad) (.done (bv false) [] 0)))) .bad) .bad)) (bc (chk n b != 0) (.done (bv true) [] 0) (bc (decide (ActOk n a (4000:Int))) (bc (decide (ActOk n b (4000:Int))) (bc (!Option.isSome (actG (4000:Int).toNat a (idG n.toNat))) (.done (bv true) [] 0) (bc (!Option.isSome (actG (4000:Int).toNat b (idG n.toNat))) (.done (bv true) [] 0) (bc (samE n a b==0) (bc (bc (decide (Shrt (gR (Option.getD (actG (4000:Int).toNat a (idG n.toNat)) [])))) true false) (bc (samB n a b==sfB (gR (Option.getD (actG (4000:Int).toNat a (idG n.toNat)) [])) (gR (Option.getD (actG (4000:Int).toNat b (idG n.toNat)) []))) (.done (bv true) [] 0) (.done (bv false) [] 0)) .bad) (.done (bv false) [] 0)))) .bad) .bad))):=by kernel_rfl
theorem zqe (l:List Int):facR [U.l (l.map fun x=>[U.i x])]=l:=by
 show List.map _ (List.map _ l)=l;rw [List.map_map];exact List.map_id _
theorem zmy {m:Nat} (hm:m≤4000):∀ {w:List Int} {g h:List (List Int)},(∀ l,l∈g→l.length≤4000)→actG m w g=some h→∀ l,l∈h→l.length≤4000
 | [],g,h,hg,e=>by injection e with e;subst e;exact hg
 | x::w,g,h,hg,e=>by
  unfold actG at e;split at e
  ·cases e
  ·exact zmy (w:=w) (g:=actS g x) hm (fun l hl=>by have:=zke hl;omega) e
theorem zw5 {g:List (List Int)} (h1:g.length≤5000) (h2:∀ l,l∈g→l.length≤4000):Shrt (gR g):=⟨by rw [zf4];exact h1,fun r hr=>by
 unfold gR at hr;obtain ⟨l,hl,rfl⟩:=List.mem_map.1 hr;rw [zqe];have:=h2 l hl;omega⟩
theorem sfB_g:∀ (g k:List (List Int)),sfB (gR g) (gR k)=true↔g=k
 | [],[]=>⟨fun _=>rfl,fun _=>rfl⟩
 | [],q::k=>⟨fun h=>(by cases h),fun h=>(by cases h)⟩
 | p::g,[]=>⟨fun h=>(by cases h),fun h=>(by cases h)⟩
 | p::g,q::k=>by
  show bc (eqLI (facR [U.l (p.map fun x=>[U.i x])]) (facR [U.l (q.map fun x=>[U.i x])])) (sfB (gR g) (gR k)) false=true↔_;rw [zqe,zqe];constructor
  ·intro h
   cases hq:eqLI p q with
   | false=>rw [hq] at h;cases h
   | true=>
    rw [hq,bc_t] at h;rw [zaj.1 hq,(sfB_g g k).1 h]
  ·intro h;injection h with h1 h2
   subst h1;rw [zaj.2 rfl,bc_t];exact (sfB_g g k).2 h2
theorem ends (n:Int) (a b:List Int):EndZ 5 ctBa false (st0 5 [iv n,il a,il b]) (bv true) [] 0:=by
 have h:=in_t n a b
 by_cases za:¬ chk n a=0
 ·have e:(chk n a != 0)=true:=by simp [za]
  rw [e,bc_t,bc_t] at h;exact .done h
 have za:chk n a=0:=Decidable.of_not_not za
 by_cases zb:¬ chk n b=0
 ·have e:(chk n b != 0)=true:=by simp [zb]
  rw [za,show ((0:Int) != 0)=false from rfl,bc_f,e,bc_t] at h
  exact .done h
 have zb:chk n b=0:=Decidable.of_not_not zb;obtain ⟨⟨w0,w1,w2,w3⟩,w4⟩:=ze6 za;obtain ⟨⟨_,_,v2,v3⟩,v4⟩:=ze6 zb;obtain ⟨n,rfl⟩:=Int.eq_ofNat_of_zero_le (show 0≤n by omega);have w3:Vld n a:=w3;have v3:Vld n b:=v3;have hn:n≤12:=by omega
 have a1:ActOk n a 4000:=⟨by omega,by omega,w3,by omega,by omega,by omega⟩;have a2:ActOk n b 4000:=⟨by omega,by omega,v3,by omega,by omega,by omega⟩;have hE:samE n a b=0:=by unfold samE;rw [za,zb];rfl
 have e0:Int.toNat (n:Int)=n:=rfl;have e4:Int.toNat (4000:Int)=4000:=rfl;rw [za,zb,show ((0:Int) != 0)=false from rfl,bc_f,bc_f,dt a1,dt a2,hE,e0,e4] at h
 cases g1:actG 4000 a (idG n) with
 | none=>rw [g1] at h;exact .done h
 | some g=>
  cases g2:actG 4000 b (idG n) with
  | none=>rw [g1,g2] at h;exact .done h
  | some k=>
   have hs:Shrt (gR g):=zw5 (by
    rw [zcl g1,zbg,zby];omega) (zmy (by omega) (RAct.idG_small hn).2 g1)
   have key:samB n a b=sfB (gR g) (gR k):=by
    have h1:samB n a b=decide (nfW n a=nfW n b):=by
     unfold samB;rw [hE,show ((0:Int) != 0)=false from rfl,bc_f];rfl
    rw [h1];apply Bool.eq_iff_iff.2;rw [decide_eq_true_iff,sfB_g];constructor
    ·intro e;exact zwo (zmv w3 v3 e) g1 g2
    ·intro e;subst e;exact zsq w3 v3 (zxs w3 v3 ((zcl g1).symm.trans (zcl g2)))
   rw [g1,g2] at h;have h:RUN (st0 5 [iv n,il a,il b])=(bc (bc (decide (Shrt (gR g))) true false) (bc (samB n a b==sfB (gR g) (gR k)) (.done (bv true) [] 0) (.done (bv false) [] 0)) .bad):=h;rw [dt hs,key,beq_self_eq_true] at h;exact .done h
end ABa
theorem braidsAct_calls {γ:G} {w:World} {us:Array Value} (n:Int) (wn:(Lit.int .i64 n).wf=true) (a:List (List U)) (wa:UFit (.list [.int .i64]) (.l a)) (b:List (List U)) (wb:UFit (.list [.int .i64]) (.l b)) (hax:ECL γ [iv n,.lst (mkC [.int .i64] a),.lst (mkC [.int .i64] b)] us.toList) (hN:∀ i,γ i=none) (hfz:FzAt γ w):Calls Try.prog 5 us w fun e w'=>e = .returned (.bool true)∧Stays w w':=
 zxf ((ABa.ends n _ _).calls zwc (by kernel_rfl) hax hN hfz)
end Go.Proofs.Ytfffbioafhppiaa.Ev
namespace Go.Proofs.Ytfffbioafhppiaa
open Go.ChangeShapes Go.WideShapes Go.ChangeAt Go.RowKit Go.ChangeMaps
theorem knobBraidsAct:ownKnob Try.prog.godebug=none:=by kernel_rfl
theorem kidsBraidsAct:Kids Try.prog (· < Try.prog.types.size):=kids_rows (by kernel_rfl) (by kernel_rfl)
theorem fullBraidsAct:∀ t e,t<Try.prog.types.size→Try.prog.underlying t=some (.slice e)→0<Try.prog.cellsOf e:=slices_full_of Try.prog (by kernel_rfl)
set_option maxRecDepth 100000 in
theorem liftedBraidsAct (os:Os) (started:os.Started) (H:Type) (enc:TypeId×Value→H) :
  ReturnsInHanded {} Try.checked os 5 .any (Rows.braidsActSpec.pre6 enc Try.prog Try.f5 Rows.braidsActRow.domain false) (Rows.braidsActSpec.post enc Try.prog Try.f5 false true false false):=by
 refine returnsInHanded_of_change (C:=Try.checked) knobBraidsAct started (by kernel_rfl) Try.func5
  (ChangeSpec.witness6 (enc:=enc) (C:=Try.checked) false ⟨#[],#[.int .i64 0,.slice none 0 0,.slice none 0 0],[]⟩ 8 (by kernel_rfl) (by kernel_rfl) (by kernel_rfl) (by kernel_rfl)) ?_
 intro W base args ds gs before hval0 hW hcnd _;have hval:∀ (j:Nat) t v,Try.f5.params[j]? = some t→args[j]? = some v→Value.okWide Try.prog W .any base t v:=hval0;have hW':=hW;obtain ⟨p,q,hA0,hV,rfl,hfz,hnd⟩:=hW;have hA:DataW.TrodAll enc Try.prog W 0 (fun _=>true) true Try.f5.params.toList args.toList ds p:=hA0;have hAk:=hA;rw [Try.params5] at hA hval;obtain ⟨rfl,rfl⟩:=trodVars_none hV;obtain ⟨v0,v1,v2,d0,d1,d2,p0,p1,p2,rfl,rfl,rfl,h0,h1,h2⟩:=trodAll_three hA
 obtain ⟨n,rfl,rfl,rfl,wn⟩:=open_int Try.underlying3 (hval 0 3 v0 rfl rfl) h0;obtain ⟨a,wa,ea⟩:=Ev.open_lst (k:=8) Try.underlying22 (by kernel_rfl:Ev.shB Try.prog 8 22=some [.list [.int .i64]]) (hval 1 22 v1 rfl rfl) h1;obtain ⟨b,wb,eb⟩:=Ev.open_lst (k:=8) Try.underlying22 (by kernel_rfl:Ev.shB Try.prog 8 22=some [.list [.int .i64]]) (hval 2 22 v2 rfl rfl) h2;clear hA0 hval0;refine (Ev.braidsAct_calls n wn a wa b wb (γ:=Ev.gAll W) (.cons (.v _) (.cons ea (.cons eb (.nil _)))) (fun i=>rfl) (Ev.fzAll_at W)).mono fun e W' ⟨he,hg⟩=>?_;subst he
 exact ⟨_,rfl,zso kidsBraidsAct fullBraidsAct Try.underlying4 (by kernel_rfl) (by kernel_rfl) rfl rfl (by rw [Try.params5];decide) hW' hAk hg (ok_one (by kernel_rfl) rfl (okWide_bool_mk Try.underlying4 _))⟩
theorem braidsAct_holds:Rows.BraidsActSaid:=
 OpenClaim.holds_of_wide 5 Try.f5 rfl rfl rfl rfl rfl rfl rfl ⟨rfl,rfl,rfl,rfl,rfl⟩ rfl rfl rfl rfl rfl (by kernel_rfl) Try.func5 (by kernel_rfl)
  (of_decide_eq_true (by kernel_rfl)) (by unfold Func.isWrapper;first|(rw [if_pos (by decide +kernel)];kernel_rfl)|(rw [if_neg (by decide +kernel)];exact ⟨rfl,rfl⟩))
  (fun os started H enc _=>liftedBraidsAct os started H enc)
end Go.Proofs.Ytfffbioafhppiaa
