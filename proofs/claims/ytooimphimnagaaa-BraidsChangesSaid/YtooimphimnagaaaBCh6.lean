/- BraidsChanges returns true, for all arguments, in every world in which it is called, and nothing that was there turns. -/
import Derived.ProofKit
import Derived.ReadAgain
import Derived.OpenShut
import Derived.Test.YtooimphimnagaaaRows
import Derived.WalkKit
import Derived.Test.YtooimphimnagaaaBCh5
set_option linter.unusedSimpArgs false
set_option linter.unusedVariables false
namespace Go.Proofs.Ytooimphimnagaaa.Ev
open Go.Proofs
namespace LApa
noncomputable def RUN (s:ES):ZF:=RZ 91 .nil (fun _=>false) [] [] false s
theorem in_t (x y:Int):RUN (st0 91 [iv x,iv y])=(bc (decide ((1:Int) < IntKind.wrap IntKind.i64 ((if IntKind.wrap IntKind.i64 ((0:Int) - x) > x then IntKind.wrap IntKind.i64 ((0:Int) - x) else x) - if IntKind.wrap IntKind.i64 ((0:Int) - y) > y then IntKind.wrap IntKind.i64 ((0:Int) - y) else y))) (.done (EV.v (Value.bool true)) [] 0) (.done (EV.v (Value.bool (decide (IntKind.wrap IntKind.i64 ((if IntKind.wrap IntKind.i64 ((0:Int) - x) > x then IntKind.wrap IntKind.i64 ((0:Int) - x) else x) - if IntKind.wrap IntKind.i64 ((0:Int) - y) > y then IntKind.wrap IntKind.i64 ((0:Int) - y) else y) < (-1:Int))))) [] 0)):=by kernel_rfl
theorem ends {x y:Int} (hx:-1000≤x∧x≤1000) (hy:-1000≤y∧y≤1000):EndZ 91 .nil false (st0 91 [iv x,iv y]) (bv (apa x y)) [] 0:=by
 have h:=in_t x y;have ab:∀ x:Int,-1000≤x∧x≤1000→(if IntKind.wrap IntKind.i64 (0 - x) > x then IntKind.wrap IntKind.i64 (0 - x) else x)=(x.natAbs:Int):=fun x hx=>by
  rw [wrap_in (0 - x) (by omega) (by omega)];split <;> omega
 rw [ab x hx,ab y hy,wrap_in _ (by omega) (by omega)] at h;unfold apa
 by_cases h1:(1:Int) < (x.natAbs:Int) - (y.natAbs:Int)
 ·rw [dt h1,bc_t] at h;rw [dt (show y.natAbs+2≤x.natAbs by omega),Bool.or_true];exact .done h
 ·rw [df h1,bc_f] at h;rw [df (show ¬ y.natAbs+2≤x.natAbs by omega),Bool.or_false];have e:decide (((x.natAbs:Int) - (y.natAbs:Int)) < -1)=decide (x.natAbs+2≤y.natAbs):=decide_eq_decide.2 (by omega);rw [e] at h;exact .done h
end LApa
noncomputable def spApa:ZCT:=fun ax=>match ax with
 | [.v (.int .i64 x),.v (.int .i64 y)]=>some ⟨decide ((-1000≤x∧x≤1000) ∧ -1000≤y∧y≤1000),bv (apa x y),[],0⟩
 | _=>none
theorem spApa_ok:ZCtOk Try.prog 91 spApa:=fun γ w us ax r hs hc hax hN hfz=>by
 unfold spApa at hs;split at hs
 case h_2=>cases hs
 rename_i x y;obtain ⟨rfl⟩:=Option.some.inj hs;have hc_0:decide ((-1000≤x∧x≤1000) ∧ -1000≤y∧y≤1000)=true:=hc;have hc:=of_decide_eq_true hc_0;exact EndZ.calls (LApa.ends hc.1 hc.2) (.nil _) (by kernel_rfl) hax hN hfz
namespace LChg
noncomputable def ct:Tr ZCC:=Tr.nil.put 91 (some (dC spApa))
theorem ct_ok:ZCtsOk Try.prog ct:=(ZCtsOk.nil _).add rfl spApa_ok
noncomputable def RUN (s:ES):ZF:=RZs 43 ct [(atS 0 43 6,[[(1,none),(5,none),(7,none),(8,none),(9,none)]]),(atS 0 43 11,[[(1,none),(5,none),(7,none),(8,none)]]),(atS 0 43 15,[[(1,none),(7,none),(9,none)]]),(atS 0 43 7,[[(1,none),(7,none),(9,none)]])] [] false s

noncomputable def sA (w q:List Int) (a i k y z:Int):NS:=⟨[⟨43,175,[(1,(EV.lst (SyC.ints IntKind.i64 (w)))),(5,(EV.ptr 0 0)),(7,iv a),(8,iv i),(9,EV.slO 1 1 q.length true)],[.it (.code (nav [1,1,1,1,1,0] (bodyOf Try.f43))),.it (.code (nav [1,1,1,1,1,1] (bodyOf Try.f43)))],[],Option.none⟩],[(0,(EK.cells 55 [(EV.v (Value.int IntKind.u8 (k))),(EV.v (Value.int IntKind.u8 (y))),(EV.v (Value.int IntKind.u8 (z)))] true)),(1,EK.seq 3 (.ints .i64 q) true)],2⟩
noncomputable def sB (w:List Int) (a i k y z:Int):NS:=⟨[⟨43,175,[(1,(EV.lst (SyC.ints IntKind.i64 (w)))),(5,(EV.ptr 0 0)),(7,iv a),(8,iv i)],[.it (.code (nav [1,1,1,1,1,0,1,0,1,0,0] (bodyOf Try.f43))),.it (.code (nav [1,1,1,1,1,0,1,0,1,0,1] (bodyOf Try.f43))),.it (.inBlock 0),.it (.code (nav [1,1,1,1,1,1] (bodyOf Try.f43)))],[],Option.none⟩],[(0,EK.cells 55 [.v (.int .u8 k),.v (.int .u8 y),.v (.int .u8 z)] true)],1⟩
noncomputable def sC (w q:List Int) (a:Int):NS:=⟨[⟨43,175,[(1,(EV.lst (SyC.ints IntKind.i64 (w)))),(7,iv a),(9,EV.slO 0 1 q.length true)],[.it (.code (nav [1,1,1,1,1,0,1,0,1,1,1,0] (bodyOf Try.f43))),.it (.inBlock 0),.it (.code (nav [1,1,1,1,1,1] (bodyOf Try.f43)))],[],Option.none⟩],[(0,EK.seq 3 (.ints .i64 q) true)],1⟩
noncomputable def sD (w q:List Int) (a:Int):NS:=⟨[⟨43,175,[(1,(EV.lst (SyC.ints IntKind.i64 (w)))),(7,iv a),(9,EV.slO 0 1 q.length true)],[.it (.code (nav [1,1,1,1,1,0,1,0,1,1,1,1] (bodyOf Try.f43))),.it (.inBlock 0),.it (.code (nav [1,1,1,1,1,1] (bodyOf Try.f43)))],[],Option.none⟩],[(0,EK.seq 3 (.ints .i64 q) true)],1⟩
theorem in_t (n:Int) (w:List Int) (k a i:Int):RUN (st0 43 [iv n,il w,.agg [.v (.int .u8 k),.v (.int .u8 a),.v (.int .u8 i)]])=(bc (decide (n < (2:Int))) (.done (EV.lst (SyC.ints IntKind.i64 (w))) [] 0) (bc (bc (bnot (IntKind.wrap IntKind.i64 (Int.ofNat (List.length w)+(1:Int)) == (0:Int))) true false) (bc (bc (bnot (IntKind.wrap IntKind.i64 (n - (1:Int)) == (0:Int))) true false) (bc (bc (Nat.ble ((0:Nat)+List.length w) (65536:Nat)) true false) (.at (sA (w) ([] ++ w) (Int.tmod (IntKind.wrap IntKind.i64 a) (IntKind.wrap IntKind.i64 (Int.ofNat (List.length w)+(1:Int)))) (IntKind.wrap IntKind.i64 ((1:Int)+Int.tmod (IntKind.wrap IntKind.i64 i) (IntKind.wrap IntKind.i64 (n - (1:Int))))) (k) (a) (i))) .bad) .bad) .bad)):=by kernel_rfl
theorem a_t (w q:List Int) (a i k y z:Int):RUN (stOf (sA w q a i k y z))=(bc (Int.tmod k (4:Int) == (0:Int)) (.at (sB (w) (a) (i) (k) (y) (z))) (bc (Int.tmod k (4:Int) == (1:Int)) (.at (sB (w) (a) (i) (k) (y) (z))) (bc (Int.tmod k (4:Int) == (2:Int)) (.at (sC (w) (q) (a))) (.at (sD (w) (q) (a)))))):=by kernel_rfl
theorem b_t (w:List Int) (a i k y z:Int):RUN (stOf (sB w a i k y z))=(bc (Int.tmod k (4:Int) == (1:Int)) (bc (bc (bc (bc (bc (decide ((0:Int)≤a)) (decide (a≤Int.ofNat (List.length w))) false) true false) (bc (bc (Nat.ble ((0:Nat)+List.length (List.drop (Int.toNat (0:Int)) (List.take (Int.toNat a) w))) (65536:Nat)) true false) (bc (bc (Nat.beq (List.length ([] ++ List.drop (Int.toNat (0:Int)) (List.take (Int.toNat a) w))) (List.length ([] ++ List.drop (Int.toNat (0:Int)) (List.take (Int.toNat a) w)))) (bc (Nat.ble (List.length ([] ++ List.drop (Int.toNat (0:Int)) (List.take (Int.toNat a) w))+List.length (List.map (fun r=>U.int (List.headD r (U.i (0:Int)))) [[U.i (IntKind.wrap IntKind.i64 ((0:Int) - i))],[U.i (IntKind.wrap IntKind.i64 ((0:Int) - IntKind.wrap IntKind.i64 ((0:Int) - i)))]])) (65536:Nat)) true false) false) (bc (bc (bc (decide ((0:Int)≤a)) (bc (decide (a≤Int.ofNat (List.length w))) (decide (Int.ofNat (List.length w)≤Int.ofNat (List.length w))) false) false) true false) (bc (bc (Nat.beq (List.length ([] ++ List.drop (Int.toNat (0:Int)) (List.take (Int.toNat a) w) ++ List.map (fun r=>U.int (List.headD r (U.i (0:Int)))) [[U.i (IntKind.wrap IntKind.i64 ((0:Int) - i))],[U.i (IntKind.wrap IntKind.i64 ((0:Int) - IntKind.wrap IntKind.i64 ((0:Int) - i)))]])) (List.length ([] ++ List.drop (Int.toNat (0:Int)) (List.take (Int.toNat a) w) ++ List.map (fun r=>U.int (List.headD r (U.i (0:Int)))) [[U.i (IntKind.wrap IntKind.i64 ((0:Int) - i))],[U.i (IntKind.wrap IntKind.i64 ((0:Int) - IntKind.wrap IntKind.i64 ((0:Int) - i)))]]))) (bc (Nat.ble (List.length ([] ++ List.drop (Int.toNat (0:Int)) (List.take (Int.toNat a) w) ++ List.map (fun r=>U.int (List.headD r (U.i (0:Int)))) [[U.i (IntKind.wrap IntKind.i64 ((0:Int) - i))],[U.i (IntKind.wrap IntKind.i64 ((0:Int) - IntKind.wrap IntKind.i64 ((0:Int) - i)))]])+List.length (List.drop (Int.toNat a) (List.take (Int.toNat (Int.ofNat (List.length w))) w))) (65536:Nat)) true false) false) true false) false) false) false) false) true false) (bc (Nat.beq (List.length ([] ++ List.drop (Int.toNat (0:Int)) (List.take (Int.toNat a) w) ++ List.map (fun r=>U.int (List.headD r (U.i (0:Int)))) [[U.i (IntKind.wrap IntKind.i64 ((0:Int) - i))],[U.i (IntKind.wrap IntKind.i64 ((0:Int) - IntKind.wrap IntKind.i64 ((0:Int) - i)))]] ++ List.drop (Int.toNat a) (List.take (Int.toNat (Int.ofNat (List.length w))) w))) (List.length ([] ++ List.drop (Int.toNat (0:Int)) (List.take (Int.toNat a) w) ++ List.map (fun r=>U.int (List.headD r (U.i (0:Int)))) [[U.i (IntKind.wrap IntKind.i64 ((0:Int) - i))],[U.i (IntKind.wrap IntKind.i64 ((0:Int) - IntKind.wrap IntKind.i64 ((0:Int) - i)))]] ++ List.drop (Int.toNat a) (List.take (Int.toNat (Int.ofNat (List.length w))) w)))) (.done (EV.lst (SyC.ints IntKind.i64 ([] ++ List.drop (Int.toNat (0:Int)) (List.take (Int.toNat a) w) ++ List.map (fun r=>U.int (List.headD r (U.i (0:Int)))) [[U.i (IntKind.wrap IntKind.i64 ((0:Int) - i))],[U.i (IntKind.wrap IntKind.i64 ((0:Int) - IntKind.wrap IntKind.i64 ((0:Int) - i)))]] ++ List.drop (Int.toNat a) (List.take (Int.toNat (Int.ofNat (List.length w))) w)))) [] 0) .bad) .bad) (bc (bc (bc (bc (bc (decide ((0:Int)≤a)) (decide (a≤Int.ofNat (List.length w))) false) true false) (bc (bc (Nat.ble ((0:Nat)+List.length (List.drop (Int.toNat (0:Int)) (List.take (Int.toNat a) w))) (65536:Nat)) true false) (bc (bc (Nat.beq (List.length ([] ++ List.drop (Int.toNat (0:Int)) (List.take (Int.toNat a) w))) (List.length ([] ++ List.drop (Int.toNat (0:Int)) (List.take (Int.toNat a) w)))) (bc (Nat.ble (List.length ([] ++ List.drop (Int.toNat (0:Int)) (List.take (Int.toNat a) w))+List.length (List.map (fun r=>U.int (List.headD r (U.i (0:Int)))) [[U.i i],[U.i (IntKind.wrap IntKind.i64 ((0:Int) - i))]])) (65536:Nat)) true false) false) (bc (bc (bc (decide ((0:Int)≤a)) (bc (decide (a≤Int.ofNat (List.length w))) (decide (Int.ofNat (List.length w)≤Int.ofNat (List.length w))) false) false) true false) (bc (bc (Nat.beq (List.length ([] ++ List.drop (Int.toNat (0:Int)) (List.take (Int.toNat a) w) ++ List.map (fun r=>U.int (List.headD r (U.i (0:Int)))) [[U.i i],[U.i (IntKind.wrap IntKind.i64 ((0:Int) - i))]])) (List.length ([] ++ List.drop (Int.toNat (0:Int)) (List.take (Int.toNat a) w) ++ List.map (fun r=>U.int (List.headD r (U.i (0:Int)))) [[U.i i],[U.i (IntKind.wrap IntKind.i64 ((0:Int) - i))]]))) (bc (Nat.ble (List.length ([] ++ List.drop (Int.toNat (0:Int)) (List.take (Int.toNat a) w) ++ List.map (fun r=>U.int (List.headD r (U.i (0:Int)))) [[U.i i],[U.i (IntKind.wrap IntKind.i64 ((0:Int) - i))]])+List.length (List.drop (Int.toNat a) (List.take (Int.toNat (Int.ofNat (List.length w))) w))) (65536:Nat)) true false) false) true false) false) false) false) false) true false) (bc (Nat.beq (List.length ([] ++ List.drop (Int.toNat (0:Int)) (List.take (Int.toNat a) w) ++ List.map (fun r=>U.int (List.headD r (U.i (0:Int)))) [[U.i i],[U.i (IntKind.wrap IntKind.i64 ((0:Int) - i))]] ++ List.drop (Int.toNat a) (List.take (Int.toNat (Int.ofNat (List.length w))) w))) (List.length ([] ++ List.drop (Int.toNat (0:Int)) (List.take (Int.toNat a) w) ++ List.map (fun r=>U.int (List.headD r (U.i (0:Int)))) [[U.i i],[U.i (IntKind.wrap IntKind.i64 ((0:Int) - i))]] ++ List.drop (Int.toNat a) (List.take (Int.toNat (Int.ofNat (List.length w))) w)))) (.done (EV.lst (SyC.ints IntKind.i64 ([] ++ List.drop (Int.toNat (0:Int)) (List.take (Int.toNat a) w) ++ List.map (fun r=>U.int (List.headD r (U.i (0:Int)))) [[U.i i],[U.i (IntKind.wrap IntKind.i64 ((0:Int) - i))]] ++ List.drop (Int.toNat a) (List.take (Int.toNat (Int.ofNat (List.length w))) w)))) [] 0) .bad) .bad)):=by kernel_rfl
theorem c_t (w q:List Int) (a:Int):RUN (stOf (sC w q a))=(bc (decide (IntKind.wrap IntKind.i64 (a+(1:Int)) < Int.ofNat (List.length w))) (bc (bc (bc (eqB (decide (IntKind.wrap IntKind.i64 (a+(1:Int)) < Int.ofNat (List.length w))) true) (bc (bc (bc (decide ((0:Int)≤a)) (Nat.blt (Int.toNat a) (List.length w)) false) true false) (bc (bc (Nat.blt (Int.toNat a) (List.length w)) true false) (bc (bc (bc (decide ((0:Int)≤IntKind.wrap IntKind.i64 (a+(1:Int)))) (Nat.blt (Int.toNat (IntKind.wrap IntKind.i64 (a+(1:Int)))) (List.length w)) false) true false) (bc (bc (Nat.blt (Int.toNat (IntKind.wrap IntKind.i64 (a+(1:Int)))) (List.length w)) true false) (bc (bc (decide (((-1000:Int)≤List.getD w (Int.toNat a) (0:Int)∧List.getD w (Int.toNat a) (0:Int)≤(1000:Int))∧(-1000:Int)≤List.getD w (Int.toNat (IntKind.wrap IntKind.i64 (a+(1:Int)))) (0:Int)∧List.getD w (Int.toNat (IntKind.wrap IntKind.i64 (a+(1:Int)))) (0:Int)≤(1000:Int))) true false) true false) false) false) false) false) false) true false) (bc (apa (List.getD w (Int.toNat a) (0:Int)) (List.getD w (Int.toNat (IntKind.wrap IntKind.i64 (a+(1:Int)))) (0:Int))) (bc (bc (bc (bc (bc (decide ((0:Int)≤IntKind.wrap IntKind.i64 (a+(1:Int)))) (Nat.blt (Int.toNat (IntKind.wrap IntKind.i64 (a+(1:Int)))) (List.length w)) false) true false) (bc (bc (Nat.blt (Int.toNat (IntKind.wrap IntKind.i64 (a+(1:Int)))) (List.length w)) true false) (bc (bc (bc (decide ((0:Int)≤a)) (Nat.blt (Int.toNat a) (List.length w)) false) true false) (bc (bc (Nat.blt (Int.toNat a) (List.length w)) true false) (bc (bc (bc (decide ((0:Int)≤a)) (Nat.blt (Int.toNat a) (List.length q)) false) true false) (bc (Nat.blt (Int.toNat a) (List.length q)) (bc (bc (bc (decide ((0:Int)≤IntKind.wrap IntKind.i64 (a+(1:Int)))) (Nat.blt (Int.toNat (IntKind.wrap IntKind.i64 (a+(1:Int)))) (List.length q)) false) true false) (bc (Nat.blt (Int.toNat (IntKind.wrap IntKind.i64 (a+(1:Int)))) (List.length (List.set q (Int.toNat a) (List.getD w (Int.toNat (IntKind.wrap IntKind.i64 (a+(1:Int)))) (0:Int))))) true false) false) false) false) false) false) false) false) true false) (bc (Nat.beq (List.length q) (List.length (List.set (List.set q (Int.toNat a) (List.getD w (Int.toNat (IntKind.wrap IntKind.i64 (a+(1:Int)))) (0:Int))) (Int.toNat (IntKind.wrap IntKind.i64 (a+(1:Int)))) (List.getD w (Int.toNat a) (0:Int))))) (.done (EV.lst (SyC.ints IntKind.i64 (List.set (List.set q (Int.toNat a) (List.getD w (Int.toNat (IntKind.wrap IntKind.i64 (a+(1:Int)))) (0:Int))) (Int.toNat (IntKind.wrap IntKind.i64 (a+(1:Int)))) (List.getD w (Int.toNat a) (0:Int))))) [] 0) .bad) .bad) (bc (Nat.beq (List.length q) (List.length q)) (.done (EV.lst (SyC.ints IntKind.i64 (q))) [] 0) .bad)) .bad) (bc (bc (bc (eqB (decide (IntKind.wrap IntKind.i64 (a+(1:Int)) < Int.ofNat (List.length w))) false) true false) true false) (bc (Nat.beq (List.length q) (List.length q)) (.done (EV.lst (SyC.ints IntKind.i64 (q))) [] 0) .bad) .bad)):=by kernel_rfl
theorem d_t (w q:List Int) (a:Int):RUN (stOf (sD w q a))=(bc (decide (IntKind.wrap IntKind.i64 (a+(2:Int)) < Int.ofNat (List.length w))) (bc (List.getD w (Int.toNat a) (0:Int) == List.getD w (Int.toNat (IntKind.wrap IntKind.i64 (a+(2:Int)))) (0:Int)) (bc (List.getD w (Int.toNat (IntKind.wrap IntKind.i64 (a+(1:Int)))) (0:Int) == IntKind.wrap IntKind.i64 (List.getD w (Int.toNat a) (0:Int)+(1:Int))) (bc (decide ((0:Int) < List.getD w (Int.toNat a) (0:Int))) (bc (bc (bc (eqB (decide (IntKind.wrap IntKind.i64 (a+(2:Int)) < Int.ofNat (List.length w))) true) (bc (bc (bc (decide ((0:Int)≤a)) (Nat.blt (Int.toNat a) (List.length w)) false) true false) (bc (bc (Nat.blt (Int.toNat a) (List.length w)) true false) (bc (bc (bc (decide ((0:Int)≤IntKind.wrap IntKind.i64 (a+(2:Int)))) (Nat.blt (Int.toNat (IntKind.wrap IntKind.i64 (a+(2:Int)))) (List.length w)) false) true false) (bc (bc (Nat.blt (Int.toNat (IntKind.wrap IntKind.i64 (a+(2:Int)))) (List.length w)) true false) (bc (eqB (List.getD w (Int.toNat a) (0:Int) == List.getD w (Int.toNat (IntKind.wrap IntKind.i64 (a+(2:Int)))) (0:Int)) true) (bc (bc (bc (decide ((0:Int)≤IntKind.wrap IntKind.i64 (a+(1:Int)))) (Nat.blt (Int.toNat (IntKind.wrap IntKind.i64 (a+(1:Int)))) (List.length w)) false) true false) (bc (bc (Nat.blt (Int.toNat (IntKind.wrap IntKind.i64 (a+(1:Int)))) (List.length w)) true false) (bc (bc (bc (decide ((0:Int)≤a)) (Nat.blt (Int.toNat a) (List.length w)) false) true false) (bc (bc (Nat.blt (Int.toNat a) (List.length w)) true false) (bc (eqB (List.getD w (Int.toNat (IntKind.wrap IntKind.i64 (a+(1:Int)))) (0:Int) == IntKind.wrap IntKind.i64 (List.getD w (Int.toNat a) (0:Int)+(1:Int))) true) (bc (bc (bc (decide ((0:Int)≤a)) (Nat.blt (Int.toNat a) (List.length w)) false) true false) (bc (bc (Nat.blt (Int.toNat a) (List.length w)) true false) (bc (eqB (decide ((0:Int) < List.getD w (Int.toNat a) (0:Int))) true) (bc (bc (bc (decide ((0:Int)≤IntKind.wrap IntKind.i64 (a+(1:Int)))) (Nat.blt (Int.toNat (IntKind.wrap IntKind.i64 (a+(1:Int)))) (List.length w)) false) true false) (bc (bc (Nat.blt (Int.toNat (IntKind.wrap IntKind.i64 (a+(1:Int)))) (List.length w)) true false) true false) false) false) false) false) false) false) false) false) false) false) false) false) false) false) false) true false) (bc (decide ((0:Int) < List.getD w (Int.toNat (IntKind.wrap IntKind.i64 (a+(1:Int)))) (0:Int))) (bc (bc (bc (bc (bc (decide ((0:Int)≤IntKind.wrap IntKind.i64 (a+(1:Int)))) (Nat.blt (Int.toNat (IntKind.wrap IntKind.i64 (a+(1:Int)))) (List.length w)) false) true false) (bc (bc (Nat.blt (Int.toNat (IntKind.wrap IntKind.i64 (a+(1:Int)))) (List.length w)) true false) (bc (bc (bc (decide ((0:Int)≤a)) (Nat.blt (Int.toNat a) (List.length w)) false) true false) (bc (bc (Nat.blt (Int.toNat a) (List.length w)) true false) (bc (bc (bc (decide ((0:Int)≤IntKind.wrap IntKind.i64 (a+(1:Int)))) (Nat.blt (Int.toNat (IntKind.wrap IntKind.i64 (a+(1:Int)))) (List.length w)) false) true false) (bc (bc (Nat.blt (Int.toNat (IntKind.wrap IntKind.i64 (a+(1:Int)))) (List.length w)) true false) (bc (bc (bc (decide ((0:Int)≤a)) (Nat.blt (Int.toNat a) (List.length q)) false) true false) (bc (Nat.blt (Int.toNat a) (List.length q)) (bc (bc (bc (decide ((0:Int)≤IntKind.wrap IntKind.i64 (a+(1:Int)))) (Nat.blt (Int.toNat (IntKind.wrap IntKind.i64 (a+(1:Int)))) (List.length q)) false) true false) (bc (Nat.blt (Int.toNat (IntKind.wrap IntKind.i64 (a+(1:Int)))) (List.length (List.set q (Int.toNat a) (List.getD w (Int.toNat (IntKind.wrap IntKind.i64 (a+(1:Int)))) (0:Int))))) (bc (bc (bc (decide ((0:Int)≤IntKind.wrap IntKind.i64 (a+(2:Int)))) (Nat.blt (Int.toNat (IntKind.wrap IntKind.i64 (a+(2:Int)))) (List.length q)) false) true false) (bc (Nat.blt (Int.toNat (IntKind.wrap IntKind.i64 (a+(2:Int)))) (List.length (List.set (List.set q (Int.toNat a) (List.getD w (Int.toNat (IntKind.wrap IntKind.i64 (a+(1:Int)))) (0:Int))) (Int.toNat (IntKind.wrap IntKind.i64 (a+(1:Int)))) (List.getD w (Int.toNat a) (0:Int))))) true false) false) false) false) false) false) false) false) false) false) false) false) true false) (bc (Nat.beq (List.length q) (List.length (List.set (List.set (List.set q (Int.toNat a) (List.getD w (Int.toNat (IntKind.wrap IntKind.i64 (a+(1:Int)))) (0:Int))) (Int.toNat (IntKind.wrap IntKind.i64 (a+(1:Int)))) (List.getD w (Int.toNat a) (0:Int))) (Int.toNat (IntKind.wrap IntKind.i64 (a+(2:Int)))) (List.getD w (Int.toNat (IntKind.wrap IntKind.i64 (a+(1:Int)))) (0:Int))))) (.done (EV.lst (SyC.ints IntKind.i64 (List.set (List.set (List.set q (Int.toNat a) (List.getD w (Int.toNat (IntKind.wrap IntKind.i64 (a+(1:Int)))) (0:Int))) (Int.toNat (IntKind.wrap IntKind.i64 (a+(1:Int)))) (List.getD w (Int.toNat a) (0:Int))) (Int.toNat (IntKind.wrap IntKind.i64 (a+(2:Int)))) (List.getD w (Int.toNat (IntKind.wrap IntKind.i64 (a+(1:Int)))) (0:Int))))) [] 0) .bad) .bad) (bc (Nat.beq (List.length q) (List.length q)) (.done (EV.lst (SyC.ints IntKind.i64 (q))) [] 0) .bad)) .bad) (bc (bc (bc (eqB (decide (IntKind.wrap IntKind.i64 (a+(2:Int)) < Int.ofNat (List.length w))) true) (bc (bc (bc (decide ((0:Int)≤a)) (Nat.blt (Int.toNat a) (List.length w)) false) true false) (bc (bc (Nat.blt (Int.toNat a) (List.length w)) true false) (bc (bc (bc (decide ((0:Int)≤IntKind.wrap IntKind.i64 (a+(2:Int)))) (Nat.blt (Int.toNat (IntKind.wrap IntKind.i64 (a+(2:Int)))) (List.length w)) false) true false) (bc (bc (Nat.blt (Int.toNat (IntKind.wrap IntKind.i64 (a+(2:Int)))) (List.length w)) true false) (bc (eqB (List.getD w (Int.toNat a) (0:Int) == List.getD w (Int.toNat (IntKind.wrap IntKind.i64 (a+(2:Int)))) (0:Int)) true) (bc (bc (bc (decide ((0:Int)≤IntKind.wrap IntKind.i64 (a+(1:Int)))) (Nat.blt (Int.toNat (IntKind.wrap IntKind.i64 (a+(1:Int)))) (List.length w)) false) true false) (bc (bc (Nat.blt (Int.toNat (IntKind.wrap IntKind.i64 (a+(1:Int)))) (List.length w)) true false) (bc (bc (bc (decide ((0:Int)≤a)) (Nat.blt (Int.toNat a) (List.length w)) false) true false) (bc (bc (Nat.blt (Int.toNat a) (List.length w)) true false) (bc (eqB (List.getD w (Int.toNat (IntKind.wrap IntKind.i64 (a+(1:Int)))) (0:Int) == IntKind.wrap IntKind.i64 (List.getD w (Int.toNat a) (0:Int)+(1:Int))) true) (bc (bc (bc (decide ((0:Int)≤a)) (Nat.blt (Int.toNat a) (List.length w)) false) true false) (bc (bc (Nat.blt (Int.toNat a) (List.length w)) true false) (bc (eqB (decide ((0:Int) < List.getD w (Int.toNat a) (0:Int))) false) true false) false) false) false) false) false) false) false) false) false) false) false) false) false) true false) (bc (Nat.beq (List.length q) (List.length q)) (.done (EV.lst (SyC.ints IntKind.i64 (q))) [] 0) .bad) .bad)) (bc (List.getD w (Int.toNat (IntKind.wrap IntKind.i64 (a+(1:Int)))) (0:Int) == IntKind.wrap IntKind.i64 (List.getD w (Int.toNat a) (0:Int) - (1:Int))) (bc (decide ((0:Int) < List.getD w (Int.toNat a) (0:Int))) (bc (bc (bc (eqB (decide (IntKind.wrap IntKind.i64 (a+(2:Int)) < Int.ofNat (List.length w))) true) (bc (bc (bc (decide ((0:Int)≤a)) (Nat.blt (Int.toNat a) (List.length w)) false) true false) (bc (bc (Nat.blt (Int.toNat a) (List.length w)) true false) (bc (bc (bc (decide ((0:Int)≤IntKind.wrap IntKind.i64 (a+(2:Int)))) (Nat.blt (Int.toNat (IntKind.wrap IntKind.i64 (a+(2:Int)))) (List.length w)) false) true false) (bc (bc (Nat.blt (Int.toNat (IntKind.wrap IntKind.i64 (a+(2:Int)))) (List.length w)) true false) (bc (eqB (List.getD w (Int.toNat a) (0:Int) == List.getD w (Int.toNat (IntKind.wrap IntKind.i64 (a+(2:Int)))) (0:Int)) true) (bc (bc (bc (decide ((0:Int)≤IntKind.wrap IntKind.i64 (a+(1:Int)))) (Nat.blt (Int.toNat (IntKind.wrap IntKind.i64 (a+(1:Int)))) (List.length w)) false) true false) (bc (bc (Nat.blt (Int.toNat (IntKind.wrap IntKind.i64 (a+(1:Int)))) (List.length w)) true false) (bc (bc (bc (decide ((0:Int)≤a)) (Nat.blt (Int.toNat a) (List.length w)) false) true false) (bc (bc (Nat.blt (Int.toNat a) (List.length w)) true false) (bc (eqB (List.getD w (Int.toNat (IntKind.wrap IntKind.i64 (a+(1:Int)))) (0:Int) == IntKind.wrap IntKind.i64 (List.getD w (Int.toNat a) (0:Int)+(1:Int))) false) (bc (bc (bc (decide ((0:Int)≤IntKind.wrap IntKind.i64 (a+(1:Int)))) (Nat.blt (Int.toNat (IntKind.wrap IntKind.i64 (a+(1:Int)))) (List.length w)) false) true false) (bc (bc (Nat.blt (Int.toNat (IntKind.wrap IntKind.i64 (a+(1:Int)))) (List.length w)) true false) (bc (bc (bc (decide ((0:Int)≤a)) (Nat.blt (Int.toNat a) (List.length w)) false) true false) (bc (bc (Nat.blt (Int.toNat a) (List.length w)) true false) (bc (eqB (List.getD w (Int.toNat (IntKind.wrap IntKind.i64 (a+(1:Int)))) (0:Int) == IntKind.wrap IntKind.i64 (List.getD w (Int.toNat a) (0:Int) - (1:Int))) true) (bc (bc (bc (decide ((0:Int)≤a)) (Nat.blt (Int.toNat a) (List.length w)) false) true false) (bc (bc (Nat.blt (Int.toNat a) (List.length w)) true false) (bc (eqB (decide ((0:Int) < List.getD w (Int.toNat a) (0:Int))) true) (bc (bc (bc (decide ((0:Int)≤IntKind.wrap IntKind.i64 (a+(1:Int)))) (Nat.blt (Int.toNat (IntKind.wrap IntKind.i64 (a+(1:Int)))) (List.length w)) false) true false) (bc (bc (Nat.blt (Int.toNat (IntKind.wrap IntKind.i64 (a+(1:Int)))) (List.length w)) true false) true false) false) false) false) false) false) false) false) false) false) false) false) false) false) false) false) false) false) false) false) false) true false) (bc (decide ((0:Int) < List.getD w (Int.toNat (IntKind.wrap IntKind.i64 (a+(1:Int)))) (0:Int))) (bc (bc (bc (bc (bc (decide ((0:Int)≤IntKind.wrap IntKind.i64 (a+(1:Int)))) (Nat.blt (Int.toNat (IntKind.wrap IntKind.i64 (a+(1:Int)))) (List.length w)) false) true false) (bc (bc (Nat.blt (Int.toNat (IntKind.wrap IntKind.i64 (a+(1:Int)))) (List.length w)) true false) (bc (bc (bc (decide ((0:Int)≤a)) (Nat.blt (Int.toNat a) (List.length w)) false) true false) (bc (bc (Nat.blt (Int.toNat a) (List.length w)) true false) (bc (bc (bc (decide ((0:Int)≤IntKind.wrap IntKind.i64 (a+(1:Int)))) (Nat.blt (Int.toNat (IntKind.wrap IntKind.i64 (a+(1:Int)))) (List.length w)) false) true false) (bc (bc (Nat.blt (Int.toNat (IntKind.wrap IntKind.i64 (a+(1:Int)))) (List.length w)) true false) (bc (bc (bc (decide ((0:Int)≤a)) (Nat.blt (Int.toNat a) (List.length q)) false) true false) (bc (Nat.blt (Int.toNat a) (List.length q)) (bc (bc (bc (decide ((0:Int)≤IntKind.wrap IntKind.i64 (a+(1:Int)))) (Nat.blt (Int.toNat (IntKind.wrap IntKind.i64 (a+(1:Int)))) (List.length q)) false) true false) (bc (Nat.blt (Int.toNat (IntKind.wrap IntKind.i64 (a+(1:Int)))) (List.length (List.set q (Int.toNat a) (List.getD w (Int.toNat (IntKind.wrap IntKind.i64 (a+(1:Int)))) (0:Int))))) (bc (bc (bc (decide ((0:Int)≤IntKind.wrap IntKind.i64 (a+(2:Int)))) (Nat.blt (Int.toNat (IntKind.wrap IntKind.i64 (a+(2:Int)))) (List.length q)) false) true false) (bc (Nat.blt (Int.toNat (IntKind.wrap IntKind.i64 (a+(2:Int)))) (List.length (List.set (List.set q (Int.toNat a) (List.getD w (Int.toNat (IntKind.wrap IntKind.i64 (a+(1:Int)))) (0:Int))) (Int.toNat (IntKind.wrap IntKind.i64 (a+(1:Int)))) (List.getD w (Int.toNat a) (0:Int))))) true false) false) false) false) false) false) false) false) false) false) false) false) true false) (bc (Nat.beq (List.length q) (List.length (List.set (List.set (List.set q (Int.toNat a) (List.getD w (Int.toNat (IntKind.wrap IntKind.i64 (a+(1:Int)))) (0:Int))) (Int.toNat (IntKind.wrap IntKind.i64 (a+(1:Int)))) (List.getD w (Int.toNat a) (0:Int))) (Int.toNat (IntKind.wrap IntKind.i64 (a+(2:Int)))) (List.getD w (Int.toNat (IntKind.wrap IntKind.i64 (a+(1:Int)))) (0:Int))))) (.done (EV.lst (SyC.ints IntKind.i64 (List.set (List.set (List.set q (Int.toNat a) (List.getD w (Int.toNat (IntKind.wrap IntKind.i64 (a+(1:Int)))) (0:Int))) (Int.toNat (IntKind.wrap IntKind.i64 (a+(1:Int)))) (List.getD w (Int.toNat a) (0:Int))) (Int.toNat (IntKind.wrap IntKind.i64 (a+(2:Int)))) (List.getD w (Int.toNat (IntKind.wrap IntKind.i64 (a+(1:Int)))) (0:Int))))) [] 0) .bad) .bad) (bc (Nat.beq (List.length q) (List.length q)) (.done (EV.lst (SyC.ints IntKind.i64 (q))) [] 0) .bad)) .bad) (bc (bc (bc (eqB (decide (IntKind.wrap IntKind.i64 (a+(2:Int)) < Int.ofNat (List.length w))) true) (bc (bc (bc (decide ((0:Int)≤a)) (Nat.blt (Int.toNat a) (List.length w)) false) true false) (bc (bc (Nat.blt (Int.toNat a) (List.length w)) true false) (bc (bc (bc (decide ((0:Int)≤IntKind.wrap IntKind.i64 (a+(2:Int)))) (Nat.blt (Int.toNat (IntKind.wrap IntKind.i64 (a+(2:Int)))) (List.length w)) false) true false) (bc (bc (Nat.blt (Int.toNat (IntKind.wrap IntKind.i64 (a+(2:Int)))) (List.length w)) true false) (bc (eqB (List.getD w (Int.toNat a) (0:Int) == List.getD w (Int.toNat (IntKind.wrap IntKind.i64 (a+(2:Int)))) (0:Int)) true) (bc (bc (bc (decide ((0:Int)≤IntKind.wrap IntKind.i64 (a+(1:Int)))) (Nat.blt (Int.toNat (IntKind.wrap IntKind.i64 (a+(1:Int)))) (List.length w)) false) true false) (bc (bc (Nat.blt (Int.toNat (IntKind.wrap IntKind.i64 (a+(1:Int)))) (List.length w)) true false) (bc (bc (bc (decide ((0:Int)≤a)) (Nat.blt (Int.toNat a) (List.length w)) false) true false) (bc (bc (Nat.blt (Int.toNat a) (List.length w)) true false) (bc (eqB (List.getD w (Int.toNat (IntKind.wrap IntKind.i64 (a+(1:Int)))) (0:Int) == IntKind.wrap IntKind.i64 (List.getD w (Int.toNat a) (0:Int)+(1:Int))) false) (bc (bc (bc (decide ((0:Int)≤IntKind.wrap IntKind.i64 (a+(1:Int)))) (Nat.blt (Int.toNat (IntKind.wrap IntKind.i64 (a+(1:Int)))) (List.length w)) false) true false) (bc (bc (Nat.blt (Int.toNat (IntKind.wrap IntKind.i64 (a+(1:Int)))) (List.length w)) true false) (bc (bc (bc (decide ((0:Int)≤a)) (Nat.blt (Int.toNat a) (List.length w)) false) true false) (bc (bc (Nat.blt (Int.toNat a) (List.length w)) true false) (bc (eqB (List.getD w (Int.toNat (IntKind.wrap IntKind.i64 (a+(1:Int)))) (0:Int) == IntKind.wrap IntKind.i64 (List.getD w (Int.toNat a) (0:Int) - (1:Int))) true) (bc (bc (bc (decide ((0:Int)≤a)) (Nat.blt (Int.toNat a) (List.length w)) false) true false) (bc (bc (Nat.blt (Int.toNat a) (List.length w)) true false) (bc (eqB (decide ((0:Int) < List.getD w (Int.toNat a) (0:Int))) false) true false) false) false) false) false) false) false) false) false) false) false) false) false) false) false) false) false) false) false) true false) (bc (Nat.beq (List.length q) (List.length q)) (.done (EV.lst (SyC.ints IntKind.i64 (q))) [] 0) .bad) .bad)) (bc (bc (bc (eqB (decide (IntKind.wrap IntKind.i64 (a+(2:Int)) < Int.ofNat (List.length w))) true) (bc (bc (bc (decide ((0:Int)≤a)) (Nat.blt (Int.toNat a) (List.length w)) false) true false) (bc (bc (Nat.blt (Int.toNat a) (List.length w)) true false) (bc (bc (bc (decide ((0:Int)≤IntKind.wrap IntKind.i64 (a+(2:Int)))) (Nat.blt (Int.toNat (IntKind.wrap IntKind.i64 (a+(2:Int)))) (List.length w)) false) true false) (bc (bc (Nat.blt (Int.toNat (IntKind.wrap IntKind.i64 (a+(2:Int)))) (List.length w)) true false) (bc (eqB (List.getD w (Int.toNat a) (0:Int) == List.getD w (Int.toNat (IntKind.wrap IntKind.i64 (a+(2:Int)))) (0:Int)) true) (bc (bc (bc (decide ((0:Int)≤IntKind.wrap IntKind.i64 (a+(1:Int)))) (Nat.blt (Int.toNat (IntKind.wrap IntKind.i64 (a+(1:Int)))) (List.length w)) false) true false) (bc (bc (Nat.blt (Int.toNat (IntKind.wrap IntKind.i64 (a+(1:Int)))) (List.length w)) true false) (bc (bc (bc (decide ((0:Int)≤a)) (Nat.blt (Int.toNat a) (List.length w)) false) true false) (bc (bc (Nat.blt (Int.toNat a) (List.length w)) true false) (bc (eqB (List.getD w (Int.toNat (IntKind.wrap IntKind.i64 (a+(1:Int)))) (0:Int) == IntKind.wrap IntKind.i64 (List.getD w (Int.toNat a) (0:Int)+(1:Int))) false) (bc (bc (bc (decide ((0:Int)≤IntKind.wrap IntKind.i64 (a+(1:Int)))) (Nat.blt (Int.toNat (IntKind.wrap IntKind.i64 (a+(1:Int)))) (List.length w)) false) true false) (bc (bc (Nat.blt (Int.toNat (IntKind.wrap IntKind.i64 (a+(1:Int)))) (List.length w)) true false) (bc (bc (bc (decide ((0:Int)≤a)) (Nat.blt (Int.toNat a) (List.length w)) false) true false) (bc (bc (Nat.blt (Int.toNat a) (List.length w)) true false) (bc (eqB (List.getD w (Int.toNat (IntKind.wrap IntKind.i64 (a+(1:Int)))) (0:Int) == IntKind.wrap IntKind.i64 (List.getD w (Int.toNat a) (0:Int) - (1:Int))) false) true false) false) false) false) false) false) false) false) false) false) false) false) false) false) false) false) true false) (bc (Nat.beq (List.length q) (List.length q)) (.done (EV.lst (SyC.ints IntKind.i64 (q))) [] 0) .bad) .bad))) (bc (bc (bc (eqB (decide (IntKind.wrap IntKind.i64 (a+(2:Int)) < Int.ofNat (List.length w))) true) (bc (bc (bc (decide ((0:Int)≤a)) (Nat.blt (Int.toNat a) (List.length w)) false) true false) (bc (bc (Nat.blt (Int.toNat a) (List.length w)) true false) (bc (bc (bc (decide ((0:Int)≤IntKind.wrap IntKind.i64 (a+(2:Int)))) (Nat.blt (Int.toNat (IntKind.wrap IntKind.i64 (a+(2:Int)))) (List.length w)) false) true false) (bc (bc (Nat.blt (Int.toNat (IntKind.wrap IntKind.i64 (a+(2:Int)))) (List.length w)) true false) (bc (eqB (List.getD w (Int.toNat a) (0:Int) == List.getD w (Int.toNat (IntKind.wrap IntKind.i64 (a+(2:Int)))) (0:Int)) false) true false) false) false) false) false) false) true false) (bc (Nat.beq (List.length q) (List.length q)) (.done (EV.lst (SyC.ints IntKind.i64 (q))) [] 0) .bad) .bad)) (bc (bc (bc (eqB (decide (IntKind.wrap IntKind.i64 (a+(2:Int)) < Int.ofNat (List.length w))) false) true false) true false) (bc (Nat.beq (List.length q) (List.length q)) (.done (EV.lst (SyC.ints IntKind.i64 (q))) [] 0) .bad) .bad)):=by kernel_rfl
theorem m3 (x y:Int):List.map (fun r=>U.int (List.headD r (U.i 0))) [[U.i x],[U.i y]]=[x,y]:=rfl
theorem stB {w:List Int} {a i k y z:Nat} (ha:a≤w.length) (hw:w.length≤2000) (hi:i≤12) (hk:k % 4=0∨k % 4=1):RUN (stOf (sB w a i k y z)) = .done (il (insW w a (if k % 4=0 then (i:Int) else -(i:Int)))) [] 0:=by
 rw [b_t];have e4:Int.tmod (k:Int) 4=((k % 4:Nat):Int):=rfl;have e5:Int.toNat (Int.ofNat w.length)=w.length:=rfl;have e6:Int.toNat (a:Int)=a:=rfl;have e7:Int.toNat (0:Int)=0:=rfl;have l1:(List.take a w).length=a:=by rw [List.length_take];omega
 have l2:(List.drop a w).length=w.length - a:=List.length_drop ..;rw [e4];rcases hk with h | h
 ·rw [show ((((k % 4:Nat):Int) == 1)=false) by rw [h];rfl,bc_f,if_pos h];simp (disch:=omega) only [Nat.add_eq,eqSy_self,eqN_self,bc_same,List.length_cons,ofn,wrap_in,dt,df,bltD,bltN,ble_of,bleN,beqD,bc_t,bc_f,nn_ok,Nat.zero_add,to_nat,Int.zero_add,Int.sub_zero,Int.sub_self,Int.cast_ofNat_Int,Int.natCast_zero,Int.toNat_zero,List.take_zero,List.nil_append,List.length_append,List.length_nil,e5,e6,e7,m3,List.nil_append,List.drop_zero,List.take_length,l1,l2,List.length_append,List.length_cons,List.length_nil,Int.zero_sub];unfold insW
  rw [List.append_assoc]
 ·rw [show ((((k % 4:Nat):Int) == 1)=true) by rw [h];rfl,bc_t,if_neg (by omega)];simp (disch:=omega) only [Nat.add_eq,eqSy_self,eqN_self,bc_same,List.length_cons,ofn,wrap_in,dt,df,bltD,bltN,ble_of,bleN,beqD,bc_t,bc_f,nn_ok,Nat.zero_add,to_nat,Int.zero_add,Int.sub_zero,Int.sub_self,Int.cast_ofNat_Int,Int.natCast_zero,Int.toNat_zero,List.take_zero,List.nil_append,List.length_append,List.length_nil,e5,e6,e7,m3,List.nil_append,List.drop_zero,List.take_length,l1,l2,List.length_append,List.length_cons,List.length_nil,Int.zero_sub];unfold insW
  rw [List.append_assoc]
theorem sml {w:List Int} (h:SmL w) (a:Nat):-1000≤w.getD a 0∧w.getD a 0≤1000:=by
 by_cases ha:a < w.length
 ·rw [getD_at ha];exact h _ (List.getElem_mem ha)
 ·rw [List.getD_eq_getElem?_getD,List.getElem?_eq_none (by omega)];show -1000≤(0:Int)∧(0:Int)≤1000;omega
theorem stC {w:List Int} {a:Nat} (hw:w.length≤2000) (hs:SmL w):RUN (stOf (sC w w a)) = .done (il (excW w a)) [] 0∨2000 < a:=by
 by_cases hb:2000 < a
 ·exact .inr hb
 left;have s1:=sml hs a;have s2:=sml hs (a+1);have w1:IntKind.i64.wrap ((a:Int)+1)=((a+1:Nat):Int):=by rw [wrap_in _ (by omega) (by omega)];omega
 have e6:Int.toNat (a:Int)=a:=rfl;have e7:Int.toNat ((a+1:Nat):Int)=a+1:=rfl;rw [c_t,w1,e6,e7];unfold excW
 by_cases c1:a+1 < w.length
 ·cases c2:apa (w.getD a 0) (w.getD (a+1) 0) with
  | true=>
   rw [if_pos ⟨c1,rfl⟩];simp (disch:=omega) only [Nat.add_eq,eqSy_self,eqN_self,bc_same,List.length_cons,ofn,wrap_in,dt,df,bltD,bltN,ble_of,bleN,beqD,bc_t,bc_f,nn_ok,Nat.zero_add,to_nat,Int.zero_add,Int.sub_zero,Int.sub_self,Int.cast_ofNat_Int,Int.natCast_zero,Int.toNat_zero,List.take_zero,List.nil_append,List.length_append,List.length_nil,eqB,List.length_set]
  | false=>
   rw [if_neg (fun h=>by cases h.2)];simp (disch:=omega) only [Nat.add_eq,eqSy_self,eqN_self,bc_same,List.length_cons,ofn,wrap_in,dt,df,bltD,bltN,ble_of,bleN,beqD,bc_t,bc_f,nn_ok,Nat.zero_add,to_nat,Int.zero_add,Int.sub_zero,Int.sub_self,Int.cast_ofNat_Int,Int.natCast_zero,Int.toNat_zero,List.take_zero,List.nil_append,List.length_append,List.length_nil,eqB,List.length_set]
 ·rw [if_neg (fun h=>c1 h.1)];simp (disch:=omega) only [Nat.add_eq,eqSy_self,eqN_self,bc_same,List.length_cons,ofn,wrap_in,dt,df,bltD,bltN,ble_of,bleN,beqD,bc_t,bc_f,nn_ok,Nat.zero_add,to_nat,Int.zero_add,Int.sub_zero,Int.sub_self,Int.cast_ofNat_Int,Int.natCast_zero,Int.toNat_zero,List.take_zero,List.nil_append,List.length_append,List.length_nil,eqB]
theorem braW_bc (w:List Int) (a:Nat):braW w a=bc (decide (a+2 < w.length)) (bc (w.getD a 0 == w.getD (a+2) 0) (bc (bc (w.getD (a+1) 0 == w.getD a 0+1) true (w.getD (a+1) 0 == w.getD a 0 - 1)) (bc (decide (0 < w.getD a 0)) (bc (decide (0 < w.getD (a+1) 0)) (((w.set a (w.getD (a+1) 0)).set (a+1) (w.getD a 0)).set (a+2) (w.getD (a+1) 0)) w) w) w) w) w:=by
 unfold braW
 by_cases h:braC w a
 ·obtain ⟨h1,h2,h3,h4,h5⟩:=h;have e3:bc (w.getD (a+1) 0 == w.getD a 0+1) true (w.getD (a+1) 0 == w.getD a 0 - 1)=true:=by
   rcases h3 with e | e
   ·rw [show (w.getD (a+1) 0 == w.getD a 0+1)=true from beq_iff_eq.2 e];rfl
   ·rw [show (w.getD (a+1) 0 == w.getD a 0 - 1)=true from beq_iff_eq.2 e]
    cases w.getD (a+1) 0 == w.getD a 0+1 <;> rfl
  rw [if_pos ⟨h1,h2,h3,h4,h5⟩,dt h1,show (w.getD a 0 == w.getD (a+2) 0)=true from beq_iff_eq.2 h2,e3,dt h4,dt h5]
  rfl
 ·rw [if_neg h]
  by_cases h1:a+2 < w.length
  ·cases q2:w.getD a 0 == w.getD (a+2) 0
   ·rw [dt h1];rfl
   ·cases q3:bc (w.getD (a+1) 0 == w.getD a 0+1) true (w.getD (a+1) 0 == w.getD a 0 - 1)
    ·rw [dt h1];rfl
    ·by_cases h4:0 < w.getD a 0
     ·by_cases h5:0 < w.getD (a+1) 0
      ·refine absurd ⟨h1,beq_iff_eq.1 q2,?_,h4,h5⟩ h;cases q5:w.getD (a+1) 0 == w.getD a 0+1
       ·rw [q5] at q3;exact .inr (beq_iff_eq.1 q3)
       ·exact .inl (beq_iff_eq.1 q5)
      ·rw [dt h1,dt h4,df h5];rfl
     ·rw [dt h1,df h4];rfl
  ·rw [df h1];rfl
theorem stD {w:List Int} {a:Nat} (hw:w.length≤2000) (hs:SmL w) (hb:a≤2000):RUN (stOf (sD w w a)) = .done (il (braW w a)) [] 0:=by
 have s1:=sml hs a;have s2:=sml hs (a+1);have w1:IntKind.i64.wrap ((a:Int)+1)=((a+1:Nat):Int):=by rw [wrap_in _ (by omega) (by omega)];omega
 have w2:IntKind.i64.wrap ((a:Int)+2)=((a+2:Nat):Int):=by rw [wrap_in _ (by omega) (by omega)];omega
 have e6:Int.toNat (a:Int)=a:=rfl;have e7:Int.toNat ((a+1:Nat):Int)=a+1:=rfl;have e8:Int.toNat ((a+2:Nat):Int)=a+2:=rfl;have w3:IntKind.i64.wrap (w.getD a 0+1)=w.getD a 0+1:=wrap_in _ (by omega) (by omega);have w4:IntKind.i64.wrap (w.getD a 0 - 1)=w.getD a 0 - 1:=wrap_in _ (by omega) (by omega);rw [d_t,w1,w2,e6,e7,e8,w3,w4,braW_bc]
 by_cases c1:a+2 < w.length
 ·cases w.getD a 0 == w.getD (a+2) 0 <;> cases w.getD (a+1) 0 == w.getD a 0+1 <;> cases w.getD (a+1) 0 == w.getD a 0 - 1 <;> cases decide (0 < w.getD a 0) <;> cases decide (0 < w.getD (a+1) 0) <;> simp (disch:=omega) only [Nat.add_eq,eqSy_self,eqN_self,bc_same,List.length_cons,ofn,wrap_in,dt,df,bltD,bltN,ble_of,bleN,beqD,bc_t,bc_f,nn_ok,Nat.zero_add,to_nat,Int.zero_add,Int.sub_zero,Int.sub_self,Int.cast_ofNat_Int,Int.natCast_zero,Int.toNat_zero,List.take_zero,List.nil_append,List.length_append,List.length_nil,eqB,List.length_set,dt c1]
 ·rw [df c1];simp (disch:=omega) only [Nat.add_eq,eqSy_self,eqN_self,bc_same,List.length_cons,ofn,wrap_in,dt,df,bltD,bltN,ble_of,bleN,beqD,bc_t,bc_f,nn_ok,Nat.zero_add,to_nat,Int.zero_add,Int.sub_zero,Int.sub_self,Int.cast_ofNat_Int,Int.natCast_zero,Int.toNat_zero,List.take_zero,List.nil_append,List.length_append,List.length_nil,eqB]
theorem ends {n k a i:Nat} {w:List Int} (h1:1≤n) (h2:n≤12) (hw:w.length≤2000) (hv:Vld n w) (hk:k < 256) (ha:a < 256) (hi:i < 256):EndZ 43 ct false (st0 43 [iv n,il w,.agg [.v (.int .u8 k),.v (.int .u8 a),.v (.int .u8 i)]]) (il (chgW n w k a i)) [] 0:=by
 have h:=in_t n w k a i;unfold chgW
 by_cases c1:n < 2
 ·rw [dt (show (n:Int) < 2 by omega),bc_t] at h;rw [if_pos c1];exact .done h
 rw [df (show ¬ (n:Int) < 2 by omega),bc_f] at h;rw [if_neg c1];have hs:=hv.small (by omega);have w1:IntKind.i64.wrap (Int.ofNat w.length+1)=((w.length+1:Nat):Int):=by rw [ofn,wrap_in _ (by omega) (by omega)];omega
 have w2:IntKind.i64.wrap ((n:Int) - 1)=((n - 1:Nat):Int):=by rw [wrap_in _ (by omega) (by omega)];omega
 have w3:IntKind.i64.wrap (a:Int)=(a:Int):=wrap_in _ (by omega) (by omega);have w4:IntKind.i64.wrap (i:Int)=(i:Int):=wrap_in _ (by omega) (by omega);have t1:Int.tmod (a:Int) ((w.length+1:Nat):Int)=((a % (w.length+1):Nat):Int):=rfl;have t2:Int.tmod (i:Int) ((n - 1:Nat):Int)=((i % (n - 1):Nat):Int):=rfl;have hi2:=Nat.mod_lt i (show 0 < n - 1 by omega);have ha2:=Nat.mod_lt a (show 0 < w.length+1 by omega)
 have w5:IntKind.i64.wrap (1+((i % (n - 1):Nat):Int))=((1+i % (n - 1):Nat):Int):=by rw [wrap_in _ (by omega) (by omega)];omega
 rw [w1,w2,w3,w4,t1,t2,w5,show ((((w.length+1:Nat):Int) == 0)=false) by simp;omega,show ((((n - 1:Nat):Int) == 0)=false) by simp;omega,List.nil_append] at h;generalize hA:a % (w.length+1)=A at *;generalize hI:1+i % (n - 1)=I at *;have e4:Int.tmod (k:Int) 4=((k % 4:Nat):Int):=rfl;have h3:RUN (st0 43 [iv n,il w,.agg [.v (.int .u8 k),.v (.int .u8 a),.v (.int .u8 i)]]) = .at (sA w w A I k a i):=by
  rw [h];simp (disch:=omega) only [Nat.add_eq,eqSy_self,eqN_self,bc_same,List.length_cons,ofn,wrap_in,dt,df,bltD,bltN,ble_of,bleN,beqD,bc_t,bc_f,nn_ok,Nat.zero_add,to_nat,Int.zero_add,Int.sub_zero,Int.sub_self,Int.cast_ofNat_Int,Int.natCast_zero,Int.toNat_zero,List.take_zero,List.nil_append,List.length_append,List.length_nil,Nat.zero_add,bnot]
 refine .at ct_ok h3 ?_;have h4:=a_t w w A I k a i;rw [e4] at h4
 by_cases k0:k % 4=0
 ·rw [show ((((k % 4:Nat):Int) == 0)=true) by rw [k0];rfl,bc_t] at h4;have h5:=stB (y:=a) (z:=i) (show A≤w.length by omega) hw (show I≤12 by omega) (.inl k0);rw [if_pos k0] at h5 ⊢;exact .at ct_ok h4 (.done h5)
 rw [show ((((k % 4:Nat):Int) == 0)=false) by simp;omega,bc_f] at h4;rw [if_neg k0]
 by_cases k1:k % 4=1
 ·rw [show ((((k % 4:Nat):Int) == 1)=true) by rw [k1];rfl,bc_t] at h4;have h5:=stB (y:=a) (z:=i) (show A≤w.length by omega) hw (show I≤12 by omega) (.inr k1);rw [if_neg k0] at h5;rw [if_pos k1];exact .at ct_ok h4 (.done h5)
 rw [show ((((k % 4:Nat):Int) == 1)=false) by simp;omega,bc_f] at h4;rw [if_neg k1]
 by_cases k2:k % 4=2
 ·rw [show ((((k % 4:Nat):Int) == 2)=true) by rw [k2];rfl,bc_t] at h4;rw [if_pos k2];rcases stC (a:=A) hw hs with h5 | h5
  ·exact .at ct_ok h4 (.done h5)
  ·omega
 ·rw [show ((((k % 4:Nat):Int) == 2)=false) by simp;omega,bc_f] at h4;rw [if_neg k2];exact .at ct_ok h4 (.done (stD hw hs (by omega)))
end LChg

def ChOk (n:Int) (w:List Int) (k a i:Int):Prop:=WOk n w∧(0≤k∧k < 256)∧(0≤a∧a < 256)∧0≤i∧i < 256
noncomputable instance (n:Int) (w:List Int) (k a i:Int):Decidable (ChOk n w k a i):=Classical.propDecidable _
noncomputable def spChg:ZCT:=fun ax=>match ax with
 | [.v (.int .i64 n),.lst (.ints .i64 w),.agg [.v (.int .u8 k),.v (.int .u8 a),.v (.int .u8 i)]]=>some ⟨decide (ChOk n w k a i),il (chgW n.toNat w k.toNat a.toNat i.toNat),[],0⟩
 | _=>none
theorem spChg_ok:ZCtOk Try.prog 43 spChg:=fun γ w us ax r hs hc hax hN hfz=>by
 unfold spChg at hs;split at hs
 case h_2=>cases hs
 rename_i n w k a i;obtain ⟨rfl⟩:=Option.some.inj hs;have hc_0:decide (ChOk n w k a i)=true:=hc;have hc:=of_decide_eq_true hc_0;exact EndZ.calls (by
  obtain ⟨⟨h1,h2,h3,h4⟩,⟨k1,k2⟩,⟨a1,a2⟩,i1,i2⟩:=hc;obtain ⟨n,rfl⟩:=Int.eq_ofNat_of_zero_le (show 0≤n by omega);obtain ⟨k,rfl⟩:=Int.eq_ofNat_of_zero_le k1;obtain ⟨a,rfl⟩:=Int.eq_ofNat_of_zero_le a1;obtain ⟨i,rfl⟩:=Int.eq_ofNat_of_zero_le i1;exact LChg.ends (by omega) (by omega) h3 h4 (by omega) (by omega) (by omega)) LChg.ct_ok (by kernel_rfl) hax hN hfz
namespace LSig
noncomputable def RUN (s:ES):ZF:=RZ 48 .nil (atS 0 48 3) [] [[(0,none),(3,none),(4,none)]] false s

noncomputable def sL (w:List Int) (c i:Int):NS:=⟨[⟨48,21,[(0,(EV.lst (SyC.ints IntKind.i64 (w)))),(3,iv c),(4,iv i)],[.it (.code (nav [1,1,0,1,0,0,0] (bodyOf Try.f48))),.it (.code (nav [1,1,0,1,0,0,1] (bodyOf Try.f48))),.it (.inLoop (nav [1,1,0,1,0,0] (bodyOf Try.f48))),.it (.inBlock 0),.it (.code (nav [1,1,1] (bodyOf Try.f48)))],[],Option.none⟩],[],0⟩
theorem in_t (w:List Int):RUN (st0 48 [il w])=(.at (sL (w) ((0:Int)) ((0:Int)))):=by kernel_rfl
theorem l_t (w:List Int) (c i:Int):RUN (stOf (sL w c i))=(bc (decide (i < Int.ofNat (List.length w))) (bc (bc (bc (decide ((0:Int)≤i)) (Nat.blt (Int.toNat i) (List.length w)) false) true false) (bc (bc (Nat.blt (Int.toNat i) (List.length w)) true false) (bc (decide ((0:Int) < List.getD w (Int.toNat i) (0:Int))) (.at (sL (w) (IntKind.wrap IntKind.i64 (c+(1:Int))) (IntKind.wrap IntKind.i64 (i+(1:Int))))) (.at (sL (w) (IntKind.wrap IntKind.i64 (c - (1:Int))) (IntKind.wrap IntKind.i64 (i+(1:Int)))))) .bad) .bad) (.done (EV.v (Value.int IntKind.i64 (c))) [] 0)):=by kernel_rfl

def sgN:List Int→Int
 | []=>0
 | x :: u=>(if 0 < x then 1 else -1)+sgN u
theorem sgN_sgW:∀ {w:List Int},(∀ x,x ∈ w→x≠0)→sgN w=sgW w
 | [],_=>rfl
 | x :: u,h=>by
  have h1:=h x List.mem_cons_self;show (if 0 < x then (1:Int) else -1)+sgN u=sgL x+sgW u
  rw [sgN_sgW fun y hy=>h y (List.mem_cons_of_mem _ hy)];unfold sgL;split <;> split <;> omega
theorem step {w:List Int} {c:Int} {i:Nat} (hi:i < w.length) (hw:w.length≤2000) (hc:-(i:Int)≤c∧c≤i):RUN (stOf (sL w c i)) = .at (sL w (c+(if 0 < w.getD i 0 then 1 else -1)) (i+1:Nat)):=by
 rw [l_t]
 by_cases h:0 < w.getD i 0
 ·rw [if_pos h];have e6:Int.toNat (i:Int)=i:=rfl;simp (disch:=omega) only [Nat.add_eq,eqSy_self,eqN_self,bc_same,List.length_cons,ofn,wrap_in,dt,df,bltD,bltN,ble_of,bleN,beqD,bc_t,bc_f,nn_ok,Nat.zero_add,to_nat,Int.zero_add,Int.sub_zero,Int.sub_self,Int.cast_ofNat_Int,Int.natCast_zero,Int.toNat_zero,List.take_zero,List.nil_append,List.length_append,List.length_nil,e6,dt h];rfl
 ·rw [if_neg h];have e6:Int.toNat (i:Int)=i:=rfl;simp (disch:=omega) only [Nat.add_eq,eqSy_self,eqN_self,bc_same,List.length_cons,ofn,wrap_in,dt,df,bltD,bltN,ble_of,bleN,beqD,bc_t,bc_f,nn_ok,Nat.zero_add,to_nat,Int.zero_add,Int.sub_zero,Int.sub_self,Int.cast_ofNat_Int,Int.natCast_zero,Int.toNat_zero,List.take_zero,List.nil_append,List.length_append,List.length_nil,e6,df h];rfl
theorem loop {w:List Int} (hw:w.length≤2000):∀ (k i:Nat) (c:Int),i+k=w.length → -(i:Int)≤c∧c≤i→EndZ 48 .nil false (stOf (sL w c i)) (iv (c+sgN (w.drop i))) [] 0
 | 0,i,c,h,hc=>by
  rw [List.drop_eq_nil_of_le (by omega)];have hs:=l_t w c i;rw [df (show ¬ (i:Int) < Int.ofNat w.length by rw [ofn];omega),bc_f] at hs;show EndZ _ _ _ _ (iv (c+0)) [] 0;rw [Int.add_zero];exact .done hs
 | k+1,i,c,h,hc=>by
  have hi:i < w.length:=by omega
  rw [List.drop_eq_getElem_cons hi];show EndZ _ _ _ _ (iv (c+((if 0 < w[i] then 1 else -1)+sgN (w.drop (i+1))))) [] 0
  rw [← getD_at hi,← Int.add_assoc];exact .at (.nil _) (step hi hw hc) (loop hw k (i+1) _ (by omega) (by split <;> omega))
end LSig
noncomputable def spSig:ZCT:=fun ax=>match ax with
 | [.lst (.ints .i64 w)]=>some ⟨decide (w.length≤2000),iv (LSig.sgN w),[],0⟩
 | _=>none
theorem spSig_ok:ZCtOk Try.prog 48 spSig:=fun γ w us ax r hs hc hax hN hfz=>by
 unfold spSig at hs;split at hs
 case h_2=>cases hs
 rename_i w;obtain ⟨rfl⟩:=Option.some.inj hs;have hc_0:decide (w.length≤2000)=true:=hc;have hc:=of_decide_eq_true hc_0;exact EndZ.calls (by
  have h2:=LSig.loop hc w.length 0 0 (by omega) (by omega);rw [Int.zero_add] at h2;exact .at (.nil _) (LSig.in_t w) h2) (.nil _) (by kernel_rfl) hax hN hfz
end Go.Proofs.Ytooimphimnagaaa.Ev
namespace Go.Proofs.Ytooimphimnagaaa.Ev
open Go.Proofs
variable {n:Nat}

noncomputable def mx (n:Nat) (f:Nat→Nat→Int):List (List U):=(List.range n).map fun a=>[U.l ((List.range n).map fun b=>[U.i (f a b)])]
theorem mx_len (n:Nat) (f:Nat→Nat→Int):(mx n f).length=n:=by unfold mx;rw [List.length_map,List.length_range]
theorem mx_row {f:Nat→Nat→Int} {x:Nat} (hx:x < n):(mx n f).getD x []=[U.l ((List.range n).map fun b=>[U.i (f x b)])]:=by
 unfold mx;rw [List.getD_eq_getElem?_getD,List.getElem?_map,List.getElem?_range hx];rfl
theorem mx_list {f:Nat→Nat→Int} {x:Nat} (hx:x < n):U.list (((mx n f).getD x []).getD 0 (U.i 0))=(List.range n).map fun b=>[U.i (f x b)]:=by rw [mx_row hx];rfl
theorem mx_get {f:Nat→Nat→Int} {x y:Nat} (hx:x < n) (hy:y < n):U.int ((List.getD (U.list (((mx n f).getD x []).getD 0 (U.i 0))) y []).getD 0 (U.i 0))=f x y:=by
 have e:((List.range n).map fun b=>[U.i (f x b)]).getD y []=[U.i (f x y)]:=by
  rw [List.getD_eq_getElem?_getD,List.getElem?_map,List.getElem?_range hy];rfl
 rw [mx_list hx,e];rfl
def upd (f:Nat→Nat→Int) (x y:Nat) (v:Int) (a b:Nat):Int:=if a=x∧b=y then v else f a b
theorem range_set {α:Type} {g g':Nat→α} {x:Nat} {v:α} (h1:g' x=v) (h2:∀ a,a≠x→g' a=g a):((List.range n).map g).set x v=(List.range n).map g':=by
 apply List.ext_getElem (by rw [List.length_set,List.length_map,List.length_map]);intro i hi hi2;rw [List.getElem_set,List.getElem_map];split
 ·rename_i e;rw [← h1,List.getElem_map,List.getElem_range,e]
 ·rename_i e;rw [List.getElem_map,List.getElem_range,h2 i (fun q=>e q.symm)]
theorem mx_set {f:Nat→Nat→Int} {x y:Nat} (v:Int) (hx:x < n):(mx n f).set x (rset 0 (U.l (List.map (fun x=>[U.i x]) (List.set (List.map (fun r=>U.int (List.headD r (U.i 0))) (U.list (List.getD (List.getD (mx n f) x []) 0 (U.i 0)))) y v))) (List.getD (mx n f) x []))=mx n (upd f x y v):=by
 rw [mx_list hx,mx_row hx,List.map_map];refine range_set ?_ fun a ha=>?_
 ·show [U.l _]=[U.l _];congr 2;have e:List.map ((fun r=>U.int (List.headD r (U.i 0))) ∘ fun b=>[U.i (f x b)]) (List.range n)=(List.range n).map fun b=>f x b:=List.map_congr_left fun b _=>rfl;rw [e,range_set (g':=fun b=>upd f x y v x b) (by unfold upd;rw [if_pos ⟨rfl,rfl⟩]) (fun b hb=>by unfold upd;rw [if_neg fun h=>hb h.2]),List.map_map];rfl
 ·show [U.l _]=[U.l _];congr 2;refine List.map_congr_left fun b _=>?_;unfold upd;rw [if_neg fun h=>ha h.1]
theorem mx_congr {f g:Nat→Nat→Int} (h:∀ a b,f a b=g a b):mx n f=mx n g:=by
 have:f=g:=by funext a b;exact h a b
 rw [this]
theorem lk_bound:∀ (u:List Int) (p:Nat→Nat) (a b:Nat),-(u.length:Int)≤lk u p a b∧lk u p a b≤u.length
 | [],_,_,_=>by show -((0:Nat):Int)≤0∧(0:Int)≤((0:Nat):Int);omega
 | x :: u,p,a,b=>by
  have h:=lk_bound u (fun y=>p (sw x.natAbs y)) a b;have e:lk (x :: u) p a b=(if a=p (x.natAbs - 1)∧b=p x.natAbs∨a=p x.natAbs∧b=p (x.natAbs - 1) then sgL x else 0)+lk u (fun y=>p (sw x.natAbs y)) a b:=rfl
  rw [e,List.length_cons];have s:-1≤sgL x∧sgL x≤1:=by unfold sgL;split <;> omega
  split <;> omega
theorem lnP_f:∀ {w:List Int},Vld n w→∀ (p:Pm n),(w.foldl (fun p x=>swP p x.natAbs) p).f=lnF w p.f
 | [],_,_=>rfl
 | l :: w,h,p=>by
  show (w.foldl (fun p x=>swP p x.natAbs) (swP p l.natAbs)).f=lnF w (fun y=>p.f (sw l.natAbs y));rw [lnP_f h.tail];unfold swP;rw [dif_pos h.head];rfl
theorem lk_snoc (u:List Int) (x:Int) (p:Nat→Nat) (a b:Nat):lk (u ++ [x]) p a b=lk u p a b+(if a=lnF u p (x.natAbs - 1)∧b=lnF u p x.natAbs∨a=lnF u p x.natAbs∧b=lnF u p (x.natAbs - 1) then sgL x else 0):=by
 rw [lk_app];show _+(_+0)=_;rw [Int.add_zero]
namespace PNml
noncomputable def ct:Tr ZCC:=((Tr.nil.put 83 (some (dC spPChk))).put 84 (some (mC spNrm))).put 92 (some (mC spLis))
theorem ct_ok:ZCtsOk Try.prog ct:=(((ZCtsOk.nil _).add rfl spPChk_ok).addM rfl spNrm_ok).addM rfl spLis_ok
noncomputable def RUN (s:ES):ZF:=RZ 44 ct (atS 0 44 6) [] [[(0,none),(5,some (1,22,.recs [.list [.int .i64]] [])),(8,none),(23,none),(24,none),(25,none)]] false s

noncomputable def sL (n:Int) (pw:Int) (L:List Int) (len:Nat) (nn:Bool) (q:List (List U)) (nq:Bool) (z i:Int):NS:=⟨[⟨44,40,[(0,(EV.v (Value.int IntKind.i64 (n)))),(5,EV.slO 0 1 q.length nq),(8,(EV.ptr 1 0)),(23,EV.slO 2 12 len nn),(24,iv z),(25,iv i)],[.it (.code (nav [1,1,1,0,1,0,0] (bodyOf Try.f44))),.it (.inLoop (nav [1,1,1,0,1,0,0] (bodyOf Try.f44))),.it (.inBlock 0),.it (.code (nav [1,1,1,1] (bodyOf Try.f44)))],[],Option.none⟩],[(0,EK.seq 22 (.recs [.list [.int .i64]] q) nq),(1,EK.cells 89 [iv n,iv pw,EV.slO 2 12 len nn] true),(2,EK.seq 92 (.ints .u8 L) nn)],3⟩
theorem in_t (n:Int) (w:List Int):RUN (st0 44 [iv n,il w])=(bc (chk n w != (0:Int)) (.done (EV.tup [(EV.v (Value.int IntKind.i64 (0))),(EV.v (Value.slice Option.none 0 0)),(EV.v (Value.int IntKind.i64 (chk n w)))]) [] 0) (bc (bc (decide (WOk n w)) true false) (.at (sL (n) (Frm.pw (nfW (Int.toNat n) w)) (encF (Frm.F (nfW (Int.toNat n) w))) (List.length (Frm.F (nfW (Int.toNat n) w))) (Nat.blt (0:Nat) (List.length w)) ([]) (false) (Int.ofNat (List.length (Frm.F (nfW (Int.toNat n) w)))) ((0:Int)))) .bad)):=by kernel_rfl
theorem l_t (n pw:Int) (L:List Int) (len:Nat) (nn:Bool) (q:List (List U)) (nq:Bool) (z i:Int):RUN (stOf (sL n pw L len nn q nq z i))=(bc (decide (i < z)) (bc (bc (bc (decide ((0:Int)≤i)) (Nat.blt (Int.toNat i) len) false) true false) (bc (bc (Nat.ble (Nat.add (Nat.add (Nat.mul (Int.toNat i) (12:Nat)) (0:Nat)) (12:Nat)) (List.length L)) true false) (bc (bc (Nat.beq (List.length (List.take (12:Nat) (List.drop (Nat.add (Nat.mul (Int.toNat i) (12:Nat)) (0:Nat)) L))) (12:Nat)) (Nat.beq (List.length (zerosL (12:Nat))) (12:Nat)) false) (bc (bc (decide ((0:Int)≤n∧n≤(12:Int)∧In12 (List.take (12:Nat) (List.drop (Nat.add (Nat.mul (Int.toNat i) (12:Nat)) (0:Nat)) L)))) true false) (bc (bc (Nat.beq (Int.toNat n) (List.length (List.take (Int.toNat n) (List.take (12:Nat) (List.drop (Nat.add (Nat.mul (Int.toNat i) (12:Nat)) (0:Nat)) L))))) true false) (bc (bc (Nat.beq (List.length q) (List.length q)) (bc (Nat.ble (List.length q+List.length [[U.l (List.map (fun x=>[U.i x]) (List.take (Int.toNat n) (List.take (12:Nat) (List.drop (Nat.add (Nat.mul (Int.toNat i) (12:Nat)) (0:Nat)) L))))]]) (65536:Nat)) (bc nq true (bc nq false true)) false) false) (.at (sL (n) (pw) (L) (len) (nn) (q ++ [[U.l (List.map (fun x=>[U.i x]) (List.take (Int.toNat n) (List.take (12:Nat) (List.drop (Nat.add (Nat.mul (Int.toNat i) (12:Nat)) (0:Nat)) L))))]]) (bc nq true (Nat.blt (0:Nat) (List.length [[U.l (List.map (fun x=>[U.i x]) (List.take (Int.toNat n) (List.take (12:Nat) (List.drop (Nat.add (Nat.mul (Int.toNat i) (12:Nat)) (0:Nat)) L))))]]))) (z) (IntKind.wrap IntKind.i64 (i+(1:Int))))) .bad) .bad) .bad) .bad) .bad) .bad) (bc (bc (Nat.beq (List.length q) (List.length q)) true false) (.done (EV.tup [(EV.v (Value.int IntKind.i64 (pw))),(EV.lst (SyC.recs [(Sh.list [(Sh.int IntKind.i64)])] (q))),(EV.v (Value.int IntKind.i64 (0)))]) [] 0) .bad)):=by kernel_rfl

noncomputable def rowsF (n:Nat) (F:List (Pm n)):List (List U):=F.map fun p=>[U.l (((pA p).take n).map fun x=>[U.i x])]
theorem rowsF_app (F G:List (Pm n)):rowsF n (F ++ G)=rowsF n F ++ rowsF n G:=by unfold rowsF;rw [List.map_append]
theorem step {F G:List (Pm n)} {p:Pm n} {pw:Int} {nn nq:Bool} (hn:n≤12) (hl:F.length≤5000) (hq:nq=true∨F=[]):RUN (stOf (sL n pw (encF (F ++ p :: G)) (F ++ p :: G).length nn (rowsF n F) nq ((F ++ p :: G).length:Nat) (F.length:Nat))) = .at (sL n pw (encF (F ++ p :: G)) (F ++ p :: G).length nn (rowsF n (F ++ [p])) true ((F ++ p :: G).length:Nat) (F.length+1:Nat)):=by
 have hlen:(F ++ p :: G).length=F.length+G.length+1:=by rw [List.length_append,List.length_cons];omega
 have e0:Int.toNat (n:Int)=n:=rfl;have e1:Int.toNat (F.length:Int)=F.length:=rfl;have e2:List.take 12 (List.drop (Nat.add (Nat.mul F.length 12) 0) (encF (F ++ p :: G)))=pA p:=encF_win F G p;have e3:Nat.add (Nat.add (Nat.mul F.length 12) 0) 12=F.length * 12+12:=rfl;have e4:(encF (F ++ p :: G)).length=(F.length+G.length+1) * 12:=by rw [encF_len,hlen]
 have e5:(0:Int)≤(n:Int)∧(n:Int)≤12∧In12 (pA p):=⟨by omega,by omega,In12.pA hn p⟩;have e6:(List.take n (pA p)).length=n:=by rw [List.length_take,pA_len];omega
 have e7:(rowsF n F).length=F.length:=by unfold rowsF;rw [List.length_map]
 have e8:bc nq true (bc nq false true)=true:=by cases nq <;> rfl
 have e9:∀ r:List U,bc nq true (Nat.blt 0 (List.length [r]))=true:=fun r=>by cases nq <;> rfl
 rw [l_t,e0,e1,e2,e3,e4,e6,dt e5,e8,pA_len,zeros_len,e9,hlen];simp (disch:=omega) only [Nat.add_eq,eqSy_self,eqN_self,bc_same,List.length_cons,ofn,wrap_in,dt,df,bltD,bltN,ble_of,bleN,beqD,bc_t,bc_f,nn_ok,Nat.zero_add,to_nat,Int.zero_add,Int.sub_zero,Int.sub_self,Int.cast_ofNat_Int,Int.natCast_zero,Int.toNat_zero,List.take_zero,List.nil_append,List.length_append,List.length_nil,e7];rw [rowsF_app];rfl
theorem last {F:List (Pm n)} {pw:Int} {nn nq:Bool}:RUN (stOf (sL n pw (encF F) F.length nn (rowsF n F) nq (F.length:Nat) (F.length:Nat))) = .done (.tup [iv pw,.lst (.recs [.list [.int .i64]] (rowsF n F)),iv 0]) [] 0:=by
 rw [l_t,df (show ¬ (F.length:Int) < (F.length:Int) by omega),bc_f];simp only [Nat.add_eq,eqSy_self,eqN_self,bc_same,List.length_cons,ofn,wrap_in,dt,df,bltD,bltN,ble_of,bleN,beqD,bc_t,bc_f,nn_ok,Nat.zero_add,to_nat,Int.zero_add,Int.sub_zero,Int.sub_self,Int.cast_ofNat_Int,Int.natCast_zero,Int.toNat_zero,List.take_zero,List.nil_append,List.length_append,List.length_nil]
theorem loop {pw:Int} {nn:Bool} (hn:n≤12):∀ (G F:List (Pm n)) (nq:Bool),F.length+G.length≤5000→(nq=true∨F=[])→EndZ 44 ct false (stOf (sL n pw (encF (F ++ G)) (F ++ G).length nn (rowsF n F) nq ((F ++ G).length:Nat) (F.length:Nat))) (.tup [iv pw,.lst (.recs [.list [.int .i64]] (rowsF n (F ++ G))),iv 0]) [] 0
 | [],F,nq,hl,hq=>by
  rw [List.append_nil];exact .done last
 | p :: G,F,nq,hl,hq=>by
  have h1:=step (F:=F) (G:=G) (p:=p) (pw:=pw) (nn:=nn) (nq:=nq) hn (by simp at hl;omega) hq;have h2:=loop (pw:=pw) (nn:=nn) hn G (F ++ [p]) true (by simp at hl ⊢;omega) (.inl rfl);rw [List.append_assoc,show [p] ++ G=p :: G from rfl,show (F ++ [p]).length=F.length+1 from by rw [List.length_append];rfl] at h2
  exact .at ct_ok h1 h2

noncomputable abbrev nmlV (n:Int) (w:List Int):EV:=.tup [iv (bc (chk n w != 0) 0 (nfW n.toNat w).pw),.lst (.recs [.list [.int .i64]] (bc (chk n w != 0) [] (rowsF n.toNat (nfW n.toNat w).F))),iv (chk n w)]
theorem ends (n:Int) (w:List Int):EndZ 44 ct false (st0 44 [iv n,il w]) (nmlV n w) [] 0:=by
 have h:=in_t n w
 by_cases z:chk n w=0
 ·obtain ⟨w1,_⟩:=chk_wok z;unfold nmlV;rw [z,show ((0:Int) != 0)=false from rfl,bc_f,bc_f]
  rw [z,show ((0:Int) != 0)=false from rfl,bc_f,dt w1] at h
  have h5:=nf_small w1;obtain ⟨n,rfl⟩:=Int.eq_ofNat_of_zero_le (show 0≤n by have:=w1.1;omega);exact .at ct_ok h (loop (by have:=w1.2.1;omega) (nfW n w).F [] false (by simpa using h5) (.inr rfl))
 ·unfold nmlV;rw [show (chk n w != 0)=true by simp [z],bc_t] at h ⊢;exact (EndZ.done h).weak (Weak.tup (.cons (Weak.refl _) (.cons (Weak.nil _) (.cons (Weak.refl _) .nil))))
end PNml
noncomputable def spPNml:ZCT:=fun ax=>match ax with
 | [.v (.int .i64 n),.lst (.ints .i64 w)]=>some ⟨decide (True),PNml.nmlV n w,[],0⟩
 | _=>none
theorem spPNml_ok:ZCtOk Try.prog 44 spPNml:=fun γ w us ax r hs hc hax hN hfz=>by
 unfold spPNml at hs;split at hs
 case h_2=>cases hs
 rename_i n w;obtain ⟨rfl⟩:=Option.some.inj hs;have hc_0:decide (True)=true:=hc;have hc:=of_decide_eq_true hc_0;exact EndZ.calls (PNml.ends n w) PNml.ct_ok (by kernel_rfl) hax hN hfz
namespace PLnk
noncomputable def ct:Tr ZCC:=(Tr.nil.put 83 (some (dC spPChk))).put 93 (some (dC spPln))
theorem ct_ok:ZCtsOk Try.prog ct:=((ZCtsOk.nil _).add rfl spPChk_ok).add rfl spPln_ok
noncomputable def RUN (s:ES):ZF:=RZs 46 ct [(atS 0 46 6,[[(0,none),(1,none),(7,none),(25,none),(26,none)]]),(atS 0 46 12,[[(7,none),(9,none),(36,none),(37,none),(38,none)]]),(atS 0 46 15,[[(7,none),(9,none),(12,none),(13,none),(36,none),(37,none),(38,none)]]),(atS 0 46 16,[[(7,none),(9,none),(12,none),(13,none),(14,none),(15,none),(36,none),(37,none),(38,none)]]),(atS 0 46 17,[[(7,none),(9,none),(12,none),(13,none),(14,none),(15,none),(36,none),(37,none),(38,none)]])] [] false s

noncomputable def sA (n:Int) (w:List Int) (m:Nat) (rows:List (List U)) (v:Nat) (z i:Int):NS:=⟨[⟨46,83,[(0,(EV.v (Value.int IntKind.i64 (n)))),(1,(EV.lst (SyC.ints IntKind.i64 (w)))),(7,EV.slO 0 1 m true),(25,iv z),(26,iv i)],[.it (.code (nav [1,1,1,0,1,0,0] (bodyOf Try.f46))),.it (.inLoop (nav [1,1,1,0,1,0,0] (bodyOf Try.f46))),.it (.inBlock 0),.it (.code (nav [1,1,1,1] (bodyOf Try.f46)))],[],Option.none⟩],[(0,EK.nest 0 (22,[3]) [.list [.int .i64]] rows v [] true)],1⟩
noncomputable def sB (w:List Int) (m:Nat) (rows:List (List U)) (v:Nat) (e:List Int) (z i:Int):NS:=⟨[⟨46,83,[(7,EV.slO 0 1 m true),(9,(EV.ptr 1 0)),(36,(EV.lst (SyC.ints IntKind.i64 (w)))),(37,iv z),(38,iv i)],[.it (.code (nav [1,1,1,1,1,0,1,0,0] (bodyOf Try.f46))),.it (.inLoop (nav [1,1,1,1,1,0,1,0,0] (bodyOf Try.f46))),.it (.inBlock 2),.it (.code (nav [1,1,1,1,1,1] (bodyOf Try.f46)))],[],Option.none⟩],[(0,EK.nest 0 (22,[3]) [.list [.int .i64]] rows v [] true),(1,EK.seq 92 (.ints .u8 e) true)],2⟩
noncomputable def sC (w:List Int) (m:Nat) (rows:List (List U)) (v:Nat) (e:List Int) (k s z i:Int):NS:=⟨[⟨46,83,[(7,EV.slO 0 1 m true),(9,(EV.ptr 1 0)),(12,iv k),(13,iv s),(36,il w),(37,iv z),(38,iv i)],[.it (.code (nav [1,1,1,1,1,0,1,0,0,1,1,0,0,1,1] (bodyOf Try.f46))),.it (.inBlock 3),.it (.code (nav [1,1,1,1,1,0,1,0,0,1,1,1] (bodyOf Try.f46))),.it (.inLoop (nav [1,1,1,1,1,0,1,0,0] (bodyOf Try.f46))),.it (.inBlock 2),.it (.code (nav [1,1,1,1,1,1] (bodyOf Try.f46)))],[],Option.none⟩],[(0,EK.nest 0 (22,[3]) [.list [.int .i64]] rows v [] true),(1,EK.seq 92 (.ints .u8 e) true)],2⟩
noncomputable def sD (w:List Int) (m:Nat) (rows:List (List U)) (v:Nat) (e:List Int) (k s x y z i:Int):NS:=⟨[⟨46,83,[(7,EV.slO 0 1 m true),(9,(EV.ptr 1 0)),(12,iv k),(13,iv s),(14,.v (.int .u8 x)),(15,.v (.int .u8 y)),(36,il w),(37,iv z),(38,iv i)],[.it (.code (nav [1,1,1,1,1,0,1,0,0,1,1,0,0,1,1,1] (bodyOf Try.f46))),.it (.inBlock 3),.it (.code (nav [1,1,1,1,1,0,1,0,0,1,1,1] (bodyOf Try.f46))),.it (.inLoop (nav [1,1,1,1,1,0,1,0,0] (bodyOf Try.f46))),.it (.inBlock 2),.it (.code (nav [1,1,1,1,1,1] (bodyOf Try.f46)))],[],Option.none⟩],[(0,EK.nest 0 (22,[3]) [.list [.int .i64]] rows v [] true),(1,EK.seq 92 (.ints .u8 e) true)],2⟩
noncomputable def sE (w:List Int) (m:Nat) (rows:List (List U)) (v:Nat) (e:List Int) (k s x y z i:Int):NS:=⟨[⟨46,83,[(7,EV.slO 0 1 m true),(9,(EV.ptr 1 0)),(12,iv k),(13,iv s),(14,.v (.int .u8 x)),(15,.v (.int .u8 y)),(36,il w),(37,iv z),(38,iv i)],[.it (.code (nav [1,1,1,1,1,0,1,0,0,1,1,0,0,1,1,1,1] (bodyOf Try.f46))),.it (.inBlock 3),.it (.code (nav [1,1,1,1,1,0,1,0,0,1,1,1] (bodyOf Try.f46))),.it (.inLoop (nav [1,1,1,1,1,0,1,0,0] (bodyOf Try.f46))),.it (.inBlock 2),.it (.code (nav [1,1,1,1,1,1] (bodyOf Try.f46)))],[],Option.none⟩],[(0,EK.nest 0 (22,[3]) [.list [.int .i64]] rows v [] true),(1,EK.seq 92 (.ints .u8 e) true)],2⟩
theorem in_t (n:Int) (w:List Int):RUN (st0 46 [iv n,il w])=(bc (chk n w != (0:Int)) (.done (EV.tup [(EV.v (Value.slice Option.none 0 0)),(EV.v (Value.int IntKind.i64 (chk n w)))]) [] 0) (bc (bc (decide ((0:Int)≤n)) (bc (decide (n=n)) (decide (n≤(65536:Int))) false) false) (.at (sA (n) (w) (Int.toNat n) (List.replicate (Int.toNat n) (List.map zeroU [Sh.list [Sh.int IntKind.i64]])) ((0:Nat)) (Int.ofNat (Int.toNat n)) ((0:Int)))) .bad)):=by kernel_rfl
theorem a_t (n:Int) (w:List Int) (m:Nat) (rows:List (List U)) (v:Nat) (z i:Int):RUN (stOf (sA n w m rows v z i))=(bc (decide (i < z)) (bc (bc (decide ((0:Int)≤n)) (bc (decide (n≤n)) (decide (n≤(65536:Int))) false) false) (bc (bc (bc (decide ((0:Int)≤i)) (Nat.blt (Int.toNat i) m) false) true false) (bc (bc (Nat.blt (Int.toNat i) (List.length rows)) (bc (Nat.beq (List.length (zerosL (Int.toNat n))) (List.length (zerosL (Int.toNat n)))) (unHoleC (Int.toNat i) (0:Nat) []) false) false) (.at (sA (n) (w) (m) (List.set rows (Int.toNat i) (rset (0:Nat) (U.l (List.map (fun x=>[U.i x]) (zerosL (Int.toNat n)))) (List.getD rows (Int.toNat i) []))) (v+(1:Nat)) (z) (IntKind.wrap IntKind.i64 (i+(1:Int))))) .bad) .bad) .bad) (.at (sB (w) (m) (rows) (v) (e12) (Int.ofNat (List.length w)) ((0:Int))))):=by kernel_rfl
theorem b_t (w:List Int) (m:Nat) (rows:List (List U)) (v:Nat) (e:List Int) (z i:Int):RUN (stOf (sB w m rows v e z i))=(bc (decide (i < z)) (bc (bc (bc (decide ((0:Int)≤i)) (Nat.blt (Int.toNat i) (List.length w)) false) true false) (bc (bc (Nat.blt (Int.toNat i) (List.length w)) true false) (bc (decide (List.getD w (Int.toNat i) (0:Int) < (0:Int))) (.at (sC (w) (m) (rows) (v) (e) (IntKind.wrap IntKind.i64 ((0:Int) - List.getD w (Int.toNat i) (0:Int))) ((-1:Int)) (z) (i))) (.at (sC (w) (m) (rows) (v) (e) (List.getD w (Int.toNat i) (0:Int)) ((1:Int)) (z) (i)))) .bad) .bad) (bc (bc (Nat.beq m (List.length rows)) true false) (.done (EV.tup [(EV.lst (SyC.recs [(Sh.list [(Sh.int IntKind.i64)])] (rows))),(EV.v (Value.int IntKind.i64 (0)))]) [] 0) .bad)):=by kernel_rfl
theorem c_t (w:List Int) (m:Nat) (rows:List (List U)) (v:Nat) (e:List Int) (k s z i:Int):RUN (stOf (sC w m rows v e k s z i))=(bc (bc (bc (bc (bc (decide ((0:Int)≤IntKind.wrap IntKind.i64 (k - (1:Int)))) (Nat.blt (Int.toNat (IntKind.wrap IntKind.i64 (k - (1:Int)))) (12:Nat)) false) true false) (bc (bc (Nat.blt (Int.toNat (IntKind.wrap IntKind.i64 (k - (1:Int)))) (List.length e)) true false) (bc (bc (bc (decide ((0:Int)≤k)) (Nat.blt (Int.toNat k) (12:Nat)) false) true false) (bc (bc (Nat.blt (Int.toNat k) (List.length e)) true false) true false) false) false) false) true false) (.at (sD (w) (m) (rows) (v) (e) (k) (s) (List.getD e (Int.toNat (IntKind.wrap IntKind.i64 (k - (1:Int)))) (0:Int)) (List.getD e (Int.toNat k) (0:Int)) (z) (i))) .bad):=by kernel_rfl
theorem d_t (w:List Int) (m:Nat) (rows:List (List U)) (v:Nat) (e:List Int) (k s x y z i:Int):RUN (stOf (sD w m rows v e k s x y z i))=(bc (bc (bc (decide ((0:Int)≤x)) (Nat.blt (Int.toNat x) m) false) true false) (bc (bc (bc (Nat.blt (Int.toNat x) (List.length rows)) true false) true false) (bc (bc (bc (decide ((0:Int)≤y)) (Nat.blt (Int.toNat y) (List.length (U.list (List.getD (List.getD rows (Int.toNat x) []) (0:Nat) (U.i (0:Int)))))) false) true false) (bc (bc (bc (Nat.beq v v) (bc (Nat.blt (Int.toNat x) (List.length rows)) (Nat.blt (Int.toNat y) (List.length (U.list (List.getD (List.getD rows (Int.toNat x) []) (0:Nat) (U.i (0:Int)))))) false) false) true false) (bc (bc (bc (decide ((0:Int)≤y)) (Nat.blt (Int.toNat y) (List.length (U.list (List.getD (List.getD rows (Int.toNat x) []) (0:Nat) (U.i (0:Int)))))) false) true false) (bc (bc (Nat.beq v v) (bc (Nat.blt (Int.toNat x) (List.length rows)) (Nat.blt (Int.toNat y) (List.length (U.list (List.getD (List.getD rows (Int.toNat x) []) (0:Nat) (U.i (0:Int)))))) false) false) (.at (sE (w) (m) (List.set rows (Int.toNat x) (rset (0:Nat) (U.l (List.map (fun x=>[U.i x]) (List.set (List.map (fun r=>U.int (List.headD r (U.i (0:Int)))) (U.list (List.getD (List.getD rows (Int.toNat x) []) (0:Nat) (U.i (0:Int))))) (Int.toNat y) (IntKind.wrap IntKind.i64 (U.int (List.getD (List.getD (U.list (List.getD (List.getD rows (Int.toNat x) []) (0:Nat) (U.i (0:Int)))) (Int.toNat y) []) (0:Nat) (U.i (0:Int)))+s))))) (List.getD rows (Int.toNat x) []))) (v) (e) (k) (s) (x) (y) (z) (i))) .bad) .bad) .bad) .bad) .bad) .bad):=by kernel_rfl
theorem e_t (w:List Int) (m:Nat) (rows:List (List U)) (v:Nat) (e:List Int) (k s x y z i:Int):RUN (stOf (sE w m rows v e k s x y z i))=(bc (bc (bc (decide ((0:Int)≤y)) (Nat.blt (Int.toNat y) m) false) true false) (bc (bc (bc (Nat.blt (Int.toNat y) (List.length rows)) true false) true false) (bc (bc (bc (decide ((0:Int)≤x)) (Nat.blt (Int.toNat x) (List.length (U.list (List.getD (List.getD rows (Int.toNat y) []) (0:Nat) (U.i (0:Int)))))) false) true false) (bc (bc (bc (Nat.beq v v) (bc (Nat.blt (Int.toNat y) (List.length rows)) (Nat.blt (Int.toNat x) (List.length (U.list (List.getD (List.getD rows (Int.toNat y) []) (0:Nat) (U.i (0:Int)))))) false) false) true false) (bc (bc (bc (decide ((0:Int)≤x)) (Nat.blt (Int.toNat x) (List.length (U.list (List.getD (List.getD rows (Int.toNat y) []) (0:Nat) (U.i (0:Int)))))) false) true false) (bc (bc (Nat.beq v v) (bc (Nat.blt (Int.toNat y) (List.length rows)) (Nat.blt (Int.toNat x) (List.length (U.list (List.getD (List.getD rows (Int.toNat y) []) (0:Nat) (U.i (0:Int)))))) false) false) (bc (bc (bc (decide ((0:Int)≤IntKind.wrap IntKind.i64 (k - (1:Int)))) (Nat.blt (Int.toNat (IntKind.wrap IntKind.i64 (k - (1:Int)))) (12:Nat)) false) true false) (bc (Nat.blt (Int.toNat (IntKind.wrap IntKind.i64 (k - (1:Int)))) (List.length e)) (bc (bc (bc (decide ((0:Int)≤k)) (Nat.blt (Int.toNat k) (12:Nat)) false) true false) (bc (Nat.blt (Int.toNat k) (List.length (List.set e (Int.toNat (IntKind.wrap IntKind.i64 (k - (1:Int)))) y))) (.at (sB (w) (m) (List.set rows (Int.toNat y) (rset (0:Nat) (U.l (List.map (fun x=>[U.i x]) (List.set (List.map (fun r=>U.int (List.headD r (U.i (0:Int)))) (U.list (List.getD (List.getD rows (Int.toNat y) []) (0:Nat) (U.i (0:Int))))) (Int.toNat x) (IntKind.wrap IntKind.i64 (U.int (List.getD (List.getD (U.list (List.getD (List.getD rows (Int.toNat y) []) (0:Nat) (U.i (0:Int)))) (Int.toNat x) []) (0:Nat) (U.i (0:Int)))+s))))) (List.getD rows (Int.toNat y) []))) (v) (List.set (List.set e (Int.toNat (IntKind.wrap IntKind.i64 (k - (1:Int)))) y) (Int.toNat k) x) (z) (IntKind.wrap IntKind.i64 (i+(1:Int))))) .bad) .bad) .bad) .bad) .bad) .bad) .bad) .bad) .bad) .bad):=by kernel_rfl
theorem stepA {w:List Int} {rows:List (List U)} {v i:Nat} (hi:i < n) (hn:n≤12) (hr:rows.length=n):RUN (stOf (sA n w n rows v n i)) = .at (sA n w n (rows.set i (rset 0 (U.l (List.map (fun x=>[U.i x]) (zerosL n))) (rows.getD i []))) (v+1) n (i+1:Nat)):=by
 have e0:Int.toNat (n:Int)=n:=rfl;have e1:Int.toNat (i:Int)=i:=rfl;have e2:unHoleC i 0 []=true:=rfl;rw [a_t,e0,e1,e2];simp (disch:=omega) only [Nat.add_eq,eqSy_self,eqN_self,bc_same,List.length_cons,ofn,wrap_in,dt,df,bltD,bltN,ble_of,bleN,beqD,bc_t,bc_f,nn_ok,Nat.zero_add,to_nat,Int.zero_add,Int.sub_zero,Int.sub_self,Int.cast_ofNat_Int,Int.natCast_zero,Int.toNat_zero,List.take_zero,List.nil_append,List.length_append,List.length_nil];rfl
theorem loopA {w:List Int} (hn:n≤12) {z:EV}:∀ (k i v:Nat),i+k=n→(∀ v,EndZ 46 ct false (stOf (sB w n (mx n fun _ _=>0) v e12 w.length 0)) z [] 0)→EndZ 46 ct false (stOf (sA n w n (List.replicate i [U.l (List.map (fun x=>[U.i x]) (zerosL n))] ++ List.replicate k [U.l []]) v n i)) z [] 0
 | 0,i,v,h,hz=>by
  obtain rfl:i=n:=by omega
  have e:List.replicate i [U.l (List.map (fun x=>[U.i x]) (zerosL i))] ++ List.replicate 0 [U.l []]=mx i fun _ _=>0:=by
   rw [List.replicate_zero,List.append_nil];unfold mx;show _=List.map (fun _=>[U.l (List.map (fun _=>[U.i 0]) (List.range i))]) (List.range i);rw [List.map_const',List.map_const',List.length_range];unfold zerosL;rw [List.map_replicate]
  rw [e];have h1:=a_t i w i (mx i fun _ _=>0) v i i;rw [df (show ¬ (i:Int) < (i:Int) by omega),bc_f] at h1;exact .at ct_ok h1 (hz v)
 | k+1,i,v,h,hz=>by
  have h1:=stepA (w:=w) (rows:=List.replicate i [U.l (List.map (fun x=>[U.i x]) (zerosL n))] ++ List.replicate (k+1) [U.l []]) (v:=v) (i:=i) (by omega) hn (by rw [List.length_append,List.length_replicate,List.length_replicate];omega)
  have e:(List.replicate i [U.l (List.map (fun x=>[U.i x]) (zerosL n))] ++ List.replicate (k+1) [U.l []]).set i (rset 0 (U.l (List.map (fun x=>[U.i x]) (zerosL n))) ((List.replicate i [U.l (List.map (fun x=>[U.i x]) (zerosL n))] ++ List.replicate (k+1) [U.l []]).getD i []))=List.replicate (i+1) [U.l (List.map (fun x=>[U.i x]) (zerosL n))] ++ List.replicate k [U.l []]:=by
   have g:(List.replicate i [U.l (List.map (fun x=>[U.i x]) (zerosL n))] ++ List.replicate (k+1) [U.l []]).getD i []=[U.l []]:=by
    rw [List.getD_eq_getElem?_getD,List.getElem?_append_right (by rw [List.length_replicate];exact Nat.le_refl _),List.length_replicate,Nat.sub_self];rfl
   rw [g,List.set_append_right _ _ (by rw [List.length_replicate];exact Nat.le_refl _),List.length_replicate,Nat.sub_self,List.replicate_succ' (n:=i),List.append_assoc];rfl
  rw [e] at h1;exact .at ct_ok h1 (loopA hn k (i+1) (v+1) (by omega) hz)
theorem stepD {w:List Int} {f:Nat→Nat→Int} {v:Nat} {e:List Int} {k s z i:Int} {x y:Nat} (hn:n≤12) (hx:x < n) (hy:y < n) (hs:-1≤s∧s≤1) (hf:-3000≤f x y∧f x y≤3000):RUN (stOf (sD w n (mx n f) v e k s x y z i)) = .at (sE w n (mx n (upd f x y (f x y+s))) v e k s x y z i):=by
 have e0:Int.toNat (x:Int)=x:=rfl;have e1:Int.toNat (y:Int)=y:=rfl;have l1:(U.list (((mx n f).getD x []).getD 0 (U.i 0))).length=n:=by rw [mx_list hx,List.length_map,List.length_range]
 have l2:=mx_len n f;rw [d_t,e0,e1,mx_get hx hy,wrap_in (f x y+s) (by omega) (by omega),mx_set _ hx,l1,l2];simp (disch:=omega) only [Nat.add_eq,eqSy_self,eqN_self,bc_same,List.length_cons,ofn,wrap_in,dt,df,bltD,bltN,ble_of,bleN,beqD,bc_t,bc_f,nn_ok,Nat.zero_add,to_nat,Int.zero_add,Int.sub_zero,Int.sub_self,Int.cast_ofNat_Int,Int.natCast_zero,Int.toNat_zero,List.take_zero,List.nil_append,List.length_append,List.length_nil]
theorem stepE {w:List Int} {f:Nat→Nat→Int} {v:Nat} {e:List Int} {s z i:Int} {x y j:Nat} (hn:n≤12) (hx:x < n) (hy:y < n) (hs:-1≤s∧s≤1) (hf:-3000≤f y x∧f y x≤3000) (hj:j+1 < n) (he:e.length=12) (hi:0≤i∧i≤3000):RUN (stOf (sE w n (mx n f) v e (j+1:Nat) s x y z i)) = .at (sB w n (mx n (upd f y x (f y x+s))) v ((e.set j y).set (j+1) x) z (i+1)):=by
 have e0:Int.toNat (x:Int)=x:=rfl;have e1:Int.toNat (y:Int)=y:=rfl;have e2:Int.toNat (j:Int)=j:=rfl;have e3:Int.toNat ((j+1:Nat):Int)=j+1:=rfl;have l1:(U.list (((mx n f).getD y []).getD 0 (U.i 0))).length=n:=by rw [mx_list hy,List.length_map,List.length_range]
 have l2:=mx_len n f;have l3:(e.set j (y:Int)).length=12:=by rw [List.length_set,he]
 have w1:IntKind.i64.wrap (((j+1:Nat):Int) - 1)=(j:Int):=by rw [wrap_in _ (by omega) (by omega)];omega
 rw [e_t,e0,e1,mx_get hy hx,wrap_in (f y x+s) (by omega) (by omega),mx_set _ hy,l1,l2,w1,e2,e3,l3,he];simp (disch:=omega) only [Nat.add_eq,eqSy_self,eqN_self,bc_same,List.length_cons,ofn,wrap_in,dt,df,bltD,bltN,ble_of,bleN,beqD,bc_t,bc_f,nn_ok,Nat.zero_add,to_nat,Int.zero_add,Int.sub_zero,Int.sub_self,Int.cast_ofNat_Int,Int.natCast_zero,Int.toNat_zero,List.take_zero,List.nil_append,List.length_append,List.length_nil]
theorem stepC {w:List Int} {rows:List (List U)} {v:Nat} {s z i:Int} {j:Nat} {p:Pm n} (hn:n≤12) (hj:j+1 < n):RUN (stOf (sC w n rows v (pA p) (j+1:Nat) s z i)) = .at (sD w n rows v (pA p) (j+1:Nat) s (p.f j:Nat) (p.f (j+1):Nat) z i):=by
 have e2:Int.toNat (j:Int)=j:=rfl;have e3:Int.toNat ((j+1:Nat):Int)=j+1:=rfl;have w1:IntKind.i64.wrap (((j+1:Nat):Int) - 1)=(j:Int):=by rw [wrap_in _ (by omega) (by omega)];omega
 rw [c_t,w1,e2,e3,pA_get p (show j < 12 by omega),pA_get p (show j+1 < 12 by omega),pA_len];simp (disch:=omega) only [Nat.add_eq,eqSy_self,eqN_self,bc_same,List.length_cons,ofn,wrap_in,dt,df,bltD,bltN,ble_of,bleN,beqD,bc_t,bc_f,nn_ok,Nat.zero_add,to_nat,Int.zero_add,Int.sub_zero,Int.sub_self,Int.cast_ofNat_Int,Int.natCast_zero,Int.toNat_zero,List.take_zero,List.nil_append,List.length_append,List.length_nil]

noncomputable abbrev lkN (w:List Int):Nat→Nat→Int:=lk w id
theorem stepB {w:List Int} {v i:Nat} {x:Int} (hi:i < w.length) (hn:n≤12) (hw:w.length≤2000) (hx:w.getD i 0=x) (hk:0 < x.natAbs∧x.natAbs < n) (hv:Vld n w) {z:EV} (hz:EndZ 46 ct false (stOf (sB w n (mx n (lkN (w.take (i+1)))) v (pA (lnP n (w.take (i+1)))) w.length (i+1:Nat))) z [] 0):EndZ 46 ct false (stOf (sB w n (mx n (lkN (w.take i))) v (pA (lnP n (w.take i))) w.length i)) z [] 0:=by
 have e0:(Int.toNat (i:Int))=i:=rfl;have hb:=b_t w n (mx n (lkN (w.take i))) v (pA (lnP n (w.take i))) w.length i;rw [dt (show (i:Int) < (w.length:Int) by omega),bc_t,e0,hx] at hb;obtain ⟨j,hj⟩:∃ j,x.natAbs=j+1:=⟨x.natAbs - 1,by omega⟩;have hs:-1≤sgL x∧sgL x≤1:=by unfold sgL;split <;> omega
 have h1:RUN (stOf (sB w n (mx n (lkN (w.take i))) v (pA (lnP n (w.take i))) w.length i)) = .at (sC w n (mx n (lkN (w.take i))) v (pA (lnP n (w.take i))) (j+1:Nat) (sgL x) w.length i):=by
  rw [hb];unfold sgL
  by_cases c:x < 0
  ·rw [if_pos c,dt c,wrap_in (0 - x) (by omega) (by omega),show (0 - x)=((j+1:Nat):Int) by omega];simp (disch:=omega) only [Nat.add_eq,eqSy_self,eqN_self,bc_same,List.length_cons,ofn,wrap_in,dt,df,bltD,bltN,ble_of,bleN,beqD,bc_t,bc_f,nn_ok,Nat.zero_add,to_nat,Int.zero_add,Int.sub_zero,Int.sub_self,Int.cast_ofNat_Int,Int.natCast_zero,Int.toNat_zero,List.take_zero,List.nil_append,List.length_append,List.length_nil]
  ·rw [if_neg c,df c,show x=((j+1:Nat):Int) by omega];simp (disch:=omega) only [Nat.add_eq,eqSy_self,eqN_self,bc_same,List.length_cons,ofn,wrap_in,dt,df,bltD,bltN,ble_of,bleN,beqD,bc_t,bc_f,nn_ok,Nat.zero_add,to_nat,Int.zero_add,Int.sub_zero,Int.sub_self,Int.cast_ofNat_Int,Int.natCast_zero,Int.toNat_zero,List.take_zero,List.nil_append,List.length_append,List.length_nil]
 have hvt:Vld n (w.take i):=hv.sub fun y hy=>List.mem_of_mem_take hy;have hf:(lnP n (w.take i)).f=lnF (w.take i) id:=lnP_f hvt (Pm.one n);have hlt:(w.take i).length≤2000:=by rw [List.length_take];omega
 have hlk:∀ a b,-3000≤lkN (w.take i) a b∧lkN (w.take i) a b≤3000:=fun a b=>by
  have:=lk_bound (w.take i) id a b;show -3000≤lk (w.take i) id a b∧lk (w.take i) id a b≤3000;omega
 generalize hp:lnP n (w.take i)=p at *;generalize hg:lkN (w.take i)=f at *;have x1:=p.lt (show j < n by omega);have x2:=p.lt (show j+1 < n by omega);have hne:p.f j≠p.f (j+1):=fun e=>by have:=p.inj e;omega
 have h2:=stepC (w:=w) (rows:=mx n f) (v:=v) (s:=sgL x) (z:=w.length) (i:=i) (p:=p) hn (show j+1 < n by omega);have h3:=stepD (w:=w) (f:=f) (v:=v) (e:=pA p) (k:=(j+1:Nat)) (s:=sgL x) (z:=w.length) (i:=i) hn x1 x2 hs (hlk _ _);have hyx:upd f (p.f j) (p.f (j+1)) (f (p.f j) (p.f (j+1))+sgL x) (p.f (j+1)) (p.f j)=f (p.f (j+1)) (p.f j):=by
  unfold upd;rw [if_neg fun h=>hne h.2]
 have h4:=stepE (w:=w) (f:=upd f (p.f j) (p.f (j+1)) (f (p.f j) (p.f (j+1))+sgL x)) (v:=v) (e:=pA p) (s:=sgL x) (z:=w.length) (i:=i) (j:=j) hn x1 x2 hs (by rw [hyx];exact hlk _ _) (by omega) (pA_len p) (by omega);rw [hyx] at h4;have g0:((pA p).set j (p.f (j+1):Int)).set (j+1) (p.f j:Int)=pA (lnP n (w.take (i+1))):=by
  rw [List.take_succ_eq_append_getElem hi,lnP_app,← getD_at hi,hx,hp];unfold swP;rw [dif_pos hk,← pA_L p hk hn];simp only [hj,Nat.add_sub_cancel]
 have g1:mx n (upd (upd f (p.f j) (p.f (j+1)) (f (p.f j) (p.f (j+1))+sgL x)) (p.f (j+1)) (p.f j) (f (p.f (j+1)) (p.f j)+sgL x))=mx n (lkN (w.take (i+1))):=by
  refine mx_congr fun a b=>?_;show _=lk (w.take (i+1)) id a b;rw [List.take_succ_eq_append_getElem hi,lk_snoc,← getD_at hi,hx,← hf,hj,Nat.add_sub_cancel];have:lk (w.take i) id a b=f a b:=by rw [← hg]
  rw [this];unfold upd
  by_cases c1:a=p.f (j+1)∧b=p.f j
  ·obtain ⟨rfl,rfl⟩:=c1;rw [if_pos ⟨rfl,rfl⟩,if_pos (.inr ⟨rfl,rfl⟩)]
  ·rw [if_neg c1]
   by_cases c2:a=p.f j∧b=p.f (j+1)
   ·obtain ⟨rfl,rfl⟩:=c2;rw [if_pos ⟨rfl,rfl⟩,if_pos (.inl ⟨rfl,rfl⟩)]
   ·rw [if_neg c2,if_neg fun h=>h.elim c2 c1,Int.add_zero]
 rw [g0,g1] at h4;exact .at ct_ok h1 (.at ct_ok h2 (.at ct_ok h3 (.at ct_ok h4 hz)))
theorem last {w:List Int} {f:Nat→Nat→Int} {v:Nat} {e:List Int}:RUN (stOf (sB w n (mx n f) v e w.length w.length)) = .done (.tup [.lst (.recs [.list [.int .i64]] (mx n f)),iv 0]) [] 0:=by
 rw [b_t,df (show ¬ (w.length:Int) < (w.length:Int) by omega),bc_f,mx_len];simp (disch:=omega) only [Nat.add_eq,eqSy_self,eqN_self,bc_same,List.length_cons,ofn,wrap_in,dt,df,bltD,bltN,ble_of,bleN,beqD,bc_t,bc_f,nn_ok,Nat.zero_add,to_nat,Int.zero_add,Int.sub_zero,Int.sub_self,Int.cast_ofNat_Int,Int.natCast_zero,Int.toNat_zero,List.take_zero,List.nil_append,List.length_append,List.length_nil]
theorem loopB {w:List Int} (hn:n≤12) (hw:w.length≤2000) (hv:Vld n w) (v:Nat):∀ (k i:Nat),i+k=w.length→EndZ 46 ct false (stOf (sB w n (mx n (lkN (w.take i))) v (pA (lnP n (w.take i))) w.length i)) (.tup [.lst (.recs [.list [.int .i64]] (mx n (lkN w))),iv 0]) [] 0
 | 0,i,h=>by
  obtain rfl:i=w.length:=by omega
  rw [List.take_length];exact .done last
 | k+1,i,h=>by
  have hi:i < w.length:=by omega
  have hk:0 < (w.getD i 0).natAbs∧(w.getD i 0).natAbs < n:=(show Vld n [w.getD i 0] from fun x hx=>by
   rw [List.mem_singleton.1 hx,getD_at hi];exact hv _ (List.getElem_mem _)).head
  exact stepB hi hn hw rfl hk hv (loopB hn hw hv v k (i+1) (by omega))

noncomputable abbrev lnkV (n:Int) (w:List Int):EV:=.tup [.lst (.recs [.list [.int .i64]] (bc (chk n w != 0) [] (mx n.toNat (lkN w)))),iv (chk n w)]
theorem ends (n:Int) (w:List Int):EndZ 46 ct false (st0 46 [iv n,il w]) (lnkV n w) [] 0:=by
 have h:=in_t n w
 by_cases z:chk n w=0
 ·obtain ⟨⟨w1,w2,w3,w4⟩,_⟩:=chk_wok z;unfold lnkV;rw [z,show ((0:Int) != 0)=false from rfl,bc_f]
  obtain ⟨n,rfl⟩:=Int.eq_ofNat_of_zero_le (show 0≤n by omega);have e0:Int.toNat (n:Int)=n:=rfl;rw [z,show ((0:Int) != 0)=false from rfl,bc_f,e0,dt (show (0:Int)≤n by omega),dt (show (n:Int)=n from rfl),dt (show (n:Int)≤65536 by omega),bc_t,bc_t,bc_t] at h
  refine .at ct_ok h (loopA (by omega) n 0 0 (by omega) fun v=>?_);have:=loopB (n:=n) (w:=w) (by omega) w3 w4 v w.length 0 (by omega);rw [List.take_zero,show lnP n []=Pm.one n from rfl,← e12_one n] at this
  exact this
 ·unfold lnkV;rw [show (chk n w != 0)=true by simp [z],bc_t] at h ⊢;exact (EndZ.done h).weak (Weak.tup (.cons (Weak.nil _) (.cons (Weak.refl _) .nil)))
end PLnk
noncomputable def spPLnk:ZCT:=fun ax=>match ax with
 | [.v (.int .i64 n),.lst (.ints .i64 w)]=>some ⟨decide (True),PLnk.lnkV n w,[],0⟩
 | _=>none
theorem spPLnk_ok:ZCtOk Try.prog 46 spPLnk:=fun γ w us ax r hs hc hax hN hfz=>by
 unfold spPLnk at hs;split at hs
 case h_2=>cases hs
 rename_i n w;obtain ⟨rfl⟩:=Option.some.inj hs;have hc_0:decide (True)=true:=hc;have hc:=of_decide_eq_true hc_0;exact EndZ.calls (PLnk.ends n w) PLnk.ct_ok (by kernel_rfl) hax hN hfz
end Go.Proofs.Ytooimphimnagaaa.Ev
namespace Go.Proofs.Ytooimphimnagaaa.Ev
variable {n:Nat}

noncomputable instance pmDec (p q:Pm n):Decidable (p=q):=Classical.propDecidable _
noncomputable def facR (r:List U):List Int:=List.map (fun r=>U.int (List.headD r (U.i 0))) (U.list (List.getD r 0 (U.i 0)))
def Shrt (A:List (List U)):Prop:=A.length≤5000∧∀ r,r ∈ A→(facR r).length≤100000
noncomputable instance (A:List (List U)):Decidable (Shrt A):=Classical.propDecidable _
end Go.Proofs.Ytooimphimnagaaa.Ev
namespace Go.Proofs.Ytooimphimnagaaa.Ev
open Go.Proofs
namespace RLin
end RLin
namespace RAft
end RAft
namespace RFin
end RFin
namespace RTrn
end RTrn
namespace RFlt
end RFlt
end Go.Proofs.Ytooimphimnagaaa.Ev
namespace Go.Proofs.Ytooimphimnagaaa.Ev
open Go.Proofs
variable {n:Nat}
namespace RLin
end RLin
namespace RAft
end RAft
namespace RFin
end RFin
namespace RTrn
end RTrn
namespace RFlt
end RFlt
end Go.Proofs.Ytooimphimnagaaa.Ev
namespace Go.Proofs.Ytooimphimnagaaa.Ev
open Go.Proofs
namespace RWo
end RWo
namespace RSli
end RSli
end Go.Proofs.Ytooimphimnagaaa.Ev
namespace Go.Proofs.Ytooimphimnagaaa.Ev
open Go.Proofs
variable {n:Nat}
namespace RWo
end RWo
namespace RSli
end RSli
end Go.Proofs.Ytooimphimnagaaa.Ev
namespace Go.Proofs.Ytooimphimnagaaa.Ev
open Go.Proofs
namespace RNrm
end RNrm
end Go.Proofs.Ytooimphimnagaaa.Ev
namespace Go.Proofs.Ytooimphimnagaaa.Ev
open Go.Proofs
variable {n:Nat}
namespace RNrm
end RNrm
end Go.Proofs.Ytooimphimnagaaa.Ev
namespace Go.Proofs.Ytooimphimnagaaa.Ev
open Go.Proofs
theorem eqLI_head (x y:Int) (a b:List Int):eqLI (x :: a) (y :: b)=bc (x != y) false (eqLI a b):=by
 by_cases h:x=y
 ·have e:(x != y)=false:=by simp [h]
  rw [e,bc_f]
  cases hq:eqLI a b with
  | true=>rw [h,eqLI_iff.1 hq,eqLI_iff.2 rfl]
  | false=>
   cases hx:eqLI (x :: a) (y :: b) with
   | false=>rfl
   | true=>
    have:=List.cons.inj (eqLI_iff.1 hx);rw [eqLI_iff.2 this.2] at hq;cases hq
 ·have e:(x != y)=true:=by simp [h]
  rw [e,bc_t]
  cases hx:eqLI (x :: a) (y :: b) with
  | false=>rfl
  | true=>exact absurd (List.cons.inj (eqLI_iff.1 hx)).1 h
theorem eqLI_len {a b:List Int} (h:a.length≠b.length):eqLI a b=false:=by
 cases hx:eqLI a b with
 | false=>rfl
 | true=>exact absurd (congrArg List.length (eqLI_iff.1 hx)) h
namespace RSin
noncomputable def RUN (s:ES):ZF:=RZ 47 .nil (atS 0 47 4) [] [[(0,none),(1,none),(5,none)]] false s

noncomputable def sS (a b:List Int) (i:Int):NS:=⟨[⟨47,26,[(0,(EV.lst (SyC.ints IntKind.i64 (a)))),(1,(EV.lst (SyC.ints IntKind.i64 (b)))),(5,iv i)],[.it (.code (nav [1,1,0,1,0,0,0] (bodyOf Try.f47))),.it (.code (nav [1,1,0,1,0,0,1] (bodyOf Try.f47))),.it (.inLoop (nav [1,1,0,1,0,0] (bodyOf Try.f47))),.it (.inBlock 0),.it (.code (nav [1,1,1] (bodyOf Try.f47)))],[],Option.none⟩],[],0⟩
theorem in_t (a b:List Int):RUN (st0 47 [il a,il b])=(bc (Int.ofNat (List.length a) != Int.ofNat (List.length b)) (.done (EV.v (Value.bool false)) [] 0) (.at (sS (a) (b) ((0:Int))))):=by kernel_rfl
theorem step_t (a b:List Int) (i:Int):RUN (stOf (sS a b i))=(bc (decide (i < Int.ofNat (List.length a))) (bc (bc (bc (bc (bc (decide ((0:Int)≤i)) (Nat.blt (Int.toNat i) (List.length a)) false) true false) (bc (bc (Nat.blt (Int.toNat i) (List.length a)) true false) (bc (bc (bc (decide ((0:Int)≤i)) (Nat.blt (Int.toNat i) (List.length b)) false) true false) (bc (bc (Nat.blt (Int.toNat i) (List.length b)) true false) true false) false) false) false) true false) (bc (List.getD a (Int.toNat i) (0:Int) != List.getD b (Int.toNat i) (0:Int)) (.done (EV.v (Value.bool false)) [] 0) (.at (sS (a) (b) (IntKind.wrap IntKind.i64 (i+(1:Int)))))) .bad) (.done (EV.v (Value.bool true)) [] 0)):=by kernel_rfl
theorem loop {a b:List Int} (hl:a.length=b.length) (hz:a.length≤100000):∀ (k i:Nat),i+k=a.length→EndZ 47 .nil false (stOf (sS a b i)) (bv (eqLI (a.drop i) (b.drop i))) [] 0
 | 0,i,h=>by
  have hs:=step_t a b i;rw [List.drop_eq_nil_of_le (by omega),List.drop_eq_nil_of_le (by omega),eqLI_iff.2 rfl];simp (disch:=omega) only [Nat.add_eq,eqSy_self,eqN_self,bc_same,List.length_cons,ofn,wrap_in,dt,df,bltD,bltN,ble_of,bleN,beqD,bc_t,bc_f,nn_ok,Nat.zero_add,to_nat,Int.zero_add,Int.sub_zero,Int.sub_self,Int.cast_ofNat_Int,Int.natCast_zero,Int.toNat_zero,List.take_zero,List.nil_append,List.length_append,List.length_nil] at hs;exact .done hs
 | k+1,i,h=>by
  have hi:i < a.length:=by omega
  have hi2:i < b.length:=by omega
  have hs:=step_t a b i;have e1:a.getD i 0=a[i]:=getD_at hi;have e2:b.getD i 0=b[i]:=getD_at hi2;rw [to_nat,e1,e2] at hs;rw [List.drop_eq_getElem_cons hi,List.drop_eq_getElem_cons hi2,eqLI_head];simp (disch:=omega) only [Nat.add_eq,eqSy_self,eqN_self,bc_same,List.length_cons,ofn,wrap_in,dt,df,bltD,bltN,ble_of,bleN,beqD,bc_t,bc_f,nn_ok,Nat.zero_add,to_nat,Int.zero_add,Int.sub_zero,Int.sub_self,Int.cast_ofNat_Int,Int.natCast_zero,Int.toNat_zero,List.take_zero,List.nil_append,List.length_append,List.length_nil] at hs
  cases hq:a[i] != b[i] with
  | true=>rw [hq] at hs;exact .done hs
  | false=>rw [hq] at hs;exact .at (.nil _) hs (loop hl hz k (i+1) (by omega))
theorem ends {a b:List Int} (hz:a.length≤100000):EndZ 47 .nil false (st0 47 [il a,il b]) (bv (eqLI a b)) [] 0:=by
 have h:=in_t a b
 by_cases hl:a.length=b.length
 ·have e:(Int.ofNat a.length != Int.ofNat b.length)=false:=by simp [hl]
  rw [e,bc_f] at h;exact .at (.nil _) h (loop hl hz a.length 0 (by omega))
 ·have e:(Int.ofNat a.length != Int.ofNat b.length)=true:=by simp;omega
  rw [e,bc_t] at h;rw [eqLI_len hl];exact .done h
end RSin
noncomputable def spRSin:ZCT:=fun ax=>match ax with
 | [.lst (.ints .i64 a),.lst (.ints .i64 b)]=>some ⟨decide (a.length≤100000),bv (eqLI a b),[],0⟩
 | _=>none
theorem spRSin_ok:ZCtOk Try.prog 47 spRSin:=fun γ w us ax r hs hc hax hN hfz=>by
 unfold spRSin at hs;split at hs
 case h_2=>cases hs
 rename_i a b;obtain ⟨rfl⟩:=Option.some.inj hs;have hc_0:decide (a.length≤100000)=true:=hc;have hc:=of_decide_eq_true hc_0;exact EndZ.calls (RSin.ends hc) (.nil _) (by kernel_rfl) hax hN hfz

noncomputable def sfB:List (List U)→List (List U)→Bool
 | [],[]=>true
 | r :: A,q :: B=>bc (eqLI (facR r) (facR q)) (sfB A B) false
 | _,_=>false
theorem sfB_len:∀ {A B:List (List U)},A.length≠B.length→sfB A B=false
 | [],[],h=>absurd rfl h
 | [],q :: B,_=>rfl
 | r :: A,[],_=>rfl
 | r :: A,q :: B,h=>by
  have:sfB A B=false:=sfB_len fun e=>h (by rw [List.length_cons,List.length_cons,e]);unfold sfB;rw [this];cases eqLI (facR r) (facR q) <;> rfl
namespace RSfo
noncomputable def ct:Tr ZCC:=Tr.nil.put 47 (some (dC spRSin))
theorem ct_ok:ZCtsOk Try.prog ct:=(ZCtsOk.nil _).add rfl spRSin_ok
noncomputable abbrev ll (A:List (List U)):EV:=.lst (.recs [.list [.int .i64]] A)
noncomputable def RUN (s:ES):ZF:=RZ 28 ct (atS 0 28 4) [] [[(0,none),(1,none),(5,none)]] false s

noncomputable def sS (A B:List (List U)) (i:Int):NS:=⟨[⟨28,27,[(0,(EV.lst (SyC.recs [(Sh.list [(Sh.int IntKind.i64)])] (A)))),(1,(EV.lst (SyC.recs [(Sh.list [(Sh.int IntKind.i64)])] (B)))),(5,iv i)],[.it (.code (nav [1,1,0,1,0,0,0] (bodyOf Try.f28))),.it (.code (nav [1,1,0,1,0,0,1] (bodyOf Try.f28))),.it (.inLoop (nav [1,1,0,1,0,0] (bodyOf Try.f28))),.it (.inBlock 0),.it (.code (nav [1,1,1] (bodyOf Try.f28)))],[],Option.none⟩],[],0⟩
theorem in_t (A B:List (List U)):RUN (st0 28 [ll A,ll B])=(bc (Int.ofNat (List.length A) != Int.ofNat (List.length B)) (.done (EV.v (Value.bool false)) [] 0) (.at (sS (A) (B) ((0:Int))))):=by kernel_rfl
theorem step_t (A B:List (List U)) (i:Int):RUN (stOf (sS A B i))=(bc (decide (i < Int.ofNat (List.length A))) (bc (bc (bc (bc (bc (decide ((0:Int)≤i)) (Nat.blt (Int.toNat i) (List.length A)) false) true false) (bc (bc (Nat.blt (Int.toNat i) (List.length A)) true false) (bc (bc (bc (decide ((0:Int)≤i)) (Nat.blt (Int.toNat i) (List.length B)) false) true false) (bc (bc (Nat.blt (Int.toNat i) (List.length B)) true false) (bc (bc (decide (List.length (List.map (fun r=>U.int (List.headD r (U.i (0:Int)))) (U.list (List.getD (List.getD A (Int.toNat i) []) (0:Nat) (U.i (0:Int)))))≤(100000:Nat))) true false) true false) false) false) false) false) true false) (bc (!eqLI (List.map (fun r=>U.int (List.headD r (U.i (0:Int)))) (U.list (List.getD (List.getD A (Int.toNat i) []) (0:Nat) (U.i (0:Int))))) (List.map (fun r=>U.int (List.headD r (U.i (0:Int)))) (U.list (List.getD (List.getD B (Int.toNat i) []) (0:Nat) (U.i (0:Int)))))) (.done (EV.v (Value.bool false)) [] 0) (.at (sS (A) (B) (IntKind.wrap IntKind.i64 (i+(1:Int)))))) .bad) (.done (EV.v (Value.bool true)) [] 0)):=by kernel_rfl
theorem loop {A B:List (List U)} (hl:A.length=B.length) (hz:Shrt A):∀ (k i:Nat),i+k=A.length→EndZ 28 ct false (stOf (sS A B i)) (bv (sfB (A.drop i) (B.drop i))) [] 0
 | 0,i,h=>by
  have hs:=step_t A B i;have hz1:=hz.1;rw [List.drop_eq_nil_of_le (by omega),List.drop_eq_nil_of_le (by omega)];simp (disch:=omega) only [Nat.add_eq,eqSy_self,eqN_self,bc_same,List.length_cons,ofn,wrap_in,dt,df,bltD,bltN,ble_of,bleN,beqD,bc_t,bc_f,nn_ok,Nat.zero_add,to_nat,Int.zero_add,Int.sub_zero,Int.sub_self,Int.cast_ofNat_Int,Int.natCast_zero,Int.toNat_zero,List.take_zero,List.nil_append,List.length_append,List.length_nil] at hs;exact .done hs
 | k+1,i,h=>by
  have hi:i < A.length:=by omega
  have hi2:i < B.length:=by omega
  have hz1:=hz.1;have hs:=step_t A B i;have e1:A.getD i []=A[i]:=getD_at hi;have e2:B.getD i []=B[i]:=getD_at hi2;have f1:∀ r:List U,List.map (fun r=>U.int (List.headD r (U.i 0))) (U.list (List.getD r 0 (U.i 0)))=facR r:=fun _=>rfl;rw [to_nat,e1,e2,f1,f1,dt (hz.2 _ (List.getElem_mem hi))] at hs;rw [List.drop_eq_getElem_cons hi,List.drop_eq_getElem_cons hi2];unfold sfB
  simp (disch:=omega) only [Nat.add_eq,eqSy_self,eqN_self,bc_same,List.length_cons,ofn,wrap_in,dt,df,bltD,bltN,ble_of,bleN,beqD,bc_t,bc_f,nn_ok,Nat.zero_add,to_nat,Int.zero_add,Int.sub_zero,Int.sub_self,Int.cast_ofNat_Int,Int.natCast_zero,Int.toNat_zero,List.take_zero,List.nil_append,List.length_append,List.length_nil] at hs
  cases hq:eqLI (facR A[i]) (facR B[i]) with
  | false=>rw [hq] at hs;exact .done hs
  | true=>rw [hq] at hs;exact .at ct_ok hs (loop hl hz k (i+1) (by omega))
theorem ends {A B:List (List U)} (hz:Shrt A):EndZ 28 ct false (st0 28 [ll A,ll B]) (bv (sfB A B)) [] 0:=by
 have h:=in_t A B
 by_cases hl:A.length=B.length
 ·have e:(Int.ofNat A.length != Int.ofNat B.length)=false:=by simp [hl]
  rw [e,bc_f] at h;exact .at ct_ok h (loop hl hz A.length 0 (by omega))
 ·have e:(Int.ofNat A.length != Int.ofNat B.length)=true:=by simp;omega
  rw [e,bc_t] at h;rw [sfB_len hl];exact .done h
end RSfo
noncomputable def spRSfo:ZCT:=fun ax=>match ax with
 | [.lst (.recs [.list [.int .i64]] A),.lst (.recs [.list [.int .i64]] B)]=>some ⟨decide (Shrt A),bv (sfB A B),[],0⟩
 | _=>none
theorem spRSfo_ok:ZCtOk Try.prog 28 spRSfo:=fun γ w us ax r hs hc hax hN hfz=>by
 unfold spRSfo at hs;split at hs
 case h_2=>cases hs
 rename_i A B;obtain ⟨rfl⟩:=Option.some.inj hs;have hc_0:decide (Shrt A)=true:=hc;have hc:=of_decide_eq_true hc_0;exact EndZ.calls (RSfo.ends hc) RSfo.ct_ok (by kernel_rfl) hax hN hfz
namespace RSam
end RSam
namespace RTri
end RTri
end Go.Proofs.Ytooimphimnagaaa.Ev
namespace Go.Proofs.Ytooimphimnagaaa.Ev
open Go.Proofs
theorem awakeB_run:endsB (exClosed Try.prog ft (drD Try.prog ft 16 4) 25 18)=true:=by kernel_rfl
theorem awakeBC (w:World):Calls Try.prog 25 #[] w fun e w'=>e = .returned (.bool true)∧Stays w w':=closedTrue ftOk (drD_ok mix ftOk 16 4) awakeB_run w
theorem spAwakeB_ok:ZCtOk Try.prog 25 spTrue:=spTrue_ok awakeBC
end Go.Proofs.Ytooimphimnagaaa.Ev
namespace Go.Proofs.Ytooimphimnagaaa
open Go.ChangeShapes Go.WideShapes Go.ChangeAt Go.RowKit

theorem kept_of_stays {W W':World} (h:Ev.Stays W W') (may:MemPlace→Prop):W.keptBut W' may:=by
 refine ⟨h.os,h.output,fun i hi=>?_⟩;have e:=h.block i hi;rw [e]
 cases hb:W.heap[i]? with
 | none=>simp
 | some o=>
  cases o <;> first | exact ⟨rfl,rfl,rfl,fun _ _=>rfl⟩ | exact .inr ⟨rfl,rfl⟩ | rfl
theorem frozen_of_stays {W W':World} (h:Ev.Stays W W') (a:Addr) (ha:a.block < W.heap.size):W'.frozen? a=W.frozen? a:=by
 unfold World.frozen?;rw [h.block _ ha]
section
variable {H:Type} {enc:TypeId × Value→H} {P:Program}

theorem post_of_stays {f:Func} {s:ChangeSpec} {apart fresh handsOn again:Bool} {W W':World} {args:Array Value} {v:Value} {ds gs:List (DataW H)} {before pa pv:List MemPlace}
  (hW:DataW.Whole enc P f.params.toList s.vars apart W args.toList ds gs before)
  (hres:∀ (b:Nat) (sp:Nat→Bool) (hd:Bool),DataW.TrodAll enc P W' b sp hd f.resultTypes.toList (v.resultList f.resultTypes.size) (s.fn H (ds ++ gs)).results [])
  (hargs:∀ sp:Nat→Bool,(∀ p ∈ before,sp p.block=true)→DataW.TrodAll enc P W' 0 sp true f.params.toList args.toList (s.fn H (ds ++ gs)).args pa)
  (hvars:∀ sp:Nat→Bool,(∀ p ∈ before,sp p.block=true)→DataW.TrodVars enc P W' sp s.vars (s.fn H (ds ++ gs)).vars pv)
  (hps:before=pa ++ pv) (hst:Ev.Stays W W')
  (hok:∀ (j:Nat) (t:TypeId) (r:Value),f.resultTypes[j]? = some t→(v.resultList f.resultTypes.size)[j]? = some r→Value.okWide P W' .any 0 t r) :
  s.post enc P f apart fresh handsOn again W args v W':=by
 have hk:W.keptBut W' (· ∈ before):=kept_of_stays hst _;have hold:∀ p ∈ before,(fun b=>decide (b < W.heap.size)) p.block=true:=fun p hp=>by simpa using hW.lt p hp
 have hlt:=fun p hp=>hW.lt p hp;refine ⟨ds,gs,before,[],pa,pv,hW,hres _ _ _,hargs _ hold,hvars _ hold,World.keptBut_mono (fun p hp=>⟨hp,?_⟩) hk,fun _=>?_⟩
 ·rw [hps,List.mem_append] at hp;exact Or.inr hp
 ·obtain ⟨_,_,_,_,_,hz,hn⟩:=hW;refine ⟨hok,_,_,([] ++ pa) ++ pv,⟨[] ++ pa,pv,trodAll_append (hargs _ (fun _ _=>rfl)) (hres _ _ _),hvars _ (fun _ _=>rfl),rfl,?_,?_⟩,?_⟩
  ·intro b off hp;have hp2:MemPlace.cell b off ∈ before:=by rw [hps];simpa using hp
   rw [frozen_of_stays hst _ (hlt _ hp2)];exact hz b off hp2
  ·intro ha;have:=hn ha;rw [hps] at this;simpa using this
  ·intro p hp _;rw [hps];simpa using hp
end
end Go.Proofs.Ytooimphimnagaaa
namespace Go.Proofs.Ytooimphimnagaaa
open Go.ChangeShapes Go.WideShapes Go.ChangeAt Go.RowKit
section
variable {H:Type} {enc:TypeId × Value→H} {P:Program}
theorem same_of_stays {W W':World} (h:Ev.Stays W W') {p:MemPlace} (hp:p.block < W.heap.size):W.sameAt W' p:=by
 cases p with
 | cell b off=>
  show W'.cell? _=W.cell? _;unfold World.cell?;rw [h.block b hp]
 | map b=>exact h.block b hp
theorem args_carry {W W':World} {base:Nat} {sp:Nat→Bool} {hd:Bool}:∀ {ts:List TypeId} {vs:List Value} {ds:List (DataW H)} {ps:List MemPlace},DataW.TrodAll enc P W base sp hd ts vs ds ps→(∀ p ∈ ps,W.sameAt W' p)→DataW.TrodAll enc P W' base sp hd ts vs ds ps
 | [],[],[],_,h,_=>h
 | _ :: _,_ :: _,_ :: _,_,⟨p,q,⟨n,h⟩,hs,e⟩,k=>⟨p,q,⟨n,DataW.trod_carry n _ _ _ h fun x hx=>k x (by rw [e];exact List.mem_append_left _ hx)⟩,args_carry hs fun x hx=>k x (by rw [e];exact List.mem_append_right _ hx),e⟩
 | [],[],_ :: _,_,h,_=>h.elim
 | [],_ :: _,_,_,h,_=>h.elim
 | _ :: _,[],_,_,h,_=>h.elim
 | _ :: _,_ :: _,[],_,h,_=>h.elim

theorem post_law {f:Func} {s:ChangeSpec} {apart fresh handsOn again:Bool} {W W':World} {args:Array Value} {ds:List (DataW H)} {p:List MemPlace} {bt:TypeId} {T:TypeId→Prop} (K:Kids P T) (hz:∀ t e,T t→P.underlying t=some (.slice e)→0 < P.cellsOf e)
  (hbt:P.underlying bt=some .bool) (hrt:f.resultTypes.toList=[bt]) (hsz:f.resultTypes.size=1) (hvs:s.vars=[]) (hfn:s.fn H (ds ++ [])={ results:=[.lit (.bool true)],args:=ds })
  (hpt:∀ t ∈ f.params.toList,T t)
  (hW:DataW.Whole enc P f.params.toList s.vars apart W args.toList ds [] (p ++ [])) (hA:DataW.TrodAll enc P W 0 (fun _=>true) true f.params.toList args.toList ds p) (hst:Ev.Stays W W')
  (hok:∀ (j:Nat) (t:TypeId) (r:Value),f.resultTypes[j]? = some t→((Value.bool true).resultList f.resultTypes.size)[j]? = some r→Value.okWide P W' .any 0 t r) :
  s.post enc P f apart fresh handsOn again W args (.bool true) W':=by
 have hlt:=fun q hq=>hW.lt q hq;refine post_of_stays (pa:=p) (pv:=[]) hW (fun b sp hd=>?_) (fun sp hsp=>?_) (fun sp _=>?_) rfl hst hok
 ·rw [hrt,hfn,hsz];exact trodAll_mk1 (shut_bool hbt _)
 ·rw [hfn];exact DataW.TrodAll.respare K hz hpt (args_carry hA fun q hq=>same_of_stays hst (hlt q (by simpa using hq))) fun q hq=>hsp q (by simpa using hq)
 ·rw [hfn,hvs];rfl
end
namespace Ev


inductive UFit:Sh→U→Prop where
 | int (k:IntKind) (n:Int) (h:(Lit.int k n).wf=true):UFit (.int k) (.i n)
 | bool (b:Bool):UFit .bool (.b b)
 | str (s:ByteArray) (h:s.size≤maxLen):UFit .str (.s s)
 | list (sh:List Sh) (l:List (List U)) (hl:l.length≤maxLen) (hr:∀ j,j < l.length→(l.getD j []).length=sh.length) (h:∀ (j f:Nat) (s:Sh),j < l.length→sh[f]? = some s→UFit s ((l.getD j []).getD f (.i 0))):UFit (.list sh) (.l l)
structure RowFit (sh:List Sh) (r:List U):Prop where
 len:r.length=sh.length
 fit:∀ (f:Nat) (s:Sh),sh[f]? = some s→UFit s (r.getD f (.i 0))
theorem RowFit.nil:RowFit [] []:=⟨rfl,fun f s h=>by simp at h⟩
theorem RowFit.append {sh1 sh2:List Sh} {r1 r2:List U} (h1:RowFit sh1 r1) (h2:RowFit sh2 r2):RowFit (sh1 ++ sh2) (r1 ++ r2):=by
 refine ⟨by simp [h1.len,h2.len],fun f s h=>?_⟩;rw [List.getD_eq_getElem?_getD]
 by_cases hf:f < sh1.length
 ·rw [List.getElem?_append_left hf] at h;rw [List.getElem?_append_left (by rw [h1.len];exact hf),← List.getD_eq_getElem?_getD];exact h1.fit f s h
 ·rw [List.getElem?_append_right (by omega)] at h;rw [List.getElem?_append_right (by rw [h1.len];omega),h1.len,← List.getD_eq_getElem?_getD];exact h2.fit _ s h
theorem recE_app:∀ {sh1 sh2:List Sh} {r1 r2:List U},r1.length=sh1.length→recE (sh1 ++ sh2) (r1 ++ r2)=recE sh1 r1 ++ recE sh2 r2
 | [],sh2,r1,r2,h=>by
  have:r1=[]:=List.eq_nil_of_length_eq_zero h;subst this;rfl
 | s :: sh1,sh2,[],r2,h=>by cases h
 | s :: sh1,sh2,u :: r1,r2,h=>by
  show s.ev u :: recE (sh1 ++ sh2) (r1 ++ r2)=s.ev u :: (recE sh1 r1 ++ recE sh2 r2);rw [recE_app (by simpa using h)]

def shFs (P:Program) (f:TypeId→Option (List Sh)):List Field→Nat→Option (List Sh)
 | [],_=>some []
 | fd :: r,off=>match f fd.type with
  | some sh=>if fd.offset=off∧P.cellsOf fd.type=sh.length then match shFs P f r (off+sh.length) with
   | some l=>some (sh ++ l)
   | none=>none else none
  | none=>none
def shB (P:Program):Nat→TypeId→Option (List Sh)
 | 0,_=>none
 | k+1,t=>match P.underlying t with
  | some (.int κ)=>some [.int κ]
  | some .bool=>some [.bool]
  | some .string=>some [.str]
  | some (.slice e)=>match shB P k e with
   | some sh=>if P.cellsOf e=sh.length∧0 < sh.length then some [.list sh] else none
   | none=>none
  | some (.struct fs)=>match shFs P (shB P k) fs.toList 0 with
   | some sh=>if P.cellsOf t=sh.length then some sh else none
   | none=>none
  | some (.array m e)=>match shB P k e with
   | some sh=>if P.cellsOf e=sh.length∧P.cellsOf t=m * sh.length then some (List.replicate m sh).flatten else none
   | none=>none
  | _=>none
noncomputable def fzAll (W:World):Nat→Option (Array Value):=fun k=>match W.heap[k]? with
 | some (.cells a _ _)=>some a
 | _=>none
noncomputable def gAll (W:World):G:=⟨fun _=>none,fzAll W,fun _ _ _=>none⟩
theorem fzAll_at (W:World):FzAt (gAll W) W:=⟨fun k a hk=>(by
 have hk:fzAll W k=some a:=hk;unfold fzAll at hk;split at hk
 ·rename_i a' ty fz h;injection hk with hk;subst hk
  exact ⟨ty,fz,h⟩
 ·cases hk),fun _ _ _=>rfl⟩
theorem list_of {Q:Nat→List U→Prop}:∀ (n:Nat),(∀ i,i < n→∃ r,Q i r)→∃ l:List (List U),l.length=n∧∀ i,i < n→Q i (l.getD i [])
 | 0,_=>⟨[],rfl,fun i hi=>absurd hi (by omega)⟩
 | n+1,h=>by
  obtain ⟨l,h1,h2⟩:=list_of n fun i hi=>h i (by omega);obtain ⟨r,hr⟩:=h n (by omega);refine ⟨l ++ [r],by simp [h1],fun i hi=>?_⟩;rw [List.getD_eq_getElem?_getD]
  by_cases e:i < n
  ·rw [List.getElem?_append_left (by omega),← List.getD_eq_getElem?_getD];exact h2 i e
  ·have:i=n:=by omega
   subst this;rw [List.getElem?_append_right (by omega),h1,Nat.sub_self];exact hr
variable {H:Type} {enc:TypeId × Value→H} {P:Program} {W:World} {base:Nat} {sp:Nat→Bool} {hd:Bool}
def OpenAt (enc:TypeId × Value→H) (P:Program) (W:World) (base:Nat) (sp:Nat→Bool) (hd:Bool) (k:Nat):Prop:=∀ (t:TypeId) (sh:List Sh) (fuel:Nat) (cs:List Value) (x:DataW H × List MemPlace),shB P k t=some sh→DataW.trod enc P W base sp hd fuel t cs=some x→∃ r,RowFit sh r∧∀ γ:G,γ.fz=fzAll W→ECL γ (recE sh r) cs
theorem fields_open {k:Nat} (ih:OpenAt enc P W base sp hd k) {cs:List Value} {n:Nat}:∀ (fs:List Field) (off:Nat) (sh:List Sh),shFs P (shB P k) fs off=some sh→(∀ f,f ∈ fs→∃ y,DataW.trod enc P W base sp hd n f.type ((cs.drop f.offset).take (P.cellsOf f.type))=some y)→∃ r,RowFit sh r∧∀ γ:G,γ.fz=fzAll W→ECL γ (recE sh r) ((cs.drop off).take sh.length)
 | [],off,sh,h,_=>by
  injection (show some []=some sh from h) with h;subst h
  exact ⟨[],.nil,fun γ _=>by
   rw [show ([]:List Sh).length=0 from rfl,List.take_zero];exact ECL.nil γ⟩
 | fd :: fs,off,sh,h,hall=>by
  unfold shFs at h;split at h
  case h_2=>cases h
  rename_i s1 hs1;split at h
  case isFalse=>cases h
  rename_i hc;split at h
  case h_2=>cases h
  rename_i s2 hs2;injection h with h;subst h
  obtain ⟨y,hy⟩:=hall fd (by simp);rw [hc.1,hc.2] at hy;obtain ⟨r1,h1,h2⟩:=ih fd.type s1 n _ y hs1 hy;obtain ⟨r2,h3,h4⟩:=fields_open ih fs (off+s1.length) s2 hs2 fun f hf=>hall f (by simp [hf]);refine ⟨r1 ++ r2,h1.append h3,fun γ hγ=>?_⟩;rw [recE_app h1.len,List.length_append];have e:(cs.drop off).take (s1.length+s2.length)=(cs.drop off).take s1.length ++ (cs.drop (off+s1.length)).take s2.length:=by
   rw [List.take_add,List.drop_drop]
  rw [e];exact (h2 γ hγ).append (h4 γ hγ)
theorem elems_open {k:Nat} (ih:OpenAt enc P W base sp hd k) {cs:List Value} {n:Nat} {e:TypeId} {sh:List Sh} (hsh:shB P k e=some sh) (hc:P.cellsOf e=sh.length):∀ (m i0:Nat),(∀ i,i < m→∃ y,DataW.trod enc P W base sp hd n e ((cs.drop ((i0+i) * P.cellsOf e)).take (P.cellsOf e))=some y)→∃ r,RowFit (List.replicate m sh).flatten r∧∀ γ:G,γ.fz=fzAll W→ECL γ (recE (List.replicate m sh).flatten r) ((cs.drop (i0 * sh.length)).take (m * sh.length))
 | 0,i0,_=>⟨[],.nil,fun γ _=>by
   rw [Nat.zero_mul,List.take_zero];exact ECL.nil γ⟩
 | m+1,i0,h=>by
  obtain ⟨y,hy⟩:=h 0 (by omega);rw [hc,Nat.add_zero] at hy;obtain ⟨r1,h1,h2⟩:=ih e sh n _ y hsh hy;obtain ⟨r2,h3,h4⟩:=elems_open ih hsh hc m (i0+1) fun i hi=>by
   have:=h (i+1) (by omega)
   rwa [show i0+(i+1)=i0+1+i by omega] at this
  refine ⟨r1 ++ r2,by rw [List.replicate_succ,List.flatten_cons];exact h1.append h3,fun γ hγ=>?_⟩;rw [List.replicate_succ,List.flatten_cons,recE_app h1.len,Nat.succ_mul,Nat.add_comm,List.take_add,List.drop_drop];have:=h4 γ hγ;rw [Nat.succ_mul] at this;exact (h2 γ hγ).append this
theorem open_cells:∀ k,OpenAt enc P W base sp hd k
 | 0=>fun t sh fuel cs x h=>by cases h
 | k+1=>fun t sh fuel cs x h ht=>by
  have ih:OpenAt enc P W base sp hd k:=open_cells k;unfold shB at h;split at h
  ·rename_i κ hu;injection h with h;subst h
   obtain ⟨n,rfl,_,hw⟩:=DataW.trod_int hu ht;refine ⟨[.i n],⟨rfl,fun f s hf=>?_⟩,fun γ _=>.cons (.v _) (.nil _)⟩;obtain ⟨rfl,rfl⟩:=one_f hf;exact .int κ n hw
  ·rename_i hu;injection h with h;subst h
   obtain ⟨b,rfl,_⟩:=DataW.trod_bool hu ht;refine ⟨[.b b],⟨rfl,fun f s hf=>?_⟩,fun γ _=>.cons (.v _) (.nil _)⟩;obtain ⟨rfl,rfl⟩:=one_f hf;exact .bool b
  ·rename_i hu;injection h with h;subst h
   obtain ⟨s,rfl,_,hs⟩:=DataW.trod_string hu ht;refine ⟨[.s s],⟨rfl,fun f s hf=>?_⟩,fun γ _=>.cons (.v _) (.nil _)⟩;obtain ⟨rfl,rfl⟩:=one_f hf;exact .str _ hs
  ·rename_i e hu;split at h
   case h_2=>cases h
   rename_i sh' hsh;split at h
   case isFalse=>cases h
   rename_i hc;injection h with h;subst h
   rcases DataW.trod_slice hu ht with ⟨rfl,_⟩ | ⟨a,len,cap,elems,rest,n,_,rfl,_,hb,hlc,hcm,hel,hall,_⟩
   ·refine ⟨[.l []],⟨rfl,fun f s hf=>?_⟩,fun γ _=>.cons ?_ (.nil _)⟩
    ·obtain ⟨rfl,rfl⟩:=one_f hf;exact .list sh' [] (Nat.zero_le _) (fun j hj=>by simp at hj) (fun j f s hj=>by simp at hj)
    ·exact UOk.ec (s:=.list sh') (.empty sh' (.l []) none 0 rfl (Nat.zero_le _) fun _=>rfl)
   ·have each:∀ i,i < len→∃ r,RowFit sh' r∧∃ ys,W.cells? base (a.add (i * sh'.length)) sh'.length=some ys∧∀ γ:G,γ.fz=fzAll W→ECL γ (recE sh' r) ys:=fun i hi=>by
     have h1:=hall i hi;rw [hc.1] at h1;have h2:i < elems.length:=by omega
     rw [List.getElem?_eq_getElem h2] at h1;obtain ⟨ys,h3,h4⟩:=Option.bind_eq_some_iff.1 h1;obtain ⟨r,h5,h6⟩:=ih e sh' n ys _ hsh h4;exact ⟨r,h5,ys,h3,h6⟩
    obtain ⟨l,hl,hQ⟩:=list_of len each;refine ⟨[.l l],⟨rfl,fun f s hf=>?_⟩,fun γ hγ=>.cons ?_ (.nil _)⟩
    ·obtain ⟨rfl,rfl⟩:=one_f hf;exact .list sh' l (by omega) (fun j hj=>(hQ j (by omega)).1.len) fun j f s hj hf=>(hQ j (by omega)).1.fit f s hf
    ·refine UOk.ec (s:=.list sh') ?_
     by_cases h0:len=0
     ·have:l=[]:=List.eq_nil_of_length_eq_zero (by omega);subst this;subst h0;exact .empty sh' (.l []) (some a) cap rfl hcm fun e=>by cases e
     ·obtain ⟨b,off,spot⟩:=a;have hblk:spot=none∧∃ arr ty fz,W.heap[b]? = some (.cells arr ty fz):=by
       obtain ⟨h1,ys,h2,h3⟩:=hQ 0 (by omega);obtain ⟨_,h4,h5⟩:=World.cells?_some h2;have h6:=h5 0 hc.2;rw [List.getElem?_eq_getElem (show 0 < ys.length by omega)] at h6;have h6:W.cell? ⟨b,off,spot⟩=some ys[0]:=by
        have e:((⟨b,off,spot⟩:Addr).add (0 * sh'.length)).add 0=⟨b,off,spot⟩:=by simp [Addr.add]
        rw [e] at h6;exact h6
       unfold World.cell? at h6;split at h6
       ·rename_i arr ty fz hb';split at h6
        ·cases h6
        ·rename_i hs;exact ⟨by cases spot <;> simp_all,arr,ty,fz,hb'⟩
       ·cases h6
      obtain ⟨rfl,arr,ty,fz,hblk⟩:=hblk;have cellAt:∀ i f,i < len→f < sh'.length→∃ y,W.cell? ⟨b,off+(i * sh'.length+f),none⟩=some y∧∀ s,sh'[f]? = some s→UOk γ.fz s ((l.getD i []).getD f (.i 0)) y:=fun i f hi hf=>by
       obtain ⟨h1,ys,h2,h3⟩:=hQ i hi;obtain ⟨_,h4,h5⟩:=World.cells?_some h2;have h6:=h5 f hf;have h7:f < ys.length:=by omega
       rw [List.getElem?_eq_getElem h7] at h6;refine ⟨ys[f],?_,fun s hs=>?_⟩
       ·have e:((⟨b,off,none⟩:Addr).add (i * sh'.length)).add f=⟨b,off+(i * sh'.length+f),none⟩:=by
         unfold Addr.add;split <;> split <;> simp_all [Nat.add_assoc]
        rw [← h6,e]
       ·have h8:=recE_get (s:=s) (f:=f) (sh:=sh') (l.getD i []) hs;have h9:=(h3 γ hγ).2 f _ ys[f] h8 (List.getElem?_eq_getElem h7);exact UOk.of_ec h9
      have getA:∀ i f,i < len→f < sh'.length→∃ y,arr[off+(i * sh'.length+f)]? = some y∧∀ s,sh'[f]? = some s→UOk γ.fz s ((l.getD i []).getD f (.i 0)) y:=fun i f hi hf=>by
       obtain ⟨y,h1,h2⟩:=cellAt i f hi hf;refine ⟨y,?_,h2⟩;unfold World.cell? at h1;simpa [hblk] using h1
      have hk:γ.fz b=some arr:=by
       rw [hγ];unfold fzAll;rw [hblk]
      subst hl;refine .list sh' (.l l) b off cap arr hk hlc hcm ?_ fun j f s x hj hf hx=>?_
      ·show off+l.length * sh'.length≤arr.size;obtain ⟨y,h1,_⟩:=getA (l.length - 1) (sh'.length - 1) (by omega) (by omega);have:=(Array.getElem?_eq_some_iff.1 h1).1;have e:l.length * sh'.length=(l.length - 1) * sh'.length+sh'.length:=by rw [← Nat.succ_mul];congr 1;omega
       omega
      ·obtain ⟨y,h1,h2⟩:=getA j f hj (List.getElem?_eq_some_iff.1 hf).1;rw [h1] at hx;injection hx with hx;subst hx;exact h2 s hf
  ·rename_i fs hu;split at h
   case h_2=>cases h
   rename_i sh' hsh;split at h
   case isFalse=>cases h
   rename_i hc;injection h with h;subst h
   obtain ⟨xs,n,_,_,hl,hlen,hf⟩:=DataW.trod_struct hu ht;obtain ⟨r,h1,h2⟩:=fields_open (cs:=cs) (n:=n) ih fs.toList 0 sh' hsh fun f hm=>by
    obtain ⟨i,hi,rfl⟩:=List.getElem_of_mem hm;have hi2:i < fs.size:=by simpa using hi
    have:=hf i fs.toList[i] (by simp [hi2]);rw [List.getElem?_eq_getElem (by omega)] at this;exact ⟨_,this⟩
   refine ⟨r,h1,fun γ hγ=>?_⟩;have:=h2 γ hγ
   rwa [List.drop_zero,List.take_of_length_le (by omega)] at this
  ·rename_i m e hu;split at h
   case h_2=>cases h
   rename_i sh' hsh;split at h
   case isFalse=>cases h
   rename_i hc;injection h with h;subst h
   obtain ⟨xs,n,_,_,hl,hlen,hf⟩:=DataW.trod_array hu ht;obtain ⟨r,h1,h2⟩:=elems_open (cs:=cs) (n:=n) ih hsh hc.1 m 0 fun i hi=>by
    have:=hf i hi;rw [List.getElem?_eq_getElem (by omega)] at this;rw [Nat.zero_add];exact ⟨_,this⟩
   refine ⟨r,h1,fun γ hγ=>?_⟩;have:=h2 γ hγ
   rwa [Nat.zero_mul,List.drop_zero,List.take_of_length_le (by omega)] at this
  ·cases h

theorem open_lst {t e:TypeId} {v:Value} {d:DataW H} {ps:List MemPlace} {k b0:Nat} {rc:Reach} {sh:List Sh} (hu:P.underlying t=some (.slice e)) (hs:shB P k t=some [.list sh]) (hv:Value.okWide P W rc b0 t v) (h:DataW.Trod enc P W base sp hd t v d ps):∃ l,UFit (.list sh) (.l l)∧EC (gAll W) (.lst (mkC sh l)) v:=by
 obtain ⟨a,len,cap,rfl⟩:=okWide_slice hu hv;obtain ⟨fuel,hf⟩:=h;obtain ⟨r,h1,h2⟩:=open_cells k t _ fuel _ _ hs hf;have h3:=h2 (gAll W) rfl;obtain ⟨h4,h5⟩:=h1
 match r,h4 with
 | [u],_=>
  have h6:=h5 0 _ rfl;have h6:UFit (.list sh) u:=h6
  cases h6 with
  | list _ l hl hr hh=>
   refine ⟨l,.list sh l hl hr hh,?_⟩;exact h3.2 0 _ _ rfl rfl
end Ev
end Go.Proofs.Ytooimphimnagaaa
namespace Go.Proofs.Ytooimphimnagaaa.Ev
open Go.Proofs
theorem chk_of {n:Nat} {w:List Int} (h1:1≤n) (h2:n≤12) (hl:w.length≤400) (h:Vld n w):chk n w=0:=by
 unfold chk;rw [df (show ¬ (n:Int) < 1 by omega),df (show ¬ (12:Int) < n by omega),df (show ¬ (400:Int) < Int.ofNat w.length by rw [ofn];omega),bc_f,bc_f,bc_f];have:w.any (badL n)=false:=by
  rw [List.any_eq_false];intro x hx hb;obtain ⟨q1,q2,q3⟩:=h x hx;unfold badL at hb;rw [wrap_in (0 - (n:Int)) (by omega) (by omega),show (x == 0)=false by simp [q1],bc_f,df (show ¬ x≤0 - (n:Int) by omega),bc_f,df (show ¬ (n:Int)≤x by omega)] at hb;cases hb
 rw [this,bc_f]
theorem samE_0 {n:Int} {a b:List Int} (h1:chk n a=0) (h2:chk n b=0):samE n a b=0:=by unfold samE;rw [h1,h2];rfl
theorem samB_1 {n:Int} {a b:List Int} (h1:chk n a=0) (h2:chk n b=0) (h:nfW n.toNat a=nfW n.toNat b):samB n a b=true:=by
 unfold samB sameN;rw [samE_0 h1 h2,show ((0:Int) != 0)=false from rfl,bc_f]
 exact decide_eq_true h
theorem prmL_ext {n:Nat} {u v:List Int} (h:∀ x,x < n→gW u x=gW v x):prmL n u=prmL n v:=by
 unfold prmL;exact List.map_congr_left fun x hx=>by rw [h x (List.mem_range.1 hx)]
namespace AGr
end AGr
end Go.Proofs.Ytooimphimnagaaa.Ev
namespace Go.Proofs.Ytooimphimnagaaa.Ev
open Go.Proofs
noncomputable abbrev cl (l:List (List U)):EV:=.lst (.recs [.int .u8,.int .u8,.int .u8] l)
noncomputable def ctCh:Tr ZCC:=(((((((((Tr.nil.put 42 (some (dC spRChk))).put 43 (some (dC spChg))).put 27 (some (dC spPSam))).put 44 (some (dC spPNml))).put 28 (some (dC spRSfo))).put 45 (some (dC spPPrm))).put 46 (some (dC spPLnk))).put 47 (some (dC spRSin))).put 48 (some (dC spSig))).put 25 (some (dC spTrue))
theorem ctCh_ok:ZCtsOk Try.prog ctCh:=((((((((((ZCtsOk.nil _).add rfl spRChk_ok).add rfl spChg_ok).add rfl spPSam_ok).add rfl spPNml_ok).add rfl spRSfo_ok).add rfl spPPrm_ok).add rfl spPLnk_ok).add rfl spRSin_ok).add rfl spSig_ok).add rfl spAwakeB_ok
namespace ACh
noncomputable def RUN (s:ES):ZF:=RZ 8 ctCh (atS 0 8 5) [] [[(0,none),(1,none),(2,none),(7,none),(8,none)]] false s

noncomputable def sL (n:Int) (w:List Int) (l:List (List U)) (v:List Int) (i:Int):NS:=⟨[⟨8,155,[(0,(EV.v (Value.int IntKind.i64 (n)))),(1,(EV.lst (SyC.ints IntKind.i64 (w)))),(2,(EV.lst (SyC.recs [(Sh.int IntKind.u8),(Sh.int IntKind.u8),(Sh.int IntKind.u8)] (l)))),(7,il v),(8,iv i)],[.it (.code (nav [1,1,1,0,1,0,0,0] (bodyOf Try.f8))),.it (.code (nav [1,1,1,0,1,0,0,1] (bodyOf Try.f8))),.it (.inLoop (nav [1,1,1,0,1,0,0] (bodyOf Try.f8))),.it (.inBlock 0),.it (.code (nav [1,1,1,1] (bodyOf Try.f8)))],[],Option.none⟩],[],0⟩
theorem in_t (n:Int) (w:List Int) (l:List (List U)):RUN (st0 8 [iv n,il w,cl l])=(bc (decide ((60:Int) < Int.ofNat (List.length w))) (.done (EV.v (Value.bool true)) [] 0) (bc (decide ((60:Int) < Int.ofNat (List.length l))) (.done (EV.v (Value.bool true)) [] 0) (bc (chk n w != (0:Int)) (.done (EV.v (Value.bool true)) [] 0) (.at (sL (n) (w) (l) (w) ((0:Int))))))):=by kernel_rfl
theorem l_t (n:Int) (w:List Int) (l:List (List U)) (v:List Int) (i:Int):RUN (stOf (sL n w l v i))=(bc (decide (i < Int.ofNat (List.length l))) (bc (bc (bc (decide ((0:Int)≤i)) (Nat.blt (Int.toNat i) (List.length l)) false) true false) (bc (bc (Nat.blt (Int.toNat i) (List.length l)) true false) (bc (decide (ChOk n v (U.int (List.getD (List.getD l (Int.toNat i) []) (0:Nat) (U.i (0:Int)))) (U.int (List.getD (List.getD l (Int.toNat i) []) (Nat.succ (0:Nat)) (U.i (0:Int)))) (U.int (List.getD (List.getD l (Int.toNat i) []) (Nat.succ (Nat.succ (0:Nat))) (U.i (0:Int)))))) (.at (sL (n) (w) (l) (chgW (Int.toNat n) v (Int.toNat (U.int (List.getD (List.getD l (Int.toNat i) []) (0:Nat) (U.i (0:Int))))) (Int.toNat (U.int (List.getD (List.getD l (Int.toNat i) []) (Nat.succ (0:Nat)) (U.i (0:Int))))) (Int.toNat (U.int (List.getD (List.getD l (Int.toNat i) []) (Nat.succ (Nat.succ (0:Nat))) (U.i (0:Int)))))) (IntKind.wrap IntKind.i64 (i+(1:Int))))) .bad) .bad) .bad) (bc (samE n w v != (0:Int)) (.done (EV.v (Value.bool false)) [] 0) (bc (chk n w != (0:Int)) (.done (EV.v (Value.bool false)) [] 0) (bc (chk n v != (0:Int)) (.done (EV.v (Value.bool false)) [] 0) (bc (!samB n w v) (.done (EV.v (Value.bool false)) [] 0) (bc (bc (chk n w != (0:Int)) (0:Int) (Frm.pw (nfW (Int.toNat n) w)) != bc (chk n v != (0:Int)) (0:Int) (Frm.pw (nfW (Int.toNat n) v))) (.done (EV.v (Value.bool false)) [] 0) (bc (bc (decide (Shrt (bc (chk n w != (0:Int)) [] (PNml.rowsF (Int.toNat n) (Frm.F (nfW (Int.toNat n) w)))))) true false) (bc (!sfB (bc (chk n w != (0:Int)) [] (PNml.rowsF (Int.toNat n) (Frm.F (nfW (Int.toNat n) w)))) (bc (chk n v != (0:Int)) [] (PNml.rowsF (Int.toNat n) (Frm.F (nfW (Int.toNat n) v))))) (.done (EV.v (Value.bool false)) [] 0) (bc (chk n w == (0:Int)) (bc (chk n v == (0:Int)) (bc (chk n w == (0:Int)) (bc (chk n v == (0:Int)) (bc (bc (decide (List.length (bc (chk n w != (0:Int)) [] (prmL (Int.toNat n) w))≤(100000:Nat))) true false) (bc (eqLI (bc (chk n w != (0:Int)) [] (prmL (Int.toNat n) w)) (bc (chk n v != (0:Int)) [] (prmL (Int.toNat n) v))) (bc (bc (decide (Shrt (bc (chk n w != (0:Int)) [] (mx (Int.toNat n) (PLnk.lkN w))))) true false) (bc (sfB (bc (chk n w != (0:Int)) [] (mx (Int.toNat n) (PLnk.lkN w))) (bc (chk n v != (0:Int)) [] (mx (Int.toNat n) (PLnk.lkN v)))) (bc (bc (decide (List.length w≤(2000:Nat))) true false) (bc (bc (decide (List.length v≤(2000:Nat))) true false) (bc (LSig.sgN w == LSig.sgN v) (.done (EV.v (Value.bool true)) [] 0) (.done (EV.v (Value.bool false)) [] 0)) .bad) .bad) (.done (EV.v (Value.bool false)) [] 0)) .bad) (.done (EV.v (Value.bool false)) [] 0)) .bad) (.done (EV.v (Value.bool false)) [] 0)) (.done (EV.v (Value.bool false)) [] 0)) (.done (EV.v (Value.bool false)) [] 0)) (.done (EV.v (Value.bool false)) [] 0))) .bad))))))):=by kernel_rfl

def Chs (l:List (List U)):Prop:=∀ j f,0≤U.int ((l.getD j []).getD f (U.i 0))∧U.int ((l.getD j []).getD f (U.i 0)) < 256
theorem sfB_refl:∀ A:List (List U),sfB A A=true
 | []=>rfl
 | r :: A=>by
  show bc (eqLI (facR r) (facR r)) (sfB A A) false=true;rw [eqLI_iff.2 rfl,bc_t,sfB_refl A]
theorem shrt_rows {n:Nat} {F:List (Pm n)} (h:F.length≤5000):Shrt (PNml.rowsF n F):=by
 refine ⟨by unfold PNml.rowsF;rw [List.length_map];exact h,fun r hr=>?_⟩;unfold PNml.rowsF at hr;obtain ⟨p,_,rfl⟩:=List.mem_map.1 hr;unfold facR;rw [List.length_map];show (((pA p).take n).map fun x=>[U.i x]).length≤_;rw [List.length_map,List.length_take,pA_len];omega
theorem shrt_mx {n:Nat} (hn:n≤12) (f:Nat→Nat→Int):Shrt (mx n f):=by
 refine ⟨by rw [mx_len];omega,fun r hr=>?_⟩;unfold mx at hr;obtain ⟨p,_,rfl⟩:=List.mem_map.1 hr;unfold facR;rw [List.length_map];show ((List.range n).map fun b=>[U.i (f p b)]).length≤_;rw [List.length_map,List.length_range];omega
theorem fin {n:Nat} {w v:List Int} {l:List (List U)} {i:Nat} (hn:1≤n∧n≤12) (hw:w.length≤60) (hv:v.length≤400) (vw:Vld n w) (vv:Vld n v) (h:Alk n w v) (hi:l.length≤i):RUN (stOf (sL n w l v i)) = .done (bv true) [] 0:=by
 have zw:=chk_of hn.1 hn.2 (by omega) vw;have zv:=chk_of hn.1 hn.2 hv vv;have w1:=(chk_wok zw).1;have hnf:nfW n w=nfW n v:=by
  by_cases h2:2≤n
  ·exact h.nf h2
  ·have e:∀ u:List Int,Vld n u→u=[]:=fun u hu=>by
    cases u with
    | nil=>rfl
    | cons x u=>have:=hu.head;omega
   rw [e w vw,e v vv]
 have hpr:prmL n v=prmL n w:=prmL_ext fun x _=>(h.g x).symm;have hlk:mx n (PLnk.lkN v)=mx n (PLnk.lkN w):=mx_congr fun a b=>(h.k id a b).symm;have hsg:LSig.sgN v=LSig.sgN w:=by rw [LSig.sgN_sgW fun x hx=>(vv x hx).1,LSig.sgN_sgW fun x hx=>(vw x hx).1,h.s]
 have hsr:Shrt (PNml.rowsF n (nfW n w).F):=shrt_rows (nf_small w1);rw [l_t,df (show ¬ (i:Int) < Int.ofNat l.length by rw [ofn];omega),bc_f,samE_0 zw zv,samB_1 zw zv hnf,zw,zv,show ((n:Int)).toNat=n from rfl]
 simp only [show ((0:Int) != 0)=false from rfl,bc_f,← hnf,hpr,hlk,hsg,bne_self_eq_false,beq_self_eq_true,bc_t,Bool.not_true,sfB_refl,eqLI_iff.2 rfl,dt hsr,dt (shrt_mx hn.2 (PLnk.lkN w)),dt (show (prmL n w).length≤100000 by rw [prmL_len];omega),dt (show w.length≤2000 by omega),dt (show v.length≤2000 by omega)]
theorem loop {n:Nat} {w:List Int} {l:List (List U)} (hn:1≤n∧n≤12) (hw:w.length≤60) (vw:Vld n w) (hl:l.length≤60) (hf:Chs l):∀ (k i:Nat) (v:List Int),i+k=l.length→v.length≤60+2 * i→Vld n v→Alk n w v→EndZ 8 ctCh false (stOf (sL n w l v i)) (bv true) [] 0
 | 0,i,v,h,hv,vv,ha=>.done (fin hn hw (by omega) vw vv ha (by omega))
 | k+1,i,v,h,hv,vv,ha=>by
  have h1:=l_t n w l v i;have e0:Int.toNat (i:Int)=i:=rfl;obtain ⟨a1,a2⟩:=hf i 0;obtain ⟨b1,b2⟩:=hf i 1;obtain ⟨c1,c2⟩:=hf i 2;have ho:ChOk n v (U.int (List.getD (List.getD l i []) 0 (U.i 0))) (U.int (List.getD (List.getD l i []) (Nat.succ 0) (U.i 0))) (U.int (List.getD (List.getD l i []) (Nat.succ (Nat.succ 0)) (U.i 0))):=⟨⟨by omega,by omega,by omega,vv⟩,⟨a1,a2⟩,⟨b1,b2⟩,c1,c2⟩;rw [e0,dt ho,show ((n:Int)).toNat=n from rfl] at h1
  simp (disch:=omega) only [Nat.add_eq,eqSy_self,eqN_self,bc_same,List.length_cons,ofn,wrap_in,dt,df,bltD,bltN,ble_of,bleN,beqD,bc_t,bc_f,nn_ok,Nat.zero_add,to_nat,Int.zero_add,Int.sub_zero,Int.sub_self,Int.cast_ofNat_Int,Int.natCast_zero,Int.toNat_zero,List.take_zero,List.nil_append,List.length_append,List.length_nil] at h1
  obtain ⟨q1,q2,q3⟩:=chgW_ok (n:=n) (w:=v) (k:=(U.int (List.getD (List.getD l i []) 0 (U.i 0))).toNat) (a:=(U.int (List.getD (List.getD l i []) (Nat.succ 0) (U.i 0))).toNat) (i:=(U.int (List.getD (List.getD l i []) (Nat.succ (Nat.succ 0)) (U.i 0))).toNat) vv;exact .at ctCh_ok h1 (loop hn hw vw hl hf k (i+1) _ (by omega) (by omega) q2 (ha.trans q1))
theorem ends (n:Int) (w:List Int) (l:List (List U)) (hf:Chs l):EndZ 8 ctCh false (st0 8 [iv n,il w,cl l]) (bv true) [] 0:=by
 have h:=in_t n w l
 by_cases c1:60 < w.length
 ·rw [dt (show (60:Int) < Int.ofNat w.length by rw [ofn];omega),bc_t] at h;exact .done h
 rw [df (show ¬ (60:Int) < Int.ofNat w.length by rw [ofn];omega),bc_f] at h
 by_cases c3:60 < l.length
 ·rw [dt (show (60:Int) < Int.ofNat l.length by rw [ofn];omega),bc_t] at h;exact .done h
 rw [df (show ¬ (60:Int) < Int.ofNat l.length by rw [ofn];omega),bc_f] at h
 by_cases c2:¬ chk n w=0
 ·rw [show (chk n w != 0)=true by simp [c2],bc_t] at h;exact .done h
 have c2:chk n w=0:=Decidable.of_not_not c2;rw [c2,show ((0:Int) != 0)=false from rfl,bc_f] at h
 obtain ⟨⟨w0,w1,w2,w3⟩,_⟩:=chk_wok c2;obtain ⟨n,rfl⟩:=Int.eq_ofNat_of_zero_le (show 0≤n by omega);exact .at ctCh_ok h (loop (by omega) (by omega) w3 (by omega) hf l.length 0 w (by omega) (by omega) w3 (Alk.refl w))
theorem fit_u8 {u:U} (h:UFit (.int .u8) u):0≤u.int∧u.int < 256:=by
 cases h with
 | int k n h=>
  have h1:IntKind.u8.min≤n∧n≤IntKind.u8.max:=by simpa [Lit.wf] using h
  have e1:IntKind.u8.min=0:=rfl;have e2:IntKind.u8.max=255:=rfl;show 0≤n∧n < 256;omega
theorem chs_of {l:List (List U)} (h:UFit (.list [.int .u8,.int .u8,.int .u8]) (.l l)):Chs l:=by
 intro j f;have z:0≤U.int (U.i 0)∧U.int (U.i 0) < 256:=⟨Int.le_refl _,by decide⟩
 cases h with
 | list _ _ hl hr h=>
 by_cases hj:j < l.length
 ·have h3:(l.getD j []).length=3:=hr j hj
  by_cases hf:f < 3
  ·have hs:[Sh.int .u8,.int .u8,.int .u8][f]? = some (Sh.int .u8):=by
    match f,hf with
    | 0,_=>rfl
    | 1,_=>rfl
    | 2,_=>rfl
   exact fit_u8 (h j f _ hj hs)
  ·have e:(l.getD j []).getD f (U.i 0)=U.i 0:=by
    rw [List.getD_eq_getElem?_getD,List.getElem?_eq_none (by omega)];rfl
   rw [e];exact z
 ·have e:l.getD j []=[]:=by
   rw [List.getD_eq_getElem?_getD,List.getElem?_eq_none (by omega)];rfl
  rw [e];exact z
end ACh
theorem braidsChanges_calls {γ:G} {w:World} {us:Array Value} (n:Int) (wn:(Lit.int .i64 n).wf=true) (a:List (List U)) (wa:UFit (.list [.int .i64]) (.l a)) (b:List (List U)) (wb:UFit (.list [.int .u8,.int .u8,.int .u8]) (.l b)) (hax:ECL γ [iv n,.lst (mkC [.int .i64] a),.lst (mkC [.int .u8,.int .u8,.int .u8] b)] us.toList) (hN:∀ i,γ i=none) (hfz:FzAt γ w):Calls Try.prog 8 us w fun e w'=>e = .returned (.bool true)∧Stays w w':=
 law_of ((ACh.ends n _ b (ACh.chs_of wb)).calls ctCh_ok (by kernel_rfl) hax hN hfz)
end Go.Proofs.Ytooimphimnagaaa.Ev
namespace Go.Proofs.Ytooimphimnagaaa
open Go.ChangeShapes Go.WideShapes Go.ChangeAt Go.RowKit Go.ChangeMaps
theorem knobBraidsChanges:ownKnob Try.prog.godebug=none:=by kernel_rfl
theorem kidsBraidsChanges:Kids Try.prog (· < Try.prog.types.size):=kids_rows (by kernel_rfl) (by kernel_rfl)
theorem fullBraidsChanges:∀ t e,t < Try.prog.types.size→Try.prog.underlying t=some (.slice e)→0 < Try.prog.cellsOf e:=slices_full_of Try.prog (by kernel_rfl)
set_option maxRecDepth 100000 in
theorem liftedBraidsChanges (os:Os) (started:os.Started) (H:Type) (enc:TypeId × Value→H) :
  ReturnsInHanded {} Try.checked os 8 .any (Rows.braidsChangesSpec.pre6 enc Try.prog Try.f8 Rows.braidsChangesRow.domain false) (Rows.braidsChangesSpec.post enc Try.prog Try.f8 false true false false):=by
 refine returnsInHanded_of_change (C:=Try.checked) knobBraidsChanges started (by kernel_rfl) Try.func8
  (ChangeSpec.witness6 (enc:=enc) (C:=Try.checked) false ⟨#[],#[.int .i64 0,.slice none 0 0,.slice none 0 0],[]⟩ 8 (by kernel_rfl) (by kernel_rfl) (by kernel_rfl) (by kernel_rfl)) ?_
 intro W base args ds gs before hval0 hW hcnd _;have hval:∀ (j:Nat) t v,Try.f8.params[j]? = some t→args[j]? = some v→Value.okWide Try.prog W .any base t v:=hval0;have hW':=hW;obtain ⟨p,q,hA0,hV,rfl,hfz,hnd⟩:=hW;have hA:DataW.TrodAll enc Try.prog W 0 (fun _=>true) true Try.f8.params.toList args.toList ds p:=hA0;have hAk:=hA;rw [Try.params8] at hA hval;obtain ⟨rfl,rfl⟩:=trodVars_none hV;obtain ⟨v0,v1,v2,d0,d1,d2,p0,p1,p2,rfl,rfl,rfl,h0,h1,h2⟩:=trodAll_three hA
 obtain ⟨n,rfl,rfl,rfl,wn⟩:=open_int Try.underlying3 (hval 0 3 v0 rfl rfl) h0;obtain ⟨a,wa,ea⟩:=Ev.open_lst (k:=8) Try.underlying22 (by kernel_rfl:Ev.shB Try.prog 8 22=some [.list [.int .i64]]) (hval 1 22 v1 rfl rfl) h1;obtain ⟨b,wb,eb⟩:=Ev.open_lst (k:=8) Try.underlying51 (by kernel_rfl:Ev.shB Try.prog 8 51=some [.list [.int .u8,.int .u8,.int .u8]]) (hval 2 51 v2 rfl rfl) h2;clear hA0 hval0;refine (Ev.braidsChanges_calls n wn a wa b wb (γ:=Ev.gAll W) (.cons (.v _) (.cons ea (.cons eb (.nil _)))) (fun i=>rfl) (Ev.fzAll_at W)).mono fun e W' ⟨he,hg⟩=>?_
 subst he;exact ⟨_,rfl,post_law kidsBraidsChanges fullBraidsChanges Try.underlying4 (by kernel_rfl) (by kernel_rfl) rfl rfl (by rw [Try.params8];decide) hW' hAk hg (ok_one (by kernel_rfl) rfl (okWide_bool_mk Try.underlying4 _))⟩
theorem braidsChanges_holds:Rows.BraidsChangesSaid:=
 OpenClaim.holds_of_wide 8 Try.f8 rfl rfl rfl rfl rfl rfl rfl ⟨rfl,rfl,rfl,rfl,rfl⟩ rfl rfl rfl rfl rfl (by kernel_rfl) Try.func8 (by kernel_rfl)
  (of_decide_eq_true (by kernel_rfl)) (by unfold Func.isWrapper;first | (rw [if_pos (by decide +kernel)];kernel_rfl) | (rw [if_neg (by decide +kernel)];exact ⟨rfl,rfl⟩))
  (fun os started H enc _=>liftedBraidsChanges os started H enc)
end Go.Proofs.Ytooimphimnagaaa
