/- LooseFrees returns true, for all arguments, in every world in which it is called, and nothing that was there turns. -/
import Derived.ProofKit
import Derived.ReadAgain
import Derived.OpenShut
import Derived.Test.YtooimphimnagaaaRows
import Derived.WalkKit
import Derived.Test.YtooimphimnagaaaLFr5
set_option linter.unusedSimpArgs false
set_option linter.unusedVariables false
namespace Go.Proofs.Ytooimphimnagaaa.Ev
open Go.Proofs
namespace PFrA
noncomputable def K0 (t:Int) (l:List Int) (b:List Bool)  : List (Nat × EK):=[(0,.cells 24 [iv t,il l] true),(1,.seq 4 (.bools b) true)]
noncomputable def RUN (s:ES):ZF:=RMs 2 75 ctTg [(atS 0 75 3,[[(0,none),(2,none),(7,none),(15,none),(16,none)]]),(atS 1 116 1,[[(0,none),(5,none),(6,none),(7,none)],[(10,some (1,3,.ints .i64 []))]])] [9,10] [] s

noncomputable def sR (t:Int) (l:List Int) (b:List Bool)  (q:List Bool) (i:Int):NS:=⟨[⟨75,63,[(0,(EV.ptr 0 0)),(2,(EV.fn 78 [])),(7,EV.slO 2 1 b.length true),(15,iv (b.length:Nat)),(16,iv i)],[.it (.code (nav [1,1,0,1,0,0] (bodyOf Try.f75))),.it (.inLoop (nav [1,1,0,1,0,0] (bodyOf Try.f75))),.it (.inBlock 0),.it (.code (nav [1,1,1] (bodyOf Try.f75)))],[],Option.none⟩],[(0,(EK.cells 24 [(EV.v (Value.int IntKind.i64 (t))),(EV.lst (SyC.ints IntKind.i64 (l)))] true)),(1,(EK.seq 4 (SyC.bools (b)) true)),(2,EK.seq 4 (.bools q) true)],3⟩
noncomputable def sG (t:Int) (l:List Int) (b:List Bool)  (q s:List Bool) (ms:Nat) (g:List Int) (nn:Bool) (i:Int):NS:=⟨[⟨116,20,[(0,(EV.yl 2)),(5,EV.slO 3 1 b.length true),(6,iv (b.length:Nat)),(7,iv i)],[.it (.code (nav [1,0,0] (bodyOf Try.f116))),.it (.inLoop (nav [1,0,0] (bodyOf Try.f116))),.it (.inBlock 0)],[],Option.none⟩,⟨75,63,[(10,(EV.ptr 4 0))],[(.inRF 2),.it (.inBlock 2),.it (.code (nav [1,1,1,1,1,1] (bodyOf Try.f75)))],[(DE.mk 5)],Option.none⟩],[(0,(EK.cells 24 [(EV.v (Value.int IntKind.i64 (t))),(EV.lst (SyC.ints IntKind.i64 (l)))] true)),(1,(EK.seq 4 (SyC.bools (b)) true)),(2,(EK.loop LoopState.ready Option.none 75 63 (Tr.node Option.none (Tr.node Option.none Tr.nil (Tr.node Option.none (Tr.node Option.none Tr.nil (Tr.node (Option.some (EV.ptr 4 0)) Tr.nil Tr.nil)) Tr.nil)) (Tr.node Option.none (Tr.node Option.none (Tr.node Option.none Tr.nil (Tr.node (Option.some (EV.ptr 6 0)) Tr.nil Tr.nil)) Tr.nil) Tr.nil)) (Array.mk [52]) (nav [1,1,1,1,1,0,1,0,0] (bodyOf Try.f75)) (nav [1,1,1,1,1,0,1,0,1] (bodyOf Try.f75)) 5)),(3,EK.seq 4 (.bools q) true),(4,EK.cells 22 [EV.slO 7 1 g.length nn] true),(5,(EK.dfr true)),(6,EK.cells 45 [EV.slO 8 1 ms true] true),(7,EK.seq 3 (.ints .i64 g) nn),(8,EK.seq 4 (.bools s) true)],9⟩
theorem in_t (t:Int) (l:List Int) (b:List Bool)  : RUN (st0m 75 [.ptr 0 0,.slO 1 1 b.length true,.fn 78 []] (K0 t l b) 2)=(bc (bc (Nat.beq (List.length b) (List.length b)) (bc (Nat.ble ((0:Nat)+List.length b) (65536:Nat)) true false) false) (.at (sR (t) (l) (b) (List.map (fun r=>U.bool (List.headD r (U.i (0:Int)))) [] ++ b) ((0:Int)))) .bad):=by kernel_rfl
theorem r_t (t:Int) (l:List Int) (b:List Bool)  (q:List Bool) (i:Int):RUN (stOf (sR t l b q i))=(bc (decide (i < (Nat.cast (List.length b):Int))) (bc (bc (bc (decide ((0:Int)≤i)) (Nat.blt (Int.toNat i) (List.length b)) false) true false) (bc (bc (Nat.blt (Int.toNat i) (List.length q)) true false) (bc (List.getD q (Int.toNat i) false) (bc (bc (bc (decide ((0:Int)≤i)) (Nat.blt (Int.toNat i) (List.length l)) false) true false) (bc (bc (Nat.blt (Int.toNat i) (List.length l)) true false) (bc (decide ((1000:Int) < List.getD l (Int.toNat i) (0:Int))) (bc (bc (bc (decide ((0:Int)≤i)) (Nat.blt (Int.toNat i) (List.length b)) false) true false) (bc (Nat.blt (Int.toNat i) (List.length q)) (.at (sR (t) (l) (b) (List.set q (Int.toNat i) !true) (IntKind.wrap IntKind.i64 (i+(1:Int))))) .bad) .bad) (bc (bc (bc (decide ((0:Int)≤i)) (Nat.blt (Int.toNat i) (List.length b)) false) true false) (bc (Nat.blt (Int.toNat i) (List.length q)) (.at (sR (t) (l) (b) (List.set q (Int.toNat i) !false) (IntKind.wrap IntKind.i64 (i+(1:Int))))) .bad) .bad)) .bad) .bad) (bc (bc (bc (decide ((0:Int)≤i)) (Nat.blt (Int.toNat i) (List.length b)) false) true false) (bc (Nat.blt (Int.toNat i) (List.length q)) (.at (sR (t) (l) (b) (List.set q (Int.toNat i) false) (IntKind.wrap IntKind.i64 (i+(1:Int))))) .bad) .bad)) .bad) .bad) (bc (bc (bc (bc (bc (Nat.beq (List.length b) (List.length q)) (decide (TigOk l l (List.length q) (List.length l))) false) true false) true false) (bc (bc (bc (eqSy (SyC.ints IntKind.i64 l) (SyC.ints IntKind.i64 l)) true false) true false) true false) false) (.at (sG (t) (l) (b) (q) (tgB l q) (List.length l) ([]) (false) ((0:Int)))) .bad)):=by kernel_rfl
theorem g_t (t:Int) (l:List Int) (b:List Bool)  (q s:List Bool) (ms:Nat) (g:List Int) (nn:Bool) (i:Int):RUN (stOf (sG t l b q s ms g nn i))=(bc (decide (i < (Nat.cast (List.length b):Int))) (bc (bc (bc (decide ((0:Int)≤i)) (Nat.blt (Int.toNat i) (List.length b)) false) true false) (bc (bc (Nat.blt (Int.toNat i) (List.length q)) true false) (bc (List.getD q (Int.toNat i) false) (bc (bc (bc (decide ((0:Int)≤i)) (Nat.blt (Int.toNat i) ms) false) true false) (bc (bc (Nat.blt (Int.toNat i) (List.length s)) true false) (bc (!List.getD s (Int.toNat i) false) (bc (bc (Nat.beq (List.length g) (List.length g)) (bc (Nat.ble (List.length g+List.length (List.map (fun r=>U.int (List.headD r (U.i (0:Int)))) [[U.i i]])) (65536:Nat)) (bc nn true (bc nn false true)) false) false) (.at (sG (t) (l) (b) (q) (s) (ms) (g ++ List.map (fun r=>U.int (List.headD r (U.i (0:Int)))) [[U.i i]]) (bc nn true (Nat.blt (0:Nat) (List.length (List.map (fun r=>U.int (List.headD r (U.i (0:Int)))) [[U.i i]])))) (IntKind.wrap IntKind.i64 (i+(1:Int))))) .bad) (.at (sG (t) (l) (b) (q) (s) (ms) (g) (nn) (IntKind.wrap IntKind.i64 (i+(1:Int)))))) .bad) .bad) (.at (sG (t) (l) (b) (q) (s) (ms) (g) (nn) (IntKind.wrap IntKind.i64 (i+(1:Int)))))) .bad) .bad) (.done (EV.slO 2 1 (List.length g) (nn)) [(0,(EK.cells 24 [(EV.v (Value.int IntKind.i64 (t))),(EV.lst (SyC.ints IntKind.i64 (l)))] true)),(1,(EK.seq 4 (SyC.bools (b)) true)),(2,(EK.seq 3 (SyC.ints IntKind.i64 (g)) (nn)))] 3)):=by kernel_rfl
end PFrA
namespace PFrB
noncomputable def K0 (t:Int) (l:List Int) (b:List Bool) (o:List Bool) (no:Bool):List (Nat × EK):=[(0,.cells 24 [iv t,il l] true),(1,.seq 4 (.bools b) true),(2,.cells 45 [.slO 3 1 o.length no] true),(3,.seq 4 (.bools o) no)]
noncomputable def RUN (s:ES):ZF:=RMs 2 75 ctTg [(atS 0 75 3,[[(0,none),(2,none),(7,none),(15,none),(16,none)]]),(atS 1 116 1,[[(0,none),(5,none),(6,none),(7,none)],[(10,some (1,3,.ints .i64 []))]])] [9,10] [] s

noncomputable def sR (t:Int) (l:List Int) (b:List Bool) (o:List Bool) (no:Bool) (q:List Bool) (i:Int):NS:=⟨[⟨75,63,[(0,(EV.ptr 0 0)),(2,(EV.fn 76 [(EV.ptr 2 0)])),(7,EV.slO 3 1 b.length true),(15,iv (b.length:Nat)),(16,iv i)],[.it (.code (nav [1,1,0,1,0,0] (bodyOf Try.f75))),.it (.inLoop (nav [1,1,0,1,0,0] (bodyOf Try.f75))),.it (.inBlock 0),.it (.code (nav [1,1,1] (bodyOf Try.f75)))],[],Option.none⟩],[(0,(EK.cells 24 [(EV.v (Value.int IntKind.i64 (t))),(EV.lst (SyC.ints IntKind.i64 (l)))] true)),(1,(EK.seq 4 (SyC.bools (b)) true)),(2,(EK.cells 45 [(EV.slO 4 1 (List.length o) (no))] true)),(3,EK.seq 4 (.bools q) true),(4,(EK.seq 4 (SyC.bools (o)) (no)))],5⟩
noncomputable def sG (t:Int) (l:List Int) (b:List Bool)  (q s:List Bool) (ms:Nat) (g:List Int) (nn:Bool) (i:Int):NS:=⟨[⟨116,20,[(0,(EV.yl 2)),(5,EV.slO 3 1 b.length true),(6,iv (b.length:Nat)),(7,iv i)],[.it (.code (nav [1,0,0] (bodyOf Try.f116))),.it (.inLoop (nav [1,0,0] (bodyOf Try.f116))),.it (.inBlock 0)],[],Option.none⟩,⟨75,63,[(10,(EV.ptr 4 0))],[(.inRF 2),.it (.inBlock 2),.it (.code (nav [1,1,1,1,1,1] (bodyOf Try.f75)))],[(DE.mk 5)],Option.none⟩],[(0,(EK.cells 24 [(EV.v (Value.int IntKind.i64 (t))),(EV.lst (SyC.ints IntKind.i64 (l)))] true)),(1,(EK.seq 4 (SyC.bools (b)) true)),(2,(EK.loop LoopState.ready Option.none 75 63 (Tr.node Option.none (Tr.node Option.none Tr.nil (Tr.node Option.none (Tr.node Option.none Tr.nil (Tr.node (Option.some (EV.ptr 4 0)) Tr.nil Tr.nil)) Tr.nil)) (Tr.node Option.none (Tr.node Option.none (Tr.node Option.none Tr.nil (Tr.node (Option.some (EV.ptr 6 0)) Tr.nil Tr.nil)) Tr.nil) Tr.nil)) (Array.mk [52]) (nav [1,1,1,1,1,0,1,0,0] (bodyOf Try.f75)) (nav [1,1,1,1,1,0,1,0,1] (bodyOf Try.f75)) 5)),(3,EK.seq 4 (.bools q) true),(4,EK.cells 22 [EV.slO 7 1 g.length nn] true),(5,(EK.dfr true)),(6,EK.cells 45 [EV.slO 8 1 ms true] true),(7,EK.seq 3 (.ints .i64 g) nn),(8,EK.seq 4 (.bools s) true)],9⟩
theorem in_t (t:Int) (l:List Int) (b:List Bool) (o:List Bool) (no:Bool):RUN (st0m 75 [.ptr 0 0,.slO 1 1 b.length true,.fn 76 [.ptr 2 0]] (K0 t l b o no) 4)=(bc (bc (Nat.beq (List.length b) (List.length b)) (bc (Nat.ble ((0:Nat)+List.length b) (65536:Nat)) true false) false) (.at (sR (t) (l) (b) (o) (no) (List.map (fun r=>U.bool (List.headD r (U.i (0:Int)))) [] ++ b) ((0:Int)))) .bad):=by kernel_rfl
theorem r_t (t:Int) (l:List Int) (b:List Bool) (o:List Bool) (no:Bool) (q:List Bool) (i:Int):RUN (stOf (sR t l b o no q i))=(bc (decide (i < (Nat.cast (List.length b):Int))) (bc (bc (bc (decide ((0:Int)≤i)) (Nat.blt (Int.toNat i) (List.length b)) false) true false) (bc (bc (Nat.blt (Int.toNat i) (List.length q)) true false) (bc (List.getD q (Int.toNat i) false) (bc (bc (bc (decide ((0:Int)≤i)) (Nat.blt (Int.toNat i) (List.length l)) false) true false) (bc (bc (Nat.blt (Int.toNat i) (List.length l)) true false) (bc (decide ((1000:Int) < List.getD l (Int.toNat i) (0:Int))) (bc (bc (bc (decide ((0:Int)≤i)) (Nat.blt (Int.toNat i) (List.length o)) false) true false) (bc (bc (Nat.blt (Int.toNat i) (List.length o)) true false) (bc (bc (bc (decide ((0:Int)≤i)) (Nat.blt (Int.toNat i) (List.length b)) false) true false) (bc (Nat.blt (Int.toNat i) (List.length q)) (.at (sR (t) (l) (b) (o) (no) (List.set q (Int.toNat i) !List.getD o (Int.toNat i) false) (IntKind.wrap IntKind.i64 (i+(1:Int))))) .bad) .bad) .bad) .bad) (bc (bc (bc (decide ((0:Int)≤i)) (Nat.blt (Int.toNat i) (List.length b)) false) true false) (bc (Nat.blt (Int.toNat i) (List.length q)) (.at (sR (t) (l) (b) (o) (no) (List.set q (Int.toNat i) !false) (IntKind.wrap IntKind.i64 (i+(1:Int))))) .bad) .bad)) .bad) .bad) (bc (bc (bc (decide ((0:Int)≤i)) (Nat.blt (Int.toNat i) (List.length b)) false) true false) (bc (Nat.blt (Int.toNat i) (List.length q)) (.at (sR (t) (l) (b) (o) (no) (List.set q (Int.toNat i) false) (IntKind.wrap IntKind.i64 (i+(1:Int))))) .bad) .bad)) .bad) .bad) (bc (bc (bc (bc (bc (Nat.beq (List.length b) (List.length q)) (decide (TigOk l l (List.length q) (List.length l))) false) true false) true false) (bc (bc (bc (eqSy (SyC.ints IntKind.i64 l) (SyC.ints IntKind.i64 l)) true false) true false) true false) false) (.at (sG (t) (l) (b) (q) (tgB l q) (List.length l) ([]) (false) ((0:Int)))) .bad)):=by kernel_rfl
theorem g_t (t:Int) (l:List Int) (b:List Bool)  (q s:List Bool) (ms:Nat) (g:List Int) (nn:Bool) (i:Int):RUN (stOf (sG t l b q s ms g nn i))=(bc (decide (i < (Nat.cast (List.length b):Int))) (bc (bc (bc (decide ((0:Int)≤i)) (Nat.blt (Int.toNat i) (List.length b)) false) true false) (bc (bc (Nat.blt (Int.toNat i) (List.length q)) true false) (bc (List.getD q (Int.toNat i) false) (bc (bc (bc (decide ((0:Int)≤i)) (Nat.blt (Int.toNat i) ms) false) true false) (bc (bc (Nat.blt (Int.toNat i) (List.length s)) true false) (bc (!List.getD s (Int.toNat i) false) (bc (bc (Nat.beq (List.length g) (List.length g)) (bc (Nat.ble (List.length g+List.length (List.map (fun r=>U.int (List.headD r (U.i (0:Int)))) [[U.i i]])) (65536:Nat)) (bc nn true (bc nn false true)) false) false) (.at (sG (t) (l) (b) (q) (s) (ms) (g ++ List.map (fun r=>U.int (List.headD r (U.i (0:Int)))) [[U.i i]]) (bc nn true (Nat.blt (0:Nat) (List.length (List.map (fun r=>U.int (List.headD r (U.i (0:Int)))) [[U.i i]])))) (IntKind.wrap IntKind.i64 (i+(1:Int))))) .bad) (.at (sG (t) (l) (b) (q) (s) (ms) (g) (nn) (IntKind.wrap IntKind.i64 (i+(1:Int)))))) .bad) .bad) (.at (sG (t) (l) (b) (q) (s) (ms) (g) (nn) (IntKind.wrap IntKind.i64 (i+(1:Int)))))) .bad) .bad) (.done (EV.slO 2 1 (List.length g) (nn)) [(0,(EK.cells 24 [(EV.v (Value.int IntKind.i64 (t))),(EV.lst (SyC.ints IntKind.i64 (l)))] true)),(1,(EK.seq 4 (SyC.bools (b)) true)),(2,(EK.seq 3 (SyC.ints IntKind.i64 (g)) (nn)))] 3)):=by kernel_rfl
end PFrB
namespace PFrC
noncomputable def K0 (t:Int) (l:List Int) (b:List Bool) (kk:Int):List (Nat × EK):=[(0,.cells 24 [iv t,il l] true),(1,.seq 4 (.bools b) true),(2,.cells 3 [iv kk] true)]
noncomputable def RUN (s:ES):ZF:=RMs 3 75 ctTg [(atS 0 75 3,[[(0,none),(2,none),(7,none),(15,none),(16,none)]]),(atS 1 116 1,[[(0,none),(5,none),(6,none),(7,none)],[(10,some (1,3,.ints .i64 []))]])] [9,10] [] s

noncomputable def sR (t:Int) (l:List Int) (b:List Bool) (kk:Int) (q:List Bool) (i:Int):NS:=⟨[⟨75,63,[(0,(EV.ptr 0 0)),(2,(EV.fn 90 [(EV.ptr 2 0)])),(7,EV.slO 3 1 b.length true),(15,iv (b.length:Nat)),(16,iv i)],[.it (.code (nav [1,1,0,1,0,0] (bodyOf Try.f75))),.it (.inLoop (nav [1,1,0,1,0,0] (bodyOf Try.f75))),.it (.inBlock 0),.it (.code (nav [1,1,1] (bodyOf Try.f75)))],[],Option.none⟩],[(0,(EK.cells 24 [(EV.v (Value.int IntKind.i64 (t))),(EV.lst (SyC.ints IntKind.i64 (l)))] true)),(1,(EK.seq 4 (SyC.bools (b)) true)),(2,(EK.cells 3 [(EV.v (Value.int IntKind.i64 (kk)))] true)),(3,EK.seq 4 (.bools q) true)],4⟩
noncomputable def sG (t:Int) (l:List Int) (b:List Bool) (kk:Int) (q s:List Bool) (ms:Nat) (g:List Int) (nn:Bool) (i:Int):NS:=⟨[⟨116,20,[(0,(EV.yl 3)),(5,EV.slO 4 1 b.length true),(6,iv (b.length:Nat)),(7,iv i)],[.it (.code (nav [1,0,0] (bodyOf Try.f116))),.it (.inLoop (nav [1,0,0] (bodyOf Try.f116))),.it (.inBlock 0)],[],Option.none⟩,⟨75,63,[(10,(EV.ptr 5 0))],[(.inRF 3),.it (.inBlock 2),.it (.code (nav [1,1,1,1,1,1] (bodyOf Try.f75)))],[(DE.mk 6)],Option.none⟩],[(0,(EK.cells 24 [(EV.v (Value.int IntKind.i64 (t))),(EV.lst (SyC.ints IntKind.i64 (l)))] true)),(1,(EK.seq 4 (SyC.bools (b)) true)),(2,(EK.cells 3 [(EV.v (Value.int IntKind.i64 (kk)))] true)),(3,(EK.loop LoopState.ready Option.none 75 63 (Tr.node Option.none (Tr.node Option.none Tr.nil (Tr.node Option.none (Tr.node Option.none Tr.nil (Tr.node (Option.some (EV.ptr 5 0)) Tr.nil Tr.nil)) Tr.nil)) (Tr.node Option.none (Tr.node Option.none (Tr.node Option.none Tr.nil (Tr.node (Option.some (EV.ptr 7 0)) Tr.nil Tr.nil)) Tr.nil) Tr.nil)) (Array.mk [52]) (nav [1,1,1,1,1,0,1,0,0] (bodyOf Try.f75)) (nav [1,1,1,1,1,0,1,0,1] (bodyOf Try.f75)) 6)),(4,EK.seq 4 (.bools q) true),(5,EK.cells 22 [EV.slO 8 1 g.length nn] true),(6,(EK.dfr true)),(7,EK.cells 45 [EV.slO 9 1 ms true] true),(8,EK.seq 3 (.ints .i64 g) nn),(9,EK.seq 4 (.bools s) true)],10⟩
theorem in_t (t:Int) (l:List Int) (b:List Bool) (kk:Int):RUN (st0m 75 [.ptr 0 0,.slO 1 1 b.length true,.fn 90 [.ptr 2 0]] (K0 t l b kk) 3)=(bc (bc (Nat.beq (List.length b) (List.length b)) (bc (Nat.ble ((0:Nat)+List.length b) (65536:Nat)) true false) false) (.at (sR (t) (l) (b) (kk) (List.map (fun r=>U.bool (List.headD r (U.i (0:Int)))) [] ++ b) ((0:Int)))) .bad):=by kernel_rfl
theorem r_t (t:Int) (l:List Int) (b:List Bool) (kk:Int) (q:List Bool) (i:Int):RUN (stOf (sR t l b kk q i))=(bc (decide (i < (Nat.cast (List.length b):Int))) (bc (bc (bc (decide ((0:Int)≤i)) (Nat.blt (Int.toNat i) (List.length b)) false) true false) (bc (bc (Nat.blt (Int.toNat i) (List.length q)) true false) (bc (List.getD q (Int.toNat i) false) (bc (bc (bc (decide ((0:Int)≤i)) (Nat.blt (Int.toNat i) (List.length l)) false) true false) (bc (bc (Nat.blt (Int.toNat i) (List.length l)) true false) (bc (decide ((1000:Int) < List.getD l (Int.toNat i) (0:Int))) (bc (bc (bc (decide ((0:Int)≤i)) (Nat.blt (Int.toNat i) (List.length b)) false) true false) (bc (Nat.blt (Int.toNat i) (List.length q)) (.at (sR (t) (l) (b) (kk) (List.set q (Int.toNat i) !i == kk) (IntKind.wrap IntKind.i64 (i+(1:Int))))) .bad) .bad) (bc (bc (bc (decide ((0:Int)≤i)) (Nat.blt (Int.toNat i) (List.length b)) false) true false) (bc (Nat.blt (Int.toNat i) (List.length q)) (.at (sR (t) (l) (b) (kk) (List.set q (Int.toNat i) !false) (IntKind.wrap IntKind.i64 (i+(1:Int))))) .bad) .bad)) .bad) .bad) (bc (bc (bc (decide ((0:Int)≤i)) (Nat.blt (Int.toNat i) (List.length b)) false) true false) (bc (Nat.blt (Int.toNat i) (List.length q)) (.at (sR (t) (l) (b) (kk) (List.set q (Int.toNat i) false) (IntKind.wrap IntKind.i64 (i+(1:Int))))) .bad) .bad)) .bad) .bad) (bc (bc (bc (bc (bc (Nat.beq (List.length b) (List.length q)) (decide (TigOk l l (List.length q) (List.length l))) false) true false) true false) (bc (bc (bc (eqSy (SyC.ints IntKind.i64 l) (SyC.ints IntKind.i64 l)) true false) true false) true false) false) (.at (sG (t) (l) (b) (kk) (q) (tgB l q) (List.length l) ([]) (false) ((0:Int)))) .bad)):=by kernel_rfl
theorem g_t (t:Int) (l:List Int) (b:List Bool) (kk:Int) (q s:List Bool) (ms:Nat) (g:List Int) (nn:Bool) (i:Int):RUN (stOf (sG t l b kk q s ms g nn i))=(bc (decide (i < (Nat.cast (List.length b):Int))) (bc (bc (bc (decide ((0:Int)≤i)) (Nat.blt (Int.toNat i) (List.length b)) false) true false) (bc (bc (Nat.blt (Int.toNat i) (List.length q)) true false) (bc (List.getD q (Int.toNat i) false) (bc (bc (bc (decide ((0:Int)≤i)) (Nat.blt (Int.toNat i) ms) false) true false) (bc (bc (Nat.blt (Int.toNat i) (List.length s)) true false) (bc (!List.getD s (Int.toNat i) false) (bc (bc (Nat.beq (List.length g) (List.length g)) (bc (Nat.ble (List.length g+List.length (List.map (fun r=>U.int (List.headD r (U.i (0:Int)))) [[U.i i]])) (65536:Nat)) (bc nn true (bc nn false true)) false) false) (.at (sG (t) (l) (b) (kk) (q) (s) (ms) (g ++ List.map (fun r=>U.int (List.headD r (U.i (0:Int)))) [[U.i i]]) (bc nn true (Nat.blt (0:Nat) (List.length (List.map (fun r=>U.int (List.headD r (U.i (0:Int)))) [[U.i i]])))) (IntKind.wrap IntKind.i64 (i+(1:Int))))) .bad) (.at (sG (t) (l) (b) (kk) (q) (s) (ms) (g) (nn) (IntKind.wrap IntKind.i64 (i+(1:Int)))))) .bad) .bad) (.at (sG (t) (l) (b) (kk) (q) (s) (ms) (g) (nn) (IntKind.wrap IntKind.i64 (i+(1:Int)))))) .bad) .bad) (.done (EV.slO 3 1 (List.length g) (nn)) [(0,(EK.cells 24 [(EV.v (Value.int IntKind.i64 (t))),(EV.lst (SyC.ints IntKind.i64 (l)))] true)),(1,(EK.seq 4 (SyC.bools (b)) true)),(2,(EK.cells 3 [(EV.v (Value.int IntKind.i64 (kk)))] true)),(3,(EK.seq 3 (SyC.ints IntKind.i64 (g)) (nn)))] 4)):=by kernel_rfl
end PFrC
end Go.Proofs.Ytooimphimnagaaa.Ev
namespace Go.Proofs.Ytooimphimnagaaa.Ev
open Go.Proofs

def rstS (l:List Int) (b:List Bool) (o:Nat→Bool) (i:Nat):List Bool:=(List.range b.length).map fun j=>if j < i then b.getD j false && !(isPn (l.getD j 0) && o j) else b.getD j false
def rstF (l:List Int) (b:List Bool) (o:Nat→Bool):List Bool:=(List.range b.length).map fun j=>b.getD j false && !(isPn (l.getD j 0) && o j)
theorem rstS_len (l:List Int) (b:List Bool) (o:Nat→Bool) (i:Nat):(rstS l b o i).length=b.length:=by unfold rstS;rw [List.length_map,List.length_range]
theorem rstF_len (l:List Int) (b:List Bool) (o:Nat→Bool):(rstF l b o).length=b.length:=by unfold rstF;rw [List.length_map,List.length_range]
theorem rstS_at (l:List Int) (b:List Bool) (o:Nat→Bool) {i:Nat} (hi:i < b.length):(rstS l b o i).getD i false=b.getD i false:=by
 unfold rstS;rw [List.getD_eq_getElem?_getD,List.getElem?_map,List.getElem?_range hi];show (if i < i then _ else _)=_
 rw [if_neg (by omega)]
theorem rstS_zero (l:List Int) (b:List Bool) (o:Nat→Bool):rstS l b o 0=b:=by
 apply List.ext_getElem?;intro i;unfold rstS;rw [List.getElem?_map]
 by_cases h:i < b.length
 ·rw [List.getElem?_range h,List.getElem?_eq_getElem h];show some (if i < 0 then _ else _)=_
  rw [if_neg (by omega),getD_at h]
 ·rw [List.getElem?_eq_none (by rw [List.length_range];omega),List.getElem?_eq_none (by omega)];rfl
theorem rstS_end (l:List Int) (b:List Bool) (o:Nat→Bool):rstS l b o b.length=rstF l b o:=by
 unfold rstS rstF;exact List.map_congr_left fun j hj=>by rw [if_pos (List.mem_range.1 hj)]
theorem rstS_set (l:List Int) (b:List Bool) (o:Nat→Bool) {i:Nat} {v:Bool} (hv:(b.getD i false && !(isPn (l.getD i 0) && o i))=v):(rstS l b o i).set i v=rstS l b o (i+1):=by
 unfold rstS;refine stk_rset ?_ fun a ha=>?_
 ·rw [if_pos (by omega)];exact hv
 ·by_cases c:a < i
  ·rw [if_pos c,if_pos (by omega)]
  ·rw [if_neg c,if_neg (by omega)]

def gonF (q s:List Bool):List Int:=ofNs ((idxB q).filter fun j=>!s.getD j false)
noncomputable def gF (l:List Int) (b:List Bool) (o:Nat→Bool):List Int:=gonF (rstF l b o) (tgB l (rstF l b o))
theorem b_nil (b:List Bool):List.map (fun r=>U.bool (List.headD r (U.i 0))) [] ++ b=b:=rfl
theorem nn_snoc (g:List Int) (v:Int):bc (decide (0 < g.length)) true (Nat.blt 0 (List.length [v]))=decide (0 < (g ++ [v]).length):=by
 rw [show decide (0 < (g ++ [v]).length)=true from decide_eq_true (by simp)]
 cases decide (0 < g.length) <;> rfl
theorem nn_any (nn:Bool):bc nn true (bc nn false true)=true:=by cases nn <;> rfl
def FrOk (l:List Int) (b:List Bool):Prop:=b.length=l.length∧l.length≤3000∧∀ x,x ∈ l→LetOk x
noncomputable instance FrOk.dec (l:List Int) (b:List Bool):Decidable (FrOk l b):=Classical.propDecidable _
def FrOkO (l:List Int) (b o:List Bool):Prop:=FrOk l b∧o.length=l.length
noncomputable instance FrOkO.dec (l:List Int) (b o:List Bool):Decidable (FrOkO l b o):=Classical.propDecidable _
theorem TigOk.of {l:List Int} {b:List Bool} (h:FrOk l b) (o:Nat→Bool):TigOk l l (rstF l b o).length l.length:=⟨rfl,by rw [rstF_len];exact h.1,h.2.1,h.2.2⟩
namespace PFrA
abbrev O  : Nat→Bool:=fun _=>true
theorem stR {t:Int} {l:List Int} {b:List Bool}  {i:Nat} (hi:i < b.length) (hl:b.length=l.length) (hb:l.length≤3000)  : RUN (stOf (sR t l b (rstS l b (O) i) i)) = .at (sR t l b (rstS l b (O) (i+1)) (i+1:Nat)):=by
 have e0:Int.toNat (i:Int)=i:=rfl;rw [r_t,e0,rstS_at l b _ hi,rstS_len]
 cases hbi:b.getD i false with
 | false=>
  rw [rstS_set l b (O) (v:=false) (by rw [hbi];rfl)];simp (disch:=omega) only [Nat.add_eq,eqSy_self,eqN_self,bc_same,List.length_cons,ofn,wrap_in,dt,df,bltD,bltN,ble_of,bleN,beqD,bc_t,bc_f,nn_ok,Nat.zero_add,to_nat,Int.zero_add,Int.sub_zero,Int.sub_self,Int.cast_ofNat_Int,Int.natCast_zero,Int.toNat_zero,List.take_zero,List.nil_append,List.length_append,List.length_nil];rfl
 | true=>
  by_cases hp:1000 < l.getD i 0
  ·rw [dt hp,rstS_set l b (O) (v:=!true) (by rw [hbi,show isPn (l.getD i 0)=true from decide_eq_true hp];rfl)]
   simp (disch:=omega) only [Nat.add_eq,eqSy_self,eqN_self,bc_same,List.length_cons,ofn,wrap_in,dt,df,bltD,bltN,ble_of,bleN,beqD,bc_t,bc_f,nn_ok,Nat.zero_add,to_nat,Int.zero_add,Int.sub_zero,Int.sub_self,Int.cast_ofNat_Int,Int.natCast_zero,Int.toNat_zero,List.take_zero,List.nil_append,List.length_append,List.length_nil];rfl
  ·rw [df hp,rstS_set l b (O) (v:=!false) (by rw [hbi,show isPn (l.getD i 0)=false from decide_eq_false hp];rfl)]
   simp (disch:=omega) only [Nat.add_eq,eqSy_self,eqN_self,bc_same,List.length_cons,ofn,wrap_in,dt,df,bltD,bltN,ble_of,bleN,beqD,bc_t,bc_f,nn_ok,Nat.zero_add,to_nat,Int.zero_add,Int.sub_zero,Int.sub_self,Int.cast_ofNat_Int,Int.natCast_zero,Int.toNat_zero,List.take_zero,List.nil_append,List.length_append,List.length_nil];rfl
theorem endR {t:Int} {l:List Int} {b:List Bool}  (h:FrOk l b):RUN (stOf (sR t l b (rstF l b (O)) b.length)) = .at (sG t l b (rstF l b (O)) (tgB l (rstF l b (O))) l.length [] false 0):=by
 rw [r_t,rstF_len,df (show ¬ (b.length:Int) < (b.length:Int) by omega),bc_f];have h1:=TigOk.of h (O);rw [rstF_len] at h1;rw [dt h1];simp (disch:=omega) only [Nat.add_eq,eqSy_self,eqN_self,bc_same,List.length_cons,ofn,wrap_in,dt,df,bltD,bltN,ble_of,bleN,beqD,bc_t,bc_f,nn_ok,Nat.zero_add,to_nat,Int.zero_add,Int.sub_zero,Int.sub_self,Int.cast_ofNat_Int,Int.natCast_zero,Int.toNat_zero,List.take_zero,List.nil_append,List.length_append,List.length_nil]
theorem stG {t:Int} {l:List Int} {b:List Bool}  {q s:List Bool} {ms:Nat} {g:List Int} {i:Nat} (hi:i < b.length) (hq:q.length=b.length) (hs:s.length=ms) (hm:ms=b.length) (hb:b.length≤3000) (hg:g.length≤i):RUN (stOf (sG t l b q s ms g (decide (0 < g.length)) i)) = .at (sG t l b q s ms (g ++ (if q.getD i false && !s.getD i false then [(i:Int)] else [])) (decide (0 < (g ++ (if q.getD i false && !s.getD i false then [(i:Int)] else [])).length)) (i+1:Nat)):=by
 have e0:Int.toNat (i:Int)=i:=rfl;have m1:List.map (fun r=>U.int (List.headD r (U.i 0))) [[U.i (i:Int)]]=[(i:Int)]:=rfl;rw [g_t,e0,m1,nn_snoc,nn_any,hq,hs]
 cases q.getD i false with
 | false=>
  rw [show (false && !s.getD i false)=false from rfl,if_neg (by simp),List.append_nil]
  simp (disch:=omega) only [Nat.add_eq,eqSy_self,eqN_self,bc_same,List.length_cons,ofn,wrap_in,dt,df,bltD,bltN,ble_of,bleN,beqD,bc_t,bc_f,nn_ok,Nat.zero_add,to_nat,Int.zero_add,Int.sub_zero,Int.sub_self,Int.cast_ofNat_Int,Int.natCast_zero,Int.toNat_zero,List.take_zero,List.nil_append,List.length_append,List.length_nil];rfl
 | true=>
  cases s.getD i false with
  | false=>
   rw [show (true && !false)=true from rfl,if_pos rfl]
   simp (disch:=omega) only [Nat.add_eq,eqSy_self,eqN_self,bc_same,List.length_cons,ofn,wrap_in,dt,df,bltD,bltN,ble_of,bleN,beqD,bc_t,bc_f,nn_ok,Nat.zero_add,to_nat,Int.zero_add,Int.sub_zero,Int.sub_self,Int.cast_ofNat_Int,Int.natCast_zero,Int.toNat_zero,List.take_zero,List.nil_append,List.length_append,List.length_nil,Bool.not_false];rfl
  | true=>
   rw [show (true && !true)=false from rfl,if_neg (by simp),List.append_nil]
   simp (disch:=omega) only [Nat.add_eq,eqSy_self,eqN_self,bc_same,List.length_cons,ofn,wrap_in,dt,df,bltD,bltN,ble_of,bleN,beqD,bc_t,bc_f,nn_ok,Nat.zero_add,to_nat,Int.zero_add,Int.sub_zero,Int.sub_self,Int.cast_ofNat_Int,Int.natCast_zero,Int.toNat_zero,List.take_zero,List.nil_append,List.length_append,List.length_nil,Bool.not_true];rfl
theorem loopG {t:Int} {l:List Int} {b:List Bool}  {q s:List Bool} {ms:Nat} (hq:q.length=b.length) (hs:s.length=ms) (hm:ms=b.length) (hb:b.length≤3000):∀ (k i:Nat) (g:List Int),i+k=b.length→g.length≤i→EndM 2 75 ctTg (stOf (sG t l b q s ms g (decide (0 < g.length)) i)) (.slO 2 1 (g ++ ofNs (((List.range' i k).filter fun j=>q.getD j false).filter fun j=>!s.getD j false)).length (decide (0 < (g ++ ofNs (((List.range' i k).filter fun j=>q.getD j false).filter fun j=>!s.getD j false)).length))) (K0 t l b ++ [(2,.seq 3 (.ints .i64 (g ++ ofNs (((List.range' i k).filter fun j=>q.getD j false).filter fun j=>!s.getD j false))) (decide (0 < (g ++ ofNs (((List.range' i k).filter fun j=>q.getD j false).filter fun j=>!s.getD j false)).length)))]) 3
 | 0,i,g,h,hg=>by
  have h1:=g_t t l b q s ms g (decide (0 < g.length)) i;rw [df (show ¬ (i:Int) < (b.length:Int) by omega),bc_f] at h1;have e:g ++ ofNs (((List.range' i 0).filter fun j=>q.getD j false).filter fun j=>!s.getD j false)=g:=List.append_nil g;rw [e];exact .done h1
 | k+1,i,g,h,hg=>by
  have h1:=stG (t:=t) (l:=l) (b:=b)  (q:=q) (s:=s) (ms:=ms) (g:=g) (i:=i) (by omega) hq hs hm hb hg;have e:∀ g:List Int,g ++ ofNs (((List.range' i (k+1)).filter fun j=>q.getD j false).filter fun j=>!s.getD j false)=(g ++ (if q.getD i false && !s.getD i false then [(i:Int)] else [])) ++ ofNs (((List.range' (i+1) k).filter fun j=>q.getD j false).filter fun j=>!s.getD j false):=fun g=>by
   rw [List.range'_succ,List.append_assoc];congr 1
   cases hqi:q.getD i false with
   | false=>rw [List.filter_cons_of_neg (p:=fun j=>q.getD j false) (by rw [hqi];simp)];rfl
   | true=>
    rw [List.filter_cons_of_pos (p:=fun j=>q.getD j false) hqi]
    cases hsi:s.getD i false with
    | false=>rw [List.filter_cons_of_pos (p:=fun j=>!s.getD j false) (by rw [hsi];rfl)];rfl
    | true=>rw [List.filter_cons_of_neg (p:=fun j=>!s.getD j false) (by rw [hsi];simp)];rfl
  rw [e];exact .at ctTg_ok h1 (loopG hq hs hm hb k (i+1) _ (by omega) (by rw [List.length_append];split <;> simp <;> omega))
theorem loopR {t:Int} {l:List Int} {b:List Bool}  (h:FrOk l b)  : ∀ (k i:Nat),i+k=b.length→EndM 2 75 ctTg (stOf (sR t l b (rstS l b (O) i) i)) (.slO 2 1 (gF l b (O)).length (decide (0 < (gF l b (O)).length))) (K0 t l b ++ [(2,.seq 3 (.ints .i64 (gF l b (O))) (decide (0 < (gF l b (O)).length)))]) 3
 | 0,i,hi=>by
  obtain rfl:i=b.length:=by omega
  rw [rstS_end];have h2:=loopG (t:=t) (l:=l) (b:=b)  (q:=rstF l b (O)) (s:=tgB l (rstF l b (O))) (ms:=l.length) (rstF_len _ _ _) (tgB_len _ _) h.1.symm (by have:=h.1;have:=h.2.1;omega) b.length 0 [] (by omega) (Nat.le_refl _);rw [← List.range_eq_range',List.nil_append] at h2;have e:ofNs (((List.range b.length).filter fun j=>(rstF l b (O)).getD j false).filter fun j=>!(tgB l (rstF l b (O))).getD j false)=gF l b (O):=by
   unfold gF gonF idxB;rw [rstF_len]
  rw [e] at h2;exact .at ctTg_ok (endR h) h2
 | k+1,i,hi=>.at ctTg_ok (stR (by omega) h.1 h.2.1 ) (loopR h k (i+1) (by omega))
theorem ends {t:Int} {l:List Int} {b:List Bool}  (h:FrOk l b)  : EndM 2 75 ctTg (st0m 75 [.ptr 0 0,.slO 1 1 b.length true,.fn 78 []] (K0 t l b) 2) (.slO 2 1 (gF l b (O)).length (decide (0 < (gF l b (O)).length))) (K0 t l b ++ [(2,.seq 3 (.ints .i64 (gF l b (O))) (decide (0 < (gF l b (O)).length)))]) 3:=by
 have h1:=in_t t l b;have hb:b.length≤3000:=by have:=h.1;have:=h.2.1;omega
 rw [b_nil] at h1;simp (disch:=omega) only [Nat.add_eq,eqSy_self,eqN_self,bc_same,List.length_cons,ofn,wrap_in,dt,df,bltD,bltN,ble_of,bleN,beqD,bc_t,bc_f,nn_ok,Nat.zero_add,to_nat,Int.zero_add,Int.sub_zero,Int.sub_self,Int.cast_ofNat_Int,Int.natCast_zero,Int.toNat_zero,List.take_zero,List.nil_append,List.length_append,List.length_nil] at h1;have h2:=loopR (t:=t)  h b.length 0 (by omega);rw [rstS_zero] at h2;exact .at ctTg_ok h1 h2
end PFrA
namespace PFrB
abbrev O (o:List Bool):Nat→Bool:=fun j=>o.getD j false
theorem stR {t:Int} {l:List Int} {b:List Bool} {o:List Bool} {no:Bool} {i:Nat} (hi:i < b.length) (hl:b.length=l.length) (hb:l.length≤3000) (ho:i < o.length):RUN (stOf (sR t l b o no (rstS l b (O o) i) i)) = .at (sR t l b o no (rstS l b (O o) (i+1)) (i+1:Nat)):=by
 have e0:Int.toNat (i:Int)=i:=rfl;rw [r_t,e0,rstS_at l b _ hi,rstS_len]
 cases hbi:b.getD i false with
 | false=>
  rw [rstS_set l b (O o) (v:=false) (by rw [hbi];rfl)];simp (disch:=omega) only [Nat.add_eq,eqSy_self,eqN_self,bc_same,List.length_cons,ofn,wrap_in,dt,df,bltD,bltN,ble_of,bleN,beqD,bc_t,bc_f,nn_ok,Nat.zero_add,to_nat,Int.zero_add,Int.sub_zero,Int.sub_self,Int.cast_ofNat_Int,Int.natCast_zero,Int.toNat_zero,List.take_zero,List.nil_append,List.length_append,List.length_nil];rfl
 | true=>
  by_cases hp:1000 < l.getD i 0
  ·rw [dt hp,rstS_set l b (O o) (v:=!o.getD i false) (by rw [hbi,show isPn (l.getD i 0)=true from decide_eq_true hp];rfl)]
   simp (disch:=omega) only [Nat.add_eq,eqSy_self,eqN_self,bc_same,List.length_cons,ofn,wrap_in,dt,df,bltD,bltN,ble_of,bleN,beqD,bc_t,bc_f,nn_ok,Nat.zero_add,to_nat,Int.zero_add,Int.sub_zero,Int.sub_self,Int.cast_ofNat_Int,Int.natCast_zero,Int.toNat_zero,List.take_zero,List.nil_append,List.length_append,List.length_nil];rfl
  ·rw [df hp,rstS_set l b (O o) (v:=!false) (by rw [hbi,show isPn (l.getD i 0)=false from decide_eq_false hp];rfl)]
   simp (disch:=omega) only [Nat.add_eq,eqSy_self,eqN_self,bc_same,List.length_cons,ofn,wrap_in,dt,df,bltD,bltN,ble_of,bleN,beqD,bc_t,bc_f,nn_ok,Nat.zero_add,to_nat,Int.zero_add,Int.sub_zero,Int.sub_self,Int.cast_ofNat_Int,Int.natCast_zero,Int.toNat_zero,List.take_zero,List.nil_append,List.length_append,List.length_nil];rfl
theorem endR {t:Int} {l:List Int} {b:List Bool} {o:List Bool} {no:Bool} (h:FrOk l b):RUN (stOf (sR t l b o no (rstF l b (O o)) b.length)) = .at (sG t l b (rstF l b (O o)) (tgB l (rstF l b (O o))) l.length [] false 0):=by
 rw [r_t,rstF_len,df (show ¬ (b.length:Int) < (b.length:Int) by omega),bc_f];have h1:=TigOk.of h (O o);rw [rstF_len] at h1;rw [dt h1];simp (disch:=omega) only [Nat.add_eq,eqSy_self,eqN_self,bc_same,List.length_cons,ofn,wrap_in,dt,df,bltD,bltN,ble_of,bleN,beqD,bc_t,bc_f,nn_ok,Nat.zero_add,to_nat,Int.zero_add,Int.sub_zero,Int.sub_self,Int.cast_ofNat_Int,Int.natCast_zero,Int.toNat_zero,List.take_zero,List.nil_append,List.length_append,List.length_nil]
theorem stG {t:Int} {l:List Int} {b:List Bool}  {q s:List Bool} {ms:Nat} {g:List Int} {i:Nat} (hi:i < b.length) (hq:q.length=b.length) (hs:s.length=ms) (hm:ms=b.length) (hb:b.length≤3000) (hg:g.length≤i):RUN (stOf (sG t l b q s ms g (decide (0 < g.length)) i)) = .at (sG t l b q s ms (g ++ (if q.getD i false && !s.getD i false then [(i:Int)] else [])) (decide (0 < (g ++ (if q.getD i false && !s.getD i false then [(i:Int)] else [])).length)) (i+1:Nat)):=by
 have e0:Int.toNat (i:Int)=i:=rfl;have m1:List.map (fun r=>U.int (List.headD r (U.i 0))) [[U.i (i:Int)]]=[(i:Int)]:=rfl;rw [g_t,e0,m1,nn_snoc,nn_any,hq,hs]
 cases q.getD i false with
 | false=>
  rw [show (false && !s.getD i false)=false from rfl,if_neg (by simp),List.append_nil]
  simp (disch:=omega) only [Nat.add_eq,eqSy_self,eqN_self,bc_same,List.length_cons,ofn,wrap_in,dt,df,bltD,bltN,ble_of,bleN,beqD,bc_t,bc_f,nn_ok,Nat.zero_add,to_nat,Int.zero_add,Int.sub_zero,Int.sub_self,Int.cast_ofNat_Int,Int.natCast_zero,Int.toNat_zero,List.take_zero,List.nil_append,List.length_append,List.length_nil];rfl
 | true=>
  cases s.getD i false with
  | false=>
   rw [show (true && !false)=true from rfl,if_pos rfl]
   simp (disch:=omega) only [Nat.add_eq,eqSy_self,eqN_self,bc_same,List.length_cons,ofn,wrap_in,dt,df,bltD,bltN,ble_of,bleN,beqD,bc_t,bc_f,nn_ok,Nat.zero_add,to_nat,Int.zero_add,Int.sub_zero,Int.sub_self,Int.cast_ofNat_Int,Int.natCast_zero,Int.toNat_zero,List.take_zero,List.nil_append,List.length_append,List.length_nil,Bool.not_false];rfl
  | true=>
   rw [show (true && !true)=false from rfl,if_neg (by simp),List.append_nil]
   simp (disch:=omega) only [Nat.add_eq,eqSy_self,eqN_self,bc_same,List.length_cons,ofn,wrap_in,dt,df,bltD,bltN,ble_of,bleN,beqD,bc_t,bc_f,nn_ok,Nat.zero_add,to_nat,Int.zero_add,Int.sub_zero,Int.sub_self,Int.cast_ofNat_Int,Int.natCast_zero,Int.toNat_zero,List.take_zero,List.nil_append,List.length_append,List.length_nil,Bool.not_true];rfl
theorem loopG {t:Int} {l:List Int} {b:List Bool}  {q s:List Bool} {ms:Nat} (hq:q.length=b.length) (hs:s.length=ms) (hm:ms=b.length) (hb:b.length≤3000):∀ (k i:Nat) (g:List Int),i+k=b.length→g.length≤i→EndM 2 75 ctTg (stOf (sG t l b q s ms g (decide (0 < g.length)) i)) (.slO 2 1 (g ++ ofNs (((List.range' i k).filter fun j=>q.getD j false).filter fun j=>!s.getD j false)).length (decide (0 < (g ++ ofNs (((List.range' i k).filter fun j=>q.getD j false).filter fun j=>!s.getD j false)).length))) (PFrA.K0 t l b ++ [(2,.seq 3 (.ints .i64 (g ++ ofNs (((List.range' i k).filter fun j=>q.getD j false).filter fun j=>!s.getD j false))) (decide (0 < (g ++ ofNs (((List.range' i k).filter fun j=>q.getD j false).filter fun j=>!s.getD j false)).length)))]) 3
 | 0,i,g,h,hg=>by
  have h1:=g_t t l b q s ms g (decide (0 < g.length)) i;rw [df (show ¬ (i:Int) < (b.length:Int) by omega),bc_f] at h1;have e:g ++ ofNs (((List.range' i 0).filter fun j=>q.getD j false).filter fun j=>!s.getD j false)=g:=List.append_nil g;rw [e];exact .done h1
 | k+1,i,g,h,hg=>by
  have h1:=stG (t:=t) (l:=l) (b:=b)  (q:=q) (s:=s) (ms:=ms) (g:=g) (i:=i) (by omega) hq hs hm hb hg;have e:∀ g:List Int,g ++ ofNs (((List.range' i (k+1)).filter fun j=>q.getD j false).filter fun j=>!s.getD j false)=(g ++ (if q.getD i false && !s.getD i false then [(i:Int)] else [])) ++ ofNs (((List.range' (i+1) k).filter fun j=>q.getD j false).filter fun j=>!s.getD j false):=fun g=>by
   rw [List.range'_succ,List.append_assoc];congr 1
   cases hqi:q.getD i false with
   | false=>rw [List.filter_cons_of_neg (p:=fun j=>q.getD j false) (by rw [hqi];simp)];rfl
   | true=>
    rw [List.filter_cons_of_pos (p:=fun j=>q.getD j false) hqi]
    cases hsi:s.getD i false with
    | false=>rw [List.filter_cons_of_pos (p:=fun j=>!s.getD j false) (by rw [hsi];rfl)];rfl
    | true=>rw [List.filter_cons_of_neg (p:=fun j=>!s.getD j false) (by rw [hsi];simp)];rfl
  rw [e];exact .at ctTg_ok h1 (loopG hq hs hm hb k (i+1) _ (by omega) (by rw [List.length_append];split <;> simp <;> omega))
theorem loopR {t:Int} {l:List Int} {b:List Bool} {o:List Bool} {no:Bool} (h:FrOk l b) (ho:o.length=l.length):∀ (k i:Nat),i+k=b.length→EndM 2 75 ctTg (stOf (sR t l b o no (rstS l b (O o) i) i)) (.slO 2 1 (gF l b (O o)).length (decide (0 < (gF l b (O o)).length))) (PFrA.K0 t l b ++ [(2,.seq 3 (.ints .i64 (gF l b (O o))) (decide (0 < (gF l b (O o)).length)))]) 3
 | 0,i,hi=>by
  obtain rfl:i=b.length:=by omega
  rw [rstS_end];have h2:=loopG (t:=t) (l:=l) (b:=b)  (q:=rstF l b (O o)) (s:=tgB l (rstF l b (O o))) (ms:=l.length) (rstF_len _ _ _) (tgB_len _ _) h.1.symm (by have:=h.1;have:=h.2.1;omega) b.length 0 [] (by omega) (Nat.le_refl _);rw [← List.range_eq_range',List.nil_append] at h2;have e:ofNs (((List.range b.length).filter fun j=>(rstF l b (O o)).getD j false).filter fun j=>!(tgB l (rstF l b (O o))).getD j false)=gF l b (O o):=by
   unfold gF gonF idxB;rw [rstF_len]
  rw [e] at h2;exact .at ctTg_ok (endR h) h2
 | k+1,i,hi=>.at ctTg_ok (stR (by omega) h.1 h.2.1 (by have:=h.1;omega)) (loopR h ho k (i+1) (by omega))
theorem ends {t:Int} {l:List Int} {b:List Bool} {o:List Bool} {no:Bool} (h:FrOk l b) (ho:o.length=l.length):EndM 2 75 ctTg (st0m 75 [.ptr 0 0,.slO 1 1 b.length true,.fn 76 [.ptr 2 0]] (K0 t l b o no) 4) (.slO 2 1 (gF l b (O o)).length (decide (0 < (gF l b (O o)).length))) (PFrA.K0 t l b ++ [(2,.seq 3 (.ints .i64 (gF l b (O o))) (decide (0 < (gF l b (O o)).length)))]) 3:=by
 have h1:=in_t t l b o no;have hb:b.length≤3000:=by have:=h.1;have:=h.2.1;omega
 rw [b_nil] at h1;simp (disch:=omega) only [Nat.add_eq,eqSy_self,eqN_self,bc_same,List.length_cons,ofn,wrap_in,dt,df,bltD,bltN,ble_of,bleN,beqD,bc_t,bc_f,nn_ok,Nat.zero_add,to_nat,Int.zero_add,Int.sub_zero,Int.sub_self,Int.cast_ofNat_Int,Int.natCast_zero,Int.toNat_zero,List.take_zero,List.nil_append,List.length_append,List.length_nil] at h1;have h2:=loopR (t:=t) (no:=no) h ho b.length 0 (by omega);rw [rstS_zero] at h2;exact .at ctTg_ok h1 h2
end PFrB
namespace PFrC
abbrev O (kk:Int):Nat→Bool:=fun j=>((j:Int) == kk)
theorem stR {t:Int} {l:List Int} {b:List Bool} {kk:Int} {i:Nat} (hi:i < b.length) (hl:b.length=l.length) (hb:l.length≤3000)  : RUN (stOf (sR t l b kk (rstS l b (O kk) i) i)) = .at (sR t l b kk (rstS l b (O kk) (i+1)) (i+1:Nat)):=by
 have e0:Int.toNat (i:Int)=i:=rfl;rw [r_t,e0,rstS_at l b _ hi,rstS_len]
 cases hbi:b.getD i false with
 | false=>
  rw [rstS_set l b (O kk) (v:=false) (by rw [hbi];rfl)];simp (disch:=omega) only [Nat.add_eq,eqSy_self,eqN_self,bc_same,List.length_cons,ofn,wrap_in,dt,df,bltD,bltN,ble_of,bleN,beqD,bc_t,bc_f,nn_ok,Nat.zero_add,to_nat,Int.zero_add,Int.sub_zero,Int.sub_self,Int.cast_ofNat_Int,Int.natCast_zero,Int.toNat_zero,List.take_zero,List.nil_append,List.length_append,List.length_nil];rfl
 | true=>
  by_cases hp:1000 < l.getD i 0
  ·rw [dt hp,rstS_set l b (O kk) (v:=!((i:Int) == kk)) (by rw [hbi,show isPn (l.getD i 0)=true from decide_eq_true hp];rfl)]
   simp (disch:=omega) only [Nat.add_eq,eqSy_self,eqN_self,bc_same,List.length_cons,ofn,wrap_in,dt,df,bltD,bltN,ble_of,bleN,beqD,bc_t,bc_f,nn_ok,Nat.zero_add,to_nat,Int.zero_add,Int.sub_zero,Int.sub_self,Int.cast_ofNat_Int,Int.natCast_zero,Int.toNat_zero,List.take_zero,List.nil_append,List.length_append,List.length_nil];rfl
  ·rw [df hp,rstS_set l b (O kk) (v:=!false) (by rw [hbi,show isPn (l.getD i 0)=false from decide_eq_false hp];rfl)]
   simp (disch:=omega) only [Nat.add_eq,eqSy_self,eqN_self,bc_same,List.length_cons,ofn,wrap_in,dt,df,bltD,bltN,ble_of,bleN,beqD,bc_t,bc_f,nn_ok,Nat.zero_add,to_nat,Int.zero_add,Int.sub_zero,Int.sub_self,Int.cast_ofNat_Int,Int.natCast_zero,Int.toNat_zero,List.take_zero,List.nil_append,List.length_append,List.length_nil];rfl
theorem endR {t:Int} {l:List Int} {b:List Bool} {kk:Int} (h:FrOk l b):RUN (stOf (sR t l b kk (rstF l b (O kk)) b.length)) = .at (sG t l b kk (rstF l b (O kk)) (tgB l (rstF l b (O kk))) l.length [] false 0):=by
 rw [r_t,rstF_len,df (show ¬ (b.length:Int) < (b.length:Int) by omega),bc_f];have h1:=TigOk.of h (O kk);rw [rstF_len] at h1;rw [dt h1];simp (disch:=omega) only [Nat.add_eq,eqSy_self,eqN_self,bc_same,List.length_cons,ofn,wrap_in,dt,df,bltD,bltN,ble_of,bleN,beqD,bc_t,bc_f,nn_ok,Nat.zero_add,to_nat,Int.zero_add,Int.sub_zero,Int.sub_self,Int.cast_ofNat_Int,Int.natCast_zero,Int.toNat_zero,List.take_zero,List.nil_append,List.length_append,List.length_nil]
theorem stG {t:Int} {l:List Int} {b:List Bool} {kk:Int} {q s:List Bool} {ms:Nat} {g:List Int} {i:Nat} (hi:i < b.length) (hq:q.length=b.length) (hs:s.length=ms) (hm:ms=b.length) (hb:b.length≤3000) (hg:g.length≤i):RUN (stOf (sG t l b kk q s ms g (decide (0 < g.length)) i)) = .at (sG t l b kk q s ms (g ++ (if q.getD i false && !s.getD i false then [(i:Int)] else [])) (decide (0 < (g ++ (if q.getD i false && !s.getD i false then [(i:Int)] else [])).length)) (i+1:Nat)):=by
 have e0:Int.toNat (i:Int)=i:=rfl;have m1:List.map (fun r=>U.int (List.headD r (U.i 0))) [[U.i (i:Int)]]=[(i:Int)]:=rfl;rw [g_t,e0,m1,nn_snoc,nn_any,hq,hs]
 cases q.getD i false with
 | false=>
  rw [show (false && !s.getD i false)=false from rfl,if_neg (by simp),List.append_nil]
  simp (disch:=omega) only [Nat.add_eq,eqSy_self,eqN_self,bc_same,List.length_cons,ofn,wrap_in,dt,df,bltD,bltN,ble_of,bleN,beqD,bc_t,bc_f,nn_ok,Nat.zero_add,to_nat,Int.zero_add,Int.sub_zero,Int.sub_self,Int.cast_ofNat_Int,Int.natCast_zero,Int.toNat_zero,List.take_zero,List.nil_append,List.length_append,List.length_nil];rfl
 | true=>
  cases s.getD i false with
  | false=>
   rw [show (true && !false)=true from rfl,if_pos rfl]
   simp (disch:=omega) only [Nat.add_eq,eqSy_self,eqN_self,bc_same,List.length_cons,ofn,wrap_in,dt,df,bltD,bltN,ble_of,bleN,beqD,bc_t,bc_f,nn_ok,Nat.zero_add,to_nat,Int.zero_add,Int.sub_zero,Int.sub_self,Int.cast_ofNat_Int,Int.natCast_zero,Int.toNat_zero,List.take_zero,List.nil_append,List.length_append,List.length_nil,Bool.not_false];rfl
  | true=>
   rw [show (true && !true)=false from rfl,if_neg (by simp),List.append_nil]
   simp (disch:=omega) only [Nat.add_eq,eqSy_self,eqN_self,bc_same,List.length_cons,ofn,wrap_in,dt,df,bltD,bltN,ble_of,bleN,beqD,bc_t,bc_f,nn_ok,Nat.zero_add,to_nat,Int.zero_add,Int.sub_zero,Int.sub_self,Int.cast_ofNat_Int,Int.natCast_zero,Int.toNat_zero,List.take_zero,List.nil_append,List.length_append,List.length_nil,Bool.not_true];rfl
theorem loopG {t:Int} {l:List Int} {b:List Bool} {kk:Int} {q s:List Bool} {ms:Nat} (hq:q.length=b.length) (hs:s.length=ms) (hm:ms=b.length) (hb:b.length≤3000):∀ (k i:Nat) (g:List Int),i+k=b.length→g.length≤i→EndM 3 75 ctTg (stOf (sG t l b kk q s ms g (decide (0 < g.length)) i)) (.slO 3 1 (g ++ ofNs (((List.range' i k).filter fun j=>q.getD j false).filter fun j=>!s.getD j false)).length (decide (0 < (g ++ ofNs (((List.range' i k).filter fun j=>q.getD j false).filter fun j=>!s.getD j false)).length))) (K0 t l b kk ++ [(3,.seq 3 (.ints .i64 (g ++ ofNs (((List.range' i k).filter fun j=>q.getD j false).filter fun j=>!s.getD j false))) (decide (0 < (g ++ ofNs (((List.range' i k).filter fun j=>q.getD j false).filter fun j=>!s.getD j false)).length)))]) 4
 | 0,i,g,h,hg=>by
  have h1:=g_t t l b kk q s ms g (decide (0 < g.length)) i;rw [df (show ¬ (i:Int) < (b.length:Int) by omega),bc_f] at h1;have e:g ++ ofNs (((List.range' i 0).filter fun j=>q.getD j false).filter fun j=>!s.getD j false)=g:=List.append_nil g;rw [e];exact .done h1
 | k+1,i,g,h,hg=>by
  have h1:=stG (t:=t) (l:=l) (b:=b) (kk:=kk) (q:=q) (s:=s) (ms:=ms) (g:=g) (i:=i) (by omega) hq hs hm hb hg;have e:∀ g:List Int,g ++ ofNs (((List.range' i (k+1)).filter fun j=>q.getD j false).filter fun j=>!s.getD j false)=(g ++ (if q.getD i false && !s.getD i false then [(i:Int)] else [])) ++ ofNs (((List.range' (i+1) k).filter fun j=>q.getD j false).filter fun j=>!s.getD j false):=fun g=>by
   rw [List.range'_succ,List.append_assoc];congr 1
   cases hqi:q.getD i false with
   | false=>rw [List.filter_cons_of_neg (p:=fun j=>q.getD j false) (by rw [hqi];simp)];rfl
   | true=>
    rw [List.filter_cons_of_pos (p:=fun j=>q.getD j false) hqi]
    cases hsi:s.getD i false with
    | false=>rw [List.filter_cons_of_pos (p:=fun j=>!s.getD j false) (by rw [hsi];rfl)];rfl
    | true=>rw [List.filter_cons_of_neg (p:=fun j=>!s.getD j false) (by rw [hsi];simp)];rfl
  rw [e];exact .at ctTg_ok h1 (loopG hq hs hm hb k (i+1) _ (by omega) (by rw [List.length_append];split <;> simp <;> omega))
theorem loopR {t:Int} {l:List Int} {b:List Bool} {kk:Int} (h:FrOk l b)  : ∀ (k i:Nat),i+k=b.length→EndM 3 75 ctTg (stOf (sR t l b kk (rstS l b (O kk) i) i)) (.slO 3 1 (gF l b (O kk)).length (decide (0 < (gF l b (O kk)).length))) (K0 t l b kk ++ [(3,.seq 3 (.ints .i64 (gF l b (O kk))) (decide (0 < (gF l b (O kk)).length)))]) 4
 | 0,i,hi=>by
  obtain rfl:i=b.length:=by omega
  rw [rstS_end];have h2:=loopG (t:=t) (l:=l) (b:=b) (kk:=kk) (q:=rstF l b (O kk)) (s:=tgB l (rstF l b (O kk))) (ms:=l.length) (rstF_len _ _ _) (tgB_len _ _) h.1.symm (by have:=h.1;have:=h.2.1;omega) b.length 0 [] (by omega) (Nat.le_refl _);rw [← List.range_eq_range',List.nil_append] at h2;have e:ofNs (((List.range b.length).filter fun j=>(rstF l b (O kk)).getD j false).filter fun j=>!(tgB l (rstF l b (O kk))).getD j false)=gF l b (O kk):=by
   unfold gF gonF idxB;rw [rstF_len]
  rw [e] at h2;exact .at ctTg_ok (endR h) h2
 | k+1,i,hi=>.at ctTg_ok (stR (by omega) h.1 h.2.1 ) (loopR h k (i+1) (by omega))
theorem ends {t:Int} {l:List Int} {b:List Bool} {kk:Int} (h:FrOk l b)  : EndM 3 75 ctTg (st0m 75 [.ptr 0 0,.slO 1 1 b.length true,.fn 90 [.ptr 2 0]] (K0 t l b kk) 3) (.slO 3 1 (gF l b (O kk)).length (decide (0 < (gF l b (O kk)).length))) (K0 t l b kk ++ [(3,.seq 3 (.ints .i64 (gF l b (O kk))) (decide (0 < (gF l b (O kk)).length)))]) 4:=by
 have h1:=in_t t l b kk;have hb:b.length≤3000:=by have:=h.1;have:=h.2.1;omega
 rw [b_nil] at h1;simp (disch:=omega) only [Nat.add_eq,eqSy_self,eqN_self,bc_same,List.length_cons,ofn,wrap_in,dt,df,bltD,bltN,ble_of,bleN,beqD,bc_t,bc_f,nn_ok,Nat.zero_add,to_nat,Int.zero_add,Int.sub_zero,Int.sub_self,Int.cast_ofNat_Int,Int.natCast_zero,Int.toNat_zero,List.take_zero,List.nil_append,List.length_append,List.length_nil] at h1;have h2:=loopR (t:=t) (kk:=kk) h b.length 0 (by omega);rw [rstS_zero] at h2;exact .at ctTg_ok h1 h2
end PFrC
end Go.Proofs.Ytooimphimnagaaa.Ev
namespace Go.Proofs.Ytooimphimnagaaa.Ev
open Go.Proofs
noncomputable def spFre_0:ZMT:=fun ax K0 m=>match ax,K0 with
 | [.ptr 0 0,.slO 1 1 v_0 v_1,.fn 78 []],[(0,.cells 24 [.v (.int .i64 t),.lst (.ints .i64 l)] v_2),(1,.seq 4 (.bools b) v_3)]=>bc (Nat.beq m (2)) (some ⟨bc (Nat.beq v_0 (b.length)) (bc (eqN v_1 (true)) (bc (eqN v_2 (true)) (bc (eqN v_3 (true)) (decide (FrOk l b)) false) false) false) false,.slO 2 1 (gF l b PFrA.O).length (decide (0 < (gF l b PFrA.O).length)),PFrA.K0 t l b ++ [(2,.seq 3 (.ints .i64 (gF l b PFrA.O)) (decide (0 < (gF l b PFrA.O).length)))],3,2⟩) none
 | _,_=>none
theorem spFre_0_ok:ZMtOk Try.prog 75 spFre_0:=fun γ w0 w us ax K0 m r hs hc hres hax hH=>by
 unfold spFre_0 at hs;split at hs
 case h_2=>cases hs
 rename_i v_0 v_1 t l v_2 b v_3;obtain ⟨hm,rfl⟩:=noN hs;have hm:=Nat.eq_of_beq_eq_true hm;subst hm;have hc_0:bc (Nat.beq v_0 (b.length)) (bc (eqN v_1 (true)) (bc (eqN v_2 (true)) (bc (eqN v_3 (true)) (decide (FrOk l b)) false) false) false) false=true:=hc;obtain ⟨q_0,hc_1⟩:=bcT hc_0;have p_0:=(Nat.eq_of_beq_eq_true q_0).symm;subst p_0;obtain ⟨q_1,hc_2⟩:=bcT hc_1;have p_1:=(eqN_ok q_1).symm;subst p_1;obtain ⟨q_2,hc_3⟩:=bcT hc_2;have p_2:=(eqN_ok q_2).symm;subst p_2;obtain ⟨q_3,hc_4⟩:=bcT hc_3;have p_3:=(eqN_ok q_3).symm;subst p_3
 have hc:=of_decide_eq_true hc_4;exact EndM.calls (PFrA.ends hc) ctTg_ok (by kernel_rfl) hres hax hH
noncomputable def spFre_1:ZMT:=fun ax K0 m=>match ax,K0 with
 | [.ptr 0 0,.slO 1 1 v_0 v_1,.fn 76 [.ptr 2 0]],[(0,.cells 24 [.v (.int .i64 t),.lst (.ints .i64 l)] v_2),(1,.seq 4 (.bools b) v_3),(2,.cells 45 [.slO 3 1 v_4 v_5] v_6),(3,.seq 4 (.bools o) no)]=>bc (Nat.beq m (4)) (some ⟨bc (Nat.beq v_0 (b.length)) (bc (eqN v_1 (true)) (bc (eqN v_2 (true)) (bc (eqN v_3 (true)) (bc (Nat.beq v_4 (o.length)) (bc (eqN v_5 (no)) (bc (eqN v_6 (true)) (decide (FrOkO l b o)) false) false) false) false) false) false) false,.slO 2 1 (gF l b (PFrB.O o)).length (decide (0 < (gF l b (PFrB.O o)).length)),PFrA.K0 t l b ++ [(2,.seq 3 (.ints .i64 (gF l b (PFrB.O o))) (decide (0 < (gF l b (PFrB.O o)).length)))],3,2⟩) none
 | _,_=>none
theorem spFre_1_ok:ZMtOk Try.prog 75 spFre_1:=fun γ w0 w us ax K0 m r hs hc hres hax hH=>by
 unfold spFre_1 at hs;split at hs
 case h_2=>cases hs
 rename_i v_0 v_1 t l v_2 b v_3 v_4 v_5 v_6 o no;obtain ⟨hm,rfl⟩:=noN hs;have hm:=Nat.eq_of_beq_eq_true hm;subst hm;have hc_0:bc (Nat.beq v_0 (b.length)) (bc (eqN v_1 (true)) (bc (eqN v_2 (true)) (bc (eqN v_3 (true)) (bc (Nat.beq v_4 (o.length)) (bc (eqN v_5 (no)) (bc (eqN v_6 (true)) (decide (FrOkO l b o)) false) false) false) false) false) false) false=true:=hc;obtain ⟨q_0,hc_1⟩:=bcT hc_0;have p_0:=(Nat.eq_of_beq_eq_true q_0).symm;subst p_0;obtain ⟨q_1,hc_2⟩:=bcT hc_1;have p_1:=(eqN_ok q_1).symm;subst p_1;obtain ⟨q_2,hc_3⟩:=bcT hc_2
 have p_2:=(eqN_ok q_2).symm;subst p_2;obtain ⟨q_3,hc_4⟩:=bcT hc_3;have p_3:=(eqN_ok q_3).symm;subst p_3;obtain ⟨q_4,hc_5⟩:=bcT hc_4;have p_4:=(Nat.eq_of_beq_eq_true q_4).symm;subst p_4;obtain ⟨q_5,hc_6⟩:=bcT hc_5;have p_5:=(eqN_ok q_5).symm;subst p_5;obtain ⟨q_6,hc_7⟩:=bcT hc_6;have p_6:=(eqN_ok q_6).symm;subst p_6;have hc:=of_decide_eq_true hc_7;exact EndM.calls (PFrB.ends hc.1 hc.2) ctTg_ok (by kernel_rfl) hres hax hH
noncomputable def spFre_2:ZMT:=fun ax K0 m=>match ax,K0 with
 | [.ptr 0 0,.slO 1 1 v_0 v_1,.fn 90 [.ptr 2 0]],[(0,.cells 24 [.v (.int .i64 t),.lst (.ints .i64 l)] v_2),(1,.seq 4 (.bools b) v_3),(2,.cells 3 [.v (.int .i64 kk)] v_4)]=>bc (Nat.beq m (3)) (some ⟨bc (Nat.beq v_0 (b.length)) (bc (eqN v_1 (true)) (bc (eqN v_2 (true)) (bc (eqN v_3 (true)) (bc (eqN v_4 (true)) (decide (FrOk l b)) false) false) false) false) false,.slO 3 1 (gF l b (PFrC.O kk)).length (decide (0 < (gF l b (PFrC.O kk)).length)),PFrC.K0 t l b kk ++ [(3,.seq 3 (.ints .i64 (gF l b (PFrC.O kk))) (decide (0 < (gF l b (PFrC.O kk)).length)))],4,3⟩) none
 | _,_=>none
theorem spFre_2_ok:ZMtOk Try.prog 75 spFre_2:=fun γ w0 w us ax K0 m r hs hc hres hax hH=>by
 unfold spFre_2 at hs;split at hs
 case h_2=>cases hs
 rename_i v_0 v_1 t l v_2 b v_3 kk v_4;obtain ⟨hm,rfl⟩:=noN hs;have hm:=Nat.eq_of_beq_eq_true hm;subst hm;have hc_0:bc (Nat.beq v_0 (b.length)) (bc (eqN v_1 (true)) (bc (eqN v_2 (true)) (bc (eqN v_3 (true)) (bc (eqN v_4 (true)) (decide (FrOk l b)) false) false) false) false) false=true:=hc;obtain ⟨q_0,hc_1⟩:=bcT hc_0;have p_0:=(Nat.eq_of_beq_eq_true q_0).symm;subst p_0;obtain ⟨q_1,hc_2⟩:=bcT hc_1;have p_1:=(eqN_ok q_1).symm;subst p_1;obtain ⟨q_2,hc_3⟩:=bcT hc_2;have p_2:=(eqN_ok q_2).symm;subst p_2;obtain ⟨q_3,hc_4⟩:=bcT hc_3
 have p_3:=(eqN_ok q_3).symm;subst p_3;obtain ⟨q_4,hc_5⟩:=bcT hc_4;have p_4:=(eqN_ok q_4).symm;subst p_4;have hc:=of_decide_eq_true hc_5;exact EndM.calls (PFrC.ends hc) ctTg_ok (by kernel_rfl) hres hax hH
noncomputable def spFre:ZMT:=ZMT.or spFre_0 (ZMT.or spFre_1 (spFre_2))
theorem spFre_ok:ZMtOk Try.prog 75 spFre:=spFre_0_ok.or (spFre_1_ok.or (spFre_2_ok))
namespace PCol
noncomputable def K0 (b:List Bool) (nb:Bool):List (Nat × EK):=[(0,.cells 45 [.slO 1 1 b.length nb] true),(1,.seq 4 (.bools b) nb)]
noncomputable def RUN (s:ES):ZF:=RMs 2 69 .nil [(atS 2 116 1,[[(0,none),(5,none),(6,none),(7,none)],[(2,some (1,3,.ints .i64 []))],[]])] [2] [] s

noncomputable def sL (b:List Bool) (nb:Bool) (g:List Int) (nn:Bool) (i:Int):NS:=⟨[⟨116,20,[(0,(EV.yl 2)),(5,(EV.slO 1 1 (List.length b) (nb))),(6,(EV.v (Value.int IntKind.i64 (Int.ofNat (List.length b))))),(7,iv i)],[.it (.code (nav [1,0,0] (bodyOf Try.f116))),.it (.inLoop (nav [1,0,0] (bodyOf Try.f116))),.it (.inBlock 0)],[],Option.none⟩,⟨115,13,[(2,(EV.ptr 3 0))],[(.inRF 2),.it (.inBlock 0),.it (.code (nav [1,1] (bodyOf Try.f115)))],[(DE.mk 4)],Option.none⟩,⟨69,5,[],[.ops (opsOf (nav [1,0] (bodyOf Try.f69))) ((opsOf (nav [1,0] (bodyOf Try.f69))).toList.drop 1),.it (.code (nav [1,1] (bodyOf Try.f69)))],[],Option.none⟩],[(0,(EK.cells 45 [(EV.slO 1 1 (List.length b) (nb))] true)),(1,(EK.seq 4 (SyC.bools (b)) (nb))),(2,(EK.loop LoopState.ready Option.none 115 13 (Tr.node Option.none (Tr.node Option.none Tr.nil (Tr.node (Option.some (EV.ptr 3 0)) Tr.nil Tr.nil)) Tr.nil) (Array.mk [7]) (nav [1,0,1,0,0] (bodyOf Try.f115)) (nav [1,0,1,0,1] (bodyOf Try.f115)) 4)),(3,EK.cells 22 [EV.slO 5 1 g.length nn] true),(4,(EK.dfr true)),(5,EK.seq 3 (.ints .i64 g) nn)],6⟩
theorem in_t (b:List Bool) (nb:Bool):RUN (st0m 69 [.fn 116 [.ptr 0 0]] (K0 b nb) 2)=(.at (sL (b) (nb) ([]) (false) ((0:Int)))):=by kernel_rfl
theorem l_t (b:List Bool) (nb:Bool) (g:List Int) (nn:Bool) (i:Int):RUN (stOf (sL b nb g nn i))=(bc (decide (i < Int.ofNat (List.length b))) (bc (bc (bc (decide ((0:Int)≤i)) (Nat.blt (Int.toNat i) (List.length b)) false) true false) (bc (bc (Nat.blt (Int.toNat i) (List.length b)) true false) (bc (List.getD b (Int.toNat i) false) (bc (bc (Nat.beq (List.length g) (List.length g)) (bc (Nat.ble (List.length g+List.length (List.map (fun r=>U.int (List.headD r (U.i (0:Int)))) [[U.i i]])) (65536:Nat)) (bc nn true (bc nn false true)) false) false) (.at (sL (b) (nb) (g ++ List.map (fun r=>U.int (List.headD r (U.i (0:Int)))) [[U.i i]]) (bc nn true (Nat.blt (0:Nat) (List.length (List.map (fun r=>U.int (List.headD r (U.i (0:Int)))) [[U.i i]])))) (IntKind.wrap IntKind.i64 (i+(1:Int))))) .bad) (.at (sL (b) (nb) (g) (nn) (IntKind.wrap IntKind.i64 (i+(1:Int)))))) .bad) .bad) (.done (EV.slO 2 1 (List.length g) (nn)) [(0,(EK.cells 45 [(EV.slO 1 1 (List.length b) (nb))] true)),(1,(EK.seq 4 (SyC.bools (b)) (nb))),(2,(EK.seq 3 (SyC.ints IntKind.i64 (g)) (nn)))] 3)):=by kernel_rfl
theorem step {b:List Bool} {nb:Bool} {g:List Int} {i:Nat} (hi:i < b.length) (hb:b.length≤3000) (hg:g.length≤i):RUN (stOf (sL b nb g (decide (0 < g.length)) i)) = .at (sL b nb (g ++ (if b.getD i false then [(i:Int)] else [])) (decide (0 < (g ++ (if b.getD i false then [(i:Int)] else [])).length)) (i+1:Nat)):=by
 have e0:Int.toNat (i:Int)=i:=rfl;have m1:List.map (fun r=>U.int (List.headD r (U.i 0))) [[U.i (i:Int)]]=[(i:Int)]:=rfl;rw [l_t,e0,m1,nn_snoc,nn_any]
 cases b.getD i false with
 | false=>
  rw [if_neg (by simp),List.append_nil];simp (disch:=omega) only [Nat.add_eq,eqSy_self,eqN_self,bc_same,List.length_cons,ofn,wrap_in,dt,df,bltD,bltN,ble_of,bleN,beqD,bc_t,bc_f,nn_ok,Nat.zero_add,to_nat,Int.zero_add,Int.sub_zero,Int.sub_self,Int.cast_ofNat_Int,Int.natCast_zero,Int.toNat_zero,List.take_zero,List.nil_append,List.length_append,List.length_nil];rfl
 | true=>
  rw [if_pos rfl];simp (disch:=omega) only [Nat.add_eq,eqSy_self,eqN_self,bc_same,List.length_cons,ofn,wrap_in,dt,df,bltD,bltN,ble_of,bleN,beqD,bc_t,bc_f,nn_ok,Nat.zero_add,to_nat,Int.zero_add,Int.sub_zero,Int.sub_self,Int.cast_ofNat_Int,Int.natCast_zero,Int.toNat_zero,List.take_zero,List.nil_append,List.length_append,List.length_nil];rfl
theorem loop {b:List Bool} {nb:Bool} (hb:b.length≤3000):∀ (k i:Nat) (g:List Int),i+k=b.length→g.length≤i→EndM 2 69 .nil (stOf (sL b nb g (decide (0 < g.length)) i)) (.slO 2 1 (g ++ ofNs ((List.range' i k).filter fun j=>b.getD j false)).length (decide (0 < (g ++ ofNs ((List.range' i k).filter fun j=>b.getD j false)).length))) (K0 b nb ++ [(2,.seq 3 (.ints .i64 (g ++ ofNs ((List.range' i k).filter fun j=>b.getD j false))) (decide (0 < (g ++ ofNs ((List.range' i k).filter fun j=>b.getD j false)).length)))]) 3
 | 0,i,g,h,hg=>by
  have h1:=l_t b nb g (decide (0 < g.length)) i;rw [df (show ¬ (i:Int) < Int.ofNat b.length by rw [ofn];omega),bc_f] at h1;have e:g ++ ofNs ((List.range' i 0).filter fun j=>b.getD j false)=g:=List.append_nil g;rw [e];exact .done h1
 | k+1,i,g,h,hg=>by
  have h1:=step (b:=b) (nb:=nb) (g:=g) (i:=i) (by omega) hb hg;have e:g ++ ofNs ((List.range' i (k+1)).filter fun j=>b.getD j false)=(g ++ (if b.getD i false then [(i:Int)] else [])) ++ ofNs ((List.range' (i+1) k).filter fun j=>b.getD j false):=by
   rw [List.range'_succ,List.append_assoc];congr 1
   cases hqi:b.getD i false with
   | false=>rw [List.filter_cons_of_neg (p:=fun j=>b.getD j false) (by rw [hqi];simp)];rfl
   | true=>rw [List.filter_cons_of_pos (p:=fun j=>b.getD j false) hqi];rfl
  rw [e];exact .at (.nil _) h1 (loop hb k (i+1) _ (by omega) (by rw [List.length_append];split <;> simp <;> omega))
theorem ends {b:List Bool} {nb:Bool} (hb:b.length≤3000):EndM 2 69 .nil (st0m 69 [.fn 116 [.ptr 0 0]] (K0 b nb) 2) (.slO 2 1 (ofNs (idxB b)).length (decide (0 < (ofNs (idxB b)).length))) (K0 b nb ++ [(2,.seq 3 (.ints .i64 (ofNs (idxB b))) (decide (0 < (ofNs (idxB b)).length)))]) 3:=by
 have h1:=in_t b nb;have h2:=loop (b:=b) (nb:=nb) hb b.length 0 [] (by omega) (Nat.le_refl _);rw [← List.range_eq_range',List.nil_append] at h2;exact .at (.nil _) h1 h2
end PCol
noncomputable def spCol:ZMT:=fun ax K0 m=>match ax,K0 with
 | [.fn 116 [.ptr 0 0]],[(0,.cells 45 [.slO 1 1 v_0 v_1] v_2),(1,.seq 4 (.bools b) nb)]=>bc (Nat.beq m (2)) (some ⟨bc (Nat.beq v_0 (b.length)) (bc (eqN v_1 (nb)) (bc (eqN v_2 (true)) (decide (b.length≤3000)) false) false) false,.slO 2 1 (ofNs (idxB b)).length (decide (0 < (ofNs (idxB b)).length)),PCol.K0 b nb ++ [(2,.seq 3 (.ints .i64 (ofNs (idxB b))) (decide (0 < (ofNs (idxB b)).length)))],3,2⟩) none
 | _,_=>none
theorem spCol_ok:ZMtOk Try.prog 69 spCol:=fun γ w0 w us ax K0 m r hs hc hres hax hH=>by
 unfold spCol at hs;split at hs
 case h_2=>cases hs
 rename_i v_0 v_1 v_2 b nb;obtain ⟨hm,rfl⟩:=noN hs;have hm:=Nat.eq_of_beq_eq_true hm;subst hm;have hc_0:bc (Nat.beq v_0 (b.length)) (bc (eqN v_1 (nb)) (bc (eqN v_2 (true)) (decide (b.length≤3000)) false) false) false=true:=hc;obtain ⟨q_0,hc_1⟩:=bcT hc_0;have p_0:=(Nat.eq_of_beq_eq_true q_0).symm;subst p_0;obtain ⟨q_1,hc_2⟩:=bcT hc_1;have p_1:=(eqN_ok q_1).symm;subst p_1;obtain ⟨q_2,hc_3⟩:=bcT hc_2;have p_2:=(eqN_ok q_2).symm;subst p_2;have hc:=of_decide_eq_true hc_3;exact EndM.calls (PCol.ends hc) (.nil _) (by kernel_rfl) hres hax hH
noncomputable def ctLo:Tr ZCC:=(((Tr.nil.put 68 (some (dC spPChL))).put 71 (some (mC spTgt))).put 75 (some (mC spFre))).put 69 (some (mC spCol))
theorem ctLo_ok:ZCtsOk Try.prog ctLo:=((((ZCtsOk.nil _).add rfl spPChL_ok).addM rfl spTgt_ok).addM rfl spFre_ok).addM rfl spCol_ok
noncomputable abbrev hE (t:Int) (l:List Int):EV:=.agg [iv t,il l]
noncomputable abbrev rsL (e:Int) (l:List Int):EV:=.tup [il (bc (e != 0) [] l),iv e]
theorem rsL_err {e:Int} (l:List Int) (h:e≠0):Weak (.tup [.v (.slice none 0 0),iv e]) (rsL e l):=by
 unfold rsL;rw [show (e != 0)=true by simp [h],bc_t];exact Weak.tup (.cons (Weak.nilI _) (.cons (Weak.refl _) .nil))
theorem anyI_no {p:Int→Bool}:∀ {l:List Int},anyI p l=false→∀ x,x ∈ l→p x=false
 | [],_,x,hx=>by cases hx
 | y :: l,h,x,hx=>by
  unfold anyI at h
  cases hy:p y with
  | true=>rw [hy,bc_t] at h;cases h
  | false=>
   rw [hy,bc_f] at h;rcases List.mem_cons.1 hx with rfl | hx
   ·exact hy
   ·exact anyI_no h x hx
theorem badL_no {t x:Int} (ht:2≤t∧t≤48) (h:badL t x=false):LetOk x:=by
 unfold badL at h
 by_cases h1:x ≤ -t
 ·rw [dt h1,bc_t] at h;cases h
 rw [df h1,bc_f] at h
 by_cases h2:x=0
 ·rw [eqT h2,bc_t] at h;cases h
 rw [eqF h2,bc_f] at h;unfold LetOk
 by_cases h3:t≤x
 ·rw [dt h3,bc_t] at h
  by_cases h4:x≤1000
  ·rw [dt h4,bc_t] at h;cases h
  rw [df h4,bc_f] at h;have:=of_decide_eq_false h;omega
 ·omega
theorem chkL_ok {t:Int} {l:List Int} (h:chkL t l=0):(2≤t∧t≤48)∧l.length≤2000∧∀ x,x ∈ l→LetOk x:=by
 unfold chkL at h
 by_cases h1:t < 2
 ·rw [dt h1,bc_t] at h;cases h
 rw [df h1,bc_f] at h
 by_cases h2:48 < t
 ·rw [dt h2,bc_t] at h;cases h
 rw [df h2,bc_f] at h
 by_cases h3:2000 < (l.length:Int)
 ·rw [dt h3,bc_t] at h;cases h
 rw [df h3,bc_f] at h
 cases hb:anyI (badL t) l with
 | true=>rw [hb,bc_t] at h;cases h
 | false=>exact ⟨by omega,by omega,fun x hx=>badL_no (by omega) (anyI_no hb x hx)⟩
theorem chkL_tig {t:Int} {l:List Int} (h:chkL t l=0):TigOk l l 0 0∧FrOk l (tgA l):=by
 obtain ⟨_,h1,h2⟩:=chkL_ok h;exact ⟨⟨rfl,rfl,by omega,h2⟩,tgA_len l,by omega,h2⟩
namespace PTight
noncomputable def RUN (s:ES):ZF:=RZ 17 ctLo (fun _=>false) [] [] false s
theorem in_t (t:Int) (l:List Int):RUN (st0 17 [hE t l])=(bc (bc (decide (In64 l)) true false) (bc (chkL t l != (0:Int)) (.done (EV.tup [(EV.v (Value.slice Option.none 0 0)),(EV.v (Value.int IntKind.i64 (chkL t l)))]) [] 0) (bc (bc (decide (TigOk l l (0:Nat) (0:Nat))) true false) (bc (bc (bc (Nat.beq (List.length l) (List.length (tgA l))) (decide (List.length (tgA l)≤(3000:Nat))) false) true false) (bc (bc (Nat.beq (List.length (ofNs (idxB (tgA l)))) (List.length (ofNs (idxB (tgA l))))) true false) (.done (EV.tup [(EV.lst (SyC.ints IntKind.i64 (ofNs (idxB (tgA l))))),(EV.v (Value.int IntKind.i64 (0)))]) [] 0) .bad) .bad) .bad)) .bad):=by kernel_rfl
theorem ends {t:Int} {l:List Int} (hx:In64 l):EndZ 17 ctLo false (st0 17 [hE t l]) (rsL (chkL t l) (ofNs (idxB (tgA l)))) [] 0:=by
 have h:=in_t t l;rw [dt hx,bc_t,bc_t] at h
 by_cases z:chkL t l=0
 ·obtain ⟨h1,h2⟩:=chkL_tig z;have h3:=tgA_len l;have h4:=h1.2.2.1;unfold rsL;rw [z,show ((0:Int) != 0)=false from rfl,bc_f,dt h1,h3] at h
  rw [z,show ((0:Int) != 0)=false from rfl,bc_f]
  simp (disch:=omega) only [Nat.add_eq,eqSy_self,eqN_self,bc_same,List.length_cons,ofn,wrap_in,dt,df,bltD,bltN,ble_of,bleN,beqD,bc_t,bc_f,nn_ok,Nat.zero_add,to_nat,Int.zero_add,Int.sub_zero,Int.sub_self,Int.cast_ofNat_Int,Int.natCast_zero,Int.toNat_zero,List.take_zero,List.nil_append,List.length_append,List.length_nil] at h;exact .done h
 ·rw [show (chkL t l != 0)=true by simp [z],bc_t] at h;exact (EndZ.done h).weak (rsL_err _ z)
end PTight
noncomputable def spPTi:ZCT:=fun ax=>match ax with
 | [.agg [.v (.int .i64 t),.lst (.ints .i64 l)]]=>some ⟨decide (In64 l),rsL (chkL t l) (ofNs (idxB (tgA l))),[],0⟩
 | _=>none
theorem spPTi_ok:ZCtOk Try.prog 17 spPTi:=fun γ w us ax r hs hc hax hN hfz=>by
 unfold spPTi at hs;split at hs
 case h_2=>cases hs
 rename_i t l;obtain ⟨rfl⟩:=Option.some.inj hs;have hc_0:decide (In64 l)=true:=hc;have hc:=of_decide_eq_true hc_0;exact EndZ.calls (PTight.ends hc) ctLo_ok (by kernel_rfl) hax hN hfz
namespace PFreed
noncomputable def RUN (s:ES):ZF:=RZ 22 ctLo (fun _=>false) [] [] false s
theorem in_t (t:Int) (l:List Int):RUN (st0 22 [hE t l])=(bc (bc (decide (In64 l)) true false) (bc (chkL t l != (0:Int)) (.done (EV.tup [(EV.v (Value.slice Option.none 0 0)),(EV.v (Value.int IntKind.i64 (chkL t l)))]) [] 0) (bc (bc (decide (TigOk l l (0:Nat) (0:Nat))) true false) (bc (bc (bc (Nat.beq (List.length l) (List.length (tgA l))) (decide (FrOk l (tgA l))) false) true false) (bc (bc (Nat.beq (List.length (gF l (tgA l) PFrA.O)) (List.length (gF l (tgA l) PFrA.O))) true false) (.done (EV.tup [(EV.lst (SyC.ints IntKind.i64 (gF l (tgA l) PFrA.O))),(EV.v (Value.int IntKind.i64 (0)))]) [] 0) .bad) .bad) .bad)) .bad):=by kernel_rfl
theorem ends {t:Int} {l:List Int} (hx:In64 l):EndZ 22 ctLo false (st0 22 [hE t l]) (rsL (chkL t l) (gF l (tgA l) fun _=>true)) [] 0:=by
 have h:=in_t t l;rw [dt hx,bc_t,bc_t] at h
 by_cases z:chkL t l=0
 ·obtain ⟨h1,h2⟩:=chkL_tig z;have h3:=tgA_len l;unfold rsL;rw [z,show ((0:Int) != 0)=false from rfl,bc_f,dt h1,h3,dt h2] at h
  rw [z,show ((0:Int) != 0)=false from rfl,bc_f]
  simp (disch:=omega) only [Nat.add_eq,eqSy_self,eqN_self,bc_same,List.length_cons,ofn,wrap_in,dt,df,bltD,bltN,ble_of,bleN,beqD,bc_t,bc_f,nn_ok,Nat.zero_add,to_nat,Int.zero_add,Int.sub_zero,Int.sub_self,Int.cast_ofNat_Int,Int.natCast_zero,Int.toNat_zero,List.take_zero,List.nil_append,List.length_append,List.length_nil] at h;exact .done h
 ·rw [show (chkL t l != 0)=true by simp [z],bc_t] at h;exact (EndZ.done h).weak (rsL_err _ z)
end PFreed
noncomputable def spPFd:ZCT:=fun ax=>match ax with
 | [.agg [.v (.int .i64 t),.lst (.ints .i64 l)]]=>some ⟨decide (In64 l),rsL (chkL t l) (gF l (tgA l) fun _=>true),[],0⟩
 | _=>none
theorem spPFd_ok:ZCtOk Try.prog 22 spPFd:=fun γ w us ax r hs hc hax hN hfz=>by
 unfold spPFd at hs;split at hs
 case h_2=>cases hs
 rename_i t l;obtain ⟨rfl⟩:=Option.some.inj hs;have hc_0:decide (In64 l)=true:=hc;have hc:=of_decide_eq_true hc_0;exact EndZ.calls (PFreed.ends hc) ctLo_ok (by kernel_rfl) hax hN hfz

noncomputable def wokF (l p:List Int) (i:Nat):Bool:=bc (decide (p.getD i 0 < 0)) false (bc (decide ((l.length:Int)≤p.getD i 0)) false (bc (isPn (l.getD (p.getD i 0).toNat 0)) (bc (decide (0 < i)) (!decide (p.getD i 0≤p.getD (i - 1) 0)) true) false))
noncomputable def wokA (l p:List Int):Bool:=(List.range p.length).all (wokF l p)
noncomputable def withE (t:Int) (l p:List Int):Int:=bc (chkL t l != 0) (chkL t l) (bc (wokA l p) 0 2)
def PinO (p:List Int) (j:Nat):Bool:=decide ((j:Int) ∈ p)

def InvO (o:List Bool) (n:Nat) (p:List Int) (i:Nat):Prop:=o.length=n∧∀ j,o.getD j false=true↔(j:Int) ∈ p.take i
namespace PWith
noncomputable def RUN (s:ES):ZF:=RZ 20 ctLo (atS 0 20 6) [] [[(1,none),(2,none),(7,none),(19,none),(20,none),(21,none)]] false s

noncomputable def sL (t:Int) (l p:List Int) (o:List Bool) (m:Nat) (i:Int):NS:=⟨[⟨20,63,[(1,(EV.lst (SyC.ints IntKind.i64 (p)))),(2,(EV.ptr 0 0)),(7,(EV.ptr 1 0)),(19,(EV.lst (SyC.ints IntKind.i64 (p)))),(20,(EV.v (Value.int IntKind.i64 (Int.ofNat (List.length p))))),(21,iv i)],[.it (.code (nav [1,1,1,0,1,0,0] (bodyOf Try.f20))),.it (.inLoop (nav [1,1,1,0,1,0,0] (bodyOf Try.f20))),.it (.inBlock 0),.it (.code (nav [1,1,1,1] (bodyOf Try.f20)))],[],Option.none⟩],[(0,(EK.cells 24 [(EV.v (Value.int IntKind.i64 (t))),(EV.lst (SyC.ints IntKind.i64 (l)))] true)),(1,EK.cells 45 [EV.slO 2 1 m true] true),(2,EK.seq 4 (.bools o) true)],3⟩
theorem in_t (t:Int) (l p:List Int):RUN (st0 20 [hE t l,il p])=(bc (bc (decide (In64 l)) true false) (bc (chkL t l != (0:Int)) (.done (EV.tup [(EV.v (Value.slice Option.none 0 0)),(EV.v (Value.int IntKind.i64 (chkL t l)))]) [] 0) (bc (bc (decide (Int.ofNat (List.length l)≤Int.ofNat (List.length l))) (decide (Int.ofNat (List.length l)≤(65536:Int))) false) (.at (sL (t) (l) (p) (List.replicate (Int.toNat (Int.ofNat (List.length l))) false) (List.length (List.replicate (Int.toNat (Int.ofNat (List.length l))) false)) ((0:Int)))) .bad)) .bad):=by kernel_rfl
theorem l_t (t:Int) (l p:List Int) (o:List Bool) (m:Nat) (i:Int):RUN (stOf (sL t l p o m i))=(bc (decide (i < Int.ofNat (List.length p))) (bc (bc (bc (decide ((0:Int)≤i)) (Nat.blt (Int.toNat i) (List.length p)) false) true false) (bc (bc (Nat.blt (Int.toNat i) (List.length p)) true false) (bc (decide (List.getD p (Int.toNat i) (0:Int) < (0:Int))) (.done (EV.tup [(EV.v (Value.slice Option.none 0 0)),(EV.v (Value.int IntKind.i64 (2)))]) [] 0) (bc (decide (Int.ofNat m≤List.getD p (Int.toNat i) (0:Int))) (.done (EV.tup [(EV.v (Value.slice Option.none 0 0)),(EV.v (Value.int IntKind.i64 (2)))]) [] 0) (bc (bc (bc (decide ((0:Int)≤List.getD p (Int.toNat i) (0:Int))) (Nat.blt (Int.toNat (List.getD p (Int.toNat i) (0:Int))) (List.length l)) false) true false) (bc (bc (Nat.blt (Int.toNat (List.getD p (Int.toNat i) (0:Int))) (List.length l)) true false) (bc (!decide ((1000:Int) < List.getD l (Int.toNat (List.getD p (Int.toNat i) (0:Int))) (0:Int))) (.done (EV.tup [(EV.v (Value.slice Option.none 0 0)),(EV.v (Value.int IntKind.i64 (2)))]) [] 0) (bc (decide ((0:Int) < i)) (bc (bc (bc (decide ((0:Int)≤IntKind.wrap IntKind.i64 (i - (1:Int)))) (Nat.blt (Int.toNat (IntKind.wrap IntKind.i64 (i - (1:Int)))) (List.length p)) false) true false) (bc (bc (Nat.blt (Int.toNat (IntKind.wrap IntKind.i64 (i - (1:Int)))) (List.length p)) true false) (bc (decide (List.getD p (Int.toNat i) (0:Int)≤List.getD p (Int.toNat (IntKind.wrap IntKind.i64 (i - (1:Int)))) (0:Int))) (.done (EV.tup [(EV.v (Value.slice Option.none 0 0)),(EV.v (Value.int IntKind.i64 (2)))]) [] 0) (bc (bc (bc (decide ((0:Int)≤List.getD p (Int.toNat i) (0:Int))) (Nat.blt (Int.toNat (List.getD p (Int.toNat i) (0:Int))) m) false) true false) (bc (Nat.blt (Int.toNat (List.getD p (Int.toNat i) (0:Int))) (List.length o)) (.at (sL (t) (l) (p) (List.set o (Int.toNat (List.getD p (Int.toNat i) (0:Int))) true) (m) (IntKind.wrap IntKind.i64 (i+(1:Int))))) .bad) .bad)) .bad) .bad) (bc (bc (bc (decide ((0:Int)≤List.getD p (Int.toNat i) (0:Int))) (Nat.blt (Int.toNat (List.getD p (Int.toNat i) (0:Int))) m) false) true false) (bc (Nat.blt (Int.toNat (List.getD p (Int.toNat i) (0:Int))) (List.length o)) (.at (sL (t) (l) (p) (List.set o (Int.toNat (List.getD p (Int.toNat i) (0:Int))) true) (m) (IntKind.wrap IntKind.i64 (i+(1:Int))))) .bad) .bad))) .bad) .bad))) .bad) .bad) (bc (bc (decide (TigOk l l (0:Nat) (0:Nat))) true false) (bc (bc (bc (Nat.beq (List.length l) (List.length (tgA l))) (bc (Nat.beq m (List.length o)) (decide (FrOkO l (tgA l) o)) false) false) true false) (bc (bc (Nat.beq (List.length (gF l (tgA l) (PFrB.O o))) (List.length (gF l (tgA l) (PFrB.O o)))) true false) (.done (EV.tup [(EV.lst (SyC.ints IntKind.i64 (gF l (tgA l) (PFrB.O o)))),(EV.v (Value.int IntKind.i64 (0)))]) [] 0) .bad) .bad) .bad)):=by kernel_rfl
theorem step {t:Int} {l p:List Int} {o:List Bool} {i:Nat} (hi:i < p.length) (hp:p.length≤3000) (ho:o.length=l.length):RUN (stOf (sL t l p o l.length i))=bc (wokF l p i) (.at (sL t l p (o.set (p.getD i 0).toNat true) l.length (i+1:Nat))) (.done (.tup [.v (.slice none 0 0),iv 2]) [] 0):=by
 have e0:Int.toNat (i:Int)=i:=rfl;have e1:IntKind.i64.wrap ((i:Int)+1)=((i+1:Nat):Int):=by rw [wrap_in _ (by omega) (by omega)];rfl
 rw [l_t,e0,e1,ho];unfold wokF;have c0:decide ((i:Int) < Int.ofNat p.length)=true:=dt (by rw [ofn];omega);have c1:decide (0≤(i:Int))=true:=dt (by omega);have c2:Nat.blt i p.length=true:=bltD hi;simp only [c0,c1,c2,bc_t];generalize hx:p.getD i 0=x
 by_cases h1:x < 0
 ·simp only [dt h1,bc_t,bc_f]
 simp only [df h1,bc_f]
 by_cases h2:(l.length:Int)≤x
 ·simp only [ofn,dt h2,bc_t,bc_f]
 have h2':¬ Int.ofNat l.length≤x:=by rw [ofn];exact h2
 have c3:decide (0≤x)=true:=dt (by omega);have c4:Nat.blt x.toNat l.length=true:=bltD (by omega);simp only [df h2,df h2',bc_f,c3,c4,bc_t];unfold isPn
 cases decide (1000 < l.getD x.toNat 0) with
 | false=>rfl
 | true=>
  simp only [Bool.not_true,bc_f,bc_t]
  by_cases h3:0 < i
  ·have w:IntKind.i64.wrap ((i:Int) - 1)=((i - 1:Nat):Int):=by rw [wrap_in _ (by omega) (by omega)];omega
   have e2:Int.toNat ((i - 1:Nat):Int)=i - 1:=rfl;have c5:Nat.blt (i - 1) p.length=true:=bltD (by omega);have c6:decide (0≤((i - 1:Nat):Int))=true:=dt (by omega);rw [dt h3,dt (show (0:Int) < (i:Int) by omega),w,e2];simp only [bc_t,c5,c6];cases decide (x≤p.getD (i - 1) 0) <;> rfl
  ·rw [df h3,df (show ¬ (0:Int) < (i:Int) by omega)];rfl
theorem wok_in {l p:List Int} {i:Nat} (h:wokF l p i=true):0≤p.getD i 0∧p.getD i 0 < l.length∧isPn (l.getD (p.getD i 0).toNat 0)=true:=by
 unfold wokF at h
 by_cases h1:p.getD i 0 < 0
 ·rw [dt h1,bc_t] at h;cases h
 rw [df h1,bc_f] at h
 by_cases h2:(l.length:Int)≤p.getD i 0
 ·rw [dt h2,bc_t] at h;cases h
 rw [df h2,bc_f] at h
 cases hp:isPn (l.getD (p.getD i 0).toNat 0) with
 | false=>rw [hp,bc_f] at h;cases h
 | true=>exact ⟨by omega,by omega,rfl⟩
theorem inv_step {o:List Bool} {n:Nat} {p:List Int} {i:Nat} (h:InvO o n p i) (hi:i < p.length) (h0:0≤p.getD i 0) (h1:p.getD i 0 < n):InvO (o.set (p.getD i 0).toNat true) n p (i+1):=by
 refine ⟨by rw [List.length_set];exact h.1,fun j=>?_⟩;rw [gsB,List.take_succ_eq_append_getElem hi,List.mem_append,List.mem_singleton,← getD_at (d:=0) hi,← h.2 j]
 by_cases c:j=(p.getD i 0).toNat
 ·rw [if_pos ⟨c,by rw [h.1];omega⟩];have:(j:Int)=p.getD i 0:=by omega
  simp [this]
 ·rw [if_neg fun q=>c q.1];have:¬ (j:Int)=p.getD i 0:=by omega
  exact ⟨.inl,fun q=>q.resolve_right this⟩
theorem loop {t:Int} {l p:List Int} (z:chkL t l=0) (hp:p.length≤3000):∀ (k i:Nat) (o:List Bool),i+k=p.length→InvO o l.length p i→EndZ 20 ctLo false (stOf (sL t l p o l.length i)) (rsL (bc ((List.range' i k).all (wokF l p)) 0 2) (gF l (tgA l) (PinO p))) [] 0
 | 0,i,o,h,ho=>by
  obtain rfl:i=p.length:=by omega
  have h1:=l_t t l p o l.length p.length;obtain ⟨g1,g2⟩:=chkL_tig z;have e:PFrB.O o=PinO p:=by
   funext j
   show o.getD j false=decide ((j:Int) ∈ p);have:=ho.2 j;rw [List.take_length] at this;rw [Bool.eq_iff_iff,this,decide_eq_true_iff]
  rw [df (show ¬ (p.length:Int) < Int.ofNat p.length by rw [ofn];omega),bc_f,dt g1,tgA_len,ho.1,dt (show FrOkO l (tgA l) o from ⟨g2,ho.1⟩),e] at h1
  simp (disch:=omega) only [Nat.add_eq,eqSy_self,eqN_self,bc_same,List.length_cons,ofn,wrap_in,dt,df,bltD,bltN,ble_of,bleN,beqD,bc_t,bc_f,nn_ok,Nat.zero_add,to_nat,Int.zero_add,Int.sub_zero,Int.sub_self,Int.cast_ofNat_Int,Int.natCast_zero,Int.toNat_zero,List.take_zero,List.nil_append,List.length_append,List.length_nil] at h1;exact .done h1
 | k+1,i,o,h,ho=>by
  have h1:=step (t:=t) (l:=l) (p:=p) (o:=o) (i:=i) (by omega) hp ho.1;rw [List.range'_succ]
  cases hw:wokF l p i with
  | false=>
   rw [hw,bc_f] at h1;rw [List.all_cons,hw,Bool.false_and,bc_f];exact (EndZ.done h1).weak (rsL_err _ (by decide))
  | true=>
   rw [hw,bc_t] at h1;rw [List.all_cons,hw,Bool.true_and];obtain ⟨q1,q2,_⟩:=wok_in hw;exact .at ctLo_ok h1 (loop z hp k (i+1) _ (by omega) (inv_step ho (by omega) q1 q2))
theorem ends {t:Int} {l p:List Int} (hx:In64 l) (hp:p.length≤3000):EndZ 20 ctLo false (st0 20 [hE t l,il p]) (rsL (withE t l p) (gF l (tgA l) (PinO p))) [] 0:=by
 have h:=in_t t l p;unfold withE;rw [dt hx,bc_t,bc_t] at h
 by_cases z:chkL t l=0
 ·obtain ⟨_,g1,_⟩:=chkL_ok z;have e:Int.toNat (Int.ofNat l.length)=l.length:=rfl;have e2:(chkL t l != 0)=false:=by rw [z];rfl
  rw [e2,bc_f,e,dt (show Int.ofNat l.length≤Int.ofNat l.length from Int.le_refl _),dt (show Int.ofNat l.length≤65536 by rw [ofn];omega),bc_t,bc_t,List.length_replicate] at h
  rw [e2,bc_f];have h2:=loop (t:=t) (l:=l) (p:=p) z hp p.length 0 (List.replicate l.length false) (by omega) ⟨List.length_replicate ..,fun j=>by
   rw [List.getD_eq_getElem?_getD,List.getElem?_replicate,List.take_zero]
   by_cases h:j < l.length
   ·rw [if_pos h];simp
   ·rw [if_neg h];simp⟩
  rw [← List.range_eq_range'] at h2;exact .at ctLo_ok h h2
 ·rw [show (chkL t l != 0)=true by simp [z],bc_t] at h;rw [show (chkL t l != 0)=true by simp [z],bc_t];exact (EndZ.done h).weak (rsL_err _ z)
end PWith
noncomputable def spPWi:ZCT:=fun ax=>match ax with
 | [.agg [.v (.int .i64 t),.lst (.ints .i64 l)],.lst (.ints .i64 p)]=>some ⟨decide (In64 l∧p.length≤3000),rsL (withE t l p) (gF l (tgA l) (PinO p)),[],0⟩
 | _=>none
theorem spPWi_ok:ZCtOk Try.prog 20 spPWi:=fun γ w us ax r hs hc hax hN hfz=>by
 unfold spPWi at hs;split at hs
 case h_2=>cases hs
 rename_i t l p;obtain ⟨rfl⟩:=Option.some.inj hs;have hc_0:decide (In64 l∧p.length≤3000)=true:=hc;have hc:=of_decide_eq_true hc_0;exact EndZ.calls (PWith.ends hc.1 hc.2) ctLo_ok (by kernel_rfl) hax hN hfz
end Go.Proofs.Ytooimphimnagaaa.Ev
namespace Go.Proofs.Ytooimphimnagaaa.Ev
open Go.Proofs
namespace RTch
noncomputable def RUN (s:ES):ZF:=RZ 119 .nil (fun _=>false) [] [] false s
theorem in_t (x y:Int):RUN (st0 119 [iv x,iv y])=(bc (decide ((1000:Int) < x)) (bc (decide ((1000:Int) < y)) (bc (decide ((-1:Int)≤IntKind.wrap IntKind.i64 (IntKind.wrap IntKind.i64 (x - (1000:Int)) - IntKind.wrap IntKind.i64 (y - (1000:Int))))) (bc (decide (IntKind.wrap IntKind.i64 (IntKind.wrap IntKind.i64 (x - (1000:Int)) - IntKind.wrap IntKind.i64 (y - (1000:Int)))≤(1:Int))) (bc (decide ((1000:Int) < x)) (.done (EV.v (Value.bool (!decide ((1000:Int) < y)))) [] 0) (.done (EV.v (Value.bool true)) [] 0)) (.done (EV.v (Value.bool false)) [] 0)) (.done (EV.v (Value.bool false)) [] 0)) (bc (decide ((-1:Int)≤IntKind.wrap IntKind.i64 (IntKind.wrap IntKind.i64 (x - (1000:Int)) - if IntKind.wrap IntKind.i64 ((0:Int) - y) > y then IntKind.wrap IntKind.i64 ((0:Int) - y) else y))) (bc (decide (IntKind.wrap IntKind.i64 (IntKind.wrap IntKind.i64 (x - (1000:Int)) - if IntKind.wrap IntKind.i64 ((0:Int) - y) > y then IntKind.wrap IntKind.i64 ((0:Int) - y) else y)≤(1:Int))) (bc (decide ((1000:Int) < x)) (.done (EV.v (Value.bool (!decide ((1000:Int) < y)))) [] 0) (.done (EV.v (Value.bool true)) [] 0)) (.done (EV.v (Value.bool false)) [] 0)) (.done (EV.v (Value.bool false)) [] 0))) (bc (decide ((1000:Int) < y)) (bc (decide ((-1:Int)≤IntKind.wrap IntKind.i64 ((if IntKind.wrap IntKind.i64 ((0:Int) - x) > x then IntKind.wrap IntKind.i64 ((0:Int) - x) else x) - IntKind.wrap IntKind.i64 (y - (1000:Int))))) (bc (decide (IntKind.wrap IntKind.i64 ((if IntKind.wrap IntKind.i64 ((0:Int) - x) > x then IntKind.wrap IntKind.i64 ((0:Int) - x) else x) - IntKind.wrap IntKind.i64 (y - (1000:Int)))≤(1:Int))) (bc (decide ((1000:Int) < x)) (.done (EV.v (Value.bool (!decide ((1000:Int) < y)))) [] 0) (.done (EV.v (Value.bool true)) [] 0)) (.done (EV.v (Value.bool false)) [] 0)) (.done (EV.v (Value.bool false)) [] 0)) (bc (decide ((-1:Int)≤IntKind.wrap IntKind.i64 ((if IntKind.wrap IntKind.i64 ((0:Int) - x) > x then IntKind.wrap IntKind.i64 ((0:Int) - x) else x) - if IntKind.wrap IntKind.i64 ((0:Int) - y) > y then IntKind.wrap IntKind.i64 ((0:Int) - y) else y))) (bc (decide (IntKind.wrap IntKind.i64 ((if IntKind.wrap IntKind.i64 ((0:Int) - x) > x then IntKind.wrap IntKind.i64 ((0:Int) - x) else x) - if IntKind.wrap IntKind.i64 ((0:Int) - y) > y then IntKind.wrap IntKind.i64 ((0:Int) - y) else y)≤(1:Int))) (bc (decide ((1000:Int) < x)) (.done (EV.v (Value.bool (!decide ((1000:Int) < y)))) [] 0) (.done (EV.v (Value.bool true)) [] 0)) (.done (EV.v (Value.bool false)) [] 0)) (.done (EV.v (Value.bool false)) [] 0)))):=by kernel_rfl
theorem sz_num {x:Int} (hx:-1000000≤x∧x≤1000000) (h:¬ 1000 < x):(if IntKind.wrap IntKind.i64 (0 - x) > x then IntKind.wrap IntKind.i64 (0 - x) else x)=numL x:=by
 rw [wrap_in (0 - x) (by omega) (by omega)];unfold numL;rw [if_neg h];split <;> split <;> omega
theorem pn_num {x:Int} (hx:-1000000≤x∧x≤1000000) (h:1000 < x):IntKind.wrap IntKind.i64 (x - 1000)=numL x:=by
 rw [wrap_in (x - 1000) (by omega) (by omega)];unfold numL;rw [if_pos h]
theorem num_b {x:Int} (hx:-1000000≤x∧x≤1000000):-1000000≤numL x∧numL x≤1000000:=by
 unfold numL;split
 ·omega
 ·split <;> omega
theorem ends {x y:Int} (hx:-1000000≤x∧x≤1000000) (hy:-1000000≤y∧y≤1000000):EndZ 119 .nil false (st0 119 [iv x,iv y]) (bv (tchL x y)) [] 0:=by
 have h:=in_t x y;have b1:=num_b hx;have b2:=num_b hy;have w:IntKind.wrap IntKind.i64 (numL x - numL y)=numL x - numL y:=wrap_in _ (by omega) (by omega);have key:RUN (st0 119 [iv x,iv y]) = .done (bv (tchL x y)) [] 0:=by
  rw [h];unfold tchL isPn
  by_cases c1:1000 < x
  ·by_cases c2:1000 < y
   ·rw [dt c1,dt c2,pn_num hx c1,pn_num hy c2,w];cases decide (-1≤numL x - numL y) <;> cases decide (numL x - numL y≤1) <;> rfl
   ·rw [dt c1,df c2,pn_num hx c1,sz_num hy c2,w];cases decide (-1≤numL x - numL y) <;> cases decide (numL x - numL y≤1) <;> rfl
  ·by_cases c2:1000 < y
   ·rw [df c1,dt c2,sz_num hx c1,pn_num hy c2,w];cases decide (-1≤numL x - numL y) <;> cases decide (numL x - numL y≤1) <;> rfl
   ·rw [df c1,df c2,sz_num hx c1,sz_num hy c2,w];cases decide (-1≤numL x - numL y) <;> cases decide (numL x - numL y≤1) <;> rfl
 exact .done key
end RTch
noncomputable def spTch:ZCT:=fun ax=>match ax with
 | [.v (.int .i64 x),.v (.int .i64 y)]=>some ⟨decide ((-1000000≤x∧x≤1000000)∧(-1000000≤y∧y≤1000000)),bv (tchL x y),[],0⟩
 | _=>none
theorem spTch_ok:ZCtOk Try.prog 119 spTch:=fun γ w us ax r hs hc hax hN hfz=>by
 unfold spTch at hs;split at hs
 case h_2=>cases hs
 rename_i x y;obtain ⟨rfl⟩:=Option.some.inj hs;have hc_0:decide ((-1000000≤x∧x≤1000000)∧(-1000000≤y∧y≤1000000))=true:=hc;have hc:=of_decide_eq_true hc_0;exact EndZ.calls (RTch.ends hc.1 hc.2) (.nil _) (by kernel_rfl) hax hN hfz
namespace RIsP
noncomputable def RUN (s:ES):ZF:=RZ 41 .nil (fun _=>false) [] [] false s
theorem in_t (x:Int):RUN (st0 41 [iv x])=(.done (EV.v (Value.bool (decide ((1000:Int) < x)))) [] 0):=by kernel_rfl
end RIsP
noncomputable def spIsP:ZCT:=fun ax=>match ax with
 | [.v (.int .i64 x)]=>some ⟨decide (True),bv (isPn x),[],0⟩
 | _=>none
theorem spIsP_ok:ZCtOk Try.prog 41 spIsP:=fun γ w us ax r hs hc hax hN hfz=>by
 unfold spIsP at hs;split at hs
 case h_2=>cases hs
 rename_i x;obtain ⟨rfl⟩:=Option.some.inj hs;have hc_0:decide (True)=true:=hc;have hc:=of_decide_eq_true hc_0;exact EndZ.calls (.done (RIsP.in_t x)) (.nil _) (by kernel_rfl) hax hN hfz
namespace RAll
noncomputable def RUN (s:ES):ZF:=RZ 73 .nil (atS 0 73 3) [] [[(1,none),(3,some (1,3,.ints .i64 [])),(4,none)]] false s

noncomputable def sL (t:Int) (l g:List Int) (nn:Bool) (i:Int):NS:=⟨[⟨73,17,[(1,(EV.ptr 0 0)),(3,EV.slO 1 1 g.length nn),(4,iv i)],[.it (.code (nav [1,1,0,1,0,0,0] (bodyOf Try.f73))),.it (.code (nav [1,1,0,1,0,0,1] (bodyOf Try.f73))),.it (.inLoop (nav [1,1,0,1,0,0] (bodyOf Try.f73))),.it (.inBlock 0),.it (.code (nav [1,1,1] (bodyOf Try.f73)))],[],Option.none⟩],[(0,(EK.cells 24 [(EV.v (Value.int IntKind.i64 (t))),(EV.lst (SyC.ints IntKind.i64 (l)))] true)),(1,EK.seq 3 (.ints .i64 g) nn)],2⟩
theorem in_t (t:Int) (l:List Int):RUN (st0 73 [hE t l])=(.at (sL (t) (l) ([]) (false) ((0:Int)))):=by kernel_rfl
theorem l_t (t:Int) (l g:List Int) (nn:Bool) (i:Int):RUN (stOf (sL t l g nn i))=(bc (decide (i < Int.ofNat (List.length l))) (bc (bc (Nat.beq (List.length g) (List.length g)) (bc (Nat.ble (List.length g+List.length (List.map (fun r=>U.int (List.headD r (U.i (0:Int)))) [[U.i i]])) (65536:Nat)) (bc nn true (bc nn false true)) false) false) (.at (sL (t) (l) (g ++ List.map (fun r=>U.int (List.headD r (U.i (0:Int)))) [[U.i i]]) (bc nn true (Nat.blt (0:Nat) (List.length (List.map (fun r=>U.int (List.headD r (U.i (0:Int)))) [[U.i i]])))) (IntKind.wrap IntKind.i64 (i+(1:Int))))) .bad) (bc (Nat.beq (List.length g) (List.length g)) (.done (EV.lst (SyC.ints IntKind.i64 (g))) [] 0) .bad)):=by kernel_rfl
theorem loop {t:Int} {l:List Int} (hl:l.length≤3000):∀ (k i:Nat) (nn:Bool),i+k=l.length→EndZ 73 .nil false (stOf (sL t l (ofNs (List.range i)) nn i)) (il (ofNs (List.range l.length))) [] 0
 | 0,i,nn,h=>by
  obtain rfl:i=l.length:=by omega
  have h1:=l_t t l (ofNs (List.range l.length)) nn l.length;rw [df (show ¬ (l.length:Int) < Int.ofNat l.length by rw [ofn];omega),bc_f] at h1;simp (disch:=omega) only [Nat.add_eq,eqSy_self,eqN_self,bc_same,List.length_cons,ofn,wrap_in,dt,df,bltD,bltN,ble_of,bleN,beqD,bc_t,bc_f,nn_ok,Nat.zero_add,to_nat,Int.zero_add,Int.sub_zero,Int.sub_self,Int.cast_ofNat_Int,Int.natCast_zero,Int.toNat_zero,List.take_zero,List.nil_append,List.length_append,List.length_nil] at h1;exact .done h1
 | k+1,i,nn,h=>by
  have h1:=l_t t l (ofNs (List.range i)) nn i;have m1:List.map (fun r=>U.int (List.headD r (U.i 0))) [[U.i (i:Int)]]=[(i:Int)]:=rfl;have e:ofNs (List.range i) ++ [(i:Int)]=ofNs (List.range (i+1)):=by rw [List.range_succ,ofNs_app];rfl
  have lg:(ofNs (List.range i)).length=i:=by rw [ofNs_len,List.length_range]
  have w:bc nn true (Nat.blt 0 (List.length [(i:Int)]))=true:=by cases nn <;> rfl
  have w2:bc nn true (bc nn false true)=true:=by cases nn <;> rfl
  rw [m1,e,w,w2,lg] at h1;simp (disch:=omega) only [Nat.add_eq,eqSy_self,eqN_self,bc_same,List.length_cons,ofn,wrap_in,dt,df,bltD,bltN,ble_of,bleN,beqD,bc_t,bc_f,nn_ok,Nat.zero_add,to_nat,Int.zero_add,Int.sub_zero,Int.sub_self,Int.cast_ofNat_Int,Int.natCast_zero,Int.toNat_zero,List.take_zero,List.nil_append,List.length_append,List.length_nil] at h1;exact .at (.nil _) h1 (loop hl k (i+1) true (by omega))
theorem ends {t:Int} {l:List Int} (hl:l.length≤3000):EndZ 73 .nil false (st0 73 [hE t l]) (il (ofNs (List.range l.length))) [] 0:=
 .at (.nil _) (in_t t l) (loop hl l.length 0 false (by omega))
end RAll
noncomputable def spAll:ZCT:=fun ax=>match ax with
 | [.agg [.v (.int .i64 t),.lst (.ints .i64 l)]]=>some ⟨decide (l.length≤3000),il (ofNs (List.range l.length)),[],0⟩
 | _=>none
theorem spAll_ok:ZCtOk Try.prog 73 spAll:=fun γ w us ax r hs hc hax hN hfz=>by
 unfold spAll at hs;split at hs
 case h_2=>cases hs
 rename_i t l;obtain ⟨rfl⟩:=Option.some.inj hs;have hc_0:decide (l.length≤3000)=true:=hc;have hc:=of_decide_eq_true hc_0;exact EndZ.calls (RAll.ends hc) (.nil _) (by kernel_rfl) hax hN hfz
namespace RHas
noncomputable def RUN (s:ES):ZF:=RZ 108 .nil (atS 0 108 2) [] [[(0,none),(1,none),(5,none)]] false s

noncomputable def sL (l:List Int) (x i:Int):NS:=⟨[⟨108,18,[(0,(EV.lst (SyC.ints IntKind.i64 (l)))),(1,(EV.v (Value.int IntKind.i64 (x)))),(5,iv i)],[.it (.code (nav [1,0,1,0,0,0] (bodyOf Try.f108))),.it (.code (nav [1,0,1,0,0,1] (bodyOf Try.f108))),.it (.inLoop (nav [1,0,1,0,0] (bodyOf Try.f108))),.it (.inBlock 0),.it (.code (nav [1,1] (bodyOf Try.f108)))],[],Option.none⟩],[],0⟩
theorem in_t (l:List Int) (x:Int):RUN (st0 108 [il l,iv x])=(.at (sL (l) (x) ((0:Int)))):=by kernel_rfl
theorem l_t (l:List Int) (x i:Int):RUN (stOf (sL l x i))=(bc (decide (i < Int.ofNat (List.length l))) (bc (bc (bc (decide ((0:Int)≤i)) (Nat.blt (Int.toNat i) (List.length l)) false) true false) (bc (bc (Nat.blt (Int.toNat i) (List.length l)) true false) (bc (List.getD l (Int.toNat i) (0:Int) == x) (.done (EV.v (Value.bool true)) [] 0) (.at (sL (l) (x) (IntKind.wrap IntKind.i64 (i+(1:Int)))))) .bad) .bad) (.done (EV.v (Value.bool false)) [] 0)):=by kernel_rfl
theorem loop {l:List Int} {x:Int} (hl:l.length≤5000):∀ (k i:Nat),i+k=l.length→EndZ 108 .nil false (stOf (sL l x i)) (bv (decide (x ∈ l.drop i))) [] 0
 | 0,i,h=>by
  have h1:=l_t l x i;rw [df (show ¬ (i:Int) < Int.ofNat l.length by rw [ofn];omega),bc_f] at h1;rw [List.drop_eq_nil_of_le (by omega)];exact .done h1
 | k+1,i,h=>by
  have hi:i < l.length:=by omega
  have h1:=l_t l x i;have e0:Int.toNat (i:Int)=i:=rfl;rw [e0,getD_at hi] at h1;rw [List.drop_eq_getElem_cons hi];simp (disch:=omega) only [Nat.add_eq,eqSy_self,eqN_self,bc_same,List.length_cons,ofn,wrap_in,dt,df,bltD,bltN,ble_of,bleN,beqD,bc_t,bc_f,nn_ok,Nat.zero_add,to_nat,Int.zero_add,Int.sub_zero,Int.sub_self,Int.cast_ofNat_Int,Int.natCast_zero,Int.toNat_zero,List.take_zero,List.nil_append,List.length_append,List.length_nil] at h1
  by_cases c:l[i]=x
  ·rw [eqT c,bc_t] at h1;rw [show decide (x ∈ l[i] :: l.drop (i+1))=true from decide_eq_true (by simp [c])]
   exact .done h1
  ·rw [eqF c,bc_f] at h1;rw [show decide (x ∈ l[i] :: l.drop (i+1))=decide (x ∈ l.drop (i+1)) from decide_eq_decide.2 (by rw [List.mem_cons];exact ⟨fun q=>q.resolve_left fun e=>c e.symm,.inr⟩)]
   exact .at (.nil _) h1 (loop hl k (i+1) (by omega))
theorem ends {l:List Int} {x:Int} (hl:l.length≤5000):EndZ 108 .nil false (st0 108 [il l,iv x]) (bv (decide (x ∈ l))) [] 0:=
 .at (.nil _) (in_t l x) (loop hl l.length 0 (by omega))
end RHas
noncomputable def spHas:ZCT:=fun ax=>match ax with
 | [.lst (.ints .i64 l),.v (.int .i64 x)]=>some ⟨decide (l.length≤5000),bv (decide (x ∈ l)),[],0⟩
 | _=>none
theorem spHas_ok:ZCtOk Try.prog 108 spHas:=fun γ w us ax r hs hc hax hN hfz=>by
 unfold spHas at hs;split at hs
 case h_2=>cases hs
 rename_i l x;obtain ⟨rfl⟩:=Option.some.inj hs;have hc_0:decide (l.length≤5000)=true:=hc;have hc:=of_decide_eq_true hc_0;exact EndZ.calls (RHas.ends hc) (.nil _) (by kernel_rfl) hax hN hfz
namespace RPns
noncomputable def RUN (s:ES):ZF:=RZ 36 .nil (atS 0 36 3) [] [[(1,none),(3,some (1,3,.ints .i64 [])),(4,none)]] false s

noncomputable def sL (t:Int) (l g:List Int) (nn:Bool) (i:Int):NS:=⟨[⟨36,23,[(1,(EV.ptr 0 0)),(3,EV.slO 1 1 g.length nn),(4,iv i)],[.it (.code (nav [1,1,0,1,0,0,0] (bodyOf Try.f36))),.it (.code (nav [1,1,0,1,0,0,1] (bodyOf Try.f36))),.it (.inLoop (nav [1,1,0,1,0,0] (bodyOf Try.f36))),.it (.inBlock 0),.it (.code (nav [1,1,1] (bodyOf Try.f36)))],[],Option.none⟩],[(0,(EK.cells 24 [(EV.v (Value.int IntKind.i64 (t))),(EV.lst (SyC.ints IntKind.i64 (l)))] true)),(1,EK.seq 3 (.ints .i64 g) nn)],2⟩
theorem in_t (t:Int) (l:List Int):RUN (st0 36 [hE t l])=(.at (sL (t) (l) ([]) (false) ((0:Int)))):=by kernel_rfl
theorem l_t (t:Int) (l g:List Int) (nn:Bool) (i:Int):RUN (stOf (sL t l g nn i))=(bc (decide (i < Int.ofNat (List.length l))) (bc (bc (bc (decide ((0:Int)≤i)) (Nat.blt (Int.toNat i) (List.length l)) false) true false) (bc (bc (Nat.blt (Int.toNat i) (List.length l)) true false) (bc (decide ((1000:Int) < List.getD l (Int.toNat i) (0:Int))) (bc (bc (Nat.beq (List.length g) (List.length g)) (bc (Nat.ble (List.length g+List.length (List.map (fun r=>U.int (List.headD r (U.i (0:Int)))) [[U.i i]])) (65536:Nat)) (bc nn true (bc nn false true)) false) false) (.at (sL (t) (l) (g ++ List.map (fun r=>U.int (List.headD r (U.i (0:Int)))) [[U.i i]]) (bc nn true (Nat.blt (0:Nat) (List.length (List.map (fun r=>U.int (List.headD r (U.i (0:Int)))) [[U.i i]])))) (IntKind.wrap IntKind.i64 (i+(1:Int))))) .bad) (.at (sL (t) (l) (g) (nn) (IntKind.wrap IntKind.i64 (i+(1:Int)))))) .bad) .bad) (bc (Nat.beq (List.length g) (List.length g)) (.done (EV.lst (SyC.ints IntKind.i64 (g))) [] 0) .bad)):=by kernel_rfl
def pinI (l:List Int) (i:Nat):List Nat:=(List.range i).filter fun j=>isPn (l.getD j 0)
theorem pinI_succ (l:List Int) (i:Nat):pinI l (i+1)=pinI l i ++ (if isPn (l.getD i 0) then [i] else []):=by
 unfold pinI;rw [List.range_succ,filter_snoc]
theorem pinI_len (l:List Int) (i:Nat):(pinI l i).length≤i:=by
 have:=List.length_filter_le (fun j=>isPn (l.getD j 0)) (List.range i);rw [List.length_range] at this;exact this
theorem loop {t:Int} {l:List Int} (hl:l.length≤3000):∀ (k i:Nat) (nn:Bool),i+k=l.length→EndZ 36 .nil false (stOf (sL t l (ofNs (pinI l i)) nn i)) (il (ofNs (pinI l l.length))) [] 0
 | 0,i,nn,h=>by
  obtain rfl:i=l.length:=by omega
  have h1:=l_t t l (ofNs (pinI l l.length)) nn l.length;rw [df (show ¬ (l.length:Int) < Int.ofNat l.length by rw [ofn];omega),bc_f] at h1;simp (disch:=omega) only [Nat.add_eq,eqSy_self,eqN_self,bc_same,List.length_cons,ofn,wrap_in,dt,df,bltD,bltN,ble_of,bleN,beqD,bc_t,bc_f,nn_ok,Nat.zero_add,to_nat,Int.zero_add,Int.sub_zero,Int.sub_self,Int.cast_ofNat_Int,Int.natCast_zero,Int.toNat_zero,List.take_zero,List.nil_append,List.length_append,List.length_nil] at h1;exact .done h1
 | k+1,i,nn,h=>by
  have h1:=l_t t l (ofNs (pinI l i)) nn i;have m1:List.map (fun r=>U.int (List.headD r (U.i 0))) [[U.i (i:Int)]]=[(i:Int)]:=rfl;have e0:Int.toNat (i:Int)=i:=rfl;have lg:(ofNs (pinI l i)).length≤i:=by rw [ofNs_len];exact pinI_len l i
  have w:bc nn true (Nat.blt 0 (List.length [(i:Int)]))=true:=by cases nn <;> rfl
  have w2:bc nn true (bc nn false true)=true:=by cases nn <;> rfl
  have e:=congrArg ofNs (pinI_succ l i);rw [ofNs_app] at e;rw [m1,w,w2,e0] at h1
  by_cases c:1000 < l.getD i 0
  ·rw [show isPn (l.getD i 0)=true from decide_eq_true c,if_pos rfl] at e
   rw [show ofNs [i]=[(i:Int)] from rfl] at e
   rw [← e,dt c] at h1;simp (disch:=omega) only [Nat.add_eq,eqSy_self,eqN_self,bc_same,List.length_cons,ofn,wrap_in,dt,df,bltD,bltN,ble_of,bleN,beqD,bc_t,bc_f,nn_ok,Nat.zero_add,to_nat,Int.zero_add,Int.sub_zero,Int.sub_self,Int.cast_ofNat_Int,Int.natCast_zero,Int.toNat_zero,List.take_zero,List.nil_append,List.length_append,List.length_nil] at h1;exact .at (.nil _) h1 (loop hl k (i+1) true (by omega))
  ·rw [show isPn (l.getD i 0)=false from decide_eq_false c,if_neg (by simp),show ofNs []=([]:List Int) from rfl,List.append_nil] at e
   rw [← e,df c] at h1;simp (disch:=omega) only [Nat.add_eq,eqSy_self,eqN_self,bc_same,List.length_cons,ofn,wrap_in,dt,df,bltD,bltN,ble_of,bleN,beqD,bc_t,bc_f,nn_ok,Nat.zero_add,to_nat,Int.zero_add,Int.sub_zero,Int.sub_self,Int.cast_ofNat_Int,Int.natCast_zero,Int.toNat_zero,List.take_zero,List.nil_append,List.length_append,List.length_nil] at h1;rw [← e];have h2:=loop (t:=t) hl k (i+1) nn (by omega);exact .at (.nil _) h1 h2
theorem ends {t:Int} {l:List Int} (hl:l.length≤3000):EndZ 36 .nil false (st0 36 [hE t l]) (il (ofNs (pinI l l.length))) [] 0:=
 .at (.nil _) (in_t t l) (loop hl l.length 0 false (by omega))
end RPns
noncomputable def spPns:ZCT:=fun ax=>match ax with
 | [.agg [.v (.int .i64 t),.lst (.ints .i64 l)]]=>some ⟨decide (l.length≤3000),il (ofNs (RPns.pinI l l.length)),[],0⟩
 | _=>none
theorem spPns_ok:ZCtOk Try.prog 36 spPns:=fun γ w us ax r hs hc hax hN hfz=>by
 unfold spPns at hs;split at hs
 case h_2=>cases hs
 rename_i t l;obtain ⟨rfl⟩:=Option.some.inj hs;have hc_0:decide (l.length≤3000)=true:=hc;have hc:=of_decide_eq_true hc_0;exact EndZ.calls (RPns.ends hc) (.nil _) (by kernel_rfl) hax hN hfz
end Go.Proofs.Ytooimphimnagaaa.Ev
namespace Go.Proofs.Ytooimphimnagaaa.Ev
variable {l:List Int} {out:List Nat}
theorem ofNs_get {L:List Nat} {j:Nat} (h:j < L.length):(ofNs L).getD j 0=((L.getD j 0:Nat):Int):=by
 unfold ofNs;rw [List.getD_eq_getElem?_getD,List.getD_eq_getElem?_getD,List.getElem?_map,List.getElem?_eq_getElem h];rfl
theorem spl_at {L:List Nat} {j:Nat} (h:j < L.length):L=L.take j ++ L.getD j 0 :: L.drop (j+1):=by
 rw [getD_at h,← List.drop_eq_getElem_cons h,List.take_append_drop]
theorem tpO_at {x:Int} {j:Nat} (hj:j < out.length) (ht:tchL (l.getD (out.getD j 0) 0) x=true) (hn:∀ z,z ∈ out.drop (j+1)→tchL (l.getD z 0) x=false):tpO l out x=((out.getD j 0:Nat):Int):=by
 unfold tpO;have e:=spl_at hj;have h2:(out.drop (j+1)).filter (fun y=>tchL (l.getD y 0) x)=[]:=List.filter_eq_nil_iff.2 fun z hz=>by rw [hn z hz];simp
 have h1:out.filter (fun y=>tchL (l.getD y 0) x)=(out.take j).filter (fun y=>tchL (l.getD y 0) x) ++ [out.getD j 0]:=by
  conv=>lhs;rw [e]
  rw [List.filter_append,List.filter_cons_of_pos (p:=fun y=>tchL (l.getD y 0) x) ht,h2]
 rw [h1,ofNs_app];exact lastI_snoc _ _
theorem tpO_none {x:Int} (hn:∀ z,z ∈ out→tchL (l.getD z 0) x=false):tpO l out x = -1:=by
 unfold tpO;rw [List.filter_eq_nil_iff.2 fun z hz=>by rw [hn z hz];simp];rfl
theorem filter_at {j:Nat} (h:out.Pairwise (· < ·)) (hj:j < out.length):out.filter (fun y=>decide (y≠out.getD j 0))=out.take j ++ out.drop (j+1):=by
 have e:=spl_at hj;generalize out.getD j 0=y at *;generalize out.take j=A at *;generalize out.drop (j+1)=B at *;subst e;obtain ⟨h1,h2,h3⟩:=List.pairwise_append.1 h;have h4:=(List.pairwise_cons.1 h2).1;have f1:A.filter (fun z=>decide (z≠y))=A:=List.filter_eq_self.2 fun a ha=>by
  have:=h3 a ha y List.mem_cons_self;exact decide_eq_true (p:=a≠y) (by omega)
 have f2:B.filter (fun z=>decide (z≠y))=B:=List.filter_eq_self.2 fun a ha=>by
  have:=h4 a ha;exact decide_eq_true (p:=a≠y) (by omega)
 rw [List.filter_append,List.filter_cons_of_neg (by simp),f1,f2]

def AscI (n:Nat) (out:List Nat):Prop:=out.Pairwise (· < ·)∧∀ z,z ∈ out→z < n
theorem outS_asc {i n:Nat} (h:AscI n out) (hlt:∀ z,z ∈ out→z < i) (hi:i < n):AscI n (outS l out i)∧(∀ z,z ∈ outS l out i→z < i+1)∧(outS l out i).length≤out.length+1:=by
 unfold outS;split
 ·refine ⟨⟨h.1.sublist List.filter_sublist,fun z hz=>h.2 z (List.mem_filter.1 hz).1⟩,fun z hz=>?_,?_⟩
  ·have:=hlt z (List.mem_filter.1 hz).1;omega
  ·exact Nat.le_trans (List.length_filter_le _ _) (Nat.le_succ _)
 ·refine ⟨⟨List.pairwise_append.2 ⟨h.1,List.pairwise_singleton _ _,fun a ha b hb=>?_⟩,fun z hz=>?_⟩,fun z hz=>?_,by simp⟩
  ·have:b=i:=by simpa using hb
   rw [this];exact hlt a ha
  ·rcases List.mem_append.1 hz with hz | hz
   ·exact h.2 z hz
   ·have:z=i:=by simpa using hz
    omega
  ·rcases List.mem_append.1 hz with hz | hz
   ·have:=hlt z hz;omega
   ·have:z=i:=by simpa using hz
    omega
theorem tigL_asc {n:Nat}:∀ (idx:List Nat) (out:List Nat),AscI n out→AscI n idx→(∀ z w,z ∈ out→w ∈ idx→z < w)→AscI n (idx.foldl (outS l) out)∧(idx.foldl (outS l) out).length≤out.length+idx.length
 | [],out,h,_,_=>⟨h,Nat.le_refl _⟩
 | i :: idx,out,h,hi,hz=>by
  obtain ⟨a1,a2⟩:=List.pairwise_cons.1 hi.1;obtain ⟨b1,b2,b3⟩:=outS_asc (l:=l) (i:=i) h (fun z hz2=>hz z i hz2 List.mem_cons_self) (hi.2 i List.mem_cons_self);obtain ⟨c1,c2⟩:=tigL_asc idx (outS l out i) b1 ⟨a2,fun z hz=>hi.2 z (List.mem_cons_of_mem _ hz)⟩ fun z w hz1 hw=>by
   have:=b2 z hz1;have:=a1 w hw;omega
  refine ⟨c1,?_⟩;rw [List.length_cons];show ((idx.foldl (outS l) (outS l out i))).length≤_;omega
theorem range_asc (n:Nat):AscI n (List.range n):=⟨List.pairwise_lt_range,fun z hz=>List.mem_range.1 hz⟩
theorem AscI.sub {n:Nat} {out:List Nat} (h:AscI n out) (p:Nat→Bool):AscI n (out.filter p):=⟨h.1.sublist List.filter_sublist,fun z hz=>h.2 z (List.mem_filter.1 hz).1⟩
theorem tig_asc {n:Nat} {idx:List Nat} (h:AscI n idx):AscI n (tigL l idx)∧(tigL l idx).length≤idx.length:=by
 obtain ⟨a,b⟩:=tigL_asc (l:=l) (n:=n) idx [] ⟨.nil,fun z hz=>by cases hz⟩ h fun z w hz=>by cases hz
 refine ⟨a,?_⟩;rw [List.length_nil,Nat.zero_add] at b;exact b
theorem asc_len:∀ {n:Nat} {out:List Nat},AscI n out→out.length≤n:=by
 intro n out h;have key:∀ (L:List Nat) (a:Nat),L.Pairwise (· < ·)→(∀ z,z ∈ L→a≤z∧z < n)→a+L.length≤n∨L=[]:=by
  intro L
  induction L with
  | nil=>intro a _ _;exact .inr rfl
  | cons y L ih=>
   intro a hp hz;obtain ⟨p1,p2⟩:=List.pairwise_cons.1 hp;obtain ⟨q1,q2⟩:=hz y List.mem_cons_self;left;rcases ih (y+1) p2 (fun z hz2=>⟨p1 z hz2,(hz z (List.mem_cons_of_mem _ hz2)).2⟩) with h | h
   ·rw [List.length_cons];omega
   ·rw [h];simp;omega
 rcases key out 0 h.1 (fun z hz=>⟨Nat.zero_le _,h.2 z hz⟩) with h | h
 ·omega
 ·rw [h];exact Nat.zero_le _
end Go.Proofs.Ytooimphimnagaaa.Ev
namespace Go.Proofs.Ytooimphimnagaaa.Ev
open Go.Proofs
noncomputable def spNoT:ZCT:=fun _=>none
theorem spNoT_ok:ZCtOk Try.prog 0 spNoT:=fun _ _ _ _ _ h=>by cases h
noncomputable def ctRt:Tr ZCC:=((((((Tr.nil.put 119 (some (dC spTch))).put 41 (some (dC spIsP))).put 73 (some (dC spAll))).put 108 (some (dC spHas))).put 36 (some (dC spPns))).put 35 (some (dC spRChL))).put 0 (some (dC spNoT))
theorem ctRt_ok:ZCtsOk Try.prog ctRt:=(((((((ZCtsOk.nil _).add rfl spTch_ok).add rfl spIsP_ok).add rfl spAll_ok).add rfl spHas_ok).add rfl spPns_ok).add rfl spRChL_ok).add rfl spNoT_ok
namespace RTgn
noncomputable def RUN (s:ES):ZF:=RZs 72 ctRt [(atS 0 72 3,[[(0,none),(1,none),(5,some (1,3,.ints .i64 [])),(6,none)]]),(atS 0 72 8,[[(0,none),(1,none),(5,none),(6,none),(7,none),(8,none),(9,none)]]),(atS 0 72 12,[[(0,none),(1,none),(5,none),(6,none),(7,none),(8,none)]])] [] false s

noncomputable def sA (l d g:List Int) (nn:Bool) (i:Int):NS:=⟨[⟨72,81,[(0,(EV.lst (SyC.ints IntKind.i64 (l)))),(1,(EV.lst (SyC.ints IntKind.i64 (d)))),(5,EV.slO 0 1 g.length nn),(6,iv i)],[.it (.code (nav [1,1,0,1,0,0,0] (bodyOf Try.f72))),.it (.code (nav [1,1,0,1,0,0,1] (bodyOf Try.f72))),.it (.inLoop (nav [1,1,0,1,0,0] (bodyOf Try.f72))),.it (.inBlock 0),.it (.code (nav [1,1,1] (bodyOf Try.f72)))],[],Option.none⟩],[(0,EK.seq 3 (.ints .i64 g) nn)],1⟩
noncomputable def sB (l d g:List Int) (m:Nat) (nn:Bool) (i x e k:Int):NS:=⟨[⟨72,81,[(0,(EV.lst (SyC.ints IntKind.i64 (l)))),(1,(EV.lst (SyC.ints IntKind.i64 (d)))),(5,EV.slO 0 1 m nn),(6,iv i),(7,iv x),(8,iv e),(9,iv k)],[.it (.code (nav [1,1,0,1,0,0,1,0,0,1,1,0,1,0,0,0] (bodyOf Try.f72))),.it (.code (nav [1,1,0,1,0,0,1,0,0,1,1,0,1,0,0,1] (bodyOf Try.f72))),.it (.inLoop (nav [1,1,0,1,0,0,1,0,0,1,1,0,1,0,0] (bodyOf Try.f72))),.it (.inBlock 2),.it (.code (nav [1,1,0,1,0,0,1,0,0,1,1,1] (bodyOf Try.f72))),.it (.inBlock 1),.it (.code (nav [1,1,0,1,0,0,1,1] (bodyOf Try.f72))),.it (.inLoop (nav [1,1,0,1,0,0] (bodyOf Try.f72))),.it (.inBlock 0),.it (.code (nav [1,1,1] (bodyOf Try.f72)))],[],Option.none⟩],[(0,EK.seq 3 (.ints .i64 g) nn)],1⟩
noncomputable def sC (l d g:List Int) (m:Nat) (nn:Bool) (i x e:Int):NS:=⟨[⟨72,81,[(0,(EV.lst (SyC.ints IntKind.i64 (l)))),(1,(EV.lst (SyC.ints IntKind.i64 (d)))),(5,(EV.slO 0 1 (m) (nn))),(6,(EV.v (Value.int IntKind.i64 (i)))),(7,(EV.v (Value.int IntKind.i64 (x)))),(8,iv e)],[.it (.code (nav [1,1,0,1,0,0,1,0,0,1,1,1] (bodyOf Try.f72))),.it (.inBlock 1),.it (.code (nav [1,1,0,1,0,0,1,1] (bodyOf Try.f72))),.it (.inLoop (nav [1,1,0,1,0,0] (bodyOf Try.f72))),.it (.inBlock 0),.it (.code (nav [1,1,1] (bodyOf Try.f72)))],[],Option.none⟩],[(0,(EK.seq 3 (SyC.ints IntKind.i64 (g)) (nn)))],1⟩
theorem in_t (l d:List Int):RUN (st0 72 [il l,il d])=(.at (sA (l) (d) ([]) (false) ((0:Int)))):=by kernel_rfl
theorem a_t (l d g:List Int) (nn:Bool) (i:Int):RUN (stOf (sA l d g nn i))=(bc (decide (i < Int.ofNat (List.length d))) (bc (bc (bc (decide ((0:Int)≤i)) (Nat.blt (Int.toNat i) (List.length d)) false) true false) (bc (bc (Nat.blt (Int.toNat i) (List.length d)) true false) (bc (bc (bc (decide ((0:Int)≤List.getD d (Int.toNat i) (0:Int))) (Nat.blt (Int.toNat (List.getD d (Int.toNat i) (0:Int))) (List.length l)) false) true false) (bc (bc (Nat.blt (Int.toNat (List.getD d (Int.toNat i) (0:Int))) (List.length l)) true false) (.at (sB (l) (d) (g) (List.length g) (nn) (i) (List.getD l (Int.toNat (List.getD d (Int.toNat i) (0:Int))) (0:Int)) ((-1:Int)) (IntKind.wrap IntKind.i64 (Int.ofNat (List.length g) - (1:Int))))) .bad) .bad) .bad) .bad) (bc (Nat.beq (List.length g) (List.length g)) (.done (EV.lst (SyC.ints IntKind.i64 (g))) [] 0) .bad)):=by kernel_rfl
theorem b_t (l d g:List Int) (m:Nat) (nn:Bool) (i x e k:Int):RUN (stOf (sB l d g m nn i x e k))=(bc (decide ((0:Int)≤k)) (bc (decide (e < (0:Int))) (bc (bc (bc (decide ((0:Int)≤k)) (Nat.blt (Int.toNat k) m) false) true false) (bc (bc (Nat.blt (Int.toNat k) (List.length g)) true false) (bc (bc (bc (decide ((0:Int)≤List.getD g (Int.toNat k) (0:Int))) (Nat.blt (Int.toNat (List.getD g (Int.toNat k) (0:Int))) (List.length l)) false) true false) (bc (bc (Nat.blt (Int.toNat (List.getD g (Int.toNat k) (0:Int))) (List.length l)) true false) (bc (bc (decide (((-1000000:Int)≤List.getD l (Int.toNat (List.getD g (Int.toNat k) (0:Int))) (0:Int)∧List.getD l (Int.toNat (List.getD g (Int.toNat k) (0:Int))) (0:Int)≤(1000000:Int))∧(-1000000:Int)≤x∧x≤(1000000:Int))) true false) (bc (tchL (List.getD l (Int.toNat (List.getD g (Int.toNat k) (0:Int))) (0:Int)) x) (.at (sB (l) (d) (g) (m) (nn) (i) (x) (k) (IntKind.wrap IntKind.i64 (k - (1:Int))))) (.at (sB (l) (d) (g) (m) (nn) (i) (x) (e) (IntKind.wrap IntKind.i64 (k - (1:Int)))))) .bad) .bad) .bad) .bad) .bad) (.at (sC (l) (d) (g) (m) (nn) (i) (x) (e)))) (.at (sC (l) (d) (g) (m) (nn) (i) (x) (e)))):=by kernel_rfl
theorem c_t (l d g:List Int) (m:Nat) (nn:Bool) (i x e:Int):RUN (stOf (sC l d g m nn i x e))=(bc (decide ((0:Int)≤e)) (bc (!isPn x) (bc (bc (bc (decide ((0:Int)≤e)) (Nat.blt (Int.toNat e) m) false) true false) (bc (bc (Nat.blt (Int.toNat e) (List.length g)) true false) (bc (bc (bc (decide ((0:Int)≤List.getD g (Int.toNat e) (0:Int))) (Nat.blt (Int.toNat (List.getD g (Int.toNat e) (0:Int))) (List.length l)) false) true false) (bc (bc (Nat.blt (Int.toNat (List.getD g (Int.toNat e) (0:Int))) (List.length l)) true false) (bc (List.getD l (Int.toNat (List.getD g (Int.toNat e) (0:Int))) (0:Int) == IntKind.wrap IntKind.i64 ((0:Int) - x)) (bc (bc (bc (bc (bc nn (bc (decide ((0:Int)≤e)) (decide (e≤Int.ofNat m)) false) false) true false) (bc (bc (Nat.ble (Nat.add (Int.toNat (0:Int)) (Int.toNat e - Int.toNat (0:Int))) (List.length g)) (bc (Nat.ble ((0:Nat)+List.length (List.drop (Int.toNat (0:Int)) (List.take (Nat.add (Int.toNat (0:Int)) (Int.toNat e - Int.toNat (0:Int))) g))) (65536:Nat)) true false) false) (bc (bc (bc nn (bc (decide ((0:Int)≤IntKind.wrap IntKind.i64 (e+(1:Int)))) (bc (decide (IntKind.wrap IntKind.i64 (e+(1:Int))≤Int.ofNat m)) (decide (Int.ofNat m≤Int.ofNat m)) false) false) false) true false) (bc (bc (Nat.ble (Nat.add (Int.toNat (IntKind.wrap IntKind.i64 (e+(1:Int)))) (Int.toNat (Int.ofNat m) - Int.toNat (IntKind.wrap IntKind.i64 (e+(1:Int))))) (List.length g)) (bc (Nat.beq (List.length ([] ++ List.drop (Int.toNat (0:Int)) (List.take (Nat.add (Int.toNat (0:Int)) (Int.toNat e - Int.toNat (0:Int))) g))) (List.length ([] ++ List.drop (Int.toNat (0:Int)) (List.take (Nat.add (Int.toNat (0:Int)) (Int.toNat e - Int.toNat (0:Int))) g)))) (bc (Nat.ble (List.length ([] ++ List.drop (Int.toNat (0:Int)) (List.take (Nat.add (Int.toNat (0:Int)) (Int.toNat e - Int.toNat (0:Int))) g))+List.length (List.drop (Int.toNat (IntKind.wrap IntKind.i64 (e+(1:Int)))) (List.take (Nat.add (Int.toNat (IntKind.wrap IntKind.i64 (e+(1:Int)))) (Int.toNat (Int.ofNat m) - Int.toNat (IntKind.wrap IntKind.i64 (e+(1:Int))))) g))) (65536:Nat)) true false) false) false) true false) false) false) false) true false) (.at (sA (l) (d) ([] ++ List.drop (Int.toNat (0:Int)) (List.take (Nat.add (Int.toNat (0:Int)) (Int.toNat e - Int.toNat (0:Int))) g) ++ List.drop (Int.toNat (IntKind.wrap IntKind.i64 (e+(1:Int)))) (List.take (Nat.add (Int.toNat (IntKind.wrap IntKind.i64 (e+(1:Int)))) (Int.toNat (Int.ofNat m) - Int.toNat (IntKind.wrap IntKind.i64 (e+(1:Int))))) g)) (true) (IntKind.wrap IntKind.i64 (i+(1:Int))))) .bad) (bc (bc (bc (decide ((0:Int)≤i)) (Nat.blt (Int.toNat i) (List.length d)) false) true false) (bc (bc (Nat.blt (Int.toNat i) (List.length d)) true false) (bc (bc (Nat.beq m (List.length g)) (bc (Nat.ble (m+List.length (List.map (fun r=>U.int (List.headD r (U.i (0:Int)))) [[U.i (List.getD d (Int.toNat i) (0:Int))]])) (65536:Nat)) (bc nn true (bc nn false true)) false) false) (.at (sA (l) (d) (g ++ List.map (fun r=>U.int (List.headD r (U.i (0:Int)))) [[U.i (List.getD d (Int.toNat i) (0:Int))]]) (bc nn true (Nat.blt (0:Nat) (List.length (List.map (fun r=>U.int (List.headD r (U.i (0:Int)))) [[U.i (List.getD d (Int.toNat i) (0:Int))]])))) (IntKind.wrap IntKind.i64 (i+(1:Int))))) .bad) .bad) .bad)) .bad) .bad) .bad) .bad) (bc (bc (bc (decide ((0:Int)≤i)) (Nat.blt (Int.toNat i) (List.length d)) false) true false) (bc (bc (Nat.blt (Int.toNat i) (List.length d)) true false) (bc (bc (Nat.beq m (List.length g)) (bc (Nat.ble (m+List.length (List.map (fun r=>U.int (List.headD r (U.i (0:Int)))) [[U.i (List.getD d (Int.toNat i) (0:Int))]])) (65536:Nat)) (bc nn true (bc nn false true)) false) false) (.at (sA (l) (d) (g ++ List.map (fun r=>U.int (List.headD r (U.i (0:Int)))) [[U.i (List.getD d (Int.toNat i) (0:Int))]]) (bc nn true (Nat.blt (0:Nat) (List.length (List.map (fun r=>U.int (List.headD r (U.i (0:Int)))) [[U.i (List.getD d (Int.toNat i) (0:Int))]])))) (IntKind.wrap IntKind.i64 (i+(1:Int))))) .bad) .bad) .bad)) (bc (bc (bc (decide ((0:Int)≤i)) (Nat.blt (Int.toNat i) (List.length d)) false) true false) (bc (bc (Nat.blt (Int.toNat i) (List.length d)) true false) (bc (bc (Nat.beq m (List.length g)) (bc (Nat.ble (m+List.length (List.map (fun r=>U.int (List.headD r (U.i (0:Int)))) [[U.i (List.getD d (Int.toNat i) (0:Int))]])) (65536:Nat)) (bc nn true (bc nn false true)) false) false) (.at (sA (l) (d) (g ++ List.map (fun r=>U.int (List.headD r (U.i (0:Int)))) [[U.i (List.getD d (Int.toNat i) (0:Int))]]) (bc nn true (Nat.blt (0:Nat) (List.length (List.map (fun r=>U.int (List.headD r (U.i (0:Int)))) [[U.i (List.getD d (Int.toNat i) (0:Int))]])))) (IntKind.wrap IntKind.i64 (i+(1:Int))))) .bad) .bad) .bad)):=by kernel_rfl

def Sm6 (l:List Int):Prop:=∀ j,-1000000≤l.getD j 0∧l.getD j 0≤1000000
theorem stepA {l:List Int} {idx out:List Nat} {nn:Bool} {i:Nat} (hi:i < idx.length) (hx:idx.length≤3000) (ho:out.length≤3000) (hl:idx.getD i 0 < l.length):RUN (stOf (sA l (ofNs idx) (ofNs out) nn i)) = .at (sB l (ofNs idx) (ofNs out) out.length nn i (l.getD (idx.getD i 0) 0) (-1) ((out.length:Int) - 1)):=by
 have e0:Int.toNat (i:Int)=i:=rfl;have e1:Int.toNat ((idx.getD i 0:Nat):Int)=idx.getD i 0:=rfl;have w:IntKind.wrap IntKind.i64 (Int.ofNat out.length - 1)=(out.length:Int) - 1:=wrap_in _ (by rw [ofn];omega) (by rw [ofn];omega);rw [a_t,e0,ofNs_get hi,e1,ofNs_len,ofNs_len,w];generalize idx.getD i 0=y at *
 simp (disch:=omega) only [Nat.add_eq,eqSy_self,eqN_self,bc_same,List.length_cons,ofn,wrap_in,dt,df,bltD,bltN,ble_of,bleN,beqD,bc_t,bc_f,nn_ok,Nat.zero_add,to_nat,Int.zero_add,Int.sub_zero,Int.sub_self,Int.cast_ofNat_Int,Int.natCast_zero,Int.toNat_zero,List.take_zero,List.nil_append,List.length_append,List.length_nil]
theorem lastA {l:List Int} {idx out:List Nat} {nn:Bool} {i:Nat} (hi:idx.length≤i):RUN (stOf (sA l (ofNs idx) (ofNs out) nn i)) = .done (il (ofNs out)) [] 0:=by
 rw [a_t,ofNs_len,df (show ¬ (i:Int) < Int.ofNat idx.length by rw [ofn];omega),bc_f];simp (disch:=omega) only [Nat.add_eq,eqSy_self,eqN_self,bc_same,List.length_cons,ofn,wrap_in,dt,df,bltD,bltN,ble_of,bleN,beqD,bc_t,bc_f,nn_ok,Nat.zero_add,to_nat,Int.zero_add,Int.sub_zero,Int.sub_self,Int.cast_ofNat_Int,Int.natCast_zero,Int.toNat_zero,List.take_zero,List.nil_append,List.length_append,List.length_nil]
theorem stepB {l d:List Int} {out:List Nat} {nn:Bool} {i x:Int} {j:Nat} (hj:j < out.length) (ho:out.length≤3000) (hl:out.getD j 0 < l.length) (hs:Sm6 l) (hx:-1000000≤x∧x≤1000000):RUN (stOf (sB l d (ofNs out) out.length nn i x (-1) (j:Nat)))=bc (tchL (l.getD (out.getD j 0) 0) x) (.at (sB l d (ofNs out) out.length nn i x (j:Nat) ((j:Int) - 1))) (.at (sB l d (ofNs out) out.length nn i x (-1) ((j:Int) - 1))):=by
 have e0:Int.toNat (j:Int)=j:=rfl;have e1:Int.toNat ((out.getD j 0:Nat):Int)=out.getD j 0:=rfl;have w:IntKind.wrap IntKind.i64 ((j:Int) - 1)=(j:Int) - 1:=wrap_in _ (by omega) (by omega);have h1:=hs (out.getD j 0);rw [b_t,e0,ofNs_get hj,e1,ofNs_len,w];generalize out.getD j 0=y at *;rw [dt (show (-1000000≤l.getD y 0∧l.getD y 0≤1000000) ∧ -1000000≤x∧x≤1000000 from ⟨h1,hx⟩)]
 simp (disch:=omega) only [Nat.add_eq,eqSy_self,eqN_self,bc_same,List.length_cons,ofn,wrap_in,dt,df,bltD,bltN,ble_of,bleN,beqD,bc_t,bc_f,nn_ok,Nat.zero_add,to_nat,Int.zero_add,Int.sub_zero,Int.sub_self,Int.cast_ofNat_Int,Int.natCast_zero,Int.toNat_zero,List.take_zero,List.nil_append,List.length_append,List.length_nil]
theorem exitB {l d g:List Int} {m:Nat} {nn:Bool} {i x e k:Int} (h:k < 0∨0≤e):RUN (stOf (sB l d g m nn i x e k)) = .at (sC l d g m nn i x e):=by
 rw [b_t]
 by_cases c:0≤k
 ·rw [dt c,df (show ¬ e < 0 by omega)];rfl
 ·rw [df c];rfl
theorem keepC {l:List Int} {idx out:List Nat} {nn:Bool} {i:Nat} {x e:Int} (hi:i < idx.length) (hx:idx.length≤3000) (ho:out.length≤3000) (hl:∀ z,z ∈ out→z < l.length) (hb:-1000000≤x∧x≤1000000) (he:e = -1∨∃ j:Nat,e=j∧j < out.length∧(isPn x=true∨l.getD (out.getD j 0) 0 ≠ -x)):RUN (stOf (sC l (ofNs idx) (ofNs out) out.length nn i x e)) = .at (sA l (ofNs idx) (ofNs (out ++ [idx.getD i 0])) true (i+1:Nat)):=by
 have e0:Int.toNat (i:Int)=i:=rfl;have m1:∀ v:Int,List.map (fun r=>U.int (List.headD r (U.i 0))) [[U.i v]]=[v]:=fun v=>rfl;have w:∀ v:Int,bc nn true (Nat.blt 0 (List.length [v]))=true:=fun v=>by cases nn <;> rfl
 have w2:bc nn true (bc nn false true)=true:=by cases nn <;> rfl
 have e2:ofNs (out ++ [idx.getD i 0])=ofNs out ++ [((idx.getD i 0:Nat):Int)]:=ofNs_app _ _;have w3:IntKind.wrap IntKind.i64 (0 - x) = -x:=by rw [wrap_in _ (by omega) (by omega)];omega
 rw [c_t,e0,ofNs_get hi,m1,w,w2,e2,ofNs_len,ofNs_len,w3];rcases he with rfl | ⟨j,rfl,hj,hc⟩
 ·rw [df (show ¬ (0:Int) ≤ -1 by decide)];simp (disch:=omega) only [Nat.add_eq,eqSy_self,eqN_self,bc_same,List.length_cons,ofn,wrap_in,dt,df,bltD,bltN,ble_of,bleN,beqD,bc_t,bc_f,nn_ok,Nat.zero_add,to_nat,Int.zero_add,Int.sub_zero,Int.sub_self,Int.cast_ofNat_Int,Int.natCast_zero,Int.toNat_zero,List.take_zero,List.nil_append,List.length_append,List.length_nil];rfl
 ·have e3:Int.toNat (j:Int)=j:=rfl;have e4:Int.toNat ((out.getD j 0:Nat):Int)=out.getD j 0:=rfl;have hm:=hl (out.getD j 0) (by rw [getD_at hj];exact List.getElem_mem hj);rw [e3,ofNs_get hj,e4];generalize out.getD j 0=y at *
  cases hp:isPn x with
  | true=>
   simp (disch:=omega) only [Nat.add_eq,eqSy_self,eqN_self,bc_same,List.length_cons,ofn,wrap_in,dt,df,bltD,bltN,ble_of,bleN,beqD,bc_t,bc_f,nn_ok,Nat.zero_add,to_nat,Int.zero_add,Int.sub_zero,Int.sub_self,Int.cast_ofNat_Int,Int.natCast_zero,Int.toNat_zero,List.take_zero,List.nil_append,List.length_append,List.length_nil,Bool.not_true];rfl
  | false=>
   have hc:l.getD y 0 ≠ -x:=hc.resolve_left (by rw [hp];simp);rw [eqF hc];simp (disch:=omega) only [Nat.add_eq,eqSy_self,eqN_self,bc_same,List.length_cons,ofn,wrap_in,dt,df,bltD,bltN,ble_of,bleN,beqD,bc_t,bc_f,nn_ok,Nat.zero_add,to_nat,Int.zero_add,Int.sub_zero,Int.sub_self,Int.cast_ofNat_Int,Int.natCast_zero,Int.toNat_zero,List.take_zero,List.nil_append,List.length_append,List.length_nil,Bool.not_false];rfl
theorem remC {l:List Int} {idx out:List Nat} {i j:Nat} {x:Int} (hi:i < 3000) (ho:out.length≤3000) (hl:∀ z,z ∈ out→z < l.length) (hb:-1000000≤x∧x≤1000000) (hj:j < out.length) (hp:isPn x=false) (hc:l.getD (out.getD j 0) 0 = -x):RUN (stOf (sC l (ofNs idx) (ofNs out) out.length true i x (j:Nat))) = .at (sA l (ofNs idx) (ofNs (out.take j ++ out.drop (j+1))) true (i+1:Nat)):=by
 have e3:Int.toNat (j:Int)=j:=rfl;have e4:Int.toNat ((out.getD j 0:Nat):Int)=out.getD j 0:=rfl;have w3:IntKind.wrap IntKind.i64 (0 - x) = -x:=by rw [wrap_in _ (by omega) (by omega)];omega
 have w4:IntKind.wrap IntKind.i64 ((j:Int)+1)=((j+1:Nat):Int):=by rw [wrap_in _ (by omega) (by omega)];rfl
 have e5:Int.toNat ((j+1:Nat):Int)=j+1:=rfl;have e6:Int.toNat (0:Int)=0:=rfl;have e7:Int.toNat (Int.ofNat out.length)=out.length:=rfl;have n1:Nat.add 0 (j - 0)=j:=by show 0+(j - 0)=j;omega
 have n2:Nat.add (j+1) (out.length - (j+1))=out.length:=by show j+1+(out.length - (j+1))=_;omega
 have hm:=hl (out.getD j 0) (by rw [getD_at hj];exact List.getElem_mem hj);have t1:List.drop 0 (List.take j (ofNs out))=ofNs (out.take j):=by unfold ofNs;rw [List.drop_zero,List.map_take]
 have t2:List.drop (j+1) (List.take out.length (ofNs out))=ofNs (out.drop (j+1)):=by
  rw [← ofNs_len out,List.take_length];unfold ofNs;rw [List.map_drop]
 have t3:(ofNs (out.take j)).length=j:=by rw [ofNs_len,List.length_take];omega
 have t4:(ofNs (out.drop (j+1))).length=out.length - (j+1):=by rw [ofNs_len,List.length_drop]
 have t5:[] ++ ofNs (out.take j)=ofNs (out.take j):=rfl;rw [c_t,e3,ofNs_get hj,e4,w3,w4,e5,e6,e7,n1,n2,t1,t2,t5,ofNs_app,ofNs_len out,t3,t4,hp,eqT hc];generalize out.getD j 0=y at *;simp (disch:=omega) only [Nat.add_eq,eqSy_self,eqN_self,bc_same,List.length_cons,ofn,wrap_in,dt,df,bltD,bltN,ble_of,bleN,beqD,bc_t,bc_f,nn_ok,Nat.zero_add,to_nat,Int.zero_add,Int.sub_zero,Int.sub_self,Int.cast_ofNat_Int,Int.natCast_zero,Int.toNat_zero,List.take_zero,List.nil_append,List.length_append,List.length_nil,Bool.not_false];rfl
theorem AscI.mem {n:Nat} {out:List Nat} {j:Nat} (h:AscI n out) (hj:j < out.length):out.getD j 0 < n:=h.2 _ (by rw [getD_at hj];exact List.getElem_mem hj)
theorem inner {l:List Int} {idx out:List Nat} {nn:Bool} {i:Nat} (hi:i < idx.length) (hx:idx.length≤3000) (ho:out.length≤3000) (ha:AscI l.length out) (hs:Sm6 l) (hn:nn=true∨out=[]) {z:EV}
  (hz:EndZ 72 ctRt false (stOf (sA l (ofNs idx) (ofNs (outS l out (idx.getD i 0))) true (i+1:Nat))) z [] 0) :
  ∀ j:Nat,j≤out.length→(∀ w,w ∈ out.drop j→tchL (l.getD w 0) (l.getD (idx.getD i 0) 0)=false)→EndZ 72 ctRt false (stOf (sB l (ofNs idx) (ofNs out) out.length nn i (l.getD (idx.getD i 0) 0) (-1) ((j:Int) - 1))) z [] 0
 | 0,hj,hw=>by
  have ht:tpO l out (l.getD (idx.getD i 0) 0) = -1:=tpO_none (by rw [List.drop_zero] at hw;exact hw);have e:outS l out (idx.getD i 0)=out ++ [idx.getD i 0]:=by
   unfold outS;rw [if_neg fun q=>by rw [ht] at q;exact absurd q.1 (by decide)]
  rw [e] at hz;exact .at ctRt_ok (exitB (.inl (by omega))) (.at ctRt_ok (keepC hi hx ho ha.2 (hs _) (.inl rfl)) hz)
 | j+1,hj,hw=>by
  have hj2:j < out.length:=by omega
  have h1:=stepB (l:=l) (d:=ofNs idx) (nn:=nn) (i:=i) (x:=l.getD (idx.getD i 0) 0) hj2 ho (AscI.mem ha hj2) hs (hs _);rw [show (((j+1:Nat):Int) - 1)=(j:Int) by omega]
  cases hc:tchL (l.getD (out.getD j 0) 0) (l.getD (idx.getD i 0) 0) with
  | false=>
   rw [hc,bc_f] at h1;refine .at ctRt_ok h1 (inner hi hx ho ha hs hn hz j (by omega) fun w hw2=>?_);rw [List.drop_eq_getElem_cons hj2,← getD_at (d:=0) hj2] at hw2;rcases List.mem_cons.1 hw2 with rfl | hw2
   ·exact hc
   ·exact hw w hw2
  | true=>
   rw [hc,bc_t] at h1;have ht:=tpO_at hj2 hc hw;refine .at ctRt_ok h1 (.at ctRt_ok (exitB (.inr (by omega))) ?_)
   by_cases hr:isPn (l.getD (idx.getD i 0) 0)=false∧l.getD (out.getD j 0) 0 = -(l.getD (idx.getD i 0) 0)
   ·have e:outS l out (idx.getD i 0)=out.take j ++ out.drop (j+1):=by
     unfold outS;rw [ht,show (((out.getD j 0:Nat):Int)).toNat=out.getD j 0 from rfl,if_pos ⟨by omega,hr.1,hr.2⟩]
     exact filter_at ha.1 hj2
    rw [e] at hz;have hnn:nn=true:=hn.resolve_right fun q=>by rw [q] at hj2;simp at hj2
    subst hnn;exact .at ctRt_ok (remC (by omega) ho ha.2 (hs _) hj2 hr.1 hr.2) hz
   ·have e:outS l out (idx.getD i 0)=out ++ [idx.getD i 0]:=by
     unfold outS;rw [ht,show (((out.getD j 0:Nat):Int)).toNat=out.getD j 0 from rfl,if_neg fun q=>hr q.2]
    rw [e] at hz;refine .at ctRt_ok (keepC hi hx ho ha.2 (hs _) (.inr ⟨j,rfl,hj2,?_⟩)) hz
    cases hp:isPn (l.getD (idx.getD i 0) 0) with
    | true=>exact .inl rfl
    | false=>exact .inr fun q=>hr ⟨hp,q⟩
theorem loop {l:List Int} {idx:List Nat} (hx:AscI l.length idx) (hx2:idx.length≤3000) (hs:Sm6 l):∀ (k i:Nat) (out:List Nat) (nn:Bool),i+k=idx.length→AscI l.length out→(∀ z w,z ∈ out→w ∈ idx.drop i→z < w)→out.length≤i→(nn=true∨out=[])→EndZ 72 ctRt false (stOf (sA l (ofNs idx) (ofNs out) nn i)) (il (ofNs ((idx.drop i).foldl (outS l) out))) [] 0
 | 0,i,out,nn,h,ha,hz,ho,hn=>by
  rw [List.drop_eq_nil_of_le (by omega)];exact .done (lastA (by omega))
 | k+1,i,out,nn,h,ha,hz,ho,hn=>by
  have hi:i < idx.length:=by omega
  have h1:=stepA (l:=l) (idx:=idx) (out:=out) (nn:=nn) hi hx2 (by omega) (AscI.mem hx hi);have ed:idx.drop i=idx.getD i 0 :: idx.drop (i+1):=by rw [List.drop_eq_getElem_cons hi,getD_at hi]
  rw [ed] at hz ⊢;obtain ⟨b1,b2,b3⟩:=outS_asc (l:=l) (i:=idx.getD i 0) ha (fun z hz2=>hz z _ hz2 List.mem_cons_self) (AscI.mem hx hi);have hp:(idx.drop i).Pairwise (· < ·):=hx.1.sublist (List.drop_sublist i idx);rw [ed] at hp;obtain ⟨p1,_⟩:=List.pairwise_cons.1 hp;have h2:=loop hx hx2 hs k (i+1) (outS l out (idx.getD i 0)) true (by omega) b1 (fun z w q1 q2=>by
   have:=b2 z q1;have:=p1 w q2;omega) (by omega) (.inl rfl)
  exact .at ctRt_ok h1 (inner hi hx2 (by omega) ha hs hn h2 out.length (Nat.le_refl _) (by rw [List.drop_length];intro w hw;cases hw))
theorem ends {l:List Int} {idx:List Nat} (hx:AscI l.length idx) (hx2:idx.length≤3000) (hs:Sm6 l):EndZ 72 ctRt false (st0 72 [il l,il (ofNs idx)]) (il (ofNs (tigL l idx))) [] 0:=by
 have h2:=loop hx hx2 hs idx.length 0 [] false (by omega) ⟨.nil,fun z hz=>by cases hz⟩ (fun z w hz=>by cases hz) (Nat.le_refl _) (.inr rfl);exact .at ctRt_ok (in_t l (ofNs idx)) h2
end RTgn
namespace RWou
noncomputable def RUN (s:ES):ZF:=RZ 121 ctRt (atS 0 121 3) [] [[(0,none),(1,none),(5,some (1,3,.ints .i64 [])),(6,none)]] false s

noncomputable def sL (l d g:List Int) (nn:Bool) (i:Int):NS:=⟨[⟨121,28,[(0,(EV.lst (SyC.ints IntKind.i64 (l)))),(1,(EV.lst (SyC.ints IntKind.i64 (d)))),(5,EV.slO 0 1 g.length nn),(6,iv i)],[.it (.code (nav [1,1,0,1,0,0,0] (bodyOf Try.f121))),.it (.code (nav [1,1,0,1,0,0,1] (bodyOf Try.f121))),.it (.inLoop (nav [1,1,0,1,0,0] (bodyOf Try.f121))),.it (.inBlock 0),.it (.code (nav [1,1,1] (bodyOf Try.f121)))],[],Option.none⟩],[(0,EK.seq 3 (.ints .i64 g) nn)],1⟩
theorem in_t (l d:List Int):RUN (st0 121 [il l,il d])=(.at (sL (l) (d) ([]) (false) ((0:Int)))):=by kernel_rfl
theorem l_t (l d g:List Int) (nn:Bool) (i:Int):RUN (stOf (sL l d g nn i))=(bc (decide (i < Int.ofNat (List.length l))) (bc (bc (bc (decide ((0:Int)≤i)) (Nat.blt (Int.toNat i) (List.length l)) false) true false) (bc (bc (Nat.blt (Int.toNat i) (List.length l)) true false) (bc (bc (decide (List.length d≤(5000:Nat))) true false) (bc (!decide (List.getD l (Int.toNat i) (0:Int) ∈ d)) (bc (bc (bc (decide ((0:Int)≤i)) (Nat.blt (Int.toNat i) (List.length l)) false) true false) (bc (bc (Nat.blt (Int.toNat i) (List.length l)) true false) (bc (bc (Nat.beq (List.length g) (List.length g)) (bc (Nat.ble (List.length g+List.length (List.map (fun r=>U.int (List.headD r (U.i (0:Int)))) [[U.i (List.getD l (Int.toNat i) (0:Int))]])) (65536:Nat)) (bc nn true (bc nn false true)) false) false) (.at (sL (l) (d) (g ++ List.map (fun r=>U.int (List.headD r (U.i (0:Int)))) [[U.i (List.getD l (Int.toNat i) (0:Int))]]) (bc nn true (Nat.blt (0:Nat) (List.length (List.map (fun r=>U.int (List.headD r (U.i (0:Int)))) [[U.i (List.getD l (Int.toNat i) (0:Int))]])))) (IntKind.wrap IntKind.i64 (i+(1:Int))))) .bad) .bad) .bad) (.at (sL (l) (d) (g) (nn) (IntKind.wrap IntKind.i64 (i+(1:Int)))))) .bad) .bad) .bad) (bc (Nat.beq (List.length g) (List.length g)) (.done (EV.lst (SyC.ints IntKind.i64 (g))) [] 0) .bad)):=by kernel_rfl
def wouI (l d:List Int):List Int:=l.filter fun x=>!decide (x ∈ d)
theorem wouI_succ (l d:List Int) {i:Nat} (hi:i < l.length):wouI (l.take (i+1)) d=wouI (l.take i) d ++ (if !decide (l.getD i 0 ∈ d) then [l.getD i 0] else []):=by
 unfold wouI;rw [List.take_succ_eq_append_getElem hi,filter_snoc,getD_at hi]
theorem wouI_len (l d:List Int) (i:Nat):(wouI (l.take i) d).length≤i:=by
 have h1:=List.length_filter_le (fun x=>!decide (x ∈ d)) (l.take i);rw [List.length_take] at h1;show (List.filter _ _).length≤i;omega
theorem loop {l d:List Int} (hl:l.length≤3000) (hd:d.length≤5000):∀ (k i:Nat) (nn:Bool),i+k=l.length→EndZ 121 ctRt false (stOf (sL l d (wouI (l.take i) d) nn i)) (il (wouI l d)) [] 0
 | 0,i,nn,h=>by
  obtain rfl:i=l.length:=by omega
  have h1:=l_t l d (wouI (l.take l.length) d) nn l.length;rw [df (show ¬ (l.length:Int) < Int.ofNat l.length by rw [ofn];omega),bc_f] at h1;rw [List.take_length] at h1 ⊢;simp (disch:=omega) only [Nat.add_eq,eqSy_self,eqN_self,bc_same,List.length_cons,ofn,wrap_in,dt,df,bltD,bltN,ble_of,bleN,beqD,bc_t,bc_f,nn_ok,Nat.zero_add,to_nat,Int.zero_add,Int.sub_zero,Int.sub_self,Int.cast_ofNat_Int,Int.natCast_zero,Int.toNat_zero,List.take_zero,List.nil_append,List.length_append,List.length_nil] at h1;exact .done h1
 | k+1,i,nn,h=>by
  have hi:i < l.length:=by omega
  have h1:=l_t l d (wouI (l.take i) d) nn i;have m1:∀ v:Int,List.map (fun r=>U.int (List.headD r (U.i 0))) [[U.i v]]=[v]:=fun v=>rfl;have e0:Int.toNat (i:Int)=i:=rfl;have lg:=wouI_len l d i;have w:∀ v:Int,bc nn true (Nat.blt 0 (List.length [v]))=true:=fun v=>by cases nn <;> rfl
  have w2:bc nn true (bc nn false true)=true:=by cases nn <;> rfl
  have e:=wouI_succ l d hi;rw [e0,m1,w,w2,dt hd] at h1
  cases hc:(!decide (l.getD i 0 ∈ d)) with
  | true=>
   rw [hc,if_pos rfl] at e;rw [hc,← e] at h1;simp (disch:=omega) only [Nat.add_eq,eqSy_self,eqN_self,bc_same,List.length_cons,ofn,wrap_in,dt,df,bltD,bltN,ble_of,bleN,beqD,bc_t,bc_f,nn_ok,Nat.zero_add,to_nat,Int.zero_add,Int.sub_zero,Int.sub_self,Int.cast_ofNat_Int,Int.natCast_zero,Int.toNat_zero,List.take_zero,List.nil_append,List.length_append,List.length_nil] at h1;exact .at ctRt_ok h1 (loop hl hd k (i+1) true (by omega))
  | false=>
   rw [hc,if_neg (by simp),List.append_nil] at e;rw [hc,← e] at h1;simp (disch:=omega) only [Nat.add_eq,eqSy_self,eqN_self,bc_same,List.length_cons,ofn,wrap_in,dt,df,bltD,bltN,ble_of,bleN,beqD,bc_t,bc_f,nn_ok,Nat.zero_add,to_nat,Int.zero_add,Int.sub_zero,Int.sub_self,Int.cast_ofNat_Int,Int.natCast_zero,Int.toNat_zero,List.take_zero,List.nil_append,List.length_append,List.length_nil] at h1;rw [← e];exact .at ctRt_ok h1 (loop hl hd k (i+1) nn (by omega))
theorem ends {l d:List Int} (hl:l.length≤3000) (hd:d.length≤5000):EndZ 121 ctRt false (st0 121 [il l,il d]) (il (wouI l d)) [] 0:=
 .at ctRt_ok (in_t l d) (loop hl hd l.length 0 false (by omega))
end RWou
end Go.Proofs.Ytooimphimnagaaa.Ev
namespace Go.Proofs.Ytooimphimnagaaa.Ev
variable {l:List Int}
theorem asc_ext:∀ {A B:List Nat},A.Pairwise (· < ·)→B.Pairwise (· < ·)→(∀ z,z ∈ A↔z ∈ B)→A=B
 | [],[],_,_,_=>rfl
 | [],b :: B,_,_,h=>absurd ((h b).2 List.mem_cons_self) (by simp)
 | a :: A,[],_,_,h=>absurd ((h a).1 List.mem_cons_self) (by simp)
 | a :: A,b :: B,ha,hb,h=>by
  obtain ⟨a1,a2⟩:=List.pairwise_cons.1 ha;obtain ⟨b1,b2⟩:=List.pairwise_cons.1 hb;have e:a=b:=by
   rcases List.mem_cons.1 ((h a).1 List.mem_cons_self) with q | q
   ·exact q
   ·have:=b1 a q;rcases List.mem_cons.1 ((h b).2 List.mem_cons_self) with r | r
    ·exact r.symm
    ·have:=a1 b r;omega
  subst e;rw [asc_ext a2 b2 fun z=>?_];have hz:=h z;rw [List.mem_cons,List.mem_cons] at hz;constructor
  ·intro q;rcases hz.1 (.inr q) with r | r
   ·have:=a1 z q;omega
   ·exact r
  ·intro q;rcases hz.2 (.inr q) with r | r
   ·have:=b1 z q;omega
   ·exact r
theorem idx_mrk {n:Nat} {T:List Nat} (h:AscI n T):idxB (mrk n T)=T:=by
 unfold idxB;rw [mrk_len];refine asc_ext ((range_asc n).sub _).1 h.1 fun z=>?_;rw [List.mem_filter,List.mem_range];constructor
 ·rintro ⟨h1,h2⟩
  rw [mrk_get h1] at h2;exact of_decide_eq_true h2
 ·intro q;have h1:=h.2 z q;refine ⟨h1,?_⟩;rw [mrk_get h1];exact decide_eq_true q

noncomputable def tigT (l:List Int):List Nat:=tigL l (List.range l.length)
theorem tigT_asc (l:List Int):AscI l.length (tigT l):=(tig_asc (range_asc l.length)).1
theorem tgA_idx (l:List Int):idxB (tgA l)=tigT l:=idx_mrk (tigT_asc l)

noncomputable def resT (l:List Int) (o:Nat→Bool):List Nat:=(tigT l).filter fun j=>!(isPn (l.getD j 0) && o j)
noncomputable def goT (l:List Int) (o:Nat→Bool):List Nat:=(resT l o).filter fun j=>!decide (j ∈ tigL l (resT l o))
theorem resT_asc (l:List Int) (o:Nat→Bool):AscI l.length (resT l o):=(tigT_asc l).sub _
theorem rst_idx (l:List Int) (o:Nat→Bool):idxB (rstF l (tgA l) o)=resT l o:=by
 unfold idxB;rw [rstF_len,tgA_len];refine asc_ext ((range_asc _).sub _).1 (resT_asc l o).1 fun z=>?_;unfold resT;rw [List.mem_filter,List.mem_range,List.mem_filter];have key:z < l.length→(rstF l (tgA l) o).getD z false=(decide (z ∈ tigT l) && !(isPn (l.getD z 0) && o z)):=fun h1=>by
  unfold rstF;rw [tgA_len,List.getD_eq_getElem?_getD,List.getElem?_map,List.getElem?_range h1];show ((tgA l).getD z false && _)=_;unfold tgA;rw [mrk_get h1];rfl
 constructor
 ·rintro ⟨h1,h2⟩
  rw [key h1,Bool.and_eq_true] at h2;exact ⟨of_decide_eq_true h2.1,h2.2⟩
 ·rintro ⟨h1,h2⟩
  have h3:=(tigT_asc l).2 z h1;refine ⟨h3,?_⟩;rw [key h3,Bool.and_eq_true];exact ⟨decide_eq_true h1,h2⟩
theorem gF_goT (l:List Int) (o:Nat→Bool):gF l (tgA l) o=ofNs (goT l o):=by
 unfold gF gonF goT;rw [rst_idx];congr 1;refine List.filter_congr fun j hj=>?_;have h3:=(resT_asc l o).2 j hj;unfold tgB;rw [rst_idx,mrk_get h3]

theorem mem_ofNs {L:List Nat} {y:Nat}:(y:Int) ∈ ofNs L↔y ∈ L:=by
 unfold ofNs;rw [List.mem_map];constructor
 ·rintro ⟨z,hz,e⟩
  have:z=y:=by omega
  rwa [← this]
 ·intro h;exact ⟨y,h,rfl⟩
theorem wou_ofNs (L:List Nat) (d:List Int):RWou.wouI (ofNs L) d=ofNs (L.filter fun (y:Nat)=>!decide ((y:Int) ∈ d)):=by
 unfold RWou.wouI ofNs;rw [List.filter_map];rfl
def toN (d:List Int):List Nat:=d.map Int.toNat
theorem toN_ofNs (L:List Nat):toN (ofNs L)=L:=by
 unfold toN ofNs;rw [List.map_map];exact (List.map_congr_left fun x _=>rfl).trans (List.map_id L)
def TgnOk (l d:List Int):Prop:=(∃ idx,d=ofNs idx∧AscI l.length idx)∧RTgn.Sm6 l∧l.length≤3000
noncomputable instance TgnOk.dec (l d:List Int):Decidable (TgnOk l d):=Classical.propDecidable _
theorem let_sm {l:List Int} (h:∀ x,x ∈ l→LetOk x):RTgn.Sm6 l:=fun j=>by
 by_cases hj:j < l.length
 ·have:=h (l.getD j 0) (by rw [getD_at hj];exact List.getElem_mem hj);unfold LetOk at this;omega
 ·rw [List.getD_eq_getElem?_getD,List.getElem?_eq_none (by omega)];decide
theorem res_all (l:List Int):(tigT l).filter (fun (y:Nat)=>!decide ((y:Int) ∈ ofNs (RPns.pinI l l.length)))=resT l fun _=>true:=by
 unfold resT;refine List.filter_congr fun y hy=>?_;have h1:=(tigT_asc l).2 y hy;congr 1;rw [Bool.and_true,Bool.eq_iff_iff,decide_eq_true_iff,mem_ofNs];unfold RPns.pinI;rw [List.mem_filter,List.mem_range];exact ⟨fun h=>h.2,fun h=>⟨h1,h⟩⟩
theorem wokA_pin {p:List Int} (h:wokA l p=true) {y:Nat} (hy:(y:Int) ∈ p):isPn (l.getD y 0)=true:=by
 obtain ⟨i,hi,e⟩:=List.getElem_of_mem hy;unfold wokA at h;rw [List.all_eq_true] at h;have h2:=PWith.wok_in (h i (List.mem_range.2 hi));rw [getD_at hi,e] at h2;exact h2.2.2
theorem res_some {p:List Int} (h:wokA l p=true):(tigT l).filter (fun (y:Nat)=>!decide ((y:Int) ∈ p))=resT l (PinO p):=by
 unfold resT PinO;refine List.filter_congr fun y hy=>?_;congr 1
 by_cases c:(y:Int) ∈ p
 ·rw [wokA_pin h c];simp
 ·simp [c]

noncomputable def refF (l p:List Int):List Nat:=((tigT l).filter fun (y:Nat)=>!decide ((y:Int) ∈ p)).filter fun (y:Nat)=>!decide ((y:Int) ∈ ofNs (tigL l ((tigT l).filter fun (y:Nat)=>!decide ((y:Int) ∈ p))))
theorem refF_go {l p:List Int} {o:Nat→Bool} (h:((tigT l).filter fun (y:Nat)=>!decide ((y:Int) ∈ p))=resT l o):refF l p=goT l o:=by
 unfold refF goT;rw [h];refine List.filter_congr fun y _=>?_;congr 1;exact decide_eq_decide.2 mem_ofNs
def FrcOk (l p:List Int):Prop:=l.length≤3000∧p.length≤5000∧RTgn.Sm6 l
noncomputable instance FrcOk.dec (l p:List Int):Decidable (FrcOk l p):=Classical.propDecidable _
theorem frc_ok {l p:List Int} (h:FrcOk l p):TgnOk l (ofNs (List.range l.length))∧(ofNs (tigT l)).length≤3000∧TgnOk l (ofNs ((tigT l).filter fun (y:Nat)=>!decide ((y:Int) ∈ p)))∧(ofNs ((tigT l).filter fun (y:Nat)=>!decide ((y:Int) ∈ p))).length≤3000∧(ofNs (tigL l ((tigT l).filter fun (y:Nat)=>!decide ((y:Int) ∈ p)))).length≤3000:=by
 obtain ⟨h1,h2,h3⟩:=h;have a1:=tigT_asc l;have a2:=a1.sub fun (y:Nat)=>!decide ((y:Int) ∈ p);have a3:=(tig_asc (l:=l) a2).1;have b1:=asc_len a1;have b2:=asc_len a2;have b3:=asc_len a3;refine ⟨⟨⟨_,rfl,range_asc _⟩,h3,h1⟩,by rw [ofNs_len];omega,⟨⟨_,rfl,a2⟩,h3,h1⟩,by rw [ofNs_len];omega,by rw [ofNs_len];omega⟩
theorem chkL_frc {t:Int} {l:List Int} (h:chkL t l=0):FrcOk l (ofNs (RPns.pinI l l.length))∧∀ p:List Int,p.length≤5000→FrcOk l p:=by
 obtain ⟨_,h1,h2⟩:=chkL_ok h;have:=RPns.pinI_len l l.length;exact ⟨⟨by omega,by rw [ofNs_len];omega,let_sm h2⟩,fun p hp=>⟨by omega,hp,let_sm h2⟩⟩
end Go.Proofs.Ytooimphimnagaaa.Ev
namespace Go.Proofs.Ytooimphimnagaaa.Ev
open Go.Proofs
theorem rtgn_ok {l d:List Int} (h:TgnOk l d):EndZ 72 ctRt false (st0 72 [il l,il d]) (il (ofNs (tigL l (toN d)))) [] 0:=by
 obtain ⟨⟨idx,rfl,h1⟩,h2,h3⟩:=h;rw [toN_ofNs];have:=asc_len h1;exact RTgn.ends h1 (by omega) h2
noncomputable def spTgn:ZCT:=fun ax=>match ax with
 | [.lst (.ints .i64 l),.lst (.ints .i64 d)]=>some ⟨decide (TgnOk l d),il (ofNs (tigL l (toN d))),[],0⟩
 | _=>none
theorem spTgn_ok:ZCtOk Try.prog 72 spTgn:=fun γ w us ax r hs hc hax hN hfz=>by
 unfold spTgn at hs;split at hs
 case h_2=>cases hs
 rename_i l d;obtain ⟨rfl⟩:=Option.some.inj hs;have hc_0:decide (TgnOk l d)=true:=hc;have hc:=of_decide_eq_true hc_0;exact EndZ.calls (rtgn_ok hc) ctRt_ok (by kernel_rfl) hax hN hfz
noncomputable def spWou:ZCT:=fun ax=>match ax with
 | [.lst (.ints .i64 l),.lst (.ints .i64 d)]=>some ⟨decide (l.length≤3000∧d.length≤5000),il (RWou.wouI l d),[],0⟩
 | _=>none
theorem spWou_ok:ZCtOk Try.prog 121 spWou:=fun γ w us ax r hs hc hax hN hfz=>by
 unfold spWou at hs;split at hs
 case h_2=>cases hs
 rename_i l d;obtain ⟨rfl⟩:=Option.some.inj hs;have hc_0:decide (l.length≤3000∧d.length≤5000)=true:=hc;have hc:=of_decide_eq_true hc_0;exact EndZ.calls (RWou.ends hc.1 hc.2) ctRt_ok (by kernel_rfl) hax hN hfz
noncomputable def ctRe:Tr ZCC:=((ctRt.put 72 (some (dC spTgn))).put 121 (some (dC spWou)))
theorem ctRe_ok:ZCtsOk Try.prog ctRe:=(ctRt_ok.add rfl spTgn_ok).add rfl spWou_ok
namespace RFre
noncomputable def RUN (s:ES):ZF:=RZ 77 ctRe (fun _=>false) [] [] false s
theorem in_t (t:Int) (l p:List Int):RUN (st0 77 [hE t l,il p])=(bc (bc (bc (decide (List.length l≤(3000:Nat))) (bc (decide (TgnOk l (ofNs (List.range (List.length l))))) (bc (decide (List.length (ofNs (tigL l (toN (ofNs (List.range (List.length l))))))≤(3000:Nat)∧List.length p≤(5000:Nat))) true false) false) false) (bc (bc (bc (eqSy (SyC.ints IntKind.i64 l) (SyC.ints IntKind.i64 l)) true false) true false) true false) false) (bc (decide (TgnOk l (RWou.wouI (ofNs (tigL l (toN (ofNs (List.range (List.length l)))))) p))) (bc (decide (List.length (RWou.wouI (ofNs (tigL l (toN (ofNs (List.range (List.length l)))))) p)≤(3000:Nat)∧List.length (ofNs (tigL l (toN (RWou.wouI (ofNs (tigL l (toN (ofNs (List.range (List.length l)))))) p))))≤(5000:Nat))) (.done (EV.lst (SyC.ints IntKind.i64 (RWou.wouI (RWou.wouI (ofNs (tigL l (toN (ofNs (List.range (List.length l)))))) p) (ofNs (tigL l (toN (RWou.wouI (ofNs (tigL l (toN (ofNs (List.range (List.length l)))))) p))))))) [] 0) .bad) .bad) .bad):=by kernel_rfl
theorem ends {t:Int} {l p:List Int} (h:FrcOk l p):EndZ 77 ctRe false (st0 77 [hE t l,il p]) (il (ofNs (refF l p))) [] 0:=by
 have h1:=in_t t l p;obtain ⟨q1,q2,q3,q4,q5⟩:=frc_ok h;have e:RWou.wouI (RWou.wouI (ofNs (tigT l)) p) (ofNs (tigL l ((tigT l).filter fun (y:Nat)=>!decide ((y:Int) ∈ p))))=ofNs (refF l p):=by
  rw [wou_ofNs,wou_ofNs];rfl
 rw [toN_ofNs,show tigL l (List.range l.length)=tigT l from rfl,dt h.1,dt q1,dt (show (ofNs (tigT l)).length≤3000∧p.length≤5000 from ⟨q2,h.2.1⟩)] at h1
 rw [wou_ofNs,toN_ofNs,dt q3,dt (show (ofNs ((tigT l).filter fun (y:Nat)=>!decide ((y:Int) ∈ p))).length≤3000∧(ofNs (tigL l ((tigT l).filter fun (y:Nat)=>!decide ((y:Int) ∈ p)))).length≤5000 from ⟨q4,by omega⟩),← wou_ofNs (tigT l) p,e] at h1
 simp (disch:=omega) only [Nat.add_eq,eqSy_self,eqN_self,bc_same,List.length_cons,ofn,wrap_in,dt,df,bltD,bltN,ble_of,bleN,beqD,bc_t,bc_f,nn_ok,Nat.zero_add,to_nat,Int.zero_add,Int.sub_zero,Int.sub_self,Int.cast_ofNat_Int,Int.natCast_zero,Int.toNat_zero,List.take_zero,List.nil_append,List.length_append,List.length_nil] at h1;exact .done h1
end RFre
noncomputable def spRFre:ZCT:=fun ax=>match ax with
 | [.agg [.v (.int .i64 t),.lst (.ints .i64 l)],.lst (.ints .i64 p)]=>some ⟨decide (FrcOk l p),il (ofNs (refF l p)),[],0⟩
 | _=>none
theorem spRFre_ok:ZCtOk Try.prog 77 spRFre:=fun γ w us ax r hs hc hax hN hfz=>by
 unfold spRFre at hs;split at hs
 case h_2=>cases hs
 rename_i t l p;obtain ⟨rfl⟩:=Option.some.inj hs;have hc_0:decide (FrcOk l p)=true:=hc;have hc:=of_decide_eq_true hc_0;exact EndZ.calls (RFre.ends hc) ctRe_ok (by kernel_rfl) hax hN hfz
noncomputable def ctRf:Tr ZCC:=ctRe.put 77 (some (dC spRFre))
theorem ctRf_ok:ZCtsOk Try.prog ctRf:=ctRe_ok.add rfl spRFre_ok
namespace RTight
noncomputable def RUN (s:ES):ZF:=RZ 18 ctRe (fun _=>false) [] [] false s
theorem in_t (t:Int) (l:List Int):RUN (st0 18 [hE t l])=(bc (chkL t l != (0:Int)) (.done (EV.tup [(EV.v (Value.slice Option.none 0 0)),(EV.v (Value.int IntKind.i64 (chkL t l)))]) [] 0) (bc (bc (bc (decide (List.length l≤(3000:Nat))) (bc (decide (TgnOk l (ofNs (List.range (List.length l))))) true false) false) (bc (bc (bc (eqSy (SyC.ints IntKind.i64 l) (SyC.ints IntKind.i64 l)) true false) true false) true false) false) (.done (EV.tup [(EV.lst (SyC.ints IntKind.i64 (ofNs (tigL l (toN (ofNs (List.range (List.length l)))))))),(EV.v (Value.int IntKind.i64 (0)))]) [] 0) .bad)):=by kernel_rfl
theorem ends {t:Int} {l:List Int}:EndZ 18 ctRe false (st0 18 [hE t l]) (rsL (chkL t l) (ofNs (tigT l))) [] 0:=by
 have h:=in_t t l
 by_cases z:chkL t l=0
 ·obtain ⟨h1,_⟩:=chkL_frc z;obtain ⟨q1,_⟩:=frc_ok h1;unfold rsL;rw [z,show ((0:Int) != 0)=false from rfl,bc_f,toN_ofNs,dt q1,dt h1.1,show tigL l (List.range l.length)=tigT l from rfl] at h
  rw [z,show ((0:Int) != 0)=false from rfl,bc_f]
  simp (disch:=omega) only [Nat.add_eq,eqSy_self,eqN_self,bc_same,List.length_cons,ofn,wrap_in,dt,df,bltD,bltN,ble_of,bleN,beqD,bc_t,bc_f,nn_ok,Nat.zero_add,to_nat,Int.zero_add,Int.sub_zero,Int.sub_self,Int.cast_ofNat_Int,Int.natCast_zero,Int.toNat_zero,List.take_zero,List.nil_append,List.length_append,List.length_nil] at h;exact .done h
 ·rw [show (chkL t l != 0)=true by simp [z],bc_t] at h;exact (EndZ.done h).weak (rsL_err _ z)
end RTight
noncomputable def spRTi:ZCT:=fun ax=>match ax with
 | [.agg [.v (.int .i64 t),.lst (.ints .i64 l)]]=>some ⟨decide (True),rsL (chkL t l) (ofNs (tigT l)),[],0⟩
 | _=>none
theorem spRTi_ok:ZCtOk Try.prog 18 spRTi:=fun γ w us ax r hs hc hax hN hfz=>by
 unfold spRTi at hs;split at hs
 case h_2=>cases hs
 rename_i t l;obtain ⟨rfl⟩:=Option.some.inj hs;have hc_0:decide (True)=true:=hc;have hc:=of_decide_eq_true hc_0;exact EndZ.calls (RTight.ends) ctRe_ok (by kernel_rfl) hax hN hfz
namespace RFrd
noncomputable def RUN (s:ES):ZF:=RZ 23 ctRf (fun _=>false) [] [] false s
theorem in_t (t:Int) (l:List Int):RUN (st0 23 [hE t l])=(bc (chkL t l != (0:Int)) (.done (EV.tup [(EV.v (Value.slice Option.none 0 0)),(EV.v (Value.int IntKind.i64 (chkL t l)))]) [] 0) (bc (bc (bc (decide (List.length l≤(3000:Nat))) (bc (decide (FrcOk l (ofNs (RPns.pinI l (List.length l))))) true false) false) (bc (bc (bc (bc (decide (t=t)) (bc (eqSy (SyC.ints IntKind.i64 l) (SyC.ints IntKind.i64 l)) true false) false) true false) true false) true false) false) (.done (EV.tup [(EV.lst (SyC.ints IntKind.i64 (ofNs (refF l (ofNs (RPns.pinI l (List.length l))))))),(EV.v (Value.int IntKind.i64 (0)))]) [] 0) .bad)):=by kernel_rfl
theorem ends {t:Int} {l:List Int}:EndZ 23 ctRf false (st0 23 [hE t l]) (rsL (chkL t l) (ofNs (goT l fun _=>true))) [] 0:=by
 have h:=in_t t l
 by_cases z:chkL t l=0
 ·obtain ⟨h1,_⟩:=chkL_frc z;unfold rsL;rw [z,show ((0:Int) != 0)=false from rfl,bc_f,dt h1,dt h1.1,dt (rfl:t=t),refF_go (res_all l)] at h
  rw [z,show ((0:Int) != 0)=false from rfl,bc_f]
  simp (disch:=omega) only [Nat.add_eq,eqSy_self,eqN_self,bc_same,List.length_cons,ofn,wrap_in,dt,df,bltD,bltN,ble_of,bleN,beqD,bc_t,bc_f,nn_ok,Nat.zero_add,to_nat,Int.zero_add,Int.sub_zero,Int.sub_self,Int.cast_ofNat_Int,Int.natCast_zero,Int.toNat_zero,List.take_zero,List.nil_append,List.length_append,List.length_nil] at h;exact .done h
 ·rw [show (chkL t l != 0)=true by simp [z],bc_t] at h;exact (EndZ.done h).weak (rsL_err _ z)
end RFrd
noncomputable def spRFd:ZCT:=fun ax=>match ax with
 | [.agg [.v (.int .i64 t),.lst (.ints .i64 l)]]=>some ⟨decide (True),rsL (chkL t l) (ofNs (goT l fun _=>true)),[],0⟩
 | _=>none
theorem spRFd_ok:ZCtOk Try.prog 23 spRFd:=fun γ w us ax r hs hc hax hN hfz=>by
 unfold spRFd at hs;split at hs
 case h_2=>cases hs
 rename_i t l;obtain ⟨rfl⟩:=Option.some.inj hs;have hc_0:decide (True)=true:=hc;have hc:=of_decide_eq_true hc_0;exact EndZ.calls (RFrd.ends) ctRf_ok (by kernel_rfl) hax hN hfz
namespace RWit
noncomputable def RUN (s:ES):ZF:=RZ 21 ctRf (atS 0 21 5) [] [[(1,none),(2,none),(7,none)]] false s

noncomputable def sL (t:Int) (l p:List Int) (i:Int):NS:=⟨[⟨21,65,[(1,(EV.lst (SyC.ints IntKind.i64 (p)))),(2,(EV.ptr 0 0)),(7,iv i)],[.it (.code (nav [1,1,1,0,1,0,0,0] (bodyOf Try.f21))),.it (.code (nav [1,1,1,0,1,0,0,1] (bodyOf Try.f21))),.it (.inLoop (nav [1,1,1,0,1,0,0] (bodyOf Try.f21))),.it (.inBlock 0),.it (.code (nav [1,1,1,1] (bodyOf Try.f21)))],[],Option.none⟩],[(0,(EK.cells 24 [(EV.v (Value.int IntKind.i64 (t))),(EV.lst (SyC.ints IntKind.i64 (l)))] true))],1⟩
theorem in_t (t:Int) (l p:List Int):RUN (st0 21 [hE t l,il p])=(bc (chkL t l != (0:Int)) (.done (EV.tup [(EV.v (Value.slice Option.none 0 0)),(EV.v (Value.int IntKind.i64 (chkL t l)))]) [] 0) (.at (sL (t) (l) (p) ((0:Int))))):=by kernel_rfl
theorem l_t (t:Int) (l p:List Int) (i:Int):RUN (stOf (sL t l p i))=(bc (decide (i < Int.ofNat (List.length p))) (bc (decide (List.getD p (Int.toNat i) (0:Int) < (0:Int))) (bc (bc (bc (bc (bc (decide ((0:Int)≤i)) (Nat.blt (Int.toNat i) (List.length p)) false) true false) (bc (bc (Nat.blt (Int.toNat i) (List.length p)) true false) (bc (eqB (decide (List.getD p (Int.toNat i) (0:Int) < (0:Int))) true) true false) false) false) true false) (.done (EV.tup [(EV.v (Value.slice Option.none 0 0)),(EV.v (Value.int IntKind.i64 (2)))]) [] 0) .bad) (bc (decide (Int.ofNat (List.length l)≤List.getD p (Int.toNat i) (0:Int))) (bc (bc (bc (bc (bc (decide ((0:Int)≤i)) (Nat.blt (Int.toNat i) (List.length p)) false) true false) (bc (bc (Nat.blt (Int.toNat i) (List.length p)) true false) (bc (eqB (decide (List.getD p (Int.toNat i) (0:Int) < (0:Int))) false) (bc (bc (bc (decide ((0:Int)≤i)) (Nat.blt (Int.toNat i) (List.length p)) false) true false) (bc (bc (Nat.blt (Int.toNat i) (List.length p)) true false) (bc (eqB (decide (Int.ofNat (List.length l)≤List.getD p (Int.toNat i) (0:Int))) true) true false) false) false) false) false) false) true false) (.done (EV.tup [(EV.v (Value.slice Option.none 0 0)),(EV.v (Value.int IntKind.i64 (2)))]) [] 0) .bad) (bc (!isPn (List.getD l (Int.toNat (List.getD p (Int.toNat i) (0:Int))) (0:Int))) (bc (bc (bc (bc (bc (decide ((0:Int)≤i)) (Nat.blt (Int.toNat i) (List.length p)) false) true false) (bc (bc (Nat.blt (Int.toNat i) (List.length p)) true false) (bc (eqB (decide (List.getD p (Int.toNat i) (0:Int) < (0:Int))) false) (bc (bc (bc (decide ((0:Int)≤i)) (Nat.blt (Int.toNat i) (List.length p)) false) true false) (bc (bc (Nat.blt (Int.toNat i) (List.length p)) true false) (bc (eqB (decide (Int.ofNat (List.length l)≤List.getD p (Int.toNat i) (0:Int))) false) (bc (bc (bc (decide ((0:Int)≤i)) (Nat.blt (Int.toNat i) (List.length p)) false) true false) (bc (bc (Nat.blt (Int.toNat i) (List.length p)) true false) (bc (bc (bc (decide ((0:Int)≤List.getD p (Int.toNat i) (0:Int))) (Nat.blt (Int.toNat (List.getD p (Int.toNat i) (0:Int))) (List.length l)) false) true false) (bc (bc (Nat.blt (Int.toNat (List.getD p (Int.toNat i) (0:Int))) (List.length l)) true false) (bc (eqB (!isPn (List.getD l (Int.toNat (List.getD p (Int.toNat i) (0:Int))) (0:Int))) true) true false) false) false) false) false) false) false) false) false) false) false) true false) (.done (EV.tup [(EV.v (Value.slice Option.none 0 0)),(EV.v (Value.int IntKind.i64 (2)))]) [] 0) .bad) (bc (decide ((0:Int) < i)) (bc (bc (bc (bc (bc (decide ((0:Int)≤i)) (Nat.blt (Int.toNat i) (List.length p)) false) true false) (bc (bc (Nat.blt (Int.toNat i) (List.length p)) true false) (bc (eqB (decide (List.getD p (Int.toNat i) (0:Int) < (0:Int))) false) (bc (bc (bc (decide ((0:Int)≤i)) (Nat.blt (Int.toNat i) (List.length p)) false) true false) (bc (bc (Nat.blt (Int.toNat i) (List.length p)) true false) (bc (eqB (decide (Int.ofNat (List.length l)≤List.getD p (Int.toNat i) (0:Int))) false) (bc (bc (bc (decide ((0:Int)≤i)) (Nat.blt (Int.toNat i) (List.length p)) false) true false) (bc (bc (Nat.blt (Int.toNat i) (List.length p)) true false) (bc (bc (bc (decide ((0:Int)≤List.getD p (Int.toNat i) (0:Int))) (Nat.blt (Int.toNat (List.getD p (Int.toNat i) (0:Int))) (List.length l)) false) true false) (bc (bc (Nat.blt (Int.toNat (List.getD p (Int.toNat i) (0:Int))) (List.length l)) true false) (bc (eqB (!isPn (List.getD l (Int.toNat (List.getD p (Int.toNat i) (0:Int))) (0:Int))) false) (bc (eqB (decide ((0:Int) < i)) true) (bc (bc (bc (decide ((0:Int)≤IntKind.wrap IntKind.i64 (i - (1:Int)))) (Nat.blt (Int.toNat (IntKind.wrap IntKind.i64 (i - (1:Int)))) (List.length p)) false) true false) (bc (bc (Nat.blt (Int.toNat (IntKind.wrap IntKind.i64 (i - (1:Int)))) (List.length p)) true false) (bc (bc (bc (decide ((0:Int)≤i)) (Nat.blt (Int.toNat i) (List.length p)) false) true false) (bc (bc (Nat.blt (Int.toNat i) (List.length p)) true false) true false) false) false) false) false) false) false) false) false) false) false) false) false) false) false) false) true false) (bc (decide (List.getD p (Int.toNat i) (0:Int)≤List.getD p (Int.toNat (IntKind.wrap IntKind.i64 (i - (1:Int)))) (0:Int))) (.done (EV.tup [(EV.v (Value.slice Option.none 0 0)),(EV.v (Value.int IntKind.i64 (2)))]) [] 0) (.at (sL (t) (l) (p) (IntKind.wrap IntKind.i64 (i+(1:Int)))))) .bad) (bc (bc (bc (bc (bc (decide ((0:Int)≤i)) (Nat.blt (Int.toNat i) (List.length p)) false) true false) (bc (bc (Nat.blt (Int.toNat i) (List.length p)) true false) (bc (eqB (decide (List.getD p (Int.toNat i) (0:Int) < (0:Int))) false) (bc (bc (bc (decide ((0:Int)≤i)) (Nat.blt (Int.toNat i) (List.length p)) false) true false) (bc (bc (Nat.blt (Int.toNat i) (List.length p)) true false) (bc (eqB (decide (Int.ofNat (List.length l)≤List.getD p (Int.toNat i) (0:Int))) false) (bc (bc (bc (decide ((0:Int)≤i)) (Nat.blt (Int.toNat i) (List.length p)) false) true false) (bc (bc (Nat.blt (Int.toNat i) (List.length p)) true false) (bc (bc (bc (decide ((0:Int)≤List.getD p (Int.toNat i) (0:Int))) (Nat.blt (Int.toNat (List.getD p (Int.toNat i) (0:Int))) (List.length l)) false) true false) (bc (bc (Nat.blt (Int.toNat (List.getD p (Int.toNat i) (0:Int))) (List.length l)) true false) (bc (eqB (!isPn (List.getD l (Int.toNat (List.getD p (Int.toNat i) (0:Int))) (0:Int))) false) (bc (eqB (decide ((0:Int) < i)) false) true false) false) false) false) false) false) false) false) false) false) false) false) true false) (.at (sL (t) (l) (p) (IntKind.wrap IntKind.i64 (i+(1:Int))))) .bad))))) (bc (decide (FrcOk l p)) (.done (EV.tup [(EV.lst (SyC.ints IntKind.i64 (ofNs (refF l p)))),(EV.v (Value.int IntKind.i64 (0)))]) [] 0) .bad)):=by kernel_rfl
theorem step {t:Int} {l p:List Int} {i:Nat} (hi:i < p.length) (hp:p.length≤3000):RUN (stOf (sL t l p i))=bc (wokF l p i) (.at (sL t l p (i+1:Nat))) (.done (.tup [.v (.slice none 0 0),iv 2]) [] 0):=by
 have e0:Int.toNat (i:Int)=i:=rfl;have e1:IntKind.i64.wrap ((i:Int)+1)=((i+1:Nat):Int):=by rw [wrap_in _ (by omega) (by omega)];rfl
 rw [l_t,e0,e1];unfold wokF;have c0:decide ((i:Int) < Int.ofNat p.length)=true:=dt (by rw [ofn];omega);have c1:decide (0≤(i:Int))=true:=dt (by omega);have c2:Nat.blt i p.length=true:=bltD hi;have q1:eqB true true=true:=rfl;have q2:eqB false false=true:=rfl;simp only [c0,c1,c2,bc_t];generalize hx:p.getD i 0=x
 by_cases h1:x < 0
 ·simp only [dt h1,bc_t,bc_f,q1]
 simp only [df h1,bc_f,q2,bc_t]
 by_cases h2:(l.length:Int)≤x
 ·simp only [ofn,dt h2,bc_t,bc_f,q1]
 have h2':¬ Int.ofNat l.length≤x:=by rw [ofn];exact h2
 have c3:decide (0≤x)=true:=dt (by omega);have c4:Nat.blt x.toNat l.length=true:=bltD (by omega);simp only [df h2,df h2',bc_f,c3,c4,bc_t,q2]
 cases isPn (l.getD x.toNat 0) with
 | false=>rfl
 | true=>
  simp only [Bool.not_true,bc_f,bc_t,q2]
  by_cases h3:0 < i
  ·have w:IntKind.i64.wrap ((i:Int) - 1)=((i - 1:Nat):Int):=by rw [wrap_in _ (by omega) (by omega)];omega
   have e2:Int.toNat ((i - 1:Nat):Int)=i - 1:=rfl;have c5:Nat.blt (i - 1) p.length=true:=bltD (by omega);have c6:decide (0≤((i - 1:Nat):Int))=true:=dt (by omega);rw [dt h3,dt (show (0:Int) < (i:Int) by omega),w,e2];simp only [bc_t,c5,c6,q1];cases decide (x≤p.getD (i - 1) 0) <;> rfl
  ·rw [df h3,df (show ¬ (0:Int) < (i:Int) by omega)];rfl
theorem loop {t:Int} {l p:List Int} (z:chkL t l=0) (hp:p.length≤3000):∀ (k i:Nat),i+k=p.length→(∀ j,j < i→wokF l p j=true)→EndZ 21 ctRf false (stOf (sL t l p i)) (rsL (bc ((List.range' i k).all (wokF l p)) 0 2) (ofNs (goT l (PinO p)))) [] 0
 | 0,i,h,hw=>by
  obtain rfl:i=p.length:=by omega
  have h1:=l_t t l p p.length;have ha:wokA l p=true:=by
   unfold wokA;rw [List.all_eq_true];exact fun j hj=>hw j (List.mem_range.1 hj)
  rw [df (show ¬ (p.length:Int) < Int.ofNat p.length by rw [ofn];omega),bc_f,dt ((chkL_frc z).2 p (by omega)),bc_t,refF_go (res_some ha)] at h1;exact .done h1
 | k+1,i,h,hw=>by
  have h1:=step (t:=t) (l:=l) (p:=p) (i:=i) (by omega) hp;rw [List.range'_succ]
  cases hwi:wokF l p i with
  | false=>
   rw [hwi,bc_f] at h1;rw [List.all_cons,hwi,Bool.false_and,bc_f];exact (EndZ.done h1).weak (rsL_err _ (by decide))
  | true=>
   rw [hwi,bc_t] at h1;rw [List.all_cons,hwi,Bool.true_and];exact .at ctRf_ok h1 (loop z hp k (i+1) (by omega) fun j hj=>by
    by_cases c:j=i
    ·rw [c];exact hwi
    ·exact hw j (by omega))
theorem ends {t:Int} {l p:List Int} (hp:p.length≤3000):EndZ 21 ctRf false (st0 21 [hE t l,il p]) (rsL (withE t l p) (ofNs (goT l (PinO p)))) [] 0:=by
 have h:=in_t t l p;unfold withE
 by_cases z:chkL t l=0
 ·have e2:(chkL t l != 0)=false:=by rw [z];rfl
  rw [e2,bc_f] at h ⊢;have h2:=loop (t:=t) (l:=l) (p:=p) z hp p.length 0 (by omega) (fun j hj=>absurd hj (Nat.not_lt_zero j));rw [← List.range_eq_range'] at h2;exact .at ctRf_ok h h2
 ·rw [show (chkL t l != 0)=true by simp [z],bc_t] at h ⊢;exact (EndZ.done h).weak (rsL_err _ z)
end RWit
noncomputable def spRWi:ZCT:=fun ax=>match ax with
 | [.agg [.v (.int .i64 t),.lst (.ints .i64 l)],.lst (.ints .i64 p)]=>some ⟨decide (p.length≤3000),rsL (withE t l p) (ofNs (goT l (PinO p))),[],0⟩
 | _=>none
theorem spRWi_ok:ZCtOk Try.prog 21 spRWi:=fun γ w us ax r hs hc hax hN hfz=>by
 unfold spRWi at hs;split at hs
 case h_2=>cases hs
 rename_i t l p;obtain ⟨rfl⟩:=Option.some.inj hs;have hc_0:decide (p.length≤3000)=true:=hc;have hc:=of_decide_eq_true hc_0;exact EndZ.calls (RWit.ends hc) ctRf_ok (by kernel_rfl) hax hN hfz
end Go.Proofs.Ytooimphimnagaaa.Ev
namespace Go.Proofs.Ytooimphimnagaaa.Ev
open Go.Proofs
theorem eqLI_head4 (x y:Int) (a b:List Int):eqLI (x :: a) (y :: b)=bc (x != y) false (eqLI a b):=by
 by_cases h:x=y
 ·have e:(x != y)=false:=by simp [h]
  rw [e,bc_f]
  cases hq:eqLI a b with
  | true=>rw [h,eqLI_iff.1 hq,eqLI_iff.2 rfl]
  | false=>
   cases hx:eqLI (x :: a) (y :: b) with
   | false=>rfl
   | true=>
    have:=List.cons.inj (eqLI_iff.1 hx);rw [eqLI_iff.2 this.2] at hq;cases hq
 ·have e:(x != y)=true:=by simp [h]
  rw [e,bc_t]
  cases hx:eqLI (x :: a) (y :: b) with
  | false=>rfl
  | true=>exact absurd (List.cons.inj (eqLI_iff.1 hx)).1 h
theorem eqLI_len4 {a b:List Int} (h:a.length≠b.length):eqLI a b=false:=by
 cases hx:eqLI a b with
 | false=>rfl
 | true=>exact absurd (congrArg List.length (eqLI_iff.1 hx)) h
namespace RS4i
noncomputable def RUN (s:ES):ZF:=RZ 19 .nil (atS 0 19 4) [] [[(0,none),(1,none),(5,none)]] false s

noncomputable def sS (a b:List Int) (i:Int):NS:=⟨[⟨19,26,[(0,(EV.lst (SyC.ints IntKind.i64 (a)))),(1,(EV.lst (SyC.ints IntKind.i64 (b)))),(5,iv i)],[.it (.code (nav [1,1,0,1,0,0,0] (bodyOf Try.f19))),.it (.code (nav [1,1,0,1,0,0,1] (bodyOf Try.f19))),.it (.inLoop (nav [1,1,0,1,0,0] (bodyOf Try.f19))),.it (.inBlock 0),.it (.code (nav [1,1,1] (bodyOf Try.f19)))],[],Option.none⟩],[],0⟩
theorem in_t (a b:List Int):RUN (st0 19 [il a,il b])=(bc (Int.ofNat (List.length a) != Int.ofNat (List.length b)) (.done (EV.v (Value.bool false)) [] 0) (.at (sS (a) (b) ((0:Int))))):=by kernel_rfl
theorem step_t (a b:List Int) (i:Int):RUN (stOf (sS a b i))=(bc (decide (i < Int.ofNat (List.length a))) (bc (bc (bc (bc (bc (decide ((0:Int)≤i)) (Nat.blt (Int.toNat i) (List.length a)) false) true false) (bc (bc (Nat.blt (Int.toNat i) (List.length a)) true false) (bc (bc (bc (decide ((0:Int)≤i)) (Nat.blt (Int.toNat i) (List.length b)) false) true false) (bc (bc (Nat.blt (Int.toNat i) (List.length b)) true false) true false) false) false) false) true false) (bc (List.getD a (Int.toNat i) (0:Int) != List.getD b (Int.toNat i) (0:Int)) (.done (EV.v (Value.bool false)) [] 0) (.at (sS (a) (b) (IntKind.wrap IntKind.i64 (i+(1:Int)))))) .bad) (.done (EV.v (Value.bool true)) [] 0)):=by kernel_rfl
theorem loop {a b:List Int} (hl:a.length=b.length) (hz:a.length≤100000):∀ (k i:Nat),i+k=a.length→EndZ 19 .nil false (stOf (sS a b i)) (bv (eqLI (a.drop i) (b.drop i))) [] 0
 | 0,i,h=>by
  have hs:=step_t a b i;rw [List.drop_eq_nil_of_le (by omega),List.drop_eq_nil_of_le (by omega),eqLI_iff.2 rfl];simp (disch:=omega) only [Nat.add_eq,eqSy_self,eqN_self,bc_same,List.length_cons,ofn,wrap_in,dt,df,bltD,bltN,ble_of,bleN,beqD,bc_t,bc_f,nn_ok,Nat.zero_add,to_nat,Int.zero_add,Int.sub_zero,Int.sub_self,Int.cast_ofNat_Int,Int.natCast_zero,Int.toNat_zero,List.take_zero,List.nil_append,List.length_append,List.length_nil] at hs;exact .done hs
 | k+1,i,h=>by
  have hi:i < a.length:=by omega
  have hi2:i < b.length:=by omega
  have hs:=step_t a b i;have e1:a.getD i 0=a[i]:=getD_at hi;have e2:b.getD i 0=b[i]:=getD_at hi2;rw [to_nat,e1,e2] at hs;rw [List.drop_eq_getElem_cons hi,List.drop_eq_getElem_cons hi2,eqLI_head4];simp (disch:=omega) only [Nat.add_eq,eqSy_self,eqN_self,bc_same,List.length_cons,ofn,wrap_in,dt,df,bltD,bltN,ble_of,bleN,beqD,bc_t,bc_f,nn_ok,Nat.zero_add,to_nat,Int.zero_add,Int.sub_zero,Int.sub_self,Int.cast_ofNat_Int,Int.natCast_zero,Int.toNat_zero,List.take_zero,List.nil_append,List.length_append,List.length_nil] at hs
  cases hq:a[i] != b[i] with
  | true=>rw [hq] at hs;exact .done hs
  | false=>rw [hq] at hs;exact .at (.nil _) hs (loop hl hz k (i+1) (by omega))
theorem ends {a b:List Int} (hz:a.length≤100000):EndZ 19 .nil false (st0 19 [il a,il b]) (bv (eqLI a b)) [] 0:=by
 have h:=in_t a b
 by_cases hl:a.length=b.length
 ·have e:(Int.ofNat a.length != Int.ofNat b.length)=false:=by simp [hl]
  rw [e,bc_f] at h;exact .at (.nil _) h (loop hl hz a.length 0 (by omega))
 ·have e:(Int.ofNat a.length != Int.ofNat b.length)=true:=by simp;omega
  rw [e,bc_t] at h;rw [eqLI_len4 hl];exact .done h
end RS4i
noncomputable def spRS4i:ZCT:=fun ax=>match ax with
 | [.lst (.ints .i64 a),.lst (.ints .i64 b)]=>some ⟨decide (a.length≤100000),bv (eqLI a b),[],0⟩
 | _=>none
theorem spRS4i_ok:ZCtOk Try.prog 19 spRS4i:=fun γ w us ax r hs hc hax hN hfz=>by
 unfold spRS4i at hs;split at hs
 case h_2=>cases hs
 rename_i a b;obtain ⟨rfl⟩:=Option.some.inj hs;have hc_0:decide (a.length≤100000)=true:=hc;have hc:=of_decide_eq_true hc_0;exact EndZ.calls (RS4i.ends hc) (.nil _) (by kernel_rfl) hax hN hfz
end Go.Proofs.Ytooimphimnagaaa.Ev
namespace Go.Proofs.Ytooimphimnagaaa.Ev
open Go.Proofs
theorem awakeL_run:endsB (exClosed Try.prog ft (drD Try.prog ft 16 4) 16 18)=true:=by kernel_rfl
theorem awakeLC (w:World):Calls Try.prog 16 #[] w fun e w'=>e = .returned (.bool true)∧Stays w w':=closedTrue ftOk (drD_ok mix ftOk 16 4) awakeL_run w
theorem spAwakeL_ok:ZCtOk Try.prog 16 spTrue:=spTrue_ok awakeLC
end Go.Proofs.Ytooimphimnagaaa.Ev
namespace Go.Proofs.Ytooimphimnagaaa
open Go.ChangeShapes Go.WideShapes Go.ChangeAt Go.RowKit

theorem kept_of_stays {W W':World} (h:Ev.Stays W W') (may:MemPlace→Prop):W.keptBut W' may:=by
 refine ⟨h.os,h.output,fun i hi=>?_⟩;have e:=h.block i hi;rw [e]
 cases hb:W.heap[i]? with
 | none=>simp
 | some o=>
  cases o <;> first | exact ⟨rfl,rfl,rfl,fun _ _=>rfl⟩ | exact .inr ⟨rfl,rfl⟩ | rfl
theorem frozen_of_stays {W W':World} (h:Ev.Stays W W') (a:Addr) (ha:a.block < W.heap.size):W'.frozen? a=W.frozen? a:=by
 unfold World.frozen?;rw [h.block _ ha]
section
variable {H:Type} {enc:TypeId × Value→H} {P:Program}

theorem post_of_stays {f:Func} {s:ChangeSpec} {apart fresh handsOn again:Bool} {W W':World} {args:Array Value} {v:Value} {ds gs:List (DataW H)} {before pa pv:List MemPlace}
  (hW:DataW.Whole enc P f.params.toList s.vars apart W args.toList ds gs before)
  (hres:∀ (b:Nat) (sp:Nat→Bool) (hd:Bool),DataW.TrodAll enc P W' b sp hd f.resultTypes.toList (v.resultList f.resultTypes.size) (s.fn H (ds ++ gs)).results [])
  (hargs:∀ sp:Nat→Bool,(∀ p ∈ before,sp p.block=true)→DataW.TrodAll enc P W' 0 sp true f.params.toList args.toList (s.fn H (ds ++ gs)).args pa)
  (hvars:∀ sp:Nat→Bool,(∀ p ∈ before,sp p.block=true)→DataW.TrodVars enc P W' sp s.vars (s.fn H (ds ++ gs)).vars pv)
  (hps:before=pa ++ pv) (hst:Ev.Stays W W')
  (hok:∀ (j:Nat) (t:TypeId) (r:Value),f.resultTypes[j]? = some t→(v.resultList f.resultTypes.size)[j]? = some r→Value.okWide P W' .any 0 t r) :
  s.post enc P f apart fresh handsOn again W args v W':=by
 have hk:W.keptBut W' (· ∈ before):=kept_of_stays hst _;have hold:∀ p ∈ before,(fun b=>decide (b < W.heap.size)) p.block=true:=fun p hp=>by simpa using hW.lt p hp
 have hlt:=fun p hp=>hW.lt p hp;refine ⟨ds,gs,before,[],pa,pv,hW,hres _ _ _,hargs _ hold,hvars _ hold,World.keptBut_mono (fun p hp=>⟨hp,?_⟩) hk,fun _=>?_⟩
 ·rw [hps,List.mem_append] at hp;exact Or.inr hp
 ·obtain ⟨_,_,_,_,_,hz,hn⟩:=hW;refine ⟨hok,_,_,([] ++ pa) ++ pv,⟨[] ++ pa,pv,trodAll_append (hargs _ (fun _ _=>rfl)) (hres _ _ _),hvars _ (fun _ _=>rfl),rfl,?_,?_⟩,?_⟩
  ·intro b off hp;have hp2:MemPlace.cell b off ∈ before:=by rw [hps];simpa using hp
   rw [frozen_of_stays hst _ (hlt _ hp2)];exact hz b off hp2
  ·intro ha;have:=hn ha;rw [hps] at this;simpa using this
  ·intro p hp _;rw [hps];simpa using hp
end
end Go.Proofs.Ytooimphimnagaaa
namespace Go.Proofs.Ytooimphimnagaaa
open Go.ChangeShapes Go.WideShapes Go.ChangeAt Go.RowKit
section
variable {H:Type} {enc:TypeId × Value→H} {P:Program}
theorem same_of_stays {W W':World} (h:Ev.Stays W W') {p:MemPlace} (hp:p.block < W.heap.size):W.sameAt W' p:=by
 cases p with
 | cell b off=>
  show W'.cell? _=W.cell? _;unfold World.cell?;rw [h.block b hp]
 | map b=>exact h.block b hp
theorem args_carry {W W':World} {base:Nat} {sp:Nat→Bool} {hd:Bool}:∀ {ts:List TypeId} {vs:List Value} {ds:List (DataW H)} {ps:List MemPlace},DataW.TrodAll enc P W base sp hd ts vs ds ps→(∀ p ∈ ps,W.sameAt W' p)→DataW.TrodAll enc P W' base sp hd ts vs ds ps
 | [],[],[],_,h,_=>h
 | _ :: _,_ :: _,_ :: _,_,⟨p,q,⟨n,h⟩,hs,e⟩,k=>⟨p,q,⟨n,DataW.trod_carry n _ _ _ h fun x hx=>k x (by rw [e];exact List.mem_append_left _ hx)⟩,args_carry hs fun x hx=>k x (by rw [e];exact List.mem_append_right _ hx),e⟩
 | [],[],_ :: _,_,h,_=>h.elim
 | [],_ :: _,_,_,h,_=>h.elim
 | _ :: _,[],_,_,h,_=>h.elim
 | _ :: _,_ :: _,[],_,h,_=>h.elim

theorem post_law {f:Func} {s:ChangeSpec} {apart fresh handsOn again:Bool} {W W':World} {args:Array Value} {ds:List (DataW H)} {p:List MemPlace} {bt:TypeId} {T:TypeId→Prop} (K:Kids P T) (hz:∀ t e,T t→P.underlying t=some (.slice e)→0 < P.cellsOf e)
  (hbt:P.underlying bt=some .bool) (hrt:f.resultTypes.toList=[bt]) (hsz:f.resultTypes.size=1) (hvs:s.vars=[]) (hfn:s.fn H (ds ++ [])={ results:=[.lit (.bool true)],args:=ds })
  (hpt:∀ t ∈ f.params.toList,T t)
  (hW:DataW.Whole enc P f.params.toList s.vars apart W args.toList ds [] (p ++ [])) (hA:DataW.TrodAll enc P W 0 (fun _=>true) true f.params.toList args.toList ds p) (hst:Ev.Stays W W')
  (hok:∀ (j:Nat) (t:TypeId) (r:Value),f.resultTypes[j]? = some t→((Value.bool true).resultList f.resultTypes.size)[j]? = some r→Value.okWide P W' .any 0 t r) :
  s.post enc P f apart fresh handsOn again W args (.bool true) W':=by
 have hlt:=fun q hq=>hW.lt q hq;refine post_of_stays (pa:=p) (pv:=[]) hW (fun b sp hd=>?_) (fun sp hsp=>?_) (fun sp _=>?_) rfl hst hok
 ·rw [hrt,hfn,hsz];exact trodAll_mk1 (shut_bool hbt _)
 ·rw [hfn];exact DataW.TrodAll.respare K hz hpt (args_carry hA fun q hq=>same_of_stays hst (hlt q (by simpa using hq))) fun q hq=>hsp q (by simpa using hq)
 ·rw [hfn,hvs];rfl
end
namespace Ev


inductive UFit:Sh→U→Prop where
 | int (k:IntKind) (n:Int) (h:(Lit.int k n).wf=true):UFit (.int k) (.i n)
 | bool (b:Bool):UFit .bool (.b b)
 | str (s:ByteArray) (h:s.size≤maxLen):UFit .str (.s s)
 | list (sh:List Sh) (l:List (List U)) (hl:l.length≤maxLen) (hr:∀ j,j < l.length→(l.getD j []).length=sh.length) (h:∀ (j f:Nat) (s:Sh),j < l.length→sh[f]? = some s→UFit s ((l.getD j []).getD f (.i 0))):UFit (.list sh) (.l l)
structure RowFit (sh:List Sh) (r:List U):Prop where
 len:r.length=sh.length
 fit:∀ (f:Nat) (s:Sh),sh[f]? = some s→UFit s (r.getD f (.i 0))
theorem RowFit.nil:RowFit [] []:=⟨rfl,fun f s h=>by simp at h⟩
theorem RowFit.append {sh1 sh2:List Sh} {r1 r2:List U} (h1:RowFit sh1 r1) (h2:RowFit sh2 r2):RowFit (sh1 ++ sh2) (r1 ++ r2):=by
 refine ⟨by simp [h1.len,h2.len],fun f s h=>?_⟩;rw [List.getD_eq_getElem?_getD]
 by_cases hf:f < sh1.length
 ·rw [List.getElem?_append_left hf] at h;rw [List.getElem?_append_left (by rw [h1.len];exact hf),← List.getD_eq_getElem?_getD];exact h1.fit f s h
 ·rw [List.getElem?_append_right (by omega)] at h;rw [List.getElem?_append_right (by rw [h1.len];omega),h1.len,← List.getD_eq_getElem?_getD];exact h2.fit _ s h
theorem recE_app:∀ {sh1 sh2:List Sh} {r1 r2:List U},r1.length=sh1.length→recE (sh1 ++ sh2) (r1 ++ r2)=recE sh1 r1 ++ recE sh2 r2
 | [],sh2,r1,r2,h=>by
  have:r1=[]:=List.eq_nil_of_length_eq_zero h;subst this;rfl
 | s :: sh1,sh2,[],r2,h=>by cases h
 | s :: sh1,sh2,u :: r1,r2,h=>by
  show s.ev u :: recE (sh1 ++ sh2) (r1 ++ r2)=s.ev u :: (recE sh1 r1 ++ recE sh2 r2);rw [recE_app (by simpa using h)]

def shFs (P:Program) (f:TypeId→Option (List Sh)):List Field→Nat→Option (List Sh)
 | [],_=>some []
 | fd :: r,off=>match f fd.type with
  | some sh=>if fd.offset=off∧P.cellsOf fd.type=sh.length then match shFs P f r (off+sh.length) with
   | some l=>some (sh ++ l)
   | none=>none else none
  | none=>none
def shB (P:Program):Nat→TypeId→Option (List Sh)
 | 0,_=>none
 | k+1,t=>match P.underlying t with
  | some (.int κ)=>some [.int κ]
  | some .bool=>some [.bool]
  | some .string=>some [.str]
  | some (.slice e)=>match shB P k e with
   | some sh=>if P.cellsOf e=sh.length∧0 < sh.length then some [.list sh] else none
   | none=>none
  | some (.struct fs)=>match shFs P (shB P k) fs.toList 0 with
   | some sh=>if P.cellsOf t=sh.length then some sh else none
   | none=>none
  | some (.array m e)=>match shB P k e with
   | some sh=>if P.cellsOf e=sh.length∧P.cellsOf t=m * sh.length then some (List.replicate m sh).flatten else none
   | none=>none
  | _=>none
noncomputable def fzAll (W:World):Nat→Option (Array Value):=fun k=>match W.heap[k]? with
 | some (.cells a _ _)=>some a
 | _=>none
noncomputable def gAll (W:World):G:=⟨fun _=>none,fzAll W,fun _ _ _=>none⟩
theorem fzAll_at (W:World):FzAt (gAll W) W:=⟨fun k a hk=>(by
 have hk:fzAll W k=some a:=hk;unfold fzAll at hk;split at hk
 ·rename_i a' ty fz h;injection hk with hk;subst hk
  exact ⟨ty,fz,h⟩
 ·cases hk),fun _ _ _=>rfl⟩
theorem list_of {Q:Nat→List U→Prop}:∀ (n:Nat),(∀ i,i < n→∃ r,Q i r)→∃ l:List (List U),l.length=n∧∀ i,i < n→Q i (l.getD i [])
 | 0,_=>⟨[],rfl,fun i hi=>absurd hi (by omega)⟩
 | n+1,h=>by
  obtain ⟨l,h1,h2⟩:=list_of n fun i hi=>h i (by omega);obtain ⟨r,hr⟩:=h n (by omega);refine ⟨l ++ [r],by simp [h1],fun i hi=>?_⟩;rw [List.getD_eq_getElem?_getD]
  by_cases e:i < n
  ·rw [List.getElem?_append_left (by omega),← List.getD_eq_getElem?_getD];exact h2 i e
  ·have:i=n:=by omega
   subst this;rw [List.getElem?_append_right (by omega),h1,Nat.sub_self];exact hr
variable {H:Type} {enc:TypeId × Value→H} {P:Program} {W:World} {base:Nat} {sp:Nat→Bool} {hd:Bool}
def OpenAt (enc:TypeId × Value→H) (P:Program) (W:World) (base:Nat) (sp:Nat→Bool) (hd:Bool) (k:Nat):Prop:=∀ (t:TypeId) (sh:List Sh) (fuel:Nat) (cs:List Value) (x:DataW H × List MemPlace),shB P k t=some sh→DataW.trod enc P W base sp hd fuel t cs=some x→∃ r,RowFit sh r∧∀ γ:G,γ.fz=fzAll W→ECL γ (recE sh r) cs
theorem fields_open {k:Nat} (ih:OpenAt enc P W base sp hd k) {cs:List Value} {n:Nat}:∀ (fs:List Field) (off:Nat) (sh:List Sh),shFs P (shB P k) fs off=some sh→(∀ f,f ∈ fs→∃ y,DataW.trod enc P W base sp hd n f.type ((cs.drop f.offset).take (P.cellsOf f.type))=some y)→∃ r,RowFit sh r∧∀ γ:G,γ.fz=fzAll W→ECL γ (recE sh r) ((cs.drop off).take sh.length)
 | [],off,sh,h,_=>by
  injection (show some []=some sh from h) with h;subst h
  exact ⟨[],.nil,fun γ _=>by
   rw [show ([]:List Sh).length=0 from rfl,List.take_zero];exact ECL.nil γ⟩
 | fd :: fs,off,sh,h,hall=>by
  unfold shFs at h;split at h
  case h_2=>cases h
  rename_i s1 hs1;split at h
  case isFalse=>cases h
  rename_i hc;split at h
  case h_2=>cases h
  rename_i s2 hs2;injection h with h;subst h
  obtain ⟨y,hy⟩:=hall fd (by simp);rw [hc.1,hc.2] at hy;obtain ⟨r1,h1,h2⟩:=ih fd.type s1 n _ y hs1 hy;obtain ⟨r2,h3,h4⟩:=fields_open ih fs (off+s1.length) s2 hs2 fun f hf=>hall f (by simp [hf]);refine ⟨r1 ++ r2,h1.append h3,fun γ hγ=>?_⟩;rw [recE_app h1.len,List.length_append];have e:(cs.drop off).take (s1.length+s2.length)=(cs.drop off).take s1.length ++ (cs.drop (off+s1.length)).take s2.length:=by
   rw [List.take_add,List.drop_drop]
  rw [e];exact (h2 γ hγ).append (h4 γ hγ)
theorem elems_open {k:Nat} (ih:OpenAt enc P W base sp hd k) {cs:List Value} {n:Nat} {e:TypeId} {sh:List Sh} (hsh:shB P k e=some sh) (hc:P.cellsOf e=sh.length):∀ (m i0:Nat),(∀ i,i < m→∃ y,DataW.trod enc P W base sp hd n e ((cs.drop ((i0+i) * P.cellsOf e)).take (P.cellsOf e))=some y)→∃ r,RowFit (List.replicate m sh).flatten r∧∀ γ:G,γ.fz=fzAll W→ECL γ (recE (List.replicate m sh).flatten r) ((cs.drop (i0 * sh.length)).take (m * sh.length))
 | 0,i0,_=>⟨[],.nil,fun γ _=>by
   rw [Nat.zero_mul,List.take_zero];exact ECL.nil γ⟩
 | m+1,i0,h=>by
  obtain ⟨y,hy⟩:=h 0 (by omega);rw [hc,Nat.add_zero] at hy;obtain ⟨r1,h1,h2⟩:=ih e sh n _ y hsh hy;obtain ⟨r2,h3,h4⟩:=elems_open ih hsh hc m (i0+1) fun i hi=>by
   have:=h (i+1) (by omega)
   rwa [show i0+(i+1)=i0+1+i by omega] at this
  refine ⟨r1 ++ r2,by rw [List.replicate_succ,List.flatten_cons];exact h1.append h3,fun γ hγ=>?_⟩;rw [List.replicate_succ,List.flatten_cons,recE_app h1.len,Nat.succ_mul,Nat.add_comm,List.take_add,List.drop_drop];have:=h4 γ hγ;rw [Nat.succ_mul] at this;exact (h2 γ hγ).append this
theorem open_cells:∀ k,OpenAt enc P W base sp hd k
 | 0=>fun t sh fuel cs x h=>by cases h
 | k+1=>fun t sh fuel cs x h ht=>by
  have ih:OpenAt enc P W base sp hd k:=open_cells k;unfold shB at h;split at h
  ·rename_i κ hu;injection h with h;subst h
   obtain ⟨n,rfl,_,hw⟩:=DataW.trod_int hu ht;refine ⟨[.i n],⟨rfl,fun f s hf=>?_⟩,fun γ _=>.cons (.v _) (.nil _)⟩;obtain ⟨rfl,rfl⟩:=one_f hf;exact .int κ n hw
  ·rename_i hu;injection h with h;subst h
   obtain ⟨b,rfl,_⟩:=DataW.trod_bool hu ht;refine ⟨[.b b],⟨rfl,fun f s hf=>?_⟩,fun γ _=>.cons (.v _) (.nil _)⟩;obtain ⟨rfl,rfl⟩:=one_f hf;exact .bool b
  ·rename_i hu;injection h with h;subst h
   obtain ⟨s,rfl,_,hs⟩:=DataW.trod_string hu ht;refine ⟨[.s s],⟨rfl,fun f s hf=>?_⟩,fun γ _=>.cons (.v _) (.nil _)⟩;obtain ⟨rfl,rfl⟩:=one_f hf;exact .str _ hs
  ·rename_i e hu;split at h
   case h_2=>cases h
   rename_i sh' hsh;split at h
   case isFalse=>cases h
   rename_i hc;injection h with h;subst h
   rcases DataW.trod_slice hu ht with ⟨rfl,_⟩ | ⟨a,len,cap,elems,rest,n,_,rfl,_,hb,hlc,hcm,hel,hall,_⟩
   ·refine ⟨[.l []],⟨rfl,fun f s hf=>?_⟩,fun γ _=>.cons ?_ (.nil _)⟩
    ·obtain ⟨rfl,rfl⟩:=one_f hf;exact .list sh' [] (Nat.zero_le _) (fun j hj=>by simp at hj) (fun j f s hj=>by simp at hj)
    ·exact UOk.ec (s:=.list sh') (.empty sh' (.l []) none 0 rfl (Nat.zero_le _) fun _=>rfl)
   ·have each:∀ i,i < len→∃ r,RowFit sh' r∧∃ ys,W.cells? base (a.add (i * sh'.length)) sh'.length=some ys∧∀ γ:G,γ.fz=fzAll W→ECL γ (recE sh' r) ys:=fun i hi=>by
     have h1:=hall i hi;rw [hc.1] at h1;have h2:i < elems.length:=by omega
     rw [List.getElem?_eq_getElem h2] at h1;obtain ⟨ys,h3,h4⟩:=Option.bind_eq_some_iff.1 h1;obtain ⟨r,h5,h6⟩:=ih e sh' n ys _ hsh h4;exact ⟨r,h5,ys,h3,h6⟩
    obtain ⟨l,hl,hQ⟩:=list_of len each;refine ⟨[.l l],⟨rfl,fun f s hf=>?_⟩,fun γ hγ=>.cons ?_ (.nil _)⟩
    ·obtain ⟨rfl,rfl⟩:=one_f hf;exact .list sh' l (by omega) (fun j hj=>(hQ j (by omega)).1.len) fun j f s hj hf=>(hQ j (by omega)).1.fit f s hf
    ·refine UOk.ec (s:=.list sh') ?_
     by_cases h0:len=0
     ·have:l=[]:=List.eq_nil_of_length_eq_zero (by omega);subst this;subst h0;exact .empty sh' (.l []) (some a) cap rfl hcm fun e=>by cases e
     ·obtain ⟨b,off,spot⟩:=a;have hblk:spot=none∧∃ arr ty fz,W.heap[b]? = some (.cells arr ty fz):=by
       obtain ⟨h1,ys,h2,h3⟩:=hQ 0 (by omega);obtain ⟨_,h4,h5⟩:=World.cells?_some h2;have h6:=h5 0 hc.2;rw [List.getElem?_eq_getElem (show 0 < ys.length by omega)] at h6;have h6:W.cell? ⟨b,off,spot⟩=some ys[0]:=by
        have e:((⟨b,off,spot⟩:Addr).add (0 * sh'.length)).add 0=⟨b,off,spot⟩:=by simp [Addr.add]
        rw [e] at h6;exact h6
       unfold World.cell? at h6;split at h6
       ·rename_i arr ty fz hb';split at h6
        ·cases h6
        ·rename_i hs;exact ⟨by cases spot <;> simp_all,arr,ty,fz,hb'⟩
       ·cases h6
      obtain ⟨rfl,arr,ty,fz,hblk⟩:=hblk;have cellAt:∀ i f,i < len→f < sh'.length→∃ y,W.cell? ⟨b,off+(i * sh'.length+f),none⟩=some y∧∀ s,sh'[f]? = some s→UOk γ.fz s ((l.getD i []).getD f (.i 0)) y:=fun i f hi hf=>by
       obtain ⟨h1,ys,h2,h3⟩:=hQ i hi;obtain ⟨_,h4,h5⟩:=World.cells?_some h2;have h6:=h5 f hf;have h7:f < ys.length:=by omega
       rw [List.getElem?_eq_getElem h7] at h6;refine ⟨ys[f],?_,fun s hs=>?_⟩
       ·have e:((⟨b,off,none⟩:Addr).add (i * sh'.length)).add f=⟨b,off+(i * sh'.length+f),none⟩:=by
         unfold Addr.add;split <;> split <;> simp_all [Nat.add_assoc]
        rw [← h6,e]
       ·have h8:=recE_get (s:=s) (f:=f) (sh:=sh') (l.getD i []) hs;have h9:=(h3 γ hγ).2 f _ ys[f] h8 (List.getElem?_eq_getElem h7);exact UOk.of_ec h9
      have getA:∀ i f,i < len→f < sh'.length→∃ y,arr[off+(i * sh'.length+f)]? = some y∧∀ s,sh'[f]? = some s→UOk γ.fz s ((l.getD i []).getD f (.i 0)) y:=fun i f hi hf=>by
       obtain ⟨y,h1,h2⟩:=cellAt i f hi hf;refine ⟨y,?_,h2⟩;unfold World.cell? at h1;simpa [hblk] using h1
      have hk:γ.fz b=some arr:=by
       rw [hγ];unfold fzAll;rw [hblk]
      subst hl;refine .list sh' (.l l) b off cap arr hk hlc hcm ?_ fun j f s x hj hf hx=>?_
      ·show off+l.length * sh'.length≤arr.size;obtain ⟨y,h1,_⟩:=getA (l.length - 1) (sh'.length - 1) (by omega) (by omega);have:=(Array.getElem?_eq_some_iff.1 h1).1;have e:l.length * sh'.length=(l.length - 1) * sh'.length+sh'.length:=by rw [← Nat.succ_mul];congr 1;omega
       omega
      ·obtain ⟨y,h1,h2⟩:=getA j f hj (List.getElem?_eq_some_iff.1 hf).1;rw [h1] at hx;injection hx with hx;subst hx;exact h2 s hf
  ·rename_i fs hu;split at h
   case h_2=>cases h
   rename_i sh' hsh;split at h
   case isFalse=>cases h
   rename_i hc;injection h with h;subst h
   obtain ⟨xs,n,_,_,hl,hlen,hf⟩:=DataW.trod_struct hu ht;obtain ⟨r,h1,h2⟩:=fields_open (cs:=cs) (n:=n) ih fs.toList 0 sh' hsh fun f hm=>by
    obtain ⟨i,hi,rfl⟩:=List.getElem_of_mem hm;have hi2:i < fs.size:=by simpa using hi
    have:=hf i fs.toList[i] (by simp [hi2]);rw [List.getElem?_eq_getElem (by omega)] at this;exact ⟨_,this⟩
   refine ⟨r,h1,fun γ hγ=>?_⟩;have:=h2 γ hγ
   rwa [List.drop_zero,List.take_of_length_le (by omega)] at this
  ·rename_i m e hu;split at h
   case h_2=>cases h
   rename_i sh' hsh;split at h
   case isFalse=>cases h
   rename_i hc;injection h with h;subst h
   obtain ⟨xs,n,_,_,hl,hlen,hf⟩:=DataW.trod_array hu ht;obtain ⟨r,h1,h2⟩:=elems_open (cs:=cs) (n:=n) ih hsh hc.1 m 0 fun i hi=>by
    have:=hf i hi;rw [List.getElem?_eq_getElem (by omega)] at this;rw [Nat.zero_add];exact ⟨_,this⟩
   refine ⟨r,h1,fun γ hγ=>?_⟩;have:=h2 γ hγ
   rwa [Nat.zero_mul,List.drop_zero,List.take_of_length_le (by omega)] at this
  ·cases h

theorem open_agg {t:TypeId} {fs:Array Field} {v:Value} {d:DataW H} {ps:List MemPlace} {k b0:Nat} {rc:Reach} {sh:List Sh} (hu:P.underlying t=some (.struct fs)) (hs:shB P k t=some sh) (hv:Value.okWide P W rc b0 t v) (h:DataW.Trod enc P W base sp hd t v d ps):∃ r,RowFit sh r∧EC (gAll W) (.agg (recE sh r)) v:=by
 obtain ⟨cs,rfl,_⟩:=okWide_struct hu hv;obtain ⟨fuel,hf⟩:=h;obtain ⟨r,h1,h2⟩:=open_cells k t sh fuel _ _ hs hf;have h3:=h2 (gAll W) rfl;refine ⟨r,h1,?_⟩;have:=EC.agg (γ:=gAll W) (recE sh r) cs.toList h3.1 h3.2;simpa using this

theorem open_lst {t e:TypeId} {v:Value} {d:DataW H} {ps:List MemPlace} {k b0:Nat} {rc:Reach} {sh:List Sh} (hu:P.underlying t=some (.slice e)) (hs:shB P k t=some [.list sh]) (hv:Value.okWide P W rc b0 t v) (h:DataW.Trod enc P W base sp hd t v d ps):∃ l,UFit (.list sh) (.l l)∧EC (gAll W) (.lst (mkC sh l)) v:=by
 obtain ⟨a,len,cap,rfl⟩:=okWide_slice hu hv;obtain ⟨fuel,hf⟩:=h;obtain ⟨r,h1,h2⟩:=open_cells k t _ fuel _ _ hs hf;have h3:=h2 (gAll W) rfl;obtain ⟨h4,h5⟩:=h1
 match r,h4 with
 | [u],_=>
  have h6:=h5 0 _ rfl;have h6:UFit (.list sh) u:=h6
  cases h6 with
  | list _ l hl hr hh=>
   refine ⟨l,.list sh l hl hr hh,?_⟩;exact h3.2 0 _ _ rfl rfl
end Ev
end Go.Proofs.Ytooimphimnagaaa
namespace Go.Proofs.Ytooimphimnagaaa.Ev
open Go.Proofs
noncomputable def ctLf:Tr ZCC:=(((((((Tr.nil.put 17 (some (dC spPTi))).put 18 (some (dC spRTi))).put 20 (some (dC spPWi))).put 21 (some (dC spRWi))).put 22 (some (dC spPFd))).put 23 (some (dC spRFd))).put 19 (some (dC spRS4i))).put 16 (some (dC spTrue))
theorem ctLf_ok:ZCtsOk Try.prog ctLf:=((((((((ZCtsOk.nil _).add rfl spPTi_ok).add rfl spRTi_ok).add rfl spPWi_ok).add rfl spRWi_ok).add rfl spPFd_ok).add rfl spRFd_ok).add rfl spRS4i_ok).add rfl spAwakeL_ok
namespace ALf
noncomputable def RUN (s:ES):ZF:=RZ 3 ctLf (fun _=>false) [] [] false s
theorem in_t (t:Int) (l p:List Int):RUN (st0 3 [hE t l,il p])=(bc (decide ((300:Int) < Int.ofNat (List.length l))) (bc (decide (Int.ofNat (List.length l)≤(2000:Int))) (.done (EV.v (Value.bool true)) [] 0) (bc (decide ((2100:Int) < Int.ofNat (List.length l))) (.done (EV.v (Value.bool true)) [] 0) (bc (decide ((2100:Int) < Int.ofNat (List.length p))) (.done (EV.v (Value.bool true)) [] 0) (bc (decide (In64 l)) (bc (bc (decide (List.length (bc (chkL t l != (0:Int)) [] (ofNs (idxB (tgA l))))≤(100000:Nat))) true false) (bc (!eqLI (bc (chkL t l != (0:Int)) [] (ofNs (idxB (tgA l)))) (bc (chkL t l != (0:Int)) [] (ofNs (tigT l)))) (.done (EV.v (Value.bool false)) [] 0) (bc (chkL t l != chkL t l) (.done (EV.v (Value.bool false)) [] 0) (bc (decide (In64 l∧List.length p≤(3000:Nat))) (bc (decide (List.length p≤(3000:Nat))) (bc (decide (In64 l)) (bc (bc (decide (List.length (bc (withE t l p != (0:Int)) [] (gF l (tgA l) (PinO p)))≤(100000:Nat))) true false) (bc (eqLI (bc (withE t l p != (0:Int)) [] (gF l (tgA l) (PinO p))) (bc (withE t l p != (0:Int)) [] (ofNs (goT l (PinO p))))) (bc (withE t l p == withE t l p) (bc (bc (decide (List.length (bc (chkL t l != (0:Int)) [] (gF l (tgA l) fun x=>true))≤(100000:Nat))) true false) (bc (eqLI (bc (chkL t l != (0:Int)) [] (gF l (tgA l) fun x=>true)) (bc (chkL t l != (0:Int)) [] (ofNs (goT l fun x=>true)))) (bc (chkL t l == chkL t l) (.done (EV.v (Value.bool true)) [] 0) (.done (EV.v (Value.bool false)) [] 0)) (.done (EV.v (Value.bool false)) [] 0)) .bad) (.done (EV.v (Value.bool false)) [] 0)) (.done (EV.v (Value.bool false)) [] 0)) .bad) .bad) .bad) .bad))) .bad) .bad)))) (bc (decide ((2100:Int) < Int.ofNat (List.length l))) (.done (EV.v (Value.bool true)) [] 0) (bc (decide ((2100:Int) < Int.ofNat (List.length p))) (.done (EV.v (Value.bool true)) [] 0) (bc (decide (In64 l)) (bc (bc (decide (List.length (bc (chkL t l != (0:Int)) [] (ofNs (idxB (tgA l))))≤(100000:Nat))) true false) (bc (!eqLI (bc (chkL t l != (0:Int)) [] (ofNs (idxB (tgA l)))) (bc (chkL t l != (0:Int)) [] (ofNs (tigT l)))) (.done (EV.v (Value.bool false)) [] 0) (bc (chkL t l != chkL t l) (.done (EV.v (Value.bool false)) [] 0) (bc (decide (In64 l∧List.length p≤(3000:Nat))) (bc (decide (List.length p≤(3000:Nat))) (bc (decide (In64 l)) (bc (bc (decide (List.length (bc (withE t l p != (0:Int)) [] (gF l (tgA l) (PinO p)))≤(100000:Nat))) true false) (bc (eqLI (bc (withE t l p != (0:Int)) [] (gF l (tgA l) (PinO p))) (bc (withE t l p != (0:Int)) [] (ofNs (goT l (PinO p))))) (bc (withE t l p == withE t l p) (bc (bc (decide (List.length (bc (chkL t l != (0:Int)) [] (gF l (tgA l) fun x=>true))≤(100000:Nat))) true false) (bc (eqLI (bc (chkL t l != (0:Int)) [] (gF l (tgA l) fun x=>true)) (bc (chkL t l != (0:Int)) [] (ofNs (goT l fun x=>true)))) (bc (chkL t l == chkL t l) (.done (EV.v (Value.bool true)) [] 0) (.done (EV.v (Value.bool false)) [] 0)) (.done (EV.v (Value.bool false)) [] 0)) .bad) (.done (EV.v (Value.bool false)) [] 0)) (.done (EV.v (Value.bool false)) [] 0)) .bad) .bad) .bad) .bad))) .bad) .bad)))):=by kernel_rfl
theorem bcl5 {α:Type} {b:Bool} {l:List α} {k:Nat} (h:b=false→l.length≤k):(bc b [] l).length≤k:=by
 cases b with
 | true=>exact Nat.zero_le _
 | false=>exact h rfl
theorem zof {x:Int} (h:(x != 0)=false):x=0:=by simpa using h
theorem withE_chk {t:Int} {l p:List Int} (h:withE t l p=0):chkL t l=0:=by
 apply Classical.byContradiction;intro z;have e1:withE t l p=chkL t l:=by unfold withE;rw [show (chkL t l != 0)=true by simp [z],bc_t]
 exact z (e1 ▸ h)
theorem goT_len (l:List Int) (o:Nat→Bool):(goT l o).length≤l.length:=by
 have h1:=asc_len (resT_asc l o);have h2:=List.length_filter_le (fun j=>!decide (j ∈ tigL l (resT l o))) (resT l o);unfold goT;omega
theorem ends {t:Int} {l p:List Int} (hx:In64 l):EndZ 3 ctLf false (st0 3 [hE t l,il p]) (bv true) [] 0:=by
 have h:=in_t t l p;have q1:(bc (chkL t l != 0) [] (ofNs (tigT l))).length≤100000:=bcl5 fun z=>by
  have:=(chkL_ok (zof z)).2.1;have:=asc_len (tigT_asc l);rw [ofNs_len];omega
 have q2:∀ o,(bc (chkL t l != 0) [] (ofNs (goT l o))).length≤100000:=fun o=>bcl5 fun z=>by
  have:=(chkL_ok (zof z)).2.1;have:=goT_len l o;rw [ofNs_len];omega
 have q3:∀ o,(bc (withE t l p != 0) [] (ofNs (goT l o))).length≤100000:=fun o=>bcl5 fun z=>by
  have:=(chkL_ok (withE_chk (zof z))).2.1;have:=goT_len l o;rw [ofNs_len];omega
 rw [tgA_idx,gF_goT,gF_goT,dt q1,dt (q2 _),dt (q3 _),dt hx,eqLI_iff.2 rfl,eqLI_iff.2 rfl,eqLI_iff.2 rfl] at h;simp only [bne_self_eq_false,beq_self_eq_true,Bool.not_true,bc_t,bc_f,ofn] at h
 by_cases c1:2100 < (l.length:Int)
 ·rw [dt c1,df (show ¬ (l.length:Int)≤2000 by omega),dt (show (300:Int) < (l.length:Int) by omega)] at h;exact .done h
 by_cases c2:2100 < (p.length:Int)
 ·rw [df c1,dt c2] at h;simp only [bc_t,bc_f] at h
  by_cases c3:300 < (l.length:Int)
  ·rw [dt c3,bc_t] at h
   by_cases c4:(l.length:Int)≤2000
   ·rw [dt c4,bc_t] at h;exact .done h
   ·rw [df c4,bc_f] at h;exact .done h
  ·rw [df c3,bc_f] at h;exact .done h
 have c5:p.length≤3000:=by omega
 rw [df c1,df c2,dt c5,dt (show In64 l∧p.length≤3000 from ⟨hx,c5⟩)] at h
 simp only [bc_t,bc_f] at h
 by_cases c3:300 < (l.length:Int)
 ·rw [dt c3,bc_t] at h
  by_cases c4:(l.length:Int)≤2000
  ·rw [dt c4,bc_t] at h;exact .done h
  ·rw [df c4,bc_f] at h;exact .done h
 ·rw [df c3,bc_f] at h;exact .done h
end ALf
theorem fit_i64 {u:U} (h:UFit (.int .i64) u):∃ n,u = .i n ∧ -9223372036854775808≤n∧n≤9223372036854775807:=by
 cases h with
 | int k n h=>
  refine ⟨n,rfl,?_⟩;have h1:IntKind.i64.min≤n∧n≤IntKind.i64.max:=by simpa [Lit.wf] using h
  have e1:IntKind.i64.min = -9223372036854775808:=rfl;have e2:IntKind.i64.max=9223372036854775807:=rfl;omega
theorem fit_ints {l:List (List U)} (h:UFit (.list [.int .i64]) (.l l)):In64 (l.map fun r=>(r.headD (.i 0)).int):=by
 cases h with
 | list sh l hl hr hf=>
  intro j hj;rw [List.length_map] at hj;rw [getD_at (by rw [List.length_map];exact hj),List.getElem_map];have h1:=hf j 0 _ hj rfl;rw [getD_at (d:=[]) hj] at h1;obtain ⟨n,e,h2⟩:=fit_i64 h1;rw [headD_getD,e];exact h2
theorem looseFrees_calls {γ:G} {w:World} {us:Array Value} (ra:List U) (wa:RowFit [.int .i64,.list [.int .i64]] ra) (b:List (List U)) (wb:UFit (.list [.int .i64]) (.l b))
  (hax:ECL γ [.agg (recE [.int .i64,.list [.int .i64]] ra),.lst (mkC [.int .i64] b)] us.toList) (hN:∀ i,γ i=none) (hfz:FzAt γ w):Calls Try.prog 3 us w fun e w'=>e = .returned (.bool true)∧Stays w w':=by
 have h1:=wa.fit 1 _ rfl;have hlen:=wa.len
 match ra,hlen with
 | [x,y],_=>
  have h1:UFit (.list [.int .i64]) y:=h1
  cases h1 with
  | list sh l hl hr hf=>
   exact law_of ((ALf.ends (t:=U.int x) (fit_ints (.list _ l hl hr hf))).calls ctLf_ok (by kernel_rfl) hax hN hfz)
end Go.Proofs.Ytooimphimnagaaa.Ev
namespace Go.Proofs.Ytooimphimnagaaa
open Go.ChangeShapes Go.WideShapes Go.ChangeAt Go.RowKit Go.ChangeMaps
theorem knobLooseFrees:ownKnob Try.prog.godebug=none:=by kernel_rfl
theorem kidsLooseFrees:Kids Try.prog (· < Try.prog.types.size):=kids_rows (by kernel_rfl) (by kernel_rfl)
theorem fullLooseFrees:∀ t e,t < Try.prog.types.size→Try.prog.underlying t=some (.slice e)→0 < Try.prog.cellsOf e:=slices_full_of Try.prog (by kernel_rfl)
set_option maxRecDepth 100000 in
theorem liftedLooseFrees (os:Os) (started:os.Started) (H:Type) (enc:TypeId × Value→H) :
  ReturnsInHanded {} Try.checked os 3 .any (Rows.looseFreesSpec.pre6 enc Try.prog Try.f3 Rows.looseFreesRow.domain false) (Rows.looseFreesSpec.post enc Try.prog Try.f3 false true false false):=by
 refine returnsInHanded_of_change (C:=Try.checked) knobLooseFrees started (by kernel_rfl) Try.func3
  (ChangeSpec.witness6 (enc:=enc) (C:=Try.checked) false ⟨#[],#[.agg #[.int .i64 0,.slice none 0 0],.slice none 0 0],[]⟩ 8 (by kernel_rfl) (by kernel_rfl) (by kernel_rfl) (by kernel_rfl)) ?_
 intro W base args ds gs before hval0 hW hcnd _;have hval:∀ (j:Nat) t v,Try.f3.params[j]? = some t→args[j]? = some v→Value.okWide Try.prog W .any base t v:=hval0;have hW':=hW;obtain ⟨p,q,hA0,hV,rfl,hfz,hnd⟩:=hW;have hA:DataW.TrodAll enc Try.prog W 0 (fun _=>true) true Try.f3.params.toList args.toList ds p:=hA0;have hAk:=hA;rw [Try.params3] at hA hval;obtain ⟨rfl,rfl⟩:=trodVars_none hV;obtain ⟨v0,v1,d0,d1,p0,p1,rfl,rfl,rfl,h0,h1⟩:=trodAll_two hA
 obtain ⟨r,wr,er⟩:=Ev.open_agg (k:=8) Try.underlying24 (by kernel_rfl:Ev.shB Try.prog 8 24=some [.int .i64,.list [.int .i64]]) (hval 0 24 v0 rfl rfl) h0;obtain ⟨b,wb,eb⟩:=Ev.open_lst (k:=8) Try.underlying22 (by kernel_rfl:Ev.shB Try.prog 8 22=some [.list [.int .i64]]) (hval 1 22 v1 rfl rfl) h1;clear hA0 hval0;refine (Ev.looseFrees_calls r wr b wb (γ:=Ev.gAll W) (.cons er (.cons eb (.nil _))) (fun i=>rfl) (Ev.fzAll_at W)).mono fun e W' ⟨he,hg⟩=>?_;subst he
 exact ⟨_,rfl,post_law kidsLooseFrees fullLooseFrees Try.underlying4 (by kernel_rfl) (by kernel_rfl) rfl rfl (by rw [Try.params3];decide) hW' hAk hg (ok_one (by kernel_rfl) rfl (okWide_bool_mk Try.underlying4 _))⟩
theorem looseFrees_holds:Rows.LooseFreesSaid:=
 OpenClaim.holds_of_wide 3 Try.f3 rfl rfl rfl rfl rfl rfl rfl ⟨rfl,rfl,rfl,rfl,rfl⟩ rfl rfl rfl rfl rfl (by kernel_rfl) Try.func3 (by kernel_rfl)
  (of_decide_eq_true (by kernel_rfl)) (by unfold Func.isWrapper;first | (rw [if_pos (by decide +kernel)];kernel_rfl) | (rw [if_neg (by decide +kernel)];exact ⟨rfl,rfl⟩))
  (fun os started H enc _=>liftedLooseFrees os started H enc)
end Go.Proofs.Ytooimphimnagaaa
