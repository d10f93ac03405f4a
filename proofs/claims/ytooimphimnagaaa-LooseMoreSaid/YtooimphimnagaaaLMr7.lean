/- LooseMore returns true, for all arguments, in every world in which it is called, and nothing that was there turns. -/
import Derived.Test.YtooimphimnagaaaRows
import Derived.WalkKit
import Derived.ProofKit
import Derived.Test.YtooimphimnagaaaLMr6
set_option linter.unusedSimpArgs false
set_option linter.unusedVariables false
noncomputable section
namespace Go.Proofs.Ytooimphimnagaaa.Ev
noncomputable abbrev blL (l:List Bool):EV:=.lst (.bools l)
noncomputable def ctLm:Tr ZCC:=((((((((((((Tr.nil.put 35 (some (dC spRChL))).put 36 (some (dC spPns))).put 20 (some (dC spPWi))).put 22 (some (dC spPFd))).put 17 (some (dC spPTi))).put 37 (some (dC spIns))).put 38 (some (dC spPKy))).put 39 (some (dC spPAc))).put 40 (some (dC spCrs))).put 41 (some (dC spIsP))).put 32 (some (dC spRSam))).put 16 (some (dC spTrue)))
theorem zce:ZCtsOk Try.prog ctLm:=((((((((((((ZCtsOk.nil _).add rfl zop).add rfl zro).add rfl zrp).add rfl zlj).add rfl zrq).add rfl zru).add rfl zrr).add rfl zrs).add rfl zrw).add rfl zrt).add rfl zok).add rfl zj2
namespace ALm
noncomputable def RUN (s:ES):ZF:=RZs 7 ctLm [(atS 0 7 6,[[(1,none),(2,none),(3,none),(7,some (1,3,.ints .i64 [])),(8,some (1,3,.ints .i64 [])),(9,none),(10,none)]]),(atS 0 7 29,[[(3,none),(16,none),(18,none),(22,none),(23,some (1,3,.ints .i64 [])),(24,none),(25,none)]]),(atS 0 7 31,[[(3,none),(16,none),(18,none),(22,none),(23,some (1,3,.ints .i64 [])),(24,none),(25,none)]])] [] false s
noncomputable def sA (t:Int) (l:List Int) (s m:List Bool) (p a b:List Int) (na nb:Bool) (i:Int):NS:=⟨[⟨7,264,[(1,(EV.lst (SyC.bools s))),(2,(EV.lst (SyC.bools m))),(3,(EV.ptr 0 0)),(7,EV.slO 1 1 a.length na),(8,EV.slO 2 1 b.length nb),(9,il p),(10,iv i)],[.it (.code (nav [1,1,1,1,0,1,0,0,0] (bodyOf Try.f7))),.it (.code (nav [1,1,1,1,0,1,0,0,1] (bodyOf Try.f7))),.it (.inLoop (nav [1,1,1,1,0,1,0,0] (bodyOf Try.f7))),.it (.inBlock 0),.it (.code (nav [1,1,1,1,1] (bodyOf Try.f7)))],[],Option.none⟩],[(0,(EK.cells 24 [(iv t),(il l)] true)),(1,EK.seq 3 (.ints .i64 a) na),(2,EK.seq 3 (.ints .i64 b) nb)],3⟩
noncomputable def sO (t:Int) (l z d w g:List Int) (nn:Bool) (k i:Int):NS:=⟨[⟨7,264,[(3,(EV.ptr 0 0)),(16,il z),(18,il d),(22,il w),(23,EV.slO 1 1 g.length nn),(24,iv k),(25,iv i)],[.it (.code (nav [1,1,1,1,1,1,1,1,1,1,1,1,1,1,1,1,1,0,1,0,0,0] (bodyOf Try.f7))),.it (.code (nav [1,1,1,1,1,1,1,1,1,1,1,1,1,1,1,1,1,0,1,0,0,1] (bodyOf Try.f7))),.it (.inLoop (nav [1,1,1,1,1,1,1,1,1,1,1,1,1,1,1,1,1,0,1,0,0] (bodyOf Try.f7))),.it (.inBlock 2),.it (.code (nav [1,1,1,1,1,1,1,1,1,1,1,1,1,1,1,1,1,1] (bodyOf Try.f7)))],[],Option.none⟩],[(0,(EK.cells 24 [(iv t),(il l)] true)),(1,EK.seq 3 (.ints .i64 g) nn)],2⟩
noncomputable def sI (t:Int) (l z d w g:List Int) (nn:Bool) (k i:Int):NS:=⟨[⟨7,264,[(3,(EV.ptr 0 0)),(16,il z),(18,(il d)),(22,(il w)),(23,(EV.slO 1 1 (List.length g) nn)),(24,(iv k)),(25,(iv i))],[.it (.code (nav [1,1,1,1,1,1,1,1,1,1,1,1,1,1,1,1,1,0,1,0,0,1,0,0,0,0,0,0] (bodyOf Try.f7))),.it (.code (nav [1,1,1,1,1,1,1,1,1,1,1,1,1,1,1,1,1,0,1,0,0,1,0,0,0,0,0,1] (bodyOf Try.f7))),.it (.inLoop (nav [1,1,1,1,1,1,1,1,1,1,1,1,1,1,1,1,1,0,1,0,0,1,0,0,0,0,0] (bodyOf Try.f7))),.it (.inBlock 4),.it (.code (nav [1,1,1,1,1,1,1,1,1,1,1,1,1,1,1,1,1,0,1,0,0,1,0,0,1] (bodyOf Try.f7))),.it (.inBlock 3),.it (.code (nav [1,1,1,1,1,1,1,1,1,1,1,1,1,1,1,1,1,0,1,0,0,1,1] (bodyOf Try.f7))),.it (.inLoop (nav [1,1,1,1,1,1,1,1,1,1,1,1,1,1,1,1,1,0,1,0,0] (bodyOf Try.f7))),.it (.inBlock 2),.it (.code (nav [1,1,1,1,1,1,1,1,1,1,1,1,1,1,1,1,1,1] (bodyOf Try.f7)))],[],Option.none⟩],[(0,(EK.cells 24 [(iv t),(il l)] true)),(1,(EK.seq 3 (SyC.ints IntKind.i64 g) nn))],2⟩
theorem in_t (t:Int) (l:List Int) (s m:List Bool):RUN (st0 7 [hE t l,blL s,blL m])=(bc (chkL t l != 0) (.done (bv true) [] 0) (bc (decide (100<Int.ofNat l.length)) (.done (bv true) [] 0) (bc (decide (l.length≤3000)) (.at (sA t l s m (ofNs (RPns.pinI l l.length)) [] [] false false 0)) .bad))):=by kernel_rfl
theorem a_t (t:Int) (l:List Int) (s m:List Bool) (p a b:List Int) (na nb:Bool) (i:Int):RUN (stOf (sA t l s m p a b na nb i))=(bc (decide (i<Int.ofNat p.length)) (bc (decide (i<Int.ofNat s.length)) (bc (bc (bc (decide (0≤i)) (Nat.blt i.toNat s.length) false) true false) (bc (bc (Nat.blt i.toNat s.length) true false) (bc (s.getD i.toNat false) (bc (bc (bc (decide (0≤i)) (Nat.blt i.toNat p.length) false) true false) (bc (bc (Nat.blt i.toNat p.length) true false) (bc (bc (Nat.beq a.length a.length) (bc (Nat.ble (a.length+([p.getD i.toNat 0]).length) 65536) (bc na true (bc na false true)) false) false) (bc (s.getD i.toNat false) (bc (bc (bc (decide (0≤i)) (Nat.blt i.toNat p.length) false) true false) (bc (bc (Nat.blt i.toNat p.length) true false) (bc (bc (Nat.beq b.length b.length) (bc (Nat.ble (b.length+([p.getD i.toNat 0]).length) 65536) (bc nb true (bc nb false true)) false) false) (.at (sA t l s m p (a++[p.getD i.toNat 0]) (b++[p.getD i.toNat 0]) (bc na true (Nat.blt 0 ([p.getD i.toNat 0]).length)) (bc nb true (Nat.blt 0 ([p.getD i.toNat 0]).length)) (IntKind.i64.wrap (i+1)))) .bad) .bad) .bad) (bc (decide (i<Int.ofNat m.length)) (bc (bc (bc (decide (0≤i)) (Nat.blt i.toNat m.length) false) true false) (bc (bc (Nat.blt i.toNat m.length) true false) (bc (m.getD i.toNat false) (bc (bc (bc (decide (0≤i)) (Nat.blt i.toNat p.length) false) true false) (bc (bc (Nat.blt i.toNat p.length) true false) (bc (bc (Nat.beq b.length b.length) (bc (Nat.ble (b.length+([p.getD i.toNat 0]).length) 65536) (bc nb true (bc nb false true)) false) false) (.at (sA t l s m p (a++[p.getD i.toNat 0]) (b++[p.getD i.toNat 0]) (bc na true (Nat.blt 0 ([p.getD i.toNat 0]).length)) (bc nb true (Nat.blt 0 ([p.getD i.toNat 0]).length)) (IntKind.i64.wrap (i+1)))) .bad) .bad) .bad) (.at (sA t l s m p (a++[p.getD i.toNat 0]) b (bc na true (Nat.blt 0 ([p.getD i.toNat 0]).length)) nb (IntKind.i64.wrap (i+1))))) .bad) .bad) (.at (sA t l s m p (a++[p.getD i.toNat 0]) b (bc na true (Nat.blt 0 ([p.getD i.toNat 0]).length)) nb (IntKind.i64.wrap (i+1)))))) .bad) .bad) .bad) (bc (s.getD i.toNat false) (bc (bc (bc (decide (0≤i)) (Nat.blt i.toNat p.length) false) true false) (bc (bc (Nat.blt i.toNat p.length) true false) (bc (bc (Nat.beq b.length b.length) (bc (Nat.ble (b.length+([p.getD i.toNat 0]).length) 65536) (bc nb true (bc nb false true)) false) false) (.at (sA t l s m p a (b++[p.getD i.toNat 0]) na (bc nb true (Nat.blt 0 ([p.getD i.toNat 0]).length)) (IntKind.i64.wrap (i+1)))) .bad) .bad) .bad) (bc (decide (i<Int.ofNat m.length)) (bc (bc (bc (decide (0≤i)) (Nat.blt i.toNat m.length) false) true false) (bc (bc (Nat.blt i.toNat m.length) true false) (bc (m.getD i.toNat false) (bc (bc (bc (decide (0≤i)) (Nat.blt i.toNat p.length) false) true false) (bc (bc (Nat.blt i.toNat p.length) true false) (bc (bc (Nat.beq b.length b.length) (bc (Nat.ble (b.length+([p.getD i.toNat 0]).length) 65536) (bc nb true (bc nb false true)) false) false) (.at (sA t l s m p a (b++[p.getD i.toNat 0]) na (bc nb true (Nat.blt 0 ([p.getD i.toNat 0]).length)) (IntKind.i64.wrap (i+1)))) .bad) .bad) .bad) (.at (sA t l s m p a b na nb (IntKind.i64.wrap (i+1))))) .bad) .bad) (.at (sA t l s m p a b na nb (IntKind.i64.wrap (i+1))))))) .bad) .bad) (bc (decide (i<Int.ofNat m.length)) (bc (bc (bc (decide (0≤i)) (Nat.blt i.toNat m.length) false) true false) (bc (bc (Nat.blt i.toNat m.length) true false) (bc (m.getD i.toNat false) (bc (bc (bc (decide (0≤i)) (Nat.blt i.toNat p.length) false) true false) (bc (bc (Nat.blt i.toNat p.length) true false) (bc (bc (Nat.beq b.length b.length) (bc (Nat.ble (b.length+([p.getD i.toNat 0]).length) 65536) (bc nb true (bc nb false true)) false) false) (.at (sA t l s m p a (b++[p.getD i.toNat 0]) na (bc nb true (Nat.blt 0 ([p.getD i.toNat 0]).length)) (IntKind.i64.wrap (i+1)))) .bad) .bad) .bad) (.at (sA t l s m p a b na nb (IntKind.i64.wrap (i+1))))) .bad) .bad) (.at (sA t l s m p a b na nb (IntKind.i64.wrap (i+1)))))) (bc (bc (bc (Nat.beq a.length a.length) true false) (decide (In64 l∧a.length≤3000)) false) (bc (bc (bc (Nat.beq b.length b.length) true false) (decide (In64 l∧b.length≤3000)) false) (bc (decide (In64 l)) (bc (decide (In64 l)) (bc (withE t l a != 0) (.done (bv false) [] 0) (bc (withE t l b != 0) (.done (bv false) [] 0) (bc (chkL t l != 0) (.done (bv false) [] 0) (bc (chkL t l != 0) (.done (bv false) [] 0) (bc (decide (Int.ofNat (bc (withE t l b != 0) [] (gF l (tgA l) (PinO b))).length<Int.ofNat (bc (withE t l a != 0) [] (gF l (tgA l) (PinO a))).length)) (.done (bv false) [] 0) (bc (decide (Int.ofNat (bc (chkL t l != 0) [] (gF l (tgA l) fun x=>true)).length<Int.ofNat (bc (withE t l b != 0) [] (gF l (tgA l) (PinO b))).length)) (.done (bv false) [] 0) (bc (bc (decide (InsOk l (bc (chkL t l != 0) [] (ofNs (idxB (tgA l)))))) true false) (bc (bc (decide (InsOk l (bc (chkL t l != 0) [] (gF l (tgA l) fun x=>true)))) true false) (bc (decide (In64 l)) (bc (bc (decide (In64 l)) true false) (bc (chkL t l != 0) (.done (bv false) [] 0) (bc (chkL t l != 0) (.done (bv false) [] 0) (bc (!accB t l==(Int.ofNat (bc (chkL t l != 0) [] (gF l (tgA l) fun x=>true)).length==0)) (.done (bv false) [] 0) (bc (accB t l) (bc (decide (0<Int.ofNat (bc (chkL t l != 0) [] (ofNs (keyI l l.length))).length)) (.done (bv false) [] 0) (bc (decide (l.length≤3000)) (bc (decide (12<t)) (.done (bv true) [] 0) (bc (decide (60<Int.ofNat (List.filter (fun x=>!isPn x) l).length)) (.done (bv true) [] 0) (.at (sO t l (bc (chkL t l != 0) [] (gF l (tgA l) fun x=>true)) (bc (chkL t l != 0) [] (ofNs (idxB (tgA l)))) (List.filter (fun x=>!isPn x) l) [] false 0 0)))) .bad)) (bc (decide (l.length≤3000)) (bc (decide (12<t)) (.done (bv true) [] 0) (bc (decide (60<Int.ofNat (List.filter (fun x=>!isPn x) l).length)) (.done (bv true) [] 0) (.at (sO t l (bc (chkL t l != 0) [] (gF l (tgA l) fun x=>true)) (bc (chkL t l != 0) [] (ofNs (idxB (tgA l)))) (List.filter (fun x=>!isPn x) l) [] false 0 0)))) .bad))))) .bad) .bad) .bad) .bad))))))) .bad) .bad) .bad) .bad)):=by kernel_rfl
theorem o_t (t:Int) (l z d w g:List Int) (nn:Bool) (k i:Int):RUN (stOf (sO t l z d w g nn k i))=(bc (decide (i<Int.ofNat d.length)) (.at (sI t l z d w g nn k i)) (bc (bc (bc (bc (Nat.beq g.length g.length) true false) (decide True) false) true false) (bc (samE t w g==0) (bc (samB t w g) (.done (bv true) [] 0) (.done (bv false) [] 0)) (.done (bv false) [] 0)) .bad)):=by kernel_rfl
theorem i_t (t:Int) (l z d w g:List Int) (nn:Bool) (k i:Int):RUN (stOf (sI t l z d w g nn k i))=(bc (decide (k<Int.ofNat z.length)) (bc (bc (bc (eqB (decide (k<Int.ofNat z.length)) true) (bc (bc (bc (decide (0≤k)) (Nat.blt k.toNat z.length) false) true false) (bc (bc (Nat.blt k.toNat z.length) true false) (bc (bc (bc (decide (0≤i)) (Nat.blt i.toNat d.length) false) true false) (bc (bc (Nat.blt i.toNat d.length) true false) true false) false) false) false) false) true false) (bc (decide (z.getD k.toNat 0<d.getD i.toNat 0)) (.at (sI t l z d w g nn (IntKind.i64.wrap (k+1)) i)) (bc (k==Int.ofNat z.length) (bc (bc (bc (eqB (k==Int.ofNat z.length) true) (bc (bc (bc (decide (0≤i)) (Nat.blt i.toNat d.length) false) true false) (bc (bc (Nat.blt i.toNat d.length) true false) (bc (bc (bc (decide (0≤d.getD i.toNat 0)) (Nat.blt (d.getD i.toNat 0).toNat l.length) false) true false) (bc (bc (Nat.blt (d.getD i.toNat 0).toNat l.length) true false) true false) false) false) false) false) true false) (bc (!isPn (l.getD (d.getD i.toNat 0).toNat 0)) (bc (bc (bc (bc (bc (decide (0≤i)) (Nat.blt i.toNat d.length) false) true false) (bc (bc (Nat.blt i.toNat d.length) true false) (bc (bc (bc (decide (0≤d.getD i.toNat 0)) (Nat.blt (d.getD i.toNat 0).toNat l.length) false) true false) (bc (bc (Nat.blt (d.getD i.toNat 0).toNat l.length) true false) (bc (bc (Nat.beq g.length g.length) (bc (Nat.ble (g.length+([l.getD (d.getD i.toNat 0).toNat 0]).length) 65536) (bc nn true (bc nn false true)) false) false) true false) false) false) false) false) true false) (.at (sO t l z d w (g++[l.getD (d.getD i.toNat 0).toNat 0]) (bc nn true (Nat.blt 0 ([l.getD (d.getD i.toNat 0).toNat 0]).length)) k (IntKind.i64.wrap (i+1)))) .bad) (.at (sO t l z d w g nn k (IntKind.i64.wrap (i+1))))) .bad) (bc (z.getD k.toNat 0 != d.getD i.toNat 0) (bc (bc (bc (eqB (k==Int.ofNat z.length) false) (bc (bc (bc (decide (0≤k)) (Nat.blt k.toNat z.length) false) true false) (bc (bc (Nat.blt k.toNat z.length) true false) (bc (bc (bc (decide (0≤i)) (Nat.blt i.toNat d.length) false) true false) (bc (bc (Nat.blt i.toNat d.length) true false) (bc (eqB (z.getD k.toNat 0 != d.getD i.toNat 0) true) (bc (bc (bc (decide (0≤i)) (Nat.blt i.toNat d.length) false) true false) (bc (bc (Nat.blt i.toNat d.length) true false) (bc (bc (bc (decide (0≤d.getD i.toNat 0)) (Nat.blt (d.getD i.toNat 0).toNat l.length) false) true false) (bc (bc (Nat.blt (d.getD i.toNat 0).toNat l.length) true false) true false) false) false) false) false) false) false) false) false) false) true false) (bc (!isPn (l.getD (d.getD i.toNat 0).toNat 0)) (bc (bc (bc (bc (bc (decide (0≤i)) (Nat.blt i.toNat d.length) false) true false) (bc (bc (Nat.blt i.toNat d.length) true false) (bc (bc (bc (decide (0≤d.getD i.toNat 0)) (Nat.blt (d.getD i.toNat 0).toNat l.length) false) true false) (bc (bc (Nat.blt (d.getD i.toNat 0).toNat l.length) true false) (bc (bc (Nat.beq g.length g.length) (bc (Nat.ble (g.length+([l.getD (d.getD i.toNat 0).toNat 0]).length) 65536) (bc nn true (bc nn false true)) false) false) true false) false) false) false) false) true false) (.at (sO t l z d w (g++[l.getD (d.getD i.toNat 0).toNat 0]) (bc nn true (Nat.blt 0 ([l.getD (d.getD i.toNat 0).toNat 0]).length)) k (IntKind.i64.wrap (i+1)))) .bad) (.at (sO t l z d w g nn k (IntKind.i64.wrap (i+1))))) .bad) (bc (bc (bc (eqB (k==Int.ofNat z.length) false) (bc (bc (bc (decide (0≤k)) (Nat.blt k.toNat z.length) false) true false) (bc (bc (Nat.blt k.toNat z.length) true false) (bc (bc (bc (decide (0≤i)) (Nat.blt i.toNat d.length) false) true false) (bc (bc (Nat.blt i.toNat d.length) true false) (bc (eqB (z.getD k.toNat 0 != d.getD i.toNat 0) false) true false) false) false) false) false) false) true false) (.at (sO t l z d w g nn k (IntKind.i64.wrap (i+1)))) .bad)))) .bad) (bc (bc (bc (eqB (decide (k<Int.ofNat z.length)) false) true false) true false) (bc (k==Int.ofNat z.length) (bc (bc (bc (eqB (k==Int.ofNat z.length) true) (bc (bc (bc (decide (0≤i)) (Nat.blt i.toNat d.length) false) true false) (bc (bc (Nat.blt i.toNat d.length) true false) (bc (bc (bc (decide (0≤d.getD i.toNat 0)) (Nat.blt (d.getD i.toNat 0).toNat l.length) false) true false) (bc (bc (Nat.blt (d.getD i.toNat 0).toNat l.length) true false) true false) false) false) false) false) true false) (bc (!isPn (l.getD (d.getD i.toNat 0).toNat 0)) (bc (bc (bc (bc (bc (decide (0≤i)) (Nat.blt i.toNat d.length) false) true false) (bc (bc (Nat.blt i.toNat d.length) true false) (bc (bc (bc (decide (0≤d.getD i.toNat 0)) (Nat.blt (d.getD i.toNat 0).toNat l.length) false) true false) (bc (bc (Nat.blt (d.getD i.toNat 0).toNat l.length) true false) (bc (bc (Nat.beq g.length g.length) (bc (Nat.ble (g.length+([l.getD (d.getD i.toNat 0).toNat 0]).length) 65536) (bc nn true (bc nn false true)) false) false) true false) false) false) false) false) true false) (.at (sO t l z d w (g++[l.getD (d.getD i.toNat 0).toNat 0]) (bc nn true (Nat.blt 0 ([l.getD (d.getD i.toNat 0).toNat 0]).length)) k (IntKind.i64.wrap (i+1)))) .bad) (.at (sO t l z d w g nn k (IntKind.i64.wrap (i+1))))) .bad) (bc (z.getD k.toNat 0 != d.getD i.toNat 0) (bc (bc (bc (eqB (k==Int.ofNat z.length) false) (bc (bc (bc (decide (0≤k)) (Nat.blt k.toNat z.length) false) true false) (bc (bc (Nat.blt k.toNat z.length) true false) (bc (bc (bc (decide (0≤i)) (Nat.blt i.toNat d.length) false) true false) (bc (bc (Nat.blt i.toNat d.length) true false) (bc (eqB (z.getD k.toNat 0 != d.getD i.toNat 0) true) (bc (bc (bc (decide (0≤i)) (Nat.blt i.toNat d.length) false) true false) (bc (bc (Nat.blt i.toNat d.length) true false) (bc (bc (bc (decide (0≤d.getD i.toNat 0)) (Nat.blt (d.getD i.toNat 0).toNat l.length) false) true false) (bc (bc (Nat.blt (d.getD i.toNat 0).toNat l.length) true false) true false) false) false) false) false) false) false) false) false) false) true false) (bc (!isPn (l.getD (d.getD i.toNat 0).toNat 0)) (bc (bc (bc (bc (bc (decide (0≤i)) (Nat.blt i.toNat d.length) false) true false) (bc (bc (Nat.blt i.toNat d.length) true false) (bc (bc (bc (decide (0≤d.getD i.toNat 0)) (Nat.blt (d.getD i.toNat 0).toNat l.length) false) true false) (bc (bc (Nat.blt (d.getD i.toNat 0).toNat l.length) true false) (bc (bc (Nat.beq g.length g.length) (bc (Nat.ble (g.length+([l.getD (d.getD i.toNat 0).toNat 0]).length) 65536) (bc nn true (bc nn false true)) false) false) true false) false) false) false) false) true false) (.at (sO t l z d w (g++[l.getD (d.getD i.toNat 0).toNat 0]) (bc nn true (Nat.blt 0 ([l.getD (d.getD i.toNat 0).toNat 0]).length)) k (IntKind.i64.wrap (i+1)))) .bad) (.at (sO t l z d w g nn k (IntKind.i64.wrap (i+1))))) .bad) (bc (bc (bc (eqB (k==Int.ofNat z.length) false) (bc (bc (bc (decide (0≤k)) (Nat.blt k.toNat z.length) false) true false) (bc (bc (Nat.blt k.toNat z.length) true false) (bc (bc (bc (decide (0≤i)) (Nat.blt i.toNat d.length) false) true false) (bc (bc (Nat.blt i.toNat d.length) true false) (bc (eqB (z.getD k.toNat 0 != d.getD i.toNat 0) false) true false) false) false) false) false) false) true false) (.at (sO t l z d w g nn k (IntKind.i64.wrap (i+1)))) .bad))) .bad)):=by kernel_rfl
theorem oneM (x:Int):[x]=[x]:=rfl
def Inv (T Z:List Nat) (k i:Nat):Prop:=∀ j,j<k→∀ i',i≤i'→i'<T.length→Z.getD j 0<T.getD i' 0
theorem inner {t:Int} {l w:List Int} {T Z:List Nat} (hT:AscI l.length T) (hZ:AscI l.length Z) (hl:l.length≤2000) {i:Nat} (hi:i<T.length)
  (H:∀ (nn:Bool) (k:Nat),k≤Z.length→Inv T Z k (i+1)→EndZ 7 ctLm false (stOf (sO t l (ofNs Z) (ofNs T) w (ltsL l (lefF l T Z (i+1))) nn k (i+1:Nat))) (bv true) [] 0) :
  ∀ (m k:Nat) (nn:Bool),k+m=Z.length→Inv T Z k i→EndZ 7 ctLm false (stOf (sI t l (ofNs Z) (ofNs T) w (ltsL l (lefF l T Z i)) nn k i)) (bv true) [] 0:=by
 intro m;have hTl:=zfb hT;have hZl:=zfb hZ;have hlt:=hT.2 _ (List.getElem_mem hi);have hd:(ofNs T).getD i 0=((T[i]:Nat):Int):=by rw [zcx hi,zae hi]
 have hTi:T.getD i 0=T[i]:=zae hi;have hg:=zsh (l:=l) (Z:=Z) hi;have hgl:(ltsL l (lefF l T Z i)).length≤i:=by rw [zh0];exact zvp l T Z i
 have w4:∀ x:Nat,x≤2000→IntKind.wrap IntKind.i64 ((x:Int)+1)=((x+1:Nat):Int):=fun x hx=>by rw [zad _ (by omega) (by omega)];omega
 have w5:=w4 i (by omega);have en:∀ x:Nat,Int.toNat (x:Int)=x:=fun _=>rfl;have weak:∀ {k:Nat},Inv T Z k i→Inv T Z k (i+1):=fun h j hj i' h1 h2=>h j hj i' (by omega) h2
 induction m with
 | zero=>
  intro k nn hk hv;obtain rfl:k=Z.length:=by omega
  have h1:=i_t t l (ofNs Z) (ofNs T) w (ltsL l (lefF l T Z i)) nn Z.length i;have hn:decide (T[i]∈Z)=false:=decide_eq_false fun q=>by
   obtain ⟨j,hj,e⟩:=List.getElem_of_mem q;have:=hv j hj i (Nat.le_refl _) hi;rw [zae hj,hTi,e] at this;omega
  have w1:bc nn true (Nat.blt 0 (List.length [l.getD T[i] 0]))=true:=by cases nn <;> rfl
  have w2:bc nn true (bc nn false true)=true:=by cases nn <;> rfl
  rw [hn] at hg;rw [oneM,en,en,hd,en,w1,w2,w5,df (show ¬ ((Z.length:Nat):Int)<Int.ofNat (ofNs Z).length by rw [zai,ofn];omega),show (((Z.length:Nat):Int)==Int.ofNat (ofNs Z).length)=true by rw [zai,ofn];simp] at h1;simp only [zai] at h1
  cases c:isPn (l.getD T[i] 0) with
  | true=>
   rw [c,if_neg (by simp),List.append_nil] at hg;rw [c] at h1;simp (disch:=omega) only [yS,eqB,Bool.not_true] at h1;rw [← hg] at h1 ⊢;exact .at zce h1 (H nn Z.length (Nat.le_refl _) (weak hv))
  | false=>
   rw [c,if_pos (show (!false && !false)=true from rfl)] at hg
   have e:ltsL l (lefF l T Z i)++[l.getD T[i] 0]=ltsL l (lefF l T Z (i+1)):=by rw [hg,zca,zf6]
   rw [c,e] at h1;simp (disch:=omega) only [yS,eqB,Bool.not_false] at h1;exact .at zce h1 (H true Z.length (Nat.le_refl _) (weak hv))
 | succ m ih=>
  intro k nn hk hv;have hkZ:k<Z.length:=by omega
  have h1:=i_t t l (ofNs Z) (ofNs T) w (ltsL l (lefF l T Z i)) nn k i;have hz:(ofNs Z).getD k 0=((Z[k]:Nat):Int):=by rw [zcx hkZ,zae hkZ]
  have w1:bc nn true (Nat.blt 0 (List.length [l.getD T[i] 0]))=true:=by cases nn <;> rfl
  have w2:bc nn true (bc nn false true)=true:=by cases nn <;> rfl
  have w6:=w4 k (by omega);rw [oneM,en,en,hd,hz,en,w1,w2,w5,w6,dt (show ((k:Nat):Int)<Int.ofNat (ofNs Z).length by rw [zai,ofn];omega),show (((k:Nat):Int)==Int.ofNat (ofNs Z).length)=false by rw [zai,ofn];simp only [beq_eq_false_iff_ne,ne_eq];omega] at h1;simp only [zai] at h1
  by_cases c1:Z[k]<T[i]
  ·rw [dt (show ((Z[k]:Nat):Int)<((T[i]:Nat):Int) by omega)] at h1;simp (disch:=omega) only [yS,eqB] at h1;refine .at zce h1 (ih (k+1) nn (by omega) fun j hj i' h2 h3=>?_);rcases Nat.lt_or_ge j k with h4|h4
   ·exact hv j h4 i' h2 h3
   ·obtain rfl:j=k:=by omega
    rw [zae hkZ,zae h3];rcases Nat.lt_or_ge i i' with h5|h5
    ·have:=List.pairwise_iff_getElem.1 hT.1 i i' hi h3 h5;omega
    ·obtain rfl:i'=i:=by omega
     exact c1
  ·rw [df (show ¬ ((Z[k]:Nat):Int)<((T[i]:Nat):Int) by omega)] at h1
   by_cases c2:Z[k]=T[i]
   ·have hn:decide (T[i]∈Z)=true:=decide_eq_true (by rw [← c2];exact List.getElem_mem hkZ);rw [hn,if_neg (by simp),List.append_nil] at hg;rw [show (((Z[k]:Nat):Int) != ((T[i]:Nat):Int))=false by rw [c2];exact bne_self_eq_false _] at h1
    simp (disch:=omega) only [yS,eqB] at h1;rw [← hg] at h1 ⊢;exact .at zce h1 (H nn k (by omega) (weak hv))
   ·have hn:decide (T[i]∈Z)=false:=decide_eq_false fun q=>by
     obtain ⟨j,hj,e⟩:=List.getElem_of_mem q;rcases Nat.lt_or_ge j k with h4|h4
     ·have:=hv j h4 i (Nat.le_refl _) hi;rw [zae hj,hTi,e] at this;omega
     ·rcases Nat.lt_or_ge k j with h5|h5
      ·have:=List.pairwise_iff_getElem.1 hZ.1 k j hkZ hj h5;omega
      ·obtain rfl:j=k:=by omega
       exact c2 e
    rw [hn] at hg;rw [show (((Z[k]:Nat):Int) != ((T[i]:Nat):Int))=true by simp only [bne_iff_ne,ne_eq];omega] at h1
    cases c:isPn (l.getD T[i] 0) with
    | true=>
     rw [c,if_neg (by simp),List.append_nil] at hg;rw [c] at h1;simp (disch:=omega) only [yS,eqB,Bool.not_true] at h1;rw [← hg] at h1 ⊢;exact .at zce h1 (H nn k (by omega) (weak hv))
    | false=>
     rw [c,if_pos (show (!false && !false)=true from rfl)] at hg
     have e:ltsL l (lefF l T Z i)++[l.getD T[i] 0]=ltsL l (lefF l T Z (i+1)):=by rw [hg,zca,zf6]
     rw [c,e] at h1;simp (disch:=omega) only [yS,eqB,Bool.not_false] at h1;exact .at zce h1 (H true k (by omega) (weak hv))
theorem outer {t:Int} {l w:List Int} {T Z:List Nat} (hT:AscI l.length T) (hZ:AscI l.length Z) (hl:l.length≤2000) (hw:samE t w (ltsL l (lefF l T Z T.length))=0∧samB t w (ltsL l (lefF l T Z T.length))=true):∀ (m i k:Nat) (nn:Bool),i+m=T.length→k≤Z.length→Inv T Z k i→EndZ 7 ctLm false (stOf (sO t l (ofNs Z) (ofNs T) w (ltsL l (lefF l T Z i)) nn k i)) (bv true) [] 0
 | 0,i,k,nn,h,hk,hv=>by
  obtain rfl:i=T.length:=by omega
  have h1:=o_t t l (ofNs Z) (ofNs T) w (ltsL l (lefF l T Z T.length)) nn k T.length;rw [df (show ¬ ((T.length:Nat):Int)<Int.ofNat (ofNs T).length by rw [zai,ofn];omega),bc_f,hw.1,hw.2] at h1;simp (disch:=omega) only [yS,beq_self_eq_true] at h1;exact .done h1
 | m+1,i,k,nn,h,hk,hv=>by
  have h1:=o_t t l (ofNs Z) (ofNs T) w (ltsL l (lefF l T Z i)) nn k i;rw [dt (show ((i:Nat):Int)<Int.ofNat (ofNs T).length by rw [zai,ofn];omega),bc_t] at h1;exact .at zce h1 (inner hT hZ hl (by omega) (fun nn' k' h2 h3=>outer hT hZ hl hw m (i+1) k' nn' (by omega) h2 h3) (Z.length-k) k nn (by omega) hv)
end ALm
end Go.Proofs.Ytooimphimnagaaa.Ev

namespace Go.Proofs.Ytooimphimnagaaa.Ev
theorem zv5 {u:U} (h:UFit (.int .i64) u):∃ n,u = .i n ∧ -9223372036854775808≤n∧n≤9223372036854775807:=by
 cases h with
 | int k n h=>
  refine ⟨n,rfl,?_⟩;have h1:IntKind.i64.min≤n∧n≤IntKind.i64.max:=by simpa [Lit.wf] using h
  have e1:IntKind.i64.min = -9223372036854775808:=rfl;have e2:IntKind.i64.max=9223372036854775807:=rfl;omega
theorem zsp {l:List (List U)} (h:UFit (.list [.int .i64]) (.l l)):In64 (l.map fun r=>(r.headD (.i 0)).int):=by
 cases h with
 | list sh l hl hr hf=>
  intro j hj;rw [List.length_map] at hj;rw [zae (by rw [List.length_map];exact hj),List.getElem_map];have h1:=hf j 0 _ hj rfl;rw [zae (d:=[]) hj] at h1;obtain ⟨n,e,h2⟩:=zv5 h1;rw [zdp,e];exact h2
namespace ALm
def fS (s:List Bool) (j:Nat):Bool:=s.getD j false
def gS (s m:List Bool) (j:Nat):Bool:=s.getD j false || m.getD j false
theorem zej {s:List Bool} {i:Nat} (h:¬ i<s.length):s.getD i false=false:=by
 rw [List.getD_eq_getElem?_getD,List.getElem?_eq_none (by omega)];rfl
theorem stA {t:Int} {l:List Int} {s m:List Bool} {P:List Nat} {i:Nat} {na nb:Bool} (hi:i<P.length) (hP:P.length≤2000):∃ na' nb',RUN (stOf (sA t l s m (ofNs P) (ofNs (selP P (fS s) i)) (ofNs (selP P (gS s m) i)) na nb i)) = .at (sA t l s m (ofNs P) (ofNs (selP P (fS s) (i+1))) (ofNs (selP P (gS s m) (i+1))) na' nb' (i+1:Nat)):=by
 have h1:=a_t t l s m (ofNs P) (ofNs (selP P (fS s) i)) (ofNs (selP P (gS s m) i)) na nb i;have lf:=zfh P (fS s) i;have lg:=zfh P (gS s m) i;have w5:IntKind.wrap IntKind.i64 ((i:Int)+1)=((i+1:Nat):Int):=by rw [zad _ (by omega) (by omega)];omega
 have e0:Int.toNat (i:Int)=i:=rfl;have w1:bc na true (bc na false true)=true:=by cases na <;> rfl
 have w2:bc nb true (bc nb false true)=true:=by cases nb <;> rfl
 have f1:∀ {f:Nat→Bool},f i=true→ofNs (selP P f i)++[((P.getD i 0:Nat):Int)]=ofNs (selP P f (i+1)):=fun {f} h=>by
  rw [zi0,h,if_pos rfl,zch];rfl
 have f0:∀ {f:Nat→Bool},f i=false→ofNs (selP P f i)=ofNs (selP P f (i+1)):=fun {f} h=>by
  rw [zi0,h,if_neg (by simp),List.append_nil]
 rw [oneM,e0,zcx hi,w5,w1,w2] at h1;simp only [zai] at h1
 by_cases c1:i<s.length
 ·cases c2:s.getD i false with
  | true=>
   have q1:fS s i=true:=c2;have q2:gS s m i=true:=by unfold gS;rw [c2];rfl
   rw [c2] at h1;simp (disch:=omega) only [yS] at h1;rw [← f1 q1,← f1 q2];exact ⟨_,_,h1⟩
  | false=>
   have q1:fS s i=false:=c2;rw [c2] at h1
   by_cases c3:i<m.length
   ·cases c4:m.getD i false with
    | true=>
     have q2:gS s m i=true:=by unfold gS;rw [c2,c4];rfl
     rw [c4] at h1;simp (disch:=omega) only [yS] at h1;rw [← f0 q1,← f1 q2];exact ⟨_,_,h1⟩
    | false=>
     have q2:gS s m i=false:=by unfold gS;rw [c2,c4];rfl
     rw [c4] at h1;simp (disch:=omega) only [yS] at h1;rw [← f0 q1,← f0 q2];exact ⟨_,_,h1⟩
   ·have q2:gS s m i=false:=by unfold gS;rw [c2,zej c3];rfl
    simp (disch:=omega) only [yS] at h1;rw [← f0 q1,← f0 q2];exact ⟨_,_,h1⟩
 ·have q1:fS s i=false:=zej c1
  by_cases c3:i<m.length
  ·cases c4:m.getD i false with
   | true=>
    have q2:gS s m i=true:=by unfold gS;rw [c4,Bool.or_true]
    rw [c4] at h1;simp (disch:=omega) only [yS] at h1;rw [← f0 q1,← f1 q2];exact ⟨_,_,h1⟩
   | false=>
    have q2:gS s m i=false:=by unfold gS;rw [zej c1,c4];rfl
    rw [c4] at h1;simp (disch:=omega) only [yS] at h1;rw [← f0 q1,← f0 q2];exact ⟨_,_,h1⟩
  ·have q2:gS s m i=false:=by unfold gS;rw [zej c1,zej c3];rfl
   simp (disch:=omega) only [yS] at h1;rw [← f0 q1,← f0 q2];exact ⟨_,_,h1⟩
theorem zo9 (l:List Int):AscI l.length (RPns.pinI l l.length):=(zdb l.length).sub _
theorem lastA {t:Int} {l:List Int} {s m:List Bool} {na nb:Bool} (hx:In64 l) (z:chkL t l=0) (hl:l.length≤100):EndZ 7 ctLm false (stOf (sA t l s m (ofNs (RPns.pinI l l.length)) (ofNs (selP (RPns.pinI l l.length) (fS s) (RPns.pinI l l.length).length)) (ofNs (selP (RPns.pinI l l.length) (gS s m) (RPns.pinI l l.length).length)) na nb (RPns.pinI l l.length).length)) (bv true) [] 0:=by
 have hP:=zo9 l;have hPl:=zfb hP;have hs:∀ j,-1000≤l.getD j 0:=PKys.let_hs (ze9 z).2.2;have h1:=a_t t l s m (ofNs (RPns.pinI l l.length)) (ofNs (selP (RPns.pinI l l.length) (fS s) (RPns.pinI l l.length).length)) (ofNs (selP (RPns.pinI l l.length) (gS s m) (RPns.pinI l l.length).length)) na nb (RPns.pinI l l.length).length;have lf:=zfh (RPns.pinI l l.length) (fS s) (RPns.pinI l l.length).length;have lg:=zfh (RPns.pinI l l.length) (gS s m) (RPns.pinI l l.length).length
 have hpin:∀ f:Nat→Bool,∀ q,q∈selP (RPns.pinI l l.length) f (RPns.pinI l l.length).length→isPn (l.getD q 0)=true:=fun f q h=>by
  obtain ⟨j,h2,_,e⟩:=zfg.1 h;rw [← e,zae h2];exact (List.mem_filter.1 (List.getElem_mem h2)).2
 have hwE:∀ f:Nat→Bool,withE t l (ofNs (selP (RPns.pinI l l.length) f (RPns.pinI l l.length).length))=0:=fun f=>by
  unfold withE;rw [z,show ((0:Int) != 0)=false from rfl,bc_f,zuu (zr0 hP f) (hpin f),bc_t]
 obtain ⟨g1,g2⟩:=zvt (l:=l) (P:=RPns.pinI l l.length) (f:=fS s) (g:=gS s m) hs fun j h=>by unfold gS;rw [show s.getD j false=true from h];rfl
 have hT:=zd5 l;have hZ:=zvw l fun _=>true;have hacc:accB t l=(Int.ofNat (goT l fun _=>true).length==0):=by
  unfold accB;rw [z];rfl
 have i1:InsOk l (ofNs (tigT l)):=⟨⟨_,rfl,hT⟩,by omega⟩;have i2:InsOk l (ofNs (goT l fun _=>true)):=⟨⟨_,rfl,hZ⟩,by omega⟩;rw [df (show ¬ (((RPns.pinI l l.length).length:Nat):Int)<Int.ofNat (ofNs (RPns.pinI l l.length)).length by rw [zai,ofn];omega),bc_f,hwE,hwE,z,zgz,zgz,zgz,zux,dt hx,hacc] at h1;simp only [show ((0:Int) != 0)=false from rfl,bc_f,bc_t,zai] at h1
 rw [dt (show In64 l∧(selP (RPns.pinI l l.length) (fS s) (RPns.pinI l l.length).length).length≤3000 from ⟨hx,by omega⟩),dt (show In64 l∧(selP (RPns.pinI l l.length) (gS s m) (RPns.pinI l l.length).length).length≤3000 from ⟨hx,by omega⟩),dt i1,dt i2,df (show ¬ Int.ofNat (goT l (PinO (ofNs (selP (RPns.pinI l l.length) (gS s m) (RPns.pinI l l.length).length)))).length<Int.ofNat (goT l (PinO (ofNs (selP (RPns.pinI l l.length) (fS s) (RPns.pinI l l.length).length)))).length by rw [ofn,ofn];omega),df (show ¬ Int.ofNat (goT l fun _=>true).length<Int.ofNat (goT l (PinO (ofNs (selP (RPns.pinI l l.length) (gS s m) (RPns.pinI l l.length).length)))).length by rw [ofn,ofn];omega),dt (show l.length≤3000 by omega),beq_self_eq_true] at h1
 simp (disch:=omega) only [yS,Bool.not_true] at h1;have hk:(((goT l fun _=>true).length:Int)==0)=true→¬ (0:Int)<((keyI l l.length).length:Int):=fun h=>by
  have:goT l (fun _=>true)=[]:=List.eq_nil_of_length_eq_zero (by have:=of_decide_eq_true h;omega);rw [zje hs this];decide
 have key:∀ X:ZF,bc (((goT l fun _=>true).length:Int)==0) (bc (decide ((0:Int)<((keyI l l.length).length:Int))) (.done (EV.v (Value.bool false)) [] 0) X) X=X:=fun X=>by
  cases c:(((goT l fun _=>true).length:Int)==0) with
  | false=>rfl
  | true=>rw [bc_t,df (hk c),bc_f]
 rw [key] at h1
 by_cases c1:12<t
 ·rw [dt c1,bc_t] at h1;exact .done h1
 rw [df c1,bc_f] at h1
 by_cases c2:(60:Int)<((l.filter fun x=>!isPn x).length:Int)
 ·rw [dt c2,bc_t] at h1;exact .done h1
 rw [df c2,bc_f] at h1;refine .at zce h1 (outer (T:=tigT l) (Z:=goT l fun _=>true) hT hZ (by omega) ?_ (tigT l).length 0 0 false (by omega) (Nat.zero_le _) fun j hj=>absurd hj (Nat.not_lt_zero j));rw [zvq hs];exact zsi z (by omega) hl
theorem loopA {t:Int} {l:List Int} {s m:List Bool} (hx:In64 l) (z:chkL t l=0) (hl:l.length≤100):∀ (k i:Nat) (na nb:Bool),i+k=(RPns.pinI l l.length).length→EndZ 7 ctLm false (stOf (sA t l s m (ofNs (RPns.pinI l l.length)) (ofNs (selP (RPns.pinI l l.length) (fS s) i)) (ofNs (selP (RPns.pinI l l.length) (gS s m) i)) na nb i)) (bv true) [] 0
 | 0,i,na,nb,h=>by
  obtain rfl:i=(RPns.pinI l l.length).length:=by omega
  exact lastA hx z hl
 | k+1,i,na,nb,h=>by
  obtain ⟨na',nb',h1⟩:=stA (t:=t) (l:=l) (s:=s) (m:=m) (na:=na) (nb:=nb) (show i<(RPns.pinI l l.length).length by omega) (by have:=zfb (zo9 l);omega);exact .at zce h1 (loopA hx z hl k (i+1) na' nb' (by omega))
theorem ends {t:Int} {l:List Int} {s m:List Bool} (hx:In64 l):EndZ 7 ctLm false (st0 7 [hE t l,blL s,blL m]) (bv true) [] 0:=by
 have h:=in_t t l s m
 by_cases z:chkL t l=0
 ·rw [z,show ((0:Int) != 0)=false from rfl,bc_f] at h
  by_cases c:(100:Int)<Int.ofNat l.length
  ·rw [dt c,bc_t] at h;exact .done h
  ·have hl:l.length≤100:=by rw [ofn] at c;omega
   rw [df c,bc_f,dt (show l.length≤3000 by omega),bc_t] at h;exact .at zce h (loopA hx z hl (RPns.pinI l l.length).length 0 false false (by omega))
 ·rw [show (chkL t l != 0)=true by simp [z],bc_t] at h;exact .done h
end ALm
theorem looseMore_calls {γ:G} {w:World} {us:Array Value} (ra:List U) (wa:RowFit [.int .i64,.list [.int .i64]] ra) (b:List (List U)) (wb:UFit (.list [.bool]) (.l b)) (c:List (List U)) (wc:UFit (.list [.bool]) (.l c))
  (hax:ECL γ [.agg (recE [.int .i64,.list [.int .i64]] ra),.lst (mkC [.bool] b),.lst (mkC [.bool] c)] us.toList) (hN:∀ i,γ i=none) (hfz:FzAt γ w):Calls Try.prog 7 us w fun e w'=>e = .returned (.bool true)∧Stays w w':=by
 have h1:=wa.fit 1 _ rfl;have hlen:=wa.len
 match ra,hlen with
 | [x,y],_=>
  have h1:UFit (.list [.int .i64]) y:=h1
  cases h1 with
  | list sh l hl hr hf=>
   exact zxk ((ALm.ends (t:=U.int x) (zsp (.list _ l hl hr hf))).calls zce (by kernel_rfl) hax hN hfz)
end Go.Proofs.Ytooimphimnagaaa.Ev
namespace Go.Proofs.Ytooimphimnagaaa
open Go.ChangeShapes Go.WideShapes Go.ChangeAt Go.RowKit Go.ChangeMaps
theorem knobLooseMore:ownKnob Try.prog.godebug=none:=by kernel_rfl
theorem kidsLooseMore:Kids Try.prog (· < Try.prog.types.size):=kids_rows (by kernel_rfl) (by kernel_rfl)
theorem fullLooseMore:∀ t e,t<Try.prog.types.size→Try.prog.underlying t=some (.slice e)→0<Try.prog.cellsOf e:=slices_full_of Try.prog (by kernel_rfl)
set_option maxRecDepth 100000 in
theorem liftedLooseMore (os:Os) (started:os.Started) (H:Type) (enc:TypeId×Value→H) :
  ReturnsInHanded {} Try.checked os 7 .any (Rows.looseMoreSpec.pre6 enc Try.prog Try.f7 Rows.looseMoreRow.domain false) (Rows.looseMoreSpec.post enc Try.prog Try.f7 false true false false):=by
 refine returnsInHanded_of_change (C:=Try.checked) knobLooseMore started (by kernel_rfl) Try.func7
  (ChangeSpec.witness6 (enc:=enc) (C:=Try.checked) false ⟨#[],#[.agg #[.int .i64 0,.slice none 0 0],.slice none 0 0,.slice none 0 0],[]⟩ 8 (by kernel_rfl) (by kernel_rfl) (by kernel_rfl) (by kernel_rfl)) ?_
 intro W base args ds gs before hval0 hW hcnd _;have hval:∀ (j:Nat) t v,Try.f7.params[j]? = some t→args[j]? = some v→Value.okWide Try.prog W .any base t v:=hval0;have hW':=hW;obtain ⟨p,q,hA0,hV,rfl,hfz,hnd⟩:=hW;have hA:DataW.TrodAll enc Try.prog W 0 (fun _=>true) true Try.f7.params.toList args.toList ds p:=hA0;have hAk:=hA;rw [Try.params7] at hA hval;obtain ⟨rfl,rfl⟩:=trodVars_none hV;obtain ⟨v0,v1,v2,d0,d1,d2,p0,p1,p2,rfl,rfl,rfl,h0,h1,h2⟩:=trodAll_three hA
 obtain ⟨r,wr,er⟩:=Ev.open_agg (k:=8) Try.underlying24 (by kernel_rfl:Ev.shB Try.prog 8 24=some [.int .i64,.list [.int .i64]]) (hval 0 24 v0 rfl rfl) h0;obtain ⟨b,wb,eb⟩:=Ev.open_lst (k:=8) Try.underlying45 (by kernel_rfl:Ev.shB Try.prog 8 45=some [.list [.bool]]) (hval 1 45 v1 rfl rfl) h1;obtain ⟨c,wc,ec⟩:=Ev.open_lst (k:=8) Try.underlying45 (by kernel_rfl:Ev.shB Try.prog 8 45=some [.list [.bool]]) (hval 2 45 v2 rfl rfl) h2;clear hA0 hval0
 refine (Ev.looseMore_calls r wr b wb c wc (γ:=Ev.gAll W) (.cons er (.cons eb (.cons ec (.nil _)))) (fun i=>rfl) (Ev.fzAll_at W)).mono fun e W' ⟨he,hg⟩=>?_;subst he;exact ⟨_,rfl,zr7 kidsLooseMore fullLooseMore Try.underlying4 (by kernel_rfl) (by kernel_rfl) rfl rfl (by rw [Try.params7];decide) hW' hAk hg (ok_one (by kernel_rfl) rfl (okWide_bool_mk Try.underlying4 _))⟩
theorem looseMore_holds:Rows.LooseMoreSaid:=
 OpenClaim.holds_of_wide 7 Try.f7 rfl rfl rfl rfl rfl rfl rfl ⟨rfl,rfl,rfl,rfl,rfl⟩ rfl rfl rfl rfl rfl (by kernel_rfl) Try.func7 (by kernel_rfl)
  (of_decide_eq_true (by kernel_rfl)) (by unfold Func.isWrapper;first|(rw [if_pos (by decide +kernel)];kernel_rfl)|(rw [if_neg (by decide +kernel)];exact ⟨rfl,rfl⟩))
  (fun os started H enc _=>liftedLooseMore os started H enc)
end Go.Proofs.Ytooimphimnagaaa
