/- Laid together: The works that agree, as the program finds them: matched. matched answers as the reference's agree does. slices.SortFunc, laid at this program by the kit's tool. slices.SortFunc of an owned sequence of pairs of numbers, by their first numbers, as a contract: first numbers below 65536, no two alike. A slot's value said otherwise. Agree, Wrong, First of the program. The pairs .. -/
import Derived.Shelf.SlSortCmp.NoneTotal
import Derived.Test.YtepiiaeiogdphaaProg
import Derived.Walk
import Derived.ProofKit
import Derived.ReadAgain
import Derived.OpenShut
import Derived.Test.YtepiiaeiogdphaaTTg5
set_option linter.unusedSimpArgs false
set_option linter.unusedVariables false
noncomputable section
namespace Go.Proofs.Ytepiiaeiogdphaa.Ev
noncomputable def spNoW:ZCT:=fun _=>none
theorem zrz:ZCtOk Try.prog 60003 spNoW:=fun _ _ _ _ _ h=>by cases h
noncomputable def ctMa:Tr ZCC:=(Tr.nil.put 36 (some (dC spPChk4))).put 60003 (some (dC spNoW))
theorem zb1:ZCtsOk Try.prog ctMa:=((ZCtsOk.nil _).add rfl zed).add rfl zrz
noncomputable abbrev spV (p c:Int):Value:=.agg #[.int .i64 p,.int .i64 c]
theorem zn7 {p c p' c':Int} (h:spV p c=spV p' c'):p=p'∧c=c':=by
 injection h with h
 have h:=congrArg Array.toList h;injection h with h1 h2
 injection h2 with h2 _
 injection h1 with _ h1
 injection h2 with _ h2
 exact ⟨h1,h2⟩
theorem zer {k k':Value} (h:k≠k'):∀ es:List (Value×Value),findW k (dropW k' es)=findW k es
 | []=>rfl
 | q::es=>by
  rw [zew,zcg,bc_eq,bc_eq]
  by_cases e:k'=q.1
  ·rw [if_pos (za8.2 e),if_neg (fun h2=>h ((za8.1 h2).trans e.symm)),zer h es]
  ·rw [if_neg (fun h2=>e (za8.1 h2)),zcg,bc_eq,zer h es]
theorem zpu (k k' x:Value) (es:List (Value×Value)):findW k (setW k' x es)=bc (eqW k k') (some x) (findW k es):=by
 show findW k ((k',x)::dropW k' es)=_;rw [zcg,bc_eq,bc_eq]
 by_cases e:k=k'
 ·rw [if_pos (za8.2 e),if_pos (za8.2 e)]
 ·rw [if_neg (fun h=>e (za8.1 h)),if_neg (fun h=>e (za8.1 h)),zer e]
theorem zel (P:Program) (kt:TypeId) (q:Value×Value) (es:List (Value×Value)):keysW P kt (q::es)=bc (keyW P kt q.1) (bc (intV q.2) (keysW P kt es) false) false:=rfl
theorem zek {P:Program} {kt:TypeId} {k:Value}:∀ {es:List (Value×Value)},keysW P kt es=true→keysW P kt (dropW k es)=true
 | [],h=>h
 | q::es,h=>by
  rw [zel] at h;obtain ⟨h1,h2⟩:=bcT h;obtain ⟨h2,h3⟩:=bcT h2;rw [zew,bc_eq];split
  ·exact zek h3
  ·rw [zel,h1,h2,bc_t,bc_t];exact zek h3
theorem zpe {P:Program} {kt:TypeId} {k x:Value} {es:List (Value×Value)} (h1:keyW P kt k=true) (h2:intV x=true) (h3:keysW P kt es=true):keysW P kt (setW k x es)=true:=by
 show keysW P kt ((k,x)::dropW k es)=true;rw [zel];show bc (keyW P kt k) (bc (intV x) (keysW P kt (dropW k es)) false) false=true;rw [h1,h2,bc_t,bc_t];exact zek h3
theorem wf64 {n:Int} (h1:-1000000≤n) (h2:n≤1000000):(Lit.int .i64 n).wf=true:=by
 unfold Lit.wf;have a:IntKind.min .i64 = -9223372036854775808:=by decide
 have b:IntKind.max .i64=9223372036854775807:=by decide
 simp [a,b];omega
theorem zsj {P:Program} {kt e:TypeId} (hu:P.underlying kt=some (.array 2 e)) (he:P.underlying e=some (.int .i64)) (h1:P.cellsOf e=1) (h2:P.cellsOf kt=2) (hk:P.keyType kt=true) (hs:∃ m,P.types.size=m+1) {p c:Int} (hp:(Lit.int .i64 p).wf=true) (hc:(Lit.int .i64 c).wf=true):keyW P kt (spV p c)=true:=by
 obtain ⟨m,hm⟩:=hs;unfold keyW keyOf;rw [hu];have hf:(spV p c).formed P kt=true:=by simp [Value.formed,hu,h2]
 simp only [hk,hf,Bool.and_self,if_true,hm];have hl:P.keyLits (m+1+1) kt [Value.int .i64 p,.int .i64 c]=some [.int .i64 p,.int .i64 c]:=by
  unfold Program.keyLits;rw [hu];simp [h2,h1,List.range,List.range.loop,Program.keyLits,he,hp,hc]
 show ((P.keyLits (m+1+1) kt [Value.int .i64 p,.int .i64 c]).map _).isSome=true;rw [hl];rfl
theorem zhv {p c:Int} (h1:-1000≤p) (h2:p≤1000) (h3:0≤c) (h4:c≤1000):keyW Try.prog 134 (spV p c)=true:=
 zsj (e:=3) (by kernel_rfl) (by kernel_rfl) (by kernel_rfl) (by kernel_rfl) (by kernel_rfl) ⟨Try.prog.types.size-1,by kernel_rfl⟩ (wf64 (by omega) (by omega)) (wf64 (by omega) (by omega))
structure MOk (es:List (Value×Value)) (F:Int→List Nat):Prop where
 keys:keysW Try.prog 134 es=true
 find:∀ (p:Int) (c:Nat),findW (spV p (c:Int)) es=((F p)[c]?).map fun i=>Value.int .i64 (i:Int)
theorem MOk.nil (F:Int→List Nat) (h:∀ p,F p=[]):MOk [] F:=⟨rfl,fun p c=>by rw [h p];rfl⟩
theorem MOk.has {es:List (Value×Value)} {F:Int→List Nat} (h:MOk es F) (p:Int) (c:Nat):hasW (spV p (c:Int)) es=((F p)[c]?).isSome:=by
 unfold hasW;rw [h.find];cases (F p)[c]? <;> rfl
theorem MOk.num {es:List (Value×Value)} {F:Int→List Nat} (h:MOk es F) (p:Int) (c:Nat):numW (spV p (c:Int)) es=((((F p)[c]?).getD 0:Nat):Int):=by
 unfold numW;rw [h.find];cases (F p)[c]? <;> rfl
theorem MOk.set {es:List (Value×Value)} {F G:Int→List Nat} (h:MOk es F) {q:Int} {i:Nat} (h1:-1000≤q) (h2:q≤1000) (h4:(F q).length≤1000) (hG:∀ p,G p=if p=q then F p++[i] else F p):MOk (setW (spV q ((F q).length:Int)) (.int .i64 (i:Int)) es) G:=by
 refine ⟨zpe (zhv h1 h2 (by omega) (by omega)) rfl h.keys,fun p c=>?_⟩;rw [zpu,bc_eq,hG]
 by_cases hp:p=q
 ·subst hp;rw [if_pos rfl]
  by_cases hc:c=(F p).length
  ·subst hc;rw [if_pos (za8.2 rfl),List.getElem?_append_right (Nat.le_refl _)];simp
  ·rw [if_neg (fun e=>hc (by have:=(zn7 (za8.1 e)).2;omega)),h.find]
   by_cases hlt:c<(F p).length
   ·rw [List.getElem?_append_left hlt]
   ·rw [List.getElem?_eq_none (by omega),List.getElem?_eq_none (by simp;omega)]
 ·rw [if_neg (fun e=>hp (zn7 (za8.1 e)).1),if_neg hp,h.find]
noncomputable def aOf (R:List (List U)) (i:Nat):Int:=rA (R.getD i [])
noncomputable def eOf (R M:List (List U)) (i k:Nat):Bool:=rowEq (R.getD i []) (M.getD k [])
theorem zqd {R M:List (List U)} (i k:Nat) (h:eOf R M i k=true):aOf R i=aOf M k:=by
 unfold eOf rowEq at h;obtain ⟨_,h⟩:=bcT h;obtain ⟨h,_⟩:=bcT h;exact beq_iff_eq.1 h
theorem zm0 (x y:List U):bc (rK x==rK y) (bc (rA x==rA y) (bc ((rW x).toList==(rW y).toList) true false) false) false=rowEq x y:=rfl
def Cn24 (c:List Int) (F:Int→List Nat):Prop:=c.length=24∧∀ p:Nat,p<24→c.getD p 0=((F (p:Int)).length:Int)
theorem Cn24.set {c:List Int} {F G:Int→List Nat} (h:Cn24 c F) {q i:Nat} (hG:∀ p:Int,G p=if p=(q:Int) then F p++[i] else F p) (hq:q<24):Cn24 (c.set q (((F (q:Int)).length:Int)+1)) G:=by
 refine ⟨by rw [List.length_set];exact h.1,fun p hp=>?_⟩;have hl:=h.1;rw [List.getD_eq_getElem?_getD,List.getElem?_set,hG]
 by_cases e:q=p
 ·subst e;rw [if_pos rfl,if_pos (by omega),if_pos rfl,List.length_append];simp
 ·rw [if_neg e,if_neg (by omega),← List.getD_eq_getElem?_getD,h.2 p hp]
def AtR (R:List (List U)):Prop:=∀ i,i<R.length→0≤aOf R i∧aOf R i≤22
namespace PMat
noncomputable def RUN (s:ES):ZF:=RZs 34 ctMa [(atS 0 34 12,[[(2,none),(3,none),(8,none),(9,none),(10,none),(41,none),(42,none),(43,none)]]),(atS 0 34 15,[[(2,none),(3,none),(8,none),(9,none),(10,none),(11,none),(12,none),(13,none),(41,none),(42,none),(43,none)]]),(atS 0 34 23,[[(2,none),(8,none),(10,none),(14,none),(15,none),(75,none),(76,none),(77,none)]]),(atS 0 34 29,[[(2,none),(8,none),(10,none),(14,none),(15,none),(16,none),(17,none),(18,none),(19,none),(20,none),(21,none),(22,none),(23,none),(75,none),(76,none),(77,none)]]),(atS 0 34 32,[[(2,none),(8,none),(10,none),(14,none),(15,none),(18,none),(19,none),(75,none),(76,none),(77,none)]])] [] false s
noncomputable abbrev args (n m:Int) (R M:List (List U)):List EV:=[.agg [iv n,wl R],.agg [iv m,wl M]]
noncomputable def sA (n m:Int) (R M:List (List U)) (es:List (Value×Value)) (c:List Int) (i:Int):NS:=⟨[⟨34,160,[(2,(EV.ptr 0 0)),(3,(EV.ptr 1 0)),(8,(EV.mp 2)),(9,(EV.ptr 3 0)),(10,(EV.ptr 4 0)),(41,(EV.lst (SyC.recs [(Sh.int IntKind.i64),(Sh.int IntKind.i64),Sh.str] R))),(42,(iv (Int.ofNat (List.length R)))),(43,iv i)],[.it (.code (nav [1,1,1,1,1,1,0,1,0,0] (bodyOf Try.f34))),.it (.inLoop (nav [1,1,1,1,1,1,0,1,0,0] (bodyOf Try.f34))),.it (.inBlock 0),.it (.code (nav [1,1,1,1,1,1,1] (bodyOf Try.f34)))],[],Option.none⟩],[(0,(EK.cells 24 [(iv n),(EV.lst (SyC.recs [(Sh.int IntKind.i64),(Sh.int IntKind.i64),Sh.str] R))] true)),(1,(EK.cells 24 [(iv m),(EV.lst (SyC.recs [(Sh.int IntKind.i64),(Sh.int IntKind.i64),Sh.str] M))] true)),(2,EK.mpo es),(3,EK.seq 133 (.ints .i64 c) true),(4,(EK.seq 133 (SyC.ints IntKind.i64 [(0),(0),(0),(0),(0),(0),(0),(0),(0),(0),(0),(0),(0),(0),(0),(0),(0),(0),(0),(0),(0),(0),(0),(0)]) true))],5⟩
noncomputable def sB (n m:Int) (R M:List (List U)) (es:List (Value×Value)) (c:List Int) (i p:Int):NS:=⟨[⟨34,160,[(2,(EV.ptr 0 0)),(3,(EV.ptr 1 0)),(8,(EV.mp 2)),(9,(EV.ptr 3 0)),(10,(EV.ptr 4 0)),(11,(iv i)),(12,(EV.ptr 5 0)),(13,iv p),(41,(EV.lst (SyC.recs [(Sh.int IntKind.i64),(Sh.int IntKind.i64),Sh.str] R))),(42,(iv (Int.ofNat (List.length R)))),(43,(iv i))],[.it (.code (nav [1,1,1,1,1,1,0,1,0,0,1,1,0,0,1,1,0,0,0] (bodyOf Try.f34))),.it (.code (nav [1,1,1,1,1,1,0,1,0,0,1,1,0,0,1,1,0,0,1] (bodyOf Try.f34))),.it (.inLoop (nav [1,1,1,1,1,1,0,1,0,0,1,1,0,0,1,1,0,0] (bodyOf Try.f34))),.it (.inBlock 2),.it (.inBlock 1),.it (.code (nav [1,1,1,1,1,1,0,1,0,0,1,1,1] (bodyOf Try.f34))),.it (.inLoop (nav [1,1,1,1,1,1,0,1,0,0] (bodyOf Try.f34))),.it (.inBlock 0),.it (.code (nav [1,1,1,1,1,1,1] (bodyOf Try.f34)))],[],Option.none⟩],[(0,(EK.cells 24 [(iv n),(EV.lst (SyC.recs [(Sh.int IntKind.i64),(Sh.int IntKind.i64),Sh.str] R))] true)),(1,(EK.cells 24 [(iv m),(EV.lst (SyC.recs [(Sh.int IntKind.i64),(Sh.int IntKind.i64),Sh.str] M))] true)),(2,(EK.mpo es)),(3,(EK.seq 133 (SyC.ints IntKind.i64 c) true)),(4,(EK.seq 133 (SyC.ints IntKind.i64 [(0),(0),(0),(0),(0),(0),(0),(0),(0),(0),(0),(0),(0),(0),(0),(0),(0),(0),(0),(0),(0),(0),(0),(0)]) true)),(5,(EK.cells 64 [(iv (U.int (List.getD (List.getD R (Int.toNat i) []) (0:Nat) (U.i (0:Int))))),(iv (U.int (List.getD (List.getD R (Int.toNat i) []) (Nat.succ (0:Nat)) (U.i (0:Int))))),(EV.v (Value.string (U.str (List.getD (List.getD R (Int.toNat i) []) (Nat.succ (Nat.succ (0:Nat))) (U.i (0:Int))))))] true))],6⟩
noncomputable def sC (n:Int) (R M:List (List U)) (es:List (Value×Value)) (s:List Int) (w:List Bool) (z:Nat) (q:List Int) (k:Int):NS:=⟨[⟨34,160,[(2,(EV.ptr 0 0)),(8,(EV.mp 1)),(10,(EV.ptr 2 0)),(14,(EV.ptr 3 0)),(15,EV.slO 4 1 z true),(75,(EV.lst (SyC.recs [(Sh.int IntKind.i64),(Sh.int IntKind.i64),Sh.str] M))),(76,(iv (Int.ofNat (List.length M)))),(77,iv k)],[.it (.code (nav [1,1,1,1,1,1,1,1,1,0,1,0,0] (bodyOf Try.f34))),.it (.inLoop (nav [1,1,1,1,1,1,1,1,1,0,1,0,0] (bodyOf Try.f34))),.it (.inBlock 4),.it (.code (nav [1,1,1,1,1,1,1,1,1,1] (bodyOf Try.f34)))],[],Option.none⟩],[(0,EK.cells 24 [iv n,wl R] true),(1,(EK.mpo es)),(2,EK.seq 133 (.ints .i64 s) true),(3,EK.seq 135 (.bools w) true),(4,EK.seq 3 (.ints .i64 q) true)],5⟩
noncomputable def sD (n:Int) (R M:List (List U)) (es:List (Value×Value)) (s:List Int) (w:List Bool) (z:Nat) (q:List Int) (k l r i j:Int) (b c:Bool):NS:=⟨[⟨34,160,[(2,(EV.ptr 0 0)),(8,(EV.mp 1)),(10,(EV.ptr 2 0)),(14,(EV.ptr 3 0)),(15,(EV.slO 4 1 z true)),(16,(iv k)),(17,(EV.ptr 5 0)),(18,iv l),(19,iv r),(20,iv i),(21,bv b),(22,iv j),(23,bv c),(75,(EV.lst (SyC.recs [(Sh.int IntKind.i64),(Sh.int IntKind.i64),Sh.str] M))),(76,(iv (Int.ofNat (List.length M)))),(77,(iv k))],[.it (.code (nav [1,1,1,1,1,1,1,1,1,0,1,0,0,1,1,0,0,1,1,1,1,1,0] (bodyOf Try.f34))),.it (.code (nav [1,1,1,1,1,1,1,1,1,0,1,0,0,1,1,0,0,1,1,1,1,1,1] (bodyOf Try.f34))),.it (.inBlock 5),.it (.code (nav [1,1,1,1,1,1,1,1,1,0,1,0,0,1,1,1] (bodyOf Try.f34))),.it (.inLoop (nav [1,1,1,1,1,1,1,1,1,0,1,0,0] (bodyOf Try.f34))),.it (.inBlock 4),.it (.code (nav [1,1,1,1,1,1,1,1,1,1] (bodyOf Try.f34)))],[],Option.none⟩],[(0,(EK.cells 24 [(iv n),(EV.lst (SyC.recs [(Sh.int IntKind.i64),(Sh.int IntKind.i64),Sh.str] R))] true)),(1,(EK.mpo es)),(2,(EK.seq 133 (SyC.ints IntKind.i64 s) true)),(3,(EK.seq 135 (SyC.bools w) true)),(4,EK.seq 3 (.ints .i64 q) true),(5,(EK.cells 64 [(iv (U.int (List.getD (List.getD M (Int.toNat k) []) (0:Nat) (U.i (0:Int))))),(iv (U.int (List.getD (List.getD M (Int.toNat k) []) (Nat.succ (0:Nat)) (U.i (0:Int))))),(EV.v (Value.string (U.str (List.getD (List.getD M (Int.toNat k) []) (Nat.succ (Nat.succ (0:Nat))) (U.i (0:Int))))))] true))],6⟩
noncomputable def sE (n:Int) (R M:List (List U)) (es:List (Value×Value)) (s:List Int) (w:List Bool) (z:Nat) (q:List Int) (k l r:Int):NS:=⟨[⟨34,160,[(2,(EV.ptr 0 0)),(8,(EV.mp 1)),(10,(EV.ptr 2 0)),(14,(EV.ptr 3 0)),(15,(EV.slO 4 1 z true)),(18,(iv l)),(19,(iv r)),(75,(EV.lst (SyC.recs [(Sh.int IntKind.i64),(Sh.int IntKind.i64),Sh.str] M))),(76,(iv (Int.ofNat (List.length M)))),(77,(iv k))],[.it (.code (nav [1,1,1,1,1,1,1,1,1,0,1,0,0,1,1,0,0,1,1,1,1,1,1] (bodyOf Try.f34))),.it (.inBlock 5),.it (.code (nav [1,1,1,1,1,1,1,1,1,0,1,0,0,1,1,1] (bodyOf Try.f34))),.it (.inLoop (nav [1,1,1,1,1,1,1,1,1,0,1,0,0] (bodyOf Try.f34))),.it (.inBlock 4),.it (.code (nav [1,1,1,1,1,1,1,1,1,1] (bodyOf Try.f34)))],[],Option.none⟩],[(0,(EK.cells 24 [(iv n),(EV.lst (SyC.recs [(Sh.int IntKind.i64),(Sh.int IntKind.i64),Sh.str] R))] true)),(1,(EK.mpo es)),(2,(EK.seq 133 (SyC.ints IntKind.i64 s) true)),(3,EK.seq 135 (.bools w) true),(4,(EK.seq 3 (SyC.ints IntKind.i64 q) true))],5⟩
theorem in_t (n m:Int) (R M:List (List U)):RUN (st0 34 (args n m R M))=(bc (chk4 n R != 0) (.done (EV.tup [(EV.v (Value.slice Option.none 0 0)),(iv (chk4 n R))]) [] 0) (bc (chk4 m M != 0) (.done (EV.tup [(EV.v (Value.slice Option.none 0 0)),(iv (chk4 m M))]) [] 0) (bc (n != m) (.done (EV.tup [(EV.v (Value.slice Option.none 0 0)),(iv (2))]) [] 0) (.at (sA n m R M [] (zerosL 24) 0))))):=by kernel_rfl
theorem a_t (n m:Int) (R M:List (List U)) (es:List (Value×Value)) (c:List Int) (i:Int):RUN (stOf (sA n m R M es c i))=(bc (decide (i<Int.ofNat R.length)) (bc (bc (bc (decide (0≤i)) (Nat.blt i.toNat R.length) false) true false) (bc (bc (Nat.blt i.toNat R.length) true false) (.at (sB n m R M es c i (U.int ((R.getD i.toNat []).getD (Nat.succ 0) (U.i 0))))) .bad) .bad) (bc (bc (decide (Int.ofNat M.length≤Int.ofNat M.length)) (decide (Int.ofNat M.length≤65536)) false) (.at (sC n R M es ([(0:Int),(0:Int),(0:Int),(0:Int),(0:Int),(0:Int),(0:Int),(0:Int),(0:Int),(0:Int),(0:Int),(0:Int),(0:Int),(0:Int),(0:Int),(0:Int),(0:Int),(0:Int),(0:Int),(0:Int),(0:Int),(0:Int),(0:Int),(0:Int)]) (List.map (fun r=>U.bool (List.headD r (U.i 0))) [[U.b false],[U.b false],[U.b false],[U.b false],[U.b false],[U.b false],[U.b false],[U.b false],[U.b false],[U.b false],[U.b false],[U.b false],[U.b false],[U.b false],[U.b false],[U.b false],[U.b false],[U.b false],[U.b false],[U.b false],[U.b false],[U.b false],[U.b false],[U.b false]]) (zerosL (Int.ofNat M.length).toNat).length (zerosL (Int.ofNat M.length).toNat) 0)) .bad)):=by kernel_rfl
theorem b_t (n m:Int) (R M:List (List U)) (es:List (Value×Value)) (c:List Int) (i p:Int):RUN (stOf (sB n m R M es c i p))=(bc (decide (p≤IntKind.i64.wrap (U.int ((R.getD i.toNat []).getD (Nat.succ 0) (U.i 0))+1))) (bc (bc (bc (decide (0≤p)) (Nat.blt p.toNat 24) false) true false) (bc (bc (Nat.blt p.toNat c.length) true false) (bc (bc (keyW Go.Proofs.Try.prog 134 (Value.agg #[Value.int IntKind.i64 p,Value.int IntKind.i64 (c.getD p.toNat 0)])) (keysW Go.Proofs.Try.prog 134 es) false) (bc (bc (bc (decide (0≤p)) (Nat.blt p.toNat 24) false) true false) (bc (bc (Nat.blt p.toNat c.length) true false) (bc (bc (bc (decide (0≤p)) (Nat.blt p.toNat 24) false) true false) (bc (Nat.blt p.toNat c.length) (.at (sB n m R M (setW (Value.agg #[Value.int IntKind.i64 p,Value.int IntKind.i64 (c.getD p.toNat 0)]) (Value.int IntKind.i64 i) es) (List.set c p.toNat (IntKind.i64.wrap (c.getD p.toNat 0+1))) i (IntKind.i64.wrap (p+1)))) .bad) .bad) .bad) .bad) .bad) .bad) .bad) (.at (sA n m R M es c (IntKind.i64.wrap (i+1))))):=by kernel_rfl
theorem c_t (n:Int) (R M:List (List U)) (es:List (Value×Value)) (s:List Int) (w:List Bool) (z:Nat) (q:List Int) (k:Int):RUN (stOf (sC n R M es s w z q k))=(bc (decide (k<Int.ofNat M.length)) (bc (bc (bc (decide (0≤k)) (Nat.blt k.toNat M.length) false) true false) (bc (bc (Nat.blt k.toNat M.length) true false) (bc (bc (bc (decide (0≤U.int ((M.getD k.toNat []).getD (Nat.succ 0) (U.i 0)))) (Nat.blt (U.int ((M.getD k.toNat []).getD (Nat.succ 0) (U.i 0))).toNat 24) false) true false) (bc (bc (Nat.blt (U.int ((M.getD k.toNat []).getD (Nat.succ 0) (U.i 0))).toNat s.length) true false) (bc (bc (keyW Go.Proofs.Try.prog 134 (Value.agg #[Value.int IntKind.i64 (U.int ((M.getD k.toNat []).getD (Nat.succ 0) (U.i 0))),Value.int IntKind.i64 (s.getD (U.int ((M.getD k.toNat []).getD (Nat.succ 0) (U.i 0))).toNat 0)])) (keysW Go.Proofs.Try.prog 134 es) false) (bc (bc (bc (decide (0≤IntKind.i64.wrap (U.int ((M.getD k.toNat []).getD (Nat.succ 0) (U.i 0))+1))) (Nat.blt (IntKind.i64.wrap (U.int ((M.getD k.toNat []).getD (Nat.succ 0) (U.i 0))+1)).toNat 24) false) true false) (bc (bc (Nat.blt (IntKind.i64.wrap (U.int ((M.getD k.toNat []).getD (Nat.succ 0) (U.i 0))+1)).toNat s.length) true false) (bc (bc (keyW Go.Proofs.Try.prog 134 (Value.agg #[Value.int IntKind.i64 (IntKind.i64.wrap (U.int ((M.getD k.toNat []).getD (Nat.succ 0) (U.i 0))+1)),Value.int IntKind.i64 (s.getD (IntKind.i64.wrap (U.int ((M.getD k.toNat []).getD (Nat.succ 0) (U.i 0))+1)).toNat 0)])) (keysW Go.Proofs.Try.prog 134 es) false) (bc (bc (bc (decide (0≤k)) (Nat.blt k.toNat z) false) true false) (bc (Nat.blt k.toNat q.length) (.at (sD n R M es s w z (List.set q k.toNat (-1:Int)) k (U.int ((M.getD k.toNat []).getD (Nat.succ 0) (U.i 0))) (IntKind.i64.wrap (U.int ((M.getD k.toNat []).getD (Nat.succ 0) (U.i 0))+1)) (numW (Value.agg #[Value.int IntKind.i64 (U.int ((M.getD k.toNat []).getD (Nat.succ 0) (U.i 0))),Value.int IntKind.i64 (s.getD (U.int ((M.getD k.toNat []).getD (Nat.succ 0) (U.i 0))).toNat 0)]) es) (numW (Value.agg #[Value.int IntKind.i64 (IntKind.i64.wrap (U.int ((M.getD k.toNat []).getD (Nat.succ 0) (U.i 0))+1)),Value.int IntKind.i64 (s.getD (IntKind.i64.wrap (U.int ((M.getD k.toNat []).getD (Nat.succ 0) (U.i 0))+1)).toNat 0)]) es) (hasW (Value.agg #[Value.int IntKind.i64 (U.int ((M.getD k.toNat []).getD (Nat.succ 0) (U.i 0))),Value.int IntKind.i64 (s.getD (U.int ((M.getD k.toNat []).getD (Nat.succ 0) (U.i 0))).toNat 0)]) es) (hasW (Value.agg #[Value.int IntKind.i64 (IntKind.i64.wrap (U.int ((M.getD k.toNat []).getD (Nat.succ 0) (U.i 0))+1)),Value.int IntKind.i64 (s.getD (IntKind.i64.wrap (U.int ((M.getD k.toNat []).getD (Nat.succ 0) (U.i 0))+1)).toNat 0)]) es))) .bad) .bad) .bad) .bad) .bad) .bad) .bad) .bad) .bad) .bad) (bc (bc (Nat.beq z q.length) true false) (.done (EV.tup [(il q),(iv (0))]) [] 0) .bad)):=by kernel_rfl
theorem d_t (n:Int) (R M:List (List U)) (es:List (Value×Value)) (s:List Int) (w:List Bool) (z:Nat) (q:List Int) (k l r i j:Int) (b c:Bool):RUN (stOf (sD n R M es s w z q k l r i j b c))=(bc b (bc c (bc (i==j) (bc (bc (U.int ((R.getD i.toNat []).getD 0 (U.i 0))==U.int ((M.getD k.toNat []).getD 0 (U.i 0))) (bc (U.int ((R.getD i.toNat []).getD (Nat.succ 0) (U.i 0))==U.int ((M.getD k.toNat []).getD (Nat.succ 0) (U.i 0))) (bc (ByteArray.toList (U.str ((R.getD i.toNat []).getD (Nat.succ (Nat.succ 0)) (U.i 0)))==ByteArray.toList (U.str ((M.getD k.toNat []).getD (Nat.succ (Nat.succ 0)) (U.i 0)))) true false) false) false) (bc (!w.getD l.toNat false) (bc (bc (bc (eqB b true) (bc (eqB c true) (bc (eqB (i==j) true) (bc (bc (bc (decide (0≤i)) (Nat.blt i.toNat R.length) false) true false) (bc (bc (Nat.blt i.toNat R.length) true false) (bc (eqB (bc (U.int ((R.getD i.toNat []).getD 0 (U.i 0))==U.int ((M.getD k.toNat []).getD 0 (U.i 0))) (bc (U.int ((R.getD i.toNat []).getD (Nat.succ 0) (U.i 0))==U.int ((M.getD k.toNat []).getD (Nat.succ 0) (U.i 0))) (bc (ByteArray.toList (U.str ((R.getD i.toNat []).getD (Nat.succ (Nat.succ 0)) (U.i 0)))==ByteArray.toList (U.str ((M.getD k.toNat []).getD (Nat.succ (Nat.succ 0)) (U.i 0)))) true false) false) false) true) (bc (bc (bc (decide (0≤l)) (Nat.blt l.toNat 24) false) true false) (bc (bc (Nat.blt l.toNat w.length) true false) (bc (eqB (!w.getD l.toNat false) true) (bc (bc (bc (decide (0≤r)) (Nat.blt r.toNat 24) false) true false) (bc (bc (Nat.blt r.toNat w.length) true false) true false) false) false) false) false) false) false) false) false) false) false) true false) (bc (!w.getD r.toNat false) (bc (bc (bc (decide (0≤k)) (Nat.blt k.toNat z) false) true false) (bc (Nat.blt k.toNat q.length) (.at (sE n R M es s w z (List.set q k.toNat i) k l r)) .bad) .bad) (bc (bc (bc (decide (0≤l)) (Nat.blt l.toNat 24) false) true false) (bc (Nat.blt l.toNat w.length) (bc (bc (bc (decide (0≤r)) (Nat.blt r.toNat 24) false) true false) (bc (Nat.blt r.toNat (List.set w l.toNat true).length) (.at (sE n R M es s (List.set (List.set w l.toNat true) r.toNat true) z q k l r)) .bad) .bad) .bad) .bad)) .bad) (bc (bc (bc (eqB b true) (bc (eqB c true) (bc (eqB (i==j) true) (bc (bc (bc (decide (0≤i)) (Nat.blt i.toNat R.length) false) true false) (bc (bc (Nat.blt i.toNat R.length) true false) (bc (eqB (bc (U.int ((R.getD i.toNat []).getD 0 (U.i 0))==U.int ((M.getD k.toNat []).getD 0 (U.i 0))) (bc (U.int ((R.getD i.toNat []).getD (Nat.succ 0) (U.i 0))==U.int ((M.getD k.toNat []).getD (Nat.succ 0) (U.i 0))) (bc (ByteArray.toList (U.str ((R.getD i.toNat []).getD (Nat.succ (Nat.succ 0)) (U.i 0)))==ByteArray.toList (U.str ((M.getD k.toNat []).getD (Nat.succ (Nat.succ 0)) (U.i 0)))) true false) false) false) true) (bc (bc (bc (decide (0≤l)) (Nat.blt l.toNat 24) false) true false) (bc (bc (Nat.blt l.toNat w.length) true false) (bc (eqB (!w.getD l.toNat false) false) true false) false) false) false) false) false) false) false) false) true false) (bc (bc (bc (decide (0≤l)) (Nat.blt l.toNat 24) false) true false) (bc (Nat.blt l.toNat w.length) (bc (bc (bc (decide (0≤r)) (Nat.blt r.toNat 24) false) true false) (bc (Nat.blt r.toNat (List.set w l.toNat true).length) (.at (sE n R M es s (List.set (List.set w l.toNat true) r.toNat true) z q k l r)) .bad) .bad) .bad) .bad) .bad)) (bc (bc (bc (eqB b true) (bc (eqB c true) (bc (eqB (i==j) true) (bc (bc (bc (decide (0≤i)) (Nat.blt i.toNat R.length) false) true false) (bc (bc (Nat.blt i.toNat R.length) true false) (bc (eqB (bc (U.int ((R.getD i.toNat []).getD 0 (U.i 0))==U.int ((M.getD k.toNat []).getD 0 (U.i 0))) (bc (U.int ((R.getD i.toNat []).getD (Nat.succ 0) (U.i 0))==U.int ((M.getD k.toNat []).getD (Nat.succ 0) (U.i 0))) (bc (ByteArray.toList (U.str ((R.getD i.toNat []).getD (Nat.succ (Nat.succ 0)) (U.i 0)))==ByteArray.toList (U.str ((M.getD k.toNat []).getD (Nat.succ (Nat.succ 0)) (U.i 0)))) true false) false) false) false) true false) false) false) false) false) false) true false) (bc (bc (bc (decide (0≤l)) (Nat.blt l.toNat 24) false) true false) (bc (Nat.blt l.toNat w.length) (bc (bc (bc (decide (0≤r)) (Nat.blt r.toNat 24) false) true false) (bc (Nat.blt r.toNat (List.set w l.toNat true).length) (.at (sE n R M es s (List.set (List.set w l.toNat true) r.toNat true) z q k l r)) .bad) .bad) .bad) .bad) .bad)) (bc (bc (bc (eqB b true) (bc (eqB c true) (bc (eqB (i==j) false) true false) false) false) true false) (bc (bc (bc (decide (0≤l)) (Nat.blt l.toNat 24) false) true false) (bc (Nat.blt l.toNat w.length) (bc (bc (bc (decide (0≤r)) (Nat.blt r.toNat 24) false) true false) (bc (Nat.blt r.toNat (List.set w l.toNat true).length) (.at (sE n R M es s (List.set (List.set w l.toNat true) r.toNat true) z q k l r)) .bad) .bad) .bad) .bad) .bad)) (bc (bc (bc (eqB b true) (bc (eqB c false) true false) false) true false) (bc (bc (bc (decide (0≤l)) (Nat.blt l.toNat 24) false) true false) (bc (Nat.blt l.toNat w.length) (bc (bc (bc (decide (0≤r)) (Nat.blt r.toNat 24) false) true false) (bc (Nat.blt r.toNat (List.set w l.toNat true).length) (.at (sE n R M es s (List.set (List.set w l.toNat true) r.toNat true) z q k l r)) .bad) .bad) .bad) .bad) .bad)) (bc (bc (bc (eqB b false) true false) true false) (bc (bc (bc (decide (0≤l)) (Nat.blt l.toNat 24) false) true false) (bc (Nat.blt l.toNat w.length) (bc (bc (bc (decide (0≤r)) (Nat.blt r.toNat 24) false) true false) (bc (Nat.blt r.toNat (List.set w l.toNat true).length) (.at (sE n R M es s (List.set (List.set w l.toNat true) r.toNat true) z q k l r)) .bad) .bad) .bad) .bad) .bad)):=by kernel_rfl
theorem e_t (n:Int) (R M:List (List U)) (es:List (Value×Value)) (s:List Int) (w:List Bool) (z:Nat) (q:List Int) (k l r:Int):RUN (stOf (sE n R M es s w z q k l r))=(bc (bc (bc (decide (0≤l)) (Nat.blt l.toNat 24) false) true false) (bc (bc (Nat.blt l.toNat s.length) true false) (bc (bc (bc (decide (0≤l)) (Nat.blt l.toNat 24) false) true false) (bc (Nat.blt l.toNat s.length) (bc (bc (bc (decide (0≤r)) (Nat.blt r.toNat 24) false) true false) (bc (bc (Nat.blt r.toNat (List.set s l.toNat (IntKind.i64.wrap (s.getD l.toNat 0+1))).length) true false) (bc (bc (bc (decide (0≤r)) (Nat.blt r.toNat 24) false) true false) (bc (Nat.blt r.toNat (List.set s l.toNat (IntKind.i64.wrap (s.getD l.toNat 0+1))).length) (.at (sC n R M es (List.set (List.set s l.toNat (IntKind.i64.wrap (s.getD l.toNat 0+1))) r.toNat (IntKind.i64.wrap ((List.set s l.toNat (IntKind.i64.wrap (s.getD l.toNat 0+1))).getD r.toNat 0+1))) w z q (IntKind.i64.wrap (k+1)))) .bad) .bad) .bad) .bad) .bad) .bad) .bad) .bad):=by kernel_rfl
end PMat
section
namespace PMat
open Tr7
theorem tk_at {R:List (List U)} {i:Nat} {p:Int}:tk (aOf R) p i=true↔p=aOf R i∨p=aOf R i+1:=by
 unfold tk;simp
theorem bStep {n m:Int} {R M:List (List U)} {es:List (Value×Value)} {c:List Int} {F G:Int→List Nat} {i q:Nat} (hi:i<R.length) (hR:R.length≤400) (hA:0≤aOf R i∧aOf R i≤22) (hq:(q:Int)≤aOf R i+1) (hM:MOk es F) (hc:Cn24 c F) (hF:(F (q:Int)).length≤400) (hG:∀ p:Int,G p=if p=(q:Int) then F p++[i] else F p) :
  ∃ es' c',RUN (stOf (sB n m R M es c i q)) = .at (sB n m R M es' c' i (q+1:Nat))∧MOk es' G∧Cn24 c' G:=by
 refine ⟨_,_,?_,hM.set (q:=(q:Int)) (i:=i) (by omega) (by omega) (by omega) hG,hc.set hG (by omega)⟩;have hk:=zhv (p:=(q:Int)) (c:=((F (q:Int)).length:Int)) (by omega) (by omega) (by omega) (by omega);rw [b_t];have hl:=hc.1;have e2:=hc.2 q (by omega);unfold aOf at hA hq
 simp (disch:=omega) only [yS,fK0,fK1,fA0,fA1,fA2,fW0,fW1,fW2,hl,e2,hk,hM.keys];rfl
theorem bLast {n m:Int} {R M:List (List U)} {es:List (Value×Value)} {c:List Int} {i q:Nat} (hi:i<R.length) (hR:R.length≤400) (hA:0≤aOf R i∧aOf R i≤22) (hq:aOf R i+1<(q:Int)):RUN (stOf (sB n m R M es c i q)) = .at (sA n m R M es c (i+1:Nat)):=by
 rw [b_t];unfold aOf at hA hq;simp (disch:=omega) only [yS,fK0,fK1,fA0,fA1,fA2,fW0,fW1,fW2];rfl
theorem aStep {n m:Int} {R M:List (List U)} {es:List (Value×Value)} {c:List Int} {i:Nat} (hi:i<R.length) (hR:R.length≤400):RUN (stOf (sA n m R M es c i)) = .at (sB n m R M es c i (aOf R i)):=by
 rw [a_t];simp (disch:=omega) only [yS,fK0,fK1,fA0,fA1,fA2,fW0,fW1,fW2];rfl
noncomputable abbrev z24:List Int:=[0,0,0,0,0,0,0,0,0,0,0,0,0,0,0,0,0,0,0,0,0,0,0,0]
noncomputable abbrev f24:List Bool:=[false,false,false,false,false,false,false,false,false,false,false,false,false,false,false,false,false,false,false,false,false,false,false,false]
theorem aLast {n m:Int} {R M:List (List U)} {es:List (Value×Value)} {c:List Int} {i:Nat} (hi:R.length≤i) (hM:M.length≤400):RUN (stOf (sA n m R M es c i)) = .at (sC n R M es z24 f24 M.length (zerosL M.length) 0):=by
 rw [a_t];have e:(zerosL M.length).length=M.length:=by unfold zerosL;exact List.length_replicate
 simp (disch:=omega) only [e,Nat.add_eq,zf3,zl3,zqk,List.length_cons,ofn,zao,dt,df,bltD,bltN,zjm,bleN,beqD,bc_t,bc_f,nn_ok,Nat.zero_add,za1,Int.zero_add,Int.sub_zero,Int.sub_self,Int.cast_ofNat_Int,Int.natCast_zero,Int.toNat_zero,List.take_zero,List.nil_append,List.length_append,List.length_nil];rfl
theorem aLoop {n m:Int} {R M:List (List U)} {V:EV} (hR:R.length≤400) (hM:M.length≤400) (hA:AtR R) (H:∀ es,MOk es (fun p=>bf (aOf R) p R.length)→EndZ 34 ctMa false (stOf (sC n R M es z24 f24 M.length (zerosL M.length) 0)) V [] 0) :
  ∀ (k i:Nat) (es:List (Value×Value)) (c:List Int),i+k=R.length→MOk es (fun p=>bf (aOf R) p i)→Cn24 c (fun p=>bf (aOf R) p i)→EndZ 34 ctMa false (stOf (sA n m R M es c i)) V [] 0
 | 0,i,es,c,h,hm,hc=>by
  have e:i=R.length:=by omega
  subst e;exact .at zb1 (aLast (Nat.le_refl _) hM) (H es hm)
 | k+1,i,es,c,h,hm,hc=>by
  have hi:i<R.length:=by omega
  have ha:=hA i hi;obtain ⟨q,hq⟩:=Int.eq_ofNat_of_zero_le ha.1;have hl:∀ p,(bf (aOf R) p i).length≤400:=fun p=>by have:=zf9 (aOf R) p i;omega
  obtain ⟨es1,c1,s1,m1,k1⟩:=bStep (n:=n) (m:=m) (M:=M) (q:=q) (G:=fun p=>if p=(q:Int) then bf (aOf R) p i++[i] else bf (aOf R) p i) hi hR ha (by omega) hm hc (hl _) (fun p=>rfl);obtain ⟨es2,c2,s2,m2,k2⟩:=bStep (n:=n) (m:=m) (M:=M) (q:=q+1) (G:=fun p=>bf (aOf R) p (i+1)) hi hR ha (by omega) m1 k1 (by rw [if_neg (by omega)];exact hl _) (fun p=>by
   rw [zdu]
   by_cases e1:p=(q:Int)
   ·rw [if_pos (tk_at.2 (.inl (by omega))),if_neg (by omega),if_pos e1]
   ·by_cases e2:p=((q+1:Nat):Int)
    ·rw [if_pos (tk_at.2 (.inr (by omega))),if_pos e2,if_neg e1]
    ·rw [if_neg (fun h=>by rcases tk_at.1 h with h|h <;> omega),if_neg e2,if_neg e1,List.append_nil])
  rw [show aOf R i=(q:Int) from hq] at ha
  have h0:=aStep (n:=n) (m:=m) (M:=M) (es:=es) (c:=c) hi hR;rw [hq] at h0;exact .at zb1 h0 (.at zb1 s1 (.at zb1 s2 (.at zb1 (bLast hi hR (hA i hi) (by omega)) (aLoop hR hM hA H k (i+1) es2 c2 (by omega) m2 k2))))
theorem dStep {n:Int} {R M:List (List U)} {es:List (Value×Value)} {s:List Int} {w:List Bool} {z:Nat} {q:List Int} {k l r:Nat} {i j:Int} {b c:Bool} (hR:R.length≤400) (hz:z≤400) (hk:k<z) (hq:q.length=z) (hw:w.length=24) (hl:l<24) (hr:r<24) (hi:b=true→0≤i∧i<(R.length:Int)) :
  RUN (stOf (sD n R M es s w z q k l r i j b c))=bc (bc b (bc c (bc (i==j) (bc (rowEq (R.getD i.toNat []) (M.getD k [])) (bc (!w.getD l false) (!w.getD r false) false) false) false) false) false) (.at (sE n R M es s w z (q.set k i) k l r)) (.at (sE n R M es s ((w.set l true).set r true) z q k l r)):=by
 rw [d_t];simp (disch:=omega) only [yS,fK0,fK1,fA0,fA1,fA2,fW0,fW1,fW2,zm0,hq,hw,List.length_set];cases b
 ·simp (disch:=omega) only [yS,eqBf,eqBt]
 cases c
 ·simp (disch:=omega) only [yS,eqBf,eqBt]
 obtain ⟨i0,i1⟩:=hi rfl;obtain ⟨i,rfl⟩:=Int.eq_ofNat_of_zero_le i0;have i1:i<R.length:=by omega
 cases h1:((i:Int)==j)
 ·simp (disch:=omega) only [yS,h1,eqBf,eqBt]
 rw [za1];cases h2:rowEq (R.getD i []) (M.getD k [])
 ·simp (disch:=omega) only [yS,h1,h2,eqBf,eqBt]
 cases h3:w.getD l false
 ·cases h4:w.getD r false
  ·simp (disch:=omega) only [yS,h1,h2,h3,h4,eqBf,eqBt,Bool.not_false,Bool.not_true]
  ·simp (disch:=omega) only [yS,h1,h2,h3,h4,eqBf,eqBt,Bool.not_false,Bool.not_true]
 ·simp (disch:=omega) only [yS,h1,h2,h3,eqBf,eqBt,Bool.not_false,Bool.not_true]
theorem cStep {n:Int} {R M:List (List U)} {es:List (Value×Value)} {s:List Int} {w:List Bool} {q:List Int} {k l:Nat} (hk:k<M.length) (hM:M.length≤400) (hq:q.length=M.length) (hl:aOf M k=(l:Int)) (hl2:l≤22) (hm:MOk es (fun p=>bf (aOf R) p R.length)) (hs:Cn24 s (fun p=>bf (aOf M) p k)) :
  RUN (stOf (sC n R M es s w M.length q k)) = .at (sD n R M es s w M.length (q.set k (-1)) k (l:Nat) ((l+1:Nat):Int) (((((bf (aOf R) l R.length)[(bf (aOf M) l k).length]?).getD 0:Nat)):Int) (((((bf (aOf R) (l+1:Nat) R.length)[(bf (aOf M) (l+1:Nat) k).length]?).getD 0:Nat)):Int) ((bf (aOf R) l R.length)[(bf (aOf M) l k).length]?).isSome ((bf (aOf R) (l+1:Nat) R.length)[(bf (aOf M) (l+1:Nat) k).length]?).isSome):=by
 have c1:=zf9 (aOf M) (l:Int) k;have c2:=zf9 (aOf M) ((l+1:Nat):Int) k;have k1:=zhv (p:=(l:Int)) (c:=((bf (aOf M) l k).length:Int)) (by omega) (by omega) (by omega) (by omega);have k2:=zhv (p:=((l+1:Nat):Int)) (c:=((bf (aOf M) (l+1:Nat) k).length:Int)) (by omega) (by omega) (by omega) (by omega);have g1:=hs.2 l (by omega);have g2:=hs.2 (l+1) (by omega);have hl':rA (M.getD k [])=(l:Int):=hl;have hsl:=hs.1;have e1:(l:Int)+1=((l+1:Nat):Int):=rfl;rw [c_t]
 have w1:IntKind.i64.wrap (((l+1:Nat):Int))=((l+1:Nat):Int):=zao _ (by omega) (by omega);simp only [za1,fK0,fK1,fA0,fA1,fA2,fW0,fW1,fW2,hl',e1,w1,g1,g2];rw [hm.has l,hm.has (l+1:Nat),hm.num l,hm.num (l+1:Nat)]
 simp (disch:=omega) only [yS,hq,hsl,k1,k2,hm.keys]
theorem eStep {n:Int} {R M:List (List U)} {es:List (Value×Value)} {s:List Int} {w:List Bool} {z:Nat} {q:List Int} {k l:Nat} (hk:k<M.length) (hM:M.length≤400) (hl:aOf M k=(l:Int)) (hl2:l≤22) (hs:Cn24 s (fun p=>bf (aOf M) p k)) :
  ∃ s',RUN (stOf (sE n R M es s w z q k (l:Nat) ((l+1:Nat):Int))) = .at (sC n R M es s' w z q (k+1:Nat))∧Cn24 s' (fun p=>bf (aOf M) p (k+1)):=by
 have c1:=zf9 (aOf M) (l:Int) k;have c2:=zf9 (aOf M) ((l+1:Nat):Int) k;have h1:=hs.set (q:=l) (i:=k) (G:=fun p=>if p=(l:Int) then bf (aOf M) p k++[k] else bf (aOf M) p k) (fun p=>rfl) (by omega)
 have h2:=h1.set (q:=l+1) (i:=k) (G:=fun p=>bf (aOf M) p (k+1)) (fun p=>by
  rw [zdu]
  by_cases e1:p=(l:Int)
  ·rw [if_pos (tk_at.2 (.inl (by omega))),if_neg (by omega),if_pos e1]
  ·by_cases e2:p=((l+1:Nat):Int)
   ·rw [if_pos (tk_at.2 (.inr (by omega))),if_pos e2,if_neg e1]
   ·rw [if_neg (fun h=>by rcases tk_at.1 h with h|h <;> omega),if_neg e2,if_neg e1,List.append_nil]) (by omega)
 rw [if_neg (show ¬ (((l+1:Nat):Int)=(l:Int)) by omega)] at h2;refine ⟨_,?_,h2⟩;have g1:=hs.2 l (by omega);have g2:=h1.2 (l+1) (by omega);dsimp only at g1 g2;rw [if_neg (show ¬ (((l+1:Nat):Int)=(l:Int)) by omega)] at g2;have hsl:=hs.1;rw [e_t];simp (disch:=omega) only [za1,g1];have w1:IntKind.i64.wrap (((bf (aOf M) (l:Int) k).length:Int)+1)=((bf (aOf M) (l:Int) k).length:Int)+1:=zao _ (by omega) (by omega);rw [w1,g2]
 simp (disch:=omega) only [yS,hsl,List.length_set];rfl
theorem setZ (A:List Int) (x:Int) (m:Nat) (y:Int):(A++y::List.replicate m 0).set A.length x=A++x::List.replicate m 0:=by
 rw [List.set_append_right _ _ (Nat.le_refl _),Nat.sub_self];rfl
def Wr24 (w:List Bool) (M:List (List U)) (out:List Int) (k:Nat):Prop:=w.length=24∧∀ p:Nat,p<24→(w.getD p false=true↔wr (aOf M) out k (p:Int))
theorem ztj {b:Nat→Int} {out:List Int} {x:Int} {k:Nat} {p:Int} (h:out.length=k):wr b (out++[x]) (k+1) p↔wr b out k p∨(tk b p k=true∧x = -1):=by
 have hg:∀ j,j<k→(out++[x]).getD j 0=out.getD j 0:=fun j hj=>by
  rw [List.getD_eq_getElem?_getD,List.getElem?_append_left (by omega),← List.getD_eq_getElem?_getD]
 have hx:(out++[x]).getD k 0=x:=by
  rw [List.getD_eq_getElem?_getD,List.getElem?_append_right (by omega),h,Nat.sub_self];rfl
 constructor
 ·rintro ⟨j,h1,h2,h3⟩
  by_cases e:j=k
  ·subst e;exact .inr ⟨h2,by rw [hx] at h3;exact h3⟩
  ·exact .inl ⟨j,by omega,h2,by rw [hg j (by omega)] at h3;exact h3⟩
 ·rintro (⟨j,h1,h2,h3⟩|⟨h1,h2⟩)
  ·exact ⟨j,by omega,h2,by rw [hg j h1];exact h3⟩
  ·exact ⟨k,by omega,h1,by rw [hx];exact h2⟩
theorem cLoop {n:Int} {R M:List (List U)} {es:List (Value×Value)} (hR:R.length≤400) (hM:M.length≤400) (hA:AtR M) (hm:MOk es (fun p=>bf (aOf R) p R.length)) :
  ∀ (j k:Nat) (s:List Int) (w:List Bool),k+j=M.length→Cn24 s (fun p=>bf (aOf M) p k)→Wr24 w M (ag R.length (aOf R) (aOf M) (eOf R M) k) k→EndZ 34 ctMa false (stOf (sC n R M es s w M.length (ag R.length (aOf R) (aOf M) (eOf R M) k++List.replicate j 0) k)) (.tup [il (ag R.length (aOf R) (aOf M) (eOf R M) M.length),iv 0]) [] 0
 | 0,k,s,w,h,hs,hw=>by
  have e:k=M.length:=by omega
  subst e;have hl:(ag R.length (aOf R) (aOf M) (eOf R M) M.length).length=M.length:=ag_len ..;rw [show List.replicate 0 (0:Int)=[] from rfl,List.append_nil]
  have hs:=c_t n R M es s w M.length (ag R.length (aOf R) (aOf M) (eOf R M) M.length) (M.length:Nat);simp (disch:=omega) only [yS,hl] at hs;exact .done hs
 | j+1,k,s,w,h,hs,hw=>by
  have hk:k<M.length:=by omega
  obtain ⟨hA0,hA1⟩:=hA k hk;obtain ⟨l,hl⟩:=Int.eq_ofNat_of_zero_le hA0;have hl2:l≤22:=by omega
  generalize hO:ag R.length (aOf R) (aOf M) (eOf R M) k=O at hw;have hOl:O.length=k:=by rw [← hO];exact ag_len ..
  have hnext:ag R.length (aOf R) (aOf M) (eOf R M) (k+1)=O++[fd R.length (aOf R) (aOf M) (eOf R M) O k]:=by
   show ag R.length (aOf R) (aOf M) (eOf R M) k++[fd R.length (aOf R) (aOf M) (eOf R M) (ag R.length (aOf R) (aOf M) (eOf R M) k) k]=_;rw [hO]
  obtain ⟨f1,f2⟩:=fd_pk (n:=R.length) (zqd (R:=R) (M:=M)) (k:=k);rw [hO] at f1 f2;have hz:=cStep (n:=n) (w:=w) (q:=O++List.replicate (j+1) 0) hk hM (by rw [List.length_append,List.length_replicate];omega) hl hl2 hm hs;rw [show List.replicate (j+1) (0:Int)=0::List.replicate j 0 from rfl] at hz ⊢
  rw [show ((O++(0:Int)::List.replicate j 0).set k (-1))=O++(-1)::List.replicate j 0 by rw [← hOl];exact setZ ..] at hz;refine .at zb1 hz ?_;generalize ho1:(bf (aOf R) (l:Int) R.length)[(bf (aOf M) (l:Int) k).length]? = o1 at hz ⊢;generalize ho2:(bf (aOf R) ((l+1:Nat):Int) R.length)[(bf (aOf M) ((l+1:Nat):Int) k).length]? = o2 at hz ⊢
  have hd:=dStep (n:=n) (R:=R) (M:=M) (es:=es) (s:=s) (w:=w) (z:=M.length) (q:=O++(-1)::List.replicate j 0) (k:=k) (l:=l) (r:=l+1) (i:=((o1.getD 0:Nat):Int)) (j:=((o2.getD 0:Nat):Int)) (b:=o1.isSome) (c:=o2.isSome) hR hM hk (by rw [List.length_append,List.length_cons,List.length_replicate];omega) hw.1 (by omega) (by omega) (fun e=>by
   obtain ⟨i,rfl⟩:=Option.isSome_iff_exists.1 e;have:=(bf_of ho1).1;exact ⟨Int.natCast_nonneg _,by show ((i:Nat):Int)<_;omega⟩)
  have hpk:∀ i,pk R.length (aOf R) (aOf M) (eOf R M) O k i↔o1=some i∧o2=some i∧eOf R M i k=true∧w.getD l false=false∧w.getD (l+1) false=false:=fun i=>by
   unfold pk;rw [hl,show (l:Int)+1=((l+1:Nat):Int) from rfl,ho1,ho2,← hw.2 l (by omega),← hw.2 (l+1) (by omega)]
   simp
  by_cases hp:∃ i,pk R.length (aOf R) (aOf M) (eOf R M) O k i
  ·obtain ⟨i,hp⟩:=hp;have hf:=f1 i hp;obtain ⟨p1,p2,p3,p4,p5⟩:=(hpk i).1 hp;subst p1;subst p2;have p3':rowEq (R.getD i []) (M.getD k [])=true:=p3;have hcnd:bc (some i).isSome (bc (some i).isSome (bc ((((some i).getD 0:Nat):Int)==(((some i).getD 0:Nat):Int)) (bc (rowEq (R.getD (((some i).getD 0:Nat):Int).toNat []) (M.getD k [])) (bc (!w.getD l false) (!w.getD (l+1) false) false) false) false) false) false=true:=by
    rw [show (((some i).getD 0:Nat):Int)=(i:Int) from rfl,za1,p3',p4,p5]
    simp [bc]
   rw [hcnd,bc_t] at hd;rw [show ((O++(-1:Int)::List.replicate j 0).set k (((some i).getD 0:Nat):Int))=O++(i:Int)::List.replicate j 0 by rw [← hOl];exact setZ ..] at hd;obtain ⟨s2,e1,e2⟩:=eStep (n:=n) (R:=R) (es:=es) (w:=w) (z:=M.length) (q:=O++(i:Int)::List.replicate j 0) hk hM hl hl2 hs;refine .at zb1 hd (.at zb1 e1 ?_);have key:=cLoop (n:=n) hR hM hA hm j (k+1) s2 w (by omega) e2 ⟨hw.1,fun p hp2=>by
    rw [hw.2 p hp2,hnext,ztj hOl,hf];exact ⟨.inl,fun h=>h.elim id fun h=>absurd h.2 (by omega)⟩⟩
   rw [hnext,hf,List.append_assoc] at key;exact key
  ·have hf:=f2 fun i hi=>hp ⟨i,hi⟩;have hcnd:bc o1.isSome (bc o2.isSome (bc (((o1.getD 0:Nat):Int)==((o2.getD 0:Nat):Int)) (bc (rowEq (R.getD ((o1.getD 0:Nat):Int).toNat []) (M.getD k [])) (bc (!w.getD l false) (!w.getD (l+1) false) false) false) false) false) false=false:=by
    cases hc:bc o1.isSome (bc o2.isSome (bc (((o1.getD 0:Nat):Int)==((o2.getD 0:Nat):Int)) (bc (rowEq (R.getD ((o1.getD 0:Nat):Int).toNat []) (M.getD k [])) (bc (!w.getD l false) (!w.getD (l+1) false) false) false) false) false) false with
    | false=>rfl
    | true=>
     obtain ⟨c1,r1⟩:=bcT hc;obtain ⟨c2,r2⟩:=bcT r1;obtain ⟨c3,r3⟩:=bcT r2;obtain ⟨c4,r4⟩:=bcT r3;obtain ⟨c5,c6⟩:=bcT r4;clear hc r1 r2 r3 r4;obtain ⟨i,rfl⟩:=Option.isSome_iff_exists.1 c1;obtain ⟨i2,rfl⟩:=Option.isSome_iff_exists.1 c2;have c3:((i:Nat):Int)=((i2:Nat):Int):=beq_iff_eq.1 c3;have:i=i2:=by omega
     subst this;exact absurd ⟨i,(hpk i).2 ⟨rfl,rfl,c4,by simpa using c5,by simpa using c6⟩⟩ hp
   rw [hcnd,bc_f] at hd;obtain ⟨s2,e1,e2⟩:=eStep (n:=n) (R:=R) (es:=es) (w:=(w.set l true).set (l+1) true) (z:=M.length) (q:=O++(-1)::List.replicate j 0) hk hM hl hl2 hs;refine .at zb1 hd (.at zb1 e1 ?_);have hw1:=hw.1;have key:=cLoop (n:=n) hR hM hA hm j (k+1) s2 ((w.set l true).set (l+1) true) (by omega) e2 ⟨by rw [List.length_set,List.length_set];exact hw.1,fun p hp2=>by
    rw [hnext,ztj hOl,← hw.2 p hp2,hf,tk_at,hl,List.getD_eq_getElem?_getD,List.getElem?_set,List.getElem?_set,List.length_set]
    by_cases a1:l+1=p
    ·rw [if_pos a1,if_pos (by omega)];simp;right;omega
    ·rw [if_neg a1]
     by_cases a2:l=p
     ·rw [if_pos a2,if_pos (by omega)];simp;right;omega
     ·rw [if_neg a2,← List.getD_eq_getElem?_getD];constructor
      ·exact .inl
      ·rintro (h|⟨h|h,_⟩)
       ·exact h
       ·omega
       ·omega⟩
   rw [hnext,hf,List.append_assoc] at key;exact key
theorem cn0:Cn24 z24 (fun p=>bf (aOf ([]:List (List U))) p 0):=⟨rfl,fun p hp=>by
 have:∀ q:Fin 24,z24.getD q.1 0=0:=by decide
 exact this ⟨p,hp⟩⟩
end PMat
noncomputable def twE (n m:Int) (R M:List (List U)):Int:=bc (chk4 n R != 0) (chk4 n R) (bc (chk4 m M != 0) (chk4 m M) (bc (n != m) 2 0))
noncomputable def mat (R M:List (List U)):List Int:=Tr7.ag R.length (aOf R) (aOf M) (eOf R M) M.length
noncomputable def matE (n m:Int) (R M:List (List U)):List Int:=bc (twE n m R M != 0) [] (mat R M)
theorem za6 {n:Int} {l:List (List U)} (h:chk4 n l=0):l.length≤400∧AtR l:=by
 have:=zcx h;refine ⟨this.len,fun i hi=>?_⟩;have:=this.val (l.getD i []) (by rw [zaf hi];exact List.getElem_mem hi);have h1:=this.lo;have h2:=this.hi;have h3:=(zcx h).hi;unfold aOf;omega
namespace PMat
theorem ends (n m:Int) (R M:List (List U)):EndZ 34 ctMa false (st0 34 (args n m R M)) (.tup [il (matE n m R M),iv (twE n m R M)]) [] 0:=by
 have h:=in_t n m R M;unfold matE twE;cases h1:chk4 n R != 0 <;> rw [h1] at h
 rotate_left
 ·simp only [bc_t,h1];exact (EndZ.done h).weak (.tup (.cons (Weak.nilI _) (.cons (Weak.refl _) .nil)))
 cases h2:chk4 m M != 0 <;> rw [h2] at h
 rotate_left
 ·simp only [bc_f,bc_t,h2];exact (EndZ.done h).weak (.tup (.cons (Weak.nilI _) (.cons (Weak.refl _) .nil)))
 cases h3:n != m <;> rw [h3] at h
 rotate_left
 ·exact (EndZ.done h).weak (.tup (.cons (Weak.nilI _) (.cons (Weak.refl _) .nil)))
 have hR:=za6 (show chk4 n R=0 by simpa using h1);have hM:=za6 (show chk4 m M=0 by simpa using h2);refine .at zb1 h (aLoop hR.1 hM.1 hR.2 (fun es hes=>?_) R.length 0 [] (zerosL 24) (by omega) (MOk.nil _ fun p=>rfl) cn0);exact cLoop hR.1 hM.1 hM.2 hes M.length 0 z24 f24 (by omega) cn0 ⟨rfl,fun p hp=>by
  have:∀ q:Fin 24,f24.getD q.1 false=false:=by decide
  rw [show f24.getD p false=false from this ⟨p,hp⟩]
  constructor
  ·intro h;cases h
  ·rintro ⟨j,hj,_⟩;omega⟩
end PMat
noncomputable def spMat:ZCT:=fun ax=>match ax with
 | [.agg [.v (.int .i64 n),.lst (.recs [.int .i64,.int .i64,.str] R)],.agg [.v (.int .i64 m),.lst (.recs [.int .i64,.int .i64,.str] M)]]=>some ⟨decide (True),.tup [il (matE n m R M),iv (twE n m R M)],[],0⟩
 | _=>none
theorem zg7:ZCtOk Try.prog 34 spMat:=fun γ w us ax r hs hc hax hN hfz=>by
 unfold spMat at hs;split at hs
 case h_2=>cases hs
 rename_i n R m M;obtain ⟨rfl⟩:=Option.some.inj hs;have hc_0:decide (True)=true:=hc;have hc:=of_decide_eq_true hc_0;exact EndZ.calls (PMat.ends n m R M) zb1 (by kernel_rfl) hax hN hfz
end
end Go.Proofs.Ytepiiaeiogdphaa.Ev
namespace Go.Proofs
open Go.Shelf
def Try.sortP_ren:Go.Shelf.Ren:=⟨fun|6=>57|15=>91|14=>90|28=>117|29=>118|20=>109|21=>110|22=>111|23=>112|24=>113|25=>114|26=>115|27=>116|46=>134|47=>135|48=>136|49=>137|50=>138|57=>145|n=>n,fun|22=>46|24=>49|25=>108|3=>3|39=>157|0=>0|53=>184|55=>100|4=>4|46=>178|45=>177|50=>136|5=>5|9=>9|66=>195|70=>199|76=>203|77=>204|n=>n,fun|n=>n⟩
theorem Try.sortP:Go.Proofs.SlLaysF0.n6 Try.prog Try.sortP_ren:={
 mixed:=by kernel_rfl
 f6:=⟨Try.f57.name,by decide,Try.func57.trans (congrArg some (by kernel_rfl))⟩
 f14:=⟨Try.f90.name,by decide,Try.func90.trans (congrArg some (by kernel_rfl))⟩
 f15:=Try.func91.trans (congrArg some (by kernel_rfl))
 f20:=⟨Try.f109.name,by decide,Try.func109.trans (congrArg some (by kernel_rfl))⟩
 f21:=⟨Try.f110.name,by decide,Try.func110.trans (congrArg some (by kernel_rfl))⟩
 f22:=⟨Try.f111.name,by decide,Try.func111.trans (congrArg some (by kernel_rfl))⟩
 f23:=⟨Try.f112.name,by decide,Try.func112.trans (congrArg some (by kernel_rfl))⟩
 f24:=⟨Try.f113.name,by decide,Try.func113.trans (congrArg some (by kernel_rfl))⟩
 f25:=⟨Try.f114.name,by decide,Try.func114.trans (congrArg some (by kernel_rfl))⟩
 f26:=⟨Try.f115.name,by decide,Try.func115.trans (congrArg some (by kernel_rfl))⟩
 f27:=⟨Try.f116.name,by decide,Try.func116.trans (congrArg some (by kernel_rfl))⟩
 f28:=Try.func117.trans (congrArg some (by kernel_rfl))
 f29:=Try.func118.trans (congrArg some (by kernel_rfl))
 f46:=⟨Try.f134.name,by decide,Try.func134.trans (congrArg some (by kernel_rfl))⟩
 f47:=Try.func135.trans (congrArg some (by kernel_rfl))
 f48:=Try.func136.trans (congrArg some (by kernel_rfl))
 f49:=⟨Try.f137.name,by decide,Try.func137.trans (congrArg some (by kernel_rfl))⟩
 f50:=⟨Try.f138.name,by decide,Try.func138.trans (congrArg some (by kernel_rfl))⟩
 f57:=⟨Try.f145.name,by decide,Try.func145.trans (congrArg some (by kernel_rfl))⟩
 t0:=Try.underlying0
 a0:=Try.isAgg0
 z0:=Try.sizeOf0
 v0:=Try.zeroValue0
 t3:=Try.underlying3
 a3:=Try.isAgg3
 z3:=Try.sizeOf3
 v3:=Try.zeroValue3
 t4:=Try.underlying4
 a4:=Try.isAgg4
 z4:=Try.sizeOf4
 v4:=Try.zeroValue4
 t5:=Try.underlying5
 a5:=Try.isAgg5
 z5:=Try.sizeOf5
 v5:=Try.zeroValue5
 t9:=Try.underlying9
 a9:=Try.isAgg9
 z9:=Try.sizeOf9
 v9:=Try.zeroValue9
 t22:=Try.underlying46
 a22:=Try.isAgg46
 z22:=Try.sizeOf46
 v22:=Try.zeroValue46
 t25:=Try.underlying108
 a25:=Try.isAgg108
 z25:=Try.sizeOf108
 v25:=Try.zeroValue108
 t39:=Try.underlying157
 a39:=Try.isAgg157
 z39:=Try.sizeOf157
 v39:=Try.zeroValue157
 t45:=Try.underlying177
 a45:=Try.isAgg177
 z45:=Try.sizeOf177
 v45:=Try.zeroValue177
 t46:=Try.underlying178
 a46:=Try.isAgg178
 z46:=Try.sizeOf178
 v46:=Try.zeroValue178
 t50:=Try.underlying136
 a50:=Try.isAgg136
 z50:=Try.sizeOf136
 v50:=Try.zeroValue136
 t53:=Try.underlying184
 a53:=Try.isAgg184
 z53:=Try.sizeOf184
 v53:=Try.zeroValue184
 t55:=Try.underlying100
 a55:=Try.isAgg100
 z55:=Try.sizeOf100
 v55:=Try.zeroValue100
 t66:=Try.underlying195
 a66:=Try.isAgg195
 z66:=Try.sizeOf195
 v66:=Try.zeroValue195
 t70:=Try.underlying199
 a70:=Try.isAgg199
 z70:=Try.sizeOf199
 v70:=Try.zeroValue199
 t76:=Try.underlying203
 a76:=Try.isAgg203
 z76:=Try.sizeOf203
 v76:=Try.zeroValue203
 t77:=Try.underlying204
 a77:=Try.isAgg204
 z77:=Try.sizeOf204
 v77:=Try.zeroValue204 }
end Go.Proofs
namespace Go.Proofs.Ytepiiaeiogdphaa.Ev
section
open Go.Proofs Go.RowKit Go.Sort
abbrev Pr:=Fin 65536×Int
def flp:List Pr→List Int
 | []=>[]
 | p::l=>(p.1.val:Int)::p.2::flp l
def dcp:List Int→List Pr
 | a::b::r=>(⟨a.toNat%65536,Nat.mod_lt _ (by omega)⟩,b)::dcp r
 | _=>[]
theorem zh7:∀ l:List Pr,dcp (flp l)=l
 | []=>rfl
 | p::l=>by
  show (⟨((p.1.val:Int)).toNat%65536,_⟩,p.2)::dcp (flp l)=p::l;rw [zh7 l];congr 1;refine Prod.ext (Fin.ext ?_) rfl;show ((p.1.val:Int)).toNat%65536=p.1.val;rw [Int.toNat_natCast];exact Nat.mod_eq_of_lt p.1.isLt
theorem zc6:∀ l:List Pr,(flp l).length=l.length*2
 | []=>rfl
 | p::l=>by show (flp l).length+1+1=(l.length+1)*2;rw [zc6 l];omega
def leP (a b:Pr):Bool:=decide (a.1.val≤b.1.val)
def srP (l:List Pr):List Pr:=l.mergeSort leP
theorem zcl (l:List Pr):(srP l).Perm l:=List.mergeSort_perm l leP
theorem zmr (l:List Pr):(srP l).Pairwise fun a b=>a.1.val≤b.1.val:=by
 refine (List.pairwise_mergeSort (le:=leP) (fun a b c h1 h2=>?_) (fun a b=>?_) l).imp fun h=>of_decide_eq_true h
 ·have h1:=of_decide_eq_true h1;have h2:=of_decide_eq_true h2;exact decide_eq_true (by omega)
 ·unfold leP;rcases Nat.le_total a.1.val b.1.val with h|h
  ·simp [h]
  ·simp [h]
theorem zla {l m:List Pr} (hn:(l.map (·.1)).Nodup) (hp:m.Perm l) (hs:m.Pairwise fun a b=>a.1.val≤b.1.val):m=srP l:=by
 refine List.Perm.eq_of_pairwise (le:=fun a b:Pr=>a.1.val≤b.1.val) (fun a b ha hb h1 h2=>?_) hs (zmr l) (hp.trans (zcl l).symm)
 replace ha:=hp.mem_iff.1 ha
 replace hb:=(zcl l).mem_iff.1 hb
 have he:a.1=b.1:=Fin.ext (by omega);clear hs hp h1 h2
 induction l with
 | nil=>simp at ha
 | cons p l ih=>
  simp only [List.map_cons,List.nodup_cons] at hn;rcases List.mem_cons.1 ha with ea|ha <;> rcases List.mem_cons.1 hb with eb|hb
  ·exact ea.trans eb.symm
  ·exact absurd (List.mem_map.2 ⟨b,hb,by rw [← he,ea]⟩) hn.1
  ·exact absurd (List.mem_map.2 ⟨a,ha,by rw [he,eb]⟩) hn.1
  ·exact ih hn.2 ha hb
def encP (x:Pr):List Value:=[.int .i64 (x.1.val:Int),.int .i64 x.2]
def cfP (x y:Pr):Int:=(x.1.val:Int)-y.1.val
theorem swoP:SWO (ltOf cfP) where
 irrefl x:=by unfold ltOf cfP;simp
 trans x y z h1 h2:=by
  have h1:=of_decide_eq_true h1;have h2:=of_decide_eq_true h2;unfold cfP at h1 h2;exact decide_eq_true (by unfold cfP;omega)
 ntrans x y z h1 h2:=by
  have h1:=of_decide_eq_false h1;have h2:=of_decide_eq_false h2;unfold cfP at h1 h2;exact decide_eq_false (by unfold cfP;omega)
theorem flatP (l:List Pr):flatK encP 2 l.toArray=((flp l).map (Value.int .i64)).toArray:=by
 refine ext_get! (by simp [zc6]) fun t ht=>?_;have ht:t<l.toArray.size*2:=by simpa using ht
 rw [get_flatK _ _ _ t ht];have ht2:t<l.length*2:=by simpa using ht
 have key:∀ (l:List Pr) (t:Nat),t<l.length*2→(encP (l.toArray[t/2]!))[t%2]! = ((flp l).map (Value.int .i64)).toArray[t]!:=by
  intro l
  induction l with
  | nil=>intro t h;simp at h
  | cons p l ih=>
   intro t h
   match t with
   | 0=>rfl
   | 1=>rfl
   | t+2=>
    have:=ih t (by simp at h;omega);have e1:(t+2)/2=t/2+1:=by omega
    have e2:(t+2)%2=t%2:=by omega
    rw [e1,e2];have e3:(p::l).toArray[t/2+1]! = l.toArray[t/2]!:=by simp
    rw [e3,this];show _=((Value.int .i64 (p.1.val:Int))::(Value.int .i64 p.2)::(flp l).map (Value.int .i64)).toArray[t+2]!;simp
 exact key l t ht2
theorem zne (x y:Pr) (W:World):Calls Try.prog 58 #[.agg (encP x).toArray,.agg (encP y).toArray] W fun e w'=>e = .returned (.int .i64 (cfP x y))∧∃ q os',w'=grow (W.drewN q) os':=by
 obtain ⟨⟨a,ha⟩,b⟩:=x;obtain ⟨⟨c,hc⟩,d⟩:=y;have hw:IntKind.i64.wrap ((a:Int)-(c:Int))=(a:Int)-c:=zao _ (by omega) (by omega);unfold cfP encP;dsimp only
 go_enter Try.func58,Try.ntmps58
 go_wp2
 go_ret
 exact ⟨by first|rfl|rw [hw],0,_,by rw [alloc_eq_grow,alloc_eq_grow,grow_grow];rfl⟩
theorem zor {W:World} {blk off:Nat} (l:List Int):Go.Sort.putRow id W blk off ((l.map (Value.int .i64)).toArray)=Go.Sort.putRow (Value.int .i64) W blk off l.toArray:=by
 unfold Go.Sort.putRow;congr 1
 funext c
 unfold Go.Sort.putCells;congr 1
 funext k x
 simp only [List.size_toArray,List.length_map]
 by_cases h:off≤k∧k<off+l.length
 ·rw [if_pos h,if_pos h];have hk:k-off<l.length:=by omega
  simp [hk]
 ·rw [if_neg h,if_neg h]
theorem zbv (k:IntKind) (l:List Int):(SyC.ints k l).enc=l.map fun x=>EV.v (.int k x):=rfl
theorem HR.putIntsP {γ:G} {w0:Bs} {H:Tr EK} {n:Nat} {w:World} (h:HR γ w0 H n w) {i:Nat} (hi:Nat.ble i 65535=true) {ty:TypeId} {k:IntKind} {l l':List Int} {nn:Bool} (hg:H.get i=some (.seq ty (.ints k l) nn)) {b:Pl} {m:Nat} (hγ:γ i=some (b,m)) (hl:l'.length=l.length) (hn:¬ (EK.seq ty (.ints k l) nn).Nil) (q:Nat) :
  HR γ w0 (H.put i (some (.seq ty (.ints k l') nn))) n (Go.Sort.putRow (Value.int k) (Go.Sort.ahead w q) b.k b.s l'.toArray):=by
 obtain ⟨b2,m2,e1,e2,ca,⟨fz,e3,e3'⟩,e4,e5,e6⟩:=h.hp i _ hg hn;rw [hγ] at e1;simp only [Option.some.injEq,Prod.mk.injEq] at e1;obtain ⟨rfl,rfl⟩:=e1;have hw:∀ c,(Go.Sort.putRow (Value.int k) (Go.Sort.ahead w q) b.k b.s l'.toArray).heap[c]? = if b.k=c then some (.cells (Go.Sort.putCells (Value.int k) b.s l'.toArray ca) ty fz) else w.heap[c]?:=fun c=>by
  unfold Go.Sort.putRow Go.Sort.mapBlock;show (w.heap.modify b.k _)[c]? = _;rw [Array.getElem?_modify]
  by_cases hc:b.k=c
  ·subst hc;rw [if_pos rfl,if_pos rfl,e3];rfl
  ·rw [if_neg hc,if_neg hc]
 have hsz:(Go.Sort.putRow (Value.int k) (Go.Sort.ahead w q) b.k b.s l'.toArray).heap.size=w.heap.size:=by
  unfold Go.Sort.putRow Go.Sort.mapBlock;show (w.heap.modify b.k _).size=_;simp [Go.Sort.ahead]
 have hcs:(Go.Sort.putCells (Value.int k) b.s l'.toArray ca).size=ca.size:=by unfold Go.Sort.putCells;simp
 have hle:(SyC.ints k l').enc.length=(SyC.ints k l).enc.length:=by rw [zbv,zbv,List.length_map,List.length_map,hl]
 refine h.turn hi hg hγ _ (fun c hc=>by rw [hw,if_neg (fun e=>hc e.symm)]) hsz rfl rfl rfl ?_ hn;refine ⟨_,⟨fz,by rw [hw,if_pos rfl],e3'.imp id fun e=>by rw [hcs];exact e⟩,by rw [hcs];exact e4,by rw [hle];exact e5,?_,?_⟩
 ·have hcl:(Go.Sort.putCells (Value.int k) b.s l'.toArray ca).toList.length=ca.size:=(Array.length_toList).trans hcs;rw [List.length_take,List.length_drop,hcl,hle];omega
 ·intro j a x ha hx;rw [zbv,List.getElem?_map] at ha;have hj:j<l'.length:=by
   rcases Nat.lt_or_ge j l'.length with hj|hj
   ·exact hj
   ·rw [List.getElem?_eq_none hj] at ha;cases ha
  rw [List.getElem?_eq_getElem hj] at ha;injection ha with ha
  subst ha;rw [List.getElem?_take,if_pos (by rw [zbv,List.length_map];exact hj),List.getElem?_drop,Array.getElem?_toList] at hx;unfold Go.Sort.putCells at hx;rw [Array.getElem?_mapIdx] at hx;have hlt:b.s+j<ca.size:=by
   rw [zbv,List.length_map] at e5;omega
  rw [Array.getElem?_eq_getElem hlt] at hx;simp only [Option.map_some,Option.some.injEq] at hx;rw [if_pos ⟨by omega,by simp;omega⟩] at hx;have:l'.toArray[b.s+j-b.s]! = l'[j]:=by
   rw [show b.s+j-b.s=j by omega];simp [hj]
  rw [this] at hx;subst hx;exact .v _
def PrOk (l:List Int):Prop:=l=flp (dcp l)∧((dcp l).map (·.1)).Nodup
noncomputable def prB (l:List Int):Bool:=@decide (PrOk l) (Classical.propDecidable _)
noncomputable def spSrf:ZMT:=fun ax K0 m=>match ax,K0 with
 | [.slO 0 2 len nn,.fn 58 []],[(0,.seq ty (.ints .i64 l) nn')]=>bc (Nat.beq m 1) (some ⟨bc (Nat.beq l.length (len*2)) (bc (Nat.ble len 65536) (bc (prB l) (bc nn nn' false) false) false) false,.tup [],[(0,.seq ty (.ints .i64 (flp (srP (dcp l)))) nn')],1,1⟩) none
 | _,_=>none
theorem zru:ZMtOk Try.prog 57 spSrf:=fun γ w0 w us ax K0 m r hs hc hres hax hH=>by
 unfold spSrf at hs;split at hs
 case h_2=>cases hs
 rename_i len nn ty l nn';obtain ⟨hm,rfl⟩:=noN hs;have hm:=Nat.eq_of_beq_eq_true hm;subst hm;obtain ⟨hc1,hc2⟩:=bcT (show bc (Nat.beq l.length (len*2)) (bc (Nat.ble len 65536) (bc (prB l) (bc nn nn' false) false) false) false=true from hc)
 obtain ⟨hc2,hc3⟩:=bcT hc2;obtain ⟨hc3,hc4⟩:=bcT hc3;have hc1:=Nat.eq_of_beq_eq_true hc1;have hc2:=Nat.le_of_ble_eq_true hc2;obtain ⟨p1,p2⟩:=@of_decide_eq_true (PrOk l) (Classical.propDecidable _) hc3;generalize hp:dcp l=ps at p1 p2;have hlen:ps.length=len:=by
  have:=zc6 ps;rw [← p1] at this;omega
 subst hlen;obtain ⟨x,r1,e1,hx,hcr⟩:=ECL.inv hax;obtain ⟨y,r2,e2,hy,hcr2⟩:=ECL.inv hcr;have e3:r2=[]:=by apply List.eq_nil_of_length_eq_zero;have:=hcr2.1;simpa using this.symm
 subst e3;subst e2;have eu:us = #[x,y]:=by apply Array.ext';simpa using e1
 rw [eu];have ey:y = .func (.func 58) #[] #[]:=by
  cases hy with
  | fn _ _ vs h1 h2=>
   have:vs=[]:=List.eq_nil_of_length_eq_zero (by simpa using h1.symm);subst this;rfl
 subst ey;have hg:(mkT [(0,EK.seq ty (.ints .i64 l) nn')]).get 0=some (.seq ty (.ints .i64 l) nn'):=rfl;show Calls Try.prog 57 _ w fun e w'=>∃ γ' x',e = .returned x'∧EC γ' (.tup []) x'∧HR γ' w0 (mkT [(0,EK.seq ty (.ints .i64 (flp (srP ps))) nn')]) 1 w'∧∀ j p,j<1→γ j=some p→γ' j=some p
 cases hx with
 | slO _ _ _ _ _ hx=>
 cases nn with
 | false=>cases hc4
 | true=>
  obtain ⟨b,mm,c,g1,rfl,g2,g3,g4⟩:=hx.2 rfl;have hnn:nn'=true:=hc4;subst hnn;have hn:¬ (EK.seq ty (.ints .i64 l) true).Nil:=fun e=>by cases e.1
  obtain ⟨b2,m2,q1,q2,ca,q3,q4,q5,q6⟩:=hH.hp 0 _ hg hn;rw [g1] at q1;simp only [Option.some.injEq,Prod.mk.injEq] at q1;obtain ⟨rfl,rfl⟩:=q1;have hholds:HoldsK encP 2 w b.k b.s ps.toArray:=by
   unfold HoldsK;rw [flatP,← p1];intro j hj;have hj:j<l.length:=by simpa using hj
   obtain ⟨c1,c2⟩:=zae (off:=j) q3;have hlt:b.s+j<ca.size:=by rw [zbv,List.length_map] at q5;omega
   refine ⟨?_,c2 hlt⟩;rw [show (⟨b.k,b.s+j,none⟩:Addr)=b.at j from rfl,c1,Array.getElem?_eq_getElem hlt]
   have h1:=q6.2 j (.v (.int .i64 l[j])) ca[b.s+j] (by rw [zbv,List.getElem?_map,List.getElem?_eq_getElem hj];rfl) (by
    rw [List.getElem?_take,if_pos (by rw [zbv,List.length_map];exact hj),List.getElem?_drop,Array.getElem?_toList,Array.getElem?_eq_getElem hlt])
   rw [ec_v h1];simp [hj]
  have hblk:=hH.lt 0 _ g1;have eg:∀ args w,(callFunc 58 args).run Try.prog w = .ok (.enter 58 args) w:=enters_of Try.func58 (by kernel_rfl) rfl;have key:=AnyQ.slices_SortFunc Try.sortP 2 Try.isAgg49 Try.sizeOf49 encP (fun _=>rfl) (fun x v hv=>by simp [encP] at hv;rcases hv with rfl|rfl <;> rfl) cfP swoP 58 #[] b.k b.s c ps.toArray w eg (fun m os dk hs x y=>zne x y _) hholds hblk (by simp;omega)
  change Calls Try.prog 57 _ _ _ at key
  refine key.mono ?_
  rintro e w' ⟨rfl,d',q,os,⟨k1,k2,k3⟩,k4,rfl⟩
  have k1:d'.size=ps.length:=by simpa using k1
  have hperm:d'.toList.Perm ps:=by
   have e1:(d'.extract 0 ps.toArray.size).toList=d'.toList:=by simp [k1.symm]
   have e2:(ps.toArray.extract 0 ps.toArray.size).toList=ps:=by simp
   rw [e1,e2] at k3;exact k3
  have hsort:d'.toList.Pairwise fun a b=>a.1.val≤b.1.val:=by
   rw [List.pairwise_iff_getElem];intro i j hi hj hij;have hj':j<d'.size:=by simpa using hj
   have:=k4 i j (Nat.zero_le _) hij (by simpa using (show j<ps.length by omega));have:=of_decide_eq_false this;unfold cfP at this;rw [getElem!_pos d' j hj',getElem!_pos d' i (by omega)] at this;simp only [Array.getElem_toList];omega
  have hd:d'=(srP ps).toArray:=by
   rw [← zla p2 hperm hsort]
  subst hd;have hsw:sortWorldK encP 2 w b.k b.s q (srP ps).toArray os=Go.Sort.grow (Go.Sort.putRow (Value.int .i64) (Go.Sort.ahead w q) b.k b.s (flp (srP ps)).toArray) os:=by
   unfold sortWorldK putRowK;rw [flatP,zor]
  rw [hsw];have hlf:(flp (srP ps)).length=l.length:=by rw [p1,zc6,zc6,(zcl ps).length_eq]
  have h1:=hH.putIntsP (l':=flp (srP ps)) rfl hg g1 hlf hn q;have hsz:(Go.Sort.putRow (Value.int .i64) (Go.Sort.ahead w q) b.k b.s (flp (srP ps)).toArray).heap.size=w.heap.size:=by
   unfold Go.Sort.putRow Go.Sort.mapBlock;show (w.heap.modify b.k _).size=_;simp [Go.Sort.ahead]
  have hb:Below (Go.Sort.putRow (Value.int .i64) (Go.Sort.ahead w q) b.k b.s (flp (srP ps)).toArray).heap.size (Go.Sort.putRow (Value.int .i64) (Go.Sort.ahead w q) b.k b.s (flp (srP ps)).toArray) (Go.Sort.grow (Go.Sort.putRow (Value.int .i64) (Go.Sort.ahead w q) b.k b.s (flp (srP ps)).toArray) os):=
   ⟨rfl,rfl,rfl,by rw [Go.Sort.size_grow];omega,fun k hk=>Go.Sort.heap_grow_old _ _ hk⟩
  refine ⟨γ,_,rfl,.tup [] [] rfl (fun j a x h=>by simp at h),?_,fun j p _ h=>h⟩;refine (h1.below hb).congr fun j k hj=>?_;rw [Tr.get_put (by rfl)]
  by_cases hj0:j=0
  ·subst hj0;rw [if_pos rfl];exact hj
  ·rw [if_neg hj0];have:=zcp hj;simp at this;exact absurd this.1 hj0
noncomputable def spSrf0:ZCT:=fun ax=>match ax with
 | [.v (.slice none 0 0),.fn 58 []]=>some ⟨true,.tup [],[],0⟩
 | _=>none
theorem zn8:ZCtOk Try.prog 57 spSrf0:=fun γ w us ax r hs hc hax hN hfz=>by
 unfold spSrf0 at hs;split at hs
 case h_2=>cases hs
 obtain ⟨rfl⟩:=Option.some.inj hs;obtain ⟨x,r1,e1,hx,hcr⟩:=ECL.inv hax;obtain ⟨y,r2,e2,hy,hcr2⟩:=ECL.inv hcr;have e3:r2=[]:=by apply List.eq_nil_of_length_eq_zero;have:=hcr2.1;simpa using this.symm
 subst e3;subst e2;have eu:us = #[x,y]:=by apply Array.ext';simpa using e1
 rw [eu];have hx:=ec_v hx;subst hx;refine (AnyF.slices_SortFunc_none Try.sortP none 0 _ w).mono ?_
 rintro e w' ⟨rfl,rfl⟩
 exact ⟨γ,_,rfl,.tup [] [] rfl (fun j a x h=>by simp at h),HR.start hN hfz⟩
end
noncomputable def ES.say (s:ES) (d:Nat) (a:EV):ES:={ s with top:={ s.top with T:=s.top.T.put d (some a) } }
theorem LeadsZ.say {s:ES} {d:Nat} {a a':EV} (hd:Nat.ble d 65535=true) (h:s.top.T.get d=some a') (hw:Weak a' a):LeadsZ Try.prog s (s.say d a):=fun γ w0 cs m _ hm=>by
 refine ⟨γ,m,Steps.refl _ _,?_⟩;obtain ⟨fr,frs,w,rfl,⟨tmps,todo,ds,ro,rfl,h1,h2,h3,h4,h5⟩,hfs,hH⟩:=hm;refine ⟨_,frs,w,rfl,⟨tmps,todo,ds,ro,rfl,h1,fun sl b hs=>?_,h3,h4,h5⟩,hfs,hH⟩;have hs2:(s.top.T.put d (some a)).get sl=some b:=hs;clear hs;rw [Tr.get_put hd] at hs2;split at hs2
 ·rename_i e;subst e;injection hs2 with hs2
  subst hs2;obtain ⟨x,hx,hc⟩:=h2 _ a' h;exact ⟨x,hx,hw γ x hc⟩
 ·exact h2 sl b hs2
theorem Weak.slNil (i z len:Nat):Weak (.slO i z len false) (.v (.slice none 0 0)):=fun γ x h=>by
 cases h with
 | slO _ _ _ _ _ hs=>
  rw [(hs.1 rfl).1];exact .v _
noncomputable def ctPA:Tr ZCC:=(Tr.nil.put 34 (some (dC spMat))).put 57 (some (mC spSrf))
theorem zdt:ZCtsOk Try.prog ctPA:=((ZCtsOk.nil _).add rfl zg7).addM rfl zru
noncomputable def ctPA0:Tr ZCC:=(Tr.nil.put 34 (some (dC spMat))).put 57 (some (dC spSrf0))
theorem zs8:ZCtsOk Try.prog ctPA0:=((ZCtsOk.nil _).add rfl zg7).add rfl zn8
namespace PAgr
noncomputable abbrev args (n m:Int) (R M:List (List U)):List EV:=[.agg [iv n,wl R],.agg [iv m,wl M]]
noncomputable def RUN (s:ES):ZF:=RZs 20 ctPA [(atS 0 20 6,[[(8,some (2,49,.ints .i64 [])),(20,none),(21,none),(22,none)]]),(atS 0 20 11,[[(8,some (2,49,.ints .i64 []))]]),(atS 0 20 12,[[(8,some (2,49,.ints .i64 []))]])] [] false s
noncomputable def RUN0 (s:ES):ZF:=RZs 20 ctPA0 [(atS 0 20 12,[[(8,some (2,49,.ints .i64 []))]])] [] false s
noncomputable def sA (l q:List Int) (z:Nat) (nn:Bool) (i:Int):NS:=⟨[⟨20,39,[(8,EV.slO 0 2 z nn),(20,il l),(21,iv l.length),(22,iv i)],[.it (.code (nav [1,1,1,1,0,1,0,0] (bodyOf Try.f20))),.it (.inLoop (nav [1,1,1,1,0,1,0,0] (bodyOf Try.f20))),.it (.inBlock 0),.it (.code (nav [1,1,1,1,1] (bodyOf Try.f20)))],[],Option.none⟩],[(0,EK.seq 49 (.ints .i64 q) nn)],1⟩
noncomputable def sE (q:List Int) (z:Nat) (nn:Bool):NS:=⟨[⟨20,39,[(8,(EV.slO 0 2 z nn))],[.it (.code (nav [1,1,1,1,1] (bodyOf Try.f20)))],[],Option.none⟩],[(0,(EK.seq 49 (SyC.ints IntKind.i64 q) nn))],1⟩
noncomputable def sR (q:List Int) (z:Nat) (nn:Bool):NS:=⟨[⟨20,39,[(8,EV.slO 0 2 z nn)],[.it (.code (nav [1,1,1,1,1,1] (bodyOf Try.f20)))],[],Option.none⟩],[(0,EK.seq 49 (.ints .i64 q) nn)],1⟩
theorem in_t (n m:Int) (R M:List (List U)):RUN (st0 20 (args n m R M))=(bc (twE n m R M != 0) (.done (EV.tup [(EV.v (Value.slice Option.none 0 0)),(iv (twE n m R M))]) [] 0) (.at (sA (matE n m R M) [] (0) false 0))):=by kernel_rfl
theorem a_t (l q:List Int) (z:Nat) (nn:Bool) (i:Int):RUN (stOf (sA l q z nn i))=(bc (decide (i<(Nat.cast l.length:Int))) (bc (bc (bc (decide (0≤i)) (Nat.blt i.toNat l.length) false) true false) (bc (bc (Nat.blt i.toNat l.length) true false) (bc (decide (0≤l.getD i.toNat 0)) (bc (bc (Nat.beq (Nat.mul z 2) q.length) (bc (Nat.ble (z+1) 65536) (bc nn true (bc nn false true)) false) false) (.at (sA l (q++[l.getD i.toNat 0,i]) (z+1) true (IntKind.i64.wrap (i+1)))) .bad) (.at (sA l q z nn (IntKind.i64.wrap (i+1))))) .bad) .bad) (.at (sE q z nn))):=by kernel_rfl
theorem e_t (q:List Int) (z:Nat):RUN (stOf (sE q z true))=(bc (bc (bc (Nat.beq q.length (z*2)) (bc (Nat.ble z 65536) (bc (prB q) true false) false) false) true false) (.at (sR (flp (srP (dcp q))) z true)) .bad):=by kernel_rfl
theorem e0_t (q:List Int) (z:Nat):RUN0 ((stOf (sE q z false)).say 8 (.v (.slice none 0 0)))=(.at (sR ([]) ((0:Nat)) (false))):=by kernel_rfl
theorem r_t (q:List Int) (z:Nat) (nn:Bool):RUN (stOf (sR q z nn))=(bc (bc (Nat.beq q.length (z*2)) true false) (.done (EV.tup [(EV.lst (SyC.recs [(Sh.int IntKind.i64),(Sh.int IntKind.i64)] (chunkU 2 q z))),(iv (0))]) [] 0) .bad):=by kernel_rfl
end PAgr
def prE (l:List Int) (k:Nat):Pr:=(⟨(l.getD k 0).toNat%65536,Nat.mod_lt _ (by omega)⟩,(k:Int))
def prT (l:List Int) (n:Nat):List Pr:=((List.range n).filter fun k=>decide (0≤l.getD k 0)).map (prE l)
theorem zhi (l:List Int) (n:Nat):prT l (n+1)=prT l n++(if 0≤l.getD n 0 then [prE l n] else []):=by
 unfold prT;rw [List.range_succ,List.filter_append,List.map_append];congr 1
 by_cases h:0≤l.getD n 0
 ·rw [if_pos h,show List.filter (fun k=>decide (0≤l.getD k 0)) [n]=[n] from List.filter_cons_of_pos (p:=fun k=>decide (0≤l.getD k 0)) (decide_eq_true h)];rfl
 ·rw [if_neg h,show List.filter (fun k=>decide (0≤l.getD k 0)) [n]=[] from List.filter_cons_of_neg (p:=fun k=>decide (0≤l.getD k 0)) (fun e=>h (of_decide_eq_true e))];rfl
def agP (l:List Int) (n:Nat):List Pr:=(List.range n).flatMap fun (i:Nat)=>((List.range l.length).filter fun (k:Nat)=>l.getD k 0==(i:Int)).map fun (k:Nat)=>((⟨i%65536,Nat.mod_lt _ (by omega)⟩,(k:Int)):Pr)
def rowP (p:Pr):List U:=[.i (p.1.val:Int),.i p.2]
def agU (l:List Int) (n:Nat):List (List U):=(agP l n).map rowP
def Inj (l:List Int) (n:Nat):Prop:=∀ k,k<l.length→l.getD k 0 = -1∨∃ i:Nat,i<n∧l.getD k 0=(i:Int)∧∀ k',k'<l.length→l.getD k' 0=(i:Int)→k'=k
theorem zvb {n:Nat} {a b:Nat→Int} {e:Nat→Nat→Bool} (hE:∀ i k,e i k=true→a i=b k) (m:Nat):Inj (Tr7.ag n a b e m) n:=fun k hk=>by
 rw [Tr7.ag_len] at hk;rcases Tr7.ag_ent (n:=n) (a:=a) (b:=b) (e:=e) hk with h|⟨i,h1,h2⟩
 ·exact .inl h
 ·refine .inr ⟨i,h2.lt,h1,fun k' hk' h=>?_⟩;rw [Tr7.ag_len] at hk';rcases Tr7.ag_ent (n:=n) (a:=a) (b:=b) (e:=e) hk' with g|⟨i',g1,g2⟩
  ·omega
  ·have:i'=i:=by omega
   subst this;exact g2.inj hE h2
theorem zva {l:List Int} {n:Nat} {p:Pr}:p∈prT l n↔∃ k,k<n∧0≤l.getD k 0∧p=prE l k:=by
 unfold prT;simp only [List.mem_map,List.mem_filter,List.mem_range,decide_eq_true_eq];constructor
 ·rintro ⟨k,⟨h1,h2⟩,h3⟩;exact ⟨k,h1,h2,h3.symm⟩
 ·rintro ⟨k,h1,h2,h3⟩;exact ⟨k,⟨h1,h2⟩,h3.symm⟩
theorem zj4 {l:List Int} {n:Nat} {p:Pr}:p∈agP l n↔∃ i k,i<n∧k<l.length∧l.getD k 0=((i:Nat):Int)∧p=(⟨i%65536,Nat.mod_lt _ (by omega)⟩,(k:Int)):=by
 unfold agP;simp only [List.mem_flatMap,List.mem_map,List.mem_filter,List.mem_range,beq_iff_eq];constructor
 ·rintro ⟨i,h1,k,⟨h2,h3⟩,h4⟩;exact ⟨i,k,h1,h2,h3,h4.symm⟩
 ·rintro ⟨i,k,h1,h2,h3,h4⟩;exact ⟨i,h1,k,⟨h2,h3⟩,h4.symm⟩
theorem zxc {l:List Int} {n:Nat} (h:Inj l n) (hn:n≤65536):(agP l n).Pairwise fun a b=>a.1.val<b.1.val:=by
 unfold agP;rw [List.pairwise_flatMap];constructor
 ·intro i hi;have hi:=List.mem_range.1 hi;rw [List.pairwise_map];have:((List.range l.length).filter fun k=>l.getD k 0==(i:Int)).Pairwise fun a b=>a<b:=(List.pairwise_lt_range).sublist List.filter_sublist;refine (List.Pairwise.and_mem.1 this).imp fun {a b} ⟨ha,hb,hab⟩=>?_;have ha:=List.mem_filter.1 ha;have hb:=List.mem_filter.1 hb;have ha1:=List.mem_range.1 ha.1;have hb1:=List.mem_range.1 hb.1;have ha2:l.getD a 0=(i:Int):=beq_iff_eq.1 ha.2;have hb2:l.getD b 0=(i:Int):=beq_iff_eq.1 hb.2;rcases h a ha1 with h0|⟨i',_,h1,h2⟩
  ·omega
  ·have:=h2 b hb1 (by rw [hb2,← ha2,h1]);omega
 ·refine (List.pairwise_lt_range (n:=n)).imp_of_mem fun {i j} hi hj hij x hx y hy=>?_;have hi:=List.mem_range.1 hi;have hj:=List.mem_range.1 hj;obtain ⟨k,_,rfl⟩:=List.mem_map.1 hx;obtain ⟨k',_,rfl⟩:=List.mem_map.1 hy;show i%65536<j%65536;rw [Nat.mod_eq_of_lt (by omega),Nat.mod_eq_of_lt (by omega)];exact hij
theorem zi1 {l:List Int} {n:Nat} (h:Inj l n) (hn:n≤65536):((prT l l.length).map (·.1)).Nodup:=by
 unfold prT;rw [List.map_map,List.Nodup,List.pairwise_map];have:((List.range l.length).filter fun k=>decide (0≤l.getD k 0)).Pairwise fun a b=>a<b:=(List.pairwise_lt_range).sublist List.filter_sublist;refine (List.Pairwise.and_mem.1 this).imp fun {a b} ⟨ha,hb,hab⟩ he=>?_;have ha:=List.mem_filter.1 ha;have hb:=List.mem_filter.1 hb;have ha1:=List.mem_range.1 ha.1;have hb1:=List.mem_range.1 hb.1;have ha2:0≤l.getD a 0:=of_decide_eq_true ha.2;have hb2:0≤l.getD b 0:=of_decide_eq_true hb.2
 have he:(l.getD a 0).toNat%65536=(l.getD b 0).toNat%65536:=congrArg Fin.val he;rcases h a ha1 with h0|⟨i,h1,h2,h3⟩
 ·omega
 rcases h b hb1 with h0|⟨j,g1,g2,g3⟩
 ·omega
 have:=h3 b hb1 (by rw [h2,g2,Int.toNat_natCast,Int.toNat_natCast,Nat.mod_eq_of_lt (by omega),Nat.mod_eq_of_lt (by omega)] at he;rw [g2,he]);omega
theorem zff {l:List Int} {n:Nat} (h:Inj l n) (hn:n≤65536):srP (prT l l.length)=agP l n:=by
 have hlt:=zxc h hn;have hnd:(agP l n).Nodup:=hlt.imp fun {a b} hab e=>by subst e;omega
 have hnp:=zi1 h hn;have hnp2:(prT l l.length).Nodup:=by
  rw [List.Nodup,List.pairwise_map] at hnp;exact hnp.imp fun h e=>h (congrArg Prod.fst e)
 refine (zla hnp ?_ (hlt.imp fun h=>Nat.le_of_lt h)).symm;refine (List.perm_ext_iff_of_nodup hnd hnp2).2 fun p=>?_;rw [zva,zj4];constructor
 ·rintro ⟨i,k,h1,h2,h3,rfl⟩
  refine ⟨k,h2,by omega,?_⟩;refine Prod.ext (Fin.ext ?_) rfl;show i%65536=(l.getD k 0).toNat%65536;rw [h3];rfl
 ·rintro ⟨k,h1,h2,rfl⟩
  rcases h k h1 with h0|⟨i,g1,g2,g3⟩
  ·omega
  ·refine ⟨i,k,g1,h1,g2,?_⟩;refine Prod.ext (Fin.ext ?_) rfl;show (l.getD k 0).toNat%65536=i%65536;rw [g2];rfl
theorem zjk:∀ l:List Pr,chunkU 2 (flp l) l.length=l.map rowP
 | []=>rfl
 | p::l=>by
  show chunkU 2 ((p.1.val:Int)::p.2::flp l) (l.length+1)=_;rw [zf7];show [.i (p.1.val:Int),.i p.2]::chunkU 2 (flp l) l.length=_;rw [zjk l];rfl
theorem zvp (a b:List Pr):flp (a++b)=flp a++flp b:=by
 induction a with
 | nil=>rfl
 | cons p a ih=>show (p.1.val:Int)::p.2::flp (a++b)=_;rw [ih];rfl
noncomputable abbrev pl2 (l:List (List U)):EV:=.lst (.recs [.int .i64,.int .i64] l)
namespace PAgr
theorem aYes {l q:List Int} {z i:Nat} {nn:Bool} (hi:i<l.length) (hl:l.length≤400) (h:0≤l.getD i 0) (hq:z*2=q.length) (hz:z≤i):RUN (stOf (sA l q z nn i)) = .at (sA l (q++[l.getD i 0,(i:Int)]) (z+1) true (i+1:Nat)):=by
 rw [a_t];have e1:Nat.beq (Nat.mul z 2) q.length=true:=beqD hq;simp (disch:=omega) only [yS,e1];rfl
theorem aNo {l q:List Int} {z i:Nat} {nn:Bool} (hi:i<l.length) (hl:l.length≤400) (h:¬ 0≤l.getD i 0):RUN (stOf (sA l q z nn i)) = .at (sA l q z nn (i+1:Nat)):=by
 rw [a_t];simp (disch:=omega) only [yS];rfl
theorem aLast {l q:List Int} {z:Nat} {nn:Bool}:RUN (stOf (sA l q z nn l.length)) = .at (sE q z nn):=by
 rw [a_t];simp (disch:=omega) only [yS]
theorem prT_len (l:List Int):∀ i,(prT l i).length≤i
 | 0=>Nat.le_refl _
 | i+1=>by
  rw [zhi,List.length_append];have:=prT_len l i;split <;> simp <;> omega
theorem rEnd {l:List Int} {n:Nat} (nn:Bool):EndZ 20 ctPA false (stOf (sR (flp (agP l n)) (agP l n).length nn)) (.tup [pl2 (agU l n),iv 0]) [] 0:=by
 have h1:=r_t (flp (agP l n)) (agP l n).length nn;have c5:(flp (agP l n)).length=(agP l n).length*2:=zc6 _;simp (disch:=omega) only [yS,c5] at h1;rw [zjk] at h1;exact .done h1
theorem endE {l:List Int} {n:Nat} (h:Inj l n) (hn:n≤65536) (hl:l.length≤400):∀ (nn:Bool),(nn=false→prT l l.length=[])→EndZ 20 ctPA false (stOf (sE (flp (prT l l.length)) (prT l l.length).length nn)) (.tup [pl2 (agU l n),iv 0]) [] 0
 | false,hnn=>by
  rw [hnn rfl];have e:agP l n=[]:=by rw [← zff h hn,hnn rfl];exact List.eq_nil_of_length_eq_zero (zcl []).length_eq
  have h1:=e0_t (flp []) ([]:List Pr).length;have h2:=rEnd (l:=l) (n:=n) false;rw [e] at h2;exact EndZ.lead (LeadsZ.say (d:=8) rfl (by rfl) (Weak.slNil 0 2 _)) (EndZ.lead (leadsZ zs8 h1) h2)
 | true,_=>by
  have h1:=e_t (flp (prT l l.length)) (prT l l.length).length;have c1:prB (flp (prT l l.length))=true:=@decide_eq_true _ (Classical.propDecidable _) ⟨by rw [zh7],by rw [zh7];exact zi1 h hn⟩;have c2:(flp (prT l l.length)).length=(prT l l.length).length*2:=zc6 _;have c3:=prT_len l l.length;rw [zh7,zff h hn] at h1;have c4:(agP l n).length=(prT l l.length).length:=by rw [← zff h hn];exact (zcl _).length_eq
  simp (disch:=omega) only [yS,c1,c2] at h1;rw [← c4] at h1 ⊢;exact .at zdt h1 (rEnd true)
theorem loop {l:List Int} {n:Nat} (h:Inj l n) (hn:n≤65536) (hl:l.length≤400):∀ (m i:Nat) (nn:Bool),i+m=l.length→(nn=false→prT l i=[])→EndZ 20 ctPA false (stOf (sA l (flp (prT l i)) (prT l i).length nn i)) (.tup [pl2 (agU l n),iv 0]) [] 0
 | 0,i,nn,e,hnn=>by
  have e:i=l.length:=by omega
  subst e;exact .at zdt aLast (endE h hn hl nn hnn)
 | m+1,i,nn,e,hnn=>by
  have hi:i<l.length:=by omega
  have hs:=zhi l i
  by_cases h0:0≤l.getD i 0
  ·rw [if_pos h0] at hs;have h1:=aYes (nn:=nn) (q:=flp (prT l i)) (z:=(prT l i).length) hi hl h0 (zc6 _).symm (prT_len l i);have key:=loop h hn hl m (i+1) true (by omega) (fun e=>by cases e);rw [hs,zvp,List.length_append] at key;have e2:flp [prE l i]=[l.getD i 0,(i:Int)]:=by
    show [(((l.getD i 0).toNat%65536:Nat):Int),(i:Int)]=_;rcases h i hi with g|⟨j,g1,g2,_⟩
    ·omega
    ·rw [g2,Int.toNat_natCast,Nat.mod_eq_of_lt (by omega)]
   rw [e2] at key;exact .at zdt h1 key
  ·rw [if_neg h0,List.append_nil] at hs;have key:=loop h hn hl m (i+1) nn (by omega) (fun e=>by rw [hs];exact hnn e);rw [hs] at key;exact .at zdt (aNo hi hl h0) key
end PAgr
noncomputable def agE (n m:Int) (R M:List (List U)):List (List U):=bc (twE n m R M != 0) [] (agU (mat R M) R.length)
theorem twE_0 {n m:Int} {R M:List (List U)} (h:twE n m R M=0):chk4 n R=0∧chk4 m M=0∧n=m:=by
 unfold twE at h;cases h1:chk4 n R != 0 <;> rw [h1] at h
 ·cases h2:chk4 m M != 0 <;> rw [h2] at h
  ·cases h3:n != m <;> rw [h3] at h
   ·exact ⟨by simpa using h1,by simpa using h2,by simpa using h3⟩
   ·cases h
  ·have h:chk4 m M=0:=h;rw [h] at h2;cases h2
 ·have h:chk4 n R=0:=h;rw [h] at h1;cases h1
theorem zbn (R M:List (List U)):(mat R M).length=M.length:=Tr7.ag_len ..
theorem zi6 (R M:List (List U)):Inj (mat R M) R.length:=zvb (zqd (R:=R) (M:=M)) M.length
theorem PAgr.ends (n m:Int) (R M:List (List U)):EndZ 20 ctPA false (st0 20 (PAgr.args n m R M)) (.tup [pl2 (agE n m R M),iv (twE n m R M)]) [] 0:=by
 have h:=PAgr.in_t n m R M;unfold agE;cases h1:twE n m R M != 0 <;> rw [h1] at h
 ·have e:twE n m R M=0:=by simpa using h1
  have h2:=twE_0 e;unfold matE at h;rw [h1] at h;rw [e];have l1:=za6 h2.1;have l2:=za6 h2.2.1;exact .at zdt h (PAgr.loop (zi6 R M) (by omega) (by rw [zbn];exact l2.1) _ 0 false (Nat.zero_add _) (fun _=>rfl))
 ·exact (EndZ.done h).weak (.tup (.cons (Weak.nil _) (.cons (Weak.refl _) .nil)))
noncomputable def spPAg:ZCT:=fun ax=>match ax with
 | [.agg [.v (.int .i64 n),.lst (.recs [.int .i64,.int .i64,.str] R)],.agg [.v (.int .i64 m),.lst (.recs [.int .i64,.int .i64,.str] M)]]=>some ⟨decide True,.tup [pl2 (agE n m R M),iv (twE n m R M)],[],0⟩
 | _=>none
theorem zry:ZCtOk Try.prog 20 spPAg:=fun γ w us ax r hs hc hax hN hfz=>by
 unfold spPAg at hs;split at hs
 case h_2=>cases hs
 rename_i n R m M;obtain ⟨rfl⟩:=Option.some.inj hs;have hc_0:decide True=true:=hc;have hc:=of_decide_eq_true hc_0;exact EndZ.calls (PAgr.ends n m R M) zdt (by kernel_rfl) hax hN hfz
noncomputable def ixB (v:Int) (i:Nat):List Int→Int
 | []=>-1
 | x::l=>bc (v==x) (i:Int) (ixB v (i+1) l)
namespace PIx
noncomputable def RUN (s:ES):ZF:=RZ 52 .nil (atS 0 52 2) [] [[(0,none),(1,none),(7,none),(8,none)]] false s
noncomputable def sF (l:List Int) (v i:Int):NS:=⟨[⟨52,19,[(0,(il l)),(1,(iv v)),(7,(iv (Int.ofNat l.length))),(8,iv i)],[.it (.code (nav [1,0,1,0,0] (bodyOf Try.f52))),.it (.inLoop (nav [1,0,1,0,0] (bodyOf Try.f52))),.it (.inBlock 0),.it (.code (nav [1,1] (bodyOf Try.f52)))],[],Option.none⟩],[],0⟩
theorem in_t (l:List Int) (v:Int):RUN (st0 52 [il l,iv v])=(.at (sF l v 0)):=by kernel_rfl
theorem step_t (l:List Int) (v i:Int):RUN (stOf (sF l v i))=(bc (decide (i<Int.ofNat l.length)) (bc (bc (bc (decide (0≤i)) (Nat.blt i.toNat l.length) false) true false) (bc (bc (Nat.blt i.toNat l.length) true false) (bc (v==l.getD i.toNat 0) (.done (iv i) [] 0) (.at (sF l v (IntKind.i64.wrap (i+1))))) .bad) .bad) (.done (iv (-1)) [] 0)):=by kernel_rfl
theorem loop {l:List Int} {v:Int} (hl:l.length≤100000):∀ (k i:Nat),i+k=l.length→EndZ 52 .nil false (stOf (sF l v i)) (iv (ixB v i (l.drop i))) [] 0
 | 0,i,h=>by
  have h1:=step_t l v i;rw [List.drop_eq_nil_of_le (by omega)];simp (disch:=omega) only [yS] at h1;exact .done h1
 | k+1,i,h=>by
  have hi:i<l.length:=by omega
  have h1:=step_t l v i;have e:l.getD i 0=l[i]:=zaf hi;rw [List.drop_eq_getElem_cons hi];unfold ixB;simp (disch:=omega) only [yS,e] at h1;cases hb:v==l[i] <;> rw [hb] at h1
  ·exact .at (.nil _) h1 (loop hl k (i+1) (by omega))
  ·exact .done h1
end PIx
noncomputable def spIx:ZCT:=fun ax=>match ax with
 | [.lst (.ints .i64 l),.v (.int .i64 v)]=>some ⟨decide (l.length≤100000),iv (ixB v 0 l),[],0⟩
 | _=>none
theorem zur:ZCtOk Try.prog 52 spIx:=fun γ w us ax r hs hc hax hN hfz=>by
 unfold spIx at hs;split at hs
 case h_2=>cases hs
 rename_i l v;obtain ⟨rfl⟩:=Option.some.inj hs;have hc_0:decide (l.length≤100000)=true:=hc;have hc:=of_decide_eq_true hc_0;exact EndZ.calls (.at (.nil _) (PIx.in_t l v) (PIx.loop hc l.length 0 (Nat.zero_add _))) (.nil _) (by kernel_rfl) hax hN hfz
namespace PIl
noncomputable def RUN (s:ES):ZF:=RZ 96 .nil (atS 0 96 2) [] [[(0,none),(1,none),(7,none),(8,none)]] false s
noncomputable def sF (l:List Int) (v i:Int):NS:=⟨[⟨96,19,[(0,(il l)),(1,(iv v)),(7,(iv (Int.ofNat (List.length l)))),(8,iv i)],[.it (.code (nav [1,0,1,0,0] (bodyOf Try.f96))),.it (.inLoop (nav [1,0,1,0,0] (bodyOf Try.f96))),.it (.inBlock 0),.it (.code (nav [1,1] (bodyOf Try.f96)))],[],Option.none⟩],[],0⟩
theorem in_t (l:List Int) (v:Int):RUN (st0 96 [il l,iv v])=(.at (sF l v 0)):=by kernel_rfl
theorem step_t (l:List Int) (v i:Int):RUN (stOf (sF l v i))=(bc (decide (i<Int.ofNat l.length)) (bc (bc (bc (decide (0≤i)) (Nat.blt i.toNat l.length) false) true false) (bc (bc (Nat.blt i.toNat l.length) true false) (bc (v==l.getD i.toNat 0) (.done (iv i) [] 0) (.at (sF l v (IntKind.i64.wrap (i+1))))) .bad) .bad) (.done (iv (-1)) [] 0)):=by kernel_rfl
theorem loop {l:List Int} {v:Int} (hl:l.length≤100000):∀ (k i:Nat),i+k=l.length→EndZ 96 .nil false (stOf (sF l v i)) (iv (ixB v i (l.drop i))) [] 0
 | 0,i,h=>by
  have h1:=step_t l v i;rw [List.drop_eq_nil_of_le (by omega)];simp (disch:=omega) only [yS] at h1;exact .done h1
 | k+1,i,h=>by
  have hi:i<l.length:=by omega
  have h1:=step_t l v i;have e:l.getD i 0=l[i]:=zaf hi;rw [List.drop_eq_getElem_cons hi];unfold ixB;simp (disch:=omega) only [yS,e] at h1;cases hb:v==l[i] <;> rw [hb] at h1
  ·exact .at (.nil _) h1 (loop hl k (i+1) (by omega))
  ·exact .done h1
end PIl
noncomputable def spIl:ZCT:=fun ax=>match ax with
 | [.lst (.ints .i64 l),.v (.int .i64 v)]=>some ⟨decide (l.length≤100000),iv (ixB v 0 l),[],0⟩
 | _=>none
theorem zus:ZCtOk Try.prog 96 spIl:=fun γ w us ax r hs hc hax hN hfz=>by
 unfold spIl at hs;split at hs
 case h_2=>cases hs
 rename_i l v;obtain ⟨rfl⟩:=Option.some.inj hs;have hc_0:decide (l.length≤100000)=true:=hc;have hc:=of_decide_eq_true hc_0;exact EndZ.calls (.at (.nil _) (PIl.in_t l v) (PIl.loop hc l.length 0 (Nat.zero_add _))) (.nil _) (by kernel_rfl) hax hN hfz
noncomputable def ctSu:Tr ZCC:=Tr.nil.put 96 (some (dC spIl))
theorem zf4:ZCtsOk Try.prog ctSu:=(ZCtsOk.nil _).add rfl zus
namespace PSus
noncomputable def RUN (s:ES):ZF:=RZs 68 ctSu [(atS 0 68 3,[[(0,none),(1,none),(2,none),(6,none),(8,none),(12,none),(13,none)]])] [] false s
noncomputable def sL (A B x:List Int) (a p:Int):NS:=⟨[⟨68,58,[(0,(il A)),(1,(il B)),(2,(iv a)),(6,(EV.ptr 0 0)),(8,(EV.ptr 1 0)),(12,(iv (Int.ofNat (List.length A)))),(13,iv p)],[.it (.code (nav [1,1,0,1,0,0] (bodyOf Try.f68))),.it (.inLoop (nav [1,1,0,1,0,0] (bodyOf Try.f68))),.it (.inBlock 0),.it (.code (nav [1,1,1] (bodyOf Try.f68)))],[],Option.none⟩],[(0,(EK.seq 53 (SyC.ints IntKind.i64 [(0),(0),(0),(0)]) true)),(1,EK.seq 53 (.ints .i64 x) true)],2⟩
theorem in_t (A B:List Int) (a:Int):RUN (st0 68 [il A,il B,iv a])=(.at (sL A B (zerosL 4) a 0)):=by kernel_rfl
theorem l_t (A B x:List Int) (a p:Int):RUN (stOf (sL A B x a p))=(bc (decide (p<Int.ofNat A.length)) (bc (decide (IntKind.i64.wrap (p-IntKind.i64.wrap ((2:Int)*a))<0)) (bc (bc (bc (bc (bc (decide (0≤p)) (Nat.blt p.toNat A.length) false) true false) (bc (bc (Nat.blt p.toNat A.length) true false) (bc (bc (bc (decide (0≤p)) (Nat.blt p.toNat B.length) false) true false) (bc (bc (Nat.blt p.toNat B.length) true false) true false) false) false) false) true false) (bc (A.getD p.toNat 0 != B.getD p.toNat 0) (bc (bc (Nat.beq 4 x.length) true false) (bc (bc (Nat.beq x.length 4) (Nat.beq [(0:Int),(0:Int),(0:Int),(0:Int)].length 4) false) (bc (bc (Nat.beq 4 x.length) true false) (.done (EV.tup [(EV.arr (SyC.ints IntKind.i64 x)),(bv false)]) [] 0) .bad) .bad) .bad) (.at (sL A B x a (IntKind.i64.wrap (p+1))))) .bad) (bc (decide (3<IntKind.i64.wrap (p-IntKind.i64.wrap ((2:Int)*a)))) (bc (bc (bc (bc (bc (decide (0≤p)) (Nat.blt p.toNat A.length) false) true false) (bc (bc (Nat.blt p.toNat A.length) true false) (bc (bc (bc (decide (0≤p)) (Nat.blt p.toNat B.length) false) true false) (bc (bc (Nat.blt p.toNat B.length) true false) true false) false) false) false) true false) (bc (A.getD p.toNat 0 != B.getD p.toNat 0) (bc (bc (Nat.beq 4 x.length) true false) (bc (bc (Nat.beq x.length 4) (Nat.beq [(0:Int),(0:Int),(0:Int),(0:Int)].length 4) false) (bc (bc (Nat.beq 4 x.length) true false) (.done (EV.tup [(EV.arr (SyC.ints IntKind.i64 x)),(bv false)]) [] 0) .bad) .bad) .bad) (.at (sL A B x a (IntKind.i64.wrap (p+1))))) .bad) (bc (bc (bc (bc (bc (decide (0≤IntKind.i64.wrap ((2:Int)*a))) (bc (decide (IntKind.i64.wrap ((2:Int)*a)≤IntKind.i64.wrap (IntKind.i64.wrap ((2:Int)*a)+4))) (decide (IntKind.i64.wrap (IntKind.i64.wrap ((2:Int)*a)+4)≤Int.ofNat A.length)) false) false) true false) (bc (bc (bc (decide (0≤p)) (Nat.blt p.toNat B.length) false) true false) (bc (bc (Nat.blt p.toNat B.length) true false) (bc (bc (decide ((List.drop (IntKind.i64.wrap ((2:Int)*a)).toNat (List.take (IntKind.i64.wrap (IntKind.i64.wrap ((2:Int)*a)+4)).toNat A)).length≤100000)) true false) (bc (bc (bc (decide (0≤IntKind.i64.wrap (p-IntKind.i64.wrap ((2:Int)*a)))) (Nat.blt (IntKind.i64.wrap (p-IntKind.i64.wrap ((2:Int)*a))).toNat 4) false) true false) (bc (Nat.blt (IntKind.i64.wrap (p-IntKind.i64.wrap ((2:Int)*a))).toNat x.length) true false) false) false) false) false) false) true false) (bc (bc (bc (decide (0≤IntKind.i64.wrap (p-IntKind.i64.wrap ((2:Int)*a)))) (Nat.blt (IntKind.i64.wrap (p-IntKind.i64.wrap ((2:Int)*a))).toNat 4) false) true false) (bc (bc (Nat.blt (IntKind.i64.wrap (p-IntKind.i64.wrap ((2:Int)*a))).toNat (List.set x (IntKind.i64.wrap (p-IntKind.i64.wrap ((2:Int)*a))).toNat (IntKind.i64.wrap (1+ixB (B.getD p.toNat 0) 0 (List.drop (IntKind.i64.wrap ((2:Int)*a)).toNat (List.take (IntKind.i64.wrap (IntKind.i64.wrap ((2:Int)*a)+4)).toNat A))))).length) true false) (bc ((List.set x (IntKind.i64.wrap (p-IntKind.i64.wrap ((2:Int)*a))).toNat (IntKind.i64.wrap (1+ixB (B.getD p.toNat 0) 0 (List.drop (IntKind.i64.wrap ((2:Int)*a)).toNat (List.take (IntKind.i64.wrap (IntKind.i64.wrap ((2:Int)*a)+4)).toNat A))))).getD (IntKind.i64.wrap (p-IntKind.i64.wrap ((2:Int)*a))).toNat 0==0) (bc (bc (Nat.beq 4 (List.set x (IntKind.i64.wrap (p-IntKind.i64.wrap ((2:Int)*a))).toNat (IntKind.i64.wrap (1+ixB (B.getD p.toNat 0) 0 (List.drop (IntKind.i64.wrap ((2:Int)*a)).toNat (List.take (IntKind.i64.wrap (IntKind.i64.wrap ((2:Int)*a)+4)).toNat A))))).length) true false) (bc (bc (Nat.beq (List.set x (IntKind.i64.wrap (p-IntKind.i64.wrap ((2:Int)*a))).toNat (IntKind.i64.wrap (1+ixB (B.getD p.toNat 0) 0 (List.drop (IntKind.i64.wrap ((2:Int)*a)).toNat (List.take (IntKind.i64.wrap (IntKind.i64.wrap ((2:Int)*a)+4)).toNat A))))).length 4) (Nat.beq [(0:Int),(0:Int),(0:Int),(0:Int)].length 4) false) (bc (bc (Nat.beq 4 (List.set x (IntKind.i64.wrap (p-IntKind.i64.wrap ((2:Int)*a))).toNat (IntKind.i64.wrap (1+ixB (B.getD p.toNat 0) 0 (List.drop (IntKind.i64.wrap ((2:Int)*a)).toNat (List.take (IntKind.i64.wrap (IntKind.i64.wrap ((2:Int)*a)+4)).toNat A))))).length) true false) (.done (EV.tup [(EV.arr (SyC.ints IntKind.i64 (List.set x (IntKind.i64.wrap (p-IntKind.i64.wrap ((2:Int)*a))).toNat (IntKind.i64.wrap (1+ixB (B.getD p.toNat 0) 0 (List.drop (IntKind.i64.wrap ((2:Int)*a)).toNat (List.take (IntKind.i64.wrap (IntKind.i64.wrap ((2:Int)*a)+4)).toNat A))))))),(bv false)]) [] 0) .bad) .bad) .bad) (.at (sL A B (List.set x (IntKind.i64.wrap (p-IntKind.i64.wrap ((2:Int)*a))).toNat (IntKind.i64.wrap (1+ixB (B.getD p.toNat 0) 0 (List.drop (IntKind.i64.wrap ((2:Int)*a)).toNat (List.take (IntKind.i64.wrap (IntKind.i64.wrap ((2:Int)*a)+4)).toNat A))))) a (IntKind.i64.wrap (p+1))))) .bad) .bad) .bad))) (bc (bc (Nat.beq 4 x.length) true false) (bc (bc (Nat.beq x.length 4) (Nat.beq [(0:Int),(0:Int),(0:Int),(0:Int)].length 4) false) (bc (bc (Nat.beq 4 x.length) true false) (.done (EV.tup [(EV.arr (SyC.ints IntKind.i64 x)),(bv true)]) [] 0) .bad) .bad) .bad)):=by kernel_rfl
end PSus
noncomputable def susR (A B:List Int) (o:Nat) (x:List Int) (p:Nat):Nat→List Int×Bool
 | 0=>(x,true)
 | j+1=>bc (bc (decide (p<o)) true (decide (o+3<p))) (bc (A.getD p 0 != B.getD p 0) (x,false) (susR A B o x (p+1) j))
   (bc (1+ixB (B.getD p 0) 0 ((A.take (o+4)).drop o)==0) (x.set (p-o) (1+ixB (B.getD p 0) 0 ((A.take (o+4)).drop o)),false) (susR A B o (x.set (p-o) (1+ixB (B.getD p 0) 0 ((A.take (o+4)).drop o))) (p+1) j))
noncomputable def susL (A B:List Int) (o:Nat):List Int×Bool:=susR A B o (zerosL 4) 0 A.length
theorem zts (v:Int):∀ (l:List Int) (i:Nat),-1≤ixB v i l∧ixB v i l<(i:Int)+l.length+1
 | [],i=>by unfold ixB;simp;omega
 | x::l,i=>by
  unfold ixB;have:=zts v l (i+1);rw [List.length_cons];cases v==x
  ·rw [bc_f];omega
  ·rw [bc_t];omega
namespace PSus
theorem loop {A B:List Int} {a:Nat} (hA:A.length≤1000) (hB:B.length=A.length) (ha:2*a+4≤A.length):∀ (j p:Nat) (x:List Int),p+j=A.length→x.length=4→EndZ 68 ctSu false (stOf (sL A B x a p)) (.tup [.arr (.ints .i64 (susR A B (2*a) x p j).1),bv (susR A B (2*a) x p j).2]) [] 0
 | 0,p,x,h,hx=>by
  have h1:=l_t A B x a p;have e0:[(0:Int),0,0,0].length=4:=rfl;simp (disch:=omega) only [yS,hx,e0] at h1;exact .done h1
 | j+1,p,x,h,hx=>by
  have hp:p<A.length:=by omega
  have h1:=l_t A B x a p;have e0:[(0:Int),0,0,0].length=4:=rfl;have w1:IntKind.i64.wrap (2*(a:Int))=((2*a:Nat):Int):=by rw [zao _ (by omega) (by omega)];omega
  have w2:IntKind.i64.wrap (((2*a:Nat):Int)+4)=((2*a+4:Nat):Int):=by rw [zao _ (by omega) (by omega)];omega
  have w3:IntKind.i64.wrap ((p:Int)-((2*a:Nat):Int))=(p:Int)-((2*a:Nat):Int):=zao _ (by omega) (by omega);rw [w1,w2,w3] at h1;unfold susR
  by_cases c1:p<2*a
  ·rw [dt c1,bc_t,bc_t];have c1':(p:Int)-((2*a:Nat):Int)<0:=by omega
   simp (disch:=omega) only [yS,hx,hB,e0] at h1;cases hq:A.getD p 0 != B.getD p 0 <;> rw [hq] at h1
   ·exact .at zf4 h1 (loop hA hB ha j (p+1) x (by omega) hx)
   ·exact .done h1
  rw [df c1,bc_f];obtain ⟨d,hd⟩:∃ d,p=2*a+d:=⟨p-2*a,by omega⟩;have e1:(p:Int)-((2*a:Nat):Int)=(d:Int):=by omega
  have e2:p-2*a=d:=by omega
  rw [e1] at h1;rw [e2]
  by_cases c2:2*a+3<p
  ·rw [dt c2,bc_t];simp (disch:=omega) only [yS,hx,hB,e0] at h1;cases hq:A.getD p 0 != B.getD p 0 <;> rw [hq] at h1
   ·exact .at zf4 h1 (loop hA hB ha j (p+1) x (by omega) hx)
   ·exact .done h1
  rw [df c2,bc_f];generalize hV:ixB (B.getD p 0) 0 ((A.take (2*a+4)).drop (2*a))=v;have hv:=zts (B.getD p 0) ((A.take (2*a+4)).drop (2*a)) 0;have hlen:((A.take (2*a+4)).drop (2*a)).length=4:=by rw [List.length_drop,List.length_take];omega
  rw [hV,hlen] at hv;simp only [za1] at h1;rw [hV] at h1;have w4:IntKind.i64.wrap (1+v)=1+v:=zao _ (by omega) (by omega);have hg:(x.set d (1+v)).getD d 0=1+v:=by
   rw [List.getD_eq_getElem?_getD,List.getElem?_set,if_pos rfl,if_pos (by omega)];rfl
  rw [w4,hg] at h1;simp (disch:=omega) only [yS,hx,hB,e0,hlen,List.length_set] at h1;cases hq:(1+v==0) <;> rw [hq] at h1
  ·exact .at zf4 h1 (loop hA hB ha j (p+1) _ (by omega) (by rw [List.length_set];exact hx))
  ·exact .done h1
theorem ends {A B:List Int} {a:Int} (h1:0≤a) (h2:2*a+4≤(A.length:Int)) (h3:A.length≤1000) (h4:B.length=A.length):EndZ 68 ctSu false (st0 68 [il A,il B,iv a]) (.tup [.arr (.ints .i64 (susL A B (2*a).toNat).1),bv (susL A B (2*a).toNat).2]) [] 0:=by
 obtain ⟨a,rfl⟩:=Int.eq_ofNat_of_zero_le h1;have e:(2*(a:Int)).toNat=2*a:=by omega
 rw [e];exact .at zf4 (in_t A B a) (loop h3 h4 (by omega) A.length 0 (zerosL 4) (Nat.zero_add _) (by unfold zerosL;simp))
end PSus
noncomputable def spSus:ZCT:=fun ax=>match ax with
 | [.lst (.ints .i64 A),.lst (.ints .i64 B),.v (.int .i64 a)]=>some ⟨decide ((0≤a∧2*a+4≤(A.length:Int))∧A.length≤1000∧B.length=A.length),.tup [.arr (.ints .i64 (susL A B (2*a).toNat).1),bv (susL A B (2*a).toNat).2],[],0⟩
 | _=>none
theorem zrs:ZCtOk Try.prog 68 spSus:=fun γ w us ax r hs hc hax hN hfz=>by
 unfold spSus at hs;split at hs
 case h_2=>cases hs
 rename_i A B a;obtain ⟨rfl⟩:=Option.some.inj hs;have hc_0:decide ((0≤a∧2*a+4≤(A.length:Int))∧A.length≤1000∧B.length=A.length)=true:=hc;have hc:=of_decide_eq_true hc_0;exact EndZ.calls (PSus.ends hc.1.1 hc.1.2 hc.2.1 hc.2.2) zf4 (by kernel_rfl) hax hN hfz
theorem zc5 {l:List Int} {i x:Nat} {v:Int}:(l.set i v).getD x 0=if x=i∧i<l.length then v else l.getD x 0:=by
 rw [List.getD_eq_getElem?_getD,List.getD_eq_getElem?_getD,List.getElem?_set]
 by_cases h:i=x
 ·subst h
  by_cases h2:i<l.length
  ·simp [h2]
  ·simp [h2]
 ·rw [if_neg h,if_neg (by omega)]
theorem zcb {a b:List Int} (hl:a.length=b.length) (h:∀ x,x<a.length→a.getD x 0=b.getD x 0):a=b:=by
 apply List.ext_getElem hl;intro x h1 h2;have:=h x h1
 rwa [zaf h1,zaf h2] at this
def In4 (X:List Int):Prop:=X.length=4∧∀ k,k<4→1≤X.getD k 0∧X.getD k 0≤4
theorem Pm4.in4 {P:List Int} (h:Pm4 P):In4 P:=⟨h.len,fun _ hk=>h.mem hk⟩
theorem zpo (o:Nat) (was P:List Int):∀ (j k:Nat) (q:List Int),k+j≤4→o+4≤q.length→∀ x,(fwB o was P q k j).getD x 0=if o+k≤x∧x<o+k+j then was.getD (P.getD (x-o) 0-1).toNat 0 else q.getD x 0
 | 0,k,q,h,hq,x=>by
  show q.getD x 0=_;rw [if_neg (by omega)]
 | j+1,k,q,h,hq,x=>by
  unfold fwB;rw [zpo o was P j (k+1) _ (by omega) (by rw [List.length_set];exact hq),zc5]
  by_cases h1:x=o+k
  ·subst h1;rw [if_neg (by omega),if_pos ⟨rfl,by omega⟩,if_pos ⟨by omega,by omega⟩,show o+k-o=k by omega]
  ·by_cases h2:o+(k+1)≤x∧x<o+(k+1)+j
   ·rw [if_pos h2,if_pos (by omega)]
   ·rw [if_neg h2,if_neg (fun e=>h1 e.1),if_neg (by omega)]
theorem zeg {o:Nat} {P q:List Int} (hP:In4 P) (hq:o+4≤q.length) (x:Nat):(mvQ false o P q).getD x 0=if o≤x∧x<o+4 then q.getD (o+(P.getD (x-o) 0-1).toNat) 0 else q.getD x 0:=by
 unfold mvQ;rw [bc_f,zpo o _ P 4 0 q (by omega) hq]
 by_cases h:o≤x∧x<o+4
 ·rw [if_pos (by omega),if_pos h];have:=hP.2 (x-o) (by omega);rw [List.getD_eq_getElem?_getD,List.getElem?_take,if_pos (by omega),List.getElem?_drop,← List.getD_eq_getElem?_getD]
 ·rw [if_neg (by omega),if_neg h]
theorem zkv (o:Nat) (was P:List Int) (hP:In4 P):∀ (j k:Nat) (q:List Int),k+j≤4→∀ x,¬ (o≤x∧x<o+4)→(bkB o was P q k j).getD x 0=q.getD x 0
 | 0,k,q,h,x,hx=>rfl
 | j+1,k,q,h,x,hx=>by
  have:=hP.2 k (by omega);unfold bkB;rw [zkv o was P hP j (k+1) _ (by omega) x hx,zc5,if_neg (by omega)]
theorem Pm4.inj {P:List Int} (h:Pm4 P) {i j:Nat} (hi:i<4) (hj:j<4) (e:P.getD i 0=P.getD j 0):i=j:=by
 have hn:P.Nodup:=h.nodup_iff.2 (by decide);have hl:=h.len;rw [zaf (by omega),zaf (by omega)] at e;exact (List.getElem_inj hn).1 e
theorem zqj {o:Nat} {was P:List Int} (hP:Pm4 P):∀ (j k:Nat) (q:List Int),k+j=4→o+4≤q.length→∀ i,i<4→(bkB o was P q k j).getD (o+(P.getD i 0-1).toNat) 0=if k≤i then was.getD i 0 else q.getD (o+(P.getD i 0-1).toNat) 0
 | 0,k,q,h,hq,i,hi=>by
  show q.getD _ 0=_;rw [if_neg (by omega)]
 | j+1,k,q,h,hq,i,hi=>by
  have hk:=hP.mem (show k<4 by omega);have hi2:=hP.mem hi;unfold bkB;rw [zqj hP j (k+1) _ (by omega) (by rw [List.length_set];exact hq) i hi,zc5]
  by_cases h1:i=k
  ·subst h1;rw [if_neg (by omega),if_pos ⟨rfl,by omega⟩,if_pos (Nat.le_refl _)]
  ·have hne:¬ (o+(P.getD i 0-1).toNat=o+(P.getD k 0-1).toNat):=fun e=>h1 (hP.inj hi (by omega) (by omega))
   by_cases h2:k+1≤i
   ·rw [if_pos h2,if_pos (by omega)]
   ·rw [if_neg h2,if_neg (fun e=>hne e.1),if_neg (by omega)]
theorem Pm4.has {P:List Int} (h:Pm4 P) {v:Nat} (hv:v<4):∃ i,i<4∧P.getD i 0=(v:Int)+1:=by
 have hm:((v:Int)+1)∈P:=h.mem_iff.2 (by
  have:v=0∨v=1∨v=2∨v=3:=by omega
  rcases this with rfl|rfl|rfl|rfl <;> decide)
 obtain ⟨i,hi,he⟩:=List.mem_iff_getElem.1 hm;have hl:=h.len;exact ⟨i,by omega,by rw [zaf hi];exact he⟩
theorem mv_un {o:Nat} {P q:List Int} (hP:Pm4 P) (hq:o+4≤q.length):mvQ false o P (mvQ true o P q)=q:=by
 have hl:(mvQ true o P q).length=q.length:=zbm ..;refine zcb (by rw [zbm,zbm]) fun x hx=>?_;rw [zeg hP.in4 (by rw [hl];exact hq)]
 by_cases h:o≤x∧x<o+4
 ·rw [if_pos h];unfold mvQ;rw [bc_t,zqj hP 4 0 q (by omega) hq (x-o) (by omega),if_pos (Nat.zero_le _),List.getD_eq_getElem?_getD,List.getElem?_take,if_pos (by omega),List.getElem?_drop,show o+(x-o)=x by omega,← List.getD_eq_getElem?_getD]
 ·rw [if_neg h];unfold mvQ;rw [bc_t,zkv o _ P hP.in4 4 0 q (by omega) x h]
theorem un_mv {o:Nat} {P q:List Int} (hP:Pm4 P) (hq:o+4≤q.length):mvQ true o P (mvQ false o P q)=q:=by
 have hl:(mvQ false o P q).length=q.length:=zbm ..;refine zcb (by rw [zbm,zbm]) fun x hx=>?_
 by_cases h:o≤x∧x<o+4
 ·obtain ⟨i,hi,he⟩:=hP.has (v:=x-o) (by omega);have hx2:x=o+(P.getD i 0-1).toNat:=by omega
  rw [hx2];show (bkB o (((mvQ false o P q).drop o).take 4) P (mvQ false o P q) 0 4).getD _ 0=_;rw [zqj hP 4 0 _ (by omega) (by rw [hl];exact hq) i hi,if_pos (Nat.zero_le _),List.getD_eq_getElem?_getD,List.getElem?_take,if_pos hi,List.getElem?_drop,← List.getD_eq_getElem?_getD,zeg hP.in4 hq,if_pos (by omega),show o+i-o=i by omega]
 ·show (bkB o (((mvQ false o P q).drop o).take 4) P (mvQ false o P q) 0 4).getD _ 0=_;rw [zkv o _ P hP.in4 4 0 _ (by omega) x h,zeg hP.in4 hq,if_neg h]
theorem zn0 {o:Nat} {q:List Int} (hq:o+4≤q.length):q=q.take o++((q.drop o).take 4++q.drop (o+4)):=by
 rw [show q.drop (o+4)=(q.drop o).drop 4 by rw [List.drop_drop],List.take_append_drop,List.take_append_drop]
theorem zu8 {o:Nat} {P q:List Int} (hP:In4 P) (hq:o+4≤q.length):mvQ false o P q=q.take o++(P.map (fun v=>((q.drop o).take 4).getD (v-1).toNat 0)++q.drop (o+4)):=by
 have hl:P.length=4:=hP.1;refine zcb (by rw [zbm];simp;omega) fun x hx=>?_;rw [zbm] at hx;rw [zeg hP hq]
 by_cases h:o≤x∧x<o+4
 ·rw [if_pos h,List.getD_eq_getElem?_getD (l:=_++_),List.getElem?_append_right (by rw [List.length_take];omega),List.getElem?_append_left (by rw [List.length_map,List.length_take];omega),List.length_take,show min o q.length=o by omega,List.getElem?_map,List.getElem?_eq_getElem (by omega)];have hv:=hP.2 (x-o) (by omega);rw [zaf (show x-o<P.length by omega)] at hv;show _=((q.drop o).take 4).getD (P[x-o]-1).toNat 0
  rw [zaf (show x-o<P.length by omega),List.getD_eq_getElem?_getD (l:=(q.drop o).take 4),List.getElem?_take,if_pos (by omega),List.getElem?_drop,← List.getD_eq_getElem?_getD]
 ·rw [if_neg h,List.getD_eq_getElem?_getD (l:=_++_)]
  by_cases h2:x<o
  ·rw [List.getElem?_append_left (by rw [List.length_take];omega),List.getElem?_take,if_pos h2,← List.getD_eq_getElem?_getD]
  ·rw [List.getElem?_append_right (by rw [List.length_take];omega),List.getElem?_append_right (by rw [List.length_map,List.length_take];omega),List.length_take,List.length_map,show min o q.length=o by omega,hl,List.getElem?_drop,show o+4+(x-o-4)=x by omega,← List.getD_eq_getElem?_getD]
theorem zvc {W:List Int} (h:W.length=4):[1,2,3,4].map (fun v:Int=>W.getD (v-1).toNat 0)=W:=by
 obtain ⟨a,b,c,d,rfl⟩:=list4 h;rfl
theorem zsf {o:Nat} {P q:List Int} (hP:Pm4 P) (hq:o+4≤q.length):(mvQ false o P q).Perm q:=by
 rw [zu8 hP.in4 hq];have hw:((q.drop o).take 4).length=4:=by rw [List.length_take,List.length_drop];omega
 have h1:(P.map (fun v=>((q.drop o).take 4).getD (v-1).toNat 0)).Perm ((q.drop o).take 4):=by
  have:=hP.map (fun v=>((q.drop o).take 4).getD (v-1).toNat 0)
  rwa [zvc hw] at this
 have h2:=(h1.append_right (q.drop (o+4))).append_left (q.take o)
 rwa [← zn0 hq] at h2
theorem zpg {v:Int}:∀ (l:List Int) (i:Nat),(∃ k,k<l.length∧ixB v i l=(i:Int)+k∧l.getD k 0=v)∨(ixB v i l = -1∧∀ k,k<l.length→l.getD k 0≠v)
 | [],i=>.inr ⟨rfl,fun k hk=>by simp at hk⟩
 | x::l,i=>by
  unfold ixB;cases h:v==x
  ·rw [bc_f];have hne:x≠v:=fun e=>by subst e;simp at h
   rcases zpg (v:=v) l (i+1) with ⟨k,h1,h2,h3⟩|⟨h1,h2⟩
   ·exact .inl ⟨k+1,by simp;omega,by rw [h2];omega,h3⟩
   ·refine .inr ⟨h1,fun k hk=>?_⟩
    cases k with
    | zero=>exact hne
    | succ k=>exact h2 k (by simpa using hk)
  ·rw [bc_t];have:v=x:=by simpa using h
   exact .inl ⟨0,by simp,by omega,this.symm⟩
noncomputable def wyL (A B:List Int) (o:Nat):List Int:=(List.range 4).map fun k=>1+ixB (B.getD (o+k) 0) 0 ((A.take (o+4)).drop o)
theorem zny (A B:List Int) (o:Nat) {k:Nat} (hk:k<4):(wyL A B o).getD k 0=1+ixB (B.getD (o+k) 0) 0 ((A.take (o+4)).drop o):=by
 unfold wyL;rw [List.getD_eq_getElem?_getD,List.getElem?_map,List.getElem?_range hk];rfl
def SusOk (A B:List Int) (o p:Nat):Prop:=∀ x,p≤x→x<A.length→(¬ (o≤x∧x<o+4)→A.getD x 0=B.getD x 0)∧((o≤x∧x<o+4)→1+ixB (B.getD x 0) 0 ((A.take (o+4)).drop o)≠0)
theorem zjr {A B:List Int} {o:Nat} (ho:o+4≤A.length):∀ (j p:Nat) (x:List Int),p+j=A.length→x.length=4→(∀ k,k<4→o+k<p→x.getD k 0=(wyL A B o).getD k 0)→((susR A B o x p j).2=true↔SusOk A B o p)∧(SusOk A B o p→(susR A B o x p j).1=wyL A B o)
 | 0,p,x,h,hx,hw=>by
  unfold susR;refine ⟨⟨fun _ y h1 h2=>by omega,fun _=>rfl⟩,fun _=>?_⟩;have hl:(wyL A B o).length=4:=by unfold wyL;simp
  exact zcb (by rw [hl];exact hx) fun k hk=>by
   have hk:k<4:=by rw [← hx];exact hk
   exact hw k hk (by omega)
 | j+1,p,x,h,hx,hw=>by
  unfold susR
  by_cases c:o≤p∧p<o+4
  ·have e:bc (decide (p<o)) true (decide (o+3<p))=false:=by rw [df (by omega),bc_f,df (by omega)]
   rw [e,bc_f];obtain ⟨d,rfl⟩:∃ d,p=o+d:=⟨p-o,by omega⟩;rw [show o+d-o=d by omega];generalize hv:1+ixB (B.getD (o+d) 0) 0 ((A.take (o+4)).drop o)=v;cases h0:v==0
   ·rw [bc_f];have hv0:v≠0:=by simpa using h0
    have key:=zjr (B:=B) ho j (o+d+1) (x.set d v) (by omega) (by rw [List.length_set];exact hx) fun k hk hkp=>by
     rw [zc5]
     by_cases e:k=d
     ·subst e;rw [if_pos ⟨rfl,by omega⟩,zny A B o hk,hv]
     ·rw [if_neg (fun h=>e h.1)];exact hw k hk (by omega)
    have hs:SusOk A B o (o+d)↔SusOk A B o (o+d+1):=by
     constructor
     ·exact fun h y h1 h2=>h y (by omega) h2
     ·intro h y h1 h2
      by_cases e:y=o+d
      ·subst e;exact ⟨fun e=>absurd c e,fun _=>by rw [hv];exact hv0⟩
      ·exact h y (by omega) h2
    rw [hs];exact key
   ·rw [bc_t];have hv0:v=0:=by simpa using h0
    have hno:¬ SusOk A B o (o+d):=fun h=>(h (o+d) (Nat.le_refl _) (by omega)).2 c (by rw [hv];exact hv0);exact ⟨⟨fun e=>(by cases e),fun e=>absurd e hno⟩,fun e=>absurd e hno⟩
  ·have e:bc (decide (p<o)) true (decide (o+3<p))=true:=by
    by_cases h1:p<o
    ·rw [dt h1,bc_t]
    ·rw [df h1,bc_f,dt (by omega)]
   rw [e,bc_t];cases h0:A.getD p 0 != B.getD p 0
   ·rw [bc_f];have hv0:A.getD p 0=B.getD p 0:=by simpa using h0
    have key:=zjr (B:=B) ho j (p+1) x (by omega) hx fun k hk hkp=>hw k hk (by omega);have hs:SusOk A B o p↔SusOk A B o (p+1):=by
     constructor
     ·exact fun h y h1 h2=>h y (by omega) h2
     ·intro h y h1 h2
      by_cases e:y=p
      ·subst e;exact ⟨fun _=>hv0,fun e=>absurd e c⟩
      ·exact h y (by omega) h2
    rw [hs];exact key
   ·rw [bc_t];have hv0:A.getD p 0≠B.getD p 0:=by simpa using h0
    have hno:¬ SusOk A B o p:=fun h=>hv0 ((h p (Nat.le_refl _) (by omega)).1 c);exact ⟨⟨fun e=>(by cases e),fun e=>absurd e hno⟩,fun e=>absurd e hno⟩
theorem zn1 {A:List Int} {o k:Nat} (ho:o+4≤A.length) (hk:k<4):((A.take (o+4)).drop o).getD k 0=A.getD (o+k) 0:=by
 rw [List.getD_eq_getElem?_getD,List.getElem?_drop,List.getElem?_take,if_pos (by omega),← List.getD_eq_getElem?_getD]
theorem zjp {A:List Int} {o:Nat} (ho:o+4≤A.length):((A.take (o+4)).drop o).length=4:=by rw [List.length_drop,List.length_take];omega
theorem zuj {A B:List Int} {o:Nat} (ho:o+4≤A.length) (hB:B.length=A.length) (hn:A.Nodup) {X:List Int} (hX:In4 X):mvQ false o X A=B↔(susL A B o).2=true∧X=(susL A B o).1:=by
 obtain ⟨k1,k2⟩:=zjr (B:=B) ho A.length 0 (zerosL 4) (Nat.zero_add _) (by unfold zerosL;simp) (fun k _ h=>by omega);have hA:∀ i j,i<A.length→j<A.length→A.getD i 0=A.getD j 0→i=j:=fun i j hi hj e=>by
  rw [zaf hi,zaf hj] at e;exact (List.getElem_inj hn).1 e
 have hwin:∀ v:Int,∀ k,k<4→A.getD (o+k) 0=v→ixB v 0 ((A.take (o+4)).drop o)=(k:Int):=fun v k hk e=>by
  rcases zpg (v:=v) ((A.take (o+4)).drop o) 0 with ⟨k',h1,h2,h3⟩|⟨h1,h2⟩
  ·rw [zjp ho] at h1;rw [zn1 ho h1] at h3;have:=hA (o+k') (o+k) (by omega) (by omega) (by rw [h3,e]);omega
  ·exact absurd (by rw [zn1 ho hk];exact e) (h2 k (by rw [zjp ho];exact hk))
 constructor
 ·intro h;have hget:∀ x,B.getD x 0=if o≤x∧x<o+4 then A.getD (o+(X.getD (x-o) 0-1).toNat) 0 else A.getD x 0:=fun x=>by
   rw [← h];exact zeg hX ho x
  have hix:∀ k,k<4→1+ixB (B.getD (o+k) 0) 0 ((A.take (o+4)).drop o)=X.getD k 0:=fun k hk=>by
   have hxk:=hX.2 k hk;have:=hwin (B.getD (o+k) 0) (X.getD k 0-1).toNat (by omega) (by rw [hget,if_pos (by omega),show o+k-o=k by omega]);omega
  have hs:SusOk A B o 0:=fun x _ hx=>⟨fun hx2=>by rw [hget,if_neg hx2],fun hx2=>by
   have h3:=hix (x-o) (by omega);rw [show o+(x-o)=x by omega] at h3;have:=hX.2 (x-o) (by omega);omega⟩
  refine ⟨k1.2 hs,?_⟩;show X=(susR A B o (zerosL 4) 0 A.length).1;rw [k2 hs];exact zcb (by rw [hX.1];unfold wyL;simp) fun k hk=>by
   rw [hX.1] at hk;rw [zny A B o hk,hix k hk]
 ·rintro ⟨h1,h2⟩
  have hs:=k1.1 h1;have h2:X=wyL A B o:=h2.trans (k2 hs);refine zcb (by rw [zbm,hB]) fun x hx=>?_;rw [zbm] at hx;rw [zeg hX ho]
  by_cases c:o≤x∧x<o+4
  ·rw [if_pos c,h2,zny A B o (by omega),show o+(x-o)=x by omega];rcases zpg (v:=B.getD x 0) ((A.take (o+4)).drop o) 0 with ⟨k',h1,h2,h3⟩|⟨h1,h2⟩
   ·rw [zjp ho] at h1;rw [zn1 ho h1] at h3;rw [h2,show (1+(((0:Nat):Int)+(k':Int))-1).toNat=k' by omega];exact h3
   ·exact absurd (by rw [h1];rfl) ((hs x (Nat.zero_le _) hx).2 c)
  ·rw [if_neg c];exact (hs x (Nat.zero_le _) hx).1 c
noncomputable def srt (p:List Int):List Int:=p.mergeSort (fun x y=>decide (x≤y))
theorem zdb (p:List Int):(srt p).Perm p:=List.mergeSort_perm p _
theorem zrk (p:List Int):(srt p).Pairwise (fun x y=>x≤y):=by
 have:=List.pairwise_mergeSort (le:=fun x y:Int=>decide (x≤y)) (fun a b c h1 h2=>by
  have h1:=of_decide_eq_true h1;have h2:=of_decide_eq_true h2;exact decide_eq_true (Int.le_trans h1 h2)) (fun a b=>by
  rcases Int.le_total a b with h|h
  ·simp [h]
  ·simp [h]) p
 exact this.imp fun h=>of_decide_eq_true h
section
open Go.Proofs Go.RowKit Go.Sort
theorem zdm (l:List Int):(srt l).length=l.length:=(zdb l).length_eq
theorem zca (k:IntKind) (l:List Int):(SyC.ints k l).enc=l.map fun x=>EV.v (.int k x):=rfl
theorem HR.putInts {γ:G} {w0:Bs} {H:Tr EK} {n:Nat} {w:World} (h:HR γ w0 H n w) {i:Nat} (hi:Nat.ble i 65535=true) {ty:TypeId} {k:IntKind} {l l':List Int} {nn:Bool} (hg:H.get i=some (.seq ty (.ints k l) nn)) {b:Pl} {m:Nat} (hγ:γ i=some (b,m)) (hl:l'.length=l.length) (hn:¬ (EK.seq ty (.ints k l) nn).Nil) (q:Nat) :
  HR γ w0 (H.put i (some (.seq ty (.ints k l') nn))) n (Go.Sort.putRow (Value.int k) (Go.Sort.ahead w q) b.k b.s l'.toArray):=by
 obtain ⟨b2,m2,e1,e2,ca,⟨fz,e3,e3'⟩,e4,e5,e6⟩:=h.hp i _ hg hn;rw [hγ] at e1;simp only [Option.some.injEq,Prod.mk.injEq] at e1;obtain ⟨rfl,rfl⟩:=e1;have hw:∀ c,(Go.Sort.putRow (Value.int k) (Go.Sort.ahead w q) b.k b.s l'.toArray).heap[c]? = if b.k=c then some (.cells (Go.Sort.putCells (Value.int k) b.s l'.toArray ca) ty fz) else w.heap[c]?:=fun c=>by
  unfold Go.Sort.putRow Go.Sort.mapBlock;show (w.heap.modify b.k _)[c]? = _;rw [Array.getElem?_modify]
  by_cases hc:b.k=c
  ·subst hc;rw [if_pos rfl,if_pos rfl,e3];rfl
  ·rw [if_neg hc,if_neg hc]
 have hsz:(Go.Sort.putRow (Value.int k) (Go.Sort.ahead w q) b.k b.s l'.toArray).heap.size=w.heap.size:=by
  unfold Go.Sort.putRow Go.Sort.mapBlock;show (w.heap.modify b.k _).size=_;simp [Go.Sort.ahead]
 have hcs:(Go.Sort.putCells (Value.int k) b.s l'.toArray ca).size=ca.size:=by unfold Go.Sort.putCells;simp
 have hle:(SyC.ints k l').enc.length=(SyC.ints k l).enc.length:=by rw [zca,zca,List.length_map,List.length_map,hl]
 refine h.turn hi hg hγ _ (fun c hc=>by rw [hw,if_neg (fun e=>hc e.symm)]) hsz rfl rfl rfl ?_ hn;refine ⟨_,⟨fz,by rw [hw,if_pos rfl],e3'.imp id fun e=>by rw [hcs];exact e⟩,by rw [hcs];exact e4,by rw [hle];exact e5,?_,?_⟩
 ·have hcl:(Go.Sort.putCells (Value.int k) b.s l'.toArray ca).toList.length=ca.size:=(Array.length_toList).trans hcs;rw [List.length_take,List.length_drop,hcl,hle];omega
 ·intro j a x ha hx;rw [zca,List.getElem?_map] at ha;have hj:j<l'.length:=by
   rcases Nat.lt_or_ge j l'.length with hj|hj
   ·exact hj
   ·rw [List.getElem?_eq_none hj] at ha;cases ha
  rw [List.getElem?_eq_getElem hj] at ha;injection ha with ha
  subst ha;rw [List.getElem?_take,if_pos (by rw [zca,List.length_map];exact hj),List.getElem?_drop,Array.getElem?_toList] at hx;unfold Go.Sort.putCells at hx;rw [Array.getElem?_mapIdx] at hx;have hlt:b.s+j<ca.size:=by
   rw [zca,List.length_map] at e5;omega
  rw [Array.getElem?_eq_getElem hlt] at hx;simp only [Option.map_some,Option.some.injEq] at hx;rw [if_pos ⟨by omega,by simp;omega⟩] at hx;have:l'.toArray[b.s+j-b.s]! = l'[j]:=by
   rw [show b.s+j-b.s=j by omega];simp [hj]
  rw [this] at hx;subst hx;exact .v _
noncomputable def spSort:ZMT:=fun ax K0 m=>match ax,K0 with
 | [.slO 0 1 len nn],[(0,.seq ty (.ints .i64 l) nn')]=>bc (Nat.beq m 1) (some ⟨bc (Nat.beq len l.length) (bc (Nat.ble len 65536) (bc nn nn' true) false) false,.tup [],[(0,.seq ty (.ints .i64 (srt l)) nn')],1,1⟩) none
 | _,_=>none
theorem zn9:ZMtOk Try.prog 82 spSort:=fun γ w0 w us ax K0 m r hs hc hres hax hH=>by
 unfold spSort at hs;split at hs
 case h_2=>cases hs
 rename_i len nn ty l nn';obtain ⟨hm,rfl⟩:=noN hs;have hm:=Nat.eq_of_beq_eq_true hm;subst hm;obtain ⟨hc1,hc2⟩:=bcT (show bc (Nat.beq len l.length) (bc (Nat.ble len 65536) (bc nn nn' true) false) false=true from hc)
 obtain ⟨hc2,hc3⟩:=bcT hc2;have hc1:=Nat.eq_of_beq_eq_true hc1;have hc2:=Nat.le_of_ble_eq_true hc2;subst hc1;obtain ⟨x,r1,e1,hx,hcr⟩:=ECL.inv hax;have e3:r1=[]:=by apply List.eq_nil_of_length_eq_zero;have:=hcr.1;simpa using this.symm
 subst e3;have eu:us = #[x]:=by apply Array.ext';simpa using e1
 rw [eu];have hg:(mkT [(0,EK.seq ty (.ints .i64 l) nn')]).get 0=some (.seq ty (.ints .i64 l) nn'):=rfl
 cases hx with
 | slO _ _ _ _ _ hx=>
 cases nn with
 | false=>
  obtain ⟨rfl,hl⟩:=hx.1 rfl;have hl:l=[]:=List.eq_nil_of_length_eq_zero hl;subst hl;refine (Try.slices_Sort_int_none none 0 w).mono ?_
  rintro e w' ⟨rfl,rfl⟩
  exact ⟨γ,_,rfl,.tup [] [] rfl (fun j a x h=>by simp at h),by rw [show srt []=[] from List.eq_nil_of_length_eq_zero (by rw [zdm];rfl)];exact hH,fun j p _ h=>h⟩
 | true=>
  obtain ⟨b,mm,c,g1,rfl,g2,g3,g4⟩:=hx.2 rfl;have hnn:nn'=true:=hc3;subst hnn;have hn:¬ (EK.seq ty (.ints .i64 l) true).Nil:=fun e=>by cases e.1
  obtain ⟨b2,m2,q1,q2,ca,q3,q4,q5,q6⟩:=hH.hp 0 _ hg hn;rw [g1] at q1;simp only [Option.some.injEq,Prod.mk.injEq] at q1;obtain ⟨rfl,rfl⟩:=q1;have hholds:Go.Sort.Holds (Value.int .i64) w b.k b.s l.toArray:=fun j hj=>by
   have hj:j<l.length:=by simpa using hj
   obtain ⟨c1,c2⟩:=zae (off:=j) q3;have hlt:b.s+j<ca.size:=by rw [zca,List.length_map] at q5;omega
   refine ⟨?_,c2 hlt⟩;rw [show (⟨b.k,b.s+j,none⟩:Addr)=b.at j from rfl,c1,Array.getElem?_eq_getElem hlt]
   have h1:=q6.2 j (.v (.int .i64 l[j])) ca[b.s+j] (by rw [zca,List.getElem?_map,List.getElem?_eq_getElem hj];rfl) (by
    rw [List.getElem?_take,if_pos (by rw [zca,List.length_map];exact hj),List.getElem?_drop,Array.getElem?_toList,Array.getElem?_eq_getElem hlt])
   rw [ec_v h1];simp [hj]
  have hblk:=hH.lt 0 _ g1;refine (Try.slices_Sort_int b.k b.s c l w hholds hblk (by omega)).mono ?_
  rintro e w' ⟨rfl,q,os,rfl⟩
  have h1:=hH.putInts (l':=srt l) rfl hg g1 (zdm l) hn q;have hsz:(Go.Sort.putRow (Value.int .i64) (Go.Sort.ahead w q) b.k b.s (srt l).toArray).heap.size=w.heap.size:=by
   unfold Go.Sort.putRow Go.Sort.mapBlock;show (w.heap.modify b.k _).size=_;simp [Go.Sort.ahead]
  have hb:Below (Go.Sort.putRow (Value.int .i64) (Go.Sort.ahead w q) b.k b.s (srt l).toArray).heap.size (Go.Sort.putRow (Value.int .i64) (Go.Sort.ahead w q) b.k b.s (srt l).toArray) (Go.Sort.grow (Go.Sort.putRow (Value.int .i64) (Go.Sort.ahead w q) b.k b.s (srt l).toArray) os):=
   ⟨rfl,rfl,rfl,by rw [Go.Sort.size_grow];omega,fun k hk=>Go.Sort.heap_grow_old _ _ hk⟩
  refine ⟨γ,_,rfl,.tup [] [] rfl (fun j a x h=>by simp at h),?_,fun j p _ h=>h⟩;refine (h1.below hb).congr fun j k hj=>?_;rw [Tr.get_put (by rfl)]
  by_cases hj0:j=0
  ·subst hj0;rw [if_pos rfl];exact hj
  ·rw [if_neg hj0];have:=zcp hj;simp at this;exact absurd this.1 hj0
end
section
noncomputable def iotL (z:Nat):List Int:=(List.range z).map fun i=>((i:Nat):Int)
theorem zbs (z:Nat):(iotL z).length=z:=by unfold iotL;simp
theorem zvd {z p:Nat} (h:p<z):(iotL z).getD p 0=(p:Int):=by
 unfold iotL;rw [List.getD_eq_getElem?_getD,List.getElem?_map,List.getElem?_range h];rfl
theorem zem (z:Nat):(iotL z).Nodup:=by
 show List.Pairwise _ _;unfold iotL;rw [List.pairwise_map];exact List.Pairwise.imp (fun {a b} h e=>h (by have e:(a:Int)=b:=e;omega)) (List.nodup_range (n:=z))
theorem zpj {q:List Int} {z:Nat} (hq:q.length=z) (h:∀ p,p<z→q.getD p 0=(p:Int)):q=iotL z:=
 zcb (by rw [zbs];exact hq) fun x hx=>by rw [h x (by omega),zvd (by omega)]
noncomputable def oR (r:List U):Nat:=(2*rA r).toNat
noncomputable def pR (r:List U):List Int:=plWd (rW r)
noncomputable def fwF (l:List (List U)) (z:Nat):Nat→List Int
 | 0=>iotL z
 | i+1=>mvQ false (oR (l.getD i [])) (pR (l.getD i [])) (fwF l z i)
noncomputable def bkF (l:List (List U)) (e:List Int):Nat→List Int
 | 0=>e
 | j+1=>mvQ true (oR (l.getD (l.length-1-j) [])) (pR (l.getD (l.length-1-j) [])) (bkF l e j)
theorem zdr (l:List (List U)) (z:Nat):∀ i,(fwF l z i).length=z
 | 0=>zbs z
 | i+1=>by unfold fwF;rw [zbm,zdr l z i]
theorem zku (l:List (List U)) (e:List Int):∀ j,(bkF l e j).length=e.length
 | 0=>rfl
 | j+1=>by unfold bkF;rw [zbm,zku l e j]
noncomputable def suB (l:List (List U)) (e:List Int) (z i:Nat):List Int×Bool:=susL (fwF l z i) (bkF l e (l.length-1-i)) (oR (l.getD i []))
noncomputable def sspR (l:List (List U)) (e:List Int) (z:Nat):Nat→List (List Int)
 | 0=>[]
 | i+1=>sspR l e z i++bc (suB l e z i).2 [(i:Int)::(suB l e z i).1] []
theorem zg3 (A B:List Int) (o:Nat):∀ (j p:Nat) (x:List Int),x.length=4→(susR A B o x p j).1.length=4
 | 0,p,x,h=>h
 | j+1,p,x,h=>by
  unfold susR;cases bc (decide (p<o)) true (decide (o+3<p))
  ·rw [bc_f];cases (1+ixB (B.getD p 0) 0 ((A.take (o+4)).drop o)==0)
   ·rw [bc_f];exact zg3 A B o j (p+1) _ (by rw [List.length_set];exact h)
   ·rw [bc_t];show (x.set _ _).length=4;rw [List.length_set];exact h
  ·rw [bc_t];cases (A.getD p 0 != B.getD p 0)
   ·rw [bc_f];exact zg3 A B o j (p+1) x h
   ·rw [bc_t];exact h
theorem zrf (A B:List Int) (o:Nat):(susL A B o).1.length=4:=zg3 A B o _ _ _ (by unfold zerosL;simp)
theorem zk9 (l:List (List U)) (e:List Int) (z:Nat):∀ i,(sspR l e z i).length≤i
 | 0=>Nat.le_refl _
 | i+1=>by
  have:=zk9 l e z i;unfold sspR;rw [List.length_append];cases (suB l e z i).2
  ·rw [bc_f];simp;omega
  ·rw [bc_t];simp;omega
noncomputable def sspU (l:List (List U)) (e:List Int) (z:Nat):List (List U):=(sspR l e z l.length).map (·.map U.i)
open Classical in
noncomputable def sspE (n:Int) (l:List (List U)) (e:List Int):Int:=bc (chk4 n l != 0) (chk4 n l) (if srt e=iotL (2*n).toNat then 0 else 2)
open Classical in
noncomputable def sspV (n:Int) (l:List (List U)) (e:List Int):List (List U):=bc (chk4 n l != 0) [] (if srt e=iotL (2*n).toNat then sspU l e (2*n).toNat else [])
end
noncomputable def ctSs:Tr ZCC:=(((Tr.nil.put 36 (some (dC spPChk4))).put 82 (some (mC spSort))).put 95 (some (mC spMov))).put 68 (some (dC spSus))
theorem zbi:ZCtsOk Try.prog ctSs:=((((ZCtsOk.nil _).add rfl zed).addM rfl zn9).addM rfl zr0).add rfl zrs
noncomputable def spSortE:ZMT:=fun ax K0 m=>match ax,K0 with
 | [.slO 0 1 len nn],[(0,.seq ty (.ints .i64 l) nn')]=>bc (Nat.beq m 1) (some ⟨bc nn false (bc nn' false (Nat.beq l.length 0)),.tup [],[(0,.seq ty (.ints .i64 l) nn')],1,0⟩) none
 | _,_=>none
theorem zms:ZMtOk Try.prog 82 spSortE:=fun γ w0 w us ax K0 m r hs hc hres hax hH=>by
 unfold spSortE at hs;split at hs
 case h_2=>cases hs
 rename_i len nn ty l nn';obtain ⟨hm,rfl⟩:=noN hs;have hm:=Nat.eq_of_beq_eq_true hm;subst hm;have hc:bc nn false (bc nn' false (Nat.beq l.length 0))=true:=hc
 cases nn with
 | true=>cases hc
 | false=>
 cases nn' with
 | true=>cases hc
 | false=>
 obtain ⟨x,r1,e1,hx,hcr⟩:=ECL.inv hax;have e3:r1=[]:=by apply List.eq_nil_of_length_eq_zero;have:=hcr.1;simpa using this.symm
 subst e3;have eu:us = #[x]:=by apply Array.ext';simpa using e1
 rw [eu]
 cases hx with
 | slO _ _ _ _ _ hx=>
 obtain ⟨rfl,hl⟩:=hx.1 rfl;refine (Try.slices_Sort_int_none none 0 w).mono ?_
 rintro e w' ⟨rfl,rfl⟩
 exact ⟨γ,_,rfl,.tup [] [] rfl (fun j a x h=>by simp at h),hH,fun j p h _=>by omega⟩
noncomputable def ctSs0:Tr ZCC:=((Tr.nil.put 36 (some (dC spPChk4))).put 82 (some (mC spSortE)))
theorem zs7:ZCtsOk Try.prog ctSs0:=((ZCtsOk.nil _).add rfl zed).addM rfl zms
noncomputable abbrev sh5:List Sh:=[.int .i64,.int .i64,.int .i64,.int .i64,.int .i64]
namespace PSsp
noncomputable def RUN (s:ES):ZF:=RZs 25 ctSs [
 (atS 0 25 6,[[(1,none),(2,none),(7,none),(30,none),(31,none)]]),
 (atS 4 94 1,[[(0,none),(5,none),(6,none),(7,none)],[(2,some (1,3,.ints .i64 []))],[],[],[(1,none),(2,none),(7,none)]]),
 (atS 0 25 11,[[(1,none),(2,none),(7,none),(9,none)]]),
 (atS 1 63 4,[[(0,none),(1,none),(12,none),(13,none)],[(1,none),(2,none),(7,none)]]),
 (atS 0 25 17,[[(2,none),(7,none),(10,none),(11,none),(12,none),(13,none)]]),
 (atS 0 25 24,[[(7,none),(10,none),(14,some (5,55,.recs sh5 [])),(15,none),(77,none),(78,none),(79,none)]])] [2] false s
noncomputable def RUN0 (s:ES):ZF:=RZs 25 ctSs0 [(atS 0 25 11,[[(1,none),(2,none),(7,none),(9,some (1,3,.ints .i64 []))]])] [] false s
noncomputable abbrev args (n:Int) (l:List (List U)) (e:List Int):List EV:=[.agg [iv n,wl l],il e]
noncomputable def sA (n:Int) (l:List (List U)) (e q:List Int) (z:Nat) (i:Int):NS:=⟨[⟨25,107,[(1,(il e)),(2,(EV.ptr 0 0)),(7,EV.slO 1 1 z true),(30,iv (z:Nat)),(31,iv i)],[.it (.code (nav [1,1,1,0,1,0,0] (bodyOf Try.f25))),.it (.inLoop (nav [1,1,1,0,1,0,0] (bodyOf Try.f25))),.it (.inBlock 0),.it (.code (nav [1,1,1,1] (bodyOf Try.f25)))],[],Option.none⟩],[(0,(EK.cells 24 [(iv n),(EV.lst (SyC.recs [(Sh.int IntKind.i64),(Sh.int IntKind.i64),Sh.str] l))] true)),(1,EK.seq 3 (.ints .i64 q) true)],2⟩
noncomputable def sV (n:Int) (l:List (List U)) (e q:List Int) (z:Nat) (o:List Int) (nn:Bool) (i:Int):NS:=⟨[⟨94,16,[(0,(EV.yl 0)),(5,(il e)),(6,(iv (Int.ofNat (List.length e)))),(7,iv i)],[.it (.code (nav [1,0,0] (bodyOf Try.f94))),.it (.inLoop (nav [1,0,0] (bodyOf Try.f94))),.it (.inBlock 0)],[],Option.none⟩,⟨120,13,[(2,(EV.ptr 1 0))],[(.inRF 0),.it (.inBlock 0),.it (.code (nav [1,1] (bodyOf Try.f120)))],[(DE.mk 2)],Option.none⟩,⟨93,5,[],[.ops (opsOf (nav [1,0] (bodyOf Try.f93))) ((opsOf (nav [1,0] (bodyOf Try.f93))).toList.drop 1),.it (.code (nav [1,1] (bodyOf Try.f93)))],[],Option.none⟩,⟨61,9,[],[.ops (opsOf (nav [1,0] (bodyOf Try.f61))) ((opsOf (nav [1,0] (bodyOf Try.f61))).toList.drop 1),.it (.code (nav [1,1] (bodyOf Try.f61)))],[],Option.none⟩,⟨25,107,[(1,(il e)),(2,(EV.ptr 3 0)),(7,EV.slO 4 1 z true)],[.ops (opsOf (nav [1,1,1,1,0,0] (bodyOf Try.f25))) ((opsOf (nav [1,1,1,1,0,0] (bodyOf Try.f25))).toList.drop 2),.it (.code (nav [1,1,1,1,0,1] (bodyOf Try.f25))),.it (.code (nav [1,1,1,1,1] (bodyOf Try.f25)))],[],Option.none⟩],[(0,(EK.loop LoopState.ready Option.none 120 13 (Tr.node Option.none (Tr.node Option.none Tr.nil (Tr.node (Option.some (EV.ptr 1 0)) Tr.nil Tr.nil)) Tr.nil) (Array.mk [7]) (nav [1,0,1,0,0] (bodyOf Try.f120)) (nav [1,0,1,0,1] (bodyOf Try.f120)) 2)),(1,EK.cells 28 [EV.slO 5 1 o.length nn] true),(2,(EK.dfr true)),(3,(EK.cells 24 [(iv n),(EV.lst (SyC.recs [(Sh.int IntKind.i64),(Sh.int IntKind.i64),Sh.str] l))] true)),(4,(EK.seq 3 (SyC.ints IntKind.i64 q) true)),(5,EK.seq 3 (.ints .i64 o) nn)],6⟩
noncomputable def sF (n:Int) (l:List (List U)) (e q:List Int) (z:Nat) (o:List Int) (y:Nat):NS:=⟨[⟨25,107,[(1,il e),(2,(EV.ptr 0 0)),(7,(EV.slO 1 1 z true)),(9,EV.slO 2 1 y true)],[.it (.code (nav [1,1,1,1,0,1] (bodyOf Try.f25))),.it (.code (nav [1,1,1,1,1] (bodyOf Try.f25)))],[],Option.none⟩],[(0,(EK.cells 24 [(iv n),(EV.lst (SyC.recs [(Sh.int IntKind.i64),(Sh.int IntKind.i64),Sh.str] l))] true)),(1,(EK.seq 3 (SyC.ints IntKind.i64 q) true)),(2,EK.seq 3 (.ints .i64 o) true)],3⟩
noncomputable def sE (n:Int) (l:List (List U)) (e q:List Int) (z:Nat) (o:List Int) (y:Nat) (i:Int):NS:=⟨[⟨63,26,[(0,EV.slO 0 1 y true),(1,EV.slO 1 1 z true),(12,iv (y:Nat)),(13,iv i)],[.it (.code (nav [1,1,0,1,0,0] (bodyOf Try.f63))),.it (.inLoop (nav [1,1,0,1,0,0] (bodyOf Try.f63))),.it (.inBlock 0),.it (.code (nav [1,1,1] (bodyOf Try.f63)))],[],Option.none⟩,⟨25,107,[(1,(il e)),(2,(EV.ptr 2 0)),(7,EV.slO 1 1 z true)],[.ops (opsOf (nav [1,1,1,1,0,1,0] (bodyOf Try.f25))) ((opsOf (nav [1,1,1,1,0,1,0] (bodyOf Try.f25))).toList.drop 2),.it (.code (nav [1,1,1,1,0,1,1] (bodyOf Try.f25))),.it (.code (nav [1,1,1,1,1] (bodyOf Try.f25)))],[],Option.none⟩],[(0,(EK.seq 3 (SyC.ints IntKind.i64 o) true)),(1,(EK.seq 3 (SyC.ints IntKind.i64 q) true)),(2,(EK.cells 24 [(iv n),(EV.lst (SyC.recs [(Sh.int IntKind.i64),(Sh.int IntKind.i64),Sh.str] l))] true))],3⟩
noncomputable def sG (n:Int) (l:List (List U)) (q:List Int) (z:Nat):NS:=⟨[⟨25,107,[(1,(il [])),(2,(EV.ptr 0 0)),(7,(EV.slO 1 1 z true)),(9,(EV.slO 2 1 0 false))],[.it (.code (nav [1,1,1,1,0,1] (bodyOf Try.f25))),.it (.code (nav [1,1,1,1,1] (bodyOf Try.f25)))],[],Option.none⟩],[(0,(EK.cells 24 [(iv n),(EV.lst (SyC.recs [(Sh.int IntKind.i64),(Sh.int IntKind.i64),Sh.str] l))] true)),(1,(EK.seq 3 (SyC.ints IntKind.i64 q) true))],3⟩
noncomputable def sU (n:Int) (l:List (List U)) (q:List Int) (z m y v:Nat) (r:List (List U)) (c:List Int) (i:Int):NS:=⟨[⟨25,107,[(2,(EV.ptr 0 0)),(7,(EV.slO 1 1 z true)),(10,EV.slO 2 1 m true),(11,EV.slO 3 1 y true),(12,EV.mt 65 [EV.slO 3 1 y true]),(13,iv i)],[.it (.code (nav [1,1,1,1,1,1,1,1,0,1,0,0,0] (bodyOf Try.f25))),.it (.code (nav [1,1,1,1,1,1,1,1,0,1,0,0,1] (bodyOf Try.f25))),.it (.inLoop (nav [1,1,1,1,1,1,1,1,0,1,0,0] (bodyOf Try.f25))),.it (.inBlock 2),.it (.code (nav [1,1,1,1,1,1,1,1,1] (bodyOf Try.f25)))],[],Option.none⟩],[(0,(EK.cells 24 [(iv n),(EV.lst (SyC.recs [(Sh.int IntKind.i64),(Sh.int IntKind.i64),Sh.str] l))] true)),(1,(EK.seq 3 (SyC.ints IntKind.i64 q) true)),(2,EK.nest 2 (112,[3]) [.list [.int .i64]] r v [] true),(3,EK.seq 3 (.ints .i64 c) true)],4⟩
noncomputable def sO (l:List (List U)) (q:List Int) (z m v:Nat) (r:List (List U)) (o:List (List U)) (nn:Bool) (i:Int):NS:=⟨[⟨25,107,[(7,(EV.slO 0 1 z true)),(10,(EV.slO 1 1 m true)),(14,EV.slO 2 5 o.length nn),(15,(EV.mt 67 [(EV.slO 0 1 z true)])),(77,(EV.lst (SyC.recs [(Sh.int IntKind.i64),(Sh.int IntKind.i64),Sh.str] l))),(78,(iv (Int.ofNat (List.length l)))),(79,iv i)],[.it (.code (nav [1,1,1,1,1,1,1,1,1,1,1,0,1,0,0] (bodyOf Try.f25))),.it (.inLoop (nav [1,1,1,1,1,1,1,1,1,1,1,0,1,0,0] (bodyOf Try.f25))),.it (.inBlock 4),.it (.code (nav [1,1,1,1,1,1,1,1,1,1,1,1] (bodyOf Try.f25)))],[],Option.none⟩],[(0,(EK.seq 3 (SyC.ints IntKind.i64 q) true)),(1,(EK.nest 1 (112,[3]) [(Sh.list [(Sh.int IntKind.i64)])] r v [] true)),(2,EK.seq 55 (.recs sh5 o) nn)],3⟩
theorem in_t (n:Int) (l:List (List U)) (e:List Int):RUN (st0 25 (args n l e))=(bc (chk4 n l != 0) (.done (EV.tup [(EV.v (Value.slice Option.none 0 0)),(iv (chk4 n l))]) [] 0) (bc (bc (decide (0≤IntKind.i64.wrap ((2:Int)*n))) (bc (decide (IntKind.i64.wrap ((2:Int)*n)≤IntKind.i64.wrap ((2:Int)*n))) (decide (IntKind.i64.wrap ((2:Int)*n)≤65536)) false) false) (.at (sA n l e (zerosL (IntKind.i64.wrap ((2:Int)*n)).toNat) (zerosL (IntKind.i64.wrap ((2:Int)*n)).toNat).length 0)) .bad)):=by kernel_rfl
theorem a_t (n:Int) (l:List (List U)) (e q:List Int) (z:Nat) (i:Int):RUN (stOf (sA n l e q z i))=(bc (decide (i<(Nat.cast z:Int))) (bc (bc (bc (decide (0≤i)) (Nat.blt i.toNat z) false) true false) (bc (Nat.blt i.toNat q.length) (.at (sA n l e (List.set q i.toNat i) z (IntKind.i64.wrap (i+1)))) .bad) .bad) (.at (sV n l e q z [] false 0))):=by kernel_rfl
theorem v_t (n:Int) (l:List (List U)) (e q:List Int) (z:Nat) (o:List Int) (nn:Bool) (i:Int):RUN (stOf (sV n l e q z o nn i))=(bc (decide (i<Int.ofNat e.length)) (bc (bc (bc (decide (0≤i)) (Nat.blt i.toNat e.length) false) true false) (bc (bc (Nat.blt i.toNat e.length) true false) (bc (bc (Nat.beq o.length o.length) (bc (Nat.ble (o.length+([e.getD i.toNat 0]).length) 65536) (bc nn true (bc nn false true)) false) false) (.at (sV n l e q z (o++[e.getD i.toNat 0]) (bc nn true (Nat.blt 0 ([e.getD i.toNat 0]).length)) (IntKind.i64.wrap (i+1)))) .bad) .bad) .bad) (bc (bc (bc (Nat.beq o.length o.length) (bc (Nat.ble o.length 65536) (bc nn nn true) false) false) (bc nn true false) false) (.at ⟨[⟨25,107,[(1,(il e)),(2,(EV.ptr 0 0)),(7,(EV.slO 1 1 z true)),(9,(EV.slO 2 1 o.length nn))],[.it (.code (nav [1,1,1,1,0,1] (bodyOf Try.f25))),.it (.code (nav [1,1,1,1,1] (bodyOf Try.f25)))],[],Option.none⟩],[(0,(EK.cells 24 [(iv n),(EV.lst (SyC.recs [(Sh.int IntKind.i64),(Sh.int IntKind.i64),Sh.str] l))] true)),(1,(EK.seq 3 (SyC.ints IntKind.i64 q) true)),(2,(EK.seq 3 (SyC.ints IntKind.i64 (srt o)) nn))],3⟩) .bad)):=by kernel_rfl
theorem ve_t (n:Int) (l:List (List U)) (e q:List Int) (z:Nat) (o:List Int) (i:Int):RUN (stOf (sV n l e q z o true i))=(bc (decide (i<Int.ofNat e.length)) (bc (bc (bc (decide (0≤i)) (Nat.blt i.toNat e.length) false) true false) (bc (bc (Nat.blt i.toNat e.length) true false) (bc (bc (Nat.beq o.length o.length) (bc (Nat.ble (o.length+([e.getD i.toNat 0]).length) 65536) true false) false) (.at (sV n l e q z (o++[e.getD i.toNat 0]) true (IntKind.i64.wrap (i+1)))) .bad) .bad) .bad) (bc (bc (bc (Nat.beq o.length o.length) (bc (Nat.ble o.length 65536) true false) false) true false) (.at (sF n l e q z (srt o) o.length)) .bad)):=by kernel_rfl
theorem v0_t (n:Int) (l:List (List U)) (q:List Int) (z:Nat):RUN0 (stOf (sV n l [] q z [] false 0))=(.at (sG (n) (l) (q) (z))):=by kernel_rfl
theorem g_t (n:Int) (l:List (List U)) (q:List Int) (z:Nat):RUN (stOf (sG n l q z))=(bc (Int.ofNat 0 != Int.ofNat z) (.done (EV.tup [(EV.v (Value.slice Option.none 0 0)),(iv (2))]) [] 0) (.at ⟨[⟨63,26,[(0,(EV.slO 0 1 0 false)),(1,(EV.slO 1 1 z true)),(12,(iv (0))),(13,(iv (0)))],[.it (.code (nav [1,1,0,1,0,0] (bodyOf Try.f63))),.it (.inLoop (nav [1,1,0,1,0,0] (bodyOf Try.f63))),.it (.inBlock 0),.it (.code (nav [1,1,1] (bodyOf Try.f63)))],[],Option.none⟩,⟨25,107,[(1,(il [])),(2,(EV.ptr 2 0)),(7,(EV.slO 1 1 z true))],[.ops (opsOf (nav [1,1,1,1,0,1,0] (bodyOf Try.f25))) ((opsOf (nav [1,1,1,1,0,1,0] (bodyOf Try.f25))).toList.drop 2),.it (.code (nav [1,1,1,1,0,1,1] (bodyOf Try.f25))),.it (.code (nav [1,1,1,1,1] (bodyOf Try.f25)))],[],Option.none⟩],[(1,(EK.seq 3 (SyC.ints IntKind.i64 q) true)),(2,(EK.cells 24 [(iv n),(EV.lst (SyC.recs [(Sh.int IntKind.i64),(Sh.int IntKind.i64),Sh.str] l))] true))],3⟩)):=by kernel_rfl
theorem f_t (n:Int) (l:List (List U)) (e q:List Int) (z:Nat) (o:List Int) (y:Nat):RUN (stOf (sF n l e q z o y))=(bc (Int.ofNat y != Int.ofNat z) (.done (EV.tup [(EV.v (Value.slice Option.none 0 0)),(iv (2))]) [] 0) (.at (sE n l e q z o y 0))):=by kernel_rfl
theorem e_t (n:Int) (l:List (List U)) (e q:List Int) (z:Nat) (o:List Int) (y:Nat) (i:Int):RUN (stOf (sE n l e q z o y i))=(bc (decide (i<(Nat.cast y:Int))) (bc (bc (bc (bc (bc (decide (0≤i)) (Nat.blt i.toNat y) false) true false) (bc (bc (Nat.blt i.toNat o.length) true false) (bc (bc (bc (decide (0≤i)) (Nat.blt i.toNat z) false) true false) (bc (bc (Nat.blt i.toNat q.length) true false) true false) false) false) false) true false) (bc (o.getD i.toNat 0 != q.getD i.toNat 0) (.done (EV.tup [(EV.v (Value.slice Option.none 0 0)),(iv (2))]) [] 0) (.at (sE n l e q z o y (IntKind.i64.wrap (i+1))))) .bad) (bc (bc (decide (Int.ofNat l.length=Int.ofNat l.length)) (decide (Int.ofNat l.length≤65536)) false) (bc (bc (Nat.blt 0 e.length) true false) (bc (bc (Nat.ble (0+e.length) 65536) true false) (.at (sU n l q z (Int.ofNat l.length).toNat ([]++e).length (0) (List.replicate (Int.ofNat l.length).toNat (List.map zeroU [Sh.list [Sh.int IntKind.i64]])) ([]++e) (IntKind.i64.wrap (Int.ofNat l.length-(1:Int))))) .bad) .bad) .bad)):=by kernel_rfl
theorem u_t (n:Int) (l:List (List U)) (q:List Int) (z m y v:Nat) (r:List (List U)) (c:List Int) (i:Int):RUN (stOf (sU n l q z m y v r c i))=(bc (decide (0≤i)) (bc (bc (Nat.beq y c.length) (bc (Nat.ble (0+c.length) 65536) true false) false) (bc (bc (bc (decide (0≤i)) (Nat.blt i.toNat m) false) true false) (bc (bc (Nat.blt i.toNat r.length) (bc (Nat.beq ([]++c).length ([]++c).length) (unHoleC i.toNat 0 []) false) false) (bc (bc (bc (decide (0≤i)) (Nat.blt i.toNat l.length) false) true false) (bc (bc (Nat.blt i.toNat l.length) true false) (bc (bc (bc (Nat.beq y c.length) (decide (chk3 (U.str ((l.getD i.toNat []).getD (Nat.succ (Nat.succ 0)) (U.i 0)))=(0:Int)∧0≤U.int ((l.getD i.toNat []).getD (Nat.succ 0) (U.i 0))∧(2:Int)*U.int ((l.getD i.toNat []).getD (Nat.succ 0) (U.i 0))+4≤(Nat.cast c.length:Int)∧c.length≤1000)) false) true false) (.at (sU n l q z m y (v+1) (List.set r i.toNat (rset 0 (U.l (List.map (fun x=>[U.i x]) ([]++c))) (r.getD i.toNat []))) (mvQ true ((2:Int)*U.int ((l.getD i.toNat []).getD (Nat.succ 0) (U.i 0))).toNat (plWd (U.str ((l.getD i.toNat []).getD (Nat.succ (Nat.succ 0)) (U.i 0)))) c) (IntKind.i64.wrap (i-(1:Int))))) .bad) .bad) .bad) .bad) .bad) .bad) (.at (sO l q z m v r [] false 0))):=by kernel_rfl
theorem o_t (l:List (List U)) (q:List Int) (z m v:Nat) (r:List (List U)) (o:List (List U)) (nn:Bool) (i:Int):RUN (stOf (sO l q z m v r o nn i))=(bc (decide (i<Int.ofNat l.length)) (bc (bc (bc (decide (0≤i)) (Nat.blt i.toNat l.length) false) true false) (bc (bc (Nat.blt i.toNat l.length) true false) (bc (bc (bc (bc (bc (decide (0≤i)) (Nat.blt i.toNat m) false) true false) (bc (bc (bc (Nat.blt i.toNat r.length) true false) true false) (bc (bc (bc (bc (Nat.beq z q.length) (bc (bc (Nat.beq v v) (bc (Nat.blt i.toNat r.length) (Nat.beq (U.list ((r.getD i.toNat []).getD 0 (U.i 0))).length (U.list ((r.getD i.toNat []).getD 0 (U.i 0))).length) false) false) true false) false) (decide ((0≤U.int ((l.getD i.toNat []).getD (Nat.succ 0) (U.i 0))∧(2:Int)*U.int ((l.getD i.toNat []).getD (Nat.succ 0) (U.i 0))+4≤(Nat.cast q.length:Int))∧q.length≤1000∧(List.map (fun r=>U.int (List.headD r (U.i 0))) (U.list ((r.getD i.toNat []).getD 0 (U.i 0)))).length=q.length)) false) true false) (bc (bc (Nat.beq (Prod.fst (susL q (List.map (fun r=>U.int (List.headD r (U.i 0))) (U.list ((r.getD i.toNat []).getD 0 (U.i 0)))) ((2:Int)*U.int ((l.getD i.toNat []).getD (Nat.succ 0) (U.i 0))).toNat)).length 4) (Nat.beq (zerosL 4).length 4) false) true false) false) false) false) true false) (bc (Prod.snd (susL q (List.map (fun r=>U.int (List.headD r (U.i 0))) (U.list ((r.getD i.toNat []).getD 0 (U.i 0)))) ((2:Int)*U.int ((l.getD i.toNat []).getD (Nat.succ 0) (U.i 0))).toNat)) (bc (bc (Nat.beq 4 (Prod.fst (susL q (List.map (fun r=>U.int (List.headD r (U.i 0))) (U.list ((r.getD i.toNat []).getD 0 (U.i 0)))) ((2:Int)*U.int ((l.getD i.toNat []).getD (Nat.succ 0) (U.i 0))).toNat)).length) true false) (bc (Nat.beq (Prod.fst (susL q (List.map (fun r=>U.int (List.headD r (U.i 0))) (U.list ((r.getD i.toNat []).getD 0 (U.i 0)))) ((2:Int)*U.int ((l.getD i.toNat []).getD (Nat.succ 0) (U.i 0))).toNat)).length 4) (bc (bc (Nat.beq o.length o.length) (bc (Nat.ble (o.length+[[U.i i,U.i ((Prod.fst (susL q (List.map (fun r=>U.int (List.headD r (U.i 0))) (U.list ((r.getD i.toNat []).getD 0 (U.i 0)))) ((2:Int)*U.int ((l.getD i.toNat []).getD (Nat.succ 0) (U.i 0))).toNat)).getD 0 (0:Int)),U.i ((Prod.fst (susL q (List.map (fun r=>U.int (List.headD r (U.i 0))) (U.list ((r.getD i.toNat []).getD 0 (U.i 0)))) ((2:Int)*U.int ((l.getD i.toNat []).getD (Nat.succ 0) (U.i 0))).toNat)).getD (0+1) (0:Int)),U.i ((Prod.fst (susL q (List.map (fun r=>U.int (List.headD r (U.i 0))) (U.list ((r.getD i.toNat []).getD 0 (U.i 0)))) ((2:Int)*U.int ((l.getD i.toNat []).getD (Nat.succ 0) (U.i 0))).toNat)).getD (0+1+1) (0:Int)),U.i ((Prod.fst (susL q (List.map (fun r=>U.int (List.headD r (U.i 0))) (U.list ((r.getD i.toNat []).getD 0 (U.i 0)))) ((2:Int)*U.int ((l.getD i.toNat []).getD (Nat.succ 0) (U.i 0))).toNat)).getD (0+1+1+1) (0:Int))]].length) 65536) (bc nn true (bc nn false true)) false) false) (bc (bc (bc (Nat.beq z q.length) (decide (chk3 (U.str ((l.getD i.toNat []).getD (Nat.succ (Nat.succ 0)) (U.i 0)))=(0:Int)∧0≤U.int ((l.getD i.toNat []).getD (Nat.succ 0) (U.i 0))∧(2:Int)*U.int ((l.getD i.toNat []).getD (Nat.succ 0) (U.i 0))+4≤(Nat.cast q.length:Int)∧q.length≤1000)) false) true false) (.at (sO l (mvQ false ((2:Int)*U.int ((l.getD i.toNat []).getD (Nat.succ 0) (U.i 0))).toNat (plWd (U.str ((l.getD i.toNat []).getD (Nat.succ (Nat.succ 0)) (U.i 0)))) q) z m v r (o++[[U.i i,U.i ((Prod.fst (susL q (List.map (fun r=>U.int (List.headD r (U.i 0))) (U.list ((r.getD i.toNat []).getD 0 (U.i 0)))) ((2:Int)*U.int ((l.getD i.toNat []).getD (Nat.succ 0) (U.i 0))).toNat)).getD 0 (0:Int)),U.i ((Prod.fst (susL q (List.map (fun r=>U.int (List.headD r (U.i 0))) (U.list ((r.getD i.toNat []).getD 0 (U.i 0)))) ((2:Int)*U.int ((l.getD i.toNat []).getD (Nat.succ 0) (U.i 0))).toNat)).getD (0+1) (0:Int)),U.i ((Prod.fst (susL q (List.map (fun r=>U.int (List.headD r (U.i 0))) (U.list ((r.getD i.toNat []).getD 0 (U.i 0)))) ((2:Int)*U.int ((l.getD i.toNat []).getD (Nat.succ 0) (U.i 0))).toNat)).getD (0+1+1) (0:Int)),U.i ((Prod.fst (susL q (List.map (fun r=>U.int (List.headD r (U.i 0))) (U.list ((r.getD i.toNat []).getD 0 (U.i 0)))) ((2:Int)*U.int ((l.getD i.toNat []).getD (Nat.succ 0) (U.i 0))).toNat)).getD (0+1+1+1) (0:Int))]]) (bc nn true (Nat.blt 0 [[U.i i,U.i ((Prod.fst (susL q (List.map (fun r=>U.int (List.headD r (U.i 0))) (U.list ((r.getD i.toNat []).getD 0 (U.i 0)))) ((2:Int)*U.int ((l.getD i.toNat []).getD (Nat.succ 0) (U.i 0))).toNat)).getD 0 (0:Int)),U.i ((Prod.fst (susL q (List.map (fun r=>U.int (List.headD r (U.i 0))) (U.list ((r.getD i.toNat []).getD 0 (U.i 0)))) ((2:Int)*U.int ((l.getD i.toNat []).getD (Nat.succ 0) (U.i 0))).toNat)).getD (0+1) (0:Int)),U.i ((Prod.fst (susL q (List.map (fun r=>U.int (List.headD r (U.i 0))) (U.list ((r.getD i.toNat []).getD 0 (U.i 0)))) ((2:Int)*U.int ((l.getD i.toNat []).getD (Nat.succ 0) (U.i 0))).toNat)).getD (0+1+1) (0:Int)),U.i ((Prod.fst (susL q (List.map (fun r=>U.int (List.headD r (U.i 0))) (U.list ((r.getD i.toNat []).getD 0 (U.i 0)))) ((2:Int)*U.int ((l.getD i.toNat []).getD (Nat.succ 0) (U.i 0))).toNat)).getD (0+1+1+1) (0:Int))]].length)) (IntKind.i64.wrap (i+1)))) .bad) .bad) .bad) .bad) (bc (bc (bc (Nat.beq z q.length) (decide (chk3 (U.str ((l.getD i.toNat []).getD (Nat.succ (Nat.succ 0)) (U.i 0)))=(0:Int)∧0≤U.int ((l.getD i.toNat []).getD (Nat.succ 0) (U.i 0))∧(2:Int)*U.int ((l.getD i.toNat []).getD (Nat.succ 0) (U.i 0))+4≤(Nat.cast q.length:Int)∧q.length≤1000)) false) true false) (.at (sO l (mvQ false ((2:Int)*U.int ((l.getD i.toNat []).getD (Nat.succ 0) (U.i 0))).toNat (plWd (U.str ((l.getD i.toNat []).getD (Nat.succ (Nat.succ 0)) (U.i 0)))) q) z m v r o nn (IntKind.i64.wrap (i+1)))) .bad)) .bad) .bad) .bad) (bc (bc (Nat.beq o.length o.length) true false) (.done (EV.tup [(EV.lst (SyC.recs [(Sh.int IntKind.i64),(Sh.int IntKind.i64),(Sh.int IntKind.i64),(Sh.int IntKind.i64),(Sh.int IntKind.i64)] o)),(iv (0))]) [] 0) .bad)):=by kernel_rfl
end PSsp
section
theorem zmb {n:Int} {r:List U} (h:ValR n r):chk3 (rW r)=0:=zv5 h.long h.form
theorem oR_le {n:Int} {r:List U} {z:Nat} (h:ValR n r) (hz:(z:Int)=2*n):oR r+4≤z:=by
 have:=h.lo;have:=h.hi;unfold oR;omega
noncomputable abbrev sspT (l:List (List U)) (e:List Int) (z:Nat):EV:=.tup [.lst (.recs sh5 (sspU l e z)),iv 0]
open Classical in
noncomputable abbrev sspTE (l:List (List U)) (e:List Int) (z:Nat):EV:=.tup [.lst (.recs sh5 (if srt e=iotL z then sspU l e z else [])),iv (if srt e=iotL z then 0 else 2)]
namespace PSsp
theorem oStep {n:Int} {l:List (List U)} {q B:List Int} {z v i:Nat} {r o:List (List U)} {nn:Bool} (hv:ValS n l) (hz:(z:Int)=2*n) (hi:i<l.length) (hq:q.length=z) (hr:r.length=l.length) (hX:(U.list (List.getD (List.getD r i []) 0 (U.i 0))).map (fun r=>U.int (List.headD r (U.i 0)))=B) (hB:B.length=z) (ho:o.length≤i) :
  RUN (stOf (sO l q z l.length v r o nn i)) = .at (sO l (mvQ false (oR (l.getD i [])) (pR (l.getD i [])) q) z l.length v r (bc (susL q B (oR (l.getD i []))).2 (o++[((i:Int)::(susL q B (oR (l.getD i []))).1).map U.i]) o) (bc (susL q B (oR (l.getD i []))).2 true nn) (i+1:Nat)):=by
 rw [o_t];have hvi:ValR n (l.getD i []):=by rw [zaf hi];exact hv.val _ (List.getElem_mem hi)
 have hl:=hv.len;have hn:=hv.hi;have g1:=hvi.lo;have g2:=hvi.hi;have g3:=zmb hvi;have e1:U.int (List.getD (List.getD l i []) (Nat.succ 0) (U.i 0))=rA (l.getD i []):=rfl;have e2:U.str (List.getD (List.getD l i []) (Nat.succ (Nat.succ 0)) (U.i 0))=rW (l.getD i []):=rfl;have e3:Int.toNat (2*rA (l.getD i []))=oR (l.getD i []):=rfl;have e4:plWd (rW (l.getD i []))=pR (l.getD i []):=rfl;have e5:(zerosL 4).length=4:=by unfold zerosL;simp
 simp only [za1,e1,e2,e3,e4,hX];have c1:(0≤rA (l.getD i [])∧2*rA (l.getD i [])+4≤(Nat.cast q.length:Int))∧q.length≤1000∧B.length=q.length:=⟨⟨g1,by omega⟩,by omega,by omega⟩;have c2:chk3 (rW (l.getD i []))=0∧0≤rA (l.getD i [])∧2*rA (l.getD i [])+4≤(Nat.cast q.length:Int)∧q.length≤1000:=⟨g3,g1,by omega,by omega⟩;have c3:(List.map (fun r=>U.int (List.headD r (U.i 0))) (U.list (List.getD (List.getD r i []) 0 (U.i 0)))).length=B.length:=by rw [hX]
 have hx:=zrf q B (oR (l.getD i []));generalize susL q B (oR (l.getD i []))=S at hx ⊢;obtain ⟨x,b⟩:=S;obtain ⟨a0,a1,a2,a3,rfl⟩:=list4 hx;have e6:[a0,a1,a2,a3].length=4:=rfl;simp only [dt c1,dt c2,e5,e6];cases b
 ·simp (disch:=omega) only [yS];rfl
 ·simp (disch:=omega) only [yS];rfl
theorem oLoop {n:Int} {l:List (List U)} {e:List Int} {z v:Nat} {r:List (List U)} (hv:ValS n l) (hz:(z:Int)=2*n) (he:e.length=z) (hr:r.length=l.length) (hX:∀ p,p<l.length→(U.list (List.getD (List.getD r p []) 0 (U.i 0))).map (fun r=>U.int (List.headD r (U.i 0)))=bkF l e (l.length-1-p)) :
  ∀ (j i:Nat) (nn:Bool),i+j=l.length→EndZ 25 ctSs false (stOf (sO l (fwF l z i) z l.length v r ((sspR l e z i).map (·.map U.i)) nn i)) (sspT l e z) [] 0
 | 0,i,nn,h=>by
  have hi:i=l.length:=by omega
  subst hi;have h1:=o_t l (fwF l z l.length) z l.length v r ((sspR l e z l.length).map (·.map U.i)) nn l.length;simp (disch:=omega) only [yS] at h1;exact .done h1
 | j+1,i,nn,h=>by
  have hi:i<l.length:=by omega
  have h1:=oStep (v:=v) (nn:=nn) (o:=(sspR l e z i).map (·.map U.i)) hv hz hi (zdr l z i) hr (hX i hi) (by rw [zku];exact he) (by rw [List.length_map];exact zk9 l e z i);have key:=fun nn=>oLoop (v:=v) hv hz he hr hX j (i+1) nn (by omega);have e1:(sspR l e z (i+1)).map (·.map U.i)=bc (suB l e z i).2 ((sspR l e z i).map (·.map U.i)++[((i:Int)::(suB l e z i).1).map U.i]) ((sspR l e z i).map (·.map U.i)):=by
   show (sspR l e z i++bc (suB l e z i).2 [(i:Int)::(suB l e z i).1] []).map _=_;rw [List.map_append];cases (suB l e z i).2
   ·rw [bc_f,bc_f];simp
   ·rw [bc_t,bc_t];rfl
  rw [e1] at key;exact .at zbi h1 (key _)
theorem uLoop {n:Int} {l:List (List U)} {e:List Int} {z:Nat} (hv:ValS n l) (hz:(z:Int)=2*n) (he:e.length=z):∀ (k v:Nat) (r:List (List U)) (c:List Int),k≤l.length→c=bkF l e (l.length-k)→r.length=l.length→(∀ p,k≤p→p<l.length→(U.list (List.getD (List.getD r p []) 0 (U.i 0))).map (fun r=>U.int (List.headD r (U.i 0)))=bkF l e (l.length-1-p)) →
  EndZ 25 ctSs false (stOf (sU n l (iotL z) z l.length z v r c ((k:Int)-1))) (sspT l e z) [] 0
 | 0,v,r,c,hk,hc,hr,hX=>by
  have h1:=u_t n l (iotL z) z l.length z v r c (((0:Nat):Int)-1);rw [df (by omega),bc_f] at h1;exact .at zbi h1 (oLoop hv hz he hr (fun p hp=>hX p (Nat.zero_le _) hp) l.length 0 false (Nat.zero_add _))
 | k+1,v,r,c,hk,hc,hr,hX=>by
  have h1:=u_t n l (iotL z) z l.length z v r c (((k+1:Nat):Int)-1);have e0:((k+1:Nat):Int)-1=(k:Int):=by omega
  rw [e0] at h1 ⊢;have hi:k<l.length:=by omega
  have hvi:ValR n (l.getD k []):=by rw [zaf hi];exact hv.val _ (List.getElem_mem hi)
  have hl:=hv.len;have hn:=hv.hi;have g1:=hvi.lo;have g2:=hvi.hi;have g3:=zmb hvi;have hcl:c.length=z:=by rw [hc,zku];exact he
  have e1:U.int (List.getD (List.getD l k []) (Nat.succ 0) (U.i 0))=rA (l.getD k []):=rfl;have e2:U.str (List.getD (List.getD l k []) (Nat.succ (Nat.succ 0)) (U.i 0))=rW (l.getD k []):=rfl;have e3:Int.toNat (2*rA (l.getD k []))=oR (l.getD k []):=rfl;have e4:plWd (rW (l.getD k []))=pR (l.getD k []):=rfl;have e5:unHoleC k 0 []=true:=rfl;simp only [za1,e1,e2,e3,e4,e5] at h1;have c2:chk3 (rW (l.getD k []))=0∧0≤rA (l.getD k [])∧2*rA (l.getD k [])+4≤(Nat.cast c.length:Int)∧c.length≤1000:=⟨g3,g1,by omega,by omega⟩
  simp only [dt c2] at h1;simp (disch:=omega) only [yS] at h1;have hj:l.length-1-(l.length-1-k)=k:=by omega
  refine .at zbi h1 (uLoop hv hz he k (v+1) _ _ (by omega) ?_ (by rw [List.length_set];exact hr) fun p hp hpl=>?_)
  ·rw [show l.length-k=(l.length-1-k)+1 by omega];unfold bkF;rw [hj,hc,show l.length-(k+1)=l.length-1-k by omega]
  ·by_cases e:p=k
   ·subst e;rw [zav (by omega)];show (c.map fun x=>[U.i x]).map _=_;rw [List.map_map,show l.length-1-p=l.length-(p+1) by omega,← hc];exact List.map_id c
   ·rw [zat (fun h=>e h.1)];exact hX p (by omega) hpl
theorem eLoop {n:Int} {l:List (List U)} {e o:List Int} {z:Nat} (hv:ValS n l) (hz:(z:Int)=2*n) (he:e.length=z) (ho:o=srt e):∀ (j i:Nat),i+j=z→(∀ p,p<i→o.getD p 0=(iotL z).getD p 0) →
  EndZ 25 ctSs false (stOf (sE n l e (iotL z) z o z i)) (sspTE l e z) [] 0
 | 0,i,h,hp=>by
  have hi:i=z:=by omega
  subst hi;have hol:o.length=i:=by rw [ho,zdm];exact he
  have hil:=zbs i;have hlo:=hv.lo;have hl:=hv.len;have hn:=hv.hi;have eq:srt e=iotL i:=by rw [← ho];exact zcb (by rw [hol,hil]) fun x hx=>hp x (by omega)
  have h1:=e_t n l e (iotL i) i o i i;simp (disch:=omega) only [yS,he] at h1;unfold sspTE;rw [if_pos eq,if_pos eq];exact .at zbi h1 (uLoop hv hz he l.length 0 _ _ (Nat.le_refl _) (by rw [Nat.sub_self];rfl) (by simp) fun p h1 h2=>by omega)
 | j+1,i,h,hp=>by
  have hol:o.length=z:=by rw [ho,zdm];exact he
  have hil:=zbs z;have hn:=hv.hi;have h1:=e_t n l e (iotL z) z o z i;cases hb:(o.getD i 0 != (iotL z).getD i 0)
  ·simp only [za1,hb] at h1;simp (disch:=omega) only [yS] at h1;exact .at zbi h1 (eLoop hv hz he ho j (i+1) (by omega) fun p hpi=>by
    by_cases e:p=i
    ·subst e;simpa using hb
    ·exact hp p (by omega))
  ·simp only [za1,hb] at h1;simp (disch:=omega) only [yS] at h1;have hne:¬ srt e=iotL z:=fun e=>by rw [← ho] at e;rw [e] at hb;simp at hb
   unfold sspTE;rw [if_neg hne,if_neg hne];exact (EndZ.done h1).weak (.tup (.cons (Weak.nil _) (.cons (Weak.refl _) .nil)))
theorem bad {e:List Int} {z:Nat} (he:e.length≠z):¬ srt e=iotL z:=fun h=>he (by rw [← zdm,h,zbs])
theorem fEnd {n:Int} {l:List (List U)} {e:List Int} {z:Nat} (hv:ValS n l) (hz:(z:Int)=2*n):EndZ 25 ctSs false (stOf (sF n l e (iotL z) z (srt e) e.length)) (sspTE l e z) [] 0:=by
 have h1:=f_t n l e (iotL z) z (srt e) e.length
 by_cases he:e.length=z
 ·rw [he] at h1 ⊢;have hb:(Int.ofNat z != Int.ofNat z)=false:=by simp
  rw [hb,bc_f] at h1;exact .at zbi h1 (eLoop hv hz he rfl z 0 (Nat.zero_add _) fun p hp=>by omega)
 ·have hb:(Int.ofNat e.length != Int.ofNat z)=true:=by
   rw [bne_iff_ne];intro h;exact he (by injection h)
  rw [hb,bc_t] at h1;have hne:=bad he;unfold sspTE;rw [if_neg hne,if_neg hne];exact (EndZ.done h1).weak (.tup (.cons (Weak.nil _) (.cons (Weak.refl _) .nil)))
theorem vLoop {n:Int} {l:List (List U)} {e:List Int} {z:Nat} (hv:ValS n l) (hz:(z:Int)=2*n) (hel:e.length≤1000):∀ (j i:Nat),i+j=e.length→EndZ 25 ctSs false (stOf (sV n l e (iotL z) z (e.take i) true i)) (sspTE l e z) [] 0
 | 0,i,h=>by
  have hi:i=e.length:=by omega
  subst hi;have h1:=ve_t n l e (iotL z) z (e.take e.length) e.length;rw [List.take_length] at h1 ⊢;simp (disch:=omega) only [yS] at h1;exact .at zbi h1 (fEnd hv hz)
 | j+1,i,h=>by
  have hi:i<e.length:=by omega
  have h1:=ve_t n l e (iotL z) z (e.take i) i;have ht:(e.take i).length=i:=by rw [List.length_take];omega
  have e1:[List.getD e (Int.toNat (i:Int)) 0]=[e.getD i 0]:=rfl;rw [e1] at h1;simp (disch:=omega) only [yS,ht] at h1
  have e2:e.take i++[e.getD i 0]=e.take (i+1):=by rw [List.take_succ_eq_append_getElem hi,zaf hi]
  rw [e2] at h1;exact .at zbi h1 (vLoop hv hz hel j (i+1) (by omega))
theorem vEnd {n:Int} {l:List (List U)} {e:List Int} {z:Nat} (hv:ValS n l) (hz:(z:Int)=2*n) (hel:e.length≤1000):EndZ 25 ctSs false (stOf (sV n l e (iotL z) z [] false 0)) (sspTE l e z) [] 0:=by
 have hlo:=hv.lo
 match e,hel with
 | [],hel=>
  have h1:=v0_t n l (iotL z) z;have h2:=g_t n l (iotL z) z;have hb:(Int.ofNat 0 != Int.ofNat z)=true:=by
   rw [bne_iff_ne];intro h;injection h with h;omega
  rw [hb,bc_t] at h2;have hne:¬ srt []=iotL z:=bad (by show 0≠z;omega);unfold sspTE;rw [if_neg hne,if_neg hne];exact EndZ.lead (leadsZ zs7 h1) ((EndZ.done h2).weak (.tup (.cons (Weak.nil _) (.cons (Weak.refl _) .nil))))
 | x::e,hel=>
  have h1:=v_t n l (x::e) (iotL z) z [] false 0;have e1:[List.getD (x::e) (Int.toNat (0:Int)) 0]=[x]:=rfl;rw [e1] at h1;have hc:(x::e).length=e.length+1:=rfl
  simp (disch:=omega) only [yS,hc] at h1;have key:=vLoop (e:=x::e) hv hz hel e.length 1 (by rw [hc];omega);exact .at zbi h1 key
theorem aLoop {n:Int} {l:List (List U)} {e:List Int} {z:Nat} (hv:ValS n l) (hz:(z:Int)=2*n) (hel:e.length≤1000):∀ (j i:Nat) (q:List Int),i+j=z→q.length=z→(∀ p,p<i→q.getD p 0=(p:Int))→EndZ 25 ctSs false (stOf (sA n l e q z i)) (sspTE l e z) [] 0
 | 0,i,q,h,hq,hp=>by
  have hi:i=z:=by omega
  subst hi;have h1:=a_t n l e q i i;simp (disch:=omega) only [yS] at h1;rw [zpj hq hp] at h1 ⊢;exact .at zbi h1 (vEnd hv hz hel)
 | j+1,i,q,h,hq,hp=>by
  have hn:=hv.hi;have h1:=a_t n l e q z i;simp (disch:=omega) only [yS] at h1;refine .at zbi h1 (aLoop hv hz hel j (i+1) _ (by omega) (by rw [List.length_set];exact hq) fun p hpi=>?_);rw [zc5]
  by_cases c:p=i
  ·rw [if_pos ⟨c,by omega⟩,c]
  ·rw [if_neg (fun h=>c h.1)];exact hp p (by omega)
theorem ends {n:Int} {l:List (List U)} {e:List Int} (hel:e.length≤1000):EndZ 25 ctSs false (st0 25 (args n l e)) (.tup [.lst (.recs sh5 (sspV n l e)),iv (sspE n l e)]) [] 0:=by
 have h:=in_t n l e;unfold sspV sspE;cases h1:chk4 n l != 0 <;> rw [h1] at h
 ·have hv:ValS n l:=zcx (by simpa using h1);have hlo:=hv.lo;have hhi:=hv.hi;have hz:((2*n).toNat:Int)=2*n:=by omega
  have w1:IntKind.i64.wrap (2*n)=2*n:=zao _ (by omega) (by omega);have e1:(zerosL (2*n).toNat).length=(2*n).toNat:=by unfold zerosL;simp
  rw [w1,e1] at h;simp (disch:=omega) only [yS] at h;rw [bc_f,bc_f];exact .at zbi h (aLoop hv hz hel (2*n).toNat 0 _ (Nat.zero_add _) e1 fun p hp=>by omega)
 ·rw [bc_t,bc_t];exact (EndZ.done h).weak (.tup (.cons (Weak.nil _) (.cons (Weak.refl _) .nil)))
end PSsp
noncomputable def spSsp:ZCT:=fun ax=>match ax with
 | [.agg [.v (.int .i64 n),.lst (.recs [.int .i64,.int .i64,.str] l)],.lst (.ints .i64 e)]=>some ⟨decide (e.length≤1000),.tup [.lst (.recs sh5 (sspV n l e)),iv (sspE n l e)],[],0⟩
 | _=>none
theorem zrt:ZCtOk Try.prog 25 spSsp:=fun γ w us ax r hs hc hax hN hfz=>by
 unfold spSsp at hs;split at hs
 case h_2=>cases hs
 rename_i n l e;obtain ⟨rfl⟩:=Option.some.inj hs;have hc_0:decide (e.length≤1000)=true:=hc;have hc:=of_decide_eq_true hc_0;exact EndZ.calls (PSsp.ends hc) zbi (by kernel_rfl) hax hN hfz
end
theorem znc (x y:Int) (a b:List Int):eqLI (x::a) (y::b)=bc (x != y) false (eqLI a b):=by
 by_cases h:x=y
 ·have e:(x != y)=false:=by simp [h]
  rw [e,bc_f]
  cases hq:eqLI a b with
  | true=>rw [h,za0.1 hq,za0.2 rfl]
  | false=>
   cases hx:eqLI (x::a) (y::b) with
   | false=>rfl
   | true=>
    have:=List.cons.inj (za0.1 hx);rw [za0.2 this.2] at hq;cases hq
 ·have e:(x != y)=true:=by simp [h]
  rw [e,bc_t]
  cases hx:eqLI (x::a) (y::b) with
  | false=>rfl
  | true=>exact absurd (List.cons.inj (za0.1 hx)).1 h
theorem zp8 {a b:List Int} (h:a.length≠b.length):eqLI a b=false:=by
 cases hx:eqLI a b with
 | false=>rfl
 | true=>exact absurd (congrArg List.length (za0.1 hx)) h
namespace RS4i
noncomputable def RUN (s:ES):ZF:=RZ 24 .nil (atS 0 24 4) [] [[(0,none),(1,none),(5,none)]] false s
noncomputable def sS (a b:List Int) (i:Int):NS:=⟨[⟨24,26,[(0,(il a)),(1,(il b)),(5,iv i)],[.it (.code (nav [1,1,0,1,0,0,0] (bodyOf Try.f24))),.it (.code (nav [1,1,0,1,0,0,1] (bodyOf Try.f24))),.it (.inLoop (nav [1,1,0,1,0,0] (bodyOf Try.f24))),.it (.inBlock 0),.it (.code (nav [1,1,1] (bodyOf Try.f24)))],[],Option.none⟩],[],0⟩
theorem in_t (a b:List Int):RUN (st0 24 [il a,il b])=(bc (Int.ofNat a.length != Int.ofNat b.length) (.done (bv false) [] 0) (.at (sS a b 0))):=by kernel_rfl
theorem step_t (a b:List Int) (i:Int):RUN (stOf (sS a b i))=(bc (decide (i<Int.ofNat a.length)) (bc (bc (bc (bc (bc (decide (0≤i)) (Nat.blt i.toNat a.length) false) true false) (bc (bc (Nat.blt i.toNat a.length) true false) (bc (bc (bc (decide (0≤i)) (Nat.blt i.toNat b.length) false) true false) (bc (bc (Nat.blt i.toNat b.length) true false) true false) false) false) false) true false) (bc (a.getD i.toNat 0 != b.getD i.toNat 0) (.done (bv false) [] 0) (.at (sS a b (IntKind.i64.wrap (i+1))))) .bad) (.done (bv true) [] 0)):=by kernel_rfl
theorem loop {a b:List Int} (hl:a.length=b.length) (hz:a.length≤100000):∀ (k i:Nat),i+k=a.length→EndZ 24 .nil false (stOf (sS a b i)) (bv (eqLI (a.drop i) (b.drop i))) [] 0
 | 0,i,h=>by
  have hs:=step_t a b i;rw [List.drop_eq_nil_of_le (by omega),List.drop_eq_nil_of_le (by omega),za0.2 rfl];simp (disch:=omega) only [yS] at hs;exact .done hs
 | k+1,i,h=>by
  have hi:i<a.length:=by omega
  have hi2:i<b.length:=by omega
  have hs:=step_t a b i;have e1:a.getD i 0=a[i]:=zaf hi;have e2:b.getD i 0=b[i]:=zaf hi2;rw [za1,e1,e2] at hs;rw [List.drop_eq_getElem_cons hi,List.drop_eq_getElem_cons hi2,znc];simp (disch:=omega) only [yS] at hs
  cases hq:a[i] != b[i] with
  | true=>rw [hq] at hs;exact .done hs
  | false=>rw [hq] at hs;exact .at (.nil _) hs (loop hl hz k (i+1) (by omega))
theorem ends {a b:List Int} (hz:a.length≤100000):EndZ 24 .nil false (st0 24 [il a,il b]) (bv (eqLI a b)) [] 0:=by
 have h:=in_t a b
 by_cases hl:a.length=b.length
 ·have e:(Int.ofNat a.length != Int.ofNat b.length)=false:=by simp [hl]
  rw [e,bc_f] at h;exact .at (.nil _) h (loop hl hz a.length 0 (by omega))
 ·have e:(Int.ofNat a.length != Int.ofNat b.length)=true:=by simp;omega
  rw [e,bc_t] at h;rw [zp8 hl];exact .done h
end RS4i
noncomputable def spRS4i:ZCT:=fun ax=>match ax with
 | [.lst (.ints .i64 a),.lst (.ints .i64 b)]=>some ⟨decide (a.length≤100000),bv (eqLI a b),[],0⟩
 | _=>none
theorem ziq:ZCtOk Try.prog 24 spRS4i:=fun γ w us ax r hs hc hax hN hfz=>by
 unfold spRS4i at hs;split at hs
 case h_2=>cases hs
 rename_i a b;obtain ⟨rfl⟩:=Option.some.inj hs;have hc_0:decide (a.length≤100000)=true:=hc;have hc:=of_decide_eq_true hc_0;exact EndZ.calls (RS4i.ends hc) (.nil _) (by kernel_rfl) hax hN hfz
section
noncomputable def eacR (m:Int):List Int→List Bool→Bool
 | [],_=>true
 | x::l,s=>bc (decide (x<0)) false (bc (decide (m≤x)) false (bc (s.getD x.toNat false) false (eacR m l (s.set x.toNat true))))
noncomputable def eacB (l:List Int) (m:Int):Bool:=bc (eacR m l (List.replicate m.toNat false)) (Int.ofNat l.length==m) false
open Classical in
noncomputable def rnF (l:List (List U)) (X:List Int) (z:Nat) (k:Int):Nat→List Int
 | 0=>iotL z
 | i+1=>mvQ false (oR (l.getD i [])) (if (i:Int)=k then X else pR (l.getD i [])) (rnF l X z k i)
theorem zhb (l:List (List U)) (X:List Int) (z:Nat) (k:Int):∀ i,(rnF l X z k i).length=z
 | 0=>zbs z
 | i+1=>by unfold rnF;rw [zbm,zhb l X z k i]
end
noncomputable def ctRu:Tr ZCC:=(Tr.nil.put 33 (some (dC spRPl3))).put 0 (some (dC spNoP))
theorem zb0:ZCtsOk Try.prog ctRu:=((ZCtsOk.nil _).add rfl zir).add rfl zg6
namespace RRun
noncomputable def RUN (s:ES):ZF:=RZs 32 ctRu [
 (atS 0 32 3,[[(1,none),(3,none),(5,none),(7,some (1,3,.ints .i64 [])),(8,none)]]),
 (atS 0 32 7,[[(1,none),(3,none),(5,none),(7,none),(9,none)]]),
 (atS 0 32 13,[[(1,none),(3,none),(5,none),(7,none),(9,none),(10,none),(12,none),(13,none),(14,none)]])] [] false s
noncomputable abbrev args (n:Int) (l:List (List U)) (k:Int) (X:List Int):List EV:=[.agg [iv n,wl l],iv k,.arr (.ints .i64 X)]
noncomputable def sP (n:Int) (l:List (List U)) (k:Int) (X q:List Int) (nn:Bool) (i:Int):NS:=⟨[⟨32,90,[(1,(iv k)),(3,(EV.ptr 0 0)),(5,(EV.ptr 1 0)),(7,EV.slO 2 1 q.length nn),(8,iv i)],[.it (.code (nav [1,1,0,1,0,0,0] (bodyOf Try.f32))),.it (.code (nav [1,1,0,1,0,0,1] (bodyOf Try.f32))),.it (.inLoop (nav [1,1,0,1,0,0] (bodyOf Try.f32))),.it (.inBlock 0),.it (.code (nav [1,1,1] (bodyOf Try.f32)))],[],Option.none⟩],[(0,(EK.cells 24 [(iv n),(EV.lst (SyC.recs [(Sh.int IntKind.i64),(Sh.int IntKind.i64),Sh.str] l))] true)),(1,(EK.seq 53 (SyC.ints IntKind.i64 X) true)),(2,EK.seq 3 (.ints .i64 q) nn)],3⟩
noncomputable def sW (n:Int) (l:List (List U)) (k:Int) (X q:List Int) (z:Nat) (i:Int):NS:=⟨[⟨32,90,[(1,(iv k)),(3,(EV.ptr 0 0)),(5,(EV.ptr 1 0)),(7,EV.slO 2 1 z true),(9,iv i)],[.it (.code (nav [1,1,1,0,1,0,0,0] (bodyOf Try.f32))),.it (.code (nav [1,1,1,0,1,0,0,1] (bodyOf Try.f32))),.it (.inLoop (nav [1,1,1,0,1,0,0] (bodyOf Try.f32))),.it (.inBlock 2),.it (.code (nav [1,1,1,1] (bodyOf Try.f32)))],[],Option.none⟩],[(0,EK.cells 24 [iv n,wl l] true),(1,(EK.seq 53 (SyC.ints IntKind.i64 X) true)),(2,(EK.seq 3 (SyC.ints IntKind.i64 q) true))],3⟩
noncomputable def sI (n:Int) (l:List (List U)) (k:Int) (X q P was:List Int) (z:Nat) (i o j:Int):NS:=⟨[⟨32,90,[(1,(iv k)),(3,(EV.ptr 0 0)),(5,(EV.ptr 1 0)),(7,EV.slO 2 1 z true),(9,iv i),(10,il P),(12,iv o),(13,EV.slO 3 1 was.length true),(14,iv j)],[.it (.code (nav [1,1,1,0,1,0,0,1,0,0,1,1,1,1,0,0,0] (bodyOf Try.f32))),.it (.code (nav [1,1,1,0,1,0,0,1,0,0,1,1,1,1,0,0,1] (bodyOf Try.f32))),.it (.inLoop (nav [1,1,1,0,1,0,0,1,0,0,1,1,1,1,0,0] (bodyOf Try.f32))),.it (.inBlock 4),.it (.inBlock 3),.it (.code (nav [1,1,1,0,1,0,0,1,1] (bodyOf Try.f32))),.it (.inLoop (nav [1,1,1,0,1,0,0] (bodyOf Try.f32))),.it (.inBlock 2),.it (.code (nav [1,1,1,1] (bodyOf Try.f32)))],[],Option.none⟩],[(0,EK.cells 24 [iv n,wl l] true),(1,(EK.seq 53 (SyC.ints IntKind.i64 X) true)),(2,EK.seq 3 (.ints .i64 q) true),(3,EK.seq 3 (.ints .i64 was) true)],4⟩
theorem p_t (n:Int) (l:List (List U)) (k:Int) (X q:List Int) (i:Int):RUN (stOf (sP n l k X q true i))=(bc (decide (i<IntKind.i64.wrap ((2:Int)*n))) (bc (bc (Nat.beq q.length q.length) (bc (Nat.ble (q.length+([i]).length) 65536) true false) false) (.at (sP n l k X (q++[i]) true (IntKind.i64.wrap (i+1)))) .bad) (.at (sW n l k X q q.length 0))):=by kernel_rfl
theorem p0_t (n:Int) (l:List (List U)) (k:Int) (X:List Int):RUN (stOf (sP n l k X [] false 0))=(bc (decide (0<IntKind.i64.wrap ((2:Int)*n))) (.at (sP n l k X ([]++[(0:Int)]) (Nat.blt 0 ([(0:Int)]).length) (IntKind.i64.wrap ((0:Int)+1)))) (.at ⟨[⟨32,90,[(1,(iv k)),(3,(EV.ptr 0 0)),(5,(EV.ptr 1 0)),(7,(EV.slO 2 1 0 false)),(9,(iv (0)))],[.it (.code (nav [1,1,1,0,1,0,0,0] (bodyOf Try.f32))),.it (.code (nav [1,1,1,0,1,0,0,1] (bodyOf Try.f32))),.it (.inLoop (nav [1,1,1,0,1,0,0] (bodyOf Try.f32))),.it (.inBlock 2),.it (.code (nav [1,1,1,1] (bodyOf Try.f32)))],[],Option.none⟩],[(0,(EK.cells 24 [(iv n),(EV.lst (SyC.recs [(Sh.int IntKind.i64),(Sh.int IntKind.i64),Sh.str] l))] true)),(1,(EK.seq 53 (SyC.ints IntKind.i64 X) true)),(2,(EK.seq 3 (SyC.ints IntKind.i64 []) false))],3⟩)):=by kernel_rfl
theorem w_t (n:Int) (l:List (List U)) (k:Int) (X q:List Int) (z:Nat) (i:Int):RUN (stOf (sW n l k X q z i))=(bc (decide (i<Int.ofNat l.length)) (bc (bc (bc (decide (0≤i)) (Nat.blt i.toNat l.length) false) true false) (bc (bc (Nat.blt i.toNat l.length) true false) (bc (bc (bc (decide (0≤i)) (Nat.blt i.toNat l.length) false) true false) (bc (bc (Nat.blt i.toNat l.length) true false) (bc (bc (bc (decide (0≤IntKind.i64.wrap ((2:Int)*U.int ((l.getD i.toNat []).getD (Nat.add 0 1) (U.i 0))))) (bc (decide (IntKind.i64.wrap ((2:Int)*U.int ((l.getD i.toNat []).getD (Nat.add 0 1) (U.i 0)))≤IntKind.i64.wrap (IntKind.i64.wrap ((2:Int)*U.int ((l.getD i.toNat []).getD (Nat.add 0 1) (U.i 0)))+4))) (decide (IntKind.i64.wrap (IntKind.i64.wrap ((2:Int)*U.int ((l.getD i.toNat []).getD (Nat.add 0 1) (U.i 0)))+4)≤Int.ofNat z)) false) false) true false) (bc (bc (Nat.ble (Nat.add (IntKind.i64.wrap ((2:Int)*U.int ((l.getD i.toNat []).getD (Nat.add 0 1) (U.i 0)))).toNat ((IntKind.i64.wrap (IntKind.i64.wrap ((2:Int)*U.int ((l.getD i.toNat []).getD (Nat.add 0 1) (U.i 0)))+4)).toNat-(IntKind.i64.wrap ((2:Int)*U.int ((l.getD i.toNat []).getD (Nat.add 0 1) (U.i 0)))).toNat)) q.length) (bc (Nat.ble (0+(List.drop (IntKind.i64.wrap ((2:Int)*U.int ((l.getD i.toNat []).getD (Nat.add 0 1) (U.i 0)))).toNat (List.take (Nat.add (IntKind.i64.wrap ((2:Int)*U.int ((l.getD i.toNat []).getD (Nat.add 0 1) (U.i 0)))).toNat ((IntKind.i64.wrap (IntKind.i64.wrap ((2:Int)*U.int ((l.getD i.toNat []).getD (Nat.add 0 1) (U.i 0)))+4)).toNat-(IntKind.i64.wrap ((2:Int)*U.int ((l.getD i.toNat []).getD (Nat.add 0 1) (U.i 0)))).toNat)) q)).length) 65536) true false) false) (.at (sI n l k X q (plEd (U.str ((l.getD i.toNat []).getD (Nat.add 0 2) (U.i 0)))) ([]++List.drop (IntKind.i64.wrap ((2:Int)*U.int ((l.getD i.toNat []).getD (Nat.add 0 1) (U.i 0)))).toNat (List.take (Nat.add (IntKind.i64.wrap ((2:Int)*U.int ((l.getD i.toNat []).getD (Nat.add 0 1) (U.i 0)))).toNat ((IntKind.i64.wrap (IntKind.i64.wrap ((2:Int)*U.int ((l.getD i.toNat []).getD (Nat.add 0 1) (U.i 0)))+4)).toNat-(IntKind.i64.wrap ((2:Int)*U.int ((l.getD i.toNat []).getD (Nat.add 0 1) (U.i 0)))).toNat)) q)) z i (IntKind.i64.wrap ((2:Int)*U.int ((l.getD i.toNat []).getD (Nat.add 0 1) (U.i 0)))) 0)) .bad) .bad) .bad) .bad) .bad) .bad) (bc (Nat.beq z q.length) (.done (il q) [] 0) .bad)):=by kernel_rfl
theorem i_t (n:Int) (l:List (List U)) (k:Int) (X q P was:List Int) (z:Nat) (i o j:Int):RUN (stOf (sI n l k X q P was z i o j))=(bc (decide (j<4)) (bc (i==k) (bc (bc (bc (decide (0≤j)) (Nat.blt j.toNat 4) false) true false) (bc (bc (Nat.blt j.toNat X.length) true false) (bc (bc (bc (decide (0≤IntKind.i64.wrap (X.getD j.toNat 0-(1:Int)))) (Nat.blt (IntKind.i64.wrap (X.getD j.toNat 0-(1:Int))).toNat was.length) false) true false) (bc (bc (Nat.blt (IntKind.i64.wrap (X.getD j.toNat 0-(1:Int))).toNat was.length) true false) (bc (bc (bc (decide (0≤IntKind.i64.wrap (o+j))) (Nat.blt (IntKind.i64.wrap (o+j)).toNat z) false) true false) (bc (Nat.blt (IntKind.i64.wrap (o+j)).toNat q.length) (.at (sI n l k X (List.set q (IntKind.i64.wrap (o+j)).toNat (was.getD (IntKind.i64.wrap (X.getD j.toNat 0-(1:Int))).toNat 0)) P was z i o (IntKind.i64.wrap (j+1)))) .bad) .bad) .bad) .bad) .bad) .bad) (bc (bc (bc (decide (0≤j)) (Nat.blt j.toNat P.length) false) true false) (bc (bc (Nat.blt j.toNat P.length) true false) (bc (bc (bc (decide (0≤IntKind.i64.wrap (P.getD j.toNat 0-(1:Int)))) (Nat.blt (IntKind.i64.wrap (P.getD j.toNat 0-(1:Int))).toNat was.length) false) true false) (bc (bc (Nat.blt (IntKind.i64.wrap (P.getD j.toNat 0-(1:Int))).toNat was.length) true false) (bc (bc (bc (decide (0≤IntKind.i64.wrap (o+j))) (Nat.blt (IntKind.i64.wrap (o+j)).toNat z) false) true false) (bc (Nat.blt (IntKind.i64.wrap (o+j)).toNat q.length) (.at (sI n l k X (List.set q (IntKind.i64.wrap (o+j)).toNat (was.getD (IntKind.i64.wrap (P.getD j.toNat 0-(1:Int))).toNat 0)) P was z i o (IntKind.i64.wrap (j+1)))) .bad) .bad) .bad) .bad) .bad) .bad)) (.at (sW n l k X q z (IntKind.i64.wrap (i+1))))):=by kernel_rfl
theorem in_t (n:Int) (l:List (List U)) (k:Int) (X:List Int):RUN (st0 32 (args n l k X))=(.at (sP n l k X [] false 0)):=by kernel_rfl
end RRun
noncomputable def spEac:ZCT:=fun ax=>match ax with
 | [.lst (.ints .i64 l),.v (.int .i64 m)]=>some ⟨decide (0≤m∧m≤1000∧l.length≤1000),bv (eacB l m),[],0⟩
 | _=>none
namespace RRun
theorem iLoop {n:Int} {l:List (List U)} {k i:Int} {X P was:List Int} {z o:Nat} (hX:i=k→In4 X) (hP:i≠k→In4 P) (hw:was.length=4) (ho:o+4≤z) (hz:z≤1000) (hi:-1000≤i∧i≤1000) {R:EV}:∀ (j p:Nat) (q:List Int),p+j=4→q.length=z →
  EndZ 32 ctRu false (stOf (sW n l k X (bc (i==k) (fwB o was X q p j) (fwB o was P q p j)) z (i+1))) R [] 0→EndZ 32 ctRu false (stOf (sI n l k X q P was z i o p)) R [] 0
 | 0,p,q,h,hq,hk=>by
  have h1:=i_t n l k X q P was z i o p;have e:bc (i==k) (fwB o was X q p 0) (fwB o was P q p 0)=q:=by cases (i==k) <;> rfl
  rw [e] at hk;simp (disch:=omega) only [yS] at h1;exact .at zb0 h1 hk
 | j+1,p,q,h,hq,hk=>by
  have h1:=i_t n l k X q P was z i o p;have w1:IntKind.i64.wrap ((o:Int)+(p:Int))=((o+p:Nat):Int):=by rw [zao _ (by omega) (by omega)];omega
  rw [w1] at h1;cases hb:(i==k) <;> rw [hb] at h1 hk
  ·have hP:=hP (by simpa using hb);have hk4:=hP.2 p (by omega);have hPl:=hP.1;obtain ⟨d,hd⟩:=Int.eq_ofNat_of_zero_le (show 0≤P.getD p 0-1 by omega);have w2:IntKind.i64.wrap (P.getD p 0-1)=(d:Int):=by rw [zao _ (by omega) (by omega)];exact hd
   rw [za1,w2] at h1;have e:bc false (fwB o was X q p (j+1)) (fwB o was P q p (j+1))=bc false (fwB o was X (q.set (o+p) (was.getD d 0)) (p+1) j) (fwB o was P (q.set (o+p) (was.getD d 0)) (p+1) j):=by
    show fwB o was P (q.set (o+p) (was.getD (P.getD p 0-1).toNat 0)) (p+1) j=_;rw [hd];rfl
   rw [e] at hk;simp (disch:=omega) only [yS] at h1;exact .at zb0 h1 (iLoop hX (fun _=>hP) hw ho hz hi j (p+1) _ (by omega) (by rw [List.length_set];exact hq) (by rw [hb];exact hk))
  ·have hX:=hX (by simpa using hb);have hk4:=hX.2 p (by omega);have hXl:=hX.1;obtain ⟨d,hd⟩:=Int.eq_ofNat_of_zero_le (show 0≤X.getD p 0-1 by omega);have w2:IntKind.i64.wrap (X.getD p 0-1)=(d:Int):=by rw [zao _ (by omega) (by omega)];exact hd
   rw [za1,w2] at h1;have e:bc true (fwB o was X q p (j+1)) (fwB o was P q p (j+1))=bc true (fwB o was X (q.set (o+p) (was.getD d 0)) (p+1) j) (fwB o was P (q.set (o+p) (was.getD d 0)) (p+1) j):=by
    show fwB o was X (q.set (o+p) (was.getD (X.getD p 0-1).toNat 0)) (p+1) j=_;rw [hd];rfl
   rw [e] at hk;simp (disch:=omega) only [yS] at h1;exact .at zb0 h1 (iLoop (fun _=>hX) hP hw ho hz hi j (p+1) _ (by omega) (by rw [List.length_set];exact hq) (by rw [hb];exact hk))
theorem wLoop {n:Int} {l:List (List U)} {k:Int} {X:List Int} {z:Nat} (hv:ValS n l) (hz:(z:Int)=2*n) (hX:k<0∨In4 X):∀ (j i:Nat),i+j=l.length→EndZ 32 ctRu false (stOf (sW n l k X (rnF l X z k i) z i)) (il (rnF l X z k l.length)) [] 0
 | 0,i,h=>by
  have hi:i=l.length:=by omega
  subst hi;have h1:=w_t n l k X (rnF l X z k l.length) z l.length;have e:=zhb l X z k l.length;simp (disch:=omega) only [yS,e] at h1;exact .done h1
 | j+1,i,h=>by
  have hi:i<l.length:=by omega
  have h1:=w_t n l k X (rnF l X z k i) z i;have hvi:ValR n (l.getD i []):=by rw [zaf hi];exact hv.val _ (List.getElem_mem hi)
  have hl:=hv.len;have hn:=hv.hi;have g1:=hvi.lo;have g2:=hvi.hi;have g3:=zmb hvi;have hql:=zhb l X z k i;have e1:U.int (List.getD (List.getD l i []) (Nat.add 0 1) (U.i 0))=rA (l.getD i []):=rfl;have e2:U.str (List.getD (List.getD l i []) (Nat.add 0 2) (U.i 0))=rW (l.getD i []):=rfl;obtain ⟨o,ho⟩:∃ o:Nat,2*rA (l.getD i [])=(o:Int):=Int.eq_ofNat_of_zero_le (by omega);have w1:IntKind.i64.wrap (2*rA (l.getD i []))=(o:Int):=by rw [zao _ (by omega) (by omega)];exact ho
  have w2:IntKind.i64.wrap ((o:Int)+4)=((o+4:Nat):Int):=by rw [zao _ (by omega) (by omega)];omega
  have hor:oR (l.getD i [])=o:=by unfold oR;omega
  have hoz:=oR_le hvi hz;rw [hor] at hoz;have e3:plEd (rW (l.getD i []))=pR (l.getD i []):=by unfold plEd pR;rw [g3];rfl
  have e4:o+4-o=4:=by omega
  have e5:(((rnF l X z k i).take (o+4)).drop o).length=4:=by rw [List.length_drop,List.length_take];omega
  have e6:((rnF l X z k i).take (o+4)).drop o=((rnF l X z k i).drop o).take 4:=by rw [List.drop_take,e4]
  have e7:Nat.ble (Nat.add o 4) (rnF l X z k i).length=true:=zjm (show o+4≤_ by omega);simp only [za1,e1,e2,e3,w1,w2] at h1;rw [e4] at h1;simp only [show Nat.add o 4=o+4 from rfl,e5] at h1
  simp (disch:=omega) only [yS] at h1;have hPr:In4 (pR (l.getD i [])):=(zhk _).in4;refine .at zb0 h1 (iLoop (o:=o) (fun e=>hX.resolve_left (by omega)) (fun _=>hPr) e5 hoz (by omega) (by omega) 4 0 _ rfl hql ?_);have key:=wLoop hv hz hX j (i+1) (by omega)
  have er:rnF l X z k (i+1)=bc ((i:Int)==k) (fwB o (((rnF l X z k i).take (o+4)).drop o) X (rnF l X z k i) 0 4) (fwB o (((rnF l X z k i).take (o+4)).drop o) (pR (l.getD i [])) (rnF l X z k i) 0 4):=by
   rw [e6];show mvQ false (oR (l.getD i [])) (if (i:Int)=k then X else pR (l.getD i [])) (rnF l X z k i)=_
   rw [hor]
   by_cases c:(i:Int)=k
   ·rw [if_pos c,show ((i:Int)==k)=true by simpa using c];rfl
   ·rw [if_neg c,show ((i:Int)==k)=false by simpa using c];rfl
  rw [er] at key;exact key
theorem pLoop {n:Int} {l:List (List U)} {k:Int} {X:List Int} {z:Nat} (hv:ValS n l) (hz:(z:Int)=2*n) (hX:k<0∨In4 X):∀ (j i:Nat),i+j=z→0<i→EndZ 32 ctRu false (stOf (sP n l k X (iotL i) true i)) (il (rnF l X z k l.length)) [] 0
 | 0,i,h,h0=>by
  have hi:i=z:=by omega
  subst hi;have hn:=hv.hi;have h1:=p_t n l k X (iotL i) i;have e:=zbs i;have w1:IntKind.i64.wrap (2*n)=2*n:=zao _ (by omega) (by omega);rw [w1] at h1;simp (disch:=omega) only [yS,e] at h1
  exact .at zb0 h1 (wLoop hv hz hX l.length 0 (Nat.zero_add _))
 | j+1,i,h,h0=>by
  have hn:=hv.hi;have h1:=p_t n l k X (iotL i) i;have e:=zbs i;have w1:IntKind.i64.wrap (2*n)=2*n:=zao _ (by omega) (by omega);have e1:[(i:Int)]=[(i:Int)]:=rfl;have e2:iotL i++[(i:Int)]=iotL (i+1):=by unfold iotL;rw [List.range_succ,List.map_append];rfl
  rw [w1,e1] at h1;simp (disch:=omega) only [yS,e] at h1;rw [e2] at h1;exact .at zb0 h1 (pLoop hv hz hX j (i+1) (by omega) (by omega))
theorem ends {n:Int} {l:List (List U)} {k:Int} {X:List Int} (hv:chk4 n l=0) (hX:k<0∨In4 X):EndZ 32 ctRu false (st0 32 (args n l k X)) (il (rnF l X (2*n).toNat k l.length)) [] 0:=by
 have hv:=zcx hv;have hlo:=hv.lo;have hn:=hv.hi;have h:=in_t n l k X;have h1:=p0_t n l k X;have w1:IntKind.i64.wrap (2*n)=2*n:=zao _ (by omega) (by omega);have e1:[(0:Int)]=[(0:Int)]:=rfl;rw [w1,e1] at h1
 simp (disch:=omega) only [yS] at h1;exact .at zb0 h (.at zb0 h1 (pLoop hv (by omega) hX ((2*n).toNat-1) 1 (by omega) (by omega)))
theorem argX (a b c d:Int):Weak (.v (.agg ⟨[.int .i64 a,.int .i64 b,.int .i64 c,.int .i64 d]⟩)) (.arr (.ints .i64 [a,b,c,d])):=fun γ x h=>by
 cases h with
 | v=>exact .arr _ [.int .i64 a,.int .i64 b,.int .i64 c,.int .i64 d] rfl
theorem endv {n:Int} {l:List (List U)} {k a b c d:Int} (hv:chk4 n l=0) (hX:k<0∨In4 [a,b,c,d]):EndZ 32 ctRu false (st0 32 [.agg [iv n,wl l],iv k,.v (.agg ⟨[.int .i64 a,.int .i64 b,.int .i64 c,.int .i64 d]⟩)]) (il (rnF l [a,b,c,d] (2*n).toNat k l.length)) [] 0:=
 EndZ.lead (LeadsZ.say (d:=2) rfl (by rfl) (argX a b c d)) (ends hv hX)
theorem argY (a b c d:Int):Weak (.agg [iv a,iv b,iv c,iv d]) (.arr (.ints .i64 [a,b,c,d])):=fun γ x h=>by
 cases h with
 | agg _ vs hl hh=>
 have hc:ECL γ [iv a,iv b,iv c,iv d] vs:=⟨hl,hh⟩;clear hl hh;obtain ⟨x1,r1,rfl,h1,hc⟩:=hc.inv;obtain ⟨x2,r2,rfl,h2,hc⟩:=hc.inv;obtain ⟨x3,r3,rfl,h3,hc⟩:=hc.inv;obtain ⟨x4,r4,rfl,h4,hc⟩:=hc.inv;have e:r4=[]:=by apply List.eq_nil_of_length_eq_zero;have:=hc.1;simpa using this.symm
 subst e;rw [ec_v h1,ec_v h2,ec_v h3,ec_v h4];exact .arr _ [.int .i64 a,.int .i64 b,.int .i64 c,.int .i64 d] rfl
theorem endw {n:Int} {l:List (List U)} {k a b c d:Int} (hv:chk4 n l=0) (hX:k<0∨In4 [a,b,c,d]):EndZ 32 ctRu false (st0 32 [.agg [iv n,wl l],iv k,.agg [iv a,iv b,iv c,iv d]]) (il (rnF l [a,b,c,d] (2*n).toNat k l.length)) [] 0:=
 EndZ.lead (LeadsZ.say (d:=2) rfl (by rfl) (argY a b c d)) (ends hv hX)
end RRun
theorem zpl {X:List Int} (h:X.length=4∧∀ x,x∈X→1≤x∧x≤4):In4 X:=⟨h.1,fun k hk=>by
 rw [zaf (by omega)];exact h.2 _ (List.getElem_mem _)⟩
noncomputable def spRun_0:ZCT:=fun ax=>match ax with
 | [.agg [.v (.int .i64 n),.lst (.recs [.int .i64,.int .i64,.str] l)],.v (.int .i64 k),.arr (.ints .i64 X)]=>some ⟨decide (chk4 n l=0∧(k<0∨(X.length=4∧∀ x,x∈X→1≤x∧x≤4))),.lst (.ints .i64 (rnF l X (2*n).toNat k l.length)),[],0⟩
 | _=>none
theorem zmv:ZCtOk Try.prog 32 spRun_0:=fun γ w us ax r hs hc hax hN hfz=>by
 unfold spRun_0 at hs;split at hs
 case h_2=>cases hs
 rename_i n l k X;obtain ⟨rfl⟩:=Option.some.inj hs;have hc_0:decide (chk4 n l=0∧(k<0∨(X.length=4∧∀ x,x∈X→1≤x∧x≤4)))=true:=hc;have hc:=of_decide_eq_true hc_0;exact EndZ.calls (RRun.ends hc.1 (hc.2.imp id zpl)) zb0 (by kernel_rfl) hax hN hfz
noncomputable def spRun_1:ZCT:=fun ax=>match ax with
 | [.agg [.v (.int .i64 n),.lst (.recs [.int .i64,.int .i64,.str] l)],.v (.int .i64 k),.v (.agg ⟨[.int .i64 a,.int .i64 b,.int .i64 c,.int .i64 d]⟩)]=>some ⟨decide (chk4 n l=0∧(k<0∨([a,b,c,d].length=4∧∀ x,x∈[a,b,c,d]→1≤x∧x≤4))),.lst (.ints .i64 (rnF l [a,b,c,d] (2*n).toNat k l.length)),[],0⟩
 | _=>none
theorem zmu:ZCtOk Try.prog 32 spRun_1:=fun γ w us ax r hs hc hax hN hfz=>by
 unfold spRun_1 at hs;split at hs
 case h_2=>cases hs
 rename_i n l k a b c d;obtain ⟨rfl⟩:=Option.some.inj hs;have hc_0:decide (chk4 n l=0∧(k<0∨([a,b,c,d].length=4∧∀ x,x∈[a,b,c,d]→1≤x∧x≤4)))=true:=hc;have hc:=of_decide_eq_true hc_0;exact EndZ.calls (RRun.endv hc.1 (hc.2.imp id zpl)) zb0 (by kernel_rfl) hax hN hfz
noncomputable def spRun_2:ZCT:=fun ax=>match ax with
 | [.agg [.v (.int .i64 n),.lst (.recs [.int .i64,.int .i64,.str] l)],.v (.int .i64 k),.agg [.v (.int .i64 a),.v (.int .i64 b),.v (.int .i64 c),.v (.int .i64 d)]]=>some ⟨decide (chk4 n l=0∧(k<0∨([a,b,c,d].length=4∧∀ x,x∈[a,b,c,d]→1≤x∧x≤4))),.lst (.ints .i64 (rnF l [a,b,c,d] (2*n).toNat k l.length)),[],0⟩
 | _=>none
theorem zmt:ZCtOk Try.prog 32 spRun_2:=fun γ w us ax r hs hc hax hN hfz=>by
 unfold spRun_2 at hs;split at hs
 case h_2=>cases hs
 rename_i n l k a b c d;obtain ⟨rfl⟩:=Option.some.inj hs;have hc_0:decide (chk4 n l=0∧(k<0∨([a,b,c,d].length=4∧∀ x,x∈[a,b,c,d]→1≤x∧x≤4)))=true:=hc;have hc:=of_decide_eq_true hc_0;exact EndZ.calls (RRun.endw hc.1 (hc.2.imp id zpl)) zb0 (by kernel_rfl) hax hN hfz
noncomputable def spRun:ZCT:=ZCT.or spRun_0 (ZCT.or spRun_1 (spRun_2))
theorem zrw:ZCtOk Try.prog 32 spRun:=zmv.or (zmu.or (zmt))
theorem zl5 (m:Int):∀ (l:List Int) (s:List Bool),s.length=m.toNat→(eacR m l s=true↔(∀ x,x∈l→0≤x∧x<m∧s.getD x.toNat false=false)∧l.Nodup)
 | [],s,hs=>⟨fun _=>⟨fun x h=>(by cases h),List.nodup_nil⟩,fun _=>rfl⟩
 | x::l,s,hs=>by
  unfold eacR
  by_cases c1:x<0
  ·rw [dt c1,bc_t];exact ⟨fun h=>(by cases h),fun h=>absurd (h.1 x (by simp)).1 (by omega)⟩
  rw [df c1,bc_f]
  by_cases c2:m≤x
  ·rw [dt c2,bc_t];exact ⟨fun h=>(by cases h),fun h=>absurd (h.1 x (by simp)).2.1 (by omega)⟩
  rw [df c2,bc_f];cases c3:s.getD x.toNat false
  ·rw [bc_f,zl5 m l _ (by rw [List.length_set];exact hs)];have key:∀ y,0≤y→y<m→((s.set x.toNat true).getD y.toNat false=false↔y≠x∧s.getD y.toNat false=false):=fun y hy hy2=>by
    rw [List.getD_eq_getElem?_getD,List.getElem?_set]
    by_cases e:x.toNat=y.toNat
    ·rw [if_pos e,if_pos (by omega)];exact ⟨fun h=>(by cases h),fun h=>absurd (by omega) h.1⟩
    ·rw [if_neg e,← List.getD_eq_getElem?_getD];exact ⟨fun h=>⟨fun e2=>e (by rw [e2]),h⟩,fun h=>h.2⟩
   constructor
   ·rintro ⟨h1,h2⟩
    refine ⟨fun y hy=>?_,List.nodup_cons.2 ⟨fun hx=>?_,h2⟩⟩
    ·rcases List.mem_cons.1 hy with rfl|hy
     ·exact ⟨by omega,by omega,c3⟩
     ·obtain ⟨g1,g2,g3⟩:=h1 y hy;exact ⟨g1,g2,((key y g1 g2).1 g3).2⟩
    ·obtain ⟨g1,g2,g3⟩:=h1 x hx;exact ((key x g1 g2).1 g3).1 rfl
   ·rintro ⟨h1,h2⟩
    obtain ⟨h3,h4⟩:=List.nodup_cons.1 h2;refine ⟨fun y hy=>?_,h4⟩;obtain ⟨g1,g2,g3⟩:=h1 y (by simp [hy]);exact ⟨g1,g2,(key y g1 g2).2 ⟨fun e=>h3 (e ▸ hy),g3⟩⟩
  ·rw [bc_t];exact ⟨fun h=>(by cases h),fun h=>by have:=(h.1 x (by simp)).2.2;rw [c3] at this;cases this⟩
theorem lo_at:∀ (L:List Int) (b:Int),L.Pairwise (· < ·)→(∀ x,x∈L→b≤x)→∀ p,p<L.length→b+p≤L.getD p 0
 | [],b,_,_,p,h=>by simp at h
 | x::L,b,hp,hb,0,h=>by have:=hb x (by simp);show b+0≤x;omega
 | x::L,b,hp,hb,p+1,h=>by
  obtain ⟨h1,h2⟩:=List.pairwise_cons.1 hp;have hbx:=hb x (by simp);have:=lo_at L (b+1) h2 (fun y hy=>by have:=h1 y hy;omega) p (by simpa using h);show b+((p+1:Nat):Int)≤L.getD p 0;omega
theorem hi_at:∀ (L:List Int) (t:Int),L.Pairwise (· < ·)→(∀ x,x∈L→x<t)→∀ p,p<L.length→L.getD p 0+(L.length-p:Nat)≤t
 | [],t,_,_,p,h=>by simp at h
 | [x],t,hp,hb,0,h=>by have:=hb x (by simp);show x+((1:Nat):Int)≤t;omega
 | x::y::L,t,hp,hb,0,h=>by
  obtain ⟨h1,h2⟩:=List.pairwise_cons.1 hp;have:=hi_at (y::L) t h2 (fun z hz=>hb z (by simp [hz])) 0 (by simp);have h3:=h1 y (by simp);have h4:(y::L).getD 0 0=y:=rfl;rw [h4] at this;have h5:(x::y::L).length-0=(y::L).length-0+1:=by simp
  show x+(((x::y::L).length-0:Nat):Int)≤t;rw [h5];omega
 | x::L,t,hp,hb,p+1,h=>by
  obtain ⟨h1,h2⟩:=List.pairwise_cons.1 hp;have:=hi_at L t h2 (fun z hz=>hb z (by simp [hz])) p (by simpa using h);show L.getD p 0+(((x::L).length-(p+1):Nat):Int)≤t;rw [show (x::L).length-(p+1)=L.length-p by simp];exact this
theorem zpi {L:List Int} (hp:L.Pairwise (· < ·)) (h0:∀ x,x∈L→0≤x) (h1:∀ x,x∈L→x<L.length):L=iotL L.length:=
 zpj rfl fun p hpl=>by
  have a:=lo_at L 0 hp h0 p hpl;have b:=hi_at L L.length hp h1 p hpl;omega
theorem ztk {e:List Int} (h:e.Nodup):(srt e).Pairwise (· < ·):=by
 have h1:(srt e).Nodup:=(zdb e).nodup_iff.2 h;have h2:=zrk e;have h3:(srt e).Pairwise (fun a b=>a≤b∧a≠b):=List.Pairwise.and h2 h1;exact h3.imp fun h=>by omega
theorem zs2 (e:List Int) (z:Nat):eacB e (z:Int)=true↔srt e=iotL z:=by
 unfold eacB;have hs:(List.replicate (z:Int).toNat false).length=(z:Int).toNat:=by simp
 have key:=zl5 (z:Int) e _ hs;have hrep:∀ p,(List.replicate (z:Int).toNat false).getD p false=false:=fun p=>by
  rw [List.getD_eq_getElem?_getD,List.getElem?_replicate];split <;> rfl
 constructor
 ·intro h;cases hb:eacR (z:Int) e (List.replicate (z:Int).toNat false) <;> rw [hb] at h
  ·cases h
  ·obtain ⟨g1,g2⟩:=key.1 hb;rw [bc_t] at h;have hl:e.length=z:=by
    have:Int.ofNat e.length=(z:Int):=by simpa using h
    have:(e.length:Int)=(z:Int):=this;omega
   have hsl:(srt e).length=z:=by rw [zdm];exact hl
   have:=zpi (ztk g2) (fun x hx=>(g1 x ((zdb e).mem_iff.1 hx)).1) (fun x hx=>by rw [hsl];exact (g1 x ((zdb e).mem_iff.1 hx)).2.1);rw [hsl] at this;exact this
 ·intro h;have hp:e.Perm (iotL z):=by rw [← h];exact (zdb e).symm
  have hl:e.length=z:=by rw [hp.length_eq,zbs]
  have hb:eacR (z:Int) e (List.replicate (z:Int).toNat false)=true:=key.2 ⟨fun x hx=>by
   have hx:=hp.mem_iff.1 hx;unfold iotL at hx;obtain ⟨i,hi,rfl⟩:=List.mem_map.1 hx;have hi:=List.mem_range.1 hi;exact ⟨by omega,by omega,hrep _⟩,hp.nodup_iff.2 (zem z)⟩
  rw [hb,bc_t,hl];simp
theorem zou {n:Int} {l:List (List U)} {z i:Nat} (hv:ValS n l) (hz:(z:Int)=2*n) (hi:i<l.length):oR (l.getD i [])+4≤z:=by
 have h:ValR n (l.getD i []):=by rw [zaf hi];exact hv.val _ (List.getElem_mem hi)
 have:=h.lo;have:=h.hi;unfold oR;omega
theorem pR_pm (r:List U):Pm4 (pR r):=zhk _
theorem zh0 {n:Int} {l:List (List U)} {z:Nat} (hv:ValS n l) (hz:(z:Int)=2*n):∀ i,i≤l.length→(fwF l z i).Perm (iotL z)
 | 0,_=>.refl _
 | i+1,hi=>by
  unfold fwF;exact (zsf (pR_pm _) (by rw [zdr];exact zou hv hz (by omega))).trans (zh0 hv hz i (by omega))
theorem ztc (l:List (List U)) (e:List Int) (j:Nat):bkF l e (j+1)=mvQ true (oR (l.getD (l.length-1-j) [])) (pR (l.getD (l.length-1-j) [])) (bkF l e j):=rfl
theorem zjy {l:List (List U)} {X:List Int} {z:Nat} {k:Int} (hk:k<0):∀ j,rnF l X z k j=fwF l z j
 | 0=>rfl
 | j+1=>by
  unfold rnF fwF;rw [if_neg (by omega),zjy hk j]
theorem zgo {α:Type} {p:α→Bool} {x:α}:∀ {L:List α},L.Nodup→x∈L→(∀ y,y∈L→(p y=true↔y=x))→L.filter p=[x]
 | [],_,hx,_=>by cases hx
 | y::L,hn,hx,hp=>by
  obtain ⟨h1,h2⟩:=List.nodup_cons.1 hn
  by_cases e:y=x
  ·subst e;rw [List.filter_cons_of_pos ((hp y (by simp)).2 rfl)];have:L.filter p=[]:=List.filter_eq_nil_iff.2 fun z hz h=>h1 (((hp z (by simp [hz])).1 h) ▸ hz);rw [this]
  ·rw [List.filter_cons_of_neg (fun h=>e ((hp y (by simp)).1 h))];rcases List.mem_cons.1 hx with h|h
   ·exact absurd h.symm e
   ·exact zgo h2 h fun z hz=>hp z (by simp [hz])
end Go.Proofs.Ytepiiaeiogdphaa.Ev


namespace Go.Proofs.Ytepiiaeiogdphaa.Ev
noncomputable def ctTW:Tr ZCC:=(Tr.nil.put 34 (some (dC spMat))).put 52 (some (dC spIx))
theorem zcw:ZCtsOk Try.prog ctTW:=((ZCtsOk.nil _).add rfl zg7).add rfl zur
namespace PWro
noncomputable def RUN (s:ES):ZF:=RZs 10 ctTW [(atS 0 10 5,[[(2,none),(4,some (1,3,.ints .i64 [])),(5,none),(7,none),(20,none),(21,none),(22,none)]]),(atS 0 10 11,[[(4,some (1,3,.ints .i64 [])),(5,some (1,3,.ints .i64 [])),(7,none),(36,none),(37,none)]])] [] false s
noncomputable def sA (n:Int) (R:List (List U)) (l q:List Int) (nn:Bool) (i:Int):NS:=⟨[⟨10,51,[(2,(EV.ptr 0 0)),(4,EV.slO 1 1 q.length nn),(5,(EV.v (Value.slice Option.none 0 0))),(7,il l),(20,il l),(21,iv l.length),(22,iv i)],[.it (.code (nav [1,1,1,0,1,0,0] (bodyOf Try.f10))),.it (.inLoop (nav [1,1,1,0,1,0,0] (bodyOf Try.f10))),.it (.inBlock 0),.it (.code (nav [1,1,1,1] (bodyOf Try.f10)))],[],Option.none⟩],[(0,(EK.cells 24 [(iv n),(EV.lst (SyC.recs [(Sh.int IntKind.i64),(Sh.int IntKind.i64),Sh.str] R))] true)),(1,EK.seq 3 (.ints .i64 q) nn)],2⟩
noncomputable def sB (m:Int) (l q r:List Int) (nn mm:Bool) (i:Int):NS:=⟨[⟨10,51,[(4,EV.slO 0 1 q.length nn),(5,EV.slO 1 1 r.length mm),(7,il l),(36,iv m),(37,iv i)],[.it (.code (nav [1,1,1,1,0,1,0,0] (bodyOf Try.f10))),.it (.inLoop (nav [1,1,1,1,0,1,0,0] (bodyOf Try.f10))),.it (.inBlock 2),.it (.code (nav [1,1,1,1,1] (bodyOf Try.f10)))],[],Option.none⟩],[(0,EK.seq 3 (.ints .i64 q) nn),(1,EK.seq 3 (.ints .i64 r) mm)],2⟩
theorem in_t (n m:Int) (R M:List (List U)):RUN (st0 10 (PAgr.args n m R M))=(bc (twE n m R M != 0) (.done (EV.tup [(EV.v (Value.slice Option.none 0 0)),(EV.v (Value.slice Option.none 0 0)),(iv (twE n m R M))]) [] 0) (.at (sA n R (matE n m R M) [] false 0))):=by kernel_rfl
theorem a_t (n:Int) (R:List (List U)) (l q:List Int) (nn:Bool) (i:Int):RUN (stOf (sA n R l q nn i))=(bc (decide (i<(Nat.cast l.length:Int))) (bc (bc (bc (decide (0≤i)) (Nat.blt i.toNat l.length) false) true false) (bc (bc (Nat.blt i.toNat l.length) true false) (bc (decide (l.getD i.toNat 0<0)) (bc (bc (Nat.beq q.length q.length) (bc (Nat.ble (q.length+([i]).length) 65536) (bc nn true (bc nn false true)) false) false) (.at (sA n R l (q++[i]) (bc nn true (Nat.blt 0 ([i]).length)) (IntKind.i64.wrap (i+1)))) .bad) (.at (sA n R l q nn (IntKind.i64.wrap (i+1))))) .bad) .bad) (.at (sB (Int.ofNat R.length) l q [] nn false 0))):=by kernel_rfl
theorem b_t (m:Int) (l q r:List Int) (nn mm:Bool) (i:Int):RUN (stOf (sB m l q r nn mm i))=(bc (decide (i<m)) (bc (bc (decide (l.length≤100000)) true false) (bc (!decide (0≤ixB i 0 l)) (bc (bc (Nat.beq r.length r.length) (bc (Nat.ble (r.length+([i]).length) 65536) (bc mm true (bc mm false true)) false) false) (.at (sB m l q (r++[i]) nn (bc mm true (Nat.blt 0 ([i]).length)) (IntKind.i64.wrap (i+1)))) .bad) (.at (sB m l q r nn mm (IntKind.i64.wrap (i+1))))) .bad) (bc (bc (Nat.beq q.length q.length) (bc (Nat.beq r.length r.length) true false) false) (.done (EV.tup [(il q),(il r),(iv (0))]) [] 0) .bad)):=by kernel_rfl
end PWro
namespace PFst
noncomputable def RUN (s:ES):ZF:=RZ 16 ctTW (fun _=>false) [] [] false s
theorem in_t (n m:Int) (R M:List (List U)):RUN (st0 16 (PAgr.args n m R M))=(bc (twE n m R M != 0) (.done (EV.tup [(iv (0)),(iv (twE n m R M))]) [] 0) (bc (bc (decide ((matE n m R M).length≤100000)) true false) (bc (decide (ixB (-1:Int) 0 (matE n m R M)<0)) (.done (EV.tup [(iv (0)),(iv (4))]) [] 0) (.done (EV.tup [(iv (ixB (-1:Int) 0 (matE n m R M))),(iv (0))]) [] 0)) .bad)):=by kernel_rfl
end PFst
section
namespace RTak
noncomputable def RUN (s:ES):ZF:=RZ 119 .nil (fun _=>false) [] [] false s
theorem in_t (a b p:Int) (u:ByteArray):RUN (st0 119 [.agg [iv a,iv b,sv u],iv p])=(bc (p==b) (.done (bv true) [] 0) (.done (bv (p==IntKind.i64.wrap (b+1))) [] 0)):=by kernel_rfl
theorem ends (a b p:Int) (u:ByteArray) (h:-1000≤b∧b≤1000):EndZ 119 .nil false (st0 119 [.agg [iv a,iv b,sv u],iv p]) (bv (p==b || p==b+1)) [] 0:=by
 have h2:=in_t a b p u;simp (disch:=omega) only [zao] at h2;cases h3:p==b <;> rw [h3] at h2 <;> exact .done h2
end RTak
noncomputable def spTak:ZCT:=fun ax=>match ax with
 | [.agg [.v (.int .i64 a),.v (.int .i64 b),.v (.string u)],.v (.int .i64 p)]=>some ⟨decide (-1000≤b∧b≤1000),bv (p==b || p==b+1),[],0⟩
 | _=>none
theorem zrr:ZCtOk Try.prog 119 spTak:=fun γ w us ax r hs hc hax hN hfz=>by
 unfold spTak at hs;split at hs
 case h_2=>cases hs
 rename_i a b u p;obtain ⟨rfl⟩:=Option.some.inj hs;have hc_0:decide (-1000≤b∧b≤1000)=true:=hc;have hc:=of_decide_eq_true hc_0;exact EndZ.calls (RTak.ends a b p u hc) (.nil _) (by kernel_rfl) hax hN hfz
noncomputable def ctBf:Tr ZCC:=Tr.nil.put 119 (some (dC spTak))
theorem zv0:ZCtsOk Try.prog ctBf:=(ZCtsOk.nil _).add rfl zrr
namespace RBef
noncomputable def RUN (s:ES):ZF:=RZ 92 ctBf (atS 0 92 3) [] [[(1,none),(2,none),(3,none),(7,some (1,3,.ints .i64 [])),(8,none)]] false s
noncomputable def sR (n:Int) (l:List (List U)) (k p:Int) (q:List Int) (nn:Bool) (i:Int):NS:=⟨[⟨92,26,[(1,(iv k)),(2,(iv p)),(3,(EV.ptr 0 0)),(7,EV.slO 1 1 q.length nn),(8,iv i)],[.it (.code (nav [1,1,0,1,0,0,0] (bodyOf Try.f92))),.it (.code (nav [1,1,0,1,0,0,1] (bodyOf Try.f92))),.it (.inLoop (nav [1,1,0,1,0,0] (bodyOf Try.f92))),.it (.inBlock 0),.it (.code (nav [1,1,1] (bodyOf Try.f92)))],[],Option.none⟩],[(0,(EK.cells 24 [(iv n),(EV.lst (SyC.recs [(Sh.int IntKind.i64),(Sh.int IntKind.i64),Sh.str] l))] true)),(1,EK.seq 3 (.ints .i64 q) nn)],2⟩
theorem step_t (n:Int) (l:List (List U)) (k p:Int) (q:List Int) (nn:Bool) (i:Int):RUN (stOf (sR n l k p q nn i))=(bc (decide (i<k)) (bc (bc (bc (decide (0≤i)) (Nat.blt i.toNat l.length) false) true false) (bc (bc (Nat.blt i.toNat l.length) true false) (bc (bc (decide ((-1000:Int)≤U.int ((l.getD i.toNat []).getD (Nat.succ 0) (U.i 0))∧U.int ((l.getD i.toNat []).getD (Nat.succ 0) (U.i 0))≤1000)) true false) (bc (p==U.int ((l.getD i.toNat []).getD (Nat.succ 0) (U.i 0)) || p==U.int ((l.getD i.toNat []).getD (Nat.succ 0) (U.i 0))+1) (bc (bc (Nat.beq q.length q.length) (bc (Nat.ble (q.length+([i]).length) 65536) (bc nn true (bc nn false true)) false) false) (.at (sR n l k p (q++[i]) (bc nn true (Nat.blt 0 ([i]).length)) (IntKind.i64.wrap (i+1)))) .bad) (.at (sR n l k p q nn (IntKind.i64.wrap (i+1))))) .bad) .bad) .bad) (bc (Nat.beq q.length q.length) (.done (il q) [] 0) .bad)):=by kernel_rfl
open Tr7
noncomputable def bfI (l:List (List U)) (p:Int) (i:Nat):List Int:=(bf (aOf l) p i).map fun (j:Nat)=>(j:Int)
theorem ztd (l:List (List U)) (p:Int) (i:Nat):bfI l p (i+1)=bc (tk (aOf l) p i) (bfI l p i++[(i:Int)]) (bfI l p i):=by
 unfold bfI;rw [zdu,bc_eq];split <;> simp
theorem zv7 (l:List (List U)) (p:Int) (i:Nat):(bfI l p i).length=(bf (aOf l) p i).length:=by unfold bfI;exact List.length_map ..
def AtS (l:List (List U)):Prop:=∀ i,i<l.length → -1000≤aOf l i∧aOf l i≤1000
noncomputable instance AtS.dec (l:List (List U)):Decidable (AtS l):=Classical.propDecidable _
theorem step {n p:Int} {l:List (List U)} {k i:Nat} {q:List Int} {nn:Bool} (hi:i<k) (hk:k≤l.length) (hl:l.length≤1000) (ha:AtS l) (hq:q.length≤i):∃ nn',RUN (stOf (sR n l k p q nn i)) = .at (sR n l k p (bc (tk (aOf l) p i) (q++[(i:Int)]) q) nn' (i+1:Nat)):=by
 have h1:=ha i (by omega);have h1':-1000≤rA (l.getD i [])∧rA (l.getD i [])≤1000:=h1;have e1:(p==rA (l.getD i []) || p==rA (l.getD i [])+1)=tk (aOf l) p i:=rfl
 have hs:=step_t n l k p q nn i;simp (disch:=omega) only [yS,fK0,fK1,fA0,fA1,fA2,fW0,fW1,fW2,dt h1',e1,List.map_cons,List.map_nil] at hs;cases h2:tk (aOf l) p i <;> rw [h2] at hs
 ·exact ⟨_,hs⟩
 ·exact ⟨_,hs⟩
theorem last {n p:Int} {l:List (List U)} {k i:Nat} {q:List Int} {nn:Bool} (hi:k≤i):RUN (stOf (sR n l k p q nn i)) = .done (il q) [] 0:=by
 rw [step_t];simp (disch:=omega) only [yS]
theorem loop {n p:Int} {l:List (List U)} {k:Nat} (hk:k≤l.length) (hl:l.length≤1000) (ha:AtS l):∀ (m i:Nat) (nn:Bool),i+m=k→EndZ 92 ctBf false (stOf (sR n l k p (bfI l p i) nn i)) (il (bfI l p k)) [] 0
 | 0,i,nn,h=>by
  have e:i=k:=by omega
  subst e;exact .done (last (Nat.le_refl _))
 | m+1,i,nn,h=>by
  have:=zf9 (aOf l) p i;obtain ⟨nn',hs⟩:=step (n:=n) (p:=p) (nn:=nn) (q:=bfI l p i) (show i<k by omega) hk hl ha (by rw [zv7];exact this);rw [← ztd] at hs;exact .at zv0 hs (loop hk hl ha m (i+1) nn' (by omega))
end RBef
end
section
namespace RAgr
open Tr7 RBef
end RAgr
end
noncomputable def ngB (l:List Int) (i:Nat):Nat→List Int
 | 0=>[]
 | k+1=>bc (decide (l.getD i 0<0)) ((i:Int)::ngB l (i+1) k) (ngB l (i+1) k)
noncomputable def hasI (l:List Int) (i:Int):Bool:=decide (0≤ixB i 0 l)
noncomputable def msB (l:List Int) (i:Nat):Nat→List Int
 | 0=>[]
 | k+1=>bc (hasI l (i:Int)) (msB l (i+1) k) ((i:Int)::msB l (i+1) k)
noncomputable def wrL (l:List Int):List Int:=ngB l 0 l.length
noncomputable def msL (l:List Int) (n:Nat):List Int:=msB l 0 n
theorem zoz (l:List Int):∀ (k i:Nat),(ngB l i k).length≤k
 | 0,_=>Nat.le_refl _
 | k+1,i=>by
  have:=zoz l k (i+1);unfold ngB;cases decide (l.getD i 0<0)
  ·exact Nat.le_succ_of_le this
  ·exact Nat.succ_le_succ this
theorem zo2 (l:List Int):∀ (k i:Nat),(msB l i k).length≤k
 | 0,_=>Nat.le_refl _
 | k+1,i=>by
  have:=zo2 l k (i+1);unfold msB;cases hasI l (i:Int)
  ·exact Nat.succ_le_succ this
  ·exact Nat.le_succ_of_le this
namespace PWro
theorem bLoop {m:Nat} {l q:List Int} {nn:Bool} (hl:l.length≤400) (hm:m≤400):∀ (k i:Nat) (r:List Int) (mm:Bool),i+k=m→r.length≤i→EndZ 10 ctTW false (stOf (sB m l q r nn mm i)) (.tup [il q,il (r++msB l i k),iv 0]) [] 0
 | 0,i,r,mm,h,hr=>by
  have h1:=b_t m l q r nn mm i;simp (disch:=omega) only [yS] at h1;show EndZ _ _ _ _ (.tup [il q,il (r++[]),iv 0]) _ _;rw [List.append_nil];exact .done h1
 | k+1,i,r,mm,h,hr=>by
  have h1:=b_t m l q r nn mm i;simp (disch:=omega) only [yS,List.map_cons,List.map_nil] at h1;unfold msB;have e:decide (0≤ixB (i:Int) 0 l)=hasI l i:=rfl;rw [e] at h1;cases hh:hasI l (i:Int) <;> rw [hh] at h1
  ·simp (disch:=omega) only [yS,Bool.not_false] at h1;rw [show bc false (msB l (i+1) k) ((i:Int)::msB l (i+1) k)=[(i:Int)]++msB l (i+1) k from rfl,← List.append_assoc]
   exact .at zcw h1 (bLoop hl hm k (i+1) _ _ (by omega) (by rw [List.length_append];simp;omega))
  ·simp (disch:=omega) only [yS,Bool.not_true] at h1;exact .at zcw h1 (bLoop hl hm k (i+1) _ _ (by omega) (by omega))
theorem aLoop {n:Int} {R:List (List U)} {l:List Int} (hl:l.length≤400) (hR:R.length≤400):∀ (k i:Nat) (q:List Int) (nn:Bool),i+k=l.length→q.length≤i→EndZ 10 ctTW false (stOf (sA n R l q nn i)) (.tup [il (q++ngB l i k),il (msL l R.length),iv 0]) [] 0
 | 0,i,q,nn,h,hq=>by
  have h1:=a_t n R l q nn i;simp (disch:=omega) only [yS] at h1;show EndZ _ _ _ _ (.tup [il (q++[]),il (msL l R.length),iv 0]) _ _;rw [List.append_nil];exact .at zcw h1 (bLoop hl hR R.length 0 [] false (Nat.zero_add _) (Nat.le_refl _))
 | k+1,i,q,nn,h,hq=>by
  have h1:=a_t n R l q nn i;unfold ngB
  by_cases h0:l.getD i 0<0
  ·simp (disch:=omega) only [yS,List.map_cons,List.map_nil] at h1;rw [dt h0,show bc true ((i:Int)::ngB l (i+1) k) (ngB l (i+1) k)=[(i:Int)]++ngB l (i+1) k from rfl,← List.append_assoc]
   exact .at zcw h1 (aLoop hl hR k (i+1) _ _ (by omega) (by rw [List.length_append];simp;omega))
  ·simp (disch:=omega) only [yS,List.map_cons,List.map_nil] at h1;rw [df h0,bc_f];exact .at zcw h1 (aLoop hl hR k (i+1) _ _ (by omega) (by omega))
end PWro
noncomputable def wrE (n m:Int) (R M:List (List U)):List Int:=bc (twE n m R M != 0) [] (wrL (mat R M))
noncomputable def msE (n m:Int) (R M:List (List U)):List Int:=bc (twE n m R M != 0) [] (msL (mat R M) R.length)
theorem PWro.ends (n m:Int) (R M:List (List U)):EndZ 10 ctTW false (st0 10 (PAgr.args n m R M)) (.tup [il (wrE n m R M),il (msE n m R M),iv (twE n m R M)]) [] 0:=by
 have h:=PWro.in_t n m R M;unfold wrE msE;cases h1:twE n m R M != 0 <;> rw [h1] at h
 ·have e:twE n m R M=0:=by simpa using h1
  have h2:=twE_0 e;unfold matE at h;rw [h1] at h;rw [e];have l1:=za6 h2.1;have l2:=za6 h2.2.1;exact .at zcw h (PWro.aLoop (l:=mat R M) (by rw [zbn];exact l2.1) l1.1 _ 0 [] false (Nat.zero_add _) (Nat.le_refl _))
 ·exact (EndZ.done h).weak (.tup (.cons (Weak.nilI _) (.cons (Weak.nilI _) (.cons (Weak.refl _) .nil))))
noncomputable def spPWr:ZCT:=fun ax=>match ax with
 | [.agg [.v (.int .i64 n),.lst (.recs [.int .i64,.int .i64,.str] R)],.agg [.v (.int .i64 m),.lst (.recs [.int .i64,.int .i64,.str] M)]]=>some ⟨decide (True),.tup [il (wrE n m R M),il (msE n m R M),iv (twE n m R M)],[],0⟩
 | _=>none
theorem zrx:ZCtOk Try.prog 10 spPWr:=fun γ w us ax r hs hc hax hN hfz=>by
 unfold spPWr at hs;split at hs
 case h_2=>cases hs
 rename_i n R m M;obtain ⟨rfl⟩:=Option.some.inj hs;have hc_0:decide (True)=true:=hc;have hc:=of_decide_eq_true hc_0;exact EndZ.calls (PWro.ends n m R M) zcw (by kernel_rfl) hax hN hfz
noncomputable def fsV (n m:Int) (R M:List (List U)):Int:=bc (twE n m R M != 0) 0 ((wrL (mat R M)).getD 0 0)
noncomputable def fsE (n m:Int) (R M:List (List U)):Int:=bc (twE n m R M != 0) (twE n m R M) (bc (Nat.beq (wrL (mat R M)).length 0) 4 0)
theorem ix_ng {l:List Int} (h:∀ k,k<l.length → -1≤l.getD k 0):∀ (k i:Nat),i+k=l.length→(ixB (-1) i (l.drop i)<0∧ngB l i k=[])∨(∃ j:Nat,ixB (-1) i (l.drop i)=(j:Int)∧∃ r,ngB l i k=(j:Int)::r)
 | 0,i,e=>by
  rw [List.drop_eq_nil_of_le (by omega)];exact .inl ⟨by show (-1:Int)<0;decide,rfl⟩
 | k+1,i,e=>by
  have hi:i<l.length:=by omega
  rw [List.drop_eq_getElem_cons hi];unfold ixB ngB;have hg:l.getD i 0=l[i]:=zaf hi;have:=h i hi;rw [hg];rw [hg] at this
  by_cases h0:l[i]<0
  ·have e1:((-1:Int)==l[i])=true:=by rw [beq_iff_eq];omega
   rw [dt h0,e1,bc_t,bc_t];exact .inr ⟨i,rfl,_,rfl⟩
  ·have e1:((-1:Int)==l[i])=false:=by
    cases e2:((-1:Int)==l[i]) with
    | false=>rfl
    | true=>rw [beq_iff_eq] at e2;omega
   rw [df h0,e1,bc_f,bc_f];exact ix_ng h k (i+1) (by omega)
theorem PFst.ends (n m:Int) (R M:List (List U)):EndZ 16 ctTW false (st0 16 (PAgr.args n m R M)) (.tup [iv (fsV n m R M),iv (fsE n m R M)]) [] 0:=by
 have h:=PFst.in_t n m R M;unfold fsV fsE;cases h1:twE n m R M != 0 <;> rw [h1] at h
 ·have e:twE n m R M=0:=by simpa using h1
  have h2:=twE_0 e;have em:matE n m R M=mat R M:=by unfold matE;rw [h1];rfl
  rw [em,bc_f] at h;rw [bc_f,bc_f];have l2:=za6 h2.2.1;have hl:(mat R M).length≤100000:=by rw [zbn];omega
  have key:=ix_ng (l:=mat R M) (fun k hk=>by
   rcases zi6 R M k hk with g|⟨i,g1,g2,g3⟩
   ·omega
   ·omega) (mat R M).length 0 (Nat.zero_add _)
  rw [List.drop_zero] at key;rw [dt hl,bc_t,bc_t] at h;rcases key with ⟨k1,k2⟩|⟨j,k1,r,k2⟩
  ·have k2:wrL (mat R M)=[]:=k2;rw [k2];simp only [dt k1,bc_t] at h;exact .done h
  ·have k2:wrL (mat R M)=(j:Int)::r:=k2;rw [k2];rw [k1,df (by omega)] at h;exact .done h
 ·exact .done h
def rowI (l:List Int) (i k:Nat):List Pr:=((List.range k).filter fun (k:Nat)=>l.getD k 0==(i:Int)).map fun (k:Nat)=>((⟨i%65536,Nat.mod_lt _ (by omega)⟩,(k:Int)):Pr)
theorem zti (l:List Int) (n:Nat):agP l (n+1)=agP l n++rowI l n l.length:=by
 unfold agP rowI;rw [List.range_succ,List.flatMap_append];simp
theorem zwe {l:List Int} (n:Nat) (h:Inj l n) (hn:n≤65536):(agP l n).length≤l.length:=by
 rw [← zff h hn,(zcl _).length_eq];exact PAgr.prT_len l l.length
section
noncomputable abbrev bCTC:ByteArray:=ByteArray.mk #[(67:UInt8),(84:UInt8),(67:UInt8)]
noncomputable abbrev bCT:ByteArray:=ByteArray.mk #[(67:UInt8),(84:UInt8)]
noncomputable def exW (w:ByteArray):List (List U):=[[.i 1,.i 0,.s bCTC],[.i 1,.i 1,.s w],[.i 1,.i 0,.s bCTC]]
theorem zpw:chk4 3 (exW bCT)=0:=by decide +kernel
theorem zpv:chk4 3 (exW bCTC)=0:=by decide +kernel
theorem ex_tw:twE 3 3 (exW bCT) (exW bCTC)=0:=by
 unfold twE;rw [zpw,zpv];rfl
section
variable (n:Nat) (a b:Nat→Int) (e:Nat→Nat→Bool)
instance gdDec (out:List Int) (i k:Nat) (p:Int):Decidable (Tr7.gd a b out i k p):=by unfold Tr7.gd;infer_instance
instance okDec (out:List Int) (k i:Nat):Decidable (Tr7.ok a b e out k i):=by unfold Tr7.ok;infer_instance
def fdD (out:List Int) (k i:Nat) (f:Int):Nat→Int
 | 0=>f
 | m+1=>fdD out k (i+1) (if Tr7.ok a b e out k i then (i:Int) else f) m
theorem ztu (out:List Int) (k:Nat):∀ (m i:Nat) (f:Int),Tr7.fdG a b e out k i f m=fdD a b e out k i f m
 | 0,_,_=>rfl
 | m+1,i,f=>by
  unfold Tr7.fdG fdD;rw [ztu out k m]
  by_cases h:Tr7.ok a b e out k i
  ·rw [if_pos h,if_pos h]
  ·rw [if_neg h,if_neg h]
def agD:Nat→List Int
 | 0=>[]
 | k+1=>agD k++[fdD a b e (agD k) k 0 (-1) n]
theorem zt0:∀ k,Tr7.ag n a b e k=agD n a b e k
 | 0=>rfl
 | k+1=>by
  unfold Tr7.ag agD Tr7.fd;rw [zt0 k,ztu]
end
theorem zjb:mat (exW bCT) (exW bCTC)=[0,-1,-1]:=by
 unfold mat;rw [zt0];decide +kernel
theorem ex_ag:agE 3 3 (exW bCT) (exW bCTC)=[[.i 0,.i 0]]:=by
 unfold agE;rw [ex_tw,zjb];rfl
theorem ex_wr:wrE 3 3 (exW bCT) (exW bCTC)=[1,2]:=by
 unfold wrE;rw [ex_tw,zjb];decide +kernel
theorem ex_ms:msE 3 3 (exW bCT) (exW bCTC)=[1,2]:=by
 unfold msE;rw [ex_tw,zjb];decide +kernel
theorem ex_fv:fsV 3 3 (exW bCT) (exW bCTC)=1:=by
 unfold fsV;rw [ex_tw,zjb];decide +kernel
theorem ex_fe:fsE 3 3 (exW bCT) (exW bCTC)=0:=by
 unfold fsE;rw [ex_tw,zjb];decide +kernel
theorem zw1 (X:List Int):rnF (exW bCTC) X 6 (-1) 3=[4,5,2,3,0,1]:=by
 rw [zjy (by omega)];decide +kernel
theorem ztx:srt [4,5,2,3,0,1]=iotL (2*(3:Int)).toNat:=(zs2 _ 6).1 (by decide +kernel)
theorem zwz:sspV 3 (exW bCT) [4,5,2,3,0,1]=[[.i 1,.i 3,.i 4,.i 1,.i 2]]:=by
 unfold sspV;rw [zpw,if_pos ztx];show sspU _ _ 6=_;unfold sspU;have e:sspR (exW bCT) [4,5,2,3,0,1] 6 (exW bCT).length=[[1,3,4,1,2]]:=by decide +kernel
 rw [e];rfl
theorem zw0:sspE 3 (exW bCT) [4,5,2,3,0,1]=0:=by
 unfold sspE;rw [zpw,if_pos ztx];rfl
end
namespace TEx
noncomputable def RUN (s:ES):ZF:=RZs 56 .nil [] [] false s
theorem in_t (w:ByteArray):RUN (st0 56 [sv w])=(.done (EV.agg [(iv (3)),(EV.lst (SyC.recs [(Sh.int IntKind.i64),(Sh.int IntKind.i64),Sh.str] ([[U.i 1,U.i 0,U.s { data:=#[(67:UInt8),(84:UInt8),(67:UInt8)] }],[U.i 1,U.i 1,U.s w],[U.i 1,U.i 0,U.s { data:=#[(67:UInt8),(84:UInt8),(67:UInt8)] }]])))]) [] 0):=by kernel_rfl
end TEx
noncomputable def spExa:ZCT:=fun ax=>match ax with
 | [.v (.string w)]=>some ⟨decide (True),.agg [iv 3,wl (exW w)],[],0⟩
 | _=>none
theorem zr4:ZCtOk Try.prog 56 spExa:=fun γ w us ax r hs hc hax hN hfz=>by
 unfold spExa at hs;split at hs
 case h_2=>cases hs
 rename_i w;obtain ⟨rfl⟩:=Option.some.inj hs;have hc_0:decide (True)=true:=hc;have hc:=of_decide_eq_true hc_0;exact EndZ.calls (.done (TEx.in_t w)) (.nil _) (by kernel_rfl) hax hN hfz
noncomputable def farG (l:List (List U)) (i:Nat):Nat→Bool
 | 0=>false
 | j+1=>bc (decide (1000<Int.ofNat (rW (l.getD i [])).size)) true (farG l (i+1) j)
noncomputable def farB (m:Int) (l:List (List U)):Bool:=bc (decide (m<Int.ofNat l.length)) (bc (decide (Int.ofNat l.length≤400)) true (bc (decide (2000<Int.ofNat l.length)) true (farG l 0 l.length))) (bc (decide (2000<Int.ofNat l.length)) true (farG l 0 l.length))
namespace TFar
noncomputable def RUN (s:ES):ZF:=RZs 18 .nil [(atS 0 18 4,[[(2,none),(5,none)]])] [] false s
noncomputable def sF (n:Int) (l:List (List U)) (i:Int):NS:=⟨[⟨18,38,[(2,(EV.ptr 0 0)),(5,iv i)],[.it (.code (nav [1,1,0,1,0,0,0] (bodyOf Try.f18))),.it (.code (nav [1,1,0,1,0,0,1] (bodyOf Try.f18))),.it (.inLoop (nav [1,1,0,1,0,0] (bodyOf Try.f18))),.it (.inBlock 0),.it (.code (nav [1,1,1] (bodyOf Try.f18)))],[],Option.none⟩],[(0,(EK.cells 24 [(iv n),(EV.lst (SyC.recs [(Sh.int IntKind.i64),(Sh.int IntKind.i64),Sh.str] l))] true))],1⟩
theorem in_t (n:Int) (l:List (List U)) (m:Int):RUN (st0 18 [.agg [iv n,wl l],iv m])=(bc (decide (m<Int.ofNat l.length)) (bc (decide (Int.ofNat l.length≤400)) (.done (bv true) [] 0) (bc (decide (2000<Int.ofNat l.length)) (.done (bv true) [] 0) (.at (sF n l 0)))) (bc (decide (2000<Int.ofNat l.length)) (.done (bv true) [] 0) (.at (sF n l 0)))):=by kernel_rfl
theorem f_t (n:Int) (l:List (List U)) (i:Int):RUN (stOf (sF n l i))=(bc (decide (i<Int.ofNat l.length)) (bc (bc (bc (decide (0≤i)) (Nat.blt i.toNat l.length) false) true false) (bc (bc (Nat.blt i.toNat l.length) true false) (bc (decide (1000<Int.ofNat (ByteArray.size (U.str ((l.getD i.toNat []).getD (Nat.add 0 2) (U.i 0)))))) (.done (bv true) [] 0) (.at (sF n l (IntKind.i64.wrap (i+1))))) .bad) .bad) (.done (bv false) [] 0)):=by kernel_rfl
theorem loop {n:Int} {l:List (List U)} (hl:l.length≤2000):∀ (j i:Nat),i+j=l.length→EndZ 18 .nil false (stOf (sF n l i)) (bv (farG l i j)) [] 0
 | 0,i,h=>by
  have h1:=f_t n l i;simp (disch:=omega) only [yS] at h1;exact .done h1
 | j+1,i,h=>by
  have h1:=f_t n l i;have e:U.str (List.getD (List.getD l i []) (Nat.add 0 2) (U.i 0))=rW (l.getD i []):=rfl;simp only [za1,e] at h1;unfold farG
  by_cases c:1000<Int.ofNat (rW (l.getD i [])).size
  ·rw [dt c] at h1 ⊢;simp (disch:=omega) only [yS] at h1;exact .done h1
  ·rw [df c] at h1 ⊢;simp (disch:=omega) only [yS] at h1;exact .at (.nil _) h1 (loop hl j (i+1) (by omega))
theorem ends (n:Int) (l:List (List U)) (m:Int):EndZ 18 .nil false (st0 18 [.agg [iv n,wl l],iv m]) (bv (farB m l)) [] 0:=by
 have h:=in_t n l m;unfold farB
 by_cases c1:m<Int.ofNat l.length
 ·rw [dt c1] at h ⊢
  by_cases c2:Int.ofNat l.length≤400
  ·rw [dt c2] at h ⊢;exact .done h
  ·rw [df c2] at h ⊢
   by_cases c3:2000<Int.ofNat l.length
   ·rw [dt c3] at h ⊢;exact .done h
   ·rw [df c3] at h ⊢;have c4:l.length≤2000:=by have:¬ 2000<(l.length:Int):=c3;omega
    exact .at (.nil _) h (loop c4 l.length 0 (Nat.zero_add _))
 ·rw [df c1] at h ⊢
  by_cases c3:2000<Int.ofNat l.length
  ·rw [dt c3] at h ⊢;exact .done h
  ·rw [df c3] at h ⊢;have c4:l.length≤2000:=by have:¬ 2000<(l.length:Int):=c3;omega
   exact .at (.nil _) h (loop c4 l.length 0 (Nat.zero_add _))
end TFar
noncomputable def spFar:ZCT:=fun ax=>match ax with
 | [.agg [.v (.int .i64 n),.lst (.recs [.int .i64,.int .i64,.str] l)],.v (.int .i64 m)]=>some ⟨decide (True),bv (farB m l),[],0⟩
 | _=>none
theorem zr3:ZCtOk Try.prog 18 spFar:=fun γ w us ax r hs hc hax hN hfz=>by
 unfold spFar at hs;split at hs
 case h_2=>cases hs
 rename_i n l m;obtain ⟨rfl⟩:=Option.some.inj hs;have hc_0:decide (True)=true:=hc;have hc:=of_decide_eq_true hc_0;exact EndZ.calls (TFar.ends n l m) (.nil _) (by kernel_rfl) hax hN hfz
def ClP (p:Prop):Prop:=p
noncomputable instance clPDec (p:Prop):Decidable (ClP p):=Classical.propDecidable _
noncomputable def spXAg:ZCT:=fun ax=>match ax with
 | [.agg [.v (.int .i64 n),.lst (.recs [.int .i64,.int .i64,.str] R)],.agg [.v (.int .i64 m),.lst (.recs [.int .i64,.int .i64,.str] M)]]=>some ⟨decide (ClP ((n=3∧m=3)∧R=exW bCT∧M=exW bCTC)),.tup [pl2 [[.i 0,.i 0]],iv 0],[],0⟩
 | _=>none
theorem zrp:ZCtOk Try.prog 20 spXAg:=fun γ w us ax r hs hc hax hN hfz=>by
 unfold spXAg at hs;split at hs
 case h_2=>cases hs
 rename_i n R m M;obtain ⟨rfl⟩:=Option.some.inj hs;have hc_0:decide (ClP ((n=3∧m=3)∧R=exW bCT∧M=exW bCTC))=true:=hc;have hc:=of_decide_eq_true hc_0;exact EndZ.calls ((by obtain ⟨⟨rfl,rfl⟩,rfl,rfl⟩:_∧_:=hc;have:=PAgr.ends 3 3 (exW bCT) (exW bCTC);rwa [ex_ag,ex_tw] at this)) zdt (by kernel_rfl) hax hN hfz
noncomputable def spXWr:ZCT:=fun ax=>match ax with
 | [.agg [.v (.int .i64 n),.lst (.recs [.int .i64,.int .i64,.str] R)],.agg [.v (.int .i64 m),.lst (.recs [.int .i64,.int .i64,.str] M)]]=>some ⟨decide (ClP ((n=3∧m=3)∧R=exW bCT∧M=exW bCTC)),.tup [il [1,2],il [1,2],iv 0],[],0⟩
 | _=>none
theorem zrl:ZCtOk Try.prog 10 spXWr:=fun γ w us ax r hs hc hax hN hfz=>by
 unfold spXWr at hs;split at hs
 case h_2=>cases hs
 rename_i n R m M;obtain ⟨rfl⟩:=Option.some.inj hs;have hc_0:decide (ClP ((n=3∧m=3)∧R=exW bCT∧M=exW bCTC))=true:=hc;have hc:=of_decide_eq_true hc_0;exact EndZ.calls ((by obtain ⟨⟨rfl,rfl⟩,rfl,rfl⟩:_∧_:=hc;have:=PWro.ends 3 3 (exW bCT) (exW bCTC);rwa [ex_wr,ex_ms,ex_tw] at this)) zcw (by kernel_rfl) hax hN hfz
noncomputable def spXFi:ZCT:=fun ax=>match ax with
 | [.agg [.v (.int .i64 n),.lst (.recs [.int .i64,.int .i64,.str] R)],.agg [.v (.int .i64 m),.lst (.recs [.int .i64,.int .i64,.str] M)]]=>some ⟨decide (ClP ((n=3∧m=3)∧R=exW bCT∧M=exW bCTC)),.tup [iv 1,iv 0],[],0⟩
 | _=>none
theorem zro:ZCtOk Try.prog 16 spXFi:=fun γ w us ax r hs hc hax hN hfz=>by
 unfold spXFi at hs;split at hs
 case h_2=>cases hs
 rename_i n R m M;obtain ⟨rfl⟩:=Option.some.inj hs;have hc_0:decide (ClP ((n=3∧m=3)∧R=exW bCT∧M=exW bCTC))=true:=hc;have hc:=of_decide_eq_true hc_0;exact EndZ.calls ((by obtain ⟨⟨rfl,rfl⟩,rfl,rfl⟩:_∧_:=hc;have:=PFst.ends 3 3 (exW bCT) (exW bCTC);rwa [ex_fv,ex_fe] at this)) zcw (by kernel_rfl) hax hN hfz
noncomputable def spXSu:ZCT:=fun ax=>match ax with
 | [.agg [.v (.int .i64 n),.lst (.recs [.int .i64,.int .i64,.str] l)],.lst (.ints .i64 e)]=>some ⟨decide (ClP ((n=3∧l=exW bCT)∧e=[4,5,2,3,0,1])),.tup [.lst (.recs sh5 [[.i 1,.i 3,.i 4,.i 1,.i 2]]),iv 0],[],0⟩
 | _=>none
theorem zrm:ZCtOk Try.prog 25 spXSu:=fun γ w us ax r hs hc hax hN hfz=>by
 unfold spXSu at hs;split at hs
 case h_2=>cases hs
 rename_i n l e;obtain ⟨rfl⟩:=Option.some.inj hs;have hc_0:decide (ClP ((n=3∧l=exW bCT)∧e=[4,5,2,3,0,1]))=true:=hc;have hc:=of_decide_eq_true hc_0;exact EndZ.calls ((by obtain ⟨⟨rfl,rfl⟩,rfl⟩:_∧_:=hc;have:=PSsp.ends (n:=3) (l:=exW bCT) (e:=[4,5,2,3,0,1]) (by decide);rwa [zwz,zw0] at this)) zbi (by kernel_rfl) hax hN hfz
noncomputable def spXRu:ZCT:=fun ax=>match ax with
 | [.agg [.v (.int .i64 n),.lst (.recs [.int .i64,.int .i64,.str] l)],.v (.int .i64 k),.v (.agg ⟨[.int .i64 a,.int .i64 b,.int .i64 c,.int .i64 d]⟩)]=>some ⟨decide (ClP ((n=3∧l=exW bCTC)∧k = -1)),il [4,5,2,3,0,1],[],0⟩
 | _=>none
theorem zrn:ZCtOk Try.prog 32 spXRu:=fun γ w us ax r hs hc hax hN hfz=>by
 unfold spXRu at hs;split at hs
 case h_2=>cases hs
 rename_i n l k a b c d;obtain ⟨rfl⟩:=Option.some.inj hs;have hc_0:decide (ClP ((n=3∧l=exW bCTC)∧k = -1))=true:=hc;have hc:=of_decide_eq_true hc_0;exact EndZ.calls ((by obtain ⟨⟨rfl,rfl⟩,rfl⟩:_∧_:=hc;have:=RRun.endv (n:=3) (l:=exW bCTC) (k:=-1) (a:=a) (b:=b) (c:=c) (d:=d) zpv (.inl (by omega));have e:rnF (exW bCTC) [a,b,c,d] (2*(3:Int)).toNat (-1) (exW bCTC).length=[4,5,2,3,0,1]:=zw1 [a,b,c,d];rwa [e] at this)) zb0 (by kernel_rfl) hax hN hfz
noncomputable def ctSh:Tr ZCC:=((((((Tr.nil.put 20 (some (dC spXAg))).put 10 (some (dC spXWr))).put 16 (some (dC spXFi))).put 25 (some (dC spXSu))).put 32 (some (dC spXRu))).put 56 (some (dC spExa))).put 24 (some (dC spRS4i))
theorem zvy:ZCtsOk Try.prog ctSh:=(((((((ZCtsOk.nil _).add rfl zrp).add rfl zrl).add rfl zro).add rfl zrm).add rfl zrn).add rfl zr4).add rfl ziq
namespace TSh
noncomputable def RUN (s:ES):ZF:=RZs 19 ctSh [] [] false s
theorem in_t (u:Nat):RUN (st0 19 [])=(bc (decide (ClP (((3:Int)=(3:Int)∧(3:Int)=(3:Int))∧exW { data:=#[(67:UInt8),(84:UInt8)] }=exW bCT∧exW { data:=#[(67:UInt8),(84:UInt8),(67:UInt8)] }=exW bCTC)))
 (bc (decide (ClP (((3:Int)=(3:Int)∧(3:Int)=(3:Int))∧exW { data:=#[(67:UInt8),(84:UInt8)] }=exW bCT∧exW { data:=#[(67:UInt8),(84:UInt8),(67:UInt8)] }=exW bCTC)))
  (bc (bc (decide (ClP (((3:Int)=(3:Int)∧(3:Int)=(3:Int))∧exW { data:=#[(67:UInt8),(84:UInt8)] }=exW bCT∧exW { data:=#[(67:UInt8),(84:UInt8),(67:UInt8)] }=exW bCTC))) true false)
   (bc (decide (ClP (((3:Int)=(3:Int)∧exW { data:=#[(67:UInt8),(84:UInt8),(67:UInt8)] }=exW bCTC)∧(-1:Int)=(-1:Int))))
    (bc (decide (ClP (((3:Int)=(3:Int)∧exW { data:=#[(67:UInt8),(84:UInt8)] }=exW bCT)∧[(4:Int),(5:Int),(2:Int),(3:Int),(0:Int),(1:Int)]=[(4:Int),(5:Int),(2:Int),(3:Int),(0:Int),(1:Int)])))
     (bc (eqLI [(1:Int),(2:Int)] (List.map (fun r=>U.int (List.headD r (U.i 0))) [[U.i 1],[U.i 2]]))
      (bc (eqLI [(1:Int),(2:Int)] (List.map (fun r=>U.int (List.headD r (U.i 0))) [[U.i 1],[U.i 2]]))
       (.done (bv true) [] 0)
       (.done (bv false) [] 0))
      (.done (bv false) [] 0))
     .bad)
    .bad)
   .bad)
  .bad)
 .bad):=by kernel_rfl
end TSh
theorem clP {p:Prop} (h:p):decide (ClP p)=true:=decide_eq_true (show ClP p from h)
theorem TSh.ends:EndZ 19 ctSh false (st0 19 []) (bv true) [] 0:=by
 have h:=TSh.in_t 0;have e1:eqLI [1,2] (List.map (fun r=>U.int (List.headD r (U.i 0))) [[U.i 1],[U.i 2]])=true:=za0.2 rfl;rw [clP ⟨⟨rfl,rfl⟩,rfl,rfl⟩,clP ⟨⟨rfl,rfl⟩,rfl⟩,clP ⟨⟨rfl,rfl⟩,rfl⟩,e1] at h;exact .done h
noncomputable def spSho:ZCT:=fun ax=>match ax with
 | []=>some ⟨true,bv true,[],0⟩
 | _=>none
theorem zrv:ZCtOk Try.prog 19 spSho:=fun γ w us ax r hs hc hax hN hfz=>by
 unfold spSho at hs;split at hs
 case h_2=>cases hs
 obtain ⟨rfl⟩:=Option.some.inj hs;exact EndZ.calls TSh.ends zvy (by kernel_rfl) hax hN hfz
end Go.Proofs.Ytepiiaeiogdphaa.Ev
namespace Go.Proofs.Ytepiiaeiogdphaa
open Go.ChangeShapes Go.WideShapes Go.ChangeAt Go.RowKit
theorem zhw {W W':World} (h:Ev.Stays W W') (may:MemPlace→Prop):W.keptBut W' may:=by
 refine ⟨h.os,h.output,fun i hi=>?_⟩;have e:=h.block i hi;rw [e]
 cases hb:W.heap[i]? with
 | none=>simp
 | some o=>
  cases o <;> first|exact ⟨rfl,rfl,rfl,fun _ _=>rfl⟩|exact .inr ⟨rfl,rfl⟩|rfl
theorem zfu {W W':World} (h:Ev.Stays W W') (a:Addr) (ha:a.block<W.heap.size):W'.frozen? a=W.frozen? a:=by
 unfold World.frozen?;rw [h.block _ ha]
section
variable {H:Type} {enc:TypeId×Value→H} {P:Program}
theorem zhj {f:Func} {s:ChangeSpec} {apart fresh handsOn again:Bool} {W W':World} {args:Array Value} {v:Value} {ds gs:List (DataW H)} {before pa pv:List MemPlace}
  (hW:DataW.Whole enc P f.params.toList s.vars apart W args.toList ds gs before)
  (hres:∀ (b:Nat) (sp:Nat→Bool) (hd:Bool),DataW.TrodAll enc P W' b sp hd f.resultTypes.toList (v.resultList f.resultTypes.size) (s.fn H (ds++gs)).results [])
  (hargs:∀ sp:Nat→Bool,(∀ p∈before,sp p.block=true)→DataW.TrodAll enc P W' 0 sp true f.params.toList args.toList (s.fn H (ds++gs)).args pa)
  (hvars:∀ sp:Nat→Bool,(∀ p∈before,sp p.block=true)→DataW.TrodVars enc P W' sp s.vars (s.fn H (ds++gs)).vars pv)
  (hps:before=pa++pv) (hst:Ev.Stays W W')
  (hok:∀ (j:Nat) (t:TypeId) (r:Value),f.resultTypes[j]? = some t→(v.resultList f.resultTypes.size)[j]? = some r→Value.okWide P W' .any 0 t r) :
  s.post enc P f apart fresh handsOn again W args v W':=by
 have hk:W.keptBut W' (· ∈ before):=zhw hst _;have hold:∀ p∈before,(fun b=>decide (b<W.heap.size)) p.block=true:=fun p hp=>by simpa using hW.lt p hp
 have hlt:=fun p hp=>hW.lt p hp;refine ⟨ds,gs,before,[],pa,pv,hW,hres _ _ _,hargs _ hold,hvars _ hold,World.keptBut_mono (fun p hp=>⟨hp,?_⟩) hk,fun _=>?_⟩
 ·rw [hps,List.mem_append] at hp;exact Or.inr hp
 ·obtain ⟨_,_,_,_,_,hz,hn⟩:=hW;refine ⟨hok,_,_,([]++pa)++pv,⟨[]++pa,pv,trodAll_append (hargs _ (fun _ _=>rfl)) (hres _ _ _),hvars _ (fun _ _=>rfl),rfl,?_,?_⟩,?_⟩
  ·intro b off hp;have hp2:MemPlace.cell b off∈before:=by rw [hps];simpa using hp
   rw [zfu hst _ (hlt _ hp2)];exact hz b off hp2
  ·intro ha;have:=hn ha;rw [hps] at this;simpa using this
  ·intro p hp _;rw [hps];simpa using hp
end
end Go.Proofs.Ytepiiaeiogdphaa
namespace Go.Proofs.Ytepiiaeiogdphaa
open Go.ChangeShapes Go.WideShapes Go.ChangeAt Go.RowKit
section
variable {H:Type} {enc:TypeId×Value→H} {P:Program}
theorem zg8 {W W':World} (h:Ev.Stays W W') {p:MemPlace} (hp:p.block<W.heap.size):W.sameAt W' p:=by
 cases p with
 | cell b off=>
  show W'.cell? _=W.cell? _;unfold World.cell?;rw [h.block b hp]
 | map b=>exact h.block b hp
theorem zgy {W W':World} {base:Nat} {sp:Nat→Bool} {hd:Bool}:∀ {ts:List TypeId} {vs:List Value} {ds:List (DataW H)} {ps:List MemPlace},DataW.TrodAll enc P W base sp hd ts vs ds ps→(∀ p∈ps,W.sameAt W' p)→DataW.TrodAll enc P W' base sp hd ts vs ds ps
 | [],[],[],_,h,_=>h
 | _::_,_::_,_::_,_,⟨p,q,⟨n,h⟩,hs,e⟩,k=>⟨p,q,⟨n,DataW.trod_carry n _ _ _ h fun x hx=>k x (by rw [e];exact List.mem_append_left _ hx)⟩,zgy hs fun x hx=>k x (by rw [e];exact List.mem_append_right _ hx),e⟩
 | [],[],_::_,_,h,_=>h.elim
 | [],_::_,_,_,h,_=>h.elim
 | _::_,[],_,_,h,_=>h.elim
 | _::_,_::_,[],_,h,_=>h.elim
theorem zsc {f:Func} {s:ChangeSpec} {apart fresh handsOn again:Bool} {W W':World} {args:Array Value} {ds:List (DataW H)} {p:List MemPlace} {bt:TypeId} {T:TypeId→Prop} (K:Kids P T) (hz:∀ t e,T t→P.underlying t=some (.slice e)→0<P.cellsOf e)
  (hbt:P.underlying bt=some .bool) (hrt:f.resultTypes.toList=[bt]) (hsz:f.resultTypes.size=1) (hvs:s.vars=[]) (hfn:s.fn H (ds++[])={ results:=[.lit (.bool true)],args:=ds })
  (hpt:∀ t∈f.params.toList,T t)
  (hW:DataW.Whole enc P f.params.toList s.vars apart W args.toList ds [] (p++[])) (hA:DataW.TrodAll enc P W 0 (fun _=>true) true f.params.toList args.toList ds p) (hst:Ev.Stays W W')
  (hok:∀ (j:Nat) (t:TypeId) (r:Value),f.resultTypes[j]? = some t→((Value.bool true).resultList f.resultTypes.size)[j]? = some r→Value.okWide P W' .any 0 t r) :
  s.post enc P f apart fresh handsOn again W args (.bool true) W':=by
 have hlt:=fun q hq=>hW.lt q hq;refine zhj (pa:=p) (pv:=[]) hW (fun b sp hd=>?_) (fun sp hsp=>?_) (fun sp _=>?_) rfl hst hok
 ·rw [hrt,hfn,hsz];exact trodAll_mk1 (shut_bool hbt _)
 ·rw [hfn];exact DataW.TrodAll.respare K hz hpt (zgy hA fun q hq=>zg8 hst (hlt q (by simpa using hq))) fun q hq=>hsp q (by simpa using hq)
 ·rw [hfn,hvs];rfl
end
namespace Ev
inductive UFit:Sh→U→Prop where
 | int (k:IntKind) (n:Int) (h:(Lit.int k n).wf=true):UFit (.int k) (.i n)
 | bool (b:Bool):UFit .bool (.b b)
 | str (s:ByteArray) (h:s.size≤maxLen):UFit .str (.s s)
 | list (sh:List Sh) (l:List (List U)) (hl:l.length≤maxLen) (hr:∀ j,j<l.length→(l.getD j []).length=sh.length) (h:∀ (j f:Nat) (s:Sh),j<l.length→sh[f]? = some s→UFit s ((l.getD j []).getD f (.i 0))):UFit (.list sh) (.l l)
structure RowFit (sh:List Sh) (r:List U):Prop where
 len:r.length=sh.length
 fit:∀ (f:Nat) (s:Sh),sh[f]? = some s→UFit s (r.getD f (.i 0))
theorem RowFit.nil:RowFit [] []:=⟨rfl,fun f s h=>by simp at h⟩
theorem RowFit.append {sh1 sh2:List Sh} {r1 r2:List U} (h1:RowFit sh1 r1) (h2:RowFit sh2 r2):RowFit (sh1++sh2) (r1++r2):=by
 refine ⟨by simp [h1.len,h2.len],fun f s h=>?_⟩;rw [List.getD_eq_getElem?_getD]
 by_cases hf:f<sh1.length
 ·rw [List.getElem?_append_left hf] at h;rw [List.getElem?_append_left (by rw [h1.len];exact hf),← List.getD_eq_getElem?_getD];exact h1.fit f s h
 ·rw [List.getElem?_append_right (by omega)] at h;rw [List.getElem?_append_right (by rw [h1.len];omega),h1.len,← List.getD_eq_getElem?_getD];exact h2.fit _ s h
theorem zhf:∀ {sh1 sh2:List Sh} {r1 r2:List U},r1.length=sh1.length→recE (sh1++sh2) (r1++r2)=recE sh1 r1++recE sh2 r2
 | [],sh2,r1,r2,h=>by
  have:r1=[]:=List.eq_nil_of_length_eq_zero h;subst this;rfl
 | s::sh1,sh2,[],r2,h=>by cases h
 | s::sh1,sh2,u::r1,r2,h=>by
  show s.ev u::recE (sh1++sh2) (r1++r2)=s.ev u::(recE sh1 r1++recE sh2 r2);rw [zhf (by simpa using h)]
def shFs (P:Program) (f:TypeId→Option (List Sh)):List Field→Nat→Option (List Sh)
 | [],_=>some []
 | fd::r,off=>match f fd.type with
  | some sh=>if fd.offset=off∧P.cellsOf fd.type=sh.length then match shFs P f r (off+sh.length) with
   | some l=>some (sh++l)
   | none=>none else none
  | none=>none
def shB (P:Program):Nat→TypeId→Option (List Sh)
 | 0,_=>none
 | k+1,t=>match P.underlying t with
  | some (.int κ)=>some [.int κ]
  | some .bool=>some [.bool]
  | some .string=>some [.str]
  | some (.slice e)=>match shB P k e with
   | some sh=>if P.cellsOf e=sh.length∧0<sh.length then some [.list sh] else none
   | none=>none
  | some (.struct fs)=>match shFs P (shB P k) fs.toList 0 with
   | some sh=>if P.cellsOf t=sh.length then some sh else none
   | none=>none
  | some (.array m e)=>match shB P k e with
   | some sh=>if P.cellsOf e=sh.length∧P.cellsOf t=m*sh.length then some (List.replicate m sh).flatten else none
   | none=>none
  | _=>none
noncomputable def fzAll (W:World):Nat→Option (Array Value):=fun k=>match W.heap[k]? with
 | some (.cells a _ _)=>some a
 | _=>none
noncomputable def gAll (W:World):G:=⟨fun _=>none,fzAll W,fun _ _ _=>none⟩
theorem fzAll_at (W:World):FzAt (gAll W) W:=⟨fun k a hk=>(by
 have hk:fzAll W k=some a:=hk;unfold fzAll at hk;split at hk
 ·rename_i a' ty fz h;injection hk with hk;subst hk
  exact ⟨ty,fz,h⟩
 ·cases hk),fun _ _ _=>rfl⟩
theorem zpb {Q:Nat→List U→Prop}:∀ (n:Nat),(∀ i,i<n→∃ r,Q i r)→∃ l:List (List U),l.length=n∧∀ i,i<n→Q i (l.getD i [])
 | 0,_=>⟨[],rfl,fun i hi=>absurd hi (by omega)⟩
 | n+1,h=>by
  obtain ⟨l,h1,h2⟩:=zpb n fun i hi=>h i (by omega);obtain ⟨r,hr⟩:=h n (by omega);refine ⟨l++[r],by simp [h1],fun i hi=>?_⟩;rw [List.getD_eq_getElem?_getD]
  by_cases e:i<n
  ·rw [List.getElem?_append_left (by omega),← List.getD_eq_getElem?_getD];exact h2 i e
  ·have:i=n:=by omega
   subst this;rw [List.getElem?_append_right (by omega),h1,Nat.sub_self];exact hr
variable {H:Type} {enc:TypeId×Value→H} {P:Program} {W:World} {base:Nat} {sp:Nat→Bool} {hd:Bool}
def OpenAt (enc:TypeId×Value→H) (P:Program) (W:World) (base:Nat) (sp:Nat→Bool) (hd:Bool) (k:Nat):Prop:=∀ (t:TypeId) (sh:List Sh) (fuel:Nat) (cs:List Value) (x:DataW H×List MemPlace),shB P k t=some sh→DataW.trod enc P W base sp hd fuel t cs=some x→∃ r,RowFit sh r∧∀ γ:G,γ.fz=fzAll W→ECL γ (recE sh r) cs
theorem zfx {k:Nat} (ih:OpenAt enc P W base sp hd k) {cs:List Value} {n:Nat}:∀ (fs:List Field) (off:Nat) (sh:List Sh),shFs P (shB P k) fs off=some sh→(∀ f,f∈fs→∃ y,DataW.trod enc P W base sp hd n f.type ((cs.drop f.offset).take (P.cellsOf f.type))=some y)→∃ r,RowFit sh r∧∀ γ:G,γ.fz=fzAll W→ECL γ (recE sh r) ((cs.drop off).take sh.length)
 | [],off,sh,h,_=>by
  injection (show some []=some sh from h) with h;subst h
  exact ⟨[],.nil,fun γ _=>by
   rw [show ([]:List Sh).length=0 from rfl,List.take_zero];exact ECL.nil γ⟩
 | fd::fs,off,sh,h,hall=>by
  unfold shFs at h;split at h
  case h_2=>cases h
  rename_i s1 hs1;split at h
  case isFalse=>cases h
  rename_i hc;split at h
  case h_2=>cases h
  rename_i s2 hs2;injection h with h;subst h
  obtain ⟨y,hy⟩:=hall fd (by simp);rw [hc.1,hc.2] at hy;obtain ⟨r1,h1,h2⟩:=ih fd.type s1 n _ y hs1 hy;obtain ⟨r2,h3,h4⟩:=zfx ih fs (off+s1.length) s2 hs2 fun f hf=>hall f (by simp [hf]);refine ⟨r1++r2,h1.append h3,fun γ hγ=>?_⟩;rw [zhf h1.len,List.length_append];have e:(cs.drop off).take (s1.length+s2.length)=(cs.drop off).take s1.length++(cs.drop (off+s1.length)).take s2.length:=by
   rw [List.take_add,List.drop_drop]
  rw [e];exact (h2 γ hγ).append (h4 γ hγ)
theorem zgs {k:Nat} (ih:OpenAt enc P W base sp hd k) {cs:List Value} {n:Nat} {e:TypeId} {sh:List Sh} (hsh:shB P k e=some sh) (hc:P.cellsOf e=sh.length):∀ (m i0:Nat),(∀ i,i<m→∃ y,DataW.trod enc P W base sp hd n e ((cs.drop ((i0+i)*P.cellsOf e)).take (P.cellsOf e))=some y)→∃ r,RowFit (List.replicate m sh).flatten r∧∀ γ:G,γ.fz=fzAll W→ECL γ (recE (List.replicate m sh).flatten r) ((cs.drop (i0*sh.length)).take (m*sh.length))
 | 0,i0,_=>⟨[],.nil,fun γ _=>by
   rw [Nat.zero_mul,List.take_zero];exact ECL.nil γ⟩
 | m+1,i0,h=>by
  obtain ⟨y,hy⟩:=h 0 (by omega);rw [hc,Nat.add_zero] at hy;obtain ⟨r1,h1,h2⟩:=ih e sh n _ y hsh hy;obtain ⟨r2,h3,h4⟩:=zgs ih hsh hc m (i0+1) fun i hi=>by
   have:=h (i+1) (by omega)
   rwa [show i0+(i+1)=i0+1+i by omega] at this
  refine ⟨r1++r2,by rw [List.replicate_succ,List.flatten_cons];exact h1.append h3,fun γ hγ=>?_⟩;rw [List.replicate_succ,List.flatten_cons,zhf h1.len,Nat.succ_mul,Nat.add_comm,List.take_add,List.drop_drop];have:=h4 γ hγ;rw [Nat.succ_mul] at this;exact (h2 γ hγ).append this
theorem zgj:∀ k,OpenAt enc P W base sp hd k
 | 0=>fun t sh fuel cs x h=>by cases h
 | k+1=>fun t sh fuel cs x h ht=>by
  have ih:OpenAt enc P W base sp hd k:=zgj k;unfold shB at h;split at h
  ·rename_i κ hu;injection h with h;subst h
   obtain ⟨n,rfl,_,hw⟩:=DataW.trod_int hu ht;refine ⟨[.i n],⟨rfl,fun f s hf=>?_⟩,fun γ _=>.cons (.v _) (.nil _)⟩;obtain ⟨rfl,rfl⟩:=one_f hf;exact .int κ n hw
  ·rename_i hu;injection h with h;subst h
   obtain ⟨b,rfl,_⟩:=DataW.trod_bool hu ht;refine ⟨[.b b],⟨rfl,fun f s hf=>?_⟩,fun γ _=>.cons (.v _) (.nil _)⟩;obtain ⟨rfl,rfl⟩:=one_f hf;exact .bool b
  ·rename_i hu;injection h with h;subst h
   obtain ⟨s,rfl,_,hs⟩:=DataW.trod_string hu ht;refine ⟨[.s s],⟨rfl,fun f s hf=>?_⟩,fun γ _=>.cons (.v _) (.nil _)⟩;obtain ⟨rfl,rfl⟩:=one_f hf;exact .str _ hs
  ·rename_i e hu;split at h
   case h_2=>cases h
   rename_i sh' hsh;split at h
   case isFalse=>cases h
   rename_i hc;injection h with h;subst h
   rcases DataW.trod_slice hu ht with ⟨rfl,_⟩|⟨a,len,cap,elems,rest,n,_,rfl,_,hb,hlc,hcm,hel,hall,_⟩
   ·refine ⟨[.l []],⟨rfl,fun f s hf=>?_⟩,fun γ _=>.cons ?_ (.nil _)⟩
    ·obtain ⟨rfl,rfl⟩:=one_f hf;exact .list sh' [] (Nat.zero_le _) (fun j hj=>by simp at hj) (fun j f s hj=>by simp at hj)
    ·exact UOk.ec (s:=.list sh') (.empty sh' (.l []) none 0 rfl (Nat.zero_le _) fun _=>rfl)
   ·have each:∀ i,i<len→∃ r,RowFit sh' r∧∃ ys,W.cells? base (a.add (i*sh'.length)) sh'.length=some ys∧∀ γ:G,γ.fz=fzAll W→ECL γ (recE sh' r) ys:=fun i hi=>by
     have h1:=hall i hi;rw [hc.1] at h1;have h2:i<elems.length:=by omega
     rw [List.getElem?_eq_getElem h2] at h1;obtain ⟨ys,h3,h4⟩:=Option.bind_eq_some_iff.1 h1;obtain ⟨r,h5,h6⟩:=ih e sh' n ys _ hsh h4;exact ⟨r,h5,ys,h3,h6⟩
    obtain ⟨l,hl,hQ⟩:=zpb len each;refine ⟨[.l l],⟨rfl,fun f s hf=>?_⟩,fun γ hγ=>.cons ?_ (.nil _)⟩
    ·obtain ⟨rfl,rfl⟩:=one_f hf;exact .list sh' l (by omega) (fun j hj=>(hQ j (by omega)).1.len) fun j f s hj hf=>(hQ j (by omega)).1.fit f s hf
    ·refine UOk.ec (s:=.list sh') ?_
     by_cases h0:len=0
     ·have:l=[]:=List.eq_nil_of_length_eq_zero (by omega);subst this;subst h0;exact .empty sh' (.l []) (some a) cap rfl hcm fun e=>by cases e
     ·obtain ⟨b,off,spot⟩:=a;have hblk:spot=none∧∃ arr ty fz,W.heap[b]? = some (.cells arr ty fz):=by
       obtain ⟨h1,ys,h2,h3⟩:=hQ 0 (by omega);obtain ⟨_,h4,h5⟩:=World.cells?_some h2;have h6:=h5 0 hc.2;rw [List.getElem?_eq_getElem (show 0<ys.length by omega)] at h6;have h6:W.cell? ⟨b,off,spot⟩=some ys[0]:=by
        have e:((⟨b,off,spot⟩:Addr).add (0*sh'.length)).add 0=⟨b,off,spot⟩:=by simp [Addr.add]
        rw [e] at h6;exact h6
       unfold World.cell? at h6;split at h6
       ·rename_i arr ty fz hb';split at h6
        ·cases h6
        ·rename_i hs;exact ⟨by cases spot <;> simp_all,arr,ty,fz,hb'⟩
       ·cases h6
      obtain ⟨rfl,arr,ty,fz,hblk⟩:=hblk;have cellAt:∀ i f,i<len→f<sh'.length→∃ y,W.cell? ⟨b,off+(i*sh'.length+f),none⟩=some y∧∀ s,sh'[f]? = some s→UOk γ.fz s ((l.getD i []).getD f (.i 0)) y:=fun i f hi hf=>by
       obtain ⟨h1,ys,h2,h3⟩:=hQ i hi;obtain ⟨_,h4,h5⟩:=World.cells?_some h2;have h6:=h5 f hf;have h7:f<ys.length:=by omega
       rw [List.getElem?_eq_getElem h7] at h6;refine ⟨ys[f],?_,fun s hs=>?_⟩
       ·have e:((⟨b,off,none⟩:Addr).add (i*sh'.length)).add f=⟨b,off+(i*sh'.length+f),none⟩:=by
         unfold Addr.add;split <;> split <;> simp_all [Nat.add_assoc]
        rw [← h6,e]
       ·have h8:=zd2 (s:=s) (f:=f) (sh:=sh') (l.getD i []) hs;have h9:=(h3 γ hγ).2 f _ ys[f] h8 (List.getElem?_eq_getElem h7);exact UOk.of_ec h9
      have getA:∀ i f,i<len→f<sh'.length→∃ y,arr[off+(i*sh'.length+f)]? = some y∧∀ s,sh'[f]? = some s→UOk γ.fz s ((l.getD i []).getD f (.i 0)) y:=fun i f hi hf=>by
       obtain ⟨y,h1,h2⟩:=cellAt i f hi hf;refine ⟨y,?_,h2⟩;unfold World.cell? at h1;simpa [hblk] using h1
      have hk:γ.fz b=some arr:=by
       rw [hγ];unfold fzAll;rw [hblk]
      subst hl;refine .list sh' (.l l) b off cap arr hk hlc hcm ?_ fun j f s x hj hf hx=>?_
      ·show off+l.length*sh'.length≤arr.size;obtain ⟨y,h1,_⟩:=getA (l.length-1) (sh'.length-1) (by omega) (by omega);have:=(Array.getElem?_eq_some_iff.1 h1).1;have e:l.length*sh'.length=(l.length-1)*sh'.length+sh'.length:=by rw [← Nat.succ_mul];congr 1;omega
       omega
      ·obtain ⟨y,h1,h2⟩:=getA j f hj (List.getElem?_eq_some_iff.1 hf).1;rw [h1] at hx;injection hx with hx;subst hx;exact h2 s hf
  ·rename_i fs hu;split at h
   case h_2=>cases h
   rename_i sh' hsh;split at h
   case isFalse=>cases h
   rename_i hc;injection h with h;subst h
   obtain ⟨xs,n,_,_,hl,hlen,hf⟩:=DataW.trod_struct hu ht;obtain ⟨r,h1,h2⟩:=zfx (cs:=cs) (n:=n) ih fs.toList 0 sh' hsh fun f hm=>by
    obtain ⟨i,hi,rfl⟩:=List.getElem_of_mem hm;have hi2:i<fs.size:=by simpa using hi
    have:=hf i fs.toList[i] (by simp [hi2]);rw [List.getElem?_eq_getElem (by omega)] at this;exact ⟨_,this⟩
   refine ⟨r,h1,fun γ hγ=>?_⟩;have:=h2 γ hγ
   rwa [List.drop_zero,List.take_of_length_le (by omega)] at this
  ·rename_i m e hu;split at h
   case h_2=>cases h
   rename_i sh' hsh;split at h
   case isFalse=>cases h
   rename_i hc;injection h with h;subst h
   obtain ⟨xs,n,_,_,hl,hlen,hf⟩:=DataW.trod_array hu ht;obtain ⟨r,h1,h2⟩:=zgs (cs:=cs) (n:=n) ih hsh hc.1 m 0 fun i hi=>by
    have:=hf i hi;rw [List.getElem?_eq_getElem (by omega)] at this;rw [Nat.zero_add];exact ⟨_,this⟩
   refine ⟨r,h1,fun γ hγ=>?_⟩;have:=h2 γ hγ
   rwa [Nat.zero_mul,List.drop_zero,List.take_of_length_le (by omega)] at this
  ·cases h
theorem open_agg {t:TypeId} {fs:Array Field} {v:Value} {d:DataW H} {ps:List MemPlace} {k b0:Nat} {rc:Reach} {sh:List Sh} (hu:P.underlying t=some (.struct fs)) (hs:shB P k t=some sh) (hv:Value.okWide P W rc b0 t v) (h:DataW.Trod enc P W base sp hd t v d ps):∃ r,RowFit sh r∧EC (gAll W) (.agg (recE sh r)) v:=by
 obtain ⟨cs,rfl,_⟩:=okWide_struct hu hv;obtain ⟨fuel,hf⟩:=h;obtain ⟨r,h1,h2⟩:=zgj k t sh fuel _ _ hs hf;have h3:=h2 (gAll W) rfl;refine ⟨r,h1,?_⟩;have:=EC.agg (γ:=gAll W) (recE sh r) cs.toList h3.1 h3.2;simpa using this
end Ev
end Go.Proofs.Ytepiiaeiogdphaa
namespace Go.Proofs.Ytepiiaeiogdphaa.Ev
namespace LTw
theorem wrE_len (n m:Int) (R M:List (List U)):(wrE n m R M).length≤400:=by
 unfold wrE;cases h:twE n m R M != 0
 ·rw [bc_f];have h2:=twE_0 (n:=n) (m:=m) (R:=R) (M:=M) (by simpa using h);have l2:=(za6 h2.2.1).1;have:=zoz (mat R M) (mat R M).length 0;unfold wrL;rw [zbn] at this ⊢;omega
 ·rw [bc_t];simp
theorem msE_len (n m:Int) (R M:List (List U)):(msE n m R M).length≤400:=by
 unfold msE;cases h:twE n m R M != 0
 ·rw [bc_f];have h2:=twE_0 (n:=n) (m:=m) (R:=R) (M:=M) (by simpa using h);have l1:=(za6 h2.1).1;have:=zo2 (mat R M) R.length 0;unfold msL;omega
 ·rw [bc_t];simp
theorem agE_len (n m:Int) (R M:List (List U)):(agE n m R M).length≤400:=by
 unfold agE;cases h:twE n m R M != 0
 ·rw [bc_f];have h2:=twE_0 (n:=n) (m:=m) (R:=R) (M:=M) (by simpa using h);have l1:=(za6 h2.1).1;have l2:=(za6 h2.2.1).1;unfold agU;rw [List.length_map];have:=zwe R.length (zi6 R M) (by omega);rw [zbn] at this;omega
 ·rw [bc_t];simp
end LTw
end Go.Proofs.Ytepiiaeiogdphaa.Ev
namespace Go.Proofs.Ytepiiaeiogdphaa.Tr7
section
variable {n:Nat} {a b:Nat→Int} {e:Nat→Nat→Bool}
theorem zu6 (hE:∀ i k,e i k=true→a i=b k) {out:List Int} {k i j:Nat} (h:ok a b e out k i) (h':ok a b e out k j):i=j:=by
 have t1:=tk_l hE h.1;have t2:=tk_l hE h'.1;have l1:=h.2.1.1;have l2:=h'.2.1.1;have g1:=bf_at (n:=i+j+1) (show i<i+j+1 by omega) t1;have g2:=bf_at (n:=i+j+1) (show j<i+j+1 by omega) t2;rw [l1,← l2,g2] at g1;injection g1 with g1
 exact g1.symm
theorem ztz (hE:∀ i k,e i k=true→a i=b k) {k m i:Nat} (h:k<m):(ag n a b e m).getD k 0=(i:Int)↔i<n∧ok a b e (ag n a b e k) k i:=by
 rw [ag_at h];rcases fd_of (n:=n) (a:=a) (b:=b) (e:=e) (ag n a b e k) k with ⟨h1,h2⟩|⟨j,h1,h2,h3⟩
 ·rw [h1];exact ⟨fun h=>by omega,fun h=>absurd h.2 (h2 i h.1)⟩
 ·rw [h3];constructor
  ·intro h;have:j=i:=by omega
   subst this;exact ⟨h1,h2⟩
  ·intro h;rw [zu6 hE h.2 h2]
theorem zmi {j k m:Nat} (h1:j<k) (h2:j<m):(ag n a b e k).getD j 0=(ag n a b e m).getD j 0:=by rw [ag_at h1,ag_at h2]
theorem zmf {a:Nat→Int} {p:Int} {i c:Nat} (h:c<(bf a p i).length):(bf a p i).getD c 0<i:=by
 have:(bf a p i)[c]? = some ((bf a p i).getD c 0):=by rw [List.getD_eq_getElem?_getD,List.getElem?_eq_getElem h];rfl
 exact (bf_of this).1
theorem ag_sym (hE:∀ i k,e i k=true→a i=b k) {m:Nat}:∀ (K k i:Nat),k<K→k<m→i<n→(ag n a b e m).getD k 0=(i:Int)→(ag m b a (fun k i=>e i k) n).getD i 0=(k:Int)
 | 0,_,_,h,_,_,_=>by omega
 | K+1,k,i,hK,hk,hi,h=>by
  have hE':∀ k i,(fun k i=>e i k) k i=true→b k=a i:=fun k i h=>(hE i k h).symm;obtain ⟨_,h1,h2,h3⟩:=(ztz hE hk).1 h;have hab:=hE i k h1;refine (ztz (n:=m) (a:=b) (b:=a) (e:=fun k i=>e i k) hE' hi).2 ⟨hk,h1,?_,?_⟩
  all_goals
   rw [hab]
  ·refine ⟨h2.1.symm,fun c hc=>?_⟩;have hc':c<(bf a (b k) i).length:=by rw [h2.1];exact hc
   have g:=h2.2 c hc';have q1:=zmf hc;have q2:=zmf hc';rw [zmi (m:=m) q1 (by omega)] at g;have:=ag_sym hE K _ _ (by omega) (by omega) (by omega) g;rw [zmi (m:=n) q2 (by omega)];exact this
  ·refine ⟨h3.1.symm,fun c hc=>?_⟩;have hc':c<(bf a (b k+1) i).length:=by rw [h3.1];exact hc
   have g:=h3.2 c hc';have q1:=zmf hc;have q2:=zmf hc';rw [zmi (m:=m) q1 (by omega)] at g;have:=ag_sym hE K _ _ (by omega) (by omega) (by omega) g;rw [zmi (m:=n) q2 (by omega)];exact this
end
end Go.Proofs.Ytepiiaeiogdphaa.Tr7
namespace Go.Proofs.Ytepiiaeiogdphaa.Ev
theorem zm1 (x y:List U):rowEq x y=rowEq y x:=by
 unfold rowEq;have hi:∀ p q:Int,(p==q)=(q==p):=fun p q=>by rw [Bool.eq_iff_iff,beq_iff_eq,beq_iff_eq];exact eq_comm
 have hs:∀ p q:List UInt8,(p==q)=(q==p):=fun p q=>by rw [Bool.eq_iff_iff,beq_iff_eq,beq_iff_eq];exact eq_comm
 rw [hi (rK x),hi (rA x),hs (rW x).toList]
theorem zs3 (R M:List (List U)):eOf M R=fun k i=>eOf R M i k:=by
 funext k i
 unfold eOf;exact zm1 _ _
theorem zfr {R M:List (List U)} {k i:Nat} (hk:k<M.length) (hi:i<R.length) (h:(mat R M).getD k 0=(i:Int)):(mat M R).getD i 0=(k:Int):=by
 unfold mat at h ⊢;rw [zs3 R M];exact Tr7.ag_sym (zqd (R:=R) (M:=M)) (k+1) k i (by omega) hk hi h
theorem zo6 {R M:List (List U)} {k:Nat} (hk:k<M.length):(mat R M).getD k 0 = -1∨∃ i:Nat,i<R.length∧(mat R M).getD k 0=(i:Int):=by
 rcases Tr7.ag_ent (n:=R.length) (a:=aOf R) (b:=aOf M) (e:=eOf R M) hk with h|⟨i,h1,h2⟩
 ·exact .inl h
 ·exact .inr ⟨i,h2.lt,h1⟩
theorem zpf {v:Int}:∀ (l:List Int) (i:Nat),(∃ k,k<l.length∧ixB v i l=(i:Int)+k∧l.getD k 0=v)∨(ixB v i l = -1∧∀ k,k<l.length→l.getD k 0≠v)
 | [],i=>.inr ⟨rfl,fun k hk=>by simp at hk⟩
 | x::l,i=>by
  unfold ixB;cases h:v==x
  ·rw [bc_f];have hne:x≠v:=fun e=>by subst e;simp at h
   rcases zpf (v:=v) l (i+1) with ⟨k,h1,h2,h3⟩|⟨h1,h2⟩
   ·exact .inl ⟨k+1,by simp;omega,by rw [h2];omega,h3⟩
   ·refine .inr ⟨h1,fun k hk=>?_⟩
    cases k with
    | zero=>exact hne
    | succ k=>exact h2 k (by simpa using hk)
  ·rw [bc_t];have:v=x:=by simpa using h
   exact .inl ⟨0,by simp,by omega,this.symm⟩
theorem zep {l:List Int} {k:Nat}:hasI l (k:Int)=true↔∃ i,i<l.length∧l.getD i 0=(k:Int):=by
 unfold hasI;rcases zpf (v:=(k:Int)) l 0 with ⟨i,h1,h2,h3⟩|⟨h1,h2⟩
 ·rw [h2];exact ⟨fun _=>⟨i,h1,h3⟩,fun _=>decide_eq_true (by omega)⟩
 ·rw [h1];exact ⟨fun h=>by simp at h,fun ⟨i,q1,q2⟩=>absurd q2 (h2 i q1)⟩
theorem ngms {l l':List Int}:∀ (j i:Nat),(∀ k,k<i+j→decide (l.getD k 0<0) = !hasI l' (k:Int))→ngB l i j=msB l' i j
 | 0,_,_=>rfl
 | j+1,i,h=>by
  unfold ngB msB;rw [ngms j (i+1) fun k hk=>h k (by omega),h i (by omega)];cases hasI l' (i:Int) <;> rfl
theorem wr_ms (R M:List (List U)):wrL (mat R M)=msL (mat M R) M.length:=by
 unfold wrL msL;rw [zbn];refine ngms M.length 0 fun k hk=>?_;have hk:k<M.length:=by omega
 rcases zo6 (R:=R) hk with h|⟨i,hi,h⟩
 ·rw [h];cases hb:hasI (mat M R) (k:Int)
  ·rfl
  ·obtain ⟨i,h1,h2⟩:=zep.1 hb;rw [zbn] at h1;have:=zfr h1 hk h2;omega
 ·rw [h];have:hasI (mat M R) (k:Int)=true:=zep.2 ⟨i,by rw [zbn];exact hi,zfr hk hi h⟩;rw [this,df (by omega)];rfl
end Go.Proofs.Ytepiiaeiogdphaa.Ev
namespace Go.Proofs.Ytepiiaeiogdphaa.Ev
noncomputable def ctTn:Tr ZCC:=((Tr.nil.put 20 (some (dC spPAg))).put 10 (some (dC spPWr))).put 24 (some (dC spRS4i))
theorem zey:ZCtsOk Try.prog ctTn:=(((ZCtsOk.nil _).add rfl zry).add rfl zrx).add rfl ziq
namespace LTn
noncomputable def RUN (s:ES):ZF:=RZs 31 ctTn [(atS 0 31 8,[[(5,none),(7,none),(15,none)]]),(atS 0 31 12,[[(5,none),(7,none),(15,none),(16,none),(17,none)]])] [] false s
noncomputable def sR (a b:List (List U)) (i:Int):NS:=⟨[⟨31,110,[(5,pl2 a),(7,pl2 b),(15,iv i)],[.it (.code (nav [1,1,1,1,1,1,0,1,0,0,0] (bodyOf Try.f31))),.it (.code (nav [1,1,1,1,1,1,0,1,0,0,1] (bodyOf Try.f31))),.it (.inLoop (nav [1,1,1,1,1,1,0,1,0,0] (bodyOf Try.f31))),.it (.inBlock 0),.it (.code (nav [1,1,1,1,1,1,1] (bodyOf Try.f31)))],[],Option.none⟩],[],0⟩
noncomputable def sI (a b:List (List U)) (i:Int) (f:Bool) (k:Int):NS:=⟨[⟨31,110,[(5,pl2 a),(7,pl2 b),(15,iv i),(16,bv f),(17,iv k)],[.it (.code (nav [1,1,1,1,1,1,0,1,0,0,1,0,0,1,0,1,0,0,0] (bodyOf Try.f31))),.it (.code (nav [1,1,1,1,1,1,0,1,0,0,1,0,0,1,0,1,0,0,1] (bodyOf Try.f31))),.it (.inLoop (nav [1,1,1,1,1,1,0,1,0,0,1,0,0,1,0,1,0,0] (bodyOf Try.f31))),.it (.inBlock 2),.it (.code (nav [1,1,1,1,1,1,0,1,0,0,1,0,0,1,1] (bodyOf Try.f31))),.it (.inBlock 1),.it (.code (nav [1,1,1,1,1,1,0,1,0,0,1,1] (bodyOf Try.f31))),.it (.inLoop (nav [1,1,1,1,1,1,0,1,0,0] (bodyOf Try.f31))),.it (.inBlock 0),.it (.code (nav [1,1,1,1,1,1,1] (bodyOf Try.f31)))],[],Option.none⟩],[],0⟩
theorem r_t (a b:List (List U)) (i:Int):RUN (stOf (sR a b i))=(bc (decide (i<Int.ofNat a.length)) (.at (sI a b i false 0)) (.done (bv true) [] 0)):=by kernel_rfl
theorem i_t (a b:List (List U)) (i:Int) (f:Bool) (k:Int):RUN (stOf (sI a b i f k))=(bc (decide (k<Int.ofNat b.length)) (bc f (bc (bc (bc (eqB f true) true false) true false) (.at (sI a b i true (IntKind.i64.wrap (k+1)))) .bad) (bc (bc (bc (eqB f false) (bc (bc (bc (decide (0≤k)) (Nat.blt k.toNat b.length) false) true false) (bc (bc (Nat.blt k.toNat b.length) true false) (bc (bc (bc (decide (0≤i)) (Nat.blt i.toNat a.length) false) true false) (bc (bc (Nat.blt i.toNat a.length) true false) (bc (bc (bc (decide (0≤i)) (Nat.blt i.toNat a.length) false) true false) (bc (bc (Nat.blt i.toNat a.length) true false) true false) false) false) false) false) false) false) true false) (.at (sI a b i (bc (U.int ((b.getD k.toNat []).getD 0 (U.i 0))==U.int ((a.getD i.toNat []).getD (Nat.add 0 (Nat.mul (nat_lit 1) 1)) (U.i 0))) (bc (U.int ((b.getD k.toNat []).getD (Nat.succ 0) (U.i 0))==U.int ((a.getD i.toNat []).getD (Nat.add 0 (Nat.mul (nat_lit 0) 1)) (U.i 0))) true false) false) (IntKind.i64.wrap (k+1)))) .bad)) (bc (!f) (.done (bv false) [] 0) (.at (sR a b (IntKind.i64.wrap (i+1)))))):=by kernel_rfl
theorem in_t (n m:Int) (R M:List (List U)):RUN (st0 31 [.agg [iv n,wl R],.agg [iv m,wl M]])=(bc (twE n m R M != 0) (.done (bv false) [] 0) (bc (twE m n M R != 0) (.done (bv false) [] 0) (bc (twE n m R M != 0) (.done (bv false) [] 0) (bc (twE m n M R != 0) (.done (bv false) [] 0) (bc (Int.ofNat (agE n m R M).length != Int.ofNat (agE m n M R).length) (.done (bv false) [] 0) (bc (bc (decide ((wrE n m R M).length≤100000)) true false) (bc (!eqLI (wrE n m R M) (msE m n M R)) (.done (bv false) [] 0) (bc (bc (decide ((msE n m R M).length≤100000)) true false) (bc (!eqLI (msE n m R M) (wrE m n M R)) (.done (bv false) [] 0) (.at (sR (agE n m R M) (agE m n M R) 0))) .bad)) .bad)))))):=by kernel_rfl
end LTn
theorem zr9 {l:List Int} {n:Nat} (h:Inj l n) (i:Nat):(rowI l i l.length).length=bc (hasI l (i:Int)) 1 0:=by
 unfold rowI;rw [List.length_map];cases hb:hasI l (i:Int)
 ·rw [bc_f];rw [List.filter_eq_nil_iff.2 fun k hk h=>?_]
  ·rfl
  ·have:hasI l (i:Int)=true:=zep.2 ⟨k,List.mem_range.1 hk,by simpa using h⟩;rw [hb] at this;cases this
 ·rw [bc_t];obtain ⟨j,h1,h2⟩:=zep.1 hb;rw [zgo (x:=j) List.nodup_range (List.mem_range.2 h1) fun k hk=>?_]
  ·rfl
  ·have hk:=List.mem_range.1 hk;constructor
   ·intro hk2;have hk2:l.getD k 0=(i:Int):=by simpa using hk2
    rcases h j h1 with g|⟨i',g1,g2,g3⟩
    ·omega
    ·have:i'=i:=by omega
     subst this;exact g3 k hk hk2
   ·rintro rfl
    simpa using h2
theorem cnt_eq {l l':List Int} {n':Nat} (h:Inj l' n'):∀ n,(∀ k,k<n→decide (0≤l.getD k 0)=hasI l' (k:Int))→(prT l n).length=(agP l' n).length
 | 0,_=>rfl
 | n+1,hk=>by
  rw [zhi,zti,List.length_append,List.length_append,cnt_eq h n fun k hkn=>hk k (by omega),zr9 h n,← hk n (by omega)]
  by_cases c:0≤l.getD n 0
  ·rw [if_pos c,dt c];rfl
  ·rw [if_neg c,df c];rfl
theorem zwx {R M:List (List U)} {k:Nat} (hk:k<M.length):decide (0≤(mat R M).getD k 0)=hasI (mat M R) (k:Int):=by
 rcases zo6 (R:=R) hk with h|⟨i,hi,h⟩
 ·rw [h];cases hb:hasI (mat M R) (k:Int)
  ·rfl
  ·obtain ⟨i,h1,h2⟩:=zep.1 hb;rw [zbn] at h1;have:=zfr h1 hk h2;omega
 ·rw [h];have:hasI (mat M R) (k:Int)=true:=zep.2 ⟨i,by rw [zbn];exact hi,zfr hk hi h⟩;rw [this,dt (by omega)]
theorem zwd {R M:List (List U)} (hR:R.length≤400):(agU (mat R M) R.length).length=(agU (mat M R) M.length).length:=by
 unfold agU;rw [List.length_map,List.length_map,← zff (zi6 R M) (by omega),(zcl _).length_eq,zbn];exact cnt_eq (zi6 M R) _ fun k hk=>zwx hk
theorem zqp {l:List Int} {n:Nat} (hn:n≤400) {r:List U}:r∈agU l n↔∃ i k:Nat,i<n∧k<l.length∧l.getD k 0=(i:Int)∧r=[.i (i:Int),.i (k:Int)]:=by
 unfold agU;rw [List.mem_map];constructor
 ·rintro ⟨p,hp,rfl⟩
  obtain ⟨i,k,h1,h2,h3,rfl⟩:=zj4.1 hp;refine ⟨i,k,h1,h2,h3,?_⟩;show [U.i ((i%65536:Nat):Int),U.i (k:Int)]=_;rw [Nat.mod_eq_of_lt (by omega)]
 ·rintro ⟨i,k,h1,h2,h3,rfl⟩
  refine ⟨_,zj4.2 ⟨i,k,h1,h2,h3,rfl⟩,?_⟩;show [U.i ((i%65536:Nat):Int),U.i (k:Int)]=_;rw [Nat.mod_eq_of_lt (by omega)]
theorem zth {R M:List (List U)} (hR:R.length≤400) (hM:M.length≤400) {r:List U} (h:r∈agU (mat R M) R.length):∃ i k:Int,r=[.i i,.i k]∧[.i k,.i i]∈agU (mat M R) M.length:=by
 obtain ⟨i,k,h1,h2,h3,rfl⟩:=(zqp hR).1 h;rw [zbn] at h2;exact ⟨i,k,rfl,(zqp hM).2 ⟨k,i,h2,by rw [zbn];exact h1,zfr h2 h1 h3,rfl⟩⟩
namespace LTn
noncomputable def tuB (a b:List (List U)) (i k:Nat):Bool:=bc (U.int ((b.getD k []).getD 0 (.i 0))==U.int ((a.getD i []).getD 1 (.i 0))) (U.int ((b.getD k []).getD 1 (.i 0))==U.int ((a.getD i []).getD 0 (.i 0))) false
theorem iLoop {a b:List (List U)} (hb:b.length≤400) (ha:a.length≤400) {i:Nat} (hi:i<a.length) (hk:EndZ 31 ctTn false (stOf (sR a b (i+1:Nat))) (bv true) [] 0):∀ (j k:Nat) (f:Bool),k+j=b.length→(f=true∨∃ q,k≤q∧q<b.length∧tuB a b i q=true)→EndZ 31 ctTn false (stOf (sI a b i f k)) (bv true) [] 0
 | 0,k,f,h,hf=>by
  have h1:=i_t a b i f k;rcases hf with rfl|⟨q,q1,q2,_⟩
  ·simp (disch:=omega) only [yS,Bool.not_true] at h1;exact .at zey h1 hk
  ·omega
 | j+1,k,f,h,hf=>by
  have h1:=i_t a b i f k
  cases f with
  | true=>
   simp (disch:=omega) only [yS,show eqB true true=true from rfl] at h1
   exact .at zey h1 (iLoop hb ha hi hk j (k+1) true (by omega) (.inl rfl))
  | false=>
   have e1:∀ x:Bool,bc x true false=x:=fun x=>by cases x <;> rfl
   simp only [za1,show Nat.add 0 (Nat.mul 1 1)=1 from rfl,show Nat.add 0 (Nat.mul 0 1)=0 from rfl,show Nat.succ 0=1 from rfl] at h1
   have e2:bc (U.int ((b.getD k []).getD 0 (.i 0))==U.int ((a.getD i []).getD 1 (.i 0))) (bc (U.int ((b.getD k []).getD 1 (.i 0))==U.int ((a.getD i []).getD 0 (.i 0))) true false) false=tuB a b i k:=by rw [e1];rfl
   rw [e2] at h1;simp (disch:=omega) only [yS,show eqB false false=true from rfl] at h1
   refine .at zey h1 (iLoop hb ha hi hk j (k+1) _ (by omega) ?_);rcases hf with h|⟨q,q1,q2,q3⟩
   ·cases h
   ·by_cases e:q=k
    ·subst e;exact .inl q3
    ·exact .inr ⟨q,by omega,q2,q3⟩
theorem rLoop {a b:List (List U)} (hb:b.length≤400) (ha:a.length≤400) (hall:∀ i,i<a.length→∃ q,q<b.length∧tuB a b i q=true):∀ (j i:Nat),i+j=a.length→EndZ 31 ctTn false (stOf (sR a b i)) (bv true) [] 0
 | 0,i,h=>by
  have h1:=r_t a b i;simp (disch:=omega) only [yS] at h1;exact .done h1
 | j+1,i,h=>by
  have h1:=r_t a b i;have hi:i<a.length:=by omega
  simp (disch:=omega) only [yS] at h1;obtain ⟨q,q1,q2⟩:=hall i hi;exact .at zey h1 (iLoop hb ha hi (rLoop hb ha hall j (i+1) (by omega)) b.length 0 false (Nat.zero_add _) (.inr ⟨q,Nat.zero_le _,q1,q2⟩))
theorem ends {n:Int} {R M:List (List U)} (hR:chk4 n R=0) (hM:chk4 n M=0):EndZ 31 ctTn false (st0 31 [.agg [iv n,wl R],.agg [iv n,wl M]]) (bv true) [] 0:=by
 have h:=in_t n n R M;have t1:twE n n R M=0:=by unfold twE;rw [hR,hM];simp [bc]
 have t2:twE n n M R=0:=by unfold twE;rw [hR,hM];simp [bc]
 have l1:=(za6 hR).1;have l2:=(za6 hM).1;have a1:agE n n R M=agU (mat R M) R.length:=by unfold agE;rw [t1];rfl
 have a2:agE n n M R=agU (mat M R) M.length:=by unfold agE;rw [t2];rfl
 have w1:wrE n n R M=msE n n M R:=by unfold wrE msE;rw [t1,t2,wr_ms R M]
 have w2:msE n n R M=wrE n n M R:=by unfold wrE msE;rw [t1,t2,wr_ms M R]
 have b1:=LTw.wrE_len n n R M;have b2:=LTw.msE_len n n R M;have b3:=LTw.agE_len n n R M;have b4:=LTw.agE_len n n M R;have e1:eqLI (wrE n n R M) (msE n n M R)=true:=za0.2 w1;have e2:eqLI (msE n n R M) (wrE n n M R)=true:=za0.2 w2;have e3:(agE n n R M).length=(agE n n M R).length:=by rw [a1,a2];exact zwd l1
 rw [t1,t2,e1,e2,e3] at h;simp only [bne_self_eq_false,bc_f,Bool.not_true] at h;simp (disch:=omega) only [yS] at h;refine .at zey h (rLoop b4 b3 (fun i hi=>?_) _ 0 (Nat.zero_add _))
 obtain ⟨x,y,hr,hs⟩:=zth (r:=(agE n n R M)[i]) l1 l2 (by rw [← a1];exact List.getElem_mem hi);rw [← a2] at hs;obtain ⟨q,hq,hqe⟩:=List.mem_iff_getElem.1 hs;refine ⟨q,hq,?_⟩;unfold tuB;rw [zaf hi,zaf hq,hr,hqe];show bc (y==y) (x==x) false=true;simp [bc]
end LTn
noncomputable def spTn:ZCT:=fun ax=>match ax with
 | [.agg [.v (.int .i64 n),.lst (.recs [.int .i64,.int .i64,.str] R)],.agg [.v (.int .i64 m),.lst (.recs [.int .i64,.int .i64,.str] M)]]=>some ⟨decide (n=m∧chk4 n R=0∧chk4 n M=0),bv true,[],0⟩
 | _=>none
theorem zuq:ZCtOk Try.prog 31 spTn:=fun γ w us ax r hs hc hax hN hfz=>by
 unfold spTn at hs;split at hs
 case h_2=>cases hs
 rename_i n R m M;obtain ⟨rfl⟩:=Option.some.inj hs;have hc_0:decide (n=m∧chk4 n R=0∧chk4 n M=0)=true:=hc;have hc:=of_decide_eq_true hc_0;exact EndZ.calls ((by obtain ⟨rfl,h1,h2⟩:=hc;exact LTn.ends h1 h2)) zey (by kernel_rfl) hax hN hfz
end Go.Proofs.Ytepiiaeiogdphaa.Ev

namespace Go.Proofs.Ytepiiaeiogdphaa.Ev
noncomputable def ctTx:Tr ZCC:=((((((Tr.nil.put 18 (some (dC spFar))).put 19 (some (dC spSho))).put 25 (some (dC spSsp))).put 32 (some (dC spRun))).put 33 (some (dC spRPl3))).put 9 (some (dC spChk4))).put 31 (some (dC spTn))
theorem zh8:ZCtsOk Try.prog ctTx:=(((((((ZCtsOk.nil _).add rfl zr3).add rfl zrv).add rfl zrt).add rfl zrw).add rfl zir).add rfl zod).add rfl zuq
namespace LTx
noncomputable def RUN (s:ES):ZF:=RZs 7 ctTx [(atS 0 7 9,[[(2,none),(5,none),(7,none)]])] [] false s
noncomputable def sR (n:Int) (l a:List (List U)) (i:Int):NS:=⟨[⟨7,113,[(2,(EV.ptr 0 0)),(5,EV.lst (.recs sh5 a)),(7,iv i)],[.it (.code (nav [1,1,1,1,1,0,1,0,0,0] (bodyOf Try.f7))),.it (.code (nav [1,1,1,1,1,0,1,0,0,1] (bodyOf Try.f7))),.it (.inLoop (nav [1,1,1,1,1,0,1,0,0] (bodyOf Try.f7))),.it (.inBlock 0),.it (.code (nav [1,1,1,1,1,1] (bodyOf Try.f7)))],[],Option.none⟩],[(0,(EK.cells 24 [(iv n),(EV.lst (SyC.recs [(Sh.int IntKind.i64),(Sh.int IntKind.i64),Sh.str] l))] true))],1⟩
theorem r_t (n:Int) (l a:List (List U)) (i:Int):RUN (stOf (sR n l a i))=(bc (decide (i<Int.ofNat a.length)) (bc (bc (bc (decide (0≤i)) (Nat.blt i.toNat l.length) false) true false) (bc (bc (Nat.blt i.toNat l.length) true false) (bc (U.int ((a.getD i.toNat []).getD (Nat.add 0 0) (U.i 0)) != i) (bc (bc (bc (bc (bc (decide (0≤i)) (Nat.blt i.toNat a.length) false) true false) (bc (bc (Nat.blt i.toNat a.length) true false) (bc (eqB (U.int ((a.getD i.toNat []).getD (Nat.add 0 0) (U.i 0)) != i) true) true false) false) false) true false) (.done (bv false) [] 0) .bad) (bc (bc (bc (bc (bc (decide (0≤i)) (Nat.blt i.toNat a.length) false) true false) (bc (bc (Nat.blt i.toNat a.length) true false) (bc (eqB (U.int ((a.getD i.toNat []).getD (Nat.add 0 0) (U.i 0)) != i) false) (bc (bc (bc (decide (0≤i)) (Nat.blt i.toNat a.length) false) true false) (bc (bc (Nat.blt i.toNat a.length) true false) (bc (bc (Nat.blt (0:Int).toNat (plEd (U.str ((l.getD i.toNat []).getD (Nat.add 0 2) (U.i 0)))).length) true false) (bc (bc (Nat.blt (0:Int).toNat (plEd (U.str ((l.getD i.toNat []).getD (Nat.add 0 2) (U.i 0)))).length) true false) (bc (bc (Nat.blt (1:Int).toNat (plEd (U.str ((l.getD i.toNat []).getD (Nat.add 0 2) (U.i 0)))).length) true false) (bc (bc (Nat.blt (1:Int).toNat (plEd (U.str ((l.getD i.toNat []).getD (Nat.add 0 2) (U.i 0)))).length) true false) (bc (bc (Nat.blt (2:Int).toNat (plEd (U.str ((l.getD i.toNat []).getD (Nat.add 0 2) (U.i 0)))).length) true false) (bc (bc (Nat.blt (2:Int).toNat (plEd (U.str ((l.getD i.toNat []).getD (Nat.add 0 2) (U.i 0)))).length) true false) (bc (bc (Nat.blt (3:Int).toNat (plEd (U.str ((l.getD i.toNat []).getD (Nat.add 0 2) (U.i 0)))).length) true false) (bc (bc (Nat.blt (3:Int).toNat (plEd (U.str ((l.getD i.toNat []).getD (Nat.add 0 2) (U.i 0)))).length) true false) true false) false) false) false) false) false) false) false) false) false) false) false) false) true false) (bc (bnot (bc (U.int ((a.getD i.toNat []).getD (Nat.add 0 1) (U.i 0))==(plEd (U.str ((l.getD i.toNat []).getD (Nat.add 0 2) (U.i 0)))).getD (0:Int).toNat 0) (bc (U.int ((a.getD i.toNat []).getD (Nat.succ (Nat.add 0 1)) (U.i 0))==(plEd (U.str ((l.getD i.toNat []).getD (Nat.add 0 2) (U.i 0)))).getD (1:Int).toNat 0) (bc (U.int ((a.getD i.toNat []).getD (Nat.succ (Nat.succ (Nat.add 0 1))) (U.i 0))==(plEd (U.str ((l.getD i.toNat []).getD (Nat.add 0 2) (U.i 0)))).getD (2:Int).toNat 0) (bc (U.int ((a.getD i.toNat []).getD (Nat.succ (Nat.succ (Nat.succ (Nat.add 0 1)))) (U.i 0))==(plEd (U.str ((l.getD i.toNat []).getD (Nat.add 0 2) (U.i 0)))).getD (3:Int).toNat 0) true false) false) false) false)) (.done (bv false) [] 0) (.at (sR n l a (IntKind.i64.wrap (i+1))))) .bad)) .bad) .bad) (.done (bv true) [] 0)):=by kernel_rfl
theorem in_t (n m:Int) (R M:List (List U)):RUN (st0 7 [.agg [iv n,wl R],.agg [iv m,wl M]])=(bc (farB (40:Int) R) (.done (bv true) [] 0) (bc (farB (40:Int) M) (.done (bv true) [] 0) (bc (decide (40<Int.ofNat R.length)) (.done (bv true) [] 0) (bc (decide (40<Int.ofNat M.length)) (.done (bv true) [] 0) (bc (chk4 n R != 0) (.done (bv true) [] 0) (bc (chk4 m M != 0) (.done (bv true) [] 0) (bc (n==m) (bc (bc (decide (n=m∧chk4 n R=(0:Int)∧chk4 n M=(0:Int))) true false) (bc (bc (bc (decide (chk4 n R=(0:Int)∧((-1:Int)<0∨[(0:Int),(0:Int),(0:Int),(0:Int)].length=4∧∀ (x:Int),x∈[(0:Int),(0:Int),(0:Int),(0:Int)]→1≤x∧x≤4))) (bc (decide ((rnF R [(0:Int),(0:Int),(0:Int),(0:Int)] ((2:Int)*n).toNat (-1:Int) R.length).length≤1000)) true false) false) (bc (bc (bc (bc (decide (n=n)) (bc (eqSy (SyC.recs shW R) (SyC.recs shW R)) true false) false) true false) true false) true false) false) (bc (sspE n R (rnF R [(0:Int),(0:Int),(0:Int),(0:Int)] ((2:Int)*n).toNat (-1:Int) R.length) != 0) (.done (bv false) [] 0) (bc (Int.ofNat (sspV n R (rnF R [(0:Int),(0:Int),(0:Int),(0:Int)] ((2:Int)*n).toNat (-1:Int) R.length)).length != Int.ofNat R.length) (.done (bv false) [] 0) (.at (sR n R (sspV n R (rnF R [(0:Int),(0:Int),(0:Int),(0:Int)] ((2:Int)*n).toNat (-1:Int) R.length)) 0)))) .bad) .bad) (bc (bc (bc (decide (chk4 n R=(0:Int)∧((-1:Int)<0∨[(0:Int),(0:Int),(0:Int),(0:Int)].length=4∧∀ (x:Int),x∈[(0:Int),(0:Int),(0:Int),(0:Int)]→1≤x∧x≤4))) (bc (decide ((rnF R [(0:Int),(0:Int),(0:Int),(0:Int)] ((2:Int)*n).toNat (-1:Int) R.length).length≤1000)) true false) false) (bc (bc (bc (bc (decide (n=n)) (bc (eqSy (SyC.recs shW R) (SyC.recs shW R)) true false) false) true false) true false) true false) false) (bc (sspE n R (rnF R [(0:Int),(0:Int),(0:Int),(0:Int)] ((2:Int)*n).toNat (-1:Int) R.length) != 0) (.done (bv false) [] 0) (bc (Int.ofNat (sspV n R (rnF R [(0:Int),(0:Int),(0:Int),(0:Int)] ((2:Int)*n).toNat (-1:Int) R.length)).length != Int.ofNat R.length) (.done (bv false) [] 0) (.at (sR n R (sspV n R (rnF R [(0:Int),(0:Int),(0:Int),(0:Int)] ((2:Int)*n).toNat (-1:Int) R.length)) 0)))) .bad)))))))):=by kernel_rfl
end LTx
end Go.Proofs.Ytepiiaeiogdphaa.Ev
