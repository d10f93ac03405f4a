/- Laid together: A reckoner for closed calls: what values, frames and memory it speaks of, and what that means for the machine. No program is named. A symbolic executor in plain theorems over the kit's 'wp': what slots hold (abstract values), what lies in memory (chunks, by number), and a rule for each operation. No program is named. Words for memory: a slice that can be read (Row), a row .. -/
import Derived.WalkKit
import Derived.AtR
import Derived.RangeFuncRecord
import Derived.MapKept
import Derived.WalkSpells
import Derived.WalkLawsBesides
import Derived.WalkSmall
import Derived.Deep.Quiet
import Derived.Deep.Draws
import Derived.Deep.AppendLies
import Derived.Deep.LoopGhost
import Derived.BigQuiet
import Derived.Deep.QuietTactic
import Derived.Lib.Hide
import Derived.Deep.DeepCutAuto
import Derived.Deep.CutBlock
import Derived.Deep.Light
import Derived.BigRegion
import Derived.Laws.IdiomCopy
import Derived.Maps.AppendAt
import Derived.Laws.MakeOwn
import Derived.Laws.Tables
import Derived.Laws.BytesArg
import Derived.Laws.IdiomStrings
import Derived.Lib.AppendZeros
set_option linter.unusedSimpArgs false
set_option linter.unusedVariables false
noncomputable section
namespace Go.Proofs.Ytepiiaeiogdphaa.Ev
section
open Go.RowKit
def bc {α:Type} (b:Bool) (x y:α):α:=Bool.rec y x b
theorem bc_eq {α:Type} (b:Bool) (x y:α):bc b x y=if b=true then x else y:=by cases b <;> rfl
inductive Tr (α:Type) where
 | nil
 | node (v:Option α) (l r:Tr α)
def Tr.get {α:Type} (t:Tr α):Nat→Option α:=
 Tr.rec (motive:=fun _=>Nat→Option α) (fun _=>none)
  (fun v _ _ gl gr n=>Bool.rec (Bool.rec (gr (Nat.div n 2)) (gl (Nat.div n 2)) (Nat.beq (Nat.mod n 2) 0)) v (Nat.beq n 0)) t
def Tr.set {α:Type} (f:Nat):Tr α→Nat→Option α→Tr α:=
 Nat.rec (motive:=fun _=>Tr α→Nat→Option α→Tr α) (fun t _ _=>t)
  (fun _ ih t n x=>Tr.rec (motive:=fun _=>Tr α)
   (Bool.rec (Bool.rec (.node none .nil (ih .nil (Nat.div n 2) x)) (.node none (ih .nil (Nat.div n 2) x) .nil) (Nat.beq (Nat.mod n 2) 0)) (.node x .nil .nil) (Nat.beq n 0))
   (fun v l r _ _=>Bool.rec (Bool.rec (.node v l (ih r (Nat.div n 2) x)) (.node v (ih l (Nat.div n 2) x) r) (Nat.beq (Nat.mod n 2) 0)) (.node x l r) (Nat.beq n 0)) t) f
section
variable {α:Type}
theorem Tr.get_nil (n:Nat):(Tr.nil:Tr α).get n=none:=rfl
theorem Tr.get_node (v:Option α) (l r:Tr α) (n:Nat):(Tr.node v l r).get n=if n=0 then v else if n%2=0 then l.get (n/2) else r.get (n/2):=by
 show (Bool.rec (Bool.rec (r.get (n/2)) (l.get (n/2)) (Nat.beq (n%2) 0)) v (Nat.beq n 0):Option α)=_;have h1:Nat.beq n 0=decide (n=0):=by cases n <;> rfl
 have h2:Nat.beq (n%2) 0=decide (n%2=0):=by cases n%2 <;> rfl
 rw [h1,h2]
 by_cases e1:n=0
 ·simp [e1]
 ·by_cases e2:n%2=0 <;> simp [e1,e2]
theorem Tr.set_nil (f n:Nat) (x:Option α):Tr.set (f+1) .nil n x=if n=0 then .node x .nil .nil else if n%2=0 then .node none (Tr.set f .nil (n/2) x) .nil else .node none .nil (Tr.set f .nil (n/2) x):=by
 show (Bool.rec (Bool.rec (.node none .nil (Tr.set f .nil (n/2) x)) (.node none (Tr.set f .nil (n/2) x) .nil) (Nat.beq (n%2) 0)) (.node x .nil .nil) (Nat.beq n 0):Tr α)=_;have h1:Nat.beq n 0=decide (n=0):=by cases n <;> rfl
 have h2:Nat.beq (n%2) 0=decide (n%2=0):=by cases n%2 <;> rfl
 rw [h1,h2]
 by_cases e1:n=0
 ·simp [e1]
 ·by_cases e2:n%2=0 <;> simp [e1,e2]
theorem Tr.set_node (f:Nat) (v:Option α) (l r:Tr α) (n:Nat) (x:Option α):Tr.set (f+1) (.node v l r) n x=if n=0 then .node x l r else if n%2=0 then .node v (Tr.set f l (n/2) x) r else .node v l (Tr.set f r (n/2) x):=by
 show (Bool.rec (Bool.rec (.node v l (Tr.set f r (n/2) x)) (.node v (Tr.set f l (n/2) x) r) (Nat.beq (n%2) 0)) (.node x l r) (Nat.beq n 0):Tr α)=_;have h1:Nat.beq n 0=decide (n=0):=by cases n <;> rfl
 have h2:Nat.beq (n%2) 0=decide (n%2=0):=by cases n%2 <;> rfl
 rw [h1,h2]
 by_cases e1:n=0
 ·simp [e1]
 ·by_cases e2:n%2=0 <;> simp [e1,e2]
theorem Tr.get_set:∀ (f:Nat) (t:Tr α) (n:Nat) (x:Option α) (m:Nat),n<2 ^ f→(Tr.set (f+1) t n x).get m=if m=n then x else t.get m
 | 0,t,n,x,m,h=>by
  have:n=0:=by omega
  subst this
  cases t with
  | nil=>rw [Tr.set_nil,if_pos rfl,Tr.get_node];simp [Tr.get_nil]
  | node v l r=>rw [Tr.set_node,if_pos rfl,Tr.get_node,Tr.get_node];by_cases e:m=0 <;> simp [e]
 | f+1,t,n,x,m,h=>by
  have hlt:n/2<2 ^ f:=by rw [Nat.pow_succ] at h;omega
  have key:∀ t2:Tr α,∀ m2,(Tr.set (f+1) t2 (n/2) x).get m2=if m2=n/2 then x else t2.get m2:=fun t2 m2=>Tr.get_set f t2 (n/2) x m2 hlt
  cases t with
  | nil=>
   rw [Tr.set_nil]
   by_cases e1:n=0
   ·rw [if_pos e1,Tr.get_node];subst e1;simp [Tr.get_nil]
   ·rw [if_neg e1]
    by_cases e2:n%2=0
    ·rw [if_pos e2,Tr.get_node,key];simp only [Tr.get_nil]
     by_cases e3:m=0
     ·rw [if_pos e3,if_neg (by omega)]
     ·rw [if_neg e3]
      by_cases e4:m%2=0
      ·rw [if_pos e4];by_cases e5:m=n
       ·rw [if_pos e5,if_pos (by omega)]
       ·rw [if_neg e5,if_neg (by omega)]
      ·rw [if_neg e4,if_neg (by omega)]
    ·rw [if_neg e2,Tr.get_node,key];simp only [Tr.get_nil]
     by_cases e3:m=0
     ·rw [if_pos e3,if_neg (by omega)]
     ·rw [if_neg e3]
      by_cases e4:m%2=0
      ·rw [if_pos e4,if_neg (by omega)]
      ·rw [if_neg e4];by_cases e5:m=n
       ·rw [if_pos e5,if_pos (by omega)]
       ·rw [if_neg e5,if_neg (by omega)]
  | node v l r=>
   rw [Tr.set_node]
   by_cases e1:n=0
   ·rw [if_pos e1,Tr.get_node,Tr.get_node];subst e1;by_cases e:m=0 <;> simp [e]
   ·rw [if_neg e1]
    by_cases e2:n%2=0
    ·rw [if_pos e2,Tr.get_node,Tr.get_node,key]
     by_cases e3:m=0
     ·rw [if_pos e3,if_neg (by omega),if_pos e3]
     ·rw [if_neg e3,if_neg e3]
      by_cases e4:m%2=0
      ·rw [if_pos e4,if_pos e4];by_cases e5:m=n
       ·rw [if_pos e5,if_pos (by omega)]
       ·rw [if_neg e5,if_neg (by omega)]
      ·rw [if_neg e4,if_neg e4,if_neg (by omega)]
    ·rw [if_neg e2,Tr.get_node,Tr.get_node,key]
     by_cases e3:m=0
     ·rw [if_pos e3,if_neg (by omega),if_pos e3]
     ·rw [if_neg e3,if_neg e3]
      by_cases e4:m%2=0
      ·rw [if_pos e4,if_pos e4,if_neg (by omega)]
      ·rw [if_neg e4,if_neg e4];by_cases e5:m=n
       ·rw [if_pos e5,if_pos (by omega)]
       ·rw [if_neg e5,if_neg (by omega)]
def Tr.put (t:Tr α) (n:Nat) (x:Option α):Tr α:=Tr.set 17 t n x
theorem Tr.get_put {t:Tr α} {n:Nat} {x:Option α} {m:Nat} (h:Nat.ble n 65535=true):(t.put n x).get m=if m=n then x else t.get m:=
 Tr.get_set 16 t n x m (by have:=Nat.le_of_ble_eq_true h;omega)
end
inductive U where
 | i (n:Int)
 | b (b:Bool)
 | s (s:ByteArray)
 | l (l:List (List U))
inductive Sh where
 | int (k:IntKind)
 | bool
 | str
 | list (sh:List Sh)
def U.int (u:U):Int:=U.rec (motive_1:=fun _=>Int) (motive_2:=fun _=>PUnit) (motive_3:=fun _=>PUnit) (fun n=>n) (fun _=>0) (fun _=>0) (fun _ _=>0) ⟨⟩ (fun _ _ _ _=>⟨⟩) ⟨⟩ (fun _ _ _ _=>⟨⟩) u
def U.bool (u:U):Bool:=U.rec (motive_1:=fun _=>Bool) (motive_2:=fun _=>PUnit) (motive_3:=fun _=>PUnit) (fun _=>false) (fun b=>b) (fun _=>false) (fun _ _=>false) ⟨⟩ (fun _ _ _ _=>⟨⟩) ⟨⟩ (fun _ _ _ _=>⟨⟩) u
def U.str (u:U):ByteArray:=U.rec (motive_1:=fun _=>ByteArray) (motive_2:=fun _=>PUnit) (motive_3:=fun _=>PUnit) (fun _=>ByteArray.empty) (fun _=>ByteArray.empty) (fun s=>s) (fun _ _=>ByteArray.empty) ⟨⟩ (fun _ _ _ _=>⟨⟩) ⟨⟩ (fun _ _ _ _=>⟨⟩) u
def U.list (u:U):List (List U):=U.rec (motive_1:=fun _=>List (List U)) (motive_2:=fun _=>PUnit) (motive_3:=fun _=>PUnit) (fun _=>[]) (fun _=>[]) (fun _=>[]) (fun l _=>l) ⟨⟩ (fun _ _ _ _=>⟨⟩) ⟨⟩ (fun _ _ _ _=>⟨⟩) u
inductive UOk (fz:Nat→Option (Array Value)):Sh→U→Value→Prop where
 | int (k:IntKind) (u:U):UOk fz (.int k) u (.int k u.int)
 | bool (u:U):UOk fz .bool u (.bool u.bool)
 | str (u:U):UOk fz .str u (.string u.str)
 | empty (sh:List Sh) (u:U) (a:Option Addr) (c:Nat) (hl:u.list=[]) (hc:c≤maxLen) (hn:a=none→c=0):UOk fz (.list sh) u (.slice a 0 c)
 | list (sh:List Sh) (u:U) (k off c:Nat) (arr:Array Value) (hk:fz k=some arr) (hl:u.list.length≤c) (hc:c≤maxLen) (hs:off+u.list.length*sh.length≤arr.size)
   (h:∀ (j f:Nat) (s:Sh) (x:Value),j<u.list.length→sh[f]? = some s→arr[off+(j*sh.length+f)]? = some x→UOk fz s ((u.list.getD j []).getD f (.i 0)) x):UOk fz (.list sh) u (.slice (some ⟨k,off,none⟩) u.list.length c)
theorem UOk.mono {fz fz':Nat→Option (Array Value)} (hle:∀ k a,fz k=some a→fz' k=some a) {s:Sh} {u:U} {x:Value} (h:UOk fz s u x):UOk fz' s u x:=by
 induction h with
 | int k u=>exact .int k u
 | bool u=>exact .bool u
 | str u=>exact .str u
 | empty sh u a c hl hc hn=>exact .empty sh u a c hl hc hn
 | list sh u k off c arr hk hl hc hs _ ih=>exact .list sh u k off c arr (hle _ _ hk) hl hc hs ih
theorem UOk.slice {fz:Nat→Option (Array Value)} {sh:List Sh} {u:U} {x:Value} (h:UOk fz (.list sh) u x):∃ a c,x = .slice a u.list.length c:=by
 cases h with
 | empty sh u a c hl hc hn=>exact ⟨a,c,by rw [hl];rfl⟩
 | list sh u k off c arr hk hl hc hs h=>exact ⟨_,c,rfl⟩
inductive SyC where
 | ints (k:IntKind) (l:List Int)
 | bools (l:List Bool)
 | strs (l:List ByteArray)
 | recs (sh:List Sh) (l:List (List U))
def SyC.sh (c:SyC):List Sh:=match c with
 | .ints k _=>[.int k]
 | .bools _=>[.bool]
 | .strs _=>[.str]
 | .recs sh _=>sh
def SyC.rows (c:SyC):List (List U):=match c with
 | .ints _ l=>l.map fun x=>[.i x]
 | .bools l=>l.map fun x=>[.b x]
 | .strs l=>l.map fun x=>[.s x]
 | .recs _ l=>l
def SyC.cnt (c:SyC):Nat:=match c with
 | .ints _ l=>l.length
 | .bools l=>l.length
 | .strs l=>l.length
 | .recs _ l=>l.length
def SyC.vals (c:SyC):Option (List Value):=match c with
 | .ints k l=>some (l.map (.int k))
 | .bools l=>some (l.map .bool)
 | .strs l=>some (l.map .string)
 | .recs _ _=>none
inductive EV where
 | v (x:Value)
 | ptr (i off:Nat)
 | sl (i z off len:Nat) (cap:Option Nat)
 | agg (cs:List EV)
 | tup (cs:List EV)
 | fn (f:FuncId) (caps:List EV)
 | yl (i:Nat)
 | mp (i:Nat)
 | slE (i z off:Nat)     -- no elements;what room there is,and where it is if there is any,is not known but that it ends where the block ends
 | mt (f:FuncId) (first:List EV)     -- a function with its first arguments
 | slO (i z len:Nat) (nn:Bool)     -- all of a sequence of open length;nn: it is not nil
 | lst (c:SyC)     -- a list that is left alone
 | lp (c:SyC) (j f:Nat)     -- a pointer into one: an element,a cell of it
 | ptrE (i z j f:Nat)     -- a pointer to a cell of an element
 | arr (c:SyC)     -- an array's value,with open contents
 | row (i v j f y z len:Nat)     -- the slice in the cell f of the element j (of y cells) of the nest i,as it was at its version v
 | prow (i v j f y z a g:Nat)     -- a pointer to the cell g of its element a
 | slX (i z off len:Nat)     -- a part of a block,to be read;it is where it is said if it has elements
structure Pl where
 k:Nat
 s:Nat
def Pl.at (p:Pl) (off:Nat):Addr:=⟨p.k,p.s+off,none⟩
structure G where
 g:Nat→Option (Pl×Nat)
 fz:Nat→Option (Array Value)
 rw:Nat→Nat→Nat→Option (Nat×Nat×Nat)     -- a nest,its version,a cell of it ↦ the block of the row that the cell holds,where it begins,and how many cells it has
instance:CoeFun G (fun _=>Nat→Option (Pl×Nat)):=⟨G.g⟩
def SlO (γ:G) (i z len:Nat) (nn:Bool) (x:Value):Prop:=(nn=false→x = .slice none 0 0∧len=0)∧(nn=true→∃ (b:Pl) (m c:Nat),γ i=some (b,m)∧x = .slice (some (b.at 0)) len c∧len≤c∧c≤maxLen∧(c*z=m∨c=0))
theorem SlO.mono {γ γ':G} (hle:∀ i p,γ i=some p→γ' i=some p) {i z len:Nat} {nn:Bool} {x:Value} (h:SlO γ i z len nn x):SlO γ' i z len nn x:=
 ⟨h.1,fun e=>let ⟨b,m,c,h1,h2⟩:=h.2 e;⟨b,m,c,hle _ _ h1,h2⟩⟩
def SlR (γ:G) (i v q z len:Nat) (x:Value):Prop:=(True∧x = .slice none 0 0∧len=0)∨∃ (k:Nat) (m:Nat×Nat) (c:Nat),γ.rw i v q=some (k,m)∧x = .slice (some ⟨k,m.1,none⟩) len c∧len≤c∧c≤maxLen∧(c*z=m.2∨c=0)
inductive EC (γ:G):EV→Value→Prop where
 | v (x:Value):EC γ (.v x) x
 | ptr (i off:Nat) (b:Pl) (n:Nat) (h:γ i=some (b,n)):EC γ (.ptr i off) (.pointer (some (b.at off)))
 | sl (i z off len:Nat) (cap:Option Nat) (b:Pl) (n c:Nat) (h:γ i=some (b,n)) (hl:len≤c) (hm:c≤maxLen) (hn:off+c*z≤n) (hc:∀ k,cap=some k→c=k) (hu:cap=none→off+c*z=n∨c=0):EC γ (.sl i z off len cap) (.slice (some (b.at off)) len c)
 | agg (cs:List EV) (vs:List Value) (hl:cs.length=vs.length) (h:∀ (j:Nat) (a:EV) (x:Value),cs[j]? = some a→vs[j]? = some x→EC γ a x):EC γ (.agg cs) (.agg vs.toArray)
 | tup (cs:List EV) (vs:List Value) (hl:cs.length=vs.length) (h:∀ (j:Nat) (a:EV) (x:Value),cs[j]? = some a→vs[j]? = some x→EC γ a x):EC γ (.tup cs) (.tuple vs.toArray)
 | fn (f:FuncId) (cs:List EV) (vs:List Value) (hl:cs.length=vs.length) (h:∀ (j:Nat) (a:EV) (x:Value),cs[j]? = some a→vs[j]? = some x→EC γ a x):EC γ (.fn f cs) (.func (.func f) #[] vs.toArray)
 | yl (i:Nat) (b:Pl) (n:Nat) (h:γ i=some (b,n)):EC γ (.yl i) (.func (.yield b.k) #[] #[])
 | mp (i:Nat) (b:Pl) (n:Nat) (h:γ i=some (b,n)):EC γ (.mp i) (.map (some b.k))
 | slO (i z len:Nat) (nn:Bool) (x:Value) (h:SlO γ i z len nn x):EC γ (.slO i z len nn) x
 | mt (f:FuncId) (cs:List EV) (vs:List Value) (hl:cs.length=vs.length) (h:∀ (j:Nat) (a:EV) (x:Value),cs[j]? = some a→vs[j]? = some x→EC γ a x):EC γ (.mt f cs) (.func (.func f) vs.toArray #[])
 | slE (i z off:Nat) (b:Pl) (n c off':Nat) (h:γ i=some (b,n)) (hm:c≤maxLen) (hn:0<c→off'=off∧off+c*z=n):EC γ (.slE i z off) (.slice (some (b.at off')) 0 c)
 | lst (c:SyC) (x:Value) (h:UOk γ.fz (.list c.sh) (.l c.rows) x):EC γ (.lst c) x
 | lp (c:SyC) (j f:Nat) (k off cp:Nat) (h:UOk γ.fz (.list c.sh) (.l c.rows) (.slice (some ⟨k,off,none⟩) c.rows.length cp)):EC γ (.lp c j f) (.pointer (some ⟨k,off+(j*c.sh.length+f),none⟩))
 | ptrE (i z j f:Nat) (b:Pl) (n:Nat) (h:γ i=some (b,n)):EC γ (.ptrE i z j f) (.pointer (some (b.at (j*z+f))))
 | arr (c:SyC) (vs:List Value) (h:c.vals=some vs):EC γ (.arr c) (.agg vs.toArray)
 | row (i v j f y z len:Nat) (x:Value) (h:(x = .slice none 0 0∧len=0)∨∃ (k:Nat) (m:Nat×Nat) (c:Nat),γ.rw i v (j*y+f)=some (k,m)∧x = .slice (some ⟨k,m.1,none⟩) len c∧len≤c∧c≤maxLen∧(c*z=m.2∨c=0)):EC γ (.row i v j f y z len) x
 | prow (i v j f y z a g:Nat) (k:Nat) (m:Nat×Nat) (h:γ.rw i v (j*y+f)=some (k,m)):EC γ (.prow i v j f y z a g) (.pointer (some ⟨k,m.1+(a*z+g),none⟩))
 | slX (i z off len:Nat) (b:Pl) (n c off':Nat) (h:γ i=some (b,n)) (hl:len≤c) (hm:c≤maxLen) (hn:off+len*z≤n) (ho:0<len→off'=off):EC γ (.slX i z off len) (.slice (some (b.at off')) len c)
theorem zh6 {γ:G} {i v j f y z len:Nat} {x:Value} (h:EC γ (.row i v j f y z len) x):∃ a c,x = .slice a len c:=by
 cases h with
 | row _ _ _ _ _ _ _ _ h=>
  rcases h with ⟨h,h0⟩|⟨k,m,c,_,h2,_⟩
  ·subst h0;exact ⟨_,_,h⟩
  ·exact ⟨_,c,h2⟩
structure GLe (γ γ':G):Prop where
 le:∀ i p,γ i=some p→γ' i=some p
 fr:∀ k a,γ.fz k=some a→γ'.fz k=some a
 rw:∀ i v q p,γ.rw i v q=some p→γ'.rw i v q=some p
instance {γ γ':G}:CoeFun (GLe γ γ') (fun _=>∀ i p,γ i=some p→γ' i=some p):=⟨GLe.le⟩
theorem GLe.refl (γ:G):GLe γ γ:=⟨fun _ _ h=>h,fun _ _ h=>h,fun _ _ _ _ h=>h⟩
theorem GLe.trans {a b c:G} (h:GLe a b) (k:GLe b c):GLe a c:=⟨fun i p e=>k i p (h i p e),fun i p e=>k.fr i p (h.fr i p e),fun i v q p e=>k.rw i v q p (h.rw i v q p e)⟩
theorem EC.mono {γ γ':G} (hle:GLe γ γ') {a:EV} {x:Value} (h:EC γ a x):EC γ' a x:=by
 induction h with
 | v x=>exact .v x
 | ptr i off b n h=>exact .ptr i off b n (hle _ _ h)
 | sl i z off len cap b n c h hl hm hn hc hu=>exact .sl i z off len cap b n c (hle _ _ h) hl hm hn hc hu
 | agg cs vs hl _ ih=>exact .agg cs vs hl ih
 | tup cs vs hl _ ih=>exact .tup cs vs hl ih
 | fn f cs vs hl _ ih=>exact .fn f cs vs hl ih
 | yl i b n h=>exact .yl i b n (hle _ _ h)
 | mp i b n h=>exact .mp i b n (hle _ _ h)
 | slE i z off b n c off' h hm hn=>exact .slE i z off b n c off' (hle _ _ h) hm hn
 | mt f cs vs hl _ ih=>exact .mt f cs vs hl ih
 | slO i z len nn x h=>exact .slO i z len nn x (h.mono hle.le)
 | lst c x h=>exact .lst c x (h.mono hle.fr)
 | lp c j f k off cp h=>exact .lp c j f k off cp (h.mono hle.fr)
 | ptrE i z j f b n h=>exact .ptrE i z j f b n (hle _ _ h)
 | arr c vs h=>exact .arr c vs h
 | row i v j f y z len x h=>exact .row i v j f y z len x (h.imp id fun ⟨k,m,c,h1,h2⟩=>⟨k,m,c,hle.rw _ _ _ _ h1,h2⟩)
 | prow i v j f y z a g k m h=>exact .prow i v j f y z a g k m (hle.rw _ _ _ _ h)
 | slX i z off len b n c off' h hl hm hn ho=>exact .slX i z off len b n c off' (hle _ _ h) hl hm hn ho
def ECL (γ:G) (cs:List EV) (vs:List Value):Prop:=cs.length=vs.length∧∀ (j:Nat) (a:EV) (x:Value),cs[j]? = some a→vs[j]? = some x→EC γ a x
theorem ECL.mono {γ γ':G} (hle:GLe γ γ') {cs:List EV} {vs:List Value} (h:ECL γ cs vs):ECL γ' cs vs:=⟨h.1,fun j a x ha hx=>(h.2 j a x ha hx).mono hle⟩
theorem ECL.nil (γ:G):ECL γ [] []:=⟨rfl,fun j a x h=>by simp at h⟩
theorem ECL.cons {γ:G} {a:EV} {x:Value} {cs:List EV} {vs:List Value} (h:EC γ a x) (hr:ECL γ cs vs):ECL γ (a::cs) (x::vs):=
 ⟨by simp [hr.1],fun j b y hb hy=>by
  cases j with
  | zero=>simp at hb hy;subst hb hy;exact h
  | succ j=>exact hr.2 j b y (by simpa using hb) (by simpa using hy)⟩
theorem ECL.inv {γ:G} {a:EV} {cs:List EV} {vs:List Value} (h:ECL γ (a::cs) vs):∃ x ys,vs=x::ys∧EC γ a x∧ECL γ cs ys:=by
 cases vs with
 | nil=>have:=h.1;simp at this
 | cons x ys=>exact ⟨x,ys,rfl,h.2 0 a x rfl rfl,by simpa using h.1,fun j b y hb hy=>h.2 (j+1) b y (by simpa using hb) (by simpa using hy)⟩
theorem ECL.at {γ:G} {cs:List EV} {vs:List Value} (h:ECL γ cs vs) {j:Nat} {a:EV} (ha:cs[j]? = some a):∃ x,vs[j]? = some x∧EC γ a x:=by
 have hlt:j<vs.length:=by rw [← h.1];exact (List.getElem?_eq_some_iff.1 ha).1
 exact ⟨vs[j],by simp [hlt],h.2 j a _ ha (by simp [hlt])⟩
theorem ECL.append {γ:G} {cs ds:List EV} {vs ws:List Value} (h:ECL γ cs vs) (k:ECL γ ds ws):ECL γ (cs++ds) (vs++ws):=
 ⟨by simp [h.1,k.1],fun j a x ha hx=>by
  rcases Nat.lt_or_ge j cs.length with hj|hj
  ·rw [List.getElem?_append_left hj] at ha;rw [List.getElem?_append_left (by rw [← h.1];exact hj)] at hx;exact h.2 j a x ha hx
  ·rw [List.getElem?_append_right hj] at ha;rw [List.getElem?_append_right (by rw [← h.1];exact hj),← h.1] at hx;exact k.2 _ a x ha hx⟩
theorem ECL.take {γ:G} {cs:List EV} {vs:List Value} (h:ECL γ cs vs) (n:Nat):ECL γ (cs.take n) (vs.take n):=
 ⟨by simp [h.1],fun j a x ha hx=>by
  rw [List.getElem?_take] at ha hx
  by_cases e:j<n
  ·rw [if_pos e] at ha hx;exact h.2 j a x ha hx
  ·rw [if_neg e] at ha;simp at ha⟩
theorem ECL.drop {γ:G} {cs:List EV} {vs:List Value} (h:ECL γ cs vs) (n:Nat):ECL γ (cs.drop n) (vs.drop n):=
 ⟨by simp [h.1],fun j a x ha hx=>by
  rw [List.getElem?_drop] at ha hx;exact h.2 _ a x ha hx⟩
theorem ECL.vals (γ:G) (zs:List Value):ECL γ (zs.map .v) zs:=
 ⟨by simp,fun j a x ha hx=>by rw [List.getElem?_map,hx] at ha;simp at ha;subst ha;exact .v x⟩
inductive ML (γ:G):List (Value×EV)→List (Value×Value)→Prop where
 | nil:ML γ [] []
 | cons (k:Value) {a:EV} {x:Value} {es:List (Value×EV)} {l:List (Value×Value)} (h:EC γ a x) (r:ML γ es l):ML γ ((k,a)::es) ((k,x)::l)
theorem ML.mono {γ γ':G} (hle:GLe γ γ') {es:List (Value×EV)} {l:List (Value×Value)} (h:ML γ es l):ML γ' es l:=by
 induction h with
 | nil=>exact .nil
 | cons k h _ ih=>exact .cons k (h.mono hle) ih
def kvs (ents:Array MapEntry):List (Value×Value):=ents.toList.map fun e=>(e.key,e.val)
def mkC (sh:List Sh) (l:List (List U)):SyC:=match sh with
 | [.int k]=>.ints k (l.map fun r=>(r.headD (.i 0)).int)
 | [.bool]=>.bools (l.map fun r=>(r.headD (.i 0)).bool)
 | [.str]=>.strs (l.map fun r=>(r.headD (.i 0)).str)
 | sh=>.recs sh l
theorem SyC.cnt_eq (c:SyC):c.cnt=c.rows.length:=by cases c <;> simp [SyC.cnt,SyC.rows]
def Sh.ev (s:Sh) (u:U):EV:=match s with
 | .int k=>.v (.int k u.int)
 | .bool=>.v (.bool u.bool)
 | .str=>.v (.string u.str)
 | .list sh=>.lst (mkC sh u.list)
theorem UOk.get {fz:Nat→Option (Array Value)} {sh:List Sh} {u:U} {k off c len:Nat} (h:UOk fz (.list sh) u (.slice (some ⟨k,off,none⟩) len c)) {j f:Nat} {s:Sh} (h1:j<u.list.length) (h2:sh[f]? = some s) :
  ∃ arr x,fz k=some arr∧arr[off+(j*sh.length+f)]? = some x∧UOk fz s ((u.list.getD j []).getD f (.i 0)) x:=by
 generalize hx:Value.slice (some ⟨k,off,none⟩) len c=x at h
 cases h with
 | empty _ _ a c hl hc hn=>rw [hl] at h1;simp at h1
 | list _ _ k' off' c' arr hk hl hc hs h=>
  injection hx with e1 e2 e3
  injection e1 with e1;injection e1 with e4 e5;subst e4;subst e5
  have hf:=(List.getElem?_eq_some_iff.1 h2).1;have hlt:off+(j*sh.length+f)<arr.size:=by
   have:(j+1)*sh.length≤u.list.length*sh.length:=Nat.mul_le_mul_right _ h1;rw [Nat.succ_mul] at this;omega
  exact ⟨arr,arr[off+(j*sh.length+f)],hk,by simp [hlt],h j f s _ h1 h2 (by simp [hlt])⟩
theorem UOk.same {fz:Nat→Option (Array Value)} {sh:List Sh} {u v:U} {x:Value} (h:UOk fz (.list sh) u x) (hl:v.list.length=u.list.length) (hc:∀ (j f:Nat) (s:Sh) (y:Value),j<u.list.length→sh[f]? = some s→UOk fz s ((u.list.getD j []).getD f (.i 0)) y→UOk fz s ((v.list.getD j []).getD f (.i 0)) y):UOk fz (.list sh) v x:=by
 cases h with
 | empty _ _ a c h0 hm hn=>exact .empty _ _ a c (List.eq_nil_of_length_eq_zero (by rw [hl,h0];rfl)) hm hn
 | list _ _ k off c arr hk hlc hm hs h=>
  rw [← hl];exact .list _ _ k off c arr hk (by omega) hm (by rw [hl];exact hs) fun j f s y hj hf hy=>hc j f s y (by omega) hf (h j f s y (by omega) hf hy)
theorem UOk.int_of {fz:Nat→Option (Array Value)} {k:IntKind} {u v:U} {x:Value} (h:UOk fz (.int k) u x) (e:v.int=u.int):UOk fz (.int k) v x:=by cases h;rw [← e];exact .int k v
theorem UOk.bool_of {fz:Nat→Option (Array Value)} {u v:U} {x:Value} (h:UOk fz .bool u x) (e:v.bool=u.bool):UOk fz .bool v x:=by cases h;rw [← e];exact .bool v
theorem UOk.str_of {fz:Nat→Option (Array Value)} {u v:U} {x:Value} (h:UOk fz .str u x) (e:v.str=u.str):UOk fz .str v x:=by cases h;rw [← e];exact .str v
theorem one_f {s0 s:Sh} {f:Nat} (h:[s0][f]? = some s):f=0∧s=s0:=by
 cases f with
 | zero=>simp at h;exact ⟨rfl,h.symm⟩
 | succ f=>simp at h
theorem zhq {α:Type} (l:List (List U)) (g:List U→α) (c:α→U) {j:Nat} (hj:j<l.length):(((l.map g).map fun x=>[c x]).getD j []).getD 0 (.i 0)=c (g (l.getD j [])):=by
 rw [List.map_map,List.getD_eq_getElem?_getD,List.getD_eq_getElem?_getD,List.getElem?_map,List.getElem?_eq_getElem hj,List.getD_eq_getElem?_getD,List.getElem?_eq_getElem hj];rfl
theorem zeo (r:List U):r.headD (.i 0)=r.getD 0 (.i 0):=by cases r <;> rfl
theorem UOk.mkC_iff {fz:Nat→Option (Array Value)} {sh:List Sh} {u:U} {x:Value}:UOk fz (.list (mkC sh u.list).sh) (.l (mkC sh u.list).rows) x↔UOk fz (.list sh) u x:=by
 unfold Ev.mkC;split
 ·rename_i k;have e:∀ j,j<u.list.length→(((SyC.ints k (u.list.map fun r=>(r.headD (.i 0)).int)).rows.getD j []).getD 0 (.i 0)).int=((u.list.getD j []).getD 0 (.i 0)).int:=fun j hj=>by
   show ((((u.list.map _).map fun x=>[U.i x]).getD j []).getD 0 (.i 0)).int=_;rw [zhq u.list _ U.i hj,zeo];rfl
  have hl:(SyC.ints k (u.list.map fun r=>(r.headD (.i 0)).int)).rows.length=u.list.length:=by show ((u.list.map _).map _).length=_;simp
  constructor
  ·intro h;refine h.same (v:=u) hl.symm fun j f s y hj hf hy=>?_;obtain ⟨rfl,rfl⟩:=one_f hf;exact hy.int_of (e j (by rw [← hl];exact hj)).symm
  ·intro h;refine h.same (v:=.l _) hl fun j f s y hj hf hy=>?_;obtain ⟨rfl,rfl⟩:=one_f hf;exact hy.int_of (e j hj)
 ·have e:∀ j,j<u.list.length→(((SyC.bools (u.list.map fun r=>(r.headD (.i 0)).bool)).rows.getD j []).getD 0 (.i 0)).bool=((u.list.getD j []).getD 0 (.i 0)).bool:=fun j hj=>by
   show ((((u.list.map _).map fun x=>[U.b x]).getD j []).getD 0 (.i 0)).bool=_;rw [zhq u.list _ U.b hj,zeo];rfl
  have hl:(SyC.bools (u.list.map fun r=>(r.headD (.i 0)).bool)).rows.length=u.list.length:=by show ((u.list.map _).map _).length=_;simp
  constructor
  ·intro h;refine h.same (v:=u) hl.symm fun j f s y hj hf hy=>?_;obtain ⟨rfl,rfl⟩:=one_f hf;exact hy.bool_of (e j (by rw [← hl];exact hj)).symm
  ·intro h;refine h.same (v:=.l _) hl fun j f s y hj hf hy=>?_;obtain ⟨rfl,rfl⟩:=one_f hf;exact hy.bool_of (e j hj)
 ·have e:∀ j,j<u.list.length→(((SyC.strs (u.list.map fun r=>(r.headD (.i 0)).str)).rows.getD j []).getD 0 (.i 0)).str=((u.list.getD j []).getD 0 (.i 0)).str:=fun j hj=>by
   show ((((u.list.map _).map fun x=>[U.s x]).getD j []).getD 0 (.i 0)).str=_;rw [zhq u.list _ U.s hj,zeo];rfl
  have hl:(SyC.strs (u.list.map fun r=>(r.headD (.i 0)).str)).rows.length=u.list.length:=by show ((u.list.map _).map _).length=_;simp
  constructor
  ·intro h;refine h.same (v:=u) hl.symm fun j f s y hj hf hy=>?_;obtain ⟨rfl,rfl⟩:=one_f hf;exact hy.str_of (e j (by rw [← hl];exact hj)).symm
  ·intro h;refine h.same (v:=.l _) hl fun j f s y hj hf hy=>?_;obtain ⟨rfl,rfl⟩:=one_f hf;exact hy.str_of (e j hj)
 ·exact ⟨fun h=>h.same (v:=u) rfl fun _ _ _ _ _ _ h=>h,fun h=>h.same (v:=.l _) rfl fun _ _ _ _ _ _ h=>h⟩
theorem UOk.ec {γ:G} {s:Sh} {u:U} {x:Value} (h:UOk γ.fz s u x):EC γ (s.ev u) x:=by
 cases s with
 | int k=>cases h;exact .v _
 | bool=>cases h;exact .v _
 | str=>cases h;exact .v _
 | list sh=>exact .lst _ _ (UOk.mkC_iff.2 h)
theorem UOk.of_ec {γ:G} {s:Sh} {u:U} {x:Value} (h:EC γ (s.ev u) x):UOk γ.fz s u x:=by
 cases s with
 | int k=>cases (show EC γ (.v (.int k u.int)) x from h);exact .int k u
 | bool=>cases (show EC γ (.v (.bool u.bool)) x from h);exact .bool u
 | str=>cases (show EC γ (.v (.string u.str)) x from h);exact .str u
 | list sh=>cases (show EC γ (.lst (mkC sh u.list)) x from h) with
  | lst _ _ h=>exact UOk.mkC_iff.1 h
def recE (sh:List Sh):List U→List EV:=List.rec (fun _=>[]) (fun s _ ih r=>s.ev (r.headD (.i 0))::ih r.tail) sh
def SyC.enc:SyC→List EV
 | .ints k l=>l.map fun x=>.v (.int k x)
 | .bools l=>l.map fun x=>.v (.bool x)
 | .strs l=>l.map fun x=>.v (.string x)
 | .recs sh l=>l.flatMap (recE sh)
theorem SyC.vals_enc {c:SyC} {vs:List Value} (h:c.vals=some vs):c.enc=vs.map .v:=by
 cases c with
 | recs sh l=>cases h
 | ints k l=>injection (show some (l.map (Value.int k))=some vs from h) with h;subst h;show l.map _=(l.map _).map _;rw [List.map_map];rfl
 | bools l=>injection (show some (l.map Value.bool)=some vs from h) with h;subst h;show l.map _=(l.map _).map _;rw [List.map_map];rfl
 | strs l=>injection (show some (l.map Value.string)=some vs from h) with h;subst h;show l.map _=(l.map _).map _;rw [List.map_map];rfl
inductive EK where
 | cells (ty:TypeId) (cs:List EV) (full:Bool)
 | loop (st:LoopState) (pend:Option Code) (fn:FuncId) (N:Nat) (T:Tr EV) (ps:Array Tmp) (assign body:Code) (dfr:Nat)
 | dfr (op:Bool)
 | arr (ty:TypeId) (T:Tr EV) (len:Nat)     -- many cells
 | mp (es:List (Value×EV))     -- a map
 | mbox (j:Nat)     -- a new variable that holds a map
 | mpo (es:List (Value×Value))     -- a map of plain values
 | seq (ty:TypeId) (c:SyC) (nn:Bool)     -- a sequence of open length;nn: it has a block
 | rawo (ty:TypeId) (vs:List Value) (q:Nat) (a:EV)     -- cells,and what is known of one of them
 | nest (me:Nat) (ty:TypeId×List TypeId) (sh:List Sh) (rows:List (List U)) (v:Nat) (ho:List (Nat×Nat)) (nn:Bool)     -- a sequence of records,some of whose cells hold slices of its own;its version;cells whose rows were taken out;nn: it has a block
def TOk (γ:G) (T:Tr EV) (tmps:Array Value):Prop:=∀ s a,T.get s=some a→∃ x,tmps[s]? = some x∧EC γ a x
theorem TOk.mono {γ γ':G} (hle:GLe γ γ') {T:Tr EV} {tmps:Array Value} (h:TOk γ T tmps):TOk γ' T tmps:=fun s a hs=>let ⟨x,hx,hc⟩:=h s a hs;⟨x,hx,hc.mono hle⟩
def Cl (w:World) (k:Nat) (c:Array Value) (ty:TypeId):Prop:=∃ fz:Nat×Nat,w.heap[k]? = some (.cells c ty fz)∧(fz=(0,0)∨c.size≤fz.1)
theorem Cl.of {w:World} {k:Nat} {c:Array Value} {ty:TypeId} (h:w.heap[k]? = some (.cells c ty (0,0))):Cl w k c ty:=⟨_,h,.inl rfl⟩
theorem Cl.mono {w w':World} {k:Nat} {c:Array Value} {ty:TypeId} (hb:w'.heap[k]? = w.heap[k]?) (h:Cl w k c ty):Cl w' k c ty:=let ⟨fz,h1,h2⟩:=h;⟨fz,hb.trans h1,h2⟩
theorem Cl.lt {w:World} {k:Nat} {c:Array Value} {ty:TypeId} (h:Cl w k c ty):k<w.heap.size:=let ⟨_,h1,_⟩:=h;(Array.getElem?_eq_some_iff.1 h1).1
def CellN (γ:G) (me v q:Nat) (s:Sh) (u:U) (x:Value):Prop:=match s with
 | .list sh=>SlR γ me v q sh.length u.list.length x
 | s=>EC γ (s.ev u) x
theorem CellN.mono {γ γ':G} (hle:GLe γ γ') (hn:∀ i v q,γ'.rw i v q=γ.rw i v q) {me v q:Nat} {s:Sh} {u:U} {x:Value} (h:CellN γ me v q s u x):CellN γ' me v q s u x:=by
 cases s with
 | list sh=>
  rcases h with ⟨h1,h2⟩|⟨k,m,c,h1,h2⟩
  ·exact .inl ⟨trivial,h2⟩
  ·exact .inr ⟨k,m,c,hle.rw _ _ _ _ h1,h2⟩
 | int k=>exact EC.mono hle h
 | bool=>exact EC.mono hle h
 | str=>exact EC.mono hle h
def EK.ok (γ:G) (b:Pl) (n:Nat) (w:World):EK→Prop
 | .cells ty cs full=>∃ c:Array Value,Cl w b.k c ty∧c.size=b.s+n∧cs.length≤n∧(full=true→cs.length=n)∧ECL γ cs ((c.toList.drop b.s).take cs.length)
 | .loop st pend fn N T ps assign body dd=>∃ (tmps:Array Value) (d:Pl) (m:Nat),w.heap[b.k]? = some (.loop { state:=st,pending:=pend,fn,tmps,params:=ps,assign,body,defers:=d.k })∧tmps.size=N∧TOk γ T tmps∧γ dd=some (d,m)
 | .arr ty T len=>∃ c:Array Value,Cl w b.k c ty∧c.size=b.s+n∧len=n∧∀ j a,j<len→T.get j=some a→∃ x,c[b.s+j]? = some x∧EC γ a x
 | .dfr op=>w.heap[b.k]? = some (.deferred (if op then some [] else none))
 | .mp es=>∃ (ents:Array MapEntry) (clock:Nat) (l:List (Value×Value)),w.heap[b.k]? = some (.map ents clock)∧MapKept.Stamped ents clock∧(kvs ents).Perm l∧ML γ es l
 | .mpo es=>∃ (ents:Array MapEntry) (clock:Nat),w.heap[b.k]? = some (.map ents clock)∧MapKept.Stamped ents clock∧(kvs ents).Perm es
 | .mbox j=>b.s=0∧∃ (ty:TypeId) (mb:Pl) (m:Nat),w.heap[b.k]? = some (.cells #[.map (some mb.k)] ty (0,0))∧γ j=some (mb,m)
 | .seq ty sy _=>∃ c:Array Value,Cl w b.k c ty∧c.size=b.s+n∧sy.enc.length≤n∧ECL γ sy.enc ((c.toList.drop b.s).take sy.enc.length)
 | .rawo ty vs q a=>∃ (c:Array Value) (x:Value),Cl w b.k c ty∧c.size=b.s+n∧vs.length=n∧q<n∧c.toList.drop b.s=vs.set q x∧EC γ a x
 | .nest me ty sh rows v ho _=>∃ c:Array Value,Cl w b.k c ty.1∧c.size=b.s+n∧rows.length*sh.length≤n∧∀ (j f:Nat) (s:Sh),j<rows.length→sh[f]? = some s→(j,f)∉ho→∃ x,c[b.s+(j*sh.length+f)]? = some x∧CellN γ me v (j*sh.length+f) s ((rows.getD j []).getD f (.i 0)) x
def EK.Nil:EK→Prop
 | .seq _ sy nn=>nn=false∧sy.enc=[]
 | .nest _ _ _ rows _ _ nn=>nn=false∧rows=[]
 | _=>False
def EK.nestB:EK→Bool
 | .nest _ _ _ _ _ _ _=>true
 | _=>false
theorem EK.ok_mono {γ γ':G} (hle:GLe γ γ') {b:Pl} {n:Nat} {w w':World} (hb:w'.heap[b.k]? = w.heap[b.k]?) {k:EK} (h:k.ok γ b n w) (hrw:∀ i v q,γ'.rw i v q=γ.rw i v q:=by exact fun _ _ _=>rfl):k.ok γ' b n w':=by
 cases k with
 | cells ty cs full=>obtain ⟨c,h1,h2,h3,h4,h5⟩:=h;exact ⟨c,h1.mono hb,h2,h3,h4,h5.mono hle⟩
 | loop st pend fn N T ps assign body dd=>obtain ⟨t,d,m,h1,h2,h3,h4⟩:=h;exact ⟨t,d,m,hb.trans h1,h2,h3.mono hle,hle _ _ h4⟩
 | dfr op=>exact Eq.trans hb h
 | mp es=>obtain ⟨ents,clock,l,h1,h2,h3,h4⟩:=h;exact ⟨ents,clock,l,hb.trans h1,h2,h3,h4.mono hle⟩
 | mbox j=>obtain ⟨h0,ty,mb,m,h1,h2⟩:=h;exact ⟨h0,ty,mb,m,hb.trans h1,hle _ _ h2⟩
 | mpo es=>obtain ⟨ents,clock,h1,h2,h3⟩:=h;exact ⟨ents,clock,hb.trans h1,h2,h3⟩
 | seq ty sy nn=>obtain ⟨c,h1,h2,h3,h4⟩:=h;exact ⟨c,h1.mono hb,h2,h3,h4.mono hle⟩
 | rawo ty vs q a=>obtain ⟨c,x,h1,h2,h3,h4,h5,h6⟩:=h;exact ⟨c,x,h1.mono hb,h2,h3,h4,h5,h6.mono hle⟩
 | arr ty T len=>obtain ⟨c,h1,h2,h3,h4⟩:=h;exact ⟨c,h1.mono hb,h2,h3,fun j a hj ha=>let ⟨x,hx,hc⟩:=h4 j a hj ha;⟨x,hx,hc.mono hle⟩⟩
 | nest me ty sh rows v ho nn=>obtain ⟨c,h1,h2,h3,h4⟩:=h;exact ⟨c,h1.mono hb,h2,h3,fun j f s hj hf hh=>let ⟨x,hx,hc⟩:=h4 j f s hj hf hh;⟨x,hx,hc.mono hle hrw⟩⟩
theorem EK.ok_monoB {γ γ':G} {k:EK} (hnb:k.nestB=false) (hle:GLe γ γ') {b:Pl} {n:Nat} {w w':World} (hb:w'.heap[b.k]? = w.heap[b.k]?) (h:k.ok γ b n w):k.ok γ' b n w':=by
 cases k with
 | cells ty cs full=>obtain ⟨c,h1,h2,h3,h4,h5⟩:=h;exact ⟨c,h1.mono hb,h2,h3,h4,h5.mono hle⟩
 | loop st pend fn N T ps assign body dd=>obtain ⟨t,d,m,h1,h2,h3,h4⟩:=h;exact ⟨t,d,m,hb.trans h1,h2,h3.mono hle,hle _ _ h4⟩
 | dfr op=>exact Eq.trans hb h
 | mp es=>obtain ⟨ents,clock,l,h1,h2,h3,h4⟩:=h;exact ⟨ents,clock,l,hb.trans h1,h2,h3,h4.mono hle⟩
 | mbox j=>obtain ⟨h0,ty,mb,m,h1,h2⟩:=h;exact ⟨h0,ty,mb,m,hb.trans h1,hle _ _ h2⟩
 | mpo es=>obtain ⟨ents,clock,h1,h2,h3⟩:=h;exact ⟨ents,clock,hb.trans h1,h2,h3⟩
 | seq ty sy nn=>obtain ⟨c,h1,h2,h3,h4⟩:=h;exact ⟨c,h1.mono hb,h2,h3,h4.mono hle⟩
 | rawo ty vs q a=>obtain ⟨c,x,h1,h2,h3,h4,h5,h6⟩:=h;exact ⟨c,x,h1.mono hb,h2,h3,h4,h5,h6.mono hle⟩
 | arr ty T len=>obtain ⟨c,h1,h2,h3,h4⟩:=h;exact ⟨c,h1.mono hb,h2,h3,fun j a hj ha=>let ⟨x,hx,hc⟩:=h4 j a hj ha;⟨x,hx,hc.mono hle⟩⟩
 | nest me ty sh rows v ho nn=>cases hnb
structure Stays (w w':World):Prop where
 os:w'.os=w.os
 tape:w'.tape=w.tape
 output:w'.output=w.output
 size:w.heap.size≤w'.heap.size
 block:∀ k,k<w.heap.size→w'.heap[k]? = w.heap[k]?
structure Bs where
 w:World
 F:Nat→Prop
 lt:∀ k,F k→k<w.heap.size
 res:Nat→Prop
 fb:Nat→Prop:=fun _=>False
def Bs.of (w:World) (fb:Nat→Prop:=fun _=>False):Bs:=⟨w,fun k=>k<w.heap.size,fun _ h=>h,fun _=>False,fb⟩
structure Bs.Stays (B:Bs) (w':World):Prop where
 os:w'.os=B.w.os
 tape:w'.tape=B.w.tape
 output:w'.output=B.w.output
 size:B.w.heap.size≤w'.heap.size
 block:∀ k,B.F k→w'.heap[k]? = B.w.heap[k]?
theorem staysOf {w w':World} {fb:Nat→Prop} (h:(Bs.of w fb).Stays w'):Stays w w':=⟨h.os,h.tape,h.output,h.size,h.block⟩
structure NstS (γ:G) (w0:Bs) (H:Tr EK) (w:World):Prop where
 rwg:∀ i v q p,γ.rw i v q=some p→∃ b,γ i=some b
 me:∀ i me ty sh rows v ho nn,H.get i=some (.nest me ty sh rows v ho nn)→me=i∧∀ v' q,v<v'→γ.rw i v' q=none
 at':∀ i me ty sh rows v ho nn,H.get i=some (.nest me ty sh rows v ho nn)→∀ (j f:Nat) (sh':List Sh),j<rows.length→sh[f]? = some (.list sh')→(j,f)∉ho→∀ k m,γ.rw i v (j*sh.length+f)=some (k,m) →
  ¬ w0.F k∧γ.fz k=none∧(∀ i' ki b m',H.get i'=some ki→¬ ki.Nil→γ i'=some (b,m')→b.k≠k) ∧
  (∀ i2 me2 ty2 sh2 rows2 v2 ho2 nn2,H.get i2=some (.nest me2 ty2 sh2 rows2 v2 ho2 nn2)→∀ (j2 f2:Nat) (s2:List Sh),j2<rows2.length→sh2[f2]? = some (.list s2)→(j2,f2)∉ho2→∀ m2,γ.rw i2 v2 (j2*sh2.length+f2)=some (k,m2)→i2=i∧j2=j∧f2=f) ∧
  ∃ (arr:Array Value) (ty':TypeId),Cl w k arr ty'∧(arr.size=m.1+m.2∧ty'=ty.2.getD f 0)∧∀ (a g:Nat) (s:Sh),a<(((rows.getD j []).getD f (.i 0)).list).length→sh'[g]? = some s→∃ x,arr[m.1+(a*sh'.length+g)]? = some x∧EC γ (s.ev (((((rows.getD j []).getD f (.i 0)).list).getD a []).getD g (.i 0))) x
theorem NstS.none {γ:G} {w0:Bs} {H:Tr EK} {w:World} (h:∀ i v q p,γ.rw i v q=some p→∃ b,γ i=some b) (hn:∀ i k,H.get i=some k→k.nestB=false):NstS γ w0 H w:=
 ⟨h,fun i me ty sh rows v ho nn e=>(by have:=hn i _ e;cases this),fun i me ty sh rows v ho nn e=>(by have:=hn i _ e;cases this)⟩
structure FZ (γ:G) (w0:Bs) (H:Tr EK) (w:World):Prop where
 at':∀ k a,γ.fz k=some a→(∃ (ty:TypeId) (fz:Nat×Nat),w.heap[k]? = some (.cells a ty fz))∧(w0.fb k∨¬ w0.F k)∧∀ i ki b m,H.get i=some ki→¬ ki.Nil→γ i=some (b,m)→b.k≠k
 base:∀ k,w0.fb k→∃ a,γ.fz k=some a
 nst:NstS γ w0 H w
structure HR (γ:G) (w0:Bs) (H:Tr EK) (n:Nat) (w:World):Prop where
 hp0:∀ i k,H.get i=some k→k.Nil∨∃ b m,γ i=some (b,m)∧¬ w0.F b.k∧k.ok γ b m w
 inj0:∀ i j ki kj,H.get i=some ki→H.get j=some kj→¬ ki.Nil→¬ kj.Nil→i≠j→∀ bi bj,γ i=some bi→γ j=some bj→bi.1.k≠bj.1.k
 fresh:∀ i,n≤i→γ i=none
 rsv:∀ i,w0.res i→γ i=none∧i<n
 lt:∀ i p,γ i=some p→p.1.k<w.heap.size
 stays:w0.Stays w
 fzk:FZ γ w0 H w
theorem HR.fzq {γ γ':G} {w0:Bs} {H H':Tr EK} {n:Nat} {w w':World} (h:HR γ w0 H n w) (he:γ'.fz=γ.fz) (hw:∀ k,k<w.heap.size→(∀ i ki b m,H.get i=some ki→¬ ki.Nil→γ i=some (b,m)→b.k≠k)→w'.heap[k]? = w.heap[k]?)
  (hn:∀ i ki b m,H'.get i=some ki→¬ ki.Nil→γ' i=some (b,m)→w.heap.size≤b.k∨∃ i' ki' b' m',H.get i'=some ki'∧¬ ki'.Nil∧γ i'=some (b',m')∧b'.k=b.k)
  (hnest:∀ i k,H'.get i=some k→k.nestB=true→H.get i=some k) (hr:∀ i v q,γ'.rw i v q=γ.rw i v q:=by exact fun _ _ _=>rfl) (hle:GLe γ γ':=by first|exact GLe.refl _|assumption) :
  FZ γ' w0 H' w':=⟨fun k a hk=>by
 rw [he] at hk;obtain ⟨⟨ty,fz,h1⟩,h2,h3⟩:=h.fzk.at' k a hk;have hlt:k<w.heap.size:=(Array.getElem?_eq_some_iff.1 h1).1;refine ⟨⟨ty,fz,(hw k hlt h3).trans h1⟩,h2,fun i ki b m hi ni ei=>?_⟩;rcases hn i ki b m hi ni ei with h4|⟨i',ki',b',m',h4,h5,h6,h7⟩
 ·omega
 ·rw [← h7];exact h3 i' ki' b' m' h4 h5 h6,fun k hk=>by rw [he];exact h.fzk.base k hk,by
 have N:=h.fzk.nst;refine ⟨fun i v q p e=>?_,fun i me ty sh rows v ho nn e=>?_,fun i me ty sh rows v ho nn e j f sh' hj hf hh k m hk=>?_⟩
 ·rw [hr] at e;obtain ⟨b,hb⟩:=N.rwg i v q p e;exact ⟨b,hle _ _ hb⟩
 ·obtain ⟨h1,h2⟩:=N.me i me ty sh rows v ho nn (hnest i _ e rfl);exact ⟨h1,fun v' q hv=>by rw [hr];exact h2 v' q hv⟩
 ·rw [hr] at hk;obtain ⟨h1,h2,h3,h4,arr,ty',h5,h6,h7⟩:=N.at' i me ty sh rows v ho nn (hnest i _ e rfl) j f sh' hj hf hh k m hk;refine ⟨h1,by rw [he];exact h2,fun i' ki b m' hi' ni ei=>?_,fun i2 me2 ty2 sh2 rows2 v2 ho2 nn2 e2 j2 f2 s2 hj2 hf2 hh2 m2 hk2=>?_,arr,ty',h5.mono (hw k h5.lt h3),h6,fun a g s ha hs=>?_⟩
  ·rcases hn i' ki b m' hi' ni ei with h8|⟨i3,ki3,b3,m3,h8,h9,h10,h11⟩
   ·have:=h5.lt;omega
   ·rw [← h11];exact h3 i3 ki3 b3 m3 h8 h9 h10
  ·rw [hr] at hk2;exact h4 i2 me2 ty2 sh2 rows2 v2 ho2 nn2 (hnest i2 _ e2 rfl) j2 f2 s2 hj2 hf2 hh2 m2 hk2
  ·obtain ⟨x,hx,hc⟩:=h7 a g s ha hs;exact ⟨x,hx,hc.mono hle⟩⟩
theorem HR.hp {γ:G} {w0:Bs} {H:Tr EK} {n:Nat} {w:World} (h:HR γ w0 H n w) (i:Nat) (k:EK) (hk:H.get i=some k) (hn:¬ k.Nil:=by exact id):∃ b m,γ i=some (b,m)∧¬ w0.F b.k∧k.ok γ b m w:=
 (h.hp0 i k hk).resolve_left hn
theorem HR.imp0 {γ:G} {w0:Bs} {H:Tr EK} {n:Nat} {w:World} (h:HR γ w0 H n w) {i:Nat} {k:EK} (hk:H.get i=some k) {Q:Prop} (f:¬ k.Nil→∀ b m,γ i=some (b,m)→¬ w0.F b.k→k.ok γ b m w→Q):k.Nil∨Q:=by
 by_cases hn:k.Nil
 ·exact .inl hn
 ·obtain ⟨b,m,h1,h2,h3⟩:=h.hp i k hk hn;exact .inr (f hn b m h1 h2 h3)
theorem HR.congr {γ:G} {w0:Bs} {H K:Tr EK} {n:Nat} {w:World} (h:HR γ w0 H n w) (e:∀ b k,K.get b=some k→H.get b=some k):HR γ w0 K n w:=
 ⟨fun i k hk=>h.hp0 i k (e _ _ hk),fun i j ki kj hi hj=>h.inj0 i j ki kj (e _ _ hi) (e _ _ hj),h.fresh,h.rsv,h.lt,h.stays,
  h.fzq rfl (fun _ _ _=>rfl) (fun i ki b m hi ni ei=>.inr ⟨i,ki,b,m,e _ _ hi,ni,ei,rfl⟩) fun i k hk _=>e _ _ hk⟩
theorem HR.notF {γ:G} {w0:Bs} {H:Tr EK} {n:Nat} {w:World} (h:HR γ w0 H n w) {k:Nat} (hk:w.heap.size≤k):¬ w0.F k:=fun hf=>by
 have h1:=w0.lt k hf;have h2:=h.stays.size;omega
theorem HR.step {γ:G} {w0:Bs} {w w':World} {H:Tr EK} {n:Nat} (h:HR γ w0 H n w) (hh:w'.heap=w.heap) (ho:w'.os=w.os) (ht:w'.tape=w.tape) (hout:w'.output=w.output):HR γ w0 H n w':=
 ⟨fun i k hk=>(h.hp0 i k hk).imp id fun ⟨b,m,h1,h2,h3⟩=>⟨b,m,h1,h2,EK.ok_mono (GLe.refl _) (by rw [hh]) h3⟩,h.inj0,h.fresh,h.rsv,fun i p e=>by rw [hh];exact h.lt i p e,
  ⟨ho.trans h.stays.os,ht.trans h.stays.tape,hout.trans h.stays.output,by rw [hh];exact h.stays.size,fun k hk=>by rw [hh];exact h.stays.block k hk⟩,
  h.fzq rfl (fun k _ _=>by rw [hh]) (fun i ki b m hi ni ei=>.inr ⟨i,ki,b,m,hi,ni,ei,rfl⟩) fun _ _ hk _=>hk⟩
def G.upd (γ:G) (i:Nat) (p:Pl×Nat):G:=⟨fun j=>if j=i then some p else γ j,γ.fz,γ.rw⟩
theorem G.upd_le {γ:G} {i:Nat} {p:Pl×Nat} (h:γ i=none):GLe γ (γ.upd i p):=⟨fun j q e=>by
 show (if j=i then some p else γ j)=some q
 by_cases ej:j=i
 ·subst ej;rw [h] at e;cases e
 ·rw [if_neg ej];exact e,fun _ _ h=>h,fun _ _ _ _ h=>h⟩
theorem G.upd_same {γ:G} {i:Nat} {p:Pl×Nat}:γ.upd i p i=some p:=by simp [G.upd]
theorem G.upd_ne {γ:G} {i j:Nat} {p:Pl×Nat} (h:j≠i):γ.upd i p j=γ j:=by simp [G.upd,h]
theorem HR.new {γ:G} {w0:Bs} {w w':World} {H:Tr EK} {n:Nat} (h:HR γ w0 H n w) (hn:Nat.ble n 65535=true) (o:Obj) (m:Nat) (k:EK) (hh:w'.heap=w.heap.push o) (ho:w'.os=w.os) (ht:w'.tape=w.tape) (hout:w'.output=w.output)
  (hk:k.ok (γ.upd n (⟨w.heap.size,0⟩,m)) ⟨w.heap.size,0⟩ m w') (hnn:k.nestB=false:=by rfl):HR (γ.upd n (⟨w.heap.size,0⟩,m)) w0 (H.put n (some k)) (n+1) w':=by
 have hle:GLe γ (γ.upd n (⟨w.heap.size,0⟩,m)):=G.upd_le (h.fresh n (Nat.le_refl _));have hold:∀ b,b<w.heap.size→w'.heap[b]? = w.heap[b]?:=fun b hb=>by rw [hh,Array.getElem?_push_lt hb];simp [hb]
 refine ⟨fun i ki hi=>?_,fun i j ki kj hi hj ni nj hne bi bj ei ej=>?_,fun i hi=>?_,fun i hi=>?_,fun i p e=>?_,?_,h.fzq rfl (fun c hc _=>hold c hc) (fun i ki b2 m2 hi ni ei=>?_) fun i ki hi hb=>?_⟩
 rotate_right
 ·rw [Tr.get_put hn] at hi
  by_cases e:i=n
  ·rw [if_pos e] at hi;injection hi with hi;subst hi;rw [hnn] at hb;cases hb
  ·rw [if_neg e] at hi;exact hi
 rotate_right
 ·rw [Tr.get_put hn] at hi
  by_cases e:i=n
  ·subst e;rw [G.upd_same] at ei;injection ei with ei;injection ei with e1 e2;subst e1;exact .inl (Nat.le_refl _)
  ·rw [if_neg e] at hi;rw [G.upd_ne e] at ei;exact .inr ⟨i,ki,b2,m2,hi,ni,ei,rfl⟩
 ·rw [Tr.get_put hn] at hi
  by_cases e:i=n
  ·rw [if_pos e] at hi;injection hi with hi;subst hi;subst e
   exact .inr ⟨_,_,G.upd_same,h.notF (Nat.le_refl _),hk⟩
  ·rw [if_neg e] at hi;refine (h.hp0 i ki hi).imp id fun ⟨b,m',h1,h2,h3⟩=>?_;exact ⟨b,m',hle _ _ h1,h2,EK.ok_mono hle (hold b.k (h.lt i _ h1)) h3⟩
 ·rw [Tr.get_put hn] at hi hj
  by_cases e:i=n
  ·rw [e,G.upd_same] at ei;injection ei with ei;subst ei
   rw [if_neg (fun e2=>hne (e.trans e2.symm))] at hj;rw [G.upd_ne (fun e2=>hne (e.trans e2.symm))] at ej;have:=h.lt j _ ej;show w.heap.size≠bj.1.k;omega
  ·rw [if_neg e] at hi;rw [G.upd_ne e] at ei
   by_cases e2:j=n
   ·rw [e2,G.upd_same] at ej;injection ej with ej;subst ej
    have:=h.lt i _ ei;show bi.1.k≠w.heap.size;omega
   ·rw [if_neg e2] at hj;rw [G.upd_ne e2] at ej;exact h.inj0 i j ki kj hi hj ni nj hne bi bj ei ej
 ·rw [G.upd_ne (by omega)];exact h.fresh i (by omega)
 ·obtain ⟨r1,r2⟩:=h.rsv i hi;exact ⟨by rw [G.upd_ne (by omega)];exact r1,by omega⟩
 ·rw [hh,Array.size_push]
  by_cases e2:i=n
  ·rw [e2,G.upd_same] at e;injection e with e;subst e;show w.heap.size<_;omega
  ·rw [G.upd_ne e2] at e;have:=h.lt i p e;omega
 ·refine ⟨ho.trans h.stays.os,ht.trans h.stays.tape,hout.trans h.stays.output,by rw [hh,Array.size_push];have:=h.stays.size;omega,fun k hk=>?_⟩;have:=h.stays.size;have:=w0.lt k hk;rw [hold k (by omega)];exact h.stays.block k hk
theorem HR.turn {γ:G} {w0:Bs} {w w':World} {H:Tr EK} {n:Nat} (h:HR γ w0 H n w) {i:Nat} {b:Pl} {m:Nat} {k0:EK} (hb:Nat.ble i 65535=true) (hi:H.get i=some k0) (hγ:γ i=some (b,m)) (k:EK)
  (hoth:∀ c,c≠b.k→w'.heap[c]? = w.heap[c]?) (hsz:w'.heap.size=w.heap.size) (ho:w'.os=w.os) (ht:w'.tape=w.tape) (hout:w'.output=w.output) (hk:k.ok γ b m w') (hn0:¬ k0.Nil:=by exact id) (hnn:k.nestB=false:=by rfl):HR γ w0 (H.put i (some k)) n w':=by
 have look:∀ j kj,(H.put i (some k)).get j=some kj→¬ kj.Nil→∃ k1,H.get j=some k1∧¬ k1.Nil:=fun j kj hj nj=>by
  rw [Tr.get_put hb] at hj
  by_cases e:j=i
  ·exact ⟨k0,by rw [e];exact hi,hn0⟩
  ·rw [if_neg e] at hj;exact ⟨kj,hj,nj⟩
 refine ⟨fun j kj hj=>?_,fun j l kj kl hj hl nj nl hne=>?_,h.fresh,h.rsv,fun j p e=>by rw [hsz];exact h.lt j p e,?_,h.fzq rfl (fun c _ hc=>hoth c (hc i k0 b m hi hn0 hγ).symm) (fun j kj b2 m2 hj nj ej=>?_) fun j kj hj hb2=>?_⟩
 rotate_right
 ·rw [Tr.get_put hb] at hj
  by_cases e:j=i
  ·rw [if_pos e] at hj;injection hj with hj;subst hj;rw [hnn] at hb2;cases hb2
  ·rw [if_neg e] at hj;exact hj
 rotate_right
 ·obtain ⟨k1,h1,h2⟩:=look j kj hj nj;exact .inr ⟨j,k1,b2,m2,h1,h2,ej,rfl⟩
 ·rw [Tr.get_put hb] at hj
  by_cases e:j=i
  ·rw [if_pos e] at hj;injection hj with hj;subst hj;subst e
   obtain ⟨b2,m2,h1,h2,_⟩:=h.hp j k0 hi hn0;rw [hγ] at h1;injection h1 with h1;injection h1 with h1 h3;subst h1;subst h3;exact .inr ⟨b,m,hγ,h2,hk⟩
  ·rw [if_neg e] at hj;refine h.imp0 hj fun nj b2 m2 h1 h2 h3=>?_;exact ⟨b2,m2,h1,h2,EK.ok_mono (GLe.refl _) (hoth b2.k (h.inj0 j i kj k0 hj hi nj hn0 e _ _ h1 hγ)) h3⟩
 ·obtain ⟨_,h1,q1⟩:=look j kj hj nj;obtain ⟨_,h2,q2⟩:=look l kl hl nl;exact h.inj0 j l _ _ h1 h2 q1 q2 hne
 ·refine ⟨ho.trans h.stays.os,ht.trans h.stays.tape,hout.trans h.stays.output,by rw [hsz];exact h.stays.size,fun c hc=>?_⟩;obtain ⟨b2,m2,h1,h2,_⟩:=h.hp i k0 hi hn0;rw [hγ] at h1;injection h1 with h1;injection h1 with h1 h3;subst h1
  rw [hoth c (fun e=>h2 (e ▸ hc))];exact h.stays.block c hc
def G.nil:G:=⟨fun _=>none,fun _=>none,fun _ _ _=>none⟩
structure FzAt (γ:G) (w:World):Prop where
 at':∀ k a,γ.fz k=some a→∃ (ty:TypeId) (fz:Nat×Nat),w.heap[k]? = some (.cells a ty fz)
 rw:∀ i v q,γ.rw i v q = .none
instance {γ:G} {w:World}:CoeFun (FzAt γ w) (fun _=>∀ k a,γ.fz k=some a→∃ (ty:TypeId) (fz:Nat×Nat),w.heap[k]? = some (.cells a ty fz)):=⟨FzAt.at'⟩
theorem HR.fzAt {γ:G} {w0:Bs} {H:Tr EK} {n:Nat} {w:World} {g:Nat→Option (Pl×Nat)} (h:HR γ w0 H n w):FzAt ⟨g,γ.fz,fun _ _ _=>.none⟩ w:=⟨fun k a hk=>(h.fzk.at' k a hk).1,fun _ _ _=>rfl⟩
def Bs.ofG (w:World) (γ:G):Bs:=Bs.of w fun k=>∃ a,γ.fz k=some a
theorem FZ.init {γ:G} {w:World} (h:FzAt γ w):FZ γ (Bs.ofG w γ) .nil w:=⟨fun k a hk=>⟨h k a hk,.inl ⟨a,hk⟩,fun i ki b m hi=>by cases hi⟩,fun _ hk=>hk,NstS.none (fun i v q p e=>by rw [h.rw] at e;cases e) (fun i k hi=>by cases hi)⟩
end
end Go.Proofs.Ytepiiaeiogdphaa.Ev
namespace Go.Proofs.Ytepiiaeiogdphaa.Sx
open Go.RowKit
structure Loc where
 A:Option Addr
 cap:Nat
def Loc.blk (l:Loc):Option Nat:=l.A.map (·.block)
inductive AV where
 | v (x:Value)
 | ptr (i off:Nat)
 | ept (i z k f:Nat)          -- field f of element k of row i,whose elements have z cells
 | sl (i z off len:Nat)
 | agg (cs:List AV)
 | tup (cs:List AV)
 | fn (f:Fn) (caps:List AV)
 | top
inductive Col where
 | i (κ:IntKind) (f:Nat→Int)
 | b (f:Nat→Bool)
 | s (f:Nat→ByteArray)
def Col.val:Col→Nat→Value
 | .i κ f,k=>.int κ (f k)
 | .b f,k=>.bool (f k)
 | .s f,k=>.string (f k)
inductive Chunk where
 | box (cs:List AV)
 | ro (n:Nat) (cols:List Col)
 | rw (t:TypeId) (n:Nat) (cols:List Col)
def Chunk.wr:Chunk→Bool
 | .ro _ _=>false
 | _=>true
def rowCells (cols:List Col) (n:Nat):List Value:=(List.range n).flatMap fun k=>cols.map (·.val k)
abbrev Env:=List (Nat×AV)
abbrev Heap:=List (Nat×Chunk)
inductive Conc (γ:Nat→Loc):AV→Value→Prop where
 | v (x:Value):Conc γ (.v x) x
 | ptr (i off b o:Nat) (h:(γ i).A=some ⟨b,o,none⟩):Conc γ (.ptr i off) (.pointer (some ⟨b,o+off,none⟩))
 | ept (i z k f b o:Nat) (h:(γ i).A=some ⟨b,o,none⟩):Conc γ (.ept i z k f) (.pointer (some ⟨b,o+k*z+f,none⟩))
 | sl (i z off len:Nat) (A:Option Addr) (c:Nat) (h0:off=0→A=(γ i).A∧c=(γ i).cap) (h1:0<len→∃ b o,(γ i).A=some ⟨b,o,none⟩∧A=some ⟨b,o+off*z,none⟩) (hc:len≤c):Conc γ (.sl i z off len) (.slice A len c)
 | agg (cs:List AV) (vs:List Value) (hl:cs.length=vs.length) (h:∀ (j:Nat) (a:AV) (x:Value),cs[j]? = some a→vs[j]? = some x→Conc γ a x):Conc γ (.agg cs) (.agg vs.toArray)
 | tup (cs:List AV) (vs:List Value) (hl:cs.length=vs.length) (h:∀ (j:Nat) (a:AV) (x:Value),cs[j]? = some a→vs[j]? = some x→Conc γ a x):Conc γ (.tup cs) (.tuple vs.toArray)
 | fn (f:Fn) (cs:List AV) (vs:List Value) (hl:cs.length=vs.length) (h:∀ (j:Nat) (a:AV) (x:Value),cs[j]? = some a→vs[j]? = some x→Conc γ a x):Conc γ (.fn f cs) (.func f #[] vs.toArray)
 | top (x:Value):Conc γ .top x
def Chunk.ok (γ:Nat→Loc) (l:Loc) (w:World):Chunk→Prop
 | .box cs=>∃ b o,l.A=some ⟨b,o,none⟩∧∀ j a,cs[j]? = some a→(∃ x,w.cell? ⟨b,o+j,none⟩=some x∧Conc γ a x)∧w.frozen? ⟨b,o+j,none⟩=false
 | .ro n cols=>0<n→∃ b o,l.A=some ⟨b,o,none⟩∧∀ k j c,k<n→cols[j]? = some c→w.cell? ⟨b,o+k*cols.length+j,none⟩=some (c.val k)
 | .rw t n cols=>w.ownsRow 0 t cols.length (.slice l.A n l.cap) n (rowCells cols n)
structure Kept (S:Nat→Prop) (w w':World):Prop where
 os:w'.os=w.os
 tape:w'.tape=w.tape
 output:w'.output=w.output
 size:w.heap.size≤w'.heap.size
 block:∀ k,k<w.heap.size→¬ S k→w'.heap[k]? = w.heap[k]?
structure Base where
 S:Nat→Prop
 K:Nat
 γ0:Nat→Loc
structure HOk (S:Base) (w0:World) (H:Heap) (γ:Nat→Loc) (w:World):Prop where
 hp:∀ i ch,H.lookup i=some ch→ch.ok γ (γ i) w
 sep:∀ i j ci cj,H.lookup i=some ci→H.lookup j=some cj→i≠j→ci.wr=true→∀ b,(γ i).blk=some b→(γ j).blk≠some b
 wrS:∀ i ci,H.lookup i=some ci→ci.wr=true→∀ b,(γ i).blk=some b→S.S b∨w0.heap.size≤b
 lt:∀ i ci,H.lookup i=some ci→∀ b,(γ i).blk=some b→b<w.heap.size
 kept:Kept S.S w0 w
 anc:∀ i,i<S.K→γ i=S.γ0 i
def EOk (E:Env) (γ:Nat→Loc) (a:Act):Prop:=∀ s av,E.lookup s=some av→∃ x,a.tmps[s]? = some x∧Conc γ av x
structure St (S:Base) (w0:World) (E:Env) (H:Heap) (γ:Nat→Loc) (a:Act) (w:World):Prop extends HOk S w0 H γ w where
 fr:EOk E γ a
 defers:a.defers=[]
end Go.Proofs.Ytepiiaeiogdphaa.Sx
namespace Go.Proofs.Ytepiiaeiogdphaa
open Go.RowKit
def Row (w:World) (A:Option Addr) (cs:List Value):Prop:=
 0<cs.length→∃ b o,A=some ⟨b,o,none⟩∧∀ j u,cs[j]? = some u→w.cell? ⟨b,o+j,none⟩=some u
theorem Row.keep {w w':World} {A:Option Addr} {cs:List Value} (h:Row w A cs) (hk:∀ p u,w.cell? p=some u→w'.cell? p=some u):Row w' A cs:=by
 intro hp;obtain ⟨b,o,e,hc⟩:=h hp;exact ⟨b,o,e,fun j u hu=>hk _ _ (hc j u hu)⟩
theorem Row.below {w w':World} {A:Option Addr} {cs:List Value} (h:Row w A cs) (hb:Below w.heap.size w w'):Row w' A cs:=
 h.keep fun p u hu=>(hb.cell (World.block_lt_of_cell? w p hu)).trans hu
theorem Row.alloc {w:World} {A:Option Addr} {cs:List Value} (h:Row w A cs) (o:Obj):Row (w.alloc o) A cs:=
 h.below ((Below.refl _ _).alloc (Nat.le_refl _) o)
theorem Row.one {w:World} {A:Option Addr} {α:Type} {f:α→Value} {xs:List α} (h:Row w A (xs.map f)) {k:Nat} (hk:k<xs.length) :
  ∃ b o,A=some ⟨b,o,none⟩∧w.cell? ⟨b,o+k,none⟩=some (f xs[k]):=by
 obtain ⟨b,o,e,hc⟩:=h (by simp;omega);exact ⟨b,o,e,hc k _ (by simp [hk])⟩
section
variable {P:Program} {ops:Array Oper} {rest:List Oper} {o:Oper} {a:Act} {Q:Exit→Act→World→Prop}
variable {base e t size bytes n m:Nat} {z v:Value} {xs:List Value} {W W1:World} {B:Nat}
end
end Go.Proofs.Ytepiiaeiogdphaa
namespace Go.Proofs.Ytepiiaeiogdphaa.Sx
open Go.RowKit
def cv:Value→AV
 | .agg cs=>.agg (cs.toList.map .v)
 | x=>.v x
def evO (E:Env):Operand→AV
 | .tmp t=>(E.lookup t).getD .top
 | .const x=>cv x
 | .global _=>.top
 | .func f=>.fn (.func f) []
theorem zv3 (γ:Nat→Loc) (x:Value):Conc γ (cv x) x:=by
 cases x with
 | agg cs=>
  have:=Conc.agg (γ:=γ) (cs.toList.map .v) cs.toList (by simp) (fun j a y ha hy=>by
   rw [List.getElem?_map,hy] at ha;simp at ha;subst ha;exact Conc.v y)
  simpa [cv] using this
 | _=>exact Conc.v _
variable {P:Program} {S:Base} {w0 w:World} {E:Env} {H:Heap} {γ:Nat→Loc} {a:Act}
theorem getD_of {t:Nat} {x:Value} (h:a.tmps[t]? = some x):a.tmps.getD t undef=x:=by
 simp [Array.getD,Array.getElem?_eq_some_iff] at h ⊢;obtain ⟨h1,h2⟩:=h;simp [h1,h2]
theorem zta (h:St S w0 E H γ a w) (x:Operand):Conc γ (evO E x) (a.eval x):=by
 cases x with
 | tmp t=>
  show Conc γ ((E.lookup t).getD .top) (a.tmps.getD t undef)
  cases he:E.lookup t with
  | none=>exact Conc.top _
  | some av=>
   obtain ⟨y,hy,hc⟩:=h.fr t av he;rw [getD_of hy];exact hc
 | const v=>exact zv3 γ v
 | global g=>exact Conc.top _
 | func f=>exact Conc.fn (.func f) [] [] rfl (by simp)
theorem run_v {s:Sem Value} {x:Value} {w w':World} (h:s.run P w = .ok x w'):(do pure (Next.value (← s)):Sem Next).run P w = .ok (.value x) w':=by
 simp [h]
def binV (op:BinOp):Value→Value→Option Value
 | .int k a,.int k' b=>if k=k' then match op with
  | .eql=>some (.bool (a==b))
  | .neq=>some (.bool (a != b))
  | .lss=>some (.bool (decide (a<b)))
  | .leq=>some (.bool (decide (a≤b)))
  | .gtr=>some (.bool (decide (b<a)))
  | .geq=>some (.bool (decide (b≤a)))
  | .add=>some (.int k (k.wrap (a+b)))
  | .sub=>some (.int k (k.wrap (a-b)))
  | .mul=>some (.int k (k.wrap (a*b)))
  | _=>none else none
 | .string a,.string b=>match op with
  | .eql=>some (.bool (a.toList==b.toList))
  | .neq=>some (.bool (!(a.toList==b.toList)))
  | _=>none
 | _,_=>none
theorem run_binV {op:BinOp} {t:TypeId} {x y:Operand} {u v r:Value} (h:binV op u v=some r) :
  (do eqGuard op t x y u v;binOp op t u v:Sem Value).run P w = .ok r w:=by
 cases u <;> cases v <;> simp [binV] at h
 case int.int k a k' b=>
  obtain ⟨rfl,h⟩:=h;cases op <;> simp at h <;> subst h <;> simp [eqGuard,binOp,Op.intCmp,Op.intArith]
 case string.string a b=>
  cases op <;> simp at h <;> subst h <;> simp [eqGuard,binOp,Op.stringOp]
def scalB (P:Program) (t:TypeId):Bool:=match P.underlying t,P.info? t with
 | some (.struct _),_|some (.array _ _),_=>false
 | some _,some i=>i.size==1
 | _,_=>false
def fieldO (P:Program) (s:TypeId) (f:Nat):Option Nat:=match P.underlying s with
 | some (.struct fs)=>(fs[f]?).bind fun x=>(P.info? x.type).bind fun i=>if i.size=0 then none else some x.offset
 | _=>none
def slZ (P:Program) (t:TypeId):Option Nat:=match P.underlying t with
 | some (.slice e)=>(P.info? e).map (·.size)
 | _=>none
end Go.Proofs.Ytepiiaeiogdphaa.Sx
namespace Go.Proofs.Ytepiiaeiogdphaa.Sx
open Go.RowKit
variable {P:Program} {S:Base} {w0 w:World} {E:Env} {H:Heap} {γ:Nat→Loc} {a:Act}
theorem run_fieldAt {s f off:Nat} (h:fieldO P s f=some off) (b o:Nat) (w:World):(Instr.fieldAt s (.pointer (some ⟨b,o,none⟩)) f).run P w = .ok (.pointer (some ⟨b,o+off,none⟩)) w:=by
 unfold fieldO at h;split at h
 ·rename_i fs hu
  cases hf:fs[f]? with
  | none=>rw [hf] at h;simp at h
  | some x=>
   rw [hf] at h;simp only [Option.bind_some] at h
   cases hi:P.info? x.type with
   | none=>rw [hi] at h;simp at h
   | some i=>
    rw [hi] at h;simp only [Option.bind_some] at h;split at h
    ·simp at h
    ·rename_i hz;simp only [Option.some.injEq] at h;subst h;simp [Instr.fieldAt,run_underlying hu,hf,Instr.sureAddr,fieldPlace,sizeOf,typeInfo,hi,hz,Addr.add_lit]
 ·simp at h
theorem slZ_spec {t z:Nat} (h:slZ P t=some z):∃ e i,P.underlying t=some (.slice e)∧P.info? e=some i∧i.size=z:=by
 unfold slZ at h;split at h
 ·rename_i e hu
  cases hi:P.info? e with
  | none=>rw [hi] at h;simp at h
  | some i=>rw [hi] at h;simp at h;exact ⟨e,i,hu,hi,h⟩
 ·simp at h
end Go.Proofs.Ytepiiaeiogdphaa.Sx
namespace Go.Proofs.Ytepiiaeiogdphaa.Sx
open Go.RowKit
variable {P:Program} {S:Base} {w0 w:World} {E:Env} {H:Heap} {γ:Nat→Loc} {a:Act} {N:Nat}
def SL (P:Program) (N:Nat) (S:Base) (w0:World) (ops:Array Oper) (Q:Exit→Act→World→Prop) (l:List Oper) (E:Env) (H:Heap):Prop:=
 ∀ γ a w,a.tmps.size=N→St S w0 E H γ a w→wpList P ops Q l a w
def SC (P:Program) (N:Nat) (S:Base) (w0:World) (c:Code) (Q:Exit→Act→World→Prop) (E:Env) (H:Heap):Prop:=
 ∀ γ a w,a.tmps.size=N→St S w0 E H γ a w→c.wp P Q a w
def SG (P:Program) (N:Nat) (S:Base) (w0:World) (ops:Array Oper) (Q:Exit→Act→World→Prop) (o:Oper) (rest:List Oper) (E:Env) (H:Heap):Prop:=
 ∀ γ a w,a.tmps.size=N→Region.wanted o (yielded ops a.tmps)=true→St S w0 E H γ a w→wpList P ops Q (o::rest) a w
theorem zaw (d:Nat) {α:Type} (x:α) (l:List (Nat×α)) (s:Nat):((d,x)::l).lookup s=if s=d then some x else l.lookup s:=by
 simp only [List.lookup]
 by_cases h:s=d
 ·subst h;simp
 ·rw [if_neg h];have:(s==d)=false:=by simpa using h
  rw [this]
theorem zsb (d:Nat) (x:Value) (s:Nat) (hd:d<a.tmps.size):(a.put (some d) x).tmps[s]? = if s=d then some x else a.tmps[s]?:=by
 simp only [Act.put]
 by_cases h:s=d
 ·subst h;simp [hd]
 ·rw [if_neg h,Array.getElem?_setIfInBounds_ne (fun e=>h e.symm)]
theorem EOk.put {d:Nat} {av:AV} {x:Value} (h:EOk E γ a) (hd:d<a.tmps.size) (hc:Conc γ av x):EOk ((d,av)::E) γ (a.put (some d) x):=by
 intro s av' hs;rw [zaw] at hs;rw [zsb d x s hd]
 by_cases e:s=d
 ·rw [if_pos e] at hs ⊢;injection hs with hs;subst hs;exact ⟨x,rfl,hc⟩
 ·rw [if_neg e] at hs ⊢;exact h s av' hs
theorem St.put {d:Nat} {av:AV} {x:Value} (h:St S w0 E H γ a w) (hd:d<a.tmps.size) (hc:Conc γ av x):St S w0 ((d,av)::E) H γ (a.put (some d) x) w:=
 ⟨h.toHOk,h.fr.put hd hc,h.defers⟩
theorem zlb (d:Nat) (x:Value):(a.put (some d) x).tmps.size=a.tmps.size:=by simp [Act.put]
def Wanted (ops:Array Oper) (o:Oper) (E:Env):Prop:=∀ γ a,EOk E γ a→Region.wanted o (yielded ops a.tmps)=true
section
variable {ops:Array Oper} {Q:Exit→Act→World→Prop} {o:Oper} {rest:List Oper} {d:Nat} {av:AV}
theorem zgc (hw:Region.wanted o (yielded ops a.tmps)=true) {x:Value} {w w':World} (hr:(execOp a.eval o).run P w = .ok (.value x) w') (h:wpList P ops Q rest (a.put o.dst x) w'):wpList P ops Q (o::rest) a w:=by
 refine wpList_step fun K hK=>?_;rw [if_pos hw];unfold Oper.wp;rw [hr];exact hK _ _ h
theorem SL.go (hw:Wanted ops o E) (h:SG P N S w0 ops Q o rest E H):SL P N S w0 ops Q (o::rest) E H:=fun γ a w hn hs=>h γ a w hn (hw γ a hs.fr) hs
end
section
variable {Q:Exit→Act→World→Prop}
end
end Go.Proofs.Ytepiiaeiogdphaa.Sx
namespace Go.Proofs.Ytepiiaeiogdphaa.Sx
open Go.RowKit
variable {P:Program} {S:Base} {w0 w:World} {E:Env} {H:Heap} {γ:Nat→Loc} {a:Act} {N:Nat}
mutual
def AV.free (i:Nat):AV→Bool
 | .ptr j _=>j != i
 | .ept j _ _ _=>j != i
 | .sl j _ _ _=>j != i
 | .agg cs=>AV.freeL i cs
 | .tup cs=>AV.freeL i cs
 | .fn _ cs=>AV.freeL i cs
 | _=>true
def AV.freeL (i:Nat):List AV→Bool
 | []=>true
 | a::r=>AV.free i a&&AV.freeL i r
end
theorem zcf {i:Nat}:∀ {cs:List AV},AV.freeL i cs=true→∀ {j:Nat} {a:AV},cs[j]? = some a→a.free i=true
 | [],_,j,a,h=>by simp at h
 | c::cs,hf,0,a,h=>by simp [AV.freeL] at hf h;subst h;exact hf.1
 | c::cs,hf,j+1,a,h=>by simp [AV.freeL] at hf h;exact zcf hf.2 h
def Chunk.free (i:Nat):Chunk→Bool
 | .box cs=>AV.freeL i cs
 | _=>true
def freshB (i:Nat) (E:Env) (H:Heap):Bool:=E.all (fun p=>p.2.free i)&&H.all (fun p=>p.1 != i&&p.2.free i)
def upd {α:Type} (γ:Nat→α) (i:Nat) (l:α):Nat→α:=fun j=>if j=i then l else γ j
theorem upd_same {α:Type} (γ:Nat→α) (i:Nat) (l:α):upd γ i l i=l:=by simp [upd]
theorem upd_ne {α:Type} (γ:Nat→α) {i j:Nat} (l:α) (h:j≠i):upd γ i l j=γ j:=by simp [upd,h]
theorem zf6 {i:Nat} {l:Loc} {av:AV} {x:Value} (h:Conc γ av x):av.free i=true→Conc (upd γ i l) av x:=by
 induction h with
 | v x=>intro _;exact Conc.v x
 | ptr j off b o hA=>intro hf;exact Conc.ptr j off b o (by rw [upd_ne γ l (by simpa [AV.free] using hf)];exact hA)
 | ept j z k f b o hA=>intro hf;exact Conc.ept j z k f b o (by rw [upd_ne γ l (by simpa [AV.free] using hf)];exact hA)
 | sl j z off len A c h0 h1 hc=>intro hf;exact Conc.sl j z off len A c (by rw [upd_ne γ l (by simpa [AV.free] using hf)];exact h0) (by rw [upd_ne γ l (by simpa [AV.free] using hf)];exact h1) hc
 | agg cs vs hl _ ih=>intro hf;exact Conc.agg cs vs hl fun j a x ha hx=>ih j a x ha hx (zcf (by simpa [AV.free] using hf) ha)
 | tup cs vs hl _ ih=>intro hf;exact Conc.tup cs vs hl fun j a x ha hx=>ih j a x ha hx (zcf (by simpa [AV.free] using hf) ha)
 | fn f cs vs hl _ ih=>intro hf;exact Conc.fn f cs vs hl fun j a x ha hx=>ih j a x ha hx (zcf (by simpa [AV.free] using hf) ha)
 | top x=>intro _;exact Conc.top x
theorem zvn {i:Nat} (h:freshB i E H=true) {s:Nat} {av:AV} (hs:E.lookup s=some av):av.free i=true:=by
 unfold freshB at h;simp only [Bool.and_eq_true,List.all_eq_true] at h;have:(s,av)∈E:=by
  clear h
  induction E with
  | nil=>simp at hs
  | cons p E ih=>
   rw [show p=(p.1,p.2) from rfl,zaw] at hs
   by_cases e:s=p.1
   ·rw [if_pos e] at hs;injection hs with hs;subst e hs;exact List.mem_cons_self
   ·rw [if_neg e] at hs;exact List.mem_cons_of_mem _ (ih hs)
 exact h.1 _ this
theorem zej {α:Type} {l:List (Nat×α)} {s:Nat} {x:α} (hs:l.lookup s=some x):(s,x)∈l:=by
 induction l with
 | nil=>simp at hs
 | cons p E ih=>
  rw [show p=(p.1,p.2) from rfl,zaw] at hs
  by_cases e:s=p.1
  ·rw [if_pos e] at hs;injection hs with hs;subst e hs;exact List.mem_cons_self
  ·rw [if_neg e] at hs;exact List.mem_cons_of_mem _ (ih hs)
theorem zvm {i:Nat} (h:freshB i E H=true) {j:Nat} {ch:Chunk} (hs:H.lookup j=some ch):j≠i∧ch.free i=true:=by
 unfold freshB at h;simp only [Bool.and_eq_true,List.all_eq_true] at h;have:=h.2 _ (zej hs);simpa using this
theorem EOk.upd {i:Nat} {l:Loc} (h:EOk E γ a) (hf:freshB i E H=true):EOk E (Sx.upd γ i l) a:=fun s av hs=>
 let ⟨x,hx,hc⟩:=h s av hs
 ⟨x,hx,zf6 hc (zvn hf hs)⟩
theorem Chunk.ok_keep {ch:Chunk} {l:Loc} {w w':World} (h:ch.ok γ l w) (hb:∀ b,l.blk=some b→w'.heap[b]? = w.heap[b]?):ch.ok γ l w':=by
 cases ch with
 | box cs=>
  obtain ⟨b,o,hA,hc⟩:=h;have hb':=hb b (by simp [Loc.blk,hA]);refine ⟨b,o,hA,fun j a ha=>?_⟩;obtain ⟨⟨x,hx,hcx⟩,hf⟩:=hc j a ha;exact ⟨⟨x,(World.cell?_of_block (w:=w) hb').trans hx,hcx⟩,(World.frozen?_of_block (w:=w) hb').trans hf⟩
 | ro n cols=>
  intro hn;obtain ⟨b,o,hA,hc⟩:=h hn;have hb':=hb b (by simp [Loc.blk,hA]);exact ⟨b,o,hA,fun k j c hk hj=>(World.cell?_of_block (w:=w) hb').trans (hc k j c hk hj)⟩
 | rw t n cols=>
  obtain ⟨h1,h2⟩:=h;refine ⟨h1,?_⟩;rcases h2 with h2|⟨g,cap,cur,hv,hg,hh,r⟩
  ·exact .inl h2
  ·refine .inr ⟨g,cap,cur,hv,hg,?_,r⟩;injection hv with hA _ _
   rw [hb g (by simp [Loc.blk,hA])];exact hh
theorem Chunk.ok_upd {ch:Chunk} {l l':Loc} {i:Nat} (h:ch.ok γ l w) (hf:ch.free i=true):ch.ok (upd γ i l') l w:=by
 cases ch with
 | box cs=>
  obtain ⟨b,o,hA,hc⟩:=h;refine ⟨b,o,hA,fun j a ha=>?_⟩;obtain ⟨⟨x,hx,hcx⟩,hfz⟩:=hc j a ha;exact ⟨⟨x,hx,zf6 hcx (zcf hf ha)⟩,hfz⟩
 | ro n cols=>exact h
 | rw t n cols=>exact h
theorem Kept.step {S:Nat→Prop} {w':World} (h:Kept S w0 w) (hos:w'.os=w.os) (ht:w'.tape=w.tape) (ho:w'.output=w.output) (hsz:w.heap.size≤w'.heap.size) (hb:∀ k,k<w0.heap.size→¬ S k→w'.heap[k]? = w.heap[k]?):Kept S w0 w':=
 ⟨hos.trans h.os,ht.trans h.tape,ho.trans h.output,Nat.le_trans h.size hsz,fun k hk hs=>(hb k hk hs).trans (h.block k hk hs)⟩
theorem HOk.alloc {i cap:Nat} {ch:Chunk} {o:Obj} (h:HOk S w0 H γ w) (hK:S.K≤i) (hf:freshB i [] H=true)
  (hok:ch.ok (upd γ i ⟨some ⟨w.heap.size,0,none⟩,cap⟩) ⟨some ⟨w.heap.size,0,none⟩,cap⟩ (w.alloc o)) :
  HOk S w0 ((i,ch)::H) (upd γ i ⟨some ⟨w.heap.size,0,none⟩,cap⟩) (w.alloc o):=by
 have hold:∀ k,k<w.heap.size→(w.alloc o).heap[k]? = w.heap[k]?:=fun k hk=>Below.heap_alloc w o k hk;refine ⟨?_,?_,?_,?_,?_,fun j hj=>by rw [upd_ne _ _ (by omega)];exact h.anc j hj⟩
 ·intro j c hj;rw [zaw] at hj
  by_cases e:j=i
  ·rw [if_pos e] at hj;injection hj with hj;subst e hj;rw [upd_same];exact hok
  ·rw [if_neg e] at hj;rw [upd_ne _ _ e];exact Chunk.ok_upd (Chunk.ok_keep (h.hp j c hj) fun b hb=>hold b (h.lt j c hj b hb)) (zvm hf hj).2
 ·intro j k cj ck hj hk hne hw b hb;rw [zaw] at hj hk
  by_cases e:j=i
  ·subst e;rw [upd_same] at hb;rw [if_neg (fun e=>hne e.symm)] at hk;rw [upd_ne _ _ (fun e=>hne e.symm)];intro hb2;have:=h.lt k ck hk b hb2;simp [Loc.blk] at hb;omega
  ·rw [if_neg e] at hj;rw [upd_ne _ _ e] at hb
   by_cases e2:k=i
   ·subst e2;rw [upd_same];have:=h.lt j cj hj b hb;simp [Loc.blk];omega
   ·rw [if_neg e2] at hk;rw [upd_ne _ _ e2];exact h.sep j k cj ck hj hk hne hw b hb
 ·intro j cj hj hw b hb;rw [zaw] at hj
  by_cases e:j=i
  ·subst e;rw [upd_same] at hb;simp [Loc.blk] at hb;have:=h.kept.size;right;omega
  ·rw [if_neg e] at hj;rw [upd_ne _ _ e] at hb;exact h.wrS j cj hj hw b hb
 ·intro j cj hj b hb;rw [zaw] at hj
  by_cases e:j=i
  ·subst e;rw [upd_same] at hb;simp [Loc.blk] at hb;simp;omega
  ·rw [if_neg e] at hj;rw [upd_ne _ _ e] at hb;have:=h.lt j cj hj b hb;simp;omega
 ·exact h.kept.step rfl rfl rfl (by simp) fun k hk _=>hold k (by have:=h.kept.size;omega)
def AV.cells:AV→Option (List AV)
 | .agg cs=>some cs
 | .top=>none
 | .v (.agg _)=>none
 | .v (.tuple _)=>none
 | .tup _=>none
 | a=>some [a]
theorem znd {av:AV} {x:Value} {cs:List AV} (h:Conc γ av x) (hc:av.cells=some cs):∃ xs:List Value,x.cells=xs.toArray∧cs.length=xs.length∧∀ (j:Nat) (a:AV) (y:Value),cs[j]? = some a→xs[j]? = some y→Conc γ a y:=by
 have one:∀ {av:AV} {x:Value},Conc γ av x→∀ (j:Nat) (a:AV) (y:Value),[av][j]? = some a→[x][j]? = some y→Conc γ a y:=by
  intro av x h j a y ha hy
  cases j with
  | zero=>simp at ha hy;subst ha hy;exact h
  | succ j=>simp at ha
 cases h with
 | v x=>
  cases x <;> simp [AV.cells] at hc <;> subst hc <;> exact ⟨[_],rfl,rfl,one (Conc.v _)⟩
 | ptr i off b o hA=>simp [AV.cells] at hc;subst hc;exact ⟨[_],rfl,rfl,one (Conc.ptr i off b o hA)⟩
 | ept i z k f b o hA=>simp [AV.cells] at hc;subst hc;exact ⟨[_],rfl,rfl,one (Conc.ept i z k f b o hA)⟩
 | sl i z off len A c h0 h1 hcc=>simp [AV.cells] at hc;subst hc;exact ⟨[_],rfl,rfl,one (Conc.sl i z off len A c h0 h1 hcc)⟩
 | agg cs' vs hl h=>simp [AV.cells] at hc;subst hc;exact ⟨vs,rfl,hl,h⟩
 | tup cs' vs hl h=>simp [AV.cells] at hc
 | fn f cs' vs hl h=>simp [AV.cells] at hc;subst hc;exact ⟨[_],rfl,rfl,one (Conc.fn f cs' vs hl h)⟩
 | top x=>simp [AV.cells] at hc
theorem zgk {i cap:Nat} {cs:List AV} {xs:List Value} {t:TypeId} (hl:cs.length=xs.length) (hc:∀ (j:Nat) (a:AV) (y:Value),cs[j]? = some a→xs[j]? = some y→Conc γ a y) (hf:AV.freeL i cs=true) :
  (Chunk.box cs).ok (upd γ i ⟨some ⟨w.heap.size,0,none⟩,cap⟩) ⟨some ⟨w.heap.size,0,none⟩,cap⟩ (w.alloc (.cells xs.toArray t)):=by
 refine ⟨w.heap.size,0,rfl,fun j a ha=>?_⟩;have hj:j<xs.length:=by rw [← hl];exact (List.getElem?_eq_some_iff.1 ha).1
 refine ⟨⟨xs[j],?_,zf6 (hc j a _ ha (by simp [hj])) (zcf hf ha)⟩,?_⟩
 ·rw [Nat.zero_add,World.cell?_alloc_new];simp [hj]
 ·rw [Nat.zero_add];exact frozen_of_row (w.alloc (.cells xs.toArray t)) w.heap.size j xs.toArray t (heap_alloc_new w _)
section
variable {ops:Array Oper} {Q:Exit→Act→World→Prop} {o:Oper} {rest:List Oper} {d:Nat} {av:AV}
theorem SG.box (i:Nat) (hK:S.K≤i) {t:TypeId} {x:Operand} {cs:List AV} (ho:o.op = .box t x) (hd:o.dst=some d) (hN:d<N) (hc:(evO E x).cells=some cs) (hf:freshB i E H=true) (hfc:AV.freeL i cs=true)
  (h:SL P N S w0 ops Q rest ((d,.ptr i 0)::E) ((i,.box cs)::H)):SG P N S w0 ops Q o rest E H:=by
 intro γ a w hn hw hs;obtain ⟨xs,hxs,hl,hcc⟩:=znd (zta hs x) hc;refine zgc hw (x:=.pointer (some ⟨w.heap.size,0,none⟩)) (w':=w.alloc (.cells xs.toArray t)) ?_ ?_
 ·have he:execOp a.eval o=(do pure (Next.value (← Instr.box t (a.eval x))):Sem Next):=by unfold execOp;rw [ho]
  rw [he,← hxs];rfl
 ·rw [hd];have hf2:freshB i [] H=true:=by unfold freshB at hf ⊢;simp at hf ⊢;exact hf.2
  refine h (upd γ i ⟨some ⟨w.heap.size,0,none⟩,0⟩) _ _ (by rw [zlb];exact hn) ⟨hs.toHOk.alloc hK hf2 (zgk hl hcc hfc),(hs.fr.upd hf).put (by omega) ?_,hs.defers⟩;exact Conc.ptr i 0 _ 0 (by rw [upd_same])
end
end Go.Proofs.Ytepiiaeiogdphaa.Sx
namespace Go.Proofs.Ytepiiaeiogdphaa.Sx
open Go.RowKit
variable {P:Program} {S:Base} {w0 w:World} {E:Env} {H:Heap} {γ:Nat→Loc} {a:Act} {N:Nat}
def zeroL (P:Program) (t:TypeId):Option (List Value):=((P.info? t).bind (·.zero)).map (·.cells.toList)
def sizeB (P:Program) (t:TypeId):Option Nat:=(P.info? t).map (·.size)
mutual
def AV.one:AV→Bool
 | .v (.agg _)=>false
 | .v (.tuple _)=>false
 | .agg _=>false
 | .tup _=>false
 | .top=>false
 | _=>true
end
def putAt {α:Type} (cs:List α) (o:Nat) (vs:List α):List α:=cs.take o++vs++cs.drop (o+vs.length)
theorem putAt_get {α:Type} {cs:List α} {o:Nat} {vs:List α} (hle:o+vs.length≤cs.length) (j:Nat):(putAt cs o vs)[j]? = if o≤j∧j<o+vs.length then vs[j-o]? else cs[j]?:=by
 unfold putAt;have hl:(cs.take o).length=o:=by simp;omega
 by_cases h1:j<o
 ·rw [if_neg (by omega),List.append_assoc,List.getElem?_append_left (by omega),List.getElem?_take,if_pos h1]
 ·by_cases h2:j<o+vs.length
  ·rw [if_pos ⟨by omega,h2⟩,List.append_assoc,List.getElem?_append_right (by omega),hl,List.getElem?_append_left (by omega)]
  ·rw [if_neg (by omega),List.getElem?_append_right (by simp;omega),List.getElem?_drop];congr 1;simp;omega
section
variable {ops:Array Oper} {Q:Exit→Act→World→Prop} {o:Oper} {rest:List Oper} {d:Nat} {av:AV}
theorem zpr {i:Nat} (hf:freshB i E H=true):freshB i [] H=true:=by unfold freshB at hf ⊢;simp at hf ⊢;exact hf.2
theorem zv1 (zs:List Value):∀ (j:Nat) (a:AV) (y:Value),(zs.map AV.v)[j]? = some a→zs[j]? = some y→Conc γ a y:=fun j a y ha hy=>by
 rw [List.getElem?_map,hy] at ha;simp at ha;subst ha;exact Conc.v y
theorem zvo (i:Nat) (zs:List Value):AV.freeL i (zs.map AV.v)=true:=by
 induction zs with
 | nil=>rfl
 | cons z zs ih=>simp [AV.freeL,AV.free];simpa using ih
theorem SG.alloc (i:Nat) (hK:S.K≤i) {t:TypeId} {zs:List Value} (ho:o.op = .alloc t) (hd:o.dst=some d) (hN:d<N) (hzl:zeroL P t=some zs) (hf:freshB i E H=true)
  (h:SL P N S w0 ops Q rest ((d,.ptr i 0)::E) ((i,.box (zs.map .v))::H)):SG P N S w0 ops Q o rest E H:=by
 intro γ a w hn hw hs;unfold zeroL at hzl
 cases hi:P.info? t with
 | none=>rw [hi] at hzl;simp at hzl
 | some inf=>
  rw [hi] at hzl
  cases hzz:inf.zero with
  | none=>simp [hzz] at hzl
  | some z=>
   simp [hzz] at hzl;refine zgc hw (x:=.pointer (some ⟨w.heap.size,0,none⟩)) (w':=w.alloc (.cells zs.toArray t)) ?_ ?_
   ·have hzc:z.cells=zs.toArray:=by rw [← hzl]
    have he:execOp a.eval o=(do pure (Next.value (← Instr.alloc t true (.tuple #[]))):Sem Next):=by unfold execOp;rw [ho]
    rw [he];refine run_v ?_;simp [Instr.alloc,zeroValue,typeInfo,hi,hzz,newVar,newRow,newObj,hzc,Sem.run]
   ·rw [hd];refine h (upd γ i ⟨some ⟨w.heap.size,0,none⟩,0⟩) _ _ (by rw [zlb];exact hn) ⟨hs.toHOk.alloc hK (zpr hf) (zgk (by simp) (zv1 zs) (zvo i zs)),(hs.fr.upd hf).put (by omega) (Conc.ptr i 0 _ 0 (by rw [upd_same])),hs.defers⟩
theorem setCells_heap (b:Nat):∀ (vs:List Value) (o:Nat) (w:World) (k:Nat),k≠b→(w.setCells b o vs).heap[k]? = w.heap[k]?
 | [],_,_,_,_=>rfl
 | v::r,o,w,k,h=>by rw [World.setCells,setCells_heap b r (o+1) _ k h,heap_setCell_other w ⟨b,o,none⟩ k v h]
theorem setCells_rest (b:Nat):∀ (vs:List Value) (o:Nat) (w:World),(w.setCells b o vs).heap.size=w.heap.size∧(w.setCells b o vs).os=w.os∧(w.setCells b o vs).tape=w.tape∧(w.setCells b o vs).output=w.output
 | [],_,_=>⟨rfl,rfl,rfl,rfl⟩
 | v::r,o,w=>by
  rw [World.setCells];obtain ⟨h1,h2,h3,h4⟩:=setCells_rest b r (o+1) (w.setCell ⟨b,o,none⟩ v);exact ⟨by rw [h1];simp [World.setCell],by rw [h2];rfl,by rw [h3];rfl,by rw [h4];rfl⟩
end
end Go.Proofs.Ytepiiaeiogdphaa.Sx
namespace Go.Proofs.Ytepiiaeiogdphaa.Ev
section
open Go.RowKit
def pureOf {α:Type} (P:Program) (s:Sem α):Option α:=
 Sem.rec (motive:=fun _=>Option α) (fun a=>some a) (fun _ _ _ _=>none) (fun _ _ _ _ _=>none) (fun _ _ _=>none) (fun _ _ _=>none) (fun _ _ _ _=>none) (fun _ _ _=>none) (fun _ _ _=>none) (fun _ _ _ _=>none) (fun _ _ _=>none) (fun _ _ _=>none)
  (fun _ ih=>ih P) (fun _ _ ih=>ih) (fun _=>none) s
theorem zdd {α:Type} {P:Program} {s:Sem α} {a:α} (h:pureOf P s=some a) (w:World):s.run P w = .ok a w:=by
 induction s with
 | pure b=>simp [pureOf] at h;subst h;simp [Sem.run]
 | program k ih=>
  have:=ih P h;simpa [Sem.run] using this
 | mark m k ih=>
  have:=ih h;simpa [Sem.run] using this
 | _=>simp [pureOf] at h
def vOf (a:Option EV):Option Value:=match a with
 | some (.v x)=>some x
 | _=>none
def exVal (T:Tr EV) (x:Operand):Option EV:=match x with
 | .tmp t=>T.get t
 | .const x=>some (.v x)
 | .global _=>none
 | .func f=>some (.fn f [])
def opEval (tmps:Array Value):Operand→Value
 | .tmp t=>tmps.getD t undef
 | .const v=>v
 | .global g=>.pointer (some ⟨g,0,none⟩)
 | .func f=>.func (.func f) #[] #[]
variable {P:Program} {γ:G} {w0:Bs} {w:World} {H:Tr EK} {n:Nat} {T:Tr EV} {tmps:Array Value}
theorem getD_of {t:Nat} {x:Value} (h:tmps[t]? = some x):tmps.getD t undef=x:=by
 simp [Array.getD,Array.getElem?_eq_some_iff] at h ⊢;obtain ⟨h1,h2⟩:=h;simp [h1,h2]
theorem zaa (hT:TOk γ T tmps) {x:Operand} {a:EV} (h:exVal T x=some a):EC γ a (opEval tmps x):=by
 cases x with
 | tmp t=>
  obtain ⟨y,hy,hc⟩:=hT t a h;show EC γ a (tmps.getD t undef);rw [getD_of hy];exact hc
 | const v=>simp [exVal] at h;subst h;exact .v v
 | global g=>simp [exVal] at h
 | func f=>simp [exVal] at h;subst h;exact .fn f [] [] rfl (by simp)
theorem ec_v {x y:Value} (h:EC γ (.v x) y):y=x:=by cases h;rfl
def rho (T:Tr EV) (x:Operand):Value:=(vOf (exVal T x)).getD undef
def allV (T:Tr EV) (l:List Operand):Bool:=List.rec true (fun x _ ih=>bc (Option.isSome (vOf (exVal T x))) ih false) l
theorem zwc (hT:TOk γ T tmps) {l:List Operand} (h:allV T l=true):∀ x∈l,opEval tmps x=rho T x:=by
 induction l with
 | nil=>simp
 | cons y l ih=>
  have h':bc (Option.isSome (vOf (exVal T y))) (allV T l) false=true:=h;rw [bc_eq] at h'
  by_cases e:(vOf (exVal T y)).isSome=true
  ·rw [if_pos e] at h';intro x hx;rcases List.mem_cons.1 hx with rfl|hx
   ·unfold rho
    cases ha:exVal T x with
    | none=>rw [ha] at e;simp [vOf] at e
    | some a=>
     rw [ha] at e
     cases a with
     | v u=>simp [vOf];exact ec_v (zaa hT ha)
     | _=>simp [vOf] at e
   ·exact ih h' x hx
  ·rw [if_neg e] at h';cases h'
def notSelect:Op→Bool
 | .select _ _=>false
 | _=>true
def exPure (P:Program) (T:Tr EV) (o:Oper):Option Value:=
 bc (allV T o.op.operands.toList) (bc (notSelect o.op) (match pureOf P (execOp (rho T) o) with
  | some (.value v)=>some v
  | _=>none) none) none
theorem zpx (hT:TOk γ T tmps) {o:Oper} {v:Value} (h:exPure P T o=some v) (w:World):(execOp (opEval tmps) o).run P w = .ok (.value v) w:=by
 unfold exPure at h;rw [bc_eq,bc_eq] at h;split at h
 ·rename_i h1;split at h
  ·rename_i h2;split at h
   ·rename_i u hu;injection h with h;subst h
    have:=zwc hT h1;rw [execOp_congr o (fun cs b e=>by rw [e] at h2;simp [notSelect] at h2) (ρ':=rho T) (fun x hx=>this x (by simpa using hx))];exact zdd hu w
   ·cases h
  ·cases h
 ·cases h
def EV.cells:EV→List EV
 | .v x=>x.cells.toList.map .v
 | .agg cs=>cs
 | .arr c=>c.enc
 | a=>[a]
theorem zds {a:EV} {x:Value} (h:EC γ a x) (e:x.cells.toList=[x]):ECL γ [a] x.cells.toList:=by rw [e];exact ECL.cons h (ECL.nil γ)
theorem EC.cells {a:EV} {x:Value} (h:EC γ a x):ECL γ a.cells x.cells.toList:=by
 cases h with
 | v x=>exact ECL.vals γ _
 | agg cs vs hl h=>exact ⟨hl,h⟩
 | ptr i off b n h=>exact ECL.cons (.ptr i off b n h) (ECL.nil γ)
 | sl i z off len cap b n c h hl hm hn hc hu=>exact ECL.cons (.sl i z off len cap b n c h hl hm hn hc hu) (ECL.nil γ)
 | tup cs vs hl h=>exact ECL.cons (.tup cs vs hl h) (ECL.nil γ)
 | fn f cs vs hl h=>exact ECL.cons (.fn f cs vs hl h) (ECL.nil γ)
 | yl i b n h=>exact ECL.cons (.yl i b n h) (ECL.nil γ)
 | mp i b n h=>exact ECL.cons (.mp i b n h) (ECL.nil γ)
 | slE i z off b n c off' h hm hn=>exact ECL.cons (.slE i z off b n c off' h hm hn) (ECL.nil γ)
 | mt f cs vs hl h=>exact ECL.cons (.mt f cs vs hl h) (ECL.nil γ)
 | slO i z len nn x h=>exact zds (.slO i z len nn x h) (by
   cases nn with
   | false=>rw [(h.1 rfl).1];rfl
   | true=>obtain ⟨b,m,c,_,e,_⟩:=h.2 rfl;rw [e];rfl)
 | lst c x h=>exact zds (.lst c x h) (by obtain ⟨a,c,e⟩:=h.slice;rw [e];rfl)
 | lp c j f k off cp h=>exact zds (.lp c j f k off cp h) rfl
 | ptrE i z j f b n h=>exact zds (.ptrE i z j f b n h) rfl
 | arr c vs h=>show ECL γ c.enc vs;rw [c.vals_enc h];exact ECL.vals γ vs
 | row i v j f y z len x h=>exact zds (.row i v j f y z len x h) (by obtain ⟨a,c,e⟩:=zh6 (.row i v j f y z len x h);rw [e];rfl)
 | prow i v j f y z a g k m h=>exact zds (.prow i v j f y z a g k m h) rfl
 | slX i z off len b n c off' h hl hm hn ho=>exact zds (.slX i z off len b n c off' h hl hm hn ho) rfl
def valsOf (cs:List EV):Option (List Value):=List.rec (some []) (fun a _ ih=>match a with
 | .v x=>match ih with
  | some l=>some (x::l)
  | none=>none
 | _=>none) cs
theorem zfe:∀ {cs:List EV} {l:List Value},valsOf cs=some l→cs=l.map .v
 | [],l,h=>by simp [valsOf] at h;subst h;rfl
 | a::cs,l,h=>by
  cases a with
  | v x=>
   have h':(match valsOf cs with
    | some l=>some (x::l)
    | none=>none)=some l:=h
   split at h'
   ·rename_i l2 h2;injection h' with h';subst h'
    rw [zfe h2];rfl
   ·cases h'
  | _=>exact absurd (show (none:Option (List Value))=some l from h) (by simp)
def packE (cs:List EV):EV:=match valsOf cs with
 | some l=>.v (.agg l.toArray)
 | none=>.agg cs
theorem zd4 {cs:List EV} {vs:List Value} (h:ECL γ cs vs):EC γ (packE cs) (.agg vs.toArray):=by
 unfold packE;split
 ·rename_i l hl;have e:=zfe hl;subst e;have:vs=l:=by
   apply List.ext_getElem?;intro j
   cases hj:vs[j]? with
   | none=>
    have:¬ j<vs.length:=by simpa using hj
    have hl:=h.1;simp at hl;simp;omega
   | some x=>
    have hlt:j<vs.length:=(List.getElem?_eq_some_iff.1 hj).1;have hl:=h.1;simp at hl;have:=h.2 j (.v l[j]) x (by simp) hj;rw [ec_v this];simp [show j<l.length by omega]
  subst this;exact .v _
 ·exact .agg cs vs h.1 h.2
def EV.one:EV→Bool
 | .v (.agg _)=>false
 | .v (.tuple _)=>false
 | .agg _=>false
 | .tup _=>false
 | .arr _=>false
 | _=>true
theorem EC.one {a:EV} {x:Value} (h:EC γ a x) (h1:a.one=true):x.oneCell'=true:=by
 cases h with
 | v x=>cases x <;> first|rfl|(simp [EV.one] at h1)
 | agg=>simp [EV.one] at h1
 | tup=>simp [EV.one] at h1
 | arr=>simp [EV.one] at h1
 | slO i z len nn x h=>
  cases nn with
  | false=>rw [(h.1 rfl).1];rfl
  | true=>obtain ⟨b,m,c,_,e,_⟩:=h.2 rfl;rw [e];rfl
 | lst c x h=>obtain ⟨a,c,e⟩:=h.slice;rw [e];rfl
 | row i v j f y z len x h=>obtain ⟨a,c,e⟩:=zh6 (.row i v j f y z len x h);rw [e];rfl
 | _=>rfl
theorem ECL.ones {cs:List EV} {vs:List Value} (h:ECL γ cs vs) (h1:cs.all EV.one=true):∀ u∈vs,u.oneCell'=true:=fun u hu=>by
 obtain ⟨j,hj,rfl⟩:=List.getElem_of_mem hu;have hj2:j<cs.length:=by rw [h.1];exact hj
 exact (h.2 j cs[j] vs[j] (by simp [hj2]) (by simp [hj])).one (by rw [List.all_eq_true] at h1;exact h1 _ (List.getElem_mem hj2))
def Gives (P:Program) (γ:G) (w0:Bs) (w:World) (s:Sem Next) (r:Option EV) (H:Tr EK) (n:Nat):Prop:=
 ∃ γ' w',GLe γ γ'∧HR γ' w0 H n w'∧match r with
  | some a=>∃ x,s.run P w = .ok (.value x) w'∧EC γ' a x
  | none=>s.run P w = .ok .skip w'
theorem zab {s:Sem Next} {a:EV} {x:Value} (hr:s.run P w = .ok (.value x) w) (ha:EC γ a x) (hH:HR γ w0 H n w):Gives P γ w0 w s (some a) H n:=
 ⟨γ,w,GLe.refl γ,hH,x,hr,ha⟩
theorem run_v {s:Sem Value} {x:Value} {w w':World} (h:s.run P w = .ok x w'):(do pure (Next.value (← s)):Sem Next).run P w = .ok (.value x) w':=by
 simp [h]
theorem run_u {s:Sem Unit} {w w':World} (h:s.run P w = .ok () w'):(do s;pure Next.skip:Sem Next).run P w = .ok .skip w':=by
 simp [h]
theorem zmy (e:TypeId) (c:Array Value) (w:World):(newRow e c).run P w = .ok ⟨w.heap.size,0,none⟩ (w.alloc (.cells c e)):=by
 simp [newRow,newObj,Sem.run]
theorem HR.newCells (h:HR γ w0 H n w) (hn:Nat.ble n 65535=true) {e:TypeId} {c:Array Value} {cs:List EV} (hc:ECL γ cs c.toList) :
  HR (γ.upd n (⟨w.heap.size,0⟩,c.size)) w0 (H.put n (some (.cells e cs true))) (n+1) (w.alloc (.cells c e)):=by
 have hl:cs.length=c.size:=by simpa using hc.1
 refine h.new hn (.cells c e) c.size (.cells e cs true) rfl rfl rfl rfl ⟨c,.of (by show (w.heap.push _)[_]? = _;simp),(Nat.zero_add _).symm,by omega,fun _=>hl,?_⟩;show ECL _ cs ((c.toList.drop 0).take cs.length);rw [List.drop_zero,hl,show c.size=c.toList.length by simp,List.take_length];exact hc.mono (G.upd_le (h.fresh n (Nat.le_refl _)))
theorem zbh {s:Sem Next} {e:TypeId} {c:Array Value} {cs:List EV} {a:EV} {x:Value} (h:HR γ w0 H n w) (hn:Nat.ble n 65535=true) (hc:ECL γ cs c.toList)
  (hr:s.run P w = .ok (.value x) (w.alloc (.cells c e))) (ha:∀ γ',γ' n=some (⟨w.heap.size,0⟩,c.size)→EC γ' a x):Gives P γ w0 w s (some a) (H.put n (some (.cells e cs true))) (n+1):=
 ⟨_,_,G.upd_le (h.fresh n (Nat.le_refl _)),h.newCells hn hc,x,hr,ha _ G.upd_same⟩
theorem zb3 {t:TypeId} {zs:List Value} (h:Sx.zeroL P t=some zs):∃ inf z,P.info? t=some inf∧inf.zero=some z∧z.cells.toList=zs:=by
 unfold Sx.zeroL at h
 cases hi:P.info? t with
 | none=>rw [hi] at h;simp at h
 | some inf=>
  rw [hi] at h
  cases hz:inf.zero with
  | none=>simp [hz] at h
  | some z=>simp [hz] at h;exact ⟨inf,z,rfl,hz,h⟩
theorem zbf {t:TypeId} {m:Nat} (h:Sx.sizeB P t=some m):∃ inf,P.info? t=some inf∧inf.size=m:=by
 unfold Sx.sizeB at h
 cases hi:P.info? t with
 | none=>rw [hi] at h;simp at h
 | some inf=>rw [hi] at h;simp at h;exact ⟨inf,rfl,h⟩
end
end Go.Proofs.Ytepiiaeiogdphaa.Ev
namespace Go.Proofs.Ytepiiaeiogdphaa.Sx
open Go.RowKit
variable {P:Program} {S:Base} {w0 w:World} {E:Env} {H:Heap} {γ:Nat→Loc} {a:Act} {N:Nat}
mutual
def AV.ren (σ:Nat→Nat):AV→AV
 | .v x=>.v x
 | .ptr i off=>.ptr (σ i) off
 | .ept i z k f=>.ept (σ i) z k f
 | .sl i z off len=>.sl (σ i) z off len
 | .agg cs=>.agg (AV.renL σ cs)
 | .tup cs=>.tup (AV.renL σ cs)
 | .fn f cs=>.fn f (AV.renL σ cs)
 | .top=>.top
def AV.renL (σ:Nat→Nat):List AV→List AV
 | []=>[]
 | a::r=>AV.ren σ a::AV.renL σ r
end
theorem zhd (σ:Nat→Nat) (cs:List AV):AV.renL σ cs=cs.map (AV.ren σ):=by
 induction cs with
 | nil=>rfl
 | cons c cs ih=>simp [AV.renL,ih]
def Chunk.ren (σ:Nat→Nat):Chunk→Chunk
 | .box cs=>.box (AV.renL σ cs)
 | c=>c
theorem zma {σ:Nat→Nat} {bv:AV} {x:Value} (h:Conc γ bv x):∀ av,av.ren σ=bv→Conc (fun i=>γ (σ i)) av x:=by
 induction h with
 | v x=>intro av e;cases av <;> simp [AV.ren] at e;subst e;exact Conc.v _
 | ptr i off b o hA=>intro av e;cases av <;> simp [AV.ren] at e;obtain ⟨rfl,rfl⟩:=e;exact Conc.ptr _ _ b o hA
 | ept i z k f b o hA=>intro av e;cases av <;> simp [AV.ren] at e;obtain ⟨rfl,rfl,rfl,rfl⟩:=e;exact Conc.ept _ _ _ _ b o hA
 | sl i z off len A c h0 h1 hc=>intro av e;cases av <;> simp [AV.ren] at e;obtain ⟨rfl,rfl,rfl,rfl⟩:=e;exact Conc.sl _ _ _ _ A c h0 h1 hc
 | agg cs vs hl _ ih=>
  intro av e;cases av <;> simp [AV.ren] at e;rename_i cs';rw [zhd] at e;subst e;exact Conc.agg _ vs (by simpa using hl) fun j a y ha hy=>ih j _ y (by rw [List.getElem?_map,ha];rfl) hy a rfl
 | tup cs vs hl _ ih=>
  intro av e;cases av <;> simp [AV.ren] at e;rw [zhd] at e;subst e;exact Conc.tup _ vs (by simpa using hl) fun j a y ha hy=>ih j _ y (by rw [List.getElem?_map,ha];rfl) hy a rfl
 | fn f cs vs hl _ ih=>
  intro av e;cases av <;> simp [AV.ren] at e;obtain ⟨rfl,e⟩:=e;rw [zhd] at e;subst e;exact Conc.fn _ _ vs (by simpa using hl) fun j a y ha hy=>ih j _ y (by rw [List.getElem?_map,ha];rfl) hy a rfl
 | top x=>intro av e;cases av <;> simp [AV.ren] at e;exact Conc.top _
def EntE (σ:Nat→Nat) (E:Env):Env→Prop
 | []=>True
 | (s,av)::r=>(E.lookup s=some (av.ren σ)∨av = .top∧(E.lookup s).isSome=true)∧EntE σ E r
def EntH (σ:Nat→Nat) (H:Heap):Heap→Prop
 | []=>True
 | (i,ch)::r=>H.lookup (σ i)=some (ch.ren σ)∧EntH σ H r
theorem EntE.get {σ:Nat→Nat}:∀ {E':Env},EntE σ E E'→∀ {s av},E'.lookup s=some av→(E.lookup s=some (av.ren σ)∨av = .top∧(E.lookup s).isSome=true)
 | [],_,s,av,h=>by simp at h
 | p::r,he,s,av,h=>by
  rw [show p=(p.1,p.2) from rfl,zaw] at h
  by_cases e:s=p.1
  ·rw [if_pos e] at h;injection h with h;subst e h;exact he.1
  ·rw [if_neg e] at h;exact EntE.get he.2 h
theorem EntH.get {σ:Nat→Nat}:∀ {H':Heap},EntH σ H H'→∀ {i ch},H'.lookup i=some ch→H.lookup (σ i)=some (ch.ren σ)
 | [],_,s,av,h=>by simp at h
 | p::r,he,s,av,h=>by
  rw [show p=(p.1,p.2) from rfl,zaw] at h
  by_cases e:s=p.1
  ·rw [if_pos e] at h;injection h with h;subst e h;exact he.1
  ·rw [if_neg e] at h;exact EntH.get he.2 h
def injB (σ:Nat→Nat):Heap→Bool
 | []=>true
 | (i,_)::r=>r.all (fun p=>p.1==i || σ p.1 != σ i)&&injB σ r
theorem zja {σ:Nat→Nat}:∀ {H':Heap},injB σ H'=true→∀ p∈H',∀ q∈H',p.1≠q.1→σ p.1≠σ q.1
 | [],_,p,hp,_,_,_=>by simp at hp
 | x::r,h,p,hp,q,hq,hne=>by
  simp only [injB,Bool.and_eq_true,List.all_eq_true] at h;rcases List.mem_cons.1 hp with rfl|hp' <;> rcases List.mem_cons.1 hq with rfl|hq'
  ·exact absurd rfl hne
  ·have:=h.1 q hq';simp at this;rcases this with e|e
   ·exact absurd e.symm hne
   ·exact fun e2=>e e2.symm
  ·have:=h.1 p hp';simp at this;rcases this with e|e
   ·exact absurd e hne
   ·exact e
  ·exact zja h.2 p hp' q hq' hne
theorem zjj {σ:Nat→Nat} {ch:Chunk} {l:Loc} (h:(ch.ren σ).ok γ l w):ch.ok (fun i=>γ (σ i)) l w:=by
 cases ch with
 | box cs=>
  obtain ⟨b,o,hA,hc⟩:=h;refine ⟨b,o,hA,fun j a ha=>?_⟩;obtain ⟨⟨x,hx,hcx⟩,hf⟩:=hc j (a.ren σ) (by rw [zhd,List.getElem?_map,ha];rfl);exact ⟨⟨x,hx,zma hcx a rfl⟩,hf⟩
 | ro n cols=>exact h
 | rw t n cols=>exact h
theorem ze5 (σ:Nat→Nat) (ch:Chunk):(ch.ren σ).wr=ch.wr:=by cases ch <;> rfl
theorem HOk.ent {σ:Nat→Nat} {H':Heap} (hid:∀ i,i<S.K→σ i=i) (h:HOk S w0 H γ w) (hH:EntH σ H H') (hi:injB σ H'=true):HOk S w0 H' (fun i=>γ (σ i)) w:=by
 refine ⟨fun i ch hl=>zjj (h.hp _ _ (hH.get hl)),fun i j ci cj hli hlj hne hw b hb=>?_,fun i ci hli hw b hb=>h.wrS _ _ (hH.get hli) (by rw [ze5];exact hw) b hb,fun i ci hli b hb=>h.lt _ _ (hH.get hli) b hb,h.kept,fun i hi=>by show γ (σ i)=_;rw [hid i hi];exact h.anc i hi⟩;exact h.sep _ _ _ _ (hH.get hli) (hH.get hlj) (zja hi _ (zej hli) _ (zej hlj) hne) (by rw [ze5];exact hw) b hb
theorem EOk.ent {σ:Nat→Nat} {E':Env} (h:EOk E γ a) (hE:EntE σ E E'):EOk E' (fun i=>γ (σ i)) a:=fun s av hl=>by
 rcases hE.get hl with e|⟨rfl,e⟩
 ·obtain ⟨x,hx,hc⟩:=h s _ e;exact ⟨x,hx,zma hc av rfl⟩
 ·obtain ⟨av',e⟩:=Option.isSome_iff_exists.1 e;obtain ⟨x,hx,_⟩:=h s _ e;exact ⟨x,hx,Conc.top x⟩
theorem St.ent {σ:Nat→Nat} {E':Env} {H':Heap} (hid:∀ i,i<S.K→σ i=i) (h:St S w0 E H γ a w) (hE:EntE σ E E') (hH:EntH σ H H') (hi:injB σ H'=true):St S w0 E' H' (fun i=>γ (σ i)) a w:=
 ⟨h.toHOk.ent hid hH hi,h.fr.ent hE,h.defers⟩
section
variable {Q:Exit→Act→World→Prop}
def Inv {X:Type} (N:Nat) (S:Base) (w0:World) (I:X→Env×Heap) (μ:X→Nat) (n:Nat) (a:Act) (w:World):Prop:=∃ x γ,μ x<n∧a.tmps.size=N∧St S w0 (I x).1 (I x).2 γ a w
theorem SC.loop {X:Type} (I:X→Env×Heap) (μ:X→Nat) (x0:X) (σ:Nat→Nat) {c:Code} (hid:∀ i,i<S.K→σ i=i) (hE:EntE σ E (I x0).1) (hH:EntH σ H (I x0).2) (hi:injB σ (I x0).2=true)
  (round:∀ x,SC P N S w0 c (Exit.then (Inv N S w0 I μ (μ x)) Q) (I x).1 (I x).2):SC P N S w0 (.loop c) Q E H:=by
 intro γ a w hn hs;refine wp_loop_ghost (fun n a w=>∃ x γ,μ x=n∧a.tmps.size=N∧St S w0 (I x).1 (I x).2 γ a w) (μ x0) ⟨x0,_,rfl,hn,hs.ent hid hE hH hi⟩ ?_
 rintro n a w ⟨x,γ,rfl,hn,hs⟩
 refine wp_mono (round x γ a w hn hs) ?_;intro e a' w' hq
 cases e with
 | normal=>
  obtain ⟨x',γ',hlt,hn',hs'⟩:=hq;exact ⟨μ x',hlt,x',γ',rfl,hn',hs'⟩
 | _=>exact hq
end
section
variable {fn:Func} {R:Ending→World→Prop}
end
end Go.Proofs.Ytepiiaeiogdphaa.Sx
namespace Go.Proofs.Ytepiiaeiogdphaa.Ev
section
open Go.RowKit
variable {P:Program} {γ:G} {w0:Bs} {w:World} {H H':Tr EK} {n n':Nat} {T:Tr EV} {tmps:Array Value} {o:Oper} {r:Option EV}
def lget {α:Type} (l:List α):Nat→Option α:=List.rec (fun _=>none) (fun a _ ih n=>Nat.rec (some a) (fun m _=>ih m) n) l
theorem zai {α:Type}:∀ (l:List α) (n:Nat),lget l n=l[n]?
 | [],n=>rfl
 | a::l,0=>rfl
 | a::l,n+1=>by
  show lget l n=_;rw [zai l n];simp
def llen {α:Type} (l:List α):Nat:=List.rec 0 (fun _ _ n=>Nat.succ n) l
theorem zac {α:Type} (l:List α):llen l=l.length:=by
 induction l with
 | nil=>rfl
 | cons a l ih=>show Nat.succ (llen l)=_;rw [ih];rfl
structure ER where
 val:Option EV
 H:Tr EK
 n:Nat
def lstT (T:Tr EV) (k:Nat):List EV→Option (List EV):=Nat.rec (fun acc=>some acc) (fun k ih acc=>match T.get k with
 | some a=>ih (a::acc)
 | none=>none) k
theorem zo9 {T:Tr EV}:∀ {k:Nat} {acc cs:List EV},lstT T k acc=some cs→cs.length=k+acc.length∧(∀ j,j<k→cs[j]? = T.get j)∧∀ j,cs[k+j]? = acc[j]?
 | 0,acc,cs,h=>by
  have h':some acc=some cs:=h;injection h' with h';subst h'
  exact ⟨by simp,fun j hj=>by omega,fun j=>by rw [Nat.zero_add]⟩
 | k+1,acc,cs,h=>by
  have h':(match T.get k with
   | some a=>lstT T k (a::acc)
   | none=>none)=some cs:=h
  split at h'
  case h_2=>cases h'
  rename_i a ha;obtain ⟨h1,h2,h3⟩:=zo9 h';refine ⟨by rw [h1];simp;omega,fun j hj=>?_,fun j=>?_⟩
  ·by_cases e:j<k
   ·exact h2 j e
   ·have:j=k:=by omega
    subst this;have:=h3 0;rw [Nat.add_zero] at this;rw [this,ha];rfl
  ·have:=h3 (j+1);rw [show k+(j+1)=k+1+j by omega] at this;rw [this];simp
def cellsAt (H:Tr EK) (i:Nat):Option (TypeId×List EV×Bool):=match H.get i with
 | some (.cells ty cs full)=>some (ty,cs,full)
 | some (.arr ty T len)=>match lstT T len [] with
  | some cs=>some (ty,cs,true)
  | none=>none
 | _=>none
theorem za7 (hH:HR γ w0 H n w) {i:Nat} {ty:TypeId} {cs:List EV} {full:Bool} (h:cellsAt H i=some (ty,cs,full)) :
  (∃ k0,H.get i=some k0∧¬ k0.Nil)∧∃ (b:Pl) (m:Nat) (c:Array Value),γ i=some (b,m)∧Cl w b.k c ty∧c.size=b.s+m∧cs.length≤m∧(full=true→cs.length=m)∧ECL γ cs ((c.toList.drop b.s).take cs.length):=by
 unfold cellsAt at h;split at h
 ·rename_i ty' cs' full' hg;simp only [Option.some.injEq,Prod.mk.injEq] at h;obtain ⟨rfl,rfl,rfl⟩:=h;obtain ⟨b,m,h1,_,c,h2,h3,h4,h5,h6⟩:=hH.hp i _ hg;exact ⟨⟨_,hg,id⟩,b,m,c,h1,h2,h3,h4,h5,h6⟩
 ·rename_i ty' T len hg;split at h
  case h_2=>cases h
  rename_i cs' hl;simp only [Option.some.injEq,Prod.mk.injEq] at h;obtain ⟨rfl,rfl,rfl⟩:=h;obtain ⟨b,m,h1,_,c,h2,h3,h4,h5⟩:=hH.hp i _ hg;obtain ⟨g1,g2,_⟩:=zo9 hl;have g1:cs'.length=len:=by simpa using g1
  refine ⟨⟨_,hg,id⟩,b,m,c,h1,h2,h3,by omega,fun _=>by omega,⟨?_,fun j a x ha hx=>?_⟩⟩
  ·have hcl:c.toList.length=c.size:=by simp
   rw [List.length_take,List.length_drop];omega
  ·have hj:j<len:=by rw [← g1];exact (List.getElem?_eq_some_iff.1 ha).1
   rw [g2 j hj] at ha;obtain ⟨y,hy,hc⟩:=h5 j a hj ha;rw [List.getElem?_take,if_pos (by omega),List.getElem?_drop,Array.getElem?_toList,hy] at hx;injection hx with hx;subst hx
   exact hc
 ·cases h
theorem zae {b:Pl} {off:Nat} {c:Array Value} {ty:TypeId} (hc:Cl w b.k c ty):w.cell? (b.at off)=c[b.s+off]? ∧ (b.s+off<c.size→w.frozen? (b.at off)=false):=by
 obtain ⟨fz,hc,hf⟩:=hc;constructor
 ·unfold World.cell? Pl.at;simp [hc]
 ·intro hlt;unfold World.frozen? Pl.at;simp [hc];rcases hf with rfl|hf
  ·simp
  ·intro h;omega
theorem Pl.at_add (b:Pl) (off j:Nat):(b.at off).add j=b.at (off+j):=by unfold Pl.at;rw [Addr.add_lit,Nat.add_assoc]
theorem zcc {i off:Nat} {y:Value} (h:EC γ (.ptr i off) y):∃ b m,γ i=some (b,m)∧y = .pointer (some (b.at off)):=by
 cases h with|ptr _ _ b m h=>exact ⟨b,m,h,rfl⟩
theorem ec_sl {i z off len:Nat} {cap:Option Nat} {y:Value} (h:EC γ (.sl i z off len cap) y):∃ (b:Pl) (m c:Nat),γ i=some (b,m)∧y = .slice (some (b.at off)) len c∧len≤c∧c≤maxLen∧off+c*z≤m∧(∀ k,cap=some k→c=k)∧(cap=none→off+c*z=m∨c=0):=by
 cases h with|sl _ _ _ _ _ b m c h hl hm hn hc hu=>exact ⟨b,m,c,h,rfl,hl,hm,hn,hc,hu⟩
def exNew (t:TypeId) (cs:List EV) (H:Tr EK) (n:Nat):Option ER:=
 bc (Nat.ble n 65535) (some ⟨some (.ptr n 0),H.put n (some (.cells t cs true)),Nat.succ n⟩) none
theorem zst (hH:HR γ w0 H n w) {s:Sem Next} {t:TypeId} {cs:List EV} {c:Array Value} {e:ER} (h:exNew t cs H n=some e) (hc:ECL γ cs c.toList)
  (hr:s.run P w = .ok (.value (.pointer (some ⟨w.heap.size,0,none⟩))) (w.alloc (.cells c t))):Gives P γ w0 w s e.val e.H e.n:=by
 unfold exNew at h;rw [bc_eq] at h;split at h
 ·rename_i hn;injection h with h;subst h
  exact zbh hH hn hc hr fun γ' e=>.ptr n 0 _ _ e
 ·cases h
def exBox (T:Tr EV) (t:TypeId) (x:Operand) (H:Tr EK) (n:Nat):Option ER:=match exVal T x with
 | some a=>exNew t a.cells H n
 | none=>none
theorem zsv (hT:TOk γ T tmps) (hH:HR γ w0 H n w) {t:TypeId} {x:Operand} {e:ER} (ho:o.op = .box t x) (h:exBox T t x H n=some e):Gives P γ w0 w (execOp (opEval tmps) o) e.val e.H e.n:=by
 unfold exBox at h;split at h
 ·rename_i a ha;refine zst hH (c:=(opEval tmps x).cells) h (zaa hT ha).cells ?_;have he:execOp (opEval tmps) o=(do pure (Next.value (← Instr.box t (opEval tmps x))):Sem Next):=by unfold execOp;rw [ho]
  rw [he];refine run_v ?_;simp [Instr.box,newVar,newRow,newObj,Sem.run]
 ·cases h
def aggOf (P:Program) (t:TypeId):Option (Option Nat):=match P.underlying t with
 | some (.struct _)=>match Sx.sizeB P t with
  | some m=>some (some m)
  | none=>none
 | some (.array _ _)=>match Sx.sizeB P t with
  | some m=>some (some m)
  | none=>none
 | some _=>some none
 | none=>none
theorem zc9 {t m:Nat} (h:aggOf P t=some (some m)):(∀ w,(isAgg t).run P w = .ok true w)∧∃ inf,P.info? t=some inf∧inf.size=m:=by
 unfold aggOf at h;split at h
 ·rename_i fs hu;split at h
  ·rename_i m' hm;simp at h;subst h;exact ⟨fun w=>by unfold isAgg;simp [run_underlying hu],zbf hm⟩
  ·cases h
 ·rename_i k e hu;split at h
  ·rename_i m' hm;simp at h;subst h;exact ⟨fun w=>by unfold isAgg;simp [run_underlying hu],zbf hm⟩
  ·cases h
 ·simp at h
 ·cases h
theorem zbx {t:Nat} (h:aggOf P t=some none) (w:World):(isAgg t).run P w = .ok false w:=by
 unfold aggOf at h;split at h
 ·split at h <;> simp at h
 ·split at h <;> simp at h
 ·rename_i d h1 h2 hu;unfold isAgg;rw [Sem.run_bind,run_underlying hu,Result.andThen_ok];split
  ·exact (h1 _ rfl).elim
  ·exact (h2 _ _ rfl).elim
  ·rfl
 ·cases h
def exLoadL (P:Program) (T:Tr EV) (t:TypeId) (x:Operand) (H:Tr EK):Option EV:=match exVal T x with
 | some (.ptr i off)=>match cellsAt H i with
  | some (_,cs,_)=>match aggOf P t with
   | some none=>lget cs off
   | some (some m)=>bc (Nat.ble (Nat.add off m) (llen cs)) (some (packE ((cs.drop off).take m))) none
   | none=>none
  | none=>none
 | _=>none
theorem zm8 (hT:TOk γ T tmps) (hH:HR γ w0 H n w) {t:TypeId} {x:Operand} {a:EV} (ho:o.op = .load t x) (h:exLoadL P T t x H=some a):Gives P γ w0 w (execOp (opEval tmps) o) (some a) H n:=by
 unfold exLoadL at h;split at h
 case h_2=>cases h
 rename_i i off hx;split at h
 case h_2=>cases h
 rename_i ty cs full hcs;obtain ⟨b,m,hγ,he⟩:=zcc (zaa hT hx);obtain ⟨hg,b2,m2,c,hγ2,hb,hsz,hle,hfull,hc⟩:=za7 hH hcs;rw [hγ] at hγ2;simp only [Option.some.injEq,Prod.mk.injEq] at hγ2;obtain ⟨rfl,rfl⟩:=hγ2;have hs2:execOp (opEval tmps) o=(do pure (Next.value (← Instr.loadAt t (.pointer (some (b.at off))))):Sem Next):=by
  unfold execOp;rw [ho];simp only [he]
 split at h
 ·rename_i hag;rw [zai] at h;obtain ⟨y,hy,hcy⟩:=hc.at h;have hcell:w.cell? (b.at off)=some y:=by
   rw [(zae hb).1,← Array.getElem?_toList];rw [List.getElem?_take] at hy;split at hy
   ·rw [List.getElem?_drop] at hy;exact hy
   ·cases hy
  refine zab (x:=y) ?_ hcy hH;rw [hs2];refine run_v ?_;simp [Instr.loadAt,Instr.sureAddr,loadVar,zbx hag,load,Sem.run,hcell]
 ·rename_i k hag;rw [bc_eq] at h;split at h
  ·rename_i hlt;injection h with h;subst h
   have hlt:=Nat.le_of_ble_eq_true hlt;rw [zac] at hlt;have hlt:off+k≤cs.length:=hlt;obtain ⟨hagg,inf,hi,hs⟩:=zc9 hag;have hL:=(hc.drop off).take k;refine zab (x:=.agg ((((c.toList.drop b.s).take cs.length).drop off).take k).toArray) ?_ (zd4 hL) hH;rw [hs2];refine run_v ?_;have hlen:((((c.toList.drop b.s).take cs.length).drop off).take k).length=k:=by simp;omega
   have hl:=run_loadCells_list (P:=P) w (b.at off) ((((c.toList.drop b.s).take cs.length).drop off).take k) fun q y hy=>by
    rw [Pl.at_add,(zae hb).1,← Array.getElem?_toList];rw [List.getElem?_take] at hy;split at hy
    ·rw [List.getElem?_drop,List.getElem?_take] at hy;split at hy
     ·rw [List.getElem?_drop] at hy;exact hy
     ·cases hy
    ·cases hy
   rw [hlen] at hl;simp only [Instr.loadAt,Instr.sureAddr,loadVar,Sem.run_bind,Sem.run_pure,Result.andThen_ok,hagg w,if_true,sizeOf,typeInfo];simp [hi,hs,hl]
  ·cases h
 ·cases h
def arrLoad (P:Program) (t:TypeId) (T:Tr EV) (off len:Nat):Option EV:=match aggOf P t with
 | some none=>bc (Nat.blt off len) (T.get off) none
 | _=>none
def ptrLoad (P:Program) (t:TypeId) (i off:Nat) (H:Tr EK):Option EV:=match H.get i with
 | some (.arr _ T len)=>arrLoad P t T off len
 | _=>none
def fastLoad (P:Program) (T:Tr EV) (t:TypeId) (x:Operand) (H:Tr EK):Option EV:=match exVal T x with
 | some (.ptr i off)=>ptrLoad P t i off H
 | _=>none
def exLoad (P:Program) (T:Tr EV) (t:TypeId) (x:Operand) (H:Tr EK):Option EV:=match fastLoad P T t x H with
 | some a=>some a
 | none=>exLoadL P T t x H
theorem zkb (hT:TOk γ T tmps) (hH:HR γ w0 H n w) {t:TypeId} {x:Operand} {a:EV} (ho:o.op = .load t x) (h:fastLoad P T t x H=some a):Gives P γ w0 w (execOp (opEval tmps) o) (some a) H n:=by
 unfold fastLoad at h;split at h
 case h_2=>cases h
 rename_i i off hx;unfold ptrLoad at h;split at h
 case h_2=>cases h
 rename_i ty T' len hg;unfold arrLoad at h;split at h
 case h_2=>cases h
 rename_i hag;rw [bc_eq] at h;split at h
 case isFalse=>cases h
 rename_i hlt;have hlt:off<len:=by unfold Nat.blt at hlt;exact Nat.le_of_ble_eq_true hlt
 obtain ⟨b,m,hγ,he⟩:=zcc (zaa hT hx);obtain ⟨b2,m2,hγ2,_,c,h2,h3,h4,h5⟩:=hH.hp i _ hg;rw [hγ] at hγ2;simp only [Option.some.injEq,Prod.mk.injEq] at hγ2;obtain ⟨rfl,rfl⟩:=hγ2;obtain ⟨y,hy,hcy⟩:=h5 off a hlt h;have hs2:execOp (opEval tmps) o=(do pure (Next.value (← Instr.loadAt t (.pointer (some (b.at off))))):Sem Next):=by
  unfold execOp;rw [ho];simp only [he]
 have hcell:w.cell? (b.at off)=some y:=by rw [(zae h2).1];exact hy
 refine zab (x:=y) ?_ hcy hH;rw [hs2];refine run_v ?_;simp [Instr.loadAt,Instr.sureAddr,loadVar,zbx hag,load,Sem.run,hcell]
theorem zp0 (hT:TOk γ T tmps) (hH:HR γ w0 H n w) {t:TypeId} {x:Operand} {a:EV} (ho:o.op = .load t x) (h:exLoad P T t x H=some a):Gives P γ w0 w (execOp (opEval tmps) o) (some a) H n:=by
 unfold exLoad at h;split at h
 ·rename_i b hb;injection h with h;subst h
  exact zkb hT hH ho hb
 ·exact zm8 hT hH ho h
end
section
open Go.RowKit
variable {P:Program} {γ:G} {w0:Bs} {w:World} {H H':Tr EK} {n n':Nat} {T:Tr EV} {tmps:Array Value} {o:Oper} {r:Option EV}
def putArr (c:Array Value):Nat→List Value→Array Value
 | _,[]=>c
 | o,v::r=>putArr (c.setIfInBounds o v) (o+1) r
theorem zap:∀ (l:List Value) (c:Array Value) (o:Nat),(putArr c o l).size=c.size
 | [],_,_=>rfl
 | v::r,c,o=>by rw [putArr,zap r];simp
theorem zay:∀ (l:List Value) (c:Array Value) (o q:Nat),o+l.length≤c.size→(putArr c o l)[q]? = if o≤q∧q<o+l.length then l[q-o]? else c[q]?
 | [],c,o,q,_=>by rw [putArr,if_neg (by simp)]
 | v::r,c,o,q,h=>by
  simp only [List.length_cons] at h ⊢;rw [putArr,zay r _ (o+1) q (by simp;omega)]
  by_cases h1:o+1≤q∧q<o+1+r.length
  ·rw [if_pos h1,if_pos (by omega),show q-o=(q-(o+1))+1 by omega];simp
  ·rw [if_neg h1]
   by_cases h2:q=o
   ·subst h2;rw [if_pos (by omega),Array.getElem?_setIfInBounds_self];simp;omega
   ·rw [if_neg (by omega),Array.getElem?_setIfInBounds_ne (fun e=>h2 e.symm)]
theorem zdk {b:Nat} {ty:TypeId} {fz:Nat×Nat}:∀ (l:List Value) (o:Nat) (w:World) (c:Array Value),w.heap[b]? = some (.cells c ty fz)→(w.setCells b o l).heap[b]? = some (.cells (putArr c o l) ty fz)
 | [],_,_,_,h=>h
 | v::r,o,w,c,h=>by
  rw [World.setCells,putArr];refine zdk r (o+1) _ _ ?_;obtain ⟨hlt,he⟩:=Array.getElem?_eq_some_iff.1 h;show (w.heap.modify b _)[b]? = _;rw [Array.getElem?_eq_getElem (by rw [Array.size_modify];exact hlt),Array.getElem_modify_self,he];rfl
theorem Cl.set {w:World} {b:Nat} {c:Array Value} {ty:TypeId} (h:Cl w b c ty) (o:Nat) (l:List Value):Cl (w.setCells b o l) b (putArr c o l) ty:=by
 obtain ⟨fz,h1,h2⟩:=h;exact ⟨fz,zdk l o w c h1,by rw [zap];exact h2⟩
theorem zi0 {cs vs:List EV} {xs:List Value} {c:Array Value} {off k:Nat} (hc:ECL γ cs ((c.toList.drop k).take cs.length)) (hv:ECL γ vs xs) (hle:off+vs.length≤cs.length) (hsz:k+cs.length≤c.size) :
  ECL γ (Sx.putAt cs off vs) (((putArr c (k+off) xs).toList.drop k).take (Sx.putAt cs off vs).length):=by
 have hl:(Sx.putAt cs off vs).length=cs.length:=by unfold Sx.putAt;simp;omega
 have hx:=hv.1;refine ⟨by rw [hl];simp [zap];omega,fun j a y ha hy=>?_⟩;rw [hl,List.getElem?_take] at hy;split at hy
 case isFalse=>cases hy
 rename_i hj;rw [List.getElem?_drop,Array.getElem?_toList,zay _ _ _ _ (by omega)] at hy;rw [Sx.putAt_get hle] at ha
 by_cases h1:off≤j∧j<off+vs.length
 ·rw [if_pos h1] at ha;rw [if_pos (by omega),show k+j-(k+off)=j-off by omega] at hy;exact hv.2 _ a y ha hy
 ·rw [if_neg h1] at ha;rw [if_neg (by omega)] at hy;exact hc.2 j a y ha (by rw [List.getElem?_take,if_pos hj,List.getElem?_drop,Array.getElem?_toList];exact hy)
def allOne (cs:List EV):Bool:=List.rec true (fun a _ ih=>bc a.one ih false) cs
theorem zbb (cs:List EV):allOne cs=cs.all EV.one:=by
 induction cs with
 | nil=>rfl
 | cons a cs ih=>
  show bc a.one (allOne cs) false=_;rw [bc_eq,ih,List.all_cons];cases a.one <;> simp
def exPutL (i off:Nat) (vs:List EV) (H:Tr EK):Option (Tr EK):=match cellsAt H i with
 | some (ty,cs,full)=>bc (Nat.ble (Nat.add off (llen vs)) (llen cs)) (bc (allOne vs) (bc (Nat.ble i 65535) (some (H.put i (some (.cells ty (Sx.putAt cs off vs) full)))) none) none) none
 | none=>none
theorem zjd (hH:HR γ w0 H n w) {i off:Nat} {vs:List EV} {xs:List Value} (hv:ECL γ vs xs) (h:exPutL i off vs H=some H') {b:Pl} {m:Nat} (hγ:γ i=some (b,m)) :
  HR γ w0 H' n (w.setCells b.k (b.s+off) xs)∧(storeCells (b.at off) xs 0).run P w = .ok () (w.setCells b.k (b.s+off) xs):=by
 unfold exPutL at h;split at h
 case h_2=>cases h
 rename_i ty cs full hcs;rw [bc_eq,bc_eq,bc_eq] at h;split at h
 case isFalse=>cases h
 rename_i hlt;split at h
 case isFalse=>cases h
 rename_i hone;split at h
 case isFalse=>cases h
 rename_i hi;injection h with h;subst h
 have hlt:=Nat.le_of_ble_eq_true hlt;rw [zac,zac] at hlt;have hlt:off+vs.length≤cs.length:=hlt;rw [zbb] at hone;obtain ⟨⟨k0,hg,hkn⟩,b2,m2,c,hγ2,hb,hsz,hle,hfull,hc⟩:=za7 hH hcs;rw [hγ] at hγ2;simp only [Option.some.injEq,Prod.mk.injEq] at hγ2;obtain ⟨rfl,rfl⟩:=hγ2;have hx:=hv.1;obtain ⟨r1,r2,r3,r4⟩:=Sx.setCells_rest b.k xs (b.s+off) w;have hl:(Sx.putAt cs off vs).length=cs.length:=by unfold Sx.putAt;simp;omega
 constructor
 ·refine hH.turn (hn0:=hkn) hi hg hγ (.cells ty (Sx.putAt cs off vs) full) (fun k hk=>Sx.setCells_heap b.k xs (b.s+off) w k hk) r1 r2 r3 r4 ?_;exact ⟨putArr c (b.s+off) xs,hb.set (b.s+off) xs,by rw [zap];exact hsz,by rw [hl];exact hle,fun e=>by rw [hl];exact hfull e,zi0 hc hv hlt (by omega)⟩
 ·have hst:=run_storeCells_cells (P:=P) b.k (b.s+off) xs 0 w (fun j hj=>by
   rw [Nat.add_zero,show (⟨b.k,b.s+off+j,none⟩:Addr)=b.at (off+j) by unfold Pl.at;rw [Nat.add_assoc],(zae hb).1];rw [Array.getElem?_eq_getElem (by omega)];rfl) (fun j hj=>by rw [Nat.add_zero,show (⟨b.k,b.s+off+j,none⟩:Addr)=b.at (off+j) by unfold Pl.at;rw [Nat.add_assoc]];exact (zae hb).2 (by omega)) (hv.ones hone)
  rw [Nat.add_zero] at hst;exact hst
def putsT (vs:List EV):Nat→Tr EV→Tr EV:=List.rec (fun _ T=>T) (fun v _ ih k T=>ih (Nat.succ k) (T.put k (some v))) vs
theorem zfk:∀ {vs:List EV} {k:Nat} {T:Tr EV} {j:Nat},k+vs.length≤65536→(putsT vs k T).get j=if k≤j∧j<k+vs.length then vs[j-k]? else T.get j
 | [],k,T,j,_=>by rw [if_neg (by simp)];rfl
 | v::vs,k,T,j,h=>by
  have e:putsT (v::vs) k T=putsT vs (k+1) (T.put k (some v)):=rfl;simp only [List.length_cons] at h ⊢;rw [e,zfk (by omega),Tr.get_put (Nat.ble_eq_true_of_le (by omega))]
  by_cases h1:k+1≤j∧j<k+1+vs.length
  ·rw [if_pos h1,if_pos (by omega),show j-k=(j-(k+1))+1 by omega,List.getElem?_cons_succ]
  ·rw [if_neg h1]
   by_cases h2:j=k
   ·subst h2;rw [if_pos rfl,if_pos (by omega)];simp
   ·rw [if_neg h2,if_neg (by omega)]
def exPutA (i off:Nat) (vs:List EV) (H:Tr EK) (ty:TypeId) (T:Tr EV) (len:Nat):Option (Tr EK):=bc (Nat.ble (Nat.add off (llen vs)) len) (bc (Nat.ble len 65536) (bc (allOne vs) (bc (Nat.ble i 65535) (some (H.put i (some (.arr ty (putsT vs off T) len)))) none) none) none) none
def exPut (i off:Nat) (vs:List EV) (H:Tr EK):Option (Tr EK):=match H.get i with
 | some (.arr ty T len)=>exPutA i off vs H ty T len
 | _=>exPutL i off vs H
theorem zd7 (hH:HR γ w0 H n w) {i off:Nat} {vs:List EV} {xs:List Value} (hv:ECL γ vs xs) (h:exPut i off vs H=some H') {b:Pl} {m:Nat} (hγ:γ i=some (b,m)) :
  HR γ w0 H' n (w.setCells b.k (b.s+off) xs)∧(storeCells (b.at off) xs 0).run P w = .ok () (w.setCells b.k (b.s+off) xs):=by
 unfold exPut at h;split at h
 rotate_left
 ·exact zjd hH hv h hγ
 rename_i ty T' len hg;unfold exPutA at h;rw [bc_eq,bc_eq,bc_eq,bc_eq] at h;split at h
 case isFalse=>cases h
 rename_i hlt;split at h
 case isFalse=>cases h
 rename_i hlen;split at h
 case isFalse=>cases h
 rename_i hone;split at h
 case isFalse=>cases h
 rename_i hi;injection h with h;subst h
 have hlt:=Nat.le_of_ble_eq_true hlt;rw [zac] at hlt;have hlt:off+vs.length≤len:=hlt;have hlen:=Nat.le_of_ble_eq_true hlen;rw [zbb] at hone;obtain ⟨b2,m2,hγ2,_,c,hb,hsz,hl2,h5⟩:=hH.hp i _ hg;rw [hγ] at hγ2;simp only [Option.some.injEq,Prod.mk.injEq] at hγ2;obtain ⟨rfl,rfl⟩:=hγ2;have hx:=hv.1;obtain ⟨r1,r2,r3,r4⟩:=Sx.setCells_rest b.k xs (b.s+off) w;constructor
 ·refine hH.turn hi hg hγ (.arr ty (putsT vs off T') len) (fun k hk=>Sx.setCells_heap b.k xs (b.s+off) w k hk) r1 r2 r3 r4 ?_;refine ⟨putArr c (b.s+off) xs,hb.set (b.s+off) xs,by rw [zap];exact hsz,hl2,fun j a hj ha=>?_⟩;rw [zfk (by omega)] at ha;rw [zay _ _ _ _ (by omega)]
  by_cases h1:off≤j∧j<off+vs.length
  ·rw [if_pos h1] at ha;rw [if_pos (by omega),show b.s+j-(b.s+off)=j-off by omega];exact hv.at ha
  ·rw [if_neg h1] at ha;rw [if_neg (by omega)];exact h5 j a hj ha
 ·have hst:=run_storeCells_cells (P:=P) b.k (b.s+off) xs 0 w (fun j hj=>by
   rw [Nat.add_zero,show (⟨b.k,b.s+off+j,none⟩:Addr)=b.at (off+j) by unfold Pl.at;rw [Nat.add_assoc],(zae hb).1];rw [Array.getElem?_eq_getElem (by omega)];rfl) (fun j hj=>by rw [Nat.add_zero,show (⟨b.k,b.s+off+j,none⟩:Addr)=b.at (off+j) by unfold Pl.at;rw [Nat.add_assoc]];exact (zae hb).2 (by omega)) (hv.ones hone)
  rw [Nat.add_zero] at hst;exact hst
def exStore (P:Program) (T:Tr EV) (t:TypeId) (x y:Operand) (H:Tr EK) (n:Nat):Option ER:=match exVal T x with
 | some (.ptr i off)=>match exVal T y with
  | some b=>match Sx.sizeB P t with
   | some m=>bc (Nat.beq (llen b.cells) m) (match exPut i off b.cells H with
    | some H'=>some ⟨none,H',n⟩
    | none=>none) none
   | none=>none
  | none=>none
 | _=>none
theorem zm4 (hT:TOk γ T tmps) (hH:HR γ w0 H n w) {t:TypeId} {x y:Operand} {e:ER} (ho:o.op = .store t x y) (h:exStore P T t x y H n=some e):Gives P γ w0 w (execOp (opEval tmps) o) e.val e.H e.n:=by
 unfold exStore at h;split at h
 case h_2=>cases h
 rename_i i off hx;split at h
 case h_2=>cases h
 rename_i bv hy;split at h
 case h_2=>cases h
 rename_i m hm;rw [bc_eq] at h;split at h
 case isFalse=>cases h
 rename_i hlen;split at h
 case h_2=>cases h
 rename_i H' hp;injection h with h;subst h
 obtain ⟨b,k,hγ,he⟩:=zcc (zaa hT hx);have hv:=(zaa hT hy).cells;obtain ⟨h1,h2⟩:=zd7 (P:=P) hH hv hp hγ;obtain ⟨inf,hi,hs⟩:=zbf hm;have hl:=Nat.eq_of_beq_eq_true hlen;rw [zac] at hl;have hcl:(opEval tmps y).cells.size=inf.size:=by rw [← Array.length_toList,← hv.1,hl,hs]
 refine ⟨γ,_,GLe.refl γ,h1,?_⟩;have hs2:execOp (opEval tmps) o=(do Instr.storeAt t (.pointer (some (b.at off))) (opEval tmps y);pure Next.skip:Sem Next):=by
  unfold execOp;rw [ho];simp only [he]
 rw [hs2];refine run_u ?_;simp [Instr.storeAt,Instr.sureAddr,storeVar,sizeOf,typeInfo,hi,hcl,h2]
def exField (P:Program) (T:Tr EV) (s:TypeId) (x:Operand) (f:Nat):Option EV:=match exVal T x with
 | some (.ptr i off)=>match Sx.fieldO P s f with
  | some fo=>some (.ptr i (Nat.add off fo))
  | none=>none
 | _=>none
theorem zna (hT:TOk γ T tmps) (hH:HR γ w0 H n w) {s:TypeId} {x:Operand} {f:Nat} {a:EV} (ho:o.op = .fieldAddr s x f) (h:exField P T s x f=some a):Gives P γ w0 w (execOp (opEval tmps) o) (some a) H n:=by
 unfold exField at h;split at h
 case h_2=>cases h
 rename_i i off hx;split at h
 case h_2=>cases h
 rename_i fo hf;injection h with h;subst h
 obtain ⟨b,m,hγ,he⟩:=zcc (zaa hT hx);refine zab (x:=.pointer (some (b.at (off+fo)))) ?_ (.ptr i _ b m hγ) hH;have hs2:execOp (opEval tmps) o=(do pure (Next.value (← Instr.fieldAt s (.pointer (some (b.at off))) f)):Sem Next):=by
  unfold execOp;rw [ho];simp only [he]
 rw [hs2];rw [show b.at (off+fo)=⟨b.k,b.s+off+fo,none⟩ by unfold Pl.at;rw [Nat.add_assoc]];exact run_v (Sx.run_fieldAt hf b.k (b.s+off) w)
def exNil (T:Tr EV) (x:Operand):Option EV:=match exVal T x with
 | some (.ptr i off)=>some (.ptr i off)
 | some (.fn f l)=>some (.fn f l)
 | _=>none
theorem zss (hT:TOk γ T tmps) (hH:HR γ w0 H n w) {x:Operand} {a:EV} (ho:o.op = .nilCheck x) (h:exNil T x=some a):Gives P γ w0 w (execOp (opEval tmps) o) (some a) H n:=by
 unfold exNil at h;split at h
 ·rename_i i off hx;injection h with h;subst h
  have hc:=zaa hT hx;obtain ⟨b,m,hγ,he⟩:=zcc hc;refine zab (x:=opEval tmps x) ?_ hc hH;unfold execOp;rw [ho];simp only [he];simp
 ·rename_i f l hx;injection h with h;subst h
  have hc:=zaa hT hx;refine zab (x:=opEval tmps x) ?_ hc hH;unfold execOp;rw [ho];simp only;generalize hy:opEval tmps x=y at hc ⊢
  cases hc with
  | fn _ _ vs hl h=>simp
 ·cases h
def intOf (a:Option EV):Option Int:=match a with
 | some (.v (.int _ n))=>some n
 | _=>none
theorem zag (hT:TOk γ T tmps) {x:Operand} {m:Int} (h:intOf (exVal T x)=some m):∃ κ,opEval tmps x = .int κ m:=by
 unfold intOf at h;split at h
 ·rename_i κ k hx;injection h with h;subst h
  exact ⟨κ,ec_v (zaa hT hx)⟩
 ·cases h
def natOf (i:Int):Option Nat:=Int.rec (fun n=>some n) (fun _=>none) i
theorem zco {i:Int} {k:Nat} (h:natOf i=some k):i=k:=by
 cases i with
 | ofNat m=>have h':some m=some k:=h;injection h' with h';subst h';rfl
 | negSucc m=>have h':(none:Option Nat)=some k:=h;cases h'
def exIndex (P:Program) (T:Tr EV) (t:TypeId) (x ix:Operand):Option EV:=match (intOf (exVal T ix)).bind natOf with
 | some k=>match exVal T x with
  | some (.sl i z off len _)=>match Sx.slZ P t with
   | some z'=>bc (Nat.beq z z') (bc (Nat.blt k len) (some (.ptr i (Nat.add off (Nat.mul k z)))) none) none
   | none=>none
  | some (.ptr i off)=>match P.underlying t with
   | some (.array len e)=>match Sx.sizeB P e with
    | some z=>bc (Nat.blt k len) (some (.ptr i (Nat.add off (Nat.mul k z)))) none
    | none=>none
   | _=>none
  | _=>none
 | none=>none
theorem zad {a b:Nat} (h:Nat.blt a b=true):a<b:=by
 unfold Nat.blt at h;exact Nat.le_of_ble_eq_true h
theorem zeu (hT:TOk γ T tmps) (hH:HR γ w0 H n w) {t:TypeId} {x ix:Operand} {a:EV} (ho:o.op = .indexAddr t x ix) (h:exIndex P T t x ix=some a):Gives P γ w0 w (execOp (opEval tmps) o) (some a) H n:=by
 unfold exIndex at h;split at h
 case h_2=>cases h
 rename_i k hk;obtain ⟨mi,hmi,hk2⟩:=Option.bind_eq_some_iff.1 hk;obtain ⟨κ,hix⟩:=zag hT hmi;have hk2:=zco hk2;subst hk2;split at h
 ·rename_i i z off len cap hx;split at h
  case h_2=>cases h
  rename_i z' hz;rw [bc_eq,bc_eq] at h;split at h
  case isFalse=>cases h
  rename_i hzz;have hzz:=Nat.eq_of_beq_eq_true hzz;subst hzz;split at h
  case isFalse=>cases h
  rename_i hlt;have hlt:=zad hlt;injection h with h;subst h
  obtain ⟨b,m,c,hγ,he,_⟩:=ec_sl (zaa hT hx);obtain ⟨e,inf,hu,hinf,hsz⟩:=Sx.slZ_spec hz;refine zab (x:=.pointer (some (b.at (off+k*z)))) ?_ (.ptr i _ b m hγ) hH;simp [execOp,ho,he,hix,Instr.indexAt,asIntOf,run_underlying hu,hlt,sizeOf,typeInfo,hinf,hsz,Pl.at_add]
 ·rename_i i off hx;split at h
  case h_2=>cases h
  rename_i len e hu;split at h
  case h_2=>cases h
  rename_i z hz;rw [bc_eq] at h;split at h
  case isFalse=>cases h
  rename_i hlt;have hlt:=zad hlt;injection h with h;subst h
  obtain ⟨b,m,hγ,he⟩:=zcc (zaa hT hx);obtain ⟨inf,hinf,hsz⟩:=zbf hz;refine zab (x:=.pointer (some (b.at (off+k*z)))) ?_ (.ptr i _ b m hγ) hH;simp [execOp,ho,he,hix,Instr.indexAt,Instr.sureAddr,asIntOf,run_underlying hu,hlt,sizeOf,typeInfo,hinf,hsz,Pl.at_add]
 ·cases h
end
section
open Go.RowKit
variable {P:Program} {γ:G} {w0:Bs} {w:World} {H H':Tr EK} {n n':Nat} {T:Tr EV} {tmps:Array Value} {o:Oper} {r:Option EV}
theorem HR.pass {w':World} (h:HR γ w0 H n w) (hn:Nat.ble n 65535=true) {i:Nat} {b:Pl} {m:Nat} {k0:EK} (hib:Nat.ble i 65535=true) (hi:H.get i=some k0) (hγ:γ i=some (b,m)) (g:Pl) (m':Nat) (k:EK)
  (hg:g.k=b.k∨g.k=w.heap.size) (hoth:∀ c,c<w.heap.size→c≠b.k→w'.heap[c]? = w.heap[c]?) (hsz:w.heap.size≤w'.heap.size) (hgl:g.k<w'.heap.size) (ho:w'.os=w.os) (ht:w'.tape=w.tape) (hout:w'.output=w.output)
  (hk:k.ok (γ.upd n (g,m')) g m' w') (hn0:¬ k0.Nil:=by exact id) (hnn:k.nestB=false:=by rfl):HR (γ.upd n (g,m')) w0 ((H.put i none).put n (some k)) (Nat.succ n) w':=by
 have hle:GLe γ (γ.upd n (g,m')):=G.upd_le (h.fresh n (Nat.le_refl _));obtain ⟨b2,m2,hb1,hb2,_⟩:=h.hp i k0 hi hn0;rw [hγ] at hb1;injection hb1 with hb1;injection hb1 with hb1 hb3;subst hb1
 have look:∀ j kj,((H.put i none).put n (some k)).get j=some kj→(j=n∧kj=k)∨(j≠n∧j≠i∧H.get j=some kj):=fun j kj hj=>by
  rw [Tr.get_put hn,Tr.get_put hib] at hj
  by_cases e:j=n
  ·rw [if_pos e] at hj;injection hj with hj;exact .inl ⟨e,hj.symm⟩
  ·rw [if_neg e] at hj
   by_cases e2:j=i
   ·rw [if_pos e2] at hj;cases hj
   ·rw [if_neg e2] at hj;exact .inr ⟨e,e2,hj⟩
 have hbl:=h.lt i _ hγ;have apart:∀ j kj bj,H.get j=some kj→¬ kj.Nil→j≠i→γ j=some bj→bj.1.k≠g.k:=fun j kj bj hj nj hne ej=>by
  rcases hg with hg|hg
  ·rw [hg];exact h.inj0 j i kj k0 hj hi nj hn0 hne bj _ ej hγ
  ·have:=h.lt j bj ej;omega
 refine ⟨fun j kj hj=>?_,fun j l kj kl hj hl nj nl hne bj bl ej el=>?_,fun j hj=>?_,fun j hj=>?_,fun j p e=>?_,?_,h.fzq rfl (fun c hc hn=>hoth c hc (hn i k0 b m hi hn0 hγ).symm) (fun j kj b4 m4 hj nj ej=>?_) fun j kj hj hb=>(look j kj hj).elim (fun ⟨_,e⟩=>by rw [e,hnn] at hb;cases hb) fun ⟨_,_,e⟩=>e⟩
 rotate_right
 ·rcases look j kj hj with ⟨rfl,rfl⟩|⟨e1,e2,hj⟩
  ·rw [G.upd_same] at ej;injection ej with ej;injection ej with e1 e2;subst e1
   rcases hg with hg|hg
   ·exact .inr ⟨i,k0,b,m,hi,hn0,hγ,hg.symm⟩
   ·exact .inl (Nat.le_of_eq hg.symm)
  ·rw [G.upd_ne e1] at ej;exact .inr ⟨j,kj,b4,m4,hj,nj,ej,rfl⟩
 ·rcases look j kj hj with ⟨rfl,rfl⟩|⟨e1,e2,hj⟩
  ·refine .inr ⟨g,m',G.upd_same,?_,hk⟩;rcases hg with hg|hg
   ·rw [hg];exact hb2
   ·exact h.notF (Nat.le_of_eq hg.symm)
  ·refine h.imp0 hj fun nj b3 m3 h1 h2 h3=>?_;exact ⟨b3,m3,hle _ _ h1,h2,EK.ok_mono hle (hoth b3.k (h.lt j _ h1) (h.inj0 j i kj k0 hj hi nj hn0 e2 _ _ h1 hγ)) h3⟩
 ·rcases look j kj hj with ⟨rfl,rfl⟩|⟨e1,e2,hj2⟩
  ·rcases look l kl hl with ⟨rfl,rfl⟩|⟨e3,e4,hl2⟩
   ·exact absurd rfl hne
   ·rw [G.upd_same] at ej;injection ej with ej;subst ej
    rw [G.upd_ne e3] at el;exact (apart l kl bl hl2 nl e4 el).symm
  ·rw [G.upd_ne e1] at ej;rcases look l kl hl with ⟨rfl,rfl⟩|⟨e3,e4,hl2⟩
   ·rw [G.upd_same] at el;injection el with el;subst el
    exact apart j kj bj hj2 nj e2 ej
   ·rw [G.upd_ne e3] at el;exact h.inj0 j l kj kl hj2 hl2 nj nl hne bj bl ej el
 ·rw [G.upd_ne (by omega)];exact h.fresh j (by omega)
 ·obtain ⟨r1,r2⟩:=h.rsv j hj;exact ⟨by rw [G.upd_ne (by omega)];exact r1,by omega⟩
 ·by_cases e2:j=n
  ·rw [e2,G.upd_same] at e;injection e with e;subst e;exact hgl
  ·rw [G.upd_ne e2] at e;have:=h.lt j p e;omega
 ·refine ⟨ho.trans h.stays.os,ht.trans h.stays.tape,hout.trans h.stays.output,by have:=h.stays.size;omega,fun c hc=>?_⟩;have:=h.stays.size;have:=w0.lt c hc;rw [hoth c (by omega) (fun e=>hb2 (e ▸ hc))];exact h.stays.block c hc
theorem HR.lay {w':World} (h:HR γ w0 H n w) (hn:Nat.ble n 65535=true) (m':Nat) (k:EK)
  (hoth:∀ c,c<w.heap.size→w'.heap[c]? = w.heap[c]?) (hgl:w.heap.size<w'.heap.size) (ho:w'.os=w.os) (ht:w'.tape=w.tape) (hout:w'.output=w.output)
  (hk:k.ok (γ.upd n (⟨w.heap.size,0⟩,m')) ⟨w.heap.size,0⟩ m' w') (hnn:k.nestB=false:=by rfl):HR (γ.upd n (⟨w.heap.size,0⟩,m')) w0 (H.put n (some k)) (Nat.succ n) w':=by
 have hle:GLe γ (γ.upd n (⟨w.heap.size,0⟩,m')):=G.upd_le (h.fresh n (Nat.le_refl _));have look:∀ j kj,(H.put n (some k)).get j=some kj→(j=n∧kj=k)∨(j≠n∧H.get j=some kj):=fun j kj hj=>by
  rw [Tr.get_put hn] at hj
  by_cases e:j=n
  ·rw [if_pos e] at hj;injection hj with hj;exact .inl ⟨e,hj.symm⟩
  ·rw [if_neg e] at hj;exact .inr ⟨e,hj⟩
 refine ⟨fun j kj hj=>?_,fun j l kj kl hj hl nj nl hne bj bl ej el=>?_,fun j hj=>?_,fun j hj=>?_,fun j p e=>?_,?_,h.fzq rfl (fun c hc _=>hoth c hc) (fun j kj b4 m4 hj nj ej=>?_) fun j kj hj hb=>(look j kj hj).elim (fun ⟨_,e⟩=>by rw [e,hnn] at hb;cases hb) fun ⟨_,e⟩=>e⟩
 rotate_right
 ·rcases look j kj hj with ⟨rfl,rfl⟩|⟨e1,hj⟩
  ·rw [G.upd_same] at ej;injection ej with ej;injection ej with e1 e2;subst e1;exact .inl (Nat.le_refl _)
  ·rw [G.upd_ne e1] at ej;exact .inr ⟨j,kj,b4,m4,hj,nj,ej,rfl⟩
 ·rcases look j kj hj with ⟨rfl,rfl⟩|⟨e1,hj⟩
  ·exact .inr ⟨_,m',G.upd_same,h.notF (Nat.le_refl _),hk⟩
  ·refine (h.hp0 j kj hj).imp id fun ⟨b3,m3,h1,h2,h3⟩=>?_;exact ⟨b3,m3,hle _ _ h1,h2,EK.ok_mono hle (hoth b3.k (h.lt j _ h1)) h3⟩
 ·rcases look j kj hj with ⟨rfl,rfl⟩|⟨e1,hj2⟩
  ·rcases look l kl hl with ⟨rfl,rfl⟩|⟨e3,hl2⟩
   ·exact absurd rfl hne
   ·rw [G.upd_same] at ej;injection ej with ej;subst ej
    rw [G.upd_ne e3] at el;have:=h.lt l bl el;show w.heap.size≠bl.1.k;omega
  ·rw [G.upd_ne e1] at ej;rcases look l kl hl with ⟨rfl,rfl⟩|⟨e3,hl2⟩
   ·rw [G.upd_same] at el;injection el with el;subst el
    have:=h.lt j bj ej;show bj.1.k≠w.heap.size;omega
   ·rw [G.upd_ne e3] at el;exact h.inj0 j l kj kl hj2 hl2 nj nl hne bj bl ej el
 ·rw [G.upd_ne (by omega)];exact h.fresh j (by omega)
 ·obtain ⟨r1,r2⟩:=h.rsv j hj;exact ⟨by rw [G.upd_ne (by omega)];exact r1,by omega⟩
 ·by_cases e2:j=n
  ·rw [e2,G.upd_same] at e;injection e with e;subst e;exact hgl
  ·rw [G.upd_ne e2] at e;have:=h.lt j p e;omega
 ·refine ⟨ho.trans h.stays.os,ht.trans h.stays.tape,hout.trans h.stays.output,by have:=h.stays.size;omega,fun c hc=>?_⟩;have:=h.stays.size;have:=w0.lt c hc;rw [hoth c (by omega)];exact h.stays.block c hc
def newsOf (H:Tr EK) (z:Nat) (x:EV):Option (Nat×List EV):=match x with
 | .sl j z' off m _=>bc (Nat.beq z z') (match cellsAt H j with
  | some (_,cs,_)=>bc (Nat.ble (Nat.add off (Nat.mul m z)) (llen cs)) (some (m,(cs.drop off).take (Nat.mul m z))) none
  | none=>none) none
 | _=>none
theorem zc2 (hH:HR γ w0 H n w) {z m:Nat} {x:EV} {cs:List EV} {y:Value} (hc:EC γ x y) (h:newsOf H z x=some (m,cs)) :
  ∃ a c vs,y = .slice (some a) m c∧ECL γ cs vs∧vs.length=m*z∧∀ j u,vs[j]? = some u→w.cell? (a.add j)=some u:=by
 unfold newsOf at h;split at h
 case h_2=>cases h
 rename_i j z' off m' cap;rw [bc_eq] at h;split at h
 case isFalse=>cases h
 rename_i hz;have hz:=Nat.eq_of_beq_eq_true hz;subst hz;split at h
 case h_2=>cases h
 rename_i ty cs' full hcs;rw [bc_eq] at h;split at h
 case isFalse=>cases h
 rename_i hle;have hle:=Nat.le_of_ble_eq_true hle;rw [zac] at hle;simp only [Option.some.injEq,Prod.mk.injEq] at h;obtain ⟨rfl,rfl⟩:=h;have hle:off+m'*z≤cs'.length:=hle;obtain ⟨b,mm,c,hγ,he,_⟩:=ec_sl hc;obtain ⟨⟨k0,hg,hkn⟩,b2,m2,ca,hγ2,hb,hsz,hl2,hfull,hcl⟩:=za7 hH hcs;rw [hγ] at hγ2;simp only [Option.some.injEq,Prod.mk.injEq] at hγ2;obtain ⟨rfl,rfl⟩:=hγ2;refine ⟨b.at off,c,(((ca.toList.drop b.s).take cs'.length).drop off).take (m'*z),he,(hcl.drop off).take _,by simp;omega,fun q u hu=>?_⟩
 rw [Pl.at_add,(zae hb).1,← Array.getElem?_toList];rw [List.getElem?_take] at hu;split at hu
 ·rw [List.getElem?_drop,List.getElem?_take] at hu;split at hu
  ·rw [List.getElem?_drop] at hu;exact hu
  ·cases hu
 ·cases hu
def elemOf (P:Program) (t:TypeId):Option TypeId:=match P.underlying t with
 | some (.slice e)=>some e
 | _=>none
theorem zcj {t e:TypeId} (h:elemOf P t=some e):P.underlying t=some (.slice e):=by
 unfold elemOf at h;split at h
 ·rename_i e' hu;injection h with h;subst h;exact hu
 ·cases h
structure EI where
 e:TypeId
 z:Nat
def elemInfo (P:Program) (t:TypeId):Option EI:=match elemOf P t with
 | some e=>match P.info? e with
  | some inf=>match inf.zero with
   | some zv=>bc (Nat.beq zv.cells.size inf.size) (bc (Nat.blt 0 inf.size) (bc (Nat.ble inf.bytes 65536) (some ⟨e,inf.size⟩) none) none) none
   | none=>none
  | none=>none
 | none=>none
theorem zaj {t:TypeId} {i:EI} (h:elemInfo P t=some i):P.underlying t=some (.slice i.e)∧∃ inf zv,P.info? i.e=some inf∧inf.zero=some zv∧inf.size=i.z∧zv.cells.size=i.z∧0<i.z∧inf.bytes≤65536:=by
 unfold elemInfo at h;split at h
 case h_2=>cases h
 rename_i e he;split at h
 case h_2=>cases h
 rename_i inf hi;split at h
 case h_2=>cases h
 rename_i zv hz;rw [bc_eq,bc_eq,bc_eq] at h;split at h
 case isFalse=>cases h
 rename_i h1;split at h
 case isFalse=>cases h
 rename_i h2;split at h
 case isFalse=>cases h
 rename_i h3;injection h with h;subst h
 exact ⟨zcj he,inf,zv,hi,hz,rfl,Nat.eq_of_beq_eq_true h1,zad h2,Nat.le_of_ble_eq_true h3⟩
def exGrow (i:Option Nat) (e:TypeId) (z len m:Nat) (old news:List EV) (H:Tr EK) (n:Nat):Option ER:=
 bc (Nat.ble n 65535) (bc (allOne news) (bc (Nat.ble (Nat.add len m) 65536)
  (some ⟨some (.sl n z 0 (Nat.add len m) none),(match i with
   | some i=>(H.put i none)
   | none=>H).put n (some (.cells e (old++news) false)),Nat.succ n⟩) none) none) none
def exAppendN (ei:EI) (s:EV) (m:Nat) (news:List EV) (H:Tr EK) (n:Nat):Option ER:=match s with
 | .v (.slice none len cap)=>bc (Nat.beq len 0) (bc (Nat.beq cap 0) (bc (Nat.blt 0 m) (exGrow none ei.e ei.z 0 m [] news H n) (some ⟨some s,H,n⟩)) none) none
 | .sl i z off len none=>bc (Nat.beq z ei.z) (match cellsAt H i with
  | some (ty,cs,_)=>bc (Nat.beq ty ei.e) (bc (Nat.ble (Nat.add off (Nat.mul len z)) (llen cs)) (bc (Nat.ble i 65535) (exGrow (some i) ei.e ei.z len m ((cs.drop off).take (Nat.mul len z)) news H n) none) none) none
  | none=>none) none
 | .slE i z off=>bc (Nat.beq z ei.z) (match cellsAt H i with
  | some (ty,cs,_)=>bc (Nat.beq ty ei.e) (bc (Nat.ble off (llen cs)) (bc (Nat.ble i 65535) (bc (Nat.blt 0 m) (exGrow (some i) ei.e ei.z 0 m [] news H n) none) none) none) none
  | none=>none) none
 | .sl i z off len (some c)=>bc (Nat.beq z ei.z) (bc (Nat.ble (Nat.add len m) c)
   (match exPut i (Nat.add off (Nat.mul len z)) news H with
    | some H'=>some ⟨some (.sl i z off (Nat.add len m) (some c)),H',n⟩
    | none=>none)
   (match cellsAt H i with
    | some (_,cs,_)=>bc (Nat.ble (Nat.add off (Nat.mul len z)) (llen cs)) (exGrow none ei.e ei.z len m ((cs.drop off).take (Nat.mul len z)) news H n) none
    | none=>none)) none
 | _=>none
def exAppend (P:Program) (t:TypeId) (s x:EV) (H:Tr EK) (n:Nat):Option ER:=match elemInfo P t with
 | some ei=>match newsOf H ei.z x with
  | some (m,news)=>exAppendN ei s m news H n
  | none=>none
 | none=>none
theorem zdj {i:Option Nat} {e:TypeId} {z len m:Nat} {old news:List EV} {er:ER} (h:exGrow i e z len m old news H n=some er) :
  Nat.ble n 65535=true∧news.all EV.one=true∧len+m≤65536∧er=⟨some (.sl n z 0 (len+m) none),(match i with
   | some i=>(H.put i none)
   | none=>H).put n (some (.cells e (old++news) false)),Nat.succ n⟩:=by
 unfold exGrow at h;rw [bc_eq,bc_eq,bc_eq] at h;split at h
 case isFalse=>cases h
 rename_i h1;split at h
 case isFalse=>cases h
 rename_i h2;split at h
 case isFalse=>cases h
 rename_i h3;injection h with h
 exact ⟨h1,by rw [← zbb];exact h2,Nat.le_of_ble_eq_true h3,h.symm⟩
theorem zwq {w':World} {base e z k:Nat} {v:Value} {xs:List Value} {cs:List EV} (hown:w'.ownsRow base e z v k xs) (hk:0<k) (hc:ECL γ cs xs) :
  ∃ g cap,v = .slice (some ⟨g,0,none⟩) k cap∧g<w'.heap.size∧k≤cap∧cap≤maxLen∧(EK.cells e cs false).ok γ ⟨g,0⟩ (cap*z) w':=by
 rcases hown.2 with ⟨_,h0⟩|⟨g,cap,cur,hv,_,hb,h1,h2,h3,h4⟩
 ·omega
 ·have hl:=hc.1;refine ⟨g,cap,hv,(Array.getElem?_eq_some_iff.1 hb).1,h1,h2,cur,.of hb,h3.trans (Nat.zero_add _).symm,?_,(fun e=>by cases e),?_⟩
  ·rw [hl,hown.1];exact Nat.mul_le_mul_right _ h1
  ·show ECL γ cs ((cur.toList.drop 0).take cs.length);rw [List.drop_zero,hl,hown.1,h4];exact hc
theorem zqc {i z off:Nat} {y:Value} (h:EC γ (.slE i z off) y):∃ (b:Pl) (m c off':Nat),γ i=some (b,m)∧y = .slice (some (b.at off')) 0 c∧c≤maxLen∧(0<c→off'=off∧off+c*z=m):=by
 cases h with|slE _ _ _ b m c off' h hm hn=>exact ⟨b,m,c,off',h,rfl,hm,hn⟩
theorem zbd (hT:TOk γ T tmps) (hH:HR γ w0 H n w) {t ty:TypeId} {ei:EI} (hei:elemInfo P t=some ei) {s:EV} {vs:Value} {er:ER} (hs:EC γ s vs) {m:Nat} {news:List EV} {a:Addr} {c:Nat} {ns:List Value} (hcn:ECL γ news ns) (hnl:ns.length=m*ei.z) (hnc:∀ j u,ns[j]? = some u→w.cell? (a.add j)=some u) (h:exAppendN ei s m news H n=some er) :
  ∃ γ' w' v',GLe γ γ'∧HR γ' w0 er.H er.n w'∧(Builtin.append_ #[t,t] ty #[vs,.slice (some a) m c]).run P w = .ok v' w'∧∃ a,er.val=some a∧EC γ' a v':=by
 obtain ⟨hu,inf,zv,hi,hz,hsz,hzs,hpos,hby⟩:=zaj hei;unfold exAppendN at h;split at h
 ·-- a nil slice
  rename_i len cap;rw [bc_eq,bc_eq,bc_eq] at h;split at h
  case isFalse=>cases h
  rename_i h1;split at h
  case isFalse=>cases h
  rename_i h2;have h1:=Nat.eq_of_beq_eq_true h1;have h2:=Nat.eq_of_beq_eq_true h2;subst h1;subst h2;have hvs:=ec_v hs;subst hvs;split at h
  ·rename_i hm;have hm:=zad hm;obtain ⟨hnb,hone,hle,rfl⟩:=zdj h;obtain ⟨v',w',hr,hown,hgb,_,hob⟩:=run_append_own_at (P:=P) (w:=w) 0 t ty ei.e inf zv ei.z inf.bytes hu hi hz hsz rfl hzs hpos (.slice none 0 0) 0 [] ⟨by simp,.inl ⟨rfl,rfl⟩⟩ a m c ns hnl hnc (hcn.ones hone)
    (by unfold maxLen;omega) (by have:=Nat.mul_le_mul hle hby;omega) (Nat.zero_le _)
   rw [List.nil_append] at hown;obtain ⟨g,cap',hv,hgl,hkc,hcm,hok⟩:=zwq (γ:=γ) hown (by omega) hcn;subst hv;have hg:g=w.heap.size:=by
    rcases hob with h3|h3
    ·simp [Value.ownBlock] at h3
    ·simp [Value.ownBlock] at h3;exact h3
   subst hg;have hle2:=G.upd_le (p:=(⟨w.heap.size,0⟩,cap'*ei.z)) (hH.fresh n (Nat.le_refl _));refine ⟨γ.upd n (⟨w.heap.size,0⟩,cap'*ei.z),w',_,hle2,?_,hr,_,rfl,.sl n ei.z 0 _ none ⟨w.heap.size,0⟩ _ cap' G.upd_same hkc hcm (by omega) (fun k e=>by cases e) (fun _=>by omega)⟩;exact hH.lay hnb _ _ (fun k hk=>hgb.block k hk (by simp [Value.ownBlock])) hgl hgb.os hgb.tape hgb.output (EK.ok_mono hle2 rfl hok)
  ·rename_i hm;have hm:¬ 0<m:=fun h3=>hm (by unfold Nat.blt;exact Nat.ble_eq_true_of_le h3);injection h with h;subst h
   have hm0:m=0:=by omega
   subst hm0;have hns:ns=[]:=by apply List.eq_nil_of_length_eq_zero;omega
   subst hns;refine ⟨γ,w,.slice none 0 0,GLe.refl γ,hH,?_,_,rfl,.v _⟩;have hf:=run_firstCells_some (P:=P) w inf.size 0 a 0 c [] (by simp) (by simp);simp [Builtin.append_,run_underlying hu,sizeOf,typeInfo,hi,Builtin.lenOf,hf]
 ·-- a row of the call's own,its room not known
  rename_i i z off len;rw [bc_eq] at h;split at h
  case isFalse=>cases h
  rename_i h1;have h1:=Nat.eq_of_beq_eq_true h1;subst h1;split at h
  case h_2=>cases h
  rename_i ty2 cs full hcs;rw [bc_eq,bc_eq,bc_eq] at h;split at h
  case isFalse=>cases h
  rename_i h3;split at h
  case isFalse=>cases h
  rename_i h4;split at h
  case isFalse=>cases h
  rename_i h5;have h3:=Nat.eq_of_beq_eq_true h3;subst h3;have h4:=Nat.le_of_ble_eq_true h4;rw [zac] at h4;have h4:off+len*ei.z≤cs.length:=h4;obtain ⟨hnb,hone,hle,rfl⟩:=zdj h;obtain ⟨b,k,cp,hγ,rfl,hlc,hcm,hcn2,_,hcu⟩:=ec_sl hs;obtain ⟨⟨k0,hg,hkn⟩,b2,m2,ca,hγ2,hb,hsz2,hl2,hfull,hcl⟩:=za7 hH hcs;rw [hγ] at hγ2;simp only [Option.some.injEq,Prod.mk.injEq] at hγ2;obtain ⟨rfl,rfl⟩:=hγ2;have hcu:off+cp*ei.z=k∨cp=0:=hcu rfl;have hold:=(hcl.drop off).take (len*ei.z)
  have hol:((((ca.toList.drop b.s).take cs.length).drop off).take (len*ei.z)).length=len*ei.z:=by simp;omega
  by_cases hfit:len+m≤cp
  ·-- in place
   have hmz:=Nat.mul_le_mul_right ei.z hfit;rw [Nat.add_mul] at hmz;have hr:=run_append_room_cells (P:=P) w t ty ei.e inf hu hi b.k (b.s+off) len cp a m c ns (by rw [hsz];exact hnl) hnc (hcn.ones hone) hfit (fun j hj=>by
     have:=(zae (off:=off+len*ei.z+j) hb).1;rw [show (⟨b.k,b.s+off+len*inf.size+j,none⟩:Addr)=b.at (off+len*ei.z+j) by unfold Pl.at;rw [hsz];congr 1;omega,this,Array.getElem?_eq_getElem (by omega)];rfl) (fun j hj=>by
     rw [show (⟨b.k,b.s+off+len*inf.size+j,none⟩:Addr)=b.at (off+len*ei.z+j) by unfold Pl.at;rw [hsz];congr 1;omega];exact (zae hb).2 (by omega))
   rw [hsz] at hr;obtain ⟨r1,r2,r3,r4⟩:=Sx.setCells_rest b.k ns (b.s+off+len*ei.z) w;have hle2:=G.upd_le (p:=((⟨b.k,b.s+off⟩:Pl),k-off)) (hH.fresh n (Nat.le_refl _));have hlen:(((cs.drop off).take (Nat.mul len ei.z))++news).length=len*ei.z+m*ei.z:=by
    have e1:=hold.1;have e2:=hcn.1;rw [List.length_append,show (cs.drop off).take (Nat.mul len ei.z)=(cs.drop off).take (len*ei.z) from rfl,e1,hol,e2,hnl]
   refine ⟨γ.upd n (⟨b.k,b.s+off⟩,k-off),_,_,hle2,?_,hr,_,rfl,.sl n ei.z 0 _ none ⟨b.k,b.s+off⟩ _ cp G.upd_same hfit hcm (by omega) (fun k e=>by cases e) (fun _=>by omega)⟩;refine hH.pass (hn0:=hkn) hnb h5 hg hγ ⟨b.k,b.s+off⟩ _ _ (.inl rfl) (fun q _ hne=>Sx.setCells_heap b.k ns (b.s+off+len*ei.z) w q hne) (by rw [r1];exact Nat.le_refl _) (by rw [r1];exact hb.lt) r2 r3 r4
    ⟨putArr ca (b.s+off+len*ei.z) ns,hb.set (b.s+off+len*ei.z) ns,by rw [zap,hsz2];show b.s+k=b.s+off+(k-off);omega,by rw [hlen];omega,(fun e=>by cases e),?_⟩
   have e9:((putArr ca (b.s+off+len*ei.z) ns).toList.drop (b.s+off)).take (((cs.drop off).take (Nat.mul len ei.z))++news).length=(((ca.toList.drop b.s).take cs.length).drop off).take (len*ei.z)++ns:=by
    rw [hlen];apply List.ext_getElem?;intro j;rw [List.getElem?_take,List.getElem?_drop,Array.getElem?_toList,zay _ _ _ _ (by omega)]
    by_cases hj:j<len*ei.z
    ·rw [if_pos (by omega),if_neg (by omega),List.getElem?_append_left (by rw [hol];exact hj),List.getElem?_take,if_pos hj,List.getElem?_drop,List.getElem?_take,if_pos (by omega),List.getElem?_drop,Array.getElem?_toList];congr 1;omega
    ·rw [List.getElem?_append_right (by rw [hol];omega),hol]
     by_cases hj2:j<len*ei.z+m*ei.z
     ·rw [if_pos hj2,if_pos (by omega)];congr 1;omega
     ·rw [if_neg hj2,List.getElem?_eq_none (by omega)]
   show ECL _ _ (((putArr ca (b.s+off+len*ei.z) ns).toList.drop (b.s+off)).take _);rw [e9];exact (hold.append hcn).mono hle2
  ·-- it grows
   have h2:cp<len+m:=by omega
   have hH1:HR γ w0 (H.put i none) n w:=hH.congr fun q kq hq=>by
    rw [Tr.get_put h5] at hq;split at hq
    ·cases hq
    ·exact hq
   have hr:=run_append_grow (P:=P) (w:=w) t ty ei.e inf zv hu hi hz (b.at off) len cp ((((ca.toList.drop b.s).take cs.length).drop off).take (len*ei.z)) (by rw [hol,hsz]) (fun q u hq=>by
    rw [Pl.at_add,(zae hb).1,← Array.getElem?_toList];rw [List.getElem?_take] at hq;split at hq
    ·rw [List.getElem?_drop,List.getElem?_take] at hq;split at hq
     ·rw [List.getElem?_drop] at hq;exact hq
     ·cases hq
    ·cases hq) a m c ns (by rw [hsz];exact hnl) hnc h2 (by omega) (by
     have:=nextslicecap_le h2;have:=Nat.mul_le_mul (Nat.le_trans this (Nat.mul_le_mul_left 2 hle)) hby;omega)
   have hcap:len+m≤grownCap w (len+m) cp ei.e∧grownCap w (len+m) cp ei.e≤maxLen:=by
    unfold grownCap Question.cut maxLen;have:=Nat.mod_lt (w.tape w.drawn (.appendCap (len+m) cp ei.e)) (show 0<2 ^ 63-(len+m) by omega);simp only;omega
   have hle2:=G.upd_le (p:=(⟨w.heap.size,0⟩,grownCap w (len+m) cp ei.e*ei.z)) (hH.fresh n (Nat.le_refl _));refine ⟨γ.upd n (⟨w.heap.size,0⟩,grownCap w (len+m) cp ei.e*ei.z),_,_,hle2,?_,hr,_,rfl,.sl n ei.z 0 _ none ⟨w.heap.size,0⟩ _ _ G.upd_same hcap.1 hcap.2 (by omega) (fun k e=>by cases e) (fun _=>by omega)⟩;have hal:=hold.append hcn;refine hH1.lay hnb _ _ (fun q hq=>?_) (by show _<(w.heap.push _).size;simp) rfl rfl rfl ⟨_,.of (by show (w.heap.push _)[_]? = _;simp;rfl),?_,?_,(fun e=>by cases e),?_⟩
   ·show (w.heap.push _)[q]? = _;rw [Array.getElem?_push_lt hq];simp [hq]
   ·show _=0+_;rw [Nat.zero_add];simp only [Array.size_append,List.size_toArray,size_zeroCells,hzs,List.length_append,hol,hnl];rw [← Nat.add_mul,← Nat.add_mul];congr 1;omega
   ·have e1:=hal.1;rw [List.length_append (as:=(((ca.toList.drop b.s).take cs.length).drop off).take (len*ei.z)),hol,hnl,← Nat.add_mul] at e1;exact Nat.le_trans (Nat.le_of_eq e1) (Nat.mul_le_mul_right _ hcap.1)
   ·refine ECL.mono hle2 ?_;have e1:=hal.1;have:((((((ca.toList.drop b.s).take cs.length).drop off).take (len*ei.z)++ns).toArray++Builtin.zeroCells zv.cells (grownCap w (len+m) cp ei.e-(len+m))).toList.take ((cs.drop off).take (len*ei.z)++news).length)=(((ca.toList.drop b.s).take cs.length).drop off).take (len*ei.z)++ns:=by
     rw [e1,Array.toList_append];exact List.take_left' rfl
    show ECL _ _ (List.take _ (List.drop 0 _));rw [List.drop_zero,show (cs.drop off).take (Nat.mul len ei.z)=(cs.drop off).take (len*ei.z) from rfl,this]
    exact hal
 ·-- a row of no elements,its room and its place not known
  rename_i i z off;rw [bc_eq] at h;split at h
  case isFalse=>cases h
  rename_i h1;have h1:=Nat.eq_of_beq_eq_true h1;subst h1;split at h
  case h_2=>cases h
  rename_i ty2 cs full hcs;rw [bc_eq,bc_eq,bc_eq,bc_eq] at h;split at h
  case isFalse=>cases h
  rename_i h3;split at h
  case isFalse=>cases h
  rename_i h4;split at h
  case isFalse=>cases h
  rename_i h5;split at h
  case isFalse=>cases h
  rename_i hmp;have hmp:=zad hmp;have h3:=Nat.eq_of_beq_eq_true h3;subst h3;have h4:=Nat.le_of_ble_eq_true h4;rw [zac] at h4;obtain ⟨hnb,hone,hle,rfl⟩:=zdj h;obtain ⟨b,k,cp,off',hγ,rfl,hcm,hcu⟩:=zqc hs;obtain ⟨⟨k0,hg,hkn⟩,b2,m2,ca,hγ2,hb,hsz2,hl2,hfull,hcl⟩:=za7 hH hcs;rw [hγ] at hγ2;simp only [Option.some.injEq,Prod.mk.injEq] at hγ2;obtain ⟨rfl,rfl⟩:=hγ2
  by_cases hfit:0+m≤cp
  ·-- in place
   obtain ⟨rfl,hcu⟩:=hcu (by omega);have hold:ECL γ ([]:List EV) ((((ca.toList.drop b.s).take cs.length).drop off').take (0*ei.z)):=by rw [Nat.zero_mul];exact ECL.nil γ
   have hol:((((ca.toList.drop b.s).take cs.length).drop off').take (0*ei.z)).length=0*ei.z:=by simp
   have h4:off'+0*ei.z≤cs.length:=by omega
   have hmz:=Nat.mul_le_mul_right ei.z hfit;rw [Nat.add_mul] at hmz;have hr:=run_append_room_cells (P:=P) w t ty ei.e inf hu hi b.k (b.s+off') 0 cp a m c ns (by rw [hsz];exact hnl) hnc (hcn.ones hone) hfit (fun j hj=>by
     have:=(zae (off:=off'+0*ei.z+j) hb).1;rw [show (⟨b.k,b.s+off'+0*inf.size+j,none⟩:Addr)=b.at (off'+0*ei.z+j) by unfold Pl.at;rw [hsz];congr 1;omega,this,Array.getElem?_eq_getElem (by omega)];rfl) (fun j hj=>by
     rw [show (⟨b.k,b.s+off'+0*inf.size+j,none⟩:Addr)=b.at (off'+0*ei.z+j) by unfold Pl.at;rw [hsz];congr 1;omega];exact (zae hb).2 (by omega))
   rw [hsz] at hr;obtain ⟨r1,r2,r3,r4⟩:=Sx.setCells_rest b.k ns (b.s+off'+0*ei.z) w;have hle2:=G.upd_le (p:=((⟨b.k,b.s+off'⟩:Pl),cp*ei.z)) (hH.fresh n (Nat.le_refl _));have hlen:(([]:List EV)++news).length=0*ei.z+m*ei.z:=by
    have e2:=hcn.1;rw [List.length_append,List.length_nil,e2,hnl];omega
   refine ⟨γ.upd n (⟨b.k,b.s+off'⟩,cp*ei.z),_,_,hle2,?_,hr,_,rfl,.sl n ei.z 0 _ none ⟨b.k,b.s+off'⟩ _ cp G.upd_same hfit hcm (by omega) (fun k e=>by cases e) (fun _=>by omega)⟩;refine hH.pass (hn0:=hkn) hnb h5 hg hγ ⟨b.k,b.s+off'⟩ _ _ (.inl rfl) (fun q _ hne=>Sx.setCells_heap b.k ns (b.s+off'+0*ei.z) w q hne) (by rw [r1];exact Nat.le_refl _) (by rw [r1];exact hb.lt) r2 r3 r4
    ⟨putArr ca (b.s+off'+0*ei.z) ns,hb.set (b.s+off'+0*ei.z) ns,by rw [zap,hsz2];show b.s+k=b.s+off'+cp*ei.z;omega,by rw [hlen];exact hmz,(fun e=>by cases e),?_⟩
   have e9:((putArr ca (b.s+off'+0*ei.z) ns).toList.drop (b.s+off')).take (([]:List EV)++news).length=(((ca.toList.drop b.s).take cs.length).drop off').take (0*ei.z)++ns:=by
    rw [hlen];apply List.ext_getElem?;intro j;rw [List.getElem?_take,List.getElem?_drop,Array.getElem?_toList,zay _ _ _ _ (by omega)]
    by_cases hj:j<0*ei.z
    ·rw [if_pos (by omega),if_neg (by omega),List.getElem?_append_left (by rw [hol];exact hj),List.getElem?_take,if_pos hj,List.getElem?_drop,List.getElem?_take,if_pos (by omega),List.getElem?_drop,Array.getElem?_toList];congr 1;omega
    ·rw [List.getElem?_append_right (by rw [hol];omega),hol]
     by_cases hj2:j<0*ei.z+m*ei.z
     ·rw [if_pos hj2,if_pos (by omega)];congr 1;omega
     ·rw [if_neg hj2,List.getElem?_eq_none (by omega)]
   show ECL _ _ (((putArr ca (b.s+off'+0*ei.z) ns).toList.drop (b.s+off')).take _);rw [e9];exact (hold.append hcn).mono hle2
  ·-- it grows
   have h2:cp<0+m:=by omega
   have hH1:HR γ w0 (H.put i none) n w:=hH.congr fun q kq hq=>by
    rw [Tr.get_put h5] at hq;split at hq
    ·cases hq
    ·exact hq
   have hr:=run_append_grow (P:=P) (w:=w) t ty ei.e inf zv hu hi hz (b.at off') 0 cp [] (by simp) (fun q u hq=>by simp at hq) a m c ns (by rw [hsz];exact hnl) hnc h2 (by omega) (by
     have:=nextslicecap_le h2;have:=Nat.mul_le_mul (Nat.le_trans this (Nat.mul_le_mul_left 2 hle)) hby;omega)
   have hcap:0+m≤grownCap w (0+m) cp ei.e∧grownCap w (0+m) cp ei.e≤maxLen:=by
    unfold grownCap Question.cut maxLen;have:=Nat.mod_lt (w.tape w.drawn (.appendCap (0+m) cp ei.e)) (show 0<2 ^ 63-(0+m) by omega);simp only;omega
   generalize grownCap w (0+m) cp ei.e=gc at hr hcap;have hle2:=G.upd_le (p:=(⟨w.heap.size,0⟩,gc*ei.z)) (hH.fresh n (Nat.le_refl _));refine ⟨γ.upd n (⟨w.heap.size,0⟩,gc*ei.z),_,_,hle2,?_,hr,_,rfl,.sl n ei.z 0 _ none ⟨w.heap.size,0⟩ _ _ G.upd_same hcap.1 hcap.2 (by omega) (fun k e=>by cases e) (fun _=>by omega)⟩;have hnn:=hcn.1
   refine hH1.lay hnb _ _ (fun q hq=>?_) (by show _<(w.heap.push _).size;simp) rfl rfl rfl ⟨(([]:List Value).toArray++ns.toArray++Builtin.zeroCells zv.cells (gc-(0+m))),.of (by show (w.heap.push _)[_]? = _;simp),?_,?_,(fun e=>by cases e),?_⟩
   ·show (w.heap.push _)[q]? = _;rw [Array.getElem?_push_lt hq];simp [hq]
   ·show _=0+_;rw [Nat.zero_add];simp only [Array.size_append,List.size_toArray,size_zeroCells,hzs,List.length_nil,hnl];have h7:=hcap.1;have e:m*ei.z+(gc-(0+m))*ei.z=gc*ei.z:=by
     rw [← Nat.add_mul,show m+(gc-(0+m))=gc by omega]
    rw [Nat.zero_add m] at e;simp only [Nat.zero_add] at *;omega
   ·rw [List.nil_append,hnn,hnl];exact Nat.mul_le_mul_right _ (by omega)
   ·refine ECL.mono hle2 ?_;show ECL _ _ (List.take _ (List.drop 0 _));have:(([]:List Value).toArray++ns.toArray++Builtin.zeroCells zv.cells (gc-(0+m))).toList.take (([]:List EV)++news).length=ns:=by
     rw [List.nil_append,hnn,Array.toList_append,Array.toList_append,List.toList_toArray,List.toList_toArray,List.nil_append];exact List.take_left' rfl
    rw [List.drop_zero,this];exact hcn
 ·-- a slice whose room is known
  rename_i i z off len cp;rw [bc_eq,bc_eq] at h;split at h
  case isFalse=>cases h
  rename_i h1;have h1:=Nat.eq_of_beq_eq_true h1;subst h1;obtain ⟨b,k,c',hγ,rfl,hlc,hcm,hcn2,hck,_⟩:=ec_sl hs;have hck:=hck _ rfl;subst hck;split at h
  ·rename_i h2;have h2:len+m≤c':=Nat.le_of_ble_eq_true h2;split at h
   case h_2=>cases h
   rename_i H2 hp;injection h with h;subst h
   obtain ⟨g1,g2⟩:=zd7 (P:=P) hH hcn hp hγ;have hf:=run_firstCells_some (P:=P) w ei.z m a m c ns hnl hnc;refine ⟨γ,_,.slice (some (b.at off)) (len+m) c',GLe.refl γ,g1,?_,_,rfl,.sl i ei.z off _ _ b k c' hγ h2 hcm hcn2 (fun k e=>by injection e) (fun e=>by cases e)⟩;have g2:(storeCells (b.at (off+len*ei.z)) ns 0).run P w = .ok () (w.setCells b.k (b.s+(off+len*ei.z)) ns):=g2;simp [Builtin.append_,run_underlying hu,sizeOf,typeInfo,hi,Builtin.lenOf,h2,hf,Pl.at_add,hsz,g2]
  ·rename_i h2;have h2:c'<len+m:=by
    rcases Nat.lt_or_ge c' (len+m) with h3|h3
    ·exact h3
    ·exact absurd (Nat.ble_eq_true_of_le (show Nat.add len m≤c' from h3)) h2
   split at h
   case h_2=>cases h
   rename_i ty2 cs full hcs;rw [bc_eq] at h;split at h
   case isFalse=>cases h
   rename_i h4;have h4:=Nat.le_of_ble_eq_true h4;rw [zac] at h4;have h4:off+len*ei.z≤cs.length:=h4;obtain ⟨hnb,hone,hle,rfl⟩:=zdj h;obtain ⟨⟨k0,hg,hkn⟩,b2,m2,ca,hγ2,hb,hsz2,hl2,hfull,hcl⟩:=za7 hH hcs;rw [hγ] at hγ2;simp only [Option.some.injEq,Prod.mk.injEq] at hγ2;obtain ⟨rfl,rfl⟩:=hγ2;have hold:=(hcl.drop off).take (len*ei.z);have hol:((((ca.toList.drop b.s).take cs.length).drop off).take (len*ei.z)).length=len*ei.z:=by simp;omega
   have hr:=run_append_grow (P:=P) (w:=w) t ty ei.e inf zv hu hi hz (b.at off) len c' ((((ca.toList.drop b.s).take cs.length).drop off).take (len*ei.z)) (by rw [hol,hsz]) (fun q u hq=>by
    rw [Pl.at_add,(zae hb).1,← Array.getElem?_toList];rw [List.getElem?_take] at hq;split at hq
    ·rw [List.getElem?_drop,List.getElem?_take] at hq;split at hq
     ·rw [List.getElem?_drop] at hq;exact hq
     ·cases hq
    ·cases hq) a m c ns (by rw [hsz];exact hnl) hnc h2 (by omega) (by
     have:=nextslicecap_le h2;have:=Nat.mul_le_mul (Nat.le_trans this (Nat.mul_le_mul_left 2 hle)) hby;omega)
   have hcap:len+m≤grownCap w (len+m) c' ei.e∧grownCap w (len+m) c' ei.e≤maxLen:=by
    unfold grownCap Question.cut maxLen;have:=Nat.mod_lt (w.tape w.drawn (.appendCap (len+m) c' ei.e)) (show 0<2 ^ 63-(len+m) by omega);simp only;omega
   have hle2:=G.upd_le (p:=(⟨w.heap.size,0⟩,grownCap w (len+m) c' ei.e*ei.z)) (hH.fresh n (Nat.le_refl _));refine ⟨γ.upd n (⟨w.heap.size,0⟩,grownCap w (len+m) c' ei.e*ei.z),_,_,hle2,?_,hr,_,rfl,.sl n ei.z 0 _ none ⟨w.heap.size,0⟩ _ _ G.upd_same hcap.1 hcap.2 (by omega) (fun k e=>by cases e) (fun _=>by omega)⟩;have hal:=hold.append hcn;refine hH.lay hnb _ _ (fun q hq=>?_) (by show _<(w.heap.push _).size;simp) rfl rfl rfl ⟨_,.of (by show (w.heap.push _)[_]? = _;simp;rfl),?_,?_,(fun e=>by cases e),?_⟩
   ·show (w.heap.push _)[q]? = _;rw [Array.getElem?_push_lt hq];simp [hq]
   ·show _=0+_;rw [Nat.zero_add];simp only [Array.size_append,List.size_toArray,size_zeroCells,hzs,List.length_append,hol,hnl];rw [← Nat.add_mul,← Nat.add_mul];congr 1;omega
   ·have e1:=hal.1;rw [List.length_append (as:=(((ca.toList.drop b.s).take cs.length).drop off).take (len*ei.z)),hol,hnl,← Nat.add_mul] at e1;exact Nat.le_trans (Nat.le_of_eq e1) (Nat.mul_le_mul_right _ hcap.1)
   ·refine ECL.mono hle2 ?_;have e1:=hal.1;have:((((((ca.toList.drop b.s).take cs.length).drop off).take (len*ei.z)++ns).toArray++Builtin.zeroCells zv.cells (grownCap w (len+m) c' ei.e-(len+m))).toList.take ((cs.drop off).take (len*ei.z)++news).length)=(((ca.toList.drop b.s).take cs.length).drop off).take (len*ei.z)++ns:=by
     rw [e1,Array.toList_append];exact List.take_left' rfl
    show ECL _ _ (List.take _ (List.drop 0 _));rw [List.drop_zero,show (cs.drop off).take (Nat.mul len ei.z)=(cs.drop off).take (len*ei.z) from rfl,this]
    exact hal
 ·cases h
theorem zkh (hT:TOk γ T tmps) (hH:HR γ w0 H n w) {t ty:TypeId} {s x:EV} {vs vx:Value} {er:ER} (hs:EC γ s vs) (hx:EC γ x vx) (h:exAppend P t s x H n=some er) :
  ∃ γ' w' v',GLe γ γ'∧HR γ' w0 er.H er.n w'∧(Builtin.append_ #[t,t] ty #[vs,vx]).run P w = .ok v' w'∧∃ a,er.val=some a∧EC γ' a v':=by
 unfold exAppend at h;split at h
 case h_2=>cases h
 rename_i ei hei;split at h
 case h_2=>cases h
 rename_i m news hn;obtain ⟨a,c,ns,rfl,hcn,hnl,hnc⟩:=zc2 hH hx hn;exact zbd hT hH hei hs hcn hnl hnc h
end
section
open Go.RowKit
variable {P:Program} {γ:G} {w0:Bs} {w:World} {H H':Tr EK} {n n':Nat} {T:Tr EV} {tmps:Array Value} {o:Oper} {r:Option EV}
def optNat (T:Tr EV) (x:Option Operand) (d:Nat):Option Nat:=match x with
 | none=>some d
 | some y=>(intOf (exVal T y)).bind natOf
def exSlice (P:Program) (T:Tr EV) (t:TypeId) (x:Operand) (lo hi mx:Option Operand) (H:Tr EK):Option EV:=match mx with
 | some _=>none
 | none=>match exVal T x with
  | some (.sl i z off len cap)=>match optNat T lo 0 with
   | some l=>match optNat T hi len with
    | some h=>match Sx.slZ P t with
     | some z'=>bc (Nat.beq z z') (bc (Nat.ble l h) (match cap with
      | some c=>bc (Nat.ble h c) (some (.sl i z (bc (Nat.beq c l) off (Nat.add off (Nat.mul l z))) (Nat.sub h l) (some (Nat.sub c l)))) none
      | none=>bc (Nat.ble h len) (bc (Nat.beq l 0) (some (.sl i z off h none)) (bc (Nat.blt l len) (some (.sl i z (Nat.add off (Nat.mul l z)) (Nat.sub h l) none)) (some (.slE i z (Nat.add off (Nat.mul l z)))))) none) none) none
     | none=>none
    | none=>none
   | none=>none
  | some (.ptr i off)=>match P.underlying t with
   | some (.array m e)=>match optNat T lo 0 with
    | some l=>match optNat T hi m with
     | some h=>match Sx.sizeB P e with
      | some z=>match cellsAt H i with
       | some (_,cs,_)=>bc (Nat.ble l h) (bc (Nat.ble h m) (bc (Nat.ble (Nat.add off (Nat.mul m z)) (llen cs)) (bc (Nat.ble m 65536) (some (.sl i z (bc (Nat.beq m l) off (Nat.add off (Nat.mul l z))) (Nat.sub h l) (some (Nat.sub m l)))) none) none) none) none
       | none=>none
      | none=>none
     | none=>none
    | none=>none
   | _=>none
  | _=>none
theorem zi4 (hT:TOk γ T tmps) {x:Option Operand} {d k:Nat} (h:optNat T x d=some k):(x=none∧k=d)∨∃ y κ,x=some y∧opEval tmps y = .int κ k:=by
 unfold optNat at h
 cases x with
 | none=>left;simp at h;exact ⟨rfl,h.symm⟩
 | some y=>
  right;obtain ⟨mi,hmi,hk2⟩:=Option.bind_eq_some_iff.1 h;obtain ⟨κ,hix⟩:=zag hT hmi;exact ⟨y,κ,rfl,by rw [hix,zco hk2]⟩
theorem zgg (hT:TOk γ T tmps) {isS:Bool} {lo hi:Option Operand} {len cap l h:Nat} (hl:optNat T lo 0=some l) (hh:optNat T hi len=some h) (h1:l≤h) (h2:h≤cap) (w:World) :
  (Instr.sliceBounds isS len cap (lo.map (opEval tmps)) (hi.map (opEval tmps)) none).run P w = .ok (l,h,cap) w:=by
 unfold Instr.sliceBounds;rcases zi4 hT hl with ⟨rfl,rfl⟩|⟨y,κ,rfl,hy⟩ <;> rcases zi4 hT hh with ⟨rfl,rfl⟩|⟨y2,κ2,rfl,hy2⟩ <;>
  simp [Instr.sliceBound,asIntOf, *]
theorem zm5 (hT:TOk γ T tmps) (hH:HR γ w0 H n w) {t:TypeId} {x:Operand} {lo hi mx:Option Operand} {a:EV} (ho:o.op = .slice t x lo hi mx) (h:exSlice P T t x lo hi mx H=some a):Gives P γ w0 w (execOp (opEval tmps) o) (some a) H n:=by
 unfold exSlice at h;split at h
 ·cases h
 have hex:∀ s:Value,opEval tmps x=s→execOp (opEval tmps) o=(do pure (Next.value (← Instr.sliceAt t s (lo.map (opEval tmps)) (hi.map (opEval tmps)) none)):Sem Next):=fun s hs=>by
  unfold execOp;rw [ho];simp only [hs];rfl
 split at h
 ·rename_i i z off len cap hx;split at h
  case h_2=>cases h
  rename_i l hl;split at h
  case h_2=>cases h
  rename_i hh hhi;split at h
  case h_2=>cases h
  rename_i z' hz;rw [bc_eq,bc_eq] at h;split at h
  case isFalse=>cases h
  rename_i hzz;have hzz:=Nat.eq_of_beq_eq_true hzz;subst hzz;split at h
  case isFalse=>cases h
  rename_i hlh;have hlh:=Nat.le_of_ble_eq_true hlh;obtain ⟨b,m,c,hγ,he,hlc,hcm,hcn,hck,hcu⟩:=ec_sl (zaa hT hx);obtain ⟨e,inf,hu,hinf,hsz⟩:=Sx.slZ_spec hz;have run:∀ hc:hh≤c,(execOp (opEval tmps) o).run P w = .ok (.value (.slice (if c=l then some (b.at off) else some (b.at (off+l*z))) (hh-l) (c-l))) w:=fun hc=>by
   rw [hex _ he];refine run_v ?_;have hb:=zgg (P:=P) (isS:=true) (cap:=c) hT hl hhi hlh hc w;simp [Instr.sliceAt,Instr.slice,run_underlying hu,hb,sizeOf,typeInfo,hinf,hsz,Pl.at_add]
  cases cap with
  | some c'=>
   simp only at h;have hck:=hck _ rfl;subst hck;rw [bc_eq] at h;split at h
   case isFalse=>cases h
   rename_i hc;have hc:=Nat.le_of_ble_eq_true hc;injection h with h;subst h
   refine zab (run hc) ?_ hH;rw [bc_eq]
   by_cases e1:c=l
   ·subst e1;have:Nat.beq c c=true:=Nat.beq_refl c;rw [if_pos rfl,if_pos this];exact .sl i z off _ _ b m _ hγ (Nat.sub_le_sub_right hc _) (by omega) (by simp;omega) (fun k e=>by injection e with e) (fun e=>by cases e)
   ·rw [if_neg e1,if_neg (fun e2=>e1 (Nat.eq_of_beq_eq_true e2))];refine .sl i z _ _ _ b m _ hγ (Nat.sub_le_sub_right hc _) (by omega) ?_ (fun k e=>by injection e with e) (fun e=>by cases e)
    show off+l*z+(c-l)*z≤m;rw [Nat.add_assoc,← Nat.add_mul,show l+(c-l)=c by omega];exact hcn
  | none=>
   simp only at h;have hcu:=hcu rfl;rw [bc_eq] at h;split at h
   case isFalse=>cases h
   rename_i hc;have hc:=Nat.le_of_ble_eq_true hc;rw [bc_eq] at h;split at h
   ·rename_i h0;have h0:=Nat.eq_of_beq_eq_true h0;subst h0;injection h with h;subst h
    have hr:=run (by omega);simp only [Nat.zero_mul,Nat.add_zero,ite_self,Nat.sub_zero] at hr;exact zab hr (.sl i z off _ _ b m c hγ (by omega) hcm hcn (fun k e=>by cases e) (fun _=>hcu)) hH
   ·rename_i h0;rw [bc_eq] at h;split at h
    rotate_left
    ·rename_i h3;have h3:¬ l<len:=fun e=>h3 (by unfold Nat.blt;exact Nat.ble_eq_true_of_le e);injection h with h;subst h
     have hr:=run (by omega);have e1:l=hh:=by omega
     have e2:l=len:=by omega
     subst e1;rw [Nat.sub_self] at hr
     by_cases hcl:c=l
     ·rw [if_pos hcl,hcl,Nat.sub_self] at hr;exact zab hr (.slE i z _ b m 0 off hγ (Nat.zero_le _) (fun e=>absurd e (by omega))) hH
     ·rw [if_neg hcl] at hr;refine zab hr (.slE i z _ b m (c-l) (off+l*z) hγ (by omega) (fun _=>⟨rfl,?_⟩)) hH;show off+l*z+(c-l)*z=m;rw [Nat.add_assoc,← Nat.add_mul,show l+(c-l)=c by omega];exact hcu.resolve_right (by omega)
    rename_i h3;have h3:=zad h3;injection h with h;subst h
    have hr:=run (by omega);rw [if_neg (by omega)] at hr;refine zab hr (.sl i z _ _ _ b m _ hγ (Nat.sub_le_sub_right (by omega) _) (by omega) ?_ (fun k e=>by cases e) (fun _=>?_)) hH
    ·show off+l*z+(c-l)*z≤m;rw [Nat.add_assoc,← Nat.add_mul,show l+(c-l)=c by omega];exact hcn
    ·show off+l*z+(c-l)*z=m∨c-l=0;left;rw [Nat.add_assoc,← Nat.add_mul,show l+(c-l)=c by omega];exact hcu.resolve_right (by omega)
 ·rename_i i off hx;split at h
  case h_2=>cases h
  rename_i m e hu;split at h
  case h_2=>cases h
  rename_i l hl;split at h
  case h_2=>cases h
  rename_i hh hhi;split at h
  case h_2=>cases h
  rename_i z hz;split at h
  case h_2=>cases h
  rename_i ty cs full hcs;rw [bc_eq,bc_eq,bc_eq,bc_eq] at h;split at h
  case isFalse=>cases h
  rename_i h1;split at h
  case isFalse=>cases h
  rename_i h2;split at h
  case isFalse=>cases h
  rename_i h3;split at h
  case isFalse=>cases h
  rename_i h4;injection h with h;subst h
  have h1:=Nat.le_of_ble_eq_true h1;have h2:=Nat.le_of_ble_eq_true h2;have h3:=Nat.le_of_ble_eq_true h3;have h4:=Nat.le_of_ble_eq_true h4;rw [zac] at h3;have h3:off+m*z≤cs.length:=h3;obtain ⟨b,k,hγ,he⟩:=zcc (zaa hT hx);obtain ⟨hg,b2,m2,ca,hγ2,hb,hsz2,hl2,hfull,hcl⟩:=za7 hH hcs;rw [hγ] at hγ2;simp only [Option.some.injEq,Prod.mk.injEq] at hγ2;obtain ⟨rfl,rfl⟩:=hγ2;obtain ⟨inf,hinf,hsz⟩:=zbf hz
  have hr:(execOp (opEval tmps) o).run P w = .ok (.value (.slice (some (if m=l then (b.at off) else (b.at (off+l*z)))) (hh-l) (m-l))) w:=by
   rw [hex _ he];refine run_v ?_;have hb:=zgg (P:=P) (isS:=false) (cap:=m) hT hl hhi h1 h2 w;simp [Instr.sliceAt,Instr.sureAddr,run_underlying hu,hb,sizeOf,typeInfo,hinf,hsz,Pl.at_add]
  refine zab hr ?_ hH;rw [bc_eq]
  by_cases e1:m=l
  ·subst e1;have:Nat.beq m m=true:=Nat.beq_refl m;rw [if_pos rfl,if_pos this];exact .sl i z off _ _ b k _ hγ (Nat.sub_le_sub_right h2 _) (by unfold maxLen;omega) (by simp;omega) (fun k e=>by injection e with e) (fun e=>by cases e)
  ·rw [if_neg e1,if_neg (fun e2=>e1 (Nat.eq_of_beq_eq_true e2))];refine .sl i z _ _ _ b k _ hγ (Nat.sub_le_sub_right h2 _) (by unfold maxLen;omega) ?_ (fun k e=>by injection e with e) (fun e=>by cases e)
   show off+l*z+(m-l)*z≤k;rw [Nat.add_assoc,← Nat.add_mul,show l+(m-l)=m by omega];omega
 ·cases h
end
section
open Go.RowKit
variable {P:Program} {γ:G} {w0:Bs} {w:World} {H H':Tr EK} {n n':Nat} {T:Tr EV} {tmps:Array Value} {o:Oper} {r:Option EV}
theorem zh2 (off:Nat):∀ (l:List Value) (k:Nat) (cs:Array Value),off+k+l.length≤cs.size →
  ((l.zipIdx k).foldl (fun cs (p:Value×Nat)=>cs.setIfInBounds (off+p.2) p.1) cs)=putArr cs (off+k) l
 | [],k,cs,_=>by simp [putArr]
 | v::l,k,cs,h=>by
  simp only [List.length_cons] at h;simp only [List.zipIdx_cons,List.foldl_cons];rw [zh2 off l (k+1) _ (by simp;omega),putArr];rfl
def exParts (T:Tr EV) (l:List (Nat×Operand)):Option (List (Nat×EV)):=List.rec (some []) (fun p _ ih=>match exVal T p.2 with
 | some a=>match ih with
  | some r=>some ((p.1,a)::r)
  | none=>none
 | none=>none) l
inductive PL (γ:G):List (Nat×EV)→List (Nat×Value)→Prop where
 | nil:PL γ [] []
 | cons (i:Nat) {a:EV} {x:Value} {l:List (Nat×EV)} {m:List (Nat×Value)} (h:EC γ a x) (r:PL γ l m):PL γ ((i,a)::l) ((i,x)::m)
theorem zet (hT:TOk γ T tmps):∀ {l:List (Nat×Operand)} {m:List (Nat×EV)},exParts T l=some m→PL γ m (l.map fun p=>(p.1,opEval tmps p.2))
 | [],m,h=>by simp [exParts] at h;subst h;exact .nil
 | p::l,m,h=>by
  have h':(match exVal T p.2 with
   | some a=>match exParts T l with
    | some r=>some ((p.1,a)::r)
    | none=>none
   | none=>none)=some m:=h
  split at h'
  case h_2=>cases h'
  rename_i a ha;split at h'
  case h_2=>cases h'
  rename_i r hr;injection h' with h';subst h'
  exact .cons p.1 (zaa hT ha) (zet hT hr)
def fillE (place:Nat→Option (Nat×Nat)) (parts:List (Nat×EV)):List EV→Option (List EV):=List.rec (fun cs=>some cs) (fun p _ ih cs=>match place p.1 with
 | some (off,size)=>bc (Nat.beq (llen p.2.cells) size) (bc (Nat.ble (Nat.add off size) (llen cs)) (ih (Sx.putAt cs off p.2.cells)) none) none
 | none=>none) parts
theorem zvw {cs vs:List EV} {xs:List Value} {c:Array Value} {off:Nat} (hc:ECL γ cs c.toList) (hv:ECL γ vs xs) (hle:off+vs.length≤cs.length):ECL γ (Sx.putAt cs off vs) (putArr c off xs).toList:=by
 have hl:=hc.1;have h:=zi0 (c:=c) (off:=off) (cs:=cs) (vs:=vs) (xs:=xs) (k:=0) (by rw [List.drop_zero,hl];rw [List.take_length];exact hc) hv hle (by simp at hl;omega)
 rwa [Nat.zero_add,List.drop_zero,List.take_of_length_le (by simp [zap];unfold Sx.putAt;simp at hl ⊢;omega)] at h
theorem zfb (place:Nat→Option (Nat×Nat)):∀ {parts:List (Nat×EV)} {vp:List (Nat×Value)} {cs cs':List EV} {c:Array Value},PL γ parts vp→ECL γ cs c.toList→fillE place parts cs=some cs'→∃ c',Instr.fill place c vp=some c'∧ECL γ cs' c'.toList
 | [],_,cs,cs',c,.nil,hc,h=>by
  have h':some cs=some cs':=h;injection h' with h';subst h'
  exact ⟨c,rfl,hc⟩
 | (i,a)::parts,(_,x)::vp,cs,cs',c,.cons _ ha hr,hc,h=>by
  have h':(match place i with
   | some (off,size)=>bc (Nat.beq (llen a.cells) size) (bc (Nat.ble (Nat.add off size) (llen cs)) (fillE place parts (Sx.putAt cs off a.cells)) none) none
   | none=>none)=some cs':=h
  split at h'
  case h_2=>cases h'
  rename_i off size hp;rw [bc_eq,bc_eq] at h';split at h'
  case isFalse=>cases h'
  rename_i h1;split at h'
  case isFalse=>cases h'
  rename_i h2;have h1:=Nat.eq_of_beq_eq_true h1;have h2:=Nat.le_of_ble_eq_true h2;rw [zac] at h1 h2;subst h1;have h2:off+a.cells.length≤cs.length:=h2;have hac:=ha.cells;have hl:=hac.1;have hcl:=hc.1;simp only [Array.length_toList] at hl hcl;obtain ⟨c',h3,h4⟩:=zfb place hr (zvw hc hac h2) h';refine ⟨c',?_,h4⟩;unfold Instr.fill;simp only [hp];rw [if_neg (by simp;omega)];have:=zh2 off x.cells.toList 0 c (by simp;omega);rw [← h3];congr 1;rw [← Array.foldl_toList,Array.toList_zipIdx];rw [Nat.add_zero] at this;exact this
def zeroCellsE (zs:List Value) (k:Nat):List EV:=(List.range k).map fun j=>EV.v (zs.toArray[j%zs.toArray.size]!)
theorem za4 (zs:List Value) (k:Nat):ECL γ (zeroCellsE zs k) ((Array.range k).map (zs.toArray[· % zs.toArray.size]!)).toList:=by
 have:((Array.range k).map (zs.toArray[· % zs.toArray.size]!)).toList=(List.range k).map fun j=>zs.toArray[j%zs.toArray.size]!:=by simp
 rw [this];unfold zeroCellsE;refine ⟨by simp,fun j a x ha hx=>?_⟩;rw [List.getElem?_map] at ha hx
 cases hj:(List.range k)[j]? with
 | none=>rw [hj] at ha;simp at ha
 | some q=>rw [hj] at ha hx;simp at ha hx;subst ha;subst hx;exact .v _
def bsCore (P:Program) (T:Tr EV) (t:TypeId) (len:Nat) (parts:Array (Nat×Operand)):Option (TypeId×Nat×List EV):=match elemOf P t with
 | some e=>match Sx.zeroL P e with
  | some zs=>match Sx.sizeB P e with
   | some z=>match exParts T parts.toList with
    | some ps=>bc (Nat.blt 0 (Nat.mul len z)) (bc (Nat.ble (Nat.mul len z) 65536) (match fillE (fun i=>some (Nat.mul i z,z)) ps (zeroCellsE zs (Nat.mul len z)) with
     | some cs=>bc (Nat.ble len 65536) (some (e,z,cs)) none
     | none=>none) none) none
    | none=>none
   | none=>none
  | none=>none
 | none=>none
theorem zck (hT:TOk γ T tmps) {t:TypeId} {len:Nat} {parts:Array (Nat×Operand)} {e:TypeId} {z:Nat} {cs:List EV} (ho:o.op = .buildSlice t len parts) (h:bsCore P T t len parts=some (e,z,cs)) (w:World) :
  ∃ c:Array Value,(execOp (opEval tmps) o).run P w = .ok (.value (.slice (some ⟨w.heap.size,0,none⟩) len len)) (w.alloc (.cells c e))∧ECL γ cs c.toList∧c.size=len*z∧len≤65536:=by
 unfold bsCore at h;split at h
 case h_2=>cases h
 rename_i e he;split at h
 case h_2=>cases h
 rename_i zs hzs;split at h
 case h_2=>cases h
 rename_i z hz;split at h
 case h_2=>cases h
 rename_i ps hps;rw [bc_eq,bc_eq] at h;split at h
 case isFalse=>cases h
 rename_i h1;split at h
 case isFalse=>cases h
 rename_i h2;split at h
 case h_2=>cases h
 rename_i cs hcs;rw [bc_eq] at h;split at h
 case isFalse=>cases h
 rename_i h4;simp only [Option.some.injEq,Prod.mk.injEq] at h;obtain ⟨rfl,rfl,rfl⟩:=h;have h1:0<len*z:=zad h1;have h2:len*z≤65536:=Nat.le_of_ble_eq_true h2;have h4:=Nat.le_of_ble_eq_true h4;obtain ⟨inf,hi,hsz⟩:=zbf hz;obtain ⟨inf2,zv,hi2,hzv,hzl⟩:=zb3 hzs;rw [hi] at hi2;injection hi2 with hi2;subst hi2
 have hpl:=zet hT hps;have hz0:=za4 (γ:=γ) zs (len*z);obtain ⟨c',hf,hcc⟩:=zfb _ hpl hz0 hcs;have hel:=zcj he;have hcl:=hcc.1;have hsize:c'.size=len*z:=by
  have:∀ (vp:List (Nat×Value)) (place:Nat→Option (Nat×Nat)) (c c2:Array Value),Instr.fill place c vp=some c2→c2.size=c.size:=by
   intro vp
   induction vp with
   | nil=>intro place c c2 h;simp [Instr.fill] at h;rw [h]
   | cons p vp ih=>
    intro place c c2 h;obtain ⟨i,v⟩:=p;unfold Instr.fill at h;split at h
    ·cases h
    ·split at h
     ·cases h
     ·rename_i off size _ hno;rw [ih _ _ _ h];have hno:v.cells.size=size∧off+v.cells.size≤c.size:=by simp at hno;omega
      have hfs:=zh2 off v.cells.toList 0 c (by simp;omega);rw [← Array.foldl_toList,Array.toList_zipIdx];show (List.foldl _ c _).size=_;rw [show (List.foldl (fun cs (p:Value×Nat)=>cs.setIfInBounds (off+p.2) p.1) c (v.cells.toList.zipIdx 0))=_ from hfs,zap]
  rw [this _ _ _ _ hf];simp
 refine ⟨c',?_,hcc,hsize,h4⟩;have hex:execOp (opEval tmps) o=(do pure (Next.value (← Instr.buildSlice t len (parts.map fun (i,x)=>(i,opEval tmps x)))):Sem Next):=by unfold execOp;rw [ho]
 rw [hex];refine run_v ?_;have hf2:Instr.fill (fun i=>some (i*z,z)) (Array.map (fun x=>zv.cells[x%zv.cells.size]!) (Array.range (len*z))) (List.map (fun x=>(x.fst,opEval tmps x.snd)) parts.toList)=some c':=by
  have e1:zv.cells=zs.toArray:=by rw [← hzl]
  rw [e1];exact hf
 have h0:¬ len*z=0:=by omega
 simp [Instr.buildSlice,run_underlying hel,sizeOf,typeInfo,hi,hsz,zeroValue,hzv,h0,show ¬ 16777216<len*z by omega,newRow,newObj,Sem.run];rw [hf2];rfl
def exBuildSlice (P:Program) (T:Tr EV) (t:TypeId) (len:Nat) (parts:Array (Nat×Operand)) (H:Tr EK) (n:Nat):Option ER:=match bsCore P T t len parts with
 | some (e,z,cs)=>bc (Nat.ble n 65535) (some ⟨some (.sl n z 0 len (some len)),H.put n (some (.cells e cs true)),Nat.succ n⟩) none
 | none=>none
theorem zc8 (hT:TOk γ T tmps) (hH:HR γ w0 H n w) {t:TypeId} {len:Nat} {parts:Array (Nat×Operand)} {er:ER} (ho:o.op = .buildSlice t len parts) (h:exBuildSlice P T t len parts H n=some er) :
  Gives P γ w0 w (execOp (opEval tmps) o) er.val er.H er.n:=by
 unfold exBuildSlice at h;split at h
 case h_2=>cases h
 rename_i e z cs hb;rw [bc_eq] at h;split at h
 case isFalse=>cases h
 rename_i hnb;injection h with h;subst h
 obtain ⟨c,hr,hc,hs,hl⟩:=zck hT ho hb w;exact zbh hH hnb hc hr fun γ' e=>.sl n z 0 len _ _ _ len e (Nat.le_refl _) (by unfold maxLen;omega) (by rw [hs];omega) (fun k e=>by injection e) (fun e=>by cases e)
def placesOf (P:Program) (fs:List Field):Option (List (Nat×Nat)):=List.rec (some []) (fun f _ ih=>match P.info? f.type with
 | some i=>match ih with
  | some r=>some ((f.offset,i.size)::r)
  | none=>none
 | none=>none) fs
theorem zfl:∀ {fs:List Field} {l:List (Nat×Nat)},placesOf P fs=some l→fs.mapM (fun f=>(P.info? f.type).map fun i=>(f.offset,i.size))=some l
 | [],l,h=>by simp [placesOf] at h;subst h;rfl
 | f::fs,l,h=>by
  have h':(match P.info? f.type with
   | some i=>match placesOf P fs with
    | some r=>some ((f.offset,i.size)::r)
    | none=>none
   | none=>none)=some l:=h
  split at h'
  case h_2=>cases h'
  rename_i i hi;split at h'
  case h_2=>cases h'
  rename_i r hr;injection h' with h';subst h'
  rw [List.mapM_cons,zfl hr,hi];rfl
def exBuild (P:Program) (T:Tr EV) (t:TypeId) (parts:Array (Nat×Operand)):Option EV:=match Sx.zeroL P t with
 | some zs=>match exParts T parts.toList with
  | some ps=>match P.underlying t with
   | some (.struct fs)=>match placesOf P fs.toList with
    | some pl=>match fillE (fun i=>lget pl i) ps (zs.map .v) with
     | some cs=>some (packE cs)
     | none=>none
    | none=>none
   | some (.array _ e)=>match Sx.sizeB P e with
    | some z=>match fillE (fun i=>some (Nat.mul i z,z)) ps (zs.map .v) with
     | some cs=>some (packE cs)
     | none=>none
    | none=>none
   | _=>none
  | none=>none
 | none=>none
theorem zgr (hT:TOk γ T tmps) (hH:HR γ w0 H n w) {t:TypeId} {parts:Array (Nat×Operand)} {a:EV} (ho:o.op = .build t parts) (h:exBuild P T t parts=some a):Gives P γ w0 w (execOp (opEval tmps) o) (some a) H n:=by
 unfold exBuild at h;split at h
 case h_2=>cases h
 rename_i zs hzs;obtain ⟨inf,zv,hi,hzv,hzl⟩:=zb3 hzs;split at h
 case h_2=>cases h
 rename_i ps hps;have hpl:=zet hT hps;have hex:execOp (opEval tmps) o=(do pure (Next.value (← Instr.build t (parts.map fun (i,x)=>(i,opEval tmps x)))):Sem Next):=by unfold execOp;rw [ho]
 have e2:(parts.map fun (i,x)=>(i,opEval tmps x)).toList=parts.toList.map fun p=>(p.1,opEval tmps p.2):=by simp
 have hz0:ECL γ (zs.map .v) zv.cells.toList:=by rw [hzl];exact ECL.vals γ zs
 split at h
 ·rename_i fs hu;split at h
  case h_2=>cases h
  rename_i pl hpls;split at h
  case h_2=>cases h
  rename_i cs hcs;injection h with h;subst h
  obtain ⟨c',hf,hcc⟩:=zfb _ hpl hz0 hcs;refine zab (x:=.agg c') ?_ (by have:=zd4 hcc;simpa using this) hH;rw [hex];refine run_v (run_build w t _ c' ?_);unfold Program.built;rw [hi,hu];simp only [hzv];rw [zfl hpls,e2];simp only;rw [← hf];congr 1
  funext i
  rw [zai];simp
 ·rename_i k e hu;split at h
  case h_2=>cases h
  rename_i z hz;obtain ⟨inf2,hi2,hsz2⟩:=zbf hz;split at h
  case h_2=>cases h
  rename_i cs hcs;injection h with h;subst h
  obtain ⟨c',hf,hcc⟩:=zfb _ hpl hz0 hcs;refine zab (x:=.agg c') ?_ (by have:=zd4 hcc;simpa using this) hH;rw [hex];refine run_v (run_build w t _ c' ?_);unfold Program.built;rw [hi,hu];simp only [hzv,hi2,hsz2];rw [e2];exact hf
 ·cases h
def exMake (P:Program) (T:Tr EV) (t:TypeId) (len cap:Operand) (H:Tr EK) (n:Nat):Option ER:=match elemInfo P t with
 | some ei=>match Sx.zeroL P ei.e with
  | some zs=>match (intOf (exVal T len)).bind natOf with
   | some l=>match (intOf (exVal T cap)).bind natOf with
    | some c=>bc (Nat.ble l c) (bc (Nat.ble c 65536) (bc (Nat.ble (Nat.mul c ei.z) 65536) (bc (Nat.ble n 65535) (some ⟨some (.sl n ei.z 0 l (some c)),H.put n (some (.cells ei.e (zeroCellsE zs (Nat.mul c ei.z)) true)),Nat.succ n⟩) none) none) none) none
    | none=>none
   | none=>none
  | none=>none
 | none=>none
theorem zpz (hT:TOk γ T tmps) (hH:HR γ w0 H n w) {t:TypeId} {len cap:Operand} {er:ER} (ho:o.op = .makeSlice t len cap) (h:exMake P T t len cap H n=some er):Gives P γ w0 w (execOp (opEval tmps) o) er.val er.H er.n:=by
 unfold exMake at h;split at h
 case h_2=>cases h
 rename_i ei hei;obtain ⟨hu,inf,zv,hi,hz,hsz,hzs,hpos,hby⟩:=zaj hei;split at h
 case h_2=>cases h
 rename_i zs hzs2;obtain ⟨inf2,zv2,hi2,hzv2,hzl⟩:=zb3 hzs2;rw [hi] at hi2;injection hi2 with hi2;subst hi2
 rw [hz] at hzv2;injection hzv2 with hzv2;subst hzv2
 split at h
 case h_2=>cases h
 rename_i l hl;obtain ⟨ml,hml,hl2⟩:=Option.bind_eq_some_iff.1 hl;obtain ⟨κ,hlen⟩:=zag hT hml;have hl2:=zco hl2;subst hl2;split at h
 case h_2=>cases h
 rename_i c hc;obtain ⟨mc,hmc,hc2⟩:=Option.bind_eq_some_iff.1 hc;obtain ⟨κ2,hcap⟩:=zag hT hmc;have hc2:=zco hc2;subst hc2;rw [bc_eq,bc_eq,bc_eq,bc_eq] at h;split at h
 case isFalse=>cases h
 rename_i h1;split at h
 case isFalse=>cases h
 rename_i h2;split at h
 case isFalse=>cases h
 rename_i h3;split at h
 case isFalse=>cases h
 rename_i hnb;injection h with h;subst h
 have h1:=Nat.le_of_ble_eq_true h1;have h2:=Nat.le_of_ble_eq_true h2;have h3:c*ei.z≤65536:=Nat.le_of_ble_eq_true h3;have hb2:=Nat.mul_le_mul hby h2;have h8:inf.bytes*c≤281474976710656:=Nat.le_trans hb2 (Nat.le_of_ble_eq_true rfl);have h9:(inf.bytes:Int)*(c:Int)≤281474976710656:=by rw [← Int.natCast_mul];omega
 have hr:=run_makeSlice (P:=P) w t ei.e inf zv hu hi hz κ κ2 (l:Int) (c:Int) (by omega) (by omega) (by rw [hsz,Int.toNat_natCast];omega) h9 (by omega);have e1:zv.cells=zs.toArray:=by rw [← hzl]
 have hcl:(madeCells zv.cells (c*ei.z)).size=c*ei.z:=size_madeCells _ _;refine zbh hH hnb (c:=madeCells zv.cells (c*ei.z)) (by unfold madeCells;rw [e1];exact za4 zs _) (x:=.slice (some ⟨w.heap.size,0,none⟩) l c) ?_ fun γ' e=>.sl n ei.z 0 l _ _ _ c e h1 (by unfold maxLen;omega) (by rw [hcl];omega) (fun k e=>by injection e) (fun e=>by cases e);have hex:execOp (opEval tmps) o=(do pure (Next.value (← Instr.makeSlice t (.int κ l) (.int κ2 c))):Sem Next):=by unfold execOp;rw [ho];simp only [hlen,hcap]
 rw [hex];refine run_v ?_;rw [hr,hsz];simp
def exExtract (T:Tr EV) (x:Operand) (j:Nat):Option EV:=match exVal T x with
 | some (.tup cs)=>lget cs j
 | _=>none
theorem zjf (hT:TOk γ T tmps) (hH:HR γ w0 H n w) {x:Operand} {j:Nat} {a:EV} (ho:o.op = .extract x j) (h:exExtract T x j=some a):Gives P γ w0 w (execOp (opEval tmps) o) (some a) H n:=by
 unfold exExtract at h;split at h
 case h_2=>cases h
 rename_i cs hx;rw [zai] at h;have hc:=zaa hT hx;generalize hy:opEval tmps x=y at hc
 cases hc with
 | tup _ vs hl hcc=>
  obtain ⟨u,hu,hcu⟩:=ECL.at (γ:=γ) ⟨hl,hcc⟩ h;refine zab (x:=u) ?_ hcu hH;have:vs.toArray[j]? = some u:=by simpa using hu
  simp [execOp,ho,hy,Instr.extract,this]
def partE (P:Program) (t:TypeId) (cs:List EV) (off:Nat):Option EV:=match aggOf P t with
 | some none=>lget cs off
 | some (some m)=>bc (Nat.ble (Nat.add off m) (llen cs)) (some (packE ((cs.drop off).take m))) none
 | none=>none
theorem zlk {t:TypeId} {cs:List EV} {vs:List Value} {off:Nat} {a:EV} (hc:ECL γ cs vs) (h:partE P t cs off=some a) (w:World):∃ u,(part t vs.toArray off).run P w = .ok u w∧EC γ a u:=by
 unfold partE at h;split at h
 ·rename_i hag;rw [zai] at h;obtain ⟨u,hu,hcu⟩:=hc.at h;have:vs.toArray[off]? = some u:=by simpa using hu
  exact ⟨u,by simp [part,zbx hag,this],hcu⟩
 ·rename_i m hag;rw [bc_eq] at h;split at h
  case isFalse=>cases h
  injection h with h;subst h
  obtain ⟨hagg,inf,hi,hs⟩:=zc9 hag;refine ⟨.agg (((vs.drop off).take m).toArray),?_,zd4 ((hc.drop off).take m)⟩;simp [part,hagg,sizeOf,typeInfo,hi,hs]
 ·cases h
def exFieldV (P:Program) (T:Tr EV) (t:TypeId) (x:Operand) (f:Nat):Option EV:=match exVal T x with
 | some (.agg cs)=>match P.underlying t with
  | some (.struct fs)=>match lget fs.toList f with
   | some fd=>partE P fd.type cs fd.offset
   | none=>none
  | _=>none
 | _=>none
theorem zkf (hT:TOk γ T tmps) (hH:HR γ w0 H n w) {t:TypeId} {x:Operand} {f:Nat} {a:EV} (ho:o.op = .field t x f) (h:exFieldV P T t x f=some a):Gives P γ w0 w (execOp (opEval tmps) o) (some a) H n:=by
 unfold exFieldV at h;split at h
 case h_2=>cases h
 rename_i cs hx;split at h
 case h_2=>cases h
 rename_i fs hu;split at h
 case h_2=>cases h
 rename_i fd hfd;rw [zai] at hfd;have hfd:fs[f]? = some fd:=by simpa using hfd
 have hc:=zaa hT hx;generalize hy:opEval tmps x=y at hc
 cases hc with
 | agg _ vs hl hcc=>
  obtain ⟨u,hu2,hcu⟩:=zlk (P:=P) (γ:=γ) ⟨hl,hcc⟩ h w;refine zab (x:=u) ?_ hcu hH;simp [execOp,ho,hy,Instr.field,run_underlying hu,hfd,asAgg,hu2]
def exIndexA (P:Program) (T:Tr EV) (t:TypeId) (x ix:Operand):Option EV:=match exVal T x with
 | some (.agg cs)=>match P.underlying t with
  | some (.array m e)=>match Sx.sizeB P e with
   | some z=>match (intOf (exVal T ix)).bind natOf with
    | some j=>bc (Nat.blt j m) (partE P e cs (Nat.mul j z)) none
    | none=>none
   | none=>none
  | _=>none
 | _=>none
theorem zkd (hT:TOk γ T tmps) (hH:HR γ w0 H n w) {t:TypeId} {x ix:Operand} {a:EV} (ho:o.op = .index t x ix) (h:exIndexA P T t x ix=some a):Gives P γ w0 w (execOp (opEval tmps) o) (some a) H n:=by
 unfold exIndexA at h;split at h
 case h_2=>cases h
 rename_i cs hx;split at h
 case h_2=>cases h
 rename_i m e hu;split at h
 case h_2=>cases h
 rename_i z hz;obtain ⟨inf,hi,hs⟩:=zbf hz;split at h
 case h_2=>cases h
 rename_i j hj;obtain ⟨mj,hmj,hj2⟩:=Option.bind_eq_some_iff.1 hj;obtain ⟨κ,hix⟩:=zag hT hmj;have hj2:=zco hj2;subst hj2;rw [bc_eq] at h;split at h
 case isFalse=>cases h
 rename_i hlt;have hlt:=zad hlt;have hc:=zaa hT hx;generalize hy:opEval tmps x=y at hc
 cases hc with
 | agg _ vs hl hcc=>
  obtain ⟨u,hu2,hcu⟩:=zlk (P:=P) (γ:=γ) ⟨hl,hcc⟩ h w;refine zab (x:=u) ?_ hcu hH;have hu3:(part e vs.toArray (j*z)).run P w = .ok u w:=hu2;simp [execOp,ho,hy,hix,Instr.index,asIntOf,run_underlying hu,sizeOf,typeInfo,hi,hs,hlt,hu3]
def exVals (T:Tr EV) (l:List Operand):Option (List EV):=List.rec (some []) (fun x _ ih=>match exVal T x with
 | some a=>match ih with
  | some r=>some (a::r)
  | none=>none
 | none=>none) l
theorem zch (hT:TOk γ T tmps):∀ {l:List Operand} {m:List EV},exVals T l=some m→ECL γ m (l.map (opEval tmps))
 | [],m,h=>by simp [exVals] at h;subst h;exact ECL.nil γ
 | x::l,m,h=>by
  have h':(match exVal T x with
   | some a=>match exVals T l with
    | some r=>some (a::r)
    | none=>none
   | none=>none)=some m:=h
  split at h'
  case h_2=>cases h'
  rename_i a ha;split at h'
  case h_2=>cases h'
  rename_i r hr;injection h' with h';subst h'
  exact ECL.cons (zaa hT ha) (zch hT hr)
def exFunc (T:Tr EV) (fn:Fn) (first captured:Array Operand):Option EV:=match fn with
 | .func f=>match first.toList with
  | []=>match exVals T captured.toList with
   | some l=>some (.fn f l)
   | none=>none
  | _=>match captured.toList with
   | []=>match exVals T first.toList with
    | some l=>some (.mt f l)
    | none=>none
   | _=>none
 | _=>none
theorem zp2 (hT:TOk γ T tmps) (hH:HR γ w0 H n w) {fn:Fn} {first captured:Array Operand} {a:EV} (ho:o.op = .makeFunc fn first captured) (h:exFunc T fn first captured=some a):Gives P γ w0 w (execOp (opEval tmps) o) (some a) H n:=by
 unfold exFunc at h;split at h
 case h_2=>cases h
 rename_i f;split at h
 case h_2=>
  split at h
  case h_2=>cases h
  rename_i hcap;split at h
  case h_2=>cases h
  rename_i l hl;injection h with h;subst h
  have hc:=zch hT hl;refine zab (x:=.func (.func f) (first.toList.map (opEval tmps)).toArray #[]) ?_ (.mt f l _ hc.1 hc.2) hH
  have hf:captured = #[]:=by apply Array.ext';simpa using hcap
  have e3:(first.toList.map (opEval tmps)).toArray=first.map (opEval tmps):=by apply Array.ext';simp
  rw [e3];simp [execOp,ho,Instr.makeFunc,hf]
 rename_i hf;split at h
 case h_2=>cases h
 rename_i l hl;injection h with h;subst h
 have hc:=zch hT hl;refine zab (x:=.func (.func f) #[] (captured.toList.map (opEval tmps)).toArray) ?_ (.fn f l _ hc.1 hc.2) hH;have hf:first = #[]:=by apply Array.ext';simpa using hf
 have e3:(captured.toList.map (opEval tmps)).toArray=captured.map (opEval tmps):=by apply Array.ext';simp
 rw [e3];simp [execOp,ho,Instr.makeFunc,hf]
def exLen (P:Program) (T:Tr EV) (x:Operand) (t:TypeId):Option EV:=match exVal T x with
 | some (.sl _ _ _ len _)=>match P.underlying t with
  | some (.slice _)=>some (.v (.int .i64 (Int.ofNat len)))
  | _=>none
 | some (.slE _ _ _)=>match P.underlying t with
  | some (.slice _)=>some (.v (.int .i64 (Int.ofNat 0)))
  | _=>none
 | some (.slO _ _ len _)=>match P.underlying t with
  | some (.slice _)=>some (.v (.int .i64 (Int.ofNat len)))
  | _=>none
 | _=>none
theorem zl1 (hT:TOk γ T tmps) (hH:HR γ w0 H n w) {x:Operand} {t:TypeId} {a:EV} (ho:o.op = .call { callee:=.builtin .len,args:=#[x],argTypes:=#[t] }) (h:exLen P T x t=some a):Gives P γ w0 w (execOp (opEval tmps) o) (some a) H n:=by
 unfold exLen at h;split at h
 case h_4=>cases h
 ·rename_i i z off len cap hx;split at h
  case h_2=>cases h
  rename_i e hu;injection h with h;subst h
  obtain ⟨b,m,c,hγ,he,_⟩:=ec_sl (zaa hT hx);refine zab (x:=.int .i64 (len:Int)) ?_ (.v _) hH;simp [execOp,ho,resolve,invoke,builtin,he,Builtin.len_,run_underlying hu,goInt]
 ·rename_i i z off hx;split at h
  case h_2=>cases h
  rename_i e hu;injection h with h;subst h
  obtain ⟨b,m,c,off',hγ,he,_⟩:=zqc (zaa hT hx);refine zab (x:=.int .i64 ((0:Nat):Int)) ?_ (.v _) hH;simp [execOp,ho,resolve,invoke,builtin,he,Builtin.len_,run_underlying hu,goInt]
 ·rename_i i z len nn hx;split at h
  case h_2=>cases h
  rename_i e hu;injection h with h;subst h
  have hc:=zaa hT hx;generalize hy:opEval tmps x=y at hc
  cases hc with
  | slO _ _ _ _ _ hs=>
   refine zab (x:=.int .i64 (len:Int)) ?_ (.v _) hH
   cases nn with
   | false=>
    obtain ⟨rfl,rfl⟩:=hs.1 rfl;simp [execOp,ho,resolve,invoke,builtin,hy,Builtin.len_,run_underlying hu,goInt]
   | true=>
    obtain ⟨b,m,c,_,rfl,_⟩:=hs.2 rfl;simp [execOp,ho,resolve,invoke,builtin,hy,Builtin.len_,run_underlying hu,goInt]
end
section
open Go.RowKit
variable {P:Program} {γ:G} {w0:Bs} {w:World} {H H':Tr EK} {n n':Nat} {T:Tr EV} {tmps:Array Value} {o:Oper} {r:Option EV}
def exBS0 (P:Program) (t:TypeId) (len:Nat) (parts:Array (Nat×Operand)) (H:Tr EK) (n:Nat):Option ER:=match len with
 | 0=>match parts.toList with
  | []=>match elemInfo P t with
   | some ei=>bc (Nat.ble n 65535) (some ⟨some (.sl n ei.z 0 0 (some 0)),H.put n (some (.cells ei.e [] true)),Nat.succ n⟩) none
   | none=>none
  | _=>none
 | _=>none
theorem zh4 (hH:HR γ w0 H n w) {t:TypeId} {len:Nat} {parts:Array (Nat×Operand)} {er:ER} (ho:o.op = .buildSlice t len parts) (h:exBS0 P t len parts H n=some er) :
  Gives P γ w0 w (execOp (opEval tmps) o) er.val er.H er.n:=by
 unfold exBS0 at h;split at h
 case h_2=>cases h
 split at h
 case h_2=>cases h
 rename_i hp;split at h
 case h_2=>cases h
 rename_i ei hei;obtain ⟨hu,inf,zv,hi,hz,hsz,hzs,hpos,hby⟩:=zaj hei;rw [bc_eq] at h;split at h
 case isFalse=>cases h
 rename_i hnb;injection h with h;subst h
 have hp2:parts = #[]:=by apply Array.ext';simpa using hp
 subst hp2;refine zbh hH hnb (c:=#[]) (ECL.nil γ) (x:=.slice (some ⟨w.heap.size,0,none⟩) 0 0) ?_ fun γ' e=>.sl n ei.z 0 0 _ _ _ 0 e (Nat.le_refl _) (by unfold maxLen;omega) (by simp) (fun k e=>by injection e) (fun e=>by cases e);have hex:execOp (opEval tmps) o=(do pure (Next.value (← Instr.buildSlice t 0 ((#[]:Array (Nat×Operand)).map fun (i,x)=>(i,opEval tmps x)))):Sem Next):=by unfold execOp;rw [ho]
 rw [hex];refine run_v ?_;simp [Instr.buildSlice,run_underlying hu,sizeOf,typeInfo,hi,Instr.fill,zmy];exact congrArg (fun c=>w.alloc (Obj.cells c ei.e)) (Array.eq_empty_of_size_eq_zero (by simp))
def nilKeep (P:Program) (t:TypeId) (a:EV):Option EV:=match elemInfo P t with
 | some _=>match a with
  | .sl _ _ _ _ _=>some a
  | .v (.slice none 0 0)=>some a
  | _=>none
 | none=>none
def exAppNil (P:Program) (t:TypeId) (a b:EV):Option EV:=match b with
 | .v (.slice none 0 _)=>nilKeep P t a
 | .slE _ _ _=>nilKeep P t a
 | _=>none
theorem zki {t ty:TypeId} {a b r:EV} {va vb:Value} (ha:EC γ a va) (hb:EC γ b vb) (h:exAppNil P t a b=some r):EC γ r va∧(Builtin.append_ #[t,t] ty #[va,vb]).run P w = .ok va w:=by
 have key:∀ (ba:Option Addr) (c:Nat),vb = .slice ba 0 c→nilKeep P t a=some r→EC γ r va∧(Builtin.append_ #[t,t] ty #[va,vb]).run P w = .ok va w:=fun ba c hv h=>by
  subst hv;have hf:∀ size:Nat,(Builtin.firstCells size 0 (.slice ba 0 c)).run P w = .ok #[] w:=fun size=>by
   cases ba with
   | none=>simp [Builtin.firstCells]
   | some ad=>
    have:=run_firstCells_some (P:=P) w size 0 ad 0 c [] (by simp) (by simp);simpa using this
  unfold nilKeep at h;split at h
  case h_2=>cases h
  rename_i ei hei;obtain ⟨hu,inf,zv,hi,hz,hsz,hzs,hpos,hby⟩:=zaj hei;split at h
  ·injection h with h;subst h
   refine ⟨ha,?_⟩;obtain ⟨b,m,c',hγ,rfl,hl,_⟩:=ec_sl ha;simp [Builtin.append_,run_underlying hu,sizeOf,typeInfo,hi,Builtin.lenOf,hl,hf,storeCells]
  ·injection h with h;subst h
   refine ⟨ha,?_⟩;have ha:=ec_v ha;subst ha;simp [Builtin.append_,run_underlying hu,sizeOf,typeInfo,hi,Builtin.lenOf,hf]
  ·cases h
 unfold exAppNil at h;split at h
 ·exact key none _ (ec_v hb) h
 ·obtain ⟨b,m,c,off',_,he,_⟩:=zqc hb;exact key _ _ he h
 ·cases h
def exCopy (P:Program) (T:Tr EV) (args:List Operand) (ats:List TypeId) (H:Tr EK) (n:Nat):Option ER:=match args with
 | [x,y]=>match ats with
  | [t,_]=>match elemInfo P t with
   | some ei=>match exVal T x with
    | some (.sl i z off len cap)=>match exVal T y with
     | some (.sl j z' off' len' cap')=>bc (Nat.beq z ei.z) (match newsOf H ei.z (.sl j z' off' (bc (Nat.ble len len') len len') cap') with
      | some (m,news)=>match exPut i off news H with
       | some H'=>some ⟨some (.v (.int .i64 (Int.ofNat (bc (Nat.ble len len') len len')))),H',n⟩
       | none=>none
      | none=>none) none
     | _=>none
    | _=>none
   | none=>none
  | _=>none
 | _=>none
theorem EC.slLess {i z off len len':Nat} {cap:Option Nat} {y:Value} (h:EC γ (.sl i z off len cap) y) (hl:len'≤len):∃ (b:Pl) (m c:Nat),γ i=some (b,m)∧y = .slice (some (b.at off)) len c∧EC γ (.sl i z off len' cap) (.slice (some (b.at off)) len' c):=by
 cases h with
 | sl i z off len cap b n c h hlc hm hn hc hu=>exact ⟨b,n,c,h,rfl,.sl i z off len' cap b n c h (by omega) hm hn hc hu⟩
theorem zp3 (hT:TOk γ T tmps) (hH:HR γ w0 H n w) {args:Array Operand} {ats:Array TypeId} {er:ER} (ho:o.op = .call { callee:=.builtin .copy,args:=args,argTypes:=ats }) (h:exCopy P T args.toList ats.toList H n=some er) :
  Gives P γ w0 w (execOp (opEval tmps) o) er.val er.H er.n:=by
 unfold exCopy at h;split at h
 case h_2=>cases h
 rename_i x y hargs;split at h
 case h_2=>cases h
 rename_i t u hats;split at h
 case h_2=>cases h
 rename_i ei hei;obtain ⟨hu,inf,zv,hi,hz,hsz,hzs,hpos,hby⟩:=zaj hei;split at h
 case h_2=>cases h
 rename_i i z off len cap hx;split at h
 case h_2=>cases h
 rename_i j z' off' len' cap' hy;rw [bc_eq] at h;split at h
 case isFalse=>cases h
 rename_i hzz;have hzz:=Nat.eq_of_beq_eq_true hzz;subst hzz;have hk:bc (Nat.ble len len') len len'=Nat.min len' len:=by
  rw [bc_eq];split
  ·rename_i h1;exact (Nat.min_eq_right (Nat.le_of_ble_eq_true h1)).symm
  ·rename_i h1;have h1:¬ len≤len':=fun h=>h1 (Nat.ble_eq_true_of_le h);exact (Nat.min_eq_left (by omega)).symm
 rw [hk] at h;obtain ⟨b1,m1,c1,hγ1,hx1,_⟩:=ec_sl (zaa hT hx);obtain ⟨b2,m2,c2,hγ2,hy1,hy2⟩:=(zaa hT hy).slLess (len':=Nat.min len' len) (Nat.min_le_left _ _);split at h
 case h_2=>cases h
 rename_i m news hnews;obtain ⟨a,c,vs,he,hc,hl,hcell⟩:=zc2 hH hy2 hnews;simp only [Value.slice.injEq,Option.some.injEq] at he;obtain ⟨rfl,rfl,rfl⟩:=he;split at h
 case h_2=>cases h
 rename_i H2 hput;injection h with h;subst h
 obtain ⟨g1,g2⟩:=zd7 (P:=P) hH hc hput hγ1;have ha2:args = #[x,y]:=by apply Array.ext';simpa using hargs
 have ha3:ats = #[t,u]:=by apply Array.ext';simpa using hats
 subst ha2;subst ha3;refine ⟨γ,_,GLe.refl γ,g1,.int .i64 (Nat.min len' len:Nat),?_,.v _⟩;have hf:=run_firstCells_some (P:=P) w ei.z (Nat.min len' len) (b2.at off') len' c2 vs hl hcell;have g2:(storeCells (b1.at off) vs 0).run P w = .ok () (w.setCells b1.k (b1.s+off) vs):=g2;have hf2:(Builtin.firstCells inf.size (Nat.min len' len) (.slice (some (b2.at off')) len' c2)).run P w = .ok vs.toArray w:=by rw [hsz];exact hf
 have hcp:(Builtin.copy_ #[t,u] o.type #[opEval tmps x,opEval tmps y]).run P w = .ok (.int .i64 (Nat.min len' len:Nat)) (w.setCells b1.k (b1.s+off) vs):=by
  rw [hx1,hy1];unfold Builtin.copy_;simp only [Sem.run_bind,run_underlying hu,Result.andThen_ok,Builtin.lenOf,Sem.run_pure,sizeOf,typeInfo,List.getElem?_toArray,List.getElem?_cons_zero,List.getElem?_cons_succ];simp [hi,hf2,g2,goInt]
 simp [execOp,ho,resolve,invoke,builtin,hcp]
def exClear (P:Program) (T:Tr EV) (args:List Operand) (ats:List TypeId) (H:Tr EK) (n:Nat):Option ER:=match args with
 | [x]=>match ats with
  | [t]=>match elemOf P t with
   | some e=>match Sx.zeroL P e with
    | some zs=>match exVal T x with
     | some (.sl i z off len cap)=>match len with
      | 0=>some ⟨some (.v (.tuple #[])),H,n⟩
      | _=>match exPut i off (zeroCellsE zs (Nat.mul len (llen zs))) H with
       | some H'=>some ⟨some (.v (.tuple #[])),H',n⟩
       | none=>none
     | _=>none
    | none=>none
   | none=>none
  | _=>none
 | _=>none
theorem znb (hT:TOk γ T tmps) (hH:HR γ w0 H n w) {args:Array Operand} {ats:Array TypeId} {er:ER} (ho:o.op = .call { callee:=.builtin .clear,args:=args,argTypes:=ats }) (h:exClear P T args.toList ats.toList H n=some er) :
  Gives P γ w0 w (execOp (opEval tmps) o) er.val er.H er.n:=by
 unfold exClear at h;split at h
 case h_2=>cases h
 rename_i x hargs;split at h
 case h_2=>cases h
 rename_i t hats;split at h
 case h_2=>cases h
 rename_i e he;split at h
 case h_2=>cases h
 rename_i zs hzs;obtain ⟨inf,zv,hi,hzv,hzl⟩:=zb3 hzs;have hu:=zcj he;split at h
 case h_2=>cases h
 rename_i i z off len cap hx;obtain ⟨b1,m1,c1,hγ1,hx1,_⟩:=ec_sl (zaa hT hx);have ha2:args = #[x]:=by apply Array.ext';simpa using hargs
 have ha3:ats = #[t]:=by apply Array.ext';simpa using hats
 subst ha2;subst ha3;split at h
 ·injection h with h;subst h
  refine ⟨γ,w,GLe.refl γ,hH,.tuple #[],?_,.v _⟩;simp [execOp,ho,resolve,invoke,builtin,hx1,Builtin.clear_,run_underlying hu]
 ·rename_i hne;split at h
  case h_2=>cases h
  rename_i H2 hput;injection h with h;subst h
  have hzc:=za4 (γ:=γ) zs (len*llen zs);obtain ⟨g1,g2⟩:=zd7 (P:=P) hH hzc hput hγ1;refine ⟨γ,_,GLe.refl γ,g1,.tuple #[],?_,.v _⟩;have g2:(storeCells (b1.at off) _ 0).run P w = .ok () _:=g2
  cases len with
  | zero=>exact absurd rfl hne
  | succ k=>
   have hcp:(Builtin.clear_ #[t] o.type #[opEval tmps x]).run P w = .ok (.tuple #[]) (w.setCells b1.k (b1.s+off) (((Array.range ((k+1)*llen zs)).map (zs.toArray[· % zs.toArray.size]!)).toList)):=by
    rw [hx1];unfold Builtin.clear_;have e1:zv.cells=zs.toArray:=by apply Array.ext';simpa using hzl
    have e2:(Builtin.zeroCells zv.cells (k+1)).toList=((Array.range ((k+1)*llen zs)).map (zs.toArray[· % zs.toArray.size]!)).toList:=by
     unfold Builtin.zeroCells;rw [e1,zac,show zs.toArray.size=zs.length by simp]
    simp only [Sem.run_bind,run_underlying hu,Result.andThen_ok,Sem.run_pure,List.getElem?_toArray,List.getElem?_cons_zero];simp [zeroValue,typeInfo,hi,hzv,e2];simp only [Array.toList_map,Array.toList_range] at g2;simp at g2;rw [g2];rfl
   simp [execOp,ho,resolve,invoke,builtin,hcp]
end
section
open Go.RowKit
variable {P:Program} {γ:G} {w0:Bs} {w:World} {H H':Tr EK} {n n':Nat} {T:Tr EV} {tmps:Array Value} {o:Oper} {r:Option EV}
def zeroK (t:TypeId) (zs:List Value):EK:=bc (Nat.ble (llen zs) 24) (.cells t (zs.map .v) true) (bc (Nat.ble (llen zs) 65536) (.arr t (putsT (zs.map .v) 0 .nil) (llen zs)) (.cells t (zs.map .v) true))
theorem zk0 (t:TypeId) (zs:List Value):(zeroK t zs).nestB=false:=by
 unfold zeroK;cases Nat.ble (llen zs) 24
 ·cases Nat.ble (llen zs) 65536 <;> rfl
 ·rfl
theorem zkz {t:TypeId} {zs:List Value} {c:Array Value} (hc:c.toList=zs) (γ':G):(zeroK t zs).ok γ' ⟨w.heap.size,0⟩ c.size (w.alloc (.cells c t)):=by
 have h0:(EK.cells t (zs.map .v) true).ok γ' ⟨w.heap.size,0⟩ c.size (w.alloc (.cells c t)):=by
  have hl:(zs.map EV.v).length=c.size:=by rw [← hc];simp
  refine ⟨c,.of (by show (w.heap.push _)[_]? = _;simp),(Nat.zero_add _).symm,by omega,fun _=>hl,?_⟩;show ECL _ _ ((c.toList.drop 0).take _);rw [List.drop_zero,hl,show c.size=c.toList.length by simp,List.take_length,hc];exact ECL.vals γ' zs
 unfold zeroK;rw [bc_eq,bc_eq];split
 ·exact h0
 ·split
  ·rename_i h2;have h2:=Nat.le_of_ble_eq_true h2;rw [zac] at h2 ⊢;refine ⟨c,.of (by show (w.heap.push _)[_]? = _;simp),(Nat.zero_add _).symm,by rw [← hc];simp,fun j a hj ha=>?_⟩;rw [zfk (by simp;omega)] at ha;rw [if_pos (by simp;omega),Nat.sub_zero,List.getElem?_map] at ha;show ∃ x,c[0+j]? = some x∧_;rw [Nat.zero_add,← Array.getElem?_toList,hc]
   cases hz:zs[j]? with
   | none=>rw [hz] at ha;cases ha
   | some x=>
    rw [hz] at ha;injection ha with ha;subst ha
    exact ⟨x,rfl,.v x⟩
  ·exact h0
def exAllocB (P:Program) (t:TypeId) (H:Tr EK) (n:Nat):Option ER:=match Sx.zeroL P t with
 | some zs=>bc (Nat.ble n 65535) (some ⟨some (.ptr n 0),H.put n (some (zeroK t zs)),Nat.succ n⟩) none
 | none=>none
theorem ziw {t:TypeId} (ho:o.op = .alloc t) {zs:List Value} (h:Sx.zeroL P t=some zs) (w:World):∃ c:Array Value,c.toList=zs∧(execOp (opEval tmps) o).run P w = .ok (.value (.pointer (some ⟨w.heap.size,0,none⟩))) (w.alloc (.cells c t)):=by
 obtain ⟨inf,z,hi,hzz,hzl⟩:=zb3 h;refine ⟨z.cells,hzl,?_⟩;have he:execOp (opEval tmps) o=(do pure (Next.value (← Instr.alloc t true (.tuple #[]))):Sem Next):=by unfold execOp;rw [ho]
 rw [he];refine run_v ?_;simp [Instr.alloc,zeroValue,typeInfo,hi,hzz,newVar,newRow,newObj,Sem.run]
theorem zkj (hH:HR γ w0 H n w) {t:TypeId} {e:ER} (ho:o.op = .alloc t) (h:exAllocB P t H n=some e):Gives P γ w0 w (execOp (opEval tmps) o) e.val e.H e.n:=by
 unfold exAllocB at h;split at h
 case h_2=>cases h
 rename_i zs hz;rw [bc_eq] at h;split at h
 case isFalse=>cases h
 rename_i hn;injection h with h;subst h
 obtain ⟨c,hc,hr⟩:=ziw (tmps:=tmps) ho hz w;have hle:=G.upd_le (p:=((⟨w.heap.size,0⟩:Pl),c.size)) (hH.fresh n (Nat.le_refl _));exact ⟨γ.upd n (⟨w.heap.size,0⟩,c.size),w.alloc (.cells c t),hle,hH.new hn (.cells c t) c.size (zeroK t zs) rfl rfl rfl rfl (zkz hc _) (zk0 _ _),_,hr,.ptr n 0 _ _ G.upd_same⟩
end
section
open Go.RowKit Go.MapKept
variable {P:Program} {γ:G} {w0:Bs} {w:World} {H H':Tr EK} {n n':Nat} {T:Tr EV} {tmps:Array Value} {o:Oper} {r:Option EV}
def isKeyB (d:TypeDesc) (k:Value):Bool:=match d with
 | .bool=>match k with
  | .bool _=>true
  | _=>false
 | .int q=>match k with
  | .int q' _=>decide (q'=q)
  | _=>false
 | .string=>match k with
  | .string _=>true
  | _=>false
 | _=>false
theorem zbu {d:TypeDesc} {k:Value} (h:isKeyB d k=true):IsKey d k:=by
 unfold isKeyB at h;split at h
 ·split at h
  ·trivial
  ·cases h
 ·split at h
  ·have:=of_decide_eq_true h;exact this
  ·cases h
 ·split at h
  ·trivial
  ·cases h
 ·cases h
def kEq (d:TypeDesc) (a b:Value):Bool:=match Instr.sameNow d a b with
 | some r=>r
 | none=>false
theorem zhx {d:TypeDesc} {a b:Value} (ha:IsKey d a) (hb:IsKey d b):kEq d a b=true↔a=b:=by
 obtain ⟨r,h1,h2⟩:=sameNow_of_keys ha hb;unfold kEq;rw [h1];exact h2
def keysB (d:TypeDesc) (es:List (Value×EV)):Bool:=List.rec true (fun p _ ih=>bc (isKeyB d p.1) ih false) es
theorem zdg {d:TypeDesc}:∀ {es:List (Value×EV)},keysB d es=true→∀ p∈es,IsKey d p.1
 | [],_,p,hp=>by simp at hp
 | q::es,h,p,hp=>by
  have h':bc (isKeyB d q.1) (keysB d es) false=true:=h;rw [bc_eq] at h';split at h'
  ·rename_i hq;rcases List.mem_cons.1 hp with rfl|hp
   ·exact zbu hq
   ·exact zdg h' p hp
  ·cases h'
def findE (d:TypeDesc) (k:Value) (es:List (Value×EV)):Option EV:=List.rec none (fun p _ ih=>bc (kEq d k p.1) (some p.2) ih) es
def dropE (d:TypeDesc) (k:Value) (es:List (Value×EV)):List (Value×EV):=List.rec [] (fun p _ ih=>bc (kEq d k p.1) ih (p::ih)) es
theorem ML.find {d:TypeDesc} {k:Value} (hk:IsKey d k):∀ {es:List (Value×EV)} {l:List (Value×Value)},ML γ es l→(∀ p∈es,IsKey d p.1) →
  (findE d k es=none→∀ p∈l,p.1≠k)∧(∀ a,findE d k es=some a→∃ x,(k,x)∈l∧EC γ a x)
 | _,_,.nil,_=>⟨fun _ p hp=>by simp at hp,fun a h=>by cases h⟩
 | _,_,.cons (es:=es) (l:=l) q (a:=b) (x:=y) hc hr,h=>by
  have e:findE d k ((q,b)::es)=bc (kEq d k q) (some b) (findE d k es):=rfl;have hq:=h (q,b) (by simp);obtain ⟨i1,i2⟩:=ML.find hk hr (fun p hp=>h p (by simp [hp]));rw [e,bc_eq]
  by_cases hkq:k=q
  ·subst hkq;rw [if_pos ((zhx hk hk).2 rfl)];refine ⟨fun h=>(by cases h),fun a h=>?_⟩;injection h with h;subst h;exact ⟨y,by simp,hc⟩
  ·rw [if_neg (fun e=>hkq ((zhx hk hq).1 e))];refine ⟨fun h p hp=>?_,fun a h=>?_⟩
   ·rcases List.mem_cons.1 hp with rfl|hp
    ·exact fun e=>hkq e.symm
    ·exact i1 h p hp
   ·obtain ⟨x,h1,h2⟩:=i2 a h;exact ⟨x,by simp [h1],h2⟩
theorem ML.drop {d:TypeDesc} {k:Value} (hk:IsKey d k):∀ {es:List (Value×EV)} {l:List (Value×Value)},ML γ es l→(∀ p∈es,IsKey d p.1)→∃ l',ML γ (dropE d k es) l'∧(∀ p,p∈l'↔p∈l∧p.1≠k)∧List.Sublist l' l
 | _,_,.nil,_=>⟨[],.nil,by simp,.slnil⟩
 | _,_,.cons (es:=es) (l:=l) q (a:=b) (x:=y) hc hr,h=>by
  have e:dropE d k ((q,b)::es)=bc (kEq d k q) (dropE d k es) ((q,b)::dropE d k es):=rfl;have hq:=h (q,b) (by simp);obtain ⟨l',i1,i2,i3⟩:=ML.drop hk hr (fun p hp=>h p (by simp [hp]));rw [e,bc_eq]
  by_cases hkq:k=q
  ·subst hkq;rw [if_pos ((zhx hk hk).2 rfl)];refine ⟨l',i1,fun p=>?_,i3.cons _⟩;rw [i2 p];constructor
   ·rintro ⟨h1,h2⟩;exact ⟨by simp [h1],h2⟩
   ·rintro ⟨h1,h2⟩
    rcases List.mem_cons.1 h1 with rfl|h1
    ·exact absurd rfl h2
    ·exact ⟨h1,h2⟩
  ·rw [if_neg (fun e=>hkq ((zhx hk hq).1 e))];refine ⟨(q,y)::l',.cons q hc i1,fun p=>?_,i3.cons_cons _⟩;constructor
   ·intro h1;rcases List.mem_cons.1 h1 with rfl|h1
    ·exact ⟨by simp,fun e=>hkq e.symm⟩
    ·obtain ⟨h2,h3⟩:=(i2 p).1 h1;exact ⟨by simp [h2],h3⟩
   ·rintro ⟨h1,h2⟩
    rcases List.mem_cons.1 h1 with rfl|h1
    ·simp
    ·simp [(i2 p).2 ⟨h1,h2⟩]
theorem zaq {ents:Array MapEntry} {p:Value×Value}:p∈kvs ents↔∃ e∈ents.toList,e.key=p.1∧e.val=p.2:=by
 unfold kvs;rw [List.mem_map];constructor
 ·rintro ⟨e,h1,rfl⟩;exact ⟨e,h1,rfl,rfl⟩
 ·rintro ⟨e,h1,h2,h3⟩;exact ⟨e,h1,by rw [h2,h3]⟩
theorem zbr {ents:Array MapEntry}:(kvs ents).map (·.1)=ents.toList.map (·.key):=by
 unfold kvs;rw [List.map_map];rfl
theorem zll {ents:Array MapEntry} {clock:Nat} (hs:Stamped ents clock):∀ {e f:MapEntry},e∈ents.toList→f∈ents.toList→e.key=f.key→e=f:=by
 have h:=(stamped_iff ents clock).1 hs;have hp:=h.2.2;intro e f he hf hk;rcases List.mem_iff_getElem.1 he with ⟨i,hi,rfl⟩
 rcases List.mem_iff_getElem.1 hf with ⟨j,hj,rfl⟩;rw [List.pairwise_iff_getElem] at hp;rcases Nat.lt_trichotomy i j with h1|h1|h1
 ·exact absurd hk (hp i j hi hj h1)
 ·subst h1;rfl
 ·exact absurd hk.symm (hp j i hj hi h1)
theorem ML.keys {es:List (Value×EV)} {l:List (Value×Value)} (h:ML γ es l):es.map (·.1)=l.map (·.1):=by
 induction h with
 | nil=>rfl
 | cons k _ _ ih=>simp [ih]
theorem zj7 {d:TypeDesc} {ents:Array MapEntry} {es:List (Value×EV)} {l:List (Value×Value)} (hp:(kvs ents).Perm l) (hm:ML γ es l) (h:∀ p∈es,IsKey d p.1):∀ x∈ents.toList,IsKey d x.key:=fun x hx=>by
 have h1:x.key∈(kvs ents).map (·.1):=by rw [zbr];exact List.mem_map.2 ⟨x,hx,rfl⟩
 have h2:x.key∈l.map (·.1):=(hp.map _).mem_iff.1 h1;rw [← hm.keys] at h2;obtain ⟨p,hp1,hp2⟩:=List.mem_map.1 h2;rw [← hp2];exact h p hp1
theorem zah {l:List (Value×Value)} (h:(l.map (·.1)).Nodup):l.Nodup:=by
 induction l with
 | nil=>simp
 | cons a l ih=>
  simp only [List.map_cons,List.nodup_cons] at h ⊢;exact ⟨fun e=>h.1 (List.mem_map.2 ⟨a,e,rfl⟩),ih h.2⟩
theorem zbl {l m:List (Value×Value)} (hl:l.Nodup) (hm:m.Nodup) (h:∀ p,p∈l↔p∈m):l.Perm m:=(List.perm_ext_iff_of_nodup hl hm).2 h
def mapOf (P:Program) (t:TypeId):Option (TypeId×TypeId×TypeDesc):=match P.underlying t with
 | some (.map k e)=>match P.underlying k with
  | some d=>some (k,e,d)
  | none=>none
 | _=>none
theorem zb9 {t k e:TypeId} {d:TypeDesc} (h:mapOf P t=some (k,e,d)):P.underlying t=some (.map k e)∧P.underlying k=some d:=by
 unfold mapOf at h;split at h
 ·rename_i k' e' hu;split at h
  ·rename_i d' hd;simp only [Option.some.injEq,Prod.mk.injEq] at h;obtain ⟨rfl,rfl,rfl⟩:=h;exact ⟨hu,hd⟩
  ·cases h
 ·cases h
def mpAt (T:Tr EV) (H:Tr EK) (m:Operand):Option (Nat×List (Value×EV)):=match exVal T m with
 | some (.mp i)=>match H.get i with
  | some (.mp es)=>some (i,es)
  | _=>none
 | _=>none
theorem zj3 (hT:TOk γ T tmps) (hH:HR γ w0 H n w) {m:Operand} {i:Nat} {es:List (Value×EV)} (h:mpAt T H m=some (i,es)) :
  ∃ (b:Pl) (q:Nat) (ents:Array MapEntry) (clock:Nat) (l:List (Value×Value)),γ i=some (b,q)∧opEval tmps m = .map (some b.k)∧H.get i=some (.mp es)∧w.heap[b.k]? = some (.map ents clock)∧Stamped ents clock∧(kvs ents).Perm l∧ML γ es l:=by
 unfold mpAt at h;split at h
 case h_2=>cases h
 rename_i j hm;split at h
 case h_2=>cases h
 rename_i es' hg;simp only [Option.some.injEq,Prod.mk.injEq] at h;obtain ⟨rfl,rfl⟩:=h;have hc:=zaa hT hm;generalize hy:opEval tmps m=y at hc
 cases hc with
 | mp _ b q hγ=>
  obtain ⟨b2,q2,h1,_,ents,clock,l,h2,h3,h4,h5⟩:=hH.hp j _ hg;rw [hγ] at h1;simp only [Option.some.injEq,Prod.mk.injEq] at h1;obtain ⟨rfl,rfl⟩:=h1;exact ⟨b,q,ents,clock,l,hγ,rfl,hg,h2,h3,h4,h5⟩
def exMakeMap (hint:Option Operand) (H:Tr EK) (n:Nat):Option ER:=match hint with
 | none=>bc (Nat.ble n 65535) (some ⟨some (.mp n),H.put n (some (.mp [])),Nat.succ n⟩) none
 | some _=>none
theorem zcn {t:TypeId} (ho:o.op = .makeMap t none) (w:World):(execOp (opEval tmps) o).run P w = .ok (.value (.map (some w.heap.size))) (w.alloc (.map #[] 0)):=by
 have he:execOp (opEval tmps) o=(do pure (Next.value (← Instr.makeMap t none)):Sem Next):=by unfold execOp;rw [ho];rfl
 rw [he];refine run_v ?_;simp [Instr.makeMap,newObj,Sem.run]
theorem zto (γ:G) (b:Pl) (q:Nat) {w:World} (h:w.heap[b.k]? = some (.map #[] 0)):(EK.mp []).ok γ b q w:=⟨#[],0,[],h,stamped_empty 0,by simp [kvs],.nil⟩
theorem zje (hH:HR γ w0 H n w) {t:TypeId} {hint:Option Operand} {er:ER} (ho:o.op = .makeMap t hint) (h:exMakeMap hint H n=some er):Gives P γ w0 w (execOp (opEval tmps) o) er.val er.H er.n:=by
 unfold exMakeMap at h;split at h
 case h_2=>cases h
 rw [bc_eq] at h;split at h
 case isFalse=>cases h
 rename_i hn;injection h with h;subst h
 have hnew:HR (γ.upd n (⟨w.heap.size,0⟩,0)) w0 (H.put n (some (.mp []))) (n+1) (w.alloc (.map #[] 0)):=hH.new hn (.map #[] 0) 0 (.mp []) rfl rfl rfl rfl (zto _ _ _ (World.alloc_heap_new w (.map #[] 0)));exact ⟨_,w.alloc (.map #[] 0),G.upd_le (hH.fresh n (Nat.le_refl _)),hnew,.map (some w.heap.size),zcn ho w,.mp n ⟨w.heap.size,0⟩ 0 G.upd_same⟩
def exLookup (P:Program) (T:Tr EV) (t:TypeId) (m k:Operand) (ok:Bool) (H:Tr EK):Option EV:=match mpAt T H m with
 | some (_,es)=>match mapOf P t with
  | some (_,e,d)=>match exVal T k with
   | some (.v kv)=>bc (isKeyB d kv) (bc (keysB d es) (match findE d kv es with
    | some a=>some (bc ok (.tup [a,.v (.bool true)]) a)
    | none=>match pureOf P (zeroValue e) with
     | some z=>some (bc ok (.v (.tuple #[z,.bool false])) (.v z))
     | none=>none) none) none
   | _=>none
  | none=>none
 | none=>none
theorem zf1 (hT:TOk γ T tmps) (hH:HR γ w0 H n w) {t:TypeId} {m k:Operand} {ok:Bool} {a:EV} (ho:o.op = .lookup t m k ok) (h:exLookup P T t m k ok H=some a):Gives P γ w0 w (execOp (opEval tmps) o) (some a) H n:=by
 unfold exLookup at h;split at h
 case h_2=>cases h
 rename_i i es hm;split at h
 case h_2=>cases h
 rename_i kt e d ht;split at h
 case h_2=>cases h
 rename_i kv hk;rw [bc_eq] at h;split at h
 case isFalse=>cases h
 rename_i hkey;rw [bc_eq] at h;split at h
 case isFalse=>cases h
 rename_i hkeys;obtain ⟨b,q,ents,clock,l,hγ,hv,hg,hb,hs,hp,hl⟩:=zj3 hT hH hm;obtain ⟨hu,hd⟩:=zb9 ht;have hkv:=ec_v (zaa hT hk);have hK:=zbu hkey;have hKs:=zdg hkeys;have hE:=zj7 hp hl hKs;obtain ⟨f1,f2⟩:=ML.find hK hl hKs;have he:execOp (opEval tmps) o=(do pure (Next.value (← Instr.lookup t (opEval tmps m) (opEval tmps k) ok)):Sem Next):=by unfold execOp;rw [ho]
 rcases findNow_spec hK ents.toList 0 hE with ⟨h1,h2⟩|⟨j,e0,h1,h2,h3⟩
 ·have hnone:findE d kv es=none:=by
   cases hf:findE d kv es with
   | none=>rfl
   | some a'=>
    obtain ⟨x,g1,_⟩:=f2 a' hf;obtain ⟨e1,g2,g3,_⟩:=zaq.1 (hp.mem_iff.2 g1);exact absurd g3 (h2 e1 g2)
  rw [hnone] at h;dsimp only at h;split at h
  case h_2=>cases h
  rename_i z hz;injection h with h;subst h
  refine zab (x:=if ok then .tuple #[z,.bool false] else z) ?_ ?_ hH
  ·rw [he];refine run_v ?_;cases ok <;> simp [Instr.lookup,hv,hkv,run_underlying hu,MapKept.run_getObj_map hb,run_checkKey hd hK,run_findKey hd h1,zdd hz,Result.andThen]
  ·rw [bc_eq];cases ok
   ·exact .v _
   ·exact .v _
 ·have hmem:e0∈ents.toList:=List.mem_of_getElem? h2;have hin:(kv,e0.val)∈l:=hp.mem_iff.1 (zaq.2 ⟨e0,hmem,h3,rfl⟩)
  cases hf:findE d kv es with
  | none=>exact absurd rfl (f1 hf _ hin)
  | some a'=>
   rw [hf] at h;injection h with h;subst h
   obtain ⟨x,g1,g2⟩:=f2 a' hf;obtain ⟨e1,g3,g4,g5⟩:=zaq.1 (hp.mem_iff.2 g1);have:=zll hs g3 hmem (by rw [h3];exact g4);subst this;have g5:e1.val=x:=g5;subst g5;refine zab (x:=if ok then .tuple #[e1.val,.bool true] else e1.val) ?_ ?_ hH
   ·rw [he];refine run_v ?_;cases ok <;> simp [Instr.lookup,hv,hkv,run_underlying hu,MapKept.run_getObj_map hb,run_checkKey hd hK,run_findKey hd h1,Result.andThen]
   ·rw [bc_eq];cases ok
    ·exact g2
    ·exact .tup _ [e1.val,.bool true] rfl (ECL.cons g2 (ECL.cons (.v _) (ECL.nil γ))).2
def setEnt (d:TypeDesc) (k:Value) (a:EV) (es:List (Value×EV)):List (Value×EV):=(k,a)::dropE d k es
theorem zo3 {d:TypeDesc} {k:Value} {a:EV} {x:Value} {es:List (Value×EV)} {ents:Array MapEntry} {clock:Nat} {l:List (Value×Value)} {kt mt et:TypeId} {r:Nat} (hu:P.underlying mt=some (.map kt et)) (hd:P.underlying kt=some d) (hK:IsKey d k) (hKs:∀ p∈es,IsKey d p.1) (hb:w.heap[r]? = some (.map ents clock)) (hs:Stamped ents clock) (hp:(kvs ents).Perm l) (hl:ML γ es l) (hc:EC γ a x) :
  ∃ ents' clock',(Instr.mapUpdate mt (.map (some r)) k x).run P w = .ok () (w.putObj r (.map ents' clock'))∧Stamped ents' clock'∧∃ l',(kvs ents').Perm l'∧ML γ (setEnt d k a es) l':=by
 have hE:=zj7 hp hl hKs;obtain ⟨l',g1,g2,g3⟩:=ML.drop hK hl hKs;have hnl:(l.map (·.1)).Nodup:=((hp.map (·.1)).nodup_iff).1 (by rw [zbr];exact hs.2.2);have hnd:((((k,x)::l')).map (·.1)).Nodup:=by
  simp only [List.map_cons,List.nodup_cons];refine ⟨fun h=>?_,(g3.map _).nodup hnl⟩;obtain ⟨p,h1,h2⟩:=List.mem_map.1 h;exact ((g2 p).1 h1).2 h2
 rcases findNow_spec hK ents.toList 0 hE with ⟨h1,h2⟩|⟨j,e,h1,h2,h3⟩
 ·refine ⟨ents.push { key:=k,val:=x,born:=clock },clock+1,?_,stamped_push hs h2,(k,x)::l',?_,.cons k hc g1⟩
  ·simp [Instr.mapUpdate,run_underlying hu,MapKept.run_getObj_map hb,run_checkKey hd hK,run_findKey hd h1,MapKept.run_setObj_map _ hb,Result.andThen];rfl
  ·have hs':=stamped_push (val:=x) hs h2;refine zbl (zah (by rw [zbr];exact hs'.2.2)) (zah hnd) fun p=>?_;rw [zaq];constructor
   ·rintro ⟨e,q1,q2,q3⟩
    simp only [Array.toList_push,List.mem_append,List.mem_singleton] at q1;rcases q1 with q1|rfl
    ·exact List.mem_cons.2 (.inr ((g2 p).2 ⟨hp.mem_iff.1 (zaq.2 ⟨e,q1,q2,q3⟩),fun h=>h2 e q1 (q2.trans h)⟩))
    ·exact List.mem_cons.2 (.inl (Prod.ext q2.symm q3.symm))
   ·intro h;rcases List.mem_cons.1 h with rfl|h
    ·exact ⟨{ key:=k,val:=x,born:=clock },by simp,rfl,rfl⟩
    ·obtain ⟨e,q1,q2,q3⟩:=zaq.1 (hp.mem_iff.2 ((g2 p).1 h).1);exact ⟨e,by simp [q1],q2,q3⟩
 ·have hj:ents[j]? = some e:=by simpa using h2
  have hmem:e∈ents.toList:=List.mem_of_getElem? h2;have hkey:∀ e',ents[j]? = some e'→({ e' with key:=k,val:=x }:MapEntry).key=e'.key:=fun e' he'=>by rw [hj] at he';cases he';exact h3.symm
  have hs':=stamped_modify hs j (fun e=>{ e with key:=k,val:=x }) (fun _ _=>rfl) (fun e' _ he'=>hkey e' he')
  refine ⟨ents.modify j fun e=>{ e with key:=k,val:=x },clock,?_,hs',(k,x)::l',?_,.cons k hc g1⟩
  ·simp [Instr.mapUpdate,run_underlying hu,MapKept.run_getObj_map hb,run_checkKey hd hK,run_findKey hd h1,hj,h3,run_keyThatStays hK,MapKept.run_setObj_map _ hb,Result.andThen];rfl
  ·refine zbl (zah (by rw [zbr];exact hs'.2.2)) (zah hnd) fun p=>?_;rw [zaq];have hget:∀ i:Nat,(ents.modify j fun e=>{ e with key:=k,val:=x })[i]? = if j=i then (ents[i]?).map (fun e=>{ e with key:=k,val:=x }) else ents[i]?:=fun i=>Array.getElem?_modify ..
   constructor
   ·rintro ⟨f,q1,q2,q3⟩
    obtain ⟨i,hi⟩:=List.mem_iff_getElem?.1 q1;rw [Array.getElem?_toList,hget i] at hi
    by_cases hij:j=i
    ·subst hij;rw [if_pos rfl,hj] at hi;simp at hi;subst hi;exact List.mem_cons.2 (.inl (Prod.ext q2.symm q3.symm))
    ·rw [if_neg hij] at hi;have hf:f∈ents.toList:=List.mem_of_getElem? (by rw [Array.getElem?_toList];exact hi);refine List.mem_cons.2 (.inr ((g2 p).2 ⟨hp.mem_iff.1 (zaq.2 ⟨f,hf,q2,q3⟩),fun h=>?_⟩));have:f=e:=zll hs hf hmem (by rw [h3,q2,h]);subst this
     -- one place alone
     have hpw:=((stamped_iff ents clock).1 hs).2.2;rw [List.pairwise_iff_getElem] at hpw;obtain ⟨a1,a2⟩:=List.getElem?_eq_some_iff.1 h2;have hi':ents.toList[i]? = some f:=by rw [Array.getElem?_toList];exact hi
     obtain ⟨b1,b2⟩:=List.getElem?_eq_some_iff.1 hi';rcases Nat.lt_or_gt_of_ne hij with hlt|hlt
     ·exact hpw j i a1 b1 hlt (by rw [a2,b2])
     ·exact hpw i j b1 a1 hlt (by rw [a2,b2])
   ·intro h;rcases List.mem_cons.1 h with rfl|h
    ·refine ⟨{ e with key:=k,val:=x },List.mem_iff_getElem?.2 ⟨j,?_⟩,rfl,rfl⟩
     rw [Array.getElem?_toList,hget j,if_pos rfl,hj];rfl
    ·obtain ⟨q0,q4⟩:=(g2 p).1 h;obtain ⟨f,q1,q2,q3⟩:=zaq.1 (hp.mem_iff.2 q0);obtain ⟨i,hi⟩:=List.mem_iff_getElem?.1 q1;rw [Array.getElem?_toList] at hi;have hij:j≠i:=fun e=>by
      subst e;rw [hj] at hi;injection hi with hi;subst hi
      exact q4 (q2.symm.trans h3)
     refine ⟨f,List.mem_iff_getElem?.2 ⟨i,?_⟩,q2,q3⟩;rw [Array.getElem?_toList,hget i,if_neg hij];exact hi
def exMapUpd (P:Program) (T:Tr EV) (t:TypeId) (m k x:Operand) (H:Tr EK) (n:Nat):Option ER:=match mpAt T H m with
 | some (i,es)=>match mapOf P t with
  | some (_,_,d)=>match exVal T k with
   | some (.v kv)=>match exVal T x with
    | some a=>bc (isKeyB d kv) (bc (keysB d es) (bc (Nat.ble i 65535) (some ⟨none,H.put i (some (.mp (setEnt d kv a es))),n⟩) none) none) none
    | none=>none
   | _=>none
  | none=>none
 | none=>none
theorem zf0 (hT:TOk γ T tmps) (hH:HR γ w0 H n w) {t:TypeId} {m k x:Operand} {er:ER} (ho:execOp (opEval tmps) o=(do Instr.mapUpdate t (opEval tmps m) (opEval tmps k) (opEval tmps x);pure Next.skip:Sem Next)) (h:exMapUpd P T t m k x H n=some er):Gives P γ w0 w (execOp (opEval tmps) o) er.val er.H er.n:=by
 unfold exMapUpd at h;split at h
 case h_2=>cases h
 rename_i i es hm;split at h
 case h_2=>cases h
 rename_i kt e d ht;split at h
 case h_2=>cases h
 rename_i kv hk;split at h
 case h_2=>cases h
 rename_i a ha;rw [bc_eq] at h;split at h
 case isFalse=>cases h
 rename_i hkey;rw [bc_eq] at h;split at h
 case isFalse=>cases h
 rename_i hkeys;rw [bc_eq] at h;split at h
 case isFalse=>cases h
 rename_i hi;injection h with h;subst h
 obtain ⟨b,q,ents,clock,l,hγ,hv,hg,hb,hs,hp,hl⟩:=zj3 hT hH hm;obtain ⟨hu,hd⟩:=zb9 ht;have hkv:=ec_v (zaa hT hk);obtain ⟨ents',clock',r1,r2,l',r3,r4⟩:=zo3 (w:=w) hu hd (zbu hkey) (zdg hkeys) hb hs hp hl (zaa hT ha);have hlt:=(Array.getElem?_eq_some_iff.1 hb).1;refine ⟨γ,w.putObj b.k (.map ents' clock'),GLe.refl γ,hH.turn hi hg hγ _ (fun c hc=>World.putObj_heap_other hc) (by simp) rfl rfl rfl ⟨ents',clock',l',World.putObj_heap_same hlt,r2,r3,r4⟩,?_⟩;show (execOp (opEval tmps) o).run P w = .ok .skip _
 rw [ho,hv,hkv];simp [r1,Result.andThen]
def exDelete (P:Program) (T:Tr EV) (args:List Operand) (ats:List TypeId) (H:Tr EK) (n:Nat):Option ER:=match args with
 | [m,k]=>match ats with
  | t::_=>match mpAt T H m with
   | some (i,es)=>match mapOf P t with
    | some (_,_,d)=>match exVal T k with
     | some (.v kv)=>bc (isKeyB d kv) (bc (keysB d es) (bc (Nat.ble i 65535) (some ⟨some (.v (.tuple #[])),H.put i (some (.mp (dropE d kv es))),n⟩) none) none) none
     | _=>none
    | none=>none
   | none=>none
  | _=>none
 | _=>none
theorem ztp {d:TypeDesc} {k:Value} {es:List (Value×EV)} {ents:Array MapEntry} {clock:Nat} {l:List (Value×Value)} {kt mt et ty:TypeId} {ts:List TypeId} {r:Nat} (hu:P.underlying mt=some (.map kt et)) (hd:P.underlying kt=some d) (hK:IsKey d k) (hKs:∀ p∈es,IsKey d p.1) (hb:w.heap[r]? = some (.map ents clock)) (hs:Stamped ents clock) (hp:(kvs ents).Perm l) (hl:ML γ es l) :
  ∃ ents',(Builtin.delete_ (mt::ts).toArray ty #[.map (some r),k]).run P w = .ok (.tuple #[]) (w.putObj r (.map ents' clock))∧Stamped ents' clock∧∃ l',(kvs ents').Perm l'∧ML γ (dropE d k es) l':=by
 have hE:=zj7 hp hl hKs;obtain ⟨l',g1,g2,g3⟩:=ML.drop hK hl hKs;have hnl:(l.map (·.1)).Nodup:=((hp.map (·.1)).nodup_iff).1 (by rw [zbr];exact hs.2.2);have hnd:(l'.map (·.1)).Nodup:=(g3.map _).nodup hnl;rcases findNow_spec hK ents.toList 0 hE with ⟨h1,h2⟩|⟨j,e,h1,h2,h3⟩
 ·refine ⟨ents,?_,hs,l',?_,g1⟩
  ·simp [Builtin.delete_,run_underlying hu,MapKept.run_getObj_map hb,run_checkKey hd hK,run_findKey hd h1,MapKept.run_setObj_map _ hb,Result.andThen];rfl
  ·refine zbl (zah (by rw [zbr];exact hs.2.2)) (zah hnd) fun p=>?_;rw [g2 p,hp.mem_iff];refine ⟨fun h=>⟨h,fun e=>?_⟩,fun h=>h.1⟩;obtain ⟨f,q1,q2,q3⟩:=zaq.1 (hp.mem_iff.2 h);exact h2 f q1 (q2.trans e)
 ·have hs':=stamped_erase hs j;refine ⟨ents.eraseIdxIfInBounds j,?_,hs',l',?_,g1⟩
  ·simp [Builtin.delete_,run_underlying hu,MapKept.run_getObj_map hb,run_checkKey hd hK,run_findKey hd h1,MapKept.run_setObj_map _ hb,Result.andThen];rfl
  ·refine zbl (zah (by rw [zbr];exact hs'.2.2)) (zah hnd) fun p=>?_;have hj:j<ents.size:=by
    have:=(List.getElem?_eq_some_iff.1 h2).1;simpa using this
   have he:(ents.eraseIdxIfInBounds j).toList=ents.toList.eraseIdx j:=by
    unfold Array.eraseIdxIfInBounds;rw [dif_pos hj,Array.toList_eraseIdx]
   rw [g2 p,zaq,he];constructor
   ·rintro ⟨f,q1,q2,q3⟩
    obtain ⟨i,hi,hfi⟩:=List.mem_eraseIdx_iff_getElem?.1 q1;have hf:f∈ents.toList:=List.mem_of_getElem? hfi;refine ⟨hp.mem_iff.1 (zaq.2 ⟨f,hf,q2,q3⟩),fun hk=>?_⟩;have hpw:=((stamped_iff ents clock).1 hs).2.2;rw [List.pairwise_iff_getElem] at hpw;obtain ⟨a1,a2⟩:=List.getElem?_eq_some_iff.1 h2;obtain ⟨b1,b2⟩:=List.getElem?_eq_some_iff.1 hfi;rcases Nat.lt_or_gt_of_ne hi with hlt|hlt
    ·exact hpw i j b1 a1 hlt (by rw [a2,b2,h3,q2,hk])
    ·exact hpw j i a1 b1 hlt (by rw [a2,b2,h3,q2,hk])
   ·rintro ⟨q0,q4⟩
    obtain ⟨f,q1,q2,q3⟩:=zaq.1 (hp.mem_iff.2 q0);obtain ⟨i,hi⟩:=List.mem_iff_getElem?.1 q1;refine ⟨f,List.mem_eraseIdx_iff_getElem?.2 ⟨i,fun e2=>?_,hi⟩,q2,q3⟩;subst e2;rw [h2] at hi;injection hi with hi;subst hi;exact q4 (q2.symm.trans h3)
theorem zkg (hT:TOk γ T tmps) (hH:HR γ w0 H n w) {args:Array Operand} {ats:Array TypeId} {er:ER} (ho:o.op = .call { callee:=.builtin .delete,args:=args,argTypes:=ats }) (h:exDelete P T args.toList ats.toList H n=some er) :
  Gives P γ w0 w (execOp (opEval tmps) o) er.val er.H er.n:=by
 unfold exDelete at h;split at h
 case h_2=>cases h
 rename_i m k hargs;split at h
 case h_2=>cases h
 rename_i t ts hats;split at h
 case h_2=>cases h
 rename_i i es hm;split at h
 case h_2=>cases h
 rename_i kt e d ht;split at h
 case h_2=>cases h
 rename_i kv hk;rw [bc_eq] at h;split at h
 case isFalse=>cases h
 rename_i hkey;rw [bc_eq] at h;split at h
 case isFalse=>cases h
 rename_i hkeys;rw [bc_eq] at h;split at h
 case isFalse=>cases h
 rename_i hi;injection h with h;subst h
 have ha2:args = #[m,k]:=by apply Array.ext';simpa using hargs
 have ha3:ats=(t::ts).toArray:=by apply Array.ext';simpa using hats
 subst ha2;subst ha3;obtain ⟨b,q,ents,clock,l,hγ,hv,hg,hb,hs,hp,hl⟩:=zj3 hT hH hm;obtain ⟨hu,hd⟩:=zb9 ht;have hkv:=ec_v (zaa hT hk);obtain ⟨ents',r1,r2,l',r3,r4⟩:=ztp (w:=w) (ty:=o.type) (ts:=ts) hu hd (zbu hkey) (zdg hkeys) hb hs hp hl;have hlt:=(Array.getElem?_eq_some_iff.1 hb).1;refine ⟨γ,w.putObj b.k (.map ents' clock),GLe.refl γ,hH.turn hi hg hγ _ (fun c hc=>World.putObj_heap_other hc) (by simp) rfl rfl rfl ⟨ents',clock,l',World.putObj_heap_same hlt,r2,r3,r4⟩,.tuple #[],?_,.v _⟩
 simp [execOp,ho,resolve,invoke,builtin,hv,hkv,r1]
end
section
open Go.RowKit
variable {P:Program} {γ:G} {w0:Bs} {w:World} {H H':Tr EK} {n n':Nat} {T:Tr EV} {tmps:Array Value} {o:Oper} {r:Option EV}
def isU8 (P:Program) (e:TypeId):Bool:=match P.underlying e with
 | some (.int .u8)=>true
 | _=>false
theorem zj8 {e:TypeId} (h:isU8 P e=true):P.underlying e=some (.int .u8):=by
 unfold isU8 at h;split at h
 ·assumption
 ·cases h
def isStr (P:Program) (e:TypeId):Bool:=match P.underlying e with
 | some .string=>true
 | _=>false
theorem zhy {e:TypeId} (h:isStr P e=true):P.underlying e=some .string:=by
 unfold isStr at h;split at h
 ·assumption
 ·cases h
def bytesE (s:ByteArray):List EV:=s.data.toList.map fun b=>.v (.int .u8 b.toNat)
def exToB (P:Program) (T:Tr EV) (src dst:TypeId) (x:Operand) (H:Tr EK) (n:Nat):Option ER:=match exVal T x with
 | some (.v (.string s))=>match elemOf P dst with
  | some e=>bc (isStr P src) (bc (isU8 P e) (bc (Nat.ble (llen (bytesE s)) 65536) (bc (Nat.ble n 65535) (some ⟨some (.sl n 1 0 (llen (bytesE s)) none),H.put n (some (.cells e (bytesE s) false)),Nat.succ n⟩) none) none) none) none
  | none=>none
 | _=>none
theorem zlz (hT:TOk γ T tmps) (hH:HR γ w0 H n w) {src dst:TypeId} {x:Operand} {er:ER} (ho:o.op = .convert src dst x) (h:exToB P T src dst x H n=some er):Gives P γ w0 w (execOp (opEval tmps) o) er.val er.H er.n:=by
 unfold exToB at h;split at h
 case h_2=>cases h
 rename_i s hx;split at h
 case h_2=>cases h
 rename_i e he;rw [bc_eq] at h;split at h
 case isFalse=>cases h
 rename_i h1;rw [bc_eq] at h;split at h
 case isFalse=>cases h
 rename_i h2;rw [bc_eq] at h;split at h
 case isFalse=>cases h
 rename_i h3;rw [bc_eq] at h;split at h
 case isFalse=>cases h
 rename_i h4;injection h with h;subst h
 have h3:=Nat.le_of_ble_eq_true h3;have hbl:llen (bytesE s)=s.size:=by
  rw [zac];unfold bytesE;rw [List.length_map,Array.length_toList];rfl
 rw [hbl] at h3 ⊢;have hxv:=ec_v (zaa hT hx);have hrun:=run_bytes_of_string (P:=P) w src dst e s (zhy h1) (zcj he) (zj8 h2);have hc1:=grownCap_ge w s.size 0 e;have hc2:=grownCap_le_maxLen w s.size 0 e (by unfold maxLen;omega);generalize grownCap w s.size 0 e=gc at hrun hc1 hc2;have hrs:(bytesRow s gc).size=gc:=by
  unfold bytesRow;have:s.data.size=s.size:=rfl;simp;omega
 have hH1:HR γ w0 H n w.drew:=hH.step rfl rfl rfl rfl;have hlay:=hH1.lay (w':=w.drew.alloc (.cells (bytesRow s gc) e ((bytesRow s gc).size,(bytesRow s gc).size+1))) h4 gc (.cells e (bytesE s) false)
  (fun c hc=>by
   have hc:c<w.heap.size:=hc;show (w.heap.push _)[c]? = w.heap[c]?;rw [Array.getElem?_push_lt hc];simp [hc])
  (by show w.heap.size<(w.heap.push _).size;simp) rfl rfl rfl
  ⟨bytesRow s gc,⟨((bytesRow s gc).size,(bytesRow s gc).size+1),by show (w.heap.push _)[w.heap.size]? = _;simp,.inr (Nat.le_refl _)⟩,by rw [hrs];exact (Nat.zero_add _).symm,by rw [← zac,hbl];exact hc1,(fun e=>by cases e),by
   show ECL _ _ (((bytesRow s gc).toList.drop 0).take _);rw [List.drop_zero,← zac,hbl];have e1:(bytesRow s gc).toList.take s.size=s.data.toList.map fun b=>Value.int .u8 b.toNat:=by
    unfold bytesRow;rw [Array.toList_append,List.take_append_of_le_length (by simp)];rw [List.take_of_length_le (by simp)];simp
   rw [e1];have:=ECL.vals (γ.upd n (⟨w.drew.heap.size,0⟩,gc)) (s.data.toList.map fun b=>Value.int .u8 b.toNat);rw [List.map_map] at this;exact this⟩
 refine ⟨_,_,G.upd_le (hH1.fresh n (Nat.le_refl _)),hlay,.slice (some ⟨w.heap.size,0,none⟩) s.size gc,?_,?_⟩
 ·have he':execOp (opEval tmps) o=(do pure (Next.value (← convert src dst (opEval tmps x))):Sem Next):=by unfold execOp;rw [ho]
  rw [he',hxv];exact run_v hrun
 ·exact .sl n 1 0 s.size none ⟨w.heap.size,0⟩ gc gc G.upd_same hc1 hc2 (by omega) (fun k e=>by cases e) (fun _=>by omega)
def u8Of (a:EV):Option Int:=match a with
 | .v (.int .u8 k)=>some k
 | _=>none
def u8sOf (cs:List EV):Option (List Int):=List.rec (some []) (fun a _ ih=>match u8Of a with
 | some k=>match ih with
  | some l=>some (k::l)
  | none=>none
 | none=>none) cs
theorem zk7:∀ {cs:List EV} {l:List Int},u8sOf cs=some l→cs=l.map fun k=>.v (.int .u8 k)
 | [],l,h=>by simp [u8sOf] at h;subst h;rfl
 | a::cs,l,h=>by
  have h':(match u8Of a with
   | some k=>match u8sOf cs with
    | some l=>some (k::l)
    | none=>none
   | none=>none)=some l:=h
  split at h'
  case h_2=>cases h'
  rename_i k hk;split at h'
  case h_2=>cases h'
  rename_i l' hl;injection h' with h';subst h'
  unfold u8Of at hk;split at hk
  case h_2=>cases hk
  injection hk with hk;subst hk
  rw [zk7 hl];rfl
def exFromB (P:Program) (T:Tr EV) (src dst:TypeId) (x:Operand) (H:Tr EK):Option EV:=match exVal T x with
 | some (.sl i z off len _)=>match elemOf P src with
  | some e=>match cellsAt H i with
   | some (_,cs,_)=>match u8sOf ((cs.drop off).take len) with
    | some xs=>bc (Nat.beq z 1) (bc (isStr P dst) (bc (isU8 P e) (bc (Nat.beq (llen xs) len) (some (.v (.string (strOfNums xs)))) none) none) none) none
    | none=>none
   | none=>none
  | none=>none
 | _=>none
theorem zm9 (hT:TOk γ T tmps) (hH:HR γ w0 H n w) {src dst:TypeId} {x:Operand} {a:EV} (ho:o.op = .convert src dst x) (h:exFromB P T src dst x H=some a):Gives P γ w0 w (execOp (opEval tmps) o) (some a) H n:=by
 unfold exFromB at h;split at h
 case h_2=>cases h
 rename_i i z off len cap hx;split at h
 case h_2=>cases h
 rename_i e he;split at h
 case h_2=>cases h
 rename_i ty cs full hcs;split at h
 case h_2=>cases h
 rename_i xs hxs;rw [bc_eq] at h;split at h
 case isFalse=>cases h
 rw [bc_eq] at h;split at h
 case isFalse=>cases h
 rename_i h2;rw [bc_eq] at h;split at h
 case isFalse=>cases h
 rename_i h3;rw [bc_eq] at h;split at h
 case isFalse=>cases h
 rename_i h4;injection h with h;subst h
 have h4:=Nat.eq_of_beq_eq_true h4;rw [zac] at h4;obtain ⟨b,m,c,hγ,hxv,_⟩:=ec_sl (zaa hT hx);obtain ⟨hg,b2,m2,ca,hγ2,hb,hsz,hle,hfull,hc⟩:=za7 hH hcs;rw [hγ] at hγ2;simp only [Option.some.injEq,Prod.mk.injEq] at hγ2;obtain ⟨rfl,rfl⟩:=hγ2;refine zab (x:=.string (strOfNums xs)) ?_ (.v _) hH;have he':execOp (opEval tmps) o=(do pure (Next.value (← convert src dst (opEval tmps x))):Sem Next):=by unfold execOp;rw [ho]
 rw [he',hxv];refine run_v (run_convert_bytes_arg w src e (zcj he) (zj8 h3) b.k (b.s+off) len c xs h4 (fun j hj=>?_) dst (zhy h2));have hl:=zk7 hxs;have h1:((cs.drop off).take len)[j]? = some (.v (.int .u8 (xs.getD j 0))):=by
  rw [hl,List.getElem?_map,List.getElem?_eq_getElem (by omega)];simp [List.getD,List.getElem?_eq_getElem (show j<xs.length by omega)]
 rw [List.getElem?_take,if_pos hj,List.getElem?_drop] at h1;obtain ⟨u,hu1,hu2⟩:=hc.at h1;rw [List.getElem?_take] at hu1;split at hu1
 case isFalse=>cases hu1
 rw [List.getElem?_drop] at hu1;have hu2:=ec_v hu2;subst hu2;have:=(zae (off:=off+j) hb).1;unfold Pl.at at this;rw [Nat.add_assoc,this];simpa using hu1
def isInt (P:Program) (e:TypeId):Bool:=match P.underlying e with
 | some (.int _)=>true
 | _=>false
theorem zlr {e:TypeId} (h:isInt P e=true):∃ k,P.underlying e=some (.int k):=by
 unfold isInt at h;split at h
 ·rename_i k hk;exact ⟨k,hk⟩
 ·cases h
def exAppZ (P:Program) (T:Tr EV) (x y:Operand) (t u:TypeId) (H:Tr EK) (n:Nat):Option ER:=match exVal T x with
 | some (.v (.slice none 0 0))=>match exVal T y with
  | some (.v (.int _ (.ofNat m)))=>match elemInfo P t with
   | some ei=>match Sx.zeroL P ei.e with
    | some zs=>bc (isInt P u) (bc (Nat.blt 0 m) (bc (Nat.ble m 4096) (bc (Nat.ble n 65535) (some ⟨some (.sl n ei.z 0 m none),H.put n (some (.cells ei.e (zeroCellsE zs (m*ei.z)) false)),Nat.succ n⟩) none) none) none) none
    | none=>none
   | none=>none
  | _=>none
 | _=>none
theorem zt1 {e:TypeId} {zs:List Value} {zv:Value} {z m gc:Nat} (hzl:zv.cells.toList=zs) (hz:zv.cells.size=z) (hc:m≤gc) (γ':G) :
  (EK.cells e (zeroCellsE zs (m*z)) false).ok γ' ⟨w.heap.size,0⟩ (gc*z) (w.drew.alloc (.cells (Builtin.zeroCells zv.cells m++Builtin.zeroCells zv.cells (gc-m)) e)):=by
 have hz1:∀ k,(Builtin.zeroCells zv.cells k).size=k*z:=fun k=>by rw [size_zeroCells,hz]
 have hza:zs.toArray=zv.cells:=by apply Array.ext';simpa using hzl.symm
 have hze:ECL γ' (zeroCellsE zs (m*z)) (Builtin.zeroCells zv.cells m).toList:=by
  have:=za4 (γ:=γ') zs (m*z);rw [hza] at this;unfold Builtin.zeroCells;rw [hz] at this ⊢;exact this
 have hzn:(zeroCellsE zs (m*z)).length=m*z:=by rw [hze.1,Array.length_toList,hz1]
 have hmz:m*z≤gc*z:=Nat.mul_le_mul_right _ hc;have hsum:m*z+(gc-m)*z=gc*z:=by rw [← Nat.add_mul,show m+(gc-m)=gc by omega]
 refine ⟨_,.of (by show (w.heap.push _)[w.heap.size]? = _;simp;rfl),by rw [Array.size_append,hz1,hz1,hsum];exact (Nat.zero_add _).symm,by rw [hzn];exact hmz,(fun e=>by cases e),?_⟩;show ECL _ _ (List.take _ (List.drop 0 _));rw [List.drop_zero,hzn,Array.toList_append,List.take_append_of_le_length (by rw [Array.length_toList,hz1];exact Nat.le_refl _),List.take_of_length_le (by rw [Array.length_toList,hz1];exact Nat.le_refl _)];exact hze
theorem zte (hH:HR γ w0 H n w) (hn:Nat.ble n 65535=true) {e:TypeId} {zs:List Value} {zv:Value} {z m gc:Nat} (hzl:zv.cells.toList=zs) (hz:zv.cells.size=z) (hc:m≤gc) :
  HR (γ.upd n (⟨w.heap.size,0⟩,gc*z)) w0 (H.put n (some (.cells e (zeroCellsE zs (m*z)) false))) (Nat.succ n) (w.drew.alloc (.cells (Builtin.zeroCells zv.cells m++Builtin.zeroCells zv.cells (gc-m)) e)):=by
 have hH1:HR γ w0 H n w.drew:=hH.step rfl rfl rfl rfl;exact hH1.lay hn (gc*z) (.cells e (zeroCellsE zs (m*z)) false) (fun c hc=>by
   have hc:c<w.heap.size:=hc;show (w.heap.push _)[c]? = w.heap[c]?;rw [Array.getElem?_push_lt hc];simp [hc]) (by show w.heap.size<(w.heap.push _).size;simp) rfl rfl rfl (zt1 hzl hz hc _)
theorem zr8 {x y:Operand} {t u e:TypeId} {inf:TypeInfo} {zv:Value} {kq kn:IntKind} {m:Nat} (ho:o.op = .call { callee:=.builtin .append,args:=#[x,y],argTypes:=#[t,u] }) (hx:opEval tmps x = .slice none 0 0) (hy:opEval tmps y = .int kq m)
  (hu:P.underlying t=some (.slice e)) (hkn:P.underlying u=some (.int kn)) (hi:P.info? e=some inf) (hz:inf.zero=some zv) (h0:0<m) (hp0:0<inf.size) (h1:(m:Int)≤9223372036854775807) (h2:m*inf.bytes≤281474976710656) (w:World) :
  (execOp (opEval tmps) o).run P w = .ok (.value (.slice (some ⟨w.heap.size,0,none⟩) m (grownCap w m 0 e))) (w.drew.alloc (.cells (Builtin.zeroCells zv.cells m++Builtin.zeroCells zv.cells (grownCap w m 0 e-m)) e)):=by
 have hrun:=Lib.run_append_nil_zeros (P:=P) w t u o.type e inf zv kq kn hu hkn hi hz m h0 hp0 h1 h2;generalize w.drew.alloc (.cells (Builtin.zeroCells zv.cells m++Builtin.zeroCells zv.cells (grownCap w m 0 e-m)) e)=w2 at hrun ⊢;generalize Value.slice (some ⟨w.heap.size,0,none⟩) m (grownCap w m 0 e)=v2 at hrun ⊢;have hrun2:(Builtin.append_ #[t,u] o.type #[opEval tmps x,opEval tmps y]).run P w = .ok v2 w2:=by rw [hx,hy];exact hrun
 simp [execOp,ho,resolve,invoke,builtin,hrun2]
theorem zgz (hH:HR γ w0 H n w) {x y:Operand} {t u e:TypeId} {inf:TypeInfo} {zv:Value} {zs:List Value} {kq kn:IntKind} {m z:Nat} (ho:o.op = .call { callee:=.builtin .append,args:=#[x,y],argTypes:=#[t,u] }) (hx:opEval tmps x = .slice none 0 0) (hy:opEval tmps y = .int kq m)
  (hu:P.underlying t=some (.slice e)) (hkn:P.underlying u=some (.int kn)) (hi:P.info? e=some inf) (hz:inf.zero=some zv) (hzl:zv.cells.toList=zs) (hzz:zv.cells.size=z) (h0:0<m) (hp0:0<inf.size) (h3:m≤4096) (h2:m*inf.bytes≤281474976710656) (hn:Nat.ble n 65535=true) :
  Gives P γ w0 w (execOp (opEval tmps) o) (some (.sl n z 0 m none)) (H.put n (some (.cells e (zeroCellsE zs (m*z)) false))) (Nat.succ n):=by
 have hc1:=grownCap_ge w m 0 e;have hc2:=grownCap_le_maxLen w m 0 e (by unfold maxLen;omega);have hrun:=zr8 (P:=P) ho hx hy hu hkn hi hz h0 hp0 (by omega) h2 w;have hlay:=zte (e:=e) hH hn hzl hzz hc1;generalize grownCap w m 0 e=gc at hrun hc1 hc2 hlay;exact ⟨_,_,G.upd_le (hH.fresh n (Nat.le_refl _)),hlay,_,hrun,.sl n z 0 m none ⟨w.heap.size,0⟩ (gc*z) gc G.upd_same hc1 hc2 (by omega) (fun k e=>by cases e) (fun _=>by omega)⟩
theorem zp5 (hT:TOk γ T tmps) (hH:HR γ w0 H n w) {x y:Operand} {t u:TypeId} {er:ER} (ho:o.op = .call { callee:=.builtin .append,args:=#[x,y],argTypes:=#[t,u] }) (h:exAppZ P T x y t u H n=some er):Gives P γ w0 w (execOp (opEval tmps) o) er.val er.H er.n:=by
 unfold exAppZ at h;split at h
 case h_2=>cases h
 rename_i hx;split at h
 case h_2=>cases h
 rename_i kq m hy;split at h
 case h_2=>cases h
 rename_i ei hei;split at h
 case h_2=>cases h
 rename_i zs hzs;rw [bc_eq] at h;split at h
 case isFalse=>cases h
 rename_i h1;rw [bc_eq] at h;split at h
 case isFalse=>cases h
 rename_i h2;rw [bc_eq] at h;split at h
 case isFalse=>cases h
 rename_i h3;rw [bc_eq] at h;split at h
 case isFalse=>cases h
 rename_i h4;injection h with h;subst h
 have h2:=zad h2;have h3:=Nat.le_of_ble_eq_true h3;obtain ⟨kn,hkn⟩:=zlr h1;obtain ⟨hu,inf,zv,hi,hz,hsz,hzsz,hpos,hby⟩:=zaj hei;obtain ⟨inf2,zv2,hi2,hz2,hzl⟩:=zb3 hzs;rw [hi] at hi2;injection hi2 with hi2;subst hi2
 rw [hz] at hz2;injection hz2 with hz2;subst hz2
 have hb2:m*inf.bytes≤281474976710656:=Nat.le_trans (Nat.mul_le_mul h3 hby) (by decide);exact zgz hH ho (ec_v (zaa hT hx)) (ec_v (zaa hT hy)) hu hkn hi hz (by simpa using hzl) hzsz h2 (by rw [hsz];exact hpos) h3 hb2 h4
end
section
open Go.RowKit
variable {P:Program} {γ:G} {w0:Bs} {w:World} {H H':Tr EK} {n n':Nat} {T:Tr EV} {tmps:Array Value} {o:Oper} {r:Option EV}
def keep (a:Option EV) (H:Tr EK) (n:Nat):Option ER:=match a with
 | some a=>some ⟨some a,H,n⟩
 | none=>none
def orPure (a:Option ER) (P:Program) (T:Tr EV) (o:Oper) (H:Tr EK) (n:Nat):Option ER:=match a with
 | some e=>some e
 | none=>match exPure P T o with
  | some v=>some ⟨some (.v v),H,n⟩
  | none=>none
def OK (P:Program) (γ:G) (w0:Bs) (w:World) (tmps:Array Value) (o:Oper) (e:Option ER):Prop:=∀ er,e=some er→Gives P γ w0 w (execOp (opEval tmps) o) er.val er.H er.n
theorem zaz {a:Option EV} (h:∀ b,a=some b→Gives P γ w0 w (execOp (opEval tmps) o) (some b) H n):OK P γ w0 w tmps o (keep a H n):=fun er he=>by
 unfold keep at he;split at he
 ·rename_i b;injection he with he;subst he
  exact h b rfl
 ·cases he
theorem za9 (hT:TOk γ T tmps) (hH:HR γ w0 H n w) {a:Option ER} (h:OK P γ w0 w tmps o a):OK P γ w0 w tmps o (orPure a P T o H n):=fun er he=>by
 unfold orPure at he;split at he
 ·rename_i e;injection he with he;subst he
  exact h e rfl
 ·split at he
  ·rename_i v hv;injection he with he;subst he
   exact zab (zpx hT hv w) (.v v) hH
  ·cases he
theorem zfp:OK P γ w0 w tmps o none:=fun er he=>by cases he
def exPick (T:Tr EV) (c a b:Operand):Option EV:=match exVal T c with
 | some (.v (.bool t))=>bc t (exVal T a) (exVal T b)
 | _=>none
theorem zpy (hT:TOk γ T tmps) (hH:HR γ w0 H n w) {c x y:Operand} {a:EV} (ho:o.op = .pick c x y) (h:exPick T c x y=some a):Gives P γ w0 w (execOp (opEval tmps) o) (some a) H n:=by
 unfold exPick at h;split at h
 case h_2=>cases h
 rename_i t hc;rw [bc_eq] at h;have hcv:=ec_v (zaa hT hc)
 cases t with
 | true=>exact zab (x:=opEval tmps x) (by simp [execOp,ho,hcv,asBool]) (zaa hT h) hH
 | false=>exact zab (x:=opEval tmps y) (by simp [execOp,ho,hcv,asBool]) (zaa hT h) hH
def exBin (T:Tr EV) (op:BinOp) (x y:Operand):Option EV:=match exVal T x with
 | some (.v u)=>match exVal T y with
  | some (.v v)=>match Sx.binV op u v with
   | some r=>some (.v r)
   | none=>none
  | _=>none
 | _=>none
theorem zsw (hT:TOk γ T tmps) (hH:HR γ w0 H n w) {op:BinOp} {t t':TypeId} {x y:Operand} {a:EV} (ho:o.op = .binOp op t x y t') (h:exBin T op x y=some a):Gives P γ w0 w (execOp (opEval tmps) o) (some a) H n:=by
 unfold exBin at h;split at h
 case h_2=>cases h
 rename_i u hu;split at h
 case h_2=>cases h
 rename_i v hv;split at h
 case h_2=>cases h
 rename_i r hr;injection h with h;subst h
 have h1:=ec_v (zaa hT hu);have h2:=ec_v (zaa hT hv);refine zab (x:=r) ?_ (.v r) hH;have hrun:=Sx.run_binV (P:=P) (w:=w) (t:=t) (x:=x) (y:=y) hr;have he:execOp (opEval tmps) o=(do pure (Next.value (← (do eqGuard op t x y u v;binOp op t u v:Sem Value))):Sem Next):=by
  unfold execOp;rw [ho];simp only [h1,h2]
 rw [he];exact run_v hrun
def neqB (op:BinOp):Option Bool:=match op with
 | .eql=>some false
 | .neq=>some true
 | _=>none
def exNilEq (P:Program) (T:Tr EV) (op:BinOp) (t:TypeId) (x y:Operand):Option EV:=match neqB op with
 | some b=>match exVal T x with
  | some (.sl _ _ _ _ _)=>match exVal T y with
   | some (.v (.slice none _ _))=>match P.underlying t with
    | some (.slice _)=>some (.v (.bool b))
    | _=>none
   | _=>none
  | some (.fn _ _)=>match exVal T y with
   | some (.v .nilFunc)=>match P.underlying t with
    | some (.func _ _ _)=>some (.v (.bool b))
    | _=>none
   | _=>none
  | _=>none
 | none=>none
theorem zc1 {t e:TypeId} (hu:P.underlying t=some (.slice e)) (a:Addr) (l c:Nat) (l2 c2:Nat) (w:World):(Op.equal t (.slice (some a) l c) (.slice none l2 c2)).run P w = .ok false w:=by
 show (Op.equalIn (9999+1) t (.slice (some a) l c) (.slice none l2 c2)).run P w = .ok false w;unfold Op.equalIn;rw [Sem.run_bind,run_underlying hu,Result.andThen_ok];rfl
theorem zjw {t:TypeId} {ps rs:Array TypeId} {vv:Bool} (hu:P.underlying t=some (.func ps rs vv)) (f:Fn) (x y:Array Value) (w:World):(Op.equal t (.func f x y) .nilFunc).run P w = .ok false w:=by
 show (Op.equalIn (9999+1) t (.func f x y) .nilFunc).run P w = .ok false w;unfold Op.equalIn;rw [Sem.run_bind,run_underlying hu,Result.andThen_ok];rfl
theorem ziv {op:BinOp} {b:Bool} (hb:neqB op=some b) {t:TypeId} {x y:Operand} {u v:Value} (hg:∀ op,eqGuard op t x y u v=pure ()) (h1:binOp .eql t u v=do pure (.bool (← Op.equal t u v))) (h2:binOp .neq t u v=do pure (.bool (!(← Op.equal t u v))))
  (hr:(Op.equal t u v).run P w = .ok false w):(do eqGuard op t x y u v;binOp op t u v:Sem Value).run P w = .ok (.bool b) w:=by
 rw [hg];cases op <;> simp [neqB] at hb <;> subst hb
 ·rw [h1];simp [hr]
 ·rw [h2];simp [hr]
theorem zm7 (hT:TOk γ T tmps) (hH:HR γ w0 H n w) {op:BinOp} {t t':TypeId} {x y:Operand} {a:EV} (ho:o.op = .binOp op t x y t') (h:exNilEq P T op t x y=some a):Gives P γ w0 w (execOp (opEval tmps) o) (some a) H n:=by
 unfold exNilEq at h;split at h
 case h_2=>cases h
 rename_i b hb;have hex:∀ u v:Value,opEval tmps x=u→opEval tmps y=v→execOp (opEval tmps) o=(do pure (Next.value (← (do eqGuard op t x y u v;binOp op t u v:Sem Value))):Sem Next):=fun u v h1 h2=>by
  unfold execOp;rw [ho];simp only [h1,h2]
 split at h
 ·rename_i i z off len cap hx;split at h
  case h_2=>cases h
  rename_i l c hy;split at h
  case h_2=>cases h
  rename_i e hu;injection h with h;subst h
  obtain ⟨bb,m,c',_,he,_⟩:=ec_sl (zaa hT hx);have h2:=ec_v (zaa hT hy);refine zab (x:=.bool b) ?_ (.v _) hH;rw [hex _ _ he h2];exact run_v (ziv hb (fun op=>by cases op <;> rfl) rfl rfl (zc1 hu _ _ _ _ _ w))
 ·rename_i f l hx;split at h
  case h_2=>cases h
  rename_i hy;split at h
  case h_2=>cases h
  rename_i ps rs vv hu;injection h with h;subst h
  have hc:=zaa hT hx;generalize hxx:opEval tmps x=xx at hc
  cases hc with
  | fn _ _ vs _ _=>
   have h2:=ec_v (zaa hT hy);refine zab (x:=.bool b) ?_ (.v _) hH;rw [hex _ _ hxx h2];exact run_v (ziv hb (fun op=>by cases op <;> rfl) rfl rfl (zjw hu _ _ _ w))
 ·cases h
def exApp (P:Program) (T:Tr EV) (args:List Operand) (ats:List TypeId) (H:Tr EK) (n:Nat):Option ER:=match args with
 | [x,y]=>match ats with
  | [t,u]=>bc (Nat.beq t u) (match exVal T x with
   | some a=>match exVal T y with
    | some b=>match exAppNil P t a b with
     | some r=>some ⟨some r,H,n⟩
     | none=>exAppend P t a b H n
    | none=>none
   | none=>none) (exAppZ P T x y t u H n)
  | _=>none
 | _=>none
theorem zsx (hT:TOk γ T tmps) (hH:HR γ w0 H n w) {args:Array Operand} {ats:Array TypeId} (ho:o.op = .call { callee:=.builtin .append,args:=args,argTypes:=ats }):OK P γ w0 w tmps o (exApp P T args.toList ats.toList H n):=fun er h=>by
 unfold exApp at h;split at h
 case h_2=>cases h
 rename_i x y hargs;split at h
 case h_2=>cases h
 rename_i t u hats;rw [bc_eq] at h;split at h
 case isFalse=>
  have ha2:args = #[x,y]:=by apply Array.ext';simpa using hargs
  have ha3:ats = #[t,u]:=by apply Array.ext';simpa using hats
  subst ha2;subst ha3;exact zp5 hT hH ho h
 rename_i htu;have htu:=Nat.eq_of_beq_eq_true htu;subst htu;split at h
 case h_2=>cases h
 rename_i a ha;split at h
 case h_2=>cases h
 rename_i b hb;have ha2:args = #[x,y]:=by apply Array.ext';simpa using hargs
 have ha3:ats = #[t,t]:=by apply Array.ext';simpa using hats
 subst ha2;subst ha3;split at h
 ·rename_i r hr;injection h with h;subst h
  obtain ⟨q1,q2⟩:=zki (P:=P) (w:=w) (ty:=o.type) (zaa hT ha) (zaa hT hb) hr;refine ⟨γ,w,GLe.refl γ,hH,_,?_,q1⟩;simp [execOp,ho,resolve,invoke,builtin,q2]
 ·obtain ⟨γ',w',v',h1,h2,h3,av,h4,h5⟩:=zkh (ty:=o.type) hT hH (zaa hT ha) (zaa hT hb) h;refine ⟨γ',w',h1,h2,?_⟩;rw [h4];refine ⟨v',?_,h5⟩;simp [execOp,ho,resolve,invoke,builtin,h3]
def exBuiltin (P:Program) (T:Tr EV) (b:Builtin) (args:List Operand) (ats:List TypeId) (H:Tr EK) (n:Nat):Option ER:=match b with
 | .append=>exApp P T args ats H n
 | .copy=>exCopy P T args ats H n
 | .clear=>exClear P T args ats H n
 | .delete=>exDelete P T args ats H n
 | .len=>match args with
  | [x]=>match ats with
   | [t]=>keep (exLen P T x t) H n
   | _=>none
  | _=>none
 | _=>none
def exConvert (P:Program) (T:Tr EV) (src dst:TypeId) (x:Operand) (o:Oper) (H:Tr EK) (n:Nat):Option ER:=match exToB P T src dst x H n with
 | some er=>some er
 | none=>orPure (keep (exFromB P T src dst x H) H n) P T o H n
def exOp0 (P:Program) (T:Tr EV) (o:Oper) (H:Tr EK) (n:Nat):Option ER:=match o.op with
 | .move x=>keep (exVal T x) H n
 | .assign x=>keep (exVal T x) H n
 | .pick c a b=>keep (exPick T c a b) H n
 | .alloc t=>exAllocB P t H n
 | .box t x=>exBox T t x H n
 | .build t parts=>keep (exBuild P T t parts) H n
 | .buildSlice t len parts=>match exBS0 P t len parts H n with
  | some e=>some e
  | none=>exBuildSlice P T t len parts H n
 | .load t x=>keep (exLoad P T t x H) H n
 | .store t x y=>exStore P T t x y H n
 | .nilCheck x=>orPure (keep (exNil T x) H n) P T o H n
 | .binOp op t x y _=>orPure (match exBin T op x y with
  | some a=>keep (some a) H n
  | none=>keep (exNilEq P T op t x y) H n) P T o H n
 | .makeFunc fn first captured=>keep (exFunc T fn first captured) H n
 | .makeSlice t len cap=>exMake P T t len cap H n
 | .slice t x lo hi mx=>orPure (keep (exSlice P T t x lo hi mx H) H n) P T o H n
 | .fieldAddr s x f=>keep (exField P T s x f) H n
 | .field t x f=>orPure (keep (exFieldV P T t x f) H n) P T o H n
 | .indexAddr t x ix=>keep (exIndex P T t x ix) H n
 | .index t x ix=>orPure (keep (exIndexA P T t x ix) H n) P T o H n
 | .extract x j=>orPure (keep (exExtract T x j) H n) P T o H n
 | .convert src dst x=>exConvert P T src dst x o H n
 | .insert t m k x=>exMapUpd P T t m k x H n
 | .makeMap t hint=>exMakeMap hint H n
 | .lookup t m k ok=>orPure (keep (exLookup P T t m k ok H) H n) P T o H n
 | .mapUpdate t m k x=>exMapUpd P T t m k x H n
 | .call c=>match c.callee with
  | .builtin b=>orPure (exBuiltin P T b c.args.toList c.argTypes.toList H n) P T o H n
  | _=>none
 | _=>orPure none P T o H n
def exBS (P:Program) (T:Tr EV) (t:TypeId) (len:Nat) (parts:Array (Nat×Operand)) (H:Tr EK) (n:Nat):Option ER:=match exBS0 P t len parts H n with
 | some e=>some e
 | none=>exBuildSlice P T t len parts H n
def exBinOp (P:Program) (T:Tr EV) (op:BinOp) (t:TypeId) (x y:Operand) (o:Oper) (H:Tr EK) (n:Nat):Option ER:=orPure (match exBin T op x y with
 | some a=>keep (some a) H n
 | none=>keep (exNilEq P T op t x y) H n) P T o H n
def exCallB (P:Program) (T:Tr EV) (c:Call) (o:Oper) (H:Tr EK) (n:Nat):Option ER:=match c.callee with
 | .builtin b=>orPure (exBuiltin P T b c.args.toList c.argTypes.toList H n) P T o H n
 | _=>none
def opArms (op:Op):Program→Tr EV→Oper→Tr EK→Nat→Option ER:=Op.rec (motive:=fun _=>Program→Tr EV→Oper→Tr EK→Nat→Option ER)
 (fun x P T o H n=>keep (exVal T x) H n)
 (fun x P T o H n=>keep (exVal T x) H n)
 (fun c a b P T o H n=>keep (exPick T c a b) H n)
 (fun t P T o H n=>exAllocB P t H n)
 (fun t x P T o H n=>exBox T t x H n)
 (fun t parts P T o H n=>keep (exBuild P T t parts) H n)
 (fun t len parts P T o H n=>exBS P T t len parts H n)
 (fun t m k x P T o H n=>exMapUpd P T t m k x H n)
 (fun t x P T o H n=>keep (exLoad P T t x H) H n)
 (fun t x y P T o H n=>exStore P T t x y H n)
 (fun _ P T o H n=>orPure none P T o H n)
 (fun _ P T o H n=>orPure none P T o H n)
 (fun x P T o H n=>orPure (keep (exNil T x) H n) P T o H n)
 (fun op t x y _ P T o H n=>exBinOp P T op t x y o H n)
 (fun _ _ _ P T o H n=>orPure none P T o H n)
 (fun src dst x P T o H n=>exConvert P T src dst x o H n)
 (fun _ _ P T o H n=>orPure none P T o H n)
 (fun _ _ P T o H n=>orPure none P T o H n)
 (fun fn first captured P T o H n=>keep (exFunc T fn first captured) H n)
 (fun _ hint P T o H n=>exMakeMap hint H n)
 (fun _ _ P T o H n=>orPure none P T o H n)
 (fun t len cap P T o H n=>exMake P T t len cap H n)
 (fun t x lo hi mx P T o H n=>orPure (keep (exSlice P T t x lo hi mx H) H n) P T o H n)
 (fun s x f P T o H n=>keep (exField P T s x f) H n)
 (fun t x f P T o H n=>orPure (keep (exFieldV P T t x f) H n) P T o H n)
 (fun t x ix P T o H n=>keep (exIndex P T t x ix) H n)
 (fun t x ix P T o H n=>orPure (keep (exIndexA P T t x ix) H n) P T o H n)
 (fun t m k ok P T o H n=>orPure (keep (exLookup P T t m k ok H) H n) P T o H n)
 (fun t m k x P T o H n=>exMapUpd P T t m k x H n)
 (fun _ _ _ P T o H n=>orPure none P T o H n)
 (fun _ _ _ _ P T o H n=>orPure none P T o H n)
 (fun _ _ P T o H n=>orPure none P T o H n)
 (fun _ _ P T o H n=>orPure none P T o H n)
 (fun _ P T o H n=>orPure none P T o H n)
 (fun _ _ _ _ P T o H n=>orPure none P T o H n)
 (fun x j P T o H n=>orPure (keep (exExtract T x j) H n) P T o H n)
 (fun c P T o H n=>exCallB P T c o H n)
 (fun _ P T o H n=>orPure none P T o H n)
 (fun _ P T o H n=>orPure none P T o H n)
 (fun _ P T o H n=>orPure none P T o H n)
 (fun _ _ P T o H n=>orPure none P T o H n)
 (fun _ _ _ P T o H n=>orPure none P T o H n)
 (fun _ _ P T o H n=>orPure none P T o H n)
 op
def exOp (P:Program) (T:Tr EV) (o:Oper) (H:Tr EK) (n:Nat):Option ER:=opArms o.op P T o H n
theorem zh3:exOp P T o H n=exOp0 P T o H n:=by
 unfold exOp exOp0;cases o.op <;> rfl
theorem zkc (hT:TOk γ T tmps) (hH:HR γ w0 H n w):OK P γ w0 w tmps o (exOp P T o H n):=by
 rw [zh3];unfold exOp0;split
 ·rename_i x ho;exact zaz fun b hb=>zab (x:=opEval tmps x) (by simp [execOp,ho]) (zaa hT hb) hH
 ·rename_i x ho;exact zaz fun b hb=>zab (x:=opEval tmps x) (by simp [execOp,ho]) (zaa hT hb) hH
 ·rename_i c a b ho;exact zaz fun b hb=>zpy hT hH ho hb
 ·rename_i t ho;exact fun er h=>zkj hH ho h
 ·rename_i t x ho;exact fun er h=>zsv hT hH ho h
 ·rename_i t parts ho;exact zaz fun b hb=>zgr hT hH ho hb
 ·rename_i t len parts ho;split
  ·rename_i e he;exact fun er h=>zh4 hH ho (he.trans h)
  ·exact fun er h=>zc8 hT hH ho h
 ·rename_i t x ho;exact zaz fun b hb=>zp0 hT hH ho hb
 ·rename_i t x y ho;exact fun er h=>zm4 hT hH ho h
 ·rename_i x ho;exact za9 hT hH (zaz fun b hb=>zss hT hH ho hb)
 ·rename_i op t x y t' ho;refine za9 hT hH ?_;split
  ·rename_i a ha;exact zaz fun b hb=>by injection hb with hb;subst hb;exact zsw hT hH ho ha
  ·exact zaz fun b hb=>zm7 hT hH ho hb
 ·rename_i fn first captured ho
  exact zaz fun b hb=>zp2 hT hH ho hb
 ·rename_i t len cap ho;exact fun er h=>zpz hT hH ho h
 ·rename_i t x lo hi mx ho;exact za9 hT hH (zaz fun b hb=>zm5 hT hH ho hb)
 ·rename_i s x f ho;exact zaz fun b hb=>zna hT hH ho hb
 ·rename_i t x f ho;exact za9 hT hH (zaz fun b hb=>zkf hT hH ho hb)
 ·rename_i t x ix ho;exact zaz fun b hb=>zeu hT hH ho hb
 ·rename_i t x ix ho;exact za9 hT hH (zaz fun b hb=>zkd hT hH ho hb)
 ·rename_i x j ho;exact za9 hT hH (zaz fun b hb=>zjf hT hH ho hb)
 ·rename_i src dst x ho;unfold exConvert;split
  ·rename_i e he;exact fun er h=>zlz hT hH ho (he.trans h)
  ·exact za9 hT hH (zaz fun b hb=>zm9 hT hH ho hb)
 ·rename_i t m k x ho;exact fun er h=>zf0 hT hH (by unfold execOp;rw [ho]) h
 ·rename_i t hint ho;exact fun er h=>zje hH ho h
 ·rename_i t m k ok ho;exact za9 hT hH (zaz fun b hb=>zf1 hT hH ho hb)
 ·rename_i t m k x ho;exact fun er h=>zf0 hT hH (by unfold execOp;rw [ho]) h
 ·rename_i c ho;split
  ·rename_i b hb;refine za9 hT hH ?_;obtain ⟨callee,args,ats⟩:=c;simp only at hb;subst hb;unfold exBuiltin;split
   ·exact zsx hT hH ho
   ·exact fun er h=>zp3 hT hH ho h
   ·exact fun er h=>znb hT hH ho h
   ·exact fun er h=>zkg hT hH ho h
   ·split
    ·rename_i x hargs;split
     ·rename_i t hats;have ha2:args = #[x]:=by apply Array.ext';simpa using hargs
      have ha3:ats = #[t]:=by apply Array.ext';simpa using hats
      subst ha2;subst ha3;exact zaz fun b hb=>zl1 hT hH ho hb
     ·exact zfp
    ·exact zfp
   ·exact zfp
  ·exact zfp
 ·exact za9 hT hH zfp
end
section
open Go.RowKit Go.MapKept
variable {P:Program} {γ:G} {w0:Bs} {w:World} {H H':Tr EK} {n n':Nat} {T:Tr EV} {tmps:Array Value} {o:Oper} {r:Option EV}
def exFr (P:Program) (T:Tr EV) (o:Oper) (r:Nat):Option (EV×EK):=match o.op with
 | .alloc t=>match Sx.zeroL P t with
  | some zs=>some (.ptr r 0,zeroK t zs)
  | none=>none
 | .box t x=>match exVal T x with
  | some a=>some (.ptr r 0,.cells t a.cells true)
  | none=>none
 | .buildSlice t len parts=>match bsCore P T t len parts with
  | some (e,z,cs)=>some (.sl r z 0 len (some len),.cells e cs true)
  | none=>none
 | .makeMap _ hint=>match hint with
  | none=>some (.mp r,.mp [])
  | some _=>none
 | _=>none
theorem fr_ok {c:Array Value} {t:TypeId} {cs:List EV} (hc:ECL γ cs c.toList) {γ':G} (hle:GLe γ γ'):(EK.cells t cs true).ok γ' ⟨w.heap.size,0⟩ c.size (w.alloc (.cells c t)):=by
 have hl:cs.length=c.size:=by simpa using hc.1
 refine ⟨c,.of (by show (w.heap.push _)[_]? = _;simp),(Nat.zero_add _).symm,by omega,fun _=>hl,?_⟩;show ECL _ cs ((c.toList.drop 0).take cs.length);rw [List.drop_zero,hl,show c.size=c.toList.length by simp,List.take_length];exact hc.mono hle
theorem zvt (hT:TOk γ T tmps) {r:Nat} {a:EV} {k:EK} (h:exFr P T o r=some (a,k)) (w:World) :
  ∃ (ob:Obj) (m:Nat) (x:Value),(execOp (opEval tmps) o).run P w = .ok (.value x) (w.alloc ob)∧∀ γ',GLe γ γ'→γ' r=some (⟨w.heap.size,0⟩,m)→EC γ' a x∧k.ok γ' ⟨w.heap.size,0⟩ m (w.alloc ob):=by
 unfold exFr at h;split at h
 ·rename_i t ho;split at h
  case h_2=>cases h
  rename_i zs hz;simp only [Option.some.injEq,Prod.mk.injEq] at h;obtain ⟨rfl,rfl⟩:=h;obtain ⟨c,hc,hr⟩:=ziw (tmps:=tmps) ho hz w;exact ⟨.cells c t,c.size,_,hr,fun γ' hle e=>⟨.ptr r 0 _ _ e,zkz hc γ'⟩⟩
 ·rename_i t x ho;split at h
  case h_2=>cases h
  rename_i a0 ha;simp only [Option.some.injEq,Prod.mk.injEq] at h;obtain ⟨rfl,rfl⟩:=h;refine ⟨.cells (opEval tmps x).cells t,(opEval tmps x).cells.size,_,?_,fun γ' hle e=>⟨.ptr r 0 _ _ e,fr_ok (zaa hT ha).cells hle⟩⟩;have he:execOp (opEval tmps) o=(do pure (Next.value (← Instr.box t (opEval tmps x))):Sem Next):=by unfold execOp;rw [ho]
  rw [he];refine run_v ?_;simp [Instr.box,newVar,newRow,newObj,Sem.run];rfl
 ·rename_i t len parts ho;split at h
  case h_2=>cases h
  rename_i e z cs hb;simp only [Option.some.injEq,Prod.mk.injEq] at h;obtain ⟨rfl,rfl⟩:=h;obtain ⟨c,hr,hc,hs,hl⟩:=zck hT ho hb w;exact ⟨.cells c e,c.size,_,hr,fun γ' hle er=>⟨.sl r z 0 len _ _ _ len er (Nat.le_refl _) (by unfold maxLen;omega) (by rw [hs];omega) (fun k e=>by injection e) (fun e=>by cases e),fr_ok hc hle⟩⟩
 ·rename_i t hint ho;split at h
  ·simp only [Option.some.injEq,Prod.mk.injEq] at h;obtain ⟨rfl,rfl⟩:=h;exact ⟨.map #[] 0,0,_,zcn ho w,fun γ' hle e=>⟨.mp r ⟨w.heap.size,0⟩ 0 e,zto _ _ _ (World.alloc_heap_new w (.map #[] 0))⟩⟩
  ·cases h
 ·cases h
theorem zqq {t:TypeId} {zs:List Value} {es:List (Value×EV)}:zeroK t zs ≠ .mp es:=by
 unfold zeroK;rw [bc_eq,bc_eq];split
 ·intro h;cases h
 ·split
  ·intro h;cases h
  ·intro h;cases h
theorem zvv {r:Nat} {a:EV} {es:List (Value×EV)} (h:exFr P T o r=some (a,.mp es)):es=[]:=by
 unfold exFr at h;split at h
 ·split at h
  ·simp only [Option.some.injEq,Prod.mk.injEq] at h;exact absurd h.2 zqq
  ·cases h
 ·split at h
  ·simp only [Option.some.injEq,Prod.mk.injEq] at h;cases h.2
  ·cases h
 ·split at h
  ·simp only [Option.some.injEq,Prod.mk.injEq] at h;cases h.2
  ·cases h
 ·split at h
  ·simp only [Option.some.injEq,Prod.mk.injEq] at h;have:=h.2;injection this with this;exact this.symm
  ·cases h
 ·cases h
theorem zvu {r:Nat} {a:EV} {k:EK} (h:exFr P T o r=some (a,k)):k.nestB=false:=by
 unfold exFr at h;split at h
 all_goals first
  | (split at h
     ·simp only [Option.some.injEq,Prod.mk.injEq] at h;rw [← h.2]
      first|exact zk0 _ _|rfl
     ·cases h)
  | cases h
def exIns (P:Program) (T:Tr EV) (o:Oper) (n0:Nat):Option (Nat×TypeDesc×Value×EV):=match o.op with
 | .insert t m k x=>match exVal T m with
  | some (.mp r)=>match mapOf P t with
   | some (_,_,d)=>match exVal T k with
    | some (.v kv)=>match exVal T x with
     | some a=>bc (Nat.ble n0 r) (bc (isKeyB d kv) (some (Nat.sub r n0,d,kv,a)) none) none
     | none=>none
    | _=>none
   | none=>none
  | _=>none
 | _=>none
theorem zsu (hT:TOk γ T tmps) {n0 j:Nat} {d:TypeDesc} {kv:Value} {a:EV} (h:exIns P T o n0=some (j,d,kv,a)) :
  ∃ (t kt et:TypeId) (b:Pl) (q:Nat) (x:Value),(∃ t m k x,o.op = .insert t m k x)∧execOp (opEval tmps) o=(do Instr.mapUpdate t (.map (some b.k)) kv x;pure Next.skip:Sem Next)∧γ (n0+j)=some (b,q)∧EC γ a x∧IsKey d kv∧P.underlying t=some (.map kt et)∧P.underlying kt=some d:=by
 unfold exIns at h;split at h
 case h_2=>cases h
 rename_i t m k x ho;split at h
 case h_2=>cases h
 rename_i r hm;split at h
 case h_2=>cases h
 rename_i kt et d' ht;split at h
 case h_2=>cases h
 rename_i kv' hk;split at h
 case h_2=>cases h
 rename_i a' ha;rw [bc_eq] at h;split at h
 case isFalse=>cases h
 rename_i hn;rw [bc_eq] at h;split at h
 case isFalse=>cases h
 rename_i hkey;simp only [Option.some.injEq,Prod.mk.injEq] at h;obtain ⟨rfl,rfl,rfl,rfl⟩:=h;have hn:=Nat.le_of_ble_eq_true hn;obtain ⟨hu,hd⟩:=zb9 ht;have hkv:=ec_v (zaa hT hk);have hc:=zaa hT hm;generalize hy:opEval tmps m=y at hc
 cases hc with
 | mp _ b q hγ=>
  refine ⟨t,kt,et,b,q,opEval tmps x,⟨t,m,k,x,ho⟩,by unfold execOp;rw [ho];simp only [hy,hkv],?_,zaa hT ha,zbu hkey,hu,hd⟩;have e:n0+Nat.sub r n0=r:=by show n0+(r-n0)=r;omega
  rw [e];exact hγ
end
end Go.Proofs.Ytepiiaeiogdphaa.Ev
