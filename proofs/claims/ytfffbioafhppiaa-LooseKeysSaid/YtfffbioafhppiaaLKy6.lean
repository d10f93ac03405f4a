/- Laid together: What is freed: what the program's freed answers, for its three closures. What is left and what is freed: Collect, Tight, Without, Freed of the program. What is left and what is freed: the reference's Touch, Tighten, all, has, without, freed, Pins, Tight, Without, Freed. The last letter that touches, by its place in a list. Plain. What is left and what is freed: the .. -/
import Derived.Shelf.Strings.Builder1
import Derived.Shelf.Strings.Builder2
import Derived.Shelf.Small.Bits
import Derived.Shelf.Strconv.Itoa0
import Derived.Shelf.Sort.Plain
import Derived.Shelf.Bits.Mul64
import Derived.Shelf.Slices.Reverse
import Derived.Shelf.Slices.Clone
import Derived.Shelf.Slices.CompactI
import Derived.Shelf.Slices.SearchI
import Derived.Shelf.Slices.Cells
import Derived.Shelf.Slices.In.SortNone
import Derived.Shelf.SlicesE.Compact
import Derived.Shelf.SlicesE.Clone
import Derived.Shelf.SlicesE.IndexFunc
import Derived.Shelf.SlicesE.DeleteFunc
import Derived.Test.YtfffbioafhppiaaProg
import Derived.Below
import Derived.Lib.Join
import Derived.Lib.Repeat
import Derived.ProofKit
import Derived.Test.YtfffbioafhppiaaLKy5
set_option linter.unusedSimpArgs false
set_option linter.unusedVariables false
namespace Go.Proofs.Ytfffbioafhppiaa.Ev
open Go.Proofs

def rstS (l:List Int) (b:List Bool) (o:Nat→Bool) (i:Nat):List Bool:=(List.range b.length).map fun j=>if j < i then b.getD j false && !(isPn (l.getD j 0) && o j) else b.getD j false
def rstF (l:List Int) (b:List Bool) (o:Nat→Bool):List Bool:=(List.range b.length).map fun j=>b.getD j false && !(isPn (l.getD j 0) && o j)
theorem rstS_len (l:List Int) (b:List Bool) (o:Nat→Bool) (i:Nat):(rstS l b o i).length=b.length:=by unfold rstS;rw [List.length_map,List.length_range]
theorem rstF_len (l:List Int) (b:List Bool) (o:Nat→Bool):(rstF l b o).length=b.length:=by unfold rstF;rw [List.length_map,List.length_range]
theorem rstS_at (l:List Int) (b:List Bool) (o:Nat→Bool) {i:Nat} (hi:i < b.length):(rstS l b o i).getD i false=b.getD i false:=by
 unfold rstS;rw [List.getD_eq_getElem?_getD,List.getElem?_map,List.getElem?_range hi];show (if i < i then _ else _)=_
 rw [if_neg (by omega)]
theorem rstS_zero (l:List Int) (b:List Bool) (o:Nat→Bool):rstS l b o 0=b:=by
 apply List.ext_getElem?;intro i;unfold rstS;rw [List.getElem?_map]
 by_cases h:i < b.length
 ·rw [List.getElem?_range h,List.getElem?_eq_getElem h];show some (if i < 0 then _ else _)=_
  rw [if_neg (by omega),getD_at h]
 ·rw [List.getElem?_eq_none (by rw [List.length_range];omega),List.getElem?_eq_none (by omega)];rfl
theorem rstS_end (l:List Int) (b:List Bool) (o:Nat→Bool):rstS l b o b.length=rstF l b o:=by
 unfold rstS rstF;exact List.map_congr_left fun j hj=>by rw [if_pos (List.mem_range.1 hj)]
theorem rstS_set (l:List Int) (b:List Bool) (o:Nat→Bool) {i:Nat} {v:Bool} (hv:(b.getD i false && !(isPn (l.getD i 0) && o i))=v):(rstS l b o i).set i v=rstS l b o (i+1):=by
 unfold rstS;refine stk_rset ?_ fun a ha=>?_
 ·rw [if_pos (by omega)];exact hv
 ·by_cases c:a < i
  ·rw [if_pos c,if_pos (by omega)]
  ·rw [if_neg c,if_neg (by omega)]

def gonF (q s:List Bool):List Int:=ofNs ((idxB q).filter fun j=>!s.getD j false)
noncomputable def gF (l:List Int) (b:List Bool) (o:Nat→Bool):List Int:=gonF (rstF l b o) (tgB l (rstF l b o))
theorem b_nil (b:List Bool):List.map (fun r=>U.bool (List.headD r (U.i 0))) [] ++ b=b:=rfl
theorem nn_snoc (g:List Int) (v:Int):bc (decide (0 < g.length)) true (Nat.blt 0 (List.length [v]))=decide (0 < (g ++ [v]).length):=by
 rw [show decide (0 < (g ++ [v]).length)=true from decide_eq_true (by simp)]
 cases decide (0 < g.length) <;> rfl
theorem nn_any (nn:Bool):bc nn true (bc nn false true)=true:=by cases nn <;> rfl
def FrOk (l:List Int) (b:List Bool):Prop:=b.length=l.length∧l.length≤3000∧∀ x,x ∈ l→LetOk x
noncomputable instance FrOk.dec (l:List Int) (b:List Bool):Decidable (FrOk l b):=Classical.propDecidable _
def FrOkO (l:List Int) (b o:List Bool):Prop:=FrOk l b∧o.length=l.length
noncomputable instance FrOkO.dec (l:List Int) (b o:List Bool):Decidable (FrOkO l b o):=Classical.propDecidable _
theorem TigOk.of {l:List Int} {b:List Bool} (h:FrOk l b) (o:Nat→Bool):TigOk l l (rstF l b o).length l.length:=⟨rfl,by rw [rstF_len];exact h.1,h.2.1,h.2.2⟩
namespace PFrA
abbrev O  : Nat→Bool:=fun _=>true
theorem stR {t:Int} {l:List Int} {b:List Bool}  {i:Nat} (hi:i < b.length) (hl:b.length=l.length) (hb:l.length≤3000)  : RUN (stOf (sR t l b (rstS l b (O) i) i)) = .at (sR t l b (rstS l b (O) (i+1)) (i+1:Nat)):=by
 have e0:Int.toNat (i:Int)=i:=rfl;rw [r_t,e0,rstS_at l b _ hi,rstS_len]
 cases hbi:b.getD i false with
 | false=>
  rw [rstS_set l b (O) (v:=false) (by rw [hbi];rfl)];simp (disch:=omega) only [Nat.add_eq,eqSy_self,eqN_self,bc_same,List.length_cons,ofn,wrap_in,dt,df,bltD,bltN,ble_of,bleN,beqD,bc_t,bc_f,nn_ok,Nat.zero_add,to_nat,Int.zero_add,Int.sub_zero,Int.sub_self,Int.cast_ofNat_Int,Int.natCast_zero,Int.toNat_zero,List.take_zero,List.nil_append,List.length_append,List.length_nil];rfl
 | true=>
  by_cases hp:1000 < l.getD i 0
  ·rw [dt hp,rstS_set l b (O) (v:=!true) (by rw [hbi,show isPn (l.getD i 0)=true from decide_eq_true hp];rfl)]
   simp (disch:=omega) only [Nat.add_eq,eqSy_self,eqN_self,bc_same,List.length_cons,ofn,wrap_in,dt,df,bltD,bltN,ble_of,bleN,beqD,bc_t,bc_f,nn_ok,Nat.zero_add,to_nat,Int.zero_add,Int.sub_zero,Int.sub_self,Int.cast_ofNat_Int,Int.natCast_zero,Int.toNat_zero,List.take_zero,List.nil_append,List.length_append,List.length_nil];rfl
  ·rw [df hp,rstS_set l b (O) (v:=!false) (by rw [hbi,show isPn (l.getD i 0)=false from decide_eq_false hp];rfl)]
   simp (disch:=omega) only [Nat.add_eq,eqSy_self,eqN_self,bc_same,List.length_cons,ofn,wrap_in,dt,df,bltD,bltN,ble_of,bleN,beqD,bc_t,bc_f,nn_ok,Nat.zero_add,to_nat,Int.zero_add,Int.sub_zero,Int.sub_self,Int.cast_ofNat_Int,Int.natCast_zero,Int.toNat_zero,List.take_zero,List.nil_append,List.length_append,List.length_nil];rfl
theorem endR {t:Int} {l:List Int} {b:List Bool}  (h:FrOk l b):RUN (stOf (sR t l b (rstF l b (O)) b.length)) = .at (sG t l b (rstF l b (O)) (tgB l (rstF l b (O))) l.length [] false 0):=by
 rw [r_t,rstF_len,df (show ¬ (b.length:Int) < (b.length:Int) by omega),bc_f];have h1:=TigOk.of h (O);rw [rstF_len] at h1;rw [dt h1];simp (disch:=omega) only [Nat.add_eq,eqSy_self,eqN_self,bc_same,List.length_cons,ofn,wrap_in,dt,df,bltD,bltN,ble_of,bleN,beqD,bc_t,bc_f,nn_ok,Nat.zero_add,to_nat,Int.zero_add,Int.sub_zero,Int.sub_self,Int.cast_ofNat_Int,Int.natCast_zero,Int.toNat_zero,List.take_zero,List.nil_append,List.length_append,List.length_nil]
theorem stG {t:Int} {l:List Int} {b:List Bool}  {q s:List Bool} {ms:Nat} {g:List Int} {i:Nat} (hi:i < b.length) (hq:q.length=b.length) (hs:s.length=ms) (hm:ms=b.length) (hb:b.length≤3000) (hg:g.length≤i):RUN (stOf (sG t l b q s ms g (decide (0 < g.length)) i)) = .at (sG t l b q s ms (g ++ (if q.getD i false && !s.getD i false then [(i:Int)] else [])) (decide (0 < (g ++ (if q.getD i false && !s.getD i false then [(i:Int)] else [])).length)) (i+1:Nat)):=by
 have e0:Int.toNat (i:Int)=i:=rfl;have m1:List.map (fun r=>U.int (List.headD r (U.i 0))) [[U.i (i:Int)]]=[(i:Int)]:=rfl;rw [g_t,e0,m1,nn_snoc,nn_any,hq,hs]
 cases q.getD i false with
 | false=>
  rw [show (false && !s.getD i false)=false from rfl,if_neg (by simp),List.append_nil]
  simp (disch:=omega) only [Nat.add_eq,eqSy_self,eqN_self,bc_same,List.length_cons,ofn,wrap_in,dt,df,bltD,bltN,ble_of,bleN,beqD,bc_t,bc_f,nn_ok,Nat.zero_add,to_nat,Int.zero_add,Int.sub_zero,Int.sub_self,Int.cast_ofNat_Int,Int.natCast_zero,Int.toNat_zero,List.take_zero,List.nil_append,List.length_append,List.length_nil];rfl
 | true=>
  cases s.getD i false with
  | false=>
   rw [show (true && !false)=true from rfl,if_pos rfl]
   simp (disch:=omega) only [Nat.add_eq,eqSy_self,eqN_self,bc_same,List.length_cons,ofn,wrap_in,dt,df,bltD,bltN,ble_of,bleN,beqD,bc_t,bc_f,nn_ok,Nat.zero_add,to_nat,Int.zero_add,Int.sub_zero,Int.sub_self,Int.cast_ofNat_Int,Int.natCast_zero,Int.toNat_zero,List.take_zero,List.nil_append,List.length_append,List.length_nil,Bool.not_false];rfl
  | true=>
   rw [show (true && !true)=false from rfl,if_neg (by simp),List.append_nil]
   simp (disch:=omega) only [Nat.add_eq,eqSy_self,eqN_self,bc_same,List.length_cons,ofn,wrap_in,dt,df,bltD,bltN,ble_of,bleN,beqD,bc_t,bc_f,nn_ok,Nat.zero_add,to_nat,Int.zero_add,Int.sub_zero,Int.sub_self,Int.cast_ofNat_Int,Int.natCast_zero,Int.toNat_zero,List.take_zero,List.nil_append,List.length_append,List.length_nil,Bool.not_true];rfl
theorem loopG {t:Int} {l:List Int} {b:List Bool}  {q s:List Bool} {ms:Nat} (hq:q.length=b.length) (hs:s.length=ms) (hm:ms=b.length) (hb:b.length≤3000):∀ (k i:Nat) (g:List Int),i+k=b.length→g.length≤i→EndM 2 58 ctTg (stOf (sG t l b q s ms g (decide (0 < g.length)) i)) (.slO 2 1 (g ++ ofNs (((List.range' i k).filter fun j=>q.getD j false).filter fun j=>!s.getD j false)).length (decide (0 < (g ++ ofNs (((List.range' i k).filter fun j=>q.getD j false).filter fun j=>!s.getD j false)).length))) (K0 t l b ++ [(2,.seq 3 (.ints .i64 (g ++ ofNs (((List.range' i k).filter fun j=>q.getD j false).filter fun j=>!s.getD j false))) (decide (0 < (g ++ ofNs (((List.range' i k).filter fun j=>q.getD j false).filter fun j=>!s.getD j false)).length)))]) 3
 | 0,i,g,h,hg=>by
  have h1:=g_t t l b q s ms g (decide (0 < g.length)) i;rw [df (show ¬ (i:Int) < (b.length:Int) by omega),bc_f] at h1;have e:g ++ ofNs (((List.range' i 0).filter fun j=>q.getD j false).filter fun j=>!s.getD j false)=g:=List.append_nil g;rw [e];exact .done h1
 | k+1,i,g,h,hg=>by
  have h1:=stG (t:=t) (l:=l) (b:=b)  (q:=q) (s:=s) (ms:=ms) (g:=g) (i:=i) (by omega) hq hs hm hb hg;have e:∀ g:List Int,g ++ ofNs (((List.range' i (k+1)).filter fun j=>q.getD j false).filter fun j=>!s.getD j false)=(g ++ (if q.getD i false && !s.getD i false then [(i:Int)] else [])) ++ ofNs (((List.range' (i+1) k).filter fun j=>q.getD j false).filter fun j=>!s.getD j false):=fun g=>by
   rw [List.range'_succ,List.append_assoc];congr 1
   cases hqi:q.getD i false with
   | false=>rw [List.filter_cons_of_neg (p:=fun j=>q.getD j false) (by rw [hqi];simp)];rfl
   | true=>
    rw [List.filter_cons_of_pos (p:=fun j=>q.getD j false) hqi]
    cases hsi:s.getD i false with
    | false=>rw [List.filter_cons_of_pos (p:=fun j=>!s.getD j false) (by rw [hsi];rfl)];rfl
    | true=>rw [List.filter_cons_of_neg (p:=fun j=>!s.getD j false) (by rw [hsi];simp)];rfl
  rw [e];exact .at ctTg_ok h1 (loopG hq hs hm hb k (i+1) _ (by omega) (by rw [List.length_append];split <;> simp <;> omega))
theorem loopR {t:Int} {l:List Int} {b:List Bool}  (h:FrOk l b)  : ∀ (k i:Nat),i+k=b.length→EndM 2 58 ctTg (stOf (sR t l b (rstS l b (O) i) i)) (.slO 2 1 (gF l b (O)).length (decide (0 < (gF l b (O)).length))) (K0 t l b ++ [(2,.seq 3 (.ints .i64 (gF l b (O))) (decide (0 < (gF l b (O)).length)))]) 3
 | 0,i,hi=>by
  obtain rfl:i=b.length:=by omega
  rw [rstS_end];have h2:=loopG (t:=t) (l:=l) (b:=b)  (q:=rstF l b (O)) (s:=tgB l (rstF l b (O))) (ms:=l.length) (rstF_len _ _ _) (tgB_len _ _) h.1.symm (by have:=h.1;have:=h.2.1;omega) b.length 0 [] (by omega) (Nat.le_refl _);rw [← List.range_eq_range',List.nil_append] at h2;have e:ofNs (((List.range b.length).filter fun j=>(rstF l b (O)).getD j false).filter fun j=>!(tgB l (rstF l b (O))).getD j false)=gF l b (O):=by
   unfold gF gonF idxB;rw [rstF_len]
  rw [e] at h2;exact .at ctTg_ok (endR h) h2
 | k+1,i,hi=>.at ctTg_ok (stR (by omega) h.1 h.2.1 ) (loopR h k (i+1) (by omega))
theorem ends {t:Int} {l:List Int} {b:List Bool}  (h:FrOk l b)  : EndM 2 58 ctTg (st0m 58 [.ptr 0 0,.slO 1 1 b.length true,.fn 59 []] (K0 t l b) 2) (.slO 2 1 (gF l b (O)).length (decide (0 < (gF l b (O)).length))) (K0 t l b ++ [(2,.seq 3 (.ints .i64 (gF l b (O))) (decide (0 < (gF l b (O)).length)))]) 3:=by
 have h1:=in_t t l b;have hb:b.length≤3000:=by have:=h.1;have:=h.2.1;omega
 rw [b_nil] at h1;simp (disch:=omega) only [Nat.add_eq,eqSy_self,eqN_self,bc_same,List.length_cons,ofn,wrap_in,dt,df,bltD,bltN,ble_of,bleN,beqD,bc_t,bc_f,nn_ok,Nat.zero_add,to_nat,Int.zero_add,Int.sub_zero,Int.sub_self,Int.cast_ofNat_Int,Int.natCast_zero,Int.toNat_zero,List.take_zero,List.nil_append,List.length_append,List.length_nil] at h1;have h2:=loopR (t:=t)  h b.length 0 (by omega);rw [rstS_zero] at h2;exact .at ctTg_ok h1 h2
end PFrA
namespace PFrB
abbrev O (o:List Bool):Nat→Bool:=fun j=>o.getD j false
theorem stR {t:Int} {l:List Int} {b:List Bool} {o:List Bool} {no:Bool} {i:Nat} (hi:i < b.length) (hl:b.length=l.length) (hb:l.length≤3000) (ho:i < o.length):RUN (stOf (sR t l b o no (rstS l b (O o) i) i)) = .at (sR t l b o no (rstS l b (O o) (i+1)) (i+1:Nat)):=by
 have e0:Int.toNat (i:Int)=i:=rfl;rw [r_t,e0,rstS_at l b _ hi,rstS_len]
 cases hbi:b.getD i false with
 | false=>
  rw [rstS_set l b (O o) (v:=false) (by rw [hbi];rfl)];simp (disch:=omega) only [Nat.add_eq,eqSy_self,eqN_self,bc_same,List.length_cons,ofn,wrap_in,dt,df,bltD,bltN,ble_of,bleN,beqD,bc_t,bc_f,nn_ok,Nat.zero_add,to_nat,Int.zero_add,Int.sub_zero,Int.sub_self,Int.cast_ofNat_Int,Int.natCast_zero,Int.toNat_zero,List.take_zero,List.nil_append,List.length_append,List.length_nil];rfl
 | true=>
  by_cases hp:1000 < l.getD i 0
  ·rw [dt hp,rstS_set l b (O o) (v:=!o.getD i false) (by rw [hbi,show isPn (l.getD i 0)=true from decide_eq_true hp];rfl)]
   simp (disch:=omega) only [Nat.add_eq,eqSy_self,eqN_self,bc_same,List.length_cons,ofn,wrap_in,dt,df,bltD,bltN,ble_of,bleN,beqD,bc_t,bc_f,nn_ok,Nat.zero_add,to_nat,Int.zero_add,Int.sub_zero,Int.sub_self,Int.cast_ofNat_Int,Int.natCast_zero,Int.toNat_zero,List.take_zero,List.nil_append,List.length_append,List.length_nil];rfl
  ·rw [df hp,rstS_set l b (O o) (v:=!false) (by rw [hbi,show isPn (l.getD i 0)=false from decide_eq_false hp];rfl)]
   simp (disch:=omega) only [Nat.add_eq,eqSy_self,eqN_self,bc_same,List.length_cons,ofn,wrap_in,dt,df,bltD,bltN,ble_of,bleN,beqD,bc_t,bc_f,nn_ok,Nat.zero_add,to_nat,Int.zero_add,Int.sub_zero,Int.sub_self,Int.cast_ofNat_Int,Int.natCast_zero,Int.toNat_zero,List.take_zero,List.nil_append,List.length_append,List.length_nil];rfl
theorem endR {t:Int} {l:List Int} {b:List Bool} {o:List Bool} {no:Bool} (h:FrOk l b):RUN (stOf (sR t l b o no (rstF l b (O o)) b.length)) = .at (sG t l b (rstF l b (O o)) (tgB l (rstF l b (O o))) l.length [] false 0):=by
 rw [r_t,rstF_len,df (show ¬ (b.length:Int) < (b.length:Int) by omega),bc_f];have h1:=TigOk.of h (O o);rw [rstF_len] at h1;rw [dt h1];simp (disch:=omega) only [Nat.add_eq,eqSy_self,eqN_self,bc_same,List.length_cons,ofn,wrap_in,dt,df,bltD,bltN,ble_of,bleN,beqD,bc_t,bc_f,nn_ok,Nat.zero_add,to_nat,Int.zero_add,Int.sub_zero,Int.sub_self,Int.cast_ofNat_Int,Int.natCast_zero,Int.toNat_zero,List.take_zero,List.nil_append,List.length_append,List.length_nil]
theorem stG {t:Int} {l:List Int} {b:List Bool}  {q s:List Bool} {ms:Nat} {g:List Int} {i:Nat} (hi:i < b.length) (hq:q.length=b.length) (hs:s.length=ms) (hm:ms=b.length) (hb:b.length≤3000) (hg:g.length≤i):RUN (stOf (sG t l b q s ms g (decide (0 < g.length)) i)) = .at (sG t l b q s ms (g ++ (if q.getD i false && !s.getD i false then [(i:Int)] else [])) (decide (0 < (g ++ (if q.getD i false && !s.getD i false then [(i:Int)] else [])).length)) (i+1:Nat)):=by
 have e0:Int.toNat (i:Int)=i:=rfl;have m1:List.map (fun r=>U.int (List.headD r (U.i 0))) [[U.i (i:Int)]]=[(i:Int)]:=rfl;rw [g_t,e0,m1,nn_snoc,nn_any,hq,hs]
 cases q.getD i false with
 | false=>
  rw [show (false && !s.getD i false)=false from rfl,if_neg (by simp),List.append_nil]
  simp (disch:=omega) only [Nat.add_eq,eqSy_self,eqN_self,bc_same,List.length_cons,ofn,wrap_in,dt,df,bltD,bltN,ble_of,bleN,beqD,bc_t,bc_f,nn_ok,Nat.zero_add,to_nat,Int.zero_add,Int.sub_zero,Int.sub_self,Int.cast_ofNat_Int,Int.natCast_zero,Int.toNat_zero,List.take_zero,List.nil_append,List.length_append,List.length_nil];rfl
 | true=>
  cases s.getD i false with
  | false=>
   rw [show (true && !false)=true from rfl,if_pos rfl]
   simp (disch:=omega) only [Nat.add_eq,eqSy_self,eqN_self,bc_same,List.length_cons,ofn,wrap_in,dt,df,bltD,bltN,ble_of,bleN,beqD,bc_t,bc_f,nn_ok,Nat.zero_add,to_nat,Int.zero_add,Int.sub_zero,Int.sub_self,Int.cast_ofNat_Int,Int.natCast_zero,Int.toNat_zero,List.take_zero,List.nil_append,List.length_append,List.length_nil,Bool.not_false];rfl
  | true=>
   rw [show (true && !true)=false from rfl,if_neg (by simp),List.append_nil]
   simp (disch:=omega) only [Nat.add_eq,eqSy_self,eqN_self,bc_same,List.length_cons,ofn,wrap_in,dt,df,bltD,bltN,ble_of,bleN,beqD,bc_t,bc_f,nn_ok,Nat.zero_add,to_nat,Int.zero_add,Int.sub_zero,Int.sub_self,Int.cast_ofNat_Int,Int.natCast_zero,Int.toNat_zero,List.take_zero,List.nil_append,List.length_append,List.length_nil,Bool.not_true];rfl
theorem loopG {t:Int} {l:List Int} {b:List Bool}  {q s:List Bool} {ms:Nat} (hq:q.length=b.length) (hs:s.length=ms) (hm:ms=b.length) (hb:b.length≤3000):∀ (k i:Nat) (g:List Int),i+k=b.length→g.length≤i→EndM 2 58 ctTg (stOf (sG t l b q s ms g (decide (0 < g.length)) i)) (.slO 2 1 (g ++ ofNs (((List.range' i k).filter fun j=>q.getD j false).filter fun j=>!s.getD j false)).length (decide (0 < (g ++ ofNs (((List.range' i k).filter fun j=>q.getD j false).filter fun j=>!s.getD j false)).length))) (PFrA.K0 t l b ++ [(2,.seq 3 (.ints .i64 (g ++ ofNs (((List.range' i k).filter fun j=>q.getD j false).filter fun j=>!s.getD j false))) (decide (0 < (g ++ ofNs (((List.range' i k).filter fun j=>q.getD j false).filter fun j=>!s.getD j false)).length)))]) 3
 | 0,i,g,h,hg=>by
  have h1:=g_t t l b q s ms g (decide (0 < g.length)) i;rw [df (show ¬ (i:Int) < (b.length:Int) by omega),bc_f] at h1;have e:g ++ ofNs (((List.range' i 0).filter fun j=>q.getD j false).filter fun j=>!s.getD j false)=g:=List.append_nil g;rw [e];exact .done h1
 | k+1,i,g,h,hg=>by
  have h1:=stG (t:=t) (l:=l) (b:=b)  (q:=q) (s:=s) (ms:=ms) (g:=g) (i:=i) (by omega) hq hs hm hb hg;have e:∀ g:List Int,g ++ ofNs (((List.range' i (k+1)).filter fun j=>q.getD j false).filter fun j=>!s.getD j false)=(g ++ (if q.getD i false && !s.getD i false then [(i:Int)] else [])) ++ ofNs (((List.range' (i+1) k).filter fun j=>q.getD j false).filter fun j=>!s.getD j false):=fun g=>by
   rw [List.range'_succ,List.append_assoc];congr 1
   cases hqi:q.getD i false with
   | false=>rw [List.filter_cons_of_neg (p:=fun j=>q.getD j false) (by rw [hqi];simp)];rfl
   | true=>
    rw [List.filter_cons_of_pos (p:=fun j=>q.getD j false) hqi]
    cases hsi:s.getD i false with
    | false=>rw [List.filter_cons_of_pos (p:=fun j=>!s.getD j false) (by rw [hsi];rfl)];rfl
    | true=>rw [List.filter_cons_of_neg (p:=fun j=>!s.getD j false) (by rw [hsi];simp)];rfl
  rw [e];exact .at ctTg_ok h1 (loopG hq hs hm hb k (i+1) _ (by omega) (by rw [List.length_append];split <;> simp <;> omega))
theorem loopR {t:Int} {l:List Int} {b:List Bool} {o:List Bool} {no:Bool} (h:FrOk l b) (ho:o.length=l.length):∀ (k i:Nat),i+k=b.length→EndM 2 58 ctTg (stOf (sR t l b o no (rstS l b (O o) i) i)) (.slO 2 1 (gF l b (O o)).length (decide (0 < (gF l b (O o)).length))) (PFrA.K0 t l b ++ [(2,.seq 3 (.ints .i64 (gF l b (O o))) (decide (0 < (gF l b (O o)).length)))]) 3
 | 0,i,hi=>by
  obtain rfl:i=b.length:=by omega
  rw [rstS_end];have h2:=loopG (t:=t) (l:=l) (b:=b)  (q:=rstF l b (O o)) (s:=tgB l (rstF l b (O o))) (ms:=l.length) (rstF_len _ _ _) (tgB_len _ _) h.1.symm (by have:=h.1;have:=h.2.1;omega) b.length 0 [] (by omega) (Nat.le_refl _);rw [← List.range_eq_range',List.nil_append] at h2;have e:ofNs (((List.range b.length).filter fun j=>(rstF l b (O o)).getD j false).filter fun j=>!(tgB l (rstF l b (O o))).getD j false)=gF l b (O o):=by
   unfold gF gonF idxB;rw [rstF_len]
  rw [e] at h2;exact .at ctTg_ok (endR h) h2
 | k+1,i,hi=>.at ctTg_ok (stR (by omega) h.1 h.2.1 (by have:=h.1;omega)) (loopR h ho k (i+1) (by omega))
theorem ends {t:Int} {l:List Int} {b:List Bool} {o:List Bool} {no:Bool} (h:FrOk l b) (ho:o.length=l.length):EndM 2 58 ctTg (st0m 58 [.ptr 0 0,.slO 1 1 b.length true,.fn 103 [.ptr 2 0]] (K0 t l b o no) 4) (.slO 2 1 (gF l b (O o)).length (decide (0 < (gF l b (O o)).length))) (PFrA.K0 t l b ++ [(2,.seq 3 (.ints .i64 (gF l b (O o))) (decide (0 < (gF l b (O o)).length)))]) 3:=by
 have h1:=in_t t l b o no;have hb:b.length≤3000:=by have:=h.1;have:=h.2.1;omega
 rw [b_nil] at h1;simp (disch:=omega) only [Nat.add_eq,eqSy_self,eqN_self,bc_same,List.length_cons,ofn,wrap_in,dt,df,bltD,bltN,ble_of,bleN,beqD,bc_t,bc_f,nn_ok,Nat.zero_add,to_nat,Int.zero_add,Int.sub_zero,Int.sub_self,Int.cast_ofNat_Int,Int.natCast_zero,Int.toNat_zero,List.take_zero,List.nil_append,List.length_append,List.length_nil] at h1;have h2:=loopR (t:=t) (no:=no) h ho b.length 0 (by omega);rw [rstS_zero] at h2;exact .at ctTg_ok h1 h2
end PFrB
namespace PFrC
abbrev O (kk:Int):Nat→Bool:=fun j=>((j:Int) == kk)
theorem stR {t:Int} {l:List Int} {b:List Bool} {kk:Int} {i:Nat} (hi:i < b.length) (hl:b.length=l.length) (hb:l.length≤3000)  : RUN (stOf (sR t l b kk (rstS l b (O kk) i) i)) = .at (sR t l b kk (rstS l b (O kk) (i+1)) (i+1:Nat)):=by
 have e0:Int.toNat (i:Int)=i:=rfl;rw [r_t,e0,rstS_at l b _ hi,rstS_len]
 cases hbi:b.getD i false with
 | false=>
  rw [rstS_set l b (O kk) (v:=false) (by rw [hbi];rfl)];simp (disch:=omega) only [Nat.add_eq,eqSy_self,eqN_self,bc_same,List.length_cons,ofn,wrap_in,dt,df,bltD,bltN,ble_of,bleN,beqD,bc_t,bc_f,nn_ok,Nat.zero_add,to_nat,Int.zero_add,Int.sub_zero,Int.sub_self,Int.cast_ofNat_Int,Int.natCast_zero,Int.toNat_zero,List.take_zero,List.nil_append,List.length_append,List.length_nil];rfl
 | true=>
  by_cases hp:1000 < l.getD i 0
  ·rw [dt hp,rstS_set l b (O kk) (v:=!((i:Int) == kk)) (by rw [hbi,show isPn (l.getD i 0)=true from decide_eq_true hp];rfl)]
   simp (disch:=omega) only [Nat.add_eq,eqSy_self,eqN_self,bc_same,List.length_cons,ofn,wrap_in,dt,df,bltD,bltN,ble_of,bleN,beqD,bc_t,bc_f,nn_ok,Nat.zero_add,to_nat,Int.zero_add,Int.sub_zero,Int.sub_self,Int.cast_ofNat_Int,Int.natCast_zero,Int.toNat_zero,List.take_zero,List.nil_append,List.length_append,List.length_nil];rfl
  ·rw [df hp,rstS_set l b (O kk) (v:=!false) (by rw [hbi,show isPn (l.getD i 0)=false from decide_eq_false hp];rfl)]
   simp (disch:=omega) only [Nat.add_eq,eqSy_self,eqN_self,bc_same,List.length_cons,ofn,wrap_in,dt,df,bltD,bltN,ble_of,bleN,beqD,bc_t,bc_f,nn_ok,Nat.zero_add,to_nat,Int.zero_add,Int.sub_zero,Int.sub_self,Int.cast_ofNat_Int,Int.natCast_zero,Int.toNat_zero,List.take_zero,List.nil_append,List.length_append,List.length_nil];rfl
theorem endR {t:Int} {l:List Int} {b:List Bool} {kk:Int} (h:FrOk l b):RUN (stOf (sR t l b kk (rstF l b (O kk)) b.length)) = .at (sG t l b kk (rstF l b (O kk)) (tgB l (rstF l b (O kk))) l.length [] false 0):=by
 rw [r_t,rstF_len,df (show ¬ (b.length:Int) < (b.length:Int) by omega),bc_f];have h1:=TigOk.of h (O kk);rw [rstF_len] at h1;rw [dt h1];simp (disch:=omega) only [Nat.add_eq,eqSy_self,eqN_self,bc_same,List.length_cons,ofn,wrap_in,dt,df,bltD,bltN,ble_of,bleN,beqD,bc_t,bc_f,nn_ok,Nat.zero_add,to_nat,Int.zero_add,Int.sub_zero,Int.sub_self,Int.cast_ofNat_Int,Int.natCast_zero,Int.toNat_zero,List.take_zero,List.nil_append,List.length_append,List.length_nil]
theorem stG {t:Int} {l:List Int} {b:List Bool} {kk:Int} {q s:List Bool} {ms:Nat} {g:List Int} {i:Nat} (hi:i < b.length) (hq:q.length=b.length) (hs:s.length=ms) (hm:ms=b.length) (hb:b.length≤3000) (hg:g.length≤i):RUN (stOf (sG t l b kk q s ms g (decide (0 < g.length)) i)) = .at (sG t l b kk q s ms (g ++ (if q.getD i false && !s.getD i false then [(i:Int)] else [])) (decide (0 < (g ++ (if q.getD i false && !s.getD i false then [(i:Int)] else [])).length)) (i+1:Nat)):=by
 have e0:Int.toNat (i:Int)=i:=rfl;have m1:List.map (fun r=>U.int (List.headD r (U.i 0))) [[U.i (i:Int)]]=[(i:Int)]:=rfl;rw [g_t,e0,m1,nn_snoc,nn_any,hq,hs]
 cases q.getD i false with
 | false=>
  rw [show (false && !s.getD i false)=false from rfl,if_neg (by simp),List.append_nil]
  simp (disch:=omega) only [Nat.add_eq,eqSy_self,eqN_self,bc_same,List.length_cons,ofn,wrap_in,dt,df,bltD,bltN,ble_of,bleN,beqD,bc_t,bc_f,nn_ok,Nat.zero_add,to_nat,Int.zero_add,Int.sub_zero,Int.sub_self,Int.cast_ofNat_Int,Int.natCast_zero,Int.toNat_zero,List.take_zero,List.nil_append,List.length_append,List.length_nil];rfl
 | true=>
  cases s.getD i false with
  | false=>
   rw [show (true && !false)=true from rfl,if_pos rfl]
   simp (disch:=omega) only [Nat.add_eq,eqSy_self,eqN_self,bc_same,List.length_cons,ofn,wrap_in,dt,df,bltD,bltN,ble_of,bleN,beqD,bc_t,bc_f,nn_ok,Nat.zero_add,to_nat,Int.zero_add,Int.sub_zero,Int.sub_self,Int.cast_ofNat_Int,Int.natCast_zero,Int.toNat_zero,List.take_zero,List.nil_append,List.length_append,List.length_nil,Bool.not_false];rfl
  | true=>
   rw [show (true && !true)=false from rfl,if_neg (by simp),List.append_nil]
   simp (disch:=omega) only [Nat.add_eq,eqSy_self,eqN_self,bc_same,List.length_cons,ofn,wrap_in,dt,df,bltD,bltN,ble_of,bleN,beqD,bc_t,bc_f,nn_ok,Nat.zero_add,to_nat,Int.zero_add,Int.sub_zero,Int.sub_self,Int.cast_ofNat_Int,Int.natCast_zero,Int.toNat_zero,List.take_zero,List.nil_append,List.length_append,List.length_nil,Bool.not_true];rfl
theorem loopG {t:Int} {l:List Int} {b:List Bool} {kk:Int} {q s:List Bool} {ms:Nat} (hq:q.length=b.length) (hs:s.length=ms) (hm:ms=b.length) (hb:b.length≤3000):∀ (k i:Nat) (g:List Int),i+k=b.length→g.length≤i→EndM 3 58 ctTg (stOf (sG t l b kk q s ms g (decide (0 < g.length)) i)) (.slO 3 1 (g ++ ofNs (((List.range' i k).filter fun j=>q.getD j false).filter fun j=>!s.getD j false)).length (decide (0 < (g ++ ofNs (((List.range' i k).filter fun j=>q.getD j false).filter fun j=>!s.getD j false)).length))) (K0 t l b kk ++ [(3,.seq 3 (.ints .i64 (g ++ ofNs (((List.range' i k).filter fun j=>q.getD j false).filter fun j=>!s.getD j false))) (decide (0 < (g ++ ofNs (((List.range' i k).filter fun j=>q.getD j false).filter fun j=>!s.getD j false)).length)))]) 4
 | 0,i,g,h,hg=>by
  have h1:=g_t t l b kk q s ms g (decide (0 < g.length)) i;rw [df (show ¬ (i:Int) < (b.length:Int) by omega),bc_f] at h1;have e:g ++ ofNs (((List.range' i 0).filter fun j=>q.getD j false).filter fun j=>!s.getD j false)=g:=List.append_nil g;rw [e];exact .done h1
 | k+1,i,g,h,hg=>by
  have h1:=stG (t:=t) (l:=l) (b:=b) (kk:=kk) (q:=q) (s:=s) (ms:=ms) (g:=g) (i:=i) (by omega) hq hs hm hb hg;have e:∀ g:List Int,g ++ ofNs (((List.range' i (k+1)).filter fun j=>q.getD j false).filter fun j=>!s.getD j false)=(g ++ (if q.getD i false && !s.getD i false then [(i:Int)] else [])) ++ ofNs (((List.range' (i+1) k).filter fun j=>q.getD j false).filter fun j=>!s.getD j false):=fun g=>by
   rw [List.range'_succ,List.append_assoc];congr 1
   cases hqi:q.getD i false with
   | false=>rw [List.filter_cons_of_neg (p:=fun j=>q.getD j false) (by rw [hqi];simp)];rfl
   | true=>
    rw [List.filter_cons_of_pos (p:=fun j=>q.getD j false) hqi]
    cases hsi:s.getD i false with
    | false=>rw [List.filter_cons_of_pos (p:=fun j=>!s.getD j false) (by rw [hsi];rfl)];rfl
    | true=>rw [List.filter_cons_of_neg (p:=fun j=>!s.getD j false) (by rw [hsi];simp)];rfl
  rw [e];exact .at ctTg_ok h1 (loopG hq hs hm hb k (i+1) _ (by omega) (by rw [List.length_append];split <;> simp <;> omega))
theorem loopR {t:Int} {l:List Int} {b:List Bool} {kk:Int} (h:FrOk l b)  : ∀ (k i:Nat),i+k=b.length→EndM 3 58 ctTg (stOf (sR t l b kk (rstS l b (O kk) i) i)) (.slO 3 1 (gF l b (O kk)).length (decide (0 < (gF l b (O kk)).length))) (K0 t l b kk ++ [(3,.seq 3 (.ints .i64 (gF l b (O kk))) (decide (0 < (gF l b (O kk)).length)))]) 4
 | 0,i,hi=>by
  obtain rfl:i=b.length:=by omega
  rw [rstS_end];have h2:=loopG (t:=t) (l:=l) (b:=b) (kk:=kk) (q:=rstF l b (O kk)) (s:=tgB l (rstF l b (O kk))) (ms:=l.length) (rstF_len _ _ _) (tgB_len _ _) h.1.symm (by have:=h.1;have:=h.2.1;omega) b.length 0 [] (by omega) (Nat.le_refl _);rw [← List.range_eq_range',List.nil_append] at h2;have e:ofNs (((List.range b.length).filter fun j=>(rstF l b (O kk)).getD j false).filter fun j=>!(tgB l (rstF l b (O kk))).getD j false)=gF l b (O kk):=by
   unfold gF gonF idxB;rw [rstF_len]
  rw [e] at h2;exact .at ctTg_ok (endR h) h2
 | k+1,i,hi=>.at ctTg_ok (stR (by omega) h.1 h.2.1 ) (loopR h k (i+1) (by omega))
theorem ends {t:Int} {l:List Int} {b:List Bool} {kk:Int} (h:FrOk l b)  : EndM 3 58 ctTg (st0m 58 [.ptr 0 0,.slO 1 1 b.length true,.fn 86 [.ptr 2 0]] (K0 t l b kk) 3) (.slO 3 1 (gF l b (O kk)).length (decide (0 < (gF l b (O kk)).length))) (K0 t l b kk ++ [(3,.seq 3 (.ints .i64 (gF l b (O kk))) (decide (0 < (gF l b (O kk)).length)))]) 4:=by
 have h1:=in_t t l b kk;have hb:b.length≤3000:=by have:=h.1;have:=h.2.1;omega
 rw [b_nil] at h1;simp (disch:=omega) only [Nat.add_eq,eqSy_self,eqN_self,bc_same,List.length_cons,ofn,wrap_in,dt,df,bltD,bltN,ble_of,bleN,beqD,bc_t,bc_f,nn_ok,Nat.zero_add,to_nat,Int.zero_add,Int.sub_zero,Int.sub_self,Int.cast_ofNat_Int,Int.natCast_zero,Int.toNat_zero,List.take_zero,List.nil_append,List.length_append,List.length_nil] at h1;have h2:=loopR (t:=t) (kk:=kk) h b.length 0 (by omega);rw [rstS_zero] at h2;exact .at ctTg_ok h1 h2
end PFrC
end Go.Proofs.Ytfffbioafhppiaa.Ev
namespace Go.Proofs.Ytfffbioafhppiaa.Ev
open Go.Proofs
noncomputable def spFre_0:ZMT:=fun ax K0 m=>match ax,K0 with
 | [.ptr 0 0,.slO 1 1 v_0 v_1,.fn 59 []],[(0,.cells 24 [.v (.int .i64 t),.lst (.ints .i64 l)] v_2),(1,.seq 4 (.bools b) v_3)]=>bc (Nat.beq m (2)) (some ⟨bc (Nat.beq v_0 (b.length)) (bc (eqN v_1 (true)) (bc (eqN v_2 (true)) (bc (eqN v_3 (true)) (decide (FrOk l b)) false) false) false) false,.slO 2 1 (gF l b PFrA.O).length (decide (0 < (gF l b PFrA.O).length)),PFrA.K0 t l b ++ [(2,.seq 3 (.ints .i64 (gF l b PFrA.O)) (decide (0 < (gF l b PFrA.O).length)))],3,2⟩) none
 | _,_=>none
theorem spFre_0_ok:ZMtOk Try.prog 58 spFre_0:=fun γ w0 w us ax K0 m r hs hc hres hax hH=>by
 unfold spFre_0 at hs;split at hs
 case h_2=>cases hs
 rename_i v_0 v_1 t l v_2 b v_3;obtain ⟨hm,rfl⟩:=noN hs;have hm:=Nat.eq_of_beq_eq_true hm;subst hm;have hc_0:bc (Nat.beq v_0 (b.length)) (bc (eqN v_1 (true)) (bc (eqN v_2 (true)) (bc (eqN v_3 (true)) (decide (FrOk l b)) false) false) false) false=true:=hc;obtain ⟨q_0,hc_1⟩:=bcT hc_0;have p_0:=(Nat.eq_of_beq_eq_true q_0).symm;subst p_0;obtain ⟨q_1,hc_2⟩:=bcT hc_1;have p_1:=(eqN_ok q_1).symm;subst p_1;obtain ⟨q_2,hc_3⟩:=bcT hc_2;have p_2:=(eqN_ok q_2).symm;subst p_2;obtain ⟨q_3,hc_4⟩:=bcT hc_3;have p_3:=(eqN_ok q_3).symm;subst p_3
 have hc:=of_decide_eq_true hc_4;exact EndM.calls (PFrA.ends hc) ctTg_ok (by kernel_rfl) hres hax hH
noncomputable def spFre_1:ZMT:=fun ax K0 m=>match ax,K0 with
 | [.ptr 0 0,.slO 1 1 v_0 v_1,.fn 103 [.ptr 2 0]],[(0,.cells 24 [.v (.int .i64 t),.lst (.ints .i64 l)] v_2),(1,.seq 4 (.bools b) v_3),(2,.cells 75 [.slO 3 1 v_4 v_5] v_6),(3,.seq 4 (.bools o) no)]=>bc (Nat.beq m (4)) (some ⟨bc (Nat.beq v_0 (b.length)) (bc (eqN v_1 (true)) (bc (eqN v_2 (true)) (bc (eqN v_3 (true)) (bc (Nat.beq v_4 (o.length)) (bc (eqN v_5 (no)) (bc (eqN v_6 (true)) (decide (FrOkO l b o)) false) false) false) false) false) false) false,.slO 2 1 (gF l b (PFrB.O o)).length (decide (0 < (gF l b (PFrB.O o)).length)),PFrA.K0 t l b ++ [(2,.seq 3 (.ints .i64 (gF l b (PFrB.O o))) (decide (0 < (gF l b (PFrB.O o)).length)))],3,2⟩) none
 | _,_=>none
theorem spFre_1_ok:ZMtOk Try.prog 58 spFre_1:=fun γ w0 w us ax K0 m r hs hc hres hax hH=>by
 unfold spFre_1 at hs;split at hs
 case h_2=>cases hs
 rename_i v_0 v_1 t l v_2 b v_3 v_4 v_5 v_6 o no;obtain ⟨hm,rfl⟩:=noN hs;have hm:=Nat.eq_of_beq_eq_true hm;subst hm;have hc_0:bc (Nat.beq v_0 (b.length)) (bc (eqN v_1 (true)) (bc (eqN v_2 (true)) (bc (eqN v_3 (true)) (bc (Nat.beq v_4 (o.length)) (bc (eqN v_5 (no)) (bc (eqN v_6 (true)) (decide (FrOkO l b o)) false) false) false) false) false) false) false=true:=hc;obtain ⟨q_0,hc_1⟩:=bcT hc_0;have p_0:=(Nat.eq_of_beq_eq_true q_0).symm;subst p_0;obtain ⟨q_1,hc_2⟩:=bcT hc_1;have p_1:=(eqN_ok q_1).symm;subst p_1;obtain ⟨q_2,hc_3⟩:=bcT hc_2
 have p_2:=(eqN_ok q_2).symm;subst p_2;obtain ⟨q_3,hc_4⟩:=bcT hc_3;have p_3:=(eqN_ok q_3).symm;subst p_3;obtain ⟨q_4,hc_5⟩:=bcT hc_4;have p_4:=(Nat.eq_of_beq_eq_true q_4).symm;subst p_4;obtain ⟨q_5,hc_6⟩:=bcT hc_5;have p_5:=(eqN_ok q_5).symm;subst p_5;obtain ⟨q_6,hc_7⟩:=bcT hc_6;have p_6:=(eqN_ok q_6).symm;subst p_6;have hc:=of_decide_eq_true hc_7;exact EndM.calls (PFrB.ends hc.1 hc.2) ctTg_ok (by kernel_rfl) hres hax hH
noncomputable def spFre_2:ZMT:=fun ax K0 m=>match ax,K0 with
 | [.ptr 0 0,.slO 1 1 v_0 v_1,.fn 86 [.ptr 2 0]],[(0,.cells 24 [.v (.int .i64 t),.lst (.ints .i64 l)] v_2),(1,.seq 4 (.bools b) v_3),(2,.cells 3 [.v (.int .i64 kk)] v_4)]=>bc (Nat.beq m (3)) (some ⟨bc (Nat.beq v_0 (b.length)) (bc (eqN v_1 (true)) (bc (eqN v_2 (true)) (bc (eqN v_3 (true)) (bc (eqN v_4 (true)) (decide (FrOk l b)) false) false) false) false) false,.slO 3 1 (gF l b (PFrC.O kk)).length (decide (0 < (gF l b (PFrC.O kk)).length)),PFrC.K0 t l b kk ++ [(3,.seq 3 (.ints .i64 (gF l b (PFrC.O kk))) (decide (0 < (gF l b (PFrC.O kk)).length)))],4,3⟩) none
 | _,_=>none
theorem spFre_2_ok:ZMtOk Try.prog 58 spFre_2:=fun γ w0 w us ax K0 m r hs hc hres hax hH=>by
 unfold spFre_2 at hs;split at hs
 case h_2=>cases hs
 rename_i v_0 v_1 t l v_2 b v_3 kk v_4;obtain ⟨hm,rfl⟩:=noN hs;have hm:=Nat.eq_of_beq_eq_true hm;subst hm;have hc_0:bc (Nat.beq v_0 (b.length)) (bc (eqN v_1 (true)) (bc (eqN v_2 (true)) (bc (eqN v_3 (true)) (bc (eqN v_4 (true)) (decide (FrOk l b)) false) false) false) false) false=true:=hc;obtain ⟨q_0,hc_1⟩:=bcT hc_0;have p_0:=(Nat.eq_of_beq_eq_true q_0).symm;subst p_0;obtain ⟨q_1,hc_2⟩:=bcT hc_1;have p_1:=(eqN_ok q_1).symm;subst p_1;obtain ⟨q_2,hc_3⟩:=bcT hc_2;have p_2:=(eqN_ok q_2).symm;subst p_2;obtain ⟨q_3,hc_4⟩:=bcT hc_3
 have p_3:=(eqN_ok q_3).symm;subst p_3;obtain ⟨q_4,hc_5⟩:=bcT hc_4;have p_4:=(eqN_ok q_4).symm;subst p_4;have hc:=of_decide_eq_true hc_5;exact EndM.calls (PFrC.ends hc) ctTg_ok (by kernel_rfl) hres hax hH
noncomputable def spFre:ZMT:=ZMT.or spFre_0 (ZMT.or spFre_1 (spFre_2))
theorem spFre_ok:ZMtOk Try.prog 58 spFre:=spFre_0_ok.or (spFre_1_ok.or (spFre_2_ok))
namespace PCol
noncomputable def K0 (b:List Bool) (nb:Bool):List (Nat × EK):=[(0,.cells 75 [.slO 1 1 b.length nb] true),(1,.seq 4 (.bools b) nb)]
noncomputable def RUN (s:ES):ZF:=RMs 2 53 .nil [(atS 2 105 1,[[(0,none),(5,none),(6,none),(7,none)],[(2,some (1,3,.ints .i64 []))],[]])] [2] [] s

noncomputable def sL (b:List Bool) (nb:Bool) (g:List Int) (nn:Bool) (i:Int):NS:=⟨[⟨105,20,[(0,(EV.yl 2)),(5,(EV.slO 1 1 (List.length b) (nb))),(6,(EV.v (Value.int IntKind.i64 (Int.ofNat (List.length b))))),(7,iv i)],[.it (.code (nav [1,0,0] (bodyOf Try.f105))),.it (.inLoop (nav [1,0,0] (bodyOf Try.f105))),.it (.inBlock 0)],[],Option.none⟩,⟨104,13,[(2,(EV.ptr 3 0))],[(.inRF 2),.it (.inBlock 0),.it (.code (nav [1,1] (bodyOf Try.f104)))],[(DE.mk 4)],Option.none⟩,⟨53,5,[],[.ops (opsOf (nav [1,0] (bodyOf Try.f53))) ((opsOf (nav [1,0] (bodyOf Try.f53))).toList.drop 1),.it (.code (nav [1,1] (bodyOf Try.f53)))],[],Option.none⟩],[(0,(EK.cells 75 [(EV.slO 1 1 (List.length b) (nb))] true)),(1,(EK.seq 4 (SyC.bools (b)) (nb))),(2,(EK.loop LoopState.ready Option.none 104 13 (Tr.node Option.none (Tr.node Option.none Tr.nil (Tr.node (Option.some (EV.ptr 3 0)) Tr.nil Tr.nil)) Tr.nil) (Array.mk [7]) (nav [1,0,1,0,0] (bodyOf Try.f104)) (nav [1,0,1,0,1] (bodyOf Try.f104)) 4)),(3,EK.cells 22 [EV.slO 5 1 g.length nn] true),(4,(EK.dfr true)),(5,EK.seq 3 (.ints .i64 g) nn)],6⟩
theorem in_t (b:List Bool) (nb:Bool):RUN (st0m 53 [.fn 105 [.ptr 0 0]] (K0 b nb) 2)=(.at (sL (b) (nb) ([]) (false) ((0:Int)))):=by kernel_rfl
theorem l_t (b:List Bool) (nb:Bool) (g:List Int) (nn:Bool) (i:Int):RUN (stOf (sL b nb g nn i))=(bc (decide (i < Int.ofNat (List.length b))) (bc (bc (bc (decide ((0:Int)≤i)) (Nat.blt (Int.toNat i) (List.length b)) false) true false) (bc (bc (Nat.blt (Int.toNat i) (List.length b)) true false) (bc (List.getD b (Int.toNat i) false) (bc (bc (Nat.beq (List.length g) (List.length g)) (bc (Nat.ble (List.length g+List.length (List.map (fun r=>U.int (List.headD r (U.i (0:Int)))) [[U.i i]])) (65536:Nat)) (bc nn true (bc nn false true)) false) false) (.at (sL (b) (nb) (g ++ List.map (fun r=>U.int (List.headD r (U.i (0:Int)))) [[U.i i]]) (bc nn true (Nat.blt (0:Nat) (List.length (List.map (fun r=>U.int (List.headD r (U.i (0:Int)))) [[U.i i]])))) (IntKind.wrap IntKind.i64 (i+(1:Int))))) .bad) (.at (sL (b) (nb) (g) (nn) (IntKind.wrap IntKind.i64 (i+(1:Int)))))) .bad) .bad) (.done (EV.slO 2 1 (List.length g) (nn)) [(0,(EK.cells 75 [(EV.slO 1 1 (List.length b) (nb))] true)),(1,(EK.seq 4 (SyC.bools (b)) (nb))),(2,(EK.seq 3 (SyC.ints IntKind.i64 (g)) (nn)))] 3)):=by kernel_rfl
theorem step {b:List Bool} {nb:Bool} {g:List Int} {i:Nat} (hi:i < b.length) (hb:b.length≤3000) (hg:g.length≤i):RUN (stOf (sL b nb g (decide (0 < g.length)) i)) = .at (sL b nb (g ++ (if b.getD i false then [(i:Int)] else [])) (decide (0 < (g ++ (if b.getD i false then [(i:Int)] else [])).length)) (i+1:Nat)):=by
 have e0:Int.toNat (i:Int)=i:=rfl;have m1:List.map (fun r=>U.int (List.headD r (U.i 0))) [[U.i (i:Int)]]=[(i:Int)]:=rfl;rw [l_t,e0,m1,nn_snoc,nn_any]
 cases b.getD i false with
 | false=>
  rw [if_neg (by simp),List.append_nil];simp (disch:=omega) only [Nat.add_eq,eqSy_self,eqN_self,bc_same,List.length_cons,ofn,wrap_in,dt,df,bltD,bltN,ble_of,bleN,beqD,bc_t,bc_f,nn_ok,Nat.zero_add,to_nat,Int.zero_add,Int.sub_zero,Int.sub_self,Int.cast_ofNat_Int,Int.natCast_zero,Int.toNat_zero,List.take_zero,List.nil_append,List.length_append,List.length_nil];rfl
 | true=>
  rw [if_pos rfl];simp (disch:=omega) only [Nat.add_eq,eqSy_self,eqN_self,bc_same,List.length_cons,ofn,wrap_in,dt,df,bltD,bltN,ble_of,bleN,beqD,bc_t,bc_f,nn_ok,Nat.zero_add,to_nat,Int.zero_add,Int.sub_zero,Int.sub_self,Int.cast_ofNat_Int,Int.natCast_zero,Int.toNat_zero,List.take_zero,List.nil_append,List.length_append,List.length_nil];rfl
theorem loop {b:List Bool} {nb:Bool} (hb:b.length≤3000):∀ (k i:Nat) (g:List Int),i+k=b.length→g.length≤i→EndM 2 53 .nil (stOf (sL b nb g (decide (0 < g.length)) i)) (.slO 2 1 (g ++ ofNs ((List.range' i k).filter fun j=>b.getD j false)).length (decide (0 < (g ++ ofNs ((List.range' i k).filter fun j=>b.getD j false)).length))) (K0 b nb ++ [(2,.seq 3 (.ints .i64 (g ++ ofNs ((List.range' i k).filter fun j=>b.getD j false))) (decide (0 < (g ++ ofNs ((List.range' i k).filter fun j=>b.getD j false)).length)))]) 3
 | 0,i,g,h,hg=>by
  have h1:=l_t b nb g (decide (0 < g.length)) i;rw [df (show ¬ (i:Int) < Int.ofNat b.length by rw [ofn];omega),bc_f] at h1;have e:g ++ ofNs ((List.range' i 0).filter fun j=>b.getD j false)=g:=List.append_nil g;rw [e];exact .done h1
 | k+1,i,g,h,hg=>by
  have h1:=step (b:=b) (nb:=nb) (g:=g) (i:=i) (by omega) hb hg;have e:g ++ ofNs ((List.range' i (k+1)).filter fun j=>b.getD j false)=(g ++ (if b.getD i false then [(i:Int)] else [])) ++ ofNs ((List.range' (i+1) k).filter fun j=>b.getD j false):=by
   rw [List.range'_succ,List.append_assoc];congr 1
   cases hqi:b.getD i false with
   | false=>rw [List.filter_cons_of_neg (p:=fun j=>b.getD j false) (by rw [hqi];simp)];rfl
   | true=>rw [List.filter_cons_of_pos (p:=fun j=>b.getD j false) hqi];rfl
  rw [e];exact .at (.nil _) h1 (loop hb k (i+1) _ (by omega) (by rw [List.length_append];split <;> simp <;> omega))
theorem ends {b:List Bool} {nb:Bool} (hb:b.length≤3000):EndM 2 53 .nil (st0m 53 [.fn 105 [.ptr 0 0]] (K0 b nb) 2) (.slO 2 1 (ofNs (idxB b)).length (decide (0 < (ofNs (idxB b)).length))) (K0 b nb ++ [(2,.seq 3 (.ints .i64 (ofNs (idxB b))) (decide (0 < (ofNs (idxB b)).length)))]) 3:=by
 have h1:=in_t b nb;have h2:=loop (b:=b) (nb:=nb) hb b.length 0 [] (by omega) (Nat.le_refl _);rw [← List.range_eq_range',List.nil_append] at h2;exact .at (.nil _) h1 h2
end PCol
noncomputable def spCol:ZMT:=fun ax K0 m=>match ax,K0 with
 | [.fn 105 [.ptr 0 0]],[(0,.cells 75 [.slO 1 1 v_0 v_1] v_2),(1,.seq 4 (.bools b) nb)]=>bc (Nat.beq m (2)) (some ⟨bc (Nat.beq v_0 (b.length)) (bc (eqN v_1 (nb)) (bc (eqN v_2 (true)) (decide (b.length≤3000)) false) false) false,.slO 2 1 (ofNs (idxB b)).length (decide (0 < (ofNs (idxB b)).length)),PCol.K0 b nb ++ [(2,.seq 3 (.ints .i64 (ofNs (idxB b))) (decide (0 < (ofNs (idxB b)).length)))],3,2⟩) none
 | _,_=>none
theorem spCol_ok:ZMtOk Try.prog 53 spCol:=fun γ w0 w us ax K0 m r hs hc hres hax hH=>by
 unfold spCol at hs;split at hs
 case h_2=>cases hs
 rename_i v_0 v_1 v_2 b nb;obtain ⟨hm,rfl⟩:=noN hs;have hm:=Nat.eq_of_beq_eq_true hm;subst hm;have hc_0:bc (Nat.beq v_0 (b.length)) (bc (eqN v_1 (nb)) (bc (eqN v_2 (true)) (decide (b.length≤3000)) false) false) false=true:=hc;obtain ⟨q_0,hc_1⟩:=bcT hc_0;have p_0:=(Nat.eq_of_beq_eq_true q_0).symm;subst p_0;obtain ⟨q_1,hc_2⟩:=bcT hc_1;have p_1:=(eqN_ok q_1).symm;subst p_1;obtain ⟨q_2,hc_3⟩:=bcT hc_2;have p_2:=(eqN_ok q_2).symm;subst p_2;have hc:=of_decide_eq_true hc_3;exact EndM.calls (PCol.ends hc) (.nil _) (by kernel_rfl) hres hax hH
noncomputable def ctLo:Tr ZCC:=(((Tr.nil.put 52 (some (dC spPChL))).put 55 (some (mC spTgt))).put 58 (some (mC spFre))).put 53 (some (mC spCol))
theorem ctLo_ok:ZCtsOk Try.prog ctLo:=((((ZCtsOk.nil _).add rfl spPChL_ok).addM rfl spTgt_ok).addM rfl spFre_ok).addM rfl spCol_ok
noncomputable abbrev hE (t:Int) (l:List Int):EV:=.agg [iv t,il l]
noncomputable abbrev rsL (e:Int) (l:List Int):EV:=.tup [il (bc (e != 0) [] l),iv e]
theorem rsL_err {e:Int} (l:List Int) (h:e≠0):Weak (.tup [.v (.slice none 0 0),iv e]) (rsL e l):=by
 unfold rsL;rw [show (e != 0)=true by simp [h],bc_t];exact Weak.tup (.cons (Weak.nilI _) (.cons (Weak.refl _) .nil))
theorem anyI_no {p:Int→Bool}:∀ {l:List Int},anyI p l=false→∀ x,x ∈ l→p x=false
 | [],_,x,hx=>by cases hx
 | y :: l,h,x,hx=>by
  unfold anyI at h
  cases hy:p y with
  | true=>rw [hy,bc_t] at h;cases h
  | false=>
   rw [hy,bc_f] at h;rcases List.mem_cons.1 hx with rfl | hx
   ·exact hy
   ·exact anyI_no h x hx
theorem badH_no {t x:Int} (ht:2≤t∧t≤48) (h:badH t x=false):LetOk x:=by
 unfold badH at h
 by_cases h1:x ≤ -t
 ·rw [dt h1,bc_t] at h;cases h
 rw [df h1,bc_f] at h
 by_cases h2:x=0
 ·rw [eqT h2,bc_t] at h;cases h
 rw [eqF h2,bc_f] at h;unfold LetOk
 by_cases h3:t≤x
 ·rw [dt h3,bc_t] at h
  by_cases h4:x≤1000
  ·rw [dt h4,bc_t] at h;cases h
  rw [df h4,bc_f] at h;have:=of_decide_eq_false h;omega
 ·omega
theorem chkL_ok {t:Int} {l:List Int} (h:chkL t l=0):(2≤t∧t≤48)∧l.length≤2000∧∀ x,x ∈ l→LetOk x:=by
 unfold chkL at h
 by_cases h1:t < 2
 ·rw [dt h1,bc_t] at h;cases h
 rw [df h1,bc_f] at h
 by_cases h2:48 < t
 ·rw [dt h2,bc_t] at h;cases h
 rw [df h2,bc_f] at h
 by_cases h3:2000 < (l.length:Int)
 ·rw [dt h3,bc_t] at h;cases h
 rw [df h3,bc_f] at h
 cases hb:anyI (badH t) l with
 | true=>rw [hb,bc_t] at h;cases h
 | false=>exact ⟨by omega,by omega,fun x hx=>badH_no (by omega) (anyI_no hb x hx)⟩
theorem chkL_tig {t:Int} {l:List Int} (h:chkL t l=0):TigOk l l 0 0∧FrOk l (tgA l):=by
 obtain ⟨_,h1,h2⟩:=chkL_ok h;exact ⟨⟨rfl,rfl,by omega,h2⟩,tgA_len l,by omega,h2⟩
namespace PTight
noncomputable def RUN (s:ES):ZF:=RZ 13 ctLo (fun _=>false) [] [] false s
theorem in_t (t:Int) (l:List Int):RUN (st0 13 [hE t l])=(bc (bc (decide (In64 l)) true false) (bc (chkL t l != (0:Int)) (.done (EV.tup [(EV.v (Value.slice Option.none 0 0)),(EV.v (Value.int IntKind.i64 (chkL t l)))]) [] 0) (bc (bc (decide (TigOk l l (0:Nat) (0:Nat))) true false) (bc (bc (bc (Nat.beq (List.length l) (List.length (tgA l))) (decide (List.length (tgA l)≤(3000:Nat))) false) true false) (bc (bc (Nat.beq (List.length (ofNs (idxB (tgA l)))) (List.length (ofNs (idxB (tgA l))))) true false) (.done (EV.tup [(EV.lst (SyC.ints IntKind.i64 (ofNs (idxB (tgA l))))),(EV.v (Value.int IntKind.i64 (0)))]) [] 0) .bad) .bad) .bad)) .bad):=by kernel_rfl
theorem ends {t:Int} {l:List Int} (hx:In64 l):EndZ 13 ctLo false (st0 13 [hE t l]) (rsL (chkL t l) (ofNs (idxB (tgA l)))) [] 0:=by
 have h:=in_t t l;rw [dt hx,bc_t,bc_t] at h
 by_cases z:chkL t l=0
 ·obtain ⟨h1,h2⟩:=chkL_tig z;have h3:=tgA_len l;have h4:=h1.2.2.1;unfold rsL;rw [z,show ((0:Int) != 0)=false from rfl,bc_f,dt h1,h3] at h
  rw [z,show ((0:Int) != 0)=false from rfl,bc_f]
  simp (disch:=omega) only [Nat.add_eq,eqSy_self,eqN_self,bc_same,List.length_cons,ofn,wrap_in,dt,df,bltD,bltN,ble_of,bleN,beqD,bc_t,bc_f,nn_ok,Nat.zero_add,to_nat,Int.zero_add,Int.sub_zero,Int.sub_self,Int.cast_ofNat_Int,Int.natCast_zero,Int.toNat_zero,List.take_zero,List.nil_append,List.length_append,List.length_nil] at h;exact .done h
 ·rw [show (chkL t l != 0)=true by simp [z],bc_t] at h;exact (EndZ.done h).weak (rsL_err _ z)
end PTight
noncomputable def spPTi:ZCT:=fun ax=>match ax with
 | [.agg [.v (.int .i64 t),.lst (.ints .i64 l)]]=>some ⟨decide (In64 l),rsL (chkL t l) (ofNs (idxB (tgA l))),[],0⟩
 | _=>none
namespace PFreed
noncomputable def RUN (s:ES):ZF:=RZ 18 ctLo (fun _=>false) [] [] false s
theorem in_t (t:Int) (l:List Int):RUN (st0 18 [hE t l])=(bc (bc (decide (In64 l)) true false) (bc (chkL t l != (0:Int)) (.done (EV.tup [(EV.v (Value.slice Option.none 0 0)),(EV.v (Value.int IntKind.i64 (chkL t l)))]) [] 0) (bc (bc (decide (TigOk l l (0:Nat) (0:Nat))) true false) (bc (bc (bc (Nat.beq (List.length l) (List.length (tgA l))) (decide (FrOk l (tgA l))) false) true false) (bc (bc (Nat.beq (List.length (gF l (tgA l) PFrA.O)) (List.length (gF l (tgA l) PFrA.O))) true false) (.done (EV.tup [(EV.lst (SyC.ints IntKind.i64 (gF l (tgA l) PFrA.O))),(EV.v (Value.int IntKind.i64 (0)))]) [] 0) .bad) .bad) .bad)) .bad):=by kernel_rfl
theorem ends {t:Int} {l:List Int} (hx:In64 l):EndZ 18 ctLo false (st0 18 [hE t l]) (rsL (chkL t l) (gF l (tgA l) fun _=>true)) [] 0:=by
 have h:=in_t t l;rw [dt hx,bc_t,bc_t] at h
 by_cases z:chkL t l=0
 ·obtain ⟨h1,h2⟩:=chkL_tig z;have h3:=tgA_len l;unfold rsL;rw [z,show ((0:Int) != 0)=false from rfl,bc_f,dt h1,h3,dt h2] at h
  rw [z,show ((0:Int) != 0)=false from rfl,bc_f]
  simp (disch:=omega) only [Nat.add_eq,eqSy_self,eqN_self,bc_same,List.length_cons,ofn,wrap_in,dt,df,bltD,bltN,ble_of,bleN,beqD,bc_t,bc_f,nn_ok,Nat.zero_add,to_nat,Int.zero_add,Int.sub_zero,Int.sub_self,Int.cast_ofNat_Int,Int.natCast_zero,Int.toNat_zero,List.take_zero,List.nil_append,List.length_append,List.length_nil] at h;exact .done h
 ·rw [show (chkL t l != 0)=true by simp [z],bc_t] at h;exact (EndZ.done h).weak (rsL_err _ z)
end PFreed
noncomputable def spPFd:ZCT:=fun ax=>match ax with
 | [.agg [.v (.int .i64 t),.lst (.ints .i64 l)]]=>some ⟨decide (In64 l),rsL (chkL t l) (gF l (tgA l) fun _=>true),[],0⟩
 | _=>none
theorem spPFd_ok:ZCtOk Try.prog 18 spPFd:=fun γ w us ax r hs hc hax hN hfz=>by
 unfold spPFd at hs;split at hs
 case h_2=>cases hs
 rename_i t l;obtain ⟨rfl⟩:=Option.some.inj hs;have hc_0:decide (In64 l)=true:=hc;have hc:=of_decide_eq_true hc_0;exact EndZ.calls (PFreed.ends hc) ctLo_ok (by kernel_rfl) hax hN hfz

namespace PWith
end PWith
end Go.Proofs.Ytfffbioafhppiaa.Ev
namespace Go.Proofs.Ytfffbioafhppiaa.Ev
open Go.Proofs
namespace RTch
noncomputable def RUN (s:ES):ZF:=RZ 56 .nil (fun _=>false) [] [] false s
theorem in_t (x y:Int):RUN (st0 56 [iv x,iv y])=(bc (decide ((1000:Int) < x)) (bc (decide ((1000:Int) < y)) (bc (decide ((-1:Int)≤IntKind.wrap IntKind.i64 (IntKind.wrap IntKind.i64 (x - (1000:Int)) - IntKind.wrap IntKind.i64 (y - (1000:Int))))) (bc (decide (IntKind.wrap IntKind.i64 (IntKind.wrap IntKind.i64 (x - (1000:Int)) - IntKind.wrap IntKind.i64 (y - (1000:Int)))≤(1:Int))) (bc (decide ((1000:Int) < x)) (.done (EV.v (Value.bool (!decide ((1000:Int) < y)))) [] 0) (.done (EV.v (Value.bool true)) [] 0)) (.done (EV.v (Value.bool false)) [] 0)) (.done (EV.v (Value.bool false)) [] 0)) (bc (decide ((-1:Int)≤IntKind.wrap IntKind.i64 (IntKind.wrap IntKind.i64 (x - (1000:Int)) - if IntKind.wrap IntKind.i64 ((0:Int) - y) > y then IntKind.wrap IntKind.i64 ((0:Int) - y) else y))) (bc (decide (IntKind.wrap IntKind.i64 (IntKind.wrap IntKind.i64 (x - (1000:Int)) - if IntKind.wrap IntKind.i64 ((0:Int) - y) > y then IntKind.wrap IntKind.i64 ((0:Int) - y) else y)≤(1:Int))) (bc (decide ((1000:Int) < x)) (.done (EV.v (Value.bool (!decide ((1000:Int) < y)))) [] 0) (.done (EV.v (Value.bool true)) [] 0)) (.done (EV.v (Value.bool false)) [] 0)) (.done (EV.v (Value.bool false)) [] 0))) (bc (decide ((1000:Int) < y)) (bc (decide ((-1:Int)≤IntKind.wrap IntKind.i64 ((if IntKind.wrap IntKind.i64 ((0:Int) - x) > x then IntKind.wrap IntKind.i64 ((0:Int) - x) else x) - IntKind.wrap IntKind.i64 (y - (1000:Int))))) (bc (decide (IntKind.wrap IntKind.i64 ((if IntKind.wrap IntKind.i64 ((0:Int) - x) > x then IntKind.wrap IntKind.i64 ((0:Int) - x) else x) - IntKind.wrap IntKind.i64 (y - (1000:Int)))≤(1:Int))) (bc (decide ((1000:Int) < x)) (.done (EV.v (Value.bool (!decide ((1000:Int) < y)))) [] 0) (.done (EV.v (Value.bool true)) [] 0)) (.done (EV.v (Value.bool false)) [] 0)) (.done (EV.v (Value.bool false)) [] 0)) (bc (decide ((-1:Int)≤IntKind.wrap IntKind.i64 ((if IntKind.wrap IntKind.i64 ((0:Int) - x) > x then IntKind.wrap IntKind.i64 ((0:Int) - x) else x) - if IntKind.wrap IntKind.i64 ((0:Int) - y) > y then IntKind.wrap IntKind.i64 ((0:Int) - y) else y))) (bc (decide (IntKind.wrap IntKind.i64 ((if IntKind.wrap IntKind.i64 ((0:Int) - x) > x then IntKind.wrap IntKind.i64 ((0:Int) - x) else x) - if IntKind.wrap IntKind.i64 ((0:Int) - y) > y then IntKind.wrap IntKind.i64 ((0:Int) - y) else y)≤(1:Int))) (bc (decide ((1000:Int) < x)) (.done (EV.v (Value.bool (!decide ((1000:Int) < y)))) [] 0) (.done (EV.v (Value.bool true)) [] 0)) (.done (EV.v (Value.bool false)) [] 0)) (.done (EV.v (Value.bool false)) [] 0)))):=by kernel_rfl
theorem sz_num {x:Int} (hx:-1000000≤x∧x≤1000000) (h:¬ 1000 < x):(if IntKind.wrap IntKind.i64 (0 - x) > x then IntKind.wrap IntKind.i64 (0 - x) else x)=numL x:=by
 rw [wrap_in (0 - x) (by omega) (by omega)];unfold numL;rw [if_neg h];split <;> split <;> omega
theorem pn_num {x:Int} (hx:-1000000≤x∧x≤1000000) (h:1000 < x):IntKind.wrap IntKind.i64 (x - 1000)=numL x:=by
 rw [wrap_in (x - 1000) (by omega) (by omega)];unfold numL;rw [if_pos h]
theorem num_b {x:Int} (hx:-1000000≤x∧x≤1000000):-1000000≤numL x∧numL x≤1000000:=by
 unfold numL;split
 ·omega
 ·split <;> omega
theorem ends {x y:Int} (hx:-1000000≤x∧x≤1000000) (hy:-1000000≤y∧y≤1000000):EndZ 56 .nil false (st0 56 [iv x,iv y]) (bv (tchL x y)) [] 0:=by
 have h:=in_t x y;have b1:=num_b hx;have b2:=num_b hy;have w:IntKind.wrap IntKind.i64 (numL x - numL y)=numL x - numL y:=wrap_in _ (by omega) (by omega);have key:RUN (st0 56 [iv x,iv y]) = .done (bv (tchL x y)) [] 0:=by
  rw [h];unfold tchL isPn
  by_cases c1:1000 < x
  ·by_cases c2:1000 < y
   ·rw [dt c1,dt c2,pn_num hx c1,pn_num hy c2,w];cases decide (-1≤numL x - numL y) <;> cases decide (numL x - numL y≤1) <;> rfl
   ·rw [dt c1,df c2,pn_num hx c1,sz_num hy c2,w];cases decide (-1≤numL x - numL y) <;> cases decide (numL x - numL y≤1) <;> rfl
  ·by_cases c2:1000 < y
   ·rw [df c1,dt c2,sz_num hx c1,pn_num hy c2,w];cases decide (-1≤numL x - numL y) <;> cases decide (numL x - numL y≤1) <;> rfl
   ·rw [df c1,df c2,sz_num hx c1,sz_num hy c2,w];cases decide (-1≤numL x - numL y) <;> cases decide (numL x - numL y≤1) <;> rfl
 exact .done key
end RTch
noncomputable def spTch:ZCT:=fun ax=>match ax with
 | [.v (.int .i64 x),.v (.int .i64 y)]=>some ⟨decide ((-1000000≤x∧x≤1000000)∧(-1000000≤y∧y≤1000000)),bv (tchL x y),[],0⟩
 | _=>none
theorem spTch_ok:ZCtOk Try.prog 56 spTch:=fun γ w us ax r hs hc hax hN hfz=>by
 unfold spTch at hs;split at hs
 case h_2=>cases hs
 rename_i x y;obtain ⟨rfl⟩:=Option.some.inj hs;have hc_0:decide ((-1000000≤x∧x≤1000000)∧(-1000000≤y∧y≤1000000))=true:=hc;have hc:=of_decide_eq_true hc_0;exact EndZ.calls (RTch.ends hc.1 hc.2) (.nil _) (by kernel_rfl) hax hN hfz
namespace RIsP
noncomputable def RUN (s:ES):ZF:=RZ 60 .nil (fun _=>false) [] [] false s
theorem in_t (x:Int):RUN (st0 60 [iv x])=(.done (EV.v (Value.bool (decide ((1000:Int) < x)))) [] 0):=by kernel_rfl
end RIsP
noncomputable def spIsP:ZCT:=fun ax=>match ax with
 | [.v (.int .i64 x)]=>some ⟨decide (True),bv (isPn x),[],0⟩
 | _=>none
theorem spIsP_ok:ZCtOk Try.prog 60 spIsP:=fun γ w us ax r hs hc hax hN hfz=>by
 unfold spIsP at hs;split at hs
 case h_2=>cases hs
 rename_i x;obtain ⟨rfl⟩:=Option.some.inj hs;have hc_0:decide (True)=true:=hc;have hc:=of_decide_eq_true hc_0;exact EndZ.calls (.done (RIsP.in_t x)) (.nil _) (by kernel_rfl) hax hN hfz
namespace RAll
noncomputable def RUN (s:ES):ZF:=RZ 133 .nil (atS 0 133 3) [] [[(1,none),(3,some (1,3,.ints .i64 [])),(4,none)]] false s

noncomputable def sL (t:Int) (l g:List Int) (nn:Bool) (i:Int):NS:=⟨[⟨133,17,[(1,(EV.ptr 0 0)),(3,EV.slO 1 1 g.length nn),(4,iv i)],[.it (.code (nav [1,1,0,1,0,0,0] (bodyOf Try.f133))),.it (.code (nav [1,1,0,1,0,0,1] (bodyOf Try.f133))),.it (.inLoop (nav [1,1,0,1,0,0] (bodyOf Try.f133))),.it (.inBlock 0),.it (.code (nav [1,1,1] (bodyOf Try.f133)))],[],Option.none⟩],[(0,(EK.cells 24 [(EV.v (Value.int IntKind.i64 (t))),(EV.lst (SyC.ints IntKind.i64 (l)))] true)),(1,EK.seq 3 (.ints .i64 g) nn)],2⟩
theorem in_t (t:Int) (l:List Int):RUN (st0 133 [hE t l])=(.at (sL (t) (l) ([]) (false) ((0:Int)))):=by kernel_rfl
theorem l_t (t:Int) (l g:List Int) (nn:Bool) (i:Int):RUN (stOf (sL t l g nn i))=(bc (decide (i < Int.ofNat (List.length l))) (bc (bc (Nat.beq (List.length g) (List.length g)) (bc (Nat.ble (List.length g+List.length (List.map (fun r=>U.int (List.headD r (U.i (0:Int)))) [[U.i i]])) (65536:Nat)) (bc nn true (bc nn false true)) false) false) (.at (sL (t) (l) (g ++ List.map (fun r=>U.int (List.headD r (U.i (0:Int)))) [[U.i i]]) (bc nn true (Nat.blt (0:Nat) (List.length (List.map (fun r=>U.int (List.headD r (U.i (0:Int)))) [[U.i i]])))) (IntKind.wrap IntKind.i64 (i+(1:Int))))) .bad) (bc (Nat.beq (List.length g) (List.length g)) (.done (EV.lst (SyC.ints IntKind.i64 (g))) [] 0) .bad)):=by kernel_rfl
theorem loop {t:Int} {l:List Int} (hl:l.length≤3000):∀ (k i:Nat) (nn:Bool),i+k=l.length→EndZ 133 .nil false (stOf (sL t l (ofNs (List.range i)) nn i)) (il (ofNs (List.range l.length))) [] 0
 | 0,i,nn,h=>by
  obtain rfl:i=l.length:=by omega
  have h1:=l_t t l (ofNs (List.range l.length)) nn l.length;rw [df (show ¬ (l.length:Int) < Int.ofNat l.length by rw [ofn];omega),bc_f] at h1;simp (disch:=omega) only [Nat.add_eq,eqSy_self,eqN_self,bc_same,List.length_cons,ofn,wrap_in,dt,df,bltD,bltN,ble_of,bleN,beqD,bc_t,bc_f,nn_ok,Nat.zero_add,to_nat,Int.zero_add,Int.sub_zero,Int.sub_self,Int.cast_ofNat_Int,Int.natCast_zero,Int.toNat_zero,List.take_zero,List.nil_append,List.length_append,List.length_nil] at h1;exact .done h1
 | k+1,i,nn,h=>by
  have h1:=l_t t l (ofNs (List.range i)) nn i;have m1:List.map (fun r=>U.int (List.headD r (U.i 0))) [[U.i (i:Int)]]=[(i:Int)]:=rfl;have e:ofNs (List.range i) ++ [(i:Int)]=ofNs (List.range (i+1)):=by rw [List.range_succ,ofNs_app];rfl
  have lg:(ofNs (List.range i)).length=i:=by rw [ofNs_len,List.length_range]
  have w:bc nn true (Nat.blt 0 (List.length [(i:Int)]))=true:=by cases nn <;> rfl
  have w2:bc nn true (bc nn false true)=true:=by cases nn <;> rfl
  rw [m1,e,w,w2,lg] at h1;simp (disch:=omega) only [Nat.add_eq,eqSy_self,eqN_self,bc_same,List.length_cons,ofn,wrap_in,dt,df,bltD,bltN,ble_of,bleN,beqD,bc_t,bc_f,nn_ok,Nat.zero_add,to_nat,Int.zero_add,Int.sub_zero,Int.sub_self,Int.cast_ofNat_Int,Int.natCast_zero,Int.toNat_zero,List.take_zero,List.nil_append,List.length_append,List.length_nil] at h1;exact .at (.nil _) h1 (loop hl k (i+1) true (by omega))
theorem ends {t:Int} {l:List Int} (hl:l.length≤3000):EndZ 133 .nil false (st0 133 [hE t l]) (il (ofNs (List.range l.length))) [] 0:=
 .at (.nil _) (in_t t l) (loop hl l.length 0 false (by omega))
end RAll
noncomputable def spAll:ZCT:=fun ax=>match ax with
 | [.agg [.v (.int .i64 t),.lst (.ints .i64 l)]]=>some ⟨decide (l.length≤3000),il (ofNs (List.range l.length)),[],0⟩
 | _=>none
theorem spAll_ok:ZCtOk Try.prog 133 spAll:=fun γ w us ax r hs hc hax hN hfz=>by
 unfold spAll at hs;split at hs
 case h_2=>cases hs
 rename_i t l;obtain ⟨rfl⟩:=Option.some.inj hs;have hc_0:decide (l.length≤3000)=true:=hc;have hc:=of_decide_eq_true hc_0;exact EndZ.calls (RAll.ends hc) (.nil _) (by kernel_rfl) hax hN hfz
namespace RHas
noncomputable def RUN (s:ES):ZF:=RZ 94 .nil (atS 0 94 2) [] [[(0,none),(1,none),(5,none)]] false s

noncomputable def sL (l:List Int) (x i:Int):NS:=⟨[⟨94,18,[(0,(EV.lst (SyC.ints IntKind.i64 (l)))),(1,(EV.v (Value.int IntKind.i64 (x)))),(5,iv i)],[.it (.code (nav [1,0,1,0,0,0] (bodyOf Try.f94))),.it (.code (nav [1,0,1,0,0,1] (bodyOf Try.f94))),.it (.inLoop (nav [1,0,1,0,0] (bodyOf Try.f94))),.it (.inBlock 0),.it (.code (nav [1,1] (bodyOf Try.f94)))],[],Option.none⟩],[],0⟩
theorem in_t (l:List Int) (x:Int):RUN (st0 94 [il l,iv x])=(.at (sL (l) (x) ((0:Int)))):=by kernel_rfl
theorem l_t (l:List Int) (x i:Int):RUN (stOf (sL l x i))=(bc (decide (i < Int.ofNat (List.length l))) (bc (bc (bc (decide ((0:Int)≤i)) (Nat.blt (Int.toNat i) (List.length l)) false) true false) (bc (bc (Nat.blt (Int.toNat i) (List.length l)) true false) (bc (List.getD l (Int.toNat i) (0:Int) == x) (.done (EV.v (Value.bool true)) [] 0) (.at (sL (l) (x) (IntKind.wrap IntKind.i64 (i+(1:Int)))))) .bad) .bad) (.done (EV.v (Value.bool false)) [] 0)):=by kernel_rfl
theorem loop {l:List Int} {x:Int} (hl:l.length≤5000):∀ (k i:Nat),i+k=l.length→EndZ 94 .nil false (stOf (sL l x i)) (bv (decide (x ∈ l.drop i))) [] 0
 | 0,i,h=>by
  have h1:=l_t l x i;rw [df (show ¬ (i:Int) < Int.ofNat l.length by rw [ofn];omega),bc_f] at h1;rw [List.drop_eq_nil_of_le (by omega)];exact .done h1
 | k+1,i,h=>by
  have hi:i < l.length:=by omega
  have h1:=l_t l x i;have e0:Int.toNat (i:Int)=i:=rfl;rw [e0,getD_at hi] at h1;rw [List.drop_eq_getElem_cons hi];simp (disch:=omega) only [Nat.add_eq,eqSy_self,eqN_self,bc_same,List.length_cons,ofn,wrap_in,dt,df,bltD,bltN,ble_of,bleN,beqD,bc_t,bc_f,nn_ok,Nat.zero_add,to_nat,Int.zero_add,Int.sub_zero,Int.sub_self,Int.cast_ofNat_Int,Int.natCast_zero,Int.toNat_zero,List.take_zero,List.nil_append,List.length_append,List.length_nil] at h1
  by_cases c:l[i]=x
  ·rw [eqT c,bc_t] at h1;rw [show decide (x ∈ l[i] :: l.drop (i+1))=true from decide_eq_true (by simp [c])]
   exact .done h1
  ·rw [eqF c,bc_f] at h1;rw [show decide (x ∈ l[i] :: l.drop (i+1))=decide (x ∈ l.drop (i+1)) from decide_eq_decide.2 (by rw [List.mem_cons];exact ⟨fun q=>q.resolve_left fun e=>c e.symm,.inr⟩)]
   exact .at (.nil _) h1 (loop hl k (i+1) (by omega))
theorem ends {l:List Int} {x:Int} (hl:l.length≤5000):EndZ 94 .nil false (st0 94 [il l,iv x]) (bv (decide (x ∈ l))) [] 0:=
 .at (.nil _) (in_t l x) (loop hl l.length 0 (by omega))
end RHas
noncomputable def spHas:ZCT:=fun ax=>match ax with
 | [.lst (.ints .i64 l),.v (.int .i64 x)]=>some ⟨decide (l.length≤5000),bv (decide (x ∈ l)),[],0⟩
 | _=>none
theorem spHas_ok:ZCtOk Try.prog 94 spHas:=fun γ w us ax r hs hc hax hN hfz=>by
 unfold spHas at hs;split at hs
 case h_2=>cases hs
 rename_i l x;obtain ⟨rfl⟩:=Option.some.inj hs;have hc_0:decide (l.length≤5000)=true:=hc;have hc:=of_decide_eq_true hc_0;exact EndZ.calls (RHas.ends hc) (.nil _) (by kernel_rfl) hax hN hfz
namespace RPns
noncomputable def RUN (s:ES):ZF:=RZ 87 .nil (atS 0 87 3) [] [[(1,none),(3,some (1,3,.ints .i64 [])),(4,none)]] false s

noncomputable def sL (t:Int) (l g:List Int) (nn:Bool) (i:Int):NS:=⟨[⟨87,23,[(1,(EV.ptr 0 0)),(3,EV.slO 1 1 g.length nn),(4,iv i)],[.it (.code (nav [1,1,0,1,0,0,0] (bodyOf Try.f87))),.it (.code (nav [1,1,0,1,0,0,1] (bodyOf Try.f87))),.it (.inLoop (nav [1,1,0,1,0,0] (bodyOf Try.f87))),.it (.inBlock 0),.it (.code (nav [1,1,1] (bodyOf Try.f87)))],[],Option.none⟩],[(0,(EK.cells 24 [(EV.v (Value.int IntKind.i64 (t))),(EV.lst (SyC.ints IntKind.i64 (l)))] true)),(1,EK.seq 3 (.ints .i64 g) nn)],2⟩
theorem in_t (t:Int) (l:List Int):RUN (st0 87 [hE t l])=(.at (sL (t) (l) ([]) (false) ((0:Int)))):=by kernel_rfl
theorem l_t (t:Int) (l g:List Int) (nn:Bool) (i:Int):RUN (stOf (sL t l g nn i))=(bc (decide (i < Int.ofNat (List.length l))) (bc (bc (bc (decide ((0:Int)≤i)) (Nat.blt (Int.toNat i) (List.length l)) false) true false) (bc (bc (Nat.blt (Int.toNat i) (List.length l)) true false) (bc (decide ((1000:Int) < List.getD l (Int.toNat i) (0:Int))) (bc (bc (Nat.beq (List.length g) (List.length g)) (bc (Nat.ble (List.length g+List.length (List.map (fun r=>U.int (List.headD r (U.i (0:Int)))) [[U.i i]])) (65536:Nat)) (bc nn true (bc nn false true)) false) false) (.at (sL (t) (l) (g ++ List.map (fun r=>U.int (List.headD r (U.i (0:Int)))) [[U.i i]]) (bc nn true (Nat.blt (0:Nat) (List.length (List.map (fun r=>U.int (List.headD r (U.i (0:Int)))) [[U.i i]])))) (IntKind.wrap IntKind.i64 (i+(1:Int))))) .bad) (.at (sL (t) (l) (g) (nn) (IntKind.wrap IntKind.i64 (i+(1:Int)))))) .bad) .bad) (bc (Nat.beq (List.length g) (List.length g)) (.done (EV.lst (SyC.ints IntKind.i64 (g))) [] 0) .bad)):=by kernel_rfl
def pinI (l:List Int) (i:Nat):List Nat:=(List.range i).filter fun j=>isPn (l.getD j 0)
theorem pinI_succ (l:List Int) (i:Nat):pinI l (i+1)=pinI l i ++ (if isPn (l.getD i 0) then [i] else []):=by
 unfold pinI;rw [List.range_succ,filter_snoc]
theorem pinI_len (l:List Int) (i:Nat):(pinI l i).length≤i:=by
 have:=List.length_filter_le (fun j=>isPn (l.getD j 0)) (List.range i);rw [List.length_range] at this;exact this
theorem loop {t:Int} {l:List Int} (hl:l.length≤3000):∀ (k i:Nat) (nn:Bool),i+k=l.length→EndZ 87 .nil false (stOf (sL t l (ofNs (pinI l i)) nn i)) (il (ofNs (pinI l l.length))) [] 0
 | 0,i,nn,h=>by
  obtain rfl:i=l.length:=by omega
  have h1:=l_t t l (ofNs (pinI l l.length)) nn l.length;rw [df (show ¬ (l.length:Int) < Int.ofNat l.length by rw [ofn];omega),bc_f] at h1;simp (disch:=omega) only [Nat.add_eq,eqSy_self,eqN_self,bc_same,List.length_cons,ofn,wrap_in,dt,df,bltD,bltN,ble_of,bleN,beqD,bc_t,bc_f,nn_ok,Nat.zero_add,to_nat,Int.zero_add,Int.sub_zero,Int.sub_self,Int.cast_ofNat_Int,Int.natCast_zero,Int.toNat_zero,List.take_zero,List.nil_append,List.length_append,List.length_nil] at h1;exact .done h1
 | k+1,i,nn,h=>by
  have h1:=l_t t l (ofNs (pinI l i)) nn i;have m1:List.map (fun r=>U.int (List.headD r (U.i 0))) [[U.i (i:Int)]]=[(i:Int)]:=rfl;have e0:Int.toNat (i:Int)=i:=rfl;have lg:(ofNs (pinI l i)).length≤i:=by rw [ofNs_len];exact pinI_len l i
  have w:bc nn true (Nat.blt 0 (List.length [(i:Int)]))=true:=by cases nn <;> rfl
  have w2:bc nn true (bc nn false true)=true:=by cases nn <;> rfl
  have e:=congrArg ofNs (pinI_succ l i);rw [ofNs_app] at e;rw [m1,w,w2,e0] at h1
  by_cases c:1000 < l.getD i 0
  ·rw [show isPn (l.getD i 0)=true from decide_eq_true c,if_pos rfl] at e
   rw [show ofNs [i]=[(i:Int)] from rfl] at e
   rw [← e,dt c] at h1;simp (disch:=omega) only [Nat.add_eq,eqSy_self,eqN_self,bc_same,List.length_cons,ofn,wrap_in,dt,df,bltD,bltN,ble_of,bleN,beqD,bc_t,bc_f,nn_ok,Nat.zero_add,to_nat,Int.zero_add,Int.sub_zero,Int.sub_self,Int.cast_ofNat_Int,Int.natCast_zero,Int.toNat_zero,List.take_zero,List.nil_append,List.length_append,List.length_nil] at h1;exact .at (.nil _) h1 (loop hl k (i+1) true (by omega))
  ·rw [show isPn (l.getD i 0)=false from decide_eq_false c,if_neg (by simp),show ofNs []=([]:List Int) from rfl,List.append_nil] at e
   rw [← e,df c] at h1;simp (disch:=omega) only [Nat.add_eq,eqSy_self,eqN_self,bc_same,List.length_cons,ofn,wrap_in,dt,df,bltD,bltN,ble_of,bleN,beqD,bc_t,bc_f,nn_ok,Nat.zero_add,to_nat,Int.zero_add,Int.sub_zero,Int.sub_self,Int.cast_ofNat_Int,Int.natCast_zero,Int.toNat_zero,List.take_zero,List.nil_append,List.length_append,List.length_nil] at h1;rw [← e];have h2:=loop (t:=t) hl k (i+1) nn (by omega);exact .at (.nil _) h1 h2
theorem ends {t:Int} {l:List Int} (hl:l.length≤3000):EndZ 87 .nil false (st0 87 [hE t l]) (il (ofNs (pinI l l.length))) [] 0:=
 .at (.nil _) (in_t t l) (loop hl l.length 0 false (by omega))
end RPns
noncomputable def spPns:ZCT:=fun ax=>match ax with
 | [.agg [.v (.int .i64 t),.lst (.ints .i64 l)]]=>some ⟨decide (l.length≤3000),il (ofNs (RPns.pinI l l.length)),[],0⟩
 | _=>none
theorem spPns_ok:ZCtOk Try.prog 87 spPns:=fun γ w us ax r hs hc hax hN hfz=>by
 unfold spPns at hs;split at hs
 case h_2=>cases hs
 rename_i t l;obtain ⟨rfl⟩:=Option.some.inj hs;have hc_0:decide (l.length≤3000)=true:=hc;have hc:=of_decide_eq_true hc_0;exact EndZ.calls (RPns.ends hc) (.nil _) (by kernel_rfl) hax hN hfz
end Go.Proofs.Ytfffbioafhppiaa.Ev
namespace Go.Proofs.Ytfffbioafhppiaa.Ev
variable {l:List Int} {out:List Nat}
theorem ofNs_get {L:List Nat} {j:Nat} (h:j < L.length):(ofNs L).getD j 0=((L.getD j 0:Nat):Int):=by
 unfold ofNs;rw [List.getD_eq_getElem?_getD,List.getD_eq_getElem?_getD,List.getElem?_map,List.getElem?_eq_getElem h];rfl
theorem spl_at {L:List Nat} {j:Nat} (h:j < L.length):L=L.take j ++ L.getD j 0 :: L.drop (j+1):=by
 rw [getD_at h,← List.drop_eq_getElem_cons h,List.take_append_drop]
theorem tpO_at {x:Int} {j:Nat} (hj:j < out.length) (ht:tchL (l.getD (out.getD j 0) 0) x=true) (hn:∀ z,z ∈ out.drop (j+1)→tchL (l.getD z 0) x=false):tpO l out x=((out.getD j 0:Nat):Int):=by
 unfold tpO;have e:=spl_at hj;have h2:(out.drop (j+1)).filter (fun y=>tchL (l.getD y 0) x)=[]:=List.filter_eq_nil_iff.2 fun z hz=>by rw [hn z hz];simp
 have h1:out.filter (fun y=>tchL (l.getD y 0) x)=(out.take j).filter (fun y=>tchL (l.getD y 0) x) ++ [out.getD j 0]:=by
  conv=>lhs;rw [e]
  rw [List.filter_append,List.filter_cons_of_pos (p:=fun y=>tchL (l.getD y 0) x) ht,h2]
 rw [h1,ofNs_app];exact lastI_snoc _ _
theorem tpO_none {x:Int} (hn:∀ z,z ∈ out→tchL (l.getD z 0) x=false):tpO l out x = -1:=by
 unfold tpO;rw [List.filter_eq_nil_iff.2 fun z hz=>by rw [hn z hz];simp];rfl
theorem filter_at {j:Nat} (h:out.Pairwise (· < ·)) (hj:j < out.length):out.filter (fun y=>decide (y≠out.getD j 0))=out.take j ++ out.drop (j+1):=by
 have e:=spl_at hj;generalize out.getD j 0=y at *;generalize out.take j=A at *;generalize out.drop (j+1)=B at *;subst e;obtain ⟨h1,h2,h3⟩:=List.pairwise_append.1 h;have h4:=(List.pairwise_cons.1 h2).1;have f1:A.filter (fun z=>decide (z≠y))=A:=List.filter_eq_self.2 fun a ha=>by
  have:=h3 a ha y List.mem_cons_self;exact decide_eq_true (p:=a≠y) (by omega)
 have f2:B.filter (fun z=>decide (z≠y))=B:=List.filter_eq_self.2 fun a ha=>by
  have:=h4 a ha;exact decide_eq_true (p:=a≠y) (by omega)
 rw [List.filter_append,List.filter_cons_of_neg (by simp),f1,f2]

def AscI (n:Nat) (out:List Nat):Prop:=out.Pairwise (· < ·)∧∀ z,z ∈ out→z < n
theorem outS_asc {i n:Nat} (h:AscI n out) (hlt:∀ z,z ∈ out→z < i) (hi:i < n):AscI n (outS l out i)∧(∀ z,z ∈ outS l out i→z < i+1)∧(outS l out i).length≤out.length+1:=by
 unfold outS;split
 ·refine ⟨⟨h.1.sublist List.filter_sublist,fun z hz=>h.2 z (List.mem_filter.1 hz).1⟩,fun z hz=>?_,?_⟩
  ·have:=hlt z (List.mem_filter.1 hz).1;omega
  ·exact Nat.le_trans (List.length_filter_le _ _) (Nat.le_succ _)
 ·refine ⟨⟨List.pairwise_append.2 ⟨h.1,List.pairwise_singleton _ _,fun a ha b hb=>?_⟩,fun z hz=>?_⟩,fun z hz=>?_,by simp⟩
  ·have:b=i:=by simpa using hb
   rw [this];exact hlt a ha
  ·rcases List.mem_append.1 hz with hz | hz
   ·exact h.2 z hz
   ·have:z=i:=by simpa using hz
    omega
  ·rcases List.mem_append.1 hz with hz | hz
   ·have:=hlt z hz;omega
   ·have:z=i:=by simpa using hz
    omega
theorem tigL_asc {n:Nat}:∀ (idx:List Nat) (out:List Nat),AscI n out→AscI n idx→(∀ z w,z ∈ out→w ∈ idx→z < w)→AscI n (idx.foldl (outS l) out)∧(idx.foldl (outS l) out).length≤out.length+idx.length
 | [],out,h,_,_=>⟨h,Nat.le_refl _⟩
 | i :: idx,out,h,hi,hz=>by
  obtain ⟨a1,a2⟩:=List.pairwise_cons.1 hi.1;obtain ⟨b1,b2,b3⟩:=outS_asc (l:=l) (i:=i) h (fun z hz2=>hz z i hz2 List.mem_cons_self) (hi.2 i List.mem_cons_self);obtain ⟨c1,c2⟩:=tigL_asc idx (outS l out i) b1 ⟨a2,fun z hz=>hi.2 z (List.mem_cons_of_mem _ hz)⟩ fun z w hz1 hw=>by
   have:=b2 z hz1;have:=a1 w hw;omega
  refine ⟨c1,?_⟩;rw [List.length_cons];show ((idx.foldl (outS l) (outS l out i))).length≤_;omega
theorem range_asc (n:Nat):AscI n (List.range n):=⟨List.pairwise_lt_range,fun z hz=>List.mem_range.1 hz⟩
theorem AscI.sub {n:Nat} {out:List Nat} (h:AscI n out) (p:Nat→Bool):AscI n (out.filter p):=⟨h.1.sublist List.filter_sublist,fun z hz=>h.2 z (List.mem_filter.1 hz).1⟩
theorem tig_asc {n:Nat} {idx:List Nat} (h:AscI n idx):AscI n (tigL l idx)∧(tigL l idx).length≤idx.length:=by
 obtain ⟨a,b⟩:=tigL_asc (l:=l) (n:=n) idx [] ⟨.nil,fun z hz=>by cases hz⟩ h fun z w hz=>by cases hz
 refine ⟨a,?_⟩;rw [List.length_nil,Nat.zero_add] at b;exact b
theorem asc_len:∀ {n:Nat} {out:List Nat},AscI n out→out.length≤n:=by
 intro n out h;have key:∀ (L:List Nat) (a:Nat),L.Pairwise (· < ·)→(∀ z,z ∈ L→a≤z∧z < n)→a+L.length≤n∨L=[]:=by
  intro L
  induction L with
  | nil=>intro a _ _;exact .inr rfl
  | cons y L ih=>
   intro a hp hz;obtain ⟨p1,p2⟩:=List.pairwise_cons.1 hp;obtain ⟨q1,q2⟩:=hz y List.mem_cons_self;left;rcases ih (y+1) p2 (fun z hz2=>⟨p1 z hz2,(hz z (List.mem_cons_of_mem _ hz2)).2⟩) with h | h
   ·rw [List.length_cons];omega
   ·rw [h];simp;omega
 rcases key out 0 h.1 (fun z hz=>⟨Nat.zero_le _,h.2 z hz⟩) with h | h
 ·omega
 ·rw [h];exact Nat.zero_le _
end Go.Proofs.Ytfffbioafhppiaa.Ev
namespace Go.Proofs.Ytfffbioafhppiaa.Ev
open Go.Proofs
noncomputable def spNoT:ZCT:=fun _=>none
theorem spNoT_ok:ZCtOk Try.prog 0 spNoT:=fun _ _ _ _ _ h=>by cases h
noncomputable def ctRt:Tr ZCC:=((((((Tr.nil.put 56 (some (dC spTch))).put 60 (some (dC spIsP))).put 133 (some (dC spAll))).put 94 (some (dC spHas))).put 87 (some (dC spPns))).put 11 (some (dC spRChL))).put 0 (some (dC spNoT))
theorem ctRt_ok:ZCtsOk Try.prog ctRt:=(((((((ZCtsOk.nil _).add rfl spTch_ok).add rfl spIsP_ok).add rfl spAll_ok).add rfl spHas_ok).add rfl spPns_ok).add rfl spRChL_ok).add rfl spNoT_ok
namespace RTgn
noncomputable def RUN (s:ES):ZF:=RZs 132 ctRt [(atS 0 132 3,[[(0,none),(1,none),(5,some (1,3,.ints .i64 [])),(6,none)]]),(atS 0 132 8,[[(0,none),(1,none),(5,none),(6,none),(7,none),(8,none),(9,none)]]),(atS 0 132 12,[[(0,none),(1,none),(5,none),(6,none),(7,none),(8,none)]])] [] false s

noncomputable def sA (l d g:List Int) (nn:Bool) (i:Int):NS:=⟨[⟨132,81,[(0,(EV.lst (SyC.ints IntKind.i64 (l)))),(1,(EV.lst (SyC.ints IntKind.i64 (d)))),(5,EV.slO 0 1 g.length nn),(6,iv i)],[.it (.code (nav [1,1,0,1,0,0,0] (bodyOf Try.f132))),.it (.code (nav [1,1,0,1,0,0,1] (bodyOf Try.f132))),.it (.inLoop (nav [1,1,0,1,0,0] (bodyOf Try.f132))),.it (.inBlock 0),.it (.code (nav [1,1,1] (bodyOf Try.f132)))],[],Option.none⟩],[(0,EK.seq 3 (.ints .i64 g) nn)],1⟩
noncomputable def sB (l d g:List Int) (m:Nat) (nn:Bool) (i x e k:Int):NS:=⟨[⟨132,81,[(0,(EV.lst (SyC.ints IntKind.i64 (l)))),(1,(EV.lst (SyC.ints IntKind.i64 (d)))),(5,EV.slO 0 1 m nn),(6,iv i),(7,iv x),(8,iv e),(9,iv k)],[.it (.code (nav [1,1,0,1,0,0,1,0,0,1,1,0,1,0,0,0] (bodyOf Try.f132))),.it (.code (nav [1,1,0,1,0,0,1,0,0,1,1,0,1,0,0,1] (bodyOf Try.f132))),.it (.inLoop (nav [1,1,0,1,0,0,1,0,0,1,1,0,1,0,0] (bodyOf Try.f132))),.it (.inBlock 2),.it (.code (nav [1,1,0,1,0,0,1,0,0,1,1,1] (bodyOf Try.f132))),.it (.inBlock 1),.it (.code (nav [1,1,0,1,0,0,1,1] (bodyOf Try.f132))),.it (.inLoop (nav [1,1,0,1,0,0] (bodyOf Try.f132))),.it (.inBlock 0),.it (.code (nav [1,1,1] (bodyOf Try.f132)))],[],Option.none⟩],[(0,EK.seq 3 (.ints .i64 g) nn)],1⟩
noncomputable def sC (l d g:List Int) (m:Nat) (nn:Bool) (i x e:Int):NS:=⟨[⟨132,81,[(0,(EV.lst (SyC.ints IntKind.i64 (l)))),(1,(EV.lst (SyC.ints IntKind.i64 (d)))),(5,(EV.slO 0 1 (m) (nn))),(6,(EV.v (Value.int IntKind.i64 (i)))),(7,(EV.v (Value.int IntKind.i64 (x)))),(8,iv e)],[.it (.code (nav [1,1,0,1,0,0,1,0,0,1,1,1] (bodyOf Try.f132))),.it (.inBlock 1),.it (.code (nav [1,1,0,1,0,0,1,1] (bodyOf Try.f132))),.it (.inLoop (nav [1,1,0,1,0,0] (bodyOf Try.f132))),.it (.inBlock 0),.it (.code (nav [1,1,1] (bodyOf Try.f132)))],[],Option.none⟩],[(0,(EK.seq 3 (SyC.ints IntKind.i64 (g)) (nn)))],1⟩
theorem in_t (l d:List Int):RUN (st0 132 [il l,il d])=(.at (sA (l) (d) ([]) (false) ((0:Int)))):=by kernel_rfl
theorem a_t (l d g:List Int) (nn:Bool) (i:Int):RUN (stOf (sA l d g nn i))=(bc (decide (i < Int.ofNat (List.length d))) (bc (bc (bc (decide ((0:Int)≤i)) (Nat.blt (Int.toNat i) (List.length d)) false) true false) (bc (bc (Nat.blt (Int.toNat i) (List.length d)) true false) (bc (bc (bc (decide ((0:Int)≤List.getD d (Int.toNat i) (0:Int))) (Nat.blt (Int.toNat (List.getD d (Int.toNat i) (0:Int))) (List.length l)) false) true false) (bc (bc (Nat.blt (Int.toNat (List.getD d (Int.toNat i) (0:Int))) (List.length l)) true false) (.at (sB (l) (d) (g) (List.length g) (nn) (i) (List.getD l (Int.toNat (List.getD d (Int.toNat i) (0:Int))) (0:Int)) ((-1:Int)) (IntKind.wrap IntKind.i64 (Int.ofNat (List.length g) - (1:Int))))) .bad) .bad) .bad) .bad) (bc (Nat.beq (List.length g) (List.length g)) (.done (EV.lst (SyC.ints IntKind.i64 (g))) [] 0) .bad)):=by kernel_rfl
theorem b_t (l d g:List Int) (m:Nat) (nn:Bool) (i x e k:Int):RUN (stOf (sB l d g m nn i x e k))=(bc (decide ((0:Int)≤k)) (bc (decide (e < (0:Int))) (bc (bc (bc (decide ((0:Int)≤k)) (Nat.blt (Int.toNat k) m) false) true false) (bc (bc (Nat.blt (Int.toNat k) (List.length g)) true false) (bc (bc (bc (decide ((0:Int)≤List.getD g (Int.toNat k) (0:Int))) (Nat.blt (Int.toNat (List.getD g (Int.toNat k) (0:Int))) (List.length l)) false) true false) (bc (bc (Nat.blt (Int.toNat (List.getD g (Int.toNat k) (0:Int))) (List.length l)) true false) (bc (bc (decide (((-1000000:Int)≤List.getD l (Int.toNat (List.getD g (Int.toNat k) (0:Int))) (0:Int)∧List.getD l (Int.toNat (List.getD g (Int.toNat k) (0:Int))) (0:Int)≤(1000000:Int))∧(-1000000:Int)≤x∧x≤(1000000:Int))) true false) (bc (tchL (List.getD l (Int.toNat (List.getD g (Int.toNat k) (0:Int))) (0:Int)) x) (.at (sB (l) (d) (g) (m) (nn) (i) (x) (k) (IntKind.wrap IntKind.i64 (k - (1:Int))))) (.at (sB (l) (d) (g) (m) (nn) (i) (x) (e) (IntKind.wrap IntKind.i64 (k - (1:Int)))))) .bad) .bad) .bad) .bad) .bad) (.at (sC (l) (d) (g) (m) (nn) (i) (x) (e)))) (.at (sC (l) (d) (g) (m) (nn) (i) (x) (e)))):=by kernel_rfl
theorem c_t (l d g:List Int) (m:Nat) (nn:Bool) (i x e:Int):RUN (stOf (sC l d g m nn i x e))=(bc (decide ((0:Int)≤e)) (bc (!isPn x) (bc (bc (bc (decide ((0:Int)≤e)) (Nat.blt (Int.toNat e) m) false) true false) (bc (bc (Nat.blt (Int.toNat e) (List.length g)) true false) (bc (bc (bc (decide ((0:Int)≤List.getD g (Int.toNat e) (0:Int))) (Nat.blt (Int.toNat (List.getD g (Int.toNat e) (0:Int))) (List.length l)) false) true false) (bc (bc (Nat.blt (Int.toNat (List.getD g (Int.toNat e) (0:Int))) (List.length l)) true false) (bc (List.getD l (Int.toNat (List.getD g (Int.toNat e) (0:Int))) (0:Int) == IntKind.wrap IntKind.i64 ((0:Int) - x)) (bc (bc (bc (bc (bc nn (bc (decide ((0:Int)≤e)) (decide (e≤Int.ofNat m)) false) false) true false) (bc (bc (Nat.ble (Nat.add (Int.toNat (0:Int)) (Int.toNat e - Int.toNat (0:Int))) (List.length g)) (bc (Nat.ble ((0:Nat)+List.length (List.drop (Int.toNat (0:Int)) (List.take (Nat.add (Int.toNat (0:Int)) (Int.toNat e - Int.toNat (0:Int))) g))) (65536:Nat)) true false) false) (bc (bc (bc nn (bc (decide ((0:Int)≤IntKind.wrap IntKind.i64 (e+(1:Int)))) (bc (decide (IntKind.wrap IntKind.i64 (e+(1:Int))≤Int.ofNat m)) (decide (Int.ofNat m≤Int.ofNat m)) false) false) false) true false) (bc (bc (Nat.ble (Nat.add (Int.toNat (IntKind.wrap IntKind.i64 (e+(1:Int)))) (Int.toNat (Int.ofNat m) - Int.toNat (IntKind.wrap IntKind.i64 (e+(1:Int))))) (List.length g)) (bc (Nat.beq (List.length ([] ++ List.drop (Int.toNat (0:Int)) (List.take (Nat.add (Int.toNat (0:Int)) (Int.toNat e - Int.toNat (0:Int))) g))) (List.length ([] ++ List.drop (Int.toNat (0:Int)) (List.take (Nat.add (Int.toNat (0:Int)) (Int.toNat e - Int.toNat (0:Int))) g)))) (bc (Nat.ble (List.length ([] ++ List.drop (Int.toNat (0:Int)) (List.take (Nat.add (Int.toNat (0:Int)) (Int.toNat e - Int.toNat (0:Int))) g))+List.length (List.drop (Int.toNat (IntKind.wrap IntKind.i64 (e+(1:Int)))) (List.take (Nat.add (Int.toNat (IntKind.wrap IntKind.i64 (e+(1:Int)))) (Int.toNat (Int.ofNat m) - Int.toNat (IntKind.wrap IntKind.i64 (e+(1:Int))))) g))) (65536:Nat)) true false) false) false) true false) false) false) false) true false) (.at (sA (l) (d) ([] ++ List.drop (Int.toNat (0:Int)) (List.take (Nat.add (Int.toNat (0:Int)) (Int.toNat e - Int.toNat (0:Int))) g) ++ List.drop (Int.toNat (IntKind.wrap IntKind.i64 (e+(1:Int)))) (List.take (Nat.add (Int.toNat (IntKind.wrap IntKind.i64 (e+(1:Int)))) (Int.toNat (Int.ofNat m) - Int.toNat (IntKind.wrap IntKind.i64 (e+(1:Int))))) g)) (true) (IntKind.wrap IntKind.i64 (i+(1:Int))))) .bad) (bc (bc (bc (decide ((0:Int)≤i)) (Nat.blt (Int.toNat i) (List.length d)) false) true false) (bc (bc (Nat.blt (Int.toNat i) (List.length d)) true false) (bc (bc (Nat.beq m (List.length g)) (bc (Nat.ble (m+List.length (List.map (fun r=>U.int (List.headD r (U.i (0:Int)))) [[U.i (List.getD d (Int.toNat i) (0:Int))]])) (65536:Nat)) (bc nn true (bc nn false true)) false) false) (.at (sA (l) (d) (g ++ List.map (fun r=>U.int (List.headD r (U.i (0:Int)))) [[U.i (List.getD d (Int.toNat i) (0:Int))]]) (bc nn true (Nat.blt (0:Nat) (List.length (List.map (fun r=>U.int (List.headD r (U.i (0:Int)))) [[U.i (List.getD d (Int.toNat i) (0:Int))]])))) (IntKind.wrap IntKind.i64 (i+(1:Int))))) .bad) .bad) .bad)) .bad) .bad) .bad) .bad) (bc (bc (bc (decide ((0:Int)≤i)) (Nat.blt (Int.toNat i) (List.length d)) false) true false) (bc (bc (Nat.blt (Int.toNat i) (List.length d)) true false) (bc (bc (Nat.beq m (List.length g)) (bc (Nat.ble (m+List.length (List.map (fun r=>U.int (List.headD r (U.i (0:Int)))) [[U.i (List.getD d (Int.toNat i) (0:Int))]])) (65536:Nat)) (bc nn true (bc nn false true)) false) false) (.at (sA (l) (d) (g ++ List.map (fun r=>U.int (List.headD r (U.i (0:Int)))) [[U.i (List.getD d (Int.toNat i) (0:Int))]]) (bc nn true (Nat.blt (0:Nat) (List.length (List.map (fun r=>U.int (List.headD r (U.i (0:Int)))) [[U.i (List.getD d (Int.toNat i) (0:Int))]])))) (IntKind.wrap IntKind.i64 (i+(1:Int))))) .bad) .bad) .bad)) (bc (bc (bc (decide ((0:Int)≤i)) (Nat.blt (Int.toNat i) (List.length d)) false) true false) (bc (bc (Nat.blt (Int.toNat i) (List.length d)) true false) (bc (bc (Nat.beq m (List.length g)) (bc (Nat.ble (m+List.length (List.map (fun r=>U.int (List.headD r (U.i (0:Int)))) [[U.i (List.getD d (Int.toNat i) (0:Int))]])) (65536:Nat)) (bc nn true (bc nn false true)) false) false) (.at (sA (l) (d) (g ++ List.map (fun r=>U.int (List.headD r (U.i (0:Int)))) [[U.i (List.getD d (Int.toNat i) (0:Int))]]) (bc nn true (Nat.blt (0:Nat) (List.length (List.map (fun r=>U.int (List.headD r (U.i (0:Int)))) [[U.i (List.getD d (Int.toNat i) (0:Int))]])))) (IntKind.wrap IntKind.i64 (i+(1:Int))))) .bad) .bad) .bad)):=by kernel_rfl

def Sm6 (l:List Int):Prop:=∀ j,-1000000≤l.getD j 0∧l.getD j 0≤1000000
theorem stepA {l:List Int} {idx out:List Nat} {nn:Bool} {i:Nat} (hi:i < idx.length) (hx:idx.length≤3000) (ho:out.length≤3000) (hl:idx.getD i 0 < l.length):RUN (stOf (sA l (ofNs idx) (ofNs out) nn i)) = .at (sB l (ofNs idx) (ofNs out) out.length nn i (l.getD (idx.getD i 0) 0) (-1) ((out.length:Int) - 1)):=by
 have e0:Int.toNat (i:Int)=i:=rfl;have e1:Int.toNat ((idx.getD i 0:Nat):Int)=idx.getD i 0:=rfl;have w:IntKind.wrap IntKind.i64 (Int.ofNat out.length - 1)=(out.length:Int) - 1:=wrap_in _ (by rw [ofn];omega) (by rw [ofn];omega);rw [a_t,e0,ofNs_get hi,e1,ofNs_len,ofNs_len,w];generalize idx.getD i 0=y at *
 simp (disch:=omega) only [Nat.add_eq,eqSy_self,eqN_self,bc_same,List.length_cons,ofn,wrap_in,dt,df,bltD,bltN,ble_of,bleN,beqD,bc_t,bc_f,nn_ok,Nat.zero_add,to_nat,Int.zero_add,Int.sub_zero,Int.sub_self,Int.cast_ofNat_Int,Int.natCast_zero,Int.toNat_zero,List.take_zero,List.nil_append,List.length_append,List.length_nil]
theorem lastA {l:List Int} {idx out:List Nat} {nn:Bool} {i:Nat} (hi:idx.length≤i):RUN (stOf (sA l (ofNs idx) (ofNs out) nn i)) = .done (il (ofNs out)) [] 0:=by
 rw [a_t,ofNs_len,df (show ¬ (i:Int) < Int.ofNat idx.length by rw [ofn];omega),bc_f];simp (disch:=omega) only [Nat.add_eq,eqSy_self,eqN_self,bc_same,List.length_cons,ofn,wrap_in,dt,df,bltD,bltN,ble_of,bleN,beqD,bc_t,bc_f,nn_ok,Nat.zero_add,to_nat,Int.zero_add,Int.sub_zero,Int.sub_self,Int.cast_ofNat_Int,Int.natCast_zero,Int.toNat_zero,List.take_zero,List.nil_append,List.length_append,List.length_nil]
theorem stepB {l d:List Int} {out:List Nat} {nn:Bool} {i x:Int} {j:Nat} (hj:j < out.length) (ho:out.length≤3000) (hl:out.getD j 0 < l.length) (hs:Sm6 l) (hx:-1000000≤x∧x≤1000000):RUN (stOf (sB l d (ofNs out) out.length nn i x (-1) (j:Nat)))=bc (tchL (l.getD (out.getD j 0) 0) x) (.at (sB l d (ofNs out) out.length nn i x (j:Nat) ((j:Int) - 1))) (.at (sB l d (ofNs out) out.length nn i x (-1) ((j:Int) - 1))):=by
 have e0:Int.toNat (j:Int)=j:=rfl;have e1:Int.toNat ((out.getD j 0:Nat):Int)=out.getD j 0:=rfl;have w:IntKind.wrap IntKind.i64 ((j:Int) - 1)=(j:Int) - 1:=wrap_in _ (by omega) (by omega);have h1:=hs (out.getD j 0);rw [b_t,e0,ofNs_get hj,e1,ofNs_len,w];generalize out.getD j 0=y at *;rw [dt (show (-1000000≤l.getD y 0∧l.getD y 0≤1000000) ∧ -1000000≤x∧x≤1000000 from ⟨h1,hx⟩)]
 simp (disch:=omega) only [Nat.add_eq,eqSy_self,eqN_self,bc_same,List.length_cons,ofn,wrap_in,dt,df,bltD,bltN,ble_of,bleN,beqD,bc_t,bc_f,nn_ok,Nat.zero_add,to_nat,Int.zero_add,Int.sub_zero,Int.sub_self,Int.cast_ofNat_Int,Int.natCast_zero,Int.toNat_zero,List.take_zero,List.nil_append,List.length_append,List.length_nil]
theorem exitB {l d g:List Int} {m:Nat} {nn:Bool} {i x e k:Int} (h:k < 0∨0≤e):RUN (stOf (sB l d g m nn i x e k)) = .at (sC l d g m nn i x e):=by
 rw [b_t]
 by_cases c:0≤k
 ·rw [dt c,df (show ¬ e < 0 by omega)];rfl
 ·rw [df c];rfl
theorem keepC {l:List Int} {idx out:List Nat} {nn:Bool} {i:Nat} {x e:Int} (hi:i < idx.length) (hx:idx.length≤3000) (ho:out.length≤3000) (hl:∀ z,z ∈ out→z < l.length) (hb:-1000000≤x∧x≤1000000) (he:e = -1∨∃ j:Nat,e=j∧j < out.length∧(isPn x=true∨l.getD (out.getD j 0) 0 ≠ -x)):RUN (stOf (sC l (ofNs idx) (ofNs out) out.length nn i x e)) = .at (sA l (ofNs idx) (ofNs (out ++ [idx.getD i 0])) true (i+1:Nat)):=by
 have e0:Int.toNat (i:Int)=i:=rfl;have m1:∀ v:Int,List.map (fun r=>U.int (List.headD r (U.i 0))) [[U.i v]]=[v]:=fun v=>rfl;have w:∀ v:Int,bc nn true (Nat.blt 0 (List.length [v]))=true:=fun v=>by cases nn <;> rfl
 have w2:bc nn true (bc nn false true)=true:=by cases nn <;> rfl
 have e2:ofNs (out ++ [idx.getD i 0])=ofNs out ++ [((idx.getD i 0:Nat):Int)]:=ofNs_app _ _;have w3:IntKind.wrap IntKind.i64 (0 - x) = -x:=by rw [wrap_in _ (by omega) (by omega)];omega
 rw [c_t,e0,ofNs_get hi,m1,w,w2,e2,ofNs_len,ofNs_len,w3];rcases he with rfl | ⟨j,rfl,hj,hc⟩
 ·rw [df (show ¬ (0:Int) ≤ -1 by decide)];simp (disch:=omega) only [Nat.add_eq,eqSy_self,eqN_self,bc_same,List.length_cons,ofn,wrap_in,dt,df,bltD,bltN,ble_of,bleN,beqD,bc_t,bc_f,nn_ok,Nat.zero_add,to_nat,Int.zero_add,Int.sub_zero,Int.sub_self,Int.cast_ofNat_Int,Int.natCast_zero,Int.toNat_zero,List.take_zero,List.nil_append,List.length_append,List.length_nil];rfl
 ·have e3:Int.toNat (j:Int)=j:=rfl;have e4:Int.toNat ((out.getD j 0:Nat):Int)=out.getD j 0:=rfl;have hm:=hl (out.getD j 0) (by rw [getD_at hj];exact List.getElem_mem hj);rw [e3,ofNs_get hj,e4];generalize out.getD j 0=y at *
  cases hp:isPn x with
  | true=>
   simp (disch:=omega) only [Nat.add_eq,eqSy_self,eqN_self,bc_same,List.length_cons,ofn,wrap_in,dt,df,bltD,bltN,ble_of,bleN,beqD,bc_t,bc_f,nn_ok,Nat.zero_add,to_nat,Int.zero_add,Int.sub_zero,Int.sub_self,Int.cast_ofNat_Int,Int.natCast_zero,Int.toNat_zero,List.take_zero,List.nil_append,List.length_append,List.length_nil,Bool.not_true];rfl
  | false=>
   have hc:l.getD y 0 ≠ -x:=hc.resolve_left (by rw [hp];simp);rw [eqF hc];simp (disch:=omega) only [Nat.add_eq,eqSy_self,eqN_self,bc_same,List.length_cons,ofn,wrap_in,dt,df,bltD,bltN,ble_of,bleN,beqD,bc_t,bc_f,nn_ok,Nat.zero_add,to_nat,Int.zero_add,Int.sub_zero,Int.sub_self,Int.cast_ofNat_Int,Int.natCast_zero,Int.toNat_zero,List.take_zero,List.nil_append,List.length_append,List.length_nil,Bool.not_false];rfl
theorem remC {l:List Int} {idx out:List Nat} {i j:Nat} {x:Int} (hi:i < 3000) (ho:out.length≤3000) (hl:∀ z,z ∈ out→z < l.length) (hb:-1000000≤x∧x≤1000000) (hj:j < out.length) (hp:isPn x=false) (hc:l.getD (out.getD j 0) 0 = -x):RUN (stOf (sC l (ofNs idx) (ofNs out) out.length true i x (j:Nat))) = .at (sA l (ofNs idx) (ofNs (out.take j ++ out.drop (j+1))) true (i+1:Nat)):=by
 have e3:Int.toNat (j:Int)=j:=rfl;have e4:Int.toNat ((out.getD j 0:Nat):Int)=out.getD j 0:=rfl;have w3:IntKind.wrap IntKind.i64 (0 - x) = -x:=by rw [wrap_in _ (by omega) (by omega)];omega
 have w4:IntKind.wrap IntKind.i64 ((j:Int)+1)=((j+1:Nat):Int):=by rw [wrap_in _ (by omega) (by omega)];rfl
 have e5:Int.toNat ((j+1:Nat):Int)=j+1:=rfl;have e6:Int.toNat (0:Int)=0:=rfl;have e7:Int.toNat (Int.ofNat out.length)=out.length:=rfl;have n1:Nat.add 0 (j - 0)=j:=by show 0+(j - 0)=j;omega
 have n2:Nat.add (j+1) (out.length - (j+1))=out.length:=by show j+1+(out.length - (j+1))=_;omega
 have hm:=hl (out.getD j 0) (by rw [getD_at hj];exact List.getElem_mem hj);have t1:List.drop 0 (List.take j (ofNs out))=ofNs (out.take j):=by unfold ofNs;rw [List.drop_zero,List.map_take]
 have t2:List.drop (j+1) (List.take out.length (ofNs out))=ofNs (out.drop (j+1)):=by
  rw [← ofNs_len out,List.take_length];unfold ofNs;rw [List.map_drop]
 have t3:(ofNs (out.take j)).length=j:=by rw [ofNs_len,List.length_take];omega
 have t4:(ofNs (out.drop (j+1))).length=out.length - (j+1):=by rw [ofNs_len,List.length_drop]
 have t5:[] ++ ofNs (out.take j)=ofNs (out.take j):=rfl;rw [c_t,e3,ofNs_get hj,e4,w3,w4,e5,e6,e7,n1,n2,t1,t2,t5,ofNs_app,ofNs_len out,t3,t4,hp,eqT hc];generalize out.getD j 0=y at *;simp (disch:=omega) only [Nat.add_eq,eqSy_self,eqN_self,bc_same,List.length_cons,ofn,wrap_in,dt,df,bltD,bltN,ble_of,bleN,beqD,bc_t,bc_f,nn_ok,Nat.zero_add,to_nat,Int.zero_add,Int.sub_zero,Int.sub_self,Int.cast_ofNat_Int,Int.natCast_zero,Int.toNat_zero,List.take_zero,List.nil_append,List.length_append,List.length_nil,Bool.not_false];rfl
theorem AscI.mem {n:Nat} {out:List Nat} {j:Nat} (h:AscI n out) (hj:j < out.length):out.getD j 0 < n:=h.2 _ (by rw [getD_at hj];exact List.getElem_mem hj)
theorem inner {l:List Int} {idx out:List Nat} {nn:Bool} {i:Nat} (hi:i < idx.length) (hx:idx.length≤3000) (ho:out.length≤3000) (ha:AscI l.length out) (hs:Sm6 l) (hn:nn=true∨out=[]) {z:EV}
  (hz:EndZ 132 ctRt false (stOf (sA l (ofNs idx) (ofNs (outS l out (idx.getD i 0))) true (i+1:Nat))) z [] 0) :
  ∀ j:Nat,j≤out.length→(∀ w,w ∈ out.drop j→tchL (l.getD w 0) (l.getD (idx.getD i 0) 0)=false)→EndZ 132 ctRt false (stOf (sB l (ofNs idx) (ofNs out) out.length nn i (l.getD (idx.getD i 0) 0) (-1) ((j:Int) - 1))) z [] 0
 | 0,hj,hw=>by
  have ht:tpO l out (l.getD (idx.getD i 0) 0) = -1:=tpO_none (by rw [List.drop_zero] at hw;exact hw);have e:outS l out (idx.getD i 0)=out ++ [idx.getD i 0]:=by
   unfold outS;rw [if_neg fun q=>by rw [ht] at q;exact absurd q.1 (by decide)]
  rw [e] at hz;exact .at ctRt_ok (exitB (.inl (by omega))) (.at ctRt_ok (keepC hi hx ho ha.2 (hs _) (.inl rfl)) hz)
 | j+1,hj,hw=>by
  have hj2:j < out.length:=by omega
  have h1:=stepB (l:=l) (d:=ofNs idx) (nn:=nn) (i:=i) (x:=l.getD (idx.getD i 0) 0) hj2 ho (AscI.mem ha hj2) hs (hs _);rw [show (((j+1:Nat):Int) - 1)=(j:Int) by omega]
  cases hc:tchL (l.getD (out.getD j 0) 0) (l.getD (idx.getD i 0) 0) with
  | false=>
   rw [hc,bc_f] at h1;refine .at ctRt_ok h1 (inner hi hx ho ha hs hn hz j (by omega) fun w hw2=>?_);rw [List.drop_eq_getElem_cons hj2,← getD_at (d:=0) hj2] at hw2;rcases List.mem_cons.1 hw2 with rfl | hw2
   ·exact hc
   ·exact hw w hw2
  | true=>
   rw [hc,bc_t] at h1;have ht:=tpO_at hj2 hc hw;refine .at ctRt_ok h1 (.at ctRt_ok (exitB (.inr (by omega))) ?_)
   by_cases hr:isPn (l.getD (idx.getD i 0) 0)=false∧l.getD (out.getD j 0) 0 = -(l.getD (idx.getD i 0) 0)
   ·have e:outS l out (idx.getD i 0)=out.take j ++ out.drop (j+1):=by
     unfold outS;rw [ht,show (((out.getD j 0:Nat):Int)).toNat=out.getD j 0 from rfl,if_pos ⟨by omega,hr.1,hr.2⟩]
     exact filter_at ha.1 hj2
    rw [e] at hz;have hnn:nn=true:=hn.resolve_right fun q=>by rw [q] at hj2;simp at hj2
    subst hnn;exact .at ctRt_ok (remC (by omega) ho ha.2 (hs _) hj2 hr.1 hr.2) hz
   ·have e:outS l out (idx.getD i 0)=out ++ [idx.getD i 0]:=by
     unfold outS;rw [ht,show (((out.getD j 0:Nat):Int)).toNat=out.getD j 0 from rfl,if_neg fun q=>hr q.2]
    rw [e] at hz;refine .at ctRt_ok (keepC hi hx ho ha.2 (hs _) (.inr ⟨j,rfl,hj2,?_⟩)) hz
    cases hp:isPn (l.getD (idx.getD i 0) 0) with
    | true=>exact .inl rfl
    | false=>exact .inr fun q=>hr ⟨hp,q⟩
theorem loop {l:List Int} {idx:List Nat} (hx:AscI l.length idx) (hx2:idx.length≤3000) (hs:Sm6 l):∀ (k i:Nat) (out:List Nat) (nn:Bool),i+k=idx.length→AscI l.length out→(∀ z w,z ∈ out→w ∈ idx.drop i→z < w)→out.length≤i→(nn=true∨out=[])→EndZ 132 ctRt false (stOf (sA l (ofNs idx) (ofNs out) nn i)) (il (ofNs ((idx.drop i).foldl (outS l) out))) [] 0
 | 0,i,out,nn,h,ha,hz,ho,hn=>by
  rw [List.drop_eq_nil_of_le (by omega)];exact .done (lastA (by omega))
 | k+1,i,out,nn,h,ha,hz,ho,hn=>by
  have hi:i < idx.length:=by omega
  have h1:=stepA (l:=l) (idx:=idx) (out:=out) (nn:=nn) hi hx2 (by omega) (AscI.mem hx hi);have ed:idx.drop i=idx.getD i 0 :: idx.drop (i+1):=by rw [List.drop_eq_getElem_cons hi,getD_at hi]
  rw [ed] at hz ⊢;obtain ⟨b1,b2,b3⟩:=outS_asc (l:=l) (i:=idx.getD i 0) ha (fun z hz2=>hz z _ hz2 List.mem_cons_self) (AscI.mem hx hi);have hp:(idx.drop i).Pairwise (· < ·):=hx.1.sublist (List.drop_sublist i idx);rw [ed] at hp;obtain ⟨p1,_⟩:=List.pairwise_cons.1 hp;have h2:=loop hx hx2 hs k (i+1) (outS l out (idx.getD i 0)) true (by omega) b1 (fun z w q1 q2=>by
   have:=b2 z q1;have:=p1 w q2;omega) (by omega) (.inl rfl)
  exact .at ctRt_ok h1 (inner hi hx2 (by omega) ha hs hn h2 out.length (Nat.le_refl _) (by rw [List.drop_length];intro w hw;cases hw))
theorem ends {l:List Int} {idx:List Nat} (hx:AscI l.length idx) (hx2:idx.length≤3000) (hs:Sm6 l):EndZ 132 ctRt false (st0 132 [il l,il (ofNs idx)]) (il (ofNs (tigL l idx))) [] 0:=by
 have h2:=loop hx hx2 hs idx.length 0 [] false (by omega) ⟨.nil,fun z hz=>by cases hz⟩ (fun z w hz=>by cases hz) (Nat.le_refl _) (.inr rfl);exact .at ctRt_ok (in_t l (ofNs idx)) h2
end RTgn
namespace RWou
noncomputable def RUN (s:ES):ZF:=RZ 131 ctRt (atS 0 131 3) [] [[(0,none),(1,none),(5,some (1,3,.ints .i64 [])),(6,none)]] false s

noncomputable def sL (l d g:List Int) (nn:Bool) (i:Int):NS:=⟨[⟨131,28,[(0,(EV.lst (SyC.ints IntKind.i64 (l)))),(1,(EV.lst (SyC.ints IntKind.i64 (d)))),(5,EV.slO 0 1 g.length nn),(6,iv i)],[.it (.code (nav [1,1,0,1,0,0,0] (bodyOf Try.f131))),.it (.code (nav [1,1,0,1,0,0,1] (bodyOf Try.f131))),.it (.inLoop (nav [1,1,0,1,0,0] (bodyOf Try.f131))),.it (.inBlock 0),.it (.code (nav [1,1,1] (bodyOf Try.f131)))],[],Option.none⟩],[(0,EK.seq 3 (.ints .i64 g) nn)],1⟩
theorem in_t (l d:List Int):RUN (st0 131 [il l,il d])=(.at (sL (l) (d) ([]) (false) ((0:Int)))):=by kernel_rfl
theorem l_t (l d g:List Int) (nn:Bool) (i:Int):RUN (stOf (sL l d g nn i))=(bc (decide (i < Int.ofNat (List.length l))) (bc (bc (bc (decide ((0:Int)≤i)) (Nat.blt (Int.toNat i) (List.length l)) false) true false) (bc (bc (Nat.blt (Int.toNat i) (List.length l)) true false) (bc (bc (decide (List.length d≤(5000:Nat))) true false) (bc (!decide (List.getD l (Int.toNat i) (0:Int) ∈ d)) (bc (bc (bc (decide ((0:Int)≤i)) (Nat.blt (Int.toNat i) (List.length l)) false) true false) (bc (bc (Nat.blt (Int.toNat i) (List.length l)) true false) (bc (bc (Nat.beq (List.length g) (List.length g)) (bc (Nat.ble (List.length g+List.length (List.map (fun r=>U.int (List.headD r (U.i (0:Int)))) [[U.i (List.getD l (Int.toNat i) (0:Int))]])) (65536:Nat)) (bc nn true (bc nn false true)) false) false) (.at (sL (l) (d) (g ++ List.map (fun r=>U.int (List.headD r (U.i (0:Int)))) [[U.i (List.getD l (Int.toNat i) (0:Int))]]) (bc nn true (Nat.blt (0:Nat) (List.length (List.map (fun r=>U.int (List.headD r (U.i (0:Int)))) [[U.i (List.getD l (Int.toNat i) (0:Int))]])))) (IntKind.wrap IntKind.i64 (i+(1:Int))))) .bad) .bad) .bad) (.at (sL (l) (d) (g) (nn) (IntKind.wrap IntKind.i64 (i+(1:Int)))))) .bad) .bad) .bad) (bc (Nat.beq (List.length g) (List.length g)) (.done (EV.lst (SyC.ints IntKind.i64 (g))) [] 0) .bad)):=by kernel_rfl
def wouI (l d:List Int):List Int:=l.filter fun x=>!decide (x ∈ d)
theorem wouI_succ (l d:List Int) {i:Nat} (hi:i < l.length):wouI (l.take (i+1)) d=wouI (l.take i) d ++ (if !decide (l.getD i 0 ∈ d) then [l.getD i 0] else []):=by
 unfold wouI;rw [List.take_succ_eq_append_getElem hi,filter_snoc,getD_at hi]
theorem wouI_len (l d:List Int) (i:Nat):(wouI (l.take i) d).length≤i:=by
 have h1:=List.length_filter_le (fun x=>!decide (x ∈ d)) (l.take i);rw [List.length_take] at h1;show (List.filter _ _).length≤i;omega
theorem loop {l d:List Int} (hl:l.length≤3000) (hd:d.length≤5000):∀ (k i:Nat) (nn:Bool),i+k=l.length→EndZ 131 ctRt false (stOf (sL l d (wouI (l.take i) d) nn i)) (il (wouI l d)) [] 0
 | 0,i,nn,h=>by
  obtain rfl:i=l.length:=by omega
  have h1:=l_t l d (wouI (l.take l.length) d) nn l.length;rw [df (show ¬ (l.length:Int) < Int.ofNat l.length by rw [ofn];omega),bc_f] at h1;rw [List.take_length] at h1 ⊢;simp (disch:=omega) only [Nat.add_eq,eqSy_self,eqN_self,bc_same,List.length_cons,ofn,wrap_in,dt,df,bltD,bltN,ble_of,bleN,beqD,bc_t,bc_f,nn_ok,Nat.zero_add,to_nat,Int.zero_add,Int.sub_zero,Int.sub_self,Int.cast_ofNat_Int,Int.natCast_zero,Int.toNat_zero,List.take_zero,List.nil_append,List.length_append,List.length_nil] at h1;exact .done h1
 | k+1,i,nn,h=>by
  have hi:i < l.length:=by omega
  have h1:=l_t l d (wouI (l.take i) d) nn i;have m1:∀ v:Int,List.map (fun r=>U.int (List.headD r (U.i 0))) [[U.i v]]=[v]:=fun v=>rfl;have e0:Int.toNat (i:Int)=i:=rfl;have lg:=wouI_len l d i;have w:∀ v:Int,bc nn true (Nat.blt 0 (List.length [v]))=true:=fun v=>by cases nn <;> rfl
  have w2:bc nn true (bc nn false true)=true:=by cases nn <;> rfl
  have e:=wouI_succ l d hi;rw [e0,m1,w,w2,dt hd] at h1
  cases hc:(!decide (l.getD i 0 ∈ d)) with
  | true=>
   rw [hc,if_pos rfl] at e;rw [hc,← e] at h1;simp (disch:=omega) only [Nat.add_eq,eqSy_self,eqN_self,bc_same,List.length_cons,ofn,wrap_in,dt,df,bltD,bltN,ble_of,bleN,beqD,bc_t,bc_f,nn_ok,Nat.zero_add,to_nat,Int.zero_add,Int.sub_zero,Int.sub_self,Int.cast_ofNat_Int,Int.natCast_zero,Int.toNat_zero,List.take_zero,List.nil_append,List.length_append,List.length_nil] at h1;exact .at ctRt_ok h1 (loop hl hd k (i+1) true (by omega))
  | false=>
   rw [hc,if_neg (by simp),List.append_nil] at e;rw [hc,← e] at h1;simp (disch:=omega) only [Nat.add_eq,eqSy_self,eqN_self,bc_same,List.length_cons,ofn,wrap_in,dt,df,bltD,bltN,ble_of,bleN,beqD,bc_t,bc_f,nn_ok,Nat.zero_add,to_nat,Int.zero_add,Int.sub_zero,Int.sub_self,Int.cast_ofNat_Int,Int.natCast_zero,Int.toNat_zero,List.take_zero,List.nil_append,List.length_append,List.length_nil] at h1;rw [← e];exact .at ctRt_ok h1 (loop hl hd k (i+1) nn (by omega))
theorem ends {l d:List Int} (hl:l.length≤3000) (hd:d.length≤5000):EndZ 131 ctRt false (st0 131 [il l,il d]) (il (wouI l d)) [] 0:=
 .at ctRt_ok (in_t l d) (loop hl hd l.length 0 false (by omega))
end RWou
end Go.Proofs.Ytfffbioafhppiaa.Ev
namespace Go.Proofs.Ytfffbioafhppiaa.Ev
variable {l:List Int}
theorem asc_ext:∀ {A B:List Nat},A.Pairwise (· < ·)→B.Pairwise (· < ·)→(∀ z,z ∈ A↔z ∈ B)→A=B
 | [],[],_,_,_=>rfl
 | [],b :: B,_,_,h=>absurd ((h b).2 List.mem_cons_self) (by simp)
 | a :: A,[],_,_,h=>absurd ((h a).1 List.mem_cons_self) (by simp)
 | a :: A,b :: B,ha,hb,h=>by
  obtain ⟨a1,a2⟩:=List.pairwise_cons.1 ha;obtain ⟨b1,b2⟩:=List.pairwise_cons.1 hb;have e:a=b:=by
   rcases List.mem_cons.1 ((h a).1 List.mem_cons_self) with q | q
   ·exact q
   ·have:=b1 a q;rcases List.mem_cons.1 ((h b).2 List.mem_cons_self) with r | r
    ·exact r.symm
    ·have:=a1 b r;omega
  subst e;rw [asc_ext a2 b2 fun z=>?_];have hz:=h z;rw [List.mem_cons,List.mem_cons] at hz;constructor
  ·intro q;rcases hz.1 (.inr q) with r | r
   ·have:=a1 z q;omega
   ·exact r
  ·intro q;rcases hz.2 (.inr q) with r | r
   ·have:=b1 z q;omega
   ·exact r
noncomputable def tigT (l:List Int):List Nat:=tigL l (List.range l.length)
theorem tigT_asc (l:List Int):AscI l.length (tigT l):=(tig_asc (range_asc l.length)).1
noncomputable def resT (l:List Int) (o:Nat→Bool):List Nat:=(tigT l).filter fun j=>!(isPn (l.getD j 0) && o j)
noncomputable def goT (l:List Int) (o:Nat→Bool):List Nat:=(resT l o).filter fun j=>!decide (j ∈ tigL l (resT l o))
theorem resT_asc (l:List Int) (o:Nat→Bool):AscI l.length (resT l o):=(tigT_asc l).sub _
theorem rst_idx (l:List Int) (o:Nat→Bool):idxB (rstF l (tgA l) o)=resT l o:=by
 unfold idxB;rw [rstF_len,tgA_len];refine asc_ext ((range_asc _).sub _).1 (resT_asc l o).1 fun z=>?_;unfold resT;rw [List.mem_filter,List.mem_range,List.mem_filter];have key:z < l.length→(rstF l (tgA l) o).getD z false=(decide (z ∈ tigT l) && !(isPn (l.getD z 0) && o z)):=fun h1=>by
  unfold rstF;rw [tgA_len,List.getD_eq_getElem?_getD,List.getElem?_map,List.getElem?_range h1];show ((tgA l).getD z false && _)=_;unfold tgA;rw [mrk_get h1];rfl
 constructor
 ·rintro ⟨h1,h2⟩
  rw [key h1,Bool.and_eq_true] at h2;exact ⟨of_decide_eq_true h2.1,h2.2⟩
 ·rintro ⟨h1,h2⟩
  have h3:=(tigT_asc l).2 z h1;refine ⟨h3,?_⟩;rw [key h3,Bool.and_eq_true];exact ⟨decide_eq_true h1,h2⟩
theorem gF_goT (l:List Int) (o:Nat→Bool):gF l (tgA l) o=ofNs (goT l o):=by
 unfold gF gonF goT;rw [rst_idx];congr 1;refine List.filter_congr fun j hj=>?_;have h3:=(resT_asc l o).2 j hj;unfold tgB;rw [rst_idx,mrk_get h3]

theorem mem_ofNs {L:List Nat} {y:Nat}:(y:Int) ∈ ofNs L↔y ∈ L:=by
 unfold ofNs;rw [List.mem_map];constructor
 ·rintro ⟨z,hz,e⟩
  have:z=y:=by omega
  rwa [← this]
 ·intro h;exact ⟨y,h,rfl⟩
theorem wou_ofNs (L:List Nat) (d:List Int):RWou.wouI (ofNs L) d=ofNs (L.filter fun (y:Nat)=>!decide ((y:Int) ∈ d)):=by
 unfold RWou.wouI ofNs;rw [List.filter_map];rfl
def toN (d:List Int):List Nat:=d.map Int.toNat
theorem toN_ofNs (L:List Nat):toN (ofNs L)=L:=by
 unfold toN ofNs;rw [List.map_map];exact (List.map_congr_left fun x _=>rfl).trans (List.map_id L)
def TgnOk (l d:List Int):Prop:=(∃ idx,d=ofNs idx∧AscI l.length idx)∧RTgn.Sm6 l∧l.length≤3000
noncomputable instance TgnOk.dec (l d:List Int):Decidable (TgnOk l d):=Classical.propDecidable _
theorem let_sm {l:List Int} (h:∀ x,x ∈ l→LetOk x):RTgn.Sm6 l:=fun j=>by
 by_cases hj:j < l.length
 ·have:=h (l.getD j 0) (by rw [getD_at hj];exact List.getElem_mem hj);unfold LetOk at this;omega
 ·rw [List.getD_eq_getElem?_getD,List.getElem?_eq_none (by omega)];decide
theorem res_all (l:List Int):(tigT l).filter (fun (y:Nat)=>!decide ((y:Int) ∈ ofNs (RPns.pinI l l.length)))=resT l fun _=>true:=by
 unfold resT;refine List.filter_congr fun y hy=>?_;have h1:=(tigT_asc l).2 y hy;congr 1;rw [Bool.and_true,Bool.eq_iff_iff,decide_eq_true_iff,mem_ofNs];unfold RPns.pinI;rw [List.mem_filter,List.mem_range];exact ⟨fun h=>h.2,fun h=>⟨h1,h⟩⟩
noncomputable def refF (l p:List Int):List Nat:=((tigT l).filter fun (y:Nat)=>!decide ((y:Int) ∈ p)).filter fun (y:Nat)=>!decide ((y:Int) ∈ ofNs (tigL l ((tigT l).filter fun (y:Nat)=>!decide ((y:Int) ∈ p))))
theorem refF_go {l p:List Int} {o:Nat→Bool} (h:((tigT l).filter fun (y:Nat)=>!decide ((y:Int) ∈ p))=resT l o):refF l p=goT l o:=by
 unfold refF goT;rw [h];refine List.filter_congr fun y _=>?_;congr 1;exact decide_eq_decide.2 mem_ofNs
def FrcOk (l p:List Int):Prop:=l.length≤3000∧p.length≤5000∧RTgn.Sm6 l
noncomputable instance FrcOk.dec (l p:List Int):Decidable (FrcOk l p):=Classical.propDecidable _
theorem frc_ok {l p:List Int} (h:FrcOk l p):TgnOk l (ofNs (List.range l.length))∧(ofNs (tigT l)).length≤3000∧TgnOk l (ofNs ((tigT l).filter fun (y:Nat)=>!decide ((y:Int) ∈ p)))∧(ofNs ((tigT l).filter fun (y:Nat)=>!decide ((y:Int) ∈ p))).length≤3000∧(ofNs (tigL l ((tigT l).filter fun (y:Nat)=>!decide ((y:Int) ∈ p)))).length≤3000:=by
 obtain ⟨h1,h2,h3⟩:=h;have a1:=tigT_asc l;have a2:=a1.sub fun (y:Nat)=>!decide ((y:Int) ∈ p);have a3:=(tig_asc (l:=l) a2).1;have b1:=asc_len a1;have b2:=asc_len a2;have b3:=asc_len a3;refine ⟨⟨⟨_,rfl,range_asc _⟩,h3,h1⟩,by rw [ofNs_len];omega,⟨⟨_,rfl,a2⟩,h3,h1⟩,by rw [ofNs_len];omega,by rw [ofNs_len];omega⟩
theorem chkL_frc {t:Int} {l:List Int} (h:chkL t l=0):FrcOk l (ofNs (RPns.pinI l l.length))∧∀ p:List Int,p.length≤5000→FrcOk l p:=by
 obtain ⟨_,h1,h2⟩:=chkL_ok h;have:=RPns.pinI_len l l.length;exact ⟨⟨by omega,by rw [ofNs_len];omega,let_sm h2⟩,fun p hp=>⟨by omega,hp,let_sm h2⟩⟩
end Go.Proofs.Ytfffbioafhppiaa.Ev
namespace Go.Proofs.Ytfffbioafhppiaa.Ev
theorem tch_symm (x y:Int):tchL x y=tchL y x:=by
 unfold tchL;rw [Bool.eq_iff_iff];simp only [Bool.and_eq_true,decide_eq_true_eq,Bool.not_eq_true'];rw [Bool.and_comm (isPn y)];constructor
 ·rintro ⟨⟨a,b⟩,c⟩;exact ⟨⟨by omega,by omega⟩,c⟩
 ·rintro ⟨⟨a,b⟩,c⟩;exact ⟨⟨by omega,by omega⟩,c⟩
theorem tch_neg {x:Int} (h:isPn x=false) (h2:isPn (-x)=false) (y:Int):tchL y (-x)=tchL y x:=by
 unfold tchL;rw [num_neg h h2,h,h2]
theorem tch_self {x:Int} (h:isPn x=false):tchL x x=true:=by
 unfold tchL;rw [h];simp

def rmL (x:Int):List Int→Option (List Int)
 | []=>none
 | y :: q=>if tchL y x=true then (if y = -x∧isPn x=false∧isPn y=false then some q else none) else (rmL x q).map (y :: ·)
def stpL (q:List Int) (x:Int):List Int:=(rmL x q).getD (x :: q)
def redL (q w:List Int):List Int:=w.foldl stpL q

inductive Tq:List Int→List Int→Prop
 | refl (q:List Int):Tq q q
 | swap (u v:Int) (q:List Int) (h:tchL u v=false):Tq (u :: v :: q) (v :: u :: q)
 | cons (y:Int) {q q':List Int} (h:Tq q q'):Tq (y :: q) (y :: q')
 | trans {a b c:List Int} (h:Tq a b) (k:Tq b c):Tq a c
theorem Tq.symm {a b:List Int} (h:Tq a b):Tq b a:=by
 induction h with
 | refl q=>exact .refl q
 | swap u v q h=>exact .swap v u q (by rw [tch_symm];exact h)
 | cons y _ ih=>exact .cons y ih
 | trans _ _ h k=>exact k.trans h
theorem Tq.len {a b:List Int} (h:Tq a b):a.length=b.length:=by
 induction h with
 | refl q=>rfl
 | swap u v q h=>rfl
 | cons y _ ih=>rw [List.length_cons,List.length_cons,ih]
 | trans _ _ h k=>rw [h,k]
inductive OT:Option (List Int)→Option (List Int)→Prop
 | none:OT none none
 | some {a b:List Int} (h:Tq a b):OT (some a) (some b)
theorem OT.map {a b:Option (List Int)} (h:OT a b) (y:Int):OT (a.map (y :: ·)) (b.map (y :: ·)):=by
 cases h with
 | none=>exact .none
 | some h=>exact .some (.cons y h)
theorem OT.trans {a b c:Option (List Int)} (h:OT a b) (k:OT b c):OT a c:=by
 cases h with
 | none=>exact k
 | some h=>cases k with
  | some k=>exact .some (h.trans k)
theorem OT.refl:∀ a:Option (List Int),OT a a
 | .none=>.none
 | .some a=>.some (.refl a)
theorem rm_t {x y:Int} {q:List Int} (h:tchL y x=true):rmL x (y :: q)=if y = -x∧isPn x=false∧isPn y=false then some q else none:=by
 show (if tchL y x=true then _ else _)=_
 rw [if_pos h]
theorem rm_f {x y:Int} {q:List Int} (h:tchL y x=false):rmL x (y :: q)=(rmL x q).map (y :: ·):=by
 show (if tchL y x=true then _ else _)=_
 rw [if_neg (by rw [h];simp)]
theorem rm_hit {x:Int} {q:List Int} (h1:isPn x=false) (h2:isPn (-x)=false):rmL x (-x :: q)=some q:=by
 have:tchL (-x) x=true:=by rw [tch_symm,tch_neg h1 h2];exact tch_self h1
 rw [rm_t this,if_pos ⟨rfl,h1,h2⟩]
theorem rm_swap {u v x:Int} (h:tchL u v=false) (q:List Int):OT (rmL x (u :: v :: q)) (rmL x (v :: u :: q)):=by
 cases hu:tchL u x with
 | true=>
  cases hv:tchL v x with
  | true=>
   have no:∀ {a b:Int},tchL a b=false→tchL b x=true→¬ (a = -x∧isPn x=false∧isPn a=false):=by
    rintro a b h1 h2 ⟨rfl,h3,h4⟩
    rw [tch_symm,tch_neg h3 h4,h2] at h1;cases h1
   rw [rm_t hu,rm_t hv,if_neg (no h hv),if_neg (no (by rw [tch_symm];exact h) hu)];exact .none
  | false=>
   rw [rm_t hu,rm_f hv,rm_t hu];split
   ·exact .some (.refl _)
   ·exact .none
 | false=>
  cases hv:tchL v x with
  | true=>
   rw [rm_f hu,rm_t hv,rm_t hv];split
   ·exact .some (.refl _)
   ·exact .none
  | false=>
   rw [rm_f hu,rm_f hv,rm_f hv,rm_f hu]
   cases rmL x q with
   | none=>exact .none
   | some a=>exact .some (.swap u v a h)
theorem rm_tq {a b:List Int} (h:Tq a b) (x:Int):OT (rmL x a) (rmL x b):=by
 induction h with
 | refl q=>exact .refl _
 | swap u v q h=>exact rm_swap h q
 | @cons y q q' h ih=>
  cases hy:tchL y x with
  | true=>
   rw [rm_t hy,rm_t hy];split
   ·exact .some h
   ·exact .none
  | false=>
   rw [rm_f hy,rm_f hy];exact ih.map y
 | trans _ _ h k=>exact h.trans k
theorem stp_tq {a b:List Int} (h:Tq a b) (x:Int):Tq (stpL a x) (stpL b x):=by
 have:=rm_tq h x;unfold stpL
 cases ha:rmL x a with
 | none=>
  rw [ha] at this
  cases hb:rmL x b with
  | none=>exact .cons x h
  | some c=>rw [hb] at this;cases this
 | some c=>
  rw [ha] at this
  cases hb:rmL x b with
  | none=>rw [hb] at this;cases this
  | some d=>rw [hb] at this;cases this;assumption
theorem red_tq:∀ (w:List Int) {a b:List Int},Tq a b→Tq (redL a w) (redL b w)
 | [],_,_,h=>h
 | x :: w,_,_,h=>red_tq w (stp_tq h x)
theorem rm_cm {x y:Int} (h:tchL x y=false):∀ q:List Int,(∀ q1 q2,rmL x q=some q1→rmL y q=some q2→∃ q3,rmL y q1=some q3∧rmL x q2=some q3)∧(∀ q1,rmL x q=some q1→rmL y q=none→rmL y q1=none)
 | []=>⟨fun q1 q2 h1 _=>(by cases h1),fun q1 h1 _=>(by cases h1)⟩
 | z :: q=>by
  obtain ⟨i1,i2⟩:=rm_cm h q
  cases hx:tchL z x with
  | true=>
   rw [rm_t hx]
   by_cases c:z = -x∧isPn x=false∧isPn z=false
   ·rw [if_pos c];obtain ⟨rfl,c1,c2⟩:=c;have hy:tchL (-x) y=false:=by rw [tch_symm,tch_neg c1 c2,tch_symm];exact h
    rw [rm_f hy];refine ⟨fun q1 q2 h1 h2=>?_,fun q1 h1 h2=>?_⟩
    ·obtain rfl:=Option.some.inj h1
     cases hq:rmL y q with
     | none=>rw [hq] at h2;cases h2
     | some a=>
      rw [hq] at h2;obtain rfl:=Option.some.inj h2;exact ⟨a,rfl,rm_hit c1 c2⟩
    ·obtain rfl:=Option.some.inj h1
     cases hq:rmL y q with
     | none=>rfl
     | some a=>rw [hq] at h2;cases h2
   ·rw [if_neg c];exact ⟨fun q1 q2 h1 _=>(by cases h1),fun q1 h1 _=>(by cases h1)⟩
  | false=>
   rw [rm_f hx]
   cases hq:rmL x q with
   | none=>exact ⟨fun q1 q2 h1 _=>(by cases h1),fun q1 h1 _=>(by cases h1)⟩
   | some a=>
    cases hy:tchL z y with
    | true=>
     rw [rm_t hy];refine ⟨fun q1 q2 h1 h2=>?_,fun q1 h1 h2=>?_⟩
     ·obtain rfl:=Option.some.inj h1
      by_cases c:z = -y∧isPn y=false∧isPn z=false
      ·rw [if_pos c] at h2;obtain rfl:=Option.some.inj h2;exact ⟨a,by rw [rm_t hy,if_pos c],hq⟩
      ·rw [if_neg c] at h2;cases h2
     ·obtain rfl:=Option.some.inj h1;show rmL y (z :: a)=none;rw [rm_t hy]
      by_cases c:z = -y∧isPn y=false∧isPn z=false
      ·rw [if_pos c] at h2;cases h2
      ·rw [if_neg c]
    | false=>
     rw [rm_f hy];refine ⟨fun q1 q2 h1 h2=>?_,fun q1 h1 h2=>?_⟩
     ·obtain rfl:=Option.some.inj h1
      cases hb:rmL y q with
      | none=>rw [hb] at h2;cases h2
      | some b=>
       rw [hb] at h2;obtain rfl:=Option.some.inj h2;obtain ⟨q3,e1,e2⟩:=i1 a b hq hb;refine ⟨z :: q3,?_,?_⟩
       ·show rmL y (z :: a)=_;rw [rm_f hy,e1];rfl
       ·show rmL x (z :: b)=_;rw [rm_f hx,e2];rfl
     ·obtain rfl:=Option.some.inj h1;show rmL y (z :: a)=none
      cases hb:rmL y q with
      | none=>rw [rm_f hy,i2 a hq hb];rfl
      | some b=>rw [hb] at h2;cases h2
theorem stp_some {x:Int} {q a:List Int} (h:rmL x q=some a):stpL q x=a:=by unfold stpL;rw [h];rfl
theorem stp_none {x:Int} {q:List Int} (h:rmL x q=none):stpL q x=x :: q:=by unfold stpL;rw [h];rfl
theorem stp_cm {x y:Int} (h:tchL x y=false) (q:List Int):Tq (stpL (stpL q x) y) (stpL (stpL q y) x):=by
 have h':tchL y x=false:=by rw [tch_symm];exact h
 cases hx:rmL x q with
 | none=>
  cases hy:rmL y q with
  | none=>
   have e1:rmL y (x :: q)=none:=by rw [rm_f h,hy];rfl
   have e2:rmL x (y :: q)=none:=by rw [rm_f h',hx];rfl
   rw [stp_none hx,stp_none hy,stp_none e1,stp_none e2];exact .swap y x q h'
  | some b=>
   have e1:rmL y (x :: q)=some (x :: b):=by rw [rm_f h,hy];rfl
   have e2:=(rm_cm h' q).2 b hy hx;rw [stp_none hx,stp_some hy,stp_some e1,stp_none e2];exact .refl _
 | some a=>
  cases hy:rmL y q with
  | none=>
   have e1:=(rm_cm h q).2 a hx hy;have e2:rmL x (y :: q)=some (y :: a):=by rw [rm_f h',hx];rfl
   rw [stp_some hx,stp_none hy,stp_none e1,stp_some e2];exact .refl _
  | some b=>
   obtain ⟨c,e1,e2⟩:=(rm_cm h q).1 a b hx hy;rw [stp_some hx,stp_some hy,stp_some e1,stp_some e2];exact .refl _

def Rdc:List Int→Prop
 | []=>True
 | x :: q=>rmL x q=none∧Rdc q
theorem rm_n {a b:List Int} {x:Int} (h:Tq a b) (k:rmL x a=none):rmL x b=none:=by
 have:=rm_tq h x;rw [k] at this
 cases hb:rmL x b with
 | none=>rfl
 | some c=>rw [hb] at this;cases this
theorem map_n {a:Option (List Int)} {y:Int} (h:a.map (y :: ·)=none):a=none:=by
 cases a with
 | none=>rfl
 | some b=>cases h
theorem rdc_tq {a b:List Int} (h:Tq a b):Rdc a→Rdc b:=by
 induction h with
 | refl q=>exact id
 | swap u v q h=>
  rintro ⟨h1,h2,h3⟩
  have h':tchL v u=false:=by rw [tch_symm];exact h
  rw [rm_f h'] at h1;exact ⟨by rw [rm_f h,h2];rfl,map_n h1,h3⟩
 | cons y h ih=>exact fun ⟨h1,h2⟩=>⟨rm_n h h1,ih h2⟩
 | trans _ _ h k=>exact fun q=>k (h q)
theorem rm_pn {x:Int}:∀ {q a:List Int},rmL x q=some a→isPn x=false∧isPn (-x)=false
 | [],_,h=>by cases h
 | y :: q,a,h=>by
  cases hy:tchL y x with
  | true=>
   rw [rm_t hy] at h
   by_cases c:y = -x∧isPn x=false∧isPn y=false
   ·obtain ⟨rfl,c1,c2⟩:=c;exact ⟨c1,c2⟩
   ·rw [if_neg c] at h;cases h
  | false=>
   rw [rm_f hy] at h
   cases hq:rmL x q with
   | none=>rw [hq] at h;cases h
   | some b=>exact rm_pn hq
theorem rm_head {x:Int}:∀ {q a:List Int},rmL x q=some a→Tq q (-x :: a)
 | [],_,h=>by cases h
 | y :: q,a,h=>by
  obtain ⟨p1,p2⟩:=rm_pn h
  cases hy:tchL y x with
  | true=>
   rw [rm_t hy] at h
   by_cases c:y = -x∧isPn x=false∧isPn y=false
   ·rw [if_pos c] at h;obtain rfl:=Option.some.inj h;rw [c.1];exact .refl _
   ·rw [if_neg c] at h;cases h
  | false=>
   rw [rm_f hy] at h
   cases hq:rmL x q with
   | none=>rw [hq] at h;cases h
   | some b=>
    rw [hq] at h;obtain rfl:=Option.some.inj h;exact (Tq.cons y (rm_head hq)).trans (.swap y (-x) b (by rw [tch_neg p1 p2];exact hy))
theorem stp_inv {x:Int} {q:List Int} (h:Rdc q) (h1:isPn x=false) (h2:isPn (-x)=false):Tq (stpL (stpL q x) (-x)) q:=by
 cases hx:rmL x q with
 | none=>
  have e:rmL (-x) (x :: q)=some q:=by
   have:=rm_hit (x:=-x) (q:=q) h2 (by rw [Int.neg_neg];exact h1)
   rwa [Int.neg_neg] at this
  rw [stp_none hx,stp_some e];exact .refl _
 | some a=>
  have e:=rm_head hx;rw [stp_some hx,stp_none (rdc_tq e h).1];exact e.symm
theorem stp_rdc {x:Int} {q:List Int} (h:Rdc q):Rdc (stpL q x):=by
 cases hx:rmL x q with
 | none=>rw [stp_none hx];exact ⟨hx,h⟩
 | some a=>rw [stp_some hx];exact (rdc_tq (rm_head hx) h).2
theorem red_rdc:∀ (w:List Int) {q:List Int},Rdc q→Rdc (redL q w)
 | [],_,h=>h
 | x :: w,_,h=>red_rdc w (stp_rdc h)
theorem red_app (q a b:List Int):redL q (a ++ b)=redL (redL q a) b:=List.foldl_append ..
theorem red_cm {x:Int}:∀ (M q:List Int),(∀ y,y ∈ M→tchL y x=false)→Tq (stpL (redL q M) x) (redL (stpL q x) M)
 | [],q,_=>.refl _
 | m :: M,q,h=>(red_cm M (stpL q m) fun y hy=>h y (List.mem_cons_of_mem _ hy)).trans (red_tq M (stp_cm (h m List.mem_cons_self) q))

theorem red_pair {x:Int} {q M C:List Int} (hq:Rdc q) (h1:isPn x=false) (h2:isPn (-x)=false) (hM:∀ y,y ∈ M→tchL y x=false):Tq (redL q (x :: M ++ -x :: C)) (redL q (M ++ C)):=by
 show Tq (redL q ((x :: M) ++ (-x :: C))) _;rw [red_app,red_app];show Tq (redL (stpL (redL (stpL q x) M) (-x)) C) _;refine red_tq C ?_;refine (red_cm M (stpL q x) fun y hy=>by rw [tch_neg h1 h2];exact hM y hy).trans ?_;exact red_tq M (stp_inv hq h1 h2)
theorem rm_len {x:Int} {q a:List Int} (h:rmL x q=some a):q.length=a.length+1:=by
 have:=(rm_head h).len
 rwa [List.length_cons] at this
theorem red_le:∀ (w q:List Int),(redL q w).length≤q.length+w.length
 | [],q=>Nat.le_refl _
 | x :: w,q=>by
  have h1:=red_le w (stpL q x);have h2:(stpL q x).length≤q.length+1:=by
   cases hx:rmL x q with
   | none=>rw [stp_none hx];exact Nat.le_refl _
   | some a=>rw [stp_some hx];have:=rm_len hx;omega
  show (redL (stpL q x) w).length≤_;rw [List.length_cons];omega
end Go.Proofs.Ytfffbioafhppiaa.Ev
namespace Go.Proofs.Ytfffbioafhppiaa.Ev
variable {l:List Int}

def ltsL (l:List Int) (L:List Nat):List Int:=L.map fun j=>l.getD j 0
theorem lts_app (l:List Int) (A B:List Nat):ltsL l (A ++ B)=ltsL l A ++ ltsL l B:=List.map_append
theorem lts_one (l:List Int) (i:Nat):ltsL l [i]=[l.getD i 0]:=rfl
theorem lts_cons (l:List Int) (i:Nat) (A:List Nat):ltsL l (i :: A)=l.getD i 0 :: ltsL l A:=rfl
theorem lts_len (l:List Int) (A:List Nat):(ltsL l A).length=A.length:=List.length_map ..
theorem rm_no {x:Int}:∀ {q:List Int},(∀ y,y ∈ q→tchL y x=false)→rmL x q=none
 | [],_=>rfl
 | y :: q,h=>by
  rw [rm_f (h y List.mem_cons_self),rm_no fun z hz=>h z (List.mem_cons_of_mem _ hz)];rfl
theorem rm_ov {x:Int} {q:List Int}:∀ {Y:List Int},(∀ y,y ∈ Y→tchL y x=false)→rmL x (Y ++ q)=(rmL x q).map (Y ++ ·)
 | [],_=>by cases h:rmL x q <;> (show rmL x q=_;rw [h];rfl)
 | y :: Y,h=>by
  show rmL x (y :: (Y ++ q))=_;rw [rm_f (h y List.mem_cons_self),rm_ov fun z hz=>h z (List.mem_cons_of_mem _ hz)];cases rmL x q <;> rfl

theorem out_cases {out:List Nat} {i:Nat} (hp:out.Pairwise (· < ·)) (hs:-1000≤l.getD i 0):(outS l out i=out ++ [i]∧rmL (l.getD i 0) (ltsL l out).reverse=none)∨∃ X e Y,out=X ++ e :: Y∧outS l out i=X ++ Y∧isPn (l.getD i 0)=false∧isPn (-(l.getD i 0))=false∧l.getD e 0 = -(l.getD i 0)∧∀ y,y ∈ Y→tchL (l.getD y 0) (l.getD i 0)=false:=by
 obtain ⟨t1,t2⟩:=tpO_top (l:=l) hp (l.getD i 0);rcases t2 with t2 | ⟨e,t2,he,ht⟩
 ·refine .inl ⟨?_,rm_no fun y hy=>?_⟩
  ·unfold outS;rw [if_neg (by rintro ⟨h,_⟩;omega)]
  ·obtain ⟨j,hj,rfl⟩:=List.mem_map.1 (List.mem_reverse.1 hy)
   cases hq:tchL (l.getD j 0) (l.getD i 0) with
   | false=>rfl
   | true=>have:=t1 j ⟨hj,hq⟩;omega
 ·obtain ⟨X,Y,rfl⟩:=List.append_of_mem he;obtain ⟨p1,p2,p3⟩:=List.pairwise_append.1 hp;have hY:∀ y,y ∈ Y→tchL (l.getD y 0) (l.getD i 0)=false:=fun y hy=>by
   cases hq:tchL (l.getD y 0) (l.getD i 0) with
   | false=>rfl
   | true=>
    have h1:=t1 y ⟨List.mem_append_right _ (List.mem_cons_of_mem _ hy),hq⟩;have h2:=(List.pairwise_cons.1 p2).1 y hy;omega
  have hn:(tpO l (X ++ e :: Y) (l.getD i 0)).toNat=e:=by rw [t2];rfl
  have hpn:isPn (l.getD i 0)=false→isPn (-(l.getD i 0))=false:=fun _=>decide_eq_false (by omega)
  by_cases c:0≤tpO l (X ++ e :: Y) (l.getD i 0)∧isPn (l.getD i 0)=false∧l.getD (tpO l (X ++ e :: Y) (l.getD i 0)).toNat 0 = -(l.getD i 0)
  ·refine .inr ⟨X,e,Y,rfl,?_,c.2.1,hpn c.2.1,by rw [← hn];exact c.2.2,hY⟩;unfold outS;rw [if_pos c,hn,List.filter_append,List.filter_cons_of_neg (by simp)];rw [List.filter_eq_self.2 fun y hy=>decide_eq_true (by have:=p3 y hy e List.mem_cons_self;omega),List.filter_eq_self.2 fun y hy=>decide_eq_true (by have:=(List.pairwise_cons.1 p2).1 y hy;omega)]
  ·refine .inl ⟨by unfold outS;rw [if_neg c],?_⟩;have e1:(ltsL l (X ++ e :: Y)).reverse=(ltsL l Y).reverse ++ l.getD e 0 :: (ltsL l X).reverse:=by
    rw [lts_app,lts_cons,List.reverse_append,List.reverse_cons,List.append_assoc];rfl
   rw [e1,rm_ov fun y hy=>by
    obtain ⟨j,hj,rfl⟩:=List.mem_map.1 (List.mem_reverse.1 hy);exact hY j hj,rm_t ht,if_neg]
   ·rfl
   ·rintro ⟨q1,q2,_⟩
    exact c ⟨by omega,q2,by rw [hn];exact q1⟩
theorem stk_out {out:List Nat} {i:Nat} (hp:out.Pairwise (· < ·)) (hs:-1000≤l.getD i 0):(ltsL l (outS l out i)).reverse=stpL (ltsL l out).reverse (l.getD i 0):=by
 rcases out_cases hp hs with ⟨h1,h2⟩ | ⟨X,e,Y,rfl,h1,h2,h3,h4,h5⟩
 ·rw [h1,stp_none h2,lts_app,List.reverse_append];rfl
 ·have e1:(ltsL l (X ++ e :: Y)).reverse=(ltsL l Y).reverse ++ l.getD e 0 :: (ltsL l X).reverse:=by
   rw [lts_app,lts_cons,List.reverse_append,List.reverse_cons,List.append_assoc];rfl
  have e2:rmL (l.getD i 0) (ltsL l (X ++ e :: Y)).reverse=some ((ltsL l Y).reverse ++ (ltsL l X).reverse):=by
   rw [e1,rm_ov fun y hy=>by
    obtain ⟨j,hj,rfl⟩:=List.mem_map.1 (List.mem_reverse.1 hy);exact h5 j hj,h4,rm_hit h2 h3]
   rfl
  rw [stp_some e2,h1,lts_app,List.reverse_append]
theorem asc_step {out L:List Nat} {i:Nat} (hp:(out ++ i :: L).Pairwise (· < ·)) (hs:-1000≤l.getD i 0):(outS l out i ++ L).Pairwise (· < ·):=by
 have hp0:=(List.pairwise_append.1 hp).1;rcases out_cases hp0 hs with ⟨h1,h2⟩ | ⟨X,e,Y,rfl,h1,h2,h3,h4,h5⟩
 ·rw [h1,List.append_assoc];exact hp
 ·rw [h1];refine hp.sublist (List.Sublist.append (List.Sublist.append (List.Sublist.refl _) (List.sublist_cons_self _ _)) (List.sublist_cons_self _ _))
theorem stk_fold (hs:∀ j,-1000≤l.getD j 0):∀ (L out:List Nat),(out ++ L).Pairwise (· < ·)→(ltsL l (L.foldl (outS l) out)).reverse=redL (ltsL l out).reverse (ltsL l L)
 | [],out,_=>rfl
 | i :: L,out,hp=>by
  show (ltsL l (L.foldl (outS l) (outS l out i))).reverse=redL (stpL (ltsL l out).reverse (l.getD i 0)) (ltsL l L);rw [stk_fold hs L _ (asc_step hp (hs i)),stk_out (List.pairwise_append.1 hp).1 (hs i)]
theorem tig_red (hs:∀ j,-1000≤l.getD j 0) {L:List Nat} (hp:L.Pairwise (· < ·)):(tigL l L).length=(redL [] (ltsL l L)).length:=by
 have:=stk_fold hs L [] hp;rw [show redL [] (ltsL l L)=redL (ltsL l []).reverse (ltsL l L) from rfl,← this,List.length_reverse,lts_len]
 rfl
theorem mono_fold (hs:∀ j,-1000≤l.getD j 0) {kp:Nat→Bool} (hk:∀ j,kp j=false→isPn (l.getD j 0)=true):∀ (L out B:List Nat),(out ++ L).Pairwise (· < ·)→Tq (redL [] (ltsL l B)) (redL [] (ltsL l (out.filter kp)))→Tq (redL [] (ltsL l (B ++ L.filter kp))) (redL [] (ltsL l ((L.foldl (outS l) out).filter kp)))
 | [],out,B,_,h=>by rw [List.filter_nil,List.append_nil];exact h
 | i :: L,out,B,hp,h=>by
  have hp0:=(List.pairwise_append.1 hp).1;have ha:=asc_step hp (hs i);show Tq _ (redL [] (ltsL l ((L.foldl (outS l) (outS l out i)).filter kp)))
  cases c:kp i with
  | true=>
   have e1:B ++ (i :: L).filter kp=(B ++ [i]) ++ L.filter kp:=by rw [List.filter_cons_of_pos c,List.append_assoc];rfl
   rw [e1];refine mono_fold hs hk L _ _ ha ?_;rw [lts_app,lts_one,red_app];refine (stp_tq h (l.getD i 0)).trans ?_;rcases out_cases hp0 (hs i) with ⟨h1,h2⟩ | ⟨X,e,Y,rfl,h1,h2,h3,h4,h5⟩
   ·rw [h1,List.filter_append,List.filter_cons_of_pos c,List.filter_nil,lts_app,lts_one,red_app];exact .refl _
   ·have ce:kp e=true:=by
     cases q:kp e with
     | true=>rfl
     | false=>have:=hk e q;rw [h4,h3] at this;cases this
    rw [h1,List.filter_append,List.filter_append,List.filter_cons_of_pos ce,lts_app,lts_app,lts_cons,red_app,red_app,h4];have:=red_pair (x:=-(l.getD i 0)) (q:=redL [] (ltsL l (X.filter kp))) (M:=ltsL l (Y.filter kp)) (C:=[]) (red_rdc _ trivial) h3 (by rw [Int.neg_neg];exact h2) (fun y hy=>by
     obtain ⟨j,hj,rfl⟩:=List.mem_map.1 hy;rw [tch_neg h2 h3];exact h5 j (List.mem_filter.1 hj).1)
    rw [Int.neg_neg,List.append_nil,red_app] at this;exact this
  | false=>
   have e1:B ++ (i :: L).filter kp=B ++ L.filter kp:=by rw [List.filter_cons_of_neg (by rw [c];simp)]
   rw [e1];refine mono_fold hs hk L _ _ ha ?_;rcases out_cases hp0 (hs i) with ⟨h1,h2⟩ | ⟨X,e,Y,rfl,h1,h2,h3,h4,h5⟩
   ·rw [h1,List.filter_append,List.filter_cons_of_neg (by rw [c];simp),List.filter_nil,List.append_nil];exact h
   ·rw [hk i c] at h2;cases h2
theorem fold_mem (hs:∀ j,-1000≤l.getD j 0) {z:Nat}:∀ (L out:List Nat),(out ++ L).Pairwise (· < ·)→(z ∈ L.foldl (outS l) out→z ∈ out ++ L)∧(isPn (l.getD z 0)=true→z ∈ out ++ L→z ∈ L.foldl (outS l) out)
 | [],out,_=>by rw [List.append_nil];exact ⟨id,fun _=>id⟩
 | i :: L,out,hp=>by
  have hp0:=(List.pairwise_append.1 hp).1;obtain ⟨i1,i2⟩:=fold_mem hs L _ (asc_step hp (hs i));show (z ∈ L.foldl (outS l) (outS l out i)→_)∧(_→_→z ∈ L.foldl (outS l) (outS l out i));rcases out_cases hp0 (hs i) with ⟨h1,h2⟩ | ⟨X,e,Y,rfl,h1,h2,h3,h4,h5⟩
  ·rw [h1] at i1 i2 ⊢;rw [List.append_assoc] at i1 i2;exact ⟨i1,i2⟩
  ·rw [h1] at i1 i2 ⊢;simp only [List.mem_append,List.mem_cons] at i1 i2 ⊢;refine ⟨fun h=>?_,fun h k=>i2 h ?_⟩
   ·rcases i1 h with (h | h) | h
    ·exact .inl (.inl h)
    ·exact .inl (.inr (.inr h))
    ·exact .inr (.inr h)
   ·rcases k with (k | k | k) | k | k
    ·exact .inl (.inl k)
    ·rw [k,h4,h3] at h;cases h
    ·exact .inl (.inr k)
    ·rw [k,h2] at h;cases h
    ·exact .inr k
theorem cnt_not (p:Nat→Bool):∀ L:List Nat,(L.filter p).length+(L.filter fun z=>!p z).length=L.length
 | []=>rfl
 | x :: L=>by
  have:=cnt_not p L
  cases h:p x with
  | true=>rw [List.filter_cons_of_pos h,List.filter_cons_of_neg (by rw [h];simp),List.length_cons,List.length_cons];omega
  | false=>rw [List.filter_cons_of_neg (by rw [h];simp),List.filter_cons_of_pos (by rw [h];rfl),List.length_cons,List.length_cons];omega
theorem go_cnt (hs:∀ j,-1000≤l.getD j 0) (o:Nat→Bool):(goT l o).length+(tigL l (resT l o)).length=(resT l o).length:=by
 have ha:=resT_asc l o;have e:(resT l o).filter (fun j=>decide (j ∈ tigL l (resT l o)))=tigL l (resT l o):=asc_ext (ha.sub _).1 (tig_asc (l:=l) ha).1.1 fun z=>by
  rw [List.mem_filter,decide_eq_true_iff];exact ⟨fun h=>h.2,fun h=>⟨(fold_mem hs (resT l o) [] ha.1).1 h,h⟩⟩
 have:=cnt_not (fun j=>decide (j ∈ tigL l (resT l o))) (resT l o);rw [e] at this;unfold goT;omega

theorem go_le (hs:∀ j,-1000≤l.getD j 0) {o o':Nat→Bool} (h:∀ j,isPn (l.getD j 0)=true→o j=true→o' j=true):(goT l o).length≤(goT l o').length:=by
 have ha:=resT_asc l o;have hb:=resT_asc l o';have eB:(resT l o).filter (fun j=>!(isPn (l.getD j 0) && o' j))=resT l o':=by
  unfold resT;rw [List.filter_filter];refine List.filter_congr fun j _=>?_
  cases c1:isPn (l.getD j 0) with
  | false=>rfl
  | true=>
   cases c2:o j with
   | false=>simp
   | true=>rw [h j c1 c2];rfl
 have hk:∀ j,(!(isPn (l.getD j 0) && o' j))=false→isPn (l.getD j 0)=true:=fun j q=>by
  cases c1:isPn (l.getD j 0) with
  | true=>rfl
  | false=>rw [c1] at q;cases q
 have m:=(mono_fold hs hk (resT l o) [] [] ha.1 (.refl _)).len;rw [List.nil_append,eB,← tig_red hs hb.1] at m;have m2:=red_le (ltsL l (((resT l o).foldl (outS l) []).filter fun j=>!(isPn (l.getD j 0) && o' j))) [];rw [lts_len,List.length_nil,Nat.zero_add] at m2;have c1:=go_cnt hs o;have c2:=go_cnt hs o';have n1:=cnt_not (fun j=>!(isPn (l.getD j 0) && o' j)) (resT l o);have n2:=cnt_not (fun j=>!(isPn (l.getD j 0) && o' j)) ((resT l o).foldl (outS l) [])
 have e2:((resT l o).foldl (outS l) []).filter (fun z=>!!(isPn (l.getD z 0) && o' z))=(resT l o).filter (fun z=>!!(isPn (l.getD z 0) && o' z)):=asc_ext ((tig_asc (l:=l) ha).1.sub _).1 (ha.sub _).1 fun z=>by
  rw [List.mem_filter,List.mem_filter];obtain ⟨f1,f2⟩:=fold_mem (l:=l) hs (z:=z) (resT l o) [] ha.1;refine ⟨fun q=>⟨f1 q.1,q.2⟩,fun q=>⟨f2 (hk z ?_) q.1,q.2⟩⟩;have:=q.2;simpa using this
 rw [eB] at n1;rw [e2] at n2;have e3:tigL l (resT l o)=(resT l o).foldl (outS l) []:=rfl;rw [e3] at c1;omega
end Go.Proofs.Ytfffbioafhppiaa.Ev
namespace Go.Proofs.Ytfffbioafhppiaa.Ev
variable {l:List Int}

theorem go_mono (hs:∀ j,-1000≤l.getD j 0) {o:Nat→Bool} (h:goT l (fun _=>true)=[]):goT l o=[]:=by
 have:=go_le hs (o:=o) (o':=fun _=>true) fun _ _ _=>rfl;rw [h] at this;exact List.eq_nil_of_length_eq_zero (Nat.le_zero.1 this)

noncomputable def keyF (l:List Int) (k:Nat):Bool:=isPn (l.getD k 0) && decide (0 < (goT l fun j=>((j:Int) == (k:Int))).length)
noncomputable def keyI (l:List Int) (i:Nat):List Nat:=(List.range i).filter (keyF l)
theorem keyI_succ (l:List Int) (i:Nat):keyI l (i+1)=keyI l i ++ (if keyF l i then [i] else []):=by
 unfold keyI;rw [List.range_succ,filter_snoc]
theorem keyI_len (l:List Int) (i:Nat):(keyI l i).length≤i:=by
 have:=List.length_filter_le (keyF l) (List.range i);rw [List.length_range] at this;exact this
theorem keyI_none (hs:∀ j,-1000≤l.getD j 0) (h:goT l (fun _=>true)=[]) (i:Nat):keyI l i=[]:=List.filter_eq_nil_iff.2 fun k _=>by
 unfold keyF;rw [go_mono hs h];simp
theorem res_one {k:Nat} (hk:isPn (l.getD k 0)=true):(tigT l).filter (fun (y:Nat)=>!decide ((y:Int) ∈ [(k:Int)]))=resT l fun j=>((j:Int) == (k:Int)):=by
 unfold resT;refine List.filter_congr fun y hy=>?_;congr 1
 by_cases c:y=k
 ·subst c;rw [hk];simp
 ·have:¬ (y:Int)=k:=by omega
  simp [this]

theorem keyI_pin (l:List Int) (i:Nat):keyI l i=(RPns.pinI l i).filter fun (k:Nat)=>decide (0 < (goT l fun j=>((j:Int) == (k:Int))).length):=by
 unfold keyI RPns.pinI keyF;rw [List.filter_filter];exact List.filter_congr fun k _=>Bool.and_comm _ _
end Go.Proofs.Ytfffbioafhppiaa.Ev
namespace Go.Proofs.Ytfffbioafhppiaa.Ev
open Go.Proofs
theorem rtgn_ok {l d:List Int} (h:TgnOk l d):EndZ 132 ctRt false (st0 132 [il l,il d]) (il (ofNs (tigL l (toN d)))) [] 0:=by
 obtain ⟨⟨idx,rfl,h1⟩,h2,h3⟩:=h;rw [toN_ofNs];have:=asc_len h1;exact RTgn.ends h1 (by omega) h2
noncomputable def spTgn:ZCT:=fun ax=>match ax with
 | [.lst (.ints .i64 l),.lst (.ints .i64 d)]=>some ⟨decide (TgnOk l d),il (ofNs (tigL l (toN d))),[],0⟩
 | _=>none
theorem spTgn_ok:ZCtOk Try.prog 132 spTgn:=fun γ w us ax r hs hc hax hN hfz=>by
 unfold spTgn at hs;split at hs
 case h_2=>cases hs
 rename_i l d;obtain ⟨rfl⟩:=Option.some.inj hs;have hc_0:decide (TgnOk l d)=true:=hc;have hc:=of_decide_eq_true hc_0;exact EndZ.calls (rtgn_ok hc) ctRt_ok (by kernel_rfl) hax hN hfz
noncomputable def spWou:ZCT:=fun ax=>match ax with
 | [.lst (.ints .i64 l),.lst (.ints .i64 d)]=>some ⟨decide (l.length≤3000∧d.length≤5000),il (RWou.wouI l d),[],0⟩
 | _=>none
theorem spWou_ok:ZCtOk Try.prog 131 spWou:=fun γ w us ax r hs hc hax hN hfz=>by
 unfold spWou at hs;split at hs
 case h_2=>cases hs
 rename_i l d;obtain ⟨rfl⟩:=Option.some.inj hs;have hc_0:decide (l.length≤3000∧d.length≤5000)=true:=hc;have hc:=of_decide_eq_true hc_0;exact EndZ.calls (RWou.ends hc.1 hc.2) ctRt_ok (by kernel_rfl) hax hN hfz
noncomputable def ctRe:Tr ZCC:=((ctRt.put 132 (some (dC spTgn))).put 131 (some (dC spWou)))
theorem ctRe_ok:ZCtsOk Try.prog ctRe:=(ctRt_ok.add rfl spTgn_ok).add rfl spWou_ok
namespace RFre
noncomputable def RUN (s:ES):ZF:=RZ 88 ctRe (fun _=>false) [] [] false s
theorem in_t (t:Int) (l p:List Int):RUN (st0 88 [hE t l,il p])=(bc (bc (bc (decide (List.length l≤(3000:Nat))) (bc (decide (TgnOk l (ofNs (List.range (List.length l))))) (bc (decide (List.length (ofNs (tigL l (toN (ofNs (List.range (List.length l))))))≤(3000:Nat)∧List.length p≤(5000:Nat))) true false) false) false) (bc (bc (bc (eqSy (SyC.ints IntKind.i64 l) (SyC.ints IntKind.i64 l)) true false) true false) true false) false) (bc (decide (TgnOk l (RWou.wouI (ofNs (tigL l (toN (ofNs (List.range (List.length l)))))) p))) (bc (decide (List.length (RWou.wouI (ofNs (tigL l (toN (ofNs (List.range (List.length l)))))) p)≤(3000:Nat)∧List.length (ofNs (tigL l (toN (RWou.wouI (ofNs (tigL l (toN (ofNs (List.range (List.length l)))))) p))))≤(5000:Nat))) (.done (EV.lst (SyC.ints IntKind.i64 (RWou.wouI (RWou.wouI (ofNs (tigL l (toN (ofNs (List.range (List.length l)))))) p) (ofNs (tigL l (toN (RWou.wouI (ofNs (tigL l (toN (ofNs (List.range (List.length l)))))) p))))))) [] 0) .bad) .bad) .bad):=by kernel_rfl
theorem ends {t:Int} {l p:List Int} (h:FrcOk l p):EndZ 88 ctRe false (st0 88 [hE t l,il p]) (il (ofNs (refF l p))) [] 0:=by
 have h1:=in_t t l p;obtain ⟨q1,q2,q3,q4,q5⟩:=frc_ok h;have e:RWou.wouI (RWou.wouI (ofNs (tigT l)) p) (ofNs (tigL l ((tigT l).filter fun (y:Nat)=>!decide ((y:Int) ∈ p))))=ofNs (refF l p):=by
  rw [wou_ofNs,wou_ofNs];rfl
 rw [toN_ofNs,show tigL l (List.range l.length)=tigT l from rfl,dt h.1,dt q1,dt (show (ofNs (tigT l)).length≤3000∧p.length≤5000 from ⟨q2,h.2.1⟩)] at h1
 rw [wou_ofNs,toN_ofNs,dt q3,dt (show (ofNs ((tigT l).filter fun (y:Nat)=>!decide ((y:Int) ∈ p))).length≤3000∧(ofNs (tigL l ((tigT l).filter fun (y:Nat)=>!decide ((y:Int) ∈ p)))).length≤5000 from ⟨q4,by omega⟩),← wou_ofNs (tigT l) p,e] at h1
 simp (disch:=omega) only [Nat.add_eq,eqSy_self,eqN_self,bc_same,List.length_cons,ofn,wrap_in,dt,df,bltD,bltN,ble_of,bleN,beqD,bc_t,bc_f,nn_ok,Nat.zero_add,to_nat,Int.zero_add,Int.sub_zero,Int.sub_self,Int.cast_ofNat_Int,Int.natCast_zero,Int.toNat_zero,List.take_zero,List.nil_append,List.length_append,List.length_nil] at h1;exact .done h1
end RFre
noncomputable def spRFre:ZCT:=fun ax=>match ax with
 | [.agg [.v (.int .i64 t),.lst (.ints .i64 l)],.lst (.ints .i64 p)]=>some ⟨decide (FrcOk l p),il (ofNs (refF l p)),[],0⟩
 | _=>none
theorem spRFre_ok:ZCtOk Try.prog 88 spRFre:=fun γ w us ax r hs hc hax hN hfz=>by
 unfold spRFre at hs;split at hs
 case h_2=>cases hs
 rename_i t l p;obtain ⟨rfl⟩:=Option.some.inj hs;have hc_0:decide (FrcOk l p)=true:=hc;have hc:=of_decide_eq_true hc_0;exact EndZ.calls (RFre.ends hc) ctRe_ok (by kernel_rfl) hax hN hfz
noncomputable def ctRf:Tr ZCC:=ctRe.put 88 (some (dC spRFre))
theorem ctRf_ok:ZCtsOk Try.prog ctRf:=ctRe_ok.add rfl spRFre_ok
namespace RFrd
noncomputable def RUN (s:ES):ZF:=RZ 92 ctRf (fun _=>false) [] [] false s
theorem in_t (t:Int) (l:List Int):RUN (st0 92 [hE t l])=(bc (chkL t l != (0:Int)) (.done (EV.tup [(EV.v (Value.slice Option.none 0 0)),(EV.v (Value.int IntKind.i64 (chkL t l)))]) [] 0) (bc (bc (bc (decide (List.length l≤(3000:Nat))) (bc (decide (FrcOk l (ofNs (RPns.pinI l (List.length l))))) true false) false) (bc (bc (bc (bc (decide (t=t)) (bc (eqSy (SyC.ints IntKind.i64 l) (SyC.ints IntKind.i64 l)) true false) false) true false) true false) true false) false) (.done (EV.tup [(EV.lst (SyC.ints IntKind.i64 (ofNs (refF l (ofNs (RPns.pinI l (List.length l))))))),(EV.v (Value.int IntKind.i64 (0)))]) [] 0) .bad)):=by kernel_rfl
theorem ends {t:Int} {l:List Int}:EndZ 92 ctRf false (st0 92 [hE t l]) (rsL (chkL t l) (ofNs (goT l fun _=>true))) [] 0:=by
 have h:=in_t t l
 by_cases z:chkL t l=0
 ·obtain ⟨h1,_⟩:=chkL_frc z;unfold rsL;rw [z,show ((0:Int) != 0)=false from rfl,bc_f,dt h1,dt h1.1,dt (rfl:t=t),refF_go (res_all l)] at h
  rw [z,show ((0:Int) != 0)=false from rfl,bc_f]
  simp (disch:=omega) only [Nat.add_eq,eqSy_self,eqN_self,bc_same,List.length_cons,ofn,wrap_in,dt,df,bltD,bltN,ble_of,bleN,beqD,bc_t,bc_f,nn_ok,Nat.zero_add,to_nat,Int.zero_add,Int.sub_zero,Int.sub_self,Int.cast_ofNat_Int,Int.natCast_zero,Int.toNat_zero,List.take_zero,List.nil_append,List.length_append,List.length_nil] at h;exact .done h
 ·rw [show (chkL t l != 0)=true by simp [z],bc_t] at h;exact (EndZ.done h).weak (rsL_err _ z)
end RFrd
noncomputable def spRFd:ZCT:=fun ax=>match ax with
 | [.agg [.v (.int .i64 t),.lst (.ints .i64 l)]]=>some ⟨decide (True),rsL (chkL t l) (ofNs (goT l fun _=>true)),[],0⟩
 | _=>none
theorem spRFd_ok:ZCtOk Try.prog 92 spRFd:=fun γ w us ax r hs hc hax hN hfz=>by
 unfold spRFd at hs;split at hs
 case h_2=>cases hs
 rename_i t l;obtain ⟨rfl⟩:=Option.some.inj hs;have hc_0:decide (True)=true:=hc;have hc:=of_decide_eq_true hc_0;exact EndZ.calls (RFrd.ends) ctRf_ok (by kernel_rfl) hax hN hfz
end Go.Proofs.Ytfffbioafhppiaa.Ev
namespace Go.Proofs.Ytfffbioafhppiaa.Ev
open Go.Proofs
theorem oneK (x:Int):List.map (fun r=>U.int (List.headD r (U.i (0:Int)))) [[U.i x]]=[x]:=rfl

noncomputable def accB (t:Int) (l:List Int):Bool:=bc (chkL t l == 0) (Int.ofNat (goT l fun _=>true).length == 0) false
noncomputable abbrev shAc (t:Int) (l:List Int):EV:=.tup [bv (accB t l),iv (chkL t l)]
namespace PKys
noncomputable def RUN (s:ES):ZF:=RZ 39 ctLo (atS 0 39 9) [] [[(1,none),(5,none),(6,some (1,3,.ints .i64 [])),(20,none),(21,none),(22,none)]] false s

noncomputable def sL (t:Int) (l:List Int) (b:List Bool) (m:Nat) (g:List Int) (nn:Bool) (i:Int):NS:=⟨[⟨39,42,[(1,(EV.ptr 0 0)),(5,EV.slO 1 1 m true),(6,EV.slO 2 1 g.length nn),(20,(EV.lst (SyC.ints IntKind.i64 (l)))),(21,(EV.v (Value.int IntKind.i64 (Int.ofNat (List.length l))))),(22,iv i)],[.it (.code (nav [1,1,1,1,1,0,1,0,0] (bodyOf Try.f39))),.it (.inLoop (nav [1,1,1,1,1,0,1,0,0] (bodyOf Try.f39))),.it (.inBlock 0),.it (.code (nav [1,1,1,1,1,1] (bodyOf Try.f39)))],[],Option.none⟩],[(0,(EK.cells 24 [(EV.v (Value.int IntKind.i64 (t))),(EV.lst (SyC.ints IntKind.i64 (l)))] true)),(1,EK.seq 4 (.bools b) true),(2,EK.seq 3 (.ints .i64 g) nn)],3⟩
theorem in_t (t:Int) (l:List Int):RUN (st0 39 [hE t l])=(bc (bc (decide (In64 l)) true false) (bc (chkL t l != (0:Int)) (.done (EV.tup [(EV.v (Value.slice Option.none 0 0)),(EV.v (Value.int IntKind.i64 (chkL t l)))]) [] 0) (bc (bc (decide (TigOk l l (0:Nat) (0:Nat))) true false) (bc (bc (bc (Nat.beq (List.length l) (List.length (tgA l))) (decide (FrOk l (tgA l))) false) true false) (bc (Int.ofNat (List.length (gF l (tgA l) PFrA.O)) == (0:Int)) (.done (EV.tup [(EV.v (Value.slice Option.none 0 0)),(EV.v (Value.int IntKind.i64 (0)))]) [] 0) (.at (sL (t) (l) (tgA l) (List.length l) ([]) (false) ((0:Int))))) .bad) .bad)) .bad):=by kernel_rfl
theorem l_t (t:Int) (l:List Int) (b:List Bool) (m:Nat) (g:List Int) (nn:Bool) (i:Int):RUN (stOf (sL t l b m g nn i))=(bc (decide (i < Int.ofNat (List.length l))) (bc (bc (bc (decide ((0:Int)≤i)) (Nat.blt (Int.toNat i) (List.length l)) false) true false) (bc (bc (Nat.blt (Int.toNat i) (List.length l)) true false) (bc (decide ((1000:Int) < List.getD l (Int.toNat i) (0:Int))) (bc (bc (bc (Nat.beq m (List.length b)) (decide (FrOk l b)) false) true false) (bc (decide ((0:Int) < Int.ofNat (List.length (gF l b (PFrC.O i))))) (bc (bc (Nat.beq (List.length g) (List.length g)) (bc (Nat.ble (List.length g+List.length (List.map (fun r=>U.int (List.headD r (U.i (0:Int)))) [[U.i i]])) (65536:Nat)) (bc nn true (bc nn false true)) false) false) (.at (sL (t) (l) (b) (m) (g ++ List.map (fun r=>U.int (List.headD r (U.i (0:Int)))) [[U.i i]]) (bc nn true (Nat.blt (0:Nat) (List.length (List.map (fun r=>U.int (List.headD r (U.i (0:Int)))) [[U.i i]])))) (IntKind.wrap IntKind.i64 (i+(1:Int))))) .bad) (.at (sL (t) (l) (b) (m) (g) (nn) (IntKind.wrap IntKind.i64 (i+(1:Int)))))) .bad) (.at (sL (t) (l) (b) (m) (g) (nn) (IntKind.wrap IntKind.i64 (i+(1:Int)))))) .bad) .bad) (bc (bc (Nat.beq (List.length g) (List.length g)) true false) (.done (EV.tup [(EV.lst (SyC.ints IntKind.i64 (g))),(EV.v (Value.int IntKind.i64 (0)))]) [] 0) .bad)):=by kernel_rfl
theorem loop {t:Int} {l:List Int} (z:chkL t l=0):∀ (k i:Nat) (nn:Bool),i+k=l.length→EndZ 39 ctLo false (stOf (sL t l (tgA l) l.length (ofNs (keyI l i)) nn i)) (rsL 0 (ofNs (keyI l l.length))) [] 0
 | 0,i,nn,h=>by
  obtain rfl:i=l.length:=by omega
  have h1:=l_t t l (tgA l) l.length (ofNs (keyI l l.length)) nn l.length;rw [df (show ¬ (l.length:Int) < Int.ofNat l.length by rw [ofn];omega),bc_f] at h1;simp (disch:=omega) only [Nat.add_eq,eqSy_self,eqN_self,bc_same,List.length_cons,ofn,wrap_in,dt,df,bltD,bltN,ble_of,bleN,beqD,bc_t,bc_f,nn_ok,Nat.zero_add,to_nat,Int.zero_add,Int.sub_zero,Int.sub_self,Int.cast_ofNat_Int,Int.natCast_zero,Int.toNat_zero,List.take_zero,List.nil_append,List.length_append,List.length_nil] at h1;exact .done h1
 | k+1,i,nn,h=>by
  have h1:=l_t t l (tgA l) l.length (ofNs (keyI l i)) nn i;obtain ⟨_,hl,_⟩:=chkL_ok z;have hf:=(chkL_tig z).2;have ht:=tgA_len l;have e0:Int.toNat (i:Int)=i:=rfl;have lg:(ofNs (keyI l i)).length≤i:=by rw [ofNs_len];exact keyI_len l i
  have w:bc nn true (Nat.blt 0 (List.length [(i:Int)]))=true:=by cases nn <;> rfl
  have w2:bc nn true (bc nn false true)=true:=by cases nn <;> rfl
  have e:=congrArg ofNs (keyI_succ l i);rw [ofNs_app] at e;have eO:PFrC.O (i:Int)=fun j:Nat=>((j:Int) == (i:Int)):=rfl;have hgo:=gF_goT l (PFrC.O (i:Int));rw [oneK,w,w2,e0,hgo,eO,ofNs_len,dt hf,ht,ofn] at h1
  by_cases c:1000 < l.getD i 0
  ·by_cases c2:0 < (goT l fun j:Nat=>((j:Int) == (i:Int))).length
   ·have hk:keyF l i=true:=by
     unfold keyF;rw [show isPn (l.getD i 0)=true from decide_eq_true c,decide_eq_true c2];rfl
    rw [hk,if_pos rfl,show ofNs [i]=[(i:Int)] from rfl] at e
    rw [← e,dt c,dt (show (0:Int) < Int.ofNat (goT l fun j:Nat=>((j:Int) == (i:Int))).length by rw [ofn];omega)] at h1;simp (disch:=omega) only [Nat.add_eq,eqSy_self,eqN_self,bc_same,List.length_cons,ofn,wrap_in,dt,df,bltD,bltN,ble_of,bleN,beqD,bc_t,bc_f,nn_ok,Nat.zero_add,to_nat,Int.zero_add,Int.sub_zero,Int.sub_self,Int.cast_ofNat_Int,Int.natCast_zero,Int.toNat_zero,List.take_zero,List.nil_append,List.length_append,List.length_nil] at h1;exact .at ctLo_ok h1 (loop z k (i+1) true (by omega))
   ·have hk:keyF l i=false:=by
     unfold keyF;rw [decide_eq_false c2,Bool.and_false]
    rw [hk,if_neg (by simp),show ofNs []=([]:List Int) from rfl,List.append_nil] at e
    rw [dt c,df (show ¬ (0:Int) < Int.ofNat (goT l fun j:Nat=>((j:Int) == (i:Int))).length by rw [ofn];omega),← e] at h1;simp (disch:=omega) only [Nat.add_eq,eqSy_self,eqN_self,bc_same,List.length_cons,ofn,wrap_in,dt,df,bltD,bltN,ble_of,bleN,beqD,bc_t,bc_f,nn_ok,Nat.zero_add,to_nat,Int.zero_add,Int.sub_zero,Int.sub_self,Int.cast_ofNat_Int,Int.natCast_zero,Int.toNat_zero,List.take_zero,List.nil_append,List.length_append,List.length_nil] at h1;rw [← e];exact .at ctLo_ok h1 (loop z k (i+1) nn (by omega))
  ·have hk:keyF l i=false:=by
    unfold keyF;rw [show isPn (l.getD i 0)=false from decide_eq_false c];rfl
   rw [hk,if_neg (by simp),show ofNs []=([]:List Int) from rfl,List.append_nil] at e
   rw [df c,← e] at h1;simp (disch:=omega) only [Nat.add_eq,eqSy_self,eqN_self,bc_same,List.length_cons,ofn,wrap_in,dt,df,bltD,bltN,ble_of,bleN,beqD,bc_t,bc_f,nn_ok,Nat.zero_add,to_nat,Int.zero_add,Int.sub_zero,Int.sub_self,Int.cast_ofNat_Int,Int.natCast_zero,Int.toNat_zero,List.take_zero,List.nil_append,List.length_append,List.length_nil] at h1;rw [← e];exact .at ctLo_ok h1 (loop z k (i+1) nn (by omega))
theorem let_hs {l:List Int} (h:∀ x,x ∈ l→LetOk x):∀ j,-1000≤l.getD j 0:=fun j=>by
 by_cases hj:j < l.length
 ·have:=h (l.getD j 0) (by rw [getD_at hj];exact List.getElem_mem hj);unfold LetOk at this;omega
 ·rw [List.getD_eq_getElem?_getD,List.getElem?_eq_none (by omega)];decide
theorem ends {t:Int} {l:List Int} (hx:In64 l):EndZ 39 ctLo false (st0 39 [hE t l]) (rsL (chkL t l) (ofNs (keyI l l.length))) [] 0:=by
 have h:=in_t t l;rw [dt hx,bc_t,bc_t] at h
 by_cases z:chkL t l=0
 ·obtain ⟨h1,h2⟩:=chkL_tig z;have h3:=tgA_len l;have h4:=gF_goT l PFrA.O;have eO:PFrA.O=fun _:Nat=>true:=rfl;rw [z,show ((0:Int) != 0)=false from rfl,bc_f,dt h1,h3,dt h2,h4,eO,ofNs_len] at h
  rw [z]
  by_cases c:goT l (fun _=>true)=[]
  ·have hk:=keyI_none (let_hs (chkL_ok z).2.2) c l.length;rw [c] at h;rw [hk];simp (disch:=omega) only [Nat.add_eq,eqSy_self,eqN_self,bc_same,List.length_cons,ofn,wrap_in,dt,df,bltD,bltN,ble_of,bleN,beqD,bc_t,bc_f,nn_ok,Nat.zero_add,to_nat,Int.zero_add,Int.sub_zero,Int.sub_self,Int.cast_ofNat_Int,Int.natCast_zero,Int.toNat_zero,List.take_zero,List.nil_append,List.length_append,List.length_nil] at h;exact (EndZ.done h).weak (.tup (  .cons (Weak.nilI _) (.cons (.refl _) .nil)))
  ·have hc:¬ ((goT l fun _=>true).length=0):=fun q=>c (List.eq_nil_of_length_eq_zero q);rw [show (Int.ofNat (goT l fun _=>true).length == (0:Int))=false by rw [ofn];simp only [beq_eq_false_iff_ne,ne_eq];omega] at h;simp (disch:=omega) only [Nat.add_eq,eqSy_self,eqN_self,bc_same,List.length_cons,ofn,wrap_in,dt,df,bltD,bltN,ble_of,bleN,beqD,bc_t,bc_f,nn_ok,Nat.zero_add,to_nat,Int.zero_add,Int.sub_zero,Int.sub_self,Int.cast_ofNat_Int,Int.natCast_zero,Int.toNat_zero,List.take_zero,List.nil_append,List.length_append,List.length_nil] at h
   exact .at ctLo_ok h (loop z l.length 0 false (by omega))
 ·rw [show (chkL t l != 0)=true by simp [z],bc_t] at h;exact (EndZ.done h).weak (rsL_err _ z)
end PKys
noncomputable def spPKy:ZCT:=fun ax=>match ax with
 | [.agg [.v (.int .i64 t),.lst (.ints .i64 l)]]=>some ⟨decide (In64 l),rsL (chkL t l) (ofNs (keyI l l.length)),[],0⟩
 | _=>none
theorem spPKy_ok:ZCtOk Try.prog 39 spPKy:=fun γ w us ax r hs hc hax hN hfz=>by
 unfold spPKy at hs;split at hs
 case h_2=>cases hs
 rename_i t l;obtain ⟨rfl⟩:=Option.some.inj hs;have hc_0:decide (In64 l)=true:=hc;have hc:=of_decide_eq_true hc_0;exact EndZ.calls (PKys.ends hc) ctLo_ok (by kernel_rfl) hax hN hfz
noncomputable def ctLa:Tr ZCC:=ctLo.put 18 (some (dC spPFd))
theorem ctLa_ok:ZCtsOk Try.prog ctLa:=ctLo_ok.add rfl spPFd_ok
namespace PAcc
noncomputable def RUN (s:ES):ZF:=RZ 19 ctLa (fun _=>false) [] [] false s
theorem in_t (t:Int) (l:List Int):RUN (st0 19 [hE t l])=(bc (decide (In64 l)) (bc (chkL t l == (0:Int)) (.done (EV.tup [(EV.v (Value.bool (Int.ofNat (List.length (bc (chkL t l != (0:Int)) [] (gF l (tgA l) fun x=>true))) == (0:Int)))),(EV.v (Value.int IntKind.i64 (chkL t l)))]) [] 0) (.done (EV.tup [(EV.v (Value.bool false)),(EV.v (Value.int IntKind.i64 (chkL t l)))]) [] 0)) .bad):=by kernel_rfl
theorem ends {t:Int} {l:List Int} (hx:In64 l):EndZ 19 ctLa false (st0 19 [hE t l]) (shAc t l) [] 0:=by
 have h:=in_t t l;unfold shAc accB;rw [dt hx,bc_t,gF_goT] at h
 by_cases z:chkL t l=0
 ·rw [z] at h ⊢;rw [show ((0:Int) == 0)=true from rfl,show ((0:Int) != 0)=false from rfl,bc_t,bc_f,ofNs_len] at h
  exact .done h
 ·rw [show (chkL t l == 0)=false by simp [z],bc_f] at h ⊢;exact .done h
end PAcc
noncomputable def spPAc:ZCT:=fun ax=>match ax with
 | [.agg [.v (.int .i64 t),.lst (.ints .i64 l)]]=>some ⟨decide (In64 l),shAc t l,[],0⟩
 | _=>none
theorem spPAc_ok:ZCtOk Try.prog 19 spPAc:=fun γ w us ax r hs hc hax hN hfz=>by
 unfold spPAc at hs;split at hs
 case h_2=>cases hs
 rename_i t l;obtain ⟨rfl⟩:=Option.some.inj hs;have hc_0:decide (In64 l)=true:=hc;have hc:=of_decide_eq_true hc_0;exact EndZ.calls (PAcc.ends hc) ctLa_ok (by kernel_rfl) hax hN hfz
namespace RKys
noncomputable def RUN (s:ES):ZF:=RZ 40 ctRf (atS 0 40 7) [] [[(1,none),(5,none),(6,some (1,3,.ints .i64 [])),(7,none)]] false s

noncomputable def sL (t:Int) (l p g:List Int) (nn:Bool) (i:Int):NS:=⟨[⟨40,38,[(1,(EV.ptr 0 0)),(5,il p),(6,EV.slO 1 1 g.length nn),(7,iv i)],[.it (.code (nav [1,1,1,1,1,0,1,0,0,0] (bodyOf Try.f40))),.it (.code (nav [1,1,1,1,1,0,1,0,0,1] (bodyOf Try.f40))),.it (.inLoop (nav [1,1,1,1,1,0,1,0,0] (bodyOf Try.f40))),.it (.inBlock 0),.it (.code (nav [1,1,1,1,1,1] (bodyOf Try.f40)))],[],Option.none⟩],[(0,(EK.cells 24 [(EV.v (Value.int IntKind.i64 (t))),(EV.lst (SyC.ints IntKind.i64 (l)))] true)),(1,EK.seq 3 (.ints .i64 g) nn)],2⟩
theorem in_t (t:Int) (l:List Int):RUN (st0 40 [hE t l])=(bc (chkL t l != (0:Int)) (.done (EV.tup [(EV.v (Value.slice Option.none 0 0)),(EV.v (Value.int IntKind.i64 (chkL t l)))]) [] 0) (bc (decide (List.length l≤(3000:Nat))) (.at (sL (t) (l) (ofNs (RPns.pinI l (List.length l))) ([]) (false) ((0:Int)))) .bad)):=by kernel_rfl
theorem l_t (t:Int) (l p g:List Int) (nn:Bool) (i:Int):RUN (stOf (sL t l p g nn i))=(bc (decide (i < Int.ofNat (List.length p))) (bc (bc (bc (bc (bc (decide ((0:Int)≤i)) (bc (decide (i≤IntKind.wrap IntKind.i64 (i+(1:Int)))) (decide (IntKind.wrap IntKind.i64 (i+(1:Int))≤Int.ofNat (List.length p))) false) false) true false) (bc (decide (FrcOk l (List.drop (Int.toNat i) (List.take (Int.toNat (IntKind.wrap IntKind.i64 (i+(1:Int)))) p)))) true false) false) true false) (bc (decide ((0:Int) < Int.ofNat (List.length (ofNs (refF l (List.drop (Int.toNat i) (List.take (Int.toNat (IntKind.wrap IntKind.i64 (i+(1:Int)))) p))))))) (bc (bc (bc (decide ((0:Int)≤i)) (Nat.blt (Int.toNat i) (List.length p)) false) true false) (bc (bc (Nat.blt (Int.toNat i) (List.length p)) true false) (bc (bc (Nat.beq (List.length g) (List.length g)) (bc (Nat.ble (List.length g+List.length (List.map (fun r=>U.int (List.headD r (U.i (0:Int)))) [[U.i (List.getD p (Int.toNat i) (0:Int))]])) (65536:Nat)) (bc nn true (bc nn false true)) false) false) (.at (sL (t) (l) (p) (g ++ List.map (fun r=>U.int (List.headD r (U.i (0:Int)))) [[U.i (List.getD p (Int.toNat i) (0:Int))]]) (bc nn true (Nat.blt (0:Nat) (List.length (List.map (fun r=>U.int (List.headD r (U.i (0:Int)))) [[U.i (List.getD p (Int.toNat i) (0:Int))]])))) (IntKind.wrap IntKind.i64 (i+(1:Int))))) .bad) .bad) .bad) (.at (sL (t) (l) (p) (g) (nn) (IntKind.wrap IntKind.i64 (i+(1:Int)))))) .bad) (bc (bc (Nat.beq (List.length g) (List.length g)) true false) (.done (EV.tup [(EV.lst (SyC.ints IntKind.i64 (g))),(EV.v (Value.int IntKind.i64 (0)))]) [] 0) .bad)):=by kernel_rfl
noncomputable def kf (l:List Int) (k:Nat):Bool:=decide (0 < (goT l fun j:Nat=>((j:Int) == (k:Int))).length)
theorem cut_one {p:List Int} {i:Nat} (h:i < p.length):List.drop i (List.take (i+1) p)=[p.getD i 0]:=by
 rw [List.take_succ_eq_append_getElem h,List.drop_append_of_le_length (by rw [List.length_take];omega),List.drop_eq_nil_of_le (by rw [List.length_take];omega),getD_at h];rfl
theorem loop {t:Int} {l:List Int} (z:chkL t l=0):∀ (k i:Nat) (nn:Bool),i+k=(RPns.pinI l l.length).length→EndZ 40 ctRf false (stOf (sL t l (ofNs (RPns.pinI l l.length)) (ofNs (((RPns.pinI l l.length).take i).filter (kf l))) nn i)) (rsL 0 (ofNs (keyI l l.length))) [] 0
 | 0,i,nn,h=>by
  obtain rfl:i=(RPns.pinI l l.length).length:=by omega
  have e:((RPns.pinI l l.length).take (RPns.pinI l l.length).length).filter (kf l)=keyI l l.length:=by
   rw [List.take_length,keyI_pin];rfl
  rw [e];have h1:=l_t t l (ofNs (RPns.pinI l l.length)) (ofNs (keyI l l.length)) nn (RPns.pinI l l.length).length;rw [ofNs_len,df (show ¬ ((RPns.pinI l l.length).length:Int) < Int.ofNat (RPns.pinI l l.length).length by rw [ofn];omega),bc_f] at h1
  simp (disch:=omega) only [Nat.add_eq,eqSy_self,eqN_self,bc_same,List.length_cons,ofn,wrap_in,dt,df,bltD,bltN,ble_of,bleN,beqD,bc_t,bc_f,nn_ok,Nat.zero_add,to_nat,Int.zero_add,Int.sub_zero,Int.sub_self,Int.cast_ofNat_Int,Int.natCast_zero,Int.toNat_zero,List.take_zero,List.nil_append,List.length_append,List.length_nil] at h1;exact .done h1
 | k+1,i,nn,h=>by
  have hi:i < (RPns.pinI l l.length).length:=by omega
  have hpl:=RPns.pinI_len l l.length;have h1:=l_t t l (ofNs (RPns.pinI l l.length)) (ofNs (((RPns.pinI l l.length).take i).filter (kf l))) nn i;obtain ⟨_,hl,_⟩:=chkL_ok z;have e0:Int.toNat (i:Int)=i:=rfl;have w4:IntKind.wrap IntKind.i64 ((i:Int)+1)=((i+1:Nat):Int):=by rw [wrap_in _ (by omega) (by omega)];omega
  have e1:Int.toNat ((i+1:Nat):Int)=i+1:=rfl;have lg:(ofNs (((RPns.pinI l l.length).take i).filter (kf l))).length≤i:=by
   rw [ofNs_len];have h1:=List.length_filter_le (kf l) ((RPns.pinI l l.length).take i);have h2:=List.length_take_le i (RPns.pinI l l.length);omega
  have hg:(ofNs (RPns.pinI l l.length)).getD i 0=(((RPns.pinI l l.length)[i]:Nat):Int):=by
   rw [ofNs_get hi,getD_at hi]
  have hpin:isPn (l.getD (RPns.pinI l l.length)[i] 0)=true:=(List.mem_filter.1 (List.getElem_mem hi)).2;have href:refF l [(((RPns.pinI l l.length)[i]:Nat):Int)]=goT l fun j:Nat=>((j:Int) == (((RPns.pinI l l.length)[i]:Nat):Int)):=refF_go (res_one hpin);have hfr:=(chkL_frc z).2 [(((RPns.pinI l l.length)[i]:Nat):Int)] (by simp);have w:bc nn true (Nat.blt 0 (List.length [(((RPns.pinI l l.length)[i]:Nat):Int)]))=true:=by cases nn <;> rfl
  have w2:bc nn true (bc nn false true)=true:=by cases nn <;> rfl
  have hi2:i < (ofNs (RPns.pinI l l.length)).length:=by rw [ofNs_len];exact hi
  have et:((RPns.pinI l l.length).take (i+1)).filter (kf l)=((RPns.pinI l l.length).take i).filter (kf l) ++ (if kf l (RPns.pinI l l.length)[i] then [(RPns.pinI l l.length)[i]] else []):=by
   rw [List.take_succ_eq_append_getElem hi,filter_snoc]
  have e:=congrArg ofNs et;rw [ofNs_app] at e;rw [oneK,w4,e0,e1,cut_one hi2,hg,w,w2,dt hfr,href] at h1;simp only [ofNs_len] at h1 lg
  cases c:kf l (RPns.pinI l l.length)[i] with
  | true=>
   rw [c,if_pos rfl,show ofNs [(RPns.pinI l l.length)[i]]=[(((RPns.pinI l l.length)[i]:Nat):Int)] from rfl] at e
   have c2:0 < (goT l fun j:Nat=>((j:Int) == (((RPns.pinI l l.length)[i]:Nat):Int))).length:=of_decide_eq_true c;rw [← e,dt (show (0:Int) < Int.ofNat (goT l fun j:Nat=>((j:Int) == (((RPns.pinI l l.length)[i]:Nat):Int))).length by rw [ofn];omega)] at h1
   simp (disch:=omega) only [Nat.add_eq,eqSy_self,eqN_self,bc_same,List.length_cons,ofn,wrap_in,dt,df,bltD,bltN,ble_of,bleN,beqD,bc_t,bc_f,nn_ok,Nat.zero_add,to_nat,Int.zero_add,Int.sub_zero,Int.sub_self,Int.cast_ofNat_Int,Int.natCast_zero,Int.toNat_zero,List.take_zero,List.nil_append,List.length_append,List.length_nil] at h1;exact .at ctRf_ok h1 (loop z k (i+1) true (by omega))
  | false=>
   rw [c,if_neg (by simp),show ofNs []=([]:List Int) from rfl,List.append_nil] at e
   have c2:¬ 0 < (goT l fun j:Nat=>((j:Int) == (((RPns.pinI l l.length)[i]:Nat):Int))).length:=of_decide_eq_false c;rw [← e,df (show ¬ (0:Int) < Int.ofNat (goT l fun j:Nat=>((j:Int) == (((RPns.pinI l l.length)[i]:Nat):Int))).length by rw [ofn];omega)] at h1
   simp (disch:=omega) only [Nat.add_eq,eqSy_self,eqN_self,bc_same,List.length_cons,ofn,wrap_in,dt,df,bltD,bltN,ble_of,bleN,beqD,bc_t,bc_f,nn_ok,Nat.zero_add,to_nat,Int.zero_add,Int.sub_zero,Int.sub_self,Int.cast_ofNat_Int,Int.natCast_zero,Int.toNat_zero,List.take_zero,List.nil_append,List.length_append,List.length_nil] at h1;rw [← e];exact .at ctRf_ok h1 (loop z k (i+1) nn (by omega))
theorem ends (t:Int) (l:List Int):EndZ 40 ctRf false (st0 40 [hE t l]) (rsL (chkL t l) (ofNs (keyI l l.length))) [] 0:=by
 have h:=in_t t l
 by_cases z:chkL t l=0
 ·have hl:l.length≤3000:=by have:=(chkL_ok z).2.1;omega
  rw [z,show ((0:Int) != 0)=false from rfl,bc_f,dt hl,bc_t] at h
  rw [z];exact .at ctRf_ok h (loop z (RPns.pinI l l.length).length 0 false (by omega))
 ·rw [show (chkL t l != 0)=true by simp [z],bc_t] at h;exact (EndZ.done h).weak (rsL_err _ z)
end RKys
noncomputable def spRKy:ZCT:=fun ax=>match ax with
 | [.agg [.v (.int .i64 t),.lst (.ints .i64 l)]]=>some ⟨decide (True),rsL (chkL t l) (ofNs (keyI l l.length)),[],0⟩
 | _=>none
theorem spRKy_ok:ZCtOk Try.prog 40 spRKy:=fun γ w us ax r hs hc hax hN hfz=>by
 unfold spRKy at hs;split at hs
 case h_2=>cases hs
 rename_i t l;obtain ⟨rfl⟩:=Option.some.inj hs;have hc_0:decide (True)=true:=hc;have hc:=of_decide_eq_true hc_0;exact EndZ.calls (RKys.ends t l) ctRf_ok (by kernel_rfl) hax hN hfz
noncomputable def ctRa:Tr ZCC:=ctRf.put 92 (some (dC spRFd))
theorem ctRa_ok:ZCtsOk Try.prog ctRa:=ctRf_ok.add rfl spRFd_ok
namespace RAcc
noncomputable def RUN (s:ES):ZF:=RZ 43 ctRa (fun _=>false) [] [] false s
theorem in_t (t:Int) (l:List Int):RUN (st0 43 [hE t l])=(bc (chkL t l == (0:Int)) (.done (EV.tup [(EV.v (Value.bool (Int.ofNat (List.length (bc (chkL t l != (0:Int)) [] (ofNs (goT l fun x=>true)))) == (0:Int)))),(EV.v (Value.int IntKind.i64 (chkL t l)))]) [] 0) (.done (EV.tup [(EV.v (Value.bool false)),(EV.v (Value.int IntKind.i64 (chkL t l)))]) [] 0)):=by kernel_rfl
theorem ends (t:Int) (l:List Int):EndZ 43 ctRa false (st0 43 [hE t l]) (shAc t l) [] 0:=by
 have h:=in_t t l;unfold shAc accB
 by_cases z:chkL t l=0
 ·rw [z] at h ⊢;rw [show ((0:Int) == 0)=true from rfl,show ((0:Int) != 0)=false from rfl,bc_t,bc_f,ofNs_len] at h
  exact .done h
 ·rw [show (chkL t l == 0)=false by simp [z],bc_f] at h ⊢;exact .done h
end RAcc
noncomputable def spRAc:ZCT:=fun ax=>match ax with
 | [.agg [.v (.int .i64 t),.lst (.ints .i64 l)]]=>some ⟨decide (True),shAc t l,[],0⟩
 | _=>none
theorem spRAc_ok:ZCtOk Try.prog 43 spRAc:=fun γ w us ax r hs hc hax hN hfz=>by
 unfold spRAc at hs;split at hs
 case h_2=>cases hs
 rename_i t l;obtain ⟨rfl⟩:=Option.some.inj hs;have hc_0:decide (True)=true:=hc;have hc:=of_decide_eq_true hc_0;exact EndZ.calls (RAcc.ends t l) ctRa_ok (by kernel_rfl) hax hN hfz
end Go.Proofs.Ytfffbioafhppiaa.Ev
namespace Go.Proofs.Ytfffbioafhppiaa.Ev


noncomputable def swp (p:List Int) (k:Nat):List Int:=(p.set k (p.getD (k+1) 0)).set (k+1) (p.getD k 0)
theorem swp_len (p:List Int) (k:Nat):(swp p k).length=p.length:=by unfold swp;simp
theorem getD_mem' {p:List Int} {j:Nat} (h:j < p.length):p.getD j 0 ∈ p:=by
 rw [List.getD_eq_getElem?_getD,List.getElem?_eq_getElem h];exact List.getElem_mem h
noncomputable def srt (p:List Int):List Int:=p.mergeSort (fun x y=>decide (x≤y))
theorem srt_perm (p:List Int):(srt p).Perm p:=List.mergeSort_perm p _
theorem srt_pair (p:List Int):(srt p).Pairwise (fun x y=>x≤y):=by
 have:=List.pairwise_mergeSort (le:=fun x y:Int=>decide (x≤y)) (fun a b c h1 h2=>by
  have h1:=of_decide_eq_true h1;have h2:=of_decide_eq_true h2;exact decide_eq_true (Int.le_trans h1 h2)) (fun a b=>by
  rcases Int.le_total a b with h | h
  ·simp [h]
  ·simp [h]) p
 exact this.imp fun h=>of_decide_eq_true h

end Go.Proofs.Ytfffbioafhppiaa.Ev
namespace Go.Proofs.Ytfffbioafhppiaa.Ev
variable {l:List Int} {t:Nat} {G:List Nat}
theorem asc_extI:∀ {A B:List Int},A.Pairwise (· < ·)→B.Pairwise (· < ·)→(∀ z,z ∈ A↔z ∈ B)→A=B
 | [],[],_,_,_=>rfl
 | [],y :: B,_,_,h=>absurd ((h y).2 List.mem_cons_self) List.not_mem_nil
 | x :: A,[],_,_,h=>absurd ((h x).1 List.mem_cons_self) List.not_mem_nil
 | x :: A,y :: B,ha,hb,h=>by
  obtain ⟨a1,a2⟩:=List.pairwise_cons.1 ha;obtain ⟨b1,b2⟩:=List.pairwise_cons.1 hb;have hxy:x=y:=by
   rcases List.mem_cons.1 ((h x).1 List.mem_cons_self) with e | e
   ·exact e
   ·rcases List.mem_cons.1 ((h y).2 List.mem_cons_self) with e2 | e2
    ·exact e2.symm
    ·have:=b1 x e;have:=a1 y e2;omega
  subst hxy;rw [asc_extI a2 b2 fun z=>?_];have hz:=h z;rw [List.mem_cons,List.mem_cons] at hz;constructor
  ·intro q;rcases hz.1 (.inr q) with r | r
   ·have:=a1 z q;omega
   ·exact r
  ·intro q;rcases hz.2 (.inr q) with r | r
   ·have:=b1 z q;omega
   ·exact r

noncomputable def linI (l:List Int) (t:Nat):Nat→List Int
 | 0=>(List.range t).map fun (x:Nat)=>(x:Int)
 | i+1=>if isPn (l.getD i 0) then linI l t i else swp (linI l t i) ((numL (l.getD i 0)).toNat - 1)

noncomputable def outI (l:List Int) (t:Nat) (G:List Nat):Nat→List Int
 | 0=>[]
 | i+1=>if !isPn (l.getD i 0) && decide (i ∈ G) then outI l t G i ++ [(linI l t i).getD ((numL (l.getD i 0)).toNat - 1) 0,(linI l t i).getD (numL (l.getD i 0)).toNat 0] else outI l t G i
theorem swp_in {p:List Int} {k:Nat} (hk:k+1 < p.length) {Q:Int→Prop} (h:∀ x,x ∈ p→Q x):∀ x,x ∈ swp p k→Q x:=fun x hx=>by
 unfold swp at hx;rcases List.mem_or_eq_of_mem_set hx with h1 | rfl
 ·rcases List.mem_or_eq_of_mem_set h1 with h2 | rfl
  ·exact h x h2
  ·exact h _ (getD_mem' hk)
 ·exact h _ (getD_mem' (by omega))

def LetT (t:Nat) (l:List Int):Prop:=∀ j,j < l.length→isPn (l.getD j 0)=false→1≤(numL (l.getD j 0)).toNat∧(numL (l.getD j 0)).toNat < t
theorem lin_ok (h:LetT t l):∀ i,i≤l.length→(linI l t i).length=t∧∀ x,x ∈ linI l t i→0≤x∧x < t
 | 0,_=>⟨by show ((List.range t).map _).length=t;simp,fun x hx=>by
  obtain ⟨y,hy,rfl⟩:=List.mem_map.1 hx;have:=List.mem_range.1 hy;omega⟩
 | i+1,hi=>by
  obtain ⟨h1,h2⟩:=lin_ok h i (by omega);show (if isPn (l.getD i 0)=true then linI l t i else swp (linI l t i) ((numL (l.getD i 0)).toNat - 1)).length=t∧∀ x,x ∈ (if isPn (l.getD i 0)=true then linI l t i else swp (linI l t i) ((numL (l.getD i 0)).toNat - 1))→_
  cases c:isPn (l.getD i 0) with
  | true=>rw [if_pos rfl];exact ⟨h1,h2⟩
  | false=>
   obtain ⟨q1,q2⟩:=h i (by omega) c;rw [if_neg (by simp)];exact ⟨by rw [swp_len];exact h1,swp_in (by omega) h2⟩
theorem out_in (h:LetT t l):∀ i,i≤l.length→∀ x,x ∈ outI l t G i→0≤x∧x < t
 | 0,_,x,hx=>by cases hx
 | i+1,hi,x,hx=>by
  obtain ⟨h1,h2⟩:=lin_ok h i (by omega);have ih:=out_in h i (by omega);unfold outI at hx;split at hx
  ·rename_i c;rw [Bool.and_eq_true] at c;obtain ⟨q1,q2⟩:=h i (by omega) (by simpa using c.1);rcases List.mem_append.1 hx with hx | hx
   ·exact ih x hx
   ·rcases List.mem_cons.1 hx with rfl | hx
    ·exact h2 _ (getD_mem' (by omega))
    ·obtain rfl:=List.mem_singleton.1 hx;exact h2 _ (getD_mem' (by omega))
  ·exact ih x hx
theorem out_len:∀ i,(outI l t G i).length≤2 * i
 | 0=>Nat.le_refl _
 | i+1=>by
  have:=out_len i;unfold outI;split
  ·rw [List.length_append,List.length_cons,List.length_singleton];omega
  ·omega

def thrI (t:Nat) (o:List Int):List Nat:=(List.range t).filter fun (x:Nat)=>decide ((x:Int) ∈ o)
theorem thr_eq {o c:List Int} (ho:∀ x,x ∈ o→0≤x∧x < t) (hc:c.Pairwise (· < ·)) (hm:∀ a,a ∈ c↔a ∈ o):c=ofNs (thrI t o):=by
 refine asc_extI hc ?_ fun z=>?_
 ·unfold ofNs;rw [List.pairwise_map];exact ((List.pairwise_lt_range.sublist List.filter_sublist:(thrI t o).Pairwise (· < ·))).imp fun h=>by omega
 ·rw [hm];unfold ofNs thrI;rw [List.mem_map];constructor
  ·intro h;obtain ⟨h1,h2⟩:=ho z h;exact ⟨z.toNat,List.mem_filter.2 ⟨List.mem_range.2 (by omega),decide_eq_true (by rw [Int.toNat_of_nonneg h1];exact h)⟩,by omega⟩
  ·rintro ⟨y,hy,rfl⟩
   exact of_decide_eq_true (List.mem_filter.1 hy).2

def mrkI (t:Nat) (o:List Int):List Bool:=(List.range t).map fun (x:Nat)=>decide ((x:Int) ∈ o)
theorem mrkI_len (t:Nat) (o:List Int):(mrkI t o).length=t:=by unfold mrkI;rw [List.length_map,List.length_range]
theorem mrkI_get {o:List Int} {x:Nat} (h:x < t):(mrkI t o).getD x false=decide ((x:Int) ∈ o):=by
 unfold mrkI;rw [List.getD_eq_getElem?_getD,List.getElem?_map,List.getElem?_range h];rfl
theorem mrkI_set {o:List Int} {x:Nat}:(mrkI t o).set x true=mrkI t (o ++ [(x:Int)]):=by
 apply List.ext_getElem?;intro y;unfold mrkI;rw [List.getElem?_set,List.getElem?_map,List.getElem?_map,List.length_map,List.length_range]
 by_cases hy:y < t
 ·rw [List.getElem?_range hy]
  by_cases c:x=y
  ·subst c;rw [if_pos rfl,if_pos hy];simp
  ·rw [if_neg c];have:¬ (y:Int)=x:=by omega
   simp [this]
 ·rw [List.getElem?_eq_none (l:=List.range t) (by rw [List.length_range];omega)]
  by_cases c:x=y
  ·subst c;rw [if_pos rfl,if_neg hy];rfl
  ·rw [if_neg c];rfl
theorem mrkI_zero (t:Nat):mrkI t []=List.replicate t false:=by
 unfold mrkI;apply List.ext_getElem (by simp);intro i a b;simp

def gonI (G:List Nat) (i:Nat):List Nat:=G.filter fun y=>decide (i≤y)
theorem gonI_in {n i:Nat} (hG:AscI n G) (h:i ∈ G):gonI G i=i :: gonI G (i+1):=by
 refine asc_ext (hG.1.sublist List.filter_sublist) (List.pairwise_cons.2 ⟨fun y hy=>?_,hG.1.sublist List.filter_sublist⟩) fun z=>?_
 ·have:=of_decide_eq_true (List.mem_filter.1 hy).2;omega
 ·unfold gonI;rw [List.mem_cons,List.mem_filter,List.mem_filter,decide_eq_true_iff,decide_eq_true_iff];constructor
  ·rintro ⟨h1,h2⟩
   by_cases e:z=i
   ·exact .inl e
   ·exact .inr ⟨h1,by omega⟩
  ·rintro (rfl | ⟨h1,h2⟩)
   ·exact ⟨h,Nat.le_refl _⟩
   ·exact ⟨h1,by omega⟩
theorem gonI_out {i:Nat} (h:i ∉ G):gonI G i=gonI G (i+1):=by
 unfold gonI;refine List.filter_congr fun y hy=>?_;have:y≠i:=fun e=>h (e ▸ hy);rw [decide_eq_decide];omega
theorem gonI_zero (G:List Nat):gonI G 0=G:=List.filter_eq_self.2 fun y _=>decide_eq_true (Nat.zero_le y)
theorem gonI_hd {i:Nat} (h:i ∉ G) {x:Nat} {q:List Nat} (e:gonI G i=x :: q):x≠i:=fun c=>by
 have:x ∈ gonI G i:=by rw [e];exact List.mem_cons_self
 exact h (c ▸ (List.mem_filter.1 this).1)
end Go.Proofs.Ytfffbioafhppiaa.Ev
namespace Go.Proofs.Ytfffbioafhppiaa.Ev

theorem Tq.mem {a b:List Int} (h:Tq a b) (z:Int):z ∈ a↔z ∈ b:=by
 induction h with
 | refl q=>exact Iff.rfl
 | swap u v q h=>simp only [List.mem_cons];constructor <;> (rintro (q | q | q) <;> simp [q])
 | cons y _ ih=>rw [List.mem_cons,List.mem_cons,ih]
 | trans _ _ i1 i2=>exact i1.trans i2

theorem stp_mem {q:List Int} {x z:Int} (h:z ∈ stpL q x):z=x∨z ∈ q:=by
 cases hx:rmL x q with
 | none=>rw [stp_none hx] at h;exact List.mem_cons.1 h
 | some a=>
  rw [stp_some hx] at h;exact .inr (((rm_head hx).mem z).2 (List.mem_cons_of_mem _ h))
structure SeeF (D:Int→Prop) (f:Int→Int):Prop where
 pn:∀ x,D x→isPn (f x)=isPn x
 tch:∀ x y,D x→D y→tchL (f x) (f y)=tchL x y
 opp:∀ x y,D x→D y→isPn x=false→isPn y=false→(f y = -(f x)↔y = -x)
section
variable {D:Int→Prop} {f:Int→Int}
theorem SeeF.rm (H:SeeF D f) {x:Int} (hx:D x):∀ q:List Int,(∀ y,y ∈ q→D y)→rmL (f x) (q.map f)=(rmL x q).map (·.map f)
 | [],_=>rfl
 | y :: q,hq=>by
  have hy:=hq y List.mem_cons_self;have ih:=H.rm hx q fun z hz=>hq z (List.mem_cons_of_mem _ hz);rw [List.map_cons]
  cases c:tchL y x with
  | true=>
   rw [rm_t c,rm_t (by rw [H.tch y x hy hx];exact c)]
   by_cases d:y = -x∧isPn x=false∧isPn y=false
   ·rw [if_pos d,if_pos ⟨(H.opp x y hx hy d.2.1 d.2.2).2 d.1,by rw [H.pn x hx];exact d.2.1,by rw [H.pn y hy];exact d.2.2⟩];rfl
   ·rw [if_neg d,if_neg]
    ·rfl
    ·rintro ⟨q1,q2,q3⟩
     rw [H.pn x hx] at q2;rw [H.pn y hy] at q3;exact d ⟨(H.opp x y hx hy q2 q3).1 q1,q2,q3⟩
  | false=>
   rw [rm_f c,rm_f (by rw [H.tch y x hy hx];exact c),ih];cases rmL x q <;> rfl
theorem SeeF.stp (H:SeeF D f) {x:Int} (hx:D x) {q:List Int} (hq:∀ y,y ∈ q→D y):stpL (q.map f) (f x)=(stpL q x).map f:=by
 unfold stpL;rw [H.rm hx q hq];cases rmL x q <;> rfl
theorem SeeF.red (H:SeeF D f):∀ (w q:List Int),(∀ y,y ∈ q→D y)→(∀ y,y ∈ w→D y)→redL (q.map f) (w.map f)=(redL q w).map f
 | [],q,_,_=>rfl
 | x :: w,q,hq,hw=>by
  have hx:=hw x List.mem_cons_self;show redL (stpL (q.map f) (f x)) (w.map f)=_;rw [H.stp hx hq];exact H.red w (stpL q x) (fun z hz=>by
   rcases stp_mem hz with e | e
   ·rw [e];exact hx
   ·exact hq z e) fun z hz=>hw z (List.mem_cons_of_mem _ hz)
theorem SeeF.len (H:SeeF D f) {w:List Int} (hw:∀ y,y ∈ w→D y):(redL [] (w.map f)).length=(redL [] w).length:=by
 have:=H.red w [] (fun _ h=>(by cases h)) hw;rw [show redL [] (w.map f)=redL ([].map f) (w.map f) from rfl,this,List.length_map]
end
section
variable {l:List Int}
end
end Go.Proofs.Ytfffbioafhppiaa.Ev
namespace Go.Proofs.Ytfffbioafhppiaa.Ev
open Go.Proofs

def LetD (t x:Int):Prop:=(1000 < x∧x < 1000+t)∨(0 < x∧x < t)∨(-t < x∧x < 0)
theorem bad_iff {t x:Int} (ht:2≤t∧t≤48):badH t x=false↔LetD t x:=by
 unfold badH LetD
 by_cases h1:x ≤ -t
 ·rw [dt h1,bc_t];constructor
  ·intro h;cases h
  ·intro h;omega
 rw [df h1,bc_f]
 by_cases h2:x=0
 ·rw [h2];constructor
  ·intro h;cases h
  ·intro h;omega
 rw [show (x == 0)=false by simp [h2],bc_f]
 by_cases h3:t≤x
 ·rw [dt h3,bc_t]
  by_cases h4:x≤1000
  ·rw [dt h4,bc_t];constructor
   ·intro h;cases h
   ·intro h;omega
  ·rw [df h4,bc_f,decide_eq_false_iff_not];constructor <;> intro h <;> omega
 ·rw [df h3,bc_f];exact ⟨fun _=>by omega,fun _=>rfl⟩
theorem any_iff {p:Int→Bool}:∀ {l:List Int},anyI p l=false↔∀ x,x ∈ l→p x=false
 | []=>⟨fun _ x h=>(by cases h),fun _=>rfl⟩
 | y :: l=>by
  have ih:=any_iff (p:=p) (l:=l);show bc (p y) true (anyI p l)=false↔_
  cases c:p y with
  | true=>rw [bc_t];exact ⟨fun h=>(by cases h),fun h=>(by rw [h y List.mem_cons_self] at c;cases c)⟩
  | false=>
   rw [bc_f,ih];exact ⟨fun h x hx=>(List.mem_cons.1 hx).elim (fun e=>e ▸ c) (h x),fun h x hx=>h x (List.mem_cons_of_mem _ hx)⟩
theorem chk_iff {t:Int} {l:List Int}:chkL t l=0↔(2≤t∧t≤48)∧l.length≤2000∧∀ x,x ∈ l→LetD t x:=by
 unfold chkL
 by_cases h1:t < 2
 ·rw [dt h1,bc_t];constructor
  ·intro h;cases h
  ·intro h;omega
 rw [df h1,bc_f]
 by_cases h2:48 < t
 ·rw [dt h2,bc_t];constructor
  ·intro h;cases h
  ·intro h;omega
 rw [df h2,bc_f]
 by_cases h3:(2000:Int) < (l.length:Int)
 ·rw [dt h3,bc_t];constructor
  ·intro h;cases h
  ·intro h;omega
 rw [df h3,bc_f];have ht:2≤t∧t≤48:=by omega
 cases c:anyI (badH t) l with
 | true=>
  rw [bc_t];constructor
  ·intro h;cases h
  ·intro h;rw [any_iff.2 fun x hx=>(bad_iff ht).2 (h.2.2 x hx)] at c;cases c
 | false=>exact ⟨fun _=>⟨ht,by omega,fun x hx=>(bad_iff ht).1 (any_iff.1 c x hx)⟩,fun _=>rfl⟩

namespace LSee
end LSee
end Go.Proofs.Ytfffbioafhppiaa.Ev
namespace Go.Proofs.Ytfffbioafhppiaa.Ev
open Go.Proofs
noncomputable def ctRl:Tr ZCC:=(((Tr.nil.put 92 (some (dC spRFd))).put 60 (some (dC spIsP))).put 94 (some (dC spHas)))
theorem ctRl_ok:ZCtsOk Try.prog ctRl:=(((ZCtsOk.nil _).add rfl spRFd_ok).add rfl spIsP_ok).add rfl spHas_ok
namespace RLos
noncomputable def RUN (s:ES):ZF:=RZs 42 ctRl [(atS 0 42 6,[[(1,none),(4,none),(6,some (1,3,.ints .i64 [])),(7,none)]]),(atS 0 42 11,[[(1,none),(4,none),(6,some (1,3,.ints .i64 [])),(8,none),(9,none)]]),(atS 0 42 15,[[(1,none),(4,none),(6,none),(8,none),(9,none),(10,none)]]),(atS 0 42 21,[[(1,none),(8,none),(11,some (1,3,.ints .i64 [])),(12,none)]])] [] false s

noncomputable def sA (t:Int) (l gn q:List Int) (y:Nat) (nn:Bool) (i:Int):NS:=⟨[⟨42,100,[(1,(EV.ptr 0 0)),(4,il gn),(6,EV.slO 1 1 y nn),(7,iv i)],[.it (.code (nav [1,1,1,1,0,1,0,0,0] (bodyOf Try.f42))),.it (.code (nav [1,1,1,1,0,1,0,0,1] (bodyOf Try.f42))),.it (.inLoop (nav [1,1,1,1,0,1,0,0] (bodyOf Try.f42))),.it (.inBlock 0),.it (.code (nav [1,1,1,1,1] (bodyOf Try.f42)))],[],Option.none⟩],[(0,(EK.cells 24 [(EV.v (Value.int IntKind.i64 (t))),(EV.lst (SyC.ints IntKind.i64 (l)))] true)),(1,EK.seq 3 (.ints .i64 q) nn)],2⟩
noncomputable def sB (t:Int) (l gn q:List Int) (y:Nat) (nn:Bool) (m:List Bool) (z:Nat) (i:Int):NS:=⟨[⟨42,100,[(1,(EV.ptr 0 0)),(4,il gn),(6,EV.slO 1 1 y nn),(8,EV.slO 2 1 z true),(9,iv i)],[.it (.code (nav [1,1,1,1,1,1,0,1,0,0,0] (bodyOf Try.f42))),.it (.code (nav [1,1,1,1,1,1,0,1,0,0,1] (bodyOf Try.f42))),.it (.inLoop (nav [1,1,1,1,1,1,0,1,0,0] (bodyOf Try.f42))),.it (.inBlock 2),.it (.code (nav [1,1,1,1,1,1,1] (bodyOf Try.f42)))],[],Option.none⟩],[(0,EK.cells 24 [iv t,il l] true),(1,EK.seq 3 (.ints .i64 q) nn),(2,EK.seq 4 (.bools m) true)],3⟩
noncomputable def sK (t:Int) (l gn q:List Int) (y:Nat) (nn:Bool) (m:List Bool) (z:Nat) (i k:Int):NS:=⟨[⟨42,100,[(1,(EV.ptr 0 0)),(4,(EV.lst (SyC.ints IntKind.i64 (gn)))),(6,(EV.slO 1 1 (y) (nn))),(8,(EV.slO 2 1 (z) true)),(9,iv i),(10,iv k)],[.it (.code (nav [1,1,1,1,1,1,0,1,0,0,1,0,0,1,1,0] (bodyOf Try.f42))),.it (.code (nav [1,1,1,1,1,1,0,1,0,0,1,0,0,1,1,1] (bodyOf Try.f42))),.it (.inBlock 3),.it (.code (nav [1,1,1,1,1,1,0,1,0,0,1,1] (bodyOf Try.f42))),.it (.inLoop (nav [1,1,1,1,1,1,0,1,0,0] (bodyOf Try.f42))),.it (.inBlock 2),.it (.code (nav [1,1,1,1,1,1,1] (bodyOf Try.f42)))],[],Option.none⟩],[(0,EK.cells 24 [iv t,il l] true),(1,(EK.seq 3 (SyC.ints IntKind.i64 (q)) (nn))),(2,(EK.seq 4 (SyC.bools (m)) true))],3⟩
noncomputable def sC (t:Int) (l:List Int) (m:List Bool) (z:Nat) (g:List Int) (nn:Bool) (i:Int):NS:=⟨[⟨42,100,[(1,(EV.ptr 0 0)),(8,EV.slO 1 1 z true),(11,EV.slO 2 1 g.length nn),(12,iv i)],[.it (.code (nav [1,1,1,1,1,1,1,1,0,1,0,0,0] (bodyOf Try.f42))),.it (.code (nav [1,1,1,1,1,1,1,1,0,1,0,0,1] (bodyOf Try.f42))),.it (.inLoop (nav [1,1,1,1,1,1,1,1,0,1,0,0] (bodyOf Try.f42))),.it (.inBlock 4),.it (.code (nav [1,1,1,1,1,1,1,1,1] (bodyOf Try.f42)))],[],Option.none⟩],[(0,EK.cells 24 [iv t,il l] true),(1,EK.seq 4 (.bools m) true),(2,EK.seq 3 (.ints .i64 g) nn)],3⟩
theorem in_t (t:Int) (l:List Int):RUN (st0 42 [hE t l])=(bc (chkL t l != (0:Int)) (.done (EV.tup [(EV.v (Value.slice Option.none 0 0)),(EV.v (Value.int IntKind.i64 (chkL t l)))]) [] 0) (.at (sA (t) (l) (bc (chkL t l != (0:Int)) [] (ofNs (goT l fun x=>true))) ([]) ((0:Nat)) (false) ((0:Int))))):=by kernel_rfl
theorem a_t (t:Int) (l gn q:List Int) (nn:Bool) (i:Int):RUN (stOf (sA t l gn q q.length nn i))=(bc (decide (i < t)) (bc (bc (Nat.beq (List.length q) (List.length q)) (bc (Nat.ble (List.length q+List.length (List.map (fun r=>U.int (List.headD r (U.i (0:Int)))) [[U.i i]])) (65536:Nat)) (bc nn true (bc nn false true)) false) false) (.at (sA (t) (l) (gn) (q ++ List.map (fun r=>U.int (List.headD r (U.i (0:Int)))) [[U.i i]]) (List.length (q ++ List.map (fun r=>U.int (List.headD r (U.i (0:Int)))) [[U.i i]])) (bc nn true (Nat.blt (0:Nat) (List.length (List.map (fun r=>U.int (List.headD r (U.i (0:Int)))) [[U.i i]])))) (IntKind.wrap IntKind.i64 (i+(1:Int))))) .bad) (bc (bc (decide ((0:Int)≤t)) (bc (decide (t≤t)) (decide (t≤(65536:Int))) false) false) (.at (sB (t) (l) (gn) (q) (List.length q) (nn) (List.replicate (Int.toNat t) false) (List.length (List.replicate (Int.toNat t) false)) ((0:Int)))) .bad)):=by kernel_rfl
theorem b_t (t:Int) (l gn q:List Int) (y:Nat) (nn:Bool) (m:List Bool) (z:Nat) (i:Int):RUN (stOf (sB t l gn q y nn m z i))=(bc (decide (i < Int.ofNat (List.length l))) (bc (bc (bc (decide ((0:Int)≤i)) (Nat.blt (Int.toNat i) (List.length l)) false) true false) (bc (bc (Nat.blt (Int.toNat i) (List.length l)) true false) (bc (isPn (List.getD l (Int.toNat i) (0:Int))) (.at (sB (t) (l) (gn) (q) (y) (nn) (m) (z) (IntKind.wrap IntKind.i64 (i+(1:Int))))) (bc (bc (bc (decide ((0:Int)≤i)) (Nat.blt (Int.toNat i) (List.length l)) false) true false) (bc (bc (Nat.blt (Int.toNat i) (List.length l)) true false) (.at (sK (t) (l) (gn) (q) (y) (nn) (m) (z) (i) (if IntKind.wrap IntKind.i64 ((0:Int) - List.getD l (Int.toNat i) (0:Int)) > List.getD l (Int.toNat i) (0:Int) then IntKind.wrap IntKind.i64 ((0:Int) - List.getD l (Int.toNat i) (0:Int)) else List.getD l (Int.toNat i) (0:Int)))) .bad) .bad)) .bad) .bad) (.at (sC (t) (l) (m) (z) ([]) (false) ((0:Int))))):=by kernel_rfl
theorem k_t (t:Int) (l gn q:List Int) (y:Nat) (nn:Bool) (m:List Bool) (z:Nat) (i k:Int):RUN (stOf (sK t l gn q y nn m z i k))=(bc (bc (decide (List.length gn≤(5000:Nat))) true false) (bc (decide (i ∈ gn)) (bc (bc (bc (decide ((0:Int)≤IntKind.wrap IntKind.i64 (k - (1:Int)))) (Nat.blt (Int.toNat (IntKind.wrap IntKind.i64 (k - (1:Int)))) y) false) true false) (bc (bc (Nat.blt (Int.toNat (IntKind.wrap IntKind.i64 (k - (1:Int)))) (List.length q)) true false) (bc (bc (bc (decide ((0:Int)≤List.getD q (Int.toNat (IntKind.wrap IntKind.i64 (k - (1:Int)))) (0:Int))) (Nat.blt (Int.toNat (List.getD q (Int.toNat (IntKind.wrap IntKind.i64 (k - (1:Int)))) (0:Int))) z) false) true false) (bc (Nat.blt (Int.toNat (List.getD q (Int.toNat (IntKind.wrap IntKind.i64 (k - (1:Int)))) (0:Int))) (List.length m)) (bc (bc (bc (decide ((0:Int)≤k)) (Nat.blt (Int.toNat k) y) false) true false) (bc (bc (Nat.blt (Int.toNat k) (List.length q)) true false) (bc (bc (bc (decide ((0:Int)≤List.getD q (Int.toNat k) (0:Int))) (Nat.blt (Int.toNat (List.getD q (Int.toNat k) (0:Int))) z) false) true false) (bc (Nat.blt (Int.toNat (List.getD q (Int.toNat k) (0:Int))) (List.length (List.set m (Int.toNat (List.getD q (Int.toNat (IntKind.wrap IntKind.i64 (k - (1:Int)))) (0:Int))) true))) (bc (bc (bc (bc (bc (decide ((0:Int)≤k)) (Nat.blt (Int.toNat k) y) false) true false) (bc (bc (Nat.blt (Int.toNat k) (List.length q)) true false) (bc (bc (bc (decide ((0:Int)≤IntKind.wrap IntKind.i64 (k - (1:Int)))) (Nat.blt (Int.toNat (IntKind.wrap IntKind.i64 (k - (1:Int)))) y) false) true false) (bc (bc (Nat.blt (Int.toNat (IntKind.wrap IntKind.i64 (k - (1:Int)))) (List.length q)) true false) (bc (bc (bc (decide ((0:Int)≤IntKind.wrap IntKind.i64 (k - (1:Int)))) (Nat.blt (Int.toNat (IntKind.wrap IntKind.i64 (k - (1:Int)))) y) false) true false) (bc (Nat.blt (Int.toNat (IntKind.wrap IntKind.i64 (k - (1:Int)))) (List.length q)) (bc (bc (bc (decide ((0:Int)≤k)) (Nat.blt (Int.toNat k) y) false) true false) (bc (Nat.blt (Int.toNat k) (List.length (List.set q (Int.toNat (IntKind.wrap IntKind.i64 (k - (1:Int)))) (List.getD q (Int.toNat k) (0:Int))))) true false) false) false) false) false) false) false) false) true false) (.at (sB (t) (l) (gn) (List.set (List.set q (Int.toNat (IntKind.wrap IntKind.i64 (k - (1:Int)))) (List.getD q (Int.toNat k) (0:Int))) (Int.toNat k) (List.getD q (Int.toNat (IntKind.wrap IntKind.i64 (k - (1:Int)))) (0:Int))) (y) (nn) (List.set (List.set m (Int.toNat (List.getD q (Int.toNat (IntKind.wrap IntKind.i64 (k - (1:Int)))) (0:Int))) true) (Int.toNat (List.getD q (Int.toNat k) (0:Int))) true) (z) (IntKind.wrap IntKind.i64 (i+(1:Int))))) .bad) .bad) .bad) .bad) .bad) .bad) .bad) .bad) .bad) (bc (bc (bc (bc (bc (decide ((0:Int)≤k)) (Nat.blt (Int.toNat k) y) false) true false) (bc (bc (Nat.blt (Int.toNat k) (List.length q)) true false) (bc (bc (bc (decide ((0:Int)≤IntKind.wrap IntKind.i64 (k - (1:Int)))) (Nat.blt (Int.toNat (IntKind.wrap IntKind.i64 (k - (1:Int)))) y) false) true false) (bc (bc (Nat.blt (Int.toNat (IntKind.wrap IntKind.i64 (k - (1:Int)))) (List.length q)) true false) (bc (bc (bc (decide ((0:Int)≤IntKind.wrap IntKind.i64 (k - (1:Int)))) (Nat.blt (Int.toNat (IntKind.wrap IntKind.i64 (k - (1:Int)))) y) false) true false) (bc (Nat.blt (Int.toNat (IntKind.wrap IntKind.i64 (k - (1:Int)))) (List.length q)) (bc (bc (bc (decide ((0:Int)≤k)) (Nat.blt (Int.toNat k) y) false) true false) (bc (Nat.blt (Int.toNat k) (List.length (List.set q (Int.toNat (IntKind.wrap IntKind.i64 (k - (1:Int)))) (List.getD q (Int.toNat k) (0:Int))))) true false) false) false) false) false) false) false) false) true false) (.at (sB (t) (l) (gn) (List.set (List.set q (Int.toNat (IntKind.wrap IntKind.i64 (k - (1:Int)))) (List.getD q (Int.toNat k) (0:Int))) (Int.toNat k) (List.getD q (Int.toNat (IntKind.wrap IntKind.i64 (k - (1:Int)))) (0:Int))) (y) (nn) (m) (z) (IntKind.wrap IntKind.i64 (i+(1:Int))))) .bad)) .bad):=by kernel_rfl
theorem c_t (t:Int) (l:List Int) (m:List Bool) (z:Nat) (g:List Int) (nn:Bool) (i:Int):RUN (stOf (sC t l m z g nn i))=(bc (decide (i < t)) (bc (bc (bc (decide ((0:Int)≤i)) (Nat.blt (Int.toNat i) z) false) true false) (bc (bc (Nat.blt (Int.toNat i) (List.length m)) true false) (bc (List.getD m (Int.toNat i) false) (bc (bc (Nat.beq (List.length g) (List.length g)) (bc (Nat.ble (List.length g+List.length (List.map (fun r=>U.int (List.headD r (U.i (0:Int)))) [[U.i i]])) (65536:Nat)) (bc nn true (bc nn false true)) false) false) (.at (sC (t) (l) (m) (z) (g ++ List.map (fun r=>U.int (List.headD r (U.i (0:Int)))) [[U.i i]]) (bc nn true (Nat.blt (0:Nat) (List.length (List.map (fun r=>U.int (List.headD r (U.i (0:Int)))) [[U.i i]])))) (IntKind.wrap IntKind.i64 (i+(1:Int))))) .bad) (.at (sC (t) (l) (m) (z) (g) (nn) (IntKind.wrap IntKind.i64 (i+(1:Int)))))) .bad) .bad) (bc (bc (Nat.beq (List.length g) (List.length g)) true false) (.done (EV.tup [(EV.lst (SyC.ints IntKind.i64 (g))),(EV.v (Value.int IntKind.i64 (0)))]) [] 0) .bad)):=by kernel_rfl
theorem oneL (x:Int):List.map (fun r=>U.int (List.headD r (U.i (0:Int)))) [[U.i x]]=[x]:=rfl
variable {n:Nat} {l:List Int} {G:List Nat}
theorem loopC (hn:n≤48) (o:List Int):∀ (k i:Nat) (nn:Bool),i+k=n→EndZ 42 ctRl false (stOf (sC n l (mrkI n o) n (ofNs ((List.range i).filter fun (x:Nat)=>decide ((x:Int) ∈ o))) nn i)) (rsL 0 (ofNs (thrI n o))) [] 0
 | 0,i,nn,h=>by
  obtain rfl:i=n:=by omega
  have h1:=c_t i l (mrkI i o) i (ofNs ((List.range i).filter fun (x:Nat)=>decide ((x:Int) ∈ o))) nn i;rw [df (show ¬ (i:Int) < i by omega),bc_f] at h1;simp (disch:=omega) only [Nat.add_eq,eqSy_self,eqN_self,bc_same,List.length_cons,ofn,wrap_in,dt,df,bltD,bltN,ble_of,bleN,beqD,bc_t,bc_f,nn_ok,Nat.zero_add,to_nat,Int.zero_add,Int.sub_zero,Int.sub_self,Int.cast_ofNat_Int,Int.natCast_zero,Int.toNat_zero,List.take_zero,List.nil_append,List.length_append,List.length_nil] at h1;exact .done h1
 | k+1,i,nn,h=>by
  have hi:i < n:=by omega
  have h1:=c_t n l (mrkI n o) n (ofNs ((List.range i).filter fun (x:Nat)=>decide ((x:Int) ∈ o))) nn i;have e0:Int.toNat (i:Int)=i:=rfl;have hm:=mrkI_get (o:=o) hi;have hl:=mrkI_len n o;have w:bc nn true (Nat.blt 0 (List.length [(i:Int)]))=true:=by cases nn <;> rfl
  have w2:bc nn true (bc nn false true)=true:=by cases nn <;> rfl
  have lg:((List.range i).filter fun (x:Nat)=>decide ((x:Int) ∈ o)).length≤i:=by
   have:=List.length_filter_le (fun (x:Nat)=>decide ((x:Int) ∈ o)) (List.range i)
   rwa [List.length_range] at this
  have w4:IntKind.wrap IntKind.i64 ((i:Int)+1)=((i+1:Nat):Int):=by rw [wrap_in _ (by omega) (by omega)];omega
  have et:(List.range (i+1)).filter (fun (x:Nat)=>decide ((x:Int) ∈ o))=(List.range i).filter (fun (x:Nat)=>decide ((x:Int) ∈ o)) ++ (if decide ((i:Int) ∈ o) then [i] else []):=by
   rw [List.range_succ,filter_snoc]
  rw [oneL,e0,w,w2,w4,hm,hl] at h1;simp only [ofNs_len] at h1
  cases c:decide ((i:Int) ∈ o) with
  | true=>
   rw [c,if_pos rfl] at et;have e:ofNs ((List.range i).filter fun (x:Nat)=>decide ((x:Int) ∈ o)) ++ [(i:Int)]=ofNs ((List.range (i+1)).filter fun (x:Nat)=>decide ((x:Int) ∈ o)):=by rw [et,ofNs_app];rfl
   rw [c,e] at h1;simp (disch:=omega) only [Nat.add_eq,eqSy_self,eqN_self,bc_same,List.length_cons,ofn,wrap_in,dt,df,bltD,bltN,ble_of,bleN,beqD,bc_t,bc_f,nn_ok,Nat.zero_add,to_nat,Int.zero_add,Int.sub_zero,Int.sub_self,Int.cast_ofNat_Int,Int.natCast_zero,Int.toNat_zero,List.take_zero,List.nil_append,List.length_append,List.length_nil] at h1;exact .at ctRl_ok h1 (loopC hn o k (i+1) true (by omega))
  | false=>
   rw [c,if_neg (by simp),List.append_nil] at et;rw [c] at h1;simp (disch:=omega) only [Nat.add_eq,eqSy_self,eqN_self,bc_same,List.length_cons,ofn,wrap_in,dt,df,bltD,bltN,ble_of,bleN,beqD,bc_t,bc_f,nn_ok,Nat.zero_add,to_nat,Int.zero_add,Int.sub_zero,Int.sub_self,Int.cast_ofNat_Int,Int.natCast_zero,Int.toNat_zero,List.take_zero,List.nil_append,List.length_append,List.length_nil] at h1;rw [← et] at h1 ⊢;exact .at ctRl_ok h1 (loopC hn o k (i+1) nn (by omega))
theorem stepK {nn:Bool} {i:Nat} (hL:LetT n l) (hn:n≤48) (hl:l.length≤2000) (hG:G.length≤2000) (hi:i < l.length) (hp:isPn (l.getD i 0)=false):RUN (stOf (sK n l (ofNs G) (linI l n i) n nn (mrkI n (outI l n G i)) n i ((numL (l.getD i 0)).toNat:Nat))) = .at (sB n l (ofNs G) (linI l n (i+1)) n nn (mrkI n (outI l n G (i+1))) n (i+1:Nat)):=by
 obtain ⟨hl1,hl2⟩:=lin_ok hL i (by omega);obtain ⟨q1,q2⟩:=hL i hi hp;obtain ⟨k,hk⟩:∃ k,(numL (l.getD i 0)).toNat=k:=⟨_,rfl⟩;have eO:outI l n G (i+1)=if !isPn (l.getD i 0) && decide (i ∈ G) then outI l n G i ++ [(linI l n i).getD ((numL (l.getD i 0)).toNat - 1) 0,(linI l n i).getD (numL (l.getD i 0)).toNat 0] else outI l n G i:=rfl
 have eL:linI l n (i+1)=((linI l n i).set (k - 1) ((linI l n i).getD k 0)).set k ((linI l n i).getD (k - 1) 0):=by
  show (if isPn (l.getD i 0)=true then linI l n i else swp (linI l n i) ((numL (l.getD i 0)).toNat - 1))=_
  rw [hp,if_neg (by simp),hk];unfold swp;rw [show k - 1+1=k by omega]
 rw [hk] at q1 q2 eO ⊢;have ha:=hl2 _ (getD_mem' (p:=linI l n i) (j:=k - 1) (by omega));have hb:=hl2 _ (getD_mem' (p:=linI l n i) (j:=k) (by omega));have h1:=k_t n l (ofNs G) (linI l n i) n nn (mrkI n (outI l n G i)) n i k;have w:IntKind.wrap IntKind.i64 ((k:Int) - 1)=((k - 1:Nat):Int):=by rw [wrap_in _ (by omega) (by omega)];omega
 have w4:IntKind.wrap IntKind.i64 ((i:Int)+1)=((i+1:Nat):Int):=by rw [wrap_in _ (by omega) (by omega)];omega
 have e0:∀ x:Nat,Int.toNat (x:Int)=x:=fun _=>rfl;have hmem:decide ((i:Int) ∈ ofNs G)=decide (i ∈ G):=decide_eq_decide.2 mem_ofNs;rw [w,e0,e0,w4,hmem,← eL] at h1;rw [hp] at eO
 cases c:decide (i ∈ G) with
 | true=>
  rw [c,if_pos (by rfl)] at eO;have m1:(mrkI n (outI l n G i)).set (Int.toNat ((linI l n i).getD (k - 1) 0)) true=mrkI n (outI l n G i ++ [(linI l n i).getD (k - 1) 0]):=by
   rw [mrkI_set,Int.toNat_of_nonneg ha.1]
  have m2:(mrkI n (outI l n G i ++ [(linI l n i).getD (k - 1) 0])).set (Int.toNat ((linI l n i).getD k 0)) true=mrkI n (outI l n G (i+1)):=by
   rw [mrkI_set,Int.toNat_of_nonneg hb.1,List.append_assoc,eO];rfl
  rw [c,m1,m2] at h1;simp (disch:=omega) only [Nat.add_eq,eqSy_self,eqN_self,bc_same,List.length_cons,ofn,wrap_in,dt,df,bltD,bltN,ble_of,bleN,beqD,bc_t,bc_f,nn_ok,Nat.zero_add,to_nat,Int.zero_add,Int.sub_zero,Int.sub_self,Int.cast_ofNat_Int,Int.natCast_zero,Int.toNat_zero,List.take_zero,List.nil_append,List.length_append,List.length_nil,mrkI_len,ofNs_len,hl1,List.length_set] at h1;exact h1
 | false=>
  rw [c,if_neg (by simp)] at eO;rw [c] at h1;simp (disch:=omega) only [Nat.add_eq,eqSy_self,eqN_self,bc_same,List.length_cons,ofn,wrap_in,dt,df,bltD,bltN,ble_of,bleN,beqD,bc_t,bc_f,nn_ok,Nat.zero_add,to_nat,Int.zero_add,Int.sub_zero,Int.sub_self,Int.cast_ofNat_Int,Int.natCast_zero,Int.toNat_zero,List.take_zero,List.nil_append,List.length_append,List.length_nil,mrkI_len,ofNs_len,hl1,List.length_set] at h1;rw [eO];exact h1
theorem siz_num {x:Int} (h:LetOk x) (hp:isPn x=false):(if IntKind.wrap IntKind.i64 (0 - x) > x then IntKind.wrap IntKind.i64 (0 - x) else x)=(((numL x).toNat:Nat):Int):=by
 have hp:=of_decide_eq_false hp;unfold LetOk at h;rw [wrap_in _ (by omega) (by omega)];unfold numL;rw [if_neg hp];split <;> split <;> omega
theorem loopB (hL:LetT n l) (hn:n≤48) (hl:l.length≤2000) (hG:G.length≤2000) (hx:∀ x,x ∈ l→LetOk x):∀ (k i:Nat) (nn:Bool),i+k=l.length→EndZ 42 ctRl false (stOf (sB n l (ofNs G) (linI l n i) n nn (mrkI n (outI l n G i)) n i)) (rsL 0 (ofNs (thrI n (outI l n G l.length)))) [] 0
 | 0,i,nn,h=>by
  obtain rfl:i=l.length:=by omega
  have h1:=b_t n l (ofNs G) (linI l n l.length) n nn (mrkI n (outI l n G l.length)) n l.length;rw [df (show ¬ ((l.length:Nat):Int) < Int.ofNat l.length by rw [ofn];omega),bc_f] at h1;exact .at ctRl_ok h1 (loopC hn _ n 0 false (by omega))
 | k+1,i,nn,h=>by
  have hi:i < l.length:=by omega
  have h1:=b_t n l (ofNs G) (linI l n i) n nn (mrkI n (outI l n G i)) n i;have e0:Int.toNat (i:Int)=i:=rfl;have w4:IntKind.wrap IntKind.i64 ((i:Int)+1)=((i+1:Nat):Int):=by rw [wrap_in _ (by omega) (by omega)];omega
  rw [e0,w4] at h1
  cases c:isPn (l.getD i 0) with
  | true=>
   have eL:linI l n (i+1)=linI l n i:=by
    show (if isPn (l.getD i 0)=true then linI l n i else _)=_
    rw [if_pos c]
   have eO:outI l n G (i+1)=outI l n G i:=by
    show (if (!isPn (l.getD i 0) && decide (i ∈ G))=true then _ else outI l n G i)=_
    rw [c,if_neg (by simp)]
   rw [c] at h1;simp (disch:=omega) only [Nat.add_eq,eqSy_self,eqN_self,bc_same,List.length_cons,ofn,wrap_in,dt,df,bltD,bltN,ble_of,bleN,beqD,bc_t,bc_f,nn_ok,Nat.zero_add,to_nat,Int.zero_add,Int.sub_zero,Int.sub_self,Int.cast_ofNat_Int,Int.natCast_zero,Int.toNat_zero,List.take_zero,List.nil_append,List.length_append,List.length_nil] at h1;rw [← eL,← eO] at h1;rw [← eL,← eO];exact .at ctRl_ok h1 (loopB hL hn hl hG hx k (i+1) nn (by omega))
  | false=>
   rw [c,siz_num (hx _ (by rw [getD_at hi];exact List.getElem_mem hi)) c] at h1;simp (disch:=omega) only [Nat.add_eq,eqSy_self,eqN_self,bc_same,List.length_cons,ofn,wrap_in,dt,df,bltD,bltN,ble_of,bleN,beqD,bc_t,bc_f,nn_ok,Nat.zero_add,to_nat,Int.zero_add,Int.sub_zero,Int.sub_self,Int.cast_ofNat_Int,Int.natCast_zero,Int.toNat_zero,List.take_zero,List.nil_append,List.length_append,List.length_nil] at h1;exact .at ctRl_ok h1 (.at ctRl_ok (stepK hL hn hl hG hi c) (loopB hL hn hl hG hx k (i+1) nn (by omega)))
theorem loopA (hL:LetT n l) (hn:n≤48) (hl:l.length≤2000) (hG:G.length≤2000) (hx:∀ x,x ∈ l→LetOk x):∀ (k i:Nat) (nn:Bool),i+k=n→EndZ 42 ctRl false (stOf (sA n l (ofNs G) ((List.range i).map fun (x:Nat)=>(x:Int)) i nn i)) (rsL 0 (ofNs (thrI n (outI l n G l.length)))) [] 0
 | 0,i,nn,h=>by
  obtain rfl:i=n:=by omega
  have hq:((List.range i).map fun (x:Nat)=>(x:Int)).length=i:=by simp
  have h1:=a_t i l (ofNs G) ((List.range i).map fun (x:Nat)=>(x:Int)) nn i;rw [hq,show Int.toNat (i:Int)=i from rfl,← mrkI_zero,mrkI_len,df (show ¬ (i:Int) < i by omega),bc_f] at h1
  simp (disch:=omega) only [Nat.add_eq,eqSy_self,eqN_self,bc_same,List.length_cons,ofn,wrap_in,dt,df,bltD,bltN,ble_of,bleN,beqD,bc_t,bc_f,nn_ok,Nat.zero_add,to_nat,Int.zero_add,Int.sub_zero,Int.sub_self,Int.cast_ofNat_Int,Int.natCast_zero,Int.toNat_zero,List.take_zero,List.nil_append,List.length_append,List.length_nil] at h1;exact .at ctRl_ok h1 (loopB hL hn hl hG hx l.length 0 nn (by omega))
 | k+1,i,nn,h=>by
  have hq:((List.range i).map fun (x:Nat)=>(x:Int)).length=i:=by simp
  have h1:=a_t n l (ofNs G) ((List.range i).map fun (x:Nat)=>(x:Int)) nn i;have e:((List.range i).map fun (x:Nat)=>(x:Int)) ++ [(i:Int)]=(List.range (i+1)).map fun (x:Nat)=>(x:Int):=by rw [List.range_succ,List.map_append];rfl
  have hq2:((List.range (i+1)).map fun (x:Nat)=>(x:Int)).length=i+1:=by simp
  have w:bc nn true (Nat.blt 0 (List.length [(i:Int)]))=true:=by cases nn <;> rfl
  have w2:bc nn true (bc nn false true)=true:=by cases nn <;> rfl
  have w4:IntKind.wrap IntKind.i64 ((i:Int)+1)=((i+1:Nat):Int):=by rw [wrap_in _ (by omega) (by omega)];omega
  rw [oneL,w,w2,w4,e,hq2,hq,dt (show (i:Int) < n by omega),bc_t] at h1;simp (disch:=omega) only [Nat.add_eq,eqSy_self,eqN_self,bc_same,List.length_cons,ofn,wrap_in,dt,df,bltD,bltN,ble_of,bleN,beqD,bc_t,bc_f,nn_ok,Nat.zero_add,to_nat,Int.zero_add,Int.sub_zero,Int.sub_self,Int.cast_ofNat_Int,Int.natCast_zero,Int.toNat_zero,List.take_zero,List.nil_append,List.length_append,List.length_nil] at h1;exact .at ctRl_ok h1 (loopA hL hn hl hG hx k (i+1) true (by omega))
theorem chkL_T {t:Int} (z:chkL t l=0) (hn:(n:Int)=t):LetT n l:=fun j hj hp=>by
 have h1:=(chk_iff.1 z).2.2 (l.getD j 0) (by rw [getD_at hj];exact List.getElem_mem hj);have hp:=of_decide_eq_false hp;unfold LetD at h1;unfold numL;rw [if_neg hp];split <;> omega
theorem ends (t:Int) (l:List Int):EndZ 42 ctRl false (st0 42 [hE t l]) (rsL (chkL t l) (ofNs (thrI t.toNat (outI l t.toNat (goT l fun _=>true) l.length)))) [] 0:=by
 have h:=in_t t l
 by_cases z:chkL t l=0
 ·have h2:=(chk_iff.1 z).1.1;obtain ⟨h3,h4,h5⟩:=chkL_ok z;have hG:=asc_len (show AscI l.length (goT l fun _=>true) from (resT_asc l fun _=>true).sub _)
  have h48:t≤48:=by
   unfold chkL at z
   by_cases q:t < 2
   ·omega
   rw [df q,bc_f] at z
   by_cases q:48 < t
   ·rw [dt q,bc_t] at z;cases z
   omega
  obtain ⟨n,rfl⟩:=Int.eq_ofNat_of_zero_le (show 0≤t by omega);have hL:=chkL_T z rfl;rw [z,show ((0:Int) != 0)=false from rfl,bc_f,bc_f] at h
  rw [z];exact .at ctRl_ok h (loopA hL (by omega) (by omega) (by omega) h5 n 0 false (by omega))
 ·rw [show (chkL t l != 0)=true by simp [z],bc_t] at h;exact (EndZ.done h).weak (rsL_err _ z)
end RLos
noncomputable def spRLo:ZCT:=fun ax=>match ax with
 | [.agg [.v (.int .i64 t),.lst (.ints .i64 l)]]=>some ⟨decide (True),rsL (chkL t l) (ofNs (thrI t.toNat (outI l t.toNat (goT l fun _=>true) l.length))),[],0⟩
 | _=>none
theorem spRLo_ok:ZCtOk Try.prog 42 spRLo:=fun γ w us ax r hs hc hax hN hfz=>by
 unfold spRLo at hs;split at hs
 case h_2=>cases hs
 rename_i t l;obtain ⟨rfl⟩:=Option.some.inj hs;have hc_0:decide (True)=true:=hc;have hc:=of_decide_eq_true hc_0;exact EndZ.calls (RLos.ends t l) ctRl_ok (by kernel_rfl) hax hN hfz
end Go.Proofs.Ytfffbioafhppiaa.Ev
namespace Go.Proofs
open Go.Shelf
def Try.lays189_ren:Go.Shelf.Ren:=⟨fun | 189=>90 | 125=>135 | 257=>134 | 128=>161 | 129=>162 | 294=>152 | 295=>153 | 296=>154 | 297=>155 | 298=>156 | 299=>157 | 216=>158 | 300=>159 | 301=>160 | 328=>169 | 329=>170 | 330=>171 | 331=>172 | 332=>173 | 215=>174 | 343=>175 | n=>n,fun | 28=>22 | 3=>3 | 46=>126 | 0=>0 | 51=>158 | 53=>161 | 4=>4 | 183=>169 | 182=>168 | 131=>172 | 5=>5 | 9=>9 | 218=>179 | 222=>183 | 228=>185 | 229=>123 | n=>n,fun | n=>n⟩
theorem Try.lays189:Go.Proofs.Lays.n189 Try.prog Try.lays189_ren:={
 mixed:=by kernel_rfl
 f125:=Try.func135.trans (congrArg some (by kernel_rfl))
 f128:=Try.func161.trans (congrArg some (by kernel_rfl))
 f129:=Try.func162.trans (congrArg some (by kernel_rfl))
 f189:=Try.func90.trans (congrArg some (by kernel_rfl))
 f215:=Try.func174.trans (congrArg some (by kernel_rfl))
 f216:=Try.func158.trans (congrArg some (by kernel_rfl))
 f257:=Try.func134.trans (congrArg some (by kernel_rfl))
 f294:=Try.func152.trans (congrArg some (by kernel_rfl))
 f295:=Try.func153.trans (congrArg some (by kernel_rfl))
 f296:=Try.func154.trans (congrArg some (by kernel_rfl))
 f297:=Try.func155.trans (congrArg some (by kernel_rfl))
 f298:=Try.func156.trans (congrArg some (by kernel_rfl))
 f299:=Try.func157.trans (congrArg some (by kernel_rfl))
 f300:=Try.func159.trans (congrArg some (by kernel_rfl))
 f301:=Try.func160.trans (congrArg some (by kernel_rfl))
 f328:=Try.func169.trans (congrArg some (by kernel_rfl))
 f329:=Try.func170.trans (congrArg some (by kernel_rfl))
 f330:=Try.func171.trans (congrArg some (by kernel_rfl))
 f331:=Try.func172.trans (congrArg some (by kernel_rfl))
 f332:=Try.func173.trans (congrArg some (by kernel_rfl))
 f343:=Try.func175.trans (congrArg some (by kernel_rfl))
 t0:=Try.underlying0
 a0:=Try.isAgg0
 z0:=Try.sizeOf0
 v0:=Try.zeroValue0
 t3:=Try.underlying3
 a3:=Try.isAgg3
 z3:=Try.sizeOf3
 v3:=Try.zeroValue3
 t4:=Try.underlying4
 a4:=Try.isAgg4
 z4:=Try.sizeOf4
 v4:=Try.zeroValue4
 t5:=Try.underlying5
 a5:=Try.isAgg5
 z5:=Try.sizeOf5
 v5:=Try.zeroValue5
 t9:=Try.underlying9
 a9:=Try.isAgg9
 z9:=Try.sizeOf9
 v9:=Try.zeroValue9
 t28:=Try.underlying22
 a28:=Try.isAgg22
 z28:=Try.sizeOf22
 v28:=Try.zeroValue22
 t46:=Try.underlying126
 a46:=Try.isAgg126
 z46:=Try.sizeOf126
 v46:=Try.zeroValue126
 t51:=Try.underlying158
 a51:=Try.isAgg158
 z51:=Try.sizeOf158
 v51:=Try.zeroValue158
 t53:=Try.underlying161
 a53:=Try.isAgg161
 z53:=Try.sizeOf161
 v53:=Try.zeroValue161
 t131:=Try.underlying172
 a131:=Try.isAgg172
 z131:=Try.sizeOf172
 v131:=Try.zeroValue172
 t182:=Try.underlying168
 a182:=Try.isAgg168
 z182:=Try.sizeOf168
 v182:=Try.zeroValue168
 t183:=Try.underlying169
 a183:=Try.isAgg169
 z183:=Try.sizeOf169
 v183:=Try.zeroValue169
 t218:=Try.underlying179
 a218:=Try.isAgg179
 z218:=Try.sizeOf179
 v218:=Try.zeroValue179
 t222:=Try.underlying183
 a222:=Try.isAgg183
 z222:=Try.sizeOf183
 v222:=Try.zeroValue183
 t228:=Try.underlying185
 a228:=Try.isAgg185
 z228:=Try.sizeOf185
 v228:=Try.zeroValue185
 t229:=Try.underlying123
 a229:=Try.isAgg123
 z229:=Try.sizeOf123
 v229:=Try.zeroValue123 }
open Go.Sort Go.RowKit in
theorem Try.slices_Sort_int (blk off cap:Nat) (zs:List Int) (w:World) (hH:Holds (Value.int .i64) w blk off zs.toArray) (hblk:blk < w.heap.size) (hsz:zs.length < 4611686018427387904) :
  Calls Try.prog 90 #[.slice (some ⟨blk,off,none⟩) zs.length cap] w fun e w'=>
   e = .returned (.tuple #[])∧∃ n os,w'=grow (putRow (Value.int .i64) (Sort.ahead w n) blk off (zs.mergeSort fun x y=>decide (x≤y)).toArray) os:=Any.slices_Sort_int Try.lays189 blk off cap zs w hH hblk hsz
open Go.RowKit Go.Sort in
theorem Try.slices_Sort_int_none (p:Option Addr) (cap:Nat) (w:World) :
  Calls Try.prog 90 #[.slice p 0 cap] w fun e w'=>e = .returned (.tuple #[])∧w'=w:=Any.slices_Sort_int_none Try.lays189 p cap w
end Go.Proofs
namespace Go.Proofs.Ytfffbioafhppiaa.Ev
open Go.RowKit
variable {P:Program} {γ γ':G} {w0:Bs} {w w':World} {H H':Tr EK} {n n':Nat}


theorem HR.below (h:HR γ w0 H n w) (b:Below w.heap.size w w'):HR γ w0 H n w':=by
 refine ⟨fun i k hk=>?_,h.inj0,h.fresh,h.rsv,fun i p e=>Nat.lt_of_lt_of_le (h.lt i p e) b.size,?_,h.fzq rfl (fun k hk _=>b.block k hk) (fun i ki b m hi ni ei=>.inr ⟨i,ki,b,m,hi,ni,ei,rfl⟩) fun _ _ hk _=>hk⟩
 ·refine (h.hp0 i k hk).imp id fun ⟨c,m,h1,h2,h3⟩=>?_;exact ⟨c,m,h1,h2,EK.ok_mono (GLe.refl γ) (b.block c.k (h.lt i _ h1)) h3⟩
 ·refine ⟨b.os.trans h.stays.os,b.tape.trans h.stays.tape,b.output.trans h.stays.output,Nat.le_trans h.stays.size b.size,fun k hk=>?_⟩;have h1:=w0.lt k hk;have h2:=h.stays.size;exact (b.block k (by omega)).trans (h.stays.block k hk)
end Go.Proofs.Ytfffbioafhppiaa.Ev
namespace Go.Proofs.Ytfffbioafhppiaa.Ev
open Go.Proofs Go.RowKit Go.Sort
theorem srt_len (l:List Int):(srt l).length=l.length:=(srt_perm l).length_eq
theorem ints_enc (k:IntKind) (l:List Int):(SyC.ints k l).enc=l.map fun x=>EV.v (.int k x):=rfl

theorem HR.putInts {γ:G} {w0:Bs} {H:Tr EK} {n:Nat} {w:World} (h:HR γ w0 H n w) {i:Nat} (hi:Nat.ble i 65535=true) {ty:TypeId} {k:IntKind} {l l':List Int} {nn:Bool} (hg:H.get i=some (.seq ty (.ints k l) nn)) {b:Pl} {m:Nat} (hγ:γ i=some (b,m)) (hl:l'.length=l.length) (hn:¬ (EK.seq ty (.ints k l) nn).Nil) (q:Nat) :
  HR γ w0 (H.put i (some (.seq ty (.ints k l') nn))) n (Go.Sort.putRow (Value.int k) (Go.Sort.ahead w q) b.k b.s l'.toArray):=by
 obtain ⟨b2,m2,e1,e2,ca,⟨fz,e3,e3'⟩,e4,e5,e6⟩:=h.hp i _ hg hn;rw [hγ] at e1;simp only [Option.some.injEq,Prod.mk.injEq] at e1;obtain ⟨rfl,rfl⟩:=e1;have hw:∀ c,(Go.Sort.putRow (Value.int k) (Go.Sort.ahead w q) b.k b.s l'.toArray).heap[c]? = if b.k=c then some (.cells (Go.Sort.putCells (Value.int k) b.s l'.toArray ca) ty fz) else w.heap[c]?:=fun c=>by
  unfold Go.Sort.putRow Go.Sort.mapBlock;show (w.heap.modify b.k _)[c]? = _;rw [Array.getElem?_modify]
  by_cases hc:b.k=c
  ·subst hc;rw [if_pos rfl,if_pos rfl,e3];rfl
  ·rw [if_neg hc,if_neg hc]
 have hsz:(Go.Sort.putRow (Value.int k) (Go.Sort.ahead w q) b.k b.s l'.toArray).heap.size=w.heap.size:=by
  unfold Go.Sort.putRow Go.Sort.mapBlock;show (w.heap.modify b.k _).size=_;simp [Go.Sort.ahead]
 have hcs:(Go.Sort.putCells (Value.int k) b.s l'.toArray ca).size=ca.size:=by unfold Go.Sort.putCells;simp
 have hle:(SyC.ints k l').enc.length=(SyC.ints k l).enc.length:=by rw [ints_enc,ints_enc,List.length_map,List.length_map,hl]
 refine h.turn hi hg hγ _ (fun c hc=>by rw [hw,if_neg (fun e=>hc e.symm)]) hsz rfl rfl rfl ?_ hn;refine ⟨_,⟨fz,by rw [hw,if_pos rfl],e3'.imp id fun e=>by rw [hcs];exact e⟩,by rw [hcs];exact e4,by rw [hle];exact e5,?_,?_⟩
 ·have hcl:(Go.Sort.putCells (Value.int k) b.s l'.toArray ca).toList.length=ca.size:=(Array.length_toList).trans hcs;rw [List.length_take,List.length_drop,hcl,hle];omega
 ·intro j a x ha hx;rw [ints_enc,List.getElem?_map] at ha;have hj:j < l'.length:=by
   rcases Nat.lt_or_ge j l'.length with hj | hj
   ·exact hj
   ·rw [List.getElem?_eq_none hj] at ha;cases ha
  rw [List.getElem?_eq_getElem hj] at ha;injection ha with ha
  subst ha;rw [List.getElem?_take,if_pos (by rw [ints_enc,List.length_map];exact hj),List.getElem?_drop,Array.getElem?_toList] at hx;unfold Go.Sort.putCells at hx;rw [Array.getElem?_mapIdx] at hx;have hlt:b.s+j < ca.size:=by
   rw [ints_enc,List.length_map] at e5;omega
  rw [Array.getElem?_eq_getElem hlt] at hx;simp only [Option.map_some,Option.some.injEq] at hx;rw [if_pos ⟨by omega,by simp;omega⟩] at hx;have:l'.toArray[b.s+j - b.s]! = l'[j]:=by
   rw [show b.s+j - b.s=j by omega];simp [hj]
  rw [this] at hx;subst hx;exact .v _
noncomputable def spSort:ZMT:=fun ax K0 m=>match ax,K0 with
 | [.slO 0 1 len nn],[(0,.seq ty (.ints .i64 l) nn')]=>bc (Nat.beq m 1) (some ⟨bc (Nat.beq len l.length) (bc (Nat.ble len 65536) (bc nn nn' true) false) false,.tup [],[(0,.seq ty (.ints .i64 (srt l)) nn')],1,1⟩) none
 | _,_=>none
theorem spSort_ok:ZMtOk Try.prog 90 spSort:=fun γ w0 w us ax K0 m r hs hc hres hax hH=>by
 unfold spSort at hs;split at hs
 case h_2=>cases hs
 rename_i len nn ty l nn';obtain ⟨hm,rfl⟩:=noN hs;have hm:=Nat.eq_of_beq_eq_true hm;subst hm;obtain ⟨hc1,hc2⟩:=bcT (show bc (Nat.beq len l.length) (bc (Nat.ble len 65536) (bc nn nn' true) false) false=true from hc)
 obtain ⟨hc2,hc3⟩:=bcT hc2;have hc1:=Nat.eq_of_beq_eq_true hc1;have hc2:=Nat.le_of_ble_eq_true hc2;subst hc1;obtain ⟨x,r1,e1,hx,hcr⟩:=ECL.inv hax;have e3:r1=[]:=by apply List.eq_nil_of_length_eq_zero;have:=hcr.1;simpa using this.symm
 subst e3;have eu:us = #[x]:=by apply Array.ext';simpa using e1
 rw [eu];have hg:(mkT [(0,EK.seq ty (.ints .i64 l) nn')]).get 0=some (.seq ty (.ints .i64 l) nn'):=rfl
 cases hx with
 | slO _ _ _ _ _ hx=>
 cases nn with
 | false=>
  obtain ⟨rfl,hl⟩:=hx.1 rfl;have hl:l=[]:=List.eq_nil_of_length_eq_zero hl;subst hl;refine (Try.slices_Sort_int_none none 0 w).mono ?_
  rintro e w' ⟨rfl,rfl⟩
  exact ⟨γ,_,rfl,.tup [] [] rfl (fun j a x h=>by simp at h),by rw [show srt []=[] from List.eq_nil_of_length_eq_zero (by rw [srt_len];rfl)];exact hH,fun j p _ h=>h⟩
 | true=>
  obtain ⟨b,mm,c,g1,rfl,g2,g3,g4⟩:=hx.2 rfl;have hnn:nn'=true:=hc3;subst hnn;have hn:¬ (EK.seq ty (.ints .i64 l) true).Nil:=fun e=>by cases e.1
  obtain ⟨b2,m2,q1,q2,ca,q3,q4,q5,q6⟩:=hH.hp 0 _ hg hn;rw [g1] at q1;simp only [Option.some.injEq,Prod.mk.injEq] at q1;obtain ⟨rfl,rfl⟩:=q1;have hholds:Go.Sort.Holds (Value.int .i64) w b.k b.s l.toArray:=fun j hj=>by
   have hj:j < l.length:=by simpa using hj
   obtain ⟨c1,c2⟩:=cell_of (off:=j) q3;have hlt:b.s+j < ca.size:=by rw [ints_enc,List.length_map] at q5;omega
   refine ⟨?_,c2 hlt⟩;rw [show (⟨b.k,b.s+j,none⟩:Addr)=b.at j from rfl,c1,Array.getElem?_eq_getElem hlt]
   have h1:=q6.2 j (.v (.int .i64 l[j])) ca[b.s+j] (by rw [ints_enc,List.getElem?_map,List.getElem?_eq_getElem hj];rfl) (by
    rw [List.getElem?_take,if_pos (by rw [ints_enc,List.length_map];exact hj),List.getElem?_drop,Array.getElem?_toList,Array.getElem?_eq_getElem hlt])
   rw [ec_v h1];simp [hj]
  have hblk:=hH.lt 0 _ g1;refine (Try.slices_Sort_int b.k b.s c l w hholds hblk (by omega)).mono ?_
  rintro e w' ⟨rfl,q,os,rfl⟩
  have h1:=hH.putInts (l':=srt l) rfl hg g1 (srt_len l) hn q;have hsz:(Go.Sort.putRow (Value.int .i64) (Go.Sort.ahead w q) b.k b.s (srt l).toArray).heap.size=w.heap.size:=by
   unfold Go.Sort.putRow Go.Sort.mapBlock;show (w.heap.modify b.k _).size=_;simp [Go.Sort.ahead]
  have hb:Below (Go.Sort.putRow (Value.int .i64) (Go.Sort.ahead w q) b.k b.s (srt l).toArray).heap.size (Go.Sort.putRow (Value.int .i64) (Go.Sort.ahead w q) b.k b.s (srt l).toArray) (Go.Sort.grow (Go.Sort.putRow (Value.int .i64) (Go.Sort.ahead w q) b.k b.s (srt l).toArray) os):=
   ⟨rfl,rfl,rfl,by rw [Go.Sort.size_grow];omega,fun k hk=>Go.Sort.heap_grow_old _ _ hk⟩
  refine ⟨γ,_,rfl,.tup [] [] rfl (fun j a x h=>by simp at h),?_,fun j p _ h=>h⟩;refine (h1.below hb).congr fun j k hj=>?_;rw [Tr.get_put (by rfl)]
  by_cases hj0:j=0
  ·subst hj0;rw [if_pos rfl];exact hj
  ·rw [if_neg hj0];have:=mkT_get hj;simp at this;exact absurd this.1 hj0
end Go.Proofs.Ytfffbioafhppiaa.Ev
namespace Go.Proofs
open Go.Shelf
def Try.laysNm220_ren:Go.Shelf.Ren:=⟨fun | 20=>91 | n=>n,fun | 22=>22 | 3=>3 | 4=>4 | 0=>0 | n=>n,fun | n=>n⟩
theorem Try.laysNm220:Go.Proofs.Lays2.n20 Try.prog Try.laysNm220_ren:={
 mixed:=by kernel_rfl
 f20:=Try.func91.trans (congrArg some (by kernel_rfl))
 t0:=Try.underlying0
 a0:=Try.isAgg0
 z0:=Try.sizeOf0
 v0:=Try.zeroValue0
 t3:=Try.underlying3
 a3:=Try.isAgg3
 z3:=Try.sizeOf3
 v3:=Try.zeroValue3
 t4:=Try.underlying4
 a4:=Try.isAgg4
 z4:=Try.sizeOf4
 v4:=Try.zeroValue4
 t22:=Try.underlying22
 a22:=Try.isAgg22
 z22:=Try.sizeOf22
 v22:=Try.zeroValue22
 i3:=by kernel_rfl }
open Go.RowKit Go.Lib Go.Sort in
theorem Try.slices_Compact_int (blk off cap:Nat) (zs:List Int) (w:World) (hH:Holds (Value.int .i64) w blk off zs.toArray) (hsz:zs.length≤9223372036854775807) (hcap:zs.length≤cap) :
  Calls Try.prog 91 #[.slice (some ⟨blk,off,none⟩) zs.length cap] w fun e w'=>e = .returned (.slice (some ⟨blk,off,none⟩) (Lib.compact zs).length cap)∧∃ q,w'=putRow (Value.int .i64) (Sort.ahead w q) blk off (Lib.compact zs ++ List.replicate (zs.length - (Lib.compact zs).length) 0).toArray:=Any.slices_Compact_int Try.laysNm220 blk off cap zs w hH hsz hcap
open Go.RowKit Go.Lib Go.Sort in
theorem Try.slices_Compact_int_empty (a:Option Addr) (cap:Nat) (w:World) :
  Calls Try.prog 91 #[.slice a 0 cap] w fun e w'=>e = .returned (.slice a 0 cap)∧w'=w:=Any.slices_Compact_int_empty Try.laysNm220 a cap w
end Go.Proofs
namespace Go.Proofs.Ytfffbioafhppiaa.Ev
open Go.Proofs Go.RowKit Go.Sort
noncomputable def cmpt (l:List Int):List Int:=Go.Lib.compact l
theorem cmpt_le (l:List Int):(cmpt l).length≤l.length:=by
 unfold cmpt Go.Lib.compact Go.Lib.compactUpTo;rw [List.length_map];exact Nat.le_trans (List.length_filter_le _ _) (by rw [List.length_range];exact Nat.le_refl _)
theorem cmpt_nil:cmpt []=[]:=rfl

theorem cmpt_srt {l:List Int} (h:l.Pairwise (· ≤ ·)):(cmpt l).Pairwise (· < ·)∧∀ a,a ∈ cmpt l↔a ∈ l:=by
 have hle:∀ i j:Nat,i≤j→j < l.length→l.toArray[i]! ≤ l.toArray[j]!:=fun i j hij hj=>by
  have hi:i < l.length:=by omega
  rw [getElem!_pos l.toArray i (by simpa using hi),getElem!_pos l.toArray j (by simpa using hj)];rcases Nat.lt_or_ge i j with h2 | h2
  ·exact (List.pairwise_iff_getElem.1 h) i j hi hj h2
  ·have:i=j:=by omega
   subst this;exact Int.le_refl _
 have key:∀ m:Nat,m≤l.length→(Go.Lib.compactUpTo l.toArray m).Pairwise (· < ·)∧(∀ a,a ∈ Go.Lib.compactUpTo l.toArray m↔∃ j,j < m∧l.toArray[j]! = a):=by
  intro m
  induction m with
  | zero=>
   intro _;exact ⟨List.Pairwise.nil,fun a=>⟨fun h=>(by cases h),fun ⟨j,h,_⟩=>(by omega)⟩⟩
  | succ m ih=>
   intro hm;obtain ⟨i1,i2⟩:=ih (by omega);rw [Go.Lib.compactUpTo_succ]
   by_cases hk:Go.Lib.keeps l.toArray m=true
   ·rw [if_pos hk];refine ⟨List.pairwise_append.2 ⟨i1,List.pairwise_singleton _ _,fun a ha b hb=>?_⟩,fun a=>?_⟩
    ·rw [List.mem_singleton] at hb;subst hb;obtain ⟨j,j1,j2⟩:=(i2 a).1 ha;subst j2;have hk2:m=0∨l.toArray[m]! ≠ l.toArray[m - 1]!:=of_decide_eq_true hk;have hne:l.toArray[m]! ≠ l.toArray[m - 1]!:=hk2.resolve_left (by omega);have h1:=hle j (m - 1) (by omega) (by omega);have h2:=hle (m - 1) m (by omega) (by omega);omega
    ·rw [List.mem_append,i2,List.mem_singleton];constructor
     ·rintro (⟨j,j1,j2⟩ | rfl)
      ·exact ⟨j,by omega,j2⟩
      ·exact ⟨m,by omega,rfl⟩
     ·rintro ⟨j,j1,j2⟩
      by_cases e:j=m
      ·subst e;exact .inr j2.symm
      ·exact .inl ⟨j,by omega,j2⟩
   ·rw [if_neg hk,List.append_nil];refine ⟨i1,fun a=>?_⟩;rw [i2];have hk2:¬ (m=0∨l.toArray[m]! ≠ l.toArray[m - 1]!):=fun e=>hk (decide_eq_true e);have hm0:m≠0:=fun e=>hk2 (.inl e);have he:l.toArray[m]! = l.toArray[m - 1]!:=Classical.byContradiction fun e=>hk2 (.inr e);constructor
    ·rintro ⟨j,j1,j2⟩;exact ⟨j,by omega,j2⟩
    ·rintro ⟨j,j1,j2⟩
     by_cases e:j=m
     ·subst e;exact ⟨j - 1,by omega,by rw [← he];exact j2⟩
     ·exact ⟨j,by omega,j2⟩
 obtain ⟨k1,k2⟩:=key l.length (Nat.le_refl _);refine ⟨k1,fun a=>(k2 a).trans ?_⟩;constructor
 ·rintro ⟨j,j1,rfl⟩
  rw [getElem!_pos l.toArray j (by simpa using j1)];exact List.getElem_mem j1
 ·intro ha;obtain ⟨j,j1,rfl⟩:=List.getElem_of_mem ha;exact ⟨j,j1,by rw [getElem!_pos l.toArray j (by simpa using j1)];rfl⟩
noncomputable def spCmp:ZMT:=fun ax K0 m=>match ax,K0 with
 | [.slO 0 1 len nn],[(0,.seq ty (.ints .i64 l) nn')]=>bc (Nat.beq m 1) (some ⟨bc (Nat.beq len l.length) (bc (Nat.ble len 65536) (eqN nn nn') false) false,.slO 0 1 (cmpt l).length nn',[(0,.seq ty (.ints .i64 (cmpt l)) nn')],1,1⟩) none
 | _,_=>none
theorem spCmp_ok:ZMtOk Try.prog 91 spCmp:=fun γ w0 w us ax K0 m r hs hc hres hax hH=>by
 unfold spCmp at hs;split at hs
 case h_2=>cases hs
 rename_i len nn ty l nn';obtain ⟨hm,rfl⟩:=noN hs;have hm:=Nat.eq_of_beq_eq_true hm;subst hm;obtain ⟨hc1,hc2⟩:=bcT (show bc (Nat.beq len l.length) (bc (Nat.ble len 65536) (eqN nn nn') false) false=true from hc)
 obtain ⟨hc2,hc3⟩:=bcT hc2;have hc1:=Nat.eq_of_beq_eq_true hc1;have hc2:=Nat.le_of_ble_eq_true hc2;have hc3:=eqN_ok hc3;subst hc1;subst hc3;obtain ⟨x,r1,e1,hx,hcr⟩:=ECL.inv hax;have e3:r1=[]:=by apply List.eq_nil_of_length_eq_zero;have:=hcr.1;simpa using this.symm
 subst e3;have eu:us = #[x]:=by apply Array.ext';simpa using e1
 rw [eu];have hg:(mkT [(0,EK.seq ty (.ints .i64 l) nn)]).get 0=some (.seq ty (.ints .i64 l) nn):=rfl;have stay:l=[]→EC γ (.slO 0 1 (cmpt l).length nn) x∧HR γ w0 (mkT [(0,EK.seq ty (.ints .i64 (cmpt l)) nn)]) 1 w:=fun h=>by
  subst h;rw [cmpt_nil];exact ⟨hx,hH⟩
 have hx0:=hx
 cases hx with
 | slO _ _ _ _ _ hx=>
 cases hnn:nn with
 | false=>
  subst hnn;obtain ⟨rfl,hl⟩:=hx.1 rfl;have hl:l=[]:=List.eq_nil_of_length_eq_zero hl;obtain ⟨s1,s2⟩:=stay hl;refine (Try.slices_Compact_int_empty none 0 w).mono ?_
  rintro e w' ⟨rfl,rfl⟩
  exact ⟨γ,_,rfl,s1,s2,fun j p _ h=>h⟩
 | true=>
  subst hnn;obtain ⟨b,mm,c,g1,rfl,g2,g3,g4⟩:=hx.2 rfl;have hn:¬ (EK.seq ty (.ints .i64 l) true).Nil:=fun e=>by cases e.1
  obtain ⟨b2,m2,q1,q2,ca,q3,q4,q5,q6⟩:=hH.hp 0 _ hg hn;rw [g1] at q1;simp only [Option.some.injEq,Prod.mk.injEq] at q1;obtain ⟨rfl,rfl⟩:=q1;have hholds:Go.Sort.Holds (Value.int .i64) w b.k b.s l.toArray:=fun j hj=>by
   have hj:j < l.length:=by simpa using hj
   obtain ⟨c1,c2⟩:=cell_of (off:=j) q3;have hlt:b.s+j < ca.size:=by rw [ints_enc,List.length_map] at q5;omega
   refine ⟨?_,c2 hlt⟩;rw [show (⟨b.k,b.s+j,none⟩:Addr)=b.at j from rfl,c1,Array.getElem?_eq_getElem hlt]
   have h1:=q6.2 j (.v (.int .i64 l[j])) ca[b.s+j] (by rw [ints_enc,List.getElem?_map,List.getElem?_eq_getElem hj];rfl) (by
    rw [List.getElem?_take,if_pos (by rw [ints_enc,List.length_map];exact hj),List.getElem?_drop,Array.getElem?_toList,Array.getElem?_eq_getElem hlt])
   rw [ec_v h1];simp [hj]
  refine (Try.slices_Compact_int b.k b.s c l w hholds (by omega) g2).mono ?_
  rintro e w' ⟨rfl,q,rfl⟩
  have hle:=cmpt_le l;have h1:=hH.putInts (l':=Go.Lib.compact l ++ List.replicate (l.length - (Go.Lib.compact l).length) 0) rfl hg g1 (by
   have:(Go.Lib.compact l).length≤l.length:=hle;rw [List.length_append,List.length_replicate];omega) hn q
  refine ⟨γ,_,rfl,.slO 0 1 _ true _ ⟨fun e=>(by cases e),fun _=>⟨b,mm,c,g1,rfl,?_,g3,g4⟩⟩,?_,fun j p _ h=>h⟩
  ·have:(Go.Lib.compact l).length≤l.length:=hle;show (cmpt l).length≤c;omega
  ·have h2:=h1.recast (i:=0) (by rfl) (k:=.seq ty (.ints .i64 (cmpt l)) true) (by rw [Tr.get_put (by rfl),if_pos rfl]) (fun e=>by cases e.1) fun b m hk=>by
    obtain ⟨c',z1,z2,z3,z4⟩:=hk;refine ⟨c',z1,z2,?_,?_⟩
    ·rw [ints_enc,List.length_map] at z3 ⊢;rw [List.length_append] at z3;have:(cmpt l).length=(Go.Lib.compact l).length:=rfl;omega
    ·rw [ints_enc] at z4 ⊢;rw [List.map_append] at z4;rw [List.length_append,List.length_map,List.length_map] at z4;rw [List.length_map];refine ⟨by
      have h9:=z4.1;rw [List.length_append,List.length_map,List.length_map,List.length_take,List.length_drop] at h9;have:(cmpt l).length=(Go.Lib.compact l).length:=rfl;rw [List.length_map,List.length_take,List.length_drop];omega,fun j a y ha hy=>?_⟩
     have hj:j < (cmpt l).length:=by
      rcases Nat.lt_or_ge j (cmpt l).length with hj | hj
      ·exact hj
      ·rw [List.getElem?_eq_none (by rw [List.length_map];exact hj)] at ha;cases ha
     refine z4.2 j a y (by rw [List.getElem?_append_left (by rw [List.length_map];exact hj)];exact ha) ?_;rw [List.getElem?_take] at hy ⊢;rw [if_pos hj] at hy;rw [if_pos (by have:(cmpt l).length=(Go.Lib.compact l).length:=rfl;omega)];exact hy
   refine h2.congr fun j k hj=>?_;rw [Tr.get_put (by rfl)]
   by_cases hj0:j=0
   ·subst hj0;rw [if_pos rfl];exact hj
   ·have:=mkT_get hj;simp at this;exact absurd this.1 hj0
end Go.Proofs.Ytfffbioafhppiaa.Ev
namespace Go.Proofs.Ytfffbioafhppiaa.Ev
open Go.Proofs Go.RowKit Go.Sort
noncomputable def spSort0:ZMT:=fun ax K0 m=>match ax,K0 with
 | [.slO 0 1 len nn],[(0,.seq ty (.ints .i64 l) nn')]=>bc (Nat.beq m 1) (some ⟨bc nn false (bc nn' false (Nat.beq l.length 0)),.tup [],[(0,.seq ty (.ints .i64 l) nn')],1,0⟩) none
 | _,_=>none
theorem spSort0_ok:ZMtOk Try.prog 90 spSort0:=fun γ w0 w us ax K0 m r hs hc hres hax hH=>by
 unfold spSort0 at hs;split at hs
 case h_2=>cases hs
 rename_i len nn ty l nn';obtain ⟨hm,rfl⟩:=noN hs;have hm:=Nat.eq_of_beq_eq_true hm;subst hm;have hc:bc nn false (bc nn' false (Nat.beq l.length 0))=true:=hc
 cases nn with
 | true=>cases hc
 | false=>
 cases nn' with
 | true=>cases hc
 | false=>
 obtain ⟨x,r1,e1,hx,hcr⟩:=ECL.inv hax;have e3:r1=[]:=by apply List.eq_nil_of_length_eq_zero;have:=hcr.1;simpa using this.symm
 subst e3;have eu:us = #[x]:=by apply Array.ext';simpa using e1
 rw [eu]
 cases hx with
 | slO _ _ _ _ _ hx=>
 obtain ⟨rfl,hl⟩:=hx.1 rfl;refine (Try.slices_Sort_int_none none 0 w).mono ?_
 rintro e w' ⟨rfl,rfl⟩
 exact ⟨γ,_,rfl,.tup [] [] rfl (fun j a x h=>by simp at h),hH,fun j p h _=>by omega⟩
noncomputable def spCmp0:ZMT:=fun ax K0 m=>match ax,K0 with
 | [.slO _ 1 _ nn],[]=>some ⟨bc nn false true,.v (.slice none 0 0),[],m,0⟩
 | _,_=>none
theorem spCmp0_ok:ZMtOk Try.prog 91 spCmp0:=fun γ w0 w us ax K0 m r hs hc hres hax hH=>by
 unfold spCmp0 at hs;split at hs
 case h_2=>cases hs
 rename_i i len nn;injection hs with hs;subst hs
 have hc:bc nn false true=true:=hc
 cases nn with
 | true=>cases hc
 | false=>
 obtain ⟨x,r1,e1,hx,hcr⟩:=ECL.inv hax;have e3:r1=[]:=by apply List.eq_nil_of_length_eq_zero;have:=hcr.1;simpa using this.symm
 subst e3;have eu:us = #[x]:=by apply Array.ext';simpa using e1
 rw [eu]
 cases hx with
 | slO _ _ _ _ _ hx=>
 obtain ⟨rfl,hl⟩:=hx.1 rfl;refine (Try.slices_Compact_int_empty none 0 w).mono ?_
 rintro e w' ⟨rfl,rfl⟩
 exact ⟨γ,_,rfl,.v _,hH,fun j p h _=>by omega⟩
end Go.Proofs.Ytfffbioafhppiaa.Ev
namespace Go.Proofs.Ytfffbioafhppiaa.Ev
open Go.Proofs

noncomputable def spCmpA:ZMT:=fun ax K0 m=>match spCmp ax K0 m with
 | some r=>some ⟨r.c,r.a,r.K,r.n,0⟩
 | none=>none
theorem spCmpA_ok:ZMtOk Try.prog 91 spCmpA:=fun γ w0 w us ax K0 m r hs hc hres hax hH=>by
 unfold spCmpA at hs
 cases h:spCmp ax K0 m with
 | none=>rw [h] at hs;cases hs
 | some r'=>
  rw [h] at hs;obtain rfl:=Option.some.inj hs;refine (spCmp_ok γ w0 w us ax K0 m r' h hc hres hax hH).mono ?_
  rintro e w' ⟨γ',x,h1,h2,h3,_⟩
  exact ⟨γ',x,h1,h2,h3,fun j p hj _=>by cases hj⟩
noncomputable def ctPl:Tr ZCC:=(((Tr.nil.put 18 (some (dC spPFd))).put 90 (some (mC spSort))).put 91 (some (mC (ZMT.or spCmpA spCmp0))))
theorem ctPl_ok:ZCtsOk Try.prog ctPl:=(((ZCtsOk.nil _).add rfl spPFd_ok).addM rfl spSort_ok).addM rfl (spCmpA_ok.or spCmp0_ok)
noncomputable def ctPl0:Tr ZCC:=(Tr.nil.put 90 (some (mC spSort0)))
theorem ctPl0_ok:ZCtsOk Try.prog ctPl0:=(ZCtsOk.nil _).addM rfl spSort0_ok
namespace PLos
noncomputable def places:PLs:=[(atS 0 41 6,[[(1,none),(4,none),(6,none),(24,none),(25,none)]]),(atS 0 41 12,[[(4,none),(6,none),(8,some (1,3,.ints .i64 [])),(34,none),(35,none),(36,none)]]),(atS 0 41 16,[[(4,none),(6,none),(8,some (1,3,.ints .i64 [])),(9,none),(11,none),(34,none),(35,none),(36,none)]]),(atR 0 41 18,[[(4,none),(6,none),(8,some (1,3,.ints .i64 [])),(11,none),(34,none),(35,none),(36,none)]]),(atS 0 41 21,[[(8,none)]])]
noncomputable def RUN (s:ES):ZF:=RZs 41 ctPl places [] false s
noncomputable def RUN0 (s:ES):ZF:=RZs 41 ctPl0 places [] false s

noncomputable def sA (t:Int) (l gn q:List Int) (y:Nat) (i:Int):NS:=⟨[⟨41,90,[(1,(EV.ptr 0 0)),(4,il gn),(6,EV.slO 1 1 y true),(24,iv y),(25,iv i)],[.it (.code (nav [1,1,1,1,0,1,0,0] (bodyOf Try.f41))),.it (.inLoop (nav [1,1,1,1,0,1,0,0] (bodyOf Try.f41))),.it (.inBlock 0),.it (.code (nav [1,1,1,1,1] (bodyOf Try.f41)))],[],Option.none⟩],[(0,(EK.cells 24 [(EV.v (Value.int IntKind.i64 (t))),(EV.lst (SyC.ints IntKind.i64 (l)))] true)),(1,EK.seq 3 (.ints .i64 q) true)],2⟩
noncomputable def sB (l gn q:List Int) (y:Nat) (g:List Int) (nn:Bool) (i:Int):NS:=⟨[⟨41,90,[(4,il gn),(6,EV.slO 0 1 y true),(8,EV.slO 1 1 g.length nn),(34,(EV.lst (SyC.ints IntKind.i64 (l)))),(35,(EV.v (Value.int IntKind.i64 (Int.ofNat (List.length l))))),(36,iv i)],[.it (.code (nav [1,1,1,1,1,1,0,1,0,0] (bodyOf Try.f41))),.it (.inLoop (nav [1,1,1,1,1,1,0,1,0,0] (bodyOf Try.f41))),.it (.inBlock 2),.it (.code (nav [1,1,1,1,1,1,1] (bodyOf Try.f41)))],[],Option.none⟩],[(0,EK.seq 3 (.ints .i64 q) true),(1,EK.seq 3 (.ints .i64 g) nn)],2⟩
noncomputable def sK (l gn q:List Int) (y:Nat) (g:List Int) (nn:Bool) (i n:Int):NS:=⟨[⟨41,90,[(4,(EV.lst (SyC.ints IntKind.i64 (gn)))),(6,(EV.slO 0 1 (y) true)),(8,(EV.slO 1 1 (List.length g) (nn))),(9,iv i),(11,iv n),(34,il l),(35,iv l.length),(36,iv i)],[.it (.code (nav [1,1,1,1,1,1,0,1,0,0,1,1,0,0,1,1,1,0] (bodyOf Try.f41))),.it (.code (nav [1,1,1,1,1,1,0,1,0,0,1,1,0,0,1,1,1,1] (bodyOf Try.f41))),.it (.inBlock 3),.it (.code (nav [1,1,1,1,1,1,0,1,0,0,1,1,1] (bodyOf Try.f41))),.it (.inLoop (nav [1,1,1,1,1,1,0,1,0,0] (bodyOf Try.f41))),.it (.inBlock 2),.it (.code (nav [1,1,1,1,1,1,1] (bodyOf Try.f41)))],[],Option.none⟩],[(0,(EK.seq 3 (SyC.ints IntKind.i64 (q)) true)),(1,(EK.seq 3 (SyC.ints IntKind.i64 (g)) (nn)))],2⟩
noncomputable def sM (l gn q:List Int) (y:Nat) (g:List Int) (nn:Bool) (i n:Int):NS:=⟨[⟨41,90,[(4,il gn),(6,(EV.slO 0 1 (y) true)),(8,(EV.slO 1 1 (List.length g) (nn))),(11,iv n),(34,il l),(35,iv l.length),(36,iv i)],[.it (.code (nav [1,1,1,1,1,1,0,1,0,0,1,1,0,0,1,1,1,1] (bodyOf Try.f41))),.it (.inBlock 3),.it (.code (nav [1,1,1,1,1,1,0,1,0,0,1,1,1] (bodyOf Try.f41))),.it (.inLoop (nav [1,1,1,1,1,1,0,1,0,0] (bodyOf Try.f41))),.it (.inBlock 2),.it (.code (nav [1,1,1,1,1,1,1] (bodyOf Try.f41)))],[],Option.none⟩],[(0,(EK.seq 3 (SyC.ints IntKind.i64 (q)) true)),(1,(EK.seq 3 (SyC.ints IntKind.i64 (g)) (nn)))],2⟩
noncomputable def sZ (g:List Int) (m:Nat) (nn:Bool):NS:=⟨[⟨41,90,[(8,EV.slO 0 1 m nn)],[.it (.code (nav [1,1,1,1,1,1,1,1] (bodyOf Try.f41)))],[],Option.none⟩],[(0,EK.seq 3 (.ints .i64 g) nn)],1⟩
noncomputable def sY  : NS:=⟨[⟨41,90,[(8,(EV.slO 0 1 0 false))],[.it (.code (nav [1,1,1,1,1,1,1,1] (bodyOf Try.f41)))],[],Option.none⟩],[],1⟩
theorem in_t (t:Int) (l:List Int):RUN (st0 41 [hE t l])=(bc (decide (In64 l)) (bc (chkL t l != (0:Int)) (.done (EV.tup [(EV.v (Value.slice Option.none 0 0)),(EV.v (Value.int IntKind.i64 (chkL t l)))]) [] 0) (bc (bc (decide ((0:Int)≤t)) (bc (decide (t≤t)) (decide (t≤(65536:Int))) false) false) (.at (sA (t) (l) (bc (chkL t l != (0:Int)) [] (gF l (tgA l) fun x=>true)) (zerosL (Int.toNat t)) (List.length (zerosL (Int.toNat t))) ((0:Int)))) .bad)) .bad):=by kernel_rfl
theorem a_t (t:Int) (l gn q:List Int) (y:Nat) (i:Int):RUN (stOf (sA t l gn q y i))=(bc (decide (i < (Nat.cast y:Int))) (bc (bc (bc (decide ((0:Int)≤i)) (Nat.blt (Int.toNat i) y) false) true false) (bc (Nat.blt (Int.toNat i) (List.length q)) (.at (sA (t) (l) (gn) (List.set q (Int.toNat i) i) (y) (IntKind.wrap IntKind.i64 (i+(1:Int))))) .bad) .bad) (.at (sB (l) (gn) (q) (y) ([]) (false) ((0:Int))))):=by kernel_rfl
theorem b_t (l gn q:List Int) (y:Nat) (g:List Int) (i:Int):RUN (stOf (sB l gn q y g true i))=(bc (decide (i < Int.ofNat (List.length l))) (bc (bc (bc (decide ((0:Int)≤i)) (Nat.blt (Int.toNat i) (List.length l)) false) true false) (bc (bc (Nat.blt (Int.toNat i) (List.length l)) true false) (bc (decide ((1000:Int) < List.getD l (Int.toNat i) (0:Int))) (.at (sB (l) (gn) (q) (y) (g) (true) (IntKind.wrap IntKind.i64 (i+(1:Int))))) (bc (decide ((1000:Int) < List.getD l (Int.toNat i) (0:Int))) (.at (sK (l) (gn) (q) (y) (g) (true) (i) (IntKind.wrap IntKind.i64 (List.getD l (Int.toNat i) (0:Int) - (1000:Int))))) (bc (decide (List.getD l (Int.toNat i) (0:Int) < (0:Int))) (.at (sK (l) (gn) (q) (y) (g) (true) (i) (IntKind.wrap IntKind.i64 ((0:Int) - List.getD l (Int.toNat i) (0:Int))))) (.at (sK (l) (gn) (q) (y) (g) (true) (i) (List.getD l (Int.toNat i) (0:Int))))))) .bad) .bad) (bc (bc (bc (Nat.beq (List.length g) (List.length g)) (bc (Nat.ble (List.length g) (65536:Nat)) true false) false) true false) (.at (sZ (srt g) (List.length g) (true))) .bad)):=by kernel_rfl
theorem b0_t (l gn q:List Int) (y:Nat) (i:Int):RUN0 (stOf (sB l gn q y [] false i))=(bc (decide (i < Int.ofNat (List.length l))) (bc (bc (bc (decide ((0:Int)≤i)) (Nat.blt (Int.toNat i) (List.length l)) false) true false) (bc (bc (Nat.blt (Int.toNat i) (List.length l)) true false) (bc (decide ((1000:Int) < List.getD l (Int.toNat i) (0:Int))) (.at (sB (l) (gn) (q) (y) ([]) (false) (IntKind.wrap IntKind.i64 (i+(1:Int))))) (bc (decide ((1000:Int) < List.getD l (Int.toNat i) (0:Int))) (.at (sK (l) (gn) (q) (y) ([]) (false) (i) (IntKind.wrap IntKind.i64 (List.getD l (Int.toNat i) (0:Int) - (1000:Int))))) (bc (decide (List.getD l (Int.toNat i) (0:Int) < (0:Int))) (.at (sK (l) (gn) (q) (y) ([]) (false) (i) (IntKind.wrap IntKind.i64 ((0:Int) - List.getD l (Int.toNat i) (0:Int))))) (.at (sK (l) (gn) (q) (y) ([]) (false) (i) (List.getD l (Int.toNat i) (0:Int))))))) .bad) .bad) (.at (sY ))):=by kernel_rfl
theorem k_t (l gn q:List Int) (y:Nat) (g:List Int) (nn:Bool) (i n:Int):RUN (stOf (sK l gn q y g nn i n))=(bc (decide ((0:Int) < Int.ofNat (List.length gn))) (bc (bc (Nat.blt (Int.toNat (0:Int)) (List.length gn)) true false) (bc (bc (Nat.blt (Int.toNat (0:Int)) (List.length gn)) true false) (bc (List.getD gn (Int.toNat (0:Int)) (0:Int) == i) (bc (bc (bc (bc (bc (decide ((0:Int)≤IntKind.wrap IntKind.i64 (n - (1:Int)))) (Nat.blt (Int.toNat (IntKind.wrap IntKind.i64 (n - (1:Int)))) y) false) true false) (bc (bc (Nat.blt (Int.toNat (IntKind.wrap IntKind.i64 (n - (1:Int)))) (List.length q)) true false) (bc (bc (bc (decide ((0:Int)≤n)) (Nat.blt (Int.toNat n) y) false) true false) (bc (bc (Nat.blt (Int.toNat n) (List.length q)) true false) (bc (bc (Nat.beq (List.length g) (List.length g)) (bc (Nat.ble (List.length g+List.length (List.map (fun r=>U.int (List.headD r (U.i (0:Int)))) [[U.i (List.getD q (Int.toNat (IntKind.wrap IntKind.i64 (n - (1:Int)))) (0:Int))],[U.i (List.getD q (Int.toNat n) (0:Int))]])) (65536:Nat)) (bc nn true (bc nn false true)) false) false) (bc (bc (bc (decide ((1:Int)≤Int.ofNat (List.length gn))) (decide (Int.ofNat (List.length gn)≤Int.ofNat (List.length gn))) false) true false) true false) false) false) false) false) false) true false) (.at (sM (l) (List.drop (Int.toNat (1:Int)) (List.take (Int.toNat (Int.ofNat (List.length gn))) gn)) (q) (y) (g ++ List.map (fun r=>U.int (List.headD r (U.i (0:Int)))) [[U.i (List.getD q (Int.toNat (IntKind.wrap IntKind.i64 (n - (1:Int)))) (0:Int))],[U.i (List.getD q (Int.toNat n) (0:Int))]]) (bc nn true (Nat.blt (0:Nat) (List.length (List.map (fun r=>U.int (List.headD r (U.i (0:Int)))) [[U.i (List.getD q (Int.toNat (IntKind.wrap IntKind.i64 (n - (1:Int)))) (0:Int))],[U.i (List.getD q (Int.toNat n) (0:Int))]])))) (i) (n))) .bad) (.at (sM (l) (gn) (q) (y) (g) (nn) (i) (n)))) .bad) .bad) (.at (sM (l) (gn) (q) (y) (g) (nn) (i) (n)))):=by kernel_rfl
theorem m_t (l gn q:List Int) (y:Nat) (g:List Int) (nn:Bool) (i n:Int):RUN (stOf (sM l gn q y g nn i n))=(bc (bc (bc (bc (bc (decide ((0:Int)≤n)) (Nat.blt (Int.toNat n) y) false) true false) (bc (bc (Nat.blt (Int.toNat n) (List.length q)) true false) (bc (bc (bc (decide ((0:Int)≤IntKind.wrap IntKind.i64 (n - (1:Int)))) (Nat.blt (Int.toNat (IntKind.wrap IntKind.i64 (n - (1:Int)))) y) false) true false) (bc (bc (Nat.blt (Int.toNat (IntKind.wrap IntKind.i64 (n - (1:Int)))) (List.length q)) true false) (bc (bc (bc (decide ((0:Int)≤IntKind.wrap IntKind.i64 (n - (1:Int)))) (Nat.blt (Int.toNat (IntKind.wrap IntKind.i64 (n - (1:Int)))) y) false) true false) (bc (Nat.blt (Int.toNat (IntKind.wrap IntKind.i64 (n - (1:Int)))) (List.length q)) (bc (bc (bc (decide ((0:Int)≤n)) (Nat.blt (Int.toNat n) y) false) true false) (bc (Nat.blt (Int.toNat n) (List.length (List.set q (Int.toNat (IntKind.wrap IntKind.i64 (n - (1:Int)))) (List.getD q (Int.toNat n) (0:Int))))) true false) false) false) false) false) false) false) false) true false) (.at (sB (l) (gn) (List.set (List.set q (Int.toNat (IntKind.wrap IntKind.i64 (n - (1:Int)))) (List.getD q (Int.toNat n) (0:Int))) (Int.toNat n) (List.getD q (Int.toNat (IntKind.wrap IntKind.i64 (n - (1:Int)))) (0:Int))) (y) (g) (nn) (IntKind.wrap IntKind.i64 (i+(1:Int))))) .bad):=by kernel_rfl
theorem z_t (g:List Int) (m:Nat) (nn:Bool):RUN (stOf (sZ g m nn))=(bc (bc (bc (Nat.beq m (List.length g)) (bc (Nat.ble m (65536:Nat)) (eqN nn nn) false) false) true false) (bc (bc (Nat.beq (List.length (cmpt g)) (List.length (cmpt g))) true false) (.done (EV.tup [(EV.lst (SyC.ints IntKind.i64 (cmpt g))),(EV.v (Value.int IntKind.i64 (0)))]) [] 0) .bad) .bad):=by kernel_rfl
theorem y_t  : RUN (stOf sY)=(.done (EV.tup [(EV.v (Value.slice Option.none 0 0)),(EV.v (Value.int IntKind.i64 (0)))]) [] 0):=by kernel_rfl
theorem oneP (x y:Int):List.map (fun r=>U.int (List.headD r (U.i (0:Int)))) [[U.i x],[U.i y]]=[x,y]:=rfl
variable {n:Nat} {l:List Int} {G:List Nat}
theorem lead {s:ES} {r:NS} {a:EV} {K:List (Nat × EK)} {m:Nat} (h:RUN0 s = .at r) (k:EndZ 41 ctPl false (stOf r) a K m):EndZ 41 ctPl false s a K m:=k.lead (leadsZ ctPl0_ok h)
theorem stepK {nn:Bool} {i:Nat} (hL:LetT n l) (hn:n≤48) (hl:l.length≤2000) (hG:AscI l.length G) (hi:i < l.length) (hp:isPn (l.getD i 0)=false):RUN (stOf (sK l (ofNs (gonI G i)) (linI l n i) n (outI l n G i) nn i ((numL (l.getD i 0)).toNat:Nat))) = .at (sM l (ofNs (gonI G (i+1))) (linI l n i) n (outI l n G (i+1)) (if i ∈ G then true else nn) i ((numL (l.getD i 0)).toNat:Nat)):=by
 obtain ⟨hl1,hl2⟩:=lin_ok hL i (by omega);obtain ⟨q1,q2⟩:=hL i hi hp;obtain ⟨k,hk⟩:∃ k,(numL (l.getD i 0)).toNat=k:=⟨_,rfl⟩;have eO:outI l n G (i+1)=if !isPn (l.getD i 0) && decide (i ∈ G) then outI l n G i ++ [(linI l n i).getD ((numL (l.getD i 0)).toNat - 1) 0,(linI l n i).getD (numL (l.getD i 0)).toNat 0] else outI l n G i:=rfl
 rw [hk] at q1 q2 eO ⊢;rw [hp] at eO;have h1:=k_t l (ofNs (gonI G i)) (linI l n i) n (outI l n G i) nn i k;have w:IntKind.wrap IntKind.i64 ((k:Int) - 1)=((k - 1:Nat):Int):=by rw [wrap_in _ (by omega) (by omega)];omega
 have e0:∀ x:Nat,Int.toNat (x:Int)=x:=fun _=>rfl;have hol:=out_len (l:=l) (t:=n) (G:=G) i;rw [w,e0,e0,oneP] at h1
 by_cases c:i ∈ G
 ·rw [gonI_in hG c] at h1;have en:ofNs (i :: gonI G (i+1))=(i:Int) :: ofNs (gonI G (i+1)):=rfl;rw [decide_eq_true c,if_pos (show (!false && true)=true from rfl)] at eO
  rw [en,show (List.getD ((i:Int) :: ofNs (gonI G (i+1))) (Int.toNat 0) 0 == (i:Int))=true from beq_self_eq_true _,show List.drop (Int.toNat 1) (List.take (Int.toNat (Int.ofNat ((i:Int) :: ofNs (gonI G (i+1))).length)) ((i:Int) :: ofNs (gonI G (i+1))))=ofNs (gonI G (i+1)) by
   rw [show Int.toNat (Int.ofNat ((i:Int) :: ofNs (gonI G (i+1))).length)=((i:Int) :: ofNs (gonI G (i+1))).length from rfl,List.take_length];rfl,← eO] at h1
  have w1:bc nn true (Nat.blt 0 (List.length [(linI l n i).getD (k - 1) 0,(linI l n i).getD k 0]))=true:=by cases nn <;> rfl
  have w2:bc nn true (bc nn false true)=true:=by cases nn <;> rfl
  rw [w1,w2] at h1;rw [if_pos c];have hgl:(ofNs (gonI G (i+1))).length≤2000:=by
   rw [ofNs_len];have h1:(gonI G (i+1)).length≤G.length:=List.length_filter_le _ _;have:=asc_len hG;omega
  simp (disch:=omega) only [Nat.add_eq,eqSy_self,eqN_self,bc_same,List.length_cons,ofn,wrap_in,dt,df,bltD,bltN,ble_of,bleN,beqD,bc_t,bc_f,nn_ok,Nat.zero_add,to_nat,Int.zero_add,Int.sub_zero,Int.sub_self,Int.cast_ofNat_Int,Int.natCast_zero,Int.toNat_zero,List.take_zero,List.nil_append,List.length_append,List.length_nil,hl1] at h1;rw [gonI_in hG c,en];exact h1
 ·rw [decide_eq_false c,if_neg (by simp)] at eO;rw [← gonI_out c,eO,if_neg c]
  cases hg:gonI G i with
  | nil=>
   rw [hg] at h1;rw [df (show ¬ (0:Int) < Int.ofNat (ofNs []).length by decide),bc_f] at h1;exact h1
  | cons x Q=>
   rw [hg] at h1;have hx:=gonI_hd c hg;have en:ofNs (x :: Q)=(x:Int) :: ofNs Q:=rfl;rw [en,show (List.getD ((x:Int) :: ofNs Q) (Int.toNat 0) 0 == (i:Int))=false from beq_eq_false_iff_ne.2 (by show ¬ (x:Int)=i;omega),dt (show (0:Int) < Int.ofNat ((x:Int) :: ofNs Q).length by rw [ofn,List.length_cons];omega)] at h1
   have hb:Nat.blt (Int.toNat 0) ((x:Int) :: ofNs Q).length=true:=Nat.ble_eq_true_of_le (by rw [List.length_cons];show 0+1≤_;omega);rw [hb] at h1;simp (disch:=omega) only [Nat.add_eq,eqSy_self,eqN_self,bc_same,List.length_cons,ofn,wrap_in,dt,df,bltD,bltN,ble_of,bleN,beqD,bc_t,bc_f,nn_ok,Nat.zero_add,to_nat,Int.zero_add,Int.sub_zero,Int.sub_self,Int.cast_ofNat_Int,Int.natCast_zero,Int.toNat_zero,List.take_zero,List.nil_append,List.length_append,List.length_nil] at h1;rw [en];exact h1
theorem stepM {g gn:List Int} {nn:Bool} {i:Nat} (hL:LetT n l) (hn:n≤48) (hl:l.length≤2000) (hi:i < l.length) (hp:isPn (l.getD i 0)=false):RUN (stOf (sM l gn (linI l n i) n g nn i ((numL (l.getD i 0)).toNat:Nat))) = .at (sB l gn (linI l n (i+1)) n g nn (i+1:Nat)):=by
 obtain ⟨hl1,hl2⟩:=lin_ok hL i (by omega);obtain ⟨q1,q2⟩:=hL i hi hp;obtain ⟨k,hk⟩:∃ k,(numL (l.getD i 0)).toNat=k:=⟨_,rfl⟩;have eL:linI l n (i+1)=((linI l n i).set (k - 1) ((linI l n i).getD k 0)).set k ((linI l n i).getD (k - 1) 0):=by
  show (if isPn (l.getD i 0)=true then linI l n i else swp (linI l n i) ((numL (l.getD i 0)).toNat - 1))=_
  rw [hp,if_neg (by simp),hk];unfold swp;rw [show k - 1+1=k by omega]
 rw [hk] at q1 q2 ⊢;have h1:=m_t l gn (linI l n i) n g nn i k;have w:IntKind.wrap IntKind.i64 ((k:Int) - 1)=((k - 1:Nat):Int):=by rw [wrap_in _ (by omega) (by omega)];omega
 have w4:IntKind.wrap IntKind.i64 ((i:Int)+1)=((i+1:Nat):Int):=by rw [wrap_in _ (by omega) (by omega)];omega
 have e0:∀ x:Nat,Int.toNat (x:Int)=x:=fun _=>rfl;rw [w,w4,e0,e0,← eL] at h1;simp (disch:=omega) only [Nat.add_eq,eqSy_self,eqN_self,bc_same,List.length_cons,ofn,wrap_in,dt,df,bltD,bltN,ble_of,bleN,beqD,bc_t,bc_f,nn_ok,Nat.zero_add,to_nat,Int.zero_add,Int.sub_zero,Int.sub_self,Int.cast_ofNat_Int,Int.natCast_zero,Int.toNat_zero,List.take_zero,List.nil_append,List.length_append,List.length_nil,hl1,List.length_set] at h1;exact h1
theorem num_of {x:Int} (h:LetOk x) (hp:isPn x=false):(x < 0→IntKind.wrap IntKind.i64 (0 - x)=(((numL x).toNat:Nat):Int))∧(¬ x < 0→x=(((numL x).toNat:Nat):Int)):=by
 have hp:=of_decide_eq_false hp;unfold LetOk at h;unfold numL;rw [if_neg hp];constructor
 ·intro q;rw [wrap_in _ (by omega) (by omega),if_pos q];omega
 ·intro q;rw [if_neg q];omega

theorem round {nn:Bool} {i:Nat} {R:EV} (hL:LetT n l) (hn:n≤48) (hl:l.length≤2000) (hx:∀ x,x ∈ l→LetOk x) (hG:AscI l.length G) (hGp:∀ z,z ∈ G→isPn (l.getD z 0)=false) (hi:i < l.length) (hnn:nn=false→outI l n G i=[])
  (H:∀ nn':Bool,(nn'=false→outI l n G (i+1)=[])→EndZ 41 ctPl false (stOf (sB l (ofNs (gonI G (i+1))) (linI l n (i+1)) n (outI l n G (i+1)) nn' (i+1:Nat))) R [] 0):EndZ 41 ctPl false (stOf (sB l (ofNs (gonI G i)) (linI l n i) n (outI l n G i) nn i)) R [] 0:=by
 have e0:Int.toNat (i:Int)=i:=rfl;have w4:IntKind.wrap IntKind.i64 ((i:Int)+1)=((i+1:Nat):Int):=by rw [wrap_in _ (by omega) (by omega)];omega
 have hm:l.getD i 0 ∈ l:=by rw [getD_at hi];exact List.getElem_mem hi
 have key:(1000 < l.getD i 0∧isPn (l.getD i 0)=true∧RUN (stOf (sB l (ofNs (gonI G i)) (linI l n i) n (outI l n G i) true i)) = .at (sB l (ofNs (gonI G i)) (linI l n i) n (outI l n G i) true (i+1:Nat))∧RUN0 (stOf (sB l (ofNs (gonI G i)) (linI l n i) n [] false i)) = .at (sB l (ofNs (gonI G i)) (linI l n i) n [] false (i+1:Nat)))∨(isPn (l.getD i 0)=false∧RUN (stOf (sB l (ofNs (gonI G i)) (linI l n i) n (outI l n G i) true i)) = .at (sK l (ofNs (gonI G i)) (linI l n i) n (outI l n G i) true i ((numL (l.getD i 0)).toNat:Nat))∧RUN0 (stOf (sB l (ofNs (gonI G i)) (linI l n i) n [] false i)) = .at (sK l (ofNs (gonI G i)) (linI l n i) n [] false i ((numL (l.getD i 0)).toNat:Nat))):=by
  have h1:=b_t l (ofNs (gonI G i)) (linI l n i) n (outI l n G i) i;have h2:=b0_t l (ofNs (gonI G i)) (linI l n i) n i;rw [e0,w4] at h1 h2
  by_cases c:1000 < l.getD i 0
  ·rw [dt c] at h1 h2;simp (disch:=omega) only [Nat.add_eq,eqSy_self,eqN_self,bc_same,List.length_cons,ofn,wrap_in,dt,df,bltD,bltN,ble_of,bleN,beqD,bc_t,bc_f,nn_ok,Nat.zero_add,to_nat,Int.zero_add,Int.sub_zero,Int.sub_self,Int.cast_ofNat_Int,Int.natCast_zero,Int.toNat_zero,List.take_zero,List.nil_append,List.length_append,List.length_nil] at h1 h2;exact .inl ⟨c,decide_eq_true c,h1,h2⟩
  ·have hp:isPn (l.getD i 0)=false:=decide_eq_false c;obtain ⟨n1,n2⟩:=num_of (hx _ hm) hp;rw [df c] at h1 h2
   by_cases d:l.getD i 0 < 0
   ·rw [dt d,n1 d] at h1 h2;simp (disch:=omega) only [Nat.add_eq,eqSy_self,eqN_self,bc_same,List.length_cons,ofn,wrap_in,dt,df,bltD,bltN,ble_of,bleN,beqD,bc_t,bc_f,nn_ok,Nat.zero_add,to_nat,Int.zero_add,Int.sub_zero,Int.sub_self,Int.cast_ofNat_Int,Int.natCast_zero,Int.toNat_zero,List.take_zero,List.nil_append,List.length_append,List.length_nil] at h1 h2;exact .inr ⟨hp,h1,h2⟩
   ·have e:=n2 d;obtain ⟨k,hk⟩:∃ k,(numL (l.getD i 0)).toNat=k:=⟨_,rfl⟩;rw [hk] at e ⊢;rw [df d] at h1 h2;simp (disch:=omega) only [Nat.add_eq,eqSy_self,eqN_self,bc_same,List.length_cons,ofn,wrap_in,dt,df,bltD,bltN,ble_of,bleN,beqD,bc_t,bc_f,nn_ok,Nat.zero_add,to_nat,Int.zero_add,Int.sub_zero,Int.sub_self,Int.cast_ofNat_Int,Int.natCast_zero,Int.toNat_zero,List.take_zero,List.nil_append,List.length_append,List.length_nil] at h1 h2;rw [e] at h1 h2;exact .inr ⟨hp,h1,h2⟩
 rcases key with ⟨c,hp,h1,h2⟩ | ⟨hp,h1,h2⟩
 ·have hG':i ∉ G:=fun q=>by have:=hGp i q;rw [hp] at this;cases this
  have eL:linI l n (i+1)=linI l n i:=by
   show (if isPn (l.getD i 0)=true then linI l n i else _)=_
   rw [if_pos hp]
  have eO:outI l n G (i+1)=outI l n G i:=by
   show (if (!isPn (l.getD i 0) && decide (i ∈ G))=true then _ else outI l n G i)=_
   rw [hp,if_neg (by simp)]
  have hH:=H nn (by rw [eO];exact hnn);rw [eL,eO,← gonI_out hG'] at hH
  cases nn with
  | true=>exact .at ctPl_ok h1 hH
  | false=>
   rw [hnn rfl] at hH ⊢;exact lead h2 hH
 ·have hK:=stepK (nn:=nn) hL hn hl hG hi hp;have hM:=stepM (g:=outI l n G (i+1)) (gn:=ofNs (gonI G (i+1))) (nn:=if i ∈ G then true else nn) hL hn hl hi hp
  have eO:outI l n G (i+1)=if !isPn (l.getD i 0) && decide (i ∈ G) then outI l n G i ++ [(linI l n i).getD ((numL (l.getD i 0)).toNat - 1) 0,(linI l n i).getD (numL (l.getD i 0)).toNat 0] else outI l n G i:=rfl
  have hH:=H (if i ∈ G then true else nn) (fun q=>by
   by_cases c:i ∈ G
   ·rw [if_pos c] at q;cases q
   ·rw [if_neg c] at q;rw [eO,decide_eq_false c,Bool.and_false,if_neg (by simp)];exact hnn q)
  have tail:=EndZ.at ctPl_ok hK (.at ctPl_ok hM hH)
  cases nn with
  | true=>exact .at ctPl_ok h1 tail
  | false=>
   rw [hnn rfl] at tail ⊢;exact lead h2 tail
theorem thr_nil (t:Nat):thrI t []=[]:=by unfold thrI;simp
theorem loopB (hL:LetT n l) (hn:n≤48) (hl:l.length≤2000) (hx:∀ x,x ∈ l→LetOk x) (hG:AscI l.length G) (hGp:∀ z,z ∈ G→isPn (l.getD z 0)=false):∀ (k i:Nat) (nn:Bool),i+k=l.length→(nn=false→outI l n G i=[])→EndZ 41 ctPl false (stOf (sB l (ofNs (gonI G i)) (linI l n i) n (outI l n G i) nn i)) (rsL 0 (ofNs (thrI n (outI l n G l.length)))) [] 0
 | 0,i,nn,h,hnn=>by
  obtain rfl:i=l.length:=by omega
  have hol:=out_len (l:=l) (t:=n) (G:=G) l.length
  cases nn with
  | true=>
   have h1:=b_t l (ofNs (gonI G l.length)) (linI l n l.length) n (outI l n G l.length) l.length;rw [df (show ¬ ((l.length:Nat):Int) < Int.ofNat l.length by rw [ofn];omega),bc_f] at h1;simp (disch:=omega) only [Nat.add_eq,eqSy_self,eqN_self,bc_same,List.length_cons,ofn,wrap_in,dt,df,bltD,bltN,ble_of,bleN,beqD,bc_t,bc_f,nn_ok,Nat.zero_add,to_nat,Int.zero_add,Int.sub_zero,Int.sub_self,Int.cast_ofNat_Int,Int.natCast_zero,Int.toNat_zero,List.take_zero,List.nil_append,List.length_append,List.length_nil] at h1;refine .at ctPl_ok h1 ?_
   have h2:=z_t (srt (outI l n G l.length)) (outI l n G l.length).length true;have hsl:=srt_len (outI l n G l.length);obtain ⟨c1,c2⟩:=cmpt_srt (srt_pair (outI l n G l.length));have e:cmpt (srt (outI l n G l.length))=ofNs (thrI n (outI l n G l.length)):=thr_eq (out_in hL _ (Nat.le_refl _)) c1 fun a=>by rw [c2];exact (srt_perm _).mem_iff
   rw [hsl,e] at h2;simp (disch:=omega) only [Nat.add_eq,eqSy_self,eqN_self,bc_same,List.length_cons,ofn,wrap_in,dt,df,bltD,bltN,ble_of,bleN,beqD,bc_t,bc_f,nn_ok,Nat.zero_add,to_nat,Int.zero_add,Int.sub_zero,Int.sub_self,Int.cast_ofNat_Int,Int.natCast_zero,Int.toNat_zero,List.take_zero,List.nil_append,List.length_append,List.length_nil] at h2;exact .done h2
  | false=>
   have e:=hnn rfl;rw [e,thr_nil];have h1:=b0_t l (ofNs (gonI G l.length)) (linI l n l.length) n l.length;rw [df (show ¬ ((l.length:Nat):Int) < Int.ofNat l.length by rw [ofn];omega),bc_f] at h1;exact lead h1 ((EndZ.done y_t).weak (.tup (.cons (Weak.nilI _) (.cons (.refl _) .nil))))
 | k+1,i,nn,h,hnn=>round hL hn hl hx hG hGp (by omega) hnn fun nn' h'=>loopB hL hn hl hx hG hGp k (i+1) nn' (by omega) h'
theorem lin_set {q:List Int} {i:Nat} (hi:i < n) (hq:q=((List.range i).map fun (x:Nat)=>(x:Int)) ++ List.replicate (n - i) 0):q.set i i=((List.range (i+1)).map fun (x:Nat)=>(x:Int)) ++ List.replicate (n - (i+1)) 0:=by
 subst hq;rw [show n - i=(n - (i+1))+1 by omega,List.replicate_succ,List.set_append_right _ _ (by simp),List.length_map,List.length_range,Nat.sub_self,List.range_succ,List.map_append,List.append_assoc];rfl
theorem loopA {t:Int} (ht:t=n) (hL:LetT n l) (hn:n≤48) (hl:l.length≤2000) (hx:∀ x,x ∈ l→LetOk x) (hG:AscI l.length G) (hGp:∀ z,z ∈ G→isPn (l.getD z 0)=false):∀ (k i:Nat),i+k=n→EndZ 41 ctPl false (stOf (sA t l (ofNs G) (((List.range i).map fun (x:Nat)=>(x:Int)) ++ List.replicate (n - i) 0) n i)) (rsL 0 (ofNs (thrI n (outI l n G l.length)))) [] 0
 | 0,i,h=>by
  obtain rfl:i=n:=by omega
  have h1:=a_t t l (ofNs G) (((List.range i).map fun (x:Nat)=>(x:Int)) ++ List.replicate (i - i) 0) i i;rw [df (show ¬ (i:Int) < (i:Int) by omega),bc_f] at h1;have:=loopB hL hn hl hx hG hGp l.length 0 false (by omega) fun _=>rfl;rw [gonI_zero] at this;rw [Nat.sub_self,List.replicate_zero,List.append_nil] at h1 ⊢;exact .at ctPl_ok h1 this
 | k+1,i,h=>by
  have hi:i < n:=by omega
  have h1:=a_t t l (ofNs G) (((List.range i).map fun (x:Nat)=>(x:Int)) ++ List.replicate (n - i) 0) n i;have hq:(((List.range i).map fun (x:Nat)=>(x:Int)) ++ List.replicate (n - i) (0:Int)).length=n:=by
   rw [List.length_append,List.length_map,List.length_range,List.length_replicate];omega
  have w4:IntKind.wrap IntKind.i64 ((i:Int)+1)=((i+1:Nat):Int):=by rw [wrap_in _ (by omega) (by omega)];omega
  have e0:Int.toNat (i:Int)=i:=rfl;rw [e0,w4,hq,lin_set hi rfl,dt (show (i:Int) < (n:Int) by omega),bc_t] at h1;simp (disch:=omega) only [Nat.add_eq,eqSy_self,eqN_self,bc_same,List.length_cons,ofn,wrap_in,dt,df,bltD,bltN,ble_of,bleN,beqD,bc_t,bc_f,nn_ok,Nat.zero_add,to_nat,Int.zero_add,Int.sub_zero,Int.sub_self,Int.cast_ofNat_Int,Int.natCast_zero,Int.toNat_zero,List.take_zero,List.nil_append,List.length_append,List.length_nil] at h1;exact .at ctPl_ok h1 (loopA ht hL hn hl hx hG hGp k (i+1) (by omega))
theorem ends {t:Int} {l:List Int} (hx:In64 l):EndZ 41 ctPl false (st0 41 [hE t l]) (rsL (chkL t l) (ofNs (thrI t.toNat (outI l t.toNat (goT l fun _=>true) l.length)))) [] 0:=by
 have h:=in_t t l;rw [dt hx,bc_t] at h
 by_cases z:chkL t l=0
 ·obtain ⟨h1,h2,h3⟩:=chk_iff.1 z;have h5:=(chkL_ok z).2.2;have hG:AscI l.length (goT l fun _=>true):=(resT_asc l fun _=>true).sub _;have hGp:∀ z,z ∈ goT l (fun _=>true)→isPn (l.getD z 0)=false:=fun z hz=>by
   have h6:=(List.mem_filter.1 (List.mem_filter.1 hz).1).2;rw [Bool.and_true] at h6;simpa using h6
  obtain ⟨n,rfl⟩:=Int.eq_ofNat_of_zero_le (show 0≤t by omega);have hL:=RLos.chkL_T z rfl;have e0:Int.toNat (n:Int)=n:=rfl;have hz:zerosL n=List.replicate n 0:=rfl;rw [z,show ((0:Int) != 0)=false from rfl,bc_f,e0,hz,gF_goT,List.length_replicate] at h
  simp (disch:=omega) only [Nat.add_eq,eqSy_self,eqN_self,bc_same,List.length_cons,ofn,wrap_in,dt,df,bltD,bltN,ble_of,bleN,beqD,bc_t,bc_f,nn_ok,Nat.zero_add,to_nat,Int.zero_add,Int.sub_zero,Int.sub_self,Int.cast_ofNat_Int,Int.natCast_zero,Int.toNat_zero,List.take_zero,List.nil_append,List.length_append,List.length_nil] at h;rw [z,e0];exact .at ctPl_ok h (loopA rfl hL (by omega) h2 h5 hG hGp n 0 (by omega))
 ·rw [show (chkL t l != 0)=true by simp [z],bc_t] at h;exact (EndZ.done h).weak (rsL_err _ z)
end PLos
noncomputable def spPLo:ZCT:=fun ax=>match ax with
 | [.agg [.v (.int .i64 t),.lst (.ints .i64 l)]]=>some ⟨decide (In64 l),rsL (chkL t l) (ofNs (thrI t.toNat (outI l t.toNat (goT l fun _=>true) l.length))),[],0⟩
 | _=>none
theorem spPLo_ok:ZCtOk Try.prog 41 spPLo:=fun γ w us ax r hs hc hax hN hfz=>by
 unfold spPLo at hs;split at hs
 case h_2=>cases hs
 rename_i t l;obtain ⟨rfl⟩:=Option.some.inj hs;have hc_0:decide (In64 l)=true:=hc;have hc:=of_decide_eq_true hc_0;exact EndZ.calls (PLos.ends hc) ctPl_ok (by kernel_rfl) hax hN hfz
end Go.Proofs.Ytfffbioafhppiaa.Ev
namespace Go.Proofs.Ytfffbioafhppiaa.Ev
open Go.Proofs
theorem eqLI_head4 (x y:Int) (a b:List Int):eqLI (x :: a) (y :: b)=bc (x != y) false (eqLI a b):=by
 by_cases h:x=y
 ·have e:(x != y)=false:=by simp [h]
  rw [e,bc_f]
  cases hq:eqLI a b with
  | true=>rw [h,eqLI_iff.1 hq,eqLI_iff.2 rfl]
  | false=>
   cases hx:eqLI (x :: a) (y :: b) with
   | false=>rfl
   | true=>
    have:=List.cons.inj (eqLI_iff.1 hx);rw [eqLI_iff.2 this.2] at hq;cases hq
 ·have e:(x != y)=true:=by simp [h]
  rw [e,bc_t]
  cases hx:eqLI (x :: a) (y :: b) with
  | false=>rfl
  | true=>exact absurd (List.cons.inj (eqLI_iff.1 hx)).1 h
theorem eqLI_len4 {a b:List Int} (h:a.length≠b.length):eqLI a b=false:=by
 cases hx:eqLI a b with
 | false=>rfl
 | true=>exact absurd (congrArg List.length (eqLI_iff.1 hx)) h
namespace RS4i
noncomputable def RUN (s:ES):ZF:=RZ 36 .nil (atS 0 36 4) [] [[(0,none),(1,none),(5,none)]] false s

noncomputable def sS (a b:List Int) (i:Int):NS:=⟨[⟨36,26,[(0,(EV.lst (SyC.ints IntKind.i64 (a)))),(1,(EV.lst (SyC.ints IntKind.i64 (b)))),(5,iv i)],[.it (.code (nav [1,1,0,1,0,0,0] (bodyOf Try.f36))),.it (.code (nav [1,1,0,1,0,0,1] (bodyOf Try.f36))),.it (.inLoop (nav [1,1,0,1,0,0] (bodyOf Try.f36))),.it (.inBlock 0),.it (.code (nav [1,1,1] (bodyOf Try.f36)))],[],Option.none⟩],[],0⟩
theorem in_t (a b:List Int):RUN (st0 36 [il a,il b])=(bc (Int.ofNat (List.length a) != Int.ofNat (List.length b)) (.done (EV.v (Value.bool false)) [] 0) (.at (sS (a) (b) ((0:Int))))):=by kernel_rfl
theorem step_t (a b:List Int) (i:Int):RUN (stOf (sS a b i))=(bc (decide (i < Int.ofNat (List.length a))) (bc (bc (bc (bc (bc (decide ((0:Int)≤i)) (Nat.blt (Int.toNat i) (List.length a)) false) true false) (bc (bc (Nat.blt (Int.toNat i) (List.length a)) true false) (bc (bc (bc (decide ((0:Int)≤i)) (Nat.blt (Int.toNat i) (List.length b)) false) true false) (bc (bc (Nat.blt (Int.toNat i) (List.length b)) true false) true false) false) false) false) true false) (bc (List.getD a (Int.toNat i) (0:Int) != List.getD b (Int.toNat i) (0:Int)) (.done (EV.v (Value.bool false)) [] 0) (.at (sS (a) (b) (IntKind.wrap IntKind.i64 (i+(1:Int)))))) .bad) (.done (EV.v (Value.bool true)) [] 0)):=by kernel_rfl
theorem loop {a b:List Int} (hl:a.length=b.length) (hz:a.length≤100000):∀ (k i:Nat),i+k=a.length→EndZ 36 .nil false (stOf (sS a b i)) (bv (eqLI (a.drop i) (b.drop i))) [] 0
 | 0,i,h=>by
  have hs:=step_t a b i;rw [List.drop_eq_nil_of_le (by omega),List.drop_eq_nil_of_le (by omega),eqLI_iff.2 rfl];simp (disch:=omega) only [Nat.add_eq,eqSy_self,eqN_self,bc_same,List.length_cons,ofn,wrap_in,dt,df,bltD,bltN,ble_of,bleN,beqD,bc_t,bc_f,nn_ok,Nat.zero_add,to_nat,Int.zero_add,Int.sub_zero,Int.sub_self,Int.cast_ofNat_Int,Int.natCast_zero,Int.toNat_zero,List.take_zero,List.nil_append,List.length_append,List.length_nil] at hs;exact .done hs
 | k+1,i,h=>by
  have hi:i < a.length:=by omega
  have hi2:i < b.length:=by omega
  have hs:=step_t a b i;have e1:a.getD i 0=a[i]:=getD_at hi;have e2:b.getD i 0=b[i]:=getD_at hi2;rw [to_nat,e1,e2] at hs;rw [List.drop_eq_getElem_cons hi,List.drop_eq_getElem_cons hi2,eqLI_head4];simp (disch:=omega) only [Nat.add_eq,eqSy_self,eqN_self,bc_same,List.length_cons,ofn,wrap_in,dt,df,bltD,bltN,ble_of,bleN,beqD,bc_t,bc_f,nn_ok,Nat.zero_add,to_nat,Int.zero_add,Int.sub_zero,Int.sub_self,Int.cast_ofNat_Int,Int.natCast_zero,Int.toNat_zero,List.take_zero,List.nil_append,List.length_append,List.length_nil] at hs
  cases hq:a[i] != b[i] with
  | true=>rw [hq] at hs;exact .done hs
  | false=>rw [hq] at hs;exact .at (.nil _) hs (loop hl hz k (i+1) (by omega))
theorem ends {a b:List Int} (hz:a.length≤100000):EndZ 36 .nil false (st0 36 [il a,il b]) (bv (eqLI a b)) [] 0:=by
 have h:=in_t a b
 by_cases hl:a.length=b.length
 ·have e:(Int.ofNat a.length != Int.ofNat b.length)=false:=by simp [hl]
  rw [e,bc_f] at h;exact .at (.nil _) h (loop hl hz a.length 0 (by omega))
 ·have e:(Int.ofNat a.length != Int.ofNat b.length)=true:=by simp;omega
  rw [e,bc_t] at h;rw [eqLI_len4 hl];exact .done h
end RS4i
noncomputable def spRS4i:ZCT:=fun ax=>match ax with
 | [.lst (.ints .i64 a),.lst (.ints .i64 b)]=>some ⟨decide (a.length≤100000),bv (eqLI a b),[],0⟩
 | _=>none
theorem spRS4i_ok:ZCtOk Try.prog 36 spRS4i:=fun γ w us ax r hs hc hax hN hfz=>by
 unfold spRS4i at hs;split at hs
 case h_2=>cases hs
 rename_i a b;obtain ⟨rfl⟩:=Option.some.inj hs;have hc_0:decide (a.length≤100000)=true:=hc;have hc:=of_decide_eq_true hc_0;exact EndZ.calls (RS4i.ends hc) (.nil _) (by kernel_rfl) hax hN hfz
end Go.Proofs.Ytfffbioafhppiaa.Ev
namespace Go.Proofs.Ytfffbioafhppiaa.Ev
open Go.Proofs
theorem awakeL_run:endsB (exClosed Try.prog ft (drD Try.prog ft 16 4) 12 18)=true:=by kernel_rfl
theorem awakeLC (w:World):Calls Try.prog 12 #[] w fun e w'=>e = .returned (.bool true)∧Stays w w':=closedTrue ftOk (drD_ok mix ftOk 16 4) awakeL_run w
theorem spAwakeL_ok:ZCtOk Try.prog 12 spTrue:=spTrue_ok awakeLC
end Go.Proofs.Ytfffbioafhppiaa.Ev
namespace Go.Proofs.Ytfffbioafhppiaa
open Go.ChangeShapes Go.WideShapes Go.ChangeAt Go.RowKit

theorem kept_of_stays {W W':World} (h:Ev.Stays W W') (may:MemPlace→Prop):W.keptBut W' may:=by
 refine ⟨h.os,h.output,fun i hi=>?_⟩;have e:=h.block i hi;rw [e]
 cases hb:W.heap[i]? with
 | none=>simp
 | some o=>
  cases o <;> first | exact ⟨rfl,rfl,rfl,fun _ _=>rfl⟩ | exact .inr ⟨rfl,rfl⟩ | rfl
theorem frozen_of_stays {W W':World} (h:Ev.Stays W W') (a:Addr) (ha:a.block < W.heap.size):W'.frozen? a=W.frozen? a:=by
 unfold World.frozen?;rw [h.block _ ha]
section
variable {H:Type} {enc:TypeId × Value→H} {P:Program}

theorem post_of_stays {f:Func} {s:ChangeSpec} {apart fresh handsOn again:Bool} {W W':World} {args:Array Value} {v:Value} {ds gs:List (DataW H)} {before pa pv:List MemPlace}
  (hW:DataW.Whole enc P f.params.toList s.vars apart W args.toList ds gs before)
  (hres:∀ (b:Nat) (sp:Nat→Bool) (hd:Bool),DataW.TrodAll enc P W' b sp hd f.resultTypes.toList (v.resultList f.resultTypes.size) (s.fn H (ds ++ gs)).results [])
  (hargs:∀ sp:Nat→Bool,(∀ p ∈ before,sp p.block=true)→DataW.TrodAll enc P W' 0 sp true f.params.toList args.toList (s.fn H (ds ++ gs)).args pa)
  (hvars:∀ sp:Nat→Bool,(∀ p ∈ before,sp p.block=true)→DataW.TrodVars enc P W' sp s.vars (s.fn H (ds ++ gs)).vars pv)
  (hps:before=pa ++ pv) (hst:Ev.Stays W W')
  (hok:∀ (j:Nat) (t:TypeId) (r:Value),f.resultTypes[j]? = some t→(v.resultList f.resultTypes.size)[j]? = some r→Value.okWide P W' .any 0 t r) :
  s.post enc P f apart fresh handsOn again W args v W':=by
 have hk:W.keptBut W' (· ∈ before):=kept_of_stays hst _;have hold:∀ p ∈ before,(fun b=>decide (b < W.heap.size)) p.block=true:=fun p hp=>by simpa using hW.lt p hp
 have hlt:=fun p hp=>hW.lt p hp;refine ⟨ds,gs,before,[],pa,pv,hW,hres _ _ _,hargs _ hold,hvars _ hold,World.keptBut_mono (fun p hp=>⟨hp,?_⟩) hk,fun _=>?_⟩
 ·rw [hps,List.mem_append] at hp;exact Or.inr hp
 ·obtain ⟨_,_,_,_,_,hz,hn⟩:=hW;refine ⟨hok,_,_,([] ++ pa) ++ pv,⟨[] ++ pa,pv,trodAll_append (hargs _ (fun _ _=>rfl)) (hres _ _ _),hvars _ (fun _ _=>rfl),rfl,?_,?_⟩,?_⟩
  ·intro b off hp;have hp2:MemPlace.cell b off ∈ before:=by rw [hps];simpa using hp
   rw [frozen_of_stays hst _ (hlt _ hp2)];exact hz b off hp2
  ·intro ha;have:=hn ha;rw [hps] at this;simpa using this
  ·intro p hp _;rw [hps];simpa using hp
end
end Go.Proofs.Ytfffbioafhppiaa
