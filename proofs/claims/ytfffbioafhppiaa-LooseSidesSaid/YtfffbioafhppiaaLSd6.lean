/- LooseSides returns true, for all arguments, in every world in which it is called, and nothing that was there turns. -/
import Derived.ProofKit
import Derived.ReadAgain
import Derived.OpenShut
import Derived.Test.YtfffbioafhppiaaRows
import Derived.WalkKit
import Derived.Test.YtfffbioafhppiaaLSd5
set_option linter.unusedSimpArgs false
set_option linter.unusedVariables false
namespace Go.Proofs.Ytfffbioafhppiaa.Ev
open Go.Proofs

def rstS (l:List Int) (b:List Bool) (o:Nat→Bool) (i:Nat):List Bool:=(List.range b.length).map fun j=>if j < i then b.getD j false && !(isPn (l.getD j 0) && o j) else b.getD j false
def rstF (l:List Int) (b:List Bool) (o:Nat→Bool):List Bool:=(List.range b.length).map fun j=>b.getD j false && !(isPn (l.getD j 0) && o j)
theorem rstS_len (l:List Int) (b:List Bool) (o:Nat→Bool) (i:Nat):(rstS l b o i).length=b.length:=by unfold rstS;rw [List.length_map,List.length_range]
theorem rstF_len (l:List Int) (b:List Bool) (o:Nat→Bool):(rstF l b o).length=b.length:=by unfold rstF;rw [List.length_map,List.length_range]
theorem rstS_at (l:List Int) (b:List Bool) (o:Nat→Bool) {i:Nat} (hi:i < b.length):(rstS l b o i).getD i false=b.getD i false:=by
 unfold rstS;rw [List.getD_eq_getElem?_getD,List.getElem?_map,List.getElem?_range hi];show (if i < i then _ else _)=_
 rw [if_neg (by omega)]
theorem rstS_zero (l:List Int) (b:List Bool) (o:Nat→Bool):rstS l b o 0=b:=by
 apply List.ext_getElem?;intro i;unfold rstS;rw [List.getElem?_map]
 by_cases h:i < b.length
 ·rw [List.getElem?_range h,List.getElem?_eq_getElem h];show some (if i < 0 then _ else _)=_
  rw [if_neg (by omega),getD_at h]
 ·rw [List.getElem?_eq_none (by rw [List.length_range];omega),List.getElem?_eq_none (by omega)];rfl
theorem rstS_end (l:List Int) (b:List Bool) (o:Nat→Bool):rstS l b o b.length=rstF l b o:=by
 unfold rstS rstF;exact List.map_congr_left fun j hj=>by rw [if_pos (List.mem_range.1 hj)]
theorem rstS_set (l:List Int) (b:List Bool) (o:Nat→Bool) {i:Nat} {v:Bool} (hv:(b.getD i false && !(isPn (l.getD i 0) && o i))=v):(rstS l b o i).set i v=rstS l b o (i+1):=by
 unfold rstS;refine stk_rset ?_ fun a ha=>?_
 ·rw [if_pos (by omega)];exact hv
 ·by_cases c:a < i
  ·rw [if_pos c,if_pos (by omega)]
  ·rw [if_neg c,if_neg (by omega)]

def gonF (q s:List Bool):List Int:=ofNs ((idxB q).filter fun j=>!s.getD j false)
noncomputable def gF (l:List Int) (b:List Bool) (o:Nat→Bool):List Int:=gonF (rstF l b o) (tgB l (rstF l b o))
theorem b_nil (b:List Bool):List.map (fun r=>U.bool (List.headD r (U.i 0))) [] ++ b=b:=rfl
theorem nn_snoc (g:List Int) (v:Int):bc (decide (0 < g.length)) true (Nat.blt 0 (List.length [v]))=decide (0 < (g ++ [v]).length):=by
 rw [show decide (0 < (g ++ [v]).length)=true from decide_eq_true (by simp)]
 cases decide (0 < g.length) <;> rfl
theorem nn_any (nn:Bool):bc nn true (bc nn false true)=true:=by cases nn <;> rfl
def FrOk (l:List Int) (b:List Bool):Prop:=b.length=l.length∧l.length≤3000∧∀ x,x ∈ l→LetOk x
noncomputable instance FrOk.dec (l:List Int) (b:List Bool):Decidable (FrOk l b):=Classical.propDecidable _
def FrOkO (l:List Int) (b o:List Bool):Prop:=FrOk l b∧o.length=l.length
noncomputable instance FrOkO.dec (l:List Int) (b o:List Bool):Decidable (FrOkO l b o):=Classical.propDecidable _
theorem TigOk.of {l:List Int} {b:List Bool} (h:FrOk l b) (o:Nat→Bool):TigOk l l (rstF l b o).length l.length:=⟨rfl,by rw [rstF_len];exact h.1,h.2.1,h.2.2⟩
namespace PFrA
abbrev O  : Nat→Bool:=fun _=>true
theorem stR {t:Int} {l:List Int} {b:List Bool}  {i:Nat} (hi:i < b.length) (hl:b.length=l.length) (hb:l.length≤3000)  : RUN (stOf (sR t l b (rstS l b (O) i) i)) = .at (sR t l b (rstS l b (O) (i+1)) (i+1:Nat)):=by
 have e0:Int.toNat (i:Int)=i:=rfl;rw [r_t,e0,rstS_at l b _ hi,rstS_len]
 cases hbi:b.getD i false with
 | false=>
  rw [rstS_set l b (O) (v:=false) (by rw [hbi];rfl)];simp (disch:=omega) only [Nat.add_eq,eqSy_self,eqN_self,bc_same,List.length_cons,ofn,wrap_in,dt,df,bltD,bltN,ble_of,bleN,beqD,bc_t,bc_f,nn_ok,Nat.zero_add,to_nat,Int.zero_add,Int.sub_zero,Int.sub_self,Int.cast_ofNat_Int,Int.natCast_zero,Int.toNat_zero,List.take_zero,List.nil_append,List.length_append,List.length_nil];rfl
 | true=>
  by_cases hp:1000 < l.getD i 0
  ·rw [dt hp,rstS_set l b (O) (v:=!true) (by rw [hbi,show isPn (l.getD i 0)=true from decide_eq_true hp];rfl)]
   simp (disch:=omega) only [Nat.add_eq,eqSy_self,eqN_self,bc_same,List.length_cons,ofn,wrap_in,dt,df,bltD,bltN,ble_of,bleN,beqD,bc_t,bc_f,nn_ok,Nat.zero_add,to_nat,Int.zero_add,Int.sub_zero,Int.sub_self,Int.cast_ofNat_Int,Int.natCast_zero,Int.toNat_zero,List.take_zero,List.nil_append,List.length_append,List.length_nil];rfl
  ·rw [df hp,rstS_set l b (O) (v:=!false) (by rw [hbi,show isPn (l.getD i 0)=false from decide_eq_false hp];rfl)]
   simp (disch:=omega) only [Nat.add_eq,eqSy_self,eqN_self,bc_same,List.length_cons,ofn,wrap_in,dt,df,bltD,bltN,ble_of,bleN,beqD,bc_t,bc_f,nn_ok,Nat.zero_add,to_nat,Int.zero_add,Int.sub_zero,Int.sub_self,Int.cast_ofNat_Int,Int.natCast_zero,Int.toNat_zero,List.take_zero,List.nil_append,List.length_append,List.length_nil];rfl
theorem endR {t:Int} {l:List Int} {b:List Bool}  (h:FrOk l b):RUN (stOf (sR t l b (rstF l b (O)) b.length)) = .at (sG t l b (rstF l b (O)) (tgB l (rstF l b (O))) l.length [] false 0):=by
 rw [r_t,rstF_len,df (show ¬ (b.length:Int) < (b.length:Int) by omega),bc_f];have h1:=TigOk.of h (O);rw [rstF_len] at h1;rw [dt h1];simp (disch:=omega) only [Nat.add_eq,eqSy_self,eqN_self,bc_same,List.length_cons,ofn,wrap_in,dt,df,bltD,bltN,ble_of,bleN,beqD,bc_t,bc_f,nn_ok,Nat.zero_add,to_nat,Int.zero_add,Int.sub_zero,Int.sub_self,Int.cast_ofNat_Int,Int.natCast_zero,Int.toNat_zero,List.take_zero,List.nil_append,List.length_append,List.length_nil]
theorem stG {t:Int} {l:List Int} {b:List Bool}  {q s:List Bool} {ms:Nat} {g:List Int} {i:Nat} (hi:i < b.length) (hq:q.length=b.length) (hs:s.length=ms) (hm:ms=b.length) (hb:b.length≤3000) (hg:g.length≤i):RUN (stOf (sG t l b q s ms g (decide (0 < g.length)) i)) = .at (sG t l b q s ms (g ++ (if q.getD i false && !s.getD i false then [(i:Int)] else [])) (decide (0 < (g ++ (if q.getD i false && !s.getD i false then [(i:Int)] else [])).length)) (i+1:Nat)):=by
 have e0:Int.toNat (i:Int)=i:=rfl;have m1:List.map (fun r=>U.int (List.headD r (U.i 0))) [[U.i (i:Int)]]=[(i:Int)]:=rfl;rw [g_t,e0,m1,nn_snoc,nn_any,hq,hs]
 cases q.getD i false with
 | false=>
  rw [show (false && !s.getD i false)=false from rfl,if_neg (by simp),List.append_nil]
  simp (disch:=omega) only [Nat.add_eq,eqSy_self,eqN_self,bc_same,List.length_cons,ofn,wrap_in,dt,df,bltD,bltN,ble_of,bleN,beqD,bc_t,bc_f,nn_ok,Nat.zero_add,to_nat,Int.zero_add,Int.sub_zero,Int.sub_self,Int.cast_ofNat_Int,Int.natCast_zero,Int.toNat_zero,List.take_zero,List.nil_append,List.length_append,List.length_nil];rfl
 | true=>
  cases s.getD i false with
  | false=>
   rw [show (true && !false)=true from rfl,if_pos rfl]
   simp (disch:=omega) only [Nat.add_eq,eqSy_self,eqN_self,bc_same,List.length_cons,ofn,wrap_in,dt,df,bltD,bltN,ble_of,bleN,beqD,bc_t,bc_f,nn_ok,Nat.zero_add,to_nat,Int.zero_add,Int.sub_zero,Int.sub_self,Int.cast_ofNat_Int,Int.natCast_zero,Int.toNat_zero,List.take_zero,List.nil_append,List.length_append,List.length_nil,Bool.not_false];rfl
  | true=>
   rw [show (true && !true)=false from rfl,if_neg (by simp),List.append_nil]
   simp (disch:=omega) only [Nat.add_eq,eqSy_self,eqN_self,bc_same,List.length_cons,ofn,wrap_in,dt,df,bltD,bltN,ble_of,bleN,beqD,bc_t,bc_f,nn_ok,Nat.zero_add,to_nat,Int.zero_add,Int.sub_zero,Int.sub_self,Int.cast_ofNat_Int,Int.natCast_zero,Int.toNat_zero,List.take_zero,List.nil_append,List.length_append,List.length_nil,Bool.not_true];rfl
theorem loopG {t:Int} {l:List Int} {b:List Bool}  {q s:List Bool} {ms:Nat} (hq:q.length=b.length) (hs:s.length=ms) (hm:ms=b.length) (hb:b.length≤3000):∀ (k i:Nat) (g:List Int),i+k=b.length→g.length≤i→EndM 2 58 ctTg (stOf (sG t l b q s ms g (decide (0 < g.length)) i)) (.slO 2 1 (g ++ ofNs (((List.range' i k).filter fun j=>q.getD j false).filter fun j=>!s.getD j false)).length (decide (0 < (g ++ ofNs (((List.range' i k).filter fun j=>q.getD j false).filter fun j=>!s.getD j false)).length))) (K0 t l b ++ [(2,.seq 3 (.ints .i64 (g ++ ofNs (((List.range' i k).filter fun j=>q.getD j false).filter fun j=>!s.getD j false))) (decide (0 < (g ++ ofNs (((List.range' i k).filter fun j=>q.getD j false).filter fun j=>!s.getD j false)).length)))]) 3
 | 0,i,g,h,hg=>by
  have h1:=g_t t l b q s ms g (decide (0 < g.length)) i;rw [df (show ¬ (i:Int) < (b.length:Int) by omega),bc_f] at h1;have e:g ++ ofNs (((List.range' i 0).filter fun j=>q.getD j false).filter fun j=>!s.getD j false)=g:=List.append_nil g;rw [e];exact .done h1
 | k+1,i,g,h,hg=>by
  have h1:=stG (t:=t) (l:=l) (b:=b)  (q:=q) (s:=s) (ms:=ms) (g:=g) (i:=i) (by omega) hq hs hm hb hg;have e:∀ g:List Int,g ++ ofNs (((List.range' i (k+1)).filter fun j=>q.getD j false).filter fun j=>!s.getD j false)=(g ++ (if q.getD i false && !s.getD i false then [(i:Int)] else [])) ++ ofNs (((List.range' (i+1) k).filter fun j=>q.getD j false).filter fun j=>!s.getD j false):=fun g=>by
   rw [List.range'_succ,List.append_assoc];congr 1
   cases hqi:q.getD i false with
   | false=>rw [List.filter_cons_of_neg (p:=fun j=>q.getD j false) (by rw [hqi];simp)];rfl
   | true=>
    rw [List.filter_cons_of_pos (p:=fun j=>q.getD j false) hqi]
    cases hsi:s.getD i false with
    | false=>rw [List.filter_cons_of_pos (p:=fun j=>!s.getD j false) (by rw [hsi];rfl)];rfl
    | true=>rw [List.filter_cons_of_neg (p:=fun j=>!s.getD j false) (by rw [hsi];simp)];rfl
  rw [e];exact .at ctTg_ok h1 (loopG hq hs hm hb k (i+1) _ (by omega) (by rw [List.length_append];split <;> simp <;> omega))
theorem loopR {t:Int} {l:List Int} {b:List Bool}  (h:FrOk l b)  : ∀ (k i:Nat),i+k=b.length→EndM 2 58 ctTg (stOf (sR t l b (rstS l b (O) i) i)) (.slO 2 1 (gF l b (O)).length (decide (0 < (gF l b (O)).length))) (K0 t l b ++ [(2,.seq 3 (.ints .i64 (gF l b (O))) (decide (0 < (gF l b (O)).length)))]) 3
 | 0,i,hi=>by
  obtain rfl:i=b.length:=by omega
  rw [rstS_end];have h2:=loopG (t:=t) (l:=l) (b:=b)  (q:=rstF l b (O)) (s:=tgB l (rstF l b (O))) (ms:=l.length) (rstF_len _ _ _) (tgB_len _ _) h.1.symm (by have:=h.1;have:=h.2.1;omega) b.length 0 [] (by omega) (Nat.le_refl _);rw [← List.range_eq_range',List.nil_append] at h2;have e:ofNs (((List.range b.length).filter fun j=>(rstF l b (O)).getD j false).filter fun j=>!(tgB l (rstF l b (O))).getD j false)=gF l b (O):=by
   unfold gF gonF idxB;rw [rstF_len]
  rw [e] at h2;exact .at ctTg_ok (endR h) h2
 | k+1,i,hi=>.at ctTg_ok (stR (by omega) h.1 h.2.1 ) (loopR h k (i+1) (by omega))
theorem ends {t:Int} {l:List Int} {b:List Bool}  (h:FrOk l b)  : EndM 2 58 ctTg (st0m 58 [.ptr 0 0,.slO 1 1 b.length true,.fn 59 []] (K0 t l b) 2) (.slO 2 1 (gF l b (O)).length (decide (0 < (gF l b (O)).length))) (K0 t l b ++ [(2,.seq 3 (.ints .i64 (gF l b (O))) (decide (0 < (gF l b (O)).length)))]) 3:=by
 have h1:=in_t t l b;have hb:b.length≤3000:=by have:=h.1;have:=h.2.1;omega
 rw [b_nil] at h1;simp (disch:=omega) only [Nat.add_eq,eqSy_self,eqN_self,bc_same,List.length_cons,ofn,wrap_in,dt,df,bltD,bltN,ble_of,bleN,beqD,bc_t,bc_f,nn_ok,Nat.zero_add,to_nat,Int.zero_add,Int.sub_zero,Int.sub_self,Int.cast_ofNat_Int,Int.natCast_zero,Int.toNat_zero,List.take_zero,List.nil_append,List.length_append,List.length_nil] at h1;have h2:=loopR (t:=t)  h b.length 0 (by omega);rw [rstS_zero] at h2;exact .at ctTg_ok h1 h2
end PFrA
namespace PFrB
abbrev O (o:List Bool):Nat→Bool:=fun j=>o.getD j false
theorem stR {t:Int} {l:List Int} {b:List Bool} {o:List Bool} {no:Bool} {i:Nat} (hi:i < b.length) (hl:b.length=l.length) (hb:l.length≤3000) (ho:i < o.length):RUN (stOf (sR t l b o no (rstS l b (O o) i) i)) = .at (sR t l b o no (rstS l b (O o) (i+1)) (i+1:Nat)):=by
 have e0:Int.toNat (i:Int)=i:=rfl;rw [r_t,e0,rstS_at l b _ hi,rstS_len]
 cases hbi:b.getD i false with
 | false=>
  rw [rstS_set l b (O o) (v:=false) (by rw [hbi];rfl)];simp (disch:=omega) only [Nat.add_eq,eqSy_self,eqN_self,bc_same,List.length_cons,ofn,wrap_in,dt,df,bltD,bltN,ble_of,bleN,beqD,bc_t,bc_f,nn_ok,Nat.zero_add,to_nat,Int.zero_add,Int.sub_zero,Int.sub_self,Int.cast_ofNat_Int,Int.natCast_zero,Int.toNat_zero,List.take_zero,List.nil_append,List.length_append,List.length_nil];rfl
 | true=>
  by_cases hp:1000 < l.getD i 0
  ·rw [dt hp,rstS_set l b (O o) (v:=!o.getD i false) (by rw [hbi,show isPn (l.getD i 0)=true from decide_eq_true hp];rfl)]
   simp (disch:=omega) only [Nat.add_eq,eqSy_self,eqN_self,bc_same,List.length_cons,ofn,wrap_in,dt,df,bltD,bltN,ble_of,bleN,beqD,bc_t,bc_f,nn_ok,Nat.zero_add,to_nat,Int.zero_add,Int.sub_zero,Int.sub_self,Int.cast_ofNat_Int,Int.natCast_zero,Int.toNat_zero,List.take_zero,List.nil_append,List.length_append,List.length_nil];rfl
  ·rw [df hp,rstS_set l b (O o) (v:=!false) (by rw [hbi,show isPn (l.getD i 0)=false from decide_eq_false hp];rfl)]
   simp (disch:=omega) only [Nat.add_eq,eqSy_self,eqN_self,bc_same,List.length_cons,ofn,wrap_in,dt,df,bltD,bltN,ble_of,bleN,beqD,bc_t,bc_f,nn_ok,Nat.zero_add,to_nat,Int.zero_add,Int.sub_zero,Int.sub_self,Int.cast_ofNat_Int,Int.natCast_zero,Int.toNat_zero,List.take_zero,List.nil_append,List.length_append,List.length_nil];rfl
theorem endR {t:Int} {l:List Int} {b:List Bool} {o:List Bool} {no:Bool} (h:FrOk l b):RUN (stOf (sR t l b o no (rstF l b (O o)) b.length)) = .at (sG t l b (rstF l b (O o)) (tgB l (rstF l b (O o))) l.length [] false 0):=by
 rw [r_t,rstF_len,df (show ¬ (b.length:Int) < (b.length:Int) by omega),bc_f];have h1:=TigOk.of h (O o);rw [rstF_len] at h1;rw [dt h1];simp (disch:=omega) only [Nat.add_eq,eqSy_self,eqN_self,bc_same,List.length_cons,ofn,wrap_in,dt,df,bltD,bltN,ble_of,bleN,beqD,bc_t,bc_f,nn_ok,Nat.zero_add,to_nat,Int.zero_add,Int.sub_zero,Int.sub_self,Int.cast_ofNat_Int,Int.natCast_zero,Int.toNat_zero,List.take_zero,List.nil_append,List.length_append,List.length_nil]
theorem stG {t:Int} {l:List Int} {b:List Bool}  {q s:List Bool} {ms:Nat} {g:List Int} {i:Nat} (hi:i < b.length) (hq:q.length=b.length) (hs:s.length=ms) (hm:ms=b.length) (hb:b.length≤3000) (hg:g.length≤i):RUN (stOf (sG t l b q s ms g (decide (0 < g.length)) i)) = .at (sG t l b q s ms (g ++ (if q.getD i false && !s.getD i false then [(i:Int)] else [])) (decide (0 < (g ++ (if q.getD i false && !s.getD i false then [(i:Int)] else [])).length)) (i+1:Nat)):=by
 have e0:Int.toNat (i:Int)=i:=rfl;have m1:List.map (fun r=>U.int (List.headD r (U.i 0))) [[U.i (i:Int)]]=[(i:Int)]:=rfl;rw [g_t,e0,m1,nn_snoc,nn_any,hq,hs]
 cases q.getD i false with
 | false=>
  rw [show (false && !s.getD i false)=false from rfl,if_neg (by simp),List.append_nil]
  simp (disch:=omega) only [Nat.add_eq,eqSy_self,eqN_self,bc_same,List.length_cons,ofn,wrap_in,dt,df,bltD,bltN,ble_of,bleN,beqD,bc_t,bc_f,nn_ok,Nat.zero_add,to_nat,Int.zero_add,Int.sub_zero,Int.sub_self,Int.cast_ofNat_Int,Int.natCast_zero,Int.toNat_zero,List.take_zero,List.nil_append,List.length_append,List.length_nil];rfl
 | true=>
  cases s.getD i false with
  | false=>
   rw [show (true && !false)=true from rfl,if_pos rfl]
   simp (disch:=omega) only [Nat.add_eq,eqSy_self,eqN_self,bc_same,List.length_cons,ofn,wrap_in,dt,df,bltD,bltN,ble_of,bleN,beqD,bc_t,bc_f,nn_ok,Nat.zero_add,to_nat,Int.zero_add,Int.sub_zero,Int.sub_self,Int.cast_ofNat_Int,Int.natCast_zero,Int.toNat_zero,List.take_zero,List.nil_append,List.length_append,List.length_nil,Bool.not_false];rfl
  | true=>
   rw [show (true && !true)=false from rfl,if_neg (by simp),List.append_nil]
   simp (disch:=omega) only [Nat.add_eq,eqSy_self,eqN_self,bc_same,List.length_cons,ofn,wrap_in,dt,df,bltD,bltN,ble_of,bleN,beqD,bc_t,bc_f,nn_ok,Nat.zero_add,to_nat,Int.zero_add,Int.sub_zero,Int.sub_self,Int.cast_ofNat_Int,Int.natCast_zero,Int.toNat_zero,List.take_zero,List.nil_append,List.length_append,List.length_nil,Bool.not_true];rfl
theorem loopG {t:Int} {l:List Int} {b:List Bool}  {q s:List Bool} {ms:Nat} (hq:q.length=b.length) (hs:s.length=ms) (hm:ms=b.length) (hb:b.length≤3000):∀ (k i:Nat) (g:List Int),i+k=b.length→g.length≤i→EndM 2 58 ctTg (stOf (sG t l b q s ms g (decide (0 < g.length)) i)) (.slO 2 1 (g ++ ofNs (((List.range' i k).filter fun j=>q.getD j false).filter fun j=>!s.getD j false)).length (decide (0 < (g ++ ofNs (((List.range' i k).filter fun j=>q.getD j false).filter fun j=>!s.getD j false)).length))) (PFrA.K0 t l b ++ [(2,.seq 3 (.ints .i64 (g ++ ofNs (((List.range' i k).filter fun j=>q.getD j false).filter fun j=>!s.getD j false))) (decide (0 < (g ++ ofNs (((List.range' i k).filter fun j=>q.getD j false).filter fun j=>!s.getD j false)).length)))]) 3
 | 0,i,g,h,hg=>by
  have h1:=g_t t l b q s ms g (decide (0 < g.length)) i;rw [df (show ¬ (i:Int) < (b.length:Int) by omega),bc_f] at h1;have e:g ++ ofNs (((List.range' i 0).filter fun j=>q.getD j false).filter fun j=>!s.getD j false)=g:=List.append_nil g;rw [e];exact .done h1
 | k+1,i,g,h,hg=>by
  have h1:=stG (t:=t) (l:=l) (b:=b)  (q:=q) (s:=s) (ms:=ms) (g:=g) (i:=i) (by omega) hq hs hm hb hg;have e:∀ g:List Int,g ++ ofNs (((List.range' i (k+1)).filter fun j=>q.getD j false).filter fun j=>!s.getD j false)=(g ++ (if q.getD i false && !s.getD i false then [(i:Int)] else [])) ++ ofNs (((List.range' (i+1) k).filter fun j=>q.getD j false).filter fun j=>!s.getD j false):=fun g=>by
   rw [List.range'_succ,List.append_assoc];congr 1
   cases hqi:q.getD i false with
   | false=>rw [List.filter_cons_of_neg (p:=fun j=>q.getD j false) (by rw [hqi];simp)];rfl
   | true=>
    rw [List.filter_cons_of_pos (p:=fun j=>q.getD j false) hqi]
    cases hsi:s.getD i false with
    | false=>rw [List.filter_cons_of_pos (p:=fun j=>!s.getD j false) (by rw [hsi];rfl)];rfl
    | true=>rw [List.filter_cons_of_neg (p:=fun j=>!s.getD j false) (by rw [hsi];simp)];rfl
  rw [e];exact .at ctTg_ok h1 (loopG hq hs hm hb k (i+1) _ (by omega) (by rw [List.length_append];split <;> simp <;> omega))
theorem loopR {t:Int} {l:List Int} {b:List Bool} {o:List Bool} {no:Bool} (h:FrOk l b) (ho:o.length=l.length):∀ (k i:Nat),i+k=b.length→EndM 2 58 ctTg (stOf (sR t l b o no (rstS l b (O o) i) i)) (.slO 2 1 (gF l b (O o)).length (decide (0 < (gF l b (O o)).length))) (PFrA.K0 t l b ++ [(2,.seq 3 (.ints .i64 (gF l b (O o))) (decide (0 < (gF l b (O o)).length)))]) 3
 | 0,i,hi=>by
  obtain rfl:i=b.length:=by omega
  rw [rstS_end];have h2:=loopG (t:=t) (l:=l) (b:=b)  (q:=rstF l b (O o)) (s:=tgB l (rstF l b (O o))) (ms:=l.length) (rstF_len _ _ _) (tgB_len _ _) h.1.symm (by have:=h.1;have:=h.2.1;omega) b.length 0 [] (by omega) (Nat.le_refl _);rw [← List.range_eq_range',List.nil_append] at h2;have e:ofNs (((List.range b.length).filter fun j=>(rstF l b (O o)).getD j false).filter fun j=>!(tgB l (rstF l b (O o))).getD j false)=gF l b (O o):=by
   unfold gF gonF idxB;rw [rstF_len]
  rw [e] at h2;exact .at ctTg_ok (endR h) h2
 | k+1,i,hi=>.at ctTg_ok (stR (by omega) h.1 h.2.1 (by have:=h.1;omega)) (loopR h ho k (i+1) (by omega))
theorem ends {t:Int} {l:List Int} {b:List Bool} {o:List Bool} {no:Bool} (h:FrOk l b) (ho:o.length=l.length):EndM 2 58 ctTg (st0m 58 [.ptr 0 0,.slO 1 1 b.length true,.fn 103 [.ptr 2 0]] (K0 t l b o no) 4) (.slO 2 1 (gF l b (O o)).length (decide (0 < (gF l b (O o)).length))) (PFrA.K0 t l b ++ [(2,.seq 3 (.ints .i64 (gF l b (O o))) (decide (0 < (gF l b (O o)).length)))]) 3:=by
 have h1:=in_t t l b o no;have hb:b.length≤3000:=by have:=h.1;have:=h.2.1;omega
 rw [b_nil] at h1;simp (disch:=omega) only [Nat.add_eq,eqSy_self,eqN_self,bc_same,List.length_cons,ofn,wrap_in,dt,df,bltD,bltN,ble_of,bleN,beqD,bc_t,bc_f,nn_ok,Nat.zero_add,to_nat,Int.zero_add,Int.sub_zero,Int.sub_self,Int.cast_ofNat_Int,Int.natCast_zero,Int.toNat_zero,List.take_zero,List.nil_append,List.length_append,List.length_nil] at h1;have h2:=loopR (t:=t) (no:=no) h ho b.length 0 (by omega);rw [rstS_zero] at h2;exact .at ctTg_ok h1 h2
end PFrB
namespace PFrC
abbrev O (kk:Int):Nat→Bool:=fun j=>((j:Int) == kk)
theorem stR {t:Int} {l:List Int} {b:List Bool} {kk:Int} {i:Nat} (hi:i < b.length) (hl:b.length=l.length) (hb:l.length≤3000)  : RUN (stOf (sR t l b kk (rstS l b (O kk) i) i)) = .at (sR t l b kk (rstS l b (O kk) (i+1)) (i+1:Nat)):=by
 have e0:Int.toNat (i:Int)=i:=rfl;rw [r_t,e0,rstS_at l b _ hi,rstS_len]
 cases hbi:b.getD i false with
 | false=>
  rw [rstS_set l b (O kk) (v:=false) (by rw [hbi];rfl)];simp (disch:=omega) only [Nat.add_eq,eqSy_self,eqN_self,bc_same,List.length_cons,ofn,wrap_in,dt,df,bltD,bltN,ble_of,bleN,beqD,bc_t,bc_f,nn_ok,Nat.zero_add,to_nat,Int.zero_add,Int.sub_zero,Int.sub_self,Int.cast_ofNat_Int,Int.natCast_zero,Int.toNat_zero,List.take_zero,List.nil_append,List.length_append,List.length_nil];rfl
 | true=>
  by_cases hp:1000 < l.getD i 0
  ·rw [dt hp,rstS_set l b (O kk) (v:=!((i:Int) == kk)) (by rw [hbi,show isPn (l.getD i 0)=true from decide_eq_true hp];rfl)]
   simp (disch:=omega) only [Nat.add_eq,eqSy_self,eqN_self,bc_same,List.length_cons,ofn,wrap_in,dt,df,bltD,bltN,ble_of,bleN,beqD,bc_t,bc_f,nn_ok,Nat.zero_add,to_nat,Int.zero_add,Int.sub_zero,Int.sub_self,Int.cast_ofNat_Int,Int.natCast_zero,Int.toNat_zero,List.take_zero,List.nil_append,List.length_append,List.length_nil];rfl
  ·rw [df hp,rstS_set l b (O kk) (v:=!false) (by rw [hbi,show isPn (l.getD i 0)=false from decide_eq_false hp];rfl)]
   simp (disch:=omega) only [Nat.add_eq,eqSy_self,eqN_self,bc_same,List.length_cons,ofn,wrap_in,dt,df,bltD,bltN,ble_of,bleN,beqD,bc_t,bc_f,nn_ok,Nat.zero_add,to_nat,Int.zero_add,Int.sub_zero,Int.sub_self,Int.cast_ofNat_Int,Int.natCast_zero,Int.toNat_zero,List.take_zero,List.nil_append,List.length_append,List.length_nil];rfl
theorem endR {t:Int} {l:List Int} {b:List Bool} {kk:Int} (h:FrOk l b):RUN (stOf (sR t l b kk (rstF l b (O kk)) b.length)) = .at (sG t l b kk (rstF l b (O kk)) (tgB l (rstF l b (O kk))) l.length [] false 0):=by
 rw [r_t,rstF_len,df (show ¬ (b.length:Int) < (b.length:Int) by omega),bc_f];have h1:=TigOk.of h (O kk);rw [rstF_len] at h1;rw [dt h1];simp (disch:=omega) only [Nat.add_eq,eqSy_self,eqN_self,bc_same,List.length_cons,ofn,wrap_in,dt,df,bltD,bltN,ble_of,bleN,beqD,bc_t,bc_f,nn_ok,Nat.zero_add,to_nat,Int.zero_add,Int.sub_zero,Int.sub_self,Int.cast_ofNat_Int,Int.natCast_zero,Int.toNat_zero,List.take_zero,List.nil_append,List.length_append,List.length_nil]
theorem stG {t:Int} {l:List Int} {b:List Bool} {kk:Int} {q s:List Bool} {ms:Nat} {g:List Int} {i:Nat} (hi:i < b.length) (hq:q.length=b.length) (hs:s.length=ms) (hm:ms=b.length) (hb:b.length≤3000) (hg:g.length≤i):RUN (stOf (sG t l b kk q s ms g (decide (0 < g.length)) i)) = .at (sG t l b kk q s ms (g ++ (if q.getD i false && !s.getD i false then [(i:Int)] else [])) (decide (0 < (g ++ (if q.getD i false && !s.getD i false then [(i:Int)] else [])).length)) (i+1:Nat)):=by
 have e0:Int.toNat (i:Int)=i:=rfl;have m1:List.map (fun r=>U.int (List.headD r (U.i 0))) [[U.i (i:Int)]]=[(i:Int)]:=rfl;rw [g_t,e0,m1,nn_snoc,nn_any,hq,hs]
 cases q.getD i false with
 | false=>
  rw [show (false && !s.getD i false)=false from rfl,if_neg (by simp),List.append_nil]
  simp (disch:=omega) only [Nat.add_eq,eqSy_self,eqN_self,bc_same,List.length_cons,ofn,wrap_in,dt,df,bltD,bltN,ble_of,bleN,beqD,bc_t,bc_f,nn_ok,Nat.zero_add,to_nat,Int.zero_add,Int.sub_zero,Int.sub_self,Int.cast_ofNat_Int,Int.natCast_zero,Int.toNat_zero,List.take_zero,List.nil_append,List.length_append,List.length_nil];rfl
 | true=>
  cases s.getD i false with
  | false=>
   rw [show (true && !false)=true from rfl,if_pos rfl]
   simp (disch:=omega) only [Nat.add_eq,eqSy_self,eqN_self,bc_same,List.length_cons,ofn,wrap_in,dt,df,bltD,bltN,ble_of,bleN,beqD,bc_t,bc_f,nn_ok,Nat.zero_add,to_nat,Int.zero_add,Int.sub_zero,Int.sub_self,Int.cast_ofNat_Int,Int.natCast_zero,Int.toNat_zero,List.take_zero,List.nil_append,List.length_append,List.length_nil,Bool.not_false];rfl
  | true=>
   rw [show (true && !true)=false from rfl,if_neg (by simp),List.append_nil]
   simp (disch:=omega) only [Nat.add_eq,eqSy_self,eqN_self,bc_same,List.length_cons,ofn,wrap_in,dt,df,bltD,bltN,ble_of,bleN,beqD,bc_t,bc_f,nn_ok,Nat.zero_add,to_nat,Int.zero_add,Int.sub_zero,Int.sub_self,Int.cast_ofNat_Int,Int.natCast_zero,Int.toNat_zero,List.take_zero,List.nil_append,List.length_append,List.length_nil,Bool.not_true];rfl
theorem loopG {t:Int} {l:List Int} {b:List Bool} {kk:Int} {q s:List Bool} {ms:Nat} (hq:q.length=b.length) (hs:s.length=ms) (hm:ms=b.length) (hb:b.length≤3000):∀ (k i:Nat) (g:List Int),i+k=b.length→g.length≤i→EndM 3 58 ctTg (stOf (sG t l b kk q s ms g (decide (0 < g.length)) i)) (.slO 3 1 (g ++ ofNs (((List.range' i k).filter fun j=>q.getD j false).filter fun j=>!s.getD j false)).length (decide (0 < (g ++ ofNs (((List.range' i k).filter fun j=>q.getD j false).filter fun j=>!s.getD j false)).length))) (K0 t l b kk ++ [(3,.seq 3 (.ints .i64 (g ++ ofNs (((List.range' i k).filter fun j=>q.getD j false).filter fun j=>!s.getD j false))) (decide (0 < (g ++ ofNs (((List.range' i k).filter fun j=>q.getD j false).filter fun j=>!s.getD j false)).length)))]) 4
 | 0,i,g,h,hg=>by
  have h1:=g_t t l b kk q s ms g (decide (0 < g.length)) i;rw [df (show ¬ (i:Int) < (b.length:Int) by omega),bc_f] at h1;have e:g ++ ofNs (((List.range' i 0).filter fun j=>q.getD j false).filter fun j=>!s.getD j false)=g:=List.append_nil g;rw [e];exact .done h1
 | k+1,i,g,h,hg=>by
  have h1:=stG (t:=t) (l:=l) (b:=b) (kk:=kk) (q:=q) (s:=s) (ms:=ms) (g:=g) (i:=i) (by omega) hq hs hm hb hg;have e:∀ g:List Int,g ++ ofNs (((List.range' i (k+1)).filter fun j=>q.getD j false).filter fun j=>!s.getD j false)=(g ++ (if q.getD i false && !s.getD i false then [(i:Int)] else [])) ++ ofNs (((List.range' (i+1) k).filter fun j=>q.getD j false).filter fun j=>!s.getD j false):=fun g=>by
   rw [List.range'_succ,List.append_assoc];congr 1
   cases hqi:q.getD i false with
   | false=>rw [List.filter_cons_of_neg (p:=fun j=>q.getD j false) (by rw [hqi];simp)];rfl
   | true=>
    rw [List.filter_cons_of_pos (p:=fun j=>q.getD j false) hqi]
    cases hsi:s.getD i false with
    | false=>rw [List.filter_cons_of_pos (p:=fun j=>!s.getD j false) (by rw [hsi];rfl)];rfl
    | true=>rw [List.filter_cons_of_neg (p:=fun j=>!s.getD j false) (by rw [hsi];simp)];rfl
  rw [e];exact .at ctTg_ok h1 (loopG hq hs hm hb k (i+1) _ (by omega) (by rw [List.length_append];split <;> simp <;> omega))
theorem loopR {t:Int} {l:List Int} {b:List Bool} {kk:Int} (h:FrOk l b)  : ∀ (k i:Nat),i+k=b.length→EndM 3 58 ctTg (stOf (sR t l b kk (rstS l b (O kk) i) i)) (.slO 3 1 (gF l b (O kk)).length (decide (0 < (gF l b (O kk)).length))) (K0 t l b kk ++ [(3,.seq 3 (.ints .i64 (gF l b (O kk))) (decide (0 < (gF l b (O kk)).length)))]) 4
 | 0,i,hi=>by
  obtain rfl:i=b.length:=by omega
  rw [rstS_end];have h2:=loopG (t:=t) (l:=l) (b:=b) (kk:=kk) (q:=rstF l b (O kk)) (s:=tgB l (rstF l b (O kk))) (ms:=l.length) (rstF_len _ _ _) (tgB_len _ _) h.1.symm (by have:=h.1;have:=h.2.1;omega) b.length 0 [] (by omega) (Nat.le_refl _);rw [← List.range_eq_range',List.nil_append] at h2;have e:ofNs (((List.range b.length).filter fun j=>(rstF l b (O kk)).getD j false).filter fun j=>!(tgB l (rstF l b (O kk))).getD j false)=gF l b (O kk):=by
   unfold gF gonF idxB;rw [rstF_len]
  rw [e] at h2;exact .at ctTg_ok (endR h) h2
 | k+1,i,hi=>.at ctTg_ok (stR (by omega) h.1 h.2.1 ) (loopR h k (i+1) (by omega))
theorem ends {t:Int} {l:List Int} {b:List Bool} {kk:Int} (h:FrOk l b)  : EndM 3 58 ctTg (st0m 58 [.ptr 0 0,.slO 1 1 b.length true,.fn 86 [.ptr 2 0]] (K0 t l b kk) 3) (.slO 3 1 (gF l b (O kk)).length (decide (0 < (gF l b (O kk)).length))) (K0 t l b kk ++ [(3,.seq 3 (.ints .i64 (gF l b (O kk))) (decide (0 < (gF l b (O kk)).length)))]) 4:=by
 have h1:=in_t t l b kk;have hb:b.length≤3000:=by have:=h.1;have:=h.2.1;omega
 rw [b_nil] at h1;simp (disch:=omega) only [Nat.add_eq,eqSy_self,eqN_self,bc_same,List.length_cons,ofn,wrap_in,dt,df,bltD,bltN,ble_of,bleN,beqD,bc_t,bc_f,nn_ok,Nat.zero_add,to_nat,Int.zero_add,Int.sub_zero,Int.sub_self,Int.cast_ofNat_Int,Int.natCast_zero,Int.toNat_zero,List.take_zero,List.nil_append,List.length_append,List.length_nil] at h1;have h2:=loopR (t:=t) (kk:=kk) h b.length 0 (by omega);rw [rstS_zero] at h2;exact .at ctTg_ok h1 h2
end PFrC
end Go.Proofs.Ytfffbioafhppiaa.Ev
namespace Go.Proofs.Ytfffbioafhppiaa.Ev
open Go.Proofs
noncomputable def spFre_0:ZMT:=fun ax K0 m=>match ax,K0 with
 | [.ptr 0 0,.slO 1 1 v_0 v_1,.fn 59 []],[(0,.cells 24 [.v (.int .i64 t),.lst (.ints .i64 l)] v_2),(1,.seq 4 (.bools b) v_3)]=>bc (Nat.beq m (2)) (some ⟨bc (Nat.beq v_0 (b.length)) (bc (eqN v_1 (true)) (bc (eqN v_2 (true)) (bc (eqN v_3 (true)) (decide (FrOk l b)) false) false) false) false,.slO 2 1 (gF l b PFrA.O).length (decide (0 < (gF l b PFrA.O).length)),PFrA.K0 t l b ++ [(2,.seq 3 (.ints .i64 (gF l b PFrA.O)) (decide (0 < (gF l b PFrA.O).length)))],3,2⟩) none
 | _,_=>none
theorem spFre_0_ok:ZMtOk Try.prog 58 spFre_0:=fun γ w0 w us ax K0 m r hs hc hres hax hH=>by
 unfold spFre_0 at hs;split at hs
 case h_2=>cases hs
 rename_i v_0 v_1 t l v_2 b v_3;obtain ⟨hm,rfl⟩:=noN hs;have hm:=Nat.eq_of_beq_eq_true hm;subst hm;have hc_0:bc (Nat.beq v_0 (b.length)) (bc (eqN v_1 (true)) (bc (eqN v_2 (true)) (bc (eqN v_3 (true)) (decide (FrOk l b)) false) false) false) false=true:=hc;obtain ⟨q_0,hc_1⟩:=bcT hc_0;have p_0:=(Nat.eq_of_beq_eq_true q_0).symm;subst p_0;obtain ⟨q_1,hc_2⟩:=bcT hc_1;have p_1:=(eqN_ok q_1).symm;subst p_1;obtain ⟨q_2,hc_3⟩:=bcT hc_2;have p_2:=(eqN_ok q_2).symm;subst p_2;obtain ⟨q_3,hc_4⟩:=bcT hc_3;have p_3:=(eqN_ok q_3).symm;subst p_3
 have hc:=of_decide_eq_true hc_4;exact EndM.calls (PFrA.ends hc) ctTg_ok (by kernel_rfl) hres hax hH
noncomputable def spFre_1:ZMT:=fun ax K0 m=>match ax,K0 with
 | [.ptr 0 0,.slO 1 1 v_0 v_1,.fn 103 [.ptr 2 0]],[(0,.cells 24 [.v (.int .i64 t),.lst (.ints .i64 l)] v_2),(1,.seq 4 (.bools b) v_3),(2,.cells 75 [.slO 3 1 v_4 v_5] v_6),(3,.seq 4 (.bools o) no)]=>bc (Nat.beq m (4)) (some ⟨bc (Nat.beq v_0 (b.length)) (bc (eqN v_1 (true)) (bc (eqN v_2 (true)) (bc (eqN v_3 (true)) (bc (Nat.beq v_4 (o.length)) (bc (eqN v_5 (no)) (bc (eqN v_6 (true)) (decide (FrOkO l b o)) false) false) false) false) false) false) false,.slO 2 1 (gF l b (PFrB.O o)).length (decide (0 < (gF l b (PFrB.O o)).length)),PFrA.K0 t l b ++ [(2,.seq 3 (.ints .i64 (gF l b (PFrB.O o))) (decide (0 < (gF l b (PFrB.O o)).length)))],3,2⟩) none
 | _,_=>none
theorem spFre_1_ok:ZMtOk Try.prog 58 spFre_1:=fun γ w0 w us ax K0 m r hs hc hres hax hH=>by
 unfold spFre_1 at hs;split at hs
 case h_2=>cases hs
 rename_i v_0 v_1 t l v_2 b v_3 v_4 v_5 v_6 o no;obtain ⟨hm,rfl⟩:=noN hs;have hm:=Nat.eq_of_beq_eq_true hm;subst hm;have hc_0:bc (Nat.beq v_0 (b.length)) (bc (eqN v_1 (true)) (bc (eqN v_2 (true)) (bc (eqN v_3 (true)) (bc (Nat.beq v_4 (o.length)) (bc (eqN v_5 (no)) (bc (eqN v_6 (true)) (decide (FrOkO l b o)) false) false) false) false) false) false) false=true:=hc;obtain ⟨q_0,hc_1⟩:=bcT hc_0;have p_0:=(Nat.eq_of_beq_eq_true q_0).symm;subst p_0;obtain ⟨q_1,hc_2⟩:=bcT hc_1;have p_1:=(eqN_ok q_1).symm;subst p_1;obtain ⟨q_2,hc_3⟩:=bcT hc_2
 have p_2:=(eqN_ok q_2).symm;subst p_2;obtain ⟨q_3,hc_4⟩:=bcT hc_3;have p_3:=(eqN_ok q_3).symm;subst p_3;obtain ⟨q_4,hc_5⟩:=bcT hc_4;have p_4:=(Nat.eq_of_beq_eq_true q_4).symm;subst p_4;obtain ⟨q_5,hc_6⟩:=bcT hc_5;have p_5:=(eqN_ok q_5).symm;subst p_5;obtain ⟨q_6,hc_7⟩:=bcT hc_6;have p_6:=(eqN_ok q_6).symm;subst p_6;have hc:=of_decide_eq_true hc_7;exact EndM.calls (PFrB.ends hc.1 hc.2) ctTg_ok (by kernel_rfl) hres hax hH
noncomputable def spFre_2:ZMT:=fun ax K0 m=>match ax,K0 with
 | [.ptr 0 0,.slO 1 1 v_0 v_1,.fn 86 [.ptr 2 0]],[(0,.cells 24 [.v (.int .i64 t),.lst (.ints .i64 l)] v_2),(1,.seq 4 (.bools b) v_3),(2,.cells 3 [.v (.int .i64 kk)] v_4)]=>bc (Nat.beq m (3)) (some ⟨bc (Nat.beq v_0 (b.length)) (bc (eqN v_1 (true)) (bc (eqN v_2 (true)) (bc (eqN v_3 (true)) (bc (eqN v_4 (true)) (decide (FrOk l b)) false) false) false) false) false,.slO 3 1 (gF l b (PFrC.O kk)).length (decide (0 < (gF l b (PFrC.O kk)).length)),PFrC.K0 t l b kk ++ [(3,.seq 3 (.ints .i64 (gF l b (PFrC.O kk))) (decide (0 < (gF l b (PFrC.O kk)).length)))],4,3⟩) none
 | _,_=>none
theorem spFre_2_ok:ZMtOk Try.prog 58 spFre_2:=fun γ w0 w us ax K0 m r hs hc hres hax hH=>by
 unfold spFre_2 at hs;split at hs
 case h_2=>cases hs
 rename_i v_0 v_1 t l v_2 b v_3 kk v_4;obtain ⟨hm,rfl⟩:=noN hs;have hm:=Nat.eq_of_beq_eq_true hm;subst hm;have hc_0:bc (Nat.beq v_0 (b.length)) (bc (eqN v_1 (true)) (bc (eqN v_2 (true)) (bc (eqN v_3 (true)) (bc (eqN v_4 (true)) (decide (FrOk l b)) false) false) false) false) false=true:=hc;obtain ⟨q_0,hc_1⟩:=bcT hc_0;have p_0:=(Nat.eq_of_beq_eq_true q_0).symm;subst p_0;obtain ⟨q_1,hc_2⟩:=bcT hc_1;have p_1:=(eqN_ok q_1).symm;subst p_1;obtain ⟨q_2,hc_3⟩:=bcT hc_2;have p_2:=(eqN_ok q_2).symm;subst p_2;obtain ⟨q_3,hc_4⟩:=bcT hc_3
 have p_3:=(eqN_ok q_3).symm;subst p_3;obtain ⟨q_4,hc_5⟩:=bcT hc_4;have p_4:=(eqN_ok q_4).symm;subst p_4;have hc:=of_decide_eq_true hc_5;exact EndM.calls (PFrC.ends hc) ctTg_ok (by kernel_rfl) hres hax hH
noncomputable def spFre:ZMT:=ZMT.or spFre_0 (ZMT.or spFre_1 (spFre_2))
theorem spFre_ok:ZMtOk Try.prog 58 spFre:=spFre_0_ok.or (spFre_1_ok.or (spFre_2_ok))
namespace PCol
noncomputable def K0 (b:List Bool) (nb:Bool):List (Nat × EK):=[(0,.cells 75 [.slO 1 1 b.length nb] true),(1,.seq 4 (.bools b) nb)]
noncomputable def RUN (s:ES):ZF:=RMs 2 53 .nil [(atS 2 105 1,[[(0,none),(5,none),(6,none),(7,none)],[(2,some (1,3,.ints .i64 []))],[]])] [2] [] s

noncomputable def sL (b:List Bool) (nb:Bool) (g:List Int) (nn:Bool) (i:Int):NS:=⟨[⟨105,20,[(0,(EV.yl 2)),(5,(EV.slO 1 1 (List.length b) (nb))),(6,(EV.v (Value.int IntKind.i64 (Int.ofNat (List.length b))))),(7,iv i)],[.it (.code (nav [1,0,0] (bodyOf Try.f105))),.it (.inLoop (nav [1,0,0] (bodyOf Try.f105))),.it (.inBlock 0)],[],Option.none⟩,⟨104,13,[(2,(EV.ptr 3 0))],[(.inRF 2),.it (.inBlock 0),.it (.code (nav [1,1] (bodyOf Try.f104)))],[(DE.mk 4)],Option.none⟩,⟨53,5,[],[.ops (opsOf (nav [1,0] (bodyOf Try.f53))) ((opsOf (nav [1,0] (bodyOf Try.f53))).toList.drop 1),.it (.code (nav [1,1] (bodyOf Try.f53)))],[],Option.none⟩],[(0,(EK.cells 75 [(EV.slO 1 1 (List.length b) (nb))] true)),(1,(EK.seq 4 (SyC.bools (b)) (nb))),(2,(EK.loop LoopState.ready Option.none 104 13 (Tr.node Option.none (Tr.node Option.none Tr.nil (Tr.node (Option.some (EV.ptr 3 0)) Tr.nil Tr.nil)) Tr.nil) (Array.mk [7]) (nav [1,0,1,0,0] (bodyOf Try.f104)) (nav [1,0,1,0,1] (bodyOf Try.f104)) 4)),(3,EK.cells 22 [EV.slO 5 1 g.length nn] true),(4,(EK.dfr true)),(5,EK.seq 3 (.ints .i64 g) nn)],6⟩
theorem in_t (b:List Bool) (nb:Bool):RUN (st0m 53 [.fn 105 [.ptr 0 0]] (K0 b nb) 2)=(.at (sL (b) (nb) ([]) (false) ((0:Int)))):=by kernel_rfl
theorem l_t (b:List Bool) (nb:Bool) (g:List Int) (nn:Bool) (i:Int):RUN (stOf (sL b nb g nn i))=(bc (decide (i < Int.ofNat (List.length b))) (bc (bc (bc (decide ((0:Int)≤i)) (Nat.blt (Int.toNat i) (List.length b)) false) true false) (bc (bc (Nat.blt (Int.toNat i) (List.length b)) true false) (bc (List.getD b (Int.toNat i) false) (bc (bc (Nat.beq (List.length g) (List.length g)) (bc (Nat.ble (List.length g+List.length (List.map (fun r=>U.int (List.headD r (U.i (0:Int)))) [[U.i i]])) (65536:Nat)) (bc nn true (bc nn false true)) false) false) (.at (sL (b) (nb) (g ++ List.map (fun r=>U.int (List.headD r (U.i (0:Int)))) [[U.i i]]) (bc nn true (Nat.blt (0:Nat) (List.length (List.map (fun r=>U.int (List.headD r (U.i (0:Int)))) [[U.i i]])))) (IntKind.wrap IntKind.i64 (i+(1:Int))))) .bad) (.at (sL (b) (nb) (g) (nn) (IntKind.wrap IntKind.i64 (i+(1:Int)))))) .bad) .bad) (.done (EV.slO 2 1 (List.length g) (nn)) [(0,(EK.cells 75 [(EV.slO 1 1 (List.length b) (nb))] true)),(1,(EK.seq 4 (SyC.bools (b)) (nb))),(2,(EK.seq 3 (SyC.ints IntKind.i64 (g)) (nn)))] 3)):=by kernel_rfl
theorem step {b:List Bool} {nb:Bool} {g:List Int} {i:Nat} (hi:i < b.length) (hb:b.length≤3000) (hg:g.length≤i):RUN (stOf (sL b nb g (decide (0 < g.length)) i)) = .at (sL b nb (g ++ (if b.getD i false then [(i:Int)] else [])) (decide (0 < (g ++ (if b.getD i false then [(i:Int)] else [])).length)) (i+1:Nat)):=by
 have e0:Int.toNat (i:Int)=i:=rfl;have m1:List.map (fun r=>U.int (List.headD r (U.i 0))) [[U.i (i:Int)]]=[(i:Int)]:=rfl;rw [l_t,e0,m1,nn_snoc,nn_any]
 cases b.getD i false with
 | false=>
  rw [if_neg (by simp),List.append_nil];simp (disch:=omega) only [Nat.add_eq,eqSy_self,eqN_self,bc_same,List.length_cons,ofn,wrap_in,dt,df,bltD,bltN,ble_of,bleN,beqD,bc_t,bc_f,nn_ok,Nat.zero_add,to_nat,Int.zero_add,Int.sub_zero,Int.sub_self,Int.cast_ofNat_Int,Int.natCast_zero,Int.toNat_zero,List.take_zero,List.nil_append,List.length_append,List.length_nil];rfl
 | true=>
  rw [if_pos rfl];simp (disch:=omega) only [Nat.add_eq,eqSy_self,eqN_self,bc_same,List.length_cons,ofn,wrap_in,dt,df,bltD,bltN,ble_of,bleN,beqD,bc_t,bc_f,nn_ok,Nat.zero_add,to_nat,Int.zero_add,Int.sub_zero,Int.sub_self,Int.cast_ofNat_Int,Int.natCast_zero,Int.toNat_zero,List.take_zero,List.nil_append,List.length_append,List.length_nil];rfl
theorem loop {b:List Bool} {nb:Bool} (hb:b.length≤3000):∀ (k i:Nat) (g:List Int),i+k=b.length→g.length≤i→EndM 2 53 .nil (stOf (sL b nb g (decide (0 < g.length)) i)) (.slO 2 1 (g ++ ofNs ((List.range' i k).filter fun j=>b.getD j false)).length (decide (0 < (g ++ ofNs ((List.range' i k).filter fun j=>b.getD j false)).length))) (K0 b nb ++ [(2,.seq 3 (.ints .i64 (g ++ ofNs ((List.range' i k).filter fun j=>b.getD j false))) (decide (0 < (g ++ ofNs ((List.range' i k).filter fun j=>b.getD j false)).length)))]) 3
 | 0,i,g,h,hg=>by
  have h1:=l_t b nb g (decide (0 < g.length)) i;rw [df (show ¬ (i:Int) < Int.ofNat b.length by rw [ofn];omega),bc_f] at h1;have e:g ++ ofNs ((List.range' i 0).filter fun j=>b.getD j false)=g:=List.append_nil g;rw [e];exact .done h1
 | k+1,i,g,h,hg=>by
  have h1:=step (b:=b) (nb:=nb) (g:=g) (i:=i) (by omega) hb hg;have e:g ++ ofNs ((List.range' i (k+1)).filter fun j=>b.getD j false)=(g ++ (if b.getD i false then [(i:Int)] else [])) ++ ofNs ((List.range' (i+1) k).filter fun j=>b.getD j false):=by
   rw [List.range'_succ,List.append_assoc];congr 1
   cases hqi:b.getD i false with
   | false=>rw [List.filter_cons_of_neg (p:=fun j=>b.getD j false) (by rw [hqi];simp)];rfl
   | true=>rw [List.filter_cons_of_pos (p:=fun j=>b.getD j false) hqi];rfl
  rw [e];exact .at (.nil _) h1 (loop hb k (i+1) _ (by omega) (by rw [List.length_append];split <;> simp <;> omega))
theorem ends {b:List Bool} {nb:Bool} (hb:b.length≤3000):EndM 2 53 .nil (st0m 53 [.fn 105 [.ptr 0 0]] (K0 b nb) 2) (.slO 2 1 (ofNs (idxB b)).length (decide (0 < (ofNs (idxB b)).length))) (K0 b nb ++ [(2,.seq 3 (.ints .i64 (ofNs (idxB b))) (decide (0 < (ofNs (idxB b)).length)))]) 3:=by
 have h1:=in_t b nb;have h2:=loop (b:=b) (nb:=nb) hb b.length 0 [] (by omega) (Nat.le_refl _);rw [← List.range_eq_range',List.nil_append] at h2;exact .at (.nil _) h1 h2
end PCol
noncomputable def spCol:ZMT:=fun ax K0 m=>match ax,K0 with
 | [.fn 105 [.ptr 0 0]],[(0,.cells 75 [.slO 1 1 v_0 v_1] v_2),(1,.seq 4 (.bools b) nb)]=>bc (Nat.beq m (2)) (some ⟨bc (Nat.beq v_0 (b.length)) (bc (eqN v_1 (nb)) (bc (eqN v_2 (true)) (decide (b.length≤3000)) false) false) false,.slO 2 1 (ofNs (idxB b)).length (decide (0 < (ofNs (idxB b)).length)),PCol.K0 b nb ++ [(2,.seq 3 (.ints .i64 (ofNs (idxB b))) (decide (0 < (ofNs (idxB b)).length)))],3,2⟩) none
 | _,_=>none
theorem spCol_ok:ZMtOk Try.prog 53 spCol:=fun γ w0 w us ax K0 m r hs hc hres hax hH=>by
 unfold spCol at hs;split at hs
 case h_2=>cases hs
 rename_i v_0 v_1 v_2 b nb;obtain ⟨hm,rfl⟩:=noN hs;have hm:=Nat.eq_of_beq_eq_true hm;subst hm;have hc_0:bc (Nat.beq v_0 (b.length)) (bc (eqN v_1 (nb)) (bc (eqN v_2 (true)) (decide (b.length≤3000)) false) false) false=true:=hc;obtain ⟨q_0,hc_1⟩:=bcT hc_0;have p_0:=(Nat.eq_of_beq_eq_true q_0).symm;subst p_0;obtain ⟨q_1,hc_2⟩:=bcT hc_1;have p_1:=(eqN_ok q_1).symm;subst p_1;obtain ⟨q_2,hc_3⟩:=bcT hc_2;have p_2:=(eqN_ok q_2).symm;subst p_2;have hc:=of_decide_eq_true hc_3;exact EndM.calls (PCol.ends hc) (.nil _) (by kernel_rfl) hres hax hH
noncomputable def ctLo:Tr ZCC:=(((Tr.nil.put 52 (some (dC spPChL))).put 55 (some (mC spTgt))).put 58 (some (mC spFre))).put 53 (some (mC spCol))
theorem ctLo_ok:ZCtsOk Try.prog ctLo:=((((ZCtsOk.nil _).add rfl spPChL_ok).addM rfl spTgt_ok).addM rfl spFre_ok).addM rfl spCol_ok
noncomputable abbrev hE (t:Int) (l:List Int):EV:=.agg [iv t,il l]
noncomputable abbrev rsL (e:Int) (l:List Int):EV:=.tup [il (bc (e != 0) [] l),iv e]
theorem rsL_err {e:Int} (l:List Int) (h:e≠0):Weak (.tup [.v (.slice none 0 0),iv e]) (rsL e l):=by
 unfold rsL;rw [show (e != 0)=true by simp [h],bc_t];exact Weak.tup (.cons (Weak.nilI _) (.cons (Weak.refl _) .nil))
theorem anyI_no {p:Int→Bool}:∀ {l:List Int},anyI p l=false→∀ x,x ∈ l→p x=false
 | [],_,x,hx=>by cases hx
 | y :: l,h,x,hx=>by
  unfold anyI at h
  cases hy:p y with
  | true=>rw [hy,bc_t] at h;cases h
  | false=>
   rw [hy,bc_f] at h;rcases List.mem_cons.1 hx with rfl | hx
   ·exact hy
   ·exact anyI_no h x hx
theorem badH_no {t x:Int} (ht:2≤t∧t≤48) (h:badH t x=false):LetOk x:=by
 unfold badH at h
 by_cases h1:x ≤ -t
 ·rw [dt h1,bc_t] at h;cases h
 rw [df h1,bc_f] at h
 by_cases h2:x=0
 ·rw [eqT h2,bc_t] at h;cases h
 rw [eqF h2,bc_f] at h;unfold LetOk
 by_cases h3:t≤x
 ·rw [dt h3,bc_t] at h
  by_cases h4:x≤1000
  ·rw [dt h4,bc_t] at h;cases h
  rw [df h4,bc_f] at h;have:=of_decide_eq_false h;omega
 ·omega
theorem chkL_ok {t:Int} {l:List Int} (h:chkL t l=0):(2≤t∧t≤48)∧l.length≤2000∧∀ x,x ∈ l→LetOk x:=by
 unfold chkL at h
 by_cases h1:t < 2
 ·rw [dt h1,bc_t] at h;cases h
 rw [df h1,bc_f] at h
 by_cases h2:48 < t
 ·rw [dt h2,bc_t] at h;cases h
 rw [df h2,bc_f] at h
 by_cases h3:2000 < (l.length:Int)
 ·rw [dt h3,bc_t] at h;cases h
 rw [df h3,bc_f] at h
 cases hb:anyI (badH t) l with
 | true=>rw [hb,bc_t] at h;cases h
 | false=>exact ⟨by omega,by omega,fun x hx=>badH_no (by omega) (anyI_no hb x hx)⟩
theorem chkL_tig {t:Int} {l:List Int} (h:chkL t l=0):TigOk l l 0 0∧FrOk l (tgA l):=by
 obtain ⟨_,h1,h2⟩:=chkL_ok h;exact ⟨⟨rfl,rfl,by omega,h2⟩,tgA_len l,by omega,h2⟩
namespace PTight
noncomputable def RUN (s:ES):ZF:=RZ 13 ctLo (fun _=>false) [] [] false s
theorem in_t (t:Int) (l:List Int):RUN (st0 13 [hE t l])=(bc (bc (decide (In64 l)) true false) (bc (chkL t l != (0:Int)) (.done (EV.tup [(EV.v (Value.slice Option.none 0 0)),(EV.v (Value.int IntKind.i64 (chkL t l)))]) [] 0) (bc (bc (decide (TigOk l l (0:Nat) (0:Nat))) true false) (bc (bc (bc (Nat.beq (List.length l) (List.length (tgA l))) (decide (List.length (tgA l)≤(3000:Nat))) false) true false) (bc (bc (Nat.beq (List.length (ofNs (idxB (tgA l)))) (List.length (ofNs (idxB (tgA l))))) true false) (.done (EV.tup [(EV.lst (SyC.ints IntKind.i64 (ofNs (idxB (tgA l))))),(EV.v (Value.int IntKind.i64 (0)))]) [] 0) .bad) .bad) .bad)) .bad):=by kernel_rfl
theorem ends {t:Int} {l:List Int} (hx:In64 l):EndZ 13 ctLo false (st0 13 [hE t l]) (rsL (chkL t l) (ofNs (idxB (tgA l)))) [] 0:=by
 have h:=in_t t l;rw [dt hx,bc_t,bc_t] at h
 by_cases z:chkL t l=0
 ·obtain ⟨h1,h2⟩:=chkL_tig z;have h3:=tgA_len l;have h4:=h1.2.2.1;unfold rsL;rw [z,show ((0:Int) != 0)=false from rfl,bc_f,dt h1,h3] at h
  rw [z,show ((0:Int) != 0)=false from rfl,bc_f]
  simp (disch:=omega) only [Nat.add_eq,eqSy_self,eqN_self,bc_same,List.length_cons,ofn,wrap_in,dt,df,bltD,bltN,ble_of,bleN,beqD,bc_t,bc_f,nn_ok,Nat.zero_add,to_nat,Int.zero_add,Int.sub_zero,Int.sub_self,Int.cast_ofNat_Int,Int.natCast_zero,Int.toNat_zero,List.take_zero,List.nil_append,List.length_append,List.length_nil] at h;exact .done h
 ·rw [show (chkL t l != 0)=true by simp [z],bc_t] at h;exact (EndZ.done h).weak (rsL_err _ z)
end PTight
noncomputable def spPTi:ZCT:=fun ax=>match ax with
 | [.agg [.v (.int .i64 t),.lst (.ints .i64 l)]]=>some ⟨decide (In64 l),rsL (chkL t l) (ofNs (idxB (tgA l))),[],0⟩
 | _=>none
theorem spPTi_ok:ZCtOk Try.prog 13 spPTi:=fun γ w us ax r hs hc hax hN hfz=>by
 unfold spPTi at hs;split at hs
 case h_2=>cases hs
 rename_i t l;obtain ⟨rfl⟩:=Option.some.inj hs;have hc_0:decide (In64 l)=true:=hc;have hc:=of_decide_eq_true hc_0;exact EndZ.calls (PTight.ends hc) ctLo_ok (by kernel_rfl) hax hN hfz
namespace PFreed
noncomputable def RUN (s:ES):ZF:=RZ 18 ctLo (fun _=>false) [] [] false s
theorem in_t (t:Int) (l:List Int):RUN (st0 18 [hE t l])=(bc (bc (decide (In64 l)) true false) (bc (chkL t l != (0:Int)) (.done (EV.tup [(EV.v (Value.slice Option.none 0 0)),(EV.v (Value.int IntKind.i64 (chkL t l)))]) [] 0) (bc (bc (decide (TigOk l l (0:Nat) (0:Nat))) true false) (bc (bc (bc (Nat.beq (List.length l) (List.length (tgA l))) (decide (FrOk l (tgA l))) false) true false) (bc (bc (Nat.beq (List.length (gF l (tgA l) PFrA.O)) (List.length (gF l (tgA l) PFrA.O))) true false) (.done (EV.tup [(EV.lst (SyC.ints IntKind.i64 (gF l (tgA l) PFrA.O))),(EV.v (Value.int IntKind.i64 (0)))]) [] 0) .bad) .bad) .bad)) .bad):=by kernel_rfl
theorem ends {t:Int} {l:List Int} (hx:In64 l):EndZ 18 ctLo false (st0 18 [hE t l]) (rsL (chkL t l) (gF l (tgA l) fun _=>true)) [] 0:=by
 have h:=in_t t l;rw [dt hx,bc_t,bc_t] at h
 by_cases z:chkL t l=0
 ·obtain ⟨h1,h2⟩:=chkL_tig z;have h3:=tgA_len l;unfold rsL;rw [z,show ((0:Int) != 0)=false from rfl,bc_f,dt h1,h3,dt h2] at h
  rw [z,show ((0:Int) != 0)=false from rfl,bc_f]
  simp (disch:=omega) only [Nat.add_eq,eqSy_self,eqN_self,bc_same,List.length_cons,ofn,wrap_in,dt,df,bltD,bltN,ble_of,bleN,beqD,bc_t,bc_f,nn_ok,Nat.zero_add,to_nat,Int.zero_add,Int.sub_zero,Int.sub_self,Int.cast_ofNat_Int,Int.natCast_zero,Int.toNat_zero,List.take_zero,List.nil_append,List.length_append,List.length_nil] at h;exact .done h
 ·rw [show (chkL t l != 0)=true by simp [z],bc_t] at h;exact (EndZ.done h).weak (rsL_err _ z)
end PFreed
noncomputable def spPFd:ZCT:=fun ax=>match ax with
 | [.agg [.v (.int .i64 t),.lst (.ints .i64 l)]]=>some ⟨decide (In64 l),rsL (chkL t l) (gF l (tgA l) fun _=>true),[],0⟩
 | _=>none
theorem spPFd_ok:ZCtOk Try.prog 18 spPFd:=fun γ w us ax r hs hc hax hN hfz=>by
 unfold spPFd at hs;split at hs
 case h_2=>cases hs
 rename_i t l;obtain ⟨rfl⟩:=Option.some.inj hs;have hc_0:decide (In64 l)=true:=hc;have hc:=of_decide_eq_true hc_0;exact EndZ.calls (PFreed.ends hc) ctLo_ok (by kernel_rfl) hax hN hfz

namespace PWith
end PWith
end Go.Proofs.Ytfffbioafhppiaa.Ev
namespace Go.Proofs.Ytfffbioafhppiaa.Ev
open Go.Proofs
namespace RTch
end RTch
noncomputable def spTch:ZCT:=fun ax=>match ax with
 | [.v (.int .i64 x),.v (.int .i64 y)]=>some ⟨decide ((-1000000≤x∧x≤1000000)∧(-1000000≤y∧y≤1000000)),bv (tchL x y),[],0⟩
 | _=>none
namespace RIsP
noncomputable def RUN (s:ES):ZF:=RZ 60 .nil (fun _=>false) [] [] false s
theorem in_t (x:Int):RUN (st0 60 [iv x])=(.done (EV.v (Value.bool (decide ((1000:Int) < x)))) [] 0):=by kernel_rfl
end RIsP
noncomputable def spIsP:ZCT:=fun ax=>match ax with
 | [.v (.int .i64 x)]=>some ⟨decide (True),bv (isPn x),[],0⟩
 | _=>none
theorem spIsP_ok:ZCtOk Try.prog 60 spIsP:=fun γ w us ax r hs hc hax hN hfz=>by
 unfold spIsP at hs;split at hs
 case h_2=>cases hs
 rename_i x;obtain ⟨rfl⟩:=Option.some.inj hs;have hc_0:decide (True)=true:=hc;have hc:=of_decide_eq_true hc_0;exact EndZ.calls (.done (RIsP.in_t x)) (.nil _) (by kernel_rfl) hax hN hfz
namespace RAll
end RAll
namespace RHas
end RHas
namespace RPns
end RPns
end Go.Proofs.Ytfffbioafhppiaa.Ev
namespace Go.Proofs.Ytfffbioafhppiaa.Ev
variable {l:List Int} {out:List Nat}
def AscI (n:Nat) (out:List Nat):Prop:=out.Pairwise (· < ·)∧∀ z,z ∈ out→z < n
theorem outS_asc {i n:Nat} (h:AscI n out) (hlt:∀ z,z ∈ out→z < i) (hi:i < n):AscI n (outS l out i)∧(∀ z,z ∈ outS l out i→z < i+1)∧(outS l out i).length≤out.length+1:=by
 unfold outS;split
 ·refine ⟨⟨h.1.sublist List.filter_sublist,fun z hz=>h.2 z (List.mem_filter.1 hz).1⟩,fun z hz=>?_,?_⟩
  ·have:=hlt z (List.mem_filter.1 hz).1;omega
  ·exact Nat.le_trans (List.length_filter_le _ _) (Nat.le_succ _)
 ·refine ⟨⟨List.pairwise_append.2 ⟨h.1,List.pairwise_singleton _ _,fun a ha b hb=>?_⟩,fun z hz=>?_⟩,fun z hz=>?_,by simp⟩
  ·have:b=i:=by simpa using hb
   rw [this];exact hlt a ha
  ·rcases List.mem_append.1 hz with hz | hz
   ·exact h.2 z hz
   ·have:z=i:=by simpa using hz
    omega
  ·rcases List.mem_append.1 hz with hz | hz
   ·have:=hlt z hz;omega
   ·have:z=i:=by simpa using hz
    omega
theorem tigL_asc {n:Nat}:∀ (idx:List Nat) (out:List Nat),AscI n out→AscI n idx→(∀ z w,z ∈ out→w ∈ idx→z < w)→AscI n (idx.foldl (outS l) out)∧(idx.foldl (outS l) out).length≤out.length+idx.length
 | [],out,h,_,_=>⟨h,Nat.le_refl _⟩
 | i :: idx,out,h,hi,hz=>by
  obtain ⟨a1,a2⟩:=List.pairwise_cons.1 hi.1;obtain ⟨b1,b2,b3⟩:=outS_asc (l:=l) (i:=i) h (fun z hz2=>hz z i hz2 List.mem_cons_self) (hi.2 i List.mem_cons_self);obtain ⟨c1,c2⟩:=tigL_asc idx (outS l out i) b1 ⟨a2,fun z hz=>hi.2 z (List.mem_cons_of_mem _ hz)⟩ fun z w hz1 hw=>by
   have:=b2 z hz1;have:=a1 w hw;omega
  refine ⟨c1,?_⟩;rw [List.length_cons];show ((idx.foldl (outS l) (outS l out i))).length≤_;omega
theorem range_asc (n:Nat):AscI n (List.range n):=⟨List.pairwise_lt_range,fun z hz=>List.mem_range.1 hz⟩
theorem AscI.sub {n:Nat} {out:List Nat} (h:AscI n out) (p:Nat→Bool):AscI n (out.filter p):=⟨h.1.sublist List.filter_sublist,fun z hz=>h.2 z (List.mem_filter.1 hz).1⟩
theorem tig_asc {n:Nat} {idx:List Nat} (h:AscI n idx):AscI n (tigL l idx)∧(tigL l idx).length≤idx.length:=by
 obtain ⟨a,b⟩:=tigL_asc (l:=l) (n:=n) idx [] ⟨.nil,fun z hz=>by cases hz⟩ h fun z w hz=>by cases hz
 refine ⟨a,?_⟩;rw [List.length_nil,Nat.zero_add] at b;exact b
end Go.Proofs.Ytfffbioafhppiaa.Ev
namespace Go.Proofs.Ytfffbioafhppiaa.Ev
open Go.Proofs
namespace RTgn
end RTgn
namespace RWou
end RWou
end Go.Proofs.Ytfffbioafhppiaa.Ev
namespace Go.Proofs.Ytfffbioafhppiaa.Ev
variable {l:List Int}
theorem asc_ext:∀ {A B:List Nat},A.Pairwise (· < ·)→B.Pairwise (· < ·)→(∀ z,z ∈ A↔z ∈ B)→A=B
 | [],[],_,_,_=>rfl
 | [],b :: B,_,_,h=>absurd ((h b).2 List.mem_cons_self) (by simp)
 | a :: A,[],_,_,h=>absurd ((h a).1 List.mem_cons_self) (by simp)
 | a :: A,b :: B,ha,hb,h=>by
  obtain ⟨a1,a2⟩:=List.pairwise_cons.1 ha;obtain ⟨b1,b2⟩:=List.pairwise_cons.1 hb;have e:a=b:=by
   rcases List.mem_cons.1 ((h a).1 List.mem_cons_self) with q | q
   ·exact q
   ·have:=b1 a q;rcases List.mem_cons.1 ((h b).2 List.mem_cons_self) with r | r
    ·exact r.symm
    ·have:=a1 b r;omega
  subst e;rw [asc_ext a2 b2 fun z=>?_];have hz:=h z;rw [List.mem_cons,List.mem_cons] at hz;constructor
  ·intro q;rcases hz.1 (.inr q) with r | r
   ·have:=a1 z q;omega
   ·exact r
  ·intro q;rcases hz.2 (.inr q) with r | r
   ·have:=b1 z q;omega
   ·exact r
theorem idx_mrk {n:Nat} {T:List Nat} (h:AscI n T):idxB (mrk n T)=T:=by
 unfold idxB;rw [mrk_len];refine asc_ext ((range_asc n).sub _).1 h.1 fun z=>?_;rw [List.mem_filter,List.mem_range];constructor
 ·rintro ⟨h1,h2⟩
  rw [mrk_get h1] at h2;exact of_decide_eq_true h2
 ·intro q;have h1:=h.2 z q;refine ⟨h1,?_⟩;rw [mrk_get h1];exact decide_eq_true q

noncomputable def tigT (l:List Int):List Nat:=tigL l (List.range l.length)
theorem tigT_asc (l:List Int):AscI l.length (tigT l):=(tig_asc (range_asc l.length)).1
theorem tgA_idx (l:List Int):idxB (tgA l)=tigT l:=idx_mrk (tigT_asc l)

noncomputable def resT (l:List Int) (o:Nat→Bool):List Nat:=(tigT l).filter fun j=>!(isPn (l.getD j 0) && o j)
noncomputable def goT (l:List Int) (o:Nat→Bool):List Nat:=(resT l o).filter fun j=>!decide (j ∈ tigL l (resT l o))
theorem resT_asc (l:List Int) (o:Nat→Bool):AscI l.length (resT l o):=(tigT_asc l).sub _
theorem rst_idx (l:List Int) (o:Nat→Bool):idxB (rstF l (tgA l) o)=resT l o:=by
 unfold idxB;rw [rstF_len,tgA_len];refine asc_ext ((range_asc _).sub _).1 (resT_asc l o).1 fun z=>?_;unfold resT;rw [List.mem_filter,List.mem_range,List.mem_filter];have key:z < l.length→(rstF l (tgA l) o).getD z false=(decide (z ∈ tigT l) && !(isPn (l.getD z 0) && o z)):=fun h1=>by
  unfold rstF;rw [tgA_len,List.getD_eq_getElem?_getD,List.getElem?_map,List.getElem?_range h1];show ((tgA l).getD z false && _)=_;unfold tgA;rw [mrk_get h1];rfl
 constructor
 ·rintro ⟨h1,h2⟩
  rw [key h1,Bool.and_eq_true] at h2;exact ⟨of_decide_eq_true h2.1,h2.2⟩
 ·rintro ⟨h1,h2⟩
  have h3:=(tigT_asc l).2 z h1;refine ⟨h3,?_⟩;rw [key h3,Bool.and_eq_true];exact ⟨decide_eq_true h1,h2⟩
theorem gF_goT (l:List Int) (o:Nat→Bool):gF l (tgA l) o=ofNs (goT l o):=by
 unfold gF gonF goT;rw [rst_idx];congr 1;refine List.filter_congr fun j hj=>?_;have h3:=(resT_asc l o).2 j hj;unfold tgB;rw [rst_idx,mrk_get h3]

end Go.Proofs.Ytfffbioafhppiaa.Ev
namespace Go.Proofs.Ytfffbioafhppiaa.Ev
theorem tch_symm (x y:Int):tchL x y=tchL y x:=by
 unfold tchL;rw [Bool.eq_iff_iff];simp only [Bool.and_eq_true,decide_eq_true_eq,Bool.not_eq_true'];rw [Bool.and_comm (isPn y)];constructor
 ·rintro ⟨⟨a,b⟩,c⟩;exact ⟨⟨by omega,by omega⟩,c⟩
 ·rintro ⟨⟨a,b⟩,c⟩;exact ⟨⟨by omega,by omega⟩,c⟩
theorem tch_neg {x:Int} (h:isPn x=false) (h2:isPn (-x)=false) (y:Int):tchL y (-x)=tchL y x:=by
 unfold tchL;rw [num_neg h h2,h,h2]
theorem tch_self {x:Int} (h:isPn x=false):tchL x x=true:=by
 unfold tchL;rw [h];simp

def rmL (x:Int):List Int→Option (List Int)
 | []=>none
 | y :: q=>if tchL y x=true then (if y = -x∧isPn x=false∧isPn y=false then some q else none) else (rmL x q).map (y :: ·)
def stpL (q:List Int) (x:Int):List Int:=(rmL x q).getD (x :: q)
def redL (q w:List Int):List Int:=w.foldl stpL q

inductive Tq:List Int→List Int→Prop
 | refl (q:List Int):Tq q q
 | swap (u v:Int) (q:List Int) (h:tchL u v=false):Tq (u :: v :: q) (v :: u :: q)
 | cons (y:Int) {q q':List Int} (h:Tq q q'):Tq (y :: q) (y :: q')
 | trans {a b c:List Int} (h:Tq a b) (k:Tq b c):Tq a c
theorem Tq.symm {a b:List Int} (h:Tq a b):Tq b a:=by
 induction h with
 | refl q=>exact .refl q
 | swap u v q h=>exact .swap v u q (by rw [tch_symm];exact h)
 | cons y _ ih=>exact .cons y ih
 | trans _ _ h k=>exact k.trans h
theorem Tq.len {a b:List Int} (h:Tq a b):a.length=b.length:=by
 induction h with
 | refl q=>rfl
 | swap u v q h=>rfl
 | cons y _ ih=>rw [List.length_cons,List.length_cons,ih]
 | trans _ _ h k=>rw [h,k]
inductive OT:Option (List Int)→Option (List Int)→Prop
 | none:OT none none
 | some {a b:List Int} (h:Tq a b):OT (some a) (some b)
theorem OT.map {a b:Option (List Int)} (h:OT a b) (y:Int):OT (a.map (y :: ·)) (b.map (y :: ·)):=by
 cases h with
 | none=>exact .none
 | some h=>exact .some (.cons y h)
theorem OT.trans {a b c:Option (List Int)} (h:OT a b) (k:OT b c):OT a c:=by
 cases h with
 | none=>exact k
 | some h=>cases k with
  | some k=>exact .some (h.trans k)
theorem OT.refl:∀ a:Option (List Int),OT a a
 | .none=>.none
 | .some a=>.some (.refl a)
theorem rm_t {x y:Int} {q:List Int} (h:tchL y x=true):rmL x (y :: q)=if y = -x∧isPn x=false∧isPn y=false then some q else none:=by
 show (if tchL y x=true then _ else _)=_
 rw [if_pos h]
theorem rm_f {x y:Int} {q:List Int} (h:tchL y x=false):rmL x (y :: q)=(rmL x q).map (y :: ·):=by
 show (if tchL y x=true then _ else _)=_
 rw [if_neg (by rw [h];simp)]
theorem rm_hit {x:Int} {q:List Int} (h1:isPn x=false) (h2:isPn (-x)=false):rmL x (-x :: q)=some q:=by
 have:tchL (-x) x=true:=by rw [tch_symm,tch_neg h1 h2];exact tch_self h1
 rw [rm_t this,if_pos ⟨rfl,h1,h2⟩]
theorem rm_swap {u v x:Int} (h:tchL u v=false) (q:List Int):OT (rmL x (u :: v :: q)) (rmL x (v :: u :: q)):=by
 cases hu:tchL u x with
 | true=>
  cases hv:tchL v x with
  | true=>
   have no:∀ {a b:Int},tchL a b=false→tchL b x=true→¬ (a = -x∧isPn x=false∧isPn a=false):=by
    rintro a b h1 h2 ⟨rfl,h3,h4⟩
    rw [tch_symm,tch_neg h3 h4,h2] at h1;cases h1
   rw [rm_t hu,rm_t hv,if_neg (no h hv),if_neg (no (by rw [tch_symm];exact h) hu)];exact .none
  | false=>
   rw [rm_t hu,rm_f hv,rm_t hu];split
   ·exact .some (.refl _)
   ·exact .none
 | false=>
  cases hv:tchL v x with
  | true=>
   rw [rm_f hu,rm_t hv,rm_t hv];split
   ·exact .some (.refl _)
   ·exact .none
  | false=>
   rw [rm_f hu,rm_f hv,rm_f hv,rm_f hu]
   cases rmL x q with
   | none=>exact .none
   | some a=>exact .some (.swap u v a h)
theorem rm_tq {a b:List Int} (h:Tq a b) (x:Int):OT (rmL x a) (rmL x b):=by
 induction h with
 | refl q=>exact .refl _
 | swap u v q h=>exact rm_swap h q
 | @cons y q q' h ih=>
  cases hy:tchL y x with
  | true=>
   rw [rm_t hy,rm_t hy];split
   ·exact .some h
   ·exact .none
  | false=>
   rw [rm_f hy,rm_f hy];exact ih.map y
 | trans _ _ h k=>exact h.trans k
theorem stp_tq {a b:List Int} (h:Tq a b) (x:Int):Tq (stpL a x) (stpL b x):=by
 have:=rm_tq h x;unfold stpL
 cases ha:rmL x a with
 | none=>
  rw [ha] at this
  cases hb:rmL x b with
  | none=>exact .cons x h
  | some c=>rw [hb] at this;cases this
 | some c=>
  rw [ha] at this
  cases hb:rmL x b with
  | none=>rw [hb] at this;cases this
  | some d=>rw [hb] at this;cases this;assumption
theorem red_tq:∀ (w:List Int) {a b:List Int},Tq a b→Tq (redL a w) (redL b w)
 | [],_,_,h=>h
 | x :: w,_,_,h=>red_tq w (stp_tq h x)
theorem rm_cm {x y:Int} (h:tchL x y=false):∀ q:List Int,(∀ q1 q2,rmL x q=some q1→rmL y q=some q2→∃ q3,rmL y q1=some q3∧rmL x q2=some q3)∧(∀ q1,rmL x q=some q1→rmL y q=none→rmL y q1=none)
 | []=>⟨fun q1 q2 h1 _=>(by cases h1),fun q1 h1 _=>(by cases h1)⟩
 | z :: q=>by
  obtain ⟨i1,i2⟩:=rm_cm h q
  cases hx:tchL z x with
  | true=>
   rw [rm_t hx]
   by_cases c:z = -x∧isPn x=false∧isPn z=false
   ·rw [if_pos c];obtain ⟨rfl,c1,c2⟩:=c;have hy:tchL (-x) y=false:=by rw [tch_symm,tch_neg c1 c2,tch_symm];exact h
    rw [rm_f hy];refine ⟨fun q1 q2 h1 h2=>?_,fun q1 h1 h2=>?_⟩
    ·obtain rfl:=Option.some.inj h1
     cases hq:rmL y q with
     | none=>rw [hq] at h2;cases h2
     | some a=>
      rw [hq] at h2;obtain rfl:=Option.some.inj h2;exact ⟨a,rfl,rm_hit c1 c2⟩
    ·obtain rfl:=Option.some.inj h1
     cases hq:rmL y q with
     | none=>rfl
     | some a=>rw [hq] at h2;cases h2
   ·rw [if_neg c];exact ⟨fun q1 q2 h1 _=>(by cases h1),fun q1 h1 _=>(by cases h1)⟩
  | false=>
   rw [rm_f hx]
   cases hq:rmL x q with
   | none=>exact ⟨fun q1 q2 h1 _=>(by cases h1),fun q1 h1 _=>(by cases h1)⟩
   | some a=>
    cases hy:tchL z y with
    | true=>
     rw [rm_t hy];refine ⟨fun q1 q2 h1 h2=>?_,fun q1 h1 h2=>?_⟩
     ·obtain rfl:=Option.some.inj h1
      by_cases c:z = -y∧isPn y=false∧isPn z=false
      ·rw [if_pos c] at h2;obtain rfl:=Option.some.inj h2;exact ⟨a,by rw [rm_t hy,if_pos c],hq⟩
      ·rw [if_neg c] at h2;cases h2
     ·obtain rfl:=Option.some.inj h1;show rmL y (z :: a)=none;rw [rm_t hy]
      by_cases c:z = -y∧isPn y=false∧isPn z=false
      ·rw [if_pos c] at h2;cases h2
      ·rw [if_neg c]
    | false=>
     rw [rm_f hy];refine ⟨fun q1 q2 h1 h2=>?_,fun q1 h1 h2=>?_⟩
     ·obtain rfl:=Option.some.inj h1
      cases hb:rmL y q with
      | none=>rw [hb] at h2;cases h2
      | some b=>
       rw [hb] at h2;obtain rfl:=Option.some.inj h2;obtain ⟨q3,e1,e2⟩:=i1 a b hq hb;refine ⟨z :: q3,?_,?_⟩
       ·show rmL y (z :: a)=_;rw [rm_f hy,e1];rfl
       ·show rmL x (z :: b)=_;rw [rm_f hx,e2];rfl
     ·obtain rfl:=Option.some.inj h1;show rmL y (z :: a)=none
      cases hb:rmL y q with
      | none=>rw [rm_f hy,i2 a hq hb];rfl
      | some b=>rw [hb] at h2;cases h2
theorem stp_some {x:Int} {q a:List Int} (h:rmL x q=some a):stpL q x=a:=by unfold stpL;rw [h];rfl
theorem stp_none {x:Int} {q:List Int} (h:rmL x q=none):stpL q x=x :: q:=by unfold stpL;rw [h];rfl
theorem stp_cm {x y:Int} (h:tchL x y=false) (q:List Int):Tq (stpL (stpL q x) y) (stpL (stpL q y) x):=by
 have h':tchL y x=false:=by rw [tch_symm];exact h
 cases hx:rmL x q with
 | none=>
  cases hy:rmL y q with
  | none=>
   have e1:rmL y (x :: q)=none:=by rw [rm_f h,hy];rfl
   have e2:rmL x (y :: q)=none:=by rw [rm_f h',hx];rfl
   rw [stp_none hx,stp_none hy,stp_none e1,stp_none e2];exact .swap y x q h'
  | some b=>
   have e1:rmL y (x :: q)=some (x :: b):=by rw [rm_f h,hy];rfl
   have e2:=(rm_cm h' q).2 b hy hx;rw [stp_none hx,stp_some hy,stp_some e1,stp_none e2];exact .refl _
 | some a=>
  cases hy:rmL y q with
  | none=>
   have e1:=(rm_cm h q).2 a hx hy;have e2:rmL x (y :: q)=some (y :: a):=by rw [rm_f h',hx];rfl
   rw [stp_some hx,stp_none hy,stp_none e1,stp_some e2];exact .refl _
  | some b=>
   obtain ⟨c,e1,e2⟩:=(rm_cm h q).1 a b hx hy;rw [stp_some hx,stp_some hy,stp_some e1,stp_some e2];exact .refl _

def Rdc:List Int→Prop
 | []=>True
 | x :: q=>rmL x q=none∧Rdc q
theorem rm_n {a b:List Int} {x:Int} (h:Tq a b) (k:rmL x a=none):rmL x b=none:=by
 have:=rm_tq h x;rw [k] at this
 cases hb:rmL x b with
 | none=>rfl
 | some c=>rw [hb] at this;cases this
theorem map_n {a:Option (List Int)} {y:Int} (h:a.map (y :: ·)=none):a=none:=by
 cases a with
 | none=>rfl
 | some b=>cases h
theorem rdc_tq {a b:List Int} (h:Tq a b):Rdc a→Rdc b:=by
 induction h with
 | refl q=>exact id
 | swap u v q h=>
  rintro ⟨h1,h2,h3⟩
  have h':tchL v u=false:=by rw [tch_symm];exact h
  rw [rm_f h'] at h1;exact ⟨by rw [rm_f h,h2];rfl,map_n h1,h3⟩
 | cons y h ih=>exact fun ⟨h1,h2⟩=>⟨rm_n h h1,ih h2⟩
 | trans _ _ h k=>exact fun q=>k (h q)
theorem rm_pn {x:Int}:∀ {q a:List Int},rmL x q=some a→isPn x=false∧isPn (-x)=false
 | [],_,h=>by cases h
 | y :: q,a,h=>by
  cases hy:tchL y x with
  | true=>
   rw [rm_t hy] at h
   by_cases c:y = -x∧isPn x=false∧isPn y=false
   ·obtain ⟨rfl,c1,c2⟩:=c;exact ⟨c1,c2⟩
   ·rw [if_neg c] at h;cases h
  | false=>
   rw [rm_f hy] at h
   cases hq:rmL x q with
   | none=>rw [hq] at h;cases h
   | some b=>exact rm_pn hq
theorem rm_head {x:Int}:∀ {q a:List Int},rmL x q=some a→Tq q (-x :: a)
 | [],_,h=>by cases h
 | y :: q,a,h=>by
  obtain ⟨p1,p2⟩:=rm_pn h
  cases hy:tchL y x with
  | true=>
   rw [rm_t hy] at h
   by_cases c:y = -x∧isPn x=false∧isPn y=false
   ·rw [if_pos c] at h;obtain rfl:=Option.some.inj h;rw [c.1];exact .refl _
   ·rw [if_neg c] at h;cases h
  | false=>
   rw [rm_f hy] at h
   cases hq:rmL x q with
   | none=>rw [hq] at h;cases h
   | some b=>
    rw [hq] at h;obtain rfl:=Option.some.inj h;exact (Tq.cons y (rm_head hq)).trans (.swap y (-x) b (by rw [tch_neg p1 p2];exact hy))
theorem stp_inv {x:Int} {q:List Int} (h:Rdc q) (h1:isPn x=false) (h2:isPn (-x)=false):Tq (stpL (stpL q x) (-x)) q:=by
 cases hx:rmL x q with
 | none=>
  have e:rmL (-x) (x :: q)=some q:=by
   have:=rm_hit (x:=-x) (q:=q) h2 (by rw [Int.neg_neg];exact h1)
   rwa [Int.neg_neg] at this
  rw [stp_none hx,stp_some e];exact .refl _
 | some a=>
  have e:=rm_head hx;rw [stp_some hx,stp_none (rdc_tq e h).1];exact e.symm
theorem stp_rdc {x:Int} {q:List Int} (h:Rdc q):Rdc (stpL q x):=by
 cases hx:rmL x q with
 | none=>rw [stp_none hx];exact ⟨hx,h⟩
 | some a=>rw [stp_some hx];exact (rdc_tq (rm_head hx) h).2
theorem red_rdc:∀ (w:List Int) {q:List Int},Rdc q→Rdc (redL q w)
 | [],_,h=>h
 | x :: w,_,h=>red_rdc w (stp_rdc h)
theorem red_app (q a b:List Int):redL q (a ++ b)=redL (redL q a) b:=List.foldl_append ..
theorem red_cm {x:Int}:∀ (M q:List Int),(∀ y,y ∈ M→tchL y x=false)→Tq (stpL (redL q M) x) (redL (stpL q x) M)
 | [],q,_=>.refl _
 | m :: M,q,h=>(red_cm M (stpL q m) fun y hy=>h y (List.mem_cons_of_mem _ hy)).trans (red_tq M (stp_cm (h m List.mem_cons_self) q))

theorem red_pair {x:Int} {q M C:List Int} (hq:Rdc q) (h1:isPn x=false) (h2:isPn (-x)=false) (hM:∀ y,y ∈ M→tchL y x=false):Tq (redL q (x :: M ++ -x :: C)) (redL q (M ++ C)):=by
 show Tq (redL q ((x :: M) ++ (-x :: C))) _;rw [red_app,red_app];show Tq (redL (stpL (redL (stpL q x) M) (-x)) C) _;refine red_tq C ?_;refine (red_cm M (stpL q x) fun y hy=>by rw [tch_neg h1 h2];exact hM y hy).trans ?_;exact red_tq M (stp_inv hq h1 h2)
theorem rm_len {x:Int} {q a:List Int} (h:rmL x q=some a):q.length=a.length+1:=by
 have:=(rm_head h).len
 rwa [List.length_cons] at this
theorem red_le:∀ (w q:List Int),(redL q w).length≤q.length+w.length
 | [],q=>Nat.le_refl _
 | x :: w,q=>by
  have h1:=red_le w (stpL q x);have h2:(stpL q x).length≤q.length+1:=by
   cases hx:rmL x q with
   | none=>rw [stp_none hx];exact Nat.le_refl _
   | some a=>rw [stp_some hx];have:=rm_len hx;omega
  show (redL (stpL q x) w).length≤_;rw [List.length_cons];omega
end Go.Proofs.Ytfffbioafhppiaa.Ev
namespace Go.Proofs.Ytfffbioafhppiaa.Ev
variable {l:List Int}

def ltsL (l:List Int) (L:List Nat):List Int:=L.map fun j=>l.getD j 0
theorem lts_app (l:List Int) (A B:List Nat):ltsL l (A ++ B)=ltsL l A ++ ltsL l B:=List.map_append
theorem lts_one (l:List Int) (i:Nat):ltsL l [i]=[l.getD i 0]:=rfl
theorem lts_cons (l:List Int) (i:Nat) (A:List Nat):ltsL l (i :: A)=l.getD i 0 :: ltsL l A:=rfl
theorem lts_len (l:List Int) (A:List Nat):(ltsL l A).length=A.length:=List.length_map ..
theorem rm_no {x:Int}:∀ {q:List Int},(∀ y,y ∈ q→tchL y x=false)→rmL x q=none
 | [],_=>rfl
 | y :: q,h=>by
  rw [rm_f (h y List.mem_cons_self),rm_no fun z hz=>h z (List.mem_cons_of_mem _ hz)];rfl
theorem rm_ov {x:Int} {q:List Int}:∀ {Y:List Int},(∀ y,y ∈ Y→tchL y x=false)→rmL x (Y ++ q)=(rmL x q).map (Y ++ ·)
 | [],_=>by cases h:rmL x q <;> (show rmL x q=_;rw [h];rfl)
 | y :: Y,h=>by
  show rmL x (y :: (Y ++ q))=_;rw [rm_f (h y List.mem_cons_self),rm_ov fun z hz=>h z (List.mem_cons_of_mem _ hz)];cases rmL x q <;> rfl

theorem out_cases {out:List Nat} {i:Nat} (hp:out.Pairwise (· < ·)) (hs:-1000≤l.getD i 0):(outS l out i=out ++ [i]∧rmL (l.getD i 0) (ltsL l out).reverse=none)∨∃ X e Y,out=X ++ e :: Y∧outS l out i=X ++ Y∧isPn (l.getD i 0)=false∧isPn (-(l.getD i 0))=false∧l.getD e 0 = -(l.getD i 0)∧∀ y,y ∈ Y→tchL (l.getD y 0) (l.getD i 0)=false:=by
 obtain ⟨t1,t2⟩:=tpO_top (l:=l) hp (l.getD i 0);rcases t2 with t2 | ⟨e,t2,he,ht⟩
 ·refine .inl ⟨?_,rm_no fun y hy=>?_⟩
  ·unfold outS;rw [if_neg (by rintro ⟨h,_⟩;omega)]
  ·obtain ⟨j,hj,rfl⟩:=List.mem_map.1 (List.mem_reverse.1 hy)
   cases hq:tchL (l.getD j 0) (l.getD i 0) with
   | false=>rfl
   | true=>have:=t1 j ⟨hj,hq⟩;omega
 ·obtain ⟨X,Y,rfl⟩:=List.append_of_mem he;obtain ⟨p1,p2,p3⟩:=List.pairwise_append.1 hp;have hY:∀ y,y ∈ Y→tchL (l.getD y 0) (l.getD i 0)=false:=fun y hy=>by
   cases hq:tchL (l.getD y 0) (l.getD i 0) with
   | false=>rfl
   | true=>
    have h1:=t1 y ⟨List.mem_append_right _ (List.mem_cons_of_mem _ hy),hq⟩;have h2:=(List.pairwise_cons.1 p2).1 y hy;omega
  have hn:(tpO l (X ++ e :: Y) (l.getD i 0)).toNat=e:=by rw [t2];rfl
  have hpn:isPn (l.getD i 0)=false→isPn (-(l.getD i 0))=false:=fun _=>decide_eq_false (by omega)
  by_cases c:0≤tpO l (X ++ e :: Y) (l.getD i 0)∧isPn (l.getD i 0)=false∧l.getD (tpO l (X ++ e :: Y) (l.getD i 0)).toNat 0 = -(l.getD i 0)
  ·refine .inr ⟨X,e,Y,rfl,?_,c.2.1,hpn c.2.1,by rw [← hn];exact c.2.2,hY⟩;unfold outS;rw [if_pos c,hn,List.filter_append,List.filter_cons_of_neg (by simp)];rw [List.filter_eq_self.2 fun y hy=>decide_eq_true (by have:=p3 y hy e List.mem_cons_self;omega),List.filter_eq_self.2 fun y hy=>decide_eq_true (by have:=(List.pairwise_cons.1 p2).1 y hy;omega)]
  ·refine .inl ⟨by unfold outS;rw [if_neg c],?_⟩;have e1:(ltsL l (X ++ e :: Y)).reverse=(ltsL l Y).reverse ++ l.getD e 0 :: (ltsL l X).reverse:=by
    rw [lts_app,lts_cons,List.reverse_append,List.reverse_cons,List.append_assoc];rfl
   rw [e1,rm_ov fun y hy=>by
    obtain ⟨j,hj,rfl⟩:=List.mem_map.1 (List.mem_reverse.1 hy);exact hY j hj,rm_t ht,if_neg]
   ·rfl
   ·rintro ⟨q1,q2,_⟩
    exact c ⟨by omega,q2,by rw [hn];exact q1⟩
theorem stk_out {out:List Nat} {i:Nat} (hp:out.Pairwise (· < ·)) (hs:-1000≤l.getD i 0):(ltsL l (outS l out i)).reverse=stpL (ltsL l out).reverse (l.getD i 0):=by
 rcases out_cases hp hs with ⟨h1,h2⟩ | ⟨X,e,Y,rfl,h1,h2,h3,h4,h5⟩
 ·rw [h1,stp_none h2,lts_app,List.reverse_append];rfl
 ·have e1:(ltsL l (X ++ e :: Y)).reverse=(ltsL l Y).reverse ++ l.getD e 0 :: (ltsL l X).reverse:=by
   rw [lts_app,lts_cons,List.reverse_append,List.reverse_cons,List.append_assoc];rfl
  have e2:rmL (l.getD i 0) (ltsL l (X ++ e :: Y)).reverse=some ((ltsL l Y).reverse ++ (ltsL l X).reverse):=by
   rw [e1,rm_ov fun y hy=>by
    obtain ⟨j,hj,rfl⟩:=List.mem_map.1 (List.mem_reverse.1 hy);exact h5 j hj,h4,rm_hit h2 h3]
   rfl
  rw [stp_some e2,h1,lts_app,List.reverse_append]
theorem asc_step {out L:List Nat} {i:Nat} (hp:(out ++ i :: L).Pairwise (· < ·)) (hs:-1000≤l.getD i 0):(outS l out i ++ L).Pairwise (· < ·):=by
 have hp0:=(List.pairwise_append.1 hp).1;rcases out_cases hp0 hs with ⟨h1,h2⟩ | ⟨X,e,Y,rfl,h1,h2,h3,h4,h5⟩
 ·rw [h1,List.append_assoc];exact hp
 ·rw [h1];refine hp.sublist (List.Sublist.append (List.Sublist.append (List.Sublist.refl _) (List.sublist_cons_self _ _)) (List.sublist_cons_self _ _))
theorem stk_fold (hs:∀ j,-1000≤l.getD j 0):∀ (L out:List Nat),(out ++ L).Pairwise (· < ·)→(ltsL l (L.foldl (outS l) out)).reverse=redL (ltsL l out).reverse (ltsL l L)
 | [],out,_=>rfl
 | i :: L,out,hp=>by
  show (ltsL l (L.foldl (outS l) (outS l out i))).reverse=redL (stpL (ltsL l out).reverse (l.getD i 0)) (ltsL l L);rw [stk_fold hs L _ (asc_step hp (hs i)),stk_out (List.pairwise_append.1 hp).1 (hs i)]
theorem tig_red (hs:∀ j,-1000≤l.getD j 0) {L:List Nat} (hp:L.Pairwise (· < ·)):(tigL l L).length=(redL [] (ltsL l L)).length:=by
 have:=stk_fold hs L [] hp;rw [show redL [] (ltsL l L)=redL (ltsL l []).reverse (ltsL l L) from rfl,← this,List.length_reverse,lts_len]
 rfl
theorem mono_fold (hs:∀ j,-1000≤l.getD j 0) {kp:Nat→Bool} (hk:∀ j,kp j=false→isPn (l.getD j 0)=true):∀ (L out B:List Nat),(out ++ L).Pairwise (· < ·)→Tq (redL [] (ltsL l B)) (redL [] (ltsL l (out.filter kp)))→Tq (redL [] (ltsL l (B ++ L.filter kp))) (redL [] (ltsL l ((L.foldl (outS l) out).filter kp)))
 | [],out,B,_,h=>by rw [List.filter_nil,List.append_nil];exact h
 | i :: L,out,B,hp,h=>by
  have hp0:=(List.pairwise_append.1 hp).1;have ha:=asc_step hp (hs i);show Tq _ (redL [] (ltsL l ((L.foldl (outS l) (outS l out i)).filter kp)))
  cases c:kp i with
  | true=>
   have e1:B ++ (i :: L).filter kp=(B ++ [i]) ++ L.filter kp:=by rw [List.filter_cons_of_pos c,List.append_assoc];rfl
   rw [e1];refine mono_fold hs hk L _ _ ha ?_;rw [lts_app,lts_one,red_app];refine (stp_tq h (l.getD i 0)).trans ?_;rcases out_cases hp0 (hs i) with ⟨h1,h2⟩ | ⟨X,e,Y,rfl,h1,h2,h3,h4,h5⟩
   ·rw [h1,List.filter_append,List.filter_cons_of_pos c,List.filter_nil,lts_app,lts_one,red_app];exact .refl _
   ·have ce:kp e=true:=by
     cases q:kp e with
     | true=>rfl
     | false=>have:=hk e q;rw [h4,h3] at this;cases this
    rw [h1,List.filter_append,List.filter_append,List.filter_cons_of_pos ce,lts_app,lts_app,lts_cons,red_app,red_app,h4];have:=red_pair (x:=-(l.getD i 0)) (q:=redL [] (ltsL l (X.filter kp))) (M:=ltsL l (Y.filter kp)) (C:=[]) (red_rdc _ trivial) h3 (by rw [Int.neg_neg];exact h2) (fun y hy=>by
     obtain ⟨j,hj,rfl⟩:=List.mem_map.1 hy;rw [tch_neg h2 h3];exact h5 j (List.mem_filter.1 hj).1)
    rw [Int.neg_neg,List.append_nil,red_app] at this;exact this
  | false=>
   have e1:B ++ (i :: L).filter kp=B ++ L.filter kp:=by rw [List.filter_cons_of_neg (by rw [c];simp)]
   rw [e1];refine mono_fold hs hk L _ _ ha ?_;rcases out_cases hp0 (hs i) with ⟨h1,h2⟩ | ⟨X,e,Y,rfl,h1,h2,h3,h4,h5⟩
   ·rw [h1,List.filter_append,List.filter_cons_of_neg (by rw [c];simp),List.filter_nil,List.append_nil];exact h
   ·rw [hk i c] at h2;cases h2
theorem fold_mem (hs:∀ j,-1000≤l.getD j 0) {z:Nat}:∀ (L out:List Nat),(out ++ L).Pairwise (· < ·)→(z ∈ L.foldl (outS l) out→z ∈ out ++ L)∧(isPn (l.getD z 0)=true→z ∈ out ++ L→z ∈ L.foldl (outS l) out)
 | [],out,_=>by rw [List.append_nil];exact ⟨id,fun _=>id⟩
 | i :: L,out,hp=>by
  have hp0:=(List.pairwise_append.1 hp).1;obtain ⟨i1,i2⟩:=fold_mem hs L _ (asc_step hp (hs i));show (z ∈ L.foldl (outS l) (outS l out i)→_)∧(_→_→z ∈ L.foldl (outS l) (outS l out i));rcases out_cases hp0 (hs i) with ⟨h1,h2⟩ | ⟨X,e,Y,rfl,h1,h2,h3,h4,h5⟩
  ·rw [h1] at i1 i2 ⊢;rw [List.append_assoc] at i1 i2;exact ⟨i1,i2⟩
  ·rw [h1] at i1 i2 ⊢;simp only [List.mem_append,List.mem_cons] at i1 i2 ⊢;refine ⟨fun h=>?_,fun h k=>i2 h ?_⟩
   ·rcases i1 h with (h | h) | h
    ·exact .inl (.inl h)
    ·exact .inl (.inr (.inr h))
    ·exact .inr (.inr h)
   ·rcases k with (k | k | k) | k | k
    ·exact .inl (.inl k)
    ·rw [k,h4,h3] at h;cases h
    ·exact .inl (.inr k)
    ·rw [k,h2] at h;cases h
    ·exact .inr k
theorem cnt_not (p:Nat→Bool):∀ L:List Nat,(L.filter p).length+(L.filter fun z=>!p z).length=L.length
 | []=>rfl
 | x :: L=>by
  have:=cnt_not p L
  cases h:p x with
  | true=>rw [List.filter_cons_of_pos h,List.filter_cons_of_neg (by rw [h];simp),List.length_cons,List.length_cons];omega
  | false=>rw [List.filter_cons_of_neg (by rw [h];simp),List.filter_cons_of_pos (by rw [h];rfl),List.length_cons,List.length_cons];omega
theorem go_cnt (hs:∀ j,-1000≤l.getD j 0) (o:Nat→Bool):(goT l o).length+(tigL l (resT l o)).length=(resT l o).length:=by
 have ha:=resT_asc l o;have e:(resT l o).filter (fun j=>decide (j ∈ tigL l (resT l o)))=tigL l (resT l o):=asc_ext (ha.sub _).1 (tig_asc (l:=l) ha).1.1 fun z=>by
  rw [List.mem_filter,decide_eq_true_iff];exact ⟨fun h=>h.2,fun h=>⟨(fold_mem hs (resT l o) [] ha.1).1 h,h⟩⟩
 have:=cnt_not (fun j=>decide (j ∈ tigL l (resT l o))) (resT l o);rw [e] at this;unfold goT;omega

end Go.Proofs.Ytfffbioafhppiaa.Ev
namespace Go.Proofs.Ytfffbioafhppiaa.Ev

inductive Eqv:List Int→List Int→Prop
 | refl (w:List Int):Eqv w w
 | swap (A B:List Int) (u v:Int) (hu:-1000≤u) (hv:-1000≤v) (h:tchL u v=false):Eqv (A ++ u :: v :: B) (A ++ v :: u :: B)
 | pair (A B:List Int) (x:Int) (h:isPn x=false) (h2:isPn (-x)=false):Eqv (A ++ x :: -x :: B) (A ++ B)
 | symm {a b:List Int} (h:Eqv a b):Eqv b a
 | trans {a b c:List Int} (h:Eqv a b) (k:Eqv b c):Eqv a c
theorem eqv_red {a b:List Int} (h:Eqv a b):∀ q,Rdc q→Tq (redL q a) (redL q b):=by
 induction h with
 | refl w=>exact fun q _=>.refl _
 | swap A B u v hu hv h=>
  intro q hq;rw [red_app,red_app];exact red_tq B (stp_cm h _)
 | pair A B x h h2=>
  intro q hq;rw [red_app,red_app];exact red_tq B (stp_inv (red_rdc A hq) h h2)
 | symm _ ih=>exact fun q hq=>(ih q hq).symm
 | trans _ _ i1 i2=>exact fun q hq=>(i1 q hq).trans (i2 q hq)
theorem Eqv.app {a b:List Int} (h:Eqv a b) (C:List Int):Eqv (a ++ C) (b ++ C):=by
 induction h with
 | refl w=>exact .refl _
 | swap A B u v hu hv h=>
  have:=Eqv.swap A (B ++ C) u v hu hv h;simpa using this
 | pair A B x h h2=>
  have:=Eqv.pair A (B ++ C) x h h2;simpa using this
 | symm _ ih=>exact ih.symm
 | trans _ _ i1 i2=>exact i1.trans i2
theorem Tq.mem {a b:List Int} (h:Tq a b) (z:Int):z ∈ a↔z ∈ b:=by
 induction h with
 | refl q=>exact Iff.rfl
 | swap u v q h=>simp only [List.mem_cons];constructor <;> (rintro (q | q | q) <;> simp [q])
 | cons y _ ih=>rw [List.mem_cons,List.mem_cons,ih]
 | trans _ _ i1 i2=>exact i1.trans i2

def LetB (w:List Int):Prop:=∀ z,z ∈ w → -1000≤z
theorem tq_eqv {a b:List Int} (h:Tq a b):LetB a→Eqv a.reverse b.reverse:=by
 induction h with
 | refl q=>exact fun _=>.refl _
 | swap u v q h=>
  intro hb;have:=Eqv.swap q.reverse [] v u (hb v (by simp)) (hb u (by simp)) (by rw [tch_symm];exact h);simpa using this
 | cons y _ ih=>
  intro hb;rw [List.reverse_cons,List.reverse_cons];exact (ih fun z hz=>hb z (List.mem_cons_of_mem _ hz)).app [y]
 | trans h1 _ i1 i2=>exact fun hb=>(i1 hb).trans (i2 fun z hz=>hb z ((h1.mem z).2 hz))
theorem stp_mem {q:List Int} {x z:Int} (h:z ∈ stpL q x):z=x∨z ∈ q:=by
 cases hx:rmL x q with
 | none=>rw [stp_none hx] at h;exact List.mem_cons.1 h
 | some a=>
  rw [stp_some hx] at h;exact .inr (((rm_head hx).mem z).2 (List.mem_cons_of_mem _ h))
theorem stp_eqv {q:List Int} {x:Int} (hq:LetB q):Eqv (q.reverse ++ [x]) (stpL q x).reverse:=by
 cases hx:rmL x q with
 | none=>rw [stp_none hx,List.reverse_cons];exact .refl _
 | some a=>
  obtain ⟨p1,p2⟩:=rm_pn hx;rw [stp_some hx];have h1:=(tq_eqv (rm_head hx) hq).app [x];rw [List.reverse_cons,List.append_assoc] at h1;have h2:=Eqv.pair a.reverse [] (-x) p2 (by rw [Int.neg_neg];exact p1);rw [Int.neg_neg,List.append_nil] at h2;exact h1.trans h2
theorem red_eqv:∀ (w q:List Int),LetB q→LetB w→Eqv (q.reverse ++ w) (redL q w).reverse
 | [],q,_,_=>by rw [List.append_nil];exact .refl _
 | x :: w,q,hq,hw=>by
  have hx:=hw x List.mem_cons_self;have h1:=(stp_eqv (x:=x) hq).app w;rw [List.append_assoc] at h1;exact h1.trans (red_eqv w (stpL q x) (fun z hz=>by
   rcases stp_mem hz with e | e
   ·rw [e];exact hx
   ·exact hq z e) fun z hz=>hw z (List.mem_cons_of_mem _ hz))
def negL (x:Int):Int:=if isPn x=true then x else -x

def bkL (w:List Int):List Int:=(w.map negL).reverse
theorem neg_pn {x:Int} (h:-1000≤x):isPn (negL x)=isPn x:=by
 unfold negL
 cases c:isPn x with
 | true=>rw [if_pos rfl];exact c
 | false=>rw [if_neg (by simp)];exact decide_eq_false (by omega)
theorem neg_num {x:Int} (h:-1000≤x):numL (negL x)=numL x:=by
 have h2:=neg_pn h;unfold negL at h2 ⊢
 cases c:isPn x with
 | true=>rw [if_pos rfl]
 | false=>
  rw [c,if_neg (by simp)] at h2;rw [if_neg (by simp)];exact num_neg c h2
theorem neg_tch {x y:Int} (h:-1000≤x) (k:-1000≤y):tchL (negL x) (negL y)=tchL x y:=by
 unfold tchL;rw [neg_pn h,neg_pn k,neg_num h,neg_num k]
theorem neg_ge {x:Int} (h:-1000≤x):-1000≤negL x:=by
 unfold negL
 cases c:isPn x with
 | true=>rw [if_pos rfl];exact h
 | false=>have:=of_decide_eq_false c;rw [if_neg (by simp)];omega
theorem neg_negL {x:Int} (h:-1000≤x):negL (negL x)=x:=by
 have h2:=neg_pn h
 cases c:isPn x with
 | true=>unfold negL;rw [if_pos c,if_pos c]
 | false=>
  rw [c] at h2;unfold negL at h2 ⊢;rw [if_neg (show ¬ isPn x=true by rw [c];simp)] at h2 ⊢;rw [if_neg (by rw [h2];simp),Int.neg_neg]
theorem bk_app (a b:List Int):bkL (a ++ b)=bkL b ++ bkL a:=by unfold bkL;rw [List.map_append,List.reverse_append]
theorem bk_two (u v:Int) (B:List Int):bkL (u :: v :: B)=bkL B ++ [negL v,negL u]:=by unfold bkL;simp
theorem bk_len (w:List Int):(bkL w).length=w.length:=by unfold bkL;simp
theorem bk_b {w:List Int} (h:LetB w):LetB (bkL w):=fun z hz=>by
 obtain ⟨y,hy,rfl⟩:=List.mem_map.1 (List.mem_reverse.1 hz);exact neg_ge (h y hy)
theorem bk_bk {w:List Int} (h:LetB w):bkL (bkL w)=w:=by
 unfold bkL;rw [List.map_reverse,List.reverse_reverse,List.map_map];have:w.map (negL ∘ negL)=w.map id:=List.map_congr_left fun x hx=>neg_negL (h x hx);rw [this,List.map_id]
theorem eqv_bk {a b:List Int} (h:Eqv a b):Eqv (bkL a) (bkL b):=by
 induction h with
 | refl w=>exact .refl _
 | swap A B u v hu hv h=>
  rw [bk_app,bk_app,bk_two,bk_two];have:=Eqv.swap (bkL B) (bkL A) (negL v) (negL u) (neg_ge hv) (neg_ge hu) (by rw [neg_tch hv hu,tch_symm];exact h);simpa using this
 | pair A B x h h2=>
  rw [bk_app,bk_app,bk_two];have e1:negL x = -x:=by unfold negL;rw [if_neg (by rw [h];simp)]
  have e2:negL (-x)=x:=by unfold negL;rw [if_neg (by rw [h2];simp),Int.neg_neg]
  rw [e1,e2];have:=Eqv.pair (bkL B) (bkL A) x h h2;simpa using this
 | symm _ ih=>exact ih.symm
 | trans _ _ i1 i2=>exact i1.trans i2
theorem letB_nil:LetB []:=fun _ h=>(by cases h)
theorem bk_le {w:List Int} (h:LetB w):(redL [] (bkL w)).length≤(redL [] w).length:=by
 have h1:=eqv_bk (red_eqv w [] letB_nil h);have h2:=(eqv_red h1 [] trivial).len;have h3:=red_le (bkL (redL [] w).reverse) [];rw [bk_len,List.length_reverse] at h3;have e:bkL ([].reverse ++ w)=bkL w:=rfl;rw [e] at h2;rw [h2];simpa using h3

theorem bk_red {w:List Int} (h:LetB w):(redL [] (bkL w)).length=(redL [] w).length:=by
 have h1:=bk_le h;have h2:=bk_le (bk_b h);rw [bk_bk h] at h2;omega

theorem stp_cnt (q:List Int) (x:Int):(stpL q x).countP isPn=q.countP isPn+(if isPn x then 1 else 0):=by
 cases hx:rmL x q with
 | none=>rw [stp_none hx,List.countP_cons]
 | some a=>
  obtain ⟨p1,p2⟩:=rm_pn hx;have cnt:∀ {a b:List Int},Tq a b→a.countP isPn=b.countP isPn:=fun h=>by
   induction h with
   | refl q=>rfl
   | swap u v q h=>rw [List.countP_cons,List.countP_cons,List.countP_cons,List.countP_cons];omega
   | cons y _ ih=>rw [List.countP_cons,List.countP_cons,ih]
   | trans _ _ i1 i2=>exact i1.trans i2
  rw [stp_some hx,cnt (rm_head hx),List.countP_cons,p1,p2];simp
theorem red_cnt:∀ (w q:List Int),(redL q w).countP isPn=q.countP isPn+w.countP isPn
 | [],q=>rfl
 | x :: w,q=>by
  show (redL (stpL q x) w).countP isPn=_;rw [red_cnt w,stp_cnt,List.countP_cons];omega

structure SeeF (D:Int→Prop) (f:Int→Int):Prop where
 pn:∀ x,D x→isPn (f x)=isPn x
 tch:∀ x y,D x→D y→tchL (f x) (f y)=tchL x y
 opp:∀ x y,D x→D y→isPn x=false→isPn y=false→(f y = -(f x)↔y = -x)
section
variable {D:Int→Prop} {f:Int→Int}
theorem SeeF.rm (H:SeeF D f) {x:Int} (hx:D x):∀ q:List Int,(∀ y,y ∈ q→D y)→rmL (f x) (q.map f)=(rmL x q).map (·.map f)
 | [],_=>rfl
 | y :: q,hq=>by
  have hy:=hq y List.mem_cons_self;have ih:=H.rm hx q fun z hz=>hq z (List.mem_cons_of_mem _ hz);rw [List.map_cons]
  cases c:tchL y x with
  | true=>
   rw [rm_t c,rm_t (by rw [H.tch y x hy hx];exact c)]
   by_cases d:y = -x∧isPn x=false∧isPn y=false
   ·rw [if_pos d,if_pos ⟨(H.opp x y hx hy d.2.1 d.2.2).2 d.1,by rw [H.pn x hx];exact d.2.1,by rw [H.pn y hy];exact d.2.2⟩];rfl
   ·rw [if_neg d,if_neg]
    ·rfl
    ·rintro ⟨q1,q2,q3⟩
     rw [H.pn x hx] at q2;rw [H.pn y hy] at q3;exact d ⟨(H.opp x y hx hy q2 q3).1 q1,q2,q3⟩
  | false=>
   rw [rm_f c,rm_f (by rw [H.tch y x hy hx];exact c),ih];cases rmL x q <;> rfl
theorem SeeF.stp (H:SeeF D f) {x:Int} (hx:D x) {q:List Int} (hq:∀ y,y ∈ q→D y):stpL (q.map f) (f x)=(stpL q x).map f:=by
 unfold stpL;rw [H.rm hx q hq];cases rmL x q <;> rfl
theorem SeeF.red (H:SeeF D f):∀ (w q:List Int),(∀ y,y ∈ q→D y)→(∀ y,y ∈ w→D y)→redL (q.map f) (w.map f)=(redL q w).map f
 | [],q,_,_=>rfl
 | x :: w,q,hq,hw=>by
  have hx:=hw x List.mem_cons_self;show redL (stpL (q.map f) (f x)) (w.map f)=_;rw [H.stp hx hq];exact H.red w (stpL q x) (fun z hz=>by
   rcases stp_mem hz with e | e
   ·rw [e];exact hx
   ·exact hq z e) fun z hz=>hw z (List.mem_cons_of_mem _ hz)
theorem SeeF.len (H:SeeF D f) {w:List Int} (hw:∀ y,y ∈ w→D y):(redL [] (w.map f)).length=(redL [] w).length:=by
 have:=H.red w [] (fun _ h=>(by cases h)) hw;rw [show redL [] (w.map f)=redL ([].map f) (w.map f) from rfl,this,List.length_map]
end
section
variable {l:List Int}
theorem lts_range (l:List Int):ltsL l (List.range l.length)=l:=by
 unfold ltsL;apply List.ext_getElem
 ·simp
 ·intro i h1 h2;rw [List.getElem_map,List.getElem_range,getD_at h2]

theorem tigT_w (hs:∀ j,-1000≤l.getD j 0):ltsL l (tigT l)=(redL [] l).reverse:=by
 have h1:=stk_fold hs (List.range l.length) [] (by rw [List.nil_append];exact (range_asc l.length).1);rw [lts_range] at h1;have h2:(ltsL l (tigT l)).reverse=redL [] l:=h1;rw [← h2,List.reverse_reverse]
theorem tigT_len (hs:∀ j,-1000≤l.getD j 0):(tigT l).length=(redL [] l).length:=by
 have:=congrArg List.length (tigT_w hs)
 rwa [lts_len,List.length_reverse] at this
theorem lts_filter (p:Int→Bool):∀ L:List Nat,ltsL l (L.filter fun j=>p (l.getD j 0))=(ltsL l L).filter p
 | []=>rfl
 | i :: L=>by
  have ih:=lts_filter p L;rw [lts_cons,List.filter_cons,List.filter_cons]
  cases c:p (l.getD i 0) with
  | true=>rw [if_pos rfl,if_pos rfl,lts_cons,ih]
  | false=>rw [if_neg (by simp),if_neg (by simp),ih]
theorem resA (l:List Int):resT l (fun _=>true)=(tigT l).filter fun j=>(fun x=>!isPn x) (l.getD j 0):=by
 unfold resT;exact List.filter_congr fun j _=>by rw [Bool.and_true]

theorem go_all (hs:∀ j,-1000≤l.getD j 0):(goT l fun _=>true).length+(redL [] (l.filter fun x=>!isPn x)).length+l.countP isPn=(redL [] l).length:=by
 have h1:=go_cnt hs fun _=>true;have h2:=tig_red hs (resT_asc l fun _=>true).1;have h3:=mono_fold (l:=l) hs (kp:=fun j=>(fun x=>!isPn x) (l.getD j 0)) (fun j q=>by simpa using q) (List.range l.length) [] [] (by rw [List.nil_append];exact (range_asc l.length).1) (.refl _);have e1:(List.range l.length).foldl (outS l) []=tigT l:=rfl;rw [List.nil_append,lts_filter (fun x=>!isPn x),lts_range,e1,← resA] at h3;have h4:=h3.len;have h5:(resT l fun _=>true).length=(ltsL l (resT l fun _=>true)).length:=(lts_len l _).symm
 rw [resA,lts_filter (fun x=>!isPn x),tigT_w hs,List.filter_reverse,List.length_reverse,← resA,← List.countP_eq_length_filter (l:=redL [] l)] at h5;have h6:=red_cnt l [];rw [List.countP_nil,Nat.zero_add] at h6;have h7:(redL [] l).countP (fun x=>!isPn x)+(redL [] l).countP isPn=(redL [] l).length:=by
  have:∀ q:List Int,q.countP (fun x=>!isPn x)+q.countP isPn=q.length:=fun q=>by
   induction q with
   | nil=>rfl
   | cons x q ih=>
    rw [List.countP_cons,List.countP_cons,List.length_cons];cases isPn x <;> simp <;> omega
  exact this _
 omega
end
end Go.Proofs.Ytfffbioafhppiaa.Ev
namespace Go.Proofs.Ytfffbioafhppiaa.Ev
open Go.Proofs

def LetD (t x:Int):Prop:=(1000 < x∧x < 1000+t)∨(0 < x∧x < t)∨(-t < x∧x < 0)
theorem bad_iff {t x:Int} (ht:2≤t∧t≤48):badH t x=false↔LetD t x:=by
 unfold badH LetD
 by_cases h1:x ≤ -t
 ·rw [dt h1,bc_t];constructor
  ·intro h;cases h
  ·intro h;omega
 rw [df h1,bc_f]
 by_cases h2:x=0
 ·rw [h2];constructor
  ·intro h;cases h
  ·intro h;omega
 rw [show (x == 0)=false by simp [h2],bc_f]
 by_cases h3:t≤x
 ·rw [dt h3,bc_t]
  by_cases h4:x≤1000
  ·rw [dt h4,bc_t];constructor
   ·intro h;cases h
   ·intro h;omega
  ·rw [df h4,bc_f,decide_eq_false_iff_not];constructor <;> intro h <;> omega
 ·rw [df h3,bc_f];exact ⟨fun _=>by omega,fun _=>rfl⟩
theorem any_iff {p:Int→Bool}:∀ {l:List Int},anyI p l=false↔∀ x,x ∈ l→p x=false
 | []=>⟨fun _ x h=>(by cases h),fun _=>rfl⟩
 | y :: l=>by
  have ih:=any_iff (p:=p) (l:=l);show bc (p y) true (anyI p l)=false↔_
  cases c:p y with
  | true=>rw [bc_t];exact ⟨fun h=>(by cases h),fun h=>(by rw [h y List.mem_cons_self] at c;cases c)⟩
  | false=>
   rw [bc_f,ih];exact ⟨fun h x hx=>(List.mem_cons.1 hx).elim (fun e=>e ▸ c) (h x),fun h x hx=>h x (List.mem_cons_of_mem _ hx)⟩
theorem chk_iff {t:Int} {l:List Int}:chkL t l=0↔(2≤t∧t≤48)∧l.length≤2000∧∀ x,x ∈ l→LetD t x:=by
 unfold chkL
 by_cases h1:t < 2
 ·rw [dt h1,bc_t];constructor
  ·intro h;cases h
  ·intro h;omega
 rw [df h1,bc_f]
 by_cases h2:48 < t
 ·rw [dt h2,bc_t];constructor
  ·intro h;cases h
  ·intro h;omega
 rw [df h2,bc_f]
 by_cases h3:(2000:Int) < (l.length:Int)
 ·rw [dt h3,bc_t];constructor
  ·intro h;cases h
  ·intro h;omega
 rw [df h3,bc_f];have ht:2≤t∧t≤48:=by omega
 cases c:anyI (badH t) l with
 | true=>
  rw [bc_t];constructor
  ·intro h;cases h
  ·intro h;rw [any_iff.2 fun x hx=>(bad_iff ht).2 (h.2.2 x hx)] at c;cases c
 | false=>exact ⟨fun _=>⟨ht,by omega,fun x hx=>(bad_iff ht).1 (any_iff.1 c x hx)⟩,fun _=>rfl⟩

def see1 (t how x:Int):Int:=if isPn x then (if how=1 then 2000+t - x else x) else if how=1 then (if 0 < x then t - x else -t - x) else -x
def seeL (t how:Int) (l:List Int):List Int:=if how=2 then (l.map (see1 t how)).reverse else l.map (see1 t how)
theorem see_len (t how:Int) (l:List Int):(seeL t how l).length=l.length:=by
 unfold seeL;split <;> simp
theorem see_neg {t how:Int} (h:how≠1) (x:Int):see1 t how x=negL x:=by
 unfold see1 negL;rw [if_neg h,if_neg h]
theorem isp_t {x:Int} (h:1000 < x):isPn x=true:=decide_eq_true h
theorem isp_f {x:Int} (h:x≤1000):isPn x=false:=decide_eq_false (by omega)
theorem num_p {x:Int} (h:1000 < x):numL x=x - 1000:=by unfold numL;rw [if_pos h]
theorem num_u {x:Int} (h:0 < x∧x≤1000):numL x=x:=by unfold numL;rw [if_neg (by omega),if_neg (by omega)]
theorem num_n {x:Int} (h:x < 0):numL x = -x:=by unfold numL;rw [if_neg (by omega),if_pos h]

theorem see_one {t x:Int} (ht:2≤t∧t≤48) (h:LetD t x):(1000 < x∧see1 t 1 x=2000+t - x)∨(0 < x∧x < t∧see1 t 1 x=t - x)∨(-t < x∧x < 0∧see1 t 1 x = -t - x):=by
 unfold see1;rcases h with h | h | h
 ·rw [isp_t h.1,if_pos rfl,if_pos rfl];exact .inl ⟨h.1,rfl⟩
 ·rw [isp_f (by omega),if_neg (by simp),if_pos rfl,if_pos h.1];exact .inr (.inl ⟨h.1,h.2,rfl⟩)
 ·rw [isp_f (by omega),if_neg (by simp),if_pos rfl,if_neg (by omega)];exact .inr (.inr ⟨h.1,h.2,rfl⟩)
theorem see1_d {t how x:Int} (ht:2≤t∧t≤48) (h:LetD t x):LetD t (see1 t how x):=by
 by_cases c:how=1
 ·subst c;unfold LetD at h ⊢;rcases see_one ht h with ⟨h1,e⟩ | ⟨h1,h2,e⟩ | ⟨h1,h2,e⟩ <;> omega
 ·rw [see_neg c];unfold negL;unfold LetD at h ⊢
  cases q:isPn x with
  | true=>rw [if_pos rfl];exact h
  | false=>have:=of_decide_eq_false q;rw [if_neg (by simp)];omega
theorem see1_pn {t x:Int} (ht:2≤t∧t≤48) (h:LetD t x):isPn (see1 t 1 x)=isPn x:=by
 unfold LetD at h;rcases see_one ht h with ⟨h1,e⟩ | ⟨h1,h2,e⟩ | ⟨h1,h2,e⟩
 ·rw [e,isp_t h1,isp_t (by omega)]
 ·rw [e,isp_f (by omega),isp_f (by omega)]
 ·rw [e,isp_f (by omega),isp_f (by omega)]
theorem see1_num {t x:Int} (ht:2≤t∧t≤48) (h:LetD t x):numL (see1 t 1 x)=t - numL x:=by
 unfold LetD at h;rcases see_one ht h with ⟨h1,e⟩ | ⟨h1,h2,e⟩ | ⟨h1,h2,e⟩
 ·rw [e,num_p h1,num_p (by omega)];omega
 ·rw [e,num_u (by omega),num_u (by omega)]
 ·rw [e,num_n (by omega),num_n (by omega)];omega
theorem see_f1 {t:Int} (ht:2≤t∧t≤48):SeeF (LetD t) (see1 t 1) where
 pn x h:=see1_pn ht h
 tch x y h k:=by
  unfold tchL;rw [see1_pn ht h,see1_pn ht k,see1_num ht h,see1_num ht k,Bool.eq_iff_iff];simp only [Bool.and_eq_true,decide_eq_true_eq];constructor <;> (rintro ⟨⟨a,b⟩,c⟩;exact ⟨⟨by omega,by omega⟩,c⟩)
 opp x y h k hp kp:=by
  have hp:=of_decide_eq_false hp;have kp:=of_decide_eq_false kp;rcases see_one ht h with ⟨h1,e⟩ | ⟨h1,h2,e⟩ | ⟨h1,h2,e⟩ <;> rcases see_one ht k with ⟨k1,e'⟩ | ⟨k1,k2,e'⟩ | ⟨k1,k2,e'⟩ <;> rw [e,e'] <;> omega
theorem see_f0 {t how:Int} (ht:2≤t∧t≤48) (h0:how≠1):SeeF (LetD t) (see1 t how) where
 pn x h:=by rw [see_neg h0];exact neg_pn (by unfold LetD at h;omega)
 tch x y h k:=by rw [see_neg h0,see_neg h0];exact neg_tch (by unfold LetD at h;omega) (by unfold LetD at k;omega)
 opp x y h k hp kp:=by
  rw [see_neg h0,see_neg h0];unfold negL;rw [if_neg (show ¬ isPn x=true by rw [hp];simp),if_neg (show ¬ isPn y=true by rw [kp];simp)];omega
theorem see_bk (t:Int) (l:List Int):seeL t 2 l=bkL l:=by
 unfold seeL bkL;rw [if_pos rfl];rw [List.map_congr_left fun x _=>see_neg (t:=t) (how:=2) (by decide) x]
theorem see_chk {t how:Int} {l:List Int} (z:chkL t l=0):chkL t (seeL t how l)=0:=by
 obtain ⟨h1,h2,h3⟩:=chk_iff.1 z;refine chk_iff.2 ⟨h1,by rw [see_len];exact h2,fun x hx=>?_⟩;have:x ∈ l.map (see1 t how):=by
  unfold seeL at hx;split at hx
  ·exact List.mem_reverse.1 hx
  ·exact hx
 obtain ⟨y,hy,rfl⟩:=List.mem_map.1 this;exact see1_d h1 (h3 y hy)
theorem letD_hs {t:Int} {l:List Int} (ht:2≤t∧t≤48) (h:∀ x,x ∈ l→LetD t x):∀ j,-1000≤l.getD j 0:=fun j=>by
 by_cases hj:j < l.length
 ·have:=h (l.getD j 0) (by rw [getD_at hj];exact List.getElem_mem hj);unfold LetD at this;omega
 ·rw [List.getD_eq_getElem?_getD,List.getElem?_eq_none (by omega)];decide
theorem filter_mapF {D:Int→Prop} {f:Int→Int} (H:SeeF D f):∀ {l:List Int},(∀ x,x ∈ l→D x)→(l.map f).filter (fun x=>!isPn x)=(l.filter fun x=>!isPn x).map f∧(l.map f).countP isPn=l.countP isPn
 | [],_=>⟨rfl,rfl⟩
 | x :: l,h=>by
  obtain ⟨i1,i2⟩:=filter_mapF H (l:=l) fun z hz=>h z (List.mem_cons_of_mem _ hz);have hx:=H.pn x (h x List.mem_cons_self);rw [List.map_cons,List.filter_cons,List.filter_cons,List.countP_cons,List.countP_cons,hx,i1,i2];refine ⟨?_,rfl⟩;cases isPn x <;> rfl

theorem see_cnt {t how:Int} {l:List Int} (z:chkL t l=0):(tigT (seeL t how l)).length=(tigT l).length∧(goT (seeL t how l) fun _=>true).length=(goT l fun _=>true).length:=by
 obtain ⟨h1,h2,h3⟩:=chk_iff.1 z;obtain ⟨k1,k2,k3⟩:=chk_iff.1 (see_chk (how:=how) z);have hs:=letD_hs h1 h3;have ks:=letD_hs k1 k3;have g1:=go_all hs;have g2:=go_all ks;rw [tigT_len hs,tigT_len ks];have hb:LetB l:=fun x hx=>by have:=h3 x hx;unfold LetD at this;omega
 have key:(redL [] (seeL t how l)).length=(redL [] l).length∧(redL [] ((seeL t how l).filter fun x=>!isPn x)).length=(redL [] (l.filter fun x=>!isPn x)).length∧(seeL t how l).countP isPn=l.countP isPn:=by
  by_cases c:how=2
  ·subst c;rw [see_bk];have e:(bkL l).filter (fun x=>!isPn x)=bkL (l.filter fun x=>!isPn x):=by
    unfold bkL;rw [List.filter_reverse];congr 1;rw [List.filter_map];congr 1;exact List.filter_congr fun x hx=>by show (!isPn (negL x))=_;rw [neg_pn (hb x hx)]
   refine ⟨bk_red hb,by rw [e];exact bk_red fun x hx=>hb x (List.mem_filter.1 hx).1,?_⟩;unfold bkL;rw [List.countP_reverse,List.countP_map];exact List.countP_congr fun x hx=>by show isPn (negL x)=true↔_;rw [neg_pn (hb x hx)]
  ·have e:seeL t how l=l.map (see1 t how):=by unfold seeL;rw [if_neg c]
   have F:SeeF (LetD t) (see1 t how):=by
    by_cases d:how=1
    ·subst d;exact see_f1 h1
    ·exact see_f0 h1 d
   obtain ⟨f1,f2⟩:=filter_mapF F h3;rw [e,f1,f2];exact ⟨F.len h3,F.len fun x hx=>h3 x (List.mem_filter.1 hx).1,rfl⟩
 omega
noncomputable def ctSe:Tr ZCC:=(Tr.nil.put 60 (some (dC spIsP)))
theorem ctSe_ok:ZCtsOk Try.prog ctSe:=(ZCtsOk.nil _).add rfl spIsP_ok
namespace LSee
noncomputable def RUN (s:ES):ZF:=RZs 20 ctSe [(atS 0 20 3,[[(1,none),(2,none),(4,none),(5,some (1,3,.ints .i64 [])),(6,none)]]),(atS 0 20 9,[[(1,none),(2,none),(4,none),(5,some (1,3,.ints .i64 [])),(6,none),(7,none)]]),(atR 0 20 16,[[(1,none),(2,none),(4,none),(5,some (1,3,.ints .i64 [])),(6,none),(7,none)]])] [] false s

noncomputable def sL (t:Int) (l:List Int) (how:Int) (q:List Int) (nn:Bool) (i:Int):NS:=⟨[⟨20,78,[(1,(EV.v (Value.int IntKind.i64 (how)))),(2,(EV.ptr 0 0)),(4,(EV.ptr 1 0)),(5,(EV.ptr 2 0)),(6,iv i)],[.it (.code (nav [1,1,0,1,0,0,0] (bodyOf Try.f20))),.it (.code (nav [1,1,0,1,0,0,1] (bodyOf Try.f20))),.it (.inLoop (nav [1,1,0,1,0,0] (bodyOf Try.f20))),.it (.inBlock 0),.it (.code (nav [1,1,1] (bodyOf Try.f20)))],[],Option.none⟩],[(0,(EK.cells 24 [(EV.v (Value.int IntKind.i64 (t))),(EV.lst (SyC.ints IntKind.i64 (l)))] true)),(1,(EK.cells 24 [(EV.v (Value.int IntKind.i64 (0))),(EV.v (Value.slice Option.none 0 0))] true)),(2,EK.cells 24 [iv t,EV.slO 3 1 q.length nn] true),(3,EK.seq 3 (.ints .i64 q) nn)],4⟩
noncomputable def sX (t:Int) (l:List Int) (how:Int) (q:List Int) (nn:Bool) (i x:Int):NS:=⟨[⟨20,78,[(1,iv how),(2,(EV.ptr 0 0)),(4,(EV.ptr 1 0)),(5,(EV.ptr 2 0)),(6,iv i),(7,iv x)],[.it (.code (nav [1,1,0,1,0,0,1,0,0,1,1,0,0] (bodyOf Try.f20))),.it (.inBlock 2),.it (.code (nav [1,1,0,1,0,0,1,0,0,1,1,1] (bodyOf Try.f20))),.it (.inBlock 1),.it (.code (nav [1,1,0,1,0,0,1,1] (bodyOf Try.f20))),.it (.inLoop (nav [1,1,0,1,0,0] (bodyOf Try.f20))),.it (.inBlock 0),.it (.code (nav [1,1,1] (bodyOf Try.f20)))],[],Option.none⟩],[(0,EK.cells 24 [iv t,il l] true),(1,(EK.cells 24 [(EV.v (Value.int IntKind.i64 (0))),(EV.v (Value.slice Option.none 0 0))] true)),(2,(EK.cells 24 [(EV.v (Value.int IntKind.i64 (t))),(EV.slO 3 1 (List.length q) (nn))] true)),(3,(EK.seq 3 (SyC.ints IntKind.i64 (q)) (nn)))],4⟩
noncomputable def sY (t:Int) (l:List Int) (how:Int) (q:List Int) (nn:Bool) (i x:Int):NS:=⟨[⟨20,78,[(1,iv how),(2,(EV.ptr 0 0)),(4,(EV.ptr 1 0)),(5,(EV.ptr 2 0)),(6,iv i),(7,iv x)],[.it (.code (nav [1,1,0,1,0,0,1,0,0,1,1,1] (bodyOf Try.f20))),.it (.inBlock 1),.it (.code (nav [1,1,0,1,0,0,1,1] (bodyOf Try.f20))),.it (.inLoop (nav [1,1,0,1,0,0] (bodyOf Try.f20))),.it (.inBlock 0),.it (.code (nav [1,1,1] (bodyOf Try.f20)))],[],Option.none⟩],[(0,(EK.cells 24 [(EV.v (Value.int IntKind.i64 (t))),(EV.lst (SyC.ints IntKind.i64 (l)))] true)),(1,(EK.cells 24 [(EV.v (Value.int IntKind.i64 (0))),(EV.v (Value.slice Option.none 0 0))] true)),(2,(EK.cells 24 [(EV.v (Value.int IntKind.i64 (t))),(EV.slO 3 1 (List.length q) (nn))] true)),(3,(EK.seq 3 (SyC.ints IntKind.i64 (q)) (nn)))],4⟩
theorem in_t (t:Int) (l:List Int) (how:Int):RUN (st0 20 [hE t l,iv how])=(.at (sL (t) (l) (how) ([]) (false) ((0:Int)))):=by kernel_rfl
theorem l_t (t:Int) (l:List Int) (how:Int) (q:List Int) (nn:Bool) (i:Int):RUN (stOf (sL t l how q nn i))=(bc (decide (i < Int.ofNat (List.length l))) (bc (bc (bc (decide ((0:Int)≤i)) (Nat.blt (Int.toNat i) (List.length l)) false) true false) (bc (bc (Nat.blt (Int.toNat i) (List.length l)) true false) (bc (how == (2:Int)) (bc (bc (bc (decide ((0:Int)≤IntKind.wrap IntKind.i64 (IntKind.wrap IntKind.i64 (Int.ofNat (List.length l) - (1:Int)) - i))) (Nat.blt (Int.toNat (IntKind.wrap IntKind.i64 (IntKind.wrap IntKind.i64 (Int.ofNat (List.length l) - (1:Int)) - i))) (List.length l)) false) true false) (bc (bc (Nat.blt (Int.toNat (IntKind.wrap IntKind.i64 (IntKind.wrap IntKind.i64 (Int.ofNat (List.length l) - (1:Int)) - i))) (List.length l)) true false) (.at (sX (t) (l) (how) (q) (nn) (i) (List.getD l (Int.toNat (IntKind.wrap IntKind.i64 (IntKind.wrap IntKind.i64 (Int.ofNat (List.length l) - (1:Int)) - i))) (0:Int)))) .bad) .bad) (.at (sX (t) (l) (how) (q) (nn) (i) (List.getD l (Int.toNat i) (0:Int))))) .bad) .bad) (bc (bc (Nat.beq (List.length q) (List.length q)) true false) (.done (EV.agg [(EV.v (Value.int IntKind.i64 (t))),(EV.lst (SyC.ints IntKind.i64 (q)))]) [] 0) .bad)):=by kernel_rfl
theorem x_t (t:Int) (l:List Int) (how:Int) (q:List Int) (nn:Bool) (i x:Int):RUN (stOf (sX t l how q nn i x))=(bc (isPn x) (bc (how == (1:Int)) (.at (sY (t) (l) (how) (q) (nn) (i) (IntKind.wrap IntKind.i64 (IntKind.wrap IntKind.i64 ((2000:Int)+t) - x)))) (bc (isPn x) (.at (sY (t) (l) (how) (q) (nn) (i) (x))) (bc (how == (1:Int)) (bc (decide ((0:Int) < x)) (.at (sY (t) (l) (how) (q) (nn) (i) (IntKind.wrap IntKind.i64 (t - x)))) (bc (how == (1:Int)) (.at (sY (t) (l) (how) (q) (nn) (i) (IntKind.wrap IntKind.i64 (IntKind.wrap IntKind.i64 ((0:Int) - t) - x)))) (.at (sY (t) (l) (how) (q) (nn) (i) (IntKind.wrap IntKind.i64 ((0:Int) - x)))))) (bc (how == (1:Int)) (.at (sY (t) (l) (how) (q) (nn) (i) (IntKind.wrap IntKind.i64 (IntKind.wrap IntKind.i64 ((0:Int) - t) - x)))) (.at (sY (t) (l) (how) (q) (nn) (i) (IntKind.wrap IntKind.i64 ((0:Int) - x)))))))) (bc (isPn x) (.at (sY (t) (l) (how) (q) (nn) (i) (x))) (bc (how == (1:Int)) (bc (decide ((0:Int) < x)) (.at (sY (t) (l) (how) (q) (nn) (i) (IntKind.wrap IntKind.i64 (t - x)))) (bc (how == (1:Int)) (.at (sY (t) (l) (how) (q) (nn) (i) (IntKind.wrap IntKind.i64 (IntKind.wrap IntKind.i64 ((0:Int) - t) - x)))) (.at (sY (t) (l) (how) (q) (nn) (i) (IntKind.wrap IntKind.i64 ((0:Int) - x)))))) (bc (how == (1:Int)) (.at (sY (t) (l) (how) (q) (nn) (i) (IntKind.wrap IntKind.i64 (IntKind.wrap IntKind.i64 ((0:Int) - t) - x)))) (.at (sY (t) (l) (how) (q) (nn) (i) (IntKind.wrap IntKind.i64 ((0:Int) - x)))))))):=by kernel_rfl
theorem y_t (t:Int) (l:List Int) (how:Int) (q:List Int) (nn:Bool) (i x:Int):RUN (stOf (sY t l how q nn i x))=(bc (bc (Nat.beq (List.length q) (List.length q)) (bc (Nat.ble (List.length q+List.length (List.map (fun r=>U.int (List.headD r (U.i (0:Int)))) [[U.i x]])) (65536:Nat)) (bc nn true (bc nn false true)) false) false) (.at (sL (t) (l) (how) (q ++ List.map (fun r=>U.int (List.headD r (U.i (0:Int)))) [[U.i x]]) (bc nn true (Nat.blt (0:Nat) (List.length (List.map (fun r=>U.int (List.headD r (U.i (0:Int)))) [[U.i x]])))) (IntKind.wrap IntKind.i64 (i+(1:Int))))) .bad):=by kernel_rfl
theorem oneS (x:Int):List.map (fun r=>U.int (List.headD r (U.i (0:Int)))) [[U.i x]]=[x]:=rfl
theorem stepX {t how:Int} {l q:List Int} {nn:Bool} {i x:Int} (ht:2≤t∧t≤48) (hx:LetD t x):RUN (stOf (sX t l how q nn i x)) = .at (sY t l how q nn i (see1 t how x)):=by
 rw [x_t];unfold see1;unfold LetD at hx;have w1:IntKind.wrap IntKind.i64 (2000+t)=2000+t:=wrap_in _ (by omega) (by omega);have w2:IntKind.wrap IntKind.i64 (2000+t - x)=2000+t - x:=wrap_in _ (by omega) (by omega);have w3:IntKind.wrap IntKind.i64 (t - x)=t - x:=wrap_in _ (by omega) (by omega);have w4:IntKind.wrap IntKind.i64 (0 - t) = -t:=by rw [wrap_in _ (by omega) (by omega)];omega
 have w5:IntKind.wrap IntKind.i64 (-t - x) = -t - x:=wrap_in _ (by omega) (by omega);have w6:IntKind.wrap IntKind.i64 (0 - x) = -x:=by rw [wrap_in _ (by omega) (by omega)];omega
 rw [w1,w2,w3,w4,w5,w6]
 by_cases c:how=1
 ·rw [show (how == 1)=true by simp [c],if_pos c,if_pos c]
  cases isPn x with
  | true=>rfl
  | false=>
   by_cases d:0 < x
   ·rw [dt d,if_pos d];rfl
   ·rw [df d,if_neg d];rfl
 ·rw [show (how == 1)=false by simp [c],if_neg c,if_neg c];cases isPn x <;> rfl
theorem loop {t how:Int} {l:List Int} (ht:2≤t∧t≤48) (hl:l.length≤3000) (hx:∀ x,x ∈ l→LetD t x):∀ (k i:Nat) (nn:Bool),i+k=l.length→EndZ 20 ctSe false (stOf (sL t l how ((seeL t how l).take i) nn i)) (.agg [iv t,il (seeL t how l)]) [] 0
 | 0,i,nn,h=>by
  have h1:=l_t t l how ((seeL t how l).take i) nn i;have e:(seeL t how l).take i=seeL t how l:=List.take_of_length_le (by rw [see_len];omega);rw [df (show ¬ (i:Int) < Int.ofNat l.length by rw [ofn];omega),bc_f] at h1;rw [e] at h1 ⊢
  simp (disch:=omega) only [Nat.add_eq,eqSy_self,eqN_self,bc_same,List.length_cons,ofn,wrap_in,dt,df,bltD,bltN,ble_of,bleN,beqD,bc_t,bc_f,nn_ok,Nat.zero_add,to_nat,Int.zero_add,Int.sub_zero,Int.sub_self,Int.cast_ofNat_Int,Int.natCast_zero,Int.toNat_zero,List.take_zero,List.nil_append,List.length_append,List.length_nil] at h1;exact .done h1
 | k+1,i,nn,h=>by
  have hi:i < l.length:=by omega
  have hi2:i < (seeL t how l).length:=by rw [see_len];exact hi
  have h1:=l_t t l how ((seeL t how l).take i) nn i;have e0:Int.toNat (i:Int)=i:=rfl;have w1:IntKind.wrap IntKind.i64 (Int.ofNat l.length - 1)=((l.length - 1:Nat):Int):=by rw [ofn,wrap_in _ (by omega) (by omega)];omega
  have w2:IntKind.wrap IntKind.i64 (((l.length - 1:Nat):Int) - i)=((l.length - 1 - i:Nat):Int):=by rw [wrap_in _ (by omega) (by omega)];omega
  have e1:Int.toNat ((l.length - 1 - i:Nat):Int)=l.length - 1 - i:=rfl;have lg:((seeL t how l).take i).length=i:=by rw [List.length_take];omega
  have g:∀ j,j < l.length→LetD t (l.getD j 0):=fun j hj=>hx _ (by rw [getD_at hj];exact List.getElem_mem hj);have en:(seeL t how l).take (i+1)=(seeL t how l).take i ++ [(seeL t how l)[i]]:=List.take_succ_eq_append_getElem hi2;have y:∀ x,see1 t how x=(seeL t how l)[i]→RUN (stOf (sY t l how ((seeL t how l).take i) nn i (see1 t how x))) = .at (sL t l how ((seeL t how l).take (i+1)) true (i+1:Nat)):=fun x hq=>by
   have h2:=y_t t l how ((seeL t how l).take i) nn i (see1 t how x);have w:bc nn true (Nat.blt 0 (List.length [see1 t how x]))=true:=by cases nn <;> rfl
   have w3:bc nn true (bc nn false true)=true:=by cases nn <;> rfl
   have w4:IntKind.wrap IntKind.i64 ((i:Int)+1)=((i+1:Nat):Int):=by rw [wrap_in _ (by omega) (by omega)];omega
   rw [oneS,w,w3,w4] at h2;rw [en,← hq];simp (disch:=omega) only [Nat.add_eq,eqSy_self,eqN_self,bc_same,List.length_cons,ofn,wrap_in,dt,df,bltD,bltN,ble_of,bleN,beqD,bc_t,bc_f,nn_ok,Nat.zero_add,to_nat,Int.zero_add,Int.sub_zero,Int.sub_self,Int.cast_ofNat_Int,Int.natCast_zero,Int.toNat_zero,List.take_zero,List.nil_append,List.length_append,List.length_nil] at h2;exact h2
  rw [e0,w1,w2,e1] at h1
  by_cases c:how=2
  ·have hj:l.length - 1 - i < l.length:=by omega
   have hq:see1 t how (l.getD (l.length - 1 - i) 0)=(seeL t how l)[i]:=by
    have:(seeL t how l)[i]? = some (see1 t how (l.getD (l.length - 1 - i) 0)):=by
     unfold seeL;rw [if_pos c,List.getElem?_reverse (by rw [List.length_map];exact hi),List.getElem?_map,List.length_map,List.getElem?_eq_getElem hj,getD_at hj];rfl
    rw [List.getElem?_eq_getElem hi2] at this;exact (Option.some.inj this).symm
   rw [show (how == 2)=true by simp [c]] at h1;simp (disch:=omega) only [Nat.add_eq,eqSy_self,eqN_self,bc_same,List.length_cons,ofn,wrap_in,dt,df,bltD,bltN,ble_of,bleN,beqD,bc_t,bc_f,nn_ok,Nat.zero_add,to_nat,Int.zero_add,Int.sub_zero,Int.sub_self,Int.cast_ofNat_Int,Int.natCast_zero,Int.toNat_zero,List.take_zero,List.nil_append,List.length_append,List.length_nil] at h1;exact .at ctSe_ok h1 (.at ctSe_ok (stepX ht (g _ hj)) (.at ctSe_ok (y _ hq) (loop ht hl hx k (i+1) true (by omega))))
  ·have hq:see1 t how (l.getD i 0)=(seeL t how l)[i]:=by
    have:(seeL t how l)[i]? = some (see1 t how (l.getD i 0)):=by
     unfold seeL;rw [if_neg c,List.getElem?_map,List.getElem?_eq_getElem hi,getD_at hi];rfl
    rw [List.getElem?_eq_getElem hi2] at this;exact (Option.some.inj this).symm
   rw [show (how == 2)=false by simp [c]] at h1;simp (disch:=omega) only [Nat.add_eq,eqSy_self,eqN_self,bc_same,List.length_cons,ofn,wrap_in,dt,df,bltD,bltN,ble_of,bleN,beqD,bc_t,bc_f,nn_ok,Nat.zero_add,to_nat,Int.zero_add,Int.sub_zero,Int.sub_self,Int.cast_ofNat_Int,Int.natCast_zero,Int.toNat_zero,List.take_zero,List.nil_append,List.length_append,List.length_nil] at h1;exact .at ctSe_ok h1 (.at ctSe_ok (stepX ht (g _ hi)) (.at ctSe_ok (y _ hq) (loop ht hl hx k (i+1) true (by omega))))
theorem ends {t how:Int} {l:List Int} (z:chkL t l=0):EndZ 20 ctSe false (st0 20 [hE t l,iv how]) (.agg [iv t,il (seeL t how l)]) [] 0:=by
 obtain ⟨h1,h2,h3⟩:=chk_iff.1 z;exact .at ctSe_ok (in_t t l how) (loop h1 (by omega) h3 l.length 0 false (by omega))
end LSee
noncomputable def spSee:ZCT:=fun ax=>match ax with
 | [.agg [.v (.int .i64 t),.lst (.ints .i64 l)],.v (.int .i64 how)]=>some ⟨decide (chkL t l=0),.agg [iv t,il (seeL t how l)],[],0⟩
 | _=>none
theorem spSee_ok:ZCtOk Try.prog 20 spSee:=fun γ w us ax r hs hc hax hN hfz=>by
 unfold spSee at hs;split at hs
 case h_2=>cases hs
 rename_i t l how;obtain ⟨rfl⟩:=Option.some.inj hs;have hc_0:decide (chkL t l=0)=true:=hc;have hc:=of_decide_eq_true hc_0;exact EndZ.calls (LSee.ends hc) ctSe_ok (by kernel_rfl) hax hN hfz
end Go.Proofs.Ytfffbioafhppiaa.Ev
namespace Go.Proofs.Ytfffbioafhppiaa.Ev
variable {l:List Int}

noncomputable def keyF (l:List Int) (k:Nat):Bool:=isPn (l.getD k 0) && decide (0 < (goT l fun j=>((j:Int) == (k:Int))).length)
noncomputable def keyI (l:List Int) (i:Nat):List Nat:=(List.range i).filter (keyF l)
end Go.Proofs.Ytfffbioafhppiaa.Ev
namespace Go.Proofs.Ytfffbioafhppiaa.Ev
open Go.Proofs
namespace RFre
end RFre
namespace RFrd
end RFrd
end Go.Proofs.Ytfffbioafhppiaa.Ev
namespace Go.Proofs.Ytfffbioafhppiaa.Ev
open Go.Proofs
noncomputable def accB (t:Int) (l:List Int):Bool:=bc (chkL t l == 0) (Int.ofNat (goT l fun _=>true).length == 0) false
noncomputable abbrev shAc (t:Int) (l:List Int):EV:=.tup [bv (accB t l),iv (chkL t l)]
namespace PKys
end PKys
noncomputable def spPKy:ZCT:=fun ax=>match ax with
 | [.agg [.v (.int .i64 t),.lst (.ints .i64 l)]]=>some ⟨decide (In64 l),rsL (chkL t l) (ofNs (keyI l l.length)),[],0⟩
 | _=>none
noncomputable def ctLa:Tr ZCC:=ctLo.put 18 (some (dC spPFd))
theorem ctLa_ok:ZCtsOk Try.prog ctLa:=ctLo_ok.add rfl spPFd_ok
namespace PAcc
noncomputable def RUN (s:ES):ZF:=RZ 19 ctLa (fun _=>false) [] [] false s
theorem in_t (t:Int) (l:List Int):RUN (st0 19 [hE t l])=(bc (decide (In64 l)) (bc (chkL t l == (0:Int)) (.done (EV.tup [(EV.v (Value.bool (Int.ofNat (List.length (bc (chkL t l != (0:Int)) [] (gF l (tgA l) fun x=>true))) == (0:Int)))),(EV.v (Value.int IntKind.i64 (chkL t l)))]) [] 0) (.done (EV.tup [(EV.v (Value.bool false)),(EV.v (Value.int IntKind.i64 (chkL t l)))]) [] 0)) .bad):=by kernel_rfl
theorem ends {t:Int} {l:List Int} (hx:In64 l):EndZ 19 ctLa false (st0 19 [hE t l]) (shAc t l) [] 0:=by
 have h:=in_t t l;unfold shAc accB;rw [dt hx,bc_t,gF_goT] at h
 by_cases z:chkL t l=0
 ·rw [z] at h ⊢;rw [show ((0:Int) == 0)=true from rfl,show ((0:Int) != 0)=false from rfl,bc_t,bc_f,ofNs_len] at h
  exact .done h
 ·rw [show (chkL t l == 0)=false by simp [z],bc_f] at h ⊢;exact .done h
end PAcc
noncomputable def spPAc:ZCT:=fun ax=>match ax with
 | [.agg [.v (.int .i64 t),.lst (.ints .i64 l)]]=>some ⟨decide (In64 l),shAc t l,[],0⟩
 | _=>none
theorem spPAc_ok:ZCtOk Try.prog 19 spPAc:=fun γ w us ax r hs hc hax hN hfz=>by
 unfold spPAc at hs;split at hs
 case h_2=>cases hs
 rename_i t l;obtain ⟨rfl⟩:=Option.some.inj hs;have hc_0:decide (In64 l)=true:=hc;have hc:=of_decide_eq_true hc_0;exact EndZ.calls (PAcc.ends hc) ctLa_ok (by kernel_rfl) hax hN hfz
namespace RKys
end RKys
namespace RAcc
end RAcc
end Go.Proofs.Ytfffbioafhppiaa.Ev
namespace Go.Proofs.Ytfffbioafhppiaa.Ev
open Go.Proofs
theorem awakeL_run:endsB (exClosed Try.prog ft (drD Try.prog ft 16 4) 12 18)=true:=by kernel_rfl
theorem awakeLC (w:World):Calls Try.prog 12 #[] w fun e w'=>e = .returned (.bool true)∧Stays w w':=closedTrue ftOk (drD_ok mix ftOk 16 4) awakeL_run w
theorem spAwakeL_ok:ZCtOk Try.prog 12 spTrue:=spTrue_ok awakeLC
end Go.Proofs.Ytfffbioafhppiaa.Ev
namespace Go.Proofs.Ytfffbioafhppiaa
open Go.ChangeShapes Go.WideShapes Go.ChangeAt Go.RowKit

theorem kept_of_stays {W W':World} (h:Ev.Stays W W') (may:MemPlace→Prop):W.keptBut W' may:=by
 refine ⟨h.os,h.output,fun i hi=>?_⟩;have e:=h.block i hi;rw [e]
 cases hb:W.heap[i]? with
 | none=>simp
 | some o=>
  cases o <;> first | exact ⟨rfl,rfl,rfl,fun _ _=>rfl⟩ | exact .inr ⟨rfl,rfl⟩ | rfl
theorem frozen_of_stays {W W':World} (h:Ev.Stays W W') (a:Addr) (ha:a.block < W.heap.size):W'.frozen? a=W.frozen? a:=by
 unfold World.frozen?;rw [h.block _ ha]
section
variable {H:Type} {enc:TypeId × Value→H} {P:Program}

theorem post_of_stays {f:Func} {s:ChangeSpec} {apart fresh handsOn again:Bool} {W W':World} {args:Array Value} {v:Value} {ds gs:List (DataW H)} {before pa pv:List MemPlace}
  (hW:DataW.Whole enc P f.params.toList s.vars apart W args.toList ds gs before)
  (hres:∀ (b:Nat) (sp:Nat→Bool) (hd:Bool),DataW.TrodAll enc P W' b sp hd f.resultTypes.toList (v.resultList f.resultTypes.size) (s.fn H (ds ++ gs)).results [])
  (hargs:∀ sp:Nat→Bool,(∀ p ∈ before,sp p.block=true)→DataW.TrodAll enc P W' 0 sp true f.params.toList args.toList (s.fn H (ds ++ gs)).args pa)
  (hvars:∀ sp:Nat→Bool,(∀ p ∈ before,sp p.block=true)→DataW.TrodVars enc P W' sp s.vars (s.fn H (ds ++ gs)).vars pv)
  (hps:before=pa ++ pv) (hst:Ev.Stays W W')
  (hok:∀ (j:Nat) (t:TypeId) (r:Value),f.resultTypes[j]? = some t→(v.resultList f.resultTypes.size)[j]? = some r→Value.okWide P W' .any 0 t r) :
  s.post enc P f apart fresh handsOn again W args v W':=by
 have hk:W.keptBut W' (· ∈ before):=kept_of_stays hst _;have hold:∀ p ∈ before,(fun b=>decide (b < W.heap.size)) p.block=true:=fun p hp=>by simpa using hW.lt p hp
 have hlt:=fun p hp=>hW.lt p hp;refine ⟨ds,gs,before,[],pa,pv,hW,hres _ _ _,hargs _ hold,hvars _ hold,World.keptBut_mono (fun p hp=>⟨hp,?_⟩) hk,fun _=>?_⟩
 ·rw [hps,List.mem_append] at hp;exact Or.inr hp
 ·obtain ⟨_,_,_,_,_,hz,hn⟩:=hW;refine ⟨hok,_,_,([] ++ pa) ++ pv,⟨[] ++ pa,pv,trodAll_append (hargs _ (fun _ _=>rfl)) (hres _ _ _),hvars _ (fun _ _=>rfl),rfl,?_,?_⟩,?_⟩
  ·intro b off hp;have hp2:MemPlace.cell b off ∈ before:=by rw [hps];simpa using hp
   rw [frozen_of_stays hst _ (hlt _ hp2)];exact hz b off hp2
  ·intro ha;have:=hn ha;rw [hps] at this;simpa using this
  ·intro p hp _;rw [hps];simpa using hp
end
end Go.Proofs.Ytfffbioafhppiaa
namespace Go.Proofs.Ytfffbioafhppiaa
open Go.ChangeShapes Go.WideShapes Go.ChangeAt Go.RowKit
section
variable {H:Type} {enc:TypeId × Value→H} {P:Program}
theorem same_of_stays {W W':World} (h:Ev.Stays W W') {p:MemPlace} (hp:p.block < W.heap.size):W.sameAt W' p:=by
 cases p with
 | cell b off=>
  show W'.cell? _=W.cell? _;unfold World.cell?;rw [h.block b hp]
 | map b=>exact h.block b hp
theorem args_carry {W W':World} {base:Nat} {sp:Nat→Bool} {hd:Bool}:∀ {ts:List TypeId} {vs:List Value} {ds:List (DataW H)} {ps:List MemPlace},DataW.TrodAll enc P W base sp hd ts vs ds ps→(∀ p ∈ ps,W.sameAt W' p)→DataW.TrodAll enc P W' base sp hd ts vs ds ps
 | [],[],[],_,h,_=>h
 | _ :: _,_ :: _,_ :: _,_,⟨p,q,⟨n,h⟩,hs,e⟩,k=>⟨p,q,⟨n,DataW.trod_carry n _ _ _ h fun x hx=>k x (by rw [e];exact List.mem_append_left _ hx)⟩,args_carry hs fun x hx=>k x (by rw [e];exact List.mem_append_right _ hx),e⟩
 | [],[],_ :: _,_,h,_=>h.elim
 | [],_ :: _,_,_,h,_=>h.elim
 | _ :: _,[],_,_,h,_=>h.elim
 | _ :: _,_ :: _,[],_,h,_=>h.elim

theorem post_law {f:Func} {s:ChangeSpec} {apart fresh handsOn again:Bool} {W W':World} {args:Array Value} {ds:List (DataW H)} {p:List MemPlace} {bt:TypeId} {T:TypeId→Prop} (K:Kids P T) (hz:∀ t e,T t→P.underlying t=some (.slice e)→0 < P.cellsOf e)
  (hbt:P.underlying bt=some .bool) (hrt:f.resultTypes.toList=[bt]) (hsz:f.resultTypes.size=1) (hvs:s.vars=[]) (hfn:s.fn H (ds ++ [])={ results:=[.lit (.bool true)],args:=ds })
  (hpt:∀ t ∈ f.params.toList,T t)
  (hW:DataW.Whole enc P f.params.toList s.vars apart W args.toList ds [] (p ++ [])) (hA:DataW.TrodAll enc P W 0 (fun _=>true) true f.params.toList args.toList ds p) (hst:Ev.Stays W W')
  (hok:∀ (j:Nat) (t:TypeId) (r:Value),f.resultTypes[j]? = some t→((Value.bool true).resultList f.resultTypes.size)[j]? = some r→Value.okWide P W' .any 0 t r) :
  s.post enc P f apart fresh handsOn again W args (.bool true) W':=by
 have hlt:=fun q hq=>hW.lt q hq;refine post_of_stays (pa:=p) (pv:=[]) hW (fun b sp hd=>?_) (fun sp hsp=>?_) (fun sp _=>?_) rfl hst hok
 ·rw [hrt,hfn,hsz];exact trodAll_mk1 (shut_bool hbt _)
 ·rw [hfn];exact DataW.TrodAll.respare K hz hpt (args_carry hA fun q hq=>same_of_stays hst (hlt q (by simpa using hq))) fun q hq=>hsp q (by simpa using hq)
 ·rw [hfn,hvs];rfl
end
namespace Ev


inductive UFit:Sh→U→Prop where
 | int (k:IntKind) (n:Int) (h:(Lit.int k n).wf=true):UFit (.int k) (.i n)
 | bool (b:Bool):UFit .bool (.b b)
 | str (s:ByteArray) (h:s.size≤maxLen):UFit .str (.s s)
 | list (sh:List Sh) (l:List (List U)) (hl:l.length≤maxLen) (hr:∀ j,j < l.length→(l.getD j []).length=sh.length) (h:∀ (j f:Nat) (s:Sh),j < l.length→sh[f]? = some s→UFit s ((l.getD j []).getD f (.i 0))):UFit (.list sh) (.l l)
structure RowFit (sh:List Sh) (r:List U):Prop where
 len:r.length=sh.length
 fit:∀ (f:Nat) (s:Sh),sh[f]? = some s→UFit s (r.getD f (.i 0))
theorem RowFit.nil:RowFit [] []:=⟨rfl,fun f s h=>by simp at h⟩
theorem RowFit.append {sh1 sh2:List Sh} {r1 r2:List U} (h1:RowFit sh1 r1) (h2:RowFit sh2 r2):RowFit (sh1 ++ sh2) (r1 ++ r2):=by
 refine ⟨by simp [h1.len,h2.len],fun f s h=>?_⟩;rw [List.getD_eq_getElem?_getD]
 by_cases hf:f < sh1.length
 ·rw [List.getElem?_append_left hf] at h;rw [List.getElem?_append_left (by rw [h1.len];exact hf),← List.getD_eq_getElem?_getD];exact h1.fit f s h
 ·rw [List.getElem?_append_right (by omega)] at h;rw [List.getElem?_append_right (by rw [h1.len];omega),h1.len,← List.getD_eq_getElem?_getD];exact h2.fit _ s h
theorem recE_app:∀ {sh1 sh2:List Sh} {r1 r2:List U},r1.length=sh1.length→recE (sh1 ++ sh2) (r1 ++ r2)=recE sh1 r1 ++ recE sh2 r2
 | [],sh2,r1,r2,h=>by
  have:r1=[]:=List.eq_nil_of_length_eq_zero h;subst this;rfl
 | s :: sh1,sh2,[],r2,h=>by cases h
 | s :: sh1,sh2,u :: r1,r2,h=>by
  show s.ev u :: recE (sh1 ++ sh2) (r1 ++ r2)=s.ev u :: (recE sh1 r1 ++ recE sh2 r2);rw [recE_app (by simpa using h)]

def shFs (P:Program) (f:TypeId→Option (List Sh)):List Field→Nat→Option (List Sh)
 | [],_=>some []
 | fd :: r,off=>match f fd.type with
  | some sh=>if fd.offset=off∧P.cellsOf fd.type=sh.length then match shFs P f r (off+sh.length) with
   | some l=>some (sh ++ l)
   | none=>none else none
  | none=>none
def shB (P:Program):Nat→TypeId→Option (List Sh)
 | 0,_=>none
 | k+1,t=>match P.underlying t with
  | some (.int κ)=>some [.int κ]
  | some .bool=>some [.bool]
  | some .string=>some [.str]
  | some (.slice e)=>match shB P k e with
   | some sh=>if P.cellsOf e=sh.length∧0 < sh.length then some [.list sh] else none
   | none=>none
  | some (.struct fs)=>match shFs P (shB P k) fs.toList 0 with
   | some sh=>if P.cellsOf t=sh.length then some sh else none
   | none=>none
  | some (.array m e)=>match shB P k e with
   | some sh=>if P.cellsOf e=sh.length∧P.cellsOf t=m * sh.length then some (List.replicate m sh).flatten else none
   | none=>none
  | _=>none
noncomputable def fzAll (W:World):Nat→Option (Array Value):=fun k=>match W.heap[k]? with
 | some (.cells a _ _)=>some a
 | _=>none
noncomputable def gAll (W:World):G:=⟨fun _=>none,fzAll W,fun _ _ _=>none⟩
theorem fzAll_at (W:World):FzAt (gAll W) W:=⟨fun k a hk=>(by
 have hk:fzAll W k=some a:=hk;unfold fzAll at hk;split at hk
 ·rename_i a' ty fz h;injection hk with hk;subst hk
  exact ⟨ty,fz,h⟩
 ·cases hk),fun _ _ _=>rfl⟩
theorem list_of {Q:Nat→List U→Prop}:∀ (n:Nat),(∀ i,i < n→∃ r,Q i r)→∃ l:List (List U),l.length=n∧∀ i,i < n→Q i (l.getD i [])
 | 0,_=>⟨[],rfl,fun i hi=>absurd hi (by omega)⟩
 | n+1,h=>by
  obtain ⟨l,h1,h2⟩:=list_of n fun i hi=>h i (by omega);obtain ⟨r,hr⟩:=h n (by omega);refine ⟨l ++ [r],by simp [h1],fun i hi=>?_⟩;rw [List.getD_eq_getElem?_getD]
  by_cases e:i < n
  ·rw [List.getElem?_append_left (by omega),← List.getD_eq_getElem?_getD];exact h2 i e
  ·have:i=n:=by omega
   subst this;rw [List.getElem?_append_right (by omega),h1,Nat.sub_self];exact hr
variable {H:Type} {enc:TypeId × Value→H} {P:Program} {W:World} {base:Nat} {sp:Nat→Bool} {hd:Bool}
def OpenAt (enc:TypeId × Value→H) (P:Program) (W:World) (base:Nat) (sp:Nat→Bool) (hd:Bool) (k:Nat):Prop:=∀ (t:TypeId) (sh:List Sh) (fuel:Nat) (cs:List Value) (x:DataW H × List MemPlace),shB P k t=some sh→DataW.trod enc P W base sp hd fuel t cs=some x→∃ r,RowFit sh r∧∀ γ:G,γ.fz=fzAll W→ECL γ (recE sh r) cs
theorem fields_open {k:Nat} (ih:OpenAt enc P W base sp hd k) {cs:List Value} {n:Nat}:∀ (fs:List Field) (off:Nat) (sh:List Sh),shFs P (shB P k) fs off=some sh→(∀ f,f ∈ fs→∃ y,DataW.trod enc P W base sp hd n f.type ((cs.drop f.offset).take (P.cellsOf f.type))=some y)→∃ r,RowFit sh r∧∀ γ:G,γ.fz=fzAll W→ECL γ (recE sh r) ((cs.drop off).take sh.length)
 | [],off,sh,h,_=>by
  injection (show some []=some sh from h) with h;subst h
  exact ⟨[],.nil,fun γ _=>by
   rw [show ([]:List Sh).length=0 from rfl,List.take_zero];exact ECL.nil γ⟩
 | fd :: fs,off,sh,h,hall=>by
  unfold shFs at h;split at h
  case h_2=>cases h
  rename_i s1 hs1;split at h
  case isFalse=>cases h
  rename_i hc;split at h
  case h_2=>cases h
  rename_i s2 hs2;injection h with h;subst h
  obtain ⟨y,hy⟩:=hall fd (by simp);rw [hc.1,hc.2] at hy;obtain ⟨r1,h1,h2⟩:=ih fd.type s1 n _ y hs1 hy;obtain ⟨r2,h3,h4⟩:=fields_open ih fs (off+s1.length) s2 hs2 fun f hf=>hall f (by simp [hf]);refine ⟨r1 ++ r2,h1.append h3,fun γ hγ=>?_⟩;rw [recE_app h1.len,List.length_append];have e:(cs.drop off).take (s1.length+s2.length)=(cs.drop off).take s1.length ++ (cs.drop (off+s1.length)).take s2.length:=by
   rw [List.take_add,List.drop_drop]
  rw [e];exact (h2 γ hγ).append (h4 γ hγ)
theorem elems_open {k:Nat} (ih:OpenAt enc P W base sp hd k) {cs:List Value} {n:Nat} {e:TypeId} {sh:List Sh} (hsh:shB P k e=some sh) (hc:P.cellsOf e=sh.length):∀ (m i0:Nat),(∀ i,i < m→∃ y,DataW.trod enc P W base sp hd n e ((cs.drop ((i0+i) * P.cellsOf e)).take (P.cellsOf e))=some y)→∃ r,RowFit (List.replicate m sh).flatten r∧∀ γ:G,γ.fz=fzAll W→ECL γ (recE (List.replicate m sh).flatten r) ((cs.drop (i0 * sh.length)).take (m * sh.length))
 | 0,i0,_=>⟨[],.nil,fun γ _=>by
   rw [Nat.zero_mul,List.take_zero];exact ECL.nil γ⟩
 | m+1,i0,h=>by
  obtain ⟨y,hy⟩:=h 0 (by omega);rw [hc,Nat.add_zero] at hy;obtain ⟨r1,h1,h2⟩:=ih e sh n _ y hsh hy;obtain ⟨r2,h3,h4⟩:=elems_open ih hsh hc m (i0+1) fun i hi=>by
   have:=h (i+1) (by omega)
   rwa [show i0+(i+1)=i0+1+i by omega] at this
  refine ⟨r1 ++ r2,by rw [List.replicate_succ,List.flatten_cons];exact h1.append h3,fun γ hγ=>?_⟩;rw [List.replicate_succ,List.flatten_cons,recE_app h1.len,Nat.succ_mul,Nat.add_comm,List.take_add,List.drop_drop];have:=h4 γ hγ;rw [Nat.succ_mul] at this;exact (h2 γ hγ).append this
theorem open_cells:∀ k,OpenAt enc P W base sp hd k
 | 0=>fun t sh fuel cs x h=>by cases h
 | k+1=>fun t sh fuel cs x h ht=>by
  have ih:OpenAt enc P W base sp hd k:=open_cells k;unfold shB at h;split at h
  ·rename_i κ hu;injection h with h;subst h
   obtain ⟨n,rfl,_,hw⟩:=DataW.trod_int hu ht;refine ⟨[.i n],⟨rfl,fun f s hf=>?_⟩,fun γ _=>.cons (.v _) (.nil _)⟩;obtain ⟨rfl,rfl⟩:=one_f hf;exact .int κ n hw
  ·rename_i hu;injection h with h;subst h
   obtain ⟨b,rfl,_⟩:=DataW.trod_bool hu ht;refine ⟨[.b b],⟨rfl,fun f s hf=>?_⟩,fun γ _=>.cons (.v _) (.nil _)⟩;obtain ⟨rfl,rfl⟩:=one_f hf;exact .bool b
  ·rename_i hu;injection h with h;subst h
   obtain ⟨s,rfl,_,hs⟩:=DataW.trod_string hu ht;refine ⟨[.s s],⟨rfl,fun f s hf=>?_⟩,fun γ _=>.cons (.v _) (.nil _)⟩;obtain ⟨rfl,rfl⟩:=one_f hf;exact .str _ hs
  ·rename_i e hu;split at h
   case h_2=>cases h
   rename_i sh' hsh;split at h
   case isFalse=>cases h
   rename_i hc;injection h with h;subst h
   rcases DataW.trod_slice hu ht with ⟨rfl,_⟩ | ⟨a,len,cap,elems,rest,n,_,rfl,_,hb,hlc,hcm,hel,hall,_⟩
   ·refine ⟨[.l []],⟨rfl,fun f s hf=>?_⟩,fun γ _=>.cons ?_ (.nil _)⟩
    ·obtain ⟨rfl,rfl⟩:=one_f hf;exact .list sh' [] (Nat.zero_le _) (fun j hj=>by simp at hj) (fun j f s hj=>by simp at hj)
    ·exact UOk.ec (s:=.list sh') (.empty sh' (.l []) none 0 rfl (Nat.zero_le _) fun _=>rfl)
   ·have each:∀ i,i < len→∃ r,RowFit sh' r∧∃ ys,W.cells? base (a.add (i * sh'.length)) sh'.length=some ys∧∀ γ:G,γ.fz=fzAll W→ECL γ (recE sh' r) ys:=fun i hi=>by
     have h1:=hall i hi;rw [hc.1] at h1;have h2:i < elems.length:=by omega
     rw [List.getElem?_eq_getElem h2] at h1;obtain ⟨ys,h3,h4⟩:=Option.bind_eq_some_iff.1 h1;obtain ⟨r,h5,h6⟩:=ih e sh' n ys _ hsh h4;exact ⟨r,h5,ys,h3,h6⟩
    obtain ⟨l,hl,hQ⟩:=list_of len each;refine ⟨[.l l],⟨rfl,fun f s hf=>?_⟩,fun γ hγ=>.cons ?_ (.nil _)⟩
    ·obtain ⟨rfl,rfl⟩:=one_f hf;exact .list sh' l (by omega) (fun j hj=>(hQ j (by omega)).1.len) fun j f s hj hf=>(hQ j (by omega)).1.fit f s hf
    ·refine UOk.ec (s:=.list sh') ?_
     by_cases h0:len=0
     ·have:l=[]:=List.eq_nil_of_length_eq_zero (by omega);subst this;subst h0;exact .empty sh' (.l []) (some a) cap rfl hcm fun e=>by cases e
     ·obtain ⟨b,off,spot⟩:=a;have hblk:spot=none∧∃ arr ty fz,W.heap[b]? = some (.cells arr ty fz):=by
       obtain ⟨h1,ys,h2,h3⟩:=hQ 0 (by omega);obtain ⟨_,h4,h5⟩:=World.cells?_some h2;have h6:=h5 0 hc.2;rw [List.getElem?_eq_getElem (show 0 < ys.length by omega)] at h6;have h6:W.cell? ⟨b,off,spot⟩=some ys[0]:=by
        have e:((⟨b,off,spot⟩:Addr).add (0 * sh'.length)).add 0=⟨b,off,spot⟩:=by simp [Addr.add]
        rw [e] at h6;exact h6
       unfold World.cell? at h6;split at h6
       ·rename_i arr ty fz hb';split at h6
        ·cases h6
        ·rename_i hs;exact ⟨by cases spot <;> simp_all,arr,ty,fz,hb'⟩
       ·cases h6
      obtain ⟨rfl,arr,ty,fz,hblk⟩:=hblk;have cellAt:∀ i f,i < len→f < sh'.length→∃ y,W.cell? ⟨b,off+(i * sh'.length+f),none⟩=some y∧∀ s,sh'[f]? = some s→UOk γ.fz s ((l.getD i []).getD f (.i 0)) y:=fun i f hi hf=>by
       obtain ⟨h1,ys,h2,h3⟩:=hQ i hi;obtain ⟨_,h4,h5⟩:=World.cells?_some h2;have h6:=h5 f hf;have h7:f < ys.length:=by omega
       rw [List.getElem?_eq_getElem h7] at h6;refine ⟨ys[f],?_,fun s hs=>?_⟩
       ·have e:((⟨b,off,none⟩:Addr).add (i * sh'.length)).add f=⟨b,off+(i * sh'.length+f),none⟩:=by
         unfold Addr.add;split <;> split <;> simp_all [Nat.add_assoc]
        rw [← h6,e]
       ·have h8:=recE_get (s:=s) (f:=f) (sh:=sh') (l.getD i []) hs;have h9:=(h3 γ hγ).2 f _ ys[f] h8 (List.getElem?_eq_getElem h7);exact UOk.of_ec h9
      have getA:∀ i f,i < len→f < sh'.length→∃ y,arr[off+(i * sh'.length+f)]? = some y∧∀ s,sh'[f]? = some s→UOk γ.fz s ((l.getD i []).getD f (.i 0)) y:=fun i f hi hf=>by
       obtain ⟨y,h1,h2⟩:=cellAt i f hi hf;refine ⟨y,?_,h2⟩;unfold World.cell? at h1;simpa [hblk] using h1
      have hk:γ.fz b=some arr:=by
       rw [hγ];unfold fzAll;rw [hblk]
      subst hl;refine .list sh' (.l l) b off cap arr hk hlc hcm ?_ fun j f s x hj hf hx=>?_
      ·show off+l.length * sh'.length≤arr.size;obtain ⟨y,h1,_⟩:=getA (l.length - 1) (sh'.length - 1) (by omega) (by omega);have:=(Array.getElem?_eq_some_iff.1 h1).1;have e:l.length * sh'.length=(l.length - 1) * sh'.length+sh'.length:=by rw [← Nat.succ_mul];congr 1;omega
       omega
      ·obtain ⟨y,h1,h2⟩:=getA j f hj (List.getElem?_eq_some_iff.1 hf).1;rw [h1] at hx;injection hx with hx;subst hx;exact h2 s hf
  ·rename_i fs hu;split at h
   case h_2=>cases h
   rename_i sh' hsh;split at h
   case isFalse=>cases h
   rename_i hc;injection h with h;subst h
   obtain ⟨xs,n,_,_,hl,hlen,hf⟩:=DataW.trod_struct hu ht;obtain ⟨r,h1,h2⟩:=fields_open (cs:=cs) (n:=n) ih fs.toList 0 sh' hsh fun f hm=>by
    obtain ⟨i,hi,rfl⟩:=List.getElem_of_mem hm;have hi2:i < fs.size:=by simpa using hi
    have:=hf i fs.toList[i] (by simp [hi2]);rw [List.getElem?_eq_getElem (by omega)] at this;exact ⟨_,this⟩
   refine ⟨r,h1,fun γ hγ=>?_⟩;have:=h2 γ hγ
   rwa [List.drop_zero,List.take_of_length_le (by omega)] at this
  ·rename_i m e hu;split at h
   case h_2=>cases h
   rename_i sh' hsh;split at h
   case isFalse=>cases h
   rename_i hc;injection h with h;subst h
   obtain ⟨xs,n,_,_,hl,hlen,hf⟩:=DataW.trod_array hu ht;obtain ⟨r,h1,h2⟩:=elems_open (cs:=cs) (n:=n) ih hsh hc.1 m 0 fun i hi=>by
    have:=hf i hi;rw [List.getElem?_eq_getElem (by omega)] at this;rw [Nat.zero_add];exact ⟨_,this⟩
   refine ⟨r,h1,fun γ hγ=>?_⟩;have:=h2 γ hγ
   rwa [Nat.zero_mul,List.drop_zero,List.take_of_length_le (by omega)] at this
  ·cases h

theorem open_agg {t:TypeId} {fs:Array Field} {v:Value} {d:DataW H} {ps:List MemPlace} {k b0:Nat} {rc:Reach} {sh:List Sh} (hu:P.underlying t=some (.struct fs)) (hs:shB P k t=some sh) (hv:Value.okWide P W rc b0 t v) (h:DataW.Trod enc P W base sp hd t v d ps):∃ r,RowFit sh r∧EC (gAll W) (.agg (recE sh r)) v:=by
 obtain ⟨cs,rfl,_⟩:=okWide_struct hu hv;obtain ⟨fuel,hf⟩:=h;obtain ⟨r,h1,h2⟩:=open_cells k t sh fuel _ _ hs hf;have h3:=h2 (gAll W) rfl;refine ⟨r,h1,?_⟩;have:=EC.agg (γ:=gAll W) (recE sh r) cs.toList h3.1 h3.2;simpa using this

end Ev
end Go.Proofs.Ytfffbioafhppiaa
namespace Go.Proofs.Ytfffbioafhppiaa.Ev
open Go.Proofs
theorem fitI64 {u:U} (h:UFit (.int .i64) u):∃ n,u = .i n ∧ -9223372036854775808≤n∧n≤9223372036854775807:=by
 cases h with
 | int k n h=>
  refine ⟨n,rfl,?_⟩;have h1:IntKind.i64.min≤n∧n≤IntKind.i64.max:=by simpa [Lit.wf] using h
  have e1:IntKind.i64.min = -9223372036854775808:=rfl;have e2:IntKind.i64.max=9223372036854775807:=rfl;omega
theorem fitI {l:List (List U)} (h:UFit (.list [.int .i64]) (.l l)):In64 (l.map fun r=>(r.headD (.i 0)).int):=by
 cases h with
 | list sh l hl hr hf=>
  intro j hj;rw [List.length_map] at hj;rw [getD_at (by rw [List.length_map];exact hj),List.getElem_map];have h1:=hf j 0 _ hj rfl;rw [getD_at (d:=[]) hj] at h1;obtain ⟨n,e,h2⟩:=fitI64 h1;rw [headD_getD,e];exact h2
end Go.Proofs.Ytfffbioafhppiaa.Ev
namespace Go.Proofs.Ytfffbioafhppiaa.Ev
open Go.Proofs
noncomputable def ctLs:Tr ZCC:=((((((Tr.nil.put 11 (some (dC spRChL))).put 18 (some (dC spPFd))).put 13 (some (dC spPTi))).put 19 (some (dC spPAc))).put 20 (some (dC spSee))).put 12 (some (dC spTrue)))
theorem ctLs_ok:ZCtsOk Try.prog ctLs:=((((((ZCtsOk.nil _).add rfl spRChL_ok).add rfl spPFd_ok).add rfl spPTi_ok).add rfl spPAc_ok).add rfl spSee_ok).add rfl spAwakeL_ok
namespace ALs
noncomputable def RUN (s:ES):ZF:=RZ 4 ctLs (fun _=>false) [] [] false s

theorem in_t (t:Int) (l:List Int):RUN (st0 4 [hE t l])=(bc (chkL t l != (0:Int)) (.done (EV.v (Value.bool true)) [] 0) (bc (decide ((100:Int) < Int.ofNat (List.length l))) (.done (EV.v (Value.bool true)) [] 0) (bc (decide (In64 l)) (bc (decide (In64 l)) (bc (bc (decide (In64 l)) true false) (bc (chkL t l != (0:Int)) (.done (EV.v (Value.bool false)) [] 0) (bc (chkL t l != (0:Int)) (.done (EV.v (Value.bool false)) [] 0) (bc (chkL t l != (0:Int)) (.done (EV.v (Value.bool false)) [] 0) (bc (decide (chkL t l=(0:Int))) (bc (decide (In64 (seeL t (0:Int) l))) (bc (decide (In64 (seeL t (0:Int) l))) (bc (bc (decide (In64 (seeL t (0:Int) l))) true false) (bc (chkL t (seeL t (0:Int) l) != (0:Int)) (.done (EV.v (Value.bool false)) [] 0) (bc (chkL t (seeL t (0:Int) l) != (0:Int)) (.done (EV.v (Value.bool false)) [] 0) (bc (chkL t (seeL t (0:Int) l) != (0:Int)) (.done (EV.v (Value.bool false)) [] 0) (bc (Int.ofNat (List.length (bc (chkL t l != (0:Int)) [] (ofNs (idxB (tgA l))))) != Int.ofNat (List.length (bc (chkL t (seeL t (0:Int) l) != (0:Int)) [] (ofNs (idxB (tgA (seeL t (0:Int) l))))))) (.done (EV.v (Value.bool false)) [] 0) (bc (Int.ofNat (List.length (bc (chkL t l != (0:Int)) [] (gF l (tgA l) fun x=>true))) != Int.ofNat (List.length (bc (chkL t (seeL t (0:Int) l) != (0:Int)) [] (gF (seeL t (0:Int) l) (tgA (seeL t (0:Int) l)) fun x=>true)))) (.done (EV.v (Value.bool false)) [] 0) (bc (!accB t l == accB t (seeL t (0:Int) l)) (.done (EV.v (Value.bool false)) [] 0) (bc (decide (chkL t l=(0:Int))) (bc (decide (In64 (seeL t (IntKind.wrap IntKind.i64 ((0:Int)+(1:Int))) l))) (bc (decide (In64 (seeL t (IntKind.wrap IntKind.i64 ((0:Int)+(1:Int))) l))) (bc (bc (decide (In64 (seeL t (IntKind.wrap IntKind.i64 ((0:Int)+(1:Int))) l))) true false) (bc (chkL t (seeL t (IntKind.wrap IntKind.i64 ((0:Int)+(1:Int))) l) != (0:Int)) (.done (EV.v (Value.bool false)) [] 0) (bc (chkL t (seeL t (IntKind.wrap IntKind.i64 ((0:Int)+(1:Int))) l) != (0:Int)) (.done (EV.v (Value.bool false)) [] 0) (bc (chkL t (seeL t (IntKind.wrap IntKind.i64 ((0:Int)+(1:Int))) l) != (0:Int)) (.done (EV.v (Value.bool false)) [] 0) (bc (Int.ofNat (List.length (bc (chkL t l != (0:Int)) [] (ofNs (idxB (tgA l))))) != Int.ofNat (List.length (bc (chkL t (seeL t (IntKind.wrap IntKind.i64 ((0:Int)+(1:Int))) l) != (0:Int)) [] (ofNs (idxB (tgA (seeL t (IntKind.wrap IntKind.i64 ((0:Int)+(1:Int))) l))))))) (.done (EV.v (Value.bool false)) [] 0) (bc (Int.ofNat (List.length (bc (chkL t l != (0:Int)) [] (gF l (tgA l) fun x=>true))) != Int.ofNat (List.length (bc (chkL t (seeL t (IntKind.wrap IntKind.i64 ((0:Int)+(1:Int))) l) != (0:Int)) [] (gF (seeL t (IntKind.wrap IntKind.i64 ((0:Int)+(1:Int))) l) (tgA (seeL t (IntKind.wrap IntKind.i64 ((0:Int)+(1:Int))) l)) fun x=>true)))) (.done (EV.v (Value.bool false)) [] 0) (bc (!accB t l == accB t (seeL t (IntKind.wrap IntKind.i64 ((0:Int)+(1:Int))) l)) (.done (EV.v (Value.bool false)) [] 0) (bc (decide (chkL t l=(0:Int))) (bc (decide (In64 (seeL t (IntKind.wrap IntKind.i64 (IntKind.wrap IntKind.i64 ((0:Int)+(1:Int))+(1:Int))) l))) (bc (decide (In64 (seeL t (IntKind.wrap IntKind.i64 (IntKind.wrap IntKind.i64 ((0:Int)+(1:Int))+(1:Int))) l))) (bc (bc (decide (In64 (seeL t (IntKind.wrap IntKind.i64 (IntKind.wrap IntKind.i64 ((0:Int)+(1:Int))+(1:Int))) l))) true false) (bc (chkL t (seeL t (IntKind.wrap IntKind.i64 (IntKind.wrap IntKind.i64 ((0:Int)+(1:Int))+(1:Int))) l) != (0:Int)) (.done (EV.v (Value.bool false)) [] 0) (bc (chkL t (seeL t (IntKind.wrap IntKind.i64 (IntKind.wrap IntKind.i64 ((0:Int)+(1:Int))+(1:Int))) l) != (0:Int)) (.done (EV.v (Value.bool false)) [] 0) (bc (chkL t (seeL t (IntKind.wrap IntKind.i64 (IntKind.wrap IntKind.i64 ((0:Int)+(1:Int))+(1:Int))) l) != (0:Int)) (.done (EV.v (Value.bool false)) [] 0) (bc (Int.ofNat (List.length (bc (chkL t l != (0:Int)) [] (ofNs (idxB (tgA l))))) != Int.ofNat (List.length (bc (chkL t (seeL t (IntKind.wrap IntKind.i64 (IntKind.wrap IntKind.i64 ((0:Int)+(1:Int))+(1:Int))) l) != (0:Int)) [] (ofNs (idxB (tgA (seeL t (IntKind.wrap IntKind.i64 (IntKind.wrap IntKind.i64 ((0:Int)+(1:Int))+(1:Int))) l))))))) (.done (EV.v (Value.bool false)) [] 0) (bc (Int.ofNat (List.length (bc (chkL t l != (0:Int)) [] (gF l (tgA l) fun x=>true))) != Int.ofNat (List.length (bc (chkL t (seeL t (IntKind.wrap IntKind.i64 (IntKind.wrap IntKind.i64 ((0:Int)+(1:Int))+(1:Int))) l) != (0:Int)) [] (gF (seeL t (IntKind.wrap IntKind.i64 (IntKind.wrap IntKind.i64 ((0:Int)+(1:Int))+(1:Int))) l) (tgA (seeL t (IntKind.wrap IntKind.i64 (IntKind.wrap IntKind.i64 ((0:Int)+(1:Int))+(1:Int))) l)) fun x=>true)))) (.done (EV.v (Value.bool false)) [] 0) (bc (!accB t l == accB t (seeL t (IntKind.wrap IntKind.i64 (IntKind.wrap IntKind.i64 ((0:Int)+(1:Int))+(1:Int))) l)) (.done (EV.v (Value.bool false)) [] 0) (.done (EV.v (Value.bool true)) [] 0))))))) .bad) .bad) .bad) .bad))))))) .bad) .bad) .bad) .bad))))))) .bad) .bad) .bad) .bad)))) .bad) .bad) .bad))):=by kernel_rfl
theorem letD_in {t:Int} {l:List Int} (ht:2≤t∧t≤48) (h:∀ x,x ∈ l→LetD t x):In64 l:=fun j hj=>by
 have:=h (l.getD j 0) (by rw [getD_at hj];exact List.getElem_mem hj);unfold LetD at this;omega
theorem ends {t:Int} {l:List Int} (hx:In64 l):EndZ 4 ctLs false (st0 4 [hE t l]) (bv true) [] 0:=by
 have h:=in_t t l
 by_cases z:chkL t l=0
 ·have sc:∀ how,chkL t (seeL t how l)=0:=fun how=>see_chk z;have si:∀ how,decide (In64 (seeL t how l))=true:=fun how=>by
   obtain ⟨k1,k2,k3⟩:=chk_iff.1 (sc how);exact dt (letD_in k1 k3)
  have e1:∀ how,(tigT (seeL t how l)).length=(tigT l).length:=fun how=>(see_cnt z).1;have e2:∀ how,(goT (seeL t how l) fun _=>true).length=(goT l fun _=>true).length:=fun how=>(see_cnt z).2;have e3:∀ how,accB t (seeL t how l)=accB t l:=fun how=>by unfold accB;rw [sc,z,e2]
  simp only [sc,si,dt hx,z,show ((0:Int) != 0)=false from rfl,decide_true,bc_f,bc_t,tgA_idx,gF_goT,ofNs_len,e1,e2,e3,bne_self_eq_false,beq_self_eq_true,Bool.not_true] at h
  by_cases c:(100:Int) < Int.ofNat l.length
  ·rw [dt c,bc_t] at h;exact .done h
  ·rw [df c,bc_f] at h;exact .done h
 ·rw [show (chkL t l != 0)=true by simp [z],bc_t] at h;exact .done h
end ALs
theorem looseSides_calls {γ:G} {w:World} {us:Array Value} (ra:List U) (wa:RowFit [.int .i64,.list [.int .i64]] ra)
  (hax:ECL γ [.agg (recE [.int .i64,.list [.int .i64]] ra)] us.toList) (hN:∀ i,γ i=none) (hfz:FzAt γ w):Calls Try.prog 4 us w fun e w'=>e = .returned (.bool true)∧Stays w w':=by
 have h1:=wa.fit 1 _ rfl;have hlen:=wa.len
 match ra,hlen with
 | [x,y],_=>
  have h1:UFit (.list [.int .i64]) y:=h1
  cases h1 with
  | list sh l hl hr hf=>
   exact law_of ((ALs.ends (t:=U.int x) (fitI (.list _ l hl hr hf))).calls ctLs_ok (by kernel_rfl) hax hN hfz)
end Go.Proofs.Ytfffbioafhppiaa.Ev
namespace Go.Proofs.Ytfffbioafhppiaa
open Go.ChangeShapes Go.WideShapes Go.ChangeAt Go.RowKit Go.ChangeMaps
theorem knobLooseSides:ownKnob Try.prog.godebug=none:=by kernel_rfl
theorem kidsLooseSides:Kids Try.prog (· < Try.prog.types.size):=kids_rows (by kernel_rfl) (by kernel_rfl)
theorem fullLooseSides:∀ t e,t < Try.prog.types.size→Try.prog.underlying t=some (.slice e)→0 < Try.prog.cellsOf e:=slices_full_of Try.prog (by kernel_rfl)
set_option maxRecDepth 100000 in
theorem liftedLooseSides (os:Os) (started:os.Started) (H:Type) (enc:TypeId × Value→H) :
  ReturnsInHanded {} Try.checked os 4 .any (Rows.looseSidesSpec.pre6 enc Try.prog Try.f4 Rows.looseSidesRow.domain false) (Rows.looseSidesSpec.post enc Try.prog Try.f4 false true false false):=by
 refine returnsInHanded_of_change (C:=Try.checked) knobLooseSides started (by kernel_rfl) Try.func4
  (ChangeSpec.witness6 (enc:=enc) (C:=Try.checked) false ⟨#[],#[.agg #[.int .i64 0,.slice none 0 0]],[]⟩ 8 (by kernel_rfl) (by kernel_rfl) (by kernel_rfl) (by kernel_rfl)) ?_
 intro W base args ds gs before hval0 hW hcnd _;have hval:∀ (j:Nat) t v,Try.f4.params[j]? = some t→args[j]? = some v→Value.okWide Try.prog W .any base t v:=hval0;have hW':=hW;obtain ⟨p,q,hA0,hV,rfl,hfz,hnd⟩:=hW;have hA:DataW.TrodAll enc Try.prog W 0 (fun _=>true) true Try.f4.params.toList args.toList ds p:=hA0;have hAk:=hA;rw [Try.params4] at hA hval;obtain ⟨rfl,rfl⟩:=trodVars_none hV;obtain ⟨v0,d0,rfl,rfl,h0⟩:=trodAll_one hA
 obtain ⟨r,wr,er⟩:=Ev.open_agg (k:=8) Try.underlying24 (by kernel_rfl:Ev.shB Try.prog 8 24=some [.int .i64,.list [.int .i64]]) (hval 0 24 v0 rfl rfl) h0;clear hA0 hval0;refine (Ev.looseSides_calls r wr (γ:=Ev.gAll W) (.cons er (.nil _)) (fun i=>rfl) (Ev.fzAll_at W)).mono fun e W' ⟨he,hg⟩=>?_;subst he;exact ⟨_,rfl,post_law kidsLooseSides fullLooseSides Try.underlying4 (by kernel_rfl) (by kernel_rfl) rfl rfl (by rw [Try.params4];decide) hW' hAk hg (ok_one (by kernel_rfl) rfl (okWide_bool_mk Try.underlying4 _))⟩
theorem looseSides_holds:Rows.LooseSidesSaid:=
 OpenClaim.holds_of_wide 4 Try.f4 rfl rfl rfl rfl rfl rfl rfl ⟨rfl,rfl,rfl,rfl,rfl⟩ rfl rfl rfl rfl rfl (by kernel_rfl) Try.func4 (by kernel_rfl)
  (of_decide_eq_true (by kernel_rfl)) (by unfold Func.isWrapper;first | (rw [if_pos (by decide +kernel)];kernel_rfl) | (rw [if_neg (by decide +kernel)];exact ⟨rfl,rfl⟩))
  (fun os started H enc _=>liftedLooseSides os started H enc)
end Go.Proofs.Ytfffbioafhppiaa
