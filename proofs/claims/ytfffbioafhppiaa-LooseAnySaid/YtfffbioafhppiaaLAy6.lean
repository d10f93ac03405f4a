/- LooseAny returns true, for all arguments, in every world in which it is called, and nothing that was there turns. -/
import Derived.ProofKit
import Derived.ReadAgain
import Derived.OpenShut
import Derived.Test.YtfffbioafhppiaaRows
import Derived.WalkKit
import Derived.Test.YtfffbioafhppiaaLAy5
set_option linter.unusedSimpArgs false
set_option linter.unusedVariables false
namespace Go.Proofs.Ytfffbioafhppiaa.Ev
open Go.Proofs

def rstS (l:List Int) (b:List Bool) (o:Nat→Bool) (i:Nat):List Bool:=(List.range b.length).map fun j=>if j < i then b.getD j false && !(isPn (l.getD j 0) && o j) else b.getD j false
def rstF (l:List Int) (b:List Bool) (o:Nat→Bool):List Bool:=(List.range b.length).map fun j=>b.getD j false && !(isPn (l.getD j 0) && o j)
theorem rstS_len (l:List Int) (b:List Bool) (o:Nat→Bool) (i:Nat):(rstS l b o i).length=b.length:=by unfold rstS;rw [List.length_map,List.length_range]
theorem rstF_len (l:List Int) (b:List Bool) (o:Nat→Bool):(rstF l b o).length=b.length:=by unfold rstF;rw [List.length_map,List.length_range]
theorem rstS_at (l:List Int) (b:List Bool) (o:Nat→Bool) {i:Nat} (hi:i < b.length):(rstS l b o i).getD i false=b.getD i false:=by
 unfold rstS;rw [List.getD_eq_getElem?_getD,List.getElem?_map,List.getElem?_range hi];show (if i < i then _ else _)=_
 rw [if_neg (by omega)]
theorem rstS_zero (l:List Int) (b:List Bool) (o:Nat→Bool):rstS l b o 0=b:=by
 apply List.ext_getElem?;intro i;unfold rstS;rw [List.getElem?_map]
 by_cases h:i < b.length
 ·rw [List.getElem?_range h,List.getElem?_eq_getElem h];show some (if i < 0 then _ else _)=_
  rw [if_neg (by omega),getD_at h]
 ·rw [List.getElem?_eq_none (by rw [List.length_range];omega),List.getElem?_eq_none (by omega)];rfl
theorem rstS_end (l:List Int) (b:List Bool) (o:Nat→Bool):rstS l b o b.length=rstF l b o:=by
 unfold rstS rstF;exact List.map_congr_left fun j hj=>by rw [if_pos (List.mem_range.1 hj)]
theorem rstS_set (l:List Int) (b:List Bool) (o:Nat→Bool) {i:Nat} {v:Bool} (hv:(b.getD i false && !(isPn (l.getD i 0) && o i))=v):(rstS l b o i).set i v=rstS l b o (i+1):=by
 unfold rstS;refine stk_rset ?_ fun a ha=>?_
 ·rw [if_pos (by omega)];exact hv
 ·by_cases c:a < i
  ·rw [if_pos c,if_pos (by omega)]
  ·rw [if_neg c,if_neg (by omega)]

def gonF (q s:List Bool):List Int:=ofNs ((idxB q).filter fun j=>!s.getD j false)
noncomputable def gF (l:List Int) (b:List Bool) (o:Nat→Bool):List Int:=gonF (rstF l b o) (tgB l (rstF l b o))
theorem b_nil (b:List Bool):List.map (fun r=>U.bool (List.headD r (U.i 0))) [] ++ b=b:=rfl
theorem nn_snoc (g:List Int) (v:Int):bc (decide (0 < g.length)) true (Nat.blt 0 (List.length [v]))=decide (0 < (g ++ [v]).length):=by
 rw [show decide (0 < (g ++ [v]).length)=true from decide_eq_true (by simp)]
 cases decide (0 < g.length) <;> rfl
theorem nn_any (nn:Bool):bc nn true (bc nn false true)=true:=by cases nn <;> rfl
def FrOk (l:List Int) (b:List Bool):Prop:=b.length=l.length∧l.length≤3000∧∀ x,x ∈ l→LetOk x
noncomputable instance FrOk.dec (l:List Int) (b:List Bool):Decidable (FrOk l b):=Classical.propDecidable _
def FrOkO (l:List Int) (b o:List Bool):Prop:=FrOk l b∧o.length=l.length
noncomputable instance FrOkO.dec (l:List Int) (b o:List Bool):Decidable (FrOkO l b o):=Classical.propDecidable _
theorem TigOk.of {l:List Int} {b:List Bool} (h:FrOk l b) (o:Nat→Bool):TigOk l l (rstF l b o).length l.length:=⟨rfl,by rw [rstF_len];exact h.1,h.2.1,h.2.2⟩
namespace PFrA
abbrev O  : Nat→Bool:=fun _=>true
theorem stR {t:Int} {l:List Int} {b:List Bool}  {i:Nat} (hi:i < b.length) (hl:b.length=l.length) (hb:l.length≤3000)  : RUN (stOf (sR t l b (rstS l b (O) i) i)) = .at (sR t l b (rstS l b (O) (i+1)) (i+1:Nat)):=by
 have e0:Int.toNat (i:Int)=i:=rfl;rw [r_t,e0,rstS_at l b _ hi,rstS_len]
 cases hbi:b.getD i false with
 | false=>
  rw [rstS_set l b (O) (v:=false) (by rw [hbi];rfl)];simp (disch:=omega) only [Nat.add_eq,eqSy_self,eqN_self,bc_same,List.length_cons,ofn,wrap_in,dt,df,bltD,bltN,ble_of,bleN,beqD,bc_t,bc_f,nn_ok,Nat.zero_add,to_nat,Int.zero_add,Int.sub_zero,Int.sub_self,Int.cast_ofNat_Int,Int.natCast_zero,Int.toNat_zero,List.take_zero,List.nil_append,List.length_append,List.length_nil];rfl
 | true=>
  by_cases hp:1000 < l.getD i 0
  ·rw [dt hp,rstS_set l b (O) (v:=!true) (by rw [hbi,show isPn (l.getD i 0)=true from decide_eq_true hp];rfl)]
   simp (disch:=omega) only [Nat.add_eq,eqSy_self,eqN_self,bc_same,List.length_cons,ofn,wrap_in,dt,df,bltD,bltN,ble_of,bleN,beqD,bc_t,bc_f,nn_ok,Nat.zero_add,to_nat,Int.zero_add,Int.sub_zero,Int.sub_self,Int.cast_ofNat_Int,Int.natCast_zero,Int.toNat_zero,List.take_zero,List.nil_append,List.length_append,List.length_nil];rfl
  ·rw [df hp,rstS_set l b (O) (v:=!false) (by rw [hbi,show isPn (l.getD i 0)=false from decide_eq_false hp];rfl)]
   simp (disch:=omega) only [Nat.add_eq,eqSy_self,eqN_self,bc_same,List.length_cons,ofn,wrap_in,dt,df,bltD,bltN,ble_of,bleN,beqD,bc_t,bc_f,nn_ok,Nat.zero_add,to_nat,Int.zero_add,Int.sub_zero,Int.sub_self,Int.cast_ofNat_Int,Int.natCast_zero,Int.toNat_zero,List.take_zero,List.nil_append,List.length_append,List.length_nil];rfl
theorem endR {t:Int} {l:List Int} {b:List Bool}  (h:FrOk l b):RUN (stOf (sR t l b (rstF l b (O)) b.length)) = .at (sG t l b (rstF l b (O)) (tgB l (rstF l b (O))) l.length [] false 0):=by
 rw [r_t,rstF_len,df (show ¬ (b.length:Int) < (b.length:Int) by omega),bc_f];have h1:=TigOk.of h (O);rw [rstF_len] at h1;rw [dt h1];simp (disch:=omega) only [Nat.add_eq,eqSy_self,eqN_self,bc_same,List.length_cons,ofn,wrap_in,dt,df,bltD,bltN,ble_of,bleN,beqD,bc_t,bc_f,nn_ok,Nat.zero_add,to_nat,Int.zero_add,Int.sub_zero,Int.sub_self,Int.cast_ofNat_Int,Int.natCast_zero,Int.toNat_zero,List.take_zero,List.nil_append,List.length_append,List.length_nil]
theorem stG {t:Int} {l:List Int} {b:List Bool}  {q s:List Bool} {ms:Nat} {g:List Int} {i:Nat} (hi:i < b.length) (hq:q.length=b.length) (hs:s.length=ms) (hm:ms=b.length) (hb:b.length≤3000) (hg:g.length≤i):RUN (stOf (sG t l b q s ms g (decide (0 < g.length)) i)) = .at (sG t l b q s ms (g ++ (if q.getD i false && !s.getD i false then [(i:Int)] else [])) (decide (0 < (g ++ (if q.getD i false && !s.getD i false then [(i:Int)] else [])).length)) (i+1:Nat)):=by
 have e0:Int.toNat (i:Int)=i:=rfl;have m1:List.map (fun r=>U.int (List.headD r (U.i 0))) [[U.i (i:Int)]]=[(i:Int)]:=rfl;rw [g_t,e0,m1,nn_snoc,nn_any,hq,hs]
 cases q.getD i false with
 | false=>
  rw [show (false && !s.getD i false)=false from rfl,if_neg (by simp),List.append_nil]
  simp (disch:=omega) only [Nat.add_eq,eqSy_self,eqN_self,bc_same,List.length_cons,ofn,wrap_in,dt,df,bltD,bltN,ble_of,bleN,beqD,bc_t,bc_f,nn_ok,Nat.zero_add,to_nat,Int.zero_add,Int.sub_zero,Int.sub_self,Int.cast_ofNat_Int,Int.natCast_zero,Int.toNat_zero,List.take_zero,List.nil_append,List.length_append,List.length_nil];rfl
 | true=>
  cases s.getD i false with
  | false=>
   rw [show (true && !false)=true from rfl,if_pos rfl]
   simp (disch:=omega) only [Nat.add_eq,eqSy_self,eqN_self,bc_same,List.length_cons,ofn,wrap_in,dt,df,bltD,bltN,ble_of,bleN,beqD,bc_t,bc_f,nn_ok,Nat.zero_add,to_nat,Int.zero_add,Int.sub_zero,Int.sub_self,Int.cast_ofNat_Int,Int.natCast_zero,Int.toNat_zero,List.take_zero,List.nil_append,List.length_append,List.length_nil,Bool.not_false];rfl
  | true=>
   rw [show (true && !true)=false from rfl,if_neg (by simp),List.append_nil]
   simp (disch:=omega) only [Nat.add_eq,eqSy_self,eqN_self,bc_same,List.length_cons,ofn,wrap_in,dt,df,bltD,bltN,ble_of,bleN,beqD,bc_t,bc_f,nn_ok,Nat.zero_add,to_nat,Int.zero_add,Int.sub_zero,Int.sub_self,Int.cast_ofNat_Int,Int.natCast_zero,Int.toNat_zero,List.take_zero,List.nil_append,List.length_append,List.length_nil,Bool.not_true];rfl
theorem loopG {t:Int} {l:List Int} {b:List Bool}  {q s:List Bool} {ms:Nat} (hq:q.length=b.length) (hs:s.length=ms) (hm:ms=b.length) (hb:b.length≤3000):∀ (k i:Nat) (g:List Int),i+k=b.length→g.length≤i→EndM 2 58 ctTg (stOf (sG t l b q s ms g (decide (0 < g.length)) i)) (.slO 2 1 (g ++ ofNs (((List.range' i k).filter fun j=>q.getD j false).filter fun j=>!s.getD j false)).length (decide (0 < (g ++ ofNs (((List.range' i k).filter fun j=>q.getD j false).filter fun j=>!s.getD j false)).length))) (K0 t l b ++ [(2,.seq 3 (.ints .i64 (g ++ ofNs (((List.range' i k).filter fun j=>q.getD j false).filter fun j=>!s.getD j false))) (decide (0 < (g ++ ofNs (((List.range' i k).filter fun j=>q.getD j false).filter fun j=>!s.getD j false)).length)))]) 3
 | 0,i,g,h,hg=>by
  have h1:=g_t t l b q s ms g (decide (0 < g.length)) i;rw [df (show ¬ (i:Int) < (b.length:Int) by omega),bc_f] at h1;have e:g ++ ofNs (((List.range' i 0).filter fun j=>q.getD j false).filter fun j=>!s.getD j false)=g:=List.append_nil g;rw [e];exact .done h1
 | k+1,i,g,h,hg=>by
  have h1:=stG (t:=t) (l:=l) (b:=b)  (q:=q) (s:=s) (ms:=ms) (g:=g) (i:=i) (by omega) hq hs hm hb hg;have e:∀ g:List Int,g ++ ofNs (((List.range' i (k+1)).filter fun j=>q.getD j false).filter fun j=>!s.getD j false)=(g ++ (if q.getD i false && !s.getD i false then [(i:Int)] else [])) ++ ofNs (((List.range' (i+1) k).filter fun j=>q.getD j false).filter fun j=>!s.getD j false):=fun g=>by
   rw [List.range'_succ,List.append_assoc];congr 1
   cases hqi:q.getD i false with
   | false=>rw [List.filter_cons_of_neg (p:=fun j=>q.getD j false) (by rw [hqi];simp)];rfl
   | true=>
    rw [List.filter_cons_of_pos (p:=fun j=>q.getD j false) hqi]
    cases hsi:s.getD i false with
    | false=>rw [List.filter_cons_of_pos (p:=fun j=>!s.getD j false) (by rw [hsi];rfl)];rfl
    | true=>rw [List.filter_cons_of_neg (p:=fun j=>!s.getD j false) (by rw [hsi];simp)];rfl
  rw [e];exact .at ctTg_ok h1 (loopG hq hs hm hb k (i+1) _ (by omega) (by rw [List.length_append];split <;> simp <;> omega))
theorem loopR {t:Int} {l:List Int} {b:List Bool}  (h:FrOk l b)  : ∀ (k i:Nat),i+k=b.length→EndM 2 58 ctTg (stOf (sR t l b (rstS l b (O) i) i)) (.slO 2 1 (gF l b (O)).length (decide (0 < (gF l b (O)).length))) (K0 t l b ++ [(2,.seq 3 (.ints .i64 (gF l b (O))) (decide (0 < (gF l b (O)).length)))]) 3
 | 0,i,hi=>by
  obtain rfl:i=b.length:=by omega
  rw [rstS_end];have h2:=loopG (t:=t) (l:=l) (b:=b)  (q:=rstF l b (O)) (s:=tgB l (rstF l b (O))) (ms:=l.length) (rstF_len _ _ _) (tgB_len _ _) h.1.symm (by have:=h.1;have:=h.2.1;omega) b.length 0 [] (by omega) (Nat.le_refl _);rw [← List.range_eq_range',List.nil_append] at h2;have e:ofNs (((List.range b.length).filter fun j=>(rstF l b (O)).getD j false).filter fun j=>!(tgB l (rstF l b (O))).getD j false)=gF l b (O):=by
   unfold gF gonF idxB;rw [rstF_len]
  rw [e] at h2;exact .at ctTg_ok (endR h) h2
 | k+1,i,hi=>.at ctTg_ok (stR (by omega) h.1 h.2.1 ) (loopR h k (i+1) (by omega))
theorem ends {t:Int} {l:List Int} {b:List Bool}  (h:FrOk l b)  : EndM 2 58 ctTg (st0m 58 [.ptr 0 0,.slO 1 1 b.length true,.fn 59 []] (K0 t l b) 2) (.slO 2 1 (gF l b (O)).length (decide (0 < (gF l b (O)).length))) (K0 t l b ++ [(2,.seq 3 (.ints .i64 (gF l b (O))) (decide (0 < (gF l b (O)).length)))]) 3:=by
 have h1:=in_t t l b;have hb:b.length≤3000:=by have:=h.1;have:=h.2.1;omega
 rw [b_nil] at h1;simp (disch:=omega) only [Nat.add_eq,eqSy_self,eqN_self,bc_same,List.length_cons,ofn,wrap_in,dt,df,bltD,bltN,ble_of,bleN,beqD,bc_t,bc_f,nn_ok,Nat.zero_add,to_nat,Int.zero_add,Int.sub_zero,Int.sub_self,Int.cast_ofNat_Int,Int.natCast_zero,Int.toNat_zero,List.take_zero,List.nil_append,List.length_append,List.length_nil] at h1;have h2:=loopR (t:=t)  h b.length 0 (by omega);rw [rstS_zero] at h2;exact .at ctTg_ok h1 h2
end PFrA
namespace PFrB
abbrev O (o:List Bool):Nat→Bool:=fun j=>o.getD j false
theorem stR {t:Int} {l:List Int} {b:List Bool} {o:List Bool} {no:Bool} {i:Nat} (hi:i < b.length) (hl:b.length=l.length) (hb:l.length≤3000) (ho:i < o.length):RUN (stOf (sR t l b o no (rstS l b (O o) i) i)) = .at (sR t l b o no (rstS l b (O o) (i+1)) (i+1:Nat)):=by
 have e0:Int.toNat (i:Int)=i:=rfl;rw [r_t,e0,rstS_at l b _ hi,rstS_len]
 cases hbi:b.getD i false with
 | false=>
  rw [rstS_set l b (O o) (v:=false) (by rw [hbi];rfl)];simp (disch:=omega) only [Nat.add_eq,eqSy_self,eqN_self,bc_same,List.length_cons,ofn,wrap_in,dt,df,bltD,bltN,ble_of,bleN,beqD,bc_t,bc_f,nn_ok,Nat.zero_add,to_nat,Int.zero_add,Int.sub_zero,Int.sub_self,Int.cast_ofNat_Int,Int.natCast_zero,Int.toNat_zero,List.take_zero,List.nil_append,List.length_append,List.length_nil];rfl
 | true=>
  by_cases hp:1000 < l.getD i 0
  ·rw [dt hp,rstS_set l b (O o) (v:=!o.getD i false) (by rw [hbi,show isPn (l.getD i 0)=true from decide_eq_true hp];rfl)]
   simp (disch:=omega) only [Nat.add_eq,eqSy_self,eqN_self,bc_same,List.length_cons,ofn,wrap_in,dt,df,bltD,bltN,ble_of,bleN,beqD,bc_t,bc_f,nn_ok,Nat.zero_add,to_nat,Int.zero_add,Int.sub_zero,Int.sub_self,Int.cast_ofNat_Int,Int.natCast_zero,Int.toNat_zero,List.take_zero,List.nil_append,List.length_append,List.length_nil];rfl
  ·rw [df hp,rstS_set l b (O o) (v:=!false) (by rw [hbi,show isPn (l.getD i 0)=false from decide_eq_false hp];rfl)]
   simp (disch:=omega) only [Nat.add_eq,eqSy_self,eqN_self,bc_same,List.length_cons,ofn,wrap_in,dt,df,bltD,bltN,ble_of,bleN,beqD,bc_t,bc_f,nn_ok,Nat.zero_add,to_nat,Int.zero_add,Int.sub_zero,Int.sub_self,Int.cast_ofNat_Int,Int.natCast_zero,Int.toNat_zero,List.take_zero,List.nil_append,List.length_append,List.length_nil];rfl
theorem endR {t:Int} {l:List Int} {b:List Bool} {o:List Bool} {no:Bool} (h:FrOk l b):RUN (stOf (sR t l b o no (rstF l b (O o)) b.length)) = .at (sG t l b (rstF l b (O o)) (tgB l (rstF l b (O o))) l.length [] false 0):=by
 rw [r_t,rstF_len,df (show ¬ (b.length:Int) < (b.length:Int) by omega),bc_f];have h1:=TigOk.of h (O o);rw [rstF_len] at h1;rw [dt h1];simp (disch:=omega) only [Nat.add_eq,eqSy_self,eqN_self,bc_same,List.length_cons,ofn,wrap_in,dt,df,bltD,bltN,ble_of,bleN,beqD,bc_t,bc_f,nn_ok,Nat.zero_add,to_nat,Int.zero_add,Int.sub_zero,Int.sub_self,Int.cast_ofNat_Int,Int.natCast_zero,Int.toNat_zero,List.take_zero,List.nil_append,List.length_append,List.length_nil]
theorem stG {t:Int} {l:List Int} {b:List Bool}  {q s:List Bool} {ms:Nat} {g:List Int} {i:Nat} (hi:i < b.length) (hq:q.length=b.length) (hs:s.length=ms) (hm:ms=b.length) (hb:b.length≤3000) (hg:g.length≤i):RUN (stOf (sG t l b q s ms g (decide (0 < g.length)) i)) = .at (sG t l b q s ms (g ++ (if q.getD i false && !s.getD i false then [(i:Int)] else [])) (decide (0 < (g ++ (if q.getD i false && !s.getD i false then [(i:Int)] else [])).length)) (i+1:Nat)):=by
 have e0:Int.toNat (i:Int)=i:=rfl;have m1:List.map (fun r=>U.int (List.headD r (U.i 0))) [[U.i (i:Int)]]=[(i:Int)]:=rfl;rw [g_t,e0,m1,nn_snoc,nn_any,hq,hs]
 cases q.getD i false with
 | false=>
  rw [show (false && !s.getD i false)=false from rfl,if_neg (by simp),List.append_nil]
  simp (disch:=omega) only [Nat.add_eq,eqSy_self,eqN_self,bc_same,List.length_cons,ofn,wrap_in,dt,df,bltD,bltN,ble_of,bleN,beqD,bc_t,bc_f,nn_ok,Nat.zero_add,to_nat,Int.zero_add,Int.sub_zero,Int.sub_self,Int.cast_ofNat_Int,Int.natCast_zero,Int.toNat_zero,List.take_zero,List.nil_append,List.length_append,List.length_nil];rfl
 | true=>
  cases s.getD i false with
  | false=>
   rw [show (true && !false)=true from rfl,if_pos rfl]
   simp (disch:=omega) only [Nat.add_eq,eqSy_self,eqN_self,bc_same,List.length_cons,ofn,wrap_in,dt,df,bltD,bltN,ble_of,bleN,beqD,bc_t,bc_f,nn_ok,Nat.zero_add,to_nat,Int.zero_add,Int.sub_zero,Int.sub_self,Int.cast_ofNat_Int,Int.natCast_zero,Int.toNat_zero,List.take_zero,List.nil_append,List.length_append,List.length_nil,Bool.not_false];rfl
  | true=>
   rw [show (true && !true)=false from rfl,if_neg (by simp),List.append_nil]
   simp (disch:=omega) only [Nat.add_eq,eqSy_self,eqN_self,bc_same,List.length_cons,ofn,wrap_in,dt,df,bltD,bltN,ble_of,bleN,beqD,bc_t,bc_f,nn_ok,Nat.zero_add,to_nat,Int.zero_add,Int.sub_zero,Int.sub_self,Int.cast_ofNat_Int,Int.natCast_zero,Int.toNat_zero,List.take_zero,List.nil_append,List.length_append,List.length_nil,Bool.not_true];rfl
theorem loopG {t:Int} {l:List Int} {b:List Bool}  {q s:List Bool} {ms:Nat} (hq:q.length=b.length) (hs:s.length=ms) (hm:ms=b.length) (hb:b.length≤3000):∀ (k i:Nat) (g:List Int),i+k=b.length→g.length≤i→EndM 2 58 ctTg (stOf (sG t l b q s ms g (decide (0 < g.length)) i)) (.slO 2 1 (g ++ ofNs (((List.range' i k).filter fun j=>q.getD j false).filter fun j=>!s.getD j false)).length (decide (0 < (g ++ ofNs (((List.range' i k).filter fun j=>q.getD j false).filter fun j=>!s.getD j false)).length))) (PFrA.K0 t l b ++ [(2,.seq 3 (.ints .i64 (g ++ ofNs (((List.range' i k).filter fun j=>q.getD j false).filter fun j=>!s.getD j false))) (decide (0 < (g ++ ofNs (((List.range' i k).filter fun j=>q.getD j false).filter fun j=>!s.getD j false)).length)))]) 3
 | 0,i,g,h,hg=>by
  have h1:=g_t t l b q s ms g (decide (0 < g.length)) i;rw [df (show ¬ (i:Int) < (b.length:Int) by omega),bc_f] at h1;have e:g ++ ofNs (((List.range' i 0).filter fun j=>q.getD j false).filter fun j=>!s.getD j false)=g:=List.append_nil g;rw [e];exact .done h1
 | k+1,i,g,h,hg=>by
  have h1:=stG (t:=t) (l:=l) (b:=b)  (q:=q) (s:=s) (ms:=ms) (g:=g) (i:=i) (by omega) hq hs hm hb hg;have e:∀ g:List Int,g ++ ofNs (((List.range' i (k+1)).filter fun j=>q.getD j false).filter fun j=>!s.getD j false)=(g ++ (if q.getD i false && !s.getD i false then [(i:Int)] else [])) ++ ofNs (((List.range' (i+1) k).filter fun j=>q.getD j false).filter fun j=>!s.getD j false):=fun g=>by
   rw [List.range'_succ,List.append_assoc];congr 1
   cases hqi:q.getD i false with
   | false=>rw [List.filter_cons_of_neg (p:=fun j=>q.getD j false) (by rw [hqi];simp)];rfl
   | true=>
    rw [List.filter_cons_of_pos (p:=fun j=>q.getD j false) hqi]
    cases hsi:s.getD i false with
    | false=>rw [List.filter_cons_of_pos (p:=fun j=>!s.getD j false) (by rw [hsi];rfl)];rfl
    | true=>rw [List.filter_cons_of_neg (p:=fun j=>!s.getD j false) (by rw [hsi];simp)];rfl
  rw [e];exact .at ctTg_ok h1 (loopG hq hs hm hb k (i+1) _ (by omega) (by rw [List.length_append];split <;> simp <;> omega))
theorem loopR {t:Int} {l:List Int} {b:List Bool} {o:List Bool} {no:Bool} (h:FrOk l b) (ho:o.length=l.length):∀ (k i:Nat),i+k=b.length→EndM 2 58 ctTg (stOf (sR t l b o no (rstS l b (O o) i) i)) (.slO 2 1 (gF l b (O o)).length (decide (0 < (gF l b (O o)).length))) (PFrA.K0 t l b ++ [(2,.seq 3 (.ints .i64 (gF l b (O o))) (decide (0 < (gF l b (O o)).length)))]) 3
 | 0,i,hi=>by
  obtain rfl:i=b.length:=by omega
  rw [rstS_end];have h2:=loopG (t:=t) (l:=l) (b:=b)  (q:=rstF l b (O o)) (s:=tgB l (rstF l b (O o))) (ms:=l.length) (rstF_len _ _ _) (tgB_len _ _) h.1.symm (by have:=h.1;have:=h.2.1;omega) b.length 0 [] (by omega) (Nat.le_refl _);rw [← List.range_eq_range',List.nil_append] at h2;have e:ofNs (((List.range b.length).filter fun j=>(rstF l b (O o)).getD j false).filter fun j=>!(tgB l (rstF l b (O o))).getD j false)=gF l b (O o):=by
   unfold gF gonF idxB;rw [rstF_len]
  rw [e] at h2;exact .at ctTg_ok (endR h) h2
 | k+1,i,hi=>.at ctTg_ok (stR (by omega) h.1 h.2.1 (by have:=h.1;omega)) (loopR h ho k (i+1) (by omega))
theorem ends {t:Int} {l:List Int} {b:List Bool} {o:List Bool} {no:Bool} (h:FrOk l b) (ho:o.length=l.length):EndM 2 58 ctTg (st0m 58 [.ptr 0 0,.slO 1 1 b.length true,.fn 103 [.ptr 2 0]] (K0 t l b o no) 4) (.slO 2 1 (gF l b (O o)).length (decide (0 < (gF l b (O o)).length))) (PFrA.K0 t l b ++ [(2,.seq 3 (.ints .i64 (gF l b (O o))) (decide (0 < (gF l b (O o)).length)))]) 3:=by
 have h1:=in_t t l b o no;have hb:b.length≤3000:=by have:=h.1;have:=h.2.1;omega
 rw [b_nil] at h1;simp (disch:=omega) only [Nat.add_eq,eqSy_self,eqN_self,bc_same,List.length_cons,ofn,wrap_in,dt,df,bltD,bltN,ble_of,bleN,beqD,bc_t,bc_f,nn_ok,Nat.zero_add,to_nat,Int.zero_add,Int.sub_zero,Int.sub_self,Int.cast_ofNat_Int,Int.natCast_zero,Int.toNat_zero,List.take_zero,List.nil_append,List.length_append,List.length_nil] at h1;have h2:=loopR (t:=t) (no:=no) h ho b.length 0 (by omega);rw [rstS_zero] at h2;exact .at ctTg_ok h1 h2
end PFrB
namespace PFrC
abbrev O (kk:Int):Nat→Bool:=fun j=>((j:Int) == kk)
theorem stR {t:Int} {l:List Int} {b:List Bool} {kk:Int} {i:Nat} (hi:i < b.length) (hl:b.length=l.length) (hb:l.length≤3000)  : RUN (stOf (sR t l b kk (rstS l b (O kk) i) i)) = .at (sR t l b kk (rstS l b (O kk) (i+1)) (i+1:Nat)):=by
 have e0:Int.toNat (i:Int)=i:=rfl;rw [r_t,e0,rstS_at l b _ hi,rstS_len]
 cases hbi:b.getD i false with
 | false=>
  rw [rstS_set l b (O kk) (v:=false) (by rw [hbi];rfl)];simp (disch:=omega) only [Nat.add_eq,eqSy_self,eqN_self,bc_same,List.length_cons,ofn,wrap_in,dt,df,bltD,bltN,ble_of,bleN,beqD,bc_t,bc_f,nn_ok,Nat.zero_add,to_nat,Int.zero_add,Int.sub_zero,Int.sub_self,Int.cast_ofNat_Int,Int.natCast_zero,Int.toNat_zero,List.take_zero,List.nil_append,List.length_append,List.length_nil];rfl
 | true=>
  by_cases hp:1000 < l.getD i 0
  ·rw [dt hp,rstS_set l b (O kk) (v:=!((i:Int) == kk)) (by rw [hbi,show isPn (l.getD i 0)=true from decide_eq_true hp];rfl)]
   simp (disch:=omega) only [Nat.add_eq,eqSy_self,eqN_self,bc_same,List.length_cons,ofn,wrap_in,dt,df,bltD,bltN,ble_of,bleN,beqD,bc_t,bc_f,nn_ok,Nat.zero_add,to_nat,Int.zero_add,Int.sub_zero,Int.sub_self,Int.cast_ofNat_Int,Int.natCast_zero,Int.toNat_zero,List.take_zero,List.nil_append,List.length_append,List.length_nil];rfl
  ·rw [df hp,rstS_set l b (O kk) (v:=!false) (by rw [hbi,show isPn (l.getD i 0)=false from decide_eq_false hp];rfl)]
   simp (disch:=omega) only [Nat.add_eq,eqSy_self,eqN_self,bc_same,List.length_cons,ofn,wrap_in,dt,df,bltD,bltN,ble_of,bleN,beqD,bc_t,bc_f,nn_ok,Nat.zero_add,to_nat,Int.zero_add,Int.sub_zero,Int.sub_self,Int.cast_ofNat_Int,Int.natCast_zero,Int.toNat_zero,List.take_zero,List.nil_append,List.length_append,List.length_nil];rfl
theorem endR {t:Int} {l:List Int} {b:List Bool} {kk:Int} (h:FrOk l b):RUN (stOf (sR t l b kk (rstF l b (O kk)) b.length)) = .at (sG t l b kk (rstF l b (O kk)) (tgB l (rstF l b (O kk))) l.length [] false 0):=by
 rw [r_t,rstF_len,df (show ¬ (b.length:Int) < (b.length:Int) by omega),bc_f];have h1:=TigOk.of h (O kk);rw [rstF_len] at h1;rw [dt h1];simp (disch:=omega) only [Nat.add_eq,eqSy_self,eqN_self,bc_same,List.length_cons,ofn,wrap_in,dt,df,bltD,bltN,ble_of,bleN,beqD,bc_t,bc_f,nn_ok,Nat.zero_add,to_nat,Int.zero_add,Int.sub_zero,Int.sub_self,Int.cast_ofNat_Int,Int.natCast_zero,Int.toNat_zero,List.take_zero,List.nil_append,List.length_append,List.length_nil]
theorem stG {t:Int} {l:List Int} {b:List Bool} {kk:Int} {q s:List Bool} {ms:Nat} {g:List Int} {i:Nat} (hi:i < b.length) (hq:q.length=b.length) (hs:s.length=ms) (hm:ms=b.length) (hb:b.length≤3000) (hg:g.length≤i):RUN (stOf (sG t l b kk q s ms g (decide (0 < g.length)) i)) = .at (sG t l b kk q s ms (g ++ (if q.getD i false && !s.getD i false then [(i:Int)] else [])) (decide (0 < (g ++ (if q.getD i false && !s.getD i false then [(i:Int)] else [])).length)) (i+1:Nat)):=by
 have e0:Int.toNat (i:Int)=i:=rfl;have m1:List.map (fun r=>U.int (List.headD r (U.i 0))) [[U.i (i:Int)]]=[(i:Int)]:=rfl;rw [g_t,e0,m1,nn_snoc,nn_any,hq,hs]
 cases q.getD i false with
 | false=>
  rw [show (false && !s.getD i false)=false from rfl,if_neg (by simp),List.append_nil]
  simp (disch:=omega) only [Nat.add_eq,eqSy_self,eqN_self,bc_same,List.length_cons,ofn,wrap_in,dt,df,bltD,bltN,ble_of,bleN,beqD,bc_t,bc_f,nn_ok,Nat.zero_add,to_nat,Int.zero_add,Int.sub_zero,Int.sub_self,Int.cast_ofNat_Int,Int.natCast_zero,Int.toNat_zero,List.take_zero,List.nil_append,List.length_append,List.length_nil];rfl
 | true=>
  cases s.getD i false with
  | false=>
   rw [show (true && !false)=true from rfl,if_pos rfl]
   simp (disch:=omega) only [Nat.add_eq,eqSy_self,eqN_self,bc_same,List.length_cons,ofn,wrap_in,dt,df,bltD,bltN,ble_of,bleN,beqD,bc_t,bc_f,nn_ok,Nat.zero_add,to_nat,Int.zero_add,Int.sub_zero,Int.sub_self,Int.cast_ofNat_Int,Int.natCast_zero,Int.toNat_zero,List.take_zero,List.nil_append,List.length_append,List.length_nil,Bool.not_false];rfl
  | true=>
   rw [show (true && !true)=false from rfl,if_neg (by simp),List.append_nil]
   simp (disch:=omega) only [Nat.add_eq,eqSy_self,eqN_self,bc_same,List.length_cons,ofn,wrap_in,dt,df,bltD,bltN,ble_of,bleN,beqD,bc_t,bc_f,nn_ok,Nat.zero_add,to_nat,Int.zero_add,Int.sub_zero,Int.sub_self,Int.cast_ofNat_Int,Int.natCast_zero,Int.toNat_zero,List.take_zero,List.nil_append,List.length_append,List.length_nil,Bool.not_true];rfl
theorem loopG {t:Int} {l:List Int} {b:List Bool} {kk:Int} {q s:List Bool} {ms:Nat} (hq:q.length=b.length) (hs:s.length=ms) (hm:ms=b.length) (hb:b.length≤3000):∀ (k i:Nat) (g:List Int),i+k=b.length→g.length≤i→EndM 3 58 ctTg (stOf (sG t l b kk q s ms g (decide (0 < g.length)) i)) (.slO 3 1 (g ++ ofNs (((List.range' i k).filter fun j=>q.getD j false).filter fun j=>!s.getD j false)).length (decide (0 < (g ++ ofNs (((List.range' i k).filter fun j=>q.getD j false).filter fun j=>!s.getD j false)).length))) (K0 t l b kk ++ [(3,.seq 3 (.ints .i64 (g ++ ofNs (((List.range' i k).filter fun j=>q.getD j false).filter fun j=>!s.getD j false))) (decide (0 < (g ++ ofNs (((List.range' i k).filter fun j=>q.getD j false).filter fun j=>!s.getD j false)).length)))]) 4
 | 0,i,g,h,hg=>by
  have h1:=g_t t l b kk q s ms g (decide (0 < g.length)) i;rw [df (show ¬ (i:Int) < (b.length:Int) by omega),bc_f] at h1;have e:g ++ ofNs (((List.range' i 0).filter fun j=>q.getD j false).filter fun j=>!s.getD j false)=g:=List.append_nil g;rw [e];exact .done h1
 | k+1,i,g,h,hg=>by
  have h1:=stG (t:=t) (l:=l) (b:=b) (kk:=kk) (q:=q) (s:=s) (ms:=ms) (g:=g) (i:=i) (by omega) hq hs hm hb hg;have e:∀ g:List Int,g ++ ofNs (((List.range' i (k+1)).filter fun j=>q.getD j false).filter fun j=>!s.getD j false)=(g ++ (if q.getD i false && !s.getD i false then [(i:Int)] else [])) ++ ofNs (((List.range' (i+1) k).filter fun j=>q.getD j false).filter fun j=>!s.getD j false):=fun g=>by
   rw [List.range'_succ,List.append_assoc];congr 1
   cases hqi:q.getD i false with
   | false=>rw [List.filter_cons_of_neg (p:=fun j=>q.getD j false) (by rw [hqi];simp)];rfl
   | true=>
    rw [List.filter_cons_of_pos (p:=fun j=>q.getD j false) hqi]
    cases hsi:s.getD i false with
    | false=>rw [List.filter_cons_of_pos (p:=fun j=>!s.getD j false) (by rw [hsi];rfl)];rfl
    | true=>rw [List.filter_cons_of_neg (p:=fun j=>!s.getD j false) (by rw [hsi];simp)];rfl
  rw [e];exact .at ctTg_ok h1 (loopG hq hs hm hb k (i+1) _ (by omega) (by rw [List.length_append];split <;> simp <;> omega))
theorem loopR {t:Int} {l:List Int} {b:List Bool} {kk:Int} (h:FrOk l b)  : ∀ (k i:Nat),i+k=b.length→EndM 3 58 ctTg (stOf (sR t l b kk (rstS l b (O kk) i) i)) (.slO 3 1 (gF l b (O kk)).length (decide (0 < (gF l b (O kk)).length))) (K0 t l b kk ++ [(3,.seq 3 (.ints .i64 (gF l b (O kk))) (decide (0 < (gF l b (O kk)).length)))]) 4
 | 0,i,hi=>by
  obtain rfl:i=b.length:=by omega
  rw [rstS_end];have h2:=loopG (t:=t) (l:=l) (b:=b) (kk:=kk) (q:=rstF l b (O kk)) (s:=tgB l (rstF l b (O kk))) (ms:=l.length) (rstF_len _ _ _) (tgB_len _ _) h.1.symm (by have:=h.1;have:=h.2.1;omega) b.length 0 [] (by omega) (Nat.le_refl _);rw [← List.range_eq_range',List.nil_append] at h2;have e:ofNs (((List.range b.length).filter fun j=>(rstF l b (O kk)).getD j false).filter fun j=>!(tgB l (rstF l b (O kk))).getD j false)=gF l b (O kk):=by
   unfold gF gonF idxB;rw [rstF_len]
  rw [e] at h2;exact .at ctTg_ok (endR h) h2
 | k+1,i,hi=>.at ctTg_ok (stR (by omega) h.1 h.2.1 ) (loopR h k (i+1) (by omega))
theorem ends {t:Int} {l:List Int} {b:List Bool} {kk:Int} (h:FrOk l b)  : EndM 3 58 ctTg (st0m 58 [.ptr 0 0,.slO 1 1 b.length true,.fn 86 [.ptr 2 0]] (K0 t l b kk) 3) (.slO 3 1 (gF l b (O kk)).length (decide (0 < (gF l b (O kk)).length))) (K0 t l b kk ++ [(3,.seq 3 (.ints .i64 (gF l b (O kk))) (decide (0 < (gF l b (O kk)).length)))]) 4:=by
 have h1:=in_t t l b kk;have hb:b.length≤3000:=by have:=h.1;have:=h.2.1;omega
 rw [b_nil] at h1;simp (disch:=omega) only [Nat.add_eq,eqSy_self,eqN_self,bc_same,List.length_cons,ofn,wrap_in,dt,df,bltD,bltN,ble_of,bleN,beqD,bc_t,bc_f,nn_ok,Nat.zero_add,to_nat,Int.zero_add,Int.sub_zero,Int.sub_self,Int.cast_ofNat_Int,Int.natCast_zero,Int.toNat_zero,List.take_zero,List.nil_append,List.length_append,List.length_nil] at h1;have h2:=loopR (t:=t) (kk:=kk) h b.length 0 (by omega);rw [rstS_zero] at h2;exact .at ctTg_ok h1 h2
end PFrC
end Go.Proofs.Ytfffbioafhppiaa.Ev
namespace Go.Proofs.Ytfffbioafhppiaa.Ev
open Go.Proofs
noncomputable def spFre_0:ZMT:=fun ax K0 m=>match ax,K0 with
 | [.ptr 0 0,.slO 1 1 v_0 v_1,.fn 59 []],[(0,.cells 24 [.v (.int .i64 t),.lst (.ints .i64 l)] v_2),(1,.seq 4 (.bools b) v_3)]=>bc (Nat.beq m (2)) (some ⟨bc (Nat.beq v_0 (b.length)) (bc (eqN v_1 (true)) (bc (eqN v_2 (true)) (bc (eqN v_3 (true)) (decide (FrOk l b)) false) false) false) false,.slO 2 1 (gF l b PFrA.O).length (decide (0 < (gF l b PFrA.O).length)),PFrA.K0 t l b ++ [(2,.seq 3 (.ints .i64 (gF l b PFrA.O)) (decide (0 < (gF l b PFrA.O).length)))],3,2⟩) none
 | _,_=>none
theorem spFre_0_ok:ZMtOk Try.prog 58 spFre_0:=fun γ w0 w us ax K0 m r hs hc hres hax hH=>by
 unfold spFre_0 at hs;split at hs
 case h_2=>cases hs
 rename_i v_0 v_1 t l v_2 b v_3;obtain ⟨hm,rfl⟩:=noN hs;have hm:=Nat.eq_of_beq_eq_true hm;subst hm;have hc_0:bc (Nat.beq v_0 (b.length)) (bc (eqN v_1 (true)) (bc (eqN v_2 (true)) (bc (eqN v_3 (true)) (decide (FrOk l b)) false) false) false) false=true:=hc;obtain ⟨q_0,hc_1⟩:=bcT hc_0;have p_0:=(Nat.eq_of_beq_eq_true q_0).symm;subst p_0;obtain ⟨q_1,hc_2⟩:=bcT hc_1;have p_1:=(eqN_ok q_1).symm;subst p_1;obtain ⟨q_2,hc_3⟩:=bcT hc_2;have p_2:=(eqN_ok q_2).symm;subst p_2;obtain ⟨q_3,hc_4⟩:=bcT hc_3;have p_3:=(eqN_ok q_3).symm;subst p_3
 have hc:=of_decide_eq_true hc_4;exact EndM.calls (PFrA.ends hc) ctTg_ok (by kernel_rfl) hres hax hH
noncomputable def spFre_1:ZMT:=fun ax K0 m=>match ax,K0 with
 | [.ptr 0 0,.slO 1 1 v_0 v_1,.fn 103 [.ptr 2 0]],[(0,.cells 24 [.v (.int .i64 t),.lst (.ints .i64 l)] v_2),(1,.seq 4 (.bools b) v_3),(2,.cells 75 [.slO 3 1 v_4 v_5] v_6),(3,.seq 4 (.bools o) no)]=>bc (Nat.beq m (4)) (some ⟨bc (Nat.beq v_0 (b.length)) (bc (eqN v_1 (true)) (bc (eqN v_2 (true)) (bc (eqN v_3 (true)) (bc (Nat.beq v_4 (o.length)) (bc (eqN v_5 (no)) (bc (eqN v_6 (true)) (decide (FrOkO l b o)) false) false) false) false) false) false) false,.slO 2 1 (gF l b (PFrB.O o)).length (decide (0 < (gF l b (PFrB.O o)).length)),PFrA.K0 t l b ++ [(2,.seq 3 (.ints .i64 (gF l b (PFrB.O o))) (decide (0 < (gF l b (PFrB.O o)).length)))],3,2⟩) none
 | _,_=>none
theorem spFre_1_ok:ZMtOk Try.prog 58 spFre_1:=fun γ w0 w us ax K0 m r hs hc hres hax hH=>by
 unfold spFre_1 at hs;split at hs
 case h_2=>cases hs
 rename_i v_0 v_1 t l v_2 b v_3 v_4 v_5 v_6 o no;obtain ⟨hm,rfl⟩:=noN hs;have hm:=Nat.eq_of_beq_eq_true hm;subst hm;have hc_0:bc (Nat.beq v_0 (b.length)) (bc (eqN v_1 (true)) (bc (eqN v_2 (true)) (bc (eqN v_3 (true)) (bc (Nat.beq v_4 (o.length)) (bc (eqN v_5 (no)) (bc (eqN v_6 (true)) (decide (FrOkO l b o)) false) false) false) false) false) false) false=true:=hc;obtain ⟨q_0,hc_1⟩:=bcT hc_0;have p_0:=(Nat.eq_of_beq_eq_true q_0).symm;subst p_0;obtain ⟨q_1,hc_2⟩:=bcT hc_1;have p_1:=(eqN_ok q_1).symm;subst p_1;obtain ⟨q_2,hc_3⟩:=bcT hc_2
 have p_2:=(eqN_ok q_2).symm;subst p_2;obtain ⟨q_3,hc_4⟩:=bcT hc_3;have p_3:=(eqN_ok q_3).symm;subst p_3;obtain ⟨q_4,hc_5⟩:=bcT hc_4;have p_4:=(Nat.eq_of_beq_eq_true q_4).symm;subst p_4;obtain ⟨q_5,hc_6⟩:=bcT hc_5;have p_5:=(eqN_ok q_5).symm;subst p_5;obtain ⟨q_6,hc_7⟩:=bcT hc_6;have p_6:=(eqN_ok q_6).symm;subst p_6;have hc:=of_decide_eq_true hc_7;exact EndM.calls (PFrB.ends hc.1 hc.2) ctTg_ok (by kernel_rfl) hres hax hH
noncomputable def spFre_2:ZMT:=fun ax K0 m=>match ax,K0 with
 | [.ptr 0 0,.slO 1 1 v_0 v_1,.fn 86 [.ptr 2 0]],[(0,.cells 24 [.v (.int .i64 t),.lst (.ints .i64 l)] v_2),(1,.seq 4 (.bools b) v_3),(2,.cells 3 [.v (.int .i64 kk)] v_4)]=>bc (Nat.beq m (3)) (some ⟨bc (Nat.beq v_0 (b.length)) (bc (eqN v_1 (true)) (bc (eqN v_2 (true)) (bc (eqN v_3 (true)) (bc (eqN v_4 (true)) (decide (FrOk l b)) false) false) false) false) false,.slO 3 1 (gF l b (PFrC.O kk)).length (decide (0 < (gF l b (PFrC.O kk)).length)),PFrC.K0 t l b kk ++ [(3,.seq 3 (.ints .i64 (gF l b (PFrC.O kk))) (decide (0 < (gF l b (PFrC.O kk)).length)))],4,3⟩) none
 | _,_=>none
theorem spFre_2_ok:ZMtOk Try.prog 58 spFre_2:=fun γ w0 w us ax K0 m r hs hc hres hax hH=>by
 unfold spFre_2 at hs;split at hs
 case h_2=>cases hs
 rename_i v_0 v_1 t l v_2 b v_3 kk v_4;obtain ⟨hm,rfl⟩:=noN hs;have hm:=Nat.eq_of_beq_eq_true hm;subst hm;have hc_0:bc (Nat.beq v_0 (b.length)) (bc (eqN v_1 (true)) (bc (eqN v_2 (true)) (bc (eqN v_3 (true)) (bc (eqN v_4 (true)) (decide (FrOk l b)) false) false) false) false) false=true:=hc;obtain ⟨q_0,hc_1⟩:=bcT hc_0;have p_0:=(Nat.eq_of_beq_eq_true q_0).symm;subst p_0;obtain ⟨q_1,hc_2⟩:=bcT hc_1;have p_1:=(eqN_ok q_1).symm;subst p_1;obtain ⟨q_2,hc_3⟩:=bcT hc_2;have p_2:=(eqN_ok q_2).symm;subst p_2;obtain ⟨q_3,hc_4⟩:=bcT hc_3
 have p_3:=(eqN_ok q_3).symm;subst p_3;obtain ⟨q_4,hc_5⟩:=bcT hc_4;have p_4:=(eqN_ok q_4).symm;subst p_4;have hc:=of_decide_eq_true hc_5;exact EndM.calls (PFrC.ends hc) ctTg_ok (by kernel_rfl) hres hax hH
noncomputable def spFre:ZMT:=ZMT.or spFre_0 (ZMT.or spFre_1 (spFre_2))
theorem spFre_ok:ZMtOk Try.prog 58 spFre:=spFre_0_ok.or (spFre_1_ok.or (spFre_2_ok))
namespace PCol
noncomputable def K0 (b:List Bool) (nb:Bool):List (Nat × EK):=[(0,.cells 75 [.slO 1 1 b.length nb] true),(1,.seq 4 (.bools b) nb)]
noncomputable def RUN (s:ES):ZF:=RMs 2 53 .nil [(atS 2 105 1,[[(0,none),(5,none),(6,none),(7,none)],[(2,some (1,3,.ints .i64 []))],[]])] [2] [] s

noncomputable def sL (b:List Bool) (nb:Bool) (g:List Int) (nn:Bool) (i:Int):NS:=⟨[⟨105,20,[(0,(EV.yl 2)),(5,(EV.slO 1 1 (List.length b) (nb))),(6,(EV.v (Value.int IntKind.i64 (Int.ofNat (List.length b))))),(7,iv i)],[.it (.code (nav [1,0,0] (bodyOf Try.f105))),.it (.inLoop (nav [1,0,0] (bodyOf Try.f105))),.it (.inBlock 0)],[],Option.none⟩,⟨104,13,[(2,(EV.ptr 3 0))],[(.inRF 2),.it (.inBlock 0),.it (.code (nav [1,1] (bodyOf Try.f104)))],[(DE.mk 4)],Option.none⟩,⟨53,5,[],[.ops (opsOf (nav [1,0] (bodyOf Try.f53))) ((opsOf (nav [1,0] (bodyOf Try.f53))).toList.drop 1),.it (.code (nav [1,1] (bodyOf Try.f53)))],[],Option.none⟩],[(0,(EK.cells 75 [(EV.slO 1 1 (List.length b) (nb))] true)),(1,(EK.seq 4 (SyC.bools (b)) (nb))),(2,(EK.loop LoopState.ready Option.none 104 13 (Tr.node Option.none (Tr.node Option.none Tr.nil (Tr.node (Option.some (EV.ptr 3 0)) Tr.nil Tr.nil)) Tr.nil) (Array.mk [7]) (nav [1,0,1,0,0] (bodyOf Try.f104)) (nav [1,0,1,0,1] (bodyOf Try.f104)) 4)),(3,EK.cells 22 [EV.slO 5 1 g.length nn] true),(4,(EK.dfr true)),(5,EK.seq 3 (.ints .i64 g) nn)],6⟩
theorem in_t (b:List Bool) (nb:Bool):RUN (st0m 53 [.fn 105 [.ptr 0 0]] (K0 b nb) 2)=(.at (sL (b) (nb) ([]) (false) ((0:Int)))):=by kernel_rfl
theorem l_t (b:List Bool) (nb:Bool) (g:List Int) (nn:Bool) (i:Int):RUN (stOf (sL b nb g nn i))=(bc (decide (i < Int.ofNat (List.length b))) (bc (bc (bc (decide ((0:Int)≤i)) (Nat.blt (Int.toNat i) (List.length b)) false) true false) (bc (bc (Nat.blt (Int.toNat i) (List.length b)) true false) (bc (List.getD b (Int.toNat i) false) (bc (bc (Nat.beq (List.length g) (List.length g)) (bc (Nat.ble (List.length g+List.length (List.map (fun r=>U.int (List.headD r (U.i (0:Int)))) [[U.i i]])) (65536:Nat)) (bc nn true (bc nn false true)) false) false) (.at (sL (b) (nb) (g ++ List.map (fun r=>U.int (List.headD r (U.i (0:Int)))) [[U.i i]]) (bc nn true (Nat.blt (0:Nat) (List.length (List.map (fun r=>U.int (List.headD r (U.i (0:Int)))) [[U.i i]])))) (IntKind.wrap IntKind.i64 (i+(1:Int))))) .bad) (.at (sL (b) (nb) (g) (nn) (IntKind.wrap IntKind.i64 (i+(1:Int)))))) .bad) .bad) (.done (EV.slO 2 1 (List.length g) (nn)) [(0,(EK.cells 75 [(EV.slO 1 1 (List.length b) (nb))] true)),(1,(EK.seq 4 (SyC.bools (b)) (nb))),(2,(EK.seq 3 (SyC.ints IntKind.i64 (g)) (nn)))] 3)):=by kernel_rfl
theorem step {b:List Bool} {nb:Bool} {g:List Int} {i:Nat} (hi:i < b.length) (hb:b.length≤3000) (hg:g.length≤i):RUN (stOf (sL b nb g (decide (0 < g.length)) i)) = .at (sL b nb (g ++ (if b.getD i false then [(i:Int)] else [])) (decide (0 < (g ++ (if b.getD i false then [(i:Int)] else [])).length)) (i+1:Nat)):=by
 have e0:Int.toNat (i:Int)=i:=rfl;have m1:List.map (fun r=>U.int (List.headD r (U.i 0))) [[U.i (i:Int)]]=[(i:Int)]:=rfl;rw [l_t,e0,m1,nn_snoc,nn_any]
 cases b.getD i false with
 | false=>
  rw [if_neg (by simp),List.append_nil];simp (disch:=omega) only [Nat.add_eq,eqSy_self,eqN_self,bc_same,List.length_cons,ofn,wrap_in,dt,df,bltD,bltN,ble_of,bleN,beqD,bc_t,bc_f,nn_ok,Nat.zero_add,to_nat,Int.zero_add,Int.sub_zero,Int.sub_self,Int.cast_ofNat_Int,Int.natCast_zero,Int.toNat_zero,List.take_zero,List.nil_append,List.length_append,List.length_nil];rfl
 | true=>
  rw [if_pos rfl];simp (disch:=omega) only [Nat.add_eq,eqSy_self,eqN_self,bc_same,List.length_cons,ofn,wrap_in,dt,df,bltD,bltN,ble_of,bleN,beqD,bc_t,bc_f,nn_ok,Nat.zero_add,to_nat,Int.zero_add,Int.sub_zero,Int.sub_self,Int.cast_ofNat_Int,Int.natCast_zero,Int.toNat_zero,List.take_zero,List.nil_append,List.length_append,List.length_nil];rfl
theorem loop {b:List Bool} {nb:Bool} (hb:b.length≤3000):∀ (k i:Nat) (g:List Int),i+k=b.length→g.length≤i→EndM 2 53 .nil (stOf (sL b nb g (decide (0 < g.length)) i)) (.slO 2 1 (g ++ ofNs ((List.range' i k).filter fun j=>b.getD j false)).length (decide (0 < (g ++ ofNs ((List.range' i k).filter fun j=>b.getD j false)).length))) (K0 b nb ++ [(2,.seq 3 (.ints .i64 (g ++ ofNs ((List.range' i k).filter fun j=>b.getD j false))) (decide (0 < (g ++ ofNs ((List.range' i k).filter fun j=>b.getD j false)).length)))]) 3
 | 0,i,g,h,hg=>by
  have h1:=l_t b nb g (decide (0 < g.length)) i;rw [df (show ¬ (i:Int) < Int.ofNat b.length by rw [ofn];omega),bc_f] at h1;have e:g ++ ofNs ((List.range' i 0).filter fun j=>b.getD j false)=g:=List.append_nil g;rw [e];exact .done h1
 | k+1,i,g,h,hg=>by
  have h1:=step (b:=b) (nb:=nb) (g:=g) (i:=i) (by omega) hb hg;have e:g ++ ofNs ((List.range' i (k+1)).filter fun j=>b.getD j false)=(g ++ (if b.getD i false then [(i:Int)] else [])) ++ ofNs ((List.range' (i+1) k).filter fun j=>b.getD j false):=by
   rw [List.range'_succ,List.append_assoc];congr 1
   cases hqi:b.getD i false with
   | false=>rw [List.filter_cons_of_neg (p:=fun j=>b.getD j false) (by rw [hqi];simp)];rfl
   | true=>rw [List.filter_cons_of_pos (p:=fun j=>b.getD j false) hqi];rfl
  rw [e];exact .at (.nil _) h1 (loop hb k (i+1) _ (by omega) (by rw [List.length_append];split <;> simp <;> omega))
theorem ends {b:List Bool} {nb:Bool} (hb:b.length≤3000):EndM 2 53 .nil (st0m 53 [.fn 105 [.ptr 0 0]] (K0 b nb) 2) (.slO 2 1 (ofNs (idxB b)).length (decide (0 < (ofNs (idxB b)).length))) (K0 b nb ++ [(2,.seq 3 (.ints .i64 (ofNs (idxB b))) (decide (0 < (ofNs (idxB b)).length)))]) 3:=by
 have h1:=in_t b nb;have h2:=loop (b:=b) (nb:=nb) hb b.length 0 [] (by omega) (Nat.le_refl _);rw [← List.range_eq_range',List.nil_append] at h2;exact .at (.nil _) h1 h2
end PCol
noncomputable def spCol:ZMT:=fun ax K0 m=>match ax,K0 with
 | [.fn 105 [.ptr 0 0]],[(0,.cells 75 [.slO 1 1 v_0 v_1] v_2),(1,.seq 4 (.bools b) nb)]=>bc (Nat.beq m (2)) (some ⟨bc (Nat.beq v_0 (b.length)) (bc (eqN v_1 (nb)) (bc (eqN v_2 (true)) (decide (b.length≤3000)) false) false) false,.slO 2 1 (ofNs (idxB b)).length (decide (0 < (ofNs (idxB b)).length)),PCol.K0 b nb ++ [(2,.seq 3 (.ints .i64 (ofNs (idxB b))) (decide (0 < (ofNs (idxB b)).length)))],3,2⟩) none
 | _,_=>none
theorem spCol_ok:ZMtOk Try.prog 53 spCol:=fun γ w0 w us ax K0 m r hs hc hres hax hH=>by
 unfold spCol at hs;split at hs
 case h_2=>cases hs
 rename_i v_0 v_1 v_2 b nb;obtain ⟨hm,rfl⟩:=noN hs;have hm:=Nat.eq_of_beq_eq_true hm;subst hm;have hc_0:bc (Nat.beq v_0 (b.length)) (bc (eqN v_1 (nb)) (bc (eqN v_2 (true)) (decide (b.length≤3000)) false) false) false=true:=hc;obtain ⟨q_0,hc_1⟩:=bcT hc_0;have p_0:=(Nat.eq_of_beq_eq_true q_0).symm;subst p_0;obtain ⟨q_1,hc_2⟩:=bcT hc_1;have p_1:=(eqN_ok q_1).symm;subst p_1;obtain ⟨q_2,hc_3⟩:=bcT hc_2;have p_2:=(eqN_ok q_2).symm;subst p_2;have hc:=of_decide_eq_true hc_3;exact EndM.calls (PCol.ends hc) (.nil _) (by kernel_rfl) hres hax hH
noncomputable def ctLo:Tr ZCC:=(((Tr.nil.put 52 (some (dC spPChL))).put 55 (some (mC spTgt))).put 58 (some (mC spFre))).put 53 (some (mC spCol))
theorem ctLo_ok:ZCtsOk Try.prog ctLo:=((((ZCtsOk.nil _).add rfl spPChL_ok).addM rfl spTgt_ok).addM rfl spFre_ok).addM rfl spCol_ok
noncomputable abbrev hE (t:Int) (l:List Int):EV:=.agg [iv t,il l]
noncomputable abbrev rsL (e:Int) (l:List Int):EV:=.tup [il (bc (e != 0) [] l),iv e]
theorem rsL_err {e:Int} (l:List Int) (h:e≠0):Weak (.tup [.v (.slice none 0 0),iv e]) (rsL e l):=by
 unfold rsL;rw [show (e != 0)=true by simp [h],bc_t];exact Weak.tup (.cons (Weak.nilI _) (.cons (Weak.refl _) .nil))
theorem anyI_no {p:Int→Bool}:∀ {l:List Int},anyI p l=false→∀ x,x ∈ l→p x=false
 | [],_,x,hx=>by cases hx
 | y :: l,h,x,hx=>by
  unfold anyI at h
  cases hy:p y with
  | true=>rw [hy,bc_t] at h;cases h
  | false=>
   rw [hy,bc_f] at h;rcases List.mem_cons.1 hx with rfl | hx
   ·exact hy
   ·exact anyI_no h x hx
theorem badH_no {t x:Int} (ht:2≤t∧t≤48) (h:badH t x=false):LetOk x:=by
 unfold badH at h
 by_cases h1:x ≤ -t
 ·rw [dt h1,bc_t] at h;cases h
 rw [df h1,bc_f] at h
 by_cases h2:x=0
 ·rw [eqT h2,bc_t] at h;cases h
 rw [eqF h2,bc_f] at h;unfold LetOk
 by_cases h3:t≤x
 ·rw [dt h3,bc_t] at h
  by_cases h4:x≤1000
  ·rw [dt h4,bc_t] at h;cases h
  rw [df h4,bc_f] at h;have:=of_decide_eq_false h;omega
 ·omega
theorem chkL_ok {t:Int} {l:List Int} (h:chkL t l=0):(2≤t∧t≤48)∧l.length≤2000∧∀ x,x ∈ l→LetOk x:=by
 unfold chkL at h
 by_cases h1:t < 2
 ·rw [dt h1,bc_t] at h;cases h
 rw [df h1,bc_f] at h
 by_cases h2:48 < t
 ·rw [dt h2,bc_t] at h;cases h
 rw [df h2,bc_f] at h
 by_cases h3:2000 < (l.length:Int)
 ·rw [dt h3,bc_t] at h;cases h
 rw [df h3,bc_f] at h
 cases hb:anyI (badH t) l with
 | true=>rw [hb,bc_t] at h;cases h
 | false=>exact ⟨by omega,by omega,fun x hx=>badH_no (by omega) (anyI_no hb x hx)⟩
theorem chkL_tig {t:Int} {l:List Int} (h:chkL t l=0):TigOk l l 0 0∧FrOk l (tgA l):=by
 obtain ⟨_,h1,h2⟩:=chkL_ok h;exact ⟨⟨rfl,rfl,by omega,h2⟩,tgA_len l,by omega,h2⟩
namespace PTight
noncomputable def RUN (s:ES):ZF:=RZ 13 ctLo (fun _=>false) [] [] false s
theorem in_t (t:Int) (l:List Int):RUN (st0 13 [hE t l])=(bc (bc (decide (In64 l)) true false) (bc (chkL t l != (0:Int)) (.done (EV.tup [(EV.v (Value.slice Option.none 0 0)),(EV.v (Value.int IntKind.i64 (chkL t l)))]) [] 0) (bc (bc (decide (TigOk l l (0:Nat) (0:Nat))) true false) (bc (bc (bc (Nat.beq (List.length l) (List.length (tgA l))) (decide (List.length (tgA l)≤(3000:Nat))) false) true false) (bc (bc (Nat.beq (List.length (ofNs (idxB (tgA l)))) (List.length (ofNs (idxB (tgA l))))) true false) (.done (EV.tup [(EV.lst (SyC.ints IntKind.i64 (ofNs (idxB (tgA l))))),(EV.v (Value.int IntKind.i64 (0)))]) [] 0) .bad) .bad) .bad)) .bad):=by kernel_rfl
theorem ends {t:Int} {l:List Int} (hx:In64 l):EndZ 13 ctLo false (st0 13 [hE t l]) (rsL (chkL t l) (ofNs (idxB (tgA l)))) [] 0:=by
 have h:=in_t t l;rw [dt hx,bc_t,bc_t] at h
 by_cases z:chkL t l=0
 ·obtain ⟨h1,h2⟩:=chkL_tig z;have h3:=tgA_len l;have h4:=h1.2.2.1;unfold rsL;rw [z,show ((0:Int) != 0)=false from rfl,bc_f,dt h1,h3] at h
  rw [z,show ((0:Int) != 0)=false from rfl,bc_f]
  simp (disch:=omega) only [Nat.add_eq,eqSy_self,eqN_self,bc_same,List.length_cons,ofn,wrap_in,dt,df,bltD,bltN,ble_of,bleN,beqD,bc_t,bc_f,nn_ok,Nat.zero_add,to_nat,Int.zero_add,Int.sub_zero,Int.sub_self,Int.cast_ofNat_Int,Int.natCast_zero,Int.toNat_zero,List.take_zero,List.nil_append,List.length_append,List.length_nil] at h;exact .done h
 ·rw [show (chkL t l != 0)=true by simp [z],bc_t] at h;exact (EndZ.done h).weak (rsL_err _ z)
end PTight
noncomputable def spPTi:ZCT:=fun ax=>match ax with
 | [.agg [.v (.int .i64 t),.lst (.ints .i64 l)]]=>some ⟨decide (In64 l),rsL (chkL t l) (ofNs (idxB (tgA l))),[],0⟩
 | _=>none
theorem spPTi_ok:ZCtOk Try.prog 13 spPTi:=fun γ w us ax r hs hc hax hN hfz=>by
 unfold spPTi at hs;split at hs
 case h_2=>cases hs
 rename_i t l;obtain ⟨rfl⟩:=Option.some.inj hs;have hc_0:decide (In64 l)=true:=hc;have hc:=of_decide_eq_true hc_0;exact EndZ.calls (PTight.ends hc) ctLo_ok (by kernel_rfl) hax hN hfz
namespace PFreed
end PFreed
namespace PWith
end PWith
end Go.Proofs.Ytfffbioafhppiaa.Ev
namespace Go.Proofs.Ytfffbioafhppiaa.Ev
open Go.Proofs
namespace RTch
noncomputable def RUN (s:ES):ZF:=RZ 56 .nil (fun _=>false) [] [] false s
theorem in_t (x y:Int):RUN (st0 56 [iv x,iv y])=(bc (decide ((1000:Int) < x)) (bc (decide ((1000:Int) < y)) (bc (decide ((-1:Int)≤IntKind.wrap IntKind.i64 (IntKind.wrap IntKind.i64 (x - (1000:Int)) - IntKind.wrap IntKind.i64 (y - (1000:Int))))) (bc (decide (IntKind.wrap IntKind.i64 (IntKind.wrap IntKind.i64 (x - (1000:Int)) - IntKind.wrap IntKind.i64 (y - (1000:Int)))≤(1:Int))) (bc (decide ((1000:Int) < x)) (.done (EV.v (Value.bool (!decide ((1000:Int) < y)))) [] 0) (.done (EV.v (Value.bool true)) [] 0)) (.done (EV.v (Value.bool false)) [] 0)) (.done (EV.v (Value.bool false)) [] 0)) (bc (decide ((-1:Int)≤IntKind.wrap IntKind.i64 (IntKind.wrap IntKind.i64 (x - (1000:Int)) - if IntKind.wrap IntKind.i64 ((0:Int) - y) > y then IntKind.wrap IntKind.i64 ((0:Int) - y) else y))) (bc (decide (IntKind.wrap IntKind.i64 (IntKind.wrap IntKind.i64 (x - (1000:Int)) - if IntKind.wrap IntKind.i64 ((0:Int) - y) > y then IntKind.wrap IntKind.i64 ((0:Int) - y) else y)≤(1:Int))) (bc (decide ((1000:Int) < x)) (.done (EV.v (Value.bool (!decide ((1000:Int) < y)))) [] 0) (.done (EV.v (Value.bool true)) [] 0)) (.done (EV.v (Value.bool false)) [] 0)) (.done (EV.v (Value.bool false)) [] 0))) (bc (decide ((1000:Int) < y)) (bc (decide ((-1:Int)≤IntKind.wrap IntKind.i64 ((if IntKind.wrap IntKind.i64 ((0:Int) - x) > x then IntKind.wrap IntKind.i64 ((0:Int) - x) else x) - IntKind.wrap IntKind.i64 (y - (1000:Int))))) (bc (decide (IntKind.wrap IntKind.i64 ((if IntKind.wrap IntKind.i64 ((0:Int) - x) > x then IntKind.wrap IntKind.i64 ((0:Int) - x) else x) - IntKind.wrap IntKind.i64 (y - (1000:Int)))≤(1:Int))) (bc (decide ((1000:Int) < x)) (.done (EV.v (Value.bool (!decide ((1000:Int) < y)))) [] 0) (.done (EV.v (Value.bool true)) [] 0)) (.done (EV.v (Value.bool false)) [] 0)) (.done (EV.v (Value.bool false)) [] 0)) (bc (decide ((-1:Int)≤IntKind.wrap IntKind.i64 ((if IntKind.wrap IntKind.i64 ((0:Int) - x) > x then IntKind.wrap IntKind.i64 ((0:Int) - x) else x) - if IntKind.wrap IntKind.i64 ((0:Int) - y) > y then IntKind.wrap IntKind.i64 ((0:Int) - y) else y))) (bc (decide (IntKind.wrap IntKind.i64 ((if IntKind.wrap IntKind.i64 ((0:Int) - x) > x then IntKind.wrap IntKind.i64 ((0:Int) - x) else x) - if IntKind.wrap IntKind.i64 ((0:Int) - y) > y then IntKind.wrap IntKind.i64 ((0:Int) - y) else y)≤(1:Int))) (bc (decide ((1000:Int) < x)) (.done (EV.v (Value.bool (!decide ((1000:Int) < y)))) [] 0) (.done (EV.v (Value.bool true)) [] 0)) (.done (EV.v (Value.bool false)) [] 0)) (.done (EV.v (Value.bool false)) [] 0)))):=by kernel_rfl
theorem sz_num {x:Int} (hx:-1000000≤x∧x≤1000000) (h:¬ 1000 < x):(if IntKind.wrap IntKind.i64 (0 - x) > x then IntKind.wrap IntKind.i64 (0 - x) else x)=numL x:=by
 rw [wrap_in (0 - x) (by omega) (by omega)];unfold numL;rw [if_neg h];split <;> split <;> omega
theorem pn_num {x:Int} (hx:-1000000≤x∧x≤1000000) (h:1000 < x):IntKind.wrap IntKind.i64 (x - 1000)=numL x:=by
 rw [wrap_in (x - 1000) (by omega) (by omega)];unfold numL;rw [if_pos h]
theorem num_b {x:Int} (hx:-1000000≤x∧x≤1000000):-1000000≤numL x∧numL x≤1000000:=by
 unfold numL;split
 ·omega
 ·split <;> omega
theorem ends {x y:Int} (hx:-1000000≤x∧x≤1000000) (hy:-1000000≤y∧y≤1000000):EndZ 56 .nil false (st0 56 [iv x,iv y]) (bv (tchL x y)) [] 0:=by
 have h:=in_t x y;have b1:=num_b hx;have b2:=num_b hy;have w:IntKind.wrap IntKind.i64 (numL x - numL y)=numL x - numL y:=wrap_in _ (by omega) (by omega);have key:RUN (st0 56 [iv x,iv y]) = .done (bv (tchL x y)) [] 0:=by
  rw [h];unfold tchL isPn
  by_cases c1:1000 < x
  ·by_cases c2:1000 < y
   ·rw [dt c1,dt c2,pn_num hx c1,pn_num hy c2,w];cases decide (-1≤numL x - numL y) <;> cases decide (numL x - numL y≤1) <;> rfl
   ·rw [dt c1,df c2,pn_num hx c1,sz_num hy c2,w];cases decide (-1≤numL x - numL y) <;> cases decide (numL x - numL y≤1) <;> rfl
  ·by_cases c2:1000 < y
   ·rw [df c1,dt c2,sz_num hx c1,pn_num hy c2,w];cases decide (-1≤numL x - numL y) <;> cases decide (numL x - numL y≤1) <;> rfl
   ·rw [df c1,df c2,sz_num hx c1,sz_num hy c2,w];cases decide (-1≤numL x - numL y) <;> cases decide (numL x - numL y≤1) <;> rfl
 exact .done key
end RTch
noncomputable def spTch:ZCT:=fun ax=>match ax with
 | [.v (.int .i64 x),.v (.int .i64 y)]=>some ⟨decide ((-1000000≤x∧x≤1000000)∧(-1000000≤y∧y≤1000000)),bv (tchL x y),[],0⟩
 | _=>none
theorem spTch_ok:ZCtOk Try.prog 56 spTch:=fun γ w us ax r hs hc hax hN hfz=>by
 unfold spTch at hs;split at hs
 case h_2=>cases hs
 rename_i x y;obtain ⟨rfl⟩:=Option.some.inj hs;have hc_0:decide ((-1000000≤x∧x≤1000000)∧(-1000000≤y∧y≤1000000))=true:=hc;have hc:=of_decide_eq_true hc_0;exact EndZ.calls (RTch.ends hc.1 hc.2) (.nil _) (by kernel_rfl) hax hN hfz
namespace RIsP
noncomputable def RUN (s:ES):ZF:=RZ 60 .nil (fun _=>false) [] [] false s
theorem in_t (x:Int):RUN (st0 60 [iv x])=(.done (EV.v (Value.bool (decide ((1000:Int) < x)))) [] 0):=by kernel_rfl
end RIsP
noncomputable def spIsP:ZCT:=fun ax=>match ax with
 | [.v (.int .i64 x)]=>some ⟨decide (True),bv (isPn x),[],0⟩
 | _=>none
theorem spIsP_ok:ZCtOk Try.prog 60 spIsP:=fun γ w us ax r hs hc hax hN hfz=>by
 unfold spIsP at hs;split at hs
 case h_2=>cases hs
 rename_i x;obtain ⟨rfl⟩:=Option.some.inj hs;have hc_0:decide (True)=true:=hc;have hc:=of_decide_eq_true hc_0;exact EndZ.calls (.done (RIsP.in_t x)) (.nil _) (by kernel_rfl) hax hN hfz
namespace RAll
end RAll
namespace RHas
end RHas
namespace RPns
end RPns
end Go.Proofs.Ytfffbioafhppiaa.Ev
namespace Go.Proofs.Ytfffbioafhppiaa.Ev
variable {l:List Int} {out:List Nat}
theorem ofNs_get {L:List Nat} {j:Nat} (h:j < L.length):(ofNs L).getD j 0=((L.getD j 0:Nat):Int):=by
 unfold ofNs;rw [List.getD_eq_getElem?_getD,List.getD_eq_getElem?_getD,List.getElem?_map,List.getElem?_eq_getElem h];rfl
def AscI (n:Nat) (out:List Nat):Prop:=out.Pairwise (· < ·)∧∀ z,z ∈ out→z < n
theorem outS_asc {i n:Nat} (h:AscI n out) (hlt:∀ z,z ∈ out→z < i) (hi:i < n):AscI n (outS l out i)∧(∀ z,z ∈ outS l out i→z < i+1)∧(outS l out i).length≤out.length+1:=by
 unfold outS;split
 ·refine ⟨⟨h.1.sublist List.filter_sublist,fun z hz=>h.2 z (List.mem_filter.1 hz).1⟩,fun z hz=>?_,?_⟩
  ·have:=hlt z (List.mem_filter.1 hz).1;omega
  ·exact Nat.le_trans (List.length_filter_le _ _) (Nat.le_succ _)
 ·refine ⟨⟨List.pairwise_append.2 ⟨h.1,List.pairwise_singleton _ _,fun a ha b hb=>?_⟩,fun z hz=>?_⟩,fun z hz=>?_,by simp⟩
  ·have:b=i:=by simpa using hb
   rw [this];exact hlt a ha
  ·rcases List.mem_append.1 hz with hz | hz
   ·exact h.2 z hz
   ·have:z=i:=by simpa using hz
    omega
  ·rcases List.mem_append.1 hz with hz | hz
   ·have:=hlt z hz;omega
   ·have:z=i:=by simpa using hz
    omega
theorem tigL_asc {n:Nat}:∀ (idx:List Nat) (out:List Nat),AscI n out→AscI n idx→(∀ z w,z ∈ out→w ∈ idx→z < w)→AscI n (idx.foldl (outS l) out)∧(idx.foldl (outS l) out).length≤out.length+idx.length
 | [],out,h,_,_=>⟨h,Nat.le_refl _⟩
 | i :: idx,out,h,hi,hz=>by
  obtain ⟨a1,a2⟩:=List.pairwise_cons.1 hi.1;obtain ⟨b1,b2,b3⟩:=outS_asc (l:=l) (i:=i) h (fun z hz2=>hz z i hz2 List.mem_cons_self) (hi.2 i List.mem_cons_self);obtain ⟨c1,c2⟩:=tigL_asc idx (outS l out i) b1 ⟨a2,fun z hz=>hi.2 z (List.mem_cons_of_mem _ hz)⟩ fun z w hz1 hw=>by
   have:=b2 z hz1;have:=a1 w hw;omega
  refine ⟨c1,?_⟩;rw [List.length_cons];show ((idx.foldl (outS l) (outS l out i))).length≤_;omega
theorem range_asc (n:Nat):AscI n (List.range n):=⟨List.pairwise_lt_range,fun z hz=>List.mem_range.1 hz⟩
theorem AscI.sub {n:Nat} {out:List Nat} (h:AscI n out) (p:Nat→Bool):AscI n (out.filter p):=⟨h.1.sublist List.filter_sublist,fun z hz=>h.2 z (List.mem_filter.1 hz).1⟩
theorem tig_asc {n:Nat} {idx:List Nat} (h:AscI n idx):AscI n (tigL l idx)∧(tigL l idx).length≤idx.length:=by
 obtain ⟨a,b⟩:=tigL_asc (l:=l) (n:=n) idx [] ⟨.nil,fun z hz=>by cases hz⟩ h fun z w hz=>by cases hz
 refine ⟨a,?_⟩;rw [List.length_nil,Nat.zero_add] at b;exact b
theorem asc_len:∀ {n:Nat} {out:List Nat},AscI n out→out.length≤n:=by
 intro n out h;have key:∀ (L:List Nat) (a:Nat),L.Pairwise (· < ·)→(∀ z,z ∈ L→a≤z∧z < n)→a+L.length≤n∨L=[]:=by
  intro L
  induction L with
  | nil=>intro a _ _;exact .inr rfl
  | cons y L ih=>
   intro a hp hz;obtain ⟨p1,p2⟩:=List.pairwise_cons.1 hp;obtain ⟨q1,q2⟩:=hz y List.mem_cons_self;left;rcases ih (y+1) p2 (fun z hz2=>⟨p1 z hz2,(hz z (List.mem_cons_of_mem _ hz2)).2⟩) with h | h
   ·rw [List.length_cons];omega
   ·rw [h];simp;omega
 rcases key out 0 h.1 (fun z hz=>⟨Nat.zero_le _,h.2 z hz⟩) with h | h
 ·omega
 ·rw [h];exact Nat.zero_le _
end Go.Proofs.Ytfffbioafhppiaa.Ev
namespace Go.Proofs.Ytfffbioafhppiaa.Ev
open Go.Proofs
noncomputable def spNoT:ZCT:=fun _=>none
theorem spNoT_ok:ZCtOk Try.prog 0 spNoT:=fun _ _ _ _ _ h=>by cases h
namespace RTgn
end RTgn
namespace RWou
end RWou
end Go.Proofs.Ytfffbioafhppiaa.Ev
namespace Go.Proofs.Ytfffbioafhppiaa.Ev
variable {l:List Int}
theorem asc_ext:∀ {A B:List Nat},A.Pairwise (· < ·)→B.Pairwise (· < ·)→(∀ z,z ∈ A↔z ∈ B)→A=B
 | [],[],_,_,_=>rfl
 | [],b :: B,_,_,h=>absurd ((h b).2 List.mem_cons_self) (by simp)
 | a :: A,[],_,_,h=>absurd ((h a).1 List.mem_cons_self) (by simp)
 | a :: A,b :: B,ha,hb,h=>by
  obtain ⟨a1,a2⟩:=List.pairwise_cons.1 ha;obtain ⟨b1,b2⟩:=List.pairwise_cons.1 hb;have e:a=b:=by
   rcases List.mem_cons.1 ((h a).1 List.mem_cons_self) with q | q
   ·exact q
   ·have:=b1 a q;rcases List.mem_cons.1 ((h b).2 List.mem_cons_self) with r | r
    ·exact r.symm
    ·have:=a1 b r;omega
  subst e;rw [asc_ext a2 b2 fun z=>?_];have hz:=h z;rw [List.mem_cons,List.mem_cons] at hz;constructor
  ·intro q;rcases hz.1 (.inr q) with r | r
   ·have:=a1 z q;omega
   ·exact r
  ·intro q;rcases hz.2 (.inr q) with r | r
   ·have:=b1 z q;omega
   ·exact r
theorem idx_mrk {n:Nat} {T:List Nat} (h:AscI n T):idxB (mrk n T)=T:=by
 unfold idxB;rw [mrk_len];refine asc_ext ((range_asc n).sub _).1 h.1 fun z=>?_;rw [List.mem_filter,List.mem_range];constructor
 ·rintro ⟨h1,h2⟩
  rw [mrk_get h1] at h2;exact of_decide_eq_true h2
 ·intro q;have h1:=h.2 z q;refine ⟨h1,?_⟩;rw [mrk_get h1];exact decide_eq_true q

noncomputable def tigT (l:List Int):List Nat:=tigL l (List.range l.length)
theorem tigT_asc (l:List Int):AscI l.length (tigT l):=(tig_asc (range_asc l.length)).1
theorem tgA_idx (l:List Int):idxB (tgA l)=tigT l:=idx_mrk (tigT_asc l)

def toN (d:List Int):List Nat:=d.map Int.toNat
theorem toN_ofNs (L:List Nat):toN (ofNs L)=L:=by
 unfold toN ofNs;rw [List.map_map];exact (List.map_congr_left fun x _=>rfl).trans (List.map_id L)
end Go.Proofs.Ytfffbioafhppiaa.Ev
namespace Go.Proofs.Ytfffbioafhppiaa.Ev
theorem tch_symm (x y:Int):tchL x y=tchL y x:=by
 unfold tchL;rw [Bool.eq_iff_iff];simp only [Bool.and_eq_true,decide_eq_true_eq,Bool.not_eq_true'];rw [Bool.and_comm (isPn y)];constructor
 ·rintro ⟨⟨a,b⟩,c⟩;exact ⟨⟨by omega,by omega⟩,c⟩
 ·rintro ⟨⟨a,b⟩,c⟩;exact ⟨⟨by omega,by omega⟩,c⟩
theorem tch_neg {x:Int} (h:isPn x=false) (h2:isPn (-x)=false) (y:Int):tchL y (-x)=tchL y x:=by
 unfold tchL;rw [num_neg h h2,h,h2]
theorem tch_self {x:Int} (h:isPn x=false):tchL x x=true:=by
 unfold tchL;rw [h];simp

def rmL (x:Int):List Int→Option (List Int)
 | []=>none
 | y :: q=>if tchL y x=true then (if y = -x∧isPn x=false∧isPn y=false then some q else none) else (rmL x q).map (y :: ·)
def stpL (q:List Int) (x:Int):List Int:=(rmL x q).getD (x :: q)
def redL (q w:List Int):List Int:=w.foldl stpL q

inductive Tq:List Int→List Int→Prop
 | refl (q:List Int):Tq q q
 | swap (u v:Int) (q:List Int) (h:tchL u v=false):Tq (u :: v :: q) (v :: u :: q)
 | cons (y:Int) {q q':List Int} (h:Tq q q'):Tq (y :: q) (y :: q')
 | trans {a b c:List Int} (h:Tq a b) (k:Tq b c):Tq a c
theorem Tq.symm {a b:List Int} (h:Tq a b):Tq b a:=by
 induction h with
 | refl q=>exact .refl q
 | swap u v q h=>exact .swap v u q (by rw [tch_symm];exact h)
 | cons y _ ih=>exact .cons y ih
 | trans _ _ h k=>exact k.trans h
theorem Tq.len {a b:List Int} (h:Tq a b):a.length=b.length:=by
 induction h with
 | refl q=>rfl
 | swap u v q h=>rfl
 | cons y _ ih=>rw [List.length_cons,List.length_cons,ih]
 | trans _ _ h k=>rw [h,k]
inductive OT:Option (List Int)→Option (List Int)→Prop
 | none:OT none none
 | some {a b:List Int} (h:Tq a b):OT (some a) (some b)
theorem OT.map {a b:Option (List Int)} (h:OT a b) (y:Int):OT (a.map (y :: ·)) (b.map (y :: ·)):=by
 cases h with
 | none=>exact .none
 | some h=>exact .some (.cons y h)
theorem OT.trans {a b c:Option (List Int)} (h:OT a b) (k:OT b c):OT a c:=by
 cases h with
 | none=>exact k
 | some h=>cases k with
  | some k=>exact .some (h.trans k)
theorem OT.refl:∀ a:Option (List Int),OT a a
 | .none=>.none
 | .some a=>.some (.refl a)
theorem rm_t {x y:Int} {q:List Int} (h:tchL y x=true):rmL x (y :: q)=if y = -x∧isPn x=false∧isPn y=false then some q else none:=by
 show (if tchL y x=true then _ else _)=_
 rw [if_pos h]
theorem rm_f {x y:Int} {q:List Int} (h:tchL y x=false):rmL x (y :: q)=(rmL x q).map (y :: ·):=by
 show (if tchL y x=true then _ else _)=_
 rw [if_neg (by rw [h];simp)]
theorem rm_hit {x:Int} {q:List Int} (h1:isPn x=false) (h2:isPn (-x)=false):rmL x (-x :: q)=some q:=by
 have:tchL (-x) x=true:=by rw [tch_symm,tch_neg h1 h2];exact tch_self h1
 rw [rm_t this,if_pos ⟨rfl,h1,h2⟩]
theorem rm_swap {u v x:Int} (h:tchL u v=false) (q:List Int):OT (rmL x (u :: v :: q)) (rmL x (v :: u :: q)):=by
 cases hu:tchL u x with
 | true=>
  cases hv:tchL v x with
  | true=>
   have no:∀ {a b:Int},tchL a b=false→tchL b x=true→¬ (a = -x∧isPn x=false∧isPn a=false):=by
    rintro a b h1 h2 ⟨rfl,h3,h4⟩
    rw [tch_symm,tch_neg h3 h4,h2] at h1;cases h1
   rw [rm_t hu,rm_t hv,if_neg (no h hv),if_neg (no (by rw [tch_symm];exact h) hu)];exact .none
  | false=>
   rw [rm_t hu,rm_f hv,rm_t hu];split
   ·exact .some (.refl _)
   ·exact .none
 | false=>
  cases hv:tchL v x with
  | true=>
   rw [rm_f hu,rm_t hv,rm_t hv];split
   ·exact .some (.refl _)
   ·exact .none
  | false=>
   rw [rm_f hu,rm_f hv,rm_f hv,rm_f hu]
   cases rmL x q with
   | none=>exact .none
   | some a=>exact .some (.swap u v a h)
theorem rm_tq {a b:List Int} (h:Tq a b) (x:Int):OT (rmL x a) (rmL x b):=by
 induction h with
 | refl q=>exact .refl _
 | swap u v q h=>exact rm_swap h q
 | @cons y q q' h ih=>
  cases hy:tchL y x with
  | true=>
   rw [rm_t hy,rm_t hy];split
   ·exact .some h
   ·exact .none
  | false=>
   rw [rm_f hy,rm_f hy];exact ih.map y
 | trans _ _ h k=>exact h.trans k
theorem stp_tq {a b:List Int} (h:Tq a b) (x:Int):Tq (stpL a x) (stpL b x):=by
 have:=rm_tq h x;unfold stpL
 cases ha:rmL x a with
 | none=>
  rw [ha] at this
  cases hb:rmL x b with
  | none=>exact .cons x h
  | some c=>rw [hb] at this;cases this
 | some c=>
  rw [ha] at this
  cases hb:rmL x b with
  | none=>rw [hb] at this;cases this
  | some d=>rw [hb] at this;cases this;assumption
theorem red_tq:∀ (w:List Int) {a b:List Int},Tq a b→Tq (redL a w) (redL b w)
 | [],_,_,h=>h
 | x :: w,_,_,h=>red_tq w (stp_tq h x)
theorem rm_cm {x y:Int} (h:tchL x y=false):∀ q:List Int,(∀ q1 q2,rmL x q=some q1→rmL y q=some q2→∃ q3,rmL y q1=some q3∧rmL x q2=some q3)∧(∀ q1,rmL x q=some q1→rmL y q=none→rmL y q1=none)
 | []=>⟨fun q1 q2 h1 _=>(by cases h1),fun q1 h1 _=>(by cases h1)⟩
 | z :: q=>by
  obtain ⟨i1,i2⟩:=rm_cm h q
  cases hx:tchL z x with
  | true=>
   rw [rm_t hx]
   by_cases c:z = -x∧isPn x=false∧isPn z=false
   ·rw [if_pos c];obtain ⟨rfl,c1,c2⟩:=c;have hy:tchL (-x) y=false:=by rw [tch_symm,tch_neg c1 c2,tch_symm];exact h
    rw [rm_f hy];refine ⟨fun q1 q2 h1 h2=>?_,fun q1 h1 h2=>?_⟩
    ·obtain rfl:=Option.some.inj h1
     cases hq:rmL y q with
     | none=>rw [hq] at h2;cases h2
     | some a=>
      rw [hq] at h2;obtain rfl:=Option.some.inj h2;exact ⟨a,rfl,rm_hit c1 c2⟩
    ·obtain rfl:=Option.some.inj h1
     cases hq:rmL y q with
     | none=>rfl
     | some a=>rw [hq] at h2;cases h2
   ·rw [if_neg c];exact ⟨fun q1 q2 h1 _=>(by cases h1),fun q1 h1 _=>(by cases h1)⟩
  | false=>
   rw [rm_f hx]
   cases hq:rmL x q with
   | none=>exact ⟨fun q1 q2 h1 _=>(by cases h1),fun q1 h1 _=>(by cases h1)⟩
   | some a=>
    cases hy:tchL z y with
    | true=>
     rw [rm_t hy];refine ⟨fun q1 q2 h1 h2=>?_,fun q1 h1 h2=>?_⟩
     ·obtain rfl:=Option.some.inj h1
      by_cases c:z = -y∧isPn y=false∧isPn z=false
      ·rw [if_pos c] at h2;obtain rfl:=Option.some.inj h2;exact ⟨a,by rw [rm_t hy,if_pos c],hq⟩
      ·rw [if_neg c] at h2;cases h2
     ·obtain rfl:=Option.some.inj h1;show rmL y (z :: a)=none;rw [rm_t hy]
      by_cases c:z = -y∧isPn y=false∧isPn z=false
      ·rw [if_pos c] at h2;cases h2
      ·rw [if_neg c]
    | false=>
     rw [rm_f hy];refine ⟨fun q1 q2 h1 h2=>?_,fun q1 h1 h2=>?_⟩
     ·obtain rfl:=Option.some.inj h1
      cases hb:rmL y q with
      | none=>rw [hb] at h2;cases h2
      | some b=>
       rw [hb] at h2;obtain rfl:=Option.some.inj h2;obtain ⟨q3,e1,e2⟩:=i1 a b hq hb;refine ⟨z :: q3,?_,?_⟩
       ·show rmL y (z :: a)=_;rw [rm_f hy,e1];rfl
       ·show rmL x (z :: b)=_;rw [rm_f hx,e2];rfl
     ·obtain rfl:=Option.some.inj h1;show rmL y (z :: a)=none
      cases hb:rmL y q with
      | none=>rw [rm_f hy,i2 a hq hb];rfl
      | some b=>rw [hb] at h2;cases h2
theorem stp_some {x:Int} {q a:List Int} (h:rmL x q=some a):stpL q x=a:=by unfold stpL;rw [h];rfl
theorem stp_none {x:Int} {q:List Int} (h:rmL x q=none):stpL q x=x :: q:=by unfold stpL;rw [h];rfl
theorem stp_cm {x y:Int} (h:tchL x y=false) (q:List Int):Tq (stpL (stpL q x) y) (stpL (stpL q y) x):=by
 have h':tchL y x=false:=by rw [tch_symm];exact h
 cases hx:rmL x q with
 | none=>
  cases hy:rmL y q with
  | none=>
   have e1:rmL y (x :: q)=none:=by rw [rm_f h,hy];rfl
   have e2:rmL x (y :: q)=none:=by rw [rm_f h',hx];rfl
   rw [stp_none hx,stp_none hy,stp_none e1,stp_none e2];exact .swap y x q h'
  | some b=>
   have e1:rmL y (x :: q)=some (x :: b):=by rw [rm_f h,hy];rfl
   have e2:=(rm_cm h' q).2 b hy hx;rw [stp_none hx,stp_some hy,stp_some e1,stp_none e2];exact .refl _
 | some a=>
  cases hy:rmL y q with
  | none=>
   have e1:=(rm_cm h q).2 a hx hy;have e2:rmL x (y :: q)=some (y :: a):=by rw [rm_f h',hx];rfl
   rw [stp_some hx,stp_none hy,stp_none e1,stp_some e2];exact .refl _
  | some b=>
   obtain ⟨c,e1,e2⟩:=(rm_cm h q).1 a b hx hy;rw [stp_some hx,stp_some hy,stp_some e1,stp_some e2];exact .refl _

def Rdc:List Int→Prop
 | []=>True
 | x :: q=>rmL x q=none∧Rdc q
theorem rm_n {a b:List Int} {x:Int} (h:Tq a b) (k:rmL x a=none):rmL x b=none:=by
 have:=rm_tq h x;rw [k] at this
 cases hb:rmL x b with
 | none=>rfl
 | some c=>rw [hb] at this;cases this
theorem map_n {a:Option (List Int)} {y:Int} (h:a.map (y :: ·)=none):a=none:=by
 cases a with
 | none=>rfl
 | some b=>cases h
theorem rdc_tq {a b:List Int} (h:Tq a b):Rdc a→Rdc b:=by
 induction h with
 | refl q=>exact id
 | swap u v q h=>
  rintro ⟨h1,h2,h3⟩
  have h':tchL v u=false:=by rw [tch_symm];exact h
  rw [rm_f h'] at h1;exact ⟨by rw [rm_f h,h2];rfl,map_n h1,h3⟩
 | cons y h ih=>exact fun ⟨h1,h2⟩=>⟨rm_n h h1,ih h2⟩
 | trans _ _ h k=>exact fun q=>k (h q)
theorem rm_pn {x:Int}:∀ {q a:List Int},rmL x q=some a→isPn x=false∧isPn (-x)=false
 | [],_,h=>by cases h
 | y :: q,a,h=>by
  cases hy:tchL y x with
  | true=>
   rw [rm_t hy] at h
   by_cases c:y = -x∧isPn x=false∧isPn y=false
   ·obtain ⟨rfl,c1,c2⟩:=c;exact ⟨c1,c2⟩
   ·rw [if_neg c] at h;cases h
  | false=>
   rw [rm_f hy] at h
   cases hq:rmL x q with
   | none=>rw [hq] at h;cases h
   | some b=>exact rm_pn hq
theorem rm_head {x:Int}:∀ {q a:List Int},rmL x q=some a→Tq q (-x :: a)
 | [],_,h=>by cases h
 | y :: q,a,h=>by
  obtain ⟨p1,p2⟩:=rm_pn h
  cases hy:tchL y x with
  | true=>
   rw [rm_t hy] at h
   by_cases c:y = -x∧isPn x=false∧isPn y=false
   ·rw [if_pos c] at h;obtain rfl:=Option.some.inj h;rw [c.1];exact .refl _
   ·rw [if_neg c] at h;cases h
  | false=>
   rw [rm_f hy] at h
   cases hq:rmL x q with
   | none=>rw [hq] at h;cases h
   | some b=>
    rw [hq] at h;obtain rfl:=Option.some.inj h;exact (Tq.cons y (rm_head hq)).trans (.swap y (-x) b (by rw [tch_neg p1 p2];exact hy))
theorem stp_inv {x:Int} {q:List Int} (h:Rdc q) (h1:isPn x=false) (h2:isPn (-x)=false):Tq (stpL (stpL q x) (-x)) q:=by
 cases hx:rmL x q with
 | none=>
  have e:rmL (-x) (x :: q)=some q:=by
   have:=rm_hit (x:=-x) (q:=q) h2 (by rw [Int.neg_neg];exact h1)
   rwa [Int.neg_neg] at this
  rw [stp_none hx,stp_some e];exact .refl _
 | some a=>
  have e:=rm_head hx;rw [stp_some hx,stp_none (rdc_tq e h).1];exact e.symm
theorem stp_rdc {x:Int} {q:List Int} (h:Rdc q):Rdc (stpL q x):=by
 cases hx:rmL x q with
 | none=>rw [stp_none hx];exact ⟨hx,h⟩
 | some a=>rw [stp_some hx];exact (rdc_tq (rm_head hx) h).2
theorem red_rdc:∀ (w:List Int) {q:List Int},Rdc q→Rdc (redL q w)
 | [],_,h=>h
 | x :: w,_,h=>red_rdc w (stp_rdc h)
theorem red_app (q a b:List Int):redL q (a ++ b)=redL (redL q a) b:=List.foldl_append ..
theorem red_cm {x:Int}:∀ (M q:List Int),(∀ y,y ∈ M→tchL y x=false)→Tq (stpL (redL q M) x) (redL (stpL q x) M)
 | [],q,_=>.refl _
 | m :: M,q,h=>(red_cm M (stpL q m) fun y hy=>h y (List.mem_cons_of_mem _ hy)).trans (red_tq M (stp_cm (h m List.mem_cons_self) q))

theorem red_pair {x:Int} {q M C:List Int} (hq:Rdc q) (h1:isPn x=false) (h2:isPn (-x)=false) (hM:∀ y,y ∈ M→tchL y x=false):Tq (redL q (x :: M ++ -x :: C)) (redL q (M ++ C)):=by
 show Tq (redL q ((x :: M) ++ (-x :: C))) _;rw [red_app,red_app];show Tq (redL (stpL (redL (stpL q x) M) (-x)) C) _;refine red_tq C ?_;refine (red_cm M (stpL q x) fun y hy=>by rw [tch_neg h1 h2];exact hM y hy).trans ?_;exact red_tq M (stp_inv hq h1 h2)
end Go.Proofs.Ytfffbioafhppiaa.Ev
namespace Go.Proofs.Ytfffbioafhppiaa.Ev
variable {l:List Int}

def ltsL (l:List Int) (L:List Nat):List Int:=L.map fun j=>l.getD j 0
theorem lts_app (l:List Int) (A B:List Nat):ltsL l (A ++ B)=ltsL l A ++ ltsL l B:=List.map_append
theorem lts_one (l:List Int) (i:Nat):ltsL l [i]=[l.getD i 0]:=rfl
theorem lts_cons (l:List Int) (i:Nat) (A:List Nat):ltsL l (i :: A)=l.getD i 0 :: ltsL l A:=rfl
theorem lts_len (l:List Int) (A:List Nat):(ltsL l A).length=A.length:=List.length_map ..
theorem rm_no {x:Int}:∀ {q:List Int},(∀ y,y ∈ q→tchL y x=false)→rmL x q=none
 | [],_=>rfl
 | y :: q,h=>by
  rw [rm_f (h y List.mem_cons_self),rm_no fun z hz=>h z (List.mem_cons_of_mem _ hz)];rfl
theorem rm_ov {x:Int} {q:List Int}:∀ {Y:List Int},(∀ y,y ∈ Y→tchL y x=false)→rmL x (Y ++ q)=(rmL x q).map (Y ++ ·)
 | [],_=>by cases h:rmL x q <;> (show rmL x q=_;rw [h];rfl)
 | y :: Y,h=>by
  show rmL x (y :: (Y ++ q))=_;rw [rm_f (h y List.mem_cons_self),rm_ov fun z hz=>h z (List.mem_cons_of_mem _ hz)];cases rmL x q <;> rfl

theorem out_cases {out:List Nat} {i:Nat} (hp:out.Pairwise (· < ·)) (hs:-1000≤l.getD i 0):(outS l out i=out ++ [i]∧rmL (l.getD i 0) (ltsL l out).reverse=none)∨∃ X e Y,out=X ++ e :: Y∧outS l out i=X ++ Y∧isPn (l.getD i 0)=false∧isPn (-(l.getD i 0))=false∧l.getD e 0 = -(l.getD i 0)∧∀ y,y ∈ Y→tchL (l.getD y 0) (l.getD i 0)=false:=by
 obtain ⟨t1,t2⟩:=tpO_top (l:=l) hp (l.getD i 0);rcases t2 with t2 | ⟨e,t2,he,ht⟩
 ·refine .inl ⟨?_,rm_no fun y hy=>?_⟩
  ·unfold outS;rw [if_neg (by rintro ⟨h,_⟩;omega)]
  ·obtain ⟨j,hj,rfl⟩:=List.mem_map.1 (List.mem_reverse.1 hy)
   cases hq:tchL (l.getD j 0) (l.getD i 0) with
   | false=>rfl
   | true=>have:=t1 j ⟨hj,hq⟩;omega
 ·obtain ⟨X,Y,rfl⟩:=List.append_of_mem he;obtain ⟨p1,p2,p3⟩:=List.pairwise_append.1 hp;have hY:∀ y,y ∈ Y→tchL (l.getD y 0) (l.getD i 0)=false:=fun y hy=>by
   cases hq:tchL (l.getD y 0) (l.getD i 0) with
   | false=>rfl
   | true=>
    have h1:=t1 y ⟨List.mem_append_right _ (List.mem_cons_of_mem _ hy),hq⟩;have h2:=(List.pairwise_cons.1 p2).1 y hy;omega
  have hn:(tpO l (X ++ e :: Y) (l.getD i 0)).toNat=e:=by rw [t2];rfl
  have hpn:isPn (l.getD i 0)=false→isPn (-(l.getD i 0))=false:=fun _=>decide_eq_false (by omega)
  by_cases c:0≤tpO l (X ++ e :: Y) (l.getD i 0)∧isPn (l.getD i 0)=false∧l.getD (tpO l (X ++ e :: Y) (l.getD i 0)).toNat 0 = -(l.getD i 0)
  ·refine .inr ⟨X,e,Y,rfl,?_,c.2.1,hpn c.2.1,by rw [← hn];exact c.2.2,hY⟩;unfold outS;rw [if_pos c,hn,List.filter_append,List.filter_cons_of_neg (by simp)];rw [List.filter_eq_self.2 fun y hy=>decide_eq_true (by have:=p3 y hy e List.mem_cons_self;omega),List.filter_eq_self.2 fun y hy=>decide_eq_true (by have:=(List.pairwise_cons.1 p2).1 y hy;omega)]
  ·refine .inl ⟨by unfold outS;rw [if_neg c],?_⟩;have e1:(ltsL l (X ++ e :: Y)).reverse=(ltsL l Y).reverse ++ l.getD e 0 :: (ltsL l X).reverse:=by
    rw [lts_app,lts_cons,List.reverse_append,List.reverse_cons,List.append_assoc];rfl
   rw [e1,rm_ov fun y hy=>by
    obtain ⟨j,hj,rfl⟩:=List.mem_map.1 (List.mem_reverse.1 hy);exact hY j hj,rm_t ht,if_neg]
   ·rfl
   ·rintro ⟨q1,q2,_⟩
    exact c ⟨by omega,q2,by rw [hn];exact q1⟩
theorem stk_out {out:List Nat} {i:Nat} (hp:out.Pairwise (· < ·)) (hs:-1000≤l.getD i 0):(ltsL l (outS l out i)).reverse=stpL (ltsL l out).reverse (l.getD i 0):=by
 rcases out_cases hp hs with ⟨h1,h2⟩ | ⟨X,e,Y,rfl,h1,h2,h3,h4,h5⟩
 ·rw [h1,stp_none h2,lts_app,List.reverse_append];rfl
 ·have e1:(ltsL l (X ++ e :: Y)).reverse=(ltsL l Y).reverse ++ l.getD e 0 :: (ltsL l X).reverse:=by
   rw [lts_app,lts_cons,List.reverse_append,List.reverse_cons,List.append_assoc];rfl
  have e2:rmL (l.getD i 0) (ltsL l (X ++ e :: Y)).reverse=some ((ltsL l Y).reverse ++ (ltsL l X).reverse):=by
   rw [e1,rm_ov fun y hy=>by
    obtain ⟨j,hj,rfl⟩:=List.mem_map.1 (List.mem_reverse.1 hy);exact h5 j hj,h4,rm_hit h2 h3]
   rfl
  rw [stp_some e2,h1,lts_app,List.reverse_append]
theorem asc_step {out L:List Nat} {i:Nat} (hp:(out ++ i :: L).Pairwise (· < ·)) (hs:-1000≤l.getD i 0):(outS l out i ++ L).Pairwise (· < ·):=by
 have hp0:=(List.pairwise_append.1 hp).1;rcases out_cases hp0 hs with ⟨h1,h2⟩ | ⟨X,e,Y,rfl,h1,h2,h3,h4,h5⟩
 ·rw [h1,List.append_assoc];exact hp
 ·rw [h1];refine hp.sublist (List.Sublist.append (List.Sublist.append (List.Sublist.refl _) (List.sublist_cons_self _ _)) (List.sublist_cons_self _ _))
theorem stk_fold (hs:∀ j,-1000≤l.getD j 0):∀ (L out:List Nat),(out ++ L).Pairwise (· < ·)→(ltsL l (L.foldl (outS l) out)).reverse=redL (ltsL l out).reverse (ltsL l L)
 | [],out,_=>rfl
 | i :: L,out,hp=>by
  show (ltsL l (L.foldl (outS l) (outS l out i))).reverse=redL (stpL (ltsL l out).reverse (l.getD i 0)) (ltsL l L);rw [stk_fold hs L _ (asc_step hp (hs i)),stk_out (List.pairwise_append.1 hp).1 (hs i)]
end Go.Proofs.Ytfffbioafhppiaa.Ev
namespace Go.Proofs.Ytfffbioafhppiaa.Ev

theorem Tq.mem {a b:List Int} (h:Tq a b) (z:Int):z ∈ a↔z ∈ b:=by
 induction h with
 | refl q=>exact Iff.rfl
 | swap u v q h=>simp only [List.mem_cons];constructor <;> (rintro (q | q | q) <;> simp [q])
 | cons y _ ih=>rw [List.mem_cons,List.mem_cons,ih]
 | trans _ _ i1 i2=>exact i1.trans i2

def LetB (w:List Int):Prop:=∀ z,z ∈ w → -1000≤z
theorem stp_mem {q:List Int} {x z:Int} (h:z ∈ stpL q x):z=x∨z ∈ q:=by
 cases hx:rmL x q with
 | none=>rw [stp_none hx] at h;exact List.mem_cons.1 h
 | some a=>
  rw [stp_some hx] at h;exact .inr (((rm_head hx).mem z).2 (List.mem_cons_of_mem _ h))
structure SeeF (D:Int→Prop) (f:Int→Int):Prop where
 pn:∀ x,D x→isPn (f x)=isPn x
 tch:∀ x y,D x→D y→tchL (f x) (f y)=tchL x y
 opp:∀ x y,D x→D y→isPn x=false→isPn y=false→(f y = -(f x)↔y = -x)
section
variable {D:Int→Prop} {f:Int→Int}
theorem SeeF.rm (H:SeeF D f) {x:Int} (hx:D x):∀ q:List Int,(∀ y,y ∈ q→D y)→rmL (f x) (q.map f)=(rmL x q).map (·.map f)
 | [],_=>rfl
 | y :: q,hq=>by
  have hy:=hq y List.mem_cons_self;have ih:=H.rm hx q fun z hz=>hq z (List.mem_cons_of_mem _ hz);rw [List.map_cons]
  cases c:tchL y x with
  | true=>
   rw [rm_t c,rm_t (by rw [H.tch y x hy hx];exact c)]
   by_cases d:y = -x∧isPn x=false∧isPn y=false
   ·rw [if_pos d,if_pos ⟨(H.opp x y hx hy d.2.1 d.2.2).2 d.1,by rw [H.pn x hx];exact d.2.1,by rw [H.pn y hy];exact d.2.2⟩];rfl
   ·rw [if_neg d,if_neg]
    ·rfl
    ·rintro ⟨q1,q2,q3⟩
     rw [H.pn x hx] at q2;rw [H.pn y hy] at q3;exact d ⟨(H.opp x y hx hy q2 q3).1 q1,q2,q3⟩
  | false=>
   rw [rm_f c,rm_f (by rw [H.tch y x hy hx];exact c),ih];cases rmL x q <;> rfl
theorem SeeF.stp (H:SeeF D f) {x:Int} (hx:D x) {q:List Int} (hq:∀ y,y ∈ q→D y):stpL (q.map f) (f x)=(stpL q x).map f:=by
 unfold stpL;rw [H.rm hx q hq];cases rmL x q <;> rfl
theorem SeeF.red (H:SeeF D f):∀ (w q:List Int),(∀ y,y ∈ q→D y)→(∀ y,y ∈ w→D y)→redL (q.map f) (w.map f)=(redL q w).map f
 | [],q,_,_=>rfl
 | x :: w,q,hq,hw=>by
  have hx:=hw x List.mem_cons_self;show redL (stpL (q.map f) (f x)) (w.map f)=_;rw [H.stp hx hq];exact H.red w (stpL q x) (fun z hz=>by
   rcases stp_mem hz with e | e
   ·rw [e];exact hx
   ·exact hq z e) fun z hz=>hw z (List.mem_cons_of_mem _ hz)
theorem SeeF.len (H:SeeF D f) {w:List Int} (hw:∀ y,y ∈ w→D y):(redL [] (w.map f)).length=(redL [] w).length:=by
 have:=H.red w [] (fun _ h=>(by cases h)) hw;rw [show redL [] (w.map f)=redL ([].map f) (w.map f) from rfl,this,List.length_map]
end
section
variable {l:List Int}
theorem lts_range (l:List Int):ltsL l (List.range l.length)=l:=by
 unfold ltsL;apply List.ext_getElem
 ·simp
 ·intro i h1 h2;rw [List.getElem_map,List.getElem_range,getD_at h2]

theorem tigT_w (hs:∀ j,-1000≤l.getD j 0):ltsL l (tigT l)=(redL [] l).reverse:=by
 have h1:=stk_fold hs (List.range l.length) [] (by rw [List.nil_append];exact (range_asc l.length).1);rw [lts_range] at h1;have h2:(ltsL l (tigT l)).reverse=redL [] l:=h1;rw [← h2,List.reverse_reverse]
end
end Go.Proofs.Ytfffbioafhppiaa.Ev
namespace Go.Proofs.Ytfffbioafhppiaa.Ev
open Go.Proofs

def LetD (t x:Int):Prop:=(1000 < x∧x < 1000+t)∨(0 < x∧x < t)∨(-t < x∧x < 0)
theorem bad_iff {t x:Int} (ht:2≤t∧t≤48):badH t x=false↔LetD t x:=by
 unfold badH LetD
 by_cases h1:x ≤ -t
 ·rw [dt h1,bc_t];constructor
  ·intro h;cases h
  ·intro h;omega
 rw [df h1,bc_f]
 by_cases h2:x=0
 ·rw [h2];constructor
  ·intro h;cases h
  ·intro h;omega
 rw [show (x == 0)=false by simp [h2],bc_f]
 by_cases h3:t≤x
 ·rw [dt h3,bc_t]
  by_cases h4:x≤1000
  ·rw [dt h4,bc_t];constructor
   ·intro h;cases h
   ·intro h;omega
  ·rw [df h4,bc_f,decide_eq_false_iff_not];constructor <;> intro h <;> omega
 ·rw [df h3,bc_f];exact ⟨fun _=>by omega,fun _=>rfl⟩
theorem any_iff {p:Int→Bool}:∀ {l:List Int},anyI p l=false↔∀ x,x ∈ l→p x=false
 | []=>⟨fun _ x h=>(by cases h),fun _=>rfl⟩
 | y :: l=>by
  have ih:=any_iff (p:=p) (l:=l);show bc (p y) true (anyI p l)=false↔_
  cases c:p y with
  | true=>rw [bc_t];exact ⟨fun h=>(by cases h),fun h=>(by rw [h y List.mem_cons_self] at c;cases c)⟩
  | false=>
   rw [bc_f,ih];exact ⟨fun h x hx=>(List.mem_cons.1 hx).elim (fun e=>e ▸ c) (h x),fun h x hx=>h x (List.mem_cons_of_mem _ hx)⟩
theorem chk_iff {t:Int} {l:List Int}:chkL t l=0↔(2≤t∧t≤48)∧l.length≤2000∧∀ x,x ∈ l→LetD t x:=by
 unfold chkL
 by_cases h1:t < 2
 ·rw [dt h1,bc_t];constructor
  ·intro h;cases h
  ·intro h;omega
 rw [df h1,bc_f]
 by_cases h2:48 < t
 ·rw [dt h2,bc_t];constructor
  ·intro h;cases h
  ·intro h;omega
 rw [df h2,bc_f]
 by_cases h3:(2000:Int) < (l.length:Int)
 ·rw [dt h3,bc_t];constructor
  ·intro h;cases h
  ·intro h;omega
 rw [df h3,bc_f];have ht:2≤t∧t≤48:=by omega
 cases c:anyI (badH t) l with
 | true=>
  rw [bc_t];constructor
  ·intro h;cases h
  ·intro h;rw [any_iff.2 fun x hx=>(bad_iff ht).2 (h.2.2 x hx)] at c;cases c
 | false=>exact ⟨fun _=>⟨ht,by omega,fun x hx=>(bad_iff ht).1 (any_iff.1 c x hx)⟩,fun _=>rfl⟩

theorem letD_hs {t:Int} {l:List Int} (ht:2≤t∧t≤48) (h:∀ x,x ∈ l→LetD t x):∀ j,-1000≤l.getD j 0:=fun j=>by
 by_cases hj:j < l.length
 ·have:=h (l.getD j 0) (by rw [getD_at hj];exact List.getElem_mem hj);unfold LetD at this;omega
 ·rw [List.getD_eq_getElem?_getD,List.getElem?_eq_none (by omega)];decide
namespace LSee
end LSee
end Go.Proofs.Ytfffbioafhppiaa.Ev
namespace Go.Proofs.Ytfffbioafhppiaa.Ev
open Go.RowKit
variable {P:Program} {γ γ':G} {w0:Bs} {w:World} {H H':Tr EK} {n n':Nat}


noncomputable def shB' (n k:Nat):EV→Option EV:=Nat.rec (fun _=>none) (fun _ ih a=>match a with
 | .v x=>some (.v x)
 | .arr c=>some (.arr c)
 | .slO i z len nn=>some (.slO (n+i) z len nn)
 | .tup l=>match shZ.mapZ ih l with
  | some l=>some (.tup l)
  | none=>none
 | .agg l=>match shZ.mapZ ih l with
  | some l=>some (.agg l)
  | none=>none
 | _=>none) k
theorem shB_ok {n:Nat}:∀ {k:Nat} {a a':EV} {x:Value},shB' n k a=some a'→EC γ a x→(∀ i,γ' (n+i)=γ i)→EC γ' a' x
 | 0,a,a',x,h,_,_=>by cases h
 | k+1,a,a',x,h,hc,hγ=>by
  cases hc with
  | v x=>injection (show some (EV.v x)=some a' from h) with h;subst h;exact .v x
  | arr c vs hv=>injection (show some (EV.arr c)=some a' from h) with h;subst h;exact .arr c vs hv
  | slO i z len nn x hs=>
   injection (show some (EV.slO (n+i) z len nn)=some a' from h) with h;subst h
   exact .slO (n+i) z len nn x ⟨hs.1,fun q=>let ⟨b,m,c,q1,q2⟩:=hs.2 q;⟨b,m,c,by rw [hγ];exact q1,q2⟩⟩
  | tup l vs hl hh=>
   have h':(match shZ.mapZ (shB' n k) l with
    | some l=>some (EV.tup l)
    | none=>none)=some a':=h
   split at h'
   case h_2=>cases h'
   rename_i r hr;injection h' with h';subst h'
   obtain ⟨g1,g2⟩:=mapZ_ok hr;refine .tup r vs (by omega) fun j b y hb hy=>?_;obtain ⟨b0,g3,g4⟩:=g2 j b hb;exact shB_ok g4 (hh j b0 y g3 hy) hγ
  | agg l vs hl hh=>
   have h':(match shZ.mapZ (shB' n k) l with
    | some l=>some (EV.agg l)
    | none=>none)=some a':=h
   split at h'
   case h_2=>cases h'
   rename_i r hr;injection h' with h';subst h'
   obtain ⟨g1,g2⟩:=mapZ_ok hr;refine .agg r vs (by omega) fun j b y hb hy=>?_;obtain ⟨b0,g3,g4⟩:=g2 j b hb;exact shB_ok g4 (hh j b0 y g3 hy) hγ
  | _=>cases h

noncomputable def flatC (c:SyC):Bool:=allL (fun s=>match s with
 | .list _=>false
 | _=>true) c.sh
theorem flatC_ok {c:SyC} (h:flatC c=true) {vs:List Value} (hc:ECL γ c.enc vs):ECL γ' c.enc vs:=by
 refine ⟨hc.1,fun j a x ha hx=>(hc.2 j a x ha hx).scal (k:=1) ?_⟩;have hm:=List.mem_of_getElem? ha;rw [c.enc_rows] at hm;obtain ⟨r,_,hr⟩:=List.mem_flatMap.1 hm;obtain ⟨f,hf,rfl⟩:=List.getElem_of_mem hr;rw [recE_len] at hf;have:=recE_get (s:=c.sh[f]) (f:=f) r (List.getElem?_eq_getElem hf);rw [List.getElem?_eq_getElem (by rw [recE_len];exact hf)] at this;injection this with this
 rw [this];have h2:=allL_ok h c.sh[f] (List.getElem_mem hf)
 cases h3:c.sh[f] with
 | list sh=>rw [h3] at h2;cases h2
 | int k=>rfl
 | bool=>rfl
 | str=>rfl
def G.behindB (γ:G) (n:Nat) (γ':G):G:=⟨fun j=>if j < n then γ j else γ' (j - n),γ.fz,γ.rw⟩
theorem G.behindB_new (γ:G) (n:Nat) (γ':G) (m:Nat):γ.behindB n γ' (n+m)=γ' m:=by show (if n+m < n then γ (n+m) else γ' (n+m - n))=_;rw [if_neg (by omega)];congr 1;omega
theorem HR.mergeB (hH:HR γ w0 H n w) {γ0:G} {K:List ZS} {w':World} (h:HR γ' (Bs.ofG w γ0) (mkT (zseqs K)) n' w') (hK:∀ p,p ∈ K→(mkT (zseqs K)).get p.1=some (.seq p.2.1 p.2.2.1 p.2.2.2)) (hb:∀ p,p ∈ K→n+p.1≤65535) (hfl:∀ p,p ∈ K→flatC p.2.2.1=true):GLe γ (γ.behindB n γ')∧HR (γ.behindB n γ') w0 (putZ n K H) (n+n') w':=by
 have hle0:∀ i p,γ i=some p→(γ.behindB n γ') i=some p:=fun i p e=>by
  show (if i < n then γ i else γ' (i - n))=some p
  split
  ·exact e
  ·rw [hH.fresh i (by omega)] at e;cases e
 have hle:GLe γ (γ.behindB n γ'):=⟨hle0,fun _ _ h=>h,fun _ _ _ _ h=>h⟩;refine ⟨hle,?_⟩;have old:∀ b:Nat,b < w.heap.size→w'.heap[b]? = w.heap[b]?:=fun b hb=>h.stays.block b hb;have hsz:w.heap.size≤w'.heap.size:=h.stays.size
 have cls:∀ j k,(putZ n K H).get j=some k→k.Nil∨(∃ b m,γ j=some (b,m)∧H.get j=some k∧¬ k.Nil∧(γ.behindB n γ') j=some (b,m)∧b.k < w.heap.size∧¬ w0.F b.k∧k.ok (γ.behindB n γ') b m w')∨(∃ q b m,j=n+q∧(mkT (zseqs K)).get q=some k∧¬ k.Nil∧γ' q=some (b,m)∧(γ.behindB n γ') j=some (b,m)∧w.heap.size≤b.k∧k.ok (γ.behindB n γ') b m w'):=fun j k hk=>by
  by_cases hn:k.Nil
  ·exact .inl hn
  right;rcases putZ_get hb hk with ⟨p,hp,rfl,rfl⟩ | hk
  ·right;have hg:=hK p hp;obtain ⟨b,m,e1,e2,e3⟩:=h.hp p.1 _ hg hn;obtain ⟨ca,q1,q2,q3,q4⟩:=e3;exact ⟨p.1,b,m,rfl,hg,hn,e1,(G.behindB_new γ n γ' p.1).trans e1,Nat.le_of_not_lt e2,ca,q1,q2,q3,flatC_ok (hfl p hp) q4⟩
  ·left;obtain ⟨b,m,e1,e2,e3⟩:=hH.hp j k hk hn;exact ⟨b,m,e1,hk,hn,hle _ _ e1,hH.lt j _ e1,e2,EK.ok_mono hle (old _ (hH.lt j _ e1)) e3⟩
 have nst:∀ j k,(putZ n K H).get j=some k→k.nestB=true→H.get j=some k:=fun j k hk hb2=>by
  rcases putZ_get hb hk with ⟨p,hp,rfl,rfl⟩ | hk
  ·cases hb2
  ·exact hk
 refine ⟨fun j k hk=>?_,fun j l kj kl hj hl nj nl hne bj bl ej el=>?_,fun j hj=>?_,fun j hj=>?_,fun j p e=>?_,?_,⟨fun k a hk=>?_,fun k hk=>?_,fun i v q p e=>?_,fun i me ty sh rows v ho nn e=>?_,fun i me ty sh rows v ho nn e j f sh' hj hf hh k m hk=>?_⟩⟩
 ·rcases cls j k hk with h1 | ⟨b,m,h1,h2,h3,h4,h5,h6,h7⟩ | ⟨q,b,m,h1,h2,h3,h4,h5,h6,h7⟩
  ·exact .inl h1
  ·exact .inr ⟨b,m,h4,h6,h7⟩
  ·exact .inr ⟨b,m,h5,hH.notF h6,h7⟩
 ·rcases cls j kj hj with h1 | ⟨b,m,h1,h2,h3,h4,h5,h6,h7⟩ | ⟨q,b,m,h1,h2,h3,h4,h5,h6,h7⟩
  ·exact absurd h1 nj
  ·rw [h4] at ej;injection ej with ej;subst ej
   rcases cls l kl hl with g1 | ⟨b',m',g1,g2,g3,g4,g5,g6,g7⟩ | ⟨q',b',m',g1,g2,g3,g4,g5,g6,g7⟩
   ·exact absurd g1 nl
   ·rw [g4] at el;injection el with el;subst el
    exact hH.inj0 j l kj kl h2 g2 h3 g3 hne _ _ h1 g1
   ·rw [g5] at el;injection el with el;subst el
    show b.k≠b'.k;omega
  ·rw [h5] at ej;injection ej with ej;subst ej
   rcases cls l kl hl with g1 | ⟨b',m',g1,g2,g3,g4,g5,g6,g7⟩ | ⟨q',b',m',g1,g2,g3,g4,g5,g6,g7⟩
   ·exact absurd g1 nl
   ·rw [g4] at el;injection el with el;subst el
    show b.k≠b'.k;omega
   ·rw [g5] at el;injection el with el;subst el
    exact h.inj0 q q' kj kl h2 g2 h3 g3 (fun e=>hne (by omega)) _ _ h4 g4
 ·show (if j < n then γ j else γ' (j - n))=none
  rw [if_neg (by omega)];exact h.fresh _ (by omega)
 ·obtain ⟨r1,r2⟩:=hH.rsv j hj;exact ⟨by show (if j < n then γ j else γ' (j - n))=none;rw [if_pos r2];exact r1,by omega⟩
 ·have e:(if j < n then γ j else γ' (j - n))=some p:=e
  split at e
  ·have:=hH.lt j p e;omega
  ·exact h.lt _ p e
 ·refine ⟨h.stays.os.trans hH.stays.os,h.stays.tape.trans hH.stays.tape,h.stays.output.trans hH.stays.output,by have:=hH.stays.size;omega,fun k hk=>?_⟩;have:=hH.stays.size;have:=w0.lt k hk;rw [old k (by omega)];exact hH.stays.block k hk
 ·obtain ⟨⟨ty,fz,g1⟩,g2,g3⟩:=hH.fzk.at' k a hk;have hkl:k < w.heap.size:=(Array.getElem?_eq_some_iff.1 g1).1;refine ⟨⟨ty,fz,(old k hkl).trans g1⟩,g2,fun j kj b m hj nj ej=>?_⟩;rcases cls j kj hj with h1 | ⟨b',m',h1,h2,h3,h4,h5,h6,h7⟩ | ⟨q,b',m',h1,h2,h3,h4,h5,h6,h7⟩
  ·exact absurd h1 nj
  ·rw [h4] at ej;injection ej with ej;injection ej with e1 e2;subst e1
   exact g3 j kj _ _ h2 h3 h1
  ·rw [h5] at ej;injection ej with ej;injection ej with e1 e2;subst e1
   omega
 ·exact hH.fzk.base k hk
 ·obtain ⟨b,hb⟩:=hH.fzk.nst.rwg i v q p e;exact ⟨b,hle0 _ _ hb⟩
 ·exact hH.fzk.nst.me i me ty sh rows v ho nn (nst i _ e rfl)
 ·obtain ⟨q1,q2,q3,q4,arr,ty3,q5,q6,q7⟩:=hH.fzk.nst.at' i me ty sh rows v ho nn (nst i _ e rfl) j f sh' hj hf hh k m hk;have hkl:=q5.lt;refine ⟨q1,q2,fun i' ki b m' hi' ni ei=>?_,fun i2 me2 ty2 sh2 rows2 v2 ho2 nn2 e2=>q4 i2 me2 ty2 sh2 rows2 v2 ho2 nn2 (nst i2 _ e2 rfl),arr,ty3,q5.mono (old k hkl),q6,fun a g s ha hs=>let ⟨x,hx,hc⟩:=q7 a g s ha hs;⟨x,hx,hc.mono hle⟩⟩;rcases cls i' ki hi' with h1 | ⟨b',m2,h1,h2,h3,h4,h5,h6,h7⟩ | ⟨q,b',m2,h1,h2,h3,h4,h5,h6,h7⟩
  ·exact absurd h1 ni
  ·rw [h4] at ei;injection ei with ei;injection ei with e1 e2;subst e1
   exact q3 i' ki _ _ h2 h3 h1
  ·rw [h5] at ei;injection ei with ei;injection ei with e1 e2;subst e1
   omega

noncomputable def twoZ (n:Nat) (K:List ZS):Bool:=match K with
 | []=>true
 | [p]=>bc (Nat.ble (n+p.1) 65535) (flatC p.2.2.1) false
 | [p,q]=>bc (Nat.beq p.1 q.1) false (bc (bc (Nat.ble (n+p.1) 65535) (flatC p.2.2.1) false) (bc (Nat.ble (n+q.1) 65535) (flatC q.2.2.1) false) false)
 | _=>false
theorem mkT1 {p:Nat × EK} {l:List (Nat × EK)} (h:p.1≤65535):mkT (p :: l)=(mkT l).put p.1 (some p.2):=by
 show bc (Nat.ble p.1 65535) _ _=_;rw [bc_eq,if_pos (Nat.ble_eq_true_of_le h)];rfl
theorem twoZ_ok {n:Nat} {K:List ZS} (h:twoZ n K=true):(∀ p,p ∈ K→(mkT (zseqs K)).get p.1=some (.seq p.2.1 p.2.2.1 p.2.2.2))∧(∀ p,p ∈ K→n+p.1≤65535)∧∀ p,p ∈ K→flatC p.2.2.1=true:=by
 match K,h with
 | [],_=>exact ⟨fun p hp=>by simp at hp,fun p hp=>by simp at hp,fun p hp=>by simp at hp⟩
 | [p1],h=>
  obtain ⟨h1,h2⟩:=bcT h;have h1:=Nat.le_of_ble_eq_true h1;refine ⟨fun p hp=>?_,fun p hp=>by simp at hp;subst hp;exact h1,fun p hp=>by simp at hp;subst hp;exact h2⟩;simp at hp;subst hp;show (mkT [(p.1,EK.seq p.2.1 p.2.2.1 p.2.2.2)]).get p.1=_;rw [mkT1 (by show p.1≤_;omega),Tr.get_put (Nat.ble_eq_true_of_le (by show p.1≤_;omega)),if_pos rfl]
 | [p1,p2],h=>
  have h:bc (Nat.beq p1.1 p2.1) false (bc (bc (Nat.ble (n+p1.1) 65535) (flatC p1.2.2.1) false) (bc (Nat.ble (n+p2.1) 65535) (flatC p2.2.2.1) false) false)=true:=h;rw [bc_eq] at h;split at h
  ·cases h
  ·rename_i hne;have hne:p1.1≠p2.1:=fun e=>hne (by rw [e];exact Nat.beq_refl _);obtain ⟨h1,h2⟩:=bcT h;obtain ⟨a1,a2⟩:=bcT h1;obtain ⟨b1,b2⟩:=bcT h2;have a1:=Nat.le_of_ble_eq_true a1;have b1:=Nat.le_of_ble_eq_true b1;have key:mkT (zseqs [p1,p2])=((mkT ([]:List (Nat × EK))).put p2.1 (some (EK.seq p2.2.1 p2.2.2.1 p2.2.2.2))).put p1.1 (some (EK.seq p1.2.1 p1.2.2.1 p1.2.2.2)):=by
    show mkT [(p1.1,_),(p2.1,_)]=_;rw [mkT1 (by show p1.1≤_;omega),mkT1 (by show p2.1≤_;omega)]
   refine ⟨fun p hp=>?_,fun p hp=>?_,fun p hp=>?_⟩
   ·rw [key];simp at hp;rcases hp with rfl | rfl
    ·rw [Tr.get_put (Nat.ble_eq_true_of_le (by omega)),if_pos rfl]
    ·rw [Tr.get_put (Nat.ble_eq_true_of_le (by omega)),if_neg (fun e=>hne e.symm),Tr.get_put (Nat.ble_eq_true_of_le (by omega)),if_pos rfl]
   ·simp at hp;rcases hp with rfl | rfl
    ·exact a1
    ·exact b1
   ·simp at hp;rcases hp with rfl | rfl
    ·exact a2
    ·exact b2
 | _ :: _ :: _ :: _,h=>cases h
noncomputable def moreZ (m:Nat) (K:List ZS) (K0:List (Nat × EK)):List (Nat × EK):=List.rec K0 (fun p _ ih=>(m+p.1,.seq p.2.1 p.2.2.1 p.2.2.2) :: ih) K
theorem moreZ_ok {m:Nat} {K0:List (Nat × EK)}:∀ {K:List ZS},(∀ p,p ∈ K→m+p.1≤65535)→mkT (moreZ m K K0)=putZ m K (mkT K0)
 | [],_=>rfl
 | p :: K,h=>by
  show mkT ((m+p.1,EK.seq p.2.1 p.2.2.1 p.2.2.2) :: moreZ m K K0)=Tr.put (putZ m K (mkT K0)) (m+p.1) _;rw [mkT1 (h p (by simp)),moreZ_ok fun q hq=>h q (by simp [hq])]

noncomputable def bM (sp:ZCT):ZMT:=fun ax K0 m=>match frzL (frzE 6) ax (mkT K0) with
 | some (cf,ax',_)=>bc (allL (dataB 6) ax') (match sp ax' with
  | some r=>match shB' m 6 r.a with
   | some a=>bc (twoZ m r.K) (some ⟨bc cf r.c false,a,moreZ m r.K K0,m+r.n,m⟩) none
   | none=>none
  | none=>none) none
 | none=>none
theorem bM_ok {g:FuncId} {sp:ZCT} (hsp:ZCtOk P g sp):ZMtOk P g (bM sp):=by
 intro γ w0 w us ax K0 m r h hc hres ha hH;unfold bM at h;split at h
 case h_2=>cases h
 rename_i cf ax' H1 hf;rw [bc_eq] at h;split at h
 case isFalse=>cases h
 rename_i hd;split at h
 case h_2=>cases h
 rename_i q hq;split at h
 case h_2=>cases h
 rename_i a hsh;rw [bc_eq] at h;split at h
 case isFalse=>cases h
 rename_i htwo;injection h with h;subst h
 obtain ⟨k1,k2⟩:=bcT hc;obtain ⟨γ1,g1,g2,g3⟩:=frzL_ok (f:=frzE 6) (fun hH ha h hc=>frzE_ok hH ha h hc) hH ha hf k1;refine (hsp γ1.dat w us ax' q hq k2 (g3.dat hd) (fun _=>rfl) g2.fzAt).mono ?_
 rintro e w' ⟨γ',x,rfl,p1,p2⟩
 obtain ⟨o1,o2,o3⟩:=twoZ_ok htwo;obtain ⟨m1,m2⟩:=hH.mergeB p2 o1 o2 o3;refine ⟨γ.behindB m γ',x,rfl,shB_ok hsh p1 (fun i=>G.behindB_new γ m γ' i),?_,fun j p hj e=>m1 _ _ e⟩;show HR _ _ (mkT (moreZ m q.K K0)) _ _;rw [moreZ_ok o2];exact m2
end Go.Proofs.Ytfffbioafhppiaa.Ev
namespace Go.Proofs.Ytfffbioafhppiaa.Ev
open Go.Proofs

def MetP (l:List Int) (a b:Nat):Prop:=isPn (l.getD a 0)=false∧l.getD a 0 = -(l.getD b 0)∧∀ m,a < m→m < b→tchL (l.getD m 0) (l.getD a 0)=false
noncomputable instance MetP.dec (l:List Int) (a b:Nat):Decidable (MetP l a b):=Classical.propDecidable _
noncomputable def metB (l:List Int) (a b:Nat):Bool:=decide (MetP l a b)

def MeeOk (l:List Int) (a b:Int):Prop:=0≤a∧a < b∧b < (l.length:Int)∧l.length≤3000∧∀ j,-1000000≤l.getD j 0∧l.getD j 0≤1000000
noncomputable instance MeeOk.dec (l:List Int) (a b:Int):Decidable (MeeOk l a b):=Classical.propDecidable _
noncomputable def ctMe:Tr ZCC:=((Tr.nil.put 60 (some (dC spIsP))).put 56 (some (dC spTch)))
theorem ctMe_ok:ZCtsOk Try.prog ctMe:=((ZCtsOk.nil _).add rfl spIsP_ok).add rfl spTch_ok
namespace LMee
noncomputable def RUN (s:ES):ZF:=RZ 57 ctMe (atS 0 57 4) [] [[(0,none),(1,none),(2,none),(6,none),(7,none)]] false s

noncomputable def sL (l:List Int) (a b k:Int):NS:=⟨[⟨57,41,[(0,(EV.lst (SyC.ints IntKind.i64 (l)))),(1,(EV.v (Value.int IntKind.i64 (a)))),(2,(EV.v (Value.int IntKind.i64 (b)))),(6,(EV.v (Value.bool false))),(7,iv k)],[.it (.code (nav [1,1,0,1,0,0,0] (bodyOf Try.f57))),.it (.code (nav [1,1,0,1,0,0,1] (bodyOf Try.f57))),.it (.inLoop (nav [1,1,0,1,0,0] (bodyOf Try.f57))),.it (.inBlock 0),.it (.code (nav [1,1,1] (bodyOf Try.f57)))],[],Option.none⟩],[],0⟩
theorem in_t (l:List Int) (a b:Int):RUN (st0 57 [il l,iv a,iv b])=(bc (isPn (List.getD l (Int.toNat a) (0:Int))) (bc (bc (bc (bc (bc (decide ((0:Int)≤a)) (Nat.blt (Int.toNat a) (List.length l)) false) true false) (bc (bc (Nat.blt (Int.toNat a) (List.length l)) true false) (bc (eqB (isPn (List.getD l (Int.toNat a) (0:Int))) true) true false) false) false) true false) (.done (EV.v (Value.bool false)) [] 0) .bad) (bc (bc (bc (bc (bc (decide ((0:Int)≤a)) (Nat.blt (Int.toNat a) (List.length l)) false) true false) (bc (bc (Nat.blt (Int.toNat a) (List.length l)) true false) (bc (eqB (isPn (List.getD l (Int.toNat a) (0:Int))) false) (bc (bc (bc (decide ((0:Int)≤a)) (Nat.blt (Int.toNat a) (List.length l)) false) true false) (bc (bc (Nat.blt (Int.toNat a) (List.length l)) true false) (bc (bc (bc (decide ((0:Int)≤b)) (Nat.blt (Int.toNat b) (List.length l)) false) true false) (bc (bc (Nat.blt (Int.toNat b) (List.length l)) true false) true false) false) false) false) false) false) false) true false) (bc (List.getD l (Int.toNat a) (0:Int) != IntKind.wrap IntKind.i64 ((0:Int) - List.getD l (Int.toNat b) (0:Int))) (.done (EV.v (Value.bool false)) [] 0) (.at (sL (l) (a) (b) (IntKind.wrap IntKind.i64 (a+(1:Int)))))) .bad)):=by kernel_rfl
theorem l_t (l:List Int) (a b k:Int):RUN (stOf (sL l a b k))=(bc (decide (k < b)) (bc (bc (bc (bc (bc (decide ((0:Int)≤k)) (Nat.blt (Int.toNat k) (List.length l)) false) true false) (bc (bc (Nat.blt (Int.toNat k) (List.length l)) true false) (bc (bc (bc (decide ((0:Int)≤a)) (Nat.blt (Int.toNat a) (List.length l)) false) true false) (bc (bc (Nat.blt (Int.toNat a) (List.length l)) true false) (bc (bc (decide (((-1000000:Int)≤List.getD l (Int.toNat k) (0:Int)∧List.getD l (Int.toNat k) (0:Int)≤(1000000:Int))∧(-1000000:Int)≤List.getD l (Int.toNat a) (0:Int)∧List.getD l (Int.toNat a) (0:Int)≤(1000000:Int))) true false) true false) false) false) false) false) true false) (bc (tchL (List.getD l (Int.toNat k) (0:Int)) (List.getD l (Int.toNat a) (0:Int))) (.done (EV.v (Value.bool false)) [] 0) (.at (sL (l) (a) (b) (IntKind.wrap IntKind.i64 (k+(1:Int)))))) .bad) (.done (EV.v (Value.bool true)) [] 0)):=by kernel_rfl
theorem loop {l:List Int} {a b:Nat} (hab:a < b) (hb:b < l.length) (hl:l.length≤3000) (hs:∀ j,-1000000≤l.getD j 0∧l.getD j 0≤1000000) (h1:isPn (l.getD a 0)=false) (h2:l.getD a 0 = -(l.getD b 0)):∀ (d k:Nat),k+d=b→a < k→(∀ m,a < m→m < k→tchL (l.getD m 0) (l.getD a 0)=false)→EndZ 57 ctMe false (stOf (sL l a b k)) (bv (metB l a b)) [] 0
 | 0,k,h,ha,hk=>by
  obtain rfl:k=b:=by omega
  have e:metB l a k=true:=dt ⟨h1,h2,hk⟩;have q:=l_t l a k k;rw [df (show ¬ (k:Int) < k by omega),bc_f] at q;rw [e];exact .done q
 | d+1,k,h,ha,hk=>by
  have q:=l_t l a b k;have e0:∀ x:Nat,Int.toNat (x:Int)=x:=fun _=>rfl;have w4:IntKind.wrap IntKind.i64 ((k:Int)+1)=((k+1:Nat):Int):=by rw [wrap_in _ (by omega) (by omega)];omega
  rw [e0,e0,w4,dt (show (k:Int) < b by omega),dt (show (-1000000≤l.getD k 0∧l.getD k 0≤1000000) ∧ -1000000≤l.getD a 0∧l.getD a 0≤1000000 from ⟨hs k,hs a⟩)] at q
  cases c:tchL (l.getD k 0) (l.getD a 0) with
  | true=>
   have e:metB l a b=false:=df fun z=>by
    have:=z.2.2 k ha (by omega);rw [c] at this;cases this
   rw [c] at q;simp (disch:=omega) only [Nat.add_eq,eqSy_self,eqN_self,bc_same,List.length_cons,ofn,wrap_in,dt,df,bltD,bltN,ble_of,bleN,beqD,bc_t,bc_f,nn_ok,Nat.zero_add,to_nat,Int.zero_add,Int.sub_zero,Int.sub_self,Int.cast_ofNat_Int,Int.natCast_zero,Int.toNat_zero,List.take_zero,List.nil_append,List.length_append,List.length_nil] at q;rw [e];exact .done q
  | false=>
   rw [c] at q;simp (disch:=omega) only [Nat.add_eq,eqSy_self,eqN_self,bc_same,List.length_cons,ofn,wrap_in,dt,df,bltD,bltN,ble_of,bleN,beqD,bc_t,bc_f,nn_ok,Nat.zero_add,to_nat,Int.zero_add,Int.sub_zero,Int.sub_self,Int.cast_ofNat_Int,Int.natCast_zero,Int.toNat_zero,List.take_zero,List.nil_append,List.length_append,List.length_nil] at q;refine .at ctMe_ok q (loop hab hb hl hs h1 h2 d (k+1) (by omega) (by omega) fun m m1 m2=>?_);rcases Nat.lt_or_ge m k with m3 | m3
   ·exact hk m m1 m3
   ·obtain rfl:m=k:=by omega
    exact c
theorem ends {l:List Int} {a b:Int} (h:MeeOk l a b):EndZ 57 ctMe false (st0 57 [il l,iv a,iv b]) (bv (metB l a.toNat b.toNat)) [] 0:=by
 obtain ⟨h1,h2,h3,h4,h5⟩:=h;obtain ⟨a,rfl⟩:=Int.eq_ofNat_of_zero_le h1;obtain ⟨b,rfl⟩:=Int.eq_ofNat_of_zero_le (show 0≤b by omega);have e0:∀ x:Nat,Int.toNat (x:Int)=x:=fun _=>rfl;have q:=in_t l a b;have hb:=h5 b;have ha:=h5 a;have w:IntKind.wrap IntKind.i64 (0 - l.getD b 0) = -(l.getD b 0):=by rw [wrap_in _ (by omega) (by omega)];omega
 have w4:IntKind.wrap IntKind.i64 ((a:Int)+1)=((a+1:Nat):Int):=by rw [wrap_in _ (by omega) (by omega)];omega
 rw [e0,e0,w,w4] at q;rw [e0,e0]
 cases c:isPn (l.getD a 0) with
 | true=>
  have e:metB l a b=false:=df fun z=>by rw [z.1] at c;cases c
  rw [c] at q;simp (disch:=omega) only [Nat.add_eq,eqSy_self,eqN_self,bc_same,List.length_cons,ofn,wrap_in,dt,df,bltD,bltN,ble_of,bleN,beqD,bc_t,bc_f,nn_ok,Nat.zero_add,to_nat,Int.zero_add,Int.sub_zero,Int.sub_self,Int.cast_ofNat_Int,Int.natCast_zero,Int.toNat_zero,List.take_zero,List.nil_append,List.length_append,List.length_nil,eqB] at q;rw [e];exact .done q
 | false=>
  rw [c] at q
  by_cases d:l.getD a 0 = -(l.getD b 0)
  ·rw [show (l.getD a 0 != -(l.getD b 0))=false by rw [d];exact bne_self_eq_false _] at q;simp (disch:=omega) only [Nat.add_eq,eqSy_self,eqN_self,bc_same,List.length_cons,ofn,wrap_in,dt,df,bltD,bltN,ble_of,bleN,beqD,bc_t,bc_f,nn_ok,Nat.zero_add,to_nat,Int.zero_add,Int.sub_zero,Int.sub_self,Int.cast_ofNat_Int,Int.natCast_zero,Int.toNat_zero,List.take_zero,List.nil_append,List.length_append,List.length_nil,eqB] at q;exact .at ctMe_ok q (loop (by omega) (by omega) h4 h5 c d (b - (a+1)) (a+1) (by omega) (by omega) fun m m1 m2=>by omega)
  ·have e:metB l a b=false:=df fun z=>d z.2.1;rw [show (l.getD a 0 != -(l.getD b 0))=true from bne_iff_ne.2 d] at q
   simp (disch:=omega) only [Nat.add_eq,eqSy_self,eqN_self,bc_same,List.length_cons,ofn,wrap_in,dt,df,bltD,bltN,ble_of,bleN,beqD,bc_t,bc_f,nn_ok,Nat.zero_add,to_nat,Int.zero_add,Int.sub_zero,Int.sub_self,Int.cast_ofNat_Int,Int.natCast_zero,Int.toNat_zero,List.take_zero,List.nil_append,List.length_append,List.length_nil,eqB] at q;rw [e];exact .done q
end LMee
noncomputable def spMee:ZCT:=fun ax=>match ax with
 | [.lst (.ints .i64 l),.v (.int .i64 a),.v (.int .i64 b)]=>some ⟨decide (MeeOk l a b),bv (metB l a.toNat b.toNat),[],0⟩
 | _=>none
theorem spMee_ok:ZCtOk Try.prog 57 spMee:=fun γ w us ax r hs hc hax hN hfz=>by
 unfold spMee at hs;split at hs
 case h_2=>cases hs
 rename_i l a b;obtain ⟨rfl⟩:=Option.some.inj hs;have hc_0:decide (MeeOk l a b)=true:=hc;have hc:=of_decide_eq_true hc_0;exact EndZ.calls (LMee.ends hc) ctMe_ok (by kernel_rfl) hax hN hfz
end Go.Proofs.Ytfffbioafhppiaa.Ev
namespace Go.Proofs.Ytfffbioafhppiaa.Ev

def fsL (x:Int):List Int→Option (List Int)
 | []=>none
 | y :: q=>if y=x then some q else if tchL y x=true then none else (fsL x q).map (y :: ·)
theorem fs_e {x:Int} {q:List Int}:fsL x (x :: q)=some q:=by unfold fsL;rw [if_pos rfl]
theorem fs_t {x y:Int} {q:List Int} (h:y≠x) (k:tchL y x=true):fsL x (y :: q)=none:=by unfold fsL;rw [if_neg h,if_pos k]
theorem fs_f {x y:Int} {q:List Int} (h:y≠x) (k:tchL y x=false):fsL x (y :: q)=(fsL x q).map (y :: ·):=by
 show (if y=x then _ else if tchL y x=true then _ else _)=_
 rw [if_neg h,if_neg (by rw [k];simp)]
theorem fs_swap {u v x:Int} (h:tchL u v=false) (q:List Int):OT (fsL x (u :: v :: q)) (fsL x (v :: u :: q)):=by
 have h':tchL v u=false:=by rw [tch_symm];exact h
 by_cases cu:u=x
 ·subst cu;rw [fs_e]
  by_cases cv:v=u
  ·subst cv;rw [fs_e];exact .some (.refl _)
  ·rw [fs_f cv h',fs_e];exact .some (.refl _)
 ·by_cases cv:v=x
  ·subst cv;rw [fs_f cu h,fs_e,fs_e];exact .some (.refl _)
  ·cases ku:tchL u x with
   | true=>
    rw [fs_t cu ku]
    cases kv:tchL v x with
    | true=>rw [fs_t cv kv];exact .none
    | false=>rw [fs_f cv kv,fs_t cu ku];exact .none
   | false=>
    rw [fs_f cu ku]
    cases kv:tchL v x with
    | true=>rw [fs_t cv kv,fs_t cv kv];exact .none
    | false=>
     rw [fs_f cv kv,fs_f cv kv,fs_f cu ku]
     cases fsL x q with
     | none=>exact .none
     | some a=>exact .some (.swap u v a h)
theorem fs_tq {a b:List Int} (h:Tq a b) (x:Int):OT (fsL x a) (fsL x b):=by
 induction h with
 | refl q=>exact .refl _
 | swap u v q h=>exact fs_swap h q
 | @cons y q q' h ih=>
  by_cases c:y=x
  ·subst c;rw [fs_e,fs_e];exact .some h
  ·cases k:tchL y x with
   | true=>rw [fs_t c k,fs_t c k];exact .none
   | false=>rw [fs_f c k,fs_f c k];exact ih.map y
 | trans _ _ h k=>exact h.trans k
theorem fs_split {y:Int}:∀ {a a':List Int},fsL y a=some a'→∃ A C,a=A ++ y :: C∧a'=A ++ C∧∀ z,z ∈ A→z≠y∧tchL z y=false
 | [],a',h=>by cases h
 | z :: a,a',h=>by
  by_cases c:z=y
  ·subst c;rw [fs_e] at h;obtain rfl:=Option.some.inj h;exact ⟨[],a,rfl,rfl,fun _ h=>(by cases h)⟩
  ·cases k:tchL z y with
   | true=>rw [fs_t c k] at h;cases h
   | false=>
    rw [fs_f c k] at h
    cases hq:fsL y a with
    | none=>rw [hq] at h;cases h
    | some b=>
     rw [hq] at h;obtain rfl:=Option.some.inj h;obtain ⟨A,C,rfl,rfl,hA⟩:=fs_split hq;exact ⟨z :: A,C,rfl,rfl,fun w hw=>(List.mem_cons.1 hw).elim (fun e=>e ▸ ⟨c,k⟩) (hA w)⟩

theorem tq_fst {a b:List Int} {y:Int} (h:Tq a (y :: b)):∃ A C,a=A ++ y :: C∧(∀ z,z ∈ A→z≠y∧tchL z y=false)∧Tq (A ++ C) b:=by
 have h1:=fs_tq h y;rw [fs_e] at h1
 cases hq:fsL y a with
 | none=>rw [hq] at h1;cases h1
 | some a'=>
  rw [hq] at h1;obtain ⟨A,C,e1,rfl,hA⟩:=fs_split hq
  cases h1 with
  | some h2=>exact ⟨A,C,e1,hA,h2⟩
theorem tq_left {a b:List Int} (h:Tq a b):∀ A:List Int,Tq (A ++ a) (A ++ b)
 | []=>h
 | x :: A=>.cons x (tq_left h A)
theorem tq_right {a b:List Int} (h:Tq a b) (C:List Int):Tq (a ++ C) (b ++ C):=by
 induction h with
 | refl q=>exact .refl _
 | swap u v q h=>exact .swap u v (q ++ C) h
 | cons y _ ih=>exact .cons y ih
 | trans _ _ h k=>exact h.trans k
theorem tq_rev {a b:List Int} (h:Tq a b):Tq a.reverse b.reverse:=by
 induction h with
 | refl q=>exact .refl _
 | swap u v q h=>
  have:=tq_left (Tq.swap v u [] (by rw [tch_symm];exact h)) q.reverse;simpa using this
 | cons y _ ih=>
  rw [List.reverse_cons,List.reverse_cons];exact tq_right ih [y]
 | trans _ _ h k=>exact h.trans k
theorem rm_split {x:Int}:∀ {q a:List Int},rmL x q=some a→∃ M C,q=M ++ -x :: C∧∀ y,y ∈ M→tchL y x=false
 | [],a,h=>by cases h
 | y :: q,a,h=>by
  cases hy:tchL y x with
  | true=>
   rw [rm_t hy] at h
   by_cases c:y = -x∧isPn x=false∧isPn y=false
   ·rw [c.1];exact ⟨[],q,rfl,fun _ h=>(by cases h)⟩
   ·rw [if_neg c] at h;cases h
  | false=>
   rw [rm_f hy] at h
   cases hq:rmL x q with
   | none=>rw [hq] at h;cases h
   | some b=>
    obtain ⟨M,C,rfl,hM⟩:=rm_split hq;exact ⟨y :: M,C,rfl,fun z hz=>(List.mem_cons.1 hz).elim (fun e=>e ▸ hy) (hM z)⟩

theorem meet_rdc {c:List Int} (h:∀ a b,a < b→b < c.length→¬ MetP c a b):∀ k,k≤c.length→Rdc (c.take k).reverse
 | 0,_=>by rw [List.take_zero];exact trivial
 | k+1,hk=>by
  have hk':k < c.length:=hk;rw [List.take_succ_eq_append_getElem hk',List.reverse_append];refine ⟨?_,meet_rdc h k (by omega)⟩
  cases hq:rmL c[k] (c.take k).reverse with
  | none=>exact hq
  | some a=>
   exfalso
   obtain ⟨p1,p2⟩:=rm_pn hq;obtain ⟨M,C,e,hM⟩:=rm_split hq;have e2:c.take k=C.reverse ++ -c[k] :: M.reverse:=by
    have:=congrArg List.reverse e;rw [List.reverse_reverse,List.reverse_append,List.reverse_cons,List.append_assoc] at this;exact this
   have hl:=congrArg List.length e2;rw [List.length_take,List.length_append,List.length_cons,List.length_reverse,List.length_reverse] at hl;have hg:∀ m,m < k→c.getD m 0=(C.reverse ++ -c[k] :: M.reverse).getD m 0:=fun m hm=>by
    rw [← e2,List.getD_eq_getElem?_getD,List.getD_eq_getElem?_getD,List.getElem?_take,if_pos hm]
   have hck:c.getD k 0=c[k]:=getD_at hk';have hC:c.getD C.length 0 = -c[k]:=by
    rw [hg _ (by omega),List.getD_eq_getElem?_getD,List.getElem?_append_right (by rw [List.length_reverse];exact Nat.le_refl _),List.length_reverse,Nat.sub_self];rfl
   refine h C.length k (by omega) hk' ⟨by rw [hC];exact p2,by rw [hC,hck],fun m m1 m2=>?_⟩;rw [hC,tch_neg p1 p2,hg m m2,List.getD_eq_getElem?_getD,List.getElem?_append_right (by rw [List.length_reverse];omega),List.length_reverse];obtain ⟨d,hd⟩:∃ d,m - C.length=d+1:=⟨m - C.length - 1,by omega⟩;have hdl:d < M.reverse.length:=by rw [List.length_reverse];omega
   rw [hd,List.getElem?_cons_succ,List.getElem?_eq_getElem hdl];exact hM _ (List.mem_reverse.1 (List.getElem_mem hdl))
theorem rdc_red:∀ {q:List Int},Rdc q→redL [] q.reverse=q
 | [],_=>rfl
 | x :: q,h=>by
  rw [List.reverse_cons,red_app,rdc_red h.2];show stpL q x=_;rw [stp_none h.1]

def nxL (c:List Int) (a b:Nat):List Int:=c.take a ++ (c.take b).drop (a+1) ++ c.drop (b+1)
theorem nx_split {c:List Int} {a b:Nat} (hab:a < b) (hb:b < c.length):c=c.take a ++ (c.getD a 0 :: (c.take b).drop (a+1) ++ c.getD b 0 :: c.drop (b+1)):=by
 have h1:c=c.take b ++ c.drop b:=(List.take_append_drop b c).symm;have h2:c.drop b=c.getD b 0 :: c.drop (b+1):=by rw [getD_at hb];exact List.drop_eq_getElem_cons hb
 have h3:c.take b=c.take a ++ (c.take b).drop a:=by
  have:=(List.take_append_drop a (c.take b)).symm
  rwa [List.take_take,Nat.min_eq_left (by omega)] at this
 have hla:a < (c.take b).length:=by rw [List.length_take];omega
 have h4:(c.take b).drop a=c.getD a 0 :: (c.take b).drop (a+1):=by
  rw [List.drop_eq_getElem_cons hla,List.getElem_take,getD_at (show a < c.length by omega)]
 rw [h4] at h3;rw [h2,h3] at h1;rw [List.append_assoc] at h1;exact h1
theorem nx_len {c:List Int} {a b:Nat} (hab:a < b) (hb:b < c.length):(nxL c a b).length+2=c.length:=by
 unfold nxL;rw [List.length_append,List.length_append,List.length_take,List.length_drop,List.length_take,List.length_drop];omega
theorem nx_mem {c:List Int} {a b:Nat} {z:Int} (h:z ∈ nxL c a b):z ∈ c:=by
 unfold nxL at h;rcases List.mem_append.1 h with h | h
 ·rcases List.mem_append.1 h with h | h
  ·exact List.mem_of_mem_take h
  ·exact List.mem_of_mem_take (List.mem_of_mem_drop h)
 ·exact List.mem_of_mem_drop h
theorem nx_red {c:List Int} {a b:Nat} (hB:LetB c) (hab:a < b) (hb:b < c.length) (h:MetP c a b):Tq (redL [] c) (redL [] (nxL c a b)):=by
 obtain ⟨h1,h2,h3⟩:=h;have ha:-1000≤c.getD a 0:=hB _ (by rw [getD_at (show a < c.length by omega)];exact List.getElem_mem _);have hn:isPn (-(c.getD a 0))=false:=decide_eq_false (by omega);have e:c.getD b 0 = -(c.getD a 0):=by omega
 have hs:=nx_split hab hb;rw [e] at hs;have:redL [] c=redL (redL [] (c.take a)) (c.getD a 0 :: (c.take b).drop (a+1) ++ -(c.getD a 0) :: c.drop (b+1)):=by
  rw [← red_app,← hs]
 rw [this];unfold nxL;rw [List.append_assoc,red_app [] (c.take a) ((c.take b).drop (a+1) ++ c.drop (b+1))];refine red_pair (red_rdc _ (show Rdc [] from trivial)) h1 hn fun y hy=>?_
 obtain ⟨d,hd,rfl⟩:=List.getElem_of_mem hy;rw [List.length_drop,List.length_take] at hd;rw [List.getElem_drop,List.getElem_take];have:=h3 (a+1+d) (by omega) (by omega)
 rwa [getD_at (show a+1+d < c.length by omega)] at this

noncomputable def rowP (l:List Int) (a i:Nat):List (Nat × Nat):=((List.range i).filter fun b=>decide (a < b) && metB l a b).map fun b=>(a,b)
noncomputable def prsI (l:List Int) (a:Nat):List (Nat × Nat):=(List.range a).flatMap fun a'=>rowP l a' l.length
noncomputable def prsL (l:List Int):List (Nat × Nat):=prsI l l.length
theorem rowP_zero (l:List Int) (a:Nat):rowP l a (a+1)=[]:=by
 unfold rowP;rw [List.map_eq_nil_iff,List.filter_eq_nil_iff];intro b hb;have:=List.mem_range.1 hb;rw [decide_eq_false (show ¬ a < b by omega)];simp
theorem rowP_succ {l:List Int} {a b:Nat} (h:a < b):rowP l a (b+1)=rowP l a b ++ (if metB l a b then [(a,b)] else []):=by
 unfold rowP;rw [List.range_succ,filter_snoc,List.map_append,decide_eq_true h];cases metB l a b <;> rfl
theorem prsI_succ (l:List Int) (a:Nat):prsI l (a+1)=prsI l a ++ rowP l a l.length:=by
 unfold prsI;rw [List.range_succ,List.flatMap_append];simp
theorem prs_mem {l:List Int} {x:Nat × Nat} (h:x ∈ prsL l):x.1 < x.2∧x.2 < l.length∧MetP l x.1 x.2:=by
 obtain ⟨a,ha,hx⟩:=List.mem_flatMap.1 h;obtain ⟨b,hb,rfl⟩:=List.mem_map.1 hx;obtain ⟨b1,b2⟩:=List.mem_filter.1 hb;rw [Bool.and_eq_true] at b2;exact ⟨of_decide_eq_true b2.1,List.mem_range.1 b1,of_decide_eq_true b2.2⟩
theorem prs_nil {l:List Int} (h:prsL l=[]):∀ a b,a < b→b < l.length→¬ MetP l a b:=fun a b h1 h2 h3=>by
 have:(a,b) ∈ prsL l:=List.mem_flatMap.2 ⟨a,List.mem_range.2 (by omega),List.mem_map.2 ⟨b,List.mem_filter.2 ⟨List.mem_range.2 h2,by rw [decide_eq_true h1];exact dt h3⟩,rfl⟩⟩;rw [h] at this;cases this
theorem rowP_len (l:List Int) (a i:Nat):(rowP l a i).length≤i:=by
 unfold rowP;rw [List.length_map];have:=List.length_filter_le (fun b=>decide (a < b) && metB l a b) (List.range i)
 rwa [List.length_range] at this
theorem prsI_len (l:List Int):∀ a,(prsI l a).length≤a * l.length
 | 0=>by unfold prsI;simp
 | a+1=>by
  have h1:=prsI_len l a;have h2:=rowP_len l a l.length;rw [prsI_succ,List.length_append,Nat.succ_mul];omega

def encP (L:List (Nat × Nat)):List Int:=L.flatMap fun x=>[(x.1:Int),(x.2:Int)]
theorem encP_app (A B:List (Nat × Nat)):encP (A ++ B)=encP A ++ encP B:=List.flatMap_append
theorem encP_len:∀ L:List (Nat × Nat),(encP L).length=2 * L.length
 | []=>rfl
 | x :: L=>by
  have h:=encP_len L;have e:encP (x :: L)=[(x.1:Int),(x.2:Int)] ++ encP L:=rfl;rw [e];simp only [List.length_append,List.length_cons,List.length_nil,h];omega
theorem encP_at:∀ {L:List (Nat × Nat)} {k:Nat} (h:k < L.length),((encP L).drop (2 * k)).take 2=[(L[k].1:Int),(L[k].2:Int)]
 | [],k,h=>by cases h
 | x :: L,0,h=>rfl
 | x :: L,k+1,h=>by
  show (([(x.1:Int),(x.2:Int)] ++ encP L).drop (2 * (k+1))).take 2=_;rw [show 2 * (k+1)=2 * k+2 by omega];exact encP_at (L:=L) (k:=k) (Nat.lt_of_succ_lt_succ h)

def pickP (p:List Int) (n m:Nat):Nat:=if p=[] then 0 else (Int.tmod (p.getD (n % p.length) 0) m).toNat

noncomputable def canF (p:List Int):Nat→Nat→List Int→List Int
 | 0,_,l=>l
 | f+1,n,l=>if prsL l=[] then l else canF p f (n+1) (nxL l ((prsL l).getD (pickP p n (prsL l).length) (0,0)).1 ((prsL l).getD (pickP p n (prsL l).length) (0,0)).2)

def PkOk (p:List Int):Prop:=∀ j,0≤p.getD j 0∧p.getD j 0≤255
theorem pick_lt {p:List Int} (hp:PkOk p) {n m:Nat} (hm:0 < m):pickP p n m < m:=by
 unfold pickP;split
 ·exact hm
 ·have h1:=hp (n % p.length);have h2:=Int.tmod_lt_of_pos (p.getD (n % p.length) 0) (show (0:Int) < m by omega);have h3:=Int.tmod_nonneg (m:Int) h1.1;omega
theorem can_ok {p:List Int} (hp:PkOk p):∀ (f n:Nat) (l:List Int),l.length < f→LetB l→Tq (redL [] l) (redL [] (canF p f n l))∧(∀ a b,a < b→b < (canF p f n l).length→¬ MetP (canF p f n l) a b)∧∀ z,z ∈ canF p f n l→z ∈ l
 | 0,n,l,h,_=>by omega
 | f+1,n,l,h,hB=>by
  unfold canF
  by_cases c:prsL l=[]
  ·rw [if_pos c];exact ⟨.refl _,prs_nil c,fun _=>id⟩
  ·rw [if_neg c];have hm:0 < (prsL l).length:=List.length_pos_iff.2 c;have hk:=pick_lt hp (n:=n) hm;obtain ⟨x,hx⟩:∃ x,(prsL l).getD (pickP p n (prsL l).length) (0,0)=x:=⟨_,rfl⟩;rw [hx];obtain ⟨q1,q2,q3⟩:=prs_mem (l:=l) (x:=x) (by rw [← hx,getD_at hk];exact List.getElem_mem hk);have hl:=nx_len q1 q2;obtain ⟨i1,i2,i3⟩:=can_ok hp f (n+1) (nxL l x.1 x.2) (by omega) (fun z hz=>hB z (nx_mem hz));exact ⟨(nx_red hB q1 q2 q3).trans i1,i2,fun z hz=>nx_mem (i3 z hz)⟩

theorem can_tq {p l:List Int} (hp:PkOk p) (hB:LetB l) (hs:∀ j,-1000≤l.getD j 0):Tq (canF p (l.length+1) 0 l) (ltsL l (tigT l)):=by
 obtain ⟨h1,h2,h3⟩:=can_ok hp (l.length+1) 0 l (Nat.lt_succ_self _) hB;have h4:=meet_rdc h2 _ (Nat.le_refl _);rw [List.take_length] at h4;have h5:=rdc_red h4;rw [List.reverse_reverse] at h5;rw [h5] at h1;have h6:=tq_rev h1;rw [List.reverse_reverse] at h6;rw [tigT_w hs];exact h6.symm

def remL:List Int→List Bool→List Int
 | x :: a,e :: d=>if e then remL a d else x :: remL a d
 | _,_=>[]
theorem rem_all:∀ (a:List Int),remL a (List.replicate a.length false)=a
 | []=>rfl
 | x :: a=>by
  show (if false=true then _ else x :: remL a (List.replicate a.length false))=_
  rw [if_neg (by simp),rem_all a]
theorem rem_step:∀ {a:List Int} {d:List Bool} {i:Nat} (_:i < a.length) (_:d.length=a.length),remL (a.drop i) (d.drop i)=if d.getD i false=true then remL (a.drop (i+1)) (d.drop (i+1)) else a.getD i 0 :: remL (a.drop (i+1)) (d.drop (i+1))
 | [],_,_,h,_=>by cases h
 | x :: a,[],_,_,h=>by cases h
 | x :: a,e :: d,0,_,_=>by cases e <;> rfl
 | x :: a,e :: d,i+1,h,hl=>rem_step (a:=a) (d:=d) (i:=i) (Nat.lt_of_succ_lt_succ h) (Nat.succ.inj hl)
theorem rem_cut:∀ {a:List Int} {d:List Bool} {i:Nat} (_:i < a.length) (_:d.length=a.length) (_:d.getD i false=false),∃ A,remL a d=A ++ remL (a.drop i) (d.drop i)∧remL a (d.set i true)=A ++ remL (a.drop (i+1)) (d.drop (i+1))
 | [],_,_,h,_,_=>by cases h
 | x :: a,[],_,_,h,_=>by cases h
 | x :: a,e :: d,0,_,_,h=>by
  have h:e=false:=h;subst h;exact ⟨[],rfl,rfl⟩
 | x :: a,e :: d,i+1,h,hl,hd=>by
  obtain ⟨A,h1,h2⟩:=rem_cut (a:=a) (d:=d) (i:=i) (Nat.lt_of_succ_lt_succ h) (Nat.succ.inj hl) hd
  cases e with
  | true=>exact ⟨A,h1,h2⟩
  | false=>
   refine ⟨x :: A,?_,?_⟩
   ·show x :: remL a d=x :: (A ++ _);rw [h1];rfl
   ·show x :: remL a (d.set i true)=x :: (A ++ _);rw [h2];rfl
end Go.Proofs.Ytfffbioafhppiaa.Ev
namespace Go.Proofs.Ytfffbioafhppiaa.Ev
open Go.Proofs
namespace RFre
end RFre
namespace RFrd
end RFrd
end Go.Proofs.Ytfffbioafhppiaa.Ev
namespace Go.Proofs.Ytfffbioafhppiaa.Ev

def sw (i x:Nat):Nat:=if x=i then i - 1 else if x+1=i then i else x
theorem sw_sw {i:Nat} (h:0 < i) (x:Nat):sw i (sw i x)=x:=by
 unfold sw;repeat' split
 all_goals omega

structure Pm (n:Nat) where
 f:Nat→Nat
 g:Nat→Nat
 fg:∀ x,f (g x)=x
 gf:∀ x,g (f x)=x
 out:∀ x,n≤x→f x=x
namespace Pm
variable {n:Nat}
theorem inj (p:Pm n) {x y:Nat} (h:p.f x=p.f y):x=y:=by rw [← p.gf x,← p.gf y,h]
theorem injg (p:Pm n) {x y:Nat} (h:p.g x=p.g y):x=y:=by rw [← p.fg x,← p.fg y,h]
theorem outg (p:Pm n) (x:Nat) (h:n≤x):p.g x=x:=by
 have:=p.out x h;have h2:=p.gf x;rw [this] at h2;exact h2
theorem lt (p:Pm n) {x:Nat} (h:x < n):p.f x < n:=by
 rcases Nat.lt_or_ge (p.f x) n with h1 | h1
 ·exact h1
 ·have h2:=p.outg _ h1;rw [p.gf] at h2;omega
theorem ltg (p:Pm n) {x:Nat} (h:x < n):p.g x < n:=by
 rcases Nat.lt_or_ge (p.g x) n with h1 | h1
 ·exact h1
 ·have h2:=p.out _ h1;rw [p.fg] at h2;omega
theorem ext {p q:Pm n} (h:∀ x,p.f x=q.f x):p=q:=by
 have h2:∀ x,p.g x=q.g x:=fun x=>by
  apply p.inj;rw [p.fg,h,q.fg]
 cases p;cases q;congr
 ·exact funext h
 ·exact funext h2

def L (i:Nat) (h:0 < i∧i < n) (p:Pm n):Pm n:=⟨fun x=>p.f (sw i x),fun x=>sw i (p.g x),fun x=>by rw [sw_sw h.1,p.fg],fun x=>by rw [p.gf,sw_sw h.1],fun x hx=>by
 have:sw i x=x:=by unfold sw;rw [if_neg (by omega),if_neg (by omega)]
 rw [this];exact p.out x hx⟩

def R (i:Nat) (h:0 < i∧i < n) (p:Pm n):Pm n:=⟨fun x=>sw i (p.f x),fun x=>p.g (sw i x),fun x=>by rw [p.fg,sw_sw h.1],fun x=>by rw [sw_sw h.1,p.gf],fun x hx=>by
 rw [p.out x hx];unfold sw;rw [if_neg (by omega),if_neg (by omega)]⟩

def beg (p:Pm n) (i:Nat):Prop:=p.f i < p.f (i - 1)

def fin (p:Pm n) (i:Nat):Prop:=p.g i < p.g (i - 1)
theorem nbeg {p:Pm n} {i:Nat} (h:0 < i):¬ p.beg i↔p.f (i - 1) < p.f i:=by
 unfold beg;constructor
 ·intro h1;rcases Nat.lt_or_ge (p.f (i - 1)) (p.f i) with h2 | h2
  ·exact h2
  ·have:p.f (i - 1)=p.f i:=by omega
   have:=p.inj this;omega
 ·intro h1;omega
theorem nfin {p:Pm n} {i:Nat} (h:0 < i):¬ p.fin i↔p.g (i - 1) < p.g i:=by
 unfold fin;constructor
 ·intro h1;rcases Nat.lt_or_ge (p.g (i - 1)) (p.g i) with h2 | h2
  ·exact h2
  ·have:p.g (i - 1)=p.g i:=by omega
   have:=p.injg this;omega
 ·intro h1;omega

theorem sw_lt {i x y:Nat} (h:0 < i) (hxy:x < y) (hs:sw i y < sw i x):x+1=i∧y=i:=by
 unfold sw at hs
 repeat' split at hs
 all_goals omega
theorem sw_keep {i x y:Nat} (h:0 < i) (hxy:x < y) (hn:¬ (x+1=i∧y=i)):sw i x < sw i y:=by
 unfold sw
 repeat' split
 all_goals omega

theorem fin_of_L {p:Pm n} {i j:Nat} (hi:0 < i∧i < n) (hj:0 < j) (hb:p.beg i) (h:(L i hi p).fin j):p.fin j:=by
 apply Classical.byContradiction;intro hn;have h1:=(nfin hj).1 hn;have h2:sw i (p.g j) < sw i (p.g (j - 1)):=h;obtain ⟨h3,h4⟩:=sw_lt hi.1 h1 h2;have h5:p.f i=j:=by rw [← h4,p.fg]
 have h6:p.f (i - 1)=j - 1:=by rw [show i - 1=p.g (j - 1) by omega,p.fg]
 unfold beg at hb;omega

theorem beg_R {p:Pm n} {i j:Nat} (hj:0 < j∧j < n) (hi:0 < i) (hb:p.beg i) (hf:¬ p.fin j):(R j hj p).beg i:=by
 show sw j (p.f i) < sw j (p.f (i - 1));apply sw_keep hj.1 hb
 rintro ⟨h1,h2⟩
 have h3:p.g j=i - 1:=by rw [← h2,p.gf]
 have h4:p.g (j - 1)=i:=by rw [show j - 1=p.f i by omega,p.gf]
 have:=(nfin hj.1).1 hf;omega
end Pm


inductive Mv {n:Nat}:List (Pm n)→List (Pm n)→Prop
 | here (a b:Pm n) (l:List (Pm n)) (i:Nat) (hi:0 < i∧i < n) (hb:b.beg i) (hf:¬ a.fin i):Mv (a :: b :: l) (a.R i hi :: b.L i hi :: l)
 | there (a:Pm n) {l m:List (Pm n)} (h:Mv l m):Mv (a :: l) (a :: m)
inductive Mvs {n:Nat}:List (Pm n)→List (Pm n)→Prop
 | refl (s:List (Pm n)):Mvs s s
 | step {s t u:List (Pm n)} (h:Mv s t) (k:Mvs t u):Mvs s u
variable {n:Nat}
theorem Mvs.trans {s t u:List (Pm n)} (h:Mvs s t) (k:Mvs t u):Mvs s u:=by
 induction h with
 | refl s=>exact k
 | step h _ ih=>exact .step h (ih k)
theorem Mvs.one {s t:List (Pm n)} (h:Mv s t):Mvs s t:=.step h (.refl _)
theorem Mvs.there (a:Pm n) {s t:List (Pm n)} (h:Mvs s t):Mvs (a :: s) (a :: t):=by
 induction h with
 | refl s=>exact .refl _
 | step h _ ih=>exact .step (.there a h) ih
theorem Mv.app {s t:List (Pm n)} (r:List (Pm n)) (h:Mv s t):Mv (s ++ r) (t ++ r):=by
 induction h with
 | here a b l i hi hb hf=>exact .here a b (l ++ r) i hi hb hf
 | there a _ ih=>exact .there a ih
theorem Mvs.app {s t:List (Pm n)} (r:List (Pm n)) (h:Mvs s t):Mvs (s ++ r) (t ++ r):=by
 induction h with
 | refl s=>exact .refl _
 | step h _ ih=>exact .step (h.app r) ih
theorem Mv.len {s t:List (Pm n)} (h:Mv s t):t.length=s.length:=by
 induction h with
 | here=>rfl
 | there a _ ih=>simp [ih]
theorem Mvs.len {s t:List (Pm n)} (h:Mvs s t):t.length=s.length:=by
 induction h with
 | refl=>rfl
 | step h _ ih=>rw [ih,h.len]
namespace Pm
theorem sw_comm {i j:Nat} (h:i+2≤j) (hi:0 < i) (x:Nat):sw i (sw j x)=sw j (sw i x):=by
 unfold sw
 repeat' split
 all_goals omega
theorem sw_at (i:Nat):sw i i=i - 1:=by unfold sw;rw [if_pos rfl]
theorem sw_pre {i:Nat} (h:0 < i):sw i (i - 1)=i:=by unfold sw;rw [if_neg (by omega),if_pos (by omega)]
theorem sw_ne {i x:Nat} (h1:x≠i) (h2:x+1≠i):sw i x=x:=by unfold sw;rw [if_neg h1,if_neg h2]
theorem sw_braid {i:Nat} (hi:0 < i) (x:Nat):sw i (sw (i+1) (sw i x))=sw (i+1) (sw i (sw (i+1) x)):=by
 have s1:sw i (i+1)=i+1:=sw_ne (by omega) (by omega);have s2:sw (i+1) (i - 1)=i - 1:=sw_ne (by omega) (by omega);have s3:sw (i+1) (i+1)=i:=sw_at (i+1);have s4:sw (i+1) i=i+1:=sw_pre (i:=i+1) (by omega);have s5:=sw_at i;have s6:=sw_pre hi
 by_cases h1:x=i - 1
 ·rw [h1,s6,s4,s1,s2,s6,s4]
 ·by_cases h2:x=i
  ·rw [h2,s5,s2,s6,s4,s1,s3]
  ·by_cases h3:x=i+1
   ·rw [h3,s1,s3,s5,s2]
   ·rw [sw_ne (i:=i) (x:=x) (by omega) (by omega),sw_ne (i:=i+1) (x:=x) (by omega) (by omega),sw_ne (i:=i) (x:=x) (by omega) (by omega),sw_ne (i:=i+1) (x:=x) (by omega) (by omega)]

theorem here2 (a b:Pm n) (l:List (Pm n)) {i j:Nat} (hi:0 < i∧i < n) (hj:0 < j∧j < n) (hij:i < j) (hb:b.beg i) (hb2:b.beg j) (hf:¬ a.fin i) (hf2:¬ a.fin j) :
  ∃ u,Mvs (a.R i hi :: b.L i hi :: l) u∧Mvs (a.R j hj :: b.L j hj :: l) u:=by
 have f1:=(nfin hi.1).1 hf;have f2:=(nfin hj.1).1 hf2;unfold beg at hb hb2
 by_cases h:i+2≤j
 ·refine ⟨(a.R i hi).R j hj :: (b.L i hi).L j hj :: l,.one (.here _ _ _ j hj ?_ ?_),?_⟩
  ·show b.f (sw i j) < b.f (sw i (j - 1));rw [sw_ne (by omega) (by omega),sw_ne (by omega) (by omega)];exact hb2
  ·rw [nfin hj.1];show a.g (sw i (j - 1)) < a.g (sw i j);rw [sw_ne (by omega) (by omega),sw_ne (by omega) (by omega)];exact f2
  ·have e1:(a.R i hi).R j hj=(a.R j hj).R i hi:=ext fun x=>(sw_comm h hi.1 _).symm;have e2:(b.L i hi).L j hj=(b.L j hj).L i hi:=ext fun x=>by
    show b.f (sw i (sw j x))=b.f (sw j (sw i x));rw [sw_comm h hi.1]
   rw [e1,e2];refine .one (.here _ _ _ i hi ?_ ?_)
   ·show b.f (sw j i) < b.f (sw j (i - 1));rw [sw_ne (by omega) (by omega),sw_ne (by omega) (by omega)];exact hb
   ·rw [nfin hi.1];show a.g (sw j (i - 1)) < a.g (sw j i);rw [sw_ne (by omega) (by omega),sw_ne (by omega) (by omega)];exact f1
 ·have hj2:j=i+1:=by omega
  subst hj2;rw [show i+1 - 1=i by omega] at f2 hb2;have s1:sw i (i+1)=i+1:=sw_ne (by omega) (by omega);have s2:sw (i+1) (i - 1)=i - 1:=sw_ne (by omega) (by omega);have s3:sw (i+1) (i+1)=i:=sw_at (i+1);have s4:sw (i+1) i=i+1:=sw_pre (i:=i+1) (by omega);have s5:=sw_at i;have s6:=sw_pre hi.1;refine ⟨((a.R i hi).R (i+1) hj).R i hi :: ((b.L i hi).L (i+1) hj).L i hi :: l,.step (.here _ _ _ (i+1) hj ?_ ?_) (.one (.here _ _ _ i hi ?_ ?_)),?_⟩
  ·show b.f (sw i (i+1)) < b.f (sw i i);rw [s1,s5];omega
  ·rw [nfin hj.1];show a.g (sw i i) < a.g (sw i (i+1));rw [s1,s5];omega
  ·show b.f (sw i (sw (i+1) i)) < b.f (sw i (sw (i+1) (i - 1)));rw [s4,s2,s1,s6];exact hb2
  ·rw [nfin hi.1];show a.g (sw i (sw (i+1) (i - 1))) < a.g (sw i (sw (i+1) i));rw [s4,s2,s1,s6];exact f2
  ·have e1:((a.R i hi).R (i+1) hj).R i hi=((a.R (i+1) hj).R i hi).R (i+1) hj:=ext fun x=>sw_braid hi.1 _;have e2:((b.L i hi).L (i+1) hj).L i hi=((b.L (i+1) hj).L i hi).L (i+1) hj:=ext fun x=>by
    show b.f (sw i (sw (i+1) (sw i x)))=b.f (sw (i+1) (sw i (sw (i+1) x)));rw [sw_braid hi.1]
   rw [e1,e2];refine .step (.here _ _ _ i hi ?_ ?_) (.one (.here _ _ _ (i+1) hj ?_ ?_))
   ·show b.f (sw (i+1) i) < b.f (sw (i+1) (i - 1));rw [s4,s2];omega
   ·rw [nfin hi.1];show a.g (sw (i+1) (i - 1)) < a.g (sw (i+1) i);rw [s4,s2];omega
   ·show b.f (sw (i+1) (sw i (i+1))) < b.f (sw (i+1) (sw i i));rw [s1,s5,s3,s2];exact hb
   ·rw [nfin hj.1];show a.g (sw (i+1) (sw i i)) < a.g (sw (i+1) (sw i (i+1)));rw [s1,s5,s3,s2];exact f1
end Pm

theorem Mv.join {s t1 t2:List (Pm n)} (h:Mv s t1) (k:Mv s t2):∃ u,Mvs t1 u∧Mvs t2 u:=by
 induction h generalizing t2 with
 | here a b l i hi hb hf=>
  cases k with
  | here _ _ _ j hj hb2 hf2=>
   rcases Nat.lt_trichotomy i j with h | h | h
   ·exact Pm.here2 a b l hi hj h hb hb2 hf hf2
   ·subst h;exact ⟨_,.refl _,.refl _⟩
   ·obtain ⟨u,h1,h2⟩:=Pm.here2 a b l hj hi h hb2 hb hf2 hf;exact ⟨u,h2,h1⟩
  | there _ k=>
   cases k with
   | here _ c m j hj hb2 hf2=>exact ⟨a.R i hi :: (b.L i hi).R j hj :: c.L j hj :: m,.one (.there _ (.here _ _ _ j hj hb2 (fun e=>hf2 (Pm.fin_of_L hi hj.1 hb e)))),.one (.here a (b.R j hj) _ i hi (Pm.beg_R hj hi.1 hb hf2) hf)⟩
   | there _ k=>exact ⟨a.R i hi :: b.L i hi :: _,.one (.there _ (.there _ k)),.one (.here a b _ i hi hb hf)⟩
 | there a h ih=>
  cases k with
  | here _ b l i hi hb hf=>
   cases h with
   | here _ c m j hj hb2 hf2=>exact ⟨a.R i hi :: (b.L i hi).R j hj :: c.L j hj :: m,.one (.here a (b.R j hj) _ i hi (Pm.beg_R hj hi.1 hb hf2) hf),.one (.there _ (.here _ _ _ j hj hb2 (fun e=>hf2 (Pm.fin_of_L hi hj.1 hb e))))⟩
   | there _ k=>exact ⟨a.R i hi :: b.L i hi :: _,.one (.here a b _ i hi hb hf),.one (.there _ (.there _ k))⟩
  | there _ k=>
   obtain ⟨u,k1,k2⟩:=ih k;exact ⟨a :: u,k1.there a,k2.there a⟩

def Sum (F:Nat→Nat):Nat→Nat
 | 0=>0
 | k+1=>Sum F k+F k
theorem Sum_eq {F G:Nat→Nat}:∀ k:Nat,(∀ x,x < k→F x=G x)→Sum F k=Sum G k
 | 0,_=>rfl
 | k+1,h=>by
  show Sum F k+F k=Sum G k+G k;rw [Sum_eq k (fun x hx=>h x (by omega)),h k (by omega)]
theorem Sum_one {F G:Nat→Nat} {p:Nat}:∀ k:Nat,p < k→(∀ x,x < k→x≠p→F x=G x)→Sum F k+G p=Sum G k+F p
 | k+1,hp,h=>by
  show Sum F k+F k+G p=Sum G k+G k+F p
  by_cases e:p=k
  ·subst e;rw [Sum_eq (G:=G) p (fun x hx=>h x (by omega) (by omega))];omega
  ·have:=Sum_one (F:=F) (G:=G) k (by omega) (fun x hx=>h x (by omega));rw [h k (by omega) (by omega)];omega
theorem Sum_two {F G:Nat→Nat} {p q:Nat}:∀ k:Nat,p < q→q < k→(∀ x,x < k→x≠p→x≠q→F x=G x)→Sum F k+G p+G q=Sum G k+F p+F q
 | k+1,hp,hq,h=>by
  show Sum F k+F k+G p+G q=Sum G k+G k+F p+F q
  by_cases e:q=k
  ·subst e;have:=Sum_one (F:=F) (G:=G) q hp (fun x hx hn=>h x (by omega) hn (by omega));omega
  ·have:=Sum_two (F:=F) (G:=G) k hp (by omega) (fun x hx=>h x (by omega));rw [h k (by omega) (by omega) (by omega)];omega
theorem Sum_le {F:Nat→Nat} {b:Nat}:∀ k:Nat,(∀ x,x < k→F x≤b)→Sum F k≤k * b
 | 0,_=>Nat.zero_le _
 | k+1,h=>by
  show Sum F k+F k≤_;have h1:=Sum_le k (fun x hx=>h x (by omega));have h2:=h k (by omega);rw [Nat.succ_mul];omega
namespace Pm
def W (p:Pm n):Nat:=Sum (fun x=>x * p.f x) n
theorem W_le (p:Pm n):p.W≤n * (n * n):=Sum_le n fun x hx=>Nat.mul_le_mul (by omega) (by have:=p.lt hx;omega)

theorem W_R (p:Pm n) {i:Nat} (hi:0 < i∧i < n) (h:¬ p.fin i):(p.R i hi).W < p.W:=by
 have h1:=(nfin hi.1).1 h;have h2:=p.ltg hi.2;have h3:=Sum_two (F:=fun x=>x * (p.R i hi).f x) (G:=fun x=>x * p.f x) n h1 h2 (fun x hx n1 n2=>by
  show x * sw i (p.f x)=x * p.f x;rw [sw_ne (fun e=>n2 (by rw [← e,p.gf])) (fun e=>n1 (by rw [show i - 1=p.f x by omega,p.gf]))])
 have e1:(p.R i hi).f (p.g (i - 1))=i:=by show sw i (p.f (p.g (i - 1)))=i;rw [p.fg,sw_pre hi.1]
 have e2:(p.R i hi).f (p.g i)=i - 1:=by show sw i (p.f (p.g i))=_;rw [p.fg,sw_at]
 simp only [e1,e2,p.fg] at h3;show Sum _ n < Sum _ n;have m1:p.g (i - 1) * i=p.g (i - 1) * (i - 1)+p.g (i - 1):=by
  conv=>lhs;rw [show i=(i - 1)+1 by omega]
  rw [Nat.mul_succ];rfl
 have m2:p.g i * i=p.g i * (i - 1)+p.g i:=by
  conv=>lhs;rw [show i=(i - 1)+1 by omega]
  rw [Nat.mul_succ,show i - 1+1=i by omega]
 omega
end Pm

def mu:List (Pm n)→Nat
 | []=>0
 | a :: l=>a.W * (n * (n * n)+1) ^ l.length+mu l
theorem mu_lt:∀ l:List (Pm n),mu l < (n * (n * n)+1) ^ l.length
 | []=>by simp [mu]
 | a :: l=>by
  show a.W * _+mu l < (n * (n * n)+1) ^ (l.length+1);have h1:=mu_lt l;have h2:=a.W_le;have h3:=Nat.mul_le_mul_right ((n * (n * n)+1) ^ l.length) h2;rw [Nat.pow_succ,Nat.mul_comm _ (n * (n * n)+1),Nat.succ_mul];omega
theorem Mv.mu {s t:List (Pm n)} (h:Mv s t):Ev.mu t < Ev.mu s:=by
 induction h with
 | here a b l i hi hb hf=>
  show (a.R i hi).W * (n * (n * n)+1) ^ (l.length+1)+Ev.mu (b.L i hi :: l) < a.W * (n * (n * n)+1) ^ (l.length+1)+Ev.mu (b :: l);have h1:=mu_lt (b.L i hi :: l);have h2:=a.W_R hi hf;have h3:=Nat.mul_le_mul_right ((n * (n * n)+1) ^ (l.length+1)) (Nat.succ_le_of_lt h2);rw [Nat.succ_mul] at h3;rw [List.length_cons] at h1;omega
 | there a h ih=>
  show a.W * _+_ < a.W * _+_;rw [h.len];omega

def Nrm (s:List (Pm n)):Prop:=∀ t,¬ Mv s t
theorem nrm_one {s t:List (Pm n)} (hs:Nrm s) (h:Mvs s t):t=s:=by
 cases h with
 | refl=>rfl
 | step h _=>exact absurd h (hs _)
theorem nrm_ex:∀ (k:Nat) (s:List (Pm n)),mu s≤k→∃ t,Mvs s t∧Nrm t
 | k,s,h=>by
  by_cases hs:Nrm s
  ·exact ⟨s,.refl _,hs⟩
  ·have hs:∃ t,Mv s t:=Classical.byContradiction fun e=>hs fun t ht=>e ⟨t,ht⟩;obtain ⟨t,ht⟩:=hs;have:=ht.mu
   match k with
   | 0=>omega
   | k+1=>
    obtain ⟨u,h1,h2⟩:=nrm_ex k t (by omega);exact ⟨u,.step ht h1,h2⟩

theorem nrm_uni:∀ (k:Nat) (s:List (Pm n)),mu s≤k→∀ {t u:List (Pm n)},Mvs s t→Mvs s u→Nrm t→Nrm u→t=u
 | k,s,hk,t,u,h1,h2,n1,n2=>by
  cases h1 with
  | refl=>exact (nrm_one n1 h2).symm
  | step m1 r1=>
   cases h2 with
   | refl=>exact absurd m1 (n2 _)
   | step m2 r2=>
    obtain ⟨v,j1,j2⟩:=m1.join m2;obtain ⟨w,w1,w2⟩:=nrm_ex _ v (Nat.le_refl _);have q1:=m1.mu;have q2:=m2.mu
    match k with
    | 0=>omega
    | k+1=>exact (nrm_uni k _ (by omega) r1 (j1.trans w1) n1 w2).trans (nrm_uni k _ (by omega) (j2.trans w1) r2 w2 n2)
noncomputable def NF (s:List (Pm n)):List (Pm n):=Classical.choose (nrm_ex (mu s) s (Nat.le_refl _))
theorem NF_mv (s:List (Pm n)):Mvs s (NF s):=(Classical.choose_spec (nrm_ex (mu s) s (Nat.le_refl _))).1
theorem NF_nrm (s:List (Pm n)):Nrm (NF s):=(Classical.choose_spec (nrm_ex (mu s) s (Nat.le_refl _))).2
theorem NF_of {s t:List (Pm n)} (h:Mvs s t) (k:Nrm t):NF s=t:=nrm_uni _ s (Nat.le_refl _) (NF_mv s) h (NF_nrm s) k
def Lw (a b:Pm n):Prop:=∀ i:Nat,0 < i→i < n→b.beg i→a.fin i
theorem nrm_cons {a b:Pm n} {l:List (Pm n)}:Nrm (a :: b :: l)↔Lw a b∧Nrm (b :: l):=by
 constructor
 ·intro h;refine ⟨fun i h1 h2 hb=>Classical.byContradiction fun hf=>h _ (.here a b l i ⟨h1,h2⟩ hb hf),fun t ht=>h _ (.there a ht)⟩
 ·rintro ⟨h1,h2⟩ t ht
  cases ht with
  | here _ _ _ i hi hb hf=>exact hf (h1 i hi.1 hi.2 hb)
  | there _ h=>exact h2 _ h
theorem nrm_single (a:Pm n):Nrm [a]:=fun t ht=>by
 cases ht with
 | there _ h=>cases h
end Go.Proofs.Ytfffbioafhppiaa.Ev
namespace Go.Proofs.Ytfffbioafhppiaa.Ev
variable {n:Nat}
namespace Pm

def one (n:Nat):Pm n:=⟨fun x=>x,fun x=>x,fun _=>rfl,fun _=>rfl,fun _ _=>rfl⟩
def rv (n x:Nat):Nat:=if x < n then n - 1 - x else x
theorem rv_rv (n x:Nat):rv n (rv n x)=x:=by
 unfold rv
 by_cases h:x < n
 ·rw [if_pos h,if_pos (by omega)];omega
 ·rw [if_neg h,if_neg h]

def del (n:Nat):Pm n:=⟨rv n,rv n,rv_rv n,rv_rv n,fun x h=>by unfold rv;rw [if_neg (by omega)]⟩

theorem del_fin {i:Nat} (h:0 < i) (h2:i < n):(del n).fin i:=by
 show rv n i < rv n (i - 1);unfold rv;rw [if_pos h2,if_pos (by omega)];omega
theorem one_beg (i:Nat) (h:0 < i):¬ (one n).beg i:=by
 rw [nbeg h];show i - 1 < i;omega

theorem inc_id {f:Nat→Nat} (hf:∀ x,x < n→f x < n) (h:∀ i,0 < i→i < n→f (i - 1) < f i):∀ x,x < n→f x=x:=by
 have lo:∀ x,x < n→x≤f x:=by
  intro x
  induction x with
  | zero=>intro _;exact Nat.zero_le _
  | succ x ih=>
   intro hx;have h1:=ih (by omega);have h2:=h (x+1) (by omega) hx;rw [Nat.add_sub_cancel] at h2;omega
 have hi:∀ d x,x+d=n→0 < d→f x≤x:=by
  intro d
  induction d with
  | zero=>intro x _ h0;omega
  | succ d ih=>
   intro x hx _
   by_cases hd:d=0
   ·have:=hf x (by omega);omega
   ·have h1:=ih (x+1) (by omega) (by omega);have h2:=h (x+1) (by omega) (by omega);rw [Nat.add_sub_cancel] at h2;omega
 intro x hx;have:=lo x hx;have:=hi (n - x) x (by omega) (by omega);omega
theorem one_of {p:Pm n} (h:∀ i,0 < i→i < n→¬ p.beg i):p=one n:=ext fun x=>by
 by_cases hx:x < n
 ·exact inc_id (fun x h=>p.lt h) (fun i h1 h2=>(nbeg h1).1 (h i h1 h2)) x hx
 ·exact p.out x (by omega)
theorem del_of {p:Pm n} (h:∀ i,0 < i→i < n→p.fin i):p=del n:=by
 have key:∀ x,p.g x=rv n x:=by
  intro x
  by_cases hx:x < n
  ·have h1:=inc_id (n:=n) (f:=fun y=>p.g (n - 1 - y)) (fun y hy=>p.ltg (by omega)) (fun i h1 h2=>by
    have h3:=h (n - i) (by omega) (by omega);unfold fin at h3;show p.g (n - 1 - (i - 1)) < p.g (n - 1 - i);rw [show n - 1 - (i - 1)=n - i by omega,show n - 1 - i=n - i - 1 by omega];exact h3) (n - 1 - x) (by omega)
   have h2:p.g (n - 1 - (n - 1 - x))=n - 1 - x:=h1;rw [show n - 1 - (n - 1 - x)=x by omega] at h2;unfold rv;rw [if_pos hx];exact h2
  ·rw [p.outg x (by omega)];unfold rv;rw [if_neg hx]
 apply ext;intro x;apply p.injg;rw [p.gf,key];exact (rv_rv n x).symm
end Pm
theorem Lw_del (b:Pm n):Lw (Pm.del n) b:=fun i h1 h2 _=>Pm.del_fin h1 h2
theorem Lw_one (a:Pm n):Lw a (Pm.one n):=fun i h1 _ hb=>absurd hb (Pm.one_beg i h1)
theorem one_Lw {b:Pm n} (h:Lw (Pm.one n) b):b=Pm.one n:=Pm.one_of fun i h1 h2 hb=>by
 have h3:i < i - 1:=h i h1 h2 hb;omega
theorem Lw_is_del {a:Pm n} (h:Lw a (Pm.del n)):a=Pm.del n:=Pm.del_of fun i h1 h2=>h i h1 h2 (by
 show Pm.rv n i < Pm.rv n (i - 1);unfold Pm.rv;rw [if_pos h2,if_pos (by omega)];omega)

theorem nrm_app {a b:Pm n} {l:List (Pm n)}:Nrm (l ++ [a,b])↔Nrm (l ++ [a])∧Lw a b:=by
 induction l with
 | nil=>exact ⟨fun h=>⟨nrm_single a,(nrm_cons.1 h).1⟩,fun h=>nrm_cons.2 ⟨h.2,nrm_single b⟩⟩
 | cons x l ih=>
  cases l with
  | nil=>
   show Nrm (x :: a :: [b])↔Nrm [x,a]∧_;rw [nrm_cons,nrm_cons,nrm_cons];exact ⟨fun h=>⟨⟨h.1,nrm_single a⟩,h.2.1⟩,fun h=>⟨h.1.1,h.2,nrm_single b⟩⟩
  | cons y l=>
   show Nrm (x :: y :: (l ++ [a,b]))↔Nrm (x :: y :: (l ++ [a]))∧_;rw [nrm_cons,nrm_cons,show y :: (l ++ [a,b])=y :: l ++ [a,b] from rfl,ih]
   exact ⟨fun h=>⟨⟨h.1,h.2.1⟩,h.2.2⟩,fun h=>⟨h.1.1,h.1.2,h.2⟩⟩
structure Rep (l:List (Pm n)) (m:Nat) (F:List (Pm n)):Prop where
 eq:∃ r,NF l=List.replicate m (Pm.del n) ++ (F ++ List.replicate r (Pm.one n))
 no1:∀ p,p ∈ F→p≠Pm.one n
 noD:∀ p,p ∈ F→p≠Pm.del n
theorem nrm_dels {F:List (Pm n)} (h:Nrm F):∀ m:Nat,Nrm (List.replicate m (Pm.del n) ++ F)
 | 0=>h
 | m+1=>by
  have ih:=nrm_dels h m;rw [List.replicate_succ]
  cases hx:List.replicate m (Pm.del n) ++ F with
  | nil=>rw [List.cons_append,hx];exact nrm_single _
  | cons b l=>rw [List.cons_append,hx];rw [hx] at ih;exact nrm_cons.2 ⟨Lw_del b,ih⟩
theorem nrm_ones {F:List (Pm n)} (h:Nrm F):∀ r:Nat,Nrm (F ++ List.replicate r (Pm.one n))
 | 0=>by rw [List.replicate_zero,List.append_nil];exact h
 | r+1=>by
  have ih:=nrm_ones h r;rw [List.replicate_succ'];rw [← List.append_assoc]
  cases hx:(F ++ List.replicate r (Pm.one n)).reverse with
  | nil=>
   have:F ++ List.replicate r (Pm.one n)=[]:=by rw [← List.reverse_reverse (F ++ _),hx];rfl
   rw [this];exact nrm_single _
  | cons b l=>
   have:F ++ List.replicate r (Pm.one n)=l.reverse ++ [b]:=by rw [← List.reverse_reverse (F ++ _),hx,List.reverse_cons]
   rw [this] at ih ⊢;rw [List.append_assoc];exact nrm_app.2 ⟨ih,Lw_one b⟩
theorem nrm_shape:∀ {s:List (Pm n)},Nrm s→∃ (m:Nat) (F:List (Pm n)) (r:Nat),s=List.replicate m (Pm.del n) ++ (F ++ List.replicate r (Pm.one n))∧(∀ p,p ∈ F→p≠Pm.one n)∧∀ p,p ∈ F→p≠Pm.del n
 | [],_=>⟨0,[],0,rfl,fun p hp=>(by cases hp),fun p hp=>(by cases hp)⟩
 | a :: s,h=>by
  obtain ⟨m,F,r,h1,h2,h3⟩:=nrm_shape (fun t ht=>h _ (.there a ht):Nrm s)
  by_cases ha:a=Pm.del n
  ·exact ⟨m+1,F,r,by rw [h1,ha,List.replicate_succ];rfl,h2,h3⟩
  ·have hm:m=0:=by
    cases m with
    | zero=>rfl
    | succ m=>
     rw [h1,List.replicate_succ,List.cons_append] at h;exact absurd (Lw_is_del (nrm_cons.1 h).1) ha
   subst hm
   by_cases hb:a=Pm.one n
   ·have hF:F=[]:=by
     cases F with
     | nil=>rfl
     | cons b F=>
      rw [h1,List.replicate_zero,List.nil_append,List.cons_append,hb] at h;exact absurd (one_Lw (nrm_cons.1 h).1) (h2 b List.mem_cons_self)
    subst hF;exact ⟨0,[],r+1,by rw [h1,hb];rfl,fun p hp=>(by cases hp),fun p hp=>(by cases hp)⟩
   ·refine ⟨0,a :: F,r,by rw [h1];rfl,fun p hp=>?_,fun p hp=>?_⟩
    ·rcases List.mem_cons.1 hp with rfl | hp
     ·exact hb
     ·exact h2 p hp
    ·rcases List.mem_cons.1 hp with rfl | hp
     ·exact ha
     ·exact h3 p hp
theorem rep_ex (l:List (Pm n)):∃ m F,Rep l m F:=by
 obtain ⟨m,F,r,h1,h2,h3⟩:=nrm_shape (NF_nrm l);exact ⟨m,F,⟨r,h1⟩,h2,h3⟩
end Go.Proofs.Ytfffbioafhppiaa.Ev
namespace Go.Proofs.Ytfffbioafhppiaa.Ev
variable {n:Nat}

def E (s t:Int × List (Pm n)):Prop:=∃ (m m':Nat) (F:List (Pm n)),Rep s.2 m F∧Rep t.2 m' F∧s.1+m=t.1+m'
theorem E.one (pw:Int) (l:List (Pm n)):E (pw,l ++ [Pm.one n]) (pw,l):=by
 obtain ⟨m,F,⟨r,h1⟩,h2,h3⟩:=rep_ex l;refine ⟨m,m,F,⟨⟨r+1,?_⟩,h2,h3⟩,⟨⟨r,h1⟩,h2,h3⟩,rfl⟩;have h4:NF (l ++ [Pm.one n])=NF l ++ List.replicate 1 (Pm.one n):=NF_of ((NF_mv l).app _) (nrm_ones (NF_nrm l) 1);rw [h4,h1,← List.replicate_append_replicate];simp only [List.append_assoc]

end Go.Proofs.Ytfffbioafhppiaa.Ev
namespace Go.Proofs.Ytfffbioafhppiaa.Ev
variable {n:Nat}
namespace Pm
end Pm

end Go.Proofs.Ytfffbioafhppiaa.Ev
namespace Go.Proofs.Ytfffbioafhppiaa.Ev
variable {n:Nat}
end Go.Proofs.Ytfffbioafhppiaa.Ev
namespace Go.Proofs.Ytfffbioafhppiaa.Ev
variable {n:Nat}

end Go.Proofs.Ytfffbioafhppiaa.Ev
namespace Go.Proofs.Ytfffbioafhppiaa.Ev
variable {n:Nat}

end Go.Proofs.Ytfffbioafhppiaa.Ev
namespace Go.Proofs.Ytfffbioafhppiaa.Ev
variable {n:Nat}

inductive Cn (n:Nat):List Int→List Int→Prop
 | refl (u:List Int):Cn n u u
 | symm {u v:List Int} (h:Cn n u v):Cn n v u
 | trans {u v w:List Int} (h:Cn n u v) (k:Cn n v w):Cn n u w
 | undo (a b:List Int) (i:Int) (h:0 < i.natAbs∧i.natAbs < n):Cn n (a ++ ([i,-i] ++ b)) (a ++ b)
 | far (a b:List Int) (i j:Nat) (hi:0 < i) (hij:i+2≤j) (hj:j < n):Cn n (a ++ ([(i:Int),(j:Int)] ++ b)) (a ++ ([(j:Int),(i:Int)] ++ b))
 | braid (a b:List Int) (i:Nat) (hi:0 < i) (hj:i+1 < n):Cn n (a ++ ([(i:Int),((i+1:Nat):Int),(i:Int)] ++ b)) (a ++ ([((i+1:Nat):Int),(i:Int),((i+1:Nat):Int)] ++ b))
theorem Cn.pre {u v:List Int} (h:Cn n u v) (a:List Int):Cn n (a ++ u) (a ++ v):=by
 induction h with
 | refl u=>exact .refl _
 | symm _ ih=>exact ih.symm
 | trans _ _ h1 h2=>exact h1.trans h2
 | undo c d i h=>
  have:=Cn.undo (n:=n) (a ++ c) d i h;rw [List.append_assoc,List.append_assoc] at this;exact this
 | far c d i j h1 h2 h3=>
  have:=Cn.far (n:=n) (a ++ c) d i j h1 h2 h3;rw [List.append_assoc,List.append_assoc] at this;exact this
 | braid c d i h1 h2=>
  have:=Cn.braid (n:=n) (a ++ c) d i h1 h2;rw [List.append_assoc,List.append_assoc] at this;exact this
theorem Cn.cons {u v:List Int} (h:Cn n u v) (x:Int):Cn n (x :: u) (x :: v):=h.pre [x]
namespace Pm
theorem W_L (p:Pm n) {i:Nat} (hi:0 < i∧i < n) (h:p.beg i):p.W < (p.L i hi).W:=by
 have h3:=Sum_two (F:=fun x=>x * (p.L i hi).f x) (G:=fun x=>x * p.f x) n (p:=i - 1) (q:=i) (by omega) hi.2 (fun x hx n1 n2=>by
  show x * p.f (sw i x)=x * p.f x;rw [Pm.sw_ne n2 (by omega)])
 have e1:(p.L i hi).f (i - 1)=p.f i:=by show p.f (sw i (i - 1))=_;rw [Pm.sw_pre hi.1]
 have e2:(p.L i hi).f i=p.f (i - 1):=by show p.f (sw i i)=_;rw [Pm.sw_at]
 simp only [e1,e2] at h3;show Sum _ n < Sum _ n;have h:p.f i < p.f (i - 1):=h;obtain ⟨k,rfl⟩:∃ k,i=k+1:=⟨i - 1,by omega⟩;rw [Nat.add_sub_cancel] at h h3;rw [Nat.succ_mul,Nat.succ_mul] at h3;omega
end Pm

inductive Rd {n:Nat}:Pm n→List Int→Prop
 | one:Rd (Pm.one n) []
 | cons (p:Pm n) (i:Nat) (hi:0 < i∧i < n) (hb:p.beg i) {u:List Int} (h:Rd (p.L i hi) u):Rd p ((i:Int) :: u)
theorem Rd.ex:∀ (k:Nat) (p:Pm n),n * (n * n) - p.W≤k→∃ u,Rd p u
 | k,p,hk=>by
  by_cases h:∃ i,0 < i∧i < n∧p.beg i
  ·obtain ⟨i,h1,h2,h3⟩:=h;have h4:=p.W_L ⟨h1,h2⟩ h3;have h5:=(p.L i ⟨h1,h2⟩).W_le
   match k with
   | 0=>omega
   | k+1=>
    obtain ⟨u,hu⟩:=Rd.ex k (p.L i ⟨h1,h2⟩) (by omega);exact ⟨_,.cons p i ⟨h1,h2⟩ h3 hu⟩
  ·have:p=Pm.one n:=Pm.one_of fun i h1 h2 h3=>h ⟨i,h1,h2,h3⟩;subst this;exact ⟨[],.one⟩
end Go.Proofs.Ytfffbioafhppiaa.Ev
namespace Go.Proofs.Ytfffbioafhppiaa.Ev
variable {l:List Int} {n:Nat}
end Go.Proofs.Ytfffbioafhppiaa.Ev
namespace Go.Proofs.Ytfffbioafhppiaa.Ev
open Go.Proofs
namespace RCrs
end RCrs
noncomputable def spCrs:ZCT:=fun ax=>match ax with
 | [.agg [.v (.int .i64 t),.lst (.ints .i64 l)]]=>some ⟨decide (l.length≤3000),il (l.filter fun x=>!isPn x),[],0⟩
 | _=>none
namespace LIns
noncomputable def RUN (s:ES):ZF:=RZ 14 .nil (atS 0 14 2) [] [[(1,none),(2,none),(5,none)]] false s

noncomputable def sL (t:Int) (l p:List Int) (i:Int):NS:=⟨[⟨14,43,[(1,(EV.lst (SyC.ints IntKind.i64 (p)))),(2,(EV.ptr 0 0)),(5,iv i)],[.it (.code (nav [1,0,1,0,0,0] (bodyOf Try.f14))),.it (.code (nav [1,0,1,0,0,1] (bodyOf Try.f14))),.it (.inLoop (nav [1,0,1,0,0] (bodyOf Try.f14))),.it (.inBlock 0),.it (.code (nav [1,1] (bodyOf Try.f14)))],[],Option.none⟩],[(0,(EK.cells 24 [(EV.v (Value.int IntKind.i64 (t))),(EV.lst (SyC.ints IntKind.i64 (l)))] true))],1⟩
theorem in_t (t:Int) (l p:List Int):RUN (st0 14 [hE t l,il p])=(.at (sL (t) (l) (p) ((0:Int)))):=by kernel_rfl
theorem l_t (t:Int) (l p:List Int) (i:Int):RUN (stOf (sL t l p i))=(bc (decide (i < Int.ofNat (List.length p))) (bc (decide (List.getD p (Int.toNat i) (0:Int) < (0:Int))) (bc (bc (bc (bc (bc (decide ((0:Int)≤i)) (Nat.blt (Int.toNat i) (List.length p)) false) true false) (bc (bc (Nat.blt (Int.toNat i) (List.length p)) true false) (bc (eqB (decide (List.getD p (Int.toNat i) (0:Int) < (0:Int))) true) true false) false) false) true false) (.done (EV.v (Value.bool false)) [] 0) .bad) (bc (decide (Int.ofNat (List.length l)≤List.getD p (Int.toNat i) (0:Int))) (bc (bc (bc (bc (bc (decide ((0:Int)≤i)) (Nat.blt (Int.toNat i) (List.length p)) false) true false) (bc (bc (Nat.blt (Int.toNat i) (List.length p)) true false) (bc (eqB (decide (List.getD p (Int.toNat i) (0:Int) < (0:Int))) false) (bc (bc (bc (decide ((0:Int)≤i)) (Nat.blt (Int.toNat i) (List.length p)) false) true false) (bc (bc (Nat.blt (Int.toNat i) (List.length p)) true false) (bc (eqB (decide (Int.ofNat (List.length l)≤List.getD p (Int.toNat i) (0:Int))) true) true false) false) false) false) false) false) true false) (.done (EV.v (Value.bool false)) [] 0) .bad) (bc (decide ((0:Int) < i)) (bc (bc (bc (bc (bc (decide ((0:Int)≤i)) (Nat.blt (Int.toNat i) (List.length p)) false) true false) (bc (bc (Nat.blt (Int.toNat i) (List.length p)) true false) (bc (eqB (decide (List.getD p (Int.toNat i) (0:Int) < (0:Int))) false) (bc (bc (bc (decide ((0:Int)≤i)) (Nat.blt (Int.toNat i) (List.length p)) false) true false) (bc (bc (Nat.blt (Int.toNat i) (List.length p)) true false) (bc (eqB (decide (Int.ofNat (List.length l)≤List.getD p (Int.toNat i) (0:Int))) false) (bc (eqB (decide ((0:Int) < i)) true) (bc (bc (bc (decide ((0:Int)≤IntKind.wrap IntKind.i64 (i - (1:Int)))) (Nat.blt (Int.toNat (IntKind.wrap IntKind.i64 (i - (1:Int)))) (List.length p)) false) true false) (bc (bc (Nat.blt (Int.toNat (IntKind.wrap IntKind.i64 (i - (1:Int)))) (List.length p)) true false) (bc (bc (bc (decide ((0:Int)≤i)) (Nat.blt (Int.toNat i) (List.length p)) false) true false) (bc (bc (Nat.blt (Int.toNat i) (List.length p)) true false) true false) false) false) false) false) false) false) false) false) false) false) true false) (bc (decide (List.getD p (Int.toNat i) (0:Int)≤List.getD p (Int.toNat (IntKind.wrap IntKind.i64 (i - (1:Int)))) (0:Int))) (.done (EV.v (Value.bool false)) [] 0) (.at (sL (t) (l) (p) (IntKind.wrap IntKind.i64 (i+(1:Int)))))) .bad) (bc (bc (bc (bc (bc (decide ((0:Int)≤i)) (Nat.blt (Int.toNat i) (List.length p)) false) true false) (bc (bc (Nat.blt (Int.toNat i) (List.length p)) true false) (bc (eqB (decide (List.getD p (Int.toNat i) (0:Int) < (0:Int))) false) (bc (bc (bc (decide ((0:Int)≤i)) (Nat.blt (Int.toNat i) (List.length p)) false) true false) (bc (bc (Nat.blt (Int.toNat i) (List.length p)) true false) (bc (eqB (decide (Int.ofNat (List.length l)≤List.getD p (Int.toNat i) (0:Int))) false) (bc (eqB (decide ((0:Int) < i)) false) true false) false) false) false) false) false) false) true false) (.at (sL (t) (l) (p) (IntKind.wrap IntKind.i64 (i+(1:Int))))) .bad)))) (.done (EV.v (Value.bool true)) [] 0)):=by kernel_rfl
theorem loop {t:Int} {l:List Int} {P:List Nat} (hA:AscI l.length P) (hl:l.length≤3000):∀ (k i:Nat),i+k=P.length→EndZ 14 .nil false (stOf (sL t l (ofNs P) i)) (bv true) [] 0
 | 0,i,h=>by
  have h1:=l_t t l (ofNs P) i;rw [ofNs_len,df (show ¬ (i:Int) < Int.ofNat P.length by rw [ofn];omega),bc_f] at h1;exact .done h1
 | k+1,i,h=>by
  have hi:i < P.length:=by omega
  have hpl:=asc_len hA;have h1:=l_t t l (ofNs P) i;have e0:Int.toNat (i:Int)=i:=rfl;have hg:(ofNs P).getD i 0=((P[i]:Nat):Int):=by rw [ofNs_get hi,getD_at hi]
  have hlt:=hA.2 _ (List.getElem_mem hi);have w4:IntKind.wrap IntKind.i64 ((i:Int)+1)=((i+1:Nat):Int):=by rw [wrap_in _ (by omega) (by omega)];omega
  rw [e0,hg,ofNs_len,w4,df (show ¬ ((P[i]:Nat):Int) < 0 by omega),df (show ¬ Int.ofNat l.length≤((P[i]:Nat):Int) by rw [ofn];omega)] at h1
  by_cases c:0 < i
  ·have w5:IntKind.wrap IntKind.i64 ((i:Int) - 1)=((i - 1:Nat):Int):=by rw [wrap_in _ (by omega) (by omega)];omega
   have hi2:i - 1 < P.length:=by omega
   have hg2:(ofNs P).getD (i - 1) 0=((P[i - 1]:Nat):Int):=by rw [ofNs_get hi2,getD_at hi2]
   have hpw:=List.pairwise_iff_getElem.1 hA.1 (i - 1) i hi2 hi (by omega);rw [w5,show Int.toNat ((i - 1:Nat):Int)=i - 1 from rfl,hg2,df (show ¬ ((P[i]:Nat):Int)≤((P[i - 1]:Nat):Int) by omega),dt (show (0:Int) < (i:Int) by omega)] at h1
   simp (disch:=omega) only [Nat.add_eq,eqSy_self,eqN_self,bc_same,List.length_cons,ofn,wrap_in,dt,df,bltD,bltN,ble_of,bleN,beqD,bc_t,bc_f,nn_ok,Nat.zero_add,to_nat,Int.zero_add,Int.sub_zero,Int.sub_self,Int.cast_ofNat_Int,Int.natCast_zero,Int.toNat_zero,List.take_zero,List.nil_append,List.length_append,List.length_nil,eqB] at h1;exact .at (.nil _) h1 (loop hA hl k (i+1) (by omega))
  ·rw [df (show ¬ (0:Int) < (i:Int) by omega)] at h1;simp (disch:=omega) only [Nat.add_eq,eqSy_self,eqN_self,bc_same,List.length_cons,ofn,wrap_in,dt,df,bltD,bltN,ble_of,bleN,beqD,bc_t,bc_f,nn_ok,Nat.zero_add,to_nat,Int.zero_add,Int.sub_zero,Int.sub_self,Int.cast_ofNat_Int,Int.natCast_zero,Int.toNat_zero,List.take_zero,List.nil_append,List.length_append,List.length_nil,eqB] at h1;exact .at (.nil _) h1 (loop hA hl k (i+1) (by omega))
end LIns
def InsOk (l p:List Int):Prop:=(∃ P,p=ofNs P∧AscI l.length P)∧l.length≤3000
noncomputable instance InsOk.dec (l p:List Int):Decidable (InsOk l p):=Classical.propDecidable _
theorem ins_ends {t:Int} {l p:List Int} (h:InsOk l p):EndZ 14 .nil false (st0 14 [hE t l,il p]) (bv true) [] 0:=by
 obtain ⟨⟨P,rfl,hA⟩,hl⟩:=h;exact .at (.nil _) (LIns.in_t t l (ofNs P)) (LIns.loop hA hl P.length 0 (by omega))
noncomputable def spIns:ZCT:=fun ax=>match ax with
 | [.agg [.v (.int .i64 t),.lst (.ints .i64 l)],.lst (.ints .i64 p)]=>some ⟨decide (InsOk l p),bv true,[],0⟩
 | _=>none
theorem spIns_ok:ZCtOk Try.prog 14 spIns:=fun γ w us ax r hs hc hax hN hfz=>by
 unfold spIns at hs;split at hs
 case h_2=>cases hs
 rename_i t l p;obtain ⟨rfl⟩:=Option.some.inj hs;have hc_0:decide (InsOk l p)=true:=hc;have hc:=of_decide_eq_true hc_0;exact EndZ.calls (ins_ends hc) (.nil _) (by kernel_rfl) hax hN hfz
end Go.Proofs.Ytfffbioafhppiaa.Ev
namespace Go.Proofs.Ytfffbioafhppiaa.Ev
open Go.Proofs

def AlkOk (a b:List Int):Prop:=Tq a b∧a.length≤3000∧(∀ j,-1000000≤a.getD j 0∧a.getD j 0≤1000000)∧∀ j,-1000000≤b.getD j 0∧b.getD j 0≤1000000
noncomputable instance AlkOk.dec (a b:List Int):Decidable (AlkOk a b):=Classical.propDecidable _
namespace LAlk
noncomputable def RUN (s:ES):ZF:=RZs 15 ctMe [(atS 0 15 5,[[(0,none),(1,none),(4,none),(5,none),(6,none)]]),(atS 0 15 9,[[(0,none),(1,none),(4,none),(5,none),(6,none),(7,none),(8,none)]])] [] false s

noncomputable def sA (a b:List Int) (d:List Bool) (y:Nat) (k:Int):NS:=⟨[⟨15,61,[(0,(EV.lst (SyC.ints IntKind.i64 (a)))),(1,(EV.lst (SyC.ints IntKind.i64 (b)))),(4,(EV.v (Value.bool false))),(5,EV.slO 0 1 y true),(6,iv k)],[.it (.code (nav [1,1,1,0,1,0,0,0] (bodyOf Try.f15))),.it (.code (nav [1,1,1,0,1,0,0,1] (bodyOf Try.f15))),.it (.inLoop (nav [1,1,1,0,1,0,0] (bodyOf Try.f15))),.it (.inBlock 0),.it (.code (nav [1,1,1,1] (bodyOf Try.f15)))],[],Option.none⟩],[(0,EK.seq 4 (.bools d) true)],1⟩
noncomputable def sB (a b:List Int) (d:List Bool) (y:Nat) (k f i:Int):NS:=⟨[⟨15,61,[(0,(EV.lst (SyC.ints IntKind.i64 (a)))),(1,il b),(4,(EV.v (Value.bool false))),(5,(EV.slO 0 1 (y) true)),(6,iv k),(7,iv f),(8,iv i)],[.it (.code (nav [1,1,1,0,1,0,0,1,0,0,1,0,1,0,0,0] (bodyOf Try.f15))),.it (.code (nav [1,1,1,0,1,0,0,1,0,0,1,0,1,0,0,1] (bodyOf Try.f15))),.it (.inLoop (nav [1,1,1,0,1,0,0,1,0,0,1,0,1,0,0] (bodyOf Try.f15))),.it (.inBlock 2),.it (.code (nav [1,1,1,0,1,0,0,1,0,0,1,1] (bodyOf Try.f15))),.it (.inBlock 1),.it (.code (nav [1,1,1,0,1,0,0,1,1] (bodyOf Try.f15))),.it (.inLoop (nav [1,1,1,0,1,0,0] (bodyOf Try.f15))),.it (.inBlock 0),.it (.code (nav [1,1,1,1] (bodyOf Try.f15)))],[],Option.none⟩],[(0,(EK.seq 4 (SyC.bools (d)) true))],1⟩
theorem in_t (a b:List Int):RUN (st0 15 [il a,il b])=(bc (Int.ofNat (List.length a) != Int.ofNat (List.length b)) (.done (EV.v (Value.bool false)) [] 0) (bc (bc (decide (Int.ofNat (List.length a)≤Int.ofNat (List.length a))) (decide (Int.ofNat (List.length a)≤(65536:Int))) false) (.at (sA (a) (b) (List.replicate (Int.toNat (Int.ofNat (List.length a))) false) (List.length (List.replicate (Int.toNat (Int.ofNat (List.length a))) false)) ((0:Int)))) .bad)):=by kernel_rfl
theorem a_t (a b:List Int) (d:List Bool) (y:Nat) (k:Int):RUN (stOf (sA a b d y k))=(bc (decide (k < Int.ofNat (List.length b))) (.at (sB (a) (b) (d) (y) (k) ((-1:Int)) ((0:Int)))) (.done (EV.v (Value.bool true)) [] 0)):=by kernel_rfl
theorem b_t (a b:List Int) (d:List Bool) (y:Nat) (k f i:Int):RUN (stOf (sB a b d y k f i))=(bc (decide (i < Int.ofNat (List.length a))) (bc (decide (f < (0:Int))) (bc (bc (bc (decide ((0:Int)≤i)) (Nat.blt (Int.toNat i) y) false) true false) (bc (bc (Nat.blt (Int.toNat i) (List.length d)) true false) (bc (List.getD d (Int.toNat i) false) (.at (sB (a) (b) (d) (y) (k) (f) (IntKind.wrap IntKind.i64 (i+(1:Int))))) (bc (bc (bc (bc (bc (decide ((0:Int)≤i)) (Nat.blt (Int.toNat i) (List.length a)) false) true false) (bc (bc (Nat.blt (Int.toNat i) (List.length a)) true false) (bc (bc (bc (decide ((0:Int)≤k)) (Nat.blt (Int.toNat k) (List.length b)) false) true false) (bc (bc (Nat.blt (Int.toNat k) (List.length b)) true false) true false) false) false) false) true false) (bc (List.getD a (Int.toNat i) (0:Int) == List.getD b (Int.toNat k) (0:Int)) (.at (sB (a) (b) (d) (y) (k) (i) (IntKind.wrap IntKind.i64 (i+(1:Int))))) (bc (bc (bc (bc (bc (decide ((0:Int)≤i)) (Nat.blt (Int.toNat i) (List.length a)) false) true false) (bc (bc (Nat.blt (Int.toNat i) (List.length a)) true false) (bc (bc (bc (decide ((0:Int)≤k)) (Nat.blt (Int.toNat k) (List.length b)) false) true false) (bc (bc (Nat.blt (Int.toNat k) (List.length b)) true false) (bc (bc (decide (((-1000000:Int)≤List.getD a (Int.toNat i) (0:Int)∧List.getD a (Int.toNat i) (0:Int)≤(1000000:Int))∧(-1000000:Int)≤List.getD b (Int.toNat k) (0:Int)∧List.getD b (Int.toNat k) (0:Int)≤(1000000:Int))) true false) true false) false) false) false) false) true false) (bc (tchL (List.getD a (Int.toNat i) (0:Int)) (List.getD b (Int.toNat k) (0:Int))) (.done (EV.v (Value.bool false)) [] 0) (.at (sB (a) (b) (d) (y) (k) (f) (IntKind.wrap IntKind.i64 (i+(1:Int)))))) .bad)) .bad)) .bad) .bad) (bc (decide (f < (0:Int))) (.done (EV.v (Value.bool false)) [] 0) (bc (bc (bc (decide ((0:Int)≤f)) (Nat.blt (Int.toNat f) y) false) true false) (bc (Nat.blt (Int.toNat f) (List.length d)) (.at (sA (a) (b) (List.set d (Int.toNat f) true) (y) (IntKind.wrap IntKind.i64 (k+(1:Int))))) .bad) .bad))) (bc (decide (f < (0:Int))) (.done (EV.v (Value.bool false)) [] 0) (bc (bc (bc (decide ((0:Int)≤f)) (Nat.blt (Int.toNat f) y) false) true false) (bc (Nat.blt (Int.toNat f) (List.length d)) (.at (sA (a) (b) (List.set d (Int.toNat f) true) (y) (IntKind.wrap IntKind.i64 (k+(1:Int))))) .bad) .bad))):=by kernel_rfl
theorem inner {a b:List Int} {d:List Bool} {k:Nat} {A C:List Int} (hd:d.length=a.length) (ha:a.length≤3000) (hb:b.length≤3000) (sa:∀ j,-1000000≤a.getD j 0∧a.getD j 0≤1000000) (sb:∀ j,-1000000≤b.getD j 0∧b.getD j 0≤1000000) (hk:k < b.length) (e:remL a d=A ++ b.getD k 0 :: C)
  (H:∀ d':List Bool,d'.length=a.length→remL a d'=A ++ C→EndZ 15 ctMe false (stOf (sA a b d' a.length (k+1:Nat))) (bv true) [] 0) :
  ∀ (m i:Nat) (A2:List Int),i+m=a.length→remL (a.drop i) (d.drop i)=A2 ++ b.getD k 0 :: C→(∀ z,z ∈ A2→z≠b.getD k 0∧tchL z (b.getD k 0)=false)→EndZ 15 ctMe false (stOf (sB a b d a.length k (-1) i)) (bv true) [] 0
 | 0,i,A2,h,h1,_=>by
  rw [List.drop_eq_nil_of_le (show a.length≤i by omega),List.drop_eq_nil_of_le (show d.length≤i by omega)] at h1;have:=congrArg List.length h1;rw [List.length_append,List.length_cons] at this;have h0:(remL [] []).length=0:=rfl;omega
 | m+1,i,A2,h,h1,h2=>by
  have hi:i < a.length:=by omega
  have q:=b_t a b d a.length k (-1) i;have e0:∀ x:Nat,Int.toNat (x:Int)=x:=fun _=>rfl;have w4:IntKind.wrap IntKind.i64 ((i:Int)+1)=((i+1:Nat):Int):=by rw [wrap_in _ (by omega) (by omega)];omega
  have hr:=rem_step hi hd;rw [e0,e0,w4,dt (show (-1000000≤a.getD i 0∧a.getD i 0≤1000000) ∧ -1000000≤b.getD k 0∧b.getD k 0≤1000000 from ⟨sa i,sb k⟩),dt (show (-1:Int) < 0 by omega)] at q
  cases c:d.getD i false with
  | true=>
   rw [c,if_pos rfl] at hr;rw [c] at q;simp (disch:=omega) only [Nat.add_eq,eqSy_self,eqN_self,bc_same,List.length_cons,ofn,wrap_in,dt,df,bltD,bltN,ble_of,bleN,beqD,bc_t,bc_f,nn_ok,Nat.zero_add,to_nat,Int.zero_add,Int.sub_zero,Int.sub_self,Int.cast_ofNat_Int,Int.natCast_zero,Int.toNat_zero,List.take_zero,List.nil_append,List.length_append,List.length_nil] at q;exact .at ctMe_ok q (inner hd ha hb sa sb hk e H m (i+1) A2 (by omega) (by rw [← hr];exact h1) h2)
  | false=>
   rw [c,if_neg (by simp),h1] at hr;rw [c] at q
   cases A2 with
   | nil=>
    obtain ⟨r1,r2⟩:=List.cons.inj hr;rw [show (a.getD i 0 == b.getD k 0)=true by rw [← r1];exact beq_self_eq_true _] at q;simp (disch:=omega) only [Nat.add_eq,eqSy_self,eqN_self,bc_same,List.length_cons,ofn,wrap_in,dt,df,bltD,bltN,ble_of,bleN,beqD,bc_t,bc_f,nn_ok,Nat.zero_add,to_nat,Int.zero_add,Int.sub_zero,Int.sub_self,Int.cast_ofNat_Int,Int.natCast_zero,Int.toNat_zero,List.take_zero,List.nil_append,List.length_append,List.length_nil] at q;refine .at ctMe_ok q ?_;have q2:=b_t a b d a.length k i (i+1:Nat)
    have w5:IntKind.wrap IntKind.i64 ((k:Int)+1)=((k+1:Nat):Int):=by rw [wrap_in _ (by omega) (by omega)];omega
    obtain ⟨A1,s1,s2⟩:=rem_cut hi hd c;have eA:A1=A:=by
     rw [h1,e] at s1;exact (List.append_cancel_right s1).symm
    have hH:=H (d.set i true) (by rw [List.length_set];exact hd) (by rw [s2,eA,r2]);rw [e0,w5,df (show ¬ (i:Int) < 0 by omega)] at q2;have q3:RUN (stOf (sB a b d a.length k i (i+1:Nat))) = .at (sA a b (d.set i true) a.length (k+1:Nat)):=by
     rw [q2];cases decide (((i+1:Nat):Int) < Int.ofNat a.length) <;> simp (disch:=omega) only [Nat.add_eq,eqSy_self,eqN_self,bc_same,List.length_cons,ofn,wrap_in,dt,df,bltD,bltN,ble_of,bleN,beqD,bc_t,bc_f,nn_ok,Nat.zero_add,to_nat,Int.zero_add,Int.sub_zero,Int.sub_self,Int.cast_ofNat_Int,Int.natCast_zero,Int.toNat_zero,List.take_zero,List.nil_append,List.length_append,List.length_nil]
    exact .at ctMe_ok q3 hH
   | cons z A2=>
    obtain ⟨r1,r2⟩:=List.cons.inj hr;obtain ⟨z1,z2⟩:=h2 z List.mem_cons_self;rw [r1] at z1 z2;rw [show (a.getD i 0 == b.getD k 0)=false from beq_eq_false_iff_ne.2 z1,z2] at q
    simp (disch:=omega) only [Nat.add_eq,eqSy_self,eqN_self,bc_same,List.length_cons,ofn,wrap_in,dt,df,bltD,bltN,ble_of,bleN,beqD,bc_t,bc_f,nn_ok,Nat.zero_add,to_nat,Int.zero_add,Int.sub_zero,Int.sub_self,Int.cast_ofNat_Int,Int.natCast_zero,Int.toNat_zero,List.take_zero,List.nil_append,List.length_append,List.length_nil] at q;exact .at ctMe_ok q (inner hd ha hb sa sb hk e H m (i+1) A2 (by omega) r2.symm fun w hw=>h2 w (List.mem_cons_of_mem _ hw))
theorem outer {a b:List Int} (hl:a.length=b.length) (ha:a.length≤3000) (sa:∀ j,-1000000≤a.getD j 0∧a.getD j 0≤1000000) (sb:∀ j,-1000000≤b.getD j 0∧b.getD j 0≤1000000):∀ (m k:Nat) (d:List Bool),k+m=b.length→d.length=a.length→Tq (remL a d) (b.drop k)→EndZ 15 ctMe false (stOf (sA a b d a.length k)) (bv true) [] 0
 | 0,k,d,h,hd,_=>by
  have q:=a_t a b d a.length k;rw [df (show ¬ (k:Int) < Int.ofNat b.length by rw [ofn];omega),bc_f] at q;exact .done q
 | m+1,k,d,h,hd,ht=>by
  have hk:k < b.length:=by omega
  have q:=a_t a b d a.length k;rw [dt (show (k:Int) < Int.ofNat b.length by rw [ofn];omega),bc_t] at q;have eb:b.drop k=b.getD k 0 :: b.drop (k+1):=by rw [getD_at hk];exact List.drop_eq_getElem_cons hk
  rw [eb] at ht;obtain ⟨A,C,e,hA,hT⟩:=tq_fst ht;exact .at ctMe_ok q (inner hd ha (by omega) sa sb hk e (fun d' h1 h2=>outer hl ha sa sb m (k+1) d' (by omega) h1 (by rw [h2];exact hT)) a.length 0 A (by omega) (by rw [List.drop_zero,List.drop_zero];exact e) hA)
theorem ends {a b:List Int} (h:AlkOk a b):EndZ 15 ctMe false (st0 15 [il a,il b]) (bv true) [] 0:=by
 obtain ⟨h1,h2,h3,h4⟩:=h;have hl:=h1.len;have q:=in_t a b;have e0:∀ x:Nat,Int.toNat (x:Int)=x:=fun _=>rfl;rw [show (Int.ofNat a.length != Int.ofNat b.length)=false by rw [hl];exact bne_self_eq_false _,bc_f,ofn,e0,dt (show (a.length:Int)≤a.length by omega),dt (show (a.length:Int)≤65536 by omega),List.length_replicate] at q;simp only [bc_t] at q;exact .at ctMe_ok q (outer hl h2 h3 h4 b.length 0 _ (by omega) (by rw [List.length_replicate]) (by rw [rem_all,List.drop_zero];exact h1))
end LAlk
noncomputable def spAlk:ZCT:=fun ax=>match ax with
 | [.lst (.ints .i64 a),.lst (.ints .i64 b)]=>some ⟨decide (AlkOk a b),bv true,[],0⟩
 | _=>none
theorem spAlk_ok:ZCtOk Try.prog 15 spAlk:=fun γ w us ax r hs hc hax hN hfz=>by
 unfold spAlk at hs;split at hs
 case h_2=>cases hs
 rename_i a b;obtain ⟨rfl⟩:=Option.some.inj hs;have hc_0:decide (AlkOk a b)=true:=hc;have hc:=of_decide_eq_true hc_0;exact EndZ.calls (LAlk.ends hc) ctMe_ok (by kernel_rfl) hax hN hfz
namespace LLet
noncomputable def RUN (s:ES):ZF:=RZ 17 .nil (atS 0 17 3) [] [[(1,none),(2,none),(4,none),(5,some (1,3,.ints .i64 [])),(6,none)]] false s

noncomputable def sL (t:Int) (l p g:List Int) (nn:Bool) (i:Int):NS:=⟨[⟨17,25,[(1,(EV.lst (SyC.ints IntKind.i64 (p)))),(2,(EV.ptr 0 0)),(4,(EV.v (Value.slice Option.none 0 0))),(5,EV.slO 1 1 g.length nn),(6,iv i)],[.it (.code (nav [1,1,0,1,0,0,0] (bodyOf Try.f17))),.it (.code (nav [1,1,0,1,0,0,1] (bodyOf Try.f17))),.it (.inLoop (nav [1,1,0,1,0,0] (bodyOf Try.f17))),.it (.inBlock 0),.it (.code (nav [1,1,1] (bodyOf Try.f17)))],[],Option.none⟩],[(0,(EK.cells 24 [(EV.v (Value.int IntKind.i64 (t))),(EV.lst (SyC.ints IntKind.i64 (l)))] true)),(1,EK.seq 3 (.ints .i64 g) nn)],2⟩
theorem in_t (t:Int) (l p:List Int):RUN (st0 17 [hE t l,il p])=(.at (sL (t) (l) (p) ([]) (false) ((0:Int)))):=by kernel_rfl
theorem l_t (t:Int) (l p g:List Int) (nn:Bool) (i:Int):RUN (stOf (sL t l p g nn i))=(bc (decide (i < Int.ofNat (List.length p))) (bc (bc (bc (bc (bc (decide ((0:Int)≤i)) (Nat.blt (Int.toNat i) (List.length p)) false) true false) (bc (bc (Nat.blt (Int.toNat i) (List.length p)) true false) (bc (bc (bc (decide ((0:Int)≤List.getD p (Int.toNat i) (0:Int))) (Nat.blt (Int.toNat (List.getD p (Int.toNat i) (0:Int))) (List.length l)) false) true false) (bc (bc (Nat.blt (Int.toNat (List.getD p (Int.toNat i) (0:Int))) (List.length l)) true false) (bc (bc (Nat.beq (List.length g) (List.length g)) (bc (Nat.ble (List.length g+List.length (List.map (fun r=>U.int (List.headD r (U.i (0:Int)))) [[U.i (List.getD l (Int.toNat (List.getD p (Int.toNat i) (0:Int))) (0:Int))]])) (65536:Nat)) (bc nn true (bc nn false true)) false) false) true false) false) false) false) false) true false) (.at (sL (t) (l) (p) (g ++ List.map (fun r=>U.int (List.headD r (U.i (0:Int)))) [[U.i (List.getD l (Int.toNat (List.getD p (Int.toNat i) (0:Int))) (0:Int))]]) (bc nn true (Nat.blt (0:Nat) (List.length (List.map (fun r=>U.int (List.headD r (U.i (0:Int)))) [[U.i (List.getD l (Int.toNat (List.getD p (Int.toNat i) (0:Int))) (0:Int))]])))) (IntKind.wrap IntKind.i64 (i+(1:Int))))) .bad) (bc (Nat.beq (List.length g) (List.length g)) (.done (EV.lst (SyC.ints IntKind.i64 (g))) [] 0) .bad)):=by kernel_rfl
theorem oneT (x:Int):List.map (fun r=>U.int (List.headD r (U.i (0:Int)))) [[U.i x]]=[x]:=rfl
theorem loop {t:Int} {l:List Int} {P:List Nat} (hA:AscI l.length P) (hl:l.length≤3000):∀ (k i:Nat) (nn:Bool),i+k=P.length→EndZ 17 .nil false (stOf (sL t l (ofNs P) (ltsL l (P.take i)) nn i)) (il (ltsL l P)) [] 0
 | 0,i,nn,h=>by
  have h1:=l_t t l (ofNs P) (ltsL l (P.take i)) nn i;rw [List.take_of_length_le (show P.length≤i by omega)] at h1 ⊢;rw [ofNs_len,df (show ¬ (i:Int) < Int.ofNat P.length by rw [ofn];omega),bc_f] at h1;simp (disch:=omega) only [Nat.add_eq,eqSy_self,eqN_self,bc_same,List.length_cons,ofn,wrap_in,dt,df,bltD,bltN,ble_of,bleN,beqD,bc_t,bc_f,nn_ok,Nat.zero_add,to_nat,Int.zero_add,Int.sub_zero,Int.sub_self,Int.cast_ofNat_Int,Int.natCast_zero,Int.toNat_zero,List.take_zero,List.nil_append,List.length_append,List.length_nil] at h1;exact .done h1
 | k+1,i,nn,h=>by
  have hi:i < P.length:=by omega
  have hpl:=asc_len hA;have h1:=l_t t l (ofNs P) (ltsL l (P.take i)) nn i;have e0:∀ x:Nat,Int.toNat (x:Int)=x:=fun _=>rfl;have hg:(ofNs P).getD i 0=((P[i]:Nat):Int):=by rw [ofNs_get hi,getD_at hi]
  have hlt:=hA.2 _ (List.getElem_mem hi);have w4:IntKind.wrap IntKind.i64 ((i:Int)+1)=((i+1:Nat):Int):=by rw [wrap_in _ (by omega) (by omega)];omega
  have w:bc nn true (Nat.blt 0 (List.length [l.getD P[i] 0]))=true:=by cases nn <;> rfl
  have w2:bc nn true (bc nn false true)=true:=by cases nn <;> rfl
  have e:ltsL l (P.take i) ++ [l.getD P[i] 0]=ltsL l (P.take (i+1)):=by
   rw [List.take_succ_eq_append_getElem hi,lts_app,lts_one]
  have lg:(ltsL l (P.take i)).length=i:=by rw [lts_len,List.length_take];omega
  rw [e0,hg,e0,oneT,w,w2,w4,e,ofNs_len] at h1;simp (disch:=omega) only [Nat.add_eq,eqSy_self,eqN_self,bc_same,List.length_cons,ofn,wrap_in,dt,df,bltD,bltN,ble_of,bleN,beqD,bc_t,bc_f,nn_ok,Nat.zero_add,to_nat,Int.zero_add,Int.sub_zero,Int.sub_self,Int.cast_ofNat_Int,Int.natCast_zero,Int.toNat_zero,List.take_zero,List.nil_append,List.length_append,List.length_nil] at h1;exact .at (.nil _) h1 (loop hA hl k (i+1) true (by omega))
end LLet
theorem let_ends {t:Int} {l p:List Int} (h:InsOk l p):EndZ 17 .nil false (st0 17 [hE t l,il p]) (il (ltsL l (toN p))) [] 0:=by
 obtain ⟨⟨P,rfl,hA⟩,hl⟩:=h;rw [toN_ofNs];exact .at (.nil _) (LLet.in_t t l (ofNs P)) (LLet.loop hA hl P.length 0 false (by omega))
noncomputable def spLet:ZCT:=fun ax=>match ax with
 | [.agg [.v (.int .i64 t),.lst (.ints .i64 l)],.lst (.ints .i64 p)]=>some ⟨decide (InsOk l p),il (ltsL l (toN p)),[],0⟩
 | _=>none
theorem spLet_ok:ZCtOk Try.prog 17 spLet:=fun γ w us ax r hs hc hax hN hfz=>by
 unfold spLet at hs;split at hs
 case h_2=>cases hs
 rename_i t l p;obtain ⟨rfl⟩:=Option.some.inj hs;have hc_0:decide (InsOk l p)=true:=hc;have hc:=of_decide_eq_true hc_0;exact EndZ.calls (let_ends hc) (.nil _) (by kernel_rfl) hax hN hfz
end Go.Proofs.Ytfffbioafhppiaa.Ev
namespace Go.Proofs.Ytfffbioafhppiaa.Ev
open Go.Proofs

def CanOk (p l:List Int):Prop:=PkOk p∧l.length≤100∧∀ x,x ∈ l → -1000≤x∧x≤2000
noncomputable instance CanOk.dec (p l:List Int):Decidable (CanOk p l):=Classical.propDecidable _
theorem small_getD {l:List Int} (h:∀ x,x ∈ l → -1000≤x∧x≤2000) (j:Nat):-1000000≤l.getD j 0∧l.getD j 0≤1000000:=by
 by_cases hj:j < l.length
 ·have:=h (l.getD j 0) (by rw [getD_at hj];exact List.getElem_mem hj);omega
 ·rw [List.getD_eq_getElem?_getD,List.getElem?_eq_none (by omega)];decide
noncomputable def ctCa:Tr ZCC:=(Tr.nil.put 57 (some (mC (bM spMee)))).put 0 (some (dC spNoT))
theorem ctCa_ok:ZCtsOk Try.prog ctCa:=((ZCtsOk.nil _).addM rfl (bM_ok spMee_ok)).add rfl spNoT_ok
namespace LCan
noncomputable def RUN (s:ES):ZF:=RZs 16 ctCa [(atS 0 16 4,[[(0,none),(1,none),(4,none),(5,none)]]),(atS 0 16 6,[[(0,none),(1,none),(4,none),(5,none),(6,some (2,81,.ints .i64 [])),(7,none)]]),(atS 0 16 9,[[(0,none),(1,none),(4,none),(5,none),(6,some (2,81,.ints .i64 [])),(7,none),(8,none)]]),(atS 0 16 18,[[(0,none),(1,none),(4,none),(5,none),(6,some (2,81,.ints .i64 [])),(9,none)]]),(atR 0 16 19,[[(0,none),(1,none),(4,none),(5,none),(10,none)]])] [] false s

noncomputable def sN (p l:List Int) (y:Nat) (n:Int):NS:=⟨[⟨16,82,[(0,EV.slO 0 1 y true),(1,(EV.lst (SyC.ints IntKind.u8 (p)))),(4,(EV.v (Value.slice Option.none 0 0))),(5,iv n)],[.it (.code (nav [1,1,1,0,0,0,0] (bodyOf Try.f16))),.it (.inBlock 1),.it (.code (nav [1,1,1,0,0,1] (bodyOf Try.f16))),.it (.inLoop (nav [1,1,1,0,0] (bodyOf Try.f16))),.it (.inBlock 0)],[],Option.none⟩],[(0,EK.seq 3 (.ints .i64 l) true)],1⟩
noncomputable def sA (p l:List Int) (y:Nat) (n:Int) (g:List Int) (m:Nat) (nn:Bool) (i:Int):NS:=⟨[⟨16,82,[(0,(EV.slO 0 1 (y) true)),(1,(EV.lst (SyC.ints IntKind.u8 (p)))),(4,(EV.v (Value.slice Option.none 0 0))),(5,(EV.v (Value.int IntKind.i64 (n)))),(6,EV.slO 1 2 m nn),(7,iv i)],[.it (.code (nav [1,1,1,0,0,0,0,1,0,1,0,0,0] (bodyOf Try.f16))),.it (.code (nav [1,1,1,0,0,0,0,1,0,1,0,0,1] (bodyOf Try.f16))),.it (.inLoop (nav [1,1,1,0,0,0,0,1,0,1,0,0] (bodyOf Try.f16))),.it (.inBlock 2),.it (.code (nav [1,1,1,0,0,0,0,1,1] (bodyOf Try.f16))),.it (.inBlock 1),.it (.code (nav [1,1,1,0,0,1] (bodyOf Try.f16))),.it (.inLoop (nav [1,1,1,0,0] (bodyOf Try.f16))),.it (.inBlock 0)],[],Option.none⟩],[(0,(EK.seq 3 (SyC.ints IntKind.i64 (l)) true)),(1,EK.seq 81 (.ints .i64 g) nn)],2⟩
noncomputable def sB (p l:List Int) (y:Nat) (n:Int) (g:List Int) (m:Nat) (nn:Bool) (i k:Int):NS:=⟨[⟨16,82,[(0,EV.slO 0 1 y true),(1,(EV.lst (SyC.ints IntKind.u8 (p)))),(4,(EV.v (Value.slice Option.none 0 0))),(5,(EV.v (Value.int IntKind.i64 (n)))),(6,(EV.slO 1 2 (m) (nn))),(7,iv i),(8,iv k)],[.it (.code (nav [1,1,1,0,0,0,0,1,0,1,0,0,1,0,0,1,0,0,0] (bodyOf Try.f16))),.it (.code (nav [1,1,1,0,0,0,0,1,0,1,0,0,1,0,0,1,0,0,1] (bodyOf Try.f16))),.it (.inLoop (nav [1,1,1,0,0,0,0,1,0,1,0,0,1,0,0,1,0,0] (bodyOf Try.f16))),.it (.inBlock 4),.it (.inBlock 3),.it (.code (nav [1,1,1,0,0,0,0,1,0,1,0,0,1,1] (bodyOf Try.f16))),.it (.inLoop (nav [1,1,1,0,0,0,0,1,0,1,0,0] (bodyOf Try.f16))),.it (.inBlock 2),.it (.code (nav [1,1,1,0,0,0,0,1,1] (bodyOf Try.f16))),.it (.inBlock 1),.it (.code (nav [1,1,1,0,0,1] (bodyOf Try.f16))),.it (.inLoop (nav [1,1,1,0,0] (bodyOf Try.f16))),.it (.inBlock 0)],[],Option.none⟩],[(0,(EK.seq 3 (SyC.ints IntKind.i64 (l)) true)),(1,(EK.seq 81 (SyC.ints IntKind.i64 (g)) (nn)))],2⟩
noncomputable def sX (p l:List Int) (y:Nat) (n:Int) (g:List Int) (m:Nat) (nn:Bool) (k:Int):NS:=⟨[⟨16,82,[(0,EV.slO 0 1 y true),(1,EV.lst (.ints .u8 p)),(4,(EV.v (Value.slice Option.none 0 0))),(5,(EV.v (Value.int IntKind.i64 (n)))),(6,EV.slO 1 2 m nn),(9,iv k)],[.it (.code (nav [1,1,1,0,0,0,0,1,1,1,1,1] (bodyOf Try.f16))),.it (.inBlock 1),.it (.code (nav [1,1,1,0,0,1] (bodyOf Try.f16))),.it (.inLoop (nav [1,1,1,0,0] (bodyOf Try.f16))),.it (.inBlock 0)],[],Option.none⟩],[(0,(EK.seq 3 (SyC.ints IntKind.i64 (l)) true)),(1,(EK.seq 81 (SyC.ints IntKind.i64 (g)) (nn)))],2⟩
noncomputable def sY (p l:List Int) (y:Nat) (n:Int) (z:List Int):NS:=⟨[⟨16,82,[(0,EV.slO 0 1 y true),(1,(EV.lst (SyC.ints IntKind.u8 (p)))),(4,(EV.v (Value.slice Option.none 0 0))),(5,(EV.v (Value.int IntKind.i64 (n)))),(10,(EV.ptr 1 0))],[.it (.code (nav [1,1,1,0,0,0,0,1,1,1,1,1,1] (bodyOf Try.f16))),.it (.inBlock 1),.it (.code (nav [1,1,1,0,0,1] (bodyOf Try.f16))),.it (.inLoop (nav [1,1,1,0,0] (bodyOf Try.f16))),.it (.inBlock 0)],[],Option.none⟩],[(0,EK.seq 3 (.ints .i64 l) true),(1,EK.seq 81 (.ints .i64 z) true)],2⟩
theorem in_t (p l:List Int):RUN (st0 16 [il l,.lst (.ints .u8 p)])=(bc (bc (Nat.ble ((0:Nat)+List.length l) (65536:Nat)) true false) (.at (sN (p) ([] ++ l) (List.length ([] ++ l)) ((0:Int)))) .bad):=by kernel_rfl
theorem n_t (p l:List Int) (y:Nat) (n:Int):RUN (stOf (sN p l y n))=(.at (sA (p) (l) (y) (n) ([]) ((0:Nat)) (false) ((0:Int)))):=by kernel_rfl
theorem a_t (p l:List Int) (y:Nat) (n:Int) (g:List Int) (m:Nat) (nn:Bool) (i:Int):RUN (stOf (sA p l y n g m nn i))=(bc (decide (i < Int.ofNat y)) (.at (sB (p) (l) (y) (n) (g) (m) (nn) (i) (IntKind.wrap IntKind.i64 (i+(1:Int))))) (bc (Int.ofNat m == (0:Int)) (bc (Nat.beq y (List.length l)) (.done (EV.lst (SyC.ints IntKind.i64 (l))) [] 0) .bad) (bc (decide ((0:Int) < Int.ofNat (List.length p))) (bc (bc (bnot (Int.ofNat (List.length p) == (0:Int))) true false) (bc (bc (bc (decide ((0:Int)≤Int.tmod n (Int.ofNat (List.length p)))) (Nat.blt (Int.toNat (Int.tmod n (Int.ofNat (List.length p)))) (List.length p)) false) true false) (bc (bc (Nat.blt (Int.toNat (Int.tmod n (Int.ofNat (List.length p)))) (List.length p)) true false) (bc (bc (bnot (Int.ofNat m == (0:Int))) true false) (.at (sX (p) (l) (y) (n) (g) (m) (nn) (Int.tmod (IntKind.wrap IntKind.i64 (List.getD p (Int.toNat (Int.tmod n (Int.ofNat (List.length p)))) (0:Int))) (Int.ofNat m)))) .bad) .bad) .bad) .bad) (.at (sX (p) (l) (y) (n) (g) (m) (nn) ((0:Int))))))):=by kernel_rfl
theorem b_t (p l:List Int) (y:Nat) (n:Int) (g:List Int) (m:Nat) (nn:Bool) (i k:Int):RUN (stOf (sB p l y n g m nn i k))=(bc (decide (k < Int.ofNat y)) (bc (bc (bc (bc (Nat.beq y (List.length l)) true false) (decide (MeeOk l i k)) false) true false) (bc (metB l (Int.toNat i) (Int.toNat k)) (bc (bc (Nat.beq (Nat.mul m (2:Nat)) (List.length g)) (bc (Nat.ble (m+(1:Nat)) (65536:Nat)) (bc nn true (bc nn false true)) false) false) (.at (sB (p) (l) (y) (n) (g ++ [i,k]) (m+(1:Nat)) (true) (i) (IntKind.wrap IntKind.i64 (k+(1:Int))))) .bad) (.at (sB (p) (l) (y) (n) (g) (m) (nn) (i) (IntKind.wrap IntKind.i64 (k+(1:Int)))))) .bad) (.at (sA (p) (l) (y) (n) (g) (m) (nn) (IntKind.wrap IntKind.i64 (i+(1:Int)))))):=by kernel_rfl
theorem y_t (p l:List Int) (y:Nat) (n u v:Int):RUN (stOf (sY p l y n [u,v]))=(bc (bc (bc (bc (bc (decide ((0:Int)≤List.getD [u,v] (Int.toNat (0:Int)) (0:Int))) (decide (List.getD [u,v] (Int.toNat (0:Int)) (0:Int)≤Int.ofNat y)) false) true false) (bc (bc (Nat.ble (Nat.add (Int.toNat (0:Int)) (Int.toNat (List.getD [u,v] (Int.toNat (0:Int)) (0:Int)) - Int.toNat (0:Int))) (List.length l)) (bc (Nat.ble ((0:Nat)+List.length (List.drop (Int.toNat (0:Int)) (List.take (Nat.add (Int.toNat (0:Int)) (Int.toNat (List.getD [u,v] (Int.toNat (0:Int)) (0:Int)) - Int.toNat (0:Int))) l))) (65536:Nat)) true false) false) (bc (bc (bc (decide ((0:Int)≤IntKind.wrap IntKind.i64 (List.getD [u,v] (Int.toNat (0:Int)) (0:Int)+(1:Int)))) (bc (decide (IntKind.wrap IntKind.i64 (List.getD [u,v] (Int.toNat (0:Int)) (0:Int)+(1:Int))≤List.getD [u,v] (Int.toNat (1:Int)) (0:Int))) (decide (List.getD [u,v] (Int.toNat (1:Int)) (0:Int)≤Int.ofNat y)) false) false) true false) (bc (bc (Nat.ble (Nat.add (Int.toNat (IntKind.wrap IntKind.i64 (List.getD [u,v] (Int.toNat (0:Int)) (0:Int)+(1:Int)))) (Int.toNat (List.getD [u,v] (Int.toNat (1:Int)) (0:Int)) - Int.toNat (IntKind.wrap IntKind.i64 (List.getD [u,v] (Int.toNat (0:Int)) (0:Int)+(1:Int))))) (List.length l)) (bc (Nat.beq (List.length ([] ++ List.drop (Int.toNat (0:Int)) (List.take (Nat.add (Int.toNat (0:Int)) (Int.toNat (List.getD [u,v] (Int.toNat (0:Int)) (0:Int)) - Int.toNat (0:Int))) l))) (List.length ([] ++ List.drop (Int.toNat (0:Int)) (List.take (Nat.add (Int.toNat (0:Int)) (Int.toNat (List.getD [u,v] (Int.toNat (0:Int)) (0:Int)) - Int.toNat (0:Int))) l)))) (bc (Nat.ble (List.length ([] ++ List.drop (Int.toNat (0:Int)) (List.take (Nat.add (Int.toNat (0:Int)) (Int.toNat (List.getD [u,v] (Int.toNat (0:Int)) (0:Int)) - Int.toNat (0:Int))) l))+List.length (List.drop (Int.toNat (IntKind.wrap IntKind.i64 (List.getD [u,v] (Int.toNat (0:Int)) (0:Int)+(1:Int)))) (List.take (Nat.add (Int.toNat (IntKind.wrap IntKind.i64 (List.getD [u,v] (Int.toNat (0:Int)) (0:Int)+(1:Int)))) (Int.toNat (List.getD [u,v] (Int.toNat (1:Int)) (0:Int)) - Int.toNat (IntKind.wrap IntKind.i64 (List.getD [u,v] (Int.toNat (0:Int)) (0:Int)+(1:Int))))) l))) (65536:Nat)) true false) false) false) (bc (bc (bc (decide ((0:Int)≤IntKind.wrap IntKind.i64 (List.getD [u,v] (Int.toNat (1:Int)) (0:Int)+(1:Int)))) (bc (decide (IntKind.wrap IntKind.i64 (List.getD [u,v] (Int.toNat (1:Int)) (0:Int)+(1:Int))≤Int.ofNat y)) (decide (Int.ofNat y≤Int.ofNat y)) false) false) true false) (bc (bc (Nat.ble (Nat.add (Int.toNat (IntKind.wrap IntKind.i64 (List.getD [u,v] (Int.toNat (1:Int)) (0:Int)+(1:Int)))) (Int.toNat (Int.ofNat y) - Int.toNat (IntKind.wrap IntKind.i64 (List.getD [u,v] (Int.toNat (1:Int)) (0:Int)+(1:Int))))) (List.length l)) (bc (Nat.beq (List.length ([] ++ List.drop (Int.toNat (0:Int)) (List.take (Nat.add (Int.toNat (0:Int)) (Int.toNat (List.getD [u,v] (Int.toNat (0:Int)) (0:Int)) - Int.toNat (0:Int))) l) ++ List.drop (Int.toNat (IntKind.wrap IntKind.i64 (List.getD [u,v] (Int.toNat (0:Int)) (0:Int)+(1:Int)))) (List.take (Nat.add (Int.toNat (IntKind.wrap IntKind.i64 (List.getD [u,v] (Int.toNat (0:Int)) (0:Int)+(1:Int)))) (Int.toNat (List.getD [u,v] (Int.toNat (1:Int)) (0:Int)) - Int.toNat (IntKind.wrap IntKind.i64 (List.getD [u,v] (Int.toNat (0:Int)) (0:Int)+(1:Int))))) l))) (List.length ([] ++ List.drop (Int.toNat (0:Int)) (List.take (Nat.add (Int.toNat (0:Int)) (Int.toNat (List.getD [u,v] (Int.toNat (0:Int)) (0:Int)) - Int.toNat (0:Int))) l) ++ List.drop (Int.toNat (IntKind.wrap IntKind.i64 (List.getD [u,v] (Int.toNat (0:Int)) (0:Int)+(1:Int)))) (List.take (Nat.add (Int.toNat (IntKind.wrap IntKind.i64 (List.getD [u,v] (Int.toNat (0:Int)) (0:Int)+(1:Int)))) (Int.toNat (List.getD [u,v] (Int.toNat (1:Int)) (0:Int)) - Int.toNat (IntKind.wrap IntKind.i64 (List.getD [u,v] (Int.toNat (0:Int)) (0:Int)+(1:Int))))) l)))) (bc (Nat.ble (List.length ([] ++ List.drop (Int.toNat (0:Int)) (List.take (Nat.add (Int.toNat (0:Int)) (Int.toNat (List.getD [u,v] (Int.toNat (0:Int)) (0:Int)) - Int.toNat (0:Int))) l) ++ List.drop (Int.toNat (IntKind.wrap IntKind.i64 (List.getD [u,v] (Int.toNat (0:Int)) (0:Int)+(1:Int)))) (List.take (Nat.add (Int.toNat (IntKind.wrap IntKind.i64 (List.getD [u,v] (Int.toNat (0:Int)) (0:Int)+(1:Int)))) (Int.toNat (List.getD [u,v] (Int.toNat (1:Int)) (0:Int)) - Int.toNat (IntKind.wrap IntKind.i64 (List.getD [u,v] (Int.toNat (0:Int)) (0:Int)+(1:Int))))) l))+List.length (List.drop (Int.toNat (IntKind.wrap IntKind.i64 (List.getD [u,v] (Int.toNat (1:Int)) (0:Int)+(1:Int)))) (List.take (Nat.add (Int.toNat (IntKind.wrap IntKind.i64 (List.getD [u,v] (Int.toNat (1:Int)) (0:Int)+(1:Int)))) (Int.toNat (Int.ofNat y) - Int.toNat (IntKind.wrap IntKind.i64 (List.getD [u,v] (Int.toNat (1:Int)) (0:Int)+(1:Int))))) l))) (65536:Nat)) true false) false) false) true false) false) false) false) false) false) (bc (bc (bc (decide (List.getD [u,v] (Int.toNat (0:Int)) (0:Int)=List.getD [u,v] (Int.toNat (0:Int)) (0:Int))) true false) (bc (bc (decide (List.getD [u,v] (Int.toNat (0:Int)) (0:Int)=List.getD [u,v] (Int.toNat (0:Int)) (0:Int))) (bc (decide (List.getD [u,v] (Int.toNat (0:Int)) (0:Int)=List.getD [u,v] (Int.toNat (0:Int)) (0:Int))) true false) false) (bc (bc (decide (List.getD [u,v] (Int.toNat (1:Int)) (0:Int)=List.getD [u,v] (Int.toNat (1:Int)) (0:Int))) (bc (decide (List.getD [u,v] (Int.toNat (1:Int)) (0:Int)=List.getD [u,v] (Int.toNat (1:Int)) (0:Int))) true false) false) (bc (bc (decide (List.getD [u,v] (Int.toNat (1:Int)) (0:Int)=List.getD [u,v] (Int.toNat (1:Int)) (0:Int))) (bc (decide (List.getD [u,v] (Int.toNat (1:Int)) (0:Int)=List.getD [u,v] (Int.toNat (1:Int)) (0:Int))) (bc (decide (List.getD [u,v] (Int.toNat (1:Int)) (0:Int)=List.getD [u,v] (Int.toNat (1:Int)) (0:Int))) true false) false) false) true false) false) false) false) true false) false) (.at (sN (p) ([] ++ List.drop (Int.toNat (0:Int)) (List.take (Nat.add (Int.toNat (0:Int)) (Int.toNat (List.getD [u,v] (Int.toNat (0:Int)) (0:Int)) - Int.toNat (0:Int))) l) ++ List.drop (Int.toNat (IntKind.wrap IntKind.i64 (List.getD [u,v] (Int.toNat (0:Int)) (0:Int)+(1:Int)))) (List.take (Nat.add (Int.toNat (IntKind.wrap IntKind.i64 (List.getD [u,v] (Int.toNat (0:Int)) (0:Int)+(1:Int)))) (Int.toNat (List.getD [u,v] (Int.toNat (1:Int)) (0:Int)) - Int.toNat (IntKind.wrap IntKind.i64 (List.getD [u,v] (Int.toNat (0:Int)) (0:Int)+(1:Int))))) l) ++ List.drop (Int.toNat (IntKind.wrap IntKind.i64 (List.getD [u,v] (Int.toNat (1:Int)) (0:Int)+(1:Int)))) (List.take (Nat.add (Int.toNat (IntKind.wrap IntKind.i64 (List.getD [u,v] (Int.toNat (1:Int)) (0:Int)+(1:Int)))) (Int.toNat (Int.ofNat y) - Int.toNat (IntKind.wrap IntKind.i64 (List.getD [u,v] (Int.toNat (1:Int)) (0:Int)+(1:Int))))) l)) (List.length ([] ++ List.drop (Int.toNat (0:Int)) (List.take (Nat.add (Int.toNat (0:Int)) (Int.toNat (List.getD [u,v] (Int.toNat (0:Int)) (0:Int)) - Int.toNat (0:Int))) l) ++ List.drop (Int.toNat (IntKind.wrap IntKind.i64 (List.getD [u,v] (Int.toNat (0:Int)) (0:Int)+(1:Int)))) (List.take (Nat.add (Int.toNat (IntKind.wrap IntKind.i64 (List.getD [u,v] (Int.toNat (0:Int)) (0:Int)+(1:Int)))) (Int.toNat (List.getD [u,v] (Int.toNat (1:Int)) (0:Int)) - Int.toNat (IntKind.wrap IntKind.i64 (List.getD [u,v] (Int.toNat (0:Int)) (0:Int)+(1:Int))))) l) ++ List.drop (Int.toNat (IntKind.wrap IntKind.i64 (List.getD [u,v] (Int.toNat (1:Int)) (0:Int)+(1:Int)))) (List.take (Nat.add (Int.toNat (IntKind.wrap IntKind.i64 (List.getD [u,v] (Int.toNat (1:Int)) (0:Int)+(1:Int)))) (Int.toNat (Int.ofNat y) - Int.toNat (IntKind.wrap IntKind.i64 (List.getD [u,v] (Int.toNat (1:Int)) (0:Int)+(1:Int))))) l))) (IntKind.wrap IntKind.i64 (n+(1:Int))))) .bad):=by kernel_rfl
theorem x_t (p l:List Int) (y:Nat) (n:Int) (g:List Int) (m:Nat) (nn:Bool) (k:Int):RUN (stOf (sX p l y n g m nn k))=(bc (bc (bc (decide ((0:Int)≤k)) (Nat.blt (Int.toNat k) m) false) true false) (bc (bc (Nat.ble (Nat.add (Nat.add (Nat.mul (Int.toNat k) (2:Nat)) (0:Nat)) (2:Nat)) (List.length g)) true false) (bc (bc (Nat.beq (List.length (List.take (2:Nat) (List.drop (Nat.add (Nat.mul (Int.toNat k) (2:Nat)) (0:Nat)) g))) (2:Nat)) (Nat.beq (List.length (zerosL (2:Nat))) (2:Nat)) false) (.at (sY (p) (l) (y) (n) (List.take (2:Nat) (List.drop (Nat.add (Nat.mul (Int.toNat k) (2:Nat)) (0:Nat)) g)))) .bad) .bad) .bad):=by kernel_rfl
section
variable {p l:List Int} {n:Nat} {R:EV}
theorem loopB (hl:l.length≤100) (hs:∀ j,-1000000≤l.getD j 0∧l.getD j 0≤1000000) {a:Nat} (ha:a < l.length)
  (H:∀ nn,EndZ 16 ctCa false (stOf (sA p l l.length n (encP (prsI l (a+1))) (prsI l (a+1)).length nn (a+1:Nat))) R [] 0) :
  ∀ (d b:Nat) (nn:Bool),b+d=l.length→a < b→EndZ 16 ctCa false (stOf (sB p l l.length n (encP (prsI l a ++ rowP l a b)) (prsI l a ++ rowP l a b).length nn a b)) R [] 0
 | 0,b,nn,h,hab=>by
  obtain rfl:b=l.length:=by omega
  have q:=b_t p l l.length n (encP (prsI l a ++ rowP l a l.length)) (prsI l a ++ rowP l a l.length).length nn a l.length;have w4:IntKind.wrap IntKind.i64 ((a:Int)+1)=((a+1:Nat):Int):=by rw [wrap_in _ (by omega) (by omega)];omega
  rw [w4,df (show ¬ (l.length:Int) < Int.ofNat l.length by rw [ofn];omega),bc_f] at q;have hH:=H nn;rw [prsI_succ] at hH;exact .at ctCa_ok q hH
 | d+1,b,nn,h,hab=>by
  have hb:b < l.length:=by omega
  have q:=b_t p l l.length n (encP (prsI l a ++ rowP l a b)) (prsI l a ++ rowP l a b).length nn a b;have e0:∀ x:Nat,Int.toNat (x:Int)=x:=fun _=>rfl;have w4:IntKind.wrap IntKind.i64 ((b:Int)+1)=((b+1:Nat):Int):=by rw [wrap_in _ (by omega) (by omega)];omega
  have hlen:(prsI l a ++ rowP l a b).length≤10100:=by
   have h1:=prsI_len l a;have h2:=rowP_len l a b;have h3:a * l.length≤100 * 100:=Nat.mul_le_mul (by omega) hl;rw [List.length_append];omega
  have hen:(encP (prsI l a ++ rowP l a b)).length=(prsI l a ++ rowP l a b).length * 2:=by rw [encP_len];omega
  have hr:=rowP_succ (l:=l) hab;rw [e0,e0,w4,dt (show MeeOk l a b from ⟨by omega,by omega,by omega,by omega,hs⟩),hen] at q
  cases c:metB l a b with
  | true=>
   have w2:bc nn true (bc nn false true)=true:=by cases nn <;> rfl
   rw [c,if_pos rfl] at hr;have e1:encP (prsI l a ++ rowP l a b) ++ [(a:Int),(b:Int)]=encP (prsI l a ++ rowP l a (b+1)):=by
    rw [hr,← List.append_assoc,encP_app (prsI l a ++ rowP l a b)];rfl
   have e2:(prsI l a ++ rowP l a b).length+1=(prsI l a ++ rowP l a (b+1)).length:=by
    rw [hr,← List.append_assoc,show ((prsI l a ++ rowP l a b) ++ [(a,b)]).length=(prsI l a ++ rowP l a b).length+1 from List.length_append ..]
   rw [c,w2,e1,e2] at q;have w5:Nat.beq (Nat.mul (prsI l a ++ rowP l a b).length 2) ((prsI l a ++ rowP l a b).length * 2)=true:=Nat.beq_refl _;have w6:Nat.ble (prsI l a ++ rowP l a (b+1)).length 65536=true:=Nat.ble_eq_true_of_le (by omega);rw [w5,w6] at q
   simp (disch:=omega) only [Nat.add_eq,eqSy_self,eqN_self,bc_same,List.length_cons,ofn,wrap_in,dt,df,bltD,bltN,ble_of,bleN,beqD,bc_t,bc_f,nn_ok,Nat.zero_add,to_nat,Int.zero_add,Int.sub_zero,Int.sub_self,Int.cast_ofNat_Int,Int.natCast_zero,Int.toNat_zero,List.take_zero,List.nil_append,List.length_append,List.length_nil] at q;have ih:=loopB hl hs ha H d (b+1) true (by omega) (by omega);simp only [List.length_append] at ih ⊢;exact .at ctCa_ok q ih
  | false=>
   rw [c,if_neg (by simp),List.append_nil] at hr;rw [c,← hr] at q;simp (disch:=omega) only [Nat.add_eq,eqSy_self,eqN_self,bc_same,List.length_cons,ofn,wrap_in,dt,df,bltD,bltN,ble_of,bleN,beqD,bc_t,bc_f,nn_ok,Nat.zero_add,to_nat,Int.zero_add,Int.sub_zero,Int.sub_self,Int.cast_ofNat_Int,Int.natCast_zero,Int.toNat_zero,List.take_zero,List.nil_append,List.length_append,List.length_nil] at q;rw [← hr];have ih:=loopB hl hs ha H d (b+1) nn (by omega) (by omega);simp only [List.length_append] at ih ⊢;exact .at ctCa_ok q ih
theorem loopA (hl:l.length≤100) (hs:∀ j,-1000000≤l.getD j 0∧l.getD j 0≤1000000)
  (H:∀ nn,EndZ 16 ctCa false (stOf (sA p l l.length n (encP (prsL l)) (prsL l).length nn l.length)) R [] 0) :
  ∀ (d a:Nat) (nn:Bool),a+d=l.length→EndZ 16 ctCa false (stOf (sA p l l.length n (encP (prsI l a)) (prsI l a).length nn a)) R [] 0
 | 0,a,nn,h=>by
  obtain rfl:a=l.length:=by omega
  exact H nn
 | d+1,a,nn,h=>by
  have ha:a < l.length:=by omega
  have q:=a_t p l l.length n (encP (prsI l a)) (prsI l a).length nn a;have w4:IntKind.wrap IntKind.i64 ((a:Int)+1)=((a+1:Nat):Int):=by rw [wrap_in _ (by omega) (by omega)];omega
  rw [dt (show (a:Int) < Int.ofNat l.length by rw [ofn];omega),bc_t,w4] at q;have:=loopB (p:=p) (n:=n) hl hs ha (fun nn'=>loopA hl hs H d (a+1) nn' (by omega)) (l.length - (a+1)) (a+1) nn (by omega) (by omega);rw [rowP_zero,List.append_nil] at this;exact .at ctCa_ok q this
theorem stepY (hl:l.length≤100) {a b:Nat} (hab:a < b) (hb:b < l.length) (hn:n≤4000):RUN (stOf (sY p l l.length n [(a:Int),(b:Int)])) = .at (sN p (nxL l a b) (nxL l a b).length (n+1:Nat)):=by
 have q:=y_t p l l.length n a b;have g0:List.getD [(a:Int),(b:Int)] (Int.toNat 0) 0=a:=rfl;have g1:List.getD [(a:Int),(b:Int)] (Int.toNat 1) 0=b:=rfl;have e0:∀ x:Nat,Int.toNat (x:Int)=x:=fun _=>rfl;have e00:Int.toNat 0=0:=rfl;have wa:IntKind.wrap IntKind.i64 ((a:Int)+1)=((a+1:Nat):Int):=by rw [wrap_in _ (by omega) (by omega)];omega
 have wb:IntKind.wrap IntKind.i64 ((b:Int)+1)=((b+1:Nat):Int):=by rw [wrap_in _ (by omega) (by omega)];omega
 have wn:IntKind.wrap IntKind.i64 ((n:Int)+1)=((n+1:Nat):Int):=by rw [wrap_in _ (by omega) (by omega)];omega
 have k1:Nat.add 0 (a - 0)=a:=by show 0+(a - 0)=a;omega
 have k2:Nat.add (a+1) (b - (a+1))=b:=by show (a+1)+(b - (a+1))=b;omega
 have k3:Nat.add (b+1) (l.length - (b+1))=l.length:=by show (b+1)+(l.length - (b+1))=l.length;omega
 have en:List.drop 0 (List.take a l) ++ List.drop (a+1) (List.take b l) ++ List.drop (b+1) l=nxL l a b:=rfl;have l1:(List.drop 0 (List.take a l)).length=a:=by rw [List.drop_zero,List.length_take];omega
 have l2:(List.drop (a+1) (List.take b l)).length=b - (a+1):=by rw [List.length_drop,List.length_take];omega
 have l3:(List.drop (b+1) l).length=l.length - (b+1):=List.length_drop ..;rw [g0,g1,wa,wb,wn,e00,ofn] at q;simp only [e0,k1,k2,k3,List.nil_append,List.take_length] at q;rw [en] at q;simp only [List.length_append,l1,l2,l3] at q
 simp (disch:=omega) only [Nat.add_eq,eqSy_self,eqN_self,bc_same,List.length_cons,ofn,wrap_in,dt,df,bltD,bltN,ble_of,bleN,beqD,bc_t,bc_f,nn_ok,Nat.zero_add,to_nat,Int.zero_add,Int.sub_zero,Int.sub_self,Int.cast_ofNat_Int,Int.natCast_zero,Int.toNat_zero,List.take_zero,List.nil_append,List.length_append,List.length_nil] at q;exact q
theorem stepX {k m:Nat} {L:List (Nat × Nat)} {nn:Bool} (hk:k < L.length):RUN (stOf (sX p l l.length n (encP L) L.length nn k)) = .at (sY p l l.length n [(L[k].1:Int),(L[k].2:Int)]):=by
 have q:=x_t p l l.length n (encP L) L.length nn k;have e0:Int.toNat (k:Int)=k:=rfl;have e1:Nat.add (Nat.mul k 2) 0=2 * k:=by show k * 2+0=2 * k;omega
 have e2:Nat.add (2 * k) 2=2 * k+2:=rfl;have hz:Nat.beq (List.length (zerosL 2)) 2=true:=rfl;rw [e0,e1,e2,encP_at hk,encP_len,hz] at q;have h2:Nat.beq (List.length [(L[k].1:Int),(L[k].2:Int)]) 2=true:=rfl;rw [h2] at q
 simp (disch:=omega) only [Nat.add_eq,eqSy_self,eqN_self,bc_same,List.length_cons,ofn,wrap_in,dt,df,bltD,bltN,ble_of,bleN,beqD,bc_t,bc_f,nn_ok,Nat.zero_add,to_nat,Int.zero_add,Int.sub_zero,Int.sub_self,Int.cast_ofNat_Int,Int.natCast_zero,Int.toNat_zero,List.take_zero,List.nil_append,List.length_append,List.length_nil] at q;exact q
end
theorem main {p:List Int} (hp:PkOk p):∀ (f n:Nat) (l:List Int),l.length < f→f+n≤4000→l.length≤100→(∀ x,x ∈ l → -1000≤x∧x≤2000)→EndZ 16 ctCa false (stOf (sN p l l.length n)) (il (canF p f n l)) [] 0
 | 0,n,l,h,_,_,_=>by omega
 | f+1,n,l,h,hf,hl,hx=>by
  have hs:=small_getD hx;refine .at ctCa_ok (n_t p l l.length n) (loopA (p:=p) (n:=n) hl hs (fun nn=>?_) l.length 0 false (by omega));have q:=a_t p l l.length n (encP (prsL l)) (prsL l).length nn l.length;rw [df (show ¬ (l.length:Int) < Int.ofNat l.length by rw [ofn];omega),bc_f] at q;unfold canF
  by_cases c:prsL l=[]
  ·rw [if_pos c];rw [c] at q;rw [c];rw [show (Int.ofNat ([]:List (Nat × Nat)).length == (0:Int))=true from rfl] at q
   simp (disch:=omega) only [Nat.add_eq,eqSy_self,eqN_self,bc_same,List.length_cons,ofn,wrap_in,dt,df,bltD,bltN,ble_of,bleN,beqD,bc_t,bc_f,nn_ok,Nat.zero_add,to_nat,Int.zero_add,Int.sub_zero,Int.sub_self,Int.cast_ofNat_Int,Int.natCast_zero,Int.toNat_zero,List.take_zero,List.nil_append,List.length_append,List.length_nil] at q;exact .done q
  ·rw [if_neg c];have hm:0 < (prsL l).length:=List.length_pos_iff.2 c;have hk:=pick_lt hp (n:=n) hm;obtain ⟨k,hk2⟩:∃ k,pickP p n (prsL l).length=k:=⟨_,rfl⟩;rw [hk2] at hk;obtain ⟨q1,q2,q3⟩:=prs_mem (l:=l) (x:=(prsL l)[k]) (List.getElem_mem hk);have hnl:=nx_len q1 q2;have hgd:(prsL l).getD k (0,0)=(prsL l)[k]:=getD_at hk
   have fin:EndZ 16 ctCa false (stOf (sX p l l.length n (encP (prsL l)) (prsL l).length nn k)) (il (canF p f (n+1) (nxL l ((prsL l).getD (pickP p n (prsL l).length) (0,0)).1 ((prsL l).getD (pickP p n (prsL l).length) (0,0)).2))) [] 0:=by
    rw [hk2,hgd];exact .at ctCa_ok (stepX (m:=0) hk) (.at ctCa_ok (stepY hl q1 q2 (by omega)) (main hp f (n+1) _ (by omega) (by omega) (by omega) fun x h=>hx x (nx_mem h)))
   have c2:(Int.ofNat (prsL l).length == (0:Int))=false:=by rw [ofn];exact beq_eq_false_iff_ne.2 (by omega)
   rw [c2,bc_f] at q
   by_cases d:p=[]
   ·subst d;have:k=0:=by rw [← hk2];unfold pickP;rw [if_pos rfl]
    subst this;rw [df (show ¬ (0:Int) < Int.ofNat ([]:List Int).length by decide),bc_f] at q;exact .at ctCa_ok q fin
   ·have hp0:0 < p.length:=List.length_pos_iff.2 d;have t1:Int.tmod (n:Int) (Int.ofNat p.length)=((n % p.length:Nat):Int):=rfl;have hlt:n % p.length < p.length:=Nat.mod_lt _ hp0;have hby:=hp (n % p.length);have e0:∀ x:Nat,Int.toNat (x:Int)=x:=fun _=>rfl;have w:IntKind.wrap IntKind.i64 (p.getD (n % p.length) 0)=p.getD (n % p.length) 0:=wrap_in _ (by omega) (by omega);have hkk:Int.tmod (p.getD (n % p.length) 0) (Int.ofNat (prsL l).length)=(k:Int):=by
     have h3:=Int.tmod_nonneg (((prsL l).length:Nat):Int) hby.1;have h4:pickP p n (prsL l).length=(Int.tmod (p.getD (n % p.length) 0) ((prsL l).length:Nat)).toNat:=by unfold pickP;rw [if_neg d]
     rw [ofn];omega
    have c3:(Int.ofNat p.length == (0:Int))=false:=by rw [ofn];exact beq_eq_false_iff_ne.2 (by omega)
    rw [t1,e0,w,hkk,c3] at q;have nb:bnot false=true:=rfl;rw [nb] at q;simp (disch:=omega) only [Nat.add_eq,eqSy_self,eqN_self,bc_same,List.length_cons,ofn,wrap_in,dt,df,bltD,bltN,ble_of,bleN,beqD,bc_t,bc_f,nn_ok,Nat.zero_add,to_nat,Int.zero_add,Int.sub_zero,Int.sub_self,Int.cast_ofNat_Int,Int.natCast_zero,Int.toNat_zero,List.take_zero,List.nil_append,List.length_append,List.length_nil] at q;exact .at ctCa_ok q fin
theorem ends {p l:List Int} (h:CanOk p l):EndZ 16 ctCa false (st0 16 [il l,.lst (.ints .u8 p)]) (il (canF p (l.length+1) 0 l)) [] 0:=by
 obtain ⟨h1,h2,h3⟩:=h;have q:=in_t p l;rw [List.nil_append] at q;simp (disch:=omega) only [Nat.add_eq,eqSy_self,eqN_self,bc_same,List.length_cons,ofn,wrap_in,dt,df,bltD,bltN,ble_of,bleN,beqD,bc_t,bc_f,nn_ok,Nat.zero_add,to_nat,Int.zero_add,Int.sub_zero,Int.sub_self,Int.cast_ofNat_Int,Int.natCast_zero,Int.toNat_zero,List.take_zero,List.nil_append,List.length_append,List.length_nil] at q;exact .at ctCa_ok q (main h1 (l.length+1) 0 l (by omega) (by omega) h2 h3)
end LCan
noncomputable def spCan:ZCT:=fun ax=>match ax with
 | [.lst (.ints .i64 l),.lst (.ints .u8 p)]=>some ⟨decide (CanOk p l),il (canF p (l.length+1) 0 l),[],0⟩
 | _=>none
theorem spCan_ok:ZCtOk Try.prog 16 spCan:=fun γ w us ax r hs hc hax hN hfz=>by
 unfold spCan at hs;split at hs
 case h_2=>cases hs
 rename_i l p;obtain ⟨rfl⟩:=Option.some.inj hs;have hc_0:decide (CanOk p l)=true:=hc;have hc:=of_decide_eq_true hc_0;exact EndZ.calls (LCan.ends hc) ctCa_ok (by kernel_rfl) hax hN hfz
end Go.Proofs.Ytfffbioafhppiaa.Ev
namespace Go.Proofs.Ytfffbioafhppiaa.Ev
variable {l:List Int}

end Go.Proofs.Ytfffbioafhppiaa.Ev
namespace Go.Proofs.Ytfffbioafhppiaa.Ev
open Go.Proofs
namespace PKys
end PKys
namespace PAcc
end PAcc
namespace RKys
end RKys
namespace RAcc
end RAcc
end Go.Proofs.Ytfffbioafhppiaa.Ev
namespace Go.Proofs.Ytfffbioafhppiaa.Ev
open Go.Proofs
theorem awakeL_run:endsB (exClosed Try.prog ft (drD Try.prog ft 16 4) 12 18)=true:=by kernel_rfl
theorem awakeLC (w:World):Calls Try.prog 12 #[] w fun e w'=>e = .returned (.bool true)∧Stays w w':=closedTrue ftOk (drD_ok mix ftOk 16 4) awakeL_run w
theorem spAwakeL_ok:ZCtOk Try.prog 12 spTrue:=spTrue_ok awakeLC
end Go.Proofs.Ytfffbioafhppiaa.Ev
namespace Go.Proofs.Ytfffbioafhppiaa
open Go.ChangeShapes Go.WideShapes Go.ChangeAt Go.RowKit

theorem kept_of_stays {W W':World} (h:Ev.Stays W W') (may:MemPlace→Prop):W.keptBut W' may:=by
 refine ⟨h.os,h.output,fun i hi=>?_⟩;have e:=h.block i hi;rw [e]
 cases hb:W.heap[i]? with
 | none=>simp
 | some o=>
  cases o <;> first | exact ⟨rfl,rfl,rfl,fun _ _=>rfl⟩ | exact .inr ⟨rfl,rfl⟩ | rfl
theorem frozen_of_stays {W W':World} (h:Ev.Stays W W') (a:Addr) (ha:a.block < W.heap.size):W'.frozen? a=W.frozen? a:=by
 unfold World.frozen?;rw [h.block _ ha]
section
variable {H:Type} {enc:TypeId × Value→H} {P:Program}

theorem post_of_stays {f:Func} {s:ChangeSpec} {apart fresh handsOn again:Bool} {W W':World} {args:Array Value} {v:Value} {ds gs:List (DataW H)} {before pa pv:List MemPlace}
  (hW:DataW.Whole enc P f.params.toList s.vars apart W args.toList ds gs before)
  (hres:∀ (b:Nat) (sp:Nat→Bool) (hd:Bool),DataW.TrodAll enc P W' b sp hd f.resultTypes.toList (v.resultList f.resultTypes.size) (s.fn H (ds ++ gs)).results [])
  (hargs:∀ sp:Nat→Bool,(∀ p ∈ before,sp p.block=true)→DataW.TrodAll enc P W' 0 sp true f.params.toList args.toList (s.fn H (ds ++ gs)).args pa)
  (hvars:∀ sp:Nat→Bool,(∀ p ∈ before,sp p.block=true)→DataW.TrodVars enc P W' sp s.vars (s.fn H (ds ++ gs)).vars pv)
  (hps:before=pa ++ pv) (hst:Ev.Stays W W')
  (hok:∀ (j:Nat) (t:TypeId) (r:Value),f.resultTypes[j]? = some t→(v.resultList f.resultTypes.size)[j]? = some r→Value.okWide P W' .any 0 t r) :
  s.post enc P f apart fresh handsOn again W args v W':=by
 have hk:W.keptBut W' (· ∈ before):=kept_of_stays hst _;have hold:∀ p ∈ before,(fun b=>decide (b < W.heap.size)) p.block=true:=fun p hp=>by simpa using hW.lt p hp
 have hlt:=fun p hp=>hW.lt p hp;refine ⟨ds,gs,before,[],pa,pv,hW,hres _ _ _,hargs _ hold,hvars _ hold,World.keptBut_mono (fun p hp=>⟨hp,?_⟩) hk,fun _=>?_⟩
 ·rw [hps,List.mem_append] at hp;exact Or.inr hp
 ·obtain ⟨_,_,_,_,_,hz,hn⟩:=hW;refine ⟨hok,_,_,([] ++ pa) ++ pv,⟨[] ++ pa,pv,trodAll_append (hargs _ (fun _ _=>rfl)) (hres _ _ _),hvars _ (fun _ _=>rfl),rfl,?_,?_⟩,?_⟩
  ·intro b off hp;have hp2:MemPlace.cell b off ∈ before:=by rw [hps];simpa using hp
   rw [frozen_of_stays hst _ (hlt _ hp2)];exact hz b off hp2
  ·intro ha;have:=hn ha;rw [hps] at this;simpa using this
  ·intro p hp _;rw [hps];simpa using hp
end
end Go.Proofs.Ytfffbioafhppiaa
namespace Go.Proofs.Ytfffbioafhppiaa
open Go.ChangeShapes Go.WideShapes Go.ChangeAt Go.RowKit
section
variable {H:Type} {enc:TypeId × Value→H} {P:Program}
theorem same_of_stays {W W':World} (h:Ev.Stays W W') {p:MemPlace} (hp:p.block < W.heap.size):W.sameAt W' p:=by
 cases p with
 | cell b off=>
  show W'.cell? _=W.cell? _;unfold World.cell?;rw [h.block b hp]
 | map b=>exact h.block b hp
theorem args_carry {W W':World} {base:Nat} {sp:Nat→Bool} {hd:Bool}:∀ {ts:List TypeId} {vs:List Value} {ds:List (DataW H)} {ps:List MemPlace},DataW.TrodAll enc P W base sp hd ts vs ds ps→(∀ p ∈ ps,W.sameAt W' p)→DataW.TrodAll enc P W' base sp hd ts vs ds ps
 | [],[],[],_,h,_=>h
 | _ :: _,_ :: _,_ :: _,_,⟨p,q,⟨n,h⟩,hs,e⟩,k=>⟨p,q,⟨n,DataW.trod_carry n _ _ _ h fun x hx=>k x (by rw [e];exact List.mem_append_left _ hx)⟩,args_carry hs fun x hx=>k x (by rw [e];exact List.mem_append_right _ hx),e⟩
 | [],[],_ :: _,_,h,_=>h.elim
 | [],_ :: _,_,_,h,_=>h.elim
 | _ :: _,[],_,_,h,_=>h.elim
 | _ :: _,_ :: _,[],_,h,_=>h.elim

theorem post_law {f:Func} {s:ChangeSpec} {apart fresh handsOn again:Bool} {W W':World} {args:Array Value} {ds:List (DataW H)} {p:List MemPlace} {bt:TypeId} {T:TypeId→Prop} (K:Kids P T) (hz:∀ t e,T t→P.underlying t=some (.slice e)→0 < P.cellsOf e)
  (hbt:P.underlying bt=some .bool) (hrt:f.resultTypes.toList=[bt]) (hsz:f.resultTypes.size=1) (hvs:s.vars=[]) (hfn:s.fn H (ds ++ [])={ results:=[.lit (.bool true)],args:=ds })
  (hpt:∀ t ∈ f.params.toList,T t)
  (hW:DataW.Whole enc P f.params.toList s.vars apart W args.toList ds [] (p ++ [])) (hA:DataW.TrodAll enc P W 0 (fun _=>true) true f.params.toList args.toList ds p) (hst:Ev.Stays W W')
  (hok:∀ (j:Nat) (t:TypeId) (r:Value),f.resultTypes[j]? = some t→((Value.bool true).resultList f.resultTypes.size)[j]? = some r→Value.okWide P W' .any 0 t r) :
  s.post enc P f apart fresh handsOn again W args (.bool true) W':=by
 have hlt:=fun q hq=>hW.lt q hq;refine post_of_stays (pa:=p) (pv:=[]) hW (fun b sp hd=>?_) (fun sp hsp=>?_) (fun sp _=>?_) rfl hst hok
 ·rw [hrt,hfn,hsz];exact trodAll_mk1 (shut_bool hbt _)
 ·rw [hfn];exact DataW.TrodAll.respare K hz hpt (args_carry hA fun q hq=>same_of_stays hst (hlt q (by simpa using hq))) fun q hq=>hsp q (by simpa using hq)
 ·rw [hfn,hvs];rfl
end
namespace Ev


inductive UFit:Sh→U→Prop where
 | int (k:IntKind) (n:Int) (h:(Lit.int k n).wf=true):UFit (.int k) (.i n)
 | bool (b:Bool):UFit .bool (.b b)
 | str (s:ByteArray) (h:s.size≤maxLen):UFit .str (.s s)
 | list (sh:List Sh) (l:List (List U)) (hl:l.length≤maxLen) (hr:∀ j,j < l.length→(l.getD j []).length=sh.length) (h:∀ (j f:Nat) (s:Sh),j < l.length→sh[f]? = some s→UFit s ((l.getD j []).getD f (.i 0))):UFit (.list sh) (.l l)
structure RowFit (sh:List Sh) (r:List U):Prop where
 len:r.length=sh.length
 fit:∀ (f:Nat) (s:Sh),sh[f]? = some s→UFit s (r.getD f (.i 0))
theorem RowFit.nil:RowFit [] []:=⟨rfl,fun f s h=>by simp at h⟩
theorem RowFit.append {sh1 sh2:List Sh} {r1 r2:List U} (h1:RowFit sh1 r1) (h2:RowFit sh2 r2):RowFit (sh1 ++ sh2) (r1 ++ r2):=by
 refine ⟨by simp [h1.len,h2.len],fun f s h=>?_⟩;rw [List.getD_eq_getElem?_getD]
 by_cases hf:f < sh1.length
 ·rw [List.getElem?_append_left hf] at h;rw [List.getElem?_append_left (by rw [h1.len];exact hf),← List.getD_eq_getElem?_getD];exact h1.fit f s h
 ·rw [List.getElem?_append_right (by omega)] at h;rw [List.getElem?_append_right (by rw [h1.len];omega),h1.len,← List.getD_eq_getElem?_getD];exact h2.fit _ s h
theorem recE_app:∀ {sh1 sh2:List Sh} {r1 r2:List U},r1.length=sh1.length→recE (sh1 ++ sh2) (r1 ++ r2)=recE sh1 r1 ++ recE sh2 r2
 | [],sh2,r1,r2,h=>by
  have:r1=[]:=List.eq_nil_of_length_eq_zero h;subst this;rfl
 | s :: sh1,sh2,[],r2,h=>by cases h
 | s :: sh1,sh2,u :: r1,r2,h=>by
  show s.ev u :: recE (sh1 ++ sh2) (r1 ++ r2)=s.ev u :: (recE sh1 r1 ++ recE sh2 r2);rw [recE_app (by simpa using h)]

def shFs (P:Program) (f:TypeId→Option (List Sh)):List Field→Nat→Option (List Sh)
 | [],_=>some []
 | fd :: r,off=>match f fd.type with
  | some sh=>if fd.offset=off∧P.cellsOf fd.type=sh.length then match shFs P f r (off+sh.length) with
   | some l=>some (sh ++ l)
   | none=>none else none
  | none=>none
def shB (P:Program):Nat→TypeId→Option (List Sh)
 | 0,_=>none
 | k+1,t=>match P.underlying t with
  | some (.int κ)=>some [.int κ]
  | some .bool=>some [.bool]
  | some .string=>some [.str]
  | some (.slice e)=>match shB P k e with
   | some sh=>if P.cellsOf e=sh.length∧0 < sh.length then some [.list sh] else none
   | none=>none
  | some (.struct fs)=>match shFs P (shB P k) fs.toList 0 with
   | some sh=>if P.cellsOf t=sh.length then some sh else none
   | none=>none
  | some (.array m e)=>match shB P k e with
   | some sh=>if P.cellsOf e=sh.length∧P.cellsOf t=m * sh.length then some (List.replicate m sh).flatten else none
   | none=>none
  | _=>none
noncomputable def fzAll (W:World):Nat→Option (Array Value):=fun k=>match W.heap[k]? with
 | some (.cells a _ _)=>some a
 | _=>none
noncomputable def gAll (W:World):G:=⟨fun _=>none,fzAll W,fun _ _ _=>none⟩
theorem fzAll_at (W:World):FzAt (gAll W) W:=⟨fun k a hk=>(by
 have hk:fzAll W k=some a:=hk;unfold fzAll at hk;split at hk
 ·rename_i a' ty fz h;injection hk with hk;subst hk
  exact ⟨ty,fz,h⟩
 ·cases hk),fun _ _ _=>rfl⟩
theorem list_of {Q:Nat→List U→Prop}:∀ (n:Nat),(∀ i,i < n→∃ r,Q i r)→∃ l:List (List U),l.length=n∧∀ i,i < n→Q i (l.getD i [])
 | 0,_=>⟨[],rfl,fun i hi=>absurd hi (by omega)⟩
 | n+1,h=>by
  obtain ⟨l,h1,h2⟩:=list_of n fun i hi=>h i (by omega);obtain ⟨r,hr⟩:=h n (by omega);refine ⟨l ++ [r],by simp [h1],fun i hi=>?_⟩;rw [List.getD_eq_getElem?_getD]
  by_cases e:i < n
  ·rw [List.getElem?_append_left (by omega),← List.getD_eq_getElem?_getD];exact h2 i e
  ·have:i=n:=by omega
   subst this;rw [List.getElem?_append_right (by omega),h1,Nat.sub_self];exact hr
variable {H:Type} {enc:TypeId × Value→H} {P:Program} {W:World} {base:Nat} {sp:Nat→Bool} {hd:Bool}
def OpenAt (enc:TypeId × Value→H) (P:Program) (W:World) (base:Nat) (sp:Nat→Bool) (hd:Bool) (k:Nat):Prop:=∀ (t:TypeId) (sh:List Sh) (fuel:Nat) (cs:List Value) (x:DataW H × List MemPlace),shB P k t=some sh→DataW.trod enc P W base sp hd fuel t cs=some x→∃ r,RowFit sh r∧∀ γ:G,γ.fz=fzAll W→ECL γ (recE sh r) cs
theorem fields_open {k:Nat} (ih:OpenAt enc P W base sp hd k) {cs:List Value} {n:Nat}:∀ (fs:List Field) (off:Nat) (sh:List Sh),shFs P (shB P k) fs off=some sh→(∀ f,f ∈ fs→∃ y,DataW.trod enc P W base sp hd n f.type ((cs.drop f.offset).take (P.cellsOf f.type))=some y)→∃ r,RowFit sh r∧∀ γ:G,γ.fz=fzAll W→ECL γ (recE sh r) ((cs.drop off).take sh.length)
 | [],off,sh,h,_=>by
  injection (show some []=some sh from h) with h;subst h
  exact ⟨[],.nil,fun γ _=>by
   rw [show ([]:List Sh).length=0 from rfl,List.take_zero];exact ECL.nil γ⟩
 | fd :: fs,off,sh,h,hall=>by
  unfold shFs at h;split at h
  case h_2=>cases h
  rename_i s1 hs1;split at h
  case isFalse=>cases h
  rename_i hc;split at h
  case h_2=>cases h
  rename_i s2 hs2;injection h with h;subst h
  obtain ⟨y,hy⟩:=hall fd (by simp);rw [hc.1,hc.2] at hy;obtain ⟨r1,h1,h2⟩:=ih fd.type s1 n _ y hs1 hy;obtain ⟨r2,h3,h4⟩:=fields_open ih fs (off+s1.length) s2 hs2 fun f hf=>hall f (by simp [hf]);refine ⟨r1 ++ r2,h1.append h3,fun γ hγ=>?_⟩;rw [recE_app h1.len,List.length_append];have e:(cs.drop off).take (s1.length+s2.length)=(cs.drop off).take s1.length ++ (cs.drop (off+s1.length)).take s2.length:=by
   rw [List.take_add,List.drop_drop]
  rw [e];exact (h2 γ hγ).append (h4 γ hγ)
theorem elems_open {k:Nat} (ih:OpenAt enc P W base sp hd k) {cs:List Value} {n:Nat} {e:TypeId} {sh:List Sh} (hsh:shB P k e=some sh) (hc:P.cellsOf e=sh.length):∀ (m i0:Nat),(∀ i,i < m→∃ y,DataW.trod enc P W base sp hd n e ((cs.drop ((i0+i) * P.cellsOf e)).take (P.cellsOf e))=some y)→∃ r,RowFit (List.replicate m sh).flatten r∧∀ γ:G,γ.fz=fzAll W→ECL γ (recE (List.replicate m sh).flatten r) ((cs.drop (i0 * sh.length)).take (m * sh.length))
 | 0,i0,_=>⟨[],.nil,fun γ _=>by
   rw [Nat.zero_mul,List.take_zero];exact ECL.nil γ⟩
 | m+1,i0,h=>by
  obtain ⟨y,hy⟩:=h 0 (by omega);rw [hc,Nat.add_zero] at hy;obtain ⟨r1,h1,h2⟩:=ih e sh n _ y hsh hy;obtain ⟨r2,h3,h4⟩:=elems_open ih hsh hc m (i0+1) fun i hi=>by
   have:=h (i+1) (by omega)
   rwa [show i0+(i+1)=i0+1+i by omega] at this
  refine ⟨r1 ++ r2,by rw [List.replicate_succ,List.flatten_cons];exact h1.append h3,fun γ hγ=>?_⟩;rw [List.replicate_succ,List.flatten_cons,recE_app h1.len,Nat.succ_mul,Nat.add_comm,List.take_add,List.drop_drop];have:=h4 γ hγ;rw [Nat.succ_mul] at this;exact (h2 γ hγ).append this
theorem open_cells:∀ k,OpenAt enc P W base sp hd k
 | 0=>fun t sh fuel cs x h=>by cases h
 | k+1=>fun t sh fuel cs x h ht=>by
  have ih:OpenAt enc P W base sp hd k:=open_cells k;unfold shB at h;split at h
  ·rename_i κ hu;injection h with h;subst h
   obtain ⟨n,rfl,_,hw⟩:=DataW.trod_int hu ht;refine ⟨[.i n],⟨rfl,fun f s hf=>?_⟩,fun γ _=>.cons (.v _) (.nil _)⟩;obtain ⟨rfl,rfl⟩:=one_f hf;exact .int κ n hw
  ·rename_i hu;injection h with h;subst h
   obtain ⟨b,rfl,_⟩:=DataW.trod_bool hu ht;refine ⟨[.b b],⟨rfl,fun f s hf=>?_⟩,fun γ _=>.cons (.v _) (.nil _)⟩;obtain ⟨rfl,rfl⟩:=one_f hf;exact .bool b
  ·rename_i hu;injection h with h;subst h
   obtain ⟨s,rfl,_,hs⟩:=DataW.trod_string hu ht;refine ⟨[.s s],⟨rfl,fun f s hf=>?_⟩,fun γ _=>.cons (.v _) (.nil _)⟩;obtain ⟨rfl,rfl⟩:=one_f hf;exact .str _ hs
  ·rename_i e hu;split at h
   case h_2=>cases h
   rename_i sh' hsh;split at h
   case isFalse=>cases h
   rename_i hc;injection h with h;subst h
   rcases DataW.trod_slice hu ht with ⟨rfl,_⟩ | ⟨a,len,cap,elems,rest,n,_,rfl,_,hb,hlc,hcm,hel,hall,_⟩
   ·refine ⟨[.l []],⟨rfl,fun f s hf=>?_⟩,fun γ _=>.cons ?_ (.nil _)⟩
    ·obtain ⟨rfl,rfl⟩:=one_f hf;exact .list sh' [] (Nat.zero_le _) (fun j hj=>by simp at hj) (fun j f s hj=>by simp at hj)
    ·exact UOk.ec (s:=.list sh') (.empty sh' (.l []) none 0 rfl (Nat.zero_le _) fun _=>rfl)
   ·have each:∀ i,i < len→∃ r,RowFit sh' r∧∃ ys,W.cells? base (a.add (i * sh'.length)) sh'.length=some ys∧∀ γ:G,γ.fz=fzAll W→ECL γ (recE sh' r) ys:=fun i hi=>by
     have h1:=hall i hi;rw [hc.1] at h1;have h2:i < elems.length:=by omega
     rw [List.getElem?_eq_getElem h2] at h1;obtain ⟨ys,h3,h4⟩:=Option.bind_eq_some_iff.1 h1;obtain ⟨r,h5,h6⟩:=ih e sh' n ys _ hsh h4;exact ⟨r,h5,ys,h3,h6⟩
    obtain ⟨l,hl,hQ⟩:=list_of len each;refine ⟨[.l l],⟨rfl,fun f s hf=>?_⟩,fun γ hγ=>.cons ?_ (.nil _)⟩
    ·obtain ⟨rfl,rfl⟩:=one_f hf;exact .list sh' l (by omega) (fun j hj=>(hQ j (by omega)).1.len) fun j f s hj hf=>(hQ j (by omega)).1.fit f s hf
    ·refine UOk.ec (s:=.list sh') ?_
     by_cases h0:len=0
     ·have:l=[]:=List.eq_nil_of_length_eq_zero (by omega);subst this;subst h0;exact .empty sh' (.l []) (some a) cap rfl hcm fun e=>by cases e
     ·obtain ⟨b,off,spot⟩:=a;have hblk:spot=none∧∃ arr ty fz,W.heap[b]? = some (.cells arr ty fz):=by
       obtain ⟨h1,ys,h2,h3⟩:=hQ 0 (by omega);obtain ⟨_,h4,h5⟩:=World.cells?_some h2;have h6:=h5 0 hc.2;rw [List.getElem?_eq_getElem (show 0 < ys.length by omega)] at h6;have h6:W.cell? ⟨b,off,spot⟩=some ys[0]:=by
        have e:((⟨b,off,spot⟩:Addr).add (0 * sh'.length)).add 0=⟨b,off,spot⟩:=by simp [Addr.add]
        rw [e] at h6;exact h6
       unfold World.cell? at h6;split at h6
       ·rename_i arr ty fz hb';split at h6
        ·cases h6
        ·rename_i hs;exact ⟨by cases spot <;> simp_all,arr,ty,fz,hb'⟩
       ·cases h6
      obtain ⟨rfl,arr,ty,fz,hblk⟩:=hblk;have cellAt:∀ i f,i < len→f < sh'.length→∃ y,W.cell? ⟨b,off+(i * sh'.length+f),none⟩=some y∧∀ s,sh'[f]? = some s→UOk γ.fz s ((l.getD i []).getD f (.i 0)) y:=fun i f hi hf=>by
       obtain ⟨h1,ys,h2,h3⟩:=hQ i hi;obtain ⟨_,h4,h5⟩:=World.cells?_some h2;have h6:=h5 f hf;have h7:f < ys.length:=by omega
       rw [List.getElem?_eq_getElem h7] at h6;refine ⟨ys[f],?_,fun s hs=>?_⟩
       ·have e:((⟨b,off,none⟩:Addr).add (i * sh'.length)).add f=⟨b,off+(i * sh'.length+f),none⟩:=by
         unfold Addr.add;split <;> split <;> simp_all [Nat.add_assoc]
        rw [← h6,e]
       ·have h8:=recE_get (s:=s) (f:=f) (sh:=sh') (l.getD i []) hs;have h9:=(h3 γ hγ).2 f _ ys[f] h8 (List.getElem?_eq_getElem h7);exact UOk.of_ec h9
      have getA:∀ i f,i < len→f < sh'.length→∃ y,arr[off+(i * sh'.length+f)]? = some y∧∀ s,sh'[f]? = some s→UOk γ.fz s ((l.getD i []).getD f (.i 0)) y:=fun i f hi hf=>by
       obtain ⟨y,h1,h2⟩:=cellAt i f hi hf;refine ⟨y,?_,h2⟩;unfold World.cell? at h1;simpa [hblk] using h1
      have hk:γ.fz b=some arr:=by
       rw [hγ];unfold fzAll;rw [hblk]
      subst hl;refine .list sh' (.l l) b off cap arr hk hlc hcm ?_ fun j f s x hj hf hx=>?_
      ·show off+l.length * sh'.length≤arr.size;obtain ⟨y,h1,_⟩:=getA (l.length - 1) (sh'.length - 1) (by omega) (by omega);have:=(Array.getElem?_eq_some_iff.1 h1).1;have e:l.length * sh'.length=(l.length - 1) * sh'.length+sh'.length:=by rw [← Nat.succ_mul];congr 1;omega
       omega
      ·obtain ⟨y,h1,h2⟩:=getA j f hj (List.getElem?_eq_some_iff.1 hf).1;rw [h1] at hx;injection hx with hx;subst hx;exact h2 s hf
  ·rename_i fs hu;split at h
   case h_2=>cases h
   rename_i sh' hsh;split at h
   case isFalse=>cases h
   rename_i hc;injection h with h;subst h
   obtain ⟨xs,n,_,_,hl,hlen,hf⟩:=DataW.trod_struct hu ht;obtain ⟨r,h1,h2⟩:=fields_open (cs:=cs) (n:=n) ih fs.toList 0 sh' hsh fun f hm=>by
    obtain ⟨i,hi,rfl⟩:=List.getElem_of_mem hm;have hi2:i < fs.size:=by simpa using hi
    have:=hf i fs.toList[i] (by simp [hi2]);rw [List.getElem?_eq_getElem (by omega)] at this;exact ⟨_,this⟩
   refine ⟨r,h1,fun γ hγ=>?_⟩;have:=h2 γ hγ
   rwa [List.drop_zero,List.take_of_length_le (by omega)] at this
  ·rename_i m e hu;split at h
   case h_2=>cases h
   rename_i sh' hsh;split at h
   case isFalse=>cases h
   rename_i hc;injection h with h;subst h
   obtain ⟨xs,n,_,_,hl,hlen,hf⟩:=DataW.trod_array hu ht;obtain ⟨r,h1,h2⟩:=elems_open (cs:=cs) (n:=n) ih hsh hc.1 m 0 fun i hi=>by
    have:=hf i hi;rw [List.getElem?_eq_getElem (by omega)] at this;rw [Nat.zero_add];exact ⟨_,this⟩
   refine ⟨r,h1,fun γ hγ=>?_⟩;have:=h2 γ hγ
   rwa [Nat.zero_mul,List.drop_zero,List.take_of_length_le (by omega)] at this
  ·cases h

theorem open_agg {t:TypeId} {fs:Array Field} {v:Value} {d:DataW H} {ps:List MemPlace} {k b0:Nat} {rc:Reach} {sh:List Sh} (hu:P.underlying t=some (.struct fs)) (hs:shB P k t=some sh) (hv:Value.okWide P W rc b0 t v) (h:DataW.Trod enc P W base sp hd t v d ps):∃ r,RowFit sh r∧EC (gAll W) (.agg (recE sh r)) v:=by
 obtain ⟨cs,rfl,_⟩:=okWide_struct hu hv;obtain ⟨fuel,hf⟩:=h;obtain ⟨r,h1,h2⟩:=open_cells k t sh fuel _ _ hs hf;have h3:=h2 (gAll W) rfl;refine ⟨r,h1,?_⟩;have:=EC.agg (γ:=gAll W) (recE sh r) cs.toList h3.1 h3.2;simpa using this

theorem open_lst {t e:TypeId} {v:Value} {d:DataW H} {ps:List MemPlace} {k b0:Nat} {rc:Reach} {sh:List Sh} (hu:P.underlying t=some (.slice e)) (hs:shB P k t=some [.list sh]) (hv:Value.okWide P W rc b0 t v) (h:DataW.Trod enc P W base sp hd t v d ps):∃ l,UFit (.list sh) (.l l)∧EC (gAll W) (.lst (mkC sh l)) v:=by
 obtain ⟨a,len,cap,rfl⟩:=okWide_slice hu hv;obtain ⟨fuel,hf⟩:=h;obtain ⟨r,h1,h2⟩:=open_cells k t _ fuel _ _ hs hf;have h3:=h2 (gAll W) rfl;obtain ⟨h4,h5⟩:=h1
 match r,h4 with
 | [u],_=>
  have h6:=h5 0 _ rfl;have h6:UFit (.list sh) u:=h6
  cases h6 with
  | list _ l hl hr hh=>
   refine ⟨l,.list sh l hl hr hh,?_⟩;exact h3.2 0 _ _ rfl rfl
end Ev
end Go.Proofs.Ytfffbioafhppiaa
namespace Go.Proofs.Ytfffbioafhppiaa.Ev
open Go.Proofs
theorem fitI64 {u:U} (h:UFit (.int .i64) u):∃ n,u = .i n ∧ -9223372036854775808≤n∧n≤9223372036854775807:=by
 cases h with
 | int k n h=>
  refine ⟨n,rfl,?_⟩;have h1:IntKind.i64.min≤n∧n≤IntKind.i64.max:=by simpa [Lit.wf] using h
  have e1:IntKind.i64.min = -9223372036854775808:=rfl;have e2:IntKind.i64.max=9223372036854775807:=rfl;omega
theorem fitI {l:List (List U)} (h:UFit (.list [.int .i64]) (.l l)):In64 (l.map fun r=>(r.headD (.i 0)).int):=by
 cases h with
 | list sh l hl hr hf=>
  intro j hj;rw [List.length_map] at hj;rw [getD_at (by rw [List.length_map];exact hj),List.getElem_map];have h1:=hf j 0 _ hj rfl;rw [getD_at (d:=[]) hj] at h1;obtain ⟨n,e,h2⟩:=fitI64 h1;rw [headD_getD,e];exact h2
end Go.Proofs.Ytfffbioafhppiaa.Ev
namespace Go.Proofs.Ytfffbioafhppiaa.Ev
open Go.Proofs
noncomputable def ctLy:Tr ZCC:=((((((Tr.nil.put 11 (some (dC spRChL))).put 13 (some (dC spPTi))).put 14 (some (dC spIns))).put 15 (some (dC spAlk))).put 16 (some (dC spCan))).put 17 (some (dC spLet))).put 12 (some (dC spTrue))
theorem ctLy_ok:ZCtsOk Try.prog ctLy:=(((((((ZCtsOk.nil _).add rfl spRChL_ok).add rfl spPTi_ok).add rfl spIns_ok).add rfl spAlk_ok).add rfl spCan_ok).add rfl spLet_ok).add rfl spAwakeL_ok
namespace ALy
noncomputable def RUN (s:ES):ZF:=RZ 3 ctLy (fun _=>false) [] [] false s
theorem in_t (t:Int) (l p:List Int):RUN (st0 3 [hE t l,.lst (.ints .u8 p)])=(bc (chkL t l != (0:Int)) (.done (EV.v (Value.bool true)) [] 0) (bc (decide ((24:Int) < Int.ofNat (List.length l))) (.done (EV.v (Value.bool true)) [] 0) (bc (decide (In64 l)) (bc (chkL t l != (0:Int)) (.done (EV.v (Value.bool false)) [] 0) (bc (bc (decide (InsOk l (bc (chkL t l != (0:Int)) [] (ofNs (idxB (tgA l)))))) true false) (bc (bc (bc (decide (CanOk p l)) (bc (decide (InsOk l (bc (chkL t l != (0:Int)) [] (ofNs (idxB (tgA l)))))) (bc (bc (decide (AlkOk (canF p (List.length l+(1:Nat)) (0:Nat) l) (ltsL l (toN (bc (chkL t l != (0:Int)) [] (ofNs (idxB (tgA l)))))))) true false) true false) false) false) (bc (bc (bc (bc (decide (t=t)) (bc (eqSy (SyC.ints IntKind.i64 l) (SyC.ints IntKind.i64 l)) true false) false) true false) true false) true false) false) (.done (EV.v (Value.bool true)) [] 0) .bad) .bad)) .bad))):=by kernel_rfl
theorem ends {t:Int} {l p:List Int} (hx:In64 l) (hp:PkOk p):EndZ 3 ctLy false (st0 3 [hE t l,.lst (.ints .u8 p)]) (bv true) [] 0:=by
 have h:=in_t t l p
 by_cases z:chkL t l=0
 ·rw [z,show ((0:Int) != 0)=false from rfl,bc_f] at h
  by_cases c:(24:Int) < Int.ofNat l.length
  ·rw [dt c,bc_t] at h;exact .done h
  ·have hl:l.length≤24:=by rw [ofn] at c;omega
   obtain ⟨k1,k2,k3⟩:=chk_iff.1 z;have hs:=letD_hs k1 k3;have sm:∀ x,x ∈ l → -1000≤x∧x≤2000:=fun x hx=>by have:=k3 x hx;unfold LetD at this;omega
   have hB:LetB l:=fun x hx=>(sm x hx).1;have hT:=tigT_asc l;have hq:=can_tq hp hB hs;have hql:=hq.len;rw [lts_len] at hql;have htl:=asc_len hT;have hm:=(can_ok hp (l.length+1) 0 l (Nat.lt_succ_self _) hB).2.2;have i1:InsOk l (ofNs (tigT l)):=⟨⟨_,rfl,hT⟩,by omega⟩;have i2:CanOk p l:=⟨hp,by omega,sm⟩;have i3:AlkOk (canF p (l.length+1) 0 l) (ltsL l (tigT l)):=⟨hq,by omega,small_getD fun x h=>sm x (hm x h),small_getD fun x h=>by
    obtain ⟨j,hj,rfl⟩:=List.mem_map.1 h;have:=hT.2 j hj;exact sm _ (by rw [getD_at this];exact List.getElem_mem this)⟩
   rw [df c,bc_f,dt hx,tgA_idx,show bc false ([]:List Int) (ofNs (tigT l))=ofNs (tigT l) from rfl,toN_ofNs,dt i1,dt i2,dt i3,dt (rfl:t=t)] at h
   simp (disch:=omega) only [Nat.add_eq,eqSy_self,eqN_self,bc_same,List.length_cons,ofn,wrap_in,dt,df,bltD,bltN,ble_of,bleN,beqD,bc_t,bc_f,nn_ok,Nat.zero_add,to_nat,Int.zero_add,Int.sub_zero,Int.sub_self,Int.cast_ofNat_Int,Int.natCast_zero,Int.toNat_zero,List.take_zero,List.nil_append,List.length_append,List.length_nil] at h;exact .done h
 ·rw [show (chkL t l != 0)=true by simp [z],bc_t] at h;exact .done h
end ALy
theorem fitU8 {u:U} (h:UFit (.int .u8) u):∃ n,u = .i n∧0≤n∧n≤255:=by
 cases h with
 | int k n h=>
  refine ⟨n,rfl,?_⟩;have h1:IntKind.u8.min≤n∧n≤IntKind.u8.max:=by simpa [Lit.wf] using h
  have e1:IntKind.u8.min=0:=rfl;have e2:IntKind.u8.max=255:=rfl;omega
theorem fitP {l:List (List U)} (h:UFit (.list [.int .u8]) (.l l)):PkOk (l.map fun r=>(r.headD (.i 0)).int):=by
 cases h with
 | list sh l hl hr hf=>
  intro j
  by_cases hj:j < l.length
  ·rw [getD_at (by rw [List.length_map];exact hj),List.getElem_map];have h1:=hf j 0 _ hj rfl;rw [getD_at (d:=[]) hj] at h1;obtain ⟨n,e,h2⟩:=fitU8 h1;rw [headD_getD,e];exact h2
  ·rw [List.getD_eq_getElem?_getD,List.getElem?_eq_none (by rw [List.length_map];omega)];decide
theorem looseAny_calls {γ:G} {w:World} {us:Array Value} (ra:List U) (wa:RowFit [.int .i64,.list [.int .i64]] ra) (b:List (List U)) (wb:UFit (.list [.int .u8]) (.l b))
  (hax:ECL γ [.agg (recE [.int .i64,.list [.int .i64]] ra),.lst (mkC [.int .u8] b)] us.toList) (hN:∀ i,γ i=none) (hfz:FzAt γ w):Calls Try.prog 3 us w fun e w'=>e = .returned (.bool true)∧Stays w w':=by
 have h1:=wa.fit 1 _ rfl;have hlen:=wa.len
 match ra,hlen with
 | [x,y],_=>
  have h1:UFit (.list [.int .i64]) y:=h1
  cases h1 with
  | list sh l hl hr hf=>
   exact law_of ((ALy.ends (t:=U.int x) (fitI (.list _ l hl hr hf)) (fitP wb)).calls ctLy_ok (by kernel_rfl) hax hN hfz)
end Go.Proofs.Ytfffbioafhppiaa.Ev
namespace Go.Proofs.Ytfffbioafhppiaa
open Go.ChangeShapes Go.WideShapes Go.ChangeAt Go.RowKit Go.ChangeMaps
theorem knobLooseAny:ownKnob Try.prog.godebug=none:=by kernel_rfl
theorem kidsLooseAny:Kids Try.prog (· < Try.prog.types.size):=kids_rows (by kernel_rfl) (by kernel_rfl)
theorem fullLooseAny:∀ t e,t < Try.prog.types.size→Try.prog.underlying t=some (.slice e)→0 < Try.prog.cellsOf e:=slices_full_of Try.prog (by kernel_rfl)
set_option maxRecDepth 100000 in
theorem liftedLooseAny (os:Os) (started:os.Started) (H:Type) (enc:TypeId × Value→H) :
  ReturnsInHanded {} Try.checked os 3 .any (Rows.looseAnySpec.pre6 enc Try.prog Try.f3 Rows.looseAnyRow.domain false) (Rows.looseAnySpec.post enc Try.prog Try.f3 false true false false):=by
 refine returnsInHanded_of_change (C:=Try.checked) knobLooseAny started (by kernel_rfl) Try.func3
  (ChangeSpec.witness6 (enc:=enc) (C:=Try.checked) false ⟨#[],#[.agg #[.int .i64 0,.slice none 0 0],.slice none 0 0],[]⟩ 8 (by kernel_rfl) (by kernel_rfl) (by kernel_rfl) (by kernel_rfl)) ?_
 intro W base args ds gs before hval0 hW hcnd _;have hval:∀ (j:Nat) t v,Try.f3.params[j]? = some t→args[j]? = some v→Value.okWide Try.prog W .any base t v:=hval0;have hW':=hW;obtain ⟨p,q,hA0,hV,rfl,hfz,hnd⟩:=hW;have hA:DataW.TrodAll enc Try.prog W 0 (fun _=>true) true Try.f3.params.toList args.toList ds p:=hA0;have hAk:=hA;rw [Try.params3] at hA hval;obtain ⟨rfl,rfl⟩:=trodVars_none hV;obtain ⟨v0,v1,d0,d1,p0,p1,rfl,rfl,rfl,h0,h1⟩:=trodAll_two hA
 obtain ⟨r,wr,er⟩:=Ev.open_agg (k:=8) Try.underlying24 (by kernel_rfl:Ev.shB Try.prog 8 24=some [.int .i64,.list [.int .i64]]) (hval 0 24 v0 rfl rfl) h0;obtain ⟨b,wb,eb⟩:=Ev.open_lst (k:=8) Try.underlying25 (by kernel_rfl:Ev.shB Try.prog 8 25=some [.list [.int .u8]]) (hval 1 25 v1 rfl rfl) h1;clear hA0 hval0;refine (Ev.looseAny_calls r wr b wb (γ:=Ev.gAll W) (.cons er (.cons eb (.nil _))) (fun i=>rfl) (Ev.fzAll_at W)).mono fun e W' ⟨he,hg⟩=>?_;subst he
 exact ⟨_,rfl,post_law kidsLooseAny fullLooseAny Try.underlying4 (by kernel_rfl) (by kernel_rfl) rfl rfl (by rw [Try.params3];decide) hW' hAk hg (ok_one (by kernel_rfl) rfl (okWide_bool_mk Try.underlying4 _))⟩
theorem looseAny_holds:Rows.LooseAnySaid:=
 OpenClaim.holds_of_wide 3 Try.f3 rfl rfl rfl rfl rfl rfl rfl ⟨rfl,rfl,rfl,rfl,rfl⟩ rfl rfl rfl rfl rfl (by kernel_rfl) Try.func3 (by kernel_rfl)
  (of_decide_eq_true (by kernel_rfl)) (by unfold Func.isWrapper;first | (rw [if_pos (by decide +kernel)];kernel_rfl) | (rw [if_neg (by decide +kernel)];exact ⟨rfl,rfl⟩))
  (fun os started H enc _=>liftedLooseAny os started H enc)
end Go.Proofs.Ytfffbioafhppiaa
