/- Laid together: Rows of records by an open number: made; copied in part. No program is named. Sequences of arrays, held cell by cell: literals, lengthening, cutting. No program is named. Operations on open leaves that write or make memory: append, make, literals; all of them together. No program is named. Calls whose outcome is said beforehand: from data to data, or to new sequences. No .. -/
import Derived.Test.YtepiiaeiogdphaaTTg3
set_option linter.unusedSimpArgs false
set_option linter.unusedVariables false
noncomputable section
namespace Go.Proofs.Ytepiiaeiogdphaa.Ev
section
open Go.RowKit
variable {P:Program} {γ γ':G} {w0:Bs} {w:World} {H H':Tr EK} {n n':Nat} {T:Tr EV} {tmps:Array Value} {o:Oper}
theorem bcC {a b:Bool} (h:bc a b false=true):a=true∧b=true:=by
 rw [bc_eq] at h;split at h
 ·exact ⟨by assumption,h⟩
 ·cases h
def zeroRow (sh:List Sh) (zs:List Value):Option (List U):=match recsU sh 1 (zs.map .v) with
 | some [r]=>some r
 | _=>none
theorem zgb (zs:List Value) (k:Nat):zeroCellsE zs (zs.length+k)=zs.map .v++zeroCellsE zs k:=by
 unfold zeroCellsE;rw [List.range_add,List.map_append,List.map_map];congr 1
 ·apply List.ext_getElem?;intro j;rw [List.getElem?_map,List.getElem?_map]
  by_cases hj:j<zs.length
  ·rw [List.getElem?_range hj,List.getElem?_eq_getElem hj];simp [Nat.mod_eq_of_lt hj,hj]
  ·rw [List.getElem?_eq_none (by simp;omega),List.getElem?_eq_none (by omega)];rfl
 ·apply List.map_congr_left;intro j _;show EV.v (zs.toArray[(zs.length+j)%zs.toArray.size]!)=_;rw [List.size_toArray,Nat.add_mod_left]
theorem zeroRows {sh:List Sh} {zs:List Value} {r0:List U} (h:zeroRow sh zs=some r0) {γ:G}:∀ (m:Nat) (vs:List Value),ECL γ (zeroCellsE zs (m*zs.length)) vs→ECL γ ((List.replicate m r0).flatMap (recE sh)) vs
 | 0,vs,hv=>by
  have e:zeroCellsE zs (0*zs.length)=[]:=by rw [Nat.zero_mul];rfl
  rw [e] at hv;exact hv
 | m+1,vs,hv=>by
  unfold zeroRow at h;have h0:=h;split at h
  case h_2=>cases h
  rename_i r hr;injection h with h;subst h
  rw [Nat.succ_mul,Nat.add_comm,zgb] at hv;have hl:(zs.map EV.v).length=zs.length:=List.length_map ..;have h1:=hv.take zs.length;have h2:=hv.drop zs.length;rw [List.take_left' hl] at h1;rw [List.drop_left' hl] at h2;have h3:=(zd1 hr).2.2.2.2 γ _ h1;have h4:=zeroRows h0 m _ h2;have h5:=h3.append h4;rw [List.take_append_drop] at h5;simpa [List.replicate_succ] using h5
def zMakeR (P:Program) (T:Tr EV) (t:TypeId) (len cap:Operand) (H:Tr EK) (n:Nat):Option YR:=match elemInfo P t with
 | some ei=>match Sx.zeroL P ei.e with
  | some zs=>match shOf P 6 ei.e with
   | some sh=>match zeroRow sh zs with
    | some r0=>match intOf (exVal T len) with
     | some l=>match intOf (exVal T cap) with
      | some c=>bc (Nat.beq ei.z zs.length) (bc (Nat.ble n 65535) (some ⟨bc (decide (0≤l)) (bc (decide (l=c)) (decide (c≤65536)) false) false,⟨some (.sl n ei.z 0 l.toNat none),H.put n (some (.seq ei.e (mkC sh (List.replicate l.toNat r0)) true)),Nat.succ n⟩⟩) none) none
      | none=>none
     | none=>none
    | none=>none
   | none=>none
  | none=>none
 | none=>none
theorem zih (hT:TOk γ T tmps) (hH:HR γ w0 H n w) {t:TypeId} {len cap:Operand} {r:YR} (ho:o.op = .makeSlice t len cap) (h:zMakeR P T t len cap H n=some r) (hc:r.c=true):Gives P γ w0 w (execOp (opEval tmps) o) r.er.val r.er.H r.er.n:=by
 unfold zMakeR at h;split at h
 case h_2=>cases h
 rename_i ei hei;obtain ⟨hu,inf,zv,hi,hz,hsz,hzs,hpos,hby⟩:=zaj hei;split at h
 case h_2=>cases h
 rename_i zs hzs2;obtain ⟨inf2,zv2,hi2,hzv2,hzl⟩:=zb3 hzs2;rw [hi] at hi2;injection hi2 with hi2;subst hi2
 rw [hz] at hzv2;injection hzv2 with hzv2;subst hzv2
 split at h
 case h_2=>cases h
 rename_i sh hsh;split at h
 case h_2=>cases h
 rename_i r0 hr0;split at h
 case h_2=>cases h
 rename_i l hl;split at h
 case h_2=>cases h
 rename_i c hcp;rw [bc_eq] at h;split at h
 case isFalse=>cases h
 rename_i hz1;rw [bc_eq] at h;split at h
 case isFalse=>cases h
 rename_i hnb;injection h with h;subst h
 have hc:bc (decide (0≤l)) (bc (decide (l=c)) (decide (c≤65536)) false) false=true:=hc;obtain ⟨h1,hc⟩:=bcC hc;obtain ⟨h2,h3⟩:=bcC hc;have h1:=of_decide_eq_true h1;have h2:=of_decide_eq_true h2;have h3:=of_decide_eq_true h3;subst h2;have hz1:=Nat.eq_of_beq_eq_true hz1;obtain ⟨l,rfl⟩:=Int.eq_ofNat_of_zero_le h1;obtain ⟨κ,hlen⟩:=zag hT hl;obtain ⟨κ2,hcap⟩:=zag hT hcp;show Gives P γ w0 w _ (some (.sl n ei.z 0 (Int.toNat (l:Int)) none)) (H.put n (some (.seq ei.e (mkC sh (List.replicate (Int.toNat (l:Int)) r0)) true))) (Nat.succ n)
 rw [Int.toNat_natCast];have hb2:=Nat.mul_le_mul hby (show l≤65536 by omega);have h8:inf.bytes*l≤281474976710656:=Nat.le_trans hb2 (Nat.le_of_ble_eq_true rfl);have h9:(inf.bytes:Int)*(l:Int)≤281474976710656:=by rw [← Int.natCast_mul];omega
 have hr:=run_make (P:=P) w t ei.e inf zv hu hi hz κ κ2 (l:Int) (l:Int) (by omega) (by omega) h9 (by omega);rw [Int.toNat_natCast,hsz] at hr;have hcl:(madeCells zv.cells (l*ei.z)).size=l*ei.z:=by rw [size_madeCells]
 have hγn:=hH.fresh n (Nat.le_refl _);have e1:zv.cells.toList=zs:=hzl;have hall:∀ γ:G,ECL γ (mkC sh (List.replicate l r0)).enc (madeCells zv.cells (l*ei.z)).toList:=fun γ=>by
  rw [zcq];refine zeroRows hr0 l _ ?_;rw [← hz1];unfold madeCells;have e2:zv.cells=zs.toArray:=by apply Array.ext';simpa using e1
  rw [e2];exact za4 zs _
 have hlen2:(mkC sh (List.replicate l r0)).enc.length=l*ei.z:=by rw [(hall γ).1,Array.length_toList,hcl]
 have hHn:HR (γ.upd n (⟨w.heap.size,0⟩,l*ei.z)) w0 (H.put n (some (.seq ei.e (mkC sh (List.replicate l r0)) true))) (Nat.succ n) (w.alloc (.cells (madeCells zv.cells (l*ei.z)) ei.e)):=hH.new hnb (.cells (madeCells zv.cells (l*ei.z)) ei.e) (l*ei.z) (.seq ei.e (mkC sh (List.replicate l r0)) true) rfl rfl rfl rfl
  ⟨madeCells zv.cells (l*ei.z),.of (by show (w.heap.push _)[_]? = _;simp),by rw [hcl];simp,by rw [hlen2];omega,by
   rw [List.drop_zero,hlen2,List.take_of_length_le (by rw [Array.length_toList,hcl];omega)];exact hall _⟩
 refine ⟨γ.upd n (⟨w.heap.size,0⟩,l*ei.z),w.alloc (.cells (madeCells zv.cells (l*ei.z)) ei.e),G.upd_le hγn,hHn,.slice (some ⟨w.heap.size,0,none⟩) l l,?_,?_⟩
 ·have hex:execOp (opEval tmps) o=(do pure (Next.value (← Instr.makeSlice t (.int κ l) (.int κ2 l))):Sem Next):=by unfold execOp;rw [ho];simp only [hlen,hcap]
  rw [hex];exact run_v hr
 ·exact .sl n ei.z 0 l none ⟨w.heap.size,0⟩ (l*ei.z) l G.upd_same (Nat.le_refl _) (by unfold maxLen;omega) (by omega) (fun k e=>by cases e) (fun _=>by omega)
def SyC.drop (c:SyC) (k:Nat):SyC:=match c with
 | .ints q l=>.ints q (l.drop k)
 | .bools l=>.bools (l.drop k)
 | .strs l=>.strs (l.drop k)
 | .recs sh l=>.recs sh (l.drop k)
theorem zoo (sh:List Sh) (l:List (List U)) (k:Nat):(l.drop k).flatMap (recE sh)=(l.flatMap (recE sh)).drop (k*sh.length):=by
 induction l generalizing k with
 | nil=>simp
 | cons r l ih=>
  cases k with
  | zero=>simp
  | succ k=>
   have e:(recE sh r).drop ((k+1)*sh.length)=[]:=List.drop_of_length_le (by rw [zas,Nat.succ_mul];omega);rw [List.drop_succ_cons,List.flatMap_cons,ih,List.drop_append,e,zas,Nat.succ_mul,Nat.add_sub_cancel,List.nil_append]
theorem SyC.drop_enc2 (c:SyC) (k:Nat):(c.drop k).enc=c.enc.drop (k*c.cz):=by
 cases c with
 | ints q l=>show (l.drop k).map _=(l.map _).drop (k*1);rw [List.map_drop,Nat.mul_one]
 | bools l=>show (l.drop k).map _=(l.map _).drop (k*1);rw [List.map_drop,Nat.mul_one]
 | strs l=>show (l.drop k).map _=(l.map _).drop (k*1);rw [List.map_drop,Nat.mul_one]
 | recs sh l=>exact zoo sh l k
theorem SyC.drop_cz (c:SyC) (k:Nat):(c.drop k).cz=c.cz:=by cases c <;> rfl
theorem SyC.take_cz2 (c:SyC) (k:Nat):(c.take k).cz=c.cz:=by cases c <;> rfl
theorem SyC.drop_cnt (c:SyC) (k:Nat):(c.drop k).cnt=c.cnt-k:=by
 cases c <;> exact List.length_drop
theorem SyC.take_cnt2 (c:SyC) (k:Nat):(c.take k).cnt=min k c.cnt:=by
 cases c <;> exact List.length_take
def cpSrc (a:EV) (H:Tr EK):Option (Bool×SyC×Nat):=match a with
 | .lst d=>some (true,d,d.cnt)
 | .sl j z off len none=>match H.get j with
  | some (.seq _ d true)=>bc (Nat.beq z d.cz) (bc (Nat.ble j 65535) (some (bc (Nat.beq (off/z*z) off) (Nat.ble (off/z+len) d.cnt) false,(d.drop (off/z)).take len,len)) none) none
  | _=>none
 | _=>none
def cpAll (c d:SyC) (lo k:Nat):Option SyC:=match (c.take lo).appS (d.take k) with
 | some e=>e.appS (c.drop (lo+k))
 | none=>none
def zCopy (P:Program) (T:Tr EV) (args:List Operand) (ats:List TypeId) (H:Tr EK) (n:Nat):Option YR:=match args with
 | [x,y]=>match ats with
  | [t,_]=>match elemInfo P t with
   | some ei=>match exVal T x with
    | some (.sl i z off len none)=>match H.get i with
     | some (.seq ty c true)=>match exVal T y with
      | some b=>match cpSrc b H with
       | some (c1,d,m)=>match cpAll c d (off/z) (min m len) with
        | some c'=>bc (Nat.beq z ei.z) (bc (Nat.beq z c.cz) (bc (Nat.beq z d.cz) (bc (Nat.ble i 65535)
          (some ⟨bc c1 (bc (Nat.beq (off/z*z) off) (Nat.ble (off/z+min m len) c.cnt) false) false,⟨some (.v (.int .i64 (Int.ofNat (min m len)))),H.put i (some (.seq ty c' true)),n⟩⟩) none) none) none) none
        | none=>none
       | none=>none
      | none=>none
     | _=>none
    | _=>none
   | none=>none
  | _=>none
 | _=>none
theorem zs9 (hH:HR γ w0 H n w) {a:EV} {vx:Value} {c1:Bool} {d:SyC} {m:Nat} (ha:EC γ a vx) (h:cpSrc a H=some (c1,d,m)) (hc:c1=true):d.cnt=m∧SrcOk γ w d vx:=by
 unfold cpSrc at h;split at h
 ·rename_i d';simp only [Option.some.injEq,Prod.mk.injEq] at h;obtain ⟨_,rfl,rfl⟩:=h;exact ⟨rfl,zo8 hH ha⟩
 ·rename_i j z off len;split at h
  case h_2=>cases h
  rename_i ty d' hg;rw [bc_eq] at h;split at h
  case isFalse=>cases h
  rename_i hz;rw [bc_eq] at h;split at h
  case isFalse=>cases h
  rename_i hj;simp only [Option.some.injEq,Prod.mk.injEq] at h;obtain ⟨rfl,rfl,rfl⟩:=h;obtain ⟨k1,k2⟩:=bcC hc;have k1:=Nat.eq_of_beq_eq_true k1;have k2:=Nat.le_of_ble_eq_true k2;have hz:=Nat.eq_of_beq_eq_true hz;have hcnt:((d'.drop (off/z)).take len).cnt=len:=by rw [SyC.take_cnt2,SyC.drop_cnt];omega
  have hcz:((d'.drop (off/z)).take len).cz=z:=by rw [SyC.take_cz2,SyC.drop_cz,hz]
  refine ⟨hcnt,?_⟩;have henc:((d'.drop (off/z)).take len).enc=(d'.enc.drop off).take (len*z):=by
   rw [SyC.take_enc2,SyC.drop_enc2,SyC.drop_cz,← hz,k1]
  have hnil:¬ (EK.seq ty d' true).Nil:=fun e=>by cases e.1
  cases ha with
  | sl _ _ _ _ _ b mm cp q1 q2 q3 q4 q5 q6=>
   obtain ⟨b2,m2,hγ2,_,ca,hb,hsz,hle,hcl⟩:=hH.hp j _ hg hnil;rw [q1] at hγ2;simp only [Option.some.injEq,Prod.mk.injEq] at hγ2;obtain ⟨rfl,rfl⟩:=hγ2;have hlz:off+len*z≤d'.enc.length:=by
    rw [d'.enc_len,d'.len_cz,← hz];have:=Nat.mul_le_mul_right z k2;rw [Nat.add_mul,k1] at this;exact this
   refine ⟨fun _=>⟨b.at off,cp,((((ca.toList.drop b.s).take d'.enc.length).drop off).take (len*z)),by rw [hcnt],?_,?_,fun q u hq=>?_⟩,fun h0=>.inr ⟨_,cp,by rw [← hcnt,h0]⟩⟩
   ·rw [henc];have:=(hcl.drop off).take (len*z);exact this
   ·rw [← (show ((d'.drop (off/z)).take len).enc.length=_ from SyC.enc_len _),henc]
    have:=((hcl.drop off).take (len*z)).1;exact this.symm
   ·rw [List.getElem?_take] at hq;split at hq
    case isFalse=>cases hq
    rename_i hql;rw [List.getElem?_drop,List.getElem?_take] at hq;split at hq
    case isFalse=>cases hq
    rw [List.getElem?_drop] at hq;rw [Pl.at_add,(zae hb).1,← Array.getElem?_toList];exact hq
 ·cases h
theorem zqf {c d c':SyC} {lo k:Nat} (h:cpAll c d lo k=some c') (hz:d.cz=c.cz) (hk:k≤d.cnt):c'.enc=Sx.putAt c.enc (lo*c.cz) ((d.take k).enc):=by
 unfold cpAll at h;split at h
 case h_2=>cases h
 rename_i e he;have h1:=SyC.appS_enc he;have h2:=SyC.appS_enc h;rw [h2,h1,SyC.take_enc2 c,SyC.drop_enc2];unfold Sx.putAt;rw [SyC.enc_len (d.take k),SyC.len_cz,SyC.take_cnt2,SyC.take_cz2,hz,Nat.min_eq_left hk,Nat.add_mul]
theorem zq8 (hT:TOk γ T tmps) (hH:HR γ w0 H n w) {args:Array Operand} {ats:Array TypeId} {r:YR} (ho:o.op = .call { callee:=.builtin .copy,args:=args,argTypes:=ats }) (h:zCopy P T args.toList ats.toList H n=some r) (hc:r.c=true) :
  Gives P γ w0 w (execOp (opEval tmps) o) r.er.val r.er.H r.er.n:=by
 unfold zCopy at h;split at h
 case h_2=>cases h
 rename_i x y hargs;split at h
 case h_2=>cases h
 rename_i t u hats;split at h
 case h_2=>cases h
 rename_i ei hei;obtain ⟨hu,inf,zv,hi,hz,hsz,hzs,hpos,hby⟩:=zaj hei;split at h
 case h_2=>cases h
 rename_i i z off len hx;split at h
 case h_2=>cases h
 rename_i ty c hg;split at h
 case h_2=>cases h
 rename_i b hy;split at h
 case h_2=>cases h
 rename_i c1 d m hsrc;split at h
 case h_2=>cases h
 rename_i c' hall;rw [bc_eq] at h;split at h
 case isFalse=>cases h
 rename_i e1;rw [bc_eq] at h;split at h
 case isFalse=>cases h
 rename_i e2;rw [bc_eq] at h;split at h
 case isFalse=>cases h
 rename_i e3;rw [bc_eq] at h;split at h
 case isFalse=>cases h
 rename_i hib;injection h with h;subst h
 obtain ⟨k1,hc⟩:=bcC hc;obtain ⟨k2,k3⟩:=bcC hc;have k2:=Nat.eq_of_beq_eq_true k2;have k3:=Nat.le_of_ble_eq_true k3;have e1:=Nat.eq_of_beq_eq_true e1;have e2:=Nat.eq_of_beq_eq_true e2;have e3:=Nat.eq_of_beq_eq_true e3;obtain ⟨hm,hs⟩:=zs9 hH (zaa hT hy) hsrc k1;have hnil:¬ (EK.seq ty c true).Nil:=fun e=>by cases e.1
 have hdl:d.len=m*z:=by rw [d.len_cz,hm,← e3]
 have hkm:min m len≤d.cnt:=by omega
 -- the source's cells
 have hsrc2:∃ xs,ECL γ (d.take (min m len)).enc xs∧(Builtin.firstCells inf.size (min m len) (opEval tmps y)).run P w = .ok xs.toArray w∧(∃ sa cp,opEval tmps y = .slice sa m cp):=by
  by_cases h0:0<m
  ·obtain ⟨a,ca,ns,hv,g2,g3,g4⟩:=hs.1 (by rw [hdl];exact Nat.mul_pos h0 (by omega));refine ⟨ns.take (min m len*z),by rw [SyC.take_enc2,← e3];exact g2.take _,?_,⟨_,_,by rw [hv,hm]⟩⟩;rw [hv];refine run_firstCells_some (P:=P) w inf.size (min m len) a d.cnt ca _ ?_ fun j u hj=>?_
   ·have:min m len*z≤m*z:=Nat.mul_le_mul_right _ (by omega);rw [List.length_take,g3,hdl,hsz,← e1];omega
   ·rw [List.getElem?_take] at hj;split at hj
    ·exact g4 j u hj
    ·cases hj
  ·have h0:m=0:=by omega
   have hk0:min m len=0:=by omega
   refine ⟨[],?_,?_,?_⟩
   ·rw [hk0,SyC.take_enc2,Nat.zero_mul];exact ECL.nil _
   ·rw [hk0];rcases hs.2 (by omega) with hv|⟨a,cp,hv⟩
    ·rw [hv];rfl
    ·rw [hv];exact run_firstCells_some (P:=P) w inf.size 0 a 0 cp [] (by simp) (by simp)
   ·rcases hs.2 (by omega) with hv|⟨a,cp,hv⟩
    ·exact ⟨_,_,by rw [hv,h0]⟩
    ·exact ⟨_,_,by rw [hv,h0]⟩
 obtain ⟨xs,hxs,hfc,sa,cp2,hyv⟩:=hsrc2
 -- the block as plain cells
 have hcs:=hH.recast hib hg hnil (k:=.cells ty c.enc false) (fun b m=>zfg);have hgc:(H.put i (some (EK.cells ty c.enc false))).get i=some (.cells ty c.enc false):=by rw [Tr.get_put hib,if_pos rfl]
 obtain ⟨b1,m1,q1,hγ1,hx1,_⟩:=ec_sl (zaa hT hx);have henc:=zqf hall (by omega) hkm;have hoff:off/z*c.cz=off:=by rw [← e2,k2]
 rw [hoff] at henc;have hlen1:((d.take (min m len)).enc).length=min m len*z:=by rw [SyC.enc_len,SyC.len_cz,SyC.take_cnt2,SyC.take_cz2,← e3,Nat.min_eq_left hkm]
 have hput:exPutL i off (d.take (min m len)).enc (H.put i (some (.cells ty c.enc false)))=some ((H.put i (some (.cells ty c.enc false))).put i (some (.cells ty (Sx.putAt c.enc off (d.take (min m len)).enc) false))):=by
  unfold exPutL cellsAt;rw [hgc];show bc _ _ _=_;rw [bc_eq,if_pos,bc_eq,if_pos,bc_eq,if_pos hib]
  ·rw [SyC.enc_one]
  ·refine Nat.ble_eq_true_of_le ?_;rw [zac,zac,hlen1,SyC.enc_len,SyC.len_cz,← e2];have:(off/z+min m len)*z≤c.cnt*z:=Nat.mul_le_mul_right _ k3;rw [Nat.add_mul,k2] at this;exact this
 obtain ⟨g1,g2⟩:=zjd (P:=P) hcs hxs hput hγ1;have g3:HR γ w0 (H.put i (some (.seq ty c' true))) n (w.setCells b1.k (b1.s+off) xs):=by
  have hg3:((H.put i (some (EK.cells ty c.enc false))).put i (some (.cells ty (Sx.putAt c.enc off (d.take (min m len)).enc) false))).get i=some (.cells ty (Sx.putAt c.enc off (d.take (min m len)).enc) false):=by rw [Tr.get_put hib,if_pos rfl]
  have:=g1.recast hib (k:=.seq ty c' true) hg3 id fun b m=>zf8 henc.symm;refine this.congr fun j k hj=>?_;rw [Tr.get_put hib] at hj ⊢;split at hj
  ·rename_i e;rw [if_pos e];exact hj
  ·rename_i e;rw [if_neg e,Tr.get_put hib,if_neg e,Tr.get_put hib,if_neg e];exact hj
 have ha2:args = #[x,y]:=by apply Array.ext';simpa using hargs
 have ha3:ats = #[t,u]:=by apply Array.ext';simpa using hats
 subst ha2;subst ha3;refine ⟨γ,_,GLe.refl γ,g3,.int .i64 (min m len:Nat),?_,.v _⟩;have hcp:(Builtin.copy_ #[t,u] o.type #[opEval tmps x,opEval tmps y]).run P w = .ok (.int .i64 (min m len:Nat)) (w.setCells b1.k (b1.s+off) xs):=by
  rw [hyv] at hfc;rw [hx1,hyv];unfold Builtin.copy_;simp only [Sem.run_bind,run_underlying hu,Result.andThen_ok,Builtin.lenOf,Sem.run_pure,sizeOf,typeInfo,List.getElem?_toArray,List.getElem?_cons_zero,List.getElem?_cons_succ];have hmin:Nat.min m len=min m len:=rfl;simp [hi,hmin,hfc,g2,goInt]
 simp [execOp,ho,resolve,invoke,builtin,hcp]
end
section
open Go.RowKit
variable {P:Program} {γ γ':G} {w0:Bs} {w:World} {H H':Tr EK} {n n':Nat} {T:Tr EV} {tmps:Array Value} {o:Oper}
def bsArr0 (P:Program) (T:Tr EV) (t:TypeId) (len:Nat) (parts:Array (Nat×Operand)):Option (Bool×TypeId×Nat×SyC):=match elemOf P t with
 | some e=>match Sx.zeroL P e with
  | some _=>match Sx.sizeB P e with
   | some m=>match parts.toList with
    | [p]=>match exVal T p.2 with
     | some (.arr d)=>match d.vals with
      | some _=>bc (Nat.beq len 1) (bc (Nat.beq p.1 0) (bc (Nat.blt 0 m) (bc (Nat.ble m 65536) (some (Nat.beq d.cnt m,e,m,d)) none) none) none) none
      | none=>none
     | _=>none
    | _=>none
   | none=>none
  | none=>none
 | none=>none
theorem zks {t:TypeId} {len:Nat} {parts:Array (Nat×Operand)} {c:Bool} {e:TypeId} {m:Nat} {d:SyC} (h:bsArr0 P T t len parts=some (c,e,m,d)) (hc:c=true):len=1∧bsCore P T t len parts=some (e,m,d.enc)∧d.enc.length=m∧d.cz=1:=by
 unfold bsArr0 at h;split at h
 case h_2=>cases h
 rename_i e' he;split at h
 case h_2=>cases h
 rename_i zs hzs;split at h
 case h_2=>cases h
 rename_i m' hm;split at h
 case h_2=>cases h
 rename_i p hp;split at h
 case h_2=>cases h
 rename_i d' hd;split at h
 case h_2=>cases h
 rename_i vs hvs;rw [bc_eq] at h;split at h
 case isFalse=>cases h
 rename_i h1;rw [bc_eq] at h;split at h
 case isFalse=>cases h
 rename_i h2;rw [bc_eq] at h;split at h
 case isFalse=>cases h
 rename_i h3;rw [bc_eq] at h;split at h
 case isFalse=>cases h
 rename_i h4;simp only [Option.some.injEq,Prod.mk.injEq] at h;obtain ⟨rfl,rfl,rfl,rfl⟩:=h;have h1:=Nat.eq_of_beq_eq_true h1;have h2:=Nat.eq_of_beq_eq_true h2;subst h1;have hcm:=Nat.eq_of_beq_eq_true hc;obtain ⟨_,hz⟩:=SyC.vals_len hvs;have hl:d'.enc.length=m':=by rw [d'.enc_len,d'.len_cz,hz];omega
 refine ⟨rfl,?_,hl,hz⟩;obtain ⟨p1,p2⟩:=p;have h2:p1=0:=h2;subst h2;have hps:exParts T parts.toList=some [(0,.arr d')]:=by
  rw [hp];show (match exVal T p2 with
   | some a=>match exParts T [] with
    | some r=>some ((0,a)::r)
    | none=>none
   | none=>none)=_
  rw [hd];rfl
 unfold bsCore;rw [he];simp only [hzs,hm,hps];have e1:Nat.mul 1 m'=m':=Nat.one_mul m';rw [e1];have hzl:(zeroCellsE zs m').length=m':=by unfold zeroCellsE;simp
 have hf:fillE (fun i=>some (Nat.mul i m',m')) [(0,.arr d')] (zeroCellsE zs m')=some d'.enc:=by
  show bc (Nat.beq (llen d'.enc) m') (bc (Nat.ble (Nat.add (Nat.mul 0 m') m') (llen (zeroCellsE zs m'))) (some (Sx.putAt (zeroCellsE zs m') (Nat.mul 0 m') d'.enc)) none) none=_;rw [zac,zac,hl,hzl,show Nat.mul 0 m'=0 from Nat.zero_mul m',show Nat.add 0 m'=m' from Nat.zero_add m']
  rw [bc_eq,if_pos (Nat.beq_refl m'),bc_eq,if_pos (Nat.ble_eq_true_of_le (Nat.le_refl m')),zd3 (by omega),List.take_zero,List.nil_append,List.drop_of_length_le (by omega),List.append_nil]
 rw [hf];rw [bc_eq,if_pos h3,bc_eq,if_pos h4];rfl
def bsAgg (P:Program) (T:Tr EV) (t:TypeId) (len:Nat) (parts:Array (Nat×Operand)):Option (Bool×TypeId×Nat×SyC):=match elemOf P t with
 | some e=>match P.underlying e with
  | some (.array _ _)=>bc (Nat.beq len 1) (match bsCore P T t len parts with
   | some (e',m,cs)=>match intsE .i64 cs with
    | some xs=>some (Nat.beq (llen cs) m,e',m,.ints .i64 xs)
    | none=>none
   | none=>none) none
  | _=>none
 | none=>none
theorem znf {t:TypeId} {len:Nat} {parts:Array (Nat×Operand)} {c:Bool} {e:TypeId} {m:Nat} {d:SyC} (h:bsAgg P T t len parts=some (c,e,m,d)) (hc:c=true):len=1∧bsCore P T t len parts=some (e,m,d.enc)∧d.enc.length=m∧d.cz=1:=by
 unfold bsAgg at h;split at h
 case h_2=>cases h
 split at h
 case h_2=>cases h
 rw [bc_eq] at h;split at h
 case isFalse=>cases h
 rename_i h1;split at h
 case h_2=>cases h
 rename_i e' m' cs hb;split at h
 case h_2=>cases h
 rename_i xs hx;simp only [Option.some.injEq,Prod.mk.injEq] at h;obtain ⟨rfl,rfl,rfl,rfl⟩:=h;have hcm:=Nat.eq_of_beq_eq_true hc;rw [zac] at hcm;have hx:(SyC.ints .i64 xs).enc=cs:=(zls hx).symm;rw [hx];exact ⟨Nat.eq_of_beq_eq_true h1,hb,hcm,rfl⟩
def bsArr (P:Program) (T:Tr EV) (t:TypeId) (len:Nat) (parts:Array (Nat×Operand)):Option (Bool×TypeId×Nat×SyC):=match bsArr0 P T t len parts with
 | some r=>some r
 | none=>bsAgg P T t len parts
theorem zgx {t:TypeId} {len:Nat} {parts:Array (Nat×Operand)} {c:Bool} {e:TypeId} {m:Nat} {d:SyC} (h:bsArr P T t len parts=some (c,e,m,d)) (hc:c=true):len=1∧bsCore P T t len parts=some (e,m,d.enc)∧d.enc.length=m∧d.cz=1:=by
 unfold bsArr at h;split at h
 ·rename_i r hr;injection h with h;subst h
  exact zks hr hc
 ·exact znf h hc
def zBuildF (P:Program) (T:Tr EV) (t:TypeId) (len:Nat) (parts:Array (Nat×Operand)) (H:Tr EK) (n:Nat):Option YR:=match bsArr P T t len parts with
 | some (c,e,m,d)=>bc (Nat.ble n 65535) (some ⟨c,⟨some (.slO n m 1 true),H.put n (some (.seq e d true)),Nat.succ n⟩⟩) none
 | none=>none
theorem zmn (hT:TOk γ T tmps) (hH:HR γ w0 H n w) {t:TypeId} {len:Nat} {parts:Array (Nat×Operand)} {r:YR} (ho:o.op = .buildSlice t len parts) (h:zBuildF P T t len parts H n=some r) (hc:r.c=true):Gives P γ w0 w (execOp (opEval tmps) o) r.er.val r.er.H r.er.n:=by
 unfold zBuildF at h;split at h
 case h_2=>cases h
 rename_i c e m d hb;rw [bc_eq] at h;split at h
 case isFalse=>cases h
 rename_i hnb;injection h with h;subst h
 obtain ⟨rfl,hcore,hl,_⟩:=zgx hb hc;obtain ⟨ca,hr,hcs,hs,_⟩:=zck (γ:=γ) hT ho hcore w;obtain ⟨γ2,w2,k1,k2,x,k3,k4⟩:=zbh (P:=P) (a:=.slO n m 1 true) hH hnb hcs hr fun γ' e=>.slO n m 1 true _ ⟨(fun e=>by cases e),fun _=>⟨⟨w.heap.size,0⟩,ca.size,1,e,rfl,Nat.le_refl _,by unfold maxLen;omega,.inl (by rw [hs])⟩⟩;exact ⟨γ2,w2,k1,k2.newSeq hnb fun γ vs hv=>hv,x,k3,k4⟩
def apF (ei:EI) (i z len:Nat) (nn:Bool) (d:SyC) (z2 len2:Nat) (H:Tr EK) (n:Nat):Option YR:=match H.get i with
 | some (.seq ty c nn')=>match c.appS d with
  | some c'=>bc (Nat.beq z ei.z) (bc (Nat.beq z2 z) (bc (Nat.beq c.cz 1) (bc (Nat.beq ty ei.e) (bc (Nat.ble i 65535) (bc (Nat.ble n 65535)
    (some ⟨bc (Nat.beq (Nat.mul len z) c.cnt) (bc (Nat.beq (Nat.mul len2 z) d.cnt) (bc (Nat.blt 0 len2) (bc (Nat.ble (len+len2) 65536) (bc nn' true (bc nn false true)) false) false) false) false,⟨some (.slO n z (len+len2) true),(H.put i none).put n (some (.seq ty c' true)),Nat.succ n⟩⟩) none) none) none) none) none) none
  | none=>none
 | _=>none
theorem zr7 (hH:HR γ w0 H n w) {j z len:Nat} {nn nn':Bool} {ty:TypeId} {d:SyC} {vx:Value} (hg:H.get j=some (.seq ty d nn')) (hx:EC γ (.slO j z len nn) vx) (hl:0<len) (hd:0<d.len):∃ a ca ns,vx = .slice (some a) len ca∧ECL γ d.enc ns∧ns.length=d.len∧∀ q u,ns[q]? = some u→w.cell? (a.add q)=some u:=by
 cases hx with
 | slO _ _ _ _ _ hs=>
  cases nn with
  | false=>have:=(hs.1 rfl).2;omega
  | true=>
   obtain ⟨b,m,cp,e1,rfl,e3,e4,e5⟩:=hs.2 rfl;obtain ⟨b2,m2,hγ2,_,ca,hb,hsz,hle,hcl⟩:=hH.hp j _ hg (zam hd);rw [e1] at hγ2;simp only [Option.some.injEq,Prod.mk.injEq] at hγ2;obtain ⟨rfl,rfl⟩:=hγ2;refine ⟨_,cp,_,rfl,hcl,by rw [← hcl.1,d.enc_len],fun q u hq=>?_⟩;rw [Pl.at_add,Nat.zero_add,(zae hb).1,← Array.getElem?_toList];rw [List.getElem?_take] at hq;split at hq
   ·rw [List.getElem?_drop] at hq;exact hq
   ·cases hq
theorem SyC.appS_cz {c d e:SyC} (h:c.appS d=some e):e.cz=c.cz∧d.cz=c.cz:=by
 cases c with
 | ints k l=>cases d with
  | ints q m=>
   have h':bc (decide (k=q)) (some (SyC.ints k (l++m))) none=some e:=h;rw [bc_eq] at h';split at h'
   case isFalse=>cases h'
   injection h' with h';subst h'
   exact ⟨rfl,rfl⟩
  | _=>cases h
 | bools l=>cases d with
  | bools m=>injection (show some (SyC.bools (l++m))=some e from h) with h';subst h';exact ⟨rfl,rfl⟩
  | _=>cases h
 | strs l=>cases d with
  | strs m=>injection (show some (SyC.strs (l++m))=some e from h) with h';subst h';exact ⟨rfl,rfl⟩
  | _=>cases h
 | recs sh l=>cases d with
  | recs sh' m=>
   have h':bc (shsEq sh sh') (some (SyC.recs sh (l++m))) none=some e:=h;rw [bc_eq] at h';split at h'
   case isFalse=>cases h'
   rename_i hs;injection h' with h';subst h'
   exact ⟨rfl,by rw [shsEq_ok hs];rfl⟩
  | _=>cases h
theorem zxb (hT:TOk γ T tmps) (hH:HR γ w0 H n w) {t ty:TypeId} {ei:EI} (hei:elemInfo P t=some ei) {i z len j z2 len2:Nat} {nn nn2 nn3:Bool} {ty2:TypeId} {vs vx:Value} {d:SyC} {r:YR} (hs:EC γ (.slO i z len nn) vs) (hgj:H.get j=some (.seq ty2 d nn3)) (hx:EC γ (.slO j z2 len2 nn2) vx) (h:apF ei i z len nn d z2 len2 H n=some r) (hc:r.c=true) :
  ∃ γ' w' v',GLe γ γ'∧HR γ' w0 r.er.H r.er.n w'∧(Builtin.append_ #[t,t] ty #[vs,vx]).run P w = .ok v' w'∧∃ a,r.er.val=some a∧EC γ' a v':=by
 unfold apF at h;split at h
 case h_2=>cases h
 rename_i ty' c nn' hg;split at h
 case h_2=>cases h
 rename_i c' happ;rw [bc_eq] at h;split at h
 case isFalse=>cases h
 rename_i h1;rw [bc_eq] at h;split at h
 case isFalse=>cases h
 rename_i h2;rw [bc_eq] at h;split at h
 case isFalse=>cases h
 rename_i h3;rw [bc_eq] at h;split at h
 case isFalse=>cases h
 rename_i h4;rw [bc_eq] at h;split at h
 case isFalse=>cases h
 rename_i h5;rw [bc_eq] at h;split at h
 case isFalse=>cases h
 rename_i h6;injection h with h;subst h
 obtain ⟨k1,hc⟩:=bcC hc;obtain ⟨k2,hc⟩:=bcC hc;obtain ⟨k3,hc⟩:=bcC hc;obtain ⟨k4,hc5⟩:=bcC hc;have h1:=Nat.eq_of_beq_eq_true h1;have h2:=Nat.eq_of_beq_eq_true h2;subst h2;have h3:=Nat.eq_of_beq_eq_true h3;have h4:=Nat.eq_of_beq_eq_true h4;subst h4;have k1:len*z2=c.cnt:=Nat.eq_of_beq_eq_true k1;have k2:len2*z2=d.cnt:=Nat.eq_of_beq_eq_true k2;have k3:=zad k3;have k4:=Nat.le_of_ble_eq_true k4;obtain ⟨_,hdz⟩:=SyC.appS_cz happ;have hzp:0<z2:=by
  obtain ⟨_,_,_,_,_,hsz,_,hpos,_⟩:=zaj hei;omega
 have hdl:d.len=len2*z2:=by rw [d.len_cz,hdz,h3,← k2,Nat.mul_one]
 have hdp:0<d.len:=by rw [hdl];exact Nat.mul_pos k3 hzp
 obtain ⟨a,ca,ns,rfl,g1,g2,g3⟩:=zr7 hH hgj hx k3 hdp;have hnn:nn'=true∨nn=false:=by
  cases nn' with
  | true=>exact .inl rfl
  | false=>cases nn with
   | false=>exact .inr rfl
   | true=>exact absurd hc5 (by decide)
 obtain ⟨γ',w',v',q1,q2,q3,q4⟩:=zdv (ty:=ty) (ca:=ca) hT hH hei hs hg h1 k3 h5 h6 d.enc_one (by rw [c.len_cz,h3,k1,Nat.mul_one]) k4 hnn (SyC.appS_enc happ) g1 (by rw [g2,hdl,h1]) g3;exact ⟨γ',w',v',q1,q2,q3,_,rfl,q4⟩
def flatX (x:EV) (H:Tr EK):Option SyC:=match x with
 | .slO j z2 _ _=>match H.get j with
  | some (.seq _ d _)=>bc (Nat.beq d.cz 1) (bc (Nat.beq z2 1) none (some d)) none
  | _=>none
 | _=>none
def cutU (z cz:Nat):Option Nat:=bc (Nat.beq z cz) (some 1) (bc (Nat.beq cz 1) (some z) none)
theorem zvx {z cz u:Nat} (h:cutU z cz=some u):u*cz=z:=by
 unfold cutU at h;rw [bc_eq] at h;split at h
 ·rename_i e;injection h with h;subst h
  rw [Nat.one_mul];exact (Nat.eq_of_beq_eq_true e).symm
 ·rw [bc_eq] at h;split at h
  case isFalse=>cases h
  rename_i e;injection h with h;subst h
  rw [Nat.eq_of_beq_eq_true e,Nat.mul_one]
def zCutF (P:Program) (T:Tr EV) (t:TypeId) (x:Operand) (lo hi mx:Option Operand) (H:Tr EK) (n:Nat):Option YR:=match mx with
 | some _=>none
 | none=>match exVal T x with
  | some (.slO i z len nn)=>match H.get i with
   | some (.seq ty c nn')=>match Sx.slZ P t with
    | some z'=>match cutU z c.cz with
     | some u=>bc (Nat.beq z z') (bc (Nat.ble i 65535) (match lo with
      | none=>match hi with
       | none=>none
       | some y=>bc (Nat.beq z c.cz) none (match intOf (exVal T y) with
        | some k=>some ⟨bc (decide (0≤k)) (bc (Nat.ble k.toNat len) (Nat.beq (Nat.mul len u) c.cnt) false) false,⟨some (.slO i z k.toNat nn),H.put i (some (.seq ty (c.take (k.toNat*u)) nn')),n⟩⟩
        | none=>none)
      | some y=>match hi with
       | some _=>none
       | none=>match intOf (exVal T y) with
        | some k=>bc (Nat.ble n 65535) (some ⟨bc nn (bc nn' (bc (decide (0≤k)) (bc (Nat.ble k.toNat len) (Nat.beq (Nat.mul len u) c.cnt) false) false) false) false,⟨some (.slO n z (len-k.toNat) true),(H.put i none).put n (some (.seq ty (c.drop (k.toNat*u)) true)),Nat.succ n⟩⟩) none
        | none=>none) none) none
     | none=>none
    | none=>none
   | _=>none
  | _=>none
theorem zq6 (hT:TOk γ T tmps) (hH:HR γ w0 H n w) {t:TypeId} {x:Operand} {lo hi mx:Option Operand} {r:YR} (ho:o.op = .slice t x lo hi mx) (h:zCutF P T t x lo hi mx H n=some r) (hc:r.c=true):Gives P γ w0 w (execOp (opEval tmps) o) r.er.val r.er.H r.er.n:=by
 unfold zCutF at h;split at h
 ·cases h
 have hex:∀ s:Value,opEval tmps x=s→execOp (opEval tmps) o=(do pure (Next.value (← Instr.sliceAt t s (lo.map (opEval tmps)) (hi.map (opEval tmps)) none)):Sem Next):=fun s hs=>by
  unfold execOp;rw [ho];simp only [hs];rfl
 split at h
 case h_2=>cases h
 rename_i i z len nn hx;split at h
 case h_2=>cases h
 rename_i ty c nn' hg;split at h
 case h_2=>cases h
 rename_i z' hz;split at h
 case h_2=>cases h
 rename_i u hu0;have hu1:=zvx hu0;rw [bc_eq] at h;split at h
 case isFalse=>cases h
 rename_i hzz;have hzz:=Nat.eq_of_beq_eq_true hzz;subst hzz;rw [bc_eq] at h;split at h
 case isFalse=>cases h
 rename_i hib;obtain ⟨e,inf,hu,hinf,hsz⟩:=Sx.slZ_spec hz;have hs:=zaa hT hx;generalize hxx:opEval tmps x=xx at hs;split at h
 ·-- from the beginning
  split at h
  ·cases h
  rename_i y;rw [bc_eq] at h;split at h
  case isTrue=>cases h
  split at h
  case h_2=>cases h
  rename_i k hy;injection h with h;subst h
  obtain ⟨h1,hc⟩:=bcC hc;obtain ⟨h2,h3⟩:=bcC hc;have h1:=of_decide_eq_true h1;have h2:=Nat.le_of_ble_eq_true h2;have h3:len*u=c.cnt:=Nat.eq_of_beq_eq_true h3;obtain ⟨q,rfl⟩:=Int.eq_ofNat_of_zero_le h1;rw [Int.toNat_natCast] at h2;show Gives P γ w0 w _ (some (.slO i z (Int.toNat (q:Int)) nn)) (H.put i (some (.seq ty (c.take (Int.toNat (q:Int)*u)) nn'))) n;rw [Int.toNat_natCast];have hH2:HR γ w0 (H.put i (some (.seq ty (c.take (q*u)) nn'))) n w:=hH.recastSeq hib hg ⟨_,SyC.take_enc2 _ _⟩
  cases hs with
  | slO _ _ _ _ _ hs=>
   cases nn with
   | false=>
    obtain ⟨rfl,hl⟩:=hs.1 rfl;subst hl;have hk0:q=0:=by omega
    subst hk0;refine zab (x:=.slice none 0 0) ?_ (.slO i z 0 false _ ⟨fun _=>⟨rfl,rfl⟩,fun e=>by cases e⟩) hH2;rw [hex _ hxx];refine run_v ?_;have hb:=za2 (P:=P) hT (isS:=true) (lo:=none) (hi:=some y) (len:=0) (cap:=0) (l:=0) (h:=0) rfl hy (Nat.le_refl _) (Nat.le_refl _) w;simp [Instr.sliceAt,Instr.slice,run_underlying hu,sizeOf,typeInfo,hinf,hsz];simp at hb;simp [hb]
   | true=>
    obtain ⟨b,m,cp,hγ,rfl,hlc,hcm,hcz⟩:=hs.2 rfl;have hkc:q≤cp:=by omega
    refine zab (x:=.slice (some (b.at 0)) q cp) ?_ (.slO i z q true _ ⟨(fun e=>by cases e),fun _=>⟨b,m,cp,hγ,rfl,hkc,hcm,hcz⟩⟩) hH2;rw [hex _ hxx];refine run_v ?_;have hb:=za2 (P:=P) hT (isS:=true) (lo:=none) (hi:=some y) (len:=len) (cap:=cp) (l:=0) (h:=q) rfl hy (Nat.zero_le _) hkc w;simp at hb;simp [Instr.sliceAt,Instr.slice,run_underlying hu,hb,sizeOf,typeInfo,hinf,hsz,Pl.at_add]
 ·-- up to the end
  rename_i y;split at h
  ·cases h
  split at h
  case h_2=>cases h
  rename_i k hy;rw [bc_eq] at h;split at h
  case isFalse=>cases h
  rename_i hnb;injection h with h;subst h
  obtain ⟨h5,hc⟩:=bcC hc;obtain ⟨h6,hc⟩:=bcC hc;obtain ⟨h1,hc⟩:=bcC hc;obtain ⟨h2,h3⟩:=bcC hc;subst h5;subst h6;have h1:=of_decide_eq_true h1;have h2:=Nat.le_of_ble_eq_true h2;have h3:len*u=c.cnt:=Nat.eq_of_beq_eq_true h3;obtain ⟨q,rfl⟩:=Int.eq_ofNat_of_zero_le h1;rw [Int.toNat_natCast] at h2;show Gives P γ w0 w _ (some (.slO n z (len-Int.toNat (q:Int)) true)) ((H.put i none).put n (some (.seq ty (c.drop (Int.toNat (q:Int)*u)) true))) (Nat.succ n);rw [Int.toNat_natCast]
  cases hs with
  | slO _ _ _ _ _ hs=>
   obtain ⟨b,m,cp,hγ,rfl,hlc,hcm,hcz⟩:=hs.2 rfl;have hnil:¬ (EK.seq ty c true).Nil:=fun e=>by cases e.1
   obtain ⟨b2,m2,g1,g2,ca,g3,g4,g5,g6⟩:=hH.hp i _ hg hnil;rw [hγ] at g1;simp only [Option.some.injEq,Prod.mk.injEq] at g1;obtain ⟨rfl,rfl⟩:=g1;have hb:=za2 (P:=P) hT (isS:=true) (lo:=some y) (hi:=none) (len:=len) (cap:=cp) (l:=q) (h:=len) hy rfl h2 hlc w;have henc:(c.drop (q*u)).enc=c.enc.drop (q*z):=by rw [SyC.drop_enc2,Nat.mul_assoc,hu1]
   have hel:c.enc.length=len*z:=by rw [c.enc_len,c.len_cz,← h3,Nat.mul_assoc,hu1]
   have hrun:(execOp (opEval tmps) o).run P w = .ok (.value (.slice (if cp=q then some (b.at 0) else some (b.at (q*z))) (len-q) (cp-q))) w:=by
    rw [hex _ hxx];refine run_v ?_;simp at hb;simp [Instr.sliceAt,Instr.slice,run_underlying hu,hb,sizeOf,typeInfo,hinf,hsz,Pl.at_add]
   by_cases hcq:cp=q
   ·subst hcq;have hl:len=cp:=by omega
    subst hl;rw [if_pos rfl,Nat.sub_self] at hrun;rw [Nat.sub_self];have h0:(c.drop (len*u)).enc=[]:=by rw [henc];exact List.drop_of_length_le (by omega)
    refine ⟨γ.upd n (b,m),w,G.upd_le (hH.fresh n (Nat.le_refl _)),?_,_,hrun,.slO n z 0 true _ ⟨(fun e=>by cases e),fun _=>⟨b,m,0,G.upd_same,rfl,Nat.le_refl _,Nat.zero_le _,.inr rfl⟩⟩⟩;exact hH.pass hnb hib hg hγ b m _ (.inl rfl) (fun _ _ _=>rfl) (Nat.le_refl _) (hH.lt i _ hγ) rfl rfl rfl ⟨ca,g3,g4,by rw [h0];exact Nat.zero_le _,by rw [h0];exact ECL.nil _⟩ hnil
   ·rw [if_neg hcq] at hrun;have hcz:cp*z=m:=hcz.resolve_right (by omega);have hqm:q*z≤m:=by rw [← hcz];exact Nat.mul_le_mul_right _ (by omega)
    refine ⟨γ.upd n (⟨b.k,b.s+q*z⟩,m-q*z),w,G.upd_le (hH.fresh n (Nat.le_refl _)),?_,_,hrun,.slO n z (len-q) true _ ⟨(fun e=>by cases e),fun _=>⟨⟨b.k,b.s+q*z⟩,m-q*z,cp-q,G.upd_same,rfl,by omega,by omega,.inl (by rw [Nat.sub_mul,hcz])⟩⟩⟩;refine hH.pass hnb hib hg hγ ⟨b.k,b.s+q*z⟩ (m-q*z) _ (.inl rfl) (fun _ _ _=>rfl) (Nat.le_refl _) (hH.lt i _ hγ) rfl rfl rfl ⟨ca,g3,by show ca.size=b.s+q*z+(m-q*z);omega,by rw [henc,List.length_drop];omega,?_⟩ hnil;show ECL _ _ ((ca.toList.drop (b.s+q*z)).take _)
    have h7:=(g6.drop (q*z)).mono (G.upd_le (p:=((⟨b.k,b.s+q*z⟩:Pl),m-q*z)) (hH.fresh n (Nat.le_refl _)));rw [List.drop_take,List.drop_drop] at h7;rw [henc,List.length_drop];exact h7
end
section
open Go.RowKit
variable {P:Program} {γ γ':G} {w0:Bs} {w:World} {H H':Tr EK} {n n':Nat} {T:Tr EV} {tmps:Array Value} {o:Oper}
def apS (ei:EI) (i z len:Nat) (nn:Bool) (d:SyC) (c1:Bool) (H:Tr EK) (n:Nat):Option YR:=match H.get i with
 | some (.seq ty c nn')=>match c.appS d with
  | some c'=>bc (Nat.beq z ei.z) (bc (Nat.beq z c.cz) (bc (Nat.beq z d.cz) (bc (Nat.beq ty ei.e) (bc (Nat.ble i 65535) (bc (Nat.ble n 65535)
    (some ⟨bc c1 (bc (Nat.beq len c.cnt) (bc (Nat.ble (len+d.cnt) 65536) (bc nn' true (bc nn false true)) false) false) false,⟨some (.slO n z c'.cnt (bc nn true (Nat.blt 0 d.cnt))),(H.put i none).put n (some (.seq ty c' (bc nn true (Nat.blt 0 d.cnt)))),Nat.succ n⟩⟩) none) none) none) none) none) none
  | none=>none
 | _=>none
def apN (ei:EI) (i z len:Nat) (nn:Bool) (m:Nat) (news:List EV) (H:Tr EK) (n:Nat):Option YR:=match frzL (frzE 6) news H with
 | some (cf,news',H1)=>match H1.get i with
  | some (.seq ty c nn')=>match c.app m news' with
   | some c'=>bc (Nat.beq z ei.z) (bc (Nat.beq z c.cz) (bc (Nat.beq ty ei.e) (bc (Nat.blt 0 m) (bc (Nat.ble i 65535) (bc (Nat.ble n 65535)
     (some ⟨bc cf (bc (Nat.beq len c.cnt) (bc (Nat.ble (len+m) 65536) (bc nn' true (bc nn false true)) false) false) false,⟨some (.slO n z c'.cnt true),(H1.put i none).put n (some (.seq ty c' true)),Nat.succ n⟩⟩) none) none) none) none) none) none
   | none=>none
  | _=>none
 | none=>none
def oneCell (d:SyC):Bool:=match d with
 | .recs _ _=>false
 | _=>true
theorem SyC.sub_enc {d:SyC} (h:oneCell d=true) (l m:Nat):(d.sub l m).enc=(d.enc.take m).drop l∧(d.sub l m).len=(d.sub l m).cnt∧d.len=d.cnt:=by
 cases d with
 | recs sh l=>cases h
 | ints k q=>exact ⟨by show ((q.take m).drop l).map _=((q.map _).take m).drop l;rw [List.map_drop,List.map_take],rfl,rfl⟩
 | bools q=>exact ⟨by show ((q.take m).drop l).map _=((q.map _).take m).drop l;rw [List.map_drop,List.map_take],rfl,rfl⟩
 | strs q=>exact ⟨by show ((q.take m).drop l).map _=((q.map _).take m).drop l;rw [List.map_drop,List.map_take],rfl,rfl⟩
theorem zuu (hH:HR γ w0 H n w) {j off len:Nat} {nn':Bool} {ty:TypeId} {d:SyC} {vx:Value} (hg:H.get j=some (.seq ty d nn')) (hx:EC γ (.slX j 1 off len) vx) (h1:oneCell d=true) (hl:off+len≤d.cnt):SrcOk γ w (d.sub off (off+len)) vx:=by
 obtain ⟨s1,s2,s3⟩:=SyC.sub_enc (d:=d) h1 off (off+len);have hcnt:(d.sub off (off+len)).cnt=len:=by
  have:(d.sub off (off+len)).enc.length=len:=by
   rw [s1,List.length_drop,List.length_take,d.enc_len,s3];omega
  rw [(d.sub off (off+len)).enc_len,s2] at this;exact this
 cases hx with
 | slX _ _ _ _ b m c off' g1 g2 g3 g4 g5=>
  refine ⟨fun hp=>?_,fun h0=>.inr ⟨_,c,by rw [← hcnt,h0]⟩⟩;rw [s2,hcnt] at hp;obtain rfl:=g5 hp;obtain ⟨b2,m2,hγ2,_,ca,hb,hsz,hle,hcl⟩:=hH.hp j _ hg (zam (by rw [s3];omega));rw [g1] at hγ2;simp only [Option.some.injEq,Prod.mk.injEq] at hγ2;obtain ⟨rfl,rfl⟩:=hγ2;refine ⟨_,c,_,by rw [hcnt],by rw [s1];exact (hcl.take (off'+len)).drop off',?_,fun q u hq=>?_⟩
  ·have h9:=hcl.1;rw [d.enc_len,s3] at h9;rw [List.length_drop,List.length_take,d.enc_len,s3,← h9,s2,hcnt];omega
  ·rw [Pl.at_add,(zae hb).1,← Array.getElem?_toList];rw [List.getElem?_drop,List.getElem?_take] at hq;split at hq
   case isFalse=>cases hq
   rw [List.getElem?_take] at hq;split at hq
   case isFalse=>cases hq
   rw [List.getElem?_drop] at hq;exact hq
def apX (ei:EI) (i z len:Nat) (nn:Bool) (x:EV) (H:Tr EK) (n:Nat):Option YR:=match x with
 | .lst d=>apS ei i z len nn d true H n
 | .slX j z2 off len2=>match H.get j with
  | some (.seq _ d _)=>bc (Nat.beq z2 1) (bc (oneCell d) (apS ei i z len nn (d.sub off (Nat.add off len2)) (Nat.ble (Nat.add off len2) d.cnt) H n) none) none
  | _=>none
 | .slO j z2 len2 _=>match H.get j with
  | some (.seq _ d _)=>bc (Nat.beq z2 d.cz) (apS ei i z len nn d (Nat.beq len2 d.cnt) H n) (apF ei i z len nn d z2 len2 H n)
  | _=>none
 | x=>match newsOf H ei.z x with
  | some (m,news)=>apN ei i z len nn m news H n
  | none=>none
def apR (ei:EI) (i v j f y z len:Nat) (x:EV) (H:Tr EK) (n:Nat):Option YR:=match H.get i with
 | some (.nest me ty sh rows v' ho nn)=>match lget sh f with
  | some (.list sh')=>match newsOf H ei.z x with
   | some (m,news)=>match (mkC sh' ((rows.getD j []).getD f (.i 0)).list).app m news with
    | some c'=>bc (Nat.beq y (llen sh)) (bc (Nat.beq z ei.z) (bc (Nat.beq z (llen sh')) (bc (Nat.beq (ty.2.getD f 0) ei.e) (bc (Nat.blt 0 m) (bc (Nat.ble i 65535) (bc (Nat.ble (Nat.succ n) 65535)
      (some ⟨bc (Nat.beq v v') (bc (Nat.blt j rows.length) (bc (notIn j f ho) (bc (Nat.beq len ((rows.getD j []).getD f (.i 0)).list.length) (Nat.ble (len+m) 65536) false) false) false) false,
       ⟨some (.slO (Nat.succ n) z c'.cnt true),((H.put i (some (.nest me ty sh rows v' ((j,f)::ho) nn))).put n none).put (Nat.succ n) (some (.seq ei.e c' true)),Nat.succ (Nat.succ n)⟩⟩) none) none) none) none) none) none) none
    | none=>none
   | none=>none
  | _=>none
 | _=>none
def apRS (ei:EI) (i v j f y z len:Nat) (d:SyC) (cx:Bool) (H:Tr EK) (n:Nat):Option YR:=match H.get i with
 | some (.nest me ty sh rows v' ho nn)=>match lget sh f with
  | some (.list sh')=>match (mkC sh' ((rows.getD j []).getD f (.i 0)).list).appS d with
    | some c'=>bc (Nat.beq y (llen sh)) (bc (Nat.beq z ei.z) (bc (Nat.beq z (llen sh')) (bc (Nat.beq (ty.2.getD f 0) ei.e) (bc (Nat.beq z d.cz) (bc (Nat.ble i 65535) (bc (Nat.ble (Nat.succ n) 65535)
      (some ⟨bc (Nat.beq v v') (bc (Nat.blt j rows.length) (bc (notIn j f ho) (bc (Nat.beq len ((rows.getD j []).getD f (.i 0)).list.length) (bc cx (bc (Nat.blt 0 d.cnt) (Nat.ble (len+d.cnt) 65536) false) false) false) false) false) false,
       ⟨some (.slO (Nat.succ n) z c'.cnt true),((H.put i (some (.nest me ty sh rows v' ((j,f)::ho) nn))).put n none).put (Nat.succ n) (some (.seq ei.e c' true)),Nat.succ (Nat.succ n)⟩⟩) none) none) none) none) none) none) none
    | none=>none
  | _=>none
 | _=>none
def apRX (ei:EI) (i v j f y z len:Nat) (x:EV) (H:Tr EK) (n:Nat):Option YR:=match x with
 | .slO j2 z2 len2 _=>match H.get j2 with
  | some (.seq _ d _)=>bc (Nat.beq z2 d.cz) (apRS ei i v j f y z len d (Nat.beq len2 d.cnt) H n) none
  | _=>none
 | x=>apR ei i v j f y z len x H n
def zApp (P:Program) (t:TypeId) (s x:EV) (H:Tr EK) (n:Nat):Option YR:=match elemInfo P t with
 | some ei=>match s with
  | .slO i z len nn=>apX ei i z len nn x H n
  | .row i v j f y z len=>apRX ei i v j f y z len x H n
  | .v (.slice none 0 0)=>match flatX x H with
   | some d=>bc (Nat.ble n 65535) (apX ei n ei.z 0 false x (H.put n (some (.seq ei.e (d.take 0) false))) (Nat.succ n)) none
   | none=>match shOf P 6 ei.e with
    | some sh=>bc (Nat.ble n 65535) (apX ei n ei.z 0 false x (H.put n (some (.seq ei.e (mkC sh []) false))) (Nat.succ n)) none
    | none=>none
  | _=>none
 | none=>none
theorem SyC.appS_cnt {c d e:SyC} (h:c.appS d=some e):e.cnt=c.cnt+d.cnt:=by
 cases c with
 | ints k l=>cases d with
  | ints q m=>
   have h':bc (decide (k=q)) (some (SyC.ints k (l++m))) none=some e:=h;rw [bc_eq] at h';split at h'
   case isFalse=>cases h'
   injection h' with h';subst h'
   exact List.length_append
  | _=>cases h
 | bools l=>cases d with
  | bools m=>injection (show some (SyC.bools (l++m))=some e from h) with h';subst h';exact List.length_append
  | _=>cases h
 | strs l=>cases d with
  | strs m=>injection (show some (SyC.strs (l++m))=some e from h) with h';subst h';exact List.length_append
  | _=>cases h
 | recs sh l=>cases d with
  | recs sh' m=>
   have h':bc (shsEq sh sh') (some (SyC.recs sh (l++m))) none=some e:=h;rw [bc_eq] at h';split at h'
   case isFalse=>cases h'
   injection h' with h';subst h'
   exact List.length_append
  | _=>cases h
theorem SyC.app_cnt {c c':SyC} {m:Nat} {ax:List EV} (h:c.app m ax=some c'):c'.cnt=c.cnt+m:=by
 unfold SyC.app at h;split at h
 case h_2=>cases h
 rename_i rs hrs;have h1:=(zd1 hrs).1;split at h <;> (injection h with h;subst h)
 ·show (_++rs.map _).length=_;rw [List.length_append,List.length_map,h1];rfl
 ·show (_++rs.map _).length=_;rw [List.length_append,List.length_map,h1];rfl
 ·show (_++rs.map _).length=_;rw [List.length_append,List.length_map,h1];rfl
 ·show (_++rs).length=_;rw [List.length_append,h1];rfl
theorem zlm {nn nn':Bool} (h:bc nn' true (bc nn false true)=true):nn'=true∨nn=false:=by
 cases nn with
 | false=>exact .inr rfl
 | true=>
  cases nn' with
  | true=>exact .inl rfl
  | false=>cases h
theorem bcT {a b:Bool} (h:bc a b false=true):a=true∧b=true:=by
 rw [bc_eq] at h;split at h
 ·exact ⟨by assumption,h⟩
 ·cases h
theorem zqn (hT:TOk γ T tmps) (hH:HR γ w0 H n w) {t ty:TypeId} {ei:EI} (hei:elemInfo P t=some ei) {i z len:Nat} {nn:Bool} {vs vx:Value} {d:SyC} {c1:Bool} {r:YR} (hs:EC γ (.slO i z len nn) vs) (hx:c1=true→SrcOk γ w d vx) (h:apS ei i z len nn d c1 H n=some r) (hc:r.c=true) :
  ∃ γ' w' v',GLe γ γ'∧HR γ' w0 r.er.H r.er.n w'∧(Builtin.append_ #[t,t] ty #[vs,vx]).run P w = .ok v' w'∧∃ a,r.er.val=some a∧EC γ' a v':=by
 unfold apS at h;split at h
 case h_2=>cases h
 rename_i ty' c nn' hg;split at h
 case h_2=>cases h
 rename_i c' happ;rw [bc_eq] at h;split at h
 case isFalse=>cases h
 rename_i h1;rw [bc_eq] at h;split at h
 case isFalse=>cases h
 rename_i h2;rw [bc_eq] at h;split at h
 case isFalse=>cases h
 rename_i h3;rw [bc_eq] at h;split at h
 case isFalse=>cases h
 rename_i h4;rw [bc_eq] at h;split at h
 case isFalse=>cases h
 rename_i h5;rw [bc_eq] at h;split at h
 case isFalse=>cases h
 rename_i h6;injection h with h;subst h
 obtain ⟨k1,hc1⟩:=bcT hc;obtain ⟨k2,hc2⟩:=bcT hc1;obtain ⟨k3,hc3⟩:=bcT hc2;have h4:=Nat.eq_of_beq_eq_true h4;subst h4;obtain ⟨γ',w',v',q1,q2,q3,q4⟩:=zkw (ty:=ty) hT hH hei hs hg (Nat.eq_of_beq_eq_true h1) (Nat.eq_of_beq_eq_true h2) (Nat.eq_of_beq_eq_true h3) h5 h6 (Nat.eq_of_beq_eq_true k2) (Nat.le_of_ble_eq_true k3) (zlm hc3) (SyC.appS_enc happ) (hx k1);exact ⟨γ',w',v',q1,q2,q3,_,rfl,by rw [SyC.appS_cnt happ,← Nat.eq_of_beq_eq_true k2];exact q4⟩
theorem zxa (hT:TOk γ T tmps) (hH:HR γ w0 H n w) {t ty:TypeId} {ei:EI} (hei:elemInfo P t=some ei) {i z len:Nat} {nn:Bool} {vs:Value} {m:Nat} {news:List EV} {r:YR} (hs:EC γ (.slO i z len nn) vs) {a:Addr} {ca:Nat} {ns:List Value} (hcn:ECL γ news ns) (hnl:ns.length=m*ei.z) (hnc:∀ j u,ns[j]? = some u→w.cell? (a.add j)=some u) (h:apN ei i z len nn m news H n=some r) (hc:r.c=true) :
  ∃ γ' w' v',GLe γ γ'∧HR γ' w0 r.er.H r.er.n w'∧(Builtin.append_ #[t,t] ty #[vs,.slice (some a) m ca]).run P w = .ok v' w'∧∃ a,r.er.val=some a∧EC γ' a v':=by
 unfold apN at h;split at h
 case h_2=>cases h
 rename_i cf news' H1 hf;split at h
 case h_2=>cases h
 rename_i ty' c nn' hg;split at h
 case h_2=>cases h
 rename_i c' happ;rw [bc_eq] at h;split at h
 case isFalse=>cases h
 rename_i h1;rw [bc_eq] at h;split at h
 case isFalse=>cases h
 rename_i h2;rw [bc_eq] at h;split at h
 case isFalse=>cases h
 rename_i h3;rw [bc_eq] at h;split at h
 case isFalse=>cases h
 rename_i h4;rw [bc_eq] at h;split at h
 case isFalse=>cases h
 rename_i h5;rw [bc_eq] at h;split at h
 case isFalse=>cases h
 rename_i h6;injection h with h;subst h
 obtain ⟨k1,hc1⟩:=bcT hc;obtain ⟨k2,hc2⟩:=bcT hc1;obtain ⟨k3,hc3⟩:=bcT hc2;have h3:=Nat.eq_of_beq_eq_true h3;subst h3;obtain ⟨γ1,g1,g2,g3⟩:=zcs (f:=frzE 6) (fun hH ha h hc=>zct hH ha h hc) hH hcn hf k1;obtain ⟨bx,happ',hone,hbx⟩:=SyC.app_ok happ;have h7:allOne bx=true:=by
  have e1:c'.enc=c.enc++bx:=happ';have:=c'.enc_one;rw [e1,zbb,List.all_append] at this;rw [zbb];simp only [Bool.and_eq_true] at this;exact this.2
 have hlz:len*z=c.len:=by rw [Nat.eq_of_beq_eq_true k2,Nat.eq_of_beq_eq_true h2,c.len_cz]
 obtain ⟨γ',w',v',q1,q2,q3,q4⟩:=zdv (ty:=ty) (ca:=ca) (hT.mono g1) g2 hei (hs.mono g1) hg (Nat.eq_of_beq_eq_true h1) (zad h4) h5 h6 h7 hlz (Nat.le_of_ble_eq_true k3) (zlm hc3) happ' (hbx γ1 ns g3) hnl hnc;exact ⟨γ',w',v',g1.trans q1,q2,q3,_,rfl,by rw [SyC.app_cnt happ,← Nat.eq_of_beq_eq_true k2];exact q4⟩
theorem zqm (hT:TOk γ T tmps) (hH:HR γ w0 H n w) {t ty:TypeId} {ei:EI} (hei:elemInfo P t=some ei) {i z len:Nat} {nn:Bool} {x:EV} {vs vx:Value} {r:YR} (hs:EC γ (.slO i z len nn) vs) (hx:EC γ x vx) (h:apX ei i z len nn x H n=some r) (hc:r.c=true) :
  ∃ γ' w' v',GLe γ γ'∧HR γ' w0 r.er.H r.er.n w'∧(Builtin.append_ #[t,t] ty #[vs,vx]).run P w = .ok v' w'∧∃ a,r.er.val=some a∧EC γ' a v':=by
 unfold apX at h;split at h
 ·exact zqn hT hH hei hs (fun _=>zo8 hH hx) h hc
 ·rename_i j z2 off len2;split at h
  case h_2=>cases h
  rename_i ty2 d nn3 hg;rw [bc_eq] at h;split at h
  case isFalse=>cases h
  rename_i hz2;have hz2:=Nat.eq_of_beq_eq_true hz2;subst hz2;rw [bc_eq] at h;split at h
  case isFalse=>cases h
  rename_i h1;exact zqn hT hH hei hs (fun hl=>zuu hH hg hx h1 (Nat.le_of_ble_eq_true hl)) h hc
 ·rename_i j z2 len2 nn2;split at h
  case h_2=>cases h
  rename_i ty2 d nn3 hg;rw [bc_eq] at h;split at h
  case isFalse=>exact zxb hT hH hei hs hg hx h hc
  rename_i hz;exact zqn hT hH hei hs (fun hl=>zoi hH hg hx (Nat.eq_of_beq_eq_true hl) (Nat.eq_of_beq_eq_true hz)) h hc
 ·split at h
  case h_2=>cases h
  rename_i m news hnw;obtain ⟨a,ca,ns,rfl,hcn,hnl,hnc⟩:=zc2 hH hx hnw;exact zxa hT hH hei hs hcn hnl hnc h hc
theorem zw9 (hT:TOk γ T tmps) (hH:HR γ w0 H n w) {t ty:TypeId} {ei:EI} (hei:elemInfo P t=some ei) {i v j f y z len:Nat} {x:EV} {vs vx:Value} {r:YR} (hs:EC γ (.row i v j f y z len) vs) (hx:EC γ x vx) (h:apR ei i v j f y z len x H n=some r) (hc:r.c=true) :
  ∃ γ' w' v',GLe γ γ'∧HR γ' w0 r.er.H r.er.n w'∧(Builtin.append_ #[t,t] ty #[vs,vx]).run P w = .ok v' w'∧∃ a,r.er.val=some a∧EC γ' a v':=by
 unfold apR at h;split at h
 case h_2=>cases h
 rename_i me ty2 sh rows v' ho nn hg;split at h
 case h_2=>cases h
 rename_i sh' hf;rw [zai] at hf;split at h
 case h_2=>cases h
 rename_i m news hnw;split at h
 case h_2=>cases h
 rename_i c' happ;rw [bc_eq] at h;split at h
 case isFalse=>cases h
 rename_i k1;rw [bc_eq] at h;split at h
 case isFalse=>cases h
 rename_i k2;rw [bc_eq] at h;split at h
 case isFalse=>cases h
 rename_i k3;rw [bc_eq] at h;split at h
 case isFalse=>cases h
 rename_i k4;rw [bc_eq] at h;split at h
 case isFalse=>cases h
 rename_i k5;rw [bc_eq] at h;split at h
 case isFalse=>cases h
 rename_i hi;rw [bc_eq] at h;split at h
 case isFalse=>cases h
 rename_i hn1;injection h with h;subst h
 have hcx:bc (Nat.beq v v') (bc (Nat.blt j rows.length) (bc (notIn j f ho) (bc (Nat.beq len ((rows.getD j []).getD f (.i 0)).list.length) (Nat.ble (len+m) 65536) false) false) false) false=true:=hc;rw [bc_eq] at hcx;split at hcx
 case isFalse=>cases hcx
 rename_i c1;rw [bc_eq] at hcx;split at hcx
 case isFalse=>cases hcx
 rename_i c2;rw [bc_eq] at hcx;split at hcx
 case isFalse=>cases hcx
 rename_i c3;rw [bc_eq] at hcx;split at hcx
 case isFalse=>cases hcx
 rename_i c4;have k1:=Nat.eq_of_beq_eq_true k1;rw [zac] at k1;have k2:=Nat.eq_of_beq_eq_true k2;have k3:=Nat.eq_of_beq_eq_true k3;rw [zac] at k3;have k4:=Nat.eq_of_beq_eq_true k4;have k5:=zad k5;have c1:=Nat.eq_of_beq_eq_true c1;have c2:=zad c2;have c3:=zbg c3;have c4:=Nat.eq_of_beq_eq_true c4;have hroom:=Nat.le_of_ble_eq_true hcx;have hnb:Nat.ble n 65535=true:=Nat.ble_eq_true_of_le (by have:=Nat.le_of_ble_eq_true hn1;omega);subst c1;subst k1
 have hnil:¬ (EK.nest me ty2 sh rows v ho nn).Nil:=fun e=>by rw [e.2] at c2;simp at c2
 obtain ⟨hme,_⟩:=hH.fzk.nst.me i me ty2 sh rows v ho nn hg;have hme:=hme.symm;subst hme;obtain ⟨a,ca,ns,rfl,hcn,hnl,hnc⟩:=zc2 hH hx hnw;obtain ⟨bx,happ',hone,hbx⟩:=SyC.app_ok happ;have h7:allOne bx=true:=by
  have e1:c'.enc=(mkC sh' ((rows.getD j []).getD f (.i 0)).list).enc++bx:=happ';have:=c'.enc_one;rw [e1,zbb,List.all_append] at this;rw [zbb];simp only [Bool.and_eq_true] at this;exact this.2
 have hcnt:=SyC.app_cnt happ;rw [zcr] at hcnt;have hlz:len*z=(mkC sh' ((rows.getD j []).getD f (.i 0)).list).len:=by rw [SyC.len_cz,zo5,zcr,c4,k3]
 have fin:∀ (γ1:G) (w1:World) (e0:Option EK),HR γ1 w0 ((((H.put i (some (.nest i ty2 sh rows v ((j,f)::ho) nn))).put n e0).put n none).put (Nat.succ n) (some (.seq ei.e c' true))) (Nat.succ (Nat.succ n)) w1→HR γ1 w0 (((H.put i (some (.nest i ty2 sh rows v ((j,f)::ho) nn))).put n none).put (Nat.succ n) (some (.seq ei.e c' true))) (Nat.succ (Nat.succ n)) w1:=fun γ1 w1 e0 h1=>h1.congr fun q kq hq=>by
  rw [Tr.get_put hn1] at hq ⊢;split at hq
  ·rename_i e;rw [if_pos e];exact hq
  ·rename_i e;rw [if_neg e];rw [Tr.get_put hnb] at hq ⊢;split at hq
   ·cases hq
   ·rename_i e2;rw [if_neg e2,Tr.get_put hnb,if_neg e2];exact hq
 rw [← c4] at hcnt
 cases hs with
 | row _ _ _ _ _ _ _ _ hs=>
 rcases hs with ⟨rfl,hl0⟩|⟨k,m0,c,g1,rfl,g2,g3,g4⟩
 ·have hL:((rows.getD j []).getD f (.i 0)).list=[]:=List.eq_nil_of_length_eq_zero (by rw [← c4];exact hl0);rw [hL] at happ' hlz;have he:(mkC sh' []).enc=[]:=by rw [zcq];rfl
  obtain ⟨b2,m2,e1,e2,ci,e3,e4,e5,e6⟩:=hH.hp _ _ hg hnil;have hfl:f<sh.length:=(List.getElem?_eq_some_iff.1 hf).1;have h1:=hH.toHole hi hg hnil e1 (j:=j) (f:=f) hfl (w':=w) (fun _ _=>rfl) rfl rfl rfl rfl fun c0 hc0=>⟨c0,hc0,rfl,fun _ _=>rfl⟩;have h2:=h1.more.nilSeq (ty:=ei.e) (c:=mkC sh' []) hnb he
  obtain ⟨γ',w',v',q1,q2,q3,q4⟩:=zdv (ty:=ty) (ca:=ca) hT h2 hei (i:=n) (z:=z) (len:=len) (nn:=false) (.slO n z len false _ ⟨fun _=>⟨rfl,hl0⟩,fun e=>by cases e⟩) (by rw [Tr.get_put hnb,if_pos rfl]) k2 k5 hnb hn1 h7 hlz hroom (.inr rfl) happ' (hbx γ ns hcn) hnl hnc;exact ⟨γ',w',v',q1,fin γ' w' _ q2,q3,_,rfl,by rw [hcnt];exact q4⟩
 ·have g5:c*z≤m0.2:=by
   rcases g4 with g4|g4
   ·omega
   ·rw [g4];omega
  have hzc:((rows.getD j []).getD f (.i 0)).list.length*sh'.length≤m0.2:=by rw [← c4,← k3];exact Nat.le_trans (Nat.mul_le_mul_right _ g2) g5
  obtain ⟨hle,h1⟩:=hH.rowOut hi hnb hg c2 hf c3 g1 fun arr ha hh=>zok ha hzc hh;rw [k4] at h1;obtain ⟨γ',w',v',q1,q2,q3,q4⟩:=zdv (ty:=ty) (ca:=ca) (hT.mono hle) h1 hei (i:=n) (z:=z) (len:=len) (nn:=true) (.slO n z len true _ ⟨(fun e=>by cases e),fun _=>⟨⟨k,m0.1⟩,m0.2,c,G.upd_same,by unfold Pl.at;rfl,g2,g3,g4⟩⟩) (by rw [Tr.get_put hnb,if_pos rfl]) k2 k5 hnb hn1 h7 hlz hroom (.inl rfl) happ' (hbx _ ns (hcn.mono hle)) hnl hnc;exact ⟨γ',w',v',hle.trans q1,fin γ' w' _ q2,q3,_,rfl,by rw [hcnt];exact q4⟩
theorem SrcOk.mono {d:SyC} {vx:Value} (hle:GLe γ γ') (h:SrcOk γ w d vx):SrcOk γ' w d vx:=
 ⟨fun h0=>let ⟨a,ca,ns,h1,h2,h3⟩:=h.1 h0;⟨a,ca,ns,h1,h2.mono hle,h3⟩,h.2⟩
theorem zwb (hT:TOk γ T tmps) (hH:HR γ w0 H n w) {t ty:TypeId} {ei:EI} (hei:elemInfo P t=some ei) {i v j f y z len:Nat} {d:SyC} {cx:Bool} {vs vx:Value} {r:YR} (hs:EC γ (.row i v j f y z len) vs) (hx:cx=true→SrcOk γ w d vx) (h:apRS ei i v j f y z len d cx H n=some r) (hc:r.c=true) :
  ∃ γ' w' v',GLe γ γ'∧HR γ' w0 r.er.H r.er.n w'∧(Builtin.append_ #[t,t] ty #[vs,vx]).run P w = .ok v' w'∧∃ a,r.er.val=some a∧EC γ' a v':=by
 unfold apRS at h;split at h
 case h_2=>cases h
 rename_i me ty2 sh rows v' ho nn hg;split at h
 case h_2=>cases h
 rename_i sh' hf;rw [zai] at hf;split at h
 case h_2=>cases h
 rename_i c' happ;rw [bc_eq] at h;split at h
 case isFalse=>cases h
 rename_i k1;rw [bc_eq] at h;split at h
 case isFalse=>cases h
 rename_i k2;rw [bc_eq] at h;split at h
 case isFalse=>cases h
 rename_i k3;rw [bc_eq] at h;split at h
 case isFalse=>cases h
 rename_i k4;rw [bc_eq] at h;split at h
 case isFalse=>cases h
 rename_i k5;rw [bc_eq] at h;split at h
 case isFalse=>cases h
 rename_i hi;rw [bc_eq] at h;split at h
 case isFalse=>cases h
 rename_i hn1;injection h with h;subst h
 have hcx:bc (Nat.beq v v') (bc (Nat.blt j rows.length) (bc (notIn j f ho) (bc (Nat.beq len ((rows.getD j []).getD f (.i 0)).list.length) (bc cx (bc (Nat.blt 0 d.cnt) (Nat.ble (len+d.cnt) 65536) false) false) false) false) false) false=true:=hc;rw [bc_eq] at hcx;split at hcx
 case isFalse=>cases hcx
 rename_i c1;rw [bc_eq] at hcx;split at hcx
 case isFalse=>cases hcx
 rename_i c2;rw [bc_eq] at hcx;split at hcx
 case isFalse=>cases hcx
 rename_i c3;rw [bc_eq] at hcx;split at hcx
 case isFalse=>cases hcx
 rename_i c4;obtain ⟨c5,hcx⟩:=bcT hcx;obtain ⟨c6,hcx⟩:=bcT hcx;have k1:=Nat.eq_of_beq_eq_true k1;rw [zac] at k1;have k2:=Nat.eq_of_beq_eq_true k2;have k3:=Nat.eq_of_beq_eq_true k3;rw [zac] at k3;have k4:=Nat.eq_of_beq_eq_true k4;have k5:=Nat.eq_of_beq_eq_true k5;have c1:=Nat.eq_of_beq_eq_true c1;have c2:=zad c2;have c3:=zbg c3;have c4:=Nat.eq_of_beq_eq_true c4;have hroom:=Nat.le_of_ble_eq_true hcx;have hnb:Nat.ble n 65535=true:=Nat.ble_eq_true_of_le (by have:=Nat.le_of_ble_eq_true hn1;omega);subst c1;subst k1
 have hnil:¬ (EK.nest me ty2 sh rows v ho nn).Nil:=fun e=>by rw [e.2] at c2;simp at c2
 obtain ⟨hme,_⟩:=hH.fzk.nst.me i me ty2 sh rows v ho nn hg;have hme:=hme.symm;subst hme;have hsrc:=hx c5;have happ':=SyC.appS_enc happ;have hcnt:=SyC.appS_cnt happ;rw [zcr] at hcnt;have hbt:Nat.blt 0 d.cnt=true:=c6
 have fin:∀ (γ1:G) (w1:World) (e0:Option EK),HR γ1 w0 ((((H.put i (some (.nest i ty2 sh rows v ((j,f)::ho) nn))).put n e0).put n none).put (Nat.succ n) (some (.seq ei.e c' true))) (Nat.succ (Nat.succ n)) w1→HR γ1 w0 (((H.put i (some (.nest i ty2 sh rows v ((j,f)::ho) nn))).put n none).put (Nat.succ n) (some (.seq ei.e c' true))) (Nat.succ (Nat.succ n)) w1:=fun γ1 w1 e0 h1=>h1.congr fun q kq hq=>by
  rw [Tr.get_put hn1] at hq ⊢;split at hq
  ·rename_i e;rw [if_pos e];exact hq
  ·rename_i e;rw [if_neg e];rw [Tr.get_put hnb] at hq ⊢;split at hq
   ·cases hq
   ·rename_i e2;rw [if_neg e2,Tr.get_put hnb,if_neg e2];exact hq
 rw [← c4] at hcnt
 cases hs with
 | row _ _ _ _ _ _ _ _ hs=>
 rcases hs with ⟨rfl,hl0⟩|⟨k,m0,c,g1,rfl,g2,g3,g4⟩
 ·have hL:((rows.getD j []).getD f (.i 0)).list=[]:=List.eq_nil_of_length_eq_zero (by rw [← c4];exact hl0);rw [hL] at happ';have he:(mkC sh' []).enc=[]:=by rw [zcq];rfl
  obtain ⟨b2,m2,e1,e2,ci,e3,e4,e5,e6⟩:=hH.hp _ _ hg hnil;have hfl:f<sh.length:=(List.getElem?_eq_some_iff.1 hf).1;have h1:=hH.toHole hi hg hnil e1 (j:=j) (f:=f) hfl (w':=w) (fun _ _=>rfl) rfl rfl rfl rfl fun c0 hc0=>⟨c0,hc0,rfl,fun _ _=>rfl⟩;have h2:=h1.more.nilSeq (ty:=ei.e) (c:=mkC sh' []) hnb he
  obtain ⟨γ',w',v',q1,q2,q3,q4⟩:=zkw (ty:=ty) hT h2 hei (i:=n) (z:=z) (len:=len) (nn:=false) (.slO n z len false _ ⟨fun _=>⟨rfl,hl0⟩,fun e=>by cases e⟩) (by rw [Tr.get_put hnb,if_pos rfl]) k2 (by rw [zo5];exact k3) k5 hnb hn1 (by rw [zcr,hl0];rfl) hroom (.inr rfl) happ' hsrc;rw [show bc false true (Nat.blt 0 d.cnt)=true from hbt] at q2 q4
  exact ⟨γ',w',v',q1,fin γ' w' _ q2,q3,_,rfl,by rw [hcnt];exact q4⟩
 ·have g5:c*z≤m0.2:=by
   rcases g4 with g4|g4
   ·omega
   ·rw [g4];omega
  have hzc:((rows.getD j []).getD f (.i 0)).list.length*sh'.length≤m0.2:=by rw [← c4,← k3];exact Nat.le_trans (Nat.mul_le_mul_right _ g2) g5
  obtain ⟨hle,h1⟩:=hH.rowOut hi hnb hg c2 hf c3 g1 fun arr ha hh=>zok ha hzc hh;rw [k4] at h1;obtain ⟨γ',w',v',q1,q2,q3,q4⟩:=zkw (ty:=ty) (hT.mono hle) h1 hei (i:=n) (z:=z) (len:=len) (nn:=true) (.slO n z len true _ ⟨(fun e=>by cases e),fun _=>⟨⟨k,m0.1⟩,m0.2,c,G.upd_same,by unfold Pl.at;rfl,g2,g3,g4⟩⟩) (by rw [Tr.get_put hnb,if_pos rfl]) k2 (by rw [zo5];exact k3) k5 hnb hn1 (by rw [zcr];exact c4) hroom (.inl rfl) happ' (hsrc.mono hle);exact ⟨γ',w',v',hle.trans q1,fin γ' w' _ q2,q3,_,rfl,by rw [hcnt];exact q4⟩
theorem zwa (hT:TOk γ T tmps) (hH:HR γ w0 H n w) {t ty:TypeId} {ei:EI} (hei:elemInfo P t=some ei) {i v j f y z len:Nat} {x:EV} {vs vx:Value} {r:YR} (hs:EC γ (.row i v j f y z len) vs) (hx:EC γ x vx) (h:apRX ei i v j f y z len x H n=some r) (hc:r.c=true) :
  ∃ γ' w' v',GLe γ γ'∧HR γ' w0 r.er.H r.er.n w'∧(Builtin.append_ #[t,t] ty #[vs,vx]).run P w = .ok v' w'∧∃ a,r.er.val=some a∧EC γ' a v':=by
 unfold apRX at h;split at h
 ·split at h
  case h_2=>cases h
  rename_i ty2 d nn3 hg;rw [bc_eq] at h;split at h
  case isFalse=>cases h
  rename_i hz;exact zwb hT hH hei hs (fun hl=>zoi hH hg hx (Nat.eq_of_beq_eq_true hl) (Nat.eq_of_beq_eq_true hz)) h hc
 ·exact zw9 hT hH hei hs hx h hc
theorem zug (hT:TOk γ T tmps) (hH:HR γ w0 H n w) {t ty:TypeId} {s x:EV} {vs vx:Value} {r:YR} (hs:EC γ s vs) (hx:EC γ x vx) (h:zApp P t s x H n=some r) (hc:r.c=true) :
  ∃ γ' w' v',GLe γ γ'∧HR γ' w0 r.er.H r.er.n w'∧(Builtin.append_ #[t,t] ty #[vs,vx]).run P w = .ok v' w'∧∃ a,r.er.val=some a∧EC γ' a v':=by
 unfold zApp at h;split at h
 case h_2=>cases h
 rename_i ei hei;split at h
 case h_4=>cases h
 ·exact zqm hT hH hei hs hx h hc
 ·exact zwa hT hH hei hs hx h hc
 ·have e:=ec_v hs;subst e;split at h
  ·rename_i d hd;rw [bc_eq] at h;split at h
   case isFalse=>cases h
   rename_i hn;have he:(d.take 0).enc=[]:=by rw [SyC.take_enc2,Nat.zero_mul];rfl
   exact zqm hT (hH.more.nilSeq hn he) hei (.slO n ei.z 0 false _ ⟨fun _=>⟨rfl,rfl⟩,fun e=>by cases e⟩) hx h hc
  split at h
  case h_2=>cases h
  rename_i sh hsh;rw [bc_eq] at h;split at h
  case isFalse=>cases h
  rename_i hn;have he:(mkC sh []).enc=[]:=by rw [zcq];rfl
  exact zqm hT (hH.more.nilSeq hn he) hei (.slO n ei.z 0 false _ ⟨fun _=>⟨rfl,rfl⟩,fun e=>by cases e⟩) hx h hc
def zeroC (zs:List Value) (l:Nat):Option SyC:=match zs with
 | [.int k x]=>bc (decide (x=0)) (some (.ints k (zerosL l))) none
 | [.bool b]=>bc b none (some (.bools (List.replicate l false)))
 | [.string s]=>bc (Nat.beq s.size 0) (some (.strs (List.replicate l ByteArray.empty))) none
 | _=>none
theorem zg1 (v:Value) (m l:Nat) (h:l≤m):(zeroCellsE [v] m).take l=List.replicate l (.v v):=by
 unfold zeroCellsE;apply List.ext_getElem?;intro j;rw [List.getElem?_take,List.getElem?_map,List.getElem?_replicate]
 by_cases hj:j<l
 ·rw [if_pos hj,if_pos hj,List.getElem?_range (by omega)];simp [Nat.mod_one]
 ·rw [if_neg hj,if_neg hj]
theorem zqs {zs:List Value} {l:Nat} {c:SyC} (h:zeroC zs l=some c):∃ v,zs=[v]∧c.enc=List.replicate l (.v v):=by
 unfold zeroC at h;split at h
 ·rename_i k x;rw [bc_eq] at h;split at h
  case isFalse=>cases h
  rename_i hx;have hx:=of_decide_eq_true hx;subst hx;injection h with h;subst h
  refine ⟨_,rfl,?_⟩;show (List.replicate l (0:Int)).map _=_;rw [List.map_replicate]
 ·rename_i b;rw [bc_eq] at h;split at h
  case isTrue=>cases h
  rename_i hb;have hb:b=false:=by simpa using hb
  subst hb;injection h with h;subst h
  refine ⟨_,rfl,?_⟩;show (List.replicate l false).map _=_;rw [List.map_replicate]
 ·rename_i s;rw [bc_eq] at h;split at h
  case isFalse=>cases h
  rename_i hs;have hs:=Nat.eq_of_beq_eq_true hs;have hs:s=ByteArray.empty:=by
   obtain ⟨d⟩:=s;have hd:d.size=0:=hs;have:d = #[]:=Array.eq_empty_of_size_eq_zero hd;subst this;rfl
  subst hs;injection h with h;subst h
  refine ⟨_,rfl,?_⟩;show (List.replicate l ByteArray.empty).map _=_;rw [List.map_replicate]
 ·cases h
def makeC (P:Program) (T:Tr EV) (t:TypeId) (len cap:Operand):Option (Bool×TypeId×SyC×Nat):=match elemInfo P t with
 | some ei=>match Sx.zeroL P ei.e with
  | some zs=>match intOf (exVal T len) with
   | some l=>match intOf (exVal T cap) with
    | some c=>match zeroC zs l.toNat with
     | some cc=>bc (Nat.beq ei.z 1) (some (bc (decide (0≤l)) (bc (decide (l≤c)) (decide (c≤65536)) false) false,ei.e,cc,cc.cnt)) none
     | none=>none
    | none=>none
   | none=>none
  | none=>none
 | none=>none
theorem zlo (hT:TOk γ T tmps) {t:TypeId} {len cap:Operand} {r:Bool×TypeId×SyC×Nat} (ho:o.op = .makeSlice t len cap) (h:makeC P T t len cap=some r) (hc:r.1=true) :
  ∃ (arr:Array Value),r.2.2.2≤arr.size∧arr.size≤65536∧(∀ w:World,(execOp (opEval tmps) o).run P w = .ok (.value (.slice (some ⟨w.heap.size,0,none⟩) r.2.2.2 arr.size)) (w.alloc (.cells arr r.2.1)))∧∀ γ:G,ECL γ r.2.2.1.enc (arr.toList.take r.2.2.2)∧r.2.2.1.enc.length=r.2.2.2:=by
 unfold makeC at h;split at h
 case h_2=>cases h
 rename_i ei hei;obtain ⟨hu,inf,zv,hi,hz,hsz,hzs,hpos,hby⟩:=zaj hei;split at h
 case h_2=>cases h
 rename_i zs hzs2;obtain ⟨inf2,zv2,hi2,hzv2,hzl⟩:=zb3 hzs2;rw [hi] at hi2;injection hi2 with hi2;subst hi2
 rw [hz] at hzv2;injection hzv2 with hzv2;subst hzv2
 split at h
 case h_2=>cases h
 rename_i l hl;split at h
 case h_2=>cases h
 rename_i c hcp;split at h
 case h_2=>cases h
 rename_i cc hcc;rw [bc_eq] at h;split at h
 case isFalse=>cases h
 rename_i hz1;injection h with h;subst h
 obtain ⟨h1,hc⟩:=bcT hc;obtain ⟨h2,hc⟩:=bcT hc;have h1:=of_decide_eq_true h1;have h2:=of_decide_eq_true h2;have h3:=of_decide_eq_true hc;have hz1:=Nat.eq_of_beq_eq_true hz1;obtain ⟨v,hv,henc⟩:=zqs hcc;subst hv;obtain ⟨l,rfl⟩:=Int.eq_ofNat_of_zero_le h1;obtain ⟨c,rfl⟩:=Int.eq_ofNat_of_zero_le (show 0≤c by omega);rw [Int.toNat_natCast] at henc;have hcnt:cc.cnt=l:=by
  have e1:cc.enc.length=l:=by rw [henc];simp
  rw [cc.enc_len,cc.len_cz] at e1;have e2:cc.cz=1:=by
   have hv2:=hcc;unfold zeroC at hv2;split at hv2
   ·rw [bc_eq] at hv2;split at hv2
    ·injection hv2 with hv2;rw [← hv2];rfl
    ·cases hv2
   ·rw [bc_eq] at hv2;split at hv2
    ·cases hv2
    ·injection hv2 with hv2;rw [← hv2];rfl
   ·rw [bc_eq] at hv2;split at hv2
    ·injection hv2 with hv2;rw [← hv2];rfl
    ·cases hv2
   ·cases hv2
  rw [e2,Nat.mul_one] at e1;exact e1
 obtain ⟨κ,hlen⟩:=zag hT hl;obtain ⟨κ2,hcap⟩:=zag hT hcp;have hb2:=Nat.mul_le_mul hby (show c≤65536 by omega);have h8:inf.bytes*c≤281474976710656:=Nat.le_trans hb2 (Nat.le_of_ble_eq_true rfl);have h9:(inf.bytes:Int)*(c:Int)≤281474976710656:=by rw [← Int.natCast_mul];omega
 have hr:=fun w=>run_makeSlice (P:=P) w t ei.e inf zv hu hi hz κ κ2 (l:Int) (c:Int) (by omega) (by omega) (by rw [hsz,Int.toNat_natCast,hz1];omega) h9 (by omega);have e1:zv.cells = #[v]:=by
  have:zv.cells.toList=[v]:=hzl;apply Array.ext';simpa using this
 have hcl:(madeCells zv.cells (c*ei.z)).size=c:=by rw [size_madeCells,hz1,Nat.mul_one]
 refine ⟨madeCells zv.cells (c*ei.z),?_,by rw [hcl];omega,fun w=>?_,fun γ=>?_⟩
 ·show cc.cnt≤_;rw [hcl,hcnt];omega
 ·show _=Result.ok (Next.value (.slice _ cc.cnt _)) _;rw [hcl,hcnt];have hex:execOp (opEval tmps) o=(do pure (Next.value (← Instr.makeSlice t (.int κ l) (.int κ2 c))):Sem Next):=by unfold execOp;rw [ho];simp only [hlen,hcap]
  rw [hex];refine run_v ?_;rw [hr w,hsz];simp
 ·show ECL γ cc.enc (List.take cc.cnt _)∧cc.enc.length=cc.cnt;rw [hcnt];have hall:ECL γ (zeroCellsE [v] (c*ei.z)) (madeCells zv.cells (c*ei.z)).toList:=by unfold madeCells;rw [e1];exact za4 [v] _
  have:=hall.take l;rw [zg1 v _ l (by rw [hz1];omega),← henc] at this;exact ⟨this,by rw [henc];simp⟩
def shL (s:Sh):Bool:=match s with
 | .list _=>true
 | _=>false
def zeroU (s:Sh):U:=match s with
 | .int _=>.i 0
 | .bool=>.b false
 | .str=>.s ByteArray.empty
 | .list _=>.l []
def zeroV (s:Sh):Value:=match s with
 | .int k=>.int k 0
 | .bool=>.bool false
 | .str=>.string ByteArray.empty
 | .list _=>.slice none 0 0
def rowT (P:Program) (t:TypeId):Option (List TypeId):=match P.underlying t with
 | some (.slice e)=>some [e]
 | some (.struct fs)=>some (fs.toList.map fun f=>match P.underlying f.type with
  | some (.slice e)=>e
  | _=>0)
 | _=>none
def zMakeN (P:Program) (T:Tr EV) (t:TypeId) (len cap:Operand) (H:Tr EK) (n:Nat):Option YR:=match elemInfo P t with
 | some ei=>match shOf P 6 ei.e with
  | some sh=>bc (List.rec false (fun s _ ih=>bc (shL s) true ih) sh) (match Sx.zeroL P ei.e with
   | some zs=>match rowT P ei.e with
    | some ts=>match intOf (exVal T len) with
     | some l=>match intOf (exVal T cap) with
      | some c=>bc (eqL eqV0 zs (sh.map zeroV)) (bc (Nat.beq ei.z zs.length) (bc (Nat.ble n 65535) (some ⟨bc (decide (0≤l)) (bc (decide (l=c)) (decide (c≤65536)) false) false,⟨some (.slO n ei.z l.toNat true),H.put n (some (.nest n (ei.e,ts) sh (List.replicate l.toNat (sh.map zeroU)) 0 [] true)),Nat.succ n⟩⟩) none) none) none
      | none=>none
     | none=>none
    | none=>none
   | none=>none) none
  | none=>none
 | none=>none
theorem znm (hT:TOk γ T tmps) (hH:HR γ w0 H n w) {t:TypeId} {len cap:Operand} {r:YR} (ho:o.op = .makeSlice t len cap) (h:zMakeN P T t len cap H n=some r) (hc:r.c=true):Gives P γ w0 w (execOp (opEval tmps) o) r.er.val r.er.H r.er.n:=by
 unfold zMakeN at h;split at h
 case h_2=>cases h
 rename_i ei hei;obtain ⟨hu,inf,zv,hi,hz,hsz,hzs,hpos,hby⟩:=zaj hei;split at h
 case h_2=>cases h
 rename_i sh hsh;rw [bc_eq] at h;split at h
 case isFalse=>cases h
 split at h
 case h_2=>cases h
 rename_i zs hzs2;obtain ⟨inf2,zv2,hi2,hzv2,hzl⟩:=zb3 hzs2;rw [hi] at hi2;injection hi2 with hi2;subst hi2
 rw [hz] at hzv2;injection hzv2 with hzv2;subst hzv2
 split at h
 case h_2=>cases h
 rename_i ts hts;split at h
 case h_2=>cases h
 rename_i l hl;split at h
 case h_2=>cases h
 rename_i c hcp;rw [bc_eq] at h;split at h
 case isFalse=>cases h
 rename_i hze;rw [bc_eq] at h;split at h
 case isFalse=>cases h
 rename_i hz1;rw [bc_eq] at h;split at h
 case isFalse=>cases h
 rename_i hnb;injection h with h;subst h
 have hc:bc (decide (0≤l)) (bc (decide (l=c)) (decide (c≤65536)) false) false=true:=hc;obtain ⟨h1,hc⟩:=bcC hc;obtain ⟨h2,h3⟩:=bcC hc;have h1:=of_decide_eq_true h1;have h2:=of_decide_eq_true h2;have h3:=of_decide_eq_true h3;subst h2;have hze:=zd8 zev hze;have hz1:=Nat.eq_of_beq_eq_true hz1;obtain ⟨l,rfl⟩:=Int.eq_ofNat_of_zero_le h1;obtain ⟨κ,hlen⟩:=zag hT hl;obtain ⟨κ2,hcap⟩:=zag hT hcp
 show Gives P γ w0 w _ (some (.slO n ei.z (Int.toNat (l:Int)) true)) (H.put n (some (.nest n (ei.e,ts) sh (List.replicate (Int.toNat (l:Int)) (sh.map zeroU)) 0 [] true))) (Nat.succ n);rw [Int.toNat_natCast];have hb2:=Nat.mul_le_mul hby (show l≤65536 by omega);have h8:inf.bytes*l≤281474976710656:=Nat.le_trans hb2 (Nat.le_of_ble_eq_true rfl);have h9:(inf.bytes:Int)*(l:Int)≤281474976710656:=by rw [← Int.natCast_mul];omega
 have hr:=run_make (P:=P) w t ei.e inf zv hu hi hz κ κ2 (l:Int) (l:Int) (by omega) (by omega) h9 (by omega);rw [Int.toNat_natCast,hsz] at hr;have hcl:(madeCells zv.cells (l*ei.z)).size=l*ei.z:=by rw [size_madeCells]
 have hγn:=hH.fresh n (Nat.le_refl _);have e1:zv.cells.toList=zs:=hzl;have hzz:sh.length=ei.z:=by rw [hz1,hze,List.length_map]
 have hcs:zv.cells.size=ei.z:=by rw [← Array.length_toList,e1,← hz1]
 have hrw:∀ v q,γ.rw n v q=none:=fun v q=>by
  cases e:γ.rw n v q with
  | none=>rfl
  | some p=>
   obtain ⟨b,hb⟩:=hH.fzk.nst.rwg n v q p e;rw [hγn] at hb;cases hb
 have hcell:∀ j f s,j<l→sh[f]? = some s→(madeCells zv.cells (l*ei.z))[j*ei.z+f]? = some (zeroV s):=fun j f s hj hf=>by
  have hfl:f<ei.z:=by rw [← hzz];exact (List.getElem?_eq_some_iff.1 hf).1
  have hlt:j*ei.z+f<l*ei.z:=by
   have:=Nat.mul_le_mul_right ei.z (show j+1≤l from hj)
   rw [Nat.succ_mul] at this;omega
  unfold madeCells;rw [Array.getElem?_map,Array.getElem?_range,if_pos hlt];have hmod:(j*ei.z+f)%ei.z=f:=by rw [Nat.mul_comm,Nat.mul_add_mod,Nat.mod_eq_of_lt hfl]
  show some (zv.cells[(j*ei.z+f)%zv.cells.size]!)=some (zeroV s);rw [hcs,hmod];have h5:zs[f]? = some (zeroV s):=by rw [hze,List.getElem?_map,hf];rfl
  rw [← e1,Array.getElem?_toList] at h5;congr 1;rw [Array.getElem!_eq_getD,Array.getD_eq_getD_getElem?,h5];rfl
 have hHn:HR (γ.upd n (⟨w.heap.size,0⟩,l*ei.z)) w0 (H.put n (some (.cells ei.e ((madeCells zv.cells (l*ei.z)).toList.map .v) true))) (Nat.succ n) (w.alloc (.cells (madeCells zv.cells (l*ei.z)) ei.e)):=hH.new hnb (.cells (madeCells zv.cells (l*ei.z)) ei.e) (l*ei.z) (.cells ei.e ((madeCells zv.cells (l*ei.z)).toList.map .v) true) rfl rfl rfl rfl
  ⟨madeCells zv.cells (l*ei.z),.of (by show (w.heap.push _)[_]? = _;simp),by rw [hcl];simp,by rw [List.length_map,Array.length_toList,hcl];exact Nat.le_refl _,fun _=>by rw [List.length_map,Array.length_toList,hcl],by
   rw [List.drop_zero,List.length_map,List.take_of_length_le (Nat.le_refl _)];exact ECL.vals _ _⟩
 have hg:(H.put n (some (EK.cells ei.e ((madeCells zv.cells (l*ei.z)).toList.map .v) true))).get n=some (.cells ei.e ((madeCells zv.cells (l*ei.z)).toList.map .v) true):=by rw [Tr.get_put hnb,if_pos rfl]
 have hN:=hHn.toNest hnb hg id (fun v q=>hrw v q) (ty:=(ei.e,ts)) (sh:=sh) (rows:=List.replicate l (sh.map zeroU)) fun b m hk=>by
  obtain ⟨ca,q1,q2,q3,q4,q5⟩:=hk;have q4:=q4 rfl;rw [List.length_map,Array.length_toList,hcl] at q4 q5;refine ⟨ca,q1,q2,by rw [List.length_replicate,hzz];omega,fun j f s hj hf _=>⟨zeroV s,?_,?_⟩⟩
  ·rw [List.length_replicate] at hj;have h5:=hcell j f s hj hf;have hlt:j*ei.z+f<l*ei.z:=by rw [← hcl];exact (Array.getElem?_eq_some_iff.1 h5).1
   rw [hzz];have h6:((madeCells zv.cells (l*ei.z)).toList.map EV.v)[j*ei.z+f]? = some (.v (zeroV s)):=by rw [List.getElem?_map,Array.getElem?_toList,h5];rfl
   obtain ⟨y,hy,hcy⟩:=q5.at h6;rw [List.getElem?_take,if_pos hlt,List.getElem?_drop,Array.getElem?_toList] at hy;rw [hy,ec_v hcy]
  ·rw [List.length_replicate] at hj;have e3:((List.replicate l (sh.map zeroU)).getD j []).getD f (.i 0)=zeroU s:=by
    rw [List.getD_eq_getElem?_getD (l:=List.replicate l (sh.map zeroU)),List.getElem?_replicate,if_pos hj];show (sh.map zeroU).getD f (.i 0)=zeroU s;rw [List.getD_eq_getElem?_getD,List.getElem?_map,hf];rfl
   rw [e3]
   cases s with
   | list sh'=>exact .inl ⟨trivial,rfl,rfl⟩
   | int k=>exact .v _
   | bool=>exact .v _
   | str=>exact .v _
 refine ⟨γ.upd n (⟨w.heap.size,0⟩,l*ei.z),w.alloc (.cells (madeCells zv.cells (l*ei.z)) ei.e),G.upd_le hγn,hN.congr fun q kq hq=>?_,.slice (some ⟨w.heap.size,0,none⟩) l l,?_,?_⟩
 ·rw [Tr.get_put hnb] at hq ⊢;split at hq
  ·rename_i e;rw [if_pos e];exact hq
  ·rename_i e;rw [if_neg e,Tr.get_put hnb,if_neg e];exact hq
 ·have hex:execOp (opEval tmps) o=(do pure (Next.value (← Instr.makeSlice t (.int κ l) (.int κ2 l))):Sem Next):=by unfold execOp;rw [ho];simp only [hlen,hcap]
  rw [hex];exact run_v hr
 ·exact .slO n ei.z l true _ ⟨(fun e=>by cases e),fun _=>⟨⟨w.heap.size,0⟩,l*ei.z,l,G.upd_same,rfl,Nat.le_refl _,by unfold maxLen;omega,.inl rfl⟩⟩
def zMake (P:Program) (T:Tr EV) (t:TypeId) (len cap:Operand) (H:Tr EK) (n:Nat):Option YR:=match makeC P T t len cap with
 | some (c,e,cc,l)=>bc (Nat.ble n 65535) (some ⟨c,⟨some (.slO n 1 l true),H.put n (some (.seq e cc true)),Nat.succ n⟩⟩) none
 | none=>none
theorem zo0 {arr:Array Value} {e:TypeId} {cc:SyC} {l:Nat} (h:ECL γ cc.enc (arr.toList.take l)∧cc.enc.length=l) (hl:l≤arr.size):(EK.seq e cc true).ok γ ⟨w.heap.size,0⟩ arr.size (w.alloc (.cells arr e)):=
 ⟨arr,.of (by show (w.heap.push _)[_]? = _;simp),(Nat.zero_add _).symm,by rw [h.2];exact hl,by rw [List.drop_zero,h.2];exact h.1⟩
theorem zq1 (hT:TOk γ T tmps) (hH:HR γ w0 H n w) {t:TypeId} {len cap:Operand} {r:YR} (ho:o.op = .makeSlice t len cap) (h:zMake P T t len cap H n=some r) (hc:r.c=true):Gives P γ w0 w (execOp (opEval tmps) o) r.er.val r.er.H r.er.n:=by
 unfold zMake at h;split at h
 case h_2=>cases h
 rename_i c e cc l hm;rw [bc_eq] at h;split at h
 case isFalse=>cases h
 rename_i hnb;injection h with h;subst h
 obtain ⟨arr,h1,h2,h3,h4⟩:=zlo hT ho hm hc;have h1:l≤arr.size:=h1;have hγn:=hH.fresh n (Nat.le_refl _);refine ⟨γ.upd n (⟨w.heap.size,0⟩,arr.size),w.alloc (.cells arr e),G.upd_le hγn,hH.new hnb (.cells arr e) arr.size (.seq e cc true) rfl rfl rfl rfl (zo0 (h4 _) h1),_,h3 w,?_⟩;exact .slO n 1 l true _ ⟨(fun e=>by cases e),fun _=>⟨⟨w.heap.size,0⟩,arr.size,arr.size,G.upd_same,rfl,h1,by unfold maxLen;omega,.inl (Nat.mul_one _)⟩⟩
def zBuild (P:Program) (T:Tr EV) (t:TypeId) (len:Nat) (parts:Array (Nat×Operand)) (H:Tr EK) (n:Nat):Option YR:=match bsCore P T t len parts with
 | some (e,z,cs)=>match shOf P 6 e with
  | some sh=>match frzL (frzE 6) cs H with
   | some (cf,cs',H1)=>match contC sh len cs' with
    | some c=>bc (Nat.beq sh.length z) (bc (Nat.ble n 65535) (some ⟨cf,⟨some (.slO n z len true),H1.put n (some (.seq e c true)),Nat.succ n⟩⟩) none) none
    | none=>none
   | none=>none
  | none=>none
 | none=>none
theorem znu (hT:TOk γ T tmps) (hH:HR γ w0 H n w) {t:TypeId} {len:Nat} {parts:Array (Nat×Operand)} {r:YR} (ho:o.op = .buildSlice t len parts) (h:zBuild P T t len parts H n=some r) (hc:r.c=true):Gives P γ w0 w (execOp (opEval tmps) o) r.er.val r.er.H r.er.n:=by
 unfold zBuild at h;split at h
 case h_2=>cases h
 rename_i e z cs hb;split at h
 case h_2=>cases h
 rename_i sh hsh;split at h
 case h_2=>cases h
 rename_i cf cs' H1 hf;split at h
 case h_2=>cases h
 rename_i c hcc;rw [bc_eq] at h;split at h
 case isFalse=>cases h
 rename_i hz;rw [bc_eq] at h;split at h
 case isFalse=>cases h
 rename_i hnb;injection h with h;subst h
 obtain ⟨ca,hr,hcs,hs,hl⟩:=zck (γ:=γ) hT ho hb w;obtain ⟨γ1,g1,g2,g3⟩:=zcs (f:=frzE 6) (fun hH ha h hc=>zct hH ha h hc) hH hcs hf hc;obtain ⟨γ2,w2,k1,k2,x,k3,k4⟩:=zbh (P:=P) (a:=.slO n z len true) g2 hnb g3 hr fun γ' e=>.slO n z len true _ ⟨(fun e=>by cases e),fun _=>⟨⟨w.heap.size,0⟩,ca.size,len,e,rfl,Nat.le_refl _,by unfold maxLen;omega,.inl (by rw [hs])⟩⟩;exact ⟨γ2,w2,g1.trans k1,k2.newSeq hnb (zd9 hcc).2.2.2,x,k3,k4⟩
def zEmpty (P:Program) (t:TypeId) (len:Nat) (parts:Array (Nat×Operand)) (H:Tr EK) (n:Nat):Option YR:=match exBS0 P t len parts H n with
 | some _=>match elemInfo P t with
  | some ei=>match shOf P 6 ei.e with
   | some sh=>bc (Nat.ble n 65535) (some ⟨true,⟨some (.slO n ei.z 0 true),H.put n (some (.seq ei.e (mkC sh []) true)),Nat.succ n⟩⟩) none
   | none=>none
  | none=>none
 | none=>none
theorem znr (hH:HR γ w0 H n w) {t:TypeId} {len:Nat} {parts:Array (Nat×Operand)} {r:YR} (ho:o.op = .buildSlice t len parts) (h:zEmpty P t len parts H n=some r):Gives P γ w0 w (execOp (opEval tmps) o) r.er.val r.er.H r.er.n:=by
 unfold zEmpty at h;split at h
 case h_2=>cases h
 rename_i er her;split at h
 case h_2=>cases h
 rename_i ei hei;split at h
 case h_2=>cases h
 rename_i sh hsh;rw [bc_eq] at h;split at h
 case isFalse=>cases h
 rename_i hnb;injection h with h;subst h
 have hg:=zh4 (tmps:=tmps) hH ho her;unfold exBS0 at her;split at her
 case h_2=>cases her
 split at her
 case h_2=>cases her
 split at her
 case h_2=>cases her
 rename_i ei2 hei2;rw [hei] at hei2;injection hei2 with hei2;subst hei2
 rw [bc_eq,if_pos hnb] at her;injection her with her;subst her
 obtain ⟨γ',w',hle,hH2,x,hx,hcx⟩:=hg;have hgn:(H.put n (some (EK.cells ei.e [] true))).get n=some (.cells ei.e [] true):=by rw [Tr.get_put hnb,if_pos rfl]
 obtain ⟨b,m,e1,_,ca,_,_,_,e3,_⟩:=hH2.hp n _ hgn;have e3:=e3 rfl;refine ⟨γ',w',hle,hH2.newSeq hnb fun γ vs hv=>(by rw [zcq];exact hv),x,hx,?_⟩;show EC γ' (.slO n ei.z 0 true) x
 cases hcx with
 | sl _ _ _ _ _ b2 m2 c2 q1 q2 q3 q4 q5 q6=>
  rw [e1] at q1;simp only [Option.some.injEq,Prod.mk.injEq] at q1;obtain ⟨rfl,rfl⟩:=q1;have:=q5 _ rfl;subst this;exact .slO n ei.z 0 true _ ⟨(fun e=>by cases e),fun _=>⟨b,m,0,e1,rfl,q2,q3,.inr rfl⟩⟩
def zCutO (P:Program) (T:Tr EV) (t:TypeId) (x:Operand) (lo hi mx:Option Operand) (H:Tr EK) (n:Nat):Option YR:=match yCut P T t x lo hi mx H n with
 | some r=>match r.er.val with
  | some (.slO i z _ nn)=>match r.er.H.get i with
   | some (.seq _ c _)=>some ⟨r.c,⟨some (.slO i z c.cnt nn),r.er.H,r.er.n⟩⟩
   | _=>none
  | _=>none
 | none=>none
theorem SyC.take_cnt (c:SyC) (k:Nat):(c.take k).cnt=min k c.cnt:=by
 cases c <;> exact List.length_take
theorem zq5 (hT:TOk γ T tmps) (hH:HR γ w0 H n w) {t:TypeId} {x:Operand} {lo hi mx:Option Operand} {r:YR} (ho:o.op = .slice t x lo hi mx) (h:zCutO P T t x lo hi mx H n=some r) (hc:r.c=true):Gives P γ w0 w (execOp (opEval tmps) o) r.er.val r.er.H r.er.n:=by
 unfold zCutO at h;split at h
 case h_2=>cases h
 rename_i r0 hr;split at h
 case h_2=>cases h
 rename_i i z len nn hv;split at h
 case h_2=>cases h
 rename_i ty c nn' hg;injection h with h;subst h
 have hgv:=zuh hT hH ho hr hc;have e:len=c.cnt:=by
  unfold yCut at hr;split at hr
  ·cases hr
  split at hr
  ·cases hr
  split at hr
  ·cases hr
  split at hr
  case h_2=>cases hr
  split at hr
  case h_2=>cases hr
  rename_i c0 _ _;split at hr
  case h_2=>cases hr
  rename_i k hk;split at hr
  case h_2=>cases hr
  rw [bc_eq] at hr;split at hr
  case isFalse=>cases hr
  rw [bc_eq] at hr;split at hr
  case isFalse=>cases hr
  rename_i hi;injection hr with hr;subst hr
  obtain ⟨_,h2⟩:=bcT hc;obtain ⟨h2,h3⟩:=bcT h2;have h2:=Nat.le_of_ble_eq_true h2;have h3:=Nat.eq_of_beq_eq_true h3;injection hv with hv
  injection hv with e1 e2 e3 e4
  subst e1;have hg:(Tr.put H _ _).get _=some (EK.seq ty c nn'):=hg;rw [Tr.get_put hi,if_pos rfl] at hg;injection hg with hg
  injection hg with g1 g2 g3
  rw [← g2,SyC.take_cnt];omega
 rw [hv,e] at hgv;exact hgv
def zAppZ (P:Program) (T:Tr EV) (x y:Operand) (t u:TypeId) (H:Tr EK) (n:Nat):Option YR:=match exVal T x with
 | some (.v (.slice none 0 0))=>match intOf (exVal T y) with
  | some m=>match elemInfo P t with
   | some ei=>match Sx.zeroL P ei.e with
    | some zs=>match shOf P 6 ei.e with
     | some sh=>match zeroRow sh zs with
      | some r0=>bc (isInt P u) (bc (Nat.beq ei.z zs.length) (bc (Nat.ble n 65535) (some ⟨bc (decide (0<m)) (decide (m≤4096)) false,⟨some (.slO n ei.z m.toNat true),H.put n (some (.seq ei.e (mkC sh (List.replicate m.toNat r0)) true)),Nat.succ n⟩⟩) none) none) none
      | none=>none
     | none=>none
    | none=>none
   | none=>none
  | none=>none
 | _=>none
theorem zrd (hT:TOk γ T tmps) (hH:HR γ w0 H n w) {x y:Operand} {t u:TypeId} {r:YR} (ho:o.op = .call { callee:=.builtin .append,args:=#[x,y],argTypes:=#[t,u] }) (h:zAppZ P T x y t u H n=some r) (hc:r.c=true):Gives P γ w0 w (execOp (opEval tmps) o) r.er.val r.er.H r.er.n:=by
 unfold zAppZ at h;split at h
 case h_2=>cases h
 rename_i hx;split at h
 case h_2=>cases h
 rename_i m hy;split at h
 case h_2=>cases h
 rename_i ei hei;split at h
 case h_2=>cases h
 rename_i zs hzs;split at h
 case h_2=>cases h
 rename_i sh hsh;split at h
 case h_2=>cases h
 rename_i r0 hr0;rw [bc_eq] at h;split at h
 case isFalse=>cases h
 rename_i h1;rw [bc_eq] at h;split at h
 case isFalse=>cases h
 rename_i h2;rw [bc_eq] at h;split at h
 case isFalse=>cases h
 rename_i h4;injection h with h;subst h
 have hc:bc (decide (0<m)) (decide (m≤4096)) false=true:=hc;obtain ⟨h5,h6⟩:=bcT hc;have h5:=of_decide_eq_true h5;have h6:=of_decide_eq_true h6;obtain ⟨m,rfl⟩:=Int.eq_ofNat_of_zero_le (show 0≤m by omega);have h2:=Nat.eq_of_beq_eq_true h2;obtain ⟨kn,hkn⟩:=zlr h1;obtain ⟨hu,inf,zv,hi,hz,hsz,hzsz,hpos,hby⟩:=zaj hei;obtain ⟨inf2,zv2,hi2,hz2,hzl⟩:=zb3 hzs;rw [hi] at hi2;injection hi2 with hi2;subst hi2
 rw [hz] at hz2;injection hz2 with hz2;subst hz2
 have hb2:m*inf.bytes≤281474976710656:=Nat.le_trans (Nat.mul_le_mul (show m≤4096 by omega) hby) (by decide);obtain ⟨κ,hyy⟩:=zag hT hy;obtain ⟨γ',w',hle,hH2,v,hv,hcv⟩:=zgz hH ho (ec_v (zaa hT hx)) hyy hu hkn hi hz (by simpa using hzl) hzsz (show 0<m by omega) (by rw [hsz];exact hpos) (show m≤4096 by omega) hb2 h4;exact ⟨γ',w',hle,hH2.newSeq h4 (fun γ vs hvs=>by rw [zcq,Int.toNat_natCast];exact zeroRows hr0 m vs (by rw [← h2];exact hvs)),v,hv,ze3 hcv⟩
def bytesL (s:ByteArray):List Int:=s.data.toList.map fun b=>Int.ofNat b.toNat
def zToB (P:Program) (T:Tr EV) (src dst:TypeId) (x:Operand) (H:Tr EK) (n:Nat):Option YR:=match exVal T x with
 | some (.v (.string s))=>match elemOf P dst with
  | some e=>bc (isStr P src) (bc (isU8 P e) (bc (Nat.ble n 65535) (some ⟨Nat.ble s.size 65536,⟨some (.slO n 1 s.size true),H.put n (some (.seq e (.ints .u8 (bytesL s)) true)),Nat.succ n⟩⟩) none) none) none
  | none=>none
 | _=>none
theorem zt2 (hT:TOk γ T tmps) (hH:HR γ w0 H n w) {src dst:TypeId} {x:Operand} {r:YR} (ho:o.op = .convert src dst x) (h:zToB P T src dst x H n=some r) (hc:r.c=true):Gives P γ w0 w (execOp (opEval tmps) o) r.er.val r.er.H r.er.n:=by
 unfold zToB at h;split at h
 case h_2=>cases h
 rename_i s hx;split at h
 case h_2=>cases h
 rename_i e he;rw [bc_eq] at h;split at h
 case isFalse=>cases h
 rename_i h1;rw [bc_eq] at h;split at h
 case isFalse=>cases h
 rename_i h2;rw [bc_eq] at h;split at h
 case isFalse=>cases h
 rename_i h4;injection h with h;subst h
 have hc:Nat.ble s.size 65536=true:=hc;have hbl:llen (bytesE s)=s.size:=by
  rw [zac];unfold bytesE;rw [List.length_map,Array.length_toList];rfl
 have hex:exToB P T src dst x H n=some ⟨some (.sl n 1 0 (llen (bytesE s)) none),H.put n (some (.cells e (bytesE s) false)),Nat.succ n⟩:=by
  unfold exToB;rw [hx];show (match elemOf P dst with|some e=>_|none=>none)=_
  rw [he];show bc _ _ _=_;rw [bc_eq,if_pos h1,bc_eq,if_pos h2,hbl,bc_eq,if_pos hc,bc_eq,if_pos h4]
 obtain ⟨γ',w',hle,hH2,v,hv,hcv⟩:=zlz hT hH ho hex;rw [hbl] at hcv;refine ⟨γ',w',hle,hH2.newSeq h4 (fun γ vs hvs=>?_),v,hv,ze3 hcv⟩;have:(SyC.ints IntKind.u8 (bytesL s)).enc=bytesE s:=by
  show (bytesL s).map _=_;unfold bytesL bytesE;rw [List.map_map];rfl
 rw [this];exact hvs
def zToBo (P:Program) (T:Tr EV) (o:Oper) (H:Tr EK) (n:Nat):Option YR:=match o.op with
 | .convert src dst x=>zToB P T src dst x H n
 | _=>none
theorem zqt (hT:TOk γ T tmps) (hH:HR γ w0 H n w) {r:YR} (h:zToBo P T o H n=some r) (hc:r.c=true):Gives P γ w0 w (execOp (opEval tmps) o) r.er.val r.er.H r.er.n:=by
 unfold zToBo at h;split at h
 ·rename_i src dst x ho;exact zt2 hT hH ho h hc
 ·cases h
theorem zqu {r:YR} (h:zToBo P T o H n=some r):notDefer o.op=true:=by
 unfold zToBo at h;split at h
 ·rename_i ho;rw [ho];rfl
 ·cases h
def zAppOp (P:Program) (T:Tr EV) (args:List Operand) (ats:List TypeId) (H:Tr EK) (n:Nat):Option YR:=match args with
 | [x,y]=>match ats with
  | [t,u]=>bc (Nat.beq t u) (match exVal T x with
   | some a=>match exVal T y with
    | some b=>zApp P t a b H n
    | none=>none
   | none=>none) (zAppZ P T x y t u H n)
  | _=>none
 | _=>none
def zOwn (P:Program) (T:Tr EV) (o:Oper) (H:Tr EK) (n:Nat):Option YR:=match o.op with
 | .alloc t=>zAlloc P t H n
 | .box t x=>match zStkB P T t x H n with
  | some r=>some r
  | none=>zBox P T t x H n
 | .store t x y=>zStore P T t x y H n
 | .slice t x lo hi mx=>match zCutF P T t x lo hi mx H n with
  | some r=>some r
  | none=>zCutO P T t x lo hi mx H n
 | .makeSlice t len cap=>match zMake P T t len cap H n with
  | some r=>some r
  | none=>match zMakeN P T t len cap H n with
   | some r=>some r
   | none=>zMakeR P T t len cap H n
 | .buildSlice t len parts=>match yEmpty P t len parts H n with
  | some r=>some r
  | none=>match zEmpty P t len parts H n with
   | some r=>some r
   | none=>match zBuildF P T t len parts H n with
    | some r=>some r
    | none=>zBuild P T t len parts H n
 | .call c=>match c.callee with
  | .builtin .append=>zAppOp P T c.args.toList c.argTypes.toList H n
  | .builtin .copy=>zCopy P T c.args.toList c.argTypes.toList H n
  | _=>none
 | _=>none
theorem znk (hT:TOk γ T tmps) (hH:HR γ w0 H n w) {r:YR} (h:zOwn P T o H n=some r) (hc:r.c=true):notDefer o.op=true∧Gives P γ w0 w (execOp (opEval tmps) o) r.er.val r.er.H r.er.n:=by
 unfold zOwn at h;split at h
 ·rename_i t ho;exact ⟨by rw [ho];rfl,znv hH ho h⟩
 ·rename_i t x ho;refine ⟨by rw [ho];rfl,?_⟩;split at h
  ·rename_i r' hr;injection h with h;subst h
   exact zqv hT hH ho hr
  ·exact zuf hT hH ho h
 ·rename_i t x y ho;exact ⟨by rw [ho];rfl,zni hT hH ho h hc⟩
 ·rename_i t x lo hi mx ho;refine ⟨by rw [ho];rfl,?_⟩;split at h
  ·rename_i r' hr;injection h with h;subst h
   exact zq6 hT hH ho hr hc
  ·exact zq5 hT hH ho h hc
 ·rename_i t len cap ho;refine ⟨by rw [ho];rfl,?_⟩;split at h
  ·rename_i r' hr;injection h with h;subst h
   exact zq1 hT hH ho hr hc
  ·split at h
   ·rename_i r' hr;injection h with h;subst h
    exact znm hT hH ho hr hc
   ·exact zih hT hH ho h hc
 ·rename_i t len parts ho;refine ⟨by rw [ho];rfl,?_⟩;split at h
  ·rename_i r' hr;injection h with h;subst h
   exact znx hH ho hr
  ·split at h
   ·rename_i r' hr;injection h with h;subst h
    exact znr hH ho hr
   ·split at h
    ·rename_i r' hr;injection h with h;subst h
     exact zmn hT hH ho hr hc
    ·exact znu hT hH ho h hc
 ·rename_i c ho;refine ⟨by rw [ho];rfl,?_⟩;split at h
  case h_3=>cases h
  case h_2=>
   rename_i hcal;obtain ⟨callee,args,ats⟩:=c;simp only at hcal h;subst hcal;exact zq8 hT hH ho h hc
  rename_i hcal;obtain ⟨callee,args,ats⟩:=c;simp only at hcal h;subst hcal;unfold zAppOp at h;split at h
  case h_2=>cases h
  rename_i x y hargs;split at h
  case h_2=>cases h
  rename_i t u hats;have ha2:args = #[x,y]:=by apply Array.ext';simpa using hargs
  have ha3:ats = #[t,u]:=by apply Array.ext';simpa using hats
  subst ha2;subst ha3;rw [bc_eq] at h;split at h
  case isFalse=>exact zrd hT hH ho h hc
  rename_i htu;have htu:=Nat.eq_of_beq_eq_true htu;subst htu;split at h
  case h_2=>cases h
  rename_i a ha;split at h
  case h_2=>cases h
  rename_i b hb;obtain ⟨γ',w',v',h1,h2,h3,av,h4,h5⟩:=zug (ty:=o.type) hT hH (zaa hT ha) (zaa hT hb) h hc;refine ⟨γ',w',h1,h2,?_⟩;rw [h4];refine ⟨v',?_,h5⟩;simp [execOp,ho,resolve,invoke,builtin,h3]
 ·cases h
end
section
open Go.RowKit
variable {P:Program} {γ γ':G} {w0:Bs} {w:World} {H H':Tr EK} {n n':Nat} {T:Tr EV} {cs:List Frame} {fid:FuncId} {FT:Tr FI} {tmps:Array Value} {o:Oper}
abbrev ZS:=Nat×TypeId×SyC×Bool
structure ZR where
 c:Bool
 a:EV
 K:List ZS
 n:Nat
abbrev ZCT:=List EV→Option ZR
def zseqs (K:List ZS):List (Nat×EK):=K.map fun p=>(p.1,.seq p.2.1 p.2.2.1 p.2.2.2)
def ZCtOk (P:Program) (g:FuncId) (sp:ZCT):Prop:=∀ (γ:G) (w:World) (us:Array Value) (ax:List EV) (r:ZR),sp ax=some r→r.c=true→ECL γ ax us.toList→(∀ i,γ i=none)→FzAt γ w →
 Calls P g us w fun e w'=>∃ γ' x,e = .returned x∧EC γ' r.a x∧HR γ' (Bs.ofG w γ) (mkT (zseqs r.K)) r.n w'
def dataB (k:Nat):EV→Bool:=Nat.rec (fun _=>false) (fun _ ih a=>match a with
 | .v _=>true
 | .lst _=>true
 | .lp _ _ _=>true
 | .arr _=>true
 | .agg l=>allL ih l
 | .tup l=>allL ih l
 | .fn _ l=>allL ih l
 | _=>false) k
theorem EC.data:∀ {k:Nat} {a:EV} {x:Value},dataB k a=true→EC γ a x→(∀ k a,γ.fz k=some a→γ'.fz k=some a)→EC γ' a x
 | 0,a,x,h,_,_=>by cases h
 | k+1,a,x,h,ha,hfz=>by
  cases ha with
  | v x=>exact .v x
  | lst c x hu=>exact .lst c x (hu.mono hfz)
  | lp c j f k off cp hu=>exact .lp c j f k off cp (hu.mono hfz)
  | arr c vs hv=>exact .arr c vs hv
  | agg l vs hl hh=>exact .agg l vs hl fun j b y hb hy=>(hh j b y hb hy).data (zak (show allL (dataB k) l=true from h) b (List.mem_of_getElem? hb)) hfz
  | tup l vs hl hh=>exact .tup l vs hl fun j b y hb hy=>(hh j b y hb hy).data (zak (show allL (dataB k) l=true from h) b (List.mem_of_getElem? hb)) hfz
  | fn f l vs hl hh=>exact .fn f l vs hl fun j b y hb hy=>(hh j b y hb hy).data (zak (show allL (dataB k) l=true from h) b (List.mem_of_getElem? hb)) hfz
  | _=>cases h
def scalB (k:Nat):EV→Bool:=Nat.rec (fun _=>false) (fun _ ih a=>match a with
 | .v _=>true
 | .arr _=>true
 | .agg l=>allL ih l
 | .tup l=>allL ih l
 | _=>false) k
theorem EC.scal:∀ {k:Nat} {a:EV} {x:Value},scalB k a=true→EC γ a x→EC γ' a x
 | 0,a,x,h,_=>by cases h
 | k+1,a,x,h,ha=>by
  cases ha with
  | v x=>exact .v x
  | arr c vs hv=>exact .arr c vs hv
  | agg l vs hl hh=>exact .agg l vs hl fun j b y hb hy=>(hh j b y hb hy).scal (zak (show allL (scalB k) l=true from h) b (List.mem_of_getElem? hb))
  | tup l vs hl hh=>exact .tup l vs hl fun j b y hb hy=>(hh j b y hb hy).scal (zak (show allL (scalB k) l=true from h) b (List.mem_of_getElem? hb))
  | _=>cases h
theorem Sh.ev_data (s:Sh) (u:U):dataB 1 (s.ev u)=true:=by cases s <;> rfl
theorem SyC.enc_fz {c:SyC} {vs:List Value} (h:ECL γ c.enc vs) (hfz:∀ k a,γ.fz k=some a→γ'.fz k=some a):ECL γ' c.enc vs:=by
 refine ⟨h.1,fun j a x ha hx=>(h.2 j a x ha hx).data (k:=1) ?_ hfz⟩;have hm:=List.mem_of_getElem? ha;rw [c.enc_rows] at hm;obtain ⟨r,_,hr⟩:=List.mem_flatMap.1 hm;obtain ⟨f,hf,rfl⟩:=List.getElem_of_mem hr;rw [zas] at hf;have:=zd2 (s:=c.sh[f]) (f:=f) r (List.getElem?_eq_getElem hf);rw [List.getElem?_eq_getElem (by rw [zas];exact hf)] at this;injection this with this
 rw [this];exact Sh.ev_data _ _
def shZ (n k:Nat):EV→Option EV:=Nat.rec (fun _=>none) (fun _ ih a=>match a with
 | .v x=>some (.v x)
 | .lst c=>some (.lst c)
 | .arr c=>some (.arr c)
 | .slO i z len nn=>some (.slO (n+i) z len nn)
 | .tup l=>match mapZ ih l with
  | some l=>some (.tup l)
  | none=>none
 | .agg l=>match mapZ ih l with
  | some l=>some (.agg l)
  | none=>none
 | _=>none) k
where mapZ (f:EV→Option EV) (l:List EV):Option (List EV):=List.rec (some []) (fun a _ ih=>match f a with
 | some x=>match ih with
  | some r=>some (x::r)
  | none=>none
 | none=>none) l
theorem zj5 {f:EV→Option EV}:∀ {l r:List EV},shZ.mapZ f l=some r→r.length=l.length∧∀ (j:Nat) (b:EV),r[j]? = some b→∃ a,l[j]? = some a∧f a=some b
 | [],r,h=>by
  injection (show some []=some r from h) with h;subst h
  exact ⟨rfl,fun j b hb=>by simp at hb⟩
 | a::l,r,h=>by
  have h':(match f a with
   | some x=>match shZ.mapZ f l with
    | some r=>some (x::r)
    | none=>none
   | none=>none)=some r:=h
  split at h'
  case h_2=>cases h'
  rename_i x hx;split at h'
  case h_2=>cases h'
  rename_i r' hr;injection h' with h';subst h'
  obtain ⟨h1,h2⟩:=zj5 hr;refine ⟨by simp [h1],fun j b hb=>?_⟩
  cases j with
  | zero=>simp at hb;subst hb;exact ⟨a,rfl,hx⟩
  | succ j=>obtain ⟨c,h3,h4⟩:=h2 j b (by simpa using hb);exact ⟨c,by simpa using h3,h4⟩
theorem zof {n:Nat}:∀ {k:Nat} {a a':EV} {x:Value},shZ n k a=some a'→EC γ a x→(∀ i,γ' (n+i)=γ i)→(∀ k a,γ.fz k=some a→γ'.fz k=some a)→EC γ' a' x
 | 0,a,a',x,h,_,_,_=>by cases h
 | k+1,a,a',x,h,hc,hγ,hfz=>by
  cases hc with
  | v x=>injection (show some (EV.v x)=some a' from h) with h;subst h;exact .v x
  | lst c x hu=>injection (show some (EV.lst c)=some a' from h) with h;subst h;exact .lst c x (hu.mono hfz)
  | arr c vs hv=>injection (show some (EV.arr c)=some a' from h) with h;subst h;exact .arr c vs hv
  | slO i z len nn x hs=>
   injection (show some (EV.slO (n+i) z len nn)=some a' from h) with h;subst h
   exact .slO (n+i) z len nn x ⟨hs.1,fun q=>let ⟨b,m,c,q1,q2⟩:=hs.2 q;⟨b,m,c,by rw [hγ];exact q1,q2⟩⟩
  | tup l vs hl hh=>
   have h':(match shZ.mapZ (shZ n k) l with
    | some l=>some (EV.tup l)
    | none=>none)=some a':=h
   split at h'
   case h_2=>cases h'
   rename_i r hr;injection h' with h';subst h'
   obtain ⟨g1,g2⟩:=zj5 hr;refine .tup r vs (by omega) fun j b y hb hy=>?_;obtain ⟨b0,g3,g4⟩:=g2 j b hb;exact zof g4 (hh j b0 y g3 hy) hγ hfz
  | agg l vs hl hh=>
   have h':(match shZ.mapZ (shZ n k) l with
    | some l=>some (EV.agg l)
    | none=>none)=some a':=h
   split at h'
   case h_2=>cases h'
   rename_i r hr;injection h' with h';subst h'
   obtain ⟨g1,g2⟩:=zj5 hr;refine .agg r vs (by omega) fun j b y hb hy=>?_;obtain ⟨b0,g3,g4⟩:=g2 j b hb;exact zof g4 (hh j b0 y g3 hy) hγ hfz
  | _=>cases h
def G.behindZ (γ:G) (n:Nat) (γ':G):G:=⟨fun j=>if j<n then γ j else γ' (j-n),γ'.fz,γ.rw⟩
theorem G.behindZ_new (γ:G) (n:Nat) (γ':G) (m:Nat):γ.behindZ n γ' (n+m)=γ' m:=by show (if n+m<n then γ (n+m) else γ' (n+m-n))=_;rw [if_neg (by omega)];congr 1;omega
def putZ (n:Nat) (K:List ZS) (H:Tr EK):Tr EK:=List.rec H (fun p _ ih=>Tr.put ih (n+p.1) (some (.seq p.2.1 p.2.2.1 p.2.2.2))) K
theorem zhh {n:Nat} {H:Tr EK}:∀ {K:List ZS},(∀ p,p∈K→n+p.1≤65535)→∀ {j:Nat} {k:EK},(putZ n K H).get j=some k→(∃ p,p∈K∧j=n+p.1∧k = .seq p.2.1 p.2.2.1 p.2.2.2)∨H.get j=some k
 | [],_,j,k,h=>.inr h
 | p::K,hb,j,k,h=>by
  have h':(Tr.put (putZ n K H) (n+p.1) (some (.seq p.2.1 p.2.2.1 p.2.2.2))).get j=some k:=h;rw [Tr.get_put (Nat.ble_eq_true_of_le (hb p (by simp)))] at h';split at h'
  ·injection h' with h'
   exact .inl ⟨p,by simp,by assumption,h'.symm⟩
  ·rcases zhh (fun q hq=>hb q (by simp [hq])) h' with ⟨q,h1,h2⟩|h1
   ·exact .inl ⟨q,by simp [h1],h2⟩
   ·exact .inr h1
theorem zvg {γ0:G} {H2:Tr EK} {w':World} (hz:γ0.fz=γ.fz) (ha:∀ k a,γ.fz k=some a→∃ (ty:TypeId) (fz:Nat×Nat),w.heap[k]? = some (.cells a ty fz)) (h:HR γ' (Bs.ofG w γ0) H2 n' w'):∀ k a,γ.fz k=some a→γ'.fz k=some a:=fun k a hk=>by
 obtain ⟨a',ha'⟩:=h.fzk.base k (show ∃ a,γ0.fz k=some a from ⟨a,by rw [hz];exact hk⟩);obtain ⟨⟨ty,fz,h1⟩,_,_⟩:=h.fzk.at' k a' ha';obtain ⟨ty2,fz2,h2⟩:=ha k a hk;have hlt:k<w.heap.size:=(Array.getElem?_eq_some_iff.1 h2).1;rw [h.stays.block k hlt] at h1;have h1:w.heap[k]? = some (.cells a' ty fz):=h1;rw [h2] at h1;injection h1 with h1
 injection h1 with h1
 rw [ha',h1]
theorem HR.mergeZ (hH:HR γ w0 H n w) {γ0:G} (hz:γ0.fz=γ.fz) {K:List ZS} {w':World} (h:HR γ' (Bs.ofG w γ0) (mkT (zseqs K)) n' w') (hK:∀ p,p∈K→(mkT (zseqs K)).get p.1=some (.seq p.2.1 p.2.2.1 p.2.2.2)) (hb:∀ p,p∈K→n+p.1≤65535):GLe γ (γ.behindZ n γ')∧HR (γ.behindZ n γ') w0 (putZ n K H) (n+n') w':=by
 have hfz:=zvg hz (fun k a hk=>(hH.fzk.at' k a hk).1) h;have hle0:∀ i p,γ i=some p→(γ.behindZ n γ') i=some p:=fun i p e=>by
  show (if i<n then γ i else γ' (i-n))=some p
  split
  ·exact e
  ·rw [hH.fresh i (by omega)] at e;cases e
 have hle:GLe γ (γ.behindZ n γ'):=⟨hle0,hfz,fun _ _ _ _ h=>h⟩;refine ⟨hle,?_⟩;have old:∀ b:Nat,b<w.heap.size→w'.heap[b]? = w.heap[b]?:=fun b hb=>h.stays.block b hb;have hsz:w.heap.size≤w'.heap.size:=h.stays.size
 have cls:∀ j k,(putZ n K H).get j=some k→k.Nil∨(∃ b m,γ j=some (b,m)∧H.get j=some k∧¬ k.Nil∧(γ.behindZ n γ') j=some (b,m)∧b.k<w.heap.size∧¬ w0.F b.k∧k.ok (γ.behindZ n γ') b m w')∨(∃ q b m,j=n+q∧(mkT (zseqs K)).get q=some k∧¬ k.Nil∧γ' q=some (b,m)∧(γ.behindZ n γ') j=some (b,m)∧w.heap.size≤b.k∧k.ok (γ.behindZ n γ') b m w'):=fun j k hk=>by
  by_cases hn:k.Nil
  ·exact .inl hn
  right;rcases zhh hb hk with ⟨p,hp,rfl,rfl⟩|hk
  ·right;have hg:=hK p hp;obtain ⟨b,m,e1,e2,e3⟩:=h.hp p.1 _ hg hn;obtain ⟨ca,q1,q2,q3,q4⟩:=e3;exact ⟨p.1,b,m,rfl,hg,hn,e1,(G.behindZ_new γ n γ' p.1).trans e1,Nat.le_of_not_lt e2,ca,q1,q2,q3,SyC.enc_fz q4 fun _ _ h=>h⟩
  ·left;obtain ⟨b,m,e1,e2,e3⟩:=hH.hp j k hk hn;exact ⟨b,m,e1,hk,hn,hle _ _ e1,hH.lt j _ e1,e2,EK.ok_mono hle (old _ (hH.lt j _ e1)) e3⟩
 have nst:∀ j k,(putZ n K H).get j=some k→k.nestB=true→H.get j=some k:=fun j k hk hb2=>by
  rcases zhh hb hk with ⟨p,hp,rfl,rfl⟩|hk
  ·cases hb2
  ·exact hk
 refine ⟨fun j k hk=>?_,fun j l kj kl hj hl nj nl hne bj bl ej el=>?_,fun j hj=>?_,fun j hj=>?_,fun j p e=>?_,?_,⟨fun k a hk=>?_,fun k hk=>?_,fun i v q p e=>?_,fun i me ty sh rows v ho nn e=>?_,fun i me ty sh rows v ho nn e j f sh' hj hf hh k m hk=>?_⟩⟩
 ·rcases cls j k hk with h1|⟨b,m,h1,h2,h3,h4,h5,h6,h7⟩|⟨q,b,m,h1,h2,h3,h4,h5,h6,h7⟩
  ·exact .inl h1
  ·exact .inr ⟨b,m,h4,h6,h7⟩
  ·exact .inr ⟨b,m,h5,hH.notF h6,h7⟩
 ·rcases cls j kj hj with h1|⟨b,m,h1,h2,h3,h4,h5,h6,h7⟩|⟨q,b,m,h1,h2,h3,h4,h5,h6,h7⟩
  ·exact absurd h1 nj
  ·rw [h4] at ej;injection ej with ej;subst ej
   rcases cls l kl hl with g1|⟨b',m',g1,g2,g3,g4,g5,g6,g7⟩|⟨q',b',m',g1,g2,g3,g4,g5,g6,g7⟩
   ·exact absurd g1 nl
   ·rw [g4] at el;injection el with el;subst el
    exact hH.inj0 j l kj kl h2 g2 h3 g3 hne _ _ h1 g1
   ·rw [g5] at el;injection el with el;subst el
    show b.k≠b'.k;omega
  ·rw [h5] at ej;injection ej with ej;subst ej
   rcases cls l kl hl with g1|⟨b',m',g1,g2,g3,g4,g5,g6,g7⟩|⟨q',b',m',g1,g2,g3,g4,g5,g6,g7⟩
   ·exact absurd g1 nl
   ·rw [g4] at el;injection el with el;subst el
    show b.k≠b'.k;omega
   ·rw [g5] at el;injection el with el;subst el
    exact h.inj0 q q' kj kl h2 g2 h3 g3 (fun e=>hne (by omega)) _ _ h4 g4
 ·show (if j<n then γ j else γ' (j-n))=none
  rw [if_neg (by omega)];exact h.fresh _ (by omega)
 ·obtain ⟨r1,r2⟩:=hH.rsv j hj;exact ⟨by show (if j<n then γ j else γ' (j-n))=none;rw [if_pos r2];exact r1,by omega⟩
 ·have e:(if j<n then γ j else γ' (j-n))=some p:=e
  split at e
  ·have:=hH.lt j p e;omega
  ·exact h.lt _ p e
 ·refine ⟨h.stays.os.trans hH.stays.os,h.stays.tape.trans hH.stays.tape,h.stays.output.trans hH.stays.output,by have:=hH.stays.size;omega,fun k hk=>?_⟩;have:=hH.stays.size;have:=w0.lt k hk;rw [old k (by omega)];exact hH.stays.block k hk
 ·have hk:γ'.fz k=some a:=hk;obtain ⟨g1,g2,g3⟩:=h.fzk.at' k a hk;have side:(∃ a',γ.fz k=some a')∨w.heap.size≤k:=g2.imp (fun ⟨a',e⟩=>⟨a',by rw [← hz];exact e⟩) fun e=>Nat.le_of_not_lt e;refine ⟨g1,?_,fun j kj b m hj nj ej=>?_⟩
  ·rcases side with ⟨a',e⟩|e
   ·exact (hH.fzk.at' k a' e).2.1
   ·exact .inr (hH.notF e)
  ·rcases cls j kj hj with h1|⟨b',m',h1,h2,h3,h4,h5,h6,h7⟩|⟨q,b',m',h1,h2,h3,h4,h5,h6,h7⟩
   ·exact absurd h1 nj
   ·rw [h4] at ej;injection ej with ej;injection ej with e1 e2;subst e1
    rcases side with ⟨a',e⟩|e
    ·exact (hH.fzk.at' k a' e).2.2 j kj _ _ h2 h3 h1
    ·omega
   ·rw [h5] at ej;injection ej with ej;injection ej with e1 e2;subst e1
    exact g3 q kj _ _ h2 h3 h4
 ·obtain ⟨a,ha⟩:=hH.fzk.base k hk;exact ⟨a,hfz k a ha⟩
 ·obtain ⟨b,hb⟩:=hH.fzk.nst.rwg i v q p e;exact ⟨b,hle0 _ _ hb⟩
 ·exact hH.fzk.nst.me i me ty sh rows v ho nn (nst i _ e rfl)
 ·obtain ⟨q1,q2,q3,q4,arr,ty3,q5,q6,q7⟩:=hH.fzk.nst.at' i me ty sh rows v ho nn (nst i _ e rfl) j f sh' hj hf hh k m hk;have hkl:=q5.lt;refine ⟨q1,?_,fun i' ki b m' hi' ni ei=>?_,fun i2 me2 ty2 sh2 rows2 v2 ho2 nn2 e2=>q4 i2 me2 ty2 sh2 rows2 v2 ho2 nn2 (nst i2 _ e2 rfl),arr,ty3,q5.mono (old k hkl),q6,fun a g s ha hs=>let ⟨x,hx,hc⟩:=q7 a g s ha hs;⟨x,hx,hc.mono hle⟩⟩
  ·cases e3:γ'.fz k with
   | none=>exact e3
   | some a=>
    rcases (h.fzk.at' k a e3).2.1 with ⟨a',e4⟩|e4
    ·rw [hz,q2] at e4;cases e4
    ·exact absurd hkl e4
  ·rcases cls i' ki hi' with h1|⟨b',m2,h1,h2,h3,h4,h5,h6,h7⟩|⟨q,b',m2,h1,h2,h3,h4,h5,h6,h7⟩
   ·exact absurd h1 ni
   ·rw [h4] at ei;injection ei with ei;injection ei with e1 e2;subst e1
    exact q3 i' ki _ _ h2 h3 h1
   ·rw [h5] at ei;injection ei with ei;injection ei with e1 e2;subst e1
    omega
theorem HR.after (hH:HR γ w0 H n w) {w':World} (h:Stays w w'):HR γ w0 H n w':=by
 refine ⟨fun i k hk=>(hH.hp0 i k hk).imp id fun ⟨b,m,h1,h2,h3⟩=>⟨b,m,h1,h2,EK.ok_mono (GLe.refl _) (h.block _ (hH.lt i _ h1)) h3⟩,hH.inj0,hH.fresh,hH.rsv,fun i p e=>Nat.lt_of_lt_of_le (hH.lt i p e) h.size,
  ⟨h.os.trans hH.stays.os,h.tape.trans hH.stays.tape,h.output.trans hH.stays.output,Nat.le_trans hH.stays.size h.size,fun k hk=>(h.block k (Nat.lt_of_lt_of_le (w0.lt k hk) hH.stays.size)).trans (hH.stays.block k hk)⟩,⟨fun k a hk=>?_,hH.fzk.base,hH.fzk.nst.rwg,hH.fzk.nst.me,fun i me ty sh rows v ho nn e j f sh' hj hf hh k m hk=>let ⟨q1,q2,q3,q4,arr,ty3,q5,q6,q7⟩:=hH.fzk.nst.at' i me ty sh rows v ho nn e j f sh' hj hf hh k m hk;⟨q1,q2,q3,q4,arr,ty3,q5.mono (h.block k q5.lt),q6,q7⟩⟩⟩
 obtain ⟨⟨ty,fz,h1⟩,h2,h3⟩:=hH.fzk.at' k a hk;exact ⟨⟨ty,fz,(h.block k (Array.getElem?_eq_some_iff.1 h1).1).trans h1⟩,h2,h3⟩
def zCallQ (sp:ZCT) (ax:List EV) (H:Tr EK):Option (Bool×EV):=match frzL (frzE 6) ax H with
 | some (cf,ax',_)=>bc (allL (dataB 6) ax') (match sp ax' with
  | some r=>bc (scalB 4 r.a) (some (bc cf r.c false,r.a)) none
  | none=>none) none
 | none=>none
def oneZ (n:Nat) (K:List ZS):Bool:=match K with
 | []=>true
 | [p]=>Nat.ble (n+p.1) 65535
 | _=>false
def zCallL (sp:ZCT) (ax:List EV) (H:Tr EK) (n:Nat):Option (Bool×EV×Tr EK×Nat):=match frzL (frzE 6) ax H with
 | some (cf,ax',H1)=>bc (allL (dataB 6) ax') (match sp ax' with
  | some r=>match shZ n 6 r.a with
   | some a=>bc (oneZ n r.K) (some (bc cf r.c false,a,putZ n r.K H1,n+r.n)) none
   | none=>none
  | none=>none) none
 | none=>none
theorem zu5 {n:Nat} {K:List ZS} (h:oneZ n K=true):(∀ p,p∈K→(mkT (zseqs K)).get p.1=some (.seq p.2.1 p.2.2.1 p.2.2.2))∧∀ p,p∈K→n+p.1≤65535:=by
 cases K with
 | nil=>exact ⟨fun p hp=>by simp at hp,fun p hp=>by simp at hp⟩
 | cons p1 K=>
  cases K with
  | cons p2 K=>cases h
  | nil=>
   have hone:=Nat.le_of_ble_eq_true (show Nat.ble (n+p1.1) 65535=true from h)
   refine ⟨fun p hp=>?_,fun p hp=>by simp at hp;subst hp;exact hone⟩;simp at hp;subst hp;have h9:Nat.ble p.1 65535=true:=Nat.ble_eq_true_of_le (by omega);show (bc (Nat.ble p.1 65535) (Tr.put .nil p.1 (some (EK.seq p.2.1 p.2.2.1 p.2.2.2))) .nil).get p.1=_;rw [bc_eq,if_pos h9,Tr.get_put h9,if_pos rfl]
def G.dat (γ:G):G:=⟨fun _=>none,γ.fz,fun _ _ _=>none⟩
theorem ECL.dat {ax:List EV} {us:List Value} (h:allL (dataB 6) ax=true) (ha:ECL γ ax us):ECL γ.dat ax us:=⟨ha.1,fun j a x h1 h2=>(ha.2 j a x h1 h2).data (zak h a (List.mem_of_getElem? h1)) fun _ _ h=>h⟩
theorem zij {g:FuncId} {sp:ZCT} (hsp:ZCtOk P g sp) (hH:HR γ w0 H n w) {ax:List EV} {us:Array Value} (ha:ECL γ ax us.toList) {r:Bool×EV} (h:zCallQ sp ax H=some r) (hc:r.1=true):Calls P g us w fun e w'=>∃ γ' x,GLe γ γ'∧HR γ' w0 H n w'∧EC γ' r.2 x∧e = .returned x:=by
 unfold zCallQ at h;split at h
 case h_2=>cases h
 rename_i cf ax' H1 hf;rw [bc_eq] at h;split at h
 case isFalse=>cases h
 rename_i hd;split at h
 case h_2=>cases h
 rename_i q hq;rw [bc_eq] at h;split at h
 case isFalse=>cases h
 rename_i hs;injection h with h;subst h
 obtain ⟨k1,k2⟩:=bcT hc;obtain ⟨γ1,g1,g2,g3⟩:=zcs (f:=frzE 6) (fun hH ha h hc=>zct hH ha h hc) hH ha hf k1;refine (hsp γ1.dat w us ax' q hq k2 (g3.dat hd) (fun _=>rfl) g2.fzAt).mono ?_
 rintro e w' ⟨γ',x,rfl,p1,p2⟩
 have hst:Stays w w':=⟨p2.stays.os,p2.stays.tape,p2.stays.output,p2.stays.size,p2.stays.block⟩;exact ⟨γ,x,GLe.refl γ,hH.after hst,p1.scal hs,rfl⟩
theorem znt {g:FuncId} {sp:ZCT} (hsp:ZCtOk P g sp) (hH:HR γ w0 H n w) {ax:List EV} {us:Array Value} (ha:ECL γ ax us.toList) {r:Bool×EV×Tr EK×Nat} (h:zCallL sp ax H n=some r) (hc:r.1=true):Calls P g us w fun e w'=>∃ γ' x,GLe γ γ'∧HR γ' w0 r.2.2.1 r.2.2.2 w'∧EC γ' r.2.1 x∧e = .returned x:=by
 unfold zCallL at h;split at h
 case h_2=>cases h
 rename_i cf ax' H1 hf;rw [bc_eq] at h;split at h
 case isFalse=>cases h
 rename_i hd;split at h
 case h_2=>cases h
 rename_i q hq;split at h
 case h_2=>cases h
 rename_i a hsh;rw [bc_eq] at h;split at h
 case isFalse=>cases h
 rename_i hone;injection h with h;subst h
 obtain ⟨k1,k2⟩:=bcT hc;obtain ⟨γ1,g1,g2,g3⟩:=zcs (f:=frzE 6) (fun hH ha h hc=>zct hH ha h hc) hH ha hf k1;refine (hsp γ1.dat w us ax' q hq k2 (g3.dat hd) (fun _=>rfl) g2.fzAt).mono ?_
 rintro e w' ⟨γ',x,rfl,p1,p2⟩
 obtain ⟨o1,o2⟩:=zu5 hone;obtain ⟨m1,m2⟩:=g2.mergeZ (γ0:=γ1.dat) rfl p2 o1 o2;exact ⟨γ1.behindZ n γ',x,g1.trans m1,m2,zof hsh p1 (fun i=>G.behindZ_new γ1 n γ' i) fun _ _ h=>h,rfl⟩
end
section
open Go.RowKit
variable {P:Program} {γ γ':G} {w0:Bs} {w:World} {H H':Tr EK} {n n':Nat} {T:Tr EV} {cs:List Frame} {fid:FuncId} {FT:Tr FI} {tmps:Array Value} {o:Oper} {α:Type}
def lookN (ρ:List (Nat×Nat)) (i:Nat):Option Nat:=List.rec none (fun p _ ih=>bc (Nat.beq p.1 i) (some p.2) ih) ρ
def invN (ρ:List (Nat×Nat)) (j:Nat):Option Nat:=List.rec none (fun p _ ih=>bc (Nat.beq p.2 j) (some p.1) ih) ρ
theorem zc3 {i j:Nat}:∀ {ρ:List (Nat×Nat)},lookN ρ i=some j→(i,j)∈ρ
 | [],h=>by cases h
 | p::ρ,h=>by
  have h':bc (Nat.beq p.1 i) (some p.2) (lookN ρ i)=some j:=h;rw [bc_eq] at h';split at h'
  ·rename_i e;have e:=Nat.eq_of_beq_eq_true e;injection h' with h';subst e;subst h';simp
  ·simp [zc3 h']
theorem zdh {i j:Nat}:∀ {ρ:List (Nat×Nat)},invN ρ j=some i→(i,j)∈ρ
 | [],h=>by cases h
 | p::ρ,h=>by
  have h':bc (Nat.beq p.2 j) (some p.1) (invN ρ j)=some i:=h;rw [bc_eq] at h';split at h'
  ·rename_i e;have e:=Nat.eq_of_beq_eq_true e;injection h' with h';subst e;subst h';simp
  ·simp [zdh h']
def isSomeN (x:Option Nat) (i:Nat):Bool:=match x with
 | some j=>Nat.beq i j
 | none=>false
theorem zbc {x:Option Nat} {i:Nat} (h:isSomeN x i=true):x=some i:=by
 unfold isSomeN at h;split at h
 ·rw [Nat.eq_of_beq_eq_true h]
 ·cases h
def okN (ρ:List (Nat×Nat)) (N:Nat):Bool:=allL (fun p=>bc (isSomeN (invN ρ p.2) p.1) (bc (isSomeN (lookN ρ p.1) p.2) (Nat.blt p.2 N) false) false) ρ
theorem zgl {ρ:List (Nat×Nat)} {N:Nat} (h:okN ρ N=true) {i j:Nat} (hm:(i,j)∈ρ):invN ρ j=some i∧lookN ρ i=some j∧j<N:=by
 have:=zak h (i,j) hm;rw [bc_eq,bc_eq] at this;split at this
 case isFalse=>cases this
 rename_i h1;split at this
 case isFalse=>cases this
 rename_i h2;exact ⟨zbc h1,zbc h2,zad this⟩
def G.ren (γ:G) (ρ:List (Nat×Nat)):G:=⟨fun j=>(invN ρ j).bind γ,γ.fz,fun j v q=>(invN ρ j).bind fun i=>γ.rw i v q⟩
theorem G.ren_look {ρ:List (Nat×Nat)} {N:Nat} (hρ:okN ρ N=true) {i j:Nat} (h:lookN ρ i=some j):γ.ren ρ j=γ i:=by
 show (invN ρ j).bind γ=γ i;rw [(zgl hρ (zc3 h)).1];rfl
theorem G.ren_rwL {ρ:List (Nat×Nat)} {N:Nat} (hρ:okN ρ N=true) {i j:Nat} (h:lookN ρ i=some j) (v q:Nat):(γ.ren ρ).rw j v q=γ.rw i v q:=by
 show ((invN ρ j).bind fun i=>γ.rw i v q)=γ.rw i v q;rw [(zgl hρ (zc3 h)).1];rfl
theorem G.ren_rw {ρ:List (Nat×Nat)} (h:∀ i v q p,γ.rw i v q=some p→∃ b,γ i=some b) {j v q:Nat} {p:Nat×Nat×Nat} (e:(γ.ren ρ).rw j v q=some p):∃ b,γ.ren ρ j=some b:=by
 have e:((invN ρ j).bind fun i=>γ.rw i v q)=some p:=e;show ∃ b,(invN ρ j).bind γ=some b
 cases hi:invN ρ j with
 | none=>rw [hi] at e;cases e
 | some i=>rw [hi] at e;exact h i v q p e
theorem G.ren_some {ρ:List (Nat×Nat)} {j:Nat} {p:Pl×Nat} (h:γ.ren ρ j=some p):∃ i,(i,j)∈ρ∧γ i=some p:=by
 have h:(invN ρ j).bind γ=some p:=h
 cases hi:invN ρ j with
 | none=>rw [hi] at h;cases h
 | some i=>rw [hi] at h;exact ⟨i,zdh hi,h⟩
def mapO {β:Type} (f:EV→Option β) (l:List EV):Option (List β):=List.rec (some []) (fun a _ ih=>match f a with
 | some x=>match ih with
  | some r=>some (x::r)
  | none=>none
 | none=>none) l
theorem zeh {β:Type} {f:EV→Option β}:∀ {l:List EV} {r:List β},mapO f l=some r→r.length=l.length∧∀ (j:Nat) (b:β),r[j]? = some b→∃ a,l[j]? = some a∧f a=some b
 | [],r,h=>by
  have h':some []=some r:=h;injection h' with h';subst h'
  exact ⟨rfl,fun j b hb=>by simp at hb⟩
 | a::l,r,h=>by
  have h':(match f a with
   | some x=>match mapO f l with
    | some r=>some (x::r)
    | none=>none
   | none=>none)=some r:=h
  split at h'
  case h_2=>cases h'
  rename_i x hx;split at h'
  case h_2=>cases h'
  rename_i r' hr;injection h' with h';subst h'
  obtain ⟨h1,h2⟩:=zeh hr;refine ⟨by simp [h1],fun j b hb=>?_⟩
  cases j with
  | zero=>simp at hb;subst hb;exact ⟨a,rfl,hx⟩
  | succ j=>obtain ⟨c,h3,h4⟩:=h2 j b (by simpa using hb);exact ⟨c,by simpa using h3,h4⟩
def withN (x:Option Nat) (f:Nat→EV):Option EV:=match x with
 | some j=>some (f j)
 | none=>none
def withL (x:Option (List EV)) (f:List EV→EV):Option EV:=match x with
 | some l=>some (f l)
 | none=>none
def renE (ρ:List (Nat×Nat)) (k:Nat):EV→Option EV:=Nat.rec (fun _=>none) (fun _ ih a=>match a with
 | .v x=>some (.v x)
 | .ptr i off=>withN (lookN ρ i) fun j=>.ptr j off
 | .sl i z off len cap=>withN (lookN ρ i) fun j=>.sl j z off len cap
 | .slE i z off=>withN (lookN ρ i) fun j=>.slE j z off
 | .slO i z len nn=>withN (lookN ρ i) fun j=>.slO j z len nn
 | .agg l=>withL (mapO ih l) .agg
 | .tup l=>withL (mapO ih l) .tup
 | .fn f l=>withL (mapO ih l) (.fn f)
 | .mt f l=>withL (mapO ih l) (.mt f)
 | .yl i=>withN (lookN ρ i) .yl
 | .mp i=>withN (lookN ρ i) .mp
 | .lst c=>some (.lst c)
 | .lp c j f=>some (.lp c j f)
 | .ptrE i z j f=>withN (lookN ρ i) fun i'=>.ptrE i' z j f
 | .row i v j f y z len=>withN (lookN ρ i) fun i'=>.row i' v j f y z len
 | .prow i v j f y z a g=>withN (lookN ρ i) fun i'=>.prow i' v j f y z a g
 | .slX i z off len=>withN (lookN ρ i) fun i'=>.slX i' z off len
 | .arr c=>some (.arr c)) k
theorem zar {x:Option Nat} {f:Nat→EV} {a:EV} (h:withN x f=some a):∃ j,x=some j∧a=f j:=by
 unfold withN at h;split at h
 ·injection h with h;exact ⟨_,rfl,h.symm⟩
 ·cases h
theorem zb7 {x:Option (List EV)} {f:List EV→EV} {a:EV} (h:withL x f=some a):∃ l,x=some l∧a=f l:=by
 unfold withL at h;split at h
 ·injection h with h;exact ⟨_,rfl,h.symm⟩
 ·cases h
theorem EC.ren {ρ:List (Nat×Nat)} {N:Nat} (hρ:okN ρ N=true):∀ {k:Nat} {a a':EV} {x:Value},renE ρ k a=some a'→EC γ a x→EC (γ.ren ρ) a' x
 | 0,a,a',x,h,_=>by cases h
 | k+1,a,a',x,h,hc=>by
  have key:∀ (l r:List EV) (vs:List Value),mapO (renE ρ k) l=some r→l.length=vs.length→(∀ (j:Nat) (a:EV) (x:Value),l[j]? = some a→vs[j]? = some x→EC γ a x)→r.length=vs.length∧∀ (j:Nat) (a:EV) (x:Value),r[j]? = some a→vs[j]? = some x→EC (γ.ren ρ) a x:=fun l r vs hm hl hh=>by
   obtain ⟨h1,h2⟩:=zeh hm;refine ⟨by omega,fun j a x ha hx=>?_⟩;obtain ⟨b,h3,h4⟩:=h2 j a ha;exact EC.ren hρ h4 (hh j b x h3 hx)
  cases hc with
  | v x=>injection (show some (EV.v x)=some a' from h) with h;subst h;exact .v x
  | lst c x hs=>injection (show some (EV.lst c)=some a' from h) with h;subst h;exact .lst c x hs
  | lp c j f k off cp hs=>injection (show some (EV.lp c j f)=some a' from h) with h;subst h;exact .lp c j f k off cp hs
  | arr c vs hv=>injection (show some (EV.arr c)=some a' from h) with h;subst h;exact .arr c vs hv
  | ptrE i z j f b n hi=>
   obtain ⟨i',h1,rfl⟩:=zar (show withN (lookN ρ i) (fun i'=>.ptrE i' z j f)=some a' from h);exact .ptrE i' z j f b n (by rw [G.ren_look hρ h1];exact hi)
  | row i v j f y z len x hs=>
   obtain ⟨i',h1,rfl⟩:=zar (show withN (lookN ρ i) (fun i'=>.row i' v j f y z len)=some a' from h);refine .row i' v j f y z len x ?_;rw [G.ren_rwL hρ h1];exact hs
  | prow i v j f y z a g k m hs=>
   obtain ⟨i',h1,rfl⟩:=zar (show withN (lookN ρ i) (fun i'=>.prow i' v j f y z a g)=some a' from h);exact .prow i' v j f y z a g k m (by rw [G.ren_rwL hρ h1];exact hs)
  | slX i z off len b n c off' hi hl hm hn ho=>
   obtain ⟨i',h1,rfl⟩:=zar (show withN (lookN ρ i) (fun i'=>.slX i' z off len)=some a' from h);exact .slX i' z off len b n c off' (by rw [G.ren_look hρ h1];exact hi) hl hm hn ho
  | ptr i off b n hi=>
   obtain ⟨j,h1,rfl⟩:=zar (show withN (lookN ρ i) (fun j=>.ptr j off)=some a' from h);exact .ptr j off b n (by rw [G.ren_look hρ h1];exact hi)
  | sl i z off len cap b n c hi hl hm hn hcc hu=>
   obtain ⟨j,h1,rfl⟩:=zar (show withN (lookN ρ i) (fun j=>.sl j z off len cap)=some a' from h);exact .sl j z off len cap b n c (by rw [G.ren_look hρ h1];exact hi) hl hm hn hcc hu
  | slE i z off b n c off' hi hm hn=>
   obtain ⟨j,h1,rfl⟩:=zar (show withN (lookN ρ i) (fun j=>.slE j z off)=some a' from h);exact .slE j z off b n c off' (by rw [G.ren_look hρ h1];exact hi) hm hn
  | slO i z len nn x hs=>
   obtain ⟨j,h1,rfl⟩:=zar (show withN (lookN ρ i) (fun j=>.slO j z len nn)=some a' from h);exact .slO j z len nn x ⟨hs.1,fun e=>let ⟨b,m,c,q1,q2⟩:=hs.2 e;⟨b,m,c,by rw [G.ren_look hρ h1];exact q1,q2⟩⟩
  | agg l vs hl hh=>
   obtain ⟨r,h1,rfl⟩:=zb7 (show withL (mapO (renE ρ k) l) .agg=some a' from h);obtain ⟨q1,q2⟩:=key l r vs h1 hl hh;exact .agg r vs q1 q2
  | tup l vs hl hh=>
   obtain ⟨r,h1,rfl⟩:=zb7 (show withL (mapO (renE ρ k) l) .tup=some a' from h);obtain ⟨q1,q2⟩:=key l r vs h1 hl hh;exact .tup r vs q1 q2
  | fn f l vs hl hh=>
   obtain ⟨r,h1,rfl⟩:=zb7 (show withL (mapO (renE ρ k) l) (.fn f)=some a' from h);obtain ⟨q1,q2⟩:=key l r vs h1 hl hh;exact .fn f r vs q1 q2
  | mt f l vs hl hh=>
   obtain ⟨r,h1,rfl⟩:=zb7 (show withL (mapO (renE ρ k) l) (.mt f)=some a' from h);obtain ⟨q1,q2⟩:=key l r vs h1 hl hh;exact .mt f r vs q1 q2
  | yl i b n hi=>
   obtain ⟨j,h1,rfl⟩:=zar (show withN (lookN ρ i) .yl=some a' from h);exact .yl j b n (by rw [G.ren_look hρ h1];exact hi)
  | mp i b n hi=>
   obtain ⟨j,h1,rfl⟩:=zar (show withN (lookN ρ i) .mp=some a' from h);exact .mp j b n (by rw [G.ren_look hρ h1];exact hi)
theorem ev_fz {γ γ':G} {s:Sh} {u:U} {x:Value} (h:EC γ (s.ev u) x) (hfz:∀ k a,γ.fz k=some a→γ'.fz k=some a):EC γ' (s.ev u) x:=by
 cases s with
 | list sh=>cases h with|lst _ _ h=>exact .lst _ _ (h.mono hfz)
 | int k=>cases h with|v=>exact .v _
 | bool=>cases h with|v=>exact .v _
 | str=>cases h with|v=>exact .v _
def renS (ρ:List (Nat×Nat)) (c:Option (Nat×Nat)) (a:EV):Option EV:=match c with
 | none=>renE ρ 8 a
 | some (j,z)=>match a with
  | .v (.slice none 0 0)=>some (.slO j z 0 false)
  | a=>renE ρ 8 a
theorem zom {ρ:List (Nat×Nat)} {N:Nat} (hρ:okN ρ N=true) {c:Option (Nat×Nat)} {a a':EV} {x:Value} (h:renS ρ c a=some a') (hc:EC γ a x):EC (γ.ren ρ) a' x:=by
 unfold renS at h;split at h
 ·exact EC.ren hρ h hc
 ·split at h
  ·injection h with h;subst h
   rw [ec_v hc];exact .slO _ _ 0 false _ ⟨fun _=>⟨rfl,rfl⟩,fun e=>by cases e⟩
  ·exact EC.ren hρ h hc
abbrev SL:=List (Nat×Option (Nat×Nat))
def pickS (ρ:List (Nat×Nat)) (T:Tr EV) (l:SL):Option (List (Nat×EV)):=List.rec (some []) (fun q _ ih=>match T.get q.1 with
 | some a=>match renS ρ q.2 a with
  | some a'=>match ih with
   | some r=>some ((q.1,a')::r)
   | none=>none
  | none=>none
 | none=>none) l
theorem zhl {ρ:List (Nat×Nat)} {T:Tr EV}:∀ {l:SL} {r:List (Nat×EV)},pickS ρ T l=some r→∀ s a',(s,a')∈r→∃ c a,T.get s=some a∧renS ρ c a=some a'
 | [],r,h,s,a',hm=>by
  have h':some []=some r:=h;injection h' with h';subst h';simp at hm
 | q::l,r,h,s,a',hm=>by
  have h':(match T.get q.1 with
   | some a=>match renS ρ q.2 a with
    | some a'=>match pickS ρ T l with
     | some r=>some ((q.1,a')::r)
     | none=>none
    | none=>none
   | none=>none)=some r:=h
  split at h'
  case h_2=>cases h'
  rename_i a ha;split at h'
  case h_2=>cases h'
  rename_i a2 ha2;split at h'
  case h_2=>cases h'
  rename_i r' hr;injection h' with h';subst h'
  rcases List.mem_cons.1 hm with e|hm
  ·injection e with e1 e2;subst e1;subst e2;exact ⟨q.2,a,ha,ha2⟩
  ·exact zhl hr s a' hm
def renK (ρ:List (Nat×Nat)) (lk:List Nat) (k:EK):Option EK:=match k with
 | .seq ty c nn=>some (.seq ty c nn)
 | .cells ty l full=>match mapO (renE ρ 8) l with
  | some r=>some (.cells ty r full)
  | none=>none
 | .loop st pend fn N T ps ax bd dd=>match pickS ρ T (lk.map fun s=>(s,none)) with
  | some r=>match lookN ρ dd with
   | some d=>some (.loop st pend fn N (mkT r) ps ax bd d)
   | none=>none
  | none=>none
 | .dfr op=>some (.dfr op)
 | .nest me ty sh rows v ho nn=>match lookN ρ me with
  | some me'=>some (.nest me' ty sh rows v ho nn)
  | none=>none
 | .mpo es=>some (.mpo es)
 | .mbox j=>match lookN ρ j with
  | some j'=>some (.mbox j')
  | none=>none
 | _=>none
theorem zfj {ρ:List (Nat×Nat)} {lk:List Nat} {k:EK} {me:Nat} {ty:TypeId×List TypeId} {sh:List Sh} {rows:List (List U)} {v:Nat} {ho:List (Nat×Nat)} {nn:Bool} (h:renK ρ lk k=some (.nest me ty sh rows v ho nn)):∃ me0,k = .nest me0 ty sh rows v ho nn∧lookN ρ me0=some me:=by
 unfold renK at h;split at h
 ·injection h with h;cases h
 ·split at h
  ·injection h with h;cases h
  ·cases h
 ·split at h
  ·split at h
   ·injection h with h;cases h
   ·cases h
  ·cases h
 ·injection h with h;cases h
 ·split at h
  ·rename_i hl;injection h with h
   injection h with h1 h2 h3 h4 h5 h6 h7
   subst h1;subst h2;subst h3;subst h4;subst h5;subst h6;subst h7;exact ⟨_,rfl,hl⟩
  ·cases h
 ·injection h with h;cases h
 ·split at h
  ·injection h with h;cases h
  ·cases h
 ·cases h
theorem CellN.ren {ρ:List (Nat×Nat)} {N:Nat} (hρ:okN ρ N=true) {me me' v q:Nat} (hm:lookN ρ me=some me') {s:Sh} {u:U} {x:Value} (h:CellN γ me v q s u x):CellN (γ.ren ρ) me' v q s u x:=by
 cases s with
 | list sh=>
  rcases h with ⟨h1,h2⟩|⟨k,m,c,h1,h2⟩
  ·exact .inl ⟨trivial,h2⟩
  ·exact .inr ⟨k,m,c,(G.ren_rwL hρ hm v q).trans h1,h2⟩
 | int k=>exact ev_fz h fun _ _ h=>h
 | bool=>exact ev_fz h fun _ _ h=>h
 | str=>exact ev_fz h fun _ _ h=>h
theorem zuy {ρ:List (Nat×Nat)} {N:Nat} (hρ:okN ρ N=true) {lk:List Nat} {k k':EK} {b:Pl} {m:Nat} (h:renK ρ lk k=some k') (hk:k.ok γ b m w):k'.ok (γ.ren ρ) b m w:=by
 unfold renK at h;split at h
 ·injection h with h;subst h
  obtain ⟨c,h1,h2,h3,h4⟩:=hk;exact ⟨c,h1,h2,h3,SyC.enc_fz h4 fun _ _ h=>h⟩
 ·rename_i ty l full;split at h
  case h_2=>cases h
  rename_i r hr;injection h with h;subst h
  obtain ⟨c,h1,h2,h3,h4,h5⟩:=hk;obtain ⟨q1,q2⟩:=zeh hr;refine ⟨c,h1,h2,by omega,fun e=>by rw [q1];exact h4 e,?_⟩;rw [q1];refine ⟨by rw [q1];exact h5.1,fun j a x ha hx=>?_⟩;obtain ⟨a0,h6,h7⟩:=q2 j a ha;exact EC.ren hρ h7 (h5.2 j a0 x h6 hx)
 ·split at h
  case h_2=>cases h
  rename_i r hr;split at h
  case h_2=>cases h
  rename_i d hd;injection h with h;subst h
  obtain ⟨tmps,dd,m2,h1,h2,h3,h4⟩:=hk;refine ⟨tmps,dd,m2,h1,h2,fun sl a hs=>?_,by rw [G.ren_look hρ hd];exact h4⟩;obtain ⟨c,a0,q1,q2⟩:=zhl hr sl a (zcp hs);obtain ⟨x,hx,hc⟩:=h3 sl a0 q1;exact ⟨x,hx,zom hρ q2 hc⟩
 ·injection h with h;subst h;exact hk
 ·split at h
  case h_2=>cases h
  rename_i me' hme;injection h with h;subst h
  obtain ⟨c,h1,h2,h3,h4⟩:=hk;exact ⟨c,h1,h2,h3,fun j f s hj hf hh=>let ⟨x,hx,hc⟩:=h4 j f s hj hf hh;⟨x,hx,hc.ren hρ hme⟩⟩
 ·injection h with h;subst h;exact hk
 ·split at h
  case h_2=>cases h
  rename_i j' hj;injection h with h;subst h
  obtain ⟨h0,ty,mb,m,h1,h2⟩:=hk;exact ⟨h0,ty,mb,m,h1,by rw [G.ren_look hρ hj];exact h2⟩
 ·cases h
theorem zd0 {ρ:List (Nat×Nat)} {lk:List Nat} {k k':EK} (h:renK ρ lk k=some k'):k'.Nil↔k.Nil:=by
 unfold renK at h;split at h
 ·injection h with h;subst h;exact Iff.rfl
 ·split at h
  ·injection h with h;subst h;exact Iff.rfl
  ·cases h
 ·split at h
  ·split at h
   ·injection h with h;subst h;exact Iff.rfl
   ·cases h
  ·cases h
 ·injection h with h;subst h;exact Iff.rfl
 ·split at h
  ·injection h with h;subst h;exact Iff.rfl
  ·cases h
 ·injection h with h;subst h;exact Iff.rfl
 ·split at h
  ·injection h with h;subst h;exact Iff.rfl
  ·cases h
 ·cases h
def renI (ρ:List (Nat×Nat)) (x:IM):Option IM:=match x with
 | .it x=>some (.it x)
 | .ops a l=>some (.ops a l)
 | .inRF i=>match lookN ρ i with
  | some j=>some (.inRF j)
  | none=>none
 | .endRF i=>match lookN ρ i with
  | some j=>some (.endRF j)
  | none=>none
theorem zuz {ρ:List (Nat×Nat)} {N:Nat} (hρ:okN ρ N=true) {x y:IM} {i:Item} (h:renI ρ x=some y) (hi:IR γ x i):IR (γ.ren ρ) y i:=by
 cases hi with
 | it i=>injection (show some (IM.it i)=some y from h) with h;subst h;exact .it _
 | ops a l idx hh=>injection (show some (IM.ops a l)=some y from h) with h;subst h;exact .ops _ _ idx hh
 | inRF i b m hh=>
  unfold renI at h;simp only at h;split at h
  case h_2=>cases h
  rename_i j hj;injection h with h;subst h
  exact .inRF j b m (by rw [G.ren_look hρ hj];exact hh)
 | endRF i b m hh=>
  unfold renI at h;simp only at h;split at h
  case h_2=>cases h
  rename_i j hj;injection h with h;subst h
  exact .endRF j b m (by rw [G.ren_look hρ hj];exact hh)
def renD (ρ:List (Nat×Nat)) (x:DE):Option DE:=match x with
 | .mk i=>match lookN ρ i with
  | some j=>some (.mk j)
  | none=>none
 | .cl g k=>some (.cl g k)
theorem zu0 {ρ:List (Nat×Nat)} {N:Nat} (hρ:okN ρ N=true) {x y:DE} {i:Deferred} (h:renD ρ x=some y) (hi:DR γ x i):DR (γ.ren ρ) y i:=by
 cases hi with
 | mk i b m hh=>
  unfold renD at h;simp only at h;split at h
  case h_2=>cases h
  rename_i j hj;injection h with h;subst h
  exact .mk j b m (by rw [G.ren_look hρ hj];exact hh)
 | cl g k cap args hh=>injection (show some (DE.cl g k)=some y from h) with h;subst h;exact .cl g k cap args hh
def mapL {α β:Type} (f:α→Option β) (l:List α):Option (List β):=List.rec (some []) (fun a _ ih=>match f a with
 | some x=>match ih with
  | some r=>some (x::r)
  | none=>none
 | none=>none) l
theorem zj6 {α β δ:Type} {f:α→Option β} {R:α→δ→Prop} {S:β→δ→Prop} (hf:∀ a b d,f a=some b→R a d→S b d):∀ {l:List α} {r:List β} {m:List δ},mapL f l=some r→All2 R l m→All2 S r m
 | [],r,m,h,hr=>by
  have h':some []=some r:=h;injection h' with h';subst h'
  cases hr;exact .nil
 | a::l,r,m,h,hr=>by
  have h':(match f a with
   | some x=>match mapL f l with
    | some r=>some (x::r)
    | none=>none
   | none=>none)=some r:=h
  split at h'
  case h_2=>cases h'
  rename_i x hx;split at h'
  case h_2=>cases h'
  rename_i r' hr';injection h' with h';subst h'
  cases hr with
  | cons h1 h2=>exact .cons (hf _ _ _ hx h1) (zj6 hf hr' h2)
def renR (ρ:List (Nat×Nat)) (x:Option Nat):Option (Option Nat):=match x with
 | none=>some none
 | some i=>match lookN ρ i with
  | some j=>some (some j)
  | none=>none
theorem zux {ρ:List (Nat×Nat)} {N:Nat} (hρ:okN ρ N=true) {x y ro:Option Nat} (h:renR ρ x=some y) (hr:RR γ x ro):RR (γ.ren ρ) y ro:=by
 unfold renR at h;split at h
 ·injection h with h;subst h;exact hr
 ·split at h
  case h_2=>cases h
  rename_i j hj;injection h with h;subst h
  obtain ⟨b,m,h1,h2⟩:=hr;exact ⟨b,m,by rw [G.ren_look hρ hj];exact h1,h2⟩
def normFR (ρ:List (Nat×Nat)) (l:SL) (f:EF):Option FS:=match f.ret with
 | false=>match mapL (renD ρ) f.dfs with
  | some ds=>match renR ρ f.round with
   | some ro=>match mapL (renI ρ) f.todo with
    | some td=>match pickS ρ f.T l with
     | some T=>some ⟨f.fn,f.N,T,td,ds,ro⟩
     | none=>none
    | none=>none
   | none=>none
  | none=>none
 | _=>none
def normFsR (ρ:List (Nat×Nat)) (ls:List SL):List EF→Option (List FS):=List.rec (fun fs=>match fs with
 | []=>some []
 | _=>none) (fun l _ ih fs=>match fs with
 | f::fs=>match normFR ρ l f with
  | some a=>match ih fs with
   | some r=>some (a::r)
   | none=>none
  | none=>none
 | []=>none) ls
def pickK (ρ:List (Nat×Nat)) (H:Tr EK) (lk:List Nat) (l:List (Nat×Nat)):Option (List (Nat×EK)):=List.rec (some []) (fun p _ ih=>match H.get p.1 with
 | some k=>match renK ρ lk k with
  | some k'=>match ih with
   | some r=>some ((p.2,k')::r)
   | none=>none
  | none=>none
 | none=>none) l
theorem zlj {ρ:List (Nat×Nat)} {H:Tr EK} {lk:List Nat}:∀ {l:List (Nat×Nat)} {r:List (Nat×EK)},pickK ρ H lk l=some r→∀ j k',(j,k')∈r→∃ i k,(i,j)∈l∧H.get i=some k∧renK ρ lk k=some k'
 | [],r,h,j,k',hm=>by
  have h':some []=some r:=h;injection h' with h';subst h';simp at hm
 | q::l,r,h,j,k',hm=>by
  have h':(match H.get q.1 with
   | some k=>match renK ρ lk k with
    | some k'=>match pickK ρ H lk l with
     | some r=>some ((q.2,k')::r)
     | none=>none
    | none=>none
   | none=>none)=some r:=h
  split at h'
  case h_2=>cases h'
  rename_i k hk;split at h'
  case h_2=>cases h'
  rename_i k2 hk2;split at h'
  case h_2=>cases h'
  rename_i r' hr;injection h' with h';subst h'
  rcases List.mem_cons.1 hm with e|hm
  ·injection e with e1 e2;subst e1;subst e2;exact ⟨q.1,k,by simp,hk,hk2⟩
  ·obtain ⟨i,k3,h1,h2,h3⟩:=zlj hr j k' hm;exact ⟨i,k3,by simp [h1],h2,h3⟩
def isNil {α:Type} (l:List α):Bool:=match l with
 | []=>true
 | _=>false
theorem ze9 {α:Type} {l:List α} (h:isNil l=true):l=[]:=by
 cases l with
 | nil=>rfl
 | cons a l=>cases h
def isNilS (c:SyC):Bool:=match c with
 | .ints _ l=>isNil l
 | .bools l=>isNil l
 | .strs l=>isNil l
 | .recs _ l=>isNil l
theorem zi8 {c:SyC} (h:isNilS c=true):c.enc=[]:=by
 cases c with
 | ints k l=>have:=ze9 (show isNil l=true from h);subst this;rfl
 | bools l=>have:=ze9 (show isNil l=true from h);subst this;rfl
 | strs l=>have:=ze9 (show isNil l=true from h);subst this;rfl
 | recs sh l=>have:=ze9 (show isNil l=true from h);subst this;rfl
def nilsK (nils:List (Nat×TypeId×SyC)):List (Nat×EK):=nils.map fun p=>(p.1,.seq p.2.1 p.2.2 false)
def insK (p:Nat×EK) (l:List (Nat×EK)):List (Nat×EK):=List.rec [p] (fun q t ih=>bc (Nat.ble p.1 q.1) (p::q::t) (q::ih)) l
def sortK (l:List (Nat×EK)):List (Nat×EK):=List.rec [] (fun p _ ih=>insK p ih) l
theorem zlt {p x:Nat×EK}:∀ {l:List (Nat×EK)},x∈insK p l→x=p∨x∈l
 | [],h=>by
  have h:x∈[p]:=h;simp at h;exact .inl h
 | q::t,h=>by
  have h:x∈bc (Nat.ble p.1 q.1) (p::q::t) (q::insK p t):=h;rw [bc_eq] at h;split at h
  ·rcases List.mem_cons.1 h with h|h
   ·exact .inl h
   ·exact .inr h
  ·rcases List.mem_cons.1 h with h|h
   ·exact .inr (by simp [h])
   ·rcases zlt h with h|h
    ·exact .inl h
    ·exact .inr (by simp [h])
theorem zcz {x:Nat×EK}:∀ {l:List (Nat×EK)},x∈sortK l→x∈l
 | [],h=>h
 | p::t,h=>by
  rcases zlt (show x∈insK p (sortK t) from h) with h|h
  ·simp [h]
  ·exact List.mem_cons_of_mem _ (zcz h)
def normR (lk:List Nat) (ls:List SL) (ρ:List (Nat×Nat)) (keep:List (Nat×Nat)) (nils:List (Nat×TypeId×SyC)) (N:Nat) (e:EO):Option NS:=match e with
 | .go s=>match normFsR ρ ls (s.top::s.rest) with
  | some l=>match pickK ρ s.H lk keep with
   | some K=>bc (okN ρ N) (bc (allL (fun p=>isSomeN (lookN ρ p.1) p.2) keep) (bc (allL (fun p=>isNilS p.2.2) nils) (some ⟨l,sortK (nilsK nils++K),N⟩) none) none) none
   | none=>none
  | none=>none
 | _=>none
structure NN where
 ρ:List (Nat×Nat)
 nils:List (Nat×TypeId×SyC)
 N:Nat
def addN (q:NN) (i:Nat):NN:=match lookN q.ρ i with
 | some _=>q
 | none=>⟨q.ρ++[(i,q.N)],q.nils,Nat.succ q.N⟩
def addL (l:List Nat):NN→NN:=List.rec (fun q=>q) (fun i _ ih q=>ih (addN q i)) l
abbrev SZ:=List (Nat×Option (Nat×TypeId×SyC))
def isNilV (a:EV):Bool:=match a with
 | .v (.slice none 0 0)=>true
 | _=>false
def slotsN (T:Tr EV) (l:SZ):NN→NN×SL:=List.rec (fun q=>(q,[])) (fun p _ ih q=>match T.get p.1 with
 | some a=>match p.2 with
  | some (z,ty,c)=>bc (isNilV a) (match ih ⟨q.ρ,q.nils++[(q.N,ty,c)],Nat.succ q.N⟩ with
   | (q',r)=>(q',(p.1,some (q.N,z))::r)) (match ih (addL (numsE 6 a) q) with
   | (q',r)=>(q',(p.1,none)::r))
  | none=>match ih (addL (numsE 6 a) q) with
   | (q',r)=>(q',(p.1,none)::r)
 | none=>match ih q with
  | (q',r)=>(q',(p.1,none)::r)) l
def todoN (l:List IM):List Nat:=List.rec [] (fun x _ ih=>match x with
 | .inRF i=>i::ih
 | .endRF i=>i::ih
 | _=>ih) l
def dfsN (l:List DE):List Nat:=List.rec [] (fun x _ ih=>match x with
 | .mk i=>i::ih
 | _=>ih) l
def rndN (x:Option Nat):List Nat:=match x with
 | some i=>[i]
 | none=>[]
def framesN (fs:List EF):List SZ→NN→NN×List SL:=List.rec (fun _ q=>(q,[])) (fun f _ ih ls q=>match ls with
 | l::ls=>match slotsN f.T l q with
  | (q1,s1)=>match ih ls (addL (rndN f.round) (addL (dfsN f.dfs) (addL (todoN f.todo) q1))) with
   | (q2,s2)=>(q2,s1::s2)
 | []=>(q,[])) fs
def slotNs (T:Tr EV) (lk:List Nat):List Nat:=List.rec [] (fun s _ ih=>match T.get s with
 | some a=>numsE 6 a++ih
 | none=>ih) lk
def numsKZ (lk:List Nat) (k:EK):List Nat:=match k with
 | .cells _ l _=>flatN (numsE 6) l
 | .loop _ _ _ _ T _ _ _ dd=>dd::slotNs T lk
 | .mbox j=>[j]
 | _=>[]
def closeN (lk:List Nat) (H:Tr EK) (k:Nat):Nat→NN→NN:=Nat.rec (fun _ q=>q) (fun _ ih i q=>match q.ρ.drop i with
 | (b,_)::_=>match H.get b with
  | some e=>ih (Nat.succ i) (addL (numsKZ lk e) q)
  | none=>ih (Nat.succ i) q
 | []=>q) k
def keepN (H:Tr EK) (l:List (Nat×Nat)):List (Nat×Nat):=List.rec [] (fun p _ ih=>match H.get p.1 with
 | some _=>p::ih
 | none=>ih) l
def normZ (lk:List Nat) (ls:List SZ) (e:EO):Option NS:=match e with
 | .go s=>match framesN (s.top::s.rest) ls ⟨[],[],0⟩ with
  | (q0,sl)=>match closeN lk s.H 60 0 q0 with
   | q=>normR lk sl q.ρ (keepN s.H q.ρ) q.nils q.N (.go s)
 | _=>none
end
section
open Go.RowKit
variable {P:Program} {γ γ':G} {w0:Bs} {w:World} {H H':Tr EK} {n n':Nat} {T:Tr EV} {cs:List Frame} {fid:FuncId}
def nilAt (l:List EV) (j:Nat):Bool:=match lget l j with
 | some a=>isNilV a
 | none=>false
def nil1 (z:Nat) (ty:TypeId) (c:SyC) (b:Nat) (q:Tr EK×Nat) (j:Nat):Tr EK×Nat:=match q.1.get b with
 | some (.cells t l full)=>bc (Nat.ble b 65535) (bc (Nat.ble q.2 65535) (bc (Nat.blt b q.2) (bc (isNilS c) (bc (nilAt l j) ((q.1.put q.2 (some (.seq ty c false))).put b (some (.cells t (l.set j (.slO q.2 z 0 false)) full)),Nat.succ q.2) q) q) q) q) q
 | _=>q
theorem HR.more1 (h:HR γ w0 H n w):HR γ w0 H (n+1) w:=⟨h.hp0,h.inj0,fun i hi=>h.fresh i (by omega),fun i hi=>⟨(h.rsv i hi).1,by have:=(h.rsv i hi).2;omega⟩,h.lt,h.stays,h.fzk⟩
theorem zph {a:EV} (h:isNilV a=true):a = .v (.slice none 0 0):=by
 unfold isNilV at h;split at h
 ·rfl
 ·cases h
theorem zu7 {z:Nat} {ty:TypeId} {c:SyC} {b:Nat} {q:Tr EK×Nat} {j:Nat} (h:HR γ w0 q.1 q.2 w):HR γ w0 (nil1 z ty c b q j).1 (nil1 z ty c b q j).2 w:=by
 unfold nil1;split
 case h_2=>exact h
 rename_i t l full hg;rw [bc_eq];split
 case isFalse=>exact h
 rename_i h1;rw [bc_eq];split
 case isFalse=>exact h
 rename_i h2;rw [bc_eq];split
 case isFalse=>exact h
 rename_i h3;rw [bc_eq];split
 case isFalse=>exact h
 rename_i h4;rw [bc_eq];split
 case isFalse=>exact h
 rename_i h5;have h3:=zad h3;have h6:=(HR.nilSeq h h2 (ty:=ty) (zi8 h4)).more1;have hg2:(q.1.put q.2 (some (.seq ty c false))).get b=some (.cells t l full):=by
  rw [Tr.get_put h2];rw [if_neg (by omega)];exact hg
 refine HR.recast h6 h1 hg2 (by exact id) fun b m hk=>?_;obtain ⟨ca,k1,k2,k3,k4,k5⟩:=hk;refine ⟨ca,k1,k2,by simpa using k3,fun e=>by simpa using k4 e,?_⟩;rw [List.length_set];refine ⟨by rw [List.length_set];exact k5.1,fun i a x ha hx=>?_⟩;rw [List.getElem?_set] at ha;split at ha
 ·split at ha
  ·injection ha with ha;subst ha
   rename_i e _;subst e;unfold nilAt at h5;split at h5
   ·rename_i a0 ha0;rw [zai] at ha0;have:=zph h5;subst this;rw [ec_v (k5.2 _ _ x ha0 hx)];exact .slO _ _ 0 false _ ⟨fun _=>⟨rfl,rfl⟩,fun e=>by cases e⟩
   ·cases h5
  ·cases ha
 ·exact k5.2 i a x ha hx
def nilJ (l:List EV):Nat→List Nat:=List.rec (fun _=>[]) (fun a _ ih i=>bc (isNilV a) (i::ih (Nat.succ i)) (ih (Nat.succ i))) l
def nilL (z:Nat) (ty:TypeId) (c:SyC) (b:Nat) (js:List Nat):Tr EK×Nat→Tr EK×Nat:=List.rec (fun q=>q) (fun j _ ih q=>ih (nil1 z ty c b q j)) js
theorem zj1 {z:Nat} {ty:TypeId} {c:SyC} {b:Nat}:∀ {js:List Nat} {q:Tr EK×Nat},HR γ w0 q.1 q.2 w→HR γ w0 (nilL z ty c b js q).1 (nilL z ty c b js q).2 w
 | [],_,h=>h
 | j::js,q,h=>zj1 (js:=js) (q:=nil1 z ty c b q j) (zu7 h)
def nilT (T:Tr EV) (l:SZ):Tr EK×Nat→Tr EK×Nat:=List.rec (fun q=>q) (fun p _ ih q=>match p.2 with
 | some (z,ty,c)=>match T.get p.1 with
  | some (.ptr b _)=>match q.1.get b with
   | some (.cells _ l _)=>ih (nilL z ty c b (nilJ l 0) q)
   | _=>ih q
  | _=>ih q
 | none=>ih q) l
theorem zfq:∀ {l:SZ} {q:Tr EK×Nat},HR γ w0 q.1 q.2 w→HR γ w0 (nilT T l q).1 (nilT T l q).2 w
 | [],_,h=>h
 | p::l,q,h=>by
  show HR γ w0 (match p.2 with
   | some (z,ty,c)=>match T.get p.1 with
    | some (.ptr b _)=>match q.1.get b with
     | some (.cells _ l' _)=>nilT T l (nilL z ty c b (nilJ l' 0) q)
     | _=>nilT T l q
    | _=>nilT T l q
   | none=>nilT T l q).1 (match p.2 with
   | some (z,ty,c)=>match T.get p.1 with
    | some (.ptr b _)=>match q.1.get b with
     | some (.cells _ l' _)=>nilT T l (nilL z ty c b (nilJ l' 0) q)
     | _=>nilT T l q
    | _=>nilT T l q
   | none=>nilT T l q).2 w
  split
  ·split
   ·split
    ·exact zfq (zj1 h)
    ·exact zfq h
   ·exact zfq h
  ·exact zfq h
def nilF (fs:List EF):List SZ→Tr EK×Nat→Tr EK×Nat:=List.rec (fun _ q=>q) (fun f _ ih ls q=>match ls with
 | l::ls=>ih ls (nilT f.T l q)
 | []=>q) fs
theorem zoy:∀ {fs:List EF} {ls:List SZ} {q:Tr EK×Nat},HR γ w0 q.1 q.2 w→HR γ w0 (nilF fs ls q).1 (nilF fs ls q).2 w
 | [],_,_,h=>h
 | _::_,[],_,h=>h
 | f::fs,l::ls,q,h=>zoy (fs:=fs) (ls:=ls) (q:=nilT f.T l q) (zfq h)
def nilS (ls:List SZ) (s:ES):ES:=match nilF (s.top::s.rest) ls (s.H,s.n) with
 | (H,n)=>⟨s.top,s.rest,H,n⟩
theorem zox {ls:List SZ} {s:ES} {m:Machine} (h:MR γ w0 cs s m):MR γ w0 cs (nilS ls s) m:=by
 obtain ⟨fr,frs,w,rfl,h1,h2,h3⟩:=h;exact ⟨fr,frs,w,rfl,h1,h2,zoy (fs:=s.top::s.rest) (ls:=ls) (q:=(s.H,s.n)) h3⟩
end
section
open Go.RowKit
variable {P:Program} {γ γ':G} {w0:Bs} {w w':World} {H H':Tr EK} {n n':Nat} {T:Tr EV}
def G.renX (γ:G) (ρ:List (Nat×Nat)):G:=⟨fun j=>(invN ρ j).bind γ,γ.fz,fun _ _ _=>none⟩
theorem G.renX_look {ρ:List (Nat×Nat)} {N:Nat} (hρ:okN ρ N=true) {i j:Nat} (h:lookN ρ i=some j):γ.renX ρ j=γ i:=by
 show (invN ρ j).bind γ=γ i;rw [(zgl hρ (zc3 h)).1];rfl
theorem G.renX_some {ρ:List (Nat×Nat)} {j:Nat} {p:Pl×Nat} (h:γ.renX ρ j=some p):∃ i,(i,j)∈ρ∧γ i=some p:=by
 have h:(invN ρ j).bind γ=some p:=h
 cases hi:invN ρ j with
 | none=>rw [hi] at h;cases h
 | some i=>rw [hi] at h;exact ⟨i,zdh hi,h⟩
def renEX (ρ:List (Nat×Nat)) (k:Nat):EV→Option EV:=Nat.rec (fun _=>none) (fun _ ih a=>match a with
 | .v x=>some (.v x)
 | .ptr i off=>withN (lookN ρ i) fun j=>.ptr j off
 | .sl i z off len cap=>withN (lookN ρ i) fun j=>.sl j z off len cap
 | .slE i z off=>withN (lookN ρ i) fun j=>.slE j z off
 | .slO i z len nn=>withN (lookN ρ i) fun j=>.slO j z len nn
 | .agg l=>withL (mapO ih l) .agg
 | .tup l=>withL (mapO ih l) .tup
 | .fn f l=>withL (mapO ih l) (.fn f)
 | .mt f l=>withL (mapO ih l) (.mt f)
 | .yl i=>withN (lookN ρ i) .yl
 | .mp i=>withN (lookN ρ i) .mp
 | .lst c=>some (.lst c)
 | .lp c j f=>some (.lp c j f)
 | .ptrE i z j f=>withN (lookN ρ i) fun i'=>.ptrE i' z j f
 | .row _ _ _ _ _ _ _=>none
 | .prow _ _ _ _ _ _ _ _=>none
 | .slX _ _ _ _=>none
 | .arr c=>some (.arr c)) k
theorem EC.renX {ρ:List (Nat×Nat)} {N:Nat} (hρ:okN ρ N=true):∀ {k:Nat} {a a':EV} {x:Value},renEX ρ k a=some a'→EC γ a x→EC (γ.renX ρ) a' x
 | 0,a,a',x,h,_=>by cases h
 | k+1,a,a',x,h,hc=>by
  have key:∀ (l r:List EV) (vs:List Value),mapO (renEX ρ k) l=some r→l.length=vs.length→(∀ (j:Nat) (a:EV) (x:Value),l[j]? = some a→vs[j]? = some x→EC γ a x)→r.length=vs.length∧∀ (j:Nat) (a:EV) (x:Value),r[j]? = some a→vs[j]? = some x→EC (γ.renX ρ) a x:=fun l r vs hm hl hh=>by
   obtain ⟨h1,h2⟩:=zeh hm;refine ⟨by omega,fun j a x ha hx=>?_⟩;obtain ⟨b,h3,h4⟩:=h2 j a ha;exact EC.renX hρ h4 (hh j b x h3 hx)
  cases hc with
  | v x=>injection (show some (EV.v x)=some a' from h) with h;subst h;exact .v x
  | lst c x hs=>injection (show some (EV.lst c)=some a' from h) with h;subst h;exact .lst c x hs
  | lp c j f k off cp hs=>injection (show some (EV.lp c j f)=some a' from h) with h;subst h;exact .lp c j f k off cp hs
  | arr c vs hv=>injection (show some (EV.arr c)=some a' from h) with h;subst h;exact .arr c vs hv
  | ptrE i z j f b n hi=>
   obtain ⟨i',h1,rfl⟩:=zar (show withN (lookN ρ i) (fun i'=>.ptrE i' z j f)=some a' from h);exact .ptrE i' z j f b n (by rw [G.renX_look hρ h1];exact hi)
  | row i v j f y z len x hs=>cases h
  | prow i v j f y z a g k m hs=>cases h
  | slX i z off len b n c off' hi hl hm hn ho=>cases h
  | ptr i off b n hi=>
   obtain ⟨j,h1,rfl⟩:=zar (show withN (lookN ρ i) (fun j=>.ptr j off)=some a' from h);exact .ptr j off b n (by rw [G.renX_look hρ h1];exact hi)
  | sl i z off len cap b n c hi hl hm hn hcc hu=>
   obtain ⟨j,h1,rfl⟩:=zar (show withN (lookN ρ i) (fun j=>.sl j z off len cap)=some a' from h);exact .sl j z off len cap b n c (by rw [G.renX_look hρ h1];exact hi) hl hm hn hcc hu
  | slE i z off b n c off' hi hm hn=>
   obtain ⟨j,h1,rfl⟩:=zar (show withN (lookN ρ i) (fun j=>.slE j z off)=some a' from h);exact .slE j z off b n c off' (by rw [G.renX_look hρ h1];exact hi) hm hn
  | slO i z len nn x hs=>
   obtain ⟨j,h1,rfl⟩:=zar (show withN (lookN ρ i) (fun j=>.slO j z len nn)=some a' from h);exact .slO j z len nn x ⟨hs.1,fun e=>let ⟨b,m,c,q1,q2⟩:=hs.2 e;⟨b,m,c,by rw [G.renX_look hρ h1];exact q1,q2⟩⟩
  | agg l vs hl hh=>
   obtain ⟨r,h1,rfl⟩:=zb7 (show withL (mapO (renEX ρ k) l) .agg=some a' from h);obtain ⟨q1,q2⟩:=key l r vs h1 hl hh;exact .agg r vs q1 q2
  | tup l vs hl hh=>
   obtain ⟨r,h1,rfl⟩:=zb7 (show withL (mapO (renEX ρ k) l) .tup=some a' from h);obtain ⟨q1,q2⟩:=key l r vs h1 hl hh;exact .tup r vs q1 q2
  | fn f l vs hl hh=>
   obtain ⟨r,h1,rfl⟩:=zb7 (show withL (mapO (renEX ρ k) l) (.fn f)=some a' from h);obtain ⟨q1,q2⟩:=key l r vs h1 hl hh;exact .fn f r vs q1 q2
  | mt f l vs hl hh=>
   obtain ⟨r,h1,rfl⟩:=zb7 (show withL (mapO (renEX ρ k) l) (.mt f)=some a' from h);obtain ⟨q1,q2⟩:=key l r vs h1 hl hh;exact .mt f r vs q1 q2
  | yl i b n hi=>
   obtain ⟨j,h1,rfl⟩:=zar (show withN (lookN ρ i) .yl=some a' from h);exact .yl j b n (by rw [G.renX_look hρ h1];exact hi)
  | mp i b n hi=>
   obtain ⟨j,h1,rfl⟩:=zar (show withN (lookN ρ i) .mp=some a' from h);exact .mp j b n (by rw [G.renX_look hρ h1];exact hi)
def renSX (ρ:List (Nat×Nat)) (c:Option (Nat×Nat)) (a:EV):Option EV:=match c with
 | none=>renEX ρ 8 a
 | some (j,z)=>match a with
  | .v (.slice none 0 0)=>some (.slO j z 0 false)
  | a=>renEX ρ 8 a
theorem zsa {ρ:List (Nat×Nat)} {N:Nat} (hρ:okN ρ N=true) {c:Option (Nat×Nat)} {a a':EV} {x:Value} (h:renSX ρ c a=some a') (hc:EC γ a x):EC (γ.renX ρ) a' x:=by
 unfold renSX at h;split at h
 ·exact EC.renX hρ h hc
 ·split at h
  ·injection h with h;subst h
   rw [ec_v hc];exact .slO _ _ 0 false _ ⟨fun _=>⟨rfl,rfl⟩,fun e=>by cases e⟩
  ·exact EC.renX hρ h hc
def pickSX (ρ:List (Nat×Nat)) (T:Tr EV) (l:SL):Option (List (Nat×EV)):=List.rec (some []) (fun q _ ih=>match T.get q.1 with
 | some a=>match renSX ρ q.2 a with
  | some a'=>match ih with
   | some r=>some ((q.1,a')::r)
   | none=>none
  | none=>none
 | none=>none) l
theorem zi3 {ρ:List (Nat×Nat)} {T:Tr EV}:∀ {l:SL} {r:List (Nat×EV)},pickSX ρ T l=some r→∀ s a',(s,a')∈r→∃ c a,T.get s=some a∧renSX ρ c a=some a'
 | [],r,h,s,a',hm=>by
  have h':some []=some r:=h;injection h' with h';subst h';simp at hm
 | q::l,r,h,s,a',hm=>by
  have h':(match T.get q.1 with
   | some a=>match renSX ρ q.2 a with
    | some a'=>match pickSX ρ T l with
     | some r=>some ((q.1,a')::r)
     | none=>none
    | none=>none
   | none=>none)=some r:=h
  split at h'
  case h_2=>cases h'
  rename_i a ha;split at h'
  case h_2=>cases h'
  rename_i a2 ha2;split at h'
  case h_2=>cases h'
  rename_i r' hr;injection h' with h';subst h'
  rcases List.mem_cons.1 hm with e|hm
  ·injection e with e1 e2;subst e1;subst e2;exact ⟨q.2,a,ha,ha2⟩
  ·exact zi3 hr s a' hm
def renKX (ρ:List (Nat×Nat)) (lk:List Nat) (k:EK):Option EK:=match k with
 | .seq ty c nn=>some (.seq ty c nn)
 | .cells ty l full=>match mapO (renEX ρ 8) l with
  | some r=>some (.cells ty r full)
  | none=>none
 | .loop st pend fn N T ps ax bd dd=>match pickSX ρ T (lk.map fun s=>(s,none)) with
  | some r=>match lookN ρ dd with
   | some d=>some (.loop st pend fn N (mkT r) ps ax bd d)
   | none=>none
  | none=>none
 | .dfr op=>some (.dfr op)
 | .mpo es=>some (.mpo es)
 | .mbox j=>match lookN ρ j with
  | some j'=>some (.mbox j')
  | none=>none
 | _=>none
theorem zhe {ρ:List (Nat×Nat)} {lk:List Nat} {k k':EK} (h:renKX ρ lk k=some k'):k'.nestB=false:=by
 unfold renKX at h;split at h
 ·injection h with h;subst h;rfl
 ·split at h
  ·injection h with h;subst h;rfl
  ·cases h
 ·split at h
  ·split at h
   ·injection h with h;subst h;rfl
   ·cases h
  ·cases h
 ·injection h with h;subst h;rfl
 ·injection h with h;subst h;rfl
 ·split at h
  ·injection h with h;subst h;rfl
  ·cases h
 ·cases h
theorem zle {ρ:List (Nat×Nat)} {N:Nat} (hρ:okN ρ N=true) {lk:List Nat} {k k':EK} {b:Pl} {m:Nat} (h:renKX ρ lk k=some k') (hk:k.ok γ b m w):k'.ok (γ.renX ρ) b m w:=by
 unfold renKX at h;split at h
 ·injection h with h;subst h
  obtain ⟨c,h1,h2,h3,h4⟩:=hk;exact ⟨c,h1,h2,h3,SyC.enc_fz h4 fun _ _ h=>h⟩
 ·rename_i ty l full;split at h
  case h_2=>cases h
  rename_i r hr;injection h with h;subst h
  obtain ⟨c,h1,h2,h3,h4,h5⟩:=hk;obtain ⟨q1,q2⟩:=zeh hr;refine ⟨c,h1,h2,by omega,fun e=>by rw [q1];exact h4 e,?_⟩;rw [q1];refine ⟨by rw [q1];exact h5.1,fun j a x ha hx=>?_⟩;obtain ⟨a0,h6,h7⟩:=q2 j a ha;exact EC.renX hρ h7 (h5.2 j a0 x h6 hx)
 ·split at h
  case h_2=>cases h
  rename_i r hr;split at h
  case h_2=>cases h
  rename_i d hd;injection h with h;subst h
  obtain ⟨tmps,dd,m2,h1,h2,h3,h4⟩:=hk;refine ⟨tmps,dd,m2,h1,h2,fun sl a hs=>?_,by rw [G.renX_look hρ hd];exact h4⟩;obtain ⟨c,a0,q1,q2⟩:=zi3 hr sl a (zcp hs);obtain ⟨x,hx,hc⟩:=h3 sl a0 q1;exact ⟨x,hx,zsa hρ q2 hc⟩
 ·injection h with h;subst h;exact hk
 ·injection h with h;subst h;exact hk
 ·split at h
  case h_2=>cases h
  rename_i j' hj;injection h with h;subst h
  obtain ⟨h0,ty,mb,m,h1,h2⟩:=hk;exact ⟨h0,ty,mb,m,h1,by rw [G.renX_look hρ hj];exact h2⟩
 ·cases h
theorem za3 {ρ:List (Nat×Nat)} {lk:List Nat} {k k':EK} (h:renKX ρ lk k=some k'):k'.Nil↔k.Nil:=by
 unfold renKX at h;split at h
 ·injection h with h;subst h;exact Iff.rfl
 ·split at h
  ·injection h with h;subst h;exact Iff.rfl
  ·cases h
 ·split at h
  ·split at h
   ·injection h with h;subst h;exact Iff.rfl
   ·cases h
  ·cases h
 ·injection h with h;subst h;exact Iff.rfl
 ·injection h with h;subst h;exact Iff.rfl
 ·split at h
  ·injection h with h;subst h;exact Iff.rfl
  ·cases h
 ·cases h
def pickKX (ρ:List (Nat×Nat)) (H:Tr EK) (lk:List Nat) (l:List (Nat×Nat)):Option (List (Nat×EK)):=List.rec (some []) (fun p _ ih=>match H.get p.1 with
 | some k=>match renKX ρ lk k with
  | some k'=>match ih with
   | some r=>some ((p.2,k')::r)
   | none=>none
  | none=>none
 | none=>none) l
theorem zfm {ρ:List (Nat×Nat)} {H:Tr EK} {lk:List Nat}:∀ {l:List (Nat×Nat)} {r:List (Nat×EK)},pickKX ρ H lk l=some r→∀ j k',(j,k')∈r→∃ i k,(i,j)∈l∧H.get i=some k∧renKX ρ lk k=some k'
 | [],r,h,j,k',hm=>by
  have h':some []=some r:=h;injection h' with h';subst h';simp at hm
 | q::l,r,h,j,k',hm=>by
  have h':(match H.get q.1 with
   | some k=>match renKX ρ lk k with
    | some k'=>match pickKX ρ H lk l with
     | some r=>some ((q.2,k')::r)
     | none=>none
    | none=>none
   | none=>none)=some r:=h
  split at h'
  case h_2=>cases h'
  rename_i k hk;split at h'
  case h_2=>cases h'
  rename_i k2 hk2;split at h'
  case h_2=>cases h'
  rename_i r' hr;injection h' with h';subst h'
  rcases List.mem_cons.1 hm with e|hm
  ·injection e with e1 e2;subst e1;subst e2;exact ⟨q.1,k,by simp,hk,hk2⟩
  ·obtain ⟨i,k3,h1,h2,h3⟩:=zfm hr j k' hm;exact ⟨i,k3,by simp [h1],h2,h3⟩
structure ZMR where
 c:Bool
 a:EV
 K:List (Nat×EK)
 n:Nat
 k:Nat
abbrev ZMT:=List EV→List (Nat×EK)→Nat→Option ZMR
structure ZCC where
 d:ZCT
 m:ZMT
abbrev dC (d:ZCT):ZCC:=⟨d,fun _ _ _=>Option.none⟩
instance:Coe ZCT ZCC:=⟨fun d=>⟨d,fun _ _ _=>none⟩⟩
def ZMtOk (P:Program) (g:FuncId) (sp:ZMT):Prop:=∀ (γ:G) (w0:Bs) (w:World) (us:Array Value) (ax:List EV) (K0:List (Nat×EK)) (m:Nat) (r:ZMR),sp ax K0 m=some r→r.c=true→(∀ i,¬ w0.res i)→ECL γ ax us.toList→HR γ w0 (mkT K0) m w →
 Calls P g us w fun e w'=>∃ γ' x,e = .returned x∧EC γ' r.a x∧HR γ' w0 (mkT r.K) r.n w'∧∀ j p,j<r.k→γ j=some p→γ' j=some p
theorem ZMtOk.none (P:Program) (g:FuncId):ZMtOk P g (fun _ _ _=>Option.none):=fun _ _ _ _ _ _ _ _ h=>by cases h
def Bs.but (w:World) (γ:G) (S:Nat→Prop):Bs:=⟨w,fun k=>k<w.heap.size∧∀ i b m,S i→γ i=some (b,m)→b.k≠k,fun _ h=>h.1,fun _=>False,fun k=>∃ a,γ.fz k=some a⟩
def InS (ρ:List (Nat×Nat)) (H:Tr EK) (i:Nat):Prop:=(∃ j,lookN ρ i=some j)∧∃ k,H.get i=some k∧¬ k.Nil
theorem HR.partM (hH:HR γ w0 H n w) {ρ keep:List (Nat×Nat)} {N:Nat} {K K2:List (Nat×EK)} (hρ:okN ρ N=true) (hkeep:allL (fun p=>isSomeN (lookN ρ p.1) p.2) keep=true) (hK:pickKX ρ H [] keep=some K) (hK2:∀ x,x∈K2→x∈K):HR (γ.renX ρ) (Bs.but w γ (InS ρ H)) (mkT K2) N w:=by
 have get:∀ j k,(mkT K2).get j=some k→∃ i k0,lookN ρ i=some j∧H.get i=some k0∧renKX ρ [] k0=some k:=fun j k hk=>by
  obtain ⟨i,k0,q1,q2,q3⟩:=zfm hK j k (hK2 _ (zcp hk));exact ⟨i,k0,zbc (zak hkeep (i,j) q1),q2,q3⟩
 refine ⟨fun j k hk=>?_,fun j1 j2 k1 k2 hj1 hj2 n1 n2 hne b1 b2 e1 e2=>?_,fun j hj=>?_,fun i hi=>hi.elim,fun j p e=>?_,⟨rfl,rfl,rfl,Nat.le_refl _,fun _ _=>rfl⟩,⟨fun k a hk=>?_,fun _ h=>h,.none (fun j v q p e=>(by cases (show (none:Option (Nat×Nat×Nat))=some p from e))) (fun j k hj=>let ⟨_,_,_,_,q3⟩:=get j k hj;zhe q3)⟩⟩
 ·obtain ⟨i,k0,q1,q2,q3⟩:=get j k hk
  by_cases hn:k0.Nil
  ·exact .inl ((za3 q3).2 hn)
  ·obtain ⟨b,m2,e1,e2,e3⟩:=hH.hp i k0 q2 hn;exact .inr ⟨b,m2,by rw [G.renX_look hρ q1];exact e1,fun hf=>hf.2 i b m2 ⟨⟨j,q1⟩,k0,q2,hn⟩ e1 rfl,zle hρ q3 e3⟩
 ·obtain ⟨i1,k01,q1,q2,q3⟩:=get j1 k1 hj1;obtain ⟨i2,k02,q4,q5,q6⟩:=get j2 k2 hj2;rw [G.renX_look hρ q1] at e1;rw [G.renX_look hρ q4] at e2;have hne2:i1≠i2:=fun e=>by
   subst e;rw [q1] at q4;injection q4 with q4;exact hne q4
  exact hH.inj0 i1 i2 k01 k02 q2 q5 (fun e=>n1 ((za3 q3).2 e)) (fun e=>n2 ((za3 q6).2 e)) hne2 b1 b2 e1 e2
 ·show (invN ρ j).bind γ=none
  cases hi:invN ρ j with
  | none=>rfl
  | some i=>
   have:=(zgl hρ (zdh hi)).2.2;omega
 ·obtain ⟨i,_,q2⟩:=G.renX_some e;exact hH.lt i p q2
 ·obtain ⟨g1,g2,g3⟩:=hH.fzk.at' k a hk;refine ⟨g1,.inl ⟨a,hk⟩,fun j kj b m hj nj ej=>?_⟩;obtain ⟨i1,k01,q1,q2,q3⟩:=get j kj hj;rw [G.renX_look hρ q1] at ej;exact g3 i1 k01 b m q2 (fun e=>nj ((za3 q3).2 e)) ej
def sigN (ρ:List (Nat×Nat)) (n k:Nat) (c:Nat):Nat→List (Nat×Nat):=Nat.rec (fun _=>[]) (fun _ ih j=>(j,bc (Nat.blt j k) (match invN ρ j with
 | some i=>i
 | none=>Nat.add n j) (Nat.add n j))::ih (Nat.succ j)) c
def sigOk (ρ:List (Nat×Nat)) (n k:Nat) (σ:List (Nat×Nat)):Bool:=allL (fun p=>bor (bc (Nat.blt p.1 k) (bc (isSomeN (invN ρ p.1) p.2) (Nat.blt p.2 n) false) false) (Nat.beq p.2 (Nat.add n p.1))) σ
def pinB (H:Tr EK) (i:Nat):Bool:=match H.get i with
 | some (.seq _ _ nn)=>nn
 | some (.nest _ _ _ _ _ _ nn)=>nn
 | some _=>true
 | none=>false
theorem zu2 {i:Nat} (h:pinB H i=true):∃ k,H.get i=some k∧¬ k.Nil:=by
 unfold pinB at h;split at h
 ·rename_i ty c nn hg;exact ⟨_,hg,fun e=>by rw [h] at e;exact absurd e.1 (by simp)⟩
 ·rename_i me ty sh rows v ho nn hg;exact ⟨_,hg,fun e=>by rw [h] at e;exact absurd e.1 (by simp)⟩
 ·rename_i k hne hne2 hg;refine ⟨k,hg,fun e=>?_⟩;cases k <;> first|exact e|exact hne _ _ _ rfl|exact hne2 _ _ _ _ _ _ _ rfl
 ·cases h
def pinsOk (ρ:List (Nat×Nat)) (H:Tr EK) (k:Nat):Bool:=allL (fun p=>bc (Nat.blt p.2 k) (pinB H p.1) true) ρ
def putL (l:List (Nat×Option EK)):Tr EK→Option (Tr EK):=List.rec (fun H=>some H) (fun p _ ih H=>bc (Nat.ble p.1 65535) (ih (H.put p.1 p.2)) none) l
theorem zlh:∀ {l:List (Nat×Option EK)} {H H':Tr EK},putL l H=some H'→∀ i k,H'.get i=some k→(i,some k)∈l∨(H.get i=some k∧∀ p,p∈l→p.1≠i)
 | [],H,H',h,i,k,hg=>by
  injection (show some H=some H' from h) with h;subst h
  exact .inr ⟨hg,fun p hp=>by simp at hp⟩
 | p::l,H,H',h,i,k,hg=>by
  have h':bc (Nat.ble p.1 65535) (putL l (H.put p.1 p.2)) none=some H':=h;rw [bc_eq] at h';split at h'
  case isFalse=>cases h'
  rename_i hb;rcases zlh h' i k hg with h1|⟨h1,h2⟩
  ·exact .inl (List.mem_cons_of_mem _ h1)
  ·rw [Tr.get_put hb] at h1;split at h1
   ·rename_i e;left;have:p=(i,some k):=by
     obtain ⟨a,b⟩:=p;have e:i=a:=e;have h1:b=some k:=h1;rw [e,h1]
    rw [this];simp
   ·rename_i e;refine .inr ⟨h1,fun q hq=>?_⟩;rcases List.mem_cons.1 hq with rfl|hq
    ·intro e2;exact e (by simp_all)
    ·exact h2 q hq
def G.both (γ γ':G) (σ:List (Nat×Nat)):G:=⟨fun i=>(γ i).or ((γ'.renX σ) i),γ'.fz,γ.rw⟩
theorem HR.join (hH:HR γ w0 H n w) {ρ σ keep:List (Nat×Nat)} {N k m:Nat} {K K2:List (Nat×EK)} (hρ:okN ρ N=true) (hp:HR γ' (Bs.but w γ (InS ρ H)) (mkT K) m w') (hσ:okN σ (n+m)=true) (hsig:sigOk ρ n k σ=true) (hpin:pinsOk ρ H k=true) (hpins:∀ j p,j<k→(γ.renX ρ) j=some p→γ' j=some p)
  (hkeep:allL (fun p=>isSomeN (lookN σ p.1) p.2) keep=true) (hK:pickKX σ (mkT K) [] keep=some K2) (hput:putL (ρ.map (fun p=>(p.1,none))++K2.map (fun p=>(p.1,some p.2))) H=some H'):GLe γ (γ.both γ' σ)∧GLe (γ'.renX σ) (γ.both γ' σ)∧HR (γ.both γ' σ) w0 H' (n+m) w':=by
 have hsz:w.heap.size≤w'.heap.size:=hp.stays.size
 -- a number that is used anew
 have new:∀ j i,(j,i)∈σ→∀ p,γ i=some p→γ' j=some p:=fun j i hm p hg=>by
  rcases zbp.1 (zak hsig (j,i) hm) with h|h
  ·obtain ⟨h1,h2⟩:=bcT h;obtain ⟨h2,_⟩:=bcT h2;have h1:=zad h1;have h2:=zbc h2;refine hpins j p h1 ?_;show (invN ρ j).bind γ=some p;rw [h2];exact hg
  ·have h:=Nat.eq_of_beq_eq_true h;have h:i=n+j:=h;rw [hH.fresh i (by omega)] at hg;cases hg
 have leR:∀ i p,(γ'.renX σ) i=some p→(γ.both γ' σ) i=some p:=fun i p h=>by
  obtain ⟨j,hm,h1⟩:=G.renX_some h;show (γ i).or ((γ'.renX σ) i)=some p
  cases hg:γ i with
  | none=>exact h
  | some q=>rw [← h1,new j i hm q hg];rfl
 have fzle:∀ k a,γ.fz k=some a→γ'.fz k=some a:=fun k a hk=>by
  obtain ⟨a',ha'⟩:=hp.fzk.base k ⟨a,hk⟩;obtain ⟨⟨ty,fz,h1⟩,_⟩:=hH.fzk.at' k a hk;obtain ⟨⟨ty',fz',h2⟩,h3,_⟩:=hp.fzk.at' k a' ha';have hkl:k<w.heap.size:=(Array.getElem?_eq_some_iff.1 h1).1;have hF:(Bs.but w γ (InS ρ H)).F k:=⟨hkl,fun i b m hi hg he=>by
   obtain ⟨_,k0,h5,h6⟩:=hi;exact (hH.fzk.at' k a hk).2.2 i k0 b m h5 h6 hg he⟩
  have:=hp.stays.block k hF;have:w'.heap[k]? = w.heap[k]?:=this;rw [h2,h1] at this;injection this with this
  injection this with this
  rw [ha',this]
 have gle:GLe γ (γ.both γ' σ):=⟨fun i p h=>by show (γ i).or _=some p;rw [h];rfl,fzle,fun _ _ _ _ h=>h⟩;have gleR:GLe (γ'.renX σ) (γ.both γ' σ):=⟨leR,fun k a h=>h,fun _ _ _ p e=>by cases (show (none:Option (Nat×Nat×Nat))=some p from e)⟩
 have get:∀ i k,H'.get i=some k→(∃ j k1,lookN σ j=some i∧(mkT K).get j=some k1∧renKX σ [] k1=some k)∨(H.get i=some k∧∀ j,lookN ρ i≠some j):=fun i k hg=>by
  rcases zlh hput i k hg with h|⟨h1,h2⟩
  ·rcases List.mem_append.1 h with h|h
   ·obtain ⟨p,_,e⟩:=List.mem_map.1 h;injection e with _ e;cases e
   ·obtain ⟨p,hp',e⟩:=List.mem_map.1 h;obtain ⟨pi,pk⟩:=p;injection e with e1 e2;injection e2 with e2;subst e1;subst e2;obtain ⟨j,k1,q1,q2,q3⟩:=zfm hK pi pk hp';exact .inl ⟨j,k1,zbc (zak hkeep (j,pi) q1),q2,q3⟩
  ·refine .inr ⟨h1,fun j hj=>?_⟩;exact h2 (i,none) (List.mem_append.2 (.inl (List.mem_map.2 ⟨(i,j),zc3 hj,rfl⟩))) rfl
 have nst:∀ i k,H'.get i=some k→k.nestB=true→H.get i=some k∧∀ j,lookN ρ i≠some j:=fun i k hg hb=>by
  rcases get i k hg with ⟨_,_,_,_,q3⟩|h
  ·rw [zhe q3] at hb;cases hb
  ·exact h
 -- a block that is not left alone by the call is not left alone by the caller
 have notF:∀ k,¬ (Bs.but w γ (InS ρ H)).F k→¬ w0.F k:=fun k hn hf=>by
  have h1:=w0.lt k hf;have h2:=hH.stays.size;refine hn ⟨by omega,fun i b m hi hg he=>?_⟩;obtain ⟨_,k0,h5,h6⟩:=hi;obtain ⟨b2,m2,e1,e2,_⟩:=hH.hp i k0 h5 h6;rw [hg] at e1;simp only [Option.some.injEq,Prod.mk.injEq] at e1;obtain ⟨rfl,rfl⟩:=e1;rw [he] at e2;exact e2 hf
 have oldF:∀ i k b m,H.get i=some k→¬ k.Nil→(∀ j,lookN ρ i≠some j)→γ i=some (b,m)→(Bs.but w γ (InS ρ H)).F b.k:=fun i k b m h1 h2 h3 h4=>by
  refine ⟨hH.lt i _ h4,fun i' b' m' hi hg=>?_⟩;obtain ⟨⟨j,hj⟩,k0,h5,h6⟩:=hi;have hne:i'≠i:=fun e=>by subst e;exact h3 j hj
  exact hH.inj0 i' i k0 k h5 h1 h6 h2 hne _ _ hg h4
 -- what the numbers mean
 have newB:∀ i j k1,lookN σ j=some i→(mkT K).get j=some k1→¬ k1.Nil→∃ b m,γ' j=some (b,m)∧(γ.both γ' σ) i=some (b,m)∧¬ (Bs.but w γ (InS ρ H)).F b.k∧k1.ok γ' b m w':=fun i j k1 h1 h2 h3=>by
  obtain ⟨b,m,e1,e2,e3⟩:=hp.hp j k1 h2 h3;exact ⟨b,m,e1,leR i _ (by rw [G.renX_look hσ h1];exact e1),e2,e3⟩
 have oldB:∀ i b m,γ i=some (b,m)→(γ.both γ' σ) i=some (b,m):=fun i b m h=>gle.le i _ h;refine ⟨gle,gleR,fun i k hk=>?_,fun i1 i2 k1 k2 hi1 hi2 n1 n2 hne b1 b2 e1 e2=>?_,fun i hi=>?_,fun i hi=>?_,fun i p hi=>?_,?_,⟨fun k a hk=>?_,fun k hk=>?_,fun i v q p e=>?_,fun i me ty sh rows v ho nn e=>?_,fun i me ty sh rows v ho nn e j f sh' hj hf hh k m2 hk=>?_⟩⟩
 ·rcases get i k hk with ⟨j,k1,q1,q2,q3⟩|⟨q1,q2⟩
  ·by_cases hn:k1.Nil
   ·exact .inl ((za3 q3).2 hn)
   ·obtain ⟨b,m,e1,e2,e3,e4⟩:=newB i j k1 q1 q2 hn;exact .inr ⟨b,m,e2,notF _ e3,EK.ok_monoB (zhe q3) gleR rfl (zle hσ q3 e4)⟩
  ·by_cases hn:k.Nil
   ·exact .inl hn
   ·obtain ⟨b,m,e1,e2,e3⟩:=hH.hp i k q1 hn;exact .inr ⟨b,m,oldB i b m e1,e2,EK.ok_mono gle (hp.stays.block b.k (oldF i k b m q1 hn q2 e1)) e3⟩
 ·rcases get i1 k1 hi1 with ⟨j1,l1,q1,q2,q3⟩|⟨q1,q2⟩ <;> rcases get i2 k2 hi2 with ⟨j2,l2,r1,r2,r3⟩|⟨r1,r2⟩
  ·have m1:¬ l1.Nil:=fun e=>n1 ((za3 q3).2 e);have m2:¬ l2.Nil:=fun e=>n2 ((za3 r3).2 e);obtain ⟨c1,z1,f1,f2,_,_⟩:=newB i1 j1 l1 q1 q2 m1;obtain ⟨c2,z2,g1,g2,_,_⟩:=newB i2 j2 l2 r1 r2 m2;rw [e1] at f2;rw [e2] at g2;injection f2 with f2;injection g2 with g2;subst f2;subst g2
   have hne2:j1≠j2:=fun e=>by subst e;rw [q1] at r1;injection r1 with r1;exact hne r1
   exact hp.inj0 j1 j2 l1 l2 q2 r2 m1 m2 hne2 _ _ f1 g1
  ·have m1:¬ l1.Nil:=fun e=>n1 ((za3 q3).2 e);obtain ⟨c1,z1,f1,f2,f3,_⟩:=newB i1 j1 l1 q1 q2 m1;obtain ⟨c2,z2,g1,_,_⟩:=hH.hp i2 k2 r1 n2;have g2:=oldB i2 c2 z2 g1;rw [e1] at f2;rw [e2] at g2;injection f2 with f2;injection g2 with g2;subst f2;subst g2
   intro e;have:=oldF i2 k2 c2 z2 r1 n2 r2 g1;exact f3 (by rw [show c1.k=c2.k from e];exact this)
  ·have m2:¬ l2.Nil:=fun e=>n2 ((za3 r3).2 e);obtain ⟨c2,z2,g1,g2,g3,_⟩:=newB i2 j2 l2 r1 r2 m2;obtain ⟨c1,z1,f1,_,_⟩:=hH.hp i1 k1 q1 n1;have f2:=oldB i1 c1 z1 f1;rw [e1] at f2;rw [e2] at g2;injection f2 with f2;injection g2 with g2;subst f2;subst g2
   intro e;have:=oldF i1 k1 c1 z1 q1 n1 q2 f1;exact g3 (by rw [show c2.k=c1.k from e.symm];exact this)
  ·obtain ⟨c1,z1,f1,_,_⟩:=hH.hp i1 k1 q1 n1;obtain ⟨c2,z2,g1,_,_⟩:=hH.hp i2 k2 r1 n2;have f2:=oldB i1 c1 z1 f1;have g2:=oldB i2 c2 z2 g1;rw [e1] at f2;rw [e2] at g2;injection f2 with f2;injection g2 with g2;subst f2;subst g2;exact hH.inj0 i1 i2 k1 k2 q1 r1 n1 n2 hne _ _ f1 g1
 ·show (γ i).or ((γ'.renX σ) i)=none;rw [hH.fresh i (by omega)]
  cases hr:(γ'.renX σ) i with
  | none=>rfl
  | some p=>
   obtain ⟨j,hm,h1⟩:=G.renX_some hr;have:=(zgl hσ hm).2.2;omega
 ·obtain ⟨h1,h2⟩:=hH.rsv i hi;refine ⟨?_,by omega⟩;show (γ i).or ((γ'.renX σ) i)=none;rw [h1]
  cases hr:(γ'.renX σ) i with
  | none=>rfl
  | some p=>
   obtain ⟨j,hm,h3⟩:=G.renX_some hr;rcases zbp.1 (zak hsig (j,i) hm) with h|h
   ·obtain ⟨h4,h5⟩:=bcT h;obtain ⟨h5,_⟩:=bcT h5;have h5:=zbc h5;have hpi:=zak hpin (i,j) (zdh h5);have hpi:bc (Nat.blt j k) (pinB H i) true=true:=hpi;rw [h4] at hpi;obtain ⟨k0,h6,h7⟩:=zu2 (show pinB H i=true from hpi);obtain ⟨b,m2,e1,_⟩:=hH.hp i k0 h6 h7;rw [h1] at e1;cases e1
   ·have h:i=n+j:=Nat.eq_of_beq_eq_true h;omega
 ·have hi:(γ i).or ((γ'.renX σ) i)=some p:=hi
  cases hg:γ i with
  | none=>
   rw [hg] at hi;obtain ⟨j,_,h1⟩:=G.renX_some (show (γ'.renX σ) i=some p from hi)
   exact hp.lt j p h1
  | some q=>
   rw [hg] at hi;injection (show some q=some p from hi) with hi;subst hi
   exact Nat.lt_of_lt_of_le (hH.lt i q hg) hsz
 ·refine ⟨hp.stays.os.trans hH.stays.os,hp.stays.tape.trans hH.stays.tape,hp.stays.output.trans hH.stays.output,Nat.le_trans hH.stays.size hsz,fun k hk=>?_⟩;have h1:=w0.lt k hk;have h2:=hH.stays.size;have hF:(Bs.but w γ (InS ρ H)).F k:=by
   refine Classical.byContradiction fun hn=>notF k hn hk
  exact (hp.stays.block k hF).trans (hH.stays.block k hk)
 ·have hk:γ'.fz k=some a:=hk;obtain ⟨g1,g2,g3⟩:=hp.fzk.at' k a hk;refine ⟨g1,?_,fun i ki b m hi ni ei=>?_⟩
  ·rcases g2 with ⟨a0,h⟩|h
   ·exact (hH.fzk.at' k a0 h).2.1
   ·exact .inr (notF k h)
  ·rcases get i ki hi with ⟨j,k1,q1,q2,q3⟩|⟨q1,q2⟩
   ·have m1:¬ k1.Nil:=fun e=>ni ((za3 q3).2 e);obtain ⟨c1,z1,f1,f2,_,_⟩:=newB i j k1 q1 q2 m1;rw [ei] at f2;injection f2 with f2
    injection f2 with f2 f3
    subst f2;exact g3 j k1 _ _ q2 m1 f1
   ·obtain ⟨c1,z1,f1,_,_⟩:=hH.hp i ki q1 ni;have f2:=oldB i c1 z1 f1;rw [ei] at f2;injection f2 with f2
    injection f2 with f2 f3
    subst f2;rcases g2 with ⟨a0,h⟩|h
    ·exact (hH.fzk.at' k a0 h).2.2 i ki _ _ q1 ni f1
    ·intro e;exact h (e ▸ oldF i ki _ _ q1 ni q2 f1)
 ·obtain ⟨a,ha⟩:=hH.fzk.base k hk;exact hp.fzk.base k ⟨a,ha⟩
 ·obtain ⟨b,hb⟩:=hH.fzk.nst.rwg i v q p e;exact ⟨b,gle.le _ _ hb⟩
 ·exact hH.fzk.nst.me i me ty sh rows v ho nn (nst i _ e rfl).1
 ·obtain ⟨q1,q2,q3,q4,arr,ty3,q5,q6,q7⟩:=hH.fzk.nst.at' i me ty sh rows v ho nn (nst i _ e rfl).1 j f sh' hj hf hh k m2 hk;have hF:(Bs.but w γ (InS ρ H)).F k:=⟨q5.lt,fun i3 b3 m3 hi3 hg3=>by
   obtain ⟨_,k0,h5,h6⟩:=hi3;exact q3 i3 k0 b3 m3 h5 h6 hg3⟩
  refine ⟨q1,?_,fun i' ki b m' hi' ni ei=>?_,fun i2 me2 ty2 sh2 rows2 v2 ho2 nn2 e2=>q4 i2 me2 ty2 sh2 rows2 v2 ho2 nn2 (nst i2 _ e2 rfl).1,arr,ty3,q5.mono (hp.stays.block k hF),q6,fun a g s ha hs=>let ⟨x,hx,hc⟩:=q7 a g s ha hs;⟨x,hx,hc.mono gle⟩⟩
  ·cases e3:γ'.fz k with
   | none=>exact e3
   | some a=>
    rcases (hp.fzk.at' k a e3).2.1 with ⟨a',e4⟩|e4
    ·rw [q2] at e4;cases e4
    ·exact absurd hF e4
  ·rcases get i' ki hi' with ⟨j1,k1,r1,r2,r3⟩|⟨r1,r2⟩
   ·have m1:¬ k1.Nil:=fun e=>ni ((za3 r3).2 e);obtain ⟨c1,z1,f1,f2,f3,_⟩:=newB i' j1 k1 r1 r2 m1;rw [ei] at f2;injection f2 with f2
    injection f2 with f2 f4
    subst f2;intro e5;exact f3 (e5 ▸ hF)
   ·obtain ⟨c1,z1,f1,_,_⟩:=hH.hp i' ki r1 ni;have f2:=oldB i' c1 z1 f1;rw [ei] at f2;injection f2 with f2
    injection f2 with f2 f3
    subst f2;exact q3 i' ki _ _ r1 ni f1
def zM3 (ρ:List (Nat×Nat)) (N:Nat) (keep:List (Nat×Nat)) (H:Tr EK) (n:Nat) (r:ZMR) (σ keep2:List (Nat×Nat)) (K2:List (Nat×EK)) (a':EV):Option (Bool×EV×Tr EK×Nat):=match putL (ρ.map (fun p=>(p.1,none))++K2.map (fun p=>(p.1,some p.2))) H with
 | some H'=>bc (okN ρ N) (bc (allL (fun p=>isSomeN (lookN ρ p.1) p.2) keep) (bc (okN σ (Nat.add n r.n)) (bc (allL (fun p=>isSomeN (lookN σ p.1) p.2) keep2) (bc (sigOk ρ n r.k σ) (some (bc r.c (pinsOk ρ H r.k) false,a',H',Nat.add n r.n)) none) none) none) none) none
 | none=>none
def zM2 (ρ:List (Nat×Nat)) (N:Nat) (keep:List (Nat×Nat)) (H:Tr EK) (n:Nat) (r:ZMR) (σ keep2:List (Nat×Nat)):Option (Bool×EV×Tr EK×Nat):=match pickKX σ (mkT r.K) [] keep2 with
 | some K2=>match renEX σ 8 r.a with
  | some a'=>zM3 ρ N keep H n r σ keep2 K2 a'
  | none=>none
 | none=>none
def zM1 (sp:ZMT) (ax:List EV) (H:Tr EK) (n:Nat) (ρ:List (Nat×Nat)) (N:Nat) (keep:List (Nat×Nat)):Option (Bool×EV×Tr EK×Nat):=match mapO (renEX ρ 8) ax with
 | some ax'=>match pickKX ρ H [] keep with
  | some K=>match sp ax' (sortK K) N with
   | some r=>zM2 ρ N keep H n r (sigN ρ n r.k r.n 0) (keepN (mkT r.K) (sigN ρ n r.k r.n 0))
   | none=>none
  | none=>none
 | none=>none
def zCallM (sp:ZMT) (ax:List EV) (H:Tr EK) (n:Nat):Option (Bool×EV×Tr EK×Nat):=match closeN [] H 60 0 (addL (flatN (numsE 6) ax) ⟨[],[],0⟩) with
 | q=>zM1 sp ax H n q.ρ q.N (keepN H q.ρ)
theorem zns {g:FuncId} {sp:ZMT} (hsp:ZMtOk P g sp) (hH:HR γ w0 H n w) {ax:List EV} {us:Array Value} (ha:ECL γ ax us.toList) {r:Bool×EV×Tr EK×Nat} (h:zCallM sp ax H n=some r) (hc:r.1=true):Calls P g us w fun e w'=>∃ γ' x,GLe γ γ'∧HR γ' w0 r.2.2.1 r.2.2.2 w'∧EC γ' r.2.1 x∧e = .returned x:=by
 unfold zCallM at h;simp only at h;generalize closeN [] H 60 0 (addL (flatN (numsE 6) ax) ⟨[],[],0⟩)=q at h;obtain ⟨ρ,nils,N⟩:=q;simp only at h;generalize keepN H ρ=keep at h;unfold zM1 at h;split at h
 case h_2=>cases h
 rename_i ax' hax;split at h
 case h_2=>cases h
 rename_i K hK;split at h
 case h_2=>cases h
 rename_i z hz;generalize sigN ρ n z.k z.n 0=σ at h;generalize keepN (mkT z.K) σ=keep2 at h;unfold zM2 at h;split at h
 case h_2=>cases h
 rename_i K2 hK2;split at h
 case h_2=>cases h
 rename_i a' ha';unfold zM3 at h;split at h
 case h_2=>cases h
 rename_i H' hput;rw [bc_eq,bc_eq,bc_eq,bc_eq,bc_eq] at h;split at h
 case isFalse=>cases h
 rename_i hρ;split at h
 case isFalse=>cases h
 rename_i hkeep;split at h
 case isFalse=>cases h
 rename_i hσ;split at h
 case isFalse=>cases h
 rename_i hkeep2;split at h
 case isFalse=>cases h
 rename_i hsig;injection h with h;subst h
 obtain ⟨hc1,hc2⟩:=bcT hc;have hP:=hH.partM hρ hkeep hK (K2:=sortK K) (fun _=>zcz);obtain ⟨q1,q2⟩:=zeh hax;have hargs:ECL (γ.renX ρ) ax' us.toList:=⟨by rw [q1];exact ha.1,fun j a x h1 h2=>by
  obtain ⟨a0,h3,h4⟩:=q2 j a h1;exact EC.renX hρ h4 (ha.2 j a0 x h3 h2)⟩
 refine (hsp (γ.renX ρ) _ w us ax' (sortK K) N z hz hc1 (fun i hi=>hi) hargs hP).mono ?_
 rintro e w' ⟨γ',x,rfl,p1,p2,p3⟩
 obtain ⟨m1,m2,m3⟩:=hH.join hρ p2 hσ hsig hc2 p3 hkeep2 hK2 hput;exact ⟨γ.both γ' σ,x,m1,m3,(EC.renX hσ ha' p1).mono m2,rfl⟩
end
section
open Go.RowKit
variable {P:Program} {γ γ':G} {w0:Bs} {w:World} {H H':Tr EK} {n n':Nat} {T T0:Tr EV} {cs:List Frame} {fid:FuncId} {FT:Tr FI} {tmps:Array Value} {o:Oper}
def ZCtsOk (P:Program) (ct:Tr ZCC):Prop:=∀ g c,ct.get g=some c→ZCtOk P g c.d∧ZMtOk P g c.m
theorem ZCtsOk.nil (P:Program):ZCtsOk P .nil:=fun g c h=>by cases h
theorem ZCtsOk.add {ct:Tr ZCC} (h:ZCtsOk P ct) {g:Nat} (hg:Nat.ble g 65535=true) {c:ZCT} (hc:ZCtOk P g c):ZCtsOk P (ct.put g (some (c:ZCC))):=fun g' c' h'=>by
 rw [Tr.get_put hg] at h';split at h'
 ·rename_i e;injection h' with h';subst h';subst e;exact ⟨hc,ZMtOk.none P _⟩
 ·exact h _ _ h'
def mC (m:ZMT):ZCC:=⟨fun _=>none,m⟩
theorem ZCtsOk.addM {ct:Tr ZCC} (h:ZCtsOk P ct) {g:Nat} (hg:Nat.ble g 65535=true) {m:ZMT} (hm:ZMtOk P g m):ZCtsOk P (ct.put g (some (mC m))):=fun g' c' h'=>by
 rw [Tr.get_put hg] at h';split at h'
 ·rename_i e;injection h' with h';subst h';subst e;exact ⟨fun _ _ _ _ _ h=>(by cases h),hm⟩
 ·exact h _ _ h'
def zCallA (q:ZCC) (ax:List EV) (H:Tr EK) (n:Nat):Option (Bool×EV×Tr EK×Nat):=match zCallL q.d ax H n with
 | some r=>some r
 | none=>zCallM q.m ax H n
theorem zik {g:FuncId} {q:ZCC} (hq:ZCtOk P g q.d∧ZMtOk P g q.m) (hH:HR γ w0 H n w) {ax:List EV} {us:Array Value} (ha:ECL γ ax us.toList) {r:Bool×EV×Tr EK×Nat} (h:zCallA q ax H n=some r) (hc:r.1=true):Calls P g us w fun e w'=>∃ γ' x,GLe γ γ'∧HR γ' w0 r.2.2.1 r.2.2.2 w'∧EC γ' r.2.1 x∧e = .returned x:=by
 unfold zCallA at h;split at h
 ·rename_i r' hr;injection h with h;subst h
  exact znt hq.1 hH ha hr hc
 ·exact zns hq.2 hH ha h hc
def zCt (FT:Tr FI) (ct:Tr ZCC) (T:Tr EV) (o:Oper):Option (ZCC×List EV):=match o.op with
 | .call c=>match c.callee with
  | .value f=>match exVals T c.args.toList with
   | some args=>match exCallee T f args with
    | some (.fn g ax)=>match ct.get g with
     | some q=>match FT.get g with
      | some _=>some (q,ax)
      | none=>none
     | none=>none
    | _=>none
   | none=>none
  | _=>none
 | _=>none
theorem zii (hF:FTok P FT) {ct:Tr ZCC} (hct:ZCtsOk P ct) {q:ZCC} {ax:List EV} (h:zCt FT ct T o=some (q,ax)):(∃ c,o.op = .call c∧∃ f,c.callee = .value f)∧∃ g,(ZCtOk P g q.d∧ZMtOk P g q.m)∧∀ {RO:Tr (TypeId×SyC)} {H:Tr EK} {n:Nat} {a:EV} {H':Tr EK} {n':Nat},(∀ (γ:G) (w0:Bs) (w:World) (us:Array Value),HR γ w0 H n w→ECL γ ax us.toList→Calls P g us w fun e w'=>∃ γ' x,GLe γ γ'∧HR γ' w0 H' n' w'∧EC γ' a x∧e = .returned x)→SndL P RO T o H n a H' n':=by
 unfold zCt at h;split at h
 case h_2=>cases h
 rename_i c hop;split at h
 case h_2=>cases h
 rename_i f hf;split at h
 case h_2=>cases h
 rename_i args hargs;split at h
 case h_2=>cases h
 rename_i g ax' hcal;split at h
 case h_2=>cases h
 rename_i q' hq;split at h
 case h_2=>cases h
 rename_i fi hfi;simp only [Option.some.injEq,Prod.mk.injEq] at h;obtain ⟨rfl,rfl⟩:=h;refine ⟨⟨c,hop,f,hf⟩,g,hct g q' hq,?_⟩;intro RO H n a H' n' hcalls γ w0 w fn tmps ops i rest k ds ro cs _ hT hH ho hw;have hd:notDefer o.op=true:=by rw [hop];rfl
 have hca:=zch hT hargs;have hca:ECL γ args (c.args.map (opEval tmps)).toList:=by simpa using hca
 have hex:∀ w,(execOp (opEval tmps) o).run P w=(do let d ← resolve (opEval tmps) { callee:=.value f,args:=c.args,argTypes:=c.argTypes } o.type;invoke d.target d.args:Sem Next).run P w:=fun w=>by
  obtain ⟨callee,ar,at2⟩:=c;simp only at hf;subst hf;unfold execOp;rw [hop]
 rcases za5 (P:=P) hT (opEval tmps) rfl (xs:=c.args) (ats:=c.argTypes) (t:=o.type) rfl hca hcal with ⟨g',ax',us,e1,e2,e3⟩|⟨l',b,m,e1,_⟩
 rotate_left
 ·cases e1
 injection e1 with e4 e5;subst e4;subst e5
 obtain ⟨⟨fn',hfn,hN,hres,hb,hname⟩,_,_⟩:=hF g fi hfi;obtain ⟨e,w',fr',⟨γ',x,g1,g2,g3,rfl⟩,g4,g5,g6⟩:=hcalls γ w0 w us hH e2 (fram fn tmps (.inRegion ops (i::rest)::k) ds ro::cs);have q2:∀ w,(callFunc g us).run P w = .ok (.enter g us) w:=fun w=>by
  have h9:fn'.name ≠ "runtime.NumGoroutine":=by simpa using hname
  simp [callFunc,hfn,h9,hb]
 have hst:=Steps.trans g4 (.one (step_leave_returned g6));rw [zba ho] at hst;exact ⟨γ',w',x,g1,g2,g3,(Steps.one (zcd ho hw hd (by rw [hex,e3,q2]))).trans hst⟩
def lookO (ov:List (Nat×Bool)) (d:Nat):Option Bool:=List.rec none (fun p _ ih=>bc (Nat.beq p.1 d) (some p.2) ih) ov
def ovF (ov:List (Nat×Bool)) (d:Option Nat):Option Bool:=match d with
 | some d=>lookO ov d
 | none=>none
def ovV (ov:List (Nat×Bool)) (d:Option Nat) (a:EV):EV:=match ovF ov d with
 | some b=>match a with
  | .v (.bool _)=>.v (.bool b)
  | a=>a
 | none=>a
def ovK (ov:List (Nat×Bool)) (d:Option Nat) (a:EV):Bool:=match ovF ov d with
 | some b=>match a with
  | .v (.bool t)=>eqB t b
  | _=>true
 | none=>true
theorem zwt {ov:List (Nat×Bool)} {d:Option Nat} {a:EV} (h:ovK ov d a=true):ovV ov d a=a:=by
 unfold ovV;unfold ovK at h;split
 ·rename_i b hb;rw [hb] at h;split
  ·rename_i t;have h:eqB t b=true:=h;rw [zw5 h]
  ·rfl
 ·rfl
def ovP (ov:List (Nat×Bool)) (d:Option Nat) (p:Bool×EV):Bool×EV:=(bc p.1 (ovK ov d p.2) false,ovV ov d p.2)
def mapP (f:Bool×EV→Bool×EV) (x:Option (Bool×EV)):Option (Bool×EV):=match x with
 | some p=>some (f p)
 | none=>none
def flC (ct:Tr ZCC):Bool:=Option.isSome (ct.get 0)
def qcZ (P:Program) (FT:Tr FI) (ct:Tr ZCC) (ov:List (Nat×Bool)) (T:Tr EV) (o:Oper) (H:Tr EK) (n:Nat):Option (Bool×EV):=match zQ (flC ct) P T o H with
 | some p=>some (ovP ov o.dst p)
 | none=>match zCt FT ct T o with
  | some (sp,ax)=>mapP (ovP ov o.dst) (zCallQ sp.d ax H)
  | none=>bc (quiet o.op) (bc (memless o.op) (mapP (ovP ov o.dst) (zT (exQ P T o .nil 0))) (zT (exQ P T o H n))) none
def lcZ (P:Program) (FT:Tr FI) (sub:Sub) (ct:Tr ZCC) (T:Tr EV) (o:Oper) (H:Tr EK) (n:Nat):Option (Bool×EV×Tr EK×Nat):=match zCt FT ct T o with
 | some (sp,ax)=>zCallA sp ax H n
 | none=>match zOwn P T o H n with
  | some r=>some (r.c,r.er.val.getD (.v undef),r.er.H,r.er.n)
  | none=>match exLoud P sub T o H n with
   | some r=>some (true,r)
   | none=>none
def sndP {α:Type} (x:Option (Bool×α)):Option α:=match x with
 | some p=>some p.2
 | none=>none
def bsSeq (P:Program) (T:Tr EV) (t:TypeId) (len:Nat) (parts:Array (Nat×Operand)):Option (TypeId×Nat×SyC):=match bsCore P T t len parts with
 | some (e,z,cs)=>match shOf P 6 e with
  | some sh=>match contC sh len cs with
   | some c=>bc (Nat.beq sh.length z) (some (e,z,c)) none
   | none=>none
  | none=>none
 | none=>none
def fcZ (P:Program) (T:Tr EV) (o:Oper) (r:Nat):Option (Bool×EV×EK):=match o.op with
 | .alloc t=>match allocC P t with
  | some c=>some (true,.ptr r 0,.seq t c true)
  | none=>match exFr P T o r with
   | some p=>some (true,p)
   | none=>none
 | .makeSlice t len cap=>match makeC P T t len cap with
  | some (c,e,cc,l)=>some (c,.slO r 1 l true,.seq e cc true)
  | none=>none
 | .box t x=>match exVal T x with
  | some (.arr c)=>some (true,.ptr r 0,.seq t c true)
  | _=>match exFr P T o r with
   | some p=>some (true,p)
   | none=>none
 | .buildSlice t len parts=>bc (Nat.beq len 0) none (match bsArr P T t len parts with
  | some (c,e,m,d)=>some (c,.slO r m 1 true,.seq e d true)
  | none=>match bsSeq P T t len parts with
   | some (e,z,c)=>some (true,.slO r z len true,.seq e c true)
   | none=>match exFr P T o r with
    | some p=>some (true,p)
    | none=>none)
 | _=>match exFr P T o r with
  | some p=>some (true,p)
  | none=>none
theorem zc0 {α:Type} {x:Option (Bool×α)} {a:α} (h:sndP x=some a):∃ c,x=some (c,a):=by
 unfold sndP at h;split at h
 ·rename_i p;injection h with h;exact ⟨p.1,by rw [← h]⟩
 ·cases h
theorem ztv {r:Nat} {c:Bool} {a:EV} {k:EK} (h:fcZ P T o r=some (c,a,k)) (hc:c=true):FrSnd P T o r a k:=by
 have fr:(match exFr P T o r with
   | some p=>some (true,p)
   | none=>none)=some (c,a,k)→FrSnd P T o r a k:=fun h=>by
  split at h
  case h_2=>cases h
  rename_i p hp;injection h with h
  obtain ⟨a',k'⟩:=p;simp only [Prod.mk.injEq] at h;obtain ⟨_,rfl,rfl⟩:=h;exact zl2 hp
 unfold fcZ at h;split at h
 ·rename_i t ho;split at h
  case h_2=>exact fr h
  rename_i cc hcc;simp only [Option.some.injEq,Prod.mk.injEq] at h;obtain ⟨_,rfl,rfl⟩:=h;obtain ⟨zs,hz,hcl⟩:=zjo hcc;refine ⟨by rw [ho];rfl,⟨(fun es e=>by cases e),rfl⟩,fun γ tmps hT w=>?_⟩;obtain ⟨ca,e1,hrun⟩:=zjn (tmps:=tmps) ho hz;refine ⟨.cells ca t,ca.size,_,hrun w,fun γ' hle e=>⟨.ptr r 0 _ _ e,zbe hcl (fr_ok (by rw [e1];exact ECL.vals γ zs) hle)⟩⟩
 ·rename_i t len cap ho;split at h
  case h_2=>cases h
  rename_i c' e cc l hm;simp only [Option.some.injEq,Prod.mk.injEq] at h;obtain ⟨rfl,rfl,rfl⟩:=h;refine ⟨by rw [ho];rfl,⟨(fun es e=>by cases e),rfl⟩,fun γ tmps hT w=>?_⟩;obtain ⟨arr,h1,h2,h3,h4⟩:=zlo hT ho hm hc;have h1:l≤arr.size:=h1;exact ⟨.cells arr e,arr.size,_,h3 w,fun γ' hle er=>⟨.slO r 1 l true _ ⟨(fun e=>by cases e),fun _=>⟨_,arr.size,arr.size,er,rfl,h1,by unfold maxLen;omega,.inl (Nat.mul_one _)⟩⟩,zo0 (h4 _) h1⟩⟩
 ·rename_i t x ho;split at h
  case h_2=>exact fr h
  rename_i cc hx;simp only [Option.some.injEq,Prod.mk.injEq] at h;obtain ⟨_,rfl,rfl⟩:=h;refine ⟨by rw [ho];rfl,⟨(fun es e=>by cases e),rfl⟩,fun γ tmps hT w=>?_⟩;have hrun:(execOp (opEval tmps) o).run P w = .ok (.value (.pointer (some ⟨w.heap.size,0,none⟩))) (w.alloc (.cells (opEval tmps x).cells t)):=by
   have he:execOp (opEval tmps) o=(do pure (Next.value (← Instr.box t (opEval tmps x))):Sem Next):=by unfold execOp;rw [ho]
   rw [he];refine run_v ?_;simp [Instr.box,newVar,newRow,newObj,Sem.run]
  have hcl:ECL γ cc.enc (opEval tmps x).cells.toList:=(zaa hT hx).cells;exact ⟨.cells (opEval tmps x).cells t,(opEval tmps x).cells.size,_,hrun,fun γ' hle e=>⟨.ptr r 0 _ _ e,zbe (fun γ vs hv=>hv) (fr_ok hcl hle)⟩⟩
 ·rename_i t len parts ho;rw [bc_eq] at h;split at h
  case isTrue=>cases h
  split at h
  ·rename_i c' e m d hb;simp only [Option.some.injEq,Prod.mk.injEq] at h;obtain ⟨rfl,rfl,rfl⟩:=h;obtain ⟨rfl,hcore,hl,_⟩:=zgx hb hc;refine ⟨by rw [ho];rfl,⟨(fun es e=>by cases e),rfl⟩,fun γ tmps hT w=>?_⟩;obtain ⟨ca,hr,hcs,hs,_⟩:=zck (γ:=γ) hT ho hcore w;exact ⟨.cells ca e,ca.size,_,hr,fun γ' hle er=>⟨.slO r m 1 true _ ⟨(fun e=>by cases e),fun _=>⟨⟨w.heap.size,0⟩,ca.size,1,er,rfl,Nat.le_refl _,by unfold maxLen;omega,.inl (by rw [hs])⟩⟩,zbe (fun γ vs hv=>hv) (fr_ok hcs hle)⟩⟩
  split at h
  case h_2=>exact fr h
  rename_i e z cc hb;simp only [Option.some.injEq,Prod.mk.injEq] at h;obtain ⟨_,rfl,rfl⟩:=h;unfold bsSeq at hb;split at hb
  case h_2=>cases hb
  rename_i e' z' cs hbs;split at hb
  case h_2=>cases hb
  rename_i sh hsh;split at hb
  case h_2=>cases hb
  rename_i c' hcc;rw [bc_eq] at hb;split at hb
  case isFalse=>cases hb
  simp only [Option.some.injEq,Prod.mk.injEq] at hb;obtain ⟨rfl,rfl,rfl⟩:=hb;refine ⟨by rw [ho];rfl,⟨(fun es e=>by cases e),rfl⟩,fun γ tmps hT w=>?_⟩;obtain ⟨ca,hr,hcs,hs,hl⟩:=zck (γ:=γ) hT ho hbs w;exact ⟨.cells ca e',ca.size,_,hr,fun γ' hle er=>⟨.slO r z' len true _ ⟨(fun e=>by cases e),fun _=>⟨⟨w.heap.size,0⟩,ca.size,len,er,rfl,Nat.le_refl _,by unfold maxLen;omega,.inl (by rw [hs])⟩⟩,zbe (zd9 hcc).2.2.2 (fr_ok hcs hle)⟩⟩
 ·exact fr h
def mlZ (P:Program) (FT:Tr FI) (ct:Tr ZCC) (T:Tr EV) (o:Oper):Bool:=bc (memless o.op) true (bc (Option.isSome (zQ (flC ct) P T o .nil)) true (match zCt FT ct T o with
 | some (_,ax)=>allL (dataB 6) ax
 | none=>false))
def condZ (P:Program) (FT:Tr FI) (sub:Sub) (ct:Tr ZCC) (ov:List (Nat×Bool)) (ops:Array Oper) (T:Tr EV) (o:Oper) (V:Tr EK×Nat) (r:Nat):Bool:=match exGuard T ops o with
 | some true=>match fcZ P T o r with
  | some p=>p.1
  | none=>match qcZ P FT ct ov T o V.1 V.2 with
   | some p=>p.1
   | none=>match lcZ P FT sub ct T o V.1 V.2 with
    | some p=>p.1
    | none=>true
 | _=>true
def condsZ (P:Program) (FT:Tr FI) (sub:Sub) (ct:Tr ZCC) (ov:List (Nat×Bool)) (ops:Array Oper) (n0:Nat) (l:List Oper):Nat→List (Tr EV)→List (Tr EK×Nat)→Bool:=List.rec (fun _ _ _=>true) (fun o _ ih i Ts Vs=>match Ts with
 | Ti::Ts=>match Vs with
  | V::Vs=>bc (condZ P FT sub ct ov ops Ti o V (Nat.add n0 i)) (ih (Nat.succ i) Ts Vs) false
  | []=>false
 | []=>false) l
theorem zf5 {sub:Sub} {ct:Tr ZCC} {ov:List (Nat×Bool)} {ops:Array Oper} {n0:Nat}:∀ {l:List Oper} {i:Nat} {Ts:List (Tr EV)} {Vs:List (Tr EK×Nat)},condsZ P FT sub ct ov ops n0 l i Ts Vs=true→∀ (j:Nat) (o:Oper) (Ti:Tr EV) (V:Tr EK×Nat),l[j]? = some o→Ts[j]? = some Ti→Vs[j]? = some V→condZ P FT sub ct ov ops Ti o V (n0+(i+j))=true
 | [],i,Ts,Vs,_,j,o,Ti,V,h1,_,_=>by simp at h1
 | b::l,i,[],Vs,_,j,o,Ti,V,_,h2,_=>by simp at h2
 | b::l,i,T1::Ts,[],_,j,o,Ti,V,_,_,h3=>by simp at h3
 | b::l,i,T1::Ts,V1::Vs,h,j,o,Ti,V,h1,h2,h3=>by
  have h':bc (condZ P FT sub ct ov ops T1 b V1 (n0+i)) (condsZ P FT sub ct ov ops n0 l (i+1) Ts Vs) false=true:=h;obtain ⟨hc,h'⟩:=bcT h'
  cases j with
  | zero=>simp at h1 h2 h3;subst h1;subst h2;subst h3;exact hc
  | succ j=>
   have:=zf5 h' j o Ti V (by simpa using h1) (by simpa using h2) (by simpa using h3)
   rwa [show i+1+j=i+(j+1) by omega] at this
theorem zit {RO:Tr (TypeId×SyC)} {Ti:Tr EV} {a:EV} (hd:notDefer o.op=true) (h:∀ (γ:G) (w0:Bs) (w:World) (tmps:Array Value),TOk γ Ti tmps→HR γ w0 H n w→Gives P γ w0 w (execOp (opEval tmps) o) (some a) H' n'):SndL P RO Ti o H n a H' n':=fun γ w0 w fn tmps ops i rest k ds ro cs _ hT hH ho hw=>by
 obtain ⟨γ',w',h1,h2,x,h3,h4⟩:=h γ w0 w tmps hT hH;exact ⟨γ',w',x,h1,h2,h4,.one (zbj ho hw hd h3)⟩
theorem zbk {RO:Tr (TypeId×SyC)} {Ti:Tr EV} {v:Option EV} (hd:notDefer o.op=true) (h:∀ (γ:G) (w0:Bs) (w:World) (tmps:Array Value),TOk γ Ti tmps→HR γ w0 H n w→Gives P γ w0 w (execOp (opEval tmps) o) v H' n'):SndL P RO Ti o H n (v.getD (.v undef)) H' n':=fun γ w0 w fn tmps ops i rest k ds ro cs _ hT hH ho hw=>by
 obtain ⟨γ',w',h1,h2,h3⟩:=h γ w0 w tmps hT hH
 cases v with
 | some a=>obtain ⟨x,h3,h4⟩:=h3;exact ⟨γ',w',x,h1,h2,h4,.one (zbj ho hw hd h3)⟩
 | none=>exact ⟨γ',w',undef,h1,h2,.v _,.one (zdy ho hw hd h3)⟩
theorem zot {ov:List (Nat×Bool)} {d:Option Nat} {p:Bool×EV} (h:(ovP ov d p).1=true):p.1=true∧(ovP ov d p).2=p.2:=by
 obtain ⟨h1,h2⟩:=bcT h;exact ⟨h1,zwt h2⟩
theorem zo7 {f:Bool×EV→Bool×EV} {x:Option (Bool×EV)} {p:Bool×EV} (h:mapP f x=some p):∃ q,x=some q∧p=f q:=by
 unfold mapP at h;split at h
 ·rename_i q;injection h with h;exact ⟨q,rfl,h.symm⟩
 ·cases h
theorem zk2 {fl:Bool} {H':Tr EK} {p:Bool×EV} (h:zQ fl P T o .nil=some p):zQ fl P T o H'=some p:=by
 unfold zQ at h ⊢;split at h
 case h_2 t x ho=>
  unfold zLoad at h ⊢;split at h
  ·rename_i c j f hx;exact h
  ·cases h
  ·cases h
  ·cases h
  ·cases h
 case h_6 src dst x ho=>
  unfold zFromB at h;split at h
  case h_2=>cases h
  split at h
  case h_2=>cases h
  split at h
  ·rename_i hg;cases hg
  ·cases h
 all_goals exact h
theorem zmk {fl:Bool} {H H':Tr EK} {p:Bool×EV} (hm:memless o.op=true) (h:zQ fl P T o H=some p):zQ fl P T o H'=some p:=by
 unfold zQ at h ⊢;split at h
 case h_2 t x ho=>rw [ho] at hm;cases hm
 case h_6 src dst x ho=>rw [ho] at hm;cases hm
 all_goals exact h
mutual
theorem zpq:∀ {k:Nat} {a:EV},dataB k a=true→∃ c,∀ H:Tr EK,frzE k a H=some (c,a,H)
 | 0,a,ha=>by cases ha
 | k+1,a,ha=>by
  cases a with
  | v x=>exact ⟨true,fun H=>rfl⟩
  | lst c=>exact ⟨true,fun H=>rfl⟩
  | lp c j f=>exact ⟨true,fun H=>rfl⟩
  | arr c=>exact ⟨true,fun H=>rfl⟩
  | agg l=>
   obtain ⟨c,hl⟩:=frzL_data (k:=k) (l:=l) ha;refine ⟨c,fun H=>?_⟩;show (match frzL (frzE k) l H with
    | some (c,l',H')=>some (c,EV.agg l',H')
    | none=>none)=_
   rw [hl]
  | tup l=>
   obtain ⟨c,hl⟩:=frzL_data (k:=k) (l:=l) ha;refine ⟨c,fun H=>?_⟩;show (match frzL (frzE k) l H with
    | some (c,l',H')=>some (c,EV.tup l',H')
    | none=>none)=_
   rw [hl]
  | fn f l=>
   obtain ⟨c,hl⟩:=frzL_data (k:=k) (l:=l) ha;refine ⟨c,fun H=>?_⟩;show (match frzL (frzE k) l H with
    | some (c,l',H')=>some (c,EV.fn f l',H')
    | none=>none)=_
   rw [hl]
  | _=>cases ha
theorem frzL_data:∀ {k:Nat} {l:List EV},allL (dataB k) l=true→∃ c,∀ H:Tr EK,frzL (frzE k) l H=some (c,l,H)
 | k,[],_=>⟨true,fun H=>rfl⟩
 | k,b::l,hl=>by
  obtain ⟨hb,hl'⟩:=bcT (show bc (dataB k b) (allL (dataB k) l) false=true from hl);obtain ⟨c1,h1⟩:=zpq hb;obtain ⟨c2,h2⟩:=frzL_data hl';refine ⟨bc c1 c2 false,fun H=>?_⟩;show (match frzE k b H with
   | some (c,a',H')=>match frzL (frzE k) l H' with
    | some (c2,l',H2)=>some (bc c c2 false,a'::l',H2)
    | none=>none
   | none=>none)=_
  rw [h1];simp only [h2]
end
theorem ziz (hF:FTok P FT) {ct:Tr ZCC} (hct:ZCtsOk P ct) {ov:List (Nat×Bool)} {RO:Tr (TypeId×SyC)} {p:Bool×EV} (h:qcZ P FT ct ov T o H n=some p) (hc:p.1=true):qk o.op=true∧SndL P RO T o H n p.2 H n∧(mlZ P FT ct T o=true→∀ H' n',SndL P RO T o H' n' p.2 H' n'):=by
 unfold qcZ at h;split at h
 ·rename_i q hq;injection h with h;subst h
  obtain ⟨h1,h2⟩:=zot hc;rw [h2];have hqo:∀ {H:Tr EK},zQ (flC ct) P T o H=some q→quiet o.op=true:=fun {H} hq=>by
   unfold zQ at hq;split at hq
   all_goals first|(rename_i ho;rw [ho];rfl)|skip
   ·rename_i c ho;split at hq
    ·rename_i hcal;rw [ho];simp only [quiet,hcal];rfl
    ·cases hq
   ·cases hq
  have hsnd:∀ {H:Tr EK} {n:Nat},zQ (flC ct) P T o H=some q→SndL P RO T o H n q.2 H n:=fun {H n} hq=>zit (zax (hqo hq)) fun γ w0 w tmps hT hH=>(zQ_ok hT hH hq h1).2;refine ⟨zdc (hqo hq),hsnd hq,fun hml H' n'=>?_⟩;unfold mlZ at hml;rw [bc_eq] at hml;split at hml
  ·rename_i hm;exact hsnd (zmk hm hq)
  ·rw [bc_eq] at hml;split at hml
   ·rename_i hs;obtain ⟨p',hp'⟩:=Option.isSome_iff_exists.1 hs;have:=zk2 (H':=H) hp';rw [hq] at this;injection this with this;subst this
    exact hsnd (zk2 hp')
   ·-- a call with a contract is not known to zQ
    split at hml
    ·rename_i sp ax hctx;obtain ⟨⟨c,hop,f,hf⟩,_⟩:=zii hF hct hctx;unfold zQ at hq;rw [hop] at hq;simp only [hf] at hq;cases hq
    ·cases hml
 ·rename_i hzq;split at h
  ·rename_i sp ax hctx;obtain ⟨q,hq,rfl⟩:=zo7 h;obtain ⟨h1,h2⟩:=zot hc;rw [h2];obtain ⟨⟨c,hop,f,hf⟩,g,k1,k2⟩:=zii hF hct hctx;refine ⟨by rw [hop];simp only [qk,hf],k2 fun γ w0 w us hH ha=>zij k1.1 hH ha hq h1,fun hml H' n'=>?_⟩
   -- arguments that are data: no memory is asked
   have hd:allL (dataB 6) ax=true:=by
    unfold mlZ at hml;rw [bc_eq,if_neg (by rw [hop];simp [memless]),bc_eq] at hml;split at hml
    ·rename_i hs;obtain ⟨p',hp'⟩:=Option.isSome_iff_exists.1 hs;have:=zk2 (H':=H) hp';rw [hzq] at this;cases this
    ·rw [hctx] at hml;exact hml
   obtain ⟨c0,hfz⟩:=frzL_data hd;have hq':zCallQ sp.d ax H'=some q:=by
    unfold zCallQ at hq ⊢;rw [hfz] at hq ⊢;exact hq
   exact k2 fun γ w0 w us hH ha=>zij k1.1 hH ha hq' h1
  ·rename_i hctn;rw [bc_eq] at h;split at h
   case isFalse=>cases h
   rename_i hqo;rw [bc_eq] at h;split at h
   ·rename_i hml;obtain ⟨q,hq,rfl⟩:=zo7 h;obtain ⟨h1,h2⟩:=zot hc;rw [h2];obtain ⟨hq,_⟩:=zT_ok hq;have hs:∀ (H:Tr EK) (n:Nat),SndL P RO T o H n q.2 H n:=fun H n=>SndL.quiet (zax hqo) fun γ w0 w tmps _ hT hH=>zjc hT hH hqo (by rw [zfz hml (H':=.nil) (n':=0)];exact hq);exact ⟨zdc hqo,hs H n,fun _ H' n'=>hs H' n'⟩
   ·rename_i hml;obtain ⟨hq,_⟩:=zT_ok h;refine ⟨zdc hqo,SndL.quiet (zax hqo) fun γ w0 w tmps _ hT hH=>zjc hT hH hqo hq,fun hm H' n'=>?_⟩
    exfalso
    unfold mlZ at hm;rw [bc_eq,if_neg hml,bc_eq] at hm;split at hm
    ·rename_i hs;obtain ⟨p',hp'⟩:=Option.isSome_iff_exists.1 hs;have:=zk2 (H':=H) hp';rw [hzq] at this;cases this
    ·rw [hctn] at hm;cases hm
end
section
open Go.RowKit
variable {P:Program} {γ γ':G} {w0:Bs} {w:World} {H H':Tr EK} {n n':Nat} {T T0:Tr EV} {cs:List Frame} {fid:FuncId} {FT:Tr FI} {tmps:Array Value} {o:Oper}
theorem ztm (hF:FTok P FT) {ct:Tr ZCC} (hct:ZCtsOk P ct) {ov:List (Nat×Bool)} {p:Bool×EV} (h:qcZ P FT ct ov T o H n=some p):qk o.op=true:=by
 unfold qcZ at h;split at h
 ·rename_i q hq;refine zdc ?_;unfold zQ at hq;split at hq
  all_goals first|(rename_i ho;rw [ho];rfl)|skip
  ·rename_i c ho;split at hq
   ·rename_i hcal;rw [ho];simp only [quiet,hcal];rfl
   ·cases hq
  ·cases hq
 ·split at h
  ·rename_i sp ax hctx;obtain ⟨⟨c,hop,f,hf⟩,_⟩:=zii hF hct hctx;rw [hop];simp only [qk,hf]
  ·rw [bc_eq] at h;split at h
   ·rename_i hq;exact zdc hq
   ·cases h
theorem ztr (hF:FTok P FT) {sub:Sub} (hsub:LoudOk P sub) {ct:Tr ZCC} (hct:ZCtsOk P ct) {RO:Tr (TypeId×SyC)} {c:Bool} {a:EV} (h:lcZ P FT sub ct T o H n=some (c,a,H',n')) (hc:c=true):SndL P RO T o H n a H' n':=by
 unfold lcZ at h;split at h
 ·rename_i sp ax hctx;obtain ⟨_,g,k1,k2⟩:=zii hF hct hctx;exact k2 fun γ w0 w us hH ha=>zik k1 hH ha h hc
 ·split at h
  ·rename_i r hr;simp only [Option.some.injEq,Prod.mk.injEq] at h;obtain ⟨rfl,rfl,rfl,rfl⟩:=h;have hd:notDefer o.op=true:=by
    unfold zOwn at hr;split at hr
    all_goals first|(rename_i ho;rw [ho];rfl)|cases hr
   exact zbk hd fun γ w0 w tmps hT hH=>(znk hT hH hr hc).2
  ·split at h
   ·rename_i r hr;injection h with h
    obtain ⟨a',H2,n2⟩:=r;simp only [Prod.mk.injEq] at h;obtain ⟨_,rfl,rfl,rfl⟩:=h;exact hsub.snd hr
   ·cases h
def frF' (P:Program):FrF:=fun T o r=>sndP (fcZ P T o r)
def qF' (P:Program) (FT:Tr FI) (ct:Tr ZCC) (ov:List (Nat×Bool)):QF:=fun T o H n=>sndP (qcZ P FT ct ov T o H n)
def lF' (P:Program) (FT:Tr FI) (sub:Sub) (ct:Tr ZCC):LF:=fun T o H n=>sndP (lcZ P FT sub ct T o H n)
def ckZ (P:Program) (FT:Tr FI) (ct:Tr ZCC) (ov:List (Nat×Bool)):CK:=fun T o H n v=>match qcZ P FT ct ov T o H n with
 | some p=>bc p.1 (eqE 12 p.2 v) false
 | none=>false
def drZ2 (P:Program) (FT:Tr FI) (ct:Tr ZCC) (s:ES) (ops:Array Oper) (k:List IM) (A:List Nat) (M0:Mm) (c:CF) (louds:List Nat):EO:=bc (loudB A louds) (bc (chkFree A s.n M0 c.R louds) (drGo3 s k c.T s.n c.Fl c.R (md (fun _=>true) c.R 0 M0)) .fail) .fail
def drZ1 (P:Program) (FT:Tr FI) (sub:Sub) (ct:Tr ZCC) (ov:List (Nat×Bool)) (s:ES) (ops:Array Oper) (k:List IM) (A:List Nat) (M0:Mm):Bool×EO:=match canonF P (frF' P) (lF' P FT sub ct) (qF' P FT ct ov) ops A s.n s.top.N ops.toList 0 [] [] M0 s.top.T [] [] with
 | some c=>(bc (condsZ P FT sub ct ov ops s.n ops.toList 0 c.Ts c.Vs) (bc (chkAll (mlZ P FT ct) (ckZ P FT ct ov) ops A s.n c.Fl M0 c.R c.Ts (loudIdx c.R 0)) true false) false,drZ2 P FT ct s ops k A M0 c (loudIdx c.R 0))
 | none=>(true,.fail)
def drZ (P:Program) (FT:Tr FI) (sub:Sub) (ct:Tr ZCC) (ov:List (Nat×Bool)) (s:ES) (ops:Array Oper) (k:List IM) (A:List Nat) (m:Nat):Bool×EO:=bc (statB ops A) (bc (Nat.ble (Nat.add s.n m) 65536) (drZ1 P FT sub ct ov s ops k A ⟨s.H,Nat.add s.n m,0⟩) (true,.fail)) (true,.fail)
theorem zw6 (hm:P.follows .mixedOrders=true) (hF:FTok P FT) {sub:Sub} (hsub:LoudOk P sub) {ct:Tr ZCC} (hct:ZCtsOk P ct) {ov:List (Nat×Bool)} {s:ES} {id:Nat} {ops:Array Oper} {k:List IM} {todo:List Item} {ds:List Deferred} {ro:Option Nat} {frs:List Frame}
  (hret:s.top.ret=false) (h1:tmps.size=s.top.N) (h2:TOk γ s.top.T tmps) (hk:All2 (IR γ) k todo) (h4:All2 (DR γ) s.top.dfs ds) (h5:RR γ s.top.round ro) (hfs:All2 (FR γ) s.rest frs) (hH:HR γ w0 s.H s.n w)
  (hcc:(drZ P FT sub ct ov s ops k (ancs ops.toList []) (llen ops.toList)).1=true) :
  SOk P γ w0 cs fid (lone (fram s.top.fn tmps (.code (.region id ops true)::todo) ds ro) (frs++cs) w) (drZ P FT sub ct ov s ops k (ancs ops.toList []) (llen ops.toList)).2:=by
 unfold drZ at hcc ⊢;rw [bc_eq,bc_eq] at hcc ⊢;split
 case isFalse=>trivial
 rename_i hs;rw [if_pos hs] at hcc;split
 case isFalse=>trivial
 rename_i hroom;rw [if_pos hroom] at hcc;have hroom:=Nat.le_of_ble_eq_true hroom;have hroom:s.n+llen ops.toList≤65536:=hroom;unfold drZ1 at hcc ⊢;split
 case h_2=>trivial
 rename_i c hc;rw [hc] at hcc;have hcc:bc (condsZ P FT sub ct ov ops s.n ops.toList 0 c.Ts c.Vs) (bc (chkAll (mlZ P FT ct) (ckZ P FT ct ov) ops (ancs ops.toList []) s.n c.Fl ⟨s.H,Nat.add s.n (llen ops.toList),0⟩ c.R c.Ts (loudIdx c.R 0)) true false) false=true:=hcc;obtain ⟨hcc,hcc2⟩:=bcT hcc;have hq:chkAll (mlZ P FT ct) (ckZ P FT ct ov) ops (ancs ops.toList []) s.n c.Fl ⟨s.H,Nat.add s.n (llen ops.toList),0⟩ c.R c.Ts (loudIdx c.R 0)=true:=(bcT hcc2).1;obtain ⟨R,T',Ts,Fl,Vs⟩:=c;have hst0:=zdx hs
 obtain ⟨c1,c2,c3,_,c5,c6,_,c8⟩:=zea (T0:=s.top.T) (R:=[]) (Ts:=[]) (Vs:=[]) hst0 hc ⟨s.H,Nat.add s.n (llen ops.toList),0⟩ rfl rfl (fun j o hj=>by simpa using hj) (fun s=>by simp [lw]) rfl;have c6:Fl=frl R 0:=c6;subst c6;show SOk P γ w0 cs fid _ (drZ2 P FT ct s ops k _ _ _ _);unfold drZ2;rw [bc_eq,bc_eq];split
 case isFalse=>trivial
 rename_i hl;split
 case isFalse=>trivial
 rename_i hf;have hll:llen ops.toList=ops.size:=by rw [zac];simp
 rw [hll] at hroom
 -- the condition of an operation
 have hcond:∀ (i:Nat) (o:Oper),ops[i]? = some o→condZ P FT sub ct ov ops (tabAt ops (ancs ops.toList []) s.top.T (R.take i) i o) o (vis (ancs ops.toList []) s.n (R.take i) i (memAt ⟨s.H,Nat.add s.n (llen ops.toList),0⟩ R i),(memAt ⟨s.H,Nat.add s.n (llen ops.toList),0⟩ R i).n) (s.n+i)=true:=fun i o ho=>by
  have h1:Ts[i]? = some (tabAt ops (ancs ops.toList []) s.top.T (R.take i) i o):=by simpa using c5 i o (by simpa using ho)
  have h2:Vs[i]? = some (vis (ancs ops.toList []) s.n (R.take i) i (memAt ⟨s.H,Nat.add s.n (llen ops.toList),0⟩ R i),(memAt ⟨s.H,Nat.add s.n (llen ops.toList),0⟩ R i).n):=by simpa using c8 i o (by simpa using ho)
  have:=zf5 hcc i o _ _ (by simpa using ho) h1 h2
  rwa [Nat.zero_add] at this
 have hR:=zoj (ml:=mlZ P FT ct) (q0:=ckZ P FT ct ov) (RO:=.nil) (T0:=s.top.T) hs c1 hl hq (fun i o ho=>by simpa using c5 i o (by simpa using ho))
  (fun i o ho hgd a k hfr=>by
   have hcd:=hcond i o ho;obtain ⟨c,hfc⟩:=zc0 hfr;unfold condZ at hcd;rw [hgd] at hcd;simp only [hfc] at hcd;exact ztv hfc hcd)
  (fun T o H n a h=>by
   obtain ⟨c,hqc⟩:=zc0 h;exact ztm hF hct hqc)
  (fun i o ho hgd hnf a h=>by
   have hcd:=hcond i o ho;obtain ⟨c,hqc⟩:=zc0 h;have hfn:fcZ P (tabAt ops (ancs ops.toList []) s.top.T (R.take i) i o) o (s.n+i)=none:=by
    cases e:fcZ P (tabAt ops (ancs ops.toList []) s.top.T (R.take i) i o) o (s.n+i) with
    | none=>rfl
    | some p=>have:frF' P (tabAt ops (ancs ops.toList []) s.top.T (R.take i) i o) o (s.n+i)=some p.2:=by unfold frF';rw [e];rfl
              rw [hnf] at this;cases this
   unfold condZ at hcd;rw [hgd] at hcd;simp only [hfn] at hcd;simp only [hqc] at hcd;obtain ⟨_,q1,q2⟩:=ziz (RO:=.nil) hF hct hqc hcd;exact ⟨q1,q2⟩)
  (fun i o ho _ H n a h _=>by
   unfold ckZ at h;split at h
   case h_2=>cases h
   rename_i p hp;obtain ⟨hc1,hc2⟩:=bcT h;rw [← zl4 12 _ _ hc2];exact (ziz (RO:=.nil) hF hct hp hc1).2.1)
  (fun i o ho hgd hnf hnq a H' n' h=>by
   have hcd:=hcond i o ho;obtain ⟨c,hlc⟩:=zc0 h;have hfn:fcZ P (tabAt ops (ancs ops.toList []) s.top.T (R.take i) i o) o (s.n+i)=none:=by
    cases e:fcZ P (tabAt ops (ancs ops.toList []) s.top.T (R.take i) i o) o (s.n+i) with
    | none=>rfl
    | some p=>have:frF' P (tabAt ops (ancs ops.toList []) s.top.T (R.take i) i o) o (s.n+i)=some p.2:=by unfold frF';rw [e];rfl
              rw [hnf] at this;cases this
   have hqn:qcZ P FT ct ov (tabAt ops (ancs ops.toList []) s.top.T (R.take i) i o) o (vis (ancs ops.toList []) s.n (R.take i) i (memAt ⟨s.H,Nat.add s.n (llen ops.toList),0⟩ R i)) (memAt ⟨s.H,Nat.add s.n (llen ops.toList),0⟩ R i).n=none:=by
    cases e:qcZ P FT ct ov (tabAt ops (ancs ops.toList []) s.top.T (R.take i) i o) o (vis (ancs ops.toList []) s.n (R.take i) i (memAt ⟨s.H,Nat.add s.n (llen ops.toList),0⟩ R i)) (memAt ⟨s.H,Nat.add s.n (llen ops.toList),0⟩ R i).n with
    | none=>rfl
    | some p=>have:qF' P FT ct ov (tabAt ops (ancs ops.toList []) s.top.T (R.take i) i o) o (vis (ancs ops.toList []) s.n (R.take i) i (memAt ⟨s.H,Nat.add s.n (llen ops.toList),0⟩ R i)) (memAt ⟨s.H,Nat.add s.n (llen ops.toList),0⟩ R i).n=some p.2:=by unfold qF';rw [e];rfl
              rw [hnq] at this;cases this
   unfold condZ at hcd;rw [hgd] at hcd;simp only [hfn] at hcd;simp only [hqn] at hcd;simp only [hlc] at hcd;exact ztr hF hsub hct hlc hcd) hf rfl hroom
 obtain ⟨t,ht⟩:=zjt (P:=P) (w:=w) (cs:=frs++cs) (fn:=s.top.fn) (tmps:=tmps) (id:=id) (ops:=ops) (k:=todo) (ds:=ds) (ro:=ro) hm;have hdst:∀ (i:Nat) (o:Oper),ops[i]? = some o→∀ d,o.dst=some d→d<s.top.N:=fun i o ho d hd=>by
  exact c3 o (List.mem_of_getElem? (show ops.toList[i]? = some o by simpa using ho)) d hd
 have hrep:(fun j=>(Array.replicate ops.size false).getD j false)=fun _=>false:=funext fun j=>by
  simp only [Array.getD];split
  ·simp
  ·rfl
 obtain ⟨γ',tmps',w',hle,hst,hT2,hN2,hH2⟩:=hR.all (w0:=w0) (cs:=frs++cs) (fun q hq=>(hH.rsv q hq).2) (fn:=s.top.fn) (k:=todo) (ds:=ds) (ro:=ro) (N:=s.top.N) hdst ops.size t (Array.replicate ops.size false) γ tmps { w with drawn:=w.drawn+1 } (ROk.none _ _) (by simp)
  (by rw [hrep];intro i _ hD;cases hD) (by exact Nat.le_trans (List.length_filter_le _ _) (by simp))
  (by rw [hrep];intro sl a hs;rw [zei (fun _ _ _ _=>rfl)] at hs;exact h2 sl a hs) h1
  (by
   rw [hrep];unfold HD;rw [zb4 (fun _ _ _ _=>rfl)];have h9:HR γ w0 s.H (s.n+llen ops.toList) { w with drawn:=w.drawn+1 }:=by
    have:=hH.step (w':={ w with drawn:=w.drawn+1 }) rfl rfl rfl rfl
    exact ⟨this.hp0,this.inj0,fun i hi=>this.fresh i (by omega),fun i hi=>let ⟨q1,q2⟩:=this.rsv i hi;⟨q1,by omega⟩,this.lt,this.stays,this.fzk⟩
   refine HR.reserve (h9.congr fun b c hb=>?_) fun i hi=>?_
   ·rw [hR.kd,zb4 (fun _ _ _ _=>rfl)] at hb;have hmp:fV (mpF (fun _=>false) R) s.n 0 R b=none:=by
     cases e:fV (mpF (fun _=>false) R) s.n 0 R b with
     | none=>rfl
     | some c=>
      obtain ⟨j,r,_,_,e2⟩:=zbz.1 e;have:=(zbq.1 e2).2.1;cases this
    rw [hmp,Option.none_or] at hb
    cases hv:frV (fun j=>bc (tb 0 j) false false) s.n 0 R b with
    | none=>rw [hv,Option.none_or] at hb;exact hb
    | some c2=>
     obtain ⟨j,r,_,_,h5,_⟩:=zan.1 hv;rw [bc_eq] at h5;split at h5 <;> cases h5
   ·rcases hi with hi|⟨j,h5,_,rfl⟩
    ·obtain ⟨q1,q2⟩:=hH.rsv i hi;exact ⟨q1,show i<s.n+llen ops.toList by omega⟩
    ·exact ⟨hH.fresh _ (by omega),show s.n+j<s.n+llen ops.toList by omega⟩)
 refine ⟨γ',_,hle,(Steps.one ht).trans (hst.trans (.one zcy)),_,frs,w',rfl,⟨tmps',todo,ds,ro,by simp [fram,hret,modeOf],hN2,fun sl a hs=>hT2 sl a ((c2 sl).symm.trans hs),hk.mono fun _ _ h=>h.mono hle,h4.mono fun _ _ h=>h.mono hle,h5.mono hle⟩,hfs.mono fun _ _ h=>h.mono hle,?_⟩;unfold HD at hH2;unfold KD at hH2;rw [← zgm] at hH2;exact (HR.lessRes (r':=w0.res) hH2 fun i hi=>.inl hi)
end
section
open Go.RowKit
variable {P:Program} {γ γ':G} {w0:Bs} {w:World} {H H':Tr EK} {n n':Nat} {T0:Tr EV} {tmps:Array Value} {o:Oper} {cs:List Frame}
theorem zby {l:Array Bool} {i:Nat} (h:i<l.size):l.getD i true=l.getD i false:=by
 simp [Array.getD,h]
theorem ze7 {os:Array Oper} {listed:Array Bool} {i:Nat} {o:Oper} (hi:i∈Region.ready .any os listed) (ho:os[i]? = some o):i<os.size∧listed.getD i true=false∧∀ d∈deps o,listed.getD d false=true:=by
 unfold Region.ready at hi;rw [List.mem_filter] at hi;obtain ⟨h1,h2⟩:=hi;rw [ho] at h2;simp only [Option.map_some,Option.getD_some,Bool.and_eq_true] at h2;obtain ⟨h3,h4⟩:=h2;refine ⟨List.mem_range.1 h1,by simpa using h3,fun d hd=>?_⟩;unfold deps at hd;obtain ⟨e,he,rfl⟩:=List.mem_map.1 hd;obtain ⟨he1,he2⟩:=List.mem_filter.1 he;rw [Array.all_eq_true'] at h4;have:=h4 e (by simpa using he1);rw [he2] at this;simpa using this
theorem zhg {os:Array Oper} {listed:Array Bool} {i:Nat} {o:Oper} (ho:os[i]? = some o) (h1:listed.getD i true=false) (h2:∀ d∈deps o,listed.getD d false=true):i∈Region.ready .any os listed:=by
 unfold Region.ready;rw [List.mem_filter];refine ⟨List.mem_range.2 (Array.getElem?_eq_some_iff.1 ho).1,?_⟩;rw [h1,ho];simp only [Bool.not_false,Option.map_some,Option.getD_some,Bool.true_and];rw [Array.all_eq_true'];intro e he
 by_cases hb:Region.binds .any e=true
 ·have:=h2 e.on (by unfold deps;exact List.mem_map.2 ⟨e,List.mem_filter.2 ⟨by simpa using he,hb⟩,rfl⟩);rw [this];simp
 ·simp at hb;simp [hb]
theorem zj9 {os:Array Oper} {listed:Array Bool} (fuel t:Nat) (h:Region.ready .any os listed≠[]) :
  ∃ i t',i∈Region.ready .any os listed∧Region.linearise.go .any os (fuel+1) t listed []=i::Region.linearise.go .any os fuel t' (listed.setIfInBounds i true) []:=by
 cases hi:(Region.ready .any os listed)[t%(Region.ready .any os listed).length]? with
 | none=>
  exfalso
  have h1:0<(Region.ready .any os listed).length:=List.length_pos_iff.2 h;have h2:=Nat.mod_lt t h1;rw [List.getElem?_eq_getElem h2] at hi;cases hi
 | some i=>
  refine ⟨i,t/(Region.ready .any os listed).length,List.mem_of_getElem? hi,?_⟩;simp only [Region.linearise.go]
  change (match (Region.ready .any os listed)[t%(Region.ready .any os listed).length]? with
   | some i=>Region.linearise.go .any os fuel (t/(Region.ready .any os listed).length) (listed.setIfInBounds i true) [i]
   | none=>[].reverse)=_
  rw [hi];simp only [];rw [linearise_go_acc,List.reverse_singleton,List.singleton_append]
theorem zvf {os:Array Oper} {listed:Array Bool} (fuel t:Nat) (h:Region.ready .any os listed=[]):Region.linearise.go .any os fuel t listed []=[]:=by
 cases fuel with
 | zero=>rfl
 | succ fuel=>
  simp only [Region.linearise.go]
  change (match (Region.ready .any os listed)[t%(Region.ready .any os listed).length]? with
   | some i=>Region.linearise.go .any os fuel (t/(Region.ready .any os listed).length) (listed.setIfInBounds i true) [i]
   | none=>[].reverse)=_
  rw [h];rfl
theorem zwy {os:Array Oper} {A:List Nat} (hst:Stat os A) {c:Nat} {oc ol:Oper} (hsz:os.size=c+2) (hoc:os[c]? = some oc) (hol:os[c+1]? = some ol) (hdl:c∈deps ol) {listed:Array Bool} (hls:listed.size=os.size) (hall:∀ j,j<c→listed.getD j false=true) (h1:listed.getD c false=false) (h2:listed.getD (c+1) false=false) (fuel t:Nat):Region.linearise.go .any os (fuel+2) t listed []=[c,c+1]:=by
 have only:∀ i,i∈Region.ready .any os listed→i=c:=fun i hi=>by
  have hil:i<os.size:=by unfold Region.ready at hi;exact List.mem_range.1 (List.mem_filter.1 hi).1
  obtain ⟨_,g2,g3⟩:=ze7 hi (Array.getElem?_eq_getElem hil);rw [zby (by omega)] at g2;rcases Nat.lt_or_ge i c with h|h
  ·rw [hall i h] at g2;cases g2
  ·by_cases e:i=c
   ·exact e
   ·have e2:i=c+1:=by omega
    subst e2;have:=g3 c (by rw [Array.getElem?_eq_getElem hil] at hol;injection hol with hol;rw [hol];exact hdl)
    rw [h1] at this;cases this
 have hr:c∈Region.ready .any os listed:=zhg hoc (by rw [zby (by omega)];exact h1) fun d hd=>hall d (hst.lt c oc hoc d hd);obtain ⟨i,t1,g1,g2⟩:=zj9 (fuel+1) t (listed:=listed) (os:=os) (fun e=>by rw [e] at hr;cases hr);rw [show fuel+2=fuel+1+1 from rfl,g2,only i g1]
 have hg:∀ j,(listed.setIfInBounds c true).getD j false=if j=c then true else listed.getD j false:=fun j=>by
  by_cases e:j=c
  ·subst e;rw [if_pos rfl];simp [Array.getD,show j<listed.size by omega]
  ·rw [if_neg e];exact zbt e
 have hls2:(listed.setIfInBounds c true).size=os.size:=by simp [hls]
 have only2:∀ i,i∈Region.ready .any os (listed.setIfInBounds c true)→i=c+1:=fun i hi=>by
  have hil:i<os.size:=by unfold Region.ready at hi;exact List.mem_range.1 (List.mem_filter.1 hi).1
  obtain ⟨_,g2,_⟩:=ze7 hi (Array.getElem?_eq_getElem hil);rw [zby (by omega),hg] at g2;split at g2
  ·cases g2
  ·rename_i e;rcases Nat.lt_or_ge i c with h|h
   ·rw [hall i h] at g2;cases g2
   ·omega
 have hr2:c+1∈Region.ready .any os (listed.setIfInBounds c true):=zhg hol (by rw [zby (by omega),hg,if_neg (by omega)];exact h2) fun d hd=>by
  have:=hst.lt (c+1) ol hol d hd;rw [hg];split
  ·rfl
  ·exact hall d (by omega)
 obtain ⟨i2,t2,g3,g4⟩:=zj9 fuel t1 (listed:=listed.setIfInBounds c true) (os:=os) (fun e=>by rw [e] at hr2;cases hr2);rw [g4,only2 i2 g3];have hnil:Region.ready .any os ((listed.setIfInBounds c true).setIfInBounds (c+1) true)=[]:=by
  cases e:Region.ready .any os ((listed.setIfInBounds c true).setIfInBounds (c+1) true) with
  | nil=>rfl
  | cons x xs=>
   exfalso
   have hx:x∈Region.ready .any os ((listed.setIfInBounds c true).setIfInBounds (c+1) true):=by rw [e];exact List.mem_cons_self
   have hil:x<os.size:=by unfold Region.ready at hx;exact List.mem_range.1 (List.mem_filter.1 hx).1
   obtain ⟨_,g2,_⟩:=ze7 hx (Array.getElem?_eq_getElem hil);rw [zby (by simp;omega)] at g2
   by_cases e3:x=c+1
   ·subst e3;simp [Array.getD,show c+1<listed.size by omega] at g2
   ·rw [zbt e3,hg] at g2;split at g2
    ·cases g2
    ·rename_i e4;rw [hall x (by omega)] at g2;cases g2
 rw [zvf _ _ hnil]
section
variable {fr:FrF} {lo:LF} {q:QF} {RO:Tr (TypeId×SyC)} {ops:Array Oper} {A:List Nat} {n0:Nat} {M0:Mm} {R:List Rec} (hR:Run P fr lo q RO ops A T0 n0 M0 R)
include hR
theorem Run.pre (hres:∀ q,w0.res q→q<n0) {fn:FuncId} {k:List Item} {ds:List Deferred} {ro:Option Nat} {N:Nat} (hdst:∀ (i:Nat) (o:Oper),ops[i]? = some o→∀ d,o.dst=some d→d<N)
  {os:Array Oper} (hso:Stat os A) {oc ol:Oper} (hsz:os.size=ops.size+2) (hpre:∀ i,i<ops.size→os[i]? = ops[i]?) (hoc:os[ops.size]? = some oc) (hol:os[ops.size+1]? = some ol) (hdl:ops.size∈deps ol) (hanc:∀ j,j<ops.size→tb (atA A ops.size) j=true)
  (hgd:∀ (i:Nat) (o:Oper) (g:Nat) (b:Bool),ops[i]? = some o→o.guard=some (g,b)→g<ops.size) :
  ∀ (fuel t:Nat) (listed:Array Bool) (γ:G) (tmps:Array Value) (w:World),ROk γ w0 RO→listed.size=os.size→listed.getD ops.size false=false→listed.getD (ops.size+1) false=false→Good A ops.size (fun j=>listed.getD j false)→((List.range os.size).filter fun i=>!listed.getD i true).length≤fuel →
   TD γ ops T0 R (fun j=>listed.getD j false) tmps→tmps.size=N→HD γ w0 ops.size (fun j=>listed.getD j false) n0 R M0 w →
   ∃ γ' tmps' w',GLe γ γ'∧Steps P (lone (fram fn tmps (.inRegion os (Region.linearise.go .any os fuel t listed [])::k) ds ro) cs w) (lone (fram fn tmps' (.inRegion os [ops.size,ops.size+1]::k) ds ro) cs w')∧TD γ' ops T0 R (fun _=>true) tmps'∧tmps'.size=N∧HD γ' w0 ops.size (fun _=>true) n0 R M0 w':=by
 intro fuel
 induction fuel with
 | zero=>
  intro t listed γ tmps w hRO hls hc0 hc1 hg hc hT hN hH;have hmem:ops.size∈(List.range os.size).filter fun i=>!listed.getD i true:=by
   rw [List.mem_filter];refine ⟨List.mem_range.2 (by omega),?_⟩;rw [zby (by omega),hc0];rfl
  have:=List.length_pos_of_mem hmem;omega
 | succ fuel ih=>
  intro t listed γ tmps w hRO hls hc0 hc1 hg hc hT hN hH
  by_cases hall:∀ j,j<ops.size→listed.getD j false=true
  ·-- all ahead of it have run
   obtain ⟨f1,f2⟩:=hR.allD hall hT hH;have hmem:ops.size∈(List.range os.size).filter fun i=>!listed.getD i true:=by
    rw [List.mem_filter];exact ⟨List.mem_range.2 (by omega),by rw [zby (by omega),hc0];rfl⟩
   have hmem2:ops.size+1∈(List.range os.size).filter fun i=>!(listed.setIfInBounds ops.size true).getD i true:=by
    rw [List.mem_filter];exact ⟨List.mem_range.2 (by omega),by rw [zby (by simp;omega),zbt (by omega),hc1];rfl⟩
   have h3:=zfw (p:=fun j=>!listed.getD j true) (p':=fun j=>!(listed.setIfInBounds ops.size true).getD j true) (i:=ops.size) (fun x hx=>by
     by_cases e:x=ops.size
     ·subst e;show (!listed.getD ops.size true)=true;rw [zby (by omega),hc0];rfl
     ·simp only [zbt e] at hx;exact hx) (by show (!listed.getD ops.size true)=true;rw [zby (by omega),hc0];rfl) (by simp [Array.getD,show ops.size<listed.size by omega]) (List.mem_range.2 (show ops.size<os.size by omega))
   have h4:=List.length_pos_of_mem hmem2;obtain ⟨f,rfl⟩:∃ f,fuel=f+1:=⟨fuel-1,by omega⟩;rw [zwy hso hsz hoc hol hdl hls hall hc0 hc1];exact ⟨γ,tmps,w,GLe.refl γ,Steps.refl P _,f1,hN,f2⟩
  ·-- one that is ready
   obtain ⟨j0,hj0,hj1⟩:∃ j,j<ops.size∧listed.getD j false=false:=by
    by_cases h:∃ j,j<ops.size∧listed.getD j false=false
    ·exact h
    ·exact absurd (fun j hj=>by
      cases e:listed.getD j false with
      | true=>rfl
      | false=>exact absurd ⟨j,hj,e⟩ h) hall
   obtain ⟨j,h1,h2,h3⟩:=zgp (D:=fun j=>listed.getD j false) j0 hj1;have hjl:j<ops.size:=by omega
   have hoj:os[j]? = some ops[j]:=by rw [hpre j hjl];simp [hjl]
   have hrd:j∈Region.ready .any os listed:=zhg hoj (by rw [zby (by omega)];exact h2) fun d hd=>h3 d (hR.st.lt j ops[j] (by simp [hjl]) d hd);obtain ⟨i,t',g1,g2⟩:=zj9 fuel t (listed:=listed) (os:=os) (fun e=>by rw [e] at hrd;cases hrd);rw [g2];have hil:i<os.size:=by unfold Region.ready at g1;exact List.mem_range.1 (List.mem_filter.1 g1).1
   obtain ⟨_,g3,g4⟩:=ze7 g1 (Array.getElem?_eq_getElem hil);have hGO:Good A os.size (fun j=>listed.getD j false):=fun q hq hD j hj=>by
    rcases Nat.lt_or_ge q ops.size with h|h
    ·exact hg q h hD j hj
    ·by_cases e:q=ops.size
     ·subst e;have hD:listed.getD ops.size false=true:=hD;rw [hc0] at hD;cases hD
     ·have e2:q=ops.size+1:=by omega
      subst e2;have hD:listed.getD (ops.size+1) false=true:=hD;rw [hc1] at hD;cases hD
   have hic:i<ops.size:=by
    rcases Nat.lt_or_ge i ops.size with h|h
    ·exact h
    ·exfalso
     by_cases e:i=ops.size
     ·have h5:=hso.sub hGO (Array.getElem?_eq_getElem hil) g4 j0 (by rw [e];exact hanc j0 hj0);have h5:listed.getD j0 false=true:=h5;rw [hj1] at h5;cases h5
     ·have e2:i=ops.size+1:=by omega
      have h5:=g4 ops.size (by
       have:os[i]? = some ol:=by rw [e2];exact hol
       rw [Array.getElem?_eq_getElem hil] at this;injection this with this
       rw [this];exact hdl)
      rw [hc0] at h5;cases h5
   have ho:ops[i]? = some ops[i]:=by simp [hic]
   have hos:os[i]? = some ops[i]:=by rw [hpre i hic];exact ho
   have hoe:os[i]=ops[i]:=by rw [Array.getElem?_eq_getElem hil] at hos;injection hos
   have hnD:listed.getD i false=false:=by rw [← zby (by omega)];exact g3
   have hyw:∀ b,Region.wanted ops[i] (yielded ops tmps)=b→Region.wanted ops[i] (yielded os tmps)=b:=fun b hb=>by
    rw [← hb];unfold Region.wanted
    cases hgu:ops[i].guard with
    | none=>rfl
    | some gb=>
     obtain ⟨g,b2⟩:=gb;have:=hgd i ops[i] g b2 ho hgu;simp only;unfold yielded;rw [hpre g this]
   obtain ⟨γ1,tmps1,w1,hle1,hs1,hT1,hN1,hH1⟩:=hR.any (w:=w) (cs:=cs) (w0:=w0) hRO hres (fn:=fn) (rest:=Region.linearise.go .any os fuel t' (listed.setIfInBounds i true) []) (k:=k) (ds:=ds) (ro:=ro) hg ho hnD (fun d hd=>g4 d (by rw [hoe];exact hd)) hT hN (hdst i _ ho) hH hos hyw;have hins:(fun j=>(listed.setIfInBounds i true).getD j false)=ins (fun j=>listed.getD j false) i:=funext fun j=>by
    unfold ins
    by_cases e:j=i
    ·subst e;rw [if_pos rfl];simp [Array.getD,show j<listed.size by omega]
    ·rw [if_neg e];exact zbt e
   have hg1:Good A ops.size (fun j=>(listed.setIfInBounds i true).getD j false):=by
    rw [hins];intro q hq hDq j hj;unfold ins at hDq ⊢
    by_cases e2:j=i
    ·rw [if_pos e2]
    ·rw [if_neg e2]
     by_cases e:q=i
     ·subst e;exact hR.st.sub hg ho (fun d hd=>g4 d (by rw [hoe];exact hd)) j hj
     ·rw [if_neg e] at hDq;exact hg q hq hDq j hj
   have hm3:(fun j=>!listed.getD j true) i=true:=by simp only;rw [g3];rfl
   have hcc:((List.range os.size).filter fun j=>!(listed.setIfInBounds i true).getD j true).length≤fuel:=by
    have:=zfw (p:=fun j=>!listed.getD j true) (p':=fun j=>!(listed.setIfInBounds i true).getD j true) (i:=i) (fun x hx=>by
     by_cases e:x=i
     ·subst e;exact hm3
     ·simp only [zbt e] at hx;exact hx) hm3 (by simp [Array.getD,show i<listed.size by omega]) (List.mem_range.2 hil)
    omega
   obtain ⟨γ2,tmps2,w2,hle2,hs2,hT2,hN2,hH2⟩:=ih t' (listed.setIfInBounds i true) γ1 tmps1 w1 (hRO.mono hle1) (by simp [hls]) (by rw [zbt (by omega)];exact hc0) (by rw [zbt (by omega)];exact hc1) hg1 hcc (by rw [hins];exact hT1) hN1 (by rw [hins];exact hH1);exact ⟨γ2,tmps2,w2,hle1.trans hle2,hs1.trans hs2,hT2,hN2,hH2⟩
end
end
section
open Go.RowKit
variable {P:Program} {γ γ':G} {w0:Bs} {w:World} {H H':Tr EK} {n n':Nat} {T:Tr EV} {cs:List Frame} {fid:FuncId} {FT:Tr FI} {tmps:Array Value} {o:Oper}
def dynC (o:Oper):Option Operand:=match o.op with
 | .call c=>match c.callee with
  | .value x=>some x
  | _=>none
 | _=>none
def preL (l:List Oper):List Oper:=List.take (Nat.sub (llen l) 2) l
def preOk (l:List Oper) (A:List Nat):Bool:=match lget l (Nat.sub (llen l) 2) with
 | some _=>match lget l (Nat.succ (Nat.sub (llen l) 2)) with
  | some ol=>bc (Nat.beq (llen l) (Nat.succ (Nat.succ (Nat.sub (llen l) 2)))) (bc (anyL (fun d=>Nat.beq (Nat.sub (llen l) 2) d) (deps ol)) (bc (allI (Nat.sub (llen l) 2) fun j=>tb (atA A (Nat.sub (llen l) 2)) j) (allL (fun o=>match o.guard with
   | some (g,_)=>Nat.blt g (Nat.sub (llen l) 2)
   | none=>true) (preL l)) false) false) false
  | none=>false
 | none=>false
def drP1 (P:Program) (FT:Tr FI) (sub:Sub) (ct:Tr ZCC) (ov:List (Nat×Bool)) (s:ES) (os ops:Array Oper) (k:List IM) (A:List Nat) (M0:Mm) (x:Operand) (oc ol:Oper):Option (Bool×EO):=match canonF P (frF' P) (lF' P FT sub ct) (qF' P FT ct ov) ops A s.n s.top.N ops.toList 0 [] [] M0 s.top.T [] [] with
 | some c=>match exVal c.T x with
  | some (.yl _)=>some (bc (condsZ P FT sub ct ov ops s.n ops.toList 0 c.Ts c.Vs) (bc (chkAll (mlZ P FT ct) (ckZ P FT ct ov) ops A s.n c.Fl M0 c.R c.Ts (loudIdx c.R 0)) true false) false,drZ2 P FT ct s ops (.ops os [oc,ol]::k) A M0 c (loudIdx c.R 0))
  | _=>none
 | none=>none
def drP (P:Program) (FT:Tr FI) (sub:Sub) (ct:Tr ZCC) (ov:List (Nat×Bool)) (s:ES) (os:Array Oper) (k:List IM):Option (Bool×EO):=match lget os.toList (Nat.sub (llen os.toList) 2) with
 | some oc=>match dynC oc with
  | some x=>match lget os.toList (Nat.succ (Nat.sub (llen os.toList) 2)) with
   | some ol=>bc (preOk os.toList (ancs os.toList [])) (bc (statB os (ancs os.toList [])) (bc (statB (Array.mk (preL os.toList)) (ancs os.toList [])) (bc (Nat.ble (Nat.add s.n (llen (preL os.toList))) 65536)
     (drP1 P FT sub ct ov s os (Array.mk (preL os.toList)) k (ancs os.toList []) ⟨s.H,Nat.add s.n (llen (preL os.toList)),0⟩ x oc ol) none) none) none) none
   | none=>none
  | none=>none
 | none=>none
theorem zw7 (hm:P.follows .mixedOrders=true) (hF:FTok P FT) {sub:Sub} (hsub:LoudOk P sub) {ct:Tr ZCC} (hct:ZCtsOk P ct) {ov:List (Nat×Bool)} {s:ES} {id:Nat} {os:Array Oper} {k:List IM} {todo:List Item} {ds:List Deferred} {ro:Option Nat} {frs:List Frame}
  (hret:s.top.ret=false) (h1:tmps.size=s.top.N) (h2:TOk γ s.top.T tmps) (hk:All2 (IR γ) k todo) (h4:All2 (DR γ) s.top.dfs ds) (h5:RR γ s.top.round ro) (hfs:All2 (FR γ) s.rest frs) (hH:HR γ w0 s.H s.n w) {r:Bool×EO}
  (h:drP P FT sub ct ov s os k=some r) (hcc:r.1=true) :
  SOk P γ w0 cs fid (lone (fram s.top.fn tmps (.code (.region id os true)::todo) ds ro) (frs++cs) w) r.2:=by
 unfold drP at h;split at h
 case h_2=>cases h
 rename_i oc hoc;split at h
 case h_2=>cases h
 rename_i x hdy;split at h
 case h_2=>cases h
 rename_i ol hol;rw [bc_eq] at h;split at h
 case isFalse=>cases h
 rename_i hpk;rw [bc_eq] at h;split at h
 case isFalse=>cases h
 rename_i hso;rw [bc_eq] at h;split at h
 case isFalse=>cases h
 rename_i hs;rw [bc_eq] at h;split at h
 case isFalse=>cases h
 rename_i hroom;have hroom:=Nat.le_of_ble_eq_true hroom;obtain ⟨A,hA⟩:∃ A,A=ancs os.toList []:=⟨_,rfl⟩;rw [← hA] at h hs hso hpk;obtain ⟨c0,hc0⟩:∃ c0,c0=Nat.sub (llen os.toList) 2:=⟨_,rfl⟩;rw [← hc0] at hoc hol;rw [zai] at hoc hol;have hoc':os[c0]? = some oc:=by simpa using hoc
 have hol':os[c0+1]? = some ol:=by simpa using hol
 -- what is asked of the region's shape
 have hshape:os.size=c0+2∧c0∈deps ol∧(∀ j,j<c0→tb (atA A c0) j=true)∧∀ o∈preL os.toList,∀ g b,o.guard=some (g,b)→g<c0:=by
  unfold preOk at hpk;rw [← hc0] at hpk;rw [zai,zai] at hpk;rw [hoc] at hpk;have hol2:os.toList[Nat.succ c0]? = some ol:=hol;rw [hol2] at hpk;simp only at hpk;obtain ⟨p1,hpk⟩:=bcT hpk;obtain ⟨p2,hpk⟩:=bcT hpk;obtain ⟨p3,p4⟩:=bcT hpk;refine ⟨?_,?_,fun j hj=>zig p3 j hj,fun o ho g b hgd=>?_⟩
  ·have:=Nat.eq_of_beq_eq_true p1;rw [zac] at this;simpa using this
  ·obtain ⟨d,hd,e⟩:=zif p2;rw [Nat.eq_of_beq_eq_true e];exact hd
  ·have:=zak p4 o ho;rw [hgd] at this;exact zad this
 obtain ⟨hsz,hdl,hanc,hgd⟩:=hshape;obtain ⟨ops,hops⟩:∃ ops:Array Oper,ops=Array.mk (preL os.toList):=⟨_,rfl⟩;rw [← hops] at h hs;have hopl:ops.toList=os.toList.take c0:=by rw [hops];show preL os.toList=_;unfold preL;rw [← hc0]
 have hosz:ops.size=c0:=by rw [← Array.length_toList,hopl,List.length_take];simp;omega
 have hpl:preL os.toList=ops.toList:=by rw [hops]
 rw [hpl] at h hroom hgd;have hpre:∀ i,i<ops.size→os[i]? = ops[i]?:=fun i hi=>by
  rw [← Array.getElem?_toList,← Array.getElem?_toList (xs:=ops),hopl,List.getElem?_take,if_pos (by omega)]
 unfold drP1 at h;split at h
 case h_2=>cases h
 rename_i c hc;split at h
 case h_2=>cases h
 injection h with h
 subst h;have hcc:bc (condsZ P FT sub ct ov ops s.n ops.toList 0 c.Ts c.Vs) (bc (chkAll (mlZ P FT ct) (ckZ P FT ct ov) ops (A) s.n c.Fl ⟨s.H,Nat.add s.n (llen ops.toList),0⟩ c.R c.Ts (loudIdx c.R 0)) true false) false=true:=hcc;obtain ⟨hcc,hcc2⟩:=bcT hcc;have hq:chkAll (mlZ P FT ct) (ckZ P FT ct ov) ops (A) s.n c.Fl ⟨s.H,Nat.add s.n (llen ops.toList),0⟩ c.R c.Ts (loudIdx c.R 0)=true:=(bcT hcc2).1;obtain ⟨R,T',Ts,Fl,Vs⟩:=c;have hst0:=zdx hs
 obtain ⟨c1,c2,c3,_,c5,c6,_,c8⟩:=zea (T0:=s.top.T) (R:=[]) (Ts:=[]) (Vs:=[]) hst0 hc ⟨s.H,Nat.add s.n (llen ops.toList),0⟩ rfl rfl (fun j o hj=>by simpa using hj) (fun s=>by simp [lw]) rfl;have c6:Fl=frl R 0:=c6;subst c6;show SOk P γ w0 cs fid _ (drZ2 P FT ct s ops (.ops os [oc,ol]::k) _ _ _ _);unfold drZ2;rw [bc_eq,bc_eq];split
 case isFalse=>trivial
 rename_i hl;split
 case isFalse=>trivial
 rename_i hf;have hll:llen ops.toList=ops.size:=by rw [zac];simp
 rw [hll] at hroom
 -- the condition of an operation
 have hcond:∀ (i:Nat) (o:Oper),ops[i]? = some o→condZ P FT sub ct ov ops (tabAt ops (A) s.top.T (R.take i) i o) o (vis (A) s.n (R.take i) i (memAt ⟨s.H,Nat.add s.n (llen ops.toList),0⟩ R i),(memAt ⟨s.H,Nat.add s.n (llen ops.toList),0⟩ R i).n) (s.n+i)=true:=fun i o ho=>by
  have h1:Ts[i]? = some (tabAt ops (A) s.top.T (R.take i) i o):=by simpa using c5 i o (by simpa using ho)
  have h2:Vs[i]? = some (vis (A) s.n (R.take i) i (memAt ⟨s.H,Nat.add s.n (llen ops.toList),0⟩ R i),(memAt ⟨s.H,Nat.add s.n (llen ops.toList),0⟩ R i).n):=by simpa using c8 i o (by simpa using ho)
  have:=zf5 hcc i o _ _ (by simpa using ho) h1 h2
  rwa [Nat.zero_add] at this
 have hR:=zoj (ml:=mlZ P FT ct) (q0:=ckZ P FT ct ov) (RO:=.nil) (T0:=s.top.T) hs c1 hl hq (fun i o ho=>by simpa using c5 i o (by simpa using ho))
  (fun i o ho hgd a k hfr=>by
   have hcd:=hcond i o ho;obtain ⟨c,hfc⟩:=zc0 hfr;unfold condZ at hcd;rw [hgd] at hcd;simp only [hfc] at hcd;exact ztv hfc hcd)
  (fun T o H n a h=>by
   obtain ⟨c,hqc⟩:=zc0 h;exact ztm hF hct hqc)
  (fun i o ho hgd hnf a h=>by
   have hcd:=hcond i o ho;obtain ⟨c,hqc⟩:=zc0 h;have hfn:fcZ P (tabAt ops (A) s.top.T (R.take i) i o) o (s.n+i)=none:=by
    cases e:fcZ P (tabAt ops (A) s.top.T (R.take i) i o) o (s.n+i) with
    | none=>rfl
    | some p=>have:frF' P (tabAt ops (A) s.top.T (R.take i) i o) o (s.n+i)=some p.2:=by unfold frF';rw [e];rfl
              rw [hnf] at this;cases this
   unfold condZ at hcd;rw [hgd] at hcd;simp only [hfn] at hcd;simp only [hqc] at hcd;obtain ⟨_,q1,q2⟩:=ziz (RO:=.nil) hF hct hqc hcd;exact ⟨q1,q2⟩)
  (fun i o ho _ H n a h _=>by
   unfold ckZ at h;split at h
   case h_2=>cases h
   rename_i p hp;obtain ⟨hc1,hc2⟩:=bcT h;rw [← zl4 12 _ _ hc2];exact (ziz (RO:=.nil) hF hct hp hc1).2.1)
  (fun i o ho hgd hnf hnq a H' n' h=>by
   have hcd:=hcond i o ho;obtain ⟨c,hlc⟩:=zc0 h;have hfn:fcZ P (tabAt ops (A) s.top.T (R.take i) i o) o (s.n+i)=none:=by
    cases e:fcZ P (tabAt ops (A) s.top.T (R.take i) i o) o (s.n+i) with
    | none=>rfl
    | some p=>have:frF' P (tabAt ops (A) s.top.T (R.take i) i o) o (s.n+i)=some p.2:=by unfold frF';rw [e];rfl
              rw [hnf] at this;cases this
   have hqn:qcZ P FT ct ov (tabAt ops (A) s.top.T (R.take i) i o) o (vis (A) s.n (R.take i) i (memAt ⟨s.H,Nat.add s.n (llen ops.toList),0⟩ R i)) (memAt ⟨s.H,Nat.add s.n (llen ops.toList),0⟩ R i).n=none:=by
    cases e:qcZ P FT ct ov (tabAt ops (A) s.top.T (R.take i) i o) o (vis (A) s.n (R.take i) i (memAt ⟨s.H,Nat.add s.n (llen ops.toList),0⟩ R i)) (memAt ⟨s.H,Nat.add s.n (llen ops.toList),0⟩ R i).n with
    | none=>rfl
    | some p=>have:qF' P FT ct ov (tabAt ops (A) s.top.T (R.take i) i o) o (vis (A) s.n (R.take i) i (memAt ⟨s.H,Nat.add s.n (llen ops.toList),0⟩ R i)) (memAt ⟨s.H,Nat.add s.n (llen ops.toList),0⟩ R i).n=some p.2:=by unfold qF';rw [e];rfl
              rw [hnq] at this;cases this
   unfold condZ at hcd;rw [hgd] at hcd;simp only [hfn] at hcd;simp only [hqn] at hcd;simp only [hlc] at hcd;exact ztr hF hsub hct hlc hcd) hf rfl hroom
 obtain ⟨t,ht⟩:=zjt (P:=P) (w:=w) (cs:=frs++cs) (fn:=s.top.fn) (tmps:=tmps) (id:=id) (ops:=os) (k:=todo) (ds:=ds) (ro:=ro) hm;have hdst:∀ (i:Nat) (o:Oper),ops[i]? = some o→∀ d,o.dst=some d→d<s.top.N:=fun i o ho d hd=>by
  exact c3 o (List.mem_of_getElem? (show ops.toList[i]? = some o by simpa using ho)) d hd
 have hrep:(fun j=>(Array.replicate os.size false).getD j false)=fun _=>false:=funext fun j=>by
  simp only [Array.getD];split
  ·simp
  ·rfl
 obtain ⟨γ',tmps',w',hle,hst,hT2,hN2,hH2⟩:=hR.pre (w0:=w0) (cs:=frs++cs) (fun q hq=>(hH.rsv q hq).2) (fn:=s.top.fn) (k:=todo) (ds:=ds) (ro:=ro) (N:=s.top.N) hdst (zdx hso) (by omega) hpre (by rw [hosz];exact hoc') (by rw [hosz];exact hol') (by rw [hosz];exact hdl) (by rw [hosz];exact hanc) (fun i o g b ho hgu=>by rw [hosz];exact hgd o (List.mem_of_getElem? (show ops.toList[i]? = some o by simpa using ho)) g b hgu) os.size t (Array.replicate os.size false) γ tmps { w with drawn:=w.drawn+1 } (ROk.none _ _) (by simp)
  (congrFun hrep _) (congrFun hrep _)
  (by rw [hrep];intro i _ hD;cases hD) (by exact Nat.le_trans (List.length_filter_le _ _) (by simp))
  (by rw [hrep];intro sl a hs;rw [zei (fun _ _ _ _=>rfl)] at hs;exact h2 sl a hs) h1
  (by
   rw [hrep];unfold HD;rw [zb4 (fun _ _ _ _=>rfl)];have h9:HR γ w0 s.H (s.n+llen ops.toList) { w with drawn:=w.drawn+1 }:=by
    have:=hH.step (w':={ w with drawn:=w.drawn+1 }) rfl rfl rfl rfl
    exact ⟨this.hp0,this.inj0,fun i hi=>this.fresh i (by omega),fun i hi=>let ⟨q1,q2⟩:=this.rsv i hi;⟨q1,by omega⟩,this.lt,this.stays,this.fzk⟩
   refine HR.reserve (h9.congr fun b c hb=>?_) fun i hi=>?_
   ·rw [hR.kd,zb4 (fun _ _ _ _=>rfl)] at hb;have hmp:fV (mpF (fun _=>false) R) s.n 0 R b=none:=by
     cases e:fV (mpF (fun _=>false) R) s.n 0 R b with
     | none=>rfl
     | some c=>
      obtain ⟨j,r,_,_,e2⟩:=zbz.1 e;have:=(zbq.1 e2).2.1;cases this
    rw [hmp,Option.none_or] at hb
    cases hv:frV (fun j=>bc (tb 0 j) false false) s.n 0 R b with
    | none=>rw [hv,Option.none_or] at hb;exact hb
    | some c2=>
     obtain ⟨j,r,_,_,h5,_⟩:=zan.1 hv;rw [bc_eq] at h5;split at h5 <;> cases h5
   ·rcases hi with hi|⟨j,h5,_,rfl⟩
    ·obtain ⟨q1,q2⟩:=hH.rsv i hi;exact ⟨q1,show i<s.n+llen ops.toList by omega⟩
    ·exact ⟨hH.fresh _ (by omega),show s.n+j<s.n+llen ops.toList by omega⟩)
 refine ⟨γ',_,hle,(Steps.one ht).trans hst,_,frs,w',rfl,⟨tmps',_,ds,ro,by simp [fram,hret,modeOf],hN2,fun sl a hs=>hT2 sl a ((c2 sl).symm.trans hs),.cons (.ops os [oc,ol] [ops.size,ops.size+1] (by rw [hosz];simp [hoc',hol'])) (hk.mono fun _ _ h=>h.mono hle),h4.mono fun _ _ h=>h.mono hle,h5.mono hle⟩,hfs.mono fun _ _ h=>h.mono hle,?_⟩;unfold HD at hH2;unfold KD at hH2;rw [← zgm] at hH2;exact (HR.lessRes (r':=w0.res) hH2 fun i hi=>.inl hi)
end
section
open Go.RowKit
variable {P:Program} {γ γ':G} {w0:Bs} {w:World} {H H':Tr EK} {n n':Nat} {T:Tr EV} {cs:List Frame} {fid:FuncId} {FT:Tr FI}
def zRes1 (P:Program) (T:Tr EV) (H:Tr EK) (r:ResultVar):Option (Bool×EV):=match r with
 | .tmp t=>match T.get t with
  | some a=>some (true,a)
  | none=>none
 | .cell a t=>match T.get a with
  | some (.ptr i off)=>match H.get i with
   | some (.seq _ c _)=>match aggOf P t with
    | some (some m)=>match c.vals with
     | some _=>bc (Nat.beq off 0) (some (Nat.beq m c.cnt,.arr c)) none
     | none=>none
    | _=>none
   | _=>match loadE P t i off H with
    | some a=>some (true,a)
    | none=>none
  | _=>none
def zResL (P:Program) (T:Tr EV) (H:Tr EK) (l:List ResultVar):Option (Bool×List EV):=List.rec (some (true,[])) (fun r _ ih=>match zRes1 P T H r with
 | some p=>match ih with
  | some q=>some (bc p.1 q.1 false,p.2::q.2)
  | none=>none
 | none=>none) l
theorem zv9 (hH:HR γ w0 H n w) {t:TypeId} {i:Nat} {ty:TypeId} {c:SyC} {nn:Bool} {m:Nat} {vs:List Value} (hg:H.get i=some (.seq ty c nn)) {b:Pl} {m0:Nat} (hγ:γ i=some (b,m0)) (hag:aggOf P t=some (some m)) (hvs:c.vals=some vs) (hm:m=c.cnt):∃ x,(loadVar t (b.at 0)).run P w = .ok x w∧EC γ (.arr c) x:=by
 obtain ⟨hl,hz⟩:=SyC.vals_len hvs;have henc:=SyC.vals_enc hvs;obtain ⟨hagg,inf,hi,hs⟩:=zc9 hag;have key:∀ q y,vs[q]? = some y→w.cell? ((b.at 0).add q)=some y:=by
  intro q y hq
  by_cases h0:c.cnt=0
  ·have:vs=[]:=List.eq_nil_of_length_eq_zero (by omega);subst this;simp at hq
  ·have hlen:0<c.len:=by rw [c.len_cz,hz];omega
   obtain ⟨b2,m2,hγ2,_,ca,hb,hsz,hle,hcl⟩:=hH.hp i _ hg (zam hlen);rw [hγ] at hγ2;simp only [Option.some.injEq,Prod.mk.injEq] at hγ2;obtain ⟨rfl,rfl⟩:=hγ2;rw [henc] at hcl;have e:=zcv hcl;rw [Pl.at_add,Nat.zero_add,(zae hb).1,← Array.getElem?_toList];rw [← e,List.getElem?_take] at hq;split at hq
   ·rw [List.getElem?_drop] at hq;exact hq
   ·cases hq
 have hld:=run_loadCells_list (P:=P) w (b.at 0) vs key;rw [hl,← hm] at hld;refine ⟨.agg vs.toArray,?_,.arr c _ hvs⟩;simp only [loadVar,Sem.run_bind,Sem.run_pure,Result.andThen_ok,hagg w,if_true,sizeOf,typeInfo];simp [hi,hs,hld]
theorem zqw (hH:HR γ w0 H n w) {tmps:Array Value} (hT:TOk γ T tmps) {r:ResultVar} {p:Bool×EV} (h:zRes1 P T H r=some p) (hc:p.1=true):∃ x,(resF tmps r).run P w = .ok x w∧EC γ p.2 x:=by
 cases r with
 | tmp t=>
  unfold zRes1 at h;simp only at h;split at h
  case h_2=>cases h
  rename_i a ha;injection h with h;subst h
  obtain ⟨x,hx,hcx⟩:=hT t a ha;exact ⟨x,by simp [resF,getD_of hx],hcx⟩
 | cell ad t=>
  unfold zRes1 at h;simp only at h;split at h
  case h_2=>cases h
  rename_i i off hg;obtain ⟨x,hx,hcx⟩:=hT ad _ hg;obtain ⟨b,m,hγ,rfl⟩:=zcc hcx;split at h
  ·rename_i hk;split at h
   case h_2=>cases h
   rename_i hag;split at h
   case h_2=>cases h
   rename_i vs hvs;rw [bc_eq] at h;split at h
   case isFalse=>cases h
   rename_i hz;have hz:=Nat.eq_of_beq_eq_true hz;subst hz;injection h with h;subst h
   obtain ⟨y,hy,hcy⟩:=zv9 hH hk hγ hag hvs (Nat.eq_of_beq_eq_true hc);exact ⟨y,by simp [resF,getD_of hx,asAddr,hy],hcy⟩
  ·split at h
   case h_2=>cases h
   rename_i a ha;injection h with h;subst h
   obtain ⟨y,hy,hcy⟩:=zlq (P:=P) hH hγ ha;exact ⟨y,by simp [resF,getD_of hx,asAddr,hy],hcy⟩
theorem zk1 (hH:HR γ w0 H n w) {tmps:Array Value} (hT:TOk γ T tmps):∀ {rs:List ResultVar} {l:Bool×List EV},zResL P T H rs=some l→l.1=true→∃ vs,(rs.mapM (resF tmps)).run P w = .ok vs w∧ECL γ l.2 vs
 | [],l,h,_=>by
  have h':some (true,[])=some l:=h;injection h' with h';subst h'
  exact ⟨[],by simp,ECL.nil γ⟩
 | r::rs,l,h,hc=>by
  have h':(match zRes1 P T H r with
   | some p=>match zResL P T H rs with
    | some q=>some (bc p.1 q.1 false,p.2::q.2)
    | none=>none
   | none=>none)=some l:=h
  split at h'
  case h_2=>cases h'
  rename_i p hp;split at h'
  case h_2=>cases h'
  rename_i q hq;injection h' with h';subst h'
  have hc:bc p.1 q.1 false=true:=hc;have hp1:p.1=true:=by cases e:p.1 <;> rw [e] at hc <;> first|rfl|cases hc
  rw [hp1] at hc;obtain ⟨vs,hr,hcs⟩:=zk1 hH hT hq hc;obtain ⟨x,hx,hcx⟩:=zqw hH hT hp hp1;refine ⟨x::vs,?_,ECL.cons hcx hcs⟩;rw [List.mapM_cons];simp only [Sem.run_bind,hx,hr,Result.andThen_ok,Sem.run_pure]
theorem zResults (hH:HR γ w0 H n w) {tmps:Array Value} (hT:TOk γ T tmps) {fn:Func} {rs:List ResultVar} (hrs:fn.results=rs.toArray) {l:Bool×List EV} (h:zResL P T H rs=some l) (hc:l.1=true):∃ v,(results fn tmps).run P w = .ok v w∧EC γ (resE l.2) v:=by
 obtain ⟨vs,hr,hcs⟩:=zk1 hH hT h hc;refine ⟨resV vs,?_,zol hcs⟩;rw [zgi,hrs,Array.mapM_eq_mapM_toList];simp only [Sem.run_bind];have hm:(List.toArray <$> rs.toArray.toList.mapM (resF tmps)).run P w = .ok vs.toArray w:=by
  simp [hr]
 rw [hm]
 match vs with
 | []=>simp [resV]
 | [a]=>simp [resV]
 | a::b::l=>simp [resV]
def zRet (P:Program) (FT:Tr FI) (fid:FuncId) (s:ES):Bool×EO:=match s.top.dfs with
 | []=>match FT.get s.top.fn with
  | some i=>match zResL P s.top.T s.H i.res with
   | some l=>(l.1,match s.rest with
    | []=>bc (Nat.beq s.top.fn fid) (.done (resE l.2) s.H s.n) .fail
    | _=>giveTo s.rest (resE l.2) s.H s.n)
   | none=>(true,.fail)
  | none=>(true,.fail)
 | _=>(true,exRet P FT fid s)
theorem zt5 (hF:FTok P FT) {s:ES} {tmps:Array Value} {todo:List Item} {ds:List Deferred} {ro:Option Nat} {frs:List Frame}
  (hret:s.top.ret=true) (h1:tmps.size=s.top.N) (h2:TOk γ s.top.T tmps) (h3:All2 (IR γ) s.top.todo todo) (h4:All2 (DR γ) s.top.dfs ds) (h5:RR γ s.top.round ro) (hfs:All2 (FR γ) s.rest frs) (hH:HR γ w0 s.H s.n w) (hc:(zRet P FT fid s).1=true) :
  SOk P γ w0 cs fid (lone { fram s.top.fn tmps todo ds ro with mode:=.returning } (frs++cs) w) (zRet P FT fid s).2:=by
 unfold zRet at hc ⊢;split at hc
 ·rename_i hdfs;rw [hdfs] at h4;cases h4;split at hc
  ·rename_i i hi;split at hc
   ·rename_i l hl;obtain ⟨⟨fn,hf,hN,hres,hb,hname⟩,_⟩:=hF _ i hi;obtain ⟨v,hv,hcv⟩:=zResults hH h2 hres hl hc;show SOk P γ w0 cs fid _ (match s.rest with
     | []=>bc (Nat.beq s.top.fn fid) (.done (resE l.2) s.H s.n) .fail
     | _=>giveTo s.rest (resE l.2) s.H s.n)
    split
    ·rename_i hrest;rw [hrest] at hfs;cases hfs;rw [bc_eq];split
     ·rename_i hid;exact ⟨γ,_,w,v,GLe.refl γ,Steps.refl P _,Nat.eq_of_beq_eq_true hid,⟨rfl,rfl,rfl,fn,hf,hv⟩,hcv,hH⟩
     ·trivial
    ·refine zft hfs hH hcv fun c r hcr=>?_;subst hcr;exact .one (zim hf hv)
   ·trivial
  ·trivial
 ·exact zl0 hF hret h1 h2 h3 h4 h5 hfs hH
end
section
open Go.RowKit Go.MapKept
variable {P:Program} {γ γ':G} {w0:Bs} {w:World} {H H':Tr EK} {n n':Nat} {T:Tr EV} {tmps:Array Value} {o:Oper}
def liftV (es:List (Value×Value)):List (Value×EV):=List.rec [] (fun p _ ih=>(p.1,.v p.2)::ih) es
theorem ML.lift (γ:G):∀ es:List (Value×Value),ML γ (liftV es) es
 | []=>.nil
 | p::es=>.cons p.1 (.v p.2) (ML.lift γ es)
theorem ML.unlift:∀ {es l:List (Value×Value)},ML γ (liftV es) l→l=es
 | [],l,h=>by cases h;rfl
 | p::es,l,h=>by
  have h':ML γ ((p.1,EV.v p.2)::liftV es) l:=h
  cases h' with
  | cons _ hc hr=>rw [ML.unlift hr,ec_v hc]
def keysV (d:TypeDesc) (es:List (Value×Value)):Bool:=List.rec true (fun p _ ih=>bc (isKeyB d p.1) ih false) es
def dropV (d:TypeDesc) (k:Value) (es:List (Value×Value)):List (Value×Value):=List.rec [] (fun p _ ih=>bc (kEq d k p.1) ih (p::ih)) es
def setV (d:TypeDesc) (k x:Value) (es:List (Value×Value)):List (Value×Value):=(k,x)::dropV d k es
theorem zhu {d:TypeDesc}:∀ {es:List (Value×Value)},keysV d es=true→keysB d (liftV es)=true
 | [],_=>rfl
 | p::es,h=>by
  obtain ⟨h1,h2⟩:=bcT (show bc (isKeyB d p.1) (keysV d es) false=true from h);show bc (isKeyB d p.1) (keysB d (liftV es)) false=true;rw [h1];exact zhu h2
theorem zex (d:TypeDesc) (k:Value):∀ es:List (Value×Value),dropE d k (liftV es)=liftV (dropV d k es)
 | []=>rfl
 | p::es=>by
  show bc (kEq d k p.1) (dropE d k (liftV es)) ((p.1,EV.v p.2)::dropE d k (liftV es))=liftV (bc (kEq d k p.1) (dropV d k es) (p::dropV d k es));rw [zex d k es];cases kEq d k p.1 <;> rfl
theorem zoh (d:TypeDesc) (k x:Value) (es:List (Value×Value)):setEnt d k (.v x) (liftV es)=liftV (setV d k x es):=by
 show (k,EV.v x)::dropE d k (liftV es)=(k,EV.v x)::liftV (dropV d k es);rw [zex]
def mpoAt (T:Tr EV) (H:Tr EK) (m:Operand):Option (Nat×List (Value×Value)):=match exVal T m with
 | some (.mp i)=>match H.get i with
  | some (.mpo es)=>some (i,es)
  | _=>none
 | _=>none
theorem ze8 (hT:TOk γ T tmps) (hH:HR γ w0 H n w) {m:Operand} {i:Nat} {es:List (Value×Value)} (h:mpoAt T H m=some (i,es)) :
  ∃ (b:Pl) (q:Nat) (ents:Array MapEntry) (clock:Nat),γ i=some (b,q)∧opEval tmps m = .map (some b.k)∧H.get i=some (.mpo es)∧w.heap[b.k]? = some (.map ents clock)∧Stamped ents clock∧(kvs ents).Perm es:=by
 unfold mpoAt at h;split at h
 case h_2=>cases h
 rename_i j hm;split at h
 case h_2=>cases h
 rename_i es' hg;simp only [Option.some.injEq,Prod.mk.injEq] at h;obtain ⟨rfl,rfl⟩:=h;have hc:=zaa hT hm;generalize hy:opEval tmps m=y at hc
 cases hc with
 | mp _ b q hγ=>
  obtain ⟨b2,q2,h1,_,ents,clock,h2,h3,h4⟩:=hH.hp j _ hg (by exact id);rw [hγ] at h1;simp only [Option.some.injEq,Prod.mk.injEq] at h1;obtain ⟨rfl,rfl⟩:=h1;exact ⟨b,q,ents,clock,hγ,rfl,hg,h2,h3,h4⟩
def zMapUpd (P:Program) (T:Tr EV) (t:TypeId) (m k x:Operand) (H:Tr EK) (n:Nat):Option YR:=match mpoAt T H m with
 | some (i,es)=>match mapOf P t with
  | some (_,_,d)=>match exVal T k with
   | some (.v kv)=>match exVal T x with
    | some (.v xv)=>bc (Nat.ble i 65535) (some ⟨bc (isKeyB d kv) (keysV d es) false,⟨none,H.put i (some (.mpo (setV d kv xv es))),n⟩⟩) none
    | _=>none
   | _=>none
  | none=>none
 | none=>none
theorem zml (hT:TOk γ T tmps) (hH:HR γ w0 H n w) {t:TypeId} {m k x:Operand} {r:YR} (ho:execOp (opEval tmps) o=(do Instr.mapUpdate t (opEval tmps m) (opEval tmps k) (opEval tmps x);pure Next.skip:Sem Next)) (h:zMapUpd P T t m k x H n=some r) (hc:r.c=true):Gives P γ w0 w (execOp (opEval tmps) o) r.er.val r.er.H r.er.n:=by
 unfold zMapUpd at h;split at h
 case h_2=>cases h
 rename_i i es hm;split at h
 case h_2=>cases h
 rename_i kt e d ht;split at h
 case h_2=>cases h
 rename_i kv hk;split at h
 case h_2=>cases h
 rename_i xv hx;rw [bc_eq] at h;split at h
 case isFalse=>cases h
 rename_i hi;injection h with h;subst h
 obtain ⟨hkey,hkeys⟩:=bcT hc;obtain ⟨b,q,ents,clock,hγ,hv,hg,hb,hs,hp⟩:=ze8 hT hH hm;obtain ⟨hu,hd⟩:=zb9 ht;have hkv:=ec_v (zaa hT hk);obtain ⟨ents',clock',r1,r2,l',r3,r4⟩:=zo3 (w:=w) hu hd (zbu hkey) (zdg (zhu hkeys)) hb hs hp (ML.lift γ es) (zaa hT hx);rw [zoh] at r4;have e4:=ML.unlift r4;subst e4;have hlt:=(Array.getElem?_eq_some_iff.1 hb).1
 refine ⟨γ,w.putObj b.k (.map ents' clock'),GLe.refl γ,hH.turn hi hg hγ _ (fun c hc=>World.putObj_heap_other hc) (by simp) rfl rfl rfl ⟨ents',clock',World.putObj_heap_same hlt,r2,r3⟩,?_⟩;show (execOp (opEval tmps) o).run P w = .ok .skip _;rw [ho,hv,hkv];simp [r1,Result.andThen]
def zMapDel (P:Program) (T:Tr EV) (args:List Operand) (ats:List TypeId) (H:Tr EK) (n:Nat):Option YR:=match args with
 | [m,k]=>match ats with
  | t::_=>match mpoAt T H m with
   | some (i,es)=>match mapOf P t with
    | some (_,_,d)=>match exVal T k with
     | some (.v kv)=>bc (Nat.ble i 65535) (some ⟨bc (isKeyB d kv) (keysV d es) false,⟨some (.v (.tuple #[])),H.put i (some (.mpo (dropV d kv es))),n⟩⟩) none
     | _=>none
    | none=>none
   | none=>none
  | _=>none
 | _=>none
theorem zmm (hT:TOk γ T tmps) (hH:HR γ w0 H n w) {args:Array Operand} {ats:Array TypeId} {r:YR} (ho:o.op = .call { callee:=.builtin .delete,args:=args,argTypes:=ats }) (h:zMapDel P T args.toList ats.toList H n=some r) (hc:r.c=true) :
  Gives P γ w0 w (execOp (opEval tmps) o) r.er.val r.er.H r.er.n:=by
 unfold zMapDel at h;split at h
 case h_2=>cases h
 rename_i m k hargs;split at h
 case h_2=>cases h
 rename_i t ts hats;split at h
 case h_2=>cases h
 rename_i i es hm;split at h
 case h_2=>cases h
 rename_i kt e d ht;split at h
 case h_2=>cases h
 rename_i kv hk;rw [bc_eq] at h;split at h
 case isFalse=>cases h
 rename_i hi;injection h with h;subst h
 obtain ⟨hkey,hkeys⟩:=bcT hc;have ha2:args = #[m,k]:=by apply Array.ext';simpa using hargs
 have ha3:ats=(t::ts).toArray:=by apply Array.ext';simpa using hats
 subst ha2;subst ha3;obtain ⟨b,q,ents,clock,hγ,hv,hg,hb,hs,hp⟩:=ze8 hT hH hm;obtain ⟨hu,hd⟩:=zb9 ht;have hkv:=ec_v (zaa hT hk);obtain ⟨ents',r1,r2,l',r3,r4⟩:=ztp (w:=w) (ty:=o.type) (ts:=ts) hu hd (zbu hkey) (zdg (zhu hkeys)) hb hs hp (ML.lift γ es);rw [zex] at r4;have e4:=ML.unlift r4;subst e4;have hlt:=(Array.getElem?_eq_some_iff.1 hb).1
 refine ⟨γ,w.putObj b.k (.map ents' clock),GLe.refl γ,hH.turn hi hg hγ _ (fun c hc=>World.putObj_heap_other hc) (by simp) rfl rfl rfl ⟨ents',clock,World.putObj_heap_same hlt,r2,r3⟩,.tuple #[],?_,.v _⟩;simp [execOp,ho,resolve,invoke,builtin,hv,hkv,r1]
def flM (ct:Tr ZCC):Bool:=Option.isSome (ct.get 1)
def zMapMk (ct:Tr ZCC) (hint:Option Operand) (H:Tr EK) (n:Nat):Option YR:=match hint with
 | none=>bc (flM ct) (bc (Nat.ble n 65535) (some ⟨true,⟨some (.mp n),H.put n (some (.mpo [])),Nat.succ n⟩⟩) none) none
 | some _=>none
theorem znl {ct:Tr ZCC} (hH:HR γ w0 H n w) {t:TypeId} {hint:Option Operand} {r:YR} (ho:o.op = .makeMap t hint) (h:zMapMk ct hint H n=some r):Gives P γ w0 w (execOp (opEval tmps) o) r.er.val r.er.H r.er.n:=by
 unfold zMapMk at h;split at h
 case h_2=>cases h
 rw [bc_eq] at h;split at h
 case isFalse=>cases h
 rw [bc_eq] at h;split at h
 case isFalse=>cases h
 rename_i hn;injection h with h;subst h
 have hnew:HR (γ.upd n (⟨w.heap.size,0⟩,0)) w0 (H.put n (some (.mpo []))) (n+1) (w.alloc (.map #[] 0)):=hH.new hn (.map #[] 0) 0 (.mpo []) rfl rfl rfl rfl ⟨#[],0,World.alloc_heap_new w (.map #[] 0),stamped_empty 0,by simp [kvs]⟩;exact ⟨_,w.alloc (.map #[] 0),G.upd_le (hH.fresh n (Nat.le_refl _)),hnew,.map (some w.heap.size),zcn ho w,.mp n ⟨w.heap.size,0⟩ 0 G.upd_same⟩
def zMapO (P:Program) (ct:Tr ZCC) (T:Tr EV) (o:Oper) (H:Tr EK) (n:Nat):Option YR:=match o.op with
 | .makeMap _ hint=>zMapMk ct hint H n
 | .mapUpdate t m k x=>zMapUpd P T t m k x H n
 | .call c=>match c.callee with
  | .builtin .delete=>zMapDel P T c.args.toList c.argTypes.toList H n
  | _=>none
 | _=>none
theorem zq0 {ct:Tr ZCC} {r:YR} (h:zMapO P ct T o H n=some r):notDefer o.op=true:=by
 unfold zMapO at h;split at h
 all_goals first|(rename_i ho;rw [ho];rfl)|cases h
theorem zqz {ct:Tr ZCC} (hT:TOk γ T tmps) (hH:HR γ w0 H n w) {r:YR} (h:zMapO P ct T o H n=some r) (hc:r.c=true):Gives P γ w0 w (execOp (opEval tmps) o) r.er.val r.er.H r.er.n:=by
 unfold zMapO at h;split at h
 ·rename_i t hint ho;exact znl hH ho h
 ·rename_i t m k x ho;exact zml hT hH (by unfold execOp;rw [ho]) h hc
 ·rename_i c ho;split at h
  case h_2=>cases h
  rename_i hcal;obtain ⟨callee,args,ats⟩:=c;simp only at hcal;subst hcal;exact zmm hT hH ho h hc
 ·cases h
end
end Go.Proofs.Ytepiiaeiogdphaa.Ev
