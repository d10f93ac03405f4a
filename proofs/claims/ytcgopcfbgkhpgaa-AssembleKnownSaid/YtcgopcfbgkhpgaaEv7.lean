/- The reckoner's operations: make, literals, parts, lengths, functions. No program is named. -/
import Derived.Test.YtcgopcfbgkhpgaaEv6
import Derived.Laws.Tables
namespace Go.Proofs.Ytcgopcfbgkhpgaa.Ev
open Go.RowKit
variable {P : Program} {γ : G} {w0 : Bs} {w : World} {H H' : Tr EK} {n n' : Nat} {T : Tr EV} {tmps : Array Value} {o : Oper} {r : Option EV}

/-! ### literals -/
theorem fold_set (off : Nat) : ∀ (l : List Value) (k : Nat) (cs : Array Value), off + k + l.length ≤ cs.size →
    ((l.zipIdx k).foldl (fun cs (p : Value × Nat) => cs.setIfInBounds (off + p.2) p.1) cs) = putArr cs (off + k) l
  | [], k, cs, _ => by simp [putArr]
  | v :: l, k, cs, h => by
    simp only [List.length_cons] at h
    simp only [List.zipIdx_cons, List.foldl_cons]
    rw [fold_set off l (k + 1) _ (by simp; omega), putArr]
    rfl
noncomputable def exParts (T : Tr EV) (l : List (Nat × Operand)) : Option (List (Nat × EV)) := List.rec (some []) (fun p _ ih => match exVal T p.2 with
  | some a => match ih with
    | some r => some ((p.1, a) :: r)
    | none => none
  | none => none) l
inductive PL (γ : G) : List (Nat × EV) → List (Nat × Value) → Prop where
  | nil : PL γ [] []
  | cons (i : Nat) {a : EV} {x : Value} {l : List (Nat × EV)} {m : List (Nat × Value)} (h : EC γ a x) (r : PL γ l m) : PL γ ((i, a) :: l) ((i, x) :: m)
theorem exParts_ok (hT : TOk γ T tmps) : ∀ {l : List (Nat × Operand)} {m : List (Nat × EV)}, exParts T l = some m → PL γ m (l.map fun p => (p.1, opEval tmps p.2))
  | [], m, h => by simp [exParts] at h; subst h; exact .nil
  | p :: l, m, h => by
    have h' : (match exVal T p.2 with
      | some a => match exParts T l with
        | some r => some ((p.1, a) :: r)
        | none => none
      | none => none) = some m := h
    split at h'
    case h_2 => cases h'
    rename_i a ha
    split at h'
    case h_2 => cases h'
    rename_i r hr
    injection h' with h'; subst h'
    exact .cons p.1 (exVal_ok hT ha) (exParts_ok hT hr)
noncomputable def fillE (place : Nat → Option (Nat × Nat)) (parts : List (Nat × EV)) : List EV → Option (List EV) := List.rec (fun cs => some cs) (fun p _ ih cs => match place p.1 with
  | some (off, size) => bc (Nat.beq (llen p.2.cells) size) (bc (Nat.ble (Nat.add off size) (llen cs)) (ih (Sx.putAt cs off p.2.cells)) none) none
  | none => none) parts
theorem ecl_put {cs vs : List EV} {xs : List Value} {c : Array Value} {off : Nat} (hc : ECL γ cs c.toList) (hv : ECL γ vs xs) (hle : off + vs.length ≤ cs.length) : ECL γ (Sx.putAt cs off vs) (putArr c off xs).toList := by
  have hl := hc.1
  have h := putE_take (c := c) (off := off) (cs := cs) (vs := vs) (xs := xs) (k := 0) (by rw [List.drop_zero, hl]; rw [List.take_length]; exact hc) hv hle (by simp at hl; omega)
  rwa [Nat.zero_add, List.drop_zero, List.take_of_length_le (by simp [putArr_size]; unfold Sx.putAt; simp at hl ⊢; omega)] at h
theorem fillE_ok (place : Nat → Option (Nat × Nat)) : ∀ {parts : List (Nat × EV)} {vp : List (Nat × Value)} {cs cs' : List EV} {c : Array Value}, PL γ parts vp → ECL γ cs c.toList → fillE place parts cs = some cs' → ∃ c', Instr.fill place c vp = some c' ∧ ECL γ cs' c'.toList
  | [], _, cs, cs', c, .nil, hc, h => by
    have h' : some cs = some cs' := h
    injection h' with h'; subst h'
    exact ⟨c, rfl, hc⟩
  | (i, a) :: parts, (_, x) :: vp, cs, cs', c, .cons _ ha hr, hc, h => by
    have h' : (match place i with
      | some (off, size) => bc (Nat.beq (llen a.cells) size) (bc (Nat.ble (Nat.add off size) (llen cs)) (fillE place parts (Sx.putAt cs off a.cells)) none) none
      | none => none) = some cs' := h
    split at h'
    case h_2 => cases h'
    rename_i off size hp
    rw [bc_eq, bc_eq] at h'
    split at h'
    case isFalse => cases h'
    rename_i h1
    split at h'
    case isFalse => cases h'
    rename_i h2
    have h1 := Nat.eq_of_beq_eq_true h1
    have h2 := Nat.le_of_ble_eq_true h2
    rw [llen_eq] at h1 h2
    subst h1
    have h2 : off + a.cells.length ≤ cs.length := h2
    have hac := ha.cells
    have hl := hac.1
    have hcl := hc.1
    simp only [Array.length_toList] at hl hcl
    obtain ⟨c', h3, h4⟩ := fillE_ok place hr (ecl_put hc hac h2) h'
    refine ⟨c', ?_, h4⟩
    unfold Instr.fill
    simp only [hp]
    rw [if_neg (by simp; omega)]
    have := fold_set off x.cells.toList 0 c (by simp; omega)
    rw [← h3]
    congr 1
    rw [← Array.foldl_toList, Array.toList_zipIdx]
    rw [Nat.add_zero] at this
    exact this
noncomputable def zeroCellsE (zs : List Value) (k : Nat) : List EV := (List.range k).map fun j => EV.v (zs.toArray[j % zs.toArray.size]!)
theorem zeroCellsE_ok (zs : List Value) (k : Nat) : ECL γ (zeroCellsE zs k) ((Array.range k).map (zs.toArray[· % zs.toArray.size]!)).toList := by
  have : ((Array.range k).map (zs.toArray[· % zs.toArray.size]!)).toList = (List.range k).map fun j => zs.toArray[j % zs.toArray.size]! := by simp
  rw [this]
  unfold zeroCellsE
  refine ⟨by simp, fun j a x ha hx => ?_⟩
  rw [List.getElem?_map] at ha hx
  cases hj : (List.range k)[j]? with
  | none => rw [hj] at ha; simp at ha
  | some q => rw [hj] at ha hx; simp at ha hx; subst ha; subst hx; exact .v _
noncomputable def bsCore (P : Program) (T : Tr EV) (t : TypeId) (len : Nat) (parts : Array (Nat × Operand)) : Option (TypeId × Nat × List EV) := match elemOf P t with
  | some e => match Sx.zeroL P e with
    | some zs => match Sx.sizeB P e with
      | some z => match exParts T parts.toList with
        | some ps => bc (Nat.blt 0 (Nat.mul len z)) (bc (Nat.ble (Nat.mul len z) 65536) (match fillE (fun i => some (Nat.mul i z, z)) ps (zeroCellsE zs (Nat.mul len z)) with
          | some cs => bc (Nat.ble len 65536) (some (e, z, cs)) none
          | none => none) none) none
        | none => none
      | none => none
    | none => none
  | none => none
theorem bsCore_ok (hT : TOk γ T tmps) {t : TypeId} {len : Nat} {parts : Array (Nat × Operand)} {e : TypeId} {z : Nat} {cs : List EV} (ho : o.op = .buildSlice t len parts) (h : bsCore P T t len parts = some (e, z, cs)) (w : World) :
    ∃ c : Array Value, (execOp (opEval tmps) o).run P w = .ok (.value (.slice (some ⟨w.heap.size, 0, none⟩) len len)) (w.alloc (.cells c e)) ∧ ECL γ cs c.toList ∧ c.size = len * z ∧ len ≤ 65536 := by
  unfold bsCore at h
  split at h
  case h_2 => cases h
  rename_i e he
  split at h
  case h_2 => cases h
  rename_i zs hzs
  split at h
  case h_2 => cases h
  rename_i z hz
  split at h
  case h_2 => cases h
  rename_i ps hps
  rw [bc_eq, bc_eq] at h
  split at h
  case isFalse => cases h
  rename_i h1
  split at h
  case isFalse => cases h
  rename_i h2
  split at h
  case h_2 => cases h
  rename_i cs hcs
  rw [bc_eq] at h
  split at h
  case isFalse => cases h
  rename_i h4
  simp only [Option.some.injEq, Prod.mk.injEq] at h
  obtain ⟨rfl, rfl, rfl⟩ := h
  have h1 : 0 < len * z := blt_lt h1
  have h2 : len * z ≤ 65536 := Nat.le_of_ble_eq_true h2
  have h4 := Nat.le_of_ble_eq_true h4
  obtain ⟨inf, hi, hsz⟩ := size_of hz
  obtain ⟨inf2, zv, hi2, hzv, hzl⟩ := zero_of hzs
  rw [hi] at hi2; injection hi2 with hi2; subst hi2
  have hpl := exParts_ok hT hps
  have hz0 := zeroCellsE_ok (γ := γ) zs (len * z)
  obtain ⟨c', hf, hcc⟩ := fillE_ok _ hpl hz0 hcs
  have hel := elemOf_ok he
  have hcl := hcc.1
  have hsize : c'.size = len * z := by
    have : ∀ (vp : List (Nat × Value)) (place : Nat → Option (Nat × Nat)) (c c2 : Array Value), Instr.fill place c vp = some c2 → c2.size = c.size := by
      intro vp
      induction vp with
      | nil => intro place c c2 h; simp [Instr.fill] at h; rw [h]
      | cons p vp ih =>
        intro place c c2 h
        obtain ⟨i, v⟩ := p
        unfold Instr.fill at h
        split at h
        · cases h
        · split at h
          · cases h
          · rename_i off size _ hno
            rw [ih _ _ _ h]
            have hno : v.cells.size = size ∧ off + v.cells.size ≤ c.size := by simp at hno; omega
            have hfs := fold_set off v.cells.toList 0 c (by simp; omega)
            rw [← Array.foldl_toList, Array.toList_zipIdx]
            show (List.foldl _ c _).size = _
            rw [show (List.foldl (fun cs (p : Value × Nat) => cs.setIfInBounds (off + p.2) p.1) c (v.cells.toList.zipIdx 0)) = _ from hfs, putArr_size]
    rw [this _ _ _ _ hf]; simp
  refine ⟨c', ?_, hcc, hsize, h4⟩
  have hex : execOp (opEval tmps) o = (do pure (Next.value (← Instr.buildSlice t len (parts.map fun (i, x) => (i, opEval tmps x)))) : Sem Next) := by unfold execOp; rw [ho]
  rw [hex]
  refine run_v ?_
  have hf2 : Instr.fill (fun i => some (i * z, z)) (Array.map (fun x => zv.cells[x % zv.cells.size]!) (Array.range (len * z))) (List.map (fun x => (x.fst, opEval tmps x.snd)) parts.toList) = some c' := by
    have e1 : zv.cells = zs.toArray := by rw [← hzl]
    rw [e1]
    exact hf
  have h0 : ¬ len * z = 0 := by omega
  simp [Instr.buildSlice, run_underlying hel, sizeOf, typeInfo, hi, hsz, zeroValue, hzv, h0, show ¬ 16777216 < len * z by omega, newRow, newObj, Sem.run]
  rw [hf2]
  rfl
noncomputable def exBuildSlice (P : Program) (T : Tr EV) (t : TypeId) (len : Nat) (parts : Array (Nat × Operand)) (H : Tr EK) (n : Nat) : Option ER := match bsCore P T t len parts with
  | some (e, z, cs) => bc (Nat.ble n 65535) (some ⟨some (.sl n z 0 len (some len)), H.put n (some (.cells e cs true)), Nat.succ n⟩) none
  | none => none
theorem exBuildSlice_ok (hT : TOk γ T tmps) (hH : HR γ w0 H n w) {t : TypeId} {len : Nat} {parts : Array (Nat × Operand)} {er : ER} (ho : o.op = .buildSlice t len parts) (h : exBuildSlice P T t len parts H n = some er) :
    Gives P γ w0 w (execOp (opEval tmps) o) er.val er.H er.n := by
  unfold exBuildSlice at h
  split at h
  case h_2 => cases h
  rename_i e z cs hb
  rw [bc_eq] at h
  split at h
  case isFalse => cases h
  rename_i hnb
  injection h with h; subst h
  obtain ⟨c, hr, hc, hs, hl⟩ := bsCore_ok hT ho hb w
  exact gives_new hH hnb hc hr fun γ' e => .sl n z 0 len _ _ _ len e (Nat.le_refl _) (by unfold maxLen; omega) (by rw [hs]; omega) (fun k e => by injection e) (fun e => by cases e)
/-- a struct or an array is built -/
noncomputable def placesOf (P : Program) (fs : List Field) : Option (List (Nat × Nat)) := List.rec (some []) (fun f _ ih => match P.info? f.type with
  | some i => match ih with
    | some r => some ((f.offset, i.size) :: r)
    | none => none
  | none => none) fs
theorem placesOf_eq : ∀ {fs : List Field} {l : List (Nat × Nat)}, placesOf P fs = some l → fs.mapM (fun f => (P.info? f.type).map fun i => (f.offset, i.size)) = some l
  | [], l, h => by simp [placesOf] at h; subst h; rfl
  | f :: fs, l, h => by
    have h' : (match P.info? f.type with
      | some i => match placesOf P fs with
        | some r => some ((f.offset, i.size) :: r)
        | none => none
      | none => none) = some l := h
    split at h'
    case h_2 => cases h'
    rename_i i hi
    split at h'
    case h_2 => cases h'
    rename_i r hr
    injection h' with h'; subst h'
    rw [List.mapM_cons, placesOf_eq hr, hi]
    rfl
noncomputable def exBuild (P : Program) (T : Tr EV) (t : TypeId) (parts : Array (Nat × Operand)) : Option EV := match Sx.zeroL P t with
  | some zs => match exParts T parts.toList with
    | some ps => match P.underlying t with
      | some (.struct fs) => match placesOf P fs.toList with
        | some pl => match fillE (fun i => lget pl i) ps (zs.map .v) with
          | some cs => some (packE cs)
          | none => none
        | none => none
      | some (.array _ e) => match Sx.sizeB P e with
        | some z => match fillE (fun i => some (Nat.mul i z, z)) ps (zs.map .v) with
          | some cs => some (packE cs)
          | none => none
        | none => none
      | _ => none
    | none => none
  | none => none
theorem exBuild_ok (hT : TOk γ T tmps) (hH : HR γ w0 H n w) {t : TypeId} {parts : Array (Nat × Operand)} {a : EV} (ho : o.op = .build t parts) (h : exBuild P T t parts = some a) : Gives P γ w0 w (execOp (opEval tmps) o) (some a) H n := by
  unfold exBuild at h
  split at h
  case h_2 => cases h
  rename_i zs hzs
  obtain ⟨inf, zv, hi, hzv, hzl⟩ := zero_of hzs
  split at h
  case h_2 => cases h
  rename_i ps hps
  have hpl := exParts_ok hT hps
  have hex : execOp (opEval tmps) o = (do pure (Next.value (← Instr.build t (parts.map fun (i, x) => (i, opEval tmps x)))) : Sem Next) := by unfold execOp; rw [ho]
  have e2 : (parts.map fun (i, x) => (i, opEval tmps x)).toList = parts.toList.map fun p => (p.1, opEval tmps p.2) := by simp
  have hz0 : ECL γ (zs.map .v) zv.cells.toList := by rw [hzl]; exact ECL.vals γ zs
  split at h
  · rename_i fs hu
    split at h
    case h_2 => cases h
    rename_i pl hpls
    split at h
    case h_2 => cases h
    rename_i cs hcs
    injection h with h; subst h
    obtain ⟨c', hf, hcc⟩ := fillE_ok _ hpl hz0 hcs
    refine gives_value (x := .agg c') ?_ (by have := packE_ok hcc; simpa using this) hH
    rw [hex]
    refine run_v (run_build w t _ c' ?_)
    unfold Program.built
    rw [hi, hu]
    simp only [hzv]
    rw [placesOf_eq hpls, e2]
    simp only
    rw [← hf]
    congr 1
    funext i
    rw [lget_eq]; simp
  · rename_i k e hu
    split at h
    case h_2 => cases h
    rename_i z hz
    obtain ⟨inf2, hi2, hsz2⟩ := size_of hz
    split at h
    case h_2 => cases h
    rename_i cs hcs
    injection h with h; subst h
    obtain ⟨c', hf, hcc⟩ := fillE_ok _ hpl hz0 hcs
    refine gives_value (x := .agg c') ?_ (by have := packE_ok hcc; simpa using this) hH
    rw [hex]
    refine run_v (run_build w t _ c' ?_)
    unfold Program.built
    rw [hi, hu]
    simp only [hzv, hi2, hsz2]
    rw [e2]; exact hf
  · cases h
/-! ### make -/
noncomputable def exMake (P : Program) (T : Tr EV) (t : TypeId) (len cap : Operand) (H : Tr EK) (n : Nat) : Option ER := match elemInfo P t with
  | some ei => match Sx.zeroL P ei.e with
    | some zs => match (intOf (exVal T len)).bind natOf with
      | some l => match (intOf (exVal T cap)).bind natOf with
        | some c => bc (Nat.ble l c) (bc (Nat.ble c 65536) (bc (Nat.ble (Nat.mul c ei.z) 65536) (bc (Nat.ble n 65535) (some ⟨some (.sl n ei.z 0 l (some c)), H.put n (some (.cells ei.e (zeroCellsE zs (Nat.mul c ei.z)) true)), Nat.succ n⟩) none) none) none) none
        | none => none
      | none => none
    | none => none
  | none => none
theorem exMake_ok (hT : TOk γ T tmps) (hH : HR γ w0 H n w) {t : TypeId} {len cap : Operand} {er : ER} (ho : o.op = .makeSlice t len cap) (h : exMake P T t len cap H n = some er) : Gives P γ w0 w (execOp (opEval tmps) o) er.val er.H er.n := by
  unfold exMake at h
  split at h
  case h_2 => cases h
  rename_i ei hei
  obtain ⟨hu, inf, zv, hi, hz, hsz, hzs, hpos, hby⟩ := elemInfo_ok hei
  split at h
  case h_2 => cases h
  rename_i zs hzs2
  obtain ⟨inf2, zv2, hi2, hzv2, hzl⟩ := zero_of hzs2
  rw [hi] at hi2; injection hi2 with hi2; subst hi2
  rw [hz] at hzv2; injection hzv2 with hzv2; subst hzv2
  split at h
  case h_2 => cases h
  rename_i l hl
  obtain ⟨ml, hml, hl2⟩ := Option.bind_eq_some_iff.1 hl
  obtain ⟨κ, hlen⟩ := intOf_ok hT hml
  have hl2 := natOf_ok hl2
  subst hl2
  split at h
  case h_2 => cases h
  rename_i c hc
  obtain ⟨mc, hmc, hc2⟩ := Option.bind_eq_some_iff.1 hc
  obtain ⟨κ2, hcap⟩ := intOf_ok hT hmc
  have hc2 := natOf_ok hc2
  subst hc2
  rw [bc_eq, bc_eq, bc_eq, bc_eq] at h
  split at h
  case isFalse => cases h
  rename_i h1
  split at h
  case isFalse => cases h
  rename_i h2
  split at h
  case isFalse => cases h
  rename_i h3
  split at h
  case isFalse => cases h
  rename_i hnb
  injection h with h; subst h
  have h1 := Nat.le_of_ble_eq_true h1
  have h2 := Nat.le_of_ble_eq_true h2
  have h3 : c * ei.z ≤ 65536 := Nat.le_of_ble_eq_true h3
  have hb2 := Nat.mul_le_mul hby h2
  have h8 : inf.bytes * c ≤ 281474976710656 := Nat.le_trans hb2 (Nat.le_of_ble_eq_true rfl)
  have h9 : (inf.bytes : Int) * (c : Int) ≤ 281474976710656 := by rw [← Int.natCast_mul]; omega
  have hr := run_makeSlice (P := P) w t ei.e inf zv hu hi hz κ κ2 (l : Int) (c : Int) (by omega) (by omega) (by rw [hsz, Int.toNat_natCast]; omega) h9 (by omega)
  have e1 : zv.cells = zs.toArray := by rw [← hzl]
  have hcl : (madeCells zv.cells (c * ei.z)).size = c * ei.z := size_madeCells _ _
  refine gives_new hH hnb (c := madeCells zv.cells (c * ei.z)) (by unfold madeCells; rw [e1]; exact zeroCellsE_ok zs _) (x := .slice (some ⟨w.heap.size, 0, none⟩) l c) ?_ fun γ' e => .sl n ei.z 0 l _ _ _ c e h1 (by unfold maxLen; omega) (by rw [hcl]; omega) (fun k e => by injection e) (fun e => by cases e)
  have hex : execOp (opEval tmps) o = (do pure (Next.value (← Instr.makeSlice t (.int κ l) (.int κ2 c))) : Sem Next) := by unfold execOp; rw [ho]; simp only [hlen, hcap]
  rw [hex]
  refine run_v ?_
  rw [hr, hsz]
  simp
/-! ### parts of tuples and aggregates, functions, lengths -/
noncomputable def exExtract (T : Tr EV) (x : Operand) (j : Nat) : Option EV := match exVal T x with
  | some (.tup cs) => lget cs j
  | _ => none
theorem exExtract_ok (hT : TOk γ T tmps) (hH : HR γ w0 H n w) {x : Operand} {j : Nat} {a : EV} (ho : o.op = .extract x j) (h : exExtract T x j = some a) : Gives P γ w0 w (execOp (opEval tmps) o) (some a) H n := by
  unfold exExtract at h
  split at h
  case h_2 => cases h
  rename_i cs hx
  rw [lget_eq] at h
  have hc := exVal_ok hT hx
  generalize hy : opEval tmps x = y at hc
  cases hc with
  | tup _ vs hl hcc =>
    obtain ⟨u, hu, hcu⟩ := ECL.at (γ := γ) ⟨hl, hcc⟩ h
    refine gives_value (x := u) ?_ hcu hH
    have : vs.toArray[j]? = some u := by simpa using hu
    simp [execOp, ho, hy, Instr.extract, this]
/-- a stretch of an aggregate, as a value of a type -/
noncomputable def partE (P : Program) (t : TypeId) (cs : List EV) (off : Nat) : Option EV := match aggOf P t with
  | some none => lget cs off
  | some (some m) => bc (Nat.ble (Nat.add off m) (llen cs)) (some (packE ((cs.drop off).take m))) none
  | none => none
theorem partE_ok {t : TypeId} {cs : List EV} {vs : List Value} {off : Nat} {a : EV} (hc : ECL γ cs vs) (h : partE P t cs off = some a) (w : World) : ∃ u, (part t vs.toArray off).run P w = .ok u w ∧ EC γ a u := by
  unfold partE at h
  split at h
  · rename_i hag
    rw [lget_eq] at h
    obtain ⟨u, hu, hcu⟩ := hc.at h
    have : vs.toArray[off]? = some u := by simpa using hu
    exact ⟨u, by simp [part, aggOf_one hag, this], hcu⟩
  · rename_i m hag
    rw [bc_eq] at h
    split at h
    case isFalse => cases h
    injection h with h; subst h
    obtain ⟨hagg, inf, hi, hs⟩ := aggOf_agg hag
    refine ⟨.agg (((vs.drop off).take m).toArray), ?_, packE_ok ((hc.drop off).take m)⟩
    simp [part, hagg, sizeOf, typeInfo, hi, hs]
  · cases h
noncomputable def exFieldV (P : Program) (T : Tr EV) (t : TypeId) (x : Operand) (f : Nat) : Option EV := match exVal T x with
  | some (.agg cs) => match P.underlying t with
    | some (.struct fs) => match lget fs.toList f with
      | some fd => partE P fd.type cs fd.offset
      | none => none
    | _ => none
  | _ => none
theorem exFieldV_ok (hT : TOk γ T tmps) (hH : HR γ w0 H n w) {t : TypeId} {x : Operand} {f : Nat} {a : EV} (ho : o.op = .field t x f) (h : exFieldV P T t x f = some a) : Gives P γ w0 w (execOp (opEval tmps) o) (some a) H n := by
  unfold exFieldV at h
  split at h
  case h_2 => cases h
  rename_i cs hx
  split at h
  case h_2 => cases h
  rename_i fs hu
  split at h
  case h_2 => cases h
  rename_i fd hfd
  rw [lget_eq] at hfd
  have hfd : fs[f]? = some fd := by simpa using hfd
  have hc := exVal_ok hT hx
  generalize hy : opEval tmps x = y at hc
  cases hc with
  | agg _ vs hl hcc =>
    obtain ⟨u, hu2, hcu⟩ := partE_ok (P := P) (γ := γ) ⟨hl, hcc⟩ h w
    refine gives_value (x := u) ?_ hcu hH
    simp [execOp, ho, hy, Instr.field, run_underlying hu, hfd, asAgg, hu2]
/-- an element of an array that is a value -/
noncomputable def exIndexA (P : Program) (T : Tr EV) (t : TypeId) (x ix : Operand) : Option EV := match exVal T x with
  | some (.agg cs) => match P.underlying t with
    | some (.array m e) => match Sx.sizeB P e with
      | some z => match (intOf (exVal T ix)).bind natOf with
        | some j => bc (Nat.blt j m) (partE P e cs (Nat.mul j z)) none
        | none => none
      | none => none
    | _ => none
  | _ => none
theorem exIndexA_ok (hT : TOk γ T tmps) (hH : HR γ w0 H n w) {t : TypeId} {x ix : Operand} {a : EV} (ho : o.op = .index t x ix) (h : exIndexA P T t x ix = some a) : Gives P γ w0 w (execOp (opEval tmps) o) (some a) H n := by
  unfold exIndexA at h
  split at h
  case h_2 => cases h
  rename_i cs hx
  split at h
  case h_2 => cases h
  rename_i m e hu
  split at h
  case h_2 => cases h
  rename_i z hz
  obtain ⟨inf, hi, hs⟩ := size_of hz
  split at h
  case h_2 => cases h
  rename_i j hj
  obtain ⟨mj, hmj, hj2⟩ := Option.bind_eq_some_iff.1 hj
  obtain ⟨κ, hix⟩ := intOf_ok hT hmj
  have hj2 := natOf_ok hj2
  subst hj2
  rw [bc_eq] at h
  split at h
  case isFalse => cases h
  rename_i hlt
  have hlt := blt_lt hlt
  have hc := exVal_ok hT hx
  generalize hy : opEval tmps x = y at hc
  cases hc with
  | agg _ vs hl hcc =>
    obtain ⟨u, hu2, hcu⟩ := partE_ok (P := P) (γ := γ) ⟨hl, hcc⟩ h w
    refine gives_value (x := u) ?_ hcu hH
    have hu3 : (part e vs.toArray (j * z)).run P w = .ok u w := hu2
    simp [execOp, ho, hy, hix, Instr.index, asIntOf, run_underlying hu, sizeOf, typeInfo, hi, hs, hlt, hu3]
noncomputable def exVals (T : Tr EV) (l : List Operand) : Option (List EV) := List.rec (some []) (fun x _ ih => match exVal T x with
  | some a => match ih with
    | some r => some (a :: r)
    | none => none
  | none => none) l
theorem exVals_ok (hT : TOk γ T tmps) : ∀ {l : List Operand} {m : List EV}, exVals T l = some m → ECL γ m (l.map (opEval tmps))
  | [], m, h => by simp [exVals] at h; subst h; exact ECL.nil γ
  | x :: l, m, h => by
    have h' : (match exVal T x with
      | some a => match exVals T l with
        | some r => some (a :: r)
        | none => none
      | none => none) = some m := h
    split at h'
    case h_2 => cases h'
    rename_i a ha
    split at h'
    case h_2 => cases h'
    rename_i r hr
    injection h' with h'; subst h'
    exact ECL.cons (exVal_ok hT ha) (exVals_ok hT hr)
noncomputable def exFunc (T : Tr EV) (fn : Fn) (first captured : Array Operand) : Option EV := match fn with
  | .func f => match first.toList with
    | [] => match exVals T captured.toList with
      | some l => some (.fn f l)
      | none => none
    | _ => match captured.toList with
      | [] => match exVals T first.toList with
        | some l => some (.mt f l)
        | none => none
      | _ => none
  | _ => none
theorem exFunc_ok (hT : TOk γ T tmps) (hH : HR γ w0 H n w) {fn : Fn} {first captured : Array Operand} {a : EV} (ho : o.op = .makeFunc fn first captured) (h : exFunc T fn first captured = some a) : Gives P γ w0 w (execOp (opEval tmps) o) (some a) H n := by
  unfold exFunc at h
  split at h
  case h_2 => cases h
  rename_i f
  split at h
  case h_2 =>
    split at h
    case h_2 => cases h
    rename_i hcap
    split at h
    case h_2 => cases h
    rename_i l hl
    injection h with h; subst h
    have hc := exVals_ok hT hl
    refine gives_value (x := .func (.func f) (first.toList.map (opEval tmps)).toArray #[]) ?_ (.mt f l _ hc.1 hc.2) hH
    have hf : captured = #[] := by apply Array.ext'; simpa using hcap
    have e3 : (first.toList.map (opEval tmps)).toArray = first.map (opEval tmps) := by apply Array.ext'; simp
    rw [e3]
    simp [execOp, ho, Instr.makeFunc, hf]
  rename_i hf
  split at h
  case h_2 => cases h
  rename_i l hl
  injection h with h; subst h
  have hc := exVals_ok hT hl
  refine gives_value (x := .func (.func f) #[] (captured.toList.map (opEval tmps)).toArray) ?_ (.fn f l _ hc.1 hc.2) hH
  have hf : first = #[] := by apply Array.ext'; simpa using hf
  have e3 : (captured.toList.map (opEval tmps)).toArray = captured.map (opEval tmps) := by apply Array.ext'; simp
  rw [e3]
  simp [execOp, ho, Instr.makeFunc, hf]
noncomputable def exLen (P : Program) (T : Tr EV) (x : Operand) (t : TypeId) : Option EV := match exVal T x with
  | some (.sl _ _ _ len _) => match P.underlying t with
    | some (.slice _) => some (.v (.int .i64 (Int.ofNat len)))
    | _ => none
  | some (.slE _ _ _) => match P.underlying t with
    | some (.slice _) => some (.v (.int .i64 (Int.ofNat 0)))
    | _ => none
  | _ => none
theorem exLen_ok (hT : TOk γ T tmps) (hH : HR γ w0 H n w) {x : Operand} {t : TypeId} {a : EV} (ho : o.op = .call { callee := .builtin .len, args := #[x], argTypes := #[t] }) (h : exLen P T x t = some a) : Gives P γ w0 w (execOp (opEval tmps) o) (some a) H n := by
  unfold exLen at h
  split at h
  case h_3 => cases h
  · rename_i i z off len cap hx
    split at h
    case h_2 => cases h
    rename_i e hu
    injection h with h; subst h
    obtain ⟨b, m, c, hγ, he, _⟩ := ec_sl (exVal_ok hT hx)
    refine gives_value (x := .int .i64 (len : Int)) ?_ (.v _) hH
    simp [execOp, ho, resolve, invoke, builtin, he, Builtin.len_, run_underlying hu, goInt]
  · rename_i i z off hx
    split at h
    case h_2 => cases h
    rename_i e hu
    injection h with h; subst h
    obtain ⟨b, m, c, off', hγ, he, _⟩ := ec_slE (exVal_ok hT hx)
    refine gives_value (x := .int .i64 ((0 : Nat) : Int)) ?_ (.v _) hH
    simp [execOp, ho, resolve, invoke, builtin, he, Builtin.len_, run_underlying hu, goInt]
end Go.Proofs.Ytcgopcfbgkhpgaa.Ev
