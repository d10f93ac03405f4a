/- The reckoner's operations: store, addresses, parts, slices. No program is named. -/
import Derived.Test.YtcgopcfbgkhpgaaEv3
namespace Go.Proofs.Ytcgopcfbgkhpgaa.Ev
open Go.RowKit
variable {P : Program} {γ : G} {w0 : Bs} {w : World} {H H' : Tr EK} {n n' : Nat} {T : Tr EV} {tmps : Array Value} {o : Oper} {r : Option EV}

/-- cells of an array, turned from a place on -/
def putArr (c : Array Value) : Nat → List Value → Array Value
  | _, [] => c
  | o, v :: r => putArr (c.setIfInBounds o v) (o + 1) r
theorem putArr_size : ∀ (l : List Value) (c : Array Value) (o : Nat), (putArr c o l).size = c.size
  | [], _, _ => rfl
  | v :: r, c, o => by rw [putArr, putArr_size r]; simp
theorem putArr_get : ∀ (l : List Value) (c : Array Value) (o q : Nat), o + l.length ≤ c.size → (putArr c o l)[q]? = if o ≤ q ∧ q < o + l.length then l[q - o]? else c[q]?
  | [], c, o, q, _ => by rw [putArr, if_neg (by simp)]
  | v :: r, c, o, q, h => by
    simp only [List.length_cons] at h ⊢
    rw [putArr, putArr_get r _ (o + 1) q (by simp; omega)]
    by_cases h1 : o + 1 ≤ q ∧ q < o + 1 + r.length
    · rw [if_pos h1, if_pos (by omega), show q - o = (q - (o + 1)) + 1 by omega]; simp
    · rw [if_neg h1]
      by_cases h2 : q = o
      · subst h2; rw [if_pos (by omega), Array.getElem?_setIfInBounds_self]; simp; omega
      · rw [if_neg (by omega), Array.getElem?_setIfInBounds_ne (fun e => h2 e.symm)]
theorem setCells_block {b : Nat} {ty : TypeId} {fz : Nat × Nat} : ∀ (l : List Value) (o : Nat) (w : World) (c : Array Value), w.heap[b]? = some (.cells c ty fz) → (w.setCells b o l).heap[b]? = some (.cells (putArr c o l) ty fz)
  | [], _, _, _, h => h
  | v :: r, o, w, c, h => by
    rw [World.setCells, putArr]
    refine setCells_block r (o + 1) _ _ ?_
    obtain ⟨hlt, he⟩ := Array.getElem?_eq_some_iff.1 h
    show (w.heap.modify b _)[b]? = _
    rw [Array.getElem?_eq_getElem (by rw [Array.size_modify]; exact hlt), Array.getElem_modify_self, he]
    rfl
theorem Cl.set {w : World} {b : Nat} {c : Array Value} {ty : TypeId} (h : Cl w b c ty) (o : Nat) (l : List Value) : Cl (w.setCells b o l) b (putArr c o l) ty := by
  obtain ⟨fz, h1, h2⟩ := h
  exact ⟨fz, setCells_block l o w c h1, by rw [putArr_size]; exact h2⟩
theorem putE_take {cs vs : List EV} {xs : List Value} {c : Array Value} {off k : Nat} (hc : ECL γ cs ((c.toList.drop k).take cs.length)) (hv : ECL γ vs xs) (hle : off + vs.length ≤ cs.length) (hsz : k + cs.length ≤ c.size) :
    ECL γ (Sx.putAt cs off vs) (((putArr c (k + off) xs).toList.drop k).take (Sx.putAt cs off vs).length) := by
  have hl : (Sx.putAt cs off vs).length = cs.length := by unfold Sx.putAt; simp; omega
  have hx := hv.1
  refine ⟨by rw [hl]; simp [putArr_size]; omega, fun j a y ha hy => ?_⟩
  rw [hl, List.getElem?_take] at hy
  split at hy
  case isFalse => cases hy
  rename_i hj
  rw [List.getElem?_drop, Array.getElem?_toList, putArr_get _ _ _ _ (by omega)] at hy
  rw [Sx.putAt_get hle] at ha
  by_cases h1 : off ≤ j ∧ j < off + vs.length
  · rw [if_pos h1] at ha; rw [if_pos (by omega), show k + j - (k + off) = j - off by omega] at hy; exact hv.2 _ a y ha hy
  · rw [if_neg h1] at ha; rw [if_neg (by omega)] at hy
    exact hc.2 j a y ha (by rw [List.getElem?_take, if_pos hj, List.getElem?_drop, Array.getElem?_toList]; exact hy)
noncomputable def allOne (cs : List EV) : Bool := List.rec true (fun a _ ih => bc a.one ih false) cs
theorem allOne_eq (cs : List EV) : allOne cs = cs.all EV.one := by
  induction cs with
  | nil => rfl
  | cons a cs ih =>
    show bc a.one (allOne cs) false = _
    rw [bc_eq, ih, List.all_cons]
    cases a.one <;> simp
/-- cells are written from a place of a block on -/
noncomputable def exPutL (i off : Nat) (vs : List EV) (H : Tr EK) : Option (Tr EK) := match cellsAt H i with
  | some (ty, cs, full) => bc (Nat.ble (Nat.add off (llen vs)) (llen cs)) (bc (allOne vs) (bc (Nat.ble i 65535) (some (H.put i (some (.cells ty (Sx.putAt cs off vs) full)))) none) none) none
  | none => none
theorem exPutL_ok (hH : HR γ w0 H n w) {i off : Nat} {vs : List EV} {xs : List Value} (hv : ECL γ vs xs) (h : exPutL i off vs H = some H') {b : Pl} {m : Nat} (hγ : γ i = some (b, m)) :
    HR γ w0 H' n (w.setCells b.k (b.s + off) xs) ∧ (storeCells (b.at off) xs 0).run P w = .ok () (w.setCells b.k (b.s + off) xs) := by
  unfold exPutL at h
  split at h
  case h_2 => cases h
  rename_i ty cs full hcs
  rw [bc_eq, bc_eq, bc_eq] at h
  split at h
  case isFalse => cases h
  rename_i hlt
  split at h
  case isFalse => cases h
  rename_i hone
  split at h
  case isFalse => cases h
  rename_i hi
  injection h with h; subst h
  have hlt := Nat.le_of_ble_eq_true hlt
  rw [llen_eq, llen_eq] at hlt
  have hlt : off + vs.length ≤ cs.length := hlt
  rw [allOne_eq] at hone
  obtain ⟨⟨k0, hg⟩, b2, m2, c, hγ2, hb, hsz, hle, hfull, hc⟩ := cellsAt_ok hH hcs
  rw [hγ] at hγ2
  simp only [Option.some.injEq, Prod.mk.injEq] at hγ2
  obtain ⟨rfl, rfl⟩ := hγ2
  have hx := hv.1
  obtain ⟨r1, r2, r3, r4⟩ := Sx.setCells_rest b.k xs (b.s + off) w
  have hl : (Sx.putAt cs off vs).length = cs.length := by unfold Sx.putAt; simp; omega
  constructor
  · refine hH.turn hi hg hγ (.cells ty (Sx.putAt cs off vs) full) (fun k hk => Sx.setCells_heap b.k xs (b.s + off) w k hk) r1 r2 r3 r4 ?_
    exact ⟨putArr c (b.s + off) xs, hb.set (b.s + off) xs, by rw [putArr_size]; exact hsz, by rw [hl]; exact hle, fun e => by rw [hl]; exact hfull e, putE_take hc hv hlt (by omega)⟩
  · have hst := run_storeCells_cells (P := P) b.k (b.s + off) xs 0 w (fun j hj => by
      rw [Nat.add_zero, show (⟨b.k, b.s + off + j, none⟩ : Addr) = b.at (off + j) by unfold Pl.at; rw [Nat.add_assoc], (cell_of hb).1]
      rw [Array.getElem?_eq_getElem (by omega)]; rfl) (fun j hj => by rw [Nat.add_zero, show (⟨b.k, b.s + off + j, none⟩ : Addr) = b.at (off + j) by unfold Pl.at; rw [Nat.add_assoc]]; exact (cell_of hb).2 (by omega)) (hv.ones hone)
    rw [Nat.add_zero] at hst
    exact hst
noncomputable def putsT (vs : List EV) : Nat → Tr EV → Tr EV := List.rec (fun _ T => T) (fun v _ ih k T => ih (Nat.succ k) (T.put k (some v))) vs
theorem putsT_get : ∀ {vs : List EV} {k : Nat} {T : Tr EV} {j : Nat}, k + vs.length ≤ 65536 → (putsT vs k T).get j = if k ≤ j ∧ j < k + vs.length then vs[j - k]? else T.get j
  | [], k, T, j, _ => by rw [if_neg (by simp)]; rfl
  | v :: vs, k, T, j, h => by
    have e : putsT (v :: vs) k T = putsT vs (k + 1) (T.put k (some v)) := rfl
    simp only [List.length_cons] at h ⊢
    rw [e, putsT_get (by omega), Tr.get_put (Nat.ble_eq_true_of_le (by omega))]
    by_cases h1 : k + 1 ≤ j ∧ j < k + 1 + vs.length
    · rw [if_pos h1, if_pos (by omega), show j - k = (j - (k + 1)) + 1 by omega, List.getElem?_cons_succ]
    · rw [if_neg h1]
      by_cases h2 : j = k
      · subst h2; rw [if_pos rfl, if_pos (by omega)]; simp
      · rw [if_neg h2, if_neg (by omega)]
noncomputable def exPutA (i off : Nat) (vs : List EV) (H : Tr EK) (ty : TypeId) (T : Tr EV) (len : Nat) : Option (Tr EK) := bc (Nat.ble (Nat.add off (llen vs)) len) (bc (Nat.ble len 65536) (bc (allOne vs) (bc (Nat.ble i 65535) (some (H.put i (some (.arr ty (putsT vs off T) len)))) none) none) none) none
noncomputable def exPut (i off : Nat) (vs : List EV) (H : Tr EK) : Option (Tr EK) := match H.get i with
  | some (.arr ty T len) => exPutA i off vs H ty T len
  | _ => exPutL i off vs H
theorem exPut_ok (hH : HR γ w0 H n w) {i off : Nat} {vs : List EV} {xs : List Value} (hv : ECL γ vs xs) (h : exPut i off vs H = some H') {b : Pl} {m : Nat} (hγ : γ i = some (b, m)) :
    HR γ w0 H' n (w.setCells b.k (b.s + off) xs) ∧ (storeCells (b.at off) xs 0).run P w = .ok () (w.setCells b.k (b.s + off) xs) := by
  unfold exPut at h
  split at h
  rotate_left
  · exact exPutL_ok hH hv h hγ
  rename_i ty T' len hg
  unfold exPutA at h
  rw [bc_eq, bc_eq, bc_eq, bc_eq] at h
  split at h
  case isFalse => cases h
  rename_i hlt
  split at h
  case isFalse => cases h
  rename_i hlen
  split at h
  case isFalse => cases h
  rename_i hone
  split at h
  case isFalse => cases h
  rename_i hi
  injection h with h; subst h
  have hlt := Nat.le_of_ble_eq_true hlt
  rw [llen_eq] at hlt
  have hlt : off + vs.length ≤ len := hlt
  have hlen := Nat.le_of_ble_eq_true hlen
  rw [allOne_eq] at hone
  obtain ⟨b2, m2, hγ2, _, c, hb, hsz, hl2, h5⟩ := hH.hp i _ hg
  rw [hγ] at hγ2
  simp only [Option.some.injEq, Prod.mk.injEq] at hγ2
  obtain ⟨rfl, rfl⟩ := hγ2
  have hx := hv.1
  obtain ⟨r1, r2, r3, r4⟩ := Sx.setCells_rest b.k xs (b.s + off) w
  constructor
  · refine hH.turn hi hg hγ (.arr ty (putsT vs off T') len) (fun k hk => Sx.setCells_heap b.k xs (b.s + off) w k hk) r1 r2 r3 r4 ?_
    refine ⟨putArr c (b.s + off) xs, hb.set (b.s + off) xs, by rw [putArr_size]; exact hsz, hl2, fun j a hj ha => ?_⟩
    rw [putsT_get (by omega)] at ha
    rw [putArr_get _ _ _ _ (by omega)]
    by_cases h1 : off ≤ j ∧ j < off + vs.length
    · rw [if_pos h1] at ha
      rw [if_pos (by omega), show b.s + j - (b.s + off) = j - off by omega]
      exact hv.at ha
    · rw [if_neg h1] at ha
      rw [if_neg (by omega)]
      exact h5 j a hj ha
  · have hst := run_storeCells_cells (P := P) b.k (b.s + off) xs 0 w (fun j hj => by
      rw [Nat.add_zero, show (⟨b.k, b.s + off + j, none⟩ : Addr) = b.at (off + j) by unfold Pl.at; rw [Nat.add_assoc], (cell_of hb).1]
      rw [Array.getElem?_eq_getElem (by omega)]; rfl) (fun j hj => by rw [Nat.add_zero, show (⟨b.k, b.s + off + j, none⟩ : Addr) = b.at (off + j) by unfold Pl.at; rw [Nat.add_assoc]]; exact (cell_of hb).2 (by omega)) (hv.ones hone)
    rw [Nat.add_zero] at hst
    exact hst
noncomputable def exStore (P : Program) (T : Tr EV) (t : TypeId) (x y : Operand) (H : Tr EK) (n : Nat) : Option ER := match exVal T x with
  | some (.ptr i off) => match exVal T y with
    | some b => match Sx.sizeB P t with
      | some m => bc (Nat.beq (llen b.cells) m) (match exPut i off b.cells H with
        | some H' => some ⟨none, H', n⟩
        | none => none) none
      | none => none
    | none => none
  | _ => none
theorem exStore_ok (hT : TOk γ T tmps) (hH : HR γ w0 H n w) {t : TypeId} {x y : Operand} {e : ER} (ho : o.op = .store t x y) (h : exStore P T t x y H n = some e) : Gives P γ w0 w (execOp (opEval tmps) o) e.val e.H e.n := by
  unfold exStore at h
  split at h
  case h_2 => cases h
  rename_i i off hx
  split at h
  case h_2 => cases h
  rename_i bv hy
  split at h
  case h_2 => cases h
  rename_i m hm
  rw [bc_eq] at h
  split at h
  case isFalse => cases h
  rename_i hlen
  split at h
  case h_2 => cases h
  rename_i H' hp
  injection h with h; subst h
  obtain ⟨b, k, hγ, he⟩ := ec_ptr (exVal_ok hT hx)
  have hv := (exVal_ok hT hy).cells
  obtain ⟨h1, h2⟩ := exPut_ok (P := P) hH hv hp hγ
  obtain ⟨inf, hi, hs⟩ := size_of hm
  have hl := Nat.eq_of_beq_eq_true hlen
  rw [llen_eq] at hl
  have hcl : (opEval tmps y).cells.size = inf.size := by rw [← Array.length_toList, ← hv.1, hl, hs]
  refine ⟨γ, _, GLe.refl γ, h1, ?_⟩
  have hs2 : execOp (opEval tmps) o = (do Instr.storeAt t (.pointer (some (b.at off))) (opEval tmps y); pure Next.skip : Sem Next) := by
    unfold execOp; rw [ho]; simp only [he]
  rw [hs2]
  refine run_u ?_
  simp [Instr.storeAt, Instr.sureAddr, storeVar, sizeOf, typeInfo, hi, hcl, h2]

/-! ### addresses -/
noncomputable def exField (P : Program) (T : Tr EV) (s : TypeId) (x : Operand) (f : Nat) : Option EV := match exVal T x with
  | some (.ptr i off) => match Sx.fieldO P s f with
    | some fo => some (.ptr i (Nat.add off fo))
    | none => none
  | _ => none
theorem exField_ok (hT : TOk γ T tmps) (hH : HR γ w0 H n w) {s : TypeId} {x : Operand} {f : Nat} {a : EV} (ho : o.op = .fieldAddr s x f) (h : exField P T s x f = some a) : Gives P γ w0 w (execOp (opEval tmps) o) (some a) H n := by
  unfold exField at h
  split at h
  case h_2 => cases h
  rename_i i off hx
  split at h
  case h_2 => cases h
  rename_i fo hf
  injection h with h; subst h
  obtain ⟨b, m, hγ, he⟩ := ec_ptr (exVal_ok hT hx)
  refine gives_value (x := .pointer (some (b.at (off + fo)))) ?_ (.ptr i _ b m hγ) hH
  have hs2 : execOp (opEval tmps) o = (do pure (Next.value (← Instr.fieldAt s (.pointer (some (b.at off))) f)) : Sem Next) := by
    unfold execOp; rw [ho]; simp only [he]
  rw [hs2]
  rw [show b.at (off + fo) = ⟨b.k, b.s + off + fo, none⟩ by unfold Pl.at; rw [Nat.add_assoc]]
  exact run_v (Sx.run_fieldAt hf b.k (b.s + off) w)
noncomputable def exNil (T : Tr EV) (x : Operand) : Option EV := match exVal T x with
  | some (.ptr i off) => some (.ptr i off)
  | some (.fn f l) => some (.fn f l)
  | _ => none
theorem exNil_ok (hT : TOk γ T tmps) (hH : HR γ w0 H n w) {x : Operand} {a : EV} (ho : o.op = .nilCheck x) (h : exNil T x = some a) : Gives P γ w0 w (execOp (opEval tmps) o) (some a) H n := by
  unfold exNil at h
  split at h
  · rename_i i off hx
    injection h with h; subst h
    have hc := exVal_ok hT hx
    obtain ⟨b, m, hγ, he⟩ := ec_ptr hc
    refine gives_value (x := opEval tmps x) ?_ hc hH
    unfold execOp; rw [ho]; simp only [he]; simp
  · rename_i f l hx
    injection h with h; subst h
    have hc := exVal_ok hT hx
    refine gives_value (x := opEval tmps x) ?_ hc hH
    unfold execOp; rw [ho]; simp only
    generalize hy : opEval tmps x = y at hc ⊢
    cases hc with
    | fn _ _ vs hl h => simp
  · cases h
noncomputable def intOf (a : Option EV) : Option Int := match a with
  | some (.v (.int _ n)) => some n
  | _ => none
theorem intOf_ok (hT : TOk γ T tmps) {x : Operand} {m : Int} (h : intOf (exVal T x) = some m) : ∃ κ, opEval tmps x = .int κ m := by
  unfold intOf at h
  split at h
  · rename_i κ k hx
    injection h with h; subst h
    exact ⟨κ, ec_v (exVal_ok hT hx)⟩
  · cases h
/-- an int that is an index below a bound -/
noncomputable def natOf (i : Int) : Option Nat := Int.rec (fun n => some n) (fun _ => none) i
theorem natOf_ok {i : Int} {k : Nat} (h : natOf i = some k) : i = k := by
  cases i with
  | ofNat m => have h' : some m = some k := h; injection h' with h'; subst h'; rfl
  | negSucc m => have h' : (none : Option Nat) = some k := h; cases h'
noncomputable def exIndex (P : Program) (T : Tr EV) (t : TypeId) (x ix : Operand) : Option EV := match (intOf (exVal T ix)).bind natOf with
  | some k => match exVal T x with
    | some (.sl i z off len _) => match Sx.slZ P t with
      | some z' => bc (Nat.beq z z') (bc (Nat.blt k len) (some (.ptr i (Nat.add off (Nat.mul k z)))) none) none
      | none => none
    | some (.ptr i off) => match P.underlying t with
      | some (.array len e) => match Sx.sizeB P e with
        | some z => bc (Nat.blt k len) (some (.ptr i (Nat.add off (Nat.mul k z)))) none
        | none => none
      | _ => none
    | _ => none
  | none => none
theorem blt_lt {a b : Nat} (h : Nat.blt a b = true) : a < b := by
  unfold Nat.blt at h; exact Nat.le_of_ble_eq_true h
theorem exIndex_ok (hT : TOk γ T tmps) (hH : HR γ w0 H n w) {t : TypeId} {x ix : Operand} {a : EV} (ho : o.op = .indexAddr t x ix) (h : exIndex P T t x ix = some a) : Gives P γ w0 w (execOp (opEval tmps) o) (some a) H n := by
  unfold exIndex at h
  split at h
  case h_2 => cases h
  rename_i k hk
  obtain ⟨mi, hmi, hk2⟩ := Option.bind_eq_some_iff.1 hk
  obtain ⟨κ, hix⟩ := intOf_ok hT hmi
  have hk2 := natOf_ok hk2
  subst hk2
  split at h
  · rename_i i z off len cap hx
    split at h
    case h_2 => cases h
    rename_i z' hz
    rw [bc_eq, bc_eq] at h
    split at h
    case isFalse => cases h
    rename_i hzz
    have hzz := Nat.eq_of_beq_eq_true hzz
    subst hzz
    split at h
    case isFalse => cases h
    rename_i hlt
    have hlt := blt_lt hlt
    injection h with h; subst h
    obtain ⟨b, m, c, hγ, he, _⟩ := ec_sl (exVal_ok hT hx)
    obtain ⟨e, inf, hu, hinf, hsz⟩ := Sx.slZ_spec hz
    refine gives_value (x := .pointer (some (b.at (off + k * z)))) ?_ (.ptr i _ b m hγ) hH
    simp [execOp, ho, he, hix, Instr.indexAt, asIntOf, run_underlying hu, hlt, sizeOf, typeInfo, hinf, hsz, Pl.at_add]
  · rename_i i off hx
    split at h
    case h_2 => cases h
    rename_i len e hu
    split at h
    case h_2 => cases h
    rename_i z hz
    rw [bc_eq] at h
    split at h
    case isFalse => cases h
    rename_i hlt
    have hlt := blt_lt hlt
    injection h with h; subst h
    obtain ⟨b, m, hγ, he⟩ := ec_ptr (exVal_ok hT hx)
    obtain ⟨inf, hinf, hsz⟩ := size_of hz
    refine gives_value (x := .pointer (some (b.at (off + k * z)))) ?_ (.ptr i _ b m hγ) hH
    simp [execOp, ho, he, hix, Instr.indexAt, Instr.sureAddr, asIntOf, run_underlying hu, hlt, sizeOf, typeInfo, hinf, hsz, Pl.at_add]
  · cases h
end Go.Proofs.Ytcgopcfbgkhpgaa.Ev
