/- The reckoner: the step of a state, whole. No program is named. -/
import Derived.Test.YtcgopcfbgkhpgaaEv11
namespace Go.Proofs.Ytcgopcfbgkhpgaa.Ev
open Go.RowKit
variable {P : Program} {γ γ' : G} {w0 : Bs} {w : World} {H H' : Tr EK} {n n' : Nat} {T : Tr EV} {cs : List Frame} {fid : FuncId} {FT : Tr FI}

/-! ### results -/
noncomputable def loadE (P : Program) (t : TypeId) (i off : Nat) (H : Tr EK) : Option EV := match cellsAt H i with
  | some (_, cs, _) => match aggOf P t with
    | some none => lget cs off
    | some (some m) => bc (Nat.ble (Nat.add off m) (llen cs)) (some (packE ((cs.drop off).take m))) none
    | none => none
  | none => none
theorem loadE_ok (hH : HR γ w0 H n w) {t : TypeId} {i off : Nat} {b : Pl} {m : Nat} {a : EV} (hγ : γ i = some (b, m)) (h : loadE P t i off H = some a) : ∃ y, (loadVar t (b.at off)).run P w = .ok y w ∧ EC γ a y := by
  unfold loadE at h
  split at h
  case h_2 => cases h
  rename_i ty cs full hcs
  obtain ⟨hg, b2, m2, c, hγ2, hb, hsz, hle, hfull, hc⟩ := cellsAt_ok hH hcs
  rw [hγ] at hγ2
  simp only [Option.some.injEq, Prod.mk.injEq] at hγ2
  obtain ⟨rfl, rfl⟩ := hγ2
  split at h
  · rename_i hag
    rw [lget_eq] at h
    obtain ⟨y, hy, hcy⟩ := hc.at h
    have hcell : w.cell? (b.at off) = some y := by
      rw [(cell_of hb).1, ← Array.getElem?_toList]
      rw [List.getElem?_take] at hy
      split at hy
      · rw [List.getElem?_drop] at hy; exact hy
      · cases hy
    exact ⟨y, by simp [loadVar, aggOf_one hag, load, Sem.run, hcell], hcy⟩
  · rename_i k hag
    rw [bc_eq] at h
    split at h
    · rename_i hlt
      injection h with h; subst h
      have hlt := Nat.le_of_ble_eq_true hlt
      rw [llen_eq] at hlt
      have hlt : off + k ≤ cs.length := hlt
      obtain ⟨hagg, inf, hi, hs⟩ := aggOf_agg hag
      have hL := (hc.drop off).take k
      refine ⟨.agg ((((c.toList.drop b.s).take cs.length).drop off).take k).toArray, ?_, packE_ok hL⟩
      have hlen : ((((c.toList.drop b.s).take cs.length).drop off).take k).length = k := by simp; omega
      have hl := run_loadCells_list (P := P) w (b.at off) ((((c.toList.drop b.s).take cs.length).drop off).take k) fun q y hy => by
        rw [Pl.at_add, (cell_of hb).1, ← Array.getElem?_toList]
        rw [List.getElem?_take] at hy
        split at hy
        · rw [List.getElem?_drop, List.getElem?_take] at hy
          split at hy
          · rw [List.getElem?_drop] at hy; exact hy
          · cases hy
        · cases hy
      rw [hlen] at hl
      simp only [loadVar, Sem.run_bind, Sem.run_pure, Result.andThen_ok, hagg w, if_true, sizeOf, typeInfo]
      simp [hi, hs, hl]
    · cases h
  · cases h
noncomputable def exRes1 (P : Program) (T : Tr EV) (H : Tr EK) (r : ResultVar) : Option EV := match r with
  | .tmp t => T.get t
  | .cell a t => match T.get a with
    | some (.ptr i off) => loadE P t i off H
    | _ => none
noncomputable def exResL (P : Program) (T : Tr EV) (H : Tr EK) (l : List ResultVar) : Option (List EV) := List.rec (some []) (fun r _ ih => match exRes1 P T H r with
  | some a => match ih with
    | some l => some (a :: l)
    | none => none
  | none => none) l
noncomputable def resE (l : List EV) : EV := match l with
  | [a] => a
  | l => .tup l
def resV (l : List Value) : Value := match l with
  | [a] => a
  | l => .tuple l.toArray
theorem resE_ok {l : List EV} {vs : List Value} (h : ECL γ l vs) : EC γ (resE l) (resV vs) := by
  unfold resE
  split
  · obtain ⟨x, ys, rfl, hc, hr⟩ := ECL.inv h
    have : ys = [] := by apply List.eq_nil_of_length_eq_zero; have := hr.1; simpa using this.symm
    subst this
    exact hc
  · rename_i h1
    have : resV vs = .tuple vs.toArray := by
      unfold resV
      split
      · rename_i x
        cases l with
        | nil => have := h.1; simp at this
        | cons a l =>
          have : l = [] := by apply List.eq_nil_of_length_eq_zero; have := h.1; simpa using this
          subst this
          exact absurd rfl (h1 a)
      · rfl
    rw [this]
    exact .tup l vs h.1 h.2
def resF (tmps : Array Value) (r : ResultVar) : Sem Value := match r with
  | .tmp t => pure (tmps.getD t undef)
  | .cell a t => do loadVar t (← asAddr (tmps.getD a undef))
theorem results_eq (fn : Func) (tmps : Array Value) : results fn tmps = (do let vs ← fn.results.mapM (resF tmps); pure (if h : vs.size = 1 then vs[0] else .tuple vs)) := rfl
theorem run_resL (hH : HR γ w0 H n w) {tmps : Array Value} (hT : TOk γ T tmps) : ∀ {rs : List ResultVar} {l : List EV}, exResL P T H rs = some l →
    ∃ vs, (rs.mapM (resF tmps)).run P w = .ok vs w ∧ ECL γ l vs
  | [], l, h => by
    have h' : some [] = some l := h
    injection h' with h'; subst h'
    exact ⟨[], by simp, ECL.nil γ⟩
  | r :: rs, l, h => by
    have h' : (match exRes1 P T H r with
      | some a => match exResL P T H rs with
        | some l => some (a :: l)
        | none => none
      | none => none) = some l := h
    split at h'
    case h_2 => cases h'
    rename_i a ha
    split at h'
    case h_2 => cases h'
    rename_i l2 hl2
    injection h' with h'; subst h'
    obtain ⟨vs, hr, hc⟩ := run_resL hH hT hl2
    have h1 : ∃ x, (resF tmps r).run P w = .ok x w ∧ EC γ a x := by
      cases r with
      | tmp t =>
        obtain ⟨x, hx, hcx⟩ := hT t a ha
        exact ⟨x, by simp [resF, getD_of hx], hcx⟩
      | cell ad t =>
        unfold exRes1 at ha
        simp only at ha
        split at ha
        case h_2 => cases ha
        rename_i i off hg
        obtain ⟨x, hx, hcx⟩ := hT ad _ hg
        obtain ⟨b, m, hγ, rfl⟩ := ec_ptr hcx
        obtain ⟨y, hy, hcy⟩ := loadE_ok (P := P) hH hγ ha
        exact ⟨y, by simp [resF, getD_of hx, asAddr, hy], hcy⟩
    obtain ⟨x, hx, hcx⟩ := h1
    refine ⟨x :: vs, ?_, ECL.cons hcx hc⟩
    rw [List.mapM_cons]
    simp only [Sem.run_bind, hx, hr, Result.andThen_ok, Sem.run_pure]
theorem run_results (hH : HR γ w0 H n w) {tmps : Array Value} (hT : TOk γ T tmps) {fn : Func} {rs : List ResultVar} (hrs : fn.results = rs.toArray) {l : List EV} (h : exResL P T H rs = some l) : ∃ v, (results fn tmps).run P w = .ok v w ∧ EC γ (resE l) v := by
  obtain ⟨vs, hr, hc⟩ := run_resL hH hT h
  refine ⟨resV vs, ?_, resE_ok hc⟩
  rw [results_eq, hrs, Array.mapM_eq_mapM_toList]
  simp only [Sem.run_bind]
  have hm : (List.toArray <$> rs.toArray.toList.mapM (resF tmps)).run P w = .ok vs.toArray w := by
    simp [hr]
  rw [hm]
  match vs with
  | [] => simp [resV]
  | [a] => simp [resV]
  | a :: b :: l => simp [resV]

/-! ### the step -/
noncomputable def eExit (id : Nat) (k : List IM) : Option (List IM) := List.rec none (fun e k ih => match e with
  | .it (.inBlock id') => bc (Nat.beq id' id) (some k) ih
  | _ => ih) k
theorem eExit_ok {id : Nat} : ∀ {k : List IM} {todo : List Item}, All2 (IR γ) k todo → (∀ k', eExit id k = some k' → ∃ todo', exitTo id todo = some todo' ∧ All2 (IR γ) k' todo') ∧ (eExit id k = none → exitTo id todo = none)
  | [], _, .nil => ⟨fun k' h => (by cases h), fun _ => rfl⟩
  | e :: k, x :: todo, .cons he hk => by
    obtain ⟨h1, h2⟩ := eExit_ok (id := id) hk
    cases he with
    | it x =>
      by_cases hx : ∃ id', x = .inBlock id'
      · obtain ⟨id', rfl⟩ := hx
        have e1 : eExit id (.it (.inBlock id') :: k) = bc (Nat.beq id' id) (some k) (eExit id k) := rfl
        have e2 : exitTo id (.inBlock id' :: todo) = if id' == id then some todo else exitTo id todo := rfl
        rw [e1, e2, bc_eq]
        by_cases hid : id' = id
        · subst hid
          have : Nat.beq id' id' = true := Nat.beq_refl id'
          simp only [this, if_true, beq_self_eq_true]
          exact ⟨fun k' h => by injection h with h; subst h; exact ⟨todo, rfl, hk⟩, fun h => by cases h⟩
        · have : ¬ (Nat.beq id' id = true) := fun e => hid (Nat.eq_of_beq_eq_true e)
          have h3 : (id' == id) = false := by simpa using hid
          rw [if_neg this, h3]
          exact ⟨h1, h2⟩
      · have e1 : eExit id (.it x :: k) = eExit id k := by cases x <;> first | rfl | exact absurd ⟨_, rfl⟩ hx
        have e2 : exitTo id (x :: todo) = exitTo id todo := by cases x <;> first | rfl | exact absurd ⟨_, rfl⟩ hx
        rw [e1, e2]; exact ⟨h1, h2⟩
    | ops ops l idx h => exact ⟨h1, h2⟩
    | inRF i b m h => exact ⟨h1, h2⟩
    | endRF i b m h => exact ⟨h1, h2⟩
noncomputable def popTo (s : ES) (k : List IM) : EO := .go { s with top := { s.top with todo := k } }
theorem pop_ok {s : ES} {m : Machine} {frs : List Frame} {k : List IM} {todo' : List Item} {tmps : Array Value} {ds : List Deferred} {ro : Option Nat} (hret : s.top.ret = false)
    (h1 : tmps.size = s.top.N) (h2 : TOk γ s.top.T tmps) (h3 : All2 (IR γ) k todo') (h4 : All2 (DR γ) s.top.dfs ds) (h5 : RR γ s.top.round ro) (hfs : All2 (FR γ) s.rest frs) (hH : HR γ w0 s.H s.n w)
    (hs : Steps P m (lone (fram s.top.fn tmps todo' ds ro) (frs ++ cs) w)) : SOk P γ w0 cs fid m (popTo s k) :=
  ⟨γ, _, GLe.refl γ, hs, _, frs, w, rfl, ⟨tmps, todo', ds, ro, by simp [fram, hret, modeOf], h1, h2, h3, h4, h5⟩, hfs, hH⟩
noncomputable def pendTo (pend : Option Code) (k : List IM) : List IM := match pend with
  | some c => .it (.code c) :: k
  | none => k
/-- a value goes to the caller -/
noncomputable def giveTo (rest : List EF) (a : EV) (H : Tr EK) (n : Nat) : EO := match rest with
  | c :: r => match exFinish c a with
    | some c' => .go ⟨c', r, H, n⟩
    | none => .fail
  | [] => .fail
theorem giveTo_ok {rest : List EF} {a : EV} {x : Value} {frs : List Frame} {m : Machine} (hfs : All2 (FR γ) rest frs) (hH : HR γ w0 H n w) (hc : EC γ a x) (hs : ∀ c r, frs = c :: r → Steps P m (lone (c.finish x) (r ++ cs) w)) : SOk P γ w0 cs fid m (giveTo rest a H n) := by
  unfold giveTo
  split
  · rename_i c r
    split
    · rename_i c' hc'
      cases hfs with
      | @cons _ fr _ frs' hf hr =>
        exact ⟨γ, _, GLe.refl γ, hs fr frs' rfl, _, frs', w, rfl, exFinish_ok hf hc hc', hr, hH⟩
    · trivial
  · trivial
noncomputable def giveToR (rest : List EF) (b : Bool) (H : Tr EK) (n : Nat) : EO := match rest with
  | [] => .doneR b H n
  | _ => giveTo rest (.v (.bool b)) H n
theorem giveToR_ok {rest : List EF} {b : Bool} {frs : List Frame} {m : Machine} (hfs : All2 (FR γ) rest frs) (hH : HR γ w0 H n w) (hs : ∀ c r, frs ++ cs = c :: r → Steps P m (lone (c.finish (.bool b)) r w)) : SOk P γ w0 cs fid m (giveToR rest b H n) := by
  unfold giveToR
  split
  · cases hfs
    intro c r hcr
    exact ⟨γ, w, GLe.refl γ, hs c r hcr, hH⟩
  · refine giveTo_ok hfs hH (.v _) fun c r hcr => hs c (r ++ cs) ?_
    rw [hcr]; rfl
noncomputable def endSt (j : Option Code) : LoopState := match j with
  | none => .ready
  | some _ => .done
noncomputable def exLeave (s : ES) (jump : Option Code) (isRet : Bool) : EO := match s.top.round with
  | none => bc isRet (.go { s with top := { s.top with ret := true } }) .fail
  | some l => match s.H.get l with
    | some (.loop _ _ fn N T ps as bd dd) => bc (Nat.ble l 65535) (giveToR s.rest jump.isNone (s.H.put l (some (.loop (endSt jump) jump fn N T ps as bd dd))) s.n) .fail
    | _ => .fail
end Go.Proofs.Ytcgopcfbgkhpgaa.Ev
