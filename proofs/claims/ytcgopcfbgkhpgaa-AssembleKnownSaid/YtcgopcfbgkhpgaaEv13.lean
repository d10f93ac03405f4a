/- The reckoner: the step of a state is sound. No program is named. -/
import Derived.Test.YtcgopcfbgkhpgaaEv12
namespace Go.Proofs.Ytcgopcfbgkhpgaa.Ev
open Go.RowKit
variable {P : Program} {γ γ' : G} {w0 : Bs} {w : World} {H H' : Tr EK} {n n' : Nat} {T : Tr EV} {cs : List Frame} {fid : FuncId} {FT : Tr FI}

theorem getLoop_of (hH : HR γ w0 H n w) {l : Nat} {b : Pl} {m : Nat} {st : LoopState} {pend : Option Code} {fn : FuncId} {N : Nat} {T : Tr EV} {ps : Array Tmp} {as bd : Code} {dd : Nat} (hg : H.get l = some (.loop st pend fn N T ps as bd dd)) (hγ : γ l = some (b, m)) :
    ∃ (tmps : Array Value) (d : Pl) (q : Nat), w.heap[b.k]? = some (.loop { state := st, pending := pend, fn := fn, tmps := tmps, params := ps, assign := as, body := bd, defers := d.k }) ∧ tmps.size = N ∧ TOk γ T tmps ∧ γ dd = some (d, q) := by
  obtain ⟨b2, m2, h1, _, h2⟩ := hH.hp l _ hg
  rw [hγ] at h1
  simp only [Option.some.injEq, Prod.mk.injEq] at h1
  obtain ⟨rfl, rfl⟩ := h1
  exact h2
theorem HR.putObj (hH : HR γ w0 H n w) {l : Nat} {b : Pl} {m : Nat} {k0 : EK} (hl : Nat.ble l 65535 = true) (hg : H.get l = some k0) (hγ : γ l = some (b, m)) (o : Obj) (k : EK) (hb : b.k < w.heap.size) (hk : k.ok γ b m (w.putObj b.k o)) : HR γ w0 (H.put l (some k)) n (w.putObj b.k o) :=
  hH.turn hl hg hγ k (fun c hc => World.putObj_heap_other hc) (by simp) rfl rfl rfl hk
theorem leave_ok {s : ES} {tmps : Array Value} {todo : List Item} {ds : List Deferred} {ro : Option Nat} {frs : List Frame} {jump : Option Code} {isRet : Bool}
    (hret : s.top.ret = false) (h1 : tmps.size = s.top.N) (h2 : TOk γ s.top.T tmps) (h3 : All2 (IR γ) s.top.todo todo) (h4 : All2 (DR γ) s.top.dfs ds) (h5 : RR γ s.top.round ro) (hfs : All2 (FR γ) s.rest frs) (hH : HR γ w0 s.H s.n w)
    (hj : (todo = [] ∧ jump = none) ∨ (∃ k, todo = .code .ret :: k ∧ jump = some .ret) ∨ (∃ id k, todo = .code (.exit id) :: k ∧ exitTo id k = none ∧ jump = some (.exit id)))
    (hr : isRet = true → todo = [] ∨ ∃ k, todo = .code .ret :: k) : SOk P γ w0 cs fid (lone (fram s.top.fn tmps todo ds ro) (frs ++ cs) w) (exLeave s jump isRet) := by
  unfold exLeave
  split
  · rename_i hround
    rw [hround] at h5
    have h5 : ro = none := h5
    subst h5
    rw [bc_eq]
    split
    · rename_i hi
      refine ⟨γ, _, GLe.refl γ, .one (m₁ := lone { fram s.top.fn tmps todo ds none with mode := .returning } (frs ++ cs) w) ?_, _, frs, w, rfl, ⟨tmps, todo, ds, none, rfl, h1, h2, h3, h4, by rw [hround]; rfl⟩, hfs, hH⟩
      rcases hr hi with rfl | ⟨k, rfl⟩
      · exact st_end
      · exact st_ret
    · trivial
  · rename_i l hround
    rw [hround] at h5
    obtain ⟨b, m, hγ, rfl⟩ := h5
    split
    · rename_i st pend fn N T ps as bd dd hg
      rw [bc_eq]
      split
      case isFalse => trivial
      rename_i hl
      obtain ⟨ts, d, q, g1, g2, g3, g4⟩ := getLoop_of hH hg hγ
      have hb := (Array.getElem?_eq_some_iff.1 g1).1
      have hH2 := hH.putObj hl hg hγ (.loop { state := if jump.isNone then .ready else .done, pending := jump, fn := fn, tmps := ts, params := ps, assign := as, body := bd, defers := d.k }) (.loop (endSt jump) jump fn N T ps as bd dd) hb ⟨ts, d, q, by rw [World.putObj_heap_same hb]; cases jump <;> rfl, g2, g3, g4⟩
      refine giveToR_ok hfs hH2 fun c r hcr => ?_
      rw [hcr]
      exact .one (st_endRound hj g1)
    · trivial
noncomputable def exRet (P : Program) (FT : Tr FI) (fid : FuncId) (s : ES) : EO := match s.top.dfs with
  | .mk d :: ds => match s.H.get d with
    | some (.dfr true) => bc (Nat.ble d 65535) (.go { s with top := { s.top with dfs := ds }, H := s.H.put d (some (.dfr false)) }) .fail
    | _ => .fail
  | .cl g k :: ds => match FT.get g with
    | some i => match i.dq with
      | some k' => bc (Nat.beq k k') (.go { s with top := { s.top with dfs := ds } }) .fail
      | none => .fail
    | none => .fail
  | [] => match FT.get s.top.fn with
    | some i => match exResL P s.top.T s.H i.res with
      | some l => match s.rest with
        | [] => bc (Nat.beq s.top.fn fid) (.done (resE l) s.H s.n) .fail
        | _ => giveTo s.rest (resE l) s.H s.n
      | none => .fail
    | none => .fail
theorem exRet_ok (hF : FTok P FT) {s : ES} {tmps : Array Value} {todo : List Item} {ds : List Deferred} {ro : Option Nat} {frs : List Frame}
    (hret : s.top.ret = true) (h1 : tmps.size = s.top.N) (h2 : TOk γ s.top.T tmps) (h3 : All2 (IR γ) s.top.todo todo) (h4 : All2 (DR γ) s.top.dfs ds) (h5 : RR γ s.top.round ro) (hfs : All2 (FR γ) s.rest frs) (hH : HR γ w0 s.H s.n w) :
    SOk P γ w0 cs fid (lone { fram s.top.fn tmps todo ds ro with mode := .returning } (frs ++ cs) w) (exRet P FT fid s) := by
  unfold exRet
  split
  · rename_i d dr hdfs
    rw [hdfs] at h4
    cases h4 with
    | @cons _ dd _ ds' hd hr =>
      cases hd with
      | mk _ b m hγ =>
      split
      · rename_i hg
        rw [bc_eq]
        split
        case isFalse => trivial
        rename_i hl
        obtain ⟨b2, m2, e1, _, e2⟩ := hH.hp d _ hg
        rw [hγ] at e1
        simp only [Option.some.injEq, Prod.mk.injEq] at e1
        obtain ⟨rfl, rfl⟩ := e1
        have e2 : w.heap[b.k]? = some (.deferred (some [])) := e2
        have hb := (Array.getElem?_eq_some_iff.1 e2).1
        have hH2 := hH.putObj hl hg hγ (.deferred none) (.dfr false) hb (World.putObj_heap_same hb)
        exact ⟨γ, _, GLe.refl γ, .one (st_take e2), _, frs, _, rfl, ⟨tmps, todo, ds', ro, by simp [fram, hret, modeOf], h1, h2, h3, hr, h5⟩, hfs, hH2⟩
      · trivial
  · rename_i g k dr hdfs
    rw [hdfs] at h4
    cases h4 with
    | @cons _ dd _ ds' hd hr =>
      split
      case h_2 => trivial
      rename_i i hi
      split
      case h_2 => trivial
      rename_i k' hk
      rw [bc_eq]
      split
      case isFalse => trivial
      rename_i hkk
      have hkk := Nat.eq_of_beq_eq_true hkk
      subst hkk
      exact ⟨γ, _, GLe.refl γ, dq_ok hF hi hk hd, _, frs, w, rfl, ⟨tmps, todo, ds', ro, by simp [fram, hret, modeOf], h1, h2, h3, hr, h5⟩, hfs, hH⟩
  · rename_i hdfs
    rw [hdfs] at h4
    cases h4
    split
    · rename_i i hi
      split
      · rename_i l hl
        obtain ⟨⟨fn, hf, hN, hres, hb, hname⟩, _⟩ := hF _ i hi
        obtain ⟨v, hv, hcv⟩ := run_results hH h2 hres hl
        split
        · rename_i hrest
          rw [hrest] at hfs
          cases hfs
          rw [bc_eq]
          split
          · rename_i hid
            exact ⟨γ, _, w, v, GLe.refl γ, Steps.refl P _, Nat.eq_of_beq_eq_true hid, ⟨rfl, rfl, rfl, fn, hf, hv⟩, hcv, hH⟩
          · trivial
        · refine giveTo_ok hfs hH hcv fun c r hcr => ?_
          subst hcr
          exact .one (st_return hf hv)
      · trivial
    · trivial
/-- a function without a body, of values without addresses: the model's own -/
noncomputable def extV (P : Program) (g : FuncId) (as : List EV) : Option Value := match valsOf as with
  | some vs => match pureOf P (callFunc g vs.toArray) with
    | some (.value v) => some v
    | _ => none
  | none => none
noncomputable def extGo (P : Program) (s : ES) (ops : Array Oper) (o : Oper) (l : List Oper) (k : List IM) (g : FuncId) (as : List EV) : EO := match extV P g as with
  | some v => match setD s.top.T s.top.N o.dst (.v v) with
    | some T' => .go { s with top := { s.top with T := T', todo := .ops ops l :: k } }
    | none => .fail
  | none => .fail
theorem extV_ok {g : FuncId} {as : List EV} {us : Array Value} {v : Value} (h : extV P g as = some v) (hc : ECL γ as us.toList) (w : World) : (callFunc g us).run P w = .ok (.value v) w := by
  unfold extV at h
  split at h
  case h_2 => cases h
  rename_i vs hvs
  split at h
  case h_2 => cases h
  rename_i v' hv
  injection h with h; subst h
  have e := valsOf_eq hvs
  subst e
  have : us = vs.toArray := by
    apply Array.ext'
    apply List.ext_getElem?
    intro j
    have hl := hc.1
    simp at hl
    by_cases hj : j < vs.length
    · have h1 := hc.2 j (.v vs[j]) us.toList[j] (by simp [hj]) (List.getElem?_eq_getElem (by simp only [Array.length_toList]; omega))
      have h2 := ec_v h1
      simp [hj, show j < us.size by omega] at h2 ⊢
      exact h2
    · have h1 : us.toList[j]? = none := List.getElem?_eq_none (by simp only [Array.length_toList]; omega)
      have h2 : vs.toArray.toList[j]? = none := List.getElem?_eq_none (by simp only [List.toList_toArray]; omega)
      rw [h1, h2]
  rw [this]
  exact pureOf_run hv w
/-- a call whose end is said beforehand -/
noncomputable def ctGo (s : ES) (ops : Array Oper) (o : Oper) (l : List Oper) (k : List IM) (r : Option (EV × Tr EK × Nat)) : EO := match r with
  | some (a, H, n) => match setD s.top.T s.top.N o.dst a with
    | some T' => .go { s with top := { s.top with T := T', todo := .ops ops l :: k }, H := H, n := n }
    | none => .fail
  | none => .fail
noncomputable def fnGo (P : Program) (FT : Tr FI) (s : ES) (ops : Array Oper) (o : Oper) (l : List Oper) (k : List IM) (g : FuncId) (as : List EV) : EO := match ctOf FT g with
  | some c => ctGo s ops o l k (c as s.H s.n)
  | none => match exEnter FT g as with
    | some e => .go ⟨e, s.top :: s.rest, s.H, s.n⟩
    | none => extGo P s ops o l k g as
/-- a call is put off -/
noncomputable def dfGo (s : ES) (ops : Array Oper) (o : Oper) (l : List Oper) (k : List IM) (c : Call) : EO := match s.top.round with
  | some _ => .fail
  | none => match c.callee with
    | .value f => match exVal s.top.T f with
      | some (.fn g caps) => match setD s.top.T s.top.N o.dst (.v undef) with
        | some T' => .go { s with top := { s.top with T := T', todo := .ops ops l :: k, dfs := .cl g (Nat.add (llen c.args.toList) (llen caps)) :: s.top.dfs } }
        | none => .fail
      | _ => .fail
    | _ => .fail
/-- the next operation of a list -/
noncomputable def exOps0 (P : Program) (FT : Tr FI) (s : ES) (ops : Array Oper) (o : Oper) (l : List Oper) (k : List IM) : EO := match exGuard s.top.T ops o with
  | some true => match o.op with
    | .call c => match c.callee with
      | .value f => match exVals s.top.T c.args.toList with
        | some args => match exCallee s.top.T f args with
          | some (.fn g as) => fnGo P FT s ops o l k g as
          | some (.yl i as) => match exRound s.H i as with
            | some e => .go ⟨e, s.top :: s.rest, s.H, s.n⟩
            | none => .fail
          | none => .fail
        | none => .fail
      | _ => match exOp P s.top.T o s.H s.n with
        | some er => match setD s.top.T s.top.N o.dst (er.val.getD (.v undef)) with
          | some T' => .go { s with top := { s.top with T := T', todo := .ops ops l :: k }, H := er.H, n := er.n }
          | none => .fail
        | none => .fail
    | .defer c => dfGo s ops o l k c
    | _ => match exOp P s.top.T o s.H s.n with
      | some er => match setD s.top.T s.top.N o.dst (er.val.getD (.v undef)) with
        | some T' => .go { s with top := { s.top with T := T', todo := .ops ops l :: k }, H := er.H, n := er.n }
        | none => .fail
      | none => .fail
  | some false => match setD s.top.T s.top.N o.dst (.v undef) with
    | some T' => .go { s with top := { s.top with T := T', todo := .ops ops l :: k } }
    | none => .fail
  | none => .fail
noncomputable def opGo (P : Program) (s : ES) (ops : Array Oper) (o : Oper) (l : List Oper) (k : List IM) : EO := match exOp P s.top.T o s.H s.n with
  | some er => match setD s.top.T s.top.N o.dst (er.val.getD (.v undef)) with
    | some T' => .go { s with top := { s.top with T := T', todo := .ops ops l :: k }, H := er.H, n := er.n }
    | none => .fail
  | none => .fail
noncomputable def callGo (P : Program) (FT : Tr FI) (s : ES) (ops : Array Oper) (o : Oper) (l : List Oper) (k : List IM) (c : Call) : EO := match c.callee with
  | .value f => match exVals s.top.T c.args.toList with
    | some args => match exCallee s.top.T f args with
      | some (.fn g as) => fnGo P FT s ops o l k g as
      | some (.yl i as) => match exRound s.H i as with
        | some e => .go ⟨e, s.top :: s.rest, s.H, s.n⟩
        | none => .fail
      | none => .fail
    | none => .fail
  | _ => opGo P s ops o l k
noncomputable def skipGo (s : ES) (ops : Array Oper) (o : Oper) (l : List Oper) (k : List IM) : EO := match setD s.top.T s.top.N o.dst (.v undef) with
  | some T' => .go { s with top := { s.top with T := T', todo := .ops ops l :: k } }
  | none => .fail
noncomputable def opsArms (op : Op) : Program → Tr FI → ES → Array Oper → Oper → List Oper → List IM → EO := Op.rec (motive := fun _ => Program → Tr FI → ES → Array Oper → Oper → List Oper → List IM → EO)
  (fun _ P _ s ops o l k => opGo P s ops o l k)
  (fun _ P _ s ops o l k => opGo P s ops o l k)
  (fun _ _ _ P _ s ops o l k => opGo P s ops o l k)
  (fun _ P _ s ops o l k => opGo P s ops o l k)
  (fun _ _ P _ s ops o l k => opGo P s ops o l k)
  (fun _ _ P _ s ops o l k => opGo P s ops o l k)
  (fun _ _ _ P _ s ops o l k => opGo P s ops o l k)
  (fun _ _ _ _ P _ s ops o l k => opGo P s ops o l k)
  (fun _ _ P _ s ops o l k => opGo P s ops o l k)
  (fun _ _ _ P _ s ops o l k => opGo P s ops o l k)
  (fun _ P _ s ops o l k => opGo P s ops o l k)
  (fun _ P _ s ops o l k => opGo P s ops o l k)
  (fun _ P _ s ops o l k => opGo P s ops o l k)
  (fun _ _ _ _ _ P _ s ops o l k => opGo P s ops o l k)
  (fun _ _ _ P _ s ops o l k => opGo P s ops o l k)
  (fun _ _ _ P _ s ops o l k => opGo P s ops o l k)
  (fun _ _ P _ s ops o l k => opGo P s ops o l k)
  (fun _ _ P _ s ops o l k => opGo P s ops o l k)
  (fun _ _ _ P _ s ops o l k => opGo P s ops o l k)
  (fun _ _ P _ s ops o l k => opGo P s ops o l k)
  (fun _ _ P _ s ops o l k => opGo P s ops o l k)
  (fun _ _ _ P _ s ops o l k => opGo P s ops o l k)
  (fun _ _ _ _ _ P _ s ops o l k => opGo P s ops o l k)
  (fun _ _ _ P _ s ops o l k => opGo P s ops o l k)
  (fun _ _ _ P _ s ops o l k => opGo P s ops o l k)
  (fun _ _ _ P _ s ops o l k => opGo P s ops o l k)
  (fun _ _ _ P _ s ops o l k => opGo P s ops o l k)
  (fun _ _ _ _ P _ s ops o l k => opGo P s ops o l k)
  (fun _ _ _ _ P _ s ops o l k => opGo P s ops o l k)
  (fun _ _ _ P _ s ops o l k => opGo P s ops o l k)
  (fun _ _ _ _ P _ s ops o l k => opGo P s ops o l k)
  (fun _ _ P _ s ops o l k => opGo P s ops o l k)
  (fun _ _ P _ s ops o l k => opGo P s ops o l k)
  (fun _ P _ s ops o l k => opGo P s ops o l k)
  (fun _ _ _ _ P _ s ops o l k => opGo P s ops o l k)
  (fun _ _ P _ s ops o l k => opGo P s ops o l k)
  (fun c P FT s ops o l k => callGo P FT s ops o l k c)
  (fun _ P _ s ops o l k => opGo P s ops o l k)
  (fun c _ _ s ops o l k => dfGo s ops o l k c)
  (fun _ P _ s ops o l k => opGo P s ops o l k)
  (fun _ _ P _ s ops o l k => opGo P s ops o l k)
  (fun _ _ _ P _ s ops o l k => opGo P s ops o l k)
  (fun _ _ P _ s ops o l k => opGo P s ops o l k)
  op
noncomputable def exOps (P : Program) (FT : Tr FI) (s : ES) (ops : Array Oper) (o : Oper) (l : List Oper) (k : List IM) : EO := match exGuard s.top.T ops o with
  | some b => Bool.rec (skipGo s ops o l k) (opsArms o.op P FT s ops o l k) b
  | none => .fail
theorem exOps_eq {s : ES} {ops : Array Oper} {o : Oper} {l : List Oper} {k : List IM} : exOps P FT s ops o l k = exOps0 P FT s ops o l k := by
  unfold exOps exOps0
  cases exGuard s.top.T ops o with
  | none => rfl
  | some b =>
    cases b with
    | false => rfl
    | true =>
      show opsArms o.op P FT s ops o l k = _
      cases o.op <;> rfl
theorem op_ok {s : ES} {ops : Array Oper} {o : Oper} {l : List Oper} {k : List IM} {tmps : Array Value} {i : Nat} {rest : List Nat} {todo : List Item} {ds : List Deferred} {ro : Option Nat} {frs : List Frame}
    (hret : s.top.ret = false) (h1 : tmps.size = s.top.N) (h2 : TOk γ s.top.T tmps) (hk : All2 (IR γ) k todo) (h4 : All2 (DR γ) s.top.dfs ds) (h5 : RR γ s.top.round ro) (hfs : All2 (FR γ) s.rest frs) (hH : HR γ w0 s.H s.n w)
    (ho : ops[i]? = some o) (hrest : rest.map (ops[·]?) = l.map some) (hw : Region.wanted o (yielded ops tmps) = true) (hd : notDefer o.op = true) :
    SOk P γ w0 cs fid (lone (fram s.top.fn tmps (.inRegion ops (i :: rest) :: todo) ds ro) (frs ++ cs) w) (match exOp P s.top.T o s.H s.n with
      | some er => match setD s.top.T s.top.N o.dst (er.val.getD (.v undef)) with
        | some T' => .go { s with top := { s.top with T := T', todo := .ops ops l :: k }, H := er.H, n := er.n }
        | none => .fail
      | none => .fail) := by
  split
  case h_2 => trivial
  rename_i er her
  split
  case h_2 => trivial
  rename_i T' hT'
  obtain ⟨γ', w', hle, hH2, hv⟩ := exOp_ok h2 hH er her
  cases hval : er.val with
  | some a =>
    rw [hval] at hv hT'
    obtain ⟨x, hx, hcx⟩ := hv
    obtain ⟨g1, g2⟩ := setD_ok (h2.mono hle) h1 hT' hcx
    refine ⟨γ', _, hle, .one (st_opValue ho hw hd hx), _, frs, w', rfl, ⟨_, _, ds, ro, by simp [fram, hret, modeOf], g2, g1, .cons (.ops ops l rest hrest) (hk.mono fun _ _ h => h.mono hle), ?_, ?_⟩, hfs.mono fun _ _ h => h.mono hle, hH2⟩
    · exact h4.mono fun _ _ h => h.mono hle
    · cases hr : s.top.round with
      | none => rw [hr] at h5; exact h5
      | some i => rw [hr] at h5; obtain ⟨b, m, e1, e2⟩ := h5; exact ⟨b, m, hle _ _ e1, e2⟩
  | none =>
    rw [hval] at hv hT'
    obtain ⟨g1, g2⟩ := setD_ok (h2.mono hle) h1 hT' (.v undef)
    refine ⟨γ', _, hle, .one (st_opDone ho hw hd hv), _, frs, w', rfl, ⟨_, _, ds, ro, by simp [fram, hret, modeOf], g2, g1, .cons (.ops ops l rest hrest) (hk.mono fun _ _ h => h.mono hle), ?_, ?_⟩, hfs.mono fun _ _ h => h.mono hle, hH2⟩
    · exact h4.mono fun _ _ h => h.mono hle
    · cases hr : s.top.round with
      | none => rw [hr] at h5; exact h5
      | some i => rw [hr] at h5; obtain ⟨b, m, e1, e2⟩ := h5; exact ⟨b, m, hle _ _ e1, e2⟩
theorem exOps_ok (hF : FTok P FT) {s : ES} {ops : Array Oper} {o : Oper} {l : List Oper} {k : List IM} {tmps : Array Value} {todo : List Item} {ds : List Deferred} {ro : Option Nat} {frs : List Frame}
    (hret : s.top.ret = false) (htodo : s.top.todo = .ops ops (o :: l) :: k) (h1 : tmps.size = s.top.N) (h2 : TOk γ s.top.T tmps) (h3 : All2 (IR γ) s.top.todo todo) (h4 : All2 (DR γ) s.top.dfs ds) (h5 : RR γ s.top.round ro) (hfs : All2 (FR γ) s.rest frs) (hH : HR γ w0 s.H s.n w) :
    SOk P γ w0 cs fid (lone (fram s.top.fn tmps todo ds ro) (frs ++ cs) w) (exOps P FT s ops o l k) := by
  have h3' := h3
  rw [htodo] at h3'
  cases h3' with
  | @cons _ _ _ todo' hi hk =>
    cases hi with
    | ops _ _ idx hidx =>
      obtain ⟨i, rest, rfl, ho, hrest⟩ := map_cons_inv hidx
      have hfr : FR γ s.top (fram s.top.fn tmps (.inRegion ops (i :: rest) :: todo') ds ro) := ⟨tmps, _, ds, ro, by simp [fram, hret, modeOf], h1, h2, h3, h4, h5⟩
      rw [exOps_eq]
      unfold exOps0
      split
      · rename_i hg
        have hw := exGuard_ok h2 hg
        split
        · rename_i c hop
          have hd : notDefer o.op = true := by rw [hop]; rfl
          split
          · rename_i f hf
            split
            case h_2 => trivial
            rename_i args hargs
            have hca := exVals_ok h2 hargs
            have hca : ECL γ args (c.args.map (opEval tmps)).toList := by simpa using hca
            have hex : ∀ w, (execOp (opEval tmps) o).run P w = (do let d ← resolve (opEval tmps) { callee := .value f, args := c.args, argTypes := c.argTypes } o.type; invoke d.target d.args : Sem Next).run P w := fun w => by
              obtain ⟨callee, ar, at2⟩ := c
              simp only at hf; subst hf
              unfold execOp; rw [hop]
            split
            · rename_i g as hcal
              unfold fnGo
              split
              · rename_i ct hct
                unfold ctGo
                split
                case h_2 => trivial
                rename_i a H2 n2 hr
                split
                case h_2 => trivial
                rename_i T' hT'
                rcases run_callee (P := P) h2 (opEval tmps) rfl (xs := c.args) (ats := c.argTypes) (t := o.type) rfl hca hcal with ⟨g', as', us, e1, e2, e3⟩ | ⟨l', b, m, e1, _⟩
                · injection e1 with e4 e5; subst e4; subst e5
                  obtain ⟨γ', w', x, hle, hH2, hcx, q2, hst⟩ := ct_ok (P := P) hF hct hH e2 hr (fram s.top.fn tmps (.inRegion ops (i :: rest) :: todo') ds ro) (frs ++ cs)
                  obtain ⟨g1, g2⟩ := setD_ok (h2.mono hle) h1 hT' hcx
                  rw [finish_op ho] at hst
                  refine ⟨γ', _, hle, (Steps.one (st_opEnter ho hw hd (by rw [hex, e3, q2]))).trans hst, _, frs, w', rfl, ⟨_, _, ds, ro, by simp [fram, hret, modeOf], g2, g1, .cons (.ops ops l rest hrest) (hk.mono fun _ _ h => h.mono hle), ?_, ?_⟩, hfs.mono fun _ _ h => h.mono hle, hH2⟩
                  · exact h4.mono fun _ _ h => h.mono hle
                  · cases hr : s.top.round with
                    | none => rw [hr] at h5; exact h5
                    | some i => rw [hr] at h5; obtain ⟨b, m, e1, e2⟩ := h5; exact ⟨b, m, hle _ _ e1, e2⟩
                · cases e1
              split
              rotate_left
              · unfold extGo
                split
                case h_2 => trivial
                rename_i v hv
                split
                case h_2 => trivial
                rename_i T' hT'
                rcases run_callee (P := P) h2 (opEval tmps) rfl (xs := c.args) (ats := c.argTypes) (t := o.type) rfl hca hcal with ⟨g', as', us, e1, e2, e3⟩ | ⟨l', b, m, e1, _⟩
                · injection e1 with e4 e5; subst e4; subst e5
                  obtain ⟨g1, g2⟩ := setD_ok h2 h1 hT' (.v v)
                  exact ⟨γ, _, GLe.refl γ, .one (st_opValue ho hw hd (by rw [hex, e3, extV_ok hv e2])), _, frs, w, rfl, ⟨_, _, ds, ro, by simp [fram, hret, modeOf], g2, g1, .cons (.ops ops l rest hrest) hk, h4, h5⟩, hfs, hH⟩
                · cases e1
              rename_i e he
              rcases run_callee (P := P) h2 (opEval tmps) rfl (xs := c.args) (ats := c.argTypes) (t := o.type) rfl hca hcal with ⟨g', as', us, e1, e2, e3⟩ | ⟨l', b, m, e1, _⟩
              · injection e1 with e4 e5; subst e4; subst e5
                obtain ⟨q1, q2⟩ := exEnter_ok hF e2 he
                refine ⟨γ, _, GLe.refl γ, .one (st_opEnter ho hw hd (by rw [hex, e3, q2])), _, _ :: frs, w, rfl, q1, .cons hfr hfs, hH⟩
              · cases e1
            · rename_i i2 as hcal
              split
              case h_2 => trivial
              rename_i e he
              rcases run_callee (P := P) h2 (opEval tmps) rfl (xs := c.args) (ats := c.argTypes) (t := o.type) rfl hca hcal with ⟨g', as', us, e1, _⟩ | ⟨l', b, m, e1, hγ, e3⟩
              · cases e1
              · injection e1 with e4 e5; subst e4; subst e5
                obtain ⟨f2, ts, as2, bd2, q1, q2⟩ := exRound_ok (P := P) hH hγ hca he
                refine ⟨γ, _, GLe.refl γ, .one (st_opRound ho hw hd (by rw [hex, e3, q1])), _, _ :: frs, w, rfl, q2, .cons hfr hfs, hH⟩
            · trivial
          · exact op_ok hret h1 h2 hk h4 h5 hfs hH ho hrest hw hd
        · rename_i c hop
          unfold dfGo
          split
          · trivial
          rename_i hround
          have h5' := h5
          rw [hround] at h5
          have h5 : ro = none := h5
          subst h5
          split
          case h_2 => trivial
          rename_i f hf
          split
          case h_2 => trivial
          rename_i g caps hfv
          split
          case h_2 => trivial
          rename_i T' hT'
          obtain ⟨g1, g2⟩ := setD_ok h2 h1 hT' (.v undef)
          have hcf := exVal_ok h2 hfv
          generalize hy : opEval tmps f = y at hcf
          cases hcf with
          | fn _ _ vs hl hcc =>
          have hrun : (execOp (opEval tmps) o).run P w = .ok (.defer { target := .fn (.func g) vs.toArray, args := #[] ++ c.args.map (opEval tmps) }) w := by
            obtain ⟨callee, ar, at2⟩ := c
            simp only at hf; subst hf
            unfold execOp; rw [hop]
            simp [resolve, hy, Deferred.ofValue]
          exact ⟨γ, _, GLe.refl γ, .one (st_defer ho hw hop hrun), _, frs, w, rfl, ⟨_, _, _, none, by simp [fram, hret, modeOf], g2, g1, .cons (.ops ops l rest hrest) hk, .cons (.cl g _ vs.toArray (#[] ++ c.args.map (opEval tmps)) (by simp [llen_eq, hl])) h4, h5'⟩, hfs, hH⟩
        · rename_i hnc hnd
          have hd : notDefer o.op = true := by
            cases hop : o.op <;> first | rfl | exact absurd hop (hnd _)
          exact op_ok hret h1 h2 hk h4 h5 hfs hH ho hrest hw hd
      · rename_i hg
        have hw := exGuard_ok h2 hg
        split
        · rename_i T' hT'
          obtain ⟨g1, g2⟩ := setD_ok h2 h1 hT' (.v undef)
          exact ⟨γ, _, GLe.refl γ, .one (st_opSkip ho hw), _, frs, w, rfl, ⟨_, _, ds, ro, by simp [fram, hret, modeOf], g2, g1, .cons (.ops ops l rest hrest) hk, h4, h5⟩, hfs, hH⟩
        · trivial
      · trivial
end Go.Proofs.Ytcgopcfbgkhpgaa.Ev
