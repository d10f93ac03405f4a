/- The reckoner: one step. No program is named. -/
import Derived.Test.YtcgopcfbgkhpgaaEv10
import Derived.Defers
namespace Go.Proofs.Ytcgopcfbgkhpgaa.Ev
open Go.RowKit
variable {P : Program} {γ γ' : G} {w0 : Bs} {w : World} {H H' : Tr EK} {n n' : Nat} {T : Tr EV}

/-- functions, as a table -/
abbrev CT := List EV → Tr EK → Nat → Option (EV × Tr EK × Nat)
structure FI where
  N : Nat
  res : List ResultVar
  code : Code
  ct : Option CT
  dq : Option Nat
/-- what a call of a function comes to, said beforehand -/
def CtOk (P : Program) (f : FuncId) (c : CT) : Prop := ∀ (γ : G) (w0 : Bs) (H : Tr EK) (n : Nat) (w : World) (as : List EV) (us : Array Value) (a : EV) (H' : Tr EK) (n' : Nat), HR γ w0 H n w → ECL γ as us.toList → c as H n = some (a, H', n') → Calls P f us w fun e w' => ∃ γ' x, GLe γ γ' ∧ HR γ' w0 H' n' w' ∧ EC γ' a x ∧ e = .returned x
/-- a deferred call of a function with so many arguments does nothing when the frame returns -/
def DqOk (P : Program) (g : FuncId) (k : Nat) : Prop := ∀ (args : Array Value) (w : World), args.size = k → CallsD P g args .returning w fun e u' w' => (∃ v, e = .returned v) ∧ u' = .returning ∧ w' = w
def FTok (P : Program) (FT : Tr FI) : Prop := ∀ f i, FT.get f = some i → (∃ fn, P.funcs[f]? = some fn ∧ fn.ntmps = i.N ∧ fn.results = i.res.toArray ∧ fn.body = some i.code ∧ (fn.name == "runtime.NumGoroutine") = false) ∧ (∀ c, i.ct = some c → CtOk P f c) ∧ ∀ k, i.dq = some k → DqOk P f k
noncomputable def ctOf (FT : Tr FI) (g : FuncId) : Option CT := match FT.get g with
  | some i => i.ct
  | none => none
theorem ct_ok {FT : Tr FI} (hF : FTok P FT) {g : FuncId} {c : CT} (hct : ctOf FT g = some c) {as : List EV} {us : Array Value} {a : EV} (hH : HR γ w0 H n w) (hc : ECL γ as us.toList) (hr : c as H n = some (a, H', n')) (fr : Frame) (cs : List Frame) :
    ∃ γ' w' x, GLe γ γ' ∧ HR γ' w0 H' n' w' ∧ EC γ' a x ∧ (∀ w, (callFunc g us).run P w = .ok (.enter g us) w) ∧ Steps P (lone (Frame.enter P g us .normal) (fr :: cs) w) (lone (fr.finish x) cs w') := by
  unfold ctOf at hct
  split at hct
  case h_2 => cases hct
  rename_i i hi
  obtain ⟨⟨fn, hf, hN, hres, hb, hname⟩, hk, _⟩ := hF g i hi
  obtain ⟨e, w', fr', ⟨γ', x, h1, h2, h3, rfl⟩, h4, h5, h6⟩ := hk c hct γ w0 H n w as us a H' n' hH hc hr (fr :: cs)
  exact ⟨γ', w', x, h1, h2, h3, fun w => by
    have h9 : fn.name ≠ "runtime.NumGoroutine" := by simpa using hname
    simp [callFunc, hf, h9, hb], Steps.trans h4 (.one (step_leave_returned h6))⟩
theorem dq_ok {FT : Tr FI} (hF : FTok P FT) {g : FuncId} {i : FI} {k : Nat} (hg : FT.get g = some i) (hk : i.dq = some k) {fn : FuncId} {tmps : Array Value} {todo : List Item} {d : Deferred} {ds : List Deferred} {ro : Option Nat} {cs : List Frame} (hd : DR γ (.cl g k) d) :
    Steps P (lone { fram fn tmps todo (d :: ds) ro with mode := .returning } cs w) (lone { fram fn tmps todo ds ro with mode := .returning } cs w) := by
  obtain ⟨⟨F, hf, hN, hres, hb, hname⟩, _, hq⟩ := hF g i hg
  cases hd with
  | cl _ _ cap args hs =>
  have h9 : F.name ≠ "runtime.NumGoroutine" := by simpa using hname
  have hi : (invoke (.fn (.func g) cap) args : Sem Next).run P w = .ok (.enter g (args ++ cap)) w := by simp [invoke, callFunc, hf, h9, hb]
  have h1 := step_defer (P := P) (fr := { fram fn tmps todo ({ target := .fn (.func g) cap, args := args } :: ds) ro with mode := .returning }) (cs := cs) (w := w) (by simp) rfl rfl hi
  obtain ⟨e, u', w', fr', ⟨⟨v, rfl⟩, rfl, rfl⟩, h2, h3, h4⟩ := hq k hk (args ++ cap) w hs { fram fn tmps todo ds ro with mode := .returning } cs rfl
  exact (Steps.one h1).trans (Steps.trans h2 (.one (step_going_returned h3 h4)))
theorem TOk.put {tmps : Array Value} (h : TOk γ T tmps) {d : Nat} {a : EV} {x : Value} (hd : Nat.ble d 65535 = true) (hl : d < tmps.size) (hc : EC γ a x) : TOk γ (T.put d (some a)) (tmps.setIfInBounds d x) := by
  intro s b hs
  rw [Tr.get_put hd] at hs
  by_cases e : s = d
  · rw [if_pos e] at hs; injection hs with hs; subst hs; subst e
    exact ⟨x, by simp [hl], hc⟩
  · rw [if_neg e] at hs
    obtain ⟨y, hy, hcy⟩ := h s b hs
    exact ⟨y, by rw [Array.getElem?_setIfInBounds_ne (fun e2 => e e2.symm)]; exact hy, hcy⟩
theorem TOk.nil (γ : G) (tmps : Array Value) : TOk γ .nil tmps := fun s a h => by cases h
/-- a slot is given a value -/
noncomputable def setD (T : Tr EV) (N : Nat) (d : Option Tmp) (a : EV) : Option (Tr EV) := match d with
  | none => some T
  | some d => bc (Nat.blt d N) (bc (Nat.ble d 65535) (some (T.put d (some a))) none) none
theorem setD_ok {tmps : Array Value} {T' : Tr EV} {N : Nat} {d : Option Tmp} {a : EV} {x : Value} (h : TOk γ T tmps) (hN : tmps.size = N) (hs : setD T N d a = some T') (hc : EC γ a x) : TOk γ T' (putD tmps d x) ∧ (putD tmps d x).size = N := by
  unfold setD at hs
  split at hs
  · injection hs with hs; subst hs; exact ⟨h, hN⟩
  · rename_i d
    rw [bc_eq, bc_eq] at hs
    split at hs
    case isFalse => cases hs
    rename_i h1
    split at hs
    case isFalse => cases hs
    rename_i h2
    injection hs with hs; subst hs
    exact ⟨h.put h2 (by rw [hN]; exact blt_lt h1) hc, by simp [putD, hN]⟩
noncomputable def setArgs (l : List EV) : Nat → Tr EV → Tr EV := List.rec (fun _ T => T) (fun a _ ih k T => ih (Nat.succ k) (T.put k (some a))) l
theorem setArgs_ok {tmps : Array Value} : ∀ (l : List EV) (k : Nat) (T : Tr EV), TOk γ T tmps → k + l.length ≤ 65536 → (∀ j a, l[j]? = some a → ∃ x, tmps[k + j]? = some x ∧ EC γ a x) → TOk γ (setArgs l k T) tmps
  | [], k, T, h, _, _ => h
  | a :: l, k, T, h, hk, hl => by
    show TOk γ (setArgs l (k + 1) (T.put k (some a))) tmps
    simp only [List.length_cons] at hk
    refine setArgs_ok l (k + 1) _ (fun s b hs => ?_) (by omega) (fun j b hb => ?_)
    · rw [Tr.get_put (Nat.ble_eq_true_of_le (by omega))] at hs
      by_cases e : s = k
      · rw [if_pos e] at hs; injection hs with hs; subst hs; subst e
        exact hl 0 a rfl
      · rw [if_neg e] at hs; exact h s b hs
    · have := hl (j + 1) b (by simpa using hb)
      rwa [show k + (j + 1) = k + 1 + j by omega] at this
noncomputable def exEnter (FT : Tr FI) (f : FuncId) (args : List EV) : Option EF := match FT.get f with
  | some i => bc (Nat.ble (llen args) i.N) (bc (Nat.ble i.N 65535) (some ⟨f, i.N, setArgs args 0 .nil, [.it (.code i.code)], [], none, false⟩) none) none
  | none => none
theorem exEnter_ok {FT : Tr FI} (hF : FTok P FT) {f : FuncId} {args : List EV} {vs : Array Value} {e : EF} (hc : ECL γ args vs.toList) (h : exEnter FT f args = some e) :
    FR γ e (Frame.enter P f vs .normal) ∧ ∀ w, (callFunc f vs).run P w = .ok (.enter f vs) w := by
  unfold exEnter at h
  split at h
  case h_2 => cases h
  rename_i i hi
  rw [bc_eq, bc_eq] at h
  split at h
  case isFalse => cases h
  rename_i h1
  split at h
  case isFalse => cases h
  rename_i h2
  injection h with h; subst h
  have h1 := Nat.le_of_ble_eq_true h1
  have h2 := Nat.le_of_ble_eq_true h2
  rw [llen_eq] at h1
  obtain ⟨⟨fn, hf, hN, hres, hb, hname⟩, _⟩ := hF f i hi
  have hl := hc.1
  simp only [Array.length_toList] at hl
  refine ⟨⟨vs ++ Array.replicate (i.N - vs.size) undef, [.code i.code], [], none, ?_, ?_, ?_, .cons (.it _) .nil, .nil, rfl⟩, fun w => by
    have h9 : fn.name ≠ "runtime.NumGoroutine" := by simpa using hname
    simp [callFunc, hf, h9, hb]⟩
  · simp [Frame.enter, hf, hN, hb, modeOf]
  · simp; omega
  · refine setArgs_ok args 0 .nil (TOk.nil γ _) (by omega) fun j a ha => ?_
    obtain ⟨x, hx, hcx⟩ := hc.at ha
    refine ⟨x, ?_, hcx⟩
    have hlt : j < vs.size := by rw [← hl]; exact (List.getElem?_eq_some_iff.1 ha).1
    rw [Nat.zero_add, Array.getElem?_append_left hlt]
    simpa using hx
/-- what is called: a function and all its arguments, or a round -/
inductive EC2 where
  | fn (f : FuncId) (args : List EV)
  | yl (l : Nat) (args : List EV)
noncomputable def exCallee (T : Tr EV) (f : Operand) (args : List EV) : Option EC2 := match exVal T f with
  | some (.fn g caps) => some (.fn g (args ++ caps))
  | some (.v (.func (.func g) first caps)) => match first.toList with
    | [] => some (.fn g (args ++ caps.toList.map .v))
    | _ => none
  | some (.yl l) => some (.yl l args)
  | some (.mt g first) => some (.fn g (first ++ args))
  | _ => none
theorem run_callee {tmps : Array Value} (hT : TOk γ T tmps) {f : Operand} {args : List EV} {vs : Array Value} {c : EC2} (ρ : Operand → Value) (hρ : ρ f = opEval tmps f) {xs : Array Operand} {ats : Array TypeId} {t : TypeId} (hx : xs.map ρ = vs) (hc : ECL γ args vs.toList) (h : exCallee T f args = some c) :
    (∃ g as us, c = .fn g as ∧ ECL γ as us.toList ∧ ∀ w, (do let d ← resolve ρ { callee := .value f, args := xs, argTypes := ats } t; invoke d.target d.args : Sem Next).run P w = (callFunc g us).run P w) ∨
    (∃ (l : Nat) (b : Pl) (m : Nat), c = .yl l args ∧ γ l = some (b, m) ∧ ∀ w, (do let d ← resolve ρ { callee := .value f, args := xs, argTypes := ats } t; invoke d.target d.args : Sem Next).run P w = (Instr.yield b.k vs).run P w) := by
  unfold exCallee at h
  split at h
  · rename_i g caps hf
    injection h with h; subst h
    have hcf := exVal_ok hT hf
    generalize hy : opEval tmps f = y at hcf
    cases hcf with
    | fn _ _ us hl hcc =>
      refine .inl ⟨g, _, vs ++ us.toArray, rfl, by simpa using hc.append ⟨hl, hcc⟩, fun w => ?_⟩
      simp [resolve, hρ, hy, Deferred.ofValue, hx, invoke]
  · rename_i g first caps hf
    split at h
    case h_2 => cases h
    rename_i hfi
    injection h with h; subst h
    have hcf := ec_v (exVal_ok hT hf)
    have hfi : first = #[] := by apply Array.ext'; simpa using hfi
    subst hfi
    refine .inl ⟨g, _, vs ++ caps, rfl, by simpa using hc.append (ECL.vals γ caps.toList), fun w => ?_⟩
    simp [resolve, hρ, hcf, Deferred.ofValue, hx, invoke]
  · rename_i l hf
    injection h with h; subst h
    have hcf := exVal_ok hT hf
    generalize hy : opEval tmps f = y at hcf
    cases hcf with
    | yl _ b m hγ =>
      refine .inr ⟨l, b, m, rfl, hγ, fun w => ?_⟩
      simp [resolve, hρ, hy, Deferred.ofValue, hx, invoke]
  · rename_i g first hf
    injection h with h; subst h
    have hcf := exVal_ok hT hf
    generalize hy : opEval tmps f = y at hcf
    cases hcf with
    | mt _ _ us hl hcc =>
      refine .inl ⟨g, _, us.toArray ++ vs, rfl, by simpa using ECL.append ⟨hl, hcc⟩ hc, fun w => ?_⟩
      simp [resolve, hρ, hy, Deferred.ofValue, hx, invoke]
  · cases h
/-- a round begins -/
noncomputable def setPs (ps : List Tmp) : List EV → Nat → Tr EV → Option (Tr EV) := List.rec (fun l _ T => match l with
  | [] => some T
  | _ => none) (fun p _ ih l N T => match l with
  | a :: l => match setD T N (some p) a with
    | some T' => ih l N T'
    | none => none
  | [] => none) ps
theorem setPs_ok : ∀ {ps : List Tmp} {l : List EV} {vs : List Value} {N : Nat} {T T' : Tr EV} {tmps : Array Value}, ECL γ l vs → TOk γ T tmps → tmps.size = N → setPs ps l N T = some T' →
    ps.length = vs.length ∧ TOk γ T' ((ps.zip vs).foldl (fun tmps (t, a) => tmps.setIfInBounds t a) tmps) ∧ ((ps.zip vs).foldl (fun tmps (t, a) => tmps.setIfInBounds t a) tmps).size = N
  | [], l, vs, N, T, T', tmps, hc, hT, hN, h => by
    cases l with
    | nil =>
      have h' : some T = some T' := h
      injection h' with h'; subst h'
      have : vs = [] := by apply List.eq_nil_of_length_eq_zero; have := hc.1; simpa using this.symm
      subst this
      exact ⟨rfl, hT, hN⟩
    | cons a l => exact absurd (show (none : Option (Tr EV)) = some T' from h) (by simp)
  | p :: ps, l, vs, N, T, T', tmps, hc, hT, hN, h => by
    cases l with
    | nil => exact absurd (show (none : Option (Tr EV)) = some T' from h) (by simp)
    | cons a l' =>
      have h' : (match setD T N (some p) a with
        | some T' => setPs ps l' N T'
        | none => none) = some T' := h
      obtain ⟨x, ys, rfl, hcx, hcr⟩ := ECL.inv hc
      split at h'
      case h_2 => cases h'
      rename_i T2 hT2
      obtain ⟨h1, h2⟩ := setD_ok hT hN hT2 hcx
      obtain ⟨h3, h4, h5⟩ := setPs_ok hcr h1 h2 h'
      exact ⟨by simp [h3], h4, h5⟩
noncomputable def exRound (H : Tr EK) (l : Nat) (args : List EV) : Option EF := match H.get l with
  | some (.loop _ _ fn N T ps as bd _) => match setPs ps.toList args N T with
    | some T' => some ⟨fn, N, T', [.it (.code as), .it .beginRound, .it (.code bd)], [], some l, false⟩
    | none => none
  | _ => none
theorem exRound_ok (hH : HR γ w0 H n w) {l : Nat} {b : Pl} {m : Nat} {args : List EV} {vs : Array Value} {e : EF} (hγ : γ l = some (b, m)) (hc : ECL γ args vs.toList) (h : exRound H l args = some e) :
    ∃ f ts as bd, (Instr.yield b.k vs).run P w = .ok (.round b.k f ts as bd) w ∧ FR γ e (Frame.round b.k f ts as bd .normal) := by
  unfold exRound at h
  split at h
  case h_2 => cases h
  rename_i st pend fn N T ps as bd dd hl
  split at h
  case h_2 => cases h
  rename_i T' hT'
  injection h with h; subst h
  obtain ⟨b2, m2, h1, _, tmps, d, q, h2, h3, h4, h5⟩ := hH.hp l _ hl
  rw [hγ] at h1
  simp only [Option.some.injEq, Prod.mk.injEq] at h1
  obtain ⟨rfl, rfl⟩ := h1
  obtain ⟨g1, g2, g3⟩ := setPs_ok hc h4 h3 hT'
  have hz : ((ps.zip vs).foldl (fun (tmps : Array Value) (p : Tmp × Value) => tmps.setIfInBounds p.1 p.2) tmps) = (ps.toList.zip vs.toList).foldl (fun (tmps : Array Value) (p : Tmp × Value) => tmps.setIfInBounds p.1 p.2) tmps := by
    rw [← Array.foldl_toList, Array.toList_zip]
  refine ⟨fn, _, as, bd, run_yield h2 (by simp at g1; exact g1.symm), _, _, [], some b.k, rfl, ?_, ?_, .cons (.it _) (.cons (.it _) (.cons (.it _) .nil)), .nil, ⟨b, m, hγ, rfl⟩⟩
  · show ((ps.zip vs).foldl (fun (tmps : Array Value) (p : Tmp × Value) => tmps.setIfInBounds p.1 p.2) tmps).size = N
    rw [hz]; exact g3
  · show TOk γ T' ((ps.zip vs).foldl (fun (tmps : Array Value) (p : Tmp × Value) => tmps.setIfInBounds p.1 p.2) tmps)
    rw [hz]; exact g2
/-- the guard of an operation -/
noncomputable def exGuard (T : Tr EV) (ops : Array Oper) (o : Oper) : Option Bool := match o.guard with
  | none => some true
  | some (j, want) => match lget ops.toList j with
    | some oj => match oj.dst with
      | some d => match T.get d with
        | some (.v (.bool b)) => some (bc b want (bc want false true))
        | some (.v (.tuple _)) => some false
        | _ => none
      | none => none
    | none => none
theorem exGuard_ok {tmps : Array Value} (hT : TOk γ T tmps) {ops : Array Oper} {o : Oper} {r : Bool} (h : exGuard T ops o = some r) : Region.wanted o (yielded ops tmps) = r := by
  unfold exGuard at h
  split at h
  · rename_i hg; injection h with h; subst h; simp [Region.wanted, hg]
  · rename_i j want hg
    split at h
    case h_2 => cases h
    rename_i oj hoj
    rw [lget_eq] at hoj
    have hoj : ops[j]? = some oj := by simpa using hoj
    split at h
    case h_2 => cases h
    rename_i d hd
    split at h
    · rename_i b hb
      injection h with h; subst h
      obtain ⟨x, hx, hc⟩ := hT d _ hb
      have := ec_v hc
      subst this
      have : yielded ops tmps j = some b := by simp [yielded, hoj, hd, hx]
      simp only [Region.wanted, hg, this]
      cases b <;> cases want <;> rfl
    · rename_i vs hb
      injection h with h; subst h
      obtain ⟨x, hx, hc⟩ := hT d _ hb
      have := ec_v hc
      subst this
      have : yielded ops tmps j = none := by simp [yielded, hoj, hd, hx]
      simp only [Region.wanted, hg, this]
      rfl
    · cases h
/-- a call has come back -/
noncomputable def exFinish (c : EF) (a : EV) : Option EF := match c.ret with
  | true => none
  | false => match c.todo with
    | .ops ops (o :: l) :: k => match setD c.T c.N o.dst a with
      | some T' => some { c with T := T', todo := .ops ops l :: k }
      | none => none
    | .inRF l :: k => some { c with todo := .endRF l :: k }
    | _ => none
theorem map_cons_inv {ops : Array Oper} {idx : List Nat} {o : Oper} {l : List Oper} (h : idx.map (ops[·]?) = (o :: l).map some) : ∃ i rest, idx = i :: rest ∧ ops[i]? = some o ∧ rest.map (ops[·]?) = l.map some := by
  cases idx with
  | nil => simp at h
  | cons i rest => simp only [List.map_cons, List.cons.injEq] at h; exact ⟨i, rest, rfl, h.1, h.2⟩
theorem exFinish_ok {c c' : EF} {a : EV} {x : Value} {fr : Frame} (hf : FR γ c fr) (hc : EC γ a x) (h : exFinish c a = some c') : FR γ c' (fr.finish x) := by
  unfold exFinish at h
  split at h
  · cases h
  rename_i hret
  obtain ⟨tmps, todo, ds, ro, rfl, h1, h2, h3, h4, h5⟩ := hf
  rw [hret]
  split at h
  · rename_i ops o l k htodo
    rw [htodo] at h3
    split at h
    case h_2 => cases h
    rename_i T' hT'
    injection h with h; subst h
    obtain ⟨g1, g2⟩ := setD_ok h2 h1 hT' hc
    cases h3 with
    | cons hi hk =>
      cases hi with
      | ops _ _ idx hidx =>
        obtain ⟨i, rest, rfl, ho, hrest⟩ := map_cons_inv hidx
        refine ⟨_, _, ds, ro, (finish_op (fn := c.fn) (tmps := tmps) (ds := ds) (ro := ro) (rest := rest) ho x).trans ?_, g2, g1, .cons (.ops ops l rest hrest) hk, h4, h5⟩
        simp [fram, hret, modeOf]
  · rename_i l k htodo
    rw [htodo] at h3
    injection h with h; subst h
    cases h3 with
    | cons hi hk =>
      cases hi with
      | inRF _ b m hγ =>
        exact ⟨tmps, _, ds, ro, by simp [Frame.finish, hret], h1, h2, .cons (.endRF l b m hγ) hk, h4, h5⟩
  · cases h
end Go.Proofs.Ytcgopcfbgkhpgaa.Ev
