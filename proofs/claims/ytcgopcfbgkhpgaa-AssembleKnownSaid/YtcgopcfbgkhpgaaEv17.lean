/- The reckoner: one operation of a region that draws its order. No program is named. -/
import Derived.Test.YtcgopcfbgkhpgaaEv16
namespace Go.Proofs.Ytcgopcfbgkhpgaa.Ev
open Go.RowKit
variable {P : Program} {γ γ' : G} {w0 : Bs} {w : World} {H H' : Tr EK} {n n' : Nat} {T : Tr EV} {cs : List Frame} {fid : FuncId} {FT : Tr FI} {o : Oper}

/-- what only reads -/
def quietB : Builtin → Bool
  | .append | .copy | .clear | .delete => false
  | _ => true
def quiet : Op → Bool
  | .move _ | .assign _ | .pick _ _ _ | .build _ _ | .load _ _ | .nilCheck _ | .binOp _ _ _ _ _ | .unOp _ _ _ | .convert _ _ _ | .makeFunc _ _ _ | .slice _ _ _ _ _ | .fieldAddr _ _ _ | .field _ _ _ | .indexAddr _ _ _ | .index _ _ _ | .extract _ _ | .lookup _ _ _ _ => true
  | .call c => match c.callee with
    | .builtin b => quietB b
    | _ => false
  | _ => false
theorem keep_same {a : Option EV} {er : ER} (h : keep a H n = some er) : er.H = H ∧ er.n = n ∧ er.val.isSome = true := by
  unfold keep at h
  split at h
  · injection h with h; subst h; exact ⟨rfl, rfl, rfl⟩
  · cases h
theorem orPure_same {a : Option ER} {er : ER} (ha : ∀ e, a = some e → e.H = H ∧ e.n = n ∧ e.val.isSome = true) (h : orPure a P T o H n = some er) : er.H = H ∧ er.n = n ∧ er.val.isSome = true := by
  unfold orPure at h
  split at h
  · injection h with h; subst h; exact ha _ rfl
  · split at h
    · injection h with h; subst h; exact ⟨rfl, rfl, rfl⟩
    · cases h
/-- a conversion that makes a block -/
noncomputable def isToB (P : Program) (T : Tr EV) (o : Oper) (H : Tr EK) (n : Nat) : Bool := match o.op with
  | .convert src dst x => Option.isSome (exToB P T src dst x H n)
  | _ => false
theorem exOp_quiet (hq : quiet o.op = true) (hb : isToB P T o H n = false) {er : ER} (h : exOp P T o H n = some er) : er.H = H ∧ er.n = n ∧ er.val.isSome = true := by
  rw [exOp_eq] at h
  unfold exOp0 at h
  split at h
  · exact keep_same h
  · exact keep_same h
  · exact keep_same h
  · rename_i ho; rw [ho] at hq; simp [quiet] at hq
  · rename_i ho; rw [ho] at hq; simp [quiet] at hq
  · exact keep_same h
  · rename_i ho; rw [ho] at hq; simp [quiet] at hq
  · exact keep_same h
  · rename_i ho; rw [ho] at hq; simp [quiet] at hq
  · exact orPure_same (fun e he => keep_same he) h
  · refine orPure_same (fun e he => ?_) h
    split at he
    · exact keep_same he
    · exact keep_same he
  · exact keep_same h
  · rename_i ho; rw [ho] at hq; simp [quiet] at hq
  · exact orPure_same (fun e he => keep_same he) h
  · exact keep_same h
  · exact orPure_same (fun e he => keep_same he) h
  · exact keep_same h
  · exact orPure_same (fun e he => keep_same he) h
  · exact orPure_same (fun e he => keep_same he) h
  · rename_i src dst x ho
    unfold exConvert at h
    split at h
    · rename_i er' he
      unfold isToB at hb
      rw [ho] at hb
      simp only [he] at hb
      cases hb
    · exact orPure_same (fun e he => keep_same he) h
  · rename_i ho; rw [ho] at hq; simp [quiet] at hq
  · rename_i ho; rw [ho] at hq; simp [quiet] at hq
  · exact orPure_same (fun e he => keep_same he) h
  · rename_i ho; rw [ho] at hq; simp [quiet] at hq
  · rename_i c ho
    rw [ho] at hq
    split at h
    · rename_i b hb
      simp only [quiet, hb] at hq
      refine orPure_same (fun e he => ?_) h
      unfold exBuiltin at he
      split at he
      · simp [quietB] at hq
      · simp [quietB] at hq
      · simp [quietB] at hq
      · simp [quietB] at hq
      · split at he
        · split at he
          · exact keep_same he
          · cases he
        · cases he
      · cases he
    · cases h
  · exact orPure_same (fun e he => by cases he) h
theorem quiet_notDefer (hq : quiet o.op = true) : notDefer o.op = true := by
  cases hop : o.op <;> first | rfl | (rw [hop] at hq; simp [quiet] at hq)
/-- a quiet operation, run -/
noncomputable def exQ (P : Program) (T : Tr EV) (o : Oper) (H : Tr EK) (n : Nat) : Option EV := bc (isToB P T o H n) none (match exOp P T o H n with
  | some er => er.val
  | none => none)
theorem exQ_ok {tmps : Array Value} (hT : TOk γ T tmps) (hH : HR γ w0 H n w) (hq : quiet o.op = true) {a : EV} (h : exQ P T o H n = some a) : ∃ γ' w' x, GLe γ γ' ∧ HR γ' w0 H n w' ∧ (execOp (opEval tmps) o).run P w = .ok (.value x) w' ∧ EC γ' a x := by
  unfold exQ at h
  rw [bc_eq] at h
  split at h
  case isTrue => cases h
  rename_i hb
  have hb : isToB P T o H n = false := by simpa using hb
  split at h
  case h_2 => cases h
  rename_i er her
  obtain ⟨e1, e2, _⟩ := exOp_quiet hq hb her
  obtain ⟨γ', w', hle, hH2, hv⟩ := exOp_ok hT hH er her
  rw [h] at hv
  obtain ⟨x, hx, hc⟩ := hv
  rw [e1, e2] at hH2
  exact ⟨γ', w', x, hle, hH2, hx, hc⟩
/-! ### what is loud -/
/-- calls and rounds, to their ends -/
abbrev Sub := EC2 → Tr EK → Nat → Option (EV × Tr EK × Nat)
noncomputable def exSub (st : FuncId → ES → EO) (FT : Tr FI) (K : Nat) : Sub := fun c H n => match c with
  | .fn g as => match ctOf FT g with
    | some c => c as H n
    | none => match exEnter FT g as with
      | some e => match exRun (st g) K ⟨e, [], H, n⟩ with
        | .done a H' n' => some (a, H', n')
        | _ => none
      | none => none
  | .yl i as => match exRound H i as with
    | some e => match exRun (st e.fn) K ⟨e, [], H, n⟩ with
      | .doneR b H' n' => some (.v (.bool b), H', n')
      | _ => none
    | none => none
noncomputable def exLoud (P : Program) (sub : Sub) (T : Tr EV) (o : Oper) (H : Tr EK) (n : Nat) : Option (EV × Tr EK × Nat) := match o.op with
  | .call c => match c.callee with
    | .value f => match exVals T c.args.toList with
      | some args => match exCallee T f args with
        | some c2 => sub c2 H n
        | none => none
      | none => none
    | _ => match exOp P T o H n with
      | some er => some (er.val.getD (.v undef), er.H, er.n)
      | none => none
  | .defer _ => none
  | _ => match exOp P T o H n with
    | some er => some (er.val.getD (.v undef), er.H, er.n)
    | none => none
/-- what a loud operation does to the machine -/
def LoudOk (P : Program) (sub : Sub) : Prop := ∀ (γ : G) (w0 : Bs) (w : World) (T : Tr EV) (o : Oper) (H : Tr EK) (n : Nat) (a : EV) (H' : Tr EK) (n' : Nat) (fn : FuncId) (tmps : Array Value) (ops : Array Oper) (i : Nat) (rest : List Nat) (k : List Item) (ds : List Deferred) (ro : Option Nat) (cs : List Frame),
  TOk γ T tmps → HR γ w0 H n w → ops[i]? = some o → Region.wanted o (yielded ops tmps) = true → exLoud P sub T o H n = some (a, H', n') →
  ∃ γ' w' x, GLe γ γ' ∧ HR γ' w0 H' n' w' ∧ EC γ' a x ∧ Steps P (lone (fram fn tmps (.inRegion ops (i :: rest) :: k) ds ro) cs w) (lone (fram fn (putD tmps o.dst x) (.inRegion ops rest :: k) ds ro) cs w')
theorem loud_op {tmps : Array Value} (hT : TOk γ T tmps) (hH : HR γ w0 H n w) {a : EV} {H' : Tr EK} {n' : Nat} {fn : FuncId} {ops : Array Oper} {i : Nat} {rest : List Nat} {k : List Item} {ds : List Deferred} {ro : Option Nat} {cs : List Frame}
    (ho : ops[i]? = some o) (hw : Region.wanted o (yielded ops tmps) = true) (hd : notDefer o.op = true) (h : (match exOp P T o H n with
      | some er => some (er.val.getD (.v undef), er.H, er.n)
      | none => none) = some (a, H', n')) :
    ∃ γ' w' x, GLe γ γ' ∧ HR γ' w0 H' n' w' ∧ EC γ' a x ∧ Steps P (lone (fram fn tmps (.inRegion ops (i :: rest) :: k) ds ro) cs w) (lone (fram fn (putD tmps o.dst x) (.inRegion ops rest :: k) ds ro) cs w') := by
  split at h
  case h_2 => cases h
  rename_i er her
  simp only [Option.some.injEq, Prod.mk.injEq] at h
  obtain ⟨rfl, rfl, rfl⟩ := h
  obtain ⟨γ', w', hle, hH2, hv⟩ := exOp_ok hT hH er her
  cases hval : er.val with
  | some a =>
    rw [hval] at hv
    obtain ⟨x, hx, hcx⟩ := hv
    exact ⟨γ', w', x, hle, hH2, hcx, .one (st_opValue ho hw hd hx)⟩
  | none =>
    rw [hval] at hv
    exact ⟨γ', w', undef, hle, hH2, .v _, .one (st_opDone ho hw hd hv)⟩
theorem loudOk (hF : FTok P FT) {st : FuncId → ES → EO} (hst : ∀ (fid : FuncId) (cs : List Frame) (w0 : Bs) (γ : G) (s : ES) (m : Machine), MR γ w0 cs s m → SOk P γ w0 cs fid m (st fid s)) (K : Nat) : LoudOk P (exSub st FT K) := by
  intro γ w0 w T o H n a H' n' fn tmps ops i rest k ds ro cs hT hH ho hw h
  unfold exLoud at h
  split at h
  · rename_i c hop
    have hd : notDefer o.op = true := by rw [hop]; rfl
    split at h
    · rename_i f hf
      split at h
      case h_2 => cases h
      rename_i args hargs
      split at h
      case h_2 => cases h
      rename_i c2 hcal
      have hca := exVals_ok hT hargs
      have hca : ECL γ args (c.args.map (opEval tmps)).toList := by simpa using hca
      have hex : ∀ w, (execOp (opEval tmps) o).run P w = (do let d ← resolve (opEval tmps) { callee := .value f, args := c.args, argTypes := c.argTypes } o.type; invoke d.target d.args : Sem Next).run P w := fun w => by
        obtain ⟨callee, ar, at2⟩ := c
        simp only at hf; subst hf
        unfold execOp; rw [hop]
      unfold exSub at h
      split at h
      · rename_i g as
        split at h
        · rename_i ct hct
          rcases run_callee (P := P) hT (opEval tmps) rfl (xs := c.args) (ats := c.argTypes) (t := o.type) rfl hca hcal with ⟨g', as', us, e1, e2, e3⟩ | ⟨l', b, m, e1, _⟩
          · injection e1 with e4 e5; subst e4; subst e5
            obtain ⟨γ', w', x, hle, hH2, hcx, q2, hst⟩ := ct_ok (P := P) hF hct hH e2 h (fram fn tmps (.inRegion ops (i :: rest) :: k) ds ro) cs
            rw [finish_op ho] at hst
            exact ⟨γ', w', x, hle, hH2, hcx, (Steps.one (st_opEnter (P := P) (w := w) (k := k) (ds := ds) (ro := ro) (cs := cs) (fn := fn) (rest := rest) ho hw hd (by rw [hex, e3, q2]))).trans hst⟩
          · cases e1
        split at h
        case h_2 => cases h
        rename_i e he
        split at h
        case h_2 => cases h
        rename_i a2 H2 n2 hrun
        simp only [Option.some.injEq, Prod.mk.injEq] at h
        obtain ⟨rfl, rfl, rfl⟩ := h
        rcases run_callee (P := P) hT (opEval tmps) rfl (xs := c.args) (ats := c.argTypes) (t := o.type) rfl hca hcal with ⟨g', as', us, e1, e2, e3⟩ | ⟨l', b, m, e1, _⟩
        · injection e1 with e4 e5; subst e4; subst e5
          obtain ⟨q1, q2⟩ := exEnter_ok hF e2 he
          have hent := st_opEnter (P := P) (w := w) (k := k) (ds := ds) (ro := ro) (cs := cs) (fn := fn) (rest := rest) ho hw hd (by rw [hex, e3, q2])
          have hM : MR γ w0 (fram fn tmps (.inRegion ops (i :: rest) :: k) ds ro :: cs) ⟨e, [], H, n⟩ (lone (Frame.enter P g us .normal) (fram fn tmps (.inRegion ops (i :: rest) :: k) ds ro :: cs) w) := ⟨_, [], w, rfl, q1, .nil, hH⟩
          have hr := exRun_ok (fid := g) (fun γ s m hm => hst g _ w0 γ s m hm) K _ _ _ hM
          rw [hrun] at hr
          obtain ⟨γ', fr', w', v, h1, h2, h3, h4, h5, h6⟩ := hr
          refine ⟨γ', w', v, h1, h6, h5, (Steps.one hent).trans (h2.trans (.one ?_))⟩
          rw [← finish_op ho]
          exact step_leave_returned h4
        · cases e1
      · rename_i l as
        split at h
        case h_2 => cases h
        rename_i e he
        split at h
        case h_2 => cases h
        rename_i b2 H2 n2 hrun
        simp only [Option.some.injEq, Prod.mk.injEq] at h
        obtain ⟨rfl, rfl, rfl⟩ := h
        rcases run_callee (P := P) hT (opEval tmps) rfl (xs := c.args) (ats := c.argTypes) (t := o.type) rfl hca hcal with ⟨g', as', us, e1, _⟩ | ⟨l', b, m, e1, hγ, e3⟩
        · cases e1
        · injection e1 with e4 e5; subst e4; subst e5
          obtain ⟨f2, ts, as2, bd2, q1, q2⟩ := exRound_ok (P := P) hH hγ hca he
          have hent := st_opRound (P := P) (w := w) (k := k) (ds := ds) (ro := ro) (cs := cs) (fn := fn) (rest := rest) ho hw hd (by rw [hex, e3, q1])
          have hM : MR γ w0 (fram fn tmps (.inRegion ops (i :: rest) :: k) ds ro :: cs) ⟨e, [], H, n⟩ (lone (Frame.round b.k f2 ts as2 bd2 .normal) (fram fn tmps (.inRegion ops (i :: rest) :: k) ds ro :: cs) w) := ⟨_, [], w, rfl, q2, .nil, hH⟩
          have hr := exRun_ok (fid := e.fn) (fun γ s m hm => hst e.fn _ w0 γ s m hm) K _ _ _ hM
          rw [hrun] at hr
          obtain ⟨γ', w', h1, h2, h3⟩ := hr _ _ rfl
          refine ⟨γ', w', _, h1, h3, .v _, (Steps.one hent).trans ?_⟩
          rw [← finish_op ho]
          exact h2
    · exact loud_op hT hH ho hw hd h
  · cases h
  · rename_i hnc hnd
    have hd : notDefer o.op = true := by
      cases hop : o.op <;> first | rfl | exact absurd hop (hnd _)
    exact loud_op hT hH ho hw hd h
end Go.Proofs.Ytcgopcfbgkhpgaa.Ev
