/- The reckoner's operations, all of them. No program is named. -/
import Derived.Test.YtcgopcfbgkhpgaaEv7e
namespace Go.Proofs.Ytcgopcfbgkhpgaa.Ev
open Go.RowKit
variable {P : Program} {γ : G} {w0 : Bs} {w : World} {H H' : Tr EK} {n n' : Nat} {T : Tr EV} {tmps : Array Value} {o : Oper} {r : Option EV}

noncomputable def keep (a : Option EV) (H : Tr EK) (n : Nat) : Option ER := match a with
  | some a => some ⟨some a, H, n⟩
  | none => none
noncomputable def orPure (a : Option ER) (P : Program) (T : Tr EV) (o : Oper) (H : Tr EK) (n : Nat) : Option ER := match a with
  | some e => some e
  | none => match exPure P T o with
    | some v => some ⟨some (.v v), H, n⟩
    | none => none
def OK (P : Program) (γ : G) (w0 : Bs) (w : World) (tmps : Array Value) (o : Oper) (e : Option ER) : Prop := ∀ er, e = some er → Gives P γ w0 w (execOp (opEval tmps) o) er.val er.H er.n
theorem keep_ok {a : Option EV} (h : ∀ b, a = some b → Gives P γ w0 w (execOp (opEval tmps) o) (some b) H n) : OK P γ w0 w tmps o (keep a H n) := fun er he => by
  unfold keep at he
  split at he
  · rename_i b
    injection he with he; subst he
    exact h b rfl
  · cases he
theorem orPure_ok (hT : TOk γ T tmps) (hH : HR γ w0 H n w) {a : Option ER} (h : OK P γ w0 w tmps o a) : OK P γ w0 w tmps o (orPure a P T o H n) := fun er he => by
  unfold orPure at he
  split at he
  · rename_i e
    injection he with he; subst he
    exact h e rfl
  · split at he
    · rename_i v hv
      injection he with he; subst he
      exact gives_value (exPure_ok hT hv w) (.v v) hH
    · cases he
theorem none_ok : OK P γ w0 w tmps o none := fun er he => by cases he
noncomputable def exPick (T : Tr EV) (c a b : Operand) : Option EV := match exVal T c with
  | some (.v (.bool t)) => bc t (exVal T a) (exVal T b)
  | _ => none
theorem exPick_ok (hT : TOk γ T tmps) (hH : HR γ w0 H n w) {c x y : Operand} {a : EV} (ho : o.op = .pick c x y) (h : exPick T c x y = some a) : Gives P γ w0 w (execOp (opEval tmps) o) (some a) H n := by
  unfold exPick at h
  split at h
  case h_2 => cases h
  rename_i t hc
  rw [bc_eq] at h
  have hcv := ec_v (exVal_ok hT hc)
  cases t with
  | true => exact gives_value (x := opEval tmps x) (by simp [execOp, ho, hcv, asBool]) (exVal_ok hT h) hH
  | false => exact gives_value (x := opEval tmps y) (by simp [execOp, ho, hcv, asBool]) (exVal_ok hT h) hH
/-- ints and strings, at once -/
noncomputable def exBin (T : Tr EV) (op : BinOp) (x y : Operand) : Option EV := match exVal T x with
  | some (.v u) => match exVal T y with
    | some (.v v) => match Sx.binV op u v with
      | some r => some (.v r)
      | none => none
    | _ => none
  | _ => none
theorem exBin_ok (hT : TOk γ T tmps) (hH : HR γ w0 H n w) {op : BinOp} {t t' : TypeId} {x y : Operand} {a : EV} (ho : o.op = .binOp op t x y t') (h : exBin T op x y = some a) : Gives P γ w0 w (execOp (opEval tmps) o) (some a) H n := by
  unfold exBin at h
  split at h
  case h_2 => cases h
  rename_i u hu
  split at h
  case h_2 => cases h
  rename_i v hv
  split at h
  case h_2 => cases h
  rename_i r hr
  injection h with h; subst h
  have h1 := ec_v (exVal_ok hT hu)
  have h2 := ec_v (exVal_ok hT hv)
  refine gives_value (x := r) ?_ (.v r) hH
  have hrun := Sx.run_binV (P := P) (w := w) (t := t) (x := x) (y := y) hr
  have he : execOp (opEval tmps) o = (do pure (Next.value (← (do eqGuard op t x y u v; binOp op t u v : Sem Value))) : Sem Next) := by
    unfold execOp; rw [ho]; simp only [h1, h2]
  rw [he]
  exact run_v hrun
/-- a slice or a function beside nil -/
noncomputable def neqB (op : BinOp) : Option Bool := match op with
  | .eql => some false
  | .neq => some true
  | _ => none
noncomputable def exNilEq (P : Program) (T : Tr EV) (op : BinOp) (t : TypeId) (x y : Operand) : Option EV := match neqB op with
  | some b => match exVal T x with
    | some (.sl _ _ _ _ _) => match exVal T y with
      | some (.v (.slice none _ _)) => match P.underlying t with
        | some (.slice _) => some (.v (.bool b))
        | _ => none
      | _ => none
    | some (.fn _ _) => match exVal T y with
      | some (.v .nilFunc) => match P.underlying t with
        | some (.func _ _ _) => some (.v (.bool b))
        | _ => none
      | _ => none
    | _ => none
  | none => none
theorem run_eq_slice {t e : TypeId} (hu : P.underlying t = some (.slice e)) (a : Addr) (l c : Nat) (l2 c2 : Nat) (w : World) : (Op.equal t (.slice (some a) l c) (.slice none l2 c2)).run P w = .ok false w := by
  show (Op.equalIn (9999 + 1) t (.slice (some a) l c) (.slice none l2 c2)).run P w = .ok false w
  unfold Op.equalIn
  rw [Sem.run_bind, run_underlying hu, Result.andThen_ok]
  rfl
theorem run_eq_func {t : TypeId} {ps rs : Array TypeId} {vv : Bool} (hu : P.underlying t = some (.func ps rs vv)) (f : Fn) (x y : Array Value) (w : World) : (Op.equal t (.func f x y) .nilFunc).run P w = .ok false w := by
  show (Op.equalIn (9999 + 1) t (.func f x y) .nilFunc).run P w = .ok false w
  unfold Op.equalIn
  rw [Sem.run_bind, run_underlying hu, Result.andThen_ok]
  rfl
theorem run_nilEq {op : BinOp} {b : Bool} (hb : neqB op = some b) {t : TypeId} {x y : Operand} {u v : Value} (hg : ∀ op, eqGuard op t x y u v = pure ()) (h1 : binOp .eql t u v = do pure (.bool (← Op.equal t u v))) (h2 : binOp .neq t u v = do pure (.bool (!(← Op.equal t u v))))
    (hr : (Op.equal t u v).run P w = .ok false w) : (do eqGuard op t x y u v; binOp op t u v : Sem Value).run P w = .ok (.bool b) w := by
  rw [hg]
  cases op <;> simp [neqB] at hb <;> subst hb
  · rw [h1]; simp [hr]
  · rw [h2]; simp [hr]
theorem exNilEq_ok (hT : TOk γ T tmps) (hH : HR γ w0 H n w) {op : BinOp} {t t' : TypeId} {x y : Operand} {a : EV} (ho : o.op = .binOp op t x y t') (h : exNilEq P T op t x y = some a) : Gives P γ w0 w (execOp (opEval tmps) o) (some a) H n := by
  unfold exNilEq at h
  split at h
  case h_2 => cases h
  rename_i b hb
  have hex : ∀ u v : Value, opEval tmps x = u → opEval tmps y = v → execOp (opEval tmps) o = (do pure (Next.value (← (do eqGuard op t x y u v; binOp op t u v : Sem Value))) : Sem Next) := fun u v h1 h2 => by
    unfold execOp; rw [ho]; simp only [h1, h2]
  split at h
  · rename_i i z off len cap hx
    split at h
    case h_2 => cases h
    rename_i l c hy
    split at h
    case h_2 => cases h
    rename_i e hu
    injection h with h; subst h
    obtain ⟨bb, m, c', _, he, _⟩ := ec_sl (exVal_ok hT hx)
    have h2 := ec_v (exVal_ok hT hy)
    refine gives_value (x := .bool b) ?_ (.v _) hH
    rw [hex _ _ he h2]
    exact run_v (run_nilEq hb (fun op => by cases op <;> rfl) rfl rfl (run_eq_slice hu _ _ _ _ _ w))
  · rename_i f l hx
    split at h
    case h_2 => cases h
    rename_i hy
    split at h
    case h_2 => cases h
    rename_i ps rs vv hu
    injection h with h; subst h
    have hc := exVal_ok hT hx
    generalize hxx : opEval tmps x = xx at hc
    cases hc with
    | fn _ _ vs _ _ =>
      have h2 := ec_v (exVal_ok hT hy)
      refine gives_value (x := .bool b) ?_ (.v _) hH
      rw [hex _ _ hxx h2]
      exact run_v (run_nilEq hb (fun op => by cases op <;> rfl) rfl rfl (run_eq_func hu _ _ _ w))
  · cases h
noncomputable def exApp (P : Program) (T : Tr EV) (args : List Operand) (ats : List TypeId) (H : Tr EK) (n : Nat) : Option ER := match args with
  | [x, y] => match ats with
    | [t, u] => bc (Nat.beq t u) (match exVal T x with
      | some a => match exVal T y with
        | some b => match exAppNil P t a b with
          | some r => some ⟨some r, H, n⟩
          | none => exAppend P t a b H n
        | none => none
      | none => none) (exAppZ P T x y t u H n)
    | _ => none
  | _ => none
theorem exApp_ok (hT : TOk γ T tmps) (hH : HR γ w0 H n w) {args : Array Operand} {ats : Array TypeId} (ho : o.op = .call { callee := .builtin .append, args := args, argTypes := ats }) : OK P γ w0 w tmps o (exApp P T args.toList ats.toList H n) := fun er h => by
  unfold exApp at h
  split at h
  case h_2 => cases h
  rename_i x y hargs
  split at h
  case h_2 => cases h
  rename_i t u hats
  rw [bc_eq] at h
  split at h
  case isFalse =>
    have ha2 : args = #[x, y] := by apply Array.ext'; simpa using hargs
    have ha3 : ats = #[t, u] := by apply Array.ext'; simpa using hats
    subst ha2; subst ha3
    exact exAppZ_ok hT hH ho h
  rename_i htu
  have htu := Nat.eq_of_beq_eq_true htu
  subst htu
  split at h
  case h_2 => cases h
  rename_i a ha
  split at h
  case h_2 => cases h
  rename_i b hb
  have ha2 : args = #[x, y] := by apply Array.ext'; simpa using hargs
  have ha3 : ats = #[t, t] := by apply Array.ext'; simpa using hats
  subst ha2; subst ha3
  split at h
  · rename_i r hr
    injection h with h; subst h
    obtain ⟨q1, q2⟩ := exAppNil_ok (P := P) (w := w) (ty := o.type) (exVal_ok hT ha) (exVal_ok hT hb) hr
    refine ⟨γ, w, GLe.refl γ, hH, _, ?_, q1⟩
    simp [execOp, ho, resolve, invoke, builtin, q2]
  · obtain ⟨γ', w', v', h1, h2, h3, av, h4, h5⟩ := exAppend_ok (ty := o.type) hT hH (exVal_ok hT ha) (exVal_ok hT hb) h
    refine ⟨γ', w', h1, h2, ?_⟩
    rw [h4]
    refine ⟨v', ?_, h5⟩
    simp [execOp, ho, resolve, invoke, builtin, h3]
noncomputable def exBuiltin (P : Program) (T : Tr EV) (b : Builtin) (args : List Operand) (ats : List TypeId) (H : Tr EK) (n : Nat) : Option ER := match b with
  | .append => exApp P T args ats H n
  | .copy => exCopy P T args ats H n
  | .clear => exClear P T args ats H n
  | .delete => exDelete P T args ats H n
  | .len => match args with
    | [x] => match ats with
      | [t] => keep (exLen P T x t) H n
      | _ => none
    | _ => none
  | _ => none
noncomputable def exConvert (P : Program) (T : Tr EV) (src dst : TypeId) (x : Operand) (o : Oper) (H : Tr EK) (n : Nat) : Option ER := match exToB P T src dst x H n with
  | some er => some er
  | none => orPure (keep (exFromB P T src dst x H) H n) P T o H n
noncomputable def exOp0 (P : Program) (T : Tr EV) (o : Oper) (H : Tr EK) (n : Nat) : Option ER := match o.op with
  | .move x => keep (exVal T x) H n
  | .assign x => keep (exVal T x) H n
  | .pick c a b => keep (exPick T c a b) H n
  | .alloc t => exAllocB P t H n
  | .box t x => exBox T t x H n
  | .build t parts => keep (exBuild P T t parts) H n
  | .buildSlice t len parts => match exBS0 P t len parts H n with
    | some e => some e
    | none => exBuildSlice P T t len parts H n
  | .load t x => keep (exLoad P T t x H) H n
  | .store t x y => exStore P T t x y H n
  | .nilCheck x => orPure (keep (exNil T x) H n) P T o H n
  | .binOp op t x y _ => orPure (match exBin T op x y with
    | some a => keep (some a) H n
    | none => keep (exNilEq P T op t x y) H n) P T o H n
  | .makeFunc fn first captured => keep (exFunc T fn first captured) H n
  | .makeSlice t len cap => exMake P T t len cap H n
  | .slice t x lo hi mx => orPure (keep (exSlice P T t x lo hi mx H) H n) P T o H n
  | .fieldAddr s x f => keep (exField P T s x f) H n
  | .field t x f => orPure (keep (exFieldV P T t x f) H n) P T o H n
  | .indexAddr t x ix => keep (exIndex P T t x ix) H n
  | .index t x ix => orPure (keep (exIndexA P T t x ix) H n) P T o H n
  | .extract x j => orPure (keep (exExtract T x j) H n) P T o H n
  | .convert src dst x => exConvert P T src dst x o H n
  | .insert t m k x => exMapUpd P T t m k x H n
  | .makeMap t hint => exMakeMap hint H n
  | .lookup t m k ok => orPure (keep (exLookup P T t m k ok H) H n) P T o H n
  | .mapUpdate t m k x => exMapUpd P T t m k x H n
  | .call c => match c.callee with
    | .builtin b => orPure (exBuiltin P T b c.args.toList c.argTypes.toList H n) P T o H n
    | _ => none
  | _ => orPure none P T o H n
/-! the same, with arms that mention nothing: the kernel then copies little -/
noncomputable def exBS (P : Program) (T : Tr EV) (t : TypeId) (len : Nat) (parts : Array (Nat × Operand)) (H : Tr EK) (n : Nat) : Option ER := match exBS0 P t len parts H n with
  | some e => some e
  | none => exBuildSlice P T t len parts H n
noncomputable def exBinOp (P : Program) (T : Tr EV) (op : BinOp) (t : TypeId) (x y : Operand) (o : Oper) (H : Tr EK) (n : Nat) : Option ER := orPure (match exBin T op x y with
  | some a => keep (some a) H n
  | none => keep (exNilEq P T op t x y) H n) P T o H n
noncomputable def exCallB (P : Program) (T : Tr EV) (c : Call) (o : Oper) (H : Tr EK) (n : Nat) : Option ER := match c.callee with
  | .builtin b => orPure (exBuiltin P T b c.args.toList c.argTypes.toList H n) P T o H n
  | _ => none
noncomputable def opArms (op : Op) : Program → Tr EV → Oper → Tr EK → Nat → Option ER := Op.rec (motive := fun _ => Program → Tr EV → Oper → Tr EK → Nat → Option ER)
  (fun x P T o H n => keep (exVal T x) H n)
  (fun x P T o H n => keep (exVal T x) H n)
  (fun c a b P T o H n => keep (exPick T c a b) H n)
  (fun t P T o H n => exAllocB P t H n)
  (fun t x P T o H n => exBox T t x H n)
  (fun t parts P T o H n => keep (exBuild P T t parts) H n)
  (fun t len parts P T o H n => exBS P T t len parts H n)
  (fun t m k x P T o H n => exMapUpd P T t m k x H n)
  (fun t x P T o H n => keep (exLoad P T t x H) H n)
  (fun t x y P T o H n => exStore P T t x y H n)
  (fun _ P T o H n => orPure none P T o H n)
  (fun _ P T o H n => orPure none P T o H n)
  (fun x P T o H n => orPure (keep (exNil T x) H n) P T o H n)
  (fun op t x y _ P T o H n => exBinOp P T op t x y o H n)
  (fun _ _ _ P T o H n => orPure none P T o H n)
  (fun src dst x P T o H n => exConvert P T src dst x o H n)
  (fun _ _ P T o H n => orPure none P T o H n)
  (fun _ _ P T o H n => orPure none P T o H n)
  (fun fn first captured P T o H n => keep (exFunc T fn first captured) H n)
  (fun _ hint P T o H n => exMakeMap hint H n)
  (fun _ _ P T o H n => orPure none P T o H n)
  (fun t len cap P T o H n => exMake P T t len cap H n)
  (fun t x lo hi mx P T o H n => orPure (keep (exSlice P T t x lo hi mx H) H n) P T o H n)
  (fun s x f P T o H n => keep (exField P T s x f) H n)
  (fun t x f P T o H n => orPure (keep (exFieldV P T t x f) H n) P T o H n)
  (fun t x ix P T o H n => keep (exIndex P T t x ix) H n)
  (fun t x ix P T o H n => orPure (keep (exIndexA P T t x ix) H n) P T o H n)
  (fun t m k ok P T o H n => orPure (keep (exLookup P T t m k ok H) H n) P T o H n)
  (fun t m k x P T o H n => exMapUpd P T t m k x H n)
  (fun _ _ _ P T o H n => orPure none P T o H n)
  (fun _ _ _ _ P T o H n => orPure none P T o H n)
  (fun _ _ P T o H n => orPure none P T o H n)
  (fun _ _ P T o H n => orPure none P T o H n)
  (fun _ P T o H n => orPure none P T o H n)
  (fun _ _ _ _ P T o H n => orPure none P T o H n)
  (fun x j P T o H n => orPure (keep (exExtract T x j) H n) P T o H n)
  (fun c P T o H n => exCallB P T c o H n)
  (fun _ P T o H n => orPure none P T o H n)
  (fun _ P T o H n => orPure none P T o H n)
  (fun _ P T o H n => orPure none P T o H n)
  (fun _ _ P T o H n => orPure none P T o H n)
  (fun _ _ _ P T o H n => orPure none P T o H n)
  (fun _ _ P T o H n => orPure none P T o H n)
  op
noncomputable def exOp (P : Program) (T : Tr EV) (o : Oper) (H : Tr EK) (n : Nat) : Option ER := opArms o.op P T o H n
theorem exOp_eq : exOp P T o H n = exOp0 P T o H n := by
  unfold exOp exOp0
  cases o.op <;> rfl
theorem exOp_ok (hT : TOk γ T tmps) (hH : HR γ w0 H n w) : OK P γ w0 w tmps o (exOp P T o H n) := by
  rw [exOp_eq]
  unfold exOp0
  split
  · rename_i x ho
    exact keep_ok fun b hb => gives_value (x := opEval tmps x) (by simp [execOp, ho]) (exVal_ok hT hb) hH
  · rename_i x ho
    exact keep_ok fun b hb => gives_value (x := opEval tmps x) (by simp [execOp, ho]) (exVal_ok hT hb) hH
  · rename_i c a b ho
    exact keep_ok fun b hb => exPick_ok hT hH ho hb
  · rename_i t ho
    exact fun er h => exAllocB_ok hH ho h
  · rename_i t x ho
    exact fun er h => exBox_ok hT hH ho h
  · rename_i t parts ho
    exact keep_ok fun b hb => exBuild_ok hT hH ho hb
  · rename_i t len parts ho
    split
    · rename_i e he
      exact fun er h => exBS0_ok hH ho (he.trans h)
    · exact fun er h => exBuildSlice_ok hT hH ho h
  · rename_i t x ho
    exact keep_ok fun b hb => exLoad_ok hT hH ho hb
  · rename_i t x y ho
    exact fun er h => exStore_ok hT hH ho h
  · rename_i x ho
    exact orPure_ok hT hH (keep_ok fun b hb => exNil_ok hT hH ho hb)
  · rename_i op t x y t' ho
    refine orPure_ok hT hH ?_
    split
    · rename_i a ha
      exact keep_ok fun b hb => by injection hb with hb; subst hb; exact exBin_ok hT hH ho ha
    · exact keep_ok fun b hb => exNilEq_ok hT hH ho hb
  · rename_i fn first captured ho
    exact keep_ok fun b hb => exFunc_ok hT hH ho hb
  · rename_i t len cap ho
    exact fun er h => exMake_ok hT hH ho h
  · rename_i t x lo hi mx ho
    exact orPure_ok hT hH (keep_ok fun b hb => exSlice_ok hT hH ho hb)
  · rename_i s x f ho
    exact keep_ok fun b hb => exField_ok hT hH ho hb
  · rename_i t x f ho
    exact orPure_ok hT hH (keep_ok fun b hb => exFieldV_ok hT hH ho hb)
  · rename_i t x ix ho
    exact keep_ok fun b hb => exIndex_ok hT hH ho hb
  · rename_i t x ix ho
    exact orPure_ok hT hH (keep_ok fun b hb => exIndexA_ok hT hH ho hb)
  · rename_i x j ho
    exact orPure_ok hT hH (keep_ok fun b hb => exExtract_ok hT hH ho hb)
  · rename_i src dst x ho
    unfold exConvert
    split
    · rename_i e he
      exact fun er h => exToB_ok hT hH ho (he.trans h)
    · exact orPure_ok hT hH (keep_ok fun b hb => exFromB_ok hT hH ho hb)
  · rename_i t m k x ho
    exact fun er h => exMapUpd_ok hT hH (by unfold execOp; rw [ho]) h
  · rename_i t hint ho
    exact fun er h => exMakeMap_ok hH ho h
  · rename_i t m k ok ho
    exact orPure_ok hT hH (keep_ok fun b hb => exLookup_ok hT hH ho hb)
  · rename_i t m k x ho
    exact fun er h => exMapUpd_ok hT hH (by unfold execOp; rw [ho]) h
  · rename_i c ho
    split
    · rename_i b hb
      refine orPure_ok hT hH ?_
      obtain ⟨callee, args, ats⟩ := c
      simp only at hb; subst hb
      unfold exBuiltin
      split
      · exact exApp_ok hT hH ho
      · exact fun er h => exCopy_ok hT hH ho h
      · exact fun er h => exClear_ok hT hH ho h
      · exact fun er h => exDelete_ok hT hH ho h
      · split
        · rename_i x hargs
          split
          · rename_i t hats
            have ha2 : args = #[x] := by apply Array.ext'; simpa using hargs
            have ha3 : ats = #[t] := by apply Array.ext'; simpa using hats
            subst ha2; subst ha3
            exact keep_ok fun b hb => exLen_ok hT hH ho hb
          · exact none_ok
        · exact none_ok
      · exact none_ok
    · exact none_ok
  · exact orPure_ok hT hH none_ok
end Go.Proofs.Ytcgopcfbgkhpgaa.Ev
