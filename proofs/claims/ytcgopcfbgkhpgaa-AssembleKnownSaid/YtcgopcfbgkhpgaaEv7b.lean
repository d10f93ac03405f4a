/- The reckoner's operations: empty rows, copy, clear, append of nothing. No program is named. -/
import Derived.Test.YtcgopcfbgkhpgaaEv7
namespace Go.Proofs.Ytcgopcfbgkhpgaa.Ev
open Go.RowKit
variable {P : Program} {γ : G} {w0 : Bs} {w : World} {H H' : Tr EK} {n n' : Nat} {T : Tr EV} {tmps : Array Value} {o : Oper} {r : Option EV}

/-- a row of no elements -/
noncomputable def exBS0 (P : Program) (t : TypeId) (len : Nat) (parts : Array (Nat × Operand)) (H : Tr EK) (n : Nat) : Option ER := match len with
  | 0 => match parts.toList with
    | [] => match elemInfo P t with
      | some ei => bc (Nat.ble n 65535) (some ⟨some (.sl n ei.z 0 0 (some 0)), H.put n (some (.cells ei.e [] true)), Nat.succ n⟩) none
      | none => none
    | _ => none
  | _ => none
theorem exBS0_ok (hH : HR γ w0 H n w) {t : TypeId} {len : Nat} {parts : Array (Nat × Operand)} {er : ER} (ho : o.op = .buildSlice t len parts) (h : exBS0 P t len parts H n = some er) :
    Gives P γ w0 w (execOp (opEval tmps) o) er.val er.H er.n := by
  unfold exBS0 at h
  split at h
  case h_2 => cases h
  split at h
  case h_2 => cases h
  rename_i hp
  split at h
  case h_2 => cases h
  rename_i ei hei
  obtain ⟨hu, inf, zv, hi, hz, hsz, hzs, hpos, hby⟩ := elemInfo_ok hei
  rw [bc_eq] at h
  split at h
  case isFalse => cases h
  rename_i hnb
  injection h with h; subst h
  have hp2 : parts = #[] := by apply Array.ext'; simpa using hp
  subst hp2
  refine gives_new hH hnb (c := #[]) (ECL.nil γ) (x := .slice (some ⟨w.heap.size, 0, none⟩) 0 0) ?_ fun γ' e => .sl n ei.z 0 0 _ _ _ 0 e (Nat.le_refl _) (by unfold maxLen; omega) (by simp) (fun k e => by injection e) (fun e => by cases e)
  have hex : execOp (opEval tmps) o = (do pure (Next.value (← Instr.buildSlice t 0 ((#[] : Array (Nat × Operand)).map fun (i, x) => (i, opEval tmps x)))) : Sem Next) := by unfold execOp; rw [ho]
  rw [hex]
  refine run_v ?_
  simp [Instr.buildSlice, run_underlying hu, sizeOf, typeInfo, hi, Instr.fill, run_newRow]
  exact congrArg (fun c => w.alloc (Obj.cells c ei.e)) (Array.eq_empty_of_size_eq_zero (by simp))
/-- nothing is appended -/
noncomputable def nilKeep (P : Program) (t : TypeId) (a : EV) : Option EV := match elemInfo P t with
  | some _ => match a with
    | .sl _ _ _ _ _ => some a
    | .v (.slice none 0 0) => some a
    | _ => none
  | none => none
noncomputable def exAppNil (P : Program) (t : TypeId) (a b : EV) : Option EV := match b with
  | .v (.slice none 0 _) => nilKeep P t a
  | .slE _ _ _ => nilKeep P t a
  | _ => none
theorem exAppNil_ok {t ty : TypeId} {a b r : EV} {va vb : Value} (ha : EC γ a va) (hb : EC γ b vb) (h : exAppNil P t a b = some r) : EC γ r va ∧ (Builtin.append_ #[t, t] ty #[va, vb]).run P w = .ok va w := by
  have key : ∀ (ba : Option Addr) (c : Nat), vb = .slice ba 0 c → nilKeep P t a = some r → EC γ r va ∧ (Builtin.append_ #[t, t] ty #[va, vb]).run P w = .ok va w := fun ba c hv h => by
    subst hv
    have hf : ∀ size : Nat, (Builtin.firstCells size 0 (.slice ba 0 c)).run P w = .ok #[] w := fun size => by
      cases ba with
      | none => simp [Builtin.firstCells]
      | some ad =>
        have := run_firstCells_some (P := P) w size 0 ad 0 c [] (by simp) (by simp)
        simpa using this
    unfold nilKeep at h
    split at h
    case h_2 => cases h
    rename_i ei hei
    obtain ⟨hu, inf, zv, hi, hz, hsz, hzs, hpos, hby⟩ := elemInfo_ok hei
    split at h
    · injection h with h; subst h
      refine ⟨ha, ?_⟩
      obtain ⟨b, m, c', hγ, rfl, hl, _⟩ := ec_sl ha
      simp [Builtin.append_, run_underlying hu, sizeOf, typeInfo, hi, Builtin.lenOf, hl, hf, storeCells]
    · injection h with h; subst h
      refine ⟨ha, ?_⟩
      have ha := ec_v ha
      subst ha
      simp [Builtin.append_, run_underlying hu, sizeOf, typeInfo, hi, Builtin.lenOf, hf]
    · cases h
  unfold exAppNil at h
  split at h
  · exact key none _ (ec_v hb) h
  · obtain ⟨b, m, c, off', _, he, _⟩ := ec_slE hb
    exact key _ _ he h
  · cases h
/-! ### copy, clear -/
noncomputable def exCopy (P : Program) (T : Tr EV) (args : List Operand) (ats : List TypeId) (H : Tr EK) (n : Nat) : Option ER := match args with
  | [x, y] => match ats with
    | [t, _] => match elemInfo P t with
      | some ei => match exVal T x with
        | some (.sl i z off len cap) => match exVal T y with
          | some (.sl j z' off' len' cap') => bc (Nat.beq z ei.z) (match newsOf H ei.z (.sl j z' off' (bc (Nat.ble len len') len len') cap') with
            | some (m, news) => match exPut i off news H with
              | some H' => some ⟨some (.v (.int .i64 (Int.ofNat (bc (Nat.ble len len') len len')))), H', n⟩
              | none => none
            | none => none) none
          | _ => none
        | _ => none
      | none => none
    | _ => none
  | _ => none
theorem EC.slLess {i z off len len' : Nat} {cap : Option Nat} {y : Value} (h : EC γ (.sl i z off len cap) y) (hl : len' ≤ len) : ∃ (b : Pl) (m c : Nat), γ i = some (b, m) ∧ y = .slice (some (b.at off)) len c ∧ EC γ (.sl i z off len' cap) (.slice (some (b.at off)) len' c) := by
  cases h with
  | sl i z off len cap b n c h hlc hm hn hc hu => exact ⟨b, n, c, h, rfl, .sl i z off len' cap b n c h (by omega) hm hn hc hu⟩
theorem exCopy_ok (hT : TOk γ T tmps) (hH : HR γ w0 H n w) {args : Array Operand} {ats : Array TypeId} {er : ER} (ho : o.op = .call { callee := .builtin .copy, args := args, argTypes := ats }) (h : exCopy P T args.toList ats.toList H n = some er) :
    Gives P γ w0 w (execOp (opEval tmps) o) er.val er.H er.n := by
  unfold exCopy at h
  split at h
  case h_2 => cases h
  rename_i x y hargs
  split at h
  case h_2 => cases h
  rename_i t u hats
  split at h
  case h_2 => cases h
  rename_i ei hei
  obtain ⟨hu, inf, zv, hi, hz, hsz, hzs, hpos, hby⟩ := elemInfo_ok hei
  split at h
  case h_2 => cases h
  rename_i i z off len cap hx
  split at h
  case h_2 => cases h
  rename_i j z' off' len' cap' hy
  rw [bc_eq] at h
  split at h
  case isFalse => cases h
  rename_i hzz
  have hzz := Nat.eq_of_beq_eq_true hzz
  subst hzz
  have hk : bc (Nat.ble len len') len len' = Nat.min len' len := by
    rw [bc_eq]
    split
    · rename_i h1; exact (Nat.min_eq_right (Nat.le_of_ble_eq_true h1)).symm
    · rename_i h1
      have h1 : ¬ len ≤ len' := fun h => h1 (Nat.ble_eq_true_of_le h)
      exact (Nat.min_eq_left (by omega)).symm
  rw [hk] at h
  obtain ⟨b1, m1, c1, hγ1, hx1, _⟩ := ec_sl (exVal_ok hT hx)
  obtain ⟨b2, m2, c2, hγ2, hy1, hy2⟩ := (exVal_ok hT hy).slLess (len' := Nat.min len' len) (Nat.min_le_left _ _)
  split at h
  case h_2 => cases h
  rename_i m news hnews
  obtain ⟨a, c, vs, he, hc, hl, hcell⟩ := newsOf_ok hH hy2 hnews
  simp only [Value.slice.injEq, Option.some.injEq] at he
  obtain ⟨rfl, rfl, rfl⟩ := he
  split at h
  case h_2 => cases h
  rename_i H2 hput
  injection h with h; subst h
  obtain ⟨g1, g2⟩ := exPut_ok (P := P) hH hc hput hγ1
  have ha2 : args = #[x, y] := by apply Array.ext'; simpa using hargs
  have ha3 : ats = #[t, u] := by apply Array.ext'; simpa using hats
  subst ha2; subst ha3
  refine ⟨γ, _, GLe.refl γ, g1, .int .i64 (Nat.min len' len : Nat), ?_, .v _⟩
  have hf := run_firstCells_some (P := P) w ei.z (Nat.min len' len) (b2.at off') len' c2 vs hl hcell
  have g2 : (storeCells (b1.at off) vs 0).run P w = .ok () (w.setCells b1.k (b1.s + off) vs) := g2
  have hf2 : (Builtin.firstCells inf.size (Nat.min len' len) (.slice (some (b2.at off')) len' c2)).run P w = .ok vs.toArray w := by rw [hsz]; exact hf
  have hcp : (Builtin.copy_ #[t, u] o.type #[opEval tmps x, opEval tmps y]).run P w = .ok (.int .i64 (Nat.min len' len : Nat)) (w.setCells b1.k (b1.s + off) vs) := by
    rw [hx1, hy1]
    unfold Builtin.copy_
    simp only [Sem.run_bind, run_underlying hu, Result.andThen_ok, Builtin.lenOf, Sem.run_pure, sizeOf, typeInfo, List.getElem?_toArray, List.getElem?_cons_zero, List.getElem?_cons_succ]
    simp [hi, hf2, g2, goInt]
  simp [execOp, ho, resolve, invoke, builtin, hcp]
noncomputable def exClear (P : Program) (T : Tr EV) (args : List Operand) (ats : List TypeId) (H : Tr EK) (n : Nat) : Option ER := match args with
  | [x] => match ats with
    | [t] => match elemOf P t with
      | some e => match Sx.zeroL P e with
        | some zs => match exVal T x with
          | some (.sl i z off len cap) => match len with
            | 0 => some ⟨some (.v (.tuple #[])), H, n⟩
            | _ => match exPut i off (zeroCellsE zs (Nat.mul len (llen zs))) H with
              | some H' => some ⟨some (.v (.tuple #[])), H', n⟩
              | none => none
          | _ => none
        | none => none
      | none => none
    | _ => none
  | _ => none
theorem exClear_ok (hT : TOk γ T tmps) (hH : HR γ w0 H n w) {args : Array Operand} {ats : Array TypeId} {er : ER} (ho : o.op = .call { callee := .builtin .clear, args := args, argTypes := ats }) (h : exClear P T args.toList ats.toList H n = some er) :
    Gives P γ w0 w (execOp (opEval tmps) o) er.val er.H er.n := by
  unfold exClear at h
  split at h
  case h_2 => cases h
  rename_i x hargs
  split at h
  case h_2 => cases h
  rename_i t hats
  split at h
  case h_2 => cases h
  rename_i e he
  split at h
  case h_2 => cases h
  rename_i zs hzs
  obtain ⟨inf, zv, hi, hzv, hzl⟩ := zero_of hzs
  have hu := elemOf_ok he
  split at h
  case h_2 => cases h
  rename_i i z off len cap hx
  obtain ⟨b1, m1, c1, hγ1, hx1, _⟩ := ec_sl (exVal_ok hT hx)
  have ha2 : args = #[x] := by apply Array.ext'; simpa using hargs
  have ha3 : ats = #[t] := by apply Array.ext'; simpa using hats
  subst ha2; subst ha3
  split at h
  · injection h with h; subst h
    refine ⟨γ, w, GLe.refl γ, hH, .tuple #[], ?_, .v _⟩
    simp [execOp, ho, resolve, invoke, builtin, hx1, Builtin.clear_, run_underlying hu]
  · rename_i hne
    split at h
    case h_2 => cases h
    rename_i H2 hput
    injection h with h; subst h
    have hzc := zeroCellsE_ok (γ := γ) zs (len * llen zs)
    obtain ⟨g1, g2⟩ := exPut_ok (P := P) hH hzc hput hγ1
    refine ⟨γ, _, GLe.refl γ, g1, .tuple #[], ?_, .v _⟩
    have g2 : (storeCells (b1.at off) _ 0).run P w = .ok () _ := g2
    cases len with
    | zero => exact absurd rfl hne
    | succ k =>
      have hcp : (Builtin.clear_ #[t] o.type #[opEval tmps x]).run P w = .ok (.tuple #[]) (w.setCells b1.k (b1.s + off) (((Array.range ((k + 1) * llen zs)).map (zs.toArray[· % zs.toArray.size]!)).toList)) := by
        rw [hx1]
        unfold Builtin.clear_
        have e1 : zv.cells = zs.toArray := by apply Array.ext'; simpa using hzl
        have e2 : (Builtin.zeroCells zv.cells (k + 1)).toList = ((Array.range ((k + 1) * llen zs)).map (zs.toArray[· % zs.toArray.size]!)).toList := by
          unfold Builtin.zeroCells
          rw [e1, llen_eq, show zs.toArray.size = zs.length by simp]
        simp only [Sem.run_bind, run_underlying hu, Result.andThen_ok, Sem.run_pure, List.getElem?_toArray, List.getElem?_cons_zero]
        simp [zeroValue, typeInfo, hi, hzv, e2]
        simp only [Array.toList_map, Array.toList_range] at g2
        simp at g2
        rw [g2]; rfl
      simp [execOp, ho, resolve, invoke, builtin, hcp]
end Go.Proofs.Ytcgopcfbgkhpgaa.Ev
