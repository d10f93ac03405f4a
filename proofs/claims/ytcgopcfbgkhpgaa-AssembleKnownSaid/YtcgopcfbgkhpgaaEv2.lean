/- The reckoner's operations: what asks nothing of the memory (the model's own functions are run), and what makes, reads and writes cells. No program is named. -/
import Derived.Test.YtcgopcfbgkhpgaaEv1
import Derived.Test.YtcgopcfbgkhpgaaSx6
namespace Go.Proofs.Ytcgopcfbgkhpgaa.Ev
open Go.RowKit

/-- a tree of the model's that asks nothing of the memory -/
noncomputable def pureOf {α : Type} (P : Program) (s : Sem α) : Option α :=
  Sem.rec (motive := fun _ => Option α) (fun a => some a) (fun _ _ _ _ => none) (fun _ _ _ _ _ => none) (fun _ _ _ => none) (fun _ _ _ => none) (fun _ _ _ _ => none) (fun _ _ _ => none) (fun _ _ _ => none) (fun _ _ _ _ => none) (fun _ _ _ => none) (fun _ _ _ => none)
    (fun _ ih => ih P) (fun _ _ ih => ih) (fun _ => none) s
theorem pureOf_run {α : Type} {P : Program} {s : Sem α} {a : α} (h : pureOf P s = some a) (w : World) : s.run P w = .ok a w := by
  induction s with
  | pure b => simp [pureOf] at h; subst h; simp [Sem.run]
  | program k ih =>
    have := ih P h
    simpa [Sem.run] using this
  | mark m k ih =>
    have := ih h
    simpa [Sem.run] using this
  | _ => simp [pureOf] at h

noncomputable def vOf (a : Option EV) : Option Value := match a with
  | some (.v x) => some x
  | _ => none
noncomputable def exVal (T : Tr EV) (x : Operand) : Option EV := match x with
  | .tmp t => T.get t
  | .const x => some (.v x)
  | .global _ => none
  | .func f => some (.fn f [])
def opEval (tmps : Array Value) : Operand → Value
  | .tmp t => tmps.getD t undef
  | .const v => v
  | .global g => .pointer (some ⟨g, 0, none⟩)
  | .func f => .func (.func f) #[] #[]
variable {P : Program} {γ : G} {w0 : Bs} {w : World} {H : Tr EK} {n : Nat} {T : Tr EV} {tmps : Array Value}
theorem getD_of {t : Nat} {x : Value} (h : tmps[t]? = some x) : tmps.getD t undef = x := by
  simp [Array.getD, Array.getElem?_eq_some_iff] at h ⊢
  obtain ⟨h1, h2⟩ := h
  simp [h1, h2]
theorem exVal_ok (hT : TOk γ T tmps) {x : Operand} {a : EV} (h : exVal T x = some a) : EC γ a (opEval tmps x) := by
  cases x with
  | tmp t =>
    obtain ⟨y, hy, hc⟩ := hT t a h
    show EC γ a (tmps.getD t undef)
    rw [getD_of hy]; exact hc
  | const v => simp [exVal] at h; subst h; exact .v v
  | global g => simp [exVal] at h
  | func f => simp [exVal] at h; subst h; exact .fn f [] [] rfl (by simp)
theorem ec_v {x y : Value} (h : EC γ (.v x) y) : y = x := by cases h; rfl
/-- operands without addresses -/
noncomputable def rho (T : Tr EV) (x : Operand) : Value := (vOf (exVal T x)).getD undef
noncomputable def allV (T : Tr EV) (l : List Operand) : Bool := List.rec true (fun x _ ih => bc (Option.isSome (vOf (exVal T x))) ih false) l
theorem allV_ok (hT : TOk γ T tmps) {l : List Operand} (h : allV T l = true) : ∀ x ∈ l, opEval tmps x = rho T x := by
  induction l with
  | nil => simp
  | cons y l ih =>
    have h' : bc (Option.isSome (vOf (exVal T y))) (allV T l) false = true := h
    rw [bc_eq] at h'
    by_cases e : (vOf (exVal T y)).isSome = true
    · rw [if_pos e] at h'
      intro x hx
      rcases List.mem_cons.1 hx with rfl | hx
      · unfold rho
        cases ha : exVal T x with
        | none => rw [ha] at e; simp [vOf] at e
        | some a =>
          rw [ha] at e
          cases a with
          | v u => simp [vOf]; exact ec_v (exVal_ok hT ha)
          | _ => simp [vOf] at e
      · exact ih h' x hx
    · rw [if_neg e] at h'; cases h'
def notSelect : Op → Bool
  | .select _ _ => false
  | _ => true
noncomputable def exPure (P : Program) (T : Tr EV) (o : Oper) : Option Value :=
  bc (allV T o.op.operands.toList) (bc (notSelect o.op) (match pureOf P (execOp (rho T) o) with
    | some (.value v) => some v
    | _ => none) none) none
theorem exPure_ok (hT : TOk γ T tmps) {o : Oper} {v : Value} (h : exPure P T o = some v) (w : World) : (execOp (opEval tmps) o).run P w = .ok (.value v) w := by
  unfold exPure at h
  rw [bc_eq, bc_eq] at h
  split at h
  · rename_i h1
    split at h
    · rename_i h2
      split at h
      · rename_i u hu
        injection h with h; subst h
        have := allV_ok hT h1
        rw [execOp_congr o (fun cs b e => by rw [e] at h2; simp [notSelect] at h2) (ρ' := rho T) (fun x hx => this x (by simpa using hx))]
        exact pureOf_run hu w
      · cases h
    · cases h
  · cases h

/-! ### cells of values -/
def EV.cells : EV → List EV
  | .v x => x.cells.toList.map .v
  | .agg cs => cs
  | a => [a]
theorem EC.cells {a : EV} {x : Value} (h : EC γ a x) : ECL γ a.cells x.cells.toList := by
  cases h with
  | v x => exact ECL.vals γ _
  | agg cs vs hl h => exact ⟨hl, h⟩
  | ptr i off b n h => exact ECL.cons (.ptr i off b n h) (ECL.nil γ)
  | sl i z off len cap b n c h hl hm hn hc hu => exact ECL.cons (.sl i z off len cap b n c h hl hm hn hc hu) (ECL.nil γ)
  | tup cs vs hl h => exact ECL.cons (.tup cs vs hl h) (ECL.nil γ)
  | fn f cs vs hl h => exact ECL.cons (.fn f cs vs hl h) (ECL.nil γ)
  | yl i b n h => exact ECL.cons (.yl i b n h) (ECL.nil γ)
  | mp i b n h => exact ECL.cons (.mp i b n h) (ECL.nil γ)
  | slE i z off b n c off' h hm hn => exact ECL.cons (.slE i z off b n c off' h hm hn) (ECL.nil γ)
  | mt f cs vs hl h => exact ECL.cons (.mt f cs vs hl h) (ECL.nil γ)
noncomputable def valsOf (cs : List EV) : Option (List Value) := List.rec (some []) (fun a _ ih => match a with
  | .v x => match ih with
    | some l => some (x :: l)
    | none => none
  | _ => none) cs
theorem valsOf_eq : ∀ {cs : List EV} {l : List Value}, valsOf cs = some l → cs = l.map .v
  | [], l, h => by simp [valsOf] at h; subst h; rfl
  | a :: cs, l, h => by
    cases a with
    | v x =>
      have h' : (match valsOf cs with
        | some l => some (x :: l)
        | none => none) = some l := h
      split at h'
      · rename_i l2 h2
        injection h' with h'; subst h'
        rw [valsOf_eq h2]; rfl
      · cases h'
    | _ => exact absurd (show (none : Option (List Value)) = some l from h) (by simp)
/-- an aggregate of cells -/
noncomputable def packE (cs : List EV) : EV := match valsOf cs with
  | some l => .v (.agg l.toArray)
  | none => .agg cs
theorem packE_ok {cs : List EV} {vs : List Value} (h : ECL γ cs vs) : EC γ (packE cs) (.agg vs.toArray) := by
  unfold packE
  split
  · rename_i l hl
    have e := valsOf_eq hl
    subst e
    have : vs = l := by
      apply List.ext_getElem?
      intro j
      cases hj : vs[j]? with
      | none =>
        have : ¬ j < vs.length := by simpa using hj
        have hl := h.1
        simp at hl
        simp; omega
      | some x =>
        have hlt : j < vs.length := (List.getElem?_eq_some_iff.1 hj).1
        have hl := h.1
        simp at hl
        have := h.2 j (.v l[j]) x (by simp) hj
        rw [ec_v this]
        simp [show j < l.length by omega]
    subst this
    exact .v _
  · exact .agg cs vs h.1 h.2
/-- a value of one cell -/
def EV.one : EV → Bool
  | .v (.agg _) => false
  | .v (.tuple _) => false
  | .agg _ => false
  | .tup _ => false
  | _ => true
theorem EC.one {a : EV} {x : Value} (h : EC γ a x) (h1 : a.one = true) : x.oneCell' = true := by
  cases h with
  | v x => cases x <;> first | rfl | (simp [EV.one] at h1)
  | agg => simp [EV.one] at h1
  | tup => simp [EV.one] at h1
  | _ => rfl
theorem ECL.ones {cs : List EV} {vs : List Value} (h : ECL γ cs vs) (h1 : cs.all EV.one = true) : ∀ u ∈ vs, u.oneCell' = true := fun u hu => by
  obtain ⟨j, hj, rfl⟩ := List.getElem_of_mem hu
  have hj2 : j < cs.length := by rw [h.1]; exact hj
  exact (h.2 j cs[j] vs[j] (by simp [hj2]) (by simp [hj])).one (by rw [List.all_eq_true] at h1; exact h1 _ (List.getElem_mem hj2))

/-! ### what a result says -/
/-- an operation has given a value (or none), and the memory is as it is -/
def Gives (P : Program) (γ : G) (w0 : Bs) (w : World) (s : Sem Next) (r : Option EV) (H : Tr EK) (n : Nat) : Prop :=
  ∃ γ' w', GLe γ γ' ∧ HR γ' w0 H n w' ∧ match r with
    | some a => ∃ x, s.run P w = .ok (.value x) w' ∧ EC γ' a x
    | none => s.run P w = .ok .skip w'
theorem gives_value {s : Sem Next} {a : EV} {x : Value} (hr : s.run P w = .ok (.value x) w) (ha : EC γ a x) (hH : HR γ w0 H n w) : Gives P γ w0 w s (some a) H n :=
  ⟨γ, w, GLe.refl γ, hH, x, hr, ha⟩
theorem run_v {s : Sem Value} {x : Value} {w w' : World} (h : s.run P w = .ok x w') : (do pure (Next.value (← s)) : Sem Next).run P w = .ok (.value x) w' := by
  simp [h]
theorem run_u {s : Sem Unit} {w w' : World} (h : s.run P w = .ok () w') : (do s; pure Next.skip : Sem Next).run P w = .ok .skip w' := by
  simp [h]
/-! ### new cells -/
theorem run_newRow (e : TypeId) (c : Array Value) (w : World) : (newRow e c).run P w = .ok ⟨w.heap.size, 0, none⟩ (w.alloc (.cells c e)) := by
  simp [newRow, newObj, Sem.run]
theorem HR.newCells (h : HR γ w0 H n w) (hn : Nat.ble n 65535 = true) {e : TypeId} {c : Array Value} {cs : List EV} (hc : ECL γ cs c.toList) :
    HR (γ.upd n (⟨w.heap.size, 0⟩, c.size)) w0 (H.put n (some (.cells e cs true))) (n + 1) (w.alloc (.cells c e)) := by
  have hl : cs.length = c.size := by simpa using hc.1
  refine h.new hn (.cells c e) c.size (.cells e cs true) rfl rfl rfl rfl ⟨c, .of (by show (w.heap.push _)[_]? = _; simp), (Nat.zero_add _).symm, by omega, fun _ => hl, ?_⟩
  show ECL _ cs ((c.toList.drop 0).take cs.length)
  rw [List.drop_zero, hl, show c.size = c.toList.length by simp, List.take_length]
  exact hc.mono (G.upd_le (h.fresh n (Nat.le_refl _)))
theorem gives_new {s : Sem Next} {e : TypeId} {c : Array Value} {cs : List EV} {a : EV} {x : Value} (h : HR γ w0 H n w) (hn : Nat.ble n 65535 = true) (hc : ECL γ cs c.toList)
    (hr : s.run P w = .ok (.value x) (w.alloc (.cells c e))) (ha : ∀ γ', γ' n = some (⟨w.heap.size, 0⟩, c.size) → EC γ' a x) : Gives P γ w0 w s (some a) (H.put n (some (.cells e cs true))) (n + 1) :=
  ⟨_, _, G.upd_le (h.fresh n (Nat.le_refl _)), h.newCells hn hc, x, hr, ha _ G.upd_same⟩
noncomputable def zerosOf (P : Program) (t : TypeId) : Option (List Value) := Sx.zeroL P t
theorem zero_of {t : TypeId} {zs : List Value} (h : Sx.zeroL P t = some zs) : ∃ inf z, P.info? t = some inf ∧ inf.zero = some z ∧ z.cells.toList = zs := by
  unfold Sx.zeroL at h
  cases hi : P.info? t with
  | none => rw [hi] at h; simp at h
  | some inf =>
    rw [hi] at h
    cases hz : inf.zero with
    | none => simp [hz] at h
    | some z => simp [hz] at h; exact ⟨inf, z, rfl, hz, h⟩
theorem size_of {t : TypeId} {m : Nat} (h : Sx.sizeB P t = some m) : ∃ inf, P.info? t = some inf ∧ inf.size = m := by
  unfold Sx.sizeB at h
  cases hi : P.info? t with
  | none => rw [hi] at h; simp at h
  | some inf => rw [hi] at h; simp at h; exact ⟨inf, rfl, h⟩
end Go.Proofs.Ytcgopcfbgkhpgaa.Ev
