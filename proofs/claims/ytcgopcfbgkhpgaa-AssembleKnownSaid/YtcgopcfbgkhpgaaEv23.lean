/- The reckoner: the handler of regions that draw their order. No program is named. -/
import Derived.Test.YtcgopcfbgkhpgaaEv22b
namespace Go.Proofs.Ytcgopcfbgkhpgaa.Ev
open Go.RowKit
variable {P : Program} {γ γ' : G} {w0 : Bs} {w : World} {H H' : Tr EK} {n n' : Nat} {T T0 : Tr EV} {cs : List Frame} {fid : FuncId} {FT : Tr FI} {o : Oper}

/-- the numbers of the loud ones -/
noncomputable def loudIdx (R : List Rec) : Nat → List Nat := List.rec (fun _ => []) (fun r _ ih k => bc r.L (k :: ih (Nat.succ k)) (ih (Nat.succ k))) R
theorem loudIdx_mem : ∀ {R : List Rec} {k i : Nat}, i ∈ loudIdx R k ↔ ∃ j r, i = k + j ∧ R[j]? = some r ∧ r.L = true
  | [], k, i => by simp [loudIdx]
  | p :: R, k, i => by
    have e : loudIdx (p :: R) k = bc p.L (k :: loudIdx R (k + 1)) (loudIdx R (k + 1)) := rfl
    have ih := @loudIdx_mem R (k + 1) i
    rw [e, bc_eq]
    constructor
    · intro h
      by_cases hp : p.L = true
      · rw [if_pos hp] at h
        rcases List.mem_cons.1 h with rfl | h
        · exact ⟨0, p, rfl, rfl, hp⟩
        · obtain ⟨j, r, h1, h2, h3⟩ := ih.1 h
          exact ⟨j + 1, r, by omega, by simpa using h2, h3⟩
      · rw [if_neg hp] at h
        obtain ⟨j, r, h1, h2, h3⟩ := ih.1 h
        exact ⟨j + 1, r, by omega, by simpa using h2, h3⟩
    · rintro ⟨j, r, h1, h2, h3⟩
      cases j with
      | zero =>
        simp at h2; subst h2
        rw [if_pos h3]; simp [h1]
      | succ j =>
        have := ih.2 ⟨j, r, by omega, by simpa using h2, h3⟩
        by_cases hp : p.L = true
        · rw [if_pos hp]; simp [this]
        · rw [if_neg hp]; exact this
noncomputable def anyL {α : Type} (f : α → Bool) (l : List α) : Bool := List.rec false (fun a _ ih => bc (f a) true ih) l
theorem anyL_ok {α : Type} {f : α → Bool} : ∀ {l : List α}, anyL f l = true → ∃ a ∈ l, f a = true
  | [], h => by cases h
  | b :: l, h => by
    have h' : bc (f b) true (anyL f l) = true := h
    rw [bc_eq] at h'
    split at h'
    · rename_i hf; exact ⟨b, by simp, hf⟩
    · obtain ⟨a, ha, hf⟩ := anyL_ok h'; exact ⟨a, by simp [ha], hf⟩
noncomputable def eqQ (x : Option EV) (v : EV) : Bool := match x with
  | some a => eqE 12 a v
  | none => false
theorem eqQ_ok {x : Option EV} {v : EV} (h : eqQ x v = true) : x = some v := by
  unfold eqQ at h
  split at h
  · rw [eqE_ok 12 _ _ h]
  · cases h
noncomputable def memOf (R : List Rec) (q : Nat) : Mm := match lget R q with
  | some r => r.M
  | none => ⟨.nil, 0, 0⟩
/-- what asks nothing of the memory -/
def memless : Op → Bool
  | .move _ | .assign _ | .pick _ _ _ | .build _ _ | .nilCheck _ | .binOp _ _ _ _ _ | .unOp _ _ _ | .makeFunc _ _ _ | .fieldAddr _ _ _ | .field _ _ _ | .indexAddr _ _ _ | .index _ _ _ | .extract _ _ => true
  | _ => false
noncomputable def evOf (e : Option ER) : Option EV := match e with
  | some er => er.val
  | none => none
theorem evOf_keep {a : Option EV} : evOf (keep a H n) = a := by
  unfold keep evOf
  cases a <;> rfl
noncomputable def orV (a : Option EV) (b : Option Value) : Option EV := match a with
  | some x => some x
  | none => b.map .v
theorem evOf_orPure {a : Option EV} : evOf (orPure (keep a H n) P T o H n) = orV a (exPure P T o) := by
  unfold orPure keep evOf orV
  cases a with
  | some x => rfl
  | none =>
    simp only
    cases exPure P T o <;> rfl
theorem evOf_orNone : evOf (orPure none P T o H n) = orV none (exPure P T o) := by
  unfold orPure evOf orV
  simp only
  cases exPure P T o <;> rfl
theorem evOf_bin {a b : Option EV} : evOf (orPure (match a with
    | some a => keep (some a) H n
    | none => keep b H n) P T o H n) = orV (match a with
    | some a => some a
    | none => b) (exPure P T o) := by
  cases a <;> exact evOf_orPure
theorem exQ_memless (hm : memless o.op = true) : exQ P T o H n = exQ P T o H' n' := by
  have hb : ∀ H n, isToB P T o H n = false := fun H n => by
    unfold isToB
    cases hop : o.op <;> first | rfl | (rw [hop] at hm; cases hm)
  show bc (isToB P T o H n) none (evOf (exOp P T o H n)) = bc (isToB P T o H' n') none (evOf (exOp P T o H' n'))
  rw [hb, hb]
  show evOf (exOp P T o H n) = evOf (exOp P T o H' n')
  rw [exOp_eq, exOp_eq]
  unfold exOp0
  cases hop : o.op <;> rw [hop] at hm <;> first | (cases hm; done) | skip
  all_goals first
    | (simp only [evOf_keep, evOf_orPure, evOf_orNone]; done)
    | (rename_i op t x y t'; simp only []; cases exBin T op x y <;> simp only [evOf_orPure])
/-- a quiet operation gives the same in every memory that may stand when it runs -/
noncomputable def chkQ (q : QF) (A : List Nat) (n0 : Nat) (Fl : List (Nat × EK)) (M0 : Mm) (R : List Rec) (louds : List Nat) (i : Nat) (o : Oper) (Ti : Tr EV) (v : EV) : Bool :=
  bc (bor (allL (fun l => Nat.ble i l) louds) (bor (anyL (fun l => tb (atA A i) l) louds) (eqQ (q Ti o (visF A n0 Fl i M0) M0.n) v)))
    (allL (fun z => bor (bc (Nat.blt z i) (allL (fun l => bor (Nat.ble l z) (Nat.ble i l)) louds) false) (bor (tb (atA A z) i) (bor (anyL (fun l => bc (Nat.blt z l) (tb (atA A i) l) false) louds) (eqQ (q Ti o (visF A n0 Fl i (memOf R z)) (memOf R z).n) v)))) louds) false
noncomputable def chk1 (q : QF) (ops : Array Oper) (A : List Nat) (n0 : Nat) (Fl : List (Nat × EK)) (M0 : Mm) (R : List Rec) (louds : List Nat) (i : Nat) (o : Oper) (r : Rec) (Ti : Tr EV) : Bool :=
  bc (quiet o.op) (bc (memless o.op) true (match exGuard Ti ops o with
    | some true => chkQ q A n0 Fl M0 R louds i o Ti r.V
    | _ => true)) true
noncomputable def chkLoop (q : QF) (ops : Array Oper) (A : List Nat) (n0 : Nat) (Fl : List (Nat × EK)) (M0 : Mm) (R : List Rec) (louds : List Nat) (l : List Oper) : Nat → List Rec → List (Tr EV) → Bool := List.rec (fun _ _ _ => true) (fun o _ ih i Rs Ts => match Rs with
  | r :: Rs => match Ts with
    | Ti :: Ts => bc (chk1 q ops A n0 Fl M0 R louds i o r Ti) (ih (Nat.succ i) Rs Ts) false
    | [] => false
  | [] => false) l
theorem chkLoop_ok {q : QF} {ops : Array Oper} {A : List Nat} {n0 : Nat} {Fl : List (Nat × EK)} {M0 : Mm} {R : List Rec} {louds : List Nat} : ∀ {l : List Oper} {i : Nat} {Rs : List Rec} {Ts : List (Tr EV)}, chkLoop q ops A n0 Fl M0 R louds l i Rs Ts = true →
    ∀ j o r Ti, l[j]? = some o → Rs[j]? = some r → Ts[j]? = some Ti → chk1 q ops A n0 Fl M0 R louds (i + j) o r Ti = true
  | [], i, Rs, Ts, _, j, o, r, Ti, h1, _, _ => by simp at h1
  | b :: l, i, [], Ts, _, j, o, r, Ti, _, h2, _ => by simp at h2
  | b :: l, i, r0 :: Rs, [], _, j, o, r, Ti, _, _, h3 => by simp at h3
  | b :: l, i, r0 :: Rs, T1 :: Ts, h, j, o, r, Ti, h1, h2, h3 => by
    have h' : bc (chk1 q ops A n0 Fl M0 R louds i b r0 T1) (chkLoop q ops A n0 Fl M0 R louds l (i + 1) Rs Ts) false = true := h
    rw [bc_eq] at h'
    split at h'
    case isFalse => cases h'
    rename_i hc
    cases j with
    | zero => simp at h1 h2 h3; subst h1; subst h2; subst h3; exact hc
    | succ j =>
      have := chkLoop_ok h' j o r Ti (by simpa using h1) (by simpa using h2) (by simpa using h3)
      rwa [show i + 1 + j = i + (j + 1) by omega] at this
noncomputable def chkAll (q : QF) (ops : Array Oper) (A : List Nat) (n0 : Nat) (Fl : List (Nat × EK)) (M0 : Mm) (R : List Rec) (Ts : List (Tr EV)) (louds : List Nat) : Bool := match louds with
  | [] => true
  | _ => chkLoop q ops A n0 Fl M0 R louds ops.toList 0 R Ts
noncomputable def loudB (A : List Nat) (louds : List Nat) : Bool := allL (fun i => allL (fun j => bor (Nat.ble i j) (tb (atA A i) j)) louds) louds
noncomputable def noEK (x : Option EK) : Bool := match x with
  | none => true
  | _ => false
theorem noEK_ok {x : Option EK} (h : noEK x = true) : x = none := by
  cases x with
  | none => rfl
  | some c => cases h
noncomputable def bnot (b : Bool) : Bool := bc b false true
theorem bnot_ok {b : Bool} (h : bnot b = true) : b = false := by cases b with
  | true => cases h
  | false => rfl
/-- the keys of a map's entries are of one kind, and apart -/
noncomputable def apart (d : TypeDesc) (k : Value) (jm i : Nat) (R : List Rec) : Nat → Bool := List.rec (fun _ => true) (fun p _ ih z => match p.In with
  | some (j', _, k', _) => bc (Nat.beq j' jm) (bc (isKeyB d k') (bc (bor (Nat.beq z i) (bnot (kEq d k k'))) (ih (Nat.succ z)) false) false) (ih (Nat.succ z))
  | none => ih (Nat.succ z)) R
theorem apart_ok {d : TypeDesc} {k : Value} {jm i : Nat} : ∀ {R : List Rec} {z0 : Nat}, apart d k jm i R z0 = true → ∀ (z : Nat) (rz : Rec) (d' : TypeDesc) (k' : Value) (a' : EV), R[z]? = some rz → rz.In = some (jm, d', k', a') → isKeyB d k' = true ∧ (z0 + z ≠ i → kEq d k k' = false)
  | [], z0, _, z, rz, d', k', a', h, _ => by simp at h
  | p :: R, z0, h, z, rz, d', k', a', hz, hin => by
    have h' : (match p.In with
      | some (j', _, k', _) => bc (Nat.beq j' jm) (bc (isKeyB d k') (bc (bor (Nat.beq z0 i) (bnot (kEq d k k'))) (apart d k jm i R (z0 + 1)) false) false) (apart d k jm i R (z0 + 1))
      | none => apart d k jm i R (z0 + 1)) = true := h
    have rest : apart d k jm i R (z0 + 1) = true := by
      split at h'
      · rw [bc_eq, bc_eq, bc_eq] at h'
        split at h'
        · split at h'
          · split at h'
            · exact h'
            · cases h'
          · cases h'
        · exact h'
      · exact h'
    cases z with
    | succ z =>
      have := apart_ok rest z rz d' k' a' (by simpa using hz) hin
      rwa [show z0 + 1 + z = z0 + (z + 1) by omega] at this
    | zero =>
      simp at hz; subst hz
      rw [hin] at h'
      simp only [bc_eq, Nat.beq_refl] at h'
      rw [if_pos trivial] at h'
      split at h'
      case isFalse => cases h'
      rename_i hk
      split at h'
      case isFalse => cases h'
      rename_i hb
      refine ⟨hk, fun hne => ?_⟩
      rcases bor_iff.1 hb with h1 | h1
      · exact absurd (Nat.eq_of_beq_eq_true h1) (by omega)
      · exact bnot_ok h1
noncomputable def isMpAt (R : List Rec) (j : Nat) : Bool := match lget R j with
  | some r => r.Mp
  | none => false
/-- the numbers kept for new blocks are free -/
noncomputable def chkFr (A : List Nat) (n0 : Nat) (M0 : Mm) (R : List Rec) (louds : List Nat) (j : Nat) (r : Rec) : Bool := match r.Fr with
  | some _ => bc (noEK (M0.H.get (Nat.add n0 j))) (allL (fun q => bor (tb (atA A q) j) (noEK ((memOf R q).H.get (Nat.add n0 j)))) louds) false
  | none => true
noncomputable def chkMp (n0 : Nat) (M0 : Mm) (R : List Rec) (louds : List Nat) (j : Nat) (r : Rec) : Bool := bc r.Mp (bc (noEK (M0.H.get (Nat.add n0 j))) (allL (fun q => noEK ((memOf R q).H.get (Nat.add n0 j))) louds) false) true
noncomputable def chkIn (A : List Nat) (R : List Rec) (j : Nat) (r : Rec) : Bool := match r.In with
  | some (jm, d, k, _) => bc (isMpAt R jm) (bc (tb (atA A j) jm) (apart d k jm j R 0) false) false
  | none => true
noncomputable def chkFree (A : List Nat) (n0 : Nat) (M0 : Mm) (R : List Rec) (louds : List Nat) : Bool := allI (llen R) fun j => match lget R j with
  | some r => bc (chkFr A n0 M0 R louds j r) (bc (chkMp n0 M0 R louds j r) (chkIn A R j r) false) false
  | none => true
theorem chkFree_ok {A : List Nat} {n0 : Nat} {M0 : Mm} {R : List Rec} {louds : List Nat} (h : chkFree A n0 M0 R louds = true) {j : Nat} {r : Rec} (hr : R[j]? = some r) : chkFr A n0 M0 R louds j r = true ∧ chkMp n0 M0 R louds j r = true ∧ chkIn A R j r = true := by
  have hj : j < R.length := (List.getElem?_eq_some_iff.1 hr).1
  have := allI_ok h j (by rw [llen_eq]; exact hj)
  rw [lget_eq, hr] at this
  simp only [bc_eq] at this
  split at this
  case isFalse => cases this
  rename_i h1
  split at this
  case isFalse => cases this
  rename_i h2
  exact ⟨h1, h2, this⟩
theorem run_of {sub : Sub} {q : QF} {RO : Tr (TypeId × SyC)} {ops : Array Oper} {A : List Nat} {n0 : Nat} {M0 : Mm} {R : List Rec} (hs : statB ops A = true) (hc : canon P sub q ops A T0 n0 ops.toList 0 [] M0 = some R) (hl : loudB A (loudIdx R 0) = true) {Ts : List (Tr EV)} (hq : chkAll q ops A n0 (frl R 0) M0 R Ts (loudIdx R 0) = true) (hTs : ∀ i o, ops[i]? = some o → Ts[i]? = some (tabAt ops A T0 (R.take i) i o)) (hml0 : ∀ (T : Tr EV) (o : Oper) (H H' : Tr EK) (n n' : Nat), memless o.op = true → q T o H n = q T o H' n') (hqok : ∀ (i : Nat) (o : Oper), ops[i]? = some o → quiet o.op = true → exGuard (tabAt ops A T0 (R.take i) i o) ops o = some true → ∀ (γ : G) (w0 : Bs) (w : World) (tmps : Array Value) (H : Tr EK) (n : Nat) (a : EV), ROk γ w0 RO → TOk γ (tabAt ops A T0 (R.take i) i o) tmps → HR γ w0 H n w → q (tabAt ops A T0 (R.take i) i o) o H n = some a → ∃ γ' w' x, GLe γ γ' ∧ HR γ' w0 H n w' ∧ (execOp (opEval tmps) o).run P w = .ok (.value x) w' ∧ EC γ' a x) (hf : chkFree A n0 M0 R (loudIdx R 0) = true) (ha : M0.a = 0) (hroom : n0 + ops.size ≤ 65536) : Run P sub q RO ops A T0 n0 M0 R := by
  have hst := statB_ok hs
  obtain ⟨h1, _, h3⟩ := canon_ok (M0 := M0) (R := []) hc rfl
  have hlen : R.length = ops.size := by simpa using h1
  have hstep : ∀ i o, ops[i]? = some o → ∃ r, R[i]? = some r ∧ exRec P sub q ops A T0 n0 (R.take i) i o (memAt M0 R i) = some r := fun i o ho => by
    have := h3 i o (by simpa using ho)
    simpa using this
  have mem : ∀ {i : Nat}, i ∈ loudIdx R 0 ↔ ∃ r, R[i]? = some r ∧ r.L = true := fun {i} => by
    rw [loudIdx_mem]
    constructor
    · rintro ⟨j, r, h1, h2, h3⟩; rw [Nat.zero_add] at h1; subst h1; exact ⟨r, h2, h3⟩
    · rintro ⟨r, h2, h3⟩; exact ⟨i, r, by omega, h2, h3⟩
  have hloud : ∀ i j ri rj, j < i → R[i]? = some ri → R[j]? = some rj → ri.L = true → rj.L = true → tb (atA A i) j = true := fun i j ri rj hji hi hj hli hlj => by
    have := allL_ok (allL_ok hl i (mem.2 ⟨ri, hi, hli⟩)) j (mem.2 ⟨rj, hj, hlj⟩)
    rcases bor_iff.1 this with h | h
    · have := Nat.le_of_ble_eq_true h; omega
    · exact h
  -- the memory before an operation, without the last field
  have hmem : ∀ i, i ≤ ops.size → memAt M0 R i = md (fun j => decide (j < i)) R 0 M0 := fun i => by
    induction i with
    | zero => intro _; rw [md_none (fun j p _ _ => by simp)]; rfl
    | succ i ih =>
      intro hi
      have hlt : i < ops.size := by omega
      obtain ⟨r, hr, hx⟩ := hstep i ops[i] (by simp [hlt])
      have e0 : memAt M0 R (i + 1) = r.M := by simp [memAt, hr]
      rw [e0]
      by_cases hl : r.L = true
      · exact (md_ins hr hl (fun j rj hj _ _ => by simp; omega) (by simp)).symm
      · have hl : r.L = false := by simpa using hl
        rw [exRec_keeps hx hl, ih (by omega)]
        refine md_congr fun j p hj hp => ?_
        by_cases e : j = i
        · subst e; rw [hr] at hj; injection hj with hj; subst hj; rw [hl] at hp; cases hp
        · simp; omega
  have hmO : ∀ q rq, R[q]? = some rq → memOf R q = rq.M := fun q rq h => by unfold memOf; rw [lget_eq, h]
  have hfree : ∀ (j : Nat) (r : Rec) (c : EK), R[j]? = some r → r.Fr = some c → M0.H.get (n0 + j) = none ∧ ∀ (q : Nat) (rq : Rec), R[q]? = some rq → rq.L = true → tb rq.M.a j = false → rq.M.H.get (n0 + j) = none := fun j r c hr hc => by
    have hj : j < R.length := (List.getElem?_eq_some_iff.1 hr).1
    have := (chkFree_ok hf hr).1
    unfold chkFr at this
    simp only [hc, bc_eq] at this
    split at this
    case isFalse => cases this
    rename_i h5
    refine ⟨noEK_ok h5, fun q rq hq hl hb => ?_⟩
    have h6 := allL_ok this q (mem.2 ⟨rq, hq, hl⟩)
    have hqs : q < ops.size := by rw [← hlen]; exact (List.getElem?_eq_some_iff.1 hq).1
    obtain ⟨r7, hr7, hx7⟩ := hstep q ops[q] (by simp [hqs])
    rw [hq] at hr7; injection hr7 with hr7; subst hr7
    rw [(exRec_loud hx7 hl).1] at hb
    rcases bor_iff.1 h6 with h6 | h6
    · rw [hb] at h6; cases h6
    · rw [hmO q rq hq] at h6; exact noEK_ok h6
  have hfreeM : ∀ (j : Nat) (r : Rec), R[j]? = some r → r.Mp = true → M0.H.get (n0 + j) = none ∧ ∀ (q : Nat) (rq : Rec), R[q]? = some rq → rq.L = true → rq.M.H.get (n0 + j) = none := fun j r hr hm => by
    have := (chkFree_ok hf hr).2.1
    unfold chkMp at this
    rw [hm, bc_eq, bc_eq, if_pos rfl] at this
    split at this
    case isFalse => cases this
    rename_i h5
    refine ⟨noEK_ok h5, fun q rq hq hl => ?_⟩
    have h6 := allL_ok this q (mem.2 ⟨rq, hq, hl⟩)
    rw [hmO q rq hq] at h6; exact noEK_ok h6
  have hins : ∀ (i : Nat) (r : Rec) (j : Nat) (d : TypeDesc) (k : Value) (a : EV), R[i]? = some r → r.In = some (j, d, k, a) → (∃ rj, R[j]? = some rj ∧ rj.Mp = true) ∧ tb (atA A i) j = true ∧
      ∀ (z : Nat) (rz : Rec) (d' : TypeDesc) (k' : Value) (a' : EV), R[z]? = some rz → rz.In = some (j, d', k', a') → isKeyB d k' = true ∧ (z ≠ i → kEq d k k' = false) := fun i r j d k a hr hin => by
    have := (chkFree_ok hf hr).2.2
    unfold chkIn at this
    rw [hin] at this
    simp only [bc_eq] at this
    split at this
    case isFalse => cases this
    rename_i h5
    split at this
    case isFalse => cases this
    rename_i h6
    refine ⟨?_, h6, fun z rz d' k' a' hz hi => ?_⟩
    · unfold isMpAt at h5
      rw [lget_eq] at h5
      split at h5
      · rename_i rj hrj; exact ⟨rj, hrj, h5⟩
      · cases h5
    · have := apart_ok this z rz d' k' a' hz hi
      rwa [Nat.zero_add] at this
  refine ⟨hst, hlen, hroom, ha, hfree, hfreeM, hins, hstep, hloud, fun i o r ho hr hqo hgd hnf hni D hg hA hn => ?_, hqok⟩
  obtain ⟨r2, hr2, hx⟩ := hstep i o ho
  rw [hr] at hr2; injection hr2 with hr2; subst hr2
  have hi : i < ops.size := (Array.getElem?_eq_some_iff.1 ho).1
  have hcan : q (tabAt ops A T0 (R.take i) i o) o (vis A n0 (R.take i) i (memAt M0 R i)) (memAt M0 R i).n = some r.V := by
    unfold exRec at hx
    rw [hgd] at hx
    simp only [show Nat.add n0 i = n0 + i from rfl, hnf, hni] at hx
    rw [bc_eq, if_pos hqo] at hx
    split at hx
    · rename_i a ha; injection hx with hx; rw [← hx]; exact ha
    · cases hx
  by_cases hml : memless o.op = true
  · rw [hml0 _ _ _ (vis A n0 (R.take i) i (memAt M0 R i)) _ (memAt M0 R i).n hml]; exact hcan
  have hchk : loudIdx R 0 = [] ∨ chkQ q A n0 (frl R 0) M0 R (loudIdx R 0) i o (tabAt ops A T0 (R.take i) i o) r.V = true := by
    unfold chkAll at hq
    split at hq
    · rename_i e; exact .inl e
    · have := chkLoop_ok hq i o r _ (by simpa using ho) hr (hTs i o ho)
      unfold chk1 at this
      rw [Nat.zero_add, bc_eq, bc_eq, if_pos hqo, if_neg hml, hgd] at this
      exact .inr this
  rcases md_cases D R 0 M0 with ⟨e1, e2⟩ | ⟨z, rq, e1, e2, e3, e4, e5⟩
  · -- no loud one has run
    rw [e1]
    have canI : (∀ l ∈ loudIdx R 0, i ≤ l) → q (tabAt ops A T0 (R.take i) i o) o (vis A n0 (R.take i) i M0) M0.n = some r.V := fun h => by
      rw [hmem i (by omega), md_none (fun j p hj hp => ?_)] at hcan
      · exact hcan
      · have := h j (mem.2 ⟨p, hj, hp⟩)
        simp; omega
    rcases hchk with hnil | hchk
    · exact canI fun l hl => by rw [hnil] at hl; simp at hl
    · unfold chkQ at hchk
      have hv : ∀ M, visF A n0 (frl R 0) i M = vis A n0 (R.take i) i M := fun M => visF_eq.trans (vis_take hst ho).symm
      simp only [hv] at hchk
      rw [bc_eq] at hchk
      split at hchk
      case isFalse => cases hchk
      rename_i hc1
      rcases bor_iff.1 hc1 with h | h
      · exact canI fun l hl => Nat.le_of_ble_eq_true (allL_ok h l hl)
      · rcases bor_iff.1 h with h | h
        · obtain ⟨l, hl, hb⟩ := anyL_ok h
          obtain ⟨rl, hrl, hll⟩ := mem.1 hl
          have := e2 l rl hrl hll
          rw [Nat.zero_add, hA l hb] at this; cases this
        · exact eqQ_ok h
  · rw [Nat.zero_add] at e3
    rw [e5]
    have hqm : z ∈ loudIdx R 0 := mem.2 ⟨rq, e1, e2⟩
    rcases hchk with hnil | hchk
    · rw [hnil] at hqm; simp at hqm
    · unfold chkQ at hchk
      have hv : ∀ M, visF A n0 (frl R 0) i M = vis A n0 (R.take i) i M := fun M => visF_eq.trans (vis_take hst ho).symm
      simp only [hv] at hchk
      rw [bc_eq] at hchk
      split at hchk
      case isFalse => cases hchk
      have h := allL_ok hchk z hqm
      rcases bor_iff.1 h with h | h
      · rw [bc_eq] at h
        split at h
        case isFalse => cases h
        rename_i hqi
        have hqi := blt_lt hqi
        rw [hmem i (by omega), md_ins e1 e2 (fun j rj hj hrj hlj => ?_) (by simp [hqi])] at hcan
        · exact hcan
        · have := allL_ok h j (mem.2 ⟨rj, hrj, hlj⟩)
          rcases bor_iff.1 this with h9 | h9
          · have := Nat.le_of_ble_eq_true h9; omega
          · have := Nat.le_of_ble_eq_true h9; simp; omega
      · rcases bor_iff.1 h with h | h
        · have hqs : z < ops.size := by rw [← hlen]; exact (List.getElem?_eq_some_iff.1 e1).1
          have := hg z hqs e3 i h
          rw [hn] at this; cases this
        · rcases bor_iff.1 h with h | h
          · obtain ⟨l, hl, hb⟩ := anyL_ok h
            rw [bc_eq] at hb
            split at hb
            case isFalse => cases hb
            rename_i hql
            obtain ⟨rl, hrl, hll⟩ := mem.1 hl
            have := e4 l rl (blt_lt hql) hrl hll
            rw [Nat.zero_add, hA l hb] at this; cases this
          · have := eqQ_ok h
            rw [hmO z rq e1] at this
            exact this
/-- the slots at the end -/
noncomputable def finT (N : Nat) (l : List (Oper × Rec)) : Tr EV → Option (Tr EV) := List.rec (fun T => some T) (fun p _ ih T => match setD T N p.1.dst p.2.V with
  | some T' => ih T'
  | none => none) l
theorem finT_ok {N : Nat} : ∀ {l : List (Oper × Rec)} {T T' : Tr EV} {k : Nat}, finT N l T = some T' → (∀ s, T'.get s = lw (fun _ => true) s l k (T.get s)) ∧ ∀ p ∈ l, ∀ d, p.1.dst = some d → d < N
  | [], T, T', k, h => by
    have h' : some T = some T' := h
    injection h' with h'; subst h'
    exact ⟨fun _ => rfl, fun p hp => by simp at hp⟩
  | p :: l, T, T', k, h => by
    have h' : (match setD T N p.1.dst p.2.V with
      | some T' => finT N l T'
      | none => none) = some T' := h
    split at h'
    case h_2 => cases h'
    rename_i T2 hT2
    obtain ⟨h1, h2⟩ := finT_ok (k := k + 1) h'
    unfold setD at hT2
    cases hd : p.1.dst with
    | none =>
      rw [hd] at hT2
      injection hT2 with hT2; subst hT2
      refine ⟨fun s => by rw [h1, lw_cons, hd]; simp, fun q hq d hqd => ?_⟩
      rcases List.mem_cons.1 hq with rfl | hq
      · rw [hd] at hqd; cases hqd
      · exact h2 q hq d hqd
    | some d =>
      rw [hd] at hT2
      simp only [bc_eq] at hT2
      split at hT2
      case isFalse => cases hT2
      rename_i hN
      split at hT2
      case isFalse => cases hT2
      rename_i hb
      injection hT2 with hT2; subst hT2
      refine ⟨fun s => ?_, fun q hq d' hqd => ?_⟩
      · rw [h1, lw_cons, hd, Tr.get_put hb]
        by_cases e : s = d
        · subst e; simp
        · rw [if_neg e, if_neg (fun e2 => e (by have := e2.2; injection this with this; exact this.symm))]
      · rcases List.mem_cons.1 hq with rfl | hq
        · rw [hd] at hqd; injection hqd with hqd; subst hqd; exact blt_lt hN
        · exact h2 q hq d' hqd
noncomputable def drGo3 (s : ES) (k : List IM) (T' : Tr EV) (n0 : Nat) (Fl : List (Nat × EK)) (R : List Rec) (M : Mm) : EO := .go { s with top := { s.top with T := T', todo := k }, H := fT (mpF (fun _ => true) R) n0 R 0 (frF (fun j => bc (tb M.a j) false true) n0 Fl M.H), n := M.n }
noncomputable def drGo2 (P : Program) (s : ES) (ops : Array Oper) (k : List IM) (A : List Nat) (M0 : Mm) (c : CF) (louds : List Nat) : EO := bc (loudB A louds) (bc (chkAll (exQ P) ops A s.n c.Fl M0 c.R c.Ts louds) (bc (chkFree A s.n M0 c.R louds) (drGo3 s k c.T s.n c.Fl c.R (md (fun _ => true) c.R 0 M0)) .fail) .fail) .fail
noncomputable def drGo1 (P : Program) (sub : Sub) (s : ES) (ops : Array Oper) (k : List IM) (A : List Nat) (M0 : Mm) : EO := match canonF P sub (exQ P) ops A s.n s.top.N ops.toList 0 [] [] M0 s.top.T [] with
  | some c => drGo2 P s ops k A M0 c (loudIdx c.R 0)
  | none => .fail
noncomputable def drGo (P : Program) (sub : Sub) (s : ES) (ops : Array Oper) (k : List IM) (A : List Nat) (m : Nat) : EO := bc (statB ops A) (bc (Nat.ble (Nat.add s.n m) 65536) (drGo1 P sub s ops k A ⟨s.H, Nat.add s.n m, 0⟩) .fail) .fail
noncomputable def drAny (P : Program) (sub : Sub) : ES → Nat → Array Oper → List IM → EO := fun s _ ops k => drGo P sub s ops k (ancs ops.toList []) (llen ops.toList)
theorem drAny_ok (hm : P.follows .mixedOrders = true) {sub : Sub} (hsub : LoudOk P sub) : DrOk P (drAny P sub) := by
  intro γ w0 w cs fid s id ops k tmps todo ds ro frs hret h1 h2 hk h4 h5 hfs hH
  unfold drAny drGo
  rw [bc_eq, bc_eq]
  split
  case isFalse => trivial
  rename_i hs
  split
  case isFalse => trivial
  rename_i hroom
  have hroom := Nat.le_of_ble_eq_true hroom
  have hroom : s.n + llen ops.toList ≤ 65536 := hroom
  unfold drGo1
  split
  case h_2 => trivial
  rename_i c hc
  obtain ⟨R, T', Ts, Fl⟩ := c
  have hst0 := statB_ok hs
  obtain ⟨c1, c2, c3, _, c5, c6⟩ := canonF_ok (T0 := s.top.T) (R := []) (Ts := []) hst0 hc (fun j o hj => by simpa using hj) (fun s => by simp [lw]) rfl
  have c6 : Fl = frl R 0 := c6
  subst c6
  unfold drGo2
  rw [bc_eq, bc_eq, bc_eq]
  split
  case isFalse => trivial
  rename_i hl
  split
  case isFalse => trivial
  rename_i hq
  split
  case isFalse => trivial
  rename_i hf
  have hll : llen ops.toList = ops.size := by rw [llen_eq]; simp
  rw [hll] at hroom
  have hR := run_of (RO := .nil) hs c1 hl hq (fun i o ho => by simpa using c5 i o (by simpa using ho)) (fun _ _ _ _ _ _ h => exQ_memless h) (fun i o ho hqo _ γ w0 w tmps H n a _ hT hH h => exQ_ok hT hH hqo h) hf rfl hroom
  obtain ⟨t, ht⟩ := st_draw (P := P) (w := w) (cs := frs ++ cs) (fn := s.top.fn) (tmps := tmps) (id := id) (ops := ops) (k := todo) (ds := ds) (ro := ro) hm
  have hdst : ∀ (i : Nat) (o : Oper), ops[i]? = some o → ∀ d, o.dst = some d → d < s.top.N := fun i o ho d hd => by
    exact c3 o (List.mem_of_getElem? (show ops.toList[i]? = some o by simpa using ho)) d hd
  have hrep : (fun j => (Array.replicate ops.size false).getD j false) = fun _ => false := funext fun j => by
    simp only [Array.getD]
    split
    · simp
    · rfl
  obtain ⟨γ', tmps', w', hle, hst, hT2, hN2, hH2⟩ := hR.all (w0 := w0) (cs := frs ++ cs) hsub (fun q hq => (hH.rsv q hq).2) (fn := s.top.fn) (k := todo) (ds := ds) (ro := ro) (N := s.top.N) hdst ops.size t (Array.replicate ops.size false) γ tmps { w with drawn := w.drawn + 1 } (ROk.none _ _) (by simp)
    (by rw [hrep]; intro i _ hD; cases hD) (by exact Nat.le_trans (List.length_filter_le _ _) (by simp))
    (by rw [hrep]; intro sl a hs; rw [lw_none (fun _ _ _ _ => rfl)] at hs; exact h2 sl a hs) h1
    (by
      rw [hrep]
      unfold HD
      rw [md_none (fun _ _ _ _ => rfl)]
      have h9 : HR γ w0 s.H (s.n + llen ops.toList) { w with drawn := w.drawn + 1 } := by
        have := hH.step (w' := { w with drawn := w.drawn + 1 }) rfl rfl rfl rfl
        exact ⟨this.hp, this.inj, fun i hi => this.fresh i (by omega), fun i hi => let ⟨q1, q2⟩ := this.rsv i hi; ⟨q1, by omega⟩, this.lt, this.stays⟩
      refine HR.reserve (h9.congr fun b c hb => ?_) fun i hi => ?_
      · rw [hR.kd, md_none (fun _ _ _ _ => rfl)] at hb
        have hmp : fV (mpF (fun _ => false) R) s.n 0 R b = none := by
          cases e : fV (mpF (fun _ => false) R) s.n 0 R b with
          | none => rfl
          | some c =>
            obtain ⟨j, r, _, _, e2⟩ := fV_some.1 e
            have := (mpF_some.1 e2).2.1
            cases this
        rw [hmp, Option.none_or] at hb
        cases hv : frV (fun j => bc (tb 0 j) false false) s.n 0 R b with
        | none => rw [hv, Option.none_or] at hb; exact hb
        | some c2 =>
          obtain ⟨j, r, _, _, h5, _⟩ := frV_some.1 hv
          rw [bc_eq] at h5
          split at h5 <;> cases h5
      · rcases hi with hi | ⟨j, h5, _, rfl⟩
        · obtain ⟨q1, q2⟩ := hH.rsv i hi
          exact ⟨q1, show i < s.n + llen ops.toList by omega⟩
        · exact ⟨hH.fresh _ (by omega), show s.n + j < s.n + llen ops.toList by omega⟩)
  refine ⟨γ', _, hle, (Steps.one ht).trans (hst.trans (.one st_regionEnd)), _, frs, w', rfl, ⟨tmps', todo, ds, ro, by simp [fram, hret, modeOf], hN2, fun sl a hs => hT2 sl a ((c2 sl).symm.trans hs), hk.mono fun _ _ h => h.mono hle, h4.mono fun _ _ h => h.mono hle, h5.mono hle⟩, hfs.mono fun _ _ h => h.mono hle, ?_⟩
  unfold HD at hH2
  unfold KD at hH2
  rw [← frF_eq] at hH2
  exact (HR.lessRes (r' := w0.res) hH2 fun i hi => .inl hi)
/-- handlers, so many deep -/
noncomputable def drD (P : Program) (FT : Tr FI) (K : Nat) (d : Nat) : ES → Nat → Array Oper → List IM → EO := Nat.rec noDraw (fun _ ih => drAny P (exSub (fun f => exStep P FT f ih) FT K)) d
theorem drD_ok (hm : P.follows .mixedOrders = true) (hF : FTok P FT) (K : Nat) : ∀ d, DrOk P (drD P FT K d)
  | 0 => noDraw_ok
  | d + 1 => drAny_ok hm (loudOk hF (fun fid cs w0 γ s m hM => exStep_ok hF (drD_ok hm hF K d) hM) K)
end Go.Proofs.Ytcgopcfbgkhpgaa.Ev
