/- The reckoner: what slots and memory hold when some operations of a region have run; the run in the order of the text. No program is named. -/
import Derived.Test.YtcgopcfbgkhpgaaEv18b
namespace Go.Proofs.Ytcgopcfbgkhpgaa.Ev
open Go.RowKit
variable {P : Program} {γ γ' : G} {w0 : Bs} {w : World} {H H' : Tr EK} {n n' : Nat} {T T0 : Tr EV} {cs : List Frame} {fid : FuncId} {FT : Tr FI} {o : Oper}

/-- the memory behind a loud operation, and a mask of the operations that come before that one -/
structure Mm where
  H : Tr EK
  n : Nat
  a : Nat
/-- what is known of an operation that has run: its value, whether it was loud, the memory behind it, the block that it made -/
structure Rec where
  V : EV
  L : Bool
  M : Mm
  Fr : Option EK
  Mp : Bool     -- it made a map that entries of this region are put into
  In : Option (Nat × TypeDesc × Value × EV)     -- it put an entry into the map of that operation
/-- the value of a slot when the operations of D have run -/
noncomputable def lw (D : Nat → Bool) (s : Nat) (l : List (Oper × Rec)) : Nat → Option EV → Option EV := List.rec (fun _ acc => acc) (fun p _ ih k acc => ih (Nat.succ k) (bc (D k) (bc (eqS p.1.dst s) (some p.2.V) acc) acc)) l
theorem lw_cons (D : Nat → Bool) (s : Nat) (p : Oper × Rec) (l : List (Oper × Rec)) (k : Nat) (acc : Option EV) : lw D s (p :: l) k acc = lw D s l (k + 1) (if D k = true ∧ p.1.dst = some s then some p.2.V else acc) := by
  show lw D s l (k + 1) (bc (D k) (bc (eqS p.1.dst s) (some p.2.V) acc) acc) = _
  congr 1
  rw [bc_eq, bc_eq]
  by_cases h1 : D k = true
  · by_cases h2 : p.1.dst = some s
    · rw [if_pos h1, if_pos (eqS_iff.2 h2), if_pos ⟨h1, h2⟩]
    · rw [if_pos h1, if_neg (fun e => h2 (eqS_iff.1 e)), if_neg (fun e => h2 e.2)]
  · rw [if_neg h1, if_neg (fun e => h1 e.1)]
theorem lw_append (D : Nat → Bool) (s : Nat) : ∀ (a b : List (Oper × Rec)) (k : Nat) (acc : Option EV), lw D s (a ++ b) k acc = lw D s b (k + a.length) (lw D s a k acc)
  | [], b, k, acc => rfl
  | p :: a, b, k, acc => by
    rw [List.cons_append, lw_cons, lw_cons, lw_append D s a b, List.length_cons]
    congr 1; omega
theorem lw_congr {D D' : Nat → Bool} {s : Nat} : ∀ {l : List (Oper × Rec)} {k : Nat} {acc : Option EV}, (∀ j p, l[j]? = some p → p.1.dst = some s → D (k + j) = D' (k + j)) → lw D s l k acc = lw D' s l k acc
  | [], k, acc, _ => rfl
  | p :: l, k, acc, h => by
    rw [lw_cons, lw_cons]
    have e : (if D k = true ∧ p.1.dst = some s then some p.2.V else acc) = (if D' k = true ∧ p.1.dst = some s then some p.2.V else acc) := by
      by_cases h2 : p.1.dst = some s
      · have := h 0 p rfl h2
        rw [Nat.add_zero] at this
        rw [this]
      · rw [if_neg (fun e => h2 e.2), if_neg (fun e => h2 e.2)]
    rw [e]
    exact lw_congr fun j q hj hd => by
      have := h (j + 1) q (by simpa using hj) hd
      rwa [show k + (j + 1) = k + 1 + j by omega] at this
theorem lw_none {D : Nat → Bool} {s : Nat} : ∀ {l : List (Oper × Rec)} {k : Nat} {acc : Option EV}, (∀ j p, l[j]? = some p → p.1.dst = some s → D (k + j) = false) → lw D s l k acc = acc
  | [], k, acc, _ => rfl
  | p :: l, k, acc, h => by
    rw [lw_cons, if_neg (fun e => by
      have := h 0 p rfl e.2
      rw [Nat.add_zero, e.1] at this; cases this)]
    exact lw_none fun j q hj hd => by
      have := h (j + 1) q (by simpa using hj) hd
      rwa [show k + (j + 1) = k + 1 + j by omega] at this
/-- the memory when the operations of D have run -/
noncomputable def md (D : Nat → Bool) (l : List Rec) : Nat → Mm → Mm := List.rec (fun _ acc => acc) (fun p _ ih k acc => ih (Nat.succ k) (bc (D k) (bc p.L p.M acc) acc)) l
theorem md_cons (D : Nat → Bool) (p : Rec) (l : List Rec) (k : Nat) (acc : Mm) : md D (p :: l) k acc = md D l (k + 1) (if D k = true ∧ p.L = true then p.M else acc) := by
  show md D l (k + 1) (bc (D k) (bc p.L p.M acc) acc) = _
  congr 1
  rw [bc_eq, bc_eq]
  by_cases h1 : D k = true <;> by_cases h2 : p.L = true <;> simp [h1, h2]
theorem md_append (D : Nat → Bool) : ∀ (a b : List Rec) (k : Nat) (acc : Mm), md D (a ++ b) k acc = md D b (k + a.length) (md D a k acc)
  | [], b, k, acc => rfl
  | p :: a, b, k, acc => by
    rw [List.cons_append, md_cons, md_cons, md_append D a b, List.length_cons]
    congr 1; omega
theorem md_congr {D D' : Nat → Bool} : ∀ {l : List Rec} {k : Nat} {acc : Mm}, (∀ j p, l[j]? = some p → p.L = true → D (k + j) = D' (k + j)) → md D l k acc = md D' l k acc
  | [], k, acc, _ => rfl
  | p :: l, k, acc, h => by
    rw [md_cons, md_cons]
    have e : (if D k = true ∧ p.L = true then p.M else acc) = (if D' k = true ∧ p.L = true then p.M else acc) := by
      by_cases h2 : p.L = true
      · have := h 0 p rfl h2
        rw [Nat.add_zero] at this
        rw [this]
      · rw [if_neg (fun e => h2 e.2), if_neg (fun e => h2 e.2)]
    rw [e]
    exact md_congr fun j q hj hd => by
      have := h (j + 1) q (by simpa using hj) hd
      rwa [show k + (j + 1) = k + 1 + j by omega] at this
theorem md_none {D : Nat → Bool} : ∀ {l : List Rec} {k : Nat} {acc : Mm}, (∀ j p, l[j]? = some p → p.L = true → D (k + j) = false) → md D l k acc = acc
  | [], k, acc, _ => rfl
  | p :: l, k, acc, h => by
    rw [md_cons, if_neg (fun e => by
      have := h 0 p rfl e.2
      rw [Nat.add_zero, e.1] at this; cases this)]
    exact md_none fun j q hj hd => by
      have := h (j + 1) q (by simpa using hj) hd
      rwa [show k + (j + 1) = k + 1 + j by omega] at this
/-- a small table: some slots alone -/
noncomputable def restr (f : Nat → Option EV) (l : List Nat) : Tr EV := List.rec .nil (fun s _ ih => bc (Nat.ble s 65535) (match f s with
  | some a => ih.put s (some a)
  | none => ih) ih) l
theorem restr_get {f : Nat → Option EV} : ∀ {l : List Nat} {s : Nat} {a : EV}, (restr f l).get s = some a → s ∈ l ∧ f s = some a
  | [], s, a, h => by cases h
  | t :: l, s, a, h => by
    have h' : (bc (Nat.ble t 65535) (match f t with
      | some a => (restr f l).put t (some a)
      | none => restr f l) (restr f l)).get s = some a := h
    rw [bc_eq] at h'
    split at h'
    · rename_i ht
      split at h'
      · rename_i b hb
        rw [Tr.get_put ht] at h'
        by_cases e : s = t
        · rw [if_pos e] at h'; injection h' with h'; subst h'; subst e; exact ⟨by simp, hb⟩
        · rw [if_neg e] at h'
          obtain ⟨h1, h2⟩ := restr_get h'
          exact ⟨by simp [h1], h2⟩
      · obtain ⟨h1, h2⟩ := restr_get h'
        exact ⟨by simp [h1], h2⟩
    · obtain ⟨h1, h2⟩ := restr_get h'
      exact ⟨by simp [h1], h2⟩
/-- the table that an operation is run on: its own slots, as those before it leave them -/
noncomputable def tabAt (ops : Array Oper) (A : List Nat) (T0 : Tr EV) (R : List Rec) (i : Nat) (o : Oper) : Tr EV := restr (fun s => lw (fun j => tb (atA A i) j) s (ops.toList.zip R) 0 (T0.get s)) (looks ops o)
/-- the blocks that operations of D have made are laid into a table -/
noncomputable def frT (D : Nat → Bool) (n0 : Nat) (R : List Rec) : Nat → Tr EK → Tr EK := List.rec (fun _ H => H) (fun p _ ih k H => ih (Nat.succ k) (match p.Fr with
  | some c => bc (D k) (H.put (Nat.add n0 k) (some c)) H
  | none => H)) R
def frV (D : Nat → Bool) (n0 k : Nat) (R : List Rec) (b : Nat) : Option EK := if n0 + k ≤ b then (R[b - (n0 + k)]?).bind (fun r => if D (b - n0) = true then r.Fr else none) else none
theorem frT_get {D : Nat → Bool} {n0 : Nat} : ∀ {R : List Rec} {k : Nat} {H : Tr EK} {b : Nat}, n0 + k + R.length ≤ 65536 → (frT D n0 R k H).get b = (frV D n0 k R b).or (H.get b)
  | [], k, H, b, _ => by
    show H.get b = _
    unfold frV
    split <;> simp
  | p :: R, k, H, b, hl => by
    have hl : n0 + k + (R.length + 1) ≤ 65536 := hl
    have e : frT D n0 (p :: R) k H = frT D n0 R (k + 1) (match p.Fr with
      | some c => bc (D k) (H.put (n0 + k) (some c)) H
      | none => H) := rfl
    rw [e, frT_get (by omega)]
    by_cases h1 : b = n0 + k
    · subst h1
      have e2 : frV D n0 (k + 1) R (n0 + k) = none := by unfold frV; rw [if_neg (by omega)]
      have e3 : frV D n0 k (p :: R) (n0 + k) = if D k = true then p.Fr else none := by unfold frV; simp
      rw [e2, e3, Option.none_or]
      cases hp : p.Fr with
      | none => simp
      | some c =>
        simp only [bc_eq]
        by_cases hD : D k = true
        · rw [if_pos hD, if_pos hD, Tr.get_put (Nat.ble_eq_true_of_le (by omega)), if_pos rfl]; rfl
        · rw [if_neg hD, if_neg hD]; rfl
    · have e2 : frV D n0 k (p :: R) b = frV D n0 (k + 1) R b := by
        unfold frV
        by_cases h2 : n0 + k ≤ b
        · rw [if_pos h2, if_pos (by omega), show b - (n0 + k) = (b - (n0 + (k + 1))) + 1 by omega, List.getElem?_cons_succ]
        · rw [if_neg h2, if_neg (by omega)]
      rw [e2]
      have e3 : (match p.Fr with
        | some c => bc (D k) (H.put (n0 + k) (some c)) H
        | none => H).get b = H.get b := by
        split
        · rw [bc_eq]
          split
          · rw [Tr.get_put (Nat.ble_eq_true_of_le (by omega)), if_neg h1]
          · rfl
        · rfl
      rw [e3]
theorem frV_some {D : Nat → Bool} {n0 : Nat} {R : List Rec} {b : Nat} {c : EK} : frV D n0 0 R b = some c ↔ ∃ j r, b = n0 + j ∧ R[j]? = some r ∧ D j = true ∧ r.Fr = some c := by
  unfold frV
  constructor
  · intro h
    split at h
    · rename_i h1
      obtain ⟨r, hr, h2⟩ := Option.bind_eq_some_iff.1 h
      split at h2
      · rename_i hD
        exact ⟨b - n0, r, by omega, by simpa using hr, hD, h2⟩
      · cases h2
    · cases h
  · rintro ⟨j, r, rfl, hr, hD, hc⟩
    rw [if_pos (by omega), Nat.add_zero, Nat.add_sub_cancel_left, hr]
    simp [hD, hc]
/-- the entries that operations of D have put into the map of operation j -/
noncomputable def insL (D : Nat → Bool) (j : Nat) (R : List Rec) : Nat → List (Value × EV) := List.rec (fun _ => []) (fun p _ ih k => match p.In with
  | some (j', _, kv, a) => bc (Nat.beq j' j) (bc (D k) ((kv, a) :: ih (Nat.succ k)) (ih (Nat.succ k))) (ih (Nat.succ k))
  | none => ih (Nat.succ k)) R
theorem insL_cons {D : Nat → Bool} {j k : Nat} {p : Rec} {R : List Rec} : insL D j (p :: R) k = (match p.In with
    | some (j', _, kv, a) => if j' = j ∧ D k = true then (kv, a) :: insL D j R (k + 1) else insL D j R (k + 1)
    | none => insL D j R (k + 1)) := by
  show (match p.In with
    | some (j', _, kv, a) => bc (Nat.beq j' j) (bc (D k) ((kv, a) :: insL D j R (k + 1)) (insL D j R (k + 1))) (insL D j R (k + 1))
    | none => insL D j R (k + 1)) = _
  cases p.In with
  | none => rfl
  | some q =>
    obtain ⟨j', d, kv, a⟩ := q
    have hb : Nat.beq j' j = decide (j' = j) := by
      by_cases e : j' = j
      · subst e; simp [Nat.beq_refl]
      · have : Nat.beq j' j = false := by
          cases h : Nat.beq j' j with
          | false => rfl
          | true => exact absurd (Nat.eq_of_beq_eq_true h) e
        rw [this]; simp [e]
    simp only [bc_eq, hb]
    by_cases e : j' = j <;> by_cases hD : D k = true <;> simp [e, hD]
theorem insL_append {D : Nat → Bool} {j : Nat} : ∀ {a b : List Rec} {k : Nat}, insL D j (a ++ b) k = insL D j a k ++ insL D j b (k + a.length)
  | [], b, k => rfl
  | p :: a, b, k => by
    rw [List.cons_append, insL_cons, insL_cons, insL_append (a := a), List.length_cons, show k + 1 + a.length = k + (a.length + 1) by omega]
    cases p.In with
    | none => rfl
    | some q =>
      obtain ⟨j', d, kv, x⟩ := q
      simp only
      split <;> simp
theorem insL_congr {D D' : Nat → Bool} {j : Nat} : ∀ {R : List Rec} {k : Nat}, (∀ z p d kv a, R[z]? = some p → p.In = some (j, d, kv, a) → D (k + z) = D' (k + z)) → insL D j R k = insL D' j R k
  | [], k, _ => rfl
  | p :: R, k, h => by
    have ih := insL_congr (R := R) (k := k + 1) (j := j) (D := D) (D' := D') fun z q d kv a h1 h2 => by
      have := h (z + 1) q d kv a (by simpa using h1) h2
      rwa [show k + (z + 1) = k + 1 + z by omega] at this
    rw [insL_cons, insL_cons, ih]
    cases hp : p.In with
    | none => rfl
    | some q =>
      obtain ⟨j', d, kv, a⟩ := q
      simp only
      by_cases e : j' = j
      · subst e
        have := h 0 p d kv a rfl hp
        rw [Nat.add_zero] at this
        rw [this]
      · simp [e]
theorem insL_mem {D : Nat → Bool} {j : Nat} : ∀ {R : List Rec} {k : Nat} {p : Value × EV}, p ∈ insL D j R k → ∃ z r d, R[z]? = some r ∧ r.In = some (j, d, p.1, p.2) ∧ D (k + z) = true
  | [], k, p, h => by cases h
  | q :: R, k, p, h => by
    have ih := fun h => insL_mem (R := R) (k := k + 1) (j := j) (D := D) (p := p) h
    have up : (∃ z r d, R[z]? = some r ∧ r.In = some (j, d, p.1, p.2) ∧ D (k + 1 + z) = true) → ∃ z r d, (q :: R)[z]? = some r ∧ r.In = some (j, d, p.1, p.2) ∧ D (k + z) = true := fun ⟨z, r, d, h1, h2, h3⟩ =>
      ⟨z + 1, r, d, by simpa using h1, h2, by rw [show k + (z + 1) = k + 1 + z by omega]; exact h3⟩
    rw [insL_cons] at h
    cases hq : q.In with
    | none => rw [hq] at h; exact up (ih h)
    | some u =>
      obtain ⟨j', d, kv, a⟩ := u
      rw [hq] at h
      simp only at h
      split at h
      · rename_i hc
        rcases List.mem_cons.1 h with rfl | h
        · exact ⟨0, q, d, rfl, by rw [hq, hc.1], hc.2⟩
        · exact up (ih h)
      · exact up (ih h)
/-- blocks laid into a table, as a function of the records says -/
noncomputable def fT (f : Nat → Rec → Option EK) (n0 : Nat) (R : List Rec) : Nat → Tr EK → Tr EK := List.rec (fun _ H => H) (fun p _ ih k H => ih (Nat.succ k) (match f k p with
  | some c => H.put (Nat.add n0 k) (some c)
  | none => H)) R
def fV (f : Nat → Rec → Option EK) (n0 k : Nat) (R : List Rec) (b : Nat) : Option EK := if n0 + k ≤ b then (R[b - (n0 + k)]?).bind (fun r => f (b - n0) r) else none
theorem fT_get {f : Nat → Rec → Option EK} {n0 : Nat} : ∀ {R : List Rec} {k : Nat} {H : Tr EK} {b : Nat}, n0 + k + R.length ≤ 65536 → (fT f n0 R k H).get b = (fV f n0 k R b).or (H.get b)
  | [], k, H, b, _ => by
    show H.get b = _
    unfold fV
    split <;> simp
  | p :: R, k, H, b, hl => by
    have hl : n0 + k + (R.length + 1) ≤ 65536 := hl
    have e : fT f n0 (p :: R) k H = fT f n0 R (k + 1) (match f k p with
      | some c => H.put (n0 + k) (some c)
      | none => H) := rfl
    rw [e, fT_get (by omega)]
    by_cases h1 : b = n0 + k
    · subst h1
      have e2 : fV f n0 (k + 1) R (n0 + k) = none := by unfold fV; rw [if_neg (by omega)]
      have e3 : fV f n0 k (p :: R) (n0 + k) = f k p := by unfold fV; simp
      rw [e2, e3, Option.none_or]
      cases hp : f k p with
      | none => simp
      | some c =>
        simp only
        rw [Tr.get_put (Nat.ble_eq_true_of_le (by omega)), if_pos rfl]; rfl
    · have e2 : fV f n0 k (p :: R) b = fV f n0 (k + 1) R b := by
        unfold fV
        by_cases h2 : n0 + k ≤ b
        · rw [if_pos h2, if_pos (by omega), show b - (n0 + k) = (b - (n0 + (k + 1))) + 1 by omega, List.getElem?_cons_succ]
        · rw [if_neg h2, if_neg (by omega)]
      rw [e2]
      have e3 : (match f k p with
        | some c => H.put (n0 + k) (some c)
        | none => H).get b = H.get b := by
        split
        · rw [Tr.get_put (Nat.ble_eq_true_of_le (by omega)), if_neg h1]
        · rfl
      rw [e3]
theorem fV_some {f : Nat → Rec → Option EK} {n0 : Nat} {R : List Rec} {b : Nat} {c : EK} : fV f n0 0 R b = some c ↔ ∃ j r, b = n0 + j ∧ R[j]? = some r ∧ f j r = some c := by
  unfold fV
  constructor
  · intro h
    split at h
    · rename_i h1
      obtain ⟨r, hr, h2⟩ := Option.bind_eq_some_iff.1 h
      exact ⟨b - n0, r, by omega, by simpa using hr, h2⟩
    · cases h
  · rintro ⟨j, r, rfl, hr, hc⟩
    rw [if_pos (by omega), Nat.add_zero, Nat.add_sub_cancel_left, hr]
    simp [hc]
theorem fV_congr {f g : Nat → Rec → Option EK} {n0 : Nat} {R : List Rec} {b : Nat} (h : ∀ j r, b = n0 + j → R[j]? = some r → f j r = g j r) : fV f n0 0 R b = fV g n0 0 R b := by
  apply Option.ext
  intro c
  rw [fV_some, fV_some]
  constructor
  · rintro ⟨j, r, e, h1, h2⟩; exact ⟨j, r, e, h1, (h j r e h1).symm.trans h2⟩
  · rintro ⟨j, r, e, h1, h2⟩; exact ⟨j, r, e, h1, (h j r e h1).trans h2⟩
/-- the maps of the region, as operations of D leave them -/
noncomputable def mpF (D : Nat → Bool) (R0 : List Rec) : Nat → Rec → Option EK := fun k p => bc p.Mp (bc (D k) (some (.mp (insL D k R0 0))) none) none
theorem mpF_some {D : Nat → Bool} {R0 : List Rec} {k : Nat} {p : Rec} {c : EK} : mpF D R0 k p = some c ↔ p.Mp = true ∧ D k = true ∧ c = .mp (insL D k R0 0) := by
  unfold mpF
  rw [bc_eq, bc_eq]
  by_cases h1 : p.Mp = true <;> by_cases h2 : D k = true <;> simp [h1, h2, eq_comm]
/-- what an operation sees of the memory: the blocks made by those before it, and no others -/
noncomputable def vis (A : List Nat) (n0 : Nat) (R : List Rec) (i : Nat) (M : Mm) : Tr EK := frT (fun j => bc (tb M.a j) false (tb (atA A i) j)) n0 R 0 M.H
noncomputable def recFr (M : Mm) (a : EV) (c : EK) : Rec := match c with
  | .mp _ => ⟨a, false, M, none, true, none⟩
  | c => ⟨a, false, M, some c, false, none⟩
theorem recFr_L {M : Mm} {a : EV} {c : EK} : (recFr M a c).L = false ∧ (recFr M a c).V = a ∧ (recFr M a c).M = M ∧ (recFr M a c).In = none := by
  unfold recFr
  split <;> exact ⟨rfl, rfl, rfl, rfl⟩
noncomputable def exRec (P : Program) (sub : Sub) (q : QF) (ops : Array Oper) (A : List Nat) (T0 : Tr EV) (n0 : Nat) (R : List Rec) (i : Nat) (o : Oper) (M : Mm) : Option Rec := match exGuard (tabAt ops A T0 R i o) ops o with
  | some false => some ⟨.v undef, false, M, none, false, none⟩
  | some true => match exFr P (tabAt ops A T0 R i o) o (Nat.add n0 i) with
    | some (a, c) => some (recFr M a c)
    | none => match exIns P (tabAt ops A T0 R i o) o n0 with
      | some u => some ⟨.v undef, false, M, none, false, some u⟩
      | none => bc (quiet o.op) (match q (tabAt ops A T0 R i o) o (vis A n0 R i M) M.n with
        | some a => some ⟨a, false, M, none, false, none⟩
        | none => none) (match exLoud P sub (tabAt ops A T0 R i o) o (vis A n0 R i M) M.n with
        | some (a, H, n) => some ⟨a, true, ⟨H, n, atA A i⟩, none, false, none⟩
        | none => none)
  | none => none
noncomputable def canon (P : Program) (sub : Sub) (q : QF) (ops : Array Oper) (A : List Nat) (T0 : Tr EV) (n0 : Nat) (l : List Oper) : Nat → List Rec → Mm → Option (List Rec) := List.rec (fun _ R _ => some R) (fun o _ ih i R M => match exRec P sub q ops A T0 n0 R i o M with
  | some r => ih (Nat.succ i) (R ++ [r]) r.M
  | none => none) l
/-- the memory before an operation of the run in the text's order -/
def memAt (M : Mm) (R : List Rec) (i : Nat) : Mm := match i with
  | 0 => M
  | i + 1 => match R[i]? with
    | some r => r.M
    | none => M
theorem canon_ok {sub : Sub} {q : QF} {ops : Array Oper} {A : List Nat} {T0 : Tr EV} {n0 : Nat} {M0 : Mm} : ∀ {l : List Oper} {R R' : List Rec} {M : Mm}, canon P sub q ops A T0 n0 l R.length R M = some R' → M = memAt M0 R R.length →
    R'.length = R.length + l.length ∧ (∀ j, j < R.length → R'[j]? = R[j]?) ∧ ∀ j o, l[j]? = some o → ∃ r, R'[R.length + j]? = some r ∧ exRec P sub q ops A T0 n0 (R'.take (R.length + j)) (R.length + j) o (memAt M0 R' (R.length + j)) = some r
  | [], R, R', M, h, hM => by
    have h' : some R = some R' := h
    injection h' with h'; subst h'
    exact ⟨rfl, fun _ _ => rfl, fun j o hj => by simp at hj⟩
  | o :: l, R, R', M, h, hM => by
    have h' : (match exRec P sub q ops A T0 n0 R R.length o M with
      | some r => canon P sub q ops A T0 n0 l (R.length + 1) (R ++ [r]) r.M
      | none => none) = some R' := h
    split at h'
    case h_2 => cases h'
    rename_i r hr
    have hlen : (R ++ [r]).length = R.length + 1 := by simp
    rw [← hlen] at h'
    obtain ⟨h1, h2, h3⟩ := canon_ok (R := R ++ [r]) h' (by rw [hlen]; simp [memAt])
    have hpre : ∀ j, j < R.length → R'[j]? = R[j]? := fun j hj => by
      rw [h2 j (by omega), List.getElem?_append_left hj]
    have hat : R'[R.length]? = some r := by rw [h2 _ (by omega)]; simp
    have htake : R'.take R.length = R := by
      apply List.ext_getElem?
      intro j
      rw [List.getElem?_take]
      by_cases hj : j < R.length
      · rw [if_pos hj, hpre j hj]
      · rw [if_neg hj]; simp; omega
    have hmem : memAt M0 R' R.length = M := by
      rw [hM]
      cases hl : R.length with
      | zero => rfl
      | succ q => simp only [memAt]; rw [hpre q (by omega)]
    refine ⟨by rw [h1, hlen]; simp; omega, hpre, fun j o' hj => ?_⟩
    cases j with
    | zero =>
      simp at hj; subst hj
      exact ⟨r, by simpa using hat, by simp only [Nat.add_zero]; rw [htake, hmem]; exact hr⟩
    | succ j =>
      have := h3 j o' (by simpa using hj)
      rw [hlen, show R.length + 1 + j = R.length + (j + 1) by omega] at this
      exact this
end Go.Proofs.Ytcgopcfbgkhpgaa.Ev
