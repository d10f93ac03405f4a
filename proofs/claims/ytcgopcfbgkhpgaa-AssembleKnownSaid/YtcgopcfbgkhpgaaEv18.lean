/- The reckoner: the orders of a region do not matter: what is asked of the region, and the values in any order. No program is named. -/
import Derived.Test.YtcgopcfbgkhpgaaEv17
namespace Go.Proofs.Ytcgopcfbgkhpgaa.Ev
open Go.RowKit
variable {P : Program} {γ γ' : G} {w0 : Bs} {w : World} {H H' : Tr EK} {n n' : Nat} {T : Tr EV} {cs : List Frame} {fid : FuncId} {FT : Tr FI} {o : Oper}

noncomputable def tb (m i : Nat) : Bool := Nat.beq (Nat.land 1 (Nat.shiftRight m i)) 1
theorem tb_eq (m i : Nat) : tb m i = m.testBit i := by
  show Nat.beq (1 &&& (m >>> i)) 1 = _
  unfold Nat.testBit
  have h : 1 &&& (m >>> i) = 0 ∨ 1 &&& (m >>> i) = 1 := by
    rw [Nat.and_comm, Nat.and_one_is_mod]; omega
  rcases h with h | h <;> rw [h] <;> rfl
noncomputable def allI (m : Nat) (f : Nat → Bool) : Bool := Nat.rec true (fun k ih => bc (f k) ih false) m
theorem allI_ok {f : Nat → Bool} : ∀ {m : Nat}, allI m f = true → ∀ i, i < m → f i = true
  | 0, _, i, hi => by omega
  | m + 1, h, i, hi => by
    have h' : bc (f m) (allI m f) false = true := h
    rw [bc_eq] at h'
    split at h'
    · rename_i hf
      rcases Nat.lt_or_ge i m with h1 | h1
      · exact allI_ok h' i h1
      · have : i = m := by omega
        subst this; exact hf
    · cases h'
noncomputable def allL {α : Type} (f : α → Bool) (l : List α) : Bool := List.rec true (fun a _ ih => bc (f a) ih false) l
theorem allL_ok {α : Type} {f : α → Bool} : ∀ {l : List α}, allL f l = true → ∀ a ∈ l, f a = true
  | [], _, a, ha => by simp at ha
  | b :: l, h, a, ha => by
    have h' : bc (f b) (allL f l) false = true := h
    rw [bc_eq] at h'
    split at h'
    · rename_i hf
      rcases List.mem_cons.1 ha with rfl | ha
      · exact hf
      · exact allL_ok h' a ha
    · cases h'
/-! ### what comes before what -/
def deps (o : Oper) : List Nat := (o.after.toList.filter (Region.binds .any)).map (·.on)
noncomputable def atA (A : List Nat) (i : Nat) : Nat := (lget A i).getD 0
noncomputable def ancOf (A : List Nat) (l : List Nat) : Nat := List.rec 0 (fun d _ ih => Nat.lor (Nat.lor (Nat.pow 2 d) (atA A d)) ih) l
theorem ancOf_bit {A : List Nat} : ∀ {l : List Nat} {j : Nat}, tb (ancOf A l) j = true → j ∈ l ∨ ∃ d ∈ l, tb (atA A d) j = true
  | [], j, h => by rw [tb_eq] at h; simp [ancOf] at h
  | d :: l, j, h => by
    have e : ancOf A (d :: l) = (2 ^ d ||| atA A d) ||| ancOf A l := rfl
    rw [tb_eq, e, Nat.testBit_or, Nat.testBit_or] at h
    simp only [Bool.or_eq_true] at h
    rcases h with (h | h) | h
    · rw [Nat.testBit_two_pow] at h; simp at h; exact .inl (by simp [h])
    · exact .inr ⟨d, by simp, by rw [tb_eq]; exact h⟩
    · rcases ancOf_bit (l := l) (j := j) (by rw [tb_eq]; exact h) with h | ⟨e, he, h⟩
      · exact .inl (by simp [h])
      · exact .inr ⟨e, by simp [he], h⟩
theorem ancOf_mem {A : List Nat} : ∀ {l : List Nat} {j : Nat}, j ∈ l → tb (ancOf A l) j = true
  | d :: l, j, h => by
    have e : ancOf A (d :: l) = (2 ^ d ||| atA A d) ||| ancOf A l := rfl
    rw [tb_eq, e, Nat.testBit_or, Nat.testBit_or]
    rcases List.mem_cons.1 h with rfl | h
    · rw [Nat.testBit_two_pow]; simp
    · have := ancOf_mem (A := A) h
      rw [tb_eq] at this; rw [this]; simp
noncomputable def ancs (l : List Oper) : List Nat → List Nat := List.rec (fun A => A) (fun o _ ih A => ih (A ++ [ancOf A (deps o)])) l
noncomputable def eqS (a : Option Nat) (s : Nat) : Bool := match a with
  | some t => Nat.beq t s
  | none => false
theorem eqS_iff {a : Option Nat} {s : Nat} : eqS a s = true ↔ a = some s := by
  unfold eqS
  cases a with
  | none => simp
  | some t => exact ⟨fun h => by rw [Nat.eq_of_beq_eq_true h], fun h => by injection h with h; subst h; exact Nat.beq_refl _⟩
noncomputable def bor (a b : Bool) : Bool := bc a true b
theorem bor_iff {a b : Bool} : bor a b = true ↔ a = true ∨ b = true := by unfold bor; rw [bc_eq]; cases a <;> simp
/-- all writers of a slot stand in order to an operation -/
noncomputable def slotOk (A : List Nat) (i s : Nat) (l : List Oper) : Nat → Bool := List.rec (fun _ => true) (fun o _ ih j => bc (eqS o.dst s) (bc (bor (tb (atA A i) j) (bor (tb (atA A j) i) (Nat.beq j i))) (ih (Nat.succ j)) false) (ih (Nat.succ j))) l
theorem slotOk_ok {A : List Nat} {i s : Nat} : ∀ {l : List Oper} {k : Nat}, slotOk A i s l k = true → ∀ j o, l[j]? = some o → o.dst = some s → tb (atA A i) (k + j) = true ∨ tb (atA A (k + j)) i = true ∨ k + j = i
  | [], k, _, j, o, h, _ => by simp at h
  | b :: l, k, h, j, o, hj, hd => by
    have h' : bc (eqS b.dst s) (bc (bor (tb (atA A i) k) (bor (tb (atA A k) i) (Nat.beq k i))) (slotOk A i s l (k + 1)) false) (slotOk A i s l (k + 1)) = true := h
    rw [bc_eq, bc_eq] at h'
    have hrec : slotOk A i s l (k + 1) = true := by
      split at h'
      · split at h'
        · exact h'
        · cases h'
      · exact h'
    cases j with
    | zero =>
      simp at hj; subst hj
      rw [if_pos (eqS_iff.2 hd)] at h'
      split at h'
      · rename_i h1
        rcases bor_iff.1 h1 with h1 | h1
        · exact .inl h1
        · rcases bor_iff.1 h1 with h1 | h1
          · exact .inr (.inl h1)
          · exact .inr (.inr (Nat.eq_of_beq_eq_true h1))
      · cases h'
    | succ j =>
      have := slotOk_ok hrec j o (by simpa using hj) hd
      rwa [show k + 1 + j = k + (j + 1) by omega] at this
/-- two writers of a slot stand in order -/
noncomputable def wrOk (A : List Nat) (i s : Nat) (l : List Oper) : Nat → Bool := List.rec (fun _ => true) (fun o _ ih j => bc (Nat.blt j i) (bc (eqS o.dst s) (bc (tb (atA A i) j) (ih (Nat.succ j)) false) (ih (Nat.succ j))) true) l
theorem wrOk_ok {A : List Nat} {i s : Nat} : ∀ {l : List Oper} {k : Nat}, wrOk A i s l k = true → ∀ j o, l[j]? = some o → k + j < i → o.dst = some s → tb (atA A i) (k + j) = true
  | [], k, _, j, o, h, _, _ => by simp at h
  | b :: l, k, h, j, o, hj, hlt, hd => by
    have h' : bc (Nat.blt k i) (bc (eqS b.dst s) (bc (tb (atA A i) k) (wrOk A i s l (k + 1)) false) (wrOk A i s l (k + 1))) true = true := h
    rw [bc_eq, if_pos (show Nat.blt k i = true from Nat.ble_eq_true_of_le (by omega)), bc_eq, bc_eq] at h'
    cases j with
    | zero =>
      simp at hj; subst hj
      rw [if_pos (eqS_iff.2 hd)] at h'
      split at h'
      · rename_i h1; exact h1
      · cases h'
    | succ j =>
      have hrec : wrOk A i s l (k + 1) = true := by
        split at h'
        · split at h'
          · exact h'
          · cases h'
        · exact h'
      have := wrOk_ok hrec j o (by simpa using hj) (by omega) hd
      rwa [show k + 1 + j = k + (j + 1) by omega] at this
noncomputable def looks (ops : Array Oper) (o : Oper) : List Nat := o.looksAt ops
/-- what is asked of a region -/
noncomputable def statB (ops : Array Oper) (A : List Nat) : Bool := allI (llen ops.toList) fun i => match lget ops.toList i with
  | some o => bc (allL (fun d => Nat.blt d i) (deps o)) (bc (Nat.beq (atA A i) (ancOf A (deps o))) (bc (allL (fun s => slotOk A i s ops.toList 0) (looks ops o)) (match o.dst with
    | some s => wrOk A i s ops.toList 0
    | none => true) false) false) false
  | none => false
structure Stat (ops : Array Oper) (A : List Nat) : Prop where
  lt : ∀ i o, ops[i]? = some o → ∀ d ∈ deps o, d < i
  anc : ∀ i o, ops[i]? = some o → atA A i = ancOf A (deps o)
  slot : ∀ i o, ops[i]? = some o → ∀ s ∈ looks ops o, ∀ j oj, ops[j]? = some oj → oj.dst = some s → tb (atA A i) j = true ∨ tb (atA A j) i = true ∨ j = i
  wr : ∀ i j oi oj s, ops[i]? = some oi → ops[j]? = some oj → j < i → oi.dst = some s → oj.dst = some s → tb (atA A i) j = true
theorem statB_ok {ops : Array Oper} {A : List Nat} (h : statB ops A = true) : Stat ops A := by
  have key : ∀ i o, ops[i]? = some o → (∀ d ∈ deps o, d < i) ∧ atA A i = ancOf A (deps o) ∧ (∀ s ∈ looks ops o, slotOk A i s ops.toList 0 = true) ∧ (∀ s, o.dst = some s → wrOk A i s ops.toList 0 = true) := fun i o ho => by
    have hlt : i < ops.size := (Array.getElem?_eq_some_iff.1 ho).1
    have := allI_ok h i (by rw [llen_eq]; simpa using hlt)
    rw [lget_eq, show ops.toList[i]? = some o by simpa using ho] at this
    simp only [bc_eq] at this
    split at this
    case isFalse => cases this
    rename_i h1
    split at this
    case isFalse => cases this
    rename_i h2
    split at this
    case isFalse => cases this
    rename_i h3
    refine ⟨fun d hd => blt_lt (allL_ok h1 d hd), Nat.eq_of_beq_eq_true h2, allL_ok h3, fun s hs => ?_⟩
    rw [hs] at this; exact this
  refine ⟨fun i o ho => (key i o ho).1, fun i o ho => (key i o ho).2.1, fun i o ho s hs j oj hj hd => ?_, fun i j oi oj s hi hj hlt hd1 hd2 => ?_⟩
  · have := slotOk_ok ((key i o ho).2.2.1 s hs) j oj (by simpa using hj) hd
    simpa using this
  · have := wrOk_ok ((key i oi hi).2.2.2 s hd1) j oj (by simpa using hj) (by omega) hd2
    simpa using this
theorem Stat.below {ops : Array Oper} {A : List Nat} (h : Stat ops A) : ∀ i o, ops[i]? = some o → ∀ j, tb (atA A i) j = true → j < i := by
  intro i
  induction i using Nat.strongRecOn with
  | _ i ih =>
    intro o ho j hj
    rw [h.anc i o ho] at hj
    rcases ancOf_bit hj with h1 | ⟨d, hd, h1⟩
    · exact h.lt i o ho j h1
    · have hlt := h.lt i o ho d hd
      have hi : i < ops.size := (Array.getElem?_eq_some_iff.1 ho).1
      have := ih d hlt ops[d] (by simp [show d < ops.size by omega]) j h1
      omega
/-- a set of operations with all that comes before them -/
def Good (A : List Nat) (m : Nat) (D : Nat → Bool) : Prop := ∀ i, i < m → D i = true → ∀ j, tb (atA A i) j = true → D j = true
theorem Stat.sub {ops : Array Oper} {A : List Nat} (h : Stat ops A) {D : Nat → Bool} (hg : Good A ops.size D) {i : Nat} {o : Oper} (ho : ops[i]? = some o) (hd : ∀ d ∈ deps o, D d = true) : ∀ j, tb (atA A i) j = true → D j = true := fun j hj => by
  rw [h.anc i o ho] at hj
  rcases ancOf_bit hj with h1 | ⟨d, hdm, h1⟩
  · exact hd j h1
  · have hlt := h.lt i o ho d hdm
    have hi : i < ops.size := (Array.getElem?_eq_some_iff.1 ho).1
    exact hg d (by omega) (hd d hdm) j h1
end Go.Proofs.Ytcgopcfbgkhpgaa.Ev
