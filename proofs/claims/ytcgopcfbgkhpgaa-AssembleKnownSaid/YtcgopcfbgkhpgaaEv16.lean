/- The reckoner: equal values; regions that draw their order (the orders do not matter). No program is named. -/
import Derived.Test.YtcgopcfbgkhpgaaEv15
import Derived.Orders
namespace Go.Proofs.Ytcgopcfbgkhpgaa.Ev
open Go.RowKit
variable {P : Program} {γ γ' : G} {w0 : Bs} {w : World} {H H' : Tr EK} {n n' : Nat} {T : Tr EV} {cs : List Frame} {fid : FuncId} {FT : Tr FI}

/-! ### equal values -/
noncomputable def eqL {α : Type} (f : α → α → Bool) (l : List α) : List α → Bool := List.rec (fun m => match m with
  | [] => true
  | _ => false) (fun a _ ih m => match m with
  | b :: m => bc (f a b) (ih m) false
  | [] => false) l
theorem eqL_ok {α : Type} {f : α → α → Bool} (hf : ∀ a b, f a b = true → a = b) : ∀ {l m : List α}, eqL f l m = true → l = m
  | [], [], _ => rfl
  | [], b :: m, h => by exact absurd (show false = true from h) (by simp)
  | a :: l, [], h => by exact absurd (show false = true from h) (by simp)
  | a :: l, b :: m, h => by
    have h' : bc (f a b) (eqL f l m) false = true := h
    rw [bc_eq] at h'
    split at h'
    · rename_i e
      rw [hf a b e, eqL_ok hf h']
    · cases h'
noncomputable def eqV0 (x y : Value) : Bool := match x with
  | .bool a => match y with
    | .bool b => bc a b (bc b false true)
    | _ => false
  | .int k a => match y with
    | .int j b => bc (decide (k = j)) (decide (a = b)) false
    | _ => false
  | .string a => match y with
    | .string b => eqL (fun (x y : UInt8) => decide (x.toNat = y.toNat)) a.data.toList b.data.toList
    | _ => false
  | .slice none l c => match y with
    | .slice none l' c' => bc (Nat.beq l l') (Nat.beq c c') false
    | _ => false
  | .pointer none => match y with
    | .pointer none => true
    | _ => false
  | .nilFunc => match y with
    | .nilFunc => true
    | _ => false
  | .nilIface => match y with
    | .nilIface => true
    | _ => false
  | _ => false
theorem eqV0_ok (x y : Value) (h : eqV0 x y = true) : x = y := by
  unfold eqV0 at h
  split at h
  · split at h
    · rename_i a _ b
      rw [bc_eq, bc_eq] at h
      cases a <;> cases b <;> simp at h <;> rfl
    · cases h
  · split at h
    · rw [bc_eq] at h
      split at h
      · rename_i h1
        rw [of_decide_eq_true h1, of_decide_eq_true h]
      · cases h
    · cases h
  · split at h
    · rename_i a _ b
      have := eqL_ok (fun x y e => UInt8.toNat_inj.1 (of_decide_eq_true e)) h
      have h2 : a = b := by
        cases a with | mk d => cases b with | mk d' => exact congrArg ByteArray.mk (Array.ext' this)
      rw [h2]
    · cases h
  · split at h
    · rw [bc_eq] at h
      split at h
      · rename_i h1
        rw [Nat.eq_of_beq_eq_true h1, Nat.eq_of_beq_eq_true h]
      · cases h
    · cases h
  · split at h <;> first | rfl | cases h
  · split at h <;> first | rfl | cases h
  · split at h <;> first | rfl | cases h
  · cases h
noncomputable def eqV (x y : Value) : Bool := match x with
  | .agg a => match y with
    | .agg b => eqL eqV0 a.toList b.toList
    | _ => false
  | .tuple a => match y with
    | .tuple b => eqL eqV0 a.toList b.toList
    | _ => false
  | _ => eqV0 x y
theorem eqV_ok (x y : Value) (h : eqV x y = true) : x = y := by
  unfold eqV at h
  split at h
  · split at h
    · have := Array.ext' (eqL_ok eqV0_ok h); rw [this]
    · cases h
  · split at h
    · have := Array.ext' (eqL_ok eqV0_ok h); rw [this]
    · cases h
  · exact eqV0_ok x y h
noncomputable def eqO (a b : Option Nat) : Bool := match a with
  | none => match b with
    | none => true
    | _ => false
  | some x => match b with
    | some y => Nat.beq x y
    | none => false
theorem eqO_ok {a b : Option Nat} (h : eqO a b = true) : a = b := by
  unfold eqO at h
  split at h
  · split at h <;> first | rfl | cases h
  · split at h
    · rw [Nat.eq_of_beq_eq_true h]
    · cases h
noncomputable def eqE (k : Nat) : EV → EV → Bool := Nat.rec (fun _ _ => false) (fun _ ih x y => match x with
  | .v a => match y with
    | .v b => eqV a b
    | _ => false
  | .ptr i o => match y with
    | .ptr j o' => bc (Nat.beq i j) (Nat.beq o o') false
    | _ => false
  | .sl i z o l c => match y with
    | .sl i' z' o' l' c' => bc (Nat.beq i i') (bc (Nat.beq z z') (bc (Nat.beq o o') (bc (Nat.beq l l') (eqO c c') false) false) false) false
    | _ => false
  | .agg l => match y with
    | .agg m => eqL ih l m
    | _ => false
  | .tup l => match y with
    | .tup m => eqL ih l m
    | _ => false
  | .fn f l => match y with
    | .fn g m => bc (Nat.beq f g) (eqL ih l m) false
    | _ => false
  | .yl i => match y with
    | .yl j => Nat.beq i j
    | _ => false
  | .mp i => match y with
    | .mp j => Nat.beq i j
    | _ => false
  | .slE i z o => match y with
    | .slE j z' o' => bc (Nat.beq i j) (bc (Nat.beq z z') (Nat.beq o o') false) false
    | _ => false
  | .mt f l => match y with
    | .mt g m => bc (Nat.beq f g) (eqL ih l m) false
    | _ => false) k
theorem eqE_ok : ∀ (k : Nat) (x y : EV), eqE k x y = true → x = y
  | 0, x, y, h => by exact absurd (show false = true from h) (by simp)
  | k + 1, x, y, h => by
    have ih := eqE_ok k
    cases x <;> cases y <;> first | (exact absurd (show false = true from h) (by simp)) | skip
    · rename_i a b; have h : eqV a b = true := h; rw [eqV_ok _ _ h]
    · rename_i i o j o'
      have h : bc (Nat.beq i j) (Nat.beq o o') false = true := h
      rw [bc_eq] at h; split at h
      · rename_i h1; rw [Nat.eq_of_beq_eq_true h1, Nat.eq_of_beq_eq_true h]
      · cases h
    · rename_i i z o l c i' z' o' l' c'
      have h : bc (Nat.beq i i') (bc (Nat.beq z z') (bc (Nat.beq o o') (bc (Nat.beq l l') (eqO c c') false) false) false) false = true := h
      simp only [bc_eq] at h
      split at h
      case isFalse => cases h
      rename_i h1
      split at h
      case isFalse => cases h
      rename_i h2
      split at h
      case isFalse => cases h
      rename_i h3
      split at h
      case isFalse => cases h
      rename_i h4
      rw [Nat.eq_of_beq_eq_true h1, Nat.eq_of_beq_eq_true h2, Nat.eq_of_beq_eq_true h3, Nat.eq_of_beq_eq_true h4, eqO_ok h]
    · rename_i l m; have h : eqL (eqE k) l m = true := h; rw [eqL_ok ih h]
    · rename_i l m; have h : eqL (eqE k) l m = true := h; rw [eqL_ok ih h]
    · rename_i f l g m
      have h : bc (Nat.beq f g) (eqL (eqE k) l m) false = true := h
      rw [bc_eq] at h; split at h
      · rename_i h1; rw [Nat.eq_of_beq_eq_true h1, eqL_ok ih h]
      · cases h
    · rename_i i j; have h : Nat.beq i j = true := h; rw [Nat.eq_of_beq_eq_true h]
    · rename_i i j; have h : Nat.beq i j = true := h; rw [Nat.eq_of_beq_eq_true h]
    · rename_i i z o j z' o'
      have h : bc (Nat.beq i j) (bc (Nat.beq z z') (Nat.beq o o') false) false = true := h
      rw [bc_eq, bc_eq] at h
      split at h
      case isFalse => cases h
      rename_i h1
      split at h
      case isFalse => cases h
      rename_i h2
      rw [Nat.eq_of_beq_eq_true h1, Nat.eq_of_beq_eq_true h2, Nat.eq_of_beq_eq_true h]
    · rename_i f l g m
      have h : bc (Nat.beq f g) (eqL (eqE k) l m) false = true := h
      rw [bc_eq] at h; split at h
      · rename_i h1; rw [Nat.eq_of_beq_eq_true h1, eqL_ok ih h]
      · cases h
end Go.Proofs.Ytcgopcfbgkhpgaa.Ev
