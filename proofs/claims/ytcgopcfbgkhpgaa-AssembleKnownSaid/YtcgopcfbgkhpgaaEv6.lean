/- The reckoner's operations: slices of slices, make, literals, parts, lengths. No program is named. -/
import Derived.Test.YtcgopcfbgkhpgaaEv5
namespace Go.Proofs.Ytcgopcfbgkhpgaa.Ev
open Go.RowKit
variable {P : Program} {γ : G} {w0 : Bs} {w : World} {H H' : Tr EK} {n n' : Nat} {T : Tr EV} {tmps : Array Value} {o : Oper} {r : Option EV}

/-! ### slices of slices and of arrays -/
noncomputable def optNat (T : Tr EV) (x : Option Operand) (d : Nat) : Option Nat := match x with
  | none => some d
  | some y => (intOf (exVal T y)).bind natOf
noncomputable def exSlice (P : Program) (T : Tr EV) (t : TypeId) (x : Operand) (lo hi mx : Option Operand) (H : Tr EK) : Option EV := match mx with
  | some _ => none
  | none => match exVal T x with
    | some (.sl i z off len cap) => match optNat T lo 0 with
      | some l => match optNat T hi len with
        | some h => match Sx.slZ P t with
          | some z' => bc (Nat.beq z z') (bc (Nat.ble l h) (match cap with
            | some c => bc (Nat.ble h c) (some (.sl i z (bc (Nat.beq c l) off (Nat.add off (Nat.mul l z))) (Nat.sub h l) (some (Nat.sub c l)))) none
            | none => bc (Nat.ble h len) (bc (Nat.beq l 0) (some (.sl i z off h none)) (bc (Nat.blt l len) (some (.sl i z (Nat.add off (Nat.mul l z)) (Nat.sub h l) none)) (some (.slE i z (Nat.add off (Nat.mul l z)))))) none) none) none
          | none => none
        | none => none
      | none => none
    | some (.ptr i off) => match P.underlying t with
      | some (.array m e) => match optNat T lo 0 with
        | some l => match optNat T hi m with
          | some h => match Sx.sizeB P e with
            | some z => match cellsAt H i with
              | some (_, cs, _) => bc (Nat.ble l h) (bc (Nat.ble h m) (bc (Nat.ble (Nat.add off (Nat.mul m z)) (llen cs)) (bc (Nat.ble m 65536) (some (.sl i z (bc (Nat.beq m l) off (Nat.add off (Nat.mul l z))) (Nat.sub h l) (some (Nat.sub m l)))) none) none) none) none
              | none => none
            | none => none
          | none => none
        | none => none
      | _ => none
    | _ => none
theorem optNat_ok (hT : TOk γ T tmps) {x : Option Operand} {d k : Nat} (h : optNat T x d = some k) : (x = none ∧ k = d) ∨ ∃ y κ, x = some y ∧ opEval tmps y = .int κ k := by
  unfold optNat at h
  cases x with
  | none => left; simp at h; exact ⟨rfl, h.symm⟩
  | some y =>
    right
    obtain ⟨mi, hmi, hk2⟩ := Option.bind_eq_some_iff.1 h
    obtain ⟨κ, hix⟩ := intOf_ok hT hmi
    exact ⟨y, κ, rfl, by rw [hix, natOf_ok hk2]⟩
theorem run_bounds (hT : TOk γ T tmps) {isS : Bool} {lo hi : Option Operand} {len cap l h : Nat} (hl : optNat T lo 0 = some l) (hh : optNat T hi len = some h) (h1 : l ≤ h) (h2 : h ≤ cap) (w : World) :
    (Instr.sliceBounds isS len cap (lo.map (opEval tmps)) (hi.map (opEval tmps)) none).run P w = .ok (l, h, cap) w := by
  unfold Instr.sliceBounds
  rcases optNat_ok hT hl with ⟨rfl, rfl⟩ | ⟨y, κ, rfl, hy⟩ <;> rcases optNat_ok hT hh with ⟨rfl, rfl⟩ | ⟨y2, κ2, rfl, hy2⟩ <;>
    simp [Instr.sliceBound, asIntOf, *]
theorem exSlice_ok (hT : TOk γ T tmps) (hH : HR γ w0 H n w) {t : TypeId} {x : Operand} {lo hi mx : Option Operand} {a : EV} (ho : o.op = .slice t x lo hi mx) (h : exSlice P T t x lo hi mx H = some a) : Gives P γ w0 w (execOp (opEval tmps) o) (some a) H n := by
  unfold exSlice at h
  split at h
  · cases h
  have hex : ∀ s : Value, opEval tmps x = s → execOp (opEval tmps) o = (do pure (Next.value (← Instr.sliceAt t s (lo.map (opEval tmps)) (hi.map (opEval tmps)) none)) : Sem Next) := fun s hs => by
    unfold execOp; rw [ho]; simp only [hs]; rfl
  split at h
  · rename_i i z off len cap hx
    split at h
    case h_2 => cases h
    rename_i l hl
    split at h
    case h_2 => cases h
    rename_i hh hhi
    split at h
    case h_2 => cases h
    rename_i z' hz
    rw [bc_eq, bc_eq] at h
    split at h
    case isFalse => cases h
    rename_i hzz
    have hzz := Nat.eq_of_beq_eq_true hzz
    subst hzz
    split at h
    case isFalse => cases h
    rename_i hlh
    have hlh := Nat.le_of_ble_eq_true hlh
    obtain ⟨b, m, c, hγ, he, hlc, hcm, hcn, hck, hcu⟩ := ec_sl (exVal_ok hT hx)
    obtain ⟨e, inf, hu, hinf, hsz⟩ := Sx.slZ_spec hz
    have run : ∀ hc : hh ≤ c, (execOp (opEval tmps) o).run P w = .ok (.value (.slice (if c = l then some (b.at off) else some (b.at (off + l * z))) (hh - l) (c - l))) w := fun hc => by
      rw [hex _ he]
      refine run_v ?_
      have hb := run_bounds (P := P) (isS := true) (cap := c) hT hl hhi hlh hc w
      simp [Instr.sliceAt, Instr.slice, run_underlying hu, hb, sizeOf, typeInfo, hinf, hsz, Pl.at_add]
    cases cap with
    | some c' =>
      simp only at h
      have hck := hck _ rfl
      subst hck
      rw [bc_eq] at h
      split at h
      case isFalse => cases h
      rename_i hc
      have hc := Nat.le_of_ble_eq_true hc
      injection h with h; subst h
      refine gives_value (run hc) ?_ hH
      rw [bc_eq]
      by_cases e1 : c = l
      · subst e1
        have : Nat.beq c c = true := Nat.beq_refl c
        rw [if_pos rfl, if_pos this]
        exact .sl i z off _ _ b m _ hγ (Nat.sub_le_sub_right hc _) (by omega) (by simp; omega) (fun k e => by injection e with e) (fun e => by cases e)
      · rw [if_neg e1, if_neg (fun e2 => e1 (Nat.eq_of_beq_eq_true e2))]
        refine .sl i z _ _ _ b m _ hγ (Nat.sub_le_sub_right hc _) (by omega) ?_ (fun k e => by injection e with e) (fun e => by cases e)
        show off + l * z + (c - l) * z ≤ m
        rw [Nat.add_assoc, ← Nat.add_mul, show l + (c - l) = c by omega]; exact hcn
    | none =>
      simp only at h
      have hcu := hcu rfl
      rw [bc_eq] at h
      split at h
      case isFalse => cases h
      rename_i hc
      have hc := Nat.le_of_ble_eq_true hc
      rw [bc_eq] at h
      split at h
      · rename_i h0
        have h0 := Nat.eq_of_beq_eq_true h0
        subst h0
        injection h with h; subst h
        have hr := run (by omega)
        simp only [Nat.zero_mul, Nat.add_zero, ite_self, Nat.sub_zero] at hr
        exact gives_value hr (.sl i z off _ _ b m c hγ (by omega) hcm hcn (fun k e => by cases e) (fun _ => hcu)) hH
      · rename_i h0
        rw [bc_eq] at h
        split at h
        rotate_left
        · rename_i h3
          have h3 : ¬ l < len := fun e => h3 (by unfold Nat.blt; exact Nat.ble_eq_true_of_le e)
          injection h with h; subst h
          have hr := run (by omega)
          have e1 : l = hh := by omega
          have e2 : l = len := by omega
          subst e1
          rw [Nat.sub_self] at hr
          by_cases hcl : c = l
          · rw [if_pos hcl, hcl, Nat.sub_self] at hr
            exact gives_value hr (.slE i z _ b m 0 off hγ (Nat.zero_le _) (fun e => absurd e (by omega))) hH
          · rw [if_neg hcl] at hr
            refine gives_value hr (.slE i z _ b m (c - l) (off + l * z) hγ (by omega) (fun _ => ⟨rfl, ?_⟩)) hH
            show off + l * z + (c - l) * z = m
            rw [Nat.add_assoc, ← Nat.add_mul, show l + (c - l) = c by omega]; exact hcu
        rename_i h3
        have h3 := blt_lt h3
        injection h with h; subst h
        have hr := run (by omega)
        rw [if_neg (by omega)] at hr
        refine gives_value hr (.sl i z _ _ _ b m _ hγ (Nat.sub_le_sub_right (by omega) _) (by omega) ?_ (fun k e => by cases e) (fun _ => ?_)) hH
        · show off + l * z + (c - l) * z ≤ m
          rw [Nat.add_assoc, ← Nat.add_mul, show l + (c - l) = c by omega]; exact hcn
        · show off + l * z + (c - l) * z = m
          rw [Nat.add_assoc, ← Nat.add_mul, show l + (c - l) = c by omega]; exact hcu
  · rename_i i off hx
    split at h
    case h_2 => cases h
    rename_i m e hu
    split at h
    case h_2 => cases h
    rename_i l hl
    split at h
    case h_2 => cases h
    rename_i hh hhi
    split at h
    case h_2 => cases h
    rename_i z hz
    split at h
    case h_2 => cases h
    rename_i ty cs full hcs
    rw [bc_eq, bc_eq, bc_eq, bc_eq] at h
    split at h
    case isFalse => cases h
    rename_i h1
    split at h
    case isFalse => cases h
    rename_i h2
    split at h
    case isFalse => cases h
    rename_i h3
    split at h
    case isFalse => cases h
    rename_i h4
    injection h with h; subst h
    have h1 := Nat.le_of_ble_eq_true h1
    have h2 := Nat.le_of_ble_eq_true h2
    have h3 := Nat.le_of_ble_eq_true h3
    have h4 := Nat.le_of_ble_eq_true h4
    rw [llen_eq] at h3
    have h3 : off + m * z ≤ cs.length := h3
    obtain ⟨b, k, hγ, he⟩ := ec_ptr (exVal_ok hT hx)
    obtain ⟨hg, b2, m2, ca, hγ2, hb, hsz2, hl2, hfull, hcl⟩ := cellsAt_ok hH hcs
    rw [hγ] at hγ2
    simp only [Option.some.injEq, Prod.mk.injEq] at hγ2
    obtain ⟨rfl, rfl⟩ := hγ2
    obtain ⟨inf, hinf, hsz⟩ := size_of hz
    have hr : (execOp (opEval tmps) o).run P w = .ok (.value (.slice (some (if m = l then (b.at off) else (b.at (off + l * z)))) (hh - l) (m - l))) w := by
      rw [hex _ he]
      refine run_v ?_
      have hb := run_bounds (P := P) (isS := false) (cap := m) hT hl hhi h1 h2 w
      simp [Instr.sliceAt, Instr.sureAddr, run_underlying hu, hb, sizeOf, typeInfo, hinf, hsz, Pl.at_add]
    refine gives_value hr ?_ hH
    rw [bc_eq]
    by_cases e1 : m = l
    · subst e1
      have : Nat.beq m m = true := Nat.beq_refl m
      rw [if_pos rfl, if_pos this]
      exact .sl i z off _ _ b k _ hγ (Nat.sub_le_sub_right h2 _) (by unfold maxLen; omega) (by simp; omega) (fun k e => by injection e with e) (fun e => by cases e)
    · rw [if_neg e1, if_neg (fun e2 => e1 (Nat.eq_of_beq_eq_true e2))]
      refine .sl i z _ _ _ b k _ hγ (Nat.sub_le_sub_right h2 _) (by unfold maxLen; omega) ?_ (fun k e => by injection e with e) (fun e => by cases e)
      show off + l * z + (m - l) * z ≤ k
      rw [Nat.add_assoc, ← Nat.add_mul, show l + (m - l) = m by omega]; omega
  · cases h
end Go.Proofs.Ytcgopcfbgkhpgaa.Ev
