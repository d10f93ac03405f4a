/- The reckoner: operations that only make a new block, whatever its number. No program is named. -/
import Derived.Test.YtcgopcfbgkhpgaaEv8
namespace Go.Proofs.Ytcgopcfbgkhpgaa.Ev
open Go.RowKit
variable {P : Program} {γ : G} {w0 : Bs} {w : World} {H H' : Tr EK} {n n' : Nat} {T : Tr EV} {tmps : Array Value} {o : Oper} {r : Option EV}

/-- the value and the block of a fresh operation: its number is r -/
noncomputable def exFr (P : Program) (T : Tr EV) (o : Oper) (r : Nat) : Option (EV × EK) := match o.op with
  | .alloc t => match Sx.zeroL P t with
    | some zs => some (.ptr r 0, zeroK t zs)
    | none => none
  | .box t x => match exVal T x with
    | some a => some (.ptr r 0, .cells t a.cells true)
    | none => none
  | .buildSlice t len parts => match bsCore P T t len parts with
    | some (e, z, cs) => some (.sl r z 0 len (some len), .cells e cs true)
    | none => none
  | _ => none
theorem fr_ok {c : Array Value} {t : TypeId} {cs : List EV} (hc : ECL γ cs c.toList) {γ' : G} (hle : GLe γ γ') : (EK.cells t cs true).ok γ' ⟨w.heap.size, 0⟩ c.size (w.alloc (.cells c t)) := by
  have hl : cs.length = c.size := by simpa using hc.1
  refine ⟨c, by show (w.heap.push _)[_]? = _; simp, (Nat.zero_add _).symm, by omega, fun _ => hl, ?_⟩
  show ECL _ cs ((c.toList.drop 0).take cs.length)
  rw [List.drop_zero, hl, show c.size = c.toList.length by simp, List.take_length]
  exact hc.mono hle
theorem exFr_ok (hT : TOk γ T tmps) {r : Nat} {a : EV} {k : EK} (h : exFr P T o r = some (a, k)) (w : World) :
    ∃ (c : Array Value) (e : TypeId) (x : Value), (execOp (opEval tmps) o).run P w = .ok (.value x) (w.alloc (.cells c e)) ∧ ∀ γ', GLe γ γ' → γ' r = some (⟨w.heap.size, 0⟩, c.size) → EC γ' a x ∧ k.ok γ' ⟨w.heap.size, 0⟩ c.size (w.alloc (.cells c e)) := by
  unfold exFr at h
  split at h
  · rename_i t ho
    split at h
    case h_2 => cases h
    rename_i zs hz
    simp only [Option.some.injEq, Prod.mk.injEq] at h
    obtain ⟨rfl, rfl⟩ := h
    obtain ⟨c, hc, hr⟩ := run_alloc (tmps := tmps) ho hz w
    exact ⟨c, t, _, hr, fun γ' hle e => ⟨.ptr r 0 _ _ e, zeroK_ok hc γ'⟩⟩
  · rename_i t x ho
    split at h
    case h_2 => cases h
    rename_i a0 ha
    simp only [Option.some.injEq, Prod.mk.injEq] at h
    obtain ⟨rfl, rfl⟩ := h
    refine ⟨(opEval tmps x).cells, t, _, ?_, fun γ' hle e => ⟨.ptr r 0 _ _ e, fr_ok (exVal_ok hT ha).cells hle⟩⟩
    have he : execOp (opEval tmps) o = (do pure (Next.value (← Instr.box t (opEval tmps x))) : Sem Next) := by unfold execOp; rw [ho]
    rw [he]
    refine run_v ?_
    simp [Instr.box, newVar, newRow, newObj, Sem.run]
    rfl
  · rename_i t len parts ho
    split at h
    case h_2 => cases h
    rename_i e z cs hb
    simp only [Option.some.injEq, Prod.mk.injEq] at h
    obtain ⟨rfl, rfl⟩ := h
    obtain ⟨c, hr, hc, hs, hl⟩ := bsCore_ok hT ho hb w
    exact ⟨c, e, _, hr, fun γ' hle er => ⟨.sl r z 0 len _ _ _ len er (Nat.le_refl _) (by unfold maxLen; omega) (by rw [hs]; omega) (fun k e => by injection e) (fun e => by cases e), fr_ok hc hle⟩⟩
  · cases h
end Go.Proofs.Ytcgopcfbgkhpgaa.Ev
