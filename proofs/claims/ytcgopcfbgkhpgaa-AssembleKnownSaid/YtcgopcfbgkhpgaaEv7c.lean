/- The reckoner's operations: a new variable of many cells. No program is named. -/
import Derived.Test.YtcgopcfbgkhpgaaEv7b
namespace Go.Proofs.Ytcgopcfbgkhpgaa.Ev
open Go.RowKit
variable {P : Program} {γ : G} {w0 : Bs} {w : World} {H H' : Tr EK} {n n' : Nat} {T : Tr EV} {tmps : Array Value} {o : Oper} {r : Option EV}

/-- a new variable's block: a table where it has many cells -/
noncomputable def zeroK (t : TypeId) (zs : List Value) : EK := bc (Nat.ble (llen zs) 24) (.cells t (zs.map .v) true) (bc (Nat.ble (llen zs) 65536) (.arr t (putsT (zs.map .v) 0 .nil) (llen zs)) (.cells t (zs.map .v) true))
theorem zeroK_ok {t : TypeId} {zs : List Value} {c : Array Value} (hc : c.toList = zs) (γ' : G) : (zeroK t zs).ok γ' ⟨w.heap.size, 0⟩ c.size (w.alloc (.cells c t)) := by
  have h0 : (EK.cells t (zs.map .v) true).ok γ' ⟨w.heap.size, 0⟩ c.size (w.alloc (.cells c t)) := by
    have hl : (zs.map EV.v).length = c.size := by rw [← hc]; simp
    refine ⟨c, .of (by show (w.heap.push _)[_]? = _; simp), (Nat.zero_add _).symm, by omega, fun _ => hl, ?_⟩
    show ECL _ _ ((c.toList.drop 0).take _)
    rw [List.drop_zero, hl, show c.size = c.toList.length by simp, List.take_length, hc]
    exact ECL.vals γ' zs
  unfold zeroK
  rw [bc_eq, bc_eq]
  split
  · exact h0
  · split
    · rename_i h2
      have h2 := Nat.le_of_ble_eq_true h2
      rw [llen_eq] at h2 ⊢
      refine ⟨c, .of (by show (w.heap.push _)[_]? = _; simp), (Nat.zero_add _).symm, by rw [← hc]; simp, fun j a hj ha => ?_⟩
      rw [putsT_get (by simp; omega)] at ha
      rw [if_pos (by simp; omega), Nat.sub_zero, List.getElem?_map] at ha
      show ∃ x, c[0 + j]? = some x ∧ _
      rw [Nat.zero_add, ← Array.getElem?_toList, hc]
      cases hz : zs[j]? with
      | none => rw [hz] at ha; cases ha
      | some x =>
        rw [hz] at ha
        injection ha with ha; subst ha
        exact ⟨x, rfl, .v x⟩
    · exact h0
noncomputable def exAllocB (P : Program) (t : TypeId) (H : Tr EK) (n : Nat) : Option ER := match Sx.zeroL P t with
  | some zs => bc (Nat.ble n 65535) (some ⟨some (.ptr n 0), H.put n (some (zeroK t zs)), Nat.succ n⟩) none
  | none => none
theorem run_alloc {t : TypeId} (ho : o.op = .alloc t) {zs : List Value} (h : Sx.zeroL P t = some zs) (w : World) : ∃ c : Array Value, c.toList = zs ∧ (execOp (opEval tmps) o).run P w = .ok (.value (.pointer (some ⟨w.heap.size, 0, none⟩))) (w.alloc (.cells c t)) := by
  obtain ⟨inf, z, hi, hzz, hzl⟩ := zero_of h
  refine ⟨z.cells, hzl, ?_⟩
  have he : execOp (opEval tmps) o = (do pure (Next.value (← Instr.alloc t true (.tuple #[]))) : Sem Next) := by unfold execOp; rw [ho]
  rw [he]
  refine run_v ?_
  simp [Instr.alloc, zeroValue, typeInfo, hi, hzz, newVar, newRow, newObj, Sem.run]
theorem exAllocB_ok (hH : HR γ w0 H n w) {t : TypeId} {e : ER} (ho : o.op = .alloc t) (h : exAllocB P t H n = some e) : Gives P γ w0 w (execOp (opEval tmps) o) e.val e.H e.n := by
  unfold exAllocB at h
  split at h
  case h_2 => cases h
  rename_i zs hz
  rw [bc_eq] at h
  split at h
  case isFalse => cases h
  rename_i hn
  injection h with h; subst h
  obtain ⟨c, hc, hr⟩ := run_alloc (tmps := tmps) ho hz w
  have hle := G.upd_le (p := ((⟨w.heap.size, 0⟩ : Pl), c.size)) (hH.fresh n (Nat.le_refl _))
  exact ⟨γ.upd n (⟨w.heap.size, 0⟩, c.size), w.alloc (.cells c t), hle, hH.new hn (.cells c t) c.size (zeroK t zs) rfl rfl rfl rfl (zeroK_ok hc _), _, hr, .ptr n 0 _ _ G.upd_same⟩
end Go.Proofs.Ytcgopcfbgkhpgaa.Ev
