/- The reckoner: operations that only make a new block, whatever its number. No program is named. -/
import Derived.Test.YtcgopcfbgkhpgaaEv8
namespace Go.Proofs.Ytcgopcfbgkhpgaa.Ev
open Go.RowKit Go.MapKept
variable {P : Program} {γ : G} {w0 : Bs} {w : World} {H H' : Tr EK} {n n' : Nat} {T : Tr EV} {tmps : Array Value} {o : Oper} {r : Option EV}

/-- the value and the block of a fresh operation: its number is r -/
noncomputable def exFr (P : Program) (T : Tr EV) (o : Oper) (r : Nat) : Option (EV × EK) := match o.op with
  | .alloc t => match Sx.zeroL P t with
    | some zs => some (.ptr r 0, zeroK t zs)
    | none => none
  | .box t x => match exVal T x with
    | some a => some (.ptr r 0, .cells t a.cells true)
    | none => none
  | .buildSlice t len parts => match bsCore P T t len parts with
    | some (e, z, cs) => some (.sl r z 0 len (some len), .cells e cs true)
    | none => none
  | .makeMap _ hint => match hint with
    | none => some (.mp r, .mp [])
    | some _ => none
  | _ => none
theorem fr_ok {c : Array Value} {t : TypeId} {cs : List EV} (hc : ECL γ cs c.toList) {γ' : G} (hle : GLe γ γ') : (EK.cells t cs true).ok γ' ⟨w.heap.size, 0⟩ c.size (w.alloc (.cells c t)) := by
  have hl : cs.length = c.size := by simpa using hc.1
  refine ⟨c, .of (by show (w.heap.push _)[_]? = _; simp), (Nat.zero_add _).symm, by omega, fun _ => hl, ?_⟩
  show ECL _ cs ((c.toList.drop 0).take cs.length)
  rw [List.drop_zero, hl, show c.size = c.toList.length by simp, List.take_length]
  exact hc.mono hle
theorem exFr_ok (hT : TOk γ T tmps) {r : Nat} {a : EV} {k : EK} (h : exFr P T o r = some (a, k)) (w : World) :
    ∃ (ob : Obj) (m : Nat) (x : Value), (execOp (opEval tmps) o).run P w = .ok (.value x) (w.alloc ob) ∧ ∀ γ', GLe γ γ' → γ' r = some (⟨w.heap.size, 0⟩, m) → EC γ' a x ∧ k.ok γ' ⟨w.heap.size, 0⟩ m (w.alloc ob) := by
  unfold exFr at h
  split at h
  · rename_i t ho
    split at h
    case h_2 => cases h
    rename_i zs hz
    simp only [Option.some.injEq, Prod.mk.injEq] at h
    obtain ⟨rfl, rfl⟩ := h
    obtain ⟨c, hc, hr⟩ := run_alloc (tmps := tmps) ho hz w
    exact ⟨.cells c t, c.size, _, hr, fun γ' hle e => ⟨.ptr r 0 _ _ e, zeroK_ok hc γ'⟩⟩
  · rename_i t x ho
    split at h
    case h_2 => cases h
    rename_i a0 ha
    simp only [Option.some.injEq, Prod.mk.injEq] at h
    obtain ⟨rfl, rfl⟩ := h
    refine ⟨.cells (opEval tmps x).cells t, (opEval tmps x).cells.size, _, ?_, fun γ' hle e => ⟨.ptr r 0 _ _ e, fr_ok (exVal_ok hT ha).cells hle⟩⟩
    have he : execOp (opEval tmps) o = (do pure (Next.value (← Instr.box t (opEval tmps x))) : Sem Next) := by unfold execOp; rw [ho]
    rw [he]
    refine run_v ?_
    simp [Instr.box, newVar, newRow, newObj, Sem.run]
    rfl
  · rename_i t len parts ho
    split at h
    case h_2 => cases h
    rename_i e z cs hb
    simp only [Option.some.injEq, Prod.mk.injEq] at h
    obtain ⟨rfl, rfl⟩ := h
    obtain ⟨c, hr, hc, hs, hl⟩ := bsCore_ok hT ho hb w
    exact ⟨.cells c e, c.size, _, hr, fun γ' hle er => ⟨.sl r z 0 len _ _ _ len er (Nat.le_refl _) (by unfold maxLen; omega) (by rw [hs]; omega) (fun k e => by injection e) (fun e => by cases e), fr_ok hc hle⟩⟩
  · rename_i t hint ho
    split at h
    · simp only [Option.some.injEq, Prod.mk.injEq] at h
      obtain ⟨rfl, rfl⟩ := h
      exact ⟨.map #[] 0, 0, _, run_makeMap ho w, fun γ' hle e => ⟨.mp r ⟨w.heap.size, 0⟩ 0 e, mp_nil _ _ _ (World.alloc_heap_new w (.map #[] 0))⟩⟩
    · cases h
  · cases h
theorem zeroK_mp {t : TypeId} {zs : List Value} {es : List (Value × EV)} : zeroK t zs ≠ .mp es := by
  unfold zeroK
  rw [bc_eq, bc_eq]
  split
  · intro h; cases h
  · split
    · intro h; cases h
    · intro h; cases h
theorem exFr_mp {r : Nat} {a : EV} {es : List (Value × EV)} (h : exFr P T o r = some (a, .mp es)) : es = [] := by
  unfold exFr at h
  split at h
  · split at h
    · simp only [Option.some.injEq, Prod.mk.injEq] at h
      exact absurd h.2 zeroK_mp
    · cases h
  · split at h
    · simp only [Option.some.injEq, Prod.mk.injEq] at h
      cases h.2
    · cases h
  · split at h
    · simp only [Option.some.injEq, Prod.mk.injEq] at h
      cases h.2
    · cases h
  · split at h
    · simp only [Option.some.injEq, Prod.mk.injEq] at h
      have := h.2
      injection this with this; exact this.symm
    · cases h
  · cases h
/-- an entry of a literal: of a map that has a number from n0 on -/
noncomputable def exIns (P : Program) (T : Tr EV) (o : Oper) (n0 : Nat) : Option (Nat × TypeDesc × Value × EV) := match o.op with
  | .insert t m k x => match exVal T m with
    | some (.mp r) => match mapOf P t with
      | some (_, _, d) => match exVal T k with
        | some (.v kv) => match exVal T x with
          | some a => bc (Nat.ble n0 r) (bc (isKeyB d kv) (some (Nat.sub r n0, d, kv, a)) none) none
          | none => none
        | _ => none
      | none => none
    | _ => none
  | _ => none
theorem exIns_ok (hT : TOk γ T tmps) {n0 j : Nat} {d : TypeDesc} {kv : Value} {a : EV} (h : exIns P T o n0 = some (j, d, kv, a)) :
    ∃ (t kt et : TypeId) (b : Pl) (q : Nat) (x : Value), (∃ t m k x, o.op = .insert t m k x) ∧ execOp (opEval tmps) o = (do Instr.mapUpdate t (.map (some b.k)) kv x; pure Next.skip : Sem Next) ∧ γ (n0 + j) = some (b, q) ∧ EC γ a x ∧ IsKey d kv ∧ P.underlying t = some (.map kt et) ∧ P.underlying kt = some d := by
  unfold exIns at h
  split at h
  case h_2 => cases h
  rename_i t m k x ho
  split at h
  case h_2 => cases h
  rename_i r hm
  split at h
  case h_2 => cases h
  rename_i kt et d' ht
  split at h
  case h_2 => cases h
  rename_i kv' hk
  split at h
  case h_2 => cases h
  rename_i a' ha
  rw [bc_eq] at h
  split at h
  case isFalse => cases h
  rename_i hn
  rw [bc_eq] at h
  split at h
  case isFalse => cases h
  rename_i hkey
  simp only [Option.some.injEq, Prod.mk.injEq] at h
  obtain ⟨rfl, rfl, rfl, rfl⟩ := h
  have hn := Nat.le_of_ble_eq_true hn
  obtain ⟨hu, hd⟩ := mapOf_ok ht
  have hkv := ec_v (exVal_ok hT hk)
  have hc := exVal_ok hT hm
  generalize hy : opEval tmps m = y at hc
  cases hc with
  | mp _ b q hγ =>
    refine ⟨t, kt, et, b, q, opEval tmps x, ⟨t, m, k, x, ho⟩, by unfold execOp; rw [ho]; simp only [hy, hkv], ?_, exVal_ok hT ha, isKeyB_ok hkey, hu, hd⟩
    have e : n0 + Nat.sub r n0 = r := by show n0 + (r - n0) = r; omega
    rw [e]; exact hγ
end Go.Proofs.Ytcgopcfbgkhpgaa.Ev
