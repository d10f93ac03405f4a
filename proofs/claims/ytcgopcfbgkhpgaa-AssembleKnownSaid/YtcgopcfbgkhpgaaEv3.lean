/- The reckoner's operations on cells: alloc, box, load, store, addresses, lengths. No program is named. -/
import Derived.Test.YtcgopcfbgkhpgaaEv2
import Derived.Test.YtcgopcfbgkhpgaaSx7
namespace Go.Proofs.Ytcgopcfbgkhpgaa.Ev
open Go.RowKit
variable {P : Program} {γ : G} {w0 : Bs} {w : World} {H H' : Tr EK} {n n' : Nat} {T : Tr EV} {tmps : Array Value} {o : Oper} {r : Option EV}

noncomputable def lget {α : Type} (l : List α) : Nat → Option α := List.rec (fun _ => none) (fun a _ ih n => Nat.rec (some a) (fun m _ => ih m) n) l
theorem lget_eq {α : Type} : ∀ (l : List α) (n : Nat), lget l n = l[n]?
  | [], n => rfl
  | a :: l, 0 => rfl
  | a :: l, n + 1 => by
    show lget l n = _
    rw [lget_eq l n]; simp
noncomputable def llen {α : Type} (l : List α) : Nat := List.rec 0 (fun _ _ n => Nat.succ n) l
theorem llen_eq {α : Type} (l : List α) : llen l = l.length := by
  induction l with
  | nil => rfl
  | cons a l ih => show Nat.succ (llen l) = _; rw [ih]; rfl
/-- the result of an operation -/
structure ER where
  val : Option EV
  H : Tr EK
  n : Nat
/-- the cells of a table, as a list -/
noncomputable def lstT (T : Tr EV) (k : Nat) : List EV → Option (List EV) := Nat.rec (fun acc => some acc) (fun k ih acc => match T.get k with
  | some a => ih (a :: acc)
  | none => none) k
theorem lstT_ok {T : Tr EV} : ∀ {k : Nat} {acc cs : List EV}, lstT T k acc = some cs → cs.length = k + acc.length ∧ (∀ j, j < k → cs[j]? = T.get j) ∧ ∀ j, cs[k + j]? = acc[j]?
  | 0, acc, cs, h => by
    have h' : some acc = some cs := h
    injection h' with h'; subst h'
    exact ⟨by simp, fun j hj => by omega, fun j => by rw [Nat.zero_add]⟩
  | k + 1, acc, cs, h => by
    have h' : (match T.get k with
      | some a => lstT T k (a :: acc)
      | none => none) = some cs := h
    split at h'
    case h_2 => cases h'
    rename_i a ha
    obtain ⟨h1, h2, h3⟩ := lstT_ok h'
    refine ⟨by rw [h1]; simp; omega, fun j hj => ?_, fun j => ?_⟩
    · by_cases e : j < k
      · exact h2 j e
      · have : j = k := by omega
        subst this
        have := h3 0
        rw [Nat.add_zero] at this
        rw [this, ha]; rfl
    · have := h3 (j + 1)
      rw [show k + (j + 1) = k + 1 + j by omega] at this
      rw [this]; simp
noncomputable def cellsAt (H : Tr EK) (i : Nat) : Option (TypeId × List EV × Bool) := match H.get i with
  | some (.cells ty cs full) => some (ty, cs, full)
  | some (.arr ty T len) => match lstT T len [] with
    | some cs => some (ty, cs, true)
    | none => none
  | _ => none
theorem cellsAt_ok (hH : HR γ w0 H n w) {i : Nat} {ty : TypeId} {cs : List EV} {full : Bool} (h : cellsAt H i = some (ty, cs, full)) :
    (∃ k0, H.get i = some k0) ∧ ∃ (b : Pl) (m : Nat) (c : Array Value), γ i = some (b, m) ∧ Cl w b.k c ty ∧ c.size = b.s + m ∧ cs.length ≤ m ∧ (full = true → cs.length = m) ∧ ECL γ cs ((c.toList.drop b.s).take cs.length) := by
  unfold cellsAt at h
  split at h
  · rename_i ty' cs' full' hg
    simp only [Option.some.injEq, Prod.mk.injEq] at h
    obtain ⟨rfl, rfl, rfl⟩ := h
    obtain ⟨b, m, h1, _, c, h2, h3, h4, h5, h6⟩ := hH.hp i _ hg
    exact ⟨⟨_, hg⟩, b, m, c, h1, h2, h3, h4, h5, h6⟩
  · rename_i ty' T len hg
    split at h
    case h_2 => cases h
    rename_i cs' hl
    simp only [Option.some.injEq, Prod.mk.injEq] at h
    obtain ⟨rfl, rfl, rfl⟩ := h
    obtain ⟨b, m, h1, _, c, h2, h3, h4, h5⟩ := hH.hp i _ hg
    obtain ⟨g1, g2, _⟩ := lstT_ok hl
    have g1 : cs'.length = len := by simpa using g1
    refine ⟨⟨_, hg⟩, b, m, c, h1, h2, h3, by omega, fun _ => by omega, ⟨?_, fun j a x ha hx => ?_⟩⟩
    · have hcl : c.toList.length = c.size := by simp
      rw [List.length_take, List.length_drop]; omega
    · have hj : j < len := by rw [← g1]; exact (List.getElem?_eq_some_iff.1 ha).1
      rw [g2 j hj] at ha
      obtain ⟨y, hy, hc⟩ := h5 j a hj ha
      rw [List.getElem?_take, if_pos (by omega), List.getElem?_drop, Array.getElem?_toList, hy] at hx
      injection hx with hx; subst hx
      exact hc
  · cases h
theorem cell_of {b : Pl} {off : Nat} {c : Array Value} {ty : TypeId} (hc : Cl w b.k c ty) : w.cell? (b.at off) = c[b.s + off]? ∧ (b.s + off < c.size → w.frozen? (b.at off) = false) := by
  obtain ⟨fz, hc, hf⟩ := hc
  constructor
  · unfold World.cell? Pl.at; simp [hc]
  · intro hlt
    unfold World.frozen? Pl.at; simp [hc]
    rcases hf with rfl | hf
    · simp
    · intro h; omega
theorem Pl.at_add (b : Pl) (off j : Nat) : (b.at off).add j = b.at (off + j) := by unfold Pl.at; rw [Addr.add_lit, Nat.add_assoc]
theorem ec_ptr {i off : Nat} {y : Value} (h : EC γ (.ptr i off) y) : ∃ b m, γ i = some (b, m) ∧ y = .pointer (some (b.at off)) := by
  cases h with | ptr _ _ b m h => exact ⟨b, m, h, rfl⟩
theorem ec_sl {i z off len : Nat} {cap : Option Nat} {y : Value} (h : EC γ (.sl i z off len cap) y) : ∃ (b : Pl) (m c : Nat), γ i = some (b, m) ∧ y = .slice (some (b.at off)) len c ∧ len ≤ c ∧ c ≤ maxLen ∧ off + c * z ≤ m ∧ (∀ k, cap = some k → c = k) ∧ (cap = none → off + c * z = m) := by
  cases h with | sl _ _ _ _ _ b m c h hl hm hn hc hu => exact ⟨b, m, c, h, rfl, hl, hm, hn, hc, hu⟩

/-! ### alloc, box -/
noncomputable def exNew (t : TypeId) (cs : List EV) (H : Tr EK) (n : Nat) : Option ER :=
  bc (Nat.ble n 65535) (some ⟨some (.ptr n 0), H.put n (some (.cells t cs true)), Nat.succ n⟩) none
theorem exNew_ok (hH : HR γ w0 H n w) {s : Sem Next} {t : TypeId} {cs : List EV} {c : Array Value} {e : ER} (h : exNew t cs H n = some e) (hc : ECL γ cs c.toList)
    (hr : s.run P w = .ok (.value (.pointer (some ⟨w.heap.size, 0, none⟩))) (w.alloc (.cells c t))) : Gives P γ w0 w s e.val e.H e.n := by
  unfold exNew at h
  rw [bc_eq] at h
  split at h
  · rename_i hn
    injection h with h; subst h
    exact gives_new hH hn hc hr fun γ' e => .ptr n 0 _ _ e
  · cases h
noncomputable def exAlloc (P : Program) (t : TypeId) (H : Tr EK) (n : Nat) : Option ER := match Sx.zeroL P t with
  | some zs => exNew t (zs.map .v) H n
  | none => none
theorem exAlloc_ok (hH : HR γ w0 H n w) {t : TypeId} {e : ER} (ho : o.op = .alloc t) (h : exAlloc P t H n = some e) : Gives P γ w0 w (execOp (opEval tmps) o) e.val e.H e.n := by
  unfold exAlloc at h
  split at h
  · rename_i zs hz
    obtain ⟨inf, z, hi, hzz, hzl⟩ := zero_of hz
    refine exNew_ok hH (c := z.cells) h (by rw [hzl]; exact ECL.vals γ zs) ?_
    have he : execOp (opEval tmps) o = (do pure (Next.value (← Instr.alloc t true (.tuple #[]))) : Sem Next) := by unfold execOp; rw [ho]
    rw [he]
    refine run_v ?_
    simp [Instr.alloc, zeroValue, typeInfo, hi, hzz, newVar, newRow, newObj, Sem.run]
  · cases h
noncomputable def exBox (T : Tr EV) (t : TypeId) (x : Operand) (H : Tr EK) (n : Nat) : Option ER := match exVal T x with
  | some a => exNew t a.cells H n
  | none => none
theorem exBox_ok (hT : TOk γ T tmps) (hH : HR γ w0 H n w) {t : TypeId} {x : Operand} {e : ER} (ho : o.op = .box t x) (h : exBox T t x H n = some e) : Gives P γ w0 w (execOp (opEval tmps) o) e.val e.H e.n := by
  unfold exBox at h
  split at h
  · rename_i a ha
    refine exNew_ok hH (c := (opEval tmps x).cells) h (exVal_ok hT ha).cells ?_
    have he : execOp (opEval tmps) o = (do pure (Next.value (← Instr.box t (opEval tmps x))) : Sem Next) := by unfold execOp; rw [ho]
    rw [he]
    refine run_v ?_
    simp [Instr.box, newVar, newRow, newObj, Sem.run]
  · cases h

/-! ### load -/
noncomputable def aggOf (P : Program) (t : TypeId) : Option (Option Nat) := match P.underlying t with
  | some (.struct _) => match Sx.sizeB P t with
    | some m => some (some m)
    | none => none
  | some (.array _ _) => match Sx.sizeB P t with
    | some m => some (some m)
    | none => none
  | some _ => some none
  | none => none
theorem aggOf_agg {t m : Nat} (h : aggOf P t = some (some m)) : (∀ w, (isAgg t).run P w = .ok true w) ∧ ∃ inf, P.info? t = some inf ∧ inf.size = m := by
  unfold aggOf at h
  split at h
  · rename_i fs hu
    split at h
    · rename_i m' hm
      simp at h; subst h
      exact ⟨fun w => by unfold isAgg; simp [run_underlying hu], size_of hm⟩
    · cases h
  · rename_i k e hu
    split at h
    · rename_i m' hm
      simp at h; subst h
      exact ⟨fun w => by unfold isAgg; simp [run_underlying hu], size_of hm⟩
    · cases h
  · simp at h
  · cases h
theorem aggOf_one {t : Nat} (h : aggOf P t = some none) (w : World) : (isAgg t).run P w = .ok false w := by
  unfold aggOf at h
  split at h
  · split at h <;> simp at h
  · split at h <;> simp at h
  · rename_i d h1 h2 hu
    unfold isAgg
    rw [Sem.run_bind, run_underlying hu, Result.andThen_ok]
    split
    · exact (h1 _ rfl).elim
    · exact (h2 _ _ rfl).elim
    · rfl
  · cases h
noncomputable def exLoadL (P : Program) (T : Tr EV) (t : TypeId) (x : Operand) (H : Tr EK) : Option EV := match exVal T x with
  | some (.ptr i off) => match cellsAt H i with
    | some (_, cs, _) => match aggOf P t with
      | some none => lget cs off
      | some (some m) => bc (Nat.ble (Nat.add off m) (llen cs)) (some (packE ((cs.drop off).take m))) none
      | none => none
    | none => none
  | _ => none
theorem exLoadL_ok (hT : TOk γ T tmps) (hH : HR γ w0 H n w) {t : TypeId} {x : Operand} {a : EV} (ho : o.op = .load t x) (h : exLoadL P T t x H = some a) : Gives P γ w0 w (execOp (opEval tmps) o) (some a) H n := by
  unfold exLoadL at h
  split at h
  case h_2 => cases h
  rename_i i off hx
  split at h
  case h_2 => cases h
  rename_i ty cs full hcs
  obtain ⟨b, m, hγ, he⟩ := ec_ptr (exVal_ok hT hx)
  obtain ⟨hg, b2, m2, c, hγ2, hb, hsz, hle, hfull, hc⟩ := cellsAt_ok hH hcs
  rw [hγ] at hγ2
  simp only [Option.some.injEq, Prod.mk.injEq] at hγ2
  obtain ⟨rfl, rfl⟩ := hγ2
  have hs2 : execOp (opEval tmps) o = (do pure (Next.value (← Instr.loadAt t (.pointer (some (b.at off))))) : Sem Next) := by
    unfold execOp; rw [ho]; simp only [he]
  split at h
  · rename_i hag
    rw [lget_eq] at h
    obtain ⟨y, hy, hcy⟩ := hc.at h
    have hcell : w.cell? (b.at off) = some y := by
      rw [(cell_of hb).1, ← Array.getElem?_toList]
      rw [List.getElem?_take] at hy
      split at hy
      · rw [List.getElem?_drop] at hy; exact hy
      · cases hy
    refine gives_value (x := y) ?_ hcy hH
    rw [hs2]
    refine run_v ?_
    simp [Instr.loadAt, Instr.sureAddr, loadVar, aggOf_one hag, load, Sem.run, hcell]
  · rename_i k hag
    rw [bc_eq] at h
    split at h
    · rename_i hlt
      injection h with h; subst h
      have hlt := Nat.le_of_ble_eq_true hlt
      rw [llen_eq] at hlt
      have hlt : off + k ≤ cs.length := hlt
      obtain ⟨hagg, inf, hi, hs⟩ := aggOf_agg hag
      have hL := (hc.drop off).take k
      refine gives_value (x := .agg ((((c.toList.drop b.s).take cs.length).drop off).take k).toArray) ?_ (packE_ok hL) hH
      rw [hs2]
      refine run_v ?_
      have hlen : ((((c.toList.drop b.s).take cs.length).drop off).take k).length = k := by simp; omega
      have hl := run_loadCells_list (P := P) w (b.at off) ((((c.toList.drop b.s).take cs.length).drop off).take k) fun q y hy => by
        rw [Pl.at_add, (cell_of hb).1, ← Array.getElem?_toList]
        rw [List.getElem?_take] at hy
        split at hy
        · rw [List.getElem?_drop, List.getElem?_take] at hy
          split at hy
          · rw [List.getElem?_drop] at hy; exact hy
          · cases hy
        · cases hy
      rw [hlen] at hl
      simp only [Instr.loadAt, Instr.sureAddr, loadVar, Sem.run_bind, Sem.run_pure, Result.andThen_ok, hagg w, if_true, sizeOf, typeInfo]
      simp [hi, hs, hl]
    · cases h
  · cases h
/-- a cell of many: at once -/
noncomputable def arrLoad (P : Program) (t : TypeId) (T : Tr EV) (off len : Nat) : Option EV := match aggOf P t with
  | some none => bc (Nat.blt off len) (T.get off) none
  | _ => none
noncomputable def ptrLoad (P : Program) (t : TypeId) (i off : Nat) (H : Tr EK) : Option EV := match H.get i with
  | some (.arr _ T len) => arrLoad P t T off len
  | _ => none
noncomputable def fastLoad (P : Program) (T : Tr EV) (t : TypeId) (x : Operand) (H : Tr EK) : Option EV := match exVal T x with
  | some (.ptr i off) => ptrLoad P t i off H
  | _ => none
noncomputable def exLoad (P : Program) (T : Tr EV) (t : TypeId) (x : Operand) (H : Tr EK) : Option EV := match fastLoad P T t x H with
  | some a => some a
  | none => exLoadL P T t x H
theorem fastLoad_ok (hT : TOk γ T tmps) (hH : HR γ w0 H n w) {t : TypeId} {x : Operand} {a : EV} (ho : o.op = .load t x) (h : fastLoad P T t x H = some a) : Gives P γ w0 w (execOp (opEval tmps) o) (some a) H n := by
  unfold fastLoad at h
  split at h
  case h_2 => cases h
  rename_i i off hx
  unfold ptrLoad at h
  split at h
  case h_2 => cases h
  rename_i ty T' len hg
  unfold arrLoad at h
  split at h
  case h_2 => cases h
  rename_i hag
  rw [bc_eq] at h
  split at h
  case isFalse => cases h
  rename_i hlt
  have hlt : off < len := by unfold Nat.blt at hlt; exact Nat.le_of_ble_eq_true hlt
  obtain ⟨b, m, hγ, he⟩ := ec_ptr (exVal_ok hT hx)
  obtain ⟨b2, m2, hγ2, _, c, h2, h3, h4, h5⟩ := hH.hp i _ hg
  rw [hγ] at hγ2
  simp only [Option.some.injEq, Prod.mk.injEq] at hγ2
  obtain ⟨rfl, rfl⟩ := hγ2
  obtain ⟨y, hy, hcy⟩ := h5 off a hlt h
  have hs2 : execOp (opEval tmps) o = (do pure (Next.value (← Instr.loadAt t (.pointer (some (b.at off))))) : Sem Next) := by
    unfold execOp; rw [ho]; simp only [he]
  have hcell : w.cell? (b.at off) = some y := by rw [(cell_of h2).1]; exact hy
  refine gives_value (x := y) ?_ hcy hH
  rw [hs2]
  refine run_v ?_
  simp [Instr.loadAt, Instr.sureAddr, loadVar, aggOf_one hag, load, Sem.run, hcell]
theorem exLoad_ok (hT : TOk γ T tmps) (hH : HR γ w0 H n w) {t : TypeId} {x : Operand} {a : EV} (ho : o.op = .load t x) (h : exLoad P T t x H = some a) : Gives P γ w0 w (execOp (opEval tmps) o) (some a) H n := by
  unfold exLoad at h
  split at h
  · rename_i b hb
    injection h with h; subst h
    exact fastLoad_ok hT hH ho hb
  · exact exLoadL_ok hT hH ho h
end Go.Proofs.Ytcgopcfbgkhpgaa.Ev
