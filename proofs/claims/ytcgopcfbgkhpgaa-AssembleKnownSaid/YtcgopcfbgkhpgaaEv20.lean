/- The reckoner: one operation of a region, in any order. No program is named. -/
import Derived.Test.YtcgopcfbgkhpgaaEv19
namespace Go.Proofs.Ytcgopcfbgkhpgaa.Ev
open Go.RowKit
variable {P : Program} {γ γ' : G} {w0 : Bs} {w : World} {H H' : Tr EK} {n n' : Nat} {T T0 : Tr EV} {cs : List Frame} {fid : FuncId} {FT : Tr FI} {o : Oper}

/-! ### tables with the same entries; a part of the memory -/
def Bs.withRes (B : Bs) (r : Nat → Prop) : Bs := ⟨B.w, B.F, B.lt, r⟩
theorem HR.reserve {r : Nat → Prop} (h : HR γ w0 H n w) (hr : ∀ i, r i → γ i = none ∧ i < n) : HR γ (w0.withRes r) H n w :=
  ⟨h.hp, h.inj, h.fresh, hr, h.lt, ⟨h.stays.os, h.stays.tape, h.stays.output, h.stays.size, h.stays.block⟩⟩
/-- a base on which the rest of the memory is left alone -/
def HR.part (h : HR γ w0 H n w) (K : Tr EK) : Bs := ⟨w, fun c => w0.F c ∨ ∃ (b : Nat) (k : EK) (m : Nat) (p : Pl), H.get b = some k ∧ K.get b = none ∧ γ b = some (p, m) ∧ p.k = c, fun c hc => by
  rcases hc with hc | ⟨b, k, m, p, _, _, hc, rfl⟩
  · have h1 := w0.lt c hc
    have h2 := h.stays.size
    omega
  · exact h.lt b _ hc, w0.res⟩
theorem HR.partOk (h : HR γ w0 H n w) {K : Tr EK} (hK : ∀ b k, K.get b = some k → H.get b = some k) : HR γ (h.part K) K n w := by
  refine ⟨fun i k hk => ?_, fun i j ki kj hi hj => h.inj i j ki kj (hK _ _ hi) (hK _ _ hj), h.fresh, h.rsv, h.lt, ⟨rfl, rfl, rfl, Nat.le_refl _, fun _ _ => rfl⟩⟩
  obtain ⟨b, m, h1, h2, h3⟩ := h.hp i k (hK _ _ hk)
  refine ⟨b, m, h1, fun hf => ?_, h3⟩
  rcases hf with hf | ⟨b2, k2, m2, p2, e1, e2, e3, e4⟩
  · exact h2 hf
  · have hne : i ≠ b2 := fun e => by subst e; rw [hk] at e2; cases e2
    exact h.inj i b2 k k2 (hK _ _ hk) e1 hne _ _ h1 e3 e4.symm
theorem HR.whole (h : HR γ w0 H n w) {K K' H' : Tr EK} {w' : World} (hle : GLe γ γ') (h' : HR γ' (h.part K) K' n' w') (e : ∀ b k, H'.get b = some k → K'.get b = some k ∨ (K.get b = none ∧ H.get b = some k)) : HR γ' w0 H' n' w' := by
  have old : ∀ b k, K.get b = none → H.get b = some k → ∃ (c : Pl) (m : Nat), γ b = some (c, m) ∧ γ' b = some (c, m) ∧ ¬ w0.F c.k ∧ (h.part K).F c.k ∧ k.ok γ' c m w' := fun b k hb hk => by
    obtain ⟨c, m, h1, h2, h3⟩ := h.hp b k hk
    have hf : (h.part K).F c.k := .inr ⟨b, k, m, c, hk, hb, h1, rfl⟩
    exact ⟨c, m, h1, hle _ _ h1, h2, hf, EK.ok_mono hle (h'.stays.block c.k hf) h3⟩
  refine ⟨fun i k hk => ?_, fun i j ki kj hi hj hne bi bj ei ej => ?_, h'.fresh, h'.rsv, h'.lt, ?_⟩
  · rcases e i k hk with h1 | ⟨h1, h2⟩
    · obtain ⟨b, m, g1, g2, g3⟩ := h'.hp i k h1
      exact ⟨b, m, g1, fun hf => g2 (.inl hf), g3⟩
    · obtain ⟨c, m, _, g1, g2, _, g3⟩ := old i k h1 h2
      exact ⟨c, m, g1, g2, g3⟩
  · rcases e i ki hi with h1 | ⟨h1, h2⟩
    · rcases e j kj hj with h3 | ⟨h3, h4⟩
      · exact h'.inj i j ki kj h1 h3 hne bi bj ei ej
      · obtain ⟨c, m, _, g1, _, g3, _⟩ := old j kj h3 h4
        obtain ⟨b, m2, q1, q2, _⟩ := h'.hp i ki h1
        rw [q1] at ei; injection ei with ei; subst ei
        rw [g1] at ej; injection ej with ej; subst ej
        exact fun e => q2 (by rw [show b.k = c.k from e]; exact g3)
    · rcases e j kj hj with h3 | ⟨h3, h4⟩
      · obtain ⟨c, m, _, g1, _, g3, _⟩ := old i ki h1 h2
        obtain ⟨b, m2, q1, q2, _⟩ := h'.hp j kj h3
        rw [q1] at ej; injection ej with ej; subst ej
        rw [g1] at ei; injection ei with ei; subst ei
        exact fun e => q2 (by rw [show b.k = c.k from e.symm]; exact g3)
      · obtain ⟨c, m, g0, g1, _, _, _⟩ := old i ki h1 h2
        obtain ⟨c2, m2, q0, q1, _, _, _⟩ := old j kj h3 h4
        rw [g1] at ei; injection ei with ei; subst ei
        rw [q1] at ej; injection ej with ej; subst ej
        exact h.inj i j ki kj h2 h4 hne _ _ g0 q0
  · exact ⟨h'.stays.os.trans h.stays.os, h'.stays.tape.trans h.stays.tape, h'.stays.output.trans h.stays.output, Nat.le_trans h.stays.size h'.stays.size, fun k hk => (h'.stays.block k (.inl hk)).trans (h.stays.block k hk)⟩
/-- a new block for a number that was kept for it -/
theorem HR.newAt (h : HR γ w0 H n w) {r : Nat} (hr : γ r = none) (hrn : r < n) (hr2 : Nat.ble r 65535 = true) {res : Nat → Prop} (hres : ∀ i, res i → w0.res i ∧ i ≠ r) {o : Obj} {m : Nat} {k : EK} (hk : k.ok (γ.upd r (⟨w.heap.size, 0⟩, m)) ⟨w.heap.size, 0⟩ m (w.alloc o)) :
    HR (γ.upd r (⟨w.heap.size, 0⟩, m)) (w0.withRes res) (H.put r (some k)) n (w.alloc o) := by
  have hle : GLe γ (γ.upd r (⟨w.heap.size, 0⟩, m)) := G.upd_le hr
  have hh : (w.alloc o).heap = w.heap.push o := rfl
  have hold : ∀ b, b < w.heap.size → (w.alloc o).heap[b]? = w.heap[b]? := fun b hb => by rw [hh, Array.getElem?_push_lt hb]; simp [hb]
  refine ⟨fun i ki hi => ?_, fun i j ki kj hi hj hne bi bj ei ej => ?_, fun i hi => ?_, fun i hi => ?_, fun i p e => ?_, ?_⟩
  · rw [Tr.get_put hr2] at hi
    by_cases e : i = r
    · rw [if_pos e] at hi; injection hi with hi; subst hi; subst e
      exact ⟨_, _, G.upd_same, h.notF (Nat.le_refl _), hk⟩
    · rw [if_neg e] at hi
      obtain ⟨b, m', h1, h2, h3⟩ := h.hp i ki hi
      exact ⟨b, m', hle _ _ h1, h2, EK.ok_mono hle (hold b.k (h.lt i _ h1)) h3⟩
  · rw [Tr.get_put hr2] at hi hj
    by_cases e : i = r
    · rw [e, G.upd_same] at ei; injection ei with ei; subst ei
      rw [if_neg (fun e2 => hne (e.trans e2.symm))] at hj
      rw [G.upd_ne (fun e2 => hne (e.trans e2.symm))] at ej
      have := h.lt j _ ej
      show w.heap.size ≠ bj.1.k
      omega
    · rw [if_neg e] at hi
      rw [G.upd_ne e] at ei
      by_cases e2 : j = r
      · rw [e2, G.upd_same] at ej; injection ej with ej; subst ej
        have := h.lt i _ ei
        show bi.1.k ≠ w.heap.size
        omega
      · rw [if_neg e2] at hj
        rw [G.upd_ne e2] at ej
        exact h.inj i j ki kj hi hj hne bi bj ei ej
  · rw [G.upd_ne (by omega)]; exact h.fresh i hi
  · obtain ⟨r1, r2⟩ := hres i hi
    obtain ⟨r3, r4⟩ := h.rsv i r1
    exact ⟨by rw [G.upd_ne r2]; exact r3, r4⟩
  · rw [hh, Array.size_push]
    by_cases e2 : i = r
    · rw [e2, G.upd_same] at e; injection e with e; subst e; show w.heap.size < _; omega
    · rw [G.upd_ne e2] at e; have := h.lt i p e; omega
  · refine ⟨h.stays.os, h.stays.tape, h.stays.output, by have := h.stays.size; rw [hh, Array.size_push]; exact Nat.le_succ_of_le this, fun k hk => ?_⟩
    have h1 := w0.lt k hk
    have h2 := h.stays.size
    rw [hold k (by omega)]; exact h.stays.block k hk
theorem md_cases (D : Nat → Bool) : ∀ (l : List Rec) (k : Nat) (acc : Mm), (md D l k acc = acc ∧ ∀ j r, l[j]? = some r → r.L = true → D (k + j) = false) ∨
    ∃ q r, l[q]? = some r ∧ r.L = true ∧ D (k + q) = true ∧ (∀ j r', q < j → l[j]? = some r' → r'.L = true → D (k + j) = false) ∧ md D l k acc = r.M
  | [], k, acc => .inl ⟨rfl, fun j r h => by simp at h⟩
  | p :: l, k, acc => by
    rw [md_cons]
    rcases md_cases D l (k + 1) (if D k = true ∧ p.L = true then p.M else acc) with ⟨h1, h2⟩ | ⟨q, r, h1, h2, h3, h4, h5⟩
    · by_cases hp : D k = true ∧ p.L = true
      · refine .inr ⟨0, p, rfl, hp.2, hp.1, fun j r' hj hr hl => ?_, by rw [h1, if_pos hp]⟩
        obtain ⟨j', rfl⟩ : ∃ j', j = j' + 1 := ⟨j - 1, by omega⟩
        have := h2 j' r' (by simpa using hr) hl
        rwa [show k + (j' + 1) = k + 1 + j' by omega]
      · refine .inl ⟨by rw [h1, if_neg hp], fun j r hj hl => ?_⟩
        cases j with
        | zero =>
          simp at hj; subst hj
          cases hD : D k with
          | true => exact absurd ⟨hD, hl⟩ hp
          | false => simp
        | succ j' =>
          have := h2 j' r (by simpa using hj) hl
          rwa [show k + (j' + 1) = k + 1 + j' by omega]
    · refine .inr ⟨q + 1, r, by simpa using h1, h2, by rwa [show k + (q + 1) = k + 1 + q by omega], fun j r' hj hr hl => ?_, h5⟩
      obtain ⟨j', rfl⟩ : ∃ j', j = j' + 1 := ⟨j - 1, by omega⟩
      have := h4 j' r' (by omega) (by simpa using hr) hl
      rwa [show k + (j' + 1) = k + 1 + j' by omega]
/-- the run in the text's order, and what it says of all orders -/
structure Run (P : Program) (sub : Sub) (q : QF) (RO : Tr (TypeId × SyC)) (ops : Array Oper) (A : List Nat) (T0 : Tr EV) (n0 : Nat) (M0 : Mm) (R : List Rec) : Prop where
  st : Stat ops A
  len : R.length = ops.size
  room : n0 + ops.size ≤ 65536
  a0 : M0.a = 0
  free : ∀ (j : Nat) (r : Rec) (c : EK), R[j]? = some r → r.Fr = some c → M0.H.get (n0 + j) = none ∧ ∀ (q : Nat) (rq : Rec), R[q]? = some rq → rq.L = true → tb rq.M.a j = false → rq.M.H.get (n0 + j) = none
  freeM : ∀ (j : Nat) (r : Rec), R[j]? = some r → r.Mp = true → M0.H.get (n0 + j) = none ∧ ∀ (q : Nat) (rq : Rec), R[q]? = some rq → rq.L = true → rq.M.H.get (n0 + j) = none
  insok : ∀ (i : Nat) (r : Rec) (j : Nat) (d : TypeDesc) (k : Value) (a : EV), R[i]? = some r → r.In = some (j, d, k, a) → (∃ rj, R[j]? = some rj ∧ rj.Mp = true) ∧ tb (atA A i) j = true ∧
    ∀ (z : Nat) (rz : Rec) (d' : TypeDesc) (k' : Value) (a' : EV), R[z]? = some rz → rz.In = some (j, d', k', a') → isKeyB d k' = true ∧ (z ≠ i → kEq d k k' = false)
  step : ∀ i o, ops[i]? = some o → ∃ r, R[i]? = some r ∧ exRec P sub q ops A T0 n0 (R.take i) i o (memAt M0 R i) = some r
  loud : ∀ i j ri rj, j < i → R[i]? = some ri → R[j]? = some rj → ri.L = true → rj.L = true → tb (atA A i) j = true
  quiet : ∀ i o r, ops[i]? = some o → R[i]? = some r → quiet o.op = true → exGuard (tabAt ops A T0 (R.take i) i o) ops o = some true → exFr P (tabAt ops A T0 (R.take i) i o) o (n0 + i) = none →
    exIns P (tabAt ops A T0 (R.take i) i o) o n0 = none → ∀ D : Nat → Bool, Good A ops.size D → (∀ j, tb (atA A i) j = true → D j = true) → D i = false → q (tabAt ops A T0 (R.take i) i o) o (vis A n0 (R.take i) i (md D R 0 M0)) (md D R 0 M0).n = some r.V
  qok : ∀ (i : Nat) (o : Oper), ops[i]? = some o → Ev.quiet o.op = true → exGuard (tabAt ops A T0 (R.take i) i o) ops o = some true → ∀ (γ : G) (w0 : Bs) (w : World) (tmps : Array Value) (H : Tr EK) (n : Nat) (a : EV), ROk γ w0 RO → TOk γ (tabAt ops A T0 (R.take i) i o) tmps → HR γ w0 H n w → q (tabAt ops A T0 (R.take i) i o) o H n = some a →
    ∃ γ' w' x, GLe γ γ' ∧ HR γ' w0 H n w' ∧ (execOp (opEval tmps) o).run P w = .ok (.value x) w' ∧ EC γ' a x
theorem ROk.part {RO : Tr (TypeId × SyC)} (h : HR γ w0 H n w) (hR : ROk γ w0 RO) (K : Tr EK) : ROk γ (h.part K) RO := fun i ty c hi => by
  obtain ⟨b, m, ca, fz, h1, h2, h3, h4, h5, h6⟩ := hR i ty c hi
  exact ⟨b, m, ca, fz, h1, .inl h2, (h.stays.block _ h2).trans h3, h4, h5, h6⟩
theorem ROk.res {RO : Tr (TypeId × SyC)} (hR : ROk γ w0 RO) (r : Nat → Prop) : ROk γ (w0.withRes r) RO := hR
/-- the memory behind D -/
noncomputable def KD (D : Nat → Bool) (n0 : Nat) (R : List Rec) (M0 : Mm) : Tr EK := fT (mpF D R) n0 R 0 <| frT (fun j => bc (tb (md D R 0 M0).a j) false (D j)) n0 R 0 (md D R 0 M0).H
def HD (γ : G) (w0 : Bs) (m : Nat) (D : Nat → Bool) (n0 : Nat) (R : List Rec) (M0 : Mm) (w : World) : Prop := HR γ (w0.withRes fun i => w0.res i ∨ ∃ j, j < m ∧ D j = false ∧ i = n0 + j) (KD D n0 R M0) (md D R 0 M0).n w
def TD (γ : G) (ops : Array Oper) (T0 : Tr EV) (R : List Rec) (D : Nat → Bool) (tmps : Array Value) : Prop := ∀ s a, lw D s (ops.toList.zip R) 0 (T0.get s) = some a → ∃ x, tmps[s]? = some x ∧ EC γ a x
def ins (D : Nat → Bool) (i : Nat) : Nat → Bool := fun j => if j = i then true else D j
theorem zip_get {ops : Array Oper} {R : List Rec} {j : Nat} {p : Oper × Rec} : (ops.toList.zip R)[j]? = some p ↔ ops[j]? = some p.1 ∧ R[j]? = some p.2 := by
  rw [List.getElem?_zip_eq_some]; simp
theorem exRec_keeps {sub : Sub} {q : QF} {ops : Array Oper} {A : List Nat} {T0 : Tr EV} {n0 : Nat} {R : List Rec} {i : Nat} {M : Mm} {r : Rec} (h : exRec P sub q ops A T0 n0 R i o M = some r) (hl : r.L = false) : r.M = M := by
  unfold exRec at h
  split at h
  · injection h with h; subst h; rfl
  · split at h
    · injection h with h; subst h; exact recFr_L.2.2.1
    · split at h
      · injection h with h; subst h; rfl
      · rw [bc_eq] at h
        split at h
        · split at h
          · injection h with h; subst h; rfl
          · cases h
        · split at h
          · injection h with h; subst h; cases hl
          · cases h
  · cases h
theorem exRec_loud {sub : Sub} {q : QF} {ops : Array Oper} {A : List Nat} {T0 : Tr EV} {n0 : Nat} {R : List Rec} {i : Nat} {M : Mm} {r : Rec} (h : exRec P sub q ops A T0 n0 R i o M = some r) (hl : r.L = true) : r.M.a = atA A i ∧ r.Fr = none := by
  unfold exRec at h
  split at h
  · injection h with h; subst h; cases hl
  · split at h
    · injection h with h; subst h; rw [recFr_L.1] at hl; cases hl
    · split at h
      · injection h with h; subst h; cases hl
      · rw [bc_eq] at h
        split at h
        · split at h
          · injection h with h; subst h; cases hl
          · cases h
        · split at h
          · injection h with h; subst h; exact ⟨rfl, rfl⟩
          · cases h
  · cases h
/-- what made a map made nothing else -/
theorem exRec_mp {sub : Sub} {q : QF} {ops : Array Oper} {A : List Nat} {T0 : Tr EV} {n0 : Nat} {R : List Rec} {i : Nat} {M : Mm} {r : Rec} (h : exRec P sub q ops A T0 n0 R i o M = some r) (hm : r.Mp = true) : r.Fr = none ∧ r.In = none := by
  unfold exRec at h
  split at h
  · injection h with h; subst h; cases hm
  · split at h
    · rename_i a c _
      injection h with h; subst h
      refine ⟨?_, recFr_L.2.2.2⟩
      unfold recFr at hm ⊢
      split
      · rfl
      · rename_i hne
        cases c <;> first | exact absurd rfl (hne _) | (simp only at hm; cases hm)
    · split at h
      · injection h with h; subst h; cases hm
      · rw [bc_eq] at h
        split at h
        · split at h
          · injection h with h; subst h; cases hm
          · cases h
        · split at h
          · injection h with h; subst h; cases hm
          · cases h
  · cases h
theorem zip_take {α β : Type} : ∀ (l : List α) (R : List β) (i : Nat), l.zip (R.take i) = (l.zip R).take i
  | [], _, _ => by simp
  | _ :: _, [], _ => by simp
  | _ :: _, _ :: _, 0 => by simp
  | a :: l, b :: R, i + 1 => by simp [zip_take l R i]
theorem split_at {α : Type} {l : List α} {i : Nat} {r : α} (h : l[i]? = some r) : l = l.take i ++ r :: l.drop (i + 1) ∧ (l.take i).length = i := by
  obtain ⟨hlt, he⟩ := List.getElem?_eq_some_iff.1 h
  refine ⟨?_, by simp; omega⟩
  rw [← he, ← List.drop_eq_getElem_cons hlt, List.take_append_drop]
/-- the memory behind D and one more -/
theorem md_ins {D : Nat → Bool} {R : List Rec} {M0 : Mm} {i : Nat} {r : Rec} (hr : R[i]? = some r) (hl : r.L = true) (hD : ∀ j rj, i < j → R[j]? = some rj → rj.L = true → D j = false) (hi : D i = true) : md D R 0 M0 = r.M := by
  obtain ⟨e1, e2⟩ := split_at hr
  rw [e1, md_append, md_cons, e2, Nat.zero_add, if_pos ⟨hi, hl⟩]
  refine md_none fun j p hj hp => hD _ p (by omega) ?_ hp
  rw [List.getElem?_drop] at hj; exact hj
section
variable {sub : Sub} {q : QF} {RO : Tr (TypeId × SyC)} {ops : Array Oper} {A : List Nat} {n0 : Nat} {M0 : Mm} {R : List Rec} (hR : Run P sub q RO ops A T0 n0 M0 R)
include hR
theorem Run.mem (i : Nat) (hi : i ≤ ops.size) : memAt M0 R i = md (fun j => decide (j < i)) R 0 M0 := by
  induction i with
  | zero => rw [md_none (fun j p _ _ => by simp)]; rfl
  | succ i ih =>
    have hlt : i < ops.size := by omega
    obtain ⟨r, hr, hx⟩ := hR.step i ops[i] (by simp [hlt])
    have e0 : memAt M0 R (i + 1) = r.M := by simp [memAt, hr]
    rw [e0]
    by_cases hl : r.L = true
    · exact (md_ins hr hl (fun j rj hj _ _ => by simp; omega) (by simp)).symm
    · have hl : r.L = false := by simpa using hl
      rw [exRec_keeps hx hl, ih (by omega)]
      refine md_congr fun j p hj hp => ?_
      by_cases e : j = i
      · subst e; rw [hr] at hj; injection hj with hj; subst hj; rw [hl] at hp; cases hp
      · simp; omega
/-- an operation's own slots, behind any set of operations -/
theorem Run.slots {D : Nat → Bool} (hg : Good A ops.size D) {i : Nat} {o : Oper} (ho : ops[i]? = some o) (hA : ∀ j, tb (atA A i) j = true → D j = true) (hn : D i = false) {s : Nat} (hs : s ∈ looks ops o) :
    lw (fun j => tb (atA A i) j) s (ops.toList.zip (R.take i)) 0 (T0.get s) = lw D s (ops.toList.zip R) 0 (T0.get s) := by
  have hi : i < ops.size := (Array.getElem?_eq_some_iff.1 ho).1
  have e : ops.toList.zip R = ops.toList.zip (R.take i) ++ (ops.toList.zip R).drop i := by
    rw [zip_take, List.take_append_drop]
  have hl : (ops.toList.zip (R.take i)).length = i := by simp [hR.len]; omega
  rw [e, lw_append, hl]
  rw [lw_none (l := (ops.toList.zip R).drop i)]
  · refine lw_congr fun j p hj hd => ?_
    obtain ⟨h1, h2⟩ := zip_get.1 hj
    have hji : j < i := by
      rw [List.getElem?_take] at h2
      split at h2
      · assumption
      · cases h2
    rw [Nat.zero_add]
    by_cases hb : tb (atA A i) j = true
    · rw [hb, hA j hb]
    · have hb2 : tb (atA A i) j = false := by simpa using hb
      rw [hb2]
      rcases hR.st.slot i o ho s hs j p.1 h1 hd with h3 | h3 | h3
      · exact absurd h3 hb
      · cases hD : D j with
        | false => rfl
        | true => have := hg j (by omega) hD i h3; rw [hn] at this; cases this
      · omega
  · intro j p hj hd
    rw [List.getElem?_drop] at hj
    obtain ⟨h1, h2⟩ := zip_get.1 hj
    rw [Nat.zero_add]
    have hlt : i + j < ops.size := (Array.getElem?_eq_some_iff.1 h1).1
    rcases hR.st.slot i o ho s hs (i + j) p.1 h1 hd with h3 | h3 | h3
    · have := hR.st.below i o ho _ h3; omega
    · cases hD : D (i + j) with
      | false => rfl
      | true => have := hg _ hlt hD i h3; rw [hn] at this; cases this
    · rw [h3]; exact hn
end
end Go.Proofs.Ytcgopcfbgkhpgaa.Ev
