/- The reckoner: the run of a drawn region in the order of the text, with one table of slots that is carried on. No program is named. -/
import Derived.Test.YtcgopcfbgkhpgaaEv22
namespace Go.Proofs.Ytcgopcfbgkhpgaa.Ev
open Go.RowKit
variable {P : Program} {γ γ' : G} {w0 : Bs} {w : World} {H H' : Tr EK} {n n' : Nat} {T T0 : Tr EV} {cs : List Frame} {fid : FuncId} {FT : Tr FI} {o : Oper}

noncomputable def tabT (ops : Array Oper) (T : Tr EV) (o : Oper) : Tr EV := restr (fun s => T.get s) (looks ops o)
theorem restr_congr {f g : Nat → Option EV} : ∀ {l : List Nat}, (∀ s ∈ l, f s = g s) → restr f l = restr g l
  | [], _ => rfl
  | s :: l, h => by
    show bc (Nat.ble s 65535) (match f s with
      | some a => (restr f l).put s (some a)
      | none => restr f l) (restr f l) = bc (Nat.ble s 65535) (match g s with
      | some a => (restr g l).put s (some a)
      | none => restr g l) (restr g l)
    rw [h s (by simp), restr_congr (l := l) fun t ht => h t (by simp [ht])]
noncomputable def exRecT (P : Program) (sub : Sub) (q : QF) (ops : Array Oper) (Ti : Tr EV) (A : List Nat) (n0 : Nat) (V : Tr EK) (i : Nat) (o : Oper) (M : Mm) : Option Rec := match exGuard Ti ops o with
  | some false => some ⟨.v undef, false, M, none, false, none⟩
  | some true => match exFr P Ti o (Nat.add n0 i) with
    | some (a, c) => some (recFr M a c)
    | none => match exIns P Ti o n0 with
      | some u => some ⟨.v undef, false, M, none, false, some u⟩
      | none => bc (quiet o.op) (match q Ti o V M.n with
        | some a => some ⟨a, false, M, none, false, none⟩
        | none => none) (match exLoud P sub Ti o V M.n with
        | some (a, H, n) => some ⟨a, true, ⟨H, n, atA A i⟩, none, false, none⟩
        | none => none)
  | none => none
theorem exRec_T {sub : Sub} {q : QF} {ops : Array Oper} {A : List Nat} {n0 : Nat} {R : List Rec} {i : Nat} {M : Mm} : exRec P sub q ops A T0 n0 R i o M = exRecT P sub q ops (tabAt ops A T0 R i o) A n0 (vis A n0 R i M) i o M := rfl
/-- the new blocks, with the numbers of their operations -/
def frl : List Rec → Nat → List (Nat × EK)
  | [], _ => []
  | r :: R, k => match r.Fr with
    | some c => (k, c) :: frl R (k + 1)
    | none => frl R (k + 1)
noncomputable def frF (D : Nat → Bool) (n0 : Nat) (Fl : List (Nat × EK)) : Tr EK → Tr EK := List.rec (fun H => H) (fun p _ ih H => ih (bc (D p.1) (H.put (Nat.add n0 p.1) (some p.2)) H)) Fl
theorem frF_eq {D : Nat → Bool} {n0 : Nat} : ∀ {R : List Rec} {k : Nat} {H : Tr EK}, frF D n0 (frl R k) H = frT D n0 R k H
  | [], k, H => rfl
  | r :: R, k, H => by
    have e : frT D n0 (r :: R) k H = frT D n0 R (k + 1) (match r.Fr with
      | some c => bc (D k) (H.put (n0 + k) (some c)) H
      | none => H) := rfl
    rw [e]
    unfold frl
    cases hr : r.Fr with
    | none => exact frF_eq
    | some c => exact frF_eq (R := R) (k := k + 1) (H := bc (D k) (H.put (n0 + k) (some c)) H)
theorem frT_none {D : Nat → Bool} {n0 : Nat} : ∀ {R : List Rec} {k : Nat} {H : Tr EK}, (∀ j, k ≤ j → D j = false) → frT D n0 R k H = H
  | [], k, H, _ => rfl
  | r :: R, k, H, h => by
    have e : frT D n0 (r :: R) k H = frT D n0 R (k + 1) (match r.Fr with
      | some c => bc (D k) (H.put (n0 + k) (some c)) H
      | none => H) := rfl
    rw [e, frT_none fun j hj => h j (by omega)]
    cases r.Fr with
    | none => rfl
    | some c => simp only [h k (Nat.le_refl _)]; rfl
theorem frT_take {D : Nat → Bool} {n0 : Nat} : ∀ {R : List Rec} {m k : Nat} {H : Tr EK}, (∀ j, k + m ≤ j → D j = false) → frT D n0 (R.take m) k H = frT D n0 R k H
  | [], m, k, H, _ => by simp
  | r :: R, 0, k, H, h => by
    rw [List.take_zero, frT_none (R := r :: R) (fun j hj => h j (by omega))]; rfl
  | r :: R, m + 1, k, H, h => by
    rw [List.take_succ_cons]
    have e : ∀ R : List Rec, frT D n0 (r :: R) k H = frT D n0 R (k + 1) (match r.Fr with
      | some c => bc (D k) (H.put (n0 + k) (some c)) H
      | none => H) := fun _ => rfl
    rw [e, e]
    exact frT_take fun j hj => h j (by omega)
theorem frl_snoc : ∀ {R : List Rec} {r : Rec} {k : Nat}, frl (R ++ [r]) k = frl R k ++ (match r.Fr with
    | some c => [(k + R.length, c)]
    | none => [])
  | [], r, k => by
    simp only [List.nil_append, frl, List.length_nil, Nat.add_zero]
  | q :: R, r, k => by
    have ih := frl_snoc (R := R) (r := r) (k := k + 1)
    rw [show k + 1 + R.length = k + (q :: R).length by simp; omega] at ih
    rw [List.cons_append]
    unfold frl
    cases q.Fr with
    | none => exact ih
    | some c => simp only [ih, List.cons_append]
noncomputable def visF (A : List Nat) (n0 : Nat) (Fl : List (Nat × EK)) (i : Nat) (M : Mm) : Tr EK := frF (fun j => bc (tb M.a j) false (tb (atA A i) j)) n0 Fl M.H
theorem visF_eq {A : List Nat} {n0 : Nat} {R : List Rec} {i : Nat} {M : Mm} : visF A n0 (frl R 0) i M = vis A n0 R i M := frF_eq
theorem vis_take {ops : Array Oper} {A : List Nat} {n0 : Nat} {R : List Rec} {i : Nat} {M : Mm} (hst : Stat ops A) (ho : ops[i]? = some o) : vis A n0 (R.take i) i M = vis A n0 R i M := by
  unfold vis
  refine frT_take fun j hj => ?_
  have : tb (atA A i) j = false := by
    cases e : tb (atA A i) j with
    | false => rfl
    | true => have := hst.below i o ho j e; omega
  rw [this, bc_eq]
  split <;> rfl
noncomputable def revA {α : Type} (l : List α) : List α → List α := List.rec (fun acc => acc) (fun a _ ih acc => ih (a :: acc)) l
theorem revA_eq {α : Type} : ∀ (l acc : List α), revA l acc = l.reverse ++ acc
  | [], acc => rfl
  | a :: l, acc => by
    show revA l (a :: acc) = _
    rw [revA_eq l]; simp
/-- what a run leaves: the records, the slots, each operation's own table, the new blocks -/
structure CF where
  R : List Rec
  T : Tr EV
  Ts : List (Tr EV)
  Fl : List (Nat × EK)
noncomputable def addFr (Fl : List (Nat × EK)) (i : Nat) (c : Option EK) : List (Nat × EK) := match c with
  | some c => Fl ++ [(i, c)]
  | none => Fl
noncomputable def canonF (P : Program) (sub : Sub) (q : QF) (ops : Array Oper) (A : List Nat) (n0 N : Nat) (l : List Oper) : Nat → List Rec → List (Nat × EK) → Mm → Tr EV → List (Tr EV) → Option CF := List.rec (fun _ Rr Fl _ T Tr => some ⟨revA Rr [], T, revA Tr [], Fl⟩) (fun o _ ih i Rr Fl M T Tr => match exRecT P sub q ops (tabT ops T o) A n0 (visF A n0 Fl i M) i o M with
  | some r => match setD T N o.dst r.V with
    | some T' => ih (Nat.succ i) (r :: Rr) (addFr Fl i r.Fr) r.M T' (tabT ops T o :: Tr)
    | none => none
  | none => none) l
theorem setD_get {T' : Tr EV} {N : Nat} {d : Option Tmp} {a : EV} (h : setD T N d a = some T') : (∀ s, T'.get s = if d = some s then some a else T.get s) ∧ ∀ t, d = some t → t < N := by
  unfold setD at h
  split at h
  · injection h with h; subst h
    exact ⟨fun s => by simp, fun t e => by cases e⟩
  · rename_i d
    rw [bc_eq, bc_eq] at h
    split at h
    case isFalse => cases h
    rename_i h1
    split at h
    case isFalse => cases h
    rename_i h2
    injection h with h; subst h
    refine ⟨fun s => ?_, fun t e => by injection e with e; subst e; exact blt_lt h1⟩
    rw [Tr.get_put h2]
    by_cases e : s = d
    · subst e; simp
    · rw [if_neg e, if_neg (fun e2 => e (by injection e2 with e2; exact e2.symm))]
theorem zip_snoc {α β : Type} : ∀ {l : List α} {R : List β} {a : α} {b : β}, l[R.length]? = some a → l.zip (R ++ [b]) = l.zip R ++ [(a, b)]
  | [], R, a, b, h => by simp at h
  | x :: l, [], a, b, h => by simp at h; subst h; simp
  | x :: l, y :: R, a, b, h => by
    have := zip_snoc (l := l) (R := R) (a := a) (b := b) (by simpa using h)
    simp [this]
theorem canonF_ok {sub : Sub} {q : QF} {ops : Array Oper} {A : List Nat} {n0 N : Nat} (hst : Stat ops A) : ∀ {l : List Oper} {R : List Rec} {M : Mm} {T : Tr EV} {Ts : List (Tr EV)} {c : CF}, canonF P sub q ops A n0 N l R.length R.reverse (frl R 0) M T Ts.reverse = some c →
    (∀ j o, l[j]? = some o → ops[R.length + j]? = some o) → (∀ s, T.get s = lw (fun _ => true) s (ops.toList.zip R) 0 (T0.get s)) → Ts.length = R.length →
    canon P sub q ops A T0 n0 l R.length R M = some c.R ∧ (∀ s, c.T.get s = lw (fun _ => true) s (ops.toList.zip c.R) 0 (T0.get s)) ∧ (∀ o ∈ l, ∀ d, o.dst = some d → d < N) ∧ (∀ j, j < R.length → c.R[j]? = R[j]? ∧ c.Ts[j]? = Ts[j]?) ∧
      (∀ j o, l[j]? = some o → c.Ts[R.length + j]? = some (tabAt ops A T0 (c.R.take (R.length + j)) (R.length + j) o)) ∧ c.Fl = frl c.R 0
  | [], R, M, T, Ts, c, h, _, hT, _ => by
    have h' : some (⟨revA R.reverse [], T, revA Ts.reverse [], frl R 0⟩ : CF) = some c := h
    rw [revA_eq, revA_eq, List.reverse_reverse, List.reverse_reverse, List.append_nil, List.append_nil] at h'
    injection h' with h'; subst h'
    exact ⟨rfl, hT, fun o ho => by simp at ho, fun _ _ => ⟨rfl, rfl⟩, fun j o hj => by simp at hj, rfl⟩
  | o :: l, R, M, T, Ts, c, h, hl, hT, hlen => by
    have h' : (match exRecT P sub q ops (tabT ops T o) A n0 (visF A n0 (frl R 0) R.length M) R.length o M with
      | some r => match setD T N o.dst r.V with
        | some T' => canonF P sub q ops A n0 N l (R.length + 1) (r :: R.reverse) (addFr (frl R 0) R.length r.Fr) r.M T' (tabT ops T o :: Ts.reverse)
        | none => none
      | none => none) = some c := h
    rw [visF_eq] at h'
    have ho : ops[R.length]? = some o := by simpa using hl 0 o rfl
    -- the operation's own slots
    have htab : tabT ops T o = tabAt ops A T0 R R.length o := by
      unfold tabT tabAt
      refine restr_congr fun s hs => ?_
      rw [hT s]
      refine lw_congr fun j p hj hd => ?_
      obtain ⟨h1, h2⟩ := zip_get.1 hj
      have hjl : j < R.length := (List.getElem?_eq_some_iff.1 h2).1
      rw [Nat.zero_add]
      rcases hst.slot R.length o ho s hs j p.1 h1 hd with h3 | h3 | h3
      · exact h3.symm
      · have := hst.below j p.1 h1 _ h3; omega
      · omega
    rw [htab] at h'
    split at h'
    case h_2 => cases h'
    rename_i r hr
    split at h'
    case h_2 => cases h'
    rename_i T' hT'
    obtain ⟨g1, g2⟩ := setD_get hT'
    have hlen2 : (R ++ [r]).length = R.length + 1 := by simp
    have hfl : addFr (frl R 0) R.length r.Fr = frl (R ++ [r]) 0 := by
      rw [frl_snoc]
      unfold addFr
      cases r.Fr with
      | none => simp
      | some c => simp
    rw [hfl, show r :: R.reverse = (R ++ [r]).reverse by simp, show tabAt ops A T0 R R.length o :: Ts.reverse = (Ts ++ [tabAt ops A T0 R R.length o]).reverse by simp, ← hlen2] at h'
    have hz : ops.toList.zip (R ++ [r]) = ops.toList.zip R ++ [(o, r)] := zip_snoc (by simpa using ho)
    obtain ⟨k1, k2, k3, k4, k5, k6⟩ := canonF_ok hst h' (fun j o' hj => by
      have := hl (j + 1) o' (by simpa using hj)
      rwa [hlen2, show R.length + 1 + j = R.length + (j + 1) by omega]) (fun s => by
      rw [g1, hz, lw_append, hT]
      rw [lw_cons]
      by_cases e : o.dst = some s
      · rw [if_pos e, if_pos ⟨rfl, e⟩]; rfl
      · rw [if_neg e, if_neg (fun x => e x.2)]; rfl) (by simp [hlen])
    refine ⟨?_, k2, fun o' ho' d hd => ?_, fun j hj => ?_, fun j o' hj => ?_, k6⟩
    · show (match exRec P sub q ops A T0 n0 R R.length o M with
        | some r => canon P sub q ops A T0 n0 l (R.length + 1) (R ++ [r]) r.M
        | none => none) = some c.R
      rw [exRec_T, hr]
      simp only
      rw [← hlen2]
      exact k1
    · rcases List.mem_cons.1 ho' with rfl | ho'
      · exact g2 d hd
      · exact k3 o' ho' d hd
    · obtain ⟨q1, q2⟩ := k4 j (by omega)
      rw [List.getElem?_append_left hj] at q1
      rw [List.getElem?_append_left (by omega)] at q2
      exact ⟨q1, q2⟩
    · cases j with
      | zero =>
        simp at hj; subst hj
        obtain ⟨_, q2⟩ := k4 R.length (by omega)
        rw [List.getElem?_append_right (by omega), hlen, Nat.sub_self] at q2
        simp only [Nat.add_zero]
        rw [q2]
        have htake : c.R.take R.length = R := by
          apply List.ext_getElem?
          intro j
          rw [List.getElem?_take]
          by_cases hj : j < R.length
          · rw [if_pos hj, (k4 j (by omega)).1, List.getElem?_append_left hj]
          · rw [if_neg hj]; simp; omega
        rw [htake]; rfl
      | succ j =>
        have := k5 j o' (by simpa using hj)
        rwa [hlen2, show R.length + 1 + j = R.length + (j + 1) by omega] at this
end Go.Proofs.Ytcgopcfbgkhpgaa.Ev
