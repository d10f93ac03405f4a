/- Laid together: Common beginnings: plain. No program is named. The program's Common. The program's Common: what it answers. The program's Common and First, where the lists are the caller's own. The program's Common and First, where the lists are the caller's own: contracts. compare.without and Differ: contracts. Exchanges of crossings: plain. No program is named. Cloths with the same .. -/
import Derived.Shelf.Slices.CompactI
import Derived.Test.YtjlfedhkpdogbaaProg
import Derived.ProofKit
import Derived.ReadAgain
import Derived.OpenShut
import Derived.Test.YtjlfedhkpdogbaaBgM5
set_option linter.unusedSimpArgs false
set_option linter.unusedVariables false
namespace Go.Proofs.Ytjlfedhkpdogbaa.Ev

noncomputable def rA (r : List U) : List Int := List.map (fun r => U.int (List.headD r (U.i 0))) (U.list (r.getD 1 (U.i 0)))
noncomputable def nxtF (D : List Int) (R : List (List U)) (t : Int) : Int := bc (decide (0 ≤ D.getD t.toNat 0)) (bc (decide (D.getD t.toNat 0 < (rA (R.getD t.toNat [])).length)) ((rA (R.getD t.toNat [])).getD (D.getD t.toNat 0).toNat 0) (-1)) (-1)

noncomputable def atF (t : Int) : List (List U) → Nat → List Int
  | [], _ => []
  | r :: q, i => (bc (decide (xO r = t)) [(i : Int)] []) ++ (bc (decide (xU r = t)) [(i : Int)] []) ++ atF t q (i + 1)
theorem atF_len (t : Int) : ∀ (l : List (List U)) (i : Nat), (atF t l i).length ≤ 2 * l.length
  | [], _ => Nat.le_refl _
  | r :: q, i => by
    have := atF_len t q (i + 1); unfold atF; rw [List.length_append, List.length_append, List.length_cons]; cases decide (xO r = t) <;> cases decide (xU r = t) <;> simp [bc] <;> omega
theorem atF_mem {t : Int} : ∀ (l : List (List U)) (i : Nat) (a : Int), a ∈ atF t l i → ∃ k : Nat, a = (i + k : Nat) ∧ k < l.length ∧ (xO (l.getD k []) = t ∨ xU (l.getD k []) = t)
  | [], _, a, h => by cases h
  | r :: q, i, a, h => by
    unfold atF at h; rcases List.mem_append.1 h with h | h
    · rcases List.mem_append.1 h with h | h
      · by_cases e : xO r = t
        · rw [dt e, bc_t] at h; exact ⟨0, by simpa using h, by simp, .inl e⟩
        · rw [df e, bc_f] at h; cases h
      · by_cases e : xU r = t
        · rw [dt e, bc_t] at h; exact ⟨0, by simpa using h, by simp, .inr e⟩
        · rw [df e, bc_f] at h; cases h
    · obtain ⟨k, h1, h2, h3⟩ := atF_mem q (i + 1) a h; exact ⟨k + 1, by rw [h1]; congr 1; omega, by simp; omega, by simpa using h3⟩
theorem thF_at (t : Nat) : ∀ (l : List (List U)) (i : Nat) (T : Hs), t < T.length → (∀ r, r ∈ l → 0 ≤ xO r ∧ xO r < T.length ∧ 0 ≤ xU r ∧ xU r < T.length) → (getT (thF l i T) t).2 = (getT T t).2 ++ atF t l i
  | [], _, T, _, _ => by unfold thF atF; simp
  | r :: q, i, T, ht, hr => by
    have h1 := hr r List.mem_cons_self; unfold thF atF; rw [thF_at t q (i + 1) (upX T r i) (by rw [upX_len]; exact ht) (fun r' h' => by rw [upX_len]; exact hr r' (List.mem_cons_of_mem _ h'))]; unfold upX; rw [getT_add (by rw [addT_len]; omega), getT_add (by omega), getT_add (by omega)]; have e1 : decide (xO r = (t : Int)) = decide ((xO r).toNat = t) := by
      apply Bool.eq_iff_iff.2; simp only [decide_eq_true_eq]; omega
    have e2 : decide (xU r = (t : Int)) = decide ((xU r).toNat = t) := by
      apply Bool.eq_iff_iff.2; simp only [decide_eq_true_eq]; omega
    rw [e1, e2]
    by_cases a1 : (xO r).toNat = t <;> by_cases a2 : (xU r).toNat = t
    · have a3 : (xU r).toNat = (xO r).toNat := by omega
      simp [a1, a2, a3, bc]
    · have a3 : ¬ t = (xU r).toNat := fun e => a2 e.symm; simp [a1, a2, a3, bc]
    · have a3 : ¬ t = (xO r).toNat := fun e => a1 e.symm; have a4 : ¬ (xU r).toNat = (xO r).toNat := by omega
      simp [a1, a2, a3, a4, bc]
    · have a3 : ¬ t = (xO r).toNat := fun e => a1 e.symm; have a4 : ¬ t = (xU r).toNat := fun e => a2 e.symm; simp [a1, a2, a3, a4, bc]
theorem rowsA {n t : Nat} {X : List (List U)} (tx : thrs n X) (ht : t < n) : rA ((rowsT (thF X 0 (th0 n))).getD t []) = atF t X 0 := by
  have l0 : (th0 n).length = n := by unfold th0; simp
  have g0 : (getT (th0 n) t).2 = [] := by
    unfold getT th0; rw [List.getD_eq_getElem?_getD, List.getElem?_replicate, if_pos ht]; rfl
  have h1 := thF_at t X 0 (th0 n) (by omega) (fun r hr => by rw [l0]; exact tx r hr); rw [g0, List.nil_append] at h1; unfold rA; rw [getA (by rw [thF_len, l0]; exact ht), mapA, h1]
noncomputable def comB (Y R : List (List U)) (D : List Int) (r : List U) : Bool := bc (decide (nxtF D R (xO r) < 0)) false (bc (nxtF D R (xO r) != nxtF D R (xU r)) false (bc (xO (Y.getD (nxtF D R (xO r)).toNat []) != xO r) false true))
noncomputable def incD (D : List Int) (j : Nat) : List Int := D.set j (D.getD j 0 + 1)
noncomputable def stepD (b : Bool) (D : List Int) (r : List U) : List Int := bc b (incD (incD D (xO r).toNat) (xU r).toNat) ((D.set (xO r).toNat (-1)).set (xU r).toNat (-1))
noncomputable def comF (Y R : List (List U)) : List (List U) → Nat → List Int → List Int × List Int
  | [], _, _ => ([], [])
  | r :: q, i, D => bc (comB Y R D r) ((i : Int) :: (comF Y R q (i + 1) (stepD (comB Y R D r) D r)).1, nxtF D R (xO r) :: (comF Y R q (i + 1) (stepD (comB Y R D r) D r)).2) (comF Y R q (i + 1) (stepD (comB Y R D r) D r))
theorem incD_len (D : List Int) (j : Nat) : (incD D j).length = D.length := by unfold incD; simp
theorem stepD_len (b : Bool) (D : List Int) (r : List U) : (stepD b D r).length = D.length := by
  unfold stepD; cases b
  · rw [bc_f]; simp
  · rw [bc_t, incD_len, incD_len]

def Cnt (D : List Int) (b : Int) : Prop := ∀ j : Nat, -1 ≤ D.getD j 0 ∧ D.getD j 0 ≤ b
theorem Cnt.set {D : List Int} {b c x : Int} {j : Nat} (h : Cnt D b) (h1 : -1 ≤ x) (h2 : x ≤ c) (h3 : b ≤ c) : Cnt (D.set j x) c := fun k => by
  rw [List.getD_eq_getElem?_getD, List.getElem?_set]; have := h k; split
  · split
    · simp; omega
    · simp; have := h D.length; rw [List.getD_eq_getElem?_getD, List.getElem?_eq_none (Nat.le_refl _)] at this; simp at this; omega
  · rw [← List.getD_eq_getElem?_getD]; omega
theorem Cnt.inc {D : List Int} {b : Int} {j : Nat} (h : Cnt D b) (hb : 0 ≤ b) : Cnt (incD D j) (b + 1) := by
  have := h j; exact h.set (by omega) (by omega) (by omega)
theorem Cnt.step {D : List Int} {b : Int} {q : Bool} {r : List U} (h : Cnt D b) (hb : 0 ≤ b) : Cnt (stepD q D r) (b + 2) := by
  unfold stepD; cases q
  · rw [bc_f]; exact (h.set (c := b) (by omega) (by omega) (by omega)).set (by omega) (by omega) (by omega)
  · rw [bc_t]; have := (h.inc (j := (xO r).toNat) hb).inc (j := (xU r).toNat) (by omega); rw [show b + 2 = b + 1 + 1 by omega]; exact this
theorem nxtF_at {n t : Nat} {D : List Int} {Y : List (List U)} (ty : thrs n Y) (ht : t < n) : nxtF D (rowsT (thF Y 0 (th0 n))) t = bc (decide (0 ≤ D.getD t 0)) (bc (decide (D.getD t 0 < (atF t Y 0).length)) ((atF t Y 0).getD (D.getD t 0).toNat 0) (-1)) (-1) := by
  unfold nxtF; rw [show ((t : Int)).toNat = t from rfl, rowsA ty ht]
theorem nxtF_lt {n t : Nat} {D : List Int} {Y : List (List U)} (ty : thrs n Y) (ht : t < n) : nxtF D (rowsT (thF Y 0 (th0 n))) t < 0 ∨ ∃ k : Nat, nxtF D (rowsT (thF Y 0 (th0 n))) t = k ∧ k < Y.length := by
  rw [nxtF_at ty ht]
  by_cases h1 : 0 ≤ D.getD t 0
  · rw [dt h1, bc_t]
    by_cases h2 : D.getD t 0 < (atF t Y 0).length
    · rw [dt h2, bc_t]; have h3 : (D.getD t 0).toNat < (atF t Y 0).length := by omega
      rw [getD_at h3]; obtain ⟨k, e1, e2, _⟩ := atF_mem Y 0 _ (List.getElem_mem h3); exact .inr ⟨k, by rw [e1]; congr 1; omega, e2⟩
    · rw [df h2, bc_f]; exact .inl (by omega)
  · rw [df h1, bc_f]; exact .inl (by omega)
noncomputable def coP (n m : Int) (X P Y Q : List (List U)) : List Int × List Int := bc (fiE n m X P Y Q != 0) ([], []) (comF Y (rowsT (thF Y 0 (th0 n.toNat))) X 0 (zerosL n.toNat))
end Go.Proofs.Ytjlfedhkpdogbaa.Ev
namespace Go.Proofs.Ytjlfedhkpdogbaa.Ev
open Go.Proofs
namespace PNxt
noncomputable def K0 (D : List Int) (R : List (List U)) : List (Nat × EK) := [(0, .cells 42 [.slO 2 1 D.length true] true), (1, .cells 63 [.lst (.recs [.list [.int .i64, .bool], .list [.int .i64]] R)] true), (2, .seq 3 (.ints .i64 D) true)]
noncomputable def RM (s : ES) : ZF := RMs 3 44 .nil [] [] [] s
theorem in_t (t : Int) (D : List Int) (R : List (List U)) : RM (st0m 44 [iv t, .ptr 0 0, .ptr 1 0] (K0 D R) 3) = (bc (bc (bc (decide ((0 : Int) ≤ t)) (Nat.blt (Int.toNat t) (List.length D)) false) true false) (bc (bc (Nat.blt (Int.toNat t) (List.length D)) true false) (bc (decide ((0 : Int) ≤ List.getD D (Int.toNat t) (0 : Int))) (bc (bc (bc (decide ((0 : Int) ≤ t)) (Nat.blt (Int.toNat t) (List.length R)) false) true false) (bc (bc (Nat.blt (Int.toNat t) (List.length R)) true false) (bc (decide (List.getD D (Int.toNat t) (0 : Int) < Int.ofNat (List.length (List.map (fun r => U.int (List.headD r (U.i (0 : Int)))) (U.list (List.getD (List.getD R (Int.toNat t) []) (Nat.add (0 : Nat) (1 : Nat)) (U.i (0 : Int)))))))) (bc (bc (bc (decide ((0 : Int) ≤ t)) (Nat.blt (Int.toNat t) (List.length R)) false) true false) (bc (bc (Nat.blt (Int.toNat t) (List.length R)) true false) (bc (bc (bc (decide ((0 : Int) ≤ List.getD D (Int.toNat t) (0 : Int))) (Nat.blt (Int.toNat (List.getD D (Int.toNat t) (0 : Int))) (List.length (List.map (fun r => U.int (List.headD r (U.i (0 : Int)))) (U.list (List.getD (List.getD R (Int.toNat t) []) (Nat.add (0 : Nat) (1 : Nat)) (U.i (0 : Int))))))) false) true false) (bc (bc (Nat.blt (Int.toNat (List.getD D (Int.toNat t) (0 : Int))) (List.length (List.map (fun r => U.int (List.headD r (U.i (0 : Int)))) (U.list (List.getD (List.getD R (Int.toNat t) []) (Nat.add (0 : Nat) (1 : Nat)) (U.i (0 : Int))))))) true false) (.done (EV.v (Value.int IntKind.i64 (List.getD (List.map (fun r => U.int (List.headD r (U.i (0 : Int)))) (U.list (List.getD (List.getD R (Int.toNat t) []) (Nat.add (0 : Nat) (1 : Nat)) (U.i (0 : Int))))) (Int.toNat (List.getD D (Int.toNat t) (0 : Int))) (0 : Int)))) [(0, (EK.cells 42 [(EV.slO 2 1 (List.length D) true)] true)), (1, (EK.cells 63 [(EV.lst (SyC.recs [(Sh.list [(Sh.int IntKind.i64), Sh.bool]), (Sh.list [(Sh.int IntKind.i64)])] (R)))] true)), (2, (EK.seq 3 (SyC.ints IntKind.i64 (D)) true))] 3) .bad) .bad) .bad) .bad) (.done (EV.v (Value.int IntKind.i64 (-1))) [(0, (EK.cells 42 [(EV.slO 2 1 (List.length D) true)] true)), (1, (EK.cells 63 [(EV.lst (SyC.recs [(Sh.list [(Sh.int IntKind.i64), Sh.bool]), (Sh.list [(Sh.int IntKind.i64)])] (R)))] true)), (2, (EK.seq 3 (SyC.ints IntKind.i64 (D)) true))] 3)) .bad) .bad) (.done (EV.v (Value.int IntKind.i64 (-1))) [(0, (EK.cells 42 [(EV.slO 2 1 (List.length D) true)] true)), (1, (EK.cells 63 [(EV.lst (SyC.recs [(Sh.list [(Sh.int IntKind.i64), Sh.bool]), (Sh.list [(Sh.int IntKind.i64)])] (R)))] true)), (2, (EK.seq 3 (SyC.ints IntKind.i64 (D)) true))] 3)) .bad) .bad) := by kernel_rfl
theorem ends {t : Int} {D : List Int} {R : List (List U)} (h0 : 0 ≤ t) (hD : t < D.length) (hR : t < R.length) (hL : (rA (R.getD t.toNat [])).length ≤ 100000) : EndM 3 44 .nil (st0m 44 [iv t, .ptr 0 0, .ptr 1 0] (K0 D R) 3) (iv (nxtF D R t)) (K0 D R) 3 := by
  obtain ⟨t, rfl⟩ := Int.eq_ofNat_of_zero_le h0; have h := in_t t D R; have e1 : List.map (fun r => U.int (List.headD r (U.i 0))) (U.list (List.getD (List.getD R t []) (Nat.add 0 1) (U.i 0))) = rA (R.getD t []) := rfl; rw [to_nat, e1] at h; unfold nxtF; rw [to_nat]; generalize rA (R.getD t []) = q at *; generalize hd : D.getD t 0 = d at *
  by_cases g1 : 0 ≤ d
  · obtain ⟨d, rfl⟩ := Int.eq_ofNat_of_zero_le g1
    by_cases g2 : d < q.length
    · simp (disch := omega) only [Nat.add_eq, eqSy_self, eqN_self, bc_same, List.length_cons, ofn, wrap_in, dt, df, bltD, bltN, ble_of, bleN, beqD, bc_t, bc_f, nn_ok, Nat.zero_add, to_nat, Int.zero_add, Int.sub_zero, Int.sub_self, Int.cast_ofNat_Int, Int.natCast_zero, Int.toNat_zero, List.take_zero, List.nil_append, List.length_append, List.length_nil] at h; rw [dt g1, bc_t, dt (show (d : Int) < (q.length : Int) by omega), bc_t, to_nat]; exact .done h
    · simp (disch := omega) only [Nat.add_eq, eqSy_self, eqN_self, bc_same, List.length_cons, ofn, wrap_in, dt, df, bltD, bltN, ble_of, bleN, beqD, bc_t, bc_f, nn_ok, Nat.zero_add, to_nat, Int.zero_add, Int.sub_zero, Int.sub_self, Int.cast_ofNat_Int, Int.natCast_zero, Int.toNat_zero, List.take_zero, List.nil_append, List.length_append, List.length_nil] at h; rw [dt g1, bc_t, df (show ¬ (d : Int) < (q.length : Int) by omega), bc_f]; exact .done h
  · simp (disch := omega) only [Nat.add_eq, eqSy_self, eqN_self, bc_same, List.length_cons, ofn, wrap_in, dt, df, bltD, bltN, ble_of, bleN, beqD, bc_t, bc_f, nn_ok, Nat.zero_add, to_nat, Int.zero_add, Int.sub_zero, Int.sub_self, Int.cast_ofNat_Int, Int.natCast_zero, Int.toNat_zero, List.take_zero, List.nil_append, List.length_append, List.length_nil] at h; rw [df g1, bc_f]; exact .done h
end PNxt
noncomputable def spNxt : ZMT := fun ax K0 m => match ax, K0 with
  | [.v (.int .i64 t), .ptr 0 0, .ptr 1 0], [(0, .cells 42 [.slO 2 1 v_0 v_1] v_2), (1, .cells 63 [.lst (.recs [.list [.int .i64, .bool], .list [.int .i64]] R)] v_3), (2, .seq 3 (.ints .i64 D) v_4)] => bc (Nat.beq m (3)) (some ⟨bc (Nat.beq v_0 (D.length)) (bc (eqN v_1 (true)) (bc (eqN v_2 (true)) (bc (eqN v_3 (true)) (bc (eqN v_4 (true)) (decide (0 ≤ t ∧ t < D.length ∧ t < R.length ∧ (rA (R.getD t.toNat [])).length ≤ 100000)) false) false) false) false) false, .v (.int .i64 (nxtF D R t)), PNxt.K0 D R, 3, 3⟩) none
  | _, _ => none
theorem spNxt_ok : ZMtOk Try.prog 44 spNxt := fun γ w0 w us ax K0 m r hs hc hres hax hH => by
  unfold spNxt at hs; split at hs
  case h_2 => cases hs
  rename_i t v_0 v_1 v_2 R v_3 D v_4; obtain ⟨hm, rfl⟩ := noN hs; have hm := Nat.eq_of_beq_eq_true hm; subst hm; have hc_0 : bc (Nat.beq v_0 (D.length)) (bc (eqN v_1 (true)) (bc (eqN v_2 (true)) (bc (eqN v_3 (true)) (bc (eqN v_4 (true)) (decide (0 ≤ t ∧ t < D.length ∧ t < R.length ∧ (rA (R.getD t.toNat [])).length ≤ 100000)) false) false) false) false) false = true := hc; obtain ⟨q_0, hc_1⟩ := bcT hc_0; have p_0 := (Nat.eq_of_beq_eq_true q_0).symm; subst p_0; obtain ⟨q_1, hc_2⟩ := bcT hc_1; have p_1 := (eqN_ok q_1).symm; subst p_1; obtain ⟨q_2, hc_3⟩ := bcT hc_2; have p_2 := (eqN_ok q_2).symm
  subst p_2; obtain ⟨q_3, hc_4⟩ := bcT hc_3; have p_3 := (eqN_ok q_3).symm; subst p_3; obtain ⟨q_4, hc_5⟩ := bcT hc_4; have p_4 := (eqN_ok q_4).symm; subst p_4; have hc := of_decide_eq_true hc_5; exact EndM.calls (PNxt.ends hc.1 hc.2.1 hc.2.2.1 hc.2.2.2) (.nil _) (by kernel_rfl) hres hax hH
noncomputable def ctPC : Tr ZCC := ctPF.put 44 (some (mC spNxt))
theorem ctPC_ok : ZCtsOk Try.prog ctPC := ctPF_ok.addM rfl spNxt_ok
namespace PCom
noncomputable def RUN (s : ES) : ZF := RZ 17 ctPC (atS 0 17 8) [] [[(3,none),(4,some (1, 3, .ints .i64 [])),(5,some (1, 3, .ints .i64 [])),(8,none),(9,none),(10,none),(27,none),(28,none),(29,none)]] false s

noncomputable def sC (m : Int) (X Y Q R : List (List U)) (D x y : List Int) (d : Nat) (nx ny : Bool) (z i : Int) : NS := ⟨[⟨17, 92, [(3, (EV.ptr 0 0)), (4, EV.slO 1 1 x.length nx), (5, EV.slO 2 1 y.length ny), (8, (EV.ptr 3 0)), (9, (EV.ptr 4 0)), (10, (EV.fn 44 [(EV.ptr 4 0), (EV.ptr 3 0)])), (27, (EV.lst (SyC.recs [(Sh.int IntKind.i64), (Sh.int IntKind.i64), (Sh.int IntKind.i64), (Sh.int IntKind.i64)] (X)))), (28, iv z), (29, iv i)], [.it (.code (nav [1, 1, 1, 1, 1, 0, 1, 0, 0] (bodyOf Try.f17))), .it (.inLoop (nav [1, 1, 1, 1, 1, 0, 1, 0, 0] (bodyOf Try.f17))), .it (.inBlock 0), .it (.code (nav [1, 1, 1, 1, 1, 1] (bodyOf Try.f17)))], [], Option.none⟩], [(0, (EK.cells 25 [(EV.v (Value.int IntKind.i64 (m))), (EV.lst (SyC.recs [(Sh.int IntKind.i64), (Sh.int IntKind.i64), (Sh.int IntKind.i64), (Sh.int IntKind.i64)] (Y))), (EV.lst (SyC.recs [(Sh.int IntKind.i64), (Sh.int IntKind.i64), (Sh.int IntKind.i64), (Sh.int IntKind.i64)] (Q)))] true)), (1, EK.seq 3 (.ints .i64 x) nx), (2, EK.seq 3 (.ints .i64 y) ny), (3, EK.cells 63 [.lst (.recs shT R)] true), (4, EK.cells 42 [EV.slO 5 1 d true] true), (5, EK.seq 3 (.ints .i64 D) true)], 6⟩
theorem in_t (n m : Int) (X P Y Q : List (List U)) : RUN (st0 17 [clE n X P, clE m Y Q]) = (bc (chk17 n X P != (0 : Int)) (bc (chk17 n X P != (0 : Int)) (.done (EV.tup [(EV.v (Value.slice Option.none 0 0)), (EV.v (Value.slice Option.none 0 0)), (EV.v (Value.int IntKind.i64 (chk17 n X P)))]) [] 0) (bc (decide ((0 : Int) ≤ m ∧ m ≤ (48 : Int) ∧ List.length Y ≤ (20000 : Nat) ∧ thrs m Y)) (bc (bc (decide ((0 : Int) ≤ n)) (bc (decide (n ≤ n)) (decide (n ≤ (65536 : Int))) false) false) (.at (sC (m) (X) (Y) (Q) (rowsT (thF Y (0 : Nat) (th0 (Int.toNat m)))) (zerosL (Int.toNat n)) ([]) ([]) (List.length (zerosL (Int.toNat n))) (false) (false) (Int.ofNat (List.length X)) ((0 : Int)))) .bad) .bad)) (bc (chk17 m Y Q != (0 : Int)) (bc (chk17 m Y Q != (0 : Int)) (.done (EV.tup [(EV.v (Value.slice Option.none 0 0)), (EV.v (Value.slice Option.none 0 0)), (EV.v (Value.int IntKind.i64 (chk17 m Y Q)))]) [] 0) (bc (decide ((0 : Int) ≤ m ∧ m ≤ (48 : Int) ∧ List.length Y ≤ (20000 : Nat) ∧ thrs m Y)) (bc (bc (decide ((0 : Int) ≤ n)) (bc (decide (n ≤ n)) (decide (n ≤ (65536 : Int))) false) false) (.at (sC (m) (X) (Y) (Q) (rowsT (thF Y (0 : Nat) (th0 (Int.toNat m)))) (zerosL (Int.toNat n)) ([]) ([]) (List.length (zerosL (Int.toNat n))) (false) (false) (Int.ofNat (List.length X)) ((0 : Int)))) .bad) .bad)) (bc (n != m) (.done (EV.tup [(EV.v (Value.slice Option.none 0 0)), (EV.v (Value.slice Option.none 0 0)), (EV.v (Value.int IntKind.i64 (2)))]) [] 0) (bc (decide ((0 : Int) ≤ m ∧ m ≤ (48 : Int) ∧ List.length Y ≤ (20000 : Nat) ∧ thrs m Y)) (bc (bc (decide ((0 : Int) ≤ n)) (bc (decide (n ≤ n)) (decide (n ≤ (65536 : Int))) false) false) (.at (sC (m) (X) (Y) (Q) (rowsT (thF Y (0 : Nat) (th0 (Int.toNat m)))) (zerosL (Int.toNat n)) ([]) ([]) (List.length (zerosL (Int.toNat n))) (false) (false) (Int.ofNat (List.length X)) ((0 : Int)))) .bad) .bad)))) := by kernel_rfl
theorem step_t (m : Int) (X Y Q R : List (List U)) (D x y : List Int) (d : Nat) (nx ny : Bool) (z i : Int) : RUN (stOf (sC m X Y Q R D x y d nx ny z i)) = (bc (decide (i < z)) (bc (bc (bc (decide ((0 : Int) ≤ i)) (Nat.blt (Int.toNat i) (List.length X)) false) true false) (bc (bc (Nat.blt (Int.toNat i) (List.length X)) true false) (bc (bc (bc (Nat.beq d (List.length D)) (decide ((0 : Int) ≤ U.int (List.getD (List.getD X (Int.toNat i) []) (Nat.succ (Nat.succ (0 : Nat))) (U.i (0 : Int))) ∧ U.int (List.getD (List.getD X (Int.toNat i) []) (Nat.succ (Nat.succ (0 : Nat))) (U.i (0 : Int))) < (Nat.cast (List.length D) : Int) ∧ U.int (List.getD (List.getD X (Int.toNat i) []) (Nat.succ (Nat.succ (0 : Nat))) (U.i (0 : Int))) < (Nat.cast (List.length R) : Int) ∧ List.length (rA (List.getD R (Int.toNat (U.int (List.getD (List.getD X (Int.toNat i) []) (Nat.succ (Nat.succ (0 : Nat))) (U.i (0 : Int))))) [])) ≤ (100000 : Nat))) false) true false) (bc (decide (nxtF D R (U.int (List.getD (List.getD X (Int.toNat i) []) (Nat.succ (Nat.succ (0 : Nat))) (U.i (0 : Int)))) < (0 : Int))) (bc (bc (bc (eqB (decide (nxtF D R (U.int (List.getD (List.getD X (Int.toNat i) []) (Nat.succ (Nat.succ (0 : Nat))) (U.i (0 : Int)))) < (0 : Int))) true) true false) true false) (bc (bc (bc (bc (bc (decide ((0 : Int) ≤ U.int (List.getD (List.getD X (Int.toNat i) []) (Nat.succ (Nat.succ (0 : Nat))) (U.i (0 : Int))))) (Nat.blt (Int.toNat (U.int (List.getD (List.getD X (Int.toNat i) []) (Nat.succ (Nat.succ (0 : Nat))) (U.i (0 : Int))))) (List.length D)) false) true false) (bc (Nat.blt (Int.toNat (U.int (List.getD (List.getD X (Int.toNat i) []) (Nat.succ (Nat.succ (0 : Nat))) (U.i (0 : Int))))) (List.length D)) (bc (bc (bc (decide ((0 : Int) ≤ U.int (List.getD (List.getD X (Int.toNat i) []) (Nat.succ (Nat.succ (Nat.succ (0 : Nat)))) (U.i (0 : Int))))) (Nat.blt (Int.toNat (U.int (List.getD (List.getD X (Int.toNat i) []) (Nat.succ (Nat.succ (Nat.succ (0 : Nat)))) (U.i (0 : Int))))) (List.length D)) false) true false) (bc (Nat.blt (Int.toNat (U.int (List.getD (List.getD X (Int.toNat i) []) (Nat.succ (Nat.succ (Nat.succ (0 : Nat)))) (U.i (0 : Int))))) (List.length (List.set D (Int.toNat (U.int (List.getD (List.getD X (Int.toNat i) []) (Nat.succ (Nat.succ (0 : Nat))) (U.i (0 : Int))))) (-1 : Int)))) true false) false) false) false) (bc (bc (bc (bc (Nat.beq (List.length D) (List.length D)) (eqN true true) false) true false) (bc (bc (decide (U.int (List.getD (List.getD X (Int.toNat i) []) (Nat.succ (Nat.succ (Nat.succ (0 : Nat)))) (U.i (0 : Int))) = U.int (List.getD (List.getD X (Int.toNat i) []) (Nat.succ (Nat.succ (Nat.succ (0 : Nat)))) (U.i (0 : Int))))) true false) true false) false) true false) false) (.at (sC (m) (X) (Y) (Q) (R) (List.set (List.set D (Int.toNat (U.int (List.getD (List.getD X (Int.toNat i) []) (Nat.succ (Nat.succ (0 : Nat))) (U.i (0 : Int))))) (-1 : Int)) (Int.toNat (U.int (List.getD (List.getD X (Int.toNat i) []) (Nat.succ (Nat.succ (Nat.succ (0 : Nat)))) (U.i (0 : Int))))) (-1 : Int)) (x) (y) (List.length D) (nx) (ny) (z) (IntKind.wrap IntKind.i64 (i + (1 : Int))))) .bad) .bad) (bc (nxtF D R (U.int (List.getD (List.getD X (Int.toNat i) []) (Nat.succ (Nat.succ (0 : Nat))) (U.i (0 : Int)))) != nxtF D R (U.int (List.getD (List.getD X (Int.toNat i) []) (Nat.succ (Nat.succ (Nat.succ (0 : Nat)))) (U.i (0 : Int))))) (bc (bc (bc (eqB (decide (nxtF D R (U.int (List.getD (List.getD X (Int.toNat i) []) (Nat.succ (Nat.succ (0 : Nat))) (U.i (0 : Int)))) < (0 : Int))) false) (bc (bc (bc (Nat.beq (List.length D) (List.length D)) (decide ((0 : Int) ≤ U.int (List.getD (List.getD X (Int.toNat i) []) (Nat.succ (Nat.succ (Nat.succ (0 : Nat)))) (U.i (0 : Int))) ∧ U.int (List.getD (List.getD X (Int.toNat i) []) (Nat.succ (Nat.succ (Nat.succ (0 : Nat)))) (U.i (0 : Int))) < (Nat.cast (List.length D) : Int) ∧ U.int (List.getD (List.getD X (Int.toNat i) []) (Nat.succ (Nat.succ (Nat.succ (0 : Nat)))) (U.i (0 : Int))) < (Nat.cast (List.length R) : Int) ∧ List.length (rA (List.getD R (Int.toNat (U.int (List.getD (List.getD X (Int.toNat i) []) (Nat.succ (Nat.succ (Nat.succ (0 : Nat)))) (U.i (0 : Int))))) [])) ≤ (100000 : Nat))) false) true false) (bc (eqB (nxtF D R (U.int (List.getD (List.getD X (Int.toNat i) []) (Nat.succ (Nat.succ (0 : Nat))) (U.i (0 : Int)))) != nxtF D R (U.int (List.getD (List.getD X (Int.toNat i) []) (Nat.succ (Nat.succ (Nat.succ (0 : Nat)))) (U.i (0 : Int))))) true) true false) false) false) true false) (bc (bc (bc (bc (bc (decide ((0 : Int) ≤ U.int (List.getD (List.getD X (Int.toNat i) []) (Nat.succ (Nat.succ (0 : Nat))) (U.i (0 : Int))))) (Nat.blt (Int.toNat (U.int (List.getD (List.getD X (Int.toNat i) []) (Nat.succ (Nat.succ (0 : Nat))) (U.i (0 : Int))))) (List.length D)) false) true false) (bc (Nat.blt (Int.toNat (U.int (List.getD (List.getD X (Int.toNat i) []) (Nat.succ (Nat.succ (0 : Nat))) (U.i (0 : Int))))) (List.length D)) (bc (bc (bc (decide ((0 : Int) ≤ U.int (List.getD (List.getD X (Int.toNat i) []) (Nat.succ (Nat.succ (Nat.succ (0 : Nat)))) (U.i (0 : Int))))) (Nat.blt (Int.toNat (U.int (List.getD (List.getD X (Int.toNat i) []) (Nat.succ (Nat.succ (Nat.succ (0 : Nat)))) (U.i (0 : Int))))) (List.length D)) false) true false) (bc (Nat.blt (Int.toNat (U.int (List.getD (List.getD X (Int.toNat i) []) (Nat.succ (Nat.succ (Nat.succ (0 : Nat)))) (U.i (0 : Int))))) (List.length (List.set D (Int.toNat (U.int (List.getD (List.getD X (Int.toNat i) []) (Nat.succ (Nat.succ (0 : Nat))) (U.i (0 : Int))))) (-1 : Int)))) true false) false) false) false) (bc (bc (bc (bc (Nat.beq (List.length D) (List.length D)) (eqN true true) false) true false) (bc (bc (decide (U.int (List.getD (List.getD X (Int.toNat i) []) (Nat.succ (Nat.succ (Nat.succ (0 : Nat)))) (U.i (0 : Int))) = U.int (List.getD (List.getD X (Int.toNat i) []) (Nat.succ (Nat.succ (Nat.succ (0 : Nat)))) (U.i (0 : Int))))) true false) true false) false) true false) false) (.at (sC (m) (X) (Y) (Q) (R) (List.set (List.set D (Int.toNat (U.int (List.getD (List.getD X (Int.toNat i) []) (Nat.succ (Nat.succ (0 : Nat))) (U.i (0 : Int))))) (-1 : Int)) (Int.toNat (U.int (List.getD (List.getD X (Int.toNat i) []) (Nat.succ (Nat.succ (Nat.succ (0 : Nat)))) (U.i (0 : Int))))) (-1 : Int)) (x) (y) (List.length D) (nx) (ny) (z) (IntKind.wrap IntKind.i64 (i + (1 : Int))))) .bad) .bad) (bc (bc (bc (eqB (decide (nxtF D R (U.int (List.getD (List.getD X (Int.toNat i) []) (Nat.succ (Nat.succ (0 : Nat))) (U.i (0 : Int)))) < (0 : Int))) false) (bc (bc (bc (Nat.beq (List.length D) (List.length D)) (decide ((0 : Int) ≤ U.int (List.getD (List.getD X (Int.toNat i) []) (Nat.succ (Nat.succ (Nat.succ (0 : Nat)))) (U.i (0 : Int))) ∧ U.int (List.getD (List.getD X (Int.toNat i) []) (Nat.succ (Nat.succ (Nat.succ (0 : Nat)))) (U.i (0 : Int))) < (Nat.cast (List.length D) : Int) ∧ U.int (List.getD (List.getD X (Int.toNat i) []) (Nat.succ (Nat.succ (Nat.succ (0 : Nat)))) (U.i (0 : Int))) < (Nat.cast (List.length R) : Int) ∧ List.length (rA (List.getD R (Int.toNat (U.int (List.getD (List.getD X (Int.toNat i) []) (Nat.succ (Nat.succ (Nat.succ (0 : Nat)))) (U.i (0 : Int))))) [])) ≤ (100000 : Nat))) false) true false) (bc (eqB (nxtF D R (U.int (List.getD (List.getD X (Int.toNat i) []) (Nat.succ (Nat.succ (0 : Nat))) (U.i (0 : Int)))) != nxtF D R (U.int (List.getD (List.getD X (Int.toNat i) []) (Nat.succ (Nat.succ (Nat.succ (0 : Nat)))) (U.i (0 : Int))))) false) (bc (bc (bc (decide ((0 : Int) ≤ nxtF D R (U.int (List.getD (List.getD X (Int.toNat i) []) (Nat.succ (Nat.succ (0 : Nat))) (U.i (0 : Int)))))) (Nat.blt (Int.toNat (nxtF D R (U.int (List.getD (List.getD X (Int.toNat i) []) (Nat.succ (Nat.succ (0 : Nat))) (U.i (0 : Int)))))) (List.length Y)) false) true false) (bc (bc (Nat.blt (Int.toNat (nxtF D R (U.int (List.getD (List.getD X (Int.toNat i) []) (Nat.succ (Nat.succ (0 : Nat))) (U.i (0 : Int)))))) (List.length Y)) true false) true false) false) false) false) false) true false) (bc (U.int (List.getD (List.getD Y (Int.toNat (nxtF D R (U.int (List.getD (List.getD X (Int.toNat i) []) (Nat.succ (Nat.succ (0 : Nat))) (U.i (0 : Int)))))) []) (Nat.add (0 : Nat) (2 : Nat)) (U.i (0 : Int))) != U.int (List.getD (List.getD X (Int.toNat i) []) (Nat.succ (Nat.succ (0 : Nat))) (U.i (0 : Int)))) (bc (bc (bc (bc (bc (decide ((0 : Int) ≤ U.int (List.getD (List.getD X (Int.toNat i) []) (Nat.succ (Nat.succ (0 : Nat))) (U.i (0 : Int))))) (Nat.blt (Int.toNat (U.int (List.getD (List.getD X (Int.toNat i) []) (Nat.succ (Nat.succ (0 : Nat))) (U.i (0 : Int))))) (List.length D)) false) true false) (bc (Nat.blt (Int.toNat (U.int (List.getD (List.getD X (Int.toNat i) []) (Nat.succ (Nat.succ (0 : Nat))) (U.i (0 : Int))))) (List.length D)) (bc (bc (bc (decide ((0 : Int) ≤ U.int (List.getD (List.getD X (Int.toNat i) []) (Nat.succ (Nat.succ (Nat.succ (0 : Nat)))) (U.i (0 : Int))))) (Nat.blt (Int.toNat (U.int (List.getD (List.getD X (Int.toNat i) []) (Nat.succ (Nat.succ (Nat.succ (0 : Nat)))) (U.i (0 : Int))))) (List.length D)) false) true false) (bc (Nat.blt (Int.toNat (U.int (List.getD (List.getD X (Int.toNat i) []) (Nat.succ (Nat.succ (Nat.succ (0 : Nat)))) (U.i (0 : Int))))) (List.length (List.set D (Int.toNat (U.int (List.getD (List.getD X (Int.toNat i) []) (Nat.succ (Nat.succ (0 : Nat))) (U.i (0 : Int))))) (-1 : Int)))) true false) false) false) false) (bc (bc (bc (bc (Nat.beq (List.length D) (List.length D)) (eqN true true) false) true false) (bc (bc (decide (U.int (List.getD (List.getD X (Int.toNat i) []) (Nat.succ (Nat.succ (Nat.succ (0 : Nat)))) (U.i (0 : Int))) = U.int (List.getD (List.getD X (Int.toNat i) []) (Nat.succ (Nat.succ (Nat.succ (0 : Nat)))) (U.i (0 : Int))))) true false) true false) false) true false) false) (.at (sC (m) (X) (Y) (Q) (R) (List.set (List.set D (Int.toNat (U.int (List.getD (List.getD X (Int.toNat i) []) (Nat.succ (Nat.succ (0 : Nat))) (U.i (0 : Int))))) (-1 : Int)) (Int.toNat (U.int (List.getD (List.getD X (Int.toNat i) []) (Nat.succ (Nat.succ (Nat.succ (0 : Nat)))) (U.i (0 : Int))))) (-1 : Int)) (x) (y) (List.length D) (nx) (ny) (z) (IntKind.wrap IntKind.i64 (i + (1 : Int))))) .bad) (bc (bc (bc (decide ((0 : Int) ≤ U.int (List.getD (List.getD X (Int.toNat i) []) (Nat.succ (Nat.succ (0 : Nat))) (U.i (0 : Int))))) (Nat.blt (Int.toNat (U.int (List.getD (List.getD X (Int.toNat i) []) (Nat.succ (Nat.succ (0 : Nat))) (U.i (0 : Int))))) (List.length D)) false) true false) (bc (bc (Nat.blt (Int.toNat (U.int (List.getD (List.getD X (Int.toNat i) []) (Nat.succ (Nat.succ (0 : Nat))) (U.i (0 : Int))))) (List.length D)) true false) (bc (bc (bc (decide ((0 : Int) ≤ U.int (List.getD (List.getD X (Int.toNat i) []) (Nat.succ (Nat.succ (0 : Nat))) (U.i (0 : Int))))) (Nat.blt (Int.toNat (U.int (List.getD (List.getD X (Int.toNat i) []) (Nat.succ (Nat.succ (0 : Nat))) (U.i (0 : Int))))) (List.length D)) false) true false) (bc (Nat.blt (Int.toNat (U.int (List.getD (List.getD X (Int.toNat i) []) (Nat.succ (Nat.succ (0 : Nat))) (U.i (0 : Int))))) (List.length D)) (bc (bc (bc (decide ((0 : Int) ≤ U.int (List.getD (List.getD X (Int.toNat i) []) (Nat.succ (Nat.succ (Nat.succ (0 : Nat)))) (U.i (0 : Int))))) (Nat.blt (Int.toNat (U.int (List.getD (List.getD X (Int.toNat i) []) (Nat.succ (Nat.succ (Nat.succ (0 : Nat)))) (U.i (0 : Int))))) (List.length D)) false) true false) (bc (bc (Nat.blt (Int.toNat (U.int (List.getD (List.getD X (Int.toNat i) []) (Nat.succ (Nat.succ (Nat.succ (0 : Nat)))) (U.i (0 : Int))))) (List.length (List.set D (Int.toNat (U.int (List.getD (List.getD X (Int.toNat i) []) (Nat.succ (Nat.succ (0 : Nat))) (U.i (0 : Int))))) (IntKind.wrap IntKind.i64 (List.getD D (Int.toNat (U.int (List.getD (List.getD X (Int.toNat i) []) (Nat.succ (Nat.succ (0 : Nat))) (U.i (0 : Int))))) (0 : Int) + (1 : Int)))))) true false) (bc (bc (bc (decide ((0 : Int) ≤ U.int (List.getD (List.getD X (Int.toNat i) []) (Nat.succ (Nat.succ (Nat.succ (0 : Nat)))) (U.i (0 : Int))))) (Nat.blt (Int.toNat (U.int (List.getD (List.getD X (Int.toNat i) []) (Nat.succ (Nat.succ (Nat.succ (0 : Nat)))) (U.i (0 : Int))))) (List.length D)) false) true false) (bc (Nat.blt (Int.toNat (U.int (List.getD (List.getD X (Int.toNat i) []) (Nat.succ (Nat.succ (Nat.succ (0 : Nat)))) (U.i (0 : Int))))) (List.length (List.set D (Int.toNat (U.int (List.getD (List.getD X (Int.toNat i) []) (Nat.succ (Nat.succ (0 : Nat))) (U.i (0 : Int))))) (IntKind.wrap IntKind.i64 (List.getD D (Int.toNat (U.int (List.getD (List.getD X (Int.toNat i) []) (Nat.succ (Nat.succ (0 : Nat))) (U.i (0 : Int))))) (0 : Int) + (1 : Int)))))) (bc (bc (Nat.beq (List.length x) (List.length x)) (bc (Nat.ble (List.length x + List.length (List.map (fun r => U.int (List.headD r (U.i (0 : Int)))) [[U.i i]])) (65536 : Nat)) (bc nx true (bc nx false true)) false) false) (bc (bc (Nat.beq (List.length y) (List.length y)) (bc (Nat.ble (List.length y + List.length (List.map (fun r => U.int (List.headD r (U.i (0 : Int)))) [[U.i (nxtF D R (U.int (List.getD (List.getD X (Int.toNat i) []) (Nat.succ (Nat.succ (0 : Nat))) (U.i (0 : Int)))))]])) (65536 : Nat)) (bc ny true (bc ny false true)) false) false) (.at (sC (m) (X) (Y) (Q) (R) (List.set (List.set D (Int.toNat (U.int (List.getD (List.getD X (Int.toNat i) []) (Nat.succ (Nat.succ (0 : Nat))) (U.i (0 : Int))))) (IntKind.wrap IntKind.i64 (List.getD D (Int.toNat (U.int (List.getD (List.getD X (Int.toNat i) []) (Nat.succ (Nat.succ (0 : Nat))) (U.i (0 : Int))))) (0 : Int) + (1 : Int)))) (Int.toNat (U.int (List.getD (List.getD X (Int.toNat i) []) (Nat.succ (Nat.succ (Nat.succ (0 : Nat)))) (U.i (0 : Int))))) (IntKind.wrap IntKind.i64 (List.getD (List.set D (Int.toNat (U.int (List.getD (List.getD X (Int.toNat i) []) (Nat.succ (Nat.succ (0 : Nat))) (U.i (0 : Int))))) (IntKind.wrap IntKind.i64 (List.getD D (Int.toNat (U.int (List.getD (List.getD X (Int.toNat i) []) (Nat.succ (Nat.succ (0 : Nat))) (U.i (0 : Int))))) (0 : Int) + (1 : Int)))) (Int.toNat (U.int (List.getD (List.getD X (Int.toNat i) []) (Nat.succ (Nat.succ (Nat.succ (0 : Nat)))) (U.i (0 : Int))))) (0 : Int) + (1 : Int)))) (x ++ List.map (fun r => U.int (List.headD r (U.i (0 : Int)))) [[U.i i]]) (y ++ List.map (fun r => U.int (List.headD r (U.i (0 : Int)))) [[U.i (nxtF D R (U.int (List.getD (List.getD X (Int.toNat i) []) (Nat.succ (Nat.succ (0 : Nat))) (U.i (0 : Int)))))]]) (List.length D) (bc nx true (Nat.blt (0 : Nat) (List.length (List.map (fun r => U.int (List.headD r (U.i (0 : Int)))) [[U.i i]])))) (bc ny true (Nat.blt (0 : Nat) (List.length (List.map (fun r => U.int (List.headD r (U.i (0 : Int)))) [[U.i (nxtF D R (U.int (List.getD (List.getD X (Int.toNat i) []) (Nat.succ (Nat.succ (0 : Nat))) (U.i (0 : Int)))))]])))) (z) (IntKind.wrap IntKind.i64 (i + (1 : Int))))) .bad) .bad) .bad) .bad) .bad) .bad) .bad) .bad) .bad) .bad)) .bad))) .bad) .bad) .bad) (bc (bc (Nat.beq (List.length x) (List.length x)) (bc (Nat.beq (List.length y) (List.length y)) true false) false) (.done (EV.tup [(EV.lst (SyC.ints IntKind.i64 (x))), (EV.lst (SyC.ints IntKind.i64 (y))), (EV.v (Value.int IntKind.i64 (0)))]) [] 0) .bad)) := by kernel_rfl
end PCom
end Go.Proofs.Ytjlfedhkpdogbaa.Ev
namespace Go.Proofs.Ytjlfedhkpdogbaa.Ev
open Go.Proofs
namespace PCom
theorem step {n : Nat} {m : Int} {X Y Q : List (List U)} {D x y : List Int} {nx ny : Bool} {i : Nat} (hi : i < X.length) (hX : X.length ≤ 20000) (hY : Y.length ≤ 20000) (hn : n ≤ 48) (tx : thrs n X) (ty : thrs n Y) (hD : D.length = n) (hc : Cnt D (2 * i)) (hx : x.length ≤ i) (hy : y.length ≤ i) : RUN (stOf (sC m X Y Q (rowsT (thF Y 0 (th0 n))) D x y n nx ny X.length i)) = .at (sC m X Y Q (rowsT (thF Y 0 (th0 n))) (stepD (comB Y (rowsT (thF Y 0 (th0 n))) D X[i]) D X[i]) (x ++ bc (comB Y (rowsT (thF Y 0 (th0 n))) D X[i]) [(i : Int)] []) (y ++ bc (comB Y (rowsT (thF Y 0 (th0 n))) D X[i]) [nxtF D (rowsT (thF Y 0 (th0 n))) (xO X[i])] []) n (bc (comB Y (rowsT (thF Y 0 (th0 n))) D X[i]) true nx) (bc (comB Y (rowsT (thF Y 0 (th0 n))) D X[i]) true ny) X.length (i + 1 : Nat)) := by
  have h := step_t m X Y Q (rowsT (thF Y 0 (th0 n))) D x y n nx ny X.length i; have e : X.getD i [] = X[i] := getD_at hi; rw [to_nat, e] at h; have f1 : U.int (List.getD X[i] (Nat.succ (Nat.succ 0)) (U.i 0)) = xO X[i] := rfl; have f2 : U.int (List.getD X[i] (Nat.succ (Nat.succ (Nat.succ 0))) (U.i 0)) = xU X[i] := rfl; rw [f1, f2] at h; obtain ⟨h1, h2, h3, h4⟩ := tx _ (List.getElem_mem hi); generalize hr : X[i] = r at *; unfold comB stepD; generalize xU r = u at *; have f3 : ∀ k : Int, U.int (List.getD (Y.getD k.toNat []) (Nat.add 0 2) (U.i 0)) = xO (Y.getD k.toNat []) := fun _ => rfl
  rw [f3] at h; generalize xO r = o at *; obtain ⟨o, rfl⟩ := Int.eq_ofNat_of_zero_le h1; obtain ⟨u, rfl⟩ := Int.eq_ofNat_of_zero_le h3; have lo := atF_len o Y 0; have lu := atF_len u Y 0; have c1 : (0 : Int) ≤ (o : Int) ∧ (o : Int) < (D.length : Int) ∧ (o : Int) < ((rowsT (thF Y 0 (th0 n))).length : Int) ∧ (rA ((rowsT (thF Y 0 (th0 n))).getD ((o : Int)).toNat [])).length ≤ 100000 := ⟨by omega, by omega, by rw [rowsH_len]; omega, by rw [to_nat, rowsA ty (by omega)]; omega⟩
  have c2 : (0 : Int) ≤ (u : Int) ∧ (u : Int) < (D.length : Int) ∧ (u : Int) < ((rowsT (thF Y 0 (th0 n))).length : Int) ∧ (rA ((rowsT (thF Y 0 (th0 n))).getD ((u : Int)).toNat [])).length ≤ 100000 := ⟨by omega, by omega, by rw [rowsH_len]; omega, by rw [to_nat, rowsA ty (by omega)]; omega⟩; have n1 := nxtF_lt (D := D) ty (show o < n by omega); generalize rowsT (thF Y 0 (th0 n)) = R at *; rw [dt c1, dt c2] at h; have k1 := hc o; have k2 := hc u; have k3 := (hc.inc (j := o) (by omega)) u; have i1 : incD D o = D.set o (D.getD o 0 + 1) := rfl
  have i2 : incD (incD D o) u = (incD D o).set u ((incD D o).getD u 0 + 1) := rfl; rcases n1 with n1 | ⟨k, n1, n2⟩
  · simp (disch := omega) only [Nat.add_eq, eqSy_self, eqN_self, bc_same, List.length_cons, ofn, wrap_in, dt, df, bltD, bltN, ble_of, bleN, beqD, bc_t, bc_f, nn_ok, Nat.zero_add, to_nat, Int.zero_add, Int.sub_zero, Int.sub_self, Int.cast_ofNat_Int, Int.natCast_zero, Int.toNat_zero, List.take_zero, List.nil_append, List.length_append, List.length_nil, eqB, List.length_set, List.append_nil, decide_true, hD] at h ⊢; exact h
  · rw [n1] at h ⊢
    cases g1 : ((k : Int) != nxtF D R u) with
    | true =>
      rw [g1] at h; simp (disch := omega) only [Nat.add_eq, eqSy_self, eqN_self, bc_same, List.length_cons, ofn, wrap_in, dt, df, bltD, bltN, ble_of, bleN, beqD, bc_t, bc_f, nn_ok, Nat.zero_add, to_nat, Int.zero_add, Int.sub_zero, Int.sub_self, Int.cast_ofNat_Int, Int.natCast_zero, Int.toNat_zero, List.take_zero, List.nil_append, List.length_append, List.length_nil, eqB, List.length_set, List.append_nil, decide_true, hD] at h ⊢; exact h
    | false =>
      rw [g1] at h
      cases g2 : (xO (Y.getD ((k : Int)).toNat []) != (o : Int)) with
      | true =>
        rw [g2] at h; simp (disch := omega) only [Nat.add_eq, eqSy_self, eqN_self, bc_same, List.length_cons, ofn, wrap_in, dt, df, bltD, bltN, ble_of, bleN, beqD, bc_t, bc_f, nn_ok, Nat.zero_add, to_nat, Int.zero_add, Int.sub_zero, Int.sub_self, Int.cast_ofNat_Int, Int.natCast_zero, Int.toNat_zero, List.take_zero, List.nil_append, List.length_append, List.length_nil, eqB, List.length_set, List.append_nil, decide_true, hD] at h ⊢; exact h
      | false =>
        rw [g2] at h; have m1 : ∀ x : Int, List.map (fun r => U.int (List.headD r (U.i 0))) [[U.i x]] = [x] := fun _ => rfl; simp only [to_nat, m1] at h; rw [wrap_in (D.getD o 0 + 1) (by omega) (by omega), ← i1, wrap_in ((incD D o).getD u 0 + 1) (by omega) (by omega), ← i2] at h
        simp (disch := omega) only [Nat.add_eq, eqSy_self, eqN_self, bc_same, List.length_cons, ofn, wrap_in, dt, df, bltD, bltN, ble_of, bleN, beqD, bc_t, bc_f, nn_ok, Nat.zero_add, to_nat, Int.zero_add, Int.sub_zero, Int.sub_self, Int.cast_ofNat_Int, Int.natCast_zero, Int.toNat_zero, List.take_zero, List.nil_append, List.length_append, List.length_nil, eqB, List.length_set, List.append_nil, decide_true, hD, incD_len] at h ⊢; exact h
theorem last {m : Int} {X Y Q R : List (List U)} {D x y : List Int} {d : Nat} {nx ny : Bool} {i : Nat} (hi : X.length ≤ i) : RUN (stOf (sC m X Y Q R D x y d nx ny X.length i)) = .done (.tup [il x, il y, iv 0]) [] 0 := by
  have h := step_t m X Y Q R D x y d nx ny X.length i; simp (disch := omega) only [Nat.add_eq, eqSy_self, eqN_self, bc_same, List.length_cons, ofn, wrap_in, dt, df, bltD, bltN, ble_of, bleN, beqD, bc_t, bc_f, nn_ok, Nat.zero_add, to_nat, Int.zero_add, Int.sub_zero, Int.sub_self, Int.cast_ofNat_Int, Int.natCast_zero, Int.toNat_zero, List.take_zero, List.nil_append, List.length_append, List.length_nil] at h; exact h
theorem loop {n : Nat} {m : Int} {X Y Q : List (List U)} (hX : X.length ≤ 20000) (hY : Y.length ≤ 20000) (hn : n ≤ 48) (tx : thrs n X) (ty : thrs n Y) : ∀ (k i : Nat) (D x y : List Int) (nx ny : Bool), i + k = X.length → D.length = n → Cnt D (2 * i) → x.length ≤ i → y.length ≤ i → EndZ 17 ctPC false (stOf (sC m X Y Q (rowsT (thF Y 0 (th0 n))) D x y n nx ny X.length i)) (.tup [il (x ++ (comF Y (rowsT (thF Y 0 (th0 n))) (X.drop i) i D).1), il (y ++ (comF Y (rowsT (thF Y 0 (th0 n))) (X.drop i) i D).2), iv 0]) [] 0
  | 0, i, D, x, y, nx, ny, h, hD, hc, hx, hy => by
    rw [List.drop_eq_nil_of_le (by omega)]; show EndZ _ _ _ _ (.tup [il (x ++ []), il (y ++ []), iv 0]) _ _; rw [List.append_nil, List.append_nil]; exact .done (last (by omega))
  | k + 1, i, D, x, y, nx, ny, h, hD, hc, hx, hy => by
    have hi : i < X.length := by omega
    have h1 := step (m := m) (Q := Q) (nx := nx) (ny := ny) hi hX hY hn tx ty hD hc hx hy; refine .at ctPC_ok h1 ?_; have h2 := loop (m := m) (Q := Q) hX hY hn tx ty k (i + 1) (stepD (comB Y (rowsT (thF Y 0 (th0 n))) D X[i]) D X[i]) (x ++ bc (comB Y (rowsT (thF Y 0 (th0 n))) D X[i]) [(i : Int)] []) (y ++ bc (comB Y (rowsT (thF Y 0 (th0 n))) D X[i]) [nxtF D (rowsT (thF Y 0 (th0 n))) (xO X[i])] []) (bc (comB Y (rowsT (thF Y 0 (th0 n))) D X[i]) true nx) (bc (comB Y (rowsT (thF Y 0 (th0 n))) D X[i]) true ny) (by omega) (by rw [stepD_len]; exact hD) (by
      have := hc.step (q := comB Y (rowsT (thF Y 0 (th0 n))) D X[i]) (r := X[i]) (by omega); rw [show (2 * ((i + 1 : Nat) : Int)) = 2 * (i : Int) + 2 by omega]; exact this) (by
      rw [List.length_append]; cases comB Y (rowsT (thF Y 0 (th0 n))) D X[i] <;> simp [bc] <;> omega) (by
      rw [List.length_append]; cases comB Y (rowsT (thF Y 0 (th0 n))) D X[i] <;> simp [bc] <;> omega)
    rw [List.drop_eq_getElem_cons hi]; unfold comF; rw [List.append_assoc, List.append_assoc] at h2; revert h2; cases comB Y (rowsT (thF Y 0 (th0 n))) D X[i]
    · exact fun h2 => h2
    · exact fun h2 => h2
theorem ends (n m : Int) (X P Y Q : List (List U)) : EndZ 17 ctPC false (st0 17 [clE n X P, clE m Y Q]) (.tup [il (coP n m X P Y Q).1, il (coP n m X P Y Q).2, iv (fiE n m X P Y Q)]) [] 0 := by
  have h := in_t n m X P Y Q; have err : ∀ e : Int, fiE n m X P Y Q = e → e ≠ 0 → Weak (.tup [.v (.slice none 0 0), .v (.slice none 0 0), iv e]) (.tup [il (coP n m X P Y Q).1, il (coP n m X P Y Q).2, iv (fiE n m X P Y Q)]) := fun e he h0 => by
    unfold coP; rw [he, show (e != 0) = true by simp [h0], bc_t]; exact Weak.tup (.cons (Weak.nilI _) (.cons (Weak.nilI _) (.cons (Weak.refl _) .nil)))
  by_cases z1 : chk17 n X P = 0
  · have b1 : (chk17 n X P != 0) = false := by simp [z1]
    rw [b1, bc_f] at h
    by_cases z2 : chk17 m Y Q = 0
    · have b3 : (chk17 m Y Q != 0) = false := by simp [z2]
      rw [b3, bc_f] at h
      by_cases z3 : n = m
      · have b4 : (n != m) = false := by simp [z3]
        rw [b4, bc_f] at h; have hE : fiE n m X P Y Q = 0 := by unfold fiE; rw [b1, b3, b4]; rfl
        obtain ⟨c1, c2, c3, c4, c5, _⟩ := chk17_ok z1; obtain ⟨d1, d2, d3, d4, d5, _⟩ := chk17_ok z2; unfold coP; rw [hE]; subst z3; obtain ⟨n, rfl⟩ := Int.eq_ofNat_of_zero_le (show 0 ≤ n by omega); rw [dt (show (0 : Int) ≤ n ∧ (n : Int) ≤ 48 ∧ Y.length ≤ 20000 ∧ thrs n Y from ⟨by omega, by omega, by omega, d5⟩), bc_t] at h
        simp (disch := omega) only [Nat.add_eq, eqSy_self, eqN_self, bc_same, List.length_cons, ofn, wrap_in, dt, df, bltD, bltN, ble_of, bleN, beqD, bc_t, bc_f, nn_ok, Nat.zero_add, to_nat, Int.zero_add, Int.sub_zero, Int.sub_self, Int.cast_ofNat_Int, Int.natCast_zero, Int.toNat_zero, List.take_zero, List.nil_append, List.length_append, List.length_nil] at h; have hz : (zerosL n).length = n := by unfold zerosL; simp
        rw [hz] at h; exact .at ctPC_ok h (loop c3 d3 (by omega) c5 d5 X.length 0 (zerosL n) [] [] false false (by omega) hz (fun j => by
          unfold zerosL; rw [List.getD_eq_getElem?_getD, List.getElem?_replicate]; split <;> simp) (Nat.le_refl _) (Nat.le_refl _))
      · have b4 : (n != m) = true := by simp [z3]
        rw [b4, bc_t] at h; exact (EndZ.done h).weak (err 2 (by unfold fiE; rw [b1, b3, b4]; rfl) (by decide))
    · have b3 : (chk17 m Y Q != 0) = true := by simp [z2]
      rw [b3, bc_t, bc_t] at h; exact (EndZ.done h).weak (err _ (by unfold fiE; rw [b1, b3]; rfl) z2)
  · have b1 : (chk17 n X P != 0) = true := by simp [z1]
    rw [b1, bc_t, bc_t] at h; exact (EndZ.done h).weak (err _ (by unfold fiE; rw [b1]; rfl) z1)
end PCom
noncomputable def spPCom : ZCT := fun ax => match ax with
  | [.agg [.v (.int .i64 n), .lst (.recs [.int .i64, .int .i64, .int .i64, .int .i64] X), .lst (.recs [.int .i64, .int .i64, .int .i64, .int .i64] P)], .agg [.v (.int .i64 m), .lst (.recs [.int .i64, .int .i64, .int .i64, .int .i64] Y), .lst (.recs [.int .i64, .int .i64, .int .i64, .int .i64] Q)]] => some ⟨decide (True), .tup [il (coP n m X P Y Q).1, il (coP n m X P Y Q).2, iv (fiE n m X P Y Q)], [], 0⟩
  | _ => none
theorem spPCom_ok : ZCtOk Try.prog 17 spPCom := fun γ w us ax r hs hc hax hN hfz => by
  unfold spPCom at hs; split at hs
  case h_2 => cases hs
  rename_i n X P m Y Q; obtain ⟨rfl⟩ := Option.some.inj hs; have hc_0 : decide (True) = true := hc; have hc := of_decide_eq_true hc_0; exact EndZ.calls (PCom.ends n m X P Y Q) ctPC_ok (by kernel_rfl) hax hN hfz
end Go.Proofs.Ytjlfedhkpdogbaa.Ev
namespace Go.Proofs.Ytjlfedhkpdogbaa.Ev
open Go.Proofs

namespace PCom
end PCom
namespace PFir
end PFir
end Go.Proofs.Ytjlfedhkpdogbaa.Ev
namespace Go.Proofs.Ytjlfedhkpdogbaa.Ev
open Go.Proofs
namespace PCom
end PCom
namespace PFir
end PFir
end Go.Proofs.Ytjlfedhkpdogbaa.Ev
namespace Go.Proofs.Ytjlfedhkpdogbaa.Ev
open Go.Proofs
namespace PWit
theorem stepA {n : Nat} {l : List Int} {i : Nat} {s : List Int} (hi : i < n) (hn : n ≤ 50000) : RUN (stOf (sA n i l (esZ s))) = .at (sA n (i + 1 : Nat) l (esZ ((i : Int) :: outI i s))) := by
  have h := a_t n i l (esZ s); rw [esZ_keys, esZ_set] at h; simp (disch := omega) only [Nat.add_eq, eqSy_self, eqN_self, bc_same, List.length_cons, ofn, wrap_in, dt, df, bltD, bltN, ble_of, bleN, beqD, bc_t, bc_f, nn_ok, Nat.zero_add, to_nat, Int.zero_add, Int.sub_zero, Int.sub_self, Int.cast_ofNat_Int, Int.natCast_zero, Int.toNat_zero, List.take_zero, List.nil_append, List.length_append, List.length_nil] at h; exact h
theorem stepB {l : List Int} {i : Nat} {s : List Int} (hi : i < l.length) (hl : l.length ≤ 50000) : RUN (stOf (sB l l.length i (esZ s))) = .at (sB l l.length (i + 1 : Nat) (esZ (outI l[i] s))) := by
  have h := b_t l l.length i (esZ s); rw [to_nat, getD_at hi, esZ_keys, esZ_drop] at h; simp (disch := omega) only [Nat.add_eq, eqSy_self, eqN_self, bc_same, List.length_cons, ofn, wrap_in, dt, df, bltD, bltN, ble_of, bleN, beqD, bc_t, bc_f, nn_ok, Nat.zero_add, to_nat, Int.zero_add, Int.sub_zero, Int.sub_self, Int.cast_ofNat_Int, Int.natCast_zero, Int.toNat_zero, List.take_zero, List.nil_append, List.length_append, List.length_nil] at h; exact h
theorem loopB {n : Nat} {l : List Int} (hn : n ≤ 50000) (hl : l.length ≤ 50000) : ∀ (k i : Nat) (s : List Int), i + k = l.length → s.Sublist (dwn n) → EndZ 51 ctWi false (stOf (sB l l.length i (esZ s))) (il (sortZ (outA (l.drop i) s))) [] 0
  | 0, i, s, h, hs => by
    have h1 := b_t l l.length i (esZ s); have hk : KeysI (esZ s) := KeysI_esZ (fun a ha => by have := dwn_mem.1 (hs.subset ha); omega) (by have := hs.length_le; rw [dwn_len] at this; omega); rw [df (show ¬ (i : Int) < l.length by omega), bc_f, dt hk, keysI_esZ, Nat.beq_refl] at h1; rw [List.drop_eq_nil_of_le (by omega)]; exact .done h1
  | k + 1, i, s, h, hs => by
    have hi : i < l.length := by omega
    rw [List.drop_eq_getElem_cons hi]; exact .at ctWi_ok (stepB hi hl) (loopB hn hl k (i + 1) (outI l[i] s) (by omega) (List.filter_sublist.trans hs))
theorem loopA {n : Nat} {l : List Int} (hn : n ≤ 50000) (hl : l.length ≤ 50000) : ∀ (k i : Nat), i + k = n → EndZ 51 ctWi false (stOf (sA n i l (esZ (dwn i)))) (il (othF l 0 n)) [] 0
  | 0, i, h => by
    have h1 := a_t n i l (esZ (dwn i)); rw [df (show ¬ (i : Int) < n by omega), bc_f] at h1; have e : i = n := by omega
    subst e; have := loopB (n := i) hn hl l.length 0 (dwn i) (by omega) (List.Sublist.refl _); rw [List.drop_zero, out_oth] at this; exact .at ctWi_ok h1 this
  | k + 1, i, h => by
    have hi : i < n := by omega
    have e : outI i (dwn i) = dwn i := outI_id fun h => by have := dwn_mem.1 h; omega
    have h1 := stepA (l := l) (s := dwn i) hi hn; rw [e] at h1; exact .at ctWi_ok h1 (loopA hn hl k (i + 1) (by omega))
end PWit
noncomputable def spWit : ZCT := fun ax => match ax with
  | [.v (.int .i64 n), .lst (.ints .i64 l)] => some ⟨decide (0 ≤ n ∧ n ≤ 50000 ∧ l.length ≤ 50000), il (othF l 0 n.toNat), [], 0⟩
  | _ => none
theorem spWit_ok : ZCtOk Try.prog 51 spWit := fun γ w us ax r hs hc hax hN hfz => by
  unfold spWit at hs; split at hs
  case h_2 => cases hs
  rename_i n l; obtain ⟨rfl⟩ := Option.some.inj hs; have hc_0 : decide (0 ≤ n ∧ n ≤ 50000 ∧ l.length ≤ 50000) = true := hc; have hc := of_decide_eq_true hc_0; exact EndZ.calls (by
    obtain ⟨h1, h2, h3⟩ := hc; obtain ⟨n, rfl⟩ := Int.eq_ofNat_of_zero_le h1; have h := PWit.in_t n l; exact .at ctWi_ok h (PWit.loopA (by omega) h3 n 0 (by omega))) ctWi_ok (by kernel_rfl) hax hN hfz
noncomputable def ctPD : Tr ZCC := (Tr.nil.put 17 (some (dC spPCom))).put 51 (some (dC spWit))
theorem ctPD_ok : ZCtsOk Try.prog ctPD := ((ZCtsOk.nil _).add rfl spPCom_ok).add rfl spWit_ok
namespace PDif
noncomputable def RUN (s : ES) : ZF := RZ 25 ctPD (fun _ => false) [] [] false s
theorem in_t (n m : Int) (X P Y Q : List (List U)) : RUN (st0 25 [clE n X P, clE m Y Q]) = (bc (fiE n m X P Y Q != (0 : Int)) (.done (EV.tup [(EV.v (Value.slice Option.none 0 0)), (EV.v (Value.slice Option.none 0 0)), (EV.v (Value.int IntKind.i64 (fiE n m X P Y Q)))]) [] 0) (bc (bc (bc (decide ((0 : Int) ≤ Int.ofNat (List.length X) ∧ Int.ofNat (List.length X) ≤ (50000 : Int) ∧ List.length (Prod.fst (coP n m X P Y Q)) ≤ (50000 : Nat))) (bc (decide ((0 : Int) ≤ Int.ofNat (List.length Y) ∧ Int.ofNat (List.length Y) ≤ (50000 : Int) ∧ List.length (Prod.snd (coP n m X P Y Q)) ≤ (50000 : Nat))) true false) false) (bc (bc (bc (eqSy (SyC.recs shX Y) (SyC.recs shX Y)) true false) true false) true false) false) (.done (EV.tup [(EV.lst (SyC.ints IntKind.i64 (othF (Prod.fst (coP n m X P Y Q)) (0 : Nat) (Int.toNat (Int.ofNat (List.length X)))))), (EV.lst (SyC.ints IntKind.i64 (othF (Prod.snd (coP n m X P Y Q)) (0 : Nat) (Int.toNat (Int.ofNat (List.length Y)))))), (EV.v (Value.int IntKind.i64 (0)))]) [] 0) .bad)) := by kernel_rfl
end PDif
end Go.Proofs.Ytjlfedhkpdogbaa.Ev
namespace Go.Proofs.Ytjlfedhkpdogbaa.Ev
def Sm (r s : List U) : Prop := xW r = xW s ∧ xA r = xA s ∧ xO r = xO s ∧ xU r = xU s
noncomputable def shrB (x y : List U) : Bool := bc (xO x == xO y) true (bc (xO x == xU y) true (bc (xU x == xO y) true (xU x == xU y)))
theorem shrB_f {x y : List U} : shrB x y = false ↔ xO x ≠ xO y ∧ xO x ≠ xU y ∧ xU x ≠ xO y ∧ xU x ≠ xU y := by
  unfold shrB; simp only [bc_eq, beq_iff_eq]
  by_cases h1 : xO x = xO y
  · simp [h1]
  by_cases h2 : xO x = xU y
  · simp [h2]
  by_cases h3 : xU x = xO y
  · simp [h1, h2, h3]
  by_cases h4 : xU x = xU y
  · simp [h1, h2, h3, h4]
  simp [h1, h2, h3, h4]
inductive Ex1 : List (List U) → List (List U) → Prop
  | mk (l1 l2 : List (List U)) (x y x' y' : List U) (hx : Sm x' x) (hy : Sm y' y) (hs : shrB x y = false) : Ex1 (l1 ++ x :: y :: l2) (l1 ++ y' :: x' :: l2)
inductive Exs : List (List U) → List (List U) → Prop
  | refl (a : List (List U)) : Exs a a
  | step {a b c : List (List U)} (h : Ex1 a b) (t : Exs b c) : Exs a c
theorem enB_iff {l : List Int} {r : List U} : enB l r = true ↔ (l.getD (xA r).toNat 0 = xO r ∧ l.getD ((xA r).toNat + 1) 0 = xU r) ∨ (l.getD (xA r).toNat 0 = xU r ∧ l.getD ((xA r).toNat + 1) 0 = xO r) := by
  unfold enB; rw [bc_eq]; split
  · rename_i h; obtain ⟨h1, h2⟩ := bcT h; exact ⟨fun _ => .inl ⟨by simpa using h1, by simpa using h2⟩, fun _ => rfl⟩
  · rename_i h; constructor
    · intro k; obtain ⟨h1, h2⟩ := bcT k; exact .inr ⟨by simpa using h1, by simpa using h2⟩
    · rintro (⟨h1, h2⟩ | ⟨h1, h2⟩)
      · exact absurd (by rw [h1, h2]; simp [bc]) h
      · rw [h1, h2]; simp [bc]
theorem enF_cons (l : List Int) (r : List U) (q : List (List U)) : enF l (r :: q) = bc (enB l r) (enF (swp l (xA r).toNat) q) false := rfl
theorem okX_at {n : Int} {r : List U} (h : okX n r = true) : 0 ≤ xA r ∧ xA r ≤ n - 2 := by
  unfold okX at h; obtain ⟨a1, h⟩ := bcT h; obtain ⟨a2, _⟩ := bcT h; exact ⟨of_decide_eq_true a1, of_decide_eq_true a2⟩
theorem Ex1.len {a b : List (List U)} (h : Ex1 a b) : b.length = a.length := by
  cases h with
  | mk l1 l2 x y x' y' hx hy hs => simp
noncomputable def ctR (t : Int) (r : List U) : List (List U) := (bc (decide (xO r = t)) [mO r] []) ++ (bc (decide (xU r = t)) [mU r] [])
theorem hiF_cons (t : Int) (r : List U) (q : List (List U)) : hiF t (r :: q) = ctR t r ++ hiF t q := rfl
theorem hiF_app (t : Int) (b : List (List U)) : ∀ a : List (List U), hiF t (a ++ b) = hiF t a ++ hiF t b
  | [] => rfl
  | r :: a => by
    show hiF t (r :: (a ++ b)) = _; rw [hiF_cons, hiF_cons, hiF_app t b a, List.append_assoc]
theorem ctR_sm {t : Int} {x x' : List U} (h : Sm x' x) : ctR t x' = ctR t x := by
  unfold ctR mO mU; rw [h.2.2.1, h.2.2.2]
theorem ctR_no {t : Int} {r : List U} (h1 : xO r ≠ t) (h2 : xU r ≠ t) : ctR t r = [] := by
  unfold ctR; rw [df h1, df h2]; rfl
theorem Ex1.hi {a b : List (List U)} (h : Ex1 a b) (t : Int) : hiF t b = hiF t a := by
  cases h with
  | mk l1 l2 x y x' y' hx hy hs =>
    obtain ⟨s1, s2, s3, s4⟩ := shrB_f.1 hs; rw [hiF_app, hiF_app, hiF_cons, hiF_cons, hiF_cons, hiF_cons, ctR_sm hx, ctR_sm hy]; congr 1; rw [← List.append_assoc, ← List.append_assoc]; congr 1
    by_cases h1 : xO x = t ∨ xU x = t
    · have e : ctR t y = [] := ctR_no (by omega) (by omega); rw [e]; simp
    · have e : ctR t x = [] := ctR_no (fun e => h1 (.inl e)) (fun e => h1 (.inr e)); rw [e]; simp
theorem Exs.len {a b : List (List U)} (h : Exs a b) : b.length = a.length := by
  induction h with
  | refl a => rfl
  | step h t ih => rw [ih, h.len]
theorem Exs.hi {a b : List (List U)} (h : Exs a b) (t : Int) : hiF t b = hiF t a := by
  induction h with
  | refl a => rfl
  | step h k ih => rw [ih, h.hi]

end Go.Proofs.Ytjlfedhkpdogbaa.Ev
namespace Go.Proofs.Ytjlfedhkpdogbaa.Ev

def Two (b : List (List U)) : Prop := ∀ r, r ∈ b → xO r ≠ xU r
theorem enF_two {n : Nat} : ∀ (X : List (List U)) (l : List Int), n ≤ l.length → Dis l → (∀ r, r ∈ X → okX n r = true) → enF l X = true → Two X
  | [], _, _, _, _, _ => fun r hr => by cases hr
  | r :: q, l, hl, hd, hx, he => fun r' hr => by
    obtain ⟨a1, a2⟩ := okX_at (hx r List.mem_cons_self); rw [enF_cons] at he; obtain ⟨he1, he2⟩ := bcT he; rcases List.mem_cons.1 hr with rfl | hr
    · intro e; have h1 : l.getD (xA r').toNat 0 = l.getD ((xA r').toNat + 1) 0 := by
        rcases enB_iff.1 he1 with ⟨h1, h2⟩ | ⟨h1, h2⟩ <;> rw [h1, h2, e]
      have := hd _ _ (by omega) (by omega) h1; omega
    · exact enF_two q _ (by rw [swp_len]; exact hl) (hd.swp (by omega)) (fun r2 h2 => hx r2 (List.mem_cons_of_mem _ h2)) he2 r' hr
theorem Dis_lnI (n : Nat) : Dis (lnI n) := fun a b ha hb e => by
  rw [lnI_len] at ha hb; rw [lnI_get ha, lnI_get hb] at e; omega
theorem chk17_en {n : Nat} {X P : List (List U)} (h : chk17 n X P = 0) : enF (lnI n) X = true := by
  obtain ⟨c1, c2, c3, c4, c5, c6, c7⟩ := chk17_ok h; unfold chk17 numB at h; rw [c6, c7, df (show ¬ 48 < (n : Int) by omega), df (show ¬ 20000 < (X.length : Int) by omega), df (show ¬ 6400 < (P.length : Int) by omega), dt c1, bc_f, bc_f, bc_f, bc_t, bc_t, bc_t] at h
  cases e : enF (lnI n) X with
  | true => rfl
  | false =>
    rw [show ((n : Int)).toNat = n from rfl, e] at h
    cases h
theorem chk17_two {n : Nat} {X P : List (List U)} (h : chk17 n X P = 0) : Two X := by
  obtain ⟨c1, c2, c3, c4, c5, c6, c7⟩ := chk17_ok h; exact enF_two X (lnI n) (by rw [lnI_len]; exact Nat.le_refl _) (Dis_lnI n) (fun r hr => List.all_eq_true.1 c6 r hr) (chk17_en h)
theorem Two.tail {r : List U} {q : List (List U)} (h : Two (r :: q)) : Two q := fun x hx => h x (List.mem_cons_of_mem _ hx)
theorem ctR_O {t : Int} {r : List U} (h : xO r = t) (k : xU r ≠ t) : ctR t r = [mO r] := by
  unfold ctR; rw [dt h, df k]; rfl
theorem ctR_U {t : Int} {r : List U} (h : xO r ≠ t) (k : xU r = t) : ctR t r = [mU r] := by
  unfold ctR; rw [df h, dt k]; rfl
theorem atF_cons (t : Int) (r : List U) (q : List (List U)) (i : Nat) : atF t (r :: q) i = (bc (decide (xO r = t)) [(i : Int)] []) ++ (bc (decide (xU r = t)) [(i : Int)] []) ++ atF t q (i + 1) := rfl
theorem atF_hi (t : Int) : ∀ (b : List (List U)) (i : Nat), (atF t b i).length = (hiF t b).length
  | [], _ => rfl
  | r :: q, i => by
    rw [atF_cons, hiF_cons, List.length_append, List.length_append, List.length_append, atF_hi t q (i + 1)]; unfold ctR; rw [List.length_append]; cases decide (xO r = t) <;> cases decide (xU r = t) <;> rfl
theorem at_idx {t : Int} : ∀ (b : List (List U)) (i0 j : Nat), Two b → j < (hiF t b).length → ∃ k : Nat, k < b.length ∧ (atF t b i0).getD j 0 = (i0 + k : Nat) ∧ hiF t (b.take k) = (hiF t b).take j ∧ ((xO (b.getD k []) = t ∧ (hiF t b).getD j [] = mO (b.getD k [])) ∨ (xU (b.getD k []) = t ∧ (hiF t b).getD j [] = mU (b.getD k [])))
  | [], _, j, _, h => by cases h
  | r :: q, i0, j, h2, h => by
    have hne := h2 r List.mem_cons_self; rw [atF_cons, hiF_cons]; rw [hiF_cons] at h
    by_cases e1 : xO r = t
    · have e2 : xU r ≠ t := fun e => hne (e1.trans e.symm); rw [ctR_O e1 e2] at h ⊢; rw [dt e1, df e2, bc_t, bc_f]
      cases j with
      | zero => exact ⟨0, by simp, by simp, by simp [hiF], .inl ⟨e1, rfl⟩⟩
      | succ j =>
        obtain ⟨k, g1, g2, g3, g4⟩ := at_idx q (i0 + 1) j h2.tail (by simp at h; omega); refine ⟨k + 1, by simp; omega, ?_, ?_, ?_⟩
        · show (atF t q (i0 + 1)).getD j 0 = _; rw [g2]; congr 1; omega
        · rw [List.take_succ_cons, hiF_cons, g3, ctR_O e1 e2]; rfl
        · exact g4
    · by_cases e2 : xU r = t
      · rw [ctR_U e1 e2] at h ⊢; rw [df e1, dt e2, bc_t, bc_f]
        cases j with
        | zero => exact ⟨0, by simp, by simp, by simp [hiF], .inr ⟨e2, rfl⟩⟩
        | succ j =>
          obtain ⟨k, g1, g2, g3, g4⟩ := at_idx q (i0 + 1) j h2.tail (by simp at h; omega); refine ⟨k + 1, by simp; omega, ?_, ?_, ?_⟩
          · show (atF t q (i0 + 1)).getD j 0 = _; rw [g2]; congr 1; omega
          · rw [List.take_succ_cons, hiF_cons, g3, ctR_U e1 e2]; rfl
          · exact g4
      · rw [ctR_no e1 e2] at h ⊢; rw [df e1, df e2, bc_f]; obtain ⟨k, g1, g2, g3, g4⟩ := at_idx q (i0 + 1) j h2.tail (by simpa using h); refine ⟨k + 1, by simp; omega, ?_, ?_, ?_⟩
        · show (atF t q (i0 + 1)).getD j 0 = _; rw [g2]; congr 1; omega
        · rw [List.take_succ_cons, hiF_cons, g3, ctR_no e1 e2]; rfl
        · exact g4

noncomputable def cn (o u : Int) (b : List (List U)) : Nat := b.countP fun r => xO r == o && xU r == u
theorem cn_over (o u : Int) : ∀ b : List (List U), Two b → (hiF o b).countP (fun e => mT e == u && mV e) = cn o u b
  | [], _ => rfl
  | r :: q, h => by
    have hne := h r List.mem_cons_self; unfold cn; rw [hiF_cons, List.countP_append, cn_over o u q h.tail, List.countP_cons]
    by_cases e1 : xO r = o
    · have e2 : xU r ≠ o := fun e => hne (e1.trans e.symm); rw [ctR_O e1 e2, List.countP_cons, List.countP_nil]; have m1 : mT (mO r) = xU r := rfl; have m2 : mV (mO r) = true := rfl; rw [m1, m2]; unfold cn; simp [e1]; omega
    · have f : (xO r == o) = false := by simp [e1]
      rw [f]
      by_cases e2 : xU r = o
      · rw [ctR_U e1 e2, List.countP_cons, List.countP_nil]; have m2 : mV (mU r) = false := rfl; rw [m2]; unfold cn; simp
      · rw [ctR_no e1 e2, List.countP_nil]; unfold cn; simp
theorem cn_under (o u : Int) : ∀ b : List (List U), Two b → (hiF u b).countP (fun e => mT e == o && !mV e) = cn o u b
  | [], _ => rfl
  | r :: q, h => by
    have hne := h r List.mem_cons_self; unfold cn; rw [hiF_cons, List.countP_append, cn_under o u q h.tail, List.countP_cons]
    by_cases e2 : xU r = u
    · have e1 : xO r ≠ u := fun e => hne (e.trans e2.symm); rw [ctR_U e1 e2, List.countP_cons, List.countP_nil]; have m1 : mT (mU r) = xO r := rfl; have m2 : mV (mU r) = false := rfl; rw [m1, m2]; unfold cn; simp [e2]; omega
    · have f : (xU r == u) = false := by simp [e2]
      rw [f]
      by_cases e1 : xO r = u
      · rw [ctR_O e1 e2, List.countP_cons, List.countP_nil]; have m2 : mV (mO r) = true := rfl; rw [m2]; unfold cn; simp
      · rw [ctR_no e1 e2, List.countP_nil]; unfold cn; simp
theorem cn_take_lt {o u : Int} {b : List (List U)} {k k' : Nat} (hk : k < b.length) (h : k < k') (h1 : xO (b.getD k []) = o) (h2 : xU (b.getD k []) = u) : cn o u (b.take k) < cn o u (b.take k') := by
  have e1 : b.take k' = b.take (k + 1) ++ (b.drop (k + 1)).take (k' - (k + 1)) := by
    have e : k' = (k + 1) + (k' - (k + 1)) := by omega
    conv => lhs; rw [e]
    rw [List.take_add]
  have e2 : b.take (k + 1) = b.take k ++ [b.getD k []] := by
    rw [getD_at hk, List.take_append_getElem]
  unfold cn; rw [e1, e2, List.countP_append, List.countP_append, List.countP_cons, h1, h2]; simp; omega
theorem Two.take {b : List (List U)} (h : Two b) (k : Nat) : Two (b.take k) := fun r hr => h r (List.mem_of_mem_take hr)
theorem hiF_take {t : Int} {a : List (List U)} {i : Nat} (hi : i < a.length) : hiF t a = hiF t (a.take i) ++ (ctR t (a.getD i []) ++ hiF t (a.drop (i + 1))) := by
  conv => lhs; rw [← List.take_append_drop i a, List.drop_eq_getElem_cons hi]
  rw [hiF_app, hiF_cons, getD_at hi]
theorem hiF_at {t : Int} {a : List (List U)} {i : Nat} {e : List U} (hi : i < a.length) (h : ctR t (a.getD i []) = [e]) : (hiF t (a.take i)).length < (hiF t a).length ∧ (hiF t a).getD (hiF t (a.take i)).length [] = e ∧ (hiF t a).take (hiF t (a.take i)).length = hiF t (a.take i) := by
  have h1 := hiF_take (t := t) hi; rw [h] at h1; refine ⟨?_, ?_, ?_⟩
  · rw [h1]; simp
  · rw [h1, List.getD_eq_getElem?_getD, List.getElem?_append_right (Nat.le_refl _)]; simp
  · conv => lhs; rw [h1]
    rw [List.take_left']; rfl

theorem pair_same {a b : List (List U)} (ha : Two a) (hb : Two b) (hh : ∀ t, hiF t b = hiF t a) {i : Nat} (hi : i < a.length) : ∃ k : Nat, k < b.length ∧ (atF (xO (a.getD i [])) b 0).getD (hiF (xO (a.getD i [])) (a.take i)).length 0 = k ∧ (atF (xU (a.getD i [])) b 0).getD (hiF (xU (a.getD i [])) (a.take i)).length 0 = k ∧ xO (b.getD k []) = xO (a.getD i []) ∧ xU (b.getD k []) = xU (a.getD i []) ∧ hiF (xO (a.getD i [])) (b.take k) = hiF (xO (a.getD i [])) (a.take i) ∧ hiF (xU (a.getD i [])) (b.take k) = hiF (xU (a.getD i [])) (a.take i) := by
  have hne : xO (a.getD i []) ≠ xU (a.getD i []) := by rw [getD_at hi]; exact ha _ (List.getElem_mem hi)
  generalize hr : a.getD i [] = r at *; obtain ⟨p1, p2, p3⟩ := hiF_at (t := xO r) hi (by rw [hr]; exact ctR_O rfl (fun e => hne e.symm)); obtain ⟨q1, q2, q3⟩ := hiF_at (t := xU r) hi (by rw [hr]; exact ctR_U hne rfl); obtain ⟨k, k1, k2, k3, k4⟩ := at_idx (t := xO r) b 0 (hiF (xO r) (a.take i)).length hb (by rw [hh]; exact p1); obtain ⟨m, m1, m2, m3, m4⟩ := at_idx (t := xU r) b 0 (hiF (xU r) (a.take i)).length hb (by rw [hh]; exact q1); rw [hh, p2] at k4; rw [hh, q2] at m4; rw [hh, p3] at k3; rw [hh, q3] at m3; have f1 : xO (b.getD k []) = xO r ∧ xU (b.getD k []) = xU r := by
    rcases k4 with ⟨g1, g2⟩ | ⟨g1, g2⟩
    · have : mT (mO r) = mT (mO (b.getD k [])) := by rw [g2]
      exact ⟨g1, this.symm⟩
    · have : mV (mO r) = mV (mU (b.getD k [])) := by rw [g2]
      cases this
  have f2 : xO (b.getD m []) = xO r ∧ xU (b.getD m []) = xU r := by
    rcases m4 with ⟨g1, g2⟩ | ⟨g1, g2⟩
    · have : mV (mU r) = mV (mO (b.getD m [])) := by rw [g2]
      cases this
    · have : mT (mU r) = mT (mU (b.getD m [])) := by rw [g2]
      exact ⟨this.symm, g1⟩
  have c1 : cn (xO r) (xU r) (b.take k) = cn (xO r) (xU r) (a.take i) := by
    rw [← cn_over _ _ _ (hb.take k), k3, cn_over _ _ _ (ha.take i)]
  have c2 : cn (xO r) (xU r) (b.take m) = cn (xO r) (xU r) (a.take i) := by
    rw [← cn_under _ _ _ (hb.take m), m3, cn_under _ _ _ (ha.take i)]
  have e : k = m := by
    rcases Nat.lt_trichotomy k m with h | h | h
    · have := cn_take_lt k1 h f1.1 f1.2; omega
    · exact h
    · have := cn_take_lt m1 h f2.1 f2.2; omega
  subst e; exact ⟨k, k1, by rw [k2]; congr 1; omega, by rw [m2]; congr 1; omega, f1.1, f1.2, k3, m3⟩
end Go.Proofs.Ytjlfedhkpdogbaa.Ev
namespace Go.Proofs.Ytjlfedhkpdogbaa.Ev

noncomputable def piI (a b : List (List U)) (i : Nat) : Nat := ((atF (xO (a.getD i [])) b 0).getD (hiF (xO (a.getD i [])) (a.take i)).length 0).toNat
theorem piI_ok {a b : List (List U)} (ha : Two a) (hb : Two b) (hh : ∀ t, hiF t b = hiF t a) {i : Nat} (hi : i < a.length) : piI a b i < b.length ∧ (atF (xO (a.getD i [])) b 0).getD (hiF (xO (a.getD i [])) (a.take i)).length 0 = piI a b i ∧ (atF (xU (a.getD i [])) b 0).getD (hiF (xU (a.getD i [])) (a.take i)).length 0 = piI a b i ∧ xO (b.getD (piI a b i) []) = xO (a.getD i []) ∧ xU (b.getD (piI a b i) []) = xU (a.getD i []) ∧ hiF (xO (a.getD i [])) (b.take (piI a b i)) = hiF (xO (a.getD i [])) (a.take i) ∧ hiF (xU (a.getD i [])) (b.take (piI a b i)) = hiF (xU (a.getD i [])) (a.take i) := by
  obtain ⟨k, h1, h2, h3⟩ := pair_same ha hb hh hi; have e : piI a b i = k := by unfold piI; rw [h2]; rfl
  rw [e]; exact ⟨h1, h2, h3⟩
theorem hiF_step {a : List (List U)} {i : Nat} (t : Int) (hi : i < a.length) : (hiF t (a.take (i + 1))).length = (hiF t (a.take i)).length + (ctR t (a.getD i [])).length := by
  rw [← List.take_append_getElem hi, hiF_app, List.length_append, getD_at hi, hiF_cons]; congr 1; show (ctR t a[i] ++ []).length = _; rw [List.append_nil]
theorem incD_get {D : List Int} {j k : Nat} (h : j < D.length) : (incD D j).getD k 0 = D.getD k 0 + (if j = k then 1 else 0) := by
  unfold incD; rw [List.getD_eq_getElem?_getD, List.getElem?_set]
  by_cases e : j = k
  · subst e; rw [if_pos rfl, if_pos h, if_pos rfl]; rfl
  · rw [if_neg e, if_neg e, ← List.getD_eq_getElem?_getD]; omega
def Kpt (a b : List (List U)) (x y : List Int) : Prop := x.length = y.length ∧ ∀ i : Nat, i < x.length → 0 ≤ x.getD i 0 ∧ x.getD i 0 < a.length ∧ 0 ≤ y.getD i 0 ∧ y.getD i 0 < b.length ∧ (0 < i → x.getD (i - 1) 0 < x.getD i 0) ∧ xO (a.getD (x.getD i 0).toNat []) = xO (b.getD (y.getD i 0).toNat []) ∧ xU (a.getD (x.getD i 0).toNat []) = xU (b.getD (y.getD i 0).toNat []) ∧ ∀ k : Nat, k < i → y.getD k 0 ≠ y.getD i 0 ∧ (shrB (b.getD (y.getD k 0).toNat []) (b.getD (y.getD i 0).toNat []) = true → y.getD k 0 ≤ y.getD i 0)
noncomputable instance (a b : List (List U)) (x y : List Int) : Decidable (Kpt a b x y) := Classical.propDecidable _
theorem take_mono {t : Int} {b : List (List U)} {k m : Nat} (h : k ≤ m) : (hiF t (b.take k)).length ≤ (hiF t (b.take m)).length := by
  have e1 : b.take m = b.take k ++ (b.drop k).take (m - k) := by
    have e : m = k + (m - k) := by omega
    conv => lhs; rw [e]
    rw [List.take_add]
  rw [e1, hiF_app, List.length_append]; omega

end Go.Proofs.Ytjlfedhkpdogbaa.Ev
namespace Go.Proofs.Ytjlfedhkpdogbaa.Ev

noncomputable def onB (t : Int) (r : List U) : Bool := bc (xO r == t) true (xU r == t)

noncomputable def befI (X : List (List U)) (p : List Int) (t : Int) : Nat → Nat → Int → Int
  | 0, _, n => n
  | f + 1, k, n => bc (onB t (X.getD k [])) (bc (decide (p.getD k 0 < 0)) (-1) (befI X p t f (k + 1) (n + 1))) (befI X p t f (k + 1) n)
theorem befI_last {X : List (List U)} {p : List Int} {t : Int} : ∀ (f k : Nat) (n : Int), 0 ≤ n → befI X p t (f + 1) k n = bc (decide (befI X p t f k n < 0)) (-1) (bc (onB t (X.getD (k + f) [])) (bc (decide (p.getD (k + f) 0 < 0)) (-1) (befI X p t f k n + 1)) (befI X p t f k n))
  | 0, k, n, hn => by
    show _ = bc (decide (n < 0)) _ _; rw [df (by omega), bc_f]; rfl
  | f + 1, k, n, hn => by
    have e : ∀ g n, befI X p t (g + 1) k n = bc (onB t (X.getD k [])) (bc (decide (p.getD k 0 < 0)) (-1) (befI X p t g (k + 1) (n + 1))) (befI X p t g (k + 1) n) := fun _ _ => rfl; rw [e (f + 1), e f, befI_last f (k + 1) (n + 1) (by omega), befI_last f (k + 1) n hn, show k + 1 + f = k + (f + 1) by omega]; cases onB t (X.getD k [])
    · simp only [bc_f]; rfl
    · simp only [bc_t]
      by_cases h : p.getD k 0 < 0
      · simp only [dt h, bc_t]; rfl
      · simp only [df h, bc_f]
theorem befI_eq {X : List (List U)} {p q : List Int} {t : Int} : ∀ (f k : Nat) (n : Int), (∀ j : Nat, j < k + f → p.getD j 0 = q.getD j 0) → befI X p t f k n = befI X q t f k n
  | 0, _, _, _ => rfl
  | f + 1, k, n, h => by
    show bc _ (bc (decide (p.getD k 0 < 0)) _ _) _ = bc _ (bc (decide (q.getD k 0 < 0)) _ _) _; rw [h k (by omega), befI_eq f (k + 1) (n + 1) (fun j hj => h j (by omega)), befI_eq f (k + 1) n (fun j hj => h j (by omega))]
theorem befI_in {X : List (List U)} {p : List Int} {t : Int} : ∀ (f k : Nat) (n : Int), 0 ≤ n → -1 ≤ befI X p t f k n ∧ befI X p t f k n ≤ n + f
  | 0, _, n, hn => ⟨by show -1 ≤ n; omega, by show n ≤ _; omega⟩
  | f + 1, k, n, hn => by
    have h1 := befI_in (X := X) (p := p) (t := t) f (k + 1) (n + 1) (by omega); have h2 := befI_in (X := X) (p := p) (t := t) f (k + 1) n hn; show -1 ≤ bc _ (bc _ _ _) _ ∧ bc _ (bc _ _ _) _ ≤ _; cases onB t (X.getD k [])
    · rw [bc_f]; omega
    · rw [bc_t]; cases decide (p.getD k 0 < 0)
      · rw [bc_f]; omega
      · rw [bc_t]; omega
theorem ctR_on {t : Int} {r : List U} (h : xO r ≠ xU r) : (ctR t r).length = bc (onB t r) 1 0 := by
  unfold onB
  by_cases h1 : xO r = t
  · rw [ctR_O h1 (fun e => h (h1.trans e.symm)), beq_iff_eq.2 h1]; rfl
  · by_cases h2 : xU r = t
    · rw [ctR_U h1 h2, beq_iff_eq.2 h2, show (xO r == t) = false by simpa using h1]; rfl
    · rw [ctR_no h1 h2, show (xU r == t) = false by simpa using h2, show (xO r == t) = false by simpa using h1]; rfl
theorem Two.at {Y : List (List U)} (h : Two Y) {k : Nat} (hk : k < Y.length) : xO (Y.getD k []) ≠ xU (Y.getD k []) := by
  rw [getD_at hk]; exact h _ (List.getElem_mem hk)
theorem befI_hi {X : List (List U)} {p : List Int} {t : Int} (hX : Two X) (hp : ∀ j, 0 ≤ p.getD j 0) : ∀ f : Nat, f ≤ X.length → befI X p t f 0 0 = (hiF t (X.take f)).length
  | 0, _ => rfl
  | f + 1, h => by
    have hk := hp f; rw [befI_last f 0 0 (Int.le_refl _), Nat.zero_add, befI_hi hX hp f (by omega), hiF_step t (by omega), ctR_on (hX.at (by omega)), df (by omega), bc_f, df (by omega), bc_f]; cases onB t (X.getD f [])
    · simp only [bc_f]; omega
    · simp only [bc_t]; omega
theorem hi_lt {t : Int} {Y : List (List U)} (hY : Two Y) {k j : Nat} (hk : k < Y.length) (ho : onB t (Y.getD k []) = true) (h : k < j) : (hiF t (Y.take k)).length < (hiF t (Y.take j)).length := by
  have h1 := hiF_step t hk; rw [ctR_on (hY.at hk), ho, bc_t] at h1; have h2 := take_mono (t := t) (b := Y) (show k + 1 ≤ j by omega); omega
theorem onB_of {t : Int} {r : List U} : onB t r = true ↔ xO r = t ∨ xU r = t := by
  unfold onB
  by_cases h1 : xO r = t
  · simp [h1, bc]
  · rw [show (xO r == t) = false by simpa using h1, bc_f]; simp [h1]
theorem at_pos {t : Int} {Y : List (List U)} (hY : Two Y) {k : Nat} (hk : k < Y.length) (ho : onB t (Y.getD k []) = true) : (hiF t (Y.take k)).length < (hiF t Y).length ∧ (atF t Y 0).getD (hiF t (Y.take k)).length 0 = k := by
  have h1 := hi_lt hY hk ho hk; rw [List.take_length] at h1; obtain ⟨j, j1, j2, j3, j4⟩ := at_idx (t := t) Y 0 _ hY h1; refine ⟨h1, ?_⟩; have hj : onB t (Y.getD j []) = true := onB_of.2 (by rcases j4 with ⟨a, _⟩ | ⟨a, _⟩; exact .inl a; exact .inr a)
  have hl : (hiF t (Y.take j)).length = (hiF t (Y.take k)).length := by rw [j3, List.length_take]; omega
  have e : j = k := by
    rcases Nat.lt_trichotomy j k with h | h | h
    · have := hi_lt hY j1 hj h; omega
    · exact h
    · have := hi_lt hY hk ho h; omega
  rw [j2, e, Nat.zero_add]

noncomputable def refB (Y : List (List U)) (z : List Int) (o u n m : Int) (k : Nat) : Bool := bc (xO (Y.getD k []) == o) (bc (xU (Y.getD k []) == u) (bc (befI Y z o k 0 0 == n) (befI Y z u k 0 0 == m) false) false) false
noncomputable def matI (Y : List (List U)) (z : List Int) (o u n m : Int) : Nat → Nat → Int → Int
  | 0, _, c => c
  | f + 1, k, c => matI Y z o u n m f (k + 1) (bc (refB Y z o u n m k) (k : Int) c)
theorem matI_no {Y : List (List U)} {z : List Int} {o u n m : Int} : ∀ (f k : Nat) (c : Int), (∀ j, k ≤ j → j < k + f → refB Y z o u n m j = false) → matI Y z o u n m f k c = c
  | 0, _, _, _ => rfl
  | f + 1, k, c, h => by
    show matI Y z o u n m f (k + 1) _ = c; rw [h k (Nat.le_refl _) (by omega), bc_f]; exact matI_no f (k + 1) c (fun j h1 h2 => h j (by omega) (by omega))
theorem matI_at {Y : List (List U)} {z : List Int} {o u n m : Int} {j0 : Nat} (h0 : refB Y z o u n m j0 = true) : ∀ (f k : Nat) (c : Int), k ≤ j0 → j0 < k + f → (∀ j, k ≤ j → j < k + f → j ≠ j0 → refB Y z o u n m j = false) → matI Y z o u n m f k c = j0
  | 0, k, c, h1, h2, _ => by omega
  | f + 1, k, c, h1, h2, h => by
    show matI Y z o u n m f (k + 1) _ = j0
    by_cases e : k = j0
    · subst e; rw [h0, bc_t]; exact matI_no f (k + 1) k (fun j h3 h4 => h j (by omega) (by omega) (by omega))
    · exact matI_at h0 f (k + 1) _ (by omega) (by omega) (fun j h3 h4 => h j (by omega) (by omega))
theorem refB_of {Y : List (List U)} {z : List Int} {o u n m : Int} {k : Nat} : refB Y z o u n m k = true ↔ xO (Y.getD k []) = o ∧ xU (Y.getD k []) = u ∧ befI Y z o k 0 0 = n ∧ befI Y z u k 0 0 = m := by
  unfold refB; constructor
  · intro h; obtain ⟨h1, h⟩ := bcT h; obtain ⟨h2, h⟩ := bcT h; obtain ⟨h3, h4⟩ := bcT h; exact ⟨by simpa using h1, by simpa using h2, by simpa using h3, by simpa using h4⟩
  · rintro ⟨h1, h2, h3, h4⟩
    rw [h1, h2, h3, h4]; simp [bc]
theorem mat_nxt {n o u : Nat} {Y : List (List U)} {D z : List Int} {r : List U} (hY : Two Y) (ty : thrs n Y) (hz : ∀ j, 0 ≤ z.getD j 0) (ho : o < n) (hu : u < n) (hne : o ≠ u) (ro : xO r = o) (ru : xU r = u) (d1 : 0 ≤ D.getD o 0) (d2 : 0 ≤ D.getD u 0) :
    matI Y z o u (D.getD o 0) (D.getD u 0) Y.length 0 (-1) = bc (comB Y (rowsT (thF Y 0 (th0 n))) D r) (nxtF D (rowsT (thF Y 0 (th0 n))) o) (-1) := by
  by_cases hx : ∃ k, k < Y.length ∧ refB Y z o u (D.getD o 0) (D.getD u 0) k = true
  · obtain ⟨k, hk, hb⟩ := hx; obtain ⟨b1, b2, b3, b4⟩ := refB_of.1 hb; rw [befI_hi hY hz k (by omega)] at b3 b4; obtain ⟨p1, p2⟩ := at_pos hY hk (onB_of.2 (.inl b1)); obtain ⟨q1, q2⟩ := at_pos hY hk (onB_of.2 (.inr b2)); have no : nxtF D (rowsT (thF Y 0 (th0 n))) o = k := by
      rw [nxtF_at ty ho, dt d1, bc_t, ← b3, dt (by rw [atF_hi]; omega), bc_t]; exact p2
    have nu : nxtF D (rowsT (thF Y 0 (th0 n))) u = k := by
      rw [nxtF_at ty hu, dt d2, bc_t, ← b4, dt (by rw [atF_hi]; omega), bc_t]; exact q2
    have hB : comB Y (rowsT (thF Y 0 (th0 n))) D r = true := by
      unfold comB; rw [ro, ru, no, nu, df (by omega), bc_f]; rw [show ((k : Int) != (k : Int)) = false by simp, bc_f]; rw [show ((k : Int)).toNat = k from rfl, b1]
      simp [bc]
    rw [hB, bc_t, no]; refine matI_at hb _ 0 _ (by omega) (by omega) (fun j _ h2 hj => ?_)
    cases hc : refB Y z o u (D.getD o 0) (D.getD u 0) j with
    | false => rfl
    | true =>
      obtain ⟨c1, c2, c3, c4⟩ := refB_of.1 hc; rw [befI_hi hY hz j (by omega)] at c3; rcases Nat.lt_or_gt_of_ne hj with h | h
      · have := hi_lt hY (by omega) (onB_of.2 (.inl c1)) h; omega
      · have := hi_lt hY hk (onB_of.2 (.inl b1)) h; omega
  · have hx : ∀ k, k < Y.length → refB Y z o u (D.getD o 0) (D.getD u 0) k = false := fun k hk => by
      cases h : refB Y z o u (D.getD o 0) (D.getD u 0) k with
      | false => rfl
      | true => exact absurd ⟨k, hk, h⟩ hx
    rw [matI_no _ 0 _ (fun j _ h => hx j (by omega))]
    cases hB : comB Y (rowsT (thF Y 0 (th0 n))) D r with
    | false => rfl
    | true =>
      exfalso
      unfold comB at hB; rw [ro, ru] at hB; rcases nxtF_lt (D := D) ty ho with h | ⟨k, h1, hk⟩
      · rw [dt h, bc_t] at hB; cases hB
      · rw [h1, df (by omega), bc_f] at hB
        cases h2 : ((k : Int) != nxtF D (rowsT (thF Y 0 (th0 n))) u) with
        | true => rw [h2, bc_t] at hB; cases hB
        | false =>
          rw [h2, bc_f] at hB; have nu : nxtF D (rowsT (thF Y 0 (th0 n))) u = k := by
            have := bne_eq_false_iff_eq.1 h2; exact this.symm
          rw [show ((k : Int)).toNat = k from rfl] at hB
          have e1 : xO (Y.getD k []) = o := by
            cases h3 : (xO (Y.getD k []) != (o : Int)) with
            | true => rw [h3, bc_t] at hB; cases hB
            | false => exact bne_eq_false_iff_eq.1 h3
          rw [nxtF_at ty ho, dt d1, bc_t] at h1; rw [nxtF_at ty hu, dt d2, bc_t] at nu
          by_cases l1 : D.getD o 0 < (atF o Y 0).length
          · by_cases l2 : D.getD u 0 < (atF u Y 0).length
            · rw [dt l1, bc_t] at h1; rw [dt l2, bc_t] at nu; rw [atF_hi] at l1 l2; obtain ⟨a, a1, a2, a3, _⟩ := at_idx (t := (o : Int)) Y 0 (D.getD o 0).toNat hY (by omega); obtain ⟨b, b1, b2, b3, b4⟩ := at_idx (t := (u : Int)) Y 0 (D.getD u 0).toNat hY (by omega); have ea : a = k := by omega
              have eb : b = k := by omega
              subst ea; subst eb; have e2 : xU (Y.getD b []) = u := by
                rcases b4 with ⟨h, _⟩ | ⟨h, _⟩
                · omega
                · exact h
              have := hx b hk; rw [refB_of.2 ⟨e1, e2, by rw [befI_hi hY hz b (by omega), a3, List.length_take]; omega, by rw [befI_hi hY hz b (by omega), b3, List.length_take]; omega⟩] at this; cases this
            · rw [df l2, bc_f] at nu; omega
          · rw [df l1, bc_f] at h1; omega

noncomputable def refV (X Y : List (List U)) (z p : List Int) (i : Nat) : Int := bc (decide (0 ≤ befI X p (xO (X.getD i [])) i 0 0)) (bc (decide (0 ≤ befI X p (xU (X.getD i [])) i 0 0)) (matI Y z (xO (X.getD i [])) (xU (X.getD i [])) (befI X p (xO (X.getD i [])) i 0 0) (befI X p (xU (X.getD i [])) i 0 0) Y.length 0 (-1)) (-1)) (-1)
noncomputable def refC (X Y : List (List U)) (z : List Int) : Nat → Nat → List Int → List Int × List Int
  | 0, _, _ => ([], [])
  | f + 1, i, p => bc (decide (0 ≤ refV X Y z p i)) ((i : Int) :: (refC X Y z f (i + 1) (p.set i (refV X Y z p i))).1, refV X Y z p i :: (refC X Y z f (i + 1) (p.set i (refV X Y z p i))).2) (refC X Y z f (i + 1) (p.set i (refV X Y z p i)))
theorem nxtF_neg {n t : Nat} {D : List Int} {Y : List (List U)} (ty : thrs n Y) (ht : t < n) (h : D.getD t 0 < 0) : nxtF D (rowsT (thF Y 0 (th0 n))) t = -1 := by
  rw [nxtF_at ty ht, df (by omega), bc_f]
theorem refC_com {n : Nat} {X Y : List (List U)} {z : List Int} (hX : Two X) (hY : Two Y) (tx : thrs n X) (ty : thrs n Y) (hz : ∀ j, 0 ≤ z.getD j 0) : ∀ (f i : Nat) (p D : List Int), i + f = X.length → p.length = X.length → D.length = n → (∀ t : Nat, t < n → D.getD t 0 = befI X p t i 0 0) → refC X Y z f i p = comF Y (rowsT (thF Y 0 (th0 n))) (X.drop i) i D
  | 0, i, p, D, h, _, _, _ => by rw [List.drop_eq_nil_of_le (by omega)]; rfl
  | f + 1, i, p, D, h, hp, hD, hc => by
    have hi : i < X.length := by omega
    obtain ⟨o1, o2, u1, u2⟩ := tx _ (List.getElem_mem hi); have hne := hX _ (List.getElem_mem hi); have er : X.getD i [] = X[i] := getD_at hi; rw [List.drop_eq_getElem_cons hi]; generalize hr : X[i] = r at *; obtain ⟨o, ho⟩ := Int.eq_ofNat_of_zero_le o1; obtain ⟨u, hu⟩ := Int.eq_ofNat_of_zero_le u1; have co := hc o (by omega); have cu := hc u (by omega); have bo := (befI_in (X := X) (p := p) (t := (o : Int)) i 0 0 (Int.le_refl _)).1; have bu := (befI_in (X := X) (p := p) (t := (u : Int)) i 0 0 (Int.le_refl _)).1
    have hV : refV X Y z p i = bc (comB Y (rowsT (thF Y 0 (th0 n))) D r) (nxtF D (rowsT (thF Y 0 (th0 n))) (xO r)) (-1) ∧ (comB Y (rowsT (thF Y 0 (th0 n))) D r = true → 0 ≤ D.getD o 0 ∧ 0 ≤ D.getD u 0 ∧ 0 ≤ nxtF D (rowsT (thF Y 0 (th0 n))) (xO r)) := by
      unfold refV; rw [er, ho, hu, ← co, ← cu]
      by_cases d1 : 0 ≤ D.getD o 0
      · by_cases d2 : 0 ≤ D.getD u 0
        · rw [dt d1, dt d2, bc_t, bc_t, mat_nxt hY ty hz (by omega) (by omega) (by omega) ho hu d1 d2]; refine ⟨rfl, fun hB => ⟨d1, d2, ?_⟩⟩; unfold comB at hB; rw [ho] at hB
          by_cases h1 : nxtF D (rowsT (thF Y 0 (th0 n))) o < 0
          · rw [dt h1, bc_t] at hB; cases hB
          · omega
        · have e := nxtF_neg (D := D) ty (show u < n by omega) (by omega); have hB : comB Y (rowsT (thF Y 0 (th0 n))) D r = false := by
            unfold comB; rw [ho, hu, e]
            by_cases h1 : nxtF D (rowsT (thF Y 0 (th0 n))) o < 0
            · rw [dt h1, bc_t]
            · rw [df h1, bc_f, show (nxtF D (rowsT (thF Y 0 (th0 n))) o != -1) = true by simp; omega, bc_t]
          rw [dt d1, df d2, bc_t, bc_f, hB, bc_f]; exact ⟨rfl, fun h => by cases h⟩
      · have e := nxtF_neg (D := D) ty (show o < n by omega) (by omega); have hB : comB Y (rowsT (thF Y 0 (th0 n))) D r = false := by
          unfold comB; rw [ho, e, dt (by omega), bc_t]
        rw [df d1, bc_f, hB, bc_f]; exact ⟨rfl, fun h => by cases h⟩
    obtain ⟨hV, hV2⟩ := hV; have ih := refC_com hX hY tx ty hz f (i + 1) (p.set i (refV X Y z p i)) (stepD (comB Y (rowsT (thF Y 0 (th0 n))) D r) D r) (by omega) (by simp; exact hp) (by rw [stepD_len]; exact hD) (fun t ht => by
      have hb := (befI_in (X := X) (p := p) (t := (t : Int)) i 0 0 (Int.le_refl _)).1; rw [befI_last i 0 0 (Int.le_refl _), Nat.zero_add, er, befI_eq (q := p) i 0 0 (fun j hj => by
        rw [List.getD_eq_getElem?_getD, List.getElem?_set, if_neg (by omega), ← List.getD_eq_getElem?_getD]), ← hc t ht]
      rw [← hc t ht] at hb; have ep : (p.set i (refV X Y z p i)).getD i 0 = refV X Y z p i := by
        rw [List.getD_eq_getElem?_getD, List.getElem?_set, if_pos rfl, if_pos (by omega)]; rfl
      rw [ep]; have on : onB (t : Int) r = decide (o = t ∨ u = t) := by
        apply Bool.eq_iff_iff.2; rw [onB_of, ho, hu]; simp only [decide_eq_true_eq]; omega
      rw [on]; unfold stepD
      cases hB : comB Y (rowsT (thF Y 0 (th0 n))) D r with
      | true =>
        obtain ⟨g1, g2, g3⟩ := hV2 hB; rw [hB, bc_t] at hV; rw [bc_t, incD_get (by rw [incD_len]; omega), incD_get (by omega), hV]
        by_cases e1 : o = t
        · rw [if_pos (by omega), if_neg (by omega), dt (show o = t ∨ u = t from .inl e1), bc_t, df (show ¬ D.getD t 0 < 0 by subst e1; omega), bc_f, df (by omega), bc_f]; omega
        · by_cases e2 : u = t
          · rw [if_neg (by omega), if_pos (by omega), dt (show o = t ∨ u = t from .inr e2), bc_t, df (show ¬ D.getD t 0 < 0 by subst e2; omega), bc_f, df (by omega), bc_f]; omega
          · rw [if_neg (by omega), if_neg (by omega), df (show ¬ (o = t ∨ u = t) by omega)]
            by_cases e3 : D.getD t 0 < 0
            · rw [dt e3, bc_t]; omega
            · rw [df e3, bc_f, bc_f]; omega
      | false =>
        rw [hB, bc_f] at hV; rw [bc_f, hV]; have gt : ((D.set (xO r).toNat (-1)).set (xU r).toNat (-1)).getD t 0 = if o = t ∨ u = t then -1 else D.getD t 0 := by
          rw [List.getD_eq_getElem?_getD, List.getElem?_set]
          by_cases e2 : u = t
          · rw [if_pos (by omega), if_pos (by rw [List.length_set]; omega), if_pos (.inr e2)]; rfl
          · rw [if_neg (by omega), List.getElem?_set]
            by_cases e1 : o = t
            · rw [if_pos (by omega), if_pos (by omega), if_pos (.inl e1)]; rfl
            · rw [if_neg (by omega), if_neg (by omega), ← List.getD_eq_getElem?_getD]
        rw [gt]
        by_cases e1 : o = t ∨ u = t
        · rw [if_pos e1, dt e1, bc_t, dt (show (-1 : Int) < 0 by omega), bc_t]; cases decide (D.getD t 0 < 0) <;> rfl
        · rw [if_neg e1, df e1, bc_f]
          by_cases e3 : D.getD t 0 < 0
          · rw [dt e3, bc_t]; omega
          · rw [df e3, bc_f])
    unfold refC comF; rw [ih]
    cases hB : comB Y (rowsT (thF Y 0 (th0 n))) D r with
    | true =>
      rw [hB, bc_t] at hV; obtain ⟨_, _, g3⟩ := hV2 hB; rw [hV, dt g3, bc_t]
    | false =>
      rw [hB, bc_f] at hV; rw [hV, df (by omega), bc_f, bc_f]
end Go.Proofs.Ytjlfedhkpdogbaa.Ev
namespace Go.Proofs.Ytjlfedhkpdogbaa.Ev
open Go.Proofs
namespace ROn
end ROn
namespace RBef
end RBef
namespace ROth
end ROth
end Go.Proofs.Ytjlfedhkpdogbaa.Ev
namespace Go.Proofs.Ytjlfedhkpdogbaa.Ev
open Go.Proofs
namespace RBef
end RBef
namespace ROth
end ROth
namespace RCom
end RCom
end Go.Proofs.Ytjlfedhkpdogbaa.Ev
namespace Go.Proofs.Ytjlfedhkpdogbaa.Ev
open Go.Proofs
namespace RCom

end RCom
end Go.Proofs.Ytjlfedhkpdogbaa.Ev
namespace Go.Proofs.Ytjlfedhkpdogbaa.Ev
open Go.Proofs
namespace RCom
end RCom
namespace RDif
end RDif
end Go.Proofs.Ytjlfedhkpdogbaa.Ev
namespace Go.Proofs.Ytjlfedhkpdogbaa.Ev
open Go.Proofs Go.RowKit Go.Sort
end Go.Proofs.Ytjlfedhkpdogbaa.Ev
namespace Go.Proofs
open Go.Shelf
end Go.Proofs
namespace Go.Proofs.Ytjlfedhkpdogbaa.Ev
open Go.Proofs Go.RowKit Go.Sort
end Go.Proofs.Ytjlfedhkpdogbaa.Ev
namespace Go.Proofs.Ytjlfedhkpdogbaa.Ev
open Go.Proofs Go.RowKit Go.Sort
end Go.Proofs.Ytjlfedhkpdogbaa.Ev
namespace Go.Proofs.Ytjlfedhkpdogbaa.Ev
open Go.Proofs
namespace PWrk
end PWrk
namespace RWrk
end RWrk
end Go.Proofs.Ytjlfedhkpdogbaa.Ev
namespace Go.Proofs.Ytjlfedhkpdogbaa.Ev
end Go.Proofs.Ytjlfedhkpdogbaa.Ev
namespace Go.Proofs.Ytjlfedhkpdogbaa.Ev
open Go.Proofs
namespace PWrk
end PWrk
namespace RWrk
end RWrk
end Go.Proofs.Ytjlfedhkpdogbaa.Ev
namespace Go.Proofs.Ytjlfedhkpdogbaa.Ev
open Go.Proofs
theorem shown_run : endsB (exClosed Try.prog ft (drD Try.prog ft 16 4) 10 18) = true := by kernel_rfl
theorem shownC (w : World) : Calls Try.prog 10 #[] w fun e w' => e = .returned (.bool true) ∧ Stays w w' := closedTrue ftOk (drD_ok mix ftOk 16 4) shown_run w
theorem spShown_ok : ZCtOk Try.prog 10 spTrue := spTrue_ok shownC
end Go.Proofs.Ytjlfedhkpdogbaa.Ev
namespace Go.Proofs.Ytjlfedhkpdogbaa
open Go.ChangeShapes Go.WideShapes Go.ChangeAt Go.RowKit

theorem kept_of_stays {W W' : World} (h : Ev.Stays W W') (may : MemPlace → Prop) : W.keptBut W' may := by
  refine ⟨h.os, h.output, fun i hi => ?_⟩; have e := h.block i hi; rw [e]
  cases hb : W.heap[i]? with
  | none => simp
  | some o =>
    cases o <;> first | exact ⟨rfl, rfl, rfl, fun _ _ => rfl⟩ | exact .inr ⟨rfl, rfl⟩ | rfl
theorem frozen_of_stays {W W' : World} (h : Ev.Stays W W') (a : Addr) (ha : a.block < W.heap.size) : W'.frozen? a = W.frozen? a := by
  unfold World.frozen?; rw [h.block _ ha]
section
variable {H : Type} {enc : TypeId × Value → H} {P : Program}

theorem post_of_stays {f : Func} {s : ChangeSpec} {apart fresh handsOn again : Bool} {W W' : World} {args : Array Value} {v : Value} {ds gs : List (DataW H)} {before pa pv : List MemPlace}
    (hW : DataW.Whole enc P f.params.toList s.vars apart W args.toList ds gs before)
    (hres : ∀ (b : Nat) (sp : Nat → Bool) (hd : Bool), DataW.TrodAll enc P W' b sp hd f.resultTypes.toList (v.resultList f.resultTypes.size) (s.fn H (ds ++ gs)).results [])
    (hargs : ∀ sp : Nat → Bool, (∀ p ∈ before, sp p.block = true) → DataW.TrodAll enc P W' 0 sp true f.params.toList args.toList (s.fn H (ds ++ gs)).args pa)
    (hvars : ∀ sp : Nat → Bool, (∀ p ∈ before, sp p.block = true) → DataW.TrodVars enc P W' sp s.vars (s.fn H (ds ++ gs)).vars pv)
    (hps : before = pa ++ pv) (hst : Ev.Stays W W')
    (hok : ∀ (j : Nat) (t : TypeId) (r : Value), f.resultTypes[j]? = some t → (v.resultList f.resultTypes.size)[j]? = some r → Value.okWide P W' .any 0 t r) :
    s.post enc P f apart fresh handsOn again W args v W' := by
  have hk : W.keptBut W' (· ∈ before) := kept_of_stays hst _; have hold : ∀ p ∈ before, (fun b => decide (b < W.heap.size)) p.block = true := fun p hp => by simpa using hW.lt p hp
  have hlt := fun p hp => hW.lt p hp; refine ⟨ds, gs, before, [], pa, pv, hW, hres _ _ _, hargs _ hold, hvars _ hold, World.keptBut_mono (fun p hp => ⟨hp, ?_⟩) hk, fun _ => ?_⟩
  · rw [hps, List.mem_append] at hp; exact Or.inr hp
  · obtain ⟨_, _, _, _, _, hz, hn⟩ := hW; refine ⟨hok, _, _, ([] ++ pa) ++ pv, ⟨[] ++ pa, pv, trodAll_append (hargs _ (fun _ _ => rfl)) (hres _ _ _), hvars _ (fun _ _ => rfl), rfl, ?_, ?_⟩, ?_⟩
    · intro b off hp; have hp2 : MemPlace.cell b off ∈ before := by rw [hps]; simpa using hp
      rw [frozen_of_stays hst _ (hlt _ hp2)]; exact hz b off hp2
    · intro ha; have := hn ha; rw [hps] at this; simpa using this
    · intro p hp _; rw [hps]; simpa using hp
end
end Go.Proofs.Ytjlfedhkpdogbaa
namespace Go.Proofs.Ytjlfedhkpdogbaa
open Go.ChangeShapes Go.WideShapes Go.ChangeAt Go.RowKit
section
variable {H : Type} {enc : TypeId × Value → H} {P : Program}
theorem same_of_stays {W W' : World} (h : Ev.Stays W W') {p : MemPlace} (hp : p.block < W.heap.size) : W.sameAt W' p := by
  cases p with
  | cell b off =>
    show W'.cell? _ = W.cell? _; unfold World.cell?; rw [h.block b hp]
  | map b => exact h.block b hp
theorem args_carry {W W' : World} {base : Nat} {sp : Nat → Bool} {hd : Bool} : ∀ {ts : List TypeId} {vs : List Value} {ds : List (DataW H)} {ps : List MemPlace}, DataW.TrodAll enc P W base sp hd ts vs ds ps → (∀ p ∈ ps, W.sameAt W' p) → DataW.TrodAll enc P W' base sp hd ts vs ds ps
  | [], [], [], _, h, _ => h
  | _ :: _, _ :: _, _ :: _, _, ⟨p, q, ⟨n, h⟩, hs, e⟩, k => ⟨p, q, ⟨n, DataW.trod_carry n _ _ _ h fun x hx => k x (by rw [e]; exact List.mem_append_left _ hx)⟩, args_carry hs fun x hx => k x (by rw [e]; exact List.mem_append_right _ hx), e⟩
  | [], [], _ :: _, _, h, _ => h.elim
  | [], _ :: _, _, _, h, _ => h.elim
  | _ :: _, [], _, _, h, _ => h.elim
  | _ :: _, _ :: _, [], _, h, _ => h.elim

theorem post_law {f : Func} {s : ChangeSpec} {apart fresh handsOn again : Bool} {W W' : World} {args : Array Value} {ds : List (DataW H)} {p : List MemPlace} {bt : TypeId} {T : TypeId → Prop} (K : Kids P T) (hz : ∀ t e, T t → P.underlying t = some (.slice e) → 0 < P.cellsOf e)
    (hbt : P.underlying bt = some .bool) (hrt : f.resultTypes.toList = [bt]) (hsz : f.resultTypes.size = 1) (hvs : s.vars = []) (hfn : s.fn H (ds ++ []) = { results := [.lit (.bool true)], args := ds })
    (hpt : ∀ t ∈ f.params.toList, T t)
    (hW : DataW.Whole enc P f.params.toList s.vars apart W args.toList ds [] (p ++ [])) (hA : DataW.TrodAll enc P W 0 (fun _ => true) true f.params.toList args.toList ds p) (hst : Ev.Stays W W')
    (hok : ∀ (j : Nat) (t : TypeId) (r : Value), f.resultTypes[j]? = some t → ((Value.bool true).resultList f.resultTypes.size)[j]? = some r → Value.okWide P W' .any 0 t r) :
    s.post enc P f apart fresh handsOn again W args (.bool true) W' := by
  have hlt := fun q hq => hW.lt q hq; refine post_of_stays (pa := p) (pv := []) hW (fun b sp hd => ?_) (fun sp hsp => ?_) (fun sp _ => ?_) rfl hst hok
  · rw [hrt, hfn, hsz]; exact trodAll_mk1 (shut_bool hbt _)
  · rw [hfn]; exact DataW.TrodAll.respare K hz hpt (args_carry hA fun q hq => same_of_stays hst (hlt q (by simpa using hq))) fun q hq => hsp q (by simpa using hq)
  · rw [hfn, hvs]; rfl
end
namespace Ev


inductive UFit : Sh → U → Prop where
  | int (k : IntKind) (n : Int) (h : (Lit.int k n).wf = true) : UFit (.int k) (.i n)
  | bool (b : Bool) : UFit .bool (.b b)
  | str (s : ByteArray) (h : s.size ≤ maxLen) : UFit .str (.s s)
  | list (sh : List Sh) (l : List (List U)) (hl : l.length ≤ maxLen) (hr : ∀ j, j < l.length → (l.getD j []).length = sh.length) (h : ∀ (j f : Nat) (s : Sh), j < l.length → sh[f]? = some s → UFit s ((l.getD j []).getD f (.i 0))) : UFit (.list sh) (.l l)
structure RowFit (sh : List Sh) (r : List U) : Prop where
  len : r.length = sh.length
  fit : ∀ (f : Nat) (s : Sh), sh[f]? = some s → UFit s (r.getD f (.i 0))
theorem RowFit.nil : RowFit [] [] := ⟨rfl, fun f s h => by simp at h⟩
theorem RowFit.append {sh1 sh2 : List Sh} {r1 r2 : List U} (h1 : RowFit sh1 r1) (h2 : RowFit sh2 r2) : RowFit (sh1 ++ sh2) (r1 ++ r2) := by
  refine ⟨by simp [h1.len, h2.len], fun f s h => ?_⟩; rw [List.getD_eq_getElem?_getD]
  by_cases hf : f < sh1.length
  · rw [List.getElem?_append_left hf] at h; rw [List.getElem?_append_left (by rw [h1.len]; exact hf), ← List.getD_eq_getElem?_getD]; exact h1.fit f s h
  · rw [List.getElem?_append_right (by omega)] at h; rw [List.getElem?_append_right (by rw [h1.len]; omega), h1.len, ← List.getD_eq_getElem?_getD]; exact h2.fit _ s h
theorem recE_app : ∀ {sh1 sh2 : List Sh} {r1 r2 : List U}, r1.length = sh1.length → recE (sh1 ++ sh2) (r1 ++ r2) = recE sh1 r1 ++ recE sh2 r2
  | [], sh2, r1, r2, h => by
    have : r1 = [] := List.eq_nil_of_length_eq_zero h; subst this; rfl
  | s :: sh1, sh2, [], r2, h => by cases h
  | s :: sh1, sh2, u :: r1, r2, h => by
    show s.ev u :: recE (sh1 ++ sh2) (r1 ++ r2) = s.ev u :: (recE sh1 r1 ++ recE sh2 r2); rw [recE_app (by simpa using h)]

def shFs (P : Program) (f : TypeId → Option (List Sh)) : List Field → Nat → Option (List Sh)
  | [], _ => some []
  | fd :: r, off => match f fd.type with
    | some sh => if fd.offset = off ∧ P.cellsOf fd.type = sh.length then match shFs P f r (off + sh.length) with
      | some l => some (sh ++ l)
      | none => none else none
    | none => none
def shB (P : Program) : Nat → TypeId → Option (List Sh)
  | 0, _ => none
  | k + 1, t => match P.underlying t with
    | some (.int κ) => some [.int κ]
    | some .bool => some [.bool]
    | some .string => some [.str]
    | some (.slice e) => match shB P k e with
      | some sh => if P.cellsOf e = sh.length ∧ 0 < sh.length then some [.list sh] else none
      | none => none
    | some (.struct fs) => match shFs P (shB P k) fs.toList 0 with
      | some sh => if P.cellsOf t = sh.length then some sh else none
      | none => none
    | some (.array m e) => match shB P k e with
      | some sh => if P.cellsOf e = sh.length ∧ P.cellsOf t = m * sh.length then some (List.replicate m sh).flatten else none
      | none => none
    | _ => none
noncomputable def fzAll (W : World) : Nat → Option (Array Value) := fun k => match W.heap[k]? with
  | some (.cells a _ _) => some a
  | _ => none
noncomputable def gAll (W : World) : G := ⟨fun _ => none, fzAll W, fun _ _ _ => none⟩
theorem fzAll_at (W : World) : FzAt (gAll W) W := ⟨fun k a hk => (by
  have hk : fzAll W k = some a := hk; unfold fzAll at hk; split at hk
  · rename_i a' ty fz h; injection hk with hk; subst hk
    exact ⟨ty, fz, h⟩
  · cases hk), fun _ _ _ => rfl⟩
theorem list_of {Q : Nat → List U → Prop} : ∀ (n : Nat), (∀ i, i < n → ∃ r, Q i r) → ∃ l : List (List U), l.length = n ∧ ∀ i, i < n → Q i (l.getD i [])
  | 0, _ => ⟨[], rfl, fun i hi => absurd hi (by omega)⟩
  | n + 1, h => by
    obtain ⟨l, h1, h2⟩ := list_of n fun i hi => h i (by omega); obtain ⟨r, hr⟩ := h n (by omega); refine ⟨l ++ [r], by simp [h1], fun i hi => ?_⟩; rw [List.getD_eq_getElem?_getD]
    by_cases e : i < n
    · rw [List.getElem?_append_left (by omega), ← List.getD_eq_getElem?_getD]; exact h2 i e
    · have : i = n := by omega
      subst this; rw [List.getElem?_append_right (by omega), h1, Nat.sub_self]; exact hr
variable {H : Type} {enc : TypeId × Value → H} {P : Program} {W : World} {base : Nat} {sp : Nat → Bool} {hd : Bool}
def OpenAt (enc : TypeId × Value → H) (P : Program) (W : World) (base : Nat) (sp : Nat → Bool) (hd : Bool) (k : Nat) : Prop := ∀ (t : TypeId) (sh : List Sh) (fuel : Nat) (cs : List Value) (x : DataW H × List MemPlace), shB P k t = some sh → DataW.trod enc P W base sp hd fuel t cs = some x → ∃ r, RowFit sh r ∧ ∀ γ : G, γ.fz = fzAll W → ECL γ (recE sh r) cs
theorem fields_open {k : Nat} (ih : OpenAt enc P W base sp hd k) {cs : List Value} {n : Nat} : ∀ (fs : List Field) (off : Nat) (sh : List Sh), shFs P (shB P k) fs off = some sh → (∀ f, f ∈ fs → ∃ y, DataW.trod enc P W base sp hd n f.type ((cs.drop f.offset).take (P.cellsOf f.type)) = some y) → ∃ r, RowFit sh r ∧ ∀ γ : G, γ.fz = fzAll W → ECL γ (recE sh r) ((cs.drop off).take sh.length)
  | [], off, sh, h, _ => by
    injection (show some [] = some sh from h) with h; subst h
    exact ⟨[], .nil, fun γ _ => by
      rw [show ([] : List Sh).length = 0 from rfl, List.take_zero]; exact ECL.nil γ⟩
  | fd :: fs, off, sh, h, hall => by
    unfold shFs at h; split at h
    case h_2 => cases h
    rename_i s1 hs1; split at h
    case isFalse => cases h
    rename_i hc; split at h
    case h_2 => cases h
    rename_i s2 hs2; injection h with h; subst h
    obtain ⟨y, hy⟩ := hall fd (by simp); rw [hc.1, hc.2] at hy; obtain ⟨r1, h1, h2⟩ := ih fd.type s1 n _ y hs1 hy; obtain ⟨r2, h3, h4⟩ := fields_open ih fs (off + s1.length) s2 hs2 fun f hf => hall f (by simp [hf]); refine ⟨r1 ++ r2, h1.append h3, fun γ hγ => ?_⟩; rw [recE_app h1.len, List.length_append]; have e : (cs.drop off).take (s1.length + s2.length) = (cs.drop off).take s1.length ++ (cs.drop (off + s1.length)).take s2.length := by
      rw [List.take_add, List.drop_drop]
    rw [e]; exact (h2 γ hγ).append (h4 γ hγ)
theorem elems_open {k : Nat} (ih : OpenAt enc P W base sp hd k) {cs : List Value} {n : Nat} {e : TypeId} {sh : List Sh} (hsh : shB P k e = some sh) (hc : P.cellsOf e = sh.length) : ∀ (m i0 : Nat), (∀ i, i < m → ∃ y, DataW.trod enc P W base sp hd n e ((cs.drop ((i0 + i) * P.cellsOf e)).take (P.cellsOf e)) = some y) → ∃ r, RowFit (List.replicate m sh).flatten r ∧ ∀ γ : G, γ.fz = fzAll W → ECL γ (recE (List.replicate m sh).flatten r) ((cs.drop (i0 * sh.length)).take (m * sh.length))
  | 0, i0, _ => ⟨[], .nil, fun γ _ => by
      rw [Nat.zero_mul, List.take_zero]; exact ECL.nil γ⟩
  | m + 1, i0, h => by
    obtain ⟨y, hy⟩ := h 0 (by omega); rw [hc, Nat.add_zero] at hy; obtain ⟨r1, h1, h2⟩ := ih e sh n _ y hsh hy; obtain ⟨r2, h3, h4⟩ := elems_open ih hsh hc m (i0 + 1) fun i hi => by
      have := h (i + 1) (by omega)
      rwa [show i0 + (i + 1) = i0 + 1 + i by omega] at this
    refine ⟨r1 ++ r2, by rw [List.replicate_succ, List.flatten_cons]; exact h1.append h3, fun γ hγ => ?_⟩; rw [List.replicate_succ, List.flatten_cons, recE_app h1.len, Nat.succ_mul, Nat.add_comm, List.take_add, List.drop_drop]; have := h4 γ hγ; rw [Nat.succ_mul] at this; exact (h2 γ hγ).append this
theorem open_cells : ∀ k, OpenAt enc P W base sp hd k
  | 0 => fun t sh fuel cs x h => by cases h
  | k + 1 => fun t sh fuel cs x h ht => by
    have ih : OpenAt enc P W base sp hd k := open_cells k; unfold shB at h; split at h
    · rename_i κ hu; injection h with h; subst h
      obtain ⟨n, rfl, _, hw⟩ := DataW.trod_int hu ht; refine ⟨[.i n], ⟨rfl, fun f s hf => ?_⟩, fun γ _ => .cons (.v _) (.nil _)⟩; obtain ⟨rfl, rfl⟩ := one_f hf; exact .int κ n hw
    · rename_i hu; injection h with h; subst h
      obtain ⟨b, rfl, _⟩ := DataW.trod_bool hu ht; refine ⟨[.b b], ⟨rfl, fun f s hf => ?_⟩, fun γ _ => .cons (.v _) (.nil _)⟩; obtain ⟨rfl, rfl⟩ := one_f hf; exact .bool b
    · rename_i hu; injection h with h; subst h
      obtain ⟨s, rfl, _, hs⟩ := DataW.trod_string hu ht; refine ⟨[.s s], ⟨rfl, fun f s hf => ?_⟩, fun γ _ => .cons (.v _) (.nil _)⟩; obtain ⟨rfl, rfl⟩ := one_f hf; exact .str _ hs
    · rename_i e hu; split at h
      case h_2 => cases h
      rename_i sh' hsh; split at h
      case isFalse => cases h
      rename_i hc; injection h with h; subst h
      rcases DataW.trod_slice hu ht with ⟨rfl, _⟩ | ⟨a, len, cap, elems, rest, n, _, rfl, _, hb, hlc, hcm, hel, hall, _⟩
      · refine ⟨[.l []], ⟨rfl, fun f s hf => ?_⟩, fun γ _ => .cons ?_ (.nil _)⟩
        · obtain ⟨rfl, rfl⟩ := one_f hf; exact .list sh' [] (Nat.zero_le _) (fun j hj => by simp at hj) (fun j f s hj => by simp at hj)
        · exact UOk.ec (s := .list sh') (.empty sh' (.l []) none 0 rfl (Nat.zero_le _) fun _ => rfl)
      · have each : ∀ i, i < len → ∃ r, RowFit sh' r ∧ ∃ ys, W.cells? base (a.add (i * sh'.length)) sh'.length = some ys ∧ ∀ γ : G, γ.fz = fzAll W → ECL γ (recE sh' r) ys := fun i hi => by
          have h1 := hall i hi; rw [hc.1] at h1; have h2 : i < elems.length := by omega
          rw [List.getElem?_eq_getElem h2] at h1; obtain ⟨ys, h3, h4⟩ := Option.bind_eq_some_iff.1 h1; obtain ⟨r, h5, h6⟩ := ih e sh' n ys _ hsh h4; exact ⟨r, h5, ys, h3, h6⟩
        obtain ⟨l, hl, hQ⟩ := list_of len each; refine ⟨[.l l], ⟨rfl, fun f s hf => ?_⟩, fun γ hγ => .cons ?_ (.nil _)⟩
        · obtain ⟨rfl, rfl⟩ := one_f hf; exact .list sh' l (by omega) (fun j hj => (hQ j (by omega)).1.len) fun j f s hj hf => (hQ j (by omega)).1.fit f s hf
        · refine UOk.ec (s := .list sh') ?_
          by_cases h0 : len = 0
          · have : l = [] := List.eq_nil_of_length_eq_zero (by omega); subst this; subst h0; exact .empty sh' (.l []) (some a) cap rfl hcm fun e => by cases e
          · obtain ⟨b, off, spot⟩ := a; have hblk : spot = none ∧ ∃ arr ty fz, W.heap[b]? = some (.cells arr ty fz) := by
              obtain ⟨h1, ys, h2, h3⟩ := hQ 0 (by omega); obtain ⟨_, h4, h5⟩ := World.cells?_some h2; have h6 := h5 0 hc.2; rw [List.getElem?_eq_getElem (show 0 < ys.length by omega)] at h6; have h6 : W.cell? ⟨b, off, spot⟩ = some ys[0] := by
                have e : ((⟨b, off, spot⟩ : Addr).add (0 * sh'.length)).add 0 = ⟨b, off, spot⟩ := by simp [Addr.add]
                rw [e] at h6; exact h6
              unfold World.cell? at h6; split at h6
              · rename_i arr ty fz hb'; split at h6
                · cases h6
                · rename_i hs; exact ⟨by cases spot <;> simp_all, arr, ty, fz, hb'⟩
              · cases h6
            obtain ⟨rfl, arr, ty, fz, hblk⟩ := hblk; have cellAt : ∀ i f, i < len → f < sh'.length → ∃ y, W.cell? ⟨b, off + (i * sh'.length + f), none⟩ = some y ∧ ∀ s, sh'[f]? = some s → UOk γ.fz s ((l.getD i []).getD f (.i 0)) y := fun i f hi hf => by
              obtain ⟨h1, ys, h2, h3⟩ := hQ i hi; obtain ⟨_, h4, h5⟩ := World.cells?_some h2; have h6 := h5 f hf; have h7 : f < ys.length := by omega
              rw [List.getElem?_eq_getElem h7] at h6; refine ⟨ys[f], ?_, fun s hs => ?_⟩
              · have e : ((⟨b, off, none⟩ : Addr).add (i * sh'.length)).add f = ⟨b, off + (i * sh'.length + f), none⟩ := by
                  unfold Addr.add; split <;> split <;> simp_all [Nat.add_assoc]
                rw [← h6, e]
              · have h8 := recE_get (s := s) (f := f) (sh := sh') (l.getD i []) hs; have h9 := (h3 γ hγ).2 f _ ys[f] h8 (List.getElem?_eq_getElem h7); exact UOk.of_ec h9
            have getA : ∀ i f, i < len → f < sh'.length → ∃ y, arr[off + (i * sh'.length + f)]? = some y ∧ ∀ s, sh'[f]? = some s → UOk γ.fz s ((l.getD i []).getD f (.i 0)) y := fun i f hi hf => by
              obtain ⟨y, h1, h2⟩ := cellAt i f hi hf; refine ⟨y, ?_, h2⟩; unfold World.cell? at h1; simpa [hblk] using h1
            have hk : γ.fz b = some arr := by
              rw [hγ]; unfold fzAll; rw [hblk]
            subst hl; refine .list sh' (.l l) b off cap arr hk hlc hcm ?_ fun j f s x hj hf hx => ?_
            · show off + l.length * sh'.length ≤ arr.size; obtain ⟨y, h1, _⟩ := getA (l.length - 1) (sh'.length - 1) (by omega) (by omega); have := (Array.getElem?_eq_some_iff.1 h1).1; have e : l.length * sh'.length = (l.length - 1) * sh'.length + sh'.length := by rw [← Nat.succ_mul]; congr 1; omega
              omega
            · obtain ⟨y, h1, h2⟩ := getA j f hj (List.getElem?_eq_some_iff.1 hf).1; rw [h1] at hx; injection hx with hx; subst hx; exact h2 s hf
    · rename_i fs hu; split at h
      case h_2 => cases h
      rename_i sh' hsh; split at h
      case isFalse => cases h
      rename_i hc; injection h with h; subst h
      obtain ⟨xs, n, _, _, hl, hlen, hf⟩ := DataW.trod_struct hu ht; obtain ⟨r, h1, h2⟩ := fields_open (cs := cs) (n := n) ih fs.toList 0 sh' hsh fun f hm => by
        obtain ⟨i, hi, rfl⟩ := List.getElem_of_mem hm; have hi2 : i < fs.size := by simpa using hi
        have := hf i fs.toList[i] (by simp [hi2]); rw [List.getElem?_eq_getElem (by omega)] at this; exact ⟨_, this⟩
      refine ⟨r, h1, fun γ hγ => ?_⟩; have := h2 γ hγ
      rwa [List.drop_zero, List.take_of_length_le (by omega)] at this
    · rename_i m e hu; split at h
      case h_2 => cases h
      rename_i sh' hsh; split at h
      case isFalse => cases h
      rename_i hc; injection h with h; subst h
      obtain ⟨xs, n, _, _, hl, hlen, hf⟩ := DataW.trod_array hu ht; obtain ⟨r, h1, h2⟩ := elems_open (cs := cs) (n := n) ih hsh hc.1 m 0 fun i hi => by
        have := hf i hi; rw [List.getElem?_eq_getElem (by omega)] at this; rw [Nat.zero_add]; exact ⟨_, this⟩
      refine ⟨r, h1, fun γ hγ => ?_⟩; have := h2 γ hγ
      rwa [Nat.zero_mul, List.drop_zero, List.take_of_length_le (by omega)] at this
    · cases h

theorem open_agg {t : TypeId} {fs : Array Field} {v : Value} {d : DataW H} {ps : List MemPlace} {k b0 : Nat} {rc : Reach} {sh : List Sh} (hu : P.underlying t = some (.struct fs)) (hs : shB P k t = some sh) (hv : Value.okWide P W rc b0 t v) (h : DataW.Trod enc P W base sp hd t v d ps) : ∃ r, RowFit sh r ∧ EC (gAll W) (.agg (recE sh r)) v := by
  obtain ⟨cs, rfl, _⟩ := okWide_struct hu hv; obtain ⟨fuel, hf⟩ := h; obtain ⟨r, h1, h2⟩ := open_cells k t sh fuel _ _ hs hf; have h3 := h2 (gAll W) rfl; refine ⟨r, h1, ?_⟩; have := EC.agg (γ := gAll W) (recE sh r) cs.toList h3.1 h3.2; simpa using this

end Ev
end Go.Proofs.Ytjlfedhkpdogbaa
namespace Go.Proofs.Ytjlfedhkpdogbaa.Ev
open Go.Proofs
namespace LPts
end LPts
noncomputable def spPts : ZCT := fun ax => match ax with
  | [.lst (.recs [.int .i64, .int .i64, .int .i64] a), .lst (.recs [.int .i64, .int .i64, .int .i64] b)] => some ⟨decide (eqR a b ∧ a.length ≤ 100000), bv true, [], 0⟩
  | _ => none
namespace LFar
noncomputable def RUN (s : ES) : ZF := RZ 9 .nil (fun _ => false) [] [] false s
theorem in_t (n k : Int) (X P : List (List U)) : RUN (st0 9 [clE n X P, iv k]) = (bc (decide (k < Int.ofNat (List.length X))) (bc (decide (Int.ofNat (List.length X) ≤ (20000 : Int))) (.done (EV.v (Value.bool true)) [] 0) (bc (decide ((20100 : Int) < Int.ofNat (List.length X))) (.done (EV.v (Value.bool true)) [] 0) (bc (decide ((60 : Int) < n)) (.done (EV.v (Value.bool true)) [] 0) (bc (decide (k < Int.ofNat (List.length P))) (bc (decide (Int.ofNat (List.length P) ≤ (6400 : Int))) (.done (EV.v (Value.bool true)) [] 0) (.done (EV.v (Value.bool (decide ((6500 : Int) < Int.ofNat (List.length P))))) [] 0)) (.done (EV.v (Value.bool (decide ((6500 : Int) < Int.ofNat (List.length P))))) [] 0))))) (bc (decide ((20100 : Int) < Int.ofNat (List.length X))) (.done (EV.v (Value.bool true)) [] 0) (bc (decide ((60 : Int) < n)) (.done (EV.v (Value.bool true)) [] 0) (bc (decide (k < Int.ofNat (List.length P))) (bc (decide (Int.ofNat (List.length P) ≤ (6400 : Int))) (.done (EV.v (Value.bool true)) [] 0) (.done (EV.v (Value.bool (decide ((6500 : Int) < Int.ofNat (List.length P))))) [] 0)) (.done (EV.v (Value.bool (decide ((6500 : Int) < Int.ofNat (List.length P))))) [] 0))))) := by kernel_rfl
end LFar

noncomputable def farB (n k : Int) (X P : List (List U)) : Bool := bc (decide (k < (X.length : Int) ∧ (X.length : Int) ≤ 20000)) true (bc (decide (20100 < (X.length : Int))) true (bc (decide (60 < n)) true (bc (decide (k < (P.length : Int) ∧ (P.length : Int) ≤ 6400)) true (decide (6500 < (P.length : Int))))))
theorem LFar.ends (n k : Int) (X P : List (List U)) : EndZ 9 .nil false (st0 9 [clE n X P, iv k]) (bv (farB n k X P)) [] 0 := by
  have h := LFar.in_t n k X P; unfold farB; simp only [ofn] at h; have h3 : ∀ {R : ZF}, R = bc (decide (k < (P.length : Int))) (bc (decide ((P.length : Int) ≤ 6400)) (.done (bv true) [] 0) (.done (bv (decide (6500 < (P.length : Int)))) [] 0)) (.done (bv (decide (6500 < (P.length : Int)))) [] 0) → R = .done (bv (bc (decide (k < (P.length : Int) ∧ (P.length : Int) ≤ 6400)) true (decide (6500 < (P.length : Int))))) [] 0 := by
    intro R e; rw [e]
    by_cases h1 : k < (P.length : Int)
    · by_cases h2 : (P.length : Int) ≤ 6400
      · rw [dt h1, dt h2, dt (show k < (P.length : Int) ∧ (P.length : Int) ≤ 6400 from ⟨h1, h2⟩)]; rfl
      · rw [dt h1, df h2, df (show ¬ (k < (P.length : Int) ∧ (P.length : Int) ≤ 6400) from fun h => h2 h.2)]; rfl
    · rw [df h1, df (show ¬ (k < (P.length : Int) ∧ (P.length : Int) ≤ 6400) from fun h => h1 h.1)]; rfl
  have h4 : ∀ {R : ZF}, R = bc (decide (20100 < (X.length : Int))) (.done (bv true) [] 0) (bc (decide (60 < n)) (.done (bv true) [] 0) (bc (decide (k < (P.length : Int))) (bc (decide ((P.length : Int) ≤ 6400)) (.done (bv true) [] 0) (.done (bv (decide (6500 < (P.length : Int)))) [] 0)) (.done (bv (decide (6500 < (P.length : Int)))) [] 0))) → R = .done (bv (bc (decide (20100 < (X.length : Int))) true (bc (decide (60 < n)) true (bc (decide (k < (P.length : Int) ∧ (P.length : Int) ≤ 6400)) true (decide (6500 < (P.length : Int))))))) [] 0 := by
    intro R e; rw [e]; cases decide (20100 < (X.length : Int))
    · rw [bc_f, bc_f]; cases decide (60 < n)
      · rw [bc_f, bc_f]; exact h3 rfl
      · rfl
    · rfl
  by_cases h1 : k < (X.length : Int)
  · by_cases h2 : (X.length : Int) ≤ 20000
    · rw [dt h1, dt h2, bc_t, bc_t] at h; rw [dt (show k < (X.length : Int) ∧ (X.length : Int) ≤ 20000 from ⟨h1, h2⟩), bc_t]
      exact .done h
    · rw [dt h1, df h2, bc_t, bc_f] at h; rw [df (show ¬ (k < (X.length : Int) ∧ (X.length : Int) ≤ 20000) from fun h => h2 h.2), bc_f]
      exact .done (h4 h)
  · rw [df h1, bc_f] at h; rw [df (show ¬ (k < (X.length : Int) ∧ (X.length : Int) ≤ 20000) from fun h => h1 h.1), bc_f]
    exact .done (h4 h)
noncomputable def spFar : ZCT := fun ax => match ax with
  | [.agg [.v (.int .i64 n), .lst (.recs [.int .i64, .int .i64, .int .i64, .int .i64] X), .lst (.recs [.int .i64, .int .i64, .int .i64, .int .i64] P)], .v (.int .i64 k)] => some ⟨decide (True), bv (farB n k X P), [], 0⟩
  | _ => none
theorem spFar_ok : ZCtOk Try.prog 9 spFar := fun γ w us ax r hs hc hax hN hfz => by
  unfold spFar at hs; split at hs
  case h_2 => cases hs
  rename_i n X P k; obtain ⟨rfl⟩ := Option.some.inj hs; have hc_0 : decide (True) = true := hc; have hc := of_decide_eq_true hc_0; exact EndZ.calls (LFar.ends n k X P) (.nil _) (by kernel_rfl) hax hN hfz
namespace ACmF
end ACmF
end Go.Proofs.Ytjlfedhkpdogbaa.Ev
namespace Go.Proofs.Ytjlfedhkpdogbaa.Ev
open Go.Proofs
noncomputable def diP (n m : Int) (X P Y Q : List (List U)) : List Int × List Int := bc (fiE n m X P Y Q != 0) ([], []) (othF (coP n m X P Y Q).1 0 X.length, othF (coP n m X P Y Q).2 0 Y.length)
theorem comF_len {Y R : List (List U)} : ∀ (q : List (List U)) (i : Nat) (D : List Int), (comF Y R q i D).1.length ≤ q.length ∧ (comF Y R q i D).2.length ≤ q.length
  | [], _, _ => ⟨Nat.le_refl _, Nat.le_refl _⟩
  | r :: q, i, D => by
    unfold comF; generalize comB Y R D r = b; obtain ⟨h1, h2⟩ := comF_len (Y := Y) (R := R) q (i + 1) (stepD b D r); cases b
    · rw [bc_f, List.length_cons]; exact ⟨by omega, by omega⟩
    · rw [bc_t, List.length_cons, List.length_cons, List.length_cons]; exact ⟨by omega, by omega⟩
theorem fiE_0 {n m : Int} {X P Y Q : List (List U)} (hE : fiE n m X P Y Q = 0) : chk17 n X P = 0 ∧ chk17 m Y Q = 0 ∧ n = m := by
  have z1 : chk17 n X P = 0 := by
    apply Classical.byContradiction; intro z; unfold fiE at hE; rw [show (chk17 n X P != 0) = true by simp [z], bc_t] at hE; exact z hE
  have b1 : (chk17 n X P != 0) = false := by simp [z1]
  have z2 : chk17 m Y Q = 0 := by
    apply Classical.byContradiction; intro z; unfold fiE at hE; rw [b1, bc_f, show (chk17 m Y Q != 0) = true by simp [z], bc_t] at hE; exact z hE
  have b3 : (chk17 m Y Q != 0) = false := by simp [z2]
  refine ⟨z1, z2, ?_⟩; apply Classical.byContradiction; intro z; unfold fiE at hE; rw [b1, bc_f, b3, bc_f, show (n != m) = true by simp [z], bc_t] at hE; cases hE
theorem coP_len {n m : Int} {X P Y Q : List (List U)} : (coP n m X P Y Q).1.length ≤ 20000 ∧ (coP n m X P Y Q).2.length ≤ 20000 := by
  unfold coP; cases h : (fiE n m X P Y Q != 0)
  · rw [bc_f]; have h0 : fiE n m X P Y Q = 0 := by simpa using h
    obtain ⟨z1, _⟩ := fiE_0 h0; obtain ⟨_, _, c3, _⟩ := chk17_ok z1; have := comF_len (Y := Y) (R := rowsT (thF Y 0 (th0 n.toNat))) X 0 (zerosL n.toNat); exact ⟨by omega, by omega⟩
  · rw [bc_t]; exact ⟨Nat.zero_le _, Nat.zero_le _⟩
theorem dif_err {n m : Int} {X P Y Q : List (List U)} (h : (fiE n m X P Y Q != 0) = true) : Weak (.tup [.v (.slice none 0 0), .v (.slice none 0 0), iv (fiE n m X P Y Q)]) (.tup [il (diP n m X P Y Q).1, il (diP n m X P Y Q).2, iv (fiE n m X P Y Q)]) := by
  unfold diP; rw [h, bc_t]; exact Weak.tup (.cons (Weak.nilI _) (.cons (Weak.nilI _) (.cons (Weak.refl _) .nil)))
theorem dif_ok {n m : Int} {X P Y Q : List (List U)} (h : (fiE n m X P Y Q != 0) = false) : X.length ≤ 20000 ∧ Y.length ≤ 20000 ∧ diP n m X P Y Q = (othF (coP n m X P Y Q).1 0 X.length, othF (coP n m X P Y Q).2 0 Y.length) := by
  have h0 : fiE n m X P Y Q = 0 := by simpa using h
  obtain ⟨z1, z2, _⟩ := fiE_0 h0; obtain ⟨_, _, c3, _⟩ := chk17_ok z1; obtain ⟨_, _, d3, _⟩ := chk17_ok z2; refine ⟨c3, d3, ?_⟩; unfold diP; rw [h, bc_f]
theorem PDif.ends (n m : Int) (X P Y Q : List (List U)) : EndZ 25 ctPD false (st0 25 [clE n X P, clE m Y Q]) (.tup [il (diP n m X P Y Q).1, il (diP n m X P Y Q).2, iv (fiE n m X P Y Q)]) [] 0 := by
  have h := PDif.in_t n m X P Y Q; cases h0 : (fiE n m X P Y Q != 0)
  · obtain ⟨c3, d3, hd⟩ := dif_ok h0; have hl := coP_len (n := n) (m := m) (X := X) (P := P) (Y := Y) (Q := Q); have hE : fiE n m X P Y Q = 0 := by simpa using h0
    rw [h0, bc_f] at h; rw [hd, hE]; rw [eqSy_self, dt (show (0 : Int) ≤ Int.ofNat X.length ∧ Int.ofNat X.length ≤ 50000 ∧ (coP n m X P Y Q).1.length ≤ 50000 from ⟨by rw [ofn]; omega, by rw [ofn]; omega, by omega⟩), dt (show (0 : Int) ≤ Int.ofNat Y.length ∧ Int.ofNat Y.length ≤ 50000 ∧ (coP n m X P Y Q).2.length ≤ 50000 from ⟨by rw [ofn]; omega, by rw [ofn]; omega, by omega⟩)] at h
    exact .done h
  · rw [h0, bc_t] at h; exact (EndZ.done h).weak (dif_err h0)
noncomputable def spPDif : ZCT := fun ax => match ax with
  | [.agg [.v (.int .i64 n), .lst (.recs [.int .i64, .int .i64, .int .i64, .int .i64] X), .lst (.recs [.int .i64, .int .i64, .int .i64, .int .i64] P)], .agg [.v (.int .i64 m), .lst (.recs [.int .i64, .int .i64, .int .i64, .int .i64] Y), .lst (.recs [.int .i64, .int .i64, .int .i64, .int .i64] Q)]] => some ⟨decide (True), .tup [il (diP n m X P Y Q).1, il (diP n m X P Y Q).2, iv (fiE n m X P Y Q)], [], 0⟩
  | _ => none
theorem spPDif_ok : ZCtOk Try.prog 25 spPDif := fun γ w us ax r hs hc hax hN hfz => by
  unfold spPDif at hs; split at hs
  case h_2 => cases hs
  rename_i n X P m Y Q; obtain ⟨rfl⟩ := Option.some.inj hs; have hc_0 : decide (True) = true := hc; have hc := of_decide_eq_true hc_0; exact EndZ.calls (PDif.ends n m X P Y Q) ctPD_ok (by kernel_rfl) hax hN hfz
namespace PWor
end PWor
namespace RWor
end RWor
namespace LInt
end LInt
end Go.Proofs.Ytjlfedhkpdogbaa.Ev
namespace Go.Proofs.Ytjlfedhkpdogbaa.Ev
open Go.Proofs
namespace LIns
end LIns
namespace ACmC
end ACmC
end Go.Proofs.Ytjlfedhkpdogbaa.Ev
namespace Go.Proofs.Ytjlfedhkpdogbaa.Ev

theorem sameF_all {X Y : List (List U)} (h : ∀ t, hiF t Y = hiF t X) : ∀ (k t : Nat), sameF X Y t k = true
  | 0, _ => rfl
  | k + 1, t => by
    unfold sameF; rw [h, meB_refl, bc_t]; exact sameF_all h k (t + 1)
end Go.Proofs.Ytjlfedhkpdogbaa.Ev
namespace Go.Proofs.Ytjlfedhkpdogbaa.Ev
open Go.Proofs
noncomputable def shI (o u o2 u2 : Int) : Bool := bc (o == o2) true (bc (o == u2) true (bc (u == o2) true (u == u2)))
namespace LShr
noncomputable def RUN (s : ES) : ZF := RZ 40 .nil (fun _ => false) [] [] false s
theorem in0_t (w a o u w2 a2 o2 u2 : Int) : RUN (st0 40 [EV.agg [.v (.int .i64 w), .v (.int .i64 a), .v (.int .i64 o), .v (.int .i64 u)], EV.agg [.v (.int .i64 w2), .v (.int .i64 a2), .v (.int .i64 o2), .v (.int .i64 u2)]]) = (bc (o == o2) (.done (EV.v (Value.bool true)) [] 0) (bc (o == u2) (.done (EV.v (Value.bool true)) [] 0) (bc (u == o2) (.done (EV.v (Value.bool true)) [] 0) (.done (EV.v (Value.bool (u == u2))) [] 0)))) := by kernel_rfl
theorem in1_t (w a o u w2 a2 o2 u2 : Int) : RUN (st0 40 [EV.v (.agg (Array.mk [.int .i64 w, .int .i64 a, .int .i64 o, .int .i64 u])), EV.agg [.v (.int .i64 w2), .v (.int .i64 a2), .v (.int .i64 o2), .v (.int .i64 u2)]]) = (bc (o == o2) (.done (EV.v (Value.bool true)) [] 0) (bc (o == u2) (.done (EV.v (Value.bool true)) [] 0) (bc (u == o2) (.done (EV.v (Value.bool true)) [] 0) (.done (EV.v (Value.bool (u == u2))) [] 0)))) := by kernel_rfl
theorem in2_t (w a o u w2 a2 o2 u2 : Int) : RUN (st0 40 [EV.agg [.v (.int .i64 w), .v (.int .i64 a), .v (.int .i64 o), .v (.int .i64 u)], EV.v (.agg (Array.mk [.int .i64 w2, .int .i64 a2, .int .i64 o2, .int .i64 u2]))]) = (bc (o == o2) (.done (EV.v (Value.bool true)) [] 0) (bc (o == u2) (.done (EV.v (Value.bool true)) [] 0) (bc (u == o2) (.done (EV.v (Value.bool true)) [] 0) (.done (EV.v (Value.bool (u == u2))) [] 0)))) := by kernel_rfl
theorem in3_t (w a o u w2 a2 o2 u2 : Int) : RUN (st0 40 [EV.v (.agg (Array.mk [.int .i64 w, .int .i64 a, .int .i64 o, .int .i64 u])), EV.v (.agg (Array.mk [.int .i64 w2, .int .i64 a2, .int .i64 o2, .int .i64 u2]))]) = (bc (o == o2) (.done (EV.v (Value.bool true)) [] 0) (bc (o == u2) (.done (EV.v (Value.bool true)) [] 0) (bc (u == o2) (.done (EV.v (Value.bool true)) [] 0) (.done (EV.v (Value.bool (u == u2))) [] 0)))) := by kernel_rfl
theorem fin {s : ES} {o u o2 u2 : Int} (h : RUN s = bc (o == o2) (.done (bv true) [] 0) (bc (o == u2) (.done (bv true) [] 0) (bc (u == o2) (.done (bv true) [] 0) (.done (bv (u == u2)) [] 0)))) : EndZ 40 .nil false s (bv (shI o u o2 u2)) [] 0 := by
  unfold shI; cases h1 : (o == o2) <;> rw [h1] at h
  · cases h2 : (o == u2) <;> rw [h2] at h
    · cases h3 : (u == o2) <;> rw [h3] at h
      · exact .done h
      · exact .done h
    · exact .done h
  · exact .done h
end LShr
noncomputable def spShr_0 : ZCT := fun ax => match ax with
  | [.agg [.v (.int .i64 w), .v (.int .i64 a), .v (.int .i64 o), .v (.int .i64 u)], .agg [.v (.int .i64 w2), .v (.int .i64 a2), .v (.int .i64 o2), .v (.int .i64 u2)]] => some ⟨decide (True), bv (shI o u o2 u2), [], 0⟩
  | _ => none
theorem spShr_0_ok : ZCtOk Try.prog 40 spShr_0 := fun γ w us ax r hs hc hax hN hfz => by
  unfold spShr_0 at hs; split at hs
  case h_2 => cases hs
  rename_i w a o u w2 a2 o2 u2; obtain ⟨rfl⟩ := Option.some.inj hs; have hc_0 : decide (True) = true := hc; have hc := of_decide_eq_true hc_0; exact EndZ.calls (LShr.fin (LShr.in0_t w a o u w2 a2 o2 u2)) (.nil _) (by kernel_rfl) hax hN hfz
noncomputable def spShr_1 : ZCT := fun ax => match ax with
  | [.v (.agg (Array.mk [.int .i64 w, .int .i64 a, .int .i64 o, .int .i64 u])), .agg [.v (.int .i64 w2), .v (.int .i64 a2), .v (.int .i64 o2), .v (.int .i64 u2)]] => some ⟨decide (True), bv (shI o u o2 u2), [], 0⟩
  | _ => none
theorem spShr_1_ok : ZCtOk Try.prog 40 spShr_1 := fun γ w us ax r hs hc hax hN hfz => by
  unfold spShr_1 at hs; split at hs
  case h_2 => cases hs
  rename_i w a o u w2 a2 o2 u2; obtain ⟨rfl⟩ := Option.some.inj hs; have hc_0 : decide (True) = true := hc; have hc := of_decide_eq_true hc_0; exact EndZ.calls (LShr.fin (LShr.in1_t w a o u w2 a2 o2 u2)) (.nil _) (by kernel_rfl) hax hN hfz
noncomputable def spShr_2 : ZCT := fun ax => match ax with
  | [.agg [.v (.int .i64 w), .v (.int .i64 a), .v (.int .i64 o), .v (.int .i64 u)], .v (.agg (Array.mk [.int .i64 w2, .int .i64 a2, .int .i64 o2, .int .i64 u2]))] => some ⟨decide (True), bv (shI o u o2 u2), [], 0⟩
  | _ => none
theorem spShr_2_ok : ZCtOk Try.prog 40 spShr_2 := fun γ w us ax r hs hc hax hN hfz => by
  unfold spShr_2 at hs; split at hs
  case h_2 => cases hs
  rename_i w a o u w2 a2 o2 u2; obtain ⟨rfl⟩ := Option.some.inj hs; have hc_0 : decide (True) = true := hc; have hc := of_decide_eq_true hc_0; exact EndZ.calls (LShr.fin (LShr.in2_t w a o u w2 a2 o2 u2)) (.nil _) (by kernel_rfl) hax hN hfz
noncomputable def spShr_3 : ZCT := fun ax => match ax with
  | [.v (.agg (Array.mk [.int .i64 w, .int .i64 a, .int .i64 o, .int .i64 u])), .v (.agg (Array.mk [.int .i64 w2, .int .i64 a2, .int .i64 o2, .int .i64 u2]))] => some ⟨decide (True), bv (shI o u o2 u2), [], 0⟩
  | _ => none
theorem spShr_3_ok : ZCtOk Try.prog 40 spShr_3 := fun γ w us ax r hs hc hax hN hfz => by
  unfold spShr_3 at hs; split at hs
  case h_2 => cases hs
  rename_i w a o u w2 a2 o2 u2; obtain ⟨rfl⟩ := Option.some.inj hs; have hc_0 : decide (True) = true := hc; have hc := of_decide_eq_true hc_0; exact EndZ.calls (LShr.fin (LShr.in3_t w a o u w2 a2 o2 u2)) (.nil _) (by kernel_rfl) hax hN hfz
noncomputable def spShr : ZCT := ZCT.or spShr_0 (ZCT.or spShr_1 (ZCT.or spShr_2 (spShr_3)))
theorem spShr_ok : ZCtOk Try.prog 40 spShr := spShr_0_ok.or (spShr_1_ok.or (spShr_2_ok.or (spShr_3_ok)))
noncomputable def ctSh : Tr ZCC := Tr.nil.put 40 (some (dC spShr))
theorem ctSh_ok : ZCtsOk Try.prog ctSh := (ZCtsOk.nil _).add rfl spShr_ok
end Go.Proofs.Ytjlfedhkpdogbaa.Ev
namespace Go.Proofs.Ytjlfedhkpdogbaa.Ev
open Go.Proofs
namespace LKpt
noncomputable def RUN (s : ES) : ZF := RZs 18 ctSh [(atS 0 18 4, [[(2,none),(3,none),(4,none),(5,none),(9,none)]]), (atS 0 18 12, [[(2,none),(3,none),(4,none),(5,none),(9,none),(11,none),(12,none)]])] [] false s

noncomputable def sO (n m : Int) (X P Y Q : List (List U)) (x y : List Int) (i : Int) : NS := ⟨[⟨18, 137, [(2, (EV.lst (SyC.ints IntKind.i64 (x)))), (3, (EV.lst (SyC.ints IntKind.i64 (y)))), (4, (EV.ptr 0 0)), (5, (EV.ptr 1 0)), (9, iv i)], [.it (.code (nav [1, 1, 0, 1, 0, 0, 0] (bodyOf Try.f18))), .it (.code (nav [1, 1, 0, 1, 0, 0, 1] (bodyOf Try.f18))), .it (.inLoop (nav [1, 1, 0, 1, 0, 0] (bodyOf Try.f18))), .it (.inBlock 0), .it (.code (nav [1, 1, 1] (bodyOf Try.f18)))], [], Option.none⟩], [(0, (EK.cells 25 [(EV.v (Value.int IntKind.i64 (n))), (EV.lst (SyC.recs [(Sh.int IntKind.i64), (Sh.int IntKind.i64), (Sh.int IntKind.i64), (Sh.int IntKind.i64)] (X))), (EV.lst (SyC.recs [(Sh.int IntKind.i64), (Sh.int IntKind.i64), (Sh.int IntKind.i64), (Sh.int IntKind.i64)] (P)))] true)), (1, (EK.cells 25 [(EV.v (Value.int IntKind.i64 (m))), (EV.lst (SyC.recs [(Sh.int IntKind.i64), (Sh.int IntKind.i64), (Sh.int IntKind.i64), (Sh.int IntKind.i64)] (Y))), (EV.lst (SyC.recs [(Sh.int IntKind.i64), (Sh.int IntKind.i64), (Sh.int IntKind.i64), (Sh.int IntKind.i64)] (Q)))] true))], 2⟩
noncomputable def sI (n m : Int) (X P Y Q : List (List U)) (x y : List Int) (w a o u : Int) (i k : Int) : NS := ⟨[⟨18, 137, [(2, (EV.lst (SyC.ints IntKind.i64 (x)))), (3, (EV.lst (SyC.ints IntKind.i64 (y)))), (4, (EV.ptr 0 0)), (5, (EV.ptr 1 0)), (9, (EV.v (Value.int IntKind.i64 (i)))), (11, (EV.ptr 2 0)), (12, iv k)], [.it (.code (nav [1, 1, 0, 1, 0, 0, 1, 0, 0, 1, 1, 1, 1, 0, 0, 0] (bodyOf Try.f18))), .it (.code (nav [1, 1, 0, 1, 0, 0, 1, 0, 0, 1, 1, 1, 1, 0, 0, 1] (bodyOf Try.f18))), .it (.inLoop (nav [1, 1, 0, 1, 0, 0, 1, 0, 0, 1, 1, 1, 1, 0, 0] (bodyOf Try.f18))), .it (.inBlock 2), .it (.inBlock 1), .it (.code (nav [1, 1, 0, 1, 0, 0, 1, 1] (bodyOf Try.f18))), .it (.inLoop (nav [1, 1, 0, 1, 0, 0] (bodyOf Try.f18))), .it (.inBlock 0), .it (.code (nav [1, 1, 1] (bodyOf Try.f18)))], [], Option.none⟩], [(0, (EK.cells 25 [(EV.v (Value.int IntKind.i64 (n))), (EV.lst (SyC.recs [(Sh.int IntKind.i64), (Sh.int IntKind.i64), (Sh.int IntKind.i64), (Sh.int IntKind.i64)] (X))), (EV.lst (SyC.recs [(Sh.int IntKind.i64), (Sh.int IntKind.i64), (Sh.int IntKind.i64), (Sh.int IntKind.i64)] (P)))] true)), (1, (EK.cells 25 [(EV.v (Value.int IntKind.i64 (m))), (EV.lst (SyC.recs [(Sh.int IntKind.i64), (Sh.int IntKind.i64), (Sh.int IntKind.i64), (Sh.int IntKind.i64)] (Y))), (EV.lst (SyC.recs [(Sh.int IntKind.i64), (Sh.int IntKind.i64), (Sh.int IntKind.i64), (Sh.int IntKind.i64)] (Q)))] true)), (2, EK.cells 47 [iv w, iv a, iv o, iv u] true)], 3⟩
theorem in_t (n m : Int) (X P Y Q : List (List U)) (x y : List Int) : RUN (st0 18 [clE n X P, clE m Y Q, il x, il y]) = (bc (Int.ofNat (List.length x) != Int.ofNat (List.length y)) (.done (EV.v (Value.bool false)) [] 0) (.at (sO (n) (m) (X) (P) (Y) (Q) (x) (y) ((0 : Int))))) := by kernel_rfl
theorem o_t (n m : Int) (X P Y Q : List (List U)) (x y : List Int) (i : Int) : RUN (stOf (sO n m X P Y Q x y i)) = (bc (decide (i < Int.ofNat (List.length x))) (bc (decide (List.getD x (Int.toNat i) (0 : Int) < (0 : Int))) (bc (bc (bc (bc (bc (decide ((0 : Int) ≤ i)) (Nat.blt (Int.toNat i) (List.length x)) false) true false) (bc (bc (Nat.blt (Int.toNat i) (List.length x)) true false) (bc (eqB (decide (List.getD x (Int.toNat i) (0 : Int) < (0 : Int))) true) true false) false) false) true false) (.done (EV.v (Value.bool false)) [] 0) .bad) (bc (decide (Int.ofNat (List.length X) ≤ List.getD x (Int.toNat i) (0 : Int))) (bc (bc (bc (bc (bc (decide ((0 : Int) ≤ i)) (Nat.blt (Int.toNat i) (List.length x)) false) true false) (bc (bc (Nat.blt (Int.toNat i) (List.length x)) true false) (bc (eqB (decide (List.getD x (Int.toNat i) (0 : Int) < (0 : Int))) false) (bc (bc (bc (decide ((0 : Int) ≤ i)) (Nat.blt (Int.toNat i) (List.length x)) false) true false) (bc (bc (Nat.blt (Int.toNat i) (List.length x)) true false) (bc (eqB (decide (Int.ofNat (List.length X) ≤ List.getD x (Int.toNat i) (0 : Int))) true) true false) false) false) false) false) false) true false) (.done (EV.v (Value.bool false)) [] 0) .bad) (bc (decide (List.getD y (Int.toNat i) (0 : Int) < (0 : Int))) (bc (bc (bc (bc (bc (decide ((0 : Int) ≤ i)) (Nat.blt (Int.toNat i) (List.length x)) false) true false) (bc (bc (Nat.blt (Int.toNat i) (List.length x)) true false) (bc (eqB (decide (List.getD x (Int.toNat i) (0 : Int) < (0 : Int))) false) (bc (bc (bc (decide ((0 : Int) ≤ i)) (Nat.blt (Int.toNat i) (List.length x)) false) true false) (bc (bc (Nat.blt (Int.toNat i) (List.length x)) true false) (bc (eqB (decide (Int.ofNat (List.length X) ≤ List.getD x (Int.toNat i) (0 : Int))) false) (bc (bc (bc (decide ((0 : Int) ≤ i)) (Nat.blt (Int.toNat i) (List.length y)) false) true false) (bc (bc (Nat.blt (Int.toNat i) (List.length y)) true false) (bc (eqB (decide (List.getD y (Int.toNat i) (0 : Int) < (0 : Int))) true) true false) false) false) false) false) false) false) false) false) true false) (.done (EV.v (Value.bool false)) [] 0) .bad) (bc (decide (Int.ofNat (List.length Y) ≤ List.getD y (Int.toNat i) (0 : Int))) (bc (bc (bc (bc (bc (decide ((0 : Int) ≤ i)) (Nat.blt (Int.toNat i) (List.length x)) false) true false) (bc (bc (Nat.blt (Int.toNat i) (List.length x)) true false) (bc (eqB (decide (List.getD x (Int.toNat i) (0 : Int) < (0 : Int))) false) (bc (bc (bc (decide ((0 : Int) ≤ i)) (Nat.blt (Int.toNat i) (List.length x)) false) true false) (bc (bc (Nat.blt (Int.toNat i) (List.length x)) true false) (bc (eqB (decide (Int.ofNat (List.length X) ≤ List.getD x (Int.toNat i) (0 : Int))) false) (bc (bc (bc (decide ((0 : Int) ≤ i)) (Nat.blt (Int.toNat i) (List.length y)) false) true false) (bc (bc (Nat.blt (Int.toNat i) (List.length y)) true false) (bc (eqB (decide (List.getD y (Int.toNat i) (0 : Int) < (0 : Int))) false) (bc (bc (bc (decide ((0 : Int) ≤ i)) (Nat.blt (Int.toNat i) (List.length y)) false) true false) (bc (bc (Nat.blt (Int.toNat i) (List.length y)) true false) (bc (eqB (decide (Int.ofNat (List.length Y) ≤ List.getD y (Int.toNat i) (0 : Int))) true) true false) false) false) false) false) false) false) false) false) false) false) false) true false) (.done (EV.v (Value.bool false)) [] 0) .bad) (bc (decide ((0 : Int) < i)) (bc (bc (bc (bc (bc (decide ((0 : Int) ≤ i)) (Nat.blt (Int.toNat i) (List.length x)) false) true false) (bc (bc (Nat.blt (Int.toNat i) (List.length x)) true false) (bc (eqB (decide (List.getD x (Int.toNat i) (0 : Int) < (0 : Int))) false) (bc (bc (bc (decide ((0 : Int) ≤ i)) (Nat.blt (Int.toNat i) (List.length x)) false) true false) (bc (bc (Nat.blt (Int.toNat i) (List.length x)) true false) (bc (eqB (decide (Int.ofNat (List.length X) ≤ List.getD x (Int.toNat i) (0 : Int))) false) (bc (bc (bc (decide ((0 : Int) ≤ i)) (Nat.blt (Int.toNat i) (List.length y)) false) true false) (bc (bc (Nat.blt (Int.toNat i) (List.length y)) true false) (bc (eqB (decide (List.getD y (Int.toNat i) (0 : Int) < (0 : Int))) false) (bc (bc (bc (decide ((0 : Int) ≤ i)) (Nat.blt (Int.toNat i) (List.length y)) false) true false) (bc (bc (Nat.blt (Int.toNat i) (List.length y)) true false) (bc (eqB (decide (Int.ofNat (List.length Y) ≤ List.getD y (Int.toNat i) (0 : Int))) false) (bc (eqB (decide ((0 : Int) < i)) true) (bc (bc (bc (decide ((0 : Int) ≤ i)) (Nat.blt (Int.toNat i) (List.length x)) false) true false) (bc (bc (Nat.blt (Int.toNat i) (List.length x)) true false) (bc (bc (bc (decide ((0 : Int) ≤ IntKind.wrap IntKind.i64 (i - (1 : Int)))) (Nat.blt (Int.toNat (IntKind.wrap IntKind.i64 (i - (1 : Int)))) (List.length x)) false) true false) (bc (bc (Nat.blt (Int.toNat (IntKind.wrap IntKind.i64 (i - (1 : Int)))) (List.length x)) true false) true false) false) false) false) false) false) false) false) false) false) false) false) false) false) false) false) false) true false) (bc (decide (List.getD x (Int.toNat i) (0 : Int) ≤ List.getD x (Int.toNat (IntKind.wrap IntKind.i64 (i - (1 : Int)))) (0 : Int))) (.done (EV.v (Value.bool false)) [] 0) (bc (bc (bc (bc (bc (decide ((0 : Int) ≤ i)) (Nat.blt (Int.toNat i) (List.length x)) false) true false) (bc (bc (Nat.blt (Int.toNat i) (List.length x)) true false) (bc (bc (bc (decide ((0 : Int) ≤ List.getD x (Int.toNat i) (0 : Int))) (Nat.blt (Int.toNat (List.getD x (Int.toNat i) (0 : Int))) (List.length X)) false) true false) (bc (bc (Nat.blt (Int.toNat (List.getD x (Int.toNat i) (0 : Int))) (List.length X)) true false) (bc (bc (bc (decide ((0 : Int) ≤ i)) (Nat.blt (Int.toNat i) (List.length y)) false) true false) (bc (bc (Nat.blt (Int.toNat i) (List.length y)) true false) (bc (bc (bc (decide ((0 : Int) ≤ List.getD y (Int.toNat i) (0 : Int))) (Nat.blt (Int.toNat (List.getD y (Int.toNat i) (0 : Int))) (List.length Y)) false) true false) (bc (bc (Nat.blt (Int.toNat (List.getD y (Int.toNat i) (0 : Int))) (List.length Y)) true false) true false) false) false) false) false) false) false) false) (bc (bc (bc (eqSy (SyC.recs [Sh.int IntKind.i64, Sh.int IntKind.i64, Sh.int IntKind.i64, Sh.int IntKind.i64] Y) (SyC.recs [Sh.int IntKind.i64, Sh.int IntKind.i64, Sh.int IntKind.i64, Sh.int IntKind.i64] Y)) true false) true false) true false) false) (bc (U.int (List.getD (List.getD X (Int.toNat (List.getD x (Int.toNat i) (0 : Int))) []) (Nat.succ (Nat.succ (0 : Nat))) (U.i (0 : Int))) != U.int (List.getD (List.getD Y (Int.toNat (List.getD y (Int.toNat i) (0 : Int))) []) (Nat.succ (Nat.succ (0 : Nat))) (U.i (0 : Int)))) (.done (EV.v (Value.bool false)) [] 0) (bc (U.int (List.getD (List.getD X (Int.toNat (List.getD x (Int.toNat i) (0 : Int))) []) (Nat.succ (Nat.succ (Nat.succ (0 : Nat)))) (U.i (0 : Int))) != U.int (List.getD (List.getD Y (Int.toNat (List.getD y (Int.toNat i) (0 : Int))) []) (Nat.succ (Nat.succ (Nat.succ (0 : Nat)))) (U.i (0 : Int)))) (.done (EV.v (Value.bool false)) [] 0) (.at (sI (n) (m) (X) (P) (Y) (Q) (x) (y) (U.int (List.getD (List.getD Y (Int.toNat (List.getD y (Int.toNat i) (0 : Int))) []) (0 : Nat) (U.i (0 : Int)))) (U.int (List.getD (List.getD Y (Int.toNat (List.getD y (Int.toNat i) (0 : Int))) []) (Nat.succ (0 : Nat)) (U.i (0 : Int)))) (U.int (List.getD (List.getD Y (Int.toNat (List.getD y (Int.toNat i) (0 : Int))) []) (Nat.succ (Nat.succ (0 : Nat))) (U.i (0 : Int)))) (U.int (List.getD (List.getD Y (Int.toNat (List.getD y (Int.toNat i) (0 : Int))) []) (Nat.succ (Nat.succ (Nat.succ (0 : Nat)))) (U.i (0 : Int)))) (i) ((0 : Int)))))) .bad)) .bad) (bc (bc (bc (bc (bc (decide ((0 : Int) ≤ i)) (Nat.blt (Int.toNat i) (List.length x)) false) true false) (bc (bc (Nat.blt (Int.toNat i) (List.length x)) true false) (bc (eqB (decide (List.getD x (Int.toNat i) (0 : Int) < (0 : Int))) false) (bc (bc (bc (decide ((0 : Int) ≤ i)) (Nat.blt (Int.toNat i) (List.length x)) false) true false) (bc (bc (Nat.blt (Int.toNat i) (List.length x)) true false) (bc (eqB (decide (Int.ofNat (List.length X) ≤ List.getD x (Int.toNat i) (0 : Int))) false) (bc (bc (bc (decide ((0 : Int) ≤ i)) (Nat.blt (Int.toNat i) (List.length y)) false) true false) (bc (bc (Nat.blt (Int.toNat i) (List.length y)) true false) (bc (eqB (decide (List.getD y (Int.toNat i) (0 : Int) < (0 : Int))) false) (bc (bc (bc (decide ((0 : Int) ≤ i)) (Nat.blt (Int.toNat i) (List.length y)) false) true false) (bc (bc (Nat.blt (Int.toNat i) (List.length y)) true false) (bc (eqB (decide (Int.ofNat (List.length Y) ≤ List.getD y (Int.toNat i) (0 : Int))) false) (bc (eqB (decide ((0 : Int) < i)) false) true false) false) false) false) false) false) false) false) false) false) false) false) false) true false) (bc (bc (bc (bc (bc (decide ((0 : Int) ≤ i)) (Nat.blt (Int.toNat i) (List.length x)) false) true false) (bc (bc (Nat.blt (Int.toNat i) (List.length x)) true false) (bc (bc (bc (decide ((0 : Int) ≤ List.getD x (Int.toNat i) (0 : Int))) (Nat.blt (Int.toNat (List.getD x (Int.toNat i) (0 : Int))) (List.length X)) false) true false) (bc (bc (Nat.blt (Int.toNat (List.getD x (Int.toNat i) (0 : Int))) (List.length X)) true false) (bc (bc (bc (decide ((0 : Int) ≤ i)) (Nat.blt (Int.toNat i) (List.length y)) false) true false) (bc (bc (Nat.blt (Int.toNat i) (List.length y)) true false) (bc (bc (bc (decide ((0 : Int) ≤ List.getD y (Int.toNat i) (0 : Int))) (Nat.blt (Int.toNat (List.getD y (Int.toNat i) (0 : Int))) (List.length Y)) false) true false) (bc (bc (Nat.blt (Int.toNat (List.getD y (Int.toNat i) (0 : Int))) (List.length Y)) true false) true false) false) false) false) false) false) false) false) (bc (bc (bc (eqSy (SyC.recs [Sh.int IntKind.i64, Sh.int IntKind.i64, Sh.int IntKind.i64, Sh.int IntKind.i64] Y) (SyC.recs [Sh.int IntKind.i64, Sh.int IntKind.i64, Sh.int IntKind.i64, Sh.int IntKind.i64] Y)) true false) true false) true false) false) (bc (U.int (List.getD (List.getD X (Int.toNat (List.getD x (Int.toNat i) (0 : Int))) []) (Nat.succ (Nat.succ (0 : Nat))) (U.i (0 : Int))) != U.int (List.getD (List.getD Y (Int.toNat (List.getD y (Int.toNat i) (0 : Int))) []) (Nat.succ (Nat.succ (0 : Nat))) (U.i (0 : Int)))) (.done (EV.v (Value.bool false)) [] 0) (bc (U.int (List.getD (List.getD X (Int.toNat (List.getD x (Int.toNat i) (0 : Int))) []) (Nat.succ (Nat.succ (Nat.succ (0 : Nat)))) (U.i (0 : Int))) != U.int (List.getD (List.getD Y (Int.toNat (List.getD y (Int.toNat i) (0 : Int))) []) (Nat.succ (Nat.succ (Nat.succ (0 : Nat)))) (U.i (0 : Int)))) (.done (EV.v (Value.bool false)) [] 0) (.at (sI (n) (m) (X) (P) (Y) (Q) (x) (y) (U.int (List.getD (List.getD Y (Int.toNat (List.getD y (Int.toNat i) (0 : Int))) []) (0 : Nat) (U.i (0 : Int)))) (U.int (List.getD (List.getD Y (Int.toNat (List.getD y (Int.toNat i) (0 : Int))) []) (Nat.succ (0 : Nat)) (U.i (0 : Int)))) (U.int (List.getD (List.getD Y (Int.toNat (List.getD y (Int.toNat i) (0 : Int))) []) (Nat.succ (Nat.succ (0 : Nat))) (U.i (0 : Int)))) (U.int (List.getD (List.getD Y (Int.toNat (List.getD y (Int.toNat i) (0 : Int))) []) (Nat.succ (Nat.succ (Nat.succ (0 : Nat)))) (U.i (0 : Int)))) (i) ((0 : Int)))))) .bad) .bad)))))) (.done (EV.v (Value.bool true)) [] 0)) := by kernel_rfl
theorem i_t (n m : Int) (X P Y Q : List (List U)) (x y : List Int) (w a o u : Int) (i k : Int) : RUN (stOf (sI n m X P Y Q x y w a o u i k)) = (bc (decide (k < i)) (bc (List.getD y (Int.toNat k) (0 : Int) == List.getD y (Int.toNat i) (0 : Int)) (bc (bc (bc (bc (bc (decide ((0 : Int) ≤ k)) (Nat.blt (Int.toNat k) (List.length y)) false) true false) (bc (bc (Nat.blt (Int.toNat k) (List.length y)) true false) (bc (bc (bc (decide ((0 : Int) ≤ i)) (Nat.blt (Int.toNat i) (List.length y)) false) true false) (bc (bc (Nat.blt (Int.toNat i) (List.length y)) true false) (bc (eqB (List.getD y (Int.toNat k) (0 : Int) == List.getD y (Int.toNat i) (0 : Int)) true) true false) false) false) false) false) true false) (.done (EV.v (Value.bool false)) [] 0) .bad) (bc (shI (U.int (List.getD (List.getD Y (Int.toNat (List.getD y (Int.toNat k) (0 : Int))) []) (Nat.succ (Nat.succ (0 : Nat))) (U.i (0 : Int)))) (U.int (List.getD (List.getD Y (Int.toNat (List.getD y (Int.toNat k) (0 : Int))) []) (Nat.succ (Nat.succ (Nat.succ (0 : Nat)))) (U.i (0 : Int)))) o u) (bc (bc (bc (bc (bc (decide ((0 : Int) ≤ k)) (Nat.blt (Int.toNat k) (List.length y)) false) true false) (bc (bc (Nat.blt (Int.toNat k) (List.length y)) true false) (bc (bc (bc (decide ((0 : Int) ≤ i)) (Nat.blt (Int.toNat i) (List.length y)) false) true false) (bc (bc (Nat.blt (Int.toNat i) (List.length y)) true false) (bc (eqB (List.getD y (Int.toNat k) (0 : Int) == List.getD y (Int.toNat i) (0 : Int)) false) (bc (bc (bc (decide ((0 : Int) ≤ k)) (Nat.blt (Int.toNat k) (List.length y)) false) true false) (bc (bc (Nat.blt (Int.toNat k) (List.length y)) true false) (bc (bc (bc (decide ((0 : Int) ≤ List.getD y (Int.toNat k) (0 : Int))) (Nat.blt (Int.toNat (List.getD y (Int.toNat k) (0 : Int))) (List.length Y)) false) true false) (bc (bc (Nat.blt (Int.toNat (List.getD y (Int.toNat k) (0 : Int))) (List.length Y)) true false) (bc (eqB (shI (U.int (List.getD (List.getD Y (Int.toNat (List.getD y (Int.toNat k) (0 : Int))) []) (Nat.succ (Nat.succ (0 : Nat))) (U.i (0 : Int)))) (U.int (List.getD (List.getD Y (Int.toNat (List.getD y (Int.toNat k) (0 : Int))) []) (Nat.succ (Nat.succ (Nat.succ (0 : Nat)))) (U.i (0 : Int)))) o u) true) (bc (bc (bc (decide ((0 : Int) ≤ k)) (Nat.blt (Int.toNat k) (List.length y)) false) true false) (bc (bc (Nat.blt (Int.toNat k) (List.length y)) true false) (bc (bc (bc (decide ((0 : Int) ≤ i)) (Nat.blt (Int.toNat i) (List.length y)) false) true false) (bc (bc (Nat.blt (Int.toNat i) (List.length y)) true false) true false) false) false) false) false) false) false) false) false) false) false) false) false) false) true false) (bc (decide (List.getD y (Int.toNat i) (0 : Int) < List.getD y (Int.toNat k) (0 : Int))) (.done (EV.v (Value.bool false)) [] 0) (.at (sI (n) (m) (X) (P) (Y) (Q) (x) (y) (w) (a) (o) (u) (i) (IntKind.wrap IntKind.i64 (k + (1 : Int)))))) .bad) (bc (bc (bc (bc (bc (decide ((0 : Int) ≤ k)) (Nat.blt (Int.toNat k) (List.length y)) false) true false) (bc (bc (Nat.blt (Int.toNat k) (List.length y)) true false) (bc (bc (bc (decide ((0 : Int) ≤ i)) (Nat.blt (Int.toNat i) (List.length y)) false) true false) (bc (bc (Nat.blt (Int.toNat i) (List.length y)) true false) (bc (eqB (List.getD y (Int.toNat k) (0 : Int) == List.getD y (Int.toNat i) (0 : Int)) false) (bc (bc (bc (decide ((0 : Int) ≤ k)) (Nat.blt (Int.toNat k) (List.length y)) false) true false) (bc (bc (Nat.blt (Int.toNat k) (List.length y)) true false) (bc (bc (bc (decide ((0 : Int) ≤ List.getD y (Int.toNat k) (0 : Int))) (Nat.blt (Int.toNat (List.getD y (Int.toNat k) (0 : Int))) (List.length Y)) false) true false) (bc (bc (Nat.blt (Int.toNat (List.getD y (Int.toNat k) (0 : Int))) (List.length Y)) true false) (bc (eqB (shI (U.int (List.getD (List.getD Y (Int.toNat (List.getD y (Int.toNat k) (0 : Int))) []) (Nat.succ (Nat.succ (0 : Nat))) (U.i (0 : Int)))) (U.int (List.getD (List.getD Y (Int.toNat (List.getD y (Int.toNat k) (0 : Int))) []) (Nat.succ (Nat.succ (Nat.succ (0 : Nat)))) (U.i (0 : Int)))) o u) false) true false) false) false) false) false) false) false) false) false) false) true false) (.at (sI (n) (m) (X) (P) (Y) (Q) (x) (y) (w) (a) (o) (u) (i) (IntKind.wrap IntKind.i64 (k + (1 : Int))))) .bad))) (.at (sO (n) (m) (X) (P) (Y) (Q) (x) (y) (IntKind.wrap IntKind.i64 (i + (1 : Int)))))) := by kernel_rfl
end LKpt
end Go.Proofs.Ytjlfedhkpdogbaa.Ev
namespace Go.Proofs.Ytjlfedhkpdogbaa.Ev
open Go.Proofs
theorem beqI_n {a b : Int} (h : a ≠ b) : (a == b) = false := by simp [h]
theorem bneI_n {a b : Int} (h : a = b) : (a != b) = false := by simp [h]
namespace LKpt
theorem inner {n m : Int} {X P Y Q : List (List U)} {x y : List Int} {i : Nat} {r : List U} (hx : x.length ≤ 20000) (hy : y.length = x.length) (hi : i < x.length) (hr : r = Y.getD (y.getD i 0).toNat []) (h0 : ∀ j : Nat, j < x.length → 0 ≤ y.getD j 0 ∧ y.getD j 0 < Y.length) (hk : ∀ k : Nat, k < i → y.getD k 0 ≠ y.getD i 0 ∧ (shrB (Y.getD (y.getD k 0).toNat []) (Y.getD (y.getD i 0).toNat []) = true → y.getD k 0 ≤ y.getD i 0)) (hn : EndZ 18 ctSh false (stOf (sO n m X P Y Q x y (i + 1 : Nat))) (bv true) [] 0) : ∀ (f k : Nat), k + f = i → EndZ 18 ctSh false (stOf (sI n m X P Y Q x y (xW r) (xA r) (xO r) (xU r) i k)) (bv true) [] 0
  | 0, k, h => by
    have h1 := i_t n m X P Y Q x y (xW r) (xA r) (xO r) (xU r) i k; simp (disch := omega) only [Nat.add_eq, eqSy_self, eqN_self, bc_same, List.length_cons, ofn, wrap_in, dt, df, bltD, bltN, ble_of, bleN, beqD, bc_t, bc_f, nn_ok, Nat.zero_add, to_nat, Int.zero_add, Int.sub_zero, Int.sub_self, Int.cast_ofNat_Int, Int.natCast_zero, Int.toNat_zero, List.take_zero, List.nil_append, List.length_append, List.length_nil] at h1; exact .at ctSh_ok h1 hn
  | f + 1, k, h => by
    have h1 := i_t n m X P Y Q x y (xW r) (xA r) (xO r) (xU r) i k; obtain ⟨k1, k2⟩ := hk k (by omega); obtain ⟨y1, y2⟩ := h0 k (by omega); obtain ⟨z1, z2⟩ := h0 i hi; have ih := inner (n := n) (m := m) (X := X) (P := P) (Q := Q) hx hy hi hr h0 hk hn f (k + 1) (by omega); rw [to_nat, to_nat] at h1; obtain ⟨p, hp⟩ := Int.eq_ofNat_of_zero_le y1; obtain ⟨q, hq⟩ := Int.eq_ofNat_of_zero_le z1; rw [hp, hq] at k1 k2; rw [hp] at y2; rw [hq] at z2 hr; rw [hp, hq, beqI_n k1] at h1; simp only [show ∀ k : Nat, ((k : Int)).toNat = k from fun _ => rfl] at h1 k2 hr
    have e : shI (U.int (List.getD (Y.getD p []) (Nat.succ (Nat.succ 0)) (U.i 0))) (U.int (List.getD (Y.getD p []) (Nat.succ (Nat.succ (Nat.succ 0))) (U.i 0))) (xO r) (xU r) = shrB (Y.getD p []) (Y.getD q []) := by rw [hr]; rfl
    rw [e] at h1
    cases hs : shrB (Y.getD p []) (Y.getD q []) with
    | false =>
      rw [hs] at h1; simp (disch := omega) only [Nat.add_eq, eqSy_self, eqN_self, bc_same, List.length_cons, ofn, wrap_in, dt, df, bltD, bltN, ble_of, bleN, beqD, bc_t, bc_f, nn_ok, Nat.zero_add, to_nat, Int.zero_add, Int.sub_zero, Int.sub_self, Int.cast_ofNat_Int, Int.natCast_zero, Int.toNat_zero, List.take_zero, List.nil_append, List.length_append, List.length_nil, eqB, decide_true] at h1; exact .at ctSh_ok h1 ih
    | true =>
      have := k2 hs; rw [hs] at h1; simp (disch := omega) only [Nat.add_eq, eqSy_self, eqN_self, bc_same, List.length_cons, ofn, wrap_in, dt, df, bltD, bltN, ble_of, bleN, beqD, bc_t, bc_f, nn_ok, Nat.zero_add, to_nat, Int.zero_add, Int.sub_zero, Int.sub_self, Int.cast_ofNat_Int, Int.natCast_zero, Int.toNat_zero, List.take_zero, List.nil_append, List.length_append, List.length_nil, eqB, decide_true] at h1; exact .at ctSh_ok h1 ih
theorem outer {n m : Int} {X P Y Q : List (List U)} {x y : List Int} (hx : x.length ≤ 20000) (hX : X.length ≤ 30000) (hY : Y.length ≤ 30000) (hK : Kpt X Y x y) : ∀ (f i : Nat), i + f = x.length → EndZ 18 ctSh false (stOf (sO n m X P Y Q x y i)) (bv true) [] 0
  | 0, i, h => by
    have h1 := o_t n m X P Y Q x y i; simp (disch := omega) only [Nat.add_eq, eqSy_self, eqN_self, bc_same, List.length_cons, ofn, wrap_in, dt, df, bltD, bltN, ble_of, bleN, beqD, bc_t, bc_f, nn_ok, Nat.zero_add, to_nat, Int.zero_add, Int.sub_zero, Int.sub_self, Int.cast_ofNat_Int, Int.natCast_zero, Int.toNat_zero, List.take_zero, List.nil_append, List.length_append, List.length_nil] at h1; exact .done h1
  | f + 1, i, h => by
    have ih := outer (n := n) (m := m) (P := P) (Q := Q) hx hX hY hK f (i + 1) (by omega); have hi : i < x.length := by omega
    obtain ⟨hy, hK2⟩ := hK; obtain ⟨a1, a2, a3, a4, a5, a6, a7, a8⟩ := hK2 i hi; have h1 := o_t n m X P Y Q x y i
    suffices h2 : RUN (stOf (sO n m X P Y Q x y i)) = ZF.at (sI n m X P Y Q x y (xW (Y.getD (y.getD i 0).toNat [])) (xA (Y.getD (y.getD i 0).toNat [])) (xO (Y.getD (y.getD i 0).toNat [])) (xU (Y.getD (y.getD i 0).toNat [])) i (0 : Nat)) from .at ctSh_ok h2 (inner hx hy.symm hi rfl (fun j hj => by obtain ⟨_, _, b3, b4, _⟩ := hK2 j hj; exact ⟨b3, b4⟩) a8 ih i 0 (by omega))
    rw [to_nat] at h1; obtain ⟨p, hp⟩ := Int.eq_ofNat_of_zero_le a1; obtain ⟨q, hq⟩ := Int.eq_ofNat_of_zero_le a3; rw [hp] at h1 a2 a5 a6 a7; rw [hq] at h1 a4 a6 a7 ⊢; have f0 : ∀ r : List U, U.int (List.getD r 0 (U.i 0)) = xW r := fun _ => rfl; have f1 : ∀ r : List U, U.int (List.getD r (Nat.succ 0) (U.i 0)) = xA r := fun _ => rfl; have f2 : ∀ r : List U, U.int (List.getD r (Nat.succ (Nat.succ 0)) (U.i 0)) = xO r := fun _ => rfl; have f3 : ∀ r : List U, U.int (List.getD r (Nat.succ (Nat.succ (Nat.succ 0))) (U.i 0)) = xU r := fun _ => rfl
    simp only [show ∀ k : Nat, ((k : Int)).toNat = k from fun _ => rfl] at h1 a6 a7 ⊢
    simp only [f0, f1, f2, f3] at h1; rw [bneI_n a6, bneI_n a7] at h1
    cases i with
    | zero =>
      simp (disch := omega) only [Nat.add_eq, eqSy_self, eqN_self, bc_same, List.length_cons, ofn, wrap_in, dt, df, bltD, bltN, ble_of, bleN, beqD, bc_t, bc_f, nn_ok, Nat.zero_add, to_nat, Int.zero_add, Int.sub_zero, Int.sub_self, Int.cast_ofNat_Int, Int.natCast_zero, Int.toNat_zero, List.take_zero, List.nil_append, List.length_append, List.length_nil, eqB, decide_true] at h1; exact h1
    | succ j =>
      have w : IntKind.wrap IntKind.i64 (((j + 1 : Nat) : Int) - 1) = (j : Int) := by rw [wrap_in _ (by omega) (by omega)]; omega
      have a5 := a5 (by omega); rw [Nat.add_sub_cancel] at a5; rw [w] at h1; simp only [show ∀ k : Nat, ((k : Int)).toNat = k from fun _ => rfl] at h1
      simp (disch := omega) only [Nat.add_eq, eqSy_self, eqN_self, bc_same, List.length_cons, ofn, wrap_in, dt, df, bltD, bltN, ble_of, bleN, beqD, bc_t, bc_f, nn_ok, Nat.zero_add, to_nat, Int.zero_add, Int.sub_zero, Int.sub_self, Int.cast_ofNat_Int, Int.natCast_zero, Int.toNat_zero, List.take_zero, List.nil_append, List.length_append, List.length_nil, eqB, decide_true] at h1; exact h1
end LKpt
noncomputable def spKpt : ZCT := fun ax => match ax with
  | [.agg [.v (.int .i64 n), .lst (.recs [.int .i64, .int .i64, .int .i64, .int .i64] X), .lst (.recs [.int .i64, .int .i64, .int .i64, .int .i64] P)], .agg [.v (.int .i64 m), .lst (.recs [.int .i64, .int .i64, .int .i64, .int .i64] Y), .lst (.recs [.int .i64, .int .i64, .int .i64, .int .i64] Q)], .lst (.ints .i64 x), .lst (.ints .i64 y)] => some ⟨decide (x.length ≤ 20000 ∧ X.length ≤ 30000 ∧ Y.length ≤ 30000 ∧ Kpt X Y x y), bv true, [], 0⟩
  | _ => none
theorem spKpt_ok : ZCtOk Try.prog 18 spKpt := fun γ w us ax r hs hc hax hN hfz => by
  unfold spKpt at hs; split at hs
  case h_2 => cases hs
  rename_i n X P m Y Q x y; obtain ⟨rfl⟩ := Option.some.inj hs; have hc_0 : decide (x.length ≤ 20000 ∧ X.length ≤ 30000 ∧ Y.length ≤ 30000 ∧ Kpt X Y x y) = true := hc; have hc := of_decide_eq_true hc_0; exact EndZ.calls (by
    obtain ⟨h1, h2, h3, h4⟩ := hc; have h := LKpt.in_t n m X P Y Q x y; have e : (Int.ofNat x.length != Int.ofNat y.length) = false := by rw [h4.1]; simp
    rw [e, bc_f] at h; exact .at ctSh_ok h (LKpt.outer h1 h2 h3 h4 x.length 0 (by omega))) ctSh_ok (by kernel_rfl) hax hN hfz
end Go.Proofs.Ytjlfedhkpdogbaa.Ev
namespace Go.Proofs.Ytjlfedhkpdogbaa.Ev
end Go.Proofs.Ytjlfedhkpdogbaa.Ev
namespace Go.Proofs.Ytjlfedhkpdogbaa.Ev

noncomputable def cnT (t : Int) (X : List (List U)) (i : Nat) : Nat := (hiF t (X.take i)).length
theorem cnT_lt {t : Int} {X : List (List U)} (hX : Two X) {i j : Nat} (hi : i < X.length) (ho : onB t (X.getD i []) = true) (h : i < j) : cnT t X i < cnT t X j := hi_lt hX hi ho h
theorem cnT_inj {t : Int} {X : List (List U)} (hX : Two X) {i j : Nat} (hi : i < X.length) (hj : j < X.length) (oi : onB t (X.getD i []) = true) (oj : onB t (X.getD j []) = true) (h : cnT t X i = cnT t X j) : i = j := by
  rcases Nat.lt_trichotomy i j with g | g | g
  · have := cnT_lt hX hi oi g; omega
  · exact g
  · have := cnT_lt hX hj oj g; omega
theorem cnT_at {t : Int} {X : List (List U)} (hX : Two X) {m j : Nat} (hj : j ≤ X.length) (hm : m < cnT t X j) : ∃ i, i < j ∧ onB t (X.getD i []) = true ∧ cnT t X i = m := by
  obtain ⟨k, k1, _, k3, k4⟩ := at_idx (t := t) (X.take j) 0 m (hX.take j) hm; have hl : (X.take j).length = j := by rw [List.length_take]; omega
  rw [hl] at k1; have e1 : (X.take j).getD k [] = X.getD k [] := by rw [getD_at (by omega), getD_at (by omega), List.getElem_take]
  have e2 : (X.take j).take k = X.take k := by rw [List.take_take, Nat.min_eq_left (by omega)]
  rw [e1] at k4; rw [e2] at k3; refine ⟨k, k1, onB_of.2 (by rcases k4 with ⟨a, _⟩ | ⟨a, _⟩; exact .inl a; exact .inr a), ?_⟩
  unfold cnT at hm ⊢; rw [k3, List.length_take]; omega

def Eqv (X Y : List (List U)) (i k : Nat) : Prop := xO (X.getD i []) = xO (Y.getD k []) ∧ xU (X.getD i []) = xU (Y.getD k []) ∧ cnT (xO (X.getD i [])) X i = cnT (xO (X.getD i [])) Y k ∧ cnT (xU (X.getD i [])) X i = cnT (xU (X.getD i [])) Y k
theorem Eqv.symm {X Y : List (List U)} {i k : Nat} (h : Eqv X Y i k) : Eqv Y X k i := by
  obtain ⟨h1, h2, h3, h4⟩ := h; exact ⟨h1.symm, h2.symm, by rw [← h1]; exact h3.symm, by rw [← h2]; exact h4.symm⟩
theorem Eqv.on {X Y : List (List U)} {i k : Nat} (h : Eqv X Y i k) (t : Int) : onB t (Y.getD k []) = onB t (X.getD i []) := by
  unfold onB; rw [h.1, h.2.1]
theorem Eqv.cn {X Y : List (List U)} {i k : Nat} (h : Eqv X Y i k) {t : Int} (ho : onB t (X.getD i []) = true) : cnT t X i = cnT t Y k := by
  rcases onB_of.1 ho with e | e
  · rw [← e]; exact h.2.2.1
  · rw [← e]; exact h.2.2.2
theorem shr_on {x y : List U} : shrB x y = true ↔ ∃ t, onB t x = true ∧ onB t y = true := by
  constructor
  · intro h; apply Classical.byContradiction; intro hn; have : shrB x y = false := shrB_f.2 ⟨fun e => hn ⟨_, onB_of.2 (.inl rfl), onB_of.2 (.inl e.symm)⟩, fun e => hn ⟨_, onB_of.2 (.inl rfl), onB_of.2 (.inr e.symm)⟩, fun e => hn ⟨_, onB_of.2 (.inr rfl), onB_of.2 (.inl e.symm)⟩, fun e => hn ⟨_, onB_of.2 (.inr rfl), onB_of.2 (.inr e.symm)⟩⟩; rw [h] at this; cases this
  · rintro ⟨t, h1, h2⟩
    cases h : shrB x y with
    | true => rfl
    | false =>
      obtain ⟨s1, s2, s3, s4⟩ := shrB_f.1 h; rcases onB_of.1 h1 with e1 | e1 <;> rcases onB_of.1 h2 with e2 | e2
      · exact absurd (e1.trans e2.symm) s1
      · exact absurd (e1.trans e2.symm) s2
      · exact absurd (e1.trans e2.symm) s3
      · exact absurd (e1.trans e2.symm) s4

structure Prs (X Y : List (List U)) (p : Nat → Int) : Prop where
  a : ∀ i, i < X.length → 0 ≤ p i → (∀ j, j < i → shrB (X.getD j []) (X.getD i []) = true → 0 ≤ p j) ∧ ∃ k : Nat, p i = k ∧ k < Y.length ∧ Eqv X Y i k
  b : ∀ i k : Nat, i < X.length → k < Y.length → (∀ j, j < i → shrB (X.getD j []) (X.getD i []) = true → 0 ≤ p j) → Eqv X Y i k → p i = k
namespace Prs
variable {X Y : List (List U)} {p q : Nat → Int}
theorem eqv (h : Prs X Y p) {i k : Nat} (hi : i < X.length) (hp : p i = k) : k < Y.length ∧ Eqv X Y i k := by
  obtain ⟨_, k', h1, h2, h3⟩ := h.a i hi (by omega); have : k' = k := by omega
  subst this; exact ⟨h2, h3⟩

theorem ahead (h : Prs X Y p) (hX : Two X) (hY : Two Y) {i k k' : Nat} (hi : i < X.length) (hp : p i = k) (hk : k' < k) (hs : shrB (Y.getD k' []) (Y.getD k []) = true) : ∃ i', i' < i ∧ p i' = k' := by
  obtain ⟨h1, h2⟩ := h.eqv hi hp; obtain ⟨t, t1, t2⟩ := shr_on.1 hs; have oi : onB t (X.getD i []) = true := by rw [← h2.on t]; exact t2
  have c1 := cnT_lt hY (by omega) t1 hk; rw [← h2.cn oi] at c1; obtain ⟨i', g1, g2, g3⟩ := cnT_at hX (by omega) c1; have hpos := (h.a i hi (by omega)).1 i' g1 (shr_on.2 ⟨t, g2, oi⟩); obtain ⟨_, k2, e1, e2, e3⟩ := h.a i' (by omega) hpos; have o2 : onB t (Y.getD k2 []) = true := by rw [e3.on t]; exact g2
  have : k2 = k' := cnT_inj hY e2 (by omega) o2 t1 (by rw [← e3.cn g2, g3]); subst this; exact ⟨i', g1, e1⟩
theorem order (h : Prs X Y p) (hX : Two X) (hY : Two Y) {i j k l : Nat} (hi : i < X.length) (hj : j < X.length) (hp : p i = k) (hq : p j = l) (hij : i < j) (hs : shrB (Y.getD k []) (Y.getD l []) = true) : k < l := by
  obtain ⟨h1, h2⟩ := h.eqv hi hp; obtain ⟨h3, h4⟩ := h.eqv hj hq; obtain ⟨t, t1, t2⟩ := shr_on.1 hs; have oi : onB t (X.getD i []) = true := by rw [← h2.on t]; exact t1
  have oj : onB t (X.getD j []) = true := by rw [← h4.on t]; exact t2
  have c := cnT_lt hX hi oi hij; rw [h2.cn oi, h4.cn oj] at c; rcases Nat.lt_or_ge k l with g | g
  · exact g
  · rcases Nat.lt_or_ge l k with g2 | g2
    · have := cnT_lt hY h3 t2 g2; omega
    · have : k = l := by omega
      subst this; omega
theorem inj (h : Prs X Y p) (hX : Two X) {i j k : Nat} (hi : i < X.length) (hj : j < X.length) (hp : p i = k) (hq : p j = k) : i = j := by
  obtain ⟨h1, h2⟩ := h.eqv hi hp; obtain ⟨h3, h4⟩ := h.eqv hj hq; have oi : onB (xO (Y.getD k [])) (X.getD i []) = true := onB_of.2 (.inl h2.1); have oj : onB (xO (Y.getD k [])) (X.getD j []) = true := onB_of.2 (.inl h4.1); exact cnT_inj hX hi hj oi oj (by rw [h2.cn oi, h4.cn oj])

theorem most (h : Prs X Y p) (hX : Two X) (hY : Two Y) {i k : Nat} (hi : i < X.length) (hk : k < Y.length) (hp : p i < 0) (hq : ∀ i', i' < X.length → p i' ≠ k) (e1 : xO (X.getD i []) = xO (Y.getD k [])) (e2 : xU (X.getD i []) = xU (Y.getD k [])) (ca : ∀ j, j < i → shrB (X.getD j []) (X.getD i []) = true → 0 ≤ p j) (cb : ∀ k', k' < k → shrB (Y.getD k' []) (Y.getD k []) = true → ∃ i', i' < X.length ∧ p i' = k') : False := by
  have key : ∀ t, onB t (X.getD i []) = true → onB t (Y.getD k []) = true → cnT t X i = cnT t Y k := by
    intro t oi ok; rcases Nat.lt_trichotomy (cnT t X i) (cnT t Y k) with g | g | g
    · obtain ⟨k', a1, a2, a3⟩ := cnT_at hY (by omega) g; obtain ⟨i', b1, b2⟩ := cb k' a1 (shr_on.2 ⟨t, a2, ok⟩); obtain ⟨_, d2⟩ := h.eqv b1 b2; have oi' : onB t (X.getD i' []) = true := by rw [← d2.on t]; exact a2
      have : i' = i := cnT_inj hX b1 hi oi' oi (by rw [d2.cn oi', a3]); subst this; omega
    · exact g
    · obtain ⟨i', a1, a2, a3⟩ := cnT_at hX (by omega) g; have hpos := ca i' a1 (shr_on.2 ⟨t, a2, oi⟩); obtain ⟨_, k2, b1, b2, b3⟩ := h.a i' (by omega) hpos; have ok2 : onB t (Y.getD k2 []) = true := by rw [b3.on t]; exact a2
      have : k2 = k := cnT_inj hY b2 hk ok2 ok (by rw [← b3.cn a2, a3]); subst this; exact absurd b1 (hq i' (by omega))
  have := h.b i k hi hk ca ⟨e1, e2, key _ (onB_of.2 (.inl rfl)) (onB_of.2 (.inl e1.symm)), key _ (onB_of.2 (.inr rfl)) (onB_of.2 (.inr e2.symm))⟩; omega

theorem turn (h : Prs X Y p) (g : Prs Y X q) (hX : Two X) (hY : Two Y) : ∀ (m i k : Nat), i < m → i < X.length → p i = k → q k = i
  | m + 1, i, k, hm, hi, hp => by
    obtain ⟨h1, h2⟩ := h.eqv hi hp; refine g.b k i h1 hi (fun k' hk' hs => ?_) h2.symm; obtain ⟨i', a1, a2⟩ := h.ahead hX hY hi hp hk' hs; rw [turn h g hX hY m i' k' (by omega) (by omega) a2]; omega
theorem turn' (h : Prs X Y p) (g : Prs Y X q) (hX : Two X) (hY : Two Y) {i k : Nat} (hi : i < X.length) (hp : p i = k) : q k = i := turn h g hX hY (i + 1) i k (by omega) hi hp

theorem all_of (h : Prs X Y p) (hX : Two X) (hY : Two Y) (hh : ∀ t, hiF t Y = hiF t X) : ∀ (m i : Nat), i < m → i < X.length → 0 ≤ p i
  | m + 1, i, hm, hi => by
    obtain ⟨q1, q2, q3, q4, q5, q6, q7⟩ := piI_ok hX hY hh hi; have := h.b i (piI X Y i) hi q1 (fun j hj _ => all_of h hX hY hh m j (by omega) (by omega)) ⟨q4.symm, q5.symm, by unfold cnT; rw [q6], by unfold cnT; rw [q7]⟩; omega
theorem hi_of (h : Prs X Y p) (hX : Two X) (hY : Two Y) (h1 : ∀ i, i < X.length → 0 ≤ p i) (h2 : ∀ k : Nat, k < Y.length → ∃ i, i < X.length ∧ p i = k) (t : Int) : hiF t Y = hiF t X := by
  have cx : cnT t X X.length = (hiF t X).length := by unfold cnT; rw [List.take_length]
  have cy : cnT t Y Y.length = (hiF t Y).length := by unfold cnT; rw [List.take_length]
  have hl : (hiF t Y).length = (hiF t X).length := by
    rcases Nat.lt_trichotomy (hiF t Y).length (hiF t X).length with g | g | g
    · obtain ⟨i, a1, a2, a3⟩ := cnT_at (t := t) hX (Nat.le_refl _) (by rw [cx]; exact g); obtain ⟨_, k, b1, b2, b3⟩ := h.a i a1 (h1 i a1); have ok : onB t (Y.getD k []) = true := by rw [b3.on t]; exact a2
      have := cnT_lt hY b2 ok b2; rw [← b3.cn a2, cy] at this; omega
    · exact g
    · obtain ⟨k, a1, a2, a3⟩ := cnT_at (t := t) hY (Nat.le_refl _) (by rw [cy]; exact g); obtain ⟨i, b1, b2⟩ := h2 k a1; obtain ⟨_, d2⟩ := h.eqv b1 b2; have oi : onB t (X.getD i []) = true := by rw [← d2.on t]; exact a2
      have := cnT_lt hX b1 oi b1; rw [d2.cn oi, cx] at this; omega
  apply List.ext_getElem hl; intro m m1 m2; obtain ⟨i, a1, _, a3, a4⟩ := at_idx (t := t) X 0 m hX m2; have oi : onB t (X.getD i []) = true := onB_of.2 (by rcases a4 with ⟨a, _⟩ | ⟨a, _⟩; exact .inl a; exact .inr a)
  have ci : cnT t X i = m := by unfold cnT; rw [a3, List.length_take]; omega
  obtain ⟨_, k, b1, b2, b3⟩ := h.a i a1 (h1 i a1); obtain ⟨k', d1, _, d3, d4⟩ := at_idx (t := t) Y 0 m hY m1; have ok' : onB t (Y.getD k' []) = true := onB_of.2 (by rcases d4 with ⟨a, _⟩ | ⟨a, _⟩; exact .inl a; exact .inr a)
  have ck' : cnT t Y k' = m := by unfold cnT; rw [d3, List.length_take]; omega
  have ok : onB t (Y.getD k []) = true := by rw [b3.on t]; exact oi
  have : k' = k := cnT_inj hY d1 b2 ok' ok (by rw [ck', ← b3.cn oi, ci]); subst this; rw [getD_at m2] at a4; rw [getD_at m1] at d4; have hne := hX.at a1; obtain ⟨e1, e2, _⟩ := b3; rcases a4 with ⟨a, a'⟩ | ⟨a, a'⟩ <;> rcases d4 with ⟨d, d'⟩ | ⟨d, d'⟩
  · rw [a', d']; unfold mO; rw [e2]
  · exact absurd (a.trans (d.symm.trans e2.symm)) hne
  · exact absurd ((d.symm.trans e1.symm).symm.trans (a.symm)).symm (fun e => hne (by rw [← e1] at d; rw [a]; exact d))
  · rw [a', d']; unfold mU; rw [e1]
end Prs

theorem hiF_form (t : Int) : ∀ (X : List (List U)) (e : List U), e ∈ hiF t X → e = [.i (mT e), .b (mV e)]
  | [], e, h => by cases h
  | r :: q, e, h => by
    rw [hiF_cons] at h; rcases List.mem_append.1 h with h | h
    · unfold ctR at h; rcases List.mem_append.1 h with h | h
      · by_cases g : xO r = t
        · rw [dt g, bc_t] at h; simp at h; subst h; rfl
        · rw [df g, bc_f] at h; cases h
      · by_cases g : xU r = t
        · rw [dt g, bc_t] at h; simp at h; subst h; rfl
        · rw [df g, bc_f] at h; cases h
    · exact hiF_form t q e h
theorem meB_eq : ∀ {a b : List (List U)}, (∀ e ∈ a, e = [.i (mT e), .b (mV e)]) → (∀ e ∈ b, e = [.i (mT e), .b (mV e)]) → meB a b = true → a = b
  | [], [], _, _, _ => rfl
  | x :: a, [], _, _, h => by rw [meB_len (by simp)] at h; cases h
  | [], y :: b, _, _, h => by rw [meB_len (by simp)] at h; cases h
  | x :: a, y :: b, ha, hb, h => by
    unfold meB at h; obtain ⟨h1, h⟩ := bcT h; obtain ⟨h2, h3⟩ := bcT h; have e1 : mT x = mT y := by simpa using h1
    have e2 : mV x = mV y := by simpa using h2
    rw [ha x List.mem_cons_self, hb y List.mem_cons_self, e1, e2, meB_eq (fun e he => ha e (List.mem_cons_of_mem _ he)) (fun e he => hb e (List.mem_cons_of_mem _ he)) h3]
theorem sameF_eq {X Y : List (List U)} : ∀ (k t : Nat), sameF X Y t k = true → ∀ s : Nat, t ≤ s → s < t + k → hiF s X = hiF s Y
  | 0, t, _, s, h1, h2 => by omega
  | k + 1, t, h, s, h1, h2 => by
    unfold sameF at h; obtain ⟨g1, g2⟩ := bcT h
    by_cases e : s = t
    · subst e; exact meB_eq (hiF_form _ X) (hiF_form _ Y) g1
    · exact sameF_eq k (t + 1) g2 s (by omega) (by omega)
theorem hi_out {n : Nat} {X : List (List U)} (tx : thrs n X) {t : Int} (h : t < 0 ∨ (n : Int) ≤ t) : hiF t X = [] := by
  induction X with
  | nil => rfl
  | cons r q ih =>
    obtain ⟨o1, o2, u1, u2⟩ := tx r List.mem_cons_self; rw [hiF_cons, ctR_no (by omega) (by omega), ih (fun r' h' => tx r' (List.mem_cons_of_mem _ h'))]; rfl
theorem same_hi {n : Nat} {X Y : List (List U)} (tx : thrs n X) (ty : thrs n Y) : sameF X Y 0 n = true ↔ ∀ t, hiF t Y = hiF t X := by
  constructor
  · intro h t
    by_cases h1 : t < 0 ∨ (n : Int) ≤ t
    · rw [hi_out tx h1, hi_out ty h1]
    · obtain ⟨s, rfl⟩ := Int.eq_ofNat_of_zero_le (show 0 ≤ t by omega); exact (sameF_eq n 0 h s (Nat.zero_le _) (by omega)).symm
  · exact fun h => sameF_all h n 0
theorem same_fi {X Y : List (List U)} : ∀ (k t : Nat), sameF X Y t k = Nat.beq (fiF X Y t k).length 0
  | 0, _ => rfl
  | k + 1, t => by
    unfold sameF fiF; rw [same_fi k (t + 1), paF_meB, List.length_append]; cases meB (hiF t X) (hiF t Y)
    · rw [bc_f]; show false = Nat.beq (1 + _) 0; rw [Nat.add_comm]; rfl
    · rw [bc_t]; show _ = Nat.beq (0 + _) 0; rw [Nat.zero_add]

noncomputable def refP (X Y : List (List U)) (z : List Int) : Nat → Nat → List Int → List Int
  | 0, _, p => p
  | f + 1, i, p => refP X Y z f (i + 1) (p.set i (refV X Y z p i))
theorem refP_old {X Y : List (List U)} {z : List Int} : ∀ (f i : Nat) (p : List Int) (j : Nat), j < i → (refP X Y z f i p).getD j 0 = p.getD j 0
  | 0, _, _, _, _ => rfl
  | f + 1, i, p, j, h => by
    unfold refP; rw [refP_old f (i + 1) _ j (by omega), List.getD_eq_getElem?_getD, List.getElem?_set, if_neg (by omega), ← List.getD_eq_getElem?_getD]
theorem refV_eq {X Y : List (List U)} {z p q : List Int} {i : Nat} (h : ∀ j : Nat, j < i → p.getD j 0 = q.getD j 0) : refV X Y z p i = refV X Y z q i := by
  unfold refV; rw [befI_eq (q := q) i 0 0 (fun j hj => h j (by omega)), befI_eq (q := q) i 0 0 (fun j hj => h j (by omega))]
theorem refP_at {X Y : List (List U)} {z : List Int} : ∀ (f i : Nat) (p : List Int) (j : Nat), i ≤ j → j < i + f → j < p.length → (refP X Y z f i p).getD j 0 = refV X Y z (refP X Y z f i p) j
  | 0, i, p, j, h1, h2, _ => by omega
  | f + 1, i, p, j, h1, h2, h3 => by
    unfold refP
    by_cases e : j = i
    · subst e; rw [refP_old f (j + 1) _ j (by omega)]; have e1 : (p.set j (refV X Y z p j)).getD j 0 = refV X Y z p j := by
        rw [List.getD_eq_getElem?_getD, List.getElem?_set, if_pos rfl, if_pos h3]; rfl
      rw [e1]; refine refV_eq fun l hl => ?_; rw [refP_old f (j + 1) _ l (by omega), List.getD_eq_getElem?_getD (l := p.set j _), List.getElem?_set, if_neg (by omega), ← List.getD_eq_getElem?_getD]
    · exact refP_at f (i + 1) _ j (by omega) (by omega) (by rw [List.length_set]; exact h3)
theorem refC_P {X Y : List (List U)} {z : List Int} : ∀ (f i : Nat) (p : List Int), i + f = p.length → refC X Y z f i p = (((List.range' i f).filter fun j => decide (0 ≤ (refP X Y z f i p).getD j 0)).map (fun j : Nat => (j : Int)), ((List.range' i f).filter fun j => decide (0 ≤ (refP X Y z f i p).getD j 0)).map (fun j => (refP X Y z f i p).getD j 0))
  | 0, _, _, _ => rfl
  | f + 1, i, p, h => by
    have ih := refC_P (X := X) (Y := Y) (z := z) f (i + 1) (p.set i (refV X Y z p i)) (by rw [List.length_set]; omega); have e1 : (refP X Y z f (i + 1) (p.set i (refV X Y z p i))).getD i 0 = refV X Y z p i := by
      rw [refP_old f (i + 1) _ i (by omega), List.getD_eq_getElem?_getD, List.getElem?_set, if_pos rfl, if_pos (by omega)]; rfl
    have e2 : refP X Y z (f + 1) i p = refP X Y z f (i + 1) (p.set i (refV X Y z p i)) := rfl; unfold refC; rw [ih, e2, List.range'_succ, List.filter_cons, e1]
    by_cases g : 0 ≤ refV X Y z p i
    · rw [dt g, bc_t, if_pos rfl, List.map_cons, List.map_cons, e1]
    · rw [df g, bc_f, if_neg (by simp)]
theorem befI_cn {X : List (List U)} {p : List Int} {t : Int} (hX : Two X) : ∀ i : Nat, i ≤ X.length → (∀ j : Nat, j < i → onB t (X.getD j []) = true → 0 ≤ p.getD j 0) → befI X p t i 0 0 = cnT t X i
  | 0, _, _ => rfl
  | i + 1, hi, h => by
    have ih := befI_cn hX i (by omega) (fun j hj => h j (by omega)); unfold cnT at ih ⊢; rw [befI_last i 0 0 (Int.le_refl _), Nat.zero_add, ih, hiF_step t (by omega), ctR_on (hX.at (by omega)), df (by omega), bc_f]; cases g : onB t (X.getD i [])
    · simp only [bc_f]; omega
    · have := h i (by omega) g; rw [bc_t, df (by omega), bc_f, bc_t]; omega
theorem befI_ge {X : List (List U)} {p : List Int} {t : Int} : ∀ i : Nat, 0 ≤ befI X p t i 0 0 → ∀ j : Nat, j < i → onB t (X.getD j []) = true → 0 ≤ p.getD j 0
  | 0, _, j, hj, _ => by omega
  | i + 1, h, j, hj, ho => by
    rw [befI_last i 0 0 (Int.le_refl _), Nat.zero_add] at h
    by_cases g : befI X p t i 0 0 < 0
    · rw [dt g, bc_t] at h; omega
    · rw [df g, bc_f] at h
      by_cases e : j = i
      · subst e; rw [ho, bc_t] at h
        by_cases g2 : p.getD j 0 < 0
        · rw [dt g2, bc_t] at h; omega
        · omega
      · exact befI_ge i (by omega) j (by omega) ho
theorem matI_or {Y : List (List U)} {z : List Int} {o u n m : Int} : ∀ (f k : Nat) (c : Int), matI Y z o u n m f k c = c ∨ ∃ j : Nat, k ≤ j ∧ j < k + f ∧ refB Y z o u n m j = true ∧ matI Y z o u n m f k c = j
  | 0, _, _ => .inl rfl
  | f + 1, k, c => by
    have e : matI Y z o u n m (f + 1) k c = matI Y z o u n m f (k + 1) (bc (refB Y z o u n m k) (k : Int) c) := rfl; rw [e]; rcases matI_or (Y := Y) (z := z) (o := o) (u := u) (n := n) (m := m) f (k + 1) (bc (refB Y z o u n m k) (k : Int) c) with h | ⟨j, h1, h2, h3, h4⟩
    · rw [h]; cases g : refB Y z o u n m k
      · exact .inl rfl
      · exact .inr ⟨k, Nat.le_refl _, by omega, g, rfl⟩
    · exact .inr ⟨j, by omega, by omega, h3, h4⟩
theorem prs_ref {X Y : List (List U)} {z p : List Int} (hX : Two X) (hY : Two Y) (hz : ∀ j, 0 ≤ z.getD j 0) (hp : p.length = X.length) : Prs X Y fun i => (refP X Y z X.length 0 p).getD i 0 := by
  generalize hP : refP X Y z X.length 0 p = P; have at' : ∀ i : Nat, i < X.length → P.getD i 0 = refV X Y z P i := fun i hi => by
    rw [← hP]; exact refP_at X.length 0 p i (by omega) (by omega) (by omega)
  constructor
  · intro i hi hpos; rw [at' i hi] at hpos; have hV : P.getD i 0 = refV X Y z P i := at' i hi; unfold refV at hpos hV
    by_cases g1 : 0 ≤ befI X P (xO (X.getD i [])) i 0 0
    · by_cases g2 : 0 ≤ befI X P (xU (X.getD i [])) i 0 0
      · rw [dt g1, dt g2, bc_t, bc_t] at hpos hV; have f1 := befI_ge i g1; have f2 := befI_ge i g2; refine ⟨fun j hj hs => ?_, ?_⟩
        · obtain ⟨t, t1, t2⟩ := shr_on.1 hs; rcases onB_of.1 t2 with e | e
          · exact f1 j hj (by rw [e]; exact t1)
          · exact f2 j hj (by rw [e]; exact t1)
        · rcases matI_or (Y := Y) (z := z) (o := xO (X.getD i [])) (u := xU (X.getD i [])) (n := befI X P (xO (X.getD i [])) i 0 0) (m := befI X P (xU (X.getD i [])) i 0 0) Y.length 0 (-1) with h | ⟨k, h1, h2, h3, h4⟩
          · rw [h] at hpos; omega
          · rw [h4] at hV; obtain ⟨b1, b2, b3, b4⟩ := refB_of.1 h3; rw [befI_hi hY hz k (by omega), befI_cn hX i (by omega) f1] at b3; rw [befI_hi hY hz k (by omega), befI_cn hX i (by omega) f2] at b4; exact ⟨k, hV, by omega, b1.symm, b2.symm, by unfold cnT at b3 ⊢; omega, by unfold cnT at b4 ⊢; omega⟩
      · rw [dt g1, df g2, bc_t, bc_f] at hpos; omega
    · rw [df g1, bc_f] at hpos; omega
  · intro i k hi hk hc he; show P.getD i 0 = k; have f1 : ∀ j : Nat, j < i → onB (xO (X.getD i [])) (X.getD j []) = true → 0 ≤ P.getD j 0 := fun j hj ho => hc j hj (shr_on.2 ⟨_, ho, onB_of.2 (.inl rfl)⟩); have f2 : ∀ j : Nat, j < i → onB (xU (X.getD i [])) (X.getD j []) = true → 0 ≤ P.getD j 0 := fun j hj ho => hc j hj (shr_on.2 ⟨_, ho, onB_of.2 (.inr rfl)⟩); obtain ⟨e1, e2, e3, e4⟩ := he; rw [at' i hi]; unfold refV; rw [befI_cn hX i (by omega) f1, befI_cn hX i (by omega) f2, dt (by omega), dt (by omega), bc_t, bc_t]
    have hk0 : refB Y z (xO (X.getD i [])) (xU (X.getD i [])) (cnT (xO (X.getD i [])) X i) (cnT (xU (X.getD i [])) X i) k = true := refB_of.2 ⟨e1.symm, e2.symm, by rw [befI_hi hY hz k (by omega)]; unfold cnT at e3 ⊢; omega, by rw [befI_hi hY hz k (by omega)]; unfold cnT at e4 ⊢; omega⟩; refine matI_at hk0 _ 0 _ (by omega) (by omega) (fun j _ h2 hj => ?_)
    cases hb : refB Y z (xO (X.getD i [])) (xU (X.getD i [])) (cnT (xO (X.getD i [])) X i) (cnT (xU (X.getD i [])) X i) j with
    | false => rfl
    | true =>
      obtain ⟨b1, b2, b3, b4⟩ := refB_of.1 hb; rw [befI_hi hY hz j (by omega)] at b3; exact absurd (cnT_inj hY (by omega) hk (onB_of.2 (.inl b1)) (onB_of.2 (.inl e1.symm)) (by unfold cnT at e3 b3 ⊢; omega)) hj
end Go.Proofs.Ytjlfedhkpdogbaa.Ev
namespace Go.Proofs.Ytjlfedhkpdogbaa.Ev
noncomputable def flP (p : Nat → Int) (m : Nat) : List Nat := (List.range' 0 m).filter fun j => decide (0 ≤ p j)
noncomputable def xsP (p : Nat → Int) (m : Nat) : List Int := (flP p m).map fun j : Nat => (j : Int)
noncomputable def ysP (p : Nat → Int) (m : Nat) : List Int := (flP p m).map p
theorem fl_mem {p : Nat → Int} {m j : Nat} : j ∈ flP p m ↔ j < m ∧ 0 ≤ p j := by
  unfold flP; rw [List.mem_filter, List.mem_range'_1]; simp
theorem fl_lt (p : Nat → Int) (m : Nat) : (flP p m).Pairwise (· < ·) := List.Pairwise.filter _ (List.pairwise_lt_range' ..)
theorem fl_len (p : Nat → Int) (m : Nat) : (flP p m).length ≤ m := by
  have := List.length_filter_le (fun j => decide (0 ≤ p j)) (List.range' 0 m); rw [List.length_range'] at this; exact this
theorem xs_len (p : Nat → Int) (m : Nat) : (xsP p m).length = (flP p m).length := by unfold xsP; simp
theorem ys_len (p : Nat → Int) (m : Nat) : (ysP p m).length = (flP p m).length := by unfold ysP; simp
theorem xs_at {p : Nat → Int} {m i : Nat} (h : i < (flP p m).length) : (xsP p m).getD i 0 = ((flP p m)[i] : Int) := by
  rw [getD_at (by rw [xs_len]; exact h)]; unfold xsP; rw [List.getElem_map]
theorem ys_at {p : Nat → Int} {m i : Nat} (h : i < (flP p m).length) : (ysP p m).getD i 0 = p (flP p m)[i] := by
  rw [getD_at (by rw [ys_len]; exact h)]; unfold ysP; rw [List.getElem_map]
theorem xs_mem {p : Nat → Int} {m j : Nat} : (j : Int) ∈ xsP p m ↔ j < m ∧ 0 ≤ p j := by
  unfold xsP; rw [List.mem_map]; constructor
  · rintro ⟨i, h, e⟩
    have : i = j := by omega
    subst this; exact fl_mem.1 h
  · exact fun h => ⟨j, fl_mem.2 h, rfl⟩
theorem ys_mem {p : Nat → Int} {m : Nat} {a : Int} : a ∈ ysP p m ↔ ∃ j, j < m ∧ 0 ≤ p j ∧ p j = a := by
  unfold ysP; rw [List.mem_map]; constructor
  · rintro ⟨i, h, e⟩
    obtain ⟨h1, h2⟩ := fl_mem.1 h; exact ⟨i, h1, h2, e⟩
  · rintro ⟨j, h1, h2, e⟩
    exact ⟨j, fl_mem.2 ⟨h1, h2⟩, e⟩
theorem fl_idx {p : Nat → Int} {m i : Nat} (h : i < (flP p m).length) : (flP p m)[i] < m ∧ 0 ≤ p (flP p m)[i] := fl_mem.1 (List.getElem_mem h)
theorem fl_ord {p : Nat → Int} {m i k : Nat} (h : i < (flP p m).length) (hk : k < i) : (flP p m)[k] < (flP p m)[i] := List.pairwise_iff_getElem.1 (fl_lt p m) k i (by omega) h hk
theorem co_prs {n : Nat} {m : Int} {X P Y Q : List (List U)} (h1 : chk17 n X P = 0) (h2 : chk17 n Y Q = 0) (h : fiE n m X P Y Q = 0) : ∃ p : Nat → Int, Prs X Y p ∧ coP n m X P Y Q = (xsP p X.length, ysP p X.length) := by
  obtain ⟨_, _, _, _, tx, _⟩ := chk17_ok h1; obtain ⟨_, _, _, _, ty, _⟩ := chk17_ok h2; have hX := chk17_two h1; have hY := chk17_two h2; have hz : ∀ j : Nat, (0 : Int) ≤ ([] : List Int).getD j 0 := fun _ => Int.le_refl _; have l0 : (zerosL X.length).length = X.length := by unfold zerosL; simp
  have ln : (zerosL n).length = n := by unfold zerosL; simp
  have e1 := refC_com (z := []) hX hY tx ty hz X.length 0 (zerosL X.length) (zerosL n) (by omega) l0 ln (fun t ht => by
    unfold zerosL; rw [List.getD_eq_getElem?_getD, List.getElem?_replicate, if_pos ht]; rfl)
  have e2 := refC_P (X := X) (Y := Y) (z := []) X.length 0 (zerosL X.length) (by omega); refine ⟨_, prs_ref (z := []) hX hY hz l0, ?_⟩; unfold coP; rw [h]; show comF Y (rowsT (thF Y 0 (th0 n))) X 0 (zerosL n) = _; rw [List.drop_zero] at e1; rw [← e1, e2]; rfl
theorem Prs.kpt {X Y : List (List U)} {p : Nat → Int} (h : Prs X Y p) (hX : Two X) (hY : Two Y) : Kpt X Y (xsP p X.length) (ysP p X.length) := by
  refine ⟨by rw [xs_len, ys_len], fun i hi => ?_⟩; rw [xs_len] at hi; obtain ⟨j1, j2⟩ := fl_idx hi; have ho := fun k => fl_ord (k := k) hi; obtain ⟨_, k, k1, k2, k3⟩ := h.a _ j1 j2; rw [xs_at hi, ys_at hi]; refine ⟨by omega, by omega, j2, by omega, fun h0 => ?_, ?_, ?_, fun l hl => ?_⟩
  · rw [xs_at (by omega)]; have := ho (i - 1) (by omega); omega
  · rw [k1]; exact k3.1
  · rw [k1]; exact k3.2.1
  · rw [ys_at (by omega)]; have hl2 := ho l hl; obtain ⟨i1, i2⟩ := fl_idx (p := p) (m := X.length) (i := l) (by omega); obtain ⟨_, k', k1', k2', _⟩ := h.a _ i1 i2; generalize (flP p X.length)[i] = a at *; generalize (flP p X.length)[l] = b at *; constructor
    · intro e; have := h.inj hX i1 j1 (k := k) (by omega) k1; omega
    · intro hs; rw [k1, k1'] at hs; have := h.order hX hY i1 j1 k1' k1 hl2 hs; omega
theorem Prs.fl_le {X Y : List (List U)} {p q : Nat → Int} (h : Prs X Y p) (g : Prs Y X q) (hX : Two X) (hY : Two Y) : (flP p X.length).length ≤ (flP q Y.length).length := by
  have h1 : ((flP p X.length).map fun i => (p i).toNat).Nodup := by
    rw [List.Nodup, List.pairwise_map, List.pairwise_iff_getElem]; intro i j hi hj hij e; obtain ⟨a1, a2⟩ := fl_idx hi; obtain ⟨b1, b2⟩ := fl_idx hj; have o := fl_ord hj hij; have := h.inj hX a1 b1 (k := (p (flP p X.length)[j]).toNat) (by omega) (by omega); omega
  have h2 := h1.length_le_of_subset (l₂ := flP q Y.length) (fun k hk => by
    obtain ⟨i, i1, i2⟩ := List.mem_map.1 hk; obtain ⟨i3, i4⟩ := fl_mem.1 i1; obtain ⟨_, k', k1, k2, _⟩ := h.a i i3 i4; have e : k' = k := by omega
    subst e; have := h.turn' g hX hY i3 k1; exact fl_mem.2 ⟨k2, by omega⟩)
  rwa [List.length_map] at h2

def Trn (x y u v : List Int) : Prop := u.length = x.length ∧ v.length = u.length ∧ y.length = x.length ∧ ∀ i : Nat, i < u.length → ∃ k : Nat, k < x.length ∧ x.getD k 0 = v.getD i 0 ∧ y.getD k 0 = u.getD i 0
noncomputable instance (x y u v : List Int) : Decidable (Trn x y u v) := Classical.propDecidable _
theorem Prs.trn {X Y : List (List U)} {p q : Nat → Int} (h : Prs X Y p) (g : Prs Y X q) (hX : Two X) (hY : Two Y) : Trn (xsP p X.length) (ysP p X.length) (xsP q Y.length) (ysP q Y.length) := by
  have l1 := h.fl_le g hX hY; have l2 := g.fl_le h hY hX; refine ⟨by rw [xs_len, xs_len]; omega, by rw [xs_len, ys_len], by rw [xs_len, ys_len], fun i hi => ?_⟩; rw [xs_len] at hi; obtain ⟨j1, j2⟩ := fl_idx hi; obtain ⟨_, a, a1, a2, _⟩ := g.a _ j1 j2; have hp := g.turn' h hY hX j1 a1; have hm : a ∈ flP p X.length := fl_mem.2 ⟨a2, by omega⟩; obtain ⟨k, hk, ek⟩ := List.getElem_of_mem hm; refine ⟨k, by rw [xs_len]; exact hk, ?_, ?_⟩
  · rw [xs_at hk, ys_at hi, ek, a1]
  · rw [ys_at hk, xs_at hi, ek, hp]
noncomputable def flK (k : Int) : Int := bc (bc (k == 3) true (k == 4)) (7 - k) k
noncomputable def flR (r : List U) : List U := [.i (U.int (r.getD 0 (.i 0))), .i (U.int (r.getD 1 (.i 0))), .i (flK (U.int (r.getD 2 (.i 0))))]
theorem bne_sw {α : Type} [BEq α] [LawfulBEq α] (a b : α) : (a != b) = (b != a) := by
  cases h : b == a with
  | true => rw [beq_iff_eq] at h; rw [h]
  | false =>
    have h2 : b ≠ a := by simpa using h
    have e1 : (a == b) = false := by simpa using fun e => h2 e.symm
    unfold bne; rw [h, e1]
theorem paF_swap : ∀ (a b : List (List U)) (i : Nat), paF i b a = ((paF i a b).1, flK (paF i a b).2.1, (paF i a b).2.2)
  | [], [], i => rfl
  | _ :: _, [], i => rfl
  | [], _ :: _, i => rfl
  | x :: a, y :: b, i => by
    unfold paF; rw [bne_sw (mT y), bne_sw (mV y), paF_swap a b (i + 1)]; cases mT x != mT y
    · rw [bc_f, bc_f]; cases mV x != mV y
      · rfl
      · rfl
    · rfl
theorem fiF_swap (X Y : List (List U)) : ∀ (k t : Nat), fiF Y X t k = (fiF X Y t k).map flR
  | 0, _ => rfl
  | k + 1, t => by
    unfold fiF; rw [fiF_swap X Y k (t + 1), paF_swap (hiF t X) (hiF t Y), List.map_append]; congr 1; cases (paF 0 (hiF t X) (hiF t Y)).2.2 <;> rfl

noncomputable def mkA (w : List Bool) (l : List Int) : List Bool := l.foldl (fun w a => w.set a.toNat true) w
theorem mkA_len : ∀ (l : List Int) (w : List Bool), (mkA w l).length = w.length
  | [], _ => rfl
  | a :: l, w => by
    show (mkA (w.set a.toNat true) l).length = _; rw [mkA_len l, List.length_set]
theorem mkA_get : ∀ (l : List Int) (w : List Bool) (j : Nat), (∀ a ∈ l, 0 ≤ a) → j < w.length → ((mkA w l).getD j false = true ↔ w.getD j false = true ∨ (j : Int) ∈ l)
  | [], w, j, _, _ => by show w.getD j false = true ↔ _; simp
  | a :: l, w, j, h, hj => by
    show (mkA (w.set a.toNat true) l).getD j false = true ↔ _; have ha := h a List.mem_cons_self; rw [mkA_get l _ j (fun b hb => h b (List.mem_cons_of_mem _ hb)) (by rw [List.length_set]; exact hj), List.getD_eq_getElem?_getD, List.getElem?_set, List.mem_cons]
    by_cases e : a.toNat = j
    · rw [if_pos e, if_pos (by omega)]; have : (j : Int) = a := by omega
      simp [this]
    · rw [if_neg e, ← List.getD_eq_getElem?_getD]; have : (j : Int) ≠ a := by omega
      simp [this]

noncomputable def cloF (X : List (List U)) (w : List Bool) (i : Nat) : Nat → Nat → Bool
  | _, 0 => true
  | k, m + 1 => bc (bc (shrB (X.getD k []) (X.getD i [])) (!w.getD k false) false) false (cloF X w i (k + 1) m)
theorem cloF_iff {X : List (List U)} {w : List Bool} {i : Nat} : ∀ (m k : Nat), cloF X w i k m = true ↔ ∀ j : Nat, k ≤ j → j < k + m → shrB (X.getD j []) (X.getD i []) = true → w.getD j false = true
  | 0, k => ⟨fun _ j h1 h2 => by omega, fun _ => rfl⟩
  | m + 1, k => by
    unfold cloF
    cases h1 : bc (shrB (X.getD k []) (X.getD i [])) (!w.getD k false) false with
    | true =>
      rw [bc_t]; refine ⟨fun h => (Bool.noConfusion h), fun h => ?_⟩; have := h k (Nat.le_refl _) (by omega)
      cases hs : shrB (X.getD k []) (X.getD i []) with
      | true => rw [hs] at h1; rw [this hs] at h1; exact absurd h1 (by decide)
      | false => rw [hs, bc_f] at h1; exact Bool.noConfusion h1
    | false =>
      rw [bc_f, cloF_iff m (k + 1)]; constructor
      · intro h j j1 j2 hs
        by_cases e : j = k
        · subst e; rw [hs, bc_t] at h1; simpa using h1
        · exact h j (by omega) (by omega) hs
      · exact fun h j j1 j2 hs => h j (by omega) (by omega) hs

structure Mrk (X Y : List (List U)) (p : Nat → Int) (wa wb : List Bool) : Prop where
  la : wa.length = X.length
  lb : wb.length = Y.length
  a : ∀ j, j < X.length → (wa.getD j false = true ↔ 0 ≤ p j)
  b : ∀ k : Nat, k < Y.length → (wb.getD k false = true ↔ ∃ i, i < X.length ∧ p i = k)
theorem mrk_of {X Y : List (List U)} {p : Nat → Int} : Mrk X Y p (mkA (List.replicate X.length false) (xsP p X.length)) (mkA (List.replicate Y.length false) (ysP p X.length)) := by
  have z : ∀ (m j : Nat), (List.replicate m false).getD j false = false := fun m j => by
    rw [List.getD_eq_getElem?_getD, List.getElem?_replicate]; split <;> rfl
  refine ⟨by rw [mkA_len, List.length_replicate], by rw [mkA_len, List.length_replicate], fun j hj => ?_, fun k hk => ?_⟩
  · rw [mkA_get _ _ _ (fun a ha => ?_) (by rw [List.length_replicate]; exact hj), z, xs_mem]
    · simp [hj]
    · obtain ⟨i, _, e⟩ := List.mem_map.1 ha; omega
  · rw [mkA_get _ _ _ (fun a ha => ?_) (by rw [List.length_replicate]; exact hk), z, ys_mem]
    · constructor
      · rintro (h | ⟨i, h1, _, h3⟩)
        · exact absurd h (by decide)
        · exact ⟨i, h1, h3⟩
      · rintro ⟨i, h1, h3⟩; exact .inr ⟨i, h1, by omega, h3⟩
    · obtain ⟨i, _, _, e⟩ := ys_mem.1 ha; omega
namespace Mrk
variable {X Y : List (List U)} {p : Nat → Int} {wa wb : List Bool}
theorem cloA (h : Mrk X Y p wa wb) (hp : Prs X Y p) {i : Nat} (hi : i < X.length) (hw : wa.getD i false = true) : cloF X wa i 0 i = true := by
  rw [cloF_iff]; intro j _ hj hs; exact (h.a j (by omega)).2 ((hp.a i hi ((h.a i hi).1 hw)).1 j (by omega) hs)
theorem cloB (h : Mrk X Y p wa wb) (hp : Prs X Y p) (hX : Two X) (hY : Two Y) {k : Nat} (hk : k < Y.length) (hw : wb.getD k false = true) : cloF Y wb k 0 k = true := by
  rw [cloF_iff]; intro j _ hj hs; obtain ⟨i, i1, i2⟩ := (h.b k hk).1 hw; obtain ⟨i', a1, a2⟩ := hp.ahead hX hY i1 i2 (by omega) hs; exact (h.b j (by omega)).2 ⟨i', by omega, a2⟩
theorem most (h : Mrk X Y p wa wb) (hp : Prs X Y p) (hX : Two X) (hY : Two Y) {i k : Nat} (hi : i < X.length) (hk : k < Y.length) (wi : wa.getD i false = false) (wk : wb.getD k false = false) (e1 : xO (X.getD i []) = xO (Y.getD k [])) (e2 : xU (X.getD i []) = xU (Y.getD k [])) (ca : cloF X wa i 0 i = true) (cb : cloF Y wb k 0 k = true) : False := by
  refine hp.most hX hY hi hk ?_ ?_ e1 e2 ?_ ?_
  · have := h.a i hi; rw [wi] at this; have h2 : ¬ 0 ≤ p i := fun e => absurd (this.2 e) (by decide); omega
  · intro i' h1 h2; have := (h.b k hk).2 ⟨i', h1, h2⟩; rw [wk] at this; exact absurd this (by decide)
  · intro j hj hs; exact (h.a j (by omega)).1 ((cloF_iff _ _).1 ca j (by omega) (by omega) hs)
  · intro j hj hs; exact (h.b j (by omega)).1 ((cloF_iff _ _).1 cb j (by omega) (by omega) hs)
end Mrk
theorem oth_nil {l : List Int} {m : Nat} : othF l 0 m = [] ↔ ∀ j : Nat, j < m → (j : Int) ∈ l := by
  constructor
  · intro h j hj
    by_cases g : (j : Int) ∈ l
    · exact g
    · have := (othF_mem (l := l) (a := j) (k := m) (i := 0)).2 ⟨by omega, g⟩; rw [h] at this; cases this
  · intro h
    cases e : othF l 0 m with
    | nil => rfl
    | cons a r =>
      have := (othF_mem (l := l) (a := a) (k := m) (i := 0)).1 (by rw [e]; exact List.mem_cons_self); obtain ⟨⟨a1, a2⟩, a3⟩ := this; obtain ⟨a, rfl⟩ := Int.eq_ofNat_of_zero_le (show 0 ≤ a by omega); exact absurd (h a (by omega)) a3

theorem Prs.same_oth {n : Nat} {X Y : List (List U)} {p q : Nat → Int} (h : Prs X Y p) (g : Prs Y X q) (hX : Two X) (hY : Two Y) (tx : thrs n X) (ty : thrs n Y) : sameF X Y 0 n = true ↔ othF (xsP p X.length) 0 X.length = [] ∧ othF (ysP p X.length) 0 Y.length = [] := by
  rw [same_hi tx ty, oth_nil, oth_nil]; constructor
  · intro hh; have al := fun i hi => h.all_of hX hY hh (i + 1) i (by omega) hi; refine ⟨fun j hj => xs_mem.2 ⟨hj, al j hj⟩, fun k hk => ?_⟩; have aq := g.all_of hY hX (fun t => (hh t).symm) (k + 1) k (by omega) hk; obtain ⟨_, i, i1, i2, _⟩ := g.a k hk aq; have := g.turn' h hY hX hk i1; exact ys_mem.2 ⟨i, i2, by omega, this⟩
  · rintro ⟨h1, h2⟩
    exact h.hi_of hX hY (fun i hi => (xs_mem.1 (h1 i hi)).2) (fun k hk => by
      obtain ⟨i, i1, _, i3⟩ := ys_mem.1 (h2 k hk); exact ⟨i, i1, i3⟩)
end Go.Proofs.Ytjlfedhkpdogbaa.Ev
namespace Go.Proofs.Ytjlfedhkpdogbaa.Ev
open Go.Proofs
namespace PHis
end PHis
noncomputable def spPHis : ZCT := fun ax => match ax with
  | [.agg [.v (.int .i64 n), .lst (.recs [.int .i64, .int .i64, .int .i64, .int .i64] X), .lst (.recs [.int .i64, .int .i64, .int .i64, .int .i64] P)], .v (.int .i64 t)] => some ⟨decide (True), .tup [ml (hisL n t X P), iv (hisE n t X P)], [], 0⟩
  | _ => none
namespace RHi2
end RHi2
namespace RBot
end RBot
namespace PMEq
noncomputable def RUN (s : ES) : ZF := RZ 43 .nil (atS 0 43 4) [] [[(0,none),(1,none),(12,none),(13,none)]] false s

noncomputable def sS (a b : List (List U)) (z i : Int) : NS := ⟨[⟨43, 26, [(0, (EV.lst (SyC.recs [(Sh.int IntKind.i64), Sh.bool] (a)))), (1, (EV.lst (SyC.recs [(Sh.int IntKind.i64), Sh.bool] (b)))), (12, iv z), (13, iv i)], [.it (.code (nav [1, 1, 0, 1, 0, 0] (bodyOf Try.f43))), .it (.inLoop (nav [1, 1, 0, 1, 0, 0] (bodyOf Try.f43))), .it (.inBlock 0), .it (.code (nav [1, 1, 1] (bodyOf Try.f43)))], [], Option.none⟩], [], 0⟩
theorem in_t (a b : List (List U)) : RUN (st0 43 [ml a, ml b]) = (bc (Int.ofNat (List.length a) != Int.ofNat (List.length b)) (.done (EV.v (Value.bool false)) [] 0) (.at (sS (a) (b) (Int.ofNat (List.length a)) ((0 : Int))))) := by kernel_rfl
theorem step_t (a b : List (List U)) (z i : Int) : RUN (stOf (sS a b z i)) = (bc (decide (i < z)) (bc (bc (bc (bc (bc (decide ((0 : Int) ≤ i)) (Nat.blt (Int.toNat i) (List.length a)) false) true false) (bc (bc (Nat.blt (Int.toNat i) (List.length a)) true false) (bc (bc (bc (decide ((0 : Int) ≤ i)) (Nat.blt (Int.toNat i) (List.length b)) false) true false) (bc (bc (Nat.blt (Int.toNat i) (List.length b)) true false) true false) false) false) false) true false) (bc (bnot (bc (U.int (List.getD (List.getD a (Int.toNat i) []) (0 : Nat) (U.i (0 : Int))) == U.int (List.getD (List.getD b (Int.toNat i) []) (0 : Nat) (U.i (0 : Int)))) (bc (U.bool (List.getD (List.getD a (Int.toNat i) []) (Nat.succ (0 : Nat)) (U.i (0 : Int))) == U.bool (List.getD (List.getD b (Int.toNat i) []) (Nat.succ (0 : Nat)) (U.i (0 : Int)))) true false) false)) (.done (EV.v (Value.bool false)) [] 0) (.at (sS (a) (b) (z) (IntKind.wrap IntKind.i64 (i + (1 : Int)))))) .bad) (.done (EV.v (Value.bool true)) [] 0)) := by kernel_rfl
theorem loop {a b : List (List U)} (hl : a.length ≤ 100000) (hb : b.length = a.length) : ∀ (k i : Nat), i + k = a.length → EndZ 43 .nil false (stOf (sS a b a.length i)) (bv (meB (a.drop i) (b.drop i))) [] 0
  | 0, i, h => by
    have hs := step_t a b a.length i; rw [List.drop_eq_nil_of_le (show a.length ≤ i by omega), List.drop_eq_nil_of_le (show b.length ≤ i by omega)]; simp (disch := omega) only [Nat.add_eq, eqSy_self, eqN_self, bc_same, List.length_cons, ofn, wrap_in, dt, df, bltD, bltN, ble_of, bleN, beqD, bc_t, bc_f, nn_ok, Nat.zero_add, to_nat, Int.zero_add, Int.sub_zero, Int.sub_self, Int.cast_ofNat_Int, Int.natCast_zero, Int.toNat_zero, List.take_zero, List.nil_append, List.length_append, List.length_nil] at hs; exact .done hs
  | k + 1, i, h => by
    have hs := step_t a b a.length i; have h2 : i < a.length := by omega
    have h3 : i < b.length := by omega
    have e1 : a.getD i [] = a[i] := getD_at h2; have e2 : b.getD i [] = b[i] := getD_at h3; rw [to_nat, e1, e2] at hs; have f1 : U.int (List.getD a[i] 0 (U.i 0)) = mT a[i] := rfl; have f2 : U.int (List.getD b[i] 0 (U.i 0)) = mT b[i] := rfl; have f3 : U.bool (List.getD a[i] (Nat.succ 0) (U.i 0)) = mV a[i] := rfl; have f4 : U.bool (List.getD b[i] (Nat.succ 0) (U.i 0)) = mV b[i] := rfl; rw [f1, f2, f3, f4] at hs
    simp (disch := omega) only [Nat.add_eq, eqSy_self, eqN_self, bc_same, List.length_cons, ofn, wrap_in, dt, df, bltD, bltN, ble_of, bleN, beqD, bc_t, bc_f, nn_ok, Nat.zero_add, to_nat, Int.zero_add, Int.sub_zero, Int.sub_self, Int.cast_ofNat_Int, Int.natCast_zero, Int.toNat_zero, List.take_zero, List.nil_append, List.length_append, List.length_nil] at hs; rw [List.drop_eq_getElem_cons h2, List.drop_eq_getElem_cons h3]; unfold meB; cases g1 : (mT a[i] == mT b[i]) <;> rw [g1] at hs
    · exact .done hs
    · cases g2 : (mV a[i] == mV b[i]) <;> rw [g2] at hs
      · exact .done hs
      · exact .at (.nil _) hs (loop hl hb k (i + 1) (by omega))
end PMEq
noncomputable def spMEq : ZCT := fun ax => match ax with
  | [.lst (.recs [.int .i64, .bool] a), .lst (.recs [.int .i64, .bool] b)] => some ⟨decide (a.length ≤ 100000), bv (meB a b), [], 0⟩
  | _ => none
theorem spMEq_ok : ZCtOk Try.prog 43 spMEq := fun γ w us ax r hs hc hax hN hfz => by
  unfold spMEq at hs; split at hs
  case h_2 => cases hs
  rename_i a b; obtain ⟨rfl⟩ := Option.some.inj hs; have hc_0 : decide (a.length ≤ 100000) = true := hc; have hc := of_decide_eq_true hc_0; exact EndZ.calls (by
    have h := PMEq.in_t a b
    by_cases h1 : b.length = a.length
    · have e : (Int.ofNat a.length != Int.ofNat b.length) = false := by simp [h1]
      rw [e, bc_f] at h; exact .at (.nil _) h (PMEq.loop hc h1 a.length 0 (by omega))
    · have e : (Int.ofNat a.length != Int.ofNat b.length) = true := by simp; omega
      rw [e, bc_t] at h; show EndZ _ _ _ _ (bv (meB a b)) _ _; rw [meB_len (fun e => h1 e.symm)]; exact .done h) (.nil _) (by kernel_rfl) hax hN hfz
end Go.Proofs.Ytjlfedhkpdogbaa.Ev
namespace Go.Proofs.Ytjlfedhkpdogbaa.Ev
open Go.Proofs
noncomputable def ctEq : Tr ZCC := Tr.nil.put 43 (some (dC spMEq))
theorem ctEq_ok : ZCtsOk Try.prog ctEq := (ZCtsOk.nil _).add rfl spMEq_ok
namespace PEqT
noncomputable def RUN (s : ES) : ZF := RZ 41 ctEq (atS 0 41 4) [] [[(0,none),(1,none),(2,none),(15,none),(16,none),(17,none)]] false s

noncomputable def sS (R S : List (List U)) (z i : Int) : NS := ⟨[⟨41, 32, [(0, (EV.lst (SyC.recs [(Sh.list [(Sh.int IntKind.i64), Sh.bool]), (Sh.list [(Sh.int IntKind.i64)])] (R)))), (1, (EV.lst (SyC.recs [(Sh.list [(Sh.int IntKind.i64), Sh.bool]), (Sh.list [(Sh.int IntKind.i64)])] (S)))), (2, (EV.fn 42 [])), (15, (EV.lst (SyC.recs [(Sh.list [(Sh.int IntKind.i64), Sh.bool]), (Sh.list [(Sh.int IntKind.i64)])] (R)))), (16, iv z), (17, iv i)], [.it (.code (nav [1, 1, 0, 1, 0, 0] (bodyOf Try.f41))), .it (.inLoop (nav [1, 1, 0, 1, 0, 0] (bodyOf Try.f41))), .it (.inBlock 0), .it (.code (nav [1, 1, 1] (bodyOf Try.f41)))], [], Option.none⟩], [], 0⟩
theorem in_t (R S : List (List U)) : RUN (st0 41 [EV.lst (.recs shT R), EV.lst (.recs shT S), EV.fn 42 []]) = (bc (Int.ofNat (List.length R) != Int.ofNat (List.length S)) (.done (EV.v (Value.bool false)) [] 0) (.at (sS (R) (S) (Int.ofNat (List.length R)) ((0 : Int))))) := by kernel_rfl
theorem step_t (R S : List (List U)) (z i : Int) : RUN (stOf (sS R S z i)) = (bc (decide (i < z)) (bc (bc (bc (decide ((0 : Int) ≤ i)) (Nat.blt (Int.toNat i) (List.length R)) false) true false) (bc (bc (Nat.blt (Int.toNat i) (List.length R)) true false) (bc (bc (bc (decide ((0 : Int) ≤ i)) (Nat.blt (Int.toNat i) (List.length S)) false) true false) (bc (bc (Nat.blt (Int.toNat i) (List.length S)) true false) (bc (bc (decide (List.length (U.list (List.getD (List.getD R (Int.toNat i) []) (0 : Nat) (U.i (0 : Int)))) ≤ (100000 : Nat))) true false) (bc (!meB (U.list (List.getD (List.getD R (Int.toNat i) []) (0 : Nat) (U.i (0 : Int)))) (U.list (List.getD (List.getD S (Int.toNat i) []) (0 : Nat) (U.i (0 : Int))))) (.done (EV.v (Value.bool false)) [] 0) (.at (sS (R) (S) (z) (IntKind.wrap IntKind.i64 (i + (1 : Int)))))) .bad) .bad) .bad) .bad) .bad) (.done (EV.v (Value.bool true)) [] 0)) := by kernel_rfl
theorem loop {R S : List (List U)} (hl : R.length ≤ 100) (hb : S.length = R.length) (hR : ∀ j : Nat, (rM (R.getD j [])).length ≤ 100000) : ∀ (k i : Nat), i + k = R.length → EndZ 41 ctEq false (stOf (sS R S R.length i)) (bv (eqTB (R.drop i) (S.drop i))) [] 0
  | 0, i, h => by
    have hs := step_t R S R.length i; rw [List.drop_eq_nil_of_le (show R.length ≤ i by omega), List.drop_eq_nil_of_le (show S.length ≤ i by omega)]; simp (disch := omega) only [Nat.add_eq, eqSy_self, eqN_self, bc_same, List.length_cons, ofn, wrap_in, dt, df, bltD, bltN, ble_of, bleN, beqD, bc_t, bc_f, nn_ok, Nat.zero_add, to_nat, Int.zero_add, Int.sub_zero, Int.sub_self, Int.cast_ofNat_Int, Int.natCast_zero, Int.toNat_zero, List.take_zero, List.nil_append, List.length_append, List.length_nil] at hs; exact .done hs
  | k + 1, i, h => by
    have hs := step_t R S R.length i; have h2 : i < R.length := by omega
    have h3 : i < S.length := by omega
    have hr := hR i; have e1 : R.getD i [] = R[i] := getD_at h2; have e2 : S.getD i [] = S[i] := getD_at h3; rw [e1] at hr; rw [to_nat, e1, e2] at hs; have f1 : U.list (List.getD R[i] 0 (U.i 0)) = rM R[i] := rfl; have f2 : U.list (List.getD S[i] 0 (U.i 0)) = rM S[i] := rfl; rw [f1, f2, dt hr] at hs
    simp (disch := omega) only [Nat.add_eq, eqSy_self, eqN_self, bc_same, List.length_cons, ofn, wrap_in, dt, df, bltD, bltN, ble_of, bleN, beqD, bc_t, bc_f, nn_ok, Nat.zero_add, to_nat, Int.zero_add, Int.sub_zero, Int.sub_self, Int.cast_ofNat_Int, Int.natCast_zero, Int.toNat_zero, List.take_zero, List.nil_append, List.length_append, List.length_nil] at hs; rw [List.drop_eq_getElem_cons h2, List.drop_eq_getElem_cons h3]; unfold eqTB; cases g1 : meB (rM R[i]) (rM S[i]) <;> rw [g1] at hs
    · exact .done hs
    · exact .at ctEq_ok hs (loop hl hb hR k (i + 1) (by omega))
end PEqT
noncomputable def spEqT : ZCT := fun ax => match ax with
  | [.lst (.recs [.list [.int .i64, .bool], .list [.int .i64]] R), .lst (.recs [.list [.int .i64, .bool], .list [.int .i64]] S), .fn v_0 []] => some ⟨bc (Nat.beq v_0 (42)) (decide (R.length ≤ 100 ∧ hisS R)) false, bv (eqTB R S), [], 0⟩
  | _ => none
theorem spEqT_ok : ZCtOk Try.prog 41 spEqT := fun γ w us ax r hs hc hax hN hfz => by
  unfold spEqT at hs; split at hs
  case h_2 => cases hs
  rename_i R S v_0; obtain ⟨rfl⟩ := Option.some.inj hs; have hc_0 : bc (Nat.beq v_0 (42)) (decide (R.length ≤ 100 ∧ hisS R)) false = true := hc; obtain ⟨q_0, hc_1⟩ := bcT hc_0; have p_0 := (Nat.eq_of_beq_eq_true q_0).symm; subst p_0; have hc := of_decide_eq_true hc_1; exact EndZ.calls (by
    have h := PEqT.in_t R S
    by_cases h1 : S.length = R.length
    · have e : (Int.ofNat R.length != Int.ofNat S.length) = false := by simp [h1]
      rw [e, bc_f] at h; exact .at ctEq_ok h (PEqT.loop hc.1 h1 hc.2 R.length 0 (by omega))
    · have e : (Int.ofNat R.length != Int.ofNat S.length) = true := by simp; omega
      rw [e, bc_t] at h; show EndZ _ _ _ _ (bv (eqTB R S)) _ _; rw [eqTB_len (fun e => h1 e.symm)]; exact .done h) ctEq_ok (by kernel_rfl) hax hN hfz
noncomputable def ctPS : Tr ZCC := ((Tr.nil.put 39 (some (dC spPCk17))).put 35 (some (dC spThr))).put 41 (some (dC spEqT))
theorem ctPS_ok : ZCtsOk Try.prog ctPS := (((ZCtsOk.nil _).add rfl spPCk17_ok).add rfl spThr_ok).add rfl spEqT_ok
namespace PSam
noncomputable def RUN (s : ES) : ZF := RZ 16 ctPS (fun _ => false) [] [] false s
theorem in_t (n m : Int) (X P Y Q : List (List U)) : RUN (st0 16 [clE n X P, clE m Y Q]) = (bc (chk17 n X P != (0 : Int)) (bc (chk17 n X P != (0 : Int)) (.done (EV.tup [(EV.v (Value.bool false)), (EV.v (Value.int IntKind.i64 (chk17 n X P)))]) [] 0) (bc (bc (bc (decide ((0 : Int) ≤ n ∧ n ≤ (48 : Int) ∧ List.length X ≤ (20000 : Nat) ∧ thrs n X)) (bc (decide ((0 : Int) ≤ m ∧ m ≤ (48 : Int) ∧ List.length Y ≤ (20000 : Nat) ∧ thrs m Y)) (bc (bc (decide (List.length (rowsT (thF X (0 : Nat) (th0 (Int.toNat n)))) ≤ (100 : Nat) ∧ hisS (rowsT (thF X (0 : Nat) (th0 (Int.toNat n)))))) true false) true false) false) false) (bc (bc (bc (bc (decide (m = m)) (bc (eqSy (SyC.recs shX Y) (SyC.recs shX Y)) (bc (eqSy (SyC.recs shX Q) (SyC.recs shX Q)) true false) false) false) true false) true false) true false) false) (.done (EV.tup [(EV.v (Value.bool (eqTB (rowsT (thF X (0 : Nat) (th0 (Int.toNat n)))) (rowsT (thF Y (0 : Nat) (th0 (Int.toNat m))))))), (EV.v (Value.int IntKind.i64 (0)))]) [] 0) .bad)) (bc (chk17 m Y Q != (0 : Int)) (bc (chk17 m Y Q != (0 : Int)) (.done (EV.tup [(EV.v (Value.bool false)), (EV.v (Value.int IntKind.i64 (chk17 m Y Q)))]) [] 0) (bc (bc (bc (decide ((0 : Int) ≤ n ∧ n ≤ (48 : Int) ∧ List.length X ≤ (20000 : Nat) ∧ thrs n X)) (bc (decide ((0 : Int) ≤ m ∧ m ≤ (48 : Int) ∧ List.length Y ≤ (20000 : Nat) ∧ thrs m Y)) (bc (bc (decide (List.length (rowsT (thF X (0 : Nat) (th0 (Int.toNat n)))) ≤ (100 : Nat) ∧ hisS (rowsT (thF X (0 : Nat) (th0 (Int.toNat n)))))) true false) true false) false) false) (bc (bc (bc (bc (decide (m = m)) (bc (eqSy (SyC.recs shX Y) (SyC.recs shX Y)) (bc (eqSy (SyC.recs shX Q) (SyC.recs shX Q)) true false) false) false) true false) true false) true false) false) (.done (EV.tup [(EV.v (Value.bool (eqTB (rowsT (thF X (0 : Nat) (th0 (Int.toNat n)))) (rowsT (thF Y (0 : Nat) (th0 (Int.toNat m))))))), (EV.v (Value.int IntKind.i64 (0)))]) [] 0) .bad)) (bc (bc (bc (decide ((0 : Int) ≤ n ∧ n ≤ (48 : Int) ∧ List.length X ≤ (20000 : Nat) ∧ thrs n X)) (bc (decide ((0 : Int) ≤ m ∧ m ≤ (48 : Int) ∧ List.length Y ≤ (20000 : Nat) ∧ thrs m Y)) (bc (bc (decide (List.length (rowsT (thF X (0 : Nat) (th0 (Int.toNat n)))) ≤ (100 : Nat) ∧ hisS (rowsT (thF X (0 : Nat) (th0 (Int.toNat n)))))) true false) true false) false) false) (bc (bc (bc (bc (decide (m = m)) (bc (eqSy (SyC.recs shX Y) (SyC.recs shX Y)) (bc (eqSy (SyC.recs shX Q) (SyC.recs shX Q)) true false) false) false) true false) true false) true false) false) (.done (EV.tup [(EV.v (Value.bool (eqTB (rowsT (thF X (0 : Nat) (th0 (Int.toNat n)))) (rowsT (thF Y (0 : Nat) (th0 (Int.toNat m))))))), (EV.v (Value.int IntKind.i64 (0)))]) [] 0) .bad))) := by kernel_rfl
theorem ends (n m : Int) (X P Y Q : List (List U)) : EndZ 16 ctPS false (st0 16 [clE n X P, clE m Y Q]) (.tup [bv (samB n m X P Y Q), iv (botE n m X P Y Q)]) [] 0 := by
  have h := in_t n m X P Y Q; unfold samB botE
  by_cases z1 : chk17 n X P = 0
  · have b1 : (chk17 n X P != 0) = false := by simp [z1]
    rw [b1, bc_f] at h; rw [b1, bc_f]
    by_cases z2 : chk17 m Y Q = 0
    · have b3 : (chk17 m Y Q != 0) = false := by simp [z2]
      rw [b3, bc_f] at h; rw [b3, bc_f, z2]; obtain ⟨c1, c2, c3, c4, c5, _⟩ := chk17_ok z1; obtain ⟨d1, d2, d3, d4, d5, _⟩ := chk17_ok z2; obtain ⟨n, rfl⟩ := Int.eq_ofNat_of_zero_le (show 0 ≤ n by omega); obtain ⟨m, rfl⟩ := Int.eq_ofNat_of_zero_le (show 0 ≤ m by omega)
      rw [to_nat, to_nat, dt (show (0 : Int) ≤ m ∧ (m : Int) ≤ 48 ∧ Y.length ≤ 20000 ∧ thrs m Y from ⟨by omega, by omega, by omega, d5⟩), dt (show (0 : Int) ≤ n ∧ (n : Int) ≤ 48 ∧ X.length ≤ 20000 ∧ thrs n X from ⟨by omega, by omega, by omega, c5⟩), dt (show (rowsT (thF X 0 (th0 n))).length ≤ 100 ∧ hisS (rowsT (thF X 0 (th0 n))) from ⟨by rw [rowsH_len]; omega, hisS_rows c5 c3⟩)] at h
      simp (disch := omega) only [Nat.add_eq, eqSy_self, eqN_self, bc_same, List.length_cons, ofn, wrap_in, dt, df, bltD, bltN, ble_of, bleN, beqD, bc_t, bc_f, nn_ok, Nat.zero_add, to_nat, Int.zero_add, Int.sub_zero, Int.sub_self, Int.cast_ofNat_Int, Int.natCast_zero, Int.toNat_zero, List.take_zero, List.nil_append, List.length_append, List.length_nil] at h; have hb : eqTB (rowsT (thF X 0 (th0 n))) (rowsT (thF Y 0 (th0 m))) = bc ((n : Int) != (m : Int)) false (sameF X Y 0 n) := by
        by_cases z3 : n = m
        · subst z3; have b4 : ((n : Int) != (n : Int)) = false := by simp
          rw [b4, bc_f]; exact eqTB_rows c5 d5 n 0 (by omega)
        · have b4 : ((n : Int) != (m : Int)) = true := by simp; omega
          rw [b4, bc_t]; exact eqTB_len (by rw [rowsH_len, rowsH_len]; exact z3)
      rw [hb] at h; exact .done h
    · have b3 : (chk17 m Y Q != 0) = true := by simp [z2]
      rw [b3, bc_t, bc_t] at h; rw [b3, bc_t]; exact .done h
  · have b1 : (chk17 n X P != 0) = true := by simp [z1]
    rw [b1, bc_t, bc_t] at h; rw [b1, bc_t, b1, bc_t]; exact .done h
end PSam
noncomputable def spPSam : ZCT := fun ax => match ax with
  | [.agg [.v (.int .i64 n), .lst (.recs [.int .i64, .int .i64, .int .i64, .int .i64] X), .lst (.recs [.int .i64, .int .i64, .int .i64, .int .i64] P)], .agg [.v (.int .i64 m), .lst (.recs [.int .i64, .int .i64, .int .i64, .int .i64] Y), .lst (.recs [.int .i64, .int .i64, .int .i64, .int .i64] Q)]] => some ⟨decide (True), .tup [bv (samB n m X P Y Q), iv (botE n m X P Y Q)], [], 0⟩
  | _ => none
theorem spPSam_ok : ZCtOk Try.prog 16 spPSam := fun γ w us ax r hs hc hax hN hfz => by
  unfold spPSam at hs; split at hs
  case h_2 => cases hs
  rename_i n X P m Y Q; obtain ⟨rfl⟩ := Option.some.inj hs; have hc_0 : decide (True) = true := hc; have hc := of_decide_eq_true hc_0; exact EndZ.calls (PSam.ends n m X P Y Q) ctPS_ok (by kernel_rfl) hax hN hfz
namespace RSam
end RSam
namespace LMts
end LMts
end Go.Proofs.Ytjlfedhkpdogbaa.Ev
namespace Go.Proofs.Ytjlfedhkpdogbaa.Ev
open Go.Proofs
namespace LBrk
end LBrk
end Go.Proofs.Ytjlfedhkpdogbaa.Ev
namespace Go.Proofs.Ytjlfedhkpdogbaa.Ev
open Go.Proofs
theorem wrap_s (i : Nat) (h : i ≤ 1000000) : IntKind.wrap .i64 ((i : Int) + 1) = ((i + 1 : Nat) : Int) := by
  rw [wrap_in _ (by omega) (by omega)]; omega
namespace LBrk
end LBrk
end Go.Proofs.Ytjlfedhkpdogbaa.Ev
namespace Go.Proofs.Ytjlfedhkpdogbaa.Ev
open Go.Proofs
noncomputable abbrev blS (l : List Bool) : EV := .lst (.bools l)
namespace LClo
noncomputable def RUN (s : ES) : ZF := RZ 24 ctSh (atS 0 24 2) [] [[(1,none),(2,none),(3,none),(7,none)]] false s

noncomputable def sC (n : Int) (X P : List (List U)) (w : List Bool) (i k : Int) : NS := ⟨[⟨24, 31, [(1, (EV.lst (SyC.bools (w)))), (2, (EV.v (Value.int IntKind.i64 (i)))), (3, (EV.ptr 0 0)), (7, iv k)], [.it (.code (nav [1, 0, 1, 0, 0, 0] (bodyOf Try.f24))), .it (.code (nav [1, 0, 1, 0, 0, 1] (bodyOf Try.f24))), .it (.inLoop (nav [1, 0, 1, 0, 0] (bodyOf Try.f24))), .it (.inBlock 0), .it (.code (nav [1, 1] (bodyOf Try.f24)))], [], Option.none⟩], [(0, (EK.cells 25 [(EV.v (Value.int IntKind.i64 (n))), (EV.lst (SyC.recs [(Sh.int IntKind.i64), (Sh.int IntKind.i64), (Sh.int IntKind.i64), (Sh.int IntKind.i64)] (X))), (EV.lst (SyC.recs [(Sh.int IntKind.i64), (Sh.int IntKind.i64), (Sh.int IntKind.i64), (Sh.int IntKind.i64)] (P)))] true))], 1⟩
theorem in_t (n : Int) (X P : List (List U)) (w : List Bool) (i : Int) : RUN (st0 24 [clE n X P, blS w, iv i]) = (.at (sC (n) (X) (P) (w) (i) ((0 : Int)))) := by kernel_rfl
theorem c_t (n : Int) (X P : List (List U)) (w : List Bool) (i k : Int) : RUN (stOf (sC n X P w i k)) = (bc (decide (k < i)) (bc (shI (U.int (List.getD (List.getD X (Int.toNat k) []) (Nat.succ (Nat.succ (0 : Nat))) (U.i (0 : Int)))) (U.int (List.getD (List.getD X (Int.toNat k) []) (Nat.succ (Nat.succ (Nat.succ (0 : Nat)))) (U.i (0 : Int)))) (U.int (List.getD (List.getD X (Int.toNat i) []) (Nat.succ (Nat.succ (0 : Nat))) (U.i (0 : Int)))) (U.int (List.getD (List.getD X (Int.toNat i) []) (Nat.succ (Nat.succ (Nat.succ (0 : Nat)))) (U.i (0 : Int))))) (bc (bc (bc (bc (bc (decide ((0 : Int) ≤ k)) (Nat.blt (Int.toNat k) (List.length X)) false) true false) (bc (bc (Nat.blt (Int.toNat k) (List.length X)) true false) (bc (bc (bc (decide ((0 : Int) ≤ i)) (Nat.blt (Int.toNat i) (List.length X)) false) true false) (bc (bc (Nat.blt (Int.toNat i) (List.length X)) true false) (bc (eqB (shI (U.int (List.getD (List.getD X (Int.toNat k) []) (Nat.succ (Nat.succ (0 : Nat))) (U.i (0 : Int)))) (U.int (List.getD (List.getD X (Int.toNat k) []) (Nat.succ (Nat.succ (Nat.succ (0 : Nat)))) (U.i (0 : Int)))) (U.int (List.getD (List.getD X (Int.toNat i) []) (Nat.succ (Nat.succ (0 : Nat))) (U.i (0 : Int)))) (U.int (List.getD (List.getD X (Int.toNat i) []) (Nat.succ (Nat.succ (Nat.succ (0 : Nat)))) (U.i (0 : Int))))) true) (bc (bc (bc (decide ((0 : Int) ≤ k)) (Nat.blt (Int.toNat k) (List.length w)) false) true false) (bc (bc (Nat.blt (Int.toNat k) (List.length w)) true false) true false) false) false) false) false) false) false) true false) (bc (!List.getD w (Int.toNat k) false) (.done (EV.v (Value.bool false)) [] 0) (.at (sC (n) (X) (P) (w) (i) (IntKind.wrap IntKind.i64 (k + (1 : Int)))))) .bad) (bc (bc (bc (bc (bc (decide ((0 : Int) ≤ k)) (Nat.blt (Int.toNat k) (List.length X)) false) true false) (bc (bc (Nat.blt (Int.toNat k) (List.length X)) true false) (bc (bc (bc (decide ((0 : Int) ≤ i)) (Nat.blt (Int.toNat i) (List.length X)) false) true false) (bc (bc (Nat.blt (Int.toNat i) (List.length X)) true false) (bc (eqB (shI (U.int (List.getD (List.getD X (Int.toNat k) []) (Nat.succ (Nat.succ (0 : Nat))) (U.i (0 : Int)))) (U.int (List.getD (List.getD X (Int.toNat k) []) (Nat.succ (Nat.succ (Nat.succ (0 : Nat)))) (U.i (0 : Int)))) (U.int (List.getD (List.getD X (Int.toNat i) []) (Nat.succ (Nat.succ (0 : Nat))) (U.i (0 : Int)))) (U.int (List.getD (List.getD X (Int.toNat i) []) (Nat.succ (Nat.succ (Nat.succ (0 : Nat)))) (U.i (0 : Int))))) false) true false) false) false) false) false) true false) (.at (sC (n) (X) (P) (w) (i) (IntKind.wrap IntKind.i64 (k + (1 : Int))))) .bad)) (.done (EV.v (Value.bool true)) [] 0)) := by kernel_rfl
theorem loop {n : Int} {X P : List (List U)} {w : List Bool} {i : Nat} (hX : X.length ≤ 30000) (hw : w.length = X.length) (hi : i < X.length) : ∀ (f k : Nat), k + f = i → EndZ 24 ctSh false (stOf (sC n X P w i k)) (bv (cloF X w i k f)) [] 0
  | 0, k, h => by
    have h1 := c_t n X P w i k; rw [df (show ¬ (k : Int) < i by omega), bc_f] at h1; exact .done h1
  | f + 1, k, h => by
    have h1 := c_t n X P w i k; have ih := loop (n := n) (P := P) hX hw hi f (k + 1) (by omega); have w1 := wrap_s k (by omega); rw [to_nat, to_nat, w1] at h1; have e : shI (U.int (List.getD (X.getD k []) (Nat.succ (Nat.succ 0)) (U.i 0))) (U.int (List.getD (X.getD k []) (Nat.succ (Nat.succ (Nat.succ 0))) (U.i 0))) (U.int (List.getD (X.getD i []) (Nat.succ (Nat.succ 0)) (U.i 0))) (U.int (List.getD (X.getD i []) (Nat.succ (Nat.succ (Nat.succ 0))) (U.i 0))) = shrB (X.getD k []) (X.getD i []) := rfl; rw [e] at h1; unfold cloF
    cases hs : shrB (X.getD k []) (X.getD i []) with
    | false =>
      rw [hs] at h1; simp (disch := omega) only [Nat.add_eq, eqSy_self, eqN_self, bc_same, List.length_cons, ofn, wrap_in, dt, df, bltD, bltN, ble_of, bleN, beqD, bc_t, bc_f, nn_ok, Nat.zero_add, to_nat, Int.zero_add, Int.sub_zero, Int.sub_self, Int.cast_ofNat_Int, Int.natCast_zero, Int.toNat_zero, List.take_zero, List.nil_append, List.length_append, List.length_nil, eqB, decide_true] at h1; exact .at ctSh_ok h1 ih
    | true =>
      rw [hs] at h1
      cases hg : w.getD k false with
      | true =>
        rw [hg] at h1; simp (disch := omega) only [Nat.add_eq, eqSy_self, eqN_self, bc_same, List.length_cons, ofn, wrap_in, dt, df, bltD, bltN, ble_of, bleN, beqD, bc_t, bc_f, nn_ok, Nat.zero_add, to_nat, Int.zero_add, Int.sub_zero, Int.sub_self, Int.cast_ofNat_Int, Int.natCast_zero, Int.toNat_zero, List.take_zero, List.nil_append, List.length_append, List.length_nil, eqB, decide_true, Bool.not_true] at h1; exact .at ctSh_ok h1 ih
      | false =>
        rw [hg] at h1; simp (disch := omega) only [Nat.add_eq, eqSy_self, eqN_self, bc_same, List.length_cons, ofn, wrap_in, dt, df, bltD, bltN, ble_of, bleN, beqD, bc_t, bc_f, nn_ok, Nat.zero_add, to_nat, Int.zero_add, Int.sub_zero, Int.sub_self, Int.cast_ofNat_Int, Int.natCast_zero, Int.toNat_zero, List.take_zero, List.nil_append, List.length_append, List.length_nil, eqB, decide_true, Bool.not_false] at h1; exact .done h1
end LClo
noncomputable def spClo : ZCT := fun ax => match ax with
  | [.agg [.v (.int .i64 n), .lst (.recs [.int .i64, .int .i64, .int .i64, .int .i64] X), .lst (.recs [.int .i64, .int .i64, .int .i64, .int .i64] P)], .lst (.bools w), .v (.int .i64 i)] => some ⟨decide (0 ≤ i ∧ i < X.length ∧ X.length ≤ 30000 ∧ w.length = X.length), bv (cloF X w i.toNat 0 i.toNat), [], 0⟩
  | _ => none
theorem spClo_ok : ZCtOk Try.prog 24 spClo := fun γ w us ax r hs hc hax hN hfz => by
  unfold spClo at hs; split at hs
  case h_2 => cases hs
  rename_i n X P w i; obtain ⟨rfl⟩ := Option.some.inj hs; have hc_0 : decide (0 ≤ i ∧ i < X.length ∧ X.length ≤ 30000 ∧ w.length = X.length) = true := hc; have hc := of_decide_eq_true hc_0; exact EndZ.calls (by
    obtain ⟨h1, h2, h3, h4⟩ := hc; obtain ⟨i, rfl⟩ := Int.eq_ofNat_of_zero_le h1; rw [to_nat]; exact .at ctSh_ok (LClo.in_t n X P w i) (LClo.loop h3 h4 (by omega) i 0 (by omega))) ctSh_ok (by kernel_rfl) hax hN hfz
end Go.Proofs.Ytjlfedhkpdogbaa.Ev
namespace Go.Proofs.Ytjlfedhkpdogbaa.Ev
open Go.Proofs
noncomputable def ctTu : Tr ZCC := (Tr.nil.put 17 (some (dC spPCom))).put 11 (some (dC spPFir))
theorem ctTu_ok : ZCtsOk Try.prog ctTu := ((ZCtsOk.nil _).add rfl spPCom_ok).add rfl spPFir_ok
namespace LTur
noncomputable def RUN (s : ES) : ZF := RZs 26 ctTu [(atS 0 26 6, [[(2,none),(3,none),(4,none),(11,none),(12,none),(14,none),(16,none)]]), (atS 0 26 10, [[(2,none),(3,none),(4,none),(11,none),(12,none),(14,none),(16,none),(17,none),(18,none)]]), (atS 0 26 16, [[(4,none),(14,none),(19,none)]])] [] false s

noncomputable def sA (x y u v : List Int) (L M : List (List U)) (i : Int) : NS := ⟨[⟨26, 150, [(2, (EV.lst (SyC.ints IntKind.i64 (x)))), (3, (EV.lst (SyC.ints IntKind.i64 (y)))), (4, (EV.lst (SyC.recs [(Sh.int IntKind.i64), (Sh.int IntKind.i64), (Sh.int IntKind.i64)] (L)))), (11, il u), (12, il v), (14, pl M), (16, iv i)], [.it (.code (nav [1, 1, 1, 1, 0, 1, 0, 0, 0] (bodyOf Try.f26))), .it (.code (nav [1, 1, 1, 1, 0, 1, 0, 0, 1] (bodyOf Try.f26))), .it (.inLoop (nav [1, 1, 1, 1, 0, 1, 0, 0] (bodyOf Try.f26))), .it (.inBlock 0), .it (.code (nav [1, 1, 1, 1, 1] (bodyOf Try.f26)))], [], Option.none⟩], [], 0⟩
noncomputable def sB (x y u v : List Int) (L M : List (List U)) (i k : Int) (fo : Bool) : NS := ⟨[⟨26, 150, [(2, (EV.lst (SyC.ints IntKind.i64 (x)))), (3, (EV.lst (SyC.ints IntKind.i64 (y)))), (4, (EV.lst (SyC.recs [(Sh.int IntKind.i64), (Sh.int IntKind.i64), (Sh.int IntKind.i64)] (L)))), (11, (EV.lst (SyC.ints IntKind.i64 (u)))), (12, (EV.lst (SyC.ints IntKind.i64 (v)))), (14, (EV.lst (SyC.recs [(Sh.int IntKind.i64), (Sh.int IntKind.i64), (Sh.int IntKind.i64)] (M)))), (16, (EV.v (Value.int IntKind.i64 (i)))), (17, bv fo), (18, iv k)], [.it (.code (nav [1, 1, 1, 1, 0, 1, 0, 0, 1, 0, 0, 1, 0, 1, 0, 0, 0] (bodyOf Try.f26))), .it (.code (nav [1, 1, 1, 1, 0, 1, 0, 0, 1, 0, 0, 1, 0, 1, 0, 0, 1] (bodyOf Try.f26))), .it (.inLoop (nav [1, 1, 1, 1, 0, 1, 0, 0, 1, 0, 0, 1, 0, 1, 0, 0] (bodyOf Try.f26))), .it (.inBlock 2), .it (.code (nav [1, 1, 1, 1, 0, 1, 0, 0, 1, 0, 0, 1, 1] (bodyOf Try.f26))), .it (.inBlock 1), .it (.code (nav [1, 1, 1, 1, 0, 1, 0, 0, 1, 1] (bodyOf Try.f26))), .it (.inLoop (nav [1, 1, 1, 1, 0, 1, 0, 0] (bodyOf Try.f26))), .it (.inBlock 0), .it (.code (nav [1, 1, 1, 1, 1] (bodyOf Try.f26)))], [], Option.none⟩], [], 0⟩
noncomputable def sC (L M : List (List U)) (i : Int) : NS := ⟨[⟨26, 150, [(4, (EV.lst (SyC.recs [(Sh.int IntKind.i64), (Sh.int IntKind.i64), (Sh.int IntKind.i64)] (L)))), (14, (EV.lst (SyC.recs [(Sh.int IntKind.i64), (Sh.int IntKind.i64), (Sh.int IntKind.i64)] (M)))), (19, iv i)], [.it (.code (nav [1, 1, 1, 1, 1, 0, 1, 0, 0, 0] (bodyOf Try.f26))), .it (.code (nav [1, 1, 1, 1, 1, 0, 1, 0, 0, 1] (bodyOf Try.f26))), .it (.inLoop (nav [1, 1, 1, 1, 1, 0, 1, 0, 0] (bodyOf Try.f26))), .it (.inBlock 4), .it (.code (nav [1, 1, 1, 1, 1, 1] (bodyOf Try.f26)))], [], Option.none⟩], [], 0⟩
theorem in_t (n m : Int) (X P Y Q : List (List U)) (x y : List Int) (L : List (List U)) : RUN (st0 26 [clE n X P, clE m Y Q, il x, il y, pl L]) = (bc (fiE m n Y Q X P != (0 : Int)) (.done (EV.v (Value.bool false)) [] 0) (bc (fiE m n Y Q X P != (0 : Int)) (.done (EV.v (Value.bool false)) [] 0) (bc (Int.ofNat (List.length (Prod.fst (coP m n Y Q X P))) != Int.ofNat (List.length x)) (.done (EV.v (Value.bool false)) [] 0) (bc (Int.ofNat (List.length (Prod.snd (coP m n Y Q X P))) != Int.ofNat (List.length (Prod.fst (coP m n Y Q X P)))) (.done (EV.v (Value.bool false)) [] 0) (bc (Int.ofNat (List.length (fiL m n Y Q X P)) != Int.ofNat (List.length L)) (.done (EV.v (Value.bool false)) [] 0) (.at (sA (x) (y) (Prod.fst (coP m n Y Q X P)) (Prod.snd (coP m n Y Q X P)) (L) (fiL m n Y Q X P) ((0 : Int))))))))) := by kernel_rfl
theorem a_t (x y u v : List Int) (L M : List (List U)) (i : Int) : RUN (stOf (sA x y u v L M i)) = (bc (decide (i < Int.ofNat (List.length u))) (.at (sB (x) (y) (u) (v) (L) (M) (i) ((0 : Int)) (false))) (.at (sC (L) (M) ((0 : Int))))) := by kernel_rfl
theorem b_t (x y u v : List Int) (L M : List (List U)) (i k : Int) (fo : Bool) : RUN (stOf (sB x y u v L M i k fo)) = (bc (decide (k < Int.ofNat (List.length x))) (bc (fo) (bc (bc (bc (eqB fo true) true false) true false) (.at (sB (x) (y) (u) (v) (L) (M) (i) (IntKind.wrap IntKind.i64 (k + (1 : Int))) (true))) .bad) (bc (List.getD x (Int.toNat k) (0 : Int) == List.getD v (Int.toNat i) (0 : Int)) (bc (bc (bc (eqB fo false) (bc (bc (bc (decide ((0 : Int) ≤ k)) (Nat.blt (Int.toNat k) (List.length x)) false) true false) (bc (bc (Nat.blt (Int.toNat k) (List.length x)) true false) (bc (bc (bc (decide ((0 : Int) ≤ i)) (Nat.blt (Int.toNat i) (List.length v)) false) true false) (bc (bc (Nat.blt (Int.toNat i) (List.length v)) true false) (bc (eqB (List.getD x (Int.toNat k) (0 : Int) == List.getD v (Int.toNat i) (0 : Int)) true) (bc (bc (bc (decide ((0 : Int) ≤ k)) (Nat.blt (Int.toNat k) (List.length y)) false) true false) (bc (bc (Nat.blt (Int.toNat k) (List.length y)) true false) (bc (bc (bc (decide ((0 : Int) ≤ i)) (Nat.blt (Int.toNat i) (List.length u)) false) true false) (bc (bc (Nat.blt (Int.toNat i) (List.length u)) true false) true false) false) false) false) false) false) false) false) false) false) true false) (.at (sB (x) (y) (u) (v) (L) (M) (i) (IntKind.wrap IntKind.i64 (k + (1 : Int))) (List.getD y (Int.toNat k) (0 : Int) == List.getD u (Int.toNat i) (0 : Int)))) .bad) (bc (bc (bc (eqB fo false) (bc (bc (bc (decide ((0 : Int) ≤ k)) (Nat.blt (Int.toNat k) (List.length x)) false) true false) (bc (bc (Nat.blt (Int.toNat k) (List.length x)) true false) (bc (bc (bc (decide ((0 : Int) ≤ i)) (Nat.blt (Int.toNat i) (List.length v)) false) true false) (bc (bc (Nat.blt (Int.toNat i) (List.length v)) true false) (bc (eqB (List.getD x (Int.toNat k) (0 : Int) == List.getD v (Int.toNat i) (0 : Int)) false) true false) false) false) false) false) false) true false) (.at (sB (x) (y) (u) (v) (L) (M) (i) (IntKind.wrap IntKind.i64 (k + (1 : Int))) (false))) .bad))) (bc (!fo) (.done (EV.v (Value.bool false)) [] 0) (.at (sA (x) (y) (u) (v) (L) (M) (IntKind.wrap IntKind.i64 (i + (1 : Int))))))) := by kernel_rfl
theorem c_t (L M : List (List U)) (i : Int) : RUN (stOf (sC L M i)) = (bc (decide (i < Int.ofNat (List.length L))) (bc (bc (bc (decide ((0 : Int) ≤ i)) (Nat.blt (Int.toNat i) (List.length L)) false) true false) (bc (bc (Nat.blt (Int.toNat i) (List.length L)) true false) (bc (U.int (List.getD (List.getD L (Int.toNat i) []) (Nat.add (0 : Nat) (2 : Nat)) (U.i (0 : Int))) == (3 : Int)) (bc (U.int (List.getD (List.getD M (Int.toNat i) []) (Nat.add (0 : Nat) (0 : Nat)) (U.i (0 : Int))) != U.int (List.getD (List.getD L (Int.toNat i) []) (Nat.add (0 : Nat) (0 : Nat)) (U.i (0 : Int)))) (bc (bc (bc (bc (bc (decide ((0 : Int) ≤ i)) (Nat.blt (Int.toNat i) (List.length M)) false) true false) (bc (bc (Nat.blt (Int.toNat i) (List.length M)) true false) (bc (bc (bc (decide ((0 : Int) ≤ i)) (Nat.blt (Int.toNat i) (List.length L)) false) true false) (bc (bc (Nat.blt (Int.toNat i) (List.length L)) true false) (bc (eqB (U.int (List.getD (List.getD M (Int.toNat i) []) (Nat.add (0 : Nat) (0 : Nat)) (U.i (0 : Int))) != U.int (List.getD (List.getD L (Int.toNat i) []) (Nat.add (0 : Nat) (0 : Nat)) (U.i (0 : Int)))) true) true false) false) false) false) false) true false) (.done (EV.v (Value.bool false)) [] 0) .bad) (bc (U.int (List.getD (List.getD M (Int.toNat i) []) (Nat.add (0 : Nat) (1 : Nat)) (U.i (0 : Int))) != U.int (List.getD (List.getD L (Int.toNat i) []) (Nat.add (0 : Nat) (1 : Nat)) (U.i (0 : Int)))) (bc (bc (bc (bc (bc (decide ((0 : Int) ≤ i)) (Nat.blt (Int.toNat i) (List.length M)) false) true false) (bc (bc (Nat.blt (Int.toNat i) (List.length M)) true false) (bc (bc (bc (decide ((0 : Int) ≤ i)) (Nat.blt (Int.toNat i) (List.length L)) false) true false) (bc (bc (Nat.blt (Int.toNat i) (List.length L)) true false) (bc (eqB (U.int (List.getD (List.getD M (Int.toNat i) []) (Nat.add (0 : Nat) (0 : Nat)) (U.i (0 : Int))) != U.int (List.getD (List.getD L (Int.toNat i) []) (Nat.add (0 : Nat) (0 : Nat)) (U.i (0 : Int)))) false) (bc (bc (bc (decide ((0 : Int) ≤ i)) (Nat.blt (Int.toNat i) (List.length M)) false) true false) (bc (bc (Nat.blt (Int.toNat i) (List.length M)) true false) (bc (bc (bc (decide ((0 : Int) ≤ i)) (Nat.blt (Int.toNat i) (List.length L)) false) true false) (bc (bc (Nat.blt (Int.toNat i) (List.length L)) true false) (bc (eqB (U.int (List.getD (List.getD M (Int.toNat i) []) (Nat.add (0 : Nat) (1 : Nat)) (U.i (0 : Int))) != U.int (List.getD (List.getD L (Int.toNat i) []) (Nat.add (0 : Nat) (1 : Nat)) (U.i (0 : Int)))) true) true false) false) false) false) false) false) false) false) false) false) true false) (.done (EV.v (Value.bool false)) [] 0) .bad) (bc (bc (bc (bc (bc (decide ((0 : Int) ≤ i)) (Nat.blt (Int.toNat i) (List.length M)) false) true false) (bc (bc (Nat.blt (Int.toNat i) (List.length M)) true false) (bc (bc (bc (decide ((0 : Int) ≤ i)) (Nat.blt (Int.toNat i) (List.length L)) false) true false) (bc (bc (Nat.blt (Int.toNat i) (List.length L)) true false) (bc (eqB (U.int (List.getD (List.getD M (Int.toNat i) []) (Nat.add (0 : Nat) (0 : Nat)) (U.i (0 : Int))) != U.int (List.getD (List.getD L (Int.toNat i) []) (Nat.add (0 : Nat) (0 : Nat)) (U.i (0 : Int)))) false) (bc (bc (bc (decide ((0 : Int) ≤ i)) (Nat.blt (Int.toNat i) (List.length M)) false) true false) (bc (bc (Nat.blt (Int.toNat i) (List.length M)) true false) (bc (bc (bc (decide ((0 : Int) ≤ i)) (Nat.blt (Int.toNat i) (List.length L)) false) true false) (bc (bc (Nat.blt (Int.toNat i) (List.length L)) true false) (bc (eqB (U.int (List.getD (List.getD M (Int.toNat i) []) (Nat.add (0 : Nat) (1 : Nat)) (U.i (0 : Int))) != U.int (List.getD (List.getD L (Int.toNat i) []) (Nat.add (0 : Nat) (1 : Nat)) (U.i (0 : Int)))) false) (bc (bc (bc (decide ((0 : Int) ≤ i)) (Nat.blt (Int.toNat i) (List.length M)) false) true false) (bc (bc (Nat.blt (Int.toNat i) (List.length M)) true false) true false) false) false) false) false) false) false) false) false) false) false) false) true false) (bc (U.int (List.getD (List.getD M (Int.toNat i) []) (Nat.add (0 : Nat) (2 : Nat)) (U.i (0 : Int))) != IntKind.wrap IntKind.i64 ((7 : Int) - U.int (List.getD (List.getD L (Int.toNat i) []) (Nat.add (0 : Nat) (2 : Nat)) (U.i (0 : Int))))) (.done (EV.v (Value.bool false)) [] 0) (.at (sC (L) (M) (IntKind.wrap IntKind.i64 (i + (1 : Int)))))) .bad))) (bc (U.int (List.getD (List.getD L (Int.toNat i) []) (Nat.add (0 : Nat) (2 : Nat)) (U.i (0 : Int))) == (4 : Int)) (bc (U.int (List.getD (List.getD M (Int.toNat i) []) (Nat.add (0 : Nat) (0 : Nat)) (U.i (0 : Int))) != U.int (List.getD (List.getD L (Int.toNat i) []) (Nat.add (0 : Nat) (0 : Nat)) (U.i (0 : Int)))) (bc (bc (bc (bc (bc (decide ((0 : Int) ≤ i)) (Nat.blt (Int.toNat i) (List.length M)) false) true false) (bc (bc (Nat.blt (Int.toNat i) (List.length M)) true false) (bc (bc (bc (decide ((0 : Int) ≤ i)) (Nat.blt (Int.toNat i) (List.length L)) false) true false) (bc (bc (Nat.blt (Int.toNat i) (List.length L)) true false) (bc (eqB (U.int (List.getD (List.getD M (Int.toNat i) []) (Nat.add (0 : Nat) (0 : Nat)) (U.i (0 : Int))) != U.int (List.getD (List.getD L (Int.toNat i) []) (Nat.add (0 : Nat) (0 : Nat)) (U.i (0 : Int)))) true) true false) false) false) false) false) true false) (.done (EV.v (Value.bool false)) [] 0) .bad) (bc (U.int (List.getD (List.getD M (Int.toNat i) []) (Nat.add (0 : Nat) (1 : Nat)) (U.i (0 : Int))) != U.int (List.getD (List.getD L (Int.toNat i) []) (Nat.add (0 : Nat) (1 : Nat)) (U.i (0 : Int)))) (bc (bc (bc (bc (bc (decide ((0 : Int) ≤ i)) (Nat.blt (Int.toNat i) (List.length M)) false) true false) (bc (bc (Nat.blt (Int.toNat i) (List.length M)) true false) (bc (bc (bc (decide ((0 : Int) ≤ i)) (Nat.blt (Int.toNat i) (List.length L)) false) true false) (bc (bc (Nat.blt (Int.toNat i) (List.length L)) true false) (bc (eqB (U.int (List.getD (List.getD M (Int.toNat i) []) (Nat.add (0 : Nat) (0 : Nat)) (U.i (0 : Int))) != U.int (List.getD (List.getD L (Int.toNat i) []) (Nat.add (0 : Nat) (0 : Nat)) (U.i (0 : Int)))) false) (bc (bc (bc (decide ((0 : Int) ≤ i)) (Nat.blt (Int.toNat i) (List.length M)) false) true false) (bc (bc (Nat.blt (Int.toNat i) (List.length M)) true false) (bc (bc (bc (decide ((0 : Int) ≤ i)) (Nat.blt (Int.toNat i) (List.length L)) false) true false) (bc (bc (Nat.blt (Int.toNat i) (List.length L)) true false) (bc (eqB (U.int (List.getD (List.getD M (Int.toNat i) []) (Nat.add (0 : Nat) (1 : Nat)) (U.i (0 : Int))) != U.int (List.getD (List.getD L (Int.toNat i) []) (Nat.add (0 : Nat) (1 : Nat)) (U.i (0 : Int)))) true) true false) false) false) false) false) false) false) false) false) false) true false) (.done (EV.v (Value.bool false)) [] 0) .bad) (bc (bc (bc (bc (bc (decide ((0 : Int) ≤ i)) (Nat.blt (Int.toNat i) (List.length M)) false) true false) (bc (bc (Nat.blt (Int.toNat i) (List.length M)) true false) (bc (bc (bc (decide ((0 : Int) ≤ i)) (Nat.blt (Int.toNat i) (List.length L)) false) true false) (bc (bc (Nat.blt (Int.toNat i) (List.length L)) true false) (bc (eqB (U.int (List.getD (List.getD M (Int.toNat i) []) (Nat.add (0 : Nat) (0 : Nat)) (U.i (0 : Int))) != U.int (List.getD (List.getD L (Int.toNat i) []) (Nat.add (0 : Nat) (0 : Nat)) (U.i (0 : Int)))) false) (bc (bc (bc (decide ((0 : Int) ≤ i)) (Nat.blt (Int.toNat i) (List.length M)) false) true false) (bc (bc (Nat.blt (Int.toNat i) (List.length M)) true false) (bc (bc (bc (decide ((0 : Int) ≤ i)) (Nat.blt (Int.toNat i) (List.length L)) false) true false) (bc (bc (Nat.blt (Int.toNat i) (List.length L)) true false) (bc (eqB (U.int (List.getD (List.getD M (Int.toNat i) []) (Nat.add (0 : Nat) (1 : Nat)) (U.i (0 : Int))) != U.int (List.getD (List.getD L (Int.toNat i) []) (Nat.add (0 : Nat) (1 : Nat)) (U.i (0 : Int)))) false) (bc (bc (bc (decide ((0 : Int) ≤ i)) (Nat.blt (Int.toNat i) (List.length M)) false) true false) (bc (bc (Nat.blt (Int.toNat i) (List.length M)) true false) true false) false) false) false) false) false) false) false) false) false) false) false) true false) (bc (U.int (List.getD (List.getD M (Int.toNat i) []) (Nat.add (0 : Nat) (2 : Nat)) (U.i (0 : Int))) != IntKind.wrap IntKind.i64 ((7 : Int) - U.int (List.getD (List.getD L (Int.toNat i) []) (Nat.add (0 : Nat) (2 : Nat)) (U.i (0 : Int))))) (.done (EV.v (Value.bool false)) [] 0) (.at (sC (L) (M) (IntKind.wrap IntKind.i64 (i + (1 : Int)))))) .bad))) (bc (U.int (List.getD (List.getD M (Int.toNat i) []) (Nat.add (0 : Nat) (0 : Nat)) (U.i (0 : Int))) != U.int (List.getD (List.getD L (Int.toNat i) []) (Nat.add (0 : Nat) (0 : Nat)) (U.i (0 : Int)))) (bc (bc (bc (bc (bc (decide ((0 : Int) ≤ i)) (Nat.blt (Int.toNat i) (List.length M)) false) true false) (bc (bc (Nat.blt (Int.toNat i) (List.length M)) true false) (bc (bc (bc (decide ((0 : Int) ≤ i)) (Nat.blt (Int.toNat i) (List.length L)) false) true false) (bc (bc (Nat.blt (Int.toNat i) (List.length L)) true false) (bc (eqB (U.int (List.getD (List.getD M (Int.toNat i) []) (Nat.add (0 : Nat) (0 : Nat)) (U.i (0 : Int))) != U.int (List.getD (List.getD L (Int.toNat i) []) (Nat.add (0 : Nat) (0 : Nat)) (U.i (0 : Int)))) true) true false) false) false) false) false) true false) (.done (EV.v (Value.bool false)) [] 0) .bad) (bc (U.int (List.getD (List.getD M (Int.toNat i) []) (Nat.add (0 : Nat) (1 : Nat)) (U.i (0 : Int))) != U.int (List.getD (List.getD L (Int.toNat i) []) (Nat.add (0 : Nat) (1 : Nat)) (U.i (0 : Int)))) (bc (bc (bc (bc (bc (decide ((0 : Int) ≤ i)) (Nat.blt (Int.toNat i) (List.length M)) false) true false) (bc (bc (Nat.blt (Int.toNat i) (List.length M)) true false) (bc (bc (bc (decide ((0 : Int) ≤ i)) (Nat.blt (Int.toNat i) (List.length L)) false) true false) (bc (bc (Nat.blt (Int.toNat i) (List.length L)) true false) (bc (eqB (U.int (List.getD (List.getD M (Int.toNat i) []) (Nat.add (0 : Nat) (0 : Nat)) (U.i (0 : Int))) != U.int (List.getD (List.getD L (Int.toNat i) []) (Nat.add (0 : Nat) (0 : Nat)) (U.i (0 : Int)))) false) (bc (bc (bc (decide ((0 : Int) ≤ i)) (Nat.blt (Int.toNat i) (List.length M)) false) true false) (bc (bc (Nat.blt (Int.toNat i) (List.length M)) true false) (bc (bc (bc (decide ((0 : Int) ≤ i)) (Nat.blt (Int.toNat i) (List.length L)) false) true false) (bc (bc (Nat.blt (Int.toNat i) (List.length L)) true false) (bc (eqB (U.int (List.getD (List.getD M (Int.toNat i) []) (Nat.add (0 : Nat) (1 : Nat)) (U.i (0 : Int))) != U.int (List.getD (List.getD L (Int.toNat i) []) (Nat.add (0 : Nat) (1 : Nat)) (U.i (0 : Int)))) true) true false) false) false) false) false) false) false) false) false) false) true false) (.done (EV.v (Value.bool false)) [] 0) .bad) (bc (bc (bc (bc (bc (decide ((0 : Int) ≤ i)) (Nat.blt (Int.toNat i) (List.length M)) false) true false) (bc (bc (Nat.blt (Int.toNat i) (List.length M)) true false) (bc (bc (bc (decide ((0 : Int) ≤ i)) (Nat.blt (Int.toNat i) (List.length L)) false) true false) (bc (bc (Nat.blt (Int.toNat i) (List.length L)) true false) (bc (eqB (U.int (List.getD (List.getD M (Int.toNat i) []) (Nat.add (0 : Nat) (0 : Nat)) (U.i (0 : Int))) != U.int (List.getD (List.getD L (Int.toNat i) []) (Nat.add (0 : Nat) (0 : Nat)) (U.i (0 : Int)))) false) (bc (bc (bc (decide ((0 : Int) ≤ i)) (Nat.blt (Int.toNat i) (List.length M)) false) true false) (bc (bc (Nat.blt (Int.toNat i) (List.length M)) true false) (bc (bc (bc (decide ((0 : Int) ≤ i)) (Nat.blt (Int.toNat i) (List.length L)) false) true false) (bc (bc (Nat.blt (Int.toNat i) (List.length L)) true false) (bc (eqB (U.int (List.getD (List.getD M (Int.toNat i) []) (Nat.add (0 : Nat) (1 : Nat)) (U.i (0 : Int))) != U.int (List.getD (List.getD L (Int.toNat i) []) (Nat.add (0 : Nat) (1 : Nat)) (U.i (0 : Int)))) false) (bc (bc (bc (decide ((0 : Int) ≤ i)) (Nat.blt (Int.toNat i) (List.length M)) false) true false) (bc (bc (Nat.blt (Int.toNat i) (List.length M)) true false) true false) false) false) false) false) false) false) false) false) false) false) false) true false) (bc (U.int (List.getD (List.getD M (Int.toNat i) []) (Nat.add (0 : Nat) (2 : Nat)) (U.i (0 : Int))) != U.int (List.getD (List.getD L (Int.toNat i) []) (Nat.add (0 : Nat) (2 : Nat)) (U.i (0 : Int)))) (.done (EV.v (Value.bool false)) [] 0) (.at (sC (L) (M) (IntKind.wrap IntKind.i64 (i + (1 : Int)))))) .bad))))) .bad) .bad) (.done (EV.v (Value.bool true)) [] 0)) := by kernel_rfl
end LTur
end Go.Proofs.Ytjlfedhkpdogbaa.Ev
namespace Go.Proofs.Ytjlfedhkpdogbaa.Ev
open Go.Proofs
namespace LTur
theorem loopC {L M : List (List U)} (hM : M = L.map flR) (hl : L.length ≤ 1000) : ∀ (f i : Nat), i + f = L.length → EndZ 26 ctTu false (stOf (sC L M i)) (bv true) [] 0
  | 0, i, h => by
    have h1 := c_t L M i; rw [ofn, df (show ¬ (i : Int) < L.length by omega), bc_f] at h1; exact .done h1
  | f + 1, i, h => by
    have h1 := c_t L M i; have ih := loopC hM hl f (i + 1) (by omega); have w1 := wrap_s i (by omega); have hi : i < L.length := by omega
    have hm : M.length = L.length := by rw [hM, List.length_map]
    have eM : M.getD i [] = flR (L.getD i []) := by
      rw [hM, getD_at (by rw [List.length_map]; exact hi), getD_at hi, List.getElem_map]
    rw [to_nat, w1, eM] at h1; generalize hr : L.getD i [] = r at h1; have f0 : U.int (List.getD (flR r) (Nat.add 0 0) (U.i 0)) = U.int (r.getD (Nat.add 0 0) (U.i 0)) := rfl; have f1 : U.int (List.getD (flR r) (Nat.add 0 1) (U.i 0)) = U.int (r.getD (Nat.add 0 1) (U.i 0)) := rfl; have f2 : U.int (List.getD (flR r) (Nat.add 0 2) (U.i 0)) = flK (U.int (r.getD (Nat.add 0 2) (U.i 0))) := rfl; rw [f0, f1, f2] at h1; generalize U.int (r.getD (Nat.add 0 2) (U.i 0)) = c at *
    cases g3 : c == 3 with
    | true =>
      have e : c = 3 := by simpa using g3
      have z : (flK c != IntKind.wrap .i64 (7 - c)) = false := by rw [e]; rfl
      rw [g3, z] at h1; simp (disch := omega) only [Nat.add_eq, eqSy_self, eqN_self, bc_same, List.length_cons, ofn, wrap_in, dt, df, bltD, bltN, ble_of, bleN, beqD, bc_t, bc_f, nn_ok, Nat.zero_add, to_nat, Int.zero_add, Int.sub_zero, Int.sub_self, Int.cast_ofNat_Int, Int.natCast_zero, Int.toNat_zero, List.take_zero, List.nil_append, List.length_append, List.length_nil, eqB, decide_true, bne_self_eq_false] at h1; exact .at ctTu_ok h1 ih
    | false =>
      cases g4 : c == 4 with
      | true =>
        have e : c = 4 := by simpa using g4
        have z : (flK c != IntKind.wrap .i64 (7 - c)) = false := by rw [e]; rfl
        rw [g3, g4, z] at h1; simp (disch := omega) only [Nat.add_eq, eqSy_self, eqN_self, bc_same, List.length_cons, ofn, wrap_in, dt, df, bltD, bltN, ble_of, bleN, beqD, bc_t, bc_f, nn_ok, Nat.zero_add, to_nat, Int.zero_add, Int.sub_zero, Int.sub_self, Int.cast_ofNat_Int, Int.natCast_zero, Int.toNat_zero, List.take_zero, List.nil_append, List.length_append, List.length_nil, eqB, decide_true, bne_self_eq_false] at h1; exact .at ctTu_ok h1 ih
      | false =>
        have z : flK c = c := by unfold flK; rw [g3, g4]; rfl
        rw [g3, g4, z] at h1; simp (disch := omega) only [Nat.add_eq, eqSy_self, eqN_self, bc_same, List.length_cons, ofn, wrap_in, dt, df, bltD, bltN, ble_of, bleN, beqD, bc_t, bc_f, nn_ok, Nat.zero_add, to_nat, Int.zero_add, Int.sub_zero, Int.sub_self, Int.cast_ofNat_Int, Int.natCast_zero, Int.toNat_zero, List.take_zero, List.nil_append, List.length_append, List.length_nil, eqB, decide_true, bne_self_eq_false] at h1; exact .at ctTu_ok h1 ih
theorem loopB {x y u v : List Int} {L M : List (List U)} {i : Nat} (hx : x.length ≤ 20000) (hy : y.length = x.length) (hi : i < u.length) (hv : v.length = u.length) (nx : EndZ 26 ctTu false (stOf (sA x y u v L M (i + 1 : Nat))) (bv true) [] 0) (hu : u.length ≤ 20000) : ∀ (f k : Nat) (fo : Bool), k + f = x.length → (fo = true ∨ ∃ j : Nat, k ≤ j ∧ j < x.length ∧ x.getD j 0 = v.getD i 0 ∧ y.getD j 0 = u.getD i 0) → EndZ 26 ctTu false (stOf (sB x y u v L M i k fo)) (bv true) [] 0
  | 0, k, fo, h, hf => by
    have h1 := b_t x y u v L M i k fo; have w1 := wrap_s i (by omega); have e : fo = true := by
      rcases hf with e | ⟨j, j1, j2, _⟩
      · exact e
      · omega
    rw [ofn, df (show ¬ (k : Int) < x.length by omega), bc_f, w1, e] at h1; rw [e]; exact .at ctTu_ok h1 nx
  | f + 1, k, fo, h, hf => by
    have h1 := b_t x y u v L M i k fo; have w1 := wrap_s k (by omega); have ih := fun fo => loopB (L := L) (M := M) hx hy hi hv nx hu f (k + 1) fo (by omega); rw [to_nat, to_nat, w1] at h1
    cases fo with
    | true =>
      simp (disch := omega) only [Nat.add_eq, eqSy_self, eqN_self, bc_same, List.length_cons, ofn, wrap_in, dt, df, bltD, bltN, ble_of, bleN, beqD, bc_t, bc_f, nn_ok, Nat.zero_add, to_nat, Int.zero_add, Int.sub_zero, Int.sub_self, Int.cast_ofNat_Int, Int.natCast_zero, Int.toNat_zero, List.take_zero, List.nil_append, List.length_append, List.length_nil, eqB, decide_true] at h1; exact .at ctTu_ok h1 (ih true (.inl rfl))
    | false =>
      rcases hf with e | ⟨j, j1, j2, j3, j4⟩
      · exact Bool.noConfusion e
      cases g : x.getD k 0 == v.getD i 0 with
      | true =>
        rw [g] at h1; simp (disch := omega) only [Nat.add_eq, eqSy_self, eqN_self, bc_same, List.length_cons, ofn, wrap_in, dt, df, bltD, bltN, ble_of, bleN, beqD, bc_t, bc_f, nn_ok, Nat.zero_add, to_nat, Int.zero_add, Int.sub_zero, Int.sub_self, Int.cast_ofNat_Int, Int.natCast_zero, Int.toNat_zero, List.take_zero, List.nil_append, List.length_append, List.length_nil, eqB, decide_true] at h1; refine .at ctTu_ok h1 (ih _ ?_)
        by_cases e : j = k
        · subst e; exact .inl (by rw [j4]; simp)
        · exact .inr ⟨j, by omega, j2, j3, j4⟩
      | false =>
        rw [g] at h1; simp (disch := omega) only [Nat.add_eq, eqSy_self, eqN_self, bc_same, List.length_cons, ofn, wrap_in, dt, df, bltD, bltN, ble_of, bleN, beqD, bc_t, bc_f, nn_ok, Nat.zero_add, to_nat, Int.zero_add, Int.sub_zero, Int.sub_self, Int.cast_ofNat_Int, Int.natCast_zero, Int.toNat_zero, List.take_zero, List.nil_append, List.length_append, List.length_nil, eqB, decide_true] at h1; refine .at ctTu_ok h1 (ih _ (.inr ⟨j, ?_, j2, j3, j4⟩)); have : j ≠ k := fun e => by
          subst e; rw [j3] at g; simp at g
        omega
theorem loopA {x y u v : List Int} {L M : List (List U)} (hx : x.length ≤ 20000) (hT : Trn x y u v) (hM : M = L.map flR) (hl : L.length ≤ 1000) : ∀ (f i : Nat), i + f = u.length → EndZ 26 ctTu false (stOf (sA x y u v L M i)) (bv true) [] 0
  | 0, i, h => by
    have h1 := a_t x y u v L M i; rw [ofn, df (show ¬ (i : Int) < u.length by omega), bc_f] at h1; exact .at ctTu_ok h1 (loopC hM hl L.length 0 (by omega))
  | f + 1, i, h => by
    have h1 := a_t x y u v L M i; have ih := loopA hx hT hM hl f (i + 1) (by omega); obtain ⟨t1, t2, t3, t4⟩ := hT; obtain ⟨j, j1, j2, j3⟩ := t4 i (by omega); rw [ofn, dt (show (i : Int) < u.length by omega), bc_t] at h1; exact .at ctTu_ok h1 (loopB hx t3 (by omega) t2 ih (by omega) x.length 0 false (by omega) (.inr ⟨j, by omega, j1, j2, j3⟩))
end LTur
noncomputable def spTur : ZCT := fun ax => match ax with
  | [.agg [.v (.int .i64 n), .lst (.recs [.int .i64, .int .i64, .int .i64, .int .i64] X), .lst (.recs [.int .i64, .int .i64, .int .i64, .int .i64] P)], .agg [.v (.int .i64 m), .lst (.recs [.int .i64, .int .i64, .int .i64, .int .i64] Y), .lst (.recs [.int .i64, .int .i64, .int .i64, .int .i64] Q)], .lst (.ints .i64 x), .lst (.ints .i64 y), .lst (.recs [.int .i64, .int .i64, .int .i64] L)] => some ⟨decide (fiE m n Y Q X P = 0 ∧ x.length ≤ 20000 ∧ Trn x y (coP m n Y Q X P).1 (coP m n Y Q X P).2 ∧ eqR (fiL m n Y Q X P) (L.map flR) ∧ L.length ≤ 1000), bv true, [], 0⟩
  | _ => none
theorem spTur_ok : ZCtOk Try.prog 26 spTur := fun γ w us ax r hs hc hax hN hfz => by
  unfold spTur at hs; split at hs
  case h_2 => cases hs
  rename_i n X P m Y Q x y L; obtain ⟨rfl⟩ := Option.some.inj hs; have hc_0 : decide (fiE m n Y Q X P = 0 ∧ x.length ≤ 20000 ∧ Trn x y (coP m n Y Q X P).1 (coP m n Y Q X P).2 ∧ eqR (fiL m n Y Q X P) (L.map flR) ∧ L.length ≤ 1000) = true := hc; have hc := of_decide_eq_true hc_0; exact EndZ.calls (by
    obtain ⟨h1, h2, h3, h4, h5⟩ := hc; have h := LTur.in_t n m X P Y Q x y L; have h4 : fiL m n Y Q X P = L.map flR := h4; have h3' := h3; obtain ⟨t1, t2, t3, t4⟩ := h3; rw [h1, t1, t2, t1, h4, List.length_map] at h; simp only [bne_self_eq_false, bc_f] at h; exact .at ctTu_ok h (LTur.loopA h2 h3' rfl h5 _ 0 (Nat.zero_add _))) ctTu_ok (by kernel_rfl) hax hN hfz
end Go.Proofs.Ytjlfedhkpdogbaa.Ev
