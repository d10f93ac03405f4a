/- CompareFirst returns true, for all arguments, in every world in which it is called, and nothing that was there turns. -/
import Derived.ProofKit
import Derived.ReadAgain
import Derived.OpenShut
import Derived.Test.YtonbfalbfdkieaaRows
import Derived.WalkKit
import Derived.Test.YtonbfalbfdkieaaCF5
set_option linter.unusedSimpArgs false
set_option linter.unusedVariables false
namespace Go.Proofs.Ytonbfalbfdkieaa.Ev
noncomputable def mT (r : List U) : Int := U.int (r.getD 0 (.i 0))
noncomputable def mV (r : List U) : Bool := U.bool (r.getD 1 (.i 0))
noncomputable def paF : Nat → List (List U) → List (List U) → Int × Int × Bool
  | _, [], [] => (0, 0, false)
  | i, _ :: _, [] => ((i : Int), 3, true)
  | i, [], _ :: _ => ((i : Int), 4, true)
  | i, x :: a, y :: b => bc (mT x != mT y) ((i : Int), 1, true) (bc (mV x != mV y) ((i : Int), 2, true) (paF (i + 1) a b))

noncomputable def fiF (X Y : List (List U)) : Nat → Nat → List (List U)
  | _, 0 => []
  | t, k + 1 => bc (paF 0 (hiF t X) (hiF t Y)).2.2 [[.i t, .i (paF 0 (hiF t X) (hiF t Y)).1, .i (paF 0 (hiF t X) (hiF t Y)).2.1]] [] ++ fiF X Y (t + 1) k
theorem fiF_len (X Y : List (List U)) : ∀ (k t : Nat), (fiF X Y t k).length ≤ k
  | 0, t => Nat.le_refl _
  | k + 1, t => by
    have := fiF_len X Y k (t + 1)
    unfold fiF
    rw [List.length_append]
    cases (paF 0 (hiF t X) (hiF t Y)).2.2
    · rw [bc_f]; simp; omega
    · rw [bc_t]; simp; omega
theorem hiF_len (t : Int) : ∀ l : List (List U), (hiF t l).length ≤ 2 * l.length
  | [] => Nat.le_refl _
  | r :: q => by
    have := hiF_len t q
    unfold hiF
    rw [List.length_append, List.length_append, List.length_cons]
    cases decide (xO r = t) <;> cases decide (xU r = t) <;> simp [bc] <;> omega
noncomputable def fiE (n m : Int) (X P Y Q : List (List U)) : Int := bc (chk17 n X P != 0) (chk17 n X P) (bc (chk17 m Y Q != 0) (chk17 m Y Q) (bc (n != m) 2 0))
noncomputable def fiL (n m : Int) (X P Y Q : List (List U)) : List (List U) := bc (fiE n m X P Y Q != 0) [] (fiF X Y 0 n.toNat)
end Go.Proofs.Ytonbfalbfdkieaa.Ev
namespace Go.Proofs.Ytonbfalbfdkieaa.Ev
open Go.Proofs
noncomputable abbrev shM2 : List Sh := [.int .i64, .bool]
noncomputable abbrev ml (l : List (List U)) : EV := .lst (.recs shM2 l)
noncomputable abbrev pl (l : List (List U)) : EV := .lst (.recs [.int .i64, .int .i64, .int .i64] l)
namespace RHis
noncomputable def RUN (s : ES) : ZF := RZ 85 .nil (atS 0 85 3) [] [[(1,none),(2,none),(5,some (2, 97, .recs shM2 [])),(6,none)]] false s

noncomputable def sH (n t : Int) (X P q : List (List U)) (nn : Bool) (i : Int) : NS := ⟨[⟨85, 51, [(1, (EV.v (Value.int IntKind.i64 (t)))), (2, (EV.ptr 0 0)), (5, EV.slO 1 2 q.length nn), (6, iv i)], [.it (.code (nav [1, 1, 0, 1, 0, 0, 0] (bodyOf Try.f85))), .it (.code (nav [1, 1, 0, 1, 0, 0, 1] (bodyOf Try.f85))), .it (.inLoop (nav [1, 1, 0, 1, 0, 0] (bodyOf Try.f85))), .it (.inBlock 0), .it (.code (nav [1, 1, 1] (bodyOf Try.f85)))], [], Option.none⟩], [(0, (EK.cells 25 [(EV.v (Value.int IntKind.i64 (n))), (EV.lst (SyC.recs [(Sh.int IntKind.i64), (Sh.int IntKind.i64), (Sh.int IntKind.i64), (Sh.int IntKind.i64)] (X))), (EV.lst (SyC.recs [(Sh.int IntKind.i64), (Sh.int IntKind.i64), (Sh.int IntKind.i64), (Sh.int IntKind.i64)] (P)))] true)), (1, EK.seq 97 (.recs shM2 q) nn)], 2⟩
theorem in_t (n t : Int) (X P : List (List U)) : RUN (st0 85 [clE n X P, iv t]) = (.at (sH (n) (t) (X) (P) ([]) (false) ((0 : Int)))) := by kernel_rfl
theorem step_t (n t : Int) (X P q : List (List U)) (nn : Bool) (i : Int) : RUN (stOf (sH n t X P q nn i)) = (bc (decide (i < Int.ofNat (List.length X))) (bc (bc (bc (decide ((0 : Int) ≤ i)) (Nat.blt (Int.toNat i) (List.length X)) false) true false) (bc (bc (Nat.blt (Int.toNat i) (List.length X)) true false) (bc (U.int (List.getD (List.getD X (Int.toNat i) []) (Nat.add (0 : Nat) (2 : Nat)) (U.i (0 : Int))) == t) (bc (bc (bc (decide ((0 : Int) ≤ i)) (Nat.blt (Int.toNat i) (List.length X)) false) true false) (bc (bc (Nat.blt (Int.toNat i) (List.length X)) true false) (bc (bc (Nat.beq (List.length q) (List.length q)) (bc (Nat.ble (List.length q + List.length [[U.i (U.int (List.getD (List.getD X (Int.toNat i) []) (Nat.add (0 : Nat) (3 : Nat)) (U.i (0 : Int)))), U.b true]]) (65536 : Nat)) (bc nn true (bc nn false true)) false) false) (bc (bc (bc (decide ((0 : Int) ≤ i)) (Nat.blt (Int.toNat i) (List.length X)) false) true false) (bc (bc (Nat.blt (Int.toNat i) (List.length X)) true false) (bc (U.int (List.getD (List.getD X (Int.toNat i) []) (Nat.add (0 : Nat) (3 : Nat)) (U.i (0 : Int))) == t) (bc (bc (bc (decide ((0 : Int) ≤ i)) (Nat.blt (Int.toNat i) (List.length X)) false) true false) (bc (bc (Nat.blt (Int.toNat i) (List.length X)) true false) (bc (bc (Nat.beq (List.length (q ++ [[U.i (U.int (List.getD (List.getD X (Int.toNat i) []) (Nat.add (0 : Nat) (3 : Nat)) (U.i (0 : Int)))), U.b true]])) (List.length (q ++ [[U.i (U.int (List.getD (List.getD X (Int.toNat i) []) (Nat.add (0 : Nat) (3 : Nat)) (U.i (0 : Int)))), U.b true]]))) (bc (Nat.ble (List.length (q ++ [[U.i (U.int (List.getD (List.getD X (Int.toNat i) []) (Nat.add (0 : Nat) (3 : Nat)) (U.i (0 : Int)))), U.b true]]) + List.length [[U.i (U.int (List.getD (List.getD X (Int.toNat i) []) (Nat.add (0 : Nat) (2 : Nat)) (U.i (0 : Int)))), U.b false]]) (65536 : Nat)) (bc (bc nn true (Nat.blt (0 : Nat) (List.length [[U.i (U.int (List.getD (List.getD X (Int.toNat i) []) (Nat.add (0 : Nat) (3 : Nat)) (U.i (0 : Int)))), U.b true]]))) true (bc (bc nn true (Nat.blt (0 : Nat) (List.length [[U.i (U.int (List.getD (List.getD X (Int.toNat i) []) (Nat.add (0 : Nat) (3 : Nat)) (U.i (0 : Int)))), U.b true]]))) false true)) false) false) (.at (sH (n) (t) (X) (P) (q ++ [[U.i (U.int (List.getD (List.getD X (Int.toNat i) []) (Nat.add (0 : Nat) (3 : Nat)) (U.i (0 : Int)))), U.b true]] ++ [[U.i (U.int (List.getD (List.getD X (Int.toNat i) []) (Nat.add (0 : Nat) (2 : Nat)) (U.i (0 : Int)))), U.b false]]) (bc (bc nn true (Nat.blt (0 : Nat) (List.length [[U.i (U.int (List.getD (List.getD X (Int.toNat i) []) (Nat.add (0 : Nat) (3 : Nat)) (U.i (0 : Int)))), U.b true]]))) true (Nat.blt (0 : Nat) (List.length [[U.i (U.int (List.getD (List.getD X (Int.toNat i) []) (Nat.add (0 : Nat) (2 : Nat)) (U.i (0 : Int)))), U.b false]]))) (IntKind.wrap IntKind.i64 (i + (1 : Int))))) .bad) .bad) .bad) (.at (sH (n) (t) (X) (P) (q ++ [[U.i (U.int (List.getD (List.getD X (Int.toNat i) []) (Nat.add (0 : Nat) (3 : Nat)) (U.i (0 : Int)))), U.b true]]) (bc nn true (Nat.blt (0 : Nat) (List.length [[U.i (U.int (List.getD (List.getD X (Int.toNat i) []) (Nat.add (0 : Nat) (3 : Nat)) (U.i (0 : Int)))), U.b true]]))) (IntKind.wrap IntKind.i64 (i + (1 : Int)))))) .bad) .bad) .bad) .bad) .bad) (bc (bc (bc (decide ((0 : Int) ≤ i)) (Nat.blt (Int.toNat i) (List.length X)) false) true false) (bc (bc (Nat.blt (Int.toNat i) (List.length X)) true false) (bc (U.int (List.getD (List.getD X (Int.toNat i) []) (Nat.add (0 : Nat) (3 : Nat)) (U.i (0 : Int))) == t) (bc (bc (bc (decide ((0 : Int) ≤ i)) (Nat.blt (Int.toNat i) (List.length X)) false) true false) (bc (bc (Nat.blt (Int.toNat i) (List.length X)) true false) (bc (bc (Nat.beq (List.length q) (List.length q)) (bc (Nat.ble (List.length q + List.length [[U.i (U.int (List.getD (List.getD X (Int.toNat i) []) (Nat.add (0 : Nat) (2 : Nat)) (U.i (0 : Int)))), U.b false]]) (65536 : Nat)) (bc nn true (bc nn false true)) false) false) (.at (sH (n) (t) (X) (P) (q ++ [[U.i (U.int (List.getD (List.getD X (Int.toNat i) []) (Nat.add (0 : Nat) (2 : Nat)) (U.i (0 : Int)))), U.b false]]) (bc nn true (Nat.blt (0 : Nat) (List.length [[U.i (U.int (List.getD (List.getD X (Int.toNat i) []) (Nat.add (0 : Nat) (2 : Nat)) (U.i (0 : Int)))), U.b false]]))) (IntKind.wrap IntKind.i64 (i + (1 : Int))))) .bad) .bad) .bad) (.at (sH (n) (t) (X) (P) (q) (nn) (IntKind.wrap IntKind.i64 (i + (1 : Int)))))) .bad) .bad)) .bad) .bad) (bc (Nat.beq (List.length q) (List.length q)) (.done (EV.lst (SyC.recs [(Sh.int IntKind.i64), Sh.bool] (q))) [] 0) .bad)) := by kernel_rfl
theorem step {n t : Int} {X P q : List (List U)} {nn : Bool} {i : Nat} (hi : i < X.length) (hX : X.length ≤ 20000) (hq : q.length ≤ 2 * i) : ∃ nn', RUN (stOf (sH n t X P q nn i)) = .at (sH n t X P (q ++ ((bc (decide (xO X[i] = t)) [mO X[i]] []) ++ (bc (decide (xU X[i] = t)) [mU X[i]] []))) nn' (i + 1 : Nat)) := by
  have e : X.getD i [] = X[i] := getD_at hi
  have e3 : U.int (List.getD X[i] (Nat.add 0 2) (U.i 0)) = xO X[i] := rfl
  have e4 : U.int (List.getD X[i] (Nat.add 0 3) (U.i 0)) = xU X[i] := rfl
  by_cases h1 : xO X[i] = t
  · have b1 : (xO X[i] == t) = true := by simp [h1]
    by_cases h2 : xU X[i] = t
    · have b2 : (xU X[i] == t) = true := by simp [h2]
      refine ⟨true, ?_⟩
      rw [step_t, to_nat, e, e3, e4, b1, b2]
      simp (disch := omega) only [Nat.add_eq, eqSy_self, eqN_self, bc_same, List.length_cons, ofn, wrap_in, dt, df, bltD, bltN, ble_of, bleN, beqD, bc_t, bc_f, nn_ok, Nat.zero_add, to_nat, Int.zero_add, Int.sub_zero, Int.sub_self, Int.cast_ofNat_Int, Int.natCast_zero, Int.toNat_zero, List.take_zero, List.nil_append, List.length_append, List.length_nil, ← List.append_assoc]
      rfl
    · have b2 : (xU X[i] == t) = false := by simp [h2]
      refine ⟨true, ?_⟩
      rw [step_t, to_nat, e, e3, e4, b1, b2]
      simp (disch := omega) only [Nat.add_eq, eqSy_self, eqN_self, bc_same, List.length_cons, ofn, wrap_in, dt, df, bltD, bltN, ble_of, bleN, beqD, bc_t, bc_f, nn_ok, Nat.zero_add, to_nat, Int.zero_add, Int.sub_zero, Int.sub_self, Int.cast_ofNat_Int, Int.natCast_zero, Int.toNat_zero, List.take_zero, List.nil_append, List.length_append, List.length_nil, List.append_nil]
      rfl
  · have b1 : (xO X[i] == t) = false := by simp [h1]
    by_cases h2 : xU X[i] = t
    · have b2 : (xU X[i] == t) = true := by simp [h2]
      refine ⟨true, ?_⟩
      rw [step_t, to_nat, e, e3, e4, b1, b2]
      simp (disch := omega) only [Nat.add_eq, eqSy_self, eqN_self, bc_same, List.length_cons, ofn, wrap_in, dt, df, bltD, bltN, ble_of, bleN, beqD, bc_t, bc_f, nn_ok, Nat.zero_add, to_nat, Int.zero_add, Int.sub_zero, Int.sub_self, Int.cast_ofNat_Int, Int.natCast_zero, Int.toNat_zero, List.take_zero, List.nil_append, List.length_append, List.length_nil]
      rfl
    · have b2 : (xU X[i] == t) = false := by simp [h2]
      refine ⟨nn, ?_⟩
      rw [step_t, to_nat, e, e3, e4, b1, b2]
      simp (disch := omega) only [Nat.add_eq, eqSy_self, eqN_self, bc_same, List.length_cons, ofn, wrap_in, dt, df, bltD, bltN, ble_of, bleN, beqD, bc_t, bc_f, nn_ok, Nat.zero_add, to_nat, Int.zero_add, Int.sub_zero, Int.sub_self, Int.cast_ofNat_Int, Int.natCast_zero, Int.toNat_zero, List.take_zero, List.nil_append, List.length_append, List.length_nil, List.append_nil]
      rfl
theorem last {n t : Int} {X P q : List (List U)} {nn : Bool} {i : Nat} (hi : X.length ≤ i) : RUN (stOf (sH n t X P q nn i)) = .done (ml q) [] 0 := by
  rw [step_t]
  simp (disch := omega) only [Nat.add_eq, eqSy_self, eqN_self, bc_same, List.length_cons, ofn, wrap_in, dt, df, bltD, bltN, ble_of, bleN, beqD, bc_t, bc_f, nn_ok, Nat.zero_add, to_nat, Int.zero_add, Int.sub_zero, Int.sub_self, Int.cast_ofNat_Int, Int.natCast_zero, Int.toNat_zero, List.take_zero, List.nil_append, List.length_append, List.length_nil]
theorem loop {n t : Int} {X P : List (List U)} (hX : X.length ≤ 20000) : ∀ (k i : Nat) (q : List (List U)) (nn : Bool), i + k = X.length → q.length ≤ 2 * i → EndZ 85 .nil false (stOf (sH n t X P q nn i)) (ml (q ++ hiF t (X.drop i))) [] 0
  | 0, i, q, nn, h, hq => by
    rw [List.drop_eq_nil_of_le (by omega)]
    show EndZ _ _ _ _ (ml (q ++ [])) _ _
    rw [List.append_nil]
    exact .done (last (by omega))
  | k + 1, i, q, nn, h, hq => by
    have hi : i < X.length := by omega
    obtain ⟨nn', h1⟩ := step (n := n) (t := t) (P := P) (nn := nn) hi hX hq
    rw [List.drop_eq_getElem_cons hi]
    unfold hiF
    have h2 := loop (n := n) (t := t) (P := P) hX k (i + 1) _ nn' (by omega) (show (q ++ ((bc (decide (xO X[i] = t)) [mO X[i]] []) ++ (bc (decide (xU X[i] = t)) [mU X[i]] []))).length ≤ 2 * (i + 1) by
      rw [List.length_append, List.length_append]
      cases decide (xO X[i] = t) <;> cases decide (xU X[i] = t) <;> simp [bc] <;> omega)
    rw [List.append_assoc] at h2
    exact .at (.nil _) h1 h2
end RHis
noncomputable def spRHis : ZCT := fun ax => match ax with
  | [.agg [.v (.int .i64 n), .lst (.recs [.int .i64, .int .i64, .int .i64, .int .i64] X), .lst (.recs [.int .i64, .int .i64, .int .i64, .int .i64] P)], .v (.int .i64 t)] => some ⟨decide (X.length ≤ 20000), ml (hiF t X), [], 0⟩
  | _ => none
theorem spRHis_ok : ZCtOk Try.prog 85 spRHis := fun γ w us ax r hs hc hax hN hfz => by
  unfold spRHis at hs
  split at hs
  case h_2 => cases hs
  rename_i n X P t
  obtain ⟨rfl⟩ := Option.some.inj hs
  have hc_0 : decide (X.length ≤ 20000) = true := hc
  have hc := of_decide_eq_true hc_0
  exact EndZ.calls (.at (.nil _) (RHis.in_t n t X P) (RHis.loop hc X.length 0 [] false (by omega) (Nat.le_refl _))) (.nil _) (by kernel_rfl) hax hN hfz
namespace RPar
noncomputable def RUN (s : ES) : ZF := RZ 84 .nil (atS 0 84 2) [] [[(0,none),(1,none),(7,none)]] false s

noncomputable def sP (a b : List (List U)) (i : Int) : NS := ⟨[⟨84, 58, [(0, (EV.lst (SyC.recs [(Sh.int IntKind.i64), Sh.bool] (a)))), (1, (EV.lst (SyC.recs [(Sh.int IntKind.i64), Sh.bool] (b)))), (7, iv i)], [.it (.code (nav [1, 0, 1, 0, 0, 0] (bodyOf Try.f84))), .it (.code (nav [1, 0, 1, 0, 0, 1] (bodyOf Try.f84))), .it (.inLoop (nav [1, 0, 1, 0, 0] (bodyOf Try.f84))), .it (.inBlock 0), .it (.code (nav [1, 1] (bodyOf Try.f84)))], [], Option.none⟩], [], 0⟩
theorem in_t (a b : List (List U)) : RUN (st0 84 [ml a, ml b]) = (.at (sP (a) (b) ((0 : Int)))) := by kernel_rfl
theorem step_t (a b : List (List U)) (i : Int) : RUN (stOf (sP a b i)) = (bc (decide (i < Int.ofNat (List.length a))) (bc (decide (Int.ofNat (List.length b) ≤ i)) (.done (EV.tup [(EV.v (Value.int IntKind.i64 (i))), (EV.v (Value.int IntKind.i64 (3))), (EV.v (Value.bool true))]) [] 0) (bc (decide (Int.ofNat (List.length a) ≤ i)) (.done (EV.tup [(EV.v (Value.int IntKind.i64 (i))), (EV.v (Value.int IntKind.i64 (4))), (EV.v (Value.bool true))]) [] 0) (bc (bc (bc (bc (bc (decide ((0 : Int) ≤ i)) (Nat.blt (Int.toNat i) (List.length a)) false) true false) (bc (bc (Nat.blt (Int.toNat i) (List.length a)) true false) (bc (bc (bc (decide ((0 : Int) ≤ i)) (Nat.blt (Int.toNat i) (List.length b)) false) true false) (bc (bc (Nat.blt (Int.toNat i) (List.length b)) true false) true false) false) false) false) true false) (bc (U.int (List.getD (List.getD a (Int.toNat i) []) (Nat.add (0 : Nat) (0 : Nat)) (U.i (0 : Int))) != U.int (List.getD (List.getD b (Int.toNat i) []) (Nat.add (0 : Nat) (0 : Nat)) (U.i (0 : Int)))) (.done (EV.tup [(EV.v (Value.int IntKind.i64 (i))), (EV.v (Value.int IntKind.i64 (1))), (EV.v (Value.bool true))]) [] 0) (bc (bc (bc (bc (bc (decide ((0 : Int) ≤ i)) (Nat.blt (Int.toNat i) (List.length a)) false) true false) (bc (bc (Nat.blt (Int.toNat i) (List.length a)) true false) (bc (bc (bc (decide ((0 : Int) ≤ i)) (Nat.blt (Int.toNat i) (List.length b)) false) true false) (bc (bc (Nat.blt (Int.toNat i) (List.length b)) true false) true false) false) false) false) true false) (bc (!U.bool (List.getD (List.getD a (Int.toNat i) []) (Nat.add (0 : Nat) (1 : Nat)) (U.i (0 : Int))) == U.bool (List.getD (List.getD b (Int.toNat i) []) (Nat.add (0 : Nat) (1 : Nat)) (U.i (0 : Int)))) (.done (EV.tup [(EV.v (Value.int IntKind.i64 (i))), (EV.v (Value.int IntKind.i64 (2))), (EV.v (Value.bool true))]) [] 0) (.at (sP (a) (b) (IntKind.wrap IntKind.i64 (i + (1 : Int)))))) .bad)) .bad))) (bc (decide (i < Int.ofNat (List.length b))) (bc (decide (Int.ofNat (List.length b) ≤ i)) (.done (EV.tup [(EV.v (Value.int IntKind.i64 (i))), (EV.v (Value.int IntKind.i64 (3))), (EV.v (Value.bool true))]) [] 0) (bc (decide (Int.ofNat (List.length a) ≤ i)) (.done (EV.tup [(EV.v (Value.int IntKind.i64 (i))), (EV.v (Value.int IntKind.i64 (4))), (EV.v (Value.bool true))]) [] 0) (bc (bc (bc (bc (bc (decide ((0 : Int) ≤ i)) (Nat.blt (Int.toNat i) (List.length a)) false) true false) (bc (bc (Nat.blt (Int.toNat i) (List.length a)) true false) (bc (bc (bc (decide ((0 : Int) ≤ i)) (Nat.blt (Int.toNat i) (List.length b)) false) true false) (bc (bc (Nat.blt (Int.toNat i) (List.length b)) true false) true false) false) false) false) true false) (bc (U.int (List.getD (List.getD a (Int.toNat i) []) (Nat.add (0 : Nat) (0 : Nat)) (U.i (0 : Int))) != U.int (List.getD (List.getD b (Int.toNat i) []) (Nat.add (0 : Nat) (0 : Nat)) (U.i (0 : Int)))) (.done (EV.tup [(EV.v (Value.int IntKind.i64 (i))), (EV.v (Value.int IntKind.i64 (1))), (EV.v (Value.bool true))]) [] 0) (bc (bc (bc (bc (bc (decide ((0 : Int) ≤ i)) (Nat.blt (Int.toNat i) (List.length a)) false) true false) (bc (bc (Nat.blt (Int.toNat i) (List.length a)) true false) (bc (bc (bc (decide ((0 : Int) ≤ i)) (Nat.blt (Int.toNat i) (List.length b)) false) true false) (bc (bc (Nat.blt (Int.toNat i) (List.length b)) true false) true false) false) false) false) true false) (bc (!U.bool (List.getD (List.getD a (Int.toNat i) []) (Nat.add (0 : Nat) (1 : Nat)) (U.i (0 : Int))) == U.bool (List.getD (List.getD b (Int.toNat i) []) (Nat.add (0 : Nat) (1 : Nat)) (U.i (0 : Int)))) (.done (EV.tup [(EV.v (Value.int IntKind.i64 (i))), (EV.v (Value.int IntKind.i64 (2))), (EV.v (Value.bool true))]) [] 0) (.at (sP (a) (b) (IntKind.wrap IntKind.i64 (i + (1 : Int)))))) .bad)) .bad))) (.done (EV.tup [(EV.v (Value.int IntKind.i64 (0))), (EV.v (Value.int IntKind.i64 (0))), (EV.v (Value.bool false))]) [] 0))) := by kernel_rfl
noncomputable abbrev re3 (p : Int × Int × Bool) : EV := .tup [iv p.1, iv p.2.1, bv p.2.2]
theorem loop {a b : List (List U)} (ha : a.length ≤ 50000) (hb : b.length ≤ 50000) : ∀ (k i : Nat), i + k = max a.length b.length → EndZ 84 .nil false (stOf (sP a b i)) (re3 (paF i (a.drop i) (b.drop i))) [] 0
  | 0, i, h => by
    rw [List.drop_eq_nil_of_le (by omega), List.drop_eq_nil_of_le (by omega)]
    have h1 := step_t a b i
    simp (disch := omega) only [Nat.add_eq, eqSy_self, eqN_self, bc_same, List.length_cons, ofn, wrap_in, dt, df, bltD, bltN, ble_of, bleN, beqD, bc_t, bc_f, nn_ok, Nat.zero_add, to_nat, Int.zero_add, Int.sub_zero, Int.sub_self, Int.cast_ofNat_Int, Int.natCast_zero, Int.toNat_zero, List.take_zero, List.nil_append, List.length_append, List.length_nil] at h1
    exact .done h1
  | k + 1, i, h => by
    have h1 := step_t a b i
    by_cases h2 : i < a.length
    · by_cases h3 : i < b.length
      · have e1 : a.getD i [] = a[i] := getD_at h2
        have e2 : b.getD i [] = b[i] := getD_at h3
        rw [to_nat, e1, e2] at h1
        have f1 : U.int (List.getD a[i] (Nat.add 0 0) (U.i 0)) = mT a[i] := rfl
        have f2 : U.int (List.getD b[i] (Nat.add 0 0) (U.i 0)) = mT b[i] := rfl
        have f3 : U.bool (List.getD a[i] (Nat.add 0 1) (U.i 0)) = mV a[i] := rfl
        have f4 : U.bool (List.getD b[i] (Nat.add 0 1) (U.i 0)) = mV b[i] := rfl
        rw [f1, f2, f3, f4] at h1
        simp (disch := omega) only [Nat.add_eq, eqSy_self, eqN_self, bc_same, List.length_cons, ofn, wrap_in, dt, df, bltD, bltN, ble_of, bleN, beqD, bc_t, bc_f, nn_ok, Nat.zero_add, to_nat, Int.zero_add, Int.sub_zero, Int.sub_self, Int.cast_ofNat_Int, Int.natCast_zero, Int.toNat_zero, List.take_zero, List.nil_append, List.length_append, List.length_nil] at h1
        rw [List.drop_eq_getElem_cons h2, List.drop_eq_getElem_cons h3]
        unfold paF
        cases g1 : (mT a[i] != mT b[i]) <;> rw [g1] at h1
        · cases g2 : (mV a[i] == mV b[i])
          · have g3 : (mV a[i] != mV b[i]) = true := by unfold bne; rw [g2]; rfl
            rw [g2] at h1
            rw [g3]
            exact .done h1
          · have g3 : (mV a[i] != mV b[i]) = false := by unfold bne; rw [g2]; rfl
            rw [g2] at h1
            rw [g3]
            exact .at (.nil _) h1 (loop ha hb k (i + 1) (by omega))
        · exact .done h1
      · rw [List.drop_eq_getElem_cons h2, List.drop_eq_nil_of_le (show b.length ≤ i by omega)]
        simp (disch := omega) only [Nat.add_eq, eqSy_self, eqN_self, bc_same, List.length_cons, ofn, wrap_in, dt, df, bltD, bltN, ble_of, bleN, beqD, bc_t, bc_f, nn_ok, Nat.zero_add, to_nat, Int.zero_add, Int.sub_zero, Int.sub_self, Int.cast_ofNat_Int, Int.natCast_zero, Int.toNat_zero, List.take_zero, List.nil_append, List.length_append, List.length_nil] at h1
        exact .done h1
    · have h3 : i < b.length := by omega
      rw [List.drop_eq_nil_of_le (show a.length ≤ i by omega), List.drop_eq_getElem_cons h3]
      simp (disch := omega) only [Nat.add_eq, eqSy_self, eqN_self, bc_same, List.length_cons, ofn, wrap_in, dt, df, bltD, bltN, ble_of, bleN, beqD, bc_t, bc_f, nn_ok, Nat.zero_add, to_nat, Int.zero_add, Int.sub_zero, Int.sub_self, Int.cast_ofNat_Int, Int.natCast_zero, Int.toNat_zero, List.take_zero, List.nil_append, List.length_append, List.length_nil] at h1
      exact .done h1
end RPar
noncomputable def spRPar : ZCT := fun ax => match ax with
  | [.lst (.recs [.int .i64, .bool] a), .lst (.recs [.int .i64, .bool] b)] => some ⟨decide (a.length ≤ 50000 ∧ b.length ≤ 50000), RPar.re3 (paF 0 a b), [], 0⟩
  | _ => none
theorem spRPar_ok : ZCtOk Try.prog 84 spRPar := fun γ w us ax r hs hc hax hN hfz => by
  unfold spRPar at hs
  split at hs
  case h_2 => cases hs
  rename_i a b
  obtain ⟨rfl⟩ := Option.some.inj hs
  have hc_0 : decide (a.length ≤ 50000 ∧ b.length ≤ 50000) = true := hc
  have hc := of_decide_eq_true hc_0
  exact EndZ.calls (.at (.nil _) (RPar.in_t a b) (RPar.loop hc.1 hc.2 (max a.length b.length) 0 (by omega))) (.nil _) (by kernel_rfl) hax hN hfz
noncomputable def ctRF : Tr ZCC := ((Tr.nil.put 120 (some (dC spRCk17))).put 85 (some (dC spRHis))).put 84 (some (dC spRPar))
theorem ctRF_ok : ZCtsOk Try.prog ctRF := (((ZCtsOk.nil _).add rfl spRCk17_ok).add rfl spRHis_ok).add rfl spRPar_ok
namespace RFir
noncomputable def RUN (s : ES) : ZF := RZ 18 ctRF (atS 0 18 8) [] [[(2,none),(3,none),(7,some (3, 73, .recs [.int .i64, .int .i64, .int .i64] [])),(8,none)]] false s

noncomputable def sF (n m : Int) (X P Y Q q : List (List U)) (nn : Bool) (i : Int) : NS := ⟨[⟨18, 53, [(2, (EV.ptr 0 0)), (3, (EV.ptr 1 0)), (7, EV.slO 2 3 q.length nn), (8, iv i)], [.it (.code (nav [1, 1, 1, 1, 1, 0, 1, 0, 0, 0] (bodyOf Try.f18))), .it (.code (nav [1, 1, 1, 1, 1, 0, 1, 0, 0, 1] (bodyOf Try.f18))), .it (.inLoop (nav [1, 1, 1, 1, 1, 0, 1, 0, 0] (bodyOf Try.f18))), .it (.inBlock 0), .it (.code (nav [1, 1, 1, 1, 1, 1] (bodyOf Try.f18)))], [], Option.none⟩], [(0, (EK.cells 25 [(EV.v (Value.int IntKind.i64 (n))), (EV.lst (SyC.recs [(Sh.int IntKind.i64), (Sh.int IntKind.i64), (Sh.int IntKind.i64), (Sh.int IntKind.i64)] (X))), (EV.lst (SyC.recs [(Sh.int IntKind.i64), (Sh.int IntKind.i64), (Sh.int IntKind.i64), (Sh.int IntKind.i64)] (P)))] true)), (1, (EK.cells 25 [(EV.v (Value.int IntKind.i64 (m))), (EV.lst (SyC.recs [(Sh.int IntKind.i64), (Sh.int IntKind.i64), (Sh.int IntKind.i64), (Sh.int IntKind.i64)] (Y))), (EV.lst (SyC.recs [(Sh.int IntKind.i64), (Sh.int IntKind.i64), (Sh.int IntKind.i64), (Sh.int IntKind.i64)] (Q)))] true)), (2, EK.seq 73 (.recs [.int .i64, .int .i64, .int .i64] q) nn)], 3⟩
theorem in_t (n m : Int) (X P Y Q : List (List U)) : RUN (st0 18 [clE n X P, clE m Y Q]) = (bc (chk17 n X P != (0 : Int)) (bc (chk17 n X P == (0 : Int)) (bc (n != m) (.done (EV.tup [(EV.v (Value.slice Option.none 0 0)), (EV.v (Value.int IntKind.i64 (2)))]) [] 0) (bc (chk17 n X P != (0 : Int)) (.done (EV.tup [(EV.v (Value.slice Option.none 0 0)), (EV.v (Value.int IntKind.i64 (chk17 n X P)))]) [] 0) (.at (sF (n) (m) (X) (P) (Y) (Q) ([]) (false) ((0 : Int)))))) (bc (chk17 n X P != (0 : Int)) (.done (EV.tup [(EV.v (Value.slice Option.none 0 0)), (EV.v (Value.int IntKind.i64 (chk17 n X P)))]) [] 0) (.at (sF (n) (m) (X) (P) (Y) (Q) ([]) (false) ((0 : Int)))))) (bc (chk17 m Y Q == (0 : Int)) (bc (n != m) (.done (EV.tup [(EV.v (Value.slice Option.none 0 0)), (EV.v (Value.int IntKind.i64 (2)))]) [] 0) (bc (chk17 m Y Q != (0 : Int)) (.done (EV.tup [(EV.v (Value.slice Option.none 0 0)), (EV.v (Value.int IntKind.i64 (chk17 m Y Q)))]) [] 0) (.at (sF (n) (m) (X) (P) (Y) (Q) ([]) (false) ((0 : Int)))))) (bc (chk17 m Y Q != (0 : Int)) (.done (EV.tup [(EV.v (Value.slice Option.none 0 0)), (EV.v (Value.int IntKind.i64 (chk17 m Y Q)))]) [] 0) (.at (sF (n) (m) (X) (P) (Y) (Q) ([]) (false) ((0 : Int))))))) := by kernel_rfl
theorem step_t (n m : Int) (X P Y Q q : List (List U)) (nn : Bool) (i : Int) : RUN (stOf (sF n m X P Y Q q nn i)) = (bc (decide (i < n)) (bc (bc (bc (decide (List.length X ≤ (20000 : Nat))) (bc (decide (List.length Y ≤ (20000 : Nat))) (bc (bc (decide (List.length (hiF i X) ≤ (50000 : Nat) ∧ List.length (hiF i Y) ≤ (50000 : Nat))) true false) true false) false) false) (bc (bc (bc (bc (decide (m = m)) (bc (eqSy (SyC.recs [Sh.int IntKind.i64, Sh.int IntKind.i64, Sh.int IntKind.i64, Sh.int IntKind.i64] Y) (SyC.recs [Sh.int IntKind.i64, Sh.int IntKind.i64, Sh.int IntKind.i64, Sh.int IntKind.i64] Y)) (bc (eqSy (SyC.recs [Sh.int IntKind.i64, Sh.int IntKind.i64, Sh.int IntKind.i64, Sh.int IntKind.i64] Q) (SyC.recs [Sh.int IntKind.i64, Sh.int IntKind.i64, Sh.int IntKind.i64, Sh.int IntKind.i64] Q)) true false) false) false) true false) true false) true false) false) (bc (Prod.snd (Prod.snd (paF (0 : Nat) (hiF i X) (hiF i Y)))) (bc (bc (Nat.beq (List.length q) (List.length q)) (bc (Nat.ble (List.length q + List.length [[U.i i, U.i (Prod.fst (paF (0 : Nat) (hiF i X) (hiF i Y))), U.i (Prod.fst (Prod.snd (paF (0 : Nat) (hiF i X) (hiF i Y))))]]) (65536 : Nat)) (bc nn true (bc nn false true)) false) false) (.at (sF (n) (m) (X) (P) (Y) (Q) (q ++ [[U.i i, U.i (Prod.fst (paF (0 : Nat) (hiF i X) (hiF i Y))), U.i (Prod.fst (Prod.snd (paF (0 : Nat) (hiF i X) (hiF i Y))))]]) (bc nn true (Nat.blt (0 : Nat) (List.length [[U.i i, U.i (Prod.fst (paF (0 : Nat) (hiF i X) (hiF i Y))), U.i (Prod.fst (Prod.snd (paF (0 : Nat) (hiF i X) (hiF i Y))))]]))) (IntKind.wrap IntKind.i64 (i + (1 : Int))))) .bad) (.at (sF (n) (m) (X) (P) (Y) (Q) (q) (nn) (IntKind.wrap IntKind.i64 (i + (1 : Int)))))) .bad) (bc (bc (Nat.beq (List.length q) (List.length q)) true false) (.done (EV.tup [(EV.lst (SyC.recs [(Sh.int IntKind.i64), (Sh.int IntKind.i64), (Sh.int IntKind.i64)] (q))), (EV.v (Value.int IntKind.i64 (0)))]) [] 0) .bad)) := by kernel_rfl
theorem step {n m : Int} {X P Y Q q : List (List U)} {nn : Bool} {i : Nat} (hi : i < n) (hX : X.length ≤ 20000) (hY : Y.length ≤ 20000) (hn : n ≤ 48) (hq : q.length ≤ i) : ∃ nn', RUN (stOf (sF n m X P Y Q q nn i)) = .at (sF n m X P Y Q (q ++ bc (paF 0 (hiF i X) (hiF i Y)).2.2 [[.i i, .i (paF 0 (hiF i X) (hiF i Y)).1, .i (paF 0 (hiF i X) (hiF i Y)).2.1]] []) nn' (i + 1 : Nat)) := by
  have hx := hiF_len i X
  have hy := hiF_len i Y
  have hc : (hiF (i : Int) X).length ≤ 50000 ∧ (hiF (i : Int) Y).length ≤ 50000 := by omega
  cases hb : (paF 0 (hiF i X) (hiF i Y)).2.2 with
  | false =>
    refine ⟨nn, ?_⟩
    rw [step_t]
    simp (disch := omega) only [Nat.add_eq, eqSy_self, eqN_self, bc_same, List.length_cons, ofn, wrap_in, dt, df, bltD, bltN, ble_of, bleN, beqD, bc_t, bc_f, nn_ok, Nat.zero_add, to_nat, Int.zero_add, Int.sub_zero, Int.sub_self, Int.cast_ofNat_Int, Int.natCast_zero, Int.toNat_zero, List.take_zero, List.nil_append, List.length_append, List.length_nil, hb, dt hc, decide_true, List.append_nil]
    rfl
  | true =>
    refine ⟨true, ?_⟩
    rw [step_t]
    simp (disch := omega) only [Nat.add_eq, eqSy_self, eqN_self, bc_same, List.length_cons, ofn, wrap_in, dt, df, bltD, bltN, ble_of, bleN, beqD, bc_t, bc_f, nn_ok, Nat.zero_add, to_nat, Int.zero_add, Int.sub_zero, Int.sub_self, Int.cast_ofNat_Int, Int.natCast_zero, Int.toNat_zero, List.take_zero, List.nil_append, List.length_append, List.length_nil, hb, dt hc, decide_true]
    rfl
theorem last {n m : Int} {X P Y Q q : List (List U)} {nn : Bool} {i : Nat} (hi : n ≤ i) : RUN (stOf (sF n m X P Y Q q nn i)) = .done (.tup [pl q, iv 0]) [] 0 := by
  rw [step_t]
  simp (disch := omega) only [Nat.add_eq, eqSy_self, eqN_self, bc_same, List.length_cons, ofn, wrap_in, dt, df, bltD, bltN, ble_of, bleN, beqD, bc_t, bc_f, nn_ok, Nat.zero_add, to_nat, Int.zero_add, Int.sub_zero, Int.sub_self, Int.cast_ofNat_Int, Int.natCast_zero, Int.toNat_zero, List.take_zero, List.nil_append, List.length_append, List.length_nil]
theorem loop {n : Nat} {m : Int} {X P Y Q : List (List U)} (hX : X.length ≤ 20000) (hY : Y.length ≤ 20000) (hn : n ≤ 48) : ∀ (k i : Nat) (q : List (List U)) (nn : Bool), i + k = n → q.length ≤ i → EndZ 18 ctRF false (stOf (sF n m X P Y Q q nn i)) (.tup [pl (q ++ fiF X Y i k), iv 0]) [] 0
  | 0, i, q, nn, h, hq => by
    show EndZ _ _ _ _ (.tup [pl (q ++ []), iv 0]) _ _
    rw [List.append_nil]
    exact .done (last (by omega))
  | k + 1, i, q, nn, h, hq => by
    obtain ⟨nn', h1⟩ := step (n := n) (m := m) (P := P) (Q := Q) (q := q) (nn := nn) (show (i : Int) < n by omega) hX hY (by omega) hq
    have h2 := loop (m := m) (P := P) (Q := Q) hX hY hn k (i + 1) _ nn' (by omega) (show (q ++ bc (paF 0 (hiF i X) (hiF i Y)).2.2 [[U.i i, U.i (paF 0 (hiF i X) (hiF i Y)).1, U.i (paF 0 (hiF i X) (hiF i Y)).2.1]] []).length ≤ i + 1 by
      rw [List.length_append]
      cases (paF 0 (hiF i X) (hiF i Y)).2.2 <;> simp [bc] <;> omega)
    unfold fiF
    rw [List.append_assoc] at h2
    exact .at ctRF_ok h1 h2
theorem ends (n m : Int) (X P Y Q : List (List U)) : EndZ 18 ctRF false (st0 18 [clE n X P, clE m Y Q]) (.tup [pl (fiL n m X P Y Q), iv (fiE n m X P Y Q)]) [] 0 := by
  have h := in_t n m X P Y Q
  have err : ∀ e : Int, fiE n m X P Y Q = e → e ≠ 0 → Weak (.tup [.v (.slice none 0 0), iv e]) (.tup [pl (fiL n m X P Y Q), iv (fiE n m X P Y Q)]) := fun e he h0 => by
    unfold fiL
    rw [he, show (e != 0) = true by simp [h0], bc_t]
    exact Weak.tup (.cons (Weak.nil _) (.cons (Weak.refl _) .nil))
  by_cases z1 : chk17 n X P = 0
  · have b1 : (chk17 n X P != 0) = false := by simp [z1]
    rw [b1, bc_f] at h
    by_cases z2 : chk17 m Y Q = 0
    · have b2 : (chk17 m Y Q == 0) = true := by simp [z2]
      have b3 : (chk17 m Y Q != 0) = false := by simp [z2]
      rw [b2, bc_t, b3, bc_f] at h
      by_cases z3 : n = m
      · have b4 : (n != m) = false := by simp [z3]
        rw [b4, bc_f] at h
        have hE : fiE n m X P Y Q = 0 := by unfold fiE; rw [b1, b3, b4]; rfl
        obtain ⟨c1, c2, c3, _⟩ := chk17_ok z1
        obtain ⟨_, _, d3, _⟩ := chk17_ok z2
        unfold fiL
        rw [hE]
        obtain ⟨n, rfl⟩ := Int.eq_ofNat_of_zero_le (show 0 ≤ n by omega)
        exact .at ctRF_ok h (loop (m := m) (P := P) (Q := Q) c3 d3 (by omega) n 0 [] false (by omega) (Nat.le_refl _))
      · have b4 : (n != m) = true := by simp [z3]
        rw [b4, bc_t] at h
        exact (EndZ.done h).weak (err 2 (by unfold fiE; rw [b1, b3, b4]; rfl) (by decide))
    · have b2 : (chk17 m Y Q == 0) = false := by simp [z2]
      have b3 : (chk17 m Y Q != 0) = true := by simp [z2]
      rw [b2, bc_f, b3, bc_t] at h
      exact (EndZ.done h).weak (err _ (by unfold fiE; rw [b1, b3]; rfl) z2)
  · have b1 : (chk17 n X P != 0) = true := by simp [z1]
    have b2 : (chk17 n X P == 0) = false := by simp [z1]
    rw [b1, bc_t, b2, bc_f, bc_t] at h
    exact (EndZ.done h).weak (err _ (by unfold fiE; rw [b1]; rfl) z1)
end RFir
noncomputable def spRFir : ZCT := fun ax => match ax with
  | [.agg [.v (.int .i64 n), .lst (.recs [.int .i64, .int .i64, .int .i64, .int .i64] X), .lst (.recs [.int .i64, .int .i64, .int .i64, .int .i64] P)], .agg [.v (.int .i64 m), .lst (.recs [.int .i64, .int .i64, .int .i64, .int .i64] Y), .lst (.recs [.int .i64, .int .i64, .int .i64, .int .i64] Q)]] => some ⟨decide (True), .tup [pl (fiL n m X P Y Q), iv (fiE n m X P Y Q)], [], 0⟩
  | _ => none
theorem spRFir_ok : ZCtOk Try.prog 18 spRFir := fun γ w us ax r hs hc hax hN hfz => by
  unfold spRFir at hs
  split at hs
  case h_2 => cases hs
  rename_i n X P m Y Q
  obtain ⟨rfl⟩ := Option.some.inj hs
  have hc_0 : decide (True) = true := hc
  have hc := of_decide_eq_true hc_0
  exact EndZ.calls (RFir.ends n m X P Y Q) ctRF_ok (by kernel_rfl) hax hN hfz
end Go.Proofs.Ytonbfalbfdkieaa.Ev
namespace Go.Proofs.Ytonbfalbfdkieaa.Ev
open Go.Proofs
namespace PBot
end PBot
noncomputable def ctPF : Tr ZCC := (Tr.nil.put 114 (some (dC spPCk17))).put 82 (some (dC spThr))
theorem ctPF_ok : ZCtsOk Try.prog ctPF := ((ZCtsOk.nil _).add rfl spPCk17_ok).add rfl spThr_ok
namespace PFir
noncomputable def RUN (s : ES) : ZF := RZs 17 ctPF [(atS 0 17 7, [[(7,some (3, 73, .recs [.int .i64, .int .i64, .int .i64] [])),(8,none),(24,none),(25,none),(26,none)]]), (atS 0 17 11, [[(7,some (3, 73, .recs [.int .i64, .int .i64, .int .i64] [])),(8,none),(9,none),(11,none),(12,none),(13,none),(24,none),(25,none),(26,none)]])] [] false s

noncomputable def sO (R S q : List (List U)) (nn : Bool) (z i : Int) : NS := ⟨[⟨17, 103, [(7, EV.slO 0 3 q.length nn), (8, EV.lst (.recs shT S)), (24, EV.lst (.recs shT R)), (25, iv z), (26, iv i)], [.it (.code (nav [1, 1, 1, 1, 0, 1, 0, 0] (bodyOf Try.f17))), .it (.inLoop (nav [1, 1, 1, 1, 0, 1, 0, 0] (bodyOf Try.f17))), .it (.inBlock 0), .it (.code (nav [1, 1, 1, 1, 1] (bodyOf Try.f17)))], [], Option.none⟩], [(0, EK.seq 73 (.recs [.int .i64, .int .i64, .int .i64] q) nn)], 1⟩
noncomputable def sI (R S q l m : List (List U)) (nn : Bool) (z i k : Int) : NS := ⟨[⟨17, 103, [(7, (EV.slO 0 3 (List.length q) (nn))), (8, (EV.lst (SyC.recs [(Sh.list [(Sh.int IntKind.i64), Sh.bool]), (Sh.list [(Sh.int IntKind.i64)])] (S)))), (9, iv i), (11, ml l), (12, ml m), (13, iv k), (24, (EV.lst (SyC.recs [(Sh.list [(Sh.int IntKind.i64), Sh.bool]), (Sh.list [(Sh.int IntKind.i64)])] (R)))), (25, (EV.v (Value.int IntKind.i64 (z)))), (26, (EV.v (Value.int IntKind.i64 (i))))], [.it (.code (nav [1, 1, 1, 1, 0, 1, 0, 0, 1, 1, 0, 0, 1, 1, 1, 0, 0, 0, 0] (bodyOf Try.f17))), .it (.code (nav [1, 1, 1, 1, 0, 1, 0, 0, 1, 1, 0, 0, 1, 1, 1, 0, 0, 0, 1] (bodyOf Try.f17))), .it (.inLoop (nav [1, 1, 1, 1, 0, 1, 0, 0, 1, 1, 0, 0, 1, 1, 1, 0, 0, 0] (bodyOf Try.f17))), .it (.inBlock 2), .it (.code (nav [1, 1, 1, 1, 0, 1, 0, 0, 1, 1, 0, 0, 1, 1, 1, 1] (bodyOf Try.f17))), .it (.inBlock 1), .it (.code (nav [1, 1, 1, 1, 0, 1, 0, 0, 1, 1, 1] (bodyOf Try.f17))), .it (.inLoop (nav [1, 1, 1, 1, 0, 1, 0, 0] (bodyOf Try.f17))), .it (.inBlock 0), .it (.code (nav [1, 1, 1, 1, 1] (bodyOf Try.f17)))], [], Option.none⟩], [(0, (EK.seq 73 (SyC.recs [(Sh.int IntKind.i64), (Sh.int IntKind.i64), (Sh.int IntKind.i64)] (q)) (nn)))], 1⟩
theorem in_t (n m : Int) (X P Y Q : List (List U)) : RUN (st0 17 [clE n X P, clE m Y Q]) = (bc (chk17 n X P != (0 : Int)) (bc (chk17 n X P != (0 : Int)) (.done (EV.tup [(EV.v (Value.slice Option.none 0 0)), (EV.v (Value.int IntKind.i64 (chk17 n X P)))]) [] 0) (bc (decide ((0 : Int) ≤ m ∧ m ≤ (48 : Int) ∧ List.length Y ≤ (20000 : Nat) ∧ thrs m Y)) (bc (decide ((0 : Int) ≤ n ∧ n ≤ (48 : Int) ∧ List.length X ≤ (20000 : Nat) ∧ thrs n X)) (.at (sO (rowsT (thF X (0 : Nat) (th0 (Int.toNat n)))) (rowsT (thF Y (0 : Nat) (th0 (Int.toNat m)))) ([]) (false) (Int.ofNat (List.length (rowsT (thF X (0 : Nat) (th0 (Int.toNat n)))))) ((0 : Int)))) .bad) .bad)) (bc (chk17 m Y Q != (0 : Int)) (bc (chk17 m Y Q != (0 : Int)) (.done (EV.tup [(EV.v (Value.slice Option.none 0 0)), (EV.v (Value.int IntKind.i64 (chk17 m Y Q)))]) [] 0) (bc (decide ((0 : Int) ≤ m ∧ m ≤ (48 : Int) ∧ List.length Y ≤ (20000 : Nat) ∧ thrs m Y)) (bc (decide ((0 : Int) ≤ n ∧ n ≤ (48 : Int) ∧ List.length X ≤ (20000 : Nat) ∧ thrs n X)) (.at (sO (rowsT (thF X (0 : Nat) (th0 (Int.toNat n)))) (rowsT (thF Y (0 : Nat) (th0 (Int.toNat m)))) ([]) (false) (Int.ofNat (List.length (rowsT (thF X (0 : Nat) (th0 (Int.toNat n)))))) ((0 : Int)))) .bad) .bad)) (bc (n != m) (.done (EV.tup [(EV.v (Value.slice Option.none 0 0)), (EV.v (Value.int IntKind.i64 (2)))]) [] 0) (bc (decide ((0 : Int) ≤ m ∧ m ≤ (48 : Int) ∧ List.length Y ≤ (20000 : Nat) ∧ thrs m Y)) (bc (decide ((0 : Int) ≤ n ∧ n ≤ (48 : Int) ∧ List.length X ≤ (20000 : Nat) ∧ thrs n X)) (.at (sO (rowsT (thF X (0 : Nat) (th0 (Int.toNat n)))) (rowsT (thF Y (0 : Nat) (th0 (Int.toNat m)))) ([]) (false) (Int.ofNat (List.length (rowsT (thF X (0 : Nat) (th0 (Int.toNat n)))))) ((0 : Int)))) .bad) .bad)))) := by kernel_rfl
theorem o_t (R S q : List (List U)) (nn : Bool) (z i : Int) : RUN (stOf (sO R S q nn z i)) = (bc (decide (i < z)) (bc (bc (bc (decide ((0 : Int) ≤ i)) (Nat.blt (Int.toNat i) (List.length R)) false) true false) (bc (bc (Nat.blt (Int.toNat i) (List.length R)) true false) (bc (bc (bc (bc (bc (decide ((0 : Int) ≤ i)) (Nat.blt (Int.toNat i) (List.length S)) false) true false) (bc (bc (Nat.blt (Int.toNat i) (List.length S)) true false) true false) false) true false) (.at (sI (R) (S) (q) (U.list (List.getD (List.getD R (Int.toNat i) []) (0 : Nat) (U.i (0 : Int)))) (U.list (List.getD (List.getD S (Int.toNat i) []) (Nat.add (0 : Nat) (0 : Nat)) (U.i (0 : Int)))) (nn) (z) (i) ((0 : Int)))) .bad) .bad) .bad) (bc (bc (Nat.beq (List.length q) (List.length q)) true false) (.done (EV.tup [(EV.lst (SyC.recs [(Sh.int IntKind.i64), (Sh.int IntKind.i64), (Sh.int IntKind.i64)] (q))), (EV.v (Value.int IntKind.i64 (0)))]) [] 0) .bad)) := by kernel_rfl
theorem i_t (R S q l m : List (List U)) (nn : Bool) (z i k : Int) : RUN (stOf (sI R S q l m nn z i k)) = (bc (decide (k < Int.ofNat (List.length l))) (bc (decide (k < Int.ofNat (List.length m))) (bc (bc (bc (eqB (decide (k < Int.ofNat (List.length l))) true) (bc (eqB (decide (k < Int.ofNat (List.length m))) true) (bc (bc (bc (decide ((0 : Int) ≤ k)) (Nat.blt (Int.toNat k) (List.length l)) false) true false) (bc (bc (Nat.blt (Int.toNat k) (List.length l)) true false) (bc (bc (bc (decide ((0 : Int) ≤ k)) (Nat.blt (Int.toNat k) (List.length m)) false) true false) (bc (bc (Nat.blt (Int.toNat k) (List.length m)) true false) true false) false) false) false) false) false) true false) (bc (bc (U.int (List.getD (List.getD l (Int.toNat k) []) (0 : Nat) (U.i (0 : Int))) == U.int (List.getD (List.getD m (Int.toNat k) []) (0 : Nat) (U.i (0 : Int)))) (bc (U.bool (List.getD (List.getD l (Int.toNat k) []) (Nat.succ (0 : Nat)) (U.i (0 : Int))) == U.bool (List.getD (List.getD m (Int.toNat k) []) (Nat.succ (0 : Nat)) (U.i (0 : Int)))) true false) false) (.at (sI (R) (S) (q) (l) (m) (nn) (z) (i) (IntKind.wrap IntKind.i64 (k + (1 : Int))))) (bc (k == Int.ofNat (List.length l)) (bc (k == Int.ofNat (List.length m)) (.at (sO (R) (S) (q) (nn) (z) (IntKind.wrap IntKind.i64 (i + (1 : Int))))) (bc (k == Int.ofNat (List.length m)) (bc (bc (Nat.beq (List.length q) (List.length q)) (bc (Nat.ble (List.length q + List.length [[U.i i, U.i k, U.i (3 : Int)]]) (65536 : Nat)) (bc nn true (bc nn false true)) false) false) (.at (sO (R) (S) (q ++ [[U.i i, U.i k, U.i (3 : Int)]]) (bc nn true (Nat.blt (0 : Nat) (List.length [[U.i i, U.i k, U.i (3 : Int)]]))) (z) (IntKind.wrap IntKind.i64 (i + (1 : Int))))) .bad) (bc (k == Int.ofNat (List.length l)) (bc (bc (Nat.beq (List.length q) (List.length q)) (bc (Nat.ble (List.length q + List.length [[U.i i, U.i k, U.i (4 : Int)]]) (65536 : Nat)) (bc nn true (bc nn false true)) false) false) (.at (sO (R) (S) (q ++ [[U.i i, U.i k, U.i (4 : Int)]]) (bc nn true (Nat.blt (0 : Nat) (List.length [[U.i i, U.i k, U.i (4 : Int)]]))) (z) (IntKind.wrap IntKind.i64 (i + (1 : Int))))) .bad) (bc (bc (bc (bc (bc (decide ((0 : Int) ≤ k)) (Nat.blt (Int.toNat k) (List.length l)) false) true false) (bc (bc (Nat.blt (Int.toNat k) (List.length l)) true false) (bc (bc (bc (decide ((0 : Int) ≤ k)) (Nat.blt (Int.toNat k) (List.length m)) false) true false) (bc (bc (Nat.blt (Int.toNat k) (List.length m)) true false) true false) false) false) false) true false) (bc (U.int (List.getD (List.getD l (Int.toNat k) []) (Nat.add (0 : Nat) (0 : Nat)) (U.i (0 : Int))) != U.int (List.getD (List.getD m (Int.toNat k) []) (Nat.add (0 : Nat) (0 : Nat)) (U.i (0 : Int)))) (bc (bc (Nat.beq (List.length q) (List.length q)) (bc (Nat.ble (List.length q + List.length [[U.i i, U.i k, U.i (1 : Int)]]) (65536 : Nat)) (bc nn true (bc nn false true)) false) false) (.at (sO (R) (S) (q ++ [[U.i i, U.i k, U.i (1 : Int)]]) (bc nn true (Nat.blt (0 : Nat) (List.length [[U.i i, U.i k, U.i (1 : Int)]]))) (z) (IntKind.wrap IntKind.i64 (i + (1 : Int))))) .bad) (bc (bc (Nat.beq (List.length q) (List.length q)) (bc (Nat.ble (List.length q + List.length [[U.i i, U.i k, U.i (2 : Int)]]) (65536 : Nat)) (bc nn true (bc nn false true)) false) false) (.at (sO (R) (S) (q ++ [[U.i i, U.i k, U.i (2 : Int)]]) (bc nn true (Nat.blt (0 : Nat) (List.length [[U.i i, U.i k, U.i (2 : Int)]]))) (z) (IntKind.wrap IntKind.i64 (i + (1 : Int))))) .bad)) .bad)))) (bc (k == Int.ofNat (List.length m)) (bc (bc (Nat.beq (List.length q) (List.length q)) (bc (Nat.ble (List.length q + List.length [[U.i i, U.i k, U.i (3 : Int)]]) (65536 : Nat)) (bc nn true (bc nn false true)) false) false) (.at (sO (R) (S) (q ++ [[U.i i, U.i k, U.i (3 : Int)]]) (bc nn true (Nat.blt (0 : Nat) (List.length [[U.i i, U.i k, U.i (3 : Int)]]))) (z) (IntKind.wrap IntKind.i64 (i + (1 : Int))))) .bad) (bc (k == Int.ofNat (List.length l)) (bc (bc (Nat.beq (List.length q) (List.length q)) (bc (Nat.ble (List.length q + List.length [[U.i i, U.i k, U.i (4 : Int)]]) (65536 : Nat)) (bc nn true (bc nn false true)) false) false) (.at (sO (R) (S) (q ++ [[U.i i, U.i k, U.i (4 : Int)]]) (bc nn true (Nat.blt (0 : Nat) (List.length [[U.i i, U.i k, U.i (4 : Int)]]))) (z) (IntKind.wrap IntKind.i64 (i + (1 : Int))))) .bad) (bc (bc (bc (bc (bc (decide ((0 : Int) ≤ k)) (Nat.blt (Int.toNat k) (List.length l)) false) true false) (bc (bc (Nat.blt (Int.toNat k) (List.length l)) true false) (bc (bc (bc (decide ((0 : Int) ≤ k)) (Nat.blt (Int.toNat k) (List.length m)) false) true false) (bc (bc (Nat.blt (Int.toNat k) (List.length m)) true false) true false) false) false) false) true false) (bc (U.int (List.getD (List.getD l (Int.toNat k) []) (Nat.add (0 : Nat) (0 : Nat)) (U.i (0 : Int))) != U.int (List.getD (List.getD m (Int.toNat k) []) (Nat.add (0 : Nat) (0 : Nat)) (U.i (0 : Int)))) (bc (bc (Nat.beq (List.length q) (List.length q)) (bc (Nat.ble (List.length q + List.length [[U.i i, U.i k, U.i (1 : Int)]]) (65536 : Nat)) (bc nn true (bc nn false true)) false) false) (.at (sO (R) (S) (q ++ [[U.i i, U.i k, U.i (1 : Int)]]) (bc nn true (Nat.blt (0 : Nat) (List.length [[U.i i, U.i k, U.i (1 : Int)]]))) (z) (IntKind.wrap IntKind.i64 (i + (1 : Int))))) .bad) (bc (bc (Nat.beq (List.length q) (List.length q)) (bc (Nat.ble (List.length q + List.length [[U.i i, U.i k, U.i (2 : Int)]]) (65536 : Nat)) (bc nn true (bc nn false true)) false) false) (.at (sO (R) (S) (q ++ [[U.i i, U.i k, U.i (2 : Int)]]) (bc nn true (Nat.blt (0 : Nat) (List.length [[U.i i, U.i k, U.i (2 : Int)]]))) (z) (IntKind.wrap IntKind.i64 (i + (1 : Int))))) .bad)) .bad))))) .bad) (bc (bc (bc (eqB (decide (k < Int.ofNat (List.length l))) true) (bc (eqB (decide (k < Int.ofNat (List.length m))) false) true false) false) true false) (bc (k == Int.ofNat (List.length l)) (bc (k == Int.ofNat (List.length m)) (.at (sO (R) (S) (q) (nn) (z) (IntKind.wrap IntKind.i64 (i + (1 : Int))))) (bc (k == Int.ofNat (List.length m)) (bc (bc (Nat.beq (List.length q) (List.length q)) (bc (Nat.ble (List.length q + List.length [[U.i i, U.i k, U.i (3 : Int)]]) (65536 : Nat)) (bc nn true (bc nn false true)) false) false) (.at (sO (R) (S) (q ++ [[U.i i, U.i k, U.i (3 : Int)]]) (bc nn true (Nat.blt (0 : Nat) (List.length [[U.i i, U.i k, U.i (3 : Int)]]))) (z) (IntKind.wrap IntKind.i64 (i + (1 : Int))))) .bad) (bc (k == Int.ofNat (List.length l)) (bc (bc (Nat.beq (List.length q) (List.length q)) (bc (Nat.ble (List.length q + List.length [[U.i i, U.i k, U.i (4 : Int)]]) (65536 : Nat)) (bc nn true (bc nn false true)) false) false) (.at (sO (R) (S) (q ++ [[U.i i, U.i k, U.i (4 : Int)]]) (bc nn true (Nat.blt (0 : Nat) (List.length [[U.i i, U.i k, U.i (4 : Int)]]))) (z) (IntKind.wrap IntKind.i64 (i + (1 : Int))))) .bad) (bc (bc (bc (bc (bc (decide ((0 : Int) ≤ k)) (Nat.blt (Int.toNat k) (List.length l)) false) true false) (bc (bc (Nat.blt (Int.toNat k) (List.length l)) true false) (bc (bc (bc (decide ((0 : Int) ≤ k)) (Nat.blt (Int.toNat k) (List.length m)) false) true false) (bc (bc (Nat.blt (Int.toNat k) (List.length m)) true false) true false) false) false) false) true false) (bc (U.int (List.getD (List.getD l (Int.toNat k) []) (Nat.add (0 : Nat) (0 : Nat)) (U.i (0 : Int))) != U.int (List.getD (List.getD m (Int.toNat k) []) (Nat.add (0 : Nat) (0 : Nat)) (U.i (0 : Int)))) (bc (bc (Nat.beq (List.length q) (List.length q)) (bc (Nat.ble (List.length q + List.length [[U.i i, U.i k, U.i (1 : Int)]]) (65536 : Nat)) (bc nn true (bc nn false true)) false) false) (.at (sO (R) (S) (q ++ [[U.i i, U.i k, U.i (1 : Int)]]) (bc nn true (Nat.blt (0 : Nat) (List.length [[U.i i, U.i k, U.i (1 : Int)]]))) (z) (IntKind.wrap IntKind.i64 (i + (1 : Int))))) .bad) (bc (bc (Nat.beq (List.length q) (List.length q)) (bc (Nat.ble (List.length q + List.length [[U.i i, U.i k, U.i (2 : Int)]]) (65536 : Nat)) (bc nn true (bc nn false true)) false) false) (.at (sO (R) (S) (q ++ [[U.i i, U.i k, U.i (2 : Int)]]) (bc nn true (Nat.blt (0 : Nat) (List.length [[U.i i, U.i k, U.i (2 : Int)]]))) (z) (IntKind.wrap IntKind.i64 (i + (1 : Int))))) .bad)) .bad)))) (bc (k == Int.ofNat (List.length m)) (bc (bc (Nat.beq (List.length q) (List.length q)) (bc (Nat.ble (List.length q + List.length [[U.i i, U.i k, U.i (3 : Int)]]) (65536 : Nat)) (bc nn true (bc nn false true)) false) false) (.at (sO (R) (S) (q ++ [[U.i i, U.i k, U.i (3 : Int)]]) (bc nn true (Nat.blt (0 : Nat) (List.length [[U.i i, U.i k, U.i (3 : Int)]]))) (z) (IntKind.wrap IntKind.i64 (i + (1 : Int))))) .bad) (bc (k == Int.ofNat (List.length l)) (bc (bc (Nat.beq (List.length q) (List.length q)) (bc (Nat.ble (List.length q + List.length [[U.i i, U.i k, U.i (4 : Int)]]) (65536 : Nat)) (bc nn true (bc nn false true)) false) false) (.at (sO (R) (S) (q ++ [[U.i i, U.i k, U.i (4 : Int)]]) (bc nn true (Nat.blt (0 : Nat) (List.length [[U.i i, U.i k, U.i (4 : Int)]]))) (z) (IntKind.wrap IntKind.i64 (i + (1 : Int))))) .bad) (bc (bc (bc (bc (bc (decide ((0 : Int) ≤ k)) (Nat.blt (Int.toNat k) (List.length l)) false) true false) (bc (bc (Nat.blt (Int.toNat k) (List.length l)) true false) (bc (bc (bc (decide ((0 : Int) ≤ k)) (Nat.blt (Int.toNat k) (List.length m)) false) true false) (bc (bc (Nat.blt (Int.toNat k) (List.length m)) true false) true false) false) false) false) true false) (bc (U.int (List.getD (List.getD l (Int.toNat k) []) (Nat.add (0 : Nat) (0 : Nat)) (U.i (0 : Int))) != U.int (List.getD (List.getD m (Int.toNat k) []) (Nat.add (0 : Nat) (0 : Nat)) (U.i (0 : Int)))) (bc (bc (Nat.beq (List.length q) (List.length q)) (bc (Nat.ble (List.length q + List.length [[U.i i, U.i k, U.i (1 : Int)]]) (65536 : Nat)) (bc nn true (bc nn false true)) false) false) (.at (sO (R) (S) (q ++ [[U.i i, U.i k, U.i (1 : Int)]]) (bc nn true (Nat.blt (0 : Nat) (List.length [[U.i i, U.i k, U.i (1 : Int)]]))) (z) (IntKind.wrap IntKind.i64 (i + (1 : Int))))) .bad) (bc (bc (Nat.beq (List.length q) (List.length q)) (bc (Nat.ble (List.length q + List.length [[U.i i, U.i k, U.i (2 : Int)]]) (65536 : Nat)) (bc nn true (bc nn false true)) false) false) (.at (sO (R) (S) (q ++ [[U.i i, U.i k, U.i (2 : Int)]]) (bc nn true (Nat.blt (0 : Nat) (List.length [[U.i i, U.i k, U.i (2 : Int)]]))) (z) (IntKind.wrap IntKind.i64 (i + (1 : Int))))) .bad)) .bad)))) .bad)) (bc (bc (bc (eqB (decide (k < Int.ofNat (List.length l))) false) true false) true false) (bc (k == Int.ofNat (List.length l)) (bc (k == Int.ofNat (List.length m)) (.at (sO (R) (S) (q) (nn) (z) (IntKind.wrap IntKind.i64 (i + (1 : Int))))) (bc (k == Int.ofNat (List.length m)) (bc (bc (Nat.beq (List.length q) (List.length q)) (bc (Nat.ble (List.length q + List.length [[U.i i, U.i k, U.i (3 : Int)]]) (65536 : Nat)) (bc nn true (bc nn false true)) false) false) (.at (sO (R) (S) (q ++ [[U.i i, U.i k, U.i (3 : Int)]]) (bc nn true (Nat.blt (0 : Nat) (List.length [[U.i i, U.i k, U.i (3 : Int)]]))) (z) (IntKind.wrap IntKind.i64 (i + (1 : Int))))) .bad) (bc (k == Int.ofNat (List.length l)) (bc (bc (Nat.beq (List.length q) (List.length q)) (bc (Nat.ble (List.length q + List.length [[U.i i, U.i k, U.i (4 : Int)]]) (65536 : Nat)) (bc nn true (bc nn false true)) false) false) (.at (sO (R) (S) (q ++ [[U.i i, U.i k, U.i (4 : Int)]]) (bc nn true (Nat.blt (0 : Nat) (List.length [[U.i i, U.i k, U.i (4 : Int)]]))) (z) (IntKind.wrap IntKind.i64 (i + (1 : Int))))) .bad) (bc (bc (bc (bc (bc (decide ((0 : Int) ≤ k)) (Nat.blt (Int.toNat k) (List.length l)) false) true false) (bc (bc (Nat.blt (Int.toNat k) (List.length l)) true false) (bc (bc (bc (decide ((0 : Int) ≤ k)) (Nat.blt (Int.toNat k) (List.length m)) false) true false) (bc (bc (Nat.blt (Int.toNat k) (List.length m)) true false) true false) false) false) false) true false) (bc (U.int (List.getD (List.getD l (Int.toNat k) []) (Nat.add (0 : Nat) (0 : Nat)) (U.i (0 : Int))) != U.int (List.getD (List.getD m (Int.toNat k) []) (Nat.add (0 : Nat) (0 : Nat)) (U.i (0 : Int)))) (bc (bc (Nat.beq (List.length q) (List.length q)) (bc (Nat.ble (List.length q + List.length [[U.i i, U.i k, U.i (1 : Int)]]) (65536 : Nat)) (bc nn true (bc nn false true)) false) false) (.at (sO (R) (S) (q ++ [[U.i i, U.i k, U.i (1 : Int)]]) (bc nn true (Nat.blt (0 : Nat) (List.length [[U.i i, U.i k, U.i (1 : Int)]]))) (z) (IntKind.wrap IntKind.i64 (i + (1 : Int))))) .bad) (bc (bc (Nat.beq (List.length q) (List.length q)) (bc (Nat.ble (List.length q + List.length [[U.i i, U.i k, U.i (2 : Int)]]) (65536 : Nat)) (bc nn true (bc nn false true)) false) false) (.at (sO (R) (S) (q ++ [[U.i i, U.i k, U.i (2 : Int)]]) (bc nn true (Nat.blt (0 : Nat) (List.length [[U.i i, U.i k, U.i (2 : Int)]]))) (z) (IntKind.wrap IntKind.i64 (i + (1 : Int))))) .bad)) .bad)))) (bc (k == Int.ofNat (List.length m)) (bc (bc (Nat.beq (List.length q) (List.length q)) (bc (Nat.ble (List.length q + List.length [[U.i i, U.i k, U.i (3 : Int)]]) (65536 : Nat)) (bc nn true (bc nn false true)) false) false) (.at (sO (R) (S) (q ++ [[U.i i, U.i k, U.i (3 : Int)]]) (bc nn true (Nat.blt (0 : Nat) (List.length [[U.i i, U.i k, U.i (3 : Int)]]))) (z) (IntKind.wrap IntKind.i64 (i + (1 : Int))))) .bad) (bc (k == Int.ofNat (List.length l)) (bc (bc (Nat.beq (List.length q) (List.length q)) (bc (Nat.ble (List.length q + List.length [[U.i i, U.i k, U.i (4 : Int)]]) (65536 : Nat)) (bc nn true (bc nn false true)) false) false) (.at (sO (R) (S) (q ++ [[U.i i, U.i k, U.i (4 : Int)]]) (bc nn true (Nat.blt (0 : Nat) (List.length [[U.i i, U.i k, U.i (4 : Int)]]))) (z) (IntKind.wrap IntKind.i64 (i + (1 : Int))))) .bad) (bc (bc (bc (bc (bc (decide ((0 : Int) ≤ k)) (Nat.blt (Int.toNat k) (List.length l)) false) true false) (bc (bc (Nat.blt (Int.toNat k) (List.length l)) true false) (bc (bc (bc (decide ((0 : Int) ≤ k)) (Nat.blt (Int.toNat k) (List.length m)) false) true false) (bc (bc (Nat.blt (Int.toNat k) (List.length m)) true false) true false) false) false) false) true false) (bc (U.int (List.getD (List.getD l (Int.toNat k) []) (Nat.add (0 : Nat) (0 : Nat)) (U.i (0 : Int))) != U.int (List.getD (List.getD m (Int.toNat k) []) (Nat.add (0 : Nat) (0 : Nat)) (U.i (0 : Int)))) (bc (bc (Nat.beq (List.length q) (List.length q)) (bc (Nat.ble (List.length q + List.length [[U.i i, U.i k, U.i (1 : Int)]]) (65536 : Nat)) (bc nn true (bc nn false true)) false) false) (.at (sO (R) (S) (q ++ [[U.i i, U.i k, U.i (1 : Int)]]) (bc nn true (Nat.blt (0 : Nat) (List.length [[U.i i, U.i k, U.i (1 : Int)]]))) (z) (IntKind.wrap IntKind.i64 (i + (1 : Int))))) .bad) (bc (bc (Nat.beq (List.length q) (List.length q)) (bc (Nat.ble (List.length q + List.length [[U.i i, U.i k, U.i (2 : Int)]]) (65536 : Nat)) (bc nn true (bc nn false true)) false) false) (.at (sO (R) (S) (q ++ [[U.i i, U.i k, U.i (2 : Int)]]) (bc nn true (Nat.blt (0 : Nat) (List.length [[U.i i, U.i k, U.i (2 : Int)]]))) (z) (IntKind.wrap IntKind.i64 (i + (1 : Int))))) .bad)) .bad)))) .bad)) := by kernel_rfl
end PFir
end Go.Proofs.Ytonbfalbfdkieaa.Ev
namespace Go.Proofs.Ytonbfalbfdkieaa.Ev
open Go.Proofs
namespace PFir
theorem beqI_t {a b : Int} (h : a = b) : (a == b) = true := by simp [h]
theorem beqI_f {a b : Int} (h : a ≠ b) : (a == b) = false := by simp [h]
noncomputable abbrev adP (i : Int) (p : Int × Int × Bool) : List (List U) := bc p.2.2 [[.i i, .i p.1, .i p.2.1]] []
theorem inner {R S q l m : List (List U)} {v : EV} {z : Int} {i : Nat} (hl : l.length ≤ 50000) (hm : m.length ≤ 50000) (hq : q.length ≤ 100) (hi : i ≤ 100) : ∀ (f k : Nat) (nn : Bool), k + f = max l.length m.length → k ≤ l.length → k ≤ m.length → (∀ nn', EndZ 17 ctPF false (stOf (sO R S (q ++ adP i (paF k (l.drop k) (m.drop k))) nn' z (i + 1 : Nat))) v [] 0) → EndZ 17 ctPF false (stOf (sI R S q l m nn z i k)) v [] 0
  | f, k, nn, h, hkl, hkm, hh => by
    have h1 := i_t R S q l m nn z i k
    by_cases h2 : k < l.length
    · by_cases h3 : k < m.length
      · have e1 : l.getD k [] = l[k] := getD_at h2
        have e2 : m.getD k [] = m[k] := getD_at h3
        rw [to_nat, e1, e2] at h1
        have f1 : U.int (List.getD l[k] (Nat.add 0 0) (U.i 0)) = mT l[k] := rfl
        have f2 : U.int (List.getD m[k] (Nat.add 0 0) (U.i 0)) = mT m[k] := rfl
        have f3 : U.bool (List.getD l[k] (Nat.succ 0) (U.i 0)) = mV l[k] := rfl
        have f4 : U.bool (List.getD m[k] (Nat.succ 0) (U.i 0)) = mV m[k] := rfl
        rw [f1, f2, f3, f4] at h1
        simp (disch := omega) only [Nat.add_eq, eqSy_self, eqN_self, bc_same, List.length_cons, ofn, wrap_in, dt, df, bltD, bltN, ble_of, bleN, beqD, bc_t, bc_f, nn_ok, Nat.zero_add, to_nat, Int.zero_add, Int.sub_zero, Int.sub_self, Int.cast_ofNat_Int, Int.natCast_zero, Int.toNat_zero, List.take_zero, List.nil_append, List.length_append, List.length_nil, beqI_t, beqI_f, eqB] at h1
        rw [List.drop_eq_getElem_cons h2, List.drop_eq_getElem_cons h3] at hh
        unfold paF at hh
        cases g1 : (mT l[k] == mT m[k]) with
        | false =>
          have g3 : (mT l[k] != mT m[k]) = true := by unfold bne; rw [g1]; rfl
          rw [g1, g3] at h1
          rw [g3] at hh
          exact .at ctPF_ok h1 (hh _)
        | true =>
          have g3 : (mT l[k] != mT m[k]) = false := by unfold bne; rw [g1]; rfl
          rw [g1, g3] at h1
          rw [g3] at hh
          cases g2 : (mV l[k] == mV m[k])
          · have g4 : (mV l[k] != mV m[k]) = true := by unfold bne; rw [g2]; rfl
            rw [g2] at h1
            rw [g4] at hh
            exact .at ctPF_ok h1 (hh _)
          · have g4 : (mV l[k] != mV m[k]) = false := by unfold bne; rw [g2]; rfl
            rw [g2] at h1
            rw [g4] at hh
            cases f with
            | zero => omega
            | succ f => exact .at ctPF_ok h1 (inner hl hm hq hi f (k + 1) nn (by omega) (by omega) (by omega) hh)
      · rw [List.drop_eq_getElem_cons h2, List.drop_eq_nil_of_le (show m.length ≤ k by omega)] at hh
        simp (disch := omega) only [Nat.add_eq, eqSy_self, eqN_self, bc_same, List.length_cons, ofn, wrap_in, dt, df, bltD, bltN, ble_of, bleN, beqD, bc_t, bc_f, nn_ok, Nat.zero_add, to_nat, Int.zero_add, Int.sub_zero, Int.sub_self, Int.cast_ofNat_Int, Int.natCast_zero, Int.toNat_zero, List.take_zero, List.nil_append, List.length_append, List.length_nil, beqI_t, beqI_f, eqB] at h1
        exact .at ctPF_ok h1 (hh _)
    · by_cases h3 : k < m.length
      · rw [List.drop_eq_getElem_cons h3, List.drop_eq_nil_of_le (show l.length ≤ k by omega)] at hh
        simp (disch := omega) only [Nat.add_eq, eqSy_self, eqN_self, bc_same, List.length_cons, ofn, wrap_in, dt, df, bltD, bltN, ble_of, bleN, beqD, bc_t, bc_f, nn_ok, Nat.zero_add, to_nat, Int.zero_add, Int.sub_zero, Int.sub_self, Int.cast_ofNat_Int, Int.natCast_zero, Int.toNat_zero, List.take_zero, List.nil_append, List.length_append, List.length_nil, beqI_t, beqI_f, eqB] at h1
        exact .at ctPF_ok h1 (hh _)
      · rw [List.drop_eq_nil_of_le (show m.length ≤ k by omega), List.drop_eq_nil_of_le (show l.length ≤ k by omega)] at hh
        simp (disch := omega) only [Nat.add_eq, eqSy_self, eqN_self, bc_same, List.length_cons, ofn, wrap_in, dt, df, bltD, bltN, ble_of, bleN, beqD, bc_t, bc_f, nn_ok, Nat.zero_add, to_nat, Int.zero_add, Int.sub_zero, Int.sub_self, Int.cast_ofNat_Int, Int.natCast_zero, Int.toNat_zero, List.take_zero, List.nil_append, List.length_append, List.length_nil, beqI_t, beqI_f, eqB] at h1
        have h0 := hh nn
        rw [show q ++ adP i (paF k [] []) = q from List.append_nil q] at h0
        exact .at ctPF_ok h1 h0
theorem loop {n : Nat} {X Y : List (List U)} (hX : X.length ≤ 20000) (hY : Y.length ≤ 20000) (hn : n ≤ 48) (tx : thrs n X) (ty : thrs n Y) : ∀ (k i : Nat) (q : List (List U)) (nn : Bool), i + k = n → q.length ≤ i → EndZ 17 ctPF false (stOf (sO (rowsT (thF X 0 (th0 n))) (rowsT (thF Y 0 (th0 n))) q nn n i)) (.tup [pl (q ++ fiF X Y i k), iv 0]) [] 0
  | 0, i, q, nn, h, hq => by
    show EndZ _ _ _ _ (.tup [pl (q ++ []), iv 0]) _ _
    rw [List.append_nil]
    have h1 := o_t (rowsT (thF X 0 (th0 n))) (rowsT (thF Y 0 (th0 n))) q nn n i
    simp (disch := omega) only [Nat.add_eq, eqSy_self, eqN_self, bc_same, List.length_cons, ofn, wrap_in, dt, df, bltD, bltN, ble_of, bleN, beqD, bc_t, bc_f, nn_ok, Nat.zero_add, to_nat, Int.zero_add, Int.sub_zero, Int.sub_self, Int.cast_ofNat_Int, Int.natCast_zero, Int.toNat_zero, List.take_zero, List.nil_append, List.length_append, List.length_nil] at h1
    exact .done h1
  | k + 1, i, q, nn, h, hq => by
    have hi : i < n := by omega
    have lA : (thF X 0 (th0 n)).length = n := by rw [thF_len]; unfold th0; simp
    have lB : (thF Y 0 (th0 n)).length = n := by rw [thF_len]; unfold th0; simp
    have g0 : (getT (th0 n) i).1 = [] := by
      unfold getT th0
      rw [List.getD_eq_getElem?_getD, List.getElem?_replicate, if_pos hi]; rfl
    have l0 : (th0 n).length = n := by unfold th0; simp
    have gA : (getT (thF X 0 (th0 n)) i).1 = hiF i X := by
      rw [thF_hi i X 0 (th0 n) (by omega) (fun r hr => by rw [l0]; exact tx r hr), g0]; rfl
    have gB : (getT (thF Y 0 (th0 n)) i).1 = hiF i Y := by
      rw [thF_hi i Y 0 (th0 n) (by omega) (fun r hr => by rw [l0]; exact ty r hr), g0]; rfl
    have h1 := o_t (rowsT (thF X 0 (th0 n))) (rowsT (thF Y 0 (th0 n))) q nn n i
    have mA : U.list (List.getD (List.getD (rowsT (thF X 0 (th0 n))) i []) 0 (U.i 0)) = hiF i X := (getM (by omega)).trans gA
    have mB : U.list (List.getD (List.getD (rowsT (thF Y 0 (th0 n))) i []) (Nat.add 0 0) (U.i 0)) = hiF i Y := (getM (by omega)).trans gB
    have rA : (rowsT (thF X 0 (th0 n))).length = n := by rw [rowsT_len, lA]
    have rB : (rowsT (thF Y 0 (th0 n))).length = n := by rw [rowsT_len, lB]
    rw [to_nat, mA, mB, rA, rB] at h1
    simp (disch := omega) only [Nat.add_eq, eqSy_self, eqN_self, bc_same, List.length_cons, ofn, wrap_in, dt, df, bltD, bltN, ble_of, bleN, beqD, bc_t, bc_f, nn_ok, Nat.zero_add, to_nat, Int.zero_add, Int.sub_zero, Int.sub_self, Int.cast_ofNat_Int, Int.natCast_zero, Int.toNat_zero, List.take_zero, List.nil_append, List.length_append, List.length_nil] at h1
    have hx := hiF_len i X
    have hy := hiF_len i Y
    refine .at ctPF_ok h1 (inner (by omega) (by omega) (by omega) (by omega) (max (hiF i X).length (hiF i Y).length) 0 nn (by omega) (by omega) (by omega) fun nn' => ?_)
    have h2 := loop hX hY hn tx ty k (i + 1) (q ++ adP i (paF 0 (hiF i X) (hiF i Y))) nn' (by omega) (by
      rw [List.length_append]
      unfold adP
      cases (paF 0 (hiF i X) (hiF i Y)).2.2 <;> simp [bc] <;> omega)
    rw [List.append_assoc] at h2
    exact h2
theorem ends (n m : Int) (X P Y Q : List (List U)) : EndZ 17 ctPF false (st0 17 [clE n X P, clE m Y Q]) (.tup [pl (fiL n m X P Y Q), iv (fiE n m X P Y Q)]) [] 0 := by
  have h := in_t n m X P Y Q
  have err : ∀ e : Int, fiE n m X P Y Q = e → e ≠ 0 → Weak (.tup [.v (.slice none 0 0), iv e]) (.tup [pl (fiL n m X P Y Q), iv (fiE n m X P Y Q)]) := fun e he h0 => by
    unfold fiL
    rw [he, show (e != 0) = true by simp [h0], bc_t]
    exact Weak.tup (.cons (Weak.nil _) (.cons (Weak.refl _) .nil))
  by_cases z1 : chk17 n X P = 0
  · have b1 : (chk17 n X P != 0) = false := by simp [z1]
    rw [b1, bc_f] at h
    by_cases z2 : chk17 m Y Q = 0
    · have b3 : (chk17 m Y Q != 0) = false := by simp [z2]
      rw [b3, bc_f] at h
      by_cases z3 : n = m
      · have b4 : (n != m) = false := by simp [z3]
        rw [b4, bc_f] at h
        have hE : fiE n m X P Y Q = 0 := by unfold fiE; rw [b1, b3, b4]; rfl
        obtain ⟨c1, c2, c3, c4, c5, _⟩ := chk17_ok z1
        obtain ⟨d1, d2, d3, d4, d5, _⟩ := chk17_ok z2
        unfold fiL
        rw [hE]
        subst z3
        obtain ⟨n, rfl⟩ := Int.eq_ofNat_of_zero_le (show 0 ≤ n by omega)
        rw [dt (show (0 : Int) ≤ n ∧ (n : Int) ≤ 48 ∧ Y.length ≤ 20000 ∧ thrs n Y from ⟨by omega, by omega, by omega, d5⟩), bc_t, dt (show (0 : Int) ≤ n ∧ (n : Int) ≤ 48 ∧ X.length ≤ 20000 ∧ thrs n X from ⟨by omega, by omega, by omega, c5⟩), bc_t] at h
        have l0 : (th0 n).length = n := by unfold th0; simp
        rw [to_nat, rowsT_len, thF_len, l0] at h
        exact .at ctPF_ok h (loop c3 d3 (by omega) c5 d5 n 0 [] false (by omega) (Nat.le_refl _))
      · have b4 : (n != m) = true := by simp [z3]
        rw [b4, bc_t] at h
        exact (EndZ.done h).weak (err 2 (by unfold fiE; rw [b1, b3, b4]; rfl) (by decide))
    · have b3 : (chk17 m Y Q != 0) = true := by simp [z2]
      rw [b3, bc_t, bc_t] at h
      exact (EndZ.done h).weak (err _ (by unfold fiE; rw [b1, b3]; rfl) z2)
  · have b1 : (chk17 n X P != 0) = true := by simp [z1]
    rw [b1, bc_t, bc_t] at h
    exact (EndZ.done h).weak (err _ (by unfold fiE; rw [b1]; rfl) z1)
end PFir
noncomputable def spPFir : ZCT := fun ax => match ax with
  | [.agg [.v (.int .i64 n), .lst (.recs [.int .i64, .int .i64, .int .i64, .int .i64] X), .lst (.recs [.int .i64, .int .i64, .int .i64, .int .i64] P)], .agg [.v (.int .i64 m), .lst (.recs [.int .i64, .int .i64, .int .i64, .int .i64] Y), .lst (.recs [.int .i64, .int .i64, .int .i64, .int .i64] Q)]] => some ⟨decide (True), .tup [pl (fiL n m X P Y Q), iv (fiE n m X P Y Q)], [], 0⟩
  | _ => none
theorem spPFir_ok : ZCtOk Try.prog 17 spPFir := fun γ w us ax r hs hc hax hN hfz => by
  unfold spPFir at hs
  split at hs
  case h_2 => cases hs
  rename_i n X P m Y Q
  obtain ⟨rfl⟩ := Option.some.inj hs
  have hc_0 : decide (True) = true := hc
  have hc := of_decide_eq_true hc_0
  exact EndZ.calls (PFir.ends n m X P Y Q) ctPF_ok (by kernel_rfl) hax hN hfz

def eqR (a b : List (List U)) : Prop := a = b
noncomputable instance (a b : List (List U)) : Decidable (eqR a b) := Classical.propDecidable _
end Go.Proofs.Ytonbfalbfdkieaa.Ev
namespace Go.Proofs.Ytonbfalbfdkieaa.Ev
open Go.Proofs
theorem shown_run : endsB (exClosed Try.prog ft (drD Try.prog ft 16 4) 16 18) = true := by kernel_rfl
theorem shownC (w : World) : Calls Try.prog 16 #[] w fun e w' => e = .returned (.bool true) ∧ Stays w w' := closedTrue ftOk (drD_ok mix ftOk 16 4) shown_run w
theorem spShown_ok : ZCtOk Try.prog 16 spTrue := spTrue_ok shownC
end Go.Proofs.Ytonbfalbfdkieaa.Ev
namespace Go.Proofs.Ytonbfalbfdkieaa
open Go.ChangeShapes Go.WideShapes Go.ChangeAt Go.RowKit

theorem kept_of_stays {W W' : World} (h : Ev.Stays W W') (may : MemPlace → Prop) : W.keptBut W' may := by
  refine ⟨h.os, h.output, fun i hi => ?_⟩
  have e := h.block i hi
  rw [e]
  cases hb : W.heap[i]? with
  | none => simp
  | some o =>
    cases o <;> first | exact ⟨rfl, rfl, rfl, fun _ _ => rfl⟩ | exact .inr ⟨rfl, rfl⟩ | rfl
theorem frozen_of_stays {W W' : World} (h : Ev.Stays W W') (a : Addr) (ha : a.block < W.heap.size) : W'.frozen? a = W.frozen? a := by
  unfold World.frozen?
  rw [h.block _ ha]
section
variable {H : Type} {enc : TypeId × Value → H} {P : Program}

theorem post_of_stays {f : Func} {s : ChangeSpec} {apart fresh handsOn again : Bool} {W W' : World} {args : Array Value} {v : Value} {ds gs : List (DataW H)} {before pa pv : List MemPlace}
    (hW : DataW.Whole enc P f.params.toList s.vars apart W args.toList ds gs before)
    (hres : ∀ (b : Nat) (sp : Nat → Bool) (hd : Bool), DataW.TrodAll enc P W' b sp hd f.resultTypes.toList (v.resultList f.resultTypes.size) (s.fn H (ds ++ gs)).results [])
    (hargs : ∀ sp : Nat → Bool, (∀ p ∈ before, sp p.block = true) → DataW.TrodAll enc P W' 0 sp true f.params.toList args.toList (s.fn H (ds ++ gs)).args pa)
    (hvars : ∀ sp : Nat → Bool, (∀ p ∈ before, sp p.block = true) → DataW.TrodVars enc P W' sp s.vars (s.fn H (ds ++ gs)).vars pv)
    (hps : before = pa ++ pv) (hst : Ev.Stays W W')
    (hok : ∀ (j : Nat) (t : TypeId) (r : Value), f.resultTypes[j]? = some t → (v.resultList f.resultTypes.size)[j]? = some r → Value.okWide P W' .any 0 t r) :
    s.post enc P f apart fresh handsOn again W args v W' := by
  have hk : W.keptBut W' (· ∈ before) := kept_of_stays hst _
  have hold : ∀ p ∈ before, (fun b => decide (b < W.heap.size)) p.block = true := fun p hp => by simpa using hW.lt p hp
  have hlt := fun p hp => hW.lt p hp
  refine ⟨ds, gs, before, [], pa, pv, hW, hres _ _ _, hargs _ hold, hvars _ hold, World.keptBut_mono (fun p hp => ⟨hp, ?_⟩) hk, fun _ => ?_⟩
  · rw [hps, List.mem_append] at hp
    exact Or.inr hp
  · obtain ⟨_, _, _, _, _, hz, hn⟩ := hW
    refine ⟨hok, _, _, ([] ++ pa) ++ pv, ⟨[] ++ pa, pv, trodAll_append (hargs _ (fun _ _ => rfl)) (hres _ _ _), hvars _ (fun _ _ => rfl), rfl, ?_, ?_⟩, ?_⟩
    · intro b off hp
      have hp2 : MemPlace.cell b off ∈ before := by rw [hps]; simpa using hp
      rw [frozen_of_stays hst _ (hlt _ hp2)]
      exact hz b off hp2
    · intro ha
      have := hn ha
      rw [hps] at this
      simpa using this
    · intro p hp _
      rw [hps]
      simpa using hp
end
end Go.Proofs.Ytonbfalbfdkieaa
namespace Go.Proofs.Ytonbfalbfdkieaa
open Go.ChangeShapes Go.WideShapes Go.ChangeAt Go.RowKit
section
variable {H : Type} {enc : TypeId × Value → H} {P : Program}
theorem same_of_stays {W W' : World} (h : Ev.Stays W W') {p : MemPlace} (hp : p.block < W.heap.size) : W.sameAt W' p := by
  cases p with
  | cell b off =>
    show W'.cell? _ = W.cell? _
    unfold World.cell?
    rw [h.block b hp]
  | map b => exact h.block b hp
theorem args_carry {W W' : World} {base : Nat} {sp : Nat → Bool} {hd : Bool} : ∀ {ts : List TypeId} {vs : List Value} {ds : List (DataW H)} {ps : List MemPlace}, DataW.TrodAll enc P W base sp hd ts vs ds ps → (∀ p ∈ ps, W.sameAt W' p) → DataW.TrodAll enc P W' base sp hd ts vs ds ps
  | [], [], [], _, h, _ => h
  | _ :: _, _ :: _, _ :: _, _, ⟨p, q, ⟨n, h⟩, hs, e⟩, k => ⟨p, q, ⟨n, DataW.trod_carry n _ _ _ h fun x hx => k x (by rw [e]; exact List.mem_append_left _ hx)⟩, args_carry hs fun x hx => k x (by rw [e]; exact List.mem_append_right _ hx), e⟩
  | [], [], _ :: _, _, h, _ => h.elim
  | [], _ :: _, _, _, h, _ => h.elim
  | _ :: _, [], _, _, h, _ => h.elim
  | _ :: _, _ :: _, [], _, h, _ => h.elim

theorem post_law {f : Func} {s : ChangeSpec} {apart fresh handsOn again : Bool} {W W' : World} {args : Array Value} {ds : List (DataW H)} {p : List MemPlace} {bt : TypeId} {T : TypeId → Prop} (K : Kids P T) (hz : ∀ t e, T t → P.underlying t = some (.slice e) → 0 < P.cellsOf e)
    (hbt : P.underlying bt = some .bool) (hrt : f.resultTypes.toList = [bt]) (hsz : f.resultTypes.size = 1) (hvs : s.vars = []) (hfn : s.fn H (ds ++ []) = { results := [.lit (.bool true)], args := ds })
    (hpt : ∀ t ∈ f.params.toList, T t)
    (hW : DataW.Whole enc P f.params.toList s.vars apart W args.toList ds [] (p ++ [])) (hA : DataW.TrodAll enc P W 0 (fun _ => true) true f.params.toList args.toList ds p) (hst : Ev.Stays W W')
    (hok : ∀ (j : Nat) (t : TypeId) (r : Value), f.resultTypes[j]? = some t → ((Value.bool true).resultList f.resultTypes.size)[j]? = some r → Value.okWide P W' .any 0 t r) :
    s.post enc P f apart fresh handsOn again W args (.bool true) W' := by
  have hlt := fun q hq => hW.lt q hq
  refine post_of_stays (pa := p) (pv := []) hW (fun b sp hd => ?_) (fun sp hsp => ?_) (fun sp _ => ?_) rfl hst hok
  · rw [hrt, hfn, hsz]
    exact trodAll_mk1 (shut_bool hbt _)
  · rw [hfn]
    exact DataW.TrodAll.respare K hz hpt (args_carry hA fun q hq => same_of_stays hst (hlt q (by simpa using hq))) fun q hq => hsp q (by simpa using hq)
  · rw [hfn, hvs]
    rfl
end
namespace Ev


inductive UFit : Sh → U → Prop where
  | int (k : IntKind) (n : Int) (h : (Lit.int k n).wf = true) : UFit (.int k) (.i n)
  | bool (b : Bool) : UFit .bool (.b b)
  | str (s : ByteArray) (h : s.size ≤ maxLen) : UFit .str (.s s)
  | list (sh : List Sh) (l : List (List U)) (hl : l.length ≤ maxLen) (hr : ∀ j, j < l.length → (l.getD j []).length = sh.length) (h : ∀ (j f : Nat) (s : Sh), j < l.length → sh[f]? = some s → UFit s ((l.getD j []).getD f (.i 0))) : UFit (.list sh) (.l l)
structure RowFit (sh : List Sh) (r : List U) : Prop where
  len : r.length = sh.length
  fit : ∀ (f : Nat) (s : Sh), sh[f]? = some s → UFit s (r.getD f (.i 0))
theorem RowFit.nil : RowFit [] [] := ⟨rfl, fun f s h => by simp at h⟩
theorem RowFit.append {sh1 sh2 : List Sh} {r1 r2 : List U} (h1 : RowFit sh1 r1) (h2 : RowFit sh2 r2) : RowFit (sh1 ++ sh2) (r1 ++ r2) := by
  refine ⟨by simp [h1.len, h2.len], fun f s h => ?_⟩
  rw [List.getD_eq_getElem?_getD]
  by_cases hf : f < sh1.length
  · rw [List.getElem?_append_left hf] at h
    rw [List.getElem?_append_left (by rw [h1.len]; exact hf), ← List.getD_eq_getElem?_getD]
    exact h1.fit f s h
  · rw [List.getElem?_append_right (by omega)] at h
    rw [List.getElem?_append_right (by rw [h1.len]; omega), h1.len, ← List.getD_eq_getElem?_getD]
    exact h2.fit _ s h
theorem recE_app : ∀ {sh1 sh2 : List Sh} {r1 r2 : List U}, r1.length = sh1.length → recE (sh1 ++ sh2) (r1 ++ r2) = recE sh1 r1 ++ recE sh2 r2
  | [], sh2, r1, r2, h => by
    have : r1 = [] := List.eq_nil_of_length_eq_zero h
    subst this; rfl
  | s :: sh1, sh2, [], r2, h => by cases h
  | s :: sh1, sh2, u :: r1, r2, h => by
    show s.ev u :: recE (sh1 ++ sh2) (r1 ++ r2) = s.ev u :: (recE sh1 r1 ++ recE sh2 r2)
    rw [recE_app (by simpa using h)]

def shFs (P : Program) (f : TypeId → Option (List Sh)) : List Field → Nat → Option (List Sh)
  | [], _ => some []
  | fd :: r, off => match f fd.type with
    | some sh => if fd.offset = off ∧ P.cellsOf fd.type = sh.length then match shFs P f r (off + sh.length) with
      | some l => some (sh ++ l)
      | none => none else none
    | none => none
def shB (P : Program) : Nat → TypeId → Option (List Sh)
  | 0, _ => none
  | k + 1, t => match P.underlying t with
    | some (.int κ) => some [.int κ]
    | some .bool => some [.bool]
    | some .string => some [.str]
    | some (.slice e) => match shB P k e with
      | some sh => if P.cellsOf e = sh.length ∧ 0 < sh.length then some [.list sh] else none
      | none => none
    | some (.struct fs) => match shFs P (shB P k) fs.toList 0 with
      | some sh => if P.cellsOf t = sh.length then some sh else none
      | none => none
    | some (.array m e) => match shB P k e with
      | some sh => if P.cellsOf e = sh.length ∧ P.cellsOf t = m * sh.length then some (List.replicate m sh).flatten else none
      | none => none
    | _ => none
noncomputable def fzAll (W : World) : Nat → Option (Array Value) := fun k => match W.heap[k]? with
  | some (.cells a _ _) => some a
  | _ => none
noncomputable def gAll (W : World) : G := ⟨fun _ => none, fzAll W, fun _ _ _ => none⟩
theorem fzAll_at (W : World) : FzAt (gAll W) W := ⟨fun k a hk => (by
  have hk : fzAll W k = some a := hk
  unfold fzAll at hk
  split at hk
  · rename_i a' ty fz h
    injection hk with hk; subst hk
    exact ⟨ty, fz, h⟩
  · cases hk), fun _ _ _ => rfl⟩
theorem list_of {Q : Nat → List U → Prop} : ∀ (n : Nat), (∀ i, i < n → ∃ r, Q i r) → ∃ l : List (List U), l.length = n ∧ ∀ i, i < n → Q i (l.getD i [])
  | 0, _ => ⟨[], rfl, fun i hi => absurd hi (by omega)⟩
  | n + 1, h => by
    obtain ⟨l, h1, h2⟩ := list_of n fun i hi => h i (by omega)
    obtain ⟨r, hr⟩ := h n (by omega)
    refine ⟨l ++ [r], by simp [h1], fun i hi => ?_⟩
    rw [List.getD_eq_getElem?_getD]
    by_cases e : i < n
    · rw [List.getElem?_append_left (by omega), ← List.getD_eq_getElem?_getD]; exact h2 i e
    · have : i = n := by omega
      subst this
      rw [List.getElem?_append_right (by omega), h1, Nat.sub_self]; exact hr
variable {H : Type} {enc : TypeId × Value → H} {P : Program} {W : World} {base : Nat} {sp : Nat → Bool} {hd : Bool}
def OpenAt (enc : TypeId × Value → H) (P : Program) (W : World) (base : Nat) (sp : Nat → Bool) (hd : Bool) (k : Nat) : Prop := ∀ (t : TypeId) (sh : List Sh) (fuel : Nat) (cs : List Value) (x : DataW H × List MemPlace), shB P k t = some sh → DataW.trod enc P W base sp hd fuel t cs = some x → ∃ r, RowFit sh r ∧ ∀ γ : G, γ.fz = fzAll W → ECL γ (recE sh r) cs
theorem fields_open {k : Nat} (ih : OpenAt enc P W base sp hd k) {cs : List Value} {n : Nat} : ∀ (fs : List Field) (off : Nat) (sh : List Sh), shFs P (shB P k) fs off = some sh → (∀ f, f ∈ fs → ∃ y, DataW.trod enc P W base sp hd n f.type ((cs.drop f.offset).take (P.cellsOf f.type)) = some y) → ∃ r, RowFit sh r ∧ ∀ γ : G, γ.fz = fzAll W → ECL γ (recE sh r) ((cs.drop off).take sh.length)
  | [], off, sh, h, _ => by
    injection (show some [] = some sh from h) with h; subst h
    exact ⟨[], .nil, fun γ _ => by
      rw [show ([] : List Sh).length = 0 from rfl, List.take_zero]; exact ECL.nil γ⟩
  | fd :: fs, off, sh, h, hall => by
    unfold shFs at h
    split at h
    case h_2 => cases h
    rename_i s1 hs1
    split at h
    case isFalse => cases h
    rename_i hc
    split at h
    case h_2 => cases h
    rename_i s2 hs2
    injection h with h; subst h
    obtain ⟨y, hy⟩ := hall fd (by simp)
    rw [hc.1, hc.2] at hy
    obtain ⟨r1, h1, h2⟩ := ih fd.type s1 n _ y hs1 hy
    obtain ⟨r2, h3, h4⟩ := fields_open ih fs (off + s1.length) s2 hs2 fun f hf => hall f (by simp [hf])
    refine ⟨r1 ++ r2, h1.append h3, fun γ hγ => ?_⟩
    rw [recE_app h1.len, List.length_append]
    have e : (cs.drop off).take (s1.length + s2.length) = (cs.drop off).take s1.length ++ (cs.drop (off + s1.length)).take s2.length := by
      rw [List.take_add, List.drop_drop]
    rw [e]
    exact (h2 γ hγ).append (h4 γ hγ)
theorem elems_open {k : Nat} (ih : OpenAt enc P W base sp hd k) {cs : List Value} {n : Nat} {e : TypeId} {sh : List Sh} (hsh : shB P k e = some sh) (hc : P.cellsOf e = sh.length) : ∀ (m i0 : Nat), (∀ i, i < m → ∃ y, DataW.trod enc P W base sp hd n e ((cs.drop ((i0 + i) * P.cellsOf e)).take (P.cellsOf e)) = some y) → ∃ r, RowFit (List.replicate m sh).flatten r ∧ ∀ γ : G, γ.fz = fzAll W → ECL γ (recE (List.replicate m sh).flatten r) ((cs.drop (i0 * sh.length)).take (m * sh.length))
  | 0, i0, _ => ⟨[], .nil, fun γ _ => by
      rw [Nat.zero_mul, List.take_zero]; exact ECL.nil γ⟩
  | m + 1, i0, h => by
    obtain ⟨y, hy⟩ := h 0 (by omega)
    rw [hc, Nat.add_zero] at hy
    obtain ⟨r1, h1, h2⟩ := ih e sh n _ y hsh hy
    obtain ⟨r2, h3, h4⟩ := elems_open ih hsh hc m (i0 + 1) fun i hi => by
      have := h (i + 1) (by omega)
      rwa [show i0 + (i + 1) = i0 + 1 + i by omega] at this
    refine ⟨r1 ++ r2, by rw [List.replicate_succ, List.flatten_cons]; exact h1.append h3, fun γ hγ => ?_⟩
    rw [List.replicate_succ, List.flatten_cons, recE_app h1.len, Nat.succ_mul, Nat.add_comm, List.take_add, List.drop_drop]
    have := h4 γ hγ
    rw [Nat.succ_mul] at this
    exact (h2 γ hγ).append this
theorem open_cells : ∀ k, OpenAt enc P W base sp hd k
  | 0 => fun t sh fuel cs x h => by cases h
  | k + 1 => fun t sh fuel cs x h ht => by
    have ih : OpenAt enc P W base sp hd k := open_cells k
    unfold shB at h
    split at h
    · rename_i κ hu
      injection h with h; subst h
      obtain ⟨n, rfl, _, hw⟩ := DataW.trod_int hu ht
      refine ⟨[.i n], ⟨rfl, fun f s hf => ?_⟩, fun γ _ => .cons (.v _) (.nil _)⟩
      obtain ⟨rfl, rfl⟩ := one_f hf
      exact .int κ n hw
    · rename_i hu
      injection h with h; subst h
      obtain ⟨b, rfl, _⟩ := DataW.trod_bool hu ht
      refine ⟨[.b b], ⟨rfl, fun f s hf => ?_⟩, fun γ _ => .cons (.v _) (.nil _)⟩
      obtain ⟨rfl, rfl⟩ := one_f hf
      exact .bool b
    · rename_i hu
      injection h with h; subst h
      obtain ⟨s, rfl, _, hs⟩ := DataW.trod_string hu ht
      refine ⟨[.s s], ⟨rfl, fun f s hf => ?_⟩, fun γ _ => .cons (.v _) (.nil _)⟩
      obtain ⟨rfl, rfl⟩ := one_f hf
      exact .str _ hs
    · rename_i e hu
      split at h
      case h_2 => cases h
      rename_i sh' hsh
      split at h
      case isFalse => cases h
      rename_i hc
      injection h with h; subst h
      rcases DataW.trod_slice hu ht with ⟨rfl, _⟩ | ⟨a, len, cap, elems, rest, n, _, rfl, _, hb, hlc, hcm, hel, hall, _⟩
      · refine ⟨[.l []], ⟨rfl, fun f s hf => ?_⟩, fun γ _ => .cons ?_ (.nil _)⟩
        · obtain ⟨rfl, rfl⟩ := one_f hf
          exact .list sh' [] (Nat.zero_le _) (fun j hj => by simp at hj) (fun j f s hj => by simp at hj)
        · exact UOk.ec (s := .list sh') (.empty sh' (.l []) none 0 rfl (Nat.zero_le _) fun _ => rfl)
      · have each : ∀ i, i < len → ∃ r, RowFit sh' r ∧ ∃ ys, W.cells? base (a.add (i * sh'.length)) sh'.length = some ys ∧ ∀ γ : G, γ.fz = fzAll W → ECL γ (recE sh' r) ys := fun i hi => by
          have h1 := hall i hi
          rw [hc.1] at h1
          have h2 : i < elems.length := by omega
          rw [List.getElem?_eq_getElem h2] at h1
          obtain ⟨ys, h3, h4⟩ := Option.bind_eq_some_iff.1 h1
          obtain ⟨r, h5, h6⟩ := ih e sh' n ys _ hsh h4
          exact ⟨r, h5, ys, h3, h6⟩
        obtain ⟨l, hl, hQ⟩ := list_of len each
        refine ⟨[.l l], ⟨rfl, fun f s hf => ?_⟩, fun γ hγ => .cons ?_ (.nil _)⟩
        · obtain ⟨rfl, rfl⟩ := one_f hf
          exact .list sh' l (by omega) (fun j hj => (hQ j (by omega)).1.len) fun j f s hj hf => (hQ j (by omega)).1.fit f s hf
        · refine UOk.ec (s := .list sh') ?_
          by_cases h0 : len = 0
          · have : l = [] := List.eq_nil_of_length_eq_zero (by omega)
            subst this; subst h0
            exact .empty sh' (.l []) (some a) cap rfl hcm fun e => by cases e
          · obtain ⟨b, off, spot⟩ := a
            have hblk : spot = none ∧ ∃ arr ty fz, W.heap[b]? = some (.cells arr ty fz) := by
              obtain ⟨h1, ys, h2, h3⟩ := hQ 0 (by omega)
              obtain ⟨_, h4, h5⟩ := World.cells?_some h2
              have h6 := h5 0 hc.2
              rw [List.getElem?_eq_getElem (show 0 < ys.length by omega)] at h6
              have h6 : W.cell? ⟨b, off, spot⟩ = some ys[0] := by
                have e : ((⟨b, off, spot⟩ : Addr).add (0 * sh'.length)).add 0 = ⟨b, off, spot⟩ := by simp [Addr.add]
                rw [e] at h6; exact h6
              unfold World.cell? at h6
              split at h6
              · rename_i arr ty fz hb'
                split at h6
                · cases h6
                · rename_i hs
                  exact ⟨by cases spot <;> simp_all, arr, ty, fz, hb'⟩
              · cases h6
            obtain ⟨rfl, arr, ty, fz, hblk⟩ := hblk
            have cellAt : ∀ i f, i < len → f < sh'.length → ∃ y, W.cell? ⟨b, off + (i * sh'.length + f), none⟩ = some y ∧ ∀ s, sh'[f]? = some s → UOk γ.fz s ((l.getD i []).getD f (.i 0)) y := fun i f hi hf => by
              obtain ⟨h1, ys, h2, h3⟩ := hQ i hi
              obtain ⟨_, h4, h5⟩ := World.cells?_some h2
              have h6 := h5 f hf
              have h7 : f < ys.length := by omega
              rw [List.getElem?_eq_getElem h7] at h6
              refine ⟨ys[f], ?_, fun s hs => ?_⟩
              · have e : ((⟨b, off, none⟩ : Addr).add (i * sh'.length)).add f = ⟨b, off + (i * sh'.length + f), none⟩ := by
                  unfold Addr.add
                  split <;> split <;> simp_all [Nat.add_assoc]
                rw [← h6, e]
              · have h8 := recE_get (s := s) (f := f) (sh := sh') (l.getD i []) hs
                have h9 := (h3 γ hγ).2 f _ ys[f] h8 (List.getElem?_eq_getElem h7)
                exact UOk.of_ec h9
            have getA : ∀ i f, i < len → f < sh'.length → ∃ y, arr[off + (i * sh'.length + f)]? = some y ∧ ∀ s, sh'[f]? = some s → UOk γ.fz s ((l.getD i []).getD f (.i 0)) y := fun i f hi hf => by
              obtain ⟨y, h1, h2⟩ := cellAt i f hi hf
              refine ⟨y, ?_, h2⟩
              unfold World.cell? at h1
              simpa [hblk] using h1
            have hk : γ.fz b = some arr := by
              rw [hγ]; unfold fzAll; rw [hblk]
            subst hl
            refine .list sh' (.l l) b off cap arr hk hlc hcm ?_ fun j f s x hj hf hx => ?_
            · show off + l.length * sh'.length ≤ arr.size
              obtain ⟨y, h1, _⟩ := getA (l.length - 1) (sh'.length - 1) (by omega) (by omega)
              have := (Array.getElem?_eq_some_iff.1 h1).1
              have e : l.length * sh'.length = (l.length - 1) * sh'.length + sh'.length := by rw [← Nat.succ_mul]; congr 1; omega
              omega
            · obtain ⟨y, h1, h2⟩ := getA j f hj (List.getElem?_eq_some_iff.1 hf).1
              rw [h1] at hx; injection hx with hx; subst hx
              exact h2 s hf
    · rename_i fs hu
      split at h
      case h_2 => cases h
      rename_i sh' hsh
      split at h
      case isFalse => cases h
      rename_i hc
      injection h with h; subst h
      obtain ⟨xs, n, _, _, hl, hlen, hf⟩ := DataW.trod_struct hu ht
      obtain ⟨r, h1, h2⟩ := fields_open (cs := cs) (n := n) ih fs.toList 0 sh' hsh fun f hm => by
        obtain ⟨i, hi, rfl⟩ := List.getElem_of_mem hm
        have hi2 : i < fs.size := by simpa using hi
        have := hf i fs.toList[i] (by simp [hi2])
        rw [List.getElem?_eq_getElem (by omega)] at this
        exact ⟨_, this⟩
      refine ⟨r, h1, fun γ hγ => ?_⟩
      have := h2 γ hγ
      rwa [List.drop_zero, List.take_of_length_le (by omega)] at this
    · rename_i m e hu
      split at h
      case h_2 => cases h
      rename_i sh' hsh
      split at h
      case isFalse => cases h
      rename_i hc
      injection h with h; subst h
      obtain ⟨xs, n, _, _, hl, hlen, hf⟩ := DataW.trod_array hu ht
      obtain ⟨r, h1, h2⟩ := elems_open (cs := cs) (n := n) ih hsh hc.1 m 0 fun i hi => by
        have := hf i hi
        rw [List.getElem?_eq_getElem (by omega)] at this
        rw [Nat.zero_add]
        exact ⟨_, this⟩
      refine ⟨r, h1, fun γ hγ => ?_⟩
      have := h2 γ hγ
      rwa [Nat.zero_mul, List.drop_zero, List.take_of_length_le (by omega)] at this
    · cases h

theorem open_agg {t : TypeId} {fs : Array Field} {v : Value} {d : DataW H} {ps : List MemPlace} {k b0 : Nat} {rc : Reach} {sh : List Sh} (hu : P.underlying t = some (.struct fs)) (hs : shB P k t = some sh) (hv : Value.okWide P W rc b0 t v) (h : DataW.Trod enc P W base sp hd t v d ps) : ∃ r, RowFit sh r ∧ EC (gAll W) (.agg (recE sh r)) v := by
  obtain ⟨cs, rfl, _⟩ := okWide_struct hu hv
  obtain ⟨fuel, hf⟩ := h
  obtain ⟨r, h1, h2⟩ := open_cells k t sh fuel _ _ hs hf
  have h3 := h2 (gAll W) rfl
  refine ⟨r, h1, ?_⟩
  have := EC.agg (γ := gAll W) (recE sh r) cs.toList h3.1 h3.2
  simpa using this

end Ev
end Go.Proofs.Ytonbfalbfdkieaa
namespace Go.Proofs.Ytonbfalbfdkieaa.Ev
open Go.Proofs
namespace LPts
noncomputable def RUN (s : ES) : ZF := RZ 19 .nil (atS 0 19 4) [] [[(0,none),(1,none),(5,none)]] false s

noncomputable def sS (a b : List (List U)) (i : Int) : NS := ⟨[⟨19, 26, [(0, (EV.lst (SyC.recs [(Sh.int IntKind.i64), (Sh.int IntKind.i64), (Sh.int IntKind.i64)] (a)))), (1, (EV.lst (SyC.recs [(Sh.int IntKind.i64), (Sh.int IntKind.i64), (Sh.int IntKind.i64)] (b)))), (5, iv i)], [.it (.code (nav [1, 1, 0, 1, 0, 0, 0] (bodyOf Try.f19))), .it (.code (nav [1, 1, 0, 1, 0, 0, 1] (bodyOf Try.f19))), .it (.inLoop (nav [1, 1, 0, 1, 0, 0] (bodyOf Try.f19))), .it (.inBlock 0), .it (.code (nav [1, 1, 1] (bodyOf Try.f19)))], [], Option.none⟩], [], 0⟩
theorem in_t (a b : List (List U)) : RUN (st0 19 [pl a, pl b]) = (bc (Int.ofNat (List.length a) != Int.ofNat (List.length b)) (.done (EV.v (Value.bool false)) [] 0) (.at (sS (a) (b) ((0 : Int))))) := by kernel_rfl
theorem step_t (a b : List (List U)) (i : Int) : RUN (stOf (sS a b i)) = (bc (decide (i < Int.ofNat (List.length a))) (bc (bc (bc (bc (bc (decide ((0 : Int) ≤ i)) (Nat.blt (Int.toNat i) (List.length a)) false) true false) (bc (bc (Nat.blt (Int.toNat i) (List.length a)) true false) (bc (bc (bc (decide ((0 : Int) ≤ i)) (Nat.blt (Int.toNat i) (List.length b)) false) true false) (bc (bc (Nat.blt (Int.toNat i) (List.length b)) true false) true false) false) false) false) true false) (bc (bnot (bc (U.int (List.getD (List.getD a (Int.toNat i) []) (0 : Nat) (U.i (0 : Int))) == U.int (List.getD (List.getD b (Int.toNat i) []) (0 : Nat) (U.i (0 : Int)))) (bc (U.int (List.getD (List.getD a (Int.toNat i) []) (Nat.succ (0 : Nat)) (U.i (0 : Int))) == U.int (List.getD (List.getD b (Int.toNat i) []) (Nat.succ (0 : Nat)) (U.i (0 : Int)))) (bc (U.int (List.getD (List.getD a (Int.toNat i) []) (Nat.succ (Nat.succ (0 : Nat))) (U.i (0 : Int))) == U.int (List.getD (List.getD b (Int.toNat i) []) (Nat.succ (Nat.succ (0 : Nat))) (U.i (0 : Int)))) true false) false) false)) (.done (EV.v (Value.bool false)) [] 0) (.at (sS (a) (b) (IntKind.wrap IntKind.i64 (i + (1 : Int)))))) .bad) (.done (EV.v (Value.bool true)) [] 0)) := by kernel_rfl
theorem loop {a : List (List U)} (hl : a.length ≤ 100000) : ∀ (k i : Nat), i + k = a.length → EndZ 19 .nil false (stOf (sS a a i)) (bv true) [] 0
  | 0, i, h => by
    have hs := step_t a a i
    simp (disch := omega) only [Nat.add_eq, eqSy_self, eqN_self, bc_same, List.length_cons, ofn, wrap_in, dt, df, bltD, bltN, ble_of, bleN, beqD, bc_t, bc_f, nn_ok, Nat.zero_add, to_nat, Int.zero_add, Int.sub_zero, Int.sub_self, Int.cast_ofNat_Int, Int.natCast_zero, Int.toNat_zero, List.take_zero, List.nil_append, List.length_append, List.length_nil] at hs
    exact .done hs
  | k + 1, i, h => by
    have hs := step_t a a i
    simp (disch := omega) only [Nat.add_eq, eqSy_self, eqN_self, bc_same, List.length_cons, ofn, wrap_in, dt, df, bltD, bltN, ble_of, bleN, beqD, bc_t, bc_f, nn_ok, Nat.zero_add, to_nat, Int.zero_add, Int.sub_zero, Int.sub_self, Int.cast_ofNat_Int, Int.natCast_zero, Int.toNat_zero, List.take_zero, List.nil_append, List.length_append, List.length_nil, bne_self_eq_false, beq_self_eq_true] at hs
    exact .at (.nil _) hs (loop hl k (i + 1) (by omega))
end LPts
noncomputable def spPts : ZCT := fun ax => match ax with
  | [.lst (.recs [.int .i64, .int .i64, .int .i64] a), .lst (.recs [.int .i64, .int .i64, .int .i64] b)] => some ⟨decide (eqR a b ∧ a.length ≤ 100000), bv true, [], 0⟩
  | _ => none
theorem spPts_ok : ZCtOk Try.prog 19 spPts := fun γ w us ax r hs hc hax hN hfz => by
  unfold spPts at hs
  split at hs
  case h_2 => cases hs
  rename_i a b
  obtain ⟨rfl⟩ := Option.some.inj hs
  have hc_0 : decide (eqR a b ∧ a.length ≤ 100000) = true := hc
  have hc := of_decide_eq_true hc_0
  exact EndZ.calls (by
    obtain ⟨e0, hl⟩ := hc
    have e0 : a = b := e0
    subst e0
    have h := LPts.in_t a a
    have e : (Int.ofNat a.length != Int.ofNat a.length) = false := by simp
    rw [e, bc_f] at h
    exact .at (.nil _) h (LPts.loop hl a.length 0 (by omega))) (.nil _) (by kernel_rfl) hax hN hfz
namespace LFar
noncomputable def RUN (s : ES) : ZF := RZ 15 .nil (fun _ => false) [] [] false s
theorem in_t (n k : Int) (X P : List (List U)) : RUN (st0 15 [clE n X P, iv k]) = (bc (decide (k < Int.ofNat (List.length X))) (bc (decide (Int.ofNat (List.length X) ≤ (20000 : Int))) (.done (EV.v (Value.bool true)) [] 0) (bc (decide ((20100 : Int) < Int.ofNat (List.length X))) (.done (EV.v (Value.bool true)) [] 0) (bc (decide ((60 : Int) < n)) (.done (EV.v (Value.bool true)) [] 0) (bc (decide (k < Int.ofNat (List.length P))) (bc (decide (Int.ofNat (List.length P) ≤ (6400 : Int))) (.done (EV.v (Value.bool true)) [] 0) (.done (EV.v (Value.bool (decide ((6500 : Int) < Int.ofNat (List.length P))))) [] 0)) (.done (EV.v (Value.bool (decide ((6500 : Int) < Int.ofNat (List.length P))))) [] 0))))) (bc (decide ((20100 : Int) < Int.ofNat (List.length X))) (.done (EV.v (Value.bool true)) [] 0) (bc (decide ((60 : Int) < n)) (.done (EV.v (Value.bool true)) [] 0) (bc (decide (k < Int.ofNat (List.length P))) (bc (decide (Int.ofNat (List.length P) ≤ (6400 : Int))) (.done (EV.v (Value.bool true)) [] 0) (.done (EV.v (Value.bool (decide ((6500 : Int) < Int.ofNat (List.length P))))) [] 0)) (.done (EV.v (Value.bool (decide ((6500 : Int) < Int.ofNat (List.length P))))) [] 0))))) := by kernel_rfl
end LFar

noncomputable def farB (n k : Int) (X P : List (List U)) : Bool := bc (decide (k < (X.length : Int) ∧ (X.length : Int) ≤ 20000)) true (bc (decide (20100 < (X.length : Int))) true (bc (decide (60 < n)) true (bc (decide (k < (P.length : Int) ∧ (P.length : Int) ≤ 6400)) true (decide (6500 < (P.length : Int))))))
theorem LFar.ends (n k : Int) (X P : List (List U)) : EndZ 15 .nil false (st0 15 [clE n X P, iv k]) (bv (farB n k X P)) [] 0 := by
  have h := LFar.in_t n k X P
  unfold farB
  simp only [ofn] at h
  have h3 : ∀ {R : ZF}, R = bc (decide (k < (P.length : Int))) (bc (decide ((P.length : Int) ≤ 6400)) (.done (bv true) [] 0) (.done (bv (decide (6500 < (P.length : Int)))) [] 0)) (.done (bv (decide (6500 < (P.length : Int)))) [] 0) → R = .done (bv (bc (decide (k < (P.length : Int) ∧ (P.length : Int) ≤ 6400)) true (decide (6500 < (P.length : Int))))) [] 0 := by
    intro R e
    rw [e]
    by_cases h1 : k < (P.length : Int)
    · by_cases h2 : (P.length : Int) ≤ 6400
      · rw [dt h1, dt h2, dt (show k < (P.length : Int) ∧ (P.length : Int) ≤ 6400 from ⟨h1, h2⟩)]; rfl
      · rw [dt h1, df h2, df (show ¬ (k < (P.length : Int) ∧ (P.length : Int) ≤ 6400) from fun h => h2 h.2)]; rfl
    · rw [df h1, df (show ¬ (k < (P.length : Int) ∧ (P.length : Int) ≤ 6400) from fun h => h1 h.1)]; rfl
  have h4 : ∀ {R : ZF}, R = bc (decide (20100 < (X.length : Int))) (.done (bv true) [] 0) (bc (decide (60 < n)) (.done (bv true) [] 0) (bc (decide (k < (P.length : Int))) (bc (decide ((P.length : Int) ≤ 6400)) (.done (bv true) [] 0) (.done (bv (decide (6500 < (P.length : Int)))) [] 0)) (.done (bv (decide (6500 < (P.length : Int)))) [] 0))) → R = .done (bv (bc (decide (20100 < (X.length : Int))) true (bc (decide (60 < n)) true (bc (decide (k < (P.length : Int) ∧ (P.length : Int) ≤ 6400)) true (decide (6500 < (P.length : Int))))))) [] 0 := by
    intro R e
    rw [e]
    cases decide (20100 < (X.length : Int))
    · rw [bc_f, bc_f]
      cases decide (60 < n)
      · rw [bc_f, bc_f]; exact h3 rfl
      · rfl
    · rfl
  by_cases h1 : k < (X.length : Int)
  · by_cases h2 : (X.length : Int) ≤ 20000
    · rw [dt h1, dt h2, bc_t, bc_t] at h
      rw [dt (show k < (X.length : Int) ∧ (X.length : Int) ≤ 20000 from ⟨h1, h2⟩), bc_t]
      exact .done h
    · rw [dt h1, df h2, bc_t, bc_f] at h
      rw [df (show ¬ (k < (X.length : Int) ∧ (X.length : Int) ≤ 20000) from fun h => h2 h.2), bc_f]
      exact .done (h4 h)
  · rw [df h1, bc_f] at h
    rw [df (show ¬ (k < (X.length : Int) ∧ (X.length : Int) ≤ 20000) from fun h => h1 h.1), bc_f]
    exact .done (h4 h)
noncomputable def spFar : ZCT := fun ax => match ax with
  | [.agg [.v (.int .i64 n), .lst (.recs [.int .i64, .int .i64, .int .i64, .int .i64] X), .lst (.recs [.int .i64, .int .i64, .int .i64, .int .i64] P)], .v (.int .i64 k)] => some ⟨decide (True), bv (farB n k X P), [], 0⟩
  | _ => none
theorem spFar_ok : ZCtOk Try.prog 15 spFar := fun γ w us ax r hs hc hax hN hfz => by
  unfold spFar at hs
  split at hs
  case h_2 => cases hs
  rename_i n X P k
  obtain ⟨rfl⟩ := Option.some.inj hs
  have hc_0 : decide (True) = true := hc
  have hc := of_decide_eq_true hc_0
  exact EndZ.calls (LFar.ends n k X P) (.nil _) (by kernel_rfl) hax hN hfz
noncomputable def ctCF : Tr ZCC := ((((Tr.nil.put 17 (some (dC spPFir))).put 18 (some (dC spRFir))).put 19 (some (dC spPts))).put 15 (some (dC spFar))).put 16 (some (dC spTrue))
theorem ctCF_ok : ZCtsOk Try.prog ctCF := (((((ZCtsOk.nil _).add rfl spPFir_ok).add rfl spRFir_ok).add rfl spPts_ok).add rfl spFar_ok).add rfl spShown_ok
namespace ACmF
noncomputable def RUN (s : ES) : ZF := RZ 3 ctCF (fun _ => false) [] [] false s
theorem in_t (n m : Int) (X P Y Q : List (List U)) : RUN (st0 3 [clE n X P, clE m Y Q]) = (bc (farB n (200 : Int) X P) (.done (EV.v (Value.bool true)) [] 0) (bc (farB m (200 : Int) Y Q) (.done (EV.v (Value.bool true)) [] 0) (bc (bc (decide (eqR (fiL n m X P Y Q) (fiL n m X P Y Q) ∧ List.length (fiL n m X P Y Q) ≤ (100000 : Nat))) true false) (bc (fiE n m X P Y Q == fiE n m X P Y Q) (.done (EV.v (Value.bool true)) [] 0) (.done (EV.v (Value.bool false)) [] 0)) .bad))) := by kernel_rfl
theorem ne0 {a : Int} (h : (a != 0) = false) : a = 0 := by simpa using h
theorem fiL_len (n m : Int) (X P Y Q : List (List U)) : (fiL n m X P Y Q).length ≤ 100000 := by
  unfold fiL
  cases h : fiE n m X P Y Q != 0
  · rw [bc_f]
    have h1 := ne0 h
    unfold fiE at h1
    cases h2 : chk17 n X P != 0 <;> rw [h2] at h1
    · have := chk17_ok (ne0 h2)
      have := fiF_len X Y n.toNat 0
      omega
    · rw [bc_t] at h1
      rw [h1] at h2; cases h2
  · exact Nat.zero_le _
theorem ends (n m : Int) (X P Y Q : List (List U)) : EndZ 3 ctCF false (st0 3 [clE n X P, clE m Y Q]) (bv true) [] 0 := by
  have h := in_t n m X P Y Q
  have e2 : (fiE n m X P Y Q == fiE n m X P Y Q) = true := by simp
  have e3 : eqR (fiL n m X P Y Q) (fiL n m X P Y Q) ∧ (fiL n m X P Y Q).length ≤ 100000 := ⟨rfl, fiL_len n m X P Y Q⟩
  rw [e2, dt e3] at h
  cases h1 : farB n 200 X P <;> rw [h1] at h
  · cases h2 : farB m 200 Y Q <;> rw [h2] at h
    · exact .done h
    · exact .done h
  · exact .done h
end ACmF
theorem compareFirst_calls {γ : G} {w : World} {us : Array Value} (ra : List U) (wa : RowFit [.int .i64, .list shX, .list shX] ra) (rb : List U) (wb : RowFit [.int .i64, .list shX, .list shX] rb)
    (hax : ECL γ [.agg (recE [.int .i64, .list shX, .list shX] ra), .agg (recE [.int .i64, .list shX, .list shX] rb)] us.toList) (hN : ∀ i, γ i = none) (hfz : FzAt γ w) : Calls Try.prog 3 us w fun e w' => e = .returned (.bool true) ∧ Stays w w' := by
  have hla := wa.len
  have hlb := wb.len
  match ra, hla, rb, hlb with
  | [x1, x2, x3], _, [y1, y2, y3], _ =>
    exact law_of ((ACmF.ends _ _ _ _ _ _).calls ctCF_ok (by kernel_rfl) hax hN hfz)
end Go.Proofs.Ytonbfalbfdkieaa.Ev
namespace Go.Proofs.Ytonbfalbfdkieaa
open Go.ChangeShapes Go.WideShapes Go.ChangeAt Go.RowKit Go.ChangeMaps
theorem knobCompareFirst : ownKnob Try.prog.godebug = none := by kernel_rfl
theorem kidsCompareFirst : Kids Try.prog (· < Try.prog.types.size) := kids_rows (by kernel_rfl) (by kernel_rfl)
theorem fullCompareFirst : ∀ t e, t < Try.prog.types.size → Try.prog.underlying t = some (.slice e) → 0 < Try.prog.cellsOf e := slices_full_of Try.prog (by kernel_rfl)
set_option maxRecDepth 100000 in
theorem liftedCompareFirst (os : Os) (started : os.Started) (H : Type) (enc : TypeId × Value → H) :
    ReturnsInHanded {} Try.checked os 3 .any (Rows.compareFirstSpec.pre6 enc Try.prog Try.f3 Rows.compareFirstRow.domain false) (Rows.compareFirstSpec.post enc Try.prog Try.f3 false true false false) := by
  refine returnsInHanded_of_change (C := Try.checked) knobCompareFirst started (by kernel_rfl) Try.func3
    (ChangeSpec.witness6 (enc := enc) (C := Try.checked) false ⟨#[], #[.agg #[.int .i64 0, .slice none 0 0, .slice none 0 0], .agg #[.int .i64 0, .slice none 0 0, .slice none 0 0]], []⟩ 8 (by kernel_rfl) (by kernel_rfl) (by kernel_rfl) (by kernel_rfl)) ?_
  intro W base args ds gs before hval0 hW hcnd _
  have hval : ∀ (j : Nat) t v, Try.f3.params[j]? = some t → args[j]? = some v → Value.okWide Try.prog W .any base t v := hval0
  have hW' := hW
  obtain ⟨p, q, hA0, hV, rfl, hfz, hnd⟩ := hW
  have hA : DataW.TrodAll enc Try.prog W 0 (fun _ => true) true Try.f3.params.toList args.toList ds p := hA0
  have hAk := hA
  rw [Try.params3] at hA hval
  obtain ⟨rfl, rfl⟩ := trodVars_none hV
  obtain ⟨v0, v1, d0, d1, p0, p1, rfl, rfl, rfl, h0, h1⟩ := trodAll_two hA
  obtain ⟨ra, wra, era⟩ := Ev.open_agg (k := 8) Try.underlying25 (by kernel_rfl : Ev.shB Try.prog 8 25 = some [.int .i64, .list [.int .i64, .int .i64, .int .i64, .int .i64], .list [.int .i64, .int .i64, .int .i64, .int .i64]]) (hval 0 25 v0 rfl rfl) h0
  obtain ⟨rb, wrb, erb⟩ := Ev.open_agg (k := 8) Try.underlying25 (by kernel_rfl : Ev.shB Try.prog 8 25 = some [.int .i64, .list [.int .i64, .int .i64, .int .i64, .int .i64], .list [.int .i64, .int .i64, .int .i64, .int .i64]]) (hval 1 25 v1 rfl rfl) h1
  clear hA0 hval0
  refine (Ev.compareFirst_calls ra wra rb wrb (γ := Ev.gAll W) (.cons era (.cons erb (.nil _))) (fun i => rfl) (Ev.fzAll_at W)).mono fun e W' ⟨he, hg⟩ => ?_
  subst he
  exact ⟨_, rfl, post_law kidsCompareFirst fullCompareFirst Try.underlying4 (by kernel_rfl) (by kernel_rfl) rfl rfl (by rw [Try.params3]; decide) hW' hAk hg (ok_one (by kernel_rfl) rfl (okWide_bool_mk Try.underlying4 _))⟩
theorem compareFirst_holds : Rows.CompareFirstSaid :=
  OpenClaim.holds_of_wide 3 Try.f3 rfl rfl rfl rfl rfl rfl rfl ⟨rfl, rfl, rfl, rfl, rfl⟩ rfl rfl rfl rfl rfl (by kernel_rfl) Try.func3 (by kernel_rfl)
    (of_decide_eq_true (by kernel_rfl)) (by unfold Func.isWrapper; first | (rw [if_pos (by decide +kernel)]; kernel_rfl) | (rw [if_neg (by decide +kernel)]; exact ⟨rfl, rfl⟩))
    (fun os started H enc _ => liftedCompareFirst os started H enc)
end Go.Proofs.Ytonbfalbfdkieaa
