/- CompareHistories returns true, for all arguments, in every world in which it is called, and nothing that was there turns. -/
import Derived.ProofKit
import Derived.ReadAgain
import Derived.OpenShut
import Derived.Test.YtonbfalbfdkieaaRows
import Derived.WalkKit
import Derived.Test.YtonbfalbfdkieaaCH5
set_option linter.unusedSimpArgs false
set_option linter.unusedVariables false
namespace Go.Proofs.Ytonbfalbfdkieaa.Ev
open Go.Proofs
noncomputable abbrev shM2 : List Sh := [.int .i64, .bool]
noncomputable abbrev ml (l : List (List U)) : EV := .lst (.recs shM2 l)
noncomputable abbrev pl (l : List (List U)) : EV := .lst (.recs [.int .i64, .int .i64, .int .i64] l)
namespace RHis
noncomputable def RUN (s : ES) : ZF := RZ 85 .nil (atS 0 85 3) [] [[(1,none),(2,none),(5,some (2, 97, .recs shM2 [])),(6,none)]] false s

noncomputable def sH (n t : Int) (X P q : List (List U)) (nn : Bool) (i : Int) : NS := ⟨[⟨85, 51, [(1, (EV.v (Value.int IntKind.i64 (t)))), (2, (EV.ptr 0 0)), (5, EV.slO 1 2 q.length nn), (6, iv i)], [.it (.code (nav [1, 1, 0, 1, 0, 0, 0] (bodyOf Try.f85))), .it (.code (nav [1, 1, 0, 1, 0, 0, 1] (bodyOf Try.f85))), .it (.inLoop (nav [1, 1, 0, 1, 0, 0] (bodyOf Try.f85))), .it (.inBlock 0), .it (.code (nav [1, 1, 1] (bodyOf Try.f85)))], [], Option.none⟩], [(0, (EK.cells 25 [(EV.v (Value.int IntKind.i64 (n))), (EV.lst (SyC.recs [(Sh.int IntKind.i64), (Sh.int IntKind.i64), (Sh.int IntKind.i64), (Sh.int IntKind.i64)] (X))), (EV.lst (SyC.recs [(Sh.int IntKind.i64), (Sh.int IntKind.i64), (Sh.int IntKind.i64), (Sh.int IntKind.i64)] (P)))] true)), (1, EK.seq 97 (.recs shM2 q) nn)], 2⟩
theorem in_t (n t : Int) (X P : List (List U)) : RUN (st0 85 [clE n X P, iv t]) = (.at (sH (n) (t) (X) (P) ([]) (false) ((0 : Int)))) := by kernel_rfl
theorem step_t (n t : Int) (X P q : List (List U)) (nn : Bool) (i : Int) : RUN (stOf (sH n t X P q nn i)) = (bc (decide (i < Int.ofNat (List.length X))) (bc (bc (bc (decide ((0 : Int) ≤ i)) (Nat.blt (Int.toNat i) (List.length X)) false) true false) (bc (bc (Nat.blt (Int.toNat i) (List.length X)) true false) (bc (U.int (List.getD (List.getD X (Int.toNat i) []) (Nat.add (0 : Nat) (2 : Nat)) (U.i (0 : Int))) == t) (bc (bc (bc (decide ((0 : Int) ≤ i)) (Nat.blt (Int.toNat i) (List.length X)) false) true false) (bc (bc (Nat.blt (Int.toNat i) (List.length X)) true false) (bc (bc (Nat.beq (List.length q) (List.length q)) (bc (Nat.ble (List.length q + List.length [[U.i (U.int (List.getD (List.getD X (Int.toNat i) []) (Nat.add (0 : Nat) (3 : Nat)) (U.i (0 : Int)))), U.b true]]) (65536 : Nat)) (bc nn true (bc nn false true)) false) false) (bc (bc (bc (decide ((0 : Int) ≤ i)) (Nat.blt (Int.toNat i) (List.length X)) false) true false) (bc (bc (Nat.blt (Int.toNat i) (List.length X)) true false) (bc (U.int (List.getD (List.getD X (Int.toNat i) []) (Nat.add (0 : Nat) (3 : Nat)) (U.i (0 : Int))) == t) (bc (bc (bc (decide ((0 : Int) ≤ i)) (Nat.blt (Int.toNat i) (List.length X)) false) true false) (bc (bc (Nat.blt (Int.toNat i) (List.length X)) true false) (bc (bc (Nat.beq (List.length (q ++ [[U.i (U.int (List.getD (List.getD X (Int.toNat i) []) (Nat.add (0 : Nat) (3 : Nat)) (U.i (0 : Int)))), U.b true]])) (List.length (q ++ [[U.i (U.int (List.getD (List.getD X (Int.toNat i) []) (Nat.add (0 : Nat) (3 : Nat)) (U.i (0 : Int)))), U.b true]]))) (bc (Nat.ble (List.length (q ++ [[U.i (U.int (List.getD (List.getD X (Int.toNat i) []) (Nat.add (0 : Nat) (3 : Nat)) (U.i (0 : Int)))), U.b true]]) + List.length [[U.i (U.int (List.getD (List.getD X (Int.toNat i) []) (Nat.add (0 : Nat) (2 : Nat)) (U.i (0 : Int)))), U.b false]]) (65536 : Nat)) (bc (bc nn true (Nat.blt (0 : Nat) (List.length [[U.i (U.int (List.getD (List.getD X (Int.toNat i) []) (Nat.add (0 : Nat) (3 : Nat)) (U.i (0 : Int)))), U.b true]]))) true (bc (bc nn true (Nat.blt (0 : Nat) (List.length [[U.i (U.int (List.getD (List.getD X (Int.toNat i) []) (Nat.add (0 : Nat) (3 : Nat)) (U.i (0 : Int)))), U.b true]]))) false true)) false) false) (.at (sH (n) (t) (X) (P) (q ++ [[U.i (U.int (List.getD (List.getD X (Int.toNat i) []) (Nat.add (0 : Nat) (3 : Nat)) (U.i (0 : Int)))), U.b true]] ++ [[U.i (U.int (List.getD (List.getD X (Int.toNat i) []) (Nat.add (0 : Nat) (2 : Nat)) (U.i (0 : Int)))), U.b false]]) (bc (bc nn true (Nat.blt (0 : Nat) (List.length [[U.i (U.int (List.getD (List.getD X (Int.toNat i) []) (Nat.add (0 : Nat) (3 : Nat)) (U.i (0 : Int)))), U.b true]]))) true (Nat.blt (0 : Nat) (List.length [[U.i (U.int (List.getD (List.getD X (Int.toNat i) []) (Nat.add (0 : Nat) (2 : Nat)) (U.i (0 : Int)))), U.b false]]))) (IntKind.wrap IntKind.i64 (i + (1 : Int))))) .bad) .bad) .bad) (.at (sH (n) (t) (X) (P) (q ++ [[U.i (U.int (List.getD (List.getD X (Int.toNat i) []) (Nat.add (0 : Nat) (3 : Nat)) (U.i (0 : Int)))), U.b true]]) (bc nn true (Nat.blt (0 : Nat) (List.length [[U.i (U.int (List.getD (List.getD X (Int.toNat i) []) (Nat.add (0 : Nat) (3 : Nat)) (U.i (0 : Int)))), U.b true]]))) (IntKind.wrap IntKind.i64 (i + (1 : Int)))))) .bad) .bad) .bad) .bad) .bad) (bc (bc (bc (decide ((0 : Int) ≤ i)) (Nat.blt (Int.toNat i) (List.length X)) false) true false) (bc (bc (Nat.blt (Int.toNat i) (List.length X)) true false) (bc (U.int (List.getD (List.getD X (Int.toNat i) []) (Nat.add (0 : Nat) (3 : Nat)) (U.i (0 : Int))) == t) (bc (bc (bc (decide ((0 : Int) ≤ i)) (Nat.blt (Int.toNat i) (List.length X)) false) true false) (bc (bc (Nat.blt (Int.toNat i) (List.length X)) true false) (bc (bc (Nat.beq (List.length q) (List.length q)) (bc (Nat.ble (List.length q + List.length [[U.i (U.int (List.getD (List.getD X (Int.toNat i) []) (Nat.add (0 : Nat) (2 : Nat)) (U.i (0 : Int)))), U.b false]]) (65536 : Nat)) (bc nn true (bc nn false true)) false) false) (.at (sH (n) (t) (X) (P) (q ++ [[U.i (U.int (List.getD (List.getD X (Int.toNat i) []) (Nat.add (0 : Nat) (2 : Nat)) (U.i (0 : Int)))), U.b false]]) (bc nn true (Nat.blt (0 : Nat) (List.length [[U.i (U.int (List.getD (List.getD X (Int.toNat i) []) (Nat.add (0 : Nat) (2 : Nat)) (U.i (0 : Int)))), U.b false]]))) (IntKind.wrap IntKind.i64 (i + (1 : Int))))) .bad) .bad) .bad) (.at (sH (n) (t) (X) (P) (q) (nn) (IntKind.wrap IntKind.i64 (i + (1 : Int)))))) .bad) .bad)) .bad) .bad) (bc (Nat.beq (List.length q) (List.length q)) (.done (EV.lst (SyC.recs [(Sh.int IntKind.i64), Sh.bool] (q))) [] 0) .bad)) := by kernel_rfl
theorem step {n t : Int} {X P q : List (List U)} {nn : Bool} {i : Nat} (hi : i < X.length) (hX : X.length ≤ 20000) (hq : q.length ≤ 2 * i) : ∃ nn', RUN (stOf (sH n t X P q nn i)) = .at (sH n t X P (q ++ ((bc (decide (xO X[i] = t)) [mO X[i]] []) ++ (bc (decide (xU X[i] = t)) [mU X[i]] []))) nn' (i + 1 : Nat)) := by
  have e : X.getD i [] = X[i] := getD_at hi
  have e3 : U.int (List.getD X[i] (Nat.add 0 2) (U.i 0)) = xO X[i] := rfl
  have e4 : U.int (List.getD X[i] (Nat.add 0 3) (U.i 0)) = xU X[i] := rfl
  by_cases h1 : xO X[i] = t
  · have b1 : (xO X[i] == t) = true := by simp [h1]
    by_cases h2 : xU X[i] = t
    · have b2 : (xU X[i] == t) = true := by simp [h2]
      refine ⟨true, ?_⟩
      rw [step_t, to_nat, e, e3, e4, b1, b2]
      simp (disch := omega) only [Nat.add_eq, eqSy_self, eqN_self, bc_same, List.length_cons, ofn, wrap_in, dt, df, bltD, bltN, ble_of, bleN, beqD, bc_t, bc_f, nn_ok, Nat.zero_add, to_nat, Int.zero_add, Int.sub_zero, Int.sub_self, Int.cast_ofNat_Int, Int.natCast_zero, Int.toNat_zero, List.take_zero, List.nil_append, List.length_append, List.length_nil, ← List.append_assoc]
      rfl
    · have b2 : (xU X[i] == t) = false := by simp [h2]
      refine ⟨true, ?_⟩
      rw [step_t, to_nat, e, e3, e4, b1, b2]
      simp (disch := omega) only [Nat.add_eq, eqSy_self, eqN_self, bc_same, List.length_cons, ofn, wrap_in, dt, df, bltD, bltN, ble_of, bleN, beqD, bc_t, bc_f, nn_ok, Nat.zero_add, to_nat, Int.zero_add, Int.sub_zero, Int.sub_self, Int.cast_ofNat_Int, Int.natCast_zero, Int.toNat_zero, List.take_zero, List.nil_append, List.length_append, List.length_nil, List.append_nil]
      rfl
  · have b1 : (xO X[i] == t) = false := by simp [h1]
    by_cases h2 : xU X[i] = t
    · have b2 : (xU X[i] == t) = true := by simp [h2]
      refine ⟨true, ?_⟩
      rw [step_t, to_nat, e, e3, e4, b1, b2]
      simp (disch := omega) only [Nat.add_eq, eqSy_self, eqN_self, bc_same, List.length_cons, ofn, wrap_in, dt, df, bltD, bltN, ble_of, bleN, beqD, bc_t, bc_f, nn_ok, Nat.zero_add, to_nat, Int.zero_add, Int.sub_zero, Int.sub_self, Int.cast_ofNat_Int, Int.natCast_zero, Int.toNat_zero, List.take_zero, List.nil_append, List.length_append, List.length_nil]
      rfl
    · have b2 : (xU X[i] == t) = false := by simp [h2]
      refine ⟨nn, ?_⟩
      rw [step_t, to_nat, e, e3, e4, b1, b2]
      simp (disch := omega) only [Nat.add_eq, eqSy_self, eqN_self, bc_same, List.length_cons, ofn, wrap_in, dt, df, bltD, bltN, ble_of, bleN, beqD, bc_t, bc_f, nn_ok, Nat.zero_add, to_nat, Int.zero_add, Int.sub_zero, Int.sub_self, Int.cast_ofNat_Int, Int.natCast_zero, Int.toNat_zero, List.take_zero, List.nil_append, List.length_append, List.length_nil, List.append_nil]
      rfl
theorem last {n t : Int} {X P q : List (List U)} {nn : Bool} {i : Nat} (hi : X.length ≤ i) : RUN (stOf (sH n t X P q nn i)) = .done (ml q) [] 0 := by
  rw [step_t]
  simp (disch := omega) only [Nat.add_eq, eqSy_self, eqN_self, bc_same, List.length_cons, ofn, wrap_in, dt, df, bltD, bltN, ble_of, bleN, beqD, bc_t, bc_f, nn_ok, Nat.zero_add, to_nat, Int.zero_add, Int.sub_zero, Int.sub_self, Int.cast_ofNat_Int, Int.natCast_zero, Int.toNat_zero, List.take_zero, List.nil_append, List.length_append, List.length_nil]
theorem loop {n t : Int} {X P : List (List U)} (hX : X.length ≤ 20000) : ∀ (k i : Nat) (q : List (List U)) (nn : Bool), i + k = X.length → q.length ≤ 2 * i → EndZ 85 .nil false (stOf (sH n t X P q nn i)) (ml (q ++ hiF t (X.drop i))) [] 0
  | 0, i, q, nn, h, hq => by
    rw [List.drop_eq_nil_of_le (by omega)]
    show EndZ _ _ _ _ (ml (q ++ [])) _ _
    rw [List.append_nil]
    exact .done (last (by omega))
  | k + 1, i, q, nn, h, hq => by
    have hi : i < X.length := by omega
    obtain ⟨nn', h1⟩ := step (n := n) (t := t) (P := P) (nn := nn) hi hX hq
    rw [List.drop_eq_getElem_cons hi]
    unfold hiF
    have h2 := loop (n := n) (t := t) (P := P) hX k (i + 1) _ nn' (by omega) (show (q ++ ((bc (decide (xO X[i] = t)) [mO X[i]] []) ++ (bc (decide (xU X[i] = t)) [mU X[i]] []))).length ≤ 2 * (i + 1) by
      rw [List.length_append, List.length_append]
      cases decide (xO X[i] = t) <;> cases decide (xU X[i] = t) <;> simp [bc] <;> omega)
    rw [List.append_assoc] at h2
    exact .at (.nil _) h1 h2
end RHis
noncomputable def spRHis : ZCT := fun ax => match ax with
  | [.agg [.v (.int .i64 n), .lst (.recs [.int .i64, .int .i64, .int .i64, .int .i64] X), .lst (.recs [.int .i64, .int .i64, .int .i64, .int .i64] P)], .v (.int .i64 t)] => some ⟨decide (X.length ≤ 20000), ml (hiF t X), [], 0⟩
  | _ => none
theorem spRHis_ok : ZCtOk Try.prog 85 spRHis := fun γ w us ax r hs hc hax hN hfz => by
  unfold spRHis at hs
  split at hs
  case h_2 => cases hs
  rename_i n X P t
  obtain ⟨rfl⟩ := Option.some.inj hs
  have hc_0 : decide (X.length ≤ 20000) = true := hc
  have hc := of_decide_eq_true hc_0
  exact EndZ.calls (.at (.nil _) (RHis.in_t n t X P) (RHis.loop hc X.length 0 [] false (by omega) (Nat.le_refl _))) (.nil _) (by kernel_rfl) hax hN hfz
namespace RPar
noncomputable def RUN (s : ES) : ZF := RZ 84 .nil (atS 0 84 2) [] [[(0,none),(1,none),(7,none)]] false s

noncomputable def sP (a b : List (List U)) (i : Int) : NS := ⟨[⟨84, 58, [(0, (EV.lst (SyC.recs [(Sh.int IntKind.i64), Sh.bool] (a)))), (1, (EV.lst (SyC.recs [(Sh.int IntKind.i64), Sh.bool] (b)))), (7, iv i)], [.it (.code (nav [1, 0, 1, 0, 0, 0] (bodyOf Try.f84))), .it (.code (nav [1, 0, 1, 0, 0, 1] (bodyOf Try.f84))), .it (.inLoop (nav [1, 0, 1, 0, 0] (bodyOf Try.f84))), .it (.inBlock 0), .it (.code (nav [1, 1] (bodyOf Try.f84)))], [], Option.none⟩], [], 0⟩
theorem in_t (a b : List (List U)) : RUN (st0 84 [ml a, ml b]) = (.at (sP (a) (b) ((0 : Int)))) := by kernel_rfl
theorem step_t (a b : List (List U)) (i : Int) : RUN (stOf (sP a b i)) = (bc (decide (i < Int.ofNat (List.length a))) (bc (decide (Int.ofNat (List.length b) ≤ i)) (.done (EV.tup [(EV.v (Value.int IntKind.i64 (i))), (EV.v (Value.int IntKind.i64 (3))), (EV.v (Value.bool true))]) [] 0) (bc (decide (Int.ofNat (List.length a) ≤ i)) (.done (EV.tup [(EV.v (Value.int IntKind.i64 (i))), (EV.v (Value.int IntKind.i64 (4))), (EV.v (Value.bool true))]) [] 0) (bc (bc (bc (bc (bc (decide ((0 : Int) ≤ i)) (Nat.blt (Int.toNat i) (List.length a)) false) true false) (bc (bc (Nat.blt (Int.toNat i) (List.length a)) true false) (bc (bc (bc (decide ((0 : Int) ≤ i)) (Nat.blt (Int.toNat i) (List.length b)) false) true false) (bc (bc (Nat.blt (Int.toNat i) (List.length b)) true false) true false) false) false) false) true false) (bc (U.int (List.getD (List.getD a (Int.toNat i) []) (Nat.add (0 : Nat) (0 : Nat)) (U.i (0 : Int))) != U.int (List.getD (List.getD b (Int.toNat i) []) (Nat.add (0 : Nat) (0 : Nat)) (U.i (0 : Int)))) (.done (EV.tup [(EV.v (Value.int IntKind.i64 (i))), (EV.v (Value.int IntKind.i64 (1))), (EV.v (Value.bool true))]) [] 0) (bc (bc (bc (bc (bc (decide ((0 : Int) ≤ i)) (Nat.blt (Int.toNat i) (List.length a)) false) true false) (bc (bc (Nat.blt (Int.toNat i) (List.length a)) true false) (bc (bc (bc (decide ((0 : Int) ≤ i)) (Nat.blt (Int.toNat i) (List.length b)) false) true false) (bc (bc (Nat.blt (Int.toNat i) (List.length b)) true false) true false) false) false) false) true false) (bc (!U.bool (List.getD (List.getD a (Int.toNat i) []) (Nat.add (0 : Nat) (1 : Nat)) (U.i (0 : Int))) == U.bool (List.getD (List.getD b (Int.toNat i) []) (Nat.add (0 : Nat) (1 : Nat)) (U.i (0 : Int)))) (.done (EV.tup [(EV.v (Value.int IntKind.i64 (i))), (EV.v (Value.int IntKind.i64 (2))), (EV.v (Value.bool true))]) [] 0) (.at (sP (a) (b) (IntKind.wrap IntKind.i64 (i + (1 : Int)))))) .bad)) .bad))) (bc (decide (i < Int.ofNat (List.length b))) (bc (decide (Int.ofNat (List.length b) ≤ i)) (.done (EV.tup [(EV.v (Value.int IntKind.i64 (i))), (EV.v (Value.int IntKind.i64 (3))), (EV.v (Value.bool true))]) [] 0) (bc (decide (Int.ofNat (List.length a) ≤ i)) (.done (EV.tup [(EV.v (Value.int IntKind.i64 (i))), (EV.v (Value.int IntKind.i64 (4))), (EV.v (Value.bool true))]) [] 0) (bc (bc (bc (bc (bc (decide ((0 : Int) ≤ i)) (Nat.blt (Int.toNat i) (List.length a)) false) true false) (bc (bc (Nat.blt (Int.toNat i) (List.length a)) true false) (bc (bc (bc (decide ((0 : Int) ≤ i)) (Nat.blt (Int.toNat i) (List.length b)) false) true false) (bc (bc (Nat.blt (Int.toNat i) (List.length b)) true false) true false) false) false) false) true false) (bc (U.int (List.getD (List.getD a (Int.toNat i) []) (Nat.add (0 : Nat) (0 : Nat)) (U.i (0 : Int))) != U.int (List.getD (List.getD b (Int.toNat i) []) (Nat.add (0 : Nat) (0 : Nat)) (U.i (0 : Int)))) (.done (EV.tup [(EV.v (Value.int IntKind.i64 (i))), (EV.v (Value.int IntKind.i64 (1))), (EV.v (Value.bool true))]) [] 0) (bc (bc (bc (bc (bc (decide ((0 : Int) ≤ i)) (Nat.blt (Int.toNat i) (List.length a)) false) true false) (bc (bc (Nat.blt (Int.toNat i) (List.length a)) true false) (bc (bc (bc (decide ((0 : Int) ≤ i)) (Nat.blt (Int.toNat i) (List.length b)) false) true false) (bc (bc (Nat.blt (Int.toNat i) (List.length b)) true false) true false) false) false) false) true false) (bc (!U.bool (List.getD (List.getD a (Int.toNat i) []) (Nat.add (0 : Nat) (1 : Nat)) (U.i (0 : Int))) == U.bool (List.getD (List.getD b (Int.toNat i) []) (Nat.add (0 : Nat) (1 : Nat)) (U.i (0 : Int)))) (.done (EV.tup [(EV.v (Value.int IntKind.i64 (i))), (EV.v (Value.int IntKind.i64 (2))), (EV.v (Value.bool true))]) [] 0) (.at (sP (a) (b) (IntKind.wrap IntKind.i64 (i + (1 : Int)))))) .bad)) .bad))) (.done (EV.tup [(EV.v (Value.int IntKind.i64 (0))), (EV.v (Value.int IntKind.i64 (0))), (EV.v (Value.bool false))]) [] 0))) := by kernel_rfl
noncomputable abbrev re3 (p : Int × Int × Bool) : EV := .tup [iv p.1, iv p.2.1, bv p.2.2]
theorem loop {a b : List (List U)} (ha : a.length ≤ 50000) (hb : b.length ≤ 50000) : ∀ (k i : Nat), i + k = max a.length b.length → EndZ 84 .nil false (stOf (sP a b i)) (re3 (paF i (a.drop i) (b.drop i))) [] 0
  | 0, i, h => by
    rw [List.drop_eq_nil_of_le (by omega), List.drop_eq_nil_of_le (by omega)]
    have h1 := step_t a b i
    simp (disch := omega) only [Nat.add_eq, eqSy_self, eqN_self, bc_same, List.length_cons, ofn, wrap_in, dt, df, bltD, bltN, ble_of, bleN, beqD, bc_t, bc_f, nn_ok, Nat.zero_add, to_nat, Int.zero_add, Int.sub_zero, Int.sub_self, Int.cast_ofNat_Int, Int.natCast_zero, Int.toNat_zero, List.take_zero, List.nil_append, List.length_append, List.length_nil] at h1
    exact .done h1
  | k + 1, i, h => by
    have h1 := step_t a b i
    by_cases h2 : i < a.length
    · by_cases h3 : i < b.length
      · have e1 : a.getD i [] = a[i] := getD_at h2
        have e2 : b.getD i [] = b[i] := getD_at h3
        rw [to_nat, e1, e2] at h1
        have f1 : U.int (List.getD a[i] (Nat.add 0 0) (U.i 0)) = mT a[i] := rfl
        have f2 : U.int (List.getD b[i] (Nat.add 0 0) (U.i 0)) = mT b[i] := rfl
        have f3 : U.bool (List.getD a[i] (Nat.add 0 1) (U.i 0)) = mV a[i] := rfl
        have f4 : U.bool (List.getD b[i] (Nat.add 0 1) (U.i 0)) = mV b[i] := rfl
        rw [f1, f2, f3, f4] at h1
        simp (disch := omega) only [Nat.add_eq, eqSy_self, eqN_self, bc_same, List.length_cons, ofn, wrap_in, dt, df, bltD, bltN, ble_of, bleN, beqD, bc_t, bc_f, nn_ok, Nat.zero_add, to_nat, Int.zero_add, Int.sub_zero, Int.sub_self, Int.cast_ofNat_Int, Int.natCast_zero, Int.toNat_zero, List.take_zero, List.nil_append, List.length_append, List.length_nil] at h1
        rw [List.drop_eq_getElem_cons h2, List.drop_eq_getElem_cons h3]
        unfold paF
        cases g1 : (mT a[i] != mT b[i]) <;> rw [g1] at h1
        · cases g2 : (mV a[i] == mV b[i])
          · have g3 : (mV a[i] != mV b[i]) = true := by unfold bne; rw [g2]; rfl
            rw [g2] at h1
            rw [g3]
            exact .done h1
          · have g3 : (mV a[i] != mV b[i]) = false := by unfold bne; rw [g2]; rfl
            rw [g2] at h1
            rw [g3]
            exact .at (.nil _) h1 (loop ha hb k (i + 1) (by omega))
        · exact .done h1
      · rw [List.drop_eq_getElem_cons h2, List.drop_eq_nil_of_le (show b.length ≤ i by omega)]
        simp (disch := omega) only [Nat.add_eq, eqSy_self, eqN_self, bc_same, List.length_cons, ofn, wrap_in, dt, df, bltD, bltN, ble_of, bleN, beqD, bc_t, bc_f, nn_ok, Nat.zero_add, to_nat, Int.zero_add, Int.sub_zero, Int.sub_self, Int.cast_ofNat_Int, Int.natCast_zero, Int.toNat_zero, List.take_zero, List.nil_append, List.length_append, List.length_nil] at h1
        exact .done h1
    · have h3 : i < b.length := by omega
      rw [List.drop_eq_nil_of_le (show a.length ≤ i by omega), List.drop_eq_getElem_cons h3]
      simp (disch := omega) only [Nat.add_eq, eqSy_self, eqN_self, bc_same, List.length_cons, ofn, wrap_in, dt, df, bltD, bltN, ble_of, bleN, beqD, bc_t, bc_f, nn_ok, Nat.zero_add, to_nat, Int.zero_add, Int.sub_zero, Int.sub_self, Int.cast_ofNat_Int, Int.natCast_zero, Int.toNat_zero, List.take_zero, List.nil_append, List.length_append, List.length_nil] at h1
      exact .done h1
end RPar
noncomputable def spRPar : ZCT := fun ax => match ax with
  | [.lst (.recs [.int .i64, .bool] a), .lst (.recs [.int .i64, .bool] b)] => some ⟨decide (a.length ≤ 50000 ∧ b.length ≤ 50000), RPar.re3 (paF 0 a b), [], 0⟩
  | _ => none
theorem spRPar_ok : ZCtOk Try.prog 84 spRPar := fun γ w us ax r hs hc hax hN hfz => by
  unfold spRPar at hs
  split at hs
  case h_2 => cases hs
  rename_i a b
  obtain ⟨rfl⟩ := Option.some.inj hs
  have hc_0 : decide (a.length ≤ 50000 ∧ b.length ≤ 50000) = true := hc
  have hc := of_decide_eq_true hc_0
  exact EndZ.calls (.at (.nil _) (RPar.in_t a b) (RPar.loop hc.1 hc.2 (max a.length b.length) 0 (by omega))) (.nil _) (by kernel_rfl) hax hN hfz
namespace RFir
end RFir
end Go.Proofs.Ytonbfalbfdkieaa.Ev
namespace Go.Proofs.Ytonbfalbfdkieaa.Ev
open Go.Proofs
namespace PBot
end PBot
noncomputable def ctPF : Tr ZCC := (Tr.nil.put 114 (some (dC spPCk17))).put 82 (some (dC spThr))
theorem ctPF_ok : ZCtsOk Try.prog ctPF := ((ZCtsOk.nil _).add rfl spPCk17_ok).add rfl spThr_ok
namespace PFir
end PFir
end Go.Proofs.Ytonbfalbfdkieaa.Ev
namespace Go.Proofs.Ytonbfalbfdkieaa.Ev
open Go.Proofs
namespace PFir
end PFir
def eqR (a b : List (List U)) : Prop := a = b
noncomputable instance (a b : List (List U)) : Decidable (eqR a b) := Classical.propDecidable _
end Go.Proofs.Ytonbfalbfdkieaa.Ev
namespace Go.Proofs.Ytonbfalbfdkieaa.Ev
open Go.Proofs
theorem shown_run : endsB (exClosed Try.prog ft (drD Try.prog ft 16 4) 16 18) = true := by kernel_rfl
theorem shownC (w : World) : Calls Try.prog 16 #[] w fun e w' => e = .returned (.bool true) ∧ Stays w w' := closedTrue ftOk (drD_ok mix ftOk 16 4) shown_run w
theorem spShown_ok : ZCtOk Try.prog 16 spTrue := spTrue_ok shownC
end Go.Proofs.Ytonbfalbfdkieaa.Ev
namespace Go.Proofs.Ytonbfalbfdkieaa
open Go.ChangeShapes Go.WideShapes Go.ChangeAt Go.RowKit

theorem kept_of_stays {W W' : World} (h : Ev.Stays W W') (may : MemPlace → Prop) : W.keptBut W' may := by
  refine ⟨h.os, h.output, fun i hi => ?_⟩
  have e := h.block i hi
  rw [e]
  cases hb : W.heap[i]? with
  | none => simp
  | some o =>
    cases o <;> first | exact ⟨rfl, rfl, rfl, fun _ _ => rfl⟩ | exact .inr ⟨rfl, rfl⟩ | rfl
theorem frozen_of_stays {W W' : World} (h : Ev.Stays W W') (a : Addr) (ha : a.block < W.heap.size) : W'.frozen? a = W.frozen? a := by
  unfold World.frozen?
  rw [h.block _ ha]
section
variable {H : Type} {enc : TypeId × Value → H} {P : Program}

theorem post_of_stays {f : Func} {s : ChangeSpec} {apart fresh handsOn again : Bool} {W W' : World} {args : Array Value} {v : Value} {ds gs : List (DataW H)} {before pa pv : List MemPlace}
    (hW : DataW.Whole enc P f.params.toList s.vars apart W args.toList ds gs before)
    (hres : ∀ (b : Nat) (sp : Nat → Bool) (hd : Bool), DataW.TrodAll enc P W' b sp hd f.resultTypes.toList (v.resultList f.resultTypes.size) (s.fn H (ds ++ gs)).results [])
    (hargs : ∀ sp : Nat → Bool, (∀ p ∈ before, sp p.block = true) → DataW.TrodAll enc P W' 0 sp true f.params.toList args.toList (s.fn H (ds ++ gs)).args pa)
    (hvars : ∀ sp : Nat → Bool, (∀ p ∈ before, sp p.block = true) → DataW.TrodVars enc P W' sp s.vars (s.fn H (ds ++ gs)).vars pv)
    (hps : before = pa ++ pv) (hst : Ev.Stays W W')
    (hok : ∀ (j : Nat) (t : TypeId) (r : Value), f.resultTypes[j]? = some t → (v.resultList f.resultTypes.size)[j]? = some r → Value.okWide P W' .any 0 t r) :
    s.post enc P f apart fresh handsOn again W args v W' := by
  have hk : W.keptBut W' (· ∈ before) := kept_of_stays hst _
  have hold : ∀ p ∈ before, (fun b => decide (b < W.heap.size)) p.block = true := fun p hp => by simpa using hW.lt p hp
  have hlt := fun p hp => hW.lt p hp
  refine ⟨ds, gs, before, [], pa, pv, hW, hres _ _ _, hargs _ hold, hvars _ hold, World.keptBut_mono (fun p hp => ⟨hp, ?_⟩) hk, fun _ => ?_⟩
  · rw [hps, List.mem_append] at hp
    exact Or.inr hp
  · obtain ⟨_, _, _, _, _, hz, hn⟩ := hW
    refine ⟨hok, _, _, ([] ++ pa) ++ pv, ⟨[] ++ pa, pv, trodAll_append (hargs _ (fun _ _ => rfl)) (hres _ _ _), hvars _ (fun _ _ => rfl), rfl, ?_, ?_⟩, ?_⟩
    · intro b off hp
      have hp2 : MemPlace.cell b off ∈ before := by rw [hps]; simpa using hp
      rw [frozen_of_stays hst _ (hlt _ hp2)]
      exact hz b off hp2
    · intro ha
      have := hn ha
      rw [hps] at this
      simpa using this
    · intro p hp _
      rw [hps]
      simpa using hp
end
end Go.Proofs.Ytonbfalbfdkieaa
namespace Go.Proofs.Ytonbfalbfdkieaa
open Go.ChangeShapes Go.WideShapes Go.ChangeAt Go.RowKit
section
variable {H : Type} {enc : TypeId × Value → H} {P : Program}
theorem same_of_stays {W W' : World} (h : Ev.Stays W W') {p : MemPlace} (hp : p.block < W.heap.size) : W.sameAt W' p := by
  cases p with
  | cell b off =>
    show W'.cell? _ = W.cell? _
    unfold World.cell?
    rw [h.block b hp]
  | map b => exact h.block b hp
theorem args_carry {W W' : World} {base : Nat} {sp : Nat → Bool} {hd : Bool} : ∀ {ts : List TypeId} {vs : List Value} {ds : List (DataW H)} {ps : List MemPlace}, DataW.TrodAll enc P W base sp hd ts vs ds ps → (∀ p ∈ ps, W.sameAt W' p) → DataW.TrodAll enc P W' base sp hd ts vs ds ps
  | [], [], [], _, h, _ => h
  | _ :: _, _ :: _, _ :: _, _, ⟨p, q, ⟨n, h⟩, hs, e⟩, k => ⟨p, q, ⟨n, DataW.trod_carry n _ _ _ h fun x hx => k x (by rw [e]; exact List.mem_append_left _ hx)⟩, args_carry hs fun x hx => k x (by rw [e]; exact List.mem_append_right _ hx), e⟩
  | [], [], _ :: _, _, h, _ => h.elim
  | [], _ :: _, _, _, h, _ => h.elim
  | _ :: _, [], _, _, h, _ => h.elim
  | _ :: _, _ :: _, [], _, h, _ => h.elim

theorem post_law {f : Func} {s : ChangeSpec} {apart fresh handsOn again : Bool} {W W' : World} {args : Array Value} {ds : List (DataW H)} {p : List MemPlace} {bt : TypeId} {T : TypeId → Prop} (K : Kids P T) (hz : ∀ t e, T t → P.underlying t = some (.slice e) → 0 < P.cellsOf e)
    (hbt : P.underlying bt = some .bool) (hrt : f.resultTypes.toList = [bt]) (hsz : f.resultTypes.size = 1) (hvs : s.vars = []) (hfn : s.fn H (ds ++ []) = { results := [.lit (.bool true)], args := ds })
    (hpt : ∀ t ∈ f.params.toList, T t)
    (hW : DataW.Whole enc P f.params.toList s.vars apart W args.toList ds [] (p ++ [])) (hA : DataW.TrodAll enc P W 0 (fun _ => true) true f.params.toList args.toList ds p) (hst : Ev.Stays W W')
    (hok : ∀ (j : Nat) (t : TypeId) (r : Value), f.resultTypes[j]? = some t → ((Value.bool true).resultList f.resultTypes.size)[j]? = some r → Value.okWide P W' .any 0 t r) :
    s.post enc P f apart fresh handsOn again W args (.bool true) W' := by
  have hlt := fun q hq => hW.lt q hq
  refine post_of_stays (pa := p) (pv := []) hW (fun b sp hd => ?_) (fun sp hsp => ?_) (fun sp _ => ?_) rfl hst hok
  · rw [hrt, hfn, hsz]
    exact trodAll_mk1 (shut_bool hbt _)
  · rw [hfn]
    exact DataW.TrodAll.respare K hz hpt (args_carry hA fun q hq => same_of_stays hst (hlt q (by simpa using hq))) fun q hq => hsp q (by simpa using hq)
  · rw [hfn, hvs]
    rfl
end
namespace Ev


inductive UFit : Sh → U → Prop where
  | int (k : IntKind) (n : Int) (h : (Lit.int k n).wf = true) : UFit (.int k) (.i n)
  | bool (b : Bool) : UFit .bool (.b b)
  | str (s : ByteArray) (h : s.size ≤ maxLen) : UFit .str (.s s)
  | list (sh : List Sh) (l : List (List U)) (hl : l.length ≤ maxLen) (hr : ∀ j, j < l.length → (l.getD j []).length = sh.length) (h : ∀ (j f : Nat) (s : Sh), j < l.length → sh[f]? = some s → UFit s ((l.getD j []).getD f (.i 0))) : UFit (.list sh) (.l l)
structure RowFit (sh : List Sh) (r : List U) : Prop where
  len : r.length = sh.length
  fit : ∀ (f : Nat) (s : Sh), sh[f]? = some s → UFit s (r.getD f (.i 0))
theorem RowFit.nil : RowFit [] [] := ⟨rfl, fun f s h => by simp at h⟩
theorem RowFit.append {sh1 sh2 : List Sh} {r1 r2 : List U} (h1 : RowFit sh1 r1) (h2 : RowFit sh2 r2) : RowFit (sh1 ++ sh2) (r1 ++ r2) := by
  refine ⟨by simp [h1.len, h2.len], fun f s h => ?_⟩
  rw [List.getD_eq_getElem?_getD]
  by_cases hf : f < sh1.length
  · rw [List.getElem?_append_left hf] at h
    rw [List.getElem?_append_left (by rw [h1.len]; exact hf), ← List.getD_eq_getElem?_getD]
    exact h1.fit f s h
  · rw [List.getElem?_append_right (by omega)] at h
    rw [List.getElem?_append_right (by rw [h1.len]; omega), h1.len, ← List.getD_eq_getElem?_getD]
    exact h2.fit _ s h
theorem recE_app : ∀ {sh1 sh2 : List Sh} {r1 r2 : List U}, r1.length = sh1.length → recE (sh1 ++ sh2) (r1 ++ r2) = recE sh1 r1 ++ recE sh2 r2
  | [], sh2, r1, r2, h => by
    have : r1 = [] := List.eq_nil_of_length_eq_zero h
    subst this; rfl
  | s :: sh1, sh2, [], r2, h => by cases h
  | s :: sh1, sh2, u :: r1, r2, h => by
    show s.ev u :: recE (sh1 ++ sh2) (r1 ++ r2) = s.ev u :: (recE sh1 r1 ++ recE sh2 r2)
    rw [recE_app (by simpa using h)]

def shFs (P : Program) (f : TypeId → Option (List Sh)) : List Field → Nat → Option (List Sh)
  | [], _ => some []
  | fd :: r, off => match f fd.type with
    | some sh => if fd.offset = off ∧ P.cellsOf fd.type = sh.length then match shFs P f r (off + sh.length) with
      | some l => some (sh ++ l)
      | none => none else none
    | none => none
def shB (P : Program) : Nat → TypeId → Option (List Sh)
  | 0, _ => none
  | k + 1, t => match P.underlying t with
    | some (.int κ) => some [.int κ]
    | some .bool => some [.bool]
    | some .string => some [.str]
    | some (.slice e) => match shB P k e with
      | some sh => if P.cellsOf e = sh.length ∧ 0 < sh.length then some [.list sh] else none
      | none => none
    | some (.struct fs) => match shFs P (shB P k) fs.toList 0 with
      | some sh => if P.cellsOf t = sh.length then some sh else none
      | none => none
    | some (.array m e) => match shB P k e with
      | some sh => if P.cellsOf e = sh.length ∧ P.cellsOf t = m * sh.length then some (List.replicate m sh).flatten else none
      | none => none
    | _ => none
noncomputable def fzAll (W : World) : Nat → Option (Array Value) := fun k => match W.heap[k]? with
  | some (.cells a _ _) => some a
  | _ => none
noncomputable def gAll (W : World) : G := ⟨fun _ => none, fzAll W, fun _ _ _ => none⟩
theorem fzAll_at (W : World) : FzAt (gAll W) W := ⟨fun k a hk => (by
  have hk : fzAll W k = some a := hk
  unfold fzAll at hk
  split at hk
  · rename_i a' ty fz h
    injection hk with hk; subst hk
    exact ⟨ty, fz, h⟩
  · cases hk), fun _ _ _ => rfl⟩
theorem list_of {Q : Nat → List U → Prop} : ∀ (n : Nat), (∀ i, i < n → ∃ r, Q i r) → ∃ l : List (List U), l.length = n ∧ ∀ i, i < n → Q i (l.getD i [])
  | 0, _ => ⟨[], rfl, fun i hi => absurd hi (by omega)⟩
  | n + 1, h => by
    obtain ⟨l, h1, h2⟩ := list_of n fun i hi => h i (by omega)
    obtain ⟨r, hr⟩ := h n (by omega)
    refine ⟨l ++ [r], by simp [h1], fun i hi => ?_⟩
    rw [List.getD_eq_getElem?_getD]
    by_cases e : i < n
    · rw [List.getElem?_append_left (by omega), ← List.getD_eq_getElem?_getD]; exact h2 i e
    · have : i = n := by omega
      subst this
      rw [List.getElem?_append_right (by omega), h1, Nat.sub_self]; exact hr
variable {H : Type} {enc : TypeId × Value → H} {P : Program} {W : World} {base : Nat} {sp : Nat → Bool} {hd : Bool}
def OpenAt (enc : TypeId × Value → H) (P : Program) (W : World) (base : Nat) (sp : Nat → Bool) (hd : Bool) (k : Nat) : Prop := ∀ (t : TypeId) (sh : List Sh) (fuel : Nat) (cs : List Value) (x : DataW H × List MemPlace), shB P k t = some sh → DataW.trod enc P W base sp hd fuel t cs = some x → ∃ r, RowFit sh r ∧ ∀ γ : G, γ.fz = fzAll W → ECL γ (recE sh r) cs
theorem fields_open {k : Nat} (ih : OpenAt enc P W base sp hd k) {cs : List Value} {n : Nat} : ∀ (fs : List Field) (off : Nat) (sh : List Sh), shFs P (shB P k) fs off = some sh → (∀ f, f ∈ fs → ∃ y, DataW.trod enc P W base sp hd n f.type ((cs.drop f.offset).take (P.cellsOf f.type)) = some y) → ∃ r, RowFit sh r ∧ ∀ γ : G, γ.fz = fzAll W → ECL γ (recE sh r) ((cs.drop off).take sh.length)
  | [], off, sh, h, _ => by
    injection (show some [] = some sh from h) with h; subst h
    exact ⟨[], .nil, fun γ _ => by
      rw [show ([] : List Sh).length = 0 from rfl, List.take_zero]; exact ECL.nil γ⟩
  | fd :: fs, off, sh, h, hall => by
    unfold shFs at h
    split at h
    case h_2 => cases h
    rename_i s1 hs1
    split at h
    case isFalse => cases h
    rename_i hc
    split at h
    case h_2 => cases h
    rename_i s2 hs2
    injection h with h; subst h
    obtain ⟨y, hy⟩ := hall fd (by simp)
    rw [hc.1, hc.2] at hy
    obtain ⟨r1, h1, h2⟩ := ih fd.type s1 n _ y hs1 hy
    obtain ⟨r2, h3, h4⟩ := fields_open ih fs (off + s1.length) s2 hs2 fun f hf => hall f (by simp [hf])
    refine ⟨r1 ++ r2, h1.append h3, fun γ hγ => ?_⟩
    rw [recE_app h1.len, List.length_append]
    have e : (cs.drop off).take (s1.length + s2.length) = (cs.drop off).take s1.length ++ (cs.drop (off + s1.length)).take s2.length := by
      rw [List.take_add, List.drop_drop]
    rw [e]
    exact (h2 γ hγ).append (h4 γ hγ)
theorem elems_open {k : Nat} (ih : OpenAt enc P W base sp hd k) {cs : List Value} {n : Nat} {e : TypeId} {sh : List Sh} (hsh : shB P k e = some sh) (hc : P.cellsOf e = sh.length) : ∀ (m i0 : Nat), (∀ i, i < m → ∃ y, DataW.trod enc P W base sp hd n e ((cs.drop ((i0 + i) * P.cellsOf e)).take (P.cellsOf e)) = some y) → ∃ r, RowFit (List.replicate m sh).flatten r ∧ ∀ γ : G, γ.fz = fzAll W → ECL γ (recE (List.replicate m sh).flatten r) ((cs.drop (i0 * sh.length)).take (m * sh.length))
  | 0, i0, _ => ⟨[], .nil, fun γ _ => by
      rw [Nat.zero_mul, List.take_zero]; exact ECL.nil γ⟩
  | m + 1, i0, h => by
    obtain ⟨y, hy⟩ := h 0 (by omega)
    rw [hc, Nat.add_zero] at hy
    obtain ⟨r1, h1, h2⟩ := ih e sh n _ y hsh hy
    obtain ⟨r2, h3, h4⟩ := elems_open ih hsh hc m (i0 + 1) fun i hi => by
      have := h (i + 1) (by omega)
      rwa [show i0 + (i + 1) = i0 + 1 + i by omega] at this
    refine ⟨r1 ++ r2, by rw [List.replicate_succ, List.flatten_cons]; exact h1.append h3, fun γ hγ => ?_⟩
    rw [List.replicate_succ, List.flatten_cons, recE_app h1.len, Nat.succ_mul, Nat.add_comm, List.take_add, List.drop_drop]
    have := h4 γ hγ
    rw [Nat.succ_mul] at this
    exact (h2 γ hγ).append this
theorem open_cells : ∀ k, OpenAt enc P W base sp hd k
  | 0 => fun t sh fuel cs x h => by cases h
  | k + 1 => fun t sh fuel cs x h ht => by
    have ih : OpenAt enc P W base sp hd k := open_cells k
    unfold shB at h
    split at h
    · rename_i κ hu
      injection h with h; subst h
      obtain ⟨n, rfl, _, hw⟩ := DataW.trod_int hu ht
      refine ⟨[.i n], ⟨rfl, fun f s hf => ?_⟩, fun γ _ => .cons (.v _) (.nil _)⟩
      obtain ⟨rfl, rfl⟩ := one_f hf
      exact .int κ n hw
    · rename_i hu
      injection h with h; subst h
      obtain ⟨b, rfl, _⟩ := DataW.trod_bool hu ht
      refine ⟨[.b b], ⟨rfl, fun f s hf => ?_⟩, fun γ _ => .cons (.v _) (.nil _)⟩
      obtain ⟨rfl, rfl⟩ := one_f hf
      exact .bool b
    · rename_i hu
      injection h with h; subst h
      obtain ⟨s, rfl, _, hs⟩ := DataW.trod_string hu ht
      refine ⟨[.s s], ⟨rfl, fun f s hf => ?_⟩, fun γ _ => .cons (.v _) (.nil _)⟩
      obtain ⟨rfl, rfl⟩ := one_f hf
      exact .str _ hs
    · rename_i e hu
      split at h
      case h_2 => cases h
      rename_i sh' hsh
      split at h
      case isFalse => cases h
      rename_i hc
      injection h with h; subst h
      rcases DataW.trod_slice hu ht with ⟨rfl, _⟩ | ⟨a, len, cap, elems, rest, n, _, rfl, _, hb, hlc, hcm, hel, hall, _⟩
      · refine ⟨[.l []], ⟨rfl, fun f s hf => ?_⟩, fun γ _ => .cons ?_ (.nil _)⟩
        · obtain ⟨rfl, rfl⟩ := one_f hf
          exact .list sh' [] (Nat.zero_le _) (fun j hj => by simp at hj) (fun j f s hj => by simp at hj)
        · exact UOk.ec (s := .list sh') (.empty sh' (.l []) none 0 rfl (Nat.zero_le _) fun _ => rfl)
      · have each : ∀ i, i < len → ∃ r, RowFit sh' r ∧ ∃ ys, W.cells? base (a.add (i * sh'.length)) sh'.length = some ys ∧ ∀ γ : G, γ.fz = fzAll W → ECL γ (recE sh' r) ys := fun i hi => by
          have h1 := hall i hi
          rw [hc.1] at h1
          have h2 : i < elems.length := by omega
          rw [List.getElem?_eq_getElem h2] at h1
          obtain ⟨ys, h3, h4⟩ := Option.bind_eq_some_iff.1 h1
          obtain ⟨r, h5, h6⟩ := ih e sh' n ys _ hsh h4
          exact ⟨r, h5, ys, h3, h6⟩
        obtain ⟨l, hl, hQ⟩ := list_of len each
        refine ⟨[.l l], ⟨rfl, fun f s hf => ?_⟩, fun γ hγ => .cons ?_ (.nil _)⟩
        · obtain ⟨rfl, rfl⟩ := one_f hf
          exact .list sh' l (by omega) (fun j hj => (hQ j (by omega)).1.len) fun j f s hj hf => (hQ j (by omega)).1.fit f s hf
        · refine UOk.ec (s := .list sh') ?_
          by_cases h0 : len = 0
          · have : l = [] := List.eq_nil_of_length_eq_zero (by omega)
            subst this; subst h0
            exact .empty sh' (.l []) (some a) cap rfl hcm fun e => by cases e
          · obtain ⟨b, off, spot⟩ := a
            have hblk : spot = none ∧ ∃ arr ty fz, W.heap[b]? = some (.cells arr ty fz) := by
              obtain ⟨h1, ys, h2, h3⟩ := hQ 0 (by omega)
              obtain ⟨_, h4, h5⟩ := World.cells?_some h2
              have h6 := h5 0 hc.2
              rw [List.getElem?_eq_getElem (show 0 < ys.length by omega)] at h6
              have h6 : W.cell? ⟨b, off, spot⟩ = some ys[0] := by
                have e : ((⟨b, off, spot⟩ : Addr).add (0 * sh'.length)).add 0 = ⟨b, off, spot⟩ := by simp [Addr.add]
                rw [e] at h6; exact h6
              unfold World.cell? at h6
              split at h6
              · rename_i arr ty fz hb'
                split at h6
                · cases h6
                · rename_i hs
                  exact ⟨by cases spot <;> simp_all, arr, ty, fz, hb'⟩
              · cases h6
            obtain ⟨rfl, arr, ty, fz, hblk⟩ := hblk
            have cellAt : ∀ i f, i < len → f < sh'.length → ∃ y, W.cell? ⟨b, off + (i * sh'.length + f), none⟩ = some y ∧ ∀ s, sh'[f]? = some s → UOk γ.fz s ((l.getD i []).getD f (.i 0)) y := fun i f hi hf => by
              obtain ⟨h1, ys, h2, h3⟩ := hQ i hi
              obtain ⟨_, h4, h5⟩ := World.cells?_some h2
              have h6 := h5 f hf
              have h7 : f < ys.length := by omega
              rw [List.getElem?_eq_getElem h7] at h6
              refine ⟨ys[f], ?_, fun s hs => ?_⟩
              · have e : ((⟨b, off, none⟩ : Addr).add (i * sh'.length)).add f = ⟨b, off + (i * sh'.length + f), none⟩ := by
                  unfold Addr.add
                  split <;> split <;> simp_all [Nat.add_assoc]
                rw [← h6, e]
              · have h8 := recE_get (s := s) (f := f) (sh := sh') (l.getD i []) hs
                have h9 := (h3 γ hγ).2 f _ ys[f] h8 (List.getElem?_eq_getElem h7)
                exact UOk.of_ec h9
            have getA : ∀ i f, i < len → f < sh'.length → ∃ y, arr[off + (i * sh'.length + f)]? = some y ∧ ∀ s, sh'[f]? = some s → UOk γ.fz s ((l.getD i []).getD f (.i 0)) y := fun i f hi hf => by
              obtain ⟨y, h1, h2⟩ := cellAt i f hi hf
              refine ⟨y, ?_, h2⟩
              unfold World.cell? at h1
              simpa [hblk] using h1
            have hk : γ.fz b = some arr := by
              rw [hγ]; unfold fzAll; rw [hblk]
            subst hl
            refine .list sh' (.l l) b off cap arr hk hlc hcm ?_ fun j f s x hj hf hx => ?_
            · show off + l.length * sh'.length ≤ arr.size
              obtain ⟨y, h1, _⟩ := getA (l.length - 1) (sh'.length - 1) (by omega) (by omega)
              have := (Array.getElem?_eq_some_iff.1 h1).1
              have e : l.length * sh'.length = (l.length - 1) * sh'.length + sh'.length := by rw [← Nat.succ_mul]; congr 1; omega
              omega
            · obtain ⟨y, h1, h2⟩ := getA j f hj (List.getElem?_eq_some_iff.1 hf).1
              rw [h1] at hx; injection hx with hx; subst hx
              exact h2 s hf
    · rename_i fs hu
      split at h
      case h_2 => cases h
      rename_i sh' hsh
      split at h
      case isFalse => cases h
      rename_i hc
      injection h with h; subst h
      obtain ⟨xs, n, _, _, hl, hlen, hf⟩ := DataW.trod_struct hu ht
      obtain ⟨r, h1, h2⟩ := fields_open (cs := cs) (n := n) ih fs.toList 0 sh' hsh fun f hm => by
        obtain ⟨i, hi, rfl⟩ := List.getElem_of_mem hm
        have hi2 : i < fs.size := by simpa using hi
        have := hf i fs.toList[i] (by simp [hi2])
        rw [List.getElem?_eq_getElem (by omega)] at this
        exact ⟨_, this⟩
      refine ⟨r, h1, fun γ hγ => ?_⟩
      have := h2 γ hγ
      rwa [List.drop_zero, List.take_of_length_le (by omega)] at this
    · rename_i m e hu
      split at h
      case h_2 => cases h
      rename_i sh' hsh
      split at h
      case isFalse => cases h
      rename_i hc
      injection h with h; subst h
      obtain ⟨xs, n, _, _, hl, hlen, hf⟩ := DataW.trod_array hu ht
      obtain ⟨r, h1, h2⟩ := elems_open (cs := cs) (n := n) ih hsh hc.1 m 0 fun i hi => by
        have := hf i hi
        rw [List.getElem?_eq_getElem (by omega)] at this
        rw [Nat.zero_add]
        exact ⟨_, this⟩
      refine ⟨r, h1, fun γ hγ => ?_⟩
      have := h2 γ hγ
      rwa [Nat.zero_mul, List.drop_zero, List.take_of_length_le (by omega)] at this
    · cases h

theorem open_agg {t : TypeId} {fs : Array Field} {v : Value} {d : DataW H} {ps : List MemPlace} {k b0 : Nat} {rc : Reach} {sh : List Sh} (hu : P.underlying t = some (.struct fs)) (hs : shB P k t = some sh) (hv : Value.okWide P W rc b0 t v) (h : DataW.Trod enc P W base sp hd t v d ps) : ∃ r, RowFit sh r ∧ EC (gAll W) (.agg (recE sh r)) v := by
  obtain ⟨cs, rfl, _⟩ := okWide_struct hu hv
  obtain ⟨fuel, hf⟩ := h
  obtain ⟨r, h1, h2⟩ := open_cells k t sh fuel _ _ hs hf
  have h3 := h2 (gAll W) rfl
  refine ⟨r, h1, ?_⟩
  have := EC.agg (γ := gAll W) (recE sh r) cs.toList h3.1 h3.2
  simpa using this

end Ev
end Go.Proofs.Ytonbfalbfdkieaa
namespace Go.Proofs.Ytonbfalbfdkieaa.Ev
open Go.Proofs
namespace LPts
end LPts
namespace LFar
noncomputable def RUN (s : ES) : ZF := RZ 15 .nil (fun _ => false) [] [] false s
theorem in_t (n k : Int) (X P : List (List U)) : RUN (st0 15 [clE n X P, iv k]) = (bc (decide (k < Int.ofNat (List.length X))) (bc (decide (Int.ofNat (List.length X) ≤ (20000 : Int))) (.done (EV.v (Value.bool true)) [] 0) (bc (decide ((20100 : Int) < Int.ofNat (List.length X))) (.done (EV.v (Value.bool true)) [] 0) (bc (decide ((60 : Int) < n)) (.done (EV.v (Value.bool true)) [] 0) (bc (decide (k < Int.ofNat (List.length P))) (bc (decide (Int.ofNat (List.length P) ≤ (6400 : Int))) (.done (EV.v (Value.bool true)) [] 0) (.done (EV.v (Value.bool (decide ((6500 : Int) < Int.ofNat (List.length P))))) [] 0)) (.done (EV.v (Value.bool (decide ((6500 : Int) < Int.ofNat (List.length P))))) [] 0))))) (bc (decide ((20100 : Int) < Int.ofNat (List.length X))) (.done (EV.v (Value.bool true)) [] 0) (bc (decide ((60 : Int) < n)) (.done (EV.v (Value.bool true)) [] 0) (bc (decide (k < Int.ofNat (List.length P))) (bc (decide (Int.ofNat (List.length P) ≤ (6400 : Int))) (.done (EV.v (Value.bool true)) [] 0) (.done (EV.v (Value.bool (decide ((6500 : Int) < Int.ofNat (List.length P))))) [] 0)) (.done (EV.v (Value.bool (decide ((6500 : Int) < Int.ofNat (List.length P))))) [] 0))))) := by kernel_rfl
end LFar

noncomputable def farB (n k : Int) (X P : List (List U)) : Bool := bc (decide (k < (X.length : Int) ∧ (X.length : Int) ≤ 20000)) true (bc (decide (20100 < (X.length : Int))) true (bc (decide (60 < n)) true (bc (decide (k < (P.length : Int) ∧ (P.length : Int) ≤ 6400)) true (decide (6500 < (P.length : Int))))))
theorem LFar.ends (n k : Int) (X P : List (List U)) : EndZ 15 .nil false (st0 15 [clE n X P, iv k]) (bv (farB n k X P)) [] 0 := by
  have h := LFar.in_t n k X P
  unfold farB
  simp only [ofn] at h
  have h3 : ∀ {R : ZF}, R = bc (decide (k < (P.length : Int))) (bc (decide ((P.length : Int) ≤ 6400)) (.done (bv true) [] 0) (.done (bv (decide (6500 < (P.length : Int)))) [] 0)) (.done (bv (decide (6500 < (P.length : Int)))) [] 0) → R = .done (bv (bc (decide (k < (P.length : Int) ∧ (P.length : Int) ≤ 6400)) true (decide (6500 < (P.length : Int))))) [] 0 := by
    intro R e
    rw [e]
    by_cases h1 : k < (P.length : Int)
    · by_cases h2 : (P.length : Int) ≤ 6400
      · rw [dt h1, dt h2, dt (show k < (P.length : Int) ∧ (P.length : Int) ≤ 6400 from ⟨h1, h2⟩)]; rfl
      · rw [dt h1, df h2, df (show ¬ (k < (P.length : Int) ∧ (P.length : Int) ≤ 6400) from fun h => h2 h.2)]; rfl
    · rw [df h1, df (show ¬ (k < (P.length : Int) ∧ (P.length : Int) ≤ 6400) from fun h => h1 h.1)]; rfl
  have h4 : ∀ {R : ZF}, R = bc (decide (20100 < (X.length : Int))) (.done (bv true) [] 0) (bc (decide (60 < n)) (.done (bv true) [] 0) (bc (decide (k < (P.length : Int))) (bc (decide ((P.length : Int) ≤ 6400)) (.done (bv true) [] 0) (.done (bv (decide (6500 < (P.length : Int)))) [] 0)) (.done (bv (decide (6500 < (P.length : Int)))) [] 0))) → R = .done (bv (bc (decide (20100 < (X.length : Int))) true (bc (decide (60 < n)) true (bc (decide (k < (P.length : Int) ∧ (P.length : Int) ≤ 6400)) true (decide (6500 < (P.length : Int))))))) [] 0 := by
    intro R e
    rw [e]
    cases decide (20100 < (X.length : Int))
    · rw [bc_f, bc_f]
      cases decide (60 < n)
      · rw [bc_f, bc_f]; exact h3 rfl
      · rfl
    · rfl
  by_cases h1 : k < (X.length : Int)
  · by_cases h2 : (X.length : Int) ≤ 20000
    · rw [dt h1, dt h2, bc_t, bc_t] at h
      rw [dt (show k < (X.length : Int) ∧ (X.length : Int) ≤ 20000 from ⟨h1, h2⟩), bc_t]
      exact .done h
    · rw [dt h1, df h2, bc_t, bc_f] at h
      rw [df (show ¬ (k < (X.length : Int) ∧ (X.length : Int) ≤ 20000) from fun h => h2 h.2), bc_f]
      exact .done (h4 h)
  · rw [df h1, bc_f] at h
    rw [df (show ¬ (k < (X.length : Int) ∧ (X.length : Int) ≤ 20000) from fun h => h1 h.1), bc_f]
    exact .done (h4 h)
noncomputable def spFar : ZCT := fun ax => match ax with
  | [.agg [.v (.int .i64 n), .lst (.recs [.int .i64, .int .i64, .int .i64, .int .i64] X), .lst (.recs [.int .i64, .int .i64, .int .i64, .int .i64] P)], .v (.int .i64 k)] => some ⟨decide (True), bv (farB n k X P), [], 0⟩
  | _ => none
theorem spFar_ok : ZCtOk Try.prog 15 spFar := fun γ w us ax r hs hc hax hN hfz => by
  unfold spFar at hs
  split at hs
  case h_2 => cases hs
  rename_i n X P k
  obtain ⟨rfl⟩ := Option.some.inj hs
  have hc_0 : decide (True) = true := hc
  have hc := of_decide_eq_true hc_0
  exact EndZ.calls (LFar.ends n k X P) (.nil _) (by kernel_rfl) hax hN hfz
namespace ACmF
end ACmF
end Go.Proofs.Ytonbfalbfdkieaa.Ev
namespace Go.Proofs.Ytonbfalbfdkieaa.Ev
noncomputable def hisE (n t : Int) (X P : List (List U)) : Int := bc (chk17 n X P != 0) (chk17 n X P) (bc (decide (t < 0)) 2 (bc (decide (n ≤ t)) 2 0))
noncomputable def hisL (n t : Int) (X P : List (List U)) : List (List U) := bc (hisE n t X P != 0) [] (hiF t X)
theorem hisL_len (n t : Int) (X P : List (List U)) : (hisL n t X P).length ≤ 40000 := by
  unfold hisL
  cases h : hisE n t X P != 0
  · rw [bc_f]
    have h1 : hisE n t X P = 0 := by simpa using h
    unfold hisE at h1
    cases h2 : chk17 n X P != 0 <;> rw [h2] at h1
    · have h3 : chk17 n X P = 0 := by simpa using h2
      obtain ⟨_, _, h4, _⟩ := chk17_ok h3
      have := hiF_len t X
      omega
    · rw [bc_t] at h1
      rw [h1] at h2; cases h2
  · exact Nat.zero_le _

noncomputable def meB : List (List U) → List (List U) → Bool
  | [], [] => true
  | [], _ :: _ => false
  | _ :: _, [] => false
  | x :: a, y :: b => bc (mT x == mT y) (bc (mV x == mV y) (meB a b) false) false
theorem paF_meB : ∀ (i : Nat) (a b : List (List U)), (paF i a b).2.2 = !(meB a b)
  | _, [], [] => rfl
  | _, [], _ :: _ => rfl
  | _, _ :: _, [] => rfl
  | i, x :: a, y :: b => by
    unfold paF meB
    have e1 : (mT x != mT y) = !(mT x == mT y) := rfl
    have e2 : (mV x != mV y) = !(mV x == mV y) := rfl
    rw [e1, e2]
    cases (mT x == mT y)
    · rfl
    · cases (mV x == mV y)
      · rfl
      · exact paF_meB (i + 1) a b
theorem meB_len : ∀ {a b : List (List U)}, a.length ≠ b.length → meB a b = false
  | [], [], h => absurd rfl h
  | [], _ :: _, _ => rfl
  | _ :: _, [], _ => rfl
  | x :: a, y :: b, h => by
    unfold meB
    rw [meB_len (a := a) (b := b) (by simp at h; exact h)]
    cases (mT x == mT y) <;> cases (mV x == mV y) <;> rfl

noncomputable def rM (r : List U) : List (List U) := U.list (r.getD 0 (.i 0))

def hisS (R : List (List U)) : Prop := ∀ j : Nat, (rM (R.getD j [])).length ≤ 100000
noncomputable instance (R : List (List U)) : Decidable (hisS R) := Classical.propDecidable _
noncomputable def eqTB : List (List U) → List (List U) → Bool
  | [], [] => true
  | [], _ :: _ => false
  | _ :: _, [] => false
  | x :: a, y :: b => bc (meB (rM x) (rM y)) (eqTB a b) false
theorem eqTB_len : ∀ {a b : List (List U)}, a.length ≠ b.length → eqTB a b = false
  | [], [], h => absurd rfl h
  | [], _ :: _, _ => rfl
  | _ :: _, [], _ => rfl
  | x :: a, y :: b, h => by
    unfold eqTB
    rw [eqTB_len (a := a) (b := b) (by simp at h; exact h)]
    cases meB (rM x) (rM y) <;> rfl
noncomputable def sameF (X Y : List (List U)) : Nat → Nat → Bool
  | _, 0 => true
  | t, k + 1 => bc (meB (hiF t X) (hiF t Y)) (sameF X Y (t + 1) k) false
theorem rowsH_len (n : Nat) (X : List (List U)) : (rowsT (thF X 0 (th0 n))).length = n := by rw [rowsT_len, thF_len]; unfold th0; simp
theorem rowsH {n t : Nat} {X : List (List U)} (tx : thrs n X) (ht : t < n) : rM ((rowsT (thF X 0 (th0 n))).getD t []) = hiF t X := by
  have l0 : (th0 n).length = n := by unfold th0; simp
  have g0 : (getT (th0 n) t).1 = [] := by
    unfold getT th0
    rw [List.getD_eq_getElem?_getD, List.getElem?_replicate, if_pos ht]; rfl
  have h1 := thF_hi t X 0 (th0 n) (by omega) (fun r hr => by rw [l0]; exact tx r hr)
  rw [g0, List.nil_append] at h1
  exact (getM (by rw [thF_len, l0]; exact ht)).trans h1
theorem rowsH_out {n t : Nat} {X : List (List U)} (ht : n ≤ t) : rM ((rowsT (thF X 0 (th0 n))).getD t []) = [] := by
  rw [List.getD_eq_getElem?_getD, List.getElem?_eq_none (by rw [rowsH_len]; exact ht)]
  rfl
theorem hisS_rows {n : Nat} {X : List (List U)} (tx : thrs n X) (hX : X.length ≤ 20000) : hisS (rowsT (thF X 0 (th0 n))) := fun j => by
  by_cases h : j < n
  · rw [rowsH tx h]
    have := hiF_len j X
    omega
  · rw [rowsH_out (by omega)]; exact Nat.zero_le _
theorem eqTB_rows {n : Nat} {X Y : List (List U)} (tx : thrs n X) (ty : thrs n Y) : ∀ (k t : Nat), t + k = n → eqTB ((rowsT (thF X 0 (th0 n))).drop t) ((rowsT (thF Y 0 (th0 n))).drop t) = sameF X Y t k
  | 0, t, h => by
    rw [List.drop_eq_nil_of_le (by rw [rowsH_len]; omega), List.drop_eq_nil_of_le (by rw [rowsH_len]; omega)]; rfl
  | k + 1, t, h => by
    have ht : t < n := by omega
    have hx := rowsH tx ht
    have hy := rowsH ty ht
    have lx : t < (rowsT (thF X 0 (th0 n))).length := by rw [rowsH_len]; exact ht
    have ly : t < (rowsT (thF Y 0 (th0 n))).length := by rw [rowsH_len]; exact ht
    rw [getD_at lx] at hx
    rw [getD_at ly] at hy
    rw [List.drop_eq_getElem_cons lx, List.drop_eq_getElem_cons ly]
    unfold eqTB sameF
    rw [hx, hy, eqTB_rows tx ty k (t + 1) (by omega)]
noncomputable def botE (n m : Int) (X P Y Q : List (List U)) : Int := bc (chk17 n X P != 0) (chk17 n X P) (chk17 m Y Q)
noncomputable def samB (n m : Int) (X P Y Q : List (List U)) : Bool := bc (botE n m X P Y Q != 0) false (bc (n != m) false (sameF X Y 0 n.toNat))
end Go.Proofs.Ytonbfalbfdkieaa.Ev
namespace Go.Proofs.Ytonbfalbfdkieaa.Ev
open Go.Proofs
namespace PHis
noncomputable def RUN (s : ES) : ZF := RZ 45 ctPF (fun _ => false) [] [] false s
theorem in_t (n t : Int) (X P : List (List U)) : RUN (st0 45 [clE n X P, iv t]) = (bc (chk17 n X P != (0 : Int)) (.done (EV.tup [(EV.v (Value.slice Option.none 0 0)), (EV.v (Value.int IntKind.i64 (chk17 n X P)))]) [] 0) (bc (decide (t < (0 : Int))) (.done (EV.tup [(EV.v (Value.slice Option.none 0 0)), (EV.v (Value.int IntKind.i64 (2)))]) [] 0) (bc (decide (n ≤ t)) (.done (EV.tup [(EV.v (Value.slice Option.none 0 0)), (EV.v (Value.int IntKind.i64 (2)))]) [] 0) (bc (decide ((0 : Int) ≤ n ∧ n ≤ (48 : Int) ∧ List.length X ≤ (20000 : Nat) ∧ thrs n X)) (bc (bc (bc (decide ((0 : Int) ≤ t)) (Nat.blt (Int.toNat t) (List.length (rowsT (thF X (0 : Nat) (th0 (Int.toNat n)))))) false) true false) (bc (bc (Nat.blt (Int.toNat t) (List.length (rowsT (thF X (0 : Nat) (th0 (Int.toNat n)))))) true false) (.done (EV.tup [(EV.lst (SyC.recs [(Sh.int IntKind.i64), Sh.bool] (U.list (List.getD (List.getD (rowsT (thF X (0 : Nat) (th0 (Int.toNat n)))) (Int.toNat t) []) (Nat.add (0 : Nat) (0 : Nat)) (U.i (0 : Int)))))), (EV.v (Value.int IntKind.i64 (0)))]) [] 0) .bad) .bad) .bad)))) := by kernel_rfl
theorem ends (n t : Int) (X P : List (List U)) : EndZ 45 ctPF false (st0 45 [clE n X P, iv t]) (.tup [ml (hisL n t X P), iv (hisE n t X P)]) [] 0 := by
  have h := in_t n t X P
  have err : ∀ e : Int, hisE n t X P = e → e ≠ 0 → Weak (.tup [.v (.slice none 0 0), iv e]) (.tup [ml (hisL n t X P), iv (hisE n t X P)]) := fun e he h0 => by
    unfold hisL
    rw [he, show (e != 0) = true by simp [h0], bc_t]
    exact Weak.tup (.cons (Weak.nil _) (.cons (Weak.refl _) .nil))
  by_cases z1 : chk17 n X P = 0
  · have b1 : (chk17 n X P != 0) = false := by simp [z1]
    rw [b1, bc_f] at h
    by_cases z2 : t < 0
    · rw [dt z2, bc_t] at h
      exact (EndZ.done h).weak (err 2 (by unfold hisE; rw [b1, dt z2]; rfl) (by decide))
    · rw [df z2, bc_f] at h
      by_cases z3 : n ≤ t
      · rw [dt z3, bc_t] at h
        exact (EndZ.done h).weak (err 2 (by unfold hisE; rw [b1, df z2, dt z3]; rfl) (by decide))
      · rw [df z3, bc_f] at h
        obtain ⟨c1, c2, c3, c4, c5, _⟩ := chk17_ok z1
        obtain ⟨n, rfl⟩ := Int.eq_ofNat_of_zero_le (show 0 ≤ n by omega)
        obtain ⟨t, rfl⟩ := Int.eq_ofNat_of_zero_le (show 0 ≤ t by omega)
        have hE : hisE n t X P = 0 := by unfold hisE; rw [b1, df z2, df z3]; rfl
        have hr : U.list (List.getD (List.getD (rowsT (thF X 0 (th0 n))) t []) (Nat.add 0 0) (U.i 0)) = hiF t X := rowsH c5 (by omega)
        rw [dt (show (0 : Int) ≤ n ∧ (n : Int) ≤ 48 ∧ X.length ≤ 20000 ∧ thrs n X from ⟨by omega, by omega, by omega, c5⟩), bc_t] at h
        rw [to_nat, to_nat, hr, rowsH_len] at h
        unfold hisL
        rw [hE]
        simp (disch := omega) only [Nat.add_eq, eqSy_self, eqN_self, bc_same, List.length_cons, ofn, wrap_in, dt, df, bltD, bltN, ble_of, bleN, beqD, bc_t, bc_f, nn_ok, Nat.zero_add, to_nat, Int.zero_add, Int.sub_zero, Int.sub_self, Int.cast_ofNat_Int, Int.natCast_zero, Int.toNat_zero, List.take_zero, List.nil_append, List.length_append, List.length_nil] at h
        exact .done h
  · have b1 : (chk17 n X P != 0) = true := by simp [z1]
    rw [b1, bc_t] at h
    exact (EndZ.done h).weak (err _ (by unfold hisE; rw [b1]; rfl) z1)
end PHis
noncomputable def spPHis : ZCT := fun ax => match ax with
  | [.agg [.v (.int .i64 n), .lst (.recs [.int .i64, .int .i64, .int .i64, .int .i64] X), .lst (.recs [.int .i64, .int .i64, .int .i64, .int .i64] P)], .v (.int .i64 t)] => some ⟨decide (True), .tup [ml (hisL n t X P), iv (hisE n t X P)], [], 0⟩
  | _ => none
theorem spPHis_ok : ZCtOk Try.prog 45 spPHis := fun γ w us ax r hs hc hax hN hfz => by
  unfold spPHis at hs
  split at hs
  case h_2 => cases hs
  rename_i n X P t
  obtain ⟨rfl⟩ := Option.some.inj hs
  have hc_0 : decide (True) = true := hc
  have hc := of_decide_eq_true hc_0
  exact EndZ.calls (PHis.ends n t X P) ctPF_ok (by kernel_rfl) hax hN hfz
noncomputable def ctRH : Tr ZCC := (Tr.nil.put 120 (some (dC spRCk17))).put 85 (some (dC spRHis))
theorem ctRH_ok : ZCtsOk Try.prog ctRH := ((ZCtsOk.nil _).add rfl spRCk17_ok).add rfl spRHis_ok
namespace RHi2
noncomputable def RUN (s : ES) : ZF := RZ 50 ctRH (fun _ => false) [] [] false s
theorem in_t (n t : Int) (X P : List (List U)) : RUN (st0 50 [clE n X P, iv t]) = (bc (chk17 n X P == (0 : Int)) (bc (decide (t < (0 : Int))) (.done (EV.tup [(EV.v (Value.slice Option.none 0 0)), (EV.v (Value.int IntKind.i64 (2)))]) [] 0) (bc (decide (n ≤ t)) (.done (EV.tup [(EV.v (Value.slice Option.none 0 0)), (EV.v (Value.int IntKind.i64 (2)))]) [] 0) (bc (chk17 n X P != (0 : Int)) (.done (EV.tup [(EV.v (Value.slice Option.none 0 0)), (EV.v (Value.int IntKind.i64 (chk17 n X P)))]) [] 0) (bc (decide (List.length X ≤ (20000 : Nat))) (.done (EV.tup [(EV.lst (SyC.recs [(Sh.int IntKind.i64), Sh.bool] (hiF t X))), (EV.v (Value.int IntKind.i64 (0)))]) [] 0) .bad)))) (bc (chk17 n X P != (0 : Int)) (.done (EV.tup [(EV.v (Value.slice Option.none 0 0)), (EV.v (Value.int IntKind.i64 (chk17 n X P)))]) [] 0) (bc (decide (List.length X ≤ (20000 : Nat))) (.done (EV.tup [(EV.lst (SyC.recs [(Sh.int IntKind.i64), Sh.bool] (hiF t X))), (EV.v (Value.int IntKind.i64 (0)))]) [] 0) .bad))) := by kernel_rfl
theorem ends (n t : Int) (X P : List (List U)) : EndZ 50 ctRH false (st0 50 [clE n X P, iv t]) (.tup [ml (hisL n t X P), iv (hisE n t X P)]) [] 0 := by
  have h := in_t n t X P
  have err : ∀ e : Int, hisE n t X P = e → e ≠ 0 → Weak (.tup [.v (.slice none 0 0), iv e]) (.tup [ml (hisL n t X P), iv (hisE n t X P)]) := fun e he h0 => by
    unfold hisL
    rw [he, show (e != 0) = true by simp [h0], bc_t]
    exact Weak.tup (.cons (Weak.nil _) (.cons (Weak.refl _) .nil))
  by_cases z1 : chk17 n X P = 0
  · have b1 : (chk17 n X P != 0) = false := by simp [z1]
    have b2 : (chk17 n X P == 0) = true := by simp [z1]
    rw [b1, bc_f, b2, bc_t] at h
    by_cases z2 : t < 0
    · rw [dt z2, bc_t] at h
      exact (EndZ.done h).weak (err 2 (by unfold hisE; rw [b1, dt z2]; rfl) (by decide))
    · rw [df z2, bc_f] at h
      by_cases z3 : n ≤ t
      · rw [dt z3, bc_t] at h
        exact (EndZ.done h).weak (err 2 (by unfold hisE; rw [b1, df z2, dt z3]; rfl) (by decide))
      · rw [df z3, bc_f] at h
        obtain ⟨c1, c2, c3, _⟩ := chk17_ok z1
        have hE : hisE n t X P = 0 := by unfold hisE; rw [b1, df z2, df z3]; rfl
        rw [dt c3, bc_t] at h
        unfold hisL
        rw [hE]
        exact .done h
  · have b1 : (chk17 n X P != 0) = true := by simp [z1]
    have b2 : (chk17 n X P == 0) = false := by simp [z1]
    rw [b1, b2, bc_f, bc_t] at h
    exact (EndZ.done h).weak (err _ (by unfold hisE; rw [b1]; rfl) z1)
end RHi2
noncomputable def spRHi2 : ZCT := fun ax => match ax with
  | [.agg [.v (.int .i64 n), .lst (.recs [.int .i64, .int .i64, .int .i64, .int .i64] X), .lst (.recs [.int .i64, .int .i64, .int .i64, .int .i64] P)], .v (.int .i64 t)] => some ⟨decide (True), .tup [ml (hisL n t X P), iv (hisE n t X P)], [], 0⟩
  | _ => none
theorem spRHi2_ok : ZCtOk Try.prog 50 spRHi2 := fun γ w us ax r hs hc hax hN hfz => by
  unfold spRHi2 at hs
  split at hs
  case h_2 => cases hs
  rename_i n X P t
  obtain ⟨rfl⟩ := Option.some.inj hs
  have hc_0 : decide (True) = true := hc
  have hc := of_decide_eq_true hc_0
  exact EndZ.calls (RHi2.ends n t X P) ctRH_ok (by kernel_rfl) hax hN hfz
namespace RBot
noncomputable def RUN (s : ES) : ZF := RZ 83 ctRH (fun _ => false) [] [] false s
theorem in_t (n m : Int) (X P Y Q : List (List U)) : RUN (st0 83 [clE n X P, clE m Y Q]) = (bc (chk17 n X P != (0 : Int)) (.done (EV.v (Value.int IntKind.i64 (chk17 n X P))) [] 0) (.done (EV.v (Value.int IntKind.i64 (chk17 m Y Q))) [] 0)) := by kernel_rfl
end RBot
noncomputable def spRBot : ZCT := fun ax => match ax with
  | [.agg [.v (.int .i64 n), .lst (.recs [.int .i64, .int .i64, .int .i64, .int .i64] X), .lst (.recs [.int .i64, .int .i64, .int .i64, .int .i64] P)], .agg [.v (.int .i64 m), .lst (.recs [.int .i64, .int .i64, .int .i64, .int .i64] Y), .lst (.recs [.int .i64, .int .i64, .int .i64, .int .i64] Q)]] => some ⟨decide (True), iv (botE n m X P Y Q), [], 0⟩
  | _ => none
theorem spRBot_ok : ZCtOk Try.prog 83 spRBot := fun γ w us ax r hs hc hax hN hfz => by
  unfold spRBot at hs
  split at hs
  case h_2 => cases hs
  rename_i n X P m Y Q
  obtain ⟨rfl⟩ := Option.some.inj hs
  have hc_0 : decide (True) = true := hc
  have hc := of_decide_eq_true hc_0
  exact EndZ.calls (by
    have h := RBot.in_t n m X P Y Q
    show EndZ _ _ _ _ (iv (botE n m X P Y Q)) _ _
    unfold botE
    cases h1 : chk17 n X P != 0 <;> rw [h1] at h
    · exact .done h
    · exact .done h) ctRH_ok (by kernel_rfl) hax hN hfz
namespace PMEq
noncomputable def RUN (s : ES) : ZF := RZ 118 .nil (atS 0 118 4) [] [[(0,none),(1,none),(12,none),(13,none)]] false s

noncomputable def sS (a b : List (List U)) (z i : Int) : NS := ⟨[⟨118, 26, [(0, (EV.lst (SyC.recs [(Sh.int IntKind.i64), Sh.bool] (a)))), (1, (EV.lst (SyC.recs [(Sh.int IntKind.i64), Sh.bool] (b)))), (12, iv z), (13, iv i)], [.it (.code (nav [1, 1, 0, 1, 0, 0] (bodyOf Try.f118))), .it (.inLoop (nav [1, 1, 0, 1, 0, 0] (bodyOf Try.f118))), .it (.inBlock 0), .it (.code (nav [1, 1, 1] (bodyOf Try.f118)))], [], Option.none⟩], [], 0⟩
theorem in_t (a b : List (List U)) : RUN (st0 118 [ml a, ml b]) = (bc (Int.ofNat (List.length a) != Int.ofNat (List.length b)) (.done (EV.v (Value.bool false)) [] 0) (.at (sS (a) (b) (Int.ofNat (List.length a)) ((0 : Int))))) := by kernel_rfl
theorem step_t (a b : List (List U)) (z i : Int) : RUN (stOf (sS a b z i)) = (bc (decide (i < z)) (bc (bc (bc (bc (bc (decide ((0 : Int) ≤ i)) (Nat.blt (Int.toNat i) (List.length a)) false) true false) (bc (bc (Nat.blt (Int.toNat i) (List.length a)) true false) (bc (bc (bc (decide ((0 : Int) ≤ i)) (Nat.blt (Int.toNat i) (List.length b)) false) true false) (bc (bc (Nat.blt (Int.toNat i) (List.length b)) true false) true false) false) false) false) true false) (bc (bnot (bc (U.int (List.getD (List.getD a (Int.toNat i) []) (0 : Nat) (U.i (0 : Int))) == U.int (List.getD (List.getD b (Int.toNat i) []) (0 : Nat) (U.i (0 : Int)))) (bc (U.bool (List.getD (List.getD a (Int.toNat i) []) (Nat.succ (0 : Nat)) (U.i (0 : Int))) == U.bool (List.getD (List.getD b (Int.toNat i) []) (Nat.succ (0 : Nat)) (U.i (0 : Int)))) true false) false)) (.done (EV.v (Value.bool false)) [] 0) (.at (sS (a) (b) (z) (IntKind.wrap IntKind.i64 (i + (1 : Int)))))) .bad) (.done (EV.v (Value.bool true)) [] 0)) := by kernel_rfl
theorem loop {a b : List (List U)} (hl : a.length ≤ 100000) (hb : b.length = a.length) : ∀ (k i : Nat), i + k = a.length → EndZ 118 .nil false (stOf (sS a b a.length i)) (bv (meB (a.drop i) (b.drop i))) [] 0
  | 0, i, h => by
    have hs := step_t a b a.length i
    rw [List.drop_eq_nil_of_le (show a.length ≤ i by omega), List.drop_eq_nil_of_le (show b.length ≤ i by omega)]
    simp (disch := omega) only [Nat.add_eq, eqSy_self, eqN_self, bc_same, List.length_cons, ofn, wrap_in, dt, df, bltD, bltN, ble_of, bleN, beqD, bc_t, bc_f, nn_ok, Nat.zero_add, to_nat, Int.zero_add, Int.sub_zero, Int.sub_self, Int.cast_ofNat_Int, Int.natCast_zero, Int.toNat_zero, List.take_zero, List.nil_append, List.length_append, List.length_nil] at hs
    exact .done hs
  | k + 1, i, h => by
    have hs := step_t a b a.length i
    have h2 : i < a.length := by omega
    have h3 : i < b.length := by omega
    have e1 : a.getD i [] = a[i] := getD_at h2
    have e2 : b.getD i [] = b[i] := getD_at h3
    rw [to_nat, e1, e2] at hs
    have f1 : U.int (List.getD a[i] 0 (U.i 0)) = mT a[i] := rfl
    have f2 : U.int (List.getD b[i] 0 (U.i 0)) = mT b[i] := rfl
    have f3 : U.bool (List.getD a[i] (Nat.succ 0) (U.i 0)) = mV a[i] := rfl
    have f4 : U.bool (List.getD b[i] (Nat.succ 0) (U.i 0)) = mV b[i] := rfl
    rw [f1, f2, f3, f4] at hs
    simp (disch := omega) only [Nat.add_eq, eqSy_self, eqN_self, bc_same, List.length_cons, ofn, wrap_in, dt, df, bltD, bltN, ble_of, bleN, beqD, bc_t, bc_f, nn_ok, Nat.zero_add, to_nat, Int.zero_add, Int.sub_zero, Int.sub_self, Int.cast_ofNat_Int, Int.natCast_zero, Int.toNat_zero, List.take_zero, List.nil_append, List.length_append, List.length_nil] at hs
    rw [List.drop_eq_getElem_cons h2, List.drop_eq_getElem_cons h3]
    unfold meB
    cases g1 : (mT a[i] == mT b[i]) <;> rw [g1] at hs
    · exact .done hs
    · cases g2 : (mV a[i] == mV b[i]) <;> rw [g2] at hs
      · exact .done hs
      · exact .at (.nil _) hs (loop hl hb k (i + 1) (by omega))
end PMEq
noncomputable def spMEq : ZCT := fun ax => match ax with
  | [.lst (.recs [.int .i64, .bool] a), .lst (.recs [.int .i64, .bool] b)] => some ⟨decide (a.length ≤ 100000), bv (meB a b), [], 0⟩
  | _ => none
theorem spMEq_ok : ZCtOk Try.prog 118 spMEq := fun γ w us ax r hs hc hax hN hfz => by
  unfold spMEq at hs
  split at hs
  case h_2 => cases hs
  rename_i a b
  obtain ⟨rfl⟩ := Option.some.inj hs
  have hc_0 : decide (a.length ≤ 100000) = true := hc
  have hc := of_decide_eq_true hc_0
  exact EndZ.calls (by
    have h := PMEq.in_t a b
    by_cases h1 : b.length = a.length
    · have e : (Int.ofNat a.length != Int.ofNat b.length) = false := by simp [h1]
      rw [e, bc_f] at h
      exact .at (.nil _) h (PMEq.loop hc h1 a.length 0 (by omega))
    · have e : (Int.ofNat a.length != Int.ofNat b.length) = true := by simp; omega
      rw [e, bc_t] at h
      show EndZ _ _ _ _ (bv (meB a b)) _ _
      rw [meB_len (fun e => h1 e.symm)]
      exact .done h) (.nil _) (by kernel_rfl) hax hN hfz
end Go.Proofs.Ytonbfalbfdkieaa.Ev
namespace Go.Proofs.Ytonbfalbfdkieaa.Ev
open Go.Proofs
noncomputable def ctEq : Tr ZCC := Tr.nil.put 118 (some (dC spMEq))
theorem ctEq_ok : ZCtsOk Try.prog ctEq := (ZCtsOk.nil _).add rfl spMEq_ok
theorem ne0 {a : Int} (h : (a != 0) = false) : a = 0 := by simpa using h
namespace PEqT
noncomputable def RUN (s : ES) : ZF := RZ 116 ctEq (atS 0 116 4) [] [[(0,none),(1,none),(2,none),(15,none),(16,none),(17,none)]] false s

noncomputable def sS (R S : List (List U)) (z i : Int) : NS := ⟨[⟨116, 32, [(0, (EV.lst (SyC.recs [(Sh.list [(Sh.int IntKind.i64), Sh.bool]), (Sh.list [(Sh.int IntKind.i64)])] (R)))), (1, (EV.lst (SyC.recs [(Sh.list [(Sh.int IntKind.i64), Sh.bool]), (Sh.list [(Sh.int IntKind.i64)])] (S)))), (2, (EV.fn 117 [])), (15, (EV.lst (SyC.recs [(Sh.list [(Sh.int IntKind.i64), Sh.bool]), (Sh.list [(Sh.int IntKind.i64)])] (R)))), (16, iv z), (17, iv i)], [.it (.code (nav [1, 1, 0, 1, 0, 0] (bodyOf Try.f116))), .it (.inLoop (nav [1, 1, 0, 1, 0, 0] (bodyOf Try.f116))), .it (.inBlock 0), .it (.code (nav [1, 1, 1] (bodyOf Try.f116)))], [], Option.none⟩], [], 0⟩
theorem in_t (R S : List (List U)) : RUN (st0 116 [EV.lst (.recs shT R), EV.lst (.recs shT S), EV.fn 117 []]) = (bc (Int.ofNat (List.length R) != Int.ofNat (List.length S)) (.done (EV.v (Value.bool false)) [] 0) (.at (sS (R) (S) (Int.ofNat (List.length R)) ((0 : Int))))) := by kernel_rfl
theorem step_t (R S : List (List U)) (z i : Int) : RUN (stOf (sS R S z i)) = (bc (decide (i < z)) (bc (bc (bc (decide ((0 : Int) ≤ i)) (Nat.blt (Int.toNat i) (List.length R)) false) true false) (bc (bc (Nat.blt (Int.toNat i) (List.length R)) true false) (bc (bc (bc (decide ((0 : Int) ≤ i)) (Nat.blt (Int.toNat i) (List.length S)) false) true false) (bc (bc (Nat.blt (Int.toNat i) (List.length S)) true false) (bc (bc (decide (List.length (U.list (List.getD (List.getD R (Int.toNat i) []) (0 : Nat) (U.i (0 : Int)))) ≤ (100000 : Nat))) true false) (bc (!meB (U.list (List.getD (List.getD R (Int.toNat i) []) (0 : Nat) (U.i (0 : Int)))) (U.list (List.getD (List.getD S (Int.toNat i) []) (0 : Nat) (U.i (0 : Int))))) (.done (EV.v (Value.bool false)) [] 0) (.at (sS (R) (S) (z) (IntKind.wrap IntKind.i64 (i + (1 : Int)))))) .bad) .bad) .bad) .bad) .bad) (.done (EV.v (Value.bool true)) [] 0)) := by kernel_rfl
theorem loop {R S : List (List U)} (hl : R.length ≤ 100) (hb : S.length = R.length) (hR : ∀ j : Nat, (rM (R.getD j [])).length ≤ 100000) : ∀ (k i : Nat), i + k = R.length → EndZ 116 ctEq false (stOf (sS R S R.length i)) (bv (eqTB (R.drop i) (S.drop i))) [] 0
  | 0, i, h => by
    have hs := step_t R S R.length i
    rw [List.drop_eq_nil_of_le (show R.length ≤ i by omega), List.drop_eq_nil_of_le (show S.length ≤ i by omega)]
    simp (disch := omega) only [Nat.add_eq, eqSy_self, eqN_self, bc_same, List.length_cons, ofn, wrap_in, dt, df, bltD, bltN, ble_of, bleN, beqD, bc_t, bc_f, nn_ok, Nat.zero_add, to_nat, Int.zero_add, Int.sub_zero, Int.sub_self, Int.cast_ofNat_Int, Int.natCast_zero, Int.toNat_zero, List.take_zero, List.nil_append, List.length_append, List.length_nil] at hs
    exact .done hs
  | k + 1, i, h => by
    have hs := step_t R S R.length i
    have h2 : i < R.length := by omega
    have h3 : i < S.length := by omega
    have hr := hR i
    have e1 : R.getD i [] = R[i] := getD_at h2
    have e2 : S.getD i [] = S[i] := getD_at h3
    rw [e1] at hr
    rw [to_nat, e1, e2] at hs
    have f1 : U.list (List.getD R[i] 0 (U.i 0)) = rM R[i] := rfl
    have f2 : U.list (List.getD S[i] 0 (U.i 0)) = rM S[i] := rfl
    rw [f1, f2, dt hr] at hs
    simp (disch := omega) only [Nat.add_eq, eqSy_self, eqN_self, bc_same, List.length_cons, ofn, wrap_in, dt, df, bltD, bltN, ble_of, bleN, beqD, bc_t, bc_f, nn_ok, Nat.zero_add, to_nat, Int.zero_add, Int.sub_zero, Int.sub_self, Int.cast_ofNat_Int, Int.natCast_zero, Int.toNat_zero, List.take_zero, List.nil_append, List.length_append, List.length_nil] at hs
    rw [List.drop_eq_getElem_cons h2, List.drop_eq_getElem_cons h3]
    unfold eqTB
    cases g1 : meB (rM R[i]) (rM S[i]) <;> rw [g1] at hs
    · exact .done hs
    · exact .at ctEq_ok hs (loop hl hb hR k (i + 1) (by omega))
end PEqT
noncomputable def spEqT : ZCT := fun ax => match ax with
  | [.lst (.recs [.list [.int .i64, .bool], .list [.int .i64]] R), .lst (.recs [.list [.int .i64, .bool], .list [.int .i64]] S), .fn v_0 []] => some ⟨bc (Nat.beq v_0 (117)) (decide (R.length ≤ 100 ∧ hisS R)) false, bv (eqTB R S), [], 0⟩
  | _ => none
theorem spEqT_ok : ZCtOk Try.prog 116 spEqT := fun γ w us ax r hs hc hax hN hfz => by
  unfold spEqT at hs
  split at hs
  case h_2 => cases hs
  rename_i R S v_0
  obtain ⟨rfl⟩ := Option.some.inj hs
  have hc_0 : bc (Nat.beq v_0 (117)) (decide (R.length ≤ 100 ∧ hisS R)) false = true := hc
  obtain ⟨q_0, hc_1⟩ := bcT hc_0
  have p_0 := (Nat.eq_of_beq_eq_true q_0).symm
  subst p_0
  have hc := of_decide_eq_true hc_1
  exact EndZ.calls (by
    have h := PEqT.in_t R S
    by_cases h1 : S.length = R.length
    · have e : (Int.ofNat R.length != Int.ofNat S.length) = false := by simp [h1]
      rw [e, bc_f] at h
      exact .at ctEq_ok h (PEqT.loop hc.1 h1 hc.2 R.length 0 (by omega))
    · have e : (Int.ofNat R.length != Int.ofNat S.length) = true := by simp; omega
      rw [e, bc_t] at h
      show EndZ _ _ _ _ (bv (eqTB R S)) _ _
      rw [eqTB_len (fun e => h1 e.symm)]
      exact .done h) ctEq_ok (by kernel_rfl) hax hN hfz
noncomputable def ctPS : Tr ZCC := ((Tr.nil.put 114 (some (dC spPCk17))).put 82 (some (dC spThr))).put 116 (some (dC spEqT))
theorem ctPS_ok : ZCtsOk Try.prog ctPS := (((ZCtsOk.nil _).add rfl spPCk17_ok).add rfl spThr_ok).add rfl spEqT_ok
namespace PSam
noncomputable def RUN (s : ES) : ZF := RZ 47 ctPS (fun _ => false) [] [] false s
theorem in_t (n m : Int) (X P Y Q : List (List U)) : RUN (st0 47 [clE n X P, clE m Y Q]) = (bc (chk17 n X P != (0 : Int)) (bc (chk17 n X P != (0 : Int)) (.done (EV.tup [(EV.v (Value.bool false)), (EV.v (Value.int IntKind.i64 (chk17 n X P)))]) [] 0) (bc (bc (bc (decide ((0 : Int) ≤ n ∧ n ≤ (48 : Int) ∧ List.length X ≤ (20000 : Nat) ∧ thrs n X)) (bc (decide ((0 : Int) ≤ m ∧ m ≤ (48 : Int) ∧ List.length Y ≤ (20000 : Nat) ∧ thrs m Y)) (bc (bc (decide (List.length (rowsT (thF X (0 : Nat) (th0 (Int.toNat n)))) ≤ (100 : Nat) ∧ hisS (rowsT (thF X (0 : Nat) (th0 (Int.toNat n)))))) true false) true false) false) false) (bc (bc (bc (bc (decide (m = m)) (bc (eqSy (SyC.recs shX Y) (SyC.recs shX Y)) (bc (eqSy (SyC.recs shX Q) (SyC.recs shX Q)) true false) false) false) true false) true false) true false) false) (.done (EV.tup [(EV.v (Value.bool (eqTB (rowsT (thF X (0 : Nat) (th0 (Int.toNat n)))) (rowsT (thF Y (0 : Nat) (th0 (Int.toNat m))))))), (EV.v (Value.int IntKind.i64 (0)))]) [] 0) .bad)) (bc (chk17 m Y Q != (0 : Int)) (bc (chk17 m Y Q != (0 : Int)) (.done (EV.tup [(EV.v (Value.bool false)), (EV.v (Value.int IntKind.i64 (chk17 m Y Q)))]) [] 0) (bc (bc (bc (decide ((0 : Int) ≤ n ∧ n ≤ (48 : Int) ∧ List.length X ≤ (20000 : Nat) ∧ thrs n X)) (bc (decide ((0 : Int) ≤ m ∧ m ≤ (48 : Int) ∧ List.length Y ≤ (20000 : Nat) ∧ thrs m Y)) (bc (bc (decide (List.length (rowsT (thF X (0 : Nat) (th0 (Int.toNat n)))) ≤ (100 : Nat) ∧ hisS (rowsT (thF X (0 : Nat) (th0 (Int.toNat n)))))) true false) true false) false) false) (bc (bc (bc (bc (decide (m = m)) (bc (eqSy (SyC.recs shX Y) (SyC.recs shX Y)) (bc (eqSy (SyC.recs shX Q) (SyC.recs shX Q)) true false) false) false) true false) true false) true false) false) (.done (EV.tup [(EV.v (Value.bool (eqTB (rowsT (thF X (0 : Nat) (th0 (Int.toNat n)))) (rowsT (thF Y (0 : Nat) (th0 (Int.toNat m))))))), (EV.v (Value.int IntKind.i64 (0)))]) [] 0) .bad)) (bc (bc (bc (decide ((0 : Int) ≤ n ∧ n ≤ (48 : Int) ∧ List.length X ≤ (20000 : Nat) ∧ thrs n X)) (bc (decide ((0 : Int) ≤ m ∧ m ≤ (48 : Int) ∧ List.length Y ≤ (20000 : Nat) ∧ thrs m Y)) (bc (bc (decide (List.length (rowsT (thF X (0 : Nat) (th0 (Int.toNat n)))) ≤ (100 : Nat) ∧ hisS (rowsT (thF X (0 : Nat) (th0 (Int.toNat n)))))) true false) true false) false) false) (bc (bc (bc (bc (decide (m = m)) (bc (eqSy (SyC.recs shX Y) (SyC.recs shX Y)) (bc (eqSy (SyC.recs shX Q) (SyC.recs shX Q)) true false) false) false) true false) true false) true false) false) (.done (EV.tup [(EV.v (Value.bool (eqTB (rowsT (thF X (0 : Nat) (th0 (Int.toNat n)))) (rowsT (thF Y (0 : Nat) (th0 (Int.toNat m))))))), (EV.v (Value.int IntKind.i64 (0)))]) [] 0) .bad))) := by kernel_rfl
theorem ends (n m : Int) (X P Y Q : List (List U)) : EndZ 47 ctPS false (st0 47 [clE n X P, clE m Y Q]) (.tup [bv (samB n m X P Y Q), iv (botE n m X P Y Q)]) [] 0 := by
  have h := in_t n m X P Y Q
  unfold samB botE
  by_cases z1 : chk17 n X P = 0
  · have b1 : (chk17 n X P != 0) = false := by simp [z1]
    rw [b1, bc_f] at h
    rw [b1, bc_f]
    by_cases z2 : chk17 m Y Q = 0
    · have b3 : (chk17 m Y Q != 0) = false := by simp [z2]
      rw [b3, bc_f] at h
      rw [b3, bc_f, z2]
      obtain ⟨c1, c2, c3, c4, c5, _⟩ := chk17_ok z1
      obtain ⟨d1, d2, d3, d4, d5, _⟩ := chk17_ok z2
      obtain ⟨n, rfl⟩ := Int.eq_ofNat_of_zero_le (show 0 ≤ n by omega)
      obtain ⟨m, rfl⟩ := Int.eq_ofNat_of_zero_le (show 0 ≤ m by omega)
      rw [to_nat, to_nat, dt (show (0 : Int) ≤ m ∧ (m : Int) ≤ 48 ∧ Y.length ≤ 20000 ∧ thrs m Y from ⟨by omega, by omega, by omega, d5⟩), dt (show (0 : Int) ≤ n ∧ (n : Int) ≤ 48 ∧ X.length ≤ 20000 ∧ thrs n X from ⟨by omega, by omega, by omega, c5⟩), dt (show (rowsT (thF X 0 (th0 n))).length ≤ 100 ∧ hisS (rowsT (thF X 0 (th0 n))) from ⟨by rw [rowsH_len]; omega, hisS_rows c5 c3⟩)] at h
      simp (disch := omega) only [Nat.add_eq, eqSy_self, eqN_self, bc_same, List.length_cons, ofn, wrap_in, dt, df, bltD, bltN, ble_of, bleN, beqD, bc_t, bc_f, nn_ok, Nat.zero_add, to_nat, Int.zero_add, Int.sub_zero, Int.sub_self, Int.cast_ofNat_Int, Int.natCast_zero, Int.toNat_zero, List.take_zero, List.nil_append, List.length_append, List.length_nil] at h
      have hb : eqTB (rowsT (thF X 0 (th0 n))) (rowsT (thF Y 0 (th0 m))) = bc ((n : Int) != (m : Int)) false (sameF X Y 0 n) := by
        by_cases z3 : n = m
        · subst z3
          have b4 : ((n : Int) != (n : Int)) = false := by simp
          rw [b4, bc_f]
          exact eqTB_rows c5 d5 n 0 (by omega)
        · have b4 : ((n : Int) != (m : Int)) = true := by simp; omega
          rw [b4, bc_t]
          exact eqTB_len (by rw [rowsH_len, rowsH_len]; exact z3)
      rw [hb] at h
      exact .done h
    · have b3 : (chk17 m Y Q != 0) = true := by simp [z2]
      rw [b3, bc_t, bc_t] at h
      rw [b3, bc_t]
      exact .done h
  · have b1 : (chk17 n X P != 0) = true := by simp [z1]
    rw [b1, bc_t, bc_t] at h
    rw [b1, bc_t, b1, bc_t]
    exact .done h
end PSam
noncomputable def spPSam : ZCT := fun ax => match ax with
  | [.agg [.v (.int .i64 n), .lst (.recs [.int .i64, .int .i64, .int .i64, .int .i64] X), .lst (.recs [.int .i64, .int .i64, .int .i64, .int .i64] P)], .agg [.v (.int .i64 m), .lst (.recs [.int .i64, .int .i64, .int .i64, .int .i64] Y), .lst (.recs [.int .i64, .int .i64, .int .i64, .int .i64] Q)]] => some ⟨decide (True), .tup [bv (samB n m X P Y Q), iv (botE n m X P Y Q)], [], 0⟩
  | _ => none
theorem spPSam_ok : ZCtOk Try.prog 47 spPSam := fun γ w us ax r hs hc hax hN hfz => by
  unfold spPSam at hs
  split at hs
  case h_2 => cases hs
  rename_i n X P m Y Q
  obtain ⟨rfl⟩ := Option.some.inj hs
  have hc_0 : decide (True) = true := hc
  have hc := of_decide_eq_true hc_0
  exact EndZ.calls (PSam.ends n m X P Y Q) ctPS_ok (by kernel_rfl) hax hN hfz
namespace RSam
noncomputable def ctRS : Tr ZCC := ((Tr.nil.put 83 (some (dC spRBot))).put 85 (some (dC spRHis))).put 84 (some (dC spRPar))
theorem ctRS_ok : ZCtsOk Try.prog ctRS := (((ZCtsOk.nil _).add rfl spRBot_ok).add rfl spRHis_ok).add rfl spRPar_ok
noncomputable def RUN (s : ES) : ZF := RZ 51 ctRS (atS 0 51 5) [] [[(2,none),(3,none),(7,none)]] false s

noncomputable def sS (n m : Int) (X P Y Q : List (List U)) (i : Int) : NS := ⟨[⟨51, 42, [(2, (EV.ptr 0 0)), (3, (EV.ptr 1 0)), (7, iv i)], [.it (.code (nav [1, 1, 1, 0, 1, 0, 0, 0] (bodyOf Try.f51))), .it (.code (nav [1, 1, 1, 0, 1, 0, 0, 1] (bodyOf Try.f51))), .it (.inLoop (nav [1, 1, 1, 0, 1, 0, 0] (bodyOf Try.f51))), .it (.inBlock 0), .it (.code (nav [1, 1, 1, 1] (bodyOf Try.f51)))], [], Option.none⟩], [(0, (EK.cells 25 [(EV.v (Value.int IntKind.i64 (n))), (EV.lst (SyC.recs [(Sh.int IntKind.i64), (Sh.int IntKind.i64), (Sh.int IntKind.i64), (Sh.int IntKind.i64)] (X))), (EV.lst (SyC.recs [(Sh.int IntKind.i64), (Sh.int IntKind.i64), (Sh.int IntKind.i64), (Sh.int IntKind.i64)] (P)))] true)), (1, (EK.cells 25 [(EV.v (Value.int IntKind.i64 (m))), (EV.lst (SyC.recs [(Sh.int IntKind.i64), (Sh.int IntKind.i64), (Sh.int IntKind.i64), (Sh.int IntKind.i64)] (Y))), (EV.lst (SyC.recs [(Sh.int IntKind.i64), (Sh.int IntKind.i64), (Sh.int IntKind.i64), (Sh.int IntKind.i64)] (Q)))] true))], 2⟩
theorem in_t (n m : Int) (X P Y Q : List (List U)) : RUN (st0 51 [clE n X P, clE m Y Q]) = (bc (botE n m X P Y Q != (0 : Int)) (.done (EV.tup [(EV.v (Value.bool false)), (EV.v (Value.int IntKind.i64 (botE n m X P Y Q)))]) [] 0) (bc (n != m) (.done (EV.tup [(EV.v (Value.bool false)), (EV.v (Value.int IntKind.i64 (botE n m X P Y Q)))]) [] 0) (.at (sS (n) (m) (X) (P) (Y) (Q) ((0 : Int)))))) := by kernel_rfl
theorem step_t (n m : Int) (X P Y Q : List (List U)) (i : Int) : RUN (stOf (sS n m X P Y Q i)) = (bc (decide (i < n)) (bc (bc (bc (decide (List.length X ≤ (20000 : Nat))) (bc (decide (List.length Y ≤ (20000 : Nat))) (bc (bc (decide (List.length (hiF i X) ≤ (50000 : Nat) ∧ List.length (hiF i Y) ≤ (50000 : Nat))) true false) true false) false) false) (bc (bc (bc (bc (decide (m = m)) (bc (eqSy (SyC.recs [Sh.int IntKind.i64, Sh.int IntKind.i64, Sh.int IntKind.i64, Sh.int IntKind.i64] Y) (SyC.recs [Sh.int IntKind.i64, Sh.int IntKind.i64, Sh.int IntKind.i64, Sh.int IntKind.i64] Y)) (bc (eqSy (SyC.recs [Sh.int IntKind.i64, Sh.int IntKind.i64, Sh.int IntKind.i64, Sh.int IntKind.i64] Q) (SyC.recs [Sh.int IntKind.i64, Sh.int IntKind.i64, Sh.int IntKind.i64, Sh.int IntKind.i64] Q)) true false) false) false) true false) true false) true false) false) (bc (Prod.snd (Prod.snd (paF (0 : Nat) (hiF i X) (hiF i Y)))) (.done (EV.tup [(EV.v (Value.bool false)), (EV.v (Value.int IntKind.i64 (0)))]) [] 0) (.at (sS (n) (m) (X) (P) (Y) (Q) (IntKind.wrap IntKind.i64 (i + (1 : Int)))))) .bad) (.done (EV.tup [(EV.v (Value.bool true)), (EV.v (Value.int IntKind.i64 (0)))]) [] 0)) := by kernel_rfl
theorem loop {n : Nat} {m : Int} {X P Y Q : List (List U)} (hX : X.length ≤ 20000) (hY : Y.length ≤ 20000) (hn : n ≤ 48) : ∀ (k i : Nat), i + k = n → EndZ 51 ctRS false (stOf (sS n m X P Y Q i)) (.tup [bv (sameF X Y i k), iv 0]) [] 0
  | 0, i, h => by
    have hs := step_t n m X P Y Q i
    simp (disch := omega) only [Nat.add_eq, eqSy_self, eqN_self, bc_same, List.length_cons, ofn, wrap_in, dt, df, bltD, bltN, ble_of, bleN, beqD, bc_t, bc_f, nn_ok, Nat.zero_add, to_nat, Int.zero_add, Int.sub_zero, Int.sub_self, Int.cast_ofNat_Int, Int.natCast_zero, Int.toNat_zero, List.take_zero, List.nil_append, List.length_append, List.length_nil] at hs
    exact .done hs
  | k + 1, i, h => by
    have hs := step_t n m X P Y Q i
    have hx := hiF_len i X
    have hy := hiF_len i Y
    have hc : (hiF (i : Int) X).length ≤ 50000 ∧ (hiF (i : Int) Y).length ≤ 50000 := by omega
    rw [dt hc, paF_meB] at hs
    simp (disch := omega) only [Nat.add_eq, eqSy_self, eqN_self, bc_same, List.length_cons, ofn, wrap_in, dt, df, bltD, bltN, ble_of, bleN, beqD, bc_t, bc_f, nn_ok, Nat.zero_add, to_nat, Int.zero_add, Int.sub_zero, Int.sub_self, Int.cast_ofNat_Int, Int.natCast_zero, Int.toNat_zero, List.take_zero, List.nil_append, List.length_append, List.length_nil] at hs
    unfold sameF
    cases g1 : meB (hiF i X) (hiF i Y) <;> rw [g1] at hs
    · exact .done hs
    · exact .at ctRS_ok hs (loop hX hY hn k (i + 1) (by omega))
theorem ends (n m : Int) (X P Y Q : List (List U)) : EndZ 51 ctRS false (st0 51 [clE n X P, clE m Y Q]) (.tup [bv (samB n m X P Y Q), iv (botE n m X P Y Q)]) [] 0 := by
  have h := in_t n m X P Y Q
  unfold samB
  by_cases z0 : botE n m X P Y Q = 0
  · have b0 : (botE n m X P Y Q != 0) = false := by simp [z0]
    rw [b0, bc_f] at h
    rw [b0, bc_f]
    by_cases z3 : n = m
    · have b4 : (n != m) = false := by simp [z3]
      rw [b4, bc_f] at h
      rw [b4, bc_f, z0]
      have z1 : chk17 n X P = 0 := by
        cases b1 : chk17 n X P != 0 with
        | false => exact ne0 b1
        | true =>
          have e : botE n m X P Y Q = chk17 n X P := by unfold botE; rw [b1]; rfl
          exact e ▸ z0
      have z2 : chk17 m Y Q = 0 := by
        have e : botE n m X P Y Q = chk17 m Y Q := by unfold botE; rw [show (chk17 n X P != 0) = false by simp [z1]]; rfl
        exact e ▸ z0
      obtain ⟨c1, c2, c3, _⟩ := chk17_ok z1
      obtain ⟨_, _, d3, _⟩ := chk17_ok z2
      obtain ⟨n, rfl⟩ := Int.eq_ofNat_of_zero_le (show 0 ≤ n by omega)
      exact .at ctRS_ok h (loop c3 d3 (by omega) n 0 (by omega))
    · have b4 : (n != m) = true := by simp [z3]
      rw [b4, bc_t] at h
      rw [b4, bc_t]
      exact .done h
  · have b0 : (botE n m X P Y Q != 0) = true := by simp [z0]
    rw [b0, bc_t] at h
    rw [b0, bc_t]
    exact .done h
end RSam
noncomputable def spRSam : ZCT := fun ax => match ax with
  | [.agg [.v (.int .i64 n), .lst (.recs [.int .i64, .int .i64, .int .i64, .int .i64] X), .lst (.recs [.int .i64, .int .i64, .int .i64, .int .i64] P)], .agg [.v (.int .i64 m), .lst (.recs [.int .i64, .int .i64, .int .i64, .int .i64] Y), .lst (.recs [.int .i64, .int .i64, .int .i64, .int .i64] Q)]] => some ⟨decide (True), .tup [bv (samB n m X P Y Q), iv (botE n m X P Y Q)], [], 0⟩
  | _ => none
theorem spRSam_ok : ZCtOk Try.prog 51 spRSam := fun γ w us ax r hs hc hax hN hfz => by
  unfold spRSam at hs
  split at hs
  case h_2 => cases hs
  rename_i n X P m Y Q
  obtain ⟨rfl⟩ := Option.some.inj hs
  have hc_0 : decide (True) = true := hc
  have hc := of_decide_eq_true hc_0
  exact EndZ.calls (RSam.ends n m X P Y Q) RSam.ctRS_ok (by kernel_rfl) hax hN hfz
namespace LMts
noncomputable def RUN (s : ES) : ZF := RZ 54 .nil (atS 0 54 4) [] [[(0,none),(1,none),(5,none)]] false s

noncomputable def sS (a b : List (List U)) (i : Int) : NS := ⟨[⟨54, 26, [(0, (EV.lst (SyC.recs [(Sh.int IntKind.i64), Sh.bool] (a)))), (1, (EV.lst (SyC.recs [(Sh.int IntKind.i64), Sh.bool] (b)))), (5, iv i)], [.it (.code (nav [1, 1, 0, 1, 0, 0, 0] (bodyOf Try.f54))), .it (.code (nav [1, 1, 0, 1, 0, 0, 1] (bodyOf Try.f54))), .it (.inLoop (nav [1, 1, 0, 1, 0, 0] (bodyOf Try.f54))), .it (.inBlock 0), .it (.code (nav [1, 1, 1] (bodyOf Try.f54)))], [], Option.none⟩], [], 0⟩
theorem in_t (a b : List (List U)) : RUN (st0 54 [ml a, ml b]) = (bc (Int.ofNat (List.length a) != Int.ofNat (List.length b)) (.done (EV.v (Value.bool false)) [] 0) (.at (sS (a) (b) ((0 : Int))))) := by kernel_rfl
theorem step_t (a b : List (List U)) (i : Int) : RUN (stOf (sS a b i)) = (bc (decide (i < Int.ofNat (List.length a))) (bc (bc (bc (bc (bc (decide ((0 : Int) ≤ i)) (Nat.blt (Int.toNat i) (List.length a)) false) true false) (bc (bc (Nat.blt (Int.toNat i) (List.length a)) true false) (bc (bc (bc (decide ((0 : Int) ≤ i)) (Nat.blt (Int.toNat i) (List.length b)) false) true false) (bc (bc (Nat.blt (Int.toNat i) (List.length b)) true false) true false) false) false) false) true false) (bc (bnot (bc (U.int (List.getD (List.getD a (Int.toNat i) []) (0 : Nat) (U.i (0 : Int))) == U.int (List.getD (List.getD b (Int.toNat i) []) (0 : Nat) (U.i (0 : Int)))) (bc (U.bool (List.getD (List.getD a (Int.toNat i) []) (Nat.succ (0 : Nat)) (U.i (0 : Int))) == U.bool (List.getD (List.getD b (Int.toNat i) []) (Nat.succ (0 : Nat)) (U.i (0 : Int)))) true false) false)) (.done (EV.v (Value.bool false)) [] 0) (.at (sS (a) (b) (IntKind.wrap IntKind.i64 (i + (1 : Int)))))) .bad) (.done (EV.v (Value.bool true)) [] 0)) := by kernel_rfl
theorem loop {a : List (List U)} (hl : a.length ≤ 100000) : ∀ (k i : Nat), i + k = a.length → EndZ 54 .nil false (stOf (sS a a i)) (bv true) [] 0
  | 0, i, h => by
    have hs := step_t a a i
    simp (disch := omega) only [Nat.add_eq, eqSy_self, eqN_self, bc_same, List.length_cons, ofn, wrap_in, dt, df, bltD, bltN, ble_of, bleN, beqD, bc_t, bc_f, nn_ok, Nat.zero_add, to_nat, Int.zero_add, Int.sub_zero, Int.sub_self, Int.cast_ofNat_Int, Int.natCast_zero, Int.toNat_zero, List.take_zero, List.nil_append, List.length_append, List.length_nil] at hs
    exact .done hs
  | k + 1, i, h => by
    have hs := step_t a a i
    simp (disch := omega) only [Nat.add_eq, eqSy_self, eqN_self, bc_same, List.length_cons, ofn, wrap_in, dt, df, bltD, bltN, ble_of, bleN, beqD, bc_t, bc_f, nn_ok, Nat.zero_add, to_nat, Int.zero_add, Int.sub_zero, Int.sub_self, Int.cast_ofNat_Int, Int.natCast_zero, Int.toNat_zero, List.take_zero, List.nil_append, List.length_append, List.length_nil, bne_self_eq_false, beq_self_eq_true, bnot] at hs
    exact .at (.nil _) hs (loop hl k (i + 1) (by omega))
end LMts
noncomputable def spMts : ZCT := fun ax => match ax with
  | [.lst (.recs [.int .i64, .bool] a), .lst (.recs [.int .i64, .bool] b)] => some ⟨decide (eqR a b ∧ a.length ≤ 100000), bv true, [], 0⟩
  | _ => none
theorem spMts_ok : ZCtOk Try.prog 54 spMts := fun γ w us ax r hs hc hax hN hfz => by
  unfold spMts at hs
  split at hs
  case h_2 => cases hs
  rename_i a b
  obtain ⟨rfl⟩ := Option.some.inj hs
  have hc_0 : decide (eqR a b ∧ a.length ≤ 100000) = true := hc
  have hc := of_decide_eq_true hc_0
  exact EndZ.calls (by
    obtain ⟨e0, hl⟩ := hc
    have e0 : a = b := e0
    subst e0
    have h := LMts.in_t a a
    have e : (Int.ofNat a.length != Int.ofNat a.length) = false := by simp
    rw [e, bc_f] at h
    exact .at (.nil _) h (LMts.loop hl a.length 0 (by omega))) (.nil _) (by kernel_rfl) hax hN hfz
end Go.Proofs.Ytonbfalbfdkieaa.Ev
namespace Go.Proofs.Ytonbfalbfdkieaa.Ev
abbrev Ps := List (List (List U))
noncomputable def rowsP (T : Ps) : List (List U) := T.map fun p => [U.l p]
noncomputable def getP (T : Ps) (j : Nat) : List (List U) := T.getD j []
noncomputable def addP (T : Ps) (j : Nat) (y : List U) : Ps := T.set j (getP T j ++ [y])
theorem rowsP_len (T : Ps) : (rowsP T).length = T.length := by unfold rowsP; simp
theorem addP_len (T : Ps) (j : Nat) (y : List U) : (addP T j y).length = T.length := by unfold addP; simp
theorem rowsP_get {T : Ps} {j : Nat} (h : j < T.length) : (rowsP T).getD j [] = [U.l (getP T j)] := by
  unfold rowsP getP
  rw [List.getD_eq_getElem?_getD, List.getElem?_map, List.getElem?_eq_getElem h, List.getD_eq_getElem?_getD, List.getElem?_eq_getElem h]
  rfl
theorem getR {T : Ps} {j : Nat} (h : j < T.length) : rM ((rowsP T).getD j []) = getP T j := by rw [rowsP_get h]; rfl
theorem upP1 {T : Ps} {j : Nat} (h : j < T.length) (y : List U) : (rowsP T).set j (rset 0 (U.l (getP T j ++ [y])) ((rowsP T).getD j [])) = rowsP (addP T j y) := by
  rw [rowsP_get h]
  unfold addP rowsP
  rw [List.map_set]
  rfl
theorem getP_add {T : Ps} {j k : Nat} {y : List U} (h : j < T.length) : getP (addP T j y) k = if k = j then getP T j ++ [y] else getP T k := by
  unfold addP
  rw [show getP (T.set j (getP T j ++ [y])) k = (T.set j (getP T j ++ [y])).getD k [] from rfl, List.getD_eq_getElem?_getD, List.getElem?_set]
  by_cases e : j = k
  · subst e; rw [if_pos rfl, if_pos h, if_pos rfl]; rfl
  · rw [if_neg e, if_neg (fun e2 => e e2.symm), ← List.getD_eq_getElem?_getD]; rfl
theorem uhA (a c : Nat) : unHoleC a 0 [(c, 0), (a, 0)] = true := Nat.beq_refl a
theorem uhB (a c : Nat) : unHoleC c 0 (unHole 0 [(c, 0), (a, 0)]) = true := Nat.beq_refl c
noncomputable def pnR (r : List U) : List U := [.i (xO r), .i (xU r)]

noncomputable def upP (T : Ps) (r : List U) : Ps := addP (addP T (xO r).toNat (pnR r)) (xU r).toNat (pnR r)
noncomputable def pnF : List (List U) → Ps → Ps
  | [], T => T
  | r :: q, T => pnF q (upP T r)
noncomputable def pn0 (n : Nat) : Ps := List.replicate n []
theorem upP_len (T : Ps) (r : List U) : (upP T r).length = T.length := by unfold upP; rw [addP_len, addP_len]
theorem pnF_len : ∀ (l : List (List U)) (T : Ps), (pnF l T).length = T.length
  | [], _ => rfl
  | r :: q, T => by unfold pnF; rw [pnF_len q, upP_len]
theorem upP2 {T : Ps} {a c : Nat} (ha : a < T.length) (hc : c < T.length) (hac : ¬ c = a) (y : List U) :
    ((rowsP T).set a (rset 0 (U.l (getP T a ++ [y])) ((rowsP T).getD a []))).set c (rset 0 (U.l (getP T c ++ [y])) (((rowsP T).set a (rset 0 (U.l (getP T a ++ [y])) ((rowsP T).getD a []))).getD c [])) = rowsP (addP (addP T a y) c y) := by
  rw [upP1 ha]
  have e : getP T c = getP (addP T a y) c := by rw [getP_add ha, if_neg hac]
  rw [e]
  exact upP1 (by rw [addP_len]; exact hc) y
def ShP (T : Ps) (b : Nat) : Prop := ∀ j, (getP T j).length ≤ b
theorem ShP.up {T : Ps} {b : Nat} {r : List U} (h : ShP T b) (h1 : (xO r).toNat < T.length) (h2 : (xU r).toNat < T.length) : ShP (upP T r) (b + 2) := fun k => by
  unfold upP
  rw [getP_add (by rw [addP_len]; exact h2), getP_add h1, getP_add h1]
  have a1 := h k
  have a2 := h (xO r).toNat
  have a3 := h (xU r).toNat
  split
  · split <;> simp <;> omega
  · split
    · simp; omega
    · omega

def prs (n : Int) (X : List (List U)) : Prop := ∀ r, r ∈ X → 0 ≤ xO r ∧ xO r < n ∧ 0 ≤ xU r ∧ xU r < n ∧ xO r ≠ xU r
noncomputable instance (n : Int) (X : List (List U)) : Decidable (prs n X) := Classical.propDecidable _
theorem prs_of {n : Int} {P : List (List U)} (h : P.all (okP n) = true) : prs n P := fun r hr => by
  have h1 := List.all_eq_true.1 h r hr
  unfold okP at h1
  by_cases a0 : okX n r = true
  · rw [a0, bc_t] at h1
    by_cases a1 : 0 ≤ xO r
    · rw [dt a1, bc_t] at h1
      by_cases a2 : xO r ≤ n - 1
      · rw [dt a2, bc_t] at h1
        by_cases a3 : 0 ≤ xU r
        · rw [dt a3, bc_t] at h1
          by_cases a4 : xU r ≤ n - 1
          · rw [dt a4, bc_t] at h1
            have h2 : xO r ≠ xU r := by simpa using h1
            omega
          · rw [df a4] at h1; cases h1
        · rw [df a3] at h1; cases h1
      · rw [df a2] at h1; cases h1
    · rw [df a1] at h1; cases h1
  · rw [show okX n r = false by simpa using a0] at h1; cases h1

noncomputable def piF (t : Int) : List (List U) → List (List U)
  | [] => []
  | r :: q => bc (bc (xO r == t) true (xU r == t)) [pnR r] [] ++ piF t q
theorem piF_len (t : Int) : ∀ l : List (List U), (piF t l).length ≤ l.length
  | [] => Nat.le_refl _
  | r :: q => by
    have := piF_len t q
    unfold piF
    rw [List.length_append, List.length_cons]
    cases bc (xO r == t) true (xU r == t)
    · rw [bc_f]; simp; omega
    · rw [bc_t]; simp; omega
theorem pnF_pi (t : Nat) : ∀ (l : List (List U)) (T : Ps), prs T.length l → getP (pnF l T) t = getP T t ++ piF t l
  | [], T, _ => by unfold pnF piF; simp
  | r :: q, T, hr => by
    obtain ⟨h1, h2, h3, h4, h5⟩ := hr r List.mem_cons_self
    unfold pnF piF
    rw [pnF_pi t q (upP T r) (fun r' h' => by rw [upP_len]; exact hr r' (List.mem_cons_of_mem _ h'))]
    unfold upP
    rw [getP_add (by rw [addP_len]; omega), getP_add (by omega), getP_add (by omega)]
    have e1 : (xO r == (t : Int)) = decide (t = (xO r).toNat) := by
      apply Bool.eq_iff_iff.2; simp only [beq_iff_eq, decide_eq_true_eq]; omega
    have e2 : (xU r == (t : Int)) = decide (t = (xU r).toNat) := by
      apply Bool.eq_iff_iff.2; simp only [beq_iff_eq, decide_eq_true_eq]; omega
    rw [e1, e2, if_neg (show ¬ (xU r).toNat = (xO r).toNat by omega)]
    by_cases a1 : t = (xO r).toNat
    · have a2 : ¬ t = (xU r).toNat := by omega
      rw [dt a1, bc_t, bc_t, if_neg a2, if_pos a1, List.append_assoc]
      rw [a1]
    · by_cases a2 : t = (xU r).toNat
      · rw [df a1, bc_f, dt a2, bc_t, if_pos a2, List.append_assoc]
        rw [a2]
      · rw [df a1, bc_f, df a2, bc_f, if_neg a2, if_neg a1]; rfl

noncomputable def i2B : List (List U) → List (List U) → Bool
  | [], [] => true
  | [], _ :: _ => false
  | _ :: _, [] => false
  | x :: a, y :: b => bc (mT x == mT y) (bc (xA x == xA y) (i2B a b) false) false
theorem i2B_len : ∀ {a b : List (List U)}, a.length ≠ b.length → i2B a b = false
  | [], [], h => absurd rfl h
  | [], _ :: _, _ => rfl
  | _ :: _, [], _ => rfl
  | x :: a, y :: b, h => by
    unfold i2B
    rw [i2B_len (a := a) (b := b) (by simp at h; exact h)]
    cases (mT x == mT y) <;> cases (xA x == xA y) <;> rfl
noncomputable def eqPB : List (List U) → List (List U) → Bool
  | [], [] => true
  | [], _ :: _ => false
  | _ :: _, [] => false
  | x :: a, y :: b => bc (i2B (rM x) (rM y)) (eqPB a b) false
theorem eqPB_len : ∀ {a b : List (List U)}, a.length ≠ b.length → eqPB a b = false
  | [], [], h => absurd rfl h
  | [], _ :: _, _ => rfl
  | _ :: _, [], _ => rfl
  | x :: a, y :: b, h => by
    unfold eqPB
    rw [eqPB_len (a := a) (b := b) (by simp at h; exact h)]
    cases i2B (rM x) (rM y) <;> rfl
noncomputable def pinF (P Q : List (List U)) : Nat → Nat → Bool
  | _, 0 => true
  | t, k + 1 => bc (i2B (piF t P) (piF t Q)) (pinF P Q (t + 1) k) false
theorem rowsN_len (n : Nat) (P : List (List U)) : (rowsP (pnF P (pn0 n))).length = n := by rw [rowsP_len, pnF_len]; unfold pn0; simp
theorem rowsN {n t : Nat} {P : List (List U)} (tp : prs n P) (ht : t < n) : rM ((rowsP (pnF P (pn0 n))).getD t []) = piF t P := by
  have l0 : (pn0 n).length = n := by unfold pn0; simp
  have g0 : getP (pn0 n) t = [] := by
    unfold getP pn0
    rw [List.getD_eq_getElem?_getD, List.getElem?_replicate, if_pos ht]; rfl
  have h1 := pnF_pi t P (pn0 n) (by rw [l0]; exact tp)
  rw [g0, List.nil_append] at h1
  exact (getR (by rw [pnF_len, l0]; exact ht)).trans h1
theorem rowsN_out {n t : Nat} {P : List (List U)} (ht : n ≤ t) : rM ((rowsP (pnF P (pn0 n))).getD t []) = [] := by
  rw [List.getD_eq_getElem?_getD, List.getElem?_eq_none (by rw [rowsN_len]; exact ht)]
  rfl
theorem hisS_rowsP {n : Nat} {P : List (List U)} (tp : prs n P) (hP : P.length ≤ 20000) : hisS (rowsP (pnF P (pn0 n))) := fun j => by
  by_cases h : j < n
  · rw [rowsN tp h]
    have := piF_len j P
    omega
  · rw [rowsN_out (by omega)]; exact Nat.zero_le _
theorem eqPB_rows {n : Nat} {P Q : List (List U)} (tp : prs n P) (tq : prs n Q) : ∀ (k t : Nat), t + k = n → eqPB ((rowsP (pnF P (pn0 n))).drop t) ((rowsP (pnF Q (pn0 n))).drop t) = pinF P Q t k
  | 0, t, h => by
    rw [List.drop_eq_nil_of_le (by rw [rowsN_len]; omega), List.drop_eq_nil_of_le (by rw [rowsN_len]; omega)]; rfl
  | k + 1, t, h => by
    have ht : t < n := by omega
    have hx := rowsN tp ht
    have hy := rowsN tq ht
    have lx : t < (rowsP (pnF P (pn0 n))).length := by rw [rowsN_len]; exact ht
    have ly : t < (rowsP (pnF Q (pn0 n))).length := by rw [rowsN_len]; exact ht
    rw [getD_at lx] at hx
    rw [getD_at ly] at hy
    rw [List.drop_eq_getElem_cons lx, List.drop_eq_getElem_cons ly]
    unfold eqPB pinF
    rw [hx, hy, eqPB_rows tp tq k (t + 1) (by omega)]
theorem botE_ok {n m : Int} {X P Y Q : List (List U)} (h : botE n m X P Y Q = 0) : chk17 n X P = 0 ∧ chk17 m Y Q = 0 := by
  unfold botE at h
  by_cases z : chk17 n X P = 0
  · rw [show (chk17 n X P != 0) = false by simp [z], bc_f] at h
    exact ⟨z, h⟩
  · rw [show (chk17 n X P != 0) = true by simp [z], bc_t] at h
    exact absurd h z
noncomputable def pindB (n m : Int) (X P Y Q : List (List U)) : Bool := bc (botE n m X P Y Q != 0) false (bc (n != m) false (pinF P Q 0 n.toNat))
end Go.Proofs.Ytonbfalbfdkieaa.Ev
namespace Go.Proofs.Ytonbfalbfdkieaa.Ev
open Go.Proofs
namespace RPns
noncomputable def RUN (s : ES) : ZF := RZ 125 .nil (atS 0 125 3) [] [[(1,none),(2,none),(5,some (2, 122, .recs [.int .i64, .int .i64] [])),(6,none)]] false s

noncomputable def sH (n t : Int) (X P q : List (List U)) (nn : Bool) (i : Int) : NS := ⟨[⟨125, 49, [(1, (EV.v (Value.int IntKind.i64 (t)))), (2, (EV.ptr 0 0)), (5, EV.slO 1 2 q.length nn), (6, iv i)], [.it (.code (nav [1, 1, 0, 1, 0, 0, 0] (bodyOf Try.f125))), .it (.code (nav [1, 1, 0, 1, 0, 0, 1] (bodyOf Try.f125))), .it (.inLoop (nav [1, 1, 0, 1, 0, 0] (bodyOf Try.f125))), .it (.inBlock 0), .it (.code (nav [1, 1, 1] (bodyOf Try.f125)))], [], Option.none⟩], [(0, (EK.cells 25 [(EV.v (Value.int IntKind.i64 (n))), (EV.lst (SyC.recs [(Sh.int IntKind.i64), (Sh.int IntKind.i64), (Sh.int IntKind.i64), (Sh.int IntKind.i64)] (X))), (EV.lst (SyC.recs [(Sh.int IntKind.i64), (Sh.int IntKind.i64), (Sh.int IntKind.i64), (Sh.int IntKind.i64)] (P)))] true)), (1, EK.seq 122 (.recs [.int .i64, .int .i64] q) nn)], 2⟩
theorem in_t (n t : Int) (X P : List (List U)) : RUN (st0 125 [clE n X P, iv t]) = (.at (sH (n) (t) (X) (P) ([]) (false) ((0 : Int)))) := by kernel_rfl
theorem step_t (n t : Int) (X P q : List (List U)) (nn : Bool) (i : Int) : RUN (stOf (sH n t X P q nn i)) = (bc (decide (i < Int.ofNat (List.length P))) (bc (bc (bc (decide ((0 : Int) ≤ i)) (Nat.blt (Int.toNat i) (List.length P)) false) true false) (bc (bc (Nat.blt (Int.toNat i) (List.length P)) true false) (bc (U.int (List.getD (List.getD P (Int.toNat i) []) (Nat.add (0 : Nat) (2 : Nat)) (U.i (0 : Int))) == t) (bc (bc (bc (bc (bc (decide ((0 : Int) ≤ i)) (Nat.blt (Int.toNat i) (List.length P)) false) true false) (bc (bc (Nat.blt (Int.toNat i) (List.length P)) true false) (bc (bc (bc (decide ((0 : Int) ≤ i)) (Nat.blt (Int.toNat i) (List.length P)) false) true false) (bc (bc (Nat.blt (Int.toNat i) (List.length P)) true false) (bc (bc (Nat.beq (List.length q) (List.length q)) (bc (Nat.ble (List.length q + List.length [[U.i (U.int (List.getD (List.getD P (Int.toNat i) []) (Nat.add (0 : Nat) (2 : Nat)) (U.i (0 : Int)))), U.i (U.int (List.getD (List.getD P (Int.toNat i) []) (Nat.add (0 : Nat) (3 : Nat)) (U.i (0 : Int))))]]) (65536 : Nat)) (bc nn true (bc nn false true)) false) false) true false) false) false) false) false) true false) (.at (sH (n) (t) (X) (P) (q ++ [[U.i (U.int (List.getD (List.getD P (Int.toNat i) []) (Nat.add (0 : Nat) (2 : Nat)) (U.i (0 : Int)))), U.i (U.int (List.getD (List.getD P (Int.toNat i) []) (Nat.add (0 : Nat) (3 : Nat)) (U.i (0 : Int))))]]) (bc nn true (Nat.blt (0 : Nat) (List.length [[U.i (U.int (List.getD (List.getD P (Int.toNat i) []) (Nat.add (0 : Nat) (2 : Nat)) (U.i (0 : Int)))), U.i (U.int (List.getD (List.getD P (Int.toNat i) []) (Nat.add (0 : Nat) (3 : Nat)) (U.i (0 : Int))))]]))) (IntKind.wrap IntKind.i64 (i + (1 : Int))))) .bad) (bc (bc (bc (decide ((0 : Int) ≤ i)) (Nat.blt (Int.toNat i) (List.length P)) false) true false) (bc (bc (Nat.blt (Int.toNat i) (List.length P)) true false) (bc (U.int (List.getD (List.getD P (Int.toNat i) []) (Nat.add (0 : Nat) (3 : Nat)) (U.i (0 : Int))) == t) (bc (bc (bc (bc (bc (decide ((0 : Int) ≤ i)) (Nat.blt (Int.toNat i) (List.length P)) false) true false) (bc (bc (Nat.blt (Int.toNat i) (List.length P)) true false) (bc (bc (bc (decide ((0 : Int) ≤ i)) (Nat.blt (Int.toNat i) (List.length P)) false) true false) (bc (bc (Nat.blt (Int.toNat i) (List.length P)) true false) (bc (bc (Nat.beq (List.length q) (List.length q)) (bc (Nat.ble (List.length q + List.length [[U.i (U.int (List.getD (List.getD P (Int.toNat i) []) (Nat.add (0 : Nat) (2 : Nat)) (U.i (0 : Int)))), U.i (U.int (List.getD (List.getD P (Int.toNat i) []) (Nat.add (0 : Nat) (3 : Nat)) (U.i (0 : Int))))]]) (65536 : Nat)) (bc nn true (bc nn false true)) false) false) true false) false) false) false) false) true false) (.at (sH (n) (t) (X) (P) (q ++ [[U.i (U.int (List.getD (List.getD P (Int.toNat i) []) (Nat.add (0 : Nat) (2 : Nat)) (U.i (0 : Int)))), U.i (U.int (List.getD (List.getD P (Int.toNat i) []) (Nat.add (0 : Nat) (3 : Nat)) (U.i (0 : Int))))]]) (bc nn true (Nat.blt (0 : Nat) (List.length [[U.i (U.int (List.getD (List.getD P (Int.toNat i) []) (Nat.add (0 : Nat) (2 : Nat)) (U.i (0 : Int)))), U.i (U.int (List.getD (List.getD P (Int.toNat i) []) (Nat.add (0 : Nat) (3 : Nat)) (U.i (0 : Int))))]]))) (IntKind.wrap IntKind.i64 (i + (1 : Int))))) .bad) (.at (sH (n) (t) (X) (P) (q) (nn) (IntKind.wrap IntKind.i64 (i + (1 : Int)))))) .bad) .bad)) .bad) .bad) (bc (Nat.beq (List.length q) (List.length q)) (.done (EV.lst (SyC.recs [(Sh.int IntKind.i64), (Sh.int IntKind.i64)] (q))) [] 0) .bad)) := by kernel_rfl
theorem step {n t : Int} {X P q : List (List U)} {nn : Bool} {i : Nat} (hi : i < P.length) (hP : P.length ≤ 6400) (hq : q.length ≤ i) : ∃ nn', RUN (stOf (sH n t X P q nn i)) = .at (sH n t X P (q ++ bc (bc (xO P[i] == t) true (xU P[i] == t)) [pnR P[i]] []) nn' (i + 1 : Nat)) := by
  have e : P.getD i [] = P[i] := getD_at hi
  have e3 : U.int (List.getD P[i] (Nat.add 0 2) (U.i 0)) = xO P[i] := rfl
  have e4 : U.int (List.getD P[i] (Nat.add 0 3) (U.i 0)) = xU P[i] := rfl
  cases h1 : xO P[i] == t with
  | true =>
    refine ⟨true, ?_⟩
    rw [step_t, to_nat, e, e3, e4, h1]
    simp (disch := omega) only [Nat.add_eq, eqSy_self, eqN_self, bc_same, List.length_cons, ofn, wrap_in, dt, df, bltD, bltN, ble_of, bleN, beqD, bc_t, bc_f, nn_ok, Nat.zero_add, to_nat, Int.zero_add, Int.sub_zero, Int.sub_self, Int.cast_ofNat_Int, Int.natCast_zero, Int.toNat_zero, List.take_zero, List.nil_append, List.length_append, List.length_nil]
    rfl
  | false =>
    cases h2 : xU P[i] == t with
    | true =>
      refine ⟨true, ?_⟩
      rw [step_t, to_nat, e, e3, e4, h1, h2]
      simp (disch := omega) only [Nat.add_eq, eqSy_self, eqN_self, bc_same, List.length_cons, ofn, wrap_in, dt, df, bltD, bltN, ble_of, bleN, beqD, bc_t, bc_f, nn_ok, Nat.zero_add, to_nat, Int.zero_add, Int.sub_zero, Int.sub_self, Int.cast_ofNat_Int, Int.natCast_zero, Int.toNat_zero, List.take_zero, List.nil_append, List.length_append, List.length_nil]
      rfl
    | false =>
      refine ⟨nn, ?_⟩
      rw [step_t, to_nat, e, e3, e4, h1, h2]
      simp (disch := omega) only [Nat.add_eq, eqSy_self, eqN_self, bc_same, List.length_cons, ofn, wrap_in, dt, df, bltD, bltN, ble_of, bleN, beqD, bc_t, bc_f, nn_ok, Nat.zero_add, to_nat, Int.zero_add, Int.sub_zero, Int.sub_self, Int.cast_ofNat_Int, Int.natCast_zero, Int.toNat_zero, List.take_zero, List.nil_append, List.length_append, List.length_nil, List.append_nil]
      rfl
theorem loop {n t : Int} {X P : List (List U)} (hP : P.length ≤ 6400) : ∀ (k i : Nat) (q : List (List U)) (nn : Bool), i + k = P.length → q.length ≤ i → EndZ 125 .nil false (stOf (sH n t X P q nn i)) (.lst (.recs [.int .i64, .int .i64] (q ++ piF t (P.drop i)))) [] 0
  | 0, i, q, nn, h, hq => by
    have h1 := step_t n t X P q nn i
    rw [List.drop_eq_nil_of_le (by omega)]
    show EndZ _ _ _ _ (.lst (.recs _ (q ++ []))) _ _
    rw [List.append_nil]
    simp (disch := omega) only [Nat.add_eq, eqSy_self, eqN_self, bc_same, List.length_cons, ofn, wrap_in, dt, df, bltD, bltN, ble_of, bleN, beqD, bc_t, bc_f, nn_ok, Nat.zero_add, to_nat, Int.zero_add, Int.sub_zero, Int.sub_self, Int.cast_ofNat_Int, Int.natCast_zero, Int.toNat_zero, List.take_zero, List.nil_append, List.length_append, List.length_nil] at h1
    exact .done h1
  | k + 1, i, q, nn, h, hq => by
    have hi : i < P.length := by omega
    obtain ⟨nn', h1⟩ := step (n := n) (t := t) (X := X) (nn := nn) hi hP hq
    rw [List.drop_eq_getElem_cons hi]
    unfold piF
    have h2 := loop (n := n) (t := t) (X := X) hP k (i + 1) _ nn' (by omega) (show (q ++ bc (bc (xO P[i] == t) true (xU P[i] == t)) [pnR P[i]] []).length ≤ i + 1 by
      rw [List.length_append]
      cases bc (xO P[i] == t) true (xU P[i] == t) <;> simp [bc] <;> omega)
    rw [List.append_assoc] at h2
    exact .at (.nil _) h1 h2
end RPns
noncomputable def spRPns : ZCT := fun ax => match ax with
  | [.agg [.v (.int .i64 n), .lst (.recs [.int .i64, .int .i64, .int .i64, .int .i64] X), .lst (.recs [.int .i64, .int .i64, .int .i64, .int .i64] P)], .v (.int .i64 t)] => some ⟨decide (P.length ≤ 6400), .lst (.recs [.int .i64, .int .i64] (piF t P)), [], 0⟩
  | _ => none
theorem spRPns_ok : ZCtOk Try.prog 125 spRPns := fun γ w us ax r hs hc hax hN hfz => by
  unfold spRPns at hs
  split at hs
  case h_2 => cases hs
  rename_i n X P t
  obtain ⟨rfl⟩ := Option.some.inj hs
  have hc_0 : decide (P.length ≤ 6400) = true := hc
  have hc := of_decide_eq_true hc_0
  exact EndZ.calls (.at (.nil _) (RPns.in_t n t X P) (RPns.loop hc P.length 0 [] false (by omega) (Nat.le_refl _))) (.nil _) (by kernel_rfl) hax hN hfz
noncomputable abbrev shI2 : List Sh := [.list [.int .i64, .int .i64]]
namespace PPn1
noncomputable def RUN (s : ES) : ZF := RZ 121 .nil (atS 0 121 3) [] [[(3,none),(11,none),(12,none),(13,none)]] false s

noncomputable def sH (P R : List (List U)) (m v : Nat) (z i : Int) : NS := ⟨[⟨121, 48, [(3, EV.slO 0 1 m true), (11, (EV.lst (SyC.recs [(Sh.int IntKind.i64), (Sh.int IntKind.i64), (Sh.int IntKind.i64), (Sh.int IntKind.i64)] (P)))), (12, iv z), (13, iv i)], [.it (.code (nav [1, 1, 0, 1, 0, 0] (bodyOf Try.f121))), .it (.inLoop (nav [1, 1, 0, 1, 0, 0] (bodyOf Try.f121))), .it (.inBlock 0), .it (.code (nav [1, 1, 1] (bodyOf Try.f121)))], [], Option.none⟩], [(0, EK.nest 0 (148, [147]) shI2 R v [] true)], 1⟩
theorem in_t (n : Int) (X P : List (List U)) : RUN (st0 121 [clE n X P]) = (bc (bc (decide ((0 : Int) ≤ n)) (bc (decide (n = n)) (decide (n ≤ (65536 : Int))) false) false) (.at (sH (P) (List.replicate (Int.toNat n) (List.map zeroU [Sh.list ([Sh.int IntKind.i64] ++ ([Sh.int IntKind.i64] ++ []))])) (Int.toNat n) ((0 : Nat)) (Int.ofNat (List.length P)) ((0 : Int)))) .bad) := by kernel_rfl
theorem step_t (P R : List (List U)) (m v : Nat) (z i : Int) : RUN (stOf (sH P R m v z i)) = (bc (decide (i < z)) (bc (bc (bc (decide ((0 : Int) ≤ i)) (Nat.blt (Int.toNat i) (List.length P)) false) true false) (bc (bc (Nat.blt (Int.toNat i) (List.length P)) true false) (bc (bc (bc (bc (bc (decide ((0 : Int) ≤ U.int (List.getD (List.getD P (Int.toNat i) []) (Nat.succ (Nat.succ (0 : Nat))) (U.i (0 : Int))))) (Nat.blt (Int.toNat (U.int (List.getD (List.getD P (Int.toNat i) []) (Nat.succ (Nat.succ (0 : Nat))) (U.i (0 : Int))))) m) false) true false) (bc (bc (bc (Nat.blt (Int.toNat (U.int (List.getD (List.getD P (Int.toNat i) []) (Nat.succ (Nat.succ (0 : Nat))) (U.i (0 : Int))))) (List.length R)) true false) true false) (bc (bc (Nat.beq v v) (bc (Nat.blt (Int.toNat (U.int (List.getD (List.getD P (Int.toNat i) []) (Nat.succ (Nat.succ (0 : Nat))) (U.i (0 : Int))))) (List.length R)) (bc (Nat.beq (List.length (U.list (List.getD (List.getD R (Int.toNat (U.int (List.getD (List.getD P (Int.toNat i) []) (Nat.succ (Nat.succ (0 : Nat))) (U.i (0 : Int))))) []) (0 : Nat) (U.i (0 : Int))))) (List.length (U.list (List.getD (List.getD R (Int.toNat (U.int (List.getD (List.getD P (Int.toNat i) []) (Nat.succ (Nat.succ (0 : Nat))) (U.i (0 : Int))))) []) (0 : Nat) (U.i (0 : Int)))))) (Nat.ble (List.length (U.list (List.getD (List.getD R (Int.toNat (U.int (List.getD (List.getD P (Int.toNat i) []) (Nat.succ (Nat.succ (0 : Nat))) (U.i (0 : Int))))) []) (0 : Nat) (U.i (0 : Int)))) + List.length [[U.i (U.int (List.getD (List.getD P (Int.toNat i) []) (Nat.succ (Nat.succ (0 : Nat))) (U.i (0 : Int)))), U.i (U.int (List.getD (List.getD P (Int.toNat i) []) (Nat.succ (Nat.succ (Nat.succ (0 : Nat)))) (U.i (0 : Int))))]]) (65536 : Nat)) false) false) false) (bc (bc (bc (decide ((0 : Int) ≤ U.int (List.getD (List.getD P (Int.toNat i) []) (Nat.succ (Nat.succ (Nat.succ (0 : Nat)))) (U.i (0 : Int))))) (Nat.blt (Int.toNat (U.int (List.getD (List.getD P (Int.toNat i) []) (Nat.succ (Nat.succ (Nat.succ (0 : Nat)))) (U.i (0 : Int))))) m) false) true false) (bc (bc (bc (Nat.blt (Int.toNat (U.int (List.getD (List.getD P (Int.toNat i) []) (Nat.succ (Nat.succ (Nat.succ (0 : Nat)))) (U.i (0 : Int))))) (List.length R)) (bc (Nat.beq (Int.toNat (U.int (List.getD (List.getD P (Int.toNat i) []) (Nat.succ (Nat.succ (0 : Nat))) (U.i (0 : Int))))) (Int.toNat (U.int (List.getD (List.getD P (Int.toNat i) []) (Nat.succ (Nat.succ (Nat.succ (0 : Nat)))) (U.i (0 : Int)))))) false true) false) true false) (bc (bc (Nat.beq v v) (bc (Nat.blt (Int.toNat (U.int (List.getD (List.getD P (Int.toNat i) []) (Nat.succ (Nat.succ (Nat.succ (0 : Nat)))) (U.i (0 : Int))))) (List.length R)) (bc (bc (Nat.beq (Int.toNat (U.int (List.getD (List.getD P (Int.toNat i) []) (Nat.succ (Nat.succ (0 : Nat))) (U.i (0 : Int))))) (Int.toNat (U.int (List.getD (List.getD P (Int.toNat i) []) (Nat.succ (Nat.succ (Nat.succ (0 : Nat)))) (U.i (0 : Int)))))) false true) (bc (Nat.beq (List.length (U.list (List.getD (List.getD R (Int.toNat (U.int (List.getD (List.getD P (Int.toNat i) []) (Nat.succ (Nat.succ (Nat.succ (0 : Nat)))) (U.i (0 : Int))))) []) (0 : Nat) (U.i (0 : Int))))) (List.length (U.list (List.getD (List.getD R (Int.toNat (U.int (List.getD (List.getD P (Int.toNat i) []) (Nat.succ (Nat.succ (Nat.succ (0 : Nat)))) (U.i (0 : Int))))) []) (0 : Nat) (U.i (0 : Int)))))) (Nat.ble (List.length (U.list (List.getD (List.getD R (Int.toNat (U.int (List.getD (List.getD P (Int.toNat i) []) (Nat.succ (Nat.succ (Nat.succ (0 : Nat)))) (U.i (0 : Int))))) []) (0 : Nat) (U.i (0 : Int)))) + List.length [[U.i (U.int (List.getD (List.getD P (Int.toNat i) []) (Nat.succ (Nat.succ (0 : Nat))) (U.i (0 : Int)))), U.i (U.int (List.getD (List.getD P (Int.toNat i) []) (Nat.succ (Nat.succ (Nat.succ (0 : Nat)))) (U.i (0 : Int))))]]) (65536 : Nat)) false) false) false) false) (bc (bc (bc (decide ((0 : Int) ≤ U.int (List.getD (List.getD P (Int.toNat i) []) (Nat.succ (Nat.succ (0 : Nat))) (U.i (0 : Int))))) (Nat.blt (Int.toNat (U.int (List.getD (List.getD P (Int.toNat i) []) (Nat.succ (Nat.succ (0 : Nat))) (U.i (0 : Int))))) m) false) true false) (bc (bc (Nat.blt (Int.toNat (U.int (List.getD (List.getD P (Int.toNat i) []) (Nat.succ (Nat.succ (0 : Nat))) (U.i (0 : Int))))) (List.length R)) (bc (Nat.beq (List.length (U.list (List.getD (List.getD R (Int.toNat (U.int (List.getD (List.getD P (Int.toNat i) []) (Nat.succ (Nat.succ (0 : Nat))) (U.i (0 : Int))))) []) (0 : Nat) (U.i (0 : Int))) ++ [[U.i (U.int (List.getD (List.getD P (Int.toNat i) []) (Nat.succ (Nat.succ (0 : Nat))) (U.i (0 : Int)))), U.i (U.int (List.getD (List.getD P (Int.toNat i) []) (Nat.succ (Nat.succ (Nat.succ (0 : Nat)))) (U.i (0 : Int))))]])) (List.length (U.list (List.getD (List.getD R (Int.toNat (U.int (List.getD (List.getD P (Int.toNat i) []) (Nat.succ (Nat.succ (0 : Nat))) (U.i (0 : Int))))) []) (0 : Nat) (U.i (0 : Int))) ++ [[U.i (U.int (List.getD (List.getD P (Int.toNat i) []) (Nat.succ (Nat.succ (0 : Nat))) (U.i (0 : Int)))), U.i (U.int (List.getD (List.getD P (Int.toNat i) []) (Nat.succ (Nat.succ (Nat.succ (0 : Nat)))) (U.i (0 : Int))))]]))) (unHoleC (Int.toNat (U.int (List.getD (List.getD P (Int.toNat i) []) (Nat.succ (Nat.succ (0 : Nat))) (U.i (0 : Int))))) (0 : Nat) [(Int.toNat (U.int (List.getD (List.getD P (Int.toNat i) []) (Nat.succ (Nat.succ (Nat.succ (0 : Nat)))) (U.i (0 : Int)))), (0 : Nat)), (Int.toNat (U.int (List.getD (List.getD P (Int.toNat i) []) (Nat.succ (Nat.succ (0 : Nat))) (U.i (0 : Int)))), (0 : Nat))]) false) false) (bc (bc (bc (decide ((0 : Int) ≤ U.int (List.getD (List.getD P (Int.toNat i) []) (Nat.succ (Nat.succ (Nat.succ (0 : Nat)))) (U.i (0 : Int))))) (Nat.blt (Int.toNat (U.int (List.getD (List.getD P (Int.toNat i) []) (Nat.succ (Nat.succ (Nat.succ (0 : Nat)))) (U.i (0 : Int))))) m) false) true false) (bc (bc (Nat.blt (Int.toNat (U.int (List.getD (List.getD P (Int.toNat i) []) (Nat.succ (Nat.succ (Nat.succ (0 : Nat)))) (U.i (0 : Int))))) (List.length (List.set R (Int.toNat (U.int (List.getD (List.getD P (Int.toNat i) []) (Nat.succ (Nat.succ (0 : Nat))) (U.i (0 : Int))))) (rset (0 : Nat) (U.l (U.list (List.getD (List.getD R (Int.toNat (U.int (List.getD (List.getD P (Int.toNat i) []) (Nat.succ (Nat.succ (0 : Nat))) (U.i (0 : Int))))) []) (0 : Nat) (U.i (0 : Int))) ++ [[U.i (U.int (List.getD (List.getD P (Int.toNat i) []) (Nat.succ (Nat.succ (0 : Nat))) (U.i (0 : Int)))), U.i (U.int (List.getD (List.getD P (Int.toNat i) []) (Nat.succ (Nat.succ (Nat.succ (0 : Nat)))) (U.i (0 : Int))))]])) (List.getD R (Int.toNat (U.int (List.getD (List.getD P (Int.toNat i) []) (Nat.succ (Nat.succ (0 : Nat))) (U.i (0 : Int))))) []))))) (bc (Nat.beq (List.length (U.list (List.getD (List.getD R (Int.toNat (U.int (List.getD (List.getD P (Int.toNat i) []) (Nat.succ (Nat.succ (Nat.succ (0 : Nat)))) (U.i (0 : Int))))) []) (0 : Nat) (U.i (0 : Int))) ++ [[U.i (U.int (List.getD (List.getD P (Int.toNat i) []) (Nat.succ (Nat.succ (0 : Nat))) (U.i (0 : Int)))), U.i (U.int (List.getD (List.getD P (Int.toNat i) []) (Nat.succ (Nat.succ (Nat.succ (0 : Nat)))) (U.i (0 : Int))))]])) (List.length (U.list (List.getD (List.getD R (Int.toNat (U.int (List.getD (List.getD P (Int.toNat i) []) (Nat.succ (Nat.succ (Nat.succ (0 : Nat)))) (U.i (0 : Int))))) []) (0 : Nat) (U.i (0 : Int))) ++ [[U.i (U.int (List.getD (List.getD P (Int.toNat i) []) (Nat.succ (Nat.succ (0 : Nat))) (U.i (0 : Int)))), U.i (U.int (List.getD (List.getD P (Int.toNat i) []) (Nat.succ (Nat.succ (Nat.succ (0 : Nat)))) (U.i (0 : Int))))]]))) (unHoleC (Int.toNat (U.int (List.getD (List.getD P (Int.toNat i) []) (Nat.succ (Nat.succ (Nat.succ (0 : Nat)))) (U.i (0 : Int))))) (0 : Nat) (unHole (0 : Nat) [(Int.toNat (U.int (List.getD (List.getD P (Int.toNat i) []) (Nat.succ (Nat.succ (Nat.succ (0 : Nat)))) (U.i (0 : Int)))), (0 : Nat)), (Int.toNat (U.int (List.getD (List.getD P (Int.toNat i) []) (Nat.succ (Nat.succ (0 : Nat))) (U.i (0 : Int)))), (0 : Nat))])) false) false) true false) false) false) false) false) false) false) false) false) false) (bc (bc (bc (decide (U.int (List.getD (List.getD P (Int.toNat i) []) (Nat.succ (Nat.succ (0 : Nat))) (U.i (0 : Int))) = U.int (List.getD (List.getD P (Int.toNat i) []) (Nat.succ (Nat.succ (0 : Nat))) (U.i (0 : Int))))) (bc (decide (U.int (List.getD (List.getD P (Int.toNat i) []) (Nat.succ (Nat.succ (0 : Nat))) (U.i (0 : Int))) = U.int (List.getD (List.getD P (Int.toNat i) []) (Nat.succ (Nat.succ (0 : Nat))) (U.i (0 : Int))))) true false) false) (bc (bc (decide (U.int (List.getD (List.getD P (Int.toNat i) []) (Nat.succ (Nat.succ (Nat.succ (0 : Nat)))) (U.i (0 : Int))) = U.int (List.getD (List.getD P (Int.toNat i) []) (Nat.succ (Nat.succ (Nat.succ (0 : Nat)))) (U.i (0 : Int))))) (bc (decide (U.int (List.getD (List.getD P (Int.toNat i) []) (Nat.succ (Nat.succ (Nat.succ (0 : Nat)))) (U.i (0 : Int))) = U.int (List.getD (List.getD P (Int.toNat i) []) (Nat.succ (Nat.succ (Nat.succ (0 : Nat)))) (U.i (0 : Int))))) (bc (decide (U.int (List.getD (List.getD P (Int.toNat i) []) (Nat.succ (Nat.succ (Nat.succ (0 : Nat)))) (U.i (0 : Int))) = U.int (List.getD (List.getD P (Int.toNat i) []) (Nat.succ (Nat.succ (Nat.succ (0 : Nat)))) (U.i (0 : Int))))) true false) false) false) (bc (bc (decide (U.int (List.getD (List.getD P (Int.toNat i) []) (Nat.succ (Nat.succ (Nat.succ (0 : Nat)))) (U.i (0 : Int))) = U.int (List.getD (List.getD P (Int.toNat i) []) (Nat.succ (Nat.succ (Nat.succ (0 : Nat)))) (U.i (0 : Int))))) true false) (bc (bc (bc (bc (bc (Nat.blt (Int.toNat (U.int (List.getD (List.getD P (Int.toNat i) []) (Nat.succ (Nat.succ (Nat.succ (0 : Nat)))) (U.i (0 : Int))))) (List.length R)) true false) true false) (bc (Nat.beq v v) (bc (Nat.beq (Int.toNat (U.int (List.getD (List.getD P (Int.toNat i) []) (Nat.succ (Nat.succ (Nat.succ (0 : Nat)))) (U.i (0 : Int))))) (Int.toNat (U.int (List.getD (List.getD P (Int.toNat i) []) (Nat.succ (Nat.succ (Nat.succ (0 : Nat)))) (U.i (0 : Int)))))) (Nat.beq (List.length (U.list (List.getD (List.getD R (Int.toNat (U.int (List.getD (List.getD P (Int.toNat i) []) (Nat.succ (Nat.succ (Nat.succ (0 : Nat)))) (U.i (0 : Int))))) []) (0 : Nat) (U.i (0 : Int))))) (List.length (U.list (List.getD (List.getD R (Int.toNat (U.int (List.getD (List.getD P (Int.toNat i) []) (Nat.succ (Nat.succ (Nat.succ (0 : Nat)))) (U.i (0 : Int))))) []) (0 : Nat) (U.i (0 : Int)))))) false) false) false) true false) (bc (bc (bc (decide (U.int (List.getD (List.getD P (Int.toNat i) []) (Nat.succ (Nat.succ (0 : Nat))) (U.i (0 : Int))) = U.int (List.getD (List.getD P (Int.toNat i) []) (Nat.succ (Nat.succ (0 : Nat))) (U.i (0 : Int))))) (bc (decide (U.int (List.getD (List.getD P (Int.toNat i) []) (Nat.succ (Nat.succ (Nat.succ (0 : Nat)))) (U.i (0 : Int))) = U.int (List.getD (List.getD P (Int.toNat i) []) (Nat.succ (Nat.succ (Nat.succ (0 : Nat)))) (U.i (0 : Int))))) true false) false) true false) true false) false) false) false) false) true false) false) (.at (sH (P) (List.set (List.set R (Int.toNat (U.int (List.getD (List.getD P (Int.toNat i) []) (Nat.succ (Nat.succ (0 : Nat))) (U.i (0 : Int))))) (rset (0 : Nat) (U.l (U.list (List.getD (List.getD R (Int.toNat (U.int (List.getD (List.getD P (Int.toNat i) []) (Nat.succ (Nat.succ (0 : Nat))) (U.i (0 : Int))))) []) (0 : Nat) (U.i (0 : Int))) ++ [[U.i (U.int (List.getD (List.getD P (Int.toNat i) []) (Nat.succ (Nat.succ (0 : Nat))) (U.i (0 : Int)))), U.i (U.int (List.getD (List.getD P (Int.toNat i) []) (Nat.succ (Nat.succ (Nat.succ (0 : Nat)))) (U.i (0 : Int))))]])) (List.getD R (Int.toNat (U.int (List.getD (List.getD P (Int.toNat i) []) (Nat.succ (Nat.succ (0 : Nat))) (U.i (0 : Int))))) []))) (Int.toNat (U.int (List.getD (List.getD P (Int.toNat i) []) (Nat.succ (Nat.succ (Nat.succ (0 : Nat)))) (U.i (0 : Int))))) (rset (0 : Nat) (U.l (U.list (List.getD (List.getD R (Int.toNat (U.int (List.getD (List.getD P (Int.toNat i) []) (Nat.succ (Nat.succ (Nat.succ (0 : Nat)))) (U.i (0 : Int))))) []) (0 : Nat) (U.i (0 : Int))) ++ [[U.i (U.int (List.getD (List.getD P (Int.toNat i) []) (Nat.succ (Nat.succ (0 : Nat))) (U.i (0 : Int)))), U.i (U.int (List.getD (List.getD P (Int.toNat i) []) (Nat.succ (Nat.succ (Nat.succ (0 : Nat)))) (U.i (0 : Int))))]])) (List.getD (List.set R (Int.toNat (U.int (List.getD (List.getD P (Int.toNat i) []) (Nat.succ (Nat.succ (0 : Nat))) (U.i (0 : Int))))) (rset (0 : Nat) (U.l (U.list (List.getD (List.getD R (Int.toNat (U.int (List.getD (List.getD P (Int.toNat i) []) (Nat.succ (Nat.succ (0 : Nat))) (U.i (0 : Int))))) []) (0 : Nat) (U.i (0 : Int))) ++ [[U.i (U.int (List.getD (List.getD P (Int.toNat i) []) (Nat.succ (Nat.succ (0 : Nat))) (U.i (0 : Int)))), U.i (U.int (List.getD (List.getD P (Int.toNat i) []) (Nat.succ (Nat.succ (Nat.succ (0 : Nat)))) (U.i (0 : Int))))]])) (List.getD R (Int.toNat (U.int (List.getD (List.getD P (Int.toNat i) []) (Nat.succ (Nat.succ (0 : Nat))) (U.i (0 : Int))))) []))) (Int.toNat (U.int (List.getD (List.getD P (Int.toNat i) []) (Nat.succ (Nat.succ (Nat.succ (0 : Nat)))) (U.i (0 : Int))))) []))) (m) (v + (1 : Nat) + (1 : Nat)) (z) (IntKind.wrap IntKind.i64 (i + (1 : Int))))) .bad) .bad) .bad) (bc (Nat.beq m (List.length R)) (.done (EV.lst (SyC.recs [(Sh.list [(Sh.int IntKind.i64), (Sh.int IntKind.i64)])] (R))) [] 0) .bad)) := by kernel_rfl
theorem step {P : List (List U)} {T : Ps} {v b i : Nat} (hi : i < P.length) (hP : P.length ≤ 6400) (hr : prs T.length P) (hT : ShP T b) (hb : b ≤ 20000) : RUN (stOf (sH P (rowsP T) T.length v P.length i)) = .at (sH P (rowsP (upP T P[i])) T.length (v + 1 + 1) P.length (i + 1 : Nat)) := by
  obtain ⟨h1, h2, h3, h4, h5⟩ := hr _ (List.getElem_mem hi)
  rw [step_t, to_nat, getD_at hi]
  have e1 : U.int (List.getD P[i] (Nat.succ (Nat.succ 0)) (U.i 0)) = xO P[i] := rfl
  have e2 : U.int (List.getD P[i] (Nat.succ (Nat.succ (Nat.succ 0))) (U.i 0)) = xU P[i] := rfl
  rw [e1, e2]
  obtain ⟨a, ha⟩ := Int.eq_ofNat_of_zero_le h1
  obtain ⟨c, hc⟩ := Int.eq_ofNat_of_zero_le h3
  have e3 : upP T P[i] = addP (addP T a [.i (xO P[i]), .i (xU P[i])]) c [.i (xO P[i]), .i (xU P[i])] := by
    unfold upP pnR
    rw [ha, hc]; rfl
  rw [e3, ha, hc]
  have ha2 : a < T.length := by omega
  have hc2 : c < T.length := by omega
  have hac : ¬ c = a := by omega
  have la := hT a
  have lc := hT c
  have ga : U.list (List.getD (List.getD (rowsP T) a []) 0 (U.i 0)) = getP T a := getR ha2
  have gc : U.list (List.getD (List.getD (rowsP T) c []) 0 (U.i 0)) = getP T c := getR hc2
  have hu := upP2 ha2 hc2 hac [U.i (a : Int), U.i (c : Int)]
  have hb2 : Nat.beq a c = false := by
    cases h : Nat.beq a c
    · rfl
    · exact absurd (Nat.eq_of_beq_eq_true h).symm hac
  simp only [to_nat, ga, gc]
  rw [hu]
  simp (disch := omega) only [Nat.add_eq, eqSy_self, eqN_self, bc_same, List.length_cons, ofn, wrap_in, dt, df, bltD, bltN, ble_of, bleN, beqD, bc_t, bc_f, nn_ok, Nat.zero_add, to_nat, Int.zero_add, Int.sub_zero, Int.sub_self, Int.cast_ofNat_Int, Int.natCast_zero, Int.toNat_zero, List.take_zero, List.nil_append, List.length_append, List.length_nil, rowsP_len, List.length_set, Nat.beq_refl, uhA, uhB, hb2, decide_true]
  rfl
theorem last {P : List (List U)} {T : Ps} {v i : Nat} (hi : P.length ≤ i) : RUN (stOf (sH P (rowsP T) T.length v P.length i)) = .done (.lst (.recs shI2 (rowsP T))) [] 0 := by
  rw [step_t]
  simp (disch := omega) only [Nat.add_eq, eqSy_self, eqN_self, bc_same, List.length_cons, ofn, wrap_in, dt, df, bltD, bltN, ble_of, bleN, beqD, bc_t, bc_f, nn_ok, Nat.zero_add, to_nat, Int.zero_add, Int.sub_zero, Int.sub_self, Int.cast_ofNat_Int, Int.natCast_zero, Int.toNat_zero, List.take_zero, List.nil_append, List.length_append, List.length_nil, rowsP_len]
theorem loop {P : List (List U)} {n : Nat} (hP : P.length ≤ 6400) (hr : prs n P) : ∀ (k i v : Nat) (T : Ps), i + k = P.length → T.length = n → ShP T (2 * i) → EndZ 121 .nil false (stOf (sH P (rowsP T) T.length v P.length i)) (.lst (.recs shI2 (rowsP (pnF (P.drop i) T)))) [] 0
  | 0, i, v, T, h, hn, hT => by
    rw [List.drop_eq_nil_of_le (by omega)]
    exact .done (last (by omega))
  | k + 1, i, v, T, h, hn, hT => by
    have hi : i < P.length := by omega
    obtain ⟨h1, h2, h3, h4, h5⟩ := hr _ (List.getElem_mem hi)
    rw [List.drop_eq_getElem_cons hi]
    unfold pnF
    have s0 := step (T := T) (v := v) hi hP (by rw [hn]; exact hr) hT (by omega)
    have h2 := loop hP hr k (i + 1) (v + 1 + 1) (upP T P[i]) (by omega) (by rw [upP_len]; exact hn) (hT.up (by omega) (by omega))
    rw [upP_len] at h2
    exact .at (.nil _) s0 h2
end PPn1
noncomputable def spPPn : ZCT := fun ax => match ax with
  | [.agg [.v (.int .i64 n), .lst (.recs [.int .i64, .int .i64, .int .i64, .int .i64] X), .lst (.recs [.int .i64, .int .i64, .int .i64, .int .i64] P)]] => some ⟨decide (0 ≤ n ∧ n ≤ 48 ∧ P.length ≤ 6400 ∧ prs n P), .lst (.recs [.list [.int .i64, .int .i64]] (rowsP (pnF P (pn0 n.toNat)))), [], 0⟩
  | _ => none
theorem spPPn_ok : ZCtOk Try.prog 121 spPPn := fun γ w us ax r hs hc hax hN hfz => by
  unfold spPPn at hs
  split at hs
  case h_2 => cases hs
  rename_i n X P
  obtain ⟨rfl⟩ := Option.some.inj hs
  have hc_0 : decide (0 ≤ n ∧ n ≤ 48 ∧ P.length ≤ 6400 ∧ prs n P) = true := hc
  have hc := of_decide_eq_true hc_0
  exact EndZ.calls (by
    obtain ⟨h1, h2, h3, h4⟩ := hc
    obtain ⟨n, rfl⟩ := Int.eq_ofNat_of_zero_le h1
    have h := PPn1.in_t n X P
    simp (disch := omega) only [Nat.add_eq, eqSy_self, eqN_self, bc_same, List.length_cons, ofn, wrap_in, dt, df, bltD, bltN, ble_of, bleN, beqD, bc_t, bc_f, nn_ok, Nat.zero_add, to_nat, Int.zero_add, Int.sub_zero, Int.sub_self, Int.cast_ofNat_Int, Int.natCast_zero, Int.toNat_zero, List.take_zero, List.nil_append, List.length_append, List.length_nil, decide_true] at h
    have hl : (pn0 n).length = n := by unfold pn0; simp
    have h5 := PPn1.loop (n := n) h3 h4 P.length 0 0 (pn0 n) (by omega) hl (fun j => by
      have : getP (pn0 n) j = [] := by
        unfold getP pn0
        rw [List.getD_eq_getElem?_getD, List.getElem?_replicate]
        split <;> rfl
      rw [this]; simp)
    rw [hl] at h5
    have e : rowsP (pn0 n) = List.replicate n [U.l []] := by unfold rowsP pn0; rw [List.map_replicate]
    rw [e] at h5
    exact .at (.nil _) h h5) (.nil _) (by kernel_rfl) hax hN hfz
end Go.Proofs.Ytonbfalbfdkieaa.Ev
namespace Go.Proofs.Ytonbfalbfdkieaa.Ev
open Go.Proofs
noncomputable abbrev i2l (l : List (List U)) : EV := .lst (.recs [.int .i64, .int .i64] l)
namespace PIEq
noncomputable def RUN (s : ES) : ZF := RZ 124 .nil (atS 0 124 4) [] [[(0,none),(1,none),(12,none),(13,none)]] false s

noncomputable def sS (a b : List (List U)) (z i : Int) : NS := ⟨[⟨124, 26, [(0, (EV.lst (SyC.recs [(Sh.int IntKind.i64), (Sh.int IntKind.i64)] (a)))), (1, (EV.lst (SyC.recs [(Sh.int IntKind.i64), (Sh.int IntKind.i64)] (b)))), (12, iv z), (13, iv i)], [.it (.code (nav [1, 1, 0, 1, 0, 0] (bodyOf Try.f124))), .it (.inLoop (nav [1, 1, 0, 1, 0, 0] (bodyOf Try.f124))), .it (.inBlock 0), .it (.code (nav [1, 1, 1] (bodyOf Try.f124)))], [], Option.none⟩], [], 0⟩
theorem in_t (a b : List (List U)) : RUN (st0 124 [i2l a, i2l b]) = (bc (Int.ofNat (List.length a) != Int.ofNat (List.length b)) (.done (EV.v (Value.bool false)) [] 0) (.at (sS (a) (b) (Int.ofNat (List.length a)) ((0 : Int))))) := by kernel_rfl
theorem step_t (a b : List (List U)) (z i : Int) : RUN (stOf (sS a b z i)) = (bc (decide (i < z)) (bc (bc (bc (bc (bc (decide ((0 : Int) ≤ i)) (Nat.blt (Int.toNat i) (List.length a)) false) true false) (bc (bc (Nat.blt (Int.toNat i) (List.length a)) true false) (bc (bc (bc (decide ((0 : Int) ≤ i)) (Nat.blt (Int.toNat i) (List.length b)) false) true false) (bc (bc (Nat.blt (Int.toNat i) (List.length b)) true false) true false) false) false) false) true false) (bc (bnot (bc (U.int (List.getD (List.getD a (Int.toNat i) []) (0 : Nat) (U.i (0 : Int))) == U.int (List.getD (List.getD b (Int.toNat i) []) (0 : Nat) (U.i (0 : Int)))) (bc (U.int (List.getD (List.getD a (Int.toNat i) []) (Nat.succ (0 : Nat)) (U.i (0 : Int))) == U.int (List.getD (List.getD b (Int.toNat i) []) (Nat.succ (0 : Nat)) (U.i (0 : Int)))) true false) false)) (.done (EV.v (Value.bool false)) [] 0) (.at (sS (a) (b) (z) (IntKind.wrap IntKind.i64 (i + (1 : Int)))))) .bad) (.done (EV.v (Value.bool true)) [] 0)) := by kernel_rfl
theorem loop {a b : List (List U)} (hl : a.length ≤ 100000) (hb : b.length = a.length) : ∀ (k i : Nat), i + k = a.length → EndZ 124 .nil false (stOf (sS a b a.length i)) (bv (i2B (a.drop i) (b.drop i))) [] 0
  | 0, i, h => by
    have hs := step_t a b a.length i
    rw [List.drop_eq_nil_of_le (show a.length ≤ i by omega), List.drop_eq_nil_of_le (show b.length ≤ i by omega)]
    simp (disch := omega) only [Nat.add_eq, eqSy_self, eqN_self, bc_same, List.length_cons, ofn, wrap_in, dt, df, bltD, bltN, ble_of, bleN, beqD, bc_t, bc_f, nn_ok, Nat.zero_add, to_nat, Int.zero_add, Int.sub_zero, Int.sub_self, Int.cast_ofNat_Int, Int.natCast_zero, Int.toNat_zero, List.take_zero, List.nil_append, List.length_append, List.length_nil] at hs
    exact .done hs
  | k + 1, i, h => by
    have hs := step_t a b a.length i
    have h2 : i < a.length := by omega
    have h3 : i < b.length := by omega
    have e1 : a.getD i [] = a[i] := getD_at h2
    have e2 : b.getD i [] = b[i] := getD_at h3
    rw [to_nat, e1, e2] at hs
    have f1 : U.int (List.getD a[i] 0 (U.i 0)) = mT a[i] := rfl
    have f2 : U.int (List.getD b[i] 0 (U.i 0)) = mT b[i] := rfl
    have f3 : U.int (List.getD a[i] (Nat.succ 0) (U.i 0)) = xA a[i] := rfl
    have f4 : U.int (List.getD b[i] (Nat.succ 0) (U.i 0)) = xA b[i] := rfl
    rw [f1, f2, f3, f4] at hs
    simp (disch := omega) only [Nat.add_eq, eqSy_self, eqN_self, bc_same, List.length_cons, ofn, wrap_in, dt, df, bltD, bltN, ble_of, bleN, beqD, bc_t, bc_f, nn_ok, Nat.zero_add, to_nat, Int.zero_add, Int.sub_zero, Int.sub_self, Int.cast_ofNat_Int, Int.natCast_zero, Int.toNat_zero, List.take_zero, List.nil_append, List.length_append, List.length_nil] at hs
    rw [List.drop_eq_getElem_cons h2, List.drop_eq_getElem_cons h3]
    unfold i2B
    cases g1 : (mT a[i] == mT b[i]) <;> rw [g1] at hs
    · exact .done hs
    · cases g2 : (xA a[i] == xA b[i]) <;> rw [g2] at hs
      · exact .done hs
      · exact .at (.nil _) hs (loop hl hb k (i + 1) (by omega))
end PIEq
noncomputable def spIEq : ZCT := fun ax => match ax with
  | [.lst (.recs [.int .i64, .int .i64] a), .lst (.recs [.int .i64, .int .i64] b)] => some ⟨decide (a.length ≤ 100000), bv (i2B a b), [], 0⟩
  | _ => none
theorem spIEq_ok : ZCtOk Try.prog 124 spIEq := fun γ w us ax r hs hc hax hN hfz => by
  unfold spIEq at hs
  split at hs
  case h_2 => cases hs
  rename_i a b
  obtain ⟨rfl⟩ := Option.some.inj hs
  have hc_0 : decide (a.length ≤ 100000) = true := hc
  have hc := of_decide_eq_true hc_0
  exact EndZ.calls (by
    have h := PIEq.in_t a b
    by_cases h1 : b.length = a.length
    · have e : (Int.ofNat a.length != Int.ofNat b.length) = false := by simp [h1]
      rw [e, bc_f] at h
      exact .at (.nil _) h (PIEq.loop hc h1 a.length 0 (by omega))
    · have e : (Int.ofNat a.length != Int.ofNat b.length) = true := by simp; omega
      rw [e, bc_t] at h
      show EndZ _ _ _ _ (bv (i2B a b)) _ _
      rw [i2B_len (fun e => h1 e.symm)]
      exact .done h) (.nil _) (by kernel_rfl) hax hN hfz
noncomputable def ctIE : Tr ZCC := Tr.nil.put 124 (some (dC spIEq))
theorem ctIE_ok : ZCtsOk Try.prog ctIE := (ZCtsOk.nil _).add rfl spIEq_ok
namespace PEqP
noncomputable def RUN (s : ES) : ZF := RZ 122 ctIE (atS 0 122 4) [] [[(0,none),(1,none),(2,none),(15,none),(16,none),(17,none)]] false s

noncomputable def sS (R S : List (List U)) (z i : Int) : NS := ⟨[⟨122, 32, [(0, (EV.lst (SyC.recs [(Sh.list [(Sh.int IntKind.i64), (Sh.int IntKind.i64)])] (R)))), (1, (EV.lst (SyC.recs [(Sh.list [(Sh.int IntKind.i64), (Sh.int IntKind.i64)])] (S)))), (2, (EV.fn 123 [])), (15, (EV.lst (SyC.recs [(Sh.list [(Sh.int IntKind.i64), (Sh.int IntKind.i64)])] (R)))), (16, iv z), (17, iv i)], [.it (.code (nav [1, 1, 0, 1, 0, 0] (bodyOf Try.f122))), .it (.inLoop (nav [1, 1, 0, 1, 0, 0] (bodyOf Try.f122))), .it (.inBlock 0), .it (.code (nav [1, 1, 1] (bodyOf Try.f122)))], [], Option.none⟩], [], 0⟩
theorem in_t (R S : List (List U)) : RUN (st0 122 [EV.lst (.recs shI2 R), EV.lst (.recs shI2 S), EV.fn 123 []]) = (bc (Int.ofNat (List.length R) != Int.ofNat (List.length S)) (.done (EV.v (Value.bool false)) [] 0) (.at (sS (R) (S) (Int.ofNat (List.length R)) ((0 : Int))))) := by kernel_rfl
theorem step_t (R S : List (List U)) (z i : Int) : RUN (stOf (sS R S z i)) = (bc (decide (i < z)) (bc (bc (bc (decide ((0 : Int) ≤ i)) (Nat.blt (Int.toNat i) (List.length R)) false) true false) (bc (bc (Nat.blt (Int.toNat i) (List.length R)) true false) (bc (bc (bc (decide ((0 : Int) ≤ i)) (Nat.blt (Int.toNat i) (List.length S)) false) true false) (bc (bc (Nat.blt (Int.toNat i) (List.length S)) true false) (bc (bc (decide (List.length (U.list (List.getD (List.getD R (Int.toNat i) []) (0 : Nat) (U.i (0 : Int)))) ≤ (100000 : Nat))) true false) (bc (!i2B (U.list (List.getD (List.getD R (Int.toNat i) []) (0 : Nat) (U.i (0 : Int)))) (U.list (List.getD (List.getD S (Int.toNat i) []) (0 : Nat) (U.i (0 : Int))))) (.done (EV.v (Value.bool false)) [] 0) (.at (sS (R) (S) (z) (IntKind.wrap IntKind.i64 (i + (1 : Int)))))) .bad) .bad) .bad) .bad) .bad) (.done (EV.v (Value.bool true)) [] 0)) := by kernel_rfl
theorem loop {R S : List (List U)} (hl : R.length ≤ 100) (hb : S.length = R.length) (hR : ∀ j : Nat, (rM (R.getD j [])).length ≤ 100000) : ∀ (k i : Nat), i + k = R.length → EndZ 122 ctIE false (stOf (sS R S R.length i)) (bv (eqPB (R.drop i) (S.drop i))) [] 0
  | 0, i, h => by
    have hs := step_t R S R.length i
    rw [List.drop_eq_nil_of_le (show R.length ≤ i by omega), List.drop_eq_nil_of_le (show S.length ≤ i by omega)]
    simp (disch := omega) only [Nat.add_eq, eqSy_self, eqN_self, bc_same, List.length_cons, ofn, wrap_in, dt, df, bltD, bltN, ble_of, bleN, beqD, bc_t, bc_f, nn_ok, Nat.zero_add, to_nat, Int.zero_add, Int.sub_zero, Int.sub_self, Int.cast_ofNat_Int, Int.natCast_zero, Int.toNat_zero, List.take_zero, List.nil_append, List.length_append, List.length_nil] at hs
    exact .done hs
  | k + 1, i, h => by
    have hs := step_t R S R.length i
    have h2 : i < R.length := by omega
    have h3 : i < S.length := by omega
    have hr := hR i
    have e1 : R.getD i [] = R[i] := getD_at h2
    have e2 : S.getD i [] = S[i] := getD_at h3
    rw [e1] at hr
    rw [to_nat, e1, e2] at hs
    have f1 : U.list (List.getD R[i] 0 (U.i 0)) = rM R[i] := rfl
    have f2 : U.list (List.getD S[i] 0 (U.i 0)) = rM S[i] := rfl
    rw [f1, f2, dt hr] at hs
    simp (disch := omega) only [Nat.add_eq, eqSy_self, eqN_self, bc_same, List.length_cons, ofn, wrap_in, dt, df, bltD, bltN, ble_of, bleN, beqD, bc_t, bc_f, nn_ok, Nat.zero_add, to_nat, Int.zero_add, Int.sub_zero, Int.sub_self, Int.cast_ofNat_Int, Int.natCast_zero, Int.toNat_zero, List.take_zero, List.nil_append, List.length_append, List.length_nil] at hs
    rw [List.drop_eq_getElem_cons h2, List.drop_eq_getElem_cons h3]
    unfold eqPB
    cases g1 : i2B (rM R[i]) (rM S[i]) <;> rw [g1] at hs
    · exact .done hs
    · exact .at ctIE_ok hs (loop hl hb hR k (i + 1) (by omega))
end PEqP
noncomputable def spEqP : ZCT := fun ax => match ax with
  | [.lst (.recs [.list [.int .i64, .int .i64]] R), .lst (.recs [.list [.int .i64, .int .i64]] S), .fn v_0 []] => some ⟨bc (Nat.beq v_0 (123)) (decide (R.length ≤ 100 ∧ hisS R)) false, bv (eqPB R S), [], 0⟩
  | _ => none
theorem spEqP_ok : ZCtOk Try.prog 122 spEqP := fun γ w us ax r hs hc hax hN hfz => by
  unfold spEqP at hs
  split at hs
  case h_2 => cases hs
  rename_i R S v_0
  obtain ⟨rfl⟩ := Option.some.inj hs
  have hc_0 : bc (Nat.beq v_0 (123)) (decide (R.length ≤ 100 ∧ hisS R)) false = true := hc
  obtain ⟨q_0, hc_1⟩ := bcT hc_0
  have p_0 := (Nat.eq_of_beq_eq_true q_0).symm
  subst p_0
  have hc := of_decide_eq_true hc_1
  exact EndZ.calls (by
    have h := PEqP.in_t R S
    by_cases h1 : S.length = R.length
    · have e : (Int.ofNat R.length != Int.ofNat S.length) = false := by simp [h1]
      rw [e, bc_f] at h
      exact .at ctIE_ok h (PEqP.loop hc.1 h1 hc.2 R.length 0 (by omega))
    · have e : (Int.ofNat R.length != Int.ofNat S.length) = true := by simp; omega
      rw [e, bc_t] at h
      show EndZ _ _ _ _ (bv (eqPB R S)) _ _
      rw [eqPB_len (fun e => h1 e.symm)]
      exact .done h) ctIE_ok (by kernel_rfl) hax hN hfz
noncomputable def ctPP : Tr ZCC := ((Tr.nil.put 114 (some (dC spPCk17))).put 121 (some (dC spPPn))).put 122 (some (dC spEqP))
theorem ctPP_ok : ZCtsOk Try.prog ctPP := (((ZCtsOk.nil _).add rfl spPCk17_ok).add rfl spPPn_ok).add rfl spEqP_ok
namespace PPin
noncomputable def RUN (s : ES) : ZF := RZ 52 ctPP (fun _ => false) [] [] false s
theorem in_t (n m : Int) (X P Y Q : List (List U)) : RUN (st0 52 [clE n X P, clE m Y Q]) = (bc (chk17 n X P != (0 : Int)) (bc (chk17 n X P != (0 : Int)) (.done (EV.tup [(EV.v (Value.bool false)), (EV.v (Value.int IntKind.i64 (chk17 n X P)))]) [] 0) (bc (bc (bc (decide ((0 : Int) ≤ n ∧ n ≤ (48 : Int) ∧ List.length P ≤ (6400 : Nat) ∧ prs n P)) (bc (decide ((0 : Int) ≤ m ∧ m ≤ (48 : Int) ∧ List.length Q ≤ (6400 : Nat) ∧ prs m Q)) (bc (bc (decide (List.length (rowsP (pnF P (pn0 (Int.toNat n)))) ≤ (100 : Nat) ∧ hisS (rowsP (pnF P (pn0 (Int.toNat n)))))) true false) true false) false) false) (bc (bc (bc (bc (decide (m = m)) (bc (eqSy (SyC.recs shX Y) (SyC.recs shX Y)) (bc (eqSy (SyC.recs shX Q) (SyC.recs shX Q)) true false) false) false) true false) true false) true false) false) (.done (EV.tup [(EV.v (Value.bool (eqPB (rowsP (pnF P (pn0 (Int.toNat n)))) (rowsP (pnF Q (pn0 (Int.toNat m))))))), (EV.v (Value.int IntKind.i64 (0)))]) [] 0) .bad)) (bc (chk17 m Y Q != (0 : Int)) (bc (chk17 m Y Q != (0 : Int)) (.done (EV.tup [(EV.v (Value.bool false)), (EV.v (Value.int IntKind.i64 (chk17 m Y Q)))]) [] 0) (bc (bc (bc (decide ((0 : Int) ≤ n ∧ n ≤ (48 : Int) ∧ List.length P ≤ (6400 : Nat) ∧ prs n P)) (bc (decide ((0 : Int) ≤ m ∧ m ≤ (48 : Int) ∧ List.length Q ≤ (6400 : Nat) ∧ prs m Q)) (bc (bc (decide (List.length (rowsP (pnF P (pn0 (Int.toNat n)))) ≤ (100 : Nat) ∧ hisS (rowsP (pnF P (pn0 (Int.toNat n)))))) true false) true false) false) false) (bc (bc (bc (bc (decide (m = m)) (bc (eqSy (SyC.recs shX Y) (SyC.recs shX Y)) (bc (eqSy (SyC.recs shX Q) (SyC.recs shX Q)) true false) false) false) true false) true false) true false) false) (.done (EV.tup [(EV.v (Value.bool (eqPB (rowsP (pnF P (pn0 (Int.toNat n)))) (rowsP (pnF Q (pn0 (Int.toNat m))))))), (EV.v (Value.int IntKind.i64 (0)))]) [] 0) .bad)) (bc (bc (bc (decide ((0 : Int) ≤ n ∧ n ≤ (48 : Int) ∧ List.length P ≤ (6400 : Nat) ∧ prs n P)) (bc (decide ((0 : Int) ≤ m ∧ m ≤ (48 : Int) ∧ List.length Q ≤ (6400 : Nat) ∧ prs m Q)) (bc (bc (decide (List.length (rowsP (pnF P (pn0 (Int.toNat n)))) ≤ (100 : Nat) ∧ hisS (rowsP (pnF P (pn0 (Int.toNat n)))))) true false) true false) false) false) (bc (bc (bc (bc (decide (m = m)) (bc (eqSy (SyC.recs shX Y) (SyC.recs shX Y)) (bc (eqSy (SyC.recs shX Q) (SyC.recs shX Q)) true false) false) false) true false) true false) true false) false) (.done (EV.tup [(EV.v (Value.bool (eqPB (rowsP (pnF P (pn0 (Int.toNat n)))) (rowsP (pnF Q (pn0 (Int.toNat m))))))), (EV.v (Value.int IntKind.i64 (0)))]) [] 0) .bad))) := by kernel_rfl
theorem ends (n m : Int) (X P Y Q : List (List U)) : EndZ 52 ctPP false (st0 52 [clE n X P, clE m Y Q]) (.tup [bv (pindB n m X P Y Q), iv (botE n m X P Y Q)]) [] 0 := by
  have h := in_t n m X P Y Q
  unfold pindB botE
  by_cases z1 : chk17 n X P = 0
  · have b1 : (chk17 n X P != 0) = false := by simp [z1]
    rw [b1, bc_f] at h
    rw [b1, bc_f]
    by_cases z2 : chk17 m Y Q = 0
    · have b3 : (chk17 m Y Q != 0) = false := by simp [z2]
      rw [b3, bc_f] at h
      rw [b3, bc_f, z2]
      obtain ⟨c1, c2, c3, c4, c5, c6, c7⟩ := chk17_ok z1
      obtain ⟨d1, d2, d3, d4, d5, d6, d7⟩ := chk17_ok z2
      have c8 := prs_of c7
      have d8 := prs_of d7
      obtain ⟨n, rfl⟩ := Int.eq_ofNat_of_zero_le (show 0 ≤ n by omega)
      obtain ⟨m, rfl⟩ := Int.eq_ofNat_of_zero_le (show 0 ≤ m by omega)
      rw [to_nat, to_nat, dt (show (0 : Int) ≤ m ∧ (m : Int) ≤ 48 ∧ Q.length ≤ 6400 ∧ prs m Q from ⟨by omega, by omega, by omega, d8⟩), dt (show (0 : Int) ≤ n ∧ (n : Int) ≤ 48 ∧ P.length ≤ 6400 ∧ prs n P from ⟨by omega, by omega, by omega, c8⟩), dt (show (rowsP (pnF P (pn0 n))).length ≤ 100 ∧ hisS (rowsP (pnF P (pn0 n))) from ⟨by rw [rowsN_len]; omega, hisS_rowsP c8 (by omega)⟩)] at h
      simp (disch := omega) only [Nat.add_eq, eqSy_self, eqN_self, bc_same, List.length_cons, ofn, wrap_in, dt, df, bltD, bltN, ble_of, bleN, beqD, bc_t, bc_f, nn_ok, Nat.zero_add, to_nat, Int.zero_add, Int.sub_zero, Int.sub_self, Int.cast_ofNat_Int, Int.natCast_zero, Int.toNat_zero, List.take_zero, List.nil_append, List.length_append, List.length_nil] at h
      have hb : eqPB (rowsP (pnF P (pn0 n))) (rowsP (pnF Q (pn0 m))) = bc ((n : Int) != (m : Int)) false (pinF P Q 0 n) := by
        by_cases z3 : n = m
        · subst z3
          have b4 : ((n : Int) != (n : Int)) = false := by simp
          rw [b4, bc_f]
          exact eqPB_rows c8 d8 n 0 (by omega)
        · have b4 : ((n : Int) != (m : Int)) = true := by simp; omega
          rw [b4, bc_t]
          exact eqPB_len (by rw [rowsN_len, rowsN_len]; exact z3)
      rw [hb] at h
      exact .done h
    · have b3 : (chk17 m Y Q != 0) = true := by simp [z2]
      rw [b3, bc_t, bc_t] at h
      rw [b3, bc_t]
      exact .done h
  · have b1 : (chk17 n X P != 0) = true := by simp [z1]
    rw [b1, bc_t, bc_t] at h
    rw [b1, bc_t, b1, bc_t]
    exact .done h
end PPin
noncomputable def spPPin : ZCT := fun ax => match ax with
  | [.agg [.v (.int .i64 n), .lst (.recs [.int .i64, .int .i64, .int .i64, .int .i64] X), .lst (.recs [.int .i64, .int .i64, .int .i64, .int .i64] P)], .agg [.v (.int .i64 m), .lst (.recs [.int .i64, .int .i64, .int .i64, .int .i64] Y), .lst (.recs [.int .i64, .int .i64, .int .i64, .int .i64] Q)]] => some ⟨decide (True), .tup [bv (pindB n m X P Y Q), iv (botE n m X P Y Q)], [], 0⟩
  | _ => none
theorem spPPin_ok : ZCtOk Try.prog 52 spPPin := fun γ w us ax r hs hc hax hN hfz => by
  unfold spPPin at hs
  split at hs
  case h_2 => cases hs
  rename_i n X P m Y Q
  obtain ⟨rfl⟩ := Option.some.inj hs
  have hc_0 : decide (True) = true := hc
  have hc := of_decide_eq_true hc_0
  exact EndZ.calls (PPin.ends n m X P Y Q) ctPP_ok (by kernel_rfl) hax hN hfz
namespace RPin
noncomputable def ctRP : Tr ZCC := (Tr.nil.put 83 (some (dC spRBot))).put 125 (some (dC spRPns))
theorem ctRP_ok : ZCtsOk Try.prog ctRP := ((ZCtsOk.nil _).add rfl spRBot_ok).add rfl spRPns_ok
noncomputable def RUN (s : ES) : ZF := RZs 53 ctRP [(atS 0 53 5, [[(2,none),(3,none),(7,none)]]), (atS 0 53 11, [[(2,none),(3,none),(7,none),(8,none),(9,none),(10,none)]])] [] false s

noncomputable def sS (n m : Int) (X P Y Q : List (List U)) (i : Int) : NS := ⟨[⟨53, 56, [(2, (EV.ptr 0 0)), (3, (EV.ptr 1 0)), (7, iv i)], [.it (.code (nav [1, 1, 1, 0, 1, 0, 0, 0] (bodyOf Try.f53))), .it (.code (nav [1, 1, 1, 0, 1, 0, 0, 1] (bodyOf Try.f53))), .it (.inLoop (nav [1, 1, 1, 0, 1, 0, 0] (bodyOf Try.f53))), .it (.inBlock 0), .it (.code (nav [1, 1, 1, 1] (bodyOf Try.f53)))], [], Option.none⟩], [(0, (EK.cells 25 [(EV.v (Value.int IntKind.i64 (n))), (EV.lst (SyC.recs [(Sh.int IntKind.i64), (Sh.int IntKind.i64), (Sh.int IntKind.i64), (Sh.int IntKind.i64)] (X))), (EV.lst (SyC.recs [(Sh.int IntKind.i64), (Sh.int IntKind.i64), (Sh.int IntKind.i64), (Sh.int IntKind.i64)] (P)))] true)), (1, (EK.cells 25 [(EV.v (Value.int IntKind.i64 (m))), (EV.lst (SyC.recs [(Sh.int IntKind.i64), (Sh.int IntKind.i64), (Sh.int IntKind.i64), (Sh.int IntKind.i64)] (Y))), (EV.lst (SyC.recs [(Sh.int IntKind.i64), (Sh.int IntKind.i64), (Sh.int IntKind.i64), (Sh.int IntKind.i64)] (Q)))] true))], 2⟩
noncomputable def sI (n m : Int) (X P Y Q a b : List (List U)) (i k : Int) : NS := ⟨[⟨53, 56, [(2, (EV.ptr 0 0)), (3, (EV.ptr 1 0)), (7, (EV.v (Value.int IntKind.i64 (i)))), (8, i2l a), (9, i2l b), (10, iv k)], [.it (.code (nav [1, 1, 1, 0, 1, 0, 0, 1, 0, 0, 1, 1, 1, 0, 0, 0] (bodyOf Try.f53))), .it (.code (nav [1, 1, 1, 0, 1, 0, 0, 1, 0, 0, 1, 1, 1, 0, 0, 1] (bodyOf Try.f53))), .it (.inLoop (nav [1, 1, 1, 0, 1, 0, 0, 1, 0, 0, 1, 1, 1, 0, 0] (bodyOf Try.f53))), .it (.inBlock 2), .it (.inBlock 1), .it (.code (nav [1, 1, 1, 0, 1, 0, 0, 1, 1] (bodyOf Try.f53))), .it (.inLoop (nav [1, 1, 1, 0, 1, 0, 0] (bodyOf Try.f53))), .it (.inBlock 0), .it (.code (nav [1, 1, 1, 1] (bodyOf Try.f53)))], [], Option.none⟩], [(0, (EK.cells 25 [(EV.v (Value.int IntKind.i64 (n))), (EV.lst (SyC.recs [(Sh.int IntKind.i64), (Sh.int IntKind.i64), (Sh.int IntKind.i64), (Sh.int IntKind.i64)] (X))), (EV.lst (SyC.recs [(Sh.int IntKind.i64), (Sh.int IntKind.i64), (Sh.int IntKind.i64), (Sh.int IntKind.i64)] (P)))] true)), (1, (EK.cells 25 [(EV.v (Value.int IntKind.i64 (m))), (EV.lst (SyC.recs [(Sh.int IntKind.i64), (Sh.int IntKind.i64), (Sh.int IntKind.i64), (Sh.int IntKind.i64)] (Y))), (EV.lst (SyC.recs [(Sh.int IntKind.i64), (Sh.int IntKind.i64), (Sh.int IntKind.i64), (Sh.int IntKind.i64)] (Q)))] true))], 2⟩
theorem in_t (n m : Int) (X P Y Q : List (List U)) : RUN (st0 53 [clE n X P, clE m Y Q]) = (bc (botE n m X P Y Q != (0 : Int)) (.done (EV.tup [(EV.v (Value.bool false)), (EV.v (Value.int IntKind.i64 (botE n m X P Y Q)))]) [] 0) (bc (n != m) (.done (EV.tup [(EV.v (Value.bool false)), (EV.v (Value.int IntKind.i64 (botE n m X P Y Q)))]) [] 0) (.at (sS (n) (m) (X) (P) (Y) (Q) ((0 : Int)))))) := by kernel_rfl
theorem o_t (n m : Int) (X P Y Q : List (List U)) (i : Int) : RUN (stOf (sS n m X P Y Q i)) = (bc (decide (i < n)) (bc (bc (bc (decide (List.length P ≤ (6400 : Nat))) (bc (decide (List.length Q ≤ (6400 : Nat))) true false) false) (bc (bc (bc (bc (decide (m = m)) (bc (eqSy (SyC.recs [Sh.int IntKind.i64, Sh.int IntKind.i64, Sh.int IntKind.i64, Sh.int IntKind.i64] Y) (SyC.recs [Sh.int IntKind.i64, Sh.int IntKind.i64, Sh.int IntKind.i64, Sh.int IntKind.i64] Y)) (bc (eqSy (SyC.recs [Sh.int IntKind.i64, Sh.int IntKind.i64, Sh.int IntKind.i64, Sh.int IntKind.i64] Q) (SyC.recs [Sh.int IntKind.i64, Sh.int IntKind.i64, Sh.int IntKind.i64, Sh.int IntKind.i64] Q)) true false) false) false) true false) true false) true false) false) (bc (Int.ofNat (List.length (piF i P)) != Int.ofNat (List.length (piF i Q))) (.done (EV.tup [(EV.v (Value.bool false)), (EV.v (Value.int IntKind.i64 (0)))]) [] 0) (.at (sI (n) (m) (X) (P) (Y) (Q) (piF i P) (piF i Q) (i) ((0 : Int))))) .bad) (.done (EV.tup [(EV.v (Value.bool true)), (EV.v (Value.int IntKind.i64 (0)))]) [] 0)) := by kernel_rfl
theorem i_t (n m : Int) (X P Y Q a b : List (List U)) (i k : Int) : RUN (stOf (sI n m X P Y Q a b i k)) = (bc (decide (k < Int.ofNat (List.length a))) (bc (bc (bc (bc (bc (decide ((0 : Int) ≤ k)) (Nat.blt (Int.toNat k) (List.length a)) false) true false) (bc (bc (Nat.blt (Int.toNat k) (List.length a)) true false) (bc (bc (bc (decide ((0 : Int) ≤ k)) (Nat.blt (Int.toNat k) (List.length b)) false) true false) (bc (bc (Nat.blt (Int.toNat k) (List.length b)) true false) true false) false) false) false) true false) (bc (bnot (bc (U.int (List.getD (List.getD a (Int.toNat k) []) (0 : Nat) (U.i (0 : Int))) == U.int (List.getD (List.getD b (Int.toNat k) []) (0 : Nat) (U.i (0 : Int)))) (bc (U.int (List.getD (List.getD a (Int.toNat k) []) (Nat.succ (0 : Nat)) (U.i (0 : Int))) == U.int (List.getD (List.getD b (Int.toNat k) []) (Nat.succ (0 : Nat)) (U.i (0 : Int)))) true false) false)) (.done (EV.tup [(EV.v (Value.bool false)), (EV.v (Value.int IntKind.i64 (0)))]) [] 0) (.at (sI (n) (m) (X) (P) (Y) (Q) (a) (b) (i) (IntKind.wrap IntKind.i64 (k + (1 : Int)))))) .bad) (.at (sS (n) (m) (X) (P) (Y) (Q) (IntKind.wrap IntKind.i64 (i + (1 : Int)))))) := by kernel_rfl
theorem inner {n m : Int} {X P Y Q a b : List (List U)} {i : Nat} {w : Bool → EV} (hl : a.length ≤ 100000) (hb : b.length = a.length) (hi : i ≤ 100) (hw : w false = .tup [bv false, iv 0]) (hn : EndZ 53 ctRP false (stOf (sS n m X P Y Q (i + 1 : Nat))) (w true) [] 0) : ∀ (f k : Nat), k + f = a.length → EndZ 53 ctRP false (stOf (sI n m X P Y Q a b i k)) (w (i2B (a.drop k) (b.drop k))) [] 0
  | 0, k, h => by
    have hs := i_t n m X P Y Q a b i k
    rw [List.drop_eq_nil_of_le (show a.length ≤ k by omega), List.drop_eq_nil_of_le (show b.length ≤ k by omega)]
    simp (disch := omega) only [Nat.add_eq, eqSy_self, eqN_self, bc_same, List.length_cons, ofn, wrap_in, dt, df, bltD, bltN, ble_of, bleN, beqD, bc_t, bc_f, nn_ok, Nat.zero_add, to_nat, Int.zero_add, Int.sub_zero, Int.sub_self, Int.cast_ofNat_Int, Int.natCast_zero, Int.toNat_zero, List.take_zero, List.nil_append, List.length_append, List.length_nil] at hs
    exact .at ctRP_ok hs hn
  | f + 1, k, h => by
    have hs := i_t n m X P Y Q a b i k
    have h2 : k < a.length := by omega
    have h3 : k < b.length := by omega
    have e1 : a.getD k [] = a[k] := getD_at h2
    have e2 : b.getD k [] = b[k] := getD_at h3
    rw [to_nat, e1, e2] at hs
    have f1 : U.int (List.getD a[k] 0 (U.i 0)) = mT a[k] := rfl
    have f2 : U.int (List.getD b[k] 0 (U.i 0)) = mT b[k] := rfl
    have f3 : U.int (List.getD a[k] (Nat.succ 0) (U.i 0)) = xA a[k] := rfl
    have f4 : U.int (List.getD b[k] (Nat.succ 0) (U.i 0)) = xA b[k] := rfl
    rw [f1, f2, f3, f4] at hs
    simp (disch := omega) only [Nat.add_eq, eqSy_self, eqN_self, bc_same, List.length_cons, ofn, wrap_in, dt, df, bltD, bltN, ble_of, bleN, beqD, bc_t, bc_f, nn_ok, Nat.zero_add, to_nat, Int.zero_add, Int.sub_zero, Int.sub_self, Int.cast_ofNat_Int, Int.natCast_zero, Int.toNat_zero, List.take_zero, List.nil_append, List.length_append, List.length_nil] at hs
    rw [List.drop_eq_getElem_cons h2, List.drop_eq_getElem_cons h3]
    unfold i2B
    cases g1 : (mT a[k] == mT b[k]) <;> rw [g1] at hs
    · rw [bc_f, hw]; exact .done hs
    · cases g2 : (xA a[k] == xA b[k]) <;> rw [g2] at hs
      · rw [bc_t, bc_f, hw]; exact .done hs
      · exact .at ctRP_ok hs (inner hl hb hi hw hn f (k + 1) (by omega))
theorem loop {n : Nat} {m : Int} {X P Y Q : List (List U)} (hP : P.length ≤ 6400) (hQ : Q.length ≤ 6400) (hn : n ≤ 48) : ∀ (k i : Nat), i + k = n → EndZ 53 ctRP false (stOf (sS n m X P Y Q i)) (.tup [bv (pinF P Q i k), iv 0]) [] 0
  | 0, i, h => by
    have hs := o_t n m X P Y Q i
    simp (disch := omega) only [Nat.add_eq, eqSy_self, eqN_self, bc_same, List.length_cons, ofn, wrap_in, dt, df, bltD, bltN, ble_of, bleN, beqD, bc_t, bc_f, nn_ok, Nat.zero_add, to_nat, Int.zero_add, Int.sub_zero, Int.sub_self, Int.cast_ofNat_Int, Int.natCast_zero, Int.toNat_zero, List.take_zero, List.nil_append, List.length_append, List.length_nil] at hs
    exact .done hs
  | k + 1, i, h => by
    have hs := o_t n m X P Y Q i
    have hp := piF_len i P
    have hq := piF_len i Q
    have ih := loop (m := m) (X := X) (Y := Y) hP hQ hn k (i + 1) (by omega)
    simp (disch := omega) only [Nat.add_eq, eqSy_self, eqN_self, bc_same, List.length_cons, ofn, wrap_in, dt, df, bltD, bltN, ble_of, bleN, beqD, bc_t, bc_f, nn_ok, Nat.zero_add, to_nat, Int.zero_add, Int.sub_zero, Int.sub_self, Int.cast_ofNat_Int, Int.natCast_zero, Int.toNat_zero, List.take_zero, List.nil_append, List.length_append, List.length_nil] at hs
    unfold pinF
    by_cases h1 : (piF i P).length = (piF i Q).length
    · have e : (((piF i P).length : Int) != ((piF i Q).length : Int)) = false := by simp [h1]
      rw [e, bc_f] at hs
      refine .at ctRP_ok hs ?_
      exact inner (w := fun b => .tup [bv (bc b (pinF P Q (i + 1) k) false), iv 0]) (by omega) h1.symm (by omega) rfl ih (piF i P).length 0 (by omega)
    · have e : (((piF i P).length : Int) != ((piF i Q).length : Int)) = true := by simp; omega
      rw [e, bc_t] at hs
      rw [i2B_len h1]
      exact .done hs
theorem ends (n m : Int) (X P Y Q : List (List U)) : EndZ 53 ctRP false (st0 53 [clE n X P, clE m Y Q]) (.tup [bv (pindB n m X P Y Q), iv (botE n m X P Y Q)]) [] 0 := by
  have h := in_t n m X P Y Q
  unfold pindB
  by_cases z0 : botE n m X P Y Q = 0
  · have b0 : (botE n m X P Y Q != 0) = false := by simp [z0]
    rw [b0, bc_f] at h
    rw [b0, bc_f]
    by_cases z3 : n = m
    · have b4 : (n != m) = false := by simp [z3]
      rw [b4, bc_f] at h
      rw [b4, bc_f, z0]
      obtain ⟨z1, z2⟩ := botE_ok z0
      obtain ⟨c1, c2, c3, c4, _⟩ := chk17_ok z1
      obtain ⟨_, _, d3, d4, _⟩ := chk17_ok z2
      obtain ⟨n, rfl⟩ := Int.eq_ofNat_of_zero_le (show 0 ≤ n by omega)
      exact .at ctRP_ok h (loop c4 d4 (by omega) n 0 (by omega))
    · have b4 : (n != m) = true := by simp [z3]
      rw [b4, bc_t] at h
      rw [b4, bc_t]
      exact .done h
  · have b0 : (botE n m X P Y Q != 0) = true := by simp [z0]
    rw [b0, bc_t] at h
    rw [b0, bc_t]
    exact .done h
end RPin
noncomputable def spRPin : ZCT := fun ax => match ax with
  | [.agg [.v (.int .i64 n), .lst (.recs [.int .i64, .int .i64, .int .i64, .int .i64] X), .lst (.recs [.int .i64, .int .i64, .int .i64, .int .i64] P)], .agg [.v (.int .i64 m), .lst (.recs [.int .i64, .int .i64, .int .i64, .int .i64] Y), .lst (.recs [.int .i64, .int .i64, .int .i64, .int .i64] Q)]] => some ⟨decide (True), .tup [bv (pindB n m X P Y Q), iv (botE n m X P Y Q)], [], 0⟩
  | _ => none
theorem spRPin_ok : ZCtOk Try.prog 53 spRPin := fun γ w us ax r hs hc hax hN hfz => by
  unfold spRPin at hs
  split at hs
  case h_2 => cases hs
  rename_i n X P m Y Q
  obtain ⟨rfl⟩ := Option.some.inj hs
  have hc_0 : decide (True) = true := hc
  have hc := of_decide_eq_true hc_0
  exact EndZ.calls (RPin.ends n m X P Y Q) RPin.ctRP_ok (by kernel_rfl) hax hN hfz
end Go.Proofs.Ytonbfalbfdkieaa.Ev
namespace Go.Proofs.Ytonbfalbfdkieaa.Ev
open Go.Proofs
noncomputable def ctCH : Tr ZCC := ((((((((Tr.nil.put 45 (some (dC spPHis))).put 50 (some (dC spRHi2))).put 47 (some (dC spPSam))).put 51 (some (dC spRSam))).put 52 (some (dC spPPin))).put 53 (some (dC spRPin))).put 54 (some (dC spMts))).put 15 (some (dC spFar))).put 16 (some (dC spTrue))
theorem ctCH_ok : ZCtsOk Try.prog ctCH := (((((((((ZCtsOk.nil _).add rfl spPHis_ok).add rfl spRHi2_ok).add rfl spPSam_ok).add rfl spRSam_ok).add rfl spPPin_ok).add rfl spRPin_ok).add rfl spMts_ok).add rfl spFar_ok).add rfl spShown_ok
namespace ACmH
noncomputable def RUN (s : ES) : ZF := RZ 10 ctCH (fun _ => false) [] [] false s
theorem in_t (n m t : Int) (X P Y Q : List (List U)) : RUN (st0 10 [clE n X P, clE m Y Q, iv t]) = (bc (farB n (200 : Int) X P) (.done (EV.v (Value.bool true)) [] 0) (bc (farB m (200 : Int) Y Q) (.done (EV.v (Value.bool true)) [] 0) (bc (bc (decide (eqR (hisL n t X P) (hisL n t X P) ∧ List.length (hisL n t X P) ≤ (100000 : Nat))) true false) (bc (hisE n t X P == hisE n t X P) (bc (samB n m X P Y Q == samB n m X P Y Q) (bc (botE n m X P Y Q == botE n m X P Y Q) (bc (pindB n m X P Y Q == pindB n m X P Y Q) (bc (botE n m X P Y Q == botE n m X P Y Q) (.done (EV.v (Value.bool true)) [] 0) (.done (EV.v (Value.bool false)) [] 0)) (.done (EV.v (Value.bool false)) [] 0)) (.done (EV.v (Value.bool false)) [] 0)) (.done (EV.v (Value.bool false)) [] 0)) (.done (EV.v (Value.bool false)) [] 0)) .bad))) := by kernel_rfl
theorem ends (n m t : Int) (X P Y Q : List (List U)) : EndZ 10 ctCH false (st0 10 [clE n X P, clE m Y Q, iv t]) (bv true) [] 0 := by
  have h := in_t n m t X P Y Q
  have e3 : eqR (hisL n t X P) (hisL n t X P) ∧ (hisL n t X P).length ≤ 100000 := ⟨rfl, by have := hisL_len n t X P; omega⟩
  simp only [dt e3, beq_self_eq_true, bc_t] at h
  cases h1 : farB n 200 X P <;> rw [h1] at h
  · cases h2 : farB m 200 Y Q <;> rw [h2] at h
    · exact .done h
    · exact .done h
  · exact .done h
end ACmH
theorem compareHistories_calls {γ : G} {w : World} {us : Array Value} (ra : List U) (wa : RowFit [.int .i64, .list shX, .list shX] ra) (rb : List U) (wb : RowFit [.int .i64, .list shX, .list shX] rb) (t : Int) (ht : (Lit.int .i64 t).wf = true)
    (hax : ECL γ [.agg (recE [.int .i64, .list shX, .list shX] ra), .agg (recE [.int .i64, .list shX, .list shX] rb), .v (.int .i64 t)] us.toList) (hN : ∀ i, γ i = none) (hfz : FzAt γ w) : Calls Try.prog 10 us w fun e w' => e = .returned (.bool true) ∧ Stays w w' := by
  have hla := wa.len
  have hlb := wb.len
  match ra, hla, rb, hlb with
  | [x1, x2, x3], _, [y1, y2, y3], _ =>
    exact law_of ((ACmH.ends _ _ _ _ _ _ _).calls ctCH_ok (by kernel_rfl) hax hN hfz)
end Go.Proofs.Ytonbfalbfdkieaa.Ev
namespace Go.Proofs.Ytonbfalbfdkieaa
open Go.ChangeShapes Go.WideShapes Go.ChangeAt Go.RowKit Go.ChangeMaps
theorem knobCompareHistories : ownKnob Try.prog.godebug = none := by kernel_rfl
theorem kidsCompareHistories : Kids Try.prog (· < Try.prog.types.size) := kids_rows (by kernel_rfl) (by kernel_rfl)
theorem fullCompareHistories : ∀ t e, t < Try.prog.types.size → Try.prog.underlying t = some (.slice e) → 0 < Try.prog.cellsOf e := slices_full_of Try.prog (by kernel_rfl)
set_option maxRecDepth 100000 in
theorem liftedCompareHistories (os : Os) (started : os.Started) (H : Type) (enc : TypeId × Value → H) :
    ReturnsInHanded {} Try.checked os 10 .any (Rows.compareHistoriesSpec.pre6 enc Try.prog Try.f10 Rows.compareHistoriesRow.domain false) (Rows.compareHistoriesSpec.post enc Try.prog Try.f10 false true false false) := by
  refine returnsInHanded_of_change (C := Try.checked) knobCompareHistories started (by kernel_rfl) Try.func10
    (ChangeSpec.witness6 (enc := enc) (C := Try.checked) false ⟨#[], #[.agg #[.int .i64 0, .slice none 0 0, .slice none 0 0], .agg #[.int .i64 0, .slice none 0 0, .slice none 0 0], .int .i64 0], []⟩ 8 (by kernel_rfl) (by kernel_rfl) (by kernel_rfl) (by kernel_rfl)) ?_
  intro W base args ds gs before hval0 hW hcnd _
  have hval : ∀ (j : Nat) t v, Try.f10.params[j]? = some t → args[j]? = some v → Value.okWide Try.prog W .any base t v := hval0
  have hW' := hW
  obtain ⟨p, q, hA0, hV, rfl, hfz, hnd⟩ := hW
  have hA : DataW.TrodAll enc Try.prog W 0 (fun _ => true) true Try.f10.params.toList args.toList ds p := hA0
  have hAk := hA
  rw [Try.params10] at hA hval
  obtain ⟨rfl, rfl⟩ := trodVars_none hV
  obtain ⟨v0, v1, v2, d0, d1, d2, p0, p1, p2, rfl, rfl, rfl, h0, h1, h2⟩ := trodAll_three hA
  obtain ⟨ra, wra, era⟩ := Ev.open_agg (k := 8) Try.underlying25 (by kernel_rfl : Ev.shB Try.prog 8 25 = some [.int .i64, .list [.int .i64, .int .i64, .int .i64, .int .i64], .list [.int .i64, .int .i64, .int .i64, .int .i64]]) (hval 0 25 v0 rfl rfl) h0
  obtain ⟨rb, wrb, erb⟩ := Ev.open_agg (k := 8) Try.underlying25 (by kernel_rfl : Ev.shB Try.prog 8 25 = some [.int .i64, .list [.int .i64, .int .i64, .int .i64, .int .i64], .list [.int .i64, .int .i64, .int .i64, .int .i64]]) (hval 1 25 v1 rfl rfl) h1
  obtain ⟨t, rfl, rfl, rfl, wt⟩ := open_int Try.underlying3 (hval 2 3 v2 rfl rfl) h2
  clear hA0 hval0
  refine (Ev.compareHistories_calls ra wra rb wrb t wt (γ := Ev.gAll W) (.cons era (.cons erb (.cons (.v _) (.nil _)))) (fun i => rfl) (Ev.fzAll_at W)).mono fun e W' ⟨he, hg⟩ => ?_
  subst he
  exact ⟨_, rfl, post_law kidsCompareHistories fullCompareHistories Try.underlying4 (by kernel_rfl) (by kernel_rfl) rfl rfl (by rw [Try.params10]; decide) hW' hAk hg (ok_one (by kernel_rfl) rfl (okWide_bool_mk Try.underlying4 _))⟩
theorem compareHistories_holds : Rows.CompareHistoriesSaid :=
  OpenClaim.holds_of_wide 10 Try.f10 rfl rfl rfl rfl rfl rfl rfl ⟨rfl, rfl, rfl, rfl, rfl⟩ rfl rfl rfl rfl rfl (by kernel_rfl) Try.func10 (by kernel_rfl)
    (of_decide_eq_true (by kernel_rfl)) (by unfold Func.isWrapper; first | (rw [if_pos (by decide +kernel)]; kernel_rfl) | (rw [if_neg (by decide +kernel)]; exact ⟨rfl, rfl⟩))
    (fun os started H enc _ => liftedCompareHistories os started H enc)
end Go.Proofs.Ytonbfalbfdkieaa
