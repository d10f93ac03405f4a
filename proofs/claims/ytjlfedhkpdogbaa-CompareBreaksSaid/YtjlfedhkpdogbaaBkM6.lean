/- CompareBreaks returns true, for all arguments, in every world in which it is called, and nothing that was there turns. -/
import Derived.Shelf.Slices.CompactI
import Derived.Test.YtjlfedhkpdogbaaProg
import Derived.ProofKit
import Derived.ReadAgain
import Derived.OpenShut
import Derived.Test.YtjlfedhkpdogbaaRows
import Derived.WalkKit
import Derived.Test.YtjlfedhkpdogbaaBkM5
set_option linter.unusedSimpArgs false
set_option linter.unusedVariables false
namespace Go.Proofs.Ytjlfedhkpdogbaa.Ev
open Go.Proofs
namespace PNxt
noncomputable def K0 (D : List Int) (R : List (List U)) : List (Nat × EK) := [(0, .cells 42 [.slO 2 1 D.length true] true), (1, .cells 63 [.lst (.recs [.list [.int .i64, .bool], .list [.int .i64]] R)] true), (2, .seq 3 (.ints .i64 D) true)]
noncomputable def RM (s : ES) : ZF := RMs 3 44 .nil [] [] [] s
theorem in_t (t : Int) (D : List Int) (R : List (List U)) : RM (st0m 44 [iv t, .ptr 0 0, .ptr 1 0] (K0 D R) 3) = (bc (bc (bc (decide ((0 : Int) ≤ t)) (Nat.blt (Int.toNat t) (List.length D)) false) true false) (bc (bc (Nat.blt (Int.toNat t) (List.length D)) true false) (bc (decide ((0 : Int) ≤ List.getD D (Int.toNat t) (0 : Int))) (bc (bc (bc (decide ((0 : Int) ≤ t)) (Nat.blt (Int.toNat t) (List.length R)) false) true false) (bc (bc (Nat.blt (Int.toNat t) (List.length R)) true false) (bc (decide (List.getD D (Int.toNat t) (0 : Int) < Int.ofNat (List.length (List.map (fun r => U.int (List.headD r (U.i (0 : Int)))) (U.list (List.getD (List.getD R (Int.toNat t) []) (Nat.add (0 : Nat) (1 : Nat)) (U.i (0 : Int)))))))) (bc (bc (bc (decide ((0 : Int) ≤ t)) (Nat.blt (Int.toNat t) (List.length R)) false) true false) (bc (bc (Nat.blt (Int.toNat t) (List.length R)) true false) (bc (bc (bc (decide ((0 : Int) ≤ List.getD D (Int.toNat t) (0 : Int))) (Nat.blt (Int.toNat (List.getD D (Int.toNat t) (0 : Int))) (List.length (List.map (fun r => U.int (List.headD r (U.i (0 : Int)))) (U.list (List.getD (List.getD R (Int.toNat t) []) (Nat.add (0 : Nat) (1 : Nat)) (U.i (0 : Int))))))) false) true false) (bc (bc (Nat.blt (Int.toNat (List.getD D (Int.toNat t) (0 : Int))) (List.length (List.map (fun r => U.int (List.headD r (U.i (0 : Int)))) (U.list (List.getD (List.getD R (Int.toNat t) []) (Nat.add (0 : Nat) (1 : Nat)) (U.i (0 : Int))))))) true false) (.done (EV.v (Value.int IntKind.i64 (List.getD (List.map (fun r => U.int (List.headD r (U.i (0 : Int)))) (U.list (List.getD (List.getD R (Int.toNat t) []) (Nat.add (0 : Nat) (1 : Nat)) (U.i (0 : Int))))) (Int.toNat (List.getD D (Int.toNat t) (0 : Int))) (0 : Int)))) [(0, (EK.cells 42 [(EV.slO 2 1 (List.length D) true)] true)), (1, (EK.cells 63 [(EV.lst (SyC.recs [(Sh.list [(Sh.int IntKind.i64), Sh.bool]), (Sh.list [(Sh.int IntKind.i64)])] (R)))] true)), (2, (EK.seq 3 (SyC.ints IntKind.i64 (D)) true))] 3) .bad) .bad) .bad) .bad) (.done (EV.v (Value.int IntKind.i64 (-1))) [(0, (EK.cells 42 [(EV.slO 2 1 (List.length D) true)] true)), (1, (EK.cells 63 [(EV.lst (SyC.recs [(Sh.list [(Sh.int IntKind.i64), Sh.bool]), (Sh.list [(Sh.int IntKind.i64)])] (R)))] true)), (2, (EK.seq 3 (SyC.ints IntKind.i64 (D)) true))] 3)) .bad) .bad) (.done (EV.v (Value.int IntKind.i64 (-1))) [(0, (EK.cells 42 [(EV.slO 2 1 (List.length D) true)] true)), (1, (EK.cells 63 [(EV.lst (SyC.recs [(Sh.list [(Sh.int IntKind.i64), Sh.bool]), (Sh.list [(Sh.int IntKind.i64)])] (R)))] true)), (2, (EK.seq 3 (SyC.ints IntKind.i64 (D)) true))] 3)) .bad) .bad) := by kernel_rfl
theorem ends {t : Int} {D : List Int} {R : List (List U)} (h0 : 0 ≤ t) (hD : t < D.length) (hR : t < R.length) (hL : (rA (R.getD t.toNat [])).length ≤ 100000) : EndM 3 44 .nil (st0m 44 [iv t, .ptr 0 0, .ptr 1 0] (K0 D R) 3) (iv (nxtF D R t)) (K0 D R) 3 := by
  obtain ⟨t, rfl⟩ := Int.eq_ofNat_of_zero_le h0; have h := in_t t D R; have e1 : List.map (fun r => U.int (List.headD r (U.i 0))) (U.list (List.getD (List.getD R t []) (Nat.add 0 1) (U.i 0))) = rA (R.getD t []) := rfl; rw [to_nat, e1] at h; unfold nxtF; rw [to_nat]; generalize rA (R.getD t []) = q at *; generalize hd : D.getD t 0 = d at *
  by_cases g1 : 0 ≤ d
  · obtain ⟨d, rfl⟩ := Int.eq_ofNat_of_zero_le g1
    by_cases g2 : d < q.length
    · simp (disch := omega) only [Nat.add_eq, eqSy_self, eqN_self, bc_same, List.length_cons, ofn, wrap_in, dt, df, bltD, bltN, ble_of, bleN, beqD, bc_t, bc_f, nn_ok, Nat.zero_add, to_nat, Int.zero_add, Int.sub_zero, Int.sub_self, Int.cast_ofNat_Int, Int.natCast_zero, Int.toNat_zero, List.take_zero, List.nil_append, List.length_append, List.length_nil] at h; rw [dt g1, bc_t, dt (show (d : Int) < (q.length : Int) by omega), bc_t, to_nat]; exact .done h
    · simp (disch := omega) only [Nat.add_eq, eqSy_self, eqN_self, bc_same, List.length_cons, ofn, wrap_in, dt, df, bltD, bltN, ble_of, bleN, beqD, bc_t, bc_f, nn_ok, Nat.zero_add, to_nat, Int.zero_add, Int.sub_zero, Int.sub_self, Int.cast_ofNat_Int, Int.natCast_zero, Int.toNat_zero, List.take_zero, List.nil_append, List.length_append, List.length_nil] at h; rw [dt g1, bc_t, df (show ¬ (d : Int) < (q.length : Int) by omega), bc_f]; exact .done h
  · simp (disch := omega) only [Nat.add_eq, eqSy_self, eqN_self, bc_same, List.length_cons, ofn, wrap_in, dt, df, bltD, bltN, ble_of, bleN, beqD, bc_t, bc_f, nn_ok, Nat.zero_add, to_nat, Int.zero_add, Int.sub_zero, Int.sub_self, Int.cast_ofNat_Int, Int.natCast_zero, Int.toNat_zero, List.take_zero, List.nil_append, List.length_append, List.length_nil] at h; rw [df g1, bc_f]; exact .done h
end PNxt
noncomputable def spNxt : ZMT := fun ax K0 m => match ax, K0 with
  | [.v (.int .i64 t), .ptr 0 0, .ptr 1 0], [(0, .cells 42 [.slO 2 1 v_0 v_1] v_2), (1, .cells 63 [.lst (.recs [.list [.int .i64, .bool], .list [.int .i64]] R)] v_3), (2, .seq 3 (.ints .i64 D) v_4)] => bc (Nat.beq m (3)) (some ⟨bc (Nat.beq v_0 (D.length)) (bc (eqN v_1 (true)) (bc (eqN v_2 (true)) (bc (eqN v_3 (true)) (bc (eqN v_4 (true)) (decide (0 ≤ t ∧ t < D.length ∧ t < R.length ∧ (rA (R.getD t.toNat [])).length ≤ 100000)) false) false) false) false) false, .v (.int .i64 (nxtF D R t)), PNxt.K0 D R, 3, 3⟩) none
  | _, _ => none
theorem spNxt_ok : ZMtOk Try.prog 44 spNxt := fun γ w0 w us ax K0 m r hs hc hres hax hH => by
  unfold spNxt at hs; split at hs
  case h_2 => cases hs
  rename_i t v_0 v_1 v_2 R v_3 D v_4; obtain ⟨hm, rfl⟩ := noN hs; have hm := Nat.eq_of_beq_eq_true hm; subst hm; have hc_0 : bc (Nat.beq v_0 (D.length)) (bc (eqN v_1 (true)) (bc (eqN v_2 (true)) (bc (eqN v_3 (true)) (bc (eqN v_4 (true)) (decide (0 ≤ t ∧ t < D.length ∧ t < R.length ∧ (rA (R.getD t.toNat [])).length ≤ 100000)) false) false) false) false) false = true := hc; obtain ⟨q_0, hc_1⟩ := bcT hc_0; have p_0 := (Nat.eq_of_beq_eq_true q_0).symm; subst p_0; obtain ⟨q_1, hc_2⟩ := bcT hc_1; have p_1 := (eqN_ok q_1).symm; subst p_1; obtain ⟨q_2, hc_3⟩ := bcT hc_2; have p_2 := (eqN_ok q_2).symm
  subst p_2; obtain ⟨q_3, hc_4⟩ := bcT hc_3; have p_3 := (eqN_ok q_3).symm; subst p_3; obtain ⟨q_4, hc_5⟩ := bcT hc_4; have p_4 := (eqN_ok q_4).symm; subst p_4; have hc := of_decide_eq_true hc_5; exact EndM.calls (PNxt.ends hc.1 hc.2.1 hc.2.2.1 hc.2.2.2) (.nil _) (by kernel_rfl) hres hax hH
noncomputable def ctPC : Tr ZCC := ctPF.put 44 (some (mC spNxt))
theorem ctPC_ok : ZCtsOk Try.prog ctPC := ctPF_ok.addM rfl spNxt_ok
namespace PCom
noncomputable def RUN (s : ES) : ZF := RZ 17 ctPC (atS 0 17 8) [] [[(3,none),(4,some (1, 3, .ints .i64 [])),(5,some (1, 3, .ints .i64 [])),(8,none),(9,none),(10,none),(27,none),(28,none),(29,none)]] false s

noncomputable def sC (m : Int) (X Y Q R : List (List U)) (D x y : List Int) (d : Nat) (nx ny : Bool) (z i : Int) : NS := ⟨[⟨17, 92, [(3, (EV.ptr 0 0)), (4, EV.slO 1 1 x.length nx), (5, EV.slO 2 1 y.length ny), (8, (EV.ptr 3 0)), (9, (EV.ptr 4 0)), (10, (EV.fn 44 [(EV.ptr 4 0), (EV.ptr 3 0)])), (27, (EV.lst (SyC.recs [(Sh.int IntKind.i64), (Sh.int IntKind.i64), (Sh.int IntKind.i64), (Sh.int IntKind.i64)] (X)))), (28, iv z), (29, iv i)], [.it (.code (nav [1, 1, 1, 1, 1, 0, 1, 0, 0] (bodyOf Try.f17))), .it (.inLoop (nav [1, 1, 1, 1, 1, 0, 1, 0, 0] (bodyOf Try.f17))), .it (.inBlock 0), .it (.code (nav [1, 1, 1, 1, 1, 1] (bodyOf Try.f17)))], [], Option.none⟩], [(0, (EK.cells 25 [(EV.v (Value.int IntKind.i64 (m))), (EV.lst (SyC.recs [(Sh.int IntKind.i64), (Sh.int IntKind.i64), (Sh.int IntKind.i64), (Sh.int IntKind.i64)] (Y))), (EV.lst (SyC.recs [(Sh.int IntKind.i64), (Sh.int IntKind.i64), (Sh.int IntKind.i64), (Sh.int IntKind.i64)] (Q)))] true)), (1, EK.seq 3 (.ints .i64 x) nx), (2, EK.seq 3 (.ints .i64 y) ny), (3, EK.cells 63 [.lst (.recs shT R)] true), (4, EK.cells 42 [EV.slO 5 1 d true] true), (5, EK.seq 3 (.ints .i64 D) true)], 6⟩
theorem in_t (n m : Int) (X P Y Q : List (List U)) : RUN (st0 17 [clE n X P, clE m Y Q]) = (bc (chk17 n X P != (0 : Int)) (bc (chk17 n X P != (0 : Int)) (.done (EV.tup [(EV.v (Value.slice Option.none 0 0)), (EV.v (Value.slice Option.none 0 0)), (EV.v (Value.int IntKind.i64 (chk17 n X P)))]) [] 0) (bc (decide ((0 : Int) ≤ m ∧ m ≤ (48 : Int) ∧ List.length Y ≤ (20000 : Nat) ∧ thrs m Y)) (bc (bc (decide ((0 : Int) ≤ n)) (bc (decide (n ≤ n)) (decide (n ≤ (65536 : Int))) false) false) (.at (sC (m) (X) (Y) (Q) (rowsT (thF Y (0 : Nat) (th0 (Int.toNat m)))) (zerosL (Int.toNat n)) ([]) ([]) (List.length (zerosL (Int.toNat n))) (false) (false) (Int.ofNat (List.length X)) ((0 : Int)))) .bad) .bad)) (bc (chk17 m Y Q != (0 : Int)) (bc (chk17 m Y Q != (0 : Int)) (.done (EV.tup [(EV.v (Value.slice Option.none 0 0)), (EV.v (Value.slice Option.none 0 0)), (EV.v (Value.int IntKind.i64 (chk17 m Y Q)))]) [] 0) (bc (decide ((0 : Int) ≤ m ∧ m ≤ (48 : Int) ∧ List.length Y ≤ (20000 : Nat) ∧ thrs m Y)) (bc (bc (decide ((0 : Int) ≤ n)) (bc (decide (n ≤ n)) (decide (n ≤ (65536 : Int))) false) false) (.at (sC (m) (X) (Y) (Q) (rowsT (thF Y (0 : Nat) (th0 (Int.toNat m)))) (zerosL (Int.toNat n)) ([]) ([]) (List.length (zerosL (Int.toNat n))) (false) (false) (Int.ofNat (List.length X)) ((0 : Int)))) .bad) .bad)) (bc (n != m) (.done (EV.tup [(EV.v (Value.slice Option.none 0 0)), (EV.v (Value.slice Option.none 0 0)), (EV.v (Value.int IntKind.i64 (2)))]) [] 0) (bc (decide ((0 : Int) ≤ m ∧ m ≤ (48 : Int) ∧ List.length Y ≤ (20000 : Nat) ∧ thrs m Y)) (bc (bc (decide ((0 : Int) ≤ n)) (bc (decide (n ≤ n)) (decide (n ≤ (65536 : Int))) false) false) (.at (sC (m) (X) (Y) (Q) (rowsT (thF Y (0 : Nat) (th0 (Int.toNat m)))) (zerosL (Int.toNat n)) ([]) ([]) (List.length (zerosL (Int.toNat n))) (false) (false) (Int.ofNat (List.length X)) ((0 : Int)))) .bad) .bad)))) := by kernel_rfl
theorem step_t (m : Int) (X Y Q R : List (List U)) (D x y : List Int) (d : Nat) (nx ny : Bool) (z i : Int) : RUN (stOf (sC m X Y Q R D x y d nx ny z i)) = (bc (decide (i < z)) (bc (bc (bc (decide ((0 : Int) ≤ i)) (Nat.blt (Int.toNat i) (List.length X)) false) true false) (bc (bc (Nat.blt (Int.toNat i) (List.length X)) true false) (bc (bc (bc (Nat.beq d (List.length D)) (decide ((0 : Int) ≤ U.int (List.getD (List.getD X (Int.toNat i) []) (Nat.succ (Nat.succ (0 : Nat))) (U.i (0 : Int))) ∧ U.int (List.getD (List.getD X (Int.toNat i) []) (Nat.succ (Nat.succ (0 : Nat))) (U.i (0 : Int))) < (Nat.cast (List.length D) : Int) ∧ U.int (List.getD (List.getD X (Int.toNat i) []) (Nat.succ (Nat.succ (0 : Nat))) (U.i (0 : Int))) < (Nat.cast (List.length R) : Int) ∧ List.length (rA (List.getD R (Int.toNat (U.int (List.getD (List.getD X (Int.toNat i) []) (Nat.succ (Nat.succ (0 : Nat))) (U.i (0 : Int))))) [])) ≤ (100000 : Nat))) false) true false) (bc (decide (nxtF D R (U.int (List.getD (List.getD X (Int.toNat i) []) (Nat.succ (Nat.succ (0 : Nat))) (U.i (0 : Int)))) < (0 : Int))) (bc (bc (bc (eqB (decide (nxtF D R (U.int (List.getD (List.getD X (Int.toNat i) []) (Nat.succ (Nat.succ (0 : Nat))) (U.i (0 : Int)))) < (0 : Int))) true) true false) true false) (bc (bc (bc (bc (bc (decide ((0 : Int) ≤ U.int (List.getD (List.getD X (Int.toNat i) []) (Nat.succ (Nat.succ (0 : Nat))) (U.i (0 : Int))))) (Nat.blt (Int.toNat (U.int (List.getD (List.getD X (Int.toNat i) []) (Nat.succ (Nat.succ (0 : Nat))) (U.i (0 : Int))))) (List.length D)) false) true false) (bc (Nat.blt (Int.toNat (U.int (List.getD (List.getD X (Int.toNat i) []) (Nat.succ (Nat.succ (0 : Nat))) (U.i (0 : Int))))) (List.length D)) (bc (bc (bc (decide ((0 : Int) ≤ U.int (List.getD (List.getD X (Int.toNat i) []) (Nat.succ (Nat.succ (Nat.succ (0 : Nat)))) (U.i (0 : Int))))) (Nat.blt (Int.toNat (U.int (List.getD (List.getD X (Int.toNat i) []) (Nat.succ (Nat.succ (Nat.succ (0 : Nat)))) (U.i (0 : Int))))) (List.length D)) false) true false) (bc (Nat.blt (Int.toNat (U.int (List.getD (List.getD X (Int.toNat i) []) (Nat.succ (Nat.succ (Nat.succ (0 : Nat)))) (U.i (0 : Int))))) (List.length (List.set D (Int.toNat (U.int (List.getD (List.getD X (Int.toNat i) []) (Nat.succ (Nat.succ (0 : Nat))) (U.i (0 : Int))))) (-1 : Int)))) true false) false) false) false) (bc (bc (bc (bc (Nat.beq (List.length D) (List.length D)) (eqN true true) false) true false) (bc (bc (decide (U.int (List.getD (List.getD X (Int.toNat i) []) (Nat.succ (Nat.succ (Nat.succ (0 : Nat)))) (U.i (0 : Int))) = U.int (List.getD (List.getD X (Int.toNat i) []) (Nat.succ (Nat.succ (Nat.succ (0 : Nat)))) (U.i (0 : Int))))) true false) true false) false) true false) false) (.at (sC (m) (X) (Y) (Q) (R) (List.set (List.set D (Int.toNat (U.int (List.getD (List.getD X (Int.toNat i) []) (Nat.succ (Nat.succ (0 : Nat))) (U.i (0 : Int))))) (-1 : Int)) (Int.toNat (U.int (List.getD (List.getD X (Int.toNat i) []) (Nat.succ (Nat.succ (Nat.succ (0 : Nat)))) (U.i (0 : Int))))) (-1 : Int)) (x) (y) (List.length D) (nx) (ny) (z) (IntKind.wrap IntKind.i64 (i + (1 : Int))))) .bad) .bad) (bc (nxtF D R (U.int (List.getD (List.getD X (Int.toNat i) []) (Nat.succ (Nat.succ (0 : Nat))) (U.i (0 : Int)))) != nxtF D R (U.int (List.getD (List.getD X (Int.toNat i) []) (Nat.succ (Nat.succ (Nat.succ (0 : Nat)))) (U.i (0 : Int))))) (bc (bc (bc (eqB (decide (nxtF D R (U.int (List.getD (List.getD X (Int.toNat i) []) (Nat.succ (Nat.succ (0 : Nat))) (U.i (0 : Int)))) < (0 : Int))) false) (bc (bc (bc (Nat.beq (List.length D) (List.length D)) (decide ((0 : Int) ≤ U.int (List.getD (List.getD X (Int.toNat i) []) (Nat.succ (Nat.succ (Nat.succ (0 : Nat)))) (U.i (0 : Int))) ∧ U.int (List.getD (List.getD X (Int.toNat i) []) (Nat.succ (Nat.succ (Nat.succ (0 : Nat)))) (U.i (0 : Int))) < (Nat.cast (List.length D) : Int) ∧ U.int (List.getD (List.getD X (Int.toNat i) []) (Nat.succ (Nat.succ (Nat.succ (0 : Nat)))) (U.i (0 : Int))) < (Nat.cast (List.length R) : Int) ∧ List.length (rA (List.getD R (Int.toNat (U.int (List.getD (List.getD X (Int.toNat i) []) (Nat.succ (Nat.succ (Nat.succ (0 : Nat)))) (U.i (0 : Int))))) [])) ≤ (100000 : Nat))) false) true false) (bc (eqB (nxtF D R (U.int (List.getD (List.getD X (Int.toNat i) []) (Nat.succ (Nat.succ (0 : Nat))) (U.i (0 : Int)))) != nxtF D R (U.int (List.getD (List.getD X (Int.toNat i) []) (Nat.succ (Nat.succ (Nat.succ (0 : Nat)))) (U.i (0 : Int))))) true) true false) false) false) true false) (bc (bc (bc (bc (bc (decide ((0 : Int) ≤ U.int (List.getD (List.getD X (Int.toNat i) []) (Nat.succ (Nat.succ (0 : Nat))) (U.i (0 : Int))))) (Nat.blt (Int.toNat (U.int (List.getD (List.getD X (Int.toNat i) []) (Nat.succ (Nat.succ (0 : Nat))) (U.i (0 : Int))))) (List.length D)) false) true false) (bc (Nat.blt (Int.toNat (U.int (List.getD (List.getD X (Int.toNat i) []) (Nat.succ (Nat.succ (0 : Nat))) (U.i (0 : Int))))) (List.length D)) (bc (bc (bc (decide ((0 : Int) ≤ U.int (List.getD (List.getD X (Int.toNat i) []) (Nat.succ (Nat.succ (Nat.succ (0 : Nat)))) (U.i (0 : Int))))) (Nat.blt (Int.toNat (U.int (List.getD (List.getD X (Int.toNat i) []) (Nat.succ (Nat.succ (Nat.succ (0 : Nat)))) (U.i (0 : Int))))) (List.length D)) false) true false) (bc (Nat.blt (Int.toNat (U.int (List.getD (List.getD X (Int.toNat i) []) (Nat.succ (Nat.succ (Nat.succ (0 : Nat)))) (U.i (0 : Int))))) (List.length (List.set D (Int.toNat (U.int (List.getD (List.getD X (Int.toNat i) []) (Nat.succ (Nat.succ (0 : Nat))) (U.i (0 : Int))))) (-1 : Int)))) true false) false) false) false) (bc (bc (bc (bc (Nat.beq (List.length D) (List.length D)) (eqN true true) false) true false) (bc (bc (decide (U.int (List.getD (List.getD X (Int.toNat i) []) (Nat.succ (Nat.succ (Nat.succ (0 : Nat)))) (U.i (0 : Int))) = U.int (List.getD (List.getD X (Int.toNat i) []) (Nat.succ (Nat.succ (Nat.succ (0 : Nat)))) (U.i (0 : Int))))) true false) true false) false) true false) false) (.at (sC (m) (X) (Y) (Q) (R) (List.set (List.set D (Int.toNat (U.int (List.getD (List.getD X (Int.toNat i) []) (Nat.succ (Nat.succ (0 : Nat))) (U.i (0 : Int))))) (-1 : Int)) (Int.toNat (U.int (List.getD (List.getD X (Int.toNat i) []) (Nat.succ (Nat.succ (Nat.succ (0 : Nat)))) (U.i (0 : Int))))) (-1 : Int)) (x) (y) (List.length D) (nx) (ny) (z) (IntKind.wrap IntKind.i64 (i + (1 : Int))))) .bad) .bad) (bc (bc (bc (eqB (decide (nxtF D R (U.int (List.getD (List.getD X (Int.toNat i) []) (Nat.succ (Nat.succ (0 : Nat))) (U.i (0 : Int)))) < (0 : Int))) false) (bc (bc (bc (Nat.beq (List.length D) (List.length D)) (decide ((0 : Int) ≤ U.int (List.getD (List.getD X (Int.toNat i) []) (Nat.succ (Nat.succ (Nat.succ (0 : Nat)))) (U.i (0 : Int))) ∧ U.int (List.getD (List.getD X (Int.toNat i) []) (Nat.succ (Nat.succ (Nat.succ (0 : Nat)))) (U.i (0 : Int))) < (Nat.cast (List.length D) : Int) ∧ U.int (List.getD (List.getD X (Int.toNat i) []) (Nat.succ (Nat.succ (Nat.succ (0 : Nat)))) (U.i (0 : Int))) < (Nat.cast (List.length R) : Int) ∧ List.length (rA (List.getD R (Int.toNat (U.int (List.getD (List.getD X (Int.toNat i) []) (Nat.succ (Nat.succ (Nat.succ (0 : Nat)))) (U.i (0 : Int))))) [])) ≤ (100000 : Nat))) false) true false) (bc (eqB (nxtF D R (U.int (List.getD (List.getD X (Int.toNat i) []) (Nat.succ (Nat.succ (0 : Nat))) (U.i (0 : Int)))) != nxtF D R (U.int (List.getD (List.getD X (Int.toNat i) []) (Nat.succ (Nat.succ (Nat.succ (0 : Nat)))) (U.i (0 : Int))))) false) (bc (bc (bc (decide ((0 : Int) ≤ nxtF D R (U.int (List.getD (List.getD X (Int.toNat i) []) (Nat.succ (Nat.succ (0 : Nat))) (U.i (0 : Int)))))) (Nat.blt (Int.toNat (nxtF D R (U.int (List.getD (List.getD X (Int.toNat i) []) (Nat.succ (Nat.succ (0 : Nat))) (U.i (0 : Int)))))) (List.length Y)) false) true false) (bc (bc (Nat.blt (Int.toNat (nxtF D R (U.int (List.getD (List.getD X (Int.toNat i) []) (Nat.succ (Nat.succ (0 : Nat))) (U.i (0 : Int)))))) (List.length Y)) true false) true false) false) false) false) false) true false) (bc (U.int (List.getD (List.getD Y (Int.toNat (nxtF D R (U.int (List.getD (List.getD X (Int.toNat i) []) (Nat.succ (Nat.succ (0 : Nat))) (U.i (0 : Int)))))) []) (Nat.add (0 : Nat) (2 : Nat)) (U.i (0 : Int))) != U.int (List.getD (List.getD X (Int.toNat i) []) (Nat.succ (Nat.succ (0 : Nat))) (U.i (0 : Int)))) (bc (bc (bc (bc (bc (decide ((0 : Int) ≤ U.int (List.getD (List.getD X (Int.toNat i) []) (Nat.succ (Nat.succ (0 : Nat))) (U.i (0 : Int))))) (Nat.blt (Int.toNat (U.int (List.getD (List.getD X (Int.toNat i) []) (Nat.succ (Nat.succ (0 : Nat))) (U.i (0 : Int))))) (List.length D)) false) true false) (bc (Nat.blt (Int.toNat (U.int (List.getD (List.getD X (Int.toNat i) []) (Nat.succ (Nat.succ (0 : Nat))) (U.i (0 : Int))))) (List.length D)) (bc (bc (bc (decide ((0 : Int) ≤ U.int (List.getD (List.getD X (Int.toNat i) []) (Nat.succ (Nat.succ (Nat.succ (0 : Nat)))) (U.i (0 : Int))))) (Nat.blt (Int.toNat (U.int (List.getD (List.getD X (Int.toNat i) []) (Nat.succ (Nat.succ (Nat.succ (0 : Nat)))) (U.i (0 : Int))))) (List.length D)) false) true false) (bc (Nat.blt (Int.toNat (U.int (List.getD (List.getD X (Int.toNat i) []) (Nat.succ (Nat.succ (Nat.succ (0 : Nat)))) (U.i (0 : Int))))) (List.length (List.set D (Int.toNat (U.int (List.getD (List.getD X (Int.toNat i) []) (Nat.succ (Nat.succ (0 : Nat))) (U.i (0 : Int))))) (-1 : Int)))) true false) false) false) false) (bc (bc (bc (bc (Nat.beq (List.length D) (List.length D)) (eqN true true) false) true false) (bc (bc (decide (U.int (List.getD (List.getD X (Int.toNat i) []) (Nat.succ (Nat.succ (Nat.succ (0 : Nat)))) (U.i (0 : Int))) = U.int (List.getD (List.getD X (Int.toNat i) []) (Nat.succ (Nat.succ (Nat.succ (0 : Nat)))) (U.i (0 : Int))))) true false) true false) false) true false) false) (.at (sC (m) (X) (Y) (Q) (R) (List.set (List.set D (Int.toNat (U.int (List.getD (List.getD X (Int.toNat i) []) (Nat.succ (Nat.succ (0 : Nat))) (U.i (0 : Int))))) (-1 : Int)) (Int.toNat (U.int (List.getD (List.getD X (Int.toNat i) []) (Nat.succ (Nat.succ (Nat.succ (0 : Nat)))) (U.i (0 : Int))))) (-1 : Int)) (x) (y) (List.length D) (nx) (ny) (z) (IntKind.wrap IntKind.i64 (i + (1 : Int))))) .bad) (bc (bc (bc (decide ((0 : Int) ≤ U.int (List.getD (List.getD X (Int.toNat i) []) (Nat.succ (Nat.succ (0 : Nat))) (U.i (0 : Int))))) (Nat.blt (Int.toNat (U.int (List.getD (List.getD X (Int.toNat i) []) (Nat.succ (Nat.succ (0 : Nat))) (U.i (0 : Int))))) (List.length D)) false) true false) (bc (bc (Nat.blt (Int.toNat (U.int (List.getD (List.getD X (Int.toNat i) []) (Nat.succ (Nat.succ (0 : Nat))) (U.i (0 : Int))))) (List.length D)) true false) (bc (bc (bc (decide ((0 : Int) ≤ U.int (List.getD (List.getD X (Int.toNat i) []) (Nat.succ (Nat.succ (0 : Nat))) (U.i (0 : Int))))) (Nat.blt (Int.toNat (U.int (List.getD (List.getD X (Int.toNat i) []) (Nat.succ (Nat.succ (0 : Nat))) (U.i (0 : Int))))) (List.length D)) false) true false) (bc (Nat.blt (Int.toNat (U.int (List.getD (List.getD X (Int.toNat i) []) (Nat.succ (Nat.succ (0 : Nat))) (U.i (0 : Int))))) (List.length D)) (bc (bc (bc (decide ((0 : Int) ≤ U.int (List.getD (List.getD X (Int.toNat i) []) (Nat.succ (Nat.succ (Nat.succ (0 : Nat)))) (U.i (0 : Int))))) (Nat.blt (Int.toNat (U.int (List.getD (List.getD X (Int.toNat i) []) (Nat.succ (Nat.succ (Nat.succ (0 : Nat)))) (U.i (0 : Int))))) (List.length D)) false) true false) (bc (bc (Nat.blt (Int.toNat (U.int (List.getD (List.getD X (Int.toNat i) []) (Nat.succ (Nat.succ (Nat.succ (0 : Nat)))) (U.i (0 : Int))))) (List.length (List.set D (Int.toNat (U.int (List.getD (List.getD X (Int.toNat i) []) (Nat.succ (Nat.succ (0 : Nat))) (U.i (0 : Int))))) (IntKind.wrap IntKind.i64 (List.getD D (Int.toNat (U.int (List.getD (List.getD X (Int.toNat i) []) (Nat.succ (Nat.succ (0 : Nat))) (U.i (0 : Int))))) (0 : Int) + (1 : Int)))))) true false) (bc (bc (bc (decide ((0 : Int) ≤ U.int (List.getD (List.getD X (Int.toNat i) []) (Nat.succ (Nat.succ (Nat.succ (0 : Nat)))) (U.i (0 : Int))))) (Nat.blt (Int.toNat (U.int (List.getD (List.getD X (Int.toNat i) []) (Nat.succ (Nat.succ (Nat.succ (0 : Nat)))) (U.i (0 : Int))))) (List.length D)) false) true false) (bc (Nat.blt (Int.toNat (U.int (List.getD (List.getD X (Int.toNat i) []) (Nat.succ (Nat.succ (Nat.succ (0 : Nat)))) (U.i (0 : Int))))) (List.length (List.set D (Int.toNat (U.int (List.getD (List.getD X (Int.toNat i) []) (Nat.succ (Nat.succ (0 : Nat))) (U.i (0 : Int))))) (IntKind.wrap IntKind.i64 (List.getD D (Int.toNat (U.int (List.getD (List.getD X (Int.toNat i) []) (Nat.succ (Nat.succ (0 : Nat))) (U.i (0 : Int))))) (0 : Int) + (1 : Int)))))) (bc (bc (Nat.beq (List.length x) (List.length x)) (bc (Nat.ble (List.length x + List.length (List.map (fun r => U.int (List.headD r (U.i (0 : Int)))) [[U.i i]])) (65536 : Nat)) (bc nx true (bc nx false true)) false) false) (bc (bc (Nat.beq (List.length y) (List.length y)) (bc (Nat.ble (List.length y + List.length (List.map (fun r => U.int (List.headD r (U.i (0 : Int)))) [[U.i (nxtF D R (U.int (List.getD (List.getD X (Int.toNat i) []) (Nat.succ (Nat.succ (0 : Nat))) (U.i (0 : Int)))))]])) (65536 : Nat)) (bc ny true (bc ny false true)) false) false) (.at (sC (m) (X) (Y) (Q) (R) (List.set (List.set D (Int.toNat (U.int (List.getD (List.getD X (Int.toNat i) []) (Nat.succ (Nat.succ (0 : Nat))) (U.i (0 : Int))))) (IntKind.wrap IntKind.i64 (List.getD D (Int.toNat (U.int (List.getD (List.getD X (Int.toNat i) []) (Nat.succ (Nat.succ (0 : Nat))) (U.i (0 : Int))))) (0 : Int) + (1 : Int)))) (Int.toNat (U.int (List.getD (List.getD X (Int.toNat i) []) (Nat.succ (Nat.succ (Nat.succ (0 : Nat)))) (U.i (0 : Int))))) (IntKind.wrap IntKind.i64 (List.getD (List.set D (Int.toNat (U.int (List.getD (List.getD X (Int.toNat i) []) (Nat.succ (Nat.succ (0 : Nat))) (U.i (0 : Int))))) (IntKind.wrap IntKind.i64 (List.getD D (Int.toNat (U.int (List.getD (List.getD X (Int.toNat i) []) (Nat.succ (Nat.succ (0 : Nat))) (U.i (0 : Int))))) (0 : Int) + (1 : Int)))) (Int.toNat (U.int (List.getD (List.getD X (Int.toNat i) []) (Nat.succ (Nat.succ (Nat.succ (0 : Nat)))) (U.i (0 : Int))))) (0 : Int) + (1 : Int)))) (x ++ List.map (fun r => U.int (List.headD r (U.i (0 : Int)))) [[U.i i]]) (y ++ List.map (fun r => U.int (List.headD r (U.i (0 : Int)))) [[U.i (nxtF D R (U.int (List.getD (List.getD X (Int.toNat i) []) (Nat.succ (Nat.succ (0 : Nat))) (U.i (0 : Int)))))]]) (List.length D) (bc nx true (Nat.blt (0 : Nat) (List.length (List.map (fun r => U.int (List.headD r (U.i (0 : Int)))) [[U.i i]])))) (bc ny true (Nat.blt (0 : Nat) (List.length (List.map (fun r => U.int (List.headD r (U.i (0 : Int)))) [[U.i (nxtF D R (U.int (List.getD (List.getD X (Int.toNat i) []) (Nat.succ (Nat.succ (0 : Nat))) (U.i (0 : Int)))))]])))) (z) (IntKind.wrap IntKind.i64 (i + (1 : Int))))) .bad) .bad) .bad) .bad) .bad) .bad) .bad) .bad) .bad) .bad)) .bad))) .bad) .bad) .bad) (bc (bc (Nat.beq (List.length x) (List.length x)) (bc (Nat.beq (List.length y) (List.length y)) true false) false) (.done (EV.tup [(EV.lst (SyC.ints IntKind.i64 (x))), (EV.lst (SyC.ints IntKind.i64 (y))), (EV.v (Value.int IntKind.i64 (0)))]) [] 0) .bad)) := by kernel_rfl
end PCom
end Go.Proofs.Ytjlfedhkpdogbaa.Ev
namespace Go.Proofs.Ytjlfedhkpdogbaa.Ev
open Go.Proofs
namespace PCom
theorem step {n : Nat} {m : Int} {X Y Q : List (List U)} {D x y : List Int} {nx ny : Bool} {i : Nat} (hi : i < X.length) (hX : X.length ≤ 20000) (hY : Y.length ≤ 20000) (hn : n ≤ 48) (tx : thrs n X) (ty : thrs n Y) (hD : D.length = n) (hc : Cnt D (2 * i)) (hx : x.length ≤ i) (hy : y.length ≤ i) : RUN (stOf (sC m X Y Q (rowsT (thF Y 0 (th0 n))) D x y n nx ny X.length i)) = .at (sC m X Y Q (rowsT (thF Y 0 (th0 n))) (stepD (comB Y (rowsT (thF Y 0 (th0 n))) D X[i]) D X[i]) (x ++ bc (comB Y (rowsT (thF Y 0 (th0 n))) D X[i]) [(i : Int)] []) (y ++ bc (comB Y (rowsT (thF Y 0 (th0 n))) D X[i]) [nxtF D (rowsT (thF Y 0 (th0 n))) (xO X[i])] []) n (bc (comB Y (rowsT (thF Y 0 (th0 n))) D X[i]) true nx) (bc (comB Y (rowsT (thF Y 0 (th0 n))) D X[i]) true ny) X.length (i + 1 : Nat)) := by
  have h := step_t m X Y Q (rowsT (thF Y 0 (th0 n))) D x y n nx ny X.length i; have e : X.getD i [] = X[i] := getD_at hi; rw [to_nat, e] at h; have f1 : U.int (List.getD X[i] (Nat.succ (Nat.succ 0)) (U.i 0)) = xO X[i] := rfl; have f2 : U.int (List.getD X[i] (Nat.succ (Nat.succ (Nat.succ 0))) (U.i 0)) = xU X[i] := rfl; rw [f1, f2] at h; obtain ⟨h1, h2, h3, h4⟩ := tx _ (List.getElem_mem hi); generalize hr : X[i] = r at *; unfold comB stepD; generalize xU r = u at *; have f3 : ∀ k : Int, U.int (List.getD (Y.getD k.toNat []) (Nat.add 0 2) (U.i 0)) = xO (Y.getD k.toNat []) := fun _ => rfl
  rw [f3] at h; generalize xO r = o at *; obtain ⟨o, rfl⟩ := Int.eq_ofNat_of_zero_le h1; obtain ⟨u, rfl⟩ := Int.eq_ofNat_of_zero_le h3; have lo := atF_len o Y 0; have lu := atF_len u Y 0; have c1 : (0 : Int) ≤ (o : Int) ∧ (o : Int) < (D.length : Int) ∧ (o : Int) < ((rowsT (thF Y 0 (th0 n))).length : Int) ∧ (rA ((rowsT (thF Y 0 (th0 n))).getD ((o : Int)).toNat [])).length ≤ 100000 := ⟨by omega, by omega, by rw [rowsH_len]; omega, by rw [to_nat, rowsA ty (by omega)]; omega⟩
  have c2 : (0 : Int) ≤ (u : Int) ∧ (u : Int) < (D.length : Int) ∧ (u : Int) < ((rowsT (thF Y 0 (th0 n))).length : Int) ∧ (rA ((rowsT (thF Y 0 (th0 n))).getD ((u : Int)).toNat [])).length ≤ 100000 := ⟨by omega, by omega, by rw [rowsH_len]; omega, by rw [to_nat, rowsA ty (by omega)]; omega⟩; have n1 := nxtF_lt (D := D) ty (show o < n by omega); generalize rowsT (thF Y 0 (th0 n)) = R at *; rw [dt c1, dt c2] at h; have k1 := hc o; have k2 := hc u; have k3 := (hc.inc (j := o) (by omega)) u; have i1 : incD D o = D.set o (D.getD o 0 + 1) := rfl
  have i2 : incD (incD D o) u = (incD D o).set u ((incD D o).getD u 0 + 1) := rfl; rcases n1 with n1 | ⟨k, n1, n2⟩
  · simp (disch := omega) only [Nat.add_eq, eqSy_self, eqN_self, bc_same, List.length_cons, ofn, wrap_in, dt, df, bltD, bltN, ble_of, bleN, beqD, bc_t, bc_f, nn_ok, Nat.zero_add, to_nat, Int.zero_add, Int.sub_zero, Int.sub_self, Int.cast_ofNat_Int, Int.natCast_zero, Int.toNat_zero, List.take_zero, List.nil_append, List.length_append, List.length_nil, eqB, List.length_set, List.append_nil, decide_true, hD] at h ⊢; exact h
  · rw [n1] at h ⊢
    cases g1 : ((k : Int) != nxtF D R u) with
    | true =>
      rw [g1] at h; simp (disch := omega) only [Nat.add_eq, eqSy_self, eqN_self, bc_same, List.length_cons, ofn, wrap_in, dt, df, bltD, bltN, ble_of, bleN, beqD, bc_t, bc_f, nn_ok, Nat.zero_add, to_nat, Int.zero_add, Int.sub_zero, Int.sub_self, Int.cast_ofNat_Int, Int.natCast_zero, Int.toNat_zero, List.take_zero, List.nil_append, List.length_append, List.length_nil, eqB, List.length_set, List.append_nil, decide_true, hD] at h ⊢; exact h
    | false =>
      rw [g1] at h
      cases g2 : (xO (Y.getD ((k : Int)).toNat []) != (o : Int)) with
      | true =>
        rw [g2] at h; simp (disch := omega) only [Nat.add_eq, eqSy_self, eqN_self, bc_same, List.length_cons, ofn, wrap_in, dt, df, bltD, bltN, ble_of, bleN, beqD, bc_t, bc_f, nn_ok, Nat.zero_add, to_nat, Int.zero_add, Int.sub_zero, Int.sub_self, Int.cast_ofNat_Int, Int.natCast_zero, Int.toNat_zero, List.take_zero, List.nil_append, List.length_append, List.length_nil, eqB, List.length_set, List.append_nil, decide_true, hD] at h ⊢; exact h
      | false =>
        rw [g2] at h; have m1 : ∀ x : Int, List.map (fun r => U.int (List.headD r (U.i 0))) [[U.i x]] = [x] := fun _ => rfl; simp only [to_nat, m1] at h; rw [wrap_in (D.getD o 0 + 1) (by omega) (by omega), ← i1, wrap_in ((incD D o).getD u 0 + 1) (by omega) (by omega), ← i2] at h
        simp (disch := omega) only [Nat.add_eq, eqSy_self, eqN_self, bc_same, List.length_cons, ofn, wrap_in, dt, df, bltD, bltN, ble_of, bleN, beqD, bc_t, bc_f, nn_ok, Nat.zero_add, to_nat, Int.zero_add, Int.sub_zero, Int.sub_self, Int.cast_ofNat_Int, Int.natCast_zero, Int.toNat_zero, List.take_zero, List.nil_append, List.length_append, List.length_nil, eqB, List.length_set, List.append_nil, decide_true, hD, incD_len] at h ⊢; exact h
theorem last {m : Int} {X Y Q R : List (List U)} {D x y : List Int} {d : Nat} {nx ny : Bool} {i : Nat} (hi : X.length ≤ i) : RUN (stOf (sC m X Y Q R D x y d nx ny X.length i)) = .done (.tup [il x, il y, iv 0]) [] 0 := by
  have h := step_t m X Y Q R D x y d nx ny X.length i; simp (disch := omega) only [Nat.add_eq, eqSy_self, eqN_self, bc_same, List.length_cons, ofn, wrap_in, dt, df, bltD, bltN, ble_of, bleN, beqD, bc_t, bc_f, nn_ok, Nat.zero_add, to_nat, Int.zero_add, Int.sub_zero, Int.sub_self, Int.cast_ofNat_Int, Int.natCast_zero, Int.toNat_zero, List.take_zero, List.nil_append, List.length_append, List.length_nil] at h; exact h
theorem loop {n : Nat} {m : Int} {X Y Q : List (List U)} (hX : X.length ≤ 20000) (hY : Y.length ≤ 20000) (hn : n ≤ 48) (tx : thrs n X) (ty : thrs n Y) : ∀ (k i : Nat) (D x y : List Int) (nx ny : Bool), i + k = X.length → D.length = n → Cnt D (2 * i) → x.length ≤ i → y.length ≤ i → EndZ 17 ctPC false (stOf (sC m X Y Q (rowsT (thF Y 0 (th0 n))) D x y n nx ny X.length i)) (.tup [il (x ++ (comF Y (rowsT (thF Y 0 (th0 n))) (X.drop i) i D).1), il (y ++ (comF Y (rowsT (thF Y 0 (th0 n))) (X.drop i) i D).2), iv 0]) [] 0
  | 0, i, D, x, y, nx, ny, h, hD, hc, hx, hy => by
    rw [List.drop_eq_nil_of_le (by omega)]; show EndZ _ _ _ _ (.tup [il (x ++ []), il (y ++ []), iv 0]) _ _; rw [List.append_nil, List.append_nil]; exact .done (last (by omega))
  | k + 1, i, D, x, y, nx, ny, h, hD, hc, hx, hy => by
    have hi : i < X.length := by omega
    have h1 := step (m := m) (Q := Q) (nx := nx) (ny := ny) hi hX hY hn tx ty hD hc hx hy; refine .at ctPC_ok h1 ?_; have h2 := loop (m := m) (Q := Q) hX hY hn tx ty k (i + 1) (stepD (comB Y (rowsT (thF Y 0 (th0 n))) D X[i]) D X[i]) (x ++ bc (comB Y (rowsT (thF Y 0 (th0 n))) D X[i]) [(i : Int)] []) (y ++ bc (comB Y (rowsT (thF Y 0 (th0 n))) D X[i]) [nxtF D (rowsT (thF Y 0 (th0 n))) (xO X[i])] []) (bc (comB Y (rowsT (thF Y 0 (th0 n))) D X[i]) true nx) (bc (comB Y (rowsT (thF Y 0 (th0 n))) D X[i]) true ny) (by omega) (by rw [stepD_len]; exact hD) (by
      have := hc.step (q := comB Y (rowsT (thF Y 0 (th0 n))) D X[i]) (r := X[i]) (by omega); rw [show (2 * ((i + 1 : Nat) : Int)) = 2 * (i : Int) + 2 by omega]; exact this) (by
      rw [List.length_append]; cases comB Y (rowsT (thF Y 0 (th0 n))) D X[i] <;> simp [bc] <;> omega) (by
      rw [List.length_append]; cases comB Y (rowsT (thF Y 0 (th0 n))) D X[i] <;> simp [bc] <;> omega)
    rw [List.drop_eq_getElem_cons hi]; unfold comF; rw [List.append_assoc, List.append_assoc] at h2; revert h2; cases comB Y (rowsT (thF Y 0 (th0 n))) D X[i]
    · exact fun h2 => h2
    · exact fun h2 => h2
theorem ends (n m : Int) (X P Y Q : List (List U)) : EndZ 17 ctPC false (st0 17 [clE n X P, clE m Y Q]) (.tup [il (coP n m X P Y Q).1, il (coP n m X P Y Q).2, iv (fiE n m X P Y Q)]) [] 0 := by
  have h := in_t n m X P Y Q; have err : ∀ e : Int, fiE n m X P Y Q = e → e ≠ 0 → Weak (.tup [.v (.slice none 0 0), .v (.slice none 0 0), iv e]) (.tup [il (coP n m X P Y Q).1, il (coP n m X P Y Q).2, iv (fiE n m X P Y Q)]) := fun e he h0 => by
    unfold coP; rw [he, show (e != 0) = true by simp [h0], bc_t]; exact Weak.tup (.cons (Weak.nilI _) (.cons (Weak.nilI _) (.cons (Weak.refl _) .nil)))
  by_cases z1 : chk17 n X P = 0
  · have b1 : (chk17 n X P != 0) = false := by simp [z1]
    rw [b1, bc_f] at h
    by_cases z2 : chk17 m Y Q = 0
    · have b3 : (chk17 m Y Q != 0) = false := by simp [z2]
      rw [b3, bc_f] at h
      by_cases z3 : n = m
      · have b4 : (n != m) = false := by simp [z3]
        rw [b4, bc_f] at h; have hE : fiE n m X P Y Q = 0 := by unfold fiE; rw [b1, b3, b4]; rfl
        obtain ⟨c1, c2, c3, c4, c5, _⟩ := chk17_ok z1; obtain ⟨d1, d2, d3, d4, d5, _⟩ := chk17_ok z2; unfold coP; rw [hE]; subst z3; obtain ⟨n, rfl⟩ := Int.eq_ofNat_of_zero_le (show 0 ≤ n by omega); rw [dt (show (0 : Int) ≤ n ∧ (n : Int) ≤ 48 ∧ Y.length ≤ 20000 ∧ thrs n Y from ⟨by omega, by omega, by omega, d5⟩), bc_t] at h
        simp (disch := omega) only [Nat.add_eq, eqSy_self, eqN_self, bc_same, List.length_cons, ofn, wrap_in, dt, df, bltD, bltN, ble_of, bleN, beqD, bc_t, bc_f, nn_ok, Nat.zero_add, to_nat, Int.zero_add, Int.sub_zero, Int.sub_self, Int.cast_ofNat_Int, Int.natCast_zero, Int.toNat_zero, List.take_zero, List.nil_append, List.length_append, List.length_nil] at h; have hz : (zerosL n).length = n := by unfold zerosL; simp
        rw [hz] at h; exact .at ctPC_ok h (loop c3 d3 (by omega) c5 d5 X.length 0 (zerosL n) [] [] false false (by omega) hz (fun j => by
          unfold zerosL; rw [List.getD_eq_getElem?_getD, List.getElem?_replicate]; split <;> simp) (Nat.le_refl _) (Nat.le_refl _))
      · have b4 : (n != m) = true := by simp [z3]
        rw [b4, bc_t] at h; exact (EndZ.done h).weak (err 2 (by unfold fiE; rw [b1, b3, b4]; rfl) (by decide))
    · have b3 : (chk17 m Y Q != 0) = true := by simp [z2]
      rw [b3, bc_t, bc_t] at h; exact (EndZ.done h).weak (err _ (by unfold fiE; rw [b1, b3]; rfl) z2)
  · have b1 : (chk17 n X P != 0) = true := by simp [z1]
    rw [b1, bc_t, bc_t] at h; exact (EndZ.done h).weak (err _ (by unfold fiE; rw [b1]; rfl) z1)
end PCom
noncomputable def spPCom : ZCT := fun ax => match ax with
  | [.agg [.v (.int .i64 n), .lst (.recs [.int .i64, .int .i64, .int .i64, .int .i64] X), .lst (.recs [.int .i64, .int .i64, .int .i64, .int .i64] P)], .agg [.v (.int .i64 m), .lst (.recs [.int .i64, .int .i64, .int .i64, .int .i64] Y), .lst (.recs [.int .i64, .int .i64, .int .i64, .int .i64] Q)]] => some ⟨decide (True), .tup [il (coP n m X P Y Q).1, il (coP n m X P Y Q).2, iv (fiE n m X P Y Q)], [], 0⟩
  | _ => none
theorem spPCom_ok : ZCtOk Try.prog 17 spPCom := fun γ w us ax r hs hc hax hN hfz => by
  unfold spPCom at hs; split at hs
  case h_2 => cases hs
  rename_i n X P m Y Q; obtain ⟨rfl⟩ := Option.some.inj hs; have hc_0 : decide (True) = true := hc; have hc := of_decide_eq_true hc_0; exact EndZ.calls (PCom.ends n m X P Y Q) ctPC_ok (by kernel_rfl) hax hN hfz
end Go.Proofs.Ytjlfedhkpdogbaa.Ev
namespace Go.Proofs.Ytjlfedhkpdogbaa.Ev
open Go.Proofs

namespace PCom
end PCom
namespace PFir
end PFir
end Go.Proofs.Ytjlfedhkpdogbaa.Ev
namespace Go.Proofs.Ytjlfedhkpdogbaa.Ev
open Go.Proofs
namespace PCom
end PCom
namespace PFir
end PFir
end Go.Proofs.Ytjlfedhkpdogbaa.Ev
namespace Go.Proofs.Ytjlfedhkpdogbaa.Ev
open Go.Proofs
namespace PWit
theorem stepA {n : Nat} {l : List Int} {i : Nat} {s : List Int} (hi : i < n) (hn : n ≤ 50000) : RUN (stOf (sA n i l (esZ s))) = .at (sA n (i + 1 : Nat) l (esZ ((i : Int) :: outI i s))) := by
  have h := a_t n i l (esZ s); rw [esZ_keys, esZ_set] at h; simp (disch := omega) only [Nat.add_eq, eqSy_self, eqN_self, bc_same, List.length_cons, ofn, wrap_in, dt, df, bltD, bltN, ble_of, bleN, beqD, bc_t, bc_f, nn_ok, Nat.zero_add, to_nat, Int.zero_add, Int.sub_zero, Int.sub_self, Int.cast_ofNat_Int, Int.natCast_zero, Int.toNat_zero, List.take_zero, List.nil_append, List.length_append, List.length_nil] at h; exact h
theorem stepB {l : List Int} {i : Nat} {s : List Int} (hi : i < l.length) (hl : l.length ≤ 50000) : RUN (stOf (sB l l.length i (esZ s))) = .at (sB l l.length (i + 1 : Nat) (esZ (outI l[i] s))) := by
  have h := b_t l l.length i (esZ s); rw [to_nat, getD_at hi, esZ_keys, esZ_drop] at h; simp (disch := omega) only [Nat.add_eq, eqSy_self, eqN_self, bc_same, List.length_cons, ofn, wrap_in, dt, df, bltD, bltN, ble_of, bleN, beqD, bc_t, bc_f, nn_ok, Nat.zero_add, to_nat, Int.zero_add, Int.sub_zero, Int.sub_self, Int.cast_ofNat_Int, Int.natCast_zero, Int.toNat_zero, List.take_zero, List.nil_append, List.length_append, List.length_nil] at h; exact h
theorem loopB {n : Nat} {l : List Int} (hn : n ≤ 50000) (hl : l.length ≤ 50000) : ∀ (k i : Nat) (s : List Int), i + k = l.length → s.Sublist (dwn n) → EndZ 51 ctWi false (stOf (sB l l.length i (esZ s))) (il (sortZ (outA (l.drop i) s))) [] 0
  | 0, i, s, h, hs => by
    have h1 := b_t l l.length i (esZ s); have hk : KeysI (esZ s) := KeysI_esZ (fun a ha => by have := dwn_mem.1 (hs.subset ha); omega) (by have := hs.length_le; rw [dwn_len] at this; omega); rw [df (show ¬ (i : Int) < l.length by omega), bc_f, dt hk, keysI_esZ, Nat.beq_refl] at h1; rw [List.drop_eq_nil_of_le (by omega)]; exact .done h1
  | k + 1, i, s, h, hs => by
    have hi : i < l.length := by omega
    rw [List.drop_eq_getElem_cons hi]; exact .at ctWi_ok (stepB hi hl) (loopB hn hl k (i + 1) (outI l[i] s) (by omega) (List.filter_sublist.trans hs))
theorem loopA {n : Nat} {l : List Int} (hn : n ≤ 50000) (hl : l.length ≤ 50000) : ∀ (k i : Nat), i + k = n → EndZ 51 ctWi false (stOf (sA n i l (esZ (dwn i)))) (il (othF l 0 n)) [] 0
  | 0, i, h => by
    have h1 := a_t n i l (esZ (dwn i)); rw [df (show ¬ (i : Int) < n by omega), bc_f] at h1; have e : i = n := by omega
    subst e; have := loopB (n := i) hn hl l.length 0 (dwn i) (by omega) (List.Sublist.refl _); rw [List.drop_zero, out_oth] at this; exact .at ctWi_ok h1 this
  | k + 1, i, h => by
    have hi : i < n := by omega
    have e : outI i (dwn i) = dwn i := outI_id fun h => by have := dwn_mem.1 h; omega
    have h1 := stepA (l := l) (s := dwn i) hi hn; rw [e] at h1; exact .at ctWi_ok h1 (loopA hn hl k (i + 1) (by omega))
end PWit
noncomputable def spWit : ZCT := fun ax => match ax with
  | [.v (.int .i64 n), .lst (.ints .i64 l)] => some ⟨decide (0 ≤ n ∧ n ≤ 50000 ∧ l.length ≤ 50000), il (othF l 0 n.toNat), [], 0⟩
  | _ => none
theorem spWit_ok : ZCtOk Try.prog 51 spWit := fun γ w us ax r hs hc hax hN hfz => by
  unfold spWit at hs; split at hs
  case h_2 => cases hs
  rename_i n l; obtain ⟨rfl⟩ := Option.some.inj hs; have hc_0 : decide (0 ≤ n ∧ n ≤ 50000 ∧ l.length ≤ 50000) = true := hc; have hc := of_decide_eq_true hc_0; exact EndZ.calls (by
    obtain ⟨h1, h2, h3⟩ := hc; obtain ⟨n, rfl⟩ := Int.eq_ofNat_of_zero_le h1; have h := PWit.in_t n l; exact .at ctWi_ok h (PWit.loopA (by omega) h3 n 0 (by omega))) ctWi_ok (by kernel_rfl) hax hN hfz
noncomputable def ctPD : Tr ZCC := (Tr.nil.put 17 (some (dC spPCom))).put 51 (some (dC spWit))
theorem ctPD_ok : ZCtsOk Try.prog ctPD := ((ZCtsOk.nil _).add rfl spPCom_ok).add rfl spWit_ok
namespace PDif
noncomputable def RUN (s : ES) : ZF := RZ 25 ctPD (fun _ => false) [] [] false s
theorem in_t (n m : Int) (X P Y Q : List (List U)) : RUN (st0 25 [clE n X P, clE m Y Q]) = (bc (fiE n m X P Y Q != (0 : Int)) (.done (EV.tup [(EV.v (Value.slice Option.none 0 0)), (EV.v (Value.slice Option.none 0 0)), (EV.v (Value.int IntKind.i64 (fiE n m X P Y Q)))]) [] 0) (bc (bc (bc (decide ((0 : Int) ≤ Int.ofNat (List.length X) ∧ Int.ofNat (List.length X) ≤ (50000 : Int) ∧ List.length (Prod.fst (coP n m X P Y Q)) ≤ (50000 : Nat))) (bc (decide ((0 : Int) ≤ Int.ofNat (List.length Y) ∧ Int.ofNat (List.length Y) ≤ (50000 : Int) ∧ List.length (Prod.snd (coP n m X P Y Q)) ≤ (50000 : Nat))) true false) false) (bc (bc (bc (eqSy (SyC.recs shX Y) (SyC.recs shX Y)) true false) true false) true false) false) (.done (EV.tup [(EV.lst (SyC.ints IntKind.i64 (othF (Prod.fst (coP n m X P Y Q)) (0 : Nat) (Int.toNat (Int.ofNat (List.length X)))))), (EV.lst (SyC.ints IntKind.i64 (othF (Prod.snd (coP n m X P Y Q)) (0 : Nat) (Int.toNat (Int.ofNat (List.length Y)))))), (EV.v (Value.int IntKind.i64 (0)))]) [] 0) .bad)) := by kernel_rfl
end PDif
end Go.Proofs.Ytjlfedhkpdogbaa.Ev
namespace Go.Proofs.Ytjlfedhkpdogbaa.Ev
def Sm (r s : List U) : Prop := xW r = xW s ∧ xA r = xA s ∧ xO r = xO s ∧ xU r = xU s
noncomputable def shrB (x y : List U) : Bool := bc (xO x == xO y) true (bc (xO x == xU y) true (bc (xU x == xO y) true (xU x == xU y)))
theorem shrB_f {x y : List U} : shrB x y = false ↔ xO x ≠ xO y ∧ xO x ≠ xU y ∧ xU x ≠ xO y ∧ xU x ≠ xU y := by
  unfold shrB; simp only [bc_eq, beq_iff_eq]
  by_cases h1 : xO x = xO y
  · simp [h1]
  by_cases h2 : xO x = xU y
  · simp [h2]
  by_cases h3 : xU x = xO y
  · simp [h1, h2, h3]
  by_cases h4 : xU x = xU y
  · simp [h1, h2, h3, h4]
  simp [h1, h2, h3, h4]
inductive Ex1 : List (List U) → List (List U) → Prop
  | mk (l1 l2 : List (List U)) (x y x' y' : List U) (hx : Sm x' x) (hy : Sm y' y) (hs : shrB x y = false) : Ex1 (l1 ++ x :: y :: l2) (l1 ++ y' :: x' :: l2)
inductive Exs : List (List U) → List (List U) → Prop
  | refl (a : List (List U)) : Exs a a
  | step {a b c : List (List U)} (h : Ex1 a b) (t : Exs b c) : Exs a c
theorem enB_iff {l : List Int} {r : List U} : enB l r = true ↔ (l.getD (xA r).toNat 0 = xO r ∧ l.getD ((xA r).toNat + 1) 0 = xU r) ∨ (l.getD (xA r).toNat 0 = xU r ∧ l.getD ((xA r).toNat + 1) 0 = xO r) := by
  unfold enB; rw [bc_eq]; split
  · rename_i h; obtain ⟨h1, h2⟩ := bcT h; exact ⟨fun _ => .inl ⟨by simpa using h1, by simpa using h2⟩, fun _ => rfl⟩
  · rename_i h; constructor
    · intro k; obtain ⟨h1, h2⟩ := bcT k; exact .inr ⟨by simpa using h1, by simpa using h2⟩
    · rintro (⟨h1, h2⟩ | ⟨h1, h2⟩)
      · exact absurd (by rw [h1, h2]; simp [bc]) h
      · rw [h1, h2]; simp [bc]
noncomputable def swps : List Int → List (List U) → List Int
  | l, [] => l
  | l, r :: q => swps (swp l (xA r).toNat) q
theorem swps_len : ∀ (q : List (List U)) (l : List Int), (swps l q).length = l.length
  | [], _ => rfl
  | r :: q, l => by unfold swps; rw [swps_len q, swp_len]
theorem enF_cons (l : List Int) (r : List U) (q : List (List U)) : enF l (r :: q) = bc (enB l r) (enF (swp l (xA r).toNat) q) false := rfl
theorem swps_cons (l : List Int) (r : List U) (q : List (List U)) : swps l (r :: q) = swps (swp l (xA r).toNat) q := rfl
theorem enF_app {r : List (List U)} : ∀ (l1 : List (List U)) (l : List Int), enF l (l1 ++ r) = true ↔ enF l l1 = true ∧ enF (swps l l1) r = true
  | [], l => ⟨fun h => ⟨rfl, h⟩, fun h => h.2⟩
  | x :: l1, l => by
    show enF l (x :: (l1 ++ r)) = true ↔ _; rw [enF_cons, enF_cons, swps_cons]; cases enB l x
    · rw [bc_f, bc_f]; simp
    · rw [bc_t, bc_t]; exact enF_app l1 _
theorem okX_at {n : Int} {r : List U} (h : okX n r = true) : 0 ≤ xA r ∧ xA r ≤ n - 2 := by
  unfold okX at h; obtain ⟨a1, h⟩ := bcT h; obtain ⟨a2, _⟩ := bcT h; exact ⟨of_decide_eq_true a1, of_decide_eq_true a2⟩
theorem Ex1.len {a b : List (List U)} (h : Ex1 a b) : b.length = a.length := by
  cases h with
  | mk l1 l2 x y x' y' hx hy hs => simp
noncomputable def ctR (t : Int) (r : List U) : List (List U) := (bc (decide (xO r = t)) [mO r] []) ++ (bc (decide (xU r = t)) [mU r] [])
theorem hiF_cons (t : Int) (r : List U) (q : List (List U)) : hiF t (r :: q) = ctR t r ++ hiF t q := rfl
theorem hiF_app (t : Int) (b : List (List U)) : ∀ a : List (List U), hiF t (a ++ b) = hiF t a ++ hiF t b
  | [] => rfl
  | r :: a => by
    show hiF t (r :: (a ++ b)) = _; rw [hiF_cons, hiF_cons, hiF_app t b a, List.append_assoc]
theorem ctR_sm {t : Int} {x x' : List U} (h : Sm x' x) : ctR t x' = ctR t x := by
  unfold ctR mO mU; rw [h.2.2.1, h.2.2.2]
theorem ctR_no {t : Int} {r : List U} (h1 : xO r ≠ t) (h2 : xU r ≠ t) : ctR t r = [] := by
  unfold ctR; rw [df h1, df h2]; rfl
theorem Ex1.hi {a b : List (List U)} (h : Ex1 a b) (t : Int) : hiF t b = hiF t a := by
  cases h with
  | mk l1 l2 x y x' y' hx hy hs =>
    obtain ⟨s1, s2, s3, s4⟩ := shrB_f.1 hs; rw [hiF_app, hiF_app, hiF_cons, hiF_cons, hiF_cons, hiF_cons, ctR_sm hx, ctR_sm hy]; congr 1; rw [← List.append_assoc, ← List.append_assoc]; congr 1
    by_cases h1 : xO x = t ∨ xU x = t
    · have e : ctR t y = [] := ctR_no (by omega) (by omega); rw [e]; simp
    · have e : ctR t x = [] := ctR_no (fun e => h1 (.inl e)) (fun e => h1 (.inr e)); rw [e]; simp
theorem Exs.len {a b : List (List U)} (h : Exs a b) : b.length = a.length := by
  induction h with
  | refl a => rfl
  | step h t ih => rw [ih, h.len]
theorem Exs.hi {a b : List (List U)} (h : Exs a b) (t : Int) : hiF t b = hiF t a := by
  induction h with
  | refl a => rfl
  | step h k ih => rw [ih, h.hi]

end Go.Proofs.Ytjlfedhkpdogbaa.Ev
namespace Go.Proofs.Ytjlfedhkpdogbaa.Ev

def Two (b : List (List U)) : Prop := ∀ r, r ∈ b → xO r ≠ xU r
theorem enF_two {n : Nat} : ∀ (X : List (List U)) (l : List Int), n ≤ l.length → Dis l → (∀ r, r ∈ X → okX n r = true) → enF l X = true → Two X
  | [], _, _, _, _, _ => fun r hr => by cases hr
  | r :: q, l, hl, hd, hx, he => fun r' hr => by
    obtain ⟨a1, a2⟩ := okX_at (hx r List.mem_cons_self); rw [enF_cons] at he; obtain ⟨he1, he2⟩ := bcT he; rcases List.mem_cons.1 hr with rfl | hr
    · intro e; have h1 : l.getD (xA r').toNat 0 = l.getD ((xA r').toNat + 1) 0 := by
        rcases enB_iff.1 he1 with ⟨h1, h2⟩ | ⟨h1, h2⟩ <;> rw [h1, h2, e]
      have := hd _ _ (by omega) (by omega) h1; omega
    · exact enF_two q _ (by rw [swp_len]; exact hl) (hd.swp (by omega)) (fun r2 h2 => hx r2 (List.mem_cons_of_mem _ h2)) he2 r' hr
theorem Dis_lnI (n : Nat) : Dis (lnI n) := fun a b ha hb e => by
  rw [lnI_len] at ha hb; rw [lnI_get ha, lnI_get hb] at e; omega
theorem chk17_en {n : Nat} {X P : List (List U)} (h : chk17 n X P = 0) : enF (lnI n) X = true := by
  obtain ⟨c1, c2, c3, c4, c5, c6, c7⟩ := chk17_ok h; unfold chk17 numB at h; rw [c6, c7, df (show ¬ 48 < (n : Int) by omega), df (show ¬ 20000 < (X.length : Int) by omega), df (show ¬ 6400 < (P.length : Int) by omega), dt c1, bc_f, bc_f, bc_f, bc_t, bc_t, bc_t] at h
  cases e : enF (lnI n) X with
  | true => rfl
  | false =>
    rw [show ((n : Int)).toNat = n from rfl, e] at h
    cases h
theorem chk17_two {n : Nat} {X P : List (List U)} (h : chk17 n X P = 0) : Two X := by
  obtain ⟨c1, c2, c3, c4, c5, c6, c7⟩ := chk17_ok h; exact enF_two X (lnI n) (by rw [lnI_len]; exact Nat.le_refl _) (Dis_lnI n) (fun r hr => List.all_eq_true.1 c6 r hr) (chk17_en h)
theorem Two.tail {r : List U} {q : List (List U)} (h : Two (r :: q)) : Two q := fun x hx => h x (List.mem_cons_of_mem _ hx)
theorem ctR_O {t : Int} {r : List U} (h : xO r = t) (k : xU r ≠ t) : ctR t r = [mO r] := by
  unfold ctR; rw [dt h, df k]; rfl
theorem ctR_U {t : Int} {r : List U} (h : xO r ≠ t) (k : xU r = t) : ctR t r = [mU r] := by
  unfold ctR; rw [df h, dt k]; rfl
theorem atF_cons (t : Int) (r : List U) (q : List (List U)) (i : Nat) : atF t (r :: q) i = (bc (decide (xO r = t)) [(i : Int)] []) ++ (bc (decide (xU r = t)) [(i : Int)] []) ++ atF t q (i + 1) := rfl
theorem atF_hi (t : Int) : ∀ (b : List (List U)) (i : Nat), (atF t b i).length = (hiF t b).length
  | [], _ => rfl
  | r :: q, i => by
    rw [atF_cons, hiF_cons, List.length_append, List.length_append, List.length_append, atF_hi t q (i + 1)]; unfold ctR; rw [List.length_append]; cases decide (xO r = t) <;> cases decide (xU r = t) <;> rfl
theorem at_idx {t : Int} : ∀ (b : List (List U)) (i0 j : Nat), Two b → j < (hiF t b).length → ∃ k : Nat, k < b.length ∧ (atF t b i0).getD j 0 = (i0 + k : Nat) ∧ hiF t (b.take k) = (hiF t b).take j ∧ ((xO (b.getD k []) = t ∧ (hiF t b).getD j [] = mO (b.getD k [])) ∨ (xU (b.getD k []) = t ∧ (hiF t b).getD j [] = mU (b.getD k [])))
  | [], _, j, _, h => by cases h
  | r :: q, i0, j, h2, h => by
    have hne := h2 r List.mem_cons_self; rw [atF_cons, hiF_cons]; rw [hiF_cons] at h
    by_cases e1 : xO r = t
    · have e2 : xU r ≠ t := fun e => hne (e1.trans e.symm); rw [ctR_O e1 e2] at h ⊢; rw [dt e1, df e2, bc_t, bc_f]
      cases j with
      | zero => exact ⟨0, by simp, by simp, by simp [hiF], .inl ⟨e1, rfl⟩⟩
      | succ j =>
        obtain ⟨k, g1, g2, g3, g4⟩ := at_idx q (i0 + 1) j h2.tail (by simp at h; omega); refine ⟨k + 1, by simp; omega, ?_, ?_, ?_⟩
        · show (atF t q (i0 + 1)).getD j 0 = _; rw [g2]; congr 1; omega
        · rw [List.take_succ_cons, hiF_cons, g3, ctR_O e1 e2]; rfl
        · exact g4
    · by_cases e2 : xU r = t
      · rw [ctR_U e1 e2] at h ⊢; rw [df e1, dt e2, bc_t, bc_f]
        cases j with
        | zero => exact ⟨0, by simp, by simp, by simp [hiF], .inr ⟨e2, rfl⟩⟩
        | succ j =>
          obtain ⟨k, g1, g2, g3, g4⟩ := at_idx q (i0 + 1) j h2.tail (by simp at h; omega); refine ⟨k + 1, by simp; omega, ?_, ?_, ?_⟩
          · show (atF t q (i0 + 1)).getD j 0 = _; rw [g2]; congr 1; omega
          · rw [List.take_succ_cons, hiF_cons, g3, ctR_U e1 e2]; rfl
          · exact g4
      · rw [ctR_no e1 e2] at h ⊢; rw [df e1, df e2, bc_f]; obtain ⟨k, g1, g2, g3, g4⟩ := at_idx q (i0 + 1) j h2.tail (by simpa using h); refine ⟨k + 1, by simp; omega, ?_, ?_, ?_⟩
        · show (atF t q (i0 + 1)).getD j 0 = _; rw [g2]; congr 1; omega
        · rw [List.take_succ_cons, hiF_cons, g3, ctR_no e1 e2]; rfl
        · exact g4

theorem Two.take {b : List (List U)} (h : Two b) (k : Nat) : Two (b.take k) := fun r hr => h r (List.mem_of_mem_take hr)
end Go.Proofs.Ytjlfedhkpdogbaa.Ev
namespace Go.Proofs.Ytjlfedhkpdogbaa.Ev

theorem hiF_step {a : List (List U)} {i : Nat} (t : Int) (hi : i < a.length) : (hiF t (a.take (i + 1))).length = (hiF t (a.take i)).length + (ctR t (a.getD i [])).length := by
  rw [← List.take_append_getElem hi, hiF_app, List.length_append, getD_at hi, hiF_cons]; congr 1; show (ctR t a[i] ++ []).length = _; rw [List.append_nil]
theorem incD_get {D : List Int} {j k : Nat} (h : j < D.length) : (incD D j).getD k 0 = D.getD k 0 + (if j = k then 1 else 0) := by
  unfold incD; rw [List.getD_eq_getElem?_getD, List.getElem?_set]
  by_cases e : j = k
  · subst e; rw [if_pos rfl, if_pos h, if_pos rfl]; rfl
  · rw [if_neg e, if_neg e, ← List.getD_eq_getElem?_getD]; omega
theorem take_mono {t : Int} {b : List (List U)} {k m : Nat} (h : k ≤ m) : (hiF t (b.take k)).length ≤ (hiF t (b.take m)).length := by
  have e1 : b.take m = b.take k ++ (b.drop k).take (m - k) := by
    have e : m = k + (m - k) := by omega
    conv => lhs; rw [e]
    rw [List.take_add]
  rw [e1, hiF_app, List.length_append]; omega

end Go.Proofs.Ytjlfedhkpdogbaa.Ev
namespace Go.Proofs.Ytjlfedhkpdogbaa.Ev

noncomputable def onB (t : Int) (r : List U) : Bool := bc (xO r == t) true (xU r == t)

theorem ctR_on {t : Int} {r : List U} (h : xO r ≠ xU r) : (ctR t r).length = bc (onB t r) 1 0 := by
  unfold onB
  by_cases h1 : xO r = t
  · rw [ctR_O h1 (fun e => h (h1.trans e.symm)), beq_iff_eq.2 h1]; rfl
  · by_cases h2 : xU r = t
    · rw [ctR_U h1 h2, beq_iff_eq.2 h2, show (xO r == t) = false by simpa using h1]; rfl
    · rw [ctR_no h1 h2, show (xU r == t) = false by simpa using h2, show (xO r == t) = false by simpa using h1]; rfl
theorem Two.at {Y : List (List U)} (h : Two Y) {k : Nat} (hk : k < Y.length) : xO (Y.getD k []) ≠ xU (Y.getD k []) := by
  rw [getD_at hk]; exact h _ (List.getElem_mem hk)
theorem hi_lt {t : Int} {Y : List (List U)} (hY : Two Y) {k j : Nat} (hk : k < Y.length) (ho : onB t (Y.getD k []) = true) (h : k < j) : (hiF t (Y.take k)).length < (hiF t (Y.take j)).length := by
  have h1 := hiF_step t hk; rw [ctR_on (hY.at hk), ho, bc_t] at h1; have h2 := take_mono (t := t) (b := Y) (show k + 1 ≤ j by omega); omega
theorem onB_of {t : Int} {r : List U} : onB t r = true ↔ xO r = t ∨ xU r = t := by
  unfold onB
  by_cases h1 : xO r = t
  · simp [h1, bc]
  · rw [show (xO r == t) = false by simpa using h1, bc_f]; simp [h1]
theorem at_pos {t : Int} {Y : List (List U)} (hY : Two Y) {k : Nat} (hk : k < Y.length) (ho : onB t (Y.getD k []) = true) : (hiF t (Y.take k)).length < (hiF t Y).length ∧ (atF t Y 0).getD (hiF t (Y.take k)).length 0 = k := by
  have h1 := hi_lt hY hk ho hk; rw [List.take_length] at h1; obtain ⟨j, j1, j2, j3, j4⟩ := at_idx (t := t) Y 0 _ hY h1; refine ⟨h1, ?_⟩; have hj : onB t (Y.getD j []) = true := onB_of.2 (by rcases j4 with ⟨a, _⟩ | ⟨a, _⟩; exact .inl a; exact .inr a)
  have hl : (hiF t (Y.take j)).length = (hiF t (Y.take k)).length := by rw [j3, List.length_take]; omega
  have e : j = k := by
    rcases Nat.lt_trichotomy j k with h | h | h
    · have := hi_lt hY j1 hj h; omega
    · exact h
    · have := hi_lt hY hk ho h; omega
  rw [j2, e, Nat.zero_add]

end Go.Proofs.Ytjlfedhkpdogbaa.Ev
namespace Go.Proofs.Ytjlfedhkpdogbaa.Ev
open Go.Proofs
namespace ROn
end ROn
namespace RBef
end RBef
namespace ROth
end ROth
end Go.Proofs.Ytjlfedhkpdogbaa.Ev
namespace Go.Proofs.Ytjlfedhkpdogbaa.Ev
open Go.Proofs
namespace RBef
end RBef
namespace ROth
end ROth
namespace RCom
end RCom
end Go.Proofs.Ytjlfedhkpdogbaa.Ev
namespace Go.Proofs.Ytjlfedhkpdogbaa.Ev
open Go.Proofs
namespace RCom

end RCom
end Go.Proofs.Ytjlfedhkpdogbaa.Ev
namespace Go.Proofs.Ytjlfedhkpdogbaa.Ev
open Go.Proofs
namespace RCom
end RCom
namespace RDif
end RDif
end Go.Proofs.Ytjlfedhkpdogbaa.Ev
namespace Go.Proofs.Ytjlfedhkpdogbaa.Ev
open Go.Proofs Go.RowKit Go.Sort
end Go.Proofs.Ytjlfedhkpdogbaa.Ev
namespace Go.Proofs
open Go.Shelf
end Go.Proofs
namespace Go.Proofs.Ytjlfedhkpdogbaa.Ev
open Go.Proofs Go.RowKit Go.Sort
noncomputable def cmpt (l : List Int) : List Int := Go.Lib.compact l
end Go.Proofs.Ytjlfedhkpdogbaa.Ev
namespace Go.Proofs.Ytjlfedhkpdogbaa.Ev
open Go.Proofs Go.RowKit Go.Sort
end Go.Proofs.Ytjlfedhkpdogbaa.Ev
namespace Go.Proofs.Ytjlfedhkpdogbaa.Ev
open Go.Proofs
namespace PWrk
end PWrk
namespace RWrk
end RWrk
end Go.Proofs.Ytjlfedhkpdogbaa.Ev
namespace Go.Proofs.Ytjlfedhkpdogbaa.Ev
noncomputable def wkL (X : List (List U)) (l : List Int) : List Int := l.map fun i => xW (X.getD i.toNat [])
noncomputable def wrkF (X : List (List U)) (l : List Int) : List Int := cmpt (srt (wkL X l))
end Go.Proofs.Ytjlfedhkpdogbaa.Ev
namespace Go.Proofs.Ytjlfedhkpdogbaa.Ev
open Go.Proofs
namespace PWrk
end PWrk
namespace RWrk
end RWrk
end Go.Proofs.Ytjlfedhkpdogbaa.Ev
namespace Go.Proofs.Ytjlfedhkpdogbaa.Ev
open Go.Proofs
theorem shown_run : endsB (exClosed Try.prog ft (drD Try.prog ft 16 4) 10 18) = true := by kernel_rfl
theorem shownC (w : World) : Calls Try.prog 10 #[] w fun e w' => e = .returned (.bool true) ∧ Stays w w' := closedTrue ftOk (drD_ok mix ftOk 16 4) shown_run w
theorem spShown_ok : ZCtOk Try.prog 10 spTrue := spTrue_ok shownC
end Go.Proofs.Ytjlfedhkpdogbaa.Ev
namespace Go.Proofs.Ytjlfedhkpdogbaa
open Go.ChangeShapes Go.WideShapes Go.ChangeAt Go.RowKit

theorem kept_of_stays {W W' : World} (h : Ev.Stays W W') (may : MemPlace → Prop) : W.keptBut W' may := by
  refine ⟨h.os, h.output, fun i hi => ?_⟩; have e := h.block i hi; rw [e]
  cases hb : W.heap[i]? with
  | none => simp
  | some o =>
    cases o <;> first | exact ⟨rfl, rfl, rfl, fun _ _ => rfl⟩ | exact .inr ⟨rfl, rfl⟩ | rfl
theorem frozen_of_stays {W W' : World} (h : Ev.Stays W W') (a : Addr) (ha : a.block < W.heap.size) : W'.frozen? a = W.frozen? a := by
  unfold World.frozen?; rw [h.block _ ha]
section
variable {H : Type} {enc : TypeId × Value → H} {P : Program}

theorem post_of_stays {f : Func} {s : ChangeSpec} {apart fresh handsOn again : Bool} {W W' : World} {args : Array Value} {v : Value} {ds gs : List (DataW H)} {before pa pv : List MemPlace}
    (hW : DataW.Whole enc P f.params.toList s.vars apart W args.toList ds gs before)
    (hres : ∀ (b : Nat) (sp : Nat → Bool) (hd : Bool), DataW.TrodAll enc P W' b sp hd f.resultTypes.toList (v.resultList f.resultTypes.size) (s.fn H (ds ++ gs)).results [])
    (hargs : ∀ sp : Nat → Bool, (∀ p ∈ before, sp p.block = true) → DataW.TrodAll enc P W' 0 sp true f.params.toList args.toList (s.fn H (ds ++ gs)).args pa)
    (hvars : ∀ sp : Nat → Bool, (∀ p ∈ before, sp p.block = true) → DataW.TrodVars enc P W' sp s.vars (s.fn H (ds ++ gs)).vars pv)
    (hps : before = pa ++ pv) (hst : Ev.Stays W W')
    (hok : ∀ (j : Nat) (t : TypeId) (r : Value), f.resultTypes[j]? = some t → (v.resultList f.resultTypes.size)[j]? = some r → Value.okWide P W' .any 0 t r) :
    s.post enc P f apart fresh handsOn again W args v W' := by
  have hk : W.keptBut W' (· ∈ before) := kept_of_stays hst _; have hold : ∀ p ∈ before, (fun b => decide (b < W.heap.size)) p.block = true := fun p hp => by simpa using hW.lt p hp
  have hlt := fun p hp => hW.lt p hp; refine ⟨ds, gs, before, [], pa, pv, hW, hres _ _ _, hargs _ hold, hvars _ hold, World.keptBut_mono (fun p hp => ⟨hp, ?_⟩) hk, fun _ => ?_⟩
  · rw [hps, List.mem_append] at hp; exact Or.inr hp
  · obtain ⟨_, _, _, _, _, hz, hn⟩ := hW; refine ⟨hok, _, _, ([] ++ pa) ++ pv, ⟨[] ++ pa, pv, trodAll_append (hargs _ (fun _ _ => rfl)) (hres _ _ _), hvars _ (fun _ _ => rfl), rfl, ?_, ?_⟩, ?_⟩
    · intro b off hp; have hp2 : MemPlace.cell b off ∈ before := by rw [hps]; simpa using hp
      rw [frozen_of_stays hst _ (hlt _ hp2)]; exact hz b off hp2
    · intro ha; have := hn ha; rw [hps] at this; simpa using this
    · intro p hp _; rw [hps]; simpa using hp
end
end Go.Proofs.Ytjlfedhkpdogbaa
namespace Go.Proofs.Ytjlfedhkpdogbaa
open Go.ChangeShapes Go.WideShapes Go.ChangeAt Go.RowKit
section
variable {H : Type} {enc : TypeId × Value → H} {P : Program}
theorem same_of_stays {W W' : World} (h : Ev.Stays W W') {p : MemPlace} (hp : p.block < W.heap.size) : W.sameAt W' p := by
  cases p with
  | cell b off =>
    show W'.cell? _ = W.cell? _; unfold World.cell?; rw [h.block b hp]
  | map b => exact h.block b hp
theorem args_carry {W W' : World} {base : Nat} {sp : Nat → Bool} {hd : Bool} : ∀ {ts : List TypeId} {vs : List Value} {ds : List (DataW H)} {ps : List MemPlace}, DataW.TrodAll enc P W base sp hd ts vs ds ps → (∀ p ∈ ps, W.sameAt W' p) → DataW.TrodAll enc P W' base sp hd ts vs ds ps
  | [], [], [], _, h, _ => h
  | _ :: _, _ :: _, _ :: _, _, ⟨p, q, ⟨n, h⟩, hs, e⟩, k => ⟨p, q, ⟨n, DataW.trod_carry n _ _ _ h fun x hx => k x (by rw [e]; exact List.mem_append_left _ hx)⟩, args_carry hs fun x hx => k x (by rw [e]; exact List.mem_append_right _ hx), e⟩
  | [], [], _ :: _, _, h, _ => h.elim
  | [], _ :: _, _, _, h, _ => h.elim
  | _ :: _, [], _, _, h, _ => h.elim
  | _ :: _, _ :: _, [], _, h, _ => h.elim

theorem post_law {f : Func} {s : ChangeSpec} {apart fresh handsOn again : Bool} {W W' : World} {args : Array Value} {ds : List (DataW H)} {p : List MemPlace} {bt : TypeId} {T : TypeId → Prop} (K : Kids P T) (hz : ∀ t e, T t → P.underlying t = some (.slice e) → 0 < P.cellsOf e)
    (hbt : P.underlying bt = some .bool) (hrt : f.resultTypes.toList = [bt]) (hsz : f.resultTypes.size = 1) (hvs : s.vars = []) (hfn : s.fn H (ds ++ []) = { results := [.lit (.bool true)], args := ds })
    (hpt : ∀ t ∈ f.params.toList, T t)
    (hW : DataW.Whole enc P f.params.toList s.vars apart W args.toList ds [] (p ++ [])) (hA : DataW.TrodAll enc P W 0 (fun _ => true) true f.params.toList args.toList ds p) (hst : Ev.Stays W W')
    (hok : ∀ (j : Nat) (t : TypeId) (r : Value), f.resultTypes[j]? = some t → ((Value.bool true).resultList f.resultTypes.size)[j]? = some r → Value.okWide P W' .any 0 t r) :
    s.post enc P f apart fresh handsOn again W args (.bool true) W' := by
  have hlt := fun q hq => hW.lt q hq; refine post_of_stays (pa := p) (pv := []) hW (fun b sp hd => ?_) (fun sp hsp => ?_) (fun sp _ => ?_) rfl hst hok
  · rw [hrt, hfn, hsz]; exact trodAll_mk1 (shut_bool hbt _)
  · rw [hfn]; exact DataW.TrodAll.respare K hz hpt (args_carry hA fun q hq => same_of_stays hst (hlt q (by simpa using hq))) fun q hq => hsp q (by simpa using hq)
  · rw [hfn, hvs]; rfl
end
namespace Ev


inductive UFit : Sh → U → Prop where
  | int (k : IntKind) (n : Int) (h : (Lit.int k n).wf = true) : UFit (.int k) (.i n)
  | bool (b : Bool) : UFit .bool (.b b)
  | str (s : ByteArray) (h : s.size ≤ maxLen) : UFit .str (.s s)
  | list (sh : List Sh) (l : List (List U)) (hl : l.length ≤ maxLen) (hr : ∀ j, j < l.length → (l.getD j []).length = sh.length) (h : ∀ (j f : Nat) (s : Sh), j < l.length → sh[f]? = some s → UFit s ((l.getD j []).getD f (.i 0))) : UFit (.list sh) (.l l)
structure RowFit (sh : List Sh) (r : List U) : Prop where
  len : r.length = sh.length
  fit : ∀ (f : Nat) (s : Sh), sh[f]? = some s → UFit s (r.getD f (.i 0))
theorem RowFit.nil : RowFit [] [] := ⟨rfl, fun f s h => by simp at h⟩
theorem RowFit.append {sh1 sh2 : List Sh} {r1 r2 : List U} (h1 : RowFit sh1 r1) (h2 : RowFit sh2 r2) : RowFit (sh1 ++ sh2) (r1 ++ r2) := by
  refine ⟨by simp [h1.len, h2.len], fun f s h => ?_⟩; rw [List.getD_eq_getElem?_getD]
  by_cases hf : f < sh1.length
  · rw [List.getElem?_append_left hf] at h; rw [List.getElem?_append_left (by rw [h1.len]; exact hf), ← List.getD_eq_getElem?_getD]; exact h1.fit f s h
  · rw [List.getElem?_append_right (by omega)] at h; rw [List.getElem?_append_right (by rw [h1.len]; omega), h1.len, ← List.getD_eq_getElem?_getD]; exact h2.fit _ s h
theorem recE_app : ∀ {sh1 sh2 : List Sh} {r1 r2 : List U}, r1.length = sh1.length → recE (sh1 ++ sh2) (r1 ++ r2) = recE sh1 r1 ++ recE sh2 r2
  | [], sh2, r1, r2, h => by
    have : r1 = [] := List.eq_nil_of_length_eq_zero h; subst this; rfl
  | s :: sh1, sh2, [], r2, h => by cases h
  | s :: sh1, sh2, u :: r1, r2, h => by
    show s.ev u :: recE (sh1 ++ sh2) (r1 ++ r2) = s.ev u :: (recE sh1 r1 ++ recE sh2 r2); rw [recE_app (by simpa using h)]

def shFs (P : Program) (f : TypeId → Option (List Sh)) : List Field → Nat → Option (List Sh)
  | [], _ => some []
  | fd :: r, off => match f fd.type with
    | some sh => if fd.offset = off ∧ P.cellsOf fd.type = sh.length then match shFs P f r (off + sh.length) with
      | some l => some (sh ++ l)
      | none => none else none
    | none => none
def shB (P : Program) : Nat → TypeId → Option (List Sh)
  | 0, _ => none
  | k + 1, t => match P.underlying t with
    | some (.int κ) => some [.int κ]
    | some .bool => some [.bool]
    | some .string => some [.str]
    | some (.slice e) => match shB P k e with
      | some sh => if P.cellsOf e = sh.length ∧ 0 < sh.length then some [.list sh] else none
      | none => none
    | some (.struct fs) => match shFs P (shB P k) fs.toList 0 with
      | some sh => if P.cellsOf t = sh.length then some sh else none
      | none => none
    | some (.array m e) => match shB P k e with
      | some sh => if P.cellsOf e = sh.length ∧ P.cellsOf t = m * sh.length then some (List.replicate m sh).flatten else none
      | none => none
    | _ => none
noncomputable def fzAll (W : World) : Nat → Option (Array Value) := fun k => match W.heap[k]? with
  | some (.cells a _ _) => some a
  | _ => none
noncomputable def gAll (W : World) : G := ⟨fun _ => none, fzAll W, fun _ _ _ => none⟩
theorem fzAll_at (W : World) : FzAt (gAll W) W := ⟨fun k a hk => (by
  have hk : fzAll W k = some a := hk; unfold fzAll at hk; split at hk
  · rename_i a' ty fz h; injection hk with hk; subst hk
    exact ⟨ty, fz, h⟩
  · cases hk), fun _ _ _ => rfl⟩
theorem list_of {Q : Nat → List U → Prop} : ∀ (n : Nat), (∀ i, i < n → ∃ r, Q i r) → ∃ l : List (List U), l.length = n ∧ ∀ i, i < n → Q i (l.getD i [])
  | 0, _ => ⟨[], rfl, fun i hi => absurd hi (by omega)⟩
  | n + 1, h => by
    obtain ⟨l, h1, h2⟩ := list_of n fun i hi => h i (by omega); obtain ⟨r, hr⟩ := h n (by omega); refine ⟨l ++ [r], by simp [h1], fun i hi => ?_⟩; rw [List.getD_eq_getElem?_getD]
    by_cases e : i < n
    · rw [List.getElem?_append_left (by omega), ← List.getD_eq_getElem?_getD]; exact h2 i e
    · have : i = n := by omega
      subst this; rw [List.getElem?_append_right (by omega), h1, Nat.sub_self]; exact hr
variable {H : Type} {enc : TypeId × Value → H} {P : Program} {W : World} {base : Nat} {sp : Nat → Bool} {hd : Bool}
def OpenAt (enc : TypeId × Value → H) (P : Program) (W : World) (base : Nat) (sp : Nat → Bool) (hd : Bool) (k : Nat) : Prop := ∀ (t : TypeId) (sh : List Sh) (fuel : Nat) (cs : List Value) (x : DataW H × List MemPlace), shB P k t = some sh → DataW.trod enc P W base sp hd fuel t cs = some x → ∃ r, RowFit sh r ∧ ∀ γ : G, γ.fz = fzAll W → ECL γ (recE sh r) cs
theorem fields_open {k : Nat} (ih : OpenAt enc P W base sp hd k) {cs : List Value} {n : Nat} : ∀ (fs : List Field) (off : Nat) (sh : List Sh), shFs P (shB P k) fs off = some sh → (∀ f, f ∈ fs → ∃ y, DataW.trod enc P W base sp hd n f.type ((cs.drop f.offset).take (P.cellsOf f.type)) = some y) → ∃ r, RowFit sh r ∧ ∀ γ : G, γ.fz = fzAll W → ECL γ (recE sh r) ((cs.drop off).take sh.length)
  | [], off, sh, h, _ => by
    injection (show some [] = some sh from h) with h; subst h
    exact ⟨[], .nil, fun γ _ => by
      rw [show ([] : List Sh).length = 0 from rfl, List.take_zero]; exact ECL.nil γ⟩
  | fd :: fs, off, sh, h, hall => by
    unfold shFs at h; split at h
    case h_2 => cases h
    rename_i s1 hs1; split at h
    case isFalse => cases h
    rename_i hc; split at h
    case h_2 => cases h
    rename_i s2 hs2; injection h with h; subst h
    obtain ⟨y, hy⟩ := hall fd (by simp); rw [hc.1, hc.2] at hy; obtain ⟨r1, h1, h2⟩ := ih fd.type s1 n _ y hs1 hy; obtain ⟨r2, h3, h4⟩ := fields_open ih fs (off + s1.length) s2 hs2 fun f hf => hall f (by simp [hf]); refine ⟨r1 ++ r2, h1.append h3, fun γ hγ => ?_⟩; rw [recE_app h1.len, List.length_append]; have e : (cs.drop off).take (s1.length + s2.length) = (cs.drop off).take s1.length ++ (cs.drop (off + s1.length)).take s2.length := by
      rw [List.take_add, List.drop_drop]
    rw [e]; exact (h2 γ hγ).append (h4 γ hγ)
theorem elems_open {k : Nat} (ih : OpenAt enc P W base sp hd k) {cs : List Value} {n : Nat} {e : TypeId} {sh : List Sh} (hsh : shB P k e = some sh) (hc : P.cellsOf e = sh.length) : ∀ (m i0 : Nat), (∀ i, i < m → ∃ y, DataW.trod enc P W base sp hd n e ((cs.drop ((i0 + i) * P.cellsOf e)).take (P.cellsOf e)) = some y) → ∃ r, RowFit (List.replicate m sh).flatten r ∧ ∀ γ : G, γ.fz = fzAll W → ECL γ (recE (List.replicate m sh).flatten r) ((cs.drop (i0 * sh.length)).take (m * sh.length))
  | 0, i0, _ => ⟨[], .nil, fun γ _ => by
      rw [Nat.zero_mul, List.take_zero]; exact ECL.nil γ⟩
  | m + 1, i0, h => by
    obtain ⟨y, hy⟩ := h 0 (by omega); rw [hc, Nat.add_zero] at hy; obtain ⟨r1, h1, h2⟩ := ih e sh n _ y hsh hy; obtain ⟨r2, h3, h4⟩ := elems_open ih hsh hc m (i0 + 1) fun i hi => by
      have := h (i + 1) (by omega)
      rwa [show i0 + (i + 1) = i0 + 1 + i by omega] at this
    refine ⟨r1 ++ r2, by rw [List.replicate_succ, List.flatten_cons]; exact h1.append h3, fun γ hγ => ?_⟩; rw [List.replicate_succ, List.flatten_cons, recE_app h1.len, Nat.succ_mul, Nat.add_comm, List.take_add, List.drop_drop]; have := h4 γ hγ; rw [Nat.succ_mul] at this; exact (h2 γ hγ).append this
theorem open_cells : ∀ k, OpenAt enc P W base sp hd k
  | 0 => fun t sh fuel cs x h => by cases h
  | k + 1 => fun t sh fuel cs x h ht => by
    have ih : OpenAt enc P W base sp hd k := open_cells k; unfold shB at h; split at h
    · rename_i κ hu; injection h with h; subst h
      obtain ⟨n, rfl, _, hw⟩ := DataW.trod_int hu ht; refine ⟨[.i n], ⟨rfl, fun f s hf => ?_⟩, fun γ _ => .cons (.v _) (.nil _)⟩; obtain ⟨rfl, rfl⟩ := one_f hf; exact .int κ n hw
    · rename_i hu; injection h with h; subst h
      obtain ⟨b, rfl, _⟩ := DataW.trod_bool hu ht; refine ⟨[.b b], ⟨rfl, fun f s hf => ?_⟩, fun γ _ => .cons (.v _) (.nil _)⟩; obtain ⟨rfl, rfl⟩ := one_f hf; exact .bool b
    · rename_i hu; injection h with h; subst h
      obtain ⟨s, rfl, _, hs⟩ := DataW.trod_string hu ht; refine ⟨[.s s], ⟨rfl, fun f s hf => ?_⟩, fun γ _ => .cons (.v _) (.nil _)⟩; obtain ⟨rfl, rfl⟩ := one_f hf; exact .str _ hs
    · rename_i e hu; split at h
      case h_2 => cases h
      rename_i sh' hsh; split at h
      case isFalse => cases h
      rename_i hc; injection h with h; subst h
      rcases DataW.trod_slice hu ht with ⟨rfl, _⟩ | ⟨a, len, cap, elems, rest, n, _, rfl, _, hb, hlc, hcm, hel, hall, _⟩
      · refine ⟨[.l []], ⟨rfl, fun f s hf => ?_⟩, fun γ _ => .cons ?_ (.nil _)⟩
        · obtain ⟨rfl, rfl⟩ := one_f hf; exact .list sh' [] (Nat.zero_le _) (fun j hj => by simp at hj) (fun j f s hj => by simp at hj)
        · exact UOk.ec (s := .list sh') (.empty sh' (.l []) none 0 rfl (Nat.zero_le _) fun _ => rfl)
      · have each : ∀ i, i < len → ∃ r, RowFit sh' r ∧ ∃ ys, W.cells? base (a.add (i * sh'.length)) sh'.length = some ys ∧ ∀ γ : G, γ.fz = fzAll W → ECL γ (recE sh' r) ys := fun i hi => by
          have h1 := hall i hi; rw [hc.1] at h1; have h2 : i < elems.length := by omega
          rw [List.getElem?_eq_getElem h2] at h1; obtain ⟨ys, h3, h4⟩ := Option.bind_eq_some_iff.1 h1; obtain ⟨r, h5, h6⟩ := ih e sh' n ys _ hsh h4; exact ⟨r, h5, ys, h3, h6⟩
        obtain ⟨l, hl, hQ⟩ := list_of len each; refine ⟨[.l l], ⟨rfl, fun f s hf => ?_⟩, fun γ hγ => .cons ?_ (.nil _)⟩
        · obtain ⟨rfl, rfl⟩ := one_f hf; exact .list sh' l (by omega) (fun j hj => (hQ j (by omega)).1.len) fun j f s hj hf => (hQ j (by omega)).1.fit f s hf
        · refine UOk.ec (s := .list sh') ?_
          by_cases h0 : len = 0
          · have : l = [] := List.eq_nil_of_length_eq_zero (by omega); subst this; subst h0; exact .empty sh' (.l []) (some a) cap rfl hcm fun e => by cases e
          · obtain ⟨b, off, spot⟩ := a; have hblk : spot = none ∧ ∃ arr ty fz, W.heap[b]? = some (.cells arr ty fz) := by
              obtain ⟨h1, ys, h2, h3⟩ := hQ 0 (by omega); obtain ⟨_, h4, h5⟩ := World.cells?_some h2; have h6 := h5 0 hc.2; rw [List.getElem?_eq_getElem (show 0 < ys.length by omega)] at h6; have h6 : W.cell? ⟨b, off, spot⟩ = some ys[0] := by
                have e : ((⟨b, off, spot⟩ : Addr).add (0 * sh'.length)).add 0 = ⟨b, off, spot⟩ := by simp [Addr.add]
                rw [e] at h6; exact h6
              unfold World.cell? at h6; split at h6
              · rename_i arr ty fz hb'; split at h6
                · cases h6
                · rename_i hs; exact ⟨by cases spot <;> simp_all, arr, ty, fz, hb'⟩
              · cases h6
            obtain ⟨rfl, arr, ty, fz, hblk⟩ := hblk; have cellAt : ∀ i f, i < len → f < sh'.length → ∃ y, W.cell? ⟨b, off + (i * sh'.length + f), none⟩ = some y ∧ ∀ s, sh'[f]? = some s → UOk γ.fz s ((l.getD i []).getD f (.i 0)) y := fun i f hi hf => by
              obtain ⟨h1, ys, h2, h3⟩ := hQ i hi; obtain ⟨_, h4, h5⟩ := World.cells?_some h2; have h6 := h5 f hf; have h7 : f < ys.length := by omega
              rw [List.getElem?_eq_getElem h7] at h6; refine ⟨ys[f], ?_, fun s hs => ?_⟩
              · have e : ((⟨b, off, none⟩ : Addr).add (i * sh'.length)).add f = ⟨b, off + (i * sh'.length + f), none⟩ := by
                  unfold Addr.add; split <;> split <;> simp_all [Nat.add_assoc]
                rw [← h6, e]
              · have h8 := recE_get (s := s) (f := f) (sh := sh') (l.getD i []) hs; have h9 := (h3 γ hγ).2 f _ ys[f] h8 (List.getElem?_eq_getElem h7); exact UOk.of_ec h9
            have getA : ∀ i f, i < len → f < sh'.length → ∃ y, arr[off + (i * sh'.length + f)]? = some y ∧ ∀ s, sh'[f]? = some s → UOk γ.fz s ((l.getD i []).getD f (.i 0)) y := fun i f hi hf => by
              obtain ⟨y, h1, h2⟩ := cellAt i f hi hf; refine ⟨y, ?_, h2⟩; unfold World.cell? at h1; simpa [hblk] using h1
            have hk : γ.fz b = some arr := by
              rw [hγ]; unfold fzAll; rw [hblk]
            subst hl; refine .list sh' (.l l) b off cap arr hk hlc hcm ?_ fun j f s x hj hf hx => ?_
            · show off + l.length * sh'.length ≤ arr.size; obtain ⟨y, h1, _⟩ := getA (l.length - 1) (sh'.length - 1) (by omega) (by omega); have := (Array.getElem?_eq_some_iff.1 h1).1; have e : l.length * sh'.length = (l.length - 1) * sh'.length + sh'.length := by rw [← Nat.succ_mul]; congr 1; omega
              omega
            · obtain ⟨y, h1, h2⟩ := getA j f hj (List.getElem?_eq_some_iff.1 hf).1; rw [h1] at hx; injection hx with hx; subst hx; exact h2 s hf
    · rename_i fs hu; split at h
      case h_2 => cases h
      rename_i sh' hsh; split at h
      case isFalse => cases h
      rename_i hc; injection h with h; subst h
      obtain ⟨xs, n, _, _, hl, hlen, hf⟩ := DataW.trod_struct hu ht; obtain ⟨r, h1, h2⟩ := fields_open (cs := cs) (n := n) ih fs.toList 0 sh' hsh fun f hm => by
        obtain ⟨i, hi, rfl⟩ := List.getElem_of_mem hm; have hi2 : i < fs.size := by simpa using hi
        have := hf i fs.toList[i] (by simp [hi2]); rw [List.getElem?_eq_getElem (by omega)] at this; exact ⟨_, this⟩
      refine ⟨r, h1, fun γ hγ => ?_⟩; have := h2 γ hγ
      rwa [List.drop_zero, List.take_of_length_le (by omega)] at this
    · rename_i m e hu; split at h
      case h_2 => cases h
      rename_i sh' hsh; split at h
      case isFalse => cases h
      rename_i hc; injection h with h; subst h
      obtain ⟨xs, n, _, _, hl, hlen, hf⟩ := DataW.trod_array hu ht; obtain ⟨r, h1, h2⟩ := elems_open (cs := cs) (n := n) ih hsh hc.1 m 0 fun i hi => by
        have := hf i hi; rw [List.getElem?_eq_getElem (by omega)] at this; rw [Nat.zero_add]; exact ⟨_, this⟩
      refine ⟨r, h1, fun γ hγ => ?_⟩; have := h2 γ hγ
      rwa [Nat.zero_mul, List.drop_zero, List.take_of_length_le (by omega)] at this
    · cases h

theorem open_agg {t : TypeId} {fs : Array Field} {v : Value} {d : DataW H} {ps : List MemPlace} {k b0 : Nat} {rc : Reach} {sh : List Sh} (hu : P.underlying t = some (.struct fs)) (hs : shB P k t = some sh) (hv : Value.okWide P W rc b0 t v) (h : DataW.Trod enc P W base sp hd t v d ps) : ∃ r, RowFit sh r ∧ EC (gAll W) (.agg (recE sh r)) v := by
  obtain ⟨cs, rfl, _⟩ := okWide_struct hu hv; obtain ⟨fuel, hf⟩ := h; obtain ⟨r, h1, h2⟩ := open_cells k t sh fuel _ _ hs hf; have h3 := h2 (gAll W) rfl; refine ⟨r, h1, ?_⟩; have := EC.agg (γ := gAll W) (recE sh r) cs.toList h3.1 h3.2; simpa using this

end Ev
end Go.Proofs.Ytjlfedhkpdogbaa
namespace Go.Proofs.Ytjlfedhkpdogbaa.Ev
open Go.Proofs
namespace LPts
end LPts
noncomputable def spPts : ZCT := fun ax => match ax with
  | [.lst (.recs [.int .i64, .int .i64, .int .i64] a), .lst (.recs [.int .i64, .int .i64, .int .i64] b)] => some ⟨decide (eqR a b ∧ a.length ≤ 100000), bv true, [], 0⟩
  | _ => none
namespace LFar
noncomputable def RUN (s : ES) : ZF := RZ 9 .nil (fun _ => false) [] [] false s
theorem in_t (n k : Int) (X P : List (List U)) : RUN (st0 9 [clE n X P, iv k]) = (bc (decide (k < Int.ofNat (List.length X))) (bc (decide (Int.ofNat (List.length X) ≤ (20000 : Int))) (.done (EV.v (Value.bool true)) [] 0) (bc (decide ((20100 : Int) < Int.ofNat (List.length X))) (.done (EV.v (Value.bool true)) [] 0) (bc (decide ((60 : Int) < n)) (.done (EV.v (Value.bool true)) [] 0) (bc (decide (k < Int.ofNat (List.length P))) (bc (decide (Int.ofNat (List.length P) ≤ (6400 : Int))) (.done (EV.v (Value.bool true)) [] 0) (.done (EV.v (Value.bool (decide ((6500 : Int) < Int.ofNat (List.length P))))) [] 0)) (.done (EV.v (Value.bool (decide ((6500 : Int) < Int.ofNat (List.length P))))) [] 0))))) (bc (decide ((20100 : Int) < Int.ofNat (List.length X))) (.done (EV.v (Value.bool true)) [] 0) (bc (decide ((60 : Int) < n)) (.done (EV.v (Value.bool true)) [] 0) (bc (decide (k < Int.ofNat (List.length P))) (bc (decide (Int.ofNat (List.length P) ≤ (6400 : Int))) (.done (EV.v (Value.bool true)) [] 0) (.done (EV.v (Value.bool (decide ((6500 : Int) < Int.ofNat (List.length P))))) [] 0)) (.done (EV.v (Value.bool (decide ((6500 : Int) < Int.ofNat (List.length P))))) [] 0))))) := by kernel_rfl
end LFar

noncomputable def farB (n k : Int) (X P : List (List U)) : Bool := bc (decide (k < (X.length : Int) ∧ (X.length : Int) ≤ 20000)) true (bc (decide (20100 < (X.length : Int))) true (bc (decide (60 < n)) true (bc (decide (k < (P.length : Int) ∧ (P.length : Int) ≤ 6400)) true (decide (6500 < (P.length : Int))))))
theorem LFar.ends (n k : Int) (X P : List (List U)) : EndZ 9 .nil false (st0 9 [clE n X P, iv k]) (bv (farB n k X P)) [] 0 := by
  have h := LFar.in_t n k X P; unfold farB; simp only [ofn] at h; have h3 : ∀ {R : ZF}, R = bc (decide (k < (P.length : Int))) (bc (decide ((P.length : Int) ≤ 6400)) (.done (bv true) [] 0) (.done (bv (decide (6500 < (P.length : Int)))) [] 0)) (.done (bv (decide (6500 < (P.length : Int)))) [] 0) → R = .done (bv (bc (decide (k < (P.length : Int) ∧ (P.length : Int) ≤ 6400)) true (decide (6500 < (P.length : Int))))) [] 0 := by
    intro R e; rw [e]
    by_cases h1 : k < (P.length : Int)
    · by_cases h2 : (P.length : Int) ≤ 6400
      · rw [dt h1, dt h2, dt (show k < (P.length : Int) ∧ (P.length : Int) ≤ 6400 from ⟨h1, h2⟩)]; rfl
      · rw [dt h1, df h2, df (show ¬ (k < (P.length : Int) ∧ (P.length : Int) ≤ 6400) from fun h => h2 h.2)]; rfl
    · rw [df h1, df (show ¬ (k < (P.length : Int) ∧ (P.length : Int) ≤ 6400) from fun h => h1 h.1)]; rfl
  have h4 : ∀ {R : ZF}, R = bc (decide (20100 < (X.length : Int))) (.done (bv true) [] 0) (bc (decide (60 < n)) (.done (bv true) [] 0) (bc (decide (k < (P.length : Int))) (bc (decide ((P.length : Int) ≤ 6400)) (.done (bv true) [] 0) (.done (bv (decide (6500 < (P.length : Int)))) [] 0)) (.done (bv (decide (6500 < (P.length : Int)))) [] 0))) → R = .done (bv (bc (decide (20100 < (X.length : Int))) true (bc (decide (60 < n)) true (bc (decide (k < (P.length : Int) ∧ (P.length : Int) ≤ 6400)) true (decide (6500 < (P.length : Int))))))) [] 0 := by
    intro R e; rw [e]; cases decide (20100 < (X.length : Int))
    · rw [bc_f, bc_f]; cases decide (60 < n)
      · rw [bc_f, bc_f]; exact h3 rfl
      · rfl
    · rfl
  by_cases h1 : k < (X.length : Int)
  · by_cases h2 : (X.length : Int) ≤ 20000
    · rw [dt h1, dt h2, bc_t, bc_t] at h; rw [dt (show k < (X.length : Int) ∧ (X.length : Int) ≤ 20000 from ⟨h1, h2⟩), bc_t]
      exact .done h
    · rw [dt h1, df h2, bc_t, bc_f] at h; rw [df (show ¬ (k < (X.length : Int) ∧ (X.length : Int) ≤ 20000) from fun h => h2 h.2), bc_f]
      exact .done (h4 h)
  · rw [df h1, bc_f] at h; rw [df (show ¬ (k < (X.length : Int) ∧ (X.length : Int) ≤ 20000) from fun h => h1 h.1), bc_f]
    exact .done (h4 h)
noncomputable def spFar : ZCT := fun ax => match ax with
  | [.agg [.v (.int .i64 n), .lst (.recs [.int .i64, .int .i64, .int .i64, .int .i64] X), .lst (.recs [.int .i64, .int .i64, .int .i64, .int .i64] P)], .v (.int .i64 k)] => some ⟨decide (True), bv (farB n k X P), [], 0⟩
  | _ => none
theorem spFar_ok : ZCtOk Try.prog 9 spFar := fun γ w us ax r hs hc hax hN hfz => by
  unfold spFar at hs; split at hs
  case h_2 => cases hs
  rename_i n X P k; obtain ⟨rfl⟩ := Option.some.inj hs; have hc_0 : decide (True) = true := hc; have hc := of_decide_eq_true hc_0; exact EndZ.calls (LFar.ends n k X P) (.nil _) (by kernel_rfl) hax hN hfz
namespace ACmF
end ACmF
end Go.Proofs.Ytjlfedhkpdogbaa.Ev
namespace Go.Proofs.Ytjlfedhkpdogbaa.Ev
open Go.Proofs
noncomputable def diP (n m : Int) (X P Y Q : List (List U)) : List Int × List Int := bc (fiE n m X P Y Q != 0) ([], []) (othF (coP n m X P Y Q).1 0 X.length, othF (coP n m X P Y Q).2 0 Y.length)
theorem comF_len {Y R : List (List U)} : ∀ (q : List (List U)) (i : Nat) (D : List Int), (comF Y R q i D).1.length ≤ q.length ∧ (comF Y R q i D).2.length ≤ q.length
  | [], _, _ => ⟨Nat.le_refl _, Nat.le_refl _⟩
  | r :: q, i, D => by
    unfold comF; generalize comB Y R D r = b; obtain ⟨h1, h2⟩ := comF_len (Y := Y) (R := R) q (i + 1) (stepD b D r); cases b
    · rw [bc_f, List.length_cons]; exact ⟨by omega, by omega⟩
    · rw [bc_t, List.length_cons, List.length_cons, List.length_cons]; exact ⟨by omega, by omega⟩
theorem fiE_0 {n m : Int} {X P Y Q : List (List U)} (hE : fiE n m X P Y Q = 0) : chk17 n X P = 0 ∧ chk17 m Y Q = 0 ∧ n = m := by
  have z1 : chk17 n X P = 0 := by
    apply Classical.byContradiction; intro z; unfold fiE at hE; rw [show (chk17 n X P != 0) = true by simp [z], bc_t] at hE; exact z hE
  have b1 : (chk17 n X P != 0) = false := by simp [z1]
  have z2 : chk17 m Y Q = 0 := by
    apply Classical.byContradiction; intro z; unfold fiE at hE; rw [b1, bc_f, show (chk17 m Y Q != 0) = true by simp [z], bc_t] at hE; exact z hE
  have b3 : (chk17 m Y Q != 0) = false := by simp [z2]
  refine ⟨z1, z2, ?_⟩; apply Classical.byContradiction; intro z; unfold fiE at hE; rw [b1, bc_f, b3, bc_f, show (n != m) = true by simp [z], bc_t] at hE; cases hE
theorem coP_len {n m : Int} {X P Y Q : List (List U)} : (coP n m X P Y Q).1.length ≤ 20000 ∧ (coP n m X P Y Q).2.length ≤ 20000 := by
  unfold coP; cases h : (fiE n m X P Y Q != 0)
  · rw [bc_f]; have h0 : fiE n m X P Y Q = 0 := by simpa using h
    obtain ⟨z1, _⟩ := fiE_0 h0; obtain ⟨_, _, c3, _⟩ := chk17_ok z1; have := comF_len (Y := Y) (R := rowsT (thF Y 0 (th0 n.toNat))) X 0 (zerosL n.toNat); exact ⟨by omega, by omega⟩
  · rw [bc_t]; exact ⟨Nat.zero_le _, Nat.zero_le _⟩
theorem dif_err {n m : Int} {X P Y Q : List (List U)} (h : (fiE n m X P Y Q != 0) = true) : Weak (.tup [.v (.slice none 0 0), .v (.slice none 0 0), iv (fiE n m X P Y Q)]) (.tup [il (diP n m X P Y Q).1, il (diP n m X P Y Q).2, iv (fiE n m X P Y Q)]) := by
  unfold diP; rw [h, bc_t]; exact Weak.tup (.cons (Weak.nilI _) (.cons (Weak.nilI _) (.cons (Weak.refl _) .nil)))
theorem dif_ok {n m : Int} {X P Y Q : List (List U)} (h : (fiE n m X P Y Q != 0) = false) : X.length ≤ 20000 ∧ Y.length ≤ 20000 ∧ diP n m X P Y Q = (othF (coP n m X P Y Q).1 0 X.length, othF (coP n m X P Y Q).2 0 Y.length) := by
  have h0 : fiE n m X P Y Q = 0 := by simpa using h
  obtain ⟨z1, z2, _⟩ := fiE_0 h0; obtain ⟨_, _, c3, _⟩ := chk17_ok z1; obtain ⟨_, _, d3, _⟩ := chk17_ok z2; refine ⟨c3, d3, ?_⟩; unfold diP; rw [h, bc_f]
theorem PDif.ends (n m : Int) (X P Y Q : List (List U)) : EndZ 25 ctPD false (st0 25 [clE n X P, clE m Y Q]) (.tup [il (diP n m X P Y Q).1, il (diP n m X P Y Q).2, iv (fiE n m X P Y Q)]) [] 0 := by
  have h := PDif.in_t n m X P Y Q; cases h0 : (fiE n m X P Y Q != 0)
  · obtain ⟨c3, d3, hd⟩ := dif_ok h0; have hl := coP_len (n := n) (m := m) (X := X) (P := P) (Y := Y) (Q := Q); have hE : fiE n m X P Y Q = 0 := by simpa using h0
    rw [h0, bc_f] at h; rw [hd, hE]; rw [eqSy_self, dt (show (0 : Int) ≤ Int.ofNat X.length ∧ Int.ofNat X.length ≤ 50000 ∧ (coP n m X P Y Q).1.length ≤ 50000 from ⟨by rw [ofn]; omega, by rw [ofn]; omega, by omega⟩), dt (show (0 : Int) ≤ Int.ofNat Y.length ∧ Int.ofNat Y.length ≤ 50000 ∧ (coP n m X P Y Q).2.length ≤ 50000 from ⟨by rw [ofn]; omega, by rw [ofn]; omega, by omega⟩)] at h
    exact .done h
  · rw [h0, bc_t] at h; exact (EndZ.done h).weak (dif_err h0)
noncomputable def spPDif : ZCT := fun ax => match ax with
  | [.agg [.v (.int .i64 n), .lst (.recs [.int .i64, .int .i64, .int .i64, .int .i64] X), .lst (.recs [.int .i64, .int .i64, .int .i64, .int .i64] P)], .agg [.v (.int .i64 m), .lst (.recs [.int .i64, .int .i64, .int .i64, .int .i64] Y), .lst (.recs [.int .i64, .int .i64, .int .i64, .int .i64] Q)]] => some ⟨decide (True), .tup [il (diP n m X P Y Q).1, il (diP n m X P Y Q).2, iv (fiE n m X P Y Q)], [], 0⟩
  | _ => none
theorem spPDif_ok : ZCtOk Try.prog 25 spPDif := fun γ w us ax r hs hc hax hN hfz => by
  unfold spPDif at hs; split at hs
  case h_2 => cases hs
  rename_i n X P m Y Q; obtain ⟨rfl⟩ := Option.some.inj hs; have hc_0 : decide (True) = true := hc; have hc := of_decide_eq_true hc_0; exact EndZ.calls (PDif.ends n m X P Y Q) ctPD_ok (by kernel_rfl) hax hN hfz
namespace PWor
end PWor
namespace RWor
end RWor
namespace LInt
noncomputable def RUN (s : ES) : ZF := RZ 52 .nil (atS 0 52 4) [] [[(0,none),(1,none),(5,none)]] false s

noncomputable def sS (a b : List Int) (i : Int) : NS := ⟨[⟨52, 26, [(0, (EV.lst (SyC.ints IntKind.i64 (a)))), (1, (EV.lst (SyC.ints IntKind.i64 (b)))), (5, iv i)], [.it (.code (nav [1, 1, 0, 1, 0, 0, 0] (bodyOf Try.f52))), .it (.code (nav [1, 1, 0, 1, 0, 0, 1] (bodyOf Try.f52))), .it (.inLoop (nav [1, 1, 0, 1, 0, 0] (bodyOf Try.f52))), .it (.inBlock 0), .it (.code (nav [1, 1, 1] (bodyOf Try.f52)))], [], Option.none⟩], [], 0⟩
theorem in_t (a b : List Int) : RUN (st0 52 [il a, il b]) = (bc (Int.ofNat (List.length a) != Int.ofNat (List.length b)) (.done (EV.v (Value.bool false)) [] 0) (.at (sS (a) (b) ((0 : Int))))) := by kernel_rfl
theorem step_t (a b : List Int) (i : Int) : RUN (stOf (sS a b i)) = (bc (decide (i < Int.ofNat (List.length a))) (bc (bc (bc (bc (bc (decide ((0 : Int) ≤ i)) (Nat.blt (Int.toNat i) (List.length a)) false) true false) (bc (bc (Nat.blt (Int.toNat i) (List.length a)) true false) (bc (bc (bc (decide ((0 : Int) ≤ i)) (Nat.blt (Int.toNat i) (List.length b)) false) true false) (bc (bc (Nat.blt (Int.toNat i) (List.length b)) true false) true false) false) false) false) true false) (bc (List.getD a (Int.toNat i) (0 : Int) != List.getD b (Int.toNat i) (0 : Int)) (.done (EV.v (Value.bool false)) [] 0) (.at (sS (a) (b) (IntKind.wrap IntKind.i64 (i + (1 : Int)))))) .bad) (.done (EV.v (Value.bool true)) [] 0)) := by kernel_rfl
theorem loop {a : List Int} (hl : a.length ≤ 100000) : ∀ (k i : Nat), i + k = a.length → EndZ 52 .nil false (stOf (sS a a i)) (bv true) [] 0
  | 0, i, h => by
    have hs := step_t a a i; simp (disch := omega) only [Nat.add_eq, eqSy_self, eqN_self, bc_same, List.length_cons, ofn, wrap_in, dt, df, bltD, bltN, ble_of, bleN, beqD, bc_t, bc_f, nn_ok, Nat.zero_add, to_nat, Int.zero_add, Int.sub_zero, Int.sub_self, Int.cast_ofNat_Int, Int.natCast_zero, Int.toNat_zero, List.take_zero, List.nil_append, List.length_append, List.length_nil] at hs; exact .done hs
  | k + 1, i, h => by
    have hs := step_t a a i; have e : (a.getD i 0 != a.getD i 0) = false := by simp
    simp (disch := omega) only [Nat.add_eq, eqSy_self, eqN_self, bc_same, List.length_cons, ofn, wrap_in, dt, df, bltD, bltN, ble_of, bleN, beqD, bc_t, bc_f, nn_ok, Nat.zero_add, to_nat, Int.zero_add, Int.sub_zero, Int.sub_self, Int.cast_ofNat_Int, Int.natCast_zero, Int.toNat_zero, List.take_zero, List.nil_append, List.length_append, List.length_nil, e] at hs; exact .at (.nil _) hs (loop hl k (i + 1) (by omega))
end LInt
noncomputable def spSI4 : ZCT := fun ax => match ax with
  | [.lst (.ints .i64 a), .lst (.ints .i64 b)] => some ⟨decide (a = b ∧ a.length ≤ 100000), bv true, [], 0⟩
  | _ => none
theorem spSI4_ok : ZCtOk Try.prog 52 spSI4 := fun γ w us ax r hs hc hax hN hfz => by
  unfold spSI4 at hs; split at hs
  case h_2 => cases hs
  rename_i a b; obtain ⟨rfl⟩ := Option.some.inj hs; have hc_0 : decide (a = b ∧ a.length ≤ 100000) = true := hc; have hc := of_decide_eq_true hc_0; exact EndZ.calls (by
    obtain ⟨rfl, hl⟩ := hc; have h := LInt.in_t a a; have e : (Int.ofNat a.length != Int.ofNat a.length) = false := by simp
    rw [e, bc_f] at h; exact .at (.nil _) h (LInt.loop hl a.length 0 (by omega))) (.nil _) (by kernel_rfl) hax hN hfz
end Go.Proofs.Ytjlfedhkpdogbaa.Ev
namespace Go.Proofs.Ytjlfedhkpdogbaa.Ev
open Go.Proofs
noncomputable def woP (n m : Int) (X P Y Q : List (List U)) : List Int × List Int := bc (fiE n m X P Y Q != 0) ([], []) (wrkF X (diP n m X P Y Q).1, wrkF Y (diP n m X P Y Q).2)
noncomputable def spPWor : ZCT := fun ax => match ax with
  | [.agg [.v (.int .i64 n), .lst (.recs [.int .i64, .int .i64, .int .i64, .int .i64] X), .lst (.recs [.int .i64, .int .i64, .int .i64, .int .i64] P)], .agg [.v (.int .i64 m), .lst (.recs [.int .i64, .int .i64, .int .i64, .int .i64] Y), .lst (.recs [.int .i64, .int .i64, .int .i64, .int .i64] Q)]] => some ⟨decide (True), .tup [il (woP n m X P Y Q).1, il (woP n m X P Y Q).2, iv (fiE n m X P Y Q)], [], 0⟩
  | _ => none
noncomputable def ctIn : Tr ZCC := Tr.nil.put 52 (some (dC spSI4))
theorem ctIn_ok : ZCtsOk Try.prog ctIn := (ZCtsOk.nil _).add rfl spSI4_ok
namespace LIns
noncomputable def RUN (s : ES) : ZF := RZ 27 ctIn (fun _ => false) [] [] false s
theorem in_t (a b : List Int) : RUN (st0 27 [il a, il b]) = (bc (bc (decide (a = b ∧ List.length a ≤ (100000 : Nat))) true false) (.done (EV.v (Value.bool true)) [] 0) .bad) := by kernel_rfl
end LIns
noncomputable def spIns : ZCT := fun ax => match ax with
  | [.lst (.ints .i64 a), .lst (.ints .i64 b)] => some ⟨decide (a = b ∧ a.length ≤ 100000), bv true, [], 0⟩
  | _ => none
theorem spIns_ok : ZCtOk Try.prog 27 spIns := fun γ w us ax r hs hc hax hN hfz => by
  unfold spIns at hs; split at hs
  case h_2 => cases hs
  rename_i a b; obtain ⟨rfl⟩ := Option.some.inj hs; have hc_0 : decide (a = b ∧ a.length ≤ 100000) = true := hc; have hc := of_decide_eq_true hc_0; exact EndZ.calls (by
    have h := LIns.in_t a b; rw [dt hc] at h; exact .done h) ctIn_ok (by kernel_rfl) hax hN hfz
namespace ACmC
end ACmC
end Go.Proofs.Ytjlfedhkpdogbaa.Ev
namespace Go.Proofs.Ytjlfedhkpdogbaa.Ev

theorem sameF_all {X Y : List (List U)} (h : ∀ t, hiF t Y = hiF t X) : ∀ (k t : Nat), sameF X Y t k = true
  | 0, _ => rfl
  | k + 1, t => by
    unfold sameF; rw [h, meB_refl, bc_t]; exact sameF_all h k (t + 1)
theorem sameF_no {X Y : List (List U)} : ∀ (k t s : Nat), t ≤ s → s < t + k → meB (hiF s X) (hiF s Y) = false → sameF X Y t k = false
  | 0, t, s, h1, h2, _ => by omega
  | k + 1, t, s, h1, h2, h => by
    unfold sameF
    by_cases e : t = s
    · subst e; rw [h]; rfl
    · rw [sameF_no k (t + 1) s (by omega) (by omega) h]; cases meB (hiF t X) (hiF t Y) <;> rfl

end Go.Proofs.Ytjlfedhkpdogbaa.Ev
namespace Go.Proofs.Ytjlfedhkpdogbaa.Ev
theorem paF_ext {x : List U} {R : List (List U)} : ∀ (L : List (List U)) (i : Nat), paF i (L ++ x :: R) L = (((i + L.length : Nat) : Int), 3, true)
  | [], i => rfl
  | e :: L, i => by
    show paF i (e :: (L ++ x :: R)) (e :: L) = _; unfold paF; rw [show (mT e != mT e) = false by simp, bc_f, show (mV e != mV e) = false by simp, bc_f, paF_ext L (i + 1)]; rw [List.length_cons, show i + 1 + L.length = i + (L.length + 1) by omega]
theorem hi_split (t : Int) (X : List (List U)) (k : Nat) : hiF t X = hiF t (X.take k) ++ hiF t (X.drop k) := by
  rw [← hiF_app, List.take_append_drop]

noncomputable def brF (X : List (List U)) (k : Nat) : Nat → Nat → List (List U)
  | _, 0 => []
  | t, m + 1 => bc (Nat.beq (hiF t (X.drop k)).length 0) [] [[.i t, .i (hiF t (X.take k)).length, .i 3]] ++ brF X k (t + 1) m
theorem fiF_br (X : List (List U)) (k : Nat) : ∀ (m t : Nat), fiF X (X.take k) t m = brF X k t m
  | 0, _ => rfl
  | m + 1, t => by
    unfold fiF brF; rw [fiF_br X k m (t + 1), hi_split t X k]; congr 1
    cases h : hiF t (X.drop k) with
    | nil =>
      rw [List.append_nil]; have e : (paF 0 (hiF t (X.take k)) (hiF t (X.take k))).2.2 = false := by rw [paF_meB, meB_refl]; rfl
      rw [e]; rfl
    | cons x R =>
      rw [paF_ext]; show bc true [[U.i (t : Int), U.i ((0 + (hiF t (X.take k)).length : Nat) : Int), U.i 3]] [] = _; rw [Nat.zero_add]; rfl
theorem hi_pos {t : Int} {r : List U} {q : List (List U)} (h : onB t r = true) (h2 : xO r ≠ xU r) : 0 < (hiF t (r :: q)).length := by
  rw [hiF_cons, List.length_append, ctR_on h2, h, bc_t]; omega
theorem same_br {X : List (List U)} (hX : Two X) {n : Nat} (tx : thrs n X) {k : Nat} (hk : k ≤ X.length) : sameF X (X.take k) 0 n = Nat.beq k X.length := by
  by_cases e : k = X.length
  · subst e; rw [List.take_length, Nat.beq_refl]; exact sameF_all (fun _ => rfl) n 0
  · have e2 : Nat.beq k X.length = false := by
      cases h : Nat.beq k X.length with
      | false => rfl
      | true => exact absurd (Nat.eq_of_beq_eq_true h) e
    rw [e2]; have hk2 : k < X.length := by omega
    obtain ⟨o1, o2, _, _⟩ := tx _ (List.getElem_mem hk2); obtain ⟨o, ho⟩ := Int.eq_ofNat_of_zero_le o1; refine sameF_no n 0 o (Nat.zero_le _) (by omega) ?_; apply meB_len; rw [hi_split o X k, List.length_append, List.drop_eq_getElem_cons hk2]; have := hi_pos (q := X.drop (k + 1)) (onB_of.2 (.inl ho)) (hX _ (List.getElem_mem hk2)); omega
theorem chk_take {n : Nat} {X P : List (List U)} (h : chk17 n X P = 0) (k : Nat) : chk17 n (X.take k) P = 0 := by
  obtain ⟨c1, c2, c3, c4, c5, c6, c7⟩ := chk17_ok h; have he := chk17_en h; rw [← List.take_append_drop k X] at he; have he2 := ((enF_app _ _).1 he).1; have ho : (X.take k).all (okX n) = true := by
    rw [List.all_eq_true]; exact fun r hr => List.all_eq_true.1 c6 r (List.mem_of_mem_take hr)
  have hl : (X.take k).length ≤ X.length := by rw [List.length_take]; omega
  unfold chk17 numB; rw [ho, c7, df (show ¬ 48 < (n : Int) by omega), df (show ¬ 20000 < ((X.take k).length : Int) by omega), df (show ¬ 6400 < (P.length : Int) by omega), dt c1, bc_f, bc_f, bc_f, bc_t, bc_t, bc_t]; rw [show ((n : Int)).toNat = n from rfl, he2]; rfl
theorem thrs.take {n : Int} {X : List (List U)} (h : thrs n X) (k : Nat) : thrs n (X.take k) := fun r hr => h r (List.mem_of_mem_take hr)

theorem comF_take {n : Nat} {X : List (List U)} {k : Nat} (hX : Two X) (tx : thrs n X) (hk : k ≤ X.length) : ∀ (m i : Nat) (D : List Int), i + m = k → D.length = n → (∀ t : Nat, t < n → D.getD t 0 = (hiF t (X.take i)).length) → ∃ D' : List Int, D'.length = n ∧ (∀ t : Nat, t < n → D'.getD t 0 = (hiF t (X.take k)).length) ∧ comF (X.take k) (rowsT (thF (X.take k) 0 (th0 n))) (X.drop i) i D = ((List.range' i m).map (fun k : Nat => (k : Int)) ++ (comF (X.take k) (rowsT (thF (X.take k) 0 (th0 n))) (X.drop k) k D').1, (List.range' i m).map (fun k : Nat => (k : Int)) ++ (comF (X.take k) (rowsT (thF (X.take k) 0 (th0 n))) (X.drop k) k D').2)
  | 0, i, D, h, hD, hc => by
    have e : i = k := by omega
    subst e; exact ⟨D, hD, hc, rfl⟩
  | m + 1, i, D, h, hD, hc => by
    have hi : i < X.length := by omega
    have hi2 : i < (X.take k).length := by rw [List.length_take]; omega
    have hY := hX.take k; have ty := tx.take k; obtain ⟨o1, o2, u1, u2⟩ := tx _ (List.getElem_mem hi); have hne := hX _ (List.getElem_mem hi); have eY : (X.take k).getD i [] = X[i] := by rw [getD_at hi2, List.getElem_take]
    have st : ∀ t, (hiF t (X.take (i + 1))).length = _ := fun t => hiF_step t hi; have hs : ∀ t : Int, ctR t (X.getD i []) = ctR t X[i] := fun t => by rw [getD_at hi]
    have tt : (X.take k).take i = X.take i := by rw [List.take_take, Nat.min_eq_left (by omega)]
    rw [List.drop_eq_getElem_cons hi, List.range'_succ]; generalize hr : X[i] = r at *; obtain ⟨o, ho⟩ := Int.eq_ofNat_of_zero_le o1; obtain ⟨u, hu⟩ := Int.eq_ofNat_of_zero_le u1; have po := at_pos (t := (o : Int)) hY hi2 (onB_of.2 (.inl (by rw [eY]; exact ho))); have pu := at_pos (t := (u : Int)) hY hi2 (onB_of.2 (.inr (by rw [eY]; exact hu))); rw [tt] at po pu; have co := hc o (by omega); have cu := hc u (by omega); have no : nxtF D (rowsT (thF (X.take k) 0 (th0 n))) (xO r) = i := by
      rw [ho, nxtF_at ty (by omega), co, dt (by omega), bc_t, dt (by rw [atF_hi]; omega), bc_t]; exact po.2
    have nu : nxtF D (rowsT (thF (X.take k) 0 (th0 n))) (xU r) = i := by
      rw [hu, nxtF_at ty (by omega), cu, dt (by omega), bc_t, dt (by rw [atF_hi]; omega), bc_t]; exact pu.2
    have hB : comB (X.take k) (rowsT (thF (X.take k) 0 (th0 n))) D r = true := by
      unfold comB; rw [no, nu, df (by omega), bc_f]; rw [show ((i : Int) != (i : Int)) = false by simp, bc_f]; rw [show ((i : Int)).toNat = i from rfl, eY]
      rw [show (xO r != xO r) = false by simp]; rfl
    obtain ⟨D', d1, d2, d3⟩ := comF_take hX tx hk m (i + 1) (stepD true D r) (by omega) (by rw [stepD_len]; exact hD) (fun t ht => by
      unfold stepD; rw [bc_t, incD_get (by rw [incD_len]; omega), incD_get (by omega), hc t ht, st t, hs t]
      by_cases e1 : xO r = (t : Int)
      · have e2 : xU r ≠ (t : Int) := fun e => hne (e1.trans e.symm); rw [ctR_O e1 e2, if_pos (by omega), if_neg (by omega)]; simp
      · by_cases e2 : xU r = (t : Int)
        · rw [ctR_U e1 e2, if_neg (by omega), if_pos (by omega)]; simp
        · rw [ctR_no e1 e2, if_neg (by omega), if_neg (by omega)]; simp)
    refine ⟨D', d1, d2, ?_⟩
    have eu : comF (X.take k) (rowsT (thF (X.take k) 0 (th0 n))) (r :: X.drop (i + 1)) i D = bc (comB (X.take k) (rowsT (thF (X.take k) 0 (th0 n))) D r) ((i : Int) :: (comF (X.take k) (rowsT (thF (X.take k) 0 (th0 n))) (X.drop (i + 1)) (i + 1) (stepD (comB (X.take k) (rowsT (thF (X.take k) 0 (th0 n))) D r) D r)).1, nxtF D (rowsT (thF (X.take k) 0 (th0 n))) (xO r) :: (comF (X.take k) (rowsT (thF (X.take k) 0 (th0 n))) (X.drop (i + 1)) (i + 1) (stepD (comB (X.take k) (rowsT (thF (X.take k) 0 (th0 n))) D r) D r)).2) (comF (X.take k) (rowsT (thF (X.take k) 0 (th0 n))) (X.drop (i + 1)) (i + 1) (stepD (comB (X.take k) (rowsT (thF (X.take k) 0 (th0 n))) D r) D r)) := rfl
    rw [eu, hB, no, bc_t, d3]; rfl

theorem comF_none {n : Nat} {Y : List (List U)} (ty : thrs n Y) : ∀ (q : List (List U)) (i : Nat) (D : List Int), thrs n q → D.length = n → (∀ t : Nat, t < n → D.getD t 0 < 0 ∨ (hiF t Y).length ≤ D.getD t 0) → comF Y (rowsT (thF Y 0 (th0 n))) q i D = ([], [])
  | [], _, _, _, _, _ => rfl
  | r :: q, i, D, tq, hD, hc => by
    obtain ⟨o1, o2, u1, u2⟩ := tq r List.mem_cons_self; obtain ⟨o, ho⟩ := Int.eq_ofNat_of_zero_le o1; obtain ⟨u, hu⟩ := Int.eq_ofNat_of_zero_le u1; have no : nxtF D (rowsT (thF Y 0 (th0 n))) (xO r) = -1 := by
      rw [ho, nxtF_at ty (by omega)]; rcases hc o (by omega) with h | h
      · rw [df (by omega), bc_f]
      · rw [dt (by omega), bc_t, df (by rw [atF_hi]; omega), bc_f]
    have hB : comB Y (rowsT (thF Y 0 (th0 n))) D r = false := by
      unfold comB; rw [no, dt (by omega), bc_t]
    have eu : comF Y (rowsT (thF Y 0 (th0 n))) (r :: q) i D = bc (comB Y (rowsT (thF Y 0 (th0 n))) D r) ((i : Int) :: (comF Y (rowsT (thF Y 0 (th0 n))) q (i + 1) (stepD (comB Y (rowsT (thF Y 0 (th0 n))) D r) D r)).1, nxtF D (rowsT (thF Y 0 (th0 n))) (xO r) :: (comF Y (rowsT (thF Y 0 (th0 n))) q (i + 1) (stepD (comB Y (rowsT (thF Y 0 (th0 n))) D r) D r)).2) (comF Y (rowsT (thF Y 0 (th0 n))) q (i + 1) (stepD (comB Y (rowsT (thF Y 0 (th0 n))) D r) D r)) := rfl; rw [eu, hB, bc_f]
    refine comF_none ty q (i + 1) _ (fun r' h' => tq r' (List.mem_cons_of_mem _ h')) (by rw [stepD_len]; exact hD) fun t ht => ?_; unfold stepD; rw [bc_f, List.getD_eq_getElem?_getD, List.getElem?_set]
    by_cases e2 : (xU r).toNat = t
    · rw [if_pos e2, if_pos (by rw [List.length_set]; omega)]; exact .inl (by show (-1 : Int) < 0; omega)
    · rw [if_neg e2, List.getElem?_set]
      by_cases e1 : (xO r).toNat = t
      · rw [if_pos e1, if_pos (by omega)]; exact .inl (by show (-1 : Int) < 0; omega)
      · rw [if_neg e1, ← List.getD_eq_getElem?_getD]; exact hc t ht
theorem coP_take {n : Nat} {X P : List (List U)} {k : Nat} (h : chk17 n X P = 0) (hk : k ≤ X.length) : fiE n n X P (X.take k) P = 0 ∧ botE n n X P (X.take k) P = 0 ∧ samB n n X P (X.take k) P = Nat.beq k X.length ∧ fiL n n X P (X.take k) P = brF X k 0 n ∧ coP n n X P (X.take k) P = ((List.range' 0 k).map (fun k : Nat => (k : Int)), (List.range' 0 k).map (fun k : Nat => (k : Int))) := by
  have h2 := chk_take h k; have b1 : (chk17 n X P != 0) = false := by simp [h]
  have b2 : (chk17 n (X.take k) P != 0) = false := by simp [h2]
  have b3 : ((n : Int) != (n : Int)) = false := by simp
  have e1 : fiE n n X P (X.take k) P = 0 := by unfold fiE; rw [b1, b2, b3]; rfl
  have e2 : botE n n X P (X.take k) P = 0 := by unfold botE; rw [b1, h2]; rfl
  obtain ⟨c1, c2, c3, c4, c5, _⟩ := chk17_ok h; refine ⟨e1, e2, ?_, ?_, ?_⟩
  · unfold samB; rw [e2, b3]; exact same_br (chk17_two h) c5 hk
  · unfold fiL; rw [e1]; exact fiF_br X k n 0
  · unfold coP; rw [e1]; have hz : (zerosL n).length = n := by unfold zerosL; simp
    obtain ⟨D', d1, d2, d3⟩ := comF_take (chk17_two h) c5 hk k 0 (zerosL n) (by omega) hz (fun t ht => by
      unfold zerosL; rw [List.getD_eq_getElem?_getD, List.getElem?_replicate, if_pos ht]; rfl)
    rw [comF_none (c5.take k) (X.drop k) k D' (fun r hr => c5 r (List.mem_of_mem_drop hr)) d1 (fun t ht => .inr (by rw [d2 t ht]; exact Int.le_refl _)), List.append_nil] at d3; exact d3
end Go.Proofs.Ytjlfedhkpdogbaa.Ev
namespace Go.Proofs.Ytjlfedhkpdogbaa.Ev
open Go.Proofs
namespace PHis
noncomputable def RUN (s : ES) : ZF := RZ 14 ctPF (fun _ => false) [] [] false s
theorem in_t (n t : Int) (X P : List (List U)) : RUN (st0 14 [clE n X P, iv t]) = (bc (chk17 n X P != (0 : Int)) (.done (EV.tup [(EV.v (Value.slice Option.none 0 0)), (EV.v (Value.int IntKind.i64 (chk17 n X P)))]) [] 0) (bc (decide (t < (0 : Int))) (.done (EV.tup [(EV.v (Value.slice Option.none 0 0)), (EV.v (Value.int IntKind.i64 (2)))]) [] 0) (bc (decide (n ≤ t)) (.done (EV.tup [(EV.v (Value.slice Option.none 0 0)), (EV.v (Value.int IntKind.i64 (2)))]) [] 0) (bc (decide ((0 : Int) ≤ n ∧ n ≤ (48 : Int) ∧ List.length X ≤ (20000 : Nat) ∧ thrs n X)) (bc (bc (bc (decide ((0 : Int) ≤ t)) (Nat.blt (Int.toNat t) (List.length (rowsT (thF X (0 : Nat) (th0 (Int.toNat n)))))) false) true false) (bc (bc (Nat.blt (Int.toNat t) (List.length (rowsT (thF X (0 : Nat) (th0 (Int.toNat n)))))) true false) (.done (EV.tup [(EV.lst (SyC.recs [(Sh.int IntKind.i64), Sh.bool] (U.list (List.getD (List.getD (rowsT (thF X (0 : Nat) (th0 (Int.toNat n)))) (Int.toNat t) []) (Nat.add (0 : Nat) (0 : Nat)) (U.i (0 : Int)))))), (EV.v (Value.int IntKind.i64 (0)))]) [] 0) .bad) .bad) .bad)))) := by kernel_rfl
theorem ends (n t : Int) (X P : List (List U)) : EndZ 14 ctPF false (st0 14 [clE n X P, iv t]) (.tup [ml (hisL n t X P), iv (hisE n t X P)]) [] 0 := by
  have h := in_t n t X P; have err : ∀ e : Int, hisE n t X P = e → e ≠ 0 → Weak (.tup [.v (.slice none 0 0), iv e]) (.tup [ml (hisL n t X P), iv (hisE n t X P)]) := fun e he h0 => by
    unfold hisL; rw [he, show (e != 0) = true by simp [h0], bc_t]; exact Weak.tup (.cons (Weak.nil _) (.cons (Weak.refl _) .nil))
  by_cases z1 : chk17 n X P = 0
  · have b1 : (chk17 n X P != 0) = false := by simp [z1]
    rw [b1, bc_f] at h
    by_cases z2 : t < 0
    · rw [dt z2, bc_t] at h; exact (EndZ.done h).weak (err 2 (by unfold hisE; rw [b1, dt z2]; rfl) (by decide))
    · rw [df z2, bc_f] at h
      by_cases z3 : n ≤ t
      · rw [dt z3, bc_t] at h; exact (EndZ.done h).weak (err 2 (by unfold hisE; rw [b1, df z2, dt z3]; rfl) (by decide))
      · rw [df z3, bc_f] at h; obtain ⟨c1, c2, c3, c4, c5, _⟩ := chk17_ok z1; obtain ⟨n, rfl⟩ := Int.eq_ofNat_of_zero_le (show 0 ≤ n by omega); obtain ⟨t, rfl⟩ := Int.eq_ofNat_of_zero_le (show 0 ≤ t by omega); have hE : hisE n t X P = 0 := by unfold hisE; rw [b1, df z2, df z3]; rfl
        have hr : U.list (List.getD (List.getD (rowsT (thF X 0 (th0 n))) t []) (Nat.add 0 0) (U.i 0)) = hiF t X := rowsH c5 (by omega); rw [dt (show (0 : Int) ≤ n ∧ (n : Int) ≤ 48 ∧ X.length ≤ 20000 ∧ thrs n X from ⟨by omega, by omega, by omega, c5⟩), bc_t] at h
        rw [to_nat, to_nat, hr, rowsH_len] at h; unfold hisL; rw [hE]; simp (disch := omega) only [Nat.add_eq, eqSy_self, eqN_self, bc_same, List.length_cons, ofn, wrap_in, dt, df, bltD, bltN, ble_of, bleN, beqD, bc_t, bc_f, nn_ok, Nat.zero_add, to_nat, Int.zero_add, Int.sub_zero, Int.sub_self, Int.cast_ofNat_Int, Int.natCast_zero, Int.toNat_zero, List.take_zero, List.nil_append, List.length_append, List.length_nil] at h; exact .done h
  · have b1 : (chk17 n X P != 0) = true := by simp [z1]
    rw [b1, bc_t] at h; exact (EndZ.done h).weak (err _ (by unfold hisE; rw [b1]; rfl) z1)
end PHis
noncomputable def spPHis : ZCT := fun ax => match ax with
  | [.agg [.v (.int .i64 n), .lst (.recs [.int .i64, .int .i64, .int .i64, .int .i64] X), .lst (.recs [.int .i64, .int .i64, .int .i64, .int .i64] P)], .v (.int .i64 t)] => some ⟨decide (True), .tup [ml (hisL n t X P), iv (hisE n t X P)], [], 0⟩
  | _ => none
theorem spPHis_ok : ZCtOk Try.prog 14 spPHis := fun γ w us ax r hs hc hax hN hfz => by
  unfold spPHis at hs; split at hs
  case h_2 => cases hs
  rename_i n X P t; obtain ⟨rfl⟩ := Option.some.inj hs; have hc_0 : decide (True) = true := hc; have hc := of_decide_eq_true hc_0; exact EndZ.calls (PHis.ends n t X P) ctPF_ok (by kernel_rfl) hax hN hfz
namespace RHi2
end RHi2
namespace RBot
end RBot
namespace PMEq
noncomputable def RUN (s : ES) : ZF := RZ 43 .nil (atS 0 43 4) [] [[(0,none),(1,none),(12,none),(13,none)]] false s

noncomputable def sS (a b : List (List U)) (z i : Int) : NS := ⟨[⟨43, 26, [(0, (EV.lst (SyC.recs [(Sh.int IntKind.i64), Sh.bool] (a)))), (1, (EV.lst (SyC.recs [(Sh.int IntKind.i64), Sh.bool] (b)))), (12, iv z), (13, iv i)], [.it (.code (nav [1, 1, 0, 1, 0, 0] (bodyOf Try.f43))), .it (.inLoop (nav [1, 1, 0, 1, 0, 0] (bodyOf Try.f43))), .it (.inBlock 0), .it (.code (nav [1, 1, 1] (bodyOf Try.f43)))], [], Option.none⟩], [], 0⟩
theorem in_t (a b : List (List U)) : RUN (st0 43 [ml a, ml b]) = (bc (Int.ofNat (List.length a) != Int.ofNat (List.length b)) (.done (EV.v (Value.bool false)) [] 0) (.at (sS (a) (b) (Int.ofNat (List.length a)) ((0 : Int))))) := by kernel_rfl
theorem step_t (a b : List (List U)) (z i : Int) : RUN (stOf (sS a b z i)) = (bc (decide (i < z)) (bc (bc (bc (bc (bc (decide ((0 : Int) ≤ i)) (Nat.blt (Int.toNat i) (List.length a)) false) true false) (bc (bc (Nat.blt (Int.toNat i) (List.length a)) true false) (bc (bc (bc (decide ((0 : Int) ≤ i)) (Nat.blt (Int.toNat i) (List.length b)) false) true false) (bc (bc (Nat.blt (Int.toNat i) (List.length b)) true false) true false) false) false) false) true false) (bc (bnot (bc (U.int (List.getD (List.getD a (Int.toNat i) []) (0 : Nat) (U.i (0 : Int))) == U.int (List.getD (List.getD b (Int.toNat i) []) (0 : Nat) (U.i (0 : Int)))) (bc (U.bool (List.getD (List.getD a (Int.toNat i) []) (Nat.succ (0 : Nat)) (U.i (0 : Int))) == U.bool (List.getD (List.getD b (Int.toNat i) []) (Nat.succ (0 : Nat)) (U.i (0 : Int)))) true false) false)) (.done (EV.v (Value.bool false)) [] 0) (.at (sS (a) (b) (z) (IntKind.wrap IntKind.i64 (i + (1 : Int)))))) .bad) (.done (EV.v (Value.bool true)) [] 0)) := by kernel_rfl
theorem loop {a b : List (List U)} (hl : a.length ≤ 100000) (hb : b.length = a.length) : ∀ (k i : Nat), i + k = a.length → EndZ 43 .nil false (stOf (sS a b a.length i)) (bv (meB (a.drop i) (b.drop i))) [] 0
  | 0, i, h => by
    have hs := step_t a b a.length i; rw [List.drop_eq_nil_of_le (show a.length ≤ i by omega), List.drop_eq_nil_of_le (show b.length ≤ i by omega)]; simp (disch := omega) only [Nat.add_eq, eqSy_self, eqN_self, bc_same, List.length_cons, ofn, wrap_in, dt, df, bltD, bltN, ble_of, bleN, beqD, bc_t, bc_f, nn_ok, Nat.zero_add, to_nat, Int.zero_add, Int.sub_zero, Int.sub_self, Int.cast_ofNat_Int, Int.natCast_zero, Int.toNat_zero, List.take_zero, List.nil_append, List.length_append, List.length_nil] at hs; exact .done hs
  | k + 1, i, h => by
    have hs := step_t a b a.length i; have h2 : i < a.length := by omega
    have h3 : i < b.length := by omega
    have e1 : a.getD i [] = a[i] := getD_at h2; have e2 : b.getD i [] = b[i] := getD_at h3; rw [to_nat, e1, e2] at hs; have f1 : U.int (List.getD a[i] 0 (U.i 0)) = mT a[i] := rfl; have f2 : U.int (List.getD b[i] 0 (U.i 0)) = mT b[i] := rfl; have f3 : U.bool (List.getD a[i] (Nat.succ 0) (U.i 0)) = mV a[i] := rfl; have f4 : U.bool (List.getD b[i] (Nat.succ 0) (U.i 0)) = mV b[i] := rfl; rw [f1, f2, f3, f4] at hs
    simp (disch := omega) only [Nat.add_eq, eqSy_self, eqN_self, bc_same, List.length_cons, ofn, wrap_in, dt, df, bltD, bltN, ble_of, bleN, beqD, bc_t, bc_f, nn_ok, Nat.zero_add, to_nat, Int.zero_add, Int.sub_zero, Int.sub_self, Int.cast_ofNat_Int, Int.natCast_zero, Int.toNat_zero, List.take_zero, List.nil_append, List.length_append, List.length_nil] at hs; rw [List.drop_eq_getElem_cons h2, List.drop_eq_getElem_cons h3]; unfold meB; cases g1 : (mT a[i] == mT b[i]) <;> rw [g1] at hs
    · exact .done hs
    · cases g2 : (mV a[i] == mV b[i]) <;> rw [g2] at hs
      · exact .done hs
      · exact .at (.nil _) hs (loop hl hb k (i + 1) (by omega))
end PMEq
noncomputable def spMEq : ZCT := fun ax => match ax with
  | [.lst (.recs [.int .i64, .bool] a), .lst (.recs [.int .i64, .bool] b)] => some ⟨decide (a.length ≤ 100000), bv (meB a b), [], 0⟩
  | _ => none
theorem spMEq_ok : ZCtOk Try.prog 43 spMEq := fun γ w us ax r hs hc hax hN hfz => by
  unfold spMEq at hs; split at hs
  case h_2 => cases hs
  rename_i a b; obtain ⟨rfl⟩ := Option.some.inj hs; have hc_0 : decide (a.length ≤ 100000) = true := hc; have hc := of_decide_eq_true hc_0; exact EndZ.calls (by
    have h := PMEq.in_t a b
    by_cases h1 : b.length = a.length
    · have e : (Int.ofNat a.length != Int.ofNat b.length) = false := by simp [h1]
      rw [e, bc_f] at h; exact .at (.nil _) h (PMEq.loop hc h1 a.length 0 (by omega))
    · have e : (Int.ofNat a.length != Int.ofNat b.length) = true := by simp; omega
      rw [e, bc_t] at h; show EndZ _ _ _ _ (bv (meB a b)) _ _; rw [meB_len (fun e => h1 e.symm)]; exact .done h) (.nil _) (by kernel_rfl) hax hN hfz
end Go.Proofs.Ytjlfedhkpdogbaa.Ev
namespace Go.Proofs.Ytjlfedhkpdogbaa.Ev
open Go.Proofs
noncomputable def ctEq : Tr ZCC := Tr.nil.put 43 (some (dC spMEq))
theorem ctEq_ok : ZCtsOk Try.prog ctEq := (ZCtsOk.nil _).add rfl spMEq_ok
namespace PEqT
noncomputable def RUN (s : ES) : ZF := RZ 41 ctEq (atS 0 41 4) [] [[(0,none),(1,none),(2,none),(15,none),(16,none),(17,none)]] false s

noncomputable def sS (R S : List (List U)) (z i : Int) : NS := ⟨[⟨41, 32, [(0, (EV.lst (SyC.recs [(Sh.list [(Sh.int IntKind.i64), Sh.bool]), (Sh.list [(Sh.int IntKind.i64)])] (R)))), (1, (EV.lst (SyC.recs [(Sh.list [(Sh.int IntKind.i64), Sh.bool]), (Sh.list [(Sh.int IntKind.i64)])] (S)))), (2, (EV.fn 42 [])), (15, (EV.lst (SyC.recs [(Sh.list [(Sh.int IntKind.i64), Sh.bool]), (Sh.list [(Sh.int IntKind.i64)])] (R)))), (16, iv z), (17, iv i)], [.it (.code (nav [1, 1, 0, 1, 0, 0] (bodyOf Try.f41))), .it (.inLoop (nav [1, 1, 0, 1, 0, 0] (bodyOf Try.f41))), .it (.inBlock 0), .it (.code (nav [1, 1, 1] (bodyOf Try.f41)))], [], Option.none⟩], [], 0⟩
theorem in_t (R S : List (List U)) : RUN (st0 41 [EV.lst (.recs shT R), EV.lst (.recs shT S), EV.fn 42 []]) = (bc (Int.ofNat (List.length R) != Int.ofNat (List.length S)) (.done (EV.v (Value.bool false)) [] 0) (.at (sS (R) (S) (Int.ofNat (List.length R)) ((0 : Int))))) := by kernel_rfl
theorem step_t (R S : List (List U)) (z i : Int) : RUN (stOf (sS R S z i)) = (bc (decide (i < z)) (bc (bc (bc (decide ((0 : Int) ≤ i)) (Nat.blt (Int.toNat i) (List.length R)) false) true false) (bc (bc (Nat.blt (Int.toNat i) (List.length R)) true false) (bc (bc (bc (decide ((0 : Int) ≤ i)) (Nat.blt (Int.toNat i) (List.length S)) false) true false) (bc (bc (Nat.blt (Int.toNat i) (List.length S)) true false) (bc (bc (decide (List.length (U.list (List.getD (List.getD R (Int.toNat i) []) (0 : Nat) (U.i (0 : Int)))) ≤ (100000 : Nat))) true false) (bc (!meB (U.list (List.getD (List.getD R (Int.toNat i) []) (0 : Nat) (U.i (0 : Int)))) (U.list (List.getD (List.getD S (Int.toNat i) []) (0 : Nat) (U.i (0 : Int))))) (.done (EV.v (Value.bool false)) [] 0) (.at (sS (R) (S) (z) (IntKind.wrap IntKind.i64 (i + (1 : Int)))))) .bad) .bad) .bad) .bad) .bad) (.done (EV.v (Value.bool true)) [] 0)) := by kernel_rfl
theorem loop {R S : List (List U)} (hl : R.length ≤ 100) (hb : S.length = R.length) (hR : ∀ j : Nat, (rM (R.getD j [])).length ≤ 100000) : ∀ (k i : Nat), i + k = R.length → EndZ 41 ctEq false (stOf (sS R S R.length i)) (bv (eqTB (R.drop i) (S.drop i))) [] 0
  | 0, i, h => by
    have hs := step_t R S R.length i; rw [List.drop_eq_nil_of_le (show R.length ≤ i by omega), List.drop_eq_nil_of_le (show S.length ≤ i by omega)]; simp (disch := omega) only [Nat.add_eq, eqSy_self, eqN_self, bc_same, List.length_cons, ofn, wrap_in, dt, df, bltD, bltN, ble_of, bleN, beqD, bc_t, bc_f, nn_ok, Nat.zero_add, to_nat, Int.zero_add, Int.sub_zero, Int.sub_self, Int.cast_ofNat_Int, Int.natCast_zero, Int.toNat_zero, List.take_zero, List.nil_append, List.length_append, List.length_nil] at hs; exact .done hs
  | k + 1, i, h => by
    have hs := step_t R S R.length i; have h2 : i < R.length := by omega
    have h3 : i < S.length := by omega
    have hr := hR i; have e1 : R.getD i [] = R[i] := getD_at h2; have e2 : S.getD i [] = S[i] := getD_at h3; rw [e1] at hr; rw [to_nat, e1, e2] at hs; have f1 : U.list (List.getD R[i] 0 (U.i 0)) = rM R[i] := rfl; have f2 : U.list (List.getD S[i] 0 (U.i 0)) = rM S[i] := rfl; rw [f1, f2, dt hr] at hs
    simp (disch := omega) only [Nat.add_eq, eqSy_self, eqN_self, bc_same, List.length_cons, ofn, wrap_in, dt, df, bltD, bltN, ble_of, bleN, beqD, bc_t, bc_f, nn_ok, Nat.zero_add, to_nat, Int.zero_add, Int.sub_zero, Int.sub_self, Int.cast_ofNat_Int, Int.natCast_zero, Int.toNat_zero, List.take_zero, List.nil_append, List.length_append, List.length_nil] at hs; rw [List.drop_eq_getElem_cons h2, List.drop_eq_getElem_cons h3]; unfold eqTB; cases g1 : meB (rM R[i]) (rM S[i]) <;> rw [g1] at hs
    · exact .done hs
    · exact .at ctEq_ok hs (loop hl hb hR k (i + 1) (by omega))
end PEqT
noncomputable def spEqT : ZCT := fun ax => match ax with
  | [.lst (.recs [.list [.int .i64, .bool], .list [.int .i64]] R), .lst (.recs [.list [.int .i64, .bool], .list [.int .i64]] S), .fn v_0 []] => some ⟨bc (Nat.beq v_0 (42)) (decide (R.length ≤ 100 ∧ hisS R)) false, bv (eqTB R S), [], 0⟩
  | _ => none
theorem spEqT_ok : ZCtOk Try.prog 41 spEqT := fun γ w us ax r hs hc hax hN hfz => by
  unfold spEqT at hs; split at hs
  case h_2 => cases hs
  rename_i R S v_0; obtain ⟨rfl⟩ := Option.some.inj hs; have hc_0 : bc (Nat.beq v_0 (42)) (decide (R.length ≤ 100 ∧ hisS R)) false = true := hc; obtain ⟨q_0, hc_1⟩ := bcT hc_0; have p_0 := (Nat.eq_of_beq_eq_true q_0).symm; subst p_0; have hc := of_decide_eq_true hc_1; exact EndZ.calls (by
    have h := PEqT.in_t R S
    by_cases h1 : S.length = R.length
    · have e : (Int.ofNat R.length != Int.ofNat S.length) = false := by simp [h1]
      rw [e, bc_f] at h; exact .at ctEq_ok h (PEqT.loop hc.1 h1 hc.2 R.length 0 (by omega))
    · have e : (Int.ofNat R.length != Int.ofNat S.length) = true := by simp; omega
      rw [e, bc_t] at h; show EndZ _ _ _ _ (bv (eqTB R S)) _ _; rw [eqTB_len (fun e => h1 e.symm)]; exact .done h) ctEq_ok (by kernel_rfl) hax hN hfz
noncomputable def ctPS : Tr ZCC := ((Tr.nil.put 39 (some (dC spPCk17))).put 35 (some (dC spThr))).put 41 (some (dC spEqT))
theorem ctPS_ok : ZCtsOk Try.prog ctPS := (((ZCtsOk.nil _).add rfl spPCk17_ok).add rfl spThr_ok).add rfl spEqT_ok
namespace PSam
noncomputable def RUN (s : ES) : ZF := RZ 16 ctPS (fun _ => false) [] [] false s
theorem in_t (n m : Int) (X P Y Q : List (List U)) : RUN (st0 16 [clE n X P, clE m Y Q]) = (bc (chk17 n X P != (0 : Int)) (bc (chk17 n X P != (0 : Int)) (.done (EV.tup [(EV.v (Value.bool false)), (EV.v (Value.int IntKind.i64 (chk17 n X P)))]) [] 0) (bc (bc (bc (decide ((0 : Int) ≤ n ∧ n ≤ (48 : Int) ∧ List.length X ≤ (20000 : Nat) ∧ thrs n X)) (bc (decide ((0 : Int) ≤ m ∧ m ≤ (48 : Int) ∧ List.length Y ≤ (20000 : Nat) ∧ thrs m Y)) (bc (bc (decide (List.length (rowsT (thF X (0 : Nat) (th0 (Int.toNat n)))) ≤ (100 : Nat) ∧ hisS (rowsT (thF X (0 : Nat) (th0 (Int.toNat n)))))) true false) true false) false) false) (bc (bc (bc (bc (decide (m = m)) (bc (eqSy (SyC.recs shX Y) (SyC.recs shX Y)) (bc (eqSy (SyC.recs shX Q) (SyC.recs shX Q)) true false) false) false) true false) true false) true false) false) (.done (EV.tup [(EV.v (Value.bool (eqTB (rowsT (thF X (0 : Nat) (th0 (Int.toNat n)))) (rowsT (thF Y (0 : Nat) (th0 (Int.toNat m))))))), (EV.v (Value.int IntKind.i64 (0)))]) [] 0) .bad)) (bc (chk17 m Y Q != (0 : Int)) (bc (chk17 m Y Q != (0 : Int)) (.done (EV.tup [(EV.v (Value.bool false)), (EV.v (Value.int IntKind.i64 (chk17 m Y Q)))]) [] 0) (bc (bc (bc (decide ((0 : Int) ≤ n ∧ n ≤ (48 : Int) ∧ List.length X ≤ (20000 : Nat) ∧ thrs n X)) (bc (decide ((0 : Int) ≤ m ∧ m ≤ (48 : Int) ∧ List.length Y ≤ (20000 : Nat) ∧ thrs m Y)) (bc (bc (decide (List.length (rowsT (thF X (0 : Nat) (th0 (Int.toNat n)))) ≤ (100 : Nat) ∧ hisS (rowsT (thF X (0 : Nat) (th0 (Int.toNat n)))))) true false) true false) false) false) (bc (bc (bc (bc (decide (m = m)) (bc (eqSy (SyC.recs shX Y) (SyC.recs shX Y)) (bc (eqSy (SyC.recs shX Q) (SyC.recs shX Q)) true false) false) false) true false) true false) true false) false) (.done (EV.tup [(EV.v (Value.bool (eqTB (rowsT (thF X (0 : Nat) (th0 (Int.toNat n)))) (rowsT (thF Y (0 : Nat) (th0 (Int.toNat m))))))), (EV.v (Value.int IntKind.i64 (0)))]) [] 0) .bad)) (bc (bc (bc (decide ((0 : Int) ≤ n ∧ n ≤ (48 : Int) ∧ List.length X ≤ (20000 : Nat) ∧ thrs n X)) (bc (decide ((0 : Int) ≤ m ∧ m ≤ (48 : Int) ∧ List.length Y ≤ (20000 : Nat) ∧ thrs m Y)) (bc (bc (decide (List.length (rowsT (thF X (0 : Nat) (th0 (Int.toNat n)))) ≤ (100 : Nat) ∧ hisS (rowsT (thF X (0 : Nat) (th0 (Int.toNat n)))))) true false) true false) false) false) (bc (bc (bc (bc (decide (m = m)) (bc (eqSy (SyC.recs shX Y) (SyC.recs shX Y)) (bc (eqSy (SyC.recs shX Q) (SyC.recs shX Q)) true false) false) false) true false) true false) true false) false) (.done (EV.tup [(EV.v (Value.bool (eqTB (rowsT (thF X (0 : Nat) (th0 (Int.toNat n)))) (rowsT (thF Y (0 : Nat) (th0 (Int.toNat m))))))), (EV.v (Value.int IntKind.i64 (0)))]) [] 0) .bad))) := by kernel_rfl
theorem ends (n m : Int) (X P Y Q : List (List U)) : EndZ 16 ctPS false (st0 16 [clE n X P, clE m Y Q]) (.tup [bv (samB n m X P Y Q), iv (botE n m X P Y Q)]) [] 0 := by
  have h := in_t n m X P Y Q; unfold samB botE
  by_cases z1 : chk17 n X P = 0
  · have b1 : (chk17 n X P != 0) = false := by simp [z1]
    rw [b1, bc_f] at h; rw [b1, bc_f]
    by_cases z2 : chk17 m Y Q = 0
    · have b3 : (chk17 m Y Q != 0) = false := by simp [z2]
      rw [b3, bc_f] at h; rw [b3, bc_f, z2]; obtain ⟨c1, c2, c3, c4, c5, _⟩ := chk17_ok z1; obtain ⟨d1, d2, d3, d4, d5, _⟩ := chk17_ok z2; obtain ⟨n, rfl⟩ := Int.eq_ofNat_of_zero_le (show 0 ≤ n by omega); obtain ⟨m, rfl⟩ := Int.eq_ofNat_of_zero_le (show 0 ≤ m by omega)
      rw [to_nat, to_nat, dt (show (0 : Int) ≤ m ∧ (m : Int) ≤ 48 ∧ Y.length ≤ 20000 ∧ thrs m Y from ⟨by omega, by omega, by omega, d5⟩), dt (show (0 : Int) ≤ n ∧ (n : Int) ≤ 48 ∧ X.length ≤ 20000 ∧ thrs n X from ⟨by omega, by omega, by omega, c5⟩), dt (show (rowsT (thF X 0 (th0 n))).length ≤ 100 ∧ hisS (rowsT (thF X 0 (th0 n))) from ⟨by rw [rowsH_len]; omega, hisS_rows c5 c3⟩)] at h
      simp (disch := omega) only [Nat.add_eq, eqSy_self, eqN_self, bc_same, List.length_cons, ofn, wrap_in, dt, df, bltD, bltN, ble_of, bleN, beqD, bc_t, bc_f, nn_ok, Nat.zero_add, to_nat, Int.zero_add, Int.sub_zero, Int.sub_self, Int.cast_ofNat_Int, Int.natCast_zero, Int.toNat_zero, List.take_zero, List.nil_append, List.length_append, List.length_nil] at h; have hb : eqTB (rowsT (thF X 0 (th0 n))) (rowsT (thF Y 0 (th0 m))) = bc ((n : Int) != (m : Int)) false (sameF X Y 0 n) := by
        by_cases z3 : n = m
        · subst z3; have b4 : ((n : Int) != (n : Int)) = false := by simp
          rw [b4, bc_f]; exact eqTB_rows c5 d5 n 0 (by omega)
        · have b4 : ((n : Int) != (m : Int)) = true := by simp; omega
          rw [b4, bc_t]; exact eqTB_len (by rw [rowsH_len, rowsH_len]; exact z3)
      rw [hb] at h; exact .done h
    · have b3 : (chk17 m Y Q != 0) = true := by simp [z2]
      rw [b3, bc_t, bc_t] at h; rw [b3, bc_t]; exact .done h
  · have b1 : (chk17 n X P != 0) = true := by simp [z1]
    rw [b1, bc_t, bc_t] at h; rw [b1, bc_t, b1, bc_t]; exact .done h
end PSam
noncomputable def spPSam : ZCT := fun ax => match ax with
  | [.agg [.v (.int .i64 n), .lst (.recs [.int .i64, .int .i64, .int .i64, .int .i64] X), .lst (.recs [.int .i64, .int .i64, .int .i64, .int .i64] P)], .agg [.v (.int .i64 m), .lst (.recs [.int .i64, .int .i64, .int .i64, .int .i64] Y), .lst (.recs [.int .i64, .int .i64, .int .i64, .int .i64] Q)]] => some ⟨decide (True), .tup [bv (samB n m X P Y Q), iv (botE n m X P Y Q)], [], 0⟩
  | _ => none
theorem spPSam_ok : ZCtOk Try.prog 16 spPSam := fun γ w us ax r hs hc hax hN hfz => by
  unfold spPSam at hs; split at hs
  case h_2 => cases hs
  rename_i n X P m Y Q; obtain ⟨rfl⟩ := Option.some.inj hs; have hc_0 : decide (True) = true := hc; have hc := of_decide_eq_true hc_0; exact EndZ.calls (PSam.ends n m X P Y Q) ctPS_ok (by kernel_rfl) hax hN hfz
namespace RSam
end RSam
namespace LMts
end LMts
end Go.Proofs.Ytjlfedhkpdogbaa.Ev
namespace Go.Proofs.Ytjlfedhkpdogbaa.Ev
open Go.Proofs
namespace LBrk
noncomputable def RUN (s : ES) : ZF := RZs 28 .nil [(atS 0 28 3, [[(1,none),(2,none),(3,none),(7,none),(8,none)]]), (atS 0 28 7, [[(1,none),(2,none),(3,none),(7,none),(8,none),(9,none),(10,none),(11,none)]])] [] false s

noncomputable def sO (n k : Int) (X P L : List (List U)) (a t : Int) : NS := ⟨[⟨28, 72, [(1, (EV.v (Value.int IntKind.i64 (k)))), (2, (EV.lst (SyC.recs [(Sh.int IntKind.i64), (Sh.int IntKind.i64), (Sh.int IntKind.i64)] (L)))), (3, (EV.ptr 0 0)), (7, iv a), (8, iv t)], [.it (.code (nav [1, 1, 0, 1, 0, 0, 0] (bodyOf Try.f28))), .it (.code (nav [1, 1, 0, 1, 0, 0, 1] (bodyOf Try.f28))), .it (.inLoop (nav [1, 1, 0, 1, 0, 0] (bodyOf Try.f28))), .it (.inBlock 0), .it (.code (nav [1, 1, 1] (bodyOf Try.f28)))], [], Option.none⟩], [(0, (EK.cells 25 [(EV.v (Value.int IntKind.i64 (n))), (EV.lst (SyC.recs [(Sh.int IntKind.i64), (Sh.int IntKind.i64), (Sh.int IntKind.i64), (Sh.int IntKind.i64)] (X))), (EV.lst (SyC.recs [(Sh.int IntKind.i64), (Sh.int IntKind.i64), (Sh.int IntKind.i64), (Sh.int IntKind.i64)] (P)))] true))], 1⟩
noncomputable def sI (n k : Int) (X P L : List (List U)) (a t b f i : Int) : NS := ⟨[⟨28, 72, [(1, (EV.v (Value.int IntKind.i64 (k)))), (2, (EV.lst (SyC.recs [(Sh.int IntKind.i64), (Sh.int IntKind.i64), (Sh.int IntKind.i64)] (L)))), (3, (EV.ptr 0 0)), (7, (EV.v (Value.int IntKind.i64 (a)))), (8, (EV.v (Value.int IntKind.i64 (t)))), (9, iv b), (10, iv f), (11, iv i)], [.it (.code (nav [1, 1, 0, 1, 0, 0, 1, 0, 0, 1, 0, 1, 0, 0, 0] (bodyOf Try.f28))), .it (.code (nav [1, 1, 0, 1, 0, 0, 1, 0, 0, 1, 0, 1, 0, 0, 1] (bodyOf Try.f28))), .it (.inLoop (nav [1, 1, 0, 1, 0, 0, 1, 0, 0, 1, 0, 1, 0, 0] (bodyOf Try.f28))), .it (.inBlock 2), .it (.code (nav [1, 1, 0, 1, 0, 0, 1, 0, 0, 1, 1] (bodyOf Try.f28))), .it (.inBlock 1), .it (.code (nav [1, 1, 0, 1, 0, 0, 1, 1] (bodyOf Try.f28))), .it (.inLoop (nav [1, 1, 0, 1, 0, 0] (bodyOf Try.f28))), .it (.inBlock 0), .it (.code (nav [1, 1, 1] (bodyOf Try.f28)))], [], Option.none⟩], [(0, (EK.cells 25 [(EV.v (Value.int IntKind.i64 (n))), (EV.lst (SyC.recs [(Sh.int IntKind.i64), (Sh.int IntKind.i64), (Sh.int IntKind.i64), (Sh.int IntKind.i64)] (X))), (EV.lst (SyC.recs [(Sh.int IntKind.i64), (Sh.int IntKind.i64), (Sh.int IntKind.i64), (Sh.int IntKind.i64)] (P)))] true))], 1⟩
theorem in_t (n k : Int) (X P L : List (List U)) : RUN (st0 28 [clE n X P, iv k, pl L]) = (.at (sO (n) (k) (X) (P) (L) ((0 : Int)) ((0 : Int)))) := by kernel_rfl
theorem o_t (n k : Int) (X P L : List (List U)) (a t : Int) : RUN (stOf (sO n k X P L a t)) = (bc (decide (t < n)) (.at (sI (n) (k) (X) (P) (L) (a) (t) ((0 : Int)) ((0 : Int)) ((0 : Int)))) (.done (EV.v (Value.bool (a == Int.ofNat (List.length L)))) [] 0)) := by kernel_rfl
theorem i_t (n k : Int) (X P L : List (List U)) (a t b f i : Int) : RUN (stOf (sI n k X P L a t b f i)) = (bc (decide (i < Int.ofNat (List.length X))) (bc (bc (bc (decide ((0 : Int) ≤ i)) (Nat.blt (Int.toNat i) (List.length X)) false) true false) (bc (bc (Nat.blt (Int.toNat i) (List.length X)) true false) (bc (U.int (List.getD (List.getD X (Int.toNat i) []) (Nat.add (0 : Nat) (2 : Nat)) (U.i (0 : Int))) != t) (bc (bc (bc (decide ((0 : Int) ≤ i)) (Nat.blt (Int.toNat i) (List.length X)) false) true false) (bc (bc (Nat.blt (Int.toNat i) (List.length X)) true false) (bc (U.int (List.getD (List.getD X (Int.toNat i) []) (Nat.add (0 : Nat) (3 : Nat)) (U.i (0 : Int))) != t) (.at (sI (n) (k) (X) (P) (L) (a) (t) (b) (f) (IntKind.wrap IntKind.i64 (i + (1 : Int))))) (bc (decide (i < k)) (.at (sI (n) (k) (X) (P) (L) (a) (t) (IntKind.wrap IntKind.i64 (b + (1 : Int))) (f) (IntKind.wrap IntKind.i64 (i + (1 : Int))))) (.at (sI (n) (k) (X) (P) (L) (a) (t) (b) (IntKind.wrap IntKind.i64 (f + (1 : Int))) (IntKind.wrap IntKind.i64 (i + (1 : Int))))))) .bad) .bad) (bc (decide (i < k)) (.at (sI (n) (k) (X) (P) (L) (a) (t) (IntKind.wrap IntKind.i64 (b + (1 : Int))) (f) (IntKind.wrap IntKind.i64 (i + (1 : Int))))) (.at (sI (n) (k) (X) (P) (L) (a) (t) (b) (IntKind.wrap IntKind.i64 (f + (1 : Int))) (IntKind.wrap IntKind.i64 (i + (1 : Int))))))) .bad) .bad) (bc (f == (0 : Int)) (.at (sO (n) (k) (X) (P) (L) (a) (IntKind.wrap IntKind.i64 (t + (1 : Int))))) (bc (decide (Int.ofNat (List.length L) ≤ a)) (.done (EV.v (Value.bool false)) [] 0) (bc (bc (bc (decide ((0 : Int) ≤ a)) (Nat.blt (Int.toNat a) (List.length L)) false) true false) (bc (bc (Nat.blt (Int.toNat a) (List.length L)) true false) (bc (bnot (bc (U.int (List.getD (List.getD L (Int.toNat a) []) (0 : Nat) (U.i (0 : Int))) == t) (bc (U.int (List.getD (List.getD L (Int.toNat a) []) (Nat.succ (0 : Nat)) (U.i (0 : Int))) == b) (bc (U.int (List.getD (List.getD L (Int.toNat a) []) (Nat.succ (Nat.succ (0 : Nat))) (U.i (0 : Int))) == (3 : Int)) true false) false) false)) (.done (EV.v (Value.bool false)) [] 0) (.at (sO (n) (k) (X) (P) (L) (IntKind.wrap IntKind.i64 (a + (1 : Int))) (IntKind.wrap IntKind.i64 (t + (1 : Int)))))) .bad) .bad)))) := by kernel_rfl
end LBrk
end Go.Proofs.Ytjlfedhkpdogbaa.Ev
namespace Go.Proofs.Ytjlfedhkpdogbaa.Ev
open Go.Proofs
theorem brF_len (X : List (List U)) (k : Nat) : ∀ (m t : Nat), (brF X k t m).length ≤ m
  | 0, _ => Nat.le_refl _
  | m + 1, t => by
    unfold brF; have h := brF_len X k m (t + 1); rw [List.length_append]; cases Nat.beq (hiF t (X.drop k)).length 0
    · rw [bc_f]; show 1 + _ ≤ _; omega
    · rw [bc_t]; show 0 + _ ≤ _; omega
theorem wrap_s (i : Nat) (h : i ≤ 1000000) : IntKind.wrap .i64 ((i : Int) + 1) = ((i + 1 : Nat) : Int) := by
  rw [wrap_in _ (by omega) (by omega)]; omega
theorem bne_t {a b : Int} (h : (a == b) = false) : (a != b) = true := by
  unfold bne; rw [h]; rfl
theorem bne_n {a b : Int} (h : (a == b) = true) : (a != b) = false := by
  unfold bne; rw [h]; rfl
namespace LBrk
theorem inner {n : Int} {X P L : List (List U)} {a : Int} {t k : Nat} (hX : Two X) (hl : X.length ≤ 20000) (hk : k ≤ X.length)
    (fin : EndZ 28 .nil false (stOf (sI n k X P L a t (hiF t (X.take k)).length (hiF t (X.drop k)).length X.length)) (bv true) [] 0) :
    ∀ (m i : Nat), i + m = X.length → EndZ 28 .nil false (stOf (sI n k X P L a t (hiF t (X.take (min i k))).length (((hiF t (X.take i)).length : Int) - (hiF t (X.take (min i k))).length) i)) (bv true) [] 0
  | 0, i, h => by
    have e : i = X.length := by omega
    subst e; rw [Nat.min_eq_right hk, List.take_length]; have e := hi_split t X k; have e2 : ((hiF (t : Int) X).length : Int) - (hiF t (X.take k)).length = (hiF t (X.drop k)).length := by
      rw [e, List.length_append]; omega
    rw [e2]; exact fin
  | m + 1, i, h => by
    have hi : i < X.length := by omega
    have hs := i_t n k X P L a t (hiF t (X.take (min i k))).length (((hiF t (X.take i)).length : Int) - (hiF t (X.take (min i k))).length) i; have ih := inner hX hl hk fin m (i + 1) (by omega); have st := hiF_step (t : Int) hi; rw [ctR_on (hX.at hi)] at st; have b1 := hiF_len t (X.take i); have b2 := hiF_len t (X.take (min i k)); have l1 : (X.take i).length ≤ 20000 := by rw [List.length_take]; omega
    have l2 : (X.take (min i k)).length ≤ 20000 := by rw [List.length_take]; omega
    rw [to_nat] at hs; have f1 : U.int (List.getD (X.getD i []) (Nat.add 0 2) (U.i 0)) = xO (X.getD i []) := rfl; have f2 : U.int (List.getD (X.getD i []) (Nat.add 0 3) (U.i 0)) = xU (X.getD i []) := rfl; rw [f1, f2] at hs; have on : onB t (X.getD i []) = bc (xO (X.getD i []) == (t : Int)) true (xU (X.getD i []) == t) := rfl
    by_cases hik : i < k
    · rw [Nat.min_eq_left (by omega)] at hs; rw [Nat.min_eq_left (by omega)] at ih ⊢; rw [dt (show (i : Int) < k by omega)] at hs; rw [Int.sub_self] at ih; rw [Int.sub_self] at hs ⊢; rw [Nat.min_eq_left (by omega)] at b2; have w1 := wrap_s i (by omega); have w2 := wrap_s (hiF t (X.take i)).length (by omega); rw [w1, w2] at hs
      simp (disch := omega) only [Nat.add_eq, eqSy_self, eqN_self, bc_same, List.length_cons, ofn, wrap_in, dt, df, bltD, bltN, ble_of, bleN, beqD, bc_t, bc_f, nn_ok, Nat.zero_add, to_nat, Int.zero_add, Int.sub_zero, Int.sub_self, Int.cast_ofNat_Int, Int.natCast_zero, Int.toNat_zero, List.take_zero, List.nil_append, List.length_append, List.length_nil] at hs; cases g1 : xO (X.getD i []) == (t : Int)
      · have g1' : (xO (X.getD i []) != (t : Int)) = true := bne_t g1; rw [g1', bc_t] at hs; cases g2 : xU (X.getD i []) == (t : Int)
        · have g2' : (xU (X.getD i []) != (t : Int)) = true := bne_t g2; rw [g2', bc_t] at hs; rw [on, g1, g2, bc_f] at st; rw [st, bc_f] at ih; exact .at (ZCtsOk.nil _) hs ih
        · have g2' : (xU (X.getD i []) != (t : Int)) = false := bne_n g2; rw [g2', bc_f] at hs; rw [on, g1, g2, bc_f] at st; rw [st, bc_t] at ih; exact .at (ZCtsOk.nil _) hs ih
      · have g1' : (xO (X.getD i []) != (t : Int)) = false := bne_n g1; rw [g1', bc_f] at hs; rw [on, g1, bc_t] at st; rw [st, bc_t] at ih; exact .at (ZCtsOk.nil _) hs ih
    · rw [Nat.min_eq_right (by omega)] at hs; rw [Nat.min_eq_right (by omega)] at ih ⊢; rw [df (show ¬ (i : Int) < k by omega)] at hs; rw [Nat.min_eq_right (by omega)] at b2 l2; have mo := take_mono (t := t) (b := X) (show k ≤ i by omega); have w1 := wrap_s i (by omega); have w2 : IntKind.wrap .i64 (((hiF t (X.take i)).length : Int) - (hiF t (X.take k)).length + 1) = (((hiF t (X.take i)).length + 1 : Nat) : Int) - (hiF t (X.take k)).length := by
        rw [wrap_in _ (by omega) (by omega)]; omega
      rw [w1, w2] at hs; simp (disch := omega) only [Nat.add_eq, eqSy_self, eqN_self, bc_same, List.length_cons, ofn, wrap_in, dt, df, bltD, bltN, ble_of, bleN, beqD, bc_t, bc_f, nn_ok, Nat.zero_add, to_nat, Int.zero_add, Int.sub_zero, Int.sub_self, Int.cast_ofNat_Int, Int.natCast_zero, Int.toNat_zero, List.take_zero, List.nil_append, List.length_append, List.length_nil] at hs; cases g1 : xO (X.getD i []) == (t : Int)
      · have g1' : (xO (X.getD i []) != (t : Int)) = true := bne_t g1; rw [g1', bc_t] at hs; cases g2 : xU (X.getD i []) == (t : Int)
        · have g2' : (xU (X.getD i []) != (t : Int)) = true := bne_t g2; rw [g2', bc_t] at hs; rw [on, g1, g2, bc_f] at st; rw [st, bc_f] at ih; exact .at (ZCtsOk.nil _) hs ih
        · have g2' : (xU (X.getD i []) != (t : Int)) = false := bne_n g2; rw [g2', bc_f] at hs; rw [on, g1, g2, bc_f] at st; rw [st, bc_t] at ih; exact .at (ZCtsOk.nil _) hs ih
      · have g1' : (xO (X.getD i []) != (t : Int)) = false := bne_n g1; rw [g1', bc_f] at hs; rw [on, g1, bc_t] at st; rw [st, bc_t] at ih; exact .at (ZCtsOk.nil _) hs ih
theorem outer {n k : Nat} {X P L : List (List U)} (hX : Two X) (hn : n ≤ 48) (hl : X.length ≤ 20000) (hk : k ≤ X.length) (hL : L.length ≤ 48) : ∀ (m t a : Nat), t + m = n → a ≤ L.length → L.drop a = brF X k t m → EndZ 28 .nil false (stOf (sO n k X P L a t)) (bv true) [] 0
  | 0, t, a, h, ha, hd => by
    have hs := o_t n k X P L a t; have e : a = L.length := by
      have h2 : (L.drop a).length = 0 := by rw [hd]; rfl
      rw [List.length_drop] at h2; omega
    rw [df (show ¬ (t : Int) < n by omega), bc_f, ofn, e] at hs; rw [show ((L.length : Int) == (L.length : Int)) = true by simp] at hs; rw [e]; exact .done hs
  | m + 1, t, a, h, ha, hd => by
    have hs := o_t n k X P L a t; rw [dt (show (t : Int) < n by omega), bc_t] at hs; have w1 := wrap_s t (by omega); have w2 := wrap_s a (by omega); have h0 := inner (n := n) (P := P) (L := L) (a := a) (t := t) hX hl hk ?_ X.length 0 (by omega)
    · have e0 : (((hiF (t : Int) (X.take 0)).length : Int) - (hiF t (X.take (min 0 k))).length) = 0 := by
        rw [Nat.zero_min]; omega
      rw [e0, Nat.zero_min] at h0; exact .at (ZCtsOk.nil _) hs h0
    · have hf := i_t n k X P L a t (hiF t (X.take k)).length (hiF t (X.drop k)).length X.length; rw [ofn, df (show ¬ (X.length : Int) < X.length by omega), bc_f, w1, w2, ofn] at hf; unfold brF at hd; cases g : Nat.beq (hiF (t : Int) (X.drop k)).length 0
      · have g2 : (hiF (t : Int) (X.drop k)).length ≠ 0 := fun e => by rw [e] at g; exact absurd g (by decide)
        have g3 : (((hiF (t : Int) (X.drop k)).length : Int) == 0) = false := by
          rw [beq_eq_false_iff_ne]; omega
        rw [g, bc_f] at hd; have ha2 : a < L.length := by
          have h2 : (L.drop a).length = 1 + (brF X k (t + 1) m).length := by rw [hd]; rw [List.length_append]; rfl
          rw [List.length_drop] at h2; omega
        rw [List.drop_eq_getElem_cons ha2] at hd; obtain ⟨d1, d2⟩ := List.cons.inj (show L[a] :: L.drop (a + 1) = [.i t, .i (hiF t (X.take k)).length, .i 3] :: brF X k (t + 1) m from hd)
        rw [g3, bc_f, df (show ¬ (L.length : Int) ≤ a by omega), bc_f, to_nat, getD_at ha2, d1] at hf; have f1 : U.int (List.getD [U.i (t : Int), U.i ((hiF (t : Int) (X.take k)).length : Int), U.i 3] 0 (U.i 0)) = t := rfl; have f2 : U.int (List.getD [U.i (t : Int), U.i ((hiF (t : Int) (X.take k)).length : Int), U.i 3] (Nat.succ 0) (U.i 0)) = (hiF (t : Int) (X.take k)).length := rfl; have f3 : U.int (List.getD [U.i (t : Int), U.i ((hiF (t : Int) (X.take k)).length : Int), U.i 3] (Nat.succ (Nat.succ 0)) (U.i 0)) = 3 := rfl; rw [f1, f2, f3] at hf
        simp (disch := omega) only [Nat.add_eq, eqSy_self, eqN_self, bc_same, List.length_cons, ofn, wrap_in, dt, df, bltD, bltN, ble_of, bleN, beqD, bc_t, bc_f, nn_ok, Nat.zero_add, to_nat, Int.zero_add, Int.sub_zero, Int.sub_self, Int.cast_ofNat_Int, Int.natCast_zero, Int.toNat_zero, List.take_zero, List.nil_append, List.length_append, List.length_nil, beq_self_eq_true, bnot] at hf; exact .at (ZCtsOk.nil _) hf (outer hX hn hl hk hL m (t + 1) (a + 1) (by omega) (by omega) d2)
      · have g2 : (hiF (t : Int) (X.drop k)).length = 0 := Nat.eq_of_beq_eq_true g; have g3 : (((hiF (t : Int) (X.drop k)).length : Int) == 0) = true := by rw [g2]; rfl
        rw [g, bc_t] at hd; rw [g3, bc_t] at hf; exact .at (ZCtsOk.nil _) hf (outer hX hn hl hk hL m (t + 1) a (by omega) ha hd)
end LBrk
theorem ctNo_ok : ZCtsOk Try.prog .nil := ZCtsOk.nil _
noncomputable def spBrk : ZCT := fun ax => match ax with
  | [.agg [.v (.int .i64 n), .lst (.recs [.int .i64, .int .i64, .int .i64, .int .i64] X), .lst (.recs [.int .i64, .int .i64, .int .i64, .int .i64] P)], .v (.int .i64 k), .lst (.recs [.int .i64, .int .i64, .int .i64] L)] => some ⟨decide (chk17 n X P = 0 ∧ 0 ≤ k ∧ k ≤ X.length ∧ eqR L (brF X k.toNat 0 n.toNat)), bv true, [], 0⟩
  | _ => none
theorem spBrk_ok : ZCtOk Try.prog 28 spBrk := fun γ w us ax r hs hc hax hN hfz => by
  unfold spBrk at hs; split at hs
  case h_2 => cases hs
  rename_i n X P k L; obtain ⟨rfl⟩ := Option.some.inj hs; have hc_0 : decide (chk17 n X P = 0 ∧ 0 ≤ k ∧ k ≤ X.length ∧ eqR L (brF X k.toNat 0 n.toNat)) = true := hc; have hc := of_decide_eq_true hc_0; exact EndZ.calls (by
    obtain ⟨h1, h2, h3, h4⟩ := hc; obtain ⟨c1, c2, c3, c4, c5, _⟩ := chk17_ok h1; obtain ⟨n, rfl⟩ := Int.eq_ofNat_of_zero_le (show 0 ≤ n by omega); obtain ⟨k, rfl⟩ := Int.eq_ofNat_of_zero_le h2; rw [to_nat, to_nat] at h4; have hl := brF_len X k n 0; rw [← h4] at hl; exact .at ctNo_ok (LBrk.in_t n k X P L) (LBrk.outer (chk17_two h1) (by omega) (by omega) (by omega) (by omega) n 0 0 (by omega) (by omega) h4)) ctNo_ok (by kernel_rfl) hax hN hfz
end Go.Proofs.Ytjlfedhkpdogbaa.Ev
namespace Go.Proofs.Ytjlfedhkpdogbaa.Ev
open Go.Proofs
noncomputable def ctBk : Tr ZCC := ((((((((Tr.nil.put 14 (some (dC spPHis))).put 17 (some (dC spPCom))).put 25 (some (dC spPDif))).put 11 (some (dC spPFir))).put 16 (some (dC spPSam))).put 27 (some (dC spIns))).put 28 (some (dC spBrk))).put 9 (some (dC spFar))).put 10 (some (dC spTrue))
theorem ctBk_ok : ZCtsOk Try.prog ctBk := (((((((((ZCtsOk.nil _).add rfl spPHis_ok).add rfl spPCom_ok).add rfl spPDif_ok).add rfl spPFir_ok).add rfl spPSam_ok).add rfl spIns_ok).add rfl spBrk_ok).add rfl spFar_ok).add rfl spShown_ok
theorem u16_fit {n : Int} (h : (Lit.int .u16 n).wf = true) : 0 ≤ n ∧ n ≤ 65535 := by
  have h1 : IntKind.u16.min ≤ n ∧ n ≤ IntKind.u16.max := by simpa [Lit.wf] using h
  have e1 : IntKind.u16.min = 0 := rfl; have e2 : IntKind.u16.max = 65535 := rfl; omega
theorem tmodN (m n : Nat) : Int.tmod (m : Int) (n : Int) = ((m % n : Nat) : Int) := rfl
noncomputable def rgI (a m : Nat) : List Int := (List.range' a m).map (fun k : Nat => (k : Int))
theorem rgI_len (a m : Nat) : (rgI a m).length = m := by unfold rgI; simp
theorem rgI_at {a m j : Nat} (h : j < m) : (rgI a m).getD j 0 = a + j := by
  rw [getD_at (by rw [rgI_len]; exact h)]; unfold rgI; rw [List.getElem_map, List.getElem_range']; omega
theorem rgI_mem {a m i : Nat} : (rgI a m).contains (i : Int) = decide (a ≤ i ∧ i < a + m) := by
  by_cases h : a ≤ i ∧ i < a + m
  · rw [dt h, List.contains_iff_mem]; exact List.mem_map.2 ⟨i, List.mem_range'_1.2 h, rfl⟩
  · rw [df h]
    cases h2 : (rgI a m).contains (i : Int) with
    | false => rfl
    | true =>
      rw [List.contains_iff_mem] at h2; obtain ⟨j, j1, j2⟩ := List.mem_map.1 h2; have j2' : (j : Int) = i := j2; have : j = i := by omega
      rw [this] at j1; exact absurd (List.mem_range'_1.1 j1) h
theorem othF_rg (k : Nat) : ∀ (m i : Nat), othF (rgI 0 k) i m = rgI (max i k) (i + m - max i k)
  | 0, i => by
    rw [show i + 0 - max i k = 0 by omega]; rfl
  | m + 1, i => by
    show bc ((rgI 0 k).contains (i : Int)) _ _ = _; rw [rgI_mem, othF_rg k m (i + 1)]
    by_cases h : i < k
    · rw [dt (by omega), bc_t, show max (i + 1) k = max i k by omega, show i + 1 + m - max i k = i + (m + 1) - max i k by omega]
    · rw [df (by omega), bc_f, show max (i + 1) k = i + 1 by omega, show max i k = i by omega, show i + 1 + m - (i + 1) = m by omega, show i + (m + 1) - i = m + 1 by omega]; unfold rgI; rw [List.range'_succ]; rfl
namespace ABrk
noncomputable def RUN (s : ES) : ZF := RZs 7 ctBk [(atS 0 7 15, [[(2,none),(7,none),(9,none),(12,none),(15,none),(19,none)]]), (atS 0 7 20, [[(2,none),(7,none),(12,none),(15,none),(20,none)]])] [] false s

noncomputable def sA (n k : Int) (X P : List (List U)) (x u : List Int) (L : List (List U)) (i : Int) : NS := ⟨[⟨7, 162, [(2, (EV.ptr 0 0)), (7, iv k), (9, il x), (12, il u), (15, pl L), (19, iv i)], [.it (.code (nav [1, 1, 1, 1, 1, 1, 1, 1, 1, 1, 1, 0, 1, 0, 0, 0] (bodyOf Try.f7))), .it (.code (nav [1, 1, 1, 1, 1, 1, 1, 1, 1, 1, 1, 0, 1, 0, 0, 1] (bodyOf Try.f7))), .it (.inLoop (nav [1, 1, 1, 1, 1, 1, 1, 1, 1, 1, 1, 0, 1, 0, 0] (bodyOf Try.f7))), .it (.inBlock 0), .it (.code (nav [1, 1, 1, 1, 1, 1, 1, 1, 1, 1, 1, 1] (bodyOf Try.f7)))], [], Option.none⟩], [(0, (EK.cells 25 [(EV.v (Value.int IntKind.i64 (n))), (EV.lst (SyC.recs [(Sh.int IntKind.i64), (Sh.int IntKind.i64), (Sh.int IntKind.i64), (Sh.int IntKind.i64)] (X))), (EV.lst (SyC.recs [(Sh.int IntKind.i64), (Sh.int IntKind.i64), (Sh.int IntKind.i64), (Sh.int IntKind.i64)] (P)))] true))], 1⟩
noncomputable def sU (n k : Int) (X P : List (List U)) (u : List Int) (L : List (List U)) (i : Int) : NS := ⟨[⟨7, 162, [(2, (EV.ptr 0 0)), (7, (EV.v (Value.int IntKind.i64 (k)))), (12, (EV.lst (SyC.ints IntKind.i64 (u)))), (15, (EV.lst (SyC.recs [(Sh.int IntKind.i64), (Sh.int IntKind.i64), (Sh.int IntKind.i64)] (L)))), (20, iv i)], [.it (.code (nav [1, 1, 1, 1, 1, 1, 1, 1, 1, 1, 1, 1, 0, 1, 0, 0, 0] (bodyOf Try.f7))), .it (.code (nav [1, 1, 1, 1, 1, 1, 1, 1, 1, 1, 1, 1, 0, 1, 0, 0, 1] (bodyOf Try.f7))), .it (.inLoop (nav [1, 1, 1, 1, 1, 1, 1, 1, 1, 1, 1, 1, 0, 1, 0, 0] (bodyOf Try.f7))), .it (.inBlock 2), .it (.code (nav [1, 1, 1, 1, 1, 1, 1, 1, 1, 1, 1, 1, 1] (bodyOf Try.f7)))], [], Option.none⟩], [(0, (EK.cells 25 [(EV.v (Value.int IntKind.i64 (n))), (EV.lst (SyC.recs [(Sh.int IntKind.i64), (Sh.int IntKind.i64), (Sh.int IntKind.i64), (Sh.int IntKind.i64)] (X))), (EV.lst (SyC.recs [(Sh.int IntKind.i64), (Sh.int IntKind.i64), (Sh.int IntKind.i64), (Sh.int IntKind.i64)] (P)))] true))], 1⟩
theorem in_t (n t : Int) (X P : List (List U)) : RUN (st0 7 [clE n X P, .v (.int .u16 t)]) = (bc (farB n (100 : Int) X P) (.done (EV.v (Value.bool true)) [] 0) (bc (hisE n (0 : Int) X P != (0 : Int)) (bc (Int.ofNat (List.length (hisL n (0 : Int) X P)) == (0 : Int)) (.done (EV.v (Value.bool true)) [] 0) (.done (EV.v (Value.bool false)) [] 0)) (bc (bc (bnot (IntKind.wrap IntKind.i64 (Int.ofNat (List.length X) + (1 : Int)) == (0 : Int))) true false) (bc (bc (bc (bc (bc (decide ((0 : Int) ≤ Int.tmod (IntKind.wrap IntKind.i64 t) (IntKind.wrap IntKind.i64 (Int.ofNat (List.length X) + (1 : Int))))) (decide (Int.tmod (IntKind.wrap IntKind.i64 t) (IntKind.wrap IntKind.i64 (Int.ofNat (List.length X) + (1 : Int))) ≤ Int.ofNat (List.length X))) false) true false) true false) true false) (bc (fiE n n X P (List.drop (Int.toNat (0 : Int)) (List.take (Int.toNat (Int.tmod (IntKind.wrap IntKind.i64 t) (IntKind.wrap IntKind.i64 (Int.ofNat (List.length X) + (1 : Int))))) X)) P != (0 : Int)) (.done (EV.v (Value.bool false)) [] 0) (bc (fiE n n X P (List.drop (Int.toNat (0 : Int)) (List.take (Int.toNat (Int.tmod (IntKind.wrap IntKind.i64 t) (IntKind.wrap IntKind.i64 (Int.ofNat (List.length X) + (1 : Int))))) X)) P != (0 : Int)) (.done (EV.v (Value.bool false)) [] 0) (bc (fiE n n X P (List.drop (Int.toNat (0 : Int)) (List.take (Int.toNat (Int.tmod (IntKind.wrap IntKind.i64 t) (IntKind.wrap IntKind.i64 (Int.ofNat (List.length X) + (1 : Int))))) X)) P != (0 : Int)) (.done (EV.v (Value.bool false)) [] 0) (bc (botE n n X P (List.drop (Int.toNat (0 : Int)) (List.take (Int.toNat (Int.tmod (IntKind.wrap IntKind.i64 t) (IntKind.wrap IntKind.i64 (Int.ofNat (List.length X) + (1 : Int))))) X)) P != (0 : Int)) (.done (EV.v (Value.bool false)) [] 0) (bc (Int.ofNat (List.length (Prod.fst (coP n n X P (List.drop (Int.toNat (0 : Int)) (List.take (Int.toNat (Int.tmod (IntKind.wrap IntKind.i64 t) (IntKind.wrap IntKind.i64 (Int.ofNat (List.length X) + (1 : Int))))) X)) P))) != Int.tmod (IntKind.wrap IntKind.i64 t) (IntKind.wrap IntKind.i64 (Int.ofNat (List.length X) + (1 : Int)))) (.done (EV.v (Value.bool false)) [] 0) (bc (bc (decide (Prod.fst (coP n n X P (List.drop (Int.toNat (0 : Int)) (List.take (Int.toNat (Int.tmod (IntKind.wrap IntKind.i64 t) (IntKind.wrap IntKind.i64 (Int.ofNat (List.length X) + (1 : Int))))) X)) P) = Prod.snd (coP n n X P (List.drop (Int.toNat (0 : Int)) (List.take (Int.toNat (Int.tmod (IntKind.wrap IntKind.i64 t) (IntKind.wrap IntKind.i64 (Int.ofNat (List.length X) + (1 : Int))))) X)) P) ∧ List.length (Prod.fst (coP n n X P (List.drop (Int.toNat (0 : Int)) (List.take (Int.toNat (Int.tmod (IntKind.wrap IntKind.i64 t) (IntKind.wrap IntKind.i64 (Int.ofNat (List.length X) + (1 : Int))))) X)) P)) ≤ (100000 : Nat))) true false) (bc (Int.ofNat (List.length (Prod.fst (diP n n X P (List.drop (Int.toNat (0 : Int)) (List.take (Int.toNat (Int.tmod (IntKind.wrap IntKind.i64 t) (IntKind.wrap IntKind.i64 (Int.ofNat (List.length X) + (1 : Int))))) X)) P))) != IntKind.wrap IntKind.i64 (Int.ofNat (List.length X) - Int.tmod (IntKind.wrap IntKind.i64 t) (IntKind.wrap IntKind.i64 (Int.ofNat (List.length X) + (1 : Int))))) (.done (EV.v (Value.bool false)) [] 0) (bc (Int.ofNat (List.length (Prod.snd (diP n n X P (List.drop (Int.toNat (0 : Int)) (List.take (Int.toNat (Int.tmod (IntKind.wrap IntKind.i64 t) (IntKind.wrap IntKind.i64 (Int.ofNat (List.length X) + (1 : Int))))) X)) P))) != (0 : Int)) (.done (EV.v (Value.bool false)) [] 0) (bc (!samB n n X P (List.drop (Int.toNat (0 : Int)) (List.take (Int.toNat (Int.tmod (IntKind.wrap IntKind.i64 t) (IntKind.wrap IntKind.i64 (Int.ofNat (List.length X) + (1 : Int))))) X)) P == (Int.tmod (IntKind.wrap IntKind.i64 t) (IntKind.wrap IntKind.i64 (Int.ofNat (List.length X) + (1 : Int))) == Int.ofNat (List.length X))) (.done (EV.v (Value.bool false)) [] 0) (.at (sA (n) (Int.tmod (IntKind.wrap IntKind.i64 t) (IntKind.wrap IntKind.i64 (Int.ofNat (List.length X) + (1 : Int)))) (X) (P) (Prod.fst (coP n n X P (List.drop (Int.toNat (0 : Int)) (List.take (Int.toNat (Int.tmod (IntKind.wrap IntKind.i64 t) (IntKind.wrap IntKind.i64 (Int.ofNat (List.length X) + (1 : Int))))) X)) P)) (Prod.fst (diP n n X P (List.drop (Int.toNat (0 : Int)) (List.take (Int.toNat (Int.tmod (IntKind.wrap IntKind.i64 t) (IntKind.wrap IntKind.i64 (Int.ofNat (List.length X) + (1 : Int))))) X)) P)) (fiL n n X P (List.drop (Int.toNat (0 : Int)) (List.take (Int.toNat (Int.tmod (IntKind.wrap IntKind.i64 t) (IntKind.wrap IntKind.i64 (Int.ofNat (List.length X) + (1 : Int))))) X)) P) ((0 : Int))))))) .bad)))))) .bad) .bad))) := by kernel_rfl
theorem a_t (n k : Int) (X P : List (List U)) (x u : List Int) (L : List (List U)) (i : Int) : RUN (stOf (sA n k X P x u L i)) = (bc (decide (i < Int.ofNat (List.length x))) (bc (bc (bc (decide ((0 : Int) ≤ i)) (Nat.blt (Int.toNat i) (List.length x)) false) true false) (bc (bc (Nat.blt (Int.toNat i) (List.length x)) true false) (bc (List.getD x (Int.toNat i) (0 : Int) != i) (.done (EV.v (Value.bool false)) [] 0) (.at (sA (n) (k) (X) (P) (x) (u) (L) (IntKind.wrap IntKind.i64 (i + (1 : Int)))))) .bad) .bad) (.at (sU (n) (k) (X) (P) (u) (L) ((0 : Int))))) := by kernel_rfl
theorem u_t (n k : Int) (X P : List (List U)) (u : List Int) (L : List (List U)) (i : Int) : RUN (stOf (sU n k X P u L i)) = (bc (decide (i < Int.ofNat (List.length u))) (bc (bc (bc (decide ((0 : Int) ≤ i)) (Nat.blt (Int.toNat i) (List.length u)) false) true false) (bc (bc (Nat.blt (Int.toNat i) (List.length u)) true false) (bc (List.getD u (Int.toNat i) (0 : Int) != IntKind.wrap IntKind.i64 (k + i)) (.done (EV.v (Value.bool false)) [] 0) (.at (sU (n) (k) (X) (P) (u) (L) (IntKind.wrap IntKind.i64 (i + (1 : Int)))))) .bad) .bad) (bc (bc (decide (chk17 n X P = (0 : Int) ∧ (0 : Int) ≤ k ∧ k ≤ (Nat.cast (List.length X) : Int) ∧ eqR L (brF X (Int.toNat k) (0 : Nat) (Int.toNat n)))) true false) (.done (EV.v (Value.bool true)) [] 0) .bad)) := by kernel_rfl
theorem loopU {n : Int} {k : Nat} {X P L : List (List U)} {u : List Int} (hu : u = rgI k u.length) (hl : u.length ≤ 20000) (hk : k ≤ X.length) (hX : X.length ≤ 20000) (h1 : chk17 n X P = 0) (h4 : L = brF X k 0 n.toNat) : ∀ (m i : Nat), i + m = u.length → EndZ 7 ctBk false (stOf (sU n k X P u L i)) (bv true) [] 0
  | 0, i, h => by
    have hs := u_t n k X P u L i; rw [ofn, df (show ¬ (i : Int) < u.length by omega), bc_f, to_nat, dt (show chk17 n X P = 0 ∧ (0 : Int) ≤ k ∧ (k : Int) ≤ (Nat.cast X.length : Int) ∧ eqR L (brF X k 0 n.toNat) from ⟨h1, by omega, by omega, h4⟩)] at hs
    exact .done hs
  | m + 1, i, h => by
    have hs := u_t n k X P u L i; have e : u.getD i 0 = k + i := by rw [hu]; exact rgI_at (by omega)
    have w : IntKind.wrap .i64 ((k : Int) + i) = (k : Int) + i := wrap_in _ (by omega) (by omega); have w1 := wrap_s i (by omega); rw [to_nat, e, w, w1] at hs; simp (disch := omega) only [Nat.add_eq, eqSy_self, eqN_self, bc_same, List.length_cons, ofn, wrap_in, dt, df, bltD, bltN, ble_of, bleN, beqD, bc_t, bc_f, nn_ok, Nat.zero_add, to_nat, Int.zero_add, Int.sub_zero, Int.sub_self, Int.cast_ofNat_Int, Int.natCast_zero, Int.toNat_zero, List.take_zero, List.nil_append, List.length_append, List.length_nil, bne_self_eq_false] at hs
    exact .at ctBk_ok hs (loopU hu hl hk hX h1 h4 m (i + 1) (by omega))
theorem loopA {n : Int} {k : Nat} {X P L : List (List U)} {x u : List Int} (hx : x = rgI 0 x.length) (hl : x.length ≤ 20000)
    (nx : EndZ 7 ctBk false (stOf (sU n k X P u L (0 : Nat))) (bv true) [] 0) : ∀ (m i : Nat), i + m = x.length → EndZ 7 ctBk false (stOf (sA n k X P x u L i)) (bv true) [] 0
  | 0, i, h => by
    have hs := a_t n k X P x u L i; rw [ofn, df (show ¬ (i : Int) < x.length by omega), bc_f] at hs; exact .at ctBk_ok hs nx
  | m + 1, i, h => by
    have hs := a_t n k X P x u L i; have e : x.getD i 0 = i := by rw [hx, rgI_at (by omega)]; omega
    have w1 := wrap_s i (by omega); rw [to_nat, e, w1] at hs; simp (disch := omega) only [Nat.add_eq, eqSy_self, eqN_self, bc_same, List.length_cons, ofn, wrap_in, dt, df, bltD, bltN, ble_of, bleN, beqD, bc_t, bc_f, nn_ok, Nat.zero_add, to_nat, Int.zero_add, Int.sub_zero, Int.sub_self, Int.cast_ofNat_Int, Int.natCast_zero, Int.toNat_zero, List.take_zero, List.nil_append, List.length_append, List.length_nil, bne_self_eq_false] at hs; exact .at ctBk_ok hs (loopA hx hl nx m (i + 1) (by omega))
theorem ends (n t : Int) (X P : List (List U)) (ht : 0 ≤ t ∧ t ≤ 65535) : EndZ 7 ctBk false (st0 7 [clE n X P, .v (.int .u16 t)]) (bv true) [] 0 := by
  have h := in_t n t X P; cases h1 : farB n 100 X P <;> rw [h1] at h
  case true => exact .done h
  rw [bc_f] at h; cases h3 : (hisE n 0 X P != 0)
  case true =>
    have : hisL n 0 X P = [] := by unfold hisL; rw [h3, bc_t]
    rw [h3, this, bc_t] at h; exact .done h
  rw [h3, bc_f] at h; have hX : chk17 n X P = 0 := by
    have e : hisE n 0 X P = 0 := by simpa using h3
    unfold hisE at e; cases g : (chk17 n X P != 0)
    · simpa using g
    · rw [g, bc_t] at e; rw [e] at g; exact absurd g (by decide)
  obtain ⟨c1, c2, c3, c4, c5, _⟩ := chk17_ok hX; have w1 : IntKind.wrap IntKind.i64 t = t := wrap_in _ (by omega) (by omega); have w2 := wrap_s X.length (by omega); obtain ⟨t, rfl⟩ := Int.eq_ofNat_of_zero_le ht.1; obtain ⟨n, rfl⟩ := Int.eq_ofNat_of_zero_le (show 0 ≤ n by omega); rw [ofn, w1, w2, tmodN] at h; have hm : t % (X.length + 1) < X.length + 1 := Nat.mod_lt _ (by omega); generalize t % (X.length + 1) = k at *; have hk : k ≤ X.length := by omega
  rw [to_nat] at h; have ed : List.drop (Int.toNat 0) (X.take k) = X.take k := rfl; rw [ed] at h; obtain ⟨e1, e2, e3, e4, e5⟩ := coP_take hX hk; have lt : (X.take k).length = k := by rw [List.length_take]; omega
  have e6 : diP n n X P (X.take k) P = (rgI k (X.length - k), []) := by
    obtain ⟨_, _, d⟩ := dif_ok (n := n) (m := n) (X := X) (P := P) (Y := X.take k) (Q := P) (by rw [e1]; rfl); rw [d, e5, lt]; show (othF (rgI 0 k) 0 X.length, othF (rgI 0 k) 0 k) = _; rw [othF_rg, othF_rg, show max 0 k = k by omega, Nat.zero_add, Nat.zero_add, Nat.sub_self]; rfl
  have e5' : coP n n X P (X.take k) P = (rgI 0 k, rgI 0 k) := e5; rw [e1, e2, e3, e4, e5', e6] at h; have z1 : (((X.length + 1 : Nat) : Int) == 0) = false := by
    rw [beq_eq_false_iff_ne]; omega
  have z2 : (((rgI 0 k).length : Int) != (k : Int)) = false := by rw [rgI_len]; simp
  have z3 : IntKind.wrap IntKind.i64 ((X.length : Int) - k) = ((X.length - k : Nat) : Int) := by
    rw [wrap_in _ (by omega) (by omega)]; omega
  have z4 : (((rgI k (X.length - k)).length : Int) != ((X.length - k : Nat) : Int)) = false := by rw [rgI_len]; simp
  have z5 : (!(Nat.beq k X.length == ((k : Int) == (X.length : Int)))) = false := by
    by_cases e : k = X.length
    · rw [e, Nat.beq_refl]; simp
    · have a1 : Nat.beq k X.length = false := by
        cases g : Nat.beq k X.length with
        | false => rfl
        | true => exact absurd (Nat.eq_of_beq_eq_true g) e
      have a2 : ((k : Int) == (X.length : Int)) = false := by
        rw [beq_eq_false_iff_ne]; omega
      rw [a1, a2]; rfl
  simp only [ofn] at h; rw [z1, z2, z3, z4, z5, rgI_len] at h; rw [dt (show True ∧ k ≤ 100000 from ⟨trivial, by omega⟩), dt (show (0 : Int) ≤ k by omega), dt (show (k : Int) ≤ X.length by omega)] at h
  simp only [bnot, bc_t, bc_f, bne_self_eq_false, List.length_nil] at h; have z0 : (((0 : Nat) : Int) != 0) = false := rfl; rw [z0, bc_f] at h; refine .at ctBk_ok h (loopA (by rw [rgI_len]) (by rw [rgI_len]; omega) ?_ k 0 (by rw [rgI_len]; omega)); exact loopU (by rw [rgI_len]) (by rw [rgI_len]; omega) hk c3 hX rfl (X.length - k) 0 (by rw [rgI_len]; omega)
end ABrk
theorem compareBreaks_calls {γ : G} {w : World} {us : Array Value} (ra : List U) (wa : RowFit [.int .i64, .list shX, .list shX] ra) (t : Int) (wt : (Lit.int .u16 t).wf = true)
    (hax : ECL γ [.agg (recE [.int .i64, .list shX, .list shX] ra), .v (.int .u16 t)] us.toList) (hN : ∀ i, γ i = none) (hfz : FzAt γ w) : Calls Try.prog 7 us w fun e w' => e = .returned (.bool true) ∧ Stays w w' := by
  have hla := wa.len
  match ra, hla with
  | [x1, x2, x3], _ =>
    exact law_of ((ABrk.ends _ _ _ _ (u16_fit wt)).calls ctBk_ok (by kernel_rfl) hax hN hfz)
end Go.Proofs.Ytjlfedhkpdogbaa.Ev
namespace Go.Proofs.Ytjlfedhkpdogbaa
open Go.ChangeShapes Go.WideShapes Go.ChangeAt Go.RowKit Go.ChangeMaps
theorem knobCompareBreaks : ownKnob Try.prog.godebug = none := by kernel_rfl
theorem kidsCompareBreaks : Kids Try.prog (· < Try.prog.types.size) := kids_rows (by kernel_rfl) (by kernel_rfl)
theorem fullCompareBreaks : ∀ t e, t < Try.prog.types.size → Try.prog.underlying t = some (.slice e) → 0 < Try.prog.cellsOf e := slices_full_of Try.prog (by kernel_rfl)
set_option maxRecDepth 100000 in
theorem liftedCompareBreaks (os : Os) (started : os.Started) (H : Type) (enc : TypeId × Value → H) :
    ReturnsInHanded {} Try.checked os 7 .any (Rows.compareBreaksSpec.pre6 enc Try.prog Try.f7 Rows.compareBreaksRow.domain false) (Rows.compareBreaksSpec.post enc Try.prog Try.f7 false true false false) := by
  refine returnsInHanded_of_change (C := Try.checked) knobCompareBreaks started (by kernel_rfl) Try.func7
    (ChangeSpec.witness6 (enc := enc) (C := Try.checked) false ⟨#[], #[.agg #[.int .i64 0, .slice none 0 0, .slice none 0 0], .int .u16 0], []⟩ 8 (by kernel_rfl) (by kernel_rfl) (by kernel_rfl) (by kernel_rfl)) ?_
  intro W base args ds gs before hval0 hW hcnd _; have hval : ∀ (j : Nat) t v, Try.f7.params[j]? = some t → args[j]? = some v → Value.okWide Try.prog W .any base t v := hval0; have hW' := hW; obtain ⟨p, q, hA0, hV, rfl, hfz, hnd⟩ := hW; have hA : DataW.TrodAll enc Try.prog W 0 (fun _ => true) true Try.f7.params.toList args.toList ds p := hA0; have hAk := hA; rw [Try.params7] at hA hval; obtain ⟨rfl, rfl⟩ := trodVars_none hV; obtain ⟨v0, v1, d0, d1, p0, p1, rfl, rfl, rfl, h0, h1⟩ := trodAll_two hA
  obtain ⟨ra, wra, era⟩ := Ev.open_agg (k := 8) Try.underlying25 (by kernel_rfl : Ev.shB Try.prog 8 25 = some [.int .i64, .list [.int .i64, .int .i64, .int .i64, .int .i64], .list [.int .i64, .int .i64, .int .i64, .int .i64]]) (hval 0 25 v0 rfl rfl) h0; obtain ⟨t, rfl, rfl, rfl, wt⟩ := open_int Try.underlying35 (hval 1 35 v1 rfl rfl) h1; clear hA0 hval0; refine (Ev.compareBreaks_calls ra wra t wt (γ := Ev.gAll W) (.cons era (.cons (.v _) (.nil _))) (fun i => rfl) (Ev.fzAll_at W)).mono fun e W' ⟨he, hg⟩ => ?_; subst he
  exact ⟨_, rfl, post_law kidsCompareBreaks fullCompareBreaks Try.underlying4 (by kernel_rfl) (by kernel_rfl) rfl rfl (by rw [Try.params7]; decide) hW' hAk hg (ok_one (by kernel_rfl) rfl (okWide_bool_mk Try.underlying4 _))⟩
theorem compareBreaks_holds : Rows.CompareBreaksSaid :=
  OpenClaim.holds_of_wide 7 Try.f7 rfl rfl rfl rfl rfl rfl rfl ⟨rfl, rfl, rfl, rfl, rfl⟩ rfl rfl rfl rfl rfl (by kernel_rfl) Try.func7 (by kernel_rfl)
    (of_decide_eq_true (by kernel_rfl)) (by unfold Func.isWrapper; first | (rw [if_pos (by decide +kernel)]; kernel_rfl) | (rw [if_neg (by decide +kernel)]; exact ⟨rfl, rfl⟩))
    (fun os started H enc _ => liftedCompareBreaks os started H enc)
end Go.Proofs.Ytjlfedhkpdogbaa
