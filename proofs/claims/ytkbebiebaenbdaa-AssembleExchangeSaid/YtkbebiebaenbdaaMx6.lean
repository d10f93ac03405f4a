/- AssembleExchange returns true, for all arguments, in every world in which it is called, and nothing that was there turns. -/
import Derived.ProofKit
import Derived.ReadAgain
import Derived.OpenShut
import Derived.Test.YtkbebiebaenbdaaRows
import Derived.WalkKit
import Derived.Test.YtkbebiebaenbdaaMx5
set_option linter.unusedSimpArgs false
set_option linter.unusedVariables false
namespace Go.Proofs.Ytkbebiebaenbdaa.Ev
open Go.Proofs
noncomputable def rdyB (l : List (List U)) (d : List Bool) (i j : Nat) : Nat → Bool
  | 0 => !(d.getD i false)
  | k + 1 => bc (bc (!d.getD j false) (tch (l.getD j []) (l.getD i [])) false) false (rdyB l d i (j + 1) k)
noncomputable def rdy (l : List (List U)) (d : List Bool) (i : Nat) : Bool := rdyB l d i 0 i
namespace RRdy
noncomputable def RUN (s : ES) : ZF := RZ 101 ctK (atS 0 101 2) [] [[(1,none),(2,none),(3,none),(7,none)]] false s

noncomputable def sR (n : Int) (l : List (List U)) (d : List Bool) (i j : Int) : NS := ⟨[⟨101, 36, [(1, (EV.lst (SyC.bools (d)))), (2, (EV.v (Value.int IntKind.i64 (i)))), (3, (EV.ptr 0 0)), (7, iv j)], [.it (.code (nav [1, 0, 1, 0, 0, 0] (bodyOf Try.f101))), .it (.code (nav [1, 0, 1, 0, 0, 1] (bodyOf Try.f101))), .it (.inLoop (nav [1, 0, 1, 0, 0] (bodyOf Try.f101))), .it (.inBlock 0), .it (.code (nav [1, 1] (bodyOf Try.f101)))], [], Option.none⟩], [(0, (EK.cells 24 [(EV.v (Value.int IntKind.i64 (n))), (EV.lst (SyC.recs [(Sh.int IntKind.i64), (Sh.int IntKind.i64), Sh.str] (l)))] true))], 1⟩
theorem in_t (n : Int) (l : List (List U)) (d : List Bool) (i : Int) : RUN (st0 101 [.agg [iv n, wl l], bl d, iv i]) = (.at (sR (n) (l) (d) (i) ((0 : Int)))) := by kernel_rfl
theorem step_t (n : Int) (l : List (List U)) (d : List Bool) (i j : Int) : RUN (stOf (sR n l d i j)) = (bc (Decidable.decide (j < i))
  (bc (!List.getD d (Int.toNat j) Bool.false)
    (bc (bc (bc (bc (bc (Decidable.decide ((0 : Int) ≤ j)) (Nat.blt (Int.toNat j) (List.length d)) Bool.false) Bool.true Bool.false) (bc (bc (Nat.blt (Int.toNat j) (List.length d)) Bool.true Bool.false) (bc (eqB (!List.getD d (Int.toNat j) Bool.false) Bool.true) (bc (bc (bc (Decidable.decide ((0 : Int) ≤ j)) (Nat.blt (Int.toNat j) (List.length l)) Bool.false) Bool.true Bool.false) (bc (bc (Nat.blt (Int.toNat j) (List.length l)) Bool.true Bool.false) (bc (bc (bc (Decidable.decide ((0 : Int) ≤ i)) (Nat.blt (Int.toNat i) (List.length l)) Bool.false) Bool.true Bool.false) (bc (bc (Nat.blt (Int.toNat i) (List.length l)) Bool.true Bool.false) (bc (bc (Decidable.decide ((-1000 : Int) ≤ U.int (List.getD (List.getD l (Int.toNat j) []) (Nat.succ (0 : Nat)) (U.i (0 : Int))) ∧ U.int (List.getD (List.getD l (Int.toNat j) []) (Nat.succ (0 : Nat)) (U.i (0 : Int))) ≤ (1000 : Int) ∧ (-1000 : Int) ≤ U.int (List.getD (List.getD l (Int.toNat i) []) (Nat.succ (0 : Nat)) (U.i (0 : Int))) ∧ U.int (List.getD (List.getD l (Int.toNat i) []) (Nat.succ (0 : Nat)) (U.i (0 : Int))) ≤ (1000 : Int))) Bool.true Bool.false) Bool.true Bool.false) Bool.false) Bool.false) Bool.false) Bool.false) Bool.false) Bool.false) Bool.false) Bool.true Bool.false)
      (bc (bc (Decidable.decide (U.int (List.getD (List.getD l (Int.toNat j) []) (Nat.succ (0 : Nat)) (U.i (0 : Int))) - U.int (List.getD (List.getD l (Int.toNat i) []) (Nat.succ (0 : Nat)) (U.i (0 : Int))) ≤ (1 : Int))) (Decidable.decide (U.int (List.getD (List.getD l (Int.toNat i) []) (Nat.succ (0 : Nat)) (U.i (0 : Int))) - U.int (List.getD (List.getD l (Int.toNat j) []) (Nat.succ (0 : Nat)) (U.i (0 : Int))) ≤ (1 : Int))) Bool.false)
        (.done (EV.v (Value.bool false)) [] 0)
        (.at (sR (n) (l) (d) (i) (IntKind.wrap IntKind.i64 (j + (1 : Int))))))
      .bad)
    (bc (bc (bc (bc (bc (Decidable.decide ((0 : Int) ≤ j)) (Nat.blt (Int.toNat j) (List.length d)) Bool.false) Bool.true Bool.false) (bc (bc (Nat.blt (Int.toNat j) (List.length d)) Bool.true Bool.false) (bc (eqB (!List.getD d (Int.toNat j) Bool.false) Bool.false) Bool.true Bool.false) Bool.false) Bool.false) Bool.true Bool.false)
      (.at (sR (n) (l) (d) (i) (IntKind.wrap IntKind.i64 (j + (1 : Int)))))
      .bad))
  (bc (bc (bc (Decidable.decide ((0 : Int) ≤ i)) (Nat.blt (Int.toNat i) (List.length d)) Bool.false) Bool.true Bool.false)
    (bc (bc (Nat.blt (Int.toNat i) (List.length d)) Bool.true Bool.false)
      (.done (EV.v (Value.bool (!List.getD d (Int.toNat i) Bool.false))) [] 0)
      .bad)
    .bad)) := by kernel_rfl
theorem step {n : Int} {l : List (List U)} {d : List Bool} {i j : Nat} (hl : l.length ≤ 1000) (hq : d.length = l.length) (hi : i < l.length) (hj : j < i) (ha : AtG l) : RUN (stOf (sR n l d i j)) = bc (bc (!d.getD j false) (tch (l.getD j []) (l.getD i [])) false) (.done (bv false) [] 0) (.at (sR n l d i (j + 1 : Nat))) := by
  rw [step_t]
  have h1 := ha j (by omega)
  have h2 := ha i hi
  have h3 : -1000 ≤ rA (l.getD j []) ∧ rA (l.getD j []) ≤ 1000 ∧ -1000 ≤ rA (l.getD i []) ∧ rA (l.getD i []) ≤ 1000 := ⟨h1.1, h1.2, h2.1, h2.2⟩
  cases hb : d.getD j false
  · simp (disch := omega) only [Nat.add_eq, eqSy_self, eqN_self, bc_same, List.length_cons, ofn, wrap_in, dt, df, bltD, bltN, ble_of, bleN, beqD, bc_t, bc_f, nn_ok, Nat.zero_add, to_nat, Int.zero_add, Int.sub_zero, Int.sub_self, Int.cast_ofNat_Int, Int.natCast_zero, Int.toNat_zero, List.take_zero, List.nil_append, List.length_append, List.length_nil, fK0, fK1, fA0, fA1, fA2, fW0, fW1, fW2, hb, hq, dt h3, Bool.not_false, eqBt, bc_bc]
    unfold tch
    cases decide (rA (l.getD j []) - rA (l.getD i []) ≤ 1)
    · rfl
    · cases decide (rA (l.getD i []) - rA (l.getD j []) ≤ 1) <;> rfl
  · simp (disch := omega) only [Nat.add_eq, eqSy_self, eqN_self, bc_same, List.length_cons, ofn, wrap_in, dt, df, bltD, bltN, ble_of, bleN, beqD, bc_t, bc_f, nn_ok, Nat.zero_add, to_nat, Int.zero_add, Int.sub_zero, Int.sub_self, Int.cast_ofNat_Int, Int.natCast_zero, Int.toNat_zero, List.take_zero, List.nil_append, List.length_append, List.length_nil, fK0, fK1, fA0, fA1, fA2, fW0, fW1, fW2, hb, hq, Bool.not_true, eqBf, bc_bc]
    rfl
theorem last {n : Int} {l : List (List U)} {d : List Bool} {i j : Nat} (hl : l.length ≤ 1000) (hq : d.length = l.length) (hi : i < l.length) (hj : i ≤ j) : RUN (stOf (sR n l d i j)) = .done (bv (!(d.getD i false))) [] 0 := by
  rw [step_t]
  simp (disch := omega) only [Nat.add_eq, eqSy_self, eqN_self, bc_same, List.length_cons, ofn, wrap_in, dt, df, bltD, bltN, ble_of, bleN, beqD, bc_t, bc_f, nn_ok, Nat.zero_add, to_nat, Int.zero_add, Int.sub_zero, Int.sub_self, Int.cast_ofNat_Int, Int.natCast_zero, Int.toNat_zero, List.take_zero, List.nil_append, List.length_append, List.length_nil, hq]
theorem loop {n : Int} {l : List (List U)} {d : List Bool} {i : Nat} (hl : l.length ≤ 1000) (hq : d.length = l.length) (hi : i < l.length) (ha : AtG l) : ∀ (k j : Nat), j + k = i → EndZ 101 ctK false (stOf (sR n l d i j)) (bv (rdyB l d i j k)) [] 0
  | 0, j, h => .done (last hl hq hi (by omega))
  | k + 1, j, h => by
    have hs := step (n := n) hl hq hi (show j < i by omega) ha
    unfold rdyB
    cases hc : bc (!d.getD j false) (tch (l.getD j []) (l.getD i [])) false <;> rw [hc] at hs
    · exact .at ctK_ok hs (loop hl hq hi ha k (j + 1) (by omega))
    · exact .done hs
end RRdy
noncomputable def spRdy : ZCT := fun ax => match ax with
  | [.agg [.v (.int .i64 n), .lst (.recs [.int .i64, .int .i64, .str] l)], .lst (.bools d), .v (.int .i64 i)] => some ⟨decide (l.length ≤ 1000 ∧ d.length = l.length ∧ 0 ≤ i ∧ i < l.length ∧ AtG l), bv (rdy l d i.toNat), [], 0⟩
  | _ => none
theorem spRdy_ok : ZCtOk Try.prog 101 spRdy := fun γ w us ax r hs hc hax hN hfz => by
  unfold spRdy at hs
  split at hs
  case h_2 => cases hs
  rename_i n l d i
  obtain ⟨rfl⟩ := Option.some.inj hs
  have hc_0 : decide (l.length ≤ 1000 ∧ d.length = l.length ∧ 0 ≤ i ∧ i < l.length ∧ AtG l) = true := hc
  have hc := of_decide_eq_true hc_0
  exact EndZ.calls (by
    obtain ⟨h1, h2, h3, h4, h5⟩ := hc
    obtain ⟨i, rfl⟩ := Int.eq_ofNat_of_zero_le h3
    exact .at ctK_ok (RRdy.in_t n l d i) (RRdy.loop h1 h2 (by omega) h5 i 0 (by omega))) ctK_ok (by kernel_rfl) hax hN hfz
noncomputable def ctM5 : Tr ZCC := ctK.put 101 (some (dC spRdy))
theorem ctM5_ok : ZCtsOk Try.prog ctM5 := ctK_ok.add rfl spRdy_ok
namespace RMat
noncomputable def RUN (s : ES) : ZF := RZs 74 ctM5 [(atS 0 74 6, [[(2,none),(3,none),(6,none),(7,some (1, 3, .ints .i64 [])),(8,none)]]), (atS 0 74 10, [[(2,none),(3,none),(6,none),(7,some (1, 3, .ints .i64 [])),(8,none),(9,none),(10,none)]])] [] false s

noncomputable def sO (n m : Int) (l k : List (List U)) (d : List Bool) (z : Nat) (out : List Int) (nn : Bool) (j : Int) : NS := ⟨[⟨74, 75, [(2, (EV.ptr 0 0)), (3, (EV.ptr 1 0)), (6, EV.slO 2 1 z true), (7, EV.slO 3 1 out.length nn), (8, iv j)], [.it (.code (nav [1, 1, 1, 1, 0, 1, 0, 0, 0] (bodyOf Try.f74))), .it (.code (nav [1, 1, 1, 1, 0, 1, 0, 0, 1] (bodyOf Try.f74))), .it (.inLoop (nav [1, 1, 1, 1, 0, 1, 0, 0] (bodyOf Try.f74))), .it (.inBlock 0), .it (.code (nav [1, 1, 1, 1, 1] (bodyOf Try.f74)))], [], Option.none⟩], [(0, (EK.cells 24 [(EV.v (Value.int IntKind.i64 (n))), (EV.lst (SyC.recs [(Sh.int IntKind.i64), (Sh.int IntKind.i64), Sh.str] (l)))] true)), (1, (EK.cells 24 [(EV.v (Value.int IntKind.i64 (m))), (EV.lst (SyC.recs [(Sh.int IntKind.i64), (Sh.int IntKind.i64), Sh.str] (k)))] true)), (2, EK.seq 4 (.bools d) true), (3, EK.seq 3 (.ints .i64 out) nn)], 4⟩
noncomputable def sI (n m : Int) (l k : List (List U)) (d : List Bool) (z : Nat) (out : List Int) (nn : Bool) (j x i : Int) : NS := ⟨[⟨74, 75, [(2, (EV.ptr 0 0)), (3, (EV.ptr 1 0)), (6, (EV.slO 2 1 (z) true)), (7, (EV.slO 3 1 (List.length out) (nn))), (8, (EV.v (Value.int IntKind.i64 (j)))), (9, iv x), (10, iv i)], [.it (.code (nav [1, 1, 1, 1, 0, 1, 0, 0, 1, 0, 0, 1, 0, 1, 0, 0, 0] (bodyOf Try.f74))), .it (.code (nav [1, 1, 1, 1, 0, 1, 0, 0, 1, 0, 0, 1, 0, 1, 0, 0, 1] (bodyOf Try.f74))), .it (.inLoop (nav [1, 1, 1, 1, 0, 1, 0, 0, 1, 0, 0, 1, 0, 1, 0, 0] (bodyOf Try.f74))), .it (.inBlock 2), .it (.code (nav [1, 1, 1, 1, 0, 1, 0, 0, 1, 0, 0, 1, 1] (bodyOf Try.f74))), .it (.inBlock 1), .it (.code (nav [1, 1, 1, 1, 0, 1, 0, 0, 1, 1] (bodyOf Try.f74))), .it (.inLoop (nav [1, 1, 1, 1, 0, 1, 0, 0] (bodyOf Try.f74))), .it (.inBlock 0), .it (.code (nav [1, 1, 1, 1, 1] (bodyOf Try.f74)))], [], Option.none⟩], [(0, (EK.cells 24 [(EV.v (Value.int IntKind.i64 (n))), (EV.lst (SyC.recs [(Sh.int IntKind.i64), (Sh.int IntKind.i64), Sh.str] (l)))] true)), (1, (EK.cells 24 [(EV.v (Value.int IntKind.i64 (m))), (EV.lst (SyC.recs [(Sh.int IntKind.i64), (Sh.int IntKind.i64), Sh.str] (k)))] true)), (2, (EK.seq 4 (SyC.bools (d)) true)), (3, (EK.seq 3 (SyC.ints IntKind.i64 (out)) (nn)))], 4⟩
theorem in_t (n m : Int) (l k : List (List U)) : RUN (st0 74 [.agg [iv n, wl l], .agg [iv m, wl k]]) = (bc (n != m)
  (.done (EV.tup [(EV.v (Value.slice Option.none 0 0)), (EV.v (Value.bool false))]) [] 0)
  (bc (Int.ofNat (List.length l) != Int.ofNat (List.length k))
    (.done (EV.tup [(EV.v (Value.slice Option.none 0 0)), (EV.v (Value.bool false))]) [] 0)
    (bc (bc (Decidable.decide (Int.ofNat (List.length l) ≤ Int.ofNat (List.length l))) (Decidable.decide (Int.ofNat (List.length l) ≤ (65536 : Int))) Bool.false)
      (.at (sO (n) (m) (l) (k) (List.replicate (Int.toNat (Int.ofNat (List.length l))) Bool.false) (List.length (List.replicate (Int.toNat (Int.ofNat (List.length l))) Bool.false)) ([]) (Bool.false) ((0 : Int))))
      .bad))) := by kernel_rfl
theorem o_t (n m : Int) (l k : List (List U)) (d : List Bool) (z : Nat) (out : List Int) (nn : Bool) (j : Int) : RUN (stOf (sO n m l k d z out nn j)) = (bc (Decidable.decide (j < Int.ofNat (List.length k)))
  (.at (sI (n) (m) (l) (k) (d) (z) (out) (nn) (j) ((-1 : Int)) ((0 : Int))))
  (bc (bc (Nat.beq (List.length out) (List.length out)) Bool.true Bool.false)
    (.done (EV.tup [(EV.lst (SyC.ints IntKind.i64 (out))), (EV.v (Value.bool true))]) [] 0)
    .bad)) := by kernel_rfl
theorem i_t (n m : Int) (l k : List (List U)) (d : List Bool) (z : Nat) (out : List Int) (nn : Bool) (j x i : Int) : RUN (stOf (sI n m l k d z out nn j x i)) = (bc (Decidable.decide (i < Int.ofNat (List.length l)))
  (bc (Decidable.decide (x < (0 : Int)))
    (bc (bc (U.int (List.getD (List.getD l (Int.toNat i) []) (0 : Nat) (U.i (0 : Int))) == U.int (List.getD (List.getD k (Int.toNat j) []) (0 : Nat) (U.i (0 : Int)))) (bc (U.int (List.getD (List.getD l (Int.toNat i) []) (Nat.succ (0 : Nat)) (U.i (0 : Int))) == U.int (List.getD (List.getD k (Int.toNat j) []) (Nat.succ (0 : Nat)) (U.i (0 : Int)))) (bc (ByteArray.toList (U.str (List.getD (List.getD l (Int.toNat i) []) (Nat.succ (Nat.succ (0 : Nat))) (U.i (0 : Int)))) == ByteArray.toList (U.str (List.getD (List.getD k (Int.toNat j) []) (Nat.succ (Nat.succ (0 : Nat))) (U.i (0 : Int))))) Bool.true Bool.false) Bool.false) Bool.false)
      (bc (bc (bc (bc (bc (Decidable.decide ((0 : Int) ≤ i)) (Nat.blt (Int.toNat i) (List.length l)) Bool.false) Bool.true Bool.false) (bc (bc (Nat.blt (Int.toNat i) (List.length l)) Bool.true Bool.false) (bc (bc (bc (Decidable.decide ((0 : Int) ≤ j)) (Nat.blt (Int.toNat j) (List.length k)) Bool.false) Bool.true Bool.false) (bc (bc (Nat.blt (Int.toNat j) (List.length k)) Bool.true Bool.false) (bc (eqB (bc (U.int (List.getD (List.getD l (Int.toNat i) []) (0 : Nat) (U.i (0 : Int))) == U.int (List.getD (List.getD k (Int.toNat j) []) (0 : Nat) (U.i (0 : Int)))) (bc (U.int (List.getD (List.getD l (Int.toNat i) []) (Nat.succ (0 : Nat)) (U.i (0 : Int))) == U.int (List.getD (List.getD k (Int.toNat j) []) (Nat.succ (0 : Nat)) (U.i (0 : Int)))) (bc (ByteArray.toList (U.str (List.getD (List.getD l (Int.toNat i) []) (Nat.succ (Nat.succ (0 : Nat))) (U.i (0 : Int)))) == ByteArray.toList (U.str (List.getD (List.getD k (Int.toNat j) []) (Nat.succ (Nat.succ (0 : Nat))) (U.i (0 : Int))))) Bool.true Bool.false) Bool.false) Bool.false) Bool.true) (bc (bc (bc (bc (Nat.beq z (List.length d)) Bool.true Bool.false) (Decidable.decide (List.length l ≤ (1000 : Nat) ∧ List.length d = List.length l ∧ (0 : Int) ≤ i ∧ i < (Nat.cast (List.length l) : Int) ∧ AtG l)) Bool.false) Bool.true Bool.false) Bool.true Bool.false) Bool.false) Bool.false) Bool.false) Bool.false) Bool.false) Bool.true Bool.false)
        (bc (rdy l d (Int.toNat i))
          (.at (sI (n) (m) (l) (k) (d) (z) (out) (nn) (j) (i) (IntKind.wrap IntKind.i64 (i + (1 : Int)))))
          (.at (sI (n) (m) (l) (k) (d) (z) (out) (nn) (j) (x) (IntKind.wrap IntKind.i64 (i + (1 : Int))))))
        .bad)
      (bc (bc (bc (bc (bc (Decidable.decide ((0 : Int) ≤ i)) (Nat.blt (Int.toNat i) (List.length l)) Bool.false) Bool.true Bool.false) (bc (bc (Nat.blt (Int.toNat i) (List.length l)) Bool.true Bool.false) (bc (bc (bc (Decidable.decide ((0 : Int) ≤ j)) (Nat.blt (Int.toNat j) (List.length k)) Bool.false) Bool.true Bool.false) (bc (bc (Nat.blt (Int.toNat j) (List.length k)) Bool.true Bool.false) (bc (eqB (bc (U.int (List.getD (List.getD l (Int.toNat i) []) (0 : Nat) (U.i (0 : Int))) == U.int (List.getD (List.getD k (Int.toNat j) []) (0 : Nat) (U.i (0 : Int)))) (bc (U.int (List.getD (List.getD l (Int.toNat i) []) (Nat.succ (0 : Nat)) (U.i (0 : Int))) == U.int (List.getD (List.getD k (Int.toNat j) []) (Nat.succ (0 : Nat)) (U.i (0 : Int)))) (bc (ByteArray.toList (U.str (List.getD (List.getD l (Int.toNat i) []) (Nat.succ (Nat.succ (0 : Nat))) (U.i (0 : Int)))) == ByteArray.toList (U.str (List.getD (List.getD k (Int.toNat j) []) (Nat.succ (Nat.succ (0 : Nat))) (U.i (0 : Int))))) Bool.true Bool.false) Bool.false) Bool.false) Bool.false) Bool.true Bool.false) Bool.false) Bool.false) Bool.false) Bool.false) Bool.true Bool.false)
        (.at (sI (n) (m) (l) (k) (d) (z) (out) (nn) (j) (x) (IntKind.wrap IntKind.i64 (i + (1 : Int)))))
        .bad))
    (bc (Decidable.decide (x < (0 : Int)))
      (.done (EV.tup [(EV.v (Value.slice Option.none 0 0)), (EV.v (Value.bool false))]) [] 0)
      (bc (bc (bc (Decidable.decide ((0 : Int) ≤ x)) (Nat.blt (Int.toNat x) z) Bool.false) Bool.true Bool.false)
        (bc (Nat.blt (Int.toNat x) (List.length d))
          (bc (bc (Nat.beq (List.length out) (List.length out)) (bc (Nat.ble (List.length out + List.length (List.map (fun r => U.int (List.headD r (U.i (0 : Int)))) [[U.i x]])) (65536 : Nat)) (bc nn Bool.true (bc nn Bool.false Bool.true)) Bool.false) Bool.false)
            (.at (sO (n) (m) (l) (k) (List.set d (Int.toNat x) Bool.true) (z) (out ++ List.map (fun r => U.int (List.headD r (U.i (0 : Int)))) [[U.i x]]) (bc nn Bool.true (Nat.blt (0 : Nat) (List.length (List.map (fun r => U.int (List.headD r (U.i (0 : Int)))) [[U.i x]])))) (IntKind.wrap IntKind.i64 (j + (1 : Int)))))
            .bad)
          .bad)
        .bad)))
  (bc (Decidable.decide (x < (0 : Int)))
    (.done (EV.tup [(EV.v (Value.slice Option.none 0 0)), (EV.v (Value.bool false))]) [] 0)
    (bc (bc (bc (Decidable.decide ((0 : Int) ≤ x)) (Nat.blt (Int.toNat x) z) Bool.false) Bool.true Bool.false)
      (bc (Nat.blt (Int.toNat x) (List.length d))
        (bc (bc (Nat.beq (List.length out) (List.length out)) (bc (Nat.ble (List.length out + List.length (List.map (fun r => U.int (List.headD r (U.i (0 : Int)))) [[U.i x]])) (65536 : Nat)) (bc nn Bool.true (bc nn Bool.false Bool.true)) Bool.false) Bool.false)
          (.at (sO (n) (m) (l) (k) (List.set d (Int.toNat x) Bool.true) (z) (out ++ List.map (fun r => U.int (List.headD r (U.i (0 : Int)))) [[U.i x]]) (bc nn Bool.true (Nat.blt (0 : Nat) (List.length (List.map (fun r => U.int (List.headD r (U.i (0 : Int)))) [[U.i x]])))) (IntKind.wrap IntKind.i64 (j + (1 : Int)))))
          .bad)
        .bad)
      .bad))) := by kernel_rfl
end RMat
noncomputable def fnd (l : List (List U)) (x : List U) (d : List Bool) (i : Nat) : Nat → Int
  | 0 => -1
  | m + 1 => bc (bc (rowEq (l.getD i []) x) (rdy l d i) false) (i : Int) (fnd l x d (i + 1) m)
noncomputable def matG (l : List (List U)) (d : List Bool) (out : List Int) : List (List U) → List Int × Bool
  | [] => (out, true)
  | x :: xs => bc (decide (fnd l x d 0 l.length < 0)) ([], false) (matG l (d.set (fnd l x d 0 l.length).toNat true) (out ++ [fnd l x d 0 l.length]) xs)
theorem fnd_range (l : List (List U)) (x : List U) (d : List Bool) : ∀ (m i : Nat), fnd l x d i m = -1 ∨ ((i : Int) ≤ fnd l x d i m ∧ fnd l x d i m < (i : Int) + m)
  | 0, i => .inl rfl
  | m + 1, i => by
    unfold fnd
    cases bc (rowEq (l.getD i []) x) (rdy l d i) false
    · rw [bc_f]
      rcases fnd_range l x d m (i + 1) with h | h
      · exact .inl h
      · exact .inr (by omega)
    · rw [bc_t]; exact .inr (by omega)
noncomputable abbrev mtE (p : List Int × Bool) : EV := .tup [il p.1, bv p.2]
theorem mt_no : Weak (EV.tup [(EV.v (Value.slice Option.none 0 0)), (EV.v (Value.bool false))]) (mtE ([], false)) := .tup (.cons (Weak.nilI _) (.cons (Weak.refl _) .nil))
namespace RMat
theorem istep {n m : Int} {l k : List (List U)} {d : List Bool} {out : List Int} {nn : Bool} {i j : Nat} (hi : i < l.length) (hj : j < k.length) (hl : l.length ≤ 1000) (hk : k.length ≤ 1000) (hd : d.length = l.length) (ha : AtG l) : RUN (stOf (sI n m l k d l.length out nn j (-1) i)) = bc (bc (rowEq (l.getD i []) (k.getD j [])) (rdy l d i) false) (.at (sI n m l k d l.length out nn j i (i + 1 : Nat))) (.at (sI n m l k d l.length out nn j (-1) (i + 1 : Nat))) := by
  rw [i_t]
  have er : ∀ a b : List U, bc (rK a == rK b) (bc (rA a == rA b) (bc ((rW a).toList == (rW b).toList) true false) false) false = rowEq a b := fun _ _ => rfl
  have hc : l.length ≤ 1000 ∧ True ∧ 0 ≤ (i : Int) ∧ (i : Int) < l.length ∧ AtG l := ⟨hl, trivial, by omega, by omega, ha⟩
  cases hb : rowEq (l.getD i []) (k.getD j [])
  · simp (disch := omega) only [Nat.add_eq, eqSy_self, eqN_self, bc_same, List.length_cons, ofn, wrap_in, dt, df, bltD, bltN, ble_of, bleN, beqD, bc_t, bc_f, nn_ok, Nat.zero_add, to_nat, Int.zero_add, Int.sub_zero, Int.sub_self, Int.cast_ofNat_Int, Int.natCast_zero, Int.toNat_zero, List.take_zero, List.nil_append, List.length_append, List.length_nil, fK0, fK1, fA0, fA1, fA2, fW0, fW1, fW2, er, hb, hd, eqBf, bc_bc]
    rfl
  · cases hr : rdy l d i
    · simp (disch := omega) only [Nat.add_eq, eqSy_self, eqN_self, bc_same, List.length_cons, ofn, wrap_in, dt, df, bltD, bltN, ble_of, bleN, beqD, bc_t, bc_f, nn_ok, Nat.zero_add, to_nat, Int.zero_add, Int.sub_zero, Int.sub_self, Int.cast_ofNat_Int, Int.natCast_zero, Int.toNat_zero, List.take_zero, List.nil_append, List.length_append, List.length_nil, fK0, fK1, fA0, fA1, fA2, fW0, fW1, fW2, er, hb, hd, hr, dt hc, eqBt, bc_bc]
      rfl
    · simp (disch := omega) only [Nat.add_eq, eqSy_self, eqN_self, bc_same, List.length_cons, ofn, wrap_in, dt, df, bltD, bltN, ble_of, bleN, beqD, bc_t, bc_f, nn_ok, Nat.zero_add, to_nat, Int.zero_add, Int.sub_zero, Int.sub_self, Int.cast_ofNat_Int, Int.natCast_zero, Int.toNat_zero, List.take_zero, List.nil_append, List.length_append, List.length_nil, fK0, fK1, fA0, fA1, fA2, fW0, fW1, fW2, er, hb, hd, hr, dt hc, eqBt, bc_bc]
      rfl
theorem ino {n m : Int} {l k : List (List U)} {d : List Bool} {out : List Int} {nn : Bool} {i j : Nat} (hi : l.length ≤ i) : RUN (stOf (sI n m l k d l.length out nn j (-1) i)) = .done (EV.tup [(EV.v (Value.slice Option.none 0 0)), (EV.v (Value.bool false))]) [] 0 := by
  rw [i_t]
  simp (disch := omega) only [Nat.add_eq, eqSy_self, eqN_self, bc_same, List.length_cons, ofn, wrap_in, dt, df, bltD, bltN, ble_of, bleN, beqD, bc_t, bc_f, nn_ok, Nat.zero_add, to_nat, Int.zero_add, Int.sub_zero, Int.sub_self, Int.cast_ofNat_Int, Int.natCast_zero, Int.toNat_zero, List.take_zero, List.nil_append, List.length_append, List.length_nil]
theorem iyes {n m : Int} {l k : List (List U)} {d : List Bool} {out : List Int} {nn : Bool} {i j x : Nat} (hx : x < l.length) (hd : d.length = l.length) (hl : l.length ≤ 1000) (hk : k.length ≤ 1000) (hj : j < k.length) (ho : out.length ≤ 1000) : RUN (stOf (sI n m l k d l.length out nn j x i)) = .at (sO n m l k (d.set x true) l.length (out ++ [(x : Int)]) true (j + 1 : Nat)) := by
  rw [i_t]
  by_cases h : i < l.length
  · simp (disch := omega) only [Nat.add_eq, eqSy_self, eqN_self, bc_same, List.length_cons, ofn, wrap_in, dt, df, bltD, bltN, ble_of, bleN, beqD, bc_t, bc_f, nn_ok, Nat.zero_add, to_nat, Int.zero_add, Int.sub_zero, Int.sub_self, Int.cast_ofNat_Int, Int.natCast_zero, Int.toNat_zero, List.take_zero, List.nil_append, List.length_append, List.length_nil, hd, List.map_cons, List.map_nil]
    cases nn <;> rfl
  · simp (disch := omega) only [Nat.add_eq, eqSy_self, eqN_self, bc_same, List.length_cons, ofn, wrap_in, dt, df, bltD, bltN, ble_of, bleN, beqD, bc_t, bc_f, nn_ok, Nat.zero_add, to_nat, Int.zero_add, Int.sub_zero, Int.sub_self, Int.cast_ofNat_Int, Int.natCast_zero, Int.toNat_zero, List.take_zero, List.nil_append, List.length_append, List.length_nil, hd, List.map_cons, List.map_nil]
    cases nn <;> rfl
theorem ostep {n m : Int} {l k : List (List U)} {d : List Bool} {out : List Int} {nn : Bool} {z j : Nat} (hj : j < k.length) : RUN (stOf (sO n m l k d z out nn j)) = .at (sI n m l k d z out nn j (-1) (0 : Nat)) := by
  rw [o_t]
  simp (disch := omega) only [Nat.add_eq, eqSy_self, eqN_self, bc_same, List.length_cons, ofn, wrap_in, dt, df, bltD, bltN, ble_of, bleN, beqD, bc_t, bc_f, nn_ok, Nat.zero_add, to_nat, Int.zero_add, Int.sub_zero, Int.sub_self, Int.cast_ofNat_Int, Int.natCast_zero, Int.toNat_zero, List.take_zero, List.nil_append, List.length_append, List.length_nil]
theorem olast {n m : Int} {l k : List (List U)} {d : List Bool} {out : List Int} {nn : Bool} {z j : Nat} (hj : k.length ≤ j) : RUN (stOf (sO n m l k d z out nn j)) = .done (mtE (out, true)) [] 0 := by
  rw [o_t]
  simp (disch := omega) only [Nat.add_eq, eqSy_self, eqN_self, bc_same, List.length_cons, ofn, wrap_in, dt, df, bltD, bltN, ble_of, bleN, beqD, bc_t, bc_f, nn_ok, Nat.zero_add, to_nat, Int.zero_add, Int.sub_zero, Int.sub_self, Int.cast_ofNat_Int, Int.natCast_zero, Int.toNat_zero, List.take_zero, List.nil_append, List.length_append, List.length_nil]
theorem inner {n m : Int} {l k : List (List U)} {d : List Bool} {out : List Int} {nn : Bool} {j : Nat} {V : EV} (hl : l.length ≤ 1000) (hk : k.length ≤ 1000) (hd : d.length = l.length) (ha : AtG l) (hj : j < k.length) (ho : out.length ≤ 1000) :
    ∀ (q i : Nat), i + q = l.length → (∀ x : Nat, fnd l (k.getD j []) d i q = (x : Int) → EndZ 74 ctM5 false (stOf (sO n m l k (d.set x true) l.length (out ++ [(x : Int)]) true (j + 1 : Nat))) V [] 0) → (fnd l (k.getD j []) d i q = -1 → V = mtE ([], false)) → EndZ 74 ctM5 false (stOf (sI n m l k d l.length out nn j (-1) i)) V [] 0
  | 0, i, h, H1, H2 => by
    rw [H2 rfl]
    exact (EndZ.done (ino (by omega))).weak mt_no
  | q + 1, i, h, H1, H2 => by
    have hs := istep (n := n) (m := m) (out := out) (nn := nn) (show i < l.length by omega) hj hl hk hd ha
    unfold fnd at H1 H2
    cases hb : bc (rowEq (l.getD i []) (k.getD j [])) (rdy l d i) false <;> rw [hb] at hs H1 H2
    · exact .at ctM5_ok hs (inner hl hk hd ha hj ho q (i + 1) (by omega) H1 H2)
    · exact .at ctM5_ok hs (.at ctM5_ok (iyes (by omega) hd hl hk hj ho) (H1 i rfl))
theorem outer {n m : Int} {l k : List (List U)} (hl : l.length ≤ 1000) (hk : k.length ≤ 1000) (ha : AtG l) : ∀ (q j : Nat) (d : List Bool) (out : List Int) (nn : Bool), j + q = k.length → d.length = l.length → out.length ≤ j → EndZ 74 ctM5 false (stOf (sO n m l k d l.length out nn j)) (mtE (matG l d out (k.drop j))) [] 0
  | 0, j, d, out, nn, h, hd, ho => by
    rw [List.drop_eq_nil_of_le (by omega)]
    exact .done (olast (by omega))
  | q + 1, j, d, out, nn, h, hd, ho => by
    have hj : j < k.length := by omega
    rw [List.drop_eq_getElem_cons hj, ← getD_at (d := []) hj]
    unfold matG
    refine .at ctM5_ok (ostep hj) (inner hl hk hd ha hj (by omega) l.length 0 (by omega) (fun x hx => ?_) (fun hx => ?_))
    · rw [hx, df (by omega), bc_f, Int.toNat_natCast]
      exact outer hl hk ha q (j + 1) _ _ true (by omega) (by rw [List.length_set]; exact hd) (by simp; omega)
    · rw [hx, dt (by omega), bc_t]
end RMat
noncomputable def matW (n m : Int) (l k : List (List U)) : List Int × Bool := bc (n != m) ([], false) (bc (Int.ofNat l.length != Int.ofNat k.length) ([], false) (matG l (List.replicate l.length false) [] k))
theorem RMat.ends (n m : Int) (l k : List (List U)) (hl : l.length ≤ 1000) (ha : AtG l) : EndZ 74 ctM5 false (st0 74 [.agg [iv n, wl l], .agg [iv m, wl k]]) (mtE (matW n m l k)) [] 0 := by
  have h := RMat.in_t n m l k
  unfold matW
  cases h1 : (n != m) <;> rw [h1] at h
  · cases h2 : (Int.ofNat l.length != Int.ofNat k.length) <;> rw [h2] at h
    · have hb : l.length = k.length := by have : (l.length : Int) = k.length := by simpa using h2
                                          omega
      have e : Int.toNat (Int.ofNat l.length) = l.length := rfl
      simp (disch := omega) only [e, List.length_replicate, Nat.add_eq, eqSy_self, eqN_self, bc_same, List.length_cons, ofn, wrap_in, dt, df, bltD, bltN, ble_of, bleN, beqD, bc_t, bc_f, nn_ok, Nat.zero_add, to_nat, Int.zero_add, Int.sub_zero, Int.sub_self, Int.cast_ofNat_Int, Int.natCast_zero, Int.toNat_zero, List.take_zero, List.nil_append, List.length_append, List.length_nil] at h
      exact .at ctM5_ok h (RMat.outer hl (by omega) ha k.length 0 _ _ false (by omega) List.length_replicate (Nat.le_refl _))
    · exact (EndZ.done h).weak mt_no
  · exact (EndZ.done h).weak mt_no
noncomputable def spMat : ZCT := fun ax => match ax with
  | [.agg [.v (.int .i64 n), .lst (.recs [.int .i64, .int .i64, .str] l)], .agg [.v (.int .i64 m), .lst (.recs [.int .i64, .int .i64, .str] k)]] => some ⟨decide (l.length ≤ 1000 ∧ AtG l), mtE (matW n m l k), [], 0⟩
  | _ => none
theorem spMat_ok : ZCtOk Try.prog 74 spMat := fun γ w us ax r hs hc hax hN hfz => by
  unfold spMat at hs
  split at hs
  case h_2 => cases hs
  rename_i n l m k
  obtain ⟨rfl⟩ := Option.some.inj hs
  have hc_0 : decide (l.length ≤ 1000 ∧ AtG l) = true := hc
  have hc := of_decide_eq_true hc_0
  exact EndZ.calls (RMat.ends n m l k hc.1 hc.2) ctM5_ok (by kernel_rfl) hax hN hfz
noncomputable def ctS5 : Tr ZCC := ctJ0.put 74 (some (dC spMat))
theorem ctS5_ok : ZCtsOk Try.prog ctS5 := ctJ0_ok.add rfl spMat_ok
noncomputable def sm5 (n m : Int) (l k : List (List U)) : Bool := bc (both n m l k != 0) false (matW n m l k).2
namespace RSm5
noncomputable def RUN (s : ES) : ZF := RZ 37 ctS5 (fun _ => false) [] [] false s
theorem in_t (n m : Int) (l k : List (List U)) : RUN (st0 37 [.agg [iv n, wl l], .agg [iv m, wl k]]) = (bc (chk4 n l != (0 : Int))
  (bc (chk4 n l != (0 : Int))
    (.done (EV.tup [(EV.v (Value.bool false)), (EV.v (Value.int IntKind.i64 (chk4 n l)))]) [] 0)
    (bc (Decidable.decide (List.length l ≤ (1000 : Nat) ∧ AtG l))
      (.done (EV.tup [(EV.v (Value.bool (Prod.snd (matW n m l k)))), (EV.v (Value.int IntKind.i64 (0)))]) [] 0)
      .bad))
  (bc (chk4 m k != (0 : Int))
    (.done (EV.tup [(EV.v (Value.bool false)), (EV.v (Value.int IntKind.i64 (chk4 m k)))]) [] 0)
    (bc (Decidable.decide (List.length l ≤ (1000 : Nat) ∧ AtG l))
      (.done (EV.tup [(EV.v (Value.bool (Prod.snd (matW n m l k)))), (EV.v (Value.int IntKind.i64 (0)))]) [] 0)
      .bad))) := by kernel_rfl
theorem ends (n m : Int) (l k : List (List U)) : EndZ 37 ctS5 false (st0 37 [.agg [iv n, wl l], .agg [iv m, wl k]]) (.tup [bv (sm5 n m l k), iv (both n m l k)]) [] 0 := by
  have h := in_t n m l k
  unfold sm5 both
  cases h1 : (chk4 n l != 0) <;> rw [h1] at h
  · simp only [bc_f] at h ⊢
    cases h2 : (chk4 m k != 0) <;> rw [h2] at h
    · have v := chk4_ok (ne0 h1)
      have hq : l.length ≤ 1000 ∧ AtG l := ⟨by have := v.len; omega, v.at.g⟩
      simp only [bc_f, dt hq, bc_t, ne0 h2] at h ⊢
      exact .done h
    · simp only [bc_t] at h ⊢
      exact .done h
  · simp only [bc_t, h1] at h ⊢
    exact .done h
end RSm5
noncomputable def spSm5 : ZCT := fun ax => match ax with
  | [.agg [.v (.int .i64 n), .lst (.recs [.int .i64, .int .i64, .str] l)], .agg [.v (.int .i64 m), .lst (.recs [.int .i64, .int .i64, .str] k)]] => some ⟨decide (True), .tup [bv (sm5 n m l k), iv (both n m l k)], [], 0⟩
  | _ => none
theorem spSm5_ok : ZCtOk Try.prog 37 spSm5 := fun γ w us ax r hs hc hax hN hfz => by
  unfold spSm5 at hs
  split at hs
  case h_2 => cases hs
  rename_i n l m k
  obtain ⟨rfl⟩ := Option.some.inj hs
  have hc_0 : decide (True) = true := hc
  have hc := of_decide_eq_true hc_0
  exact EndZ.calls (RSm5.ends n m l k) ctS5_ok (by kernel_rfl) hax hN hfz
/-! ### what match says -/
theorem rdyB_iff (l : List (List U)) (d : List Bool) (i : Nat) : ∀ (k j : Nat), rdyB l d i j k = true ↔ d.getD i false = false ∧ ∀ j', j ≤ j' → j' < j + k → d.getD j' false = true ∨ tch (l.getD j' []) (l.getD i []) = false
  | 0, j => by
    unfold rdyB
    cases d.getD i false
    · exact ⟨fun _ => ⟨rfl, fun j' h1 h2 => by omega⟩, fun _ => rfl⟩
    · exact ⟨fun h => (by cases h), fun h => (by cases h.1)⟩
  | k + 1, j => by
    have ih := rdyB_iff l d i k (j + 1)
    unfold rdyB
    constructor
    · intro h
      cases hb : bc (!d.getD j false) (tch (l.getD j []) (l.getD i [])) false
      · rw [hb] at h
        obtain ⟨h1, h2⟩ := ih.1 h
        refine ⟨h1, fun j' h3 h4 => ?_⟩
        by_cases e : j' = j
        · subst e
          cases hd : d.getD j' false
          · rw [hd] at hb; exact .inr hb
          · exact .inl rfl
        · exact h2 j' (by omega) (by omega)
      · rw [hb] at h; cases h
    · rintro ⟨h1, h2⟩
      have : bc (!d.getD j false) (tch (l.getD j []) (l.getD i [])) false = false := by
        rcases h2 j (Nat.le_refl _) (by omega) with e | e
        · rw [e]; rfl
        · rw [e]; cases !d.getD j false <;> rfl
      rw [this]
      exact ih.2 ⟨h1, fun j' h3 h4 => h2 j' (by omega) (by omega)⟩
theorem rdy_ready (l : List (List U)) (d : List Bool) (i : Nat) : rdy l d i = MatchP.readyF tch (fun j => l.getD j []) (fun j => d.getD j false) i := by
  rw [Bool.eq_iff_iff]
  unfold rdy
  rw [rdyB_iff]
  unfold MatchP.readyF
  simp only [Bool.and_eq_true, Bool.not_eq_true', List.all_eq_true, List.mem_range, Bool.or_eq_true]
  constructor
  · rintro ⟨h1, h2⟩; exact ⟨h1, fun k hk => h2 k (Nat.zero_le _) (by omega)⟩
  · rintro ⟨h1, h2⟩; exact ⟨h1, fun k _ hk => h2 k (by omega)⟩
theorem fnd_first (l : List (List U)) (x : List U) (d : List Bool) : ∀ (m i : Nat), fnd l x d i m = match MatchP.firstI (fun i => rowEq (l.getD i []) x && MatchP.readyF tch (fun j => l.getD j []) (fun j => d.getD j false) i) m i with
    | none => -1
    | some j => (j : Int)
  | 0, i => rfl
  | m + 1, i => by
    have ih := fnd_first l x d m (i + 1)
    unfold fnd MatchP.firstI
    rw [rdy_ready]
    cases h1 : rowEq (l.getD i []) x
    · rw [bc_f, bc_f, Bool.false_and, if_neg (by simp)]; exact ih
    · rw [bc_t, Bool.true_and]
      cases h2 : MatchP.readyF tch (fun j => l.getD j []) (fun j => d.getD j false) i
      · rw [bc_f, if_neg (by simp)]; exact ih
      · rw [bc_t, if_pos rfl]
theorem matG_F (l : List (List U)) : ∀ (xs : List (List U)) (d : List Bool) (out : List Int), d.length = l.length → (matG l d out xs).2 = MatchP.matchF rowEq tch l.length (fun j => l.getD j []) (fun j => d.getD j false) xs
  | [], d, out, hd => rfl
  | x :: xs, d, out, hd => by
    have hr := fnd_range l x d l.length 0
    have hf := fnd_first l x d l.length 0
    unfold matG MatchP.matchF
    split at hf
    · rename_i e
      rw [hf, e, dt (by omega), bc_t]
    · rename_i j e
      rw [hf] at hr
      have hj0 : ¬ (j : Int) < 0 := Int.not_lt.2 (Int.natCast_nonneg j)
      rw [hf, e, df hj0, bc_f, Int.toNat_natCast, matG_F l xs (d.set j true) _ (by rw [List.length_set]; exact hd)]
      have : (fun i => (d.set j true).getD i false) = MatchP.upd (fun i => d.getD i false) j := by
        funext i
        unfold MatchP.upd
        by_cases e2 : i = j
        · subst e2
          rw [if_pos rfl, List.getD_eq_getElem?_getD, List.getElem?_set_self (by omega)]; rfl
        · rw [if_neg e2]
          show (d.set j true).getD i false = d.getD i false
          rw [List.getD_eq_getElem?_getD, List.getD_eq_getElem?_getD, List.getElem?_set_ne (fun h => e2 h.symm)]
      rw [this]
theorem sm5_of {n : Int} {l k : List (List U)} (h1 : chk4 n l = 0) (h2 : chk4 n k = 0) (hl : l.length = k.length) (h : MatchP.matchF rowEq tch l.length (fun j => l.getD j []) (fun _ => false) k = true) : sm5 n n l k = true ∧ both n n l k = 0 := by
  have hb : both n n l k = 0 := by unfold both; rw [h1]; exact h2
  refine ⟨?_, hb⟩
  unfold sm5 matW
  rw [hb]
  show (bc (n != n) ([], false) (bc (Int.ofNat l.length != Int.ofNat k.length) ([], false) (matG l (List.replicate l.length false) [] k))).2 = true
  rw [show (n != n) = false by simp, show (Int.ofNat l.length != Int.ofNat k.length) = false by rw [hl]; simp, bc_f, bc_f, matG_F _ _ _ _ List.length_replicate]
  have : (fun j => (List.replicate l.length false).getD j false) = fun _ => false := by
    funext j
    rw [List.getD_eq_getElem?_getD, List.getElem?_replicate]
    split <;> rfl
  rw [this]
  exact h
end Go.Proofs.Ytkbebiebaenbdaa.Ev
namespace Go.Proofs.Ytkbebiebaenbdaa.Ev
open Go.Proofs
/-! ### a word's letters exchanged -/
theorem idxB_lt {s : ByteArray} {c : Int} : ∀ (k i : Nat), i + k = s.size → idxB s c i k < s.size
  | 0, i, h => by show (-1 : Int) < _; omega
  | k + 1, i, h => by
    unfold idxB
    cases byteAt s i == c
    · exact idxB_lt k (i + 1) (by omega)
    · show (i : Int) < _; omega
theorem idx_lt (s : ByteArray) (c : Int) : idx s c < s.size := idxB_lt _ _ (by omega)
noncomputable def chgB (t w : ByteArray) (i : Nat) (q : ByteArray) : Nat → ByteArray
  | 0 => q
  | k + 1 => chgB t w (i + 1) (q ++ t.extract (idx bLet (byteAt w i)).toNat ((idx bLet (byteAt w i)).toNat + 1)) k
noncomputable def chg (t w : ByteArray) : ByteArray := chgB t w 0 ByteArray.empty w.size
noncomputable def chgW (t w : ByteArray) : ByteArray := bc (chk3 w != 0) ByteArray.empty (chg t w)
namespace RChg
noncomputable def RUN (s : ES) : ZF := RZ 96 ctC (atS 0 96 6) [] [[(0,none),(1,none),(7,none),(8,none)]] false s

noncomputable def sG (w t : ByteArray) (i : Int) (q : ByteArray) : NS := ⟨[⟨96, 33, [(0, sv w), (1, sv t), (7, sv q), (8, iv i)], [.it (.code (nav [1, 1, 1, 1, 0, 1, 0, 0, 0] (bodyOf Try.f96))), .it (.code (nav [1, 1, 1, 1, 0, 1, 0, 0, 1] (bodyOf Try.f96))), .it (.inLoop (nav [1, 1, 1, 1, 0, 1, 0, 0] (bodyOf Try.f96))), .it (.inBlock 0), .it (.code (nav [1, 1, 1, 1, 1] (bodyOf Try.f96)))], [], Option.none⟩], [], 0⟩
theorem step_t (w t : ByteArray) (i : Int) (q : ByteArray) : RUN (stOf (sG w t i q)) = (bc (Decidable.decide (i < Int.ofNat (ByteArray.size w)))
  (bc (bc (bc (Decidable.decide ((0 : Int) ≤ i)) (Nat.blt (Int.toNat i) (ByteArray.size w)) Bool.false) Bool.true Bool.false)
    (bc (bc (bc (Decidable.decide ((0 : Int) ≤ idx { data := #[(67 : UInt8), (84 : UInt8), (76 : UInt8), (82 : UInt8), (80 : UInt8), (99 : UInt8), (116 : UInt8), (108 : UInt8), (114 : UInt8)] } (byteAt w (Int.toNat i)))) (bc (Decidable.decide (idx { data := #[(67 : UInt8), (84 : UInt8), (76 : UInt8), (82 : UInt8), (80 : UInt8), (99 : UInt8), (116 : UInt8), (108 : UInt8), (114 : UInt8)] } (byteAt w (Int.toNat i)) ≤ IntKind.wrap IntKind.i64 (idx { data := #[(67 : UInt8), (84 : UInt8), (76 : UInt8), (82 : UInt8), (80 : UInt8), (99 : UInt8), (116 : UInt8), (108 : UInt8), (114 : UInt8)] } (byteAt w (Int.toNat i)) + (1 : Int)))) (Decidable.decide (IntKind.wrap IntKind.i64 (idx { data := #[(67 : UInt8), (84 : UInt8), (76 : UInt8), (82 : UInt8), (80 : UInt8), (99 : UInt8), (116 : UInt8), (108 : UInt8), (114 : UInt8)] } (byteAt w (Int.toNat i)) + (1 : Int)) ≤ Int.ofNat (ByteArray.size t))) Bool.false) Bool.false) Bool.true Bool.false)
      (bc (bc (Nat.blt (Nat.add (ByteArray.size q) (ByteArray.size (ByteArray.extract t (Int.toNat (idx { data := #[(67 : UInt8), (84 : UInt8), (76 : UInt8), (82 : UInt8), (80 : UInt8), (99 : UInt8), (116 : UInt8), (108 : UInt8), (114 : UInt8)] } (byteAt w (Int.toNat i)))) (Int.toNat (IntKind.wrap IntKind.i64 (idx { data := #[(67 : UInt8), (84 : UInt8), (76 : UInt8), (82 : UInt8), (80 : UInt8), (99 : UInt8), (116 : UInt8), (108 : UInt8), (114 : UInt8)] } (byteAt w (Int.toNat i)) + (1 : Int))))))) (9223372036854775808 : Nat)) Bool.true Bool.false)
        (.at (sG (w) (t) (IntKind.wrap IntKind.i64 (i + (1 : Int))) (q ++ ByteArray.extract t (Int.toNat (idx { data := #[(67 : UInt8), (84 : UInt8), (76 : UInt8), (82 : UInt8), (80 : UInt8), (99 : UInt8), (116 : UInt8), (108 : UInt8), (114 : UInt8)] } (byteAt w (Int.toNat i)))) (Int.toNat (IntKind.wrap IntKind.i64 (idx { data := #[(67 : UInt8), (84 : UInt8), (76 : UInt8), (82 : UInt8), (80 : UInt8), (99 : UInt8), (116 : UInt8), (108 : UInt8), (114 : UInt8)] } (byteAt w (Int.toNat i)) + (1 : Int)))))))
        .bad)
      .bad)
    .bad)
  (.done (EV.tup [(EV.v (Value.string (q))), (EV.v (Value.int IntKind.i64 (0)))]) [] 0)) := by kernel_rfl
theorem in_t (w t : ByteArray) : RUN (st0 96 [sv w, sv t]) = (bc (chk3 w != (0 : Int))
  (.done (EV.tup [(EV.v (Value.string (ByteArray.mk #[]))), (EV.v (Value.int IntKind.i64 (chk3 w)))]) [] 0)
  (.at (sG (w) (t) ((0 : Int)) ({ data := #[] })))) := by kernel_rfl
theorem step {w t q : ByteArray} {i j : Nat} (hi : i < w.size) (hw : w.size ≤ 16) (ht : t.size = 9) (hj : idx bLet (byteAt w i) = (j : Int)) (hj9 : j < 9) (hq : q.size ≤ 1000) : RUN (stOf (sG w t i q)) = .at (sG w t (i + 1 : Nat) (q ++ t.extract j (j + 1))) := by
  rw [step_t]
  have e : idx (ByteArray.mk #[(67 : UInt8), (84 : UInt8), (76 : UInt8), (82 : UInt8), (80 : UInt8), (99 : UInt8), (116 : UInt8), (108 : UInt8), (114 : UInt8)]) (byteAt w (Int.toNat (i : Int))) = (j : Int) := hj
  have e2 : IntKind.wrap IntKind.i64 ((j : Int) + 1) = ((j + 1 : Nat) : Int) := by simp (disch := omega) only [wrap_in]; rfl
  simp only [e, e2]
  have e3 : (t.extract j (j + 1)).size = 1 := by rw [ByteArray.size_extract]; omega
  simp (disch := omega) only [Nat.add_eq, eqSy_self, eqN_self, bc_same, List.length_cons, ofn, wrap_in, dt, df, bltD, bltN, ble_of, bleN, beqD, bc_t, bc_f, nn_ok, Nat.zero_add, to_nat, Int.zero_add, Int.sub_zero, Int.sub_self, Int.cast_ofNat_Int, Int.natCast_zero, Int.toNat_zero, List.take_zero, List.nil_append, List.length_append, List.length_nil, e3, Int.toNat_natCast]
  rfl
theorem last {w t q : ByteArray} {i : Nat} (hi : w.size ≤ i) : RUN (stOf (sG w t i q)) = .done (.tup [sv q, iv 0]) [] 0 := by
  rw [step_t]
  simp (disch := omega) only [Nat.add_eq, eqSy_self, eqN_self, bc_same, List.length_cons, ofn, wrap_in, dt, df, bltD, bltN, ble_of, bleN, beqD, bc_t, bc_f, nn_ok, Nat.zero_add, to_nat, Int.zero_add, Int.sub_zero, Int.sub_self, Int.cast_ofNat_Int, Int.natCast_zero, Int.toNat_zero, List.take_zero, List.nil_append, List.length_append, List.length_nil]
theorem loop {w t : ByteArray} (hw : w.size ≤ 16) (ht : t.size = 9) : ∀ (k i : Nat) (q : ByteArray), i + k = w.size → q.size ≤ i → badF w i k = false → EndZ 96 ctC false (stOf (sG w t i q)) (.tup [sv (chgB t w i q k), iv 0]) [] 0
  | 0, i, q, h, hq, hb => .done (last (by omega))
  | k + 1, i, q, h, hq, hb => by
    unfold badF at hb
    have h0 : ¬ idx bLet (byteAt w i) < 0 := fun h => by rw [dt h, bc_t] at hb; cases hb
    rw [df h0, bc_f] at hb
    obtain ⟨j, hj⟩ := Int.eq_ofNat_of_zero_le (show 0 ≤ idx bLet (byteAt w i) by omega)
    have h9 : idx bLet (byteAt w i) < 9 := idx_lt bLet _
    have e3 : (t.extract j (j + 1)).size = 1 := by rw [ByteArray.size_extract]; omega
    unfold chgB
    rw [hj, Int.toNat_natCast]
    exact .at ctC_ok (step (by omega) hw ht hj (by omega) (by omega)) (loop hw ht k (i + 1) _ (by omega) (by rw [ByteArray.size_append, e3]; omega) hb)
end RChg
theorem chk3_0 {w : ByteArray} (h : chk3 w = 0) : w.size ≤ 16 ∧ badF w 0 w.size = false := by
  unfold chk3 at h
  by_cases h1 : 16 < (w.size : Int)
  · rw [dt h1, bc_t] at h; cases h
  rw [df h1, bc_f] at h
  refine ⟨by omega, ?_⟩
  cases hb : badF w 0 w.size
  · rfl
  · rw [hb, bc_t] at h; cases h
theorem RChg.ends (w t : ByteArray) (ht : t.size = 9) : EndZ 96 ctC false (st0 96 [sv w, sv t]) (.tup [sv (chgW t w), iv (chk3 w)]) [] 0 := by
  have h := RChg.in_t w t
  unfold chgW
  cases h1 : (chk3 w != 0) <;> rw [h1] at h
  · have e := ne0 h1
    rw [e]
    exact .at ctC_ok h (RChg.loop (chk3_0 e).1 ht w.size 0 _ (by omega) (Nat.le_refl _) (chk3_0 e).2)
  · exact .done h
noncomputable def spRChg : ZCT := fun ax => match ax with
  | [.v (.string w), .v (.string t)] => some ⟨decide (t.size = 9), .tup [sv (chgW t w), iv (chk3 w)], [], 0⟩
  | _ => none
theorem spRChg_ok : ZCtOk Try.prog 96 spRChg := fun γ w us ax r hs hc hax hN hfz => by
  unfold spRChg at hs
  split at hs
  case h_2 => cases hs
  rename_i w t
  obtain ⟨rfl⟩ := Option.some.inj hs
  have hc_0 : decide (t.size = 9) = true := hc
  have hc := of_decide_eq_true hc_0
  exact EndZ.calls (RChg.ends w t hc) ctC_ok (by kernel_rfl) hax hN hfz
noncomputable def ctQ : Tr ZCC := ctC.put 96 (some (dC spRChg))
theorem ctQ_ok : ZCtsOk Try.prog ctQ := ctC_ok.add rfl spRChg_ok
noncomputable abbrev bFlip : ByteArray := ByteArray.mk #[67, 84, 82, 76, 80, 99, 116, 114, 108]
noncomputable abbrev bMir : ByteArray := ByteArray.mk #[99, 116, 114, 108, 80, 67, 84, 82, 76]
namespace RWFlip
noncomputable def RUN (s : ES) : ZF := RZ 95 ctQ (fun _ => false) [] [] false s
theorem in_t (w : ByteArray) : RUN (st0 95 [sv w]) = (.done (EV.tup [(EV.v (Value.string (chgW { data := #[(67 : UInt8), (84 : UInt8), (82 : UInt8), (76 : UInt8), (80 : UInt8), (99 : UInt8), (116 : UInt8), (114 : UInt8), (108 : UInt8)] } w))), (EV.v (Value.int IntKind.i64 (chk3 w)))]) [] 0) := by kernel_rfl
end RWFlip
namespace RWMir
noncomputable def RUN (s : ES) : ZF := RZ 68 ctQ (fun _ => false) [] [] false s
theorem in_t (w : ByteArray) : RUN (st0 68 [sv w]) = (.done (EV.tup [(EV.v (Value.string (chgW { data := #[(99 : UInt8), (116 : UInt8), (114 : UInt8), (108 : UInt8), (80 : UInt8), (67 : UInt8), (84 : UInt8), (82 : UInt8), (76 : UInt8)] } w))), (EV.v (Value.int IntKind.i64 (chk3 w)))]) [] 0) := by kernel_rfl
end RWMir
noncomputable def spRWF : ZCT := fun ax => match ax with
  | [.v (.string w)] => some ⟨decide (True), .tup [sv (chgW bFlip w), iv (chk3 w)], [], 0⟩
  | _ => none
theorem spRWF_ok : ZCtOk Try.prog 95 spRWF := fun γ w us ax r hs hc hax hN hfz => by
  unfold spRWF at hs
  split at hs
  case h_2 => cases hs
  rename_i w
  obtain ⟨rfl⟩ := Option.some.inj hs
  have hc_0 : decide (True) = true := hc
  have hc := of_decide_eq_true hc_0
  exact EndZ.calls (.done (RWFlip.in_t w)) ctQ_ok (by kernel_rfl) hax hN hfz
noncomputable def spRWM : ZCT := fun ax => match ax with
  | [.v (.string w)] => some ⟨decide (True), .tup [sv (chgW bMir w), iv (chk3 w)], [], 0⟩
  | _ => none
theorem spRWM_ok : ZCtOk Try.prog 68 spRWM := fun γ w us ax r hs hc hax hN hfz => by
  unfold spRWM at hs
  split at hs
  case h_2 => cases hs
  rename_i w
  obtain ⟨rfl⟩ := Option.some.inj hs
  have hc_0 : decide (True) = true := hc
  have hc := of_decide_eq_true hc_0
  exact EndZ.calls (.done (RWMir.in_t w)) ctQ_ok (by kernel_rfl) hax hN hfz
noncomputable def ctW : Tr ZCC := ((ctJ0.put 95 (some (dC spRWF))).put 68 (some (dC spRWM)))
theorem ctW_ok : ZCtsOk Try.prog ctW := (ctJ0_ok.add rfl spRWF_ok).add rfl spRWM_ok
/-! ### flips, mirrors -/
noncomputable def flR (t : ByteArray) (n : Int) (r : List U) : List U := mkR (rK r) (n - 2 - rA r) (chgW t (rW r))
noncomputable def flL (t : ByteArray) (n : Int) (l : List (List U)) : List (List U) := l.map (flR t n)
theorem flL_len (t : ByteArray) (n : Int) (l : List (List U)) : (flL t n l).length = l.length := by unfold flL; simp
namespace RFlp
noncomputable def RUN (s : ES) : ZF := RZ 66 ctW (atS 0 66 3) [] [[(1,none),(2,none),(3,some (3, 81, .recs shW [])),(4,none)]] false s

noncomputable def sP (n : Int) (l : List (List U)) (i : Int) (q : List (List U)) (nn : Bool) : NS := ⟨[⟨66, 42, [(1, (EV.ptr 0 0)), (2, (EV.ptr 1 0)), (3, (EV.ptr 2 0)), (4, iv i)], [.it (.code (nav [1, 1, 0, 1, 0, 0, 0] (bodyOf Try.f66))), .it (.code (nav [1, 1, 0, 1, 0, 0, 1] (bodyOf Try.f66))), .it (.inLoop (nav [1, 1, 0, 1, 0, 0] (bodyOf Try.f66))), .it (.inBlock 0), .it (.code (nav [1, 1, 1] (bodyOf Try.f66)))], [], Option.none⟩], [(0, (EK.cells 24 [(EV.v (Value.int IntKind.i64 (n))), (EV.lst (SyC.recs [(Sh.int IntKind.i64), (Sh.int IntKind.i64), Sh.str] (l)))] true)), (1, (EK.cells 24 [(EV.v (Value.int IntKind.i64 (0))), (EV.v (Value.slice Option.none 0 0))] true)), (2, EK.cells 24 [iv n, EV.slO 3 3 q.length nn] true), (3, EK.seq 81 (.recs shW q) nn)], 4⟩
theorem in_t (n : Int) (l : List (List U)) : RUN (st0 66 [.agg [iv n, wl l]]) = (.at (sP (n) (l) ((0 : Int)) ([]) (Bool.false))) := by kernel_rfl
theorem step_t (n : Int) (l : List (List U)) (i : Int) (q : List (List U)) (nn : Bool) : RUN (stOf (sP n l i q nn)) = (bc (Decidable.decide (i < Int.ofNat (List.length l)))
  (bc (bc (bc (Decidable.decide ((0 : Int) ≤ i)) (Nat.blt (Int.toNat i) (List.length l)) Bool.false) Bool.true Bool.false)
    (bc (bc (Nat.blt (Int.toNat i) (List.length l)) Bool.true Bool.false)
      (bc (bc (Nat.beq (List.length q) (List.length q)) (bc (Nat.ble (List.length q + List.length [[U.i (U.int (List.getD (List.getD l (Int.toNat i) []) (0 : Nat) (U.i (0 : Int)))), U.i (IntKind.wrap IntKind.i64 (IntKind.wrap IntKind.i64 (n - (2 : Int)) - U.int (List.getD (List.getD l (Int.toNat i) []) (Nat.succ (0 : Nat)) (U.i (0 : Int))))), U.s (chgW bFlip (U.str (List.getD (List.getD l (Int.toNat i) []) (Nat.succ (Nat.succ (0 : Nat))) (U.i (0 : Int)))))]]) (65536 : Nat)) (bc nn Bool.true (bc nn Bool.false Bool.true)) Bool.false) Bool.false)
        (.at (sP (n) (l) (IntKind.wrap IntKind.i64 (i + (1 : Int))) (q ++ [[U.i (U.int (List.getD (List.getD l (Int.toNat i) []) (0 : Nat) (U.i (0 : Int)))), U.i (IntKind.wrap IntKind.i64 (IntKind.wrap IntKind.i64 (n - (2 : Int)) - U.int (List.getD (List.getD l (Int.toNat i) []) (Nat.succ (0 : Nat)) (U.i (0 : Int))))), U.s (chgW bFlip (U.str (List.getD (List.getD l (Int.toNat i) []) (Nat.succ (Nat.succ (0 : Nat))) (U.i (0 : Int)))))]]) (bc nn Bool.true (Nat.blt (0 : Nat) (List.length [[U.i (U.int (List.getD (List.getD l (Int.toNat i) []) (0 : Nat) (U.i (0 : Int)))), U.i (IntKind.wrap IntKind.i64 (IntKind.wrap IntKind.i64 (n - (2 : Int)) - U.int (List.getD (List.getD l (Int.toNat i) []) (Nat.succ (0 : Nat)) (U.i (0 : Int))))), U.s (chgW bFlip (U.str (List.getD (List.getD l (Int.toNat i) []) (Nat.succ (Nat.succ (0 : Nat))) (U.i (0 : Int)))))]])))))
        .bad)
      .bad)
    .bad)
  (bc (bc (Nat.beq (List.length q) (List.length q)) Bool.true Bool.false)
    (.done (EV.agg [(EV.v (Value.int IntKind.i64 (n))), (EV.lst (SyC.recs [(Sh.int IntKind.i64), (Sh.int IntKind.i64), Sh.str] (q)))]) [] 0)
    .bad)) := by kernel_rfl
theorem step {n : Int} {l : List (List U)} {i : Nat} {q : List (List U)} {nn : Bool} (hi : i < l.length) (hl : l.length ≤ 1000) (hq : q.length ≤ 1000) (ha : 0 ≤ rA l[i] ∧ rA l[i] ≤ 1000) (hk : -1000 ≤ n ∧ n ≤ 1000) : RUN (stOf (sP n l i q nn)) = .at (sP n l (i + 1 : Nat) (q ++ [flR bFlip n l[i]]) true) := by
  rw [step_t]
  have e : l.getD i [] = l[i] := getD_at hi
  simp (disch := omega) only [Nat.add_eq, eqSy_self, eqN_self, bc_same, List.length_cons, ofn, wrap_in, dt, df, bltD, bltN, ble_of, bleN, beqD, bc_t, bc_f, nn_ok, Nat.zero_add, to_nat, Int.zero_add, Int.sub_zero, Int.sub_self, Int.cast_ofNat_Int, Int.natCast_zero, Int.toNat_zero, List.take_zero, List.nil_append, List.length_append, List.length_nil, e, fK0, fK1, fA0, fA1, fA2, fW0, fW1, fW2]
  rfl
theorem last {n : Int} {l : List (List U)} {i : Nat} {q : List (List U)} {nn : Bool} (hi : l.length ≤ i) : RUN (stOf (sP n l i q nn)) = .done (.agg [iv n, wl q]) [] 0 := by
  rw [step_t]
  simp (disch := omega) only [Nat.add_eq, eqSy_self, eqN_self, bc_same, List.length_cons, ofn, wrap_in, dt, df, bltD, bltN, ble_of, bleN, beqD, bc_t, bc_f, nn_ok, Nat.zero_add, to_nat, Int.zero_add, Int.sub_zero, Int.sub_self, Int.cast_ofNat_Int, Int.natCast_zero, Int.toNat_zero, List.take_zero, List.nil_append, List.length_append, List.length_nil]
  rfl
theorem loop {n : Int} {l : List (List U)} (hl : l.length ≤ 1000) (ha : AtOk l) (hk : -1000 ≤ n ∧ n ≤ 1000) : ∀ (m i : Nat) (q : List (List U)) (nn : Bool), i + m = l.length → q.length ≤ i → EndZ 66 ctW false (stOf (sP n l i q nn)) (.agg [iv n, wl (q ++ flL bFlip n (l.drop i))]) [] 0
  | 0, i, q, nn, h, hq => by
    rw [List.drop_eq_nil_of_le (by omega)]
    show EndZ _ _ _ _ (.agg [iv n, wl (q ++ [])]) _ _
    rw [List.append_nil]
    exact .done (last (by omega))
  | m + 1, i, q, nn, h, hq => by
    have hi : i < l.length := by omega
    rw [List.drop_eq_getElem_cons hi]
    show EndZ _ _ _ _ (.agg [iv n, wl (q ++ (flR bFlip n l[i] :: flL bFlip n (l.drop (i + 1))))]) _ _
    rw [show q ++ (flR bFlip n l[i] :: flL bFlip n (l.drop (i + 1))) = (q ++ [flR bFlip n l[i]]) ++ flL bFlip n (l.drop (i + 1)) by simp]
    exact .at ctW_ok (step hi hl (by omega) (ha _ (List.getElem_mem hi)) hk) (loop hl ha hk m (i + 1) _ true (by omega) (by simp; omega))
end RFlp
noncomputable def spRFlp : ZCT := fun ax => match ax with
  | [.agg [.v (.int .i64 n), .lst (.recs [.int .i64, .int .i64, .str] l)]] => some ⟨decide (l.length ≤ 1000 ∧ AtOk l ∧ -1000 ≤ n ∧ n ≤ 1000), .agg [iv n, wl (flL bFlip n l)], [], 0⟩
  | _ => none
theorem spRFlp_ok : ZCtOk Try.prog 66 spRFlp := fun γ w us ax r hs hc hax hN hfz => by
  unfold spRFlp at hs
  split at hs
  case h_2 => cases hs
  rename_i n l
  obtain ⟨rfl⟩ := Option.some.inj hs
  have hc_0 : decide (l.length ≤ 1000 ∧ AtOk l ∧ -1000 ≤ n ∧ n ≤ 1000) = true := hc
  have hc := of_decide_eq_true hc_0
  exact EndZ.calls (.at ctW_ok (RFlp.in_t n l) (by have := RFlp.loop (n := n) hc.1 hc.2.1 hc.2.2 l.length 0 [] false (by omega) (by simp); rw [List.nil_append] at this; exact this)) ctW_ok (by kernel_rfl) hax hN hfz
noncomputable def ctV : Tr ZCC := ctW.put 66 (some (dC spRFlp))
theorem ctV_ok : ZCtsOk Try.prog ctV := ctW_ok.add rfl spRFlp_ok
noncomputable def turE (n : Int) (l : List (List U)) : Int := chk4 n l
noncomputable def turP (n : Int) (l : List (List U)) : Int := bc (chk4 n l != 0) 0 n
noncomputable def turL (t : ByteArray) (n : Int) (l : List (List U)) : List (List U) := bc (chk4 n l != 0) [] (flL t n l)
namespace RFlip
noncomputable def RUN (s : ES) : ZF := RZ 28 ctV (fun _ => false) [] [] false s
theorem in_t (n : Int) (l : List (List U)) : RUN (st0 28 [.agg [iv n, wl l]]) = (bc (chk4 n l != (0 : Int))
  (.done (EV.tup [(EV.v (Value.agg (Array.mk [(Value.int IntKind.i64 (0)), (Value.slice Option.none 0 0)]))), (EV.v (Value.int IntKind.i64 (chk4 n l)))]) [] 0)
  (bc (Decidable.decide (List.length l ≤ (1000 : Nat) ∧ AtOk l ∧ (-1000 : Int) ≤ n ∧ n ≤ (1000 : Int)))
    (.done (EV.tup [(EV.agg [(EV.v (Value.int IntKind.i64 (n))), (EV.lst (SyC.recs [(Sh.int IntKind.i64), (Sh.int IntKind.i64), Sh.str] (flL bFlip n l)))]), (EV.v (Value.int IntKind.i64 (0)))]) [] 0)
    .bad)) := by kernel_rfl
theorem ends (n : Int) (l : List (List U)) : EndZ 28 ctV false (st0 28 [.agg [iv n, wl l]]) (shE (turP n l) (turL bFlip n l) (chk4 n l)) [] 0 := by
  have h := in_t n l
  unfold turP turL
  cases h1 : (chk4 n l != 0) <;> rw [h1] at h
  · have e := ne0 h1
    have v := chk4_ok e
    have g1 := v.lo
    have g2 := v.hi
    have hq : l.length ≤ 1000 ∧ AtOk l ∧ -1000 ≤ n ∧ n ≤ 1000 := ⟨by have := v.len; omega, v.at, by omega, by omega⟩
    simp (disch := omega) only [Nat.add_eq, eqSy_self, eqN_self, bc_same, List.length_cons, ofn, wrap_in, dt, df, bltD, bltN, ble_of, bleN, beqD, bc_t, bc_f, nn_ok, Nat.zero_add, to_nat, Int.zero_add, Int.sub_zero, Int.sub_self, Int.cast_ofNat_Int, Int.natCast_zero, Int.toNat_zero, List.take_zero, List.nil_append, List.length_append, List.length_nil, dt hq] at h
    exact doneX h rfl rfl e.symm
  · exact doneY h rfl rfl rfl
end RFlip
noncomputable def spRFlip : ZCT := fun ax => match ax with
  | [.agg [.v (.int .i64 n), .lst (.recs [.int .i64, .int .i64, .str] l)]] => some ⟨decide (True), shE (turP n l) (turL bFlip n l) (chk4 n l), [], 0⟩
  | _ => none
theorem spRFlip_ok : ZCtOk Try.prog 28 spRFlip := fun γ w us ax r hs hc hax hN hfz => by
  unfold spRFlip at hs
  split at hs
  case h_2 => cases hs
  rename_i n l
  obtain ⟨rfl⟩ := Option.some.inj hs
  have hc_0 : decide (True) = true := hc
  have hc := of_decide_eq_true hc_0
  exact EndZ.calls (RFlip.ends n l) ctV_ok (by kernel_rfl) hax hN hfz
namespace RMir
noncomputable def RUN (s : ES) : ZF := RZ 30 ctV (atS 0 30 6) [] [[(1,none),(2,none),(5,some (3, 81, .recs shW [])),(6,none)]] false s

noncomputable def sP (n : Int) (l : List (List U)) (i : Int) (q : List (List U)) (nn : Bool) : NS := ⟨[⟨30, 50, [(1, (EV.ptr 0 0)), (2, (EV.ptr 1 0)), (5, (EV.ptr 2 0)), (6, iv i)], [.it (.code (nav [1, 1, 1, 1, 0, 1, 0, 0, 0] (bodyOf Try.f30))), .it (.code (nav [1, 1, 1, 1, 0, 1, 0, 0, 1] (bodyOf Try.f30))), .it (.inLoop (nav [1, 1, 1, 1, 0, 1, 0, 0] (bodyOf Try.f30))), .it (.inBlock 0), .it (.code (nav [1, 1, 1, 1, 1] (bodyOf Try.f30)))], [], Option.none⟩], [(0, (EK.cells 24 [(EV.v (Value.int IntKind.i64 (n))), (EV.lst (SyC.recs [(Sh.int IntKind.i64), (Sh.int IntKind.i64), Sh.str] (l)))] true)), (1, (EK.cells 24 [(EV.v (Value.int IntKind.i64 (0))), (EV.v (Value.slice Option.none 0 0))] true)), (2, EK.cells 24 [iv n, EV.slO 3 3 q.length nn] true), (3, EK.seq 81 (.recs shW q) nn)], 4⟩
theorem in_t (n : Int) (l : List (List U)) : RUN (st0 30 [.agg [iv n, wl l]]) = (bc (chk4 n l != (0 : Int))
  (.done (EV.tup [(EV.v (Value.agg (Array.mk [(Value.int IntKind.i64 (0)), (Value.slice Option.none 0 0)]))), (EV.v (Value.int IntKind.i64 (chk4 n l)))]) [] 0)
  (.at (sP (n) (l) ((0 : Int)) ([]) (Bool.false)))) := by kernel_rfl
theorem step_t (n : Int) (l : List (List U)) (i : Int) (q : List (List U)) (nn : Bool) : RUN (stOf (sP n l i q nn)) = (bc (Decidable.decide (i < Int.ofNat (List.length l)))
  (bc (bc (bc (Decidable.decide ((0 : Int) ≤ i)) (Nat.blt (Int.toNat i) (List.length l)) Bool.false) Bool.true Bool.false)
    (bc (bc (Nat.blt (Int.toNat i) (List.length l)) Bool.true Bool.false)
      (bc (bc (Nat.beq (List.length q) (List.length q)) (bc (Nat.ble (List.length q + List.length [[U.i (U.int (List.getD (List.getD l (Int.toNat i) []) (0 : Nat) (U.i (0 : Int)))), U.i (IntKind.wrap IntKind.i64 (IntKind.wrap IntKind.i64 (n - (2 : Int)) - U.int (List.getD (List.getD l (Int.toNat i) []) (Nat.succ (0 : Nat)) (U.i (0 : Int))))), U.s (chgW bMir (U.str (List.getD (List.getD l (Int.toNat i) []) (Nat.succ (Nat.succ (0 : Nat))) (U.i (0 : Int)))))]]) (65536 : Nat)) (bc nn Bool.true (bc nn Bool.false Bool.true)) Bool.false) Bool.false)
        (.at (sP (n) (l) (IntKind.wrap IntKind.i64 (i + (1 : Int))) (q ++ [[U.i (U.int (List.getD (List.getD l (Int.toNat i) []) (0 : Nat) (U.i (0 : Int)))), U.i (IntKind.wrap IntKind.i64 (IntKind.wrap IntKind.i64 (n - (2 : Int)) - U.int (List.getD (List.getD l (Int.toNat i) []) (Nat.succ (0 : Nat)) (U.i (0 : Int))))), U.s (chgW bMir (U.str (List.getD (List.getD l (Int.toNat i) []) (Nat.succ (Nat.succ (0 : Nat))) (U.i (0 : Int)))))]]) (bc nn Bool.true (Nat.blt (0 : Nat) (List.length [[U.i (U.int (List.getD (List.getD l (Int.toNat i) []) (0 : Nat) (U.i (0 : Int)))), U.i (IntKind.wrap IntKind.i64 (IntKind.wrap IntKind.i64 (n - (2 : Int)) - U.int (List.getD (List.getD l (Int.toNat i) []) (Nat.succ (0 : Nat)) (U.i (0 : Int))))), U.s (chgW bMir (U.str (List.getD (List.getD l (Int.toNat i) []) (Nat.succ (Nat.succ (0 : Nat))) (U.i (0 : Int)))))]])))))
        .bad)
      .bad)
    .bad)
  (bc (bc (bc (Nat.beq (List.length q) (List.length q)) Bool.true Bool.false) Bool.true Bool.false)
    (.done (EV.tup [(EV.agg [(EV.v (Value.int IntKind.i64 (n))), (EV.lst (SyC.recs [(Sh.int IntKind.i64), (Sh.int IntKind.i64), Sh.str] (q)))]), (EV.v (Value.int IntKind.i64 (0)))]) [] 0)
    .bad)) := by kernel_rfl
theorem step {n : Int} {l : List (List U)} {i : Nat} {q : List (List U)} {nn : Bool} (hi : i < l.length) (hl : l.length ≤ 1000) (hq : q.length ≤ 1000) (ha : 0 ≤ rA l[i] ∧ rA l[i] ≤ 1000) (hk : -1000 ≤ n ∧ n ≤ 1000) : RUN (stOf (sP n l i q nn)) = .at (sP n l (i + 1 : Nat) (q ++ [flR bMir n l[i]]) true) := by
  rw [step_t]
  have e : l.getD i [] = l[i] := getD_at hi
  simp (disch := omega) only [Nat.add_eq, eqSy_self, eqN_self, bc_same, List.length_cons, ofn, wrap_in, dt, df, bltD, bltN, ble_of, bleN, beqD, bc_t, bc_f, nn_ok, Nat.zero_add, to_nat, Int.zero_add, Int.sub_zero, Int.sub_self, Int.cast_ofNat_Int, Int.natCast_zero, Int.toNat_zero, List.take_zero, List.nil_append, List.length_append, List.length_nil, e, fK0, fK1, fA0, fA1, fA2, fW0, fW1, fW2]
  rfl
theorem last {n : Int} {l : List (List U)} {i : Nat} {q : List (List U)} {nn : Bool} (hi : l.length ≤ i) : RUN (stOf (sP n l i q nn)) = .done (shE n q 0) [] 0 := by
  rw [step_t]
  simp (disch := omega) only [Nat.add_eq, eqSy_self, eqN_self, bc_same, List.length_cons, ofn, wrap_in, dt, df, bltD, bltN, ble_of, bleN, beqD, bc_t, bc_f, nn_ok, Nat.zero_add, to_nat, Int.zero_add, Int.sub_zero, Int.sub_self, Int.cast_ofNat_Int, Int.natCast_zero, Int.toNat_zero, List.take_zero, List.nil_append, List.length_append, List.length_nil]
  rfl
theorem loop {n : Int} {l : List (List U)} (hl : l.length ≤ 1000) (ha : AtOk l) (hk : -1000 ≤ n ∧ n ≤ 1000) : ∀ (m i : Nat) (q : List (List U)) (nn : Bool), i + m = l.length → q.length ≤ i → EndZ 30 ctV false (stOf (sP n l i q nn)) (shE n (q ++ flL bMir n (l.drop i)) 0) [] 0
  | 0, i, q, nn, h, hq => by
    rw [List.drop_eq_nil_of_le (by omega)]
    show EndZ _ _ _ _ (shE n (q ++ []) 0) _ _
    rw [List.append_nil]
    exact .done (last (by omega))
  | m + 1, i, q, nn, h, hq => by
    have hi : i < l.length := by omega
    rw [List.drop_eq_getElem_cons hi]
    show EndZ _ _ _ _ (shE n (q ++ (flR bMir n l[i] :: flL bMir n (l.drop (i + 1)))) 0) _ _
    rw [show q ++ (flR bMir n l[i] :: flL bMir n (l.drop (i + 1))) = (q ++ [flR bMir n l[i]]) ++ flL bMir n (l.drop (i + 1)) by simp]
    exact .at ctV_ok (step hi hl (by omega) (ha _ (List.getElem_mem hi)) hk) (loop hl ha hk m (i + 1) _ true (by omega) (by simp; omega))
theorem ends (n : Int) (l : List (List U)) : EndZ 30 ctV false (st0 30 [.agg [iv n, wl l]]) (shE (turP n l) (turL bMir n l) (chk4 n l)) [] 0 := by
  have h := in_t n l
  unfold turP turL
  cases h1 : (chk4 n l != 0) <;> rw [h1] at h
  · have e := ne0 h1
    have v := chk4_ok e
    have g1 := v.lo
    have g2 := v.hi
    have g3 := v.len
    rw [e]
    have key := loop (n := n) (l := l) (by omega) v.at ⟨by omega, by omega⟩ l.length 0 [] false (by omega) (by simp)
    rw [List.nil_append] at key
    exact .at ctV_ok h key
  · exact doneY h rfl rfl rfl
end RMir
noncomputable def spRMir : ZCT := fun ax => match ax with
  | [.agg [.v (.int .i64 n), .lst (.recs [.int .i64, .int .i64, .str] l)]] => some ⟨decide (True), shE (turP n l) (turL bMir n l) (chk4 n l), [], 0⟩
  | _ => none
theorem spRMir_ok : ZCtOk Try.prog 30 spRMir := fun γ w us ax r hs hc hax hN hfz => by
  unfold spRMir at hs
  split at hs
  case h_2 => cases hs
  rename_i n l
  obtain ⟨rfl⟩ := Option.some.inj hs
  have hc_0 : decide (True) = true := hc
  have hc := of_decide_eq_true hc_0
  exact EndZ.calls (RMir.ends n l) ctV_ok (by kernel_rfl) hax hN hfz
noncomputable def plaE (n a b : Int) (l : List (List U)) : Int := bc (chk4 n l != 0) (chk4 n l) (bc (decide (b < 2)) 7 (bc (decide (24 < b)) 7 (bc (decide (a < 0)) 7 (bc (decide (b - n < a)) 7 0))))
noncomputable def plaP (n a b : Int) (l : List (List U)) : Int := bc (plaE n a b l != 0) 0 b
noncomputable def plaL (n a b : Int) (l : List (List U)) : List (List U) := bc (plaE n a b l != 0) [] (shL a l)
theorem plaV {n a b : Int} {l : List (List U)} {e : Int} (h : plaE n a b l = e) (he : (e != 0) = true) : plaP n a b l = 0 ∧ plaL n a b l = [] := by unfold plaP plaL; rw [h, he]; exact ⟨rfl, rfl⟩
theorem plaV0 {n a b : Int} {l : List (List U)} (h : plaE n a b l = 0) : plaP n a b l = b ∧ plaL n a b l = shL a l := by unfold plaP plaL; rw [h]; exact ⟨rfl, rfl⟩
namespace RPla
noncomputable def RUN (s : ES) : ZF := RZ 32 ctV (fun _ => false) [] [] false s
theorem in_t (n a b : Int) (l : List (List U)) : RUN (st0 32 [.agg [iv n, wl l], iv a, iv b]) = (bc (chk4 n l != (0 : Int))
  (.done (EV.tup [(EV.v (Value.agg (Array.mk [(Value.int IntKind.i64 (0)), (Value.slice Option.none 0 0)]))), (EV.v (Value.int IntKind.i64 (chk4 n l)))]) [] 0)
  (bc (Decidable.decide (b < (2 : Int)))
    (.done (EV.tup [(EV.v (Value.agg (Array.mk [(Value.int IntKind.i64 (0)), (Value.slice Option.none 0 0)]))), (EV.v (Value.int IntKind.i64 (7)))]) [] 0)
    (bc (Decidable.decide ((24 : Int) < b))
      (.done (EV.tup [(EV.v (Value.agg (Array.mk [(Value.int IntKind.i64 (0)), (Value.slice Option.none 0 0)]))), (EV.v (Value.int IntKind.i64 (7)))]) [] 0)
      (bc (Decidable.decide (a < (0 : Int)))
        (.done (EV.tup [(EV.v (Value.agg (Array.mk [(Value.int IntKind.i64 (0)), (Value.slice Option.none 0 0)]))), (EV.v (Value.int IntKind.i64 (7)))]) [] 0)
        (bc (Decidable.decide (IntKind.wrap IntKind.i64 (b - n) < a))
          (.done (EV.tup [(EV.v (Value.agg (Array.mk [(Value.int IntKind.i64 (0)), (Value.slice Option.none 0 0)]))), (EV.v (Value.int IntKind.i64 (7)))]) [] 0)
          (bc (Decidable.decide (List.length l ≤ (1000 : Nat) ∧ AtOk l ∧ (-1000 : Int) ≤ a ∧ a ≤ (1000 : Int)))
            (.done (EV.tup [(EV.agg [(EV.v (Value.int IntKind.i64 (b))), (EV.lst (SyC.recs [(Sh.int IntKind.i64), (Sh.int IntKind.i64), Sh.str] (shL a l)))]), (EV.v (Value.int IntKind.i64 (0)))]) [] 0)
            .bad)))))) := by kernel_rfl
theorem ends (n a b : Int) (l : List (List U)) : EndZ 32 ctV false (st0 32 [.agg [iv n, wl l], iv a, iv b]) (shE (plaP n a b l) (plaL n a b l) (plaE n a b l)) [] 0 := by
  have h := in_t n a b l
  have he : plaE n a b l = bc (chk4 n l != 0) (chk4 n l) (bc (decide (b < 2)) 7 (bc (decide (24 < b)) 7 (bc (decide (a < 0)) 7 (bc (decide (b - n < a)) 7 0)))) := rfl
  cases h1 : (chk4 n l != 0) <;> rw [h1] at h he
  · have v := chk4_ok (ne0 h1)
    have g1 := v.lo
    have g2 := v.hi
    have g3 := v.len
    simp only [bc_f] at h he
    by_cases h2 : b < 2
    · simp only [dt h2, bc_t] at h he
      exact doneY h (plaV he rfl).1.symm (plaV he rfl).2.symm he.symm
    by_cases h3 : 24 < b
    · simp only [df h2, dt h3, bc_t, bc_f] at h he
      exact doneY h (plaV he rfl).1.symm (plaV he rfl).2.symm he.symm
    by_cases h4 : a < 0
    · simp only [df h2, df h3, dt h4, bc_t, bc_f] at h he
      exact doneY h (plaV he rfl).1.symm (plaV he rfl).2.symm he.symm
    by_cases h5 : b - n < a
    · simp (disch := omega) only [df h2, df h3, df h4, dt h5, bc_t, bc_f, wrap_in] at h he
      exact doneY h (plaV he rfl).1.symm (plaV he rfl).2.symm he.symm
    have hq : l.length ≤ 1000 ∧ AtOk l ∧ -1000 ≤ a ∧ a ≤ 1000 := ⟨by omega, v.at, by omega, by omega⟩
    simp (disch := omega) only [df h2, df h3, df h4, df h5, dt hq, bc_t, bc_f, wrap_in] at h he
    exact doneX h (plaV0 he).1.symm (plaV0 he).2.symm he.symm
  · simp only [bc_t] at h he
    exact doneY h (plaV he h1).1.symm (plaV he h1).2.symm he.symm
end RPla
noncomputable def spRPla : ZCT := fun ax => match ax with
  | [.agg [.v (.int .i64 n), .lst (.recs [.int .i64, .int .i64, .str] l)], .v (.int .i64 a), .v (.int .i64 b)] => some ⟨decide (True), shE (plaP n a b l) (plaL n a b l) (plaE n a b l), [], 0⟩
  | _ => none
theorem spRPla_ok : ZCtOk Try.prog 32 spRPla := fun γ w us ax r hs hc hax hN hfz => by
  unfold spRPla at hs
  split at hs
  case h_2 => cases hs
  rename_i n l a b
  obtain ⟨rfl⟩ := Option.some.inj hs
  have hc_0 : decide (True) = true := hc
  have hc := of_decide_eq_true hc_0
  exact EndZ.calls (RPla.ends n a b l) ctV_ok (by kernel_rfl) hax hN hfz
end Go.Proofs.Ytkbebiebaenbdaa.Ev
namespace Go.Proofs.Ytkbebiebaenbdaa.Ev
open Go.Proofs
noncomputable abbrev l2 (l k : List (List U)) : EV := .lst (.recs [.list shW] [[.l l], [.l k]])
namespace POr
noncomputable def RUN (s : ES) : ZF := RZ 71 .nil (fun _ => false) [] [] false s
theorem in_t (a b : Int) : RUN (st0 71 [.lst (.ints .i64 [a, b])]) = (bc (List.getD [a, b] (Int.toNat (0 : Int)) (0 : Int) != (0 : Int))
  (.done (EV.v (Value.int IntKind.i64 (List.getD [a, b] (Int.toNat (0 : Int)) (0 : Int)))) [] 0)
  (bc (List.getD [a, b] (Int.toNat (IntKind.wrap IntKind.i64 ((0 : Int) + (1 : Int)))) (0 : Int) != (0 : Int))
    (.done (EV.v (Value.int IntKind.i64 (List.getD [a, b] (Int.toNat (IntKind.wrap IntKind.i64 ((0 : Int) + (1 : Int)))) (0 : Int)))) [] 0)
    (.done (EV.v (Value.int IntKind.i64 (0))) [] 0))) := by kernel_rfl
theorem ends (a b : Int) : EndZ 71 .nil false (st0 71 [.lst (.ints .i64 [a, b])]) (iv (bc (a != 0) a (bc (b != 0) b 0))) [] 0 := by
  have h := in_t a b
  have e1 : List.getD [a, b] (Int.toNat 0) 0 = a := rfl
  have e2 : List.getD [a, b] (Int.toNat (IntKind.wrap IntKind.i64 (0 + 1))) 0 = b := rfl
  rw [e1, e2] at h
  cases h1 : (a != 0) <;> rw [h1] at h
  · cases h2 : (b != 0) <;> rw [h2] at h
    · exact .done h
    · exact .done h
  · exact .done h
end POr
noncomputable def spOr : ZCT := fun ax => match ax with
  | [.lst (.ints .i64 [a, b])] => some ⟨decide (True), iv (bc (a != 0) a (bc (b != 0) b 0)), [], 0⟩
  | _ => none
theorem spOr_ok : ZCtOk Try.prog 71 spOr := fun γ w us ax r hs hc hax hN hfz => by
  unfold spOr at hs
  split at hs
  case h_2 => cases hs
  rename_i a b
  obtain ⟨rfl⟩ := Option.some.inj hs
  have hc_0 : decide (True) = true := hc
  have hc := of_decide_eq_true hc_0
  exact EndZ.calls (POr.ends a b) (.nil _) (by kernel_rfl) hax hN hfz
namespace PCat
noncomputable def RUN (s : ES) : ZF := RZ 72 .nil (fun _ => false) [] [] false s
theorem in_t (l k : List (List U)) : RUN (st0 72 [l2 l k]) = (bc (Decidable.decide (IntKind.wrap IntKind.i64 ((0 : Int) + Int.ofNat (List.length (U.list (List.getD (List.getD [[U.l l], [U.l k]] (Int.toNat (0 : Int)) []) (0 : Nat) (U.i (0 : Int)))))) < (0 : Int)))
  .bad
  (bc (Decidable.decide (IntKind.wrap IntKind.i64 (IntKind.wrap IntKind.i64 ((0 : Int) + Int.ofNat (List.length (U.list (List.getD (List.getD [[U.l l], [U.l k]] (Int.toNat (0 : Int)) []) (0 : Nat) (U.i (0 : Int)))))) + Int.ofNat (List.length (U.list (List.getD (List.getD [[U.l l], [U.l k]] (Int.toNat (IntKind.wrap IntKind.i64 ((0 : Int) + (1 : Int)))) []) (0 : Nat) (U.i (0 : Int)))))) < (0 : Int)))
    .bad
    (bc (Decidable.decide (IntKind.wrap IntKind.i64 (IntKind.wrap IntKind.i64 ((0 : Int) + Int.ofNat (List.length (U.list (List.getD (List.getD [[U.l l], [U.l k]] (Int.toNat (0 : Int)) []) (0 : Nat) (U.i (0 : Int)))))) + Int.ofNat (List.length (U.list (List.getD (List.getD [[U.l l], [U.l k]] (Int.toNat (IntKind.wrap IntKind.i64 ((0 : Int) + (1 : Int)))) []) (0 : Nat) (U.i (0 : Int)))))) < (0 : Int)))
      .bad
      (bc (Decidable.decide ((0 : Int) < IntKind.wrap IntKind.i64 (IntKind.wrap IntKind.i64 (IntKind.wrap IntKind.i64 ((0 : Int) + Int.ofNat (List.length (U.list (List.getD (List.getD [[U.l l], [U.l k]] (Int.toNat (0 : Int)) []) (0 : Nat) (U.i (0 : Int)))))) + Int.ofNat (List.length (U.list (List.getD (List.getD [[U.l l], [U.l k]] (Int.toNat (IntKind.wrap IntKind.i64 ((0 : Int) + (1 : Int)))) []) (0 : Nat) (U.i (0 : Int)))))) - IntKind.wrap IntKind.i64 ((Nat.cast (0 : Nat) : Int) - (Nat.cast (0 : Nat) : Int)))))
        (bc (bc (Decidable.decide ((0 : Int) < IntKind.wrap IntKind.i64 (IntKind.wrap IntKind.i64 (IntKind.wrap IntKind.i64 ((0 : Int) + Int.ofNat (List.length (U.list (List.getD (List.getD [[U.l l], [U.l k]] (Int.toNat (0 : Int)) []) (0 : Nat) (U.i (0 : Int)))))) + Int.ofNat (List.length (U.list (List.getD (List.getD [[U.l l], [U.l k]] (Int.toNat (IntKind.wrap IntKind.i64 ((0 : Int) + (1 : Int)))) []) (0 : Nat) (U.i (0 : Int)))))) - IntKind.wrap IntKind.i64 ((Nat.cast (0 : Nat) : Int) - (Nat.cast (0 : Nat) : Int))))) (Decidable.decide (IntKind.wrap IntKind.i64 (IntKind.wrap IntKind.i64 (IntKind.wrap IntKind.i64 ((0 : Int) + Int.ofNat (List.length (U.list (List.getD (List.getD [[U.l l], [U.l k]] (Int.toNat (0 : Int)) []) (0 : Nat) (U.i (0 : Int)))))) + Int.ofNat (List.length (U.list (List.getD (List.getD [[U.l l], [U.l k]] (Int.toNat (IntKind.wrap IntKind.i64 ((0 : Int) + (1 : Int)))) []) (0 : Nat) (U.i (0 : Int)))))) - IntKind.wrap IntKind.i64 ((Nat.cast (0 : Nat) : Int) - (Nat.cast (0 : Nat) : Int))) ≤ (4096 : Int))) Bool.false)
          (bc (Nat.beq (Int.toNat (IntKind.wrap IntKind.i64 (IntKind.wrap IntKind.i64 (IntKind.wrap IntKind.i64 ((0 : Int) + Int.ofNat (List.length (U.list (List.getD (List.getD [[U.l l], [U.l k]] (Int.toNat (0 : Int)) []) (0 : Nat) (U.i (0 : Int)))))) + Int.ofNat (List.length (U.list (List.getD (List.getD [[U.l l], [U.l k]] (Int.toNat (IntKind.wrap IntKind.i64 ((0 : Int) + (1 : Int)))) []) (0 : Nat) (U.i (0 : Int)))))) - IntKind.wrap IntKind.i64 ((Nat.cast (0 : Nat) : Int) - (Nat.cast (0 : Nat) : Int))))) (List.length (List.replicate (Int.toNat (IntKind.wrap IntKind.i64 (IntKind.wrap IntKind.i64 (IntKind.wrap IntKind.i64 ((0 : Int) + Int.ofNat (List.length (U.list (List.getD (List.getD [[U.l l], [U.l k]] (Int.toNat (0 : Int)) []) (0 : Nat) (U.i (0 : Int)))))) + Int.ofNat (List.length (U.list (List.getD (List.getD [[U.l l], [U.l k]] (Int.toNat (IntKind.wrap IntKind.i64 ((0 : Int) + (1 : Int)))) []) (0 : Nat) (U.i (0 : Int)))))) - IntKind.wrap IntKind.i64 ((Nat.cast (0 : Nat) : Int) - (Nat.cast (0 : Nat) : Int))))) [U.i (0 : Int), U.i (0 : Int), U.s { data := #[] }])))
            (bc (bc (Nat.ble (List.length (List.take (Int.toNat (Nat.cast (0 : Nat) : Int)) (List.replicate (Int.toNat (IntKind.wrap IntKind.i64 (IntKind.wrap IntKind.i64 (IntKind.wrap IntKind.i64 ((0 : Int) + Int.ofNat (List.length (U.list (List.getD (List.getD [[U.l l], [U.l k]] (Int.toNat (0 : Int)) []) (0 : Nat) (U.i (0 : Int)))))) + Int.ofNat (List.length (U.list (List.getD (List.getD [[U.l l], [U.l k]] (Int.toNat (IntKind.wrap IntKind.i64 ((0 : Int) + (1 : Int)))) []) (0 : Nat) (U.i (0 : Int)))))) - IntKind.wrap IntKind.i64 ((Nat.cast (0 : Nat) : Int) - (Nat.cast (0 : Nat) : Int))))) [U.i (0 : Int), U.i (0 : Int), U.s { data := #[] }])) + List.length (U.list (List.getD (List.getD [[U.l l], [U.l k]] (Int.toNat (0 : Int)) []) (0 : Nat) (U.i (0 : Int))))) (65536 : Nat)) Bool.true Bool.false)
              (bc (bc (Nat.beq (List.length (List.take (Int.toNat (Nat.cast (0 : Nat) : Int)) (List.replicate (Int.toNat (IntKind.wrap IntKind.i64 (IntKind.wrap IntKind.i64 (IntKind.wrap IntKind.i64 ((0 : Int) + Int.ofNat (List.length (U.list (List.getD (List.getD [[U.l l], [U.l k]] (Int.toNat (0 : Int)) []) (0 : Nat) (U.i (0 : Int)))))) + Int.ofNat (List.length (U.list (List.getD (List.getD [[U.l l], [U.l k]] (Int.toNat (IntKind.wrap IntKind.i64 ((0 : Int) + (1 : Int)))) []) (0 : Nat) (U.i (0 : Int)))))) - IntKind.wrap IntKind.i64 ((Nat.cast (0 : Nat) : Int) - (Nat.cast (0 : Nat) : Int))))) [U.i (0 : Int), U.i (0 : Int), U.s { data := #[] }]) ++ U.list (List.getD (List.getD [[U.l l], [U.l k]] (Int.toNat (0 : Int)) []) (0 : Nat) (U.i (0 : Int))))) (List.length (List.take (Int.toNat (Nat.cast (0 : Nat) : Int)) (List.replicate (Int.toNat (IntKind.wrap IntKind.i64 (IntKind.wrap IntKind.i64 (IntKind.wrap IntKind.i64 ((0 : Int) + Int.ofNat (List.length (U.list (List.getD (List.getD [[U.l l], [U.l k]] (Int.toNat (0 : Int)) []) (0 : Nat) (U.i (0 : Int)))))) + Int.ofNat (List.length (U.list (List.getD (List.getD [[U.l l], [U.l k]] (Int.toNat (IntKind.wrap IntKind.i64 ((0 : Int) + (1 : Int)))) []) (0 : Nat) (U.i (0 : Int)))))) - IntKind.wrap IntKind.i64 ((Nat.cast (0 : Nat) : Int) - (Nat.cast (0 : Nat) : Int))))) [U.i (0 : Int), U.i (0 : Int), U.s { data := #[] }]) ++ U.list (List.getD (List.getD [[U.l l], [U.l k]] (Int.toNat (0 : Int)) []) (0 : Nat) (U.i (0 : Int)))))) (bc (Nat.ble (List.length (List.take (Int.toNat (Nat.cast (0 : Nat) : Int)) (List.replicate (Int.toNat (IntKind.wrap IntKind.i64 (IntKind.wrap IntKind.i64 (IntKind.wrap IntKind.i64 ((0 : Int) + Int.ofNat (List.length (U.list (List.getD (List.getD [[U.l l], [U.l k]] (Int.toNat (0 : Int)) []) (0 : Nat) (U.i (0 : Int)))))) + Int.ofNat (List.length (U.list (List.getD (List.getD [[U.l l], [U.l k]] (Int.toNat (IntKind.wrap IntKind.i64 ((0 : Int) + (1 : Int)))) []) (0 : Nat) (U.i (0 : Int)))))) - IntKind.wrap IntKind.i64 ((Nat.cast (0 : Nat) : Int) - (Nat.cast (0 : Nat) : Int))))) [U.i (0 : Int), U.i (0 : Int), U.s { data := #[] }]) ++ U.list (List.getD (List.getD [[U.l l], [U.l k]] (Int.toNat (0 : Int)) []) (0 : Nat) (U.i (0 : Int)))) + List.length (U.list (List.getD (List.getD [[U.l l], [U.l k]] (Int.toNat (IntKind.wrap IntKind.i64 ((0 : Int) + (1 : Int)))) []) (0 : Nat) (U.i (0 : Int))))) (65536 : Nat)) Bool.true Bool.false) Bool.false)
                (bc (Nat.beq (List.length (List.take (Int.toNat (Nat.cast (0 : Nat) : Int)) (List.replicate (Int.toNat (IntKind.wrap IntKind.i64 (IntKind.wrap IntKind.i64 (IntKind.wrap IntKind.i64 ((0 : Int) + Int.ofNat (List.length (U.list (List.getD (List.getD [[U.l l], [U.l k]] (Int.toNat (0 : Int)) []) (0 : Nat) (U.i (0 : Int)))))) + Int.ofNat (List.length (U.list (List.getD (List.getD [[U.l l], [U.l k]] (Int.toNat (IntKind.wrap IntKind.i64 ((0 : Int) + (1 : Int)))) []) (0 : Nat) (U.i (0 : Int)))))) - IntKind.wrap IntKind.i64 ((Nat.cast (0 : Nat) : Int) - (Nat.cast (0 : Nat) : Int))))) [U.i (0 : Int), U.i (0 : Int), U.s { data := #[] }]) ++ U.list (List.getD (List.getD [[U.l l], [U.l k]] (Int.toNat (0 : Int)) []) (0 : Nat) (U.i (0 : Int))) ++ U.list (List.getD (List.getD [[U.l l], [U.l k]] (Int.toNat (IntKind.wrap IntKind.i64 ((0 : Int) + (1 : Int)))) []) (0 : Nat) (U.i (0 : Int))))) (List.length (List.take (Int.toNat (Nat.cast (0 : Nat) : Int)) (List.replicate (Int.toNat (IntKind.wrap IntKind.i64 (IntKind.wrap IntKind.i64 (IntKind.wrap IntKind.i64 ((0 : Int) + Int.ofNat (List.length (U.list (List.getD (List.getD [[U.l l], [U.l k]] (Int.toNat (0 : Int)) []) (0 : Nat) (U.i (0 : Int)))))) + Int.ofNat (List.length (U.list (List.getD (List.getD [[U.l l], [U.l k]] (Int.toNat (IntKind.wrap IntKind.i64 ((0 : Int) + (1 : Int)))) []) (0 : Nat) (U.i (0 : Int)))))) - IntKind.wrap IntKind.i64 ((Nat.cast (0 : Nat) : Int) - (Nat.cast (0 : Nat) : Int))))) [U.i (0 : Int), U.i (0 : Int), U.s { data := #[] }]) ++ U.list (List.getD (List.getD [[U.l l], [U.l k]] (Int.toNat (0 : Int)) []) (0 : Nat) (U.i (0 : Int))) ++ U.list (List.getD (List.getD [[U.l l], [U.l k]] (Int.toNat (IntKind.wrap IntKind.i64 ((0 : Int) + (1 : Int)))) []) (0 : Nat) (U.i (0 : Int))))))
                  (.done (EV.lst (SyC.recs [(Sh.int IntKind.i64), (Sh.int IntKind.i64), Sh.str] (List.take (Int.toNat (Nat.cast (0 : Nat) : Int)) (List.replicate (Int.toNat (IntKind.wrap IntKind.i64 (IntKind.wrap IntKind.i64 (IntKind.wrap IntKind.i64 ((0 : Int) + Int.ofNat (List.length (U.list (List.getD (List.getD [[U.l l], [U.l k]] (Int.toNat (0 : Int)) []) (0 : Nat) (U.i (0 : Int)))))) + Int.ofNat (List.length (U.list (List.getD (List.getD [[U.l l], [U.l k]] (Int.toNat (IntKind.wrap IntKind.i64 ((0 : Int) + (1 : Int)))) []) (0 : Nat) (U.i (0 : Int)))))) - IntKind.wrap IntKind.i64 ((Nat.cast (0 : Nat) : Int) - (Nat.cast (0 : Nat) : Int))))) [U.i (0 : Int), U.i (0 : Int), U.s { data := #[] }]) ++ U.list (List.getD (List.getD [[U.l l], [U.l k]] (Int.toNat (0 : Int)) []) (0 : Nat) (U.i (0 : Int))) ++ U.list (List.getD (List.getD [[U.l l], [U.l k]] (Int.toNat (IntKind.wrap IntKind.i64 ((0 : Int) + (1 : Int)))) []) (0 : Nat) (U.i (0 : Int)))))) [] 0)
                  .bad)
                .bad)
              .bad)
            .bad)
          .bad)
        (bc (bc (Nat.ble ((0 : Nat) + List.length (U.list (List.getD (List.getD [[U.l l], [U.l k]] (Int.toNat (0 : Int)) []) (0 : Nat) (U.i (0 : Int))))) (65536 : Nat)) Bool.true Bool.false)
          (bc (bc (Nat.beq (List.length ([] ++ U.list (List.getD (List.getD [[U.l l], [U.l k]] (Int.toNat (0 : Int)) []) (0 : Nat) (U.i (0 : Int))))) (List.length ([] ++ U.list (List.getD (List.getD [[U.l l], [U.l k]] (Int.toNat (0 : Int)) []) (0 : Nat) (U.i (0 : Int)))))) (bc (Nat.ble (List.length ([] ++ U.list (List.getD (List.getD [[U.l l], [U.l k]] (Int.toNat (0 : Int)) []) (0 : Nat) (U.i (0 : Int)))) + List.length (U.list (List.getD (List.getD [[U.l l], [U.l k]] (Int.toNat (IntKind.wrap IntKind.i64 ((0 : Int) + (1 : Int)))) []) (0 : Nat) (U.i (0 : Int))))) (65536 : Nat)) (bc (Nat.blt (0 : Nat) (List.length (U.list (List.getD (List.getD [[U.l l], [U.l k]] (Int.toNat (0 : Int)) []) (0 : Nat) (U.i (0 : Int)))))) Bool.true (bc (Nat.blt (0 : Nat) (List.length (U.list (List.getD (List.getD [[U.l l], [U.l k]] (Int.toNat (0 : Int)) []) (0 : Nat) (U.i (0 : Int)))))) Bool.false Bool.true)) Bool.false) Bool.false)
            (bc (Nat.beq (List.length ([] ++ U.list (List.getD (List.getD [[U.l l], [U.l k]] (Int.toNat (0 : Int)) []) (0 : Nat) (U.i (0 : Int))) ++ U.list (List.getD (List.getD [[U.l l], [U.l k]] (Int.toNat (IntKind.wrap IntKind.i64 ((0 : Int) + (1 : Int)))) []) (0 : Nat) (U.i (0 : Int))))) (List.length ([] ++ U.list (List.getD (List.getD [[U.l l], [U.l k]] (Int.toNat (0 : Int)) []) (0 : Nat) (U.i (0 : Int))) ++ U.list (List.getD (List.getD [[U.l l], [U.l k]] (Int.toNat (IntKind.wrap IntKind.i64 ((0 : Int) + (1 : Int)))) []) (0 : Nat) (U.i (0 : Int))))))
              (.done (EV.lst (SyC.recs [(Sh.int IntKind.i64), (Sh.int IntKind.i64), Sh.str] ([] ++ U.list (List.getD (List.getD [[U.l l], [U.l k]] (Int.toNat (0 : Int)) []) (0 : Nat) (U.i (0 : Int))) ++ U.list (List.getD (List.getD [[U.l l], [U.l k]] (Int.toNat (IntKind.wrap IntKind.i64 ((0 : Int) + (1 : Int)))) []) (0 : Nat) (U.i (0 : Int)))))) [] 0)
              .bad)
            .bad)
          .bad))))) := by kernel_rfl
theorem ends (l k : List (List U)) (hl : l.length ≤ 1000) (hk : k.length ≤ 1000) : EndZ 72 .nil false (st0 72 [l2 l k]) (wl (l ++ k)) [] 0 := by
  have h := in_t l k
  have e1 : U.list (List.getD (List.getD [[U.l l], [U.l k]] (Int.toNat 0) []) 0 (U.i 0)) = l := rfl
  have e2 : U.list (List.getD (List.getD [[U.l l], [U.l k]] (Int.toNat (IntKind.wrap IntKind.i64 (0 + 1))) []) 0 (U.i 0)) = k := rfl
  have e3 : IntKind.wrap IntKind.i64 ((Nat.cast 0 : Int) - (Nat.cast 0 : Int)) = 0 := rfl
  have e4 : (Int.toNat (Nat.cast 0 : Int)) = 0 := rfl
  have w1 : IntKind.wrap IntKind.i64 (0 + (l.length : Int)) = l.length := by simp (disch := omega) only [Int.zero_add, wrap_in]
  have w2 : IntKind.wrap IntKind.i64 ((l.length : Int) + (k.length : Int)) = l.length + k.length := by simp (disch := omega) only [wrap_in]
  have w3 : IntKind.wrap IntKind.i64 ((l.length : Int) + (k.length : Int) - 0) = l.length + k.length := by simp (disch := omega) only [Int.sub_zero, wrap_in]
  simp only [e1, e2, e3, e4, ofn, w1, w2, w3] at h
  have d1 : ¬ (l.length : Int) < 0 := by omega
  have d2 : ¬ (l.length : Int) + (k.length : Int) < 0 := by omega
  simp only [df d1, df d2, bc_f] at h
  by_cases h0 : (0 : Int) < (l.length : Int) + (k.length : Int)
  · have d3 : (l.length : Int) + (k.length : Int) ≤ 4096 := by omega
    simp (disch := omega) only [Nat.add_eq, eqSy_self, eqN_self, bc_same, List.length_cons, ofn, wrap_in, dt, df, bltD, bltN, ble_of, bleN, beqD, bc_t, bc_f, nn_ok, Nat.zero_add, to_nat, Int.zero_add, Int.sub_zero, Int.sub_self, Int.cast_ofNat_Int, Int.natCast_zero, Int.toNat_zero, List.take_zero, List.nil_append, List.length_append, List.length_nil, dt h0, dt d3, bc_t, List.take_zero, List.length_nil, List.nil_append, List.length_replicate, Nat.zero_add] at h
    exact .done h
  · have z1 : l = [] := List.eq_nil_of_length_eq_zero (by omega)
    have z2 : k = [] := List.eq_nil_of_length_eq_zero (by omega)
    subst z1; subst z2
    exact .done h
end PCat
noncomputable def spCat : ZCT := fun ax => match ax with
  | [.lst (.recs [.list [.int .i64, .int .i64, .str]] [[.l l], [.l k]])] => some ⟨decide (l.length ≤ 1000 ∧ k.length ≤ 1000), .lst (.recs [.int .i64, .int .i64, .str] (l ++ k)), [], 0⟩
  | _ => none
theorem spCat_ok : ZCtOk Try.prog 72 spCat := fun γ w us ax r hs hc hax hN hfz => by
  unfold spCat at hs
  split at hs
  case h_2 => cases hs
  rename_i l k
  obtain ⟨rfl⟩ := Option.some.inj hs
  have hc_0 : decide (l.length ≤ 1000 ∧ k.length ≤ 1000) = true := hc
  have hc := of_decide_eq_true hc_0
  exact EndZ.calls (PCat.ends l k hc.1 hc.2) (.nil _) (by kernel_rfl) hax hN hfz
namespace PChg
noncomputable def RUN (s : ES) : ZF := RZ 58 .nil (atS 0 58 3) [] [[(2,none),(3,none),(4,none),(5,some (3, 81, .recs shW [])),(12,none),(13,none),(14,none)]] false s

noncomputable def sP (n a b : Int) (l : List (List U)) (i : Int) (q : List (List U)) (nn : Bool) : NS := ⟨[⟨58, 51, [(2, (EV.ptr 0 0)), (3, (EV.ptr 1 0)), (4, (EV.ptr 2 0)), (5, (EV.ptr 3 0)), (12, (EV.lst (SyC.recs [(Sh.int IntKind.i64), (Sh.int IntKind.i64), Sh.str] (l)))), (13, (EV.v (Value.int IntKind.i64 (Int.ofNat (List.length l))))), (14, iv i)], [.it (.code (nav [1, 1, 0, 1, 0, 0] (bodyOf Try.f58))), .it (.inLoop (nav [1, 1, 0, 1, 0, 0] (bodyOf Try.f58))), .it (.inBlock 0), .it (.code (nav [1, 1, 1] (bodyOf Try.f58)))], [], Option.none⟩], [(0, (EK.cells 24 [(EV.v (Value.int IntKind.i64 (n))), (EV.lst (SyC.recs [(Sh.int IntKind.i64), (Sh.int IntKind.i64), Sh.str] (l)))] true)), (1, (EK.cells 102 [(EV.v (Value.int IntKind.i64 (a))), (EV.v (Value.int IntKind.i64 (b))), (EV.v Value.nilFunc)] true)), (2, (EK.cells 24 [(EV.v (Value.int IntKind.i64 (0))), (EV.v (Value.slice Option.none 0 0))] true)), (3, EK.cells 24 [iv b, EV.slO 4 3 q.length nn] true), (4, EK.seq 81 (.recs shW q) nn)], 5⟩
theorem in_t (n a b : Int) (l : List (List U)) : RUN (st0 58 [.agg [iv n, wl l], .v (.agg ⟨[.int .i64 a, .int .i64 b, .nilFunc]⟩)]) = (.at (sP (n) (a) (b) (l) ((0 : Int)) ([]) (Bool.false))) := by kernel_rfl
theorem step_t (n a b : Int) (l : List (List U)) (i : Int) (q : List (List U)) (nn : Bool) : RUN (stOf (sP n a b l i q nn)) = (bc (Decidable.decide (i < Int.ofNat (List.length l)))
  (bc (bc (bc (Decidable.decide ((0 : Int) ≤ i)) (Nat.blt (Int.toNat i) (List.length l)) Bool.false) Bool.true Bool.false)
    (bc (bc (Nat.blt (Int.toNat i) (List.length l)) Bool.true Bool.false)
      (bc (bc (Nat.beq (List.length q) (List.length q)) (bc (Nat.ble (List.length q + List.length [[U.i (U.int (List.getD (List.getD l (Int.toNat i) []) (0 : Nat) (U.i (0 : Int)))), U.i (IntKind.wrap IntKind.i64 (U.int (List.getD (List.getD l (Int.toNat i) []) (Nat.succ (0 : Nat)) (U.i (0 : Int))) + a)), U.s (U.str (List.getD (List.getD l (Int.toNat i) []) (Nat.succ (Nat.succ (0 : Nat))) (U.i (0 : Int))))]]) (65536 : Nat)) (bc nn Bool.true (bc nn Bool.false Bool.true)) Bool.false) Bool.false)
        (.at (sP (n) (a) (b) (l) (IntKind.wrap IntKind.i64 (i + (1 : Int))) (q ++ [[U.i (U.int (List.getD (List.getD l (Int.toNat i) []) (0 : Nat) (U.i (0 : Int)))), U.i (IntKind.wrap IntKind.i64 (U.int (List.getD (List.getD l (Int.toNat i) []) (Nat.succ (0 : Nat)) (U.i (0 : Int))) + a)), U.s (U.str (List.getD (List.getD l (Int.toNat i) []) (Nat.succ (Nat.succ (0 : Nat))) (U.i (0 : Int))))]]) (bc nn Bool.true (Nat.blt (0 : Nat) (List.length [[U.i (U.int (List.getD (List.getD l (Int.toNat i) []) (0 : Nat) (U.i (0 : Int)))), U.i (IntKind.wrap IntKind.i64 (U.int (List.getD (List.getD l (Int.toNat i) []) (Nat.succ (0 : Nat)) (U.i (0 : Int))) + a)), U.s (U.str (List.getD (List.getD l (Int.toNat i) []) (Nat.succ (Nat.succ (0 : Nat))) (U.i (0 : Int))))]])))))
        .bad)
      .bad)
    .bad)
  (bc (bc (Nat.beq (List.length q) (List.length q)) Bool.true Bool.false)
    (.done (EV.agg [(EV.v (Value.int IntKind.i64 (b))), (EV.lst (SyC.recs [(Sh.int IntKind.i64), (Sh.int IntKind.i64), Sh.str] (q)))]) [] 0)
    .bad)) := by kernel_rfl
theorem step {n a b : Int} {l : List (List U)} {i : Nat} {q : List (List U)} {nn : Bool} (hi : i < l.length) (hl : l.length ≤ 1000) (hq : q.length ≤ 1000) (ha : 0 ≤ rA l[i] ∧ rA l[i] ≤ 1000) (hk : -1000 ≤ a ∧ a ≤ 1000) : RUN (stOf (sP n a b l i q nn)) = .at (sP n a b l (i + 1 : Nat) (q ++ [shR a l[i]]) true) := by
  rw [step_t]
  have e : l.getD i [] = l[i] := getD_at hi
  simp (disch := omega) only [Nat.add_eq, eqSy_self, eqN_self, bc_same, List.length_cons, ofn, wrap_in, dt, df, bltD, bltN, ble_of, bleN, beqD, bc_t, bc_f, nn_ok, Nat.zero_add, to_nat, Int.zero_add, Int.sub_zero, Int.sub_self, Int.cast_ofNat_Int, Int.natCast_zero, Int.toNat_zero, List.take_zero, List.nil_append, List.length_append, List.length_nil, e, fK0, fK1, fA0, fA1, fA2, fW0, fW1, fW2]
  rfl
theorem last {n a b : Int} {l : List (List U)} {i : Nat} {q : List (List U)} {nn : Bool} (hi : l.length ≤ i) : RUN (stOf (sP n a b l i q nn)) = .done (.agg [iv b, wl q]) [] 0 := by
  rw [step_t]
  simp (disch := omega) only [Nat.add_eq, eqSy_self, eqN_self, bc_same, List.length_cons, ofn, wrap_in, dt, df, bltD, bltN, ble_of, bleN, beqD, bc_t, bc_f, nn_ok, Nat.zero_add, to_nat, Int.zero_add, Int.sub_zero, Int.sub_self, Int.cast_ofNat_Int, Int.natCast_zero, Int.toNat_zero, List.take_zero, List.nil_append, List.length_append, List.length_nil]
  rfl
theorem loop {n a b : Int} {l : List (List U)} (hl : l.length ≤ 1000) (ha : AtOk l) (hk : -1000 ≤ a ∧ a ≤ 1000) : ∀ (m i : Nat) (q : List (List U)) (nn : Bool), i + m = l.length → q.length ≤ i → EndZ 58 .nil false (stOf (sP n a b l i q nn)) (.agg [iv b, wl (q ++ shL a (l.drop i))]) [] 0
  | 0, i, q, nn, h, hq => by
    rw [List.drop_eq_nil_of_le (by omega)]
    show EndZ _ _ _ _ (.agg [iv b, wl (q ++ [])]) _ _
    rw [List.append_nil]
    exact .done (last (by omega))
  | m + 1, i, q, nn, h, hq => by
    have hi : i < l.length := by omega
    rw [List.drop_eq_getElem_cons hi]
    show EndZ _ _ _ _ (.agg [iv b, wl (q ++ (shR a l[i] :: shL a (l.drop (i + 1))))]) _ _
    rw [show q ++ (shR a l[i] :: shL a (l.drop (i + 1))) = (q ++ [shR a l[i]]) ++ shL a (l.drop (i + 1)) by simp]
    exact .at (.nil _) (step hi hl (by omega) (ha _ (List.getElem_mem hi)) hk) (loop hl ha hk m (i + 1) _ true (by omega) (by simp; omega))
end PChg
noncomputable def spChg : ZCT := fun ax => match ax with
  | [.agg [.v (.int .i64 n), .lst (.recs [.int .i64, .int .i64, .str] l)], .v (.agg ⟨[.int .i64 a, .int .i64 b, .nilFunc]⟩)] => some ⟨decide (l.length ≤ 1000 ∧ AtOk l ∧ -1000 ≤ a ∧ a ≤ 1000), .agg [iv b, wl (shL a l)], [], 0⟩
  | _ => none
theorem spChg_ok : ZCtOk Try.prog 58 spChg := fun γ w us ax r hs hc hax hN hfz => by
  unfold spChg at hs
  split at hs
  case h_2 => cases hs
  rename_i n l a b
  obtain ⟨rfl⟩ := Option.some.inj hs
  have hc_0 : decide (l.length ≤ 1000 ∧ AtOk l ∧ -1000 ≤ a ∧ a ≤ 1000) = true := hc
  have hc := of_decide_eq_true hc_0
  exact EndZ.calls (.at (.nil _) (PChg.in_t n a b l) (by have := PChg.loop (n := n) (b := b) hc.1 hc.2.1 hc.2.2 l.length 0 [] false (by omega) (by simp); rw [List.nil_append] at this; exact this)) (.nil _) (by kernel_rfl) hax hN hfz
noncomputable def ctJ1 : Tr ZCC := ((ctP3.put 69 (some (dC spPChk4))).put 71 (some (dC spOr))).put 72 (some (dC spCat)) |>.put 58 (some (dC spChg))
theorem ctJ1_ok : ZCtsOk Try.prog ctJ1 := (((ctP3_ok.add rfl spPChk4_ok).add rfl spOr_ok).add rfl spCat_ok).add rfl spChg_ok
theorem uH (x : Int) : U.int (List.headD [U.i x] (U.i 0)) = x := rfl
theorem orBoth (n m : Int) (l k : List (List U)) : bc (chk4 n l != 0) (chk4 n l) (bc (chk4 m k != 0) (chk4 m k) 0) = both n m l k := by
  unfold both
  cases h1 : (chk4 n l != 0)
  · cases h2 : (chk4 m k != 0)
    · simp only [bc_f]; exact (ne0 h2).symm
    · simp only [bc_f, bc_t]
  · simp only [bc_t]
theorem both0 {n m : Int} {l k : List (List U)} (h : (both n m l k != 0) = false) : chk4 n l = 0 ∧ chk4 m k = 0 := by
  have h := ne0 h
  unfold both at h
  cases h1 : (chk4 n l != 0) <;> rw [h1] at h
  · exact ⟨ne0 h1, h⟩
  · simp only [bc_t] at h
    rw [h] at h1; cases h1
namespace PBes
noncomputable def RUN (s : ES) : ZF := RZ 36 ctJ1 (fun _ => false) [] [] false s
theorem in_t (n m : Int) (l k : List (List U)) : RUN (st0 36 (as2 n m l k)) = (bc (bc (U.int (List.headD [U.i (chk4 n l)] (U.i (0 : Int))) != (0 : Int)) (U.int (List.headD [U.i (chk4 n l)] (U.i (0 : Int)))) (bc (U.int (List.headD [U.i (chk4 m k)] (U.i (0 : Int))) != (0 : Int)) (U.int (List.headD [U.i (chk4 m k)] (U.i (0 : Int)))) (0 : Int)) != (0 : Int))
  (.done (EV.tup [(EV.v (Value.agg (Array.mk [(Value.int IntKind.i64 (0)), (Value.slice Option.none 0 0)]))), (EV.v (Value.int IntKind.i64 (bc (U.int (List.headD [U.i (chk4 n l)] (U.i (0 : Int))) != (0 : Int)) (U.int (List.headD [U.i (chk4 n l)] (U.i (0 : Int)))) (bc (U.int (List.headD [U.i (chk4 m k)] (U.i (0 : Int))) != (0 : Int)) (U.int (List.headD [U.i (chk4 m k)] (U.i (0 : Int)))) (0 : Int)))))]) [] 0)
  (bc (Decidable.decide ((24 : Int) < IntKind.wrap IntKind.i64 (n + m)))
    (.done (EV.tup [(EV.v (Value.agg (Array.mk [(Value.int IntKind.i64 (0)), (Value.slice Option.none 0 0)]))), (EV.v (Value.int IntKind.i64 (3)))]) [] 0)
    (bc (Decidable.decide ((400 : Int) < IntKind.wrap IntKind.i64 (Int.ofNat (List.length l) + Int.ofNat (List.length k))))
      (.done (EV.tup [(EV.v (Value.agg (Array.mk [(Value.int IntKind.i64 (0)), (Value.slice Option.none 0 0)]))), (EV.v (Value.int IntKind.i64 (3)))]) [] 0)
      (bc (Decidable.decide (List.length k ≤ (1000 : Nat) ∧ AtOk k ∧ (-1000 : Int) ≤ n ∧ n ≤ (1000 : Int)))
        (bc (bc (bc (Decidable.decide (List.length l ≤ (1000 : Nat) ∧ List.length (shL n k) ≤ (1000 : Nat))) Bool.true Bool.false) (bc (bc (bc (Decidable.decide (IntKind.wrap IntKind.i64 (n + m) = IntKind.wrap IntKind.i64 (n + m))) Bool.true Bool.false) Bool.true Bool.false) Bool.true Bool.false) Bool.false)
          (.done (EV.tup [(EV.agg [(EV.v (Value.int IntKind.i64 (IntKind.wrap IntKind.i64 (n + m)))), (EV.lst (SyC.recs [(Sh.int IntKind.i64), (Sh.int IntKind.i64), Sh.str] (l ++ shL n k)))]), (EV.v (Value.int IntKind.i64 (0)))]) [] 0)
          .bad)
        .bad)))) := by kernel_rfl
theorem ends (n m : Int) (l k : List (List U)) : EndZ 36 ctJ1 false (st0 36 (as2 n m l k)) (shE (besP n m l k) (besL n m l k) (besE n m l k)) [] 0 := by
  have h := in_t n m l k
  simp only [uH, orBoth] at h
  cases h1 : (both n m l k != 0) <;> rw [h1] at h
  · obtain ⟨e1, e2⟩ := both0 h1
    have v1 := chk4_ok e1
    have v2 := chk4_ok e2
    have g1 := v1.lo
    have g2 := v1.hi
    have g3 := v1.len
    have g4 := v2.lo
    have g5 := v2.hi
    have g6 := v2.len
    have e := besE0 e1 e2
    have hp := atS3 v2 n (by omega) (by omega)
    have hq : l.length ≤ 1000 ∧ (shL n k).length ≤ 1000 := ⟨by omega, by rw [shL_len]; omega⟩
    by_cases h3 : 24 < n + m
    · rw [dt h3, bc_t] at e
      simp (disch := omega) only [Nat.add_eq, eqSy_self, eqN_self, bc_same, List.length_cons, ofn, wrap_in, dt, df, bltD, bltN, ble_of, bleN, beqD, bc_t, bc_f, nn_ok, Nat.zero_add, to_nat, Int.zero_add, Int.sub_zero, Int.sub_self, Int.cast_ofNat_Int, Int.natCast_zero, Int.toNat_zero, List.take_zero, List.nil_append, List.length_append, List.length_nil] at h
      exact doneY h (besV e rfl).1.symm (besV e rfl).2.symm e.symm
    rw [df h3, bc_f] at e
    by_cases h4 : 400 < (l.length : Int) + (k.length : Int)
    · rw [dt h4, bc_t] at e
      simp (disch := omega) only [Nat.add_eq, eqSy_self, eqN_self, bc_same, List.length_cons, ofn, wrap_in, dt, df, bltD, bltN, ble_of, bleN, beqD, bc_t, bc_f, nn_ok, Nat.zero_add, to_nat, Int.zero_add, Int.sub_zero, Int.sub_self, Int.cast_ofNat_Int, Int.natCast_zero, Int.toNat_zero, List.take_zero, List.nil_append, List.length_append, List.length_nil] at h
      exact doneY h (besV e rfl).1.symm (besV e rfl).2.symm e.symm
    rw [df h4, bc_f] at e
    simp (disch := omega) only [Nat.add_eq, eqSy_self, eqN_self, bc_same, List.length_cons, ofn, wrap_in, dt, df, bltD, bltN, ble_of, bleN, beqD, bc_t, bc_f, nn_ok, Nat.zero_add, to_nat, Int.zero_add, Int.sub_zero, Int.sub_self, Int.cast_ofNat_Int, Int.natCast_zero, Int.toNat_zero, List.take_zero, List.nil_append, List.length_append, List.length_nil, dt hp, dt hq] at h
    exact doneX h (besV0 e).1.symm (besV0 e).2.symm e.symm
  · have e := besE1 (rfl : both n m l k = _) h1
    simp only [bc_t] at h
    exact doneY h (besV e h1).1.symm (besV e h1).2.symm e.symm
end PBes
noncomputable def spPBes : ZCT := fun ax => match ax with
  | [.agg [.v (.int .i64 n), .lst (.recs [.int .i64, .int .i64, .str] l)], .agg [.v (.int .i64 m), .lst (.recs [.int .i64, .int .i64, .str] k)]] => some ⟨decide (True), shE (besP n m l k) (besL n m l k) (besE n m l k), [], 0⟩
  | _ => none
theorem spPBes_ok : ZCtOk Try.prog 36 spPBes := fun γ w us ax r hs hc hax hN hfz => by
  unfold spPBes at hs
  split at hs
  case h_2 => cases hs
  rename_i n l m k
  obtain ⟨rfl⟩ := Option.some.inj hs
  have hc_0 : decide (True) = true := hc
  have hc := of_decide_eq_true hc_0
  exact EndZ.calls (PBes.ends n m l k) ctJ1_ok (by kernel_rfl) hax hN hfz
namespace PBel
noncomputable def RUN (s : ES) : ZF := RZ 35 ctJ1 (fun _ => false) [] [] false s
theorem in_t (n m : Int) (l k : List (List U)) : RUN (st0 35 (as2 n m l k)) = (bc (bc (U.int (List.headD [U.i (chk4 n l)] (U.i (0 : Int))) != (0 : Int)) (U.int (List.headD [U.i (chk4 n l)] (U.i (0 : Int)))) (bc (U.int (List.headD [U.i (chk4 m k)] (U.i (0 : Int))) != (0 : Int)) (U.int (List.headD [U.i (chk4 m k)] (U.i (0 : Int)))) (0 : Int)) != (0 : Int))
  (.done (EV.tup [(EV.v (Value.agg (Array.mk [(Value.int IntKind.i64 (0)), (Value.slice Option.none 0 0)]))), (EV.v (Value.int IntKind.i64 (bc (U.int (List.headD [U.i (chk4 n l)] (U.i (0 : Int))) != (0 : Int)) (U.int (List.headD [U.i (chk4 n l)] (U.i (0 : Int)))) (bc (U.int (List.headD [U.i (chk4 m k)] (U.i (0 : Int))) != (0 : Int)) (U.int (List.headD [U.i (chk4 m k)] (U.i (0 : Int)))) (0 : Int)))))]) [] 0)
  (bc (n != m)
    (.done (EV.tup [(EV.v (Value.agg (Array.mk [(Value.int IntKind.i64 (0)), (Value.slice Option.none 0 0)]))), (EV.v (Value.int IntKind.i64 (2)))]) [] 0)
    (bc (Decidable.decide ((400 : Int) < IntKind.wrap IntKind.i64 (Int.ofNat (List.length l) + Int.ofNat (List.length k))))
      (.done (EV.tup [(EV.v (Value.agg (Array.mk [(Value.int IntKind.i64 (0)), (Value.slice Option.none 0 0)]))), (EV.v (Value.int IntKind.i64 (3)))]) [] 0)
      (bc (bc (bc (Decidable.decide (List.length l ≤ (1000 : Nat) ∧ List.length k ≤ (1000 : Nat))) Bool.true Bool.false) (bc (bc (bc (Decidable.decide (n = n)) Bool.true Bool.false) Bool.true Bool.false) Bool.true Bool.false) Bool.false)
        (.done (EV.tup [(EV.agg [(EV.v (Value.int IntKind.i64 (n))), (EV.lst (SyC.recs [(Sh.int IntKind.i64), (Sh.int IntKind.i64), Sh.str] (l ++ k)))]), (EV.v (Value.int IntKind.i64 (0)))]) [] 0)
        .bad)))) := by kernel_rfl
theorem ends (n m : Int) (l k : List (List U)) : EndZ 35 ctJ1 false (st0 35 (as2 n m l k)) (shE (belP n m l k) (belL n m l k) (belE n m l k)) [] 0 := by
  have h := in_t n m l k
  simp only [uH, orBoth] at h
  cases h1 : (both n m l k != 0) <;> rw [h1] at h
  · obtain ⟨e1, e2⟩ := both0 h1
    have v1 := chk4_ok e1
    have v2 := chk4_ok e2
    have g3 := v1.len
    have g6 := v2.len
    have e := belE0 e1 e2
    have hq : l.length ≤ 1000 ∧ k.length ≤ 1000 := ⟨by omega, by omega⟩
    cases h3 : (n != m) <;> rw [h3] at e h
    · rw [bc_f] at e
      by_cases h4 : 400 < (l.length : Int) + (k.length : Int)
      · rw [dt h4, bc_t] at e
        simp (disch := omega) only [Nat.add_eq, eqSy_self, eqN_self, bc_same, List.length_cons, ofn, wrap_in, dt, df, bltD, bltN, ble_of, bleN, beqD, bc_t, bc_f, nn_ok, Nat.zero_add, to_nat, Int.zero_add, Int.sub_zero, Int.sub_self, Int.cast_ofNat_Int, Int.natCast_zero, Int.toNat_zero, List.take_zero, List.nil_append, List.length_append, List.length_nil] at h
        exact doneY h (belV e rfl).1.symm (belV e rfl).2.symm e.symm
      rw [df h4, bc_f] at e
      simp (disch := omega) only [Nat.add_eq, eqSy_self, eqN_self, bc_same, List.length_cons, ofn, wrap_in, dt, df, bltD, bltN, ble_of, bleN, beqD, bc_t, bc_f, nn_ok, Nat.zero_add, to_nat, Int.zero_add, Int.sub_zero, Int.sub_self, Int.cast_ofNat_Int, Int.natCast_zero, Int.toNat_zero, List.take_zero, List.nil_append, List.length_append, List.length_nil, dt hq] at h
      exact doneX h (belV0 e).1.symm (belV0 e).2.symm e.symm
    · rw [bc_t] at e
      exact doneY h (belV e rfl).1.symm (belV e rfl).2.symm e.symm
  · have e := belE1 (rfl : both n m l k = _) h1
    simp only [bc_t] at h
    exact doneY h (belV e h1).1.symm (belV e h1).2.symm e.symm
end PBel
noncomputable def spPBel : ZCT := fun ax => match ax with
  | [.agg [.v (.int .i64 n), .lst (.recs [.int .i64, .int .i64, .str] l)], .agg [.v (.int .i64 m), .lst (.recs [.int .i64, .int .i64, .str] k)]] => some ⟨decide (True), shE (belP n m l k) (belL n m l k) (belE n m l k), [], 0⟩
  | _ => none
theorem spPBel_ok : ZCtOk Try.prog 35 spPBel := fun γ w us ax r hs hc hax hN hfz => by
  unfold spPBel at hs
  split at hs
  case h_2 => cases hs
  rename_i n l m k
  obtain ⟨rfl⟩ := Option.some.inj hs
  have hc_0 : decide (True) = true := hc
  have hc := of_decide_eq_true hc_0
  exact EndZ.calls (PBel.ends n m l k) ctJ1_ok (by kernel_rfl) hax hN hfz
end Go.Proofs.Ytkbebiebaenbdaa.Ev
namespace Go.Proofs.Ytkbebiebaenbdaa.Ev
open Go.Proofs
noncomputable def trB (t : ByteArray) (c : Int) : Int := byteAt t (idx bLet c).toNat
theorem bytesL_len (w : ByteArray) : (bytesL w).length = w.size := by unfold bytesL; rw [List.length_map, Array.length_toList]; rfl
theorem bytesL_at {w : ByteArray} {i : Nat} (hi : i < w.size) : (bytesL w)[i]'(by rw [bytesL_len]; exact hi) = byteAt w i := by
  have hl : i < w.data.toList.length := by rw [Array.length_toList]; exact hi
  unfold bytesL byteAt
  rw [List.getElem_map, getD_at hl]
theorem strOfNums_snoc (p : List Int) (t : ByteArray) (j : Nat) (h : j < t.size) : strOfNums p ++ t.extract j (j + 1) = strOfNums (p ++ [byteAt t j]) := by
  have hl : j < t.data.toList.length := by rw [Array.length_toList]; exact h
  apply ByteArray.ext
  apply Array.ext'
  rw [ByteArray.data_append, Array.toList_append, ByteArray.data_extract, Array.toList_extract, strOfNums_data, strOfNums_data, List.map_append]
  congr 1
  unfold byteAt
  rw [getD_at hl, List.extract_eq_take_drop]
  rw [show j + 1 - j = 1 by omega, List.drop_eq_getElem_cons hl]
  simp
theorem chgB_eq {t w : ByteArray} (ht : t.size = 9) : ∀ (k i : Nat) (p : List Int), i + k = w.size → badF w i k = false → chgB t w i (strOfNums p) k = strOfNums (p ++ ((bytesL w).drop i).map (trB t))
  | 0, i, p, h, hb => by
    rw [List.drop_eq_nil_of_le (by rw [bytesL_len]; omega)]
    show strOfNums p = strOfNums (p ++ [])
    rw [List.append_nil]
  | k + 1, i, p, h, hb => by
    unfold badF at hb
    have h0 : ¬ idx bLet (byteAt w i) < 0 := fun h => by rw [dt h, bc_t] at hb; cases hb
    rw [df h0, bc_f] at hb
    have h9 : idx bLet (byteAt w i) < 9 := idx_lt bLet _
    have hi : i < w.size := by omega
    rw [List.drop_eq_getElem_cons (show i < (bytesL w).length by rw [bytesL_len]; exact hi), bytesL_at hi, List.map_cons]
    unfold chgB
    rw [strOfNums_snoc p t _ (by omega), chgB_eq ht k (i + 1) _ (by omega) hb, List.append_assoc]
    rfl
namespace PExc
noncomputable def RUN (s : ES) : ZF := RZ 94 ctP2 (atS 0 94 6) [] [[(1,none),(7,none),(17,none),(18,none),(19,none)]] false s

noncomputable def sX (t : ByteArray) (m : Nat) (i : Int) (q : List Int) : NS := ⟨[⟨94, 34, [(1, sv t), (7, EV.slO 0 1 m true), (17, EV.slO 0 1 m true), (18, iv m), (19, iv i)], [.it (.code (nav [1, 1, 1, 0, 1, 0, 0] (bodyOf Try.f94))), .it (.inLoop (nav [1, 1, 1, 0, 1, 0, 0] (bodyOf Try.f94))), .it (.inBlock 0), .it (.code (nav [1, 1, 1, 1] (bodyOf Try.f94)))], [], Option.none⟩], [(0, EK.seq 5 (.ints .u8 q) true)], 1⟩
theorem step_t (t : ByteArray) (m : Nat) (i : Int) (q : List Int) : RUN (stOf (sX t m i q)) = (bc (Decidable.decide (i < (Nat.cast m : Int)))
  (bc (bc (bc (Decidable.decide ((0 : Int) ≤ i)) (Nat.blt (Int.toNat i) m) Bool.false) Bool.true Bool.false)
    (bc (bc (Nat.blt (Int.toNat i) (List.length q)) Bool.true Bool.false)
      (bc (bc (bc (Decidable.decide ((0 : Int) ≤ List.getD q (Int.toNat i) (0 : Int))) (Decidable.decide (List.getD q (Int.toNat i) (0 : Int) < (256 : Int))) Bool.false) Bool.true Bool.false)
        (bc (bc (bc (Decidable.decide ((0 : Int) ≤ idx { data := #[(67 : UInt8), (84 : UInt8), (76 : UInt8), (82 : UInt8), (80 : UInt8), (99 : UInt8), (116 : UInt8), (108 : UInt8), (114 : UInt8)] } (List.getD q (Int.toNat i) (0 : Int)))) (Nat.blt (Int.toNat (idx { data := #[(67 : UInt8), (84 : UInt8), (76 : UInt8), (82 : UInt8), (80 : UInt8), (99 : UInt8), (116 : UInt8), (108 : UInt8), (114 : UInt8)] } (List.getD q (Int.toNat i) (0 : Int)))) (ByteArray.size t)) Bool.false) Bool.true Bool.false)
          (bc (bc (bc (Decidable.decide ((0 : Int) ≤ i)) (Nat.blt (Int.toNat i) m) Bool.false) Bool.true Bool.false)
            (bc (Nat.blt (Int.toNat i) (List.length q))
              (.at (sX (t) (m) (IntKind.wrap IntKind.i64 (i + (1 : Int))) (List.set q (Int.toNat i) (byteAt t (Int.toNat (idx { data := #[(67 : UInt8), (84 : UInt8), (76 : UInt8), (82 : UInt8), (80 : UInt8), (99 : UInt8), (116 : UInt8), (108 : UInt8), (114 : UInt8)] } (List.getD q (Int.toNat i) (0 : Int))))))))
              .bad)
            .bad)
          .bad)
        .bad)
      .bad)
    .bad)
  (bc (bc (Nat.beq m (List.length q)) Bool.true Bool.false)
    (.done (EV.tup [(EV.v (Value.string (strOfNums q))), (EV.v (Value.int IntKind.i64 (0)))]) [] 0)
    .bad)) := by kernel_rfl
theorem in_t (w t : ByteArray) : RUN (st0 94 [sv w, sv t]) = (bc (chk3 w != (0 : Int))
  (.done (EV.tup [(EV.v (Value.string (ByteArray.mk #[]))), (EV.v (Value.int IntKind.i64 (chk3 w)))]) [] 0)
  (bc (Nat.ble (ByteArray.size w) (65536 : Nat))
    (.at (sX (t) (ByteArray.size w) ((0 : Int)) (List.map (fun b => Int.ofNat (UInt8.toNat b)) (Array.toList (ByteArray.data w)))))
    .bad)) := by kernel_rfl
theorem step {t : ByteArray} {m i j : Nat} {q : List Int} {c : Int} (hi : i < m) (hm : q.length = m) (hmm : m ≤ 16) (ht : t.size = 9) (hc : q.getD i 0 = c) (c0 : 0 ≤ c) (c1 : c < 256) (hj : idx bLet c = (j : Int)) (hj9 : j < 9) : RUN (stOf (sX t m i q)) = .at (sX t m (i + 1 : Nat) (q.set i (byteAt t j))) := by
  rw [step_t]
  have e0 : List.getD q (Int.toNat (i : Int)) 0 = c := hc
  have e : idx (ByteArray.mk #[(67 : UInt8), (84 : UInt8), (76 : UInt8), (82 : UInt8), (80 : UInt8), (99 : UInt8), (116 : UInt8), (108 : UInt8), (114 : UInt8)]) c = (j : Int) := hj
  simp only [e0, e]
  simp (disch := omega) only [Nat.add_eq, eqSy_self, eqN_self, bc_same, List.length_cons, ofn, wrap_in, dt, df, bltD, bltN, ble_of, bleN, beqD, bc_t, bc_f, nn_ok, Nat.zero_add, to_nat, Int.zero_add, Int.sub_zero, Int.sub_self, Int.cast_ofNat_Int, Int.natCast_zero, Int.toNat_zero, List.take_zero, List.nil_append, List.length_append, List.length_nil, Int.toNat_natCast, ht]
  rfl
theorem last {t : ByteArray} {m i : Nat} {q : List Int} (hi : m ≤ i) (hm : q.length = m) : RUN (stOf (sX t m i q)) = .done (.tup [sv (strOfNums q), iv 0]) [] 0 := by
  rw [step_t]
  subst hm
  simp (disch := omega) only [Nat.add_eq, eqSy_self, eqN_self, bc_same, List.length_cons, ofn, wrap_in, dt, df, bltD, bltN, ble_of, bleN, beqD, bc_t, bc_f, nn_ok, Nat.zero_add, to_nat, Int.zero_add, Int.sub_zero, Int.sub_self, Int.cast_ofNat_Int, Int.natCast_zero, Int.toNat_zero, List.take_zero, List.nil_append, List.length_append, List.length_nil]
theorem loop {w t : ByteArray} (hw : w.size ≤ 16) (ht : t.size = 9) : ∀ (k i : Nat) (p : List Int), i + k = w.size → p.length = i → badF w i k = false → EndZ 94 ctP2 false (stOf (sX t w.size i (p ++ (bytesL w).drop i))) (.tup [sv (strOfNums (p ++ ((bytesL w).drop i).map (trB t))), iv 0]) [] 0
  | 0, i, p, h, hp, hb => by
    rw [List.drop_eq_nil_of_le (by rw [bytesL_len]; omega)]
    exact .done (last (by omega) (by rw [List.length_append, List.length_nil]; omega))
  | k + 1, i, p, h, hp, hb => by
    unfold badF at hb
    have h0 : ¬ idx bLet (byteAt w i) < 0 := fun h => by rw [dt h, bc_t] at hb; cases hb
    rw [df h0, bc_f] at hb
    obtain ⟨j, hj⟩ := Int.eq_ofNat_of_zero_le (show 0 ≤ idx bLet (byteAt w i) by omega)
    have h9 : idx bLet (byteAt w i) < 9 := idx_lt bLet _
    have hi : i < w.size := by omega
    have hbl := bytesL_len w
    have hd : (bytesL w).drop i = byteAt w i :: (bytesL w).drop (i + 1) := by rw [List.drop_eq_getElem_cons (by omega), bytesL_at hi]
    have hlen : (p ++ (bytesL w).drop i).length = w.size := by rw [List.length_append, List.length_drop]; omega
    have hg : (p ++ (bytesL w).drop i).getD i 0 = byteAt w i := by
      rw [hd, List.getD_eq_getElem?_getD, List.getElem?_append_right (by omega), hp, Nat.sub_self]; rfl
    have hset : (p ++ (bytesL w).drop i).set i (byteAt t j) = (p ++ [byteAt t j]) ++ (bytesL w).drop (i + 1) := by
      rw [hd, List.set_append_right _ _ (by omega), hp, Nat.sub_self, List.set_cons_zero, List.append_assoc]; rfl
    have htr : trB t (byteAt w i) = byteAt t j := by unfold trB; rw [hj]; rfl
    have hs := step hi hlen hw ht hg (byteAt_lo w i) (byteAt_hi w i) hj (by omega)
    rw [hset] at hs
    have key := loop hw ht k (i + 1) (p ++ [byteAt t j]) (by omega) (by rw [List.length_append, hp]; rfl) hb
    rw [show p ++ ((bytesL w).drop i).map (trB t) = (p ++ [byteAt t j]) ++ ((bytesL w).drop (i + 1)).map (trB t) by rw [hd, List.map_cons, htr, List.append_assoc]; rfl]
    exact .at ctP2_ok hs key
theorem ends (w t : ByteArray) (ht : t.size = 9) : EndZ 94 ctP2 false (st0 94 [sv w, sv t]) (.tup [sv (chgW t w), iv (chk3 w)]) [] 0 := by
  have h := in_t w t
  unfold chgW
  cases h1 : (chk3 w != 0) <;> rw [h1] at h
  · have e := ne0 h1
    obtain ⟨h3, h4⟩ := chk3_0 e
    rw [bc_f, ble_of (by omega), bc_t] at h
    rw [e]
    have key := loop h3 ht w.size 0 [] (by omega) rfl h4
    have e2 : chg t w = strOfNums ([] ++ ((bytesL w).drop 0).map (trB t)) := chgB_eq ht w.size 0 [] (by omega) h4
    rw [← e2] at key
    exact .at ctP2_ok h key
  · exact .done h
end PExc
noncomputable def spExc : ZCT := fun ax => match ax with
  | [.v (.string w), .v (.string t)] => some ⟨decide (t.size = 9), .tup [sv (chgW t w), iv (chk3 w)], [], 0⟩
  | _ => none
theorem spExc_ok : ZCtOk Try.prog 94 spExc := fun γ w us ax r hs hc hax hN hfz => by
  unfold spExc at hs
  split at hs
  case h_2 => cases hs
  rename_i w t
  obtain ⟨rfl⟩ := Option.some.inj hs
  have hc_0 : decide (t.size = 9) = true := hc
  have hc := of_decide_eq_true hc_0
  exact EndZ.calls (PExc.ends w t hc) ctP2_ok (by kernel_rfl) hax hN hfz
noncomputable def ctE : Tr ZCC := ctP2.put 94 (some (dC spExc))
theorem ctE_ok : ZCtsOk Try.prog ctE := ctP2_ok.add rfl spExc_ok
namespace PWFlip
noncomputable def RUN (s : ES) : ZF := RZ 65 ctE (fun _ => false) [] [] false s
theorem in_t (w : ByteArray) : RUN (st0 65 [sv w]) = (.done (EV.tup [(EV.v (Value.string (chgW { data := #[(67 : UInt8), (84 : UInt8), (82 : UInt8), (76 : UInt8), (80 : UInt8), (99 : UInt8), (116 : UInt8), (114 : UInt8), (108 : UInt8)] } w))), (EV.v (Value.int IntKind.i64 (chk3 w)))]) [] 0) := by kernel_rfl
end PWFlip
namespace PWMir
noncomputable def RUN (s : ES) : ZF := RZ 67 ctE (fun _ => false) [] [] false s
theorem in_t (w : ByteArray) : RUN (st0 67 [sv w]) = (.done (EV.tup [(EV.v (Value.string (chgW { data := #[(99 : UInt8), (116 : UInt8), (114 : UInt8), (108 : UInt8), (80 : UInt8), (67 : UInt8), (84 : UInt8), (82 : UInt8), (76 : UInt8)] } w))), (EV.v (Value.int IntKind.i64 (chk3 w)))]) [] 0) := by kernel_rfl
end PWMir
noncomputable def spPWF : ZCT := fun ax => match ax with
  | [.v (.string w)] => some ⟨decide (True), .tup [sv (chgW bFlip w), iv (chk3 w)], [], 0⟩
  | _ => none
theorem spPWF_ok : ZCtOk Try.prog 65 spPWF := fun γ w us ax r hs hc hax hN hfz => by
  unfold spPWF at hs
  split at hs
  case h_2 => cases hs
  rename_i w
  obtain ⟨rfl⟩ := Option.some.inj hs
  have hc_0 : decide (True) = true := hc
  have hc := of_decide_eq_true hc_0
  exact EndZ.calls (.done (PWFlip.in_t w)) ctE_ok (by kernel_rfl) hax hN hfz
noncomputable def spPWM : ZCT := fun ax => match ax with
  | [.v (.string w)] => some ⟨decide (True), .tup [sv (chgW bMir w), iv (chk3 w)], [], 0⟩
  | _ => none
theorem spPWM_ok : ZCtOk Try.prog 67 spPWM := fun γ w us ax r hs hc hax hN hfz => by
  unfold spPWM at hs
  split at hs
  case h_2 => cases hs
  rename_i w
  obtain ⟨rfl⟩ := Option.some.inj hs
  have hc_0 : decide (True) = true := hc
  have hc := of_decide_eq_true hc_0
  exact EndZ.calls (.done (PWMir.in_t w)) ctE_ok (by kernel_rfl) hax hN hfz
noncomputable def ctH : Tr ZCC := (ctJ1.put 65 (some (dC spPWF))).put 67 (some (dC spPWM))
theorem ctH_ok : ZCtsOk Try.prog ctH := (ctJ1_ok.add rfl spPWF_ok).add rfl spPWM_ok
namespace PChF
noncomputable def RUN (s : ES) : ZF := RZ 58 ctH (atS 0 58 3) [] [[(2,none),(3,none),(4,none),(5,some (3, 81, .recs shW [])),(12,none),(13,none),(14,none)]] false s

noncomputable def sP (n a b : Int) (l : List (List U)) (i : Int) (q : List (List U)) (nn : Bool) : NS := ⟨[⟨58, 51, [(2, (EV.ptr 0 0)), (3, (EV.ptr 1 0)), (4, (EV.ptr 2 0)), (5, (EV.ptr 3 0)), (12, (EV.lst (SyC.recs [(Sh.int IntKind.i64), (Sh.int IntKind.i64), Sh.str] (l)))), (13, (EV.v (Value.int IntKind.i64 (Int.ofNat (List.length l))))), (14, iv i)], [.it (.code (nav [1, 1, 0, 1, 0, 0] (bodyOf Try.f58))), .it (.inLoop (nav [1, 1, 0, 1, 0, 0] (bodyOf Try.f58))), .it (.inBlock 0), .it (.code (nav [1, 1, 1] (bodyOf Try.f58)))], [], Option.none⟩], [(0, (EK.cells 24 [(EV.v (Value.int IntKind.i64 (n))), (EV.lst (SyC.recs [(Sh.int IntKind.i64), (Sh.int IntKind.i64), Sh.str] (l)))] true)), (1, (EK.cells 102 [(EV.v (Value.int IntKind.i64 (a))), (EV.v (Value.int IntKind.i64 (b))), (EV.fn 65 [])] true)), (2, (EK.cells 24 [(EV.v (Value.int IntKind.i64 (0))), (EV.v (Value.slice Option.none 0 0))] true)), (3, EK.cells 24 [iv b, EV.slO 4 3 q.length nn] true), (4, EK.seq 81 (.recs shW q) nn)], 5⟩
theorem in_t (n a b : Int) (l : List (List U)) : RUN (st0 58 [.agg [iv n, wl l], .agg [iv a, iv b, .fn 65 []]]) = (.at (sP (n) (a) (b) (l) ((0 : Int)) ([]) (Bool.false))) := by kernel_rfl
theorem step_t (n a b : Int) (l : List (List U)) (i : Int) (q : List (List U)) (nn : Bool) : RUN (stOf (sP n a b l i q nn)) = (bc (Decidable.decide (i < Int.ofNat (List.length l)))
  (bc (bc (bc (Decidable.decide ((0 : Int) ≤ i)) (Nat.blt (Int.toNat i) (List.length l)) Bool.false) Bool.true Bool.false)
    (bc (bc (Nat.blt (Int.toNat i) (List.length l)) Bool.true Bool.false)
      (bc (bc (Nat.beq (List.length q) (List.length q)) (bc (Nat.ble (List.length q + List.length [[U.i (U.int (List.getD (List.getD l (Int.toNat i) []) (0 : Nat) (U.i (0 : Int)))), U.i (IntKind.wrap IntKind.i64 (IntKind.wrap IntKind.i64 (n - (2 : Int)) - U.int (List.getD (List.getD l (Int.toNat i) []) (Nat.succ (0 : Nat)) (U.i (0 : Int))))), U.s (chgW bFlip (U.str (List.getD (List.getD l (Int.toNat i) []) (Nat.succ (Nat.succ (0 : Nat))) (U.i (0 : Int)))))]]) (65536 : Nat)) (bc nn Bool.true (bc nn Bool.false Bool.true)) Bool.false) Bool.false)
        (.at (sP (n) (a) (b) (l) (IntKind.wrap IntKind.i64 (i + (1 : Int))) (q ++ [[U.i (U.int (List.getD (List.getD l (Int.toNat i) []) (0 : Nat) (U.i (0 : Int)))), U.i (IntKind.wrap IntKind.i64 (IntKind.wrap IntKind.i64 (n - (2 : Int)) - U.int (List.getD (List.getD l (Int.toNat i) []) (Nat.succ (0 : Nat)) (U.i (0 : Int))))), U.s (chgW bFlip (U.str (List.getD (List.getD l (Int.toNat i) []) (Nat.succ (Nat.succ (0 : Nat))) (U.i (0 : Int)))))]]) (bc nn Bool.true (Nat.blt (0 : Nat) (List.length [[U.i (U.int (List.getD (List.getD l (Int.toNat i) []) (0 : Nat) (U.i (0 : Int)))), U.i (IntKind.wrap IntKind.i64 (IntKind.wrap IntKind.i64 (n - (2 : Int)) - U.int (List.getD (List.getD l (Int.toNat i) []) (Nat.succ (0 : Nat)) (U.i (0 : Int))))), U.s (chgW bFlip (U.str (List.getD (List.getD l (Int.toNat i) []) (Nat.succ (Nat.succ (0 : Nat))) (U.i (0 : Int)))))]])))))
        .bad)
      .bad)
    .bad)
  (bc (bc (Nat.beq (List.length q) (List.length q)) Bool.true Bool.false)
    (.done (EV.agg [(EV.v (Value.int IntKind.i64 (b))), (EV.lst (SyC.recs [(Sh.int IntKind.i64), (Sh.int IntKind.i64), Sh.str] (q)))]) [] 0)
    .bad)) := by kernel_rfl
theorem step {n a b : Int} {l : List (List U)} {i : Nat} {q : List (List U)} {nn : Bool} (hi : i < l.length) (hl : l.length ≤ 1000) (hq : q.length ≤ 1000) (ha : 0 ≤ rA l[i] ∧ rA l[i] ≤ 1000) (hk : -1000 ≤ n ∧ n ≤ 1000) : RUN (stOf (sP n a b l i q nn)) = .at (sP n a b l (i + 1 : Nat) (q ++ [flR bFlip n l[i]]) true) := by
  rw [step_t]
  have e : l.getD i [] = l[i] := getD_at hi
  simp (disch := omega) only [Nat.add_eq, eqSy_self, eqN_self, bc_same, List.length_cons, ofn, wrap_in, dt, df, bltD, bltN, ble_of, bleN, beqD, bc_t, bc_f, nn_ok, Nat.zero_add, to_nat, Int.zero_add, Int.sub_zero, Int.sub_self, Int.cast_ofNat_Int, Int.natCast_zero, Int.toNat_zero, List.take_zero, List.nil_append, List.length_append, List.length_nil, e, fK0, fK1, fA0, fA1, fA2, fW0, fW1, fW2]
  rfl
theorem last {n a b : Int} {l : List (List U)} {i : Nat} {q : List (List U)} {nn : Bool} (hi : l.length ≤ i) : RUN (stOf (sP n a b l i q nn)) = .done (.agg [iv b, wl q]) [] 0 := by
  rw [step_t]
  simp (disch := omega) only [Nat.add_eq, eqSy_self, eqN_self, bc_same, List.length_cons, ofn, wrap_in, dt, df, bltD, bltN, ble_of, bleN, beqD, bc_t, bc_f, nn_ok, Nat.zero_add, to_nat, Int.zero_add, Int.sub_zero, Int.sub_self, Int.cast_ofNat_Int, Int.natCast_zero, Int.toNat_zero, List.take_zero, List.nil_append, List.length_append, List.length_nil]
  rfl
theorem loop {n a b : Int} {l : List (List U)} (hl : l.length ≤ 1000) (ha : AtOk l) (hk : -1000 ≤ n ∧ n ≤ 1000) : ∀ (m i : Nat) (q : List (List U)) (nn : Bool), i + m = l.length → q.length ≤ i → EndZ 58 ctH false (stOf (sP n a b l i q nn)) (.agg [iv b, wl (q ++ flL bFlip n (l.drop i))]) [] 0
  | 0, i, q, nn, h, hq => by
    rw [List.drop_eq_nil_of_le (by omega)]
    show EndZ _ _ _ _ (.agg [iv b, wl (q ++ [])]) _ _
    rw [List.append_nil]
    exact .done (last (by omega))
  | m + 1, i, q, nn, h, hq => by
    have hi : i < l.length := by omega
    rw [List.drop_eq_getElem_cons hi]
    show EndZ _ _ _ _ (.agg [iv b, wl (q ++ (flR bFlip n l[i] :: flL bFlip n (l.drop (i + 1))))]) _ _
    rw [show q ++ (flR bFlip n l[i] :: flL bFlip n (l.drop (i + 1))) = (q ++ [flR bFlip n l[i]]) ++ flL bFlip n (l.drop (i + 1)) by simp]
    exact .at ctH_ok (step hi hl (by omega) (ha _ (List.getElem_mem hi)) hk) (loop hl ha hk m (i + 1) _ true (by omega) (by simp; omega))
theorem ends (n a b : Int) (l : List (List U)) (hc : l.length ≤ 1000 ∧ AtOk l ∧ -1000 ≤ n ∧ n ≤ 1000) : EndZ 58 ctH false (st0 58 [.agg [iv n, wl l], .agg [iv a, iv b, .fn 65 []]]) (.agg [iv b, wl (flL bFlip n l)]) [] 0 := .at ctH_ok (in_t n a b l) (by have := loop (n := n) (a := a) (b := b) hc.1 hc.2.1 hc.2.2 l.length 0 [] false (by omega) (by simp); rw [List.nil_append] at this; exact this)
end PChF
namespace PChM
noncomputable def RUN (s : ES) : ZF := RZ 58 ctH (atS 0 58 3) [] [[(2,none),(3,none),(4,none),(5,some (3, 81, .recs shW [])),(12,none),(13,none),(14,none)]] false s

noncomputable def sP (n a b : Int) (l : List (List U)) (i : Int) (q : List (List U)) (nn : Bool) : NS := ⟨[⟨58, 51, [(2, (EV.ptr 0 0)), (3, (EV.ptr 1 0)), (4, (EV.ptr 2 0)), (5, (EV.ptr 3 0)), (12, (EV.lst (SyC.recs [(Sh.int IntKind.i64), (Sh.int IntKind.i64), Sh.str] (l)))), (13, (EV.v (Value.int IntKind.i64 (Int.ofNat (List.length l))))), (14, iv i)], [.it (.code (nav [1, 1, 0, 1, 0, 0] (bodyOf Try.f58))), .it (.inLoop (nav [1, 1, 0, 1, 0, 0] (bodyOf Try.f58))), .it (.inBlock 0), .it (.code (nav [1, 1, 1] (bodyOf Try.f58)))], [], Option.none⟩], [(0, (EK.cells 24 [(EV.v (Value.int IntKind.i64 (n))), (EV.lst (SyC.recs [(Sh.int IntKind.i64), (Sh.int IntKind.i64), Sh.str] (l)))] true)), (1, (EK.cells 102 [(EV.v (Value.int IntKind.i64 (a))), (EV.v (Value.int IntKind.i64 (b))), (EV.fn 67 [])] true)), (2, (EK.cells 24 [(EV.v (Value.int IntKind.i64 (0))), (EV.v (Value.slice Option.none 0 0))] true)), (3, EK.cells 24 [iv b, EV.slO 4 3 q.length nn] true), (4, EK.seq 81 (.recs shW q) nn)], 5⟩
theorem in_t (n a b : Int) (l : List (List U)) : RUN (st0 58 [.agg [iv n, wl l], .agg [iv a, iv b, .fn 67 []]]) = (.at (sP (n) (a) (b) (l) ((0 : Int)) ([]) (Bool.false))) := by kernel_rfl
theorem step_t (n a b : Int) (l : List (List U)) (i : Int) (q : List (List U)) (nn : Bool) : RUN (stOf (sP n a b l i q nn)) = (bc (Decidable.decide (i < Int.ofNat (List.length l)))
  (bc (bc (bc (Decidable.decide ((0 : Int) ≤ i)) (Nat.blt (Int.toNat i) (List.length l)) Bool.false) Bool.true Bool.false)
    (bc (bc (Nat.blt (Int.toNat i) (List.length l)) Bool.true Bool.false)
      (bc (bc (Nat.beq (List.length q) (List.length q)) (bc (Nat.ble (List.length q + List.length [[U.i (U.int (List.getD (List.getD l (Int.toNat i) []) (0 : Nat) (U.i (0 : Int)))), U.i (IntKind.wrap IntKind.i64 (IntKind.wrap IntKind.i64 (n - (2 : Int)) - U.int (List.getD (List.getD l (Int.toNat i) []) (Nat.succ (0 : Nat)) (U.i (0 : Int))))), U.s (chgW bMir (U.str (List.getD (List.getD l (Int.toNat i) []) (Nat.succ (Nat.succ (0 : Nat))) (U.i (0 : Int)))))]]) (65536 : Nat)) (bc nn Bool.true (bc nn Bool.false Bool.true)) Bool.false) Bool.false)
        (.at (sP (n) (a) (b) (l) (IntKind.wrap IntKind.i64 (i + (1 : Int))) (q ++ [[U.i (U.int (List.getD (List.getD l (Int.toNat i) []) (0 : Nat) (U.i (0 : Int)))), U.i (IntKind.wrap IntKind.i64 (IntKind.wrap IntKind.i64 (n - (2 : Int)) - U.int (List.getD (List.getD l (Int.toNat i) []) (Nat.succ (0 : Nat)) (U.i (0 : Int))))), U.s (chgW bMir (U.str (List.getD (List.getD l (Int.toNat i) []) (Nat.succ (Nat.succ (0 : Nat))) (U.i (0 : Int)))))]]) (bc nn Bool.true (Nat.blt (0 : Nat) (List.length [[U.i (U.int (List.getD (List.getD l (Int.toNat i) []) (0 : Nat) (U.i (0 : Int)))), U.i (IntKind.wrap IntKind.i64 (IntKind.wrap IntKind.i64 (n - (2 : Int)) - U.int (List.getD (List.getD l (Int.toNat i) []) (Nat.succ (0 : Nat)) (U.i (0 : Int))))), U.s (chgW bMir (U.str (List.getD (List.getD l (Int.toNat i) []) (Nat.succ (Nat.succ (0 : Nat))) (U.i (0 : Int)))))]])))))
        .bad)
      .bad)
    .bad)
  (bc (bc (Nat.beq (List.length q) (List.length q)) Bool.true Bool.false)
    (.done (EV.agg [(EV.v (Value.int IntKind.i64 (b))), (EV.lst (SyC.recs [(Sh.int IntKind.i64), (Sh.int IntKind.i64), Sh.str] (q)))]) [] 0)
    .bad)) := by kernel_rfl
theorem step {n a b : Int} {l : List (List U)} {i : Nat} {q : List (List U)} {nn : Bool} (hi : i < l.length) (hl : l.length ≤ 1000) (hq : q.length ≤ 1000) (ha : 0 ≤ rA l[i] ∧ rA l[i] ≤ 1000) (hk : -1000 ≤ n ∧ n ≤ 1000) : RUN (stOf (sP n a b l i q nn)) = .at (sP n a b l (i + 1 : Nat) (q ++ [flR bMir n l[i]]) true) := by
  rw [step_t]
  have e : l.getD i [] = l[i] := getD_at hi
  simp (disch := omega) only [Nat.add_eq, eqSy_self, eqN_self, bc_same, List.length_cons, ofn, wrap_in, dt, df, bltD, bltN, ble_of, bleN, beqD, bc_t, bc_f, nn_ok, Nat.zero_add, to_nat, Int.zero_add, Int.sub_zero, Int.sub_self, Int.cast_ofNat_Int, Int.natCast_zero, Int.toNat_zero, List.take_zero, List.nil_append, List.length_append, List.length_nil, e, fK0, fK1, fA0, fA1, fA2, fW0, fW1, fW2]
  rfl
theorem last {n a b : Int} {l : List (List U)} {i : Nat} {q : List (List U)} {nn : Bool} (hi : l.length ≤ i) : RUN (stOf (sP n a b l i q nn)) = .done (.agg [iv b, wl q]) [] 0 := by
  rw [step_t]
  simp (disch := omega) only [Nat.add_eq, eqSy_self, eqN_self, bc_same, List.length_cons, ofn, wrap_in, dt, df, bltD, bltN, ble_of, bleN, beqD, bc_t, bc_f, nn_ok, Nat.zero_add, to_nat, Int.zero_add, Int.sub_zero, Int.sub_self, Int.cast_ofNat_Int, Int.natCast_zero, Int.toNat_zero, List.take_zero, List.nil_append, List.length_append, List.length_nil]
  rfl
theorem loop {n a b : Int} {l : List (List U)} (hl : l.length ≤ 1000) (ha : AtOk l) (hk : -1000 ≤ n ∧ n ≤ 1000) : ∀ (m i : Nat) (q : List (List U)) (nn : Bool), i + m = l.length → q.length ≤ i → EndZ 58 ctH false (stOf (sP n a b l i q nn)) (.agg [iv b, wl (q ++ flL bMir n (l.drop i))]) [] 0
  | 0, i, q, nn, h, hq => by
    rw [List.drop_eq_nil_of_le (by omega)]
    show EndZ _ _ _ _ (.agg [iv b, wl (q ++ [])]) _ _
    rw [List.append_nil]
    exact .done (last (by omega))
  | m + 1, i, q, nn, h, hq => by
    have hi : i < l.length := by omega
    rw [List.drop_eq_getElem_cons hi]
    show EndZ _ _ _ _ (.agg [iv b, wl (q ++ (flR bMir n l[i] :: flL bMir n (l.drop (i + 1))))]) _ _
    rw [show q ++ (flR bMir n l[i] :: flL bMir n (l.drop (i + 1))) = (q ++ [flR bMir n l[i]]) ++ flL bMir n (l.drop (i + 1)) by simp]
    exact .at ctH_ok (step hi hl (by omega) (ha _ (List.getElem_mem hi)) hk) (loop hl ha hk m (i + 1) _ true (by omega) (by simp; omega))
theorem ends (n a b : Int) (l : List (List U)) (hc : l.length ≤ 1000 ∧ AtOk l ∧ -1000 ≤ n ∧ n ≤ 1000) : EndZ 58 ctH false (st0 58 [.agg [iv n, wl l], .agg [iv a, iv b, .fn 67 []]]) (.agg [iv b, wl (flL bMir n l)]) [] 0 := .at ctH_ok (in_t n a b l) (by have := loop (n := n) (a := a) (b := b) hc.1 hc.2.1 hc.2.2 l.length 0 [] false (by omega) (by simp); rw [List.nil_append] at this; exact this)
end PChM
noncomputable def spChF_0 : ZCT := fun ax => match ax with
  | [.agg [.v (.int .i64 n), .lst (.recs [.int .i64, .int .i64, .str] l)], .agg [.v (.int .i64 a), .v (.int .i64 b), .fn 65 []]] => some ⟨decide (l.length ≤ 1000 ∧ AtOk l ∧ -1000 ≤ n ∧ n ≤ 1000), .agg [iv b, wl (flL bFlip n l)], [], 0⟩
  | _ => none
theorem spChF_0_ok : ZCtOk Try.prog 58 spChF_0 := fun γ w us ax r hs hc hax hN hfz => by
  unfold spChF_0 at hs
  split at hs
  case h_2 => cases hs
  rename_i n l a b
  obtain ⟨rfl⟩ := Option.some.inj hs
  have hc_0 : decide (l.length ≤ 1000 ∧ AtOk l ∧ -1000 ≤ n ∧ n ≤ 1000) = true := hc
  have hc := of_decide_eq_true hc_0
  exact EndZ.calls (PChF.ends n a b l hc) ctH_ok (by kernel_rfl) hax hN hfz
noncomputable def spChF_1 : ZCT := fun ax => match ax with
  | [.agg [.v (.int .i64 n), .lst (.recs [.int .i64, .int .i64, .str] l)], .agg [.v (.int .i64 a), .v (.int .i64 b), .fn 67 []]] => some ⟨decide (l.length ≤ 1000 ∧ AtOk l ∧ -1000 ≤ n ∧ n ≤ 1000), .agg [iv b, wl (flL bMir n l)], [], 0⟩
  | _ => none
theorem spChF_1_ok : ZCtOk Try.prog 58 spChF_1 := fun γ w us ax r hs hc hax hN hfz => by
  unfold spChF_1 at hs
  split at hs
  case h_2 => cases hs
  rename_i n l a b
  obtain ⟨rfl⟩ := Option.some.inj hs
  have hc_0 : decide (l.length ≤ 1000 ∧ AtOk l ∧ -1000 ≤ n ∧ n ≤ 1000) = true := hc
  have hc := of_decide_eq_true hc_0
  exact EndZ.calls (PChM.ends n a b l hc) ctH_ok (by kernel_rfl) hax hN hfz
noncomputable def spChF : ZCT := ZCT.or spChF_0 (spChF_1)
theorem spChF_ok : ZCtOk Try.prog 58 spChF := spChF_0_ok.or (spChF_1_ok)
noncomputable def ctT : Tr ZCC := ctH.put 58 (some (dC spChF))
theorem ctT_ok : ZCtsOk Try.prog ctT := ctH_ok.add rfl spChF_ok
namespace PFlip
noncomputable def RUN (s : ES) : ZF := RZ 27 ctT (fun _ => false) [] [] false s
theorem in_t (n : Int) (l : List (List U)) : RUN (st0 27 [.agg [iv n, wl l]]) = (bc (chk4 n l != (0 : Int))
  (.done (EV.tup [(EV.v (Value.agg (Array.mk [(Value.int IntKind.i64 (0)), (Value.slice Option.none 0 0)]))), (EV.v (Value.int IntKind.i64 (chk4 n l)))]) [] 0)
  (bc (Decidable.decide (List.length l ≤ (1000 : Nat) ∧ AtOk l ∧ (-1000 : Int) ≤ n ∧ n ≤ (1000 : Int)))
    (.done (EV.tup [(EV.agg [(EV.v (Value.int IntKind.i64 (n))), (EV.lst (SyC.recs [(Sh.int IntKind.i64), (Sh.int IntKind.i64), Sh.str] (flL bFlip n l)))]), (EV.v (Value.int IntKind.i64 (0)))]) [] 0)
    .bad)) := by kernel_rfl
theorem ends (n : Int) (l : List (List U)) : EndZ 27 ctT false (st0 27 [.agg [iv n, wl l]]) (shE (turP n l) (turL bFlip n l) (chk4 n l)) [] 0 := by
  have h := in_t n l
  unfold turP turL
  cases h1 : (chk4 n l != 0) <;> rw [h1] at h
  · have e := ne0 h1
    have v := chk4_ok e
    have g1 := v.lo
    have g2 := v.hi
    have hq : l.length ≤ 1000 ∧ AtOk l ∧ -1000 ≤ n ∧ n ≤ 1000 := ⟨by have := v.len; omega, v.at, by omega, by omega⟩
    simp (disch := omega) only [Nat.add_eq, eqSy_self, eqN_self, bc_same, List.length_cons, ofn, wrap_in, dt, df, bltD, bltN, ble_of, bleN, beqD, bc_t, bc_f, nn_ok, Nat.zero_add, to_nat, Int.zero_add, Int.sub_zero, Int.sub_self, Int.cast_ofNat_Int, Int.natCast_zero, Int.toNat_zero, List.take_zero, List.nil_append, List.length_append, List.length_nil, dt hq] at h
    exact doneX h rfl rfl e.symm
  · exact doneY h rfl rfl rfl
end PFlip
noncomputable def spPFlip : ZCT := fun ax => match ax with
  | [.agg [.v (.int .i64 n), .lst (.recs [.int .i64, .int .i64, .str] l)]] => some ⟨decide (True), shE (turP n l) (turL bFlip n l) (chk4 n l), [], 0⟩
  | _ => none
theorem spPFlip_ok : ZCtOk Try.prog 27 spPFlip := fun γ w us ax r hs hc hax hN hfz => by
  unfold spPFlip at hs
  split at hs
  case h_2 => cases hs
  rename_i n l
  obtain ⟨rfl⟩ := Option.some.inj hs
  have hc_0 : decide (True) = true := hc
  have hc := of_decide_eq_true hc_0
  exact EndZ.calls (PFlip.ends n l) ctT_ok (by kernel_rfl) hax hN hfz
namespace PMir
noncomputable def RUN (s : ES) : ZF := RZ 29 ctT (fun _ => false) [] [] false s
theorem in_t (n : Int) (l : List (List U)) : RUN (st0 29 [.agg [iv n, wl l]]) = (bc (chk4 n l != (0 : Int))
  (.done (EV.tup [(EV.v (Value.agg (Array.mk [(Value.int IntKind.i64 (0)), (Value.slice Option.none 0 0)]))), (EV.v (Value.int IntKind.i64 (chk4 n l)))]) [] 0)
  (bc (Decidable.decide (List.length l ≤ (1000 : Nat) ∧ AtOk l ∧ (-1000 : Int) ≤ n ∧ n ≤ (1000 : Int)))
    (.done (EV.tup [(EV.agg [(EV.v (Value.int IntKind.i64 (n))), (EV.lst (SyC.recs [(Sh.int IntKind.i64), (Sh.int IntKind.i64), Sh.str] (flL bMir n l)))]), (EV.v (Value.int IntKind.i64 (0)))]) [] 0)
    .bad)) := by kernel_rfl
theorem ends (n : Int) (l : List (List U)) : EndZ 29 ctT false (st0 29 [.agg [iv n, wl l]]) (shE (turP n l) (turL bMir n l) (chk4 n l)) [] 0 := by
  have h := in_t n l
  unfold turP turL
  cases h1 : (chk4 n l != 0) <;> rw [h1] at h
  · have e := ne0 h1
    have v := chk4_ok e
    have g1 := v.lo
    have g2 := v.hi
    have hq : l.length ≤ 1000 ∧ AtOk l ∧ -1000 ≤ n ∧ n ≤ 1000 := ⟨by have := v.len; omega, v.at, by omega, by omega⟩
    simp (disch := omega) only [Nat.add_eq, eqSy_self, eqN_self, bc_same, List.length_cons, ofn, wrap_in, dt, df, bltD, bltN, ble_of, bleN, beqD, bc_t, bc_f, nn_ok, Nat.zero_add, to_nat, Int.zero_add, Int.sub_zero, Int.sub_self, Int.cast_ofNat_Int, Int.natCast_zero, Int.toNat_zero, List.take_zero, List.nil_append, List.length_append, List.length_nil, dt hq] at h
    exact doneX h rfl rfl e.symm
  · exact doneY h rfl rfl rfl
end PMir
noncomputable def spPMir : ZCT := fun ax => match ax with
  | [.agg [.v (.int .i64 n), .lst (.recs [.int .i64, .int .i64, .str] l)]] => some ⟨decide (True), shE (turP n l) (turL bMir n l) (chk4 n l), [], 0⟩
  | _ => none
theorem spPMir_ok : ZCtOk Try.prog 29 spPMir := fun γ w us ax r hs hc hax hN hfz => by
  unfold spPMir at hs
  split at hs
  case h_2 => cases hs
  rename_i n l
  obtain ⟨rfl⟩ := Option.some.inj hs
  have hc_0 : decide (True) = true := hc
  have hc := of_decide_eq_true hc_0
  exact EndZ.calls (PMir.ends n l) ctT_ok (by kernel_rfl) hax hN hfz
namespace PPla
noncomputable def RUN (s : ES) : ZF := RZ 31 ctJ1 (fun _ => false) [] [] false s
theorem in_t (n a b : Int) (l : List (List U)) : RUN (st0 31 [.agg [iv n, wl l], iv a, iv b]) = (bc (chk4 n l != (0 : Int))
  (.done (EV.tup [(EV.v (Value.agg (Array.mk [(Value.int IntKind.i64 (0)), (Value.slice Option.none 0 0)]))), (EV.v (Value.int IntKind.i64 (chk4 n l)))]) [] 0)
  (bc (Decidable.decide (b < (2 : Int)))
    (.done (EV.tup [(EV.v (Value.agg (Array.mk [(Value.int IntKind.i64 (0)), (Value.slice Option.none 0 0)]))), (EV.v (Value.int IntKind.i64 (7)))]) [] 0)
    (bc (Decidable.decide ((24 : Int) < b))
      (.done (EV.tup [(EV.v (Value.agg (Array.mk [(Value.int IntKind.i64 (0)), (Value.slice Option.none 0 0)]))), (EV.v (Value.int IntKind.i64 (7)))]) [] 0)
      (bc (Decidable.decide (a < (0 : Int)))
        (.done (EV.tup [(EV.v (Value.agg (Array.mk [(Value.int IntKind.i64 (0)), (Value.slice Option.none 0 0)]))), (EV.v (Value.int IntKind.i64 (7)))]) [] 0)
        (bc (Decidable.decide (IntKind.wrap IntKind.i64 (b - n) < a))
          (.done (EV.tup [(EV.v (Value.agg (Array.mk [(Value.int IntKind.i64 (0)), (Value.slice Option.none 0 0)]))), (EV.v (Value.int IntKind.i64 (7)))]) [] 0)
          (bc (Decidable.decide (List.length l ≤ (1000 : Nat) ∧ AtOk l ∧ (-1000 : Int) ≤ a ∧ a ≤ (1000 : Int)))
            (.done (EV.tup [(EV.agg [(EV.v (Value.int IntKind.i64 (b))), (EV.lst (SyC.recs [(Sh.int IntKind.i64), (Sh.int IntKind.i64), Sh.str] (shL a l)))]), (EV.v (Value.int IntKind.i64 (0)))]) [] 0)
            .bad)))))) := by kernel_rfl
theorem ends (n a b : Int) (l : List (List U)) : EndZ 31 ctJ1 false (st0 31 [.agg [iv n, wl l], iv a, iv b]) (shE (plaP n a b l) (plaL n a b l) (plaE n a b l)) [] 0 := by
  have h := in_t n a b l
  have he : plaE n a b l = bc (chk4 n l != 0) (chk4 n l) (bc (decide (b < 2)) 7 (bc (decide (24 < b)) 7 (bc (decide (a < 0)) 7 (bc (decide (b - n < a)) 7 0)))) := rfl
  cases h1 : (chk4 n l != 0) <;> rw [h1] at h he
  · have v := chk4_ok (ne0 h1)
    have g1 := v.lo
    have g2 := v.hi
    have g3 := v.len
    simp only [bc_f] at h he
    by_cases h2 : b < 2
    · simp only [dt h2, bc_t] at h he
      exact doneY h (plaV he rfl).1.symm (plaV he rfl).2.symm he.symm
    by_cases h3 : 24 < b
    · simp only [df h2, dt h3, bc_t, bc_f] at h he
      exact doneY h (plaV he rfl).1.symm (plaV he rfl).2.symm he.symm
    by_cases h4 : a < 0
    · simp only [df h2, df h3, dt h4, bc_t, bc_f] at h he
      exact doneY h (plaV he rfl).1.symm (plaV he rfl).2.symm he.symm
    by_cases h5 : b - n < a
    · simp (disch := omega) only [df h2, df h3, df h4, dt h5, bc_t, bc_f, wrap_in] at h he
      exact doneY h (plaV he rfl).1.symm (plaV he rfl).2.symm he.symm
    have hq : l.length ≤ 1000 ∧ AtOk l ∧ -1000 ≤ a ∧ a ≤ 1000 := ⟨by omega, v.at, by omega, by omega⟩
    simp (disch := omega) only [df h2, df h3, df h4, df h5, dt hq, bc_t, bc_f, wrap_in] at h he
    exact doneX h (plaV0 he).1.symm (plaV0 he).2.symm he.symm
  · simp only [bc_t] at h he
    exact doneY h (plaV he h1).1.symm (plaV he h1).2.symm he.symm
end PPla
noncomputable def spPPla : ZCT := fun ax => match ax with
  | [.agg [.v (.int .i64 n), .lst (.recs [.int .i64, .int .i64, .str] l)], .v (.int .i64 a), .v (.int .i64 b)] => some ⟨decide (True), shE (plaP n a b l) (plaL n a b l) (plaE n a b l), [], 0⟩
  | _ => none
theorem spPPla_ok : ZCtOk Try.prog 31 spPPla := fun γ w us ax r hs hc hax hN hfz => by
  unfold spPPla at hs
  split at hs
  case h_2 => cases hs
  rename_i n l a b
  obtain ⟨rfl⟩ := Option.some.inj hs
  have hc_0 : decide (True) = true := hc
  have hc := of_decide_eq_true hc_0
  exact EndZ.calls (PPla.ends n a b l) ctJ1_ok (by kernel_rfl) hax hN hfz
end Go.Proofs.Ytkbebiebaenbdaa.Ev
namespace Go.Proofs.Ytkbebiebaenbdaa.Ev
open Go.Proofs
theorem badF_iff (w : ByteArray) : ∀ (k i : Nat), badF w i k = false ↔ ∀ j, i ≤ j → j < i + k → 0 ≤ idx bLet (byteAt w j)
  | 0, i => ⟨fun _ j h1 h2 => by omega, fun _ => rfl⟩
  | k + 1, i => by
    have ih := badF_iff w k (i + 1)
    unfold badF
    by_cases h : idx bLet (byteAt w i) < 0
    · rw [dt h, bc_t]
      exact ⟨fun e => (by cases e), fun e => absurd (e i (Nat.le_refl _) (by omega)) (by omega)⟩
    · rw [df h, bc_f, ih]
      constructor
      · intro e j h1 h2
        by_cases hj : j = i
        · subst hj; omega
        · exact e j (by omega) (by omega)
      · intro e j h1 h2; exact e j (by omega) (by omega)
theorem byteAt_lt (s : ByteArray) (i : Nat) : 0 ≤ byteAt s i ∧ byteAt s i < 256 := by
  have h := (s.data.toList.getD i 0).toNat_lt
  have e : byteAt s i = ((s.data.toList.getD i 0).toNat : Int) := rfl
  rw [e]
  omega
theorem byteAt_nums {p : List Int} {i : Nat} (h : i < p.length) (h0 : 0 ≤ p[i]) (h1 : p[i] < 256) : byteAt (strOfNums p) i = p[i] := by
  have e : byteAt (strOfNums p) i = (((p.map fun n => UInt8.ofNat n.toNat).toArray.toList.getD i 0).toNat : Int) := rfl
  rw [e]
  simp only [List.getD_eq_getElem?_getD, List.getElem?_map, List.getElem?_eq_getElem h, Option.map_some, Option.getD_some, UInt8.toNat_ofNat']
  omega
theorem nums_size (p : List Int) : (strOfNums p).size = p.length := by
  show ((p.map fun n => UInt8.ofNat n.toNat).toArray).size = _
  simp
theorem chg_nums {w t : ByteArray} (ht : t.size = 9) (h : chk3 w = 0) : chgW t w = strOfNums ((bytesL w).map (trB t)) := by
  unfold chgW
  rw [h]
  show chg t w = _
  have := chgB_eq (w := w) ht w.size 0 [] (by omega) (chk3_0 h).2
  rw [List.nil_append, List.drop_zero] at this
  exact this
theorem chg_size {w t : ByteArray} (ht : t.size = 9) (h : chk3 w = 0) : (chgW t w).size = w.size := by
  rw [chg_nums ht h, nums_size, List.length_map, bytesL_len]
theorem chg_at {w t : ByteArray} (ht : t.size = 9) (h : chk3 w = 0) {i : Nat} (hi : i < w.size) : byteAt (chgW t w) i = byteAt t (idx bLet (byteAt w i)).toNat := by
  have hl : i < ((bytesL w).map (trB t)).length := by rw [List.length_map, bytesL_len]; exact hi
  have e : ((bytesL w).map (trB t))[i] = byteAt t (idx bLet (byteAt w i)).toNat := by
    rw [List.getElem_map, bytesL_at hi]; rfl
  rw [chg_nums ht h, byteAt_nums hl (by rw [e]; exact (byteAt_lt _ _).1) (by rw [e]; exact (byteAt_lt _ _).2), e]
theorem flip_let (j : Nat) (hj : j < 9) : 0 ≤ idx bLet (byteAt bFlip j) := by
  have h : (List.range 9).all (fun j => decide (0 ≤ idx bLet (byteAt bFlip j))) = true := by kernel_rfl
  exact of_decide_eq_true (List.all_eq_true.1 h j (List.mem_range.2 hj))
theorem chg_ok {w : ByteArray} (h : chk3 w = 0) : chk3 (chgW bFlip w) = 0 := by
  have h1 := chk3_0 h
  have hs := chg_size (t := bFlip) rfl h
  refine chk3_of (by omega) ((badF_iff _ _ _).2 fun j _ hj => ?_)
  rw [chg_at rfl h (by omega)]
  have h9 : idx bLet (byteAt w j) < 9 := idx_lt bLet _
  have h0 := (badF_iff _ _ _).1 h1.2 j (Nat.zero_le _) (by omega)
  exact flip_let _ (by omega)
theorem toList_nil {w : ByteArray} (h : w.toList = (ByteArray.mk #[]).toList) : w.size = 0 := by
  rw [Lib.toList_data, Lib.toList_data] at h
  have : w.data.toList.length = 0 := by rw [h]; rfl
  rw [Array.length_toList] at this
  exact this
theorem toList_of {w : ByteArray} (h : w.size = 0) : w.toList = (ByteArray.mk #[]).toList := by
  rw [Lib.toList_data, Lib.toList_data]
  have : w.data.toList.length = 0 := by rw [Array.length_toList]; exact h
  rw [List.length_eq_zero_iff.1 this]
theorem ValR.word {n : Int} {r : List U} (h : ValR n r) : chk3 (rW r) = 0 := chk3_of h.long h.form
theorem ValR.fl {n : Int} {r : List U} (h : ValR n r) : ValR n (flR bFlip n r) := by
  have h1 := h.lo
  have h2 := h.hi
  have h3 := chk3_0 (chg_ok h.word)
  refine ⟨h.kind, ?_, ?_, fun hk => ?_, h3.1, h3.2⟩
  · show 0 ≤ n - 2 - rA r; omega
  · show n - 2 - rA r ≤ n - 2; omega
  · have := toList_nil (h.sew hk)
    exact toList_of (by rw [← this]; exact chg_size rfl h.word)
theorem ValS.fl {n : Int} {l : List (List U)} (h : ValS n l) : ValS n (flL bFlip n l) :=
  ⟨h.lo, h.hi, by rw [flL_len]; exact h.len, fun r hr => by
    unfold flL at hr
    obtain ⟨x, hx, rfl⟩ := List.mem_map.1 hr
    exact (h.val x hx).fl⟩
theorem ValS.app {n : Int} {l k : List (List U)} (h : ValS n l) (g : ValS n k) (hl : l.length + k.length ≤ 400) : ValS n (l ++ k) :=
  ⟨h.lo, h.hi, by rw [List.length_append]; exact hl, fun r hr => by
    rcases List.mem_append.1 hr with e | e
    · exact h.val r e
    · exact g.val r e⟩
theorem ValS.bes {n m : Int} {l k : List (List U)} (h : ValS n l) (g : ValS m k) (h24 : n + m ≤ 24) (hl : l.length + k.length ≤ 400) : ValS (n + m) (l ++ shL n k) :=
  ⟨by have := h.lo; have := g.lo; omega, h24, by rw [List.length_append, shL_len]; exact hl, fun r hr => by
    have := h.lo
    have := g.lo
    rcases List.mem_append.1 hr with e | e
    · exact (h.val r e).mono (by omega)
    · unfold shL at e
      obtain ⟨x, hx, rfl⟩ := List.mem_map.1 e
      exact (g.val x hx).sh (by omega) (by omega)⟩
/-! ### orders -/
theorem seg (P l Q : List (List U)) : (List.range l.length).map (fun i => (P ++ (l ++ Q)).getD (P.length + i) []) = l := by
  apply List.ext_getElem
  · simp
  · intro i h1 h2
    have h3 : P.length + i < (P ++ (l ++ Q)).length := by simp only [List.length_append]; omega
    rw [List.getElem_map, List.getElem_range, getD_at h3, List.getElem_append_right (by omega)]
    have e : P.length + i - P.length = i := by omega
    simp only [e]
    exact List.getElem_append_left h2
theorem tch_iff' (x y : List U) : tch x y = true ↔ rA x - rA y ≤ 1 ∧ rA y - rA x ≤ 1 := by
  unfold tch
  by_cases h1 : rA x - rA y ≤ 1
  · rw [dt h1, bc_t, decide_eq_true_iff]; exact ⟨fun h => ⟨h1, h⟩, fun h => h.2⟩
  · rw [df h1, bc_f]; exact ⟨fun h => (by cases h), fun h => absurd h.1 h1⟩
theorem tch_far {x y : List U} (h : rA x + 2 ≤ rA y) : tch x y = false := by
  cases e : tch x y
  · rfl
  · have := (tch_iff' x y).1 e
    omega
theorem eq_tch {x y : List U} (h : rowEq x y = true) : tch x y = true := by
  unfold rowEq at h
  cases h1 : rK x == rK y <;> rw [h1] at h
  · cases h
  cases h2 : rA x == rA y <;> rw [h2] at h
  · cases h
  have : rA x = rA y := by simpa using h2
  exact (tch_iff' x y).2 (by omega)
theorem exl (P B C Q : List (List U)) (h : ∀ b, b ∈ B → ∀ c, c ∈ C → tch b c = false) : MatchP.matchF rowEq tch (P ++ (B ++ (C ++ Q))).length (fun i => (P ++ (B ++ (C ++ Q))).getD i []) (fun _ => false) (P ++ (C ++ (B ++ Q))) = true := by
  have s1 := seg [] P (B ++ (C ++ Q))
  have s2 := seg (P ++ B) C Q
  have s3 := seg P B (C ++ Q)
  have s4 := seg (P ++ B ++ C) Q []
  have a2 : (P ++ B) ++ (C ++ Q) = P ++ (B ++ (C ++ Q)) := by simp
  have a4 : (P ++ B ++ C) ++ (Q ++ []) = P ++ (B ++ (C ++ Q)) := by simp
  rw [a2] at s2
  rw [a4] at s4
  simp only [List.nil_append, List.length_nil, Nat.zero_add] at s1
  simp only [List.length_append] at s2 s4
  have e1 : (P ++ (B ++ (C ++ Q))).length = P.length + B.length + C.length + Q.length := by simp only [List.length_append]; omega
  have k := MatchP.matchF_swap (eq := rowEq) (tch := tch) (x := P.length) (y := B.length) (z := C.length) (v := Q.length) (a := fun i => (P ++ (B ++ (C ++ Q))).getD i []) (fun i => rowEq_self _) (fun i j e => eq_tch e) (fun i j hi hj => by
    refine h _ ?_ _ ?_
    · have h3 : P.length + i < (P ++ (B ++ (C ++ Q))).length := by omega
      show (P ++ (B ++ (C ++ Q))).getD (P.length + i) [] ∈ B
      rw [getD_at h3, List.getElem_append_right (by omega)]
      have e : P.length + i - P.length = i := by omega
      simp only [e]
      rw [List.getElem_append_left hi]
      exact List.getElem_mem hi
    · have h3 : P.length + B.length + j < ((P ++ B) ++ (C ++ Q)).length := by rw [a2]; omega
      show (P ++ (B ++ (C ++ Q))).getD (P.length + B.length + j) [] ∈ C
      rw [← a2, getD_at h3, List.getElem_append_right (by simp only [List.length_append]; omega)]
      have e : P.length + B.length + j - (P ++ B).length = j := by simp only [List.length_append]; omega
      simp only [e]
      rw [List.getElem_append_left hj]
      exact List.getElem_mem hj)
  rw [e1]
  simp only [List.map_append, List.map_map] at k
  have t1 : List.map (fun i => (P ++ (B ++ (C ++ Q))).getD i []) (List.range P.length) = P := s1
  have t2 : List.map ((fun i => (P ++ (B ++ (C ++ Q))).getD i []) ∘ fun x => P.length + B.length + x) (List.range C.length) = C := s2
  have t3 : List.map ((fun i => (P ++ (B ++ (C ++ Q))).getD i []) ∘ fun x => P.length + x) (List.range B.length) = B := s3
  have t4 : List.map ((fun i => (P ++ (B ++ (C ++ Q))).getD i []) ∘ fun x => P.length + B.length + C.length + x) (List.range Q.length) = Q := s4
  rw [t1, t2, t3, t4] at k
  rw [show P ++ (C ++ (B ++ Q)) = P ++ C ++ B ++ Q by simp]
  exact k
end Go.Proofs.Ytkbebiebaenbdaa.Ev
namespace Go.Proofs.Ytkbebiebaenbdaa.Ev
open Go.Proofs
noncomputable def spMul : ZCT := fun ax => match ax with
  | [.v (.int .u64 a), .v (.int .u64 b)] => some ⟨decide (0 ≤ a ∧ a ≤ 65536 ∧ 0 ≤ b ∧ b ≤ 65536), .tup [.v (.int .u64 0), .v (.int .u64 (a * b))], [], 0⟩
  | _ => none
theorem spMul_ok : ZCtOk Try.prog 79 spMul := fun γ w us ax r hs hc hax hN hfz => by
  unfold spMul at hs
  split at hs
  case h_2 => cases hs
  rename_i a b
  obtain ⟨rfl⟩ := Option.some.inj hs
  obtain ⟨h1, h2, h3, h4⟩ := of_decide_eq_true (show decide (0 ≤ a ∧ a ≤ 65536 ∧ 0 ≤ b ∧ b ≤ 65536) = true from hc)
  obtain ⟨x, r1, e1, hx, hc1⟩ := ECL.inv hax
  obtain ⟨y, r2, e2, hy, hc2⟩ := ECL.inv hc1
  have e3 : r2 = [] := by apply List.eq_nil_of_length_eq_zero; have := hc2.1; simpa using this.symm
  have hx := ec_v hx
  have hy := ec_v hy
  subst hx; subst hy; subst e3; subst e2
  obtain ⟨a, rfl⟩ := Int.eq_ofNat_of_zero_le h1
  obtain ⟨b, rfl⟩ := Int.eq_ofNat_of_zero_le h3
  have eu : us = #[.int .u64 (a : Int), .int .u64 (b : Int)] := by apply Array.ext'; simpa using e1
  rw [eu]
  have hm : a * b ≤ 65536 * 65536 := Nat.mul_le_mul (by omega) (by omega)
  refine (Try.bits_Mul a b (by omega) (by omega) w).mono ?_
  rintro e w' ⟨rfl, rfl⟩
  rw [Nat.div_eq_of_lt (by omega), Nat.mod_eq_of_lt (by omega), Int.natCast_mul]
  exact ⟨γ, _, rfl, .tup _ [.int .u64 0, .int .u64 ((a : Int) * b)] rfl (ECL.cons (.v _) (.cons (.v _) (.nil _))).2, HR.start hN hfz⟩
noncomputable def ctR : Tr ZCC := Tr.nil.put 79 (some (dC spMul))
theorem ctR_ok : ZCtsOk Try.prog ctR := (ZCtsOk.nil _).add rfl spMul_ok
theorem repL_add (l : List (List U)) : ∀ a b, repL l (a + b) = repL l a ++ repL l b
  | 0, b => by rw [Nat.zero_add]; rfl
  | a + 1, b => by rw [Nat.succ_add]; show l ++ repL l (a + b) = (l ++ repL l a) ++ repL l b; rw [repL_add l a b, List.append_assoc]
theorem repL_pre (l : List (List U)) (a b : Nat) (h : a ≤ b) (k : Nat) (hk : k ≤ a * l.length) : (repL l b).take k = (repL l a).take k := by
  obtain ⟨d, rfl⟩ := Nat.exists_eq_add_of_le h
  rw [repL_add, List.take_append_of_le_length (by rw [repL_len]; exact hk)]
theorem repL_same (l : List (List U)) (a b k : Nat) (h1 : k ≤ a * l.length) (h2 : k ≤ b * l.length) : (repL l b).take k = (repL l a).take k := by
  rcases Nat.le_total a b with h | h
  · exact repL_pre l a b h k h1
  · exact (repL_pre l b a h k h2).symm
namespace PRep
noncomputable def RUN (s : ES) : ZF := RZ 76 ctR (atS 0 76 8) [] [[(7,none),(8,none)]] false s

noncomputable def sR (tot : Nat) (i : Int) (q : List (List U)) : NS := ⟨[⟨76, 48, [(7, EV.sl 0 3 0 tot none), (8, iv i)], [.it (.code (nav [1, 1, 1, 1, 1, 1, 0, 0, 0, 0] (bodyOf Try.f76))), .it (.code (nav [1, 1, 1, 1, 1, 1, 0, 0, 0, 1] (bodyOf Try.f76))), .it (.inLoop (nav [1, 1, 1, 1, 1, 1, 0, 0, 0] (bodyOf Try.f76))), .it (.inBlock 0), .it (.code (nav [1, 1, 1, 1, 1, 1, 1] (bodyOf Try.f76)))], [], Option.none⟩], [(0, EK.seq 81 (.recs shW q) true)], 1⟩
theorem step_t (tot : Nat) (i : Int) (q : List (List U)) : RUN (stOf (sR tot i q)) = (bc (Decidable.decide (i < Int.ofNat tot))
  (bc (bc (bc (bc (bc (bc (Decidable.decide ((0 : Int) ≤ i)) (bc (Decidable.decide (i ≤ Int.ofNat tot)) (Decidable.decide (Int.ofNat tot ≤ Int.ofNat tot)) Bool.false) Bool.false) (Decidable.decide (i < Int.ofNat tot)) Bool.false) Bool.true Bool.false) (bc (bc (bc (bc (Decidable.decide ((0 : Int) ≤ i)) (Decidable.decide (i ≤ Int.ofNat tot)) Bool.false) (Decidable.decide ((0 : Int) < Int.ofNat tot)) Bool.false) Bool.true Bool.false) (bc (bc (Nat.ble (((0 : Nat) + Int.toNat (0 : Int) * (3 : Nat)) / (3 : Nat) + (Int.toNat i - Int.toNat (0 : Int))) (List.length q)) (bc (Nat.beq (((0 : Nat) + Int.toNat i * (3 : Nat)) / (3 : Nat) * (3 : Nat)) ((0 : Nat) + Int.toNat i * (3 : Nat))) (Nat.ble (((0 : Nat) + Int.toNat i * (3 : Nat)) / (3 : Nat) + Min.min (Int.toNat i - Int.toNat (0 : Int)) (Int.toNat (Int.ofNat tot) - Int.toNat i)) (List.length q)) Bool.false) Bool.false) Bool.true Bool.false) Bool.false) Bool.false) Bool.true Bool.false)
    (.at (sR (tot) (IntKind.wrap IntKind.i64 (i + Int.ofNat (Min.min (Int.toNat i - Int.toNat (0 : Int)) (Int.toNat (Int.ofNat tot) - Int.toNat i)))) (List.take (((0 : Nat) + Int.toNat i * (3 : Nat)) / (3 : Nat)) q ++ List.take (Min.min (Int.toNat i - Int.toNat (0 : Int)) (Int.toNat (Int.ofNat tot) - Int.toNat i)) (List.take (Int.toNat i - Int.toNat (0 : Int)) (List.drop (((0 : Nat) + Int.toNat (0 : Int) * (3 : Nat)) / (3 : Nat)) q)) ++ List.drop (((0 : Nat) + Int.toNat i * (3 : Nat)) / (3 : Nat) + Min.min (Int.toNat i - Int.toNat (0 : Int)) (Int.toNat (Int.ofNat tot) - Int.toNat i)) q)))
    .bad)
  (bc (Nat.beq tot (List.length q))
    (.done (EV.lst (SyC.recs [(Sh.int IntKind.i64), (Sh.int IntKind.i64), Sh.str] (q))) [] 0)
    .bad)) := by kernel_rfl
theorem in_t (l : List (List U)) (t : Int) : RUN (st0 76 [wl l, iv t]) = (bc (Decidable.decide (t < (0 : Int)))
  .bad
  (bc (bc (Decidable.decide ((0 : Int) ≤ IntKind.wrap IntKind.u64 (Int.ofNat (List.length l)) ∧ IntKind.wrap IntKind.u64 (Int.ofNat (List.length l)) ≤ (65536 : Int) ∧ (0 : Int) ≤ IntKind.wrap IntKind.u64 t ∧ IntKind.wrap IntKind.u64 t ≤ (65536 : Int))) Bool.true Bool.false)
    (bc (Decidable.decide ((9223372036854775807 : Int) < IntKind.wrap IntKind.u64 (Int.ofNat (List.length l)) * IntKind.wrap IntKind.u64 t))
      .bad
      (bc (bc (Decidable.decide ((0 : Int) ≤ IntKind.wrap IntKind.i64 (IntKind.wrap IntKind.u64 (Int.ofNat (List.length l)) * IntKind.wrap IntKind.u64 t))) (bc (Decidable.decide (IntKind.wrap IntKind.i64 (IntKind.wrap IntKind.u64 (Int.ofNat (List.length l)) * IntKind.wrap IntKind.u64 t) = IntKind.wrap IntKind.i64 (IntKind.wrap IntKind.u64 (Int.ofNat (List.length l)) * IntKind.wrap IntKind.u64 t))) (Decidable.decide (IntKind.wrap IntKind.i64 (IntKind.wrap IntKind.u64 (Int.ofNat (List.length l)) * IntKind.wrap IntKind.u64 t) ≤ (65536 : Int))) Bool.false) Bool.false)
        (bc (Nat.ble ((0 / 3 : Nat) + Min.min (List.length l) (Int.toNat (IntKind.wrap IntKind.i64 (IntKind.wrap IntKind.u64 (Int.ofNat (List.length l)) * IntKind.wrap IntKind.u64 t)))) (List.length (List.replicate (Int.toNat (IntKind.wrap IntKind.i64 (IntKind.wrap IntKind.u64 (Int.ofNat (List.length l)) * IntKind.wrap IntKind.u64 t))) [U.i (0 : Int), U.i (0 : Int), U.s { data := #[] }])))
          (.at (sR (Int.toNat (IntKind.wrap IntKind.i64 (IntKind.wrap IntKind.u64 (Int.ofNat (List.length l)) * IntKind.wrap IntKind.u64 t))) (Int.ofNat (Min.min (List.length l) (Int.toNat (IntKind.wrap IntKind.i64 (IntKind.wrap IntKind.u64 (Int.ofNat (List.length l)) * IntKind.wrap IntKind.u64 t))))) (List.take (0 / 3 : Nat) (List.replicate (Int.toNat (IntKind.wrap IntKind.i64 (IntKind.wrap IntKind.u64 (Int.ofNat (List.length l)) * IntKind.wrap IntKind.u64 t))) [U.i (0 : Int), U.i (0 : Int), U.s { data := #[] }]) ++ List.take (Min.min (List.length l) (Int.toNat (IntKind.wrap IntKind.i64 (IntKind.wrap IntKind.u64 (Int.ofNat (List.length l)) * IntKind.wrap IntKind.u64 t)))) l ++ List.drop ((0 / 3 : Nat) + Min.min (List.length l) (Int.toNat (IntKind.wrap IntKind.i64 (IntKind.wrap IntKind.u64 (Int.ofNat (List.length l)) * IntKind.wrap IntKind.u64 t)))) (List.replicate (Int.toNat (IntKind.wrap IntKind.i64 (IntKind.wrap IntKind.u64 (Int.ofNat (List.length l)) * IntKind.wrap IntKind.u64 t))) [U.i (0 : Int), U.i (0 : Int), U.s { data := #[] }]))))
          .bad)
        .bad))
    .bad)) := by kernel_rfl
theorem step {tot i : Nat} {q : List (List U)} (hi : i < tot) (h0 : 0 < i) (ht : tot ≤ 65536) (hq : q.length = tot) : RUN (stOf (sR tot i q)) = .at (sR tot (i + min i (tot - i) : Nat) (q.take i ++ (q.take i).take (min i (tot - i)) ++ q.drop (i + min i (tot - i)))) := by
  rw [step_t]
  have e1 : (0 + Int.toNat (i : Int) * 3) = i * 3 := by omega
  have e2 : (0 + Int.toNat 0 * 3) / 3 = 0 := rfl
  have e3 : Int.toNat (i : Int) - Int.toNat 0 = i := by omega
  have e4 : Int.toNat (Int.ofNat tot) - Int.toNat (i : Int) = tot - i := by show tot - i = tot - i; rfl
  have e5 : i * 3 / 3 = i := by omega
  have e6 : Int.toNat (i : Int) = i := rfl
  simp only [e1, e2, e3, e4, e5]
  simp (disch := omega) only [Nat.add_eq, eqSy_self, eqN_self, bc_same, List.length_cons, ofn, wrap_in, dt, df, bltD, bltN, ble_of, bleN, beqD, bc_t, bc_f, nn_ok, Nat.zero_add, to_nat, Int.zero_add, Int.sub_zero, Int.sub_self, Int.cast_ofNat_Int, Int.natCast_zero, Int.toNat_zero, List.take_zero, List.nil_append, List.length_append, List.length_nil, List.drop_zero, hq]
  rfl
theorem last {tot i : Nat} {q : List (List U)} (hi : tot ≤ i) (hq : q.length = tot) : RUN (stOf (sR tot i q)) = .done (wl q) [] 0 := by
  rw [step_t]
  subst hq
  simp (disch := omega) only [Nat.add_eq, eqSy_self, eqN_self, bc_same, List.length_cons, ofn, wrap_in, dt, df, bltD, bltN, ble_of, bleN, beqD, bc_t, bc_f, nn_ok, Nat.zero_add, to_nat, Int.zero_add, Int.sub_zero, Int.sub_self, Int.cast_ofNat_Int, Int.natCast_zero, Int.toNat_zero, List.take_zero, List.nil_append, List.length_append, List.length_nil]
  rfl
theorem loop {l : List (List U)} {t tot : Nat} (ht : tot = t * l.length) (hs : tot ≤ 65536) : ∀ (d i : Nat) (q : List (List U)), tot - i ≤ d → i ≤ tot → (i = tot ∨ ∃ a, i = a * l.length ∧ 0 < i) → q.length = tot → q.take i = (repL l t).take i → EndZ 76 ctR false (stOf (sR tot i q)) (wl (repL l t)) [] 0 := by
  have fin : ∀ (q : List (List U)), q.length = tot → q.take tot = (repL l t).take tot → EndZ 76 ctR false (stOf (sR tot tot q)) (wl (repL l t)) [] 0 := fun q hq he => by
    rw [List.take_of_length_le (by omega), List.take_of_length_le (by rw [repL_len]; omega)] at he
    rw [← he]
    exact .done (last (Nat.le_refl _) hq)
  intro d
  induction d with
  | zero =>
    intro i q hd hi _ hq he
    have : i = tot := by omega
    subst this
    exact fin q hq he
  | succ d ih =>
    intro i q hd hi ha hq he
    rcases ha with rfl | ⟨a, hia, h0⟩
    · exact fin q hq he
    by_cases hlt : i < tot
    · refine .at ctR_ok (step hlt h0 hs hq) (ih _ _ (by omega) (by omega) ?_ ?_ ?_)
      · by_cases hc : i ≤ tot - i
        · right; exact ⟨a + a, by rw [Nat.min_eq_left hc, Nat.add_mul]; omega, by omega⟩
        · left; rw [Nat.min_eq_right (by omega)]; omega
      · simp only [List.length_append, List.length_take, List.length_drop, hq]; omega
      · have hat : a ≤ t := by
          rcases Nat.lt_or_ge t a with h | h
          · have := Nat.mul_le_mul_right l.length (Nat.le_of_lt h); omega
          · exact h
        have hsub : (t - a) * l.length = tot - i := by rw [Nat.sub_mul]; omega
        have hP : repL l t = repL l a ++ repL l (t - a) := by rw [← repL_add]; congr 1; omega
        have hlen : (q.take i ++ (q.take i).take (min i (tot - i))).length = i + min i (tot - i) := by
          simp only [List.length_append, List.length_take, hq]; omega
        rw [List.take_left' hlen, he, hP]
        have hla : (repL l a).length = i := by rw [repL_len]; exact hia.symm
        have h9 : (repL l a).take (i + min i (tot - i)) = repL l a := List.take_of_length_le (by omega)
        have h10 : i + min i (tot - i) - i = min i (tot - i) := by omega
        rw [List.take_left' hla, List.take_append, hla, h9, h10]
        congr 1
        symm
        exact repL_same _ _ _ _ (by rw [← hia]; omega) (by rw [hsub]; omega)
    · have : i = tot := by omega
      subst this
      exact fin q hq he
theorem ends (l : List (List U)) (k : Nat) (hk : k ≤ 400) (hl : l.length ≤ 400) (hm : k * l.length ≤ 65536) : EndZ 76 ctR false (st0 76 [wl l, iv k]) (wl (repL l k)) [] 0 := by
  have h := in_t l k
  have wu : ∀ n : Nat, n ≤ 65536 → IntKind.wrap IntKind.u64 (n : Int) = n := fun n hn => by rw [IntKind.wrap_u64]; omega
  have w1 : IntKind.wrap IntKind.u64 (Int.ofNat l.length) = (l.length : Int) := wu _ (by omega)
  have w2 : IntKind.wrap IntKind.u64 (k : Int) = (k : Int) := wu _ (by omega)
  have w3 : (l.length : Int) * (k : Int) = ((k * l.length : Nat) : Int) := by rw [Int.natCast_mul, Int.mul_comm]
  have w4 : IntKind.wrap IntKind.i64 ((k * l.length : Nat) : Int) = ((k * l.length : Nat) : Int) := by simp (disch := omega) only [wrap_in]
  simp only [w1, w2, w3, w4] at h
  generalize htot : k * l.length = tot at *
  have d1 : ¬ (k : Int) < 0 := by omega
  have d2 : (0 : Int) ≤ (l.length : Int) ∧ (l.length : Int) ≤ 65536 ∧ (0 : Int) ≤ (k : Int) ∧ (k : Int) ≤ 65536 := by omega
  have d3 : ¬ (9223372036854775807 : Int) < (tot : Int) := by omega
  have d4 : (0 : Int) ≤ (tot : Int) := by omega
  have d5 : (tot : Int) ≤ 65536 := by omega
  have z3 : (0 / 3 : Nat) = 0 := rfl
  have t1 : Int.toNat (tot : Int) = tot := rfl
  simp only [df d1, dt d2, df d3, dt d4, dt d5, bc_t, bc_f, decide_true, z3, t1, Nat.zero_add, List.length_replicate, List.take_zero, List.nil_append] at h
  rw [ble_of (by omega), bc_t] at h
  refine .at ctR_ok h (loop htot.symm hm tot (min l.length tot) _ (by omega) (by omega) ?_ ?_ ?_)
  · rcases Nat.eq_zero_or_pos k with rfl | hk0
    · left; omega
    · rcases Nat.eq_zero_or_pos l.length with h0 | h0
      · left; rw [← htot, h0]; omega
      · have : 1 * l.length ≤ k * l.length := Nat.mul_le_mul_right _ hk0
        right; exact ⟨1, by omega, by omega⟩
  · simp only [List.length_append, List.length_take, List.length_drop, List.length_replicate]; omega
  · rw [List.take_left' (by rw [List.length_take]; omega)]
    rcases Nat.eq_zero_or_pos k with rfl | hk0
    · have : tot = 0 := by omega
      subst this; simp
    · have e := repL_pre l 1 k hk0 (min l.length tot) (by omega)
      rw [e, show repL l 1 = l from List.append_nil l]
end PRep
noncomputable def spRep : ZCT := fun ax => match ax with
  | [.lst (.recs [.int .i64, .int .i64, .str] l), .v (.int .i64 k)] => some ⟨decide (0 ≤ k ∧ k ≤ 400 ∧ l.length ≤ 400 ∧ k * (l.length : Int) ≤ 65536), .lst (.recs [.int .i64, .int .i64, .str] (repL l k.toNat)), [], 0⟩
  | _ => none
theorem spRep_ok : ZCtOk Try.prog 76 spRep := fun γ w us ax r hs hc hax hN hfz => by
  unfold spRep at hs
  split at hs
  case h_2 => cases hs
  rename_i l k
  obtain ⟨rfl⟩ := Option.some.inj hs
  have hc_0 : decide (0 ≤ k ∧ k ≤ 400 ∧ l.length ≤ 400 ∧ k * (l.length : Int) ≤ 65536) = true := hc
  have hc := of_decide_eq_true hc_0
  exact EndZ.calls (by obtain ⟨k, rfl⟩ := Int.eq_ofNat_of_zero_le hc.1; exact PRep.ends l k (by omega) hc.2.2.1 (by have h9 := hc.2.2.2; rw [← Int.natCast_mul] at h9; omega)) ctR_ok (by kernel_rfl) hax hN hfz
noncomputable def ctJ2 : Tr ZCC := ctJ1.put 76 (some (dC spRep))
theorem ctJ2_ok : ZCtsOk Try.prog ctJ2 := ctJ1_ok.add rfl spRep_ok
namespace PTim
noncomputable def RUN (s : ES) : ZF := RZ 40 ctJ2 (fun _ => false) [] [] false s
theorem in_t (n t : Int) (l : List (List U)) : RUN (st0 40 [.agg [iv n, wl l], iv t]) = (bc (chk4 n l != (0 : Int))
  (.done (EV.tup [(EV.v (Value.agg (Array.mk [(Value.int IntKind.i64 (0)), (Value.slice Option.none 0 0)]))), (EV.v (Value.int IntKind.i64 (chk4 n l)))]) [] 0)
  (bc (Decidable.decide (t < (0 : Int)))
    (.done (EV.tup [(EV.v (Value.agg (Array.mk [(Value.int IntKind.i64 (0)), (Value.slice Option.none 0 0)]))), (EV.v (Value.int IntKind.i64 (7)))]) [] 0)
    (bc (Decidable.decide ((400 : Int) < t))
      (.done (EV.tup [(EV.v (Value.agg (Array.mk [(Value.int IntKind.i64 (0)), (Value.slice Option.none 0 0)]))), (EV.v (Value.int IntKind.i64 (7)))]) [] 0)
      (bc (Decidable.decide ((400 : Int) < IntKind.wrap IntKind.i64 (t * Int.ofNat (List.length l))))
        (.done (EV.tup [(EV.v (Value.agg (Array.mk [(Value.int IntKind.i64 (0)), (Value.slice Option.none 0 0)]))), (EV.v (Value.int IntKind.i64 (3)))]) [] 0)
        (bc (bc (bc (Decidable.decide ((0 : Int) ≤ t ∧ t ≤ (400 : Int) ∧ List.length l ≤ (400 : Nat) ∧ t * (Nat.cast (List.length l) : Int) ≤ (65536 : Int))) Bool.true Bool.false) (bc (bc (bc (Decidable.decide (n = n)) Bool.true Bool.false) Bool.true Bool.false) Bool.true Bool.false) Bool.false)
          (.done (EV.tup [(EV.agg [(EV.v (Value.int IntKind.i64 (n))), (EV.lst (SyC.recs [(Sh.int IntKind.i64), (Sh.int IntKind.i64), Sh.str] (repL l (Int.toNat t))))]), (EV.v (Value.int IntKind.i64 (0)))]) [] 0)
          .bad))))) := by kernel_rfl
theorem ends (n t : Int) (l : List (List U)) : EndZ 40 ctJ2 false (st0 40 [.agg [iv n, wl l], iv t]) (shE (timP n t l) (timL n t l) (timE n t l)) [] 0 := by
  have h := in_t n t l
  have he : timE n t l = bc (chk4 n l != 0) (chk4 n l) (bc (decide (t < 0)) 7 (bc (decide (400 < t)) 7 (bc (decide (400 < t * (l.length : Int))) 3 0))) := rfl
  cases h1 : (chk4 n l != 0) <;> rw [h1] at h he
  · have v := chk4_ok (ne0 h1)
    have g3 := v.len
    simp only [bc_f] at h he
    by_cases h2 : t < 0
    · simp only [dt h2, bc_t] at h he
      exact doneY h (timV he rfl).1.symm (timV he rfl).2.symm he.symm
    by_cases h3 : 400 < t
    · simp only [df h2, dt h3, bc_t, bc_f] at h he
      exact doneY h (timV he rfl).1.symm (timV he rfl).2.symm he.symm
    have b1 : 0 ≤ t * (l.length : Int) := Int.mul_nonneg (by omega) (by omega)
    have b2 : t * (l.length : Int) ≤ 400 * 400 := Int.mul_le_mul (by omega) (by omega) (by omega) (by omega)
    by_cases h4 : 400 < t * (l.length : Int)
    · simp (disch := omega) only [df h2, df h3, dt h4, bc_t, bc_f, ofn, wrap_in] at h he
      exact doneY h (timV he rfl).1.symm (timV he rfl).2.symm he.symm
    have hq : 0 ≤ t ∧ t ≤ 400 ∧ l.length ≤ 400 ∧ t * (l.length : Int) ≤ 65536 := ⟨by omega, by omega, g3, by omega⟩
    simp (disch := omega) only [df h2, df h3, df h4, dt hq, bc_t, bc_f, ofn, wrap_in, decide_true] at h he
    exact doneX h (timV0 he).1.symm (timV0 he).2.symm he.symm
  · simp only [bc_t] at h he
    exact doneY h (timV he h1).1.symm (timV he h1).2.symm he.symm
end PTim
noncomputable def spPTim : ZCT := fun ax => match ax with
  | [.agg [.v (.int .i64 n), .lst (.recs [.int .i64, .int .i64, .str] l)], .v (.int .i64 t)] => some ⟨decide (True), shE (timP n t l) (timL n t l) (timE n t l), [], 0⟩
  | _ => none
theorem spPTim_ok : ZCtOk Try.prog 40 spPTim := fun γ w us ax r hs hc hax hN hfz => by
  unfold spPTim at hs
  split at hs
  case h_2 => cases hs
  rename_i n l t
  obtain ⟨rfl⟩ := Option.some.inj hs
  have hc_0 : decide (True) = true := hc
  have hc := of_decide_eq_true hc_0
  exact EndZ.calls (PTim.ends n t l) ctJ2_ok (by kernel_rfl) hax hN hfz
end Go.Proofs.Ytkbebiebaenbdaa.Ev
namespace Go.Proofs.Ytkbebiebaenbdaa.Ev
open Go.Proofs
theorem awake_run : endsB (exClosed Try.prog ft (drD Try.prog ft 16 4) 22 18) = true := by kernel_rfl
theorem awakeC (w : World) : Calls Try.prog 22 #[] w fun e w' => e = .returned (.bool true) ∧ Stays w w' := closedTrue ftOk (drD_ok mix ftOk 16 4) awake_run w
theorem spAwake_ok : ZCtOk Try.prog 22 spTrue := spTrue_ok awakeC
end Go.Proofs.Ytkbebiebaenbdaa.Ev
namespace Go.Proofs.Ytkbebiebaenbdaa
open Go.ChangeShapes Go.WideShapes Go.ChangeAt Go.RowKit

theorem kept_of_stays {W W' : World} (h : Ev.Stays W W') (may : MemPlace → Prop) : W.keptBut W' may := by
  refine ⟨h.os, h.output, fun i hi => ?_⟩
  have e := h.block i hi
  rw [e]
  cases hb : W.heap[i]? with
  | none => simp
  | some o =>
    cases o <;> first | exact ⟨rfl, rfl, rfl, fun _ _ => rfl⟩ | exact .inr ⟨rfl, rfl⟩ | rfl
theorem frozen_of_stays {W W' : World} (h : Ev.Stays W W') (a : Addr) (ha : a.block < W.heap.size) : W'.frozen? a = W.frozen? a := by
  unfold World.frozen?
  rw [h.block _ ha]
section
variable {H : Type} {enc : TypeId × Value → H} {P : Program}
/-- 'post_of_same', where only the blocks that were there are as they were -/
theorem post_of_stays {f : Func} {s : ChangeSpec} {apart fresh handsOn again : Bool} {W W' : World} {args : Array Value} {v : Value} {ds gs : List (DataW H)} {before pa pv : List MemPlace}
    (hW : DataW.Whole enc P f.params.toList s.vars apart W args.toList ds gs before)
    (hres : ∀ (b : Nat) (sp : Nat → Bool) (hd : Bool), DataW.TrodAll enc P W' b sp hd f.resultTypes.toList (v.resultList f.resultTypes.size) (s.fn H (ds ++ gs)).results [])
    (hargs : ∀ sp : Nat → Bool, (∀ p ∈ before, sp p.block = true) → DataW.TrodAll enc P W' 0 sp true f.params.toList args.toList (s.fn H (ds ++ gs)).args pa)
    (hvars : ∀ sp : Nat → Bool, (∀ p ∈ before, sp p.block = true) → DataW.TrodVars enc P W' sp s.vars (s.fn H (ds ++ gs)).vars pv)
    (hps : before = pa ++ pv) (hst : Ev.Stays W W')
    (hok : ∀ (j : Nat) (t : TypeId) (r : Value), f.resultTypes[j]? = some t → (v.resultList f.resultTypes.size)[j]? = some r → Value.okWide P W' .any 0 t r) :
    s.post enc P f apart fresh handsOn again W args v W' := by
  have hk : W.keptBut W' (· ∈ before) := kept_of_stays hst _
  have hold : ∀ p ∈ before, (fun b => decide (b < W.heap.size)) p.block = true := fun p hp => by simpa using hW.lt p hp
  have hlt := fun p hp => hW.lt p hp
  refine ⟨ds, gs, before, [], pa, pv, hW, hres _ _ _, hargs _ hold, hvars _ hold, World.keptBut_mono (fun p hp => ⟨hp, ?_⟩) hk, fun _ => ?_⟩
  · rw [hps, List.mem_append] at hp
    exact Or.inr hp
  · obtain ⟨_, _, _, _, _, hz, hn⟩ := hW
    refine ⟨hok, _, _, ([] ++ pa) ++ pv, ⟨[] ++ pa, pv, trodAll_append (hargs _ (fun _ _ => rfl)) (hres _ _ _), hvars _ (fun _ _ => rfl), rfl, ?_, ?_⟩, ?_⟩
    · intro b off hp
      have hp2 : MemPlace.cell b off ∈ before := by rw [hps]; simpa using hp
      rw [frozen_of_stays hst _ (hlt _ hp2)]
      exact hz b off hp2
    · intro ha
      have := hn ha
      rw [hps] at this
      simpa using this
    · intro p hp _
      rw [hps]
      simpa using hp
end
end Go.Proofs.Ytkbebiebaenbdaa
namespace Go.Proofs.Ytkbebiebaenbdaa
open Go.ChangeShapes Go.WideShapes Go.ChangeAt Go.RowKit
section
variable {H : Type} {enc : TypeId × Value → H} {P : Program}
theorem same_of_stays {W W' : World} (h : Ev.Stays W W') {p : MemPlace} (hp : p.block < W.heap.size) : W.sameAt W' p := by
  cases p with
  | cell b off =>
    show W'.cell? _ = W.cell? _
    unfold World.cell?
    rw [h.block b hp]
  | map b => exact h.block b hp
theorem args_carry {W W' : World} {base : Nat} {sp : Nat → Bool} {hd : Bool} : ∀ {ts : List TypeId} {vs : List Value} {ds : List (DataW H)} {ps : List MemPlace}, DataW.TrodAll enc P W base sp hd ts vs ds ps → (∀ p ∈ ps, W.sameAt W' p) → DataW.TrodAll enc P W' base sp hd ts vs ds ps
  | [], [], [], _, h, _ => h
  | _ :: _, _ :: _, _ :: _, _, ⟨p, q, ⟨n, h⟩, hs, e⟩, k => ⟨p, q, ⟨n, DataW.trod_carry n _ _ _ h fun x hx => k x (by rw [e]; exact List.mem_append_left _ hx)⟩, args_carry hs fun x hx => k x (by rw [e]; exact List.mem_append_right _ hx), e⟩
  | [], [], _ :: _, _, h, _ => h.elim
  | [], _ :: _, _, _, h, _ => h.elim
  | _ :: _, [], _, _, h, _ => h.elim
  | _ :: _, _ :: _, [], _, h, _ => h.elim
/-- a law's closing condition: true, and its arguments read as they did -/
theorem post_law {f : Func} {s : ChangeSpec} {apart fresh handsOn again : Bool} {W W' : World} {args : Array Value} {ds : List (DataW H)} {p : List MemPlace} {bt : TypeId} {T : TypeId → Prop} (K : Kids P T) (hz : ∀ t e, T t → P.underlying t = some (.slice e) → 0 < P.cellsOf e)
    (hbt : P.underlying bt = some .bool) (hrt : f.resultTypes.toList = [bt]) (hsz : f.resultTypes.size = 1) (hvs : s.vars = []) (hfn : s.fn H (ds ++ []) = { results := [.lit (.bool true)], args := ds })
    (hpt : ∀ t ∈ f.params.toList, T t)
    (hW : DataW.Whole enc P f.params.toList s.vars apart W args.toList ds [] (p ++ [])) (hA : DataW.TrodAll enc P W 0 (fun _ => true) true f.params.toList args.toList ds p) (hst : Ev.Stays W W')
    (hok : ∀ (j : Nat) (t : TypeId) (r : Value), f.resultTypes[j]? = some t → ((Value.bool true).resultList f.resultTypes.size)[j]? = some r → Value.okWide P W' .any 0 t r) :
    s.post enc P f apart fresh handsOn again W args (.bool true) W' := by
  have hlt := fun q hq => hW.lt q hq
  refine post_of_stays (pa := p) (pv := []) hW (fun b sp hd => ?_) (fun sp hsp => ?_) (fun sp _ => ?_) rfl hst hok
  · rw [hrt, hfn, hsz]
    exact trodAll_mk1 (shut_bool hbt _)
  · rw [hfn]
    exact DataW.TrodAll.respare K hz hpt (args_carry hA fun q hq => same_of_stays hst (hlt q (by simpa using hq))) fun q hq => hsp q (by simpa using hq)
  · rw [hfn, hvs]
    rfl
end
namespace Ev
/-! ### data that came in -/
/-- numbers fit their kinds, rows are whole -/
inductive UFit : Sh → U → Prop where
  | int (k : IntKind) (n : Int) (h : (Lit.int k n).wf = true) : UFit (.int k) (.i n)
  | bool (b : Bool) : UFit .bool (.b b)
  | str (s : ByteArray) (h : s.size ≤ maxLen) : UFit .str (.s s)
  | list (sh : List Sh) (l : List (List U)) (hl : l.length ≤ maxLen) (hr : ∀ j, j < l.length → (l.getD j []).length = sh.length) (h : ∀ (j f : Nat) (s : Sh), j < l.length → sh[f]? = some s → UFit s ((l.getD j []).getD f (.i 0))) : UFit (.list sh) (.l l)
structure RowFit (sh : List Sh) (r : List U) : Prop where
  len : r.length = sh.length
  fit : ∀ (f : Nat) (s : Sh), sh[f]? = some s → UFit s (r.getD f (.i 0))
theorem RowFit.nil : RowFit [] [] := ⟨rfl, fun f s h => by simp at h⟩
theorem RowFit.append {sh1 sh2 : List Sh} {r1 r2 : List U} (h1 : RowFit sh1 r1) (h2 : RowFit sh2 r2) : RowFit (sh1 ++ sh2) (r1 ++ r2) := by
  refine ⟨by simp [h1.len, h2.len], fun f s h => ?_⟩
  rw [List.getD_eq_getElem?_getD]
  by_cases hf : f < sh1.length
  · rw [List.getElem?_append_left hf] at h
    rw [List.getElem?_append_left (by rw [h1.len]; exact hf), ← List.getD_eq_getElem?_getD]
    exact h1.fit f s h
  · rw [List.getElem?_append_right (by omega)] at h
    rw [List.getElem?_append_right (by rw [h1.len]; omega), h1.len, ← List.getD_eq_getElem?_getD]
    exact h2.fit _ s h
theorem recE_app : ∀ {sh1 sh2 : List Sh} {r1 r2 : List U}, r1.length = sh1.length → recE (sh1 ++ sh2) (r1 ++ r2) = recE sh1 r1 ++ recE sh2 r2
  | [], sh2, r1, r2, h => by
    have : r1 = [] := List.eq_nil_of_length_eq_zero h
    subst this; rfl
  | s :: sh1, sh2, [], r2, h => by cases h
  | s :: sh1, sh2, u :: r1, r2, h => by
    show s.ev u :: recE (sh1 ++ sh2) (r1 ++ r2) = s.ev u :: (recE sh1 r1 ++ recE sh2 r2)
    rw [recE_app (by simpa using h)]
/-- shapes of types, where cells lie one behind the other -/
def shFs (P : Program) (f : TypeId → Option (List Sh)) : List Field → Nat → Option (List Sh)
  | [], _ => some []
  | fd :: r, off => match f fd.type with
    | some sh => if fd.offset = off ∧ P.cellsOf fd.type = sh.length then match shFs P f r (off + sh.length) with
      | some l => some (sh ++ l)
      | none => none else none
    | none => none
def shB (P : Program) : Nat → TypeId → Option (List Sh)
  | 0, _ => none
  | k + 1, t => match P.underlying t with
    | some (.int κ) => some [.int κ]
    | some .bool => some [.bool]
    | some .string => some [.str]
    | some (.slice e) => match shB P k e with
      | some sh => if P.cellsOf e = sh.length ∧ 0 < sh.length then some [.list sh] else none
      | none => none
    | some (.struct fs) => match shFs P (shB P k) fs.toList 0 with
      | some sh => if P.cellsOf t = sh.length then some sh else none
      | none => none
    | some (.array m e) => match shB P k e with
      | some sh => if P.cellsOf e = sh.length ∧ P.cellsOf t = m * sh.length then some (List.replicate m sh).flatten else none
      | none => none
    | _ => none
noncomputable def fzAll (W : World) : Nat → Option (Array Value) := fun k => match W.heap[k]? with
  | some (.cells a _ _) => some a
  | _ => none
noncomputable def gAll (W : World) : G := ⟨fun _ => none, fzAll W⟩
theorem fzAll_at (W : World) : FzAt (gAll W) W := fun k a hk => by
  have hk : fzAll W k = some a := hk
  unfold fzAll at hk
  split at hk
  · rename_i a' ty fz h
    injection hk with hk; subst hk
    exact ⟨ty, fz, h⟩
  · cases hk
theorem list_of {Q : Nat → List U → Prop} : ∀ (n : Nat), (∀ i, i < n → ∃ r, Q i r) → ∃ l : List (List U), l.length = n ∧ ∀ i, i < n → Q i (l.getD i [])
  | 0, _ => ⟨[], rfl, fun i hi => absurd hi (by omega)⟩
  | n + 1, h => by
    obtain ⟨l, h1, h2⟩ := list_of n fun i hi => h i (by omega)
    obtain ⟨r, hr⟩ := h n (by omega)
    refine ⟨l ++ [r], by simp [h1], fun i hi => ?_⟩
    rw [List.getD_eq_getElem?_getD]
    by_cases e : i < n
    · rw [List.getElem?_append_left (by omega), ← List.getD_eq_getElem?_getD]; exact h2 i e
    · have : i = n := by omega
      subst this
      rw [List.getElem?_append_right (by omega), h1, Nat.sub_self]; exact hr
variable {H : Type} {enc : TypeId × Value → H} {P : Program} {W : World} {base : Nat} {sp : Nat → Bool} {hd : Bool}
def OpenAt (enc : TypeId × Value → H) (P : Program) (W : World) (base : Nat) (sp : Nat → Bool) (hd : Bool) (k : Nat) : Prop := ∀ (t : TypeId) (sh : List Sh) (fuel : Nat) (cs : List Value) (x : DataW H × List MemPlace), shB P k t = some sh → DataW.trod enc P W base sp hd fuel t cs = some x → ∃ r, RowFit sh r ∧ ∀ γ : G, γ.fz = fzAll W → ECL γ (recE sh r) cs
theorem fields_open {k : Nat} (ih : OpenAt enc P W base sp hd k) {cs : List Value} {n : Nat} : ∀ (fs : List Field) (off : Nat) (sh : List Sh), shFs P (shB P k) fs off = some sh → (∀ f, f ∈ fs → ∃ y, DataW.trod enc P W base sp hd n f.type ((cs.drop f.offset).take (P.cellsOf f.type)) = some y) → ∃ r, RowFit sh r ∧ ∀ γ : G, γ.fz = fzAll W → ECL γ (recE sh r) ((cs.drop off).take sh.length)
  | [], off, sh, h, _ => by
    injection (show some [] = some sh from h) with h; subst h
    exact ⟨[], .nil, fun γ _ => by
      rw [show ([] : List Sh).length = 0 from rfl, List.take_zero]; exact ECL.nil γ⟩
  | fd :: fs, off, sh, h, hall => by
    unfold shFs at h
    split at h
    case h_2 => cases h
    rename_i s1 hs1
    split at h
    case isFalse => cases h
    rename_i hc
    split at h
    case h_2 => cases h
    rename_i s2 hs2
    injection h with h; subst h
    obtain ⟨y, hy⟩ := hall fd (by simp)
    rw [hc.1, hc.2] at hy
    obtain ⟨r1, h1, h2⟩ := ih fd.type s1 n _ y hs1 hy
    obtain ⟨r2, h3, h4⟩ := fields_open ih fs (off + s1.length) s2 hs2 fun f hf => hall f (by simp [hf])
    refine ⟨r1 ++ r2, h1.append h3, fun γ hγ => ?_⟩
    rw [recE_app h1.len, List.length_append]
    have e : (cs.drop off).take (s1.length + s2.length) = (cs.drop off).take s1.length ++ (cs.drop (off + s1.length)).take s2.length := by
      rw [List.take_add, List.drop_drop]
    rw [e]
    exact (h2 γ hγ).append (h4 γ hγ)
theorem elems_open {k : Nat} (ih : OpenAt enc P W base sp hd k) {cs : List Value} {n : Nat} {e : TypeId} {sh : List Sh} (hsh : shB P k e = some sh) (hc : P.cellsOf e = sh.length) : ∀ (m i0 : Nat), (∀ i, i < m → ∃ y, DataW.trod enc P W base sp hd n e ((cs.drop ((i0 + i) * P.cellsOf e)).take (P.cellsOf e)) = some y) → ∃ r, RowFit (List.replicate m sh).flatten r ∧ ∀ γ : G, γ.fz = fzAll W → ECL γ (recE (List.replicate m sh).flatten r) ((cs.drop (i0 * sh.length)).take (m * sh.length))
  | 0, i0, _ => ⟨[], .nil, fun γ _ => by
      rw [Nat.zero_mul, List.take_zero]; exact ECL.nil γ⟩
  | m + 1, i0, h => by
    obtain ⟨y, hy⟩ := h 0 (by omega)
    rw [hc, Nat.add_zero] at hy
    obtain ⟨r1, h1, h2⟩ := ih e sh n _ y hsh hy
    obtain ⟨r2, h3, h4⟩ := elems_open ih hsh hc m (i0 + 1) fun i hi => by
      have := h (i + 1) (by omega)
      rwa [show i0 + (i + 1) = i0 + 1 + i by omega] at this
    refine ⟨r1 ++ r2, by rw [List.replicate_succ, List.flatten_cons]; exact h1.append h3, fun γ hγ => ?_⟩
    rw [List.replicate_succ, List.flatten_cons, recE_app h1.len, Nat.succ_mul, Nat.add_comm, List.take_add, List.drop_drop]
    have := h4 γ hγ
    rw [Nat.succ_mul] at this
    exact (h2 γ hγ).append this
theorem open_cells : ∀ k, OpenAt enc P W base sp hd k
  | 0 => fun t sh fuel cs x h => by cases h
  | k + 1 => fun t sh fuel cs x h ht => by
    have ih : OpenAt enc P W base sp hd k := open_cells k
    unfold shB at h
    split at h
    · rename_i κ hu
      injection h with h; subst h
      obtain ⟨n, rfl, _, hw⟩ := DataW.trod_int hu ht
      refine ⟨[.i n], ⟨rfl, fun f s hf => ?_⟩, fun γ _ => .cons (.v _) (.nil _)⟩
      obtain ⟨rfl, rfl⟩ := one_f hf
      exact .int κ n hw
    · rename_i hu
      injection h with h; subst h
      obtain ⟨b, rfl, _⟩ := DataW.trod_bool hu ht
      refine ⟨[.b b], ⟨rfl, fun f s hf => ?_⟩, fun γ _ => .cons (.v _) (.nil _)⟩
      obtain ⟨rfl, rfl⟩ := one_f hf
      exact .bool b
    · rename_i hu
      injection h with h; subst h
      obtain ⟨s, rfl, _, hs⟩ := DataW.trod_string hu ht
      refine ⟨[.s s], ⟨rfl, fun f s hf => ?_⟩, fun γ _ => .cons (.v _) (.nil _)⟩
      obtain ⟨rfl, rfl⟩ := one_f hf
      exact .str _ hs
    · rename_i e hu
      split at h
      case h_2 => cases h
      rename_i sh' hsh
      split at h
      case isFalse => cases h
      rename_i hc
      injection h with h; subst h
      rcases DataW.trod_slice hu ht with ⟨rfl, _⟩ | ⟨a, len, cap, elems, rest, n, _, rfl, _, hb, hlc, hcm, hel, hall, _⟩
      · refine ⟨[.l []], ⟨rfl, fun f s hf => ?_⟩, fun γ _ => .cons ?_ (.nil _)⟩
        · obtain ⟨rfl, rfl⟩ := one_f hf
          exact .list sh' [] (Nat.zero_le _) (fun j hj => by simp at hj) (fun j f s hj => by simp at hj)
        · exact UOk.ec (s := .list sh') (.empty sh' (.l []) none 0 rfl (Nat.zero_le _) fun _ => rfl)
      · have each : ∀ i, i < len → ∃ r, RowFit sh' r ∧ ∃ ys, W.cells? base (a.add (i * sh'.length)) sh'.length = some ys ∧ ∀ γ : G, γ.fz = fzAll W → ECL γ (recE sh' r) ys := fun i hi => by
          have h1 := hall i hi
          rw [hc.1] at h1
          have h2 : i < elems.length := by omega
          rw [List.getElem?_eq_getElem h2] at h1
          obtain ⟨ys, h3, h4⟩ := Option.bind_eq_some_iff.1 h1
          obtain ⟨r, h5, h6⟩ := ih e sh' n ys _ hsh h4
          exact ⟨r, h5, ys, h3, h6⟩
        obtain ⟨l, hl, hQ⟩ := list_of len each
        refine ⟨[.l l], ⟨rfl, fun f s hf => ?_⟩, fun γ hγ => .cons ?_ (.nil _)⟩
        · obtain ⟨rfl, rfl⟩ := one_f hf
          exact .list sh' l (by omega) (fun j hj => (hQ j (by omega)).1.len) fun j f s hj hf => (hQ j (by omega)).1.fit f s hf
        · refine UOk.ec (s := .list sh') ?_
          by_cases h0 : len = 0
          · have : l = [] := List.eq_nil_of_length_eq_zero (by omega)
            subst this; subst h0
            exact .empty sh' (.l []) (some a) cap rfl hcm fun e => by cases e
          · obtain ⟨b, off, spot⟩ := a
            have hblk : spot = none ∧ ∃ arr ty fz, W.heap[b]? = some (.cells arr ty fz) := by
              obtain ⟨h1, ys, h2, h3⟩ := hQ 0 (by omega)
              obtain ⟨_, h4, h5⟩ := World.cells?_some h2
              have h6 := h5 0 hc.2
              rw [List.getElem?_eq_getElem (show 0 < ys.length by omega)] at h6
              have h6 : W.cell? ⟨b, off, spot⟩ = some ys[0] := by
                have e : ((⟨b, off, spot⟩ : Addr).add (0 * sh'.length)).add 0 = ⟨b, off, spot⟩ := by simp [Addr.add]
                rw [e] at h6; exact h6
              unfold World.cell? at h6
              split at h6
              · rename_i arr ty fz hb'
                split at h6
                · cases h6
                · rename_i hs
                  exact ⟨by cases spot <;> simp_all, arr, ty, fz, hb'⟩
              · cases h6
            obtain ⟨rfl, arr, ty, fz, hblk⟩ := hblk
            have cellAt : ∀ i f, i < len → f < sh'.length → ∃ y, W.cell? ⟨b, off + (i * sh'.length + f), none⟩ = some y ∧ ∀ s, sh'[f]? = some s → UOk γ.fz s ((l.getD i []).getD f (.i 0)) y := fun i f hi hf => by
              obtain ⟨h1, ys, h2, h3⟩ := hQ i hi
              obtain ⟨_, h4, h5⟩ := World.cells?_some h2
              have h6 := h5 f hf
              have h7 : f < ys.length := by omega
              rw [List.getElem?_eq_getElem h7] at h6
              refine ⟨ys[f], ?_, fun s hs => ?_⟩
              · have e : ((⟨b, off, none⟩ : Addr).add (i * sh'.length)).add f = ⟨b, off + (i * sh'.length + f), none⟩ := by
                  unfold Addr.add
                  split <;> split <;> simp_all [Nat.add_assoc]
                rw [← h6, e]
              · have h8 := recE_get (s := s) (f := f) (sh := sh') (l.getD i []) hs
                have h9 := (h3 γ hγ).2 f _ ys[f] h8 (List.getElem?_eq_getElem h7)
                exact UOk.of_ec h9
            have getA : ∀ i f, i < len → f < sh'.length → ∃ y, arr[off + (i * sh'.length + f)]? = some y ∧ ∀ s, sh'[f]? = some s → UOk γ.fz s ((l.getD i []).getD f (.i 0)) y := fun i f hi hf => by
              obtain ⟨y, h1, h2⟩ := cellAt i f hi hf
              refine ⟨y, ?_, h2⟩
              unfold World.cell? at h1
              simpa [hblk] using h1
            have hk : γ.fz b = some arr := by
              rw [hγ]; unfold fzAll; rw [hblk]
            subst hl
            refine .list sh' (.l l) b off cap arr hk hlc hcm ?_ fun j f s x hj hf hx => ?_
            · show off + l.length * sh'.length ≤ arr.size
              obtain ⟨y, h1, _⟩ := getA (l.length - 1) (sh'.length - 1) (by omega) (by omega)
              have := (Array.getElem?_eq_some_iff.1 h1).1
              have e : l.length * sh'.length = (l.length - 1) * sh'.length + sh'.length := by rw [← Nat.succ_mul]; congr 1; omega
              omega
            · obtain ⟨y, h1, h2⟩ := getA j f hj (List.getElem?_eq_some_iff.1 hf).1
              rw [h1] at hx; injection hx with hx; subst hx
              exact h2 s hf
    · rename_i fs hu
      split at h
      case h_2 => cases h
      rename_i sh' hsh
      split at h
      case isFalse => cases h
      rename_i hc
      injection h with h; subst h
      obtain ⟨xs, n, _, _, hl, hlen, hf⟩ := DataW.trod_struct hu ht
      obtain ⟨r, h1, h2⟩ := fields_open (cs := cs) (n := n) ih fs.toList 0 sh' hsh fun f hm => by
        obtain ⟨i, hi, rfl⟩ := List.getElem_of_mem hm
        have hi2 : i < fs.size := by simpa using hi
        have := hf i fs.toList[i] (by simp [hi2])
        rw [List.getElem?_eq_getElem (by omega)] at this
        exact ⟨_, this⟩
      refine ⟨r, h1, fun γ hγ => ?_⟩
      have := h2 γ hγ
      rwa [List.drop_zero, List.take_of_length_le (by omega)] at this
    · rename_i m e hu
      split at h
      case h_2 => cases h
      rename_i sh' hsh
      split at h
      case isFalse => cases h
      rename_i hc
      injection h with h; subst h
      obtain ⟨xs, n, _, _, hl, hlen, hf⟩ := DataW.trod_array hu ht
      obtain ⟨r, h1, h2⟩ := elems_open (cs := cs) (n := n) ih hsh hc.1 m 0 fun i hi => by
        have := hf i hi
        rw [List.getElem?_eq_getElem (by omega)] at this
        rw [Nat.zero_add]
        exact ⟨_, this⟩
      refine ⟨r, h1, fun γ hγ => ?_⟩
      have := h2 γ hγ
      rwa [Nat.zero_mul, List.drop_zero, List.take_of_length_le (by omega)] at this
    · cases h
/-- an argument of a struct's type -/
theorem open_agg {t : TypeId} {fs : Array Field} {v : Value} {d : DataW H} {ps : List MemPlace} {k b0 : Nat} {rc : Reach} {sh : List Sh} (hu : P.underlying t = some (.struct fs)) (hs : shB P k t = some sh) (hv : Value.okWide P W rc b0 t v) (h : DataW.Trod enc P W base sp hd t v d ps) : ∃ r, RowFit sh r ∧ EC (gAll W) (.agg (recE sh r)) v := by
  obtain ⟨cs, rfl, _⟩ := okWide_struct hu hv
  obtain ⟨fuel, hf⟩ := h
  obtain ⟨r, h1, h2⟩ := open_cells k t sh fuel _ _ hs hf
  have h3 := h2 (gAll W) rfl
  refine ⟨r, h1, ?_⟩
  have := EC.agg (γ := gAll W) (recE sh r) cs.toList h3.1 h3.2
  simpa using this
/-- an argument of a slice's type -/
theorem open_lst {t e : TypeId} {v : Value} {d : DataW H} {ps : List MemPlace} {k b0 : Nat} {rc : Reach} {sh : List Sh} (hu : P.underlying t = some (.slice e)) (hs : shB P k t = some [.list sh]) (hv : Value.okWide P W rc b0 t v) (h : DataW.Trod enc P W base sp hd t v d ps) : ∃ l, UFit (.list sh) (.l l) ∧ EC (gAll W) (.lst (mkC sh l)) v := by
  obtain ⟨a, len, cap, rfl⟩ := okWide_slice hu hv
  obtain ⟨fuel, hf⟩ := h
  obtain ⟨r, h1, h2⟩ := open_cells k t _ fuel _ _ hs hf
  have h3 := h2 (gAll W) rfl
  obtain ⟨h4, h5⟩ := h1
  match r, h4 with
  | [u], _ =>
    have h6 := h5 0 _ rfl
    have h6 : UFit (.list sh) u := h6
    cases h6 with
    | list _ l hl hr hh =>
      refine ⟨l, .list sh l hl hr hh, ?_⟩
      exact h3.2 0 _ _ rfl rfl
end Ev
end Go.Proofs.Ytkbebiebaenbdaa
namespace Go.Proofs.Ytkbebiebaenbdaa.Ev
open Go.Proofs
noncomputable def farB (l : List (List U)) (m : Int) : Bool := bc (bc (decide (m < (l.length : Int))) (decide ((l.length : Int) ≤ 400)) false) true (decide (450 < (l.length : Int)))
namespace LFar
noncomputable def RUN (s : ES) : ZF := RZ 26 .nil (fun _ => false) [] [] false s
theorem in_t (n m : Int) (l : List (List U)) : RUN (st0 26 [.agg [iv n, wl l], iv m]) = (bc (Decidable.decide (m < Int.ofNat (List.length l)))
  (bc (Decidable.decide (Int.ofNat (List.length l) ≤ (400 : Int)))
    (.done (EV.v (Value.bool true)) [] 0)
    (.done (EV.v (Value.bool (Decidable.decide ((450 : Int) < Int.ofNat (List.length l))))) [] 0))
  (.done (EV.v (Value.bool (Decidable.decide ((450 : Int) < Int.ofNat (List.length l))))) [] 0)) := by kernel_rfl
theorem ends (n m : Int) (l : List (List U)) : EndZ 26 .nil false (st0 26 [.agg [iv n, wl l], iv m]) (bv (farB l m)) [] 0 := by
  have h := in_t n m l
  unfold farB
  rw [bc_bc]
  cases h1 : decide (m < (l.length : Int)) <;> simp only [ofn, h1, bc_t, bc_f] at h ⊢
  · exact .done h
  · cases h2 : decide ((l.length : Int) ≤ 400) <;> simp only [h2, bc_t, bc_f] at h ⊢ <;> exact .done h
end LFar
noncomputable def spFar : ZCT := fun ax => match ax with
  | [.agg [.v (.int .i64 n), .lst (.recs [.int .i64, .int .i64, .str] l)], .v (.int .i64 m)] => some ⟨decide (True), bv (farB l m), [], 0⟩
  | _ => none
theorem spFar_ok : ZCtOk Try.prog 26 spFar := fun γ w us ax r hs hc hax hN hfz => by
  unfold spFar at hs
  split at hs
  case h_2 => cases hs
  rename_i n l m
  obtain ⟨rfl⟩ := Option.some.inj hs
  have hc_0 : decide (True) = true := hc
  have hc := of_decide_eq_true hc_0
  exact EndZ.calls (LFar.ends n m l) (.nil _) (by kernel_rfl) hax hN hfz
noncomputable def ctEx : Tr ZCC := (((((Tr.nil.put 36 (some (dC spPBes))).put 35 (some (dC spPBel))).put 27 (some (dC spPFlip))).put 37 (some (dC spSm5))).put 26 (some (dC spFar))).put 22 (some (dC spTrue))
theorem ctEx_ok : ZCtsOk Try.prog ctEx := ((((((ZCtsOk.nil _).add rfl spPBes_ok).add rfl spPBel_ok).add rfl spPFlip_ok).add rfl spSm5_ok).add rfl spFar_ok).add rfl spAwake_ok
namespace AExc
noncomputable def RUN (s : ES) : ZF := RZ 7 ctEx (fun _ => false) [] [] false s
theorem in_t (a b c d : Int) (A B C D : List (List U)) : RUN (st0 7 [.agg [iv a, wl A, iv b, wl B, iv c, wl C, iv d, wl D]]) = (bc (farB A (60 : Int))
  (.done (EV.v (Value.bool true)) [] 0)
  (bc (farB B (60 : Int))
    (.done (EV.v (Value.bool true)) [] 0)
    (bc (farB C (60 : Int))
      (.done (EV.v (Value.bool true)) [] 0)
      (bc (farB D (60 : Int))
        (.done (EV.v (Value.bool true)) [] 0)
        (bc (belE a b A B == (0 : Int))
          (bc (belE c d C D == (0 : Int))
            (bc (besE a c A C == (0 : Int))
              (bc (besE b d B D == (0 : Int))
                (bc (besE (belP a b A B) (belP c d C D) (belL a b A B) (belL c d C D) != (0 : Int))
                  (.done (EV.v (Value.bool false)) [] 0)
                  (bc (belE (besP a c A C) (besP b d B D) (besL a c A C) (besL b d B D) != (0 : Int))
                    (.done (EV.v (Value.bool false)) [] 0)
                    (bc (both (besP (belP a b A B) (belP c d C D) (belL a b A B) (belL c d C D)) (belP (besP a c A C) (besP b d B D) (besL a c A C) (besL b d B D)) (besL (belP a b A B) (belP c d C D) (belL a b A B) (belL c d C D)) (belL (besP a c A C) (besP b d B D) (besL a c A C) (besL b d B D)) != (0 : Int))
                      (.done (EV.v (Value.bool false)) [] 0)
                      (bc (!sm5 (besP (belP a b A B) (belP c d C D) (belL a b A B) (belL c d C D)) (belP (besP a c A C) (besP b d B D) (besL a c A C) (besL b d B D)) (besL (belP a b A B) (belP c d C D) (belL a b A B) (belL c d C D)) (belL (besP a c A C) (besP b d B D) (besL a c A C) (besL b d B D)))
                        (.done (EV.v (Value.bool false)) [] 0)
                        (bc (besE a c A C != (0 : Int))
                          (.done (EV.v (Value.bool true)) [] 0)
                          (bc (chk4 a A != (0 : Int))
                            (.done (EV.v (Value.bool false)) [] 0)
                            (bc (chk4 c C != (0 : Int))
                              (.done (EV.v (Value.bool false)) [] 0)
                              (bc (besE (turP c C) (turP a A) (turL bFlip c C) (turL bFlip a A) != (0 : Int))
                                (.done (EV.v (Value.bool false)) [] 0)
                                (bc (chk4 (besP a c A C) (besL a c A C) != (0 : Int))
                                  (.done (EV.v (Value.bool false)) [] 0)
                                  (bc (both (besP (turP c C) (turP a A) (turL bFlip c C) (turL bFlip a A)) (turP (besP a c A C) (besL a c A C)) (besL (turP c C) (turP a A) (turL bFlip c C) (turL bFlip a A)) (turL bFlip (besP a c A C) (besL a c A C)) == (0 : Int))
                                    (bc (sm5 (besP (turP c C) (turP a A) (turL bFlip c C) (turL bFlip a A)) (turP (besP a c A C) (besL a c A C)) (besL (turP c C) (turP a A) (turL bFlip c C) (turL bFlip a A)) (turL bFlip (besP a c A C) (besL a c A C)))
                                      (.done (EV.v (Value.bool true)) [] 0)
                                      (.done (EV.v (Value.bool false)) [] 0))
                                    (.done (EV.v (Value.bool false)) [] 0)))))))))))
                (bc (besE a c A C != (0 : Int))
                  (.done (EV.v (Value.bool true)) [] 0)
                  (bc (chk4 a A != (0 : Int))
                    (.done (EV.v (Value.bool false)) [] 0)
                    (bc (chk4 c C != (0 : Int))
                      (.done (EV.v (Value.bool false)) [] 0)
                      (bc (besE (turP c C) (turP a A) (turL bFlip c C) (turL bFlip a A) != (0 : Int))
                        (.done (EV.v (Value.bool false)) [] 0)
                        (bc (chk4 (besP a c A C) (besL a c A C) != (0 : Int))
                          (.done (EV.v (Value.bool false)) [] 0)
                          (bc (both (besP (turP c C) (turP a A) (turL bFlip c C) (turL bFlip a A)) (turP (besP a c A C) (besL a c A C)) (besL (turP c C) (turP a A) (turL bFlip c C) (turL bFlip a A)) (turL bFlip (besP a c A C) (besL a c A C)) == (0 : Int))
                            (bc (sm5 (besP (turP c C) (turP a A) (turL bFlip c C) (turL bFlip a A)) (turP (besP a c A C) (besL a c A C)) (besL (turP c C) (turP a A) (turL bFlip c C) (turL bFlip a A)) (turL bFlip (besP a c A C) (besL a c A C)))
                              (.done (EV.v (Value.bool true)) [] 0)
                              (.done (EV.v (Value.bool false)) [] 0))
                            (.done (EV.v (Value.bool false)) [] 0))))))))
              (bc (besE a c A C != (0 : Int))
                (.done (EV.v (Value.bool true)) [] 0)
                (bc (chk4 a A != (0 : Int))
                  (.done (EV.v (Value.bool false)) [] 0)
                  (bc (chk4 c C != (0 : Int))
                    (.done (EV.v (Value.bool false)) [] 0)
                    (bc (besE (turP c C) (turP a A) (turL bFlip c C) (turL bFlip a A) != (0 : Int))
                      (.done (EV.v (Value.bool false)) [] 0)
                      (bc (chk4 (besP a c A C) (besL a c A C) != (0 : Int))
                        (.done (EV.v (Value.bool false)) [] 0)
                        (bc (both (besP (turP c C) (turP a A) (turL bFlip c C) (turL bFlip a A)) (turP (besP a c A C) (besL a c A C)) (besL (turP c C) (turP a A) (turL bFlip c C) (turL bFlip a A)) (turL bFlip (besP a c A C) (besL a c A C)) == (0 : Int))
                          (bc (sm5 (besP (turP c C) (turP a A) (turL bFlip c C) (turL bFlip a A)) (turP (besP a c A C) (besL a c A C)) (besL (turP c C) (turP a A) (turL bFlip c C) (turL bFlip a A)) (turL bFlip (besP a c A C) (besL a c A C)))
                            (.done (EV.v (Value.bool true)) [] 0)
                            (.done (EV.v (Value.bool false)) [] 0))
                          (.done (EV.v (Value.bool false)) [] 0))))))))
            (bc (besE a c A C != (0 : Int))
              (.done (EV.v (Value.bool true)) [] 0)
              (bc (chk4 a A != (0 : Int))
                (.done (EV.v (Value.bool false)) [] 0)
                (bc (chk4 c C != (0 : Int))
                  (.done (EV.v (Value.bool false)) [] 0)
                  (bc (besE (turP c C) (turP a A) (turL bFlip c C) (turL bFlip a A) != (0 : Int))
                    (.done (EV.v (Value.bool false)) [] 0)
                    (bc (chk4 (besP a c A C) (besL a c A C) != (0 : Int))
                      (.done (EV.v (Value.bool false)) [] 0)
                      (bc (both (besP (turP c C) (turP a A) (turL bFlip c C) (turL bFlip a A)) (turP (besP a c A C) (besL a c A C)) (besL (turP c C) (turP a A) (turL bFlip c C) (turL bFlip a A)) (turL bFlip (besP a c A C) (besL a c A C)) == (0 : Int))
                        (bc (sm5 (besP (turP c C) (turP a A) (turL bFlip c C) (turL bFlip a A)) (turP (besP a c A C) (besL a c A C)) (besL (turP c C) (turP a A) (turL bFlip c C) (turL bFlip a A)) (turL bFlip (besP a c A C) (besL a c A C)))
                          (.done (EV.v (Value.bool true)) [] 0)
                          (.done (EV.v (Value.bool false)) [] 0))
                        (.done (EV.v (Value.bool false)) [] 0))))))))
          (bc (besE a c A C != (0 : Int))
            (.done (EV.v (Value.bool true)) [] 0)
            (bc (chk4 a A != (0 : Int))
              (.done (EV.v (Value.bool false)) [] 0)
              (bc (chk4 c C != (0 : Int))
                (.done (EV.v (Value.bool false)) [] 0)
                (bc (besE (turP c C) (turP a A) (turL bFlip c C) (turL bFlip a A) != (0 : Int))
                  (.done (EV.v (Value.bool false)) [] 0)
                  (bc (chk4 (besP a c A C) (besL a c A C) != (0 : Int))
                    (.done (EV.v (Value.bool false)) [] 0)
                    (bc (both (besP (turP c C) (turP a A) (turL bFlip c C) (turL bFlip a A)) (turP (besP a c A C) (besL a c A C)) (besL (turP c C) (turP a A) (turL bFlip c C) (turL bFlip a A)) (turL bFlip (besP a c A C) (besL a c A C)) == (0 : Int))
                      (bc (sm5 (besP (turP c C) (turP a A) (turL bFlip c C) (turL bFlip a A)) (turP (besP a c A C) (besL a c A C)) (besL (turP c C) (turP a A) (turL bFlip c C) (turL bFlip a A)) (turL bFlip (besP a c A C) (besL a c A C)))
                        (.done (EV.v (Value.bool true)) [] 0)
                        (.done (EV.v (Value.bool false)) [] 0))
                      (.done (EV.v (Value.bool false)) [] 0)))))))))))) := by kernel_rfl
end AExc
theorem bothZ {n m : Int} {l k : List (List U)} (h : both n m l k = 0) : chk4 n l = 0 ∧ chk4 m k = 0 := by
  unfold both at h
  by_cases h1 : chk4 n l = 0
  · rw [show (chk4 n l != 0) = false by rw [h1]; rfl] at h
    exact ⟨h1, h⟩
  · rw [show (chk4 n l != 0) = true by simp [h1]] at h
    exact absurd h h1
theorem besE_0 {n m : Int} {l k : List (List U)} (h : besE n m l k = 0) : chk4 n l = 0 ∧ chk4 m k = 0 ∧ n + m ≤ 24 ∧ (l.length : Int) + k.length ≤ 400 := by
  have hb : both n m l k = 0 := by
    by_cases hb : both n m l k = 0
    · exact hb
    · rw [besE1 rfl (by simp [hb])] at h; exact h
  obtain ⟨h1, h2⟩ := bothZ hb
  rw [besE0 h1 h2] at h
  refine ⟨h1, h2, ?_⟩
  by_cases h3 : 24 < n + m
  · rw [dt h3, bc_t] at h; cases h
  rw [df h3, bc_f] at h
  by_cases h4 : 400 < (l.length : Int) + k.length
  · rw [dt h4, bc_t] at h; cases h
  exact ⟨by omega, by omega⟩
theorem besE_of {n m : Int} {l k : List (List U)} (h1 : chk4 n l = 0) (h2 : chk4 m k = 0) (h3 : n + m ≤ 24) (h4 : (l.length : Int) + k.length ≤ 400) : besE n m l k = 0 := by
  rw [besE0 h1 h2, df (by omega), bc_f, df (by omega), bc_f]
theorem belE_0 {n m : Int} {l k : List (List U)} (h : belE n m l k = 0) : chk4 n l = 0 ∧ chk4 m k = 0 ∧ n = m ∧ (l.length : Int) + k.length ≤ 400 := by
  have hb : both n m l k = 0 := by
    by_cases hb : both n m l k = 0
    · exact hb
    · rw [belE1 rfl (by simp [hb])] at h; exact h
  obtain ⟨h1, h2⟩ := bothZ hb
  rw [belE0 h1 h2] at h
  refine ⟨h1, h2, ?_⟩
  by_cases h3 : n = m
  · rw [show (n != m) = false by simp [h3], bc_f] at h
    by_cases h4 : 400 < (l.length : Int) + k.length
    · rw [dt h4, bc_t] at h; cases h
    exact ⟨h3, by omega⟩
  · rw [show (n != m) = true by simp [h3], bc_t] at h; cases h
theorem belE_of {n : Int} {l k : List (List U)} (h1 : chk4 n l = 0) (h2 : chk4 n k = 0) (h4 : (l.length : Int) + k.length ≤ 400) : belE n n l k = 0 := by
  rw [belE0 h1 h2, show (n != n) = false by simp, bc_f, df (by omega), bc_f]
theorem far_len {l : List (List U)} {m : Int} (h : farB l m = false) (h4 : (l.length : Int) ≤ 400) : (l.length : Int) ≤ m := by
  unfold farB at h
  by_cases h1 : m < (l.length : Int)
  · rw [dt h1, bc_t, dt h4, bc_t] at h; cases h
  · omega
theorem shL_app (d : Int) (l k : List (List U)) : shL d (l ++ k) = shL d l ++ shL d k := by unfold shL; rw [List.map_append]
theorem flL_app (t : ByteArray) (n : Int) (l k : List (List U)) : flL t n (l ++ k) = flL t n l ++ flL t n k := by unfold flL; rw [List.map_append]
theorem exA {a b c d : Int} {A B C D : List (List U)} (f1 : farB A 60 = false) (f2 : farB B 60 = false) (f3 : farB C 60 = false) (f4 : farB D 60 = false) (h1 : belE a b A B = 0) (h2 : belE c d C D = 0) (h3 : besE a c A C = 0) (h4 : besE b d B D = 0) :
    besE (belP a b A B) (belP c d C D) (belL a b A B) (belL c d C D) = 0 ∧ belE (besP a c A C) (besP b d B D) (besL a c A C) (besL b d B D) = 0 ∧
    both (besP (belP a b A B) (belP c d C D) (belL a b A B) (belL c d C D)) (belP (besP a c A C) (besP b d B D) (besL a c A C) (besL b d B D)) (besL (belP a b A B) (belP c d C D) (belL a b A B) (belL c d C D)) (belL (besP a c A C) (besP b d B D) (besL a c A C) (besL b d B D)) = 0 ∧
    sm5 (besP (belP a b A B) (belP c d C D) (belL a b A B) (belL c d C D)) (belP (besP a c A C) (besP b d B D) (besL a c A C) (besL b d B D)) (besL (belP a b A B) (belP c d C D) (belL a b A B) (belL c d C D)) (belL (besP a c A C) (besP b d B D) (besL a c A C) (besL b d B D)) = true := by
  obtain ⟨kA, kB, e1, n1⟩ := belE_0 h1
  obtain ⟨kC, kD, e2, n2⟩ := belE_0 h2
  obtain ⟨_, _, p1, n3⟩ := besE_0 h3
  obtain ⟨_, _, p2, n4⟩ := besE_0 h4
  subst e1 e2
  have vA := chk4_ok kA
  have vB := chk4_ok kB
  have vC := chk4_ok kC
  have vD := chk4_ok kD
  have lA := far_len f1 (by omega)
  have lB := far_len f2 (by omega)
  have lC := far_len f3 (by omega)
  have lD := far_len f4 (by omega)
  rw [(belV0 h1).1, (belV0 h1).2, (belV0 h2).1, (belV0 h2).2, (besV0 h3).1, (besV0 h3).2, (besV0 h4).1, (besV0 h4).2]
  have wAB := vA.app vB (by omega)
  have wCD := vC.app vD (by omega)
  have wAC := vA.bes vC p1 (by omega)
  have wBD := vB.bes vD p1 (by omega)
  have g1 : besE a c (A ++ B) (C ++ D) = 0 := besE_of (chk4_of wAB) (chk4_of wCD) p1 (by simp only [List.length_append]; omega)
  have g2 : belE (a + c) (a + c) (A ++ shL a C) (B ++ shL a D) = 0 := belE_of (chk4_of wAC) (chk4_of wBD) (by simp only [List.length_append, shL_len]; omega)
  rw [(besV0 g1).1, (besV0 g1).2, (belV0 g2).1, (belV0 g2).2]
  have w1 := wAB.bes wCD p1 (by simp only [List.length_append]; omega)
  have w2 := wAC.app wBD (by simp only [List.length_append, shL_len]; omega)
  have hl : ((A ++ B) ++ shL a (C ++ D)).length = ((A ++ shL a C) ++ (B ++ shL a D)).length := by simp only [List.length_append, shL_len]; omega
  have hm := exl A B (shL a C) (shL a D) (fun x hx y hy => by
    unfold shL at hy
    obtain ⟨z, hz, rfl⟩ := List.mem_map.1 hy
    refine tch_far ?_
    have := (vB.val x hx).hi
    have := (vC.val z hz).lo
    show rA x + 2 ≤ rA z + a
    omega)
  have s1 : A ++ (B ++ (shL a C ++ shL a D)) = (A ++ B) ++ shL a (C ++ D) := by rw [shL_app]; simp
  have s2 : A ++ (shL a C ++ (B ++ shL a D)) = (A ++ shL a C) ++ (B ++ shL a D) := by simp
  rw [s1, s2] at hm
  obtain ⟨q1, q2⟩ := sm5_of (chk4_of w1) (chk4_of w2) hl hm
  exact ⟨g1, g2, q2, q1⟩
theorem turV0 {n : Int} {t : ByteArray} {l : List (List U)} (h : chk4 n l = 0) : turP n l = n ∧ turL t n l = flL t n l := by unfold turP turL; rw [h]; exact ⟨rfl, rfl⟩
theorem exB {a c : Int} {A C : List (List U)} (h3 : besE a c A C = 0) :
    chk4 a A = 0 ∧ chk4 c C = 0 ∧ besE (turP c C) (turP a A) (turL bFlip c C) (turL bFlip a A) = 0 ∧ chk4 (besP a c A C) (besL a c A C) = 0 ∧
    both (besP (turP c C) (turP a A) (turL bFlip c C) (turL bFlip a A)) (turP (besP a c A C) (besL a c A C)) (besL (turP c C) (turP a A) (turL bFlip c C) (turL bFlip a A)) (turL bFlip (besP a c A C) (besL a c A C)) = 0 ∧
    sm5 (besP (turP c C) (turP a A) (turL bFlip c C) (turL bFlip a A)) (turP (besP a c A C) (besL a c A C)) (besL (turP c C) (turP a A) (turL bFlip c C) (turL bFlip a A)) (turL bFlip (besP a c A C) (besL a c A C)) = true := by
  obtain ⟨kA, kC, p1, n3⟩ := besE_0 h3
  have vA := chk4_ok kA
  have vC := chk4_ok kC
  have wAC := vA.bes vC p1 (by omega)
  have g1 : besE c a (flL bFlip c C) (flL bFlip a A) = 0 := besE_of (chk4_of vC.fl) (chk4_of vA.fl) (by omega) (by simp only [flL_len]; omega)
  rw [(turV0 (t := bFlip) kA).1, (turV0 (t := bFlip) kA).2, (turV0 (t := bFlip) kC).1, (turV0 (t := bFlip) kC).2, (besV0 h3).1, (besV0 h3).2, (turV0 (t := bFlip) (chk4_of wAC)).1, (turV0 (t := bFlip) (chk4_of wAC)).2, (besV0 g1).1, (besV0 g1).2]
  refine ⟨kA, kC, g1, chk4_of wAC, ?_⟩
  have s1 : flL bFlip (a + c) (A ++ shL a C) = shL c (flL bFlip a A) ++ flL bFlip c C := by
    rw [flL_app]
    unfold flL shL
    rw [List.map_map, List.map_map]
    congr 1
    · apply List.map_congr_left
      intro r _
      show mkR (rK r) (a + c - 2 - rA r) (chgW bFlip (rW r)) = mkR (rK r) (a - 2 - rA r + c) (chgW bFlip (rW r))
      rw [show a + c - 2 - rA r = a - 2 - rA r + c by omega]
    · apply List.map_congr_left
      intro r _
      show mkR (rK r) (a + c - 2 - (rA r + a)) (chgW bFlip (rW r)) = mkR (rK r) (c - 2 - rA r) (chgW bFlip (rW r))
      rw [show a + c - 2 - (rA r + a) = c - 2 - rA r by omega]
  have w1 := vC.fl.bes vA.fl (by omega) (by simp only [flL_len]; omega)
  have w2 := wAC.fl
  rw [s1] at w2 ⊢
  rw [show c + a = a + c by omega] at w1 ⊢
  have hm := exl [] (flL bFlip c C) (shL c (flL bFlip a A)) [] (fun x hx y hy => by
    unfold shL at hy
    obtain ⟨z, hz, rfl⟩ := List.mem_map.1 hy
    refine tch_far ?_
    have := (vC.fl.val x hx).hi
    have := (vA.fl.val z hz).lo
    show rA x + 2 ≤ rA z + c
    omega)
  simp only [List.nil_append, List.append_nil] at hm
  obtain ⟨q1, q2⟩ := sm5_of (chk4_of w1) (chk4_of w2) (by simp only [List.length_append]; omega) hm
  exact ⟨q2, q1⟩
namespace AExc
theorem z0 : ((0 : Int) != 0) = false := rfl
theorem z1 : ((0 : Int) == 0) = true := rfl
theorem ends (a b c d : Int) (A B C D : List (List U)) : EndZ 7 ctEx false (st0 7 [.agg [iv a, wl A, iv b, wl B, iv c, wl C, iv d, wl D]]) (bv true) [] 0 := by
  have h := in_t a b c d A B C D
  cases f1 : farB A 60
  case true => rw [f1] at h; exact .done h
  cases f2 : farB B 60
  case true => rw [f1, f2] at h; exact .done h
  cases f3 : farB C 60
  case true => rw [f1, f2, f3] at h; exact .done h
  cases f4 : farB D 60
  case true => rw [f1, f2, f3, f4] at h; exact .done h
  simp only [f1, f2, f3, f4, bc_f] at h
  by_cases h3 : besE a c A C = 0
  · obtain ⟨r2, r3, r4, r5, r6, r7⟩ := exB h3
    cases e1 : (belE a b A B == 0)
    · simp only [e1, h3, r2, r3, r4, r5, r6, r7, z0, z1, bc_t, bc_f] at h; exact .done h
    cases e2 : (belE c d C D == 0)
    · simp only [e1, e2, h3, r2, r3, r4, r5, r6, r7, z0, z1, bc_t, bc_f] at h; exact .done h
    cases e4 : (besE b d B D == 0)
    · simp only [e1, e2, e4, h3, r2, r3, r4, r5, r6, r7, z0, z1, bc_t, bc_f] at h; exact .done h
    obtain ⟨g1, g2, g3, g4⟩ := exA f1 f2 f3 f4 (by simpa using e1) (by simpa using e2) h3 (by simpa using e4)
    simp only [e1, e2, e4, h3, r2, r3, r4, r5, r6, r7, g1, g2, g3, g4, z0, z1, bc_t, bc_f, Bool.not_true] at h
    exact .done h
  · have e3 : (besE a c A C == 0) = false := by simp [h3]
    have e4 : (besE a c A C != 0) = true := by simp [h3]
    cases e1 : (belE a b A B == 0)
    · simp only [e1, e3, e4, bc_t, bc_f] at h; exact .done h
    cases e2 : (belE c d C D == 0) <;> simp only [e1, e2, e3, e4, bc_t, bc_f] at h <;> exact .done h
end AExc
theorem assembleExchange_calls {γ : G} {w : World} {us : Array Value} (ra : List U) (wa : RowFit [.int .i64, .list [.int .i64, .int .i64, .str], .int .i64, .list [.int .i64, .int .i64, .str], .int .i64, .list [.int .i64, .int .i64, .str], .int .i64, .list [.int .i64, .int .i64, .str]] ra)
    (hax : ECL γ [.agg (recE [.int .i64, .list [.int .i64, .int .i64, .str], .int .i64, .list [.int .i64, .int .i64, .str], .int .i64, .list [.int .i64, .int .i64, .str], .int .i64, .list [.int .i64, .int .i64, .str]] ra)] us.toList) (hN : ∀ i, γ i = none) (hfz : FzAt γ w) : Calls Try.prog 7 us w fun e w' => e = .returned (.bool true) ∧ Stays w w' := by
  exact law_of ((AExc.ends _ _ _ _ _ _ _ _).calls ctEx_ok (by kernel_rfl) hax hN hfz)
end Go.Proofs.Ytkbebiebaenbdaa.Ev
namespace Go.Proofs.Ytkbebiebaenbdaa
open Go.ChangeShapes Go.WideShapes Go.ChangeAt Go.RowKit Go.ChangeMaps
theorem knobAssembleExchange : ownKnob Try.prog.godebug = none := by kernel_rfl
theorem kidsAssembleExchange : Kids Try.prog (· < Try.prog.types.size) := kids_rows (by kernel_rfl) (by kernel_rfl)
theorem fullAssembleExchange : ∀ t e, t < Try.prog.types.size → Try.prog.underlying t = some (.slice e) → 0 < Try.prog.cellsOf e := slices_full_of Try.prog (by kernel_rfl)
set_option maxRecDepth 100000 in
theorem liftedAssembleExchange (os : Os) (started : os.Started) (H : Type) (enc : TypeId × Value → H) :
    ReturnsInHanded {} Try.checked os 7 .any (Rows.assembleExchangeSpec.pre6 enc Try.prog Try.f7 Rows.assembleExchangeRow.domain false) (Rows.assembleExchangeSpec.post enc Try.prog Try.f7 false true false false) := by
  refine returnsInHanded_of_change (C := Try.checked) knobAssembleExchange started (by kernel_rfl) Try.func7
    (ChangeSpec.witness6 (enc := enc) (C := Try.checked) false ⟨#[], #[.agg #[.int .i64 0, .slice none 0 0, .int .i64 0, .slice none 0 0, .int .i64 0, .slice none 0 0, .int .i64 0, .slice none 0 0]], []⟩ 8 (by kernel_rfl) (by kernel_rfl) (by kernel_rfl) (by kernel_rfl)) ?_
  intro W base args ds gs before hval0 hW hcnd _
  have hval : ∀ (j : Nat) t v, Try.f7.params[j]? = some t → args[j]? = some v → Value.okWide Try.prog W .any base t v := hval0
  have hW' := hW
  obtain ⟨p, q, hA0, hV, rfl, hfz, hnd⟩ := hW
  have hA : DataW.TrodAll enc Try.prog W 0 (fun _ => true) true Try.f7.params.toList args.toList ds p := hA0
  have hAk := hA
  rw [Try.params7] at hA hval
  obtain ⟨rfl, rfl⟩ := trodVars_none hV
  obtain ⟨v0, d0, rfl, rfl, h0⟩ := trodAll_one hA
  obtain ⟨r, wr, er⟩ := Ev.open_agg (k := 8) Try.underlying61 (by kernel_rfl : Ev.shB Try.prog 8 61 = some [.int .i64, .list [.int .i64, .int .i64, .str], .int .i64, .list [.int .i64, .int .i64, .str], .int .i64, .list [.int .i64, .int .i64, .str], .int .i64, .list [.int .i64, .int .i64, .str]]) (hval 0 61 v0 rfl rfl) h0
  clear hA0 hval0
  refine (Ev.assembleExchange_calls r wr (γ := Ev.gAll W) (.cons er (.nil _)) (fun i => rfl) (Ev.fzAll_at W)).mono fun e W' ⟨he, hg⟩ => ?_
  subst he
  exact ⟨_, rfl, post_law kidsAssembleExchange fullAssembleExchange Try.underlying4 (by kernel_rfl) (by kernel_rfl) rfl rfl (by rw [Try.params7]; decide) hW' hAk hg (ok_one (by kernel_rfl) rfl (okWide_bool_mk Try.underlying4 _))⟩
theorem assembleExchange_holds : Rows.AssembleExchangeSaid :=
  OpenClaim.holds_of_wide 7 Try.f7 rfl rfl rfl rfl rfl rfl rfl ⟨rfl, rfl, rfl, rfl, rfl⟩ rfl rfl rfl rfl rfl (by kernel_rfl) Try.func7 (by kernel_rfl)
    (of_decide_eq_true (by kernel_rfl)) (by unfold Func.isWrapper; first | (rw [if_pos (by decide +kernel)]; kernel_rfl) | (rw [if_neg (by decide +kernel)]; exact ⟨rfl, rfl⟩))
    (fun os started H enc _ => liftedAssembleExchange os started H enc)
end Go.Proofs.Ytkbebiebaenbdaa
