/- MotifsTurn returns true, for all arguments, in every world in which it is called, and nothing that was there turns. -/
import Derived.ProofKit
import Derived.ReadAgain
import Derived.OpenShut
import Derived.Test.YthaljeccdeajoaaRows
import Derived.WalkKit
import Derived.Test.YthaljeccdeajoaaMt5
set_option linter.unusedSimpArgs false
set_option linter.unusedVariables false
namespace Go.Proofs.Ythaljeccdeajoaa.EvM
open Go.Proofs Go.Proofs.Ythaljeccdeajoaa.Ev
theorem lets_size (s : ByteArray) (n : Int) : (lets s n).size = n.toNat * s.size := by
  unfold lets
  rw [catN_size]
  show 0 + _ = _
  omega
noncomputable abbrev bP : ByteArray := ByteArray.mk #[80]
noncomputable abbrev bL : ByteArray := ByteArray.mk #[76]
noncomputable abbrev bT : ByteArray := ByteArray.mk #[84]
noncomputable def picW (n : Int) : ByteArray := lets bL n ++ bP ++ lets bL n
noncomputable def picL (n : Int) : List (List U) := bc (decide (n < 1)) [] (bc (decide (7 < n)) [] [wk (picW n) 0])
noncomputable def picP (n : Int) : Int := bc (decide (n < 1)) 0 (bc (decide (7 < n)) 0 2)
noncomputable def picE (n : Int) : Int := bc (decide (n < 1)) 7 (bc (decide (7 < n)) 7 0)
theorem MRPic.ends (n : Int) : EndZ 29 ctR1 false (st0 29 [iv n]) (shE (picP n) (picL n) (picE n)) [] 0 := by
  have h := MRPic.in_t n
  unfold picP picL picE
  by_cases h1 : n < 1
  · simp only [dt h1, bc_t] at h ⊢; exact (EndZ.done h).weak (shN_weak 7)
  by_cases h2 : 7 < n
  · simp only [df h1, dt h2, bc_t, bc_f] at h ⊢; exact (EndZ.done h).weak (shN_weak 7)
  · have e1 : (ByteArray.mk #[76]).size = 1 := rfl
    have e2 : (ByteArray.mk #[80]).size = 1 := rfl
    simp (disch := omega) only [Nat.add_eq, eqSy_self, eqN_self, bc_same, List.length_cons, ofn, wrap_in, dt, df, bltD, bltN, ble_of, bleN, beqD, bc_t, bc_f, nn_ok, Nat.zero_add, to_nat, Int.zero_add, Int.sub_zero, Int.sub_self, Int.cast_ofNat_Int, Int.natCast_zero, Int.toNat_zero, List.take_zero, List.nil_append, List.length_append, List.length_nil, df h1, df h2, ByteArray.size_append, lets_size, e1, e2] at h ⊢
    exact .done h
noncomputable def winL : List (List U) := [wk bCTC 1, wk bCTC 0, wk bCTC 2, wk bP 1, wk bCTC 1]
noncomputable def spWin : ZCT := fun ax => match ax with
  | [] => some ⟨true, .agg [iv 4, wl winL], [], 0⟩
  | _ => none
noncomputable def twR (t : Int) (i : Nat) : Nat → List (List U)
  | 0 => []
  | m + 1 => wk (lets bT t) (2 * (i : Int)) :: twR t (i + 1) m
noncomputable def tws (n t : Int) : List (List U) := bc (decide (0 < t)) (twR t 0 n.toNat) []
noncomputable def spiL (n : Int) (q : List (List U)) : List (List U) := q ++ bodyL n ++ [wk bP (n - 1)] ++ bodyL n ++ q
theorem bodyL_len {n : Int} (h : n ≤ 6) : (bodyL n).length ≤ 36 := by
  unfold bodyL
  rw [bodyR_len]
  exact Nat.le_trans (Nat.mul_le_mul (show n.toNat ≤ 6 by omega) (show n.toNat ≤ 6 by omega)) (by omega)
namespace MRSp
theorem step {n t : Int} {i : Nat} {q : List (List U)} {nn : Bool} (hi : (i : Int) < n) (hn : n ≤ 6) (ht : 0 < t) (ht2 : t ≤ 16) (hq : q.length < 65536) : RUN (stOf (sRS n t i q nn)) = .at (sRS n t (i + 1 : Nat) (q ++ [wk (lets bT t) (2 * (i : Int))]) true) := by
  rw [step_t]
  have e1 : (ByteArray.mk #[84]).size = 1 := rfl
  simp (disch := omega) only [Nat.add_eq, eqSy_self, eqN_self, bc_same, List.length_cons, ofn, wrap_in, dt, df, bltD, bltN, ble_of, bleN, beqD, bc_t, bc_f, nn_ok, Nat.zero_add, to_nat, Int.zero_add, Int.sub_zero, Int.sub_self, Int.cast_ofNat_Int, Int.natCast_zero, Int.toNat_zero, List.take_zero, List.nil_append, List.length_append, List.length_nil, e1]
  rfl
theorem fin {n t : Int} {i : Nat} {q : List (List U)} {nn : Bool} (hn1 : 1 ≤ n) (hn : n ≤ 6) (h : n ≤ (i : Int) ∨ t ≤ 0) (hq : q.length ≤ 1000) : RUN (stOf (sRS n t i q nn)) = .done (shE (2 * n) (spiL n q) 0) [] 0 := by
  rw [step_t]
  have hb := bodyL_len hn
  by_cases hi : (i : Int) < n
  · have ht : ¬ 0 < t := by omega
    simp (disch := omega) only [Nat.add_eq, eqSy_self, eqN_self, bc_same, List.length_cons, ofn, wrap_in, dt, df, bltD, bltN, ble_of, bleN, beqD, bc_t, bc_f, nn_ok, Nat.zero_add, to_nat, Int.zero_add, Int.sub_zero, Int.sub_self, Int.cast_ofNat_Int, Int.natCast_zero, Int.toNat_zero, List.take_zero, List.nil_append, List.length_append, List.length_nil, dt hi, df ht]
    rfl
  · simp (disch := omega) only [Nat.add_eq, eqSy_self, eqN_self, bc_same, List.length_cons, ofn, wrap_in, dt, df, bltD, bltN, ble_of, bleN, beqD, bc_t, bc_f, nn_ok, Nat.zero_add, to_nat, Int.zero_add, Int.sub_zero, Int.sub_self, Int.cast_ofNat_Int, Int.natCast_zero, Int.toNat_zero, List.take_zero, List.nil_append, List.length_append, List.length_nil, df hi]
    rfl
theorem loop {n t : Int} (hn1 : 1 ≤ n) (hn : n ≤ 6) (ht : 0 < t) (ht2 : t ≤ 16) : ∀ (k i : Nat) (q : List (List U)) (nn : Bool), (i : Int) + k = n → q.length ≤ 100 + i → EndZ 30 ctR1 false (stOf (sRS n t i q nn)) (shE (2 * n) (spiL n (q ++ twR t i k)) 0) [] 0
  | 0, i, q, nn, h, hq => by
    show EndZ _ _ _ _ (shE (2 * n) (spiL n (q ++ [])) 0) _ _
    rw [List.append_nil]
    exact .done (fin hn1 hn (by omega) (by omega))
  | k + 1, i, q, nn, h, hq => by
    show EndZ _ _ _ _ (shE (2 * n) (spiL n (q ++ (wk (lets bT t) (2 * (i : Int)) :: twR t (i + 1) k))) 0) _ _
    rw [show q ++ wk (lets bT t) (2 * (i : Int)) :: twR t (i + 1) k = (q ++ [wk (lets bT t) (2 * (i : Int))]) ++ twR t (i + 1) k by simp]
    exact .at ctR1_ok (step (by omega) hn ht ht2 (by omega)) (loop hn1 hn ht ht2 k (i + 1) _ _ (by omega) (by simp; omega))
end MRSp
noncomputable def spiOk (n t : Int) : Bool := bc (decide (n < 1)) false (bc (decide (6 < n)) false (bc (decide (t < 0)) false (bc (decide (16 < t)) false true)))
noncomputable def spSpi : ZCT := fun ax => match ax with
  | [.v (.int .i64 n), .v (.int .i64 t)] => some ⟨true, shE (bc (spiOk n t) (2 * n) 0) (bc (spiOk n t) (spiL n (tws n t)) []) (bc (spiOk n t) 0 7), [], 0⟩
  | _ => none
theorem MRSp.ends (n t : Int) : EndZ 30 ctR1 false (st0 30 [iv n, iv t]) (shE (bc (spiOk n t) (2 * n) 0) (bc (spiOk n t) (spiL n (tws n t)) []) (bc (spiOk n t) 0 7)) [] 0 := by
  have h := MRSp.in_t n t
  unfold spiOk
  by_cases h1 : n < 1
  · simp only [dt h1, bc_t, bc_f] at h ⊢; exact (EndZ.done h).weak (shN_weak 7)
  by_cases h2 : 6 < n
  · simp only [df h1, dt h2, bc_t, bc_f] at h ⊢; exact (EndZ.done h).weak (shN_weak 7)
  by_cases h3 : t < 0
  · simp only [df h1, df h2, dt h3, bc_t, bc_f] at h ⊢; exact (EndZ.done h).weak (shN_weak 7)
  by_cases h4 : 16 < t
  · simp only [df h1, df h2, df h3, dt h4, bc_t, bc_f] at h ⊢; exact (EndZ.done h).weak (shN_weak 7)
  simp only [df h1, df h2, df h3, df h4, bc_t, bc_f] at h ⊢
  unfold tws
  by_cases h5 : 0 < t
  · rw [dt h5, bc_t]
    exact .at ctR1_ok h (MRSp.loop (by omega) (by omega) h5 (by omega) n.toNat 0 [] false (by omega) (by simp))
  · rw [df h5, bc_f]
    exact .at ctR1_ok h (.done (MRSp.fin (i := 0) (by omega) (by omega) (by omega) (by simp)))
noncomputable abbrev bRP : ByteArray := ByteArray.mk #[82, 80]
noncomputable abbrev bLLP : ByteArray := ByteArray.mk #[76, 76, 80]
noncomputable def upR (i : Nat) : Nat → List (List U)
  | 0 => []
  | m + 1 => wk bCTC (i : Int) :: upR (i + 1) m
noncomputable def downR : Nat → List (List U)
  | 0 => []
  | j + 1 => wk bCTC (j : Int) :: downR j
theorem upR_len : ∀ (m i : Nat), (upR i m).length = m
  | 0, _ => rfl
  | m + 1, i => by unfold upR; simp [upR_len m]
theorem downR_len : ∀ (j : Nat), (downR j).length = j
  | 0 => rfl
  | j + 1 => by unfold downR; simp [downR_len j]
noncomputable def thereL (w : ByteArray) (k : Nat) : List (List U) := upR 0 k ++ [wk w ((k : Int) - 1)] ++ downR k
def kk (n r : Nat) : Nat := if 2 * n - r < r then 2 * n - r else r
theorem kk_le {n r : Nat} (h : 1 ≤ r) (h2 : r < 2 * n) : 1 ≤ kk n r ∧ kk n r ≤ n := by unfold kk; split <;> omega
noncomputable def fanR (n r : Nat) : Nat → List (List U)
  | 0 => []
  | m + 1 => thereL bRP (kk n r) ++ fanR n (r + 1) m
namespace MRFan
noncomputable def RUN (s : ES) : ZF := RZs 32 ctR1 [(atS 0 32 9, [[(0,none),(2,none),(4,some (3, 76, .recs shW [])),(5,none),(6,none),(7,none)]]), (atS 0 32 14, [[(0,none),(2,none),(4,some (3, 76, .recs shW [])),(5,none),(8,none)]])] [] false s

noncomputable def sA (n r k i : Int) (q : List (List U)) (nn : Bool) : NS := ⟨[⟨32, 66, [(0, (EV.v (Value.int IntKind.i64 (n)))), (2, (EV.ptr 0 0)), (4, (EV.ptr 1 0)), (5, iv r), (6, iv k), (7, iv i)], [.it (.code (nav [1, 1, 1, 0, 1, 0, 0, 1, 0, 0, 1, 0, 1, 0, 0, 0] (bodyOf Try.f32))), .it (.code (nav [1, 1, 1, 0, 1, 0, 0, 1, 0, 0, 1, 0, 1, 0, 0, 1] (bodyOf Try.f32))), .it (.inLoop (nav [1, 1, 1, 0, 1, 0, 0, 1, 0, 0, 1, 0, 1, 0, 0] (bodyOf Try.f32))), .it (.inBlock 2), .it (.code (nav [1, 1, 1, 0, 1, 0, 0, 1, 0, 0, 1, 1] (bodyOf Try.f32))), .it (.inBlock 1), .it (.code (nav [1, 1, 1, 0, 1, 0, 0, 1, 1] (bodyOf Try.f32))), .it (.inLoop (nav [1, 1, 1, 0, 1, 0, 0] (bodyOf Try.f32))), .it (.inBlock 0), .it (.code (nav [1, 1, 1, 1] (bodyOf Try.f32)))], [], Option.none⟩], [(0, (EK.cells 24 [(EV.v (Value.int IntKind.i64 (0))), (EV.v (Value.slice Option.none 0 0))] true)), (1, EK.cells 24 [iv (IntKind.i64.wrap (n + 1)), EV.slO 2 3 q.length nn] true), (2, EK.seq 76 (.recs shW q) nn)], 3⟩
noncomputable def sB (n r i : Int) (q : List (List U)) (nn : Bool) : NS := ⟨[⟨32, 66, [(0, (EV.v (Value.int IntKind.i64 (n)))), (2, (EV.ptr 0 0)), (4, (EV.ptr 1 0)), (5, iv r), (8, iv i)], [.it (.code (nav [1, 1, 1, 0, 1, 0, 0, 1, 0, 0, 1, 1, 1, 1, 0, 0, 0] (bodyOf Try.f32))), .it (.code (nav [1, 1, 1, 0, 1, 0, 0, 1, 0, 0, 1, 1, 1, 1, 0, 0, 1] (bodyOf Try.f32))), .it (.inLoop (nav [1, 1, 1, 0, 1, 0, 0, 1, 0, 0, 1, 1, 1, 1, 0, 0] (bodyOf Try.f32))), .it (.inBlock 4), .it (.inBlock 1), .it (.code (nav [1, 1, 1, 0, 1, 0, 0, 1, 1] (bodyOf Try.f32))), .it (.inLoop (nav [1, 1, 1, 0, 1, 0, 0] (bodyOf Try.f32))), .it (.inBlock 0), .it (.code (nav [1, 1, 1, 1] (bodyOf Try.f32)))], [], Option.none⟩], [(0, (EK.cells 24 [(EV.v (Value.int IntKind.i64 (0))), (EV.v (Value.slice Option.none 0 0))] true)), (1, EK.cells 24 [iv (IntKind.i64.wrap (n + 1)), EV.slO 2 3 q.length nn] true), (2, EK.seq 76 (.recs shW q) nn)], 3⟩
theorem in_t (n : Int) : RUN (st0 32 [iv n]) = (bc (decide (n < (1 : Int))) (.done (EV.tup [(EV.v (Value.agg (Array.mk [(Value.int IntKind.i64 (0)), (Value.slice Option.none 0 0)]))), (EV.v (Value.int IntKind.i64 (7)))]) [] 0) (bc (decide ((12 : Int) < n)) (.done (EV.tup [(EV.v (Value.agg (Array.mk [(Value.int IntKind.i64 (0)), (Value.slice Option.none 0 0)]))), (EV.v (Value.int IntKind.i64 (7)))]) [] 0) (bc (decide ((1 : Int) ≤ IntKind.wrap IntKind.i64 (IntKind.wrap IntKind.i64 ((2 : Int) * n) - (1 : Int)))) (.at (sA (n) ((1 : Int)) (if IntKind.wrap IntKind.i64 (IntKind.wrap IntKind.i64 ((2 : Int) * n) - (1 : Int)) < (1 : Int) then IntKind.wrap IntKind.i64 (IntKind.wrap IntKind.i64 ((2 : Int) * n) - (1 : Int)) else (1 : Int)) ((0 : Int)) ([]) (false))) (.done (EV.tup [(EV.v (Value.agg (Array.mk [(Value.int IntKind.i64 (IntKind.wrap IntKind.i64 (n + (1 : Int)))), (Value.slice Option.none 0 0)]))), (EV.v (Value.int IntKind.i64 (0)))]) [] 0)))) := by kernel_rfl
theorem a_t (n r k i : Int) (q : List (List U)) (nn : Bool) : RUN (stOf (sA n r k i q nn)) = (bc (decide (i < k)) (bc (bc (bc (bc (Nat.beq (List.length q) (List.length q)) (bc (Nat.ble (List.length q + List.length [[U.i (1 : Int), U.i i, U.s { data := #[(67 : UInt8), (84 : UInt8), (67 : UInt8)] }]]) (65536 : Nat)) (bc nn true (bc nn false true)) false) false) true false) (bc (bc (bc (bc (Nat.beq (List.length q) (List.length q)) (eqN nn nn) false) true false) true false) true false) false) (.at (sA (n) (r) (k) (IntKind.wrap IntKind.i64 (i + (1 : Int))) (q ++ [[U.i (1 : Int), U.i i, U.s { data := #[(67 : UInt8), (84 : UInt8), (67 : UInt8)] }]]) (bc nn true (Nat.blt (0 : Nat) (List.length [[U.i (1 : Int), U.i i, U.s { data := #[(67 : UInt8), (84 : UInt8), (67 : UInt8)] }]]))))) .bad) (bc (bc (bc (bc (Nat.beq (List.length q) (List.length q)) (bc (Nat.ble (List.length q + List.length [[U.i (1 : Int), U.i (IntKind.wrap IntKind.i64 (k - (1 : Int))), U.s { data := #[(82 : UInt8), (80 : UInt8)] }]]) (65536 : Nat)) (bc nn true (bc nn false true)) false) false) true false) (bc (bc (bc (bc (Nat.beq (List.length q) (List.length q)) (eqN nn nn) false) true false) true false) true false) false) (.at (sB (n) (r) (IntKind.wrap IntKind.i64 (k - (1 : Int))) (q ++ [[U.i (1 : Int), U.i (IntKind.wrap IntKind.i64 (k - (1 : Int))), U.s { data := #[(82 : UInt8), (80 : UInt8)] }]]) (bc nn true (Nat.blt (0 : Nat) (List.length [[U.i (1 : Int), U.i (IntKind.wrap IntKind.i64 (k - (1 : Int))), U.s { data := #[(82 : UInt8), (80 : UInt8)] }]]))))) .bad)) := by kernel_rfl
theorem b_t (n r i : Int) (q : List (List U)) (nn : Bool) : RUN (stOf (sB n r i q nn)) = (bc (decide ((0 : Int) ≤ i)) (bc (bc (bc (bc (Nat.beq (List.length q) (List.length q)) (bc (Nat.ble (List.length q + List.length [[U.i (1 : Int), U.i i, U.s { data := #[(67 : UInt8), (84 : UInt8), (67 : UInt8)] }]]) (65536 : Nat)) (bc nn true (bc nn false true)) false) false) true false) (bc (bc (bc (bc (Nat.beq (List.length q) (List.length q)) (eqN nn nn) false) true false) true false) true false) false) (.at (sB (n) (r) (IntKind.wrap IntKind.i64 (i - (1 : Int))) (q ++ [[U.i (1 : Int), U.i i, U.s { data := #[(67 : UInt8), (84 : UInt8), (67 : UInt8)] }]]) (bc nn true (Nat.blt (0 : Nat) (List.length [[U.i (1 : Int), U.i i, U.s { data := #[(67 : UInt8), (84 : UInt8), (67 : UInt8)] }]]))))) .bad) (bc (decide (IntKind.wrap IntKind.i64 (r + (1 : Int)) ≤ IntKind.wrap IntKind.i64 (IntKind.wrap IntKind.i64 ((2 : Int) * n) - (1 : Int)))) (.at (sA (n) (IntKind.wrap IntKind.i64 (r + (1 : Int))) (if IntKind.wrap IntKind.i64 (IntKind.wrap IntKind.i64 ((2 : Int) * n) - IntKind.wrap IntKind.i64 (r + (1 : Int))) < IntKind.wrap IntKind.i64 (r + (1 : Int)) then IntKind.wrap IntKind.i64 (IntKind.wrap IntKind.i64 ((2 : Int) * n) - IntKind.wrap IntKind.i64 (r + (1 : Int))) else IntKind.wrap IntKind.i64 (r + (1 : Int))) ((0 : Int)) (q) (nn))) (bc (bc (bc (Nat.beq (List.length q) (List.length q)) true false) true false) (.done (EV.tup [(EV.agg [(EV.v (Value.int IntKind.i64 (IntKind.wrap IntKind.i64 (n + (1 : Int))))), (EV.lst (SyC.recs [(Sh.int IntKind.i64), (Sh.int IntKind.i64), Sh.str] (q)))]), (EV.v (Value.int IntKind.i64 (0)))]) [] 0) .bad))) := by kernel_rfl
theorem aStep {n r : Int} {k i : Nat} {q : List (List U)} {nn : Bool} (hi : i < k) (hk : k ≤ 12) (hq : q.length < 65536) : RUN (stOf (sA n r k i q nn)) = .at (sA n r k (i + 1 : Nat) (q ++ [wk bCTC i]) true) := by
  rw [a_t]
  simp (disch := omega) only [Nat.add_eq, eqSy_self, eqN_self, bc_same, List.length_cons, ofn, wrap_in, dt, df, bltD, bltN, ble_of, bleN, beqD, bc_t, bc_f, nn_ok, Nat.zero_add, to_nat, Int.zero_add, Int.sub_zero, Int.sub_self, Int.cast_ofNat_Int, Int.natCast_zero, Int.toNat_zero, List.take_zero, List.nil_append, List.length_append, List.length_nil]
  rfl
theorem aEnd {n r : Int} {k i : Nat} {q : List (List U)} {nn : Bool} (hi : k ≤ i) (h1 : 1 ≤ k) (hk : k ≤ 12) (hq : q.length < 65536) : RUN (stOf (sA n r k i q nn)) = .at (sB n r ((k : Int) - 1) (q ++ [wk bRP ((k : Int) - 1)]) true) := by
  rw [a_t]
  simp (disch := omega) only [Nat.add_eq, eqSy_self, eqN_self, bc_same, List.length_cons, ofn, wrap_in, dt, df, bltD, bltN, ble_of, bleN, beqD, bc_t, bc_f, nn_ok, Nat.zero_add, to_nat, Int.zero_add, Int.sub_zero, Int.sub_self, Int.cast_ofNat_Int, Int.natCast_zero, Int.toNat_zero, List.take_zero, List.nil_append, List.length_append, List.length_nil]
  rfl
theorem aLoop {n r : Int} {k : Nat} (h1 : 1 ≤ k) (hk : k ≤ 12) : ∀ (m i : Nat) (q : List (List U)) (nn : Bool), i + m = k → q.length + m < 65000 → LeadsZ Try.prog (stOf (sA n r k i q nn)) (stOf (sB n r ((k : Int) - 1) (q ++ upR i m ++ [wk bRP ((k : Int) - 1)]) true))
  | 0, i, q, nn, h, hq => by
    show LeadsZ _ _ (stOf (sB n r ((k : Int) - 1) (q ++ [] ++ [wk bRP ((k : Int) - 1)]) true))
    rw [List.append_nil]
    exact leadsZ ctR1_ok (aEnd (by omega) h1 hk (by omega))
  | m + 1, i, q, nn, h, hq => by
    show LeadsZ _ _ (stOf (sB n r ((k : Int) - 1) (q ++ (wk bCTC (i : Int) :: upR (i + 1) m) ++ [wk bRP ((k : Int) - 1)]) true))
    rw [show q ++ (wk bCTC (i : Int) :: upR (i + 1) m) = (q ++ [wk bCTC (i : Int)]) ++ upR (i + 1) m by simp]
    exact (leadsZ ctR1_ok (aStep (by omega) hk (by omega))).trans (aLoop h1 hk m (i + 1) _ _ (by omega) (by rw [List.length_append]; simp only [List.length_cons, List.length_nil]; omega))
theorem bStep {n r : Int} {j : Nat} {q : List (List U)} {nn : Bool} (hj : j ≤ 12) (hq : q.length < 65536) : RUN (stOf (sB n r j q nn)) = .at (sB n r ((j : Int) - 1) (q ++ [wk bCTC j]) true) := by
  rw [b_t]
  simp (disch := omega) only [Nat.add_eq, eqSy_self, eqN_self, bc_same, List.length_cons, ofn, wrap_in, dt, df, bltD, bltN, ble_of, bleN, beqD, bc_t, bc_f, nn_ok, Nat.zero_add, to_nat, Int.zero_add, Int.sub_zero, Int.sub_self, Int.cast_ofNat_Int, Int.natCast_zero, Int.toNat_zero, List.take_zero, List.nil_append, List.length_append, List.length_nil]
  rfl
theorem bLoop {n r : Int} : ∀ (j : Nat) (q : List (List U)), j ≤ 12 → q.length + j < 65000 → LeadsZ Try.prog (stOf (sB n r ((j : Int) - 1) q true)) (stOf (sB n r (-1) (q ++ downR j) true))
  | 0, q, hj, hq => by
    show LeadsZ _ _ (stOf (sB n r (-1) (q ++ []) true))
    rw [List.append_nil]
    exact LeadsZ.refl _
  | j + 1, q, hj, hq => by
    show LeadsZ _ _ (stOf (sB n r (-1) (q ++ (wk bCTC (j : Int) :: downR j)) true))
    rw [show ((j + 1 : Nat) : Int) - 1 = j by omega, show q ++ (wk bCTC (j : Int) :: downR j) = (q ++ [wk bCTC (j : Int)]) ++ downR j by simp]
    exact (leadsZ ctR1_ok (bStep (by omega) (by omega))).trans (bLoop j _ (by omega) (by rw [List.length_append]; simp only [List.length_cons, List.length_nil]; omega))
theorem bNext {n r : Nat} {q : List (List U)} (hn : n ≤ 12) (hr : r + 2 ≤ 2 * n) (h0 : 1 ≤ r) : RUN (stOf (sB n r (-1) q true)) = .at (sA n (r + 1 : Nat) (kk n (r + 1) : Nat) 0 q true) := by
  rw [b_t]
  have e : (if 2 * (n : Int) - ((r + 1 : Nat) : Int) < ((r + 1 : Nat) : Int) then 2 * (n : Int) - ((r + 1 : Nat) : Int) else ((r + 1 : Nat) : Int)) = (kk n (r + 1) : Nat) := by
    unfold kk
    split <;> split <;> omega
  have e0 : ((r : Int) + 1) = ((r + 1 : Nat) : Int) := rfl
  simp (disch := omega) only [Nat.add_eq, eqSy_self, eqN_self, bc_same, List.length_cons, ofn, wrap_in, dt, df, bltD, bltN, ble_of, bleN, beqD, bc_t, bc_f, nn_ok, Nat.zero_add, to_nat, Int.zero_add, Int.sub_zero, Int.sub_self, Int.cast_ofNat_Int, Int.natCast_zero, Int.toNat_zero, List.take_zero, List.nil_append, List.length_append, List.length_nil, e0, e]
theorem bFin {n r : Nat} {q : List (List U)} (hn : n ≤ 12) (hr : 2 * n ≤ r + 1) (hr2 : r ≤ 24) : RUN (stOf (sB n r (-1) q true)) = .done (shE ((n : Int) + 1) q 0) [] 0 := by
  rw [b_t]
  simp (disch := omega) only [Nat.add_eq, eqSy_self, eqN_self, bc_same, List.length_cons, ofn, wrap_in, dt, df, bltD, bltN, ble_of, bleN, beqD, bc_t, bc_f, nn_ok, Nat.zero_add, to_nat, Int.zero_add, Int.sub_zero, Int.sub_self, Int.cast_ofNat_Int, Int.natCast_zero, Int.toNat_zero, List.take_zero, List.nil_append, List.length_append, List.length_nil]
  rfl
theorem rows {n : Nat} (h1 : 1 ≤ n) (hn : n ≤ 12) : ∀ (m r : Nat) (q : List (List U)) (nn : Bool), r + m + 1 = 2 * n → 1 ≤ r → q.length ≤ 25 * r → EndZ 32 ctR1 false (stOf (sA n r (kk n r : Nat) 0 q nn)) (shE ((n : Int) + 1) (q ++ fanR n r (m + 1)) 0) [] 0
  | 0, r, q, nn, h, hr, hq => by
    have hk := kk_le (n := n) (r := r) hr (by omega)
    have l1 := aLoop (n := n) (r := r) (k := kk n r) (by omega) (by omega) (kk n r) 0 q nn (by omega) (by omega)
    have l2 := bLoop (n := n) (r := r) (kk n r) (q ++ upR 0 (kk n r) ++ [wk bRP ((kk n r : Nat) - 1 : Int)]) (by omega) (by simp [upR_len]; omega)
    have e : q ++ fanR n r 1 = q ++ upR 0 (kk n r) ++ [wk bRP ((kk n r : Nat) - 1 : Int)] ++ downR (kk n r) := by unfold fanR fanR thereL; simp
    rw [e]
    exact .lead (l1.trans l2) (.done (bFin hn (by omega) (by omega)))
  | m + 1, r, q, nn, h, hr, hq => by
    have hk := kk_le (n := n) (r := r) hr (by omega)
    have l1 := aLoop (n := n) (r := r) (k := kk n r) (by omega) (by omega) (kk n r) 0 q nn (by omega) (by omega)
    have l2 := bLoop (n := n) (r := r) (kk n r) (q ++ upR 0 (kk n r) ++ [wk bRP ((kk n r : Nat) - 1 : Int)]) (by omega) (by simp [upR_len]; omega)
    have e : q ++ fanR n r (m + 1 + 1) = q ++ upR 0 (kk n r) ++ [wk bRP ((kk n r : Nat) - 1 : Int)] ++ downR (kk n r) ++ fanR n (r + 1) (m + 1) := by
      show q ++ (thereL bRP (kk n r) ++ fanR n (r + 1) (m + 1)) = _
      unfold thereL; simp
    rw [e]
    exact .lead (l1.trans l2) (.at ctR1_ok (bNext hn (by omega) hr) (rows h1 hn m (r + 1) _ true (by omega) (by omega) (by simp [upR_len, downR_len]; omega)))
end MRFan
noncomputable def fanL (n : Int) : List (List U) := bc (decide (n < 1)) [] (bc (decide (12 < n)) [] (fanR n.toNat 1 (2 * n.toNat - 1)))
noncomputable def fanP (n : Int) : Int := bc (decide (n < 1)) 0 (bc (decide (12 < n)) 0 (n + 1))
noncomputable def fanE (n : Int) : Int := bc (decide (n < 1)) 7 (bc (decide (12 < n)) 7 0)
theorem MRFan.ends (n : Int) : EndZ 32 ctR1 false (st0 32 [iv n]) (shE (fanP n) (fanL n) (fanE n)) [] 0 := by
  have h := MRFan.in_t n
  unfold fanP fanL fanE
  by_cases h1 : n < 1
  · simp only [dt h1, bc_t] at h ⊢; exact (EndZ.done h).weak (shN_weak 7)
  by_cases h2 : 12 < n
  · simp only [df h1, dt h2, bc_t, bc_f] at h ⊢; exact (EndZ.done h).weak (shN_weak 7)
  obtain ⟨k, rfl⟩ : ∃ k : Nat, n = (k : Int) := ⟨n.toNat, by omega⟩
  simp (disch := omega) only [df h1, df h2, bc_f, bc_t, wrap_in, dt] at h ⊢
  rw [if_neg (by omega)] at h
  rw [Int.toNat_natCast]
  have e : kk k 1 = 1 := by unfold kk; split <;> omega
  have := MRFan.rows (n := k) (by omega) (by omega) (2 * k - 2) 1 [] false (by omega) (by omega) (by simp)
  rw [e, show 2 * k - 2 + 1 = 2 * k - 1 by omega, List.nil_append] at this
  exact .at ctR1_ok h this
noncomputable def footL1 (n : Nat) : List (List U) := downR n ++ [wk bLLP 0] ++ upR 0 n
noncomputable def footR (n : Nat) : Nat → List (List U)
  | 0 => []
  | m + 1 => footL1 n ++ footR n m
namespace MRFoot
noncomputable def RUN (s : ES) : ZF := RZs 33 ctR1 [(atS 0 33 10, [[(0,none),(1,none),(4,none),(6,some (3, 76, .recs shW [])),(7,none),(8,none)]]), (atS 0 33 15, [[(0,none),(1,none),(4,none),(6,some (3, 76, .recs shW [])),(7,none),(9,none)]])] [] false s

noncomputable def sA (n m r i : Int) (q : List (List U)) (nn : Bool) : NS := ⟨[⟨33, 68, [(0, (EV.v (Value.int IntKind.i64 (n)))), (1, (EV.v (Value.int IntKind.i64 (m)))), (4, (EV.ptr 0 0)), (6, (EV.ptr 1 0)), (7, iv r), (8, iv i)], [.it (.code (nav [1, 1, 1, 1, 0, 1, 0, 0, 1, 0, 0, 0, 1, 0, 0, 0] (bodyOf Try.f33))), .it (.code (nav [1, 1, 1, 1, 0, 1, 0, 0, 1, 0, 0, 0, 1, 0, 0, 1] (bodyOf Try.f33))), .it (.inLoop (nav [1, 1, 1, 1, 0, 1, 0, 0, 1, 0, 0, 0, 1, 0, 0] (bodyOf Try.f33))), .it (.inBlock 2), .it (.code (nav [1, 1, 1, 1, 0, 1, 0, 0, 1, 0, 0, 1] (bodyOf Try.f33))), .it (.inBlock 1), .it (.code (nav [1, 1, 1, 1, 0, 1, 0, 0, 1, 1] (bodyOf Try.f33))), .it (.inLoop (nav [1, 1, 1, 1, 0, 1, 0, 0] (bodyOf Try.f33))), .it (.inBlock 0), .it (.code (nav [1, 1, 1, 1, 1] (bodyOf Try.f33)))], [], Option.none⟩], [(0, (EK.cells 24 [(EV.v (Value.int IntKind.i64 (0))), (EV.v (Value.slice Option.none 0 0))] true)), (1, EK.cells 24 [iv (IntKind.i64.wrap (n + 1)), EV.slO 2 3 q.length nn] true), (2, EK.seq 76 (.recs shW q) nn)], 3⟩
noncomputable def sB (n m r i : Int) (q : List (List U)) (nn : Bool) : NS := ⟨[⟨33, 68, [(0, (EV.v (Value.int IntKind.i64 (n)))), (1, (EV.v (Value.int IntKind.i64 (m)))), (4, (EV.ptr 0 0)), (6, (EV.ptr 1 0)), (7, iv r), (9, iv i)], [.it (.code (nav [1, 1, 1, 1, 0, 1, 0, 0, 1, 0, 0, 1, 1, 1, 0, 0, 0] (bodyOf Try.f33))), .it (.code (nav [1, 1, 1, 1, 0, 1, 0, 0, 1, 0, 0, 1, 1, 1, 0, 0, 1] (bodyOf Try.f33))), .it (.inLoop (nav [1, 1, 1, 1, 0, 1, 0, 0, 1, 0, 0, 1, 1, 1, 0, 0] (bodyOf Try.f33))), .it (.inBlock 4), .it (.inBlock 1), .it (.code (nav [1, 1, 1, 1, 0, 1, 0, 0, 1, 1] (bodyOf Try.f33))), .it (.inLoop (nav [1, 1, 1, 1, 0, 1, 0, 0] (bodyOf Try.f33))), .it (.inBlock 0), .it (.code (nav [1, 1, 1, 1, 1] (bodyOf Try.f33)))], [], Option.none⟩], [(0, (EK.cells 24 [(EV.v (Value.int IntKind.i64 (0))), (EV.v (Value.slice Option.none 0 0))] true)), (1, EK.cells 24 [iv (IntKind.i64.wrap (n + 1)), EV.slO 2 3 q.length nn] true), (2, EK.seq 76 (.recs shW q) nn)], 3⟩
theorem in_t (n m : Int) : RUN (st0 33 [iv n, iv m]) = (bc (decide (n < (1 : Int))) (.done (EV.tup [(EV.v (Value.agg (Array.mk [(Value.int IntKind.i64 (0)), (Value.slice Option.none 0 0)]))), (EV.v (Value.int IntKind.i64 (7)))]) [] 0) (bc (decide ((23 : Int) < n)) (.done (EV.tup [(EV.v (Value.agg (Array.mk [(Value.int IntKind.i64 (0)), (Value.slice Option.none 0 0)]))), (EV.v (Value.int IntKind.i64 (7)))]) [] 0) (bc (decide (m < (1 : Int))) (.done (EV.tup [(EV.v (Value.agg (Array.mk [(Value.int IntKind.i64 (0)), (Value.slice Option.none 0 0)]))), (EV.v (Value.int IntKind.i64 (7)))]) [] 0) (bc (bc (bnot (IntKind.wrap IntKind.i64 (IntKind.wrap IntKind.i64 ((2 : Int) * n) + (1 : Int)) == (0 : Int))) true false) (bc (decide (IntKind.wrap IntKind.i64 (Int.tdiv (400 : Int) (IntKind.wrap IntKind.i64 (IntKind.wrap IntKind.i64 ((2 : Int) * n) + (1 : Int)))) < m)) (.done (EV.tup [(EV.v (Value.agg (Array.mk [(Value.int IntKind.i64 (0)), (Value.slice Option.none 0 0)]))), (EV.v (Value.int IntKind.i64 (3)))]) [] 0) (bc (decide ((0 : Int) < m)) (.at (sA (n) (m) ((0 : Int)) (IntKind.wrap IntKind.i64 (n - (1 : Int))) ([]) (false))) (.done (EV.tup [(EV.v (Value.agg (Array.mk [(Value.int IntKind.i64 (IntKind.wrap IntKind.i64 (n + (1 : Int)))), (Value.slice Option.none 0 0)]))), (EV.v (Value.int IntKind.i64 (0)))]) [] 0))) .bad)))) := by kernel_rfl
theorem a_t (n m r i : Int) (q : List (List U)) (nn : Bool) : RUN (stOf (sA n m r i q nn)) = (bc (decide ((0 : Int) ≤ i)) (bc (bc (bc (bc (Nat.beq (List.length q) (List.length q)) (bc (Nat.ble (List.length q + List.length [[U.i (1 : Int), U.i i, U.s { data := #[(67 : UInt8), (84 : UInt8), (67 : UInt8)] }]]) (65536 : Nat)) (bc nn true (bc nn false true)) false) false) true false) (bc (bc (bc (bc (Nat.beq (List.length q) (List.length q)) (eqN nn nn) false) true false) true false) true false) false) (.at (sA (n) (m) (r) (IntKind.wrap IntKind.i64 (i - (1 : Int))) (q ++ [[U.i (1 : Int), U.i i, U.s { data := #[(67 : UInt8), (84 : UInt8), (67 : UInt8)] }]]) (bc nn true (Nat.blt (0 : Nat) (List.length [[U.i (1 : Int), U.i i, U.s { data := #[(67 : UInt8), (84 : UInt8), (67 : UInt8)] }]]))))) .bad) (bc (bc (bc (bc (Nat.beq (List.length q) (List.length q)) (bc (Nat.ble (List.length q + List.length [[U.i (1 : Int), U.i (0 : Int), U.s { data := #[(76 : UInt8), (76 : UInt8), (80 : UInt8)] }]]) (65536 : Nat)) (bc nn true (bc nn false true)) false) false) true false) (bc (bc (bc (bc (Nat.beq (List.length q) (List.length q)) (eqN nn nn) false) true false) true false) true false) false) (.at (sB (n) (m) (r) ((0 : Int)) (q ++ [[U.i (1 : Int), U.i (0 : Int), U.s { data := #[(76 : UInt8), (76 : UInt8), (80 : UInt8)] }]]) (bc nn true (Nat.blt (0 : Nat) (List.length [[U.i (1 : Int), U.i (0 : Int), U.s { data := #[(76 : UInt8), (76 : UInt8), (80 : UInt8)] }]]))))) .bad)) := by kernel_rfl
theorem b_t (n m r i : Int) (q : List (List U)) (nn : Bool) : RUN (stOf (sB n m r i q nn)) = (bc (decide (i < n)) (bc (bc (bc (bc (Nat.beq (List.length q) (List.length q)) (bc (Nat.ble (List.length q + List.length [[U.i (1 : Int), U.i i, U.s { data := #[(67 : UInt8), (84 : UInt8), (67 : UInt8)] }]]) (65536 : Nat)) (bc nn true (bc nn false true)) false) false) true false) (bc (bc (bc (bc (Nat.beq (List.length q) (List.length q)) (eqN nn nn) false) true false) true false) true false) false) (.at (sB (n) (m) (r) (IntKind.wrap IntKind.i64 (i + (1 : Int))) (q ++ [[U.i (1 : Int), U.i i, U.s { data := #[(67 : UInt8), (84 : UInt8), (67 : UInt8)] }]]) (bc nn true (Nat.blt (0 : Nat) (List.length [[U.i (1 : Int), U.i i, U.s { data := #[(67 : UInt8), (84 : UInt8), (67 : UInt8)] }]]))))) .bad) (bc (decide (IntKind.wrap IntKind.i64 (r + (1 : Int)) < m)) (.at (sA (n) (m) (IntKind.wrap IntKind.i64 (r + (1 : Int))) (IntKind.wrap IntKind.i64 (n - (1 : Int))) (q) (nn))) (bc (bc (bc (Nat.beq (List.length q) (List.length q)) true false) true false) (.done (EV.tup [(EV.agg [(EV.v (Value.int IntKind.i64 (IntKind.wrap IntKind.i64 (n + (1 : Int))))), (EV.lst (SyC.recs [(Sh.int IntKind.i64), (Sh.int IntKind.i64), Sh.str] (q)))]), (EV.v (Value.int IntKind.i64 (0)))]) [] 0) .bad))) := by kernel_rfl
theorem aStep {n m r : Int} {j : Nat} {q : List (List U)} {nn : Bool} (hj : j ≤ 30) (hq : q.length < 65536) : RUN (stOf (sA n m r j q nn)) = .at (sA n m r ((j : Int) - 1) (q ++ [wk bCTC j]) true) := by
  rw [a_t]
  simp (disch := omega) only [Nat.add_eq, eqSy_self, eqN_self, bc_same, List.length_cons, ofn, wrap_in, dt, df, bltD, bltN, ble_of, bleN, beqD, bc_t, bc_f, nn_ok, Nat.zero_add, to_nat, Int.zero_add, Int.sub_zero, Int.sub_self, Int.cast_ofNat_Int, Int.natCast_zero, Int.toNat_zero, List.take_zero, List.nil_append, List.length_append, List.length_nil]
  rfl
theorem aEnd {n m r : Int} {q : List (List U)} {nn : Bool} (hq : q.length < 65536) : RUN (stOf (sA n m r (-1) q nn)) = .at (sB n m r 0 (q ++ [wk bLLP 0]) true) := by
  rw [a_t]
  simp (disch := omega) only [Nat.add_eq, eqSy_self, eqN_self, bc_same, List.length_cons, ofn, wrap_in, dt, df, bltD, bltN, ble_of, bleN, beqD, bc_t, bc_f, nn_ok, Nat.zero_add, to_nat, Int.zero_add, Int.sub_zero, Int.sub_self, Int.cast_ofNat_Int, Int.natCast_zero, Int.toNat_zero, List.take_zero, List.nil_append, List.length_append, List.length_nil]
  rfl
theorem aLoop {n m r : Int} : ∀ (j : Nat) (q : List (List U)) (nn : Bool), j ≤ 30 → q.length + j < 65000 → LeadsZ Try.prog (stOf (sA n m r ((j : Int) - 1) q nn)) (stOf (sB n m r 0 (q ++ downR j ++ [wk bLLP 0]) true))
  | 0, q, nn, hj, hq => by
    show LeadsZ _ _ (stOf (sB n m r 0 (q ++ [] ++ [wk bLLP 0]) true))
    rw [List.append_nil]
    exact leadsZ ctR1_ok (aEnd (by omega))
  | j + 1, q, nn, hj, hq => by
    show LeadsZ _ _ (stOf (sB n m r 0 (q ++ (wk bCTC (j : Int) :: downR j) ++ [wk bLLP 0]) true))
    rw [show ((j + 1 : Nat) : Int) - 1 = j by omega, show q ++ (wk bCTC (j : Int) :: downR j) = (q ++ [wk bCTC (j : Int)]) ++ downR j by simp]
    exact (leadsZ ctR1_ok (aStep (by omega) (by omega))).trans (aLoop j _ _ (by omega) (by rw [List.length_append]; simp only [List.length_cons, List.length_nil]; omega))
theorem bStep {m r : Int} {n i : Nat} {q : List (List U)} {nn : Bool} (hi : i < n) (hn : n ≤ 30) (hq : q.length < 65536) : RUN (stOf (sB n m r i q nn)) = .at (sB n m r (i + 1 : Nat) (q ++ [wk bCTC i]) true) := by
  rw [b_t]
  simp (disch := omega) only [Nat.add_eq, eqSy_self, eqN_self, bc_same, List.length_cons, ofn, wrap_in, dt, df, bltD, bltN, ble_of, bleN, beqD, bc_t, bc_f, nn_ok, Nat.zero_add, to_nat, Int.zero_add, Int.sub_zero, Int.sub_self, Int.cast_ofNat_Int, Int.natCast_zero, Int.toNat_zero, List.take_zero, List.nil_append, List.length_append, List.length_nil]
  rfl
theorem bLoop {m r : Int} {n : Nat} (hn : n ≤ 30) : ∀ (k i : Nat) (q : List (List U)), i + k = n → q.length + k < 65000 → LeadsZ Try.prog (stOf (sB n m r i q true)) (stOf (sB n m r n (q ++ upR i k) true))
  | 0, i, q, h, hq => by
    have : i = n := by omega
    subst this
    show LeadsZ _ _ (stOf (sB i m r i (q ++ []) true))
    rw [List.append_nil]
    exact LeadsZ.refl _
  | k + 1, i, q, h, hq => by
    show LeadsZ _ _ (stOf (sB n m r n (q ++ (wk bCTC (i : Int) :: upR (i + 1) k)) true))
    rw [show q ++ (wk bCTC (i : Int) :: upR (i + 1) k) = (q ++ [wk bCTC (i : Int)]) ++ upR (i + 1) k by simp]
    exact (leadsZ ctR1_ok (bStep (by omega) hn (by omega))).trans (bLoop hn k (i + 1) _ (by omega) (by rw [List.length_append]; simp only [List.length_cons, List.length_nil]; omega))
theorem bNext {n m r : Nat} {q : List (List U)} (hn : n ≤ 30) (h1 : 1 ≤ n) (hr : r + 1 < m) (hm : m ≤ 1000) : RUN (stOf (sB n m r n q true)) = .at (sA n m (r + 1 : Nat) ((n : Int) - 1) q true) := by
  rw [b_t]
  have e0 : ((r : Int) + 1) = ((r + 1 : Nat) : Int) := rfl
  simp (disch := omega) only [Nat.add_eq, eqSy_self, eqN_self, bc_same, List.length_cons, ofn, wrap_in, dt, df, bltD, bltN, ble_of, bleN, beqD, bc_t, bc_f, nn_ok, Nat.zero_add, to_nat, Int.zero_add, Int.sub_zero, Int.sub_self, Int.cast_ofNat_Int, Int.natCast_zero, Int.toNat_zero, List.take_zero, List.nil_append, List.length_append, List.length_nil, e0]
theorem bFin {n m r : Nat} {q : List (List U)} (hn : n ≤ 30) (hr : m ≤ r + 1) (hm : r ≤ 1000) : RUN (stOf (sB n m r n q true)) = .done (shE ((n : Int) + 1) q 0) [] 0 := by
  rw [b_t]
  simp (disch := omega) only [Nat.add_eq, eqSy_self, eqN_self, bc_same, List.length_cons, ofn, wrap_in, dt, df, bltD, bltN, ble_of, bleN, beqD, bc_t, bc_f, nn_ok, Nat.zero_add, to_nat, Int.zero_add, Int.sub_zero, Int.sub_self, Int.cast_ofNat_Int, Int.natCast_zero, Int.toNat_zero, List.take_zero, List.nil_append, List.length_append, List.length_nil]
  rfl
theorem rows {n m : Nat} (h1 : 1 ≤ n) (hn : n ≤ 23) (hm : m ≤ 400) : ∀ (k r : Nat) (q : List (List U)) (nn : Bool), r + k + 1 = m → q.length ≤ 47 * r → EndZ 33 ctR1 false (stOf (sA n m r ((n : Int) - 1) q nn)) (shE ((n : Int) + 1) (q ++ footR n (k + 1)) 0) [] 0
  | 0, r, q, nn, h, hq => by
    have l1 := aLoop (n := n) (m := m) (r := r) n q nn (by omega) (by omega)
    have l2 := bLoop (m := m) (r := r) (n := n) (by omega) n 0 (q ++ downR n ++ [wk bLLP 0]) (by omega) (by simp [downR_len]; omega)
    have e : q ++ footR n 1 = q ++ downR n ++ [wk bLLP 0] ++ upR 0 n := by unfold footR footR footL1; simp
    rw [e]
    exact .lead (l1.trans l2) (.done (bFin (by omega) (by omega) (by omega)))
  | k + 1, r, q, nn, h, hq => by
    have l1 := aLoop (n := n) (m := m) (r := r) n q nn (by omega) (by omega)
    have l2 := bLoop (m := m) (r := r) (n := n) (by omega) n 0 (q ++ downR n ++ [wk bLLP 0]) (by omega) (by simp [downR_len]; omega)
    have e : q ++ footR n (k + 1 + 1) = q ++ downR n ++ [wk bLLP 0] ++ upR 0 n ++ footR n (k + 1) := by
      show q ++ (footL1 n ++ footR n (k + 1)) = _
      unfold footL1; simp
    rw [e]
    exact .lead (l1.trans l2) (.at ctR1_ok (bNext (by omega) h1 (by omega) (by omega)) (rows h1 hn hm k (r + 1) _ true (by omega) (by simp [upR_len, downR_len]; omega)))
end MRFoot
noncomputable def footE (n m : Int) : Int := bc (decide (n < 1)) 7 (bc (decide (23 < n)) 7 (bc (decide (m < 1)) 7 (bc (decide (Int.tdiv 400 (2 * n + 1) < m)) 3 0)))
noncomputable def footP (n m : Int) : Int := bc (footE n m == 0) (n + 1) 0
noncomputable def footL (n m : Int) : List (List U) := bc (footE n m == 0) (footR n.toNat m.toNat) []
theorem MRFoot.ends (n m : Int) : EndZ 33 ctR1 false (st0 33 [iv n, iv m]) (shE (footP n m) (footL n m) (footE n m)) [] 0 := by
  have h := MRFoot.in_t n m
  unfold footP footL
  by_cases h1 : n < 1
  · have e : footE n m = 7 := by unfold footE; rw [dt h1, bc_t]
    rw [e]; simp only [dt h1, bc_t] at h; exact (EndZ.done h).weak (shN_weak 7)
  by_cases h2 : 23 < n
  · have e : footE n m = 7 := by unfold footE; rw [df h1, bc_f, dt h2, bc_t]
    rw [e]; simp only [df h1, dt h2, bc_t, bc_f] at h; exact (EndZ.done h).weak (shN_weak 7)
  by_cases h3 : m < 1
  · have e : footE n m = 7 := by unfold footE; rw [df h1, bc_f, df h2, bc_f, dt h3, bc_t]
    rw [e]; simp only [df h1, df h2, dt h3, bc_t, bc_f] at h; exact (EndZ.done h).weak (shN_weak 7)
  have g1 : 0 ≤ Int.tdiv 400 (2 * n + 1) := Int.tdiv_nonneg (by omega) (by omega)
  have g2 : Int.tdiv 400 (2 * n + 1) ≤ 400 := Int.tdiv_le_self _ (by omega)
  have g3 : (2 * n + 1 == 0) = false := by simp; omega
  have g4 : bnot (2 * n + 1 == 0) = true := by rw [g3]; rfl
  rw [wrap_in (2 * n) (by omega) (by omega), wrap_in (2 * n + 1) (by omega) (by omega), wrap_in (Int.tdiv 400 (2 * n + 1)) (by omega) (by omega)] at h
  by_cases h4 : Int.tdiv 400 (2 * n + 1) < m
  · have e : footE n m = 3 := by unfold footE; rw [df h1, bc_f, df h2, bc_f, df h3, bc_f, dt h4, bc_t]
    rw [e]; simp only [df h1, df h2, df h3, dt h4, g4, bc_t, bc_f] at h; exact (EndZ.done h).weak (shN_weak 3)
  have e : footE n m = 0 := by unfold footE; rw [df h1, bc_f, df h2, bc_f, df h3, bc_f, df h4, bc_f]
  rw [e]
  simp (disch := omega) only [df h1, df h2, df h3, df h4, g4, bc_t, bc_f, dt, wrap_in] at h
  obtain ⟨n', rfl⟩ : ∃ k : Nat, n = (k : Int) := ⟨n.toNat, by omega⟩
  obtain ⟨m', rfl⟩ : ∃ k : Nat, m = (k : Int) := ⟨m.toNat, by omega⟩
  have := MRFoot.rows (n := n') (m := m') (by omega) (by omega) (by omega) (m' - 1) 0 [] false (by omega) (by simp)
  rw [show m' - 1 + 1 = m' by omega, List.nil_append] at this
  exact .at ctR1_ok h this
end Go.Proofs.Ythaljeccdeajoaa.EvM
namespace Go.Proofs.Ythaljeccdeajoaa.EvM
open Go.Proofs Go.Proofs.Ythaljeccdeajoaa.Ev
theorem spRep_ok : ZCtOk Try.prog 80 spRepeat := spRepeat_ok Try.strings_Repeat
theorem spJo_ok : ZCtOk Try.prog 135 spJoin := spJoin_ok Try.strings_Join_none Try.strings_Join

noncomputable def upI (a : Int) : Nat → List Int
  | 0 => []
  | k + 1 => (a + 1) :: upI (a + 1) k
noncomputable def dnI (a : Int) : Nat → List Int
  | 0 => []
  | k + 1 => (a - 1) :: dnI (a - 1) k
noncomputable def wayL (a b : Int) : List Int := a :: bc (decide (a < b)) (upI a (b - a).toNat) (dnI a (a - b).toNat)
namespace MWay
noncomputable def RUN (s : ES) : ZF := RZ 77 .nil (atS 0 77 3) [] [[(1,none),(5,none),(6,none)]] false s

noncomputable def sD (n : Int) (i : Int) (q : List Int) : NS := ⟨[⟨77, 25, [(1, (EV.v (Value.int IntKind.i64 (n)))), (5, EV.slO 0 1 q.length true), (6, iv i)], [.it (.code (nav [1, 1, 0, 1, 0, 0, 0] (bodyOf Try.f77))), .it (.code (nav [1, 1, 0, 1, 0, 0, 1] (bodyOf Try.f77))), .it (.inLoop (nav [1, 1, 0, 1, 0, 0] (bodyOf Try.f77))), .it (.inBlock 0), .it (.code (nav [1, 1, 1] (bodyOf Try.f77)))], [], Option.none⟩], [(0, EK.seq 3 (.ints .i64 q) true)], 1⟩
theorem in_t (n m : Int) : RUN (st0 77 [iv n, iv m]) = (.at (sD (m) (n) (List.map (fun r => U.int (List.headD r (U.i (0 : Int)))) [[U.i n]]))) := by kernel_rfl
theorem step_t (n : Int) (i : Int) (q : List Int) : RUN (stOf (sD n i q)) = (bc (i != n) (bc (decide (i < n)) (bc (bc (Nat.beq (List.length q) (List.length q)) (bc (Nat.ble (List.length q + List.length (List.map (fun r => U.int (List.headD r (U.i (0 : Int)))) [[U.i (IntKind.wrap IntKind.i64 (i + (1 : Int)))]])) (65536 : Nat)) true false) false) (.at (sD (n) (IntKind.wrap IntKind.i64 (i + (1 : Int))) (q ++ List.map (fun r => U.int (List.headD r (U.i (0 : Int)))) [[U.i (IntKind.wrap IntKind.i64 (i + (1 : Int)))]]))) .bad) (bc (bc (Nat.beq (List.length q) (List.length q)) (bc (Nat.ble (List.length q + List.length (List.map (fun r => U.int (List.headD r (U.i (0 : Int)))) [[U.i (IntKind.wrap IntKind.i64 (i - (1 : Int)))]])) (65536 : Nat)) true false) false) (.at (sD (n) (IntKind.wrap IntKind.i64 (i - (1 : Int))) (q ++ List.map (fun r => U.int (List.headD r (U.i (0 : Int)))) [[U.i (IntKind.wrap IntKind.i64 (i - (1 : Int)))]]))) .bad)) (bc (Nat.beq (List.length q) (List.length q)) (.done (EV.lst (SyC.ints IntKind.i64 (q))) [] 0) .bad)) := by kernel_rfl
theorem up {n i : Int} {q : List Int} (h : i < n) (hi : -1000 ≤ i) (hn : n ≤ 1000) (hq : q.length ≤ 5000) : RUN (stOf (sD n i q)) = .at (sD n (i + 1) (q ++ [i + 1])) := by
  rw [step_t]
  have e : (i != n) = true := by simp; omega
  simp (disch := omega) only [Nat.add_eq, eqSy_self, eqN_self, bc_same, List.length_cons, ofn, wrap_in, dt, df, bltD, bltN, ble_of, bleN, beqD, bc_t, bc_f, nn_ok, Nat.zero_add, to_nat, Int.zero_add, Int.sub_zero, Int.sub_self, Int.cast_ofNat_Int, Int.natCast_zero, Int.toNat_zero, List.take_zero, List.nil_append, List.length_append, List.length_nil, e, List.length_map]
  rfl
theorem dn {n i : Int} {q : List Int} (h : n < i) (hi : i ≤ 1000) (hn : -1000 ≤ n) (hq : q.length ≤ 5000) : RUN (stOf (sD n i q)) = .at (sD n (i - 1) (q ++ [i - 1])) := by
  rw [step_t]
  have e : (i != n) = true := by simp; omega
  simp (disch := omega) only [Nat.add_eq, eqSy_self, eqN_self, bc_same, List.length_cons, ofn, wrap_in, dt, df, bltD, bltN, ble_of, bleN, beqD, bc_t, bc_f, nn_ok, Nat.zero_add, to_nat, Int.zero_add, Int.sub_zero, Int.sub_self, Int.cast_ofNat_Int, Int.natCast_zero, Int.toNat_zero, List.take_zero, List.nil_append, List.length_append, List.length_nil, e, List.length_map]
  rfl
theorem last {n : Int} {q : List Int} : RUN (stOf (sD n n q)) = .done (il q) [] 0 := by
  rw [step_t]
  have e : (n != n) = false := by simp
  simp (disch := omega) only [Nat.add_eq, eqSy_self, eqN_self, bc_same, List.length_cons, ofn, wrap_in, dt, df, bltD, bltN, ble_of, bleN, beqD, bc_t, bc_f, nn_ok, Nat.zero_add, to_nat, Int.zero_add, Int.sub_zero, Int.sub_self, Int.cast_ofNat_Int, Int.natCast_zero, Int.toNat_zero, List.take_zero, List.nil_append, List.length_append, List.length_nil, e]
theorem ups {n : Int} (hn : n ≤ 1000) : ∀ (k : Nat) (i : Int) (q : List Int), i + k = n → -1000 ≤ i → q.length + k ≤ 5000 → EndZ 77 .nil false (stOf (sD n i q)) (il (q ++ upI i k)) [] 0
  | 0, i, q, h, _, hq => by
    have : i = n := by omega
    subst this
    show EndZ _ _ _ _ (il (q ++ [])) _ _
    rw [List.append_nil]
    exact .done last
  | k + 1, i, q, h, hi, hq => by
    show EndZ _ _ _ _ (il (q ++ ((i + 1) :: upI (i + 1) k))) _ _
    rw [show q ++ (i + 1) :: upI (i + 1) k = (q ++ [i + 1]) ++ upI (i + 1) k by simp]
    exact .at (.nil _) (up (by omega) hi hn (by omega)) (ups hn k (i + 1) _ (by omega) (by omega) (by simp; omega))
theorem dns {n : Int} (hn : -1000 ≤ n) : ∀ (k : Nat) (i : Int) (q : List Int), i - k = n → i ≤ 1000 → q.length + k ≤ 5000 → EndZ 77 .nil false (stOf (sD n i q)) (il (q ++ dnI i k)) [] 0
  | 0, i, q, h, _, hq => by
    have : i = n := by omega
    subst this
    show EndZ _ _ _ _ (il (q ++ [])) _ _
    rw [List.append_nil]
    exact .done last
  | k + 1, i, q, h, hi, hq => by
    show EndZ _ _ _ _ (il (q ++ ((i - 1) :: dnI (i - 1) k))) _ _
    rw [show q ++ (i - 1) :: dnI (i - 1) k = (q ++ [i - 1]) ++ dnI (i - 1) k by simp]
    exact .at (.nil _) (dn (by omega) hi hn (by omega)) (dns hn k (i - 1) _ (by omega) (by omega) (by simp; omega))
theorem ends {a b : Int} (ha : -1000 ≤ a) (ha2 : a ≤ 1000) (hb : -1000 ≤ b) (hb2 : b ≤ 1000) : EndZ 77 .nil false (st0 77 [iv a, iv b]) (il (wayL a b)) [] 0 := by
  unfold wayL
  have h := in_t a b
  by_cases hab : a < b
  · rw [dt hab, bc_t]
    exact .at (.nil _) h (ups hb2 (b - a).toNat a [a] (by omega) ha (by simp; omega))
  · rw [df hab, bc_f]
    exact .at (.nil _) h (dns hb (a - b).toNat a [a] (by omega) ha2 (by simp; omega))
end MWay
noncomputable def spWay : ZCT := fun ax => match ax with
  | [.v (.int .i64 a), .v (.int .i64 b)] => some ⟨bc (decide (-1000 ≤ a)) (bc (decide (a ≤ 1000)) (bc (decide (-1000 ≤ b)) (decide (b ≤ 1000)) false) false) false, il (wayL a b), [], 0⟩
  | _ => none
theorem spWay_ok : ZCtOk Try.prog 77 spWay := fun γ w us ax r hs hc hax hN hfz => by
  unfold spWay at hs
  split at hs
  · rename_i a b
    obtain ⟨rfl⟩ := Option.some.inj hs
    obtain ⟨h1, hc⟩ := bcT (show bc (decide (-1000 ≤ a)) (bc (decide (a ≤ 1000)) (bc (decide (-1000 ≤ b)) (decide (b ≤ 1000)) false) false) false = true from hc)
    obtain ⟨h2, hc⟩ := bcT hc
    obtain ⟨h3, h4⟩ := bcT hc
    exact (MWay.ends (of_decide_eq_true h1) (of_decide_eq_true h2) (of_decide_eq_true h3) (of_decide_eq_true h4)).calls (.nil _) (by kernel_rfl) hax hN hfz
  · cases hs
noncomputable def ctP : Tr ZCC := ((Tr.nil.put 80 (some (dC spRepeat))).put 135 (some (dC spJoin))).put 77 (some (dC spWay))
theorem ctP_ok : ZCtsOk Try.prog ctP := (((ZCtsOk.nil _).add rfl spRep_ok).add rfl spJo_ok).add rfl spWay_ok
namespace MPic
noncomputable def RUN (s : ES) : ZF := RZ 28 ctP (fun _ => false) [] [] false s
theorem in_t (n : Int) : RUN (st0 28 [iv n]) = (bc (decide (n < (1 : Int))) (.done (EV.tup [(EV.v (Value.agg (Array.mk [(Value.int IntKind.i64 (0)), (Value.slice Option.none 0 0)]))), (EV.v (Value.int IntKind.i64 (7)))]) [] 0) (bc (decide ((7 : Int) < n)) (.done (EV.tup [(EV.v (Value.agg (Array.mk [(Value.int IntKind.i64 (0)), (Value.slice Option.none 0 0)]))), (EV.v (Value.int IntKind.i64 (7)))]) [] 0) (bc (bc (bc (decide ((0 : Int) ≤ n)) (bc (decide (n ≤ (65536 : Int))) (Nat.ble (ByteArray.size { data := #[(76 : UInt8)] }) (65536 : Nat)) false) false) true false) (bc (bc (Nat.ble (List.length (Lib.join (List.map (fun x => Array.toList (ByteArray.data x)) (List.map (fun r => U.str (List.headD r (U.i (0 : Int)))) [[U.s (zrep { data := #[(76 : UInt8)] } (Int.toNat n))], [U.s { data := #[(80 : UInt8)] }], [U.s (zrep { data := #[(76 : UInt8)] } (Int.toNat n))]])) [])) (65536 : Nat)) true false) (.done (EV.tup [(EV.agg [(EV.v (Value.int IntKind.i64 (2))), (EV.lst (SyC.recs [(Sh.int IntKind.i64), (Sh.int IntKind.i64), Sh.str] ([] ++ [[U.i (1 : Int), U.i (List.getD (List.map (fun r => U.int (List.headD r (U.i (0 : Int)))) [[U.i (0 : Int)]]) (Int.toNat (0 : Int)) (0 : Int)), U.s (zjoin (List.map (fun r => U.str (List.headD r (U.i (0 : Int)))) [[U.s (zrep { data := #[(76 : UInt8)] } (Int.toNat n))], [U.s { data := #[(80 : UInt8)] }], [U.s (zrep { data := #[(76 : UInt8)] } (Int.toNat n))]]) { data := #[] })]])))]), (EV.v (Value.int IntKind.i64 (0)))]) [] 0) .bad) .bad))) := by kernel_rfl
end MPic
namespace MWin
noncomputable def RUN (s : ES) : ZF := RZ 25 ctP (fun _ => false) [] [] false s
theorem in_t (u : Nat) : RUN (st0 25 []) = (.done (EV.agg [(EV.v (Value.int IntKind.i64 (4))), (EV.lst (SyC.recs [(Sh.int IntKind.i64), (Sh.int IntKind.i64), Sh.str] [[(U.i (1 : Int)), (U.i (List.getD (List.map (fun r => U.int (List.headD r (U.i (0 : Int)))) [[U.i (1 : Int)], [U.i (0 : Int)], [U.i (2 : Int)]]) (Int.toNat (0 : Int)) (0 : Int))), (U.s { data := #[(67 : UInt8), (84 : UInt8), (67 : UInt8)] })], [(U.i (1 : Int)), (U.i (List.getD (List.map (fun r => U.int (List.headD r (U.i (0 : Int)))) [[U.i (1 : Int)], [U.i (0 : Int)], [U.i (2 : Int)]]) (Int.toNat (IntKind.wrap IntKind.i64 ((0 : Int) + (1 : Int)))) (0 : Int))), (U.s { data := #[(67 : UInt8), (84 : UInt8), (67 : UInt8)] })], [(U.i (1 : Int)), (U.i (List.getD (List.map (fun r => U.int (List.headD r (U.i (0 : Int)))) [[U.i (1 : Int)], [U.i (0 : Int)], [U.i (2 : Int)]]) (Int.toNat (IntKind.wrap IntKind.i64 (IntKind.wrap IntKind.i64 ((0 : Int) + (1 : Int)) + (1 : Int)))) (0 : Int))), (U.s { data := #[(67 : UInt8), (84 : UInt8), (67 : UInt8)] })], [(U.i (1 : Int)), (U.i (List.getD (List.map (fun r => U.int (List.headD r (U.i (0 : Int)))) [[U.i (1 : Int)]]) (Int.toNat (0 : Int)) (0 : Int))), (U.s { data := #[(80 : UInt8)] })], [(U.i (1 : Int)), (U.i (List.getD (List.map (fun r => U.int (List.headD r (U.i (0 : Int)))) [[U.i (1 : Int)]]) (Int.toNat (0 : Int)) (0 : Int))), (U.s { data := #[(67 : UInt8), (84 : UInt8), (67 : UInt8)] })]]))]) [] 0) := by kernel_rfl
end MWin
namespace MSp

end MSp
end Go.Proofs.Ythaljeccdeajoaa.EvM
namespace Go.Proofs.Ythaljeccdeajoaa.EvM
open Go.Proofs Go.Proofs.Ythaljeccdeajoaa.Ev
namespace MWith

noncomputable def RT (s : ES) : ZF := RMs 1 75 .nil [(atS 0 75 1, [[(0,some (3, 76, .recs shW [])),(1,none),(8,none),(9,none),(10,none)]])] [] [] s

noncomputable def RO (s : ES) : ZF := RMs 2 75 .nil [(atS 0 75 1, [[(0,some (3, 76, .recs shW [])),(1,none),(8,none),(9,none),(10,none)]])] [] [] s
noncomputable abbrev pc (p : Int) : List EV := [iv p, .v (.slice none 0 0)]
noncomputable abbrev ps (p : Int) (j len : Nat) (nn : Bool) : List EV := [iv p, .slO j 3 len nn]

noncomputable def sT (p : Int) (w : ByteArray) (l : List Int) (i : Int) (q : List (List U)) (nn : Bool) : NS := ⟨[⟨75, 29, [(0, (EV.ptr 0 0)), (1, (EV.v (Value.string (w)))), (8, (EV.lst (SyC.ints IntKind.i64 (l)))), (9, (EV.v (Value.int IntKind.i64 (Int.ofNat (List.length l))))), (10, iv i)], [.it (.code (nav [1, 0, 0] (bodyOf Try.f75))), .it (.inLoop (nav [1, 0, 0] (bodyOf Try.f75))), .it (.inBlock 0)], [], Option.none⟩], [(0, EK.cells 87 (ps p 1 q.length nn) true), (1, EK.seq 76 (.recs shW q) nn)], 2⟩
theorem inTn (p : Int) (w : ByteArray) (l : List Int) : RT (st0m 75 [.ptr 0 0, sv w, il l] [(0, .cells 87 (pc p) true)] 1) = (.at (sT (p) (w) (l) ((0 : Int)) ([]) (false))) := by kernel_rfl
theorem inTs (p : Int) (w : ByteArray) (l : List Int) (q : List (List U)) (nn : Bool) : RT (st0m 75 [.ptr 0 0, sv w, il l] [(0, .cells 87 (ps p 1 q.length nn) true), (1, .seq 76 (.recs shW q) nn)] 2) = (.at (sT (p) (w) (l) ((0 : Int)) (q) (nn))) := by kernel_rfl
theorem stT (p : Int) (w : ByteArray) (l : List Int) (i : Int) (q : List (List U)) (nn : Bool) : RT (stOf (sT p w l i q nn)) = (bc (decide (i < Int.ofNat (List.length l)))
  (bc (bc (bc (decide ((0 : Int) ≤ i)) (Nat.blt (Int.toNat i) (List.length l)) false) true false)
    (bc (bc (Nat.blt (Int.toNat i) (List.length l)) true false)
      (bc (bc (Nat.beq (List.length q) (List.length q)) (bc (Nat.ble (List.length q + List.length [[U.i (1 : Int), U.i (List.getD l (Int.toNat i) (0 : Int)), U.s w]]) (65536 : Nat)) (bc nn true (bc nn false true)) false) false)
        (.at (sT (p) (w) (l) (IntKind.wrap IntKind.i64 (i + (1 : Int))) (q ++ [[U.i (1 : Int), U.i (List.getD l (Int.toNat i) (0 : Int)), U.s w]]) (bc nn true (Nat.blt (0 : Nat) (List.length [[U.i (1 : Int), U.i (List.getD l (Int.toNat i) (0 : Int)), U.s w]])))))
        .bad)
      .bad)
    .bad)
  (.done (EV.tup []) [(0, (EK.cells 87 [(EV.v (Value.int IntKind.i64 (p))), (EV.slO 1 3 (List.length q) (nn))] true)), (1, (EK.seq 76 (SyC.recs [(Sh.int IntKind.i64), (Sh.int IntKind.i64), Sh.str] (q)) (nn)))] 2)) := by kernel_rfl

noncomputable def sO (p : Int) (w : ByteArray) (l : List Int) (i : Int) (q : List (List U)) (nn : Bool) : NS := ⟨[⟨75, 29, [(0, (EV.ptr 0 0)), (1, (EV.v (Value.string (w)))), (8, (EV.slO 1 1 (List.length l) true)), (9, (EV.v (Value.int IntKind.i64 (Int.ofNat (List.length l))))), (10, iv i)], [.it (.code (nav [1, 0, 0] (bodyOf Try.f75))), .it (.inLoop (nav [1, 0, 0] (bodyOf Try.f75))), .it (.inBlock 0)], [], Option.none⟩], [(0, EK.cells 87 (ps p 2 q.length nn) true), (1, (EK.seq 3 (SyC.ints IntKind.i64 (l)) true)), (2, EK.seq 76 (.recs shW q) nn)], 3⟩
theorem inOn (p : Int) (w : ByteArray) (l : List Int) : RO (st0m 75 [.ptr 0 0, sv w, .slO 1 1 l.length true] [(0, .cells 87 (pc p) true), (1, .seq 3 (.ints .i64 l) true)] 2) = (.at (sO (p) (w) (l) ((0 : Int)) ([]) (false))) := by kernel_rfl
theorem inOs (p : Int) (w : ByteArray) (l : List Int) (q : List (List U)) (nn : Bool) : RO (st0m 75 [.ptr 0 0, sv w, .slO 1 1 l.length true] [(0, .cells 87 (ps p 2 q.length nn) true), (1, .seq 3 (.ints .i64 l) true), (2, .seq 76 (.recs shW q) nn)] 3) = (.at (sO (p) (w) (l) ((0 : Int)) (q) (nn))) := by kernel_rfl
theorem stO (p : Int) (w : ByteArray) (l : List Int) (i : Int) (q : List (List U)) (nn : Bool) : RO (stOf (sO p w l i q nn)) = (bc (decide (i < Int.ofNat (List.length l)))
  (bc (bc (bc (decide ((0 : Int) ≤ i)) (Nat.blt (Int.toNat i) (List.length l)) false) true false)
    (bc (bc (Nat.blt (Int.toNat i) (List.length l)) true false)
      (bc (bc (Nat.beq (List.length q) (List.length q)) (bc (Nat.ble (List.length q + List.length [[U.i (1 : Int), U.i (List.getD l (Int.toNat i) (0 : Int)), U.s w]]) (65536 : Nat)) (bc nn true (bc nn false true)) false) false)
        (.at (sO (p) (w) (l) (IntKind.wrap IntKind.i64 (i + (1 : Int))) (q ++ [[U.i (1 : Int), U.i (List.getD l (Int.toNat i) (0 : Int)), U.s w]]) (bc nn true (Nat.blt (0 : Nat) (List.length [[U.i (1 : Int), U.i (List.getD l (Int.toNat i) (0 : Int)), U.s w]])))))
        .bad)
      .bad)
    .bad)
  (.done (EV.tup []) [(0, (EK.cells 87 [(EV.v (Value.int IntKind.i64 (p))), (EV.slO 2 3 (List.length q) (nn))] true)), (1, (EK.seq 3 (SyC.ints IntKind.i64 (l)) true)), (2, (EK.seq 76 (SyC.recs [(Sh.int IntKind.i64), (Sh.int IntKind.i64), Sh.str] (q)) (nn)))] 3)) := by kernel_rfl
theorem stepT {p : Int} {w : ByteArray} {l : List Int} {i : Nat} {q : List (List U)} {nn : Bool} (hi : i < l.length) (hl : l.length ≤ 60000) (hq : q.length < 65536) : RT (stOf (sT p w l i q nn)) = .at (sT p w l (i + 1 : Nat) (q ++ [wk w l[i]]) true) := by
  rw [stT]
  have e : l.getD i 0 = l[i] := getD_at hi
  simp (disch := omega) only [Nat.add_eq, eqSy_self, eqN_self, bc_same, List.length_cons, ofn, wrap_in, dt, df, bltD, bltN, ble_of, bleN, beqD, bc_t, bc_f, nn_ok, Nat.zero_add, to_nat, Int.zero_add, Int.sub_zero, Int.sub_self, Int.cast_ofNat_Int, Int.natCast_zero, Int.toNat_zero, List.take_zero, List.nil_append, List.length_append, List.length_nil, e]
  rfl
noncomputable abbrev KT (p : Int) (l : List Int) (q : List (List U)) (nn : Bool) : List (Nat × EK) := [(0, .cells 87 (ps p 1 q.length nn) true), (1, .seq 76 (.recs shW q) nn)]
theorem lastT {p : Int} {w : ByteArray} {l : List Int} {i : Nat} {q : List (List U)} {nn : Bool} (hi : l.length ≤ i) : RT (stOf (sT p w l i q nn)) = .done (.tup []) (KT p l q nn) 2 := by
  rw [stT]
  simp (disch := omega) only [Nat.add_eq, eqSy_self, eqN_self, bc_same, List.length_cons, ofn, wrap_in, dt, df, bltD, bltN, ble_of, bleN, beqD, bc_t, bc_f, nn_ok, Nat.zero_add, to_nat, Int.zero_add, Int.sub_zero, Int.sub_self, Int.cast_ofNat_Int, Int.natCast_zero, Int.toNat_zero, List.take_zero, List.nil_append, List.length_append, List.length_nil]
  rfl
theorem loopT {p : Int} {w : ByteArray} {l : List Int} (hl : l.length ≤ 60000) : ∀ (k i : Nat) (q : List (List U)) (nn : Bool), i + k = l.length → q.length + k < 65536 → EndM 1 75 .nil (stOf (sT p w l i q nn)) (.tup []) (KT p l (q ++ (l.drop i).map (wk w)) (bc nn true (Nat.blt 0 k))) 2
  | 0, i, q, nn, h, hq => by
    rw [List.drop_eq_nil_of_le (by omega), List.map_nil, List.append_nil, show bc nn true (Nat.blt 0 0) = nn by cases nn <;> rfl]
    exact .done (lastT (by omega))
  | k + 1, i, q, nn, h, hq => by
    have hi : i < l.length := by omega
    rw [List.drop_eq_getElem_cons hi, List.map_cons, show q ++ wk w l[i] :: (l.drop (i + 1)).map (wk w) = (q ++ [wk w l[i]]) ++ (l.drop (i + 1)).map (wk w) by simp, show bc nn true (Nat.blt 0 (k + 1)) = bc true true (Nat.blt 0 k) by cases nn <;> rfl]
    exact .at (.nil _) (stepT hi hl (by omega)) (loopT hl k (i + 1) _ true (by omega) (by rw [List.length_append]; simp only [List.length_cons, List.length_nil]; omega))
theorem stepO {p : Int} {w : ByteArray} {l : List Int} {i : Nat} {q : List (List U)} {nn : Bool} (hi : i < l.length) (hl : l.length ≤ 60000) (hq : q.length < 65536) : RO (stOf (sO p w l i q nn)) = .at (sO p w l (i + 1 : Nat) (q ++ [wk w l[i]]) true) := by
  rw [stO]
  have e : l.getD i 0 = l[i] := getD_at hi
  simp (disch := omega) only [Nat.add_eq, eqSy_self, eqN_self, bc_same, List.length_cons, ofn, wrap_in, dt, df, bltD, bltN, ble_of, bleN, beqD, bc_t, bc_f, nn_ok, Nat.zero_add, to_nat, Int.zero_add, Int.sub_zero, Int.sub_self, Int.cast_ofNat_Int, Int.natCast_zero, Int.toNat_zero, List.take_zero, List.nil_append, List.length_append, List.length_nil, e]
  rfl
noncomputable abbrev KO (p : Int) (l : List Int) (q : List (List U)) (nn : Bool) : List (Nat × EK) := [(0, .cells 87 (ps p 2 q.length nn) true), (1, .seq 3 (.ints .i64 l) true), (2, .seq 76 (.recs shW q) nn)]
theorem lastO {p : Int} {w : ByteArray} {l : List Int} {i : Nat} {q : List (List U)} {nn : Bool} (hi : l.length ≤ i) : RO (stOf (sO p w l i q nn)) = .done (.tup []) (KO p l q nn) 3 := by
  rw [stO]
  simp (disch := omega) only [Nat.add_eq, eqSy_self, eqN_self, bc_same, List.length_cons, ofn, wrap_in, dt, df, bltD, bltN, ble_of, bleN, beqD, bc_t, bc_f, nn_ok, Nat.zero_add, to_nat, Int.zero_add, Int.sub_zero, Int.sub_self, Int.cast_ofNat_Int, Int.natCast_zero, Int.toNat_zero, List.take_zero, List.nil_append, List.length_append, List.length_nil]
  rfl
theorem loopO {p : Int} {w : ByteArray} {l : List Int} (hl : l.length ≤ 60000) : ∀ (k i : Nat) (q : List (List U)) (nn : Bool), i + k = l.length → q.length + k < 65536 → EndM 2 75 .nil (stOf (sO p w l i q nn)) (.tup []) (KO p l (q ++ (l.drop i).map (wk w)) (bc nn true (Nat.blt 0 k))) 3
  | 0, i, q, nn, h, hq => by
    rw [List.drop_eq_nil_of_le (by omega), List.map_nil, List.append_nil, show bc nn true (Nat.blt 0 0) = nn by cases nn <;> rfl]
    exact .done (lastO (by omega))
  | k + 1, i, q, nn, h, hq => by
    have hi : i < l.length := by omega
    rw [List.drop_eq_getElem_cons hi, List.map_cons, show q ++ wk w l[i] :: (l.drop (i + 1)).map (wk w) = (q ++ [wk w l[i]]) ++ (l.drop (i + 1)).map (wk w) by simp, show bc nn true (Nat.blt 0 (k + 1)) = bc true true (Nat.blt 0 k) by cases nn <;> rfl]
    exact .at (.nil _) (stepO hi hl (by omega)) (loopO hl k (i + 1) _ true (by omega) (by rw [List.length_append]; simp only [List.length_cons, List.length_nil]; omega))
end MWith
open MWith in
noncomputable def spWith : ZMT := fun ax K0 m => match ax with
  | [.ptr 0 0, .v (.string w), .lst (.ints .i64 l)] => match K0 with
    | [(0, .cells 87 [.v (.int .i64 p), .v (.slice none 0 0)] true)] => bc (Nat.beq m 1) (some ⟨Nat.ble l.length 60000, .tup [], KT p l ([] ++ l.map (wk w)) (bc false true (Nat.blt 0 l.length)), 2, 1⟩) none
    | [(0, .cells 87 [.v (.int .i64 p), .slO 1 3 len nn] true), (1, .seq 76 (.recs [.int .i64, .int .i64, .str] q) nn2)] => bc (Nat.beq m 2) (some ⟨bc (Nat.beq len q.length) (bc (eqN nn nn2) (bc (Nat.ble l.length 60000) (Nat.blt (Nat.add q.length l.length) 65536) false) false) false, .tup [], KT p l (q ++ l.map (wk w)) (bc nn2 true (Nat.blt 0 l.length)), 2, 1⟩) none
    | _ => none
  | [.ptr 0 0, .v (.string w), .slO 1 1 len1 n1] => match K0 with
    | [(0, .cells 87 [.v (.int .i64 p), .v (.slice none 0 0)] true), (1, .seq 3 (.ints .i64 l) n2)] => bc (Nat.beq m 2) (some ⟨bc n1 (bc n2 (bc (Nat.beq len1 l.length) (Nat.ble l.length 60000) false) false) false, .tup [], KO p l ([] ++ l.map (wk w)) (bc false true (Nat.blt 0 l.length)), 3, 2⟩) none
    | [(0, .cells 87 [.v (.int .i64 p), .slO 2 3 len nn] true), (1, .seq 3 (.ints .i64 l) n2), (2, .seq 76 (.recs [.int .i64, .int .i64, .str] q) nn2)] => bc (Nat.beq m 3) (some ⟨bc n1 (bc n2 (bc (Nat.beq len1 l.length) (bc (Nat.beq len q.length) (bc (eqN nn nn2) (bc (Nat.ble l.length 60000) (Nat.blt (Nat.add q.length l.length) 65536) false) false) false) false) false) false, .tup [], KO p l (q ++ l.map (wk w)) (bc nn2 true (Nat.blt 0 l.length)), 3, 2⟩) none
    | _ => none
  | _ => none
open MWith in
theorem spWith_ok : ZMtOk Try.prog 75 spWith := fun γ w0 w us ax K0 m r hs hc hres hax hH => by
  have noN : ∀ {x : ZMR} {b : Bool}, bc b (some x) none = some r → b = true ∧ x = r := fun {x b} h => by
    cases b
    · cases h
    · exact ⟨rfl, Option.some.inj h⟩
  unfold spWith at hs
  split at hs
  · rename_i wd l
    split at hs
    · rename_i p
      obtain ⟨hm, rfl⟩ := noN hs
      have hm := Nat.eq_of_beq_eq_true hm
      subst hm
      have hl := Nat.le_of_ble_eq_true hc
      have g : EndM 1 75 .nil (st0m 75 [.ptr 0 0, sv wd, il l] [(0, .cells 87 (pc p) true)] 1) (.tup []) (KT p l ([] ++ l.map (wk wd)) (bc false true (Nat.blt 0 l.length))) 2 := .at (.nil _) (inTn p wd l) (loopT hl l.length 0 [] false (by omega) (by simp only [List.length_nil]; omega))
      exact g.calls (.nil _) (by kernel_rfl) hres hax hH
    · rename_i p len nn q nn2
      obtain ⟨hm, rfl⟩ := noN hs
      have hm := Nat.eq_of_beq_eq_true hm
      subst hm
      obtain ⟨h1, hc⟩ := bcT (show bc (Nat.beq len q.length) (bc (eqN nn nn2) (bc (Nat.ble l.length 60000) (Nat.blt (Nat.add q.length l.length) 65536) false) false) false = true from hc)
      obtain ⟨h2, hc⟩ := bcT hc
      obtain ⟨h3, h4⟩ := bcT hc
      have h1 := Nat.eq_of_beq_eq_true h1
      have h2 := eqN_ok h2
      subst h1; subst h2
      have h3 := Nat.le_of_ble_eq_true h3
      have h4 : q.length + l.length < 65536 := blt_lt h4
      have g : EndM 1 75 .nil (st0m 75 [.ptr 0 0, sv wd, il l] [(0, .cells 87 (ps p 1 q.length nn) true), (1, .seq 76 (.recs shW q) nn)] 2) (.tup []) (KT p l (q ++ l.map (wk wd)) (bc nn true (Nat.blt 0 l.length))) 2 := .at (.nil _) (inTs p wd l q nn) (loopT h3 l.length 0 q nn (by omega) (by omega))
      exact g.calls (.nil _) (by kernel_rfl) hres hax hH
    · cases hs
  · rename_i wd len1 n1
    split at hs
    · rename_i p l n2
      obtain ⟨hm, rfl⟩ := noN hs
      have hm := Nat.eq_of_beq_eq_true hm
      subst hm
      obtain ⟨h1, hc⟩ := bcT (show bc n1 (bc n2 (bc (Nat.beq len1 l.length) (Nat.ble l.length 60000) false) false) false = true from hc)
      obtain ⟨h2, hc⟩ := bcT hc
      obtain ⟨h3, h4⟩ := bcT hc
      have h3 := Nat.eq_of_beq_eq_true h3
      subst h1; subst h2; subst h3
      have h4 := Nat.le_of_ble_eq_true h4
      have g : EndM 2 75 .nil (st0m 75 [.ptr 0 0, sv wd, .slO 1 1 l.length true] [(0, .cells 87 (pc p) true), (1, .seq 3 (.ints .i64 l) true)] 2) (.tup []) (KO p l ([] ++ l.map (wk wd)) (bc false true (Nat.blt 0 l.length))) 3 := .at (.nil _) (inOn p wd l) (loopO h4 l.length 0 [] false (by omega) (by simp only [List.length_nil]; omega))
      exact g.calls (.nil _) (by kernel_rfl) hres hax hH
    · rename_i p len nn l n2 q nn2
      obtain ⟨hm, rfl⟩ := noN hs
      have hm := Nat.eq_of_beq_eq_true hm
      subst hm
      obtain ⟨h1, hc⟩ := bcT (show bc n1 (bc n2 (bc (Nat.beq len1 l.length) (bc (Nat.beq len q.length) (bc (eqN nn nn2) (bc (Nat.ble l.length 60000) (Nat.blt (Nat.add q.length l.length) 65536) false) false) false) false) false) false = true from hc)
      obtain ⟨h2, hc⟩ := bcT hc
      obtain ⟨h3, hc⟩ := bcT hc
      obtain ⟨h4, hc⟩ := bcT hc
      obtain ⟨h5, hc⟩ := bcT hc
      obtain ⟨h6, h7⟩ := bcT hc
      have h3 := Nat.eq_of_beq_eq_true h3
      have h4 := Nat.eq_of_beq_eq_true h4
      have h5 := eqN_ok h5
      subst h1; subst h2; subst h3; subst h4; subst h5
      have h6 := Nat.le_of_ble_eq_true h6
      have h7 : q.length + l.length < 65536 := blt_lt h7
      have g : EndM 2 75 .nil (st0m 75 [.ptr 0 0, sv wd, .slO 1 1 l.length true] [(0, .cells 87 (ps p 2 q.length nn) true), (1, .seq 3 (.ints .i64 l) true), (2, .seq 76 (.recs shW q) nn)] 3) (.tup []) (KO p l (q ++ l.map (wk wd)) (bc nn true (Nat.blt 0 l.length))) 3 := .at (.nil _) (inOs p wd l q nn) (loopO h6 l.length 0 q nn (by omega) (by omega))
      exact g.calls (.nil _) (by kernel_rfl) hres hax hH
    · cases hs
  · cases hs
noncomputable def ctW : Tr ZCC := ctP.put 75 (some (mC spWith))
theorem ctW_ok : ZCtsOk Try.prog ctW := ctP_ok.addM rfl spWith_ok
end Go.Proofs.Ythaljeccdeajoaa.EvM
namespace Go.Proofs.Ythaljeccdeajoaa.EvM
open Go.Proofs Go.Proofs.Ythaljeccdeajoaa.Ev
namespace MTw
noncomputable def R (s : ES) : ZF := RMs 4 79 ctW [(atS 0 79 1, [[(0,none),(1,none),(2,none),(3,none)]])] [] [(3, 3, 76, .recs shW [])] s
noncomputable abbrev K0 (t n p : Int) (x : EV) (r : List (Nat × EK)) : List (Nat × EK) := [(0, .cells 3 [iv t] true), (1, .cells 3 [iv n] true), (2, .cells 85 [.ptr 3 0] true), (3, .cells 87 [iv p, x] true)] ++ r
noncomputable abbrev ax : List EV := [.ptr 0 0, .ptr 1 0, .ptr 2 0]

noncomputable def sN (t n p i : Int) : NS := ⟨[⟨79, 20, [(0, (EV.ptr 0 0)), (1, (EV.ptr 1 0)), (2, (EV.ptr 2 0)), (3, iv i)], [.it (.code (nav [1, 0, 0, 0] (bodyOf Try.f79))), .it (.code (nav [1, 0, 0, 1] (bodyOf Try.f79))), .it (.inLoop (nav [1, 0, 0] (bodyOf Try.f79))), .it (.inBlock 0)], [], Option.none⟩], [(0, (EK.cells 3 [(EV.v (Value.int IntKind.i64 (t)))] true)), (1, (EK.cells 3 [(EV.v (Value.int IntKind.i64 (n)))] true)), (2, (EK.cells 85 [(EV.ptr 3 0)] true)), (3, (EK.cells 87 [(EV.v (Value.int IntKind.i64 (p))), (EV.v (Value.slice Option.none 0 0))] true))], 4⟩
noncomputable def sS (t n p i : Int) (q : List (List U)) (nn : Bool) : NS := ⟨[⟨79, 20, [(0, (EV.ptr 0 0)), (1, (EV.ptr 1 0)), (2, (EV.ptr 2 0)), (3, iv i)], [.it (.code (nav [1, 0, 0, 0] (bodyOf Try.f79))), .it (.code (nav [1, 0, 0, 1] (bodyOf Try.f79))), .it (.inLoop (nav [1, 0, 0] (bodyOf Try.f79))), .it (.inBlock 0)], [], Option.none⟩], [(0, (EK.cells 3 [(EV.v (Value.int IntKind.i64 (t)))] true)), (1, (EK.cells 3 [(EV.v (Value.int IntKind.i64 (n)))] true)), (2, (EK.cells 85 [(EV.ptr 3 0)] true)), (3, (EK.cells 87 [(EV.v (Value.int IntKind.i64 (p))), (EV.slO 4 3 (List.length q) (nn))] true)), (4, (EK.seq 76 (SyC.recs [(Sh.int IntKind.i64), (Sh.int IntKind.i64), Sh.str] (q)) (nn)))], 5⟩
theorem inN (t n p : Int) : R (st0m 79 ax (K0 t n p (.v (.slice none 0 0)) []) 4) = (.at (sN (t) (n) (p) ((0 : Int)))) := by kernel_rfl
theorem inS (t n p : Int) (q : List (List U)) (nn : Bool) : R (st0m 79 ax (K0 t n p (.slO 4 3 q.length nn) [(4, .seq 76 (.recs shW q) nn)]) 5) = (.at (sS (t) (n) (p) ((0 : Int)) (q) (nn))) := by kernel_rfl
theorem stN (t n p i : Int) : R (stOf (sN t n p i)) = (bc (decide ((0 : Int) < t))
  (bc (decide (i < n))
    (bc (bc (bc (bc (bc (decide ((0 : Int) ≤ t)) (bc (decide (t ≤ (65536 : Int))) (Nat.ble (ByteArray.size { data := #[(84 : UInt8)] }) (65536 : Nat)) false) false) true false) true false) true false)
      (.at (sS (t) (n) (p) (IntKind.wrap IntKind.i64 (i + (1 : Int))) ([] ++ List.map (wk (zrep { data := #[(84 : UInt8)] } (Int.toNat t))) (List.map (fun r => U.int (List.headD r (U.i (0 : Int)))) [[U.i (IntKind.wrap IntKind.i64 ((2 : Int) * i))]])) (Nat.blt (0 : Nat) (List.length (List.map (fun r => U.int (List.headD r (U.i (0 : Int)))) [[U.i (IntKind.wrap IntKind.i64 ((2 : Int) * i))]])))))
      .bad)
    (.done (EV.tup []) [(0, (EK.cells 3 [(EV.v (Value.int IntKind.i64 (t)))] true)), (1, (EK.cells 3 [(EV.v (Value.int IntKind.i64 (n)))] true)), (2, (EK.cells 85 [(EV.ptr 3 0)] true)), (3, (EK.cells 87 [(EV.v (Value.int IntKind.i64 (p))), (EV.slO 4 3 0 false)] true)), (4, (EK.seq 76 (SyC.recs [(Sh.int IntKind.i64), (Sh.int IntKind.i64), Sh.str] []) false))] 5))
  (.done (EV.tup []) [(0, (EK.cells 3 [(EV.v (Value.int IntKind.i64 (t)))] true)), (1, (EK.cells 3 [(EV.v (Value.int IntKind.i64 (n)))] true)), (2, (EK.cells 85 [(EV.ptr 3 0)] true)), (3, (EK.cells 87 [(EV.v (Value.int IntKind.i64 (p))), (EV.slO 4 3 0 false)] true)), (4, (EK.seq 76 (SyC.recs [(Sh.int IntKind.i64), (Sh.int IntKind.i64), Sh.str] []) false))] 5)) := by kernel_rfl
theorem stS (t n p i : Int) (q : List (List U)) (nn : Bool) : R (stOf (sS t n p i q nn)) = (bc (decide ((0 : Int) < t))
  (bc (decide (i < n))
    (bc (bc (bc (bc (bc (decide ((0 : Int) ≤ t)) (bc (decide (t ≤ (65536 : Int))) (Nat.ble (ByteArray.size { data := #[(84 : UInt8)] }) (65536 : Nat)) false) false) true false) (bc (bc (bc (Nat.beq (List.length q) (List.length q)) (bc (eqN nn nn) (Nat.blt (Nat.add (List.length q) (List.length (List.map (fun r => U.int (List.headD r (U.i (0 : Int)))) [[U.i (IntKind.wrap IntKind.i64 ((2 : Int) * i))]]))) (65536 : Nat)) false) false) true false) true false) false) true false)
      (.at (sS (t) (n) (p) (IntKind.wrap IntKind.i64 (i + (1 : Int))) (q ++ List.map (wk (zrep { data := #[(84 : UInt8)] } (Int.toNat t))) (List.map (fun r => U.int (List.headD r (U.i (0 : Int)))) [[U.i (IntKind.wrap IntKind.i64 ((2 : Int) * i))]])) (bc nn true (Nat.blt (0 : Nat) (List.length (List.map (fun r => U.int (List.headD r (U.i (0 : Int)))) [[U.i (IntKind.wrap IntKind.i64 ((2 : Int) * i))]]))))))
      .bad)
    (.done (EV.tup []) [(0, (EK.cells 3 [(EV.v (Value.int IntKind.i64 (t)))] true)), (1, (EK.cells 3 [(EV.v (Value.int IntKind.i64 (n)))] true)), (2, (EK.cells 85 [(EV.ptr 3 0)] true)), (3, (EK.cells 87 [(EV.v (Value.int IntKind.i64 (p))), (EV.slO 4 3 (List.length q) (nn))] true)), (4, (EK.seq 76 (SyC.recs [(Sh.int IntKind.i64), (Sh.int IntKind.i64), Sh.str] (q)) (nn)))] 5))
  (.done (EV.tup []) [(0, (EK.cells 3 [(EV.v (Value.int IntKind.i64 (t)))] true)), (1, (EK.cells 3 [(EV.v (Value.int IntKind.i64 (n)))] true)), (2, (EK.cells 85 [(EV.ptr 3 0)] true)), (3, (EK.cells 87 [(EV.v (Value.int IntKind.i64 (p))), (EV.slO 4 3 (List.length q) (nn))] true)), (4, (EK.seq 76 (SyC.recs [(Sh.int IntKind.i64), (Sh.int IntKind.i64), Sh.str] (q)) (nn)))] 5)) := by kernel_rfl

noncomputable def twQ (t : Int) (i : Nat) : Nat → List (List U)
  | 0 => []
  | m + 1 => wk (zrep bT t.toNat) (2 * (i : Int)) :: twQ t (i + 1) m
noncomputable abbrev KT (t n p : Int) (q : List (List U)) (nn : Bool) : List (Nat × EK) := K0 t n p (.slO 4 3 q.length nn) [(4, .seq 76 (.recs shW q) nn)]
theorem goS {t n p : Int} {i : Nat} {q : List (List U)} {nn : Bool} (ht : 0 < t) (ht2 : t ≤ 100) (hi : (i : Int) < n) (hn : n ≤ 100) (hq : q.length ≤ 1000) : R (stOf (sS t n p i q nn)) = .at (sS t n p (i + 1 : Nat) (q ++ [wk (zrep bT t.toNat) (2 * (i : Int))]) true) := by
  rw [stS]
  have e1 : (ByteArray.mk #[84]).size = 1 := rfl
  simp (disch := omega) only [Nat.add_eq, eqSy_self, eqN_self, bc_same, List.length_cons, ofn, wrap_in, dt, df, bltD, bltN, ble_of, bleN, beqD, bc_t, bc_f, nn_ok, Nat.zero_add, to_nat, Int.zero_add, Int.sub_zero, Int.sub_self, Int.cast_ofNat_Int, Int.natCast_zero, Int.toNat_zero, List.take_zero, List.nil_append, List.length_append, List.length_nil, e1, List.map_cons, List.map_nil, dt ht, dt hi]
  rfl
theorem goN {t n p : Int} {i : Nat} (ht : 0 < t) (ht2 : t ≤ 100) (hi : (i : Int) < n) (hn : n ≤ 100) : R (stOf (sN t n p i)) = .at (sS t n p (i + 1 : Nat) [wk (zrep bT t.toNat) (2 * (i : Int))] true) := by
  rw [stN]
  have e1 : (ByteArray.mk #[84]).size = 1 := rfl
  simp (disch := omega) only [Nat.add_eq, eqSy_self, eqN_self, bc_same, List.length_cons, ofn, wrap_in, dt, df, bltD, bltN, ble_of, bleN, beqD, bc_t, bc_f, nn_ok, Nat.zero_add, to_nat, Int.zero_add, Int.sub_zero, Int.sub_self, Int.cast_ofNat_Int, Int.natCast_zero, Int.toNat_zero, List.take_zero, List.nil_append, List.length_append, List.length_nil, e1, List.map_cons, List.map_nil, dt ht, dt hi]
  rfl
theorem finS {t n p : Int} {i : Nat} {q : List (List U)} {nn : Bool} (h : t ≤ 0 ∨ n ≤ (i : Int)) : R (stOf (sS t n p i q nn)) = .done (.tup []) (KT t n p q nn) 5 := by
  rw [stS]
  by_cases ht : 0 < t
  · simp (disch := omega) only [Nat.add_eq, eqSy_self, eqN_self, bc_same, List.length_cons, ofn, wrap_in, dt, df, bltD, bltN, ble_of, bleN, beqD, bc_t, bc_f, nn_ok, Nat.zero_add, to_nat, Int.zero_add, Int.sub_zero, Int.sub_self, Int.cast_ofNat_Int, Int.natCast_zero, Int.toNat_zero, List.take_zero, List.nil_append, List.length_append, List.length_nil, dt ht, df (show ¬ (i : Int) < n by omega)]
    rfl
  · simp (disch := omega) only [Nat.add_eq, eqSy_self, eqN_self, bc_same, List.length_cons, ofn, wrap_in, dt, df, bltD, bltN, ble_of, bleN, beqD, bc_t, bc_f, nn_ok, Nat.zero_add, to_nat, Int.zero_add, Int.sub_zero, Int.sub_self, Int.cast_ofNat_Int, Int.natCast_zero, Int.toNat_zero, List.take_zero, List.nil_append, List.length_append, List.length_nil, df ht]
    rfl
theorem finN {t n p : Int} {i : Nat} (h : t ≤ 0 ∨ n ≤ (i : Int)) : R (stOf (sN t n p i)) = .done (.tup []) (KT t n p [] false) 5 := by
  rw [stN]
  by_cases ht : 0 < t
  · simp (disch := omega) only [Nat.add_eq, eqSy_self, eqN_self, bc_same, List.length_cons, ofn, wrap_in, dt, df, bltD, bltN, ble_of, bleN, beqD, bc_t, bc_f, nn_ok, Nat.zero_add, to_nat, Int.zero_add, Int.sub_zero, Int.sub_self, Int.cast_ofNat_Int, Int.natCast_zero, Int.toNat_zero, List.take_zero, List.nil_append, List.length_append, List.length_nil, dt ht, df (show ¬ (i : Int) < n by omega)]
    rfl
  · simp (disch := omega) only [Nat.add_eq, eqSy_self, eqN_self, bc_same, List.length_cons, ofn, wrap_in, dt, df, bltD, bltN, ble_of, bleN, beqD, bc_t, bc_f, nn_ok, Nat.zero_add, to_nat, Int.zero_add, Int.sub_zero, Int.sub_self, Int.cast_ofNat_Int, Int.natCast_zero, Int.toNat_zero, List.take_zero, List.nil_append, List.length_append, List.length_nil, df ht]
    rfl
theorem loopS {t n p : Int} (ht : 0 < t) (ht2 : t ≤ 100) (hn : n ≤ 100) : ∀ (k i : Nat) (q : List (List U)) (nn : Bool), (i : Int) + k = n → q.length + k ≤ 1000 → EndM 4 79 ctW (stOf (sS t n p i q nn)) (.tup []) (KT t n p (q ++ twQ t i k) (bc nn true (Nat.blt 0 k))) 5
  | 0, i, q, nn, h, hq => by
    rw [show twQ t i 0 = [] from rfl, List.append_nil, show bc nn true (Nat.blt 0 0) = nn by cases nn <;> rfl]
    exact .done (finS (by omega))
  | k + 1, i, q, nn, h, hq => by
    rw [show twQ t i (k + 1) = wk (zrep bT t.toNat) (2 * (i : Int)) :: twQ t (i + 1) k from rfl, show q ++ wk (zrep bT t.toNat) (2 * (i : Int)) :: twQ t (i + 1) k = (q ++ [wk (zrep bT t.toNat) (2 * (i : Int))]) ++ twQ t (i + 1) k by simp, show bc nn true (Nat.blt 0 (k + 1)) = bc true true (Nat.blt 0 k) by cases nn <;> rfl]
    exact .at ctW_ok (goS ht ht2 (by omega) hn (by omega)) (loopS ht ht2 hn k (i + 1) _ true (by omega) (by rw [List.length_append]; simp only [List.length_cons, List.length_nil]; omega))
end MTw
noncomputable def twsQ (n t : Int) : List (List U) := bc (decide (0 < t)) (MTw.twQ t 0 n.toNat) []
open MTw in
theorem MTw.endS {t n p : Int} {q : List (List U)} {nn : Bool} (ht : t ≤ 100) (h0 : 0 ≤ n) (hn : n ≤ 100) (hq : q.length ≤ 800) : EndM 4 79 ctW (st0m 79 ax (K0 t n p (.slO 4 3 q.length nn) [(4, .seq 76 (.recs shW q) nn)]) 5) (.tup []) (KT t n p (q ++ twsQ n t) (bc (decide (0 < t)) (bc nn true (Nat.blt 0 n.toNat)) nn)) 5 := by
  unfold twsQ
  by_cases h : 0 < t
  · rw [dt h, bc_t, bc_t]
    exact .at ctW_ok (inS t n p q nn) (loopS h ht hn n.toNat 0 q nn (by omega) (by omega))
  · rw [df h, bc_f, bc_f, List.append_nil]
    exact .at ctW_ok (inS t n p q nn) (.done (finS (i := 0) (by omega)))
open MTw in
theorem MTw.endN {t n p : Int} (ht : t ≤ 100) (h0 : 0 ≤ n) (hn : n ≤ 100) : EndM 4 79 ctW (st0m 79 ax (K0 t n p (.v (.slice none 0 0)) []) 4) (.tup []) (KT t n p (twsQ n t) (bc (decide (0 < t)) (Nat.blt 0 n.toNat) false)) 5 := by
  unfold twsQ
  by_cases h : 0 < t
  · rw [dt h, bc_t, bc_t]
    by_cases h1 : 0 < n
    · obtain ⟨k, rfl⟩ : ∃ k : Nat, n = ((k + 1 : Nat) : Int) := ⟨(n - 1).toNat, by omega⟩
      rw [Int.toNat_natCast]
      refine .at ctW_ok (inN t _ p) (.at ctW_ok (goN (i := 0) h ht (by omega) hn) ?_)
      have := loopS (p := p) h ht hn k 1 [wk (zrep bT t.toNat) (2 * ((0 : Nat) : Int))] true (by omega) (by simp only [List.length_cons, List.length_nil]; omega)
      exact this
    · have : n = 0 := by omega
      subst this
      exact .at ctW_ok (inN t _ p) (.done (finN (i := 0) (by omega)))
  · rw [df h, bc_f, bc_f]
    exact .at ctW_ok (inN t n p) (.done (finN (i := 0) (by omega)))
open MTw in
noncomputable def spTw : ZMT := fun ax K0 m => match ax with
  | [.ptr 0 0, .ptr 1 0, .ptr 2 0] => match K0 with
    | [(0, .cells 3 [.v (.int .i64 t)] true), (1, .cells 3 [.v (.int .i64 n)] true), (2, .cells 85 [.ptr 3 0] true), (3, .cells 87 [.v (.int .i64 p), .v (.slice none 0 0)] true)] => bc (Nat.beq m 4) (some ⟨bc (decide (t ≤ 100)) (bc (decide (0 ≤ n)) (decide (n ≤ 100)) false) false, .tup [], KT t n p (twsQ n t) (bc (decide (0 < t)) (Nat.blt 0 n.toNat) false), 5, 4⟩) none
    | [(0, .cells 3 [.v (.int .i64 t)] true), (1, .cells 3 [.v (.int .i64 n)] true), (2, .cells 85 [.ptr 3 0] true), (3, .cells 87 [.v (.int .i64 p), .slO 4 3 len nn] true), (4, .seq 76 (.recs [.int .i64, .int .i64, .str] q) nn2)] => bc (Nat.beq m 5) (some ⟨bc (Nat.beq len q.length) (bc (eqN nn nn2) (bc (Nat.ble q.length 800) (bc (decide (t ≤ 100)) (bc (decide (0 ≤ n)) (decide (n ≤ 100)) false) false) false) false) false, .tup [], KT t n p (q ++ twsQ n t) (bc (decide (0 < t)) (bc nn2 true (Nat.blt 0 n.toNat)) nn2), 5, 4⟩) none
    | _ => none
  | _ => none
open MTw in
theorem spTw_ok : ZMtOk Try.prog 79 spTw := fun γ w0 w us ax K0 m r hs hc hres hax hH => by
  have noN : ∀ {x : ZMR} {b : Bool}, bc b (some x) none = some r → b = true ∧ x = r := fun {x b} h => by
    cases b
    · cases h
    · exact ⟨rfl, Option.some.inj h⟩
  unfold spTw at hs
  split at hs
  · split at hs
    · rename_i t n p
      obtain ⟨hm, rfl⟩ := noN hs
      have hm := Nat.eq_of_beq_eq_true hm
      subst hm
      obtain ⟨h1, hc⟩ := bcT (show bc (decide (t ≤ 100)) (bc (decide (0 ≤ n)) (decide (n ≤ 100)) false) false = true from hc)
      obtain ⟨h2, h3⟩ := bcT hc
      exact (endN (p := p) (of_decide_eq_true h1) (of_decide_eq_true h2) (of_decide_eq_true h3)).calls ctW_ok (by kernel_rfl) hres hax hH
    · rename_i t n p len nn q nn2
      obtain ⟨hm, rfl⟩ := noN hs
      have hm := Nat.eq_of_beq_eq_true hm
      subst hm
      obtain ⟨h1, hc⟩ := bcT (show bc (Nat.beq len q.length) (bc (eqN nn nn2) (bc (Nat.ble q.length 800) (bc (decide (t ≤ 100)) (bc (decide (0 ≤ n)) (decide (n ≤ 100)) false) false) false) false) false = true from hc)
      obtain ⟨h2, hc⟩ := bcT hc
      obtain ⟨h3, hc⟩ := bcT hc
      obtain ⟨h4, hc⟩ := bcT hc
      obtain ⟨h5, h6⟩ := bcT hc
      have h1 := Nat.eq_of_beq_eq_true h1
      have h2 := eqN_ok h2
      subst h1; subst h2
      exact (endS (p := p) (q := q) (nn := nn) (of_decide_eq_true h4) (of_decide_eq_true h5) (of_decide_eq_true h6) (Nat.le_of_ble_eq_true h3)).calls ctW_ok (by kernel_rfl) hres hax hH
    · cases hs
  · cases hs

namespace MBo
noncomputable def R (s : ES) : ZF := RMs 3 81 ctW [(atS 0 81 1, [[(0,none),(1,none),(2,none)]])] [] [(2, 3, 76, .recs shW [])] s
noncomputable abbrev K0 (n p : Int) (x : EV) (r : List (Nat × EK)) : List (Nat × EK) := [(0, .cells 3 [iv n] true), (1, .cells 85 [.ptr 2 0] true), (2, .cells 87 [iv p, x] true)] ++ r
noncomputable abbrev ax : List EV := [.ptr 0 0, .ptr 1 0]

noncomputable def sN (n p k : Int) : NS := ⟨[⟨81, 17, [(0, (EV.ptr 0 0)), (1, (EV.ptr 1 0)), (2, iv k)], [.it (.code (nav [1, 0, 0, 0] (bodyOf Try.f81))), .it (.code (nav [1, 0, 0, 1] (bodyOf Try.f81))), .it (.inLoop (nav [1, 0, 0] (bodyOf Try.f81))), .it (.inBlock 0)], [], Option.none⟩], [(0, (EK.cells 3 [(EV.v (Value.int IntKind.i64 (n)))] true)), (1, (EK.cells 85 [(EV.ptr 2 0)] true)), (2, (EK.cells 87 [(EV.v (Value.int IntKind.i64 (p))), (EV.v (Value.slice Option.none 0 0))] true))], 3⟩
noncomputable def sS (n p k : Int) (q : List (List U)) (nn : Bool) : NS := ⟨[⟨81, 17, [(0, (EV.ptr 0 0)), (1, (EV.ptr 1 0)), (2, iv k)], [.it (.code (nav [1, 0, 0, 0] (bodyOf Try.f81))), .it (.code (nav [1, 0, 0, 1] (bodyOf Try.f81))), .it (.inLoop (nav [1, 0, 0] (bodyOf Try.f81))), .it (.inBlock 0)], [], Option.none⟩], [(0, (EK.cells 3 [(EV.v (Value.int IntKind.i64 (n)))] true)), (1, (EK.cells 85 [(EV.ptr 2 0)] true)), (2, (EK.cells 87 [(EV.v (Value.int IntKind.i64 (p))), (EV.slO 3 3 (List.length q) (nn))] true)), (3, (EK.seq 76 (SyC.recs [(Sh.int IntKind.i64), (Sh.int IntKind.i64), Sh.str] (q)) (nn)))], 4⟩
theorem inN (n p : Int) : R (st0m 81 ax (K0 n p (.v (.slice none 0 0)) []) 3) = (.at (sN (n) (p) (IntKind.wrap IntKind.i64 (n - (1 : Int))))) := by kernel_rfl
theorem inS (n p : Int) (q : List (List U)) (nn : Bool) : R (st0m 81 ax (K0 n p (.slO 3 3 q.length nn) [(3, .seq 76 (.recs shW q) nn)]) 4) = (.at (sS (n) (p) (IntKind.wrap IntKind.i64 (n - (1 : Int))) (q) (nn))) := by kernel_rfl
theorem stN (n p k : Int) : R (stOf (sN n p k)) = (bc (decide ((0 : Int) ≤ k))
  (bc (bc (bc (bc (decide ((-1000 : Int) ≤ k)) (bc (decide (k ≤ (1000 : Int))) (bc (decide ((-1000 : Int) ≤ IntKind.wrap IntKind.i64 (IntKind.wrap IntKind.i64 (k + n) - (1 : Int)))) (decide (IntKind.wrap IntKind.i64 (IntKind.wrap IntKind.i64 (k + n) - (1 : Int)) ≤ (1000 : Int))) false) false) false) (bc (bc (Nat.ble (List.length (wayL k (IntKind.wrap IntKind.i64 (IntKind.wrap IntKind.i64 (k + n) - (1 : Int))))) (60000 : Nat)) true false) true false) false) true false)
    (.at (sS (n) (p) (IntKind.wrap IntKind.i64 (k - (1 : Int))) ([] ++ List.map (wk { data := #[(67 : UInt8), (84 : UInt8), (67 : UInt8)] }) (wayL k (IntKind.wrap IntKind.i64 (IntKind.wrap IntKind.i64 (k + n) - (1 : Int))))) (Nat.blt (0 : Nat) (List.length (wayL k (IntKind.wrap IntKind.i64 (IntKind.wrap IntKind.i64 (k + n) - (1 : Int))))))))
    .bad)
  (.done (EV.tup []) [(0, (EK.cells 3 [(EV.v (Value.int IntKind.i64 (n)))] true)), (1, (EK.cells 85 [(EV.ptr 2 0)] true)), (2, (EK.cells 87 [(EV.v (Value.int IntKind.i64 (p))), (EV.slO 3 3 0 false)] true)), (3, (EK.seq 76 (SyC.recs [(Sh.int IntKind.i64), (Sh.int IntKind.i64), Sh.str] []) false))] 4)) := by kernel_rfl
theorem stS (n p k : Int) (q : List (List U)) (nn : Bool) : R (stOf (sS n p k q nn)) = (bc (decide ((0 : Int) ≤ k))
  (bc (bc (bc (bc (decide ((-1000 : Int) ≤ k)) (bc (decide (k ≤ (1000 : Int))) (bc (decide ((-1000 : Int) ≤ IntKind.wrap IntKind.i64 (IntKind.wrap IntKind.i64 (k + n) - (1 : Int)))) (decide (IntKind.wrap IntKind.i64 (IntKind.wrap IntKind.i64 (k + n) - (1 : Int)) ≤ (1000 : Int))) false) false) false) (bc (bc (bc (Nat.beq (List.length q) (List.length q)) (bc (eqN nn nn) (bc (Nat.ble (List.length (wayL k (IntKind.wrap IntKind.i64 (IntKind.wrap IntKind.i64 (k + n) - (1 : Int))))) (60000 : Nat)) (Nat.blt (Nat.add (List.length q) (List.length (wayL k (IntKind.wrap IntKind.i64 (IntKind.wrap IntKind.i64 (k + n) - (1 : Int)))))) (65536 : Nat)) false) false) false) true false) true false) false) true false)
    (.at (sS (n) (p) (IntKind.wrap IntKind.i64 (k - (1 : Int))) (q ++ List.map (wk { data := #[(67 : UInt8), (84 : UInt8), (67 : UInt8)] }) (wayL k (IntKind.wrap IntKind.i64 (IntKind.wrap IntKind.i64 (k + n) - (1 : Int))))) (bc nn true (Nat.blt (0 : Nat) (List.length (wayL k (IntKind.wrap IntKind.i64 (IntKind.wrap IntKind.i64 (k + n) - (1 : Int)))))))))
    .bad)
  (.done (EV.tup []) [(0, (EK.cells 3 [(EV.v (Value.int IntKind.i64 (n)))] true)), (1, (EK.cells 85 [(EV.ptr 2 0)] true)), (2, (EK.cells 87 [(EV.v (Value.int IntKind.i64 (p))), (EV.slO 3 3 (List.length q) (nn))] true)), (3, (EK.seq 76 (SyC.recs [(Sh.int IntKind.i64), (Sh.int IntKind.i64), Sh.str] (q)) (nn)))] 4)) := by kernel_rfl
theorem upI_len : ∀ (k : Nat) (a : Int), (upI a k).length = k
  | 0, _ => rfl
  | k + 1, a => by unfold upI; simp [upI_len k]
theorem wayL_len {k n : Int} (h : 1 ≤ n) : (wayL k (k + n - 1)).length = n.toNat := by
  unfold wayL
  by_cases h1 : k < k + n - 1
  · rw [dt h1, bc_t, List.length_cons, upI_len]; omega
  · rw [df h1, bc_f]
    have e : (k - (k + n - 1)).toNat = 0 := by omega
    rw [e]
    show 1 = _
    omega
noncomputable def rowQ (n : Int) (k : Nat) : List (List U) := (wayL k ((k : Int) + n - 1)).map (wk bCTC)
noncomputable def bodyQ (n : Int) : Nat → List (List U)
  | 0 => []
  | k + 1 => rowQ n k ++ bodyQ n k
theorem goS {n p : Int} {k : Nat} {q : List (List U)} {nn : Bool} (hk : k ≤ 100) (h1 : 1 ≤ n) (hn : n ≤ 100) (hq : q.length ≤ 60000) : R (stOf (sS n p k q nn)) = .at (sS n p ((k : Int) - 1) (q ++ rowQ n k) true) := by
  rw [stS]
  have hl := wayL_len (k := k) h1
  simp (disch := omega) only [Nat.add_eq, eqSy_self, eqN_self, bc_same, List.length_cons, ofn, wrap_in, dt, df, bltD, bltN, ble_of, bleN, beqD, bc_t, bc_f, nn_ok, Nat.zero_add, to_nat, Int.zero_add, Int.sub_zero, Int.sub_self, Int.cast_ofNat_Int, Int.natCast_zero, Int.toNat_zero, List.take_zero, List.nil_append, List.length_append, List.length_nil, hl]
  rfl
theorem goN {n p : Int} {k : Nat} (hk : k ≤ 100) (h1 : 1 ≤ n) (hn : n ≤ 100) : R (stOf (sN n p k)) = .at (sS n p ((k : Int) - 1) (rowQ n k) true) := by
  rw [stN]
  have hl := wayL_len (k := k) h1
  simp (disch := omega) only [Nat.add_eq, eqSy_self, eqN_self, bc_same, List.length_cons, ofn, wrap_in, dt, df, bltD, bltN, ble_of, bleN, beqD, bc_t, bc_f, nn_ok, Nat.zero_add, to_nat, Int.zero_add, Int.sub_zero, Int.sub_self, Int.cast_ofNat_Int, Int.natCast_zero, Int.toNat_zero, List.take_zero, List.nil_append, List.length_append, List.length_nil, hl]
  rfl
noncomputable abbrev KB (n p : Int) (q : List (List U)) (nn : Bool) : List (Nat × EK) := K0 n p (.slO 3 3 q.length nn) [(3, .seq 76 (.recs shW q) nn)]
theorem finS {n p : Int} {q : List (List U)} {nn : Bool} : R (stOf (sS n p (-1) q nn)) = .done (.tup []) (KB n p q nn) 4 := by
  rw [stS]
  simp (disch := omega) only [Nat.add_eq, eqSy_self, eqN_self, bc_same, List.length_cons, ofn, wrap_in, dt, df, bltD, bltN, ble_of, bleN, beqD, bc_t, bc_f, nn_ok, Nat.zero_add, to_nat, Int.zero_add, Int.sub_zero, Int.sub_self, Int.cast_ofNat_Int, Int.natCast_zero, Int.toNat_zero, List.take_zero, List.nil_append, List.length_append, List.length_nil]
  rfl
theorem loopS {n p : Int} (h1 : 1 ≤ n) (hn : n ≤ 100) : ∀ (k : Nat) (q : List (List U)) , k ≤ 100 → q.length + k * 100 ≤ 60000 → EndM 3 81 ctW (stOf (sS n p ((k : Int) - 1) q true)) (.tup []) (KB n p (q ++ bodyQ n k) true) 4
  | 0, q, hk, hq => by
    rw [show bodyQ n 0 = [] from rfl, List.append_nil]
    exact .done finS
  | k + 1, q, hk, hq => by
    rw [show bodyQ n (k + 1) = rowQ n k ++ bodyQ n k from rfl, ← List.append_assoc, show ((k + 1 : Nat) : Int) - 1 = k by omega]
    have hl : (rowQ n k).length = n.toNat := by unfold rowQ; rw [List.length_map, wayL_len h1]
    exact .at ctW_ok (goS (by omega) h1 hn (by omega)) (loopS h1 hn k _ (by omega) (by rw [List.length_append, hl]; omega))
end MBo
noncomputable def bodQ (n : Int) : List (List U) := MBo.bodyQ n n.toNat
open MBo in
theorem MBo.endS {n p : Int} {q : List (List U)} {nn : Bool} (h1 : 1 ≤ n) (hn : n ≤ 100) (hq : q.length ≤ 1000) : EndM 3 81 ctW (st0m 81 ax (K0 n p (.slO 3 3 q.length nn) [(3, .seq 76 (.recs shW q) nn)]) 4) (.tup []) (KB n p (q ++ bodQ n) true) 4 := by
  obtain ⟨k, rfl⟩ : ∃ k : Nat, n = ((k + 1 : Nat) : Int) := ⟨(n - 1).toNat, by omega⟩
  have h := inS ((k + 1 : Nat) : Int) p q nn
  rw [wrap_in _ (by omega) (by omega), show ((k + 1 : Nat) : Int) - 1 = k by omega] at h
  have hl : (rowQ ((k + 1 : Nat) : Int) k).length = k + 1 := by unfold rowQ; rw [List.length_map, wayL_len h1]; omega
  have e : q ++ bodQ ((k + 1 : Nat) : Int) = (q ++ rowQ ((k + 1 : Nat) : Int) k) ++ bodyQ ((k + 1 : Nat) : Int) k := by
    unfold bodQ
    rw [Int.toNat_natCast]
    show q ++ (rowQ _ k ++ bodyQ _ k) = _
    simp
  rw [e]
  exact .at ctW_ok h (.at ctW_ok (goS (by omega) h1 hn (by omega)) (loopS h1 hn k _ (by omega) (by rw [List.length_append, hl]; omega)))
open MBo in
theorem MBo.endN {n p : Int} (h1 : 1 ≤ n) (hn : n ≤ 100) : EndM 3 81 ctW (st0m 81 ax (K0 n p (.v (.slice none 0 0)) []) 3) (.tup []) (KB n p (bodQ n) true) 4 := by
  obtain ⟨k, rfl⟩ : ∃ k : Nat, n = ((k + 1 : Nat) : Int) := ⟨(n - 1).toNat, by omega⟩
  have h := inN ((k + 1 : Nat) : Int) p
  rw [wrap_in _ (by omega) (by omega), show ((k + 1 : Nat) : Int) - 1 = k by omega] at h
  have hl : (rowQ ((k + 1 : Nat) : Int) k).length = k + 1 := by unfold rowQ; rw [List.length_map, wayL_len h1]; omega
  have e : bodQ ((k + 1 : Nat) : Int) = rowQ ((k + 1 : Nat) : Int) k ++ bodyQ ((k + 1 : Nat) : Int) k := by
    unfold bodQ
    rw [Int.toNat_natCast]
    rfl
  rw [e]
  exact .at ctW_ok h (.at ctW_ok (goN (by omega) h1 hn) (loopS h1 hn k _ (by omega) (by rw [hl]; omega)))
open MBo in
noncomputable def spBo : ZMT := fun ax K0 m => match ax with
  | [.ptr 0 0, .ptr 1 0] => match K0 with
    | [(0, .cells 3 [.v (.int .i64 n)] true), (1, .cells 85 [.ptr 2 0] true), (2, .cells 87 [.v (.int .i64 p), .v (.slice none 0 0)] true)] => bc (Nat.beq m 3) (some ⟨bc (decide (1 ≤ n)) (decide (n ≤ 100)) false, .tup [], KB n p (bodQ n) true, 4, 3⟩) none
    | [(0, .cells 3 [.v (.int .i64 n)] true), (1, .cells 85 [.ptr 2 0] true), (2, .cells 87 [.v (.int .i64 p), .slO 3 3 len nn] true), (3, .seq 76 (.recs [.int .i64, .int .i64, .str] q) nn2)] => bc (Nat.beq m 4) (some ⟨bc (Nat.beq len q.length) (bc (eqN nn nn2) (bc (Nat.ble q.length 1000) (bc (decide (1 ≤ n)) (decide (n ≤ 100)) false) false) false) false, .tup [], KB n p (q ++ bodQ n) true, 4, 3⟩) none
    | _ => none
  | _ => none
open MBo in
theorem spBo_ok : ZMtOk Try.prog 81 spBo := fun γ w0 w us ax K0 m r hs hc hres hax hH => by
  have noN : ∀ {x : ZMR} {b : Bool}, bc b (some x) none = some r → b = true ∧ x = r := fun {x b} h => by
    cases b
    · cases h
    · exact ⟨rfl, Option.some.inj h⟩
  unfold spBo at hs
  split at hs
  · split at hs
    · rename_i n p
      obtain ⟨hm, rfl⟩ := noN hs
      have hm := Nat.eq_of_beq_eq_true hm
      subst hm
      obtain ⟨h1, h2⟩ := bcT (show bc (decide (1 ≤ n)) (decide (n ≤ 100)) false = true from hc)
      exact (endN (p := p) (of_decide_eq_true h1) (of_decide_eq_true h2)).calls ctW_ok (by kernel_rfl) hres hax hH
    · rename_i n p len nn q nn2
      obtain ⟨hm, rfl⟩ := noN hs
      have hm := Nat.eq_of_beq_eq_true hm
      subst hm
      obtain ⟨h1, hc⟩ := bcT (show bc (Nat.beq len q.length) (bc (eqN nn nn2) (bc (Nat.ble q.length 1000) (bc (decide (1 ≤ n)) (decide (n ≤ 100)) false) false) false) false = true from hc)
      obtain ⟨h2, hc⟩ := bcT hc
      obtain ⟨h3, hc⟩ := bcT hc
      obtain ⟨h4, h5⟩ := bcT hc
      have h1 := Nat.eq_of_beq_eq_true h1
      have h2 := eqN_ok h2
      subst h1; subst h2
      exact (endS (p := p) (q := q) (nn := nn) (of_decide_eq_true h4) (of_decide_eq_true h5) (Nat.le_of_ble_eq_true h3)).calls ctW_ok (by kernel_rfl) hres hax hH
    · cases hs
  · cases hs
noncomputable def ctS : Tr ZCC := (ctW.put 79 (some (mC spTw))).put 81 (some (mC spBo))
theorem ctS_ok : ZCtsOk Try.prog ctS := (ctW_ok.addM rfl spTw_ok).addM rfl spBo_ok
end Go.Proofs.Ythaljeccdeajoaa.EvM
namespace Go.Proofs.Ythaljeccdeajoaa.EvM
open Go.Proofs Go.Proofs.Ythaljeccdeajoaa.Ev
theorem twQ_len (t : Int) : ∀ (m i : Nat), (MTw.twQ t i m).length = m
  | 0, _ => rfl
  | m + 1, i => by unfold MTw.twQ; simp [twQ_len t m]
theorem twsQ_len (n t : Int) : (twsQ n t).length ≤ n.toNat := by
  unfold twsQ
  by_cases h : 0 < t
  · rw [dt h, bc_t, twQ_len]; omega
  · rw [df h, bc_f]; simp
theorem bodyQ_len {n : Int} (h : 1 ≤ n) : ∀ k, (MBo.bodyQ n k).length = k * n.toNat
  | 0 => by simp [MBo.bodyQ]
  | k + 1 => by
    show (MBo.rowQ n k ++ MBo.bodyQ n k).length = _
    rw [List.length_append, bodyQ_len h k, Nat.succ_mul]
    have : (MBo.rowQ n k).length = n.toNat := by unfold MBo.rowQ; rw [List.length_map, MBo.wayL_len h]
    omega
theorem bodQ_len {n : Int} (h : 1 ≤ n) (h2 : n ≤ 6) : (bodQ n).length ≤ 36 := by
  unfold bodQ
  rw [bodyQ_len h]
  exact Nat.le_trans (Nat.mul_le_mul (show n.toNat ≤ 6 by omega) (show n.toNat ≤ 6 by omega)) (by omega)
noncomputable def spiQ (n t : Int) : List (List U) := twsQ n t ++ bodQ n ++ [wk bP (n - 1)] ++ bodQ n ++ twsQ n t
namespace MSpi
noncomputable def RUN (s : ES) : ZF := RZ 23 ctS (fun _ => false) [] [] false s
theorem in_t (n t : Int) : RUN (st0 23 [iv n, iv t]) = (bc (decide (n < (1 : Int))) (.done (EV.tup [(EV.v (Value.agg (Array.mk [(Value.int IntKind.i64 (0)), (Value.slice Option.none 0 0)]))), (EV.v (Value.int IntKind.i64 (7)))]) [] 0) (bc (decide ((6 : Int) < n)) (.done (EV.tup [(EV.v (Value.agg (Array.mk [(Value.int IntKind.i64 (0)), (Value.slice Option.none 0 0)]))), (EV.v (Value.int IntKind.i64 (7)))]) [] 0) (bc (decide (t < (0 : Int))) (.done (EV.tup [(EV.v (Value.agg (Array.mk [(Value.int IntKind.i64 (0)), (Value.slice Option.none 0 0)]))), (EV.v (Value.int IntKind.i64 (7)))]) [] 0) (bc (decide ((16 : Int) < t)) (.done (EV.tup [(EV.v (Value.agg (Array.mk [(Value.int IntKind.i64 (0)), (Value.slice Option.none 0 0)]))), (EV.v (Value.int IntKind.i64 (7)))]) [] 0) (bc (bc (bc (decide (t ≤ (100 : Int))) (bc (decide ((0 : Int) ≤ n)) (decide (n ≤ (100 : Int))) false) false) true false) (bc (bc (bc (Nat.beq (List.length (twsQ n t)) (List.length (twsQ n t))) (bc (eqN (bc (decide ((0 : Int) < t)) (Nat.blt (0 : Nat) (Int.toNat n)) false) (bc (decide ((0 : Int) < t)) (Nat.blt (0 : Nat) (Int.toNat n)) false)) (bc (Nat.ble (List.length (twsQ n t)) (1000 : Nat)) (bc (decide ((1 : Int) ≤ n)) (decide (n ≤ (100 : Int))) false) false) false) false) true false) (bc (bc (bc (Nat.beq (List.length (twsQ n t ++ bodQ n)) (List.length (twsQ n t ++ bodQ n))) (Nat.blt (Nat.add (List.length (twsQ n t ++ bodQ n)) (List.length (List.map (fun r => U.int (List.headD r (U.i (0 : Int)))) [[U.i (IntKind.wrap IntKind.i64 (n - (1 : Int)))]]))) (65536 : Nat)) false) true false) (bc (bc (bc (Nat.beq (List.length (twsQ n t ++ bodQ n ++ List.map (wk { data := #[(80 : UInt8)] }) (List.map (fun r => U.int (List.headD r (U.i (0 : Int)))) [[U.i (IntKind.wrap IntKind.i64 (n - (1 : Int)))]]))) (List.length (twsQ n t ++ bodQ n ++ List.map (wk { data := #[(80 : UInt8)] }) (List.map (fun r => U.int (List.headD r (U.i (0 : Int)))) [[U.i (IntKind.wrap IntKind.i64 (n - (1 : Int)))]])))) (bc (Nat.ble (List.length (twsQ n t ++ bodQ n ++ List.map (wk { data := #[(80 : UInt8)] }) (List.map (fun r => U.int (List.headD r (U.i (0 : Int)))) [[U.i (IntKind.wrap IntKind.i64 (n - (1 : Int)))]]))) (1000 : Nat)) (bc (decide ((1 : Int) ≤ n)) (decide (n ≤ (100 : Int))) false) false) false) true false) (bc (bc (bc (Nat.beq (List.length (twsQ n t ++ bodQ n ++ List.map (wk { data := #[(80 : UInt8)] }) (List.map (fun r => U.int (List.headD r (U.i (0 : Int)))) [[U.i (IntKind.wrap IntKind.i64 (n - (1 : Int)))]]) ++ bodQ n)) (List.length (twsQ n t ++ bodQ n ++ List.map (wk { data := #[(80 : UInt8)] }) (List.map (fun r => U.int (List.headD r (U.i (0 : Int)))) [[U.i (IntKind.wrap IntKind.i64 (n - (1 : Int)))]]) ++ bodQ n))) (bc (Nat.ble (List.length (twsQ n t ++ bodQ n ++ List.map (wk { data := #[(80 : UInt8)] }) (List.map (fun r => U.int (List.headD r (U.i (0 : Int)))) [[U.i (IntKind.wrap IntKind.i64 (n - (1 : Int)))]]) ++ bodQ n)) (800 : Nat)) (bc (decide (t ≤ (100 : Int))) (bc (decide ((0 : Int) ≤ n)) (decide (n ≤ (100 : Int))) false) false) false) false) true false) (bc (bc (bc (Nat.beq (List.length (twsQ n t ++ bodQ n ++ List.map (wk { data := #[(80 : UInt8)] }) (List.map (fun r => U.int (List.headD r (U.i (0 : Int)))) [[U.i (IntKind.wrap IntKind.i64 (n - (1 : Int)))]]) ++ bodQ n ++ twsQ n t)) (List.length (twsQ n t ++ bodQ n ++ List.map (wk { data := #[(80 : UInt8)] }) (List.map (fun r => U.int (List.headD r (U.i (0 : Int)))) [[U.i (IntKind.wrap IntKind.i64 (n - (1 : Int)))]]) ++ bodQ n ++ twsQ n t))) true false) true false) (.done (EV.tup [(EV.agg [(EV.v (Value.int IntKind.i64 (IntKind.wrap IntKind.i64 ((2 : Int) * n)))), (EV.lst (SyC.recs [(Sh.int IntKind.i64), (Sh.int IntKind.i64), Sh.str] (twsQ n t ++ bodQ n ++ List.map (wk { data := #[(80 : UInt8)] }) (List.map (fun r => U.int (List.headD r (U.i (0 : Int)))) [[U.i (IntKind.wrap IntKind.i64 (n - (1 : Int)))]]) ++ bodQ n ++ twsQ n t)))]), (EV.v (Value.int IntKind.i64 (0)))]) [] 0) .bad) .bad) .bad) .bad) .bad) .bad))))) := by kernel_rfl
theorem ends (n t : Int) : EndZ 23 ctS false (st0 23 [iv n, iv t]) (shE (bc (spiOk n t) (2 * n) 0) (bc (spiOk n t) (spiQ n t) []) (bc (spiOk n t) 0 7)) [] 0 := by
  have h := in_t n t
  unfold spiOk
  by_cases h1 : n < 1
  · simp only [dt h1, bc_t, bc_f] at h ⊢; exact (EndZ.done h).weak (shN_weak 7)
  by_cases h2 : 6 < n
  · simp only [df h1, dt h2, bc_t, bc_f] at h ⊢; exact (EndZ.done h).weak (shN_weak 7)
  by_cases h3 : t < 0
  · simp only [df h1, df h2, dt h3, bc_t, bc_f] at h ⊢; exact (EndZ.done h).weak (shN_weak 7)
  by_cases h4 : 16 < t
  · simp only [df h1, df h2, df h3, dt h4, bc_t, bc_f] at h ⊢; exact (EndZ.done h).weak (shN_weak 7)
  have l1 := twsQ_len n t
  have l2 := bodQ_len (n := n) (by omega) (by omega)
  simp (disch := omega) only [Nat.add_eq, eqSy_self, eqN_self, bc_same, List.length_cons, ofn, wrap_in, dt, df, bltD, bltN, ble_of, bleN, beqD, bc_t, bc_f, nn_ok, Nat.zero_add, to_nat, Int.zero_add, Int.sub_zero, Int.sub_self, Int.cast_ofNat_Int, Int.natCast_zero, Int.toNat_zero, List.take_zero, List.nil_append, List.length_append, List.length_nil, df h1, df h2, df h3, df h4, List.map_cons, List.map_nil, List.length_map] at h ⊢
  exact .done h
end MSpi
end Go.Proofs.Ythaljeccdeajoaa.EvM
namespace Go.Proofs.Ythaljeccdeajoaa.EvM
open Go.Proofs Go.Proofs.Ythaljeccdeajoaa.Ev
theorem ba_ext : ∀ {a b : ByteArray}, a.data.toList = b.data.toList → a = b
  | ⟨a⟩, ⟨b⟩, h => by
    have h : a.toList = b.toList := h
    rw [Array.ext' h]
theorem catN_data (s : ByteArray) : ∀ (k : Nat) (o : ByteArray), (catN o s k).data.toList = o.data.toList ++ Lib.repeatL s.data.toList k
  | 0, o => by simp [catN, Lib.repeatL]
  | k + 1, o => by
    unfold catN
    rw [catN_data s k, ByteArray.data_append, Array.toList_append]
    simp [Lib.repeatL]
theorem lets_zrep (s : ByteArray) (n : Int) : lets s n = zrep s n.toNat := by
  apply ba_ext
  unfold lets zrep
  rw [catN_data]
  simp
end Go.Proofs.Ythaljeccdeajoaa.EvM
namespace Go.Proofs.Ythaljeccdeajoaa.EvM
open Go.Proofs Go.Proofs.Ythaljeccdeajoaa.Ev
theorem twR_eq (t : Int) : ∀ (m i : Nat), twR t i m = MTw.twQ t i m
  | 0, _ => rfl
  | m + 1, i => by
    unfold twR MTw.twQ
    rw [lets_zrep, twR_eq t m]
theorem tws_eq (n t : Int) : tws n t = twsQ n t := by unfold tws twsQ; rw [twR_eq]
theorem upI_row (k : Int) : ∀ (m i : Nat), (upI (k + i) m).map (wk bCTC) = rowR k (i + 1) m
  | 0, _ => rfl
  | m + 1, i => by
    unfold upI rowR
    rw [List.map_cons, show k + (i : Int) + 1 = k + ((i + 1 : Nat) : Int) by omega, upI_row k m (i + 1)]
theorem rowQ_eq {n : Int} (h : 1 ≤ n) (k : Nat) : MBo.rowQ n k = rowR k 0 n.toNat := by
  obtain ⟨m, rfl⟩ : ∃ m : Nat, n = ((m + 1 : Nat) : Int) := ⟨(n - 1).toNat, by omega⟩
  unfold MBo.rowQ wayL
  rw [Int.toNat_natCast]
  have e := upI_row k m 0
  rw [show (k : Int) + ((0 : Nat) : Int) = k by omega] at e
  show wk bCTC (k : Int) :: _ = wk bCTC ((k : Int) + ((0 : Nat) : Int)) :: rowR k 1 m
  rw [show (k : Int) + ((0 : Nat) : Int) = k by omega, ← e]
  by_cases hm : (k : Int) < (k : Int) + ((m + 1 : Nat) : Int) - 1
  · rw [dt hm, bc_t, show ((k : Int) + ((m + 1 : Nat) : Int) - 1 - k).toNat = m by omega]
  · have : m = 0 := by omega
    subst this
    rw [df hm, bc_f, show ((k : Int) - ((k : Int) + ((0 + 1 : Nat) : Int) - 1)).toNat = 0 by omega]
    rfl
theorem bodyQ_eq {n : Int} (h : 1 ≤ n) : ∀ k, MBo.bodyQ n k = bodyR n.toNat k
  | 0 => rfl
  | k + 1 => by
    show MBo.rowQ n k ++ MBo.bodyQ n k = rowR k 0 n.toNat ++ bodyR n.toNat k
    rw [rowQ_eq h, bodyQ_eq h k]
theorem spiQ_eq {n : Int} (h : 1 ≤ n) (t : Int) : spiQ n t = spiL n (tws n t) := by
  unfold spiQ spiL bodQ bodyL
  rw [tws_eq, bodyQ_eq h]
theorem spiOk_pos {n t : Int} (h : spiOk n t = true) : 1 ≤ n := by
  unfold spiOk at h
  by_cases h1 : n < 1
  · rw [dt h1, bc_t] at h; cases h
  · omega
theorem spPSpi_ok : ZCtOk Try.prog 23 spSpi := fun γ w us ax r hs hc hax hN hfz => by
  unfold spSpi at hs
  split at hs
  · rename_i n t
    obtain ⟨rfl⟩ := Option.some.inj hs
    have e : bc (spiOk n t) (spiL n (tws n t)) [] = bc (spiOk n t) (spiQ n t) [] := by
      cases h : spiOk n t
      · rfl
      · rw [spiQ_eq (spiOk_pos h)]
    show Calls Try.prog _ us w fun e w' => ∃ γ' x, e = .returned x ∧ EC γ' (shE (bc (spiOk n t) (2 * n) 0) (bc (spiOk n t) (spiL n (tws n t)) []) (bc (spiOk n t) 0 7)) x ∧ HR γ' (Bs.ofG w γ) (mkT []) 0 w'
    rw [e]
    exact (MSpi.ends n t).calls ctS_ok (by kernel_rfl) hax hN hfz
  · cases hs
end Go.Proofs.Ythaljeccdeajoaa.EvM
namespace Go.Proofs.Ythaljeccdeajoaa.EvM
open Go.Proofs Go.Proofs.Ythaljeccdeajoaa.Ev
theorem spPWin_ok : ZCtOk Try.prog 25 spWin := fun γ w us ax r hs hc hax hN hfz => by
  unfold spWin at hs
  split at hs
  · obtain ⟨rfl⟩ := Option.some.inj hs
    exact (EndZ.done (MWin.in_t 0)).calls ctP_ok (by kernel_rfl) hax hN hfz
  · cases hs
theorem join3 (a b c : List UInt8) : Lib.join [a, b, c] [] = a ++ b ++ c := by
  rw [Lib.join_cons]; simp [Lib.joinTail]
theorem picW_eq (n : Int) : zjoin [zrep bL n.toNat, bP, zrep bL n.toNat] (ByteArray.mk #[]) = picW n := by
  apply ba_ext
  unfold zjoin picW
  rw [lets_zrep, ByteArray.data_append, ByteArray.data_append, Array.toList_append, Array.toList_append]
  show (Lib.join [_, _, _] []) = _
  rw [join3]
theorem MPic.ends (n : Int) : EndZ 28 ctP false (st0 28 [iv n]) (shE (picP n) (picL n) (picE n)) [] 0 := by
  have h := MPic.in_t n
  unfold picP picL picE
  by_cases h1 : n < 1
  · simp only [dt h1, bc_t] at h ⊢; exact (EndZ.done h).weak (shN_weak 7)
  by_cases h2 : 7 < n
  · simp only [df h1, dt h2, bc_t, bc_f] at h ⊢; exact (EndZ.done h).weak (shN_weak 7)
  · have e1 : (ByteArray.mk #[76]).size = 1 := rfl
    have hz : (zrep bL n.toNat).data.toList.length ≤ 7 := by
      rw [← lets_zrep]
      have := lets_size bL n
      have e : (lets bL n).size = (lets bL n).data.toList.length := by rw [Array.length_toList]; rfl
      rw [← e, this, show bL.size = 1 from rfl]; omega
    have hj : (Lib.join [(zrep bL n.toNat).data.toList, [80], (zrep bL n.toNat).data.toList] []).length ≤ 65536 := by
      rw [join3]; simp only [List.length_append, List.length_cons, List.length_nil]; omega
    have hb : Nat.ble (Lib.join [(zrep bL n.toNat).data.toList, [80], (zrep bL n.toNat).data.toList] []).length 65536 = true := ble_of hj
    rw [df h1, bc_f, df h2, bc_f, dt (show 0 ≤ n by omega), bc_t, dt (show n ≤ 65536 by omega), bc_t, e1, show Nat.ble 1 65536 = true from rfl, bc_t, bc_t] at h
    have h' := h.trans (show _ = bc (bc (Nat.ble (Lib.join [(zrep bL n.toNat).data.toList, [80], (zrep bL n.toNat).data.toList] []).length 65536) true false) (ZF.done (shE 2 [wk (zjoin [zrep bL n.toNat, bP, zrep bL n.toNat] (ByteArray.mk #[])) 0] 0) [] 0) .bad from rfl)
    rw [hb, bc_t, bc_t, picW_eq] at h'
    simp only [df h1, df h2, bc_f]
    exact .done h'
end Go.Proofs.Ythaljeccdeajoaa.EvM
namespace Go.Proofs.Ythaljeccdeajoaa.EvM
open Go.Proofs Go.Proofs.Ythaljeccdeajoaa.Ev
namespace MRev
noncomputable def R (s : ES) : ZF := RMs 1 134 ctP [(atS 0 134 1, [[(0,none),(2,none),(3,none)]])] [] [] s

noncomputable def sR (m : Nat) (l : List Int) (i j : Int) : NS := ⟨[⟨134, 28, [(0, EV.slO 0 1 m true), (2, iv i), (3, iv j)], [.it (.code (nav [1, 0, 0, 0] (bodyOf Try.f134))), .it (.code (nav [1, 0, 0, 1] (bodyOf Try.f134))), .it (.inLoop (nav [1, 0, 0] (bodyOf Try.f134))), .it (.inBlock 0)], [], Option.none⟩], [(0, (EK.seq 3 (SyC.ints IntKind.i64 (l)) true))], 1⟩
theorem in_t (l : List Int) : R (st0m 134 [.slO 0 1 l.length true] [(0, .seq 3 (.ints .i64 l) true)] 1) = (.at (sR (List.length l) (l) ((0 : Int)) (IntKind.wrap IntKind.i64 (Int.ofNat (List.length l) - (1 : Int))))) := by kernel_rfl
theorem st_t (m : Nat) (l : List Int) (i j : Int) : R (stOf (sR m l i j)) = (bc (decide (i < j)) (bc (bc (bc (bc (bc (decide ((0 : Int) ≤ j)) (Nat.blt (Int.toNat j) m) false) true false) (bc (bc (Nat.blt (Int.toNat j) (List.length l)) true false) (bc (bc (bc (decide ((0 : Int) ≤ i)) (Nat.blt (Int.toNat i) m) false) true false) (bc (bc (Nat.blt (Int.toNat i) (List.length l)) true false) (bc (bc (bc (decide ((0 : Int) ≤ i)) (Nat.blt (Int.toNat i) m) false) true false) (bc (Nat.blt (Int.toNat i) (List.length l)) (bc (bc (bc (decide ((0 : Int) ≤ j)) (Nat.blt (Int.toNat j) m) false) true false) (bc (Nat.blt (Int.toNat j) (List.length (List.set l (Int.toNat i) (List.getD l (Int.toNat j) (0 : Int))))) true false) false) false) false) false) false) false) false) true false) (.at (sR (m) (List.set (List.set l (Int.toNat i) (List.getD l (Int.toNat j) (0 : Int))) (Int.toNat j) (List.getD l (Int.toNat i) (0 : Int))) (IntKind.wrap IntKind.i64 (i + (1 : Int))) (IntKind.wrap IntKind.i64 (j - (1 : Int))))) .bad) (.done (EV.tup []) [(0, (EK.seq 3 (SyC.ints IntKind.i64 (l)) true))] 1)) := by kernel_rfl
theorem step {m : Nat} {l : List Int} {i j : Nat} (hi : i < j) (hj : j < m) (hm : m ≤ 60000) (hl : l.length = m) : R (stOf (sR m l i j)) = .at (sR m ((l.set i (l.getD j 0)).set j (l.getD i 0)) (i + 1 : Nat) ((j : Int) - 1)) := by
  rw [st_t]
  simp (disch := omega) only [Nat.add_eq, eqSy_self, eqN_self, bc_same, List.length_cons, ofn, wrap_in, dt, df, bltD, bltN, ble_of, bleN, beqD, bc_t, bc_f, nn_ok, Nat.zero_add, to_nat, Int.zero_add, Int.sub_zero, Int.sub_self, Int.cast_ofNat_Int, Int.natCast_zero, Int.toNat_zero, List.take_zero, List.nil_append, List.length_append, List.length_nil, List.length_set]
  rfl
theorem last {m : Nat} {l : List Int} {i : Nat} {j : Int} (hi : j ≤ (i : Int)) : R (stOf (sR m l i j)) = .done (.tup []) [(0, .seq 3 (.ints .i64 l) true)] 1 := by
  rw [st_t]
  simp (disch := omega) only [Nat.add_eq, eqSy_self, eqN_self, bc_same, List.length_cons, ofn, wrap_in, dt, df, bltD, bltN, ble_of, bleN, beqD, bc_t, bc_f, nn_ok, Nat.zero_add, to_nat, Int.zero_add, Int.sub_zero, Int.sub_self, Int.cast_ofNat_Int, Int.natCast_zero, Int.toNat_zero, List.take_zero, List.nil_append, List.length_append, List.length_nil]
theorem rev_of {l l0 : List Int} (h0 : l.length = l0.length) (h : ∀ x, x < l0.length → l.getD x 0 = l0.getD (l0.length - 1 - x) 0) : l = l0.reverse := by
  apply List.ext_getElem
  · simp [h0]
  · intro x h1 h2
    have := h x (by omega)
    rw [getD_at h1, getD_at (by omega)] at this
    rw [List.getElem_reverse, this]
theorem getD_set (l : List Int) (i x : Nat) (v : Int) : (l.set i v).getD x 0 = if x = i ∧ i < l.length then v else l.getD x 0 := by
  rw [List.getD_eq_getElem?_getD, List.getD_eq_getElem?_getD, List.getElem?_set]
  by_cases h : i = x
  · subst h
    by_cases h2 : i < l.length
    · simp [h2]
    · simp [h2]
  · rw [if_neg h, if_neg (by omega)]
theorem loop {l0 : List Int} (hl : l0.length ≤ 60000) : ∀ (k i : Nat) (l : List Int), l0.length ≤ 2 * i + k → l.length = l0.length → (∀ x, x < l0.length → l.getD x 0 = if x < i ∨ l0.length < x + i + 1 then l0.getD (l0.length - 1 - x) 0 else l0.getD x 0) → EndM 1 134 ctP (stOf (sR l0.length l i ((l0.length : Int) - 1 - i))) (.tup []) [(0, .seq 3 (.ints .i64 l0.reverse) true)] 1
  | k, i, l, h, h0, hx => by
    by_cases hd : l0.length ≤ 2 * i + 1
    · have : l = l0.reverse := rev_of h0 fun x hxl => by
        rw [hx x hxl]
        split
        · rfl
        · rw [show l0.length - 1 - x = x by omega]
      rw [← this]
      exact .done (last (by omega))
    · match k, h with
      | 0, h => omega
      | k + 1, h =>
        obtain ⟨j, hj⟩ : ∃ j : Nat, l0.length = j + 1 + i := ⟨l0.length - 1 - i, by omega⟩
        have e : (l0.length : Int) - 1 - i = (j : Int) := by omega
        rw [e]
        have hs := step (m := l0.length) (l := l) (i := i) (j := j) (by omega) (by omega) hl h0
        refine .at ctP_ok hs ?_
        have := loop hl k (i + 1) ((l.set i (l.getD j 0)).set j (l.getD i 0)) (by omega) (by simp [h0]) fun x hxl => by
          rw [getD_set, getD_set, List.length_set, h0]
          by_cases e1 : x = j
          · subst e1
            rw [if_pos ⟨rfl, hxl⟩, if_pos (by omega), hx i (by omega), if_neg (by omega), show l0.length - 1 - x = i by omega]
          · rw [if_neg (by omega)]
            by_cases e2 : x = i
            · subst e2
              rw [if_pos ⟨rfl, hxl⟩, if_pos (by omega), hx j (by omega), if_neg (by omega), show l0.length - 1 - x = j by omega]
            · rw [if_neg (by omega), hx x hxl]
              by_cases e3 : x < i ∨ l0.length < x + i + 1
              · rw [if_pos e3, if_pos (by omega)]
              · rw [if_neg e3, if_neg (by omega)]
        rw [show (l0.length : Int) - 1 - ((i + 1 : Nat) : Int) = (j : Int) - 1 by omega] at this
        exact this
theorem ends (l : List Int) (hl : l.length ≤ 60000) : EndM 1 134 ctP (st0m 134 [.slO 0 1 l.length true] [(0, .seq 3 (.ints .i64 l) true)] 1) (.tup []) [(0, .seq 3 (.ints .i64 l.reverse) true)] 1 := by
  have h := in_t l
  simp (disch := omega) only [Nat.add_eq, eqSy_self, eqN_self, bc_same, List.length_cons, ofn, wrap_in, dt, df, bltD, bltN, ble_of, bleN, beqD, bc_t, bc_f, nn_ok, Nat.zero_add, to_nat, Int.zero_add, Int.sub_zero, Int.sub_self, Int.cast_ofNat_Int, Int.natCast_zero, Int.toNat_zero, List.take_zero, List.nil_append, List.length_append, List.length_nil] at h
  refine .at ctP_ok h ?_
  have := loop hl l.length 0 l (by omega) rfl fun x hx => by rw [if_neg (by omega)]
  rwa [show (l.length : Int) - 1 - ((0 : Nat) : Int) = (l.length : Int) - 1 by omega] at this
end MRev
end Go.Proofs.Ythaljeccdeajoaa.EvM
namespace Go.Proofs.Ythaljeccdeajoaa.EvM
open Go.Proofs Go.Proofs.Ythaljeccdeajoaa.Ev
noncomputable def spRev : ZMT := fun ax K0 m => match ax, K0 with
  | [.slO 0 1 v_0 v_1], [(0, .seq 3 (.ints .i64 l) v_2)] => bc (Nat.beq m (1)) (some ⟨bc (Nat.beq v_0 (l.length)) (bc (eqN v_1 (true)) (bc (eqN v_2 (true)) (decide (l.length ≤ 60000)) false) false) false, .tup [], [(0, .seq 3 (.ints .i64 l.reverse) true)], 1, 1⟩) none
  | _, _ => none
theorem spRev_ok : ZMtOk Try.prog 134 spRev := fun γ w0 w us ax K0 m r hs hc hres hax hH => by
  unfold spRev at hs
  split at hs
  case h_2 => cases hs
  rename_i v_0 v_1 l v_2
  obtain ⟨hm, rfl⟩ := noN hs
  have hm := Nat.eq_of_beq_eq_true hm
  subst hm
  have hc_0 : bc (Nat.beq v_0 (l.length)) (bc (eqN v_1 (true)) (bc (eqN v_2 (true)) (decide (l.length ≤ 60000)) false) false) false = true := hc
  obtain ⟨q_0, hc_1⟩ := bcT hc_0
  have p_0 := (Nat.eq_of_beq_eq_true q_0).symm
  subst p_0
  obtain ⟨q_1, hc_2⟩ := bcT hc_1
  have p_1 := (eqN_ok q_1).symm
  subst p_1
  obtain ⟨q_2, hc_3⟩ := bcT hc_2
  have p_2 := (eqN_ok q_2).symm
  subst p_2
  have hc := of_decide_eq_true hc_3
  exact EndM.calls (MRev.ends l hc) ctP_ok (by kernel_rfl) hres hax hH
namespace MClo
noncomputable def R (s : ES) : ZF := RMs 1 133 ctP [] [] [] s
theorem in_t (l : List Int) : R (st0m 133 [.slO 0 1 l.length true] [(0, .seq 3 (.ints .i64 l) true)] 1) = (bc (bc (Nat.beq (List.length l) (List.length l)) (bc (Nat.ble ((0 : Nat) + List.length l) (65536 : Nat)) true false) false) (.done (EV.slO 1 1 (List.length ([] ++ l)) (true)) [(0, (EK.seq 3 (SyC.ints IntKind.i64 (l)) true)), (1, (EK.seq 3 (SyC.ints IntKind.i64 ([] ++ l)) (true)))] 2) .bad) := by kernel_rfl
theorem ends (l : List Int) (hl : l.length ≤ 60000) : EndM 1 133 ctP (st0m 133 [.slO 0 1 l.length true] [(0, .seq 3 (.ints .i64 l) true)] 1) (.slO 1 1 l.length true) [(0, .seq 3 (.ints .i64 l) true), (1, .seq 3 (.ints .i64 l) true)] 2 := by
  have h := in_t l
  simp (disch := omega) only [Nat.add_eq, eqSy_self, eqN_self, bc_same, List.length_cons, ofn, wrap_in, dt, df, bltD, bltN, ble_of, bleN, beqD, bc_t, bc_f, nn_ok, Nat.zero_add, to_nat, Int.zero_add, Int.sub_zero, Int.sub_self, Int.cast_ofNat_Int, Int.natCast_zero, Int.toNat_zero, List.take_zero, List.nil_append, List.length_append, List.length_nil] at h
  exact .done h
end MClo
noncomputable def spClo : ZMT := fun ax K0 m => match ax, K0 with
  | [.slO 0 1 v_0 v_1], [(0, .seq 3 (.ints .i64 l) v_2)] => bc (Nat.beq m (1)) (some ⟨bc (Nat.beq v_0 (l.length)) (bc (eqN v_1 (true)) (bc (eqN v_2 (true)) (decide (l.length ≤ 60000)) false) false) false, .slO 1 1 l.length true, [(0, .seq 3 (.ints .i64 l) true), (1, .seq 3 (.ints .i64 l) true)], 2, 1⟩) none
  | _, _ => none
theorem spClo_ok : ZMtOk Try.prog 133 spClo := fun γ w0 w us ax K0 m r hs hc hres hax hH => by
  unfold spClo at hs
  split at hs
  case h_2 => cases hs
  rename_i v_0 v_1 l v_2
  obtain ⟨hm, rfl⟩ := noN hs
  have hm := Nat.eq_of_beq_eq_true hm
  subst hm
  have hc_0 : bc (Nat.beq v_0 (l.length)) (bc (eqN v_1 (true)) (bc (eqN v_2 (true)) (decide (l.length ≤ 60000)) false) false) false = true := hc
  obtain ⟨q_0, hc_1⟩ := bcT hc_0
  have p_0 := (Nat.eq_of_beq_eq_true q_0).symm
  subst p_0
  obtain ⟨q_1, hc_2⟩ := bcT hc_1
  have p_1 := (eqN_ok q_1).symm
  subst p_1
  obtain ⟨q_2, hc_3⟩ := bcT hc_2
  have p_2 := (eqN_ok q_2).symm
  subst p_2
  have hc := of_decide_eq_true hc_3
  exact EndM.calls (MClo.ends l hc) ctP_ok (by kernel_rfl) hres hax hH
noncomputable def ctT : Tr ZCC := (ctW.put 134 (some (mC spRev))).put 133 (some (mC spClo))
theorem ctT_ok : ZCtsOk Try.prog ctT := (ctW_ok.addM rfl spRev_ok).addM rfl spClo_ok
noncomputable def thereQ (w : ByteArray) (l : List Int) : List (List U) := l.map (wk bCTC) ++ [wk w (l.getD (l.length - 1) 0)] ++ l.reverse.map (wk bCTC)
namespace MTher
noncomputable abbrev K0 (p : Int) (l : List Int) (q : List (List U)) (nn : Bool) : List (Nat × EK) := [(0, .cells 87 (MWith.ps p 2 q.length nn) true), (1, .seq 3 (.ints .i64 l) true), (2, .seq 76 (.recs shW q) nn)]
noncomputable def R (s : ES) : ZF := RMs 2 76 ctT [] [] [] s
theorem in_t (p : Int) (l : List Int) (w : ByteArray) (q : List (List U)) (nn : Bool) : R (st0m 76 [.ptr 0 0, .slO 1 1 l.length true, sv w] (K0 p l q nn) 3) = (bc (bc (bc (Nat.beq (List.length l) (List.length l)) (bc (Nat.beq (List.length q) (List.length q)) (bc (eqN nn nn) (bc (Nat.ble (List.length l) (60000 : Nat)) (Nat.blt (Nat.add (List.length q) (List.length l)) (65536 : Nat)) false) false) false) false) true false) (bc (bc (bc (decide ((0 : Int) ≤ IntKind.wrap IntKind.i64 (Int.ofNat (List.length l) - (1 : Int)))) (Nat.blt (Int.toNat (IntKind.wrap IntKind.i64 (Int.ofNat (List.length l) - (1 : Int)))) (List.length l)) false) true false) (bc (bc (Nat.blt (Int.toNat (IntKind.wrap IntKind.i64 (Int.ofNat (List.length l) - (1 : Int)))) (List.length l)) true false) (bc (bc (bc (Nat.beq (List.length (q ++ List.map (wk { data := #[(67 : UInt8), (84 : UInt8), (67 : UInt8)] }) l)) (List.length (q ++ List.map (wk { data := #[(67 : UInt8), (84 : UInt8), (67 : UInt8)] }) l))) (bc (eqN (bc nn true (Nat.blt (0 : Nat) (List.length l))) (bc nn true (Nat.blt (0 : Nat) (List.length l)))) (Nat.blt (Nat.add (List.length (q ++ List.map (wk { data := #[(67 : UInt8), (84 : UInt8), (67 : UInt8)] }) l)) (List.length (List.map (fun r => U.int (List.headD r (U.i (0 : Int)))) [[U.i (List.getD l (Int.toNat (IntKind.wrap IntKind.i64 (Int.ofNat (List.length l) - (1 : Int)))) (0 : Int))]]))) (65536 : Nat)) false) false) true false) (bc (bc (bc (Nat.beq (List.length l) (List.length l)) (decide (List.length l ≤ (60000 : Nat))) false) true false) (bc (bc (bc (Nat.beq (List.length l) (List.length l)) (decide (List.length l ≤ (60000 : Nat))) false) true false) (bc (bc (bc (Nat.beq (List.length l) (List.length (List.reverse l))) (bc (Nat.beq (List.length (q ++ List.map (wk { data := #[(67 : UInt8), (84 : UInt8), (67 : UInt8)] }) l ++ List.map (wk w) (List.map (fun r => U.int (List.headD r (U.i (0 : Int)))) [[U.i (List.getD l (Int.toNat (IntKind.wrap IntKind.i64 (Int.ofNat (List.length l) - (1 : Int)))) (0 : Int))]]))) (List.length (q ++ List.map (wk { data := #[(67 : UInt8), (84 : UInt8), (67 : UInt8)] }) l ++ List.map (wk w) (List.map (fun r => U.int (List.headD r (U.i (0 : Int)))) [[U.i (List.getD l (Int.toNat (IntKind.wrap IntKind.i64 (Int.ofNat (List.length l) - (1 : Int)))) (0 : Int))]])))) (bc (eqN (bc (bc nn true (Nat.blt (0 : Nat) (List.length l))) true (Nat.blt (0 : Nat) (List.length (List.map (fun r => U.int (List.headD r (U.i (0 : Int)))) [[U.i (List.getD l (Int.toNat (IntKind.wrap IntKind.i64 (Int.ofNat (List.length l) - (1 : Int)))) (0 : Int))]])))) (bc (bc nn true (Nat.blt (0 : Nat) (List.length l))) true (Nat.blt (0 : Nat) (List.length (List.map (fun r => U.int (List.headD r (U.i (0 : Int)))) [[U.i (List.getD l (Int.toNat (IntKind.wrap IntKind.i64 (Int.ofNat (List.length l) - (1 : Int)))) (0 : Int))]]))))) (bc (Nat.ble (List.length (List.reverse l)) (60000 : Nat)) (Nat.blt (Nat.add (List.length (q ++ List.map (wk { data := #[(67 : UInt8), (84 : UInt8), (67 : UInt8)] }) l ++ List.map (wk w) (List.map (fun r => U.int (List.headD r (U.i (0 : Int)))) [[U.i (List.getD l (Int.toNat (IntKind.wrap IntKind.i64 (Int.ofNat (List.length l) - (1 : Int)))) (0 : Int))]]))) (List.length (List.reverse l))) (65536 : Nat)) false) false) false) false) true false) (.done (EV.tup []) [(0, (EK.cells 87 [(EV.v (Value.int IntKind.i64 (p))), (EV.slO 2 3 (List.length (q ++ List.map (wk { data := #[(67 : UInt8), (84 : UInt8), (67 : UInt8)] }) l ++ List.map (wk w) (List.map (fun r => U.int (List.headD r (U.i (0 : Int)))) [[U.i (List.getD l (Int.toNat (IntKind.wrap IntKind.i64 (Int.ofNat (List.length l) - (1 : Int)))) (0 : Int))]]) ++ List.map (wk { data := #[(67 : UInt8), (84 : UInt8), (67 : UInt8)] }) (List.reverse l))) (bc (bc (bc nn true (Nat.blt (0 : Nat) (List.length l))) true (Nat.blt (0 : Nat) (List.length (List.map (fun r => U.int (List.headD r (U.i (0 : Int)))) [[U.i (List.getD l (Int.toNat (IntKind.wrap IntKind.i64 (Int.ofNat (List.length l) - (1 : Int)))) (0 : Int))]])))) true (Nat.blt (0 : Nat) (List.length (List.reverse l)))))] true)), (1, (EK.seq 3 (SyC.ints IntKind.i64 (l)) true)), (2, (EK.seq 76 (SyC.recs [(Sh.int IntKind.i64), (Sh.int IntKind.i64), Sh.str] (q ++ List.map (wk { data := #[(67 : UInt8), (84 : UInt8), (67 : UInt8)] }) l ++ List.map (wk w) (List.map (fun r => U.int (List.headD r (U.i (0 : Int)))) [[U.i (List.getD l (Int.toNat (IntKind.wrap IntKind.i64 (Int.ofNat (List.length l) - (1 : Int)))) (0 : Int))]]) ++ List.map (wk { data := #[(67 : UInt8), (84 : UInt8), (67 : UInt8)] }) (List.reverse l))) (bc (bc (bc nn true (Nat.blt (0 : Nat) (List.length l))) true (Nat.blt (0 : Nat) (List.length (List.map (fun r => U.int (List.headD r (U.i (0 : Int)))) [[U.i (List.getD l (Int.toNat (IntKind.wrap IntKind.i64 (Int.ofNat (List.length l) - (1 : Int)))) (0 : Int))]])))) true (Nat.blt (0 : Nat) (List.length (List.reverse l))))))] 3) .bad) .bad) .bad) .bad) .bad) .bad) .bad) := by kernel_rfl
theorem ends (p : Int) (l : List Int) (w : ByteArray) (q : List (List U)) (nn : Bool) (h1 : 1 ≤ l.length) (h2 : l.length ≤ 1000) (h3 : q.length ≤ 60000) : EndM 2 76 ctT (st0m 76 [.ptr 0 0, .slO 1 1 l.length true, sv w] (K0 p l q nn) 3) (.tup []) (K0 p l (q ++ thereQ w l) true) 3 := by
  have h := in_t p l w q nn
  have e1 : Int.toNat ((l.length : Int) - 1) = l.length - 1 := by omega
  have e2 : bc nn true true = true := by cases nn <;> rfl
  have e3 : q ++ thereQ w l = q ++ List.map (wk bCTC) l ++ List.map (wk w) (List.map (fun r => U.int (List.headD r (U.i 0))) [[U.i (List.getD l (l.length - 1) 0)]]) ++ List.map (wk bCTC) (List.reverse l) := by
    unfold thereQ
    simp [U.int]
  simp (disch := omega) only [Nat.add_eq, eqSy_self, eqN_self, bc_same, List.length_cons, ofn, wrap_in, dt, df, bltD, bltN, ble_of, bleN, beqD, bc_t, bc_f, nn_ok, Nat.zero_add, to_nat, Int.zero_add, Int.sub_zero, Int.sub_self, Int.cast_ofNat_Int, Int.natCast_zero, Int.toNat_zero, List.take_zero, List.nil_append, List.length_append, List.length_nil, List.length_map, List.length_reverse, e1, e2, List.map_cons, List.map_nil] at h
  rw [e3]
  refine .done (h.trans ?_)
  simp (disch := omega) only [K0, MWith.ps, Nat.add_eq, eqSy_self, eqN_self, bc_same, List.length_cons, ofn, wrap_in, dt, df, bltD, bltN, ble_of, bleN, beqD, bc_t, bc_f, nn_ok, Nat.zero_add, to_nat, Int.zero_add, Int.sub_zero, Int.sub_self, Int.cast_ofNat_Int, Int.natCast_zero, Int.toNat_zero, List.take_zero, List.nil_append, List.length_append, List.length_nil, List.length_map, List.length_reverse, e1, e2, List.map_cons, List.map_nil]
  rfl
end MTher
noncomputable def spTher : ZMT := fun ax K0 m => match ax, K0 with
  | [.ptr 0 0, .slO 1 1 v_0 v_1, .v (.string w)], [(0, .cells 87 [.v (.int .i64 p), .slO 2 3 v_2 nn] true), (1, .seq 3 (.ints .i64 l) v_3), (2, .seq 76 (.recs [.int .i64, .int .i64, .str] q) v_4)] => bc (Nat.beq m (3)) (some ⟨bc (Nat.beq v_0 (l.length)) (bc (eqN v_1 (true)) (bc (Nat.beq v_2 (q.length)) (bc (eqN v_3 (true)) (bc (eqN v_4 (nn)) (decide (1 ≤ l.length ∧ l.length ≤ 1000 ∧ q.length ≤ 60000)) false) false) false) false) false, .tup [], MTher.K0 p l (q ++ thereQ w l) true, 3, 2⟩) none
  | _, _ => none
theorem spTher_ok : ZMtOk Try.prog 76 spTher := fun γ w0 w us ax K0 m r hs hc hres hax hH => by
  unfold spTher at hs
  split at hs
  case h_2 => cases hs
  rename_i v_0 v_1 w p v_2 nn l v_3 q v_4
  obtain ⟨hm, rfl⟩ := noN hs
  have hm := Nat.eq_of_beq_eq_true hm
  subst hm
  have hc_0 : bc (Nat.beq v_0 (l.length)) (bc (eqN v_1 (true)) (bc (Nat.beq v_2 (q.length)) (bc (eqN v_3 (true)) (bc (eqN v_4 (nn)) (decide (1 ≤ l.length ∧ l.length ≤ 1000 ∧ q.length ≤ 60000)) false) false) false) false) false = true := hc
  obtain ⟨q_0, hc_1⟩ := bcT hc_0
  have p_0 := (Nat.eq_of_beq_eq_true q_0).symm
  subst p_0
  obtain ⟨q_1, hc_2⟩ := bcT hc_1
  have p_1 := (eqN_ok q_1).symm
  subst p_1
  obtain ⟨q_2, hc_3⟩ := bcT hc_2
  have p_2 := (Nat.eq_of_beq_eq_true q_2).symm
  subst p_2
  obtain ⟨q_3, hc_4⟩ := bcT hc_3
  have p_3 := (eqN_ok q_3).symm
  subst p_3
  obtain ⟨q_4, hc_5⟩ := bcT hc_4
  have p_4 := (eqN_ok q_4).symm
  subst p_4
  have hc := of_decide_eq_true hc_5
  exact EndM.calls (MTher.ends p l w q nn hc.1 hc.2.1 hc.2.2) ctT_ok (by kernel_rfl) hres hax hH
end Go.Proofs.Ythaljeccdeajoaa.EvM
namespace Go.Proofs.Ythaljeccdeajoaa.EvM
open Go.Proofs Go.Proofs.Ythaljeccdeajoaa.Ev
namespace MWay
noncomputable def RO (s : ES) : ZF := RZ 77 .nil (atS 0 77 3) [] [[(1,none),(5,none),(6,none)]] true s
theorem in_o (n m : Int) : RO (st0 77 [iv n, iv m]) = (.at ⟨[⟨77, 25, [(1, (EV.v (Value.int IntKind.i64 (m)))), (5, (EV.slO 0 1 1 true)), (6, (EV.v (Value.int IntKind.i64 (n))))], [.it (.code (nav [1, 1, 0, 1, 0, 0, 0] (bodyOf Try.f77))), .it (.code (nav [1, 1, 0, 1, 0, 0, 1] (bodyOf Try.f77))), .it (.inLoop (nav [1, 1, 0, 1, 0, 0] (bodyOf Try.f77))), .it (.inBlock 0), .it (.code (nav [1, 1, 1] (bodyOf Try.f77)))], [], Option.none⟩], [(0, (EK.seq 3 (SyC.ints IntKind.i64 (List.map (fun r => U.int (List.headD r (U.i (0 : Int)))) [[U.i n]])) true))], 1⟩) := by kernel_rfl
theorem last_o (n : Int) (q : List Int) : RO (stOf (sD n n q)) = (bc (n != n)
  (bc (decide (n < n))
    (bc (bc (Nat.beq (List.length q) (List.length q)) (bc (Nat.ble (List.length q + List.length (List.map (fun r => U.int (List.headD r (U.i (0 : Int)))) [[U.i (IntKind.wrap IntKind.i64 (n + (1 : Int)))]])) (65536 : Nat)) true false) false)
      (.at ⟨[⟨77, 25, [(1, (EV.v (Value.int IntKind.i64 (n)))), (5, (EV.slO 0 1 (List.length (q ++ List.map (fun r => U.int (List.headD r (U.i (0 : Int)))) [[U.i (IntKind.wrap IntKind.i64 (n + (1 : Int)))]])) (true))), (6, (EV.v (Value.int IntKind.i64 (IntKind.wrap IntKind.i64 (n + (1 : Int))))))], [.it (.code (nav [1, 1, 0, 1, 0, 0, 0] (bodyOf Try.f77))), .it (.code (nav [1, 1, 0, 1, 0, 0, 1] (bodyOf Try.f77))), .it (.inLoop (nav [1, 1, 0, 1, 0, 0] (bodyOf Try.f77))), .it (.inBlock 0), .it (.code (nav [1, 1, 1] (bodyOf Try.f77)))], [], Option.none⟩], [(0, (EK.seq 3 (SyC.ints IntKind.i64 (q ++ List.map (fun r => U.int (List.headD r (U.i (0 : Int)))) [[U.i (IntKind.wrap IntKind.i64 (n + (1 : Int)))]])) (true)))], 1⟩)
      .bad)
    (bc (bc (Nat.beq (List.length q) (List.length q)) (bc (Nat.ble (List.length q + List.length (List.map (fun r => U.int (List.headD r (U.i (0 : Int)))) [[U.i (IntKind.wrap IntKind.i64 (n - (1 : Int)))]])) (65536 : Nat)) true false) false)
      (.at ⟨[⟨77, 25, [(1, (EV.v (Value.int IntKind.i64 (n)))), (5, (EV.slO 0 1 (List.length (q ++ List.map (fun r => U.int (List.headD r (U.i (0 : Int)))) [[U.i (IntKind.wrap IntKind.i64 (n - (1 : Int)))]])) (true))), (6, (EV.v (Value.int IntKind.i64 (IntKind.wrap IntKind.i64 (n - (1 : Int))))))], [.it (.code (nav [1, 1, 0, 1, 0, 0, 0] (bodyOf Try.f77))), .it (.code (nav [1, 1, 0, 1, 0, 0, 1] (bodyOf Try.f77))), .it (.inLoop (nav [1, 1, 0, 1, 0, 0] (bodyOf Try.f77))), .it (.inBlock 0), .it (.code (nav [1, 1, 1] (bodyOf Try.f77)))], [], Option.none⟩], [(0, (EK.seq 3 (SyC.ints IntKind.i64 (q ++ List.map (fun r => U.int (List.headD r (U.i (0 : Int)))) [[U.i (IntKind.wrap IntKind.i64 (n - (1 : Int)))]])) (true)))], 1⟩)
      .bad))
  (.done (EV.slO 0 1 (List.length q) true) [(0, (EK.seq 3 (SyC.ints IntKind.i64 (q)) true))] 1)) := by kernel_rfl
theorem upsL {n : Int} (hn : n ≤ 1000) : ∀ (k : Nat) (i : Int) (q : List Int), i + k = n → -1000 ≤ i → q.length + k ≤ 5000 → LeadsZ Try.prog (stOf (sD n i q)) (stOf (sD n n (q ++ upI i k)))
  | 0, i, q, h, _, hq => by
    have : i = n := by omega
    subst this
    show LeadsZ _ _ (stOf (sD i i (q ++ [])))
    rw [List.append_nil]
    exact LeadsZ.refl _
  | k + 1, i, q, h, hi, hq => by
    show LeadsZ _ _ (stOf (sD n n (q ++ ((i + 1) :: upI (i + 1) k))))
    rw [show q ++ (i + 1) :: upI (i + 1) k = (q ++ [i + 1]) ++ upI (i + 1) k by simp]
    exact (leadsZ (.nil _) (up (by omega) hi hn (by omega))).trans (upsL hn k (i + 1) _ (by omega) (by omega) (by simp; omega))
theorem dnsL {n : Int} (hn : -1000 ≤ n) : ∀ (k : Nat) (i : Int) (q : List Int), i - k = n → i ≤ 1000 → q.length + k ≤ 5000 → LeadsZ Try.prog (stOf (sD n i q)) (stOf (sD n n (q ++ dnI i k)))
  | 0, i, q, h, _, hq => by
    have : i = n := by omega
    subst this
    show LeadsZ _ _ (stOf (sD i i (q ++ [])))
    rw [List.append_nil]
    exact LeadsZ.refl _
  | k + 1, i, q, h, hi, hq => by
    show LeadsZ _ _ (stOf (sD n n (q ++ ((i - 1) :: dnI (i - 1) k))))
    rw [show q ++ (i - 1) :: dnI (i - 1) k = (q ++ [i - 1]) ++ dnI (i - 1) k by simp]
    exact (leadsZ (.nil _) (dn (by omega) hi hn (by omega))).trans (dnsL hn k (i - 1) _ (by omega) (by omega) (by simp; omega))
theorem endsO {a b : Int} (ha : -1000 ≤ a) (ha2 : a ≤ 1000) (hb : -1000 ≤ b) (hb2 : b ≤ 1000) : EndZ 77 .nil true (st0 77 [iv a, iv b]) (.slO 0 1 (wayL a b).length true) (zseqs [(0, 3, .ints .i64 (wayL a b), true)]) 1 := by
  have hl := last_o b (wayL a b)
  have hd : ∀ q, EndZ 77 .nil true (stOf (sD b b q)) (.slO 0 1 q.length true) (zseqs [(0, 3, .ints .i64 q, true)]) 1 := fun q => .done (by
    have hl := last_o b q
    have e : (b != b) = false := by simp
    simp only [Nat.add_eq, eqSy_self, eqN_self, bc_same, List.length_cons, ofn, wrap_in, dt, df, bltD, bltN, ble_of, bleN, beqD, bc_t, bc_f, nn_ok, Nat.zero_add, to_nat, Int.zero_add, Int.sub_zero, Int.sub_self, Int.cast_ofNat_Int, Int.natCast_zero, Int.toNat_zero, List.take_zero, List.nil_append, List.length_append, List.length_nil, e] at hl
    exact hl)
  unfold wayL
  have h := in_o a b
  by_cases hab : a < b
  · rw [dt hab, bc_t]
    exact .at (.nil _) h (.lead (upsL hb2 (b - a).toNat a [a] (by omega) ha (by simp; omega)) (hd _))
  · rw [df hab, bc_f]
    exact .at (.nil _) h (.lead (dnsL hb (a - b).toNat a [a] (by omega) ha2 (by simp; omega)) (hd _))
end MWay
noncomputable def spWayO : ZCT := fun ax => match ax with
  | [.v (.int .i64 a), .v (.int .i64 b)] => some ⟨decide (-1000 ≤ a ∧ a ≤ 1000 ∧ -1000 ≤ b ∧ b ≤ 1000), .slO 0 1 (wayL a b).length true, [(0, 3, .ints .i64 (wayL a b), true)], 1⟩
  | _ => none
theorem spWayO_ok : ZCtOk Try.prog 77 spWayO := fun γ w us ax r hs hc hax hN hfz => by
  unfold spWayO at hs
  split at hs
  case h_2 => cases hs
  rename_i a b
  obtain ⟨rfl⟩ := Option.some.inj hs
  have hc_0 : decide (-1000 ≤ a ∧ a ≤ 1000 ∧ -1000 ≤ b ∧ b ≤ 1000) = true := hc
  have hc := of_decide_eq_true hc_0
  exact EndZ.calls (MWay.endsO hc.1 hc.2.1 hc.2.2.1 hc.2.2.2) (.nil _) (by kernel_rfl) hax hN hfz
noncomputable def ctF : Tr ZCC := (ctT.put 77 (some (dC spWayO))).put 76 (some (mC spTher))
theorem ctF_ok : ZCtsOk Try.prog ctF := (ctT_ok.add rfl spWayO_ok).addM rfl spTher_ok

theorem dnI_range : ∀ (m : Nat) (a : Int), dnI a m = (List.range m).map (fun i : Nat => a - 1 - (i : Int))
  | 0, a => rfl
  | m + 1, a => by
    show (a - 1) :: dnI (a - 1) m = _
    rw [dnI_range m, List.range_succ_eq_map, List.map_cons, List.map_map]
    congr 1
    · omega
    · apply List.map_congr_left; intro i _; show a - 1 - 1 - (i : Int) = a - 1 - ((i + 1 : Nat) : Int); omega
noncomputable def castL (k : Nat) : List Int := (List.range k).map (fun i : Nat => (i : Int))
theorem castL_len (k : Nat) : (castL k).length = k := by unfold castL; simp
theorem wayDn (k : Nat) : wayL (((k + 1 : Nat) : Int) - 1) 0 = (castL (k + 1)).reverse := by
  rw [show ((k + 1 : Nat) : Int) - 1 = (k : Int) by omega]
  unfold wayL
  rw [df (show ¬ (k : Int) < 0 by omega), bc_f, dnI_range, show ((k : Int) - 0).toNat = k by omega]
  apply List.ext_getElem
  · simp [castL]
  · intro i h1 h2
    simp at h1
    rw [List.getElem_reverse]
    simp only [castL, List.getElem_map, List.getElem_range, List.length_map, List.length_range]
    cases i with
    | zero => simp
    | succ i => simp; omega
theorem upR_cast : ∀ (m i : Nat), upR i m = (List.range m).map (fun j : Nat => wk bCTC ((i + j : Nat) : Int))
  | 0, i => rfl
  | m + 1, i => by
    show wk bCTC (i : Int) :: upR (i + 1) m = _
    rw [upR_cast m, List.range_succ_eq_map, List.map_cons, List.map_map]
    congr 1
    apply List.map_congr_left; intro j _
    show wk bCTC ((i + 1 + j : Nat) : Int) = wk bCTC ((i + (j + 1) : Nat) : Int)
    rw [show i + 1 + j = i + (j + 1) by omega]
theorem upR_eq (k : Nat) : upR 0 k = (castL k).map (wk bCTC) := by
  rw [upR_cast, castL, List.map_map]
  apply List.map_congr_left; intro j _
  show wk bCTC ((0 + j : Nat) : Int) = wk bCTC (j : Int)
  rw [Nat.zero_add]
theorem downR_eq : ∀ k, downR k = (castL k).reverse.map (wk bCTC)
  | 0 => rfl
  | k + 1 => by
    show wk bCTC (k : Int) :: downR k = _
    rw [downR_eq k]
    unfold castL
    rw [List.range_succ]
    simp
theorem castR_last (k : Nat) : (castL (k + 1)).reverse.getD ((castL (k + 1)).reverse.length - 1) 0 = 0 := by
  rw [List.length_reverse, castL_len, getD_at (by rw [List.length_reverse, castL_len]; omega), List.getElem_reverse]
  simp [castL]
theorem thereDn (k : Nat) : thereQ bLLP (wayL (((k + 1 : Nat) : Int) - 1) 0) = footL1 (k + 1) := by
  rw [wayDn]
  unfold thereQ footL1
  rw [castR_last, upR_eq, downR_eq, List.reverse_reverse]
theorem wayDn_len (k : Nat) : (wayL (((k + 1 : Nat) : Int) - 1) 0).length = k + 1 := by rw [wayDn, List.length_reverse, castL_len]

namespace MFan
end MFan
namespace MFoot
noncomputable def RUN (s : ES) : ZF := RZs 22 ctF [(atS 0 22 7, [[(0,none),(4,none),(6,some (3, 76, .recs shW [])),(32,none),(33,none)]])] [] false s

noncomputable def sF (n m p i : Int) (q : List (List U)) (nn : Bool) : NS := ⟨[⟨22, 47, [(0, (EV.v (Value.int IntKind.i64 (n)))), (4, (EV.ptr 0 0)), (6, (EV.ptr 1 0)), (32, (EV.v (Value.int IntKind.i64 (m)))), (33, iv i)], [.it (.code (nav [1, 1, 1, 0, 1, 0, 0] (bodyOf Try.f22))), .it (.inLoop (nav [1, 1, 1, 0, 1, 0, 0] (bodyOf Try.f22))), .it (.inBlock 1), .it (.code (nav [1, 1, 1, 1] (bodyOf Try.f22)))], [], Option.none⟩], [(0, (EK.cells 24 [(EV.v (Value.int IntKind.i64 (0))), (EV.v (Value.slice Option.none 0 0))] true)), (1, EK.cells 87 [iv p, EV.slO 2 3 q.length nn] true), (2, EK.seq 76 (.recs shW q) nn)], 3⟩
theorem in_t (n m : Int) : RUN (st0 22 [iv n, iv m]) = (bc (decide (n < (1 : Int))) (.done (EV.tup [(EV.v (Value.agg (Array.mk [(Value.int IntKind.i64 (0)), (Value.slice Option.none 0 0)]))), (EV.v (Value.int IntKind.i64 (7)))]) [] 0) (bc (decide ((23 : Int) < n)) (.done (EV.tup [(EV.v (Value.agg (Array.mk [(Value.int IntKind.i64 (0)), (Value.slice Option.none 0 0)]))), (EV.v (Value.int IntKind.i64 (7)))]) [] 0) (bc (decide (m < (1 : Int))) (.done (EV.tup [(EV.v (Value.agg (Array.mk [(Value.int IntKind.i64 (0)), (Value.slice Option.none 0 0)]))), (EV.v (Value.int IntKind.i64 (7)))]) [] 0) (bc (bc (bnot (IntKind.wrap IntKind.i64 (IntKind.wrap IntKind.i64 ((2 : Int) * n) + (1 : Int)) == (0 : Int))) true false) (bc (decide (IntKind.wrap IntKind.i64 (Int.tdiv (400 : Int) (IntKind.wrap IntKind.i64 (IntKind.wrap IntKind.i64 ((2 : Int) * n) + (1 : Int)))) < m)) (.done (EV.tup [(EV.v (Value.agg (Array.mk [(Value.int IntKind.i64 (0)), (Value.slice Option.none 0 0)]))), (EV.v (Value.int IntKind.i64 (3)))]) [] 0) (.at (sF (n) (m) (IntKind.wrap IntKind.i64 (n + (1 : Int))) ((0 : Int)) ([]) (false)))) .bad)))) := by kernel_rfl
theorem st_t (n m p i : Int) (q : List (List U)) (nn : Bool) : RUN (stOf (sF n m p i q nn)) = (bc (decide (i < m)) (bc (decide ((-1000 : Int) ≤ IntKind.wrap IntKind.i64 (n - (1 : Int)) ∧ IntKind.wrap IntKind.i64 (n - (1 : Int)) ≤ (1000 : Int) ∧ (-1000 : Int) ≤ (0 : Int) ∧ (0 : Int) ≤ (1000 : Int))) (bc (bc (bc (Nat.beq (List.length (wayL (IntKind.wrap IntKind.i64 (n - (1 : Int))) (0 : Int))) (List.length (wayL (IntKind.wrap IntKind.i64 (n - (1 : Int))) (0 : Int)))) (bc (Nat.beq (List.length q) (List.length q)) (bc (eqN nn nn) (decide ((1 : Nat) ≤ List.length (wayL (IntKind.wrap IntKind.i64 (n - (1 : Int))) (0 : Int)) ∧ List.length (wayL (IntKind.wrap IntKind.i64 (n - (1 : Int))) (0 : Int)) ≤ (1000 : Nat) ∧ List.length q ≤ (60000 : Nat))) false) false) false) true false) (.at (sF (n) (m) (p) (IntKind.wrap IntKind.i64 (i + (1 : Int))) (q ++ thereQ (zjoin (List.map (fun r => U.str (List.headD r (U.i (0 : Int)))) [[U.s { data := #[(76 : UInt8)] }], [U.s { data := #[(76 : UInt8)] }], [U.s { data := #[(80 : UInt8)] }]]) { data := #[] }) (wayL (IntKind.wrap IntKind.i64 (n - (1 : Int))) (0 : Int))) (true))) .bad) .bad) (bc (bc (bc (Nat.beq (List.length q) (List.length q)) true false) true false) (.done (EV.tup [(EV.agg [(EV.v (Value.int IntKind.i64 (p))), (EV.lst (SyC.recs [(Sh.int IntKind.i64), (Sh.int IntKind.i64), Sh.str] (q)))]), (EV.v (Value.int IntKind.i64 (0)))]) [] 0) .bad)) := by kernel_rfl
theorem zj : zjoin (List.map (fun r => U.str (List.headD r (U.i 0))) [[U.s { data := #[76] }], [U.s { data := #[76] }], [U.s { data := #[80] }]]) { data := #[] } = bLLP := ba_ext rfl
theorem step {m p : Int} {n i : Nat} {q : List (List U)} {nn : Bool} (hi : (i : Int) < m) (hm : m ≤ 400) (hn : n + 1 ≤ 23) (hq : q.length ≤ 50000) : RUN (stOf (sF (n + 1 : Nat) m p i q nn)) = .at (sF (n + 1 : Nat) m p (i + 1 : Nat) (q ++ footL1 (n + 1)) true) := by
  rw [st_t]
  have hw := wayDn_len n
  simp (disch := omega) only [Nat.add_eq, eqSy_self, eqN_self, bc_same, List.length_cons, ofn, wrap_in, dt, df, bltD, bltN, ble_of, bleN, beqD, bc_t, bc_f, nn_ok, Nat.zero_add, to_nat, Int.zero_add, Int.sub_zero, Int.sub_self, Int.cast_ofNat_Int, Int.natCast_zero, Int.toNat_zero, List.take_zero, List.nil_append, List.length_append, List.length_nil, zj, thereDn]
  rfl
theorem last {n m p : Int} {i : Nat} {q : List (List U)} {nn : Bool} (hi : m ≤ (i : Int)) : RUN (stOf (sF n m p i q nn)) = .done (shE p q 0) [] 0 := by
  rw [st_t]
  simp (disch := omega) only [Nat.add_eq, eqSy_self, eqN_self, bc_same, List.length_cons, ofn, wrap_in, dt, df, bltD, bltN, ble_of, bleN, beqD, bc_t, bc_f, nn_ok, Nat.zero_add, to_nat, Int.zero_add, Int.sub_zero, Int.sub_self, Int.cast_ofNat_Int, Int.natCast_zero, Int.toNat_zero, List.take_zero, List.nil_append, List.length_append, List.length_nil]
  rfl
theorem loop {m n : Nat} {p : Int} (hm : m ≤ 400) (hn : n + 1 ≤ 23) : ∀ (k i : Nat) (q : List (List U)) (nn : Bool), i + k = m → q.length ≤ 47 * i → EndZ 22 ctF false (stOf (sF (n + 1 : Nat) m p i q nn)) (shE p (q ++ footR (n + 1) k) 0) [] 0
  | 0, i, q, nn, h, hq => by
    show EndZ _ _ _ _ (shE p (q ++ []) 0) _ _
    rw [List.append_nil]
    exact .done (last (by omega))
  | k + 1, i, q, nn, h, hq => by
    show EndZ _ _ _ _ (shE p (q ++ (footL1 (n + 1) ++ footR (n + 1) k)) 0) _ _
    rw [← List.append_assoc]
    exact .at ctF_ok (step (by omega) (by omega) hn (by omega)) (loop hm hn k (i + 1) _ true (by omega) (by unfold footL1; simp [upR_len, downR_len]; omega))
theorem ends (n m : Int) : EndZ 22 ctF false (st0 22 [iv n, iv m]) (shE (footP n m) (footL n m) (footE n m)) [] 0 := by
  have h := in_t n m
  unfold footP footL
  by_cases h1 : n < 1
  · have e : footE n m = 7 := by unfold footE; rw [dt h1, bc_t]
    rw [e]; simp only [dt h1, bc_t] at h; exact (EndZ.done h).weak (shN_weak 7)
  by_cases h2 : 23 < n
  · have e : footE n m = 7 := by unfold footE; rw [df h1, bc_f, dt h2, bc_t]
    rw [e]; simp only [df h1, dt h2, bc_t, bc_f] at h; exact (EndZ.done h).weak (shN_weak 7)
  by_cases h3 : m < 1
  · have e : footE n m = 7 := by unfold footE; rw [df h1, bc_f, df h2, bc_f, dt h3, bc_t]
    rw [e]; simp only [df h1, df h2, dt h3, bc_t, bc_f] at h; exact (EndZ.done h).weak (shN_weak 7)
  have g1 : 0 ≤ Int.tdiv 400 (2 * n + 1) := Int.tdiv_nonneg (by omega) (by omega)
  have g2 : Int.tdiv 400 (2 * n + 1) ≤ 400 := Int.tdiv_le_self _ (by omega)
  have g3 : (2 * n + 1 == 0) = false := by simp; omega
  have g4 : bnot (2 * n + 1 == 0) = true := by rw [g3]; rfl
  rw [wrap_in (2 * n) (by omega) (by omega), wrap_in (2 * n + 1) (by omega) (by omega), wrap_in (Int.tdiv 400 (2 * n + 1)) (by omega) (by omega)] at h
  by_cases h4 : Int.tdiv 400 (2 * n + 1) < m
  · have e : footE n m = 3 := by unfold footE; rw [df h1, bc_f, df h2, bc_f, df h3, bc_f, dt h4, bc_t]
    rw [e]; simp only [df h1, df h2, df h3, dt h4, g4, bc_t, bc_f] at h; exact (EndZ.done h).weak (shN_weak 3)
  have e : footE n m = 0 := by unfold footE; rw [df h1, bc_f, df h2, bc_f, df h3, bc_f, df h4, bc_f]
  rw [e]
  simp (disch := omega) only [df h1, df h2, df h3, df h4, g4, bc_t, bc_f, dt, wrap_in] at h
  obtain ⟨n', rfl⟩ : ∃ k : Nat, n = ((k + 1 : Nat) : Int) := ⟨n.toNat - 1, by omega⟩
  obtain ⟨m', rfl⟩ : ∃ k : Nat, m = (k : Int) := ⟨m.toNat, by omega⟩
  have := loop (n := n') (m := m') (p := ((n' + 1 : Nat) : Int) + 1) (by omega) (by omega) m' 0 [] false (by omega) (by simp)
  rw [List.nil_append] at this
  exact .at ctF_ok h this
end MFoot
noncomputable def spPFoot : ZCT := fun ax => match ax with
  | [.v (.int .i64 n), .v (.int .i64 m)] => some ⟨decide (True), shE (footP n m) (footL n m) (footE n m), [], 0⟩
  | _ => none
theorem spPFoot_ok : ZCtOk Try.prog 22 spPFoot := fun γ w us ax r hs hc hax hN hfz => by
  unfold spPFoot at hs
  split at hs
  case h_2 => cases hs
  rename_i n m
  obtain ⟨rfl⟩ := Option.some.inj hs
  have hc_0 : decide (True) = true := hc
  have hc := of_decide_eq_true hc_0
  exact EndZ.calls (MFoot.ends n m) ctF_ok (by kernel_rfl) hax hN hfz
end Go.Proofs.Ythaljeccdeajoaa.EvM
namespace Go.Proofs.Ythaljeccdeajoaa
open Go.ChangeShapes Go.WideShapes Go.ChangeAt Go.RowKit

theorem kept_of_stays {W W' : World} (h : Ev.Stays W W') (may : MemPlace → Prop) : W.keptBut W' may := by
  refine ⟨h.os, h.output, fun i hi => ?_⟩
  have e := h.block i hi
  rw [e]
  cases hb : W.heap[i]? with
  | none => simp
  | some o =>
    cases o <;> first | exact ⟨rfl, rfl, rfl, fun _ _ => rfl⟩ | exact .inr ⟨rfl, rfl⟩ | rfl
theorem frozen_of_stays {W W' : World} (h : Ev.Stays W W') (a : Addr) (ha : a.block < W.heap.size) : W'.frozen? a = W.frozen? a := by
  unfold World.frozen?
  rw [h.block _ ha]
section
variable {H : Type} {enc : TypeId × Value → H} {P : Program}

theorem post_of_stays {f : Func} {s : ChangeSpec} {apart fresh handsOn again : Bool} {W W' : World} {args : Array Value} {v : Value} {ds gs : List (DataW H)} {before pa pv : List MemPlace}
    (hW : DataW.Whole enc P f.params.toList s.vars apart W args.toList ds gs before)
    (hres : ∀ (b : Nat) (sp : Nat → Bool) (hd : Bool), DataW.TrodAll enc P W' b sp hd f.resultTypes.toList (v.resultList f.resultTypes.size) (s.fn H (ds ++ gs)).results [])
    (hargs : ∀ sp : Nat → Bool, (∀ p ∈ before, sp p.block = true) → DataW.TrodAll enc P W' 0 sp true f.params.toList args.toList (s.fn H (ds ++ gs)).args pa)
    (hvars : ∀ sp : Nat → Bool, (∀ p ∈ before, sp p.block = true) → DataW.TrodVars enc P W' sp s.vars (s.fn H (ds ++ gs)).vars pv)
    (hps : before = pa ++ pv) (hst : Ev.Stays W W')
    (hok : ∀ (j : Nat) (t : TypeId) (r : Value), f.resultTypes[j]? = some t → (v.resultList f.resultTypes.size)[j]? = some r → Value.okWide P W' .any 0 t r) :
    s.post enc P f apart fresh handsOn again W args v W' := by
  have hk : W.keptBut W' (· ∈ before) := kept_of_stays hst _
  have hold : ∀ p ∈ before, (fun b => decide (b < W.heap.size)) p.block = true := fun p hp => by simpa using hW.lt p hp
  have hlt := fun p hp => hW.lt p hp
  refine ⟨ds, gs, before, [], pa, pv, hW, hres _ _ _, hargs _ hold, hvars _ hold, World.keptBut_mono (fun p hp => ⟨hp, ?_⟩) hk, fun _ => ?_⟩
  · rw [hps, List.mem_append] at hp
    exact Or.inr hp
  · obtain ⟨_, _, _, _, _, hz, hn⟩ := hW
    refine ⟨hok, _, _, ([] ++ pa) ++ pv, ⟨[] ++ pa, pv, trodAll_append (hargs _ (fun _ _ => rfl)) (hres _ _ _), hvars _ (fun _ _ => rfl), rfl, ?_, ?_⟩, ?_⟩
    · intro b off hp
      have hp2 : MemPlace.cell b off ∈ before := by rw [hps]; simpa using hp
      rw [frozen_of_stays hst _ (hlt _ hp2)]
      exact hz b off hp2
    · intro ha
      have := hn ha
      rw [hps] at this
      simpa using this
    · intro p hp _
      rw [hps]
      simpa using hp
end
end Go.Proofs.Ythaljeccdeajoaa
namespace Go.Proofs.Ythaljeccdeajoaa
open Go.ChangeShapes Go.WideShapes Go.ChangeAt Go.RowKit
section
variable {H : Type} {enc : TypeId × Value → H} {P : Program}
theorem same_of_stays {W W' : World} (h : Ev.Stays W W') {p : MemPlace} (hp : p.block < W.heap.size) : W.sameAt W' p := by
  cases p with
  | cell b off =>
    show W'.cell? _ = W.cell? _
    unfold World.cell?
    rw [h.block b hp]
  | map b => exact h.block b hp
theorem args_carry {W W' : World} {base : Nat} {sp : Nat → Bool} {hd : Bool} : ∀ {ts : List TypeId} {vs : List Value} {ds : List (DataW H)} {ps : List MemPlace}, DataW.TrodAll enc P W base sp hd ts vs ds ps → (∀ p ∈ ps, W.sameAt W' p) → DataW.TrodAll enc P W' base sp hd ts vs ds ps
  | [], [], [], _, h, _ => h
  | _ :: _, _ :: _, _ :: _, _, ⟨p, q, ⟨n, h⟩, hs, e⟩, k => ⟨p, q, ⟨n, DataW.trod_carry n _ _ _ h fun x hx => k x (by rw [e]; exact List.mem_append_left _ hx)⟩, args_carry hs fun x hx => k x (by rw [e]; exact List.mem_append_right _ hx), e⟩
  | [], [], _ :: _, _, h, _ => h.elim
  | [], _ :: _, _, _, h, _ => h.elim
  | _ :: _, [], _, _, h, _ => h.elim
  | _ :: _, _ :: _, [], _, h, _ => h.elim

theorem post_law {f : Func} {s : ChangeSpec} {apart fresh handsOn again : Bool} {W W' : World} {args : Array Value} {ds : List (DataW H)} {p : List MemPlace} {bt : TypeId} {T : TypeId → Prop} (K : Kids P T) (hz : ∀ t e, T t → P.underlying t = some (.slice e) → 0 < P.cellsOf e)
    (hbt : P.underlying bt = some .bool) (hrt : f.resultTypes.toList = [bt]) (hsz : f.resultTypes.size = 1) (hvs : s.vars = []) (hfn : s.fn H (ds ++ []) = { results := [.lit (.bool true)], args := ds })
    (hpt : ∀ t ∈ f.params.toList, T t)
    (hW : DataW.Whole enc P f.params.toList s.vars apart W args.toList ds [] (p ++ [])) (hA : DataW.TrodAll enc P W 0 (fun _ => true) true f.params.toList args.toList ds p) (hst : Ev.Stays W W')
    (hok : ∀ (j : Nat) (t : TypeId) (r : Value), f.resultTypes[j]? = some t → ((Value.bool true).resultList f.resultTypes.size)[j]? = some r → Value.okWide P W' .any 0 t r) :
    s.post enc P f apart fresh handsOn again W args (.bool true) W' := by
  have hlt := fun q hq => hW.lt q hq
  refine post_of_stays (pa := p) (pv := []) hW (fun b sp hd => ?_) (fun sp hsp => ?_) (fun sp _ => ?_) rfl hst hok
  · rw [hrt, hfn, hsz]
    exact trodAll_mk1 (shut_bool hbt _)
  · rw [hfn]
    exact DataW.TrodAll.respare K hz hpt (args_carry hA fun q hq => same_of_stays hst (hlt q (by simpa using hq))) fun q hq => hsp q (by simpa using hq)
  · rw [hfn, hvs]
    rfl
end
namespace Ev


inductive UFit : Sh → U → Prop where
  | int (k : IntKind) (n : Int) (h : (Lit.int k n).wf = true) : UFit (.int k) (.i n)
  | bool (b : Bool) : UFit .bool (.b b)
  | str (s : ByteArray) (h : s.size ≤ maxLen) : UFit .str (.s s)
  | list (sh : List Sh) (l : List (List U)) (hl : l.length ≤ maxLen) (hr : ∀ j, j < l.length → (l.getD j []).length = sh.length) (h : ∀ (j f : Nat) (s : Sh), j < l.length → sh[f]? = some s → UFit s ((l.getD j []).getD f (.i 0))) : UFit (.list sh) (.l l)
structure RowFit (sh : List Sh) (r : List U) : Prop where
  len : r.length = sh.length
  fit : ∀ (f : Nat) (s : Sh), sh[f]? = some s → UFit s (r.getD f (.i 0))
theorem RowFit.nil : RowFit [] [] := ⟨rfl, fun f s h => by simp at h⟩
theorem RowFit.append {sh1 sh2 : List Sh} {r1 r2 : List U} (h1 : RowFit sh1 r1) (h2 : RowFit sh2 r2) : RowFit (sh1 ++ sh2) (r1 ++ r2) := by
  refine ⟨by simp [h1.len, h2.len], fun f s h => ?_⟩
  rw [List.getD_eq_getElem?_getD]
  by_cases hf : f < sh1.length
  · rw [List.getElem?_append_left hf] at h
    rw [List.getElem?_append_left (by rw [h1.len]; exact hf), ← List.getD_eq_getElem?_getD]
    exact h1.fit f s h
  · rw [List.getElem?_append_right (by omega)] at h
    rw [List.getElem?_append_right (by rw [h1.len]; omega), h1.len, ← List.getD_eq_getElem?_getD]
    exact h2.fit _ s h
noncomputable def fzAll (W : World) : Nat → Option (Array Value) := fun k => match W.heap[k]? with
  | some (.cells a _ _) => some a
  | _ => none
noncomputable def gAll (W : World) : G := ⟨fun _ => none, fzAll W⟩
theorem fzAll_at (W : World) : FzAt (gAll W) W := fun k a hk => by
  have hk : fzAll W k = some a := hk
  unfold fzAll at hk
  split at hk
  · rename_i a' ty fz h
    injection hk with hk; subst hk
    exact ⟨ty, fz, h⟩
  · cases hk
variable {H : Type} {enc : TypeId × Value → H} {P : Program} {W : World} {base : Nat} {sp : Nat → Bool} {hd : Bool}
end Ev
end Go.Proofs.Ythaljeccdeajoaa
namespace Go.Proofs.Ythaljeccdeajoaa.EvM
open Go.Proofs Go.Proofs.Ythaljeccdeajoaa.Ev
theorem shown_run : endsB (exClosed Try.prog ft (drD Try.prog ft 16 4) 26 18) = true := by kernel_rfl
theorem shownC (w : World) : Calls Try.prog 26 #[] w fun e w' => e = .returned (.bool true) ∧ Stays w w' := closedTrue ftOk (drD_ok mix ftOk 16 4) shown_run w
theorem spShown_ok : ZCtOk Try.prog 26 spTrue := spTrue_ok shownC
namespace LAft
noncomputable def RUN (s : ES) : ZF := RZ 21 .nil (fun _ => false) [] [] false s
theorem in_t (p q : Int) (A B : List (List U)) : RUN (st0 21 [.agg [iv p, wl A], .agg [iv q, wl B]]) = (bc (bc (bc (bc (Nat.ble ((0 : Nat) + List.length A) (65536 : Nat)) true false) (bc (bc (Nat.beq (List.length ([] ++ A)) (List.length ([] ++ A))) (bc (Nat.ble (List.length ([] ++ A) + List.length B) (65536 : Nat)) true false) false) true false) false) (bc (bc (bc (decide (p = p)) (bc (decide (p = p)) (bc (decide (p = p)) true false) false) false) (bc (bc (eqSy (SyC.recs shW A) (SyC.recs shW A)) true false) (bc (bc (eqSy (SyC.recs shW B) (SyC.recs shW B)) (bc (eqSy (SyC.recs shW B) (SyC.recs shW B)) true false) false) true false) false) false) true false) false) (bc (bc (Nat.beq (List.length ([] ++ A ++ B)) (List.length ([] ++ A ++ B))) true false) (.done (EV.agg [(EV.v (Value.int IntKind.i64 (p))), (EV.lst (SyC.recs [(Sh.int IntKind.i64), (Sh.int IntKind.i64), Sh.str] ([] ++ A ++ B)))]) [] 0) .bad) .bad) := by kernel_rfl
end LAft
noncomputable def spAft : ZCT := fun ax => match ax with
  | [.agg [.v (.int .i64 p), .lst (.recs [.int .i64, .int .i64, .str] A)], .agg [.v (.int .i64 q), .lst (.recs [.int .i64, .int .i64, .str] B)]] => some ⟨decide (A.length + B.length ≤ 60000), .agg [iv p, wl (A ++ B)], [], 0⟩
  | _ => none
theorem spAft_ok : ZCtOk Try.prog 21 spAft := fun γ w us ax r hs hc hax hN hfz => by
  unfold spAft at hs
  split at hs
  case h_2 => cases hs
  rename_i p A q B
  obtain ⟨rfl⟩ := Option.some.inj hs
  have hc_0 : decide (A.length + B.length ≤ 60000) = true := hc
  have hc := of_decide_eq_true hc_0
  exact EndZ.calls (by
    have h := LAft.in_t p q A B
    simp (disch := omega) only [Nat.add_eq, eqSy_self, eqN_self, bc_same, List.length_cons, ofn, wrap_in, dt, df, bltD, bltN, ble_of, bleN, beqD, bc_t, bc_f, nn_ok, Nat.zero_add, to_nat, Int.zero_add, Int.sub_zero, Int.sub_self, Int.cast_ofNat_Int, Int.natCast_zero, Int.toNat_zero, List.take_zero, List.nil_append, List.length_append, List.length_nil] at h
    exact .done h) (.nil _) (by kernel_rfl) hax hN hfz
noncomputable def ctFl : Tr ZCC := Tr.nil.put 82 (some (dC spSm5))
theorem ctFl_ok : ZCtsOk Try.prog ctFl := (ZCtsOk.nil _).add rfl spSm5_ok
noncomputable def fliB (p : Int) (A : List (List U)) : Bool := bc (both p p A (mrL p A) == 0) (sm5 p p A (mrL p A)) false
namespace LFli
noncomputable def RUN (s : ES) : ZF := RZ 24 ctFl (atS 0 24 3) [] [[(1,none),(3,some (3, 76, .recs shW [])),(4,none)]] false s

noncomputable def sF (p p' : Int) (A : List (List U)) (i : Int) (q : List (List U)) (nn : Bool) : NS := ⟨[⟨24, 47, [(1, (EV.ptr 0 0)), (3, (EV.ptr 1 0)), (4, iv i)], [.it (.code (nav [1, 1, 0, 1, 0, 0, 0] (bodyOf Try.f24))), .it (.code (nav [1, 1, 0, 1, 0, 0, 1] (bodyOf Try.f24))), .it (.inLoop (nav [1, 1, 0, 1, 0, 0] (bodyOf Try.f24))), .it (.inBlock 0), .it (.code (nav [1, 1, 1] (bodyOf Try.f24)))], [], Option.none⟩], [(0, (EK.cells 24 [(EV.v (Value.int IntKind.i64 (p))), (EV.lst (SyC.recs [(Sh.int IntKind.i64), (Sh.int IntKind.i64), Sh.str] (A)))] true)), (1, EK.cells 24 [iv p', EV.slO 2 3 q.length nn] true), (2, EK.seq 76 (.recs shW q) nn)], 3⟩
theorem in_t (p : Int) (A : List (List U)) : RUN (st0 24 [.agg [iv p, wl A]]) = (.at (sF (p) (p) (A) ((0 : Int)) ([]) (false))) := by kernel_rfl
theorem step_t (p p' : Int) (A : List (List U)) (i : Int) (q : List (List U)) (nn : Bool) : RUN (stOf (sF p p' A i q nn)) = (bc (decide (i < Int.ofNat (List.length A))) (bc (bc (bc (decide ((0 : Int) ≤ i)) (Nat.blt (Int.toNat i) (List.length A)) false) true false) (bc (bc (Nat.blt (Int.toNat i) (List.length A)) true false) (bc (bc (Nat.beq (List.length q) (List.length q)) (bc (Nat.ble (List.length q + List.length [[U.i (U.int (List.getD (List.getD A (Int.toNat i) []) (0 : Nat) (U.i (0 : Int)))), U.i (IntKind.wrap IntKind.i64 (IntKind.wrap IntKind.i64 (p - (2 : Int)) - U.int (List.getD (List.getD A (Int.toNat i) []) (Nat.succ (0 : Nat)) (U.i (0 : Int))))), U.s (U.str (List.getD (List.getD A (Int.toNat i) []) (Nat.succ (Nat.succ (0 : Nat))) (U.i (0 : Int))))]]) (65536 : Nat)) (bc nn true (bc nn false true)) false) false) (.at (sF (p) (p') (A) (IntKind.wrap IntKind.i64 (i + (1 : Int))) (q ++ [[U.i (U.int (List.getD (List.getD A (Int.toNat i) []) (0 : Nat) (U.i (0 : Int)))), U.i (IntKind.wrap IntKind.i64 (IntKind.wrap IntKind.i64 (p - (2 : Int)) - U.int (List.getD (List.getD A (Int.toNat i) []) (Nat.succ (0 : Nat)) (U.i (0 : Int))))), U.s (U.str (List.getD (List.getD A (Int.toNat i) []) (Nat.succ (Nat.succ (0 : Nat))) (U.i (0 : Int))))]]) (bc nn true (Nat.blt (0 : Nat) (List.length [[U.i (U.int (List.getD (List.getD A (Int.toNat i) []) (0 : Nat) (U.i (0 : Int)))), U.i (IntKind.wrap IntKind.i64 (IntKind.wrap IntKind.i64 (p - (2 : Int)) - U.int (List.getD (List.getD A (Int.toNat i) []) (Nat.succ (0 : Nat)) (U.i (0 : Int))))), U.s (U.str (List.getD (List.getD A (Int.toNat i) []) (Nat.succ (Nat.succ (0 : Nat))) (U.i (0 : Int))))]]))))) .bad) .bad) .bad) (bc (bc (bc (bc (bc (Nat.beq (List.length q) (List.length q)) true false) true false) (decide True) false) true false) (bc (both p p' A q == (0 : Int)) (.done (EV.v (Value.bool (sm5 p p' A q))) [] 0) (.done (EV.v (Value.bool false)) [] 0)) .bad)) := by kernel_rfl
theorem step {p p' : Int} {A : List (List U)} {i : Nat} {q : List (List U)} {nn : Bool} (hi : i < A.length) (hl : A.length ≤ 1000) (hq : q.length ≤ 1000) (ha : 0 ≤ rA A[i] ∧ rA A[i] ≤ 1000) (hk : -1000 ≤ p ∧ p ≤ 1000) : RUN (stOf (sF p p' A i q nn)) = .at (sF p p' A (i + 1 : Nat) (q ++ [mrR p A[i]]) true) := by
  rw [step_t]
  have e : A.getD i [] = A[i] := getD_at hi
  simp (disch := omega) only [Nat.add_eq, eqSy_self, eqN_self, bc_same, List.length_cons, ofn, wrap_in, dt, df, bltD, bltN, ble_of, bleN, beqD, bc_t, bc_f, nn_ok, Nat.zero_add, to_nat, Int.zero_add, Int.sub_zero, Int.sub_self, Int.cast_ofNat_Int, Int.natCast_zero, Int.toNat_zero, List.take_zero, List.nil_append, List.length_append, List.length_nil, e, fK0, fK1, fA0, fA1, fA2, fW0, fW1, fW2]
  rfl
theorem last {p : Int} {A : List (List U)} {i : Nat} {nn : Bool} (hi : A.length ≤ i) : RUN (stOf (sF p p A i (mrL p A) nn)) = .done (bv (fliB p A)) [] 0 := by
  rw [step_t]
  unfold fliB
  simp (disch := omega) only [Nat.add_eq, eqSy_self, eqN_self, bc_same, List.length_cons, ofn, wrap_in, dt, df, bltD, bltN, ble_of, bleN, beqD, bc_t, bc_f, nn_ok, Nat.zero_add, to_nat, Int.zero_add, Int.sub_zero, Int.sub_self, Int.cast_ofNat_Int, Int.natCast_zero, Int.toNat_zero, List.take_zero, List.nil_append, List.length_append, List.length_nil]
  cases both p p A (mrL p A) == 0 <;> rfl
theorem loop {p : Int} {A : List (List U)} (hl : A.length ≤ 1000) (ha : AtOk A) (hk : -1000 ≤ p ∧ p ≤ 1000) : ∀ (m i : Nat) (q : List (List U)) (nn : Bool), i + m = A.length → q.length ≤ i → q ++ mrL p (A.drop i) = mrL p A → EndZ 24 ctFl false (stOf (sF p p A i q nn)) (bv (fliB p A)) [] 0
  | 0, i, q, nn, h, hq, e => by
    rw [List.drop_eq_nil_of_le (by omega)] at e
    have e : q ++ [] = mrL p A := e
    rw [List.append_nil] at e
    subst e
    exact .done (last (by omega))
  | m + 1, i, q, nn, h, hq, e => by
    have hi : i < A.length := by omega
    rw [List.drop_eq_getElem_cons hi] at e
    have e : q ++ (mrR p A[i] :: mrL p (A.drop (i + 1))) = mrL p A := e
    exact .at ctFl_ok (step hi hl (by omega) (ha _ (List.getElem_mem hi)) hk) (loop hl ha hk m (i + 1) _ true (by omega) (by simp; omega) (by rw [← e]; simp))
end LFli
noncomputable def spFli : ZCT := fun ax => match ax with
  | [.agg [.v (.int .i64 p), .lst (.recs [.int .i64, .int .i64, .str] A)]] => some ⟨decide (A.length ≤ 1000 ∧ AtOk A ∧ -1000 ≤ p ∧ p ≤ 1000), bv (fliB p A), [], 0⟩
  | _ => none
theorem spFli_ok : ZCtOk Try.prog 24 spFli := fun γ w us ax r hs hc hax hN hfz => by
  unfold spFli at hs
  split at hs
  case h_2 => cases hs
  rename_i p A
  obtain ⟨rfl⟩ := Option.some.inj hs
  have hc_0 : decide (A.length ≤ 1000 ∧ AtOk A ∧ -1000 ≤ p ∧ p ≤ 1000) = true := hc
  have hc := of_decide_eq_true hc_0
  exact EndZ.calls (.at ctFl_ok (LFli.in_t p A) (LFli.loop hc.1 hc.2.1 hc.2.2 A.length 0 [] false (by omega) (by simp) rfl)) ctFl_ok (by kernel_rfl) hax hN hfz

noncomputable def ordS (n : Nat) (t : Bool) : List Nat := match n, t with
  | 1, false => [0,1,2]
  | 1, true => [0,1,2,3,4]
  | 2, false => [0,2,1,3,4,5,7,6,8]
  | 2, true => [1,0,2,4,3,5,6,7,9,8,10,12,11]
  | 3, false => [0,3,6,1,4,7,2,5,8,9,10,13,16,11,14,17,12,15,18]
  | 3, true => [2,1,0,3,6,9,4,7,10,5,8,11,12,13,16,19,14,17,20,15,18,21,24,23,22]
  | 4, false => [0,4,8,12,1,5,9,13,2,6,10,14,3,7,11,15,16,17,21,25,29,18,22,26,30,19,23,27,31,20,24,28,32]
  | 4, true => [3,2,1,0,4,8,12,16,5,9,13,17,6,10,14,18,7,11,15,19,20,21,25,29,33,22,26,30,34,23,27,31,35,24,28,32,36,40,39,38,37]
  | 5, false => [0,5,10,15,20,1,6,11,16,21,2,7,12,17,22,3,8,13,18,23,4,9,14,19,24,25,26,31,36,41,46,27,32,37,42,47,28,33,38,43,48,29,34,39,44,49,30,35,40,45,50]
  | 5, true => [4,3,2,1,0,5,10,15,20,25,6,11,16,21,26,7,12,17,22,27,8,13,18,23,28,9,14,19,24,29,30,31,36,41,46,51,32,37,42,47,52,33,38,43,48,53,34,39,44,49,54,35,40,45,50,55,60,59,58,57,56]
  | 6, false => [0,6,12,18,24,30,1,7,13,19,25,31,2,8,14,20,26,32,3,9,15,21,27,33,4,10,16,22,28,34,5,11,17,23,29,35,36,37,43,49,55,61,67,38,44,50,56,62,68,39,45,51,57,63,69,40,46,52,58,64,70,41,47,53,59,65,71,42,48,54,60,66,72]
  | 6, true => [5,4,3,2,1,0,6,12,18,24,30,36,7,13,19,25,31,37,8,14,20,26,32,38,9,15,21,27,33,39,10,16,22,28,34,40,11,17,23,29,35,41,42,43,49,55,61,67,73,44,50,56,62,68,74,45,51,57,63,69,75,46,52,58,64,70,76,47,53,59,65,71,77,48,54,60,66,72,78,84,83,82,81,80,79]
  | _, _ => []
noncomputable def midL (n : Nat) : List (List U) := bodyL n ++ [wk bP ((n : Int) - 1)] ++ bodyL n
noncomputable def codA (n : Nat) (tw : Bool) : List Nat := bc tw ((List.range' 0 n).map fun i => 128 + 2 * i) [] ++ (midL n).map cw ++ bc tw ((List.range' 0 n).map fun i => 128 + 2 * i) []
noncomputable def codM (n : Nat) (tw : Bool) : List Nat := bc tw ((List.range' 0 n).map fun i => 128 + (2 * n - 2 - 2 * i)) [] ++ (mrL (2 * (n : Int)) (midL n)).map cw ++ bc tw ((List.range' 0 n).map fun i => 128 + (2 * n - 2 - 2 * i)) []
noncomputable def spB (r : List U) : Bool := (rK r == 1) && decide (0 ≤ rA r) && decide (rA r < 64) && (((rW r).data.toList == wCT.data.toList) || ((rW r).data.toList == wPi.data.toList))
theorem spAll : ([1, 2, 3, 4, 5, 6].all fun n => okOrd (codA n false) (codM n false) (ordS n false) && okOrd (codA n true) (codM n true) (ordS n true) && (chk4 (2 * (n : Int)) (midL n) == 0) && (midL n).all spB && Nat.ble (midL n).length 73) = true := by kernel_rfl
theorem twAll : ((List.range' 1 16).all fun k => !((lets bT (k : Int)).data.toList == wCT.data.toList) && !((lets bT (k : Int)).data.toList == wPi.data.toList) && (chk3 (lets bT (k : Int)) == 0)) = true := by kernel_rfl
theorem spB_ok {T : ByteArray} {r : List U} (h : spB r = true) : SpR T r := by
  unfold spB at h
  simp only [Bool.and_eq_true, Bool.or_eq_true, beq_iff_eq, decide_eq_true_eq] at h
  obtain ⟨⟨⟨h1, h2⟩, h3⟩, h4⟩ := h
  exact ⟨h1, h2, h3, h4.elim .inl fun e => .inr (.inl e)⟩
theorem clW_T {T : ByteArray} (h1 : T.data.toList ≠ wCT.data.toList) (h2 : T.data.toList ≠ wPi.data.toList) : clW T = 2 := by
  unfold clW
  rw [beq_eq_false_iff_ne.2 h1, beq_eq_false_iff_ne.2 h2]
  rfl
theorem tw_cw {t : Int} (hc : clW (lets bT t) = 2) : ∀ (m i : Nat), (twR t i m).map cw = (List.range' i m).map fun i => 128 + 2 * i
  | 0, i => rfl
  | m + 1, i => by
    rw [List.range'_succ, List.map_cons, ← tw_cw hc m (i + 1)]
    show cw (wk (lets bT t) (2 * (i : Int))) :: (twR t (i + 1) m).map cw = _
    congr 1
    show clW (lets bT t) * 64 + (2 * (i : Int)).toNat = _
    rw [hc]; omega
theorem tw_mr {t : Int} {n : Nat} (hc : clW (lets bT t) = 2) : ∀ (m i : Nat), i + m ≤ n → (mrL (2 * (n : Int)) (twR t i m)).map cw = (List.range' i m).map fun i => 128 + (2 * n - 2 - 2 * i)
  | 0, i, _ => rfl
  | m + 1, i, h => by
    rw [List.range'_succ, List.map_cons, ← tw_mr hc m (i + 1) (by omega)]
    show cw (mrR (2 * (n : Int)) (wk (lets bT t) (2 * (i : Int)))) :: (mrL (2 * (n : Int)) (twR t (i + 1) m)).map cw = _
    congr 1
    show clW (lets bT t) * 64 + (2 * (n : Int) - 2 - 2 * (i : Int)).toNat = _
    rw [hc]; omega
theorem tw_mem {t : Int} {r : List U} : ∀ (m i : Nat), r ∈ twR t i m → ∃ j, i ≤ j ∧ j < i + m ∧ r = wk (lets bT t) (2 * (j : Int))
  | 0, i, h => by cases h
  | m + 1, i, h => by
    have h : r ∈ wk (lets bT t) (2 * (i : Int)) :: twR t (i + 1) m := h
    rcases List.mem_cons.1 h with h | h
    · exact ⟨i, Nat.le_refl _, by omega, h⟩
    · obtain ⟨j, h1, h2, h3⟩ := tw_mem m (i + 1) h
      exact ⟨j, by omega, by omega, h3⟩
theorem tw_len (t : Int) : ∀ (m i : Nat), (twR t i m).length = m
  | 0, i => rfl
  | m + 1, i => by show (twR t (i + 1) m).length + 1 = m + 1; rw [tw_len t m (i + 1)]
theorem mrL_app (p : Int) (a b : List (List U)) : mrL p (a ++ b) = mrL p a ++ mrL p b := by unfold mrL; rw [List.map_append]
theorem spi_one {n : Nat} {t : Int} (hn : n ∈ [1, 2, 3, 4, 5, 6]) (ht : 0 ≤ t ∧ t ≤ 16) : ValS (2 * (n : Int)) (spiL n (tws n t)) ∧ sm5 (2 * (n : Int)) (2 * (n : Int)) (spiL n (tws n t)) (mrL (2 * (n : Int)) (spiL n (tws n t))) = true ∧ both (2 * (n : Int)) (2 * (n : Int)) (spiL n (tws n t)) (mrL (2 * (n : Int)) (spiL n (tws n t))) = 0 := by
  have h := List.all_eq_true.1 spAll n hn
  simp only [Bool.and_eq_true, beq_iff_eq] at h
  obtain ⟨⟨⟨⟨o1, o2⟩, hk⟩, hs⟩, hlen⟩ := h
  have hlen := Nat.le_of_ble_eq_true hlen
  have vm := chk4_ok hk
  have hs := List.all_eq_true.1 hs
  have n6 : 1 ≤ n ∧ n ≤ 6 := by simp at hn; omega
  have e0 : spiL n (tws n t) = tws n t ++ (midL n ++ tws n t) := by unfold spiL midL; simp
  rw [e0]
  by_cases h0 : 0 < t
  · obtain ⟨k, rfl⟩ := Int.eq_ofNat_of_zero_le ht.1
    have hw := List.all_eq_true.1 twAll k (by rw [List.mem_range'_1]; omega)
    simp only [Bool.and_eq_true, Bool.not_eq_true', beq_iff_eq, beq_eq_false_iff_ne] at hw
    obtain ⟨⟨w1, w2⟩, w3⟩ := hw
    have hcl := clW_T w1 w2
    have et : tws n (k : Int) = twR k 0 n := by unfold tws; rw [dt h0]; rfl
    rw [et]
    have vt : ∀ r, r ∈ twR (k : Int) 0 n → ValR (2 * (n : Int)) r ∧ SpR (lets bT (k : Int)) r := fun r hr => by
      obtain ⟨j, _, h2, rfl⟩ := tw_mem n 0 hr
      have c := chk3_ok w3
      refine ⟨⟨.inl rfl, ?_, ?_, fun e => ?_, c.1, c.2⟩, ⟨rfl, ?_, ?_, .inr (.inr rfl)⟩⟩
      · show 0 ≤ 2 * (j : Int); omega
      · show 2 * (j : Int) ≤ 2 * (n : Int) - 2; omega
      · have e : (1 : Int) = 2 := e
        omega
      · show 0 ≤ 2 * (j : Int); omega
      · show 2 * (j : Int) < 64; omega
    have va : ∀ r, r ∈ twR (k : Int) 0 n ++ (midL n ++ twR (k : Int) 0 n) → ValR (2 * (n : Int)) r ∧ SpR (lets bT (k : Int)) r := fun r hr => by
      rcases List.mem_append.1 hr with hr | hr
      · exact vt r hr
      rcases List.mem_append.1 hr with hr | hr
      · exact ⟨vm.val r hr, spB_ok (hs r hr)⟩
      · exact vt r hr
    have vs : ValS (2 * (n : Int)) (twR (k : Int) 0 n ++ (midL n ++ twR (k : Int) 0 n)) := ⟨by omega, by omega, by rw [List.length_append, List.length_append, tw_len]; omega, fun r hr => (va r hr).1⟩
    refine ⟨vs, flips_of vs (fun r hr => (va r hr).2) w1 w2 (ord := ordS n true) ?_⟩
    have a1 : (twR (k : Int) 0 n ++ (midL n ++ twR (k : Int) 0 n)).map cw = codA n true := by
      rw [List.map_append, List.map_append, tw_cw hcl]
      show _ = ((List.range' 0 n).map fun i => 128 + 2 * i) ++ (midL n).map cw ++ ((List.range' 0 n).map fun i => 128 + 2 * i)
      rw [List.append_assoc]
    have a2 : (mrL (2 * (n : Int)) (twR (k : Int) 0 n ++ (midL n ++ twR (k : Int) 0 n))).map cw = codM n true := by
      rw [mrL_app, mrL_app, List.map_append, List.map_append, tw_mr hcl n 0 (by omega)]
      show _ = ((List.range' 0 n).map fun i => 128 + (2 * n - 2 - 2 * i)) ++ (mrL (2 * (n : Int)) (midL n)).map cw ++ ((List.range' 0 n).map fun i => 128 + (2 * n - 2 - 2 * i))
      rw [List.append_assoc]
    rw [a1, a2]
    exact o2
  · have et : tws n t = [] := by unfold tws; rw [df h0]; rfl
    rw [et, List.nil_append, List.append_nil]
    have hw := List.all_eq_true.1 twAll 1 (by rw [List.mem_range'_1]; omega)
    simp only [Bool.and_eq_true, Bool.not_eq_true', beq_iff_eq, beq_eq_false_iff_ne] at hw
    obtain ⟨⟨w1, w2⟩, w3⟩ := hw
    refine ⟨vm, flips_of vm (fun r hr => spB_ok (hs r hr)) w1 w2 (ord := ordS n false) ?_⟩
    have a1 : (midL n).map cw = codA n false := by show _ = [] ++ (midL n).map cw ++ []; simp
    have a2 : (mrL (2 * (n : Int)) (midL n)).map cw = codM n false := by show _ = [] ++ (mrL (2 * (n : Int)) (midL n)).map cw ++ []; simp
    rw [a1, a2]
    exact o1
noncomputable def ctTu : Tr ZCC := (((((((Tr.nil.put 19 (some (dC spPlait))).put 22 (some (dC spPFoot))).put 23 (some (dC spSpi))).put 25 (some (dC spWin))).put 20 (some (dC spSame))).put 21 (some (dC spAft))).put 24 (some (dC spFli))).put 26 (some (dC spTrue))
theorem ctTu_ok : ZCtsOk Try.prog ctTu := ((((((((ZCtsOk.nil _).add rfl spPlait_ok).add rfl spPFoot_ok).add rfl spPSpi_ok).add rfl spPWin_ok).add rfl spSame_ok).add rfl spAft_ok).add rfl spFli_ok).add rfl spShown_ok
namespace ATur
noncomputable def RUN (s : ES) : ZF := RZ 4 ctTu (fun _ => false) [] [] false s
theorem in_t (n m k : Int) : RUN (st0 4 [iv n, iv m, iv k]) = (bc (plaitE n == (0 : Int)) (bc (plaitE m == (0 : Int)) (bc (decide (IntKind.wrap IntKind.i64 (n + m) ≤ (100 : Int))) (bc (plaitE (IntKind.wrap IntKind.i64 (n + m)) != (0 : Int)) (bc (bc (bc (eqB (plaitE (IntKind.wrap IntKind.i64 (n + m)) != (0 : Int)) true) true false) true false) (.done (EV.v (Value.bool false)) [] 0) .bad) (bc (bc (bc (eqB (plaitE (IntKind.wrap IntKind.i64 (n + m)) != (0 : Int)) false) (bc (decide (List.length (plaitL n) + List.length (plaitL m) ≤ (60000 : Nat))) (bc (bc (Nat.ble (List.length (plaitL (IntKind.wrap IntKind.i64 (n + m)))) (100000 : Nat)) true false) true false) false) false) (bc (bc (bc (bc (decide (plaitP (IntKind.wrap IntKind.i64 (n + m)) = plaitP (IntKind.wrap IntKind.i64 (n + m)))) (bc (eqSy (SyC.recs shW (plaitL (IntKind.wrap IntKind.i64 (n + m)))) (SyC.recs shW (plaitL (IntKind.wrap IntKind.i64 (n + m))))) true false) false) true false) true false) true false) false) (bc (!sameW (plaitP (IntKind.wrap IntKind.i64 (n + m))) (plaitP n) (plaitL (IntKind.wrap IntKind.i64 (n + m))) (plaitL n ++ plaitL m)) (.done (EV.v (Value.bool false)) [] 0) (bc (footE n m == (0 : Int)) (bc (footE n k == (0 : Int)) (bc (decide (IntKind.wrap IntKind.i64 (Int.ofNat (List.length (footL n m)) + Int.ofNat (List.length (footL n k))) ≤ (400 : Int))) (bc (footE n (IntKind.wrap IntKind.i64 (m + k)) != (0 : Int)) (bc (bc (bc (eqB (footE n (IntKind.wrap IntKind.i64 (m + k)) != (0 : Int)) true) true false) true false) (.done (EV.v (Value.bool false)) [] 0) .bad) (bc (bc (bc (eqB (footE n (IntKind.wrap IntKind.i64 (m + k)) != (0 : Int)) false) (bc (decide (List.length (footL n m) + List.length (footL n k) ≤ (60000 : Nat))) (bc (bc (Nat.ble (List.length (footL n (IntKind.wrap IntKind.i64 (m + k)))) (100000 : Nat)) true false) true false) false) false) (bc (bc (bc (bc (decide (footP n (IntKind.wrap IntKind.i64 (m + k)) = footP n (IntKind.wrap IntKind.i64 (m + k)))) (bc (eqSy (SyC.recs shW (footL n (IntKind.wrap IntKind.i64 (m + k)))) (SyC.recs shW (footL n (IntKind.wrap IntKind.i64 (m + k))))) true false) false) true false) true false) true false) false) (bc (!sameW (footP n (IntKind.wrap IntKind.i64 (m + k))) (footP n m) (footL n (IntKind.wrap IntKind.i64 (m + k))) (footL n m ++ footL n k)) (.done (EV.v (Value.bool false)) [] 0) (bc (bc (spiOk n m) (0 : Int) (7 : Int) == (0 : Int)) (bc (bc (decide (List.length (bc (spiOk n m) (spiL n (tws n m)) []) ≤ (1000 : Nat) ∧ AtOk (bc (spiOk n m) (spiL n (tws n m)) []) ∧ (-1000 : Int) ≤ bc (spiOk n m) ((2 : Int) * n) (0 : Int) ∧ bc (spiOk n m) ((2 : Int) * n) (0 : Int) ≤ (1000 : Int))) true false) (bc (!fliB (bc (spiOk n m) ((2 : Int) * n) (0 : Int)) (bc (spiOk n m) (spiL n (tws n m)) [])) (.done (EV.v (Value.bool false)) [] 0) (bc (bc (decide (List.length winL ≤ (1000 : Nat) ∧ AtOk winL ∧ (-1000 : Int) ≤ (4 : Int) ∧ (4 : Int) ≤ (1000 : Int))) true false) (.done (EV.v (Value.bool true)) [] 0) .bad)) .bad) (bc (bc (decide (List.length winL ≤ (1000 : Nat) ∧ AtOk winL ∧ (-1000 : Int) ≤ (4 : Int) ∧ (4 : Int) ≤ (1000 : Int))) true false) (.done (EV.v (Value.bool true)) [] 0) .bad))) .bad)) (bc (bc (spiOk n m) (0 : Int) (7 : Int) == (0 : Int)) (bc (bc (decide (List.length (bc (spiOk n m) (spiL n (tws n m)) []) ≤ (1000 : Nat) ∧ AtOk (bc (spiOk n m) (spiL n (tws n m)) []) ∧ (-1000 : Int) ≤ bc (spiOk n m) ((2 : Int) * n) (0 : Int) ∧ bc (spiOk n m) ((2 : Int) * n) (0 : Int) ≤ (1000 : Int))) true false) (bc (!fliB (bc (spiOk n m) ((2 : Int) * n) (0 : Int)) (bc (spiOk n m) (spiL n (tws n m)) [])) (.done (EV.v (Value.bool false)) [] 0) (bc (bc (decide (List.length winL ≤ (1000 : Nat) ∧ AtOk winL ∧ (-1000 : Int) ≤ (4 : Int) ∧ (4 : Int) ≤ (1000 : Int))) true false) (.done (EV.v (Value.bool true)) [] 0) .bad)) .bad) (bc (bc (decide (List.length winL ≤ (1000 : Nat) ∧ AtOk winL ∧ (-1000 : Int) ≤ (4 : Int) ∧ (4 : Int) ≤ (1000 : Int))) true false) (.done (EV.v (Value.bool true)) [] 0) .bad))) (bc (bc (spiOk n m) (0 : Int) (7 : Int) == (0 : Int)) (bc (bc (decide (List.length (bc (spiOk n m) (spiL n (tws n m)) []) ≤ (1000 : Nat) ∧ AtOk (bc (spiOk n m) (spiL n (tws n m)) []) ∧ (-1000 : Int) ≤ bc (spiOk n m) ((2 : Int) * n) (0 : Int) ∧ bc (spiOk n m) ((2 : Int) * n) (0 : Int) ≤ (1000 : Int))) true false) (bc (!fliB (bc (spiOk n m) ((2 : Int) * n) (0 : Int)) (bc (spiOk n m) (spiL n (tws n m)) [])) (.done (EV.v (Value.bool false)) [] 0) (bc (bc (decide (List.length winL ≤ (1000 : Nat) ∧ AtOk winL ∧ (-1000 : Int) ≤ (4 : Int) ∧ (4 : Int) ≤ (1000 : Int))) true false) (.done (EV.v (Value.bool true)) [] 0) .bad)) .bad) (bc (bc (decide (List.length winL ≤ (1000 : Nat) ∧ AtOk winL ∧ (-1000 : Int) ≤ (4 : Int) ∧ (4 : Int) ≤ (1000 : Int))) true false) (.done (EV.v (Value.bool true)) [] 0) .bad))) (bc (bc (spiOk n m) (0 : Int) (7 : Int) == (0 : Int)) (bc (bc (decide (List.length (bc (spiOk n m) (spiL n (tws n m)) []) ≤ (1000 : Nat) ∧ AtOk (bc (spiOk n m) (spiL n (tws n m)) []) ∧ (-1000 : Int) ≤ bc (spiOk n m) ((2 : Int) * n) (0 : Int) ∧ bc (spiOk n m) ((2 : Int) * n) (0 : Int) ≤ (1000 : Int))) true false) (bc (!fliB (bc (spiOk n m) ((2 : Int) * n) (0 : Int)) (bc (spiOk n m) (spiL n (tws n m)) [])) (.done (EV.v (Value.bool false)) [] 0) (bc (bc (decide (List.length winL ≤ (1000 : Nat) ∧ AtOk winL ∧ (-1000 : Int) ≤ (4 : Int) ∧ (4 : Int) ≤ (1000 : Int))) true false) (.done (EV.v (Value.bool true)) [] 0) .bad)) .bad) (bc (bc (decide (List.length winL ≤ (1000 : Nat) ∧ AtOk winL ∧ (-1000 : Int) ≤ (4 : Int) ∧ (4 : Int) ≤ (1000 : Int))) true false) (.done (EV.v (Value.bool true)) [] 0) .bad)))) .bad)) (bc (footE n m == (0 : Int)) (bc (footE n k == (0 : Int)) (bc (decide (IntKind.wrap IntKind.i64 (Int.ofNat (List.length (footL n m)) + Int.ofNat (List.length (footL n k))) ≤ (400 : Int))) (bc (footE n (IntKind.wrap IntKind.i64 (m + k)) != (0 : Int)) (bc (bc (bc (eqB (footE n (IntKind.wrap IntKind.i64 (m + k)) != (0 : Int)) true) true false) true false) (.done (EV.v (Value.bool false)) [] 0) .bad) (bc (bc (bc (eqB (footE n (IntKind.wrap IntKind.i64 (m + k)) != (0 : Int)) false) (bc (decide (List.length (footL n m) + List.length (footL n k) ≤ (60000 : Nat))) (bc (bc (Nat.ble (List.length (footL n (IntKind.wrap IntKind.i64 (m + k)))) (100000 : Nat)) true false) true false) false) false) (bc (bc (bc (bc (decide (footP n (IntKind.wrap IntKind.i64 (m + k)) = footP n (IntKind.wrap IntKind.i64 (m + k)))) (bc (eqSy (SyC.recs shW (footL n (IntKind.wrap IntKind.i64 (m + k)))) (SyC.recs shW (footL n (IntKind.wrap IntKind.i64 (m + k))))) true false) false) true false) true false) true false) false) (bc (!sameW (footP n (IntKind.wrap IntKind.i64 (m + k))) (footP n m) (footL n (IntKind.wrap IntKind.i64 (m + k))) (footL n m ++ footL n k)) (.done (EV.v (Value.bool false)) [] 0) (bc (bc (spiOk n m) (0 : Int) (7 : Int) == (0 : Int)) (bc (bc (decide (List.length (bc (spiOk n m) (spiL n (tws n m)) []) ≤ (1000 : Nat) ∧ AtOk (bc (spiOk n m) (spiL n (tws n m)) []) ∧ (-1000 : Int) ≤ bc (spiOk n m) ((2 : Int) * n) (0 : Int) ∧ bc (spiOk n m) ((2 : Int) * n) (0 : Int) ≤ (1000 : Int))) true false) (bc (!fliB (bc (spiOk n m) ((2 : Int) * n) (0 : Int)) (bc (spiOk n m) (spiL n (tws n m)) [])) (.done (EV.v (Value.bool false)) [] 0) (bc (bc (decide (List.length winL ≤ (1000 : Nat) ∧ AtOk winL ∧ (-1000 : Int) ≤ (4 : Int) ∧ (4 : Int) ≤ (1000 : Int))) true false) (.done (EV.v (Value.bool true)) [] 0) .bad)) .bad) (bc (bc (decide (List.length winL ≤ (1000 : Nat) ∧ AtOk winL ∧ (-1000 : Int) ≤ (4 : Int) ∧ (4 : Int) ≤ (1000 : Int))) true false) (.done (EV.v (Value.bool true)) [] 0) .bad))) .bad)) (bc (bc (spiOk n m) (0 : Int) (7 : Int) == (0 : Int)) (bc (bc (decide (List.length (bc (spiOk n m) (spiL n (tws n m)) []) ≤ (1000 : Nat) ∧ AtOk (bc (spiOk n m) (spiL n (tws n m)) []) ∧ (-1000 : Int) ≤ bc (spiOk n m) ((2 : Int) * n) (0 : Int) ∧ bc (spiOk n m) ((2 : Int) * n) (0 : Int) ≤ (1000 : Int))) true false) (bc (!fliB (bc (spiOk n m) ((2 : Int) * n) (0 : Int)) (bc (spiOk n m) (spiL n (tws n m)) [])) (.done (EV.v (Value.bool false)) [] 0) (bc (bc (decide (List.length winL ≤ (1000 : Nat) ∧ AtOk winL ∧ (-1000 : Int) ≤ (4 : Int) ∧ (4 : Int) ≤ (1000 : Int))) true false) (.done (EV.v (Value.bool true)) [] 0) .bad)) .bad) (bc (bc (decide (List.length winL ≤ (1000 : Nat) ∧ AtOk winL ∧ (-1000 : Int) ≤ (4 : Int) ∧ (4 : Int) ≤ (1000 : Int))) true false) (.done (EV.v (Value.bool true)) [] 0) .bad))) (bc (bc (spiOk n m) (0 : Int) (7 : Int) == (0 : Int)) (bc (bc (decide (List.length (bc (spiOk n m) (spiL n (tws n m)) []) ≤ (1000 : Nat) ∧ AtOk (bc (spiOk n m) (spiL n (tws n m)) []) ∧ (-1000 : Int) ≤ bc (spiOk n m) ((2 : Int) * n) (0 : Int) ∧ bc (spiOk n m) ((2 : Int) * n) (0 : Int) ≤ (1000 : Int))) true false) (bc (!fliB (bc (spiOk n m) ((2 : Int) * n) (0 : Int)) (bc (spiOk n m) (spiL n (tws n m)) [])) (.done (EV.v (Value.bool false)) [] 0) (bc (bc (decide (List.length winL ≤ (1000 : Nat) ∧ AtOk winL ∧ (-1000 : Int) ≤ (4 : Int) ∧ (4 : Int) ≤ (1000 : Int))) true false) (.done (EV.v (Value.bool true)) [] 0) .bad)) .bad) (bc (bc (decide (List.length winL ≤ (1000 : Nat) ∧ AtOk winL ∧ (-1000 : Int) ≤ (4 : Int) ∧ (4 : Int) ≤ (1000 : Int))) true false) (.done (EV.v (Value.bool true)) [] 0) .bad))) (bc (bc (spiOk n m) (0 : Int) (7 : Int) == (0 : Int)) (bc (bc (decide (List.length (bc (spiOk n m) (spiL n (tws n m)) []) ≤ (1000 : Nat) ∧ AtOk (bc (spiOk n m) (spiL n (tws n m)) []) ∧ (-1000 : Int) ≤ bc (spiOk n m) ((2 : Int) * n) (0 : Int) ∧ bc (spiOk n m) ((2 : Int) * n) (0 : Int) ≤ (1000 : Int))) true false) (bc (!fliB (bc (spiOk n m) ((2 : Int) * n) (0 : Int)) (bc (spiOk n m) (spiL n (tws n m)) [])) (.done (EV.v (Value.bool false)) [] 0) (bc (bc (decide (List.length winL ≤ (1000 : Nat) ∧ AtOk winL ∧ (-1000 : Int) ≤ (4 : Int) ∧ (4 : Int) ≤ (1000 : Int))) true false) (.done (EV.v (Value.bool true)) [] 0) .bad)) .bad) (bc (bc (decide (List.length winL ≤ (1000 : Nat) ∧ AtOk winL ∧ (-1000 : Int) ≤ (4 : Int) ∧ (4 : Int) ≤ (1000 : Int))) true false) (.done (EV.v (Value.bool true)) [] 0) .bad)))) (bc (footE n m == (0 : Int)) (bc (footE n k == (0 : Int)) (bc (decide (IntKind.wrap IntKind.i64 (Int.ofNat (List.length (footL n m)) + Int.ofNat (List.length (footL n k))) ≤ (400 : Int))) (bc (footE n (IntKind.wrap IntKind.i64 (m + k)) != (0 : Int)) (bc (bc (bc (eqB (footE n (IntKind.wrap IntKind.i64 (m + k)) != (0 : Int)) true) true false) true false) (.done (EV.v (Value.bool false)) [] 0) .bad) (bc (bc (bc (eqB (footE n (IntKind.wrap IntKind.i64 (m + k)) != (0 : Int)) false) (bc (decide (List.length (footL n m) + List.length (footL n k) ≤ (60000 : Nat))) (bc (bc (Nat.ble (List.length (footL n (IntKind.wrap IntKind.i64 (m + k)))) (100000 : Nat)) true false) true false) false) false) (bc (bc (bc (bc (decide (footP n (IntKind.wrap IntKind.i64 (m + k)) = footP n (IntKind.wrap IntKind.i64 (m + k)))) (bc (eqSy (SyC.recs shW (footL n (IntKind.wrap IntKind.i64 (m + k)))) (SyC.recs shW (footL n (IntKind.wrap IntKind.i64 (m + k))))) true false) false) true false) true false) true false) false) (bc (!sameW (footP n (IntKind.wrap IntKind.i64 (m + k))) (footP n m) (footL n (IntKind.wrap IntKind.i64 (m + k))) (footL n m ++ footL n k)) (.done (EV.v (Value.bool false)) [] 0) (bc (bc (spiOk n m) (0 : Int) (7 : Int) == (0 : Int)) (bc (bc (decide (List.length (bc (spiOk n m) (spiL n (tws n m)) []) ≤ (1000 : Nat) ∧ AtOk (bc (spiOk n m) (spiL n (tws n m)) []) ∧ (-1000 : Int) ≤ bc (spiOk n m) ((2 : Int) * n) (0 : Int) ∧ bc (spiOk n m) ((2 : Int) * n) (0 : Int) ≤ (1000 : Int))) true false) (bc (!fliB (bc (spiOk n m) ((2 : Int) * n) (0 : Int)) (bc (spiOk n m) (spiL n (tws n m)) [])) (.done (EV.v (Value.bool false)) [] 0) (bc (bc (decide (List.length winL ≤ (1000 : Nat) ∧ AtOk winL ∧ (-1000 : Int) ≤ (4 : Int) ∧ (4 : Int) ≤ (1000 : Int))) true false) (.done (EV.v (Value.bool true)) [] 0) .bad)) .bad) (bc (bc (decide (List.length winL ≤ (1000 : Nat) ∧ AtOk winL ∧ (-1000 : Int) ≤ (4 : Int) ∧ (4 : Int) ≤ (1000 : Int))) true false) (.done (EV.v (Value.bool true)) [] 0) .bad))) .bad)) (bc (bc (spiOk n m) (0 : Int) (7 : Int) == (0 : Int)) (bc (bc (decide (List.length (bc (spiOk n m) (spiL n (tws n m)) []) ≤ (1000 : Nat) ∧ AtOk (bc (spiOk n m) (spiL n (tws n m)) []) ∧ (-1000 : Int) ≤ bc (spiOk n m) ((2 : Int) * n) (0 : Int) ∧ bc (spiOk n m) ((2 : Int) * n) (0 : Int) ≤ (1000 : Int))) true false) (bc (!fliB (bc (spiOk n m) ((2 : Int) * n) (0 : Int)) (bc (spiOk n m) (spiL n (tws n m)) [])) (.done (EV.v (Value.bool false)) [] 0) (bc (bc (decide (List.length winL ≤ (1000 : Nat) ∧ AtOk winL ∧ (-1000 : Int) ≤ (4 : Int) ∧ (4 : Int) ≤ (1000 : Int))) true false) (.done (EV.v (Value.bool true)) [] 0) .bad)) .bad) (bc (bc (decide (List.length winL ≤ (1000 : Nat) ∧ AtOk winL ∧ (-1000 : Int) ≤ (4 : Int) ∧ (4 : Int) ≤ (1000 : Int))) true false) (.done (EV.v (Value.bool true)) [] 0) .bad))) (bc (bc (spiOk n m) (0 : Int) (7 : Int) == (0 : Int)) (bc (bc (decide (List.length (bc (spiOk n m) (spiL n (tws n m)) []) ≤ (1000 : Nat) ∧ AtOk (bc (spiOk n m) (spiL n (tws n m)) []) ∧ (-1000 : Int) ≤ bc (spiOk n m) ((2 : Int) * n) (0 : Int) ∧ bc (spiOk n m) ((2 : Int) * n) (0 : Int) ≤ (1000 : Int))) true false) (bc (!fliB (bc (spiOk n m) ((2 : Int) * n) (0 : Int)) (bc (spiOk n m) (spiL n (tws n m)) [])) (.done (EV.v (Value.bool false)) [] 0) (bc (bc (decide (List.length winL ≤ (1000 : Nat) ∧ AtOk winL ∧ (-1000 : Int) ≤ (4 : Int) ∧ (4 : Int) ≤ (1000 : Int))) true false) (.done (EV.v (Value.bool true)) [] 0) .bad)) .bad) (bc (bc (decide (List.length winL ≤ (1000 : Nat) ∧ AtOk winL ∧ (-1000 : Int) ≤ (4 : Int) ∧ (4 : Int) ≤ (1000 : Int))) true false) (.done (EV.v (Value.bool true)) [] 0) .bad))) (bc (bc (spiOk n m) (0 : Int) (7 : Int) == (0 : Int)) (bc (bc (decide (List.length (bc (spiOk n m) (spiL n (tws n m)) []) ≤ (1000 : Nat) ∧ AtOk (bc (spiOk n m) (spiL n (tws n m)) []) ∧ (-1000 : Int) ≤ bc (spiOk n m) ((2 : Int) * n) (0 : Int) ∧ bc (spiOk n m) ((2 : Int) * n) (0 : Int) ≤ (1000 : Int))) true false) (bc (!fliB (bc (spiOk n m) ((2 : Int) * n) (0 : Int)) (bc (spiOk n m) (spiL n (tws n m)) [])) (.done (EV.v (Value.bool false)) [] 0) (bc (bc (decide (List.length winL ≤ (1000 : Nat) ∧ AtOk winL ∧ (-1000 : Int) ≤ (4 : Int) ∧ (4 : Int) ≤ (1000 : Int))) true false) (.done (EV.v (Value.bool true)) [] 0) .bad)) .bad) (bc (bc (decide (List.length winL ≤ (1000 : Nat) ∧ AtOk winL ∧ (-1000 : Int) ≤ (4 : Int) ∧ (4 : Int) ≤ (1000 : Int))) true false) (.done (EV.v (Value.bool true)) [] 0) .bad)))) (bc (footE n m == (0 : Int)) (bc (footE n k == (0 : Int)) (bc (decide (IntKind.wrap IntKind.i64 (Int.ofNat (List.length (footL n m)) + Int.ofNat (List.length (footL n k))) ≤ (400 : Int))) (bc (footE n (IntKind.wrap IntKind.i64 (m + k)) != (0 : Int)) (bc (bc (bc (eqB (footE n (IntKind.wrap IntKind.i64 (m + k)) != (0 : Int)) true) true false) true false) (.done (EV.v (Value.bool false)) [] 0) .bad) (bc (bc (bc (eqB (footE n (IntKind.wrap IntKind.i64 (m + k)) != (0 : Int)) false) (bc (decide (List.length (footL n m) + List.length (footL n k) ≤ (60000 : Nat))) (bc (bc (Nat.ble (List.length (footL n (IntKind.wrap IntKind.i64 (m + k)))) (100000 : Nat)) true false) true false) false) false) (bc (bc (bc (bc (decide (footP n (IntKind.wrap IntKind.i64 (m + k)) = footP n (IntKind.wrap IntKind.i64 (m + k)))) (bc (eqSy (SyC.recs shW (footL n (IntKind.wrap IntKind.i64 (m + k)))) (SyC.recs shW (footL n (IntKind.wrap IntKind.i64 (m + k))))) true false) false) true false) true false) true false) false) (bc (!sameW (footP n (IntKind.wrap IntKind.i64 (m + k))) (footP n m) (footL n (IntKind.wrap IntKind.i64 (m + k))) (footL n m ++ footL n k)) (.done (EV.v (Value.bool false)) [] 0) (bc (bc (spiOk n m) (0 : Int) (7 : Int) == (0 : Int)) (bc (bc (decide (List.length (bc (spiOk n m) (spiL n (tws n m)) []) ≤ (1000 : Nat) ∧ AtOk (bc (spiOk n m) (spiL n (tws n m)) []) ∧ (-1000 : Int) ≤ bc (spiOk n m) ((2 : Int) * n) (0 : Int) ∧ bc (spiOk n m) ((2 : Int) * n) (0 : Int) ≤ (1000 : Int))) true false) (bc (!fliB (bc (spiOk n m) ((2 : Int) * n) (0 : Int)) (bc (spiOk n m) (spiL n (tws n m)) [])) (.done (EV.v (Value.bool false)) [] 0) (bc (bc (decide (List.length winL ≤ (1000 : Nat) ∧ AtOk winL ∧ (-1000 : Int) ≤ (4 : Int) ∧ (4 : Int) ≤ (1000 : Int))) true false) (.done (EV.v (Value.bool true)) [] 0) .bad)) .bad) (bc (bc (decide (List.length winL ≤ (1000 : Nat) ∧ AtOk winL ∧ (-1000 : Int) ≤ (4 : Int) ∧ (4 : Int) ≤ (1000 : Int))) true false) (.done (EV.v (Value.bool true)) [] 0) .bad))) .bad)) (bc (bc (spiOk n m) (0 : Int) (7 : Int) == (0 : Int)) (bc (bc (decide (List.length (bc (spiOk n m) (spiL n (tws n m)) []) ≤ (1000 : Nat) ∧ AtOk (bc (spiOk n m) (spiL n (tws n m)) []) ∧ (-1000 : Int) ≤ bc (spiOk n m) ((2 : Int) * n) (0 : Int) ∧ bc (spiOk n m) ((2 : Int) * n) (0 : Int) ≤ (1000 : Int))) true false) (bc (!fliB (bc (spiOk n m) ((2 : Int) * n) (0 : Int)) (bc (spiOk n m) (spiL n (tws n m)) [])) (.done (EV.v (Value.bool false)) [] 0) (bc (bc (decide (List.length winL ≤ (1000 : Nat) ∧ AtOk winL ∧ (-1000 : Int) ≤ (4 : Int) ∧ (4 : Int) ≤ (1000 : Int))) true false) (.done (EV.v (Value.bool true)) [] 0) .bad)) .bad) (bc (bc (decide (List.length winL ≤ (1000 : Nat) ∧ AtOk winL ∧ (-1000 : Int) ≤ (4 : Int) ∧ (4 : Int) ≤ (1000 : Int))) true false) (.done (EV.v (Value.bool true)) [] 0) .bad))) (bc (bc (spiOk n m) (0 : Int) (7 : Int) == (0 : Int)) (bc (bc (decide (List.length (bc (spiOk n m) (spiL n (tws n m)) []) ≤ (1000 : Nat) ∧ AtOk (bc (spiOk n m) (spiL n (tws n m)) []) ∧ (-1000 : Int) ≤ bc (spiOk n m) ((2 : Int) * n) (0 : Int) ∧ bc (spiOk n m) ((2 : Int) * n) (0 : Int) ≤ (1000 : Int))) true false) (bc (!fliB (bc (spiOk n m) ((2 : Int) * n) (0 : Int)) (bc (spiOk n m) (spiL n (tws n m)) [])) (.done (EV.v (Value.bool false)) [] 0) (bc (bc (decide (List.length winL ≤ (1000 : Nat) ∧ AtOk winL ∧ (-1000 : Int) ≤ (4 : Int) ∧ (4 : Int) ≤ (1000 : Int))) true false) (.done (EV.v (Value.bool true)) [] 0) .bad)) .bad) (bc (bc (decide (List.length winL ≤ (1000 : Nat) ∧ AtOk winL ∧ (-1000 : Int) ≤ (4 : Int) ∧ (4 : Int) ≤ (1000 : Int))) true false) (.done (EV.v (Value.bool true)) [] 0) .bad))) (bc (bc (spiOk n m) (0 : Int) (7 : Int) == (0 : Int)) (bc (bc (decide (List.length (bc (spiOk n m) (spiL n (tws n m)) []) ≤ (1000 : Nat) ∧ AtOk (bc (spiOk n m) (spiL n (tws n m)) []) ∧ (-1000 : Int) ≤ bc (spiOk n m) ((2 : Int) * n) (0 : Int) ∧ bc (spiOk n m) ((2 : Int) * n) (0 : Int) ≤ (1000 : Int))) true false) (bc (!fliB (bc (spiOk n m) ((2 : Int) * n) (0 : Int)) (bc (spiOk n m) (spiL n (tws n m)) [])) (.done (EV.v (Value.bool false)) [] 0) (bc (bc (decide (List.length winL ≤ (1000 : Nat) ∧ AtOk winL ∧ (-1000 : Int) ≤ (4 : Int) ∧ (4 : Int) ≤ (1000 : Int))) true false) (.done (EV.v (Value.bool true)) [] 0) .bad)) .bad) (bc (bc (decide (List.length winL ≤ (1000 : Nat) ∧ AtOk winL ∧ (-1000 : Int) ≤ (4 : Int) ∧ (4 : Int) ≤ (1000 : Int))) true false) (.done (EV.v (Value.bool true)) [] 0) .bad)))) := by kernel_rfl
end ATur
theorem plait0 {n : Int} (h : (plaitE n == 0) = true) : 1 ≤ n ∧ n ≤ 100 := by
  unfold plaitE at h
  by_cases h1 : n < 1
  · rw [dt h1, bc_t] at h; cases h
  rw [df h1, bc_f] at h
  by_cases h2 : 100 < n
  · rw [dt h2, bc_t] at h; cases h
  exact ⟨by omega, by omega⟩
theorem plaitV {n : Int} (h : 1 ≤ n ∧ n ≤ 100) : plaitE n = 0 ∧ plaitP n = 2 ∧ plaitL n = List.replicate n.toNat (wk bCT 0) := by
  unfold plaitE plaitP plaitL
  rw [df (show ¬ n < 1 by omega), df (show ¬ 100 < n by omega)]
  exact ⟨rfl, rfl, rfl⟩
theorem turA {n m : Int} (h1 : (plaitE n == 0) = true) (h2 : (plaitE m == 0) = true) (h3 : n + m ≤ 100) : (plaitE (n + m) != 0) = false ∧ (plaitL n).length + (plaitL m).length ≤ 60000 ∧ (plaitL (n + m)).length ≤ 100000 ∧ sameW (plaitP (n + m)) (plaitP n) (plaitL (n + m)) (plaitL n ++ plaitL m) = true := by
  have a := plait0 h1
  have b := plait0 h2
  obtain ⟨_, p1, l1⟩ := plaitV a
  obtain ⟨_, p2, l2⟩ := plaitV b
  obtain ⟨e3, p3, l3⟩ := plaitV (n := n + m) ⟨by omega, h3⟩
  rw [e3, p1, l1, l2, p3, l3, List.length_replicate, List.length_replicate, List.length_replicate, List.replicate_append_replicate, show n.toNat + m.toNat = (n + m).toNat by omega]
  exact ⟨rfl, by omega, by omega, sameW_self _ _⟩
theorem foot0 {n m : Int} (h : (footE n m == 0) = true) : 1 ≤ n ∧ n ≤ 23 ∧ 1 ≤ m ∧ m ≤ Int.tdiv 400 (2 * n + 1) := by
  unfold footE at h
  by_cases h1 : n < 1
  · rw [dt h1, bc_t] at h; cases h
  rw [df h1, bc_f] at h
  by_cases h2 : 23 < n
  · rw [dt h2, bc_t] at h; cases h
  rw [df h2, bc_f] at h
  by_cases h3 : m < 1
  · rw [dt h3, bc_t] at h; cases h
  rw [df h3, bc_f] at h
  by_cases h4 : Int.tdiv 400 (2 * n + 1) < m
  · rw [dt h4, bc_t] at h; cases h
  exact ⟨by omega, by omega, by omega, by omega⟩
theorem footV {n m : Int} (h : 1 ≤ n ∧ n ≤ 23 ∧ 1 ≤ m ∧ m ≤ Int.tdiv 400 (2 * n + 1)) : footE n m = 0 ∧ footP n m = n + 1 ∧ footL n m = footR n.toNat m.toNat := by
  have e : footE n m = 0 := by
    unfold footE
    rw [df (show ¬ n < 1 by omega), df (show ¬ 23 < n by omega), df (show ¬ m < 1 by omega), df (show ¬ Int.tdiv 400 (2 * n + 1) < m by omega)]; rfl
  unfold footP footL
  rw [e]
  exact ⟨rfl, rfl, rfl⟩
theorem footR_len (n : Nat) : ∀ m, (footR n m).length = m * (2 * n + 1)
  | 0 => by rw [Nat.zero_mul]; rfl
  | m + 1 => by
    show (footL1 n ++ footR n m).length = _
    have e : (m + 1) * (2 * n + 1) = m * (2 * n + 1) + (2 * n + 1) := Nat.succ_mul _ _
    rw [List.length_append, footR_len n m, e]
    generalize m * (2 * n + 1) = z
    unfold footL1
    simp only [List.length_append, downR_len, upR_len, List.length_cons, List.length_nil]
    omega
theorem footR_add (n : Nat) : ∀ a b, footR n (a + b) = footR n a ++ footR n b
  | 0, b => by rw [Nat.zero_add]; rfl
  | a + 1, b => by
    rw [Nat.succ_add]
    show footL1 n ++ footR n (a + b) = (footL1 n ++ footR n a) ++ footR n b
    rw [footR_add n a b, List.append_assoc]
theorem turB {n m k : Int} (h1 : (footE n m == 0) = true) (h2 : (footE n k == 0) = true) (h3 : ((footL n m).length : Int) + (footL n k).length ≤ 400) : (footE n (m + k) != 0) = false ∧ (footL n m).length + (footL n k).length ≤ 60000 ∧ (footL n (m + k)).length ≤ 100000 ∧ sameW (footP n (m + k)) (footP n m) (footL n (m + k)) (footL n m ++ footL n k) = true := by
  have a := foot0 h1
  have b := foot0 h2
  obtain ⟨_, p1, l1⟩ := footV a
  obtain ⟨_, p2, l2⟩ := footV b
  obtain ⟨x, rfl⟩ := Int.eq_ofNat_of_zero_le (show 0 ≤ n by omega)
  obtain ⟨y, rfl⟩ := Int.eq_ofNat_of_zero_le (show 0 ≤ m by omega)
  obtain ⟨z, rfl⟩ := Int.eq_ofNat_of_zero_le (show 0 ≤ k by omega)
  rw [l1, l2, Int.toNat_natCast, Int.toNat_natCast, Int.toNat_natCast, footR_len, footR_len] at h3
  have hm : (y + z) * (2 * x + 1) ≤ 400 := by rw [Nat.add_mul]; omega
  have hd : ((y : Int) + z) ≤ Int.tdiv 400 (2 * (x : Int) + 1) := by
    rw [Int.tdiv_eq_ediv_of_nonneg (by omega)]
    refine (Int.le_ediv_iff_mul_le (by omega)).2 ?_
    have : (((y + z) * (2 * x + 1) : Nat) : Int) ≤ 400 := by omega
    rw [Int.natCast_mul] at this
    simpa using this
  obtain ⟨e3, p3, l3⟩ := footV (n := (x : Int)) (m := (y : Int) + z) ⟨a.1, a.2.1, by omega, hd⟩
  have ey : ((y : Int) + z).toNat = y + z := by omega
  rw [e3, p1, p3, l1, l2, l3, Int.toNat_natCast, Int.toNat_natCast, Int.toNat_natCast, ey, footR_add, List.length_append, footR_len, footR_len]
  rw [Nat.add_mul] at hm
  exact ⟨rfl, by omega, by omega, sameW_self _ _⟩
theorem spi0 {n t : Int} (h : spiOk n t = true) : 1 ≤ n ∧ n ≤ 6 ∧ 0 ≤ t ∧ t ≤ 16 := by
  unfold spiOk at h
  by_cases h1 : n < 1
  · rw [dt h1, bc_t] at h; cases h
  rw [df h1, bc_f] at h
  by_cases h2 : 6 < n
  · rw [dt h2, bc_t] at h; cases h
  rw [df h2, bc_f] at h
  by_cases h3 : t < 0
  · rw [dt h3, bc_t] at h; cases h
  rw [df h3, bc_f] at h
  by_cases h4 : 16 < t
  · rw [dt h4, bc_t] at h; cases h
  exact ⟨by omega, by omega, by omega, by omega⟩
theorem turC {n t : Int} (h : spiOk n t = true) : ((spiL n (tws n t)).length ≤ 1000 ∧ AtOk (spiL n (tws n t)) ∧ -1000 ≤ 2 * n ∧ 2 * n ≤ 1000) ∧ fliB (2 * n) (spiL n (tws n t)) = true := by
  obtain ⟨h1, h2, h3, h4⟩ := spi0 h
  obtain ⟨x, rfl⟩ := Int.eq_ofNat_of_zero_le (show 0 ≤ n by omega)
  have hx : x ∈ [1, 2, 3, 4, 5, 6] := by
    have : x = 1 ∨ x = 2 ∨ x = 3 ∨ x = 4 ∨ x = 5 ∨ x = 6 := by omega
    simp only [List.mem_cons, List.not_mem_nil, or_false]
    exact this
  obtain ⟨v, s1, s2⟩ := spi_one hx ⟨h3, h4⟩
  refine ⟨⟨by have := v.len; omega, v.at, by omega, by omega⟩, ?_⟩
  unfold fliB
  rw [s1, s2]
  rfl
theorem winOk : AtOk winL := (chk4_ok (n := 4) (l := winL) (by
  have h : (chk4 4 winL == 0) = true := by kernel_rfl
  simpa using h)).at
namespace ATur
theorem tail (n m : Int) : (bc (bc (spiOk n m) (0 : Int) (7 : Int) == (0 : Int)) (bc (bc (decide (List.length (bc (spiOk n m) (spiL n (tws n m)) []) ≤ (1000 : Nat) ∧ AtOk (bc (spiOk n m) (spiL n (tws n m)) []) ∧ (-1000 : Int) ≤ bc (spiOk n m) ((2 : Int) * n) (0 : Int) ∧ bc (spiOk n m) ((2 : Int) * n) (0 : Int) ≤ (1000 : Int))) true false) (bc (!fliB (bc (spiOk n m) ((2 : Int) * n) (0 : Int)) (bc (spiOk n m) (spiL n (tws n m)) [])) (ZF.done (EV.v (Value.bool false)) [] 0) (bc (bc (decide (List.length winL ≤ (1000 : Nat) ∧ AtOk winL ∧ (-1000 : Int) ≤ (4 : Int) ∧ (4 : Int) ≤ (1000 : Int))) true false) (ZF.done (EV.v (Value.bool true)) [] 0) ZF.bad)) ZF.bad) (bc (bc (decide (List.length winL ≤ (1000 : Nat) ∧ AtOk winL ∧ (-1000 : Int) ≤ (4 : Int) ∧ (4 : Int) ≤ (1000 : Int))) true false) (ZF.done (EV.v (Value.bool true)) [] 0) ZF.bad)) = ZF.done (bv true) [] 0 := by
  have hw : winL.length ≤ 1000 ∧ AtOk winL ∧ (-1000 : Int) ≤ 4 ∧ (4 : Int) ≤ 1000 := ⟨by decide, winOk, by decide, by decide⟩
  rw [dt hw]
  cases h : spiOk n m
  · rfl
  · obtain ⟨c1, c2⟩ := turC h
    have c1' : List.length (bc true (spiL n (tws n m)) []) ≤ 1000 ∧ AtOk (bc true (spiL n (tws n m)) []) ∧ -1000 ≤ bc true (2 * n) 0 ∧ bc true (2 * n) 0 ≤ 1000 := c1
    have c2' : fliB (bc true (2 * n) 0) (bc true (spiL n (tws n m)) []) = true := c2
    rw [dt c1', c2']
    rfl
theorem w_ok {x : Int} (h : -9223372036854775808 ≤ x ∧ x ≤ 9223372036854775807) : IntKind.wrap IntKind.i64 x = x := IntWalk.i64_in _ h
theorem foot_len {n m : Int} (h : (footE n m == 0) = true) : (footL n m).length ≤ 400 ∧ 1 ≤ m ∧ m ≤ 400 := by
  have a := foot0 h
  obtain ⟨_, _, l1⟩ := footV a
  obtain ⟨x, rfl⟩ := Int.eq_ofNat_of_zero_le (show 0 ≤ n by omega)
  obtain ⟨y, rfl⟩ := Int.eq_ofNat_of_zero_le (show 0 ≤ m by omega)
  have hd := a.2.2.2
  rw [Int.tdiv_eq_ediv_of_nonneg (by omega)] at hd
  have hm := (Int.le_ediv_iff_mul_le (by omega)).1 hd
  have hm2 : y * (2 * x + 1) ≤ 400 := by
    have : (((y * (2 * x + 1) : Nat) : Int)) ≤ 400 := by rw [Int.natCast_mul]; simpa using hm
    omega
  rw [l1, Int.toNat_natCast, Int.toNat_natCast, footR_len]
  have hy : y ≤ y * (2 * x + 1) := Nat.le_mul_of_pos_right y (by omega)
  exact ⟨hm2, a.2.2.1, by omega⟩
theorem foot (n m k : Int) : (bc (footE n m == (0 : Int)) (bc (footE n k == (0 : Int)) (bc (decide (IntKind.wrap IntKind.i64 (Int.ofNat (List.length (footL n m)) + Int.ofNat (List.length (footL n k))) ≤ (400 : Int))) (bc (footE n (IntKind.wrap IntKind.i64 (m + k)) != (0 : Int)) (bc (bc (bc (eqB (footE n (IntKind.wrap IntKind.i64 (m + k)) != (0 : Int)) true) true false) true false) (ZF.done (EV.v (Value.bool false)) [] 0) ZF.bad) (bc (bc (bc (eqB (footE n (IntKind.wrap IntKind.i64 (m + k)) != (0 : Int)) false) (bc (decide (List.length (footL n m) + List.length (footL n k) ≤ (60000 : Nat))) (bc (bc (Nat.ble (List.length (footL n (IntKind.wrap IntKind.i64 (m + k)))) (100000 : Nat)) true false) true false) false) false) (bc (bc (bc (bc (decide (footP n (IntKind.wrap IntKind.i64 (m + k)) = footP n (IntKind.wrap IntKind.i64 (m + k)))) (bc (eqSy (SyC.recs shW (footL n (IntKind.wrap IntKind.i64 (m + k)))) (SyC.recs shW (footL n (IntKind.wrap IntKind.i64 (m + k))))) true false) false) true false) true false) true false) false) (bc (!sameW (footP n (IntKind.wrap IntKind.i64 (m + k))) (footP n m) (footL n (IntKind.wrap IntKind.i64 (m + k))) (footL n m ++ footL n k)) (ZF.done (EV.v (Value.bool false)) [] 0) (bc (bc (spiOk n m) (0 : Int) (7 : Int) == (0 : Int)) (bc (bc (decide (List.length (bc (spiOk n m) (spiL n (tws n m)) []) ≤ (1000 : Nat) ∧ AtOk (bc (spiOk n m) (spiL n (tws n m)) []) ∧ (-1000 : Int) ≤ bc (spiOk n m) ((2 : Int) * n) (0 : Int) ∧ bc (spiOk n m) ((2 : Int) * n) (0 : Int) ≤ (1000 : Int))) true false) (bc (!fliB (bc (spiOk n m) ((2 : Int) * n) (0 : Int)) (bc (spiOk n m) (spiL n (tws n m)) [])) (ZF.done (EV.v (Value.bool false)) [] 0) (bc (bc (decide (List.length winL ≤ (1000 : Nat) ∧ AtOk winL ∧ (-1000 : Int) ≤ (4 : Int) ∧ (4 : Int) ≤ (1000 : Int))) true false) (ZF.done (EV.v (Value.bool true)) [] 0) ZF.bad)) ZF.bad) (bc (bc (decide (List.length winL ≤ (1000 : Nat) ∧ AtOk winL ∧ (-1000 : Int) ≤ (4 : Int) ∧ (4 : Int) ≤ (1000 : Int))) true false) (ZF.done (EV.v (Value.bool true)) [] 0) ZF.bad))) ZF.bad)) (bc (bc (spiOk n m) (0 : Int) (7 : Int) == (0 : Int)) (bc (bc (decide (List.length (bc (spiOk n m) (spiL n (tws n m)) []) ≤ (1000 : Nat) ∧ AtOk (bc (spiOk n m) (spiL n (tws n m)) []) ∧ (-1000 : Int) ≤ bc (spiOk n m) ((2 : Int) * n) (0 : Int) ∧ bc (spiOk n m) ((2 : Int) * n) (0 : Int) ≤ (1000 : Int))) true false) (bc (!fliB (bc (spiOk n m) ((2 : Int) * n) (0 : Int)) (bc (spiOk n m) (spiL n (tws n m)) [])) (ZF.done (EV.v (Value.bool false)) [] 0) (bc (bc (decide (List.length winL ≤ (1000 : Nat) ∧ AtOk winL ∧ (-1000 : Int) ≤ (4 : Int) ∧ (4 : Int) ≤ (1000 : Int))) true false) (ZF.done (EV.v (Value.bool true)) [] 0) ZF.bad)) ZF.bad) (bc (bc (decide (List.length winL ≤ (1000 : Nat) ∧ AtOk winL ∧ (-1000 : Int) ≤ (4 : Int) ∧ (4 : Int) ≤ (1000 : Int))) true false) (ZF.done (EV.v (Value.bool true)) [] 0) ZF.bad))) (bc (bc (spiOk n m) (0 : Int) (7 : Int) == (0 : Int)) (bc (bc (decide (List.length (bc (spiOk n m) (spiL n (tws n m)) []) ≤ (1000 : Nat) ∧ AtOk (bc (spiOk n m) (spiL n (tws n m)) []) ∧ (-1000 : Int) ≤ bc (spiOk n m) ((2 : Int) * n) (0 : Int) ∧ bc (spiOk n m) ((2 : Int) * n) (0 : Int) ≤ (1000 : Int))) true false) (bc (!fliB (bc (spiOk n m) ((2 : Int) * n) (0 : Int)) (bc (spiOk n m) (spiL n (tws n m)) [])) (ZF.done (EV.v (Value.bool false)) [] 0) (bc (bc (decide (List.length winL ≤ (1000 : Nat) ∧ AtOk winL ∧ (-1000 : Int) ≤ (4 : Int) ∧ (4 : Int) ≤ (1000 : Int))) true false) (ZF.done (EV.v (Value.bool true)) [] 0) ZF.bad)) ZF.bad) (bc (bc (decide (List.length winL ≤ (1000 : Nat) ∧ AtOk winL ∧ (-1000 : Int) ≤ (4 : Int) ∧ (4 : Int) ≤ (1000 : Int))) true false) (ZF.done (EV.v (Value.bool true)) [] 0) ZF.bad))) (bc (bc (spiOk n m) (0 : Int) (7 : Int) == (0 : Int)) (bc (bc (decide (List.length (bc (spiOk n m) (spiL n (tws n m)) []) ≤ (1000 : Nat) ∧ AtOk (bc (spiOk n m) (spiL n (tws n m)) []) ∧ (-1000 : Int) ≤ bc (spiOk n m) ((2 : Int) * n) (0 : Int) ∧ bc (spiOk n m) ((2 : Int) * n) (0 : Int) ≤ (1000 : Int))) true false) (bc (!fliB (bc (spiOk n m) ((2 : Int) * n) (0 : Int)) (bc (spiOk n m) (spiL n (tws n m)) [])) (ZF.done (EV.v (Value.bool false)) [] 0) (bc (bc (decide (List.length winL ≤ (1000 : Nat) ∧ AtOk winL ∧ (-1000 : Int) ≤ (4 : Int) ∧ (4 : Int) ≤ (1000 : Int))) true false) (ZF.done (EV.v (Value.bool true)) [] 0) ZF.bad)) ZF.bad) (bc (bc (decide (List.length winL ≤ (1000 : Nat) ∧ AtOk winL ∧ (-1000 : Int) ≤ (4 : Int) ∧ (4 : Int) ≤ (1000 : Int))) true false) (ZF.done (EV.v (Value.bool true)) [] 0) ZF.bad))) = ZF.done (bv true) [] 0 := by
  simp only [tail n m]
  cases e1 : (footE n m == 0)
  · rfl
  cases e2 : (footE n k == 0)
  · rfl
  obtain ⟨l1, b1, b2⟩ := foot_len e1
  obtain ⟨l2, b3, b4⟩ := foot_len e2
  have w1 : IntKind.wrap IntKind.i64 (Int.ofNat (footL n m).length + Int.ofNat (footL n k).length) = ((footL n m).length : Int) + (footL n k).length := w_ok (by show -9223372036854775808 ≤ ((footL n m).length : Int) + ((footL n k).length : Int) ∧ ((footL n m).length : Int) + ((footL n k).length : Int) ≤ 9223372036854775807; omega)
  have w2 : IntKind.wrap IntKind.i64 (m + k) = m + k := w_ok (by omega)
  rw [w1]
  by_cases h3 : ((footL n m).length : Int) + (footL n k).length ≤ 400
  · obtain ⟨g1, g2, g3, g4⟩ := turB e1 e2 h3
    simp only [w2, dt h3, g1, dt g2, ble_of g3, g4, eqB, decide_true, eqSy_self, bc_t, bc_f, Bool.not_true]
  · rw [df h3]; rfl
theorem ends (n m k : Int) : EndZ 4 ctTu false (st0 4 [iv n, iv m, iv k]) (bv true) [] 0 := by
  have h := in_t n m k
  rw [foot n m k] at h
  cases e1 : (plaitE n == 0)
  · rw [e1] at h; exact .done h
  cases e2 : (plaitE m == 0)
  · rw [e1, e2] at h; exact .done h
  have a := plait0 e1
  have b := plait0 e2
  have w2 : IntKind.wrap IntKind.i64 (n + m) = n + m := w_ok (by omega)
  rw [e1, e2, w2, bc_t, bc_t] at h
  by_cases h3 : n + m ≤ 100
  · obtain ⟨g1, g2, g3, g4⟩ := turA e1 e2 h3
    simp only [dt h3, g1, dt g2, ble_of g3, g4, eqB, decide_true, eqSy_self, bc_t, bc_f, Bool.not_true] at h
    exact .done h
  · rw [df h3, bc_f] at h
    exact .done h
end ATur
theorem motifsTurn_callsM {γ : G} {w : World} {us : Array Value} (n : Int) (wn : (Lit.int .i64 n).wf = true) (m : Int) (wm : (Lit.int .i64 m).wf = true) (k : Int) (wk : (Lit.int .i64 k).wf = true)
    (hax : ECL γ [iv n, iv m, iv k] us.toList) (hN : ∀ i, γ i = none) (hfz : FzAt γ w) : Calls Try.prog 4 us w fun e w' => e = .returned (.bool true) ∧ Stays w w' := by
  exact law_of ((ATur.ends n m k).calls ctTu_ok (by kernel_rfl) hax hN hfz)
end Go.Proofs.Ythaljeccdeajoaa.EvM
namespace Go.Proofs.Ythaljeccdeajoaa.Ev
open Go.Proofs
theorem motifsTurn_calls {γ : G} {w : World} {us : Array Value} (n : Int) (wn : (Lit.int .i64 n).wf = true) (m : Int) (wm : (Lit.int .i64 m).wf = true) (k : Int) (wk : (Lit.int .i64 k).wf = true)
    (hax : ECL γ [iv n, iv m, iv k] us.toList) (hN : ∀ i, γ i = none) (hfz : FzAt γ w) : Calls Try.prog 4 us w fun e w' => e = .returned (.bool true) ∧ Stays w w' :=
  EvM.motifsTurn_callsM n wn m wm k wk hax hN hfz
end Go.Proofs.Ythaljeccdeajoaa.Ev
namespace Go.Proofs.Ythaljeccdeajoaa
open Go.ChangeShapes Go.WideShapes Go.ChangeAt Go.RowKit Go.ChangeMaps
theorem knobMotifsTurn : ownKnob Try.prog.godebug = none := by kernel_rfl
theorem kidsMotifsTurn : Kids Try.prog (· < Try.prog.types.size) := kids_rows (by kernel_rfl) (by kernel_rfl)
theorem fullMotifsTurn : ∀ t e, t < Try.prog.types.size → Try.prog.underlying t = some (.slice e) → 0 < Try.prog.cellsOf e := slices_full_of Try.prog (by kernel_rfl)
set_option maxRecDepth 100000 in
theorem liftedMotifsTurn (os : Os) (started : os.Started) (H : Type) (enc : TypeId × Value → H) :
    ReturnsInHanded {} Try.checked os 4 .any (Rows.motifsTurnSpec.pre6 enc Try.prog Try.f4 Rows.motifsTurnRow.domain false) (Rows.motifsTurnSpec.post enc Try.prog Try.f4 false true false false) := by
  refine returnsInHanded_of_change (C := Try.checked) knobMotifsTurn started (by kernel_rfl) Try.func4
    (ChangeSpec.witness6 (enc := enc) (C := Try.checked) false ⟨#[], #[.int .i64 0, .int .i64 0, .int .i64 0], []⟩ 8 (by kernel_rfl) (by kernel_rfl) (by kernel_rfl) (by kernel_rfl)) ?_
  intro W base args ds gs before hval0 hW hcnd _
  have hval : ∀ (j : Nat) t v, Try.f4.params[j]? = some t → args[j]? = some v → Value.okWide Try.prog W .any base t v := hval0
  have hW' := hW
  obtain ⟨p, q, hA0, hV, rfl, hfz, hnd⟩ := hW
  have hA : DataW.TrodAll enc Try.prog W 0 (fun _ => true) true Try.f4.params.toList args.toList ds p := hA0
  have hAk := hA
  rw [Try.params4] at hA hval
  obtain ⟨rfl, rfl⟩ := trodVars_none hV
  obtain ⟨v0, v1, v2, d0, d1, d2, p0, p1, p2, rfl, rfl, rfl, h0, h1, h2⟩ := trodAll_three hA
  obtain ⟨n, rfl, rfl, rfl, wn⟩ := open_int Try.underlying3 (hval 0 3 v0 rfl rfl) h0
  obtain ⟨m, rfl, rfl, rfl, wm⟩ := open_int Try.underlying3 (hval 1 3 v1 rfl rfl) h1
  obtain ⟨k, rfl, rfl, rfl, wk⟩ := open_int Try.underlying3 (hval 2 3 v2 rfl rfl) h2
  clear hA0 hval0
  refine (Ev.motifsTurn_calls n wn m wm k wk (γ := Ev.gAll W) (.cons (.v _) (.cons (.v _) (.cons (.v _) (.nil _)))) (fun i => rfl) (Ev.fzAll_at W)).mono fun e W' ⟨he, hg⟩ => ?_
  subst he
  exact ⟨_, rfl, post_law kidsMotifsTurn fullMotifsTurn Try.underlying4 (by kernel_rfl) (by kernel_rfl) rfl rfl (by rw [Try.params4]; decide) hW' hAk hg (ok_one (by kernel_rfl) rfl (okWide_bool_mk Try.underlying4 _))⟩
theorem motifsTurn_holds : Rows.MotifsTurnSaid :=
  OpenClaim.holds_of_wide 4 Try.f4 rfl rfl rfl rfl rfl rfl rfl ⟨rfl, rfl, rfl, rfl, rfl⟩ rfl rfl rfl rfl rfl (by kernel_rfl) Try.func4 (by kernel_rfl)
    (of_decide_eq_true (by kernel_rfl)) (by unfold Func.isWrapper; first | (rw [if_pos (by decide +kernel)]; kernel_rfl) | (rw [if_neg (by decide +kernel)]; exact ⟨rfl, rfl⟩))
    (fun os started H enc _ => liftedMotifsTurn os started H enc)
end Go.Proofs.Ythaljeccdeajoaa
